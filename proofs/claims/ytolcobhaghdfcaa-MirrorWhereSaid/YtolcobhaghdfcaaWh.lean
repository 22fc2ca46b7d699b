/- Contracts of the functions that the law on places reaches. -/
import Derived.Test.YtolcobhaghdfcaaGeom
import Derived.Test.YtolcobhaghdfcaaApp
namespace Go.Proofs.Ytolcobhaghdfcaa
open Sx Go
set_option maxRecDepth 100000
abbrev nilS : AV := .v (.slice none 0 0)
abbrev BA (b : Bool) : AV := .v (.bool b)
theorem getD_app {l q : List Int} {i : Nat} (h : i < l.length) : (l ++ q).getD i 0 = l.getD i 0 := by
  rw [List.getD_eq_getElem?_getD, List.getElem?_append_left h, List.getD_eq_getElem?_getD]
theorem take_ne {l1 l2 : List Int} {i : Nat} (h1 : i < l1.length) (h2 : i < l2.length) (h : l1.getD i 0 ≠ l2.getD i 0) : l1 ≠ l2 := fun e => h (by rw [e])
theorem all_eq {l1 l2 : List Int} (hl : l1.length = l2.length) (h : ∀ i, i < l1.length → l1.getD i 0 = l2.getD i 0) : l1 = l2 := by
  apply List.ext_getElem hl
  intro i h1 h2
  have := h i h1
  simpa [List.getD_eq_getElem?_getD, h1, h2] using this
theorem c43_ss (l1 q1 l2 q2 : List Int) (c1 c2 : Nat) (h1 : l1.length ≤ c1) (h2 : l2.length ≤ c2) (hb : l1.length ≤ 1000000) : ACtr Try.prog 43 3 [.slc 1 0 l1.length c1, .slc 2 0 l2.length c2] [(1, .cells [.run .i64 c1 (l1 ++ q1)] 3), (2, .cells [.run .i64 c2 (l2 ++ q2)] 3)]
    (fun _ : Unit => 0) (fun _ => BA (decide (l1 = l2))) (fun _ => [(1, .cells [.run .i64 c1 (l1 ++ q1)] 3), (2, .cells [.run .i64 c2 (l2 ++ q2)] 3)]) := by
  refine act Try.func43 rfl rfl rfl A43_ok rfl fun F w0 b => ?_
  refine on ?_
  refine ev_ne trivial (fun hl => ?_) (fun hl => ?_) <;> refine on ?_
  · refine retE trivial rfl () [0, 1, 2] rfl rfl rfl rfl ?_ ⟨rfl, rfl, rfl, trivial⟩
    rw [decide_eq_false (fun e => hl (by rw [e]))]; exact ⟨_, rfl, fun _ => rfl⟩
  replace hl : l1.length = l2.length := by omega
  refine ev_loop trivial (ι := Nat) (fun t => t ≤ l1.length ∧ ∀ i, i < t → l1.getD i 0 = l2.getD i 0) (fun t => l1.length - t) (fun t => [(0, .slc 1 0 l1.length c1), (1, .slc 2 0 l2.length c2), (5, IA t)])
    (fun _ => [(0, frm F), (1, .cells [.run .i64 c1 (l1 ++ q1)] 3), (2, .cells [.run .i64 c2 (l2 ++ q2)] 3)]) 3 0 ⟨Nat.zero_le _, fun i h => absurd h (Nat.not_lt_zero _)⟩
    (Fit.of [0, 1, 2] rfl rfl rfl rfl ⟨rfl, rfl, rfl, trivial⟩ ⟨rfl, rfl, rfl, trivial⟩) (fun t ht => ?_)
  refine on ?_
  refine ev_lt trivial (fun h3 => ?_) (fun h3 => ?_) <;> refine on ?_
  · have h3' : t < l1.length := by omega
    refine draw_ok mixed trivial O43_6_ok [(1, _), (2, _)] Q43_6_ok ⟨rfl, rfl, trivial⟩ rfl (fun ρ0 => ?_)
    refine on ?_
    refine ev_ne ?_ (fun h4 => ?_) (fun h4 => ?_)
    · simp; omega
    · refine on ?_
      refine retE trivial rfl () [0, 1, 2] rfl rfl rfl rfl ?_ ⟨rfl, rfl, rfl, trivial⟩
      have h5 : l1.getD t 0 ≠ l2.getD t 0 := by
        have e : ((t : Int)).toNat = t := Int.toNat_natCast t
        rw [e, getD_app h3', getD_app (by omega)] at h4; exact h4
      rw [decide_eq_false (take_ne h3' (by omega) h5)]; exact ⟨_, rfl, fun _ => rfl⟩
    · refine on ?_
      have h5 : l1.getD t 0 = l2.getD t 0 := by
        have e : ((t : Int)).toNat = t := Int.toNat_natCast t
        rw [e, getD_app h3', getD_app (by omega)] at h4; exact h4
      refine ev_lend ⟨trivial, by unfold InR; omega⟩ (t + 1) ⟨h3', fun i hi => ?_⟩ (by omega) (Fit.of [0, 1, 2] rfl rfl rfl rfl ⟨rfl, rfl, rfl, trivial⟩ ⟨rfl, rfl, rfl, trivial⟩)
      by_cases e : i = t
      · rw [e]; exact h5
      · exact ht.2 i (by omega)
  · refine retE trivial rfl () [0, 1, 2] rfl rfl rfl rfl ?_ ⟨rfl, rfl, rfl, trivial⟩
    rw [decide_eq_true (all_eq hl fun i hi => ht.2 i (by omega))]; exact ⟨_, rfl, fun _ => rfl⟩
theorem c43_ns (l q : List Int) (c : Nat) : ACtr Try.prog 43 2 [nilS, .slc 1 0 l.length c] [(1, .cells [.run .i64 c (l ++ q)] 3)] (fun _ : Unit => 0) (fun _ => BA (decide ([] = l))) (fun _ => [(1, .cells [.run .i64 c (l ++ q)] 3)]) := by
  refine act Try.func43 rfl rfl rfl A43_ok rfl fun F w0 b => ?_
  refine on ?_
  refine ev_ne trivial (fun hl => ?_) (fun hl => ?_) <;> refine on ?_
  · refine retE trivial rfl () [0, 1] rfl rfl rfl rfl ?_ ⟨rfl, rfl, trivial⟩
    have : ¬ ([] = l) := fun e => hl (by simp [← e])
    rw [decide_eq_false this]; exact ⟨_, rfl, fun _ => rfl⟩
  have hl0 : [] = l := by
    have : l.length = 0 := by omega
    exact (List.eq_nil_of_length_eq_zero this).symm
  refine ev_loop trivial (ι := Unit) (fun _ => True) (fun _ => 0) (fun _ => [(0, nilS), (1, .slc 1 0 l.length c), (5, IA 0)]) (fun _ => [(0, frm F), (1, .cells [.run .i64 c (l ++ q)] 3)]) 2 () trivial (Fit.of [0, 1] rfl rfl rfl rfl ⟨rfl, rfl, rfl, trivial⟩ ⟨rfl, rfl, trivial⟩) (fun _ _ => ?_)
  refine on ?_
  refine ev_lt trivial (fun h3 => ?_) (fun _ => ?_)
  · exact absurd h3 (by decide)
  refine on ?_
  refine retE trivial rfl () [0, 1] rfl rfl rfl rfl ?_ ⟨rfl, rfl, trivial⟩
  rw [decide_eq_true hl0]; exact ⟨_, rfl, fun _ => rfl⟩
theorem c43_sn (l q : List Int) (c : Nat) : ACtr Try.prog 43 2 [.slc 1 0 l.length c, nilS] [(1, .cells [.run .i64 c (l ++ q)] 3)] (fun _ : Unit => 0) (fun _ => BA (decide (l = []))) (fun _ => [(1, .cells [.run .i64 c (l ++ q)] 3)]) := by
  refine act Try.func43 rfl rfl rfl A43_ok rfl fun F w0 b => ?_
  refine on ?_
  refine ev_ne trivial (fun hl => ?_) (fun hl => ?_) <;> refine on ?_
  · refine retE trivial rfl () [0, 1] rfl rfl rfl rfl ?_ ⟨rfl, rfl, trivial⟩
    have : ¬ (l = []) := fun e => hl (by simp [e])
    rw [decide_eq_false this]; exact ⟨_, rfl, fun _ => rfl⟩
  have hl0 : l = [] := by
    have : l.length = 0 := by omega
    exact List.eq_nil_of_length_eq_zero this
  refine ev_loop trivial (ι := Unit) (fun _ => True) (fun _ => 0) (fun _ => [(0, .slc 1 0 l.length c), (1, nilS), (5, IA 0)]) (fun _ => [(0, frm F), (1, .cells [.run .i64 c (l ++ q)] 3)]) 2 () trivial (Fit.of [0, 1] rfl rfl rfl rfl ⟨rfl, rfl, rfl, trivial⟩ ⟨rfl, rfl, trivial⟩) (fun _ _ => ?_)
  refine on ?_
  refine ev_lt trivial (fun h3 => ?_) (fun _ => ?_)
  · exact absurd h3 (by rw [hl0]; decide)
  refine on ?_
  refine retE trivial rfl () [0, 1] rfl rfl rfl rfl ?_ ⟨rfl, rfl, trivial⟩
  rw [decide_eq_true hl0]; exact ⟨_, rfl, fun _ => rfl⟩
theorem c43_nn  : ACtr Try.prog 43 1 [nilS, nilS] [] (fun _ : Unit => 0) (fun _ => BA (true)) (fun _ => []) := by
  refine act Try.func43 rfl rfl rfl A43_ok rfl fun F w0 b => ?_
  refine on ?_
  refine ev_ne trivial (fun hl => ?_) (fun hl => ?_) <;> refine on ?_
  · exact absurd rfl hl
  refine ev_loop trivial (ι := Unit) (fun _ => True) (fun _ => 0) (fun _ => [(0, nilS), (1, nilS), (5, IA 0)]) (fun _ => [(0, frm F)]) 1 () trivial (Fit.of [0] rfl rfl rfl rfl ⟨rfl, rfl, rfl, trivial⟩ ⟨rfl, trivial⟩) (fun _ _ => ?_)
  refine on ?_
  refine ev_lt trivial (fun h3 => ?_) (fun _ => ?_)
  · exact absurd h3 (by decide)
  refine on ?_
  refine retE trivial rfl () [0] rfl rfl rfl rfl ?_ ⟨rfl, trivial⟩
  exact ⟨_, rfl, fun _ => rfl⟩
theorem c14_ss (l1 q1 l2 q2 : List Int) (c1 c2 : Nat) (h1 : l1.length ≤ c1) (h2 : l2.length ≤ c2) (hb : l1.length ≤ 1000000) : ACtr Try.prog 14 3 [.slc 1 0 l1.length c1, .slc 2 0 l2.length c2] [(1, .cells [.run .i64 c1 (l1 ++ q1)] 3), (2, .cells [.run .i64 c2 (l2 ++ q2)] 3)]
    (fun _ : Unit => 0) (fun _ => BA (decide (l1 = l2))) (fun _ => [(1, .cells [.run .i64 c1 (l1 ++ q1)] 3), (2, .cells [.run .i64 c2 (l2 ++ q2)] 3)]) := by
  refine act Try.func14 rfl rfl rfl A14_ok rfl fun F w0 b => ?_
  refine on ?_
  refine ev_ne trivial (fun hl => ?_) (fun hl => ?_) <;> refine on ?_
  · refine retE trivial rfl () [0, 1, 2] rfl rfl rfl rfl ?_ ⟨rfl, rfl, rfl, trivial⟩
    rw [decide_eq_false (fun e => hl (by rw [e]))]; exact ⟨_, rfl, fun _ => rfl⟩
  replace hl : l1.length = l2.length := by omega
  refine ev_loop trivial (ι := Nat) (fun t => t ≤ l1.length ∧ ∀ i, i < t → l1.getD i 0 = l2.getD i 0) (fun t => l1.length - t) (fun t => [(0, .slc 1 0 l1.length c1), (1, .slc 2 0 l2.length c2), (5, IA t)])
    (fun _ => [(0, frm F), (1, .cells [.run .i64 c1 (l1 ++ q1)] 3), (2, .cells [.run .i64 c2 (l2 ++ q2)] 3)]) 3 0 ⟨Nat.zero_le _, fun i h => absurd h (Nat.not_lt_zero _)⟩
    (Fit.of [0, 1, 2] rfl rfl rfl rfl ⟨rfl, rfl, rfl, trivial⟩ ⟨rfl, rfl, rfl, trivial⟩) (fun t ht => ?_)
  refine on ?_
  refine ev_lt trivial (fun h3 => ?_) (fun h3 => ?_) <;> refine on ?_
  · have h3' : t < l1.length := by omega
    refine draw_ok mixed trivial O14_6_ok [(1, _), (2, _)] Q14_6_ok ⟨rfl, rfl, trivial⟩ rfl (fun ρ0 => ?_)
    refine on ?_
    refine ev_ne ?_ (fun h4 => ?_) (fun h4 => ?_)
    · simp; omega
    · refine on ?_
      refine retE trivial rfl () [0, 1, 2] rfl rfl rfl rfl ?_ ⟨rfl, rfl, rfl, trivial⟩
      have h5 : l1.getD t 0 ≠ l2.getD t 0 := by
        have e : ((t : Int)).toNat = t := Int.toNat_natCast t
        rw [e, getD_app h3', getD_app (by omega)] at h4; exact h4
      rw [decide_eq_false (take_ne h3' (by omega) h5)]; exact ⟨_, rfl, fun _ => rfl⟩
    · refine on ?_
      have h5 : l1.getD t 0 = l2.getD t 0 := by
        have e : ((t : Int)).toNat = t := Int.toNat_natCast t
        rw [e, getD_app h3', getD_app (by omega)] at h4; exact h4
      refine ev_lend ⟨trivial, by unfold InR; omega⟩ (t + 1) ⟨h3', fun i hi => ?_⟩ (by omega) (Fit.of [0, 1, 2] rfl rfl rfl rfl ⟨rfl, rfl, rfl, trivial⟩ ⟨rfl, rfl, rfl, trivial⟩)
      by_cases e : i = t
      · rw [e]; exact h5
      · exact ht.2 i (by omega)
  · refine retE trivial rfl () [0, 1, 2] rfl rfl rfl rfl ?_ ⟨rfl, rfl, rfl, trivial⟩
    rw [decide_eq_true (all_eq hl fun i hi => ht.2 i (by omega))]; exact ⟨_, rfl, fun _ => rfl⟩
theorem c14_ns (l q : List Int) (c : Nat) : ACtr Try.prog 14 2 [nilS, .slc 1 0 l.length c] [(1, .cells [.run .i64 c (l ++ q)] 3)] (fun _ : Unit => 0) (fun _ => BA (decide ([] = l))) (fun _ => [(1, .cells [.run .i64 c (l ++ q)] 3)]) := by
  refine act Try.func14 rfl rfl rfl A14_ok rfl fun F w0 b => ?_
  refine on ?_
  refine ev_ne trivial (fun hl => ?_) (fun hl => ?_) <;> refine on ?_
  · refine retE trivial rfl () [0, 1] rfl rfl rfl rfl ?_ ⟨rfl, rfl, trivial⟩
    have : ¬ ([] = l) := fun e => hl (by simp [← e])
    rw [decide_eq_false this]; exact ⟨_, rfl, fun _ => rfl⟩
  have hl0 : [] = l := by
    have : l.length = 0 := by omega
    exact (List.eq_nil_of_length_eq_zero this).symm
  refine ev_loop trivial (ι := Unit) (fun _ => True) (fun _ => 0) (fun _ => [(0, nilS), (1, .slc 1 0 l.length c), (5, IA 0)]) (fun _ => [(0, frm F), (1, .cells [.run .i64 c (l ++ q)] 3)]) 2 () trivial (Fit.of [0, 1] rfl rfl rfl rfl ⟨rfl, rfl, rfl, trivial⟩ ⟨rfl, rfl, trivial⟩) (fun _ _ => ?_)
  refine on ?_
  refine ev_lt trivial (fun h3 => ?_) (fun _ => ?_)
  · exact absurd h3 (by decide)
  refine on ?_
  refine retE trivial rfl () [0, 1] rfl rfl rfl rfl ?_ ⟨rfl, rfl, trivial⟩
  rw [decide_eq_true hl0]; exact ⟨_, rfl, fun _ => rfl⟩
theorem c14_sn (l q : List Int) (c : Nat) : ACtr Try.prog 14 2 [.slc 1 0 l.length c, nilS] [(1, .cells [.run .i64 c (l ++ q)] 3)] (fun _ : Unit => 0) (fun _ => BA (decide (l = []))) (fun _ => [(1, .cells [.run .i64 c (l ++ q)] 3)]) := by
  refine act Try.func14 rfl rfl rfl A14_ok rfl fun F w0 b => ?_
  refine on ?_
  refine ev_ne trivial (fun hl => ?_) (fun hl => ?_) <;> refine on ?_
  · refine retE trivial rfl () [0, 1] rfl rfl rfl rfl ?_ ⟨rfl, rfl, trivial⟩
    have : ¬ (l = []) := fun e => hl (by simp [e])
    rw [decide_eq_false this]; exact ⟨_, rfl, fun _ => rfl⟩
  have hl0 : l = [] := by
    have : l.length = 0 := by omega
    exact List.eq_nil_of_length_eq_zero this
  refine ev_loop trivial (ι := Unit) (fun _ => True) (fun _ => 0) (fun _ => [(0, .slc 1 0 l.length c), (1, nilS), (5, IA 0)]) (fun _ => [(0, frm F), (1, .cells [.run .i64 c (l ++ q)] 3)]) 2 () trivial (Fit.of [0, 1] rfl rfl rfl rfl ⟨rfl, rfl, rfl, trivial⟩ ⟨rfl, rfl, trivial⟩) (fun _ _ => ?_)
  refine on ?_
  refine ev_lt trivial (fun h3 => ?_) (fun _ => ?_)
  · exact absurd h3 (by rw [hl0]; decide)
  refine on ?_
  refine retE trivial rfl () [0, 1] rfl rfl rfl rfl ?_ ⟨rfl, rfl, trivial⟩
  rw [decide_eq_true hl0]; exact ⟨_, rfl, fun _ => rfl⟩
theorem c14_nn  : ACtr Try.prog 14 1 [nilS, nilS] [] (fun _ : Unit => 0) (fun _ => BA (true)) (fun _ => []) := by
  refine act Try.func14 rfl rfl rfl A14_ok rfl fun F w0 b => ?_
  refine on ?_
  refine ev_ne trivial (fun hl => ?_) (fun hl => ?_) <;> refine on ?_
  · exact absurd rfl hl
  refine ev_loop trivial (ι := Unit) (fun _ => True) (fun _ => 0) (fun _ => [(0, nilS), (1, nilS), (5, IA 0)]) (fun _ => [(0, frm F)]) 1 () trivial (Fit.of [0] rfl rfl rfl rfl ⟨rfl, rfl, rfl, trivial⟩ ⟨rfl, trivial⟩) (fun _ _ => ?_)
  refine on ?_
  refine ev_lt trivial (fun h3 => ?_) (fun _ => ?_)
  · exact absurd h3 (by decide)
  refine on ?_
  refine retE trivial rfl () [0] rfl rfl rfl rfl ?_ ⟨rfl, trivial⟩
  exact ⟨_, rfl, fun _ => rfl⟩
end Go.Proofs.Ytolcobhaghdfcaa
