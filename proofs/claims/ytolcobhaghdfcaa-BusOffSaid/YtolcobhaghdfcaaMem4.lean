/- Contracts of package member: Set, Mark, Back. -/
import Derived.Test.YtolcobhaghdfcaaMem3
import Derived.Test.YtolcobhaghdfcaaSto
namespace Go.Proofs.Ytolcobhaghdfcaa
open Sx Go
set_option maxRecDepth 100000
abbrev WA (w : Wr) : AV := .agg [IA w.at_, .run .u8 64 w.s]
def boxI (bx : Nat) (i : Int) : HProp := ptC bx [IA i] 3
theorem encW_len {l : List Wr} (h : ∀ w ∈ l, w.ok) : (encW l).length = l.length * 65 := by
  induction l with
  | nil => rfl
  | cons w r ih =>
    have hw : w.enc.length = 65 := by simp [Wr.enc]; exact h w (by simp)
    have := ih fun w hw => h w (by simp [hw])
    simp only [encW, List.flatMap_cons, List.length_append, List.length_cons] at this ⊢
    rw [hw]; omega
theorem ptC_emp {b : Nat} {cs : List AV} {T : TypeId} {h : Hp} (H : star (ptC b cs T) (starL []) h) : ptC b cs T h := by
  obtain ⟨p, q, _, lp, _, ⟨vs, h1, h2⟩, _⟩ := H
  exact ⟨vs, h1, lp _ _ h2⟩
theorem c105 (w : Wr) (hw : w.ok) (bx : Nat) (i : Int) : ACtr Try.prog 105 2 [WA w, PA bx] [(1, frm (boxI bx i))] (fun _ : Unit => 0) (fun _ => BA (decide (w.at_ = i))) (fun _ => [(1, frm (boxI bx i))]) := by
  refine act Try.func105 rfl rfl rfl A105_ok rfl fun F w0 bb => ?_
  refine enter (X := Unit) (ok := fun _ => True) (cs := fun _ => [IA i]) (T := 3) (Rs := fun _ => []) 1 1 0 rfl rfl rfl (fun _ => rfl) (fun h hh => ⟨(), trivial, star_emp hh⟩) (fun _ => trivial) fun _ _ => ?_
  refine on ?_
  refine ret_in trivial ?_
  refine leave 1 2 3 [] (A := boxI bx i) (Rs := []) rfl rfl trivial ⟨_, rfl⟩ rfl rfl rfl rfl rfl trivial (fun h hh => ptC_emp hh) ?_
  refine ret_out ?_
  refine retE trivial rfl () [0, 1] rfl rfl rfl rfl ⟨_, rfl, fun ρ => rfl⟩ ⟨rfl, rfl, trivial⟩
def fwI (kb : Wr → Bool) (l : List Wr) : Int := if l.findIdx kb < l.length then (l.findIdx kb : Nat) else -1
theorem c141 (l : List Wr) (hl : ∀ w ∈ l, w.ok) (a : Option Addr) (n cap : Nat) (hn : n = l.length) (hlen : n ≤ 1000000) (g : Nat) (caps : List AV) (X R : HProp) (kb : Wr → Bool) (hcaps : ∀ π, AV.rens π caps = some caps) (hR : ∀ h, R h → rdA a (encW l) h)
    (hk : ∀ w ∈ l, ACtr Try.prog g 2 (WA w :: caps) [(1, frm X)] (fun _ : Unit => 0) (fun _ => BA (kb w)) (fun _ => [(1, frm X)])) :
    ACtr Try.prog 141 3 [SA a n cap, .fn (.func g) [] caps] [(1, frm R), (2, frm X)] (fun _ : Unit => 0) (fun _ => IA (fwI kb l)) (fun _ => [(1, frm R), (2, frm X)]) := by
  subst hn
  refine act Try.func141 rfl rfl rfl A141_ok rfl fun F w0 bb => ?_
  refine pureF 1 rfl rfl (q := 0 < l.length → ∃ ad, a = some ad) (fun h hh hn => rdA_some (hR h hh) (by rw [encW_len hl]; omega)) fun hla => ?_
  refine on ?_
  refine ev_loop trivial (ι := Nat) (fun t => t ≤ l.length ∧ ∀ j (h : j < l.length), j < t → kb l[j] = false) (fun t => l.length - t) (fun t => [(0, SA a l.length cap), (1, .fn (.func g) [] caps), (6, SA a l.length cap), (7, IA l.length), (8, IA t)])
    (fun t => [(0, frm F), (1, frm R), (2, frm X)]) 3 0 ⟨Nat.zero_le _, fun j h hj => absurd hj (by omega)⟩
    (Fit.of [0, 1, 2] rfl rfl rfl rfl ⟨rfl, fitfn (renfn hcaps _) rfl, rfl, rfl, rfl, trivial⟩ ⟨rfl, rfl, rfl, trivial⟩) (fun t ht => ?_)
  refine on ?_
  refine ev_lt trivial (fun h3 => ?_) (fun h3 => ?_)
  · have h3' : t < l.length := by omega
    obtain ⟨ad, rfl⟩ := hla (by omega)
    have hw := hl l[t] (List.getElem_mem h3')
    refine on ?_
    refine ev_ldN tbl_ok ⟨trivial, by omega, h3⟩ 1 rfl rfl rfl (WA l[t]) (us := (l[t]).enc) ?_ ?_ (fun h hh => ?_) trivial ?_
    · simp [AV.ev, AV.evc, AV.ev1, Wr.enc]; exact hw
    · simp [Wr.enc]; exact hw
    · rw [show ((t : Int)).toNat = t from Int.toNat_natCast t]
      exact rd_at (hR h hh) rfl _ fun j u hj => encW_get hl h3' hj
    refine on ?_
    refine call_ab trivial (hk l[t] (List.getElem_mem h3')) [2] rfl rfl rfl rfl (rens_cons rfl (hcaps _)) ⟨rfl, trivial⟩ (fun _ => rfl) (fun _ => rfl) (fun _ => trivial) (fun _ => ?_)
    refine on ?_
    refine ev_br trivial (fun h4 => ?_) (fun h4 => ?_) <;> refine on ?_
    · refine retE trivial rfl () [0, 1, 2] rfl rfl rfl rfl ⟨_, rfl, fun ρ => ?_⟩ ⟨rfl, rfl, rfl, trivial⟩
      have e : l.findIdx kb = t := (List.findIdx_eq h3').2 ⟨h4, fun j hj => ht.2 j (by omega) hj⟩
      rw [fwI, e, if_pos h3']; rfl
    · refine ev_lend ⟨trivial, by unfold InR; omega⟩ (t + 1) ⟨h3', fun j h hj => ?_⟩ (by omega) (Fit.of [0, 1, 2] rfl rfl rfl rfl ⟨rfl, fitfn (renfn hcaps _) rfl, rfl, rfl, rfl, trivial⟩ ⟨rfl, rfl, rfl, trivial⟩)
      rcases Nat.lt_succ_iff_lt_or_eq.1 hj with hj | rfl
      · exact ht.2 j h hj
      · exact h4
  · refine on ?_
    refine retE trivial rfl () [0, 1, 2] rfl rfl rfl rfl ⟨_, rfl, fun ρ => ?_⟩ ⟨rfl, rfl, rfl, trivial⟩
    have e : ¬ l.findIdx kb < l.length := fun h => by
      have := ht.2 _ h (by omega)
      rw [List.findIdx_getElem (w := h)] at this; cases this
    rw [fwI, if_neg e]; rfl
theorem ownH_cap {E sz n cap : Nat} {a : Option Addr} {xs : List Value} {h : Hp} (H : ownH E sz a n cap xs h) : n ≤ cap ∧ cap ≤ maxLen := by
  obtain ⟨_, ⟨_, rfl, rfl⟩ | ⟨g, cur, _, _, h3, h4, _⟩⟩ := H
  · exact ⟨Nat.le_refl _, by decide⟩
  · exact ⟨h3, h4⟩
theorem addZ (a : Option Addr) (n : Nat) (c : Prop) [Decidable c] (hn : n = 0) : (if c then a else a.map (·.add n)) = a := by
  subst hn
  split
  · rfl
  · cases a <;> simp [Addr.add]
theorem encW_app (a b : List Wr) : encW (a ++ b) = encW a ++ encW b := by simp [encW]
theorem encW_put {p r : List Wr} {q w : Wr} (hp : ∀ w ∈ p, w.ok) (hq : q.ok) : (encW (p ++ q :: r)).take (p.length * 65) ++ w.enc ++ (encW (p ++ q :: r)).drop (p.length * 65 + 65) = encW (p ++ w :: r) := by
  have h1 := encW_len hp
  have h2 : q.enc.length = 65 := by simp [Wr.enc]; exact hq
  rw [encW_app, ← h1, List.take_left, show (encW p).length + 65 = (encW p).length + q.enc.length by rw [h2]]
  have h3 : encW (q :: r) = q.enc ++ encW r := rfl
  have h4 : encW (w :: r) = w.enc ++ encW r := rfl
  rw [encW_app, h3, h4, ← List.drop_drop, List.drop_left, List.drop_left, List.append_assoc]
theorem one145 : ∀ i z, Try.prog.info? 145 = some i → i.zero = some z → ∀ u ∈ z.cells.toList, u.oneCell' = true := fun i z hi hz => by
  have h : ((Try.prog.info? 145).bind fun i => i.zero.map fun z => z.cells.toList.all Value.oneCell') = some true := by kernel_rfl
  rw [hi, Option.bind_some, hz, Option.map_some, Option.some.injEq, List.all_eq_true] at h
  exact h
theorem WA_one (w : Wr) : ∀ u ∈ w.enc, u.oneCell' = true := fun u hu => by
  rcases List.mem_cons.1 hu with rfl | hu
  · rfl
  · exact ints_one _ _ u hu
theorem c104 (l : List Wr) (hl : ∀ w ∈ l, w.ok) (a : Option Addr) (cap : Nat) (hlen : l.length ≤ 1000000) (g : Nat) (caps : List AV) (X : HProp) (kb : Wr → Bool) (hcaps : ∀ π, AV.rens π caps = some caps)
    (hk : ∀ w ∈ l, ACtr Try.prog g 2 (WA w :: caps) [(1, frm X)] (fun _ : Unit => 0) (fun _ => BA (kb w)) (fun _ => [(1, frm X)])) :
    ACtr Try.prog 104 3 [SA a l.length cap, .fn (.func g) [] caps] [(1, frm (ownH 145 65 a l.length cap (encW l))), (2, frm X)] (fun _ : Unit => 0) (fun _ => SA a (l.filter fun w => !kb w).length cap) (fun _ => [(1, frm (ownH 145 65 a (l.filter fun w => !kb w).length cap (encW (l.filter fun w => !kb w)))), (2, frm X)]) := by
  refine act Try.func104 rfl rfl rfl A104_ok rfl fun F w0 bb => ?_
  refine pureF 1 rfl rfl (q := 0 < l.length → ∃ ad, a = some ad) (fun h hh hn => ownH_some hh hn) fun hla => ?_
  refine pureF 1 rfl rfl (q := l.length ≤ cap ∧ cap ≤ maxLen) (fun h hh => ownH_cap hh) fun hcap => ?_
  refine on ?_
  refine call_ab trivial (c141 l hl a l.length cap rfl hlen g caps X _ kb hcaps (fun h hh => ownH_rd hh) hk) [1, 2] rfl rfl rfl rfl (rens_cons rfl (rens_cons (renfn hcaps _) rfl)) ⟨rfl, rfl, trivial⟩ (fun _ => rfl) (fun _ => rfl) (fun _ => trivial) (fun _ => ?_)
  refine on ?_
  refine ev_lt trivial (fun h1 => ?_) (fun h1 => ?_)
  · have hno : ∀ w ∈ l, kb w = false := fun w hw => by
      have h2 : ¬ l.findIdx kb < l.length := fun h => by rw [fwI, if_pos h] at h1; omega
      cases hb : kb w with
      | false => rfl
      | true => exact absurd (List.findIdx_lt_length.2 ⟨w, hw, hb⟩) h2
    have hf : (l.filter fun w => !kb w) = l := List.filter_eq_self.2 fun w hw => by rw [hno w hw]; rfl
    rw [hf]
    refine on ?_
    exact retE trivial rfl () [0, 1, 2] rfl rfl rfl rfl ⟨_, rfl, fun ρ => rfl⟩ ⟨rfl, rfl, rfl, trivial⟩
  · have h2 : l.findIdx kb < l.length := by
      rcases Nat.lt_or_ge (l.findIdx kb) l.length with h | h
      · exact h
      · rw [fwI, if_neg (by omega)] at h1; exact absurd rfl h1
    obtain ⟨i0, hi0⟩ : ∃ i0, l.findIdx kb = i0 := ⟨_, rfl⟩
    have e0 : fwI kb l = (i0 : Int) := by rw [fwI, if_pos h2, hi0]
    rw [e0]
    rw [hi0] at h2
    have hpre : (l.take i0).filter (fun w => !kb w) = l.take i0 := List.filter_eq_self.2 fun w hw => by
      obtain ⟨j, hj, rfl⟩ := List.getElem_of_mem hw
      have hj' : j < l.findIdx kb := by rw [hi0]; simp at hj; omega
      have := List.not_of_lt_findIdx hj'
      rw [List.getElem_take]; simp [this]
    obtain ⟨ad, rfl⟩ := hla (by omega)
    refine on ?_
    have hst : (l.take (i0 + 1)).filter (fun w => !kb w) = l.take i0 := by
      have : kb l[i0] = true := by
        have := List.findIdx_getElem (p := kb) (xs := l) (w := by rw [hi0]; exact h2)
        simpa [hi0] using this
      rw [List.take_add_one, List.getElem?_eq_getElem h2, List.filter_append, hpre]; simp [this]
    refine ev_loop ⟨trivial, by unfold InR; omega⟩ (ι := Nat × List Wr) (fun t => t.1 ≤ l.length ∧ ((l.take t.1).filter fun w => !kb w).length + t.2.length = t.1 ∧ t.2 ≠ [] ∧ ∀ w ∈ t.2, w.ok) (fun t => l.length - t.1)
      (fun t => [(0, SA (some ad) l.length cap), (1, .fn (.func g) [] caps), (5, IA ((l.take t.1).filter fun w => !kb w).length), (6, IA t.1)])
      (fun t => [(0, frm F), (1, frm (ownH 145 65 (some ad) l.length cap (encW ((l.take t.1).filter (fun w => !kb w) ++ (t.2 ++ l.drop t.1))))), (2, frm X)]) 3 (i0 + 1, [l[i0]])
      ⟨h2, by rw [hst]; simp; omega, by simp, fun w hw => by simp only [List.mem_singleton] at hw; subst hw; exact hl _ (List.getElem_mem h2)⟩
      (Fit.of [0, 1, 2] rfl rfl rfl rfl ⟨rfl, fitfn (renfn hcaps _) rfl, ?_, rfl, trivial⟩ ⟨rfl, ?_, rfl, trivial⟩) (fun t ht => ?_)
    · dsimp only
      rw [hst, List.length_take, Nat.min_eq_left (Nat.le_of_lt h2)]; rfl
    · dsimp only
      rw [hst]
      have : l.take i0 ++ ([l[i0]] ++ l.drop (i0 + 1)) = l := by
        simp
      rw [this]; rfl
    obtain ⟨j, mid⟩ := t
    obtain ⟨hj, hlen2, hmid, hmok⟩ := ht
    dsimp only at hj hlen2 hmid hmok
    refine on ?_
    refine ev_lt trivial (fun h3 => ?_) (fun h3 => ?_)
    · have h3' : j < l.length := by dsimp only at h3; omega
      obtain ⟨kp, hkp⟩ : ∃ kp, (l.take j).filter (fun w => !kb w) = kp := ⟨_, rfl⟩
      have hAl : (kp ++ (mid ++ l.drop j)).length = l.length := by
        rw [hkp] at hlen2
        simp only [List.length_append, List.length_drop]; omega
      have hkok : ∀ w ∈ kp, w.ok := fun w hw => by
        rw [← hkp] at hw
        exact hl w (List.mem_of_mem_take (List.mem_filter.1 hw).1)
      have hAok : ∀ w ∈ kp ++ (mid ++ l.drop j), w.ok := fun w hw => by
        rcases List.mem_append.1 hw with hw | hw
        · exact hkok w hw
        rcases List.mem_append.1 hw with hw | hw
        · exact hmok w hw
        · exact hl w (List.mem_of_mem_drop hw)
      have hAj : (kp ++ (mid ++ l.drop j))[j]'(by rw [hAl]; exact h3') = l[j] := by
        rw [hkp] at hlen2
        rw [List.getElem_append_right (by omega), List.getElem_append_right (by omega), List.getElem_drop]
        congr 1; omega
      have hnext : (l.take (j + 1)).filter (fun w => !kb w) = if kb l[j] then kp else kp ++ [l[j]] := by
        rw [List.take_add_one, List.getElem?_eq_getElem h3', List.filter_append, hkp]
        cases hb : kb l[j] <;> simp [hb]
      have hdr : l.drop j = l[j] :: l.drop (j + 1) := List.drop_eq_getElem_cons h3'
      have hw := hl l[j] (List.getElem_mem h3')
      rw [hkp] at hlen2
      refine on ?_
      refine ev_ldN tbl_ok ⟨trivial, by dsimp only; omega, h3⟩ 1 rfl rfl rfl (WA l[j]) (us := (l[j]).enc) ?_ ?_ (fun h hh => ?_) trivial ?_
      · simp [AV.ev, AV.evc, AV.ev1, Wr.enc]; exact hw
      · simp [Wr.enc]; exact hw
      · dsimp only at hh ⊢
        rw [hkp] at hh
        rw [show ((j : Int)).toNat = j from Int.toNat_natCast j]
        refine rd_at (ownH_rd hh) rfl _ fun q u hq => encW_get hAok (by rw [hAl]; exact h3') ?_
        rw [hAj]; exact hq
      refine on ?_
      refine call_ab trivial (hk l[j] (List.getElem_mem h3')) [2] rfl rfl rfl rfl (rens_cons rfl (hcaps _)) ⟨rfl, trivial⟩ (fun _ => rfl) (fun _ => rfl) (fun _ => trivial) (fun _ => ?_)
      refine on ?_
      refine ev_br trivial (fun h4 => ?_) (fun h4 => ?_)
      · refine on ?_
        have h4' : kb l[j] = false := by simpa using h4
        obtain ⟨q, mr, rfl⟩ : ∃ q mr, mid = q :: mr := by
          cases mid with
          | nil => exact absurd rfl hmid
          | cons q mr => exact ⟨q, mr, rfl⟩
        have hmr := hlen2
        simp only [List.length_cons] at hmr
        refine ev_stA tbl_ok ⟨trivial, by dsimp only; omega, by dsimp only; rw [hkp]; omega⟩ 1 rfl rfl (sz := 65) (l := l.length) (xs := encW ((l.take j).filter (fun w => !kb w) ++ (q :: mr ++ l.drop j))) (E := 145) (cap := cap) (off := kp.length * 65) ?_ rfl (v := WA l[j]) (us := (l[j]).enc) (y := .agg (l[j]).enc.toArray) ?_ rfl ?_ (WA_one _) ?_ trivial ?_ (by decide)
        · dsimp only; rw [hkp, Int.toNat_natCast]; rfl
        · simp [AV.ev, AV.evc, AV.ev1, Wr.enc]; exact hw
        · simp [Wr.enc]; exact hw
        · omega
        rw [hkp, List.cons_append, encW_put (w := l[j]) hkok (hmok q (by simp))]
        refine on ?_
        refine ev_lend ⟨⟨trivial, by unfold InR; omega⟩, by unfold InR; dsimp only; omega⟩ (j + 1, mr ++ [l[j]]) ⟨h3', by dsimp only; rw [hnext, h4']; simp; omega, by simp, fun w hw2 => ?_⟩ (by dsimp only; omega) (Fit.of [0, 1, 2] rfl rfl rfl rfl ⟨rfl, fitfn (renfn hcaps _) rfl, ?_, rfl, trivial⟩ ⟨rfl, ?_, rfl, trivial⟩)
        · rcases List.mem_append.1 hw2 with h | h
          · exact hmok w (by simp [h])
          · simp only [List.mem_singleton] at h; subst h; exact hw
        · dsimp only; rw [hnext, h4']; simp only [Bool.false_eq_true, if_false, List.length_append, List.length_singleton]; rfl
        · dsimp only; rw [hnext, h4', hdr]; simp only [Bool.false_eq_true, if_false, List.append_assoc, List.singleton_append]; rfl
      · refine on ?_
        have h4' : kb l[j] = true := by simpa using h4
        refine ev_lend ⟨trivial, by unfold InR; dsimp only; omega⟩ (j + 1, mid ++ [l[j]]) ⟨h3', by dsimp only; rw [hnext, h4']; simp; omega, by simp, fun w hw2 => ?_⟩ (by dsimp only; omega) (Fit.of [0, 1, 2] rfl rfl rfl rfl ⟨rfl, fitfn (renfn hcaps _) rfl, ?_, rfl, trivial⟩ ⟨rfl, ?_, rfl, trivial⟩)
        · rcases List.mem_append.1 hw2 with h | h
          · exact hmok w h
          · simp only [List.mem_singleton] at h; subst h; exact hw
        · dsimp only; rw [hnext, h4', hkp]; rfl
        · dsimp only; rw [hnext, h4', hkp, hdr]; simp only [if_true, List.append_assoc, List.singleton_append]; rfl
    · have hj' : j = l.length := by dsimp only at h3; omega
      subst hj'
      refine on ?_
      rw [List.take_length] at hlen2
      have hkl : (l.filter fun w => !kb w).length ≤ l.length := List.length_filter_le _ _
      have hkok : ∀ w ∈ l.filter (fun w => !kb w), w.ok := fun w hw => hl w (List.mem_filter.1 hw).1
      refine ev_clearA row138 one145 ⟨trivial, by dsimp only; omega, by dsimp only; rw [List.take_length]; omega, by omega, by omega⟩ 1 rfl rfl rfl rfl (i := (l.filter fun w => !kb w).length) (fun hm => ?_) ?_ (by omega) trivial ?_
      · dsimp only at hm ⊢
        rw [List.take_length] at hm ⊢
        rw [if_neg (by omega), Option.map_some, Int.toNat_natCast]
      · dsimp only
        rw [List.take_length]; omega
      dsimp only
      rw [List.take_length, encW_app, ← encW_len hkok, List.take_left]
      refine on ?_
      refine retE ⟨trivial, by omega, by omega, by omega, by omega⟩ rfl () [0, 1, 2] rfl rfl rfl rfl ⟨_, rfl, fun ρ => ?_⟩ ⟨rfl, rfl, rfl, trivial⟩
      rw [addZ _ _ _ (by simp)]
      simp [resV, AV.ev]
/-- a member that somebody else wrote to -/
def setM (M : Mem) (i : Int) (s : List Int) : Mem := if mayM M i = 0 then { M with seen := putI M.seen i s, dur := putI M.dur i s, log := M.log.filter (fun w => !decide (w.at_ = i)), hurt := true } else M
theorem c53 (M : Mem) (b : Nat) (i : Int) (s : List Int) (hs : s.length = 64) (hlen : M.log.length ≤ 1000000) : ACtr Try.prog 53 2 [PA b, IA i, .run .u8 64 s] [(1, frm (memH M b))] (fun _ : Unit => 0) (fun _ => IA (mayM M i)) (fun _ => [(1, frm (memH (setM M i s) b))]) := by
  refine act Try.func53 rfl rfl rfl A53_ok rfl fun F w0 bb => ?_
  refine on ?_
  refine call_ab trivial (c78 M b i) [1] rfl rfl rfl rfl rfl ⟨rfl, trivial⟩ (fun _ => rfl) (fun _ => rfl) (fun _ => trivial) (fun _ => ?_)
  refine on ?_
  refine ev_ne trivial (fun h1 => ?_) (fun h1 => ?_)
  · refine on ?_
    refine retE trivial rfl () [0, 1] rfl rfl rfl rfl ⟨_, rfl, fun ρ => rfl⟩ ⟨rfl, ?_, trivial⟩
    rw [setM, if_neg h1]; rfl
  · refine by_number 4 2 rfl rfl (fun _ => trivial) fun bx => ?_
    refine leave 4 2 4 [] (A := boxI bx i) (Rs := []) rfl rfl trivial ⟨_, rfl⟩ rfl rfl rfl rfl rfl trivial (fun h hh => ptC_emp hh) ?_
    refine memE 1 0 rfl rfl rfl (fun _ => trivial) fun x ok => ?_
    obtain ⟨xs, xd, la, lc, ma, mc⟩ := x
    refine on ?_
    refine call_ab trivial (c104 M.log ok.2.2 la lc hlen 105 [PA bx] (boxI bx i) (fun w => decide (w.at_ = i)) (fun _ => rfl) (fun w hw => c105 w (ok.2.2 w hw) bx i)) [9, 4] rfl rfl rfl rfl rfl ⟨rfl, rfl, trivial⟩ (fun _ => rfl) (fun _ => rfl) (fun _ => trivial) (fun _ => ?_)
    refine enter (X := Unit) (ok := fun _ => True) (cs := fun _ => [IA i]) (T := 3) (Rs := fun _ => []) 4 4 0 rfl rfl rfl (fun _ => rfl) (fun h hh => ⟨(), trivial, star_emp hh⟩) (fun _ => trivial) fun _ _ => ?_
    refine on ?_
    refine draw_ok mixed trivial O53_5_ok [(5, _), (11, _), (3, _)] Q53_5_ok ⟨rfl, rfl, rfl, trivial⟩ rfl (fun ρ0 => ?_)
    refine on ?_
    refine call_ab trivial (c73 M.seen xs i s hs) [7] rfl rfl rfl rfl rfl ⟨rfl, trivial⟩ (fun _ => rfl) (fun _ => rfl) (fun _ => ⟨rfl, rfl, rfl, trivial⟩) (fun _ => ?_)
    refine on ?_
    refine draw_ok mixed trivial O53_6_ok [(5, _), (11, _), (3, _)] Q53_6_ok ⟨rfl, rfl, rfl, trivial⟩ rfl (fun ρ0 => ?_)
    refine on ?_
    refine call_ab trivial (c73 M.dur xd i s hs) [8] rfl rfl rfl rfl rfl ⟨rfl, trivial⟩ (fun _ => rfl) (fun _ => rfl) (fun _ => ⟨rfl, rfl, rfl, trivial⟩) (fun _ => ?_)
    refine on ?_
    refine ret_in trivial ?_
    have e : setM M i s = { M with seen := putI M.seen i s, dur := putI M.dur i s, log := M.log.filter (fun w => !decide (w.at_ = i)), hurt := true } := by rw [setM, if_pos h1]
    refine recells 5 (cs' := memCs (setM M i s) ⟨xs, xd, la, lc, ma, mc⟩) rfl (fun ρ => by rw [e]; rfl) rfl trivial ?_
    refine memL 1 5 (setM M i s) ⟨xs, xd, la, lc, ma, mc⟩ ?_ rfl rfl ?_ ?_ ?_ ?_ rfl rfl trivial ?_
    · rw [e]
      exact ⟨ok.1, ok.2.1, fun w hw => ok.2.2 w (List.mem_filter.1 hw).1⟩
    · rw [e]; rfl
    · rw [e]; rfl
    · rw [e]; rfl
    · rw [e]; rfl
    refine ret_out ?_
    exact retE trivial rfl () [0, 1] rfl rfl rfl rfl ⟨_, rfl, fun ρ => by rw [h1]; rfl⟩ ⟨rfl, rfl, trivial⟩
end Go.Proofs.Ytolcobhaghdfcaa
