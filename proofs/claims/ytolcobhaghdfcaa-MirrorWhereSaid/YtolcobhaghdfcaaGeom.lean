/- Contracts of the packages geom, place and the laws' own doubles: what they compute. -/
import Derived.Test.YtolcobhaghdfcaaBase
import Derived.Test.YtolcobhaghdfcaaAcA
namespace Go.Proofs.Ytolcobhaghdfcaa
open Sx Go
set_option maxRecDepth 100000
def geo (m r : Int) : Prop := 4 ≤ m ∧ m ≤ 64 ∧ 1 ≤ r ∧ r ≤ 64
instance (m r : Int) : Decidable (geo m r) := by unfold geo; exact inferInstance
def gck (m r : Int) : Int := if geo m r then 0 else 2
theorem gck_0 {m r : Int} (h : geo m r) : gck m r = 0 := if_pos h
theorem gck_2 {m r : Int} (h : ¬ geo m r) : gck m r = 2 := if_neg h
/-- a branch on what an order of numbers decides -/
theorem ev_lt {cx : Cx} {p : Prop} {s : Nat} {c : Prop} [Decidable c] {stk : List K} {fr : List (Nat × AV)} {ch : List (Nat × Chunk)} {nx : Nat} (hp : p)
    (h1 : c → Good cx ⟨stk, (s, .tt) :: fr, ch, nx⟩) (h2 : ¬ c → Good cx ⟨stk, (s, .ff) :: fr, ch, nx⟩) : EvOk cx (.br p s (decide c) stk fr ch nx) :=
  ⟨hp, fun h => h1 (of_decide_eq_true h), fun h => h2 (of_decide_eq_false h)⟩
theorem ev_ne {cx : Cx} {p : Prop} {s : Nat} {c : Prop} [Decidable c] {stk : List K} {fr : List (Nat × AV)} {ch : List (Nat × Chunk)} {nx : Nat} (hp : p)
    (h1 : ¬ c → Good cx ⟨stk, (s, .tt) :: fr, ch, nx⟩) (h2 : c → Good cx ⟨stk, (s, .ff) :: fr, ch, nx⟩) : EvOk cx (.br p s (!decide c) stk fr ch nx) :=
  ⟨hp, fun h => h1 (by simpa using h), fun h => h2 (by simpa using h)⟩
theorem c131 (m r : Int) : Ctr Try.prog 131 [GV m r] emp (fun _ : Unit => I (gck m r)) (fun _ => emp) := by
  refine pur [GA m r] Try.func131 rfl (by kernel_rfl) rfl A131_ok rfl rfl fun F w0 => ?_
  refine on ?_
  refine ev_lt trivial (fun h1 => ?_) (fun h1 => ?_) <;> refine on ?_
  · exact ret1 trivial rfl (evI (gck_2 (by unfold geo; omega)).symm) rfl rfl
  refine ev_lt trivial (fun h2 => ?_) (fun h2 => ?_) <;> refine on ?_
  · exact ret1 trivial rfl (evI (gck_2 (by unfold geo; omega)).symm) rfl rfl
  refine ev_lt trivial (fun h3 => ?_) (fun h3 => ?_) <;> refine on ?_
  · exact ret1 trivial rfl (evI (gck_2 (by unfold geo; omega)).symm) rfl rfl
  refine ev_lt trivial (fun h4 => ?_) (fun h4 => ?_) <;> refine on ?_
  · exact ret1 trivial rfl (evI (gck_2 (by unfold geo; omega)).symm) rfl rfl
  · exact ret1 trivial rfl (evI (gck_0 (by unfold geo; omega)).symm) rfl rfl
theorem c13 (m r : Int) : Ctr Try.prog 13 [GV m r] emp (fun _ : Unit => I (gck m r)) (fun _ => emp) := by
  refine pur [GA m r] Try.func13 rfl (by kernel_rfl) rfl A13_ok rfl rfl fun F w0 => ?_
  refine on ?_
  refine ev_lt trivial (fun h1 => ?_) (fun h1 => ?_) <;> refine on ?_
  rotate_left
  · exact ret1 trivial rfl (evI (gck_2 (by unfold geo; omega)).symm) rfl rfl
  refine ev_lt trivial (fun h2 => ?_) (fun h2 => ?_) <;> refine on ?_
  rotate_left
  · exact ret1 trivial rfl (evI (gck_2 (by unfold geo; omega)).symm) rfl rfl
  refine ev_lt trivial (fun h3 => ?_) (fun h3 => ?_) <;> refine on ?_
  rotate_left
  · exact ret1 trivial rfl (evI (gck_2 (by unfold geo; omega)).symm) rfl rfl
  refine ev_lt trivial (fun h4 => ?_) (fun h4 => ?_) <;> refine on ?_
  · exact ret1 trivial rfl (evI (gck_0 (by unfold geo; omega)).symm) rfl rfl
  · exact ret1 trivial rfl (evI (gck_2 (by unfold geo; omega)).symm) rfl rfl
theorem evB {a b : Bool} (h : a = b) : (resV [.v (.bool a)]).ev [] = some (.bool b) := by rw [h]; rfl
theorem evD {a b : Prop} [Decidable a] [Decidable b] (h : a ↔ b) : (resV [.v (.bool (decide a))]).ev [] = some (.bool (decide b)) := evB (decide_eq_decide.2 h)
theorem evF {b : Prop} [Decidable b] (h : ¬ b) : (resV [.ff]).ev [] = some (.bool (decide b)) := by rw [decide_eq_false h]; rfl
theorem evT {b : Prop} [Decidable b] (h : b) : (resV [.tt]).ev [] = some (.bool (decide b)) := by rw [decide_eq_true h]; rfl
theorem c107 (m r : Int) : Ctr Try.prog 107 [GV m r] emp (fun _ : Unit => .bool (decide (geo m r))) (fun _ => emp) := by
  refine pur [GA m r] Try.func107 rfl (by kernel_rfl) rfl A107_ok rfl rfl fun F w0 => ?_
  refine on ?_
  refine ev_lt trivial (fun h1 => ?_) (fun h1 => ?_) <;> refine on ?_
  rotate_left
  · exact ret1 trivial rfl (evF (by unfold geo; omega)) rfl rfl
  refine ev_lt trivial (fun h2 => ?_) (fun h2 => ?_) <;> refine on ?_
  rotate_left
  · exact ret1 trivial rfl (evF (by unfold geo; omega)) rfl rfl
  refine ev_lt trivial (fun h3 => ?_) (fun h3 => ?_) <;> refine on ?_
  rotate_left
  · exact ret1 trivial rfl (evF (by unfold geo; omega)) rfl rfl
  exact ret1 trivial rfl (evD (by unfold geo; omega)) rfl rfl
theorem c137 (m r : Int) : Ctr Try.prog 137 [GV m r] emp (fun _ : Unit => .bool (decide (geo m r))) (fun _ => emp) := by
  refine pur [GA m r] Try.func137 rfl (by kernel_rfl) rfl A137_ok rfl rfl fun F w0 => ?_
  refine on ?_
  refine call_pure trivial (c131 m r) rfl (rv := IA (gck m r)) rfl trivial ?_
  refine on ?_
  refine ret1 trivial rfl ?_ rfl rfl
  by_cases h : geo m r
  · simp [resV, AV.ev, gck_0 h, h]
  · simp [resV, AV.ev, gck_2 h, h]

def leav (m r : Int) : Int := if geo m r then m * r else 0
theorem geo_mul {m r : Int} (h : geo m r) : 4 ≤ m * r ∧ m * r ≤ 4096 := by
  obtain ⟨h1, h2, h3, h4⟩ := h
  constructor
  · have := Int.mul_le_mul h1 h3 (by omega) (by omega); omega
  · have := Int.mul_le_mul h2 h4 (by omega) (by omega); omega
theorem leav_le (m r : Int) : 0 ≤ leav m r ∧ leav m r ≤ 4096 := by
  unfold leav; split
  · rename_i h; have := geo_mul h; omega
  · omega
theorem c163 (m r : Int) : Ctr Try.prog 163 [GV m r] emp (fun _ : Unit => I (leav m r)) (fun _ => emp) := by
  refine pur [GA m r] Try.func163 rfl (by kernel_rfl) rfl A163_ok rfl rfl fun F w0 => ?_
  refine on ?_
  refine call_pure trivial (c137 m r) rfl (rv := .v (.bool (decide (geo m r)))) rfl trivial ?_
  refine on ?_
  refine ev_ne trivial (fun h => ?_) (fun h => ?_) <;> refine on ?_
  · exact ret1 trivial rfl (evI (if_neg h).symm) rfl rfl
  · exact ret1 ⟨trivial, by have := geo_mul h; unfold InR; omega⟩ rfl (evI (if_pos h).symm) rfl rfl
theorem c168 (m r : Int) : Ctr Try.prog 168 [GV m r] emp (fun _ : Unit => I (leav m r)) (fun _ => emp) := by
  refine pur [GA m r] Try.func168 rfl (by kernel_rfl) rfl A168_ok rfl rfl fun F w0 => ?_
  refine on ?_
  refine call_pure trivial (c13 m r) rfl (rv := IA (gck m r)) rfl trivial ?_
  refine on ?_
  refine ev_ne trivial (fun h => ?_) (fun h => ?_) <;> refine on ?_
  · exact ret1 trivial rfl (evI (if_neg (by intro hg; exact h (gck_0 hg))).symm) rfl rfl
  · have hg : geo m r := by
      by_cases hg : geo m r
      · exact hg
      · rw [gck_2 hg] at h; omega
    exact ret1 ⟨trivial, by have := geo_mul hg; unfold InR; omega⟩ rfl (evI (if_pos hg).symm) rfl rfl
theorem pow_le {a b : Nat} (h : a ≤ b) : (2:Int)^a ≤ 2^b := by
  have : 2^a ≤ 2^b := Nat.pow_le_pow_right (by omega) h
  exact_mod_cast this
theorem pow_pos (a : Nat) : (1:Int) ≤ 2^a := by have := pow_le (Nat.zero_le a); simpa using this
theorem c165 (n : Nat) (hn : n ≤ 61) : Ctr Try.prog 165 [I n] emp (fun _ : Unit => I (2^n)) (fun _ => emp) := by
  refine pur [IA n] Try.func165 rfl (by kernel_rfl) rfl A165_ok rfl rfl fun F w0 => ?_
  refine on ?_
  refine ev_loop trivial (ι := Nat) (fun t => t ≤ n) (fun t => n - t) (fun t => [(0, IA n), (3, IA (2^t)), (4, IA t)]) (fun _ => [(0, frm F)]) 1 0 (Nat.zero_le _)
    (Fit.of [0] rfl rfl rfl rfl ⟨rfl, rfl, rfl, trivial⟩ ⟨rfl, trivial⟩) (fun t ht => ?_)
  refine on ?_
  refine ev_lt trivial (fun h1 => ?_) (fun h1 => ?_) <;> refine on ?_
  · have e : (2:Int)^(t+1) = 2 * 2^t := by rw [Int.pow_succ, Int.mul_comm]
    have h2 := pow_le (show t + 1 ≤ 62 by omega)
    have h3 := pow_pos (t+1)
    refine ev_lend ⟨⟨trivial, by unfold InR; rw [← e]; omega⟩, by unfold InR; omega⟩ (t+1) (by omega) (by omega) (Fit.of [0] rfl rfl rfl rfl ⟨rfl, ?_, ?_, trivial⟩ ⟨rfl, trivial⟩)
    · show some (IA (2 * 2^t)) = some (IA (2^(t+1))); rw [e]
    · show some (IA (t + 1)) = some (IA ((t+1 : Nat) : Int)); rfl
  · have : t = n := by omega
    subst this
    exact ret1 trivial rfl rfl rfl rfl

/-- the least power of two that is no less -/
def htF : Nat → Nat → Int → Nat
  | 0, t, _ => t
  | f + 1, t, n => if 2 ^ t < n then htF f (t + 1) n else t
def ht (n : Int) : Nat := htF 20 0 n
theorem htF_le : ∀ (f t : Nat) (n : Int), n ≤ 4096 → t ≤ 12 → htF f t n ≤ 12
  | 0, _, _, _, h => h
  | f + 1, t, n, hn, h => by
    unfold htF
    split
    · refine htF_le f (t + 1) n hn ?_
      rename_i h1
      by_cases e : t = 12
      · subst e; omega
      · omega
    · exact h
theorem ht_le {n : Int} (h : n ≤ 4096) : ht n ≤ 12 := htF_le 20 0 n h (by omega)
abbrev heig (m r : Int) : Nat := ht (leav m r)
theorem heig_le (m r : Int) : heig m r ≤ 12 := ht_le (leav_le m r).2
theorem c139 (m r : Int) : Ctr Try.prog 139 [GV m r] emp (fun _ : Unit => I (heig m r)) (fun _ => emp) := by
  refine pur [GA m r] Try.func139 rfl (by kernel_rfl) rfl A139_ok rfl rfl fun F w0 => ?_
  refine on ?_
  refine ev_loop trivial (ι := Nat) (fun t => t ≤ 13 ∧ heig m r = htF (20 - t) t (leav m r)) (fun t => 20 - t) (fun t => [(1, .ptr 1 0), (3, IA t)]) (fun _ => [(0, frm F), (1, .cells [IA m, IA r] 23)]) 2 0 ⟨Nat.zero_le _, rfl⟩
    (Fit.of [0, 1] rfl rfl rfl rfl ⟨rfl, rfl, trivial⟩ ⟨rfl, rfl, trivial⟩) (fun t ht => ?_)
  refine on ?_
  refine draw_ok mixed trivial O139_2_ok [(1, .cells [IA m, IA r] 23)] Q139_2_ok ⟨rfl, trivial⟩ rfl (fun ρ0 => ?_)
  refine on ?_
  refine call_pure (p := _) ?_ (c163 m r) rfl (rv := IA (leav m r)) rfl ⟨rfl, trivial⟩ ?_
  · refine ⟨trivial, by omega, by omega, ?_⟩
    have h2 := pow_le (show t ≤ 13 from ht.1)
    have h3 := pow_pos t
    unfold InR; simp; omega
  refine on ?_
  have hl := leav_le m r
  refine ev_lt trivial (fun h1 => ?_) (fun h1 => ?_) <;> refine on ?_
  · have h1' : 2 ^ t < leav m r := by simpa using h1
    have h12 : t + 1 ≤ 13 := by
      by_cases e : t = 13
      · subst e; omega
      · omega
    refine ev_lend ⟨trivial, by unfold InR; omega⟩ (t+1) ⟨h12, ?_⟩ (by omega) (Fit.of [0, 1] rfl rfl rfl rfl ⟨rfl, ?_, trivial⟩ ⟨rfl, rfl, trivial⟩)
    · rw [ht.2, show 20 - t = (20 - (t+1)) + 1 by omega, htF, if_pos h1']
    · show some (IA (t + 1)) = some (IA ((t+1 : Nat) : Int)); rfl
  · have h1' : ¬ 2 ^ t < leav m r := by simpa using h1
    refine ret1 trivial rfl (evI ?_) rfl rfl
    rw [ht.2, show 20 - t = (20 - (t+1)) + 1 by omega, htF, if_neg h1']
theorem c166 (m r : Int) : Ctr Try.prog 166 [GV m r] emp (fun _ : Unit => I (heig m r)) (fun _ => emp) := by
  refine pur [GA m r] Try.func166 rfl (by kernel_rfl) rfl A166_ok rfl rfl fun F w0 => ?_
  refine on ?_
  refine ev_loop trivial (ι := Nat) (fun t => t ≤ 13 ∧ heig m r = htF (20 - t) t (leav m r)) (fun t => 20 - t) (fun t => [(1, .ptr 1 0), (3, IA t)]) (fun _ => [(0, frm F), (1, .cells [IA m, IA r] 23)]) 2 0 ⟨Nat.zero_le _, rfl⟩
    (Fit.of [0, 1] rfl rfl rfl rfl ⟨rfl, rfl, trivial⟩ ⟨rfl, rfl, trivial⟩) (fun t ht => ?_)
  refine on ?_
  refine draw_ok mixed trivial O166_2_ok [(1, .cells [IA m, IA r] 23)] Q166_2_ok ⟨rfl, trivial⟩ rfl (fun ρ0 => ?_)
  refine on ?_
  refine call_pure trivial (c165 t (by omega)) rfl (rv := IA (2^t)) rfl ⟨rfl, trivial⟩ ?_
  refine on ?_
  refine call_pure trivial (c168 m r) rfl (rv := IA (leav m r)) rfl ⟨rfl, trivial⟩ ?_
  refine on ?_
  have hl := leav_le m r
  refine ev_lt trivial (fun h1 => ?_) (fun h1 => ?_) <;> refine on ?_
  · have h12 : t + 1 ≤ 13 := by
      by_cases e : t = 13
      · subst e; omega
      · omega
    refine ev_lend ⟨trivial, by unfold InR; omega⟩ (t+1) ⟨h12, ?_⟩ (by omega) (Fit.of [0, 1] rfl rfl rfl rfl ⟨rfl, ?_, trivial⟩ ⟨rfl, rfl, trivial⟩)
    · rw [ht.2, show 20 - t = (20 - (t+1)) + 1 by omega, htF, if_pos h1]
    · show some (IA (t + 1)) = some (IA ((t+1 : Nat) : Int)); rfl
  · refine ret1 trivial rfl (evI ?_) rfl rfl
    rw [ht.2, show 20 - t = (20 - (t+1)) + 1 by omega, htF, if_neg h1]
def nods (m r : Int) : Int := 2 ^ heig m r - 1
theorem nods_le (m r : Int) : 0 ≤ nods m r ∧ nods m r ≤ 4095 := by
  have h1 := pow_le (heig_le m r)
  have h2 := pow_pos (heig m r)
  unfold nods; omega
theorem c140 (m r : Int) : Ctr Try.prog 140 [GV m r] emp (fun _ : Unit => I (nods m r)) (fun _ => emp) := by
  refine pur [GA m r] Try.func140 rfl (by kernel_rfl) rfl A140_ok rfl rfl fun F w0 => ?_
  refine on ?_
  refine call_pure trivial (c139 m r) rfl (rv := IA (heig m r)) rfl trivial ?_
  refine on ?_
  have h0 := heig_le m r
  have h1 := pow_le (heig_le m r)
  have h2 := pow_pos (heig m r)
  refine ret1 ⟨⟨trivial, by omega, by omega, by unfold InR; simp; omega⟩, by unfold InR; simp; omega⟩ rfl (evI (by unfold nods; simp)) rfl rfl
theorem c143 (m r : Int) : Ctr Try.prog 143 [GV m r] emp (fun _ : Unit => I (nods m r)) (fun _ => emp) := by
  refine pur [GA m r] Try.func143 rfl (by kernel_rfl) rfl A143_ok rfl rfl fun F w0 => ?_
  refine on ?_
  refine call_pure trivial (c166 m r) rfl (rv := IA (heig m r)) rfl trivial ?_
  refine on ?_
  have h0 := heig_le m r
  refine call_pure trivial (c165 (heig m r) (by omega)) rfl (rv := IA (2 ^ heig m r)) rfl trivial ?_
  refine on ?_
  have h1 := pow_le (heig_le m r)
  have h2 := pow_pos (heig m r)
  exact ret1 ⟨trivial, by unfold InR; omega⟩ rfl rfl rfl rfl
def mx (m : Int) : Int := if 6 < m then m else 6
def capa (m r : Int) : Int := if geo m r then mx m + (if nods m r < mx m * heig m r then nods m r else mx m * heig m r) + 8 else 0
theorem mx_le {m r : Int} (h : geo m r) : 6 ≤ mx m ∧ mx m ≤ 64 := by unfold mx geo at *; split <;> omega
theorem mxh {m r : Int} (h : geo m r) : 0 ≤ mx m * heig m r ∧ mx m * heig m r ≤ 768 := by
  have h1 := mx_le h
  have h2 := heig_le m r
  constructor
  · exact Int.mul_nonneg (by omega) (by omega)
  · have := Int.mul_le_mul h1.2 (show (heig m r : Int) ≤ 12 by omega) (by omega) (by omega); omega
theorem capa_le (m r : Int) : 0 ≤ capa m r ∧ capa m r ≤ 840 := by
  unfold capa; split
  · rename_i h
    have h1 := mx_le h; have h2 := mxh h; have h3 := nods_le m r
    split <;> omega
  · omega
theorem c103 (m r : Int) : Ctr Try.prog 103 [GV m r] emp (fun _ : Unit => I (capa m r)) (fun _ => emp) := by
  refine pur [GA m r] Try.func103 rfl (by kernel_rfl) rfl A103_ok rfl rfl fun F w0 => ?_
  refine on ?_
  refine call_pure trivial (c137 m r) rfl (rv := .v (.bool (decide (geo m r)))) rfl trivial ?_
  refine on ?_
  refine ev_ne trivial (fun h => ?_) (fun h => ?_) <;> refine on ?_
  · exact ret1 trivial rfl (evI (if_neg h).symm) rfl rfl
  refine ev_max trivial rfl rfl rfl rfl ?_
  have hm : (if m > 6 then m else 6) = mx m := rfl
  rw [hm]
  refine on ?_
  refine draw_ok mixed trivial O103_4_ok [(1, .cells [IA m, IA r] 23)] Q103_4_ok ⟨rfl, trivial⟩ rfl (fun ρ0 => ?_)
  refine on ?_
  refine call_pure trivial (c139 m r) rfl (rv := IA (heig m r)) rfl ⟨rfl, trivial⟩ ?_
  refine on ?_
  have h1 := mx_le h
  have h2 := mxh h
  have h3 := nods_le m r
  refine call_pure ⟨trivial, by unfold InR; omega⟩ (c140 m r) rfl (rv := IA (nods m r)) rfl ⟨rfl, trivial⟩ ?_
  refine on ?_
  refine ev_min trivial rfl rfl rfl rfl ?_
  refine on ?_
  refine ret1 ?_ rfl (evI ?_) rfl rfl
  · refine ⟨⟨trivial, ?_⟩, ?_⟩ <;> unfold InR <;> split <;> omega
  · rw [capa, if_pos h]
theorem key164 {F : HProp} {w0 : World} {m r : Int} (hg : geo m r) (k : Int) (hk : k = mx m) : Good ⟨Try.prog, tbl, 28, bodyPost Try.prog Try.f164 (postOf F w0 (fun _ : Unit => I (capa m r)) fun _ => emp), w0, [], [], none⟩
    ⟨[.code T164_18], [(3, IA k), (1, .ptr 1 0)], [(0, frm F), (1, .cells [IA m, IA r] 23)], 2⟩ := by
  subst hk
  have h1 := mx_le hg
  have h2 := mxh hg
  have h3 := nods_le m r
  refine on ?_
  refine call_pure trivial (c166 m r) rfl (rv := IA (heig m r)) rfl trivial ?_
  refine on ?_
  refine call_pure ⟨trivial, by unfold InR; omega⟩ (c143 m r) rfl (rv := IA (nods m r)) rfl trivial ?_
  refine on ?_
  refine ev_lt trivial (fun h4 => ?_) (fun h4 => ?_) <;> refine on ?_
  · refine call_pure trivial (c143 m r) rfl (rv := IA (nods m r)) rfl trivial ?_
    refine on ?_
    refine ret1 ⟨⟨trivial, by unfold InR; omega⟩, by unfold InR; omega⟩ rfl (evI ?_) rfl rfl
    rw [capa, if_pos hg, if_pos h4]
  · refine ret1 ⟨⟨trivial, by unfold InR; omega⟩, by unfold InR; omega⟩ rfl (evI ?_) rfl rfl
    rw [capa, if_pos hg, if_neg h4]
theorem c164 (m r : Int) : Ctr Try.prog 164 [GV m r] emp (fun _ : Unit => I (capa m r)) (fun _ => emp) := by
  refine pur [GA m r] Try.func164 rfl (by kernel_rfl) rfl A164_ok rfl rfl fun F w0 => ?_
  refine on ?_
  refine call_pure trivial (c13 m r) rfl (rv := IA (gck m r)) rfl trivial ?_
  refine on ?_
  refine ev_ne trivial (fun h => ?_) (fun h => ?_) <;> refine on ?_
  · exact ret1 trivial rfl (evI (if_neg (by intro hg; exact h (gck_0 hg))).symm) rfl rfl
  have hg : geo m r := by
    by_cases hg : geo m r
    · exact hg
    · rw [gck_2 hg] at h; omega
  refine ev_lt trivial (fun h1 => ?_) (fun h1 => ?_)
  · refine go_n 6 ⟨trivial, ?_⟩
    exact into (key164 hg m (if_pos h1).symm) rfl (Fit.of [0, 1] rfl rfl rfl rfl ⟨rfl, rfl, trivial⟩ ⟨rfl, rfl, trivial⟩)
  · refine go_n 2 ⟨trivial, ?_⟩
    exact into (key164 hg 6 (if_neg h1).symm) rfl (Fit.of [0, 1] rfl rfl rfl rfl ⟨rfl, rfl, trivial⟩ ⟨rfl, rfl, trivial⟩)
def half (m r : Int) : Int := if geo m r then 2 + (69 * capa m r + 63) / 64 else 0
theorem half_le (m r : Int) : 0 ≤ half m r ∧ half m r ≤ 1000 := by
  unfold half
  have := capa_le m r
  split <;> omega
theorem c98 (m r : Int) : Ctr Try.prog 98 [GV m r] emp (fun _ : Unit => I (half m r)) (fun _ => emp) := by
  refine pur [GA m r] Try.func98 rfl (by kernel_rfl) rfl A98_ok rfl rfl fun F w0 => ?_
  refine on ?_
  refine call_pure trivial (c137 m r) rfl (rv := .v (.bool (decide (geo m r)))) rfl trivial ?_
  refine on ?_
  refine ev_ne trivial (fun h => ?_) (fun h => ?_) <;> refine on ?_
  · exact ret1 trivial rfl (evI (if_neg h).symm) rfl rfl
  refine call_pure trivial (c103 m r) rfl (rv := IA (capa m r)) rfl trivial ?_
  refine on ?_
  have h1 := capa_le m r
  have e : (69 * capa m r + 64 - 1).tdiv 64 = (69 * capa m r + 63) / 64 := by
    rw [Int.tdiv_eq_ediv_of_nonneg (by omega)]; congr 1; omega
  refine ret1 ⟨⟨⟨⟨⟨trivial, ?_⟩, ?_⟩, ?_⟩, by decide, ?_⟩, ?_⟩ rfl (evI ?_) rfl rfl <;> (try rw [e]) <;> (try (unfold InR; omega))
  rw [half, if_pos h]
theorem c142 (m r : Int) : Ctr Try.prog 142 [GV m r] emp (fun _ : Unit => I (half m r)) (fun _ => emp) := by
  refine pur [GA m r] Try.func142 rfl (by kernel_rfl) rfl A142_ok rfl rfl fun F w0 => ?_
  refine on ?_
  refine call_pure trivial (c13 m r) rfl (rv := IA (gck m r)) rfl trivial ?_
  refine on ?_
  refine ev_ne trivial (fun h => ?_) (fun h => ?_) <;> refine on ?_
  · exact ret1 trivial rfl (evI (if_neg (by intro hg; exact h (gck_0 hg))).symm) rfl rfl
  have hg : geo m r := by
    by_cases hg : geo m r
    · exact hg
    · rw [gck_2 hg] at h; omega
  have hc := capa_le m r
  refine ev_loop trivial (ι := Nat) (fun t => (t : Int) ≤ (69 * capa m r + 63) / 64) (fun t => 1000 - t) (fun t => [(1, .ptr 1 0), (3, IA t)]) (fun _ => [(0, frm F), (1, .cells [IA m, IA r] 23)]) 2 0 (by omega)
    (Fit.of [0, 1] rfl rfl rfl rfl ⟨rfl, rfl, trivial⟩ ⟨rfl, rfl, trivial⟩) (fun t ht => ?_)
  refine on ?_
  refine call_pure ⟨trivial, by unfold InR; omega⟩ (c164 m r) rfl (rv := IA (capa m r)) rfl trivial ?_
  refine on ?_
  refine ev_lt ⟨trivial, by unfold InR; omega⟩ (fun h1 => ?_) (fun h1 => ?_) <;> refine on ?_
  · exact ev_lend ⟨trivial, by unfold InR; omega⟩ (t+1) (by omega) (by omega) (Fit.of [0, 1] rfl rfl rfl rfl ⟨rfl, rfl, trivial⟩ ⟨rfl, rfl, trivial⟩)
  · refine ret1 ⟨trivial, by unfold InR; omega⟩ rfl (evI ?_) rfl rfl
    rw [half, if_pos hg]; omega
def lst (k : Int) : Int := if k = 3 then 1 else 0
theorem c160 (k : Int) : Ctr Try.prog 160 [I k] emp (fun _ : Unit => I (lst k)) (fun _ => emp) := by
  refine pur [IA k] Try.func160 rfl (by kernel_rfl) rfl A160_ok rfl rfl fun F w0 => ?_
  refine on ?_
  refine ev_lt trivial (fun h => ?_) (fun h => ?_) <;> refine on ?_
  · exact ret1 trivial rfl (evI (if_pos h).symm) rfl rfl
  · exact ret1 trivial rfl (evI (if_neg h).symm) rfl rfl
theorem c109 (k : Int) : Ctr Try.prog 109 [I k] emp (fun _ : Unit => I (lst k)) (fun _ => emp) := by
  refine pur [IA k] Try.func109 rfl (by kernel_rfl) rfl A109_ok rfl rfl fun F w0 => ?_
  refine on ?_
  refine ev_lt trivial (fun h => ?_) (fun h => ?_) <;> refine on ?_
  · exact ret1 trivial rfl (evI (if_pos h).symm) rfl rfl
  · exact ret1 trivial rfl (evI (if_neg h).symm) rfl rfl
/-- how many nodes of a kind -/
def cnt (m r k : Int) : Int := if k = 1 then 8 else if k = 2 then 2 * half m r else if k = 3 then nods m r else r
theorem c108 (m r k : Int) : Ctr Try.prog 108 [GV m r, I k] emp (fun _ : Unit => I (cnt m r k)) (fun _ => emp) := by
  refine pur [GA m r, IA k] Try.func108 rfl (by kernel_rfl) rfl A108_ok rfl rfl fun F w0 => ?_
  refine on ?_
  refine ev_lt trivial (fun h1 => ?_) (fun h1 => ?_) <;> refine on ?_
  · exact ret1 trivial rfl (evI (by rw [cnt, if_pos h1])) rfl rfl
  refine ev_lt trivial (fun h2 => ?_) (fun h2 => ?_) <;> refine on ?_
  · refine call_pure trivial (c142 m r) rfl (rv := IA (half m r)) rfl trivial ?_
    refine on ?_
    have := half_le m r
    exact ret1 ⟨trivial, by unfold InR; omega⟩ rfl (evI (by rw [cnt, if_neg h1, if_pos h2])) rfl rfl
  refine ev_lt trivial (fun h3 => ?_) (fun h3 => ?_) <;> refine on ?_
  · refine call_pure trivial (c143 m r) rfl (rv := IA (nods m r)) rfl trivial ?_
    refine on ?_
    exact ret1 trivial rfl (evI (by rw [cnt, if_neg h1, if_neg h2, if_pos h3])) rfl rfl
  · exact ret1 trivial rfl (evI (by rw [cnt, if_neg h1, if_neg h2, if_neg h3])) rfl rfl
abbrev frs (m r : Int) : List Int := [0, 0, 8, 8 + 2 * half m r, 8 + 2 * half m r + nods m r, 8 + 2 * half m r + nods m r + r]
theorem c161 (m r : Int) (hg : geo m r) : Ctr Try.prog 161 [GV m r] emp (fun _ : Unit => .agg ((frs m r).map (Value.int .i64)).toArray) (fun _ => emp) := by
  refine pur [GA m r] Try.func161 rfl (by kernel_rfl) rfl A161_ok rfl rfl fun F w0 => ?_
  refine on ?_
  have h1 := half_le m r
  have h2 := nods_le m r
  unfold geo at hg
  refine draw_ok mixed (by decide) O161_3_ok [(1, _), (3, _)] Q161_3_ok ⟨rfl, rfl, trivial⟩ rfl (fun ρ0 => ?_)
  refine on ?_
  refine call_pure (by decide) (c98 m r) rfl (rv := IA (half m r)) rfl ⟨rfl, rfl, trivial⟩ ?_
  refine on ?_
  refine draw_ok mixed ?_ O161_4_ok [(1, _), (3, _)] Q161_4_ok ⟨rfl, rfl, trivial⟩ rfl (fun ρ0 => ?_)
  · simp [InR]; omega
  refine on ?_
  refine call_pure (by simp) (c140 m r) rfl (rv := IA (nods m r)) rfl ⟨rfl, rfl, trivial⟩ ?_
  refine on ?_
  refine ret1 ?_ rfl ?_ rfl rfl
  · simp [InR]; omega
  · simp [resV, mkAgg, AV.ev, frs]
def fst (m r k : Int) : Int := (frs m r).getD k.toNat 0
def okp (m r k i : Int) : Prop := geo m r ∧ 1 ≤ k ∧ k ≤ 4 ∧ lst k ≤ i ∧ i - lst k < cnt m r k
instance (m r k i : Int) : Decidable (okp m r k i) := by unfold okp; exact inferInstance
def plc (m r k i : Int) : Int × Int := if okp m r k i then (fst m r k + i - lst k, 0) else (0, 2)
theorem k4 {k : Int} (h1 : 1 ≤ k) (h2 : k ≤ 4) : k = 1 ∨ k = 2 ∨ k = 3 ∨ k = 4 := by omega
theorem fst_next {m r k : Int} (h1 : 1 ≤ k) (h2 : k ≤ 4) : (frs m r).getD (k + 1).toNat 0 - (frs m r).getD k.toNat 0 = cnt m r k := by
  rcases k4 h1 h2 with rfl | rfl | rfl | rfl <;> simp [frs, cnt] <;> omega
theorem fst_le {m r : Int} (hg : geo m r) (n : Nat) : 0 ≤ (frs m r).getD n 0 ∧ (frs m r).getD n 0 ≤ 10000 := by
  have h1 := half_le m r
  have h2 := nods_le m r
  unfold geo at hg
  match n with
  | 0 | 1 | 2 | 3 | 4 | 5 => simp [frs] <;> omega
  | n + 6 => simp [frs]
theorem lst_le (k : Int) : 0 ≤ lst k ∧ lst k ≤ 1 := by unfold lst; split <;> omega
theorem c132 (m r k i : Int) (hi : InR i) : Ctr Try.prog 132 [GV m r, I k, I i] emp (fun _ : Unit => .tuple #[I (plc m r k i).1, I (plc m r k i).2]) (fun _ => emp) := by
  refine pur [GA m r, IA k, IA i] Try.func132 rfl (by kernel_rfl) rfl A132_ok rfl rfl fun F w0 => ?_
  refine on ?_
  refine call_pure trivial (c137 m r) rfl (rv := .v (.bool (decide (geo m r)))) rfl trivial ?_
  refine on ?_
  have no : ¬ okp m r k i → (resV [IA 0, IA 2]).ev [] = some (.tuple #[I (plc m r k i).1, I (plc m r k i).2]) := fun h => by rw [plc, if_neg h]; rfl
  refine ev_ne trivial (fun hg => ?_) (fun hg => ?_) <;> refine on ?_
  · exact ret1 trivial rfl (no fun h => hg h.1) rfl rfl
  refine ev_lt trivial (fun h1 => ?_) (fun h1 => ?_) <;> refine on ?_
  · exact ret1 trivial rfl (no fun h => by have := h.2.1; omega) rfl rfl
  refine ev_lt trivial (fun h2 => ?_) (fun h2 => ?_) <;> refine on ?_
  · exact ret1 trivial rfl (no fun h => by have := h.2.2.1; omega) rfl rfl
  refine call_pure trivial (c160 k) rfl (rv := IA (lst k)) rfl trivial ?_
  refine on ?_
  refine ev_lt trivial (fun h3 => ?_) (fun h3 => ?_) <;> refine on ?_
  · exact ret1 trivial rfl (no fun h => by have := h.2.2.2.1; omega) rfl rfl
  refine call_pure trivial (c161 m r hg) rfl (rv := .run .i64 6 (frs m r)) rfl trivial ?_
  refine on ?_
  have hk : k + 1 < 6 ∧ 0 ≤ k := by omega
  have ht : (k + 1).toNat < 6 := by omega
  have ht' : k.toNat < 6 := by omega
  have hl := lst_le k
  have hf := fst_le hg k.toNat
  have hf' := fst_le hg (k + 1).toNat
  have e := fst_next (m := m) (r := r) (k := k) (by omega) (by omega)
  unfold InR at hi
  have q := hf
  have q' := hf'
  rw [List.getD_eq_getElem?_getD] at q q'
  refine draw_ok mixed trivial O132_4_ok [(1, _), (2, _)] Q132_4_ok ⟨rfl, rfl, trivial⟩ rfl (fun ρ0 => ?_)
  refine on ?_
  refine call_pure ?_ (c160 k) rfl (rv := IA (lst k)) rfl ⟨rfl, rfl, trivial⟩ ?_
  · simp [InR]; omega
  refine on ?_
  refine ev_lt ?_ (fun h4 => ?_) (fun h4 => ?_)
  · simp [InR]; omega
  · refine on ?_
    exact ret1 trivial rfl (no fun h => by have := h.2.2.2.2; have h4' : cnt m r k ≤ i - lst k := by rw [← e]; exact h4
                                           omega) rfl rfl
  refine on ?_
  have hok : okp m r k i := ⟨hg, by omega, by omega, by omega, by rw [← e]; exact Int.not_le.1 h4⟩
  refine draw_ok mixed trivial O132_6_ok [(1, _), (2, _)] Q132_6_ok ⟨rfl, rfl, trivial⟩ rfl (fun ρ0 => ?_)
  refine on ?_
  refine call_pure ?_ (c160 k) rfl (rv := IA (lst k)) rfl ⟨rfl, rfl, trivial⟩ ?_
  · simp [InR]; omega
  refine on ?_
  refine ret1 ?_ rfl ?_ rfl rfl
  · simp [InR]; omega
  · rw [plc, if_pos hok]; rfl
theorem cnt_le {m r : Int} (hg : geo m r) (k : Int) : 0 ≤ cnt m r k ∧ cnt m r k ≤ 5000 := by
  have h1 := half_le m r
  have h2 := nods_le m r
  unfold geo at hg
  unfold cnt
  split
  · omega
  · split
    · omega
    · split <;> omega
theorem c56 (m r k i : Int) (hi : InR i) : Ctr Try.prog 56 [GV m r, I k, I i] emp (fun _ : Unit => .tuple #[I (plc m r k i).1, I (plc m r k i).2]) (fun _ => emp) := by
  refine pur [GA m r, IA k, IA i] Try.func56 rfl (by kernel_rfl) rfl A56_ok rfl rfl fun F w0 => ?_
  refine on ?_
  refine call_pure trivial (c13 m r) rfl (rv := IA (gck m r)) rfl trivial ?_
  refine on ?_
  have no : ¬ okp m r k i → (resV [IA 0, IA 2]).ev [] = some (.tuple #[I (plc m r k i).1, I (plc m r k i).2]) := fun h => by rw [plc, if_neg h]; rfl
  refine ev_ne trivial (fun hg => ?_) (fun hg => ?_) <;> refine on ?_
  · exact ret1 trivial rfl (no fun h => hg (gck_0 h.1)) rfl rfl
  replace hg : geo m r := by
    by_cases hg' : geo m r
    · exact hg'
    · rw [gck_2 hg'] at hg; omega
  refine ev_lt trivial (fun h1 => ?_) (fun h1 => ?_) <;> refine on ?_
  · exact ret1 trivial rfl (no fun h => by have := h.2.1; omega) rfl rfl
  refine ev_lt trivial (fun h2 => ?_) (fun h2 => ?_) <;> refine on ?_
  · exact ret1 trivial rfl (no fun h => by have := h.2.2.1; omega) rfl rfl
  obtain ⟨kn, rfl⟩ : ∃ kn : Nat, k = kn := ⟨k.toNat, by omega⟩
  have hl := lst_le kn
  have hc := cnt_le hg kn
  refine ev_loop trivial (ι := Nat) (fun t => 1 ≤ t ∧ t ≤ kn) (fun t => 10 - t) (fun t => [(1, IA kn), (2, IA i), (3, .ptr 1 0), (8, IA ((frs m r).getD t 0)), (9, IA t)]) (fun _ => [(0, frm F), (1, .cells [IA m, IA r] 23)]) 2 1 (by omega)
    (Fit.of [0, 1] rfl rfl rfl rfl ⟨rfl, rfl, rfl, rfl, rfl, trivial⟩ ⟨rfl, rfl, trivial⟩) (fun t ht => ?_)
  refine on ?_
  refine ev_lt trivial (fun h3 => ?_) (fun h3 => ?_) <;> refine on ?_
  · refine call_pure trivial (c108 m r t) rfl (rv := IA (cnt m r t)) rfl trivial ?_
    refine on ?_
    have hf := fst_le hg t
    have e := fst_next (m := m) (r := r) (k := t) (by omega) (by omega)
    have e1 : ((t : Int) + 1).toNat = t + 1 := by omega
    rw [Int.toNat_natCast, e1] at e
    have hct := cnt_le hg t
    refine ev_lend ?_ (t + 1) (by omega) (by omega) (Fit.of [0, 1] rfl rfl rfl rfl ⟨rfl, rfl, rfl, ?_, rfl, trivial⟩ ⟨rfl, rfl, trivial⟩)
    · exact ⟨⟨trivial, by unfold InR; omega⟩, by unfold InR; omega⟩
    · show some (IA _) = some (IA _)
      rw [← e]; congr 3; omega
  have ht' : t = kn := by omega
  subst ht'
  refine ev_loop trivial (ι := Nat) (fun j => (j : Int) ≤ cnt m r t ∧ ∀ l : Nat, l < j → (l : Int) + lst t ≠ i) (fun j => 10000 - j) (fun j => [(1, IA t), (2, IA i), (3, .ptr 1 0), (8, IA ((frs m r).getD t 0)), (10, IA j)]) (fun _ => [(0, frm F), (1, .cells [IA m, IA r] 23)]) 2 0 ⟨by omega, fun l h => by omega⟩
    (Fit.of [0, 1] rfl rfl rfl rfl ⟨rfl, rfl, rfl, rfl, rfl, trivial⟩ ⟨rfl, rfl, trivial⟩) (fun j hj => ?_)
  refine on ?_
  refine call_pure trivial (c108 m r t) rfl (rv := IA (cnt m r t)) rfl trivial ?_
  refine on ?_
  have hf := fst_le hg t
  refine ev_lt trivial (fun h4 => ?_) (fun h4 => ?_) <;> refine on ?_
  · refine call_pure trivial (c109 t) rfl (rv := IA (lst t)) rfl trivial ?_
    refine on ?_
    refine ev_lt ⟨trivial, by unfold InR; omega⟩ (fun h5 => ?_) (fun h5 => ?_) <;> refine on ?_
    · refine ret1 ⟨trivial, by unfold InR; omega⟩ rfl ?_ rfl rfl
      rw [plc, if_pos ⟨hg, by omega, by omega, by omega, by omega⟩, fst, Int.toNat_natCast]
      have : (frs m r).getD t 0 + i - lst t = (frs m r).getD t 0 + j := by omega
      rw [this]; rfl
    · exact ev_lend ⟨trivial, by unfold InR; omega⟩ (j + 1) ⟨by omega, fun l hl' => by
        by_cases e : l = j
        · subst e; exact h5
        · exact hj.2 l (by omega)⟩ (by omega) (Fit.of [0, 1] rfl rfl rfl rfl ⟨rfl, rfl, rfl, rfl, rfl, trivial⟩ ⟨rfl, rfl, trivial⟩)
  · refine ret1 trivial rfl (no fun h => ?_) rfl rfl
    obtain ⟨_, _, _, h6, h7⟩ := h
    exact hj.2 (i - lst t).toNat (by omega) (by omega)
def mayv (m r i l : Int) : Int := if geo m r ∧ 0 ≤ i ∧ i < l then 0 else 2
theorem c162 (m r i l : Int) : ACtr Try.prog 162 2 [GA m r, .slc 1 0 2 2] [(1, .cells [IA i, IA l] 3)] (fun _ : Unit => 0) (fun _ => IA (mayv m r i l)) (fun _ => [(1, .cells [IA i, IA l] 3)]) := by
  refine act Try.func162 rfl rfl rfl A162_ok rfl fun F w0 b => ?_
  refine on ?_
  refine call_pure trivial (c131 m r) rfl (rv := IA (gck m r)) rfl trivial ?_
  refine on ?_
  refine ev_ne trivial (fun hg => ?_) (fun hg => ?_) <;> refine on ?_
  · refine reta trivial rfl () [0, 1] rfl rfl rfl rfl ?_ ⟨rfl, rfl, trivial⟩
    rw [mayv, if_neg (by intro h; exact hg (gck_0 h.1))]; rfl
  replace hg : geo m r := by
    by_cases hg' : geo m r
    · exact hg'
    · rw [gck_2 hg'] at hg; omega
  refine ev_loop trivial (ι := Bool) (fun x => x = true → 0 ≤ i ∧ i < l) (fun x => if x then 0 else 1) (fun x => [(1, .slc 1 0 2 2), (5, if x then IA 2 else IA 0)]) (fun _ => [(0, frm F), (1, .cells [IA i, IA l] 3)]) 2 false (fun h => by cases h)
    (Fit.of [0, 1] rfl rfl rfl rfl ⟨rfl, rfl, trivial⟩ ⟨rfl, rfl, trivial⟩) (fun x hx => ?_)
  cases x with
  | true =>
    refine on ?_
    refine ev_lt ⟨trivial, by decide⟩ (fun h1 => absurd h1 (by decide)) (fun _ => ?_)
    refine on ?_
    refine reta trivial rfl () [0, 1] rfl rfl rfl rfl ?_ ⟨rfl, rfl, trivial⟩
    rw [mayv, if_pos ⟨hg, hx rfl⟩]; rfl
  | false =>
    refine on ?_
    refine ev_lt ⟨trivial, by decide⟩ (fun _ => ?_) (fun h1 => absurd (by decide) h1)
    refine on ?_
    refine draw_ok mixed trivial O162_6_ok [(1, _)] Q162_6_ok ⟨rfl, trivial⟩ rfl (fun ρ0 => ?_)
    refine on ?_
    refine ev_lt (by decide) (fun h1 => ?_) (fun h1 => ?_) <;> refine on ?_
    · refine reta trivial rfl () [0, 1] rfl rfl rfl rfl ?_ ⟨rfl, rfl, trivial⟩
      rw [mayv, if_neg (by omega)]; rfl
    refine ev_lt (by simp [InR]) (fun h2 => ?_) (fun h2 => ?_) <;> refine on ?_
    · refine reta trivial rfl () [0, 1] rfl rfl rfl rfl ?_ ⟨rfl, rfl, trivial⟩
      rw [mayv, if_neg (by omega)]; rfl
    · exact ev_lend (by simp [InR]) true (fun _ => by omega) (by decide) (Fit.of [0, 1] rfl rfl rfl rfl ⟨rfl, rfl, trivial⟩ ⟨rfl, rfl, trivial⟩)
def oka (m r i : Int) : Prop := geo m r ∧ 0 ≤ i ∧ i < m * r
instance (m r i : Int) : Decidable (oka m r i) := by unfold oka; exact inferInstance
def atv (m r i : Int) : Int × Int × Int := if oka m r i then (i / m, i % m, 0) else (0, 0, 2)
abbrev T3 (x : Int × Int × Int) : Value := .tuple #[I x.1, I x.2.1, I x.2.2]
theorem may_oka (m r i : Int) : mayv m r i (leav m r) = if oka m r i then 0 else 2 := by
  unfold mayv oka leav
  by_cases hg : geo m r
  · rw [if_pos hg]
  · simp [hg]
theorem c135 (m r i : Int) : Ctr Try.prog 135 [GV m r, I i] emp (fun _ : Unit => T3 (atv m r i)) (fun _ => emp) := by
  refine pur [GA m r, IA i] Try.func135 rfl (by kernel_rfl) rfl A135_ok rfl rfl fun F w0 => ?_
  refine on ?_
  refine draw_ok mixed trivial O135_1_ok [(1, _)] Q135_1_ok ⟨rfl, trivial⟩ rfl (fun ρ0 => ?_)
  refine on ?_
  refine call_pure trivial (c163 m r) rfl (rv := IA (leav m r)) rfl ⟨rfl, trivial⟩ ?_
  refine on ?_
  refine call_ab trivial (c162 m r i (leav m r)) [2] rfl rfl rfl rfl rfl ⟨rfl, trivial⟩ (fun _ => rfl) (fun _ => rfl) (fun _ => ⟨rfl, trivial⟩) (fun _ => ?_)
  refine on ?_
  rw [may_oka]
  refine ev_ne trivial (fun h => ?_) (fun h => ?_) <;> refine on ?_
  · have hn : ¬ oka m r i := fun ho => h (if_pos ho)
    refine ret1 trivial rfl ?_ rfl rfl
    rw [if_neg hn, atv, if_neg hn]; rfl
  have ho : oka m r i := by
    by_cases ho : oka m r i
    · exact ho
    · rw [if_neg ho] at h; omega
  have hg := ho.1
  unfold geo at hg
  refine draw_ok mixed trivial O135_4_ok [(1, _)] Q135_4_ok ⟨rfl, trivial⟩ rfl (fun ρ0 => ?_)
  refine on ?_
  have e1 : i.tdiv m = i / m := Int.tdiv_eq_ediv_of_nonneg ho.2.1
  have e2 : i.tmod m = i % m := Int.tmod_eq_emod_of_nonneg ho.2.1
  refine ret1 ?_ rfl ?_ rfl rfl
  · have hm := geo_mul ho.1
    have h3 := ho.2.2
    have h4 := Int.ediv_le_self m ho.2.1
    have h5 : 0 ≤ i / m := Int.ediv_nonneg ho.2.1 (by omega)
    rw [e1]
    refine ⟨⟨trivial, by omega, ?_⟩, by omega⟩
    unfold InR; omega
  · rw [e1, e2, atv, if_pos ho]; rfl
theorem c55 (m r i : Int) (hi : InR i) : Ctr Try.prog 55 [GV m r, I i] emp (fun _ : Unit => T3 (atv m r i)) (fun _ => emp) := by
  refine pur [GA m r, IA i] Try.func55 rfl (by kernel_rfl) rfl A55_ok rfl rfl fun F w0 => ?_
  refine on ?_
  refine call_pure trivial (c107 m r) rfl (rv := .v (.bool (decide (geo m r)))) rfl trivial ?_
  refine on ?_
  have no : ¬ oka m r i → (resV [IA 0, IA 0, IA 2]).ev [] = some (T3 (atv m r i)) := fun h => by rw [atv, if_neg h]; rfl
  refine ev_ne trivial (fun hg => ?_) (fun hg => ?_) <;> refine on ?_
  · exact ret1 trivial rfl (no fun h => hg h.1) rfl rfl
  refine ev_lt trivial (fun h1 => ?_) (fun h1 => ?_) <;> refine on ?_
  · exact ret1 trivial rfl (no fun h => by have := h.2.1; omega) rfl rfl
  have hg' := hg
  unfold geo at hg'
  have hm := geo_mul hg
  unfold InR at hi
  refine ev_loop trivial (ι := Nat) (fun t => (t : Int) ≤ r ∧ 0 ≤ i - t * m) (fun t => 100 - t) (fun t => [(1, IA (i - t * m)), (2, .ptr 1 0), (7, IA t)]) (fun _ => [(0, frm F), (1, .cells [IA m, IA r] 23)]) 2 0 (by omega)
    (Fit.of [0, 1] rfl rfl rfl rfl ⟨?_, rfl, rfl, trivial⟩ ⟨rfl, rfl, trivial⟩) (fun t ht => ?_)
  · show some (IA i) = some (IA _)
    congr 3; omega
  refine on ?_
  refine ev_lt trivial (fun h2 => ?_) (fun h2 => ?_) <;> refine on ?_
  · have h7 : 0 ≤ (t : Int) * m := Int.mul_nonneg (by omega) (by omega)
    refine ev_lt trivial (fun h3 => ?_) (fun h3 => ?_) <;> refine on ?_
    · refine ret1 trivial rfl ?_ rfl rfl
      have h4 : ((t : Int) + 1) * m ≤ r * m := Int.mul_le_mul_of_nonneg_right (by omega) (by omega)
      rw [Int.add_mul] at h4
      have h5 : i < m * r := by rw [Int.mul_comm m r]; omega
      have h6 := (Int.ediv_emod_unique (a := i) (b := m) (r := i - t * m) (q := t) (by omega)).2 ⟨by rw [Int.mul_comm m]; omega, ht.2, h3⟩
      rw [atv, if_pos ⟨hg, by omega, h5⟩, h6.1, h6.2]; rfl
    · have e : i - ((t + 1 : Nat) : Int) * m = i - t * m - m := by
        have : ((t + 1 : Nat) : Int) * m = t * m + m := by rw [Int.natCast_add, Int.add_mul]; simp
        omega
      refine ev_lend ⟨⟨trivial, by unfold InR; omega⟩, by unfold InR; omega⟩ (t + 1) ⟨by omega, by omega⟩ (by omega) (Fit.of [0, 1] rfl rfl rfl rfl ⟨?_, rfl, rfl, trivial⟩ ⟨rfl, rfl, trivial⟩)
      show some (IA _) = some (IA _)
      rw [e]
  · refine ret1 trivial rfl (no fun h => ?_) rfl rfl
    have : (t : Int) = r := by omega
    have h5 := h.2.2
    rw [← this, Int.mul_comm m] at h5
    omega
end Go.Proofs.Ytolcobhaghdfcaa
