/- Contracts: bus.Log; casematelaw13.over. -/
import Derived.Test.YtolcobhaghdfcaaCop
import Derived.Test.YtolcobhaghdfcaaQui
namespace Go.Proofs.Ytolcobhaghdfcaa
open Sx Go
set_option maxRecDepth 100000
theorem Ent.enc_len {e : Ent} (h : e.ok) : e.enc.length = 68 := by unfold Ent.ok at h; simp [Ent.enc, h]
theorem encE_len {l : List Ent} (h : ∀ e ∈ l, e.ok) : (encE l).length = l.length * 68 := by
  induction l with
  | nil => rfl
  | cons w r ih =>
    have hw := Ent.enc_len (h w (by simp))
    have := ih fun w hw => h w (by simp [hw])
    simp only [encE, List.flatMap_cons, List.length_append, List.length_cons] at this ⊢
    rw [hw]; omega
theorem encE_one (l : List Ent) : ∀ u ∈ encE l, u.oneCell' = true := fun u hu => by
  obtain ⟨w, _, hw⟩ := List.mem_flatMap.1 hu
  exact w.one u hw
theorem encE_get {l : List Ent} (hok : ∀ c ∈ l, c.ok) {t : Nat} (h : t < l.length) {j : Nat} {u : Value} (hj : (l[t]).enc[j]? = some u) : (encE l)[t * 68 + j]? = some u := by
  induction l generalizing t with
  | nil => simp at h
  | cons w r ih =>
    have hw := Ent.enc_len (hok w (by simp))
    simp only [encE, List.flatMap_cons]
    cases t with
    | zero =>
      simp at hj
      rw [Nat.zero_mul, Nat.zero_add, List.getElem?_append_left (by have := (List.getElem?_eq_some_iff.1 hj).1; omega)]
      exact hj
    | succ t =>
      simp at hj
      rw [List.getElem?_append_right (by rw [hw]; omega), hw, show (t + 1) * 68 + j - 68 = t * 68 + j by omega]
      exact ih (fun w hw => hok w (by simp [hw])) (by simpa using h) hj
theorem c30 (B : Bs) (b : Nat) (hlog : B.log.length ≤ 100000) : ACtr Try.prog 30 2 [PA b] [(1, frm (busH B b))] (fun _ : Option Addr × Nat => 1) (fun x => SA x.1 B.log.length x.2) (fun x => [(1, frm (busH B b)), (2, frm (ownH 64 68 x.1 B.log.length x.2 (encE B.log)))]) := by
  refine act Try.func30 rfl rfl rfl A30_ok rfl fun F w0 bb => ?_
  refine on ?_
  refine call_ab trivial (c69 B b) [1] rfl rfl rfl rfl rfl ⟨rfl, trivial⟩ (fun _ => rfl) (fun _ => rfl) (fun _ => trivial) (fun _ => ?_)
  refine busE 1 0 rfl rfl rfl (fun _ => trivial) fun x ok => ?_
  obtain ⟨ma, mc, sa, sc, la, lc⟩ := x
  refine pureF 6 rfl rfl (q := la = none → B.log.length = 0 ∧ lc = 0) (fun h hh => ownH_none hh) fun hla => ?_
  refine on ?_
  refine call_ab trivial (c80 la B.log.length lc (encE B.log) (ownH 64 68 la B.log.length lc (encE B.log)) (fun h hh => ownH_rd hh) hla (encE_len ok.2.2.2.2) (encE_one _) ⟨by omega, by unfold maxLen; omega⟩) [6] rfl rfl rfl rfl rfl ⟨rfl, trivial⟩ (fun _ => rfl) (fun _ => rfl) (fun _ => trivial) (fun x => ?_)
  refine on ?_
  refine busR trivial 1 2 B ⟨ma, mc, sa, sc, la, lc⟩ ok rfl rfl rfl rfl rfl rfl rfl ?_
  exact retE trivial rfl x [0, 1, 7] rfl rfl rfl rfl ⟨_, rfl, fun ρ => rfl⟩ ⟨rfl, rfl, rfl, trivial⟩
abbrev ovK (y : Ac) : Int := bits .and .i64 y.do_ 7
structure Ov where
  err : Int
  B : Bs
  Ms : List Mem
  C : Cl
def ov (B : Bs) (Ms : List Mem) (C : Cl) (y : Ac) : Ov :=
  if ovK y = 1 ∨ ovK y = 2 then ⟨(wEnt B Ms y.mem y.idx y.data).err, busLog B Ms (wEnt B Ms y.mem y.idx y.data), wMs B Ms y.mem y.idx y.data, C⟩
  else if ovK y = 3 then ⟨(fEnt B Ms y.mem).err, busLog B Ms (fEnt B Ms y.mem), fMs B Ms y.mem, C⟩
  else if ovK y = 4 then ⟨(cEnt B Ms C).err, busLog B Ms (cEnt B Ms C), MsS B Ms, C⟩
  else if ovK y = 5 then ⟨(aEnt B Ms C y.label).err, busLog B Ms (aEnt B Ms C y.label), MsS B Ms, aCel B Ms C y.label⟩
  else if ovK y = 6 then ⟨0, B, Ms, C⟩
  else ⟨(rEnt B Ms y.mem y.idx).err, busLog B Ms (rEnt B Ms y.mem y.idx), rMs B Ms y.mem y.idx, C⟩
theorem c29 (B : Bs) (b : Nat) (Ms : List Mem) (C : Cl) (hst : ∀ s ∈ B.steps, s.at_ = nowB B → okS s) (hlen : ∀ M ∈ Ms, M.log.length ≤ 1000000) (hlog : B.log.length ≤ 100000) (y : Ac) (hy : y.ok) (hpast : C.past.length < 1000000) :
    ACtr Try.prog 29 4 [PA b, y.av] (busPre B b Ms C) (fun _ : Unit => 0) (fun _ => IA (ov B Ms C y).err) (fun _ => busPre (ov B Ms C y).B b (ov B Ms C y).Ms (ov B Ms C y).C) := by
  refine act Try.func29 rfl rfl rfl A29_ok rfl fun F w0 bb => ?_
  refine on ?_
  refine ev_lt trivial (fun h1 => ?_) (fun h1 => ?_)
  · have e : ov B Ms C y = ⟨(wEnt B Ms y.mem y.idx y.data).err, busLog B Ms (wEnt B Ms y.mem y.idx y.data), wMs B Ms y.mem y.idx y.data, C⟩ := by rw [ov, if_pos (.inl h1)]
    rw [e]
    refine on ?_
    refine call_ab trivial (c20 B b Ms C hst hlen hlog y.mem y.idx y.data hy.1) [1, 2, 3] rfl rfl rfl rfl rfl ⟨rfl, rfl, rfl, trivial⟩ (fun _ => rfl) (fun _ => rfl) (fun _ => trivial) (fun _ => ?_)
    refine on ?_
    exact retE trivial rfl () [0, 1, 2, 3] rfl rfl rfl rfl ⟨_, rfl, fun ρ => rfl⟩ ⟨rfl, rfl, rfl, rfl, trivial⟩
  refine on ?_
  refine ev_lt trivial (fun h2 => ?_) (fun h2 => ?_)
  · have e : ov B Ms C y = ⟨(wEnt B Ms y.mem y.idx y.data).err, busLog B Ms (wEnt B Ms y.mem y.idx y.data), wMs B Ms y.mem y.idx y.data, C⟩ := by rw [ov, if_pos (.inr h2)]
    rw [e]
    refine on ?_
    refine call_ab trivial (c20 B b Ms C hst hlen hlog y.mem y.idx y.data hy.1) [1, 2, 3] rfl rfl rfl rfl rfl ⟨rfl, rfl, rfl, trivial⟩ (fun _ => rfl) (fun _ => rfl) (fun _ => trivial) (fun _ => ?_)
    refine on ?_
    exact retE trivial rfl () [0, 1, 2, 3] rfl rfl rfl rfl ⟨_, rfl, fun ρ => rfl⟩ ⟨rfl, rfl, rfl, rfl, trivial⟩
  have h12 : ¬ (ovK y = 1 ∨ ovK y = 2) := fun h => h.elim h1 h2
  refine on ?_
  refine ev_lt trivial (fun h3 => ?_) (fun h3 => ?_)
  · have e : ov B Ms C y = ⟨(fEnt B Ms y.mem).err, busLog B Ms (fEnt B Ms y.mem), fMs B Ms y.mem, C⟩ := by rw [ov, if_neg h12, if_pos h3]
    rw [e]
    refine on ?_
    refine call_ab trivial (c22 B b Ms C hst hlen hlog y.mem) [1, 2, 3] rfl rfl rfl rfl rfl ⟨rfl, rfl, rfl, trivial⟩ (fun _ => rfl) (fun _ => rfl) (fun _ => trivial) (fun _ => ?_)
    refine on ?_
    exact retE trivial rfl () [0, 1, 2, 3] rfl rfl rfl rfl ⟨_, rfl, fun ρ => rfl⟩ ⟨rfl, rfl, rfl, rfl, trivial⟩
  refine on ?_
  refine ev_lt trivial (fun h4 => ?_) (fun h4 => ?_)
  · have e : ov B Ms C y = ⟨(cEnt B Ms C).err, busLog B Ms (cEnt B Ms C), MsS B Ms, C⟩ := by rw [ov, if_neg h12, if_neg h3, if_pos h4]
    rw [e]
    refine on ?_
    refine call_ab trivial (c32 B b Ms C hst hlen hlog) [1, 2, 3] rfl rfl rfl rfl rfl ⟨rfl, rfl, rfl, trivial⟩ (fun _ => rfl) (fun _ => rfl) (fun _ => trivial) (fun _ => ?_)
    refine on ?_
    exact retE trivial rfl () [0, 1, 2, 3] rfl rfl rfl rfl ⟨_, rfl, fun ρ => rfl⟩ ⟨rfl, rfl, rfl, rfl, trivial⟩
  refine on ?_
  refine ev_lt trivial (fun h5 => ?_) (fun h5 => ?_)
  · have e : ov B Ms C y = ⟨(aEnt B Ms C y.label).err, busLog B Ms (aEnt B Ms C y.label), MsS B Ms, aCel B Ms C y.label⟩ := by rw [ov, if_neg h12, if_neg h3, if_neg h4, if_pos h5]
    rw [e]
    refine on ?_
    refine call_ab trivial (c79 B b Ms C hst hlen hlog y.label hy.2 hpast) [1, 2, 3] rfl rfl rfl rfl rfl ⟨rfl, rfl, rfl, trivial⟩ (fun _ => rfl) (fun _ => rfl) (fun _ => trivial) (fun _ => ?_)
    refine on ?_
    exact retE trivial rfl () [0, 1, 2, 3] rfl rfl rfl rfl ⟨_, rfl, fun ρ => rfl⟩ ⟨rfl, rfl, rfl, rfl, trivial⟩
  refine on ?_
  refine ev_lt trivial (fun h6 => ?_) (fun h6 => ?_)
  · have e : ov B Ms C y = ⟨0, B, Ms, C⟩ := by rw [ov, if_neg h12, if_neg h3, if_neg h4, if_neg h5, if_pos h6]
    rw [e]
    refine on ?_
    exact retE trivial rfl () [0, 1, 2, 3] rfl rfl rfl rfl ⟨_, rfl, fun ρ => rfl⟩ ⟨rfl, rfl, rfl, rfl, trivial⟩
  have e : ov B Ms C y = ⟨(rEnt B Ms y.mem y.idx).err, busLog B Ms (rEnt B Ms y.mem y.idx), rMs B Ms y.mem y.idx, C⟩ := by rw [ov, if_neg h12, if_neg h3, if_neg h4, if_neg h5, if_neg h6]
  rw [e]
  refine on ?_
  refine call_ab trivial (c24 B b Ms C hst hlen hlog y.mem y.idx) [1, 2, 3] rfl rfl rfl rfl rfl ⟨rfl, rfl, rfl, trivial⟩ (fun _ => rfl) (fun _ => rfl) (fun _ => trivial) (fun _ => ?_)
  refine on ?_
  exact retE trivial rfl () [0, 1, 2, 3] rfl rfl rfl rfl ⟨_, rfl, fun ρ => rfl⟩ ⟨rfl, rfl, rfl, rfl, trivial⟩
end Go.Proofs.Ytolcobhaghdfcaa
