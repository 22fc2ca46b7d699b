/- Contract of casematelaw13.awake. -/
import Derived.Test.YtolcobhaghdfcaaTwo
import Derived.Test.YtolcobhaghdfcaaAcD

namespace Go.Proofs.Ytolcobhaghdfcaa
open Sx Go
set_option maxRecDepth 100000
section
variable (a b c : Nat)
def aB (l : List Ent) (off : Bool) : Bs := ⟨[a, b], c, givenL, off, l⟩
def aM0 : List Mem := [newM 4, newM 4]
def aM2 : List Mem := [setM (newM 4) 2 (fullL 1), newM 4]
def aM3 : List Mem := [setM (newM 4) 2 (fullL 1), wrM (newM 4) 0 (fullL 1)]
def aE1 : Ent := ⟨1, 0, 2, Z64, 0⟩
def aE2 : Ent := ⟨1, 0, 2, fullL 1, 0⟩
def aE3 : Ent := ⟨2, 1, 0, fullL 1, 0⟩
def aE4 : Ent := ⟨2, 1, 1, fullL 1, 13⟩
def aM4 : List Mem := crashL [0, 1] aM3
theorem aw1 : rEnt (aB a b c [] false) aM0 0 2 = aE1 := by kernel_rfl
theorem aw1' : rMs (aB a b c [] false) aM0 0 2 = aM0 := by kernel_rfl
theorem aw1b : busLog (aB a b c [] false) aM0 aE1 = aB a b c [aE1] false := by kernel_rfl
theorem aw2 : rEnt (aB a b c [aE1] false) aM0 0 2 = aE2 := by kernel_rfl
theorem aw2' : rMs (aB a b c [aE1] false) aM0 0 2 = aM2 := by kernel_rfl
theorem aw2b : busLog (aB a b c [aE1] false) aM0 aE2 = aB a b c [aE1, aE2] false := by kernel_rfl
theorem aw3 : wEnt (aB a b c [aE1, aE2] false) aM2 1 0 (fullL 1) = aE3 := by kernel_rfl
theorem aw3' : wMs (aB a b c [aE1, aE2] false) aM2 1 0 (fullL 1) = aM3 := by kernel_rfl
theorem aw3b : busLog (aB a b c [aE1, aE2] false) aM2 aE3 = aB a b c [aE1, aE2, aE3] false := by kernel_rfl
theorem aw4 : wEnt (aB a b c [aE1, aE2, aE3] false) aM3 1 1 (fullL 1) = aE4 := by kernel_rfl
theorem aw4' : wMs (aB a b c [aE1, aE2, aE3] false) aM3 1 1 (fullL 1) = aM4 := by kernel_rfl
theorem aw4b : busLog (aB a b c [aE1, aE2, aE3] false) aM3 aE4 = aB a b c [aE1, aE2, aE3, aE4] true := by kernel_rfl
theorem given_ok (now : Int) : ∀ s ∈ givenL, s.at_ = now → okS s := fun s hs _ => by
  simp only [givenL, List.mem_cons, List.not_mem_nil, or_false] at hs
  rcases hs with rfl | rfl <;> exact ⟨by decide, by decide⟩
theorem newM_log (n : Int) : (newM n).log.length ≤ 1000000 := by simp [newM]
theorem aM0_log : ∀ M ∈ aM0, M.log.length ≤ 1000000 := by
  intro M hM
  simp only [aM0, List.mem_cons, List.not_mem_nil, or_false] at hM
  rcases hM with rfl | rfl <;> exact newM_log _
theorem aM2_log : ∀ M ∈ aM2, M.log.length ≤ 1000000 := by
  intro M hM
  simp only [aM2, List.mem_cons, List.not_mem_nil, or_false] at hM
  rcases hM with rfl | rfl
  · exact Nat.le_trans (setM_log _ _ _) (newM_log _)
  · exact newM_log _
theorem aM3_log : ∀ M ∈ aM3, M.log.length ≤ 1000000 := by
  intro M hM
  simp only [aM3, List.mem_cons, List.not_mem_nil, or_false] at hM
  rcases hM with rfl | rfl
  · exact Nat.le_trans (setM_log _ _ _) (newM_log _)
  · have : (wrM (newM 4) 0 (fullL 1)).log.length = 1 := by kernel_rfl
    omega
theorem ar1 (x : Nat) : ACtr Try.prog 24 4 [PA x, IA 0, IA 2] (busPre (aB a b c [] false) x aM0 cel0) (fun _ : Unit => 0) (fun _ => .tup [.run .u8 64 Z64, IA 0]) (fun _ => busPre (aB a b c [aE1] false) x aM0 cel0) := by
  have h := c24 (aB a b c [] false) x aM0 cel0 (given_ok _) aM0_log (by simp [aB]) 0 2
  rw [aw1, aw1', aw1b] at h
  exact h
theorem ar2 (x : Nat) : ACtr Try.prog 24 4 [PA x, IA 0, IA 2] (busPre (aB a b c [aE1] false) x aM0 cel0) (fun _ : Unit => 0) (fun _ => .tup [.run .u8 64 (fullL 1), IA 0]) (fun _ => busPre (aB a b c [aE1, aE2] false) x aM2 cel0) := by
  have h := c24 (aB a b c [aE1] false) x aM0 cel0 (given_ok _) aM0_log (by simp [aB]) 0 2
  rw [aw2, aw2', aw2b] at h
  exact h
theorem ar3 (x : Nat) : ACtr Try.prog 20 4 [PA x, IA 1, IA 0, .run .u8 64 (fullL 1)] (busPre (aB a b c [aE1, aE2] false) x aM2 cel0) (fun _ : Unit => 0) (fun _ => IA 0) (fun _ => busPre (aB a b c [aE1, aE2, aE3] false) x aM3 cel0) := by
  have h := c20 (aB a b c [aE1, aE2] false) x aM2 cel0 (given_ok _) aM2_log (by simp [aB]) 1 0 (fullL 1) rfl
  rw [aw3, aw3', aw3b] at h
  exact h
theorem ar4 (x : Nat) : ACtr Try.prog 20 4 [PA x, IA 1, IA 1, .run .u8 64 (fullL 1)] (busPre (aB a b c [aE1, aE2, aE3] false) x aM3 cel0) (fun _ : Unit => 0) (fun _ => IA 13) (fun _ => busPre (aB a b c [aE1, aE2, aE3, aE4] true) x aM4 cel0) := by
  have h := c20 (aB a b c [aE1, aE2, aE3] false) x aM3 cel0 (given_ok _) aM3_log (by simp [aB]) 1 1 (fullL 1) rfl
  rw [aw4, aw4', aw4b] at h
  exact h
end
theorem given_ds (q : Nat) : dsOk givenL (givenD q) := ⟨fun _ => ⟨rfl, rfl⟩, by decide, by simp [Stp.ok], fun h => (by cases h), by decide, by simp [Stp.ok], trivial⟩
theorem given_P (q : Nat) : ∀ h, ownH 5 1 (some ⟨q, 0, none⟩) 2 2 (U8 [0, 1]) h → ∀ (t : Nat) (h1 : t < givenL.length) (h2 : t < (givenD q).length), rdA (givenD q)[t].1 (U8 givenL[t].picks) h := fun h hh t h1 h2 => by
  match t, h1, h2 with
  | 0, _, _ => intro j v hj; simp at hj
  | 1, _, _ => exact ownH_rd hh
theorem xtt {c : Prop} [Decidable c] {q : Prop} (hc : c) (h : (false ^^ decide c) = false) : q := by simp [hc] at h
theorem hurt1 {q : Prop} (h : (setM (newM 4) 2 (fullL 1)).hurt = false) : q := by
  have : (setM (newM 4) 2 (fullL 1)).hurt = true := by kernel_rfl
  rw [this] at h; cases h
theorem c17 : ACtr Try.prog 17 1 [] [] (fun _ : Unit => 0) (fun _ => .tt) (fun _ => []) := by
  refine act Try.func17 rfl rfl rfl A17_ok rfl fun F w0 bb => ?_
  refine on ?_
  refine call_ab trivial c60 [] rfl rfl rfl rfl rfl trivial (fun _ => rfl) (fun _ => rfl) (fun _ => trivial) (fun x => ?_)
  obtain ⟨g, q⟩ := x
  refine on ?_
  refine call_ab trivial (c18 (some ⟨g, 0, none⟩) 2 givenL (givenD q) (ownH 40 70 (some ⟨g, 0, none⟩) 2 2 (encS givenL (givenD q))) (fun h hh => ownH_rd hh) (fun e => by cases e) (given_ds q) (by decide) (ownH 5 1 (some ⟨q, 0, none⟩) 2 2 (U8 [0, 1])) (given_P q)) [1, 2] rfl rfl rfl rfl rfl ⟨rfl, rfl, trivial⟩ (fun _ => rfl) (fun _ => rfl) (fun _ => trivial) (fun x => ?_)
  obtain ⟨x, a, b, c⟩ := x
  refine on ?_
  refine call_ab trivial (ar1 a b c x) [3, 4, 5] rfl rfl rfl rfl rfl ⟨rfl, rfl, rfl, trivial⟩ (fun _ => rfl) (fun _ => rfl) (fun _ => trivial) (fun _ => ?_)
  refine on ?_
  refine call_ab trivial (ar2 a b c x) [3, 4, 5] rfl rfl rfl rfl rfl ⟨rfl, rfl, rfl, trivial⟩ (fun _ => rfl) (fun _ => rfl) (fun _ => trivial) (fun _ => ?_)
  refine on ?_
  refine draw_ok mixed trivial O17_6_ok [(6, _), (7, _)] Q17_6_ok ⟨rfl, rfl, trivial⟩ rfl (fun ρ0 => ?_)
  refine on ?_
  refine ev_br trivial (fun _ => ?_) (fun h => xtt rfl h)
  refine on ?_
  refine ev_lt trivial (fun _ => ?_) (fun h => absurd rfl h)
  refine on ?_
  refine call_ab trivial (c61 1) [] rfl rfl rfl rfl rfl trivial (fun _ => rfl) (fun _ => rfl) (fun _ => ⟨rfl, rfl, trivial⟩) (fun _ => ?_)
  refine on ?_
  refine ev_br trivial (fun _ => ?_) (fun h => xtt rfl h)
  refine on ?_
  refine ev_lt trivial (fun _ => ?_) (fun h => absurd rfl h)
  refine splitF 4 (B := memH (setM (newM 4) 2 (fullL 1)) a) (C := memsH [b] [newM 4]) rfl rfl ⟨rfl, rfl, trivial⟩ (fun h hh => hh) ?_
  refine on ?_
  refine call_ab trivial (c27 (setM (newM 4) 2 (fullL 1)) a) [8] rfl rfl rfl rfl rfl ⟨rfl, trivial⟩ (fun _ => rfl) (fun _ => rfl) (fun _ => ⟨rfl, rfl, trivial⟩) (fun _ => ?_)
  refine joinF 4 8 (A := memsH [a, b] aM2) rfl rfl rfl rfl rfl ⟨rfl, rfl, trivial⟩ (fun h hh => hh) ?_
  refine on ?_
  refine ev_br trivial (fun _ => ?_) (fun h => hurt1 h)
  refine on ?_
  refine call_ab trivial (c61 1) [] rfl rfl rfl rfl rfl trivial (fun _ => rfl) (fun _ => rfl) (fun _ => ⟨rfl, rfl, trivial⟩) (fun _ => ?_)
  refine on ?_
  refine call_ab trivial (ar3 a b c x) [3, 4, 5] rfl rfl rfl rfl rfl ⟨rfl, rfl, rfl, trivial⟩ (fun _ => rfl) (fun _ => rfl) (fun _ => ⟨rfl, rfl, trivial⟩) (fun _ => ?_)
  refine on ?_
  refine ev_lt trivial (fun _ => ?_) (fun h => absurd rfl h)
  refine on ?_
  refine call_ab trivial (c61 1) [] rfl rfl rfl rfl rfl trivial (fun _ => rfl) (fun _ => rfl) (fun _ => ⟨rfl, rfl, trivial⟩) (fun _ => ?_)
  refine on ?_
  refine call_ab trivial (ar4 a b c x) [3, 4, 5] rfl rfl rfl rfl rfl ⟨rfl, rfl, rfl, trivial⟩ (fun _ => rfl) (fun _ => rfl) (fun _ => ⟨rfl, rfl, trivial⟩) (fun _ => ?_)
  refine on ?_
  refine ev_lt trivial (fun _ => ?_) (fun h => absurd rfl h)
  refine on ?_
  refine call_ab trivial (c28 (aB a b c [aE1, aE2, aE3, aE4] true) x) [3] rfl rfl rfl rfl rfl ⟨rfl, trivial⟩ (fun _ => rfl) (fun _ => rfl) (fun _ => ⟨rfl, rfl, trivial⟩) (fun _ => ?_)
  refine on ?_
  refine ev_br trivial (fun _ => ?_) (fun h => absurd h (by simp [aB]))
  refine on ?_
  refine call_ab trivial (c42 (aB a b c [aE1, aE2, aE3, aE4] true) x) [3] rfl rfl rfl rfl rfl ⟨rfl, trivial⟩ (fun _ => rfl) (fun _ => rfl) (fun _ => ⟨rfl, rfl, trivial⟩) (fun _ => ?_)
  refine on ?_
  exact retE trivial rfl () [0] rfl rfl rfl rfl ⟨_, rfl, fun ρ => rfl⟩ ⟨rfl, trivial⟩
end Go.Proofs.Ytolcobhaghdfcaa
