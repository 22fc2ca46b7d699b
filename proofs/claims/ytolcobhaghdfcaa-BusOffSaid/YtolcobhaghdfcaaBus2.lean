/- Contracts of package bus: steps. -/
import Derived.Test.YtolcobhaghdfcaaBus
import Derived.Test.YtolcobhaghdfcaaMem5
namespace Sx
open Go
theorem ACtr.args {P : Program} {f n : Nat} {avs avs' : List AV} {pre : List (Nat × Chunk)} {X : Type} {m : X → Nat} {rv : X → AV} {post : X → List (Nat × Chunk)} (h : ACtr P f n avs pre m rv post)
    (he : ∀ ρ, AV.evs ρ avs' = AV.evs ρ avs) : ACtr P f n avs' pre m rv post := fun F ρ vs w h1 h2 h3 => h F ρ vs w h1 (by rw [← he]; exact h2) h3
theorem ev_idxv {cx : Cx} {p : Prop} {d : Nat} {T t e : TypeId} {o1 o2 : Operand} {z1 z2 : Arg} {cs : List AV} {k : IntKind} {j : Int} {v : AV} {n : Nat} {i : TypeInfo} {dd : TypeDesc} {stk : List K} {fr : List (Nat × AV)} {ch : List (Nat × Chunk)} {nx : Nat} (hp : p)
    (h1 : argOf o1 = some z1) (h2 : argOf o2 = some z2) (h3 : argv fr z1 = some (.agg cs)) (h4 : argv fr z2 = some (.v (.int k j))) (hu : cx.P.underlying t = some (.array n e)) (hi : cx.P.info? e = some i) (hs : i.size = 1) (hd : cx.P.underlying e = some dd) (hag : isAggD dd = false)
    (hj : 0 ≤ j ∧ j < n) (hv : oneN cs j.toNat = some v) (hG : Good cx ⟨stk, (d, v) :: fr, ch, nx⟩) : EvOk cx (.op p (.other (some d) (.index t o1 o2) T) stk fr ch nx) := by
  refine ev_val hp (fun ρ a w x H _ _ hx hT => ?_) hG
  have he := argOf_ok H h1 h3
  simp only [AV.ev, Option.map_eq_some_iff] at he
  obtain ⟨vs, hvs, he⟩ := he
  have e2 := argv_int H h2 h4 rfl
  obtain ⟨y, hy, hye⟩ := oneN_spec hv hvs
  refine ⟨y, hye, ?_⟩
  simp [execOp, hx, ← he, e2, Instr.index, asIntOf, run_underlying hu, hj, run_sizeOf hi, hs, part, run_isAgg hd, hag, hy]
end Sx
namespace Go.Proofs.Ytolcobhaghdfcaa
open Sx Go
set_option maxRecDepth 100000
theorem c151 (M : Mem) (mb : Nat) : ACtr Try.prog 151 3 [.ptr 1 0] [(1, .cells [PA mb] 42), (2, frm (memH M mb))] (fun _ : Unit => 0) (fun _ => .tup []) (fun _ => [(1, .cells [PA mb] 42), (2, frm (memH (faM M true) mb))]) := by
  refine act Try.func151 rfl rfl rfl A151_ok rfl fun F w0 bb => ?_
  refine on ?_
  refine call_ab trivial ((c50 M mb true).args (avs' := [PA mb, .tt]) (fun ρ => rfl)) [2] rfl rfl rfl rfl rfl ⟨rfl, trivial⟩ (fun _ => rfl) (fun _ => rfl) (fun _ => trivial) (fun _ => ?_)
  refine on ?_
  exact fina trivial rfl () [0, 1, 2] rfl rfl rfl rfl ⟨_, rfl, fun ρ => rfl⟩ ⟨rfl, rfl, rfl, trivial⟩
theorem c152 (M : Mem) (mb : Nat) : ACtr Try.prog 152 3 [.ptr 1 0] [(1, .cells [PA mb] 42), (2, frm (memH M mb))] (fun _ : Unit => 0) (fun _ => .tup []) (fun _ => [(1, .cells [PA mb] 42), (2, frm (memH (faM M false) mb))]) := by
  refine act Try.func152 rfl rfl rfl A152_ok rfl fun F w0 bb => ?_
  refine on ?_
  refine call_ab trivial ((c50 M mb false).args (avs' := [PA mb, .ff]) (fun ρ => rfl)) [2] rfl rfl rfl rfl rfl ⟨rfl, trivial⟩ (fun _ => rfl) (fun _ => rfl) (fun _ => trivial) (fun _ => ?_)
  refine on ?_
  exact fina trivial rfl () [0, 1, 2] rfl rfl rfl rfl ⟨_, rfl, fun ρ => rfl⟩ ⟨rfl, rfl, rfl, trivial⟩
abbrev Stp.cs (s : Stp) (d : Ds) : List AV := [IA s.at_, IA s.kind, IA s.mem, IA s.idx, IA s.n, .run .u8 64 s.data, SA d.1 s.picks.length d.2]
theorem c146 (M : Mem) (mb : Nat) (s : Stp) (d : Ds) (hs : s.ok) (hl : M.log.length ≤ 1000000) : ACtr Try.prog 146 4 [.ptr 1 0, .ptr 2 0] [(1, .cells [PA mb] 42), (2, .cells (s.cs d) 40), (3, frm (memH M mb))] (fun _ : Unit => 0) (fun _ => .tup []) (fun _ => [(1, .cells [PA mb] 42), (2, .cells (s.cs d) 40), (3, frm (memH (setM M s.idx s.data) mb))]) := by
  refine act Try.func146 rfl rfl rfl A146_ok rfl fun F w0 bb => ?_
  refine on ?_
  refine call_ab trivial (c53 M mb s.idx s.data hs hl) [3] rfl rfl rfl rfl rfl ⟨rfl, trivial⟩ (fun _ => rfl) (fun _ => rfl) (fun _ => trivial) (fun _ => ?_)
  refine on ?_
  exact fina trivial rfl () [0, 1, 2, 3] rfl rfl rfl rfl ⟨_, rfl, fun ρ => rfl⟩ ⟨rfl, rfl, rfl, rfl, trivial⟩
/-- what a step does to a member -/
def stM (s : Stp) (M : Mem) : Mem := if s.kind = 1 then setM M s.idx s.data else if s.kind = 4 then faM M true else if s.kind = 5 then faM M false else M
def stepB (s : Stp) (st : Bool × List Mem) : Bool × List Mem :=
  if s.kind = 6 then (true, crashL s.picks st.2)
  else if s.kind < 1 ∨ 5 < s.kind ∨ s.mem < 0 ∨ (st.2.length : Int) ≤ s.mem then st
  else match st.2[s.mem.toNat]? with
    | some M => (st.1, st.2.set s.mem.toNat (stM s M))
    | none => st
/-- the steps that are spoken of here -/
def okS (s : Stp) : Prop := s.kind ≠ 2 ∧ s.kind ≠ 3
theorem fn_facts : ∃ i dd, Try.prog.info? 1 = some i ∧ i.size = 1 ∧ Try.prog.underlying 1 = some dd ∧ isAggD dd = false := by
  have h1 : ((Try.prog.info? 1).map fun i => i.size) = some 1 := by kernel_rfl
  have h2 : ((Try.prog.underlying 1).map isAggD) = some false := by kernel_rfl
  simp only [Option.map_eq_some_iff] at h1 h2
  obtain ⟨i, hi, hs⟩ := h1
  obtain ⟨dd, hd, ha⟩ := h2
  exact ⟨i, dd, hi, hs, hd, ha⟩
theorem u215 : Try.prog.underlying 215 = some (.array 6 1) := by kernel_rfl
theorem c120 (B : Bs) (x : BX) (ok : B.ok) (b : Nat) (Ms : List Mem) (s : Stp) (d : Ds) (hs : s.ok) (hk : okS s) (hd : s.picks.length ≤ d.2) (R : HProp) (hR : ∀ h, R h → rdA d.1 (U8 s.picks) h) (hlen : ∀ M ∈ Ms, M.log.length ≤ 1000000) :
    ACtr Try.prog 120 4 [PA b, s.av d] [(1, frm (busK B x b)), (2, frm (memsH B.bs Ms)), (3, frm R)] (fun _ : Unit => 0) (fun _ => .tup [])
      (fun _ => [(1, frm (busK { B with off := (stepB s (B.off, Ms)).1 } x b)), (2, frm (memsH B.bs (stepB s (B.off, Ms)).2)), (3, frm R)]) := by
  obtain ⟨d1, d2⟩ := d
  refine act Try.func120 rfl rfl rfl A120_ok rfl fun F w0 bb => ?_
  refine on ?_
  refine ev_lt trivial (fun h6 => ?_) (fun h6 => ?_)
  · refine on ?_
    refine call_ab trivial (c145 B x ok b Ms s.picks d1 _ d2 rfl hd R hR hlen) [1, 2, 3] rfl rfl rfl rfl rfl ⟨rfl, rfl, rfl, trivial⟩ (fun _ => rfl) (fun _ => rfl) (fun _ => trivial) (fun _ => ?_)
    refine on ?_
    have e : stepB s (B.off, Ms) = (true, crashL s.picks Ms) := by rw [stepB, if_pos h6]
    refine retE trivial rfl () [0, 1, 2, 3] rfl rfl rfl rfl ⟨_, rfl, fun ρ => rfl⟩ ⟨rfl, ?_, ?_, rfl, trivial⟩
    · rw [e]; rfl
    · rw [e]; rfl
  · refine pureF 2 rfl rfl (q := Ms.length = B.bs.length) (fun h hh => mems_len hh) fun hml => ?_
    obtain ⟨ma, mc, sa, sc, la, lc⟩ := x
    refine busKE 1 0 rfl rfl rfl trivial ?_
    refine pureF 7 rfl rfl (q := ∃ ad, ma = some ad) (fun h hh => rdA_some hh (by simp; exact ok.1)) fun hma => ?_
    obtain ⟨ad, rfl⟩ := hma
    refine on ?_
    refine draw_ok mixed trivial O120_3_ok [(4, _), (5, _)] Q120_3_ok ⟨rfl, rfl, trivial⟩ rfl (fun ρ0 => ?_)
    refine on ?_
    refine ev_lt trivial (fun h1 => ?_) (fun h1 => ?_)
    · refine on ?_
      have e : stepB s (B.off, Ms) = (B.off, Ms) := by rw [stepB, if_neg h6, if_pos (by dsimp only; omega)]
      rw [e]
      refine ret_in trivial (busKL 1 5 B ⟨some ad, mc, sa, sc, la, lc⟩ rfl rfl rfl rfl rfl trivial (ret_out ?_))
      exact retE trivial rfl () [0, 1, 2, 3] rfl rfl rfl rfl ⟨_, rfl, fun ρ => rfl⟩ ⟨rfl, rfl, rfl, rfl, trivial⟩
    refine on ?_
    refine ev_lt trivial (fun h2 => ?_) (fun h2 => ?_)
    · refine on ?_
      have e : stepB s (B.off, Ms) = (B.off, Ms) := by rw [stepB, if_neg h6, if_pos (by dsimp only; omega)]
      rw [e]
      refine ret_in trivial (busKL 1 5 B ⟨some ad, mc, sa, sc, la, lc⟩ rfl rfl rfl rfl rfl trivial (ret_out ?_))
      exact retE trivial rfl () [0, 1, 2, 3] rfl rfl rfl rfl ⟨_, rfl, fun ρ => rfl⟩ ⟨rfl, rfl, rfl, rfl, trivial⟩
    refine on ?_
    refine ev_lt trivial (fun h3 => ?_) (fun h3 => ?_)
    · refine on ?_
      have e : stepB s (B.off, Ms) = (B.off, Ms) := by rw [stepB, if_neg h6, if_pos (by dsimp only; omega)]
      rw [e]
      refine ret_in trivial (busKL 1 5 B ⟨some ad, mc, sa, sc, la, lc⟩ rfl rfl rfl rfl rfl trivial (ret_out ?_))
      exact retE trivial rfl () [0, 1, 2, 3] rfl rfl rfl rfl ⟨_, rfl, fun ρ => rfl⟩ ⟨rfl, rfl, rfl, rfl, trivial⟩
    refine on ?_
    refine ev_lt trivial (fun h4 => ?_) (fun h4 => ?_)
    · refine on ?_
      have e : stepB s (B.off, Ms) = (B.off, Ms) := by rw [stepB, if_neg h6, if_pos (by dsimp only; omega)]
      rw [e]
      refine ret_in trivial (busKL 1 5 B ⟨some ad, mc, sa, sc, la, lc⟩ rfl rfl rfl rfl rfl trivial (ret_out ?_))
      exact retE trivial rfl () [0, 1, 2, 3] rfl rfl rfl rfl ⟨_, rfl, fun ρ => rfl⟩ ⟨rfl, rfl, rfl, rfl, trivial⟩
    have hm : s.mem.toNat < B.bs.length := by omega
    have hm' : s.mem.toNat < Ms.length := by omega
    have hbt : B.bs[s.mem.toNat]? = some B.bs[s.mem.toNat] := List.getElem?_eq_getElem hm
    have hMt : Ms[s.mem.toNat]? = some Ms[s.mem.toNat] := List.getElem?_eq_getElem hm'
    have e : stepB s (B.off, Ms) = (B.off, Ms.set s.mem.toNat (stM s Ms[s.mem.toNat])) := by
      rw [stepB, if_neg h6, if_neg (by dsimp only; omega)]; dsimp only; rw [hMt]
    rw [e]
    refine on ?_
    refine draw_ok mixed trivial O120_4_ok [(4, _), (5, _), (7, _)] Q120_4_ok ⟨rfl, rfl, rfl, trivial⟩ rfl (fun ρ0 => ?_)
    refine on ?_
    refine ev_more ⟨trivial, by omega, by omega⟩ ?_
    refine dq_ld1 tbl_ok rfl 7 rfl rfl rfl (PA B.bs[s.mem.toNat]) rfl (fun h hh => ?_) ?_
    · rw [show s.mem.toNat * 1 = s.mem.toNat by omega]
      exact rdA_at hh (ptr_get hbt)
    refine on ?_
    obtain ⟨i0, dd0, hi0, hs0, hd0, ha0⟩ := fn_facts
    obtain ⟨k2, k3⟩ := hk
    obtain ⟨at_, kind, mem, idx, n, data, picks⟩ := s
    dsimp only at *
    have hkk : kind = 1 ∨ kind = 4 ∨ kind = 5 := by omega
    rcases hkk with rfl | rfl | rfl
    · refine ev_idxv trivial rfl rfl rfl rfl u215 hi0 hs0 hd0 ha0 (by decide) rfl ?_
      refine splitF 2 (B := memH Ms[mem.toNat] B.bs[mem.toNat]) (C := memsX B.bs Ms mem.toNat) rfl rfl trivial (fun h hh => mems_out hbt hMt hh) ?_
      refine on ?_
      refine call_ab trivial (c146 Ms[mem.toNat] B.bs[mem.toNat] ⟨at_, 1, mem, idx, n, data, picks⟩ (d1, d2) hs (hlen _ (List.getElem_mem hm'))) [8, 4, 9] rfl rfl rfl rfl rfl ⟨rfl, rfl, rfl, trivial⟩ (fun _ => rfl) (fun _ => rfl) (fun _ => trivial) (fun _ => ?_)
      refine joinF 2 9 (A := memsH B.bs (Ms.set mem.toNat (setM Ms[mem.toNat] idx data))) rfl rfl rfl rfl rfl trivial (fun h hh => mems_in hbt hh) ?_
      refine on ?_
      refine fin_in trivial ?_
      refine busKL 1 5 B ⟨some ad, mc, sa, sc, la, lc⟩ rfl rfl rfl rfl rfl trivial ?_
      refine fin_out ?_
      exact fina trivial rfl () [0, 1, 2, 3] rfl rfl rfl rfl ⟨_, rfl, fun ρ => rfl⟩ ⟨rfl, rfl, rfl, rfl, trivial⟩
    · refine ev_idxv trivial rfl rfl rfl rfl u215 hi0 hs0 hd0 ha0 (by decide) rfl ?_
      refine splitF 2 (B := memH Ms[mem.toNat] B.bs[mem.toNat]) (C := memsX B.bs Ms mem.toNat) rfl rfl trivial (fun h hh => mems_out hbt hMt hh) ?_
      refine on ?_
      refine call_ab trivial (c151 Ms[mem.toNat] B.bs[mem.toNat]) [8, 9] rfl rfl rfl rfl rfl ⟨rfl, rfl, trivial⟩ (fun _ => rfl) (fun _ => rfl) (fun _ => trivial) (fun _ => ?_)
      refine joinF 2 9 (A := memsH B.bs (Ms.set mem.toNat (faM Ms[mem.toNat] true))) rfl rfl rfl rfl rfl trivial (fun h hh => mems_in hbt hh) ?_
      refine on ?_
      refine fin_in trivial ?_
      refine busKL 1 5 B ⟨some ad, mc, sa, sc, la, lc⟩ rfl rfl rfl rfl rfl trivial ?_
      refine fin_out ?_
      exact fina trivial rfl () [0, 1, 2, 3] rfl rfl rfl rfl ⟨_, rfl, fun ρ => rfl⟩ ⟨rfl, rfl, rfl, rfl, trivial⟩
    · refine ev_idxv trivial rfl rfl rfl rfl u215 hi0 hs0 hd0 ha0 (by decide) rfl ?_
      refine splitF 2 (B := memH Ms[mem.toNat] B.bs[mem.toNat]) (C := memsX B.bs Ms mem.toNat) rfl rfl trivial (fun h hh => mems_out hbt hMt hh) ?_
      refine on ?_
      refine call_ab trivial (c152 Ms[mem.toNat] B.bs[mem.toNat]) [8, 9] rfl rfl rfl rfl rfl ⟨rfl, rfl, trivial⟩ (fun _ => rfl) (fun _ => rfl) (fun _ => trivial) (fun _ => ?_)
      refine joinF 2 9 (A := memsH B.bs (Ms.set mem.toNat (faM Ms[mem.toNat] false))) rfl rfl rfl rfl rfl trivial (fun h hh => mems_in hbt hh) ?_
      refine on ?_
      refine fin_in trivial ?_
      refine busKL 1 5 B ⟨some ad, mc, sa, sc, la, lc⟩ rfl rfl rfl rfl rfl trivial ?_
      refine fin_out ?_
      exact fina trivial rfl () [0, 1, 2, 3] rfl rfl rfl rfl ⟨_, rfl, fun ρ => rfl⟩ ⟨rfl, rfl, rfl, rfl, trivial⟩
end Go.Proofs.Ytolcobhaghdfcaa
