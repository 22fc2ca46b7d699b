/- Contracts of package bus: reads, writes, flushes. -/
import Derived.Test.YtolcobhaghdfcaaBus3
namespace Go.Proofs.Ytolcobhaghdfcaa
open Sx Go
set_option maxRecDepth 100000
/-- the two boxes of the closure that picks a member -/
def atX (b bbox dbox g : Nat) : HProp := star (ptC bbox [PA b] 41) (starL [ptC dbox [.fn (.func g) [] []] 149])
/-- what is done with a member -/
structure Dm where
  en : Mem → Ent
  er : Mem → Int
  mm : Mem → Mem
def selM (Ms : List Mem) (i : Int) : Option Mem := if 0 ≤ i then Ms[i.toNat]? else none
def atE (D : Dm) (e : Ent) (Ms : List Mem) : Ent := match selM Ms e.mem with | some M => D.en M | none => e
def atR (D : Dm) (e : Ent) (Ms : List Mem) : Int := match selM Ms e.mem with | some M => D.er M | none => 2
def atM (D : Dm) (e : Ent) (Ms : List Mem) : List Mem := match selM Ms e.mem with | some M => Ms.set e.mem.toNat (D.mm M) | none => Ms
/-- the inner function's contract -/
abbrev Inn (g : Nat) (e : Ent) (D : Dm) : Prop := ∀ (M : Mem) (mb : Nat), M.log.length ≤ 1000000 → ACtr Try.prog g 3 [PA mb, .ptr 1 0] [(1, .cells e.cs 64), (2, frm (memH M mb))] (fun _ : Unit => 0) (fun _ => IA (D.er M)) (fun _ => [(1, .cells (D.en M).cs 64), (2, frm (memH (D.mm M) mb))])
theorem ptC_star {b : Nat} {cs : List AV} {T : TypeId} {h : Hp} (H : star (ptC b cs T) emp h) : ptC b cs T h := by
  obtain ⟨p, _, _, lp, _, ⟨vs, h1, h2⟩, _⟩ := H
  exact ⟨vs, h1, lp _ _ h2⟩
theorem atL {cx : Cx} {stk : List K} {fr : List (Nat × AV)} {ch : List (Nat × Chunk)} {nx : Nat} {B : Bs} {x : BX} {b bbox dbox g : Nat} (hn : Nat.blt 13 nx = true) (h6 : lookc ch 6 = .cells [.ptr 11 0] 41) (h7 : lookc ch 7 = isB 6 bbox) (h9 : lookc ch 9 = .cells [.fn (.func g) [] []] 149) (h10 : lookc ch 10 = isB 9 dbox)
    (h11 : lookc ch 11 = .cells (busCs B x) 111) (h12 : lookc ch 12 = isB 11 b) (h13 : lookc ch 13 = frm (rdA x.ma (B.bs.map ptrV))) (hs : nod stk = true)
    (hG : Good cx ⟨stk, fr, (5, frm (atX b bbox dbox g)) :: ([8].map (fun j => (j, .gone)) ++ (6, .gone) :: ((8, frm (ptC dbox [.fn (.func g) [] []] 149)) :: ([].map (fun j => (j, .gone)) ++ (9, .gone) :: ((2, frm (busK B x b)) :: ([11 + 2].map (fun j => (j, .gone)) ++ (11, .gone) :: ((6, .cells [PA b] 41) :: ch)))))), nx⟩) : Good cx ⟨stk, fr, ch, nx⟩ := by
  have st : ∀ ch', stabK stk ch' := fun ch' => by
    cases stk with
    | nil => trivial
    | cons y k => cases y <;> first | trivial | (simp [nod] at hs)
  have hn' : 13 < nx := by simpa using hn
  have lt : ∀ k, k ≤ 13 → Nat.blt k nx = true := fun k hk => by simp; omega
  refine rechunkB 6 12 (c := 11) (b := b) (.cells [PA b] 41) h12 (lt 12 (by omega)) (lt 6 (by omega)) (st _) (fun ρ h hb hh => ?_) ?_
  · rw [h6] at hh
    obtain ⟨q, vs, h1, h2, h3⟩ := hh
    exact ⟨q, vs, h1, by rw [← h2]; show AV.evc ρ [PA b] = AV.evc ρ [.ptr 11 0]; simp [AV.evc, AV.ev1, hb], h3⟩
  refine busKL 2 11 B x (by rw [← h11]; rfl) (by rw [← h12]; rfl) (by rw [← h13]; rfl) (lt 2 (by omega)) (lt 13 (by omega)) (st _) ?_
  refine leave 8 9 10 [] (A := ptC dbox [.fn (.func g) [] []] 149) (cs := [.fn (.func g) [] []]) (T := 149) (Rs := []) (by rw [← h9]; rfl) (by rw [← h10]; rfl) trivial ⟨_, rfl⟩ (lt 8 (by omega)) (lt 9 (by omega)) (lt 10 (by omega)) rfl rfl (st _) (fun h hh => ptC_star hh) ?_
  refine leave 5 6 7 [8] (A := atX b bbox dbox g) (cs := [PA b]) (T := 41) (Rs := [ptC dbox [.fn (.func g) [] []] 149]) rfl (by rw [← h7]; rfl) ⟨rfl, trivial⟩ ⟨_, rfl⟩ (lt 5 (by omega)) (lt 6 (by omega)) (lt 7 (by omega)) (by simp; omega) rfl (st _) (fun h hh => hh) ?_
  exact hG
noncomputable def O117_3l : List (Nat × Kd) := [(0, .quiet), (1, .quiet), (2, .quiet), (3, .quiet), (4, .quiet), (5, .quiet), (6, .quiet), (7, .quiet), (8, .quiet), (9, .quiet), (10, .quiet), (11, .quiet), (12, .last), (13, .last)]
noncomputable def Q117_3l : List (Nat × Kd × GOp) := [(0, .quiet, (none, .load 22 1 false (.t 2))), (1, .quiet, (none, .load 23 1 false (.t 1))), (2, .quiet, (none, .nilc 24 (.t 23))), (3, .quiet, (none, .fld 25 0 (.t 24))), (4, .quiet, (none, .load 26 1 false (.t 25))), (5, .quiet, (none, .mov 27 (.t 0))), (6, .quiet, (none, .nilc 28 (.t 27))), (7, .quiet, (none, .fld 29 1 (.t 28))), (8, .quiet, (none, .load 30 1 false (.t 29))), (9, .quiet, (none, .idx 31 1 (.t 26) (.t 30))), (10, .quiet, (none, .load 32 1 false (.t 31))), (11, .quiet, (none, .mov 33 (.t 0))), (12, .last, (none, .call 34 (.t 22) [(.t 32), (.t 33)])), (13, .last, (none, .mov 4 (.t 34)))]
theorem O117_3l_ok : chkDraw (regOf Try.f117 3) O117_3l = true := by kernel_rfl
theorem Q117_3l_ok : orderL R117_5 O117_3l = some Q117_3l := by kernel_rfl
theorem c117 (B : Bs) (x : BX) (ok : B.ok) (b : Nat) (Ms : List Mem) (C : Cl) (e : Ent) (bbox dbox g : Nat) (D : Dm) (hin : Inn g e D) (hlen : ∀ M ∈ Ms, M.log.length ≤ 1000000) :
    ACtr Try.prog 117 6 [.ptr 1 0, PA bbox, PA dbox] [(1, .cells e.cs 64), (2, frm (busK B x b)), (3, frm (memsH B.bs Ms)), (4, frm (celH C B.cb)), (5, frm (atX b bbox dbox g))] (fun _ : Unit => 0) (fun _ => IA (atR D e Ms))
      (fun _ => [(1, .cells (atE D e Ms).cs 64), (2, frm (busK B x b)), (3, frm (memsH B.bs (atM D e Ms))), (4, frm (celH C B.cb)), (5, frm (atX b bbox dbox g))]) := by
  refine act Try.func117 rfl rfl rfl A117_ok rfl fun F w0 bb => ?_
  obtain ⟨ma, mc, sa, sc, la, lc⟩ := x
  refine pureF 3 rfl rfl (q := Ms.length = B.bs.length) (fun h hh => mems_len hh) fun hml => ?_
  refine enter (X := Unit) (ok := fun _ => True) (cs := fun _ => [PA b]) (T := 41) (Rs := fun _ => [ptC dbox [.fn (.func g) [] []] 149]) 5 1 1 rfl rfl rfl (fun _ => rfl) (fun h hh => ⟨(), trivial, hh⟩) (fun _ => trivial) fun _ _ => ?_
  refine enter (X := Unit) (ok := fun _ => True) (cs := fun _ => [.fn (.func g) [] []]) (T := 149) (Rs := fun _ => []) 8 2 0 rfl rfl rfl (fun _ => rfl) (fun h hh => ⟨(), trivial, star_emp hh⟩) (fun _ => trivial) fun _ _ => ?_
  refine enter0 (X := Unit) (ok := fun _ => True) (cs := fun _ => busCs B ⟨ma, mc, sa, sc, la, lc⟩) (T := 111) (Rs := fun _ => [rdA ma (B.bs.map ptrV)]) 2 1 rfl rfl (fun _ => rfl) (fun h hh => ⟨(), trivial, hh⟩) (fun _ => trivial) fun _ _ => ?_
  refine pureF 13 rfl rfl (q := ∃ ad, ma = some ad) (fun h hh => rdA_some hh (by simp; exact ok.1)) fun hma => ?_
  obtain ⟨ad, rfl⟩ := hma
  refine rechunkB 6 12 (c := 11) (b := b) (.cells [.ptr 11 0] 41) rfl rfl rfl trivial (fun ρ h hb hh => ?_) ?_
  · obtain ⟨q, vs, h1, h2, h3⟩ := hh
    exact ⟨q, vs, h1, by rw [← h2]; show AV.evc ρ [.ptr 11 0] = AV.evc ρ [PA b]; simp [AV.evc, AV.ev1, hb], h3⟩
  refine on ?_
  refine draw_ok mixed trivial O117_1_ok [(1, _), (6, _), (11, _)] Q117_1_ok ⟨rfl, rfl, rfl, trivial⟩ rfl (fun ρ0 => ?_)
  refine on ?_
  refine ev_lt trivial (fun h1 => ?_) (fun h1 => ?_)
  · have hsel : selM Ms e.mem = none := by rw [selM, if_neg (by omega)]
    refine on ?_
    refine ret_in trivial (atL (x := ⟨some ad, mc, sa, sc, la, lc⟩) rfl rfl rfl rfl rfl rfl rfl rfl rfl (ret_out ?_))
    refine retE trivial rfl () [0, 1, 2, 3, 4, 5] rfl rfl rfl rfl ⟨_, rfl, fun ρ => ?_⟩ ⟨rfl, ?_, rfl, ?_, rfl, rfl, trivial⟩
    · rw [atR, hsel]; rfl
    · rw [atE, hsel]; rfl
    · rw [atM, hsel]; rfl
  refine on ?_
  refine ev_lt trivial (fun h2 => ?_) (fun h2 => ?_)
  · have hsel : selM Ms e.mem = none := by rw [selM, if_pos (by omega), List.getElem?_eq_none (by omega)]
    refine on ?_
    refine ret_in trivial (atL (x := ⟨some ad, mc, sa, sc, la, lc⟩) rfl rfl rfl rfl rfl rfl rfl rfl rfl (ret_out ?_))
    refine retE trivial rfl () [0, 1, 2, 3, 4, 5] rfl rfl rfl rfl ⟨_, rfl, fun ρ => ?_⟩ ⟨rfl, ?_, rfl, ?_, rfl, rfl, trivial⟩
    · rw [atR, hsel]; rfl
    · rw [atE, hsel]; rfl
    · rw [atM, hsel]; rfl
  have hm : e.mem.toNat < B.bs.length := by omega
  have hm' : e.mem.toNat < Ms.length := by omega
  have hbt : B.bs[e.mem.toNat]? = some B.bs[e.mem.toNat] := List.getElem?_eq_getElem hm
  have hMt : Ms[e.mem.toNat]? = some Ms[e.mem.toNat] := List.getElem?_eq_getElem hm'
  have hsel : selM Ms e.mem = some Ms[e.mem.toNat] := by rw [selM, if_pos (by omega), hMt]
  refine splitF 3 (B := memH Ms[e.mem.toNat] B.bs[e.mem.toNat]) (C := memsX B.bs Ms e.mem.toNat) rfl rfl trivial (fun h hh => mems_out hbt hMt hh) ?_
  refine on ?_
  refine draw_ok mixed trivial O117_3l_ok [(1, _), (6, _), (9, _), (11, _), (13, _)] Q117_3l_ok ⟨rfl, rfl, rfl, rfl, rfl, trivial⟩ rfl (fun ρ0 => ?_)
  refine on ?_
  refine ev_more ⟨trivial, by omega, by omega⟩ ?_
  refine dq_ld1 tbl_ok rfl 13 rfl rfl rfl (PA B.bs[e.mem.toNat]) rfl (fun h hh => ?_) ?_
  · rw [show e.mem.toNat * 1 = e.mem.toNat by omega]
    exact rdA_at hh (ptr_get hbt)
  refine on ?_
  refine call_ab trivial (hin Ms[e.mem.toNat] B.bs[e.mem.toNat] (hlen _ (List.getElem_mem hm'))) [1, 14] rfl rfl rfl rfl rfl ⟨rfl, rfl, trivial⟩ (fun _ => rfl) (fun _ => rfl) (fun _ => trivial) (fun _ => ?_)
  refine joinF 3 14 (A := memsH B.bs (Ms.set e.mem.toNat (D.mm Ms[e.mem.toNat]))) rfl rfl rfl rfl rfl trivial (fun h hh => mems_in hbt hh) ?_
  refine on ?_
  refine ret_in trivial (atL (x := ⟨some ad, mc, sa, sc, la, lc⟩) rfl rfl rfl rfl rfl rfl rfl rfl rfl (ret_out ?_))
  refine retE trivial rfl () [0, 1, 2, 3, 4, 5] rfl rfl rfl rfl ⟨_, rfl, fun ρ => ?_⟩ ⟨rfl, ?_, rfl, ?_, rfl, rfl, trivial⟩
  · rw [atR, hsel]; rfl
  · rw [atE, hsel]; rfl
  · rw [atM, hsel]; rfl
abbrev MsS (B : Bs) (Ms : List Mem) : List Mem := (stB B Ms).2
def atEnt (B : Bs) (Ms : List Mem) (e : Ent) (D : Dm) : Ent := if (stB B Ms).1 then { e with err := 13 } else { atE D e (MsS B Ms) with err := atR D e (MsS B Ms) }
def atMs (B : Bs) (Ms : List Mem) (e : Ent) (D : Dm) : List Mem := if (stB B Ms).1 then MsS B Ms else atM D e (MsS B Ms)
def busLog (B : Bs) (Ms : List Mem) (e : Ent) : Bs := { B with off := (stB B Ms).1, log := B.log ++ [e] }
theorem c70 (B : Bs) (b : Nat) (Ms : List Mem) (C : Cl) (e : Ent) (he : e.ok) (g : Nat) (D : Dm) (hin : Inn g e D) (hst : ∀ s ∈ B.steps, s.at_ = nowB B → okS s) (hlen : ∀ M ∈ Ms, M.log.length ≤ 1000000) (hlog : B.log.length ≤ 100000) :
    ACtr Try.prog 70 4 [PA b, e.av, .fn (.func g) [] []] [(1, frm (busH B b)), (2, frm (memsH B.bs Ms)), (3, frm (celH C B.cb))] (fun _ : Unit => 0) (fun _ => (atEnt B Ms e D).av)
      (fun _ => [(1, frm (busH (busLog B Ms (atEnt B Ms e D)) b)), (2, frm (memsH B.bs (atMs B Ms e D))), (3, frm (celH C B.cb))]) := by
  refine act Try.func70 rfl rfl rfl A70_ok rfl fun F w0 bb => ?_
  refine onc ?_
  refine ev_more trivial ?_
  refine name_is 4 rfl (fun _ => trivial) fun bbox => ?_
  refine name_is 6 rfl (fun _ => trivial) fun dbox => ?_
  refine recast 9 8 (c := 4) (b := bbox) (v' := .fn (.func 117) [] [PA bbox, .ptr 6 0]) rfl rfl rfl trivial (fun ρ hb => by simp [AV.ev, AV.evs, hb]) ?_
  refine recast 9 9 (c := 6) (b := dbox) (v' := .fn (.func 117) [] [PA bbox, PA dbox]) rfl rfl rfl trivial (fun ρ hb => by simp [AV.ev, AV.evs, hb]) ?_
  refine leave 6 6 9 [] (A := ptC dbox [.fn (.func g) [] []] 149) (Rs := []) rfl rfl trivial ⟨_, rfl⟩ rfl rfl rfl rfl rfl trivial (fun h hh => ptC_star hh) ?_
  refine leave 4 4 8 [6] (A := atX b bbox dbox g) (Rs := [ptC dbox [.fn (.func g) [] []] 149]) rfl rfl ⟨rfl, trivial⟩ ⟨_, rfl⟩ rfl rfl rfl rfl rfl trivial (fun h hh => hh) ?_
  refine on ?_
  refine call_ab trivial (c81 B b Ms C e he 117 [PA bbox, PA dbox] (atX b bbox dbox g) (fun _ => rfl) hst hlen hlog (atE D e (MsS B Ms)) (atR D e (MsS B Ms)) (atM D e (MsS B Ms)) C (atX b bbox dbox g)
    (fun _ x ok => c117 { B with off := false } x ok b (MsS B Ms) C e bbox dbox g D hin (stepsB_log _ _ hlen)) (atEnt B Ms e D) rfl) [1, 2, 3, 4] rfl rfl rfl rfl rfl ⟨rfl, rfl, rfl, rfl, trivial⟩ (fun _ => rfl) (fun _ => rfl) (fun _ => trivial) (fun _ => ?_)
  refine on ?_
  exact retE trivial rfl () [0, 1, 2, 3] rfl rfl rfl rfl ⟨_, rfl, fun ρ => rfl⟩ ⟨rfl, rfl, rfl, by rw [ite_self]; rfl, trivial⟩
end Go.Proofs.Ytolcobhaghdfcaa
