/- Contracts of package bus: what a bus is; crash, steps. -/
import Derived.Test.YtolcobhaghdfcaaCel
import Derived.Test.YtolcobhaghdfcaaAcC
namespace Go.Proofs.Ytolcobhaghdfcaa
open Sx Go
set_option maxRecDepth 100000
structure Stp where
  at_ : Int
  kind : Int
  mem : Int
  idx : Int
  n : Int
  data : List Int
  picks : List Int
abbrev Ds := Option Addr × Nat
def Stp.enc (s : Stp) (d : Ds) : List Value := [.int .i64 s.at_, .int .i64 s.kind, .int .i64 s.mem, .int .i64 s.idx, .int .i64 s.n] ++ s.data.map (Value.int .u8) ++ [.slice d.1 s.picks.length d.2]
abbrev Stp.av (s : Stp) (d : Ds) : AV := .agg [IA s.at_, IA s.kind, IA s.mem, IA s.idx, IA s.n, .run .u8 64 s.data, SA d.1 s.picks.length d.2]
def Stp.ok (s : Stp) : Prop := s.data.length = 64
structure Ent where
  do_ : Int
  mem : Int
  idx : Int
  data : List Int
  err : Int
def Ent.enc (e : Ent) : List Value := [.int .i64 e.do_, .int .i64 e.mem, .int .i64 e.idx] ++ e.data.map (Value.int .u8) ++ [.int .i64 e.err]
abbrev Ent.cs (e : Ent) : List AV := [IA e.do_, IA e.mem, IA e.idx, .run .u8 64 e.data, IA e.err]
abbrev Ent.av (e : Ent) : AV := .agg e.cs
def Ent.ok (e : Ent) : Prop := e.data.length = 64
def encE (l : List Ent) : List Value := l.flatMap Ent.enc
def encS : List Stp → List Ds → List Value
  | s :: r, d :: t => s.enc d ++ encS r t
  | _, _ => []
abbrev ptrV (b : Nat) : Value := .pointer (some ⟨b, 0, none⟩)
def picksH : List Stp → List Ds → HProp
  | [], [] => emp
  | s :: r, d :: t => star (fun h => s.picks.length ≤ d.2 ∧ rdA d.1 (U8 s.picks) h) (picksH r t)
  | _, _ => lift False
def stepsH (sa : Option Addr) (l : List Stp) : HProp := fun h => ∃ ds : List Ds, ds.length = l.length ∧ star (rdA sa (encS l ds)) (picksH l ds) h
structure Bs where
  bs : List Nat
  cb : Nat
  steps : List Stp
  off : Bool
  log : List Ent
structure BX where
  ma : Option Addr
  mc : Nat
  sa : Option Addr
  sc : Nat
  la : Option Addr
  lc : Nat
def Bs.ok (B : Bs) : Prop := 1 ≤ B.bs.length ∧ B.bs.length ≤ 64 ∧ B.steps.length ≤ 1000 ∧ (∀ s ∈ B.steps, s.ok) ∧ ∀ e ∈ B.log, e.ok
abbrev busCs (B : Bs) (x : BX) : List AV := [SA x.ma B.bs.length x.mc, PA B.cb, SA x.sa B.steps.length x.sc, BA B.off, SA x.la B.log.length x.lc]
abbrev busRs (B : Bs) (x : BX) : List HProp := [rdA x.ma (B.bs.map ptrV), stepsH x.sa B.steps, ownH 64 68 x.la B.log.length x.lc (encE B.log)]
/-- a bus without its steps and its log -/
def busK (B : Bs) (x : BX) (b : Nat) : HProp := star (ptC b (busCs B x) 111) (starL [rdA x.ma (B.bs.map ptrV)])
def busH (B : Bs) (b : Nat) : HProp := fun h => ∃ x : BX, B.ok ∧ star (ptC b (busCs B x) 111) (starL (busRs B x)) h
section
variable {cx : Cx} {stk : List K} {fr : List (Nat × AV)} {ch : List (Nat × Chunk)} {nx : Nat}
theorem busE (k s : Nat) {B : Bs} {b : Nat} (hk : lookc ch k = frm (busH B b)) (hkn : Nat.blt k nx = true) (hsl : Sx.look fr s = some (PA b)) (hst : ∀ x, stabK stk (resCh (nx + 2) (busRs B x) ((nx, .cells (busCs B x) 111) :: (nx + 1, isB nx b) :: (k, .gone) :: ch)))
    (hG : ∀ x, B.ok → Good cx ⟨stk, (s, .ptr nx 0) :: fr, resCh (nx + 2) (busRs B x) ((nx, .cells (busCs B x) 111) :: (nx + 1, isB nx b) :: (k, .gone) :: ch), nx + 2 + 3⟩) : Good cx ⟨stk, fr, ch, nx⟩ :=
  enter k s 3 hk hkn hsl (fun _ => rfl) (fun h hh => hh) hst hG
theorem busL (k c : Nat) (B : Bs) (x : BX) {b : Nat} (ok : B.ok) (hc : lookc ch c = .cells (busCs B x) 111) (he : lookc ch (c + 1) = isB c b) (h1 : lookc ch (c + 2) = frm (rdA x.ma (B.bs.map ptrV))) (h2 : lookc ch (c + 3) = frm (stepsH x.sa B.steps))
    (h3 : lookc ch (c + 4) = frm (ownH 64 68 x.la B.log.length x.lc (encE B.log))) (hkn : Nat.blt k nx = true) (hcn : Nat.blt (c + 4) nx = true)
    (hst : stabK stk ((k, frm (busH B b)) :: ([c + 2, c + 3, c + 4].map (fun j => (j, .gone)) ++ (c, .gone) :: ch)))
    (hG : Good cx ⟨stk, fr, (k, frm (busH B b)) :: ([c + 2, c + 3, c + 4].map (fun j => (j, .gone)) ++ (c, .gone) :: ch), nx⟩) : Good cx ⟨stk, fr, ch, nx⟩ := by
  have hcn' : c + 4 < nx := by simpa using hcn
  exact leave k c (c + 1) [c + 2, c + 3, c + 4] (A := busH B b) (Rs := busRs B x) hc he ⟨h1, h2, h3, trivial⟩ ⟨_, rfl⟩ hkn (by simp; omega) (by simp; omega) (by simp; omega) (by simp [nodupB]) hst (fun h hh => ⟨x, ok, hh⟩) hG
theorem busR {p : Prop} (hp : p) (k c : Nat) (B : Bs) (x : BX) {b : Nat} (ok : B.ok) (hc : lookc ch c = .cells (busCs B x) 111) (he : lookc ch (c + 1) = isB c b) (h1 : lookc ch (c + 2) = frm (rdA x.ma (B.bs.map ptrV))) (h2 : lookc ch (c + 3) = frm (stepsH x.sa B.steps))
    (h3 : lookc ch (c + 4) = frm (ownH 64 68 x.la B.log.length x.lc (encE B.log))) (hkn : Nat.blt k nx = true) (hcn : Nat.blt (c + 4) nx = true)
    (h : EvOk cx (.ret True [] fr ((k, frm (busH B b)) :: ([c + 2, c + 3, c + 4].map (fun j => (j, .gone)) ++ (c, .gone) :: ch)) nx)) : EvOk cx (.ret p stk fr ch nx) :=
  ret_in hp (busL k c B x ok hc he h1 h2 h3 hkn hcn trivial (ret_out h))
theorem busKE (k s : Nat) {B : Bs} {x : BX} {b : Nat} (hk : lookc ch k = frm (busK B x b)) (hkn : Nat.blt k nx = true) (hsl : Sx.look fr s = some (PA b)) (hst : stabK stk (resCh (nx + 2) [rdA x.ma (B.bs.map ptrV)] ((nx, .cells (busCs B x) 111) :: (nx + 1, isB nx b) :: (k, .gone) :: ch)))
    (hG : Good cx ⟨stk, (s, .ptr nx 0) :: fr, resCh (nx + 2) [rdA x.ma (B.bs.map ptrV)] ((nx, .cells (busCs B x) 111) :: (nx + 1, isB nx b) :: (k, .gone) :: ch), nx + 2 + 1⟩) : Good cx ⟨stk, fr, ch, nx⟩ :=
  enter (X := Unit) (ok := fun _ => True) (cs := fun _ => busCs B x) (Rs := fun _ => [rdA x.ma (B.bs.map ptrV)]) k s 1 hk hkn hsl (fun _ => rfl) (fun h hh => ⟨(), trivial, hh⟩) (fun _ => hst) (fun _ _ => hG)
theorem busKL (k c : Nat) (B : Bs) (x : BX) {b : Nat} (hc : lookc ch c = .cells (busCs B x) 111) (he : lookc ch (c + 1) = isB c b) (h1 : lookc ch (c + 2) = frm (rdA x.ma (B.bs.map ptrV))) (hkn : Nat.blt k nx = true) (hcn : Nat.blt (c + 2) nx = true)
    (hst : stabK stk ((k, frm (busK B x b)) :: ([c + 2].map (fun j => (j, .gone)) ++ (c, .gone) :: ch)))
    (hG : Good cx ⟨stk, fr, (k, frm (busK B x b)) :: ([c + 2].map (fun j => (j, .gone)) ++ (c, .gone) :: ch), nx⟩) : Good cx ⟨stk, fr, ch, nx⟩ := by
  have hcn' : c + 2 < nx := by simpa using hcn
  exact leave k c (c + 1) [c + 2] (A := busK B x b) (Rs := [rdA x.ma (B.bs.map ptrV)]) hc he ⟨h1, trivial⟩ ⟨_, rfl⟩ hkn (by simp; omega) (by simp; omega) (by simp; omega) (by simp [nodupB]) hst (fun h hh => hh) hG
end
/-- members, each by its block -/
def memsH : List Nat → List Mem → HProp
  | [], [] => emp
  | b :: r, M :: t => star (memH M b) (memsH r t)
  | _, _ => lift False
/-- .. but for the i-th -/
def memsX : List Nat → List Mem → Nat → HProp
  | _ :: r, _ :: t, 0 => memsH r t
  | b :: r, M :: t, i + 1 => star (memH M b) (memsX r t i)
  | _, _, _ => lift False
theorem mems_len : ∀ {bs : List Nat} {Ms : List Mem} {h : Hp}, memsH bs Ms h → Ms.length = bs.length
  | [], [], _, _ => rfl
  | b :: r, M :: t, h, H => by obtain ⟨_, q, _, _, _, _, hq⟩ := H; simp [mems_len hq]
  | [], _ :: _, _, H => H.elim
  | _ :: _, [], _, H => H.elim
theorem mems_out : ∀ {bs : List Nat} {Ms : List Mem} {i b : Nat} {M : Mem} {h : Hp}, bs[i]? = some b → Ms[i]? = some M → memsH bs Ms h → star (memH M b) (memsX bs Ms i) h
  | [], _, i, _, _, _, h1, _, _ => by simp at h1
  | _ :: _, [], _, _, _, _, _, h2, _ => by simp at h2
  | b :: r, M :: t, 0, b', M', h, h1, h2, H => by simp at h1 h2; subst h1 h2; exact H
  | b :: r, M :: t, i + 1, b', M', h, h1, h2, H => by
    simp at h1 h2
    exact star_left_comm (star_mono (fun _ y => y) (fun _ y => mems_out h1 h2 y) H)
theorem mems_in : ∀ {bs : List Nat} {Ms : List Mem} {i b : Nat} {M' : Mem} {h : Hp}, bs[i]? = some b → star (memH M' b) (memsX bs Ms i) h → memsH bs (Ms.set i M') h
  | [], _, i, _, _, _, h1, _ => by simp at h1
  | _ :: _, [], i, _, _, _, _, H => by obtain ⟨_, q, _, _, _, _, hq⟩ := H; simp only [memsX] at hq; exact hq.elim
  | b :: r, M :: t, 0, b', M', h, h1, H => by simp at h1; subst h1; exact H
  | b :: r, M :: t, i + 1, b', M', h, h1, H => by
    simp at h1
    exact star_mono (fun _ y => y) (fun _ y => mems_in h1 y) (star_left_comm H)
def crashL : List Int → List Mem → List Mem
  | _, [] => []
  | p, M :: r => crM (p.take (min M.log.length p.length)) M :: crashL (p.drop (min M.log.length p.length)) r
theorem ptr_get {bs : List Nat} {i b : Nat} (h : bs[i]? = some b) : (bs.map ptrV)[i]? = some (ptrV b) := by simp [h]
theorem rd_take {a : Option Addr} {p : List Int} {n : Nat} {h : Hp} (H : rdA a (U8 p) h) : rdA a (U8 (p.take n)) h := fun j v hj => H j v (by
  unfold U8 at hj
  rw [List.map_take, List.getElem?_take] at hj
  split at hj
  · exact hj
  · cases hj)
theorem rd_drop {a : Option Addr} {p : List Int} {n cap : Nat} {h : Hp} (H : rdA a (U8 p) h) (hc : p.length ≤ cap) : rdA (if cap = n then a else a.map (·.add n)) (U8 (p.drop n)) h := fun j v hj => by
  unfold U8 at hj
  rw [List.map_drop, List.getElem?_drop] at hj
  obtain ⟨ad, e, hcell⟩ := H _ _ hj
  have hlt := (List.getElem?_eq_some_iff.1 hj).1
  simp only [List.length_map] at hlt
  subst e
  rw [if_neg (by omega)]
  exact ⟨_, rfl, by rw [add_add]; exact hcell⟩
theorem add_zero' (a : Option Addr) (n : Nat) (c : Prop) [Decidable c] (hn : n = 0) : (if c then a else a.map (·.add n)) = a := by
  subst hn
  split
  · rfl
  · cases a <;> simp [Addr.add]
theorem fitCons {fr : List (Nat × AV)} {π : List Nat} {i : Nat} {v u : AV} {r : List (Nat × AV)} (h : v.ren π = some u) (hl : Sx.look fr i = some u) (hr : FitFr fr π r) : FitFr fr π ((i, v) :: r) := ⟨by rw [h]; exact hl, hr⟩
theorem set_mid {α : Type} {C D : List α} {t : Nat} (hC : C.length = t) (ht : t < D.length) (x : α) : (C ++ D.drop t).set t x = (C ++ [x]) ++ D.drop (t + 1) := by
  rw [List.set_append, if_neg (by omega), hC, Nat.sub_self]
  have : D.drop t = D[t] :: D.drop (t + 1) := List.drop_eq_getElem_cons ht
  rw [this, List.set_cons_zero, List.append_assoc]; rfl
theorem crashL_at {p : List Int} {Ms : List Mem} {t : Nat} (ht : t < Ms.length) : crashL p (Ms.drop t) = crM (p.take (min Ms[t].log.length p.length)) Ms[t] :: crashL (p.drop (min Ms[t].log.length p.length)) (Ms.drop (t + 1)) := by
  rw [List.drop_eq_getElem_cons ht]; rfl
structure CI where
  t : Nat
  p : List Int
  a : Option Addr
  cap : Nat
  C : List Mem
theorem c145 (B : Bs) (x : BX) (ok : B.ok) (b : Nat) (Ms : List Mem) (ps : List Int) (a : Option Addr) (n cap : Nat) (hn : n = ps.length) (hcap : ps.length ≤ cap) (R : HProp) (hR : ∀ h, R h → rdA a (U8 ps) h) (hlen : ∀ M ∈ Ms, M.log.length ≤ 1000000) :
    ACtr Try.prog 145 4 [PA b, SA a n cap] [(1, frm (busK B x b)), (2, frm (memsH B.bs Ms)), (3, frm R)] (fun _ : Unit => 0) (fun _ => .tup []) (fun _ => [(1, frm (busK { B with off := true } x b)), (2, frm (memsH B.bs (crashL ps Ms))), (3, frm R)]) := by
  subst hn
  refine act Try.func145 rfl rfl rfl A145_ok rfl fun F w0 bb => ?_
  refine pureF 2 rfl rfl (q := Ms.length = B.bs.length) (fun h hh => mems_len hh) fun hml => ?_
  obtain ⟨ma, mc, sa, sc, la, lc⟩ := x
  refine busKE 1 0 rfl rfl rfl trivial ?_
  refine pureF 6 rfl rfl (q := ∃ ad, ma = some ad) (fun h hh => rdA_some hh (by simp; exact ok.1)) fun hma => ?_
  obtain ⟨ad, rfl⟩ := hma
  refine on ?_
  refine ev_loop trivial (ι := CI) (fun y => y.t ≤ B.bs.length ∧ y.C.length = y.t ∧ y.p.length ≤ y.cap ∧ (∀ h, R h → rdA y.a (U8 y.p) h) ∧ crashL ps Ms = y.C ++ crashL y.p (Ms.drop y.t)) (fun y => B.bs.length - y.t)
    (fun y => [(0, .ptr 4 0), (1, SA y.a y.p.length y.cap), (10, SA (some ad) B.bs.length mc), (11, IA B.bs.length), (12, IA y.t)])
    (fun y => [(0, frm F), (1, .gone), (2, frm (memsH B.bs (y.C ++ Ms.drop y.t))), (3, frm R), (4, .cells (busCs B ⟨some ad, mc, sa, sc, la, lc⟩) 111), (5, isB 4 b), (6, frm (rdA (some ad) (B.bs.map ptrV)))]) 7 ⟨0, ps, a, cap, []⟩
    ⟨Nat.zero_le _, rfl, hcap, hR, rfl⟩
    (Fit.of [0, 1, 2, 3, 4, 5, 6] rfl rfl rfl rfl ⟨rfl, rfl, rfl, rfl, rfl, trivial⟩ ⟨rfl, rfl, rfl, rfl, rfl, rfl, rfl, trivial⟩) (fun y hy => ?_)
  obtain ⟨t, p, a', cap', C⟩ := y
  obtain ⟨ht, hC, hpc, hRy, hcr⟩ := hy
  dsimp only at ht hC hpc hRy hcr
  refine on ?_
  refine ev_lt trivial (fun h3 => ?_) (fun h3 => ?_) <;> dsimp only at h3
  · have h3' : t < B.bs.length := by omega
    have hm3 : t < Ms.length := by omega
    have hbt : B.bs[t]? = some B.bs[t] := List.getElem?_eq_getElem h3'
    have hMt : (C ++ Ms.drop t)[t]? = some Ms[t] := by rw [List.getElem?_append_right (by omega), hC, Nat.sub_self, List.getElem?_drop, Nat.add_zero, List.getElem?_eq_getElem hm3]
    have hMl := hlen Ms[t] (List.getElem_mem hm3)
    refine on ?_
    refine ev_ld1 tbl_ok ⟨trivial, by omega, h3⟩ 6 rfl rfl rfl (PA B.bs[t]) rfl (fun h hh => ?_) trivial ?_
    · rw [show ((t : Int)).toNat * 1 = t by omega]
      exact rdA_at hh (ptr_get hbt)
    refine splitF 2 (B := memH Ms[t] B.bs[t]) (C := memsX B.bs (C ++ Ms.drop t) t) rfl rfl trivial (fun h hh => mems_out hbt hMt hh) ?_
    refine on ?_
    refine call_ab trivial (c31 Ms[t] B.bs[t]) [7] rfl rfl rfl rfl rfl ⟨rfl, trivial⟩ (fun _ => rfl) (fun _ => rfl) (fun _ => trivial) (fun _ => ?_)
    refine on ?_
    refine ev_min trivial rfl rfl rfl rfl ?_
    have eq : (if (p.length : Int) < (Ms[t].log.length : Int) then (p.length : Int) else (Ms[t].log.length : Int)) = ((min Ms[t].log.length p.length : Nat) : Int) := by split <;> omega
    rw [eq]
    generalize hq : min Ms[t].log.length p.length = q
    have hqp : q ≤ p.length := by omega
    refine on ?_
    refine call_ab ⟨trivial, by omega, by omega, by dsimp only; omega, by omega⟩ (c54 Ms[t] B.bs[t] (p.take q) _ _ _ ?_ R ?_ hMl) [7, 3] rfl rfl rfl rfl rfl ⟨rfl, rfl, trivial⟩ (fun _ => rfl) (fun _ => rfl) (fun _ => trivial) (fun _ => ?_)
    · rw [List.length_take]; simp; omega
    · intro h hh
      rw [add_zero' _ _ _ (by simp)]
      exact rd_take (hRy h hh)
    refine joinF 2 7 (A := memsH B.bs ((C ++ Ms.drop t).set t (crM (p.take q) Ms[t]))) rfl rfl rfl rfl rfl trivial (fun h hh => mems_in hbt hh) ?_
    rw [set_mid hC hm3]
    refine on ?_
    refine ev_lend ⟨⟨trivial, by omega, by dsimp only; omega, by dsimp only; omega, by omega⟩, by have := ok.2.1; unfold InR; dsimp only; omega⟩ ⟨t + 1, p.drop q, (if cap' = q then a' else a'.map (·.add (q * 1))), cap' - q, C ++ [crM (p.take q) Ms[t]]⟩ ⟨h3', by simp [hC], by simp; omega, fun h hh => ?_, ?_⟩ (by dsimp only; omega)
      (Fit.of [0, 1, 2, 3, 4, 5, 6] rfl rfl rfl rfl ⟨rfl, fitCons rfl ?_ ⟨rfl, rfl, rfl, trivial⟩⟩ ⟨rfl, rfl, rfl, rfl, rfl, rfl, rfl, trivial⟩)
    · dsimp only
      rw [Nat.mul_one]
      exact rd_drop (hRy h hh) hpc
    · dsimp only
      rw [hcr, crashL_at hm3, hq, List.append_assoc]; rfl
    · dsimp only
      rw [List.length_drop]; rfl
  · have ht' : t = B.bs.length := by omega
    have e : crashL ps Ms = C := by rw [hcr, ht', ← hml, List.drop_length]; simp [crashL]
    have e2 : C ++ Ms.drop t = crashL ps Ms := by rw [e, ht', ← hml, List.drop_length, List.append_nil]
    refine on ?_
    refine fin_in trivial ?_
    refine recells 4 (cs' := busCs { B with off := true } ⟨some ad, mc, sa, sc, la, lc⟩) rfl (fun ρ => rfl) rfl trivial ?_
    refine busKL 1 4 { B with off := true } ⟨some ad, mc, sa, sc, la, lc⟩ rfl rfl rfl rfl rfl trivial ?_
    refine fin_out ?_
    refine fina trivial rfl () [0, 1, 2, 3] rfl rfl rfl rfl ⟨_, rfl, fun ρ => rfl⟩ ⟨rfl, rfl, ?_, rfl, trivial⟩
    rw [← e2]; rfl
end Go.Proofs.Ytolcobhaghdfcaa
