/- Contract of mirror.Where: the members that the iterator yields, gathered. -/
import Derived.Test.YtolcobhaghdfcaaSp
namespace Go.Proofs.Ytolcobhaghdfcaa
open Sx Go
set_option maxRecDepth 100000
theorem ints28 : IntSl Try.prog 28 3 .i64 8 := by
  have h1 : Try.prog.underlying 28 = some (.slice 3) := by kernel_rfl
  have h2 : (Try.prog.info? 3).map (fun i => (i.size, i.bytes)) = some (1, 8) := by kernel_rfl
  have h3 : (Try.prog.info? 3).bind (fun i => i.zero) = some (.int .i64 0) := by kernel_rfl
  refine ⟨h1, ?_⟩
  simp only [Option.map_eq_some_iff, Option.bind_eq_some_iff, Prod.mk.injEq] at h2 h3
  obtain ⟨i, hi, hs, hb⟩ := h2
  obtain ⟨j, hj, hz⟩ := h3
  rw [hi] at hj; cases hj
  exact ⟨i, hi, hz, hs, hb⟩
noncomputable def R15a : List GOp := [(none, .mov 5 (.t 9))]
noncomputable def R15b : List GOp := [(none, .load 11 1 false (.t 4)), (none, .mov 12 (.t 5)), (none, .bslice 13 3 1 [(.v (.int .i64 0))] [(0, 1, (.t 12))]), (none, .other (some 14) (.call ⟨.builtin .append, #[(.tmp 11), (.tmp 13)], #[28, 28]⟩) 28), (none, .store 1 (.t 4) (.t 14))]
noncomputable def A15a : ACode := .region R15a
noncomputable def A15b : ACode := .block 1 (.region R15b)
theorem A15a_ok : comp tbl 16 (rfA Try.f15) = some A15a := by kernel_rfl
theorem A15b_ok : comp tbl 16 (rfB Try.f15) = some A15b := by kernel_rfl
/-- an iterator's contract, at these members -/
abbrev Iter (m r k i : Int) (bs : List Int) (ms : List Int) (first : Int) : Prop := ∀ (l : Nat) (J : Nat → HProp), HY l J ms.length (fun j => [I (ms.getD j 0), I first]) →
  ACtr Try.prog 110 4 [YV l, .ptr 1 0, .ptr 2 0] [(1, GC m r), (2, NC k i bs), (3, frm (J 0))] (fun _ : Unit => 0) (fun _ => .tup []) (fun _ => [(1, GC m r), (2, NC k i bs), (3, frm (J ms.length))])
abbrev rch (F : HProp) (m r k i : Int) (bs : List Int) : List (Nat × Chunk) := [(0, frm F), (1, .cells [nilS'] 28), (2, GC m r), (3, NC k i bs)]
  where nilS' : AV := .v (.slice none 0 0)
def Ch15 (F : HProp) (m r k i : Int) (bs ms : List Int) : Nat → List Int → List (Nat × Chunk)
  | 0, _ => (2, .gone) :: (3, .gone) :: rch F m r k i bs
  | j + 1, q => (1, .cells [.slc 6 0 (j + 1) (ms.take (j + 1) ++ q).length] 28) :: (6, .cells [.run .i64 (ms.take (j + 1) ++ q).length (ms.take (j + 1) ++ q)] 3) :: (2, .gone) :: (3, .gone) :: rch F m r k i bs
def m15 : Nat → Nat
  | 0 => 0
  | _ + 1 => 1
def ok15 (ms : List Int) : Nat → List Int → Prop
  | 0, _ => True
  | j + 1, q => (ms.take (j + 1) ++ q).length ≤ maxLen
theorem take_snoc {ms : List Int} {j : Nat} (h : j < ms.length) : ms.take (j + 1) = ms.take j ++ [ms.getD j 0] := by
  rw [List.take_add_one, List.getD_eq_getElem?_getD, List.getElem?_eq_getElem h]; rfl
theorem round15 {m r k i first : Int} {bs ms : List Int} (hms : ms.length ≤ 100) {F : HProp} {fr : List (Nat × AV)} (h4 : Sx.look fr 4 = some (.ptr 1 0)) (b : Nat → Nat) (rr : Loop) (j : Nat) (hj : j < ms.length) (hst : rr.state = .ready) (hpd : rr.pending = none) (hps : rr.params = #[9, 10])
    (has : rr.assign = rfA Try.f15) (hbd : rr.body = rfB Try.f15) (hsz : rr.tmps.size = 16) (hfr : FrOk (nms b 0 6) fr ⟨rr.tmps, []⟩) (F1 : HProp) (w : World) (q : List Int) (hok : ok15 ms j q)
    (hs : Sat (star (JF (nms b 0 6) 6 (m15 j) (chJ 4 rr (Ch15 F m r k i bs ms j q))) F1) w) :
    YieldOk Try.prog (b 5) [I (ms.getD j 0), I first] w (fun v w' => Env w w' ∧ ∃ y, v = .bool y ∧ Sat (star (bif y then JX (nms b 0 6) 6 (m15 (j + 1)) (ok15 ms (j + 1)) (fun q => chJ 4 rr (Ch15 F m r k i bs ms (j + 1) q)) else lift False) F1) w') := by
  refine yield_round (p1 := 9) (p2 := 10) (v1 := IA (ms.getD j 0)) (v2 := IA first) (k := 5) (fr := fr) (N := 16) (by rw [has]; exact A15a_ok) hsz hps (by decide) (by decide) rfl rfl hfr (by rw [nms_length]; decide) rfl (by cases j <;> rfl) (by decide) F1 w (fun F2 w0 => ?_) hs
  refine Good.conv (fr' := [(4, .ptr 1 0), (9, IA (ms.getD j 0))]) (ch' := (0, frm F2) :: chJ 4 rr (Ch15 F m r k i bs ms j q)) (nx' := 6 + m15 j) rfl ?_ ?_
  · cases j with
    | zero => exact Fit.of [0, 1, 2, 3, 4, 5] rfl rfl rfl rfl ⟨h4, rfl, trivial⟩ ⟨rfl, rfl, rfl, rfl, rfl, rfl, trivial⟩
    | succ j => exact Fit.of [0, 1, 2, 3, 4, 5, 6] rfl rfl rfl rfl ⟨h4, rfl, trivial⟩ ⟨rfl, rfl, rfl, rfl, rfl, rfl, rfl, trivial⟩
  cases j with
  | zero =>
    refine on ?_
    refine ev_begin (aB := A15b) trivial 5 (by rw [hbd]; exact A15b_ok) rfl rfl rfl hst ?_
    refine on ?_
    refine ev_append_nil (k := .i64) (us := [ms.getD 0 0]) ints28 trivial rfl rfl rfl rfl rfl rfl rfl (by decide) (by decide) (fun _ => trivial) (fun cap' q' hl hc => ?_)
    refine on ?_
    refine fin_round trivial 5 rfl rfl rfl (r' := rr) (by rw [← hst, ← hpd]) 1 (chJ 4 rr (Ch15 F m r k i bs ms 1 q')) (fun h hh => ⟨q', ?_, hh⟩) [0, 1, 2, 3, 4, 5, 7] rfl rfl rfl rfl rfl ?_
    · have e := take_snoc hj
      simp only [Nat.zero_add, List.take_zero, List.nil_append] at e
      show (ms.take 1 ++ q').length ≤ maxLen
      rw [e, hl]; exact hc
    · have e := take_snoc hj
      simp only [Nat.zero_add, List.take_zero, List.nil_append] at e
      have e1 : Ch15 F m r k i bs ms 1 q' = (1, .cells [.slc 6 0 1 cap'] 28) :: (6, .cells [.run .i64 cap' ([ms.getD 0 0] ++ q')] 3) :: (2, .gone) :: (3, .gone) :: rch F m r k i bs := by
        show (1, Chunk.cells [AV.slc 6 0 1 (ms.take 1 ++ q').length] 28) :: (6, Chunk.cells [AV.run .i64 (ms.take 1 ++ q').length (ms.take 1 ++ q')] 3) :: _ = _
        rw [e, hl]
      rw [e1]
      exact ⟨rfl, rfl, rfl, rfl, rfl, rfl, rfl, trivial⟩
  | succ j =>
    refine on ?_
    refine ev_begin (aB := A15b) trivial 5 (by rw [hbd]; exact A15b_ok) rfl rfl rfl hst ?_
    refine on ?_
    have hlen : (ms.take (j + 1)).length = j + 1 := by simp; omega
    refine ev_append_slc (k := .i64) (us := [ms.getD (j + 1) 0]) ints28 trivial rfl rfl rfl rfl rfl hlen hok (by rw [List.length_append, hlen]; omega) rfl rfl rfl (by decide) (by omega) (fun _ => trivial) (fun cap' q' hl hc => ?_)
    refine on ?_
    have e := take_snoc hj
    refine fin_round trivial 5 rfl rfl rfl (r' := rr) (by rw [← hst, ← hpd]) 1 (chJ 4 rr (Ch15 F m r k i bs ms (j + 2) q')) (fun h hh => ⟨q', ?_, hh⟩) [0, 1, 2, 3, 4, 5, 8] rfl rfl rfl rfl rfl ?_
    · show (ms.take (j + 2) ++ q').length ≤ maxLen
      rw [e, hl]; exact hc
    · have e1 : Ch15 F m r k i bs ms (j + 2) q' = (1, .cells [.slc 6 0 (j + 1 + 1) cap'] 28) :: (6, .cells [.run .i64 cap' (ms.take (j + 1) ++ [ms.getD (j + 1) 0] ++ q')] 3) :: (2, .gone) :: (3, .gone) :: rch F m r k i bs := by
        show (1, Chunk.cells [AV.slc 6 0 (j + 2) (ms.take (j + 2) ++ q').length] 28) :: (6, Chunk.cells [AV.run .i64 (ms.take (j + 2) ++ q').length (ms.take (j + 2) ++ q')] 3) :: _ = _
        rw [e, hl]
      rw [e1]
      exact ⟨rfl, rfl, rfl, rfl, rfl, rfl, rfl, trivial⟩
theorem actM {f : Nat} {fn : Func} {ac : ACode} {N : Nat} {n : Nat} {avs : List AV} {pre : List (Nat × Chunk)} {X : Type} {m : X → Nat} {rv : X → AV} {post : X → List (Nat × Chunk)} (hf : Try.prog.funcs[f]? = some fn) (hb : fn.body.isSome = true) (hnm : (fn.name == "runtime.NumGoroutine") = false)
    (hNt : fn.ntmps = N) (hc : comp tbl N (fn.body.getD .skip) = some ac) (hN : Nat.ble avs.length N = true)
    (hgood : ∀ (F : HProp) (w0 : World) (b : Nat → Nat), Good ⟨Try.prog, tbl, N, bodyPostM Fence.wide 0 Try.prog fn (postA F w0 (nms b 0 n) m rv post), w0, nms b 0 n, [], none⟩ ⟨[.code ac], frOf 0 avs, (0, frm F) :: pre, n⟩) : ACtr Try.prog f n avs pre m rv post :=
  actr_ofM hf hb hnm hNt hc hN hgood
def Cap (ms : List Int) : Type := { q : List Int // (ms ++ q).length ≤ maxLen }
theorem c15_e (m r k i first : Int) (bs : List Int) (hbs : bs.length = 64) (hit : Iter m r k i bs [] first) : ACtr Try.prog 15 1 [GA m r, NA k i bs] [] (fun _ : Unit => 0) (fun _ => .v (.slice none 0 0)) (fun _ => []) := by
  refine actM Try.func15 rfl rfl rfl A15_ok rfl fun F w0 b => ?_
  refine on ?_
  refine call_ab trivial (c57 m r k i bs) [] rfl rfl rfl rfl rfl trivial (fun _ => rfl) (fun _ => rfl) (fun _ => trivial) (fun _ => ?_)
  refine Good.conv (fr' := [(4, .ptr 1 0), (8, .fn (.func 110) [] [.ptr 2 0, .ptr 3 0])]) (ch' := rch F m r k i bs) (nx' := 4) rfl (Fit.of [0, 3, 4, 5] rfl rfl rfl rfl ⟨rfl, rfl, trivial⟩ ⟨rfl, rfl, rfl, rfl, trivial⟩) ?_
  refine on ?_
  refine ev_rfunc trivial Try.func110 (by kernel_rfl) rfl 2 3 rfl (by decide) (by decide) (by decide) rfl rfl rfl (by simp [closedC, AV.evc, AV.ev1, hbs]) rfl (F0 := F) rfl 0 m15 (Ch15 F m r k i bs []) (ok15 []) rfl [] trivial rfl (fun j => [I (([] : List Int).getD j 0), I first]) hit (fun b' rr j hj => absurd hj (by omega)) (fun b' x _ hτ => ?_)
  refine on ?_
  refine ret_abM tbl_ok trivial 4 rfl rfl rfl hτ rfl () [0] rfl rfl rfl rfl rfl ⟨rfl, trivial⟩
theorem c15_n (m r k i first : Int) (bs : List Int) (hbs : bs.length = 64) (y : Int) (ys : List Int) (hms : (y :: ys).length ≤ 100) (hit : Iter m r k i bs (y :: ys) first) : ACtr Try.prog 15 1 [GA m r, NA k i bs] [] (fun _ : Cap (y :: ys) => 1)
    (fun q => .slc 1 0 (y :: ys).length ((y :: ys) ++ q.1).length) (fun q => [(1, .cells [.run .i64 ((y :: ys) ++ q.1).length ((y :: ys) ++ q.1)] 3)]) := by
  refine actM Try.func15 rfl rfl rfl A15_ok rfl fun F w0 b => ?_
  refine on ?_
  refine call_ab trivial (c57 m r k i bs) [] rfl rfl rfl rfl rfl trivial (fun _ => rfl) (fun _ => rfl) (fun _ => trivial) (fun _ => ?_)
  refine Good.conv (fr' := [(4, .ptr 1 0), (8, .fn (.func 110) [] [.ptr 2 0, .ptr 3 0])]) (ch' := rch F m r k i bs) (nx' := 4) rfl (Fit.of [0, 3, 4, 5] rfl rfl rfl rfl ⟨rfl, rfl, trivial⟩ ⟨rfl, rfl, rfl, rfl, trivial⟩) ?_
  refine on ?_
  refine ev_rfunc trivial Try.func110 (by kernel_rfl) rfl 2 3 rfl (by decide) (by decide) (by decide) rfl rfl rfl (by simp [closedC, AV.evc, AV.ev1, hbs]) rfl (F0 := F) rfl (ys.length + 1) m15 (Ch15 F m r k i bs (y :: ys)) (ok15 (y :: ys)) rfl [] trivial rfl
    (fun j => [I ((y :: ys).getD j 0), I first]) hit (fun b' rr j hj h1 h2 h3 h4 h5 h6 h7 F1 w x hx hs => round15 hms rfl b' rr j hj h1 h2 h3 h4 h5 h6 h7 F1 w x hx hs) (fun b' q hq hτ => ?_)
  have e : (y :: ys).take (ys.length + 1) = y :: ys := List.take_of_length_le (by simp)
  have hq' : ((y :: ys) ++ q).length ≤ maxLen := by
    have : ((y :: ys).take (ys.length + 1) ++ q).length ≤ maxLen := hq
    rwa [e] at this
  have e1 : Ch15 F m r k i bs (y :: ys) (ys.length + 1) q = (1, .cells [.slc 6 0 (y :: ys).length ((y :: ys) ++ q).length] 28) :: (6, .cells [.run .i64 ((y :: ys) ++ q).length ((y :: ys) ++ q)] 3) :: (2, .gone) :: (3, .gone) :: rch F m r k i bs := by
    show (1, Chunk.cells [AV.slc 6 0 (ys.length + 1) ((y :: ys).take (ys.length + 1) ++ q).length] 28) :: (6, Chunk.cells [AV.run .i64 ((y :: ys).take (ys.length + 1) ++ q).length ((y :: ys).take (ys.length + 1) ++ q)] 3) :: _ = _
    rw [e]; rfl
  rw [e1]
  refine on ?_
  exact ret_abM tbl_ok trivial 4 rfl rfl rfl hτ rfl (⟨q, hq'⟩ : Cap (y :: ys)) [0, 6] rfl rfl rfl rfl rfl ⟨rfl, rfl, trivial⟩
end Go.Proofs.Ytolcobhaghdfcaa
