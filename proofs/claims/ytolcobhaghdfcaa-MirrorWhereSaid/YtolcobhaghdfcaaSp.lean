/- Contracts: the places of a node, and the iterator over its members. -/
import Derived.Test.YtolcobhaghdfcaaGeom
import Derived.Test.YtolcobhaghdfcaaApp
namespace Go.Proofs.Ytolcobhaghdfcaa
open Sx Go
set_option maxRecDepth 100000
abbrev NA (k i : Int) (bs : List Int) : AV := .agg [IA k, IA i, .run .u8 64 bs]
abbrev NC (k i : Int) (bs : List Int) : Chunk := .cells [IA k, IA i, .run .u8 64 bs] 27
abbrev GC (m r : Int) : Chunk := .cells [IA m, IA r] 23
theorem c133 (x : Int) : Ctr Try.prog 133 [I x] emp (fun _ : Unit => I x) (fun _ => emp) := by
  refine pur [IA x] Try.func133 rfl (by kernel_rfl) rfl A133_ok rfl rfl fun F w0 => ?_
  refine on ?_
  exact ret1 trivial rfl rfl rfl rfl
theorem c134 (m r k i j : Int) (bs : List Int) (h : InR (i + j)) (hm : m ≠ 0) : ACtr Try.prog 134 3 [IA j, .ptr 1 0, .ptr 2 0] [(1, NC k i bs), (2, GC m r)] (fun _ : Unit => 0) (fun _ => IA ((i + j).tmod m)) (fun _ => [(1, NC k i bs), (2, GC m r)]) := by
  refine act Try.func134 rfl rfl rfl A134_ok rfl fun F w0 b => ?_
  refine on ?_
  exact reta ⟨⟨trivial, h⟩, hm⟩ rfl () [0, 1, 2] rfl rfl rfl rfl rfl ⟨rfl, rfl, rfl, trivial⟩
theorem c136 (x : Int) : ACtr Try.prog 136 2 [IA 0, .ptr 1 0] [(1, .cells [IA x] 3)] (fun _ : Unit => 0) (fun _ => IA x) (fun _ => [(1, .cells [IA x] 3)]) := by
  refine act Try.func136 rfl rfl rfl A136_ok rfl fun F w0 b => ?_
  refine on ?_
  exact reta trivial rfl () [0, 1] rfl rfl rfl rfl rfl ⟨rfl, rfl, trivial⟩
theorem c96_1 (m r i : Int) (bs : List Int) (hi : InR i) : ACtr Try.prog 96 1 [GA m r, NA 1 i bs] [] (fun _ : Unit => 0) (fun _ => .tup [IA m, .fn (.func 133) [] [], IA (plc m r 1 i).1, IA (plc m r 1 i).2]) (fun _ => []) := by
  refine act Try.func96 rfl rfl rfl A96_ok rfl fun F w0 b => ?_
  refine on ?_
  refine ev_lt trivial (fun _ => ?_) (fun h => absurd rfl h)
  refine on ?_
  refine call_pure trivial (c132 m r 1 i hi) rfl (rv := .tup [IA (plc m r 1 i).1, IA (plc m r 1 i).2]) rfl trivial ?_
  refine on ?_
  exact reta trivial rfl () [0] rfl rfl rfl rfl rfl ⟨rfl, trivial⟩
theorem c96_3 (m r i : Int) (bs : List Int) (hi : InR i) : ACtr Try.prog 96 1 [GA m r, NA 3 i bs] [] (fun _ : Unit => 2) (fun _ => .tup [IA 3, .fn (.func 134) [] [.ptr 2 0, .ptr 1 0], IA (plc m r 3 i).1, IA (plc m r 3 i).2]) (fun _ => [(1, GC m r), (2, NC 3 i bs)]) := by
  refine act Try.func96 rfl rfl rfl A96_ok rfl fun F w0 b => ?_
  refine on ?_
  refine ev_lt trivial (fun h => absurd h (by decide)) (fun _ => ?_)
  refine on ?_
  refine ev_lt trivial (fun _ => ?_) (fun h => absurd rfl h)
  refine on ?_
  refine call_pure trivial (c132 m r 3 i hi) rfl (rv := .tup [IA (plc m r 3 i).1, IA (plc m r 3 i).2]) rfl trivial ?_
  refine on ?_
  exact reta trivial rfl () [0, 1, 2] rfl rfl rfl rfl rfl ⟨rfl, rfl, rfl, trivial⟩
theorem c96_4 (m r i : Int) (bs : List Int) (ho : oka m r i) : ACtr Try.prog 96 1 [GA m r, NA 4 i bs] [] (fun _ : Unit => 1) (fun _ => .tup [IA 1, .fn (.func 136) [] [.ptr 1 0], IA (plc m r 4 (i / m)).1, IA (plc m r 4 (i / m)).2]) (fun _ => [(1, .cells [IA (i % m)] 3)]) := by
  have hi : InR (i / m) := by
    have hg := geo_mul ho.1
    have h4 := Int.ediv_le_self m ho.2.1
    have h5 : 0 ≤ i / m := Int.ediv_nonneg ho.2.1 (by have := ho.1.1; omega)
    have h3 := ho.2.2
    unfold InR; omega
  have e : atv m r i = (i / m, i % m, 0) := if_pos ho
  refine act Try.func96 rfl rfl rfl A96_ok rfl fun F w0 b => ?_
  refine on ?_
  refine ev_lt trivial (fun h => absurd h (by decide)) (fun _ => ?_)
  refine on ?_
  refine ev_lt trivial (fun h => absurd h (by decide)) (fun _ => ?_)
  refine on ?_
  refine ev_lt trivial (fun _ => ?_) (fun h => absurd rfl h)
  refine on ?_
  refine call_pure trivial (c135 m r i) rfl (rv := .tup [IA (i / m), IA (i % m), IA 0]) (by rw [e]; rfl) trivial ?_
  refine on ?_
  refine ev_ne trivial (fun h => absurd rfl h) (fun _ => ?_)
  refine on ?_
  refine call_pure trivial (c132 m r 4 (i / m) hi) rfl (rv := .tup [IA (plc m r 4 (i / m)).1, IA (plc m r 4 (i / m)).2]) rfl trivial ?_
  refine on ?_
  exact reta trivial rfl () [0, 3] rfl rfl rfl rfl rfl ⟨rfl, rfl, trivial⟩
theorem c96_4n (m r i : Int) (bs : List Int) (ho : ¬ oka m r i) : ACtr Try.prog 96 1 [GA m r, NA 4 i bs] [] (fun _ : Unit => 0) (fun _ => .tup [IA 0, .v .nilFunc, IA 0, IA 2]) (fun _ => []) := by
  have e : atv m r i = (0, 0, 2) := if_neg ho
  refine act Try.func96 rfl rfl rfl A96_ok rfl fun F w0 b => ?_
  refine on ?_
  refine ev_lt trivial (fun h => absurd h (by decide)) (fun _ => ?_)
  refine on ?_
  refine ev_lt trivial (fun h => absurd h (by decide)) (fun _ => ?_)
  refine on ?_
  refine ev_lt trivial (fun _ => ?_) (fun h => absurd rfl h)
  refine on ?_
  refine call_pure trivial (c135 m r i) rfl (rv := .tup [IA 0, IA 0, IA 2]) (by rw [e]; rfl) trivial ?_
  refine on ?_
  refine ev_ne trivial (fun _ => ?_) (fun h => absurd h (by decide))
  refine on ?_
  exact reta trivial rfl () [0] rfl rfl rfl rfl rfl ⟨rfl, trivial⟩
theorem c96_o (m r k i : Int) (bs : List Int) (h1 : k ≠ 1) (h3 : k ≠ 3) (h4 : k ≠ 4) : ACtr Try.prog 96 1 [GA m r, NA k i bs] [] (fun _ : Unit => 0) (fun _ => .tup [IA 0, .v .nilFunc, IA 0, IA 2]) (fun _ => []) := by
  refine act Try.func96 rfl rfl rfl A96_ok rfl fun F w0 b => ?_
  refine on ?_
  refine ev_lt trivial (fun h => absurd h h1) (fun _ => ?_)
  refine on ?_
  refine ev_lt trivial (fun h => absurd h h3) (fun _ => ?_)
  refine on ?_
  refine ev_lt trivial (fun h => absurd h h4) (fun _ => ?_)
  refine on ?_
  exact reta trivial rfl () [0] rfl rfl rfl rfl rfl ⟨rfl, trivial⟩
theorem good_false {cx : Cx} {st : St} (k : Nat) (hk : Nat.blt k st.nx = true) (h : lookc st.ch k = frm (lift False)) : Good cx st := fun ρ a w H => by
  obtain ⟨_, _, hh⟩ := H.sat.each k (by simpa using hk)
  rw [h] at hh
  obtain ⟨_, _, hf⟩ := hh
  exact hf.elim
abbrev YV (l : Nat) : AV := .v (.func (.yield l) #[] #[])
abbrev HY (l : Nat) (J : Nat → HProp) (n : Nat) (xs : Nat → List Value) : Prop := ∀ j, j < n → ∀ F w, Sat (star (J j) F) w → YieldOk Try.prog l (xs j) w (fun v w' => Env w w' ∧ ∃ b, v = .bool b ∧ Sat (star (bif b then J (j + 1) else lift False) F) w')
theorem c110_1 (m r i : Int) (bs : List Int) (hi : InR i) (ho : okp m r 1 i) (l : Nat) (J : Nat → HProp) (hY : HY l J m.toNat fun j => [I j, I (plc m r 1 i).1]) :
    ACtr Try.prog 110 4 [YV l, .ptr 1 0, .ptr 2 0] [(1, GC m r), (2, NC 1 i bs), (3, frm (J 0))] (fun _ : Unit => 0) (fun _ => .tup []) (fun _ => [(1, GC m r), (2, NC 1 i bs), (3, frm (J m.toNat))]) := by
  have hg := ho.1
  unfold geo at hg
  have e2 : (plc m r 1 i).2 = 0 := by rw [plc, if_pos ho]
  refine act Try.func110 rfl rfl rfl A110_ok rfl fun F w0 b => ?_
  refine on ?_
  refine call_ab trivial (c96_1 m r i bs hi) [] rfl rfl rfl rfl rfl trivial (fun _ => rfl) (fun _ => rfl) (fun _ => trivial) (fun _ => ?_)
  rw [e2]
  refine on ?_
  refine ev_loop trivial (ι := Nat) (fun t => (t : Int) ≤ m) (fun t => m.toNat - t) (fun t => [(0, YV l), (5, .fn (.func 133) [] []), (6, IA (plc m r 1 i).1), (7, IA 0), (17, IA m), (18, IA t)])
    (fun t => [(0, frm F), (1, GC m r), (2, NC 1 i bs), (3, frm (J t))]) 4 0 (by omega) (Fit.of [0, 1, 2, 3] rfl rfl rfl rfl ⟨rfl, rfl, rfl, rfl, rfl, rfl, trivial⟩ ⟨rfl, rfl, rfl, rfl, trivial⟩) (fun t ht => ?_)
  refine on ?_
  refine ev_lt trivial (fun h1 => ?_) (fun h1 => ?_) <;> refine on ?_
  · refine ev_ne trivial (fun h => absurd rfl h) (fun _ => ?_)
    refine on ?_
    refine call_pure trivial (c133 t) rfl (rv := IA t) rfl trivial ?_
    refine on ?_
    refine ev_yield trivial rfl rfl rfl 3 rfl rfl (hY t (by omega)) rfl ?_ (good_false 3 rfl rfl)
    refine on ?_
    exact ev_lend ⟨trivial, by unfold InR; omega⟩ (t + 1) (by omega) (by omega) (Fit.of [0, 1, 2, 3] rfl rfl rfl rfl ⟨rfl, rfl, rfl, rfl, rfl, rfl, trivial⟩ ⟨rfl, rfl, rfl, rfl, trivial⟩)
  · have : t = m.toNat := by omega
    subst this
    exact reta trivial rfl () [0, 1, 2, 3] rfl rfl rfl rfl rfl ⟨rfl, rfl, rfl, rfl, trivial⟩
theorem c110_1n (m r i : Int) (bs : List Int) (hi : InR i) (ho : ¬ okp m r 1 i) (l : Nat) (A : HProp) :
    ACtr Try.prog 110 4 [YV l, .ptr 1 0, .ptr 2 0] [(1, GC m r), (2, NC 1 i bs), (3, frm A)] (fun _ : Unit => 0) (fun _ => .tup []) (fun _ => [(1, GC m r), (2, NC 1 i bs), (3, frm A)]) := by
  have e2 : (plc m r 1 i).2 = 2 := by rw [plc, if_neg ho]
  refine act Try.func110 rfl rfl rfl A110_ok rfl fun F w0 b => ?_
  refine on ?_
  refine call_ab trivial (c96_1 m r i bs hi) [] rfl rfl rfl rfl rfl trivial (fun _ => rfl) (fun _ => rfl) (fun _ => trivial) (fun _ => ?_)
  rw [e2]
  refine on ?_
  refine ev_loop trivial (ι := Unit) (fun _ => True) (fun _ => 0) (fun _ => [(7, IA 2), (17, IA m), (18, IA 0)])
    (fun _ => [(0, frm F), (1, GC m r), (2, NC 1 i bs), (3, frm A)]) 4 () trivial (Fit.of [0, 1, 2, 3] rfl rfl rfl rfl ⟨rfl, rfl, rfl, trivial⟩ ⟨rfl, rfl, rfl, rfl, trivial⟩) (fun _ _ => ?_)
  refine on ?_
  refine ev_lt trivial (fun h1 => ?_) (fun h1 => ?_) <;> refine on ?_
  · refine ev_ne trivial (fun _ => ?_) (fun h => absurd h (by decide))
    refine on ?_
    exact reta trivial rfl () [0, 1, 2, 3] rfl rfl rfl rfl rfl ⟨rfl, rfl, rfl, rfl, trivial⟩
  · exact reta trivial rfl () [0, 1, 2, 3] rfl rfl rfl rfl rfl ⟨rfl, rfl, rfl, rfl, trivial⟩
theorem c110_3n (m r i : Int) (bs : List Int) (hi : InR i) (ho : ¬ okp m r 3 i) (l : Nat) (A : HProp) :
    ACtr Try.prog 110 4 [YV l, .ptr 1 0, .ptr 2 0] [(1, GC m r), (2, NC 3 i bs), (3, frm A)] (fun _ : Unit => 0) (fun _ => .tup []) (fun _ => [(1, GC m r), (2, NC 3 i bs), (3, frm A)]) := by
  have e2 : (plc m r 3 i).2 = 2 := by rw [plc, if_neg ho]
  refine act Try.func110 rfl rfl rfl A110_ok rfl fun F w0 b => ?_
  refine on ?_
  refine call_ab trivial (c96_3 m r i bs hi) [] rfl rfl rfl rfl rfl trivial (fun _ => rfl) (fun _ => rfl) (fun _ => trivial) (fun _ => ?_)
  rw [e2]
  refine on ?_
  refine ev_loop trivial (ι := Unit) (fun _ => True) (fun _ => 0) (fun _ => [(7, IA 2), (17, IA 3), (18, IA 0)])
    (fun _ => [(0, frm F), (1, GC m r), (2, NC 3 i bs), (3, frm A)]) 4 () trivial (Fit.of [0, 1, 2, 3] rfl rfl rfl rfl ⟨rfl, rfl, rfl, trivial⟩ ⟨rfl, rfl, rfl, rfl, trivial⟩) (fun _ _ => ?_)
  refine on ?_
  refine ev_lt trivial (fun h1 => ?_) (fun h1 => ?_) <;> refine on ?_
  · refine ev_ne trivial (fun _ => ?_) (fun h => absurd h (by decide))
    refine on ?_
    exact reta trivial rfl () [0, 1, 2, 3] rfl rfl rfl rfl rfl ⟨rfl, rfl, rfl, rfl, trivial⟩
  · exact reta trivial rfl () [0, 1, 2, 3] rfl rfl rfl rfl rfl ⟨rfl, rfl, rfl, rfl, trivial⟩
theorem c110_4n (m r i : Int) (bs : List Int) (ho : ¬ oka m r i) (l : Nat) (A : HProp) :
    ACtr Try.prog 110 4 [YV l, .ptr 1 0, .ptr 2 0] [(1, GC m r), (2, NC 4 i bs), (3, frm A)] (fun _ : Unit => 0) (fun _ => .tup []) (fun _ => [(1, GC m r), (2, NC 4 i bs), (3, frm A)]) := by
  refine act Try.func110 rfl rfl rfl A110_ok rfl fun F w0 b => ?_
  refine on ?_
  refine call_ab trivial (c96_4n m r i bs ho) [] rfl rfl rfl rfl rfl trivial (fun _ => rfl) (fun _ => rfl) (fun _ => trivial) (fun _ => ?_)
  refine on ?_
  refine ev_loop trivial (ι := Unit) (fun _ => True) (fun _ => 0) (fun _ => [(7, IA 2), (17, IA 0), (18, IA 0)])
    (fun _ => [(0, frm F), (1, GC m r), (2, NC 4 i bs), (3, frm A)]) 4 () trivial (Fit.of [0, 1, 2, 3] rfl rfl rfl rfl ⟨rfl, rfl, rfl, trivial⟩ ⟨rfl, rfl, rfl, rfl, trivial⟩) (fun _ _ => ?_)
  refine on ?_
  refine ev_lt trivial (fun h1 => ?_) (fun h1 => ?_) <;> refine on ?_
  · refine ev_ne trivial (fun _ => ?_) (fun h => absurd h (by decide))
    refine on ?_
    exact reta trivial rfl () [0, 1, 2, 3] rfl rfl rfl rfl rfl ⟨rfl, rfl, rfl, rfl, trivial⟩
  · exact reta trivial rfl () [0, 1, 2, 3] rfl rfl rfl rfl rfl ⟨rfl, rfl, rfl, rfl, trivial⟩
theorem c110_o (m r i : Int) (k : Int) (bs : List Int) (h1 : k ≠ 1) (h3 : k ≠ 3) (h4 : k ≠ 4) (l : Nat) (A : HProp) :
    ACtr Try.prog 110 4 [YV l, .ptr 1 0, .ptr 2 0] [(1, GC m r), (2, NC k i bs), (3, frm A)] (fun _ : Unit => 0) (fun _ => .tup []) (fun _ => [(1, GC m r), (2, NC k i bs), (3, frm A)]) := by
  refine act Try.func110 rfl rfl rfl A110_ok rfl fun F w0 b => ?_
  refine on ?_
  refine call_ab trivial (c96_o m r k i bs h1 h3 h4) [] rfl rfl rfl rfl rfl trivial (fun _ => rfl) (fun _ => rfl) (fun _ => trivial) (fun _ => ?_)
  refine on ?_
  refine ev_loop trivial (ι := Unit) (fun _ => True) (fun _ => 0) (fun _ => [(7, IA 2), (17, IA 0), (18, IA 0)])
    (fun _ => [(0, frm F), (1, GC m r), (2, NC k i bs), (3, frm A)]) 4 () trivial (Fit.of [0, 1, 2, 3] rfl rfl rfl rfl ⟨rfl, rfl, rfl, trivial⟩ ⟨rfl, rfl, rfl, rfl, trivial⟩) (fun _ _ => ?_)
  refine on ?_
  refine ev_lt trivial (fun h1 => ?_) (fun h1 => ?_) <;> refine on ?_
  · refine ev_ne trivial (fun _ => ?_) (fun h => absurd h (by decide))
    refine on ?_
    exact reta trivial rfl () [0, 1, 2, 3] rfl rfl rfl rfl rfl ⟨rfl, rfl, rfl, rfl, trivial⟩
  · exact reta trivial rfl () [0, 1, 2, 3] rfl rfl rfl rfl rfl ⟨rfl, rfl, rfl, rfl, trivial⟩
theorem c110_3 (m r i : Int) (bs : List Int) (hi : InR i) (ho : okp m r 3 i) (l : Nat) (J : Nat → HProp) (hY : HY l J 3 fun j => [I ((i + j).tmod m), I (plc m r 3 i).1]) :
    ACtr Try.prog 110 4 [YV l, .ptr 1 0, .ptr 2 0] [(1, GC m r), (2, NC 3 i bs), (3, frm (J 0))] (fun _ : Unit => 0) (fun _ => .tup []) (fun _ => [(1, GC m r), (2, NC 3 i bs), (3, frm (J 3))]) := by
  have hg := ho.1
  unfold geo at hg
  have hc := cnt_le ho.1 3
  have hl3 := lst_le 3
  have hb1 := ho.2.2.2.1
  have hb2 := ho.2.2.2.2
  have e2 : (plc m r 3 i).2 = 0 := by rw [plc, if_pos ho]
  refine act Try.func110 rfl rfl rfl A110_ok rfl fun F w0 b => ?_
  refine on ?_
  refine call_ab trivial (c96_3 m r i bs hi) [] rfl rfl rfl rfl rfl trivial (fun _ => rfl) (fun _ => rfl) (fun _ => trivial) (fun _ => ?_)
  rw [e2]
  refine on ?_
  refine ev_loop trivial (ι := Nat) (fun t => t ≤ 3) (fun t => 3 - t) (fun t => [(0, YV l), (5, .fn (.func 134) [] [.ptr 5 0, .ptr 4 0]), (6, IA (plc m r 3 i).1), (7, IA 0), (17, IA 3), (18, IA t)])
    (fun t => [(0, frm F), (1, GC m r), (2, NC 3 i bs), (3, frm (J t)), (4, GC m r), (5, NC 3 i bs)]) 6 0 (by omega) (Fit.of [0, 1, 2, 3, 4, 5] rfl rfl rfl rfl ⟨rfl, rfl, rfl, rfl, rfl, rfl, trivial⟩ ⟨rfl, rfl, rfl, rfl, rfl, rfl, trivial⟩) (fun t ht => ?_)
  refine on ?_
  refine ev_lt trivial (fun h1 => ?_) (fun h1 => ?_) <;> refine on ?_
  · refine ev_ne trivial (fun h => absurd rfl h) (fun _ => ?_)
    refine on ?_
    refine call_ab trivial (c134 m r 3 i t bs (by unfold InR; omega) (by omega)) [5, 4] rfl rfl rfl rfl rfl ⟨rfl, rfl, trivial⟩ (fun _ => rfl) (fun _ => rfl) (fun _ => trivial) (fun _ => ?_)
    refine on ?_
    refine ev_yield trivial rfl rfl rfl 3 rfl rfl (hY t (by omega)) rfl ?_ (good_false 3 rfl rfl)
    refine on ?_
    exact ev_lend ⟨trivial, by unfold InR; omega⟩ (t + 1) (by omega) (by omega) (Fit.of [0, 1, 2, 3, 4, 5] rfl rfl rfl rfl ⟨rfl, rfl, rfl, rfl, rfl, rfl, trivial⟩ ⟨rfl, rfl, rfl, rfl, rfl, rfl, trivial⟩)
  · have : t = 3 := by omega
    subst this
    exact reta trivial rfl () [0, 1, 2, 3] rfl rfl rfl rfl rfl ⟨rfl, rfl, rfl, rfl, trivial⟩
theorem oka_okp {m r i : Int} (ho : oka m r i) : okp m r 4 (i / m) := by
  have hg := ho.1
  have h0 : 0 ≤ i / m := Int.ediv_nonneg ho.2.1 (by unfold geo at hg; omega)
  have h1 : i / m < r := Int.ediv_lt_of_lt_mul (by unfold geo at hg; omega) (by rw [Int.mul_comm]; exact ho.2.2)
  refine ⟨hg, by omega, by omega, ?_, ?_⟩
  · simp [lst]; exact h0
  · simp [lst, cnt]; exact h1
theorem c110_4 (m r i : Int) (bs : List Int) (ho : oka m r i) (l : Nat) (J : Nat → HProp) (hY : HY l J 1 fun _ => [I (i % m), I (plc m r 4 (i / m)).1]) :
    ACtr Try.prog 110 4 [YV l, .ptr 1 0, .ptr 2 0] [(1, GC m r), (2, NC 4 i bs), (3, frm (J 0))] (fun _ : Unit => 0) (fun _ => .tup []) (fun _ => [(1, GC m r), (2, NC 4 i bs), (3, frm (J 1))]) := by
  have e2 : (plc m r 4 (i / m)).2 = 0 := by rw [plc, if_pos (oka_okp ho)]
  refine act Try.func110 rfl rfl rfl A110_ok rfl fun F w0 b => ?_
  refine on ?_
  refine call_ab trivial (c96_4 m r i bs ho) [] rfl rfl rfl rfl rfl trivial (fun _ => rfl) (fun _ => rfl) (fun _ => trivial) (fun _ => ?_)
  rw [e2]
  refine on ?_
  refine ev_loop trivial (ι := Bool) (fun _ => True) (fun t => if t then 0 else 1) (fun t => [(0, YV l), (5, .fn (.func 136) [] [.ptr 4 0]), (6, IA (plc m r 4 (i / m)).1), (7, IA 0), (17, IA 1), (18, bif t then IA 1 else IA 0)])
    (fun t => [(0, frm F), (1, GC m r), (2, NC 4 i bs), (3, bif t then frm (J 1) else frm (J 0)), (4, .cells [IA (i % m)] 3)]) 5 false trivial (Fit.of [0, 1, 2, 3, 4] rfl rfl rfl rfl ⟨rfl, rfl, rfl, rfl, rfl, rfl, trivial⟩ ⟨rfl, rfl, rfl, rfl, rfl, trivial⟩) (fun t ht => ?_)
  cases t with
  | false =>
    refine on ?_
    refine ev_lt trivial (fun h1 => ?_) (fun h1 => absurd (by decide) h1)
    refine on ?_
    refine ev_ne trivial (fun h => absurd rfl h) (fun _ => ?_)
    refine on ?_
    refine call_ab trivial (c136 (i % m)) [4] rfl rfl rfl rfl rfl ⟨rfl, trivial⟩ (fun _ => rfl) (fun _ => rfl) (fun _ => trivial) (fun _ => ?_)
    refine on ?_
    refine ev_yield trivial rfl rfl rfl 3 rfl rfl (hY 0 (by omega)) rfl ?_ (good_false 3 rfl rfl)
    refine on ?_
    exact ev_lend ⟨trivial, by decide⟩ true trivial (by decide) (Fit.of [0, 1, 2, 3, 4] rfl rfl rfl rfl ⟨rfl, rfl, rfl, rfl, rfl, rfl, trivial⟩ ⟨rfl, rfl, rfl, rfl, rfl, trivial⟩)
  | true =>
    refine on ?_
    refine ev_lt trivial (fun h1 => absurd h1 (by decide)) (fun _ => ?_)
    refine on ?_
    exact reta trivial rfl () [0, 1, 2, 3] rfl rfl rfl rfl rfl ⟨rfl, rfl, rfl, rfl, trivial⟩
theorem c57 (m r k i : Int) (bs : List Int) : ACtr Try.prog 57 1 [GA m r, NA k i bs] [] (fun _ : Unit => 2) (fun _ => .fn (.func 110) [] [.ptr 1 0, .ptr 2 0]) (fun _ => [(1, GC m r), (2, NC k i bs)]) := by
  refine act Try.func57 rfl rfl rfl A57_ok rfl fun F w0 b => ?_
  refine on ?_
  exact reta trivial rfl () [0, 1, 2] rfl rfl rfl rfl rfl ⟨rfl, rfl, rfl, trivial⟩
end Go.Proofs.Ytolcobhaghdfcaa
