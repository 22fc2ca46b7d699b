/- What a law's arguments hold, read out of the form's reading: steps and acts. -/
import Derived.Test.YtolcobhaghdfcaaRw
import Derived.Test.YtolcobhaghdfcaaQui
import Derived.Deep.Slices
import Derived.SizedLaws
import Derived.Below
namespace Go.Proofs.Ytolcobhaghdfcaa
open Sx Go Go.ChangeShapes Go.WideShapes Go.RowKit Go.Deep
set_option maxRecDepth 100000
namespace Opn
theorem u3 : Try.prog.underlying 3 = some (.int .i64) := by kernel_rfl
theorem u5 : Try.prog.underlying 5 = some (.int .u8) := by kernel_rfl
theorem u25 : Try.prog.underlying 25 = some (.array 64 5) := by kernel_rfl
theorem u48 : Try.prog.underlying 48 = some (.array 32 5) := by kernel_rfl
theorem u36 : Try.prog.underlying 36 = some (.slice 40) := by kernel_rfl
theorem u37 : Try.prog.underlying 37 = some (.slice 50) := by kernel_rfl
theorem u38 : Try.prog.underlying 38 = some (.slice 5) := by kernel_rfl
abbrev f40 : Array Field := #[{ name := "At", type := 3, offset := 0, embedded := false, tag := "", pkgPath := "", byteOffset := 0 }, { name := "Kind", type := 3, offset := 1, embedded := false, tag := "", pkgPath := "", byteOffset := 8 }, { name := "Member", type := 3, offset := 2, embedded := false, tag := "", pkgPath := "", byteOffset := 16 },
  { name := "Index", type := 3, offset := 3, embedded := false, tag := "", pkgPath := "", byteOffset := 24 }, { name := "N", type := 3, offset := 4, embedded := false, tag := "", pkgPath := "", byteOffset := 32 }, { name := "Data", type := 25, offset := 5, embedded := false, tag := "", pkgPath := "", byteOffset := 40 },
  { name := "Picks", type := 38, offset := 69, embedded := false, tag := "", pkgPath := "", byteOffset := 104 }]
theorem u40 : Try.prog.underlying 40 = some (.struct f40) := by kernel_rfl
abbrev f50 : Array Field := #[{ name := "Do", type := 3, offset := 0, embedded := false, tag := "", pkgPath := "", byteOffset := 0 }, { name := "Member", type := 3, offset := 1, embedded := false, tag := "", pkgPath := "", byteOffset := 8 }, { name := "Index", type := 3, offset := 2, embedded := false, tag := "", pkgPath := "", byteOffset := 16 },
  { name := "Data", type := 25, offset := 3, embedded := false, tag := "", pkgPath := "", byteOffset := 24 }, { name := "Label", type := 48, offset := 67, embedded := false, tag := "", pkgPath := "", byteOffset := 88 }]
theorem u50 : Try.prog.underlying 50 = some (.struct f50) := by kernel_rfl
theorem c3 : Try.prog.cellsOf 3 = 1 := by kernel_rfl
theorem c5 : Try.prog.cellsOf 5 = 1 := by kernel_rfl
theorem c25 : Try.prog.cellsOf 25 = 64 := by kernel_rfl
theorem c48 : Try.prog.cellsOf 48 = 32 := by kernel_rfl
theorem c38 : Try.prog.cellsOf 38 = 1 := by kernel_rfl
theorem c40 : Try.prog.cellsOf 40 = 70 := by kernel_rfl
theorem c50 : Try.prog.cellsOf 50 = 99 := by kernel_rfl
theorem b5 : Try.prog.bytesOf 5 = 1 := by kernel_rfl
section
variable {H : Type} {enc : TypeId × Value → H} {W : World} {base : Nat} {spare : Nat → Bool} {held : Bool} {fuel : Nat}
theorem ints_of : ∀ (l : List Value), (∀ j, j < l.length → ∃ q : Int, l[j]? = some (.int .u8 q)) → ∃ bs : List Int, l = bs.map (Value.int .u8)
  | [], _ => ⟨[], rfl⟩
  | v :: r, h => by
    obtain ⟨q, hq⟩ := h 0 (by simp)
    obtain ⟨bs, hbs⟩ := ints_of r fun j hj => by simpa using h (j + 1) (by simpa using hj)
    simp at hq
    exact ⟨q :: bs, by rw [hq, hbs]; rfl⟩
theorem arr_of {t len : Nat} (ht : Try.prog.underlying t = some (.array len 5)) {cs : List Value} {x : DataW H × List MemPlace} (h : DataW.trod enc Try.prog W base spare held fuel t cs = some x) (hl : cs.length = len) : ∃ bs : List Int, bs.length = len ∧ cs = bs.map (Value.int .u8) := by
  obtain ⟨ys, m, _, _, hyl, hyn, hys⟩ := DataW.trod_array ht h
  obtain ⟨bs, hbs⟩ := ints_of cs fun j hj => by
    have := hys j (by omega)
    rw [List.getElem?_eq_getElem (by omega), c5, Nat.mul_one] at this
    obtain ⟨q, e, _, _⟩ := DataW.trod_int u5 this
    refine ⟨q, ?_⟩
    have := congrArg List.head? e
    simpa [List.head?_take, List.head?_drop] using this
  exact ⟨bs, by rw [hbs] at hl; simpa using hl, hbs⟩
theorem one_of {cs : List Value} {off : Nat} {x : DataW H × List MemPlace} (h : DataW.trod enc Try.prog W base spare held fuel 3 ((cs.drop off).take 1) = some x) : ∃ a : Int, cs[off]? = some (.int .i64 a) := by
  obtain ⟨a, e, _, _⟩ := DataW.trod_int u3 h
  refine ⟨a, ?_⟩
  have := congrArg List.head? e
  simpa [List.head?_take, List.head?_drop] using this
/-- an act -/
theorem open50 {cs : List Value} {x : DataW H × List MemPlace} (h : DataW.trod enc Try.prog W base spare held fuel 50 cs = some x) : ∃ y : Ac, y.ok ∧ cs = y.enc := by
  obtain ⟨xs, n, _, hx, hl, hlen, hfs⟩ := DataW.trod_struct u50 h
  rw [c50] at hl
  have hx5 : xs.length = 5 := hlen
  have g0 : DataW.trod enc Try.prog W base spare held n 3 ((cs.drop 0).take (Try.prog.cellsOf 3)) = xs[0]? := hfs 0 _ rfl
  have g1 : DataW.trod enc Try.prog W base spare held n 3 ((cs.drop 1).take (Try.prog.cellsOf 3)) = xs[1]? := hfs 1 _ rfl
  have g2 : DataW.trod enc Try.prog W base spare held n 3 ((cs.drop 2).take (Try.prog.cellsOf 3)) = xs[2]? := hfs 2 _ rfl
  have g3 : DataW.trod enc Try.prog W base spare held n 25 ((cs.drop 3).take (Try.prog.cellsOf 25)) = xs[3]? := hfs 3 _ rfl
  have g4 : DataW.trod enc Try.prog W base spare held n 48 ((cs.drop 67).take (Try.prog.cellsOf 48)) = xs[4]? := hfs 4 _ rfl
  rw [List.getElem?_eq_getElem (by omega)] at g0 g1 g2 g3 g4
  simp only [c3, c25, c48] at g0 g1 g2 g3 g4
  obtain ⟨a0, e0⟩ := one_of g0
  obtain ⟨a1, e1⟩ := one_of g1
  obtain ⟨a2, e2⟩ := one_of g2
  obtain ⟨d1, l1, e3⟩ := arr_of u25 g3 (by simp; omega)
  obtain ⟨d2, l2, e4⟩ := arr_of u48 g4 (by simp; omega)
  refine ⟨⟨a0, a1, a2, d1, d2⟩, ⟨l1, l2⟩, ?_⟩
  unfold Ac.enc
  dsimp only
  rw [← e3, ← e4]
  match cs, hl with
  | v0 :: v1 :: v2 :: r, hl =>
    simp at e0 e1 e2 hl
    subst e0 e1 e2
    have h1 : ∀ a b c : Value, List.drop 3 (a :: b :: c :: r) = r := fun _ _ _ => rfl
    have h2 : ∀ a b c : Value, List.drop 67 (a :: b :: c :: r) = r.drop 64 := fun _ _ _ => rfl
    rw [h1, h2, show (r.drop 64).take 32 = r.drop 64 from List.take_of_length_le (by simp; omega), List.append_assoc, List.take_append_drop]
    rfl
/-- a slice's rows -/
theorem weights_all {e : TypeId} {d : DataW H} : ∀ {l : List (DataW H)}, d ∈ l → ∀ n ∈ d.weights Try.prog e, n ∈ DataW.weightsAll Try.prog e l
  | x :: r, h, n, hn => by
    simp only [DataW.weightsAll, List.mem_append]
    rcases List.mem_cons.1 h with rfl | h
    · exact .inl hn
    · exact .inr (weights_all h n hn)
/-- a slice of bytes -/
theorem open38 {cs : List Value} {x : DataW H × List MemPlace} (h : DataW.trod enc Try.prog W base spare held fuel 38 cs = some x) (hw : ∀ n ∈ x.1.weights Try.prog 38, n ≤ reachBytes) :
    ∃ (ps : List Int) (d : Ds), cs = [.slice d.1 ps.length d.2] ∧ (d.1 = none → ps.length = 0 ∧ d.2 = 0) ∧ ps.length ≤ 140737488351232 ∧ ∀ j u, (U8 ps)[j]? = some u → ∃ ad, d.1 = some ad ∧ W.cell? (ad.add j) = some u := by
  rcases open_slice1 u38 c5 h with ⟨rfl, _⟩ | ⟨a, len, cap, m, n, V, D, Pl, rfl, _, hlc, _, hm, rfl, hV⟩
  · exact ⟨[], (none, 0), rfl, fun _ => ⟨rfl, rfl⟩, by decide, fun j u hj => by simp at hj⟩
  · have hml : len ≤ m := by rw [hm]; split <;> omega
    obtain ⟨ps, hps⟩ := ints_of ((List.range len).map V) fun j hj => by
      simp only [List.length_map, List.length_range] at hj
      obtain ⟨_, h2⟩ := hV j (by omega)
      obtain ⟨q, e, _, _⟩ := DataW.trod_int u5 h2
      simp only [List.cons.injEq, and_true] at e
      exact ⟨q, by rw [List.getElem?_map, List.getElem?_range hj, Option.map_some, e]⟩
    have hpl : ps.length = len := by have := congrArg List.length hps; simpa using this.symm
    refine ⟨ps, (some a, cap), by rw [hpl], (fun e => by cases e), ?_, fun j u hj => ⟨a, rfl, ?_⟩⟩
    · have := hw ((((List.range len).map D).length + ((List.range (m - len)).map fun j => D (len + j)).length) * Try.prog.bytesOf 5) (by simp [DataW.weights, u38])
      rw [b5] at this
      simp only [List.length_map, List.length_range, reachBytes] at this
      omega
    · have hj' : (((List.range len).map V))[j]? = some u := by rw [hps]; exact hj
      rw [List.getElem?_map] at hj'
      rcases Nat.lt_or_ge j len with h3 | h3
      · rw [List.getElem?_range h3, Option.map_some, Option.some.injEq] at hj'
        rw [(hV j (by omega)).1, hj']
      · rw [List.getElem?_eq_none (by simpa using h3)] at hj'; cases hj'
/-- a step -/
theorem open40 {cs : List Value} {x : DataW H × List MemPlace} (h : DataW.trod enc Try.prog W base spare held fuel 40 cs = some x) (hw : ∀ n ∈ x.1.weights Try.prog 40, n ≤ reachBytes) :
    ∃ (s : Stp) (d : Ds), s.ok ∧ cs = s.enc d ∧ (d.1 = none → s.picks.length = 0 ∧ d.2 = 0) ∧ s.picks.length ≤ 140737488351232 ∧ ∀ j u, (U8 s.picks)[j]? = some u → ∃ ad, d.1 = some ad ∧ W.cell? (ad.add j) = some u := by
  obtain ⟨xs, n, _, hx, hl, hlen, hfs⟩ := DataW.trod_struct u40 h
  rw [c40] at hl
  have hx7 : xs.length = 7 := hlen
  have g0 : DataW.trod enc Try.prog W base spare held n 3 ((cs.drop 0).take (Try.prog.cellsOf 3)) = xs[0]? := hfs 0 _ rfl
  have g1 : DataW.trod enc Try.prog W base spare held n 3 ((cs.drop 1).take (Try.prog.cellsOf 3)) = xs[1]? := hfs 1 _ rfl
  have g2 : DataW.trod enc Try.prog W base spare held n 3 ((cs.drop 2).take (Try.prog.cellsOf 3)) = xs[2]? := hfs 2 _ rfl
  have g3 : DataW.trod enc Try.prog W base spare held n 3 ((cs.drop 3).take (Try.prog.cellsOf 3)) = xs[3]? := hfs 3 _ rfl
  have g4 : DataW.trod enc Try.prog W base spare held n 3 ((cs.drop 4).take (Try.prog.cellsOf 3)) = xs[4]? := hfs 4 _ rfl
  have g5 : DataW.trod enc Try.prog W base spare held n 25 ((cs.drop 5).take (Try.prog.cellsOf 25)) = xs[5]? := hfs 5 _ rfl
  have g6 : DataW.trod enc Try.prog W base spare held n 38 ((cs.drop 69).take (Try.prog.cellsOf 38)) = xs[6]? := hfs 6 _ rfl
  rw [List.getElem?_eq_getElem (by omega)] at g0 g1 g2 g3 g4 g5 g6
  simp only [c3, c25, c38] at g0 g1 g2 g3 g4 g5 g6
  obtain ⟨a0, e0⟩ := one_of g0
  obtain ⟨a1, e1⟩ := one_of g1
  obtain ⟨a2, e2⟩ := one_of g2
  obtain ⟨a3, e3⟩ := one_of g3
  obtain ⟨a4, e4⟩ := one_of g4
  obtain ⟨d1, l1, e5⟩ := arr_of u25 g5 (by simp; omega)
  obtain ⟨ps, d, e6, h1, h2, h3⟩ := open38 g6 (fun n hn => hw n (by
    rw [hx]
    simp only [DataW.weights, u40]
    exact DataW.weights_mem_each (j := 6) (t := 38) rfl (by rw [List.getElem?_map, List.getElem?_eq_getElem (by omega)]; rfl) n hn))
  refine ⟨⟨a0, a1, a2, a3, a4, d1, ps⟩, d, l1, ?_, h1, h2, h3⟩
  unfold Stp.enc
  dsimp only
  rw [← e5, ← e6]
  match cs, hl with
  | v0 :: v1 :: v2 :: v3 :: v4 :: r, hl =>
    simp at e0 e1 e2 e3 e4 hl
    subst e0 e1 e2 e3 e4
    have h4 : ∀ a b c d e : Value, List.drop 5 (a :: b :: c :: d :: e :: r) = r := fun _ _ _ _ _ => rfl
    have h5 : ∀ a b c d e : Value, List.drop 69 (a :: b :: c :: d :: e :: r) = r.drop 64 := fun _ _ _ _ _ => rfl
    rw [h4, h5, show (r.drop 64).take 1 = r.drop 64 from List.take_of_length_le (by simp; omega), List.append_assoc, List.take_append_drop]
    rfl
/-- rows of one width, one after another -/
theorem flat_rd {a : Addr} {sz : Nat} : ∀ {rows : List (List Value)} {off : Nat}, (∀ r ∈ rows, r.length = sz) → (∀ (i : Nat) (h : i < rows.length) (j : Nat) (u : Value), rows[i][j]? = some u → W.cell? (a.add ((off + i) * sz + j)) = some u) → ∀ (j : Nat) (u : Value), rows.flatten[j]? = some u → W.cell? (a.add (off * sz + j)) = some u
  | [], _, _, _, j, u, hj => by simp at hj
  | r :: rows, off, hl, h, j, u, hj => by
    have hr := hl r (by simp)
    rw [List.flatten_cons] at hj
    rcases Nat.lt_or_ge j sz with h1 | h1
    · rw [List.getElem?_append_left (by omega)] at hj
      exact h 0 (by simp) j u hj
    · rw [List.getElem?_append_right (by omega), hr] at hj
      have := flat_rd (rows := rows) (off := off + 1) (fun r hr => hl r (by simp [hr])) (fun i hi j u hu => by
        have := h (i + 1) (by simpa using hi) j u (by simpa using hu)
        rwa [show off + (i + 1) = off + 1 + i by omega] at this) (j - sz) u hj
      rwa [show (off + 1) * sz + (j - sz) = off * sz + j by rw [Nat.add_mul]; omega] at this
theorem encS_flat : ∀ {l : List Stp} {ds : List Ds}, encS l ds = (List.zipWith Stp.enc l ds).flatten
  | [], ds => by cases ds <;> rfl
  | _ :: _, [] => rfl
  | s :: l, d :: ds => by simp only [encS, List.zipWith_cons_cons, List.flatten_cons, encS_flat]
theorem cells_at {a : Addr} {n : Nat} {cs : List Value} (h : W.cells? base a n = some cs) {j : Nat} {u : Value} (hj : cs[j]? = some u) : W.cell? (a.add j) = some u := by
  obtain ⟨_, hl, hc⟩ := World.cells?_some h
  have := (List.getElem?_eq_some_iff.1 hj).1
  rw [hc j (by omega), hj]
/-- what stands from a on -/
def Rds (W : World) (a : Option Addr) (l : List Value) : Prop := ∀ j u, l[j]? = some u → ∃ ad, a = some ad ∧ W.cell? (ad.add j) = some u
theorem open37 {v : Value} {x : DataW H × List MemPlace} (h : DataW.trod enc Try.prog W base spare held fuel 37 [v] = some x) :
    ∃ (a : Option Addr) (c : Nat) (ys : List Ac), v = .slice a ys.length c ∧ (∀ y ∈ ys, y.ok) ∧ Rds W a (encA ys) := by
  rcases open_slice u37 h with ⟨e, _⟩ | ⟨a, len, cap, m, n, D, Pl, e, _, hlc, _, hm, rfl, hV⟩
  · simp only [List.cons.injEq, and_true] at e
    exact ⟨none, 0, [], e, fun y hy => (by cases hy), fun j u hj => by simp [encA] at hj⟩
  · simp only [List.cons.injEq, and_true] at e
    have hml : len ≤ m := by rw [hm]; split <;> omega
    haveI : Inhabited Ac := ⟨⟨0, 0, 0, [], []⟩⟩
    obtain ⟨Y, hY⟩ := choose_lt (α := Ac) (n := len) (p := fun i y => y.ok ∧ W.cells? base (a.add (i * 99)) 99 = some y.enc) (fun i hi => by
      obtain ⟨cs, h1, h2⟩ := hV i (by omega)
      obtain ⟨y, h3, h4⟩ := open50 h2
      rw [c50] at h1
      exact ⟨y, h3, by rw [h1, h4]⟩)
    refine ⟨some a, cap, (List.range len).map Y, by rw [e]; simp, fun y hy => ?_, fun j u hj => ⟨a, rfl, ?_⟩⟩
    · obtain ⟨i, hi, rfl⟩ := List.mem_map.1 hy
      exact (hY i (by simpa using hi)).1
    · have := flat_rd (W := W) (a := a) (sz := 99) (rows := ((List.range len).map Y).map Ac.enc) (off := 0) (fun r hr => by
        obtain ⟨y, hy, rfl⟩ := List.mem_map.1 hr
        obtain ⟨i, hi, rfl⟩ := List.mem_map.1 hy
        exact Ac.enc_len (hY i (by simpa using hi)).1) (fun i hi j u hu => by
        simp only [List.length_map, List.length_range] at hi
        simp only [List.getElem_map, List.getElem_range] at hu
        have := cells_at (hY i hi).2 hu
        rw [Sx.add_add] at this
        rw [Nat.zero_add]; exact this) j u (by rwa [encA, List.flatMap_def] at hj)
      rwa [Nat.zero_mul, Nat.zero_add] at this
theorem open36 {v : Value} {x : DataW H × List MemPlace} (h : DataW.trod enc Try.prog W base spare held fuel 36 [v] = some x) (hw : ∀ n ∈ x.1.weights Try.prog 36, n ≤ reachBytes) :
    ∃ (a : Option Addr) (c : Nat) (l : List Stp) (ds : List Ds), v = .slice a l.length c ∧ (a = none → l.length = 0 ∧ c = 0) ∧ dsOk l ds ∧ Rds W a (encS l ds) ∧ ∀ (t : Nat) (h1 : t < l.length) (h2 : t < ds.length), Rds W ds[t].1 (U8 l[t].picks) := by
  rcases open_slice u36 h with ⟨e, _⟩ | ⟨a, len, cap, m, n, D, Pl, e, _, hlc, _, hm, rfl, hV⟩
  · simp only [List.cons.injEq, and_true] at e
    exact ⟨none, 0, [], [], e, fun _ => ⟨rfl, rfl⟩, trivial, fun j u hj => (by simp [encS] at hj), fun t h1 => absurd h1 (by simp)⟩
  · simp only [List.cons.injEq, and_true] at e
    have hml : len ≤ m := by rw [hm]; split <;> omega
    haveI : Inhabited (Stp × Ds) := ⟨⟨0, 0, 0, 0, 0, [], []⟩, (none, 0)⟩
    obtain ⟨Y, hY⟩ := choose_lt (α := Stp × Ds) (n := len) (p := fun i y => (y.1.ok ∧ (y.2.1 = none → y.1.picks.length = 0 ∧ y.2.2 = 0) ∧ y.1.picks.length ≤ 140737488351232) ∧ Rds W y.2.1 (U8 y.1.picks) ∧ W.cells? base (a.add (i * 70)) 70 = some (y.1.enc y.2)) (fun i hi => by
      obtain ⟨cs, h1, h2⟩ := hV i (by omega)
      obtain ⟨s, d, h3, h4, h5, h6, h7⟩ := open40 h2 (fun n hn => hw n (by
        simp only [DataW.weights, u36, List.mem_cons, List.mem_append]
        exact .inr (.inl (weights_all (List.mem_map.2 ⟨i, by simpa using hi, rfl⟩) n hn))))
      rw [c40] at h1
      exact ⟨(s, d), ⟨h3, h5, h6⟩, h7, by rw [h1, h4]⟩)
    refine ⟨some a, cap, (List.range len).map fun i => (Y i).1, (List.range len).map fun i => (Y i).2, by rw [e]; simp, (fun e => by cases e), dsOk_mk (by simp) fun t h1 h2 => ?_, fun j u hj => ⟨a, rfl, ?_⟩, fun t h1 h2 => ?_⟩
    · simp only [List.length_map, List.length_range] at h1
      simp only [List.getElem_map, List.getElem_range]
      exact ⟨(hY t h1).1.2.1, (hY t h1).1.2.2, (hY t h1).1.1⟩
    · have := flat_rd (W := W) (a := a) (sz := 70) (rows := List.zipWith Stp.enc ((List.range len).map fun i => (Y i).1) ((List.range len).map fun i => (Y i).2)) (off := 0) (fun r hr => by
        obtain ⟨i, hi, rfl⟩ := List.getElem_of_mem hr
        simp only [List.length_zipWith, List.length_map, List.length_range, Nat.min_self] at hi
        simp only [List.getElem_zipWith, List.getElem_map, List.getElem_range]
        exact Stp.enc_len _ (hY i hi).1.1) (fun i hi j u hu => by
        simp only [List.length_zipWith, List.length_map, List.length_range, Nat.min_self] at hi
        simp only [List.getElem_zipWith, List.getElem_map, List.getElem_range] at hu
        have := cells_at (hY i hi).2.2 hu
        rw [Sx.add_add] at this
        rw [Nat.zero_add]; exact this) j u (by rwa [encS_flat] at hj)
      rwa [Nat.zero_mul, Nat.zero_add] at this
    · simp only [List.length_map, List.length_range] at h1
      simp only [List.getElem_map, List.getElem_range]
      exact (hY t h1).2.1
/-- what was there before -/
def Old (W : World) : HProp := fun h => ∀ i, i < W.heap.size → h i = W.heap[i]?
theorem old_cell {h : Hp} (H : Old W h) {ad : Addr} {v : Value} (hc : W.cell? ad = some v) : h.cell ad = some v := by
  unfold World.cell? at hc
  split at hc
  · rename_i c e f hb
    have hlt := (Array.getElem?_eq_some_iff.1 hb).1
    unfold Hp.cell
    rw [H _ hlt, hb]; exact hc
  · cases hc
theorem Rds.rd {a : Option Addr} {l : List Value} (H : Rds W a l) : ∀ h, Old W h → rdA a l h := fun h hh j v hj => by
  obtain ⟨ad, e, hc⟩ := H j v hj
  exact ⟨ad, e, old_cell hh hc⟩
end
end Opn
end Go.Proofs.Ytolcobhaghdfcaa
