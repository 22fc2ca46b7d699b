/- The law on places, f3: what its functions come to together. -/
import Derived.Test.YtolcobhaghdfcaaWr
namespace Sx
open Go
theorem ACtr.pre {P : Program} {f n : Nat} {avs : List AV} {pre pre' : List (Nat × Chunk)} {X : Type} {m : X → Nat} {rv : X → AV} {post : X → List (Nat × Chunk)} (h : ACtr P f n avs pre m rv post)
    (he : ∀ F ρ y, big ρ (lookc ((0, frm F) :: pre')) n y → big ρ (lookc ((0, frm F) :: pre)) n y) : ACtr P f n avs pre' m rv post := fun F ρ vs w h1 h2 h3 => h F ρ vs w h1 h2 (h3.mono fun y hy => he F ρ y hy)
theorem ACtr.post {P : Program} {f n : Nat} {avs : List AV} {pre : List (Nat × Chunk)} {X : Type} {m : X → Nat} {rv rv' : X → AV} {post : X → List (Nat × Chunk)} (h : ACtr P f n avs pre m rv post)
    (he : ∀ x ρ, (rv x).ev ρ = (rv' x).ev ρ) : ACtr P f n avs pre m rv' post := fun F ρ vs w h1 h2 h3 =>
  (h F ρ vs w h1 h2 h3).mono fun v w' ⟨he', x, σ, h4, h5, h6⟩ => ⟨he', x, σ, h4, by rw [← he]; exact h5, h6⟩
end Sx
namespace Go.Proofs.Ytolcobhaghdfcaa
open Sx Go
set_option maxRecDepth 100000
theorem Ls_getD {f : Nat → Int} {n j : Nat} (h : j < n) : (Ls f n).getD j 0 = f j := by
  simp [Ls, List.getD_eq_getElem?_getD, h]
theorem iter_1 (m r i : Int) (bs : List Int) (hi : InR i) (ho : okp m r 1 i) : Iter m r 1 i bs (Ls (fun n => n) m.toNat) (plc m r 1 i).1 := fun l J hY => by
  rw [Ls_len] at hY ⊢
  exact c110_1 m r i bs hi ho l J fun j hj F w hs => by
    have := hY j hj F w hs
    dsimp only at this ⊢
    rwa [Ls_getD hj] at this
theorem iter_3 (m r i : Int) (bs : List Int) (hi : InR i) (ho : okp m r 3 i) : Iter m r 3 i bs (Ls (fun j => (i + j).tmod m) 3) (plc m r 3 i).1 := fun l J hY => by
  rw [Ls_len] at hY ⊢
  exact c110_3 m r i bs hi ho l J fun j hj F w hs => by
    have := hY j hj F w hs
    dsimp only at this ⊢
    rwa [Ls_getD hj] at this
theorem iter_4 (m r i : Int) (bs : List Int) (ho : oka m r i) : Iter m r 4 i bs [i % m] (plc m r 4 (i / m)).1 := fun l J hY =>
  c110_4 m r i bs ho l J fun j hj F w hs => by
    have : j = 0 := by omega
    subst this
    exact hY 0 (by simp) F w hs
abbrev S15n (m r k i : Int) (bs ms : List Int) : Prop := ACtr Try.prog 15 1 [GA m r, NA k i bs] [] (fun _ : Cap ms => 1) (fun q => .slc 1 0 ms.length (ms ++ q.1).length) (fun q => [(1, .cells [.run .i64 (ms ++ q.1).length (ms ++ q.1)] 3)])
abbrev S15e (m r k i : Int) (bs : List Int) : Prop := ACtr Try.prog 15 1 [GA m r, NA k i bs] [] (fun _ : Unit => 0) (fun _ => .v (.slice none 0 0)) (fun _ => [])
theorem s15 {m r k i first : Int} {bs ms : List Int} (hbs : bs.length = 64) (hne : 0 < ms.length) (hms : ms.length ≤ 100) (hit : Iter m r k i bs ms first) : S15n m r k i bs ms := by
  cases ms with
  | nil => cases hne
  | cons y ys => exact c15_n m r k i first bs hbs y ys hms hit
abbrev S12n (m r k i : Int) (bs ms : List Int) (pl : Int) : Prop := ACtr Try.prog 12 1 [GA m r, NA k i bs] [] (fun _ : Cap ms => 1) (fun q => .tup [.slc 1 0 ms.length (ms ++ q.1).length, IA pl]) (fun q => [(1, .cells [.run .i64 (ms ++ q.1).length (ms ++ q.1)] 3)])
abbrev S12e (m r k i : Int) (bs : List Int) : Prop := ACtr Try.prog 12 1 [GA m r, NA k i bs] [] (fun _ : Unit => 0) (fun _ => .tup [nilS, IA 0]) (fun _ => [])
def getX {ms : List Int} {ok : Prop} (h : ok) : X12 ms ok → Cap ms
  | ⟨none, hx⟩ => absurd (hx.1.2 h) (by decide)
  | ⟨some q, hx⟩ => ⟨q, hx.2 q rfl⟩
theorem s12n {m r k i pl : Int} {bs ms : List Int} {ok : Prop} (h : ok) (hc : ACtr Try.prog 12 1 [GA m r, NA k i bs] [] (m12 (ms := ms) (ok := ok)) (rv12 pl) po12) : S12n m r k i bs ms pl := by
  refine hc.map (getX h) (fun x => ?_) (fun x => ?_) (fun x => ?_) <;> (obtain ⟨o, hx⟩ := x; cases o with | none => exact absurd (hx.1.2 h) (by decide) | some q => rfl)
theorem s12e {m r k i pl : Int} {bs ms : List Int} {ok : Prop} (h : ¬ ok) (hc : ACtr Try.prog 12 1 [GA m r, NA k i bs] [] (m12 (ms := ms) (ok := ok)) (rv12 pl) po12) : S12e m r k i bs := by
  refine hc.map (fun _ => ()) (fun x => ?_) (fun x => ?_) (fun x => ?_) <;> (obtain ⟨o, hx⟩ := x; cases o with | none => rfl | some q => exact absurd (hx.1.1 rfl) h)
/-- the two ways: the members are such a list, or there are none -/
theorem ways (m r k i : Int) (bs : List Int) (hbs : bs.length = 64) (hi : InR i) : (geo m r ∧ ∃ ms pl, ms.length ≤ 100 ∧ S12n m r k i bs ms pl ∧ S15n m r k i bs ms) ∨ (S12e m r k i bs ∧ S15e m r k i bs) := by
  by_cases k1 : k = 1
  · subst k1
    by_cases ho : okp m r 1 i
    · have hg := ho.1
      have hgm := hg
      unfold geo at hgm
      have hl : (Ls (fun n => (n : Int)) m.toNat).length ≤ 100 := by rw [Ls_len]; omega
      exact .inl ⟨hg, _, _, hl, s12n ho (c12_1 m r i bs hi), s15 hbs (by rw [Ls_len]; omega) hl (iter_1 m r i bs hi ho)⟩
    · exact .inr ⟨s12e ho (c12_1 m r i bs hi), c15_e m r 1 i 0 bs hbs fun l J _ => c110_1n m r i bs hi ho l (J 0)⟩
  by_cases k3 : k = 3
  · subst k3
    by_cases ho : okp m r 3 i
    · have hg := ho.1
      have hgm := hg
      unfold geo at hgm
      have hi1 : 1 ≤ i := by have := ho.2.2.2.1; simpa [lst] using this
      have e : Ls (f3 m i) 3 = Ls (fun j => (i + j).tmod m) 3 := by
        have : f3 m i = fun j : Nat => (i + j).tmod m := by
          funext j
          have h1 := Int.emod_nonneg i (show m ≠ 0 by omega)
          show (i.tmod m + j).tmod m = (i + j).tmod m
          rw [Int.tmod_eq_emod_of_nonneg (show 0 ≤ i by omega), Int.tmod_eq_emod_of_nonneg (by omega), Int.tmod_eq_emod_of_nonneg (by omega), Int.emod_add_emod]
        rw [this]
      have hl : (Ls (fun j : Nat => (i + j).tmod m) 3).length ≤ 100 := by rw [Ls_len]; omega
      have h12 := s12n ho (c12_3 m r i bs hi)
      rw [e] at h12
      exact .inl ⟨hg, _, _, hl, h12, s15 hbs (by rw [Ls_len]; omega) hl (iter_3 m r i bs hi ho)⟩
    · exact .inr ⟨s12e ho (c12_3 m r i bs hi), c15_e m r 3 i 0 bs hbs fun l J _ => c110_3n m r i bs hi ho l (J 0)⟩
  by_cases k4 : k = 4
  · subst k4
    by_cases ho : oka m r i
    · exact .inl ⟨ho.1, _, _, by simp, s12n ho (c12_4 m r i bs hi), s15 hbs (by simp) (by simp) (iter_4 m r i bs ho)⟩
    · exact .inr ⟨s12e ho (c12_4 m r i bs hi), c15_e m r 4 i 0 bs hbs fun l J _ => c110_4n m r i bs ho l (J 0)⟩
  exact .inr ⟨c12_o m r k i bs k1 k3 k4, c15_e m r k i 0 bs hbs fun l J _ => c110_o m r i k bs k1 k3 k4 l (J 0)⟩
theorem c58 : ACtr Try.prog 58 1 [] [] (fun _ : Unit => 0) (fun _ => GA 4 1) (fun _ => []) := by
  refine act Try.func58 rfl rfl rfl A58_ok rfl fun F w0 b => ?_
  refine on ?_
  exact reta trivial rfl () [0] rfl rfl rfl rfl rfl ⟨rfl, trivial⟩
def bs0 : List Int := List.replicate 64 0
def bs56 : List Int := (bs0.set 0 5).set 63 6
theorem c59 (i : Int) : ACtr Try.prog 59 1 [IA i] [] (fun _ : Unit => 0) (fun _ => NA 3 i bs56) (fun _ => []) := by
  refine act Try.func59 rfl rfl rfl A59_ok rfl fun F w0 b => ?_
  refine on ?_
  exact retE trivial rfl () [0] rfl rfl rfl rfl ⟨_, rfl, fun _ => rfl⟩ ⟨rfl, trivial⟩
/-- a list that is written out, on the right -/
theorem c43_l (l : List Int) (c1 n : Nat) (q : List Int) (h1 : l.length ≤ c1) (hb : l.length ≤ 1000000) (hn : l.length = n) : ACtr Try.prog 43 3 [.slc 1 0 l.length c1, .slc 2 0 n n] [(1, .cells [.run .i64 c1 (l ++ q)] 3), (2, .cells (l.map IA) 3)]
    (fun _ : Unit => 0) (fun _ => BA (decide (l = l))) (fun _ => [(1, .cells [.run .i64 c1 (l ++ q)] 3), (2, .cells [.run .i64 l.length (l ++ [])] 3)]) := by
  subst hn
  refine (c43_ss l q l [] c1 l.length h1 (Nat.le_refl _) hb).pre fun F ρ y hy => ?_
  refine star_mono (fun z hz => ?_) (fun _ z => z) hy
  obtain ⟨b, vs, h2, h3, h4⟩ := hz
  refine ⟨b, vs, h2, ?_, h4⟩
  rw [List.append_nil, evc_run]
  rw [← h3]
  clear h1 hb hy h3 h4
  induction l with
  | nil => rfl
  | cons c r ih =>
    simp only [List.map_cons, AV.evc, AV.ev1, ← ih]
    rfl
theorem c16 : ACtr Try.prog 16 1 [] [] (fun _ : Unit => 0) (fun _ => .tt) (fun _ => []) := by
  have o1 : okp 4 1 1 3 := by decide
  have o3 : okp 4 1 3 3 := by decide
  have o4 : oka 4 1 2 := by decide
  have w1 := s15 (m := 4) (r := 1) (k := 1) (i := 3) (bs := bs0) (by rfl) (by decide) (by decide) (iter_1 4 1 3 bs0 (by decide) o1)
  have w3 := s15 (m := 4) (r := 1) (k := 3) (i := 3) (bs := bs56) (by rfl) (by decide) (by decide) (iter_3 4 1 3 bs56 (by decide) o3)
  have w4 := s15 (m := 4) (r := 1) (k := 4) (i := 2) (bs := bs0) (by rfl) (by decide) (by decide) (iter_4 4 1 2 bs0 o4)
  have e1 : Ls (fun n => (n : Int)) (4 : Int).toNat = [0, 1, 2, 3] := by decide
  have e3 : Ls (fun j : Nat => ((3 : Int) + j).tmod 4) 3 = [3, 0, 1] := by decide
  have e4 : [(2 : Int) % 4] = [2] := by decide
  rw [e1] at w1; rw [e3] at w3; rw [e4] at w4
  refine act Try.func16 rfl rfl rfl A16_ok rfl fun F w0 b => ?_
  refine on ?_
  refine call_ab trivial c58 [] rfl rfl rfl rfl rfl trivial (fun _ => rfl) (fun _ => rfl) (fun _ => trivial) (fun _ => ?_)
  refine on ?_
  refine call_ab trivial w1 [] rfl rfl rfl rfl rfl trivial (fun _ => rfl) (fun _ => rfl) (fun _ => trivial) (fun q => ?_)
  refine on ?_
  refine call_ab trivial (c43_l [0, 1, 2, 3] _ 4 q.1 (by simp) (by simp) rfl) [1, 2] rfl rfl rfl rfl rfl ⟨rfl, rfl, trivial⟩ (fun _ => rfl) (fun _ => rfl) (fun _ => trivial) (fun _ => ?_)
  refine on ?_
  refine ev_lt trivial (fun _ => ?_) (fun h => absurd rfl h)
  refine on ?_
  refine call_ab trivial c58 [] rfl rfl rfl rfl rfl trivial (fun _ => rfl) (fun _ => rfl) (fun _ => trivial) (fun _ => ?_)
  refine on ?_
  refine call_ab trivial (c59 3) [] rfl rfl rfl rfl rfl trivial (fun _ => rfl) (fun _ => rfl) (fun _ => trivial) (fun _ => ?_)
  refine on ?_
  refine call_ab trivial w3 [] rfl rfl rfl rfl rfl trivial (fun _ => rfl) (fun _ => rfl) (fun _ => trivial) (fun q3 => ?_)
  refine on ?_
  refine call_ab trivial (c43_l [3, 0, 1] _ 3 q3.1 (by simp) (by simp) rfl) [3, 4] rfl rfl rfl rfl rfl ⟨rfl, rfl, trivial⟩ (fun _ => rfl) (fun _ => rfl) (fun _ => trivial) (fun _ => ?_)
  refine on ?_
  refine ev_lt trivial (fun _ => ?_) (fun h => absurd rfl h)
  refine on ?_
  refine call_ab trivial c58 [] rfl rfl rfl rfl rfl trivial (fun _ => rfl) (fun _ => rfl) (fun _ => trivial) (fun _ => ?_)
  refine on ?_
  refine call_ab trivial w4 [] rfl rfl rfl rfl rfl trivial (fun _ => rfl) (fun _ => rfl) (fun _ => trivial) (fun q4 => ?_)
  refine on ?_
  refine call_ab trivial (c43_l [2] _ 1 q4.1 (by simp) (by simp) rfl) [5, 6] rfl rfl rfl rfl rfl ⟨rfl, rfl, trivial⟩ (fun _ => rfl) (fun _ => rfl) (fun _ => trivial) (fun _ => ?_)
  refine on ?_
  exact retE trivial rfl () [0] rfl rfl rfl rfl ⟨_, rfl, fun _ => by simp [resV, AV.ev]⟩ ⟨rfl, trivial⟩
theorem c3 (m r k i : Int) (bs : List Int) (hbs : bs.length = 64) (hi : InR i) : ACtr Try.prog 3 1 [GA m r, NA k i bs] [] (fun _ : Unit => 0) (fun _ => .tt) (fun _ => []) := by
  rcases ways m r k i bs hbs hi with ⟨hg, ms, pl, hl, h12, h15⟩ | ⟨h12, h15⟩
  · refine act Try.func3 rfl rfl rfl A3_ok rfl fun F w0 b => ?_
    refine on ?_
    refine call_ab trivial h12 [] rfl rfl rfl rfl rfl trivial (fun _ => rfl) (fun _ => rfl) (fun _ => trivial) (fun q => ?_)
    refine on ?_
    refine call_pure trivial (c13 m r) rfl (rv := IA (gck m r)) rfl trivial ?_
    refine on ?_
    refine ev_ne trivial (fun h => absurd (gck_0 hg) h) (fun _ => ?_)
    refine on ?_
    refine call_ab trivial h15 [] rfl rfl rfl rfl rfl trivial (fun _ => rfl) (fun _ => rfl) (fun _ => trivial) (fun q' => ?_)
    refine on ?_
    refine call_ab trivial (c14_ss ms q'.1 ms q.1 _ _ (by simp) (by simp) (by omega)) [4, 3] rfl rfl rfl rfl rfl ⟨rfl, rfl, trivial⟩ (fun _ => rfl) (fun _ => rfl) (fun _ => trivial) (fun _ => ?_)
    refine on ?_
    refine ev_lt trivial (fun _ => ?_) (fun h => absurd rfl h)
    refine on ?_
    refine call_ab trivial c16 [] rfl rfl rfl rfl rfl trivial (fun _ => rfl) (fun _ => rfl) (fun _ => trivial) (fun _ => ?_)
    refine on ?_
    exact retE trivial rfl () [0] rfl rfl rfl rfl ⟨_, rfl, fun _ => rfl⟩ ⟨rfl, trivial⟩
  · refine act Try.func3 rfl rfl rfl A3_ok rfl fun F w0 b => ?_
    refine on ?_
    refine call_ab trivial h12 [] rfl rfl rfl rfl rfl trivial (fun _ => rfl) (fun _ => rfl) (fun _ => trivial) (fun q => ?_)
    refine on ?_
    refine call_pure trivial (c13 m r) rfl (rv := IA (gck m r)) rfl trivial ?_
    refine on ?_
    refine ev_ne trivial (fun h => ?_) (fun _ => ?_) <;>
    · refine on ?_
      refine call_ab trivial h15 [] rfl rfl rfl rfl rfl trivial (fun _ => rfl) (fun _ => rfl) (fun _ => trivial) (fun q' => ?_)
      refine on ?_
      refine call_ab trivial c14_nn [] rfl rfl rfl rfl rfl trivial (fun _ => rfl) (fun _ => rfl) (fun _ => trivial) (fun _ => ?_)
      refine on ?_
      refine ev_br trivial (fun _ => ?_) (fun h => by cases h)
      refine on ?_
      refine call_ab trivial c16 [] rfl rfl rfl rfl rfl trivial (fun _ => rfl) (fun _ => rfl) (fun _ => trivial) (fun _ => ?_)
      refine on ?_
      exact retE trivial rfl () [0] rfl rfl rfl rfl ⟨_, rfl, fun _ => rfl⟩ ⟨rfl, trivial⟩
end Go.Proofs.Ytolcobhaghdfcaa
