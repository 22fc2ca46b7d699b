/- Contract of the double of mirror.Where (casemateref19.Where). -/
import Derived.Test.YtolcobhaghdfcaaWm
import Derived.Test.YtolcobhaghdfcaaWh
namespace Sx
open Go
/-- the same cells, otherwise written -/
theorem Good.recell {cx : Cx} {stk : List K} {fr : List (Nat × AV)} {ch : List (Nat × Chunk)} {nx c : Nat} {cs cs' : List AV} {T : TypeId} (hs : nod stk = true) (hc : Nat.blt c nx = true) (hl : lookc ch c = .cells cs T) (he : ∀ ρ, AV.evc ρ cs = AV.evc ρ cs')
    (h : Good cx ⟨stk, fr, (c, .cells cs' T) :: ch, nx⟩) : Good cx ⟨stk, fr, ch, nx⟩ := fun ρ a w H =>
  h ρ a w ⟨H.N, H.df, H.len, H.fr, H.sat.mono fun y hy => by
    rw [lookc_cons]
    refine big_in (by simpa using hc) _ (star_mono (fun z hz => ?_) (fun _ z => z) (big_out (by simpa using hc) hy))
    rw [hl] at hz
    obtain ⟨b, vs, h1, h2, h3⟩ := hz
    exact ⟨b, vs, h1, by rw [← he]; exact h2, h3⟩, H.env, nod_dr hs⟩
end Sx
namespace Sx
open Go
theorem Good.more {cx : Cx} {stk : List K} {fr : List (Nat × AV)} {ch : List (Nat × Chunk)} {nx : Nat} (hs : nod stk = true) (h : Good cx ⟨stk, fr, (nx, .gone) :: ch, nx + 1⟩) : Good cx ⟨stk, fr, ch, nx⟩ := fun ρ a w H =>
  h (ρ ++ [0]) a w ⟨H.N, H.df, by simp [show ρ.length = nx from H.len], H.fr.ext _, H.sat.mono fun y hy => by
    rw [lookc_cons]
    have h1 : big ρ (upd (lookc ch) nx .gone) nx y := big_drop hy
    show star ((upd (lookc ch) nx .gone nx).hp _ nx) (big (ρ ++ [0]) (upd (lookc ch) nx .gone) nx) y
    rw [upd_same]
    exact star_comm (star_mono (fun _ q => big_ext q) (fun _ _ => trivial) (star_emp h1)), H.env.ext _, nod_dr hs⟩
theorem ACtr.map {P : Program} {f n : Nat} {avs : List AV} {pre : List (Nat × Chunk)} {X X' : Type} {m : X → Nat} {rv : X → AV} {post : X → List (Nat × Chunk)} {m' : X' → Nat} {rv' : X' → AV} {post' : X' → List (Nat × Chunk)} (h : ACtr P f n avs pre m rv post) (g : X → X')
    (hm : ∀ x, m x = m' (g x)) (hr : ∀ x, rv x = rv' (g x)) (hp : ∀ x, post x = post' (g x)) : ACtr P f n avs pre m' rv' post' := fun F ρ vs w h1 h2 h3 =>
  (h F ρ vs w h1 h2 h3).mono fun v w' ⟨he, x, σ, h4, h5, h6⟩ => ⟨he, g x, σ, by rw [← hm]; exact h4, by rw [← hr]; exact h5, by rw [← hm, ← hp]; exact h6⟩
end Sx
namespace Go.Proofs.Ytolcobhaghdfcaa
open Sx Go
set_option maxRecDepth 100000
def X12 (ms : List Int) (ok : Prop) : Type := { o : Option (List Int) // (o.isSome = true ↔ ok) ∧ ∀ q, o = some q → (ms ++ q).length ≤ maxLen }
def m12 {ms : List Int} {ok : Prop} : X12 ms ok → Nat
  | ⟨none, _⟩ => 0
  | ⟨some _, _⟩ => 1
def rv12 {ms : List Int} {ok : Prop} (pl : Int) : X12 ms ok → AV
  | ⟨none, _⟩ => .tup [nilS, IA 0]
  | ⟨some q, _⟩ => .tup [.slc 1 0 ms.length (ms ++ q).length, IA pl]
def po12 {ms : List Int} {ok : Prop} : X12 ms ok → List (Nat × Chunk)
  | ⟨none, _⟩ => []
  | ⟨some q, _⟩ => [(1, .cells [.run .i64 (ms ++ q).length (ms ++ q)] 3)]
def Ls (f : Nat → Int) (t : Nat) : List Int := (List.range t).map f
theorem Ls_succ (f : Nat → Int) (t : Nat) : Ls f (t + 1) = Ls f t ++ [f t] := by simp [Ls, List.range_succ]
theorem Ls_len (f : Nat → Int) (t : Nat) : (Ls f t).length = t := by simp [Ls]
def slA (f : Nat → Int) : Nat → List Int → AV
  | 0, _ => nilS
  | t + 1, q => .slc 3 0 (t + 1) (Ls f (t + 1) ++ q).length
def slC (f : Nat → Int) : Nat → List Int → Chunk
  | 0, _ => .gone
  | t + 1, q => .cells [.run .i64 (Ls f (t + 1) ++ q).length (Ls f (t + 1) ++ q)] 3
def slI (f : Nat → Int) : Nat → List Int → Prop
  | 0, _ => True
  | t + 1, q => (Ls f (t + 1) ++ q).length ≤ maxLen
theorem slA_pos {f : Nat → Int} {t : Nat} {q : List Int} (h : 0 < t) : slA f t q = .slc 3 0 t (Ls f t ++ q).length := by
  cases t with | zero => omega | succ t => rfl
theorem slC_pos {f : Nat → Int} {t : Nat} {q : List Int} (h : 0 < t) : slC f t q = .cells [.run .i64 (Ls f t ++ q).length (Ls f t ++ q)] 3 := by
  cases t with | zero => omega | succ t => rfl
theorem slI_pos {f : Nat → Int} {t : Nat} {q : List Int} (h : 0 < t) (hi : slI f t q) : (Ls f t ++ q).length ≤ maxLen := by
  cases t with | zero => omega | succ t => exact hi
def noX {ms : List Int} {ok : Prop} (h : ¬ ok) : X12 ms ok := ⟨none, ⟨fun h' => (by cases h'), fun h' => absurd h' h⟩, fun q h' => (by cases h')⟩
def yesX {ms : List Int} {ok : Prop} (h : ok) (q : List Int) (hq : (ms ++ q).length ≤ maxLen) : X12 ms ok := ⟨some q, ⟨fun _ => h, fun _ => rfl⟩, fun q' h' => (by cases h'; exact hq)⟩
theorem plc2 {m r k i : Int} : (plc m r k i).2 = 0 ↔ okp m r k i := by
  unfold plc; split
  · rename_i h; exact ⟨fun _ => h, fun _ => rfl⟩
  · rename_i h; exact ⟨fun h' => absurd h' (by decide), fun h' => absurd h' h⟩
theorem c12_1 (m r i : Int) (bs : List Int) (hi : InR i) : ACtr Try.prog 12 1 [GA m r, NA 1 i bs] [] (m12 (ms := Ls (fun n => n) m.toNat) (ok := okp m r 1 i)) (rv12 (plc m r 1 i).1) po12 := by
  refine act Try.func12 rfl rfl rfl A12_ok rfl fun F w0 b => ?_
  refine on ?_
  refine call_pure trivial (c13 m r) rfl (rv := IA (gck m r)) rfl trivial ?_
  refine on ?_
  refine ev_ne trivial (fun hg => ?_) (fun hg => ?_)
  · refine on ?_
    exact reta trivial rfl (noX fun h => hg (gck_0 h.1)) [0] rfl rfl rfl rfl rfl ⟨rfl, trivial⟩
  replace hg : geo m r := by
    by_cases hg' : geo m r
    · exact hg'
    · rw [gck_2 hg'] at hg; omega
  have hgm := hg
  unfold geo at hgm
  refine Good.more rfl ?_
  refine on ?_
  refine ev_lt trivial (fun _ => ?_) (fun h => absurd rfl h)
  refine on ?_
  refine ev_loop trivial (ι := Nat × List Int) (fun x => (x.1 : Int) ≤ m ∧ slI (fun n => n) x.1 x.2) (fun x => m.toNat - x.1) (fun x => [(2, .ptr 1 0), (3, .ptr 2 0), (6, IA i), (7, slA (fun n => n) x.1 x.2), (8, IA x.1)])
    (fun x => [(0, frm F), (1, GC m r), (2, NC 1 i bs), (3, slC (fun n => n) x.1 x.2)]) 4 (0, []) ⟨by simp only; omega, trivial⟩ (Fit.of [0, 1, 2, 3] rfl rfl rfl rfl ⟨rfl, rfl, rfl, rfl, rfl, trivial⟩ ⟨rfl, rfl, rfl, rfl, trivial⟩) (fun x hx => ?_)
  obtain ⟨t, q⟩ := x
  simp only at hx
  have step : ∀ cap' q', (Ls (fun n => (n : Int)) t ++ [(t : Int)] ++ q').length = cap' → cap' ≤ maxLen → slI (fun n => (n : Int)) (t + 1) q' ∧ slA (fun n => (n : Int)) (t + 1) q' = .slc 3 0 (t + 1) cap' ∧ slC (fun n => (n : Int)) (t + 1) q' = .cells [.run .i64 cap' (Ls (fun n => (n : Int)) t ++ [(t : Int)] ++ q')] 3 := fun cap' q' hl hc => by
    have e := Ls_succ (fun n => (n : Int)) t
    refine ⟨?_, ?_, ?_⟩
    · show (Ls _ (t + 1) ++ q').length ≤ maxLen; rw [e, hl]; exact hc
    · show AV.slc 3 0 (t + 1) (Ls _ (t + 1) ++ q').length = _; rw [e, hl]
    · show Chunk.cells [AV.run .i64 (Ls _ (t + 1) ++ q').length (Ls _ (t + 1) ++ q')] 3 = _; rw [e, hl]
  refine on ?_
  refine ev_lt trivial (fun h1 => ?_) (fun h1 => ?_)
  · cases t with
    | zero =>
      refine on ?_
      refine ev_append_nil (k := .i64) (us := [((0 : Nat) : Int)]) ints28 trivial rfl rfl rfl rfl rfl rfl rfl (by decide) (by decide) (fun _ => trivial) (fun cap' q' hl hc => ?_)
      obtain ⟨s1, s2, s3⟩ := step cap' q' hl hc
      refine on ?_
      refine ev_lend ⟨trivial, by unfold InR; simp only; omega⟩ (1, q') ⟨by simp only; omega, s1⟩ (by simp only; omega) (Fit.of [0, 1, 2, 5] rfl rfl rfl rfl ?_ ⟨rfl, rfl, rfl, ?_, trivial⟩)
      · show FitFr _ _ [(2, .ptr 1 0), (3, .ptr 2 0), (6, IA i), (7, slA (fun n => (n : Int)) (0 + 1) q'), (8, IA ((0 + 1 : Nat) : Int))]
        rw [s2]; exact ⟨rfl, rfl, rfl, rfl, rfl, trivial⟩
      · show Chunk.ren _ (slC (fun n => (n : Int)) (0 + 1) q') = _; rw [s3]; rfl
    | succ t =>
      refine on ?_
      have hx2 : (Ls (fun n => (n : Int)) (t + 1) ++ q).length ≤ maxLen := hx.2
      refine ev_append_slc (k := .i64) (us := [((t + 1 : Nat) : Int)]) ints28 trivial rfl rfl rfl rfl rfl (Ls_len _ _) hx2 (by rw [List.length_append, Ls_len]; omega) rfl rfl rfl (by decide) (by omega) (fun _ => trivial) (fun cap' q' hl hc => ?_)
      obtain ⟨s1, s2, s3⟩ := step cap' q' hl hc
      refine on ?_
      refine ev_lend ⟨trivial, by unfold InR; omega⟩ (t + 2, q') ⟨by simp only; omega, s1⟩ (by simp only; omega) (Fit.of [0, 1, 2, 5] rfl rfl rfl rfl ?_ ⟨rfl, rfl, rfl, ?_, trivial⟩)
      · show FitFr _ _ [(2, .ptr 1 0), (3, .ptr 2 0), (6, IA i), (7, slA (fun n => (n : Int)) (t + 1 + 1) q'), (8, IA ((t + 1 + 1 : Nat) : Int))]
        rw [s2]; exact ⟨rfl, rfl, rfl, rfl, rfl, trivial⟩
      · show Chunk.ren _ (slC (fun n => (n : Int)) (t + 1 + 1) q') = _; rw [s3]; rfl
  · have ht : t = m.toNat := by omega
    subst ht
    refine on ?_
    refine call_pure trivial (c56 m r 1 i hi) rfl (rv := .tup [IA (plc m r 1 i).1, IA (plc m r 1 i).2]) rfl trivial ?_
    refine on ?_
    refine ev_ne trivial (fun h => ?_) (fun h => ?_) <;> refine on ?_
    · exact reta trivial rfl (noX fun h' => h (plc2.2 h')) [0] rfl rfl rfl rfl rfl ⟨rfl, trivial⟩
    · have hpos : 0 < m.toNat := by omega
      have hq : (Ls (fun n => (n : Int)) m.toNat ++ q).length ≤ maxLen := slI_pos hpos hx.2
      refine reta trivial rfl (yesX (plc2.1 h) q hq) [0, 3] rfl rfl rfl rfl ?_ ⟨rfl, ?_, trivial⟩
      · show AV.ren [0, 3] (.tup [.slc 1 0 (Ls (fun n => (n : Int)) m.toNat).length (Ls (fun n => (n : Int)) m.toNat ++ q).length, IA (plc m r 1 i).1]) = some (resV [slA (fun n => (n : Int)) m.toNat q, IA (plc m r 1 i).1])
        rw [slA_pos hpos, Ls_len]; rfl
      · show Chunk.ren [0, 3] (.cells [.run .i64 (Ls (fun n => (n : Int)) m.toNat ++ q).length (Ls (fun n => (n : Int)) m.toNat ++ q)] 3) = some (slC (fun n => (n : Int)) m.toNat q)
        rw [slC_pos hpos]; rfl
abbrev f3 (m i : Int) : Nat → Int := fun t => (i.tmod m + t).tmod m
theorem c12_3 (m r i : Int) (bs : List Int) (hi : InR i) : ACtr Try.prog 12 1 [GA m r, NA 3 i bs] [] (m12 (ms := Ls (f3 m i) 3) (ok := okp m r 3 i)) (rv12 (plc m r 3 i).1) po12 := by
  refine act Try.func12 rfl rfl rfl A12_ok rfl fun F w0 b => ?_
  refine on ?_
  refine call_pure trivial (c13 m r) rfl (rv := IA (gck m r)) rfl trivial ?_
  refine on ?_
  refine ev_ne trivial (fun hg => ?_) (fun hg => ?_)
  · refine on ?_
    exact reta trivial rfl (noX fun h => hg (gck_0 h.1)) [0] rfl rfl rfl rfl rfl ⟨rfl, trivial⟩
  replace hg : geo m r := by
    by_cases hg' : geo m r
    · exact hg'
    · rw [gck_2 hg'] at hg; omega
  have hgm := hg
  unfold geo at hgm
  refine Good.more rfl ?_
  refine on ?_
  refine ev_lt trivial (fun h => absurd h (by decide)) (fun _ => ?_)
  refine on ?_
  refine ev_lt trivial (fun _ => ?_) (fun h => absurd rfl h)
  refine on ?_
  refine ev_loop trivial (ι := Nat × List Int) (fun x => x.1 ≤ 3 ∧ slI (f3 m i) x.1 x.2) (fun x => 3 - x.1) (fun x => [(2, .ptr 1 0), (3, .ptr 2 0), (6, IA i), (7, slA (f3 m i) x.1 x.2), (9, IA x.1)])
    (fun x => [(0, frm F), (1, GC m r), (2, NC 3 i bs), (3, slC (f3 m i) x.1 x.2)]) 4 (0, []) ⟨by simp only; omega, trivial⟩ (Fit.of [0, 1, 2, 3] rfl rfl rfl rfl ⟨rfl, rfl, rfl, rfl, rfl, trivial⟩ ⟨rfl, rfl, rfl, rfl, trivial⟩) (fun x hx => ?_)
  obtain ⟨t, q⟩ := x
  simp only at hx
  have step : ∀ cap' q', (Ls (f3 m i) t ++ [f3 m i t] ++ q').length = cap' → cap' ≤ maxLen → slI (f3 m i) (t + 1) q' ∧ slA (f3 m i) (t + 1) q' = .slc 3 0 (t + 1) cap' ∧ slC (f3 m i) (t + 1) q' = .cells [.run .i64 cap' (Ls (f3 m i) t ++ [f3 m i t] ++ q')] 3 := fun cap' q' hl hc => by
    have e := Ls_succ (f3 m i) t
    refine ⟨?_, ?_, ?_⟩
    · show (Ls _ (t + 1) ++ q').length ≤ maxLen; rw [e, hl]; exact hc
    · show AV.slc 3 0 (t + 1) (Ls _ (t + 1) ++ q').length = _; rw [e, hl]
    · show Chunk.cells [AV.run .i64 (Ls _ (t + 1) ++ q').length (Ls _ (t + 1) ++ q')] 3 = _; rw [e, hl]
  refine on ?_
  refine ev_lt trivial (fun h1 => ?_) (fun h1 => ?_)
  · refine on ?_
    refine ev_lt trivial (fun _ => ?_) (fun h => absurd (by omega) h)
    refine on ?_
    refine ev_lt trivial (fun h2 => ?_) (fun h2 => ?_)
    · have e2 : i.tmod m = i % m := Int.tmod_eq_emod_of_nonneg (by omega)
      have e3 := Int.emod_nonneg i (show m ≠ 0 by omega)
      have e4 := Int.emod_lt_of_pos i (show 0 < m by omega)
      simp only at h1
      cases t with
      | zero =>
        refine on ?_
        refine draw_ok mixed trivial O12_16_ok [(1, _)] Q12_16_ok ⟨rfl, trivial⟩ rfl (fun ρ0 => ?_)
        refine on ?_
        refine ev_append_nil (k := .i64) (us := [f3 m i 0]) ints28 ?_ rfl rfl rfl rfl rfl rfl rfl (by decide) (by decide) (fun _ => ⟨rfl, trivial⟩) (fun cap' q' hl hc => ?_)
        · refine ⟨⟨⟨trivial, by omega⟩, ?_⟩, by omega⟩; unfold InR; simp only; omega
        obtain ⟨s1, s2, s3⟩ := step cap' q' hl hc
        refine on ?_
        refine ev_lend ⟨trivial, by unfold InR; simp only; omega⟩ (1, q') ⟨by simp only; omega, s1⟩ (by simp only; omega) (Fit.of [0, 1, 2, 5] rfl rfl rfl rfl ?_ ⟨rfl, rfl, rfl, ?_, trivial⟩)
        · show FitFr _ _ [(2, .ptr 1 0), (3, .ptr 2 0), (6, IA i), (7, slA (f3 m i) (0 + 1) q'), (9, IA ((0 + 1 : Nat) : Int))]
          rw [s2]; exact ⟨rfl, rfl, rfl, rfl, rfl, trivial⟩
        · show Chunk.ren _ (slC (f3 m i) (0 + 1) q') = _; rw [s3]; rfl
      | succ t =>
        refine on ?_
        refine draw_ok mixed trivial O12_16_ok [(1, _)] Q12_16_ok ⟨rfl, trivial⟩ rfl (fun ρ0 => ?_)
        refine on ?_
        have hx2 : (Ls (f3 m i) (t + 1) ++ q).length ≤ maxLen := hx.2
        refine ev_append_slc (k := .i64) (us := [f3 m i (t + 1)]) ints28 ?_ rfl rfl rfl rfl rfl (Ls_len _ _) hx2 (by rw [List.length_append, Ls_len]; omega) rfl rfl rfl (by decide) (by omega) (fun _ => ⟨rfl, trivial⟩) (fun cap' q' hl hc => ?_)
        · refine ⟨⟨⟨trivial, by omega⟩, ?_⟩, by omega⟩; unfold InR; simp only; omega
        obtain ⟨s1, s2, s3⟩ := step cap' q' hl hc
        refine on ?_
        refine ev_lend ⟨trivial, by unfold InR; simp only; omega⟩ (t + 2, q') ⟨by simp only; omega, s1⟩ (by simp only; omega) (Fit.of [0, 1, 2, 5] rfl rfl rfl rfl ?_ ⟨rfl, rfl, rfl, ?_, trivial⟩)
        · show FitFr _ _ [(2, .ptr 1 0), (3, .ptr 2 0), (6, IA i), (7, slA (f3 m i) (t + 1 + 1) q'), (9, IA ((t + 1 + 1 : Nat) : Int))]
          rw [s2]; exact ⟨rfl, rfl, rfl, rfl, rfl, trivial⟩
        · show Chunk.ren _ (slC (f3 m i) (t + 1 + 1) q') = _; rw [s3]; rfl
    · have hno : ¬ okp m r 3 i := fun h => by have := h.2.2.2.1; simp [lst] at this; omega
      refine on ?_
      refine call_pure trivial (c56 m r 3 i hi) rfl (rv := .tup [IA (plc m r 3 i).1, IA (plc m r 3 i).2]) rfl trivial ?_
      refine on ?_
      refine ev_ne trivial (fun h => ?_) (fun h => absurd (plc2.1 h) hno)
      refine on ?_
      exact reta trivial rfl (noX hno) [0] rfl rfl rfl rfl rfl ⟨rfl, trivial⟩
  · have ht : t = 3 := by simp only at h1; omega
    subst ht
    refine on ?_
    refine call_pure trivial (c56 m r 3 i hi) rfl (rv := .tup [IA (plc m r 3 i).1, IA (plc m r 3 i).2]) rfl trivial ?_
    refine on ?_
    refine ev_ne trivial (fun h => ?_) (fun h => ?_) <;> refine on ?_
    · exact reta trivial rfl (noX fun h' => h (plc2.2 h')) [0] rfl rfl rfl rfl rfl ⟨rfl, trivial⟩
    · have hq : (Ls (f3 m i) 3 ++ q).length ≤ maxLen := hx.2
      exact reta trivial rfl (yesX (plc2.1 h) q hq) [0, 3] rfl rfl rfl rfl rfl ⟨rfl, rfl, trivial⟩
theorem c12_4 (m r i : Int) (bs : List Int) (hi : InR i) : ACtr Try.prog 12 1 [GA m r, NA 4 i bs] [] (m12 (ms := [i % m]) (ok := oka m r i)) (rv12 (plc m r 4 (i / m)).1) po12 := by
  refine act Try.func12 rfl rfl rfl A12_ok rfl fun F w0 b => ?_
  refine on ?_
  refine call_pure trivial (c13 m r) rfl (rv := IA (gck m r)) rfl trivial ?_
  refine on ?_
  refine ev_ne trivial (fun hg => ?_) (fun hg => ?_)
  · refine on ?_
    exact reta trivial rfl (noX fun h => hg (gck_0 h.1)) [0] rfl rfl rfl rfl rfl ⟨rfl, trivial⟩
  refine on ?_
  refine ev_lt trivial (fun h => absurd h (by decide)) (fun _ => ?_)
  refine on ?_
  refine ev_lt trivial (fun h => absurd h (by decide)) (fun _ => ?_)
  refine on ?_
  refine ev_lt trivial (fun _ => ?_) (fun h => absurd rfl h)
  refine on ?_
  refine call_pure trivial (c55 m r i hi) rfl (rv := .tup [IA (atv m r i).1, IA (atv m r i).2.1, IA (atv m r i).2.2]) rfl trivial ?_
  by_cases ho : oka m r i
  · have e : atv m r i = (i / m, i % m, 0) := if_pos ho
    rw [e]
    have hi4 : InR (i / m) := by
      have hg := geo_mul ho.1
      have h4 := Int.ediv_le_self m ho.2.1
      have h5 : 0 ≤ i / m := Int.ediv_nonneg ho.2.1 (by have := ho.1.1; omega)
      have h3 := ho.2.2
      unfold InR; omega
    refine on ?_
    refine ev_ne trivial (fun h => absurd rfl h) (fun _ => ?_)
    refine on ?_
    refine call_pure trivial (c56 m r 4 (i / m) hi4) rfl (rv := .tup [IA (plc m r 4 (i / m)).1, IA (plc m r 4 (i / m)).2]) rfl trivial ?_
    refine on ?_
    refine ev_ne trivial (fun h => absurd (plc2.2 (oka_okp ho)) h) (fun h => ?_)
    refine Good.recell (c := 3) (cs' := [.run .i64 1 [i % m]]) rfl rfl rfl (fun _ => rfl) ?_
    refine on ?_
    exact reta trivial rfl (yesX ho [] (by simp [maxLen])) [0, 3] rfl rfl rfl rfl rfl ⟨rfl, rfl, trivial⟩
  · have e : atv m r i = (0, 0, 2) := if_neg ho
    rw [e]
    refine on ?_
    refine ev_ne trivial (fun _ => ?_) (fun h => absurd h (by decide))
    refine on ?_
    exact reta trivial rfl (noX ho) [0] rfl rfl rfl rfl rfl ⟨rfl, trivial⟩
theorem c12_o (m r k i : Int) (bs : List Int) (h1 : k ≠ 1) (h3 : k ≠ 3) (h4 : k ≠ 4) : ACtr Try.prog 12 1 [GA m r, NA k i bs] [] (fun _ : Unit => 0) (fun _ => .tup [nilS, IA 0]) (fun _ => []) := by
  refine act Try.func12 rfl rfl rfl A12_ok rfl fun F w0 b => ?_
  refine on ?_
  refine call_pure trivial (c13 m r) rfl (rv := IA (gck m r)) rfl trivial ?_
  refine on ?_
  refine ev_ne trivial (fun hg => ?_) (fun hg => ?_)
  · refine on ?_
    exact reta trivial rfl () [0] rfl rfl rfl rfl rfl ⟨rfl, trivial⟩
  refine on ?_
  refine ev_lt trivial (fun h => absurd h h1) (fun _ => ?_)
  refine on ?_
  refine ev_lt trivial (fun h => absurd h h3) (fun _ => ?_)
  refine on ?_
  refine ev_lt trivial (fun h => absurd h h4) (fun _ => ?_)
  refine on ?_
  exact reta trivial rfl () [0] rfl rfl rfl rfl rfl ⟨rfl, trivial⟩
end Go.Proofs.Ytolcobhaghdfcaa
