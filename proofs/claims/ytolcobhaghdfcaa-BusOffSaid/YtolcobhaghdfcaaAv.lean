/- Abstract values, whose pointers go by names of blocks, and abstract heaps: named blocks and predicates, joined by the separating conjunction. -/
import Derived.Test.YtolcobhaghdfcaaHp
namespace Sx
open Go

inductive AV where
  | v (x : Value)
  | tt | ff
  | ptr (c off : Nat)
  /-- element i (sz cells each) of what begins at cell 'base' of block c, 'inner' cells further -/
  | elp (c base sz : Nat) (i : Int) (inner : Nat)
  | slc (c off len cap : Nat)
  | mp (c : Nat)
  | run (k : IntKind) (n : Nat) (l : List Int)
  | fn (f : Fn) (first caps : List AV)
  | tup (vs : List AV)
  | agg (cs : List AV)

mutual
def AV.ev (ρ : List Nat) : AV → Option Value
  | .v x => some x
  | .tt => some (.bool true)
  | .ff => some (.bool false)
  | .ptr c off => (ρ[c]?).map fun b => .pointer (some ⟨b, off, none⟩)
  | .elp c base sz i inner => (ρ[c]?).map fun b => .pointer (some ⟨b, base + i.toNat * sz + inner, none⟩)
  | .slc c off len cap => (ρ[c]?).map fun b => .slice (some ⟨b, off, none⟩) len cap
  | .mp c => (ρ[c]?).map fun b => .map (some b)
  | .run k n l => if l.length = n then some (.agg (l.map (Value.int k)).toArray) else none
  | .fn f a b => (AV.evs ρ a).bind fun x => (AV.evs ρ b).map fun y => .func f x.toArray y.toArray
  | .tup l => (AV.evs ρ l).map fun x => .tuple x.toArray
  | .agg l => (AV.evc ρ l).map fun x => .agg x.toArray
def AV.evs (ρ : List Nat) : List AV → Option (List Value)
  | [] => some []
  | x :: r => (AV.ev ρ x).bind fun a => (AV.evs ρ r).map fun b => a :: b
/-- the cells of a row -/
def AV.evc (ρ : List Nat) : List AV → Option (List Value)
  | [] => some []
  | x :: r => (AV.ev1 ρ x).bind fun a => (AV.evc ρ r).map fun b => a ++ b
def AV.ev1 (ρ : List Nat) : AV → Option (List Value)
  | .v x => some [x]
  | .tt => some [.bool true]
  | .ff => some [.bool false]
  | .ptr c off => (ρ[c]?).map fun b => [.pointer (some ⟨b, off, none⟩)]
  | .elp c base sz i inner => (ρ[c]?).map fun b => [.pointer (some ⟨b, base + i.toNat * sz + inner, none⟩)]
  | .slc c off len cap => (ρ[c]?).map fun b => [.slice (some ⟨b, off, none⟩) len cap]
  | .mp c => (ρ[c]?).map fun b => [.map (some b)]
  | .run k n l => if l.length = n then some (l.map (Value.int k)) else none
  | .fn f a b => (AV.evs ρ a).bind fun x => (AV.evs ρ b).map fun y => [.func f x.toArray y.toArray]
  | .tup _ => none
  | .agg _ => none
end

/-- names stay what they are when more names come. -/
theorem getElem?_ext {ρ : List Nat} {c b : Nat} (h : ρ[c]? = some b) (σ : List Nat) : (ρ ++ σ)[c]? = some b := by
  rw [List.getElem?_append_left]
  · exact h
  · exact (List.getElem?_eq_some_iff.1 h).1

mutual
theorem AV.ev_ext (ρ σ : List Nat) : ∀ (v : AV) (x : Value), v.ev ρ = some x → v.ev (ρ ++ σ) = some x
  | .v _, _, h => by simpa [AV.ev] using h
  | .tt, _, h => by simpa [AV.ev] using h
  | .ff, _, h => by simpa [AV.ev] using h
  | .ptr c off, x, h => by
    simp only [AV.ev, Option.map_eq_some_iff] at h ⊢
    obtain ⟨b, hb, rfl⟩ := h
    exact ⟨b, getElem?_ext hb σ, rfl⟩
  | .elp c base sz i inner, x, h => by
    simp only [AV.ev, Option.map_eq_some_iff] at h ⊢
    obtain ⟨b, hb, rfl⟩ := h
    exact ⟨b, getElem?_ext hb σ, rfl⟩
  | .slc c off len cap, x, h => by
    simp only [AV.ev, Option.map_eq_some_iff] at h ⊢
    obtain ⟨b, hb, rfl⟩ := h
    exact ⟨b, getElem?_ext hb σ, rfl⟩
  | .mp c, x, h => by
    simp only [AV.ev, Option.map_eq_some_iff] at h ⊢
    obtain ⟨b, hb, rfl⟩ := h
    exact ⟨b, getElem?_ext hb σ, rfl⟩
  | .run _ _ _, _, h => by simpa [AV.ev] using h
  | .fn f a b, x, h => by
    simp only [AV.ev, Option.bind_eq_some_iff, Option.map_eq_some_iff] at h ⊢
    obtain ⟨y, hy, z, hz, rfl⟩ := h
    exact ⟨y, AV.evs_ext ρ σ a y hy, z, AV.evs_ext ρ σ b z hz, rfl⟩
  | .tup l, x, h => by
    simp only [AV.ev, Option.map_eq_some_iff] at h ⊢
    obtain ⟨y, hy, rfl⟩ := h
    exact ⟨y, AV.evs_ext ρ σ l y hy, rfl⟩
  | .agg l, x, h => by
    simp only [AV.ev, Option.map_eq_some_iff] at h ⊢
    obtain ⟨y, hy, rfl⟩ := h
    exact ⟨y, AV.evc_ext ρ σ l y hy, rfl⟩
theorem AV.evs_ext (ρ σ : List Nat) : ∀ (l : List AV) (x : List Value), AV.evs ρ l = some x → AV.evs (ρ ++ σ) l = some x
  | [], _, h => by simpa [AV.evs] using h
  | a :: r, x, h => by
    simp only [AV.evs, Option.bind_eq_some_iff, Option.map_eq_some_iff] at h ⊢
    obtain ⟨y, hy, z, hz, rfl⟩ := h
    exact ⟨y, AV.ev_ext ρ σ a y hy, z, AV.evs_ext ρ σ r z hz, rfl⟩
theorem AV.evc_ext (ρ σ : List Nat) : ∀ (l : List AV) (x : List Value), AV.evc ρ l = some x → AV.evc (ρ ++ σ) l = some x
  | [], _, h => by simpa [AV.evc] using h
  | a :: r, x, h => by
    simp only [AV.evc, Option.bind_eq_some_iff, Option.map_eq_some_iff] at h ⊢
    obtain ⟨y, hy, z, hz, rfl⟩ := h
    exact ⟨y, AV.ev1_ext ρ σ a y hy, z, AV.evc_ext ρ σ r z hz, rfl⟩
theorem AV.ev1_ext (ρ σ : List Nat) : ∀ (v : AV) (x : List Value), v.ev1 ρ = some x → v.ev1 (ρ ++ σ) = some x
  | .v _, _, h => by simpa [AV.ev1] using h
  | .tt, _, h => by simpa [AV.ev1] using h
  | .ff, _, h => by simpa [AV.ev1] using h
  | .ptr c off, x, h => by
    simp only [AV.ev1, Option.map_eq_some_iff] at h ⊢
    obtain ⟨b, hb, rfl⟩ := h
    exact ⟨b, getElem?_ext hb σ, rfl⟩
  | .elp c base sz i inner, x, h => by
    simp only [AV.ev1, Option.map_eq_some_iff] at h ⊢
    obtain ⟨b, hb, rfl⟩ := h
    exact ⟨b, getElem?_ext hb σ, rfl⟩
  | .slc c off len cap, x, h => by
    simp only [AV.ev1, Option.map_eq_some_iff] at h ⊢
    obtain ⟨b, hb, rfl⟩ := h
    exact ⟨b, getElem?_ext hb σ, rfl⟩
  | .mp c, x, h => by
    simp only [AV.ev1, Option.map_eq_some_iff] at h ⊢
    obtain ⟨b, hb, rfl⟩ := h
    exact ⟨b, getElem?_ext hb σ, rfl⟩
  | .run _ _ _, _, h => by simpa [AV.ev1] using h
  | .fn f a b, x, h => by
    simp only [AV.ev1, Option.bind_eq_some_iff, Option.map_eq_some_iff] at h ⊢
    obtain ⟨y, hy, z, hz, rfl⟩ := h
    exact ⟨y, AV.evs_ext ρ σ a y hy, z, AV.evs_ext ρ σ b z hz, rfl⟩
  | .tup l, x, h => by simp [AV.ev1] at h
  | .agg l, x, h => by simp [AV.ev1] at h
end

/-- how many cells -/
def asz : AV → Nat
  | .run _ n _ => n
  | _ => 1

theorem AV.ev1_length {ρ : List Nat} {x : AV} {vs : List Value} (h : x.ev1 ρ = some vs) : vs.length = asz x := by
  cases x <;> simp only [AV.ev1, Option.map_eq_some_iff, Option.bind_eq_some_iff] at h
  case run k n l =>
    split at h
    · cases h; simpa [asz] using ‹l.length = n›
    · cases h
  all_goals first
    | (cases h <;> rfl)
    | (obtain ⟨b, _, rfl⟩ := h; rfl)
    | (obtain ⟨b, _, c, _, rfl⟩ := h; rfl)

theorem AV.evc_append {ρ : List Nat} (a b : List AV) (x y : List Value) (ha : AV.evc ρ a = some x) (hb : AV.evc ρ b = some y) : AV.evc ρ (a ++ b) = some (x ++ y) := by
  induction a generalizing x with
  | nil => simp only [AV.evc, Option.some.injEq] at ha; subst ha; simpa using hb
  | cons c r ih =>
    simp only [AV.evc, Option.bind_eq_some_iff, Option.map_eq_some_iff, List.cons_append] at ha ⊢
    obtain ⟨p, hp, q, hq, rfl⟩ := ha
    exact ⟨p, hp, _, ih q hq, by simp⟩

/-- A value that is one cell: its cells are itself. -/
theorem ev1_of_ev {ρ : List Nat} {x : AV} {vs : List Value} (h : x.ev1 ρ = some vs) : (∃ k n l, x = .run k n l) ∨ ∃ v, vs = [v] ∧ x.ev ρ = some v := by
  cases x <;> simp only [AV.ev1, Option.map_eq_some_iff, Option.bind_eq_some_iff] at h
  case run k n l => exact .inl ⟨k, n, l, rfl⟩
  all_goals right
  case v x => cases h; exact ⟨_, rfl, rfl⟩
  case tt => cases h; exact ⟨_, rfl, rfl⟩
  case ff => cases h; exact ⟨_, rfl, rfl⟩
  case ptr c off => obtain ⟨b, hb, rfl⟩ := h; exact ⟨_, rfl, by simp [AV.ev, hb]⟩
  case elp c base sz i inner => obtain ⟨b, hb, rfl⟩ := h; exact ⟨_, rfl, by simp [AV.ev, hb]⟩
  case slc c off len cap => obtain ⟨b, hb, rfl⟩ := h; exact ⟨_, rfl, by simp [AV.ev, hb]⟩
  case mp c => obtain ⟨b, hb, rfl⟩ := h; exact ⟨_, rfl, by simp [AV.ev, hb]⟩
  case fn f a b => obtain ⟨p, hp, q, hq, rfl⟩ := h; exact ⟨_, rfl, by simp [AV.ev, hp, hq]⟩
  case tup => cases h
  case agg => cases h

/-! ### cells of a row -/
def skipN : List AV → Nat → Option (List AV)
  | [], off => bif Nat.beq off 0 then some [] else none
  | x :: r, off => bif Nat.beq off 0 then some (x :: r) else bif Nat.ble (asz x) off then skipN r (off - asz x) else none
/-- n cells from the begin on (reversed, onto acc) -/
def takeN : List AV → Nat → List AV → Option (List AV)
  | [], n, acc => bif Nat.beq n 0 then some (acc.reverseAux []) else none
  | x :: r, n, acc => bif Nat.beq n 0 then some (acc.reverseAux []) else bif Nat.ble (asz x) n then takeN r (n - asz x) (x :: acc) else none
/-- one cell, also in the middle of a run -/
def oneN : List AV → Nat → Option AV
  | [], _ => none
  | x :: r, off => bif Nat.ble (asz x) off then oneN r (off - asz x) else
    match x with
    | .run k _ l => some (.v (.int k (l.getD off 0)))
    | x => some x
/-- the run of whole numbers that begins at cell 'off' -/
def runN : List AV → Nat → Option (IntKind × Nat × List Int)
  | [], _ => none
  | x :: r, off => bif Nat.beq off 0 then (match x with | .run k n l => some (k, n, l) | _ => none) else bif Nat.ble (asz x) off then runN r (off - asz x) else none
/-- what stands at cell 'off' gives way to new cells, as many -/
def putN : List AV → Nat → List AV → Nat → List AV → Option (List AV)
  | [], _, _, _, _ => none
  | x :: r, off, new, n, acc => bif Nat.beq off 0 then (skipN (x :: r) n).map (fun t => acc.reverseAux (new ++ t)) else bif Nat.ble (asz x) off then putN r (off - asz x) new n (x :: acc) else none
/-- one number of a run is set -/
def setN : List AV → Nat → IntKind → Int → List AV → Option (List AV)
  | [], _, _, _, _ => none
  | x :: r, off, k, q, acc => bif Nat.ble (asz x) off then setN r (off - asz x) k q (x :: acc) else
    match x with
    | .run k' n l => bif k == k' then some (acc.reverseAux (.run k' n (l.set off q) :: r)) else none
    | _ => none
/-- element i of the run that begins at cell 'base' is set -/
def setR : List AV → Nat → IntKind → Int → Nat → List AV → Option (List AV)
  | [], _, _, _, _, _ => none
  | x :: r, base, k, q, i, acc => bif Nat.beq base 0 then (match x with | .run k' n l => (bif k == k' then some (acc.reverseAux (.run k' n (l.set i q) :: r)) else none) | _ => none)
    else bif Nat.ble (asz x) base then setR r (base - asz x) k q i (x :: acc) else none

theorem cond_some {α : Type} {b : Bool} {x y : Option α} {z : α} (h : (bif b then x else y) = some z) : (b = true ∧ x = some z) ∨ (b = false ∧ y = some z) := by
  cases b <;> simp at h <;> simp [h]

theorem evc_cons {ρ : List Nat} {x : AV} {r : List AV} {vs : List Value} (h : AV.evc ρ (x :: r) = some vs) : ∃ a b, x.ev1 ρ = some a ∧ AV.evc ρ r = some b ∧ vs = a ++ b ∧ a.length = asz x := by
  simp only [AV.evc, Option.bind_eq_some_iff, Option.map_eq_some_iff] at h
  obtain ⟨a, ha, b, hb, rfl⟩ := h
  exact ⟨a, b, ha, hb, rfl, AV.ev1_length ha⟩
theorem evc_cons_mk {ρ : List Nat} {x : AV} {r : List AV} {a b : List Value} (ha : x.ev1 ρ = some a) (hb : AV.evc ρ r = some b) : AV.evc ρ (x :: r) = some (a ++ b) := by
  simp [AV.evc, ha, hb]

theorem skipN_spec {ρ : List Nat} {cs : List AV} {off : Nat} {r : List AV} {vs : List Value} (h : skipN cs off = some r) (hv : AV.evc ρ cs = some vs) :
    off ≤ vs.length ∧ AV.evc ρ r = some (vs.drop off) := by
  induction cs generalizing off vs with
  | nil =>
    simp only [skipN] at h
    rcases cond_some h with ⟨h1, h2⟩ | ⟨_, h2⟩
    · have : off = 0 := by simpa using h1
      subst this
      cases h2
      exact ⟨Nat.zero_le _, by simpa using hv⟩
    · cases h2
  | cons x t ih =>
    simp only [skipN] at h
    rcases cond_some h with ⟨h1, h2⟩ | ⟨_, h2⟩
    · have : off = 0 := by simpa using h1
      subst this
      cases h2
      exact ⟨Nat.zero_le _, by simpa using hv⟩
    · rcases cond_some h2 with ⟨h3, h4⟩ | ⟨_, h4⟩
      · obtain ⟨a, b, ha, hb, rfl, hl⟩ := evc_cons hv
        have hle : asz x ≤ off := by simpa using h3
        obtain ⟨h5, h6⟩ := ih h4 hb
        refine ⟨by simp; omega, ?_⟩
        rw [h6, List.drop_append, List.drop_of_length_le (l := a) (by omega), hl, List.nil_append]
      · cases h4

theorem evc_reverseAux {ρ : List Nat} : ∀ (acc t : List AV) (x y : List Value), AV.evc ρ acc.reverse = some x → AV.evc ρ t = some y → AV.evc ρ (acc.reverseAux t) = some (x ++ y) := by
  intro acc t x y hx hy
  have : acc.reverseAux t = acc.reverse ++ t := by rw [List.reverseAux_eq]
  rw [this]
  exact AV.evc_append _ _ _ _ hx hy

theorem takeN_spec {ρ : List Nat} {cs : List AV} {n : Nat} {acc r : List AV} {vs xs : List Value} (h : takeN cs n acc = some r) (hv : AV.evc ρ cs = some vs)
    (hx : AV.evc ρ acc.reverse = some xs) : n ≤ vs.length ∧ AV.evc ρ r = some (xs ++ vs.take n) := by
  induction cs generalizing n vs acc xs with
  | nil =>
    simp only [takeN] at h
    rcases cond_some h with ⟨h1, h2⟩ | ⟨_, h2⟩
    · have : n = 0 := by simpa using h1
      subst this
      simp only [Option.some.injEq] at h2
      subst h2
      exact ⟨Nat.zero_le _, by simpa using evc_reverseAux acc [] xs [] hx rfl⟩
    · cases h2
  | cons x t ih =>
    simp only [takeN] at h
    rcases cond_some h with ⟨h1, h2⟩ | ⟨_, h2⟩
    · have : n = 0 := by simpa using h1
      subst this
      simp only [Option.some.injEq] at h2
      subst h2
      exact ⟨Nat.zero_le _, by simpa using evc_reverseAux acc [] xs [] hx rfl⟩
    · rcases cond_some h2 with ⟨h3, h4⟩ | ⟨_, h4⟩
      · obtain ⟨a, b, ha, hb, rfl, hl⟩ := evc_cons hv
        have hle : asz x ≤ n := by simpa using h3
        have hacc : AV.evc ρ (x :: acc).reverse = some (xs ++ a) := by
          rw [List.reverse_cons]
          exact AV.evc_append _ _ _ _ hx (by simpa using evc_cons_mk ha (show AV.evc ρ [] = some [] from rfl))
        obtain ⟨h5, h6⟩ := ih h4 hb hacc
        refine ⟨by simp; omega, ?_⟩
        rw [h6, List.take_append, List.take_of_length_le (l := a) (by omega), hl]; simp
      · cases h4

theorem oneN_spec {ρ : List Nat} {cs : List AV} {off : Nat} {x : AV} {vs : List Value} (h : oneN cs off = some x) (hv : AV.evc ρ cs = some vs) :
    ∃ v, vs[off]? = some v ∧ x.ev ρ = some v := by
  induction cs generalizing off vs with
  | nil => simp [oneN] at h
  | cons y t ih =>
    simp only [oneN] at h
    obtain ⟨a, b, ha, hb, rfl, hl⟩ := evc_cons hv
    rcases cond_some h with ⟨h1, h2⟩ | ⟨h1, h2⟩
    · have hle : asz y ≤ off := by simpa using h1
      obtain ⟨v, h3, h4⟩ := ih h2 hb
      exact ⟨v, by rw [List.getElem?_append_right (by omega), hl]; exact h3, h4⟩
    · have hlt : off < asz y := by
        rcases Nat.lt_or_ge off (asz y) with h | h
        · exact h
        · have : Nat.ble (asz y) off = true := by simpa using h
          rw [this] at h1; cases h1
      rcases ev1_of_ev ha with ⟨k, n, l, rfl⟩ | ⟨v, rfl, h4⟩
      · simp only [Option.some.injEq] at h2
        subst h2
        simp only [AV.ev1] at ha
        split at ha
        · rename_i hn
          cases ha
          simp only [asz] at hlt
          refine ⟨.int k (l.getD off 0), ?_, rfl⟩
          rw [List.getElem?_append_left (by simp; omega), List.getElem?_map, List.getD_eq_getElem?_getD, List.getElem?_eq_getElem (by omega)]; rfl
        · cases ha
      · have h0 : off = 0 := by simp at hl; omega
        subst h0
        refine ⟨v, by simp, ?_⟩
        cases y <;> simp only [Option.some.injEq] at h2 <;> first | (subst h2; exact h4) | skip
        case run k n l =>
          subst h2
          simp only [AV.ev1] at ha
          split at ha
          · rename_i hn
            cases l with
            | nil => simp at ha
            | cons q l => simp at ha; simp [AV.ev, ha.1]
          · cases ha

theorem runN_spec {ρ : List Nat} {cs : List AV} {base : Nat} {k : IntKind} {n : Nat} {l : List Int} {vs : List Value} (h : runN cs base = some (k, n, l)) (hv : AV.evc ρ cs = some vs) :
    l.length = n ∧ ∀ i, i < n → vs[base + i]? = some (.int k (l.getD i 0)) := by
  induction cs generalizing base vs with
  | nil => simp [runN] at h
  | cons y t ih =>
    simp only [runN] at h
    obtain ⟨a, b, ha, hb, rfl, hl⟩ := evc_cons hv
    rcases cond_some h with ⟨h1, h2⟩ | ⟨_, h2⟩
    · have : base = 0 := by simpa using h1
      subst this
      cases y <;> simp at h2
      case run k' n' l' =>
        obtain ⟨rfl, rfl, rfl⟩ := h2
        simp only [AV.ev1] at ha
        split at ha
        · rename_i hn
          cases ha
          refine ⟨hn, fun i hi => ?_⟩
          rw [Nat.zero_add, List.getElem?_append_left (by simp; omega), List.getElem?_map, List.getD_eq_getElem?_getD, List.getElem?_eq_getElem (by omega)]; rfl
        · cases ha
    · rcases cond_some h2 with ⟨h3, h4⟩ | ⟨_, h4⟩
      · have hle : asz y ≤ base := by simpa using h3
        obtain ⟨h5, h6⟩ := ih h4 hb
        refine ⟨h5, fun i hi => ?_⟩
        rw [List.getElem?_append_right (by omega), hl, show base + i - asz y = base - asz y + i from by omega]
        exact h6 i hi
      · cases h4

theorem putN_spec {ρ : List Nat} {cs : List AV} {off n : Nat} {new acc r : List AV} {vs xs ns : List Value} (h : putN cs off new n acc = some r) (hv : AV.evc ρ cs = some vs)
    (hx : AV.evc ρ acc.reverse = some xs) (hn : AV.evc ρ new = some ns) : off + n ≤ vs.length ∧ AV.evc ρ r = some (xs ++ (vs.take off ++ ns ++ vs.drop (off + n))) := by
  induction cs generalizing off vs acc xs with
  | nil => simp [putN] at h
  | cons x t ih =>
    simp only [putN] at h
    rcases cond_some h with ⟨h1, h2⟩ | ⟨_, h2⟩
    · have : off = 0 := by simpa using h1
      subst this
      simp only [Option.map_eq_some_iff] at h2
      obtain ⟨u, hu, rfl⟩ := h2
      obtain ⟨h3, h4⟩ := skipN_spec hu hv
      refine ⟨by omega, ?_⟩
      have := evc_reverseAux acc (new ++ u) xs _ hx (AV.evc_append _ _ _ _ hn h4)
      simpa using this
    · rcases cond_some h2 with ⟨h3, h4⟩ | ⟨_, h4⟩
      · obtain ⟨a, b, ha, hb, rfl, hl⟩ := evc_cons hv
        have hle : asz x ≤ off := by simpa using h3
        have hacc : AV.evc ρ (x :: acc).reverse = some (xs ++ a) := by
          rw [List.reverse_cons]
          exact AV.evc_append _ _ _ _ hx (by simpa using evc_cons_mk ha (show AV.evc ρ [] = some [] from rfl))
        obtain ⟨h5, h6⟩ := ih h4 hb hacc
        refine ⟨by simp; omega, ?_⟩
        rw [h6, List.take_append, List.take_of_length_le (l := a) (by omega), List.drop_append, List.drop_of_length_le (l := a) (by omega), hl,
          show off + n - asz x = off - asz x + n from by omega]
        simp
      · cases h4

theorem setN_spec {ρ : List Nat} {cs : List AV} {off : Nat} {k : IntKind} {q : Int} {acc r : List AV} {vs xs : List Value} (h : setN cs off k q acc = some r) (hv : AV.evc ρ cs = some vs)
    (hx : AV.evc ρ acc.reverse = some xs) : off < vs.length ∧ AV.evc ρ r = some (xs ++ vs.set off (.int k q)) := by
  induction cs generalizing off vs acc xs with
  | nil => simp [setN] at h
  | cons x t ih =>
    simp only [setN] at h
    obtain ⟨a, b, ha, hb, rfl, hl⟩ := evc_cons hv
    rcases cond_some h with ⟨h3, h4⟩ | ⟨h1, h2⟩
    · have hle : asz x ≤ off := by simpa using h3
      have hacc : AV.evc ρ (x :: acc).reverse = some (xs ++ a) := by
        rw [List.reverse_cons]
        exact AV.evc_append _ _ _ _ hx (by simpa using evc_cons_mk ha (show AV.evc ρ [] = some [] from rfl))
      obtain ⟨h5, h6⟩ := ih h4 hb hacc
      refine ⟨by simp; omega, ?_⟩
      rw [h6, List.set_append, if_neg (by omega), hl]; simp
    · have hlt : off < asz x := by
        rcases Nat.lt_or_ge off (asz x) with h | h
        · exact h
        · have : Nat.ble (asz x) off = true := by simpa using h
          rw [this] at h1; cases h1
      cases x <;> simp at h2
      case run k' n l =>
        simp only [asz] at hlt hl
        rcases cond_some h2 with ⟨h5, h6⟩ | ⟨_, h6⟩
        · have hk : k = k' := by simpa using h5
          subst hk
          simp only [Option.some.injEq] at h6
          subst h6
          simp only [AV.ev1] at ha
          split at ha
          · rename_i hn
            cases ha
            refine ⟨by simp; omega, ?_⟩
            have := evc_reverseAux acc (.run k n (l.set off q) :: t) xs ((l.set off q).map (Value.int k) ++ b) hx (evc_cons_mk (by simp [AV.ev1, hn]) hb)
            rw [List.set_append, if_pos (by simp; omega), ← List.map_set]
            simpa only [List.reverseAux_eq] using this
          · cases ha
        · cases h6

theorem setR_spec {ρ : List Nat} {cs : List AV} {base i : Nat} {k : IntKind} {q : Int} {acc r : List AV} {vs xs : List Value} (h : setR cs base k q i acc = some r) (hv : AV.evc ρ cs = some vs)
    (hx : AV.evc ρ acc.reverse = some xs) (hi : ∀ k n l, runN cs base = some (k, n, l) → i < n) : base + i < vs.length ∧ AV.evc ρ r = some (xs ++ vs.set (base + i) (.int k q)) := by
  induction cs generalizing base vs acc xs with
  | nil => simp [setR] at h
  | cons x t ih =>
    simp only [setR] at h
    obtain ⟨a, b, ha, hb, rfl, hl⟩ := evc_cons hv
    rcases cond_some h with ⟨h1, h2⟩ | ⟨h1, h2⟩
    · have : base = 0 := by simpa using h1
      subst this
      cases x <;> simp at h2
      case run k' n l =>
        have hlt : i < n := hi k' n l (by simp [runN])
        simp only [asz] at hl
        rcases cond_some h2 with ⟨h5, h6⟩ | ⟨_, h6⟩
        · have hk : k = k' := by simpa using h5
          subst hk
          simp only [Option.some.injEq] at h6
          subst h6
          simp only [AV.ev1] at ha
          split at ha
          · rename_i hn
            cases ha
            refine ⟨by simp; omega, ?_⟩
            have := evc_reverseAux acc (.run k n (l.set i q) :: t) xs ((l.set i q).map (Value.int k) ++ b) hx (evc_cons_mk (by simp [AV.ev1, hn]) hb)
            rw [Nat.zero_add, List.set_append, if_pos (by simp; omega), ← List.map_set]
            simpa only [List.reverseAux_eq] using this
          · cases ha
        · cases h6
    · rcases cond_some h2 with ⟨h3, h4⟩ | ⟨_, h4⟩
      · have hle : asz x ≤ base := by simpa using h3
        have hacc : AV.evc ρ (x :: acc).reverse = some (xs ++ a) := by
          rw [List.reverse_cons]
          exact AV.evc_append _ _ _ _ hx (by simpa using evc_cons_mk ha (show AV.evc ρ [] = some [] from rfl))
        obtain ⟨h5, h6⟩ := ih h4 hb hacc (fun k n l hr => hi k n l (by
          simp only [runN]
          rw [show Nat.beq base 0 = false from h1, show Nat.ble (asz x) base = true from h3]; exact hr))
        refine ⟨by simp; omega, ?_⟩
        rw [h6, List.set_append, if_neg (by omega), hl, show base + i - asz x = base - asz x + i from by omega]; simp
      · cases h4

/-- The cells of a value, to be laid into a row. -/
def cellsOf : AV → Option (List AV)
  | .agg l => some l
  | .tup _ => none
  | .v x => match x with | .agg _ => none | .tuple _ => none | x => some [.v x]
  | x => some [x]
theorem cellsOf_spec {ρ : List Nat} {x : AV} {l : List AV} {v : Value} (h : cellsOf x = some l) (hv : x.ev ρ = some v) : AV.evc ρ l = some v.cells.toList := by
  have one : ∀ (y : AV) (u : Value), y.ev1 ρ = some [u] → AV.evc ρ [y] = some [u] := fun y u hy => by simp [AV.evc, hy]
  cases x
  case v x =>
    cases x <;> simp [cellsOf] at h <;> subst h <;> simp [AV.ev] at hv <;> subst hv <;> exact one _ _ rfl
  case agg l' =>
    simp only [cellsOf, Option.some.injEq] at h; subst h
    simp only [AV.ev, Option.map_eq_some_iff] at hv
    obtain ⟨y, hy, rfl⟩ := hv
    simpa [Value.cells] using hy
  case tup => simp [cellsOf] at h
  case run k n l' =>
    simp only [cellsOf, Option.some.injEq] at h; subst h
    simp only [AV.ev] at hv
    split at hv
    · cases hv; simp [AV.evc, AV.ev1, Value.cells, *]
    · cases hv
  all_goals
    simp only [cellsOf, Option.some.injEq] at h; subst h
    simp only [AV.ev, Option.map_eq_some_iff, Option.bind_eq_some_iff] at hv
  case tt => cases hv; exact one _ _ rfl
  case ff => cases hv; exact one _ _ rfl
  case ptr => obtain ⟨b, hb, rfl⟩ := hv; exact one _ _ (by simp [AV.ev1, hb])
  case elp => obtain ⟨b, hb, rfl⟩ := hv; exact one _ _ (by simp [AV.ev1, hb])
  case slc => obtain ⟨b, hb, rfl⟩ := hv; exact one _ _ (by simp [AV.ev1, hb])
  case mp => obtain ⟨b, hb, rfl⟩ := hv; exact one _ _ (by simp [AV.ev1, hb])
  case fn => obtain ⟨b, hb, c, hc, rfl⟩ := hv; exact one _ _ (by simp [AV.ev1, hb, hc])

/-! ### abstract heaps -/
inductive Chunk where
  | cells (cs : List AV) (T : TypeId)
  | sym (vs : List Value) (T : TypeId)
  | obj (o : Obj)
  | pred (ns : List Nat) (A : List Nat → HProp)
  | gone

def lkn (ρ : List Nat) : List Nat → Option (List Nat)
  | [] => some []
  | n :: r => (ρ[n]?).bind fun b => (lkn ρ r).map fun t => b :: t
theorem lkn_ext {ρ σ : List Nat} : ∀ {ns bs : List Nat}, lkn ρ ns = some bs → lkn (ρ ++ σ) ns = some bs
  | [], _, h => by simpa [lkn] using h
  | n :: r, _, h => by
    simp only [lkn, Option.bind_eq_some_iff, Option.map_eq_some_iff] at h ⊢
    obtain ⟨b, hb, t, ht, rfl⟩ := h
    exact ⟨b, getElem?_ext hb σ, t, lkn_ext ht, rfl⟩

def Chunk.hp (ρ : List Nat) (i : Nat) : Chunk → HProp
  | .cells cs T => fun h => ∃ b vs, ρ[i]? = some b ∧ AV.evc ρ cs = some vs ∧ h b = some (.cells vs.toArray T)
  | .sym vs T => fun h => ∃ b, ρ[i]? = some b ∧ h b = some (.cells vs.toArray T)
  | .obj o => fun h => ∃ b, ρ[i]? = some b ∧ h b = some o
  | .pred ns A => fun h => ∃ bs, lkn ρ ns = some bs ∧ A bs h
  | .gone => emp
theorem Chunk.hp_ext {ρ σ : List Nat} {i : Nat} {c : Chunk} {h : Hp} (H : c.hp ρ i h) : c.hp (ρ ++ σ) i h := by
  cases c with
  | cells cs T => obtain ⟨b, vs, h1, h2, h3⟩ := H; exact ⟨b, vs, getElem?_ext h1 σ, AV.evc_ext ρ σ _ _ h2, h3⟩
  | sym vs T => obtain ⟨b, h1, h3⟩ := H; exact ⟨b, getElem?_ext h1 σ, h3⟩
  | obj o => obtain ⟨b, h1, h3⟩ := H; exact ⟨b, getElem?_ext h1 σ, h3⟩
  | pred ns A => obtain ⟨bs, h1, h3⟩ := H; exact ⟨bs, lkn_ext h1, h3⟩
  | gone => trivial

/-- names g 0, .., g (n - 1), each apart from all others -/
def big (ρ : List Nat) (g : Nat → Chunk) : Nat → HProp
  | 0 => emp
  | n + 1 => star ((g n).hp ρ n) (big ρ g n)
def upd (g : Nat → Chunk) (c : Nat) (x : Chunk) : Nat → Chunk := fun i => if i = c then x else g i
theorem upd_same (g : Nat → Chunk) (c : Nat) (x : Chunk) : upd g c x c = x := by simp [upd]
theorem upd_upd (g : Nat → Chunk) (c : Nat) (x y : Chunk) : upd (upd g c x) c y = upd g c y := by funext i; unfold upd; split <;> rfl
theorem upd_self (g : Nat → Chunk) (c : Nat) : upd g c (g c) = g := by funext i; unfold upd; split <;> simp [*]
theorem upd_comm (g : Nat → Chunk) {c d : Nat} (h : c ≠ d) (x y : Chunk) : upd (upd g c x) d y = upd (upd g d y) c x := by
  funext i; unfold upd
  split
  · rename_i e; subst e; rw [if_neg (Ne.symm h)]
  · rfl
theorem big_congr {ρ : List Nat} {g g' : Nat → Chunk} {n : Nat} (h : ∀ i, i < n → g i = g' i) : big ρ g n = big ρ g' n := by
  induction n with
  | zero => rfl
  | succ n ih => simp only [big]; rw [h n (by omega), ih (fun i hi => h i (by omega))]
theorem big_ext {ρ σ : List Nat} {g : Nat → Chunk} {n : Nat} {h : Hp} (H : big ρ g n h) : big (ρ ++ σ) g n h := by
  induction n generalizing h with
  | zero => trivial
  | succ n ih => exact star_mono (fun _ => Chunk.hp_ext) (fun _ => ih) H

theorem big_out {ρ : List Nat} {g : Nat → Chunk} {n c : Nat} {h : Hp} (hc : c < n) (H : big ρ g n h) : star ((g c).hp ρ c) (big ρ (upd g c .gone) n) h := by
  induction n generalizing h with
  | zero => omega
  | succ n ih =>
    by_cases e : c = n
    · subst e
      refine star_mono (fun _ x => x) (fun a ha => ?_) H
      simp only [big, upd_same]
      refine star_comm (star_emp ?_)
      rw [← big_congr (g := g) (fun i hi => by simp [upd, Nat.ne_of_lt hi])]
      exact ha
    · have h1 : star ((g n).hp ρ n) (star ((g c).hp ρ c) (big ρ (upd g c .gone) n)) h := star_mono (fun _ x => x) (fun _ => ih (by omega)) H
      have h2 := star_left_comm h1
      have h3 : upd g c .gone n = g n := by simp [upd, Ne.symm e]
      simp only [big, h3]
      exact h2
theorem big_in {ρ : List Nat} {g : Nat → Chunk} {n c : Nat} {h : Hp} (hc : c < n) (x : Chunk) (H : star (x.hp ρ c) (big ρ (upd g c .gone) n) h) : big ρ (upd g c x) n h := by
  induction n generalizing h with
  | zero => omega
  | succ n ih =>
    by_cases e : c = n
    · subst e
      simp only [big, upd_same] at H ⊢
      have h1 : star (x.hp ρ c) (big ρ (upd g c .gone) c) h := star_mono (fun _ y => y) (fun a ha => by
        obtain ⟨p, q, _, _, lq, _, hq⟩ := ha
        revert hq
        have : ∀ m, ∀ q a : Hp, Hp.le q a → big ρ (upd g c .gone) m q → big ρ (upd g c .gone) m a := by
          intro m
          cases m with
          | zero => intros; trivial
          | succ m => intro q a l hq; exact star_le hq l
        exact this c q a lq) H
      rw [big_congr (g' := upd g c .gone) (fun i hi => by simp [upd, Nat.ne_of_lt hi])]
      exact h1
    · have h3 : upd g c .gone n = g n := by simp [upd, Ne.symm e]
      have h4 : upd g c x n = g n := by simp [upd, Ne.symm e]
      simp only [big, h3, h4] at H ⊢
      exact star_mono (fun _ y => y) (fun _ => ih (by omega)) (star_left_comm H)
theorem big_le {ρ : List Nat} {g : Nat → Chunk} {n : Nat} {a b : Hp} (H : big ρ g n a) (l : Hp.le a b) : big ρ g n b := by
  cases n with
  | zero => trivial
  | succ n => exact star_le H l

/-- the list of what is known of named blocks; the first row of a name counts -/
def lookc : List (Nat × Chunk) → Nat → Chunk
  | [], _ => .gone
  | (c, x) :: r, i => bif Nat.beq c i then x else lookc r i
theorem lookc_cons (c : Nat) (x : Chunk) (r : List (Nat × Chunk)) : lookc ((c, x) :: r) = upd (lookc r) c x := by
  funext i
  unfold upd
  by_cases h : i = c
  · subst h; simp [lookc]
  · simp only [lookc, h, if_false]
    cases e : Nat.beq c i
    · rfl
    · exact absurd (Nat.eq_of_beq_eq_true e).symm h
def look : List (Nat × AV) → Nat → Option AV
  | [], _ => none
  | (s, v) :: r, i => bif Nat.beq s i then some v else look r i
theorem look_cons_same (s : Nat) (v : AV) (r : List (Nat × AV)) : look ((s, v) :: r) s = some v := by simp [look]
theorem look_cons_ne {s i : Nat} (h : s ≠ i) (v : AV) (r : List (Nat × AV)) : look ((s, v) :: r) i = look r i := by
  simp only [look]
  cases e : Nat.beq s i
  · rfl
  · exact absurd (Nat.eq_of_beq_eq_true e) h
end Sx
