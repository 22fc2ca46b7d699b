/- Heap predicates: a small separation logic over the model's blocks: a predicate on partial heaps, the separating conjunction, and what holds of a world. -/
import Derived.Calls
import Derived.RowKit3
namespace Sx
open Go

/-- A part of the heap: blocks by their numbers. -/
abbrev Hp := Nat → Option Obj
def Hp.disj (a b : Hp) : Prop := ∀ k, a k = none ∨ b k = none
def Hp.le (a b : Hp) : Prop := ∀ k o, a k = some o → b k = some o
def Hp.join (a b : Hp) : Hp := fun k => (a k).or (b k)
def Hp.of (w : World) : Hp := fun k => w.heap[k]?

theorem Hp.le.refl (a : Hp) : Hp.le a a := fun _ _ h => h
theorem Hp.le.trans {a b c : Hp} (h : Hp.le a b) (k : Hp.le b c) : Hp.le a c := fun i o e => k i o (h i o e)
theorem Hp.disj.symm {a b : Hp} (h : Hp.disj a b) : Hp.disj b a := fun k => (h k).symm
theorem Hp.disj.mono {a b a' b' : Hp} (h : Hp.disj a b) (ha : Hp.le a' a) (hb : Hp.le b' b) : Hp.disj a' b' := fun k => by
  rcases h k with h | h
  · left; cases e : a' k with | none => rfl | some o => rw [ha k o e] at h; cases h
  · right; cases e : b' k with | none => rfl | some o => rw [hb k o e] at h; cases h
theorem Hp.le_join_left (a b : Hp) : Hp.le a (Hp.join a b) := fun k o h => by simp [Hp.join, h]
theorem Hp.le_join_right {a b : Hp} (h : Hp.disj a b) : Hp.le b (Hp.join a b) := fun k o e => by
  rcases h k with h | h
  · simp [Hp.join, h, e]
  · rw [h] at e; cases e
theorem Hp.join_le {a b c : Hp} (ha : Hp.le a c) (hb : Hp.le b c) : Hp.le (Hp.join a b) c := fun k o e => by
  unfold Hp.join at e
  cases h : a k with
  | none => rw [h] at e; exact hb k o (by simpa using e)
  | some x => rw [h] at e; simp at e; subst e; exact ha k x h
theorem Hp.disj_join {a b c : Hp} (ha : Hp.disj a c) (hb : Hp.disj b c) : Hp.disj (Hp.join a b) c := fun k => by
  rcases hb k with h | h
  · rcases ha k with h' | h'
    · left; simp [Hp.join, h, h']
    · right; exact h'
  · right; exact h

abbrev HProp := Hp → Prop
def emp : HProp := fun _ => True
def star (A B : HProp) : HProp := fun h => ∃ a b, Hp.disj a b ∧ Hp.le a h ∧ Hp.le b h ∧ A a ∧ B b
def pts (b : Nat) (o : Obj) : HProp := fun h => h b = some o
def lift (p : Prop) : HProp := fun _ => p
def ex {α : Type} (A : α → HProp) : HProp := fun h => ∃ x, A x h
def Ent (A B : HProp) : Prop := ∀ h, A h → B h
/-- What holds of a world: of some part of its heap. -/
def Sat (A : HProp) (w : World) : Prop := ∃ h, Hp.le h (Hp.of w) ∧ A h

theorem star_comm {A B : HProp} {h : Hp} (H : star A B h) : star B A h :=
  let ⟨a, b, d, la, lb, ha, hb⟩ := H; ⟨b, a, d.symm, lb, la, hb, ha⟩
theorem star_mono {A B A' B' : HProp} (ha : Ent A A') (hb : Ent B B') {h : Hp} (H : star A B h) : star A' B' h :=
  let ⟨a, b, d, la, lb, h1, h2⟩ := H; ⟨a, b, d, la, lb, ha a h1, hb b h2⟩
theorem star_assoc {A B C : HProp} {h : Hp} (H : star (star A B) C h) : star A (star B C) h := by
  obtain ⟨ab, c, d, lab, lc, ⟨a, b, d', la, lb, ha, hb⟩, hc⟩ := H
  have dbc : Hp.disj b c := d.mono lb (Hp.le.refl c)
  refine ⟨a, Hp.join b c, ?_, la.trans lab, Hp.join_le (lb.trans lab) lc, ha, ⟨b, c, dbc, Hp.le_join_left b c, Hp.le_join_right dbc, hb, hc⟩⟩
  exact (Hp.disj_join d'.symm (d.mono la (Hp.le.refl c)).symm).symm
theorem star_assoc' {A B C : HProp} {h : Hp} (H : star A (star B C) h) : star (star A B) C h := by
  have h1 := star_comm H
  have h2 : star (star C B) A h := star_mono (fun _ => star_comm) (fun _ x => x) h1
  have h3 := star_assoc h2
  exact star_comm (star_mono (fun _ x => x) (fun _ => star_comm) h3)
theorem star_le {A B : HProp} {h h' : Hp} (H : star A B h) (l : Hp.le h h') : star A B h' :=
  let ⟨a, b, d, la, lb, ha, hb⟩ := H; ⟨a, b, d, la.trans l, lb.trans l, ha, hb⟩
theorem star_emp {A : HProp} {h : Hp} (H : A h) : star A emp h := ⟨h, fun _ => none, fun _ => .inr rfl, Hp.le.refl h, (fun _ _ e => by cases e), H, trivial⟩
theorem star_lift {p : Prop} {A : HProp} {h : Hp} (hp : p) (H : A h) : star (lift p) A h := ⟨fun _ => none, h, fun _ => .inl rfl, (fun _ _ e => by cases e), Hp.le.refl h, hp, H⟩
/-- A in the first place, B in the second, the rest behind. -/
theorem star_left_comm {A B C : HProp} {h : Hp} (H : star A (star B C) h) : star B (star A C) h :=
  star_assoc (star_mono (fun _ => star_comm) (fun _ x => x) (star_assoc' H))

theorem Sat.mono {A B : HProp} {w : World} (H : Sat A w) (e : Ent A B) : Sat B w := let ⟨h, l, a⟩ := H; ⟨h, l, e h a⟩
theorem Sat.pts {b : Nat} {o : Obj} {R : HProp} {w : World} (H : Sat (star (pts b o) R) w) : w.heap[b]? = some o := by
  obtain ⟨h, l, a, c, _, la, _, ha, _⟩ := H
  exact l b o (la b o ha)
theorem Sat.right {A B : HProp} {w : World} (H : Sat (star A B) w) : Sat B w := let ⟨h, l, a, b, _, _, lb, _, hb⟩ := H; ⟨b, lb.trans l, hb⟩
theorem Sat.left {A B : HProp} {w : World} (H : Sat (star A B) w) : Sat A w := let ⟨h, l, a, b, _, la, _, ha, _⟩ := H; ⟨a, la.trans l, ha⟩

/-- What one step may do to the rest of a world: the streams, the tape stay; no block goes. -/
structure Env (w w' : World) : Prop where
  os : w'.os = w.os
  tape : w'.tape = w.tape
  output : w'.output = w.output
  size : w.heap.size ≤ w'.heap.size
theorem Env.refl (w : World) : Env w w := ⟨rfl, rfl, rfl, Nat.le_refl _⟩
theorem Env.trans {a b c : World} (h : Env a b) (k : Env b c) : Env a c := ⟨k.os.trans h.os, k.tape.trans h.tape, k.output.trans h.output, Nat.le_trans h.size k.size⟩

/-- The world with one block turned. -/
def putBlock (w : World) (b : Nat) (o : Obj) : World := { w with heap := w.heap.setIfInBounds b o }
theorem Env.putBlock (w : World) (b : Nat) (o : Obj) : Env w (putBlock w b o) := ⟨rfl, rfl, rfl, by simp [Sx.putBlock]⟩
theorem Sat.put {b : Nat} {o o' : Obj} {R : HProp} {w : World} (H : Sat (star (Sx.pts b o) R) w) : Sat (star (Sx.pts b o') R) (putBlock w b o') := by
  have hb := H.pts
  obtain ⟨h, l, a, c, d, la, lc, ha, hc⟩ := H
  have hcb : c b = none := by
    rcases d b with e | e
    · rw [show a b = some o from ha] at e; cases e
    · exact e
  have hlt : b < w.heap.size := by
    rcases Nat.lt_or_ge b w.heap.size with h | h
    · exact h
    · simp [Array.getElem?_eq_none h] at hb
  have lcw : Hp.le c (Hp.of (putBlock w b o')) := fun k x e => by
    have hk : k ≠ b := fun he => by rw [he, hcb] at e; cases e
    have := l k x (lc k x e)
    show (w.heap.setIfInBounds b o')[k]? = some x
    rw [Array.getElem?_setIfInBounds, if_neg (Ne.symm hk)]; exact this
  refine ⟨Hp.join (fun k => if k = b then some o' else none) c, Hp.join_le ?_ lcw, (fun k => if k = b then some o' else none), c, ?_, Hp.le_join_left _ _, ?_, ?_, hc⟩
  · intro k x e
    by_cases hk : k = b
    · simp [hk] at e; subst e
      show (w.heap.setIfInBounds b o')[k]? = some o'
      rw [hk, Array.getElem?_setIfInBounds, if_pos rfl, if_pos hlt]
    · simp [hk] at e
  · intro k
    by_cases hk : k = b
    · right; rw [hk]; exact hcb
    · left; simp [hk]
  · refine Hp.le_join_right ?_
    intro k
    by_cases hk : k = b
    · right; rw [hk]; exact hcb
    · left; simp [hk]
  · simp [Sx.pts]
theorem Sat.new {R : HProp} {w : World} (H : Sat R w) (o : Obj) : Sat (star (Sx.pts w.heap.size o) R) { w with heap := w.heap.push o } := by
  obtain ⟨c, l, hc⟩ := H
  have hcb : c w.heap.size = none := by
    cases e : c w.heap.size with
    | none => rfl
    | some x => have := l _ _ e; simp [Hp.of] at this
  have dd : Hp.disj (fun k => if k = w.heap.size then some o else none) c := fun k => by
    by_cases hk : k = w.heap.size
    · right; rw [hk]; exact hcb
    · left; simp [hk]
  have lcw : Hp.le c (Hp.of { w with heap := w.heap.push o }) := fun k x e => by
    have h := l k x e
    have hlt : k < w.heap.size := by
      rcases Nat.lt_or_ge k w.heap.size with h' | h'
      · exact h'
      · simp [Hp.of, Array.getElem?_eq_none h'] at h
    show (w.heap.push o)[k]? = some x
    rw [Array.getElem?_push, if_neg (by omega)]; exact h
  refine ⟨Hp.join (fun k => if k = w.heap.size then some o else none) c, Hp.join_le ?_ lcw, _, c, dd, Hp.le_join_left _ _, Hp.le_join_right dd, ?_, hc⟩
  · intro k x e
    by_cases hk : k = w.heap.size
    · simp [hk] at e; subst e
      show (w.heap.push o)[k]? = some o
      rw [hk, Array.getElem?_push, if_pos rfl]
    · simp [hk] at e
  · simp [Sx.pts]
theorem Env.new (w : World) (o : Obj) : Env w { w with heap := w.heap.push o } := ⟨rfl, rfl, rfl, by simp⟩
end Sx
