/- Predicates that are packed out of named chunks: opened into names, closed again; blocks known by their numbers. -/
import Derived.Test.YtolcobhaghdfcaaApp
namespace Sx
open Go

/-- a predicate made of named chunks: the first names are given, m more are its own -/
def pk (m : Nat) (ch : List (Nat × Chunk)) : List Nat → HProp := fun bs h => ∃ σ : List Nat, σ.length = m ∧ big (bs ++ σ) (lookc ch) (bs.length + m) h
def pkx {X : Type} (m : X → Nat) (ch : X → List (Nat × Chunk)) : List Nat → HProp := fun bs h => ∃ x, pk (m x) (ch x) bs h

/-- what is known of a state gives one of these states; more names may come -/
def Turns (fr : List (Nat × AV)) (ch : List (Nat × Chunk)) (nx : Nat) {X : Type} (fr' : X → List (Nat × AV)) (ch' : X → List (Nat × Chunk)) (nx' : X → Nat) : Prop :=
  ∀ ρ a w, ρ.length = nx → FrOk ρ fr a → Sat (big ρ (lookc ch) nx) w → ∃ x ρ', (∃ σ, ρ' = ρ ++ σ) ∧ ρ'.length = nx' x ∧ FrOk ρ' (fr' x) a ∧ Sat (big ρ' (lookc (ch' x)) (nx' x)) w
theorem Good.turns {cx : Cx} {stk : List K} {fr : List (Nat × AV)} {ch : List (Nat × Chunk)} {nx : Nat} {X : Type} {fr' : X → List (Nat × AV)} {ch' : X → List (Nat × Chunk)} {nx' : X → Nat} (hs : ∀ x, stabK stk (ch' x)) (hf : Turns fr ch nx fr' ch' nx')
    (hG : ∀ x, Good cx ⟨stk, fr' x, ch' x, nx' x⟩) : Good cx ⟨stk, fr, ch, nx⟩ := fun ρ a w H => by
  obtain ⟨x, ρ', ⟨σ, rfl⟩, h1, h2, h3⟩ := hf ρ a w H.len H.fr H.sat
  exact hG x (ρ ++ σ) a w ⟨H.N, H.df, h1, h2, h3, H.env.ext σ, H.dr.next (hs x)⟩

/-! ### a return, the end, a round's end: first what is known is laid otherwise -/
theorem ret_in {cx : Cx} {p : Prop} {stk : List K} {fr : List (Nat × AV)} {ch : List (Nat × Chunk)} {nx : Nat} (hp : p) (h : Good cx ⟨[.lend (cx.Q .ret)], fr, ch, nx⟩) : EvOk cx (.ret p stk fr ch nx) := ⟨hp, fun ρ a w H => h ρ a w (H.pop trivial)⟩
theorem ret_out {cx : Cx} {fr : List (Nat × AV)} {ch : List (Nat × Chunk)} {nx : Nat} (h : EvOk cx (.ret True [] fr ch nx)) : Good cx ⟨[.lend (cx.Q .ret)], fr, ch, nx⟩ := fun ρ a w H => h.2 ρ a w (H.pop trivial)
theorem fin_in {cx : Cx} {p : Prop} {stk : List K} {fr : List (Nat × AV)} {ch : List (Nat × Chunk)} {nx : Nat} (hp : p) (h : Good cx ⟨[.lend (cx.Q .normal)], fr, ch, nx⟩) : EvOk cx (.fin p stk fr ch nx) := ⟨hp, fun ρ a w H => h ρ a w (H.pop trivial)⟩
theorem fin_out {cx : Cx} {fr : List (Nat × AV)} {ch : List (Nat × Chunk)} {nx : Nat} (h : EvOk cx (.fin True [] fr ch nx)) : Good cx ⟨[.lend (cx.Q .normal)], fr, ch, nx⟩ := fun ρ a w H => h.2 ρ a w (H.pop trivial)
theorem lend_in {cx : Cx} {p : Prop} {J : Act → World → Prop} {stk : List K} {fr : List (Nat × AV)} {ch : List (Nat × Chunk)} {nx : Nat} (hp : p) (h : Good cx ⟨[.lend J], fr, ch, nx⟩) : EvOk cx (.lend p J stk fr ch nx) := ⟨hp, fun ρ a w H => h ρ a w (H.pop trivial)⟩
theorem lend_out {cx : Cx} {J : Act → World → Prop} {fr : List (Nat × AV)} {ch : List (Nat × Chunk)} {nx : Nat} (h : EvOk cx (.lend True J [] fr ch nx)) : Good cx ⟨[.lend J], fr, ch, nx⟩ := fun ρ a w H => h.2 ρ a w (H.pop trivial)
theorem ev_more {cx : Cx} {p : Prop} {stk : List K} {fr : List (Nat × AV)} {ch : List (Nat × Chunk)} {nx : Nat} (hp : p) (h : Good cx ⟨stk, fr, ch, nx⟩) : EvOk cx (.more p stk fr ch nx) := ⟨hp, h⟩
/-- ahead of a loop: what is known is laid otherwise -/
theorem loop_in {cx : Cx} {p : Prop} {body : ACode} {stk : List K} {fr : List (Nat × AV)} {ch : List (Nat × Chunk)} {nx : Nat} (hp : p) (h : Good cx ⟨.code (.loop body) :: stk, fr, ch, nx⟩) : EvOk cx (.loop p body stk fr ch nx) := by
  refine ⟨hp, fun ρ a w H cc hc => ?_⟩
  exact h ρ a w (H.pop trivial) (.loop cc) (by simp [comp, hc])

theorem lkn_len {ρ : List Nat} : ∀ {π ρ' : List Nat}, lkn ρ π = some ρ' → ρ'.length = π.length := lkn_get'

/-- names n .. are laid over a state, by names of their own -/
theorem lay_over {ρ σ bs : List Nat} {nx m : Nat} {ns : List Nat} {q : Nat → Chunk} {g : Nat → Chunk} {u : List (Nat × Chunk)} {h : Hp} (hn : ρ.length = nx) (hσ : σ.length = m) (hns : ∀ c ∈ ns, c < nx) (hl : lkn ρ ns = some bs)
    (hu : upL q (ns ++ newN nx m) 0 (ns ++ newN nx m) = some u) (H : star (big (bs ++ σ) q (bs.length + m)) (big ρ g nx) h) :
    big (ρ ++ σ) (applyU u fun i => if i < nx then g i else .gone) (nx + m) h := by
  have hl' : lkn (ρ ++ σ) (ns ++ newN nx m) = some (bs ++ σ) := by
    have h1 := lkn_new (ρ := ρ) (σ := σ) m 0 (by omega)
    rw [Nat.add_zero, List.drop_zero, hn] at h1
    exact lkn_app (lkn_ext (σ := σ) hl) h1
  have hlen : (ns ++ newN nx m).length = bs.length + m := by rw [List.length_append, newN_length, lkn_len hl]
  have h0 : star (big ρ g nx) (bigT (bs ++ σ) q emp 0 (ns ++ newN nx m).length) h := by
    rw [hlen]
    refine star_comm (star_mono (fun y hy => ?_) (fun _ y => y) H)
    have hy' : big (bs ++ σ) q (0 + (bs.length + m)) y := by rw [Nat.zero_add]; exact hy
    exact big_to_T hy'
  have h1 := bigT_in h0
  have h2 : bigT (bs ++ σ) q (star (big (ρ ++ σ) (fun i => if i < nx then g i else .gone) (nx + m)) emp) 0 (ns ++ newN nx m).length h := by
    refine bigT_mono (fun y hy => star_mono (fun z hz => ?_) (fun _ z => z) hy) h1
    refine big_more (fun i hi => by simp [Nat.not_lt.2 hi]) ?_
    rwa [big_congr (g' := fun i => if i < nx then g i else .gone) (fun i hi => by simp [hi])] at hz
  have h3 := backT hl' hu (fun j c hj => ⟨by simpa using hj, by
    rcases List.mem_append.1 (List.mem_of_getElem? hj) with hm | hm
    · have := hns c hm; omega
    · have := (newN_mem hm).2; omega⟩) h2
  obtain ⟨a, b, _, la, _, ha, _⟩ := h3
  exact big_le ha la

/-- a packed predicate is opened -/
theorem open_pk {cx : Cx} {stk : List K} {fr : List (Nat × AV)} {ch : List (Nat × Chunk)} {nx : Nat} (c : Nat) {ns : List Nat} {A : List Nat → HProp} {X : Type} {m : X → Nat} {chs : X → List (Nat × Chunk)} {u : X → List (Nat × Chunk)}
    (hlk : lookc ch c = .pred ns A) (hA : ∀ bs h, A bs h → pkx m chs bs h) (hc : Nat.blt c nx = true) (hns : (ns.all fun j => Nat.blt j nx) = true) (hs : ∀ x, stabK stk (u x ++ (c, .gone) :: ch))
    (hu : ∀ x, upL (lookc (chs x)) (ns ++ newN nx (m x)) 0 (ns ++ newN nx (m x)) = some (u x)) (hG : ∀ x, Good cx ⟨stk, fr, u x ++ (c, .gone) :: ch, nx + m x⟩) : Good cx ⟨stk, fr, ch, nx⟩ := by
  refine Good.turns (fr' := fun _ => fr) (ch' := fun x => u x ++ (c, .gone) :: ch) (nx' := fun x => nx + m x) hs ?_ hG
  rintro ρ a w hn hF ⟨h, hle, hh⟩
  have hcn : c < nx := by simpa using hc
  have hns' : ∀ j ∈ ns, j < nx := fun j hj => by have := List.all_eq_true.1 hns j hj; simpa using this
  obtain ⟨p, q, d, lp, lq, hp, hq⟩ := big_out hcn hh
  rw [hlk] at hp
  obtain ⟨bs, hbs, hp⟩ := hp
  obtain ⟨x, σ, hσ, hb⟩ := hA bs p hp
  refine ⟨x, ρ ++ σ, ⟨σ, rfl⟩, by simp [hn, hσ], hF.ext σ, h, hle, ?_⟩
  have := lay_over (g := upd (lookc ch) c .gone) hn hσ hns' hbs (hu x) ⟨p, q, d, lp, lq, hb, hq⟩
  rw [lookc_append, lookc_cons]
  rwa [big_congr (g' := applyU (u x) (upd (lookc ch) c .gone)) (fun i hi => applyU_congr ?_)] at this
  by_cases hi' : i < nx
  · right; simp [hi']
  · left
    exact upL_keys (hu x) i (List.mem_append_right _ (mem_newN (by omega) hi))

/-- named chunks are packed -/
theorem close_pk {cx : Cx} {stk : List K} {fr : List (Nat × AV)} {ch : List (Nat × Chunk)} {nx : Nat} (c : Nat) (ns ds : List Nat) {A : List Nat → HProp} {X : Type} {m : X → Nat} {chs : X → List (Nat × Chunk)} (x : X)
    (hA : ∀ bs h, pk (m x) (chs x) bs h → A bs h) (hc : Nat.blt c nx = true) (hm : Nat.beq ds.length (m x) = true) (hlt : ((ns ++ ds).all fun j => Nat.blt j nx) = true) (hnd : nodupB (ns ++ ds) = true) (hs : stabK stk ((c, .pred ns A) :: ((ns ++ ds).map (fun j => (j, .gone)) ++ ch)))
    (hfit : FitCh ch (ns ++ ds) (chs x) 0 (ns ++ ds)) (hG : Good cx ⟨stk, fr, (c, .pred ns A) :: ((ns ++ ds).map (fun j => (j, .gone)) ++ ch), nx⟩) : Good cx ⟨stk, fr, ch, nx⟩ := by
  refine Good.turns (X := Unit) (fr' := fun _ => fr) (ch' := fun _ => (c, .pred ns A) :: ((ns ++ ds).map (fun j => (j, .gone)) ++ ch)) (nx' := fun _ => nx) (fun _ => hs) ?_ (fun _ => hG)
  rintro ρ a w hn hF ⟨h, hle, hh⟩
  have hcn : c < nx := by simpa using hc
  have hlt' : ∀ j ∈ ns ++ ds, j < nx := fun j hj => by have := List.all_eq_true.1 hlt j hj; simpa using this
  refine ⟨(), ρ, ⟨[], by simp⟩, hn, hF, h, hle, ?_⟩
  obtain ⟨bs, hbs, hbl⟩ := lkn_of_lt (ρ := ρ) (π := ns) (fun j hj => by rw [hn]; exact hlt' j (List.mem_append_left _ hj))
  obtain ⟨σ, hσ, hσl⟩ := lkn_of_lt (ρ := ρ) (π := ds) (fun j hj => by rw [hn]; exact hlt' j (List.mem_append_right _ hj))
  have hl := lkn_app hbs hσ
  have h1 := pickT (q := lookc (chs x)) (g := lookc ch) (N := nx) hl (π := ns ++ ds) (i := 0) (fun j z hj => ⟨by simpa using hj, hlt' z (List.mem_of_getElem? hj), hfit.get hj⟩) (nodupB_nodup hnd) hh
  have h2 := bigT_out (bigT_mono (fun y hy => star_emp hy) h1)
  have h3 : star (big (bs ++ σ) (lookc (chs x)) (bs.length + m x)) (big ρ (applyU ((ns ++ ds).map fun j => (j, .gone)) (lookc ch)) nx) h := by
    refine star_comm (star_mono (fun _ y => y) (fun y hy => ?_) h2)
    have : big (bs ++ σ) (lookc (chs x)) (0 + (ns ++ ds).length) y := big_of_T hy
    rwa [Nat.zero_add, List.length_append, ← hbl, Nat.eq_of_beq_eq_true hm] at this
  rw [lookc_cons, lookc_append]
  refine big_in hcn _ (star_mono (fun y hy => ⟨bs, hbs, hA bs y ⟨σ, by rw [hσl]; exact Nat.eq_of_beq_eq_true hm, hy⟩⟩) (fun y hy => big_drop hy) h3)

/-! ### blocks known by their numbers -/
/-- name c stands for block b -/
def isB (c b : Nat) : Chunk := .pred [c] fun l _ => l = [b]
theorem isB_get {ρ : List Nat} {c b i : Nat} {h : Hp} (H : (isB c b).hp ρ i h) : ρ[c]? = some b := by
  obtain ⟨l, hl, rfl⟩ := H
  simp only [lkn, Option.bind_eq_some_iff, Option.map_eq_some_iff] at hl
  obtain ⟨b', h1, t, h2, h3⟩ := hl
  simp only [Option.some.injEq] at h2
  subst h2
  cases h3; exact h1
theorem isB_mk {ρ : List Nat} {c b i : Nat} {h : Hp} (H : ρ[c]? = some b) : (isB c b).hp ρ i h := ⟨[b], by simp [lkn, H], rfl⟩
/-- the block of a name gets a number -/
theorem name_is {cx : Cx} {stk : List K} {fr : List (Nat × AV)} {ch : List (Nat × Chunk)} {nx : Nat} (c : Nat) (hc : Nat.blt c nx = true) (hs : ∀ b, stabK stk ((nx, isB c b) :: ch))
    (hG : ∀ b, Good cx ⟨stk, fr, (nx, isB c b) :: ch, nx + 1⟩) : Good cx ⟨stk, fr, ch, nx⟩ := by
  refine Good.turns (fr' := fun _ => fr) (ch' := fun b => (nx, isB c b) :: ch) (nx' := fun _ => nx + 1) hs ?_ hG
  rintro ρ a w hn hF hS
  have hcn : c < nx := by simpa using hc
  have hb : ρ[c]? = some ρ[c] := List.getElem?_eq_getElem (by omega)
  refine ⟨ρ[c], ρ ++ [0], ⟨[0], rfl⟩, by simp [hn], hF.ext _, hS.mono fun h hh => ?_⟩
  simp only [big, lookc_cons, upd_same]
  rw [big_congr (g' := lookc ch) (fun i hi => by simp [upd, Nat.ne_of_lt hi])]
  exact star_comm (star_mono (fun _ y => big_ext y) (fun y _ => isB_mk (getElem?_ext hb _)) (star_emp hh))
/-- a slot holds what is the same by another word -/
theorem recast {cx : Cx} {stk : List K} {fr : List (Nat × AV)} {ch : List (Nat × Chunk)} {nx : Nat} (s k : Nat) {c b : Nat} {v v' : AV} (hk : lookc ch k = isB c b) (hkn : Nat.blt k nx = true) (hv : look fr s = some v) (hs : stabK stk (ch))
    (he : ∀ ρ : List Nat, ρ[c]? = some b → v.ev ρ = v'.ev ρ) (hG : Good cx ⟨stk, (s, v') :: fr, ch, nx⟩) : Good cx ⟨stk, fr, ch, nx⟩ := by
  refine Good.turns (X := Unit) (fr' := fun _ => (s, v') :: fr) (ch' := fun _ => ch) (nx' := fun _ => nx) (fun _ => hs) ?_ (fun _ => hG)
  rintro ρ a w hn hF hS
  refine ⟨(), ρ, ⟨[], by simp⟩, hn, ?_, hS⟩
  have hkn' : k < nx := by simpa using hkn
  obtain ⟨h, _, hh⟩ := hS.big hkn'
  rw [hk] at hh
  have hb := isB_get hh
  intro i x hx
  by_cases e : s = i
  · subst e
    rw [look_cons_same] at hx
    cases hx
    obtain ⟨y, h1, h2⟩ := hF s v hv
    exact ⟨y, by rw [← he ρ hb]; exact h1, h2⟩
  · rw [look_cons_ne e] at hx
    exact hF i x hx
/-- one chunk by another word -/
theorem rechunk {cx : Cx} {stk : List K} {fr : List (Nat × AV)} {ch : List (Nat × Chunk)} {nx : Nat} (k : Nat) (x : Chunk) (hkn : Nat.blt k nx = true) (hs : stabK stk ((k, x) :: ch))
    (he : ∀ ρ h, (lookc ch k).hp ρ k h → x.hp ρ k h) (hG : Good cx ⟨stk, fr, (k, x) :: ch, nx⟩) : Good cx ⟨stk, fr, ch, nx⟩ := by
  refine Good.turns (X := Unit) (fr' := fun _ => fr) (ch' := fun _ => (k, x) :: ch) (nx' := fun _ => nx) (fun _ => hs) ?_ (fun _ => hG)
  rintro ρ a w hn hF hS
  have hkn' : k < nx := by simpa using hkn
  refine ⟨(), ρ, ⟨[], by simp⟩, hn, hF, hS.mono fun h hh => ?_⟩
  rw [lookc_cons]
  exact big_in hkn' x (star_mono (fun y hy => he ρ y hy) (fun _ y => y) (big_out hkn' hh))
/-- one chunk by another word, where a name's block is known -/
theorem rechunkB {cx : Cx} {stk : List K} {fr : List (Nat × AV)} {ch : List (Nat × Chunk)} {nx : Nat} (k e : Nat) {c b : Nat} (x : Chunk) (hk : lookc ch e = isB c b) (hen : Nat.blt e nx = true) (hkn : Nat.blt k nx = true) (hs : stabK stk ((k, x) :: ch))
    (he : ∀ ρ h, ρ[c]? = some b → (lookc ch k).hp ρ k h → x.hp ρ k h) (hG : Good cx ⟨stk, fr, (k, x) :: ch, nx⟩) : Good cx ⟨stk, fr, ch, nx⟩ := by
  refine Good.turns (X := Unit) (fr' := fun _ => fr) (ch' := fun _ => (k, x) :: ch) (nx' := fun _ => nx) (fun _ => hs) ?_ (fun _ => hG)
  rintro ρ a w hn hF hS
  have hkn' : k < nx := by simpa using hkn
  have hen' : e < nx := by simpa using hen
  obtain ⟨h0, _, hh0⟩ := hS.big hen'
  rw [hk] at hh0
  have hb := isB_get hh0
  refine ⟨(), ρ, ⟨[], by simp⟩, hn, hF, hS.mono fun h hh => ?_⟩
  rw [lookc_cons]
  exact big_in hkn' x (star_mono (fun y hy => he ρ y hb hy) (fun _ y => y) (big_out hkn' hh))

/-- out of a great resource: one block's part, by a name of its own -/
theorem take_out {cx : Cx} {stk : List K} {fr : List (Nat × AV)} {ch : List (Nat × Chunk)} {nx : Nat} (k : Nat) {A C : HProp} {B : List Nat → HProp} (b : Nat) (hk : lookc ch k = frm A) (hkn : Nat.blt k nx = true) (hs : stabK stk ((nx, .pred [nx] B) :: (nx + 1, isB nx b) :: (k, frm C) :: ch))
    (he : ∀ h, A h → star (B [b]) C h) (hG : Good cx ⟨stk, fr, (nx, .pred [nx] B) :: (nx + 1, isB nx b) :: (k, frm C) :: ch, nx + 2⟩) : Good cx ⟨stk, fr, ch, nx⟩ := by
  refine Good.turns (X := Unit) (fr' := fun _ => fr) (ch' := fun _ => (nx, .pred [nx] B) :: (nx + 1, isB nx b) :: (k, frm C) :: ch) (nx' := fun _ => nx + 2) (fun _ => hs) ?_ (fun _ => hG)
  rintro ρ a w hn hF hS
  have hkn' : k < nx := by simpa using hkn
  have hget : (ρ ++ [b, 0])[nx]? = some b := by rw [List.getElem?_append_right (by omega)]; simp [hn]
  refine ⟨(), ρ ++ [b, 0], ⟨[b, 0], rfl⟩, by simp [hn], hF.ext _, hS.mono fun h hh => ?_⟩
  have h1 := big_out hkn' hh
  rw [hk] at h1
  have h2 : star (star (B [b]) C) (big ρ (upd (lookc ch) k .gone) nx) h := star_mono (fun y hy => he y (by obtain ⟨_, _, hy⟩ := hy; exact hy)) (fun _ y => y) h1
  have h3 := star_assoc h2
  show star _ (star _ (big _ _ nx)) h
  rw [big_congr (g' := upd (lookc ch) k (frm C)) (fun i hi => by
    rw [lookc_cons, lookc_cons, lookc_cons]; simp only [upd]
    rw [if_neg (by omega), if_neg (by omega)])]
  have e1 : lookc ((nx, .pred [nx] B) :: (nx + 1, isB nx b) :: (k, frm C) :: ch) (nx + 1) = isB nx b := by rw [lookc_cons, lookc_cons]; simp [upd]
  have e2 : lookc ((nx, .pred [nx] B) :: (nx + 1, isB nx b) :: (k, frm C) :: ch) nx = .pred [nx] B := by rw [lookc_cons]; simp [upd]
  rw [e1, e2]
  refine star_comm (star_mono (fun y hy => ?_) (fun y _ => isB_mk hget) (star_emp h3))
  refine star_mono (fun z hz => ⟨[b], by simp [lkn, hget], hz⟩) (fun z hz => ?_) hy
  exact big_in hkn' _ (star_mono (fun u hu => ⟨[], rfl, hu⟩) (fun u hu => big_ext hu) hz)
/-- back into it -/
theorem put_back {cx : Cx} {stk : List K} {fr : List (Nat × AV)} {ch : List (Nat × Chunk)} {nx : Nat} (k c e : Nat) {A C : HProp} {B : List Nat → HProp} {b : Nat} (hk : lookc ch k = frm C) (hc : lookc ch c = .pred [c] B) (hb : lookc ch e = isB c b) (hkn : Nat.blt k nx = true) (hcn : Nat.blt c nx = true) (hen : Nat.blt e nx = true)
    (hkc : Nat.beq c k = false) (hs : stabK stk ((k, frm A) :: (c, .gone) :: ch)) (he : ∀ h, star (B [b]) C h → A h) (hG : Good cx ⟨stk, fr, (k, frm A) :: (c, .gone) :: ch, nx⟩) : Good cx ⟨stk, fr, ch, nx⟩ := by
  refine Good.turns (X := Unit) (fr' := fun _ => fr) (ch' := fun _ => (k, frm A) :: (c, .gone) :: ch) (nx' := fun _ => nx) (fun _ => hs) ?_ (fun _ => hG)
  rintro ρ a w hn hF hS
  have hkn' : k < nx := by simpa using hkn
  have hcn' : c < nx := by simpa using hcn
  have hen' : e < nx := by simpa using hen
  have hkc' : k ≠ c := fun h => by subst h; simp at hkc
  obtain ⟨h0, _, hh0⟩ := hS.big hen'
  rw [hb] at hh0
  have hbb := isB_get hh0
  refine ⟨(), ρ, ⟨[], by simp⟩, hn, hF, hS.mono fun h hh => ?_⟩
  have h1 := big_out hcn' hh
  rw [hc] at h1
  have h2 : star ((Chunk.pred [c] B).hp ρ c) (star ((upd (lookc ch) c .gone k).hp ρ k) (big ρ (upd (upd (lookc ch) c .gone) k .gone) nx)) h := star_mono (fun _ y => y) (fun y hy => big_out hkn' hy) h1
  rw [show upd (lookc ch) c .gone k = frm C by simp [upd, hkc', hk]] at h2
  rw [lookc_cons, lookc_cons]
  refine big_in hkn' _ (star_mono (fun y hy => ⟨[], rfl, he y (star_mono (fun z hz => ?_) (fun z hz => ?_) hy)⟩) (fun _ y => y) (star_assoc' h2))
  · obtain ⟨l, hl, hz⟩ := hz
    simp only [lkn, hbb, Option.bind_some, Option.map_some, Option.some.injEq] at hl
    subst hl; exact hz
  · obtain ⟨_, _, hz⟩ := hz; exact hz
end Sx
