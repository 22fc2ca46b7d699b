/- Contracts over abstract states: what a function does to named blocks, and what it hands over anew. -/
import Derived.Test.YtolcobhaghdfcaaOps
namespace Sx
open Go

/-! ### names taken out of a state, and put back -/
def bigT (ρ : List Nat) (q : Nat → Chunk) (B : HProp) : Nat → Nat → HProp
  | _, 0 => B
  | i, n + 1 => star ((q i).hp ρ i) (bigT ρ q B (i + 1) n)
theorem bigT_mono {ρ : List Nat} {q : Nat → Chunk} {B B' : HProp} (hb : Ent B B') : ∀ {n i : Nat} {h : Hp}, bigT ρ q B i n h → bigT ρ q B' i n h
  | 0, _, _, H => hb _ H
  | _ + 1, _, _, H => star_mono (fun _ x => x) (fun _ x => bigT_mono hb x) H
theorem bigT_out {ρ : List Nat} {q : Nat → Chunk} {A B : HProp} : ∀ {n i : Nat} {h : Hp}, bigT ρ q (star A B) i n h → star A (bigT ρ q B i n) h
  | 0, _, _, H => H
  | _ + 1, _, _, H => star_left_comm (star_mono (fun _ x => x) (fun _ x => bigT_out x) H)
theorem bigT_in {ρ : List Nat} {q : Nat → Chunk} {A B : HProp} : ∀ {n i : Nat} {h : Hp}, star A (bigT ρ q B i n) h → bigT ρ q (star A B) i n h
  | 0, _, _, H => H
  | _ + 1, _, _, H => star_mono (fun _ x => x) (fun _ x => bigT_in x) (star_left_comm H)
theorem big_of_T {ρ : List Nat} {q : Nat → Chunk} : ∀ {n i : Nat} {h : Hp}, bigT ρ q (big ρ q i) i n h → big ρ q (i + n) h
  | 0, _, _, H => H
  | n + 1, i, h, H => by
    have h1 : bigT ρ q (big ρ q (i + 1)) (i + 1) n h := bigT_in H
    have := big_of_T h1
    rwa [show i + (n + 1) = i + 1 + n by omega]
theorem big_to_T {ρ : List Nat} {q : Nat → Chunk} : ∀ {n i : Nat} {h : Hp}, big ρ q (i + n) h → bigT ρ q (big ρ q i) i n h
  | 0, _, _, H => H
  | n + 1, i, h, H => by
    rw [show i + (n + 1) = i + 1 + n by omega] at H
    exact bigT_out (big_to_T H)
theorem big_drop {ρ : List Nat} {g : Nat → Chunk} {c : Nat} : ∀ {n : Nat} {h : Hp}, big ρ g n h → big ρ (upd g c .gone) n h
  | 0, _, _ => trivial
  | n + 1, _, H => star_mono (fun x hx => by
      by_cases e : n = c
      · subst e; rw [upd_same]; trivial
      · rw [show upd g c .gone n = g n by simp [upd, e]]; exact hx) (fun _ x => big_drop x) H
theorem big_more {ρ σ : List Nat} {g : Nat → Chunk} {n : Nat} : ∀ {m : Nat} {h : Hp}, (∀ i, n ≤ i → g i = .gone) → big ρ g n h → big (ρ ++ σ) g (n + m) h
  | 0, _, _, H => big_ext H
  | m + 1, _, hg, H => by
    show star ((g (n + m)).hp (ρ ++ σ) (n + m)) (big (ρ ++ σ) g (n + m)) _
    rw [hg (n + m) (by omega)]
    exact star_comm (star_mono (fun _ x => x) (fun _ _ => trivial) (star_emp (big_more hg H)))
def applyU : List (Nat × Chunk) → (Nat → Chunk) → Nat → Chunk
  | [], g => g
  | (c, d) :: r, g => upd (applyU r g) c d
theorem applyU_out {u : List (Nat × Chunk)} {g : Nat → Chunk} {i : Nat} (h : ∀ p ∈ u, p.1 ≠ i) : applyU u g i = g i := by
  induction u with
  | nil => rfl
  | cons p r ih =>
    obtain ⟨c, d⟩ := p
    have h1 := h (c, d) (by simp)
    simp only [applyU, upd, if_neg (Ne.symm h1)]
    exact ih fun q hq => h q (by simp [hq])
theorem applyU_congr {u : List (Nat × Chunk)} {g g' : Nat → Chunk} {i : Nat} (h : (∃ p ∈ u, p.1 = i) ∨ g i = g' i) : applyU u g i = applyU u g' i := by
  induction u with
  | nil => rcases h with ⟨p, hp, _⟩ | h
           · cases hp
           · exact h
  | cons p r ih =>
    obtain ⟨c, d⟩ := p
    simp only [applyU, upd]
    split
    · rfl
    · rename_i hne
      refine ih ?_
      rcases h with ⟨q, hq, e⟩ | h
      · rcases List.mem_cons.1 hq with rfl | hq
        · exact absurd e.symm hne
        · exact .inl ⟨q, hq, e⟩
      · exact .inr h
theorem lookc_append {u ch : List (Nat × Chunk)} : lookc (u ++ ch) = applyU u (lookc ch) := by
  induction u with
  | nil => rfl
  | cons p r ih => obtain ⟨c, d⟩ := p; rw [List.cons_append, lookc_cons, ih]; rfl
theorem Chunk.ren_hp' {ρ π ρ' : List Nat} (hl : lkn ρ π = some ρ') {i j : Nat} (hij : π[i]? = some j) {c d : Chunk} (h : c.ren π = some d) {x : Hp} (H : c.hp ρ' i x) : d.hp ρ j x := by
  have hget := lkn_get hl hij
  cases c with
  | cells cs T =>
    simp only [Chunk.ren] at h
    split at h
    · rename_i y hy; cases h
      obtain ⟨b, vs, h1, h2, h3⟩ := H
      exact ⟨b, vs, by rw [← hget]; exact h1, by rw [← (AV.rens_ev hl cs y hy).2]; exact h2, h3⟩
    · cases h
  | sym vs T => cases h; obtain ⟨b, h1, h3⟩ := H; exact ⟨b, by rw [← hget]; exact h1, h3⟩
  | obj o => cases h; obtain ⟨b, h1, h3⟩ := H; exact ⟨b, by rw [← hget]; exact h1, h3⟩
  | pred ns A =>
    simp only [Chunk.ren] at h
    split at h
    · rename_i ms hms; cases h
      obtain ⟨bs, h1, h3⟩ := H
      exact ⟨bs, by rw [← renN_ev hl hms]; exact h1, h3⟩
    · cases h
  | gone => cases h; trivial
theorem pickT {ρ ρ' π0 : List Nat} {N : Nat} {q g : Nat → Chunk} (hl : lkn ρ π0 = some ρ') : ∀ {π : List Nat} {i : Nat} {h : Hp}, (∀ j c, π[j]? = some c → π0[i + j]? = some c ∧ c < N ∧ (q (i + j)).ren π0 = some (g c)) → π.Nodup →
    big ρ g N h → bigT ρ' q (big ρ (applyU (π.map fun c => (c, .gone)) g) N) i π.length h
  | [], _, _, _, _, H => H
  | c :: r, i, h, hc, hnd, H => by
    have hnd' := List.nodup_cons.1 hnd
    have ih := pickT hl (π := r) (i := i + 1) (fun j x hx => by
      have := hc (j + 1) x (by simpa using hx)
      rwa [show i + (j + 1) = i + 1 + j by omega] at this) hnd'.2 H
    obtain ⟨h1, h2, h3⟩ := hc 0 c (by simp)
    refine star_mono (fun x hx => ?_) (fun x hx => hx) (bigT_out (bigT_mono (fun x hx => big_out h2 hx) ih))
    rw [applyU_out (fun p hp e => by
      obtain ⟨y, hy, rfl⟩ := List.mem_map.1 hp
      exact hnd'.1 (e ▸ hy))] at hx
    exact Chunk.ren_hp hl (by simpa using h1) (by simpa using h3) hx
def upL (q : Nat → Chunk) (π0 : List Nat) : Nat → List Nat → Option (List (Nat × Chunk))
  | _, [] => some []
  | i, c :: r => match (q i).ren π0, upL q π0 (i + 1) r with | some d, some t => some ((c, d) :: t) | _, _ => none
theorem backT {R ρ' π0 : List Nat} {N : Nat} {q : Nat → Chunk} (hl : lkn R π0 = some ρ') : ∀ {π : List Nat} {u : List (Nat × Chunk)} {i : Nat} {h : Hp} {G : Nat → Chunk}, upL q π0 i π = some u → (∀ j c, π[j]? = some c → π0[i + j]? = some c ∧ c < N) →
    bigT ρ' q (star (big R G N) emp) i π.length h → star (big R (applyU u G) N) emp h
  | [], u, _, _, _, hu, _, H => by simp only [upL, Option.some.injEq] at hu; subst hu; exact H
  | c :: r, u, i, h, G, hu, hc, H => by
    simp only [upL] at hu
    split at hu
    · rename_i d t hd ht
      cases hu
      obtain ⟨h1, h2⟩ := hc 0 c (by simp)
      have h3 := star_assoc' (star_mono (fun _ x => x) (fun _ x => backT hl ht (fun j x hx => by
        have := hc (j + 1) x (by simpa using hx)
        rwa [show i + (j + 1) = i + 1 + j by omega] at this) x) H)
      exact star_mono (fun x hx => big_in h2 d (star_mono (fun y hy => Chunk.ren_hp' hl (by simpa using h1) hd hy) (fun y hy => big_drop hy) hx)) (fun _ x => x) h3
    · cases hu
theorem upL_keys {q : Nat → Chunk} {π0 : List Nat} : ∀ {π : List Nat} {i : Nat} {u : List (Nat × Chunk)}, upL q π0 i π = some u → ∀ c ∈ π, ∃ p ∈ u, p.1 = c
  | [], _, _, _, c, hc => by cases hc
  | a :: r, i, u, hu, c, hc => by
    simp only [upL] at hu
    split at hu
    · rename_i d t hd ht
      cases hu
      rcases List.mem_cons.1 hc with rfl | hc
      · exact ⟨_, List.mem_cons_self, rfl⟩
      · obtain ⟨p, hp, e⟩ := upL_keys ht c hc
        exact ⟨p, List.mem_cons_of_mem _ hp, e⟩
    · cases hu

/-! ### contracts -/
def ACtr (P : Program) (f : Nat) (n : Nat) (avs : List AV) (pre : List (Nat × Chunk)) {X : Type} (m : X → Nat) (rv : X → AV) (post : X → List (Nat × Chunk)) : Prop :=
  ∀ (F : HProp) (ρ : List Nat) (vs : List Value) (w : World), ρ.length = n → AV.evs ρ avs = some vs → Sat (big ρ (lookc ((0, frm F) :: pre)) n) w →
    CallOk P f vs w fun v w' => Env w w' ∧ ∃ x σ, σ.length = m x ∧ (rv x).ev (ρ ++ σ) = some v ∧ Sat (big (ρ ++ σ) (lookc ((0, frm F) :: post x)) (n + m x)) w'
def nms (b : Nat → Nat) : Nat → Nat → List Nat
  | _, 0 => []
  | k, n + 1 => b k :: nms b (k + 1) n
theorem nms_length {b : Nat → Nat} : ∀ (n k : Nat), (nms b k n).length = n
  | 0, _ => rfl
  | n + 1, k => by simp [nms, nms_length n]
theorem nms_of {ρ : List Nat} : ∀ (n k : Nat), n + k = ρ.length → nms (fun i => ρ.getD i 0) k n = ρ.drop k
  | 0, k, h => by simp [nms, List.drop_of_length_le (Nat.le_of_eq (by omega : ρ.length = k))]
  | n + 1, k, h => by
    have hlt : k < ρ.length := by omega
    rw [nms, nms_of n (k + 1) (by omega)]
    simp [List.getD_eq_getElem?_getD, hlt]
def postA {X : Type} (F : HProp) (w0 : World) (r0 : List Nat) (m : X → Nat) (rv : X → AV) (post : X → List (Nat × Chunk)) : Ending → World → Prop :=
  fun e w' => ∃ v, e = .returned v ∧ Env w0 w' ∧ ∃ x σ, σ.length = m x ∧ (rv x).ev (r0 ++ σ) = some v ∧ Sat (big (r0 ++ σ) (lookc ((0, frm F) :: post x)) (r0.length + m x)) w'
theorem actr_of {P : Program} {tb : Tb} {f : Nat} {fn : Func} {ac : ACode} (hf : P.funcs[f]? = some fn) (hb' : fn.body.isSome = true) (hnm : (fn.name == "runtime.NumGoroutine") = false) {N : Nat} (hNt : fn.ntmps = N) (hc : comp tb N (fn.body.getD .skip) = some ac)
    {n : Nat} {avs : List AV} {pre : List (Nat × Chunk)} {X : Type} {m : X → Nat} {rv : X → AV} {post : X → List (Nat × Chunk)} (hN : Nat.ble avs.length N = true)
    (hgood : ∀ (F : HProp) (w0 : World) (b : Nat → Nat), Good ⟨P, tb, N, bodyPost P fn (postA F w0 (nms b 0 n) m rv post), w0, nms b 0 n, [], none⟩ ⟨[.code ac], frOf 0 avs, (0, frm F) :: pre, n⟩) : ACtr P f n avs pre m rv post := by
  subst hNt
  intro F ρ args w hlen0 hargs hs
  obtain ⟨c, hb⟩ := Option.isSome_iff_exists.1 hb'
  rw [hb, Option.getD_some] at hc
  have hr0 : nms (fun i => ρ.getD i 0) 0 n = ρ := by rw [nms_of n 0 (by omega), List.drop_zero]
  refine .inl ⟨?_, ?_⟩
  · have hnm' : ¬ fn.name = "runtime.NumGoroutine" := by simpa using hnm
    simp [callFunc, hf, hnm', hb]
  · have hlen := evs_length hargs
    have hN' : avs.length ≤ fn.ntmps := Nat.le_of_ble_eq_true hN
    refine calls_of_wp hf hb (wpIn_wide (n := 0).1 ?_)
    have hG := hgood F w (fun i => ρ.getD i 0)
    rw [hr0] at hG
    have hD := hG ρ { tmps := args.toArray ++ Array.replicate (fn.ntmps - args.toArray.size) undef, defers := [] } w
      ⟨by simp; omega, rfl, hlen0, ?_, hs, ⟨Env.refl w, ⟨[], by simp⟩⟩, trivial⟩ c hc
    · refine wpIn_mono hD fun e a' w' hh => ?_
      have key : ∀ e, bodyPost P fn (postA F w ρ m rv post) e a' w' → bodyPost P fn (fun e w' => ∃ v, e = .returned v ∧ Env w w' ∧ ∃ x σ, σ.length = m x ∧ (rv x).ev (ρ ++ σ) = some v ∧ Sat (big (ρ ++ σ) (lookc ((0, frm F) :: post x)) (n + m x)) w') e a' w' := by
        intro e he
        have hpost : ∀ e w', postA F w ρ m rv post e w' → ∃ v, e = .returned v ∧ Env w w' ∧ ∃ x σ, σ.length = m x ∧ (rv x).ev (ρ ++ σ) = some v ∧ Sat (big (ρ ++ σ) (lookc ((0, frm F) :: post x)) (n + m x)) w' := fun e w' h => by
          rw [postA, hlen0] at h; exact h
        cases e with
        | normal => exact ⟨he.1, he.2.choose, he.2.choose_spec.1, hpost _ _ he.2.choose_spec.2⟩
        | ret => exact ⟨he.1, he.2.choose, he.2.choose_spec.1, hpost _ _ he.2.choose_spec.2⟩
        | panic c => exact ⟨he.1, hpost _ _ he.2⟩
        | outgrown => exact hpost _ _ he
        | exit id => exact he
        | goto l => exact he
      cases e with
      | normal => exact key _ hh
      | ret => exact key _ hh
      | exit id => exact hh.elim
      | goto l => exact hh.elim
      | panic c => exact hh.elim
      | outgrown => exact hh.elim
    · intro s v hv
      obtain ⟨x, h1, _, h2⟩ := frOf_ok hargs hv
      refine ⟨x, h1, ?_⟩
      rw [Nat.sub_zero] at h2
      obtain ⟨hlt, h2⟩ := List.getElem?_eq_some_iff.1 h2
      simp [Array.getElem?_append, hlt, h2]

/-- a return: x, and by which names the new blocks go -/
theorem ret_ab {P : Program} {tb : Tb} {N : Nat} {fn : Func} {w0 : World} {r0 : List Nat} {F : HProp} {X : Type} {m : X → Nat} {rv : X → AV} {post : X → List (Nat × Chunk)} (ht : tbOk P tb = true) {p : Prop} {stk : List K} {fr : List (Nat × AV)} {ch : List (Nat × Chunk)} {nx : Nat} (hp : p)
    {l : List AV} (hres : resA tb fr ch fn.results.toList = some l) (x : X) (π : List Nat) (hlen : Nat.beq π.length (r0.length + m x) = true) (hlt : (π.all fun j => Nat.blt j nx) = true) (hnd : nodupB π = true) (hkp : keepsN r0.length 0 π = true)
    (hrv : ∃ u, AV.ren π (rv x) = some u ∧ ∀ ρ, u.ev ρ = (resV l).ev ρ) (hch : FitCh ch π ((0, frm F) :: post x) 0 π) :
    EvOk ⟨P, tb, N, bodyPost P fn (postA F w0 r0 m rv post), w0, r0, [], none⟩ (.ret p stk fr ch nx) := by
  refine ret_ok (st := ⟨stk, fr, ch, nx⟩) ht hp hres (fun ρ w y hn hy hs he => ?_) .ret (.inl rfl)
  have hlt' : ∀ j ∈ π, j < ρ.length := fun j hj => by
    have := List.all_eq_true.1 hlt j hj
    have hn' : ρ.length = nx := hn
    rw [hn']; simpa using this
  obtain ⟨ρ', hl, hl2⟩ := lkn_of_lt hlt'
  obtain ⟨σ0, hσ0⟩ := he.pre
  have hσ0' : ρ = r0 ++ σ0 := hσ0
  have hl' := hl
  rw [hσ0'] at hl'
  obtain ⟨σ, hσ⟩ := lkn_pre hl' hkp
  have hlen' : ρ'.length = r0.length + m x := by rw [hl2]; exact Nat.eq_of_beq_eq_true hlen
  refine ⟨y, rfl, he.env, x, σ, ?_, ?_, ?_⟩
  · rw [hσ, List.length_append] at hlen'; omega
  · obtain ⟨u, hu1, hu2⟩ := hrv
    rw [← hσ, (AV.ren_ev hl _ _ hu1).1, hu2]; exact hy
  · rw [← hσ, ← hlen', hl2]
    refine hs.mono fun h hh => big_pick hl π.length (lookc ch) _ h (Nat.le_refl _) (fun i j hi hj => ⟨?_, ?_⟩) ?_ hh
    · have := hlt' j (List.mem_of_getElem? hj)
      have hn' : ρ.length = nx := hn
      rw [hn'] at this; exact this
    · have := hch.get hj
      simpa using this
    · intro i i' j hi hi' h1 h2
      have hnd' := nodupB_nodup hnd
      rw [List.getElem?_eq_getElem hi] at h1
      rw [List.getElem?_eq_getElem hi'] at h2
      have : π[i] = π[i'] := by rw [Option.some.inj h1, Option.some.inj h2]
      exact (List.getElem_inj hnd').1 this

/-- the end of a body without one: x, and by which names the new blocks go -/
theorem fin_ab {P : Program} {tb : Tb} {N : Nat} {fn : Func} {w0 : World} {r0 : List Nat} {F : HProp} {X : Type} {m : X → Nat} {rv : X → AV} {post : X → List (Nat × Chunk)} (ht : tbOk P tb = true) {p : Prop} {stk : List K} {fr : List (Nat × AV)} {ch : List (Nat × Chunk)} {nx : Nat} (hp : p)
    {l : List AV} (hres : resA tb fr ch fn.results.toList = some l) (x : X) (π : List Nat) (hlen : Nat.beq π.length (r0.length + m x) = true) (hlt : (π.all fun j => Nat.blt j nx) = true) (hnd : nodupB π = true) (hkp : keepsN r0.length 0 π = true)
    (hrv : ∃ u, AV.ren π (rv x) = some u ∧ ∀ ρ, u.ev ρ = (resV l).ev ρ) (hch : FitCh ch π ((0, frm F) :: post x) 0 π) :
    EvOk ⟨P, tb, N, bodyPost P fn (postA F w0 r0 m rv post), w0, r0, [], none⟩ (.fin p stk fr ch nx) := by
  refine ret_ok (st := ⟨stk, fr, ch, nx⟩) ht hp hres (fun ρ w y hn hy hs he => ?_) .normal (.inr rfl)
  have hlt' : ∀ j ∈ π, j < ρ.length := fun j hj => by
    have := List.all_eq_true.1 hlt j hj
    have hn' : ρ.length = nx := hn
    rw [hn']; simpa using this
  obtain ⟨ρ', hl, hl2⟩ := lkn_of_lt hlt'
  obtain ⟨σ0, hσ0⟩ := he.pre
  have hσ0' : ρ = r0 ++ σ0 := hσ0
  have hl' := hl
  rw [hσ0'] at hl'
  obtain ⟨σ, hσ⟩ := lkn_pre hl' hkp
  have hlen' : ρ'.length = r0.length + m x := by rw [hl2]; exact Nat.eq_of_beq_eq_true hlen
  refine ⟨y, rfl, he.env, x, σ, ?_, ?_, ?_⟩
  · rw [hσ, List.length_append] at hlen'; omega
  · obtain ⟨u, hu1, hu2⟩ := hrv
    rw [← hσ, (AV.ren_ev hl _ _ hu1).1, hu2]; exact hy
  · rw [← hσ, ← hlen', hl2]
    refine hs.mono fun h hh => big_pick hl π.length (lookc ch) _ h (Nat.le_refl _) (fun i j hi hj => ⟨?_, ?_⟩) ?_ hh
    · have := hlt' j (List.mem_of_getElem? hj)
      have hn' : ρ.length = nx := hn
      rw [hn'] at this; exact this
    · have := hch.get hj
      simpa using this
    · intro i i' j hi hi' h1 h2
      have hnd' := nodupB_nodup hnd
      rw [List.getElem?_eq_getElem hi] at h1
      rw [List.getElem?_eq_getElem hi'] at h2
      have : π[i] = π[i'] := by rw [Option.some.inj h1, Option.some.inj h2]
      exact (List.getElem_inj hnd').1 this

def newN : Nat → Nat → List Nat
  | _, 0 => []
  | k, m + 1 => k :: newN (k + 1) m
theorem newN_length : ∀ (m k : Nat), (newN k m).length = m
  | 0, _ => rfl
  | m + 1, k => by simp [newN, newN_length m]
theorem newN_mem : ∀ {m k c : Nat}, c ∈ newN k m → k ≤ c ∧ c < k + m
  | 0, _, _, h => by cases h
  | m + 1, k, c, h => by
    rcases List.mem_cons.1 h with rfl | h
    · omega
    · have := newN_mem h; omega
theorem mem_newN : ∀ {m k c : Nat}, k ≤ c → c < k + m → c ∈ newN k m
  | 0, _, _, _, h => by omega
  | m + 1, k, c, h, h' => by
    by_cases e : c = k
    · subst e; exact List.mem_cons_self
    · exact List.mem_cons_of_mem _ (mem_newN (by omega) (by omega))
theorem lkn_app {ρ : List Nat} : ∀ {l r l' r' : List Nat}, lkn ρ l = some r → lkn ρ l' = some r' → lkn ρ (l ++ l') = some (r ++ r')
  | [], r, l', r', h, h' => by simp only [lkn, Option.some.injEq] at h; subst h; exact h'
  | c :: l, r, l', r', h, h' => by
    simp only [lkn, List.cons_append, Option.bind_eq_some_iff, Option.map_eq_some_iff] at h ⊢
    obtain ⟨b, hb, t, ht, rfl⟩ := h
    exact ⟨b, hb, t ++ r', lkn_app ht h', rfl⟩
theorem lkn_new {ρ σ : List Nat} : ∀ (m k : Nat), m + k = σ.length → lkn (ρ ++ σ) (newN (ρ.length + k) m) = some (σ.drop k)
  | 0, k, h => by simp [newN, lkn, List.drop_of_length_le (Nat.le_of_eq (by omega : σ.length = k))]
  | m + 1, k, h => by
    have hlt : k < σ.length := by omega
    have e : (ρ ++ σ)[ρ.length + k]? = some σ[k] := by rw [List.getElem?_append_right (by omega)]; simp [hlt]
    rw [newN, lkn, e, show ρ.length + k + 1 = ρ.length + (k + 1) by omega, lkn_new m (k + 1) (by omega)]
    simp
theorem lkn_get' {ρ : List Nat} : ∀ {π ρ' : List Nat}, lkn ρ π = some ρ' → ρ'.length = π.length
  | [], _, h => by simp only [lkn, Option.some.injEq] at h; subst h; rfl
  | c :: r, _, h => by
    simp only [lkn, Option.bind_eq_some_iff, Option.map_eq_some_iff] at h
    obtain ⟨b, hb, t, ht, rfl⟩ := h
    simp [lkn_get' ht]

/-- a call: the callee's names 1, 2 .. are the caller's π; what it makes goes by the next names -/
theorem call_ab {cx : Cx} {p : Prop} {d f : Nat} {args : List AV} {stk : List K} {fr : List (Nat × AV)} {ch : List (Nat × Chunk)} {nx : Nat} (hp : p) {n : Nat} {avs : List AV} {pre : List (Nat × Chunk)} {X : Type} {m : X → Nat} {rv : X → AV} {post : X → List (Nat × Chunk)}
    (hspec : ACtr cx.P f n avs pre m rv post) (π : List Nat) (hlen : Nat.beq n (π.length + 1) = true) (hlt : (π.all fun c => Nat.blt 0 c && Nat.blt c nx) = true) (hnx : Nat.blt 0 nx = true) (hnd : nodupB π = true)
    (hargs : AV.rens (0 :: π) avs = some args) (hpre : FitCh ch (0 :: π) pre 1 π) {rv' : X → AV} {u : X → List (Nat × Chunk)}
    (hret : ∀ x, AV.ren (0 :: (π ++ newN nx (m x))) (rv x) = some (rv' x)) (hu : ∀ x, upL (lookc (post x)) (0 :: (π ++ newN nx (m x))) 1 (π ++ newN nx (m x)) = some (u x))
    (hst : ∀ x, stabK stk (u x ++ ch)) (hG : ∀ x, Good cx ⟨stk, (d, rv' x) :: fr, u x ++ ch, nx + m x⟩) : EvOk cx (.call p d f args stk fr ch nx) := by
  refine ⟨hp, fun ρ a w H hd vs hvs => ?_⟩
  have hHlen : ρ.length = nx := H.len
  have hnx' : 0 < nx := by simpa using hnx
  have hlt' : ∀ c ∈ π, 0 < c ∧ c < nx := fun c hc => by
    have := List.all_eq_true.1 hlt c hc
    simpa using this
  have hnd' := nodupB_nodup hnd
  have hn : n = π.length + 1 := Nat.eq_of_beq_eq_true hlen
  obtain ⟨ρc, hl, hl2⟩ := lkn_of_lt (ρ := ρ) (π := 0 :: π) (fun j hj => by
    rcases List.mem_cons.1 hj with rfl | hj
    · omega
    · have := hlt' j hj; omega)
  have hargs' := (AV.rens_ev hl _ _ hargs).1
  rw [hvs] at hargs'
  let F' : HProp := big ρ (applyU (π.map fun c => (c, .gone)) (lookc ch)) nx
  have hin : ∀ h, big ρ (lookc ch) nx h → big ρc (lookc ((0, frm F') :: pre)) n h := fun h hh => by
    have h1 := pickT (q := lookc ((0, frm F') :: pre)) hl (π := π) (i := 1) (fun j c hj => by
      refine ⟨by rw [show 1 + j = j + 1 by omega]; simpa using hj, (hlt' c (List.mem_of_getElem? hj)).2, ?_⟩
      rw [lookc_cons]
      have : upd (lookc pre) 0 (frm F') (1 + j) = lookc pre (1 + j) := by simp [upd]
      rw [this]
      exact hpre.get hj) hnd' hh
    have h2 : bigT ρc (lookc ((0, frm F') :: pre)) (big ρc (lookc ((0, frm F') :: pre)) 1) 1 π.length h := by
      refine bigT_mono (fun x hx => ?_) h1
      show star ((lookc ((0, frm F') :: pre) 0).hp ρc 0) emp x
      rw [lookc_cons, upd_same]
      exact star_emp ⟨[], rfl, hx⟩
    have h3 := big_of_T h2
    rw [hn, Nat.add_comm π.length 1]; exact h3
  refine (hspec F' ρc vs w (by rw [hl2, hn]; simp) hargs' (H.sat.mono hin)).mono fun v w' hR => ?_
  obtain ⟨he, x, σ, hσ, hv, hs⟩ := hR
  have hl' : lkn (ρ ++ σ) (0 :: (π ++ newN nx (m x))) = some (ρc ++ σ) := by
    have h1 := lkn_new (ρ := ρ) (σ := σ) (m x) 0 (by omega)
    rw [Nat.add_zero, List.drop_zero, hHlen] at h1
    have := lkn_app (lkn_ext (σ := σ) hl) h1
    rwa [List.cons_append] at this
  refine land (σ := σ) (v := rv' x) H hd (by rw [List.length_append, hHlen, hσ]) ?_ ?_ he (hst x) (hG x)
  · rw [← (AV.ren_ev hl' _ _ (hret x)).1]; exact hv
  · refine Sat.left (B := emp) (hs.mono fun h hh => ?_)
    have hh1 : big (ρc ++ σ) (lookc ((0, frm F') :: post x)) (1 + (π.length + m x)) h := by
      rw [show 1 + (π.length + m x) = n + m x by omega]; exact hh
    have h1 := big_to_T hh1
    let G : Nat → Chunk := fun i => if i < nx then applyU (π.map fun c => (c, .gone)) (lookc ch) i else .gone
    have h2 : bigT (ρc ++ σ) (lookc ((0, frm F') :: post x)) (star (big (ρ ++ σ) G (nx + m x)) emp) 1 (π ++ newN nx (m x)).length h := by
      rw [List.length_append, newN_length]
      refine bigT_mono (fun y hy => ?_) h1
      have hy' : star ((lookc ((0, frm F') :: post x) 0).hp (ρc ++ σ) 0) emp y := hy
      rw [lookc_cons, upd_same] at hy'
      refine star_mono (fun z hz => ?_) (fun _ z => z) hy'
      obtain ⟨_, _, hz⟩ := hz
      have hz' : big ρ G nx z := by
        have : big ρ (applyU (π.map fun c => (c, .gone)) (lookc ch)) nx z := hz
        rwa [big_congr (g' := G) (fun i hi => by simp [G, hi])] at this
      exact big_more (fun i hi => by simp [G, Nat.not_lt.2 hi]) hz'
    have hu' : upL (lookc ((0, frm F') :: post x)) (0 :: (π ++ newN nx (m x))) 1 (π ++ newN nx (m x)) = some (u x) := by
      rw [← hu x]
      have : ∀ (l : List Nat) (i : Nat), 0 < i → upL (lookc ((0, frm F') :: post x)) (0 :: (π ++ newN nx (m x))) i l = upL (lookc (post x)) (0 :: (π ++ newN nx (m x))) i l := by
        intro l
        induction l with
        | nil => intro i _; rfl
        | cons c r ih =>
          intro i hi
          have e : lookc ((0, frm F') :: post x) i = lookc (post x) i := by rw [lookc_cons]; simp [upd]; omega
          simp only [upL, e, ih (i + 1) (by omega)]
      exact this _ 1 (by omega)
    have h3 := backT hl' hu' (fun j c hj => ⟨by rw [show 1 + j = j + 1 by omega]; simpa using hj, by
      rcases List.mem_append.1 (List.mem_of_getElem? hj) with hm | hm
      · have := (hlt' c hm).2; omega
      · have := (newN_mem hm).2; omega⟩) h2
    refine star_mono (fun y hy => ?_) (fun _ z => z) h3
    rw [lookc_append]
    rwa [big_congr (g' := applyU (u x) (lookc ch)) (fun i hi => applyU_congr ?_)] at hy
    by_cases hi' : i < nx
    · by_cases hm : i ∈ π
      · exact .inl (upL_keys (hu x) i (List.mem_append_left _ hm))
      · right
        simp only [G, hi', if_true]
        exact applyU_out fun q hq e => by
          obtain ⟨y, hy, rfl⟩ := List.mem_map.1 hq
          exact hm (e ▸ hy)
    · exact .inl (upL_keys (hu x) i (List.mem_append_right _ (mem_newN (by omega) hi)))
end Sx
