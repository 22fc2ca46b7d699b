/- Rules for operations that turn memory, by what they do to it; maps whose elements are rows of bytes. -/
import Derived.Test.YtolcobhaghdfcaaOwn
import Derived.MapKept
namespace Sx
open Go

theorem land0 {cx : Cx} {ρ : List Nat} {st : St} {a : Act} {w w' : World} (H : Holds cx ρ st a w) {σ : List Nat} {ch' : List (Nat × Chunk)} {nx' : Nat}
    (hn : (ρ ++ σ).length = nx') (hs : Sat (big (ρ ++ σ) (lookc ch') nx') w') (he : Env w w') (hst : stabK st.stk ch') (hG : Good cx ⟨st.stk, st.fr, ch', nx'⟩) :
    (match st.stk with | .dops true ρ0 sch _ _ :: _ => SW ρ0 sch w' | _ => True) ∧ Disp cx st.stk .normal a w' := by
  have hdr := H.dr.next (σ := σ) hst
  refine ⟨?_, hG (ρ ++ σ) _ w' ⟨H.N, H.df, hn, H.fr.ext σ, hs, (H.env.trans he).ext σ, hdr⟩⟩
  unfold DrOk at hdr
  split at hdr
  · rename_i heq
    rw [heq]
    obtain ⟨⟨τ, hρ⟩, h1, h2⟩ := hdr
    exact SW_of (cx := cx) (st := ⟨[], [], ch', nx'⟩) (a := a) hs hn hρ h1 h2
  · rename_i hno
    split
    · rename_i heq; exact (hno _ _ _ _ _ heq).elim
    · trivial

section
variable {cx : Cx} {p : Prop} {d : Nat} {T : TypeId} {o : Op} {stk : List K} {fr : List (Nat × AV)} {ch : List (Nat × Chunk)} {nx : Nat} {X : Type}
/-- an operation, by what it does -/
theorem ev_sem {rv : X → AV} {ch' : X → List (Nat × Chunk)} {m : X → Nat} (hp : p)
    (hrun : ∀ ρ (a : Act) w (O : Oper), FrOk ρ fr a → ρ.length = nx → Sat (big ρ (lookc ch) nx) w → O.op = o → O.type = T → ∃ x y w', ∃ σ : List Nat, σ.length = m x ∧ (rv x).ev (ρ ++ σ) = some y ∧
      (execOp a.eval O).run cx.P w = .ok (.value y) w' ∧ Env w w' ∧ Sat (big (ρ ++ σ) (lookc (ch' x)) (nx + m x)) w')
    (hst : ∀ x, stabK stk (ch' x)) (hG : ∀ x, Good cx ⟨stk, (d, rv x) :: fr, ch' x, nx + m x⟩) : EvOk cx (.op p (.other (some d) o T) stk fr ch nx) := by
  refine ⟨hp, fun ρ a w H O hx hop => .inl ?_⟩
  obtain ⟨h1, h2, h3⟩ := op_of_other hop
  obtain ⟨x, y, w', σ, hσ, hy, hr, he, hs⟩ := hrun ρ a w O H.fr H.len H.sat h1 h3
  rw [h2] at hx
  simp only [Oper.wp, hr, Oper.upon, h2]
  exact land (σ := σ) H hx (by simp [show ρ.length = nx from H.len, hσ]) hy hs he (hst x) (hG x)
theorem ev_sem0 {ch' : X → List (Nat × Chunk)} {m : X → Nat} (hp : p)
    (hrun : ∀ ρ (a : Act) w (O : Oper), FrOk ρ fr a → ρ.length = nx → Sat (big ρ (lookc ch) nx) w → O.op = o → O.type = T → ∃ x w', ∃ σ : List Nat, σ.length = m x ∧
      (∃ y : Next, (y = .skip ∨ ∃ v, y = .value v) ∧ (execOp a.eval O).run cx.P w = .ok y w') ∧ Env w w' ∧ Sat (big (ρ ++ σ) (lookc (ch' x)) (nx + m x)) w')
    (hst : ∀ x, stabK stk (ch' x)) (hG : ∀ x, Good cx ⟨stk, fr, ch' x, nx + m x⟩) : EvOk cx (.op p (.other none o T) stk fr ch nx) := by
  refine ⟨hp, fun ρ a w H O hx hop => .inl ?_⟩
  obtain ⟨h1, h2, h3⟩ := op_of_other hop
  obtain ⟨x, w', σ, hσ, ⟨y, hy, hr⟩, he, hs⟩ := hrun ρ a w O H.fr H.len H.sat h1 h3
  rcases hy with rfl | ⟨v, rfl⟩ <;> simp only [Oper.wp, hr, Oper.upon, h2] <;>
  exact land0 (σ := σ) H (by simp [show ρ.length = nx from H.len, hσ]) hs he (hst x) (hG x)
end

/-! ### one block is turned, where a chunk speaks of it -/
theorem Sat.take {ρ : List Nat} {ch : List (Nat × Chunk)} {nx c : Nat} {w : World} (hs : Sat (Sx.big ρ (lookc ch) nx) w) (hc : c < nx) : Sat (star ((lookc ch c).hp ρ c) (Sx.big ρ (upd (lookc ch) c .gone) nx)) w := hs.mono fun _ hh => big_out hc hh
theorem Sat.give {ρ : List Nat} {ch : List (Nat × Chunk)} {nx c : Nat} {x : Chunk} {w : World} (hs : Sat (star (x.hp ρ c) (Sx.big ρ (upd (lookc ch) c .gone) nx)) w) (hc : c < nx) : Sat (Sx.big ρ (lookc ((c, x) :: ch)) nx) w := by
  rw [lookc_cons]; exact hs.mono fun _ hh => big_in hc x hh

/-! ### maps whose elements are rows of bytes -/
abbrev Img := Int → List Int
def zs : List Int := List.replicate 64 0
def secV (s : List Int) : Value := .agg (s.map (Value.int .u8)).toArray
def putI (g : Img) (k : Int) (s : List Int) : Img := fun i => if i = k then s else g i
structure ImgIs (es : List MapEntry) (g : Img) : Prop where
  ent : ∀ e ∈ es, ∃ k, e.key = .int .i64 k ∧ e.val = secV (g k)
  nd : es.Pairwise fun a b => a.key ≠ b.key
  out : ∀ k, (∀ e ∈ es, e.key ≠ .int .i64 k) → g k = zs
  len : ∀ k, (g k).length = 64
/-- the facts of such a map's type -/
structure MapTy (P : Program) (T E : TypeId) : Prop where
  und : P.underlying T = some (.map 3 E)
  key : P.underlying 3 = some (.int .i64)
  zero : ∃ i, P.info? E = some i ∧ i.zero = some (secV zs)

theorem ImgIs.empty : ImgIs [] fun _ => zs := ⟨by simp, by simp, fun _ _ => rfl, fun _ => by simp [zs]⟩
theorem ImgIs.isKey {es : List MapEntry} {g : Img} (h : ImgIs es g) : ∀ x ∈ es, MapKept.IsKey (.int .i64) x.key := fun x hx => by
  obtain ⟨k, hk, _⟩ := h.ent x hx
  rw [hk]; rfl
theorem ImgIs.push {es : List MapEntry} {g : Img} (h : ImgIs es g) {k : Int} {s : List Int} (hs : s.length = 64) (hk : ∀ e ∈ es, e.key ≠ .int .i64 k) (n : Nat) : ImgIs (es ++ [{ key := .int .i64 k, val := secV s, born := n }]) (putI g k s) := by
  refine ⟨fun e he => ?_, ?_, fun i hi => ?_, fun i => ?_⟩
  · rcases List.mem_append.1 he with he | he
    · obtain ⟨j, h1, h2⟩ := h.ent e he
      have : j ≠ k := fun e' => hk e he (by rw [h1, e'])
      exact ⟨j, h1, by simp [putI, this, h2]⟩
    · simp only [List.mem_singleton] at he
      subst he
      exact ⟨k, rfl, by simp [putI]⟩
  · refine List.pairwise_append.2 ⟨h.nd, by simp, fun a ha b hb => ?_⟩
    simp only [List.mem_singleton] at hb
    subst hb
    exact hk a ha
  · have : i ≠ k := fun e => hi _ (List.mem_append_right _ (List.mem_singleton.2 rfl)) (by rw [e])
    simp only [putI, this, if_false]
    exact h.out i fun e he => hi e (List.mem_append_left _ he)
  · unfold putI; split
    · exact hs
    · exact h.len i
theorem nd_key {es : List MapEntry} (h : es.Pairwise fun a b => a.key ≠ b.key) {i j : Nat} {a b : MapEntry} (hi : es[i]? = some a) (hj : es[j]? = some b) (hk : a.key = b.key) : i = j := by
  obtain ⟨h1, rfl⟩ := List.getElem?_eq_some_iff.1 hi
  obtain ⟨h2, rfl⟩ := List.getElem?_eq_some_iff.1 hj
  rw [List.pairwise_iff_getElem] at h
  rcases Nat.lt_trichotomy i j with hlt | rfl | hlt
  · exact absurd hk (h i j h1 h2 hlt)
  · rfl
  · exact absurd hk.symm (h j i h2 h1 hlt)
theorem ImgIs.set {es : List MapEntry} {g : Img} (h : ImgIs es g) {k : Int} {s : List Int} (hs : s.length = 64) {j : Nat} {e0 : MapEntry} (hj : es[j]? = some e0) (hk : e0.key = .int .i64 k) :
    ImgIs (es.set j { e0 with key := .int .i64 k, val := secV s }) (putI g k s) := by
  obtain ⟨hlt, _⟩ := List.getElem?_eq_some_iff.1 hj
  have hget : ∀ (i : Nat) (e : MapEntry), (es.set j { e0 with key := .int .i64 k, val := secV s })[i]? = some e → (i = j ∧ e = { e0 with key := .int .i64 k, val := secV s }) ∨ (i ≠ j ∧ es[i]? = some e) := fun i e he => by
    rw [List.getElem?_set] at he
    by_cases hij : j = i
    · subst hij
      rw [if_pos rfl, if_pos hlt] at he
      exact .inl ⟨rfl, (Option.some.inj he).symm⟩
    · rw [if_neg hij] at he
      exact .inr ⟨Ne.symm hij, he⟩
  refine ⟨fun e he => ?_, ?_, fun i hi => ?_, fun i => ?_⟩
  · obtain ⟨i, hi⟩ := List.getElem?_of_mem he
    rcases hget i e hi with ⟨_, rfl⟩ | ⟨hne, hi'⟩
    · exact ⟨k, rfl, by simp [putI]⟩
    · obtain ⟨q, h1, h2⟩ := h.ent e (List.mem_of_getElem? hi')
      have : q ≠ k := fun e' => hne (nd_key h.nd hi' hj (by rw [h1, hk, e']))
      exact ⟨q, h1, by simp [putI, this, h2]⟩
  · rw [List.pairwise_iff_getElem]
    intro a b ha hb hab
    have h1 := List.getElem?_eq_getElem ha
    have h2 := List.getElem?_eq_getElem hb
    have h3 := List.pairwise_iff_getElem.1 h.nd
    rcases hget a _ h1 with ⟨e1, e2⟩ | ⟨e1, e2⟩ <;> rcases hget b _ h2 with ⟨e3, e4⟩ | ⟨e3, e4⟩
    · omega
    · rw [e2]
      intro he
      exact e3 (nd_key h.nd e4 hj (by rw [← he, hk]))
    · rw [e4]
      intro he
      exact e1 (nd_key h.nd e2 hj (by rw [he, hk]))
    · intro he
      have := nd_key h.nd e2 e4 he
      omega
  · have : i ≠ k := fun e => hi _ (List.mem_of_getElem? (i := j) (by rw [List.getElem?_set, if_pos rfl, if_pos hlt])) (by rw [e])
    simp only [putI, this, if_false]
    refine h.out i fun e he hke => ?_
    obtain ⟨q, hq⟩ := List.getElem?_of_mem he
    by_cases hqj : q = j
    · subst hqj
      rw [hj] at hq; cases hq
      rw [hk] at hke
      cases hke
      exact this rfl
    · exact hi e (List.mem_of_getElem? (i := q) (by rw [List.getElem?_set, if_neg (Ne.symm hqj)]; exact hq)) hke
  · unfold putI; split
    · exact hs
    · exact h.len i
theorem ImgIs.erase {es : List MapEntry} {g : Img} (h : ImgIs es g) {k : Int} {j : Nat} {e0 : MapEntry} (hj : es[j]? = some e0) (hk : e0.key = .int .i64 k) : ImgIs (es.eraseIdx j) (putI g k zs) := by
  have hget : ∀ e ∈ es.eraseIdx j, e ∈ es ∧ e.key ≠ .int .i64 k := fun e he => by
    obtain ⟨i, hi⟩ := List.getElem?_of_mem he
    rw [List.getElem?_eraseIdx] at hi
    split at hi
    · rename_i hlt
      exact ⟨List.mem_of_getElem? hi, fun he => by have := nd_key h.nd hi hj (by rw [he, hk]); omega⟩
    · rename_i hlt
      exact ⟨List.mem_of_getElem? hi, fun he => by have := nd_key h.nd hi hj (by rw [he, hk]); omega⟩
  refine ⟨fun e he => ?_, h.nd.sublist (List.eraseIdx_sublist _ _), fun i hi => ?_, fun i => ?_⟩
  · obtain ⟨h1, h2⟩ := hget e he
    obtain ⟨q, h3, h4⟩ := h.ent e h1
    have : q ≠ k := fun e' => h2 (by rw [h3, e'])
    exact ⟨q, h3, by simp [putI, this, h4]⟩
  · by_cases hik : i = k
    · simp [putI, hik]
    · simp only [putI, hik, if_false]
      refine h.out i fun e he hke => ?_
      obtain ⟨q, hq⟩ := List.getElem?_of_mem he
      by_cases hqj : q = j
      · subst hqj
        rw [hj] at hq; cases hq
        rw [hk] at hke; cases hke
        exact hik rfl
      · refine hi e ?_ hke
        rcases Nat.lt_or_ge q j with hlt | hge
        · exact List.mem_of_getElem? (i := q) (by rw [List.getElem?_eraseIdx, if_pos hlt]; exact hq)
        · refine List.mem_of_getElem? (i := q - 1) ?_
          rw [List.getElem?_eraseIdx, if_neg (by omega), show q - 1 + 1 = q by omega]; exact hq
  · unfold putI; split
    · simp [zs]
    · exact h.len i
theorem ImgIs.none {es : List MapEntry} {g : Img} (h : ImgIs es g) {k : Int} (hk : ∀ e ∈ es, e.key ≠ .int .i64 k) : ImgIs es (putI g k zs) := by
  have : putI g k zs = g := by
    funext i; unfold putI; split
    · rename_i e; subst e; exact (h.out _ hk).symm
    · rfl
  rw [this]; exact h

section
variable {P : Program} {w : World} {T E : TypeId} {r : Nat} {es : Array MapEntry} {clock : Nat} {g : Img}
theorem run_look (ht : MapTy P T E) (hb : w.heap[r]? = some (.map es clock)) (hi : ImgIs es.toList g) (k : Int) : (Instr.lookup T (.map (some r)) (.int .i64 k) false).run P w = .ok (secV (g k)) w := by
  have hk : MapKept.IsKey (.int .i64) (.int .i64 k) := rfl
  obtain ⟨i, hi0, hz⟩ := ht.zero
  rcases MapKept.findNow_spec hk es.toList 0 hi.isKey with ⟨h1, h2⟩ | ⟨j, e, h1, h2, h3⟩
  · simp [Instr.lookup, run_underlying ht.und, MapKept.run_getObj_map hb, MapKept.run_checkKey ht.key hk, MapKept.run_findKey ht.key h1, run_zeroValue hi0 hz, Result.andThen, hi.out k h2]
  · obtain ⟨q, h4, h5⟩ := hi.ent e (List.mem_of_getElem? h2)
    rw [h3] at h4
    cases h4
    simp [Instr.lookup, run_underlying ht.und, MapKept.run_getObj_map hb, MapKept.run_checkKey ht.key hk, MapKept.run_findKey ht.key h1, Result.andThen, h5]
theorem run_put (ht : MapTy P T E) (hb : w.heap[r]? = some (.map es clock)) (hi : ImgIs es.toList g) (k : Int) {s : List Int} (hs : s.length = 64) :
    ∃ es' clock', (Instr.mapUpdate T (.map (some r)) (.int .i64 k) (secV s)).run P w = .ok () (putBlock w r (.map es' clock')) ∧ ImgIs es'.toList (putI g k s) := by
  have hk : MapKept.IsKey (.int .i64) (.int .i64 k) := rfl
  rcases MapKept.findNow_spec hk es.toList 0 hi.isKey with ⟨h1, h2⟩ | ⟨j, e, h1, h2, h3⟩
  · refine ⟨es.push { key := .int .i64 k, val := secV s, born := clock }, clock + 1, ?_, ?_⟩
    · simp [Instr.mapUpdate, run_underlying ht.und, MapKept.run_getObj_map hb, MapKept.run_checkKey ht.key hk, MapKept.run_findKey ht.key h1, MapKept.run_setObj_map _ hb, Result.andThen, putBlock]
    · simpa using hi.push hs h2 clock
  · have hj : es[j]? = some e := by simpa using h2
    refine ⟨es.modify j fun e => { e with key := .int .i64 k, val := secV s }, clock, ?_, ?_⟩
    · simp [Instr.mapUpdate, run_underlying ht.und, MapKept.run_getObj_map hb, MapKept.run_checkKey ht.key hk, MapKept.run_findKey ht.key h1, hj, h3, MapKept.run_keyThatStays hk, MapKept.run_setObj_map _ hb, Result.andThen, putBlock]
    · have := hi.set hs h2 h3
      have e1 : (es.modify j fun e => { e with key := .int .i64 k, val := secV s }).toList = es.toList.set j { e with key := .int .i64 k, val := secV s } := by
        apply List.ext_getElem?
        intro i
        rw [Array.getElem?_toList, Array.getElem?_modify, List.getElem?_set]
        by_cases hij : j = i
        · subst hij
          obtain ⟨hlt, he⟩ := Array.getElem?_eq_some_iff.1 hj
          simp [hlt, he]
        · simp [hij]
      rw [e1]; exact this
theorem run_del (ht : MapTy P T E) (hb : w.heap[r]? = some (.map es clock)) (hi : ImgIs es.toList g) (k : Int) {ts : Array TypeId} (hts : ts[0]? = some T) (T' : TypeId) :
    ∃ es' clock', (Builtin.delete_ ts T' #[.map (some r), .int .i64 k]).run P w = .ok (.tuple #[]) (putBlock w r (.map es' clock')) ∧ ImgIs es'.toList (putI g k zs) := by
  have hk : MapKept.IsKey (.int .i64) (.int .i64 k) := rfl
  rcases MapKept.findNow_spec hk es.toList 0 hi.isKey with ⟨h1, h2⟩ | ⟨j, e, h1, h2, h3⟩
  · refine ⟨es, clock, ?_, hi.none h2⟩
    simp [Builtin.delete_, hts, run_underlying ht.und, MapKept.run_getObj_map hb, MapKept.run_checkKey ht.key hk, MapKept.run_findKey ht.key h1, MapKept.run_setObj_map _ hb, Result.andThen, putBlock]
  · refine ⟨es.eraseIdxIfInBounds j, clock, ?_, ?_⟩
    · simp [Builtin.delete_, hts, run_underlying ht.und, MapKept.run_getObj_map hb, MapKept.run_checkKey ht.key hk, MapKept.run_findKey ht.key h1, MapKept.run_setObj_map _ hb, Result.andThen, putBlock]
    · have hlt : j < es.size := by
        have := (List.getElem?_eq_some_iff.1 h2).1
        simpa using this
      have e1 : (es.eraseIdxIfInBounds j).toList = es.toList.eraseIdx j := by
        unfold Array.eraseIdxIfInBounds
        rw [dif_pos hlt]; simp
      rw [e1]; exact hi.erase h2 h3
end

section
variable {cx : Cx} {p : Prop} {d : Nat} {T Tm E : TypeId} {stk : List K} {fr : List (Nat × AV)} {ch : List (Nat × Chunk)} {nx k r : Nat} {g : Img}
def imgA (g : Img) (r : Nat) : HProp := fun h => ∃ es clock, h r = some (.map es clock) ∧ ImgIs es.toList g
theorem img_get {ρ : List Nat} {w : World} (hs : Sat (big ρ (lookc ch) nx) w) (hk : k < nx) (hlk : lookc ch k = frm (imgA g r)) : ∃ es clock, w.heap[r]? = some (.map es clock) ∧ ImgIs es.toList g := by
  obtain ⟨h, hle, hh⟩ := hs.big hk
  rw [hlk] at hh
  obtain ⟨_, _, es, clock, h2, h3⟩ := hh
  exact ⟨es, clock, hle r _ h2, h3⟩
theorem img_turn {ρ : List Nat} {w : World} (hs : Sat (big ρ (lookc ch) nx) w) (hk : k < nx) (hlk : lookc ch k = frm (imgA g r)) {es' : Array MapEntry} {clock' : Nat} {g' : Img} (hi : ImgIs es'.toList g') :
    Sat (big ρ (lookc ((k, frm (imgA g' r)) :: ch)) nx) (putBlock w r (.map es' clock')) := by
  obtain ⟨h, hle, a, q, dd, la, lq, ha, hq⟩ := hs.take hk
  rw [hlk] at ha
  obtain ⟨_, _, es, clock, h2, h3⟩ := ha
  have hp : Sat (star (pts r (.map es clock)) (big ρ (upd (lookc ch) k .gone) nx)) w := ⟨h, hle, a, q, dd, la, lq, h2, hq⟩
  refine (((hp.put (o' := .map es' clock')).mono fun y hy => star_mono (fun z hz => ?_) (fun _ z => z) hy).give hk)
  exact ⟨[], rfl, es', clock', hz, hi⟩
theorem img_len {h : Hp} (H : imgA g r h) (k : Int) : (g k).length = 64 := by obtain ⟨_, _, _, hi⟩ := H; exact hi.len k
theorem ev_look {o1 o2 : Operand} {z1 z2 : Arg} {j : Int} (ht : MapTy cx.P Tm E) (hp : p) (k : Nat) (hlk : lookc ch k = frm (imgA g r)) (hkn : Nat.blt k nx = true) (h1 : argOf o1 = some z1) (h2 : argOf o2 = some z2) (h3 : argv fr z1 = some (.v (.map (some r)))) (h4 : argv fr z2 = some (.v (.int .i64 j)))
    (hst : stabK stk ch) (hG : (g j).length = 64 → Good cx ⟨stk, (d, .run .u8 64 (g j)) :: fr, ch, nx⟩) : EvOk cx (.op p (.other (some d) (.lookup Tm o1 o2 false) T) stk fr ch nx) := by
  refine ev_sem (X := { _u : Unit // (g j).length = 64 }) (rv := fun _ => .run .u8 64 (g j)) (ch' := fun _ => ch) (m := fun _ => 0) hp (fun ρ a w O hF hn hs hop hT => ?_) (fun _ => hst) (fun x => hG x.2)
  have hkn' : k < nx := by simpa using hkn
  obtain ⟨es, clock, hw, hi⟩ := img_get hs hkn' hlk
  have e1 := argv_int hF h1 h3 rfl
  have e2 := argv_int hF h2 h4 rfl
  refine ⟨⟨(), hi.len j⟩, secV (g j), w, [], rfl, ?_, ?_, Env.refl w, by simpa using hs⟩
  · show (AV.run .u8 64 (g j)).ev _ = some (secV (g j))
    simp [AV.ev, hi.len j, secV]
  · simp [execOp, hop, e1, e2, run_look ht hw hi j]
theorem ev_put {o1 o2 o3 : Operand} {z1 z2 z3 : Arg} {j : Int} {s : List Int} (ht : MapTy cx.P Tm E) (hp : p) (k : Nat) (hlk : lookc ch k = frm (imgA g r)) (hkn : Nat.blt k nx = true) (h1 : argOf o1 = some z1) (h2 : argOf o2 = some z2) (h3 : argOf o3 = some z3) (h4 : argv fr z1 = some (.v (.map (some r)))) (h5 : argv fr z2 = some (.v (.int .i64 j))) (h6 : argv fr z3 = some (.run .u8 64 s)) (hs64 : s.length = 64)
    (hst : stabK stk ((k, frm (imgA (putI g j s) r)) :: ch)) (hG : Good cx ⟨stk, fr, (k, frm (imgA (putI g j s) r)) :: ch, nx⟩) : EvOk cx (.op p (.other none (.mapUpdate Tm o1 o2 o3) T) stk fr ch nx) := by
  refine ev_sem0 (X := Unit) (ch' := fun _ => (k, frm (imgA (putI g j s) r)) :: ch) (m := fun _ => 0) hp (fun ρ a w O hF hn hs hop hT => ?_) (fun _ => hst) (fun x => hG)
  have hkn' : k < nx := by simpa using hkn
  obtain ⟨es, clock, hw, hi⟩ := img_get hs hkn' hlk
  have e1 := argv_int hF h1 h4 rfl
  have e2 := argv_int hF h2 h5 rfl
  have e3 := argv_int hF h3 h6 (y := secV s) (by simp [AV.ev, hs64, secV])
  obtain ⟨es', clock', hr, hi'⟩ := run_put ht hw hi j hs64
  refine ⟨(), putBlock w r (.map es' clock'), [], rfl, ⟨.skip, .inl rfl, ?_⟩, Env.putBlock w r (.map es' clock'), by simpa using img_turn hs hkn' hlk hi'⟩
  simp [execOp, hop, e1, e2, e3, hr]
theorem ev_del {o1 o2 : Operand} {z1 z2 : Arg} {j : Int} {t2 : TypeId} (ht : MapTy cx.P Tm E) (hp : p) (k : Nat) (hlk : lookc ch k = frm (imgA g r)) (hkn : Nat.blt k nx = true) (h1 : argOf o1 = some z1) (h2 : argOf o2 = some z2) (h4 : argv fr z1 = some (.v (.map (some r)))) (h5 : argv fr z2 = some (.v (.int .i64 j)))
    (hst : stabK stk ((k, frm (imgA (putI g j zs) r)) :: ch)) (hG : Good cx ⟨stk, (d, .tup []) :: fr, (k, frm (imgA (putI g j zs) r)) :: ch, nx⟩) :
    EvOk cx (.op p (.other (some d) (.call ⟨.builtin .delete, #[o1, o2], #[Tm, t2]⟩) T) stk fr ch nx) := by
  refine ev_sem (X := Unit) (rv := fun _ => .tup []) (ch' := fun _ => (k, frm (imgA (putI g j zs) r)) :: ch) (m := fun _ => 0) hp (fun ρ a w O hF hn hs hop hT => ?_) (fun _ => hst) (fun x => hG)
  have hkn' : k < nx := by simpa using hkn
  obtain ⟨es, clock, hw, hi⟩ := img_get hs hkn' hlk
  have e1 := argv_int hF h1 h4 rfl
  have e2 := argv_int hF h2 h5 rfl
  obtain ⟨es', clock', hr, hi'⟩ := run_del ht hw hi j (ts := #[Tm, t2]) rfl O.type
  refine ⟨(), .tuple #[], putBlock w r (.map es' clock'), [], rfl, rfl, ?_, Env.putBlock w r (.map es' clock'), by simpa using img_turn hs hkn' hlk hi'⟩
  simp [execOp, hop, resolve, e1, e2, invoke, builtin, hr]
theorem ev_del0 {o1 o2 : Operand} {z1 z2 : Arg} {j : Int} {t2 : TypeId} (ht : MapTy cx.P Tm E) (hp : p) (k : Nat) (hlk : lookc ch k = frm (imgA g r)) (hkn : Nat.blt k nx = true) (h1 : argOf o1 = some z1) (h2 : argOf o2 = some z2) (h4 : argv fr z1 = some (.v (.map (some r)))) (h5 : argv fr z2 = some (.v (.int .i64 j)))
    (hst : stabK stk ((k, frm (imgA (putI g j zs) r)) :: ch)) (hG : Good cx ⟨stk, fr, (k, frm (imgA (putI g j zs) r)) :: ch, nx⟩) :
    EvOk cx (.op p (.other none (.call ⟨.builtin .delete, #[o1, o2], #[Tm, t2]⟩) T) stk fr ch nx) := by
  refine ev_sem0 (X := Unit) (ch' := fun _ => (k, frm (imgA (putI g j zs) r)) :: ch) (m := fun _ => 0) hp (fun ρ a w O hF hn hs hop hT => ?_) (fun _ => hst) (fun x => hG)
  have hkn' : k < nx := by simpa using hkn
  obtain ⟨es, clock, hw, hi⟩ := img_get hs hkn' hlk
  have e1 := argv_int hF h1 h4 rfl
  have e2 := argv_int hF h2 h5 rfl
  obtain ⟨es', clock', hr, hi'⟩ := run_del ht hw hi j (ts := #[Tm, t2]) rfl O.type
  refine ⟨(), putBlock w r (.map es' clock'), [], rfl, ⟨.value (.tuple #[]), .inr ⟨_, rfl⟩, ?_⟩, Env.putBlock w r (.map es' clock'), by simpa using img_turn hs hkn' hlk hi'⟩
  simp [execOp, hop, resolve, e1, e2, invoke, builtin, hr]
theorem ev_mkmap (hp : p) (hst : ∀ r, stabK stk ((nx, frm (imgA (fun _ => zs) r)) :: ch)) (hG : ∀ r, Good cx ⟨stk, (d, .v (.map (some r))) :: fr, (nx, frm (imgA (fun _ => zs) r)) :: ch, nx + 1⟩) : EvOk cx (.op p (.other (some d) (.makeMap Tm none) T) stk fr ch nx) := by
  refine ev_sem (X := Nat) (rv := fun r => .v (.map (some r))) (ch' := fun r => (nx, frm (imgA (fun _ => zs) r)) :: ch) (m := fun _ => 1) hp (fun ρ a w O hF hn hs hop hT => ?_) hst hG
  refine ⟨w.heap.size, .map (some w.heap.size), { w with heap := w.heap.push (.map #[] 0) }, [0], rfl, rfl, ?_, Env.new w _, ?_⟩
  · simp [execOp, hop, Instr.makeMap, newObj, Sem.run]
  · refine (hs.new (.map #[] 0)).mono fun h hh => ?_
    show star _ (big _ _ nx) h
    rw [big_congr (g' := lookc ch) (fun i hi => by rw [lookc_cons]; simp [upd, Nat.ne_of_lt hi])]
    refine star_mono (fun y hy => ?_) (fun _ hy => big_ext hy) hh
    rw [lookc_cons, upd_same]
    exact ⟨[], rfl, #[], 0, hy, ImgIs.empty⟩
end
end Sx
