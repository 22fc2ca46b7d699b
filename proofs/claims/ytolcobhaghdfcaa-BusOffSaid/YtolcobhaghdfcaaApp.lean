/- Append, to a slice of whole numbers that one owns. -/
import Derived.Test.YtolcobhaghdfcaaRf
import Derived.Laws.OwnMore
namespace Sx
open Go

theorem cell_of_block {w : World} {b off : Nat} {vs : List Value} {T : TypeId} {v : Value} (h : w.heap[b]? = some (.cells vs.toArray T)) (hv : vs[off]? = some v) : w.cell? ⟨b, off, none⟩ = some v := by
  simp [World.cell?, h, hv]
theorem zeroCells_one (v : Value) (n : Nat) : (Builtin.zeroCells #[v] n).toList = List.replicate n v := by
  apply List.ext_getElem
  · simp [Builtin.zeroCells]
  · intro i h1 h2
    simp [Builtin.zeroCells, Nat.mod_one]
theorem evc_run (ρ : List Nat) (k : IntKind) (l : List Int) : AV.evc ρ [.run k l.length l] = some (l.map (Value.int k)) := by simp [AV.evc, AV.ev1]
theorem run_inv {ρ : List Nat} {k : IntKind} {n : Nat} {l : List Int} {vs : List Value} (h : AV.evc ρ [.run k n l] = some vs) : l.length = n ∧ vs = l.map (Value.int k) := by
  simp only [AV.evc, AV.ev1, Option.bind_eq_some_iff, Option.map_eq_some_iff] at h
  obtain ⟨a, h1, b, h2, rfl⟩ := h
  split at h1
  · rename_i e; cases h1; cases h2; exact ⟨e, by simp⟩
  · cases h1
/-- the facts of a slice of whole numbers -/
structure IntSl (P : Program) (t e : TypeId) (k : IntKind) (bytes : Nat) : Prop where
  und : P.underlying t = some (.slice e)
  info : ∃ i, P.info? e = some i ∧ i.zero = some (.int k 0) ∧ i.size = 1 ∧ i.bytes = bytes
section
variable {cx : Cx} {p : Prop} {d : Nat} {T t e : TypeId} {k : IntKind} {bytes : Nat} {o1 o2 : Operand} {z1 z2 : Arg} {stk : List K} {fr : List (Nat × AV)} {ch : List (Nat × Chunk)} {nx : Nat} {c2 m cap2 : Nat} {cs2 : List AV} {T2 : TypeId} {us : List Int}
theorem src_cells {ρ : List Nat} {w : World} {b2 : Nat} (hs : Each ρ ch nx w) (hn : ρ.length = nx) (hb2 : ρ[c2]? = some b2) (hc2 : lookc ch c2 = .cells cs2 T2) (hcs2 : AV.evc [] cs2 = some (us.map (Value.int k))) :
    ∀ (j : Nat) (u : Value), (us.map (Value.int k))[j]? = some u → w.cell? ((⟨b2, 0, none⟩ : Addr).add j) = some u := fun j u hj => by
  obtain ⟨vs, h1, h2⟩ := hs.cells hn hb2 hc2
  have h3 := AV.evc_ext [] ρ _ _ hcs2
  rw [List.nil_append, h1] at h3
  cases h3
  have := cell_of_block h2 hj
  rw [Addr.add_lit, Nat.zero_add]; exact this
theorem ev_append_nil (hS : IntSl cx.P t e k bytes) (hp : p) (h1 : argOf o1 = some z1) (h2 : argOf o2 = some z2) (hs : argv fr z1 = some (.v (.slice none 0 0))) (hx : argv fr z2 = some (.slc c2 0 m cap2))
    (hc2 : lookc ch c2 = .cells cs2 T2) (hcs2 : AV.evc [] cs2 = some (us.map (Value.int k))) (hm : us.length = m) (hm0 : 0 < m) (hbd : m * bytes ≤ 140737488355328 ∧ m ≤ 9223372036854775807) (hst : ∀ x, stabK stk ((nx, x) :: ch))
    (hG : ∀ cap' q, (us ++ q).length = cap' → cap' ≤ maxLen → Good cx ⟨stk, (d, .slc nx 0 m cap') :: fr, (nx, .cells [.run k cap' (us ++ q)] e) :: ch, nx + 1⟩) :
    EvOk cx (.op p (.other (some d) (.call ⟨.builtin .append, #[o1, o2], #[t, t]⟩) T) stk fr ch nx) := by
  refine ⟨hp, fun ρ a w H x hx' hop => .inl ?_⟩
  obtain ⟨g1, g2, g3⟩ := op_of_other hop
  have e1 := argv_int H.fr h1 hs rfl
  have he2 := argOf_ok H.fr h2 hx
  simp only [AV.ev, Option.map_eq_some_iff] at he2
  obtain ⟨b2, hb2, he2⟩ := he2
  obtain ⟨i, hi, hz, hsz, hby⟩ := hS.info
  have hl : (us.map (Value.int k)).length = m * i.size := by rw [hsz]; simp [hm]
  have hrun0 := run_append_nil (P := cx.P) w t T e i (.int k 0) hS.und hi hz ⟨b2, 0, none⟩ m cap2 (us.map (Value.int k)) hl (src_cells H.sat.each H.len hb2 hc2 hcs2) hm0 (by omega) (by rw [hby]; omega)
  have hrun : (execOp a.eval x).run cx.P w = .ok (.value (.slice (some ⟨w.heap.size, 0, none⟩) m (grownCap w m 0 e))) (w.drew.alloc (.cells ((us.map (Value.int k)).toArray ++ Builtin.zeroCells #[.int k 0] (grownCap w m 0 e - m)) e)) := by
    have hz0 : (Value.int k 0).cells = #[.int k 0] := rfl
    rw [hz0] at hrun0
    simp [execOp, g1, g3, resolve, e1, ← he2, invoke, builtin, hrun0]
  have hge := grownCap_ge w m 0 e
  have hcm := grownCap_le_maxLen w m 0 e (by simp only [maxLen]; omega)
  rw [g2] at hx'
  simp only [Oper.wp, hrun, Oper.upon, g2]
  have hq : ((us.map (Value.int k)).toArray ++ Builtin.zeroCells #[.int k 0] (grownCap w m 0 e - m)) = ((us ++ List.replicate (grownCap w m 0 e - m) 0).map (Value.int k)).toArray := by
    apply Array.ext'
    simp [zeroCells_one]
  have hlen : (us ++ List.replicate (grownCap w m 0 e - m) 0).length = grownCap w m 0 e := by simp; omega
  have hdr : Sat (big ρ (lookc ch) nx) w.drew := H.sat
  refine land (σ := [w.heap.size]) (v := .slc nx 0 m (grownCap w m 0 e)) H hx' (by simp [show ρ.length = nx from H.len]) ?_ ?_ (⟨rfl, rfl, rfl, by simp⟩) (hst _) (hG (grownCap w m 0 e) _ hlen hcm)
  · have hl' : ρ.length = nx := H.len
    simp [AV.ev, ← hl']
  · rw [hq]
    have hH : Holds cx ρ ⟨stk, fr, ch, nx⟩ a w.drew := ⟨H.N, H.df, H.len, H.fr, H.sat, H.env.trans ⟨rfl, rfl, rfl, Nat.le_refl _⟩, H.dr⟩
    refine Sat.newc hH (fun h hh => ?_)
    have hl' : ρ.length = nx := H.len
    refine ⟨w.heap.size, _, by simp [← hl'], ?_, hh⟩
    have := evc_run (ρ ++ [w.heap.size]) k (us ++ List.replicate (grownCap w m 0 e - m) 0)
    rw [hlen] at this
    exact this
theorem ev_append_slc (hS : IntSl cx.P t e k bytes) (hp : p) (h1 : argOf o1 = some z1) (h2 : argOf o2 = some z2) {c n cap : Nat} {l q0 : List Int} (hs : argv fr z1 = some (.slc c 0 n cap)) (hx : argv fr z2 = some (.slc c2 0 m cap2))
    (hc : lookc ch c = .cells [.run k cap (l ++ q0)] e) (hn : l.length = n) (hcap : cap ≤ maxLen) (hnc : n ≤ cap)
    (hc2 : lookc ch c2 = .cells cs2 T2) (hcs2 : AV.evc [] cs2 = some (us.map (Value.int k))) (hm : us.length = m) (hm0 : 0 < m) (hbd : (n + m) * bytes ≤ 140737488355328 ∧ n + m ≤ 9223372036854775807) (hst : ∀ x, stabK stk ((nx, x) :: (c, .gone) :: ch))
    (hG : ∀ cap' q, (l ++ us ++ q).length = cap' → cap' ≤ maxLen → Good cx ⟨stk, (d, .slc nx 0 (n + m) cap') :: fr, (nx, .cells [.run k cap' (l ++ us ++ q)] e) :: (c, .gone) :: ch, nx + 1⟩) :
    EvOk cx (.op p (.other (some d) (.call ⟨.builtin .append, #[o1, o2], #[t, t]⟩) T) stk fr ch nx) := by
  refine ⟨hp, fun ρ a w H x hx' hop => .inl ?_⟩
  have hlen0 : ρ.length = nx := H.len
  obtain ⟨g1, g2, g3⟩ := op_of_other hop
  have he1 := argOf_ok H.fr h1 hs
  simp only [AV.ev, Option.map_eq_some_iff] at he1
  obtain ⟨g, hg, he1⟩ := he1
  have he2 := argOf_ok H.fr h2 hx
  simp only [AV.ev, Option.map_eq_some_iff] at he2
  obtain ⟨b2, hb2, he2⟩ := he2
  obtain ⟨i, hi, hz, hsz, hby⟩ := hS.info
  obtain ⟨vs, hvs, hheap⟩ := H.sat.each.cells H.len hg hc
  obtain ⟨hlq, rfl⟩ := run_inv hvs
  have hl : (us.map (Value.int k)).length = m * i.size := by rw [hsz]; simp [hm]
  have hcells := src_cells (k := k) (us := us) H.sat.each H.len hb2 hc2 hcs2
  have hcn : c < nx := hlen0 ▸ lt_of_get hg
  rw [g2] at hx'
  by_cases hroom : n + m ≤ cap
  · have hsz' : ((l ++ q0).map (Value.int k)).toArray.size = cap := by simp at hlq ⊢; exact hlq
    have hrun0 := run_append_room (P := cx.P) w t T e i hS.und hi g n cap _ hheap ⟨b2, 0, none⟩ m cap2 (us.map (Value.int k)) hl hcells (fun u hu => by obtain ⟨y, _, rfl⟩ := List.mem_map.1 hu; rfl) hroom (by rw [hsz']; simp [hsz, hm]; omega)
    have hnew : ((((l ++ q0).map (Value.int k)).toArray.toList.take (n * i.size) ++ us.map (Value.int k) ++ ((l ++ q0).map (Value.int k)).toArray.toList.drop (n * i.size + (us.map (Value.int k)).length)).toArray) = ((l ++ us ++ (l ++ q0).drop (n + m)).map (Value.int k)).toArray := by
      apply Array.ext'
      simp only [hsz, Nat.mul_one, List.length_map, hm, List.map_append, List.map_drop]
      simp [← hn]
    rw [hnew] at hrun0
    have hrun : (execOp a.eval x).run cx.P w = .ok (.value (.slice (some ⟨g, 0, none⟩) (n + m) cap)) (putBlock w g (.cells ((l ++ us ++ (l ++ q0).drop (n + m)).map (Value.int k)).toArray e)) := by
      rw [setRow_put hheap] at hrun0
      simp [execOp, g1, g3, resolve, ← he1, ← he2, invoke, builtin, hrun0]
    simp only [Oper.wp, hrun, Oper.upon, g2]
    have hlen : (l ++ us ++ (l ++ q0).drop (n + m)).length = cap := by simp at hlq ⊢; omega
    refine land (σ := [g]) (v := .slc nx 0 (n + m) cap) H hx' (by simp [hlen0]) ?_ ?_ (Env.putBlock w g _) (hst _) (hG cap _ hlen hcap)
    · simp [AV.ev, ← hlen0]
    · have h3 : Sat (star (pts g (.cells ((l ++ q0).map (Value.int k)).toArray e)) (big ρ (upd (lookc ch) c .gone) nx)) w := H.sat.mono fun h hh => star_mono (fun y hy => by
        rw [hc] at hy
        obtain ⟨b', us', h4, h5, h6⟩ := hy
        rw [hg] at h4; cases h4
        rw [hvs] at h5; cases h5
        exact h6) (fun _ y => y) (big_out hcn hh)
      refine (h3.put (o' := .cells ((l ++ us ++ (l ++ q0).drop (n + m)).map (Value.int k)).toArray e)).mono fun h hh => ?_
      show star _ (big _ _ nx) h
      rw [big_congr (g' := upd (lookc ch) c .gone) (fun i hi => by rw [lookc_cons, lookc_cons]; simp [upd, Nat.ne_of_lt hi])]
      refine star_mono (fun y hy => ?_) (fun y hy => big_ext hy) hh
      rw [lookc_cons, upd_same]
      refine ⟨g, _, by simp [← hlen0], ?_, hy⟩
      have := evc_run (ρ ++ [g]) k (l ++ us ++ (l ++ q0).drop (n + m))
      rw [hlen] at this
      exact this
  · have hold : ∀ (j : Nat) (v : Value), (l.map (Value.int k))[j]? = some v → w.cell? ((⟨g, 0, none⟩ : Addr).add j) = some v := fun j v hj => by
      rw [Addr.add_lit, Nat.zero_add]
      refine cell_of_block hheap ?_
      rw [List.map_append]
      have hlt := (List.getElem?_eq_some_iff.1 hj).1
      rw [List.getElem?_append_left hlt]; exact hj
    have hrun0 := run_append_grow (P := cx.P) w t T e i (.int k 0) hS.und hi hz ⟨g, 0, none⟩ n cap (l.map (Value.int k)) (by simp [hsz, hn]) hold ⟨b2, 0, none⟩ m cap2 (us.map (Value.int k)) hl hcells (by omega) (by omega) (growslice_fits (by omega) (by rw [hby]; exact hbd.1))
    have hz0 : (Value.int k 0).cells = #[.int k 0] := rfl
    rw [hz0] at hrun0
    have hq : ((l.map (Value.int k)).toArray ++ (us.map (Value.int k)).toArray ++ Builtin.zeroCells #[.int k 0] (grownCap w (n + m) cap e - (n + m))) = ((l ++ us ++ List.replicate (grownCap w (n + m) cap e - (n + m)) 0).map (Value.int k)).toArray := by
      apply Array.ext'
      simp [zeroCells_one]
    rw [hq] at hrun0
    have hrun : (execOp a.eval x).run cx.P w = .ok (.value (.slice (some ⟨w.heap.size, 0, none⟩) (n + m) (grownCap w (n + m) cap e))) (w.drew.alloc (.cells ((l ++ us ++ List.replicate (grownCap w (n + m) cap e - (n + m)) 0).map (Value.int k)).toArray e)) := by
      simp [execOp, g1, g3, resolve, ← he1, ← he2, invoke, builtin, hrun0]
    have hge := grownCap_ge w (n + m) cap e
    have hcm := grownCap_le_maxLen w (n + m) cap e (by simp only [maxLen]; omega)
    simp only [Oper.wp, hrun, Oper.upon, g2]
    have hlen : (l ++ us ++ List.replicate (grownCap w (n + m) cap e - (n + m)) 0).length = grownCap w (n + m) cap e := by simp; omega
    refine land (σ := [w.heap.size]) (v := .slc nx 0 (n + m) (grownCap w (n + m) cap e)) H hx' (by simp [hlen0]) ?_ ?_ (⟨rfl, rfl, rfl, by simp⟩) (hst _) (hG _ _ hlen hcm)
    · simp [AV.ev, ← hlen0]
    · have hs' : Sat (big ρ (lookc ((c, .gone) :: ch)) nx) w.drew := by
        rw [lookc_cons]
        exact H.sat.mono fun h hh => big_drop hh
      refine (hs'.new _).mono fun h hh => ?_
      rw [lookc_cons]
      simp only [Sx.big, upd_same]
      refine star_mono (fun y hy => ?_) (fun y hy => ?_) hh
      · refine ⟨w.heap.size, _, by simp [← hlen0], ?_, hy⟩
        have := evc_run (ρ ++ [w.heap.size]) k (l ++ us ++ List.replicate (grownCap w (n + m) cap e - (n + m)) 0)
        rw [hlen] at this
        exact this
      · rw [big_congr (g' := lookc ((c, .gone) :: ch)) (fun i hi => by simp [upd, Nat.ne_of_lt hi])]
        exact big_ext hy
end
end Sx
