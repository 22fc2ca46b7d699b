/- What 'step' reckons is what the model's operation does: the other operations. -/
import Derived.Test.YtolcobhaghdfcaaSound
namespace Sx
open Go
section
variable {P : Program} {tb : Tb} {a : Act} {w : World} {ρ : List Nat} {fr : List (Nat × AV)} {ch : List (Nat × Chunk)} {nx : Nat}

theorem loadAt_ok (ht : tbOk P tb = true) (hn : ρ.length = nx) (hs : Each ρ ch nx w) {x : Oper} {d : Nat} {t : TypeId} {y : Operand} {i : TI}
    (hd : x.dst = some d) (ho : x.op = .load t y) (hi : tget tb t = some i) {c b off : Nat} (hb : ρ[c]? = some b) (he : Value.pointer (some ⟨b, off, none⟩) = a.eval y) : StepOk P x a w ρ fr ch nx (loadAt d i.size i.agg off (lookc ch c)) := by
  have hti := tget_is ht hi
  unfold loadAt
  split
  · rename_i cs T hc
    obtain ⟨vs, hvs, hw⟩ := hs.cells hn hb hc
    cases hag : i.agg
    · simp only [cond_false]
      split
      · rename_i v hone
        obtain ⟨u, hu, hue⟩ := oneN_spec hone hvs
        refine ok_of hd hue ?_
        simp [execOp, ho, Instr.loadAt, ← he, Instr.sureAddr, run_loadVar_one hti hag hw hu]
      · trivial
    · simp only [cond_true]
      split
      · rename_i r hr
        split
        · rename_i l hl
          obtain ⟨h1, h2⟩ := skipN_spec hr hvs
          obtain ⟨h3, h4⟩ := takeN_spec hl h2 (show AV.evc ρ [] = some [] from rfl)
          refine ok_of hd (mkAgg_ev h4) ?_
          have := run_loadVar_agg hti hag hw (off := off) (by simp at h3; omega)
          simp [execOp, ho, Instr.loadAt, ← he, Instr.sureAddr, this]
        · trivial
      · trivial
  · trivial
theorem step_load (ht : tbOk P tb = true) (H : FrOk ρ fr a) (hn : ρ.length = nx) (hs : Each ρ ch nx w) {x : Oper} {d : Nat} {t : TypeId} {y : Operand} {z : Arg} {i : TI}
    (hd : x.dst = some d) (ho : x.op = .load t y) (hi : tget tb t = some i) (hz : argOf y = some z) : StepOk P x a w ρ fr ch nx (step fr ch nx (.load d i.size i.agg z)) := by
  have hti := tget_is ht hi
  simp only [step]
  split
  · rename_i c off hv
    have he := argOf_ok H hz hv
    simp only [AV.ev, Option.map_eq_some_iff] at he
    obtain ⟨b, hb, he⟩ := he
    exact loadAt_ok ht hn hs hd ho hi hb he
  · rename_i c base j hv
    have he := argOf_ok H hz hv
    simp only [AV.ev, Option.map_eq_some_iff] at he
    obtain ⟨b, hb, he⟩ := he
    cases hag : i.agg
    · simp only [cond_false]
      split
      · rename_i cs T hc
        obtain ⟨vs, hvs, hw⟩ := hs.cells hn hb hc
        split
        · rename_i k m l hrun
          obtain ⟨h1, h2⟩ := runN_spec hrun hvs
          intro hq
          have hlt := hq _ rfl
          refine ⟨hd, _, rfl, ?_⟩
          have := run_loadVar_one hti hag hw (h2 _ hlt)
          simp [execOp, ho, Instr.loadAt, ← he, Instr.sureAddr, this]
        · rw [← hc, ← hag]; exact loadAt_ok ht hn hs hd ho hi hb he
      · trivial
    · simp only [cond_true]
      rw [← hag]; exact loadAt_ok ht hn hs hd ho hi hb he
  · rename_i c base sz j inner _ hv
    have he := argOf_ok H hz hv
    simp only [AV.ev, Option.map_eq_some_iff] at he
    obtain ⟨b, hb, he⟩ := he
    exact loadAt_ok ht hn hs hd ho hi hb he
  · trivial

theorem storeTo_ok (ht : tbOk P tb = true) (hn : ρ.length = nx) (hs : Each ρ ch nx w) {x : Oper} {t : TypeId} {y u : Operand} {i : TI}
    (hd : x.dst = none) (ho : x.op = .store t y u) (hi : tget tb t = some i) {c b off : Nat} {v : AV} (hb : ρ[c]? = some b) (he : Value.pointer (some ⟨b, off, none⟩) = a.eval y) (hue : v.ev ρ = some (a.eval u)) : StepOk P x a w ρ fr ch nx (storeTo i.size c off v (lookc ch c)) := by
  have hti := tget_is ht hi
  have put : ∀ {c b : Nat} {off : Nat} {cs cs' : List AV} {T : TypeId} {vs us : List Value} {q : Option Prop}, ρ[c]? = some b → lookc ch c = .cells cs T → AV.evc ρ cs = some vs → w.heap[b]? = some (.cells vs.toArray T) →
      Value.pointer (some ⟨b, off, none⟩) = a.eval y → (a.eval u).cells.toList.length = i.size → off + i.size ≤ vs.length → (∀ x ∈ (a.eval u).cells.toList, x.oneCell' = true) →
      us = vs.take off ++ (a.eval u).cells.toList ++ vs.drop (off + i.size) → AV.evc ρ cs' = some us →
      (∀ p, q = some p → p) → x.dst = none ∧ c < nx ∧ ∃ b o', (∀ h : Hp, (lookc ch c).hp ρ c h → ∃ o, h b = some o) ∧ (execOp a.eval x).run P w = .ok .skip (putBlock w b o') ∧
      ∀ h : Hp, h b = some o' → (Chunk.cells cs' T).hp ρ c h := by
    intro c b off cs cs' T vs us q hb hc hvs hw he hl hle h1 hus hcs' _
    refine ⟨hd, hn ▸ lt_of_get hb, b, .cells us.toArray T, ?_, ?_, ?_⟩
    · intro h hh
      rw [hc] at hh
      obtain ⟨b', vs', h2, _, h4⟩ := hh
      rw [hb] at h2; cases h2
      exact ⟨_, h4⟩
    · have := run_storeVar (P := P) (w := w) hti hw hl hle h1
      simp only [execOp, ho, Instr.storeAt, ← he, Instr.sureAddr, hus]
      simp at this
      simp [this]
    · intro h hh
      exact ⟨b, us, hb, hcs', hh⟩
  unfold storeTo
  split
  · rename_i cs T hc
    obtain ⟨vs, hvs, hw⟩ := hs.cells hn hb hc
    split
    · rename_i l hl
      have hce := cellsOf_spec hl hue
      cases hcond : (allst l && Nat.beq (asum l) i.size)
      · trivial
      · simp only [Bool.and_eq_true] at hcond
        have hlen : (a.eval u).cells.toList.length = i.size := by rw [asum_length hce]; exact Nat.eq_of_beq_eq_true hcond.2
        simp only [cond_true]
        split
        · rename_i cs' hput
          obtain ⟨h1, h2⟩ := putN_spec hput hvs (show AV.evc ρ [] = some [] from rfl) hce
          exact put hb hc hvs hw he hlen h1 (allst_one hce hcond.1) rfl (by simpa using h2)
        · split
          · rename_i k q
            split
            · rename_i cs' hset
              obtain ⟨h1, h2⟩ := setN_spec hset hvs (show AV.evc ρ [] = some [] from rfl)
              simp only [AV.ev, Option.some.injEq] at hue
              have hsz1 : i.size = 1 := by rw [← hlen, ← hue]; rfl
              refine put hb hc hvs hw he hlen (by omega) (allst_one hce hcond.1) rfl ?_
              rw [h2, ← hue, hsz1, List.set_eq_take_append_cons_drop, if_pos h1]
              simp [Value.cells]
            · trivial
          · trivial
    · trivial
  · trivial
theorem step_store (ht : tbOk P tb = true) (H : FrOk ρ fr a) (hn : ρ.length = nx) (hs : Each ρ ch nx w) {x : Oper} {t : TypeId} {y u : Operand} {z zu : Arg} {i : TI}
    (hd : x.dst = none) (ho : x.op = .store t y u) (hi : tget tb t = some i) (hz : argOf y = some z) (hu : argOf u = some zu) : StepOk P x a w ρ fr ch nx (step fr ch nx (.store i.size z zu)) := by
  have hti := tget_is ht hi
  have put : ∀ {c b : Nat} {off : Nat} {cs cs' : List AV} {T : TypeId} {vs us : List Value} {q : Option Prop}, ρ[c]? = some b → lookc ch c = .cells cs T → AV.evc ρ cs = some vs → w.heap[b]? = some (.cells vs.toArray T) →
      Value.pointer (some ⟨b, off, none⟩) = a.eval y → (a.eval u).cells.toList.length = i.size → off + i.size ≤ vs.length → (∀ x ∈ (a.eval u).cells.toList, x.oneCell' = true) →
      us = vs.take off ++ (a.eval u).cells.toList ++ vs.drop (off + i.size) → AV.evc ρ cs' = some us →
      (∀ p, q = some p → p) → x.dst = none ∧ c < nx ∧ ∃ b o', (∀ h : Hp, (lookc ch c).hp ρ c h → ∃ o, h b = some o) ∧ (execOp a.eval x).run P w = .ok .skip (putBlock w b o') ∧
      ∀ h : Hp, h b = some o' → (Chunk.cells cs' T).hp ρ c h := by
    intro c b off cs cs' T vs us q hb hc hvs hw he hl hle h1 hus hcs' _
    refine ⟨hd, hn ▸ lt_of_get hb, b, .cells us.toArray T, ?_, ?_, ?_⟩
    · intro h hh
      rw [hc] at hh
      obtain ⟨b', vs', h2, _, h4⟩ := hh
      rw [hb] at h2; cases h2
      exact ⟨_, h4⟩
    · have := run_storeVar (P := P) (w := w) hti hw hl hle h1
      simp only [execOp, ho, Instr.storeAt, ← he, Instr.sureAddr, hus]
      simp at this
      simp [this]
    · intro h hh
      exact ⟨b, us, hb, hcs', hh⟩
  simp only [step]
  split
  · rename_i c off v hv hvu
    have he := argOf_ok H hz hv
    have hue := argOf_ok H hu hvu
    simp only [AV.ev, Option.map_eq_some_iff] at he
    obtain ⟨b, hb, he⟩ := he
    exact storeTo_ok ht hn hs hd ho hi hb he hue
  · rename_i c base j k q hv hvu
    have he := argOf_ok H hz hv
    have hue := argOf_ok H hu hvu
    simp only [AV.ev, Option.map_eq_some_iff] at he
    obtain ⟨b, hb, he⟩ := he
    have hue0 := hue
    simp only [AV.ev, Option.some.injEq] at hue
    cases hsz : Nat.beq i.size 1
    · trivial
    · have hsz1 : i.size = 1 := Nat.eq_of_beq_eq_true hsz
      simp only [cond_true]
      split
      · rename_i cs T hc
        obtain ⟨vs, hvs, hw⟩ := hs.cells hn hb hc
        split
        · rename_i kk m ll hrun
          split
          · rename_i cs' hset
            intro hq
            have hlt := hq _ rfl
            obtain ⟨h1, h2⟩ := setR_spec hset hvs (show AV.evc ρ [] = some [] from rfl) (fun k' n' l' hr => by rw [hrun] at hr; cases hr; exact hlt)
            have he' : Value.pointer (some ⟨b, base + j.toNat, none⟩) = a.eval y := by rw [← he]; simp
            refine put (q := none) hb hc hvs hw he' (by rw [← hue]; simp [Value.cells, hsz1]) (by omega) (by rw [← hue]; simp [Value.cells, Value.oneCell']) rfl ?_ (by simp)
            rw [h2, ← hue, hsz1, List.set_eq_take_append_cons_drop, if_pos h1]
            simp [Value.cells]
          · trivial
        · rw [← hc]; exact storeTo_ok ht hn hs hd ho hi hb he hue0
      · trivial
  · rename_i c base sz j inner v _ hv hvu
    have he := argOf_ok H hz hv
    have hue := argOf_ok H hu hvu
    simp only [AV.ev, Option.map_eq_some_iff] at he
    obtain ⟨b, hb, he⟩ := he
    exact storeTo_ok ht hn hs hd ho hi hb he hue
  · trivial
end
end Sx
