/- Contracts of package bus: Cell, Advance, Log; the rule on copy. -/
import Derived.Test.YtolcobhaghdfcaaCpy
import Derived.Laws.CopyRow
namespace Sx
open Go
theorem ev_copy {cx : Cx} {p : Prop} {d : Nat} {T tD tS elem : TypeId} {o1 o2 : Operand} {z1 : Arg} {c off dn dcap m : Nat} {cs cs' : List AV} {Tc : TypeId} {vs us : List Value} {stk : List K} {fr : List (Nat × AV)} {ch : List (Nat × Chunk)} {nx : Nat}
    (hu : cx.P.underlying tD = some (.slice elem)) (hs : (cx.P.info? elem).map (·.size) = some 1) (hp : p) (h1 : argOf o1 = some z1) (hd : argv fr z1 = some (.slc c off dn dcap)) (hc : lookc ch c = .cells cs Tc) (hcs : AV.evc [] cs = some vs)
    (hsrc : Src fr ch nx o2 m us) (hlen : us.length = Nat.min m dn) (h0 : 0 < us.length) (hfit : off + us.length ≤ vs.length) (hone : ∀ u ∈ us, u.oneCell' = true) (hcs' : AV.evc [] cs' = some (vs.take off ++ us ++ vs.drop (off + us.length)))
    (hst : stabK stk ((c, .cells cs' Tc) :: ch)) (hG : Good cx ⟨stk, (d, .v (.int .i64 us.length)) :: fr, (c, .cells cs' Tc) :: ch, nx⟩) :
    EvOk cx (.op p (.other (some d) (.call ⟨.builtin .copy, #[o1, o2], #[tD, tS]⟩) T) stk fr ch nx) := by
  refine ev_sem (X := Unit) (rv := fun _ => .v (.int .i64 us.length)) (ch' := fun _ => (c, .cells cs' Tc) :: ch) (m := fun _ => 0) hp (fun ρ act w O hF hn hs0 hop hT => ?_) (fun _ => hst) (fun _ => hG)
  have he := argOf_ok hF h1 hd
  simp only [AV.ev, Option.map_eq_some_iff] at he
  obtain ⟨b, hb, he⟩ := he
  have hcn : c < nx := hn ▸ lt_of_get hb
  obtain ⟨a2, cap2, e2, _, hread⟩ := hsrc ρ act w hF hn hs0
  obtain ⟨ad, rfl⟩ : ∃ ad, a2 = some ad := by
    obtain ⟨ad, e, _⟩ := hread 0 us[0] (List.getElem?_eq_getElem h0)
    exact ⟨ad, e⟩
  have hread' : ∀ j v, us[j]? = some v → w.cell? (ad.add j) = some v := fun j v hj => by
    obtain ⟨ad', e, h⟩ := hread j v hj
    cases e; exact h
  obtain ⟨vs0, hv0, hheap⟩ := hs0.each.cells hn hb hc
  have hv := AV.evc_ext [] ρ _ _ hcs
  rw [List.nil_append, hv0] at hv
  cases hv
  have hrun0 := run_copy_row (P := cx.P) w tD tS O.type elem b off dn dcap ad m cap2 vs.toArray Tc us hu hs hheap hlen hread' (by simpa using hfit) hone
  rw [setRow_put hheap] at hrun0
  have h3 : Sat (star (pts b (.cells vs.toArray Tc)) (big ρ (upd (lookc ch) c .gone) nx)) w := (hs0.take hcn).mono fun h hh => star_mono (fun y hy => by
    rw [hc] at hy
    obtain ⟨b', us', h4, h5, h6⟩ := hy
    rw [hb] at h4; cases h4
    rw [hv0] at h5; cases h5
    exact h6) (fun _ y => y) hh
  replace hrun0 : (Builtin.copy_ #[tD, tS] O.type #[.slice (some ⟨b, off, none⟩) dn dcap, .slice (some ad) m cap2]).run cx.P w = .ok (goInt us.length) (putBlock w b (.cells (vs.take off ++ us ++ vs.drop (off + us.length)).toArray Tc)) := hrun0
  refine ⟨(), .int .i64 us.length, putBlock w b (.cells (vs.take off ++ us ++ vs.drop (off + us.length)).toArray Tc), [], rfl, rfl, ?_, Env.putBlock w b _, ?_⟩
  rotate_left
  · rw [List.append_nil, Nat.add_zero]
    refine Sat.give ((h3.put (o' := .cells (vs.take off ++ us ++ vs.drop (off + us.length)).toArray Tc)).mono fun h hh => star_mono (fun y hy => ⟨b, _, hb, ?_, hy⟩) (fun _ y => y) hh) hcn
    have := AV.evc_ext [] ρ _ _ hcs'
    rwa [List.nil_append] at this
  · simp [execOp, hop, resolve, ← he, e2, invoke, builtin, hrun0, goInt]
/-- a store that writes what stands there -/
theorem ev_stSame {cx : Cx} {p : Prop} {n : Nat} {z u : Arg} {stk : List K} {fr : List (Nat × AV)} {ch : List (Nat × Chunk)} {nx : Nat} {ad : Addr} {E : TypeId} {sz cap l : Nat} {xs : List Value} (ht : tbOk cx.P cx.tb = true) (hp : p) (k : Nat) (hk : lookc ch k = frm (ownH E sz (some ad) l cap xs)) (hkn : Nat.blt k nx = true) {off : Nat} (hz : argv fr z = some (.v (.pointer (some (ad.add off))))) {v : AV} (hu : argv fr u = some v) {us : List Value} {y : Value} (hv : v.ev [] = some y) (hy : y.cells.toList = us) (hus : us.length = n) (hone : ∀ u ∈ us, u.oneCell' = true)
    (hoff : off + n ≤ l * sz) (hsame : xs.take off ++ us ++ xs.drop (off + n) = xs) (hst : stabK stk ((k, frm (ownH E sz (some ad) l cap xs)) :: ch)) (hG : Good cx ⟨stk, fr, (k, frm (ownH E sz (some ad) l cap xs)) :: ch, nx⟩) (hn0 : 0 < n) : EvOk cx (.op p (.store n z u) stk fr ch nx) :=
  ev_stA ht hp k hk hkn hz hu hv hy hus hone hoff (by rw [hsame]; exact hst) (by rw [hsame]; exact hG) hn0
end Sx
namespace Go.Proofs.Ytolcobhaghdfcaa
open Sx Go
set_option maxRecDepth 100000
theorem u38' : Try.prog.underlying 38 = some (.slice 5) := by kernel_rfl
theorem s5 : (Try.prog.info? 5).map (·.size) = some 1 := by kernel_rfl
theorem busK_cb {B : Bs} {x : BX} {b : Nat} : ∀ h, busK B x b h → h.cell ((⟨b, 0, none⟩ : Addr).add 1) = some (.pointer (some ⟨B.cb, 0, none⟩)) := fun h hh => by
  obtain ⟨p, q, _, lp, _, ⟨vs, h1, h2⟩, _⟩ := hh
  have h3 : AV.evc [] (busCs B x) = some [.slice x.ma B.bs.length x.mc, .pointer (some ⟨B.cb, 0, none⟩), .slice x.sa B.steps.length x.sc, .bool B.off, .slice x.la B.log.length x.lc] := rfl
  rw [h3] at h1; cases h1
  have h4 := lp _ _ h2
  simp [Hp.cell, Addr.add, h4]
/-- the two boxes of Cell's closure -/
def cellX (b bbox cbox : Nat) (cv : CV) : HProp := star (ptC bbox [PA b] 41) (starL [ptC cbox [.v (.int .u64 cv.count), .run .u8 32 cv.label] 69])
def lab64 (l : List Int) (data : List Int) : List Int := l ++ data.drop 32
theorem lab_copy {e : Ent} (he : e.ok) {l : List Int} (hl : l.length = 32) : e.enc.take 3 ++ l.map (Value.int .u8) ++ e.enc.drop (3 + (l.map (Value.int .u8)).length) = ({ e with data := lab64 l e.data } : Ent).enc := by
  unfold Ent.ok at he
  rw [List.length_map, hl]
  unfold Ent.enc lab64
  dsimp only
  have h1 : ∀ a b c : Value, ∀ r : List Value, List.take 3 ([a, b, c] ++ r) = [a, b, c] := fun _ _ _ _ => rfl
  have h2 : ∀ a b c : Value, ∀ r : List Value, List.drop 35 ([a, b, c] ++ r) = List.drop 32 r := fun _ _ _ _ => rfl
  rw [List.append_assoc [_, _, _], h1, show 3 + 32 = 35 from rfl, h2, List.drop_append_of_le_length (by simp [he]), List.map_append, List.map_drop]
  simp only [List.append_assoc]
theorem lab_ok {l data : List Int} (hl : l.length = 32) (hd : data.length = 64) : (lab64 l data).length = 64 := by unfold lab64; simp [hl, hd]
theorem c82 (B : Bs) (x : BX) (b : Nat) (Ms : List Mem) (C : Cl) (hlab : C.now.label.length = 32) (e : Ent) (he : e.ok) (bbox cbox : Nat) (cv : CV) (hcv : cv.label.length = 32) :
    ACtr Try.prog 82 6 [.ptr 1 0, PA bbox, PA cbox] [(1, .cells e.cs 64), (2, frm (busK B x b)), (3, frm (memsH B.bs Ms)), (4, frm (celH C B.cb)), (5, frm (cellX b bbox cbox cv))] (fun _ : Unit => 0) (fun _ => IA 0)
      (fun _ => [(1, .cells ({ e with data := lab64 C.now.label e.data } : Ent).cs 64), (2, frm (busK B x b)), (3, frm (memsH B.bs Ms)), (4, frm (celH C B.cb)), (5, frm (cellX b bbox cbox C.now))]) := by
  refine act Try.func82 rfl rfl rfl A82_ok rfl fun F w0 bb => ?_
  refine enter (X := Unit) (ok := fun _ => True) (cs := fun _ => [PA b]) (T := 41) (Rs := fun _ => [ptC cbox [.v (.int .u64 cv.count), .run .u8 32 cv.label] 69]) 5 1 1 rfl rfl rfl (fun _ => rfl) (fun h hh => ⟨(), trivial, hh⟩) (fun _ => trivial) fun _ _ => ?_
  refine enter (X := Unit) (ok := fun _ => True) (cs := fun _ => [.v (.int .u64 cv.count), .run .u8 32 cv.label]) (T := 69) (Rs := fun _ => []) 8 2 0 rfl rfl rfl (fun _ => rfl) (fun h hh => ⟨(), trivial, star_emp hh⟩) (fun _ => trivial) fun _ _ => ?_
  refine on ?_
  refine ev_ld1 tbl_ok trivial 2 rfl rfl rfl (PA B.cb) rfl busK_cb trivial ?_
  refine on ?_
  refine call_ab trivial (c83 C B.cb) [4] rfl rfl rfl rfl rfl ⟨rfl, trivial⟩ (fun _ => rfl) (fun _ => rfl) (fun _ => trivial) (fun _ => ?_)
  refine on ?_
  refine draw_ok mixed trivial O82_2_ok [] Q82_2_ok trivial rfl (fun ρ0 => ?_)
  refine on ?_
  refine ev_copy (off := 3) (dn := 64) u38' s5 (by simp) rfl rfl rfl (Ent.evc he []) (src_named (off := 1) (cs := [.v (.int .u64 C.now.count), .run .u8 32 C.now.label]) (vs := C.now.enc) rfl rfl rfl (by simp [AV.evc, AV.ev1, CV.enc, hlab]) (fun j u h => by simpa [CV.enc, Nat.add_comm] using h)) (us := C.now.label.map (Value.int .u8)) (by simp [hlab]) (by simp [hlab]) (by unfold Ent.ok at he; simp [Ent.enc, he, hlab]) (ints_one _ _) (cs' := ({ e with data := lab64 C.now.label e.data } : Ent).cs) (by rw [lab_copy he hlab]; exact @Ent.evc { e with data := lab64 C.now.label e.data } (lab_ok hlab he) []) trivial ?_
  refine on ?_
  refine ret_in trivial ?_
  refine leave 8 9 10 [] (A := ptC cbox [.v (.int .u64 C.now.count), .run .u8 32 C.now.label] 69) (Rs := []) rfl rfl trivial ⟨C.now.enc, by simp [AV.evc, AV.ev1, CV.enc, hlab]⟩ rfl rfl rfl rfl rfl trivial (fun h hh => ptC_emp hh) ?_
  refine leave 5 6 7 [8] (A := cellX b bbox cbox C.now) (Rs := [ptC cbox [.v (.int .u64 C.now.count), .run .u8 32 C.now.label] 69]) rfl rfl ⟨rfl, trivial⟩ ⟨_, rfl⟩ rfl rfl rfl rfl rfl trivial (fun h hh => hh) ?_
  refine ret_out ?_
  exact retE trivial rfl () [0, 1, 2, 3, 4, 5] rfl rfl rfl rfl ⟨_, rfl, fun ρ => rfl⟩ ⟨rfl, rfl, rfl, rfl, rfl, rfl, trivial⟩
theorem celH_lab {C : Cl} {b : Nat} : ∀ h, celH C b h → C.ok := fun h hh => by obtain ⟨_, ok, _⟩ := hh; exact ok
abbrev cv0' : CV := ⟨0, List.replicate 32 0⟩
def cE0 : Ent := ⟨4, 0, 0, Z64, 0⟩
def cEnt (B : Bs) (Ms : List Mem) (C : Cl) : Ent := if (stB B Ms).1 then { cE0 with err := 13 } else { ({ cE0 with data := lab64 C.now.label cE0.data } : Ent) with err := 0 }
def cVal (B : Bs) (Ms : List Mem) (C : Cl) : CV := if (stB B Ms).1 then cv0' else C.now
theorem ptC_own {b sz : Nat} {cs : List AV} {T : TypeId} {vs : List Value} (hcs : AV.evc [] cs = some vs) (hl : vs.length = 1 * sz) : ∀ h, ptC b cs T h → ownH T sz (some ⟨b, 0, none⟩) 1 1 vs h := fun h hh => by
  obtain ⟨us, h1, h2⟩ := hh
  rw [hcs] at h1; cases h1
  exact ⟨hl, .inr ⟨b, vs.toArray, rfl, h2, Nat.le_refl _, by decide, by simpa using hl, by rw [← hl]; simp⟩⟩
theorem own_ptC {b sz : Nat} {cs : List AV} {T : TypeId} {vs : List Value} (hcs : AV.evc [] cs = some vs) : ∀ h, ownH T sz (some ⟨b, 0, none⟩) 1 1 vs h → ptC b cs T h := fun h hh => by
  obtain ⟨h1, ⟨h2, _⟩ | ⟨g, cur, h2, h3, _, _, h4, h5⟩⟩ := hh
  · cases h2
  · cases h2
    refine ⟨vs, hcs, ?_⟩
    have : cur = vs.toArray := by
      apply Array.ext'
      rw [← h5, List.take_of_length_le (by simp; omega)]
    rw [← this]; exact h3
theorem CV.evc {c : CV} (h : c.label.length = 32) : AV.evc [] [.v (.int .u64 c.count), .run .u8 32 c.label] = some c.enc := by simp [AV.evc, AV.ev1, CV.enc, h]
theorem CV.one (c : CV) : ∀ u ∈ c.enc, u.oneCell' = true := fun u hu => by
  rcases List.mem_cons.1 hu with rfl | hu
  · rfl
  · exact ints_one _ _ u hu
theorem c32 (B : Bs) (b : Nat) (Ms : List Mem) (C : Cl) (hst : ∀ s ∈ B.steps, s.at_ = nowB B → okS s) (hlen : ∀ M ∈ Ms, M.log.length ≤ 1000000) (hlog : B.log.length ≤ 100000) :
    ACtr Try.prog 32 4 [PA b] (busPre B b Ms C) (fun _ : Unit => 0) (fun _ => .tup [(cVal B Ms C).av, IA (cEnt B Ms C).err]) (fun _ => busPre (busLog B Ms (cEnt B Ms C)) b (MsS B Ms) C) := by
  refine act Try.func32 rfl rfl rfl A32_ok rfl fun F w0 bb => ?_
  refine pureF 3 rfl rfl (q := C.ok) celH_lab fun hC => ?_
  have hlab := hC.2.1.1
  refine on ?_
  refine call_ab trivial (c69 B b) [1] rfl rfl rfl rfl rfl ⟨rfl, trivial⟩ (fun _ => rfl) (fun _ => rfl) (fun _ => trivial) (fun _ => ?_)
  refine onc ?_
  refine ev_more trivial ?_
  refine name_is 4 rfl (fun _ => trivial) fun bbox => ?_
  refine name_is 5 rfl (fun _ => trivial) fun cbox => ?_
  refine recast 11 6 (c := 4) (b := bbox) (v' := .fn (.func 82) [] [PA bbox, .ptr 5 0]) rfl rfl rfl trivial (fun ρ hb => by simp [AV.ev, AV.evs, hb]) ?_
  refine recast 11 7 (c := 5) (b := cbox) (v' := .fn (.func 82) [] [PA bbox, PA cbox]) rfl rfl rfl trivial (fun ρ hb => by simp [AV.ev, AV.evs, hb]) ?_
  refine recast 1 6 (c := 4) (b := bbox) (v' := PA bbox) rfl rfl rfl trivial (fun ρ hb => by simp [AV.ev, hb]) ?_
  refine recast 2 7 (c := 5) (b := cbox) (v' := PA cbox) rfl rfl rfl trivial (fun ρ hb => by simp [AV.ev, hb]) ?_
  refine leave 5 5 7 [] (A := ptC cbox [.v (.int .u64 0), .run .u8 32 (List.replicate 32 0)] 69) (Rs := []) rfl rfl trivial ⟨_, rfl⟩ rfl rfl rfl rfl rfl trivial (fun h hh => ptC_emp hh) ?_
  refine leave 4 4 6 [5] (A := cellX b bbox cbox cv0') (Rs := [ptC cbox [.v (.int .u64 0), .run .u8 32 (List.replicate 32 0)] 69]) rfl rfl ⟨rfl, trivial⟩ ⟨_, rfl⟩ rfl rfl rfl rfl rfl trivial (fun h hh => hh) ?_
  refine on ?_
  refine call_ab trivial (c81 B b Ms C cE0 rfl 82 [PA bbox, PA cbox] (cellX b bbox cbox cv0') (fun _ => rfl) hst hlen hlog { cE0 with data := lab64 C.now.label cE0.data } 0 (MsS B Ms) C (cellX b bbox cbox C.now)
    (fun _ x ok => c82 { B with off := false } x b (MsS B Ms) C hlab cE0 rfl bbox cbox cv0' rfl) (cEnt B Ms C) rfl) [1, 2, 3, 4] rfl rfl rfl rfl rfl ⟨rfl, rfl, rfl, rfl, trivial⟩ (fun _ => rfl) (fun _ => rfl) (fun _ => trivial) (fun _ => ?_)
  have e1 : (if (stB B Ms).1 = true then cellX b bbox cbox cv0' else cellX b bbox cbox C.now) = cellX b bbox cbox (cVal B Ms C) := by unfold cVal; split <;> rfl
  have hlv : (cVal B Ms C).label.length = 32 := by unfold cVal; split; rfl; exact hlab
  rw [ite_self, ite_self, e1]
  have hel : (cVal B Ms C).enc.length = 33 := by simp [CV.enc, hlv]
  refine splitF 4 (B := ptC cbox [.v (.int .u64 (cVal B Ms C).count), .run .u8 32 (cVal B Ms C).label] 69) (C := ptC bbox [PA b] 41) rfl rfl trivial (fun h hh => star_comm (star_mono (fun _ y => y) (fun y hy => ptC_emp hy) hh)) ?_
  refine weakF 8 (B := ownH 69 33 (some ⟨cbox, 0, none⟩) 1 1 (cVal B Ms C).enc) rfl rfl trivial (ptC_own (CV.evc hlv) (by simpa using hel)) ?_
  refine on ?_
  refine draw_ok mixed trivial O32_4_ok [(8, _), (9, _)] Q32_4_ok ⟨rfl, rfl, trivial⟩ rfl (fun ρ0 => ?_)
  refine on ?_
  refine ev_more trivial ?_
  refine dq_ldN tbl_ok rfl 8 rfl rfl rfl (cVal B Ms C).av (us := (cVal B Ms C).enc) (by simp [AV.ev, CV.evc hlv]) (by simpa using hel) (fun h hh => ?_) ?_
  · intro j u hj
    exact rdA_at (ownH_rd hh) hj
  refine on ?_
  refine ev_stSame tbl_ok trivial 8 rfl rfl (sz := 33) (l := 1) (xs := (cVal B Ms C).enc) (E := 69) (cap := 1) (off := 0) rfl rfl (v := (cVal B Ms C).av) (us := (cVal B Ms C).enc) (y := .agg (cVal B Ms C).enc.toArray) (by simp [AV.ev, CV.evc hlv]) rfl (by simpa using hel) (CV.one _) (by decide) (by rw [List.take_zero, List.nil_append, List.drop_eq_nil_of_le (by omega), List.append_nil]) ⟨rfl, rfl, trivial⟩ ?_ (by decide)
  refine on ?_
  refine ret_in trivial ?_
  refine weakF 8 (B := ptC cbox [.v (.int .u64 (cVal B Ms C).count), .run .u8 32 (cVal B Ms C).label] 69) rfl rfl trivial (own_ptC (CV.evc hlv)) ?_
  refine enter (X := Unit) (ok := fun _ => True) (cs := fun _ => [.v (.int .u64 (cVal B Ms C).count), .run .u8 32 (cVal B Ms C).label]) (T := 69) (Rs := fun _ => []) 8 2 0 rfl rfl rfl (fun _ => rfl) (fun h hh => ⟨(), trivial, star_emp hh⟩) (fun _ => trivial) fun _ _ => ?_
  refine ret_out ?_
  exact retE trivial rfl () [0, 1, 2, 3] rfl rfl rfl rfl ⟨_, rfl, fun ρ => rfl⟩ ⟨rfl, rfl, rfl, rfl, trivial⟩
abbrev nC (n : Int) : List AV := [.v (.int .u64 n)]
def advX (b bbox lbox nbox : Nat) (l : List Int) (n : Int) : HProp := star (ptC bbox [PA b] 41) (starL [ptC lbox [.run .u8 32 l] 48, ptC nbox (nC n) 67])
theorem c118 (B : Bs) (x : BX) (b : Nat) (Ms : List Mem) (C : Cl) (e : Ent) (bbox lbox nbox : Nat) (l : List Int) (hl : l.length = 32) (n : Int) (hpast : C.past.length < 1000000) :
    ACtr Try.prog 118 6 [.ptr 1 0, PA bbox, PA lbox, PA nbox] [(1, .cells e.cs 64), (2, frm (busK B x b)), (3, frm (memsH B.bs Ms)), (4, frm (celH C B.cb)), (5, frm (advX b bbox lbox nbox l n))] (fun _ : Unit => 0) (fun _ => IA (advE C))
      (fun _ => [(1, .cells e.cs 64), (2, frm (busK B x b)), (3, frm (memsH B.bs Ms)), (4, frm (celH (advC C l) B.cb)), (5, frm (advX b bbox lbox nbox l (advN C)))]) := by
  refine act Try.func118 rfl rfl rfl A118_ok rfl fun F w0 bb => ?_
  refine enter (X := Unit) (ok := fun _ => True) (cs := fun _ => [PA b]) (T := 41) (Rs := fun _ => [ptC lbox [.run .u8 32 l] 48, ptC nbox (nC n) 67]) 5 1 2 rfl rfl rfl (fun _ => rfl) (fun h hh => ⟨(), trivial, hh⟩) (fun _ => trivial) fun _ _ => ?_
  refine enter (X := Unit) (ok := fun _ => True) (cs := fun _ => [.run .u8 32 l]) (T := 48) (Rs := fun _ => []) 8 2 0 rfl rfl rfl (fun _ => rfl) (fun h hh => ⟨(), trivial, star_emp hh⟩) (fun _ => trivial) fun _ _ => ?_
  refine enter (X := Unit) (ok := fun _ => True) (cs := fun _ => nC n) (T := 67) (Rs := fun _ => []) 9 3 0 rfl rfl rfl (fun _ => rfl) (fun h hh => ⟨(), trivial, star_emp hh⟩) (fun _ => trivial) fun _ _ => ?_
  refine on ?_
  refine draw_ok mixed trivial O118_1_ok [(6, _), (2, _), (10, _)] Q118_1_ok ⟨rfl, rfl, rfl, trivial⟩ rfl (fun ρ0 => ?_)
  refine on ?_
  refine ev_more trivial ?_
  refine dq_ld1 tbl_ok rfl 2 rfl rfl rfl (PA B.cb) rfl busK_cb ?_
  refine on ?_
  refine call_ab trivial (c119 C B.cb l hl hpast) [4] rfl rfl rfl rfl rfl ⟨rfl, trivial⟩ (fun _ => rfl) (fun _ => rfl) (fun _ => ⟨rfl, rfl, rfl, trivial⟩) (fun _ => ?_)
  refine on ?_
  refine ret_in trivial ?_
  refine leave 9 12 13 [] (A := ptC nbox (nC (advN C)) 67) (Rs := []) rfl rfl trivial ⟨_, rfl⟩ rfl rfl rfl rfl rfl trivial (fun h hh => ptC_emp hh) ?_
  refine leave 8 10 11 [] (A := ptC lbox [.run .u8 32 l] 48) (Rs := []) rfl rfl trivial ⟨l.map (Value.int .u8), by simp [AV.evc, AV.ev1, hl]⟩ rfl rfl rfl rfl rfl trivial (fun h hh => ptC_emp hh) ?_
  refine leave 5 6 7 [8, 9] (A := advX b bbox lbox nbox l (advN C)) (Rs := [ptC lbox [.run .u8 32 l] 48, ptC nbox (nC (advN C)) 67]) rfl rfl ⟨rfl, rfl, trivial⟩ ⟨_, rfl⟩ rfl rfl rfl rfl rfl trivial (fun h hh => hh) ?_
  refine ret_out ?_
  exact retE trivial rfl () [0, 1, 2, 3, 4, 5] rfl rfl rfl rfl ⟨_, rfl, fun ρ => rfl⟩ ⟨rfl, rfl, rfl, rfl, rfl, rfl, trivial⟩
def aE0 (l : List Int) : Ent := ⟨5, 0, 0, lab64 l Z64, 0⟩
def aEnt (B : Bs) (Ms : List Mem) (C : Cl) (l : List Int) : Ent := if (stB B Ms).1 then { aE0 l with err := 13 } else { aE0 l with err := advE C }
def aNum (B : Bs) (Ms : List Mem) (C : Cl) : Int := if (stB B Ms).1 then 0 else advN C
def aCel (B : Bs) (Ms : List Mem) (C : Cl) (l : List Int) : Cl := if (stB B Ms).1 then C else advC C l
theorem c79 (B : Bs) (b : Nat) (Ms : List Mem) (C : Cl) (hst : ∀ s ∈ B.steps, s.at_ = nowB B → okS s) (hlen : ∀ M ∈ Ms, M.log.length ≤ 1000000) (hlog : B.log.length ≤ 100000) (l : List Int) (hl : l.length = 32) (hpast : C.past.length < 1000000) :
    ACtr Try.prog 79 4 [PA b, .run .u8 32 l] (busPre B b Ms C) (fun _ : Unit => 0) (fun _ => .tup [.v (.int .u64 (aNum B Ms C)), IA (aEnt B Ms C l).err]) (fun _ => busPre (busLog B Ms (aEnt B Ms C l)) b (MsS B Ms) (aCel B Ms C l)) := by
  refine act Try.func79 rfl rfl rfl A79_ok rfl fun F w0 bb => ?_
  have hao : (aE0 l).ok := lab_ok hl rfl
  refine on ?_
  refine call_ab trivial (c69 B b) [1] rfl rfl rfl rfl rfl ⟨rfl, trivial⟩ (fun _ => rfl) (fun _ => rfl) (fun _ => trivial) (fun _ => ?_)
  refine on ?_
  refine draw_ok mixed trivial O79_4_ok [] Q79_4_ok trivial rfl (fun ρ0 => ?_)
  refine on ?_
  refine ev_copy (off := 3) (dn := 64) u38' s5 (by simp) rfl rfl rfl (vs := Ent.enc ⟨5, 0, 0, Z64, 0⟩) (Ent.evc (e := ⟨5, 0, 0, Z64, 0⟩) rfl []) (src_named (off := 0) (cs := [.run .u8 32 l]) (vs := l.map (Value.int .u8)) rfl rfl rfl (by simp [AV.evc, AV.ev1, hl]) (fun j u h => by simpa using h)) (us := l.map (Value.int .u8)) (by simp [hl]) (by simp [hl]) (by simp [Ent.enc, hl]) (ints_one _ _) (cs' := (aE0 l).cs) (by rw [lab_copy (e := ⟨5, 0, 0, Z64, 0⟩) rfl hl]; exact @Ent.evc (aE0 l) hao []) trivial ?_
  refine onc ?_
  refine ev_more trivial ?_
  refine name_is 4 rfl (fun _ => trivial) fun bbox => ?_
  refine name_is 5 rfl (fun _ => trivial) fun lbox => ?_
  refine name_is 6 rfl (fun _ => trivial) fun nbox => ?_
  refine recast 17 8 (c := 4) (b := bbox) (v' := .fn (.func 118) [] [PA bbox, .ptr 5 0, .ptr 6 0]) rfl rfl rfl trivial (fun ρ hb => by simp [AV.ev, AV.evs, hb]) ?_
  refine recast 17 9 (c := 5) (b := lbox) (v' := .fn (.func 118) [] [PA bbox, PA lbox, .ptr 6 0]) rfl rfl rfl trivial (fun ρ hb => by simp [AV.ev, AV.evs, hb]) ?_
  refine recast 17 10 (c := 6) (b := nbox) (v' := .fn (.func 118) [] [PA bbox, PA lbox, PA nbox]) rfl rfl rfl trivial (fun ρ hb => by simp [AV.ev, AV.evs, hb]) ?_
  refine recast 4 10 (c := 6) (b := nbox) (v' := PA nbox) rfl rfl rfl trivial (fun ρ hb => by simp [AV.ev, hb]) ?_
  refine leave 6 6 10 [] (A := ptC nbox (nC 0) 67) (Rs := []) rfl rfl trivial ⟨_, rfl⟩ rfl rfl rfl rfl rfl trivial (fun h hh => ptC_emp hh) ?_
  refine leave 5 5 9 [] (A := ptC lbox [.run .u8 32 l] 48) (Rs := []) rfl rfl trivial ⟨l.map (Value.int .u8), by simp [AV.evc, AV.ev1, hl]⟩ rfl rfl rfl rfl rfl trivial (fun h hh => ptC_emp hh) ?_
  refine leave 4 4 8 [5, 6] (A := advX b bbox lbox nbox l 0) (Rs := [ptC lbox [.run .u8 32 l] 48, ptC nbox (nC 0) 67]) rfl rfl ⟨rfl, rfl, trivial⟩ ⟨_, rfl⟩ rfl rfl rfl rfl rfl trivial (fun h hh => hh) ?_
  refine on ?_
  refine call_ab trivial (c81 B b Ms C (aE0 l) hao 118 [PA bbox, PA lbox, PA nbox] (advX b bbox lbox nbox l 0) (fun _ => rfl) hst hlen hlog (aE0 l) (advE C) (MsS B Ms) (advC C l) (advX b bbox lbox nbox l (advN C))
    (fun _ x ok => c118 { B with off := false } x b (MsS B Ms) C (aE0 l) bbox lbox nbox l hl 0 hpast) (aEnt B Ms C l) rfl) [1, 2, 3, 4] rfl rfl rfl rfl rfl ⟨rfl, rfl, rfl, rfl, trivial⟩ (fun _ => rfl) (fun _ => rfl) (fun _ => trivial) (fun _ => ?_)
  have e1 : (if (stB B Ms).1 = true then advX b bbox lbox nbox l 0 else advX b bbox lbox nbox l (advN C)) = advX b bbox lbox nbox l (aNum B Ms C) := by unfold aNum; split <;> rfl
  have e2 : (if (stB B Ms).1 = true then C else advC C l) = aCel B Ms C l := rfl
  rw [ite_self, e1, e2]
  refine splitF 4 (B := ptC nbox (nC (aNum B Ms C)) 67) (C := star (ptC bbox [PA b] 41) (ptC lbox [.run .u8 32 l] 48)) rfl rfl trivial (fun h hh => star_comm (star_assoc' (star_mono (fun _ y => y) (fun _ y => star_mono (fun _ z => z) (fun _ z => ptC_emp z) y) hh))) ?_
  refine weakF 11 (B := ownH 67 1 (some ⟨nbox, 0, none⟩) 1 1 [.int .u64 (aNum B Ms C)]) rfl rfl trivial (ptC_own rfl rfl) ?_
  refine on ?_
  refine draw_ok mixed trivial O79_6_ok [(11, _), (7, _)] Q79_6_ok ⟨rfl, rfl, trivial⟩ rfl (fun ρ0 => ?_)
  refine on ?_
  refine ev_more trivial ?_
  refine dq_ld1 tbl_ok rfl 11 rfl rfl rfl (.v (.int .u64 (aNum B Ms C))) rfl (fun h hh => rdA_at (j := 0) (ownH_rd hh) rfl) ?_
  refine on ?_
  refine ev_stSame tbl_ok trivial 11 rfl rfl (sz := 1) (l := 1) (xs := [.int .u64 (aNum B Ms C)]) (E := 67) (cap := 1) (off := 0) rfl rfl (v := .v (.int .u64 (aNum B Ms C))) (us := [.int .u64 (aNum B Ms C)]) rfl rfl rfl (fun u hu => by simp only [List.mem_singleton] at hu; subst hu; rfl) (by decide) rfl ⟨rfl, rfl, trivial⟩ ?_ (by decide)
  refine on ?_
  refine ret_in trivial ?_
  refine weakF 11 (B := ptC nbox (nC (aNum B Ms C)) 67) rfl rfl trivial (own_ptC rfl) ?_
  refine enter (X := Unit) (ok := fun _ => True) (cs := fun _ => nC (aNum B Ms C)) (T := 67) (Rs := fun _ => []) 11 4 0 rfl rfl rfl (fun _ => rfl) (fun h hh => ⟨(), trivial, star_emp hh⟩) (fun _ => trivial) fun _ _ => ?_
  refine ret_out ?_
  exact retE trivial rfl () [0, 1, 2, 3] rfl rfl rfl rfl ⟨_, rfl, fun ρ => rfl⟩ ⟨rfl, rfl, rfl, rfl, trivial⟩
end Go.Proofs.Ytolcobhaghdfcaa
