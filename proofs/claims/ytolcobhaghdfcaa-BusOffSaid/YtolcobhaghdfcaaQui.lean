/- Walk of casematelaw13.BusQuiet. -/
import Derived.Test.YtolcobhaghdfcaaCpy
namespace Go.Proofs.Ytolcobhaghdfcaa
open Sx Go
set_option maxRecDepth 100000
structure Ac where
  do_ : Int
  mem : Int
  idx : Int
  data : List Int
  label : List Int
def Ac.ok (y : Ac) : Prop := y.data.length = 64 ∧ y.label.length = 32
def Ac.enc (y : Ac) : List Value := [.int .i64 y.do_, .int .i64 y.mem, .int .i64 y.idx] ++ y.data.map (Value.int .u8) ++ y.label.map (Value.int .u8)
abbrev Ac.cs (y : Ac) : List AV := [IA y.do_, IA y.mem, IA y.idx, .run .u8 64 y.data, .run .u8 32 y.label]
abbrev Ac.av (y : Ac) : AV := .agg y.cs
def encA (l : List Ac) : List Value := l.flatMap Ac.enc
theorem Ac.evc {y : Ac} (h : y.ok) (ρ : List Nat) : AV.evc ρ y.cs = some y.enc := by
  obtain ⟨h1, h2⟩ := h
  simp [AV.evc, AV.ev1, Ac.enc, h1, h2]
theorem Ac.enc_len {y : Ac} (h : y.ok) : y.enc.length = 99 := by obtain ⟨h1, h2⟩ := h; simp [Ac.enc, h1, h2]
theorem encA_get {l : List Ac} (hok : ∀ c ∈ l, c.ok) {t : Nat} (h : t < l.length) {j : Nat} {u : Value} (hj : (l[t]).enc[j]? = some u) : (encA l)[t * 99 + j]? = some u := by
  induction l generalizing t with
  | nil => simp at h
  | cons w r ih =>
    have hw := Ac.enc_len (hok w (by simp))
    simp only [encA, List.flatMap_cons]
    cases t with
    | zero =>
      simp at hj
      rw [Nat.zero_mul, Nat.zero_add, List.getElem?_append_left (by have := (List.getElem?_eq_some_iff.1 hj).1; omega)]
      exact hj
    | succ t =>
      simp at hj
      rw [List.getElem?_append_right (by rw [hw]; omega), hw, show (t + 1) * 99 + j - 99 = t * 99 + j by omega]
      exact ih (fun w hw => hok w (by simp [hw])) (by simpa using h) hj
/-- a step's number is written -/
theorem encS_at {v : Int} : ∀ {p : List Stp} {s : Stp} {r : List Stp} {ds : List Ds} (_ : ∀ s ∈ p, s.ok) (ht : p.length < ds.length), (encS (p ++ s :: r) ds).take (p.length * 70) ++ [.int .i64 v] ++ (encS (p ++ s :: r) ds).drop (p.length * 70 + 1) = encS (p ++ { s with at_ := v } :: r) ds
  | [], s, r, [], _, h => absurd h (by simp)
  | [], s, r, d :: ds, _, _ => by simp [encS, Stp.enc]
  | a :: p, s, r, [], _, h => absurd h (by simp)
  | a :: p, s, r, d :: ds, hok, h => by
    have h1 := Stp.enc_len d (hok a (by simp))
    have ih := encS_at (v := v) (p := p) (s := s) (r := r) (ds := ds) (fun s hs => hok s (by simp [hs])) (by simpa using h)
    simp only [List.cons_append, List.length_cons, encS]
    rw [show (p.length + 1) * 70 = (a.enc d).length + p.length * 70 by rw [h1]; omega, List.take_length_add_append, show (a.enc d).length + p.length * 70 + 1 = (a.enc d).length + (p.length * 70 + 1) by omega, List.drop_length_add_append, List.append_assoc, List.append_assoc, ← ih, List.append_assoc]
/-- the steps, ahead of which numbers are written -/
def Late (l p : List Stp) : Prop := p.length ≤ l.length ∧ ∀ (i : Nat) (h : i < p.length) (h2 : i < l.length), p[i] = { l[i] with at_ := 1000 + i }
theorem Late.snoc {l p : List Stp} (H : Late l p) (h : p.length < l.length) : Late l (p ++ [{ l[p.length] with at_ := 1000 + p.length }]) := by
  refine ⟨by simp; omega, fun i h1 h2 => ?_⟩
  simp only [List.length_append, List.length_cons, List.length_nil] at h1
  rcases Nat.lt_or_ge i p.length with h3 | h3
  · rw [List.getElem_append_left h3]; exact H.2 i h3 h2
  · have : i = p.length := by omega
    subst this
    simp
theorem dsOk_mk : ∀ {l : List Stp} {ds : List Ds}, ds.length = l.length → (∀ (t : Nat) (h1 : t < l.length) (h2 : t < ds.length), (ds[t].1 = none → l[t].picks.length = 0 ∧ ds[t].2 = 0) ∧ l[t].picks.length ≤ 140737488351232 ∧ l[t].ok) → dsOk l ds
  | [], [], _, _ => trivial
  | [], _ :: _, h, _ => by simp at h
  | _ :: _, [], h, _ => by simp at h
  | s :: l, d :: ds, h, H => by
    obtain ⟨h1, h2, h3⟩ := H 0 (by simp) (by simp)
    exact ⟨h1, h2, h3, dsOk_mk (by simpa using h) fun t h4 h5 => by have := H (t + 1) (by simp; omega) (by simp; omega); simpa using this⟩
theorem Late.ds {l p : List Stp} {ds : List Ds} (H : Late l p) (he : p.length = l.length) (hd : dsOk l ds) : dsOk p ds := by
  have hl := dsOk_len hd
  refine dsOk_mk (by omega) fun t h1 h2 => ?_
  rw [H.2 t h1 (by omega)]
  exact dsOk_get hd (by omega) h2
theorem quiet_st {B : Bs} {Ms : List Mem} (h : ∀ s ∈ B.steps, s.at_ ≠ nowB B) : stB B Ms = (B.off, Ms) := by
  unfold stB stepsB
  generalize (B.off, Ms) = st
  generalize nowB B = now at h
  revert h
  generalize B.steps = l
  induction l generalizing st with
  | nil => intro _; rfl
  | cons s r ih =>
    intro h
    rw [List.foldl_cons, stp1, if_neg (h s (by simp))]
    exact ih st fun s hs => h s (by simp [hs])
section
variable {B : Bs} {Ms : List Mem} (hq : ∀ s ∈ B.steps, s.at_ ≠ nowB B) (hoff : B.off = false)
include hq hoff
theorem q_ent {e : Ent} {D : Dm} {M : Mem} (hM : selM Ms e.mem = some M) : atEnt B Ms e D = { D.en M with err := D.er M } ∧ atMs B Ms e D = Ms.set e.mem.toNat (D.mm M) := by
  have h := quiet_st (Ms := Ms) hq
  unfold atEnt atMs MsS
  rw [h, hoff]
  simp only [Bool.false_eq_true, if_false]
  unfold atE atR atM
  rw [hM]
  exact ⟨rfl, rfl⟩
theorem q_log (e : Ent) : busLog B Ms e = { B with off := false, log := B.log ++ [e] } := by
  unfold busLog
  rw [quiet_st (Ms := Ms) hq, hoff]
variable (b : Nat) (C : Cl) (hlen : ∀ M ∈ Ms, M.log.length ≤ 1000000) (hlog : B.log.length ≤ 100000) {m : Int} (h0 : 0 ≤ m) (hm : m.toNat < Ms.length)
include hlen hlog h0 hm
theorem q20 (i : Int) (s : List Int) (hs : s.length = 64) : ∃ e : Ent, ACtr Try.prog 20 4 [PA b, IA m, IA i, .run .u8 64 s] (busPre B b Ms C) (fun _ : Unit => 0) (fun _ => IA (ioM Ms[m.toNat] i)) (fun _ => busPre { B with off := false, log := B.log ++ [e] } b (Ms.set m.toNat (wrM Ms[m.toNat] i s)) C) := by
  have hsel : selM Ms m = some Ms[m.toNat] := by rw [selM, if_pos h0, List.getElem?_eq_getElem hm]
  have h := c20 B b Ms C (fun s hs ht => absurd ht (hq s hs)) hlen hlog m i s hs
  have h2 := q_ent hq hoff (e := eW m i s) (D := dW (eW m i s)) hsel
  unfold wEnt wMs at h
  rw [q_log hq hoff, h2.1, h2.2] at h
  exact ⟨_, h⟩
theorem q22 : ∃ e : Ent, ACtr Try.prog 22 4 [PA b, IA m] (busPre B b Ms C) (fun _ : Unit => 0) (fun _ => IA (ioM Ms[m.toNat] 0)) (fun _ => busPre { B with off := false, log := B.log ++ [e] } b (Ms.set m.toNat (flM Ms[m.toNat])) C) := by
  have hsel : selM Ms m = some Ms[m.toNat] := by rw [selM, if_pos h0, List.getElem?_eq_getElem hm]
  have h := c22 B b Ms C (fun s hs ht => absurd ht (hq s hs)) hlen hlog m
  have h2 := q_ent hq hoff (e := eF m) (D := dF (eF m)) hsel
  unfold fEnt fMs at h
  rw [q_log hq hoff, h2.1, h2.2] at h
  exact ⟨_, h⟩
theorem q24 (i : Int) : ∃ e : Ent, ACtr Try.prog 24 4 [PA b, IA m, IA i] (busPre B b Ms C) (fun _ : Unit => 0) (fun _ => .tup [.run .u8 64 (rdM Ms[m.toNat] i), IA (ioM Ms[m.toNat] i)]) (fun _ => busPre { B with off := false, log := B.log ++ [e] } b Ms C) := by
  have hsel : selM Ms m = some Ms[m.toNat] := by rw [selM, if_pos h0, List.getElem?_eq_getElem hm]
  have h := c24 B b Ms C (fun s hs ht => absurd ht (hq s hs)) hlen hlog m i
  have h2 := q_ent hq hoff (e := eR m i) (D := dR (eR m i)) hsel
  unfold rEnt rMs at h
  rw [q_log hq hoff, h2.1, h2.2] at h
  refine ⟨{ (dR (eR m i)).en Ms[m.toNat] with err := (dR (eR m i)).er Ms[m.toNat] }, ?_⟩
  have e : Ms.set (eR m i).mem.toNat ((dR (eR m i)).mm Ms[m.toNat]) = Ms := List.set_getElem_self hm
  rw [e] at h
  exact h
end
theorem wrM_hurt {M : Mem} {i : Int} {s : List Int} {t : Nat} (h : M.hurt = false ∧ M.log.length ≤ t) : (wrM M i s).hurt = false ∧ (wrM M i s).log.length ≤ t + 1 := by
  unfold wrM
  split
  · exact ⟨h.1, by simp; exact h.2⟩
  · exact ⟨h.1, Nat.le_succ_of_le h.2⟩
theorem flM_hurt {M : Mem} {t : Nat} (h : M.hurt = false ∧ M.log.length ≤ t) : (flM M).hurt = false ∧ (flM M).log.length ≤ t + 1 := by
  unfold flM
  split
  · exact ⟨h.1, by simp [settleM]⟩
  · exact ⟨h.1, Nat.le_succ_of_le h.2⟩
structure QX where
  t : Nat
  Ms : List Mem
  log : List Ent
theorem c4 (sa : Option Addr) (sc : Nat) (l : List Stp) (ds : List Ds) (hds : dsOk l ds) (hnil : sa = none → l.length = 0 ∧ sc = 0) (aa : Option Addr) (ac : Nat) (ys : List Ac) (hys : ∀ y ∈ ys, y.ok)
    (O : HProp) (hS : ∀ h, O h → rdA sa (encS l ds) h) (hA : ∀ h, O h → rdA aa (encA ys) h) (hP : ∀ h, O h → ∀ (t : Nat) (h1 : t < l.length) (h2 : t < ds.length), rdA ds[t].1 (U8 l[t].picks) h) :
    ACtr Try.prog 4 2 [SA sa l.length sc, SA aa ys.length ac] [(1, frm O)] (fun _ : Unit => 0) (fun _ => .tt) (fun _ => [(1, frm O)]) := by
  refine act Try.func4 rfl rfl rfl A4_ok rfl fun F w0 bb => ?_
  refine on ?_
  refine ev_lt trivial (fun h1 => ?_) (fun h1 => ?_)
  · refine on ?_
    refine call_ab trivial c17 [] rfl rfl rfl rfl rfl trivial (fun _ => rfl) (fun _ => rfl) (fun _ => trivial) (fun _ => ?_)
    refine on ?_
    exact retE trivial rfl () [0, 1] rfl rfl rfl rfl ⟨_, rfl, fun ρ => rfl⟩ ⟨rfl, rfl, trivial⟩
  refine on ?_
  refine ev_lt trivial (fun h2 => ?_) (fun h2 => ?_)
  · refine on ?_
    refine call_ab trivial c17 [] rfl rfl rfl rfl rfl trivial (fun _ => rfl) (fun _ => rfl) (fun _ => trivial) (fun _ => ?_)
    refine on ?_
    exact retE trivial rfl () [0, 1] rfl rfl rfl rfl ⟨_, rfl, fun ρ => rfl⟩ ⟨rfl, rfl, trivial⟩
  have hl : l.length ≤ 30 := by omega
  have hy : ys.length ≤ 60 := by omega
  have hok := dsOk_ok hds
  have hdl := dsOk_len hds
  refine onc ?_
  refine ev_more trivial ?_
  refine own_named (sz := 70) 36 2 rfl rfl (vs := []) rfl rfl rfl (Nat.le_refl _) (by decide) (fun _ => trivial) (fun g0 => ?_)
  refine on ?_
  refine ev_appA (us := encS l ds) (m := l.length) row36 trivial 2 rfl rfl rfl rfl (src_abs (R := O) 1 rfl rfl rfl rfl (fun e => (hnil e).2) hS) (encS_len hok hdl) (encS_one l ds) (by rw [Nat.zero_add]; exact ⟨by omega, by unfold maxLen; omega⟩) (fun _ => trivial) (fun a' c' => ?_)
  rw [Nat.zero_add, Nat.zero_mul, List.take_nil, List.nil_append]
  refine pureF 2 rfl rfl (q := 0 < l.length → ∃ ad, a' = some ad) (fun h hh hn => ownH_some hh hn) fun hla => ?_
  refine pureF 2 rfl rfl (q := a' = none → l.length = 0 ∧ c' = 0) (fun h hh => ownH_none hh) fun hln => ?_
  refine on ?_
  refine ev_loop trivial (ι := List Stp) (fun p => Late l p) (fun p => l.length - p.length)
    (fun p => [(0, SA sa l.length sc), (1, SA aa ys.length ac), (5, SA a' l.length c'), (6, IA p.length)])
    (fun p => [(0, frm F), (1, frm O), (2, frm (ownH 40 70 a' l.length c' (encS (p ++ l.drop p.length) ds)))]) 3 [] ⟨Nat.zero_le _, fun i h => absurd h (by simp)⟩
    (Fit.of [0, 1, 2] rfl rfl rfl rfl ⟨rfl, rfl, rfl, rfl, trivial⟩ ⟨rfl, rfl, rfl, trivial⟩) (fun p hp => ?_)
  refine on ?_
  refine ev_lt trivial (fun h3 => ?_) (fun h3 => ?_)
  · have h3' : p.length < l.length := by omega
    obtain ⟨ad, rfl⟩ := hla (by omega)
    have hdr : l.drop p.length = l[p.length] :: l.drop (p.length + 1) := List.drop_eq_getElem_cons h3'
    have hpok : ∀ s ∈ p, s.ok := fun s hs => by
      obtain ⟨i, hi, rfl⟩ := List.getElem_of_mem hs
      have h := hok l[i] (List.getElem_mem (by omega))
      rw [hp.2 i hi (by omega)]
      exact h
    refine on ?_
    refine ev_stA tbl_ok ⟨⟨trivial, by unfold InR; omega⟩, by omega, by omega⟩ 2 rfl rfl (sz := 70) (l := l.length) (xs := encS (p ++ l.drop p.length) ds) (E := 40) (cap := c') (off := p.length * 70) ?_ rfl (v := IA (1000 + p.length)) (us := [.int .i64 (1000 + p.length)]) rfl rfl rfl (fun u hu => by simp only [List.mem_singleton] at hu; subst hu; rfl) ?_ trivial ?_ (by decide)
    · rw [show (p.length : Int).toNat = p.length from Int.toNat_natCast _] ; rfl
    · omega
    rw [hdr, encS_at hpok (by omega)]
    refine on ?_
    refine ev_lend ⟨trivial, by unfold InR; omega⟩ (p ++ [{ l[p.length] with at_ := 1000 + p.length }]) (hp.snoc h3') (by simp; omega) (Fit.of [0, 1, 2] rfl rfl rfl rfl ⟨rfl, rfl, rfl, ?_, trivial⟩ ⟨rfl, rfl, ?_, trivial⟩)
    · simp only [List.length_append, List.length_cons, List.length_nil]; rfl
    · simp only [List.length_append, List.length_cons, List.length_nil, List.append_assoc, List.singleton_append]; rfl
  have hpl : p.length = l.length := by have := hp.1; omega
  have hpd := hp.ds hpl hds
  rw [show l.drop p.length = [] by rw [hpl, List.drop_length], List.append_nil]
  have hPp : ∀ h, O h → ∀ (t : Nat) (h1 : t < p.length) (h2 : t < ds.length), rdA ds[t].1 (U8 p[t].picks) h := fun h hh t h4 h5 => by
    rw [hp.2 t h4 (by omega)]
    exact hP h hh t (by omega) h5
  have hlate : ∀ s ∈ p, 1000 ≤ s.at_ := fun s hs => by
    obtain ⟨i, hi, rfl⟩ := List.getElem_of_mem hs
    rw [hp.2 i hi (by omega)]
    dsimp only; omega
  refine on ?_
  refine call_ab trivial ((c18 a' c' p ds (ownH 40 70 a' l.length c' (encS p ds)) (fun h hh => ownH_rd hh) (fun e => ⟨by have := (hln e).1; omega, (hln e).2⟩) hpd (by omega) O hPp).args (avs' := [SA a' l.length c']) (fun ρ => by rw [hpl])) [2, 1] rfl rfl rfl rfl rfl ⟨rfl, rfl, trivial⟩ (fun _ => rfl) (fun _ => rfl) (fun _ => trivial) (fun x => ?_)
  obtain ⟨x, a, b, c⟩ := x
  dsimp only
  refine onc ?_
  refine ev_more trivial ?_
  refine splitF 4 (B := memH (newM 4) a) (C := memsH [b] [newM 4]) rfl rfl trivial (fun h hh => hh) ?_
  refine splitF 4 (B := memH (newM 4) b) (C := emp) rfl rfl trivial (fun h hh => hh) ?_
  refine on ?_
  refine call_ab trivial (c19 (newM 4) a rfl (newM_log 4)) [6] rfl rfl rfl rfl rfl ⟨rfl, trivial⟩ (fun _ => rfl) (fun _ => rfl) (fun _ => trivial) (fun a1 => ?_)
  refine on ?_
  refine call_ab trivial (c19 (newM 4) b rfl (newM_log 4)) [7] rfl rfl rfl rfl rfl ⟨rfl, trivial⟩ (fun _ => rfl) (fun _ => rfl) (fun _ => trivial) (fun b1 => ?_)
  refine on ?_
  refine loop_in trivial ?_
  refine own_named (sz := 1) 10 10 rfl rfl (vs := [a1, b1].map ptrV) rfl rfl rfl (Nat.le_refl _) (by decide) (fun _ => trivial) (fun g1 => ?_)
  refine joinF 6 7 (A := memsH [a, b] [newM 4, newM 4]) rfl rfl rfl rfl rfl trivial (fun h hh => mems_two (star_comm hh)) ?_
  refine joinF 8 9 (A := memsH [a1, b1] [newM 4, newM 4]) rfl rfl rfl rfl rfl trivial (fun h hh => mems_two (star_comm hh)) ?_
  refine pureF 1 rfl rfl (q := 0 < ys.length → ∃ ad, aa = some ad) (fun h hh hn => rdA_some (hA h hh) (by
    cases ys with
    | nil => simp at hn
    | cons y r => simp [encA, Ac.enc])) fun haa => ?_
  refine on ?_
  refine ev_loop trivial (ι := QX) (fun q => q.t ≤ ys.length ∧ q.Ms.length = 2 ∧ (∀ M ∈ q.Ms, M.hurt = false ∧ M.log.length ≤ q.t) ∧ q.log.length ≤ q.t) (fun q => ys.length - q.t)
    (fun q => [(1, SA aa ys.length ac), (7, PA x), (8, PA a), (9, PA b), (10, SA (some ⟨g1, 0, none⟩) 2 2), (11, IA q.t)])
    (fun q => [(0, frm F), (1, frm O), (2, frm (busH ⟨[a, b], c, p, false, q.log⟩ x)), (3, frm (memsH [a, b] q.Ms)), (4, frm (celH cel0 c)), (5, frm (memsH [a1, b1] q.Ms)), (6, frm (ownH 42 1 (some ⟨g1, 0, none⟩) 2 2 ([a1, b1].map ptrV)))]) 7 ⟨0, [newM 4, newM 4], []⟩ ⟨Nat.zero_le _, rfl, fun M hM => ?_, Nat.zero_le _⟩
    (Fit.of [0, 1, 3, 6, 5, 8, 10] rfl rfl rfl rfl ⟨rfl, rfl, rfl, rfl, rfl, rfl, trivial⟩ ⟨rfl, rfl, rfl, rfl, rfl, rfl, rfl, trivial⟩) (fun q hq => ?_)
  · simp only [List.mem_cons, List.not_mem_nil, or_false] at hM
    rcases hM with rfl | rfl <;> exact ⟨rfl, Nat.le_refl _⟩
  obtain ⟨t, Ms, log⟩ := q
  obtain ⟨ht, hM2, hMs, hlg⟩ := hq
  dsimp only at ht hM2 hMs hlg
  have hlen : ∀ M ∈ Ms, M.log.length ≤ 1000000 := fun M hM => Nat.le_trans (hMs M hM).2 (by omega)
  have hquiet : ∀ s ∈ (Bs.mk [a, b] c p false log).steps, s.at_ ≠ nowB ⟨[a, b], c, p, false, log⟩ := fun s hs => by
    have h4 := hlate s hs
    have h5 : nowB ⟨[a, b], c, p, false, log⟩ = (log.length : Int) := rfl
    rw [h5]; omega
  refine on ?_
  refine ev_lt trivial (fun h4 => ?_) (fun h4 => ?_)
  · have h4' : t < ys.length := by dsimp only at h4; omega
    obtain ⟨ad, rfl⟩ := haa (by omega)
    have hyo := hys ys[t] (List.getElem_mem h4')
    refine on ?_
    refine ev_ldN tbl_ok ⟨trivial, by dsimp only; omega, h4⟩ 1 rfl rfl rfl (ys[t]).av (us := (ys[t]).enc) ?_ (Ac.enc_len hyo) (fun h hh => ?_) trivial ?_
    · simp only [AV.ev, Ac.evc hyo, Option.map_some]
    · dsimp only
      rw [show ((t : Int)).toNat = t from Int.toNat_natCast t]
      exact rd_at (hA h hh) rfl _ fun j u hj => encA_get hys h4' hj
    generalize hyg : ys[t] = y at hyo
    refine on ?_
    have skip : ∀ M ∈ Ms, M.hurt = false ∧ M.log.length ≤ t + 1 := fun M hM => ⟨(hMs M hM).1, Nat.le_succ_of_le (hMs M hM).2⟩
    refine ev_lt trivial (fun h5 => ?_) (fun h5 => ?_)
    · refine on ?_
      exact ev_lend ⟨trivial, by unfold InR; dsimp only; omega⟩ ⟨t + 1, Ms, log⟩ ⟨h4', hM2, skip, Nat.le_succ_of_le hlg⟩ (by dsimp only; omega) (Fit.of [0, 1, 2, 3, 4, 5, 6] rfl rfl rfl rfl ⟨rfl, rfl, rfl, rfl, rfl, rfl, trivial⟩ ⟨rfl, rfl, rfl, rfl, rfl, rfl, rfl, trivial⟩)
    refine on ?_
    refine ev_lt trivial (fun h6 => ?_) (fun h6 => ?_)
    · refine on ?_
      exact ev_lend ⟨trivial, by unfold InR; dsimp only; omega⟩ ⟨t + 1, Ms, log⟩ ⟨h4', hM2, skip, Nat.le_succ_of_le hlg⟩ (by dsimp only; omega) (Fit.of [0, 1, 2, 3, 4, 5, 6] rfl rfl rfl rfl ⟨rfl, rfl, rfl, rfl, rfl, rfl, trivial⟩ ⟨rfl, rfl, rfl, rfl, rfl, rfl, rfl, trivial⟩)
    have h0 : 0 ≤ y.mem := by omega
    have hi : y.mem.toNat < Ms.length := by omega
    have hi2 : y.mem.toNat < [a1, b1].length := by simp; omega
    have hbt : [a1, b1][y.mem.toNat]? = some ([a1, b1][y.mem.toNat]) := List.getElem?_eq_getElem hi2
    have hMt : Ms[y.mem.toNat]? = some Ms[y.mem.toNat] := List.getElem?_eq_getElem hi
    have hMi := hMs _ (List.getElem_mem hi)
    have inv : ∀ X : Mem, (X.hurt = false ∧ X.log.length ≤ t + 1) → ∀ M ∈ Ms.set y.mem.toNat X, M.hurt = false ∧ M.log.length ≤ t + 1 := fun X hX M hM => by
      rcases List.mem_or_eq_of_mem_set hM with hM | rfl
      · exact skip M hM
      · exact hX
    refine on ?_
    refine ev_ld1 tbl_ok ⟨trivial, by omega, by omega⟩ 6 rfl rfl rfl (PA ([a1, b1][y.mem.toNat])) rfl (fun h hh => ?_) trivial ?_
    · rw [show y.mem.toNat * 1 = y.mem.toNat by omega]
      exact rdA_at (ownH_rd hh) (ptr_get hbt)
    generalize hmg : [a1, b1][y.mem.toNat] = mb at hbt
    refine splitF 5 (B := memH Ms[y.mem.toNat] mb) (C := memsX [a1, b1] Ms y.mem.toNat) rfl rfl trivial (fun h hh => mems_out hbt hMt hh) ?_
    refine on ?_
    refine ev_lt trivial (fun h7 => ?_) (fun h7 => ?_)
    · refine on ?_
      refine draw_ok mixed trivial O4_21_ok [(7, _)] Q4_21_ok ⟨rfl, trivial⟩ rfl (fun ρ0 => ?_)
      refine on ?_
      obtain ⟨e, hc⟩ := q20 (B := ⟨[a, b], c, p, false, log⟩) (Ms := Ms) hquiet rfl x cel0 hlen (by dsimp only; omega) h0 hi y.idx y.data hyo.1
      refine call_ab trivial hc [2, 3, 4] rfl rfl rfl rfl rfl ⟨rfl, rfl, rfl, trivial⟩ (fun _ => rfl) (fun _ => rfl) (fun _ => ⟨rfl, trivial⟩) (fun _ => ?_)
      refine on ?_
      refine call_ab trivial (c21 Ms[y.mem.toNat] mb y.idx y.data hyo.1 (hlen _ (List.getElem_mem hi))) [8] rfl rfl rfl rfl rfl ⟨rfl, trivial⟩ (fun _ => rfl) (fun _ => rfl) (fun _ => ⟨rfl, trivial⟩) (fun _ => ?_)
      refine joinF 5 8 (A := memsH [a1, b1] (Ms.set y.mem.toNat (wrM Ms[y.mem.toNat] y.idx y.data))) rfl rfl rfl rfl rfl ⟨rfl, trivial⟩ (fun h hh => mems_in hbt hh) ?_
      refine on ?_
      refine ev_ne trivial (fun h => absurd rfl h) (fun _ => ?_)
      refine on ?_
      exact ev_lend ⟨trivial, by unfold InR; dsimp only; omega⟩ ⟨t + 1, Ms.set y.mem.toNat (wrM Ms[y.mem.toNat] y.idx y.data), log ++ [e]⟩ ⟨h4', by simpa using hM2, inv _ (wrM_hurt hMi), by simp; omega⟩ (by dsimp only; omega) (Fit.of [0, 1, 2, 3, 4, 5, 6] rfl rfl rfl rfl ⟨rfl, rfl, rfl, rfl, rfl, rfl, trivial⟩ ⟨rfl, rfl, rfl, rfl, rfl, rfl, rfl, trivial⟩)
    refine on ?_
    refine ev_lt trivial (fun h8 => ?_) (fun h8 => ?_)
    · refine on ?_
      refine draw_ok mixed trivial O4_21_ok [(7, _)] Q4_21_ok ⟨rfl, trivial⟩ rfl (fun ρ0 => ?_)
      refine on ?_
      obtain ⟨e, hc⟩ := q20 (B := ⟨[a, b], c, p, false, log⟩) (Ms := Ms) hquiet rfl x cel0 hlen (by dsimp only; omega) h0 hi y.idx y.data hyo.1
      refine call_ab trivial hc [2, 3, 4] rfl rfl rfl rfl rfl ⟨rfl, rfl, rfl, trivial⟩ (fun _ => rfl) (fun _ => rfl) (fun _ => ⟨rfl, trivial⟩) (fun _ => ?_)
      refine on ?_
      refine call_ab trivial (c21 Ms[y.mem.toNat] mb y.idx y.data hyo.1 (hlen _ (List.getElem_mem hi))) [8] rfl rfl rfl rfl rfl ⟨rfl, trivial⟩ (fun _ => rfl) (fun _ => rfl) (fun _ => ⟨rfl, trivial⟩) (fun _ => ?_)
      refine joinF 5 8 (A := memsH [a1, b1] (Ms.set y.mem.toNat (wrM Ms[y.mem.toNat] y.idx y.data))) rfl rfl rfl rfl rfl ⟨rfl, trivial⟩ (fun h hh => mems_in hbt hh) ?_
      refine on ?_
      refine ev_ne trivial (fun h => absurd rfl h) (fun _ => ?_)
      refine on ?_
      exact ev_lend ⟨trivial, by unfold InR; dsimp only; omega⟩ ⟨t + 1, Ms.set y.mem.toNat (wrM Ms[y.mem.toNat] y.idx y.data), log ++ [e]⟩ ⟨h4', by simpa using hM2, inv _ (wrM_hurt hMi), by simp; omega⟩ (by dsimp only; omega) (Fit.of [0, 1, 2, 3, 4, 5, 6] rfl rfl rfl rfl ⟨rfl, rfl, rfl, rfl, rfl, rfl, trivial⟩ ⟨rfl, rfl, rfl, rfl, rfl, rfl, rfl, trivial⟩)
    refine on ?_
    refine ev_lt trivial (fun h9 => ?_) (fun h9 => ?_)
    · refine on ?_
      obtain ⟨e, hc⟩ := q22 (B := ⟨[a, b], c, p, false, log⟩) (Ms := Ms) hquiet rfl x cel0 hlen (by dsimp only; omega) h0 hi
      refine call_ab trivial hc [2, 3, 4] rfl rfl rfl rfl rfl ⟨rfl, rfl, rfl, trivial⟩ (fun _ => rfl) (fun _ => rfl) (fun _ => trivial) (fun _ => ?_)
      refine on ?_
      refine call_ab trivial (c23 Ms[y.mem.toNat] mb (hlen _ (List.getElem_mem hi))) [8] rfl rfl rfl rfl rfl ⟨rfl, trivial⟩ (fun _ => rfl) (fun _ => rfl) (fun _ => trivial) (fun _ => ?_)
      refine joinF 5 8 (A := memsH [a1, b1] (Ms.set y.mem.toNat (flM Ms[y.mem.toNat]))) rfl rfl rfl rfl rfl trivial (fun h hh => mems_in hbt hh) ?_
      refine on ?_
      refine ev_ne trivial (fun h => absurd rfl h) (fun _ => ?_)
      refine on ?_
      exact ev_lend ⟨trivial, by unfold InR; dsimp only; omega⟩ ⟨t + 1, Ms.set y.mem.toNat (flM Ms[y.mem.toNat]), log ++ [e]⟩ ⟨h4', by simpa using hM2, inv _ (flM_hurt hMi), by simp; omega⟩ (by dsimp only; omega) (Fit.of [0, 1, 2, 3, 4, 5, 6] rfl rfl rfl rfl ⟨rfl, rfl, rfl, rfl, rfl, rfl, trivial⟩ ⟨rfl, rfl, rfl, rfl, rfl, rfl, rfl, trivial⟩)
    refine on ?_
    refine ev_lt trivial (fun h10 => ?_) (fun h10 => ?_)
    · refine on ?_
      obtain ⟨e, hc⟩ := q24 (B := ⟨[a, b], c, p, false, log⟩) (Ms := Ms) hquiet rfl x cel0 hlen (by dsimp only; omega) h0 hi y.idx
      refine call_ab trivial hc [2, 3, 4] rfl rfl rfl rfl rfl ⟨rfl, rfl, rfl, trivial⟩ (fun _ => rfl) (fun _ => rfl) (fun _ => trivial) (fun _ => ?_)
      refine on ?_
      refine call_ab trivial (c25 Ms[y.mem.toNat] mb y.idx) [8] rfl rfl rfl rfl rfl ⟨rfl, trivial⟩ (fun _ => rfl) (fun _ => rfl) (fun _ => trivial) (fun _ => ?_)
      refine joinF 5 8 (A := memsH [a1, b1] (Ms.set y.mem.toNat Ms[y.mem.toNat])) rfl rfl rfl rfl rfl trivial (fun h hh => mems_in hbt hh) ?_
      rw [List.set_getElem_self hi]
      refine on ?_
      refine ev_br trivial (fun h => absurd rfl (xt h)) (fun _ => ?_)
      refine on ?_
      refine ev_ne trivial (fun h => absurd rfl h) (fun _ => ?_)
      refine on ?_
      exact ev_lend ⟨trivial, by unfold InR; dsimp only; omega⟩ ⟨t + 1, Ms, log ++ [e]⟩ ⟨h4', hM2, skip, by simp; omega⟩ (by dsimp only; omega) (Fit.of [0, 1, 2, 3, 4, 5, 6] rfl rfl rfl rfl ⟨rfl, rfl, rfl, rfl, rfl, rfl, trivial⟩ ⟨rfl, rfl, rfl, rfl, rfl, rfl, rfl, trivial⟩)
    refine on ?_
    refine ev_lt trivial (fun h11 => ?_) (fun h11 => ?_)
    · refine on ?_
      obtain ⟨e, hc⟩ := q24 (B := ⟨[a, b], c, p, false, log⟩) (Ms := Ms) hquiet rfl x cel0 hlen (by dsimp only; omega) h0 hi y.idx
      refine call_ab trivial hc [2, 3, 4] rfl rfl rfl rfl rfl ⟨rfl, rfl, rfl, trivial⟩ (fun _ => rfl) (fun _ => rfl) (fun _ => trivial) (fun _ => ?_)
      refine on ?_
      refine call_ab trivial (c25 Ms[y.mem.toNat] mb y.idx) [8] rfl rfl rfl rfl rfl ⟨rfl, trivial⟩ (fun _ => rfl) (fun _ => rfl) (fun _ => trivial) (fun _ => ?_)
      refine joinF 5 8 (A := memsH [a1, b1] (Ms.set y.mem.toNat Ms[y.mem.toNat])) rfl rfl rfl rfl rfl trivial (fun h hh => mems_in hbt hh) ?_
      rw [List.set_getElem_self hi]
      refine on ?_
      refine ev_br trivial (fun h => absurd rfl (xt h)) (fun _ => ?_)
      refine on ?_
      refine ev_ne trivial (fun h => absurd rfl h) (fun _ => ?_)
      refine on ?_
      exact ev_lend ⟨trivial, by unfold InR; dsimp only; omega⟩ ⟨t + 1, Ms, log ++ [e]⟩ ⟨h4', hM2, skip, by simp; omega⟩ (by dsimp only; omega) (Fit.of [0, 1, 2, 3, 4, 5, 6] rfl rfl rfl rfl ⟨rfl, rfl, rfl, rfl, rfl, rfl, trivial⟩ ⟨rfl, rfl, rfl, rfl, rfl, rfl, rfl, trivial⟩)
    refine on ?_
    refine lend_in ⟨trivial, by unfold InR; dsimp only; omega⟩ ?_
    refine joinF 5 8 (A := memsH [a1, b1] (Ms.set y.mem.toNat Ms[y.mem.toNat])) rfl rfl rfl rfl rfl trivial (fun h hh => mems_in hbt hh) ?_
    rw [List.set_getElem_self hi]
    refine lend_out ?_
    exact ev_lend trivial ⟨t + 1, Ms, log⟩ ⟨h4', hM2, skip, Nat.le_succ_of_le hlg⟩ (by dsimp only; omega) (Fit.of [0, 1, 2, 3, 4, 5, 6] rfl rfl rfl rfl ⟨rfl, rfl, rfl, rfl, rfl, rfl, trivial⟩ ⟨rfl, rfl, rfl, rfl, rfl, rfl, rfl, trivial⟩)
  · obtain ⟨M, N, rfl⟩ : ∃ M N, Ms = [M, N] := by
      match Ms, hM2 with
      | [M, N], _ => exact ⟨M, N, rfl⟩
    have hMh := (hMs M (by simp)).1
    have hNh := (hMs N (by simp)).1
    refine splitF 3 (B := memH M a) (C := memsH [b] [N]) rfl rfl trivial (fun h hh => hh) ?_
    refine splitF 3 (B := memH N b) (C := emp) rfl rfl trivial (fun h hh => hh) ?_
    refine splitF 5 (B := memH M a1) (C := memsH [b1] [N]) rfl rfl trivial (fun h hh => hh) ?_
    refine splitF 5 (B := memH N b1) (C := emp) rfl rfl trivial (fun h hh => hh) ?_
    refine on ?_
    refine ev_loop trivial (ι := Nat) (fun i => i ≤ 4) (fun i => 4 - i)
      (fun i => [(7, PA x), (8, PA a), (9, PA b), (10, SA (some ⟨g1, 0, none⟩) 2 2), (18, IA i)])
      (fun i => [(0, frm F), (1, frm O), (2, frm (busH ⟨[a, b], c, p, false, log⟩ x)), (3, frm (memH M a)), (4, frm (memH N b)), (5, frm (memH M a1)), (6, frm (memH N b1)), (7, frm (ownH 42 1 (some ⟨g1, 0, none⟩) 2 2 ([a1, b1].map ptrV)))]) 8 0 (Nat.zero_le _)
      (Fit.of [0, 1, 2, 7, 8, 9, 10, 6] rfl rfl rfl rfl ⟨rfl, rfl, rfl, rfl, rfl, trivial⟩ ⟨rfl, rfl, rfl, rfl, rfl, rfl, rfl, rfl, trivial⟩) (fun i hi => ?_)
    refine on ?_
    refine ev_lt trivial (fun h5 => ?_) (fun h5 => ?_)
    · refine on ?_
      refine call_ab trivial (c26 M a i) [3] rfl rfl rfl rfl rfl ⟨rfl, trivial⟩ (fun _ => rfl) (fun _ => rfl) (fun _ => trivial) (fun _ => ?_)
      refine on ?_
      refine ev_ld1 tbl_ok ⟨trivial, by omega, by omega⟩ 7 rfl rfl rfl (PA a1) rfl (fun h hh => rdA_at (j := 0) (ownH_rd hh) rfl) trivial ?_
      refine on ?_
      refine call_ab trivial (c26 M a1 i) [5] rfl rfl rfl rfl rfl ⟨rfl, trivial⟩ (fun _ => rfl) (fun _ => rfl) (fun _ => trivial) (fun _ => ?_)
      refine on ?_
      refine call_ab trivial (c26 N b i) [4] rfl rfl rfl rfl rfl ⟨rfl, trivial⟩ (fun _ => rfl) (fun _ => rfl) (fun _ => trivial) (fun _ => ?_)
      refine on ?_
      refine ev_ld1 tbl_ok ⟨trivial, by omega, by omega⟩ 7 rfl rfl rfl (PA b1) rfl (fun h hh => rdA_at (j := 1) (ownH_rd hh) rfl) trivial ?_
      refine on ?_
      refine call_ab trivial (c26 N b1 i) [6] rfl rfl rfl rfl rfl ⟨rfl, trivial⟩ (fun _ => rfl) (fun _ => rfl) (fun _ => trivial) (fun _ => ?_)
      refine on ?_
      refine ev_br trivial (fun h => absurd rfl (xt h)) (fun _ => ?_)
      refine on ?_
      refine ev_br trivial (fun h => absurd rfl (xt h)) (fun _ => ?_)
      refine on ?_
      exact ev_lend ⟨trivial, by unfold InR; omega⟩ (i + 1) (by omega) (by omega) (Fit.of [0, 1, 2, 3, 4, 5, 6, 7] rfl rfl rfl rfl ⟨rfl, rfl, rfl, rfl, rfl, trivial⟩ ⟨rfl, rfl, rfl, rfl, rfl, rfl, rfl, rfl, trivial⟩)
    · refine on ?_
      have ca := c27 M a
      have cb := c27 N b
      rw [hMh] at ca
      rw [hNh] at cb
      refine call_ab trivial ca [3] rfl rfl rfl rfl rfl ⟨rfl, trivial⟩ (fun _ => rfl) (fun _ => rfl) (fun _ => trivial) (fun _ => ?_)
      refine on ?_
      refine ev_br trivial (fun _ => ?_) (fun h => by cases h)
      refine on ?_
      refine call_ab trivial cb [4] rfl rfl rfl rfl rfl ⟨rfl, trivial⟩ (fun _ => rfl) (fun _ => rfl) (fun _ => trivial) (fun _ => ?_)
      refine on ?_
      refine ev_br trivial (fun _ => ?_) (fun h => by cases h)
      refine on ?_
      refine call_ab trivial (c28 ⟨[a, b], c, p, false, log⟩ x) [2] rfl rfl rfl rfl rfl ⟨rfl, trivial⟩ (fun _ => rfl) (fun _ => rfl) (fun _ => trivial) (fun _ => ?_)
      refine on ?_
      refine ev_br trivial (fun _ => ?_) (fun h => by cases h)
      refine on ?_
      refine call_ab trivial c17 [] rfl rfl rfl rfl rfl trivial (fun _ => rfl) (fun _ => rfl) (fun _ => trivial) (fun _ => ?_)
      refine on ?_
      exact retE trivial rfl () [0, 1] rfl rfl rfl rfl ⟨_, rfl, fun ρ => rfl⟩ ⟨rfl, rfl, trivial⟩
end Go.Proofs.Ytolcobhaghdfcaa
