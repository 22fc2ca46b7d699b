/- Contracts of package bus: New. -/
import Derived.Test.YtolcobhaghdfcaaCln
import Derived.Test.YtolcobhaghdfcaaSto
namespace Go.Proofs.Ytolcobhaghdfcaa
open Sx Go
set_option maxRecDepth 100000
theorem c112 (M : Mem) (mb : Nat) : ACtr Try.prog 112 2 [PA mb] [(1, frm (memH M mb))] (fun _ : Unit => 0) (fun _ => .ff) (fun _ => [(1, frm (memH M mb))]) := by
  refine act Try.func112 rfl rfl rfl A112_ok rfl fun F w0 bb => ?_
  refine pureF 1 rfl rfl (q := M.ok) (fun h hh => by obtain ⟨_, ok, _⟩ := hh; exact ok) fun ok => ?_
  refine on ?_
  refine call_ab trivial (c44 M mb) [1] rfl rfl rfl rfl rfl ⟨rfl, trivial⟩ (fun _ => rfl) (fun _ => rfl) (fun _ => trivial) (fun _ => ?_)
  refine on ?_
  refine retE trivial rfl () [0, 1] rfl rfl rfl rfl ⟨_, rfl, fun ρ => ?_⟩ ⟨rfl, rfl, trivial⟩
  have := ok.1
  simp [resV, AV.ev]; omega
theorem c144 (bs : List Nat) (Ms : List Mem) (ma : Option Addr) (mc : Nat) (R : HProp) (hR : ∀ h, R h → rdA ma (bs.map ptrV) h) (hlen : bs.length ≤ 1000) :
    ACtr Try.prog 144 3 [SA ma bs.length mc, .fn (.func 112) [] []] [(1, frm R), (2, frm (memsH bs Ms))] (fun _ : Unit => 0) (fun _ => IA (-1)) (fun _ => [(1, frm R), (2, frm (memsH bs Ms))]) := by
  refine act Try.func144 rfl rfl rfl A144_ok rfl fun F w0 bb => ?_
  refine pureF 1 rfl rfl (q := 0 < bs.length → ∃ ad, ma = some ad) (fun h hh hn => rdA_some (hR h hh) (by simpa using hn)) fun hla => ?_
  refine pureF 2 rfl rfl (q := Ms.length = bs.length) (fun h hh => mems_len hh) fun hml => ?_
  refine on ?_
  refine ev_loop trivial (ι := Nat) (fun t => t ≤ bs.length) (fun t => bs.length - t) (fun t => [(0, SA ma bs.length mc), (1, .fn (.func 112) [] []), (6, SA ma bs.length mc), (7, IA bs.length), (8, IA t)])
    (fun t => [(0, frm F), (1, frm R), (2, frm (memsH bs Ms))]) 3 0 (Nat.zero_le _)
    (Fit.of [0, 1, 2] rfl rfl rfl rfl ⟨rfl, rfl, rfl, rfl, rfl, trivial⟩ ⟨rfl, rfl, rfl, trivial⟩) (fun t ht => ?_)
  refine on ?_
  refine ev_lt trivial (fun h3 => ?_) (fun h3 => ?_)
  · have h3' : t < bs.length := by omega
    have hm3 : t < Ms.length := by omega
    obtain ⟨ad, rfl⟩ := hla (by omega)
    have hbt : bs[t]? = some bs[t] := List.getElem?_eq_getElem h3'
    have hMt : Ms[t]? = some Ms[t] := List.getElem?_eq_getElem hm3
    refine on ?_
    refine ev_ld1 tbl_ok ⟨trivial, by omega, h3⟩ 1 rfl rfl rfl (PA bs[t]) rfl (fun h hh => ?_) trivial ?_
    · rw [show ((t : Int)).toNat * 1 = t by omega]
      exact rdA_at (hR h hh) (ptr_get hbt)
    refine splitF 2 (B := memH Ms[t] bs[t]) (C := memsX bs Ms t) rfl rfl trivial (fun h hh => mems_out hbt hMt hh) ?_
    refine on ?_
    refine call_ab trivial (c112 Ms[t] bs[t]) [3] rfl rfl rfl rfl rfl ⟨rfl, trivial⟩ (fun _ => rfl) (fun _ => rfl) (fun _ => trivial) (fun _ => ?_)
    refine joinF 2 3 (A := memsH bs (Ms.set t Ms[t])) rfl rfl rfl rfl rfl trivial (fun h hh => mems_in hbt hh) ?_
    rw [List.set_getElem_self]
    refine on ?_
    exact ev_lend ⟨trivial, by unfold InR; omega⟩ (t + 1) h3' (by omega) (Fit.of [0, 1, 2] rfl rfl rfl rfl ⟨rfl, rfl, rfl, rfl, rfl, trivial⟩ ⟨rfl, rfl, rfl, trivial⟩)
  · refine on ?_
    exact retE trivial rfl () [0, 1, 2] rfl rfl rfl rfl ⟨_, rfl, fun ρ => rfl⟩ ⟨rfl, rfl, rfl, trivial⟩
theorem c111 (bs : List Nat) (Ms : List Mem) (ma : Option Addr) (mc : Nat) (R : HProp) (hR : ∀ h, R h → rdA ma (bs.map ptrV) h) (hlen : bs.length ≤ 1000) :
    ACtr Try.prog 111 3 [SA ma bs.length mc, .fn (.func 112) [] []] [(1, frm R), (2, frm (memsH bs Ms))] (fun _ : Unit => 0) (fun _ => .ff) (fun _ => [(1, frm R), (2, frm (memsH bs Ms))]) := by
  refine act Try.func111 rfl rfl rfl A111_ok rfl fun F w0 bb => ?_
  refine on ?_
  refine call_ab trivial (c144 bs Ms ma mc R hR hlen) [1, 2] rfl rfl rfl rfl rfl ⟨rfl, rfl, trivial⟩ (fun _ => rfl) (fun _ => rfl) (fun _ => trivial) (fun _ => ?_)
  refine on ?_
  exact retE trivial rfl () [0, 1, 2] rfl rfl rfl rfl ⟨_, rfl, fun ρ => rfl⟩ ⟨rfl, rfl, rfl, trivial⟩
def dsOk : List Stp → List Ds → Prop
  | s :: r, d :: t => (d.1 = none → s.picks.length = 0 ∧ d.2 = 0) ∧ s.picks.length ≤ 140737488351232 ∧ s.ok ∧ dsOk r t
  | [], [] => True
  | _, _ => False
theorem dsOk_len : ∀ {l : List Stp} {ds : List Ds}, dsOk l ds → ds.length = l.length
  | [], [], _ => rfl
  | _ :: _, _ :: _, h => by simp [dsOk_len h.2.2.2]
  | [], _ :: _, h => h.elim
  | _ :: _, [], h => h.elim
theorem dsOk_get : ∀ {l : List Stp} {ds : List Ds}, dsOk l ds → ∀ {t : Nat} (h1 : t < l.length) (h2 : t < ds.length), (ds[t].1 = none → l[t].picks.length = 0 ∧ ds[t].2 = 0) ∧ l[t].picks.length ≤ 140737488351232 ∧ l[t].ok
  | [], _, _, t, h1, _ => absurd h1 (by simp)
  | _ :: _, [], h, _, _, _ => h.elim
  | _ :: _, _ :: _, h, 0, _, _ => ⟨h.1, h.2.1, h.2.2.1⟩
  | _ :: _, _ :: _, h, t + 1, h1, h2 => dsOk_get h.2.2.2 (by simpa using h1) (by simpa using h2)
theorem dsOk_ok {l : List Stp} {ds : List Ds} (h : dsOk l ds) : ∀ s ∈ l, s.ok := fun s hs => by
  obtain ⟨t, ht, rfl⟩ := List.getElem_of_mem hs
  exact (dsOk_get h ht (by rw [dsOk_len h]; exact ht)).2.2
theorem encS_len : ∀ {l : List Stp} {ds : List Ds}, (∀ s ∈ l, s.ok) → ds.length = l.length → (encS l ds).length = l.length * 70
  | [], ds, _, _ => by cases ds <;> simp [encS]
  | s :: r, [], _, h => by simp at h
  | s :: r, d :: t, hok, h => by
    have ih := encS_len (l := r) (ds := t) (fun s hs => hok s (by simp [hs])) (by simpa using h)
    simp only [encS, List.length_append, Stp.enc_len d (hok s (by simp)), ih, List.length_cons]
    omega
theorem Stp.one (s : Stp) (d : Ds) : ∀ u ∈ s.enc d, u.oneCell' = true := fun u hu => by
  simp only [Stp.enc, List.mem_append, List.mem_cons, List.not_mem_nil, or_false] at hu
  rcases hu with (((rfl | rfl | rfl | rfl | rfl) | hu) | rfl)
  · rfl
  · rfl
  · rfl
  · rfl
  · rfl
  · exact ints_one _ _ u hu
  · rfl
theorem encS_one : ∀ (l : List Stp) (ds : List Ds), ∀ u ∈ encS l ds, u.oneCell' = true
  | [], ds, u, h => by cases ds <;> simp [encS] at h
  | _ :: _, [], u, h => by simp [encS] at h
  | s :: r, d :: t, u, h => by
    simp only [encS, List.mem_append] at h
    rcases h with h | h
    · exact s.one d u h
    · exact encS_one r t u h
theorem encS_put {d d' : Ds} : ∀ {l : List Stp} {p r : List Ds} (_ : ∀ s ∈ l, s.ok) (ht : p.length < l.length), (encS l (p ++ d :: r)).take (p.length * 70 + 69) ++ [.slice d'.1 (l[p.length]).picks.length d'.2] ++ (encS l (p ++ d :: r)).drop (p.length * 70 + 69 + 1) = encS l (p ++ d' :: r)
  | [], _, _, _, ht => absurd ht (by simp)
  | s :: l, [], r, hok, _ => by
    have h1 : ([Value.int .i64 s.at_, .int .i64 s.kind, .int .i64 s.mem, .int .i64 s.idx, .int .i64 s.n] ++ s.data.map (Value.int .u8)).length = 69 := by
      have := hok s (by simp)
      unfold Stp.ok at this
      simp [this]
    simp only [List.nil_append, List.length_nil, Nat.zero_mul, Nat.zero_add, encS, List.getElem_cons_zero]
    unfold Stp.enc
    generalize [Value.int .i64 s.at_, .int .i64 s.kind, .int .i64 s.mem, .int .i64 s.idx, .int .i64 s.n] ++ s.data.map (Value.int .u8) = xs at h1
    rw [show xs ++ [.slice d.1 s.picks.length d.2] ++ encS l r = xs ++ ([.slice d.1 s.picks.length d.2] ++ encS l r) by rw [List.append_assoc], ← h1, List.take_left, show xs.length + 1 = (xs ++ [Value.slice d.1 s.picks.length d.2]).length by simp, ← List.append_assoc, List.drop_left]
  | s :: l, b :: p, r, hok, ht => by
    have h1 := Stp.enc_len b (hok s (by simp))
    have ih := encS_put (d := d) (d' := d') (l := l) (p := p) (r := r) (fun s hs => hok s (by simp [hs])) (by simpa using ht)
    simp only [List.cons_append, List.length_cons, encS, List.getElem_cons_succ]
    rw [show (p.length + 1) * 70 + 69 = (s.enc b).length + (p.length * 70 + 69) by rw [h1]; omega, List.take_length_add_append, show (s.enc b).length + (p.length * 70 + 69) + 1 = (s.enc b).length + (p.length * 70 + 69 + 1) by omega, List.drop_length_add_append, List.append_assoc, List.append_assoc, ← ih, List.append_assoc]
theorem Stp.get69 {s : Stp} (d : Ds) (h : s.ok) : (s.enc d)[69]? = some (.slice d.1 s.picks.length d.2) := by
  unfold Stp.ok at h
  unfold Stp.enc
  rw [List.getElem?_append_right (by simp [h])]
  simp [h]
theorem picksH_snoc {s : Stp} {d : Ds} : ∀ {l : List Stp} {ds : List Ds} {h : Hp}, star (picksH l ds) (pkP s d) h → picksH (l ++ [s]) (ds ++ [d]) h
  | [], [], h, H => star_comm H
  | [], _ :: _, h, H => by obtain ⟨p, q, _, _, _, hp, _⟩ := H; exact hp.elim
  | _ :: _, [], h, H => by obtain ⟨p, q, _, _, _, hp, _⟩ := H; exact hp.elim
  | a :: l, b :: rs, h, H => star_mono (fun _ y => y) (fun _ y => picksH_snoc y) (star_assoc H)
theorem c64 (bs : List Nat) (cb : Nat) (Ms : List Mem) (C : Cl) (ma : Option Addr) (mc : Nat) (Rm : HProp) (hRm : ∀ h, Rm h → rdA ma (bs.map ptrV) h) (hb1 : 1 ≤ bs.length) (hb2 : bs.length ≤ 64)
    (sa : Option Addr) (sc : Nat) (l : List Stp) (ds : List Ds) (R : HProp) (hR : ∀ h, R h → rdA sa (encS l ds) h) (hnil : sa = none → l.length = 0 ∧ sc = 0) (hds : dsOk l ds) (hl : l.length ≤ 1000) (P : HProp) (hP : ∀ h, P h → ∀ (t : Nat) (h1 : t < l.length) (h2 : t < ds.length), rdA ds[t].1 (U8 l[t].picks) h) :
    ACtr Try.prog 64 6 [SA ma bs.length mc, PA cb, SA sa l.length sc] [(1, frm Rm), (2, frm (memsH bs Ms)), (3, frm (celH C cb)), (4, frm R), (5, frm P)] (fun _ : Nat => 1) (fun b => .tup [PA b, IA 0])
      (fun b => [(1, frm Rm), (2, frm (memsH bs Ms)), (3, frm (celH C cb)), (4, frm R), (5, frm P), (6, frm (busH ⟨bs, cb, l, false, []⟩ b))]) := by
  refine act Try.func64 rfl rfl rfl A64_ok rfl fun F w0 bb => ?_
  refine pureF 1 rfl rfl (q := ∃ ad, ma = some ad) (fun h hh => rdA_some (hRm h hh) (by simp; omega)) fun hma => ?_
  obtain ⟨ad0, rfl⟩ := hma
  refine on ?_
  refine call_ab trivial (c83 C cb) [3] rfl rfl rfl rfl rfl ⟨rfl, trivial⟩ (fun _ => rfl) (fun _ => rfl) (fun _ => trivial) (fun _ => ?_)
  refine on ?_
  refine ev_ne trivial (fun h => absurd rfl h) (fun _ => ?_)
  refine on ?_
  refine call_ab trivial (c111 bs Ms (some ad0) mc Rm hRm (by omega)) [1, 2] rfl rfl rfl rfl rfl ⟨rfl, rfl, trivial⟩ (fun _ => rfl) (fun _ => rfl) (fun _ => trivial) (fun _ => ?_)
  refine on ?_
  refine ev_lt trivial (fun h => absurd h (by omega)) (fun _ => ?_)
  refine on ?_
  refine ev_lt trivial (fun h => absurd h (by omega)) (fun _ => ?_)
  refine on ?_
  have hdl := dsOk_len hds
  have hok := dsOk_ok hds
  refine call_ab trivial (c113 sa l.length sc (encS l ds) R hR hnil (encS_len hok hdl) (encS_one l ds) ⟨by omega, by unfold maxLen; omega⟩) [4] rfl rfl rfl rfl rfl ⟨rfl, trivial⟩ (fun _ => rfl) (fun _ => rfl) (fun _ => trivial) (fun x => ?_)
  obtain ⟨a', c'⟩ := x
  refine pureF 7 rfl rfl (q := 0 < l.length → ∃ ad, a' = some ad) (fun h hh hn => ownH_some hh hn) fun hla => ?_
  refine on ?_
  refine loop_in trivial ?_
  refine newE trivial ?_
  refine weakF 8 (B := picksH (l.take 0) []) rfl rfl trivial (fun h hh => hh) ?_
  refine on ?_
  refine ev_loop trivial (ι := List Ds) (fun p => p.length ≤ l.length) (fun p => l.length - p.length)
    (fun p => [(0, SA (some ad0) bs.length mc), (1, PA cb), (10, SA a' l.length c'), (34, IA l.length), (35, IA p.length)])
    (fun p => [(0, frm F), (1, frm Rm), (2, frm (memsH bs Ms)), (3, frm (celH C cb)), (4, frm R), (5, frm P), (6, frm (ownH 40 70 a' l.length c' (encS l (p ++ ds.drop p.length)))), (7, frm (picksH (l.take p.length) p))]) 8 [] (Nat.zero_le _)
    (Fit.of [0, 1, 2, 3, 4, 5, 7, 8] rfl rfl rfl rfl ⟨rfl, rfl, rfl, rfl, rfl, trivial⟩ ⟨rfl, rfl, rfl, rfl, rfl, rfl, rfl, rfl, trivial⟩) (fun p hp => ?_)
  refine on ?_
  refine ev_lt trivial (fun h3 => ?_) (fun h3 => ?_)
  · have h3' : p.length < l.length := by omega
    have hd3 : p.length < ds.length := by omega
    obtain ⟨ad, rfl⟩ := hla (by omega)
    obtain ⟨hn, hpl, hso⟩ := dsOk_get hds h3' hd3
    have hsg : l[p.length]? = some l[p.length] := List.getElem?_eq_getElem h3'
    have hdg : ds[p.length]? = some ds[p.length] := List.getElem?_eq_getElem hd3
    have hdr : ds.drop p.length = ds[p.length] :: ds.drop (p.length + 1) := List.drop_eq_getElem_cons hd3
    refine on ?_
    refine ev_ld1 tbl_ok ⟨trivial, by omega, h3⟩ 6 rfl rfl rfl (SA ds[p.length].1 l[p.length].picks.length ds[p.length].2) rfl (fun h hh => ?_) trivial ?_
    · have hu := encS_get hok hsg (ds := p ++ ds.drop p.length) (d := ds[p.length]) (by rw [List.getElem?_append_right (Nat.le_refl _), Nat.sub_self, List.getElem?_drop, Nat.add_zero]; exact hdg) (Stp.get69 _ hso)
      have := rdA_at (ownH_rd hh) hu
      rw [add_add, show (p.length : Int).toNat = p.length from Int.toNat_natCast _]
      exact this
    refine on ?_
    refine call_ab trivial (c114 ds[p.length].1 l[p.length].picks.length ds[p.length].2 (U8 l[p.length].picks) P (fun h hh => hP h hh _ h3' hd3) hn (by simp) (ints_one _ _) ⟨by omega, by unfold maxLen; omega⟩) [5] rfl rfl rfl rfl rfl ⟨rfl, trivial⟩ (fun _ => rfl) (fun _ => rfl) (fun _ => trivial) (fun x => ?_)
    refine weakF 8 (B := pkP l[p.length] x) rfl rfl trivial (fun h hh => ⟨(ownH_cap hh).1, ownH_rd hh⟩) ?_
    refine joinF 7 8 (A := picksH (l.take (p.length + 1)) (p ++ [x])) rfl rfl rfl rfl rfl trivial (fun h hh => by rw [List.take_add_one, hsg]; exact picksH_snoc (star_comm hh)) ?_
    refine on ?_
    refine ev_stA tbl_ok ⟨trivial, by omega, by omega⟩ 6 rfl rfl (sz := 70) (l := l.length) (xs := encS l (p ++ ds.drop p.length)) (E := 40) (cap := c') (off := p.length * 70 + 69) ?_ rfl (v := SA x.1 l[p.length].picks.length x.2) (us := [.slice x.1 l[p.length].picks.length x.2]) rfl rfl rfl (fun u hu => by simp only [List.mem_singleton] at hu; subst hu; rfl) ?_ trivial ?_ (by decide)
    · rw [← add_add, show (p.length : Int).toNat = p.length from Int.toNat_natCast _] ; rfl
    · omega
    refine on ?_
    refine ev_lend ⟨trivial, by unfold InR; omega⟩ (p ++ [x]) (by simp; omega) (by simp; omega) (Fit.of [0, 1, 2, 3, 4, 5, 6, 7] rfl rfl rfl rfl ⟨rfl, rfl, rfl, rfl, ?_, trivial⟩ ⟨rfl, rfl, rfl, rfl, rfl, rfl, ?_, ?_, trivial⟩)
    · simp only [List.length_append, List.length_cons, List.length_nil]; rfl
    · rw [hdr, encS_put hok h3']
      simp only [List.length_append, List.length_cons, List.length_nil, List.append_assoc, List.singleton_append]; rfl
    · simp only [List.length_append, List.length_cons, List.length_nil]; rfl
  · have hpl : p.length = l.length := by omega
    refine on ?_
    refine call_ab trivial (c115 (some ad0) bs.length mc (bs.map ptrV) Rm hRm (fun e => by cases e) (by simp) (fun u hu => by obtain ⟨q, _, rfl⟩ := List.mem_map.1 hu; rfl) ⟨by omega, by unfold maxLen; omega⟩) [1] rfl rfl rfl rfl rfl ⟨rfl, trivial⟩ (fun _ => rfl) (fun _ => rfl) (fun _ => trivial) (fun x => ?_)
    refine on ?_
    refine ret_in trivial ?_
    refine newE trivial ?_
    refine weakF 10 (B := ownH 64 68 none 0 0 []) rfl rfl trivial (fun h _ => ownH_nil _ _ h) ?_
    refine weakF 8 (B := rdA x.1 (bs.map ptrV)) rfl rfl trivial (fun h hh => ownH_rd hh) ?_
    refine joinF 6 7 (A := stepsH a' l) rfl rfl rfl rfl rfl trivial (fun h hh => ⟨p, hpl, star_mono (fun y hy => by
      have := ownH_rd hy
      rwa [hpl, ← hdl, List.drop_length, List.append_nil] at this) (fun y hy => by rwa [hpl, List.take_length] at hy) (star_comm hh)⟩) ?_
    refine by_number 6 9 rfl rfl (fun _ => trivial) fun b => ?_
    refine recells 9 (cs' := busCs ⟨bs, cb, l, false, []⟩ ⟨x.1, x.2, a', c', none, 0⟩) rfl (fun ρ => rfl) rfl trivial ?_
    refine leave 6 9 11 [8, 6, 10] (A := busH ⟨bs, cb, l, false, []⟩ b) (Rs := busRs ⟨bs, cb, l, false, []⟩ ⟨x.1, x.2, a', c', none, 0⟩) rfl rfl ⟨rfl, rfl, rfl, trivial⟩ ⟨_, rfl⟩ rfl rfl rfl rfl rfl trivial
      (fun h hh => ⟨⟨x.1, x.2, a', c', none, 0⟩, ⟨hb1, hb2, hl, hok, fun e he => by cases he⟩, hh⟩) ?_
    refine ret_out ?_
    exact retE trivial rfl b [0, 1, 2, 3, 4, 5, 6] rfl rfl rfl rfl ⟨_, rfl, fun ρ => rfl⟩ ⟨rfl, rfl, rfl, rfl, rfl, rfl, rfl, trivial⟩
end Go.Proofs.Ytolcobhaghdfcaa
