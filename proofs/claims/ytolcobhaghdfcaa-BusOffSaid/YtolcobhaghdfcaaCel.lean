/- Contracts of package cell. -/
import Derived.Test.YtolcobhaghdfcaaMem3
namespace Go.Proofs.Ytolcobhaghdfcaa
open Sx Go
set_option maxRecDepth 100000
structure CV where
  count : Int
  label : List Int
def CV.enc (c : CV) : List Value := .int .u64 c.count :: c.label.map (Value.int .u8)
def CV.ok (c : CV) : Prop := c.label.length = 32 ∧ 0 ≤ c.count ∧ c.count ≤ 4611686018427387904
abbrev CV.av (c : CV) : AV := .agg [.v (.int .u64 c.count), .run .u8 32 c.label]
structure Cl where
  past : List CV
  now : CV
def encC (l : List CV) : List Value := l.flatMap CV.enc
def Cl.held (C : Cl) : List CV := C.past ++ [C.now]
def Cl.ok (C : Cl) : Prop := (∀ c ∈ C.past, c.label.length = 32) ∧ C.now.ok ∧ C.past.length ≤ 1000000
abbrev celCs (C : Cl) (x : Option Addr × Nat) : List AV := [SA x.1 (C.past.length + 1) x.2]
abbrev celRs (C : Cl) (x : Option Addr × Nat) : List HProp := [ownH 69 33 x.1 (C.past.length + 1) x.2 (encC C.held)]
def celH (C : Cl) (b : Nat) : HProp := fun h => ∃ x : Option Addr × Nat, C.ok ∧ star (ptC b (celCs C x) 192) (starL (celRs C x)) h
theorem encC_get {l : List CV} (hok : ∀ c ∈ l, c.label.length = 32) {t : Nat} (h : t < l.length) {j : Nat} {u : Value} (hj : (l[t]).enc[j]? = some u) : (encC l)[t * 33 + j]? = some u := by
  induction l generalizing t with
  | nil => simp at h
  | cons w r ih =>
    have hw : w.enc.length = 33 := by simp [CV.enc]; exact hok w (by simp)
    simp only [encC, List.flatMap_cons]
    cases t with
    | zero =>
      simp at hj
      rw [Nat.zero_mul, Nat.zero_add, List.getElem?_append_left (by have := (List.getElem?_eq_some_iff.1 hj).1; omega)]
      exact hj
    | succ t =>
      simp at hj
      rw [List.getElem?_append_right (by rw [hw]; omega), hw, show (t + 1) * 33 + j - 33 = t * 33 + j by omega]
      exact ih (fun w hw => hok w (by simp [hw])) (by simpa using h) hj
theorem c121 (C : Cl) (b : Nat) : ACtr Try.prog 121 2 [PA b] [(1, frm (celH C b))] (fun _ : Unit => 0) (fun _ => .tt) (fun _ => [(1, frm (celH C b))]) := by
  refine act Try.func121 rfl rfl rfl A121_ok rfl fun F w0 bb => ?_
  refine enter 1 0 1 rfl rfl rfl (fun _ => rfl) (fun h hh => hh) (fun _ => trivial) fun x ok => ?_
  refine on ?_
  refine ret_in trivial ?_
  refine leave 1 2 3 [4] (A := celH C b) (Rs := celRs C x) rfl rfl ⟨rfl, trivial⟩ ⟨_, rfl⟩ rfl rfl rfl rfl rfl trivial (fun h hh => ⟨x, ok, hh⟩) ?_
  refine ret_out ?_
  refine retE trivial rfl () [0, 1] rfl rfl rfl rfl ⟨_, rfl, fun ρ => ?_⟩ ⟨rfl, rfl, trivial⟩
  simp [resV, AV.ev]
theorem ownH_sm {E sz n cap : Nat} {a : Option Addr} {xs : List Value} (hn : 0 < n) : ∀ h, ownH E sz a n cap xs h → ∃ ad, a = some ad := fun _ H => ownH_some H hn
theorem c83 (C : Cl) (b : Nat) : ACtr Try.prog 83 2 [PA b] [(1, frm (celH C b))] (fun _ : Unit => 0) (fun _ => .tup [C.now.av, IA 0]) (fun _ => [(1, frm (celH C b))]) := by
  refine act Try.func83 rfl rfl rfl A83_ok rfl fun F w0 bb => ?_
  refine on ?_
  refine call_ab trivial (c121 C b) [1] rfl rfl rfl rfl rfl ⟨rfl, trivial⟩ (fun _ => rfl) (fun _ => rfl) (fun _ => trivial) (fun _ => ?_)
  refine enter 1 0 1 rfl rfl rfl (fun _ => rfl) (fun h hh => hh) (fun _ => trivial) fun x ok => ?_
  obtain ⟨a, cap⟩ := x
  refine pureF 5 rfl rfl (ownH_sm (by omega)) fun ha => ?_
  obtain ⟨ad, rfl⟩ := ha
  refine on ?_
  refine draw_ok mixed trivial O83_3_ok [(3, _), (5, _)] Q83_3_ok ⟨rfl, rfl, trivial⟩ rfl (fun ρ0 => ?_)
  refine on ?_
  refine ev_more ⟨⟨trivial, by unfold InR; have := ok.2.2; omega⟩, by omega, by omega⟩ ?_
  refine dq_ldN tbl_ok rfl 5 rfl rfl rfl C.now.av (us := C.now.enc) ?_ ?_ (fun h hh => ?_) ?_
  · simp [AV.ev, AV.evc, AV.ev1, CV.enc]; exact ok.2.1.1
  · simp [CV.enc]; exact ok.2.1.1
  · rw [show (((C.past.length + 1 : Nat) : Int) - 1).toNat = C.past.length by omega]
    refine rd_at (ownH_rd hh) rfl _ fun j u hj => encC_get (fun c hc => ?_) (by simp [Cl.held]) (by simpa [Cl.held] using hj)
    rcases List.mem_append.1 hc with hc | hc
    · exact ok.1 c hc
    · simp only [List.mem_singleton] at hc; subst hc; exact ok.2.1.1
  refine on ?_
  refine ret_in trivial ?_
  refine leave 1 3 4 [5] (A := celH C b) (Rs := celRs C (some ad, cap)) rfl rfl ⟨rfl, trivial⟩ ⟨_, rfl⟩ rfl rfl rfl rfl rfl trivial (fun h hh => ⟨(some ad, cap), ok, hh⟩) ?_
  refine ret_out ?_
  exact retE trivial rfl () [0, 1] rfl rfl rfl rfl ⟨_, rfl, fun ρ => rfl⟩ ⟨rfl, rfl, trivial⟩
theorem wrap_u64 {x : Int} (h0 : 0 ≤ x) (h1 : x < 18446744073709551616) : IntKind.u64.wrap x = x := by
  show (if (false && decide (x % 18446744073709551616 ≥ 9223372036854775808)) = true then x % 18446744073709551616 - 18446744073709551616 else x % 18446744073709551616) = x
  simp only [Bool.false_and, Bool.false_eq_true, if_false]; omega
theorem row190 : RowTy Try.prog 190 69 33 40 := rowTy_of (by kernel_rfl) (by kernel_rfl) (by decide)
def MaxC : Int := 4611686018427387904
def advC (C : Cl) (label : List Int) : Cl := if C.now.count = MaxC then C else ⟨C.past ++ [C.now], ⟨C.now.count + 1, label⟩⟩
def advN (C : Cl) : Int := if C.now.count = MaxC then 0 else C.now.count + 1
def advE (C : Cl) : Int := if C.now.count = MaxC then 15 else 0
theorem encC_snoc (l : List CV) (c : CV) : encC (l ++ [c]) = encC l ++ c.enc := by simp [encC]
theorem c119 (C : Cl) (b : Nat) (l : List Int) (hl : l.length = 32) (hpast : C.past.length < 1000000) : ACtr Try.prog 119 2 [PA b, .run .u8 32 l] [(1, frm (celH C b))] (fun _ : Unit => 0) (fun _ => .tup [.v (.int .u64 (advN C)), IA (advE C)]) (fun _ => [(1, frm (celH (advC C l) b))]) := by
  refine act Try.func119 rfl rfl rfl A119_ok rfl fun F w0 bb => ?_
  refine on ?_
  refine call_ab trivial (c83 C b) [1] rfl rfl rfl rfl rfl ⟨rfl, trivial⟩ (fun _ => rfl) (fun _ => rfl) (fun _ => trivial) (fun _ => ?_)
  refine pureF 1 rfl rfl (q := C.ok) (fun h hh => hh.choose_spec.1) fun ok => ?_
  refine on ?_
  refine ev_ne trivial (fun h => absurd rfl h) (fun _ => ?_)
  refine on ?_
  refine ev_lt trivial (fun h1 => ?_) (fun h1 => ?_)
  · replace h1 : C.now.count = MaxC := h1
    refine on ?_
    refine retE trivial rfl () [0, 1] rfl rfl rfl rfl ⟨_, rfl, fun ρ => ?_⟩ ⟨rfl, ?_, trivial⟩
    · rw [advN, advE, if_pos h1, if_pos h1]; rfl
    · rw [advC, if_pos h1]; rfl
  · replace h1 : ¬ C.now.count = MaxC := h1
    have hw : IntKind.u64.wrap (C.now.count + 1) = C.now.count + 1 := wrap_u64 (by have := ok.2.1.2; omega) (by have := ok.2.1.2; omega)
    refine enter 1 0 1 rfl rfl rfl (fun _ => rfl) (fun h hh => hh) (fun _ => trivial) fun x _ => ?_
    obtain ⟨a, cap⟩ := x
    refine on ?_
    refine draw_ok mixed trivial O119_7_ok [(4, _), (7, _)] Q119_7_ok ⟨rfl, rfl, trivial⟩ rfl (fun ρ0 => ?_)
    refine on ?_
    have hs : ∀ (j : Nat) (u : Value), (CV.enc ⟨IntKind.u64.wrap (C.now.count + 1), l⟩)[j]? = some u → (CV.enc ⟨IntKind.u64.wrap (C.now.count + 1), l⟩)[0 + j]? = some u := fun j u h => by simpa using h
    refine ev_appA (us := CV.enc ⟨IntKind.u64.wrap (C.now.count + 1), l⟩) row190 trivial 6 rfl rfl rfl rfl (src_named (cs := [.v (.int .u64 (IntKind.u64.wrap (C.now.count + 1))), .run .u8 32 l]) (vs := CV.enc ⟨IntKind.u64.wrap (C.now.count + 1), l⟩) rfl rfl rfl (by simp [AV.evc, AV.ev1, hl, CV.enc]) hs) (by simp [CV.enc, hl])
      (fun u hu => by rcases List.mem_cons.1 hu with rfl | hu; rfl; exact ints_one _ _ u hu) ⟨by omega, by unfold maxLen; omega⟩ (fun _ => ⟨rfl, rfl, trivial⟩) (fun a' cap' => ?_)
    refine on ?_
    have e : advC C l = ⟨C.past ++ [C.now], ⟨C.now.count + 1, l⟩⟩ := by rw [advC, if_neg h1]
    refine ret_in trivial ?_
    refine leave 1 4 5 [6] (A := celH (advC C l) b) (cs := [SA a' (C.past.length + 1 + 1) cap']) (Rs := [ownH 69 33 a' (C.past.length + 1 + 1) cap' (encC C.held ++ CV.enc ⟨IntKind.u64.wrap (C.now.count + 1), l⟩)]) rfl rfl ⟨rfl, trivial⟩ ⟨_, rfl⟩ rfl rfl rfl rfl rfl trivial (fun h hh => ⟨(a', cap'), ?_, ?_⟩) ?_
    · rw [e]
      refine ⟨fun c hc => ?_, ⟨hl, ?_, ?_⟩, ?_⟩
      · rcases List.mem_append.1 hc with hc | hc
        · exact ok.1 c hc
        · simp only [List.mem_singleton] at hc; subst hc; exact ok.2.1.1
      · have := ok.2.1.2.1; show 0 ≤ C.now.count + 1; omega
      · have h2 := ok.2.1.2.2
        have h3 : C.now.count ≠ 4611686018427387904 := h1
        show C.now.count + 1 ≤ _; omega
      · simp; omega
    · rw [e]
      rw [hw] at hh
      simpa only [celCs, celRs, List.length_append, List.length_cons, List.length_nil, Cl.held, encC_snoc, Nat.zero_add] using hh
    refine ret_out ?_
    refine retE trivial rfl () [0, 1] rfl rfl rfl rfl ⟨_, rfl, fun ρ => ?_⟩ ⟨rfl, rfl, trivial⟩
    rw [advN, advE, if_neg h1, if_neg h1, hw]; rfl
theorem c63 (c : CV) (hc : c.ok) : ACtr Try.prog 63 1 [c.av] [] (fun _ : Nat => 1) (fun b => .tup [PA b, IA 0]) (fun b => [(1, frm (celH ⟨[], c⟩ b))]) := by
  refine act Try.func63 rfl rfl rfl A63_ok rfl fun F w0 bb => ?_
  refine on ?_
  refine ev_lt trivial (fun h => absurd hc.2.2 (by omega)) (fun _ => ?_)
  refine on ?_
  refine ret_in trivial ?_
  refine by_number 2 3 rfl rfl (fun _ => trivial) fun b => ?_
  refine name_is 2 rfl (fun _ => trivial) fun b2 => ?_
  refine rechunkB 3 5 (c := 2) (b := b2) (.cells [SA (some ⟨b2, 0, none⟩) 1 1] 192) rfl rfl rfl trivial (fun ρ h hb hh => ?_) ?_
  · obtain ⟨q, vs, h1, h2, h3⟩ := hh
    refine ⟨q, vs, h1, ?_, h3⟩
    rw [← h2]
    show _ = AV.evc ρ [.slc 2 0 1 1]
    simp [AV.evc, AV.ev1, hb]
  refine rechunkB 2 5 (c := 2) (b := b2) (frm (ownH 69 33 (some ⟨b2, 0, none⟩) 1 1 c.enc)) rfl rfl rfl trivial (fun ρ h hb hh => ?_) ?_
  · obtain ⟨q, vs, h1, h2, h3⟩ := hh
    rw [hb] at h1; cases h1
    have h4 : AV.evc ρ [.v (.int .u64 c.count), .run .u8 32 c.label] = some c.enc := by simp [AV.evc, AV.ev1, hc.1, CV.enc]
    have h5 : vs = c.enc := by
      have : AV.evc ρ [.v (.int .u64 c.count), .run .u8 32 c.label] = some vs := h2
      rw [h4] at this; exact (Option.some.inj this).symm
    subst h5
    refine ⟨[], rfl, by simp [CV.enc, hc.1], .inr ⟨_, _, rfl, h3, by omega, by decide, by simp [CV.enc, hc.1], ?_⟩⟩
    rw [List.take_of_length_le (by simp [CV.enc, hc.1])]
  refine leave 1 3 4 [2] (A := celH ⟨[], c⟩ b) (cs := [SA (some ⟨b2, 0, none⟩) 1 1]) (Rs := celRs ⟨[], c⟩ (some ⟨b2, 0, none⟩, 1)) rfl rfl ⟨?_, trivial⟩ ⟨_, rfl⟩ rfl rfl rfl rfl rfl trivial (fun h hh => ⟨(some ⟨b2, 0, none⟩, 1), ⟨(fun c hc => by cases hc), hc, by simp⟩, hh⟩) ?_
  · simp [celRs, Cl.held, encC]; rfl
  refine ret_out ?_
  exact retE trivial rfl b [0, 1] rfl rfl rfl rfl ⟨_, rfl, fun ρ => rfl⟩ ⟨rfl, rfl, trivial⟩
end Go.Proofs.Ytolcobhaghdfcaa
