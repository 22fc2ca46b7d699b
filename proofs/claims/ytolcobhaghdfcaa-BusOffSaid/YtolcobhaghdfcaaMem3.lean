/- Contracts of package member: settling, flush, crash. -/
import Derived.Test.YtolcobhaghdfcaaMem2
namespace Go.Proofs.Ytolcobhaghdfcaa
open Sx Go
set_option maxRecDepth 100000
/-- what is made durable of the writes from t on -/
def setD (kb : Nat → Bool) : Nat → List Wr → Img → Img
  | _, [], g => g
  | t, w :: r, g => setD kb (t + 1) r (if kb t then putI g w.at_ w.s else g)
def durAt (kb : Nat → Bool) (M : Mem) (t : Nat) : Img := setD kb 0 (M.log.take t) M.dur
theorem setD_append (kb : Nat → Bool) : ∀ (l r : List Wr) (t : Nat) (g : Img), setD kb t (l ++ r) g = setD kb (t + l.length) r (setD kb t l g)
  | [], r, t, g => by simp [setD]
  | w :: l, r, t, g => by
    simp only [List.cons_append, setD, List.length_cons]
    rw [setD_append kb l r (t + 1)]
    congr 1; omega
theorem durAt_succ {kb : Nat → Bool} {M : Mem} {t : Nat} (h : t < M.log.length) : durAt kb M (t + 1) = if kb t then putI (durAt kb M t) (M.log[t]).at_ (M.log[t]).s else durAt kb M t := by
  unfold durAt
  rw [List.take_add_one, List.getElem?_eq_getElem h, setD_append]
  simp [setD, Nat.min_eq_left (Nat.le_of_lt h)]
def settleM (kb : Nat → Bool) (M : Mem) : Mem := { M with seen := setD kb 0 M.log M.dur, dur := setD kb 0 M.log M.dur, log := [] }
theorem encW_get {l : List Wr} (hok : ∀ w ∈ l, w.ok) {t : Nat} (h : t < l.length) {j : Nat} {u : Value} (hj : (l[t]).enc[j]? = some u) : (encW l)[t * 65 + j]? = some u := by
  induction l generalizing t with
  | nil => simp at h
  | cons w r ih =>
    have hw : w.enc.length = 65 := by simp [Wr.enc]; exact hok w (by simp)
    simp only [encW, List.flatMap_cons]
    cases t with
    | zero =>
      simp at hj
      rw [Nat.zero_mul, Nat.zero_add, List.getElem?_append_left (by have := (List.getElem?_eq_some_iff.1 hj).1; omega)]
      exact hj
    | succ t =>
      simp at hj
      rw [List.getElem?_append_right (by rw [hw]; omega), hw, show (t + 1) * 65 + j - 65 = t * 65 + j by omega]
      exact ih (fun w hw => hok w (by simp [hw])) (by simpa using h) hj
/-- one row's values -/
theorem rd_at {a : Option Addr} {xs us : List Value} {h : Hp} (H : rdA a xs h) {ad : Addr} (ha : a = some ad) (off : Nat) (hus : ∀ j u, us[j]? = some u → xs[off + j]? = some u) : ∀ j u, us[j]? = some u → h.cell ((ad.add off).add j) = some u := fun j u hj => by
  obtain ⟨ad', e, hc⟩ := H _ _ (hus j u hj)
  rw [ha] at e; cases e
  rw [add_add]; exact hc
theorem ownH_some {E sz n cap : Nat} {a : Option Addr} {xs : List Value} {h : Hp} (H : ownH E sz a n cap xs h) (hn : 0 < n) : ∃ ad, a = some ad := by
  obtain ⟨_, ⟨_, rfl, _⟩ | ⟨g, _, rfl, _⟩⟩ := H
  · omega
  · exact ⟨_, rfl⟩
theorem fitfn {fr : List (Nat × AV)} {π : List Nat} {i : Nat} {v u : AV} (h : v.ren π = some u) (hl : Sx.look fr i = some u) : (match v.ren π with | some u => Sx.look fr i = some u | none => False) := by rw [h]; exact hl
theorem renfn {f : Fn} {caps : List AV} (hcaps : ∀ π, AV.rens π caps = some caps) (π : List Nat) : (AV.fn f [] caps).ren π = some (.fn f [] caps) := by simp [AV.ren, AV.rens, hcaps]
theorem rens_cons {x u : AV} {l m : List AV} {π : List Nat} (h1 : x.ren π = some u) (h2 : AV.rens π l = some m) : AV.rens π (x :: l) = some (u :: m) := by simp [AV.rens, h1, h2]
abbrev sCh (F X : HProp) (M : Mem) (b xs xd : Nat) (la : Option Addr) (lc : Nat) (ma : Option Addr) (mc : Nat) (g : Img) : List (Nat × Chunk) :=
  [(0, frm F), (1, .gone), (2, frm X), (3, .cells (memCs M ⟨xs, xd, la, lc, ma, mc⟩) 141), (4, isB 3 b), (5, frm (imgA M.seen xs)), (6, frm (imgA g xd)), (7, frm (ownH 145 65 la M.log.length lc (encW M.log))), (8, frm (marksH ma M.marks.length mc M.marks))]
theorem c75 (M : Mem) (b : Nat) (g : Nat) (caps : List AV) (X : HProp) (kb : Nat → Bool) (hcaps : ∀ π, AV.rens π caps = some caps) (hlen : M.log.length ≤ 1000000)
    (hk : ∀ t : Nat, t < M.log.length → ACtr Try.prog g 2 (IA t :: caps) [(1, frm X)] (fun _ : Unit => 0) (fun _ => BA (kb t)) (fun _ => [(1, frm X)])) :
    ACtr Try.prog 75 3 [PA b, .fn (.func g) [] caps] [(1, frm (memH M b)), (2, frm X)] (fun _ : Unit => 0) (fun _ => .tup []) (fun _ => [(1, frm (memH (settleM kb M) b)), (2, frm X)]) := by
  refine act Try.func75 rfl rfl rfl A75_ok rfl fun F w0 bb => ?_
  refine memE 1 0 rfl rfl rfl (fun _ => trivial) fun x ok => ?_
  obtain ⟨xs, xd, la, lc, ma, mc⟩ := x
  refine pureF 7 rfl rfl (q := 0 < M.log.length → ∃ ad, la = some ad) (fun h hh hn => ownH_some hh hn) fun hla => ?_
  refine on ?_
  refine ev_loop trivial (ι := Nat) (fun t => t ≤ M.log.length) (fun t => M.log.length - t) (fun t => [(0, .ptr 3 0), (1, .fn (.func g) [] caps), (9, SA la M.log.length lc), (10, IA M.log.length), (11, IA t)])
    (fun t => sCh F X M b xs xd la lc ma mc (durAt kb M t)) 9 0 (Nat.zero_le _)
    (Fit.of [0, 1, 2, 3, 4, 5, 6, 7, 8] rfl rfl rfl rfl ⟨rfl, fitfn (renfn hcaps _) rfl, rfl, rfl, rfl, trivial⟩ ⟨rfl, rfl, rfl, rfl, rfl, rfl, rfl, rfl, rfl, trivial⟩) (fun t ht => ?_)
  refine on ?_
  refine ev_lt trivial (fun h3 => ?_) (fun h3 => ?_)
  · have h3' : t < M.log.length := by omega
    obtain ⟨ad, rfl⟩ := hla (by omega)
    have hw := ok.2.2 M.log[t] (List.getElem_mem h3')
    refine on ?_
    refine ev_ldN tbl_ok ⟨trivial, by omega, h3⟩ 7 rfl rfl rfl (.agg [IA (M.log[t]).at_, .run .u8 64 (M.log[t]).s]) (us := (M.log[t]).enc) ?_ ?_ (fun h hh => ?_) trivial ?_
    · simp [AV.ev, AV.evc, AV.ev1, Wr.enc]; exact hw
    · simp [Wr.enc]; exact hw
    · rw [show ((t : Int)).toNat = t from Int.toNat_natCast t]
      exact rd_at (ownH_rd hh) rfl _ fun j u hj => encW_get ok.2.2 h3' hj
    refine on ?_
    refine call_ab trivial (hk t h3') [2] rfl rfl rfl rfl (rens_cons rfl (hcaps _)) ⟨rfl, trivial⟩ (fun _ => rfl) (fun _ => rfl) (fun _ => trivial) (fun _ => ?_)
    refine on ?_
    refine ev_br trivial (fun h4 => ?_) (fun h4 => ?_) <;> refine on ?_
    · refine draw_ok mixed trivial O75_4_ok [(3, _), (9, _)] Q75_4_ok ⟨rfl, rfl, trivial⟩ rfl (fun ρ0 => ?_)
      refine on ?_
      refine call_ab trivial (c73 (durAt kb M t) xd (M.log[t]).at_ (M.log[t]).s hw) [6] rfl rfl rfl rfl rfl ⟨rfl, trivial⟩ (fun _ => rfl) (fun _ => rfl) (fun _ => ⟨rfl, rfl, trivial⟩) (fun _ => ?_)
      refine on ?_
      refine ev_lend ⟨trivial, by unfold InR; omega⟩ (t + 1) h3' (by omega) (Fit.of [0, 1, 2, 3, 4, 5, 6, 7, 8] rfl rfl rfl rfl ⟨rfl, fitfn (renfn hcaps _) rfl, rfl, rfl, rfl, trivial⟩ ⟨rfl, rfl, rfl, rfl, rfl, rfl, ?_, rfl, rfl, trivial⟩)
      rw [durAt_succ h3', if_pos h4]; rfl
    · refine ev_lend ⟨trivial, by unfold InR; omega⟩ (t + 1) h3' (by omega) (Fit.of [0, 1, 2, 3, 4, 5, 6, 7, 8] rfl rfl rfl rfl ⟨rfl, fitfn (renfn hcaps _) rfl, rfl, rfl, rfl, trivial⟩ ⟨rfl, rfl, rfl, rfl, rfl, rfl, ?_, rfl, rfl, trivial⟩)
      rw [durAt_succ h3', if_neg (by rw [h4]; decide)]; rfl
  · have ht' : t = M.log.length := by omega
    have e : durAt kb M t = setD kb 0 M.log M.dur := by rw [ht', durAt, List.take_length]
    rw [e]
    refine on ?_
    refine call_ab trivial (c66 (setD kb 0 M.log M.dur) xd) [6] rfl rfl rfl rfl rfl ⟨rfl, trivial⟩ (fun _ => rfl) (fun _ => rfl) (fun _ => trivial) (fun r' => ?_)
    refine on ?_
    refine fin_in trivial ?_
    refine weakF 7 (B := ownH 145 65 none 0 0 []) rfl rfl trivial (fun h _ => ownH_nil _ _ h) ?_
    refine leave 1 3 4 [9, 6, 7, 8] (A := memH (settleM kb M) b) (cs := memCs (settleM kb M) ⟨r', xd, none, 0, ma, mc⟩) (Rs := memRs (settleM kb M) ⟨r', xd, none, 0, ma, mc⟩) rfl rfl ⟨rfl, rfl, rfl, rfl, trivial⟩ ⟨_, rfl⟩ rfl rfl rfl rfl rfl trivial
      (fun h hh => ⟨⟨r', xd, none, 0, ma, mc⟩, ⟨ok.1, ok.2.1, fun w hw => by cases hw⟩, hh⟩) ?_
    refine fin_out ?_
    exact fina trivial rfl () [0, 1, 2] rfl rfl rfl rfl ⟨_, rfl, fun ρ => rfl⟩ ⟨rfl, rfl, rfl, trivial⟩
theorem c76 (t : Nat) (X : HProp) : ACtr Try.prog 76 2 [IA t] [(1, frm X)] (fun _ : Unit => 0) (fun _ => BA true) (fun _ => [(1, frm X)]) := by
  refine act Try.func76 rfl rfl rfl A76_ok rfl fun F w0 bb => ?_
  refine on ?_
  exact retE trivial rfl () [0, 1] rfl rfl rfl rfl ⟨_, rfl, fun ρ => rfl⟩ ⟨rfl, rfl, trivial⟩
def flM (M : Mem) : Mem := if ioM M 0 = 0 then settleM (fun _ => true) M else M
theorem c23 (M : Mem) (b : Nat) (hlen : M.log.length ≤ 1000000) : ACtr Try.prog 23 2 [PA b] [(1, frm (memH M b))] (fun _ : Unit => 0) (fun _ => IA (ioM M 0)) (fun _ => [(1, frm (memH (flM M) b))]) := by
  refine act Try.func23 rfl rfl rfl A23_ok rfl fun F w0 bb => ?_
  refine newE trivial ?_
  refine on ?_
  refine call_ab trivial (c72 M b 0) [1] rfl rfl rfl rfl rfl ⟨rfl, trivial⟩ (fun _ => rfl) (fun _ => rfl) (fun _ => trivial) (fun _ => ?_)
  refine on ?_
  refine ev_ne trivial (fun h1 => ?_) (fun h1 => ?_) <;> refine on ?_
  · refine retE trivial rfl () [0, 1] rfl rfl rfl rfl ⟨_, rfl, fun ρ => rfl⟩ ⟨rfl, ?_, trivial⟩
    rw [flM, if_neg h1]; rfl
  · refine call_ab trivial (c75 M b 76 [] emp (fun _ => true) (fun _ => rfl) hlen (fun t _ => c76 t emp)) [1, 2] rfl rfl rfl rfl rfl ⟨rfl, rfl, trivial⟩ (fun _ => rfl) (fun _ => rfl) (fun _ => trivial) (fun _ => ?_)
    refine on ?_
    refine retE trivial rfl () [0, 1] rfl rfl rfl rfl ⟨_, rfl, fun ρ => by rw [h1]; rfl⟩ ⟨rfl, ?_, trivial⟩
    rw [flM, if_pos h1]; rfl
def pick (ps : List Int) (k : Nat) : Bool := decide (k < ps.length) && decide (ps.getD k 0 ≠ 0)
abbrev U8 (l : List Int) : List Value := l.map (Value.int .u8)
/-- a box with a slice, and what the slice reads as -/
def boxP (bx : Nat) (a : Option Addr) (n cap : Nat) (R : HProp) : HProp := star (ptC bx [SA a n cap] 38) (starL [R])
theorem rdA_some {a : Option Addr} {l : List Value} {h : Hp} (H : rdA a l h) (hn : 0 < l.length) : ∃ ad, a = some ad := by
  obtain ⟨ad, e, _⟩ := H 0 l[0] (List.getElem?_eq_getElem hn)
  exact ⟨ad, e⟩
theorem rdA_at {ad : Addr} {l : List Value} {h : Hp} (H : rdA (some ad) l h) {j : Nat} {v : Value} (hj : l[j]? = some v) : h.cell (ad.add j) = some v := by
  obtain ⟨ad', e, hc⟩ := H j v hj
  cases e; exact hc
theorem U8_get {ps : List Int} {t : Nat} (h : t < ps.length) : (U8 ps)[t]? = some (.int .u8 (ps.getD t 0)) := by
  rw [List.getElem?_map, List.getElem?_eq_getElem h, List.getD_eq_getElem?_getD, List.getElem?_eq_getElem h]; rfl
theorem c106 (ps : List Int) (t : Nat) (bx : Nat) (a : Option Addr) (n cap : Nat) (hn : n = ps.length) (R : HProp) (hR : ∀ h, R h → rdA a (U8 ps) h) :
    ACtr Try.prog 106 2 [IA t, PA bx] [(1, frm (boxP bx a n cap R))] (fun _ : Unit => 0) (fun _ => BA (pick ps t)) (fun _ => [(1, frm (boxP bx a n cap R))]) := by
  subst hn
  refine act Try.func106 rfl rfl rfl A106_ok rfl fun F w0 bb => ?_
  refine enter (X := Unit) (ok := fun _ => True) (cs := fun _ => [SA a ps.length cap]) (T := 38) (Rs := fun _ => [R]) 1 1 1 rfl rfl rfl (fun _ => rfl) (fun h hh => ⟨(), trivial, hh⟩) (fun _ => trivial) fun _ _ => ?_
  refine pureF 4 rfl rfl (q := 0 < ps.length → ∃ ad, a = some ad) (fun h hh hn => rdA_some (hR h hh) (by simpa using hn)) fun hla => ?_
  refine on ?_
  refine ev_lt trivial (fun h1 => ?_) (fun h1 => ?_)
  · have h1' : t < ps.length := by omega
    obtain ⟨ad, rfl⟩ := hla (by omega)
    refine on ?_
    refine ev_ld1 tbl_ok ⟨trivial, by omega, by omega⟩ 4 rfl rfl rfl (.v (.int .u8 (ps.getD t 0))) rfl (fun h hh => ?_) trivial ?_
    · rw [show ((t : Int)).toNat * 1 = t by omega]
      exact rdA_at (hR h hh) (U8_get h1')
    refine on ?_
    refine ret_in trivial ?_
    refine leave 1 2 3 [4] (A := boxP bx (some ad) ps.length cap R) (Rs := [R]) rfl rfl ⟨rfl, trivial⟩ ⟨_, rfl⟩ rfl rfl rfl rfl rfl trivial (fun h hh => hh) ?_
    refine ret_out ?_
    refine retE trivial rfl () [0, 1] rfl rfl rfl rfl ⟨_, rfl, fun ρ => ?_⟩ ⟨rfl, rfl, trivial⟩
    simp [pick, h1', resV, AV.ev]
  · have h1' : ¬ t < ps.length := by omega
    refine on ?_
    refine ret_in trivial ?_
    refine leave 1 2 3 [4] (A := boxP bx a ps.length cap R) (Rs := [R]) rfl rfl ⟨rfl, trivial⟩ ⟨_, rfl⟩ rfl rfl rfl rfl rfl trivial (fun h hh => hh) ?_
    refine ret_out ?_
    refine retE trivial rfl () [0, 1] rfl rfl rfl rfl ⟨_, rfl, fun ρ => ?_⟩ ⟨rfl, rfl, trivial⟩
    simp [pick, h1', resV, AV.ev]
def crM (ps : List Int) (M : Mem) : Mem := settleM (pick ps) M
theorem c54 (M : Mem) (b : Nat) (ps : List Int) (a : Option Addr) (n cap : Nat) (hn : n = ps.length) (R : HProp) (hR : ∀ h, R h → rdA a (U8 ps) h) (hlen : M.log.length ≤ 1000000) :
    ACtr Try.prog 54 3 [PA b, SA a n cap] [(1, frm (memH M b)), (2, frm R)] (fun _ : Unit => 0) (fun _ => IA 0) (fun _ => [(1, frm (memH (crM ps M) b)), (2, frm R)]) := by
  refine act Try.func54 rfl rfl rfl A54_ok rfl fun F w0 bb => ?_
  refine on ?_
  refine call_ab trivial (c65 M b) [1] rfl rfl rfl rfl rfl ⟨rfl, trivial⟩ (fun _ => rfl) (fun _ => rfl) (fun _ => trivial) (fun _ => ?_)
  refine onc ?_
  refine ev_more trivial ?_
  refine by_number 3 3 rfl rfl (fun _ => trivial) fun bx => ?_
  refine recast 9 4 (c := 3) (b := bx) (v' := .fn (.func 106) [] [PA bx]) rfl rfl rfl trivial (fun ρ hb => by simp [AV.ev, AV.evs, hb]) ?_
  refine leave 2 3 4 [2] (A := boxP bx a n cap R) (Rs := [R]) rfl rfl ⟨rfl, trivial⟩ ⟨_, rfl⟩ rfl rfl rfl rfl rfl trivial (fun h hh => hh) ?_
  refine on ?_
  refine call_ab trivial (c75 M b 106 [PA bx] (boxP bx a n cap R) (pick ps) (fun _ => rfl) hlen (fun t _ => c106 ps t bx a n cap hn R hR)) [1, 2] rfl rfl rfl rfl rfl ⟨rfl, rfl, trivial⟩ (fun _ => rfl) (fun _ => rfl) (fun _ => trivial) (fun _ => ?_)
  refine on ?_
  refine ret_in trivial ?_
  refine splitF 2 (C := R) rfl rfl trivial (fun h hh => star_comm (star_left_comm hh)) ?_
  refine ret_out ?_
  exact retE trivial rfl () [0, 1, 2] rfl rfl rfl rfl ⟨_, rfl, fun ρ => rfl⟩ ⟨rfl, rfl, rfl, trivial⟩
/-- a new member -/
def newM (n : Int) : Mem := { n := n, seen := fun _ => zs, dur := fun _ => zs, log := [], marks := [], fails := false, hurt := false }
theorem marksH_nil (h : Hp) : marksH none 0 0 [] h := ⟨[], star_emp (ownH_nil _ _ h)⟩
theorem c62 (n : Int) (h1 : 1 ≤ n) (h2 : n ≤ 65536) : ACtr Try.prog 62 1 [IA n] [] (fun _ : Nat => 1) (fun b => .tup [PA b, IA 0]) (fun b => [(1, frm (memH (newM n) b))]) := by
  refine act Try.func62 rfl rfl rfl A62_ok rfl fun F w0 bb => ?_
  refine on ?_
  refine ev_lt trivial (fun h => absurd h (by omega)) (fun _ => ?_)
  refine on ?_
  refine ev_lt trivial (fun h => absurd h (by omega)) (fun _ => ?_)
  refine on ?_
  refine ev_mkmap trivial (fun _ => trivial) (fun r1 => ?_)
  refine on ?_
  refine ev_mkmap trivial (fun _ => trivial) (fun r2 => ?_)
  refine on ?_
  refine ret_in trivial ?_
  refine newE trivial ?_
  refine weakF 4 (B := ownH 145 65 none 0 0 []) rfl rfl trivial (fun h _ => ownH_nil _ _ h) ?_
  refine newE trivial ?_
  refine weakF 5 (B := marksH none 0 0 []) rfl rfl trivial (fun h _ => marksH_nil h) ?_
  refine by_number 2 3 rfl rfl (fun _ => trivial) fun b => ?_
  refine leave 1 3 6 [1, 2, 4, 5] (A := memH (newM n) b) (Rs := memRs (newM n) ⟨r1, r2, none, 0, none, 0⟩) rfl rfl ⟨rfl, rfl, rfl, rfl, trivial⟩ ⟨_, rfl⟩ rfl rfl rfl rfl rfl trivial (fun h hh => ⟨⟨r1, r2, none, 0, none, 0⟩, ⟨h1, h2, fun w hw => by cases hw⟩, hh⟩) ?_
  refine ret_out ?_
  exact retE trivial rfl b [0, 1] rfl rfl rfl rfl ⟨_, rfl, fun ρ => rfl⟩ ⟨rfl, rfl, trivial⟩
def faM (M : Mem) (on_ : Bool) : Mem := { M with fails := on_, hurt := M.hurt || on_ }
theorem c50 (M : Mem) (b : Nat) (q : Bool) : ACtr Try.prog 50 2 [PA b, BA q] [(1, frm (memH M b))] (fun _ : Unit => 0) (fun _ => IA 0) (fun _ => [(1, frm (memH (faM M q) b))]) := by
  refine act Try.func50 rfl rfl rfl A50_ok rfl fun F w0 bb => ?_
  refine on ?_
  refine call_ab trivial (c65 M b) [1] rfl rfl rfl rfl rfl ⟨rfl, trivial⟩ (fun _ => rfl) (fun _ => rfl) (fun _ => trivial) (fun _ => ?_)
  refine memE 1 0 rfl rfl rfl (fun _ => trivial) fun x ok => ?_
  refine on ?_
  refine ev_br trivial (fun h1 => ?_) (fun h1 => ?_) <;> refine on ?_
  · refine ret_in trivial ?_
    refine recells 2 (cs' := memCs (faM M q) x) rfl (fun ρ => by simp only [memCs, faM, h1]; rfl) rfl trivial ?_
    refine memL 1 2 (faM M q) x ok rfl rfl rfl rfl rfl rfl rfl rfl trivial ?_
    refine ret_out ?_
    exact retE trivial rfl () [0, 1] rfl rfl rfl rfl ⟨_, rfl, fun ρ => rfl⟩ ⟨rfl, rfl, trivial⟩
  · refine ret_in trivial ?_
    refine recells 2 (cs' := memCs (faM M q) x) rfl (fun ρ => by simp only [memCs, faM, h1]; rfl) rfl trivial ?_
    refine memL 1 2 (faM M q) x ok rfl rfl rfl rfl rfl rfl rfl rfl trivial ?_
    refine ret_out ?_
    exact retE trivial rfl () [0, 1] rfl rfl rfl rfl ⟨_, rfl, fun ρ => rfl⟩ ⟨rfl, rfl, trivial⟩
end Go.Proofs.Ytolcobhaghdfcaa
