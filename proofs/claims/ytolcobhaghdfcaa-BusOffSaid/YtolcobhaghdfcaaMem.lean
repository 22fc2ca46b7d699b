/- Contracts of package member: what a member is, and what its methods do to it. -/
import Derived.Test.YtolcobhaghdfcaaBase
import Derived.Test.YtolcobhaghdfcaaAcB
import Derived.Test.YtolcobhaghdfcaaAb
namespace Go.Proofs.Ytolcobhaghdfcaa
open Sx Go
set_option maxRecDepth 100000
abbrev BA (b : Bool) : AV := .v (.bool b)
abbrev PA (b : Nat) : AV := .v (.pointer (some ⟨b, 0, none⟩))
abbrev SA (a : Option Addr) (n cap : Nat) : AV := .v (.slice a n cap)
abbrev MA (r : Nat) : AV := .v (.map (some r))
structure Wr where
  at_ : Int
  s : List Int
def Wr.ok (w : Wr) : Prop := w.s.length = 64
def Wr.enc (w : Wr) : List Value := .int .i64 w.at_ :: w.s.map (Value.int .u8)
def encW (l : List Wr) : List Value := l.flatMap Wr.enc
structure Mem where
  n : Int
  seen : Img
  dur : Img
  log : List Wr
  marks : List Img
  fails : Bool
  hurt : Bool
structure MX where
  s : Nat
  d : Nat
  la : Option Addr
  lc : Nat
  ma : Option Addr
  mc : Nat
def imgs : List Img → List Nat → HProp
  | [], [] => emp
  | g :: r, b :: t => star (imgA g b) (imgs r t)
  | _, _ => lift False
def marksH (a : Option Addr) (n cap : Nat) (l : List Img) : HProp := fun h => ∃ rs : List Nat, star (ownH 137 1 a n cap (rs.map fun r => .map (some r))) (imgs l rs) h
def Mem.ok (M : Mem) : Prop := 1 ≤ M.n ∧ M.n ≤ 65536 ∧ ∀ w ∈ M.log, w.ok
abbrev memCs (M : Mem) (x : MX) : List AV := [IA M.n, MA x.s, MA x.d, SA x.la M.log.length x.lc, SA x.ma M.marks.length x.mc, BA M.fails, BA M.hurt]
abbrev memRs (M : Mem) (x : MX) : List HProp := [imgA M.seen x.s, imgA M.dur x.d, ownH 145 65 x.la M.log.length x.lc (encW M.log), marksH x.ma M.marks.length x.mc M.marks]
def memH (M : Mem) (b : Nat) : HProp := fun h => ∃ x : MX, M.ok ∧ star (ptC b (memCs M x) 141) (starL (memRs M x)) h
theorem mem_open {M : Mem} {b : Nat} : ∀ h, memH M b h → ∃ x : MX, M.ok ∧ star (ptC b (memCs M x) 141) (starL (memRs M x)) h := fun _ h => h
def zeq (z : Value) : Bool := match z with | .agg cs => veqs cs.toList (zs.map (Value.int .u8)) | _ => false
theorem zeq_eq {z : Value} (h : zeq z = true) : z = secV zs := by
  unfold zeq at h
  split at h
  · rename_i cs
    unfold secV
    rw [← veqs_eq h]
  · cases h
theorem img137 : MapTy Try.prog 137 25 := by
  have h1 : Try.prog.underlying 137 = some (.map 3 25) := by kernel_rfl
  have h2 : Try.prog.underlying 3 = some (.int .i64) := by kernel_rfl
  have h3 : ((Try.prog.info? 25).bind fun i => i.zero.map fun z => zeq z) = some true := by kernel_rfl
  refine ⟨h1, h2, ?_⟩
  simp only [Option.bind_eq_some_iff, Option.map_eq_some_iff] at h3
  obtain ⟨i, hi, z, hz, h4⟩ := h3
  exact ⟨i, hi, by rw [hz, zeq_eq h4]⟩
section
variable {cx : Cx} {stk : List K} {fr : List (Nat × AV)} {ch : List (Nat × Chunk)} {nx : Nat}
theorem memE (k s : Nat) {M : Mem} {b : Nat} (hk : lookc ch k = frm (memH M b)) (hkn : Nat.blt k nx = true) (hsl : Sx.look fr s = some (PA b)) (hst : ∀ x, stabK stk (resCh (nx + 2) (memRs M x) ((nx, .cells (memCs M x) 141) :: (nx + 1, isB nx b) :: (k, .gone) :: ch)))
    (hG : ∀ x, M.ok → Good cx ⟨stk, (s, .ptr nx 0) :: fr, resCh (nx + 2) (memRs M x) ((nx, .cells (memCs M x) 141) :: (nx + 1, isB nx b) :: (k, .gone) :: ch), nx + 2 + 4⟩) : Good cx ⟨stk, fr, ch, nx⟩ :=
  enter k s 4 hk hkn hsl (fun _ => rfl) mem_open hst hG
theorem memL (k c : Nat) (M : Mem) (x : MX) {b : Nat} (ok : M.ok) (hc : lookc ch c = .cells (memCs M x) 141) (he : lookc ch (c + 1) = isB c b) (h1 : lookc ch (c + 2) = frm (imgA M.seen x.s)) (h2 : lookc ch (c + 3) = frm (imgA M.dur x.d))
    (h3 : lookc ch (c + 4) = frm (ownH 145 65 x.la M.log.length x.lc (encW M.log))) (h4 : lookc ch (c + 5) = frm (marksH x.ma M.marks.length x.mc M.marks)) (hkn : Nat.blt k nx = true) (hcn : Nat.blt (c + 5) nx = true)
    (hst : stabK stk ((k, frm (memH M b)) :: ([c + 2, c + 3, c + 4, c + 5].map (fun j => (j, .gone)) ++ (c, .gone) :: ch)))
    (hG : Good cx ⟨stk, fr, (k, frm (memH M b)) :: ([c + 2, c + 3, c + 4, c + 5].map (fun j => (j, .gone)) ++ (c, .gone) :: ch), nx⟩) : Good cx ⟨stk, fr, ch, nx⟩ := by
  have hcn' : c + 5 < nx := by simpa using hcn
  exact leave k c (c + 1) [c + 2, c + 3, c + 4, c + 5] (A := memH M b) (Rs := memRs M x) hc he ⟨h1, h2, h3, h4, trivial⟩ ⟨_, rfl⟩ hkn (by simp; omega) (by simp; omega) (by simp; omega) (by simp [nodupB]) hst (fun h hh => ⟨x, ok, hh⟩) hG
theorem memR {p : Prop} (hp : p) (k c : Nat) (M : Mem) (x : MX) {b : Nat} (ok : M.ok) (hc : lookc ch c = .cells (memCs M x) 141) (he : lookc ch (c + 1) = isB c b) (h1 : lookc ch (c + 2) = frm (imgA M.seen x.s)) (h2 : lookc ch (c + 3) = frm (imgA M.dur x.d))
    (h3 : lookc ch (c + 4) = frm (ownH 145 65 x.la M.log.length x.lc (encW M.log))) (h4 : lookc ch (c + 5) = frm (marksH x.ma M.marks.length x.mc M.marks)) (hkn : Nat.blt k nx = true) (hcn : Nat.blt (c + 5) nx = true)
    (h : EvOk cx (.ret True [] fr ((k, frm (memH M b)) :: ([c + 2, c + 3, c + 4, c + 5].map (fun j => (j, .gone)) ++ (c, .gone) :: ch)) nx)) : EvOk cx (.ret p stk fr ch nx) :=
  ret_in hp (memL k c M x ok hc he h1 h2 h3 h4 hkn hcn trivial (ret_out h))
end
theorem c65 (M : Mem) (b : Nat) : ACtr Try.prog 65 2 [PA b] [(1, frm (memH M b))] (fun _ : Unit => 0) (fun _ => .tt) (fun _ => [(1, frm (memH M b))]) := by
  refine act Try.func65 rfl rfl rfl A65_ok rfl fun F w0 bb => ?_
  refine memE 1 0 rfl rfl rfl (fun _ => trivial) fun x ok => ?_
  refine on ?_
  refine memR trivial 1 2 M x ok rfl rfl rfl rfl rfl rfl rfl rfl ?_
  refine retE trivial rfl () [0, 1] rfl rfl rfl rfl ⟨_, rfl, fun ρ => ?_⟩ ⟨rfl, rfl, trivial⟩
  have := ok.1
  simp [resV, AV.ev]; omega
/-- the answer of may -/
def mayM (M : Mem) (i : Int) : Int := if 0 ≤ i ∧ i < M.n then 0 else 2
theorem c78 (M : Mem) (b : Nat) (i : Int) : ACtr Try.prog 78 2 [PA b, IA i] [(1, frm (memH M b))] (fun _ : Unit => 0) (fun _ => IA (mayM M i)) (fun _ => [(1, frm (memH M b))]) := by
  refine act Try.func78 rfl rfl rfl A78_ok rfl fun F w0 bb => ?_
  refine on ?_
  refine call_ab trivial (c65 M b) [1] rfl rfl rfl rfl rfl ⟨rfl, trivial⟩ (fun _ => rfl) (fun _ => rfl) (fun _ => trivial) (fun _ => ?_)
  refine memE 1 0 rfl rfl rfl (fun _ => trivial) fun x ok => ?_
  refine on ?_
  refine ev_lt trivial (fun h1 => ?_) (fun h1 => ?_) <;> refine on ?_
  · refine memR trivial 1 2 M x ok rfl rfl rfl rfl rfl rfl rfl rfl ?_
    refine retE trivial rfl () [0, 1] rfl rfl rfl rfl ⟨_, rfl, fun ρ => ?_⟩ ⟨rfl, rfl, trivial⟩
    rw [mayM, if_neg (by omega)]; rfl
  refine ev_lt trivial (fun h2 => ?_) (fun h2 => ?_) <;> refine on ?_
  · refine memR trivial 1 2 M x ok rfl rfl rfl rfl rfl rfl rfl rfl ?_
    refine retE trivial rfl () [0, 1] rfl rfl rfl rfl ⟨_, rfl, fun ρ => ?_⟩ ⟨rfl, rfl, trivial⟩
    rw [mayM, if_neg (by omega)]; rfl
  · refine memR trivial 1 2 M x ok rfl rfl rfl rfl rfl rfl rfl rfl ?_
    refine retE trivial rfl () [0, 1] rfl rfl rfl rfl ⟨_, rfl, fun ρ => ?_⟩ ⟨rfl, rfl, trivial⟩
    rw [mayM, if_pos (by omega)]; rfl
def ioM (M : Mem) (i : Int) : Int := if mayM M i = 0 ∧ M.fails = true then 10 else mayM M i
theorem c72 (M : Mem) (b : Nat) (i : Int) : ACtr Try.prog 72 2 [PA b, IA i] [(1, frm (memH M b))] (fun _ : Unit => 0) (fun _ => IA (ioM M i)) (fun _ => [(1, frm (memH M b))]) := by
  refine act Try.func72 rfl rfl rfl A72_ok rfl fun F w0 bb => ?_
  refine on ?_
  refine call_ab trivial (c78 M b i) [1] rfl rfl rfl rfl rfl ⟨rfl, trivial⟩ (fun _ => rfl) (fun _ => rfl) (fun _ => trivial) (fun _ => ?_)
  refine memE 1 0 rfl rfl rfl (fun _ => trivial) fun x ok => ?_
  refine on ?_
  refine ev_ne trivial (fun h1 => ?_) (fun h1 => ?_) <;> refine on ?_
  · refine memR trivial 1 2 M x ok rfl rfl rfl rfl rfl rfl rfl rfl ?_
    refine retE trivial rfl () [0, 1] rfl rfl rfl rfl ⟨_, rfl, fun ρ => ?_⟩ ⟨rfl, rfl, trivial⟩
    rw [ioM, if_neg (fun h => h1 h.1)]; rfl
  refine ev_br trivial (fun h2 => ?_) (fun h2 => ?_) <;> refine on ?_
  · refine memR trivial 1 2 M x ok rfl rfl rfl rfl rfl rfl rfl rfl ?_
    refine retE trivial rfl () [0, 1] rfl rfl rfl rfl ⟨_, rfl, fun ρ => ?_⟩ ⟨rfl, rfl, trivial⟩
    rw [ioM, if_neg (fun h => by rw [h.2] at h2; cases h2)]; rfl
  · refine memR trivial 1 2 M x ok rfl rfl rfl rfl rfl rfl rfl rfl ?_
    refine retE trivial rfl () [0, 1] rfl rfl rfl rfl ⟨_, rfl, fun ρ => ?_⟩ ⟨rfl, rfl, trivial⟩
    rw [ioM, if_pos ⟨h1, by simpa using h2⟩]; rfl
abbrev Z64 : List Int := List.replicate 64 0
theorem c73 (g : Img) (r : Nat) (i : Int) (s : List Int) (hs : s.length = 64) : ACtr Try.prog 73 2 [MA r, IA i, .run .u8 64 s] [(1, frm (imgA g r))] (fun _ : Unit => 0) (fun _ => .tup []) (fun _ => [(1, frm (imgA (putI g i s) r))]) := by
  refine act Try.func73 rfl rfl rfl A73_ok rfl fun F w0 bb => ?_
  refine on ?_
  refine ev_br trivial (fun h1 => ?_) (fun h1 => ?_) <;> refine on ?_
  · replace h1 := xd h1
    refine ev_del0 img137 trivial 1 rfl rfl rfl rfl rfl rfl trivial ?_
    refine on ?_
    refine retE trivial rfl () [0, 1] rfl rfl rfl rfl ⟨_, rfl, fun ρ => rfl⟩ ⟨rfl, ?_, trivial⟩
    rw [h1]; rfl
  · refine ev_put img137 trivial 1 rfl rfl rfl rfl rfl rfl rfl rfl hs trivial ?_
    refine on ?_
    exact fina trivial rfl () [0, 1] rfl rfl rfl rfl ⟨_, rfl, fun ρ => rfl⟩ ⟨rfl, rfl, trivial⟩
def rdM (M : Mem) (i : Int) : List Int := if ioM M i = 0 then M.seen i else Z64
theorem c25 (M : Mem) (b : Nat) (i : Int) : ACtr Try.prog 25 2 [PA b, IA i] [(1, frm (memH M b))] (fun _ : Unit => 0) (fun _ => .tup [.run .u8 64 (rdM M i), IA (ioM M i)]) (fun _ => [(1, frm (memH M b))]) := by
  refine act Try.func25 rfl rfl rfl A25_ok rfl fun F w0 bb => ?_
  refine on ?_
  refine call_ab trivial (c72 M b i) [1] rfl rfl rfl rfl rfl ⟨rfl, trivial⟩ (fun _ => rfl) (fun _ => rfl) (fun _ => trivial) (fun _ => ?_)
  refine on ?_
  refine ev_ne trivial (fun h1 => ?_) (fun h1 => ?_)
  · refine on ?_
    refine retE trivial rfl () [0, 1] rfl rfl rfl rfl ⟨_, rfl, fun ρ => ?_⟩ ⟨rfl, rfl, trivial⟩
    rw [rdM, if_neg h1]; rfl
  · refine memE 1 0 rfl rfl rfl (fun _ => trivial) fun x ok => ?_
    refine on ?_
    refine ev_look img137 trivial 5 rfl rfl rfl rfl rfl rfl trivial (fun hl => ?_)
    refine on ?_
    refine memR trivial 1 3 M x ok rfl rfl rfl rfl rfl rfl rfl rfl ?_
    refine retE trivial rfl () [0, 1] rfl rfl rfl rfl ⟨_, rfl, fun ρ => ?_⟩ ⟨rfl, rfl, trivial⟩
    rw [rdM, if_pos h1, h1]; rfl
def lkM (M : Mem) (i : Int) : List Int := if mayM M i = 0 then M.dur i else Z64
theorem c26 (M : Mem) (b : Nat) (i : Int) : ACtr Try.prog 26 2 [PA b, IA i] [(1, frm (memH M b))] (fun _ : Unit => 0) (fun _ => .tup [.run .u8 64 (lkM M i), IA (mayM M i)]) (fun _ => [(1, frm (memH M b))]) := by
  refine act Try.func26 rfl rfl rfl A26_ok rfl fun F w0 bb => ?_
  refine on ?_
  refine call_ab trivial (c78 M b i) [1] rfl rfl rfl rfl rfl ⟨rfl, trivial⟩ (fun _ => rfl) (fun _ => rfl) (fun _ => trivial) (fun _ => ?_)
  refine on ?_
  refine ev_ne trivial (fun h1 => ?_) (fun h1 => ?_)
  · refine on ?_
    refine retE trivial rfl () [0, 1] rfl rfl rfl rfl ⟨_, rfl, fun ρ => ?_⟩ ⟨rfl, rfl, trivial⟩
    rw [lkM, if_neg h1]; rfl
  · refine memE 1 0 rfl rfl rfl (fun _ => trivial) fun x ok => ?_
    refine on ?_
    refine ev_look img137 trivial 6 rfl rfl rfl rfl rfl rfl trivial (fun hl => ?_)
    refine on ?_
    refine memR trivial 1 3 M x ok rfl rfl rfl rfl rfl rfl rfl rfl ?_
    refine retE trivial rfl () [0, 1] rfl rfl rfl rfl ⟨_, rfl, fun ρ => ?_⟩ ⟨rfl, rfl, trivial⟩
    rw [lkM, if_pos h1, h1]; rfl
theorem c27 (M : Mem) (b : Nat) : ACtr Try.prog 27 2 [PA b] [(1, frm (memH M b))] (fun _ : Unit => 0) (fun _ => BA M.hurt) (fun _ => [(1, frm (memH M b))]) := by
  refine act Try.func27 rfl rfl rfl A27_ok rfl fun F w0 bb => ?_
  refine on ?_
  refine call_ab trivial (c65 M b) [1] rfl rfl rfl rfl rfl ⟨rfl, trivial⟩ (fun _ => rfl) (fun _ => rfl) (fun _ => trivial) (fun _ => ?_)
  refine memE 1 0 rfl rfl rfl (fun _ => trivial) fun x ok => ?_
  refine on ?_
  refine memR trivial 1 2 M x ok rfl rfl rfl rfl rfl rfl rfl rfl ?_
  exact retE trivial rfl () [0, 1] rfl rfl rfl rfl ⟨_, rfl, fun ρ => rfl⟩ ⟨rfl, rfl, trivial⟩
theorem c44 (M : Mem) (b : Nat) : ACtr Try.prog 44 2 [PA b] [(1, frm (memH M b))] (fun _ : Unit => 0) (fun _ => IA M.n) (fun _ => [(1, frm (memH M b))]) := by
  refine act Try.func44 rfl rfl rfl A44_ok rfl fun F w0 bb => ?_
  refine on ?_
  refine call_ab trivial (c65 M b) [1] rfl rfl rfl rfl rfl ⟨rfl, trivial⟩ (fun _ => rfl) (fun _ => rfl) (fun _ => trivial) (fun _ => ?_)
  refine memE 1 0 rfl rfl rfl (fun _ => trivial) fun x ok => ?_
  refine on ?_
  refine memR trivial 1 2 M x ok rfl rfl rfl rfl rfl rfl rfl rfl ?_
  exact retE trivial rfl () [0, 1] rfl rfl rfl rfl ⟨_, rfl, fun ρ => rfl⟩ ⟨rfl, rfl, trivial⟩
theorem c31 (M : Mem) (b : Nat) : ACtr Try.prog 31 2 [PA b] [(1, frm (memH M b))] (fun _ : Unit => 0) (fun _ => IA M.log.length) (fun _ => [(1, frm (memH M b))]) := by
  refine act Try.func31 rfl rfl rfl A31_ok rfl fun F w0 bb => ?_
  refine on ?_
  refine call_ab trivial (c65 M b) [1] rfl rfl rfl rfl rfl ⟨rfl, trivial⟩ (fun _ => rfl) (fun _ => rfl) (fun _ => trivial) (fun _ => ?_)
  refine memE 1 0 rfl rfl rfl (fun _ => trivial) fun x ok => ?_
  refine on ?_
  refine memR trivial 1 2 M x ok rfl rfl rfl rfl rfl rfl rfl rfl ?_
  exact retE trivial rfl () [0, 1] rfl rfl rfl rfl ⟨_, rfl, fun ρ => rfl⟩ ⟨rfl, rfl, trivial⟩
theorem rowTy_of {t e sz bytes : Nat} (h1 : Try.prog.underlying t = some (.slice e)) (h2 : ((Try.prog.info? e).map fun i => (i.size, i.bytes, (i.zero.map fun z => z.cells.size))) = some (sz, bytes, some sz)) (h3 : 0 < sz) : RowTy Try.prog t e sz bytes := by
  simp only [Option.map_eq_some_iff, Prod.mk.injEq] at h2
  obtain ⟨i, hi, hs, hb, z, hz, hzs⟩ := h2
  exact ⟨h1, ⟨i, z, hi, hz, hs, hb, hzs⟩, h3⟩
theorem row138 : RowTy Try.prog 138 145 65 72 := rowTy_of (by kernel_rfl) (by kernel_rfl) (by decide)
theorem ints_one (k : IntKind) (l : List Int) : ∀ u ∈ l.map (Value.int k), u.oneCell' = true := fun u hu => by obtain ⟨q, _, rfl⟩ := List.mem_map.1 hu; rfl
def wrM (M : Mem) (i : Int) (s : List Int) : Mem := if ioM M i = 0 then { M with seen := putI M.seen i s, log := M.log ++ [⟨i, s⟩] } else M
theorem encW_snoc (l : List Wr) (w : Wr) : encW (l ++ [w]) = encW l ++ w.enc := by simp [encW]
theorem c21 (M : Mem) (b : Nat) (i : Int) (s : List Int) (hs : s.length = 64) (hlen : M.log.length ≤ 1000000) : ACtr Try.prog 21 2 [PA b, IA i, .run .u8 64 s] [(1, frm (memH M b))] (fun _ : Unit => 0) (fun _ => IA (ioM M i)) (fun _ => [(1, frm (memH (wrM M i s) b))]) := by
  refine act Try.func21 rfl rfl rfl A21_ok rfl fun F w0 bb => ?_
  refine on ?_
  refine call_ab trivial (c72 M b i) [1] rfl rfl rfl rfl rfl ⟨rfl, trivial⟩ (fun _ => rfl) (fun _ => rfl) (fun _ => trivial) (fun _ => ?_)
  refine on ?_
  refine ev_ne trivial (fun h1 => ?_) (fun h1 => ?_)
  · refine on ?_
    refine retE trivial rfl () [0, 1] rfl rfl rfl rfl ⟨_, rfl, fun ρ => rfl⟩ ⟨rfl, ?_, trivial⟩
    rw [wrM, if_neg h1]; rfl
  · refine memE 1 0 rfl rfl rfl (fun _ => trivial) fun x ok => ?_
    refine on ?_
    refine draw_ok mixed trivial O21_4_ok [(2, _), (3, _)] Q21_4_ok ⟨rfl, rfl, trivial⟩ rfl (fun ρ0 => ?_)
    refine on ?_
    refine call_ab trivial (c73 M.seen x.s i s hs) [5] rfl rfl rfl rfl rfl ⟨rfl, trivial⟩ (fun _ => rfl) (fun _ => rfl) (fun _ => ⟨rfl, rfl, trivial⟩) (fun _ => ?_)
    refine on ?_
    refine draw_ok mixed trivial O21_5_ok [(2, _), (3, _)] Q21_5_ok ⟨rfl, rfl, trivial⟩ rfl (fun ρ0 => ?_)
    refine on ?_
    refine ev_appA (us := Wr.enc ⟨i, s⟩) row138 trivial 7 rfl rfl rfl rfl (src_named (cs := [IA i, .run .u8 64 s]) (vs := Wr.enc ⟨i, s⟩) rfl rfl rfl (by simp [AV.evc, AV.ev1, hs, Wr.enc]) (fun j u h => by simpa using h)) (by simp [Wr.enc, hs])
      (fun u hu => by rcases List.mem_cons.1 hu with rfl | hu; rfl; exact ints_one _ _ u hu) ⟨by omega, by unfold maxLen; omega⟩ (fun _ => ⟨rfl, rfl, trivial⟩) (fun a' cap' => ?_)
    refine on ?_
    have ok' : (wrM M i s).ok := by
      rw [wrM, if_pos h1]
      refine ⟨ok.1, ok.2.1, fun w hw => ?_⟩
      rcases List.mem_append.1 hw with hw | hw
      · exact ok.2.2 w hw
      · simp only [List.mem_singleton] at hw; subst hw; exact hs
    have e : wrM M i s = { M with seen := putI M.seen i s, log := M.log ++ [⟨i, s⟩] } := by rw [wrM, if_pos h1]
    refine memR trivial 1 3 (wrM M i s) { x with la := a', lc := cap' } ok' ?_ rfl ?_ ?_ ?_ ?_ rfl rfl ?_
    · rw [e]; simp only [memCs, List.length_append, List.length_cons, List.length_nil]; rfl
    · rw [e]; rfl
    · rw [e]; rfl
    · rw [e]; simp only [encW_snoc, List.length_append, List.length_cons, List.length_nil]; rfl
    · rw [e]; rfl
    exact retE trivial rfl () [0, 1] rfl rfl rfl rfl ⟨_, rfl, fun ρ => by rw [h1]; rfl⟩ ⟨rfl, rfl, trivial⟩
end Go.Proofs.Ytolcobhaghdfcaa
