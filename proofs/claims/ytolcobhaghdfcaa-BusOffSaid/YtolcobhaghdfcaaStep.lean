/- One operation of the short form, reckoned over abstract values and an abstract heap; and that the model's own operation does just that. -/
import Derived.Test.YtolcobhaghdfcaaCode
import Derived.Laws.Tables
import Derived.Laws.Cells
namespace Sx
open Go

def InR (x : Int) : Prop := -9223372036854775808 ≤ x ∧ x ≤ 9223372036854775807
theorem wrap_in {x : Int} (h : InR x) : IntKind.i64.wrap x = x := by
  obtain ⟨h1, h2⟩ := h
  show (if (true && decide (x % 18446744073709551616 ≥ 9223372036854775808)) = true then x % 18446744073709551616 - 18446744073709551616 else x % 18446744073709551616) = x
  simp only [Bool.true_and, decide_eq_true_eq]
  split <;> omega

inductive R where
  | ok (d : Nat) (v : AV) (q : Option Prop)
  | new (d : Nat) (v : AV) (c : Chunk)
  | st (c : Nat) (x : Chunk) (q : Option Prop)
  | br (s : Nat) (b : Bool)
  | call (d f : Nat) (args : List AV)
  | ev

def argv (fr : List (Nat × AV)) : Arg → Option AV
  | .t n => look fr n
  | .k v => some v
def argvs (fr : List (Nat × AV)) : List Arg → Option (List AV)
  | [] => some []
  | x :: r => match argv fr x with | some a => (match argvs fr r with | some t => some (a :: t) | none => none) | none => none
def mkAgg : List AV → AV
  | [.run k n l] => .run k n l
  | l => .agg l
def asum : List AV → Nat
  | [] => 0
  | x :: r => asz x + asum r
def fillA (fr : List (Nat × AV)) : List (Nat × Nat × Arg) → List AV → Option (List AV)
  | [], cs => some cs
  | (off, n, x) :: r, cs => match argv fr x with
    | some v => (match cellsOf v with
      | some l => bif Nat.beq (asum l) n then (match putN cs off l n [] with
        | some cs' => fillA fr r cs'
        | none => (match v with
          | .v (.int k q) => (match setN cs off k q [] with | some cs' => fillA fr r cs' | none => none)
          | _ => none)) else none
      | none => none)
    | none => none
/-- may stand in a cell that is stored into -/
def okst : AV → Bool
  | .v x => x.oneCell'
  | .tup _ => false
  | .agg _ => false
  | _ => true
def allst : List AV → Bool
  | [] => true
  | x :: r => okst x && allst r

def intOp (d : Nat) (op : BinOp) (k : IntKind) (a b : Int) : R :=
  match op with
  | .add => match k with | .i64 => .ok d (.v (.int .i64 (a + b))) (some (InR (a + b))) | k => .ok d (.v (.int k (k.wrap (a + b)))) none
  | .sub => match k with | .i64 => .ok d (.v (.int .i64 (a - b))) (some (InR (a - b))) | k => .ok d (.v (.int k (k.wrap (a - b)))) none
  | .mul => match k with | .i64 => .ok d (.v (.int .i64 (a * b))) (some (InR (a * b))) | k => .ok d (.v (.int k (k.wrap (a * b)))) none
  | .quo => match k with | .i64 => .ok d (.v (.int .i64 (a.tdiv b))) (some (b ≠ 0 ∧ InR (a.tdiv b))) | k => .ok d (.v (.int k (k.wrap (a.tdiv b)))) (some (b ≠ 0))
  | .rem => .ok d (.v (.int k (a.tmod b))) (some (b ≠ 0))
  | .and => .ok d (.v (.int k (bits .and k a b))) none
  | .or => .ok d (.v (.int k (bits .or k a b))) none
  | .xor => .ok d (.v (.int k (bits .xor k a b))) none
  | .eql => .ok d (.v (.bool (decide (a = b)))) none
  | .neq => .ok d (.v (.bool (!decide (a = b)))) none
  | .lss => .ok d (.v (.bool (decide (a < b)))) none
  | .leq => .ok d (.v (.bool (decide (a ≤ b)))) none
  | .gtr => .ok d (.v (.bool (decide (b < a)))) none
  | .geq => .ok d (.v (.bool (decide (b ≤ a)))) none
  | _ => .ev
def shiftOp (d : Nat) (op : BinOp) (k : IntKind) (a b : Int) : R :=
  match op with
  | .shl => match k with
    | .i64 => .ok d (.v (.int .i64 (a * 2 ^ b.toNat))) (some (0 ≤ b ∧ b ≤ 64 ∧ InR (a * 2 ^ b.toNat)))
    | k => .ok d (.v (.int k (k.wrap (a * 2 ^ (min b.toNat k.bits))))) (some (0 ≤ b))
  | .shr => .ok d (.v (.int k (a.fdiv (2 ^ (min b.toNat k.bits))))) (some (0 ≤ b))
  | _ => .ev
def isShift : BinOp → Bool
  | .shl => true
  | .shr => true
  | _ => false
/-- is it nil? (0: of a pointer, 1: a slice, 2: a map, 3: a function) -/
def isNil : Nat → AV → Option Bool
  | 0, .ptr _ _ => some false
  | 0, .elp _ _ _ _ _ => some false
  | 1, .slc _ _ _ _ => some false
  | 2, .mp _ => some false
  | 3, .fn _ _ _ => some false
  | 0, .v (.pointer none) => some true
  | 0, .v (.pointer (some _)) => some false
  | 1, .v (.slice none _ _) => some true
  | 1, .v (.slice (some _) _ _) => some false
  | 2, .v (.map none) => some true
  | 2, .v (.map (some _)) => some false
  | 3, .v .nilFunc => some true
  | 3, .v (.func _ _ _) => some false
  | _, _ => none
def isNilConst : Nat → AV → Bool
  | 0, .v (.pointer none) => true
  | 1, .v (.slice none 0 0) => true
  | 2, .v (.map none) => true
  | 3, .v .nilFunc => true
  | _, _ => false
def bAV : Bool → AV
  | true => .tt
  | false => .ff
def boolV : AV → Option Bool
  | .tt => some true
  | .ff => some false
  | .v (.bool b) => some b
  | _ => none
def optv (fr : List (Nat × AV)) (dflt : Int) : Option Arg → Option Int
  | none => some dflt
  | some x => match argv fr x with | some (.v (.int _ n)) => some n | _ => none
/-- a third bound stands beside a second one -/
def optFit : Option Arg → Option Arg → Bool
  | none, some _ => false
  | _, _ => true
def slOff (off l m sz : Nat) : Nat := if m = l then off else off + l * sz

def loadAt (d n : Nat) (agg : Bool) (off : Nat) : Chunk → R
  | .cells cs _ => bif agg then (match skipN cs off with
      | some r => (match takeN r n [] with | some l => .ok d (mkAgg l) none | none => .ev)
      | none => .ev)
    else (match oneN cs off with | some v => .ok d v none | none => .ev)
  | _ => .ev
def storeTo (n c off : Nat) (v : AV) : Chunk → R
  | .cells cs T => (match cellsOf v with
    | some l => bif allst l && Nat.beq (asum l) n then (match putN cs off l n [] with
        | some cs' => .st c (.cells cs' T) none
        | none => (match v with
          | .v (.int k q) => (match setN cs off k q [] with | some cs' => .st c (.cells cs' T) none | none => .ev)
          | _ => .ev)) else .ev
    | none => .ev)
  | _ => .ev

def step (fr : List (Nat × AV)) (ch : List (Nat × Chunk)) (nx : Nat) : AOp → R
  | .mov d x => match argv fr x with | some v => .ok d v none | none => .ev
  | .pick d c a b => match look fr c with
    | some .tt => (match argv fr a with | some v => .ok d v none | none => .ev)
    | some .ff => (match argv fr b with | some v => .ok d v none | none => .ev)
    | some (.v (.bool q)) => .br c q
    | _ => .ev
  | .box d T x => match argv fr x with
    | some v => (match cellsOf v with | some l => .new d (.ptr nx 0) (.cells l T) | none => .ev)
    | none => .ev
  | .alloc d T z => .new d (.ptr nx 0) (.cells z T)
  | .build d z ps => match fillA fr ps z with | some l => .ok d (mkAgg l) none | none => .ev
  | .bslice d T n z ps => match fillA fr ps z with | some l => .new d (.slc nx 0 n n) (.cells l T) | none => .ev
  | .load d n agg a => match argv fr a with
    | some (.ptr c off) => loadAt d n agg off (lookc ch c)
    | some (.elp c base 1 i 0) => bif agg then loadAt d n agg (base + i.toNat * 1 + 0) (lookc ch c) else (match lookc ch c with
      | .cells cs T => (match runN cs base with | some (k, m, l) => .ok d (.v (.int k (l.getD i.toNat 0))) (some (i.toNat < m)) | none => loadAt d n agg (base + i.toNat * 1 + 0) (.cells cs T))
      | _ => .ev)
    | some (.elp c base sz i inner) => loadAt d n agg (base + i.toNat * sz + inner) (lookc ch c)
    | _ => .ev
  | .store n a x => match argv fr a, argv fr x with
    | some (.ptr c off), some v => storeTo n c off v (lookc ch c)
    | some (.elp c base 1 i 0), some (.v (.int k q)) => bif Nat.beq n 1 then (match lookc ch c with
      | .cells cs T => (match runN cs base with
        | some (_, m, _) => (match setR cs base k q i.toNat [] with | some cs' => .st c (.cells cs' T) (some (i.toNat < m)) | none => .ev)
        | none => storeTo n c (base + i.toNat * 1 + 0) (.v (.int k q)) (.cells cs T))
      | _ => .ev) else .ev
    | some (.elp c base sz i inner), some v => storeTo n c (base + i.toNat * sz + inner) v (lookc ch c)
    | _, _ => .ev
  | .nilc d x => match argv fr x with
    | some (.ptr c o) => .ok d (.ptr c o) none
    | some (.elp c b s i o) => .ok d (.elp c b s i o) none
    | some (.v (.pointer (some a))) => .ok d (.v (.pointer (some a))) none
    | _ => .ev
  | .bin d op x y => match argv fr x, argv fr y with
    | some (.v (.int k a)), some (.v (.int k' b)) => bif isShift op then shiftOp d op k a b else bif k == k' then intOp d op k a b else .ev
    | _, _ => .ev
  | .eqv d neg kc x y => match argv fr x, argv fr y with
    | some a, some b => bif isNilConst kc b then (match isNil kc a with | some q => .ok d (bAV (xor neg q)) none | none => .ev) else .ev
    | _, _ => .ev
  | .eqb d neg x y => match argv fr x, argv fr y with
    | some a, some b => (match boolV a, boolV b with | some p, some q => .ok d (.v (.bool (xor neg (p == q)))) none | _, _ => .ev)
    | _, _ => .ev
  | .eqr d neg n k x y => match argv fr x, argv fr y with
    | some (.run k1 n1 l1), some (.run k2 n2 l2) => bif k1 == k && k2 == k && Nat.beq n1 n && Nat.beq n2 n then .ok d (.v (.bool (xor neg (decide (l1 = l2))))) none else .ev
    | _, _ => .ev
  | .not d x => match argv fr x with
    | some .tt => .ok d .ff none
    | some .ff => .ok d .tt none
    | some (.v (.bool b)) => .ok d (.v (.bool (!b))) none
    | _ => .ev
  | .fld d off x => match argv fr x with
    | some (.ptr c o) => .ok d (.ptr c (o + off)) none
    | some (.elp c b s i o) => .ok d (.elp c b s i (o + off)) none
    | some (.v (.pointer (some ad))) => .ok d (.v (.pointer (some (ad.add off)))) none
    | _ => .ev
  | .fldv d off n agg x => match argv fr x with
    | some (.agg cs) => bif agg then (match skipN cs off with
          | some r => (match takeN r n [] with | some l => .ok d (mkAgg l) none | none => .ev)
          | none => .ev)
        else (match oneN cs off with | some v => .ok d v none | none => .ev)
    | _ => .ev
  | .idx d sz x i => match argv fr x, argv fr i with
    | some (.slc c off len _), some (.v (.int _ j)) => .ok d (.elp c off sz j 0) (some (0 ≤ j ∧ j < len))
    | some (.v (.slice (some ad) len _)), some (.v (.int _ j)) => .ok d (.v (.pointer (some (ad.add (j.toNat * sz))))) (some (0 ≤ j ∧ j < len))
    | _, _ => .ev
  | .idxa d len sz x i => match argv fr x, argv fr i with
    | some (.ptr c off), some (.v (.int _ j)) => .ok d (.elp c off sz j 0) (some (0 ≤ j ∧ j < len))
    | _, _ => .ev
  | .ext d i x => match argv fr x with
    | some (.tup vs) => (match vs[i]? with | some v => .ok d v none | none => .ev)
    | _ => .ev
  | .mkfn d f first caps => match argvs fr first, argvs fr caps with
    | some a, some b => .ok d (.fn f a b) none
    | _, _ => .ev
  | .call d f args => match argv fr f, argvs fr args with
    | some (.fn (.func g) first caps), some l => .call d g (first ++ l ++ caps)
    | _, _ => .ev
  | .len d x => match argv fr x with
    | some (.slc _ _ n _) => .ok d (.v (.int .i64 n)) none
    | some (.v (.slice _ n _)) => .ok d (.v (.int .i64 n)) none
    | _ => .ev
  | .conv d k x => match argv fr x with
    | some (.v (.int _ n)) => (match k with | .i64 => .ok d (.v (.int .i64 n)) (some (InR n)) | k => .ok d (.v (.int k (k.wrap n))) none)
    | _ => .ev
  | .slice d sz x lo hi mx => match argv fr x with
    | some (.slc c off len cap) => bif !optFit hi mx then .ev else (match optv fr 0 lo, optv fr len hi, optv fr cap mx with
      | some l, some h, some m => .ok d (.slc c (slOff off l.toNat m.toNat sz) (h.toNat - l.toNat) (m.toNat - l.toNat)) (some (0 ≤ l ∧ l ≤ h ∧ h ≤ m ∧ m ≤ cap))
      | _, _, _ => .ev)
    | some (.v (.slice ad len cap)) => bif !optFit hi mx then .ev else (match optv fr 0 lo, optv fr len hi, optv fr cap mx with
      | some l, some h, some m => .ok d (.v (.slice (if m.toNat = l.toNat then ad else ad.map (·.add (l.toNat * sz))) (h.toNat - l.toNat) (m.toNat - l.toNat))) (some (0 ≤ l ∧ l ≤ h ∧ h ≤ m ∧ m ≤ cap))
      | _, _, _ => .ev)
    | _ => .ev
  | .slicea d n sz x lo hi mx => match argv fr x with
    | some (.ptr c off) => bif !optFit hi mx then .ev else (match optv fr 0 lo, optv fr n hi, optv fr n mx with
      | some l, some h, some m => .ok d (.slc c (slOff off l.toNat m.toNat sz) (h.toNat - l.toNat) (m.toNat - l.toNat)) (some (0 ≤ l ∧ l ≤ h ∧ h ≤ m ∧ m ≤ n))
      | _, _, _ => .ev)
    | _ => .ev
  | .other _ _ _ => .ev

/-! ### the abstract state stands for the true one -/
def FrOk (ρ : List Nat) (fr : List (Nat × AV)) (a : Act) : Prop := ∀ s v, look fr s = some v → ∃ x, v.ev ρ = some x ∧ a.tmps[s]? = some x
theorem argOf_ok {ρ : List Nat} {fr : List (Nat × AV)} {a : Act} (H : FrOk ρ fr a) {o : Operand} {x : Arg} (h : argOf o = some x) {v : AV} (hv : argv fr x = some v) :
    v.ev ρ = some (a.eval o) := by
  cases o with
  | tmp t =>
    simp only [argOf, Option.some.injEq] at h; subst h
    obtain ⟨y, h1, h2⟩ := H t v hv
    simp only [Act.eval, Array.getD_eq_getD_getElem?, h2, Option.getD_some]; exact h1
  | const c =>
    simp only [argOf, Option.some.injEq] at h; subst h
    simp only [argv, Option.some.injEq] at hv; subst hv
    exact constAV_spec ρ c
  | global g => simp [argOf] at h
  | func f =>
    simp only [argOf, Option.some.injEq] at h; subst h
    simp only [argv, Option.some.injEq] at hv; subst hv
    rfl
theorem argsOf_ok {ρ : List Nat} {fr : List (Nat × AV)} {a : Act} (H : FrOk ρ fr a) : ∀ {os : List Operand} {xs : List Arg} {vs : List AV}, argsOf os = some xs → argvs fr xs = some vs →
    AV.evs ρ vs = some (os.map a.eval)
  | [], xs, vs, h, hv => by
    simp only [argsOf, Option.some.injEq] at h; subst h
    simp only [argvs, Option.some.injEq] at hv; subst hv; rfl
  | o :: r, xs, vs, h, hv => by
    simp only [argsOf, Option.bind_eq_some_iff, Option.map_eq_some_iff] at h
    obtain ⟨x, hx, t, ht, rfl⟩ := h
    simp only [argvs] at hv
    split at hv
    · rename_i y hy
      split at hv
      · rename_i u hu
        cases hv
        simp [AV.evs, argOf_ok H hx hy, argsOf_ok H ht hu]
      · cases hv
    · cases hv
theorem evs_append {ρ : List Nat} : ∀ {a b : List AV} {x y : List Value}, AV.evs ρ a = some x → AV.evs ρ b = some y → AV.evs ρ (a ++ b) = some (x ++ y)
  | [], _, x, _, ha, hb => by simp only [AV.evs, Option.some.injEq] at ha; subst ha; simpa using hb
  | c :: r, _, x, _, ha, hb => by
    simp only [AV.evs, Option.bind_eq_some_iff, Option.map_eq_some_iff, List.cons_append] at ha ⊢
    obtain ⟨p, hp, q, hq, rfl⟩ := ha
    exact ⟨p, hp, _, evs_append hq hb, by simp⟩
theorem evs_get {ρ : List Nat} : ∀ {a : List AV} {x : List Value} {i : Nat} {v : AV}, AV.evs ρ a = some x → a[i]? = some v → ∃ y, x[i]? = some y ∧ v.ev ρ = some y
  | [], _, _, _, _, h => by simp at h
  | c :: r, x, i, v, ha, h => by
    simp only [AV.evs, Option.bind_eq_some_iff, Option.map_eq_some_iff] at ha
    obtain ⟨p, hp, q, hq, rfl⟩ := ha
    cases i with
    | zero => simp at h; subst h; exact ⟨p, by simp, hp⟩
    | succ i => simp at h; simpa using evs_get hq h
theorem mkAgg_ev {ρ : List Nat} {l : List AV} {vs : List Value} (h : AV.evc ρ l = some vs) : (mkAgg l).ev ρ = some (.agg vs.toArray) := by
  unfold mkAgg
  split
  · rename_i k n l
    simp only [AV.evc, AV.ev1, Option.bind_eq_some_iff, Option.map_eq_some_iff] at h
    obtain ⟨a, ha, b, hb, rfl⟩ := h
    split at ha
    · rename_i hn
      cases ha; cases hb
      simp [AV.ev, hn]
    · cases ha
  · simp [AV.ev, h]
theorem asum_length {ρ : List Nat} : ∀ {l : List AV} {vs : List Value}, AV.evc ρ l = some vs → vs.length = asum l
  | [], vs, h => by simp only [AV.evc, Option.some.injEq] at h; subst h; rfl
  | x :: r, vs, h => by
    obtain ⟨a, b, _, hb, rfl, hl⟩ := evc_cons h
    simp [asum, hl, asum_length hb]
theorem allst_one {ρ : List Nat} : ∀ {l : List AV} {vs : List Value}, AV.evc ρ l = some vs → allst l = true → ∀ v ∈ vs, v.oneCell' = true
  | [], vs, h, _, v, hv => by simp only [AV.evc, Option.some.injEq] at h; subst h; cases hv
  | x :: r, vs, h, hs, v, hv => by
    obtain ⟨a, b, ha, hb, rfl, _⟩ := evc_cons h
    simp only [allst, Bool.and_eq_true] at hs
    rcases List.mem_append.1 hv with h1 | h1
    · cases x <;> simp only [AV.ev1, Option.map_eq_some_iff, Option.bind_eq_some_iff] at ha
      case v x => cases ha; simp at h1; subst h1; exact hs.1
      case tt => cases ha; simp at h1; subst h1; rfl
      case ff => cases ha; simp at h1; subst h1; rfl
      case run k n l =>
        split at ha
        · cases ha
          obtain ⟨q, _, rfl⟩ := List.mem_map.1 h1
          rfl
        · cases ha
      case ptr => obtain ⟨p, _, rfl⟩ := ha; simp at h1; subst h1; rfl
      case elp => obtain ⟨p, _, rfl⟩ := ha; simp at h1; subst h1; rfl
      case slc => obtain ⟨p, _, rfl⟩ := ha; simp at h1; subst h1; rfl
      case mp => obtain ⟨p, _, rfl⟩ := ha; simp at h1; subst h1; rfl
      case fn => obtain ⟨p, _, q, _, rfl⟩ := ha; simp at h1; subst h1; rfl
      case tup => cases ha
      case agg => cases ha
    · exact allst_one hb hs.2 v h1

/-! ### runs of the model's own words -/
section
variable {P : Program} {w : World}
theorem run_isAgg {t : TypeId} {d : TypeDesc} (h : P.underlying t = some d) : (isAgg t).run P w = .ok (isAggD d) w := by
  cases d <;> simp [isAgg, run_underlying h, isAggD]
theorem run_sizeOf {t : TypeId} {i : TypeInfo} (h : P.info? t = some i) : (Go.sizeOf t).run P w = .ok i.size w := by simp [Go.sizeOf, typeInfo, h]
theorem run_zeroValue {t : TypeId} {i : TypeInfo} {z : Value} (h : P.info? t = some i) (hz : i.zero = some z) : (zeroValue t).run P w = .ok z w := by simp [zeroValue, typeInfo, h, hz]

theorem run_loadVar_agg {t : TypeId} {i : TI} (hi : TIs P t i) (ha : i.agg = true) {b off : Nat} {vs : List Value} {T : TypeId} {fz : Nat × Nat} (hb : w.heap[b]? = some (.cells vs.toArray T fz))
    (hl : off + i.size ≤ vs.length) : (loadVar t ⟨b, off, none⟩).run P w = .ok (.agg ((vs.drop off).take i.size).toArray) w := by
  obtain ⟨j, hj, hs, _⟩ := hi.info
  obtain ⟨d, hd, hag, _⟩ := hi.und
  have hlen : ((vs.drop off).take i.size).length = i.size := by simp; omega
  have h1 := run_loadCells_list (P := P) w ⟨b, off, none⟩ ((vs.drop off).take i.size) (fun k v hk => by
    have hk' : k < i.size := by rw [← hlen]; exact (List.getElem?_eq_some_iff.1 hk).1
    rw [List.getElem?_take, if_pos hk', List.getElem?_drop] at hk
    have hadd : (⟨b, off, none⟩ : Addr).add k = ⟨b, off + k, none⟩ := by unfold Addr.add; split <;> simp_all
    simpa [World.cell?, hadd, hb] using hk)
  rw [hlen] at h1
  simp [loadVar, run_isAgg hd, hag, ha, run_sizeOf hj, hs, h1]
theorem run_loadVar_one {t : TypeId} {i : TI} (hi : TIs P t i) (ha : i.agg = false) {b off : Nat} {vs : List Value} {T : TypeId} {fz : Nat × Nat} (hb : w.heap[b]? = some (.cells vs.toArray T fz))
    {v : Value} (hv : vs[off]? = some v) : (loadVar t ⟨b, off, none⟩).run P w = .ok v w := by
  obtain ⟨d, hd, hag, _⟩ := hi.und
  have hc : w.cell? ⟨b, off, none⟩ = some v := by simp [World.cell?, hb, hv]
  simp [loadVar, run_isAgg hd, hag, ha, hc]
theorem setRow_put {b : Nat} {vs : List Value} {T : TypeId} (hb : w.heap[b]? = some (.cells vs.toArray T)) (us : List Value) : w.setRow b us.toArray = putBlock w b (.cells us.toArray T) := by
  unfold World.setRow putBlock
  congr 1
  apply Array.ext
  · simp
  · intro k h1 h2
    by_cases hk : b = k
    · subst hk
      obtain ⟨hlt, hv⟩ := Array.getElem?_eq_some_iff.1 hb
      rw [Array.getElem_setIfInBounds, if_pos rfl]
      · simp only [Array.getElem_modify, if_true, hv]
      · exact hlt
    · rw [Array.getElem_setIfInBounds, if_neg hk, Array.getElem_modify, if_neg hk]
theorem run_storeVar {t : TypeId} {i : TI} (hi : TIs P t i) {b off : Nat} {vs : List Value} {T : TypeId} (hb : w.heap[b]? = some (.cells vs.toArray T)) {v : Value}
    (hs : v.cells.toList.length = i.size) (hl : off + i.size ≤ vs.length) (h1 : ∀ x ∈ v.cells.toList, x.oneCell' = true) :
    (storeVar t ⟨b, off, none⟩ v).run P w = .ok () (putBlock w b (.cells (vs.take off ++ v.cells.toList ++ vs.drop (off + i.size)).toArray T)) := by
  obtain ⟨j, hj, hsz, _⟩ := hi.info
  have h2 := run_storeCells_at P b off T v.cells.toList 0 vs.toArray w hb (by simp at hs ⊢; omega) h1
  have hs' : v.cells.size = i.size := by simpa using hs
  simp only [Nat.add_zero, hs] at h2
  rw [setRow_put hb] at h2
  simp only [storeVar, Sem.run_bind, run_sizeOf hj, Result.andThen_ok, hsz, hs', ne_eq, not_true_eq_false, if_false]
  exact h2
end
end Sx
