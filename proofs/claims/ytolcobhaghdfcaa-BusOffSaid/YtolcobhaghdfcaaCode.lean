/- The program's code in a short form, made of it by a function that is checked by reckoning: the types' facts are laid into the operations. -/
import Derived.Test.YtolcobhaghdfcaaAv
import Derived.Laws.CopyRow
import Derived.OrdersHeld
namespace Sx
open Go

/-! ### types -/
inductive TK where
  | int (k : IntKind)
  | slice (e : TypeId)
  | arr (n : Nat) (e : TypeId)
  | struct (fs : List (Nat × TypeId))
  | ptr | map | fn | bool
  | other
structure TI where
  size : Nat
  bytes : Nat
  agg : Bool
  kind : TK
  zero : List AV

def veq : Value → Value → Bool
  | .int k n, .int k' n' => k == k' && n == n'
  | .bool a, .bool b => a == b
  | .pointer none, .pointer none => true
  | .slice none 0 0, .slice none 0 0 => true
  | .map none, .map none => true
  | .nilFunc, .nilFunc => true
  | .nilIface, .nilIface => true
  | .string a, .string b => a.data.toList == b.data.toList
  | _, _ => false
theorem veq_eq {a b : Value} (h : veq a b = true) : a = b := by
  unfold veq at h
  split at h <;> simp_all
  case h_8 => exact ByteArray.ext h
def veqs : List Value → List Value → Bool
  | [], [] => true
  | a :: r, b :: t => veq a b && veqs r t
  | _, _ => false
theorem veqs_eq : ∀ {a b : List Value}, veqs a b = true → a = b
  | [], [], _ => rfl
  | a :: r, b :: t, h => by
    simp only [veqs, Bool.and_eq_true] at h
    rw [veq_eq h.1, veqs_eq h.2]
  | [], _ :: _, h => by simp [veqs] at h
  | _ :: _, [], h => by simp [veqs] at h

def isAggD : TypeDesc → Bool
  | .struct _ => true
  | .array _ _ => true
  | _ => false
def kindOk (d : TypeDesc) : TK → Bool
  | .int k => match d with | .int k' => k == k' | _ => false
  | .slice e => match d with | .slice e' => e == e' | _ => false
  | .arr n e => match d with | .array n' e' => n == n' && e == e' | _ => false
  | .struct fs => match d with | .struct fields => (fields.toList.map fun f => (f.offset, f.type)) == fs | _ => false
  | .ptr => match d with | .pointer _ => true | _ => false
  | .map => match d with | .map _ _ => true | _ => false
  | .fn => match d with | .func _ _ _ => true | _ => false
  | .bool => match d with | .bool => true | _ => false
  | .other => true
def tiOk (P : Program) (t : TypeId) (i : TI) : Bool :=
  match P.info? t, P.underlying t with
  | some j, some d => j.size == i.size && j.bytes == i.bytes && isAggD d == i.agg && kindOk d i.kind &&
      (match j.zero, AV.evc [] i.zero with | some z, some vs => veqs z.cells.toList vs && Nat.beq vs.length i.size | _, _ => false)
  | _, _ => false
abbrev Tb := List (TypeId × TI)
def tget : Tb → TypeId → Option TI
  | [], _ => none
  | (t, i) :: r, u => bif Nat.beq t u then some i else tget r u
def tbOk (P : Program) (tb : Tb) : Bool := tb.all fun x => tiOk P x.1 x.2

structure TIs (P : Program) (t : TypeId) (i : TI) : Prop where
  info : ∃ j, P.info? t = some j ∧ j.size = i.size ∧ j.bytes = i.bytes ∧ ∃ z, j.zero = some z ∧ AV.evc [] i.zero = some z.cells.toList ∧ z.cells.toList.length = i.size
  und : ∃ d, P.underlying t = some d ∧ isAggD d = i.agg ∧ kindOk d i.kind = true
theorem tiOk_is {P : Program} {t : TypeId} {i : TI} (h : tiOk P t i = true) : TIs P t i := by
  unfold tiOk at h
  split at h
  · rename_i j d hj hd
    simp only [Bool.and_eq_true, beq_iff_eq] at h
    obtain ⟨⟨⟨⟨h1, h2⟩, h3⟩, h4⟩, h5⟩ := h
    refine ⟨⟨j, hj, h1, h2, ?_⟩, ⟨d, hd, h3, h4⟩⟩
    split at h5
    · rename_i z vs hz hv
      simp only [Bool.and_eq_true] at h5
      have h6 := veqs_eq h5.1
      exact ⟨z, hz, by rw [hv, h6], by rw [h6]; exact Nat.eq_of_beq_eq_true h5.2⟩
    · cases h5
  · cases h
theorem tget_is {P : Program} {tb : Tb} (h : tbOk P tb = true) {t : TypeId} {i : TI} (e : tget tb t = some i) : TIs P t i := by
  induction tb with
  | nil => cases e
  | cons x r ih =>
    obtain ⟨u, j⟩ := x
    simp only [tbOk, List.all_cons, Bool.and_eq_true] at h
    simp only [tget] at e
    rcases cond_some e with ⟨h1, h2⟩ | ⟨_, h2⟩
    · cases h2; rw [← Nat.eq_of_beq_eq_true h1]; exact tiOk_is h.1
    · exact ih h.2 h2

/-! ### constants -/
def intsOf : IntKind → List Value → Option (List Int)
  | _, [] => some []
  | k, .int k' n :: r => bif k == k' then (intsOf k r).map (n :: ·) else none
  | _, _ :: _ => none
theorem intsOf_spec : ∀ {k : IntKind} {vs : List Value} {l : List Int}, intsOf k vs = some l → l.map (Value.int k) = vs
  | k, [], l, h => by simp [intsOf] at h; subst h; rfl
  | k, .int k' n :: r, l, h => by
    simp only [intsOf] at h
    rcases cond_some h with ⟨h1, h2⟩ | ⟨_, h2⟩
    · simp only [Option.map_eq_some_iff] at h2
      obtain ⟨t, ht, rfl⟩ := h2
      have : k = k' := by simpa using h1
      subst this
      simp [intsOf_spec ht]
    · cases h2
  | k, .bool _ :: _, l, h | k, .float _ _ :: _, l, h | k, .complex _ _ _ :: _, l, h | k, .string _ :: _, l, h | k, .pointer _ :: _, l, h | k, .slice _ _ _ :: _, l, h
  | k, .map _ :: _, l, h | k, .chan _ :: _, l, h | k, .func _ _ _ :: _, l, h | k, .nilFunc :: _, l, h | k, .iface _ _ :: _, l, h | k, .nilIface :: _, l, h | k, .agg _ :: _, l, h
  | k, .tuple _ :: _, l, h => by simp [intsOf] at h
def constAV : Value → AV
  | .bool true => .tt
  | .bool false => .ff
  | .agg cs => match cs.toList with
    | .int k n :: r => match intsOf k (.int k n :: r) with | some l => .run k l.length l | none => .v (.agg cs)
    | _ => .v (.agg cs)
  | x => .v x
theorem constAV_spec (ρ : List Nat) (x : Value) : (constAV x).ev ρ = some x := by
  cases x
  case bool b => cases b <;> rfl
  case agg cs =>
    simp only [constAV]
    split
    · rename_i k n r hcs
      split
      · rename_i l hl
        simp only [AV.ev, if_true]
        have := intsOf_spec hl
        rw [this, ← hcs]
      · rfl
    · rfl
  all_goals rfl

/-! ### the short form -/
inductive Arg where
  | t (n : Nat)
  | k (v : AV)
inductive AOp where
  | mov (d : Nat) (x : Arg)
  | pick (d c : Nat) (a b : Arg)
  | box (d T : Nat) (x : Arg)
  | alloc (d T : Nat) (z : List AV)
  | build (d : Nat) (z : List AV) (parts : List (Nat × Nat × Arg))
  | bslice (d T n : Nat) (z : List AV) (parts : List (Nat × Nat × Arg))
  | load (d n : Nat) (agg : Bool) (a : Arg)
  | store (n : Nat) (a x : Arg)
  | nilc (d : Nat) (x : Arg)
  | bin (d : Nat) (op : BinOp) (x y : Arg)
  | eqv (d : Nat) (neg : Bool) (kc : Nat) (x y : Arg)
  | eqb (d : Nat) (neg : Bool) (x y : Arg)
  | eqr (d : Nat) (neg : Bool) (n : Nat) (k : IntKind) (x y : Arg)
  | not (d : Nat) (x : Arg)
  | fld (d off : Nat) (x : Arg)
  | fldv (d off n : Nat) (agg : Bool) (x : Arg)
  | idx (d sz : Nat) (x i : Arg)
  | idxa (d len sz : Nat) (x i : Arg)
  | ext (d i : Nat) (x : Arg)
  | mkfn (d : Nat) (f : Fn) (first caps : List Arg)
  | call (d : Nat) (f : Arg) (args : List Arg)
  | len (d : Nat) (x : Arg)
  | conv (d : Nat) (k : IntKind) (x : Arg)
  | slice (d sz : Nat) (x : Arg) (lo hi mx : Option Arg)
  | slicea (d len sz : Nat) (x : Arg) (lo hi mx : Option Arg)
  | other (d : Option Nat) (o : Op) (T : TypeId)
abbrev GOp := Option (Nat × Bool) × AOp
inductive ACode where
  | skip
  | region (l : List GOp)
  | draw (ops : Array Oper) (l : List GOp)
  | seq (a b : ACode)
  | cond (c : Arg) (a b : ACode)
  | block (id : Nat) (a : ACode)
  | loop (a : ACode)
  | exit (id : Nat)
  | ret
  | rfunc (f : Arg) (params : Array Tmp) (assign body : Code)

def argOf : Operand → Option Arg
  | .tmp t => some (.t t)
  | .const v => some (.k (constAV v))
  | .func f => some (.k (.fn (.func f) [] []))
  | .global _ => none
def argsOf : List Operand → Option (List Arg)
  | [] => some []
  | x :: r => (argOf x).bind fun a => (argsOf r).map fun t => a :: t
def optOf : Option Operand → Option (Option Arg)
  | none => some none
  | some x => (argOf x).map some

/-- parts of a struct or array: offset, size, what -/
def partsOf (place : Nat → Option (Nat × Nat)) : List (Nat × Operand) → Option (List (Nat × Nat × Arg))
  | [] => some []
  | (i, x) :: r => (place i).bind fun p => (argOf x).bind fun a => (partsOf place r).map fun t => (p.1, p.2, a) :: t
def fieldPlaces (tb : Tb) : List (Nat × TypeId) → Option (List (Nat × Nat))
  | [] => some []
  | (o, t) :: r => (tget tb t).bind fun i => (fieldPlaces tb r).map fun l => (o, i.size) :: l
def placeOf (tb : Tb) : TK → Option (Nat → Option (Nat × Nat))
  | .struct fs => (fieldPlaces tb fs).map fun l => fun i => l[i]?
  | .arr _ e => (tget tb e).map fun j => fun i => some (i * j.size, j.size)
  | _ => none
def repZero : Nat → List AV → List AV
  | 0, _ => []
  | n + 1, z => z ++ repZero n z

def isEq : BinOp → Option Bool
  | .eql => some false
  | .neq => some true
  | _ => none
/-- a comparison of what is no whole number -/
def eqOp (tb : Tb) (d : Nat) (neg : Bool) (t : TypeId) (a b : Arg) : Option AOp :=
  (tget tb t).bind fun i =>
    match i.kind with
    | .ptr => some (.eqv d neg 0 a b)
    | .slice _ => some (.eqv d neg 1 a b)
    | .map => some (.eqv d neg 2 a b)
    | .fn => some (.eqv d neg 3 a b)
    | .bool => some (.eqb d neg a b)
    | .arr n e => (tget tb e).bind fun j => match j.kind with | .int k => bif Nat.beq j.size 1 then some (.eqr d neg n k a b) else none | _ => none
    | _ => none

def opWith (tb : Tb) (dst : Option Nat) (T : TypeId) (o : Op) : Option AOp :=
  match o, dst with
  | .move x, some d | .assign x, some d => (argOf x).map (.mov d)
  | .pick (.tmp c) a b, some d => (argOf a).bind fun a => (argOf b).map fun b => .pick d c a b
  | .alloc e, some d => (tget tb e).map fun i => .alloc d e i.zero
  | .box e x, some d => (argOf x).map (.box d e)
  | .build t ps, some d => (tget tb t).bind fun i => (placeOf tb i.kind).bind fun pl => (partsOf pl ps.toList).map fun l => .build d i.zero l
  | .buildSlice t n ps, some d => (tget tb t).bind fun i =>
      match i.kind with
      | .slice e => (tget tb e).bind fun j => bif Nat.ble (n * j.size) 16777216 && Nat.blt 0 j.size then (partsOf (fun i => some (i * j.size, j.size)) ps.toList).map fun l => .bslice d e n (repZero n j.zero) l else none
      | _ => none
  | .load t a, some d => (tget tb t).bind fun i => (argOf a).map fun a => .load d i.size i.agg a
  | .store t a x, none => (tget tb t).bind fun i => (argOf a).bind fun a => (argOf x).map fun x => .store i.size a x
  | .nilCheck x, some d => (argOf x).map (.nilc d)
  | .binOp op t x y _, some d => (argOf x).bind fun a => (argOf y).map fun b =>
      match isEq op with
      | some neg => (match eqOp tb d neg t a b with | some x => x | none => match tget tb t with | some ⟨_, _, _, .int _, _⟩ => .bin d op a b | _ => .other (some d) o T)
      | none => .bin d op a b
  | .unOp .not _ x, some d => (argOf x).map (.not d)
  | .fieldAddr t x f, some d => (tget tb t).bind fun i =>
      match i.kind with
      | .struct fs => (fs[f]?).bind fun p => (tget tb p.2).bind fun j => bif Nat.beq j.size 0 then none else (argOf x).map fun a => .fld d p.1 a
      | _ => none
  | .field t x f, some d => (tget tb t).bind fun i =>
      match i.kind with
      | .struct fs => (fs[f]?).bind fun p => (tget tb p.2).bind fun j => (argOf x).map fun a => .fldv d p.1 j.size j.agg a
      | _ => none
  | .indexAddr t x ix, some d => (tget tb t).bind fun i =>
      match i.kind with
      | .slice e => (tget tb e).bind fun j => (argOf x).bind fun a => (argOf ix).map fun b => .idx d j.size a b
      | .arr n e => (tget tb e).bind fun j => (argOf x).bind fun a => (argOf ix).map fun b => .idxa d n j.size a b
      | _ => none
  | .extract x i, some d => (argOf x).map (.ext d i)
  | .makeFunc f first caps, some d => (argsOf first.toList).bind fun a => (argsOf caps.toList).map fun b => .mkfn d f a b
  | .call { callee := .value f, args, .. }, some d => (argOf f).bind fun f => (argsOf args.toList).map fun l => .call d f l
  | .call { callee := .builtin .len, args := args, argTypes := ts }, some d =>
      (ts[0]?).bind fun t => (tget tb t).bind fun i =>
        match i.kind, args.toList with
        | .slice _, [x] => (argOf x).map (.len d)
        | _, _ => some (.other (some d) o T)
  | .convert s t x, some d => (tget tb s).bind fun i => (tget tb t).bind fun j =>
      match i.kind, j.kind with
      | .int _, .int k => (argOf x).map (.conv d k)
      | _, _ => some (.other (some d) o T)
  | .slice t x lo hi mx, some d => (tget tb t).bind fun i =>
      match i.kind with
      | .slice e => (tget tb e).bind fun j => (argOf x).bind fun a => (optOf lo).bind fun l => (optOf hi).bind fun h => (optOf mx).map fun m => .slice d j.size a l h m
      | .arr n e => (tget tb e).bind fun j => (argOf x).bind fun a => (optOf lo).bind fun l => (optOf hi).bind fun h => (optOf mx).map fun m => .slicea d n j.size a l h m
      | _ => some (.other (some d) o T)
  | o, d => some (.other d o T)

/-- an operation of a region of a frame of N slots -/
def notDefer : Op → Bool
  | .defer _ => false
  | _ => true
def compOp (tb : Tb) (N : Nat) (ops : Array Oper) (o : Oper) : Option GOp :=
  bif notDefer o.op && (match o.dst with | some d => Nat.blt d N | none => true) then
    match o.guard with
    | none => (opWith tb o.dst o.type o.op).map fun x => (none, x)
    | some (j, want) => ((ops[j]?).bind (·.dst)).bind fun s => (opWith tb o.dst o.type o.op).map fun x => (some (s, want), x)
  else none
def compOps (tb : Tb) (N : Nat) (ops : Array Oper) : List Nat → Option (List GOp)
  | [] => some []
  | i :: r => (ops[i]?).bind fun o => (compOp tb N ops o).bind fun x => (compOps tb N ops r).map fun t => x :: t
def comp (tb : Tb) (N : Nat) : Code → Option ACode
  | .skip => some .skip
  | .region _ ops false => (compOps tb N ops (List.range ops.size)).map .region
  | .region _ ops true => (compOps tb N ops (List.range ops.size)).map (.draw ops)
  | .seq a b => (comp tb N a).bind fun x => (comp tb N b).map fun y => .seq x y
  | .cond c a b => (argOf c).bind fun c => (comp tb N a).bind fun x => (comp tb N b).map fun y => .cond c x y
  | .block id a => (comp tb N a).map (.block id)
  | .loop a => (comp tb N a).map .loop
  | .exit id => some (.exit id)
  | .ret => some .ret
  | .rangeFunc f params assign body => (argOf f).map fun f => .rfunc f params assign body
  | _ => none

/-- the region number id of a body; the code of a range over a function in a body (the first one) -/
def regC (id : Nat) : Code → Option (Array Oper)
  | .region i ops _ => bif Nat.beq i id then some ops else none
  | .seq a b | .cond _ a b => (regC id a).or (regC id b)
  | .block _ a | .loop a | .scope a => regC id a
  | .rangeFunc _ _ a b => (regC id a).or (regC id b)
  | _ => none
def regOf (f : Func) (id : Nat) : Array Oper := (regC id (f.body.getD .skip)).getD #[]
def rfC : Code → Option (Code × Code)
  | .seq a b | .cond _ a b => (rfC a).or (rfC b)
  | .block _ a | .loop a | .scope a => rfC a
  | .rangeFunc _ _ a b => some (a, b)
  | _ => none
def rfA (f : Func) : Code := ((rfC (f.body.getD .skip)).getD (.skip, .skip)).1
def rfB (f : Func) : Code := ((rfC (f.body.getD .skip)).getD (.skip, .skip)).2
end Sx
