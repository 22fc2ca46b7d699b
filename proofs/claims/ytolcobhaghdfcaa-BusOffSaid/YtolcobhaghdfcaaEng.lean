/- The abstract machine: it goes on by reckoning to the next event (a branch, a call, a loop, an operation that wants a law); and that what is shown of its events holds of the program. -/
import Derived.Test.YtolcobhaghdfcaaSound5
import Derived.OrdersIn
import Derived.ControlIn
import Derived.RangeFuncIn
namespace Sx
open Go

/-- how an operation of a region that draws its order is taken: it only reads blocks that nobody turns before it; it may turn the world; it may turn the world, and comes behind all that is neither -/
inductive Kd where
  | quiet | loud | last
inductive K where
  | code (c : ACode)
  | ops (l : List GOp)
  | blk (id : Nat)
  | lend (J : Act → World → Prop)
  /-- a region that draws its order: what was known of names when it began, the blocks that nobody in it turns, the order in which it is reckoned -/
  | dops (live : Bool) (ρ0 : List Nat) (sch : List (Nat × Chunk)) (ops : Array Oper) (l : List (Nat × Kd × GOp))
structure St where
  stk : List K
  fr : List (Nat × AV)
  ch : List (Nat × Chunk)
  nx : Nat
structure Cx where
  P : Program
  tb : Tb
  N : Nat
  Q : Exit → Act → World → Prop
  w0 : World
  /-- the blocks that the first names stand for, from the start to the end -/
  r0 : List Nat
  /-- the calls that are put off -/
  df : List Deferred
  /-- the round that the frame is of, if it is one's -/
  rd : Option Nat

/-! ### meaning of what is left to do -/
def fw (r : Option Nat) : Fence := { Fence.wide with round := r }
theorem fw_fenced (P : Program) (r : Option Nat) (m : Machine) : m.fenced P (fw r) = m.fenced P Fence.wide := rfl
theorem fw_room (r : Option Nat) (n : Nat) : (fw r).room n := fun _ h => by simp [fw, Fence.wide] at h
theorem callsIn_fw {r : Option Nat} {n : Nat} {P : Program} {f : FuncId} {args : Array Value} {w : World} {R : Ending → World → Prop} (h : Calls P f args w R) : CallsIn (fw r) n P f args w R :=
  (callsIn_wide (n := n)).2 h
theorem rowsIn_fw {r : Option Nat} {n : Nat} {P : Program} {row : String} {args : Array Value} {w : World} {R : Value → World → Prop} (h : Rows P row args w R) : RowsIn (fw r) n P row args w R :=
  fun c cs _ => let ⟨v, w', hR, s⟩ := h c cs; ⟨v, w', hR, stepsIn_wide.2 s⟩
theorem wpIn_of_wp {P : Program} {r : Option Nat} {x : Oper} {a : Act} {w : World} {K : Act → World → Prop} {Q : Exit → Act → World → Prop} (hnd : ∀ c, x.op ≠ .defer c) (h : x.wp P a w K Q) : x.wpIn (fw r) 0 P a w K Q := by
  refine ⟨fun _ _ => trivial, ?_⟩
  rw [show (fw r).round = r from rfl, Oper.semAt_eq r a.eval x hnd]
  unfold Oper.wp at h
  generalize (execOp a.eval x).run P w = r at *
  cases r with
  | ok n w' =>
    cases n <;> simp only [Oper.upon, Oper.uponIn] at h ⊢
    case value => exact h
    case skip => exact h
    case defer => exact h
    case enter f args => exact ⟨fun e => (by cases e), callsIn_fw (h.mono fun e w'' he => by cases e <;> exact he)⟩
    case row => exact ⟨fun e => (by cases e), rowsIn_fw h⟩
  | halt x w' => cases x <;> simp only [Oper.upon, Oper.uponIn] at h ⊢ <;> exact h
theorem wpIn_noQ {P : Program} {F : Fence} {n : Nat} {x : Oper} {a : Act} {w : World} {K : Act → World → Prop} {Q : Exit → Act → World → Prop} (h : x.wpIn F n P a w K (fun _ _ _ => False)) : x.wpIn F n P a w K Q := by
  refine ⟨h.1, ?_⟩
  have h := h.2
  generalize (x.semAt F.round a.eval).run P w = r at *
  cases r with
  | ok m w' =>
    cases m <;> simp only [Oper.uponIn] at h ⊢
    case value => exact h
    case skip => exact h
    case defer => exact h
    case enter f args =>
      refine ⟨h.1, h.2.mono fun e w'' he => ?_⟩
      cases e with
      | returned v => exact he
      | panicked c => exact he.elim
      | outgrown => obtain ⟨_, _, hf⟩ := he; exact hf.elim
    case row => exact h
    case round l f tmps assign body =>
      refine ⟨h.1, h.2.mono fun e w'' he => ?_⟩
      cases e with
      | returned v => exact he
      | panicked c => exact he.elim
      | outgrown => obtain ⟨_, _, hf⟩ := he; exact hf.elim
  | halt x w' => cases x <;> simp only [Oper.uponIn] at h ⊢
def SW (ρ0 : List Nat) (sch : List (Nat × Chunk)) (w : World) : Prop := ∀ p ∈ sch, ∃ h, Hp.le h (Hp.of w) ∧ p.2.hp ρ0 p.1 h
def wpOrd (P : Program) (Q : Exit → Act → World → Prop) (S : World → Prop) (ops : Array Oper) : List (Nat × Kd × GOp) → Act → World → Prop
  | [], a, w => Q .normal a w
  | (i, .quiet, _) :: r, a, w => ∃ o v, ops[i]? = some o ∧ S w ∧ YieldsIf P ops S o v a ∧ wpOrd P Q S ops r (a.put o.dst v) w
  | (i, .loud, _) :: r, a, w => wpOp P ops Q i (fun a' w' => S w' ∧ wpOrd P Q S ops r a' w') a w
  | (i, .last, _) :: r, a, w => wpOp P ops Q i (fun a' w' => wpOrd P Q S ops r a' w') a w
def Disp (cx : Cx) : List K → Exit → Act → World → Prop
  | [], e, a, w => match e with | .normal => cx.Q .normal a w | .ret => cx.Q .ret a w | _ => False
  | x :: k, e, a, w => match e with
    | .normal => (match x with
      | .code c => ∀ cc, comp cx.tb cx.N cc = some c → cc.wpIn (fw cx.rd) 0 cx.P (Disp cx k) a w
      | .ops l => ∀ ops is, compOps cx.tb cx.N ops is = some l → wpOpsIn (fw cx.rd) 0 cx.P ops (Disp cx k) is a w
      | .blk _ => Disp cx k .normal a w
      | .lend J => J a w
      | .dops _ ρ0 sch ops l => (∀ y ∈ l, ∃ o, ops[y.1]? = some o ∧ compOp cx.tb cx.N ops o = some y.2.2) → wpOrd cx.P (Disp cx k) (SW ρ0 sch) ops l a w)
    | .exit id => (match x with
      | .blk id' => if id = id' then Disp cx k .normal a w else Disp cx k (.exit id) a w
      | _ => Disp cx k (.exit id) a w)
    | .ret => Disp cx k .ret a w
    | _ => False
theorem Disp_ret (cx : Cx) : ∀ (k : List K) (a : Act) (w : World), Disp cx k .ret a w = cx.Q .ret a w
  | [], _, _ => rfl
  | _ :: k, a, w => Disp_ret cx k a w
theorem Disp_panic (cx : Cx) : ∀ (k : List K) (c : List PanicEntry) (a : Act) (w : World), Disp cx k (.panic c) a w = False
  | [], _, _, _ => rfl
  | _ :: _, _, _, _ => rfl
def popTo (id : Nat) : List K → Option (List K)
  | [] => none
  | .blk id' :: k => bif Nat.beq id id' then some k else popTo id k
  | .code _ :: k => popTo id k
  | .ops _ :: k => popTo id k
  | .lend _ :: k => popTo id k
  | .dops _ _ _ _ _ :: k => popTo id k
theorem popTo_spec (cx : Cx) {id : Nat} : ∀ {k k' : List K}, popTo id k = some k' → ∀ a w, Disp cx k (.exit id) a w = Disp cx k' .normal a w
  | [], _, h, _, _ => by simp [popTo] at h
  | .blk id' :: k, k', h, a, w => by
    simp only [popTo] at h
    rcases cond_some h with ⟨h1, h2⟩ | ⟨h1, h2⟩
    · cases h2; simp [Disp, Nat.eq_of_beq_eq_true h1]
    · have hne : id ≠ id' := fun e => by subst e; simp at h1
      have := popTo_spec cx h2 a w
      simp only [Disp, if_neg hne]; exact this
  | .code _ :: k, k', h, a, w => popTo_spec cx (k := k) (k' := k') h a w
  | .ops _ :: k, k', h, a, w => popTo_spec cx (k := k) (k' := k') h a w
  | .lend _ :: k, k', h, a, w => popTo_spec cx (k := k) (k' := k') h a w
  | .dops _ _ _ _ _ :: k, k', h, a, w => popTo_spec cx (k := k) (k' := k') h a w

/-! ### states that stand for true ones -/
def stab : List (Nat × Chunk) → List (Nat × Chunk) → Prop
  | [], _ => True
  | (c, x) :: r, ch => lookc ch c = x ∧ stab r ch
theorem stab_mem : ∀ {s ch : List (Nat × Chunk)}, stab s ch → ∀ p ∈ s, lookc ch p.1 = p.2
  | (c, x) :: r, ch, h, p, hp => by
    rcases List.mem_cons.1 hp with rfl | hp
    · exact h.1
    · exact stab_mem h.2 p hp
def plainCh : Chunk → Bool
  | .pred (_ :: _) _ => false
  | _ => true
def SchOk (ρ0 : List Nat) (sch : List (Nat × Chunk)) : Prop := ∀ p ∈ sch, p.1 < ρ0.length ∧ plainCh p.2 = true ∧ ∃ h, p.2.hp ρ0 p.1 h
def DrOk (ρ : List Nat) (stk : List K) (ch : List (Nat × Chunk)) : Prop :=
  match stk with
  | .dops true ρ0 sch _ _ :: _ => (∃ σ, ρ = ρ0 ++ σ) ∧ stab sch ch ∧ SchOk ρ0 sch
  | _ => True
structure EnvP (cx : Cx) (ρ : List Nat) (w : World) : Prop where
  env : Env cx.w0 w
  pre : ∃ σ, ρ = cx.r0 ++ σ
theorem EnvP.trans {cx : Cx} {ρ : List Nat} {w w' : World} (h : EnvP cx ρ w) (k : Env w w') : EnvP cx ρ w' := ⟨h.env.trans k, h.pre⟩
theorem EnvP.ext {cx : Cx} {ρ : List Nat} {w : World} (h : EnvP cx ρ w) (τ : List Nat) : EnvP cx (ρ ++ τ) w := ⟨h.env, let ⟨σ, e⟩ := h.pre; ⟨σ ++ τ, by rw [e, List.append_assoc]⟩⟩
structure Holds (cx : Cx) (ρ : List Nat) (st : St) (a : Act) (w : World) : Prop where
  N : a.tmps.size = cx.N
  df : a.defers = cx.df
  len : ρ.length = st.nx
  fr : FrOk ρ st.fr a
  sat : Sat (big ρ (lookc st.ch) st.nx) w
  env : EnvP cx ρ w
  dr : DrOk ρ st.stk st.ch
def Good (cx : Cx) (st : St) : Prop := ∀ ρ a w, Holds cx ρ st a w → Disp cx st.stk .normal a w

/-! ### events -/
inductive Ev where
  | br (p : Prop) (s : Nat) (b : Bool) (stk : List K) (fr : List (Nat × AV)) (ch : List (Nat × Chunk)) (nx : Nat)
  | call (p : Prop) (d f : Nat) (args : List AV) (stk : List K) (fr : List (Nat × AV)) (ch : List (Nat × Chunk)) (nx : Nat)
  | loop (p : Prop) (body : ACode) (stk : List K) (fr : List (Nat × AV)) (ch : List (Nat × Chunk)) (nx : Nat)
  | ret (p : Prop) (stk : List K) (fr : List (Nat × AV)) (ch : List (Nat × Chunk)) (nx : Nat)
  | fin (p : Prop) (stk : List K) (fr : List (Nat × AV)) (ch : List (Nat × Chunk)) (nx : Nat)
  | lend (p : Prop) (J : Act → World → Prop) (stk : List K) (fr : List (Nat × AV)) (ch : List (Nat × Chunk)) (nx : Nat)
  | op (p : Prop) (o : AOp) (stk : List K) (fr : List (Nat × AV)) (ch : List (Nat × Chunk)) (nx : Nat)
  | draw (p : Prop) (ops : Array Oper) (l : List GOp) (stk : List K) (fr : List (Nat × AV)) (ch : List (Nat × Chunk)) (nx : Nat)
  | rfunc (p : Prop) (f : Arg) (params : Array Tmp) (assign body : Code) (stk : List K) (fr : List (Nat × AV)) (ch : List (Nat × Chunk)) (nx : Nat)
  | more (p : Prop) (stk : List K) (fr : List (Nat × AV)) (ch : List (Nat × Chunk)) (nx : Nat)
  | stuck
/-- no region that draws its order is under way -/
def nod : List K → Bool
  | .dops _ _ _ _ _ :: _ => false
  | _ => true
def CallOk (P : Program) (f : Nat) (vs : List Value) (w : World) (R : Value → World → Prop) : Prop :=
  ((callFunc f vs.toArray).run P w = .ok (.enter f vs.toArray) w ∧ Calls P f vs.toArray w fun e w' => ∃ v, e = .returned v ∧ R v w') ∨
  (∃ v w', (callFunc f vs.toArray).run P w = .ok (.value v) w' ∧ R v w')
def EvOk (cx : Cx) : Ev → Prop
  | .br p s b stk fr ch nx => p ∧ (b = true → Good cx ⟨stk, (s, .tt) :: fr, ch, nx⟩) ∧ (b = false → Good cx ⟨stk, (s, .ff) :: fr, ch, nx⟩)
  | .call p d f args stk fr ch nx => p ∧ ∀ ρ a w, Holds cx ρ ⟨stk, fr, ch, nx⟩ a w → d < cx.N → ∀ vs, AV.evs ρ args = some vs →
      CallOk cx.P f vs w fun v w' => (match stk with | .dops true ρ0 sch _ _ :: _ => SW ρ0 sch w' | _ => True) ∧ Disp cx stk .normal (a.put (some d) v) w'
  | .loop p body stk fr ch nx => p ∧ ∀ ρ a w, Holds cx ρ ⟨stk, fr, ch, nx⟩ a w → ∀ cc, comp cx.tb cx.N cc = some body → (Code.loop cc).wpIn (fw cx.rd) 0 cx.P (Disp cx stk) a w
  | .ret p stk fr ch nx => p ∧ ∀ ρ a w, Holds cx ρ ⟨stk, fr, ch, nx⟩ a w → cx.Q .ret a w
  | .fin p stk fr ch nx => p ∧ ∀ ρ a w, Holds cx ρ ⟨stk, fr, ch, nx⟩ a w → cx.Q .normal a w
  | .lend p J stk fr ch nx => p ∧ ∀ ρ a w, Holds cx ρ ⟨stk, fr, ch, nx⟩ a w → J a w
  | .op p o stk fr ch nx => p ∧ ∀ ρ a w, Holds cx ρ ⟨stk, fr, ch, nx⟩ a w → ∀ x : Oper, (match x.dst with | some d => d < cx.N | none => True) → opWith cx.tb x.dst x.type x.op = some o →
      x.wp cx.P a w (fun a' w' => (match stk with | .dops true ρ0 sch _ _ :: _ => SW ρ0 sch w' | _ => True) ∧ Disp cx stk .normal a' w') (fun _ _ _ => False) ∨
      (nod stk = true ∧ x.wpIn (fw cx.rd) 0 cx.P a w (fun a' w' => Disp cx stk .normal a' w') (fun _ _ _ => False))
  | .draw p ops l stk fr ch nx => p ∧ ∀ ρ a w, Holds cx ρ ⟨stk, fr, ch, nx⟩ a w → compOps cx.tb cx.N ops (List.range ops.size) = some l → ∀ id, (Code.region id ops true).wpIn (fw cx.rd) 0 cx.P (Disp cx stk) a w
  | .rfunc p f params assign body stk fr ch nx => p ∧ ∀ ρ a w, Holds cx ρ ⟨stk, fr, ch, nx⟩ a w → ∀ fo, argOf fo = some f → (Code.rangeFunc fo params assign body).wpIn (fw cx.rd) 0 cx.P (Disp cx stk) a w
  | .more p stk fr ch nx => p ∧ Good cx ⟨stk, fr, ch, nx⟩
  | .stuck => False

def dstOf : AOp → Option Nat
  | .mov d _ | .pick d _ _ _ | .box d _ _ | .alloc d _ _ | .build d _ _ | .bslice d _ _ _ _ | .load d _ _ _ | .nilc d _ | .bin d _ _ _ | .eqv d _ _ _ _ | .eqb d _ _ _ | .eqr d _ _ _ _ _
  | .not d _ | .fld d _ _ | .fldv d _ _ _ _ | .idx d _ _ _ | .idxa d _ _ _ _ | .ext d _ _ | .mkfn d _ _ _ | .call d _ _ | .len d _ | .conv d _ _ | .slice d _ _ _ _ _ | .slicea d _ _ _ _ _ _ => some d
  | .store _ _ _ => none
  | .other d _ _ => d
def skipFr (o : AOp) (fr : List (Nat × AV)) : List (Nat × AV) := match dstOf o with | some d => (d, .v undef) :: fr | none => fr
def pand (p : Prop) : Option Prop → Prop
  | none => p
  | some q => p ∧ q
def nokey (c : Nat) : List (Nat × Chunk) → Bool
  | [] => true
  | (d, _) :: r => bif Nat.beq d c then false else nokey c r

inductive GR where
  | run | skip
  | br (s : Nat) (b : Bool)
  | bad
/-- is a guarded operation carried out? -/
def gres (fr : List (Nat × AV)) : Option (Nat × Bool) → GR
  | none => .run
  | some (s, true) => (match look fr s with | some .tt => .run | some .ff => .skip | some (.v (.bool q)) => .br s q | _ => .bad)
  | some (s, false) => (match look fr s with | some .ff => .run | some .tt => .skip | some (.v (.bool q)) => .br s q | _ => .bad)

/-- sc: does it stop ahead of calls and of operations that it does not reckon? -/
def next (sc : Bool) : Nat → Prop → List K → List (Nat × AV) → List (Nat × Chunk) → Nat → Ev
  | 0, p, stk, fr, ch, nx => .more p (stk) fr ch nx
  | n + 1, p, stk, fr, ch, nx =>
    match stk with
    | [] => .fin p ([]) fr ch nx
    | .code c :: k => (match c with
      | .skip => (match nod k with | true => next sc n p k fr ch nx | false => .stuck)
      | .region l => next sc n p (.ops l :: k) fr ch nx
      | .seq a b => next sc n p (.code a :: .code b :: k) fr ch nx
      | .cond c a b => (match argv fr c with
        | some .tt => next sc n p (.code a :: k) fr ch nx
        | some .ff => next sc n p (.code b :: k) fr ch nx
        | some (.v (.bool q)) => (match c with | .t s => .br p s q (.code (.cond (.t s) a b) :: k) fr ch nx | _ => .stuck)
        | _ => .stuck)
      | .block id a => next sc n p (.code a :: .blk id :: k) fr ch nx
      | .loop a => (match nod k with | true => .loop p a (k) fr ch nx | false => .stuck)
      | .exit id => (match popTo id k with | some k' => (match nod k' with | true => next sc n p k' fr ch nx | false => .stuck) | none => .stuck)
      | .ret => .ret p ([]) fr ch nx
      | .draw ops l => (match nod k with | true => .draw p ops l (k) fr ch nx | false => .stuck)
      | .rfunc f params assign body => (match nod k with | true => .rfunc p f params assign body (k) fr ch nx | false => .stuck))
    | .ops [] :: k => (match nod k with | true => next sc n p k fr ch nx | false => .stuck)
    | .ops ((g, o) :: r) :: k => (match gres fr g with
      | .run => (match step fr ch nx o with
        | .ok d v none => next sc n p (.ops r :: k) ((d, v) :: fr) ch nx
        | .ok d v (some q) => next sc n (p ∧ q) (.ops r :: k) ((d, v) :: fr) ch nx
        | .new d v c => next sc n p (.ops r :: k) ((d, v) :: fr) ((nx, c) :: ch) (nx + 1)
        | .st c x none => next sc n p (.ops r :: k) fr ((c, x) :: ch) nx
        | .st c x (some q) => next sc n (p ∧ q) (.ops r :: k) fr ((c, x) :: ch) nx
        | .br s _ => (match look fr s with | some (.v (.bool b)) => .br p s b (.ops ((g, o) :: r) :: k) fr ch nx | _ => .stuck)
        | .call d f args => (match sc with | false => .call p d f args (.ops r :: k) fr ch nx | true => .more p (.ops ((g, o) :: r) :: k) fr ch nx)
        | .ev => (match sc with | false => .op p o (.ops r :: k) fr ch nx | true => .more p (.ops ((g, o) :: r) :: k) fr ch nx))
      | .skip => next sc n p (.ops r :: k) (skipFr o fr) ch nx
      | .br s b => .br p s b (.ops ((g, o) :: r) :: k) fr ch nx
      | .bad => .stuck)
    | .blk _ :: k => (match nod k with | true => next sc n p k fr ch nx | false => .stuck)
    | .lend J :: _ => .lend p J ([]) fr ch nx
    | .dops _ _ _ _ [] :: k => (match nod k with | true => next sc n p k fr ch nx | false => .stuck)
    | .dops true ρ0 sch ops ((i, .quiet, (g, o)) :: r) :: k => (match gres fr g with
      | .run => (match step fr sch nx o with
        | .ok d v none => next sc n p (.dops true ρ0 sch ops r :: k) ((d, v) :: fr) ch nx
        | .ok d v (some q) => next sc n (p ∧ q) (.dops true ρ0 sch ops r :: k) ((d, v) :: fr) ch nx
        | .br s _ => (match look fr s with | some (.v (.bool b)) => .br p s b (.dops true ρ0 sch ops ((i, .quiet, (g, o)) :: r) :: k) fr ch nx | _ => .stuck)
        | .ev => .more p (.dops true ρ0 sch ops ((i, .quiet, (g, o)) :: r) :: k) fr ch nx
        | _ => .stuck)
      | .skip => next sc n p (.dops true ρ0 sch ops r :: k) (skipFr o fr) ch nx
      | .br s b => .br p s b (.dops true ρ0 sch ops ((i, .quiet, (g, o)) :: r) :: k) fr ch nx
      | .bad => .stuck)
    | .dops true ρ0 sch ops ((i, .loud, (g, o)) :: r) :: k => (match gres fr g with
      | .run => (match step fr ch nx o with
        | .ok d v none => next sc n p (.dops true ρ0 sch ops r :: k) ((d, v) :: fr) ch nx
        | .ok d v (some q) => next sc n (p ∧ q) (.dops true ρ0 sch ops r :: k) ((d, v) :: fr) ch nx
        | .new d v c => next sc n p (.dops true ρ0 sch ops r :: k) ((d, v) :: fr) ((nx, c) :: ch) (nx + 1)
        | .st c x none => (match nokey c sch with | true => next sc n p (.dops true ρ0 sch ops r :: k) fr ((c, x) :: ch) nx | false => .stuck)
        | .st c x (some q) => (match nokey c sch with | true => next sc n (p ∧ q) (.dops true ρ0 sch ops r :: k) fr ((c, x) :: ch) nx | false => .stuck)
        | .br s _ => (match look fr s with | some (.v (.bool b)) => .br p s b (.dops true ρ0 sch ops ((i, .loud, (g, o)) :: r) :: k) fr ch nx | _ => .stuck)
        | .call d f args => (match sc with | false => .call p d f args (.dops true ρ0 sch ops r :: k) fr ch nx | true => .more p (.dops true ρ0 sch ops ((i, .loud, (g, o)) :: r) :: k) fr ch nx)
        | .ev => (match sc with | false => .op p o (.dops true ρ0 sch ops r :: k) fr ch nx | true => .more p (.dops true ρ0 sch ops ((i, .loud, (g, o)) :: r) :: k) fr ch nx))
      | .skip => next sc n p (.dops true ρ0 sch ops r :: k) (skipFr o fr) ch nx
      | .br s b => .br p s b (.dops true ρ0 sch ops ((i, .loud, (g, o)) :: r) :: k) fr ch nx
      | .bad => .stuck)
    | .dops _ ρ0 sch ops ((i, .last, (g, o)) :: r) :: k => (match gres fr g with
      | .run => (match step fr ch nx o with
        | .ok d v none => next sc n p (.dops false ρ0 sch ops r :: k) ((d, v) :: fr) ch nx
        | .ok d v (some q) => next sc n (p ∧ q) (.dops false ρ0 sch ops r :: k) ((d, v) :: fr) ch nx
        | .new d v c => next sc n p (.dops false ρ0 sch ops r :: k) ((d, v) :: fr) ((nx, c) :: ch) (nx + 1)
        | .st c x none => next sc n p (.dops false ρ0 sch ops r :: k) fr ((c, x) :: ch) nx
        | .st c x (some q) => next sc n (p ∧ q) (.dops false ρ0 sch ops r :: k) fr ((c, x) :: ch) nx
        | .br _ _ => .stuck
        | .call d f args => .call p d f args (.dops false ρ0 sch ops r :: k) fr ch nx
        | .ev => .op p o (.dops false ρ0 sch ops r :: k) fr ch nx)
      | .skip => next sc n p (.dops false ρ0 sch ops r :: k) (skipFr o fr) ch nx
      | .br _ _ => .stuck
      | .bad => .stuck)
    | .dops false _ _ _ ((_, .quiet, _) :: _) :: _ => .stuck
    | .dops false _ _ _ ((_, .loud, _) :: _) :: _ => .stuck

/-! ### the machine's moves are true -/
theorem FrOk.put {ρ : List Nat} {fr : List (Nat × AV)} {a : Act} {N d : Nat} (H : FrOk ρ fr a) (hN : a.tmps.size = N) (hd : d < N) {v : AV} {x : Value} (hv : v.ev ρ = some x) :
    FrOk ρ ((d, v) :: fr) (a.put (some d) x) := by
  intro s u hu
  by_cases e : d = s
  · subst e
    rw [look_cons_same] at hu
    cases hu
    exact ⟨x, hv, by simp [Act.put, Array.getElem?_setIfInBounds, hN, hd]⟩
  · rw [look_cons_ne e] at hu
    obtain ⟨y, h1, h2⟩ := H s u hu
    exact ⟨y, h1, by simp only [Act.put]; rw [Array.getElem?_setIfInBounds, if_neg e]; exact h2⟩
theorem FrOk.ext {ρ : List Nat} {fr : List (Nat × AV)} {a : Act} (H : FrOk ρ fr a) (σ : List Nat) : FrOk (ρ ++ σ) fr a := fun s v h => let ⟨x, h1, h2⟩ := H s v h; ⟨x, AV.ev_ext ρ σ v x h1, h2⟩
theorem put_size (a : Act) (d : Option Nat) (x : Value) : (a.put d x).tmps.size = a.tmps.size := by cases d <;> simp [Act.put]
theorem put_defers (a : Act) (d : Option Nat) (x : Value) : (a.put d x).defers = a.defers := by cases d <;> rfl
theorem compOp_spec {tb : Tb} {N : Nat} {ops : Array Oper} {o : Oper} {g : Option (Nat × Bool)} {x : AOp} (h : compOp tb N ops o = some (g, x)) :
    opWith tb o.dst o.type o.op = some x ∧ (∀ d, o.dst = some d → d < N) ∧
    (match o.guard with | none => g = none | some (j, want) => ∃ s, (ops[j]?).bind (·.dst) = some s ∧ g = some (s, want)) := by
  simp only [compOp] at h
  rcases cond_some h with ⟨h1', h2⟩ | ⟨_, h2⟩
  · have h1 := (Bool.and_eq_true _ _ ▸ h1').2
    have hN : ∀ d, o.dst = some d → d < N := fun d hd => by rw [hd] at h1; simpa using h1
    cases hg : o.guard with
    | none =>
      rw [hg] at h2
      simp only [Option.map_eq_some_iff, Prod.mk.injEq] at h2
      obtain ⟨y, hy, rfl, rfl⟩ := h2
      exact ⟨hy, hN, rfl⟩
    | some p =>
      obtain ⟨j, want⟩ := p
      rw [hg] at h2
      simp only [Option.bind_eq_some_iff, Option.map_eq_some_iff, Prod.mk.injEq] at h2
      obtain ⟨s, hs, y, hy, rfl, rfl⟩ := h2
      exact ⟨hy, hN, s, Option.bind_eq_some_iff.2 hs, rfl⟩
  · cases h2
theorem compOp_nd {tb : Tb} {N : Nat} {ops : Array Oper} {o : Oper} {x : GOp} (h : compOp tb N ops o = some x) : ∀ c, o.op ≠ .defer c := by
  simp only [compOp] at h
  rcases cond_some h with ⟨h1', h2⟩ | ⟨_, h2⟩
  · have h1 := (Bool.and_eq_true _ _ ▸ h1').1
    intro c e
    rw [e] at h1; cases h1
  · cases h2
theorem gres_run {ρ : List Nat} {fr : List (Nat × AV)} {a : Act} (H : FrOk ρ fr a) {tb : Tb} {N : Nat} {ops : Array Oper} {o : Oper} {g : Option (Nat × Bool)} {x : AOp} (h : compOp tb N ops o = some (g, x)) :
    (gres fr g = .run → Region.wanted o (yielded ops a.tmps) = true) ∧ (gres fr g = .skip → Region.wanted o (yielded ops a.tmps) = false) := by
  obtain ⟨_, _, hg⟩ := compOp_spec h
  cases hgd : o.guard with
  | none => rw [hgd] at hg; subst hg; simp [gres, Region.wanted, hgd]
  | some p =>
    obtain ⟨j, want⟩ := p
    rw [hgd] at hg
    obtain ⟨s, hs, rfl⟩ := hg
    have key : ∀ {b : Bool} {v : AV}, look fr s = some v → v.ev ρ = some (.bool b) → Region.wanted o (yielded ops a.tmps) = (b == want) := by
      intro b v hl hv
      obtain ⟨y, h1, h2⟩ := H s v hl
      rw [hv] at h1; cases h1
      simp [Region.wanted, hgd, yielded, hs, h2]
    cases want <;> simp only [gres] <;> split <;> simp <;> rename_i hl <;> first | exact key hl rfl | skip
theorem gres_br {fr : List (Nat × AV)} {g : Option (Nat × Bool)} {s : Nat} {b : Bool} (h : gres fr g = .br s b) : look fr s = some (.v (.bool b)) := by
  unfold gres at h
  split at h
  · cases h
  · split at h <;> cases h; assumption
  · split at h <;> cases h; assumption
theorem compOps_cons {tb : Tb} {N : Nat} {ops : Array Oper} {is : List Nat} {g : GOp} {r : List GOp} (h : compOps tb N ops is = some (g :: r)) :
    ∃ i t o, is = i :: t ∧ ops[i]? = some o ∧ compOp tb N ops o = some g ∧ compOps tb N ops t = some r := by
  cases is with
  | nil => simp [compOps] at h
  | cons i t =>
    simp only [compOps, Option.bind_eq_some_iff, Option.map_eq_some_iff] at h
    obtain ⟨o, ho, x, hx, u, hu, he⟩ := h
    cases he
    exact ⟨i, t, o, rfl, ho, hx, hu⟩

/-- A slot whose Bool is symbolic: the two ways. -/
theorem br_ok {cx : Cx} {st : St} {s : Nat} {b : Bool} (hl : look st.fr s = some (.v (.bool b))) (ht : b = true → Good cx ⟨st.stk, (s, .tt) :: st.fr, st.ch, st.nx⟩)
    (hf : b = false → Good cx ⟨st.stk, (s, .ff) :: st.fr, st.ch, st.nx⟩) : Good cx st := by
  intro ρ a w H
  obtain ⟨x, h1, h2⟩ := H.fr s _ hl
  cases h1
  have fr' : ∀ v : AV, v.ev ρ = some (.bool b) → FrOk ρ ((s, v) :: st.fr) a := fun v hv t u hu => by
    by_cases e : s = t
    · subst e; rw [look_cons_same] at hu; cases hu; exact ⟨_, hv, h2⟩
    · rw [look_cons_ne e] at hu; exact H.fr t u hu
  cases b
  · exact hf rfl ρ a w ⟨H.N, H.df, H.len, fr' .ff rfl, H.sat, H.env, H.dr⟩
  · exact ht rfl ρ a w ⟨H.N, H.df, H.len, fr' .tt rfl, H.sat, H.env, H.dr⟩

section
variable {cx : Cx} {fr : List (Nat × AV)} {ch : List (Nat × Chunk)} {nx : Nat} {k : List K} {r : List GOp} {g : Option (Nat × Bool)} {o : AOp}
/-- the head of a region's list, carried out -/
theorem ops_run (hg : gres fr g = .run) (h : ∀ ρ a w, Holds cx ρ ⟨.ops ((g, o) :: r) :: k, fr, ch, nx⟩ a w → ∀ x : Oper, (∀ d, x.dst = some d → d < cx.N) → opWith cx.tb x.dst x.type x.op = some o → (∀ c, x.op ≠ .defer c) →
    x.wpIn (fw cx.rd) 0 cx.P a w (fun a' w' => Disp cx (.ops r :: k) .normal a' w') (Disp cx k)) : Good cx ⟨.ops ((g, o) :: r) :: k, fr, ch, nx⟩ := by
  intro ρ a w H ops is hc
  obtain ⟨i, t, x, rfl, hx, hcx, hct⟩ := compOps_cons hc
  obtain ⟨h1, h2, _⟩ := compOp_spec hcx
  have hw := (gres_run H.fr hcx).1 hg
  simp only [wpOpsIn, hx, hw, if_true]
  exact Oper.wpIn_mono (fun a' w' hh => hh ops t hct) (h ρ a w H x h2 h1 (compOp_nd hcx))
theorem ops_skip (hg : gres fr g = .skip) (h : Good cx ⟨.ops r :: k, skipFr o fr, ch, nx⟩) (hd : ∀ x : Oper, opWith cx.tb x.dst x.type x.op = some o → x.dst = dstOf o) :
    Good cx ⟨.ops ((g, o) :: r) :: k, fr, ch, nx⟩ := by
  intro ρ a w H ops is hc
  obtain ⟨i, t, x, rfl, hx, hcx, hct⟩ := compOps_cons hc
  obtain ⟨h1, h2, _⟩ := compOp_spec hcx
  have hw := (gres_run H.fr hcx).2 hg
  simp only [wpOpsIn, hx, hw, Bool.false_eq_true, if_false]
  refine ⟨fun _ _ => trivial, ?_⟩
  refine h ρ _ w ⟨by rw [put_size]; exact H.N, by rw [put_defers]; exact H.df, H.len, ?_, H.sat, H.env, trivial⟩ ops t hct
  rw [hd x h1]
  unfold skipFr
  cases hd' : dstOf o with
  | none => exact H.fr
  | some d => exact H.fr.put H.N (h2 d (by rw [hd x h1, hd'])) rfl
end

theorem opWith_dst {tb : Tb} {dst : Option Nat} {T : TypeId} {op : Op} {o : AOp} (h : opWith tb dst T op = some o) : dst = dstOf o := by
  unfold opWith at h
  split at h
  all_goals try simp only [Option.map_eq_some_iff, Option.bind_eq_some_iff] at h
  · obtain ⟨z, hz, rfl⟩ := h; rfl
  · obtain ⟨z, hz, rfl⟩ := h; rfl
  · obtain ⟨z1, h1, z2, h2, rfl⟩ := h; rfl
  · obtain ⟨i, hi, rfl⟩ := h; rfl
  · obtain ⟨z, hz, rfl⟩ := h; rfl
  · obtain ⟨i, hi, pl, hpl, l, hl, rfl⟩ := h; rfl
  · obtain ⟨i, hi, h⟩ := h
    split at h
    · simp only [Option.bind_eq_some_iff] at h
      obtain ⟨j, hj, h⟩ := h
      rcases cond_some h with ⟨h1, h2⟩ | ⟨_, h2⟩
      · simp only [Option.map_eq_some_iff] at h2
        obtain ⟨l, hl, rfl⟩ := h2; rfl
      · cases h2
    · cases h
  · obtain ⟨i, hi, z, hz, rfl⟩ := h; rfl
  · obtain ⟨i, hi, z, hz, u, hu, rfl⟩ := h; rfl
  · obtain ⟨z, hz, rfl⟩ := h; rfl
  · obtain ⟨z, hz, u, hu, h⟩ := h
    split at h
    · split at h
      · rename_i o' he
        subst h
        simp only [eqOp, Option.bind_eq_some_iff] at he
        obtain ⟨i, hi, he⟩ := he
        split at he
        · cases he; rfl
        · cases he; rfl
        · cases he; rfl
        · cases he; rfl
        · cases he; rfl
        · simp only [Option.bind_eq_some_iff] at he
          obtain ⟨j, hj, he⟩ := he
          split at he
          · rcases cond_some he with ⟨h1, h2⟩ | ⟨_, h2⟩
            · cases h2; rfl
            · cases h2
          · cases he
        · cases he
      · split at h <;> subst h <;> rfl
    · subst h; rfl
  · obtain ⟨z, hz, rfl⟩ := h; rfl
  · obtain ⟨i, hi, h⟩ := h
    split at h
    · simp only [Option.bind_eq_some_iff] at h
      obtain ⟨p, hp, j, hj, h⟩ := h
      rcases cond_some h with ⟨_, h2⟩ | ⟨h1, h2⟩
      · cases h2
      · simp only [Option.map_eq_some_iff] at h2
        obtain ⟨z, hz, rfl⟩ := h2; rfl
    · cases h
  · obtain ⟨i, hi, h⟩ := h
    split at h
    · simp only [Option.bind_eq_some_iff, Option.map_eq_some_iff] at h
      obtain ⟨p, hp, j, hj, z, hz, rfl⟩ := h; rfl
    · cases h
  · obtain ⟨i, hi, h⟩ := h
    split at h
    · simp only [Option.bind_eq_some_iff, Option.map_eq_some_iff] at h
      obtain ⟨j, hj, z, hz, u, hu, rfl⟩ := h; rfl
    · simp only [Option.bind_eq_some_iff, Option.map_eq_some_iff] at h
      obtain ⟨j, hj, z, hz, u, hu, rfl⟩ := h; rfl
    · cases h
  · obtain ⟨z, hz, rfl⟩ := h; rfl
  · obtain ⟨z, hz, u, hu, rfl⟩ := h; rfl
  · obtain ⟨z, hz, u, hu, rfl⟩ := h; rfl
  · obtain ⟨t, h0, i, hi, h⟩ := h
    split at h
    · simp only [Option.map_eq_some_iff] at h
      obtain ⟨z, hz, rfl⟩ := h; rfl
    · cases h; rfl
  · obtain ⟨i, hi, j, hj, h⟩ := h
    split at h
    · simp only [Option.map_eq_some_iff] at h
      obtain ⟨z, hz, rfl⟩ := h; rfl
    · cases h; rfl
  · obtain ⟨i, hi, h⟩ := h
    split at h
    · simp only [Option.bind_eq_some_iff, Option.map_eq_some_iff] at h
      obtain ⟨j, hj, z, hz, xl, hl, xh, hh, xm, hm, rfl⟩ := h; rfl
    · simp only [Option.bind_eq_some_iff, Option.map_eq_some_iff] at h
      obtain ⟨j, hj, z, hz, xl, hl, xh, hh, xm, hm, rfl⟩ := h; rfl
    · cases h; rfl
  · cases h; rfl

section
variable {cx : Cx} {ρ : List Nat} {st : St} {a : Act} {w : World}
/-- a new block comes in -/
theorem Sat.newc (H : Holds cx ρ st a w) {o : Obj} {c : Chunk} (hc : ∀ h : Hp, h w.heap.size = some o → c.hp (ρ ++ [w.heap.size]) st.nx h) :
    Sat (Sx.big (ρ ++ [w.heap.size]) (lookc ((st.nx, c) :: st.ch)) (st.nx + 1)) { w with heap := w.heap.push o } := by
  refine (H.sat.new o).mono fun h hh => ?_
  rw [lookc_cons]
  simp only [Sx.big, upd_same]
  refine star_mono (fun x hx => hc x hx) (fun x hx => ?_) hh
  rw [big_congr (g' := lookc st.ch) (fun i hi => by simp [upd, Nat.ne_of_lt hi])]
  exact big_ext hx
/-- a block is turned -/
theorem Sat.turn (H : Holds cx ρ st a w) {c b : Nat} {o' : Obj} {x : Chunk} (hcn : c < st.nx) (hold : ∀ h : Hp, (lookc st.ch c).hp ρ c h → ∃ o, h b = some o) (hnew : ∀ h : Hp, h b = some o' → x.hp ρ c h) :
    Sat (Sx.big ρ (lookc ((c, x) :: st.ch)) st.nx) (putBlock w b o') := by
  obtain ⟨h0, l0, hb0⟩ := H.sat
  have hb1 := big_out hcn hb0
  obtain ⟨p, q, hd, lp, lq, hp, hq⟩ := hb1
  obtain ⟨o, ho⟩ := hold p hp
  have hs : Sat (star (Sx.pts b o) (Sx.big ρ (upd (lookc st.ch) c .gone) st.nx)) w := ⟨h0, l0, p, q, hd, lp, lq, ho, hq⟩
  refine (hs.put (o' := o')).mono fun h hh => ?_
  rw [lookc_cons]
  exact big_in hcn x (star_mono (fun y hy => hnew y hy) (fun _ y => y) hh)

theorem wp_noQ {P : Program} {x : Oper} {a : Act} {w : World} {K K' : Act → World → Prop} {Q : Exit → Act → World → Prop} (hK : ∀ a w, K a w → K' a w) (h : x.wp P a w K (fun _ _ _ => False)) : x.wp P a w K' Q := by
  unfold Oper.wp at *
  generalize (execOp a.eval x).run P w = r at *
  cases r with
  | ok n w' =>
    cases n <;> simp only [Oper.upon] at h ⊢
    case value => exact hK _ _ h
    case skip => exact hK _ _ h
    case defer => exact hK _ _ h
    case enter f args =>
      refine h.mono fun e w'' he => ?_
      cases e with
      | returned v => exact hK _ _ he
      | panicked c => exact he.elim
      | outgrown => obtain ⟨_, _, hf⟩ := he; exact hf.elim
    case row => exact h.mono fun v w'' hv => hK _ _ hv
  | halt x w' =>
    cases x <;> simp only [Oper.upon] at h
/-- one operation of a plain region, by its step -/
theorem ops_step {cx : Cx} (ht : tbOk cx.P cx.tb = true) {fr : List (Nat × AV)} {ch : List (Nat × Chunk)} {nx : Nat} {k : List K} {r : List GOp} {g : Option (Nat × Bool)} {o : AOp} (hg : gres fr g = .run)
    (h : match step fr ch nx o with
      | .ok d v q => (∀ p, q = some p → p) ∧ Good cx ⟨.ops r :: k, (d, v) :: fr, ch, nx⟩
      | .new d v c => Good cx ⟨.ops r :: k, (d, v) :: fr, (nx, c) :: ch, nx + 1⟩
      | .st c x q => (∀ p, q = some p → p) ∧ Good cx ⟨.ops r :: k, fr, (c, x) :: ch, nx⟩
      | .br _ _ => False
      | .call d f args => EvOk cx (.call True d f args (.ops r :: k) fr ch nx)
      | .ev => EvOk cx (.op True o (.ops r :: k) fr ch nx)) : Good cx ⟨.ops ((g, o) :: r) :: k, fr, ch, nx⟩ := by
  refine ops_run hg fun ρ a w H x hN hx hnd => ?_
  have hs := step_ok ht H.fr H.len H.sat.each hx
  revert h hs
  cases step fr ch nx o with
  | ok d v q =>
    rintro ⟨hq, hG⟩ hs
    obtain ⟨hd, y, hv, hrun⟩ := hs hq
    refine wpIn_of_wp hnd ?_
    simp only [Oper.wp, hrun, Oper.upon, hd]
    exact hG ρ _ w ⟨by rw [put_size]; exact H.N, by rw [put_defers]; exact H.df, H.len, H.fr.put H.N (hN d hd) hv, H.sat, H.env, trivial⟩
  | new d v c =>
    rintro hG ⟨hd, ob, y, hrun, hv, hc⟩
    refine wpIn_of_wp hnd ?_
    simp only [Oper.wp, hrun, Oper.upon, hd]
    refine hG (ρ ++ [w.heap.size]) _ _ ⟨by rw [put_size]; exact H.N, by rw [put_defers]; exact H.df, by simp [H.len], (H.fr.ext _).put H.N (hN d hd) hv, Sat.newc H hc, (H.env.trans (Env.new w ob)).ext _, trivial⟩
  | st c x' q =>
    rintro ⟨hq, hG⟩ hs
    obtain ⟨hd, hc, b, o', hold, hrun, hnew⟩ := hs hq
    refine wpIn_of_wp hnd ?_
    simp only [Oper.wp, hrun, Oper.upon, hd]
    exact hG ρ _ _ ⟨H.N, H.df, H.len, H.fr, Sat.turn H hc hold hnew, H.env.trans (Env.putBlock w b o'), trivial⟩
  | br s b => intro h; exact h.elim
  | call d f args =>
    rintro ⟨_, hG⟩ ⟨hd, vs, hvs, hrun⟩
    rcases hG ρ a w ⟨H.N, H.df, H.len, H.fr, H.sat, H.env, trivial⟩ (hN d hd) vs hvs with ⟨h1, h2⟩ | ⟨v, w', h1, h2⟩
    · refine wpIn_of_wp hnd ?_
      simp only [Oper.wp, hrun, h1, Oper.upon, hd]
      refine h2.mono fun e w' he => ?_
      obtain ⟨v, rfl, _, hR⟩ := he
      exact hR
    · refine wpIn_of_wp hnd ?_
      simp only [Oper.wp, hrun, h1, Oper.upon, hd]
      exact h2.2
  | ev =>
    rintro ⟨_, hG⟩ _
    rcases hG ρ a w ⟨H.N, H.df, H.len, H.fr, H.sat, H.env, trivial⟩ x (by
      cases hd : x.dst with
      | none => trivial
      | some d => exact hN d hd) hx with hh | hh
    · exact wpIn_of_wp hnd (wp_noQ (fun a' w' hh => hh.2) hh)
    · exact wpIn_noQ hh.2
end

/-! ### regions that draw their order -/
section
variable {P : Program} {ops : Array Oper} {Q : Exit → Act → World → Prop} {S : World → Prop} {X : Nat → Bool}
def waits1 (ops : Array Oper) (j k : Nat) : Bool := match ops[j]? with | some o => o.after.any fun e => Region.binds .any e && Nat.beq e.on k | none => false
def waitsD (ops : Array Oper) : Nat → Nat → Nat → Bool
  | 0, j, k => waits1 ops j k
  | n + 1, j, k => waits1 ops j k || (List.range ops.size).any fun m => waits1 ops j m && waitsD ops n m k
def waits2 (ops : Array Oper) (j k : Nat) : Bool := waitsD ops 7 j k
def Closed (ops : Array Oper) (listed : Array Bool) : Prop := ∀ j k, listed.getD j false = true → waits1 ops j k = true → listed.getD k false = true
theorem waits1_ready {listed : Array Bool} {j k : Nat} (h : waits1 ops j k = true) (hr : j ∈ Region.ready .any ops listed) : listed.getD k false = true := by
  obtain ⟨_, o, ho, hall⟩ := mem_ready.1 hr
  simp only [waits1, ho] at h
  rw [Array.any_eq_true'] at h
  obtain ⟨e, he, hb⟩ := h
  simp only [Bool.and_eq_true] at hb
  rw [← Nat.eq_of_beq_eq_true hb.2]
  exact hall e he hb.1
theorem waitsD_closed {listed : Array Bool} {k : Nat} (hc : Closed ops listed) : ∀ (n j : Nat), waitsD ops n j k = true → listed.getD j false = true → listed.getD k false = true
  | 0, j, h, hl => hc j k hl h
  | n + 1, j, h, hl => by
    simp only [waitsD, Bool.or_eq_true, List.any_eq_true, Bool.and_eq_true] at h
    rcases h with h | ⟨m, _, h1, h2⟩
    · exact hc j k hl h
    · exact waitsD_closed hc n m h2 (hc j m hl h1)
theorem waits2_ready {listed : Array Bool} {j k : Nat} (hc : Closed ops listed) (h : waits2 ops j k = true) (hr : j ∈ Region.ready .any ops listed) : listed.getD k false = true := by
  simp only [waits2, waitsD, Bool.or_eq_true, List.any_eq_true, Bool.and_eq_true] at h
  rcases h with h | ⟨m, _, h1, h2⟩
  · exact waits1_ready h hr
  · refine waitsD_closed hc 6 m ?_ (waits1_ready h1 hr)
    simpa only [waitsD, Bool.or_eq_true, List.any_eq_true, Bool.and_eq_true] using h2
theorem Closed.set {listed : Array Bool} {j : Nat} (hc : Closed ops listed) (hr : j ∈ Region.ready .any ops listed) : Closed ops (listed.setIfInBounds j true) := by
  intro x k hx hw
  by_cases e : j = x
  · subst e; exact getD_set_true (waits1_ready hw hr)
  · rw [getD_set_ne false e] at hx; exact getD_set_true (hc x k hx hw)
/-- Whatever order is picked from here on, and S holds behind every operation that is carried out but those of X. -/
def wpX (P : Program) (ops : Array Oper) (Q : Exit → Act → World → Prop) (S : World → Prop) (X : Nat → Bool) : Nat → Array Bool → Act → World → Prop
  | 0, listed, a, w => Region.ready .any ops listed = [] ∧ Q .normal a w
  | fuel + 1, listed, a, w =>
    (Region.ready .any ops listed = [] → Q .normal a w) ∧
    ∀ i ∈ Region.ready .any ops listed, wpOp P ops Q i (fun a' w' => (X i = false → S w') ∧ wpX P ops Q S X fuel (listed.setIfInBounds i true) a' w') a w
theorem wpAny_of_x : ∀ (fuel : Nat) (listed : Array Bool) (a : Act) (w : World), wpX P ops Q S X fuel listed a w → wpAny P .any ops Q fuel listed a w
  | 0, _, _, _, h => h
  | fuel + 1, _, _, _, h => ⟨h.1, fun i hi => wpOp_mono (fun a' w' h' => wpAny_of_x fuel _ a' w' h'.2) (h.2 i hi)⟩
theorem wpX_first {i : Nat} {oi : Oper} {v : Value} (hi : ops[i]? = some oi) (hsel : ∀ (j : Nat) (o : Oper) cs b, ops[j]? = some o → o.op ≠ .select cs b)
    (hQ : ∀ c a w, Q (.panic c) (a.put oi.dst v) w → Q (.panic c) a w) (hXi : X i = false) (hX : ∀ j, X j = true → waits2 ops j i = true) :
    ∀ (fuel : Nat) (listed : Array Bool) (a : Act) (w : World), Closed ops listed →
      (∀ j oj, ops[j]? = some oj → j ≠ i → listed.getD j true = false → (∀ e ∈ oj.after, Region.binds .any e = true → e.on ≠ i) → oi.apart ops oj = true) →
      i ∈ Region.ready .any ops listed → YieldsIf P ops S oi v a → S w →
      wpX P ops Q S X fuel (listed.setIfInBounds i true) (a.put oi.dst v) w → wpX P ops Q S X (fuel + 1) listed a w := by
  intro fuel
  induction fuel with
  | zero =>
    intro listed a w _ _ hr hy hS H
    refine ⟨fun h => (by rw [h] at hr; cases hr), fun j hj => ?_⟩
    by_cases hji : j = i
    · subst hji; exact hy.wpOp hi hS ⟨fun _ => hS, H⟩
    · have := ready_mono hj hji
      rw [H.1] at this
      cases this
  | succ fuel ih =>
    intro listed a w hc hfree hr hy hS H
    refine ⟨fun h => (by rw [h] at hr; cases hr), fun j hj => ?_⟩
    by_cases hji : j = i
    · subst hji; exact hy.wpOp hi hS ⟨fun _ => hS, H⟩
    · have h1 := H.2 j (ready_mono hj hji)
      obtain ⟨hjun, oj, hoj, hall⟩ := mem_ready.1 hj
      have hiun : listed.getD i false = false := by
        have h0 := (mem_ready.1 hr).1
        rcases Nat.lt_or_ge i listed.size with h' | h'
        · simp [h'] at h0 ⊢; exact h0
        · simp [Array.getElem?_eq_none h'] at h0
      have hnot : ∀ e ∈ oj.after, Region.binds .any e = true → e.on ≠ i := fun e he hb heq => by
        have h1 := hall e he hb
        rw [heq, hiun] at h1; cases h1
      have hXj : X j = false := by
        cases hx : X j with
        | false => rfl
        | true =>
          have := waits2_ready hc (hX j hx) hj
          rw [hiun] at this; cases this
      have h2 := wpOp_putIf hoj (hfree j oj hoj hji hjun hnot) (fun cs b => hsel i oi cs b hi) (fun cs b => hsel j oj cs b hoj) hQ hy h1
      have hfree' : ∀ k ok, ops[k]? = some ok → k ≠ i → (listed.setIfInBounds j true).getD k true = false →
          (∀ e ∈ ok.after, Region.binds .any e = true → e.on ≠ i) → oi.apart ops ok = true := fun k ok hk hki hun hno => by
        refine hfree k ok hk hki ?_ hno
        by_cases hjk : j = k
        · subst hjk; exact hjun
        · rw [getD_set_ne true hjk] at hun; exact hun
      refine wpOp_mono (fun a' w' h3 => ⟨h3.2.1, ih (listed.setIfInBounds j true) a' w' (hc.set hj) hfree' (ready_mono hr (Ne.symm hji)) h3.1 (h3.2.1 hXj) ?_⟩) h2
      rw [Array.setIfInBounds_comm _ _ hji]
      exact h3.2.2
end

/-- the operations of kind 'last' -/
def lastsOf : List (Nat × Kd) → List Nat
  | [] => []
  | (i, .last) :: r => i :: lastsOf r
  | (_, _) :: r => lastsOf r
def chkOrd (ops : Array Oper) (xs : List Nat) : Array Bool → List (Nat × Kd) → Bool
  | listed, [] => (Region.ready .any ops listed).isEmpty
  | listed, (i, .quiet) :: r => Region.free .any ops listed i && (Region.ready .any ops listed).contains i && !(xs.contains i) && xs.all (fun j => waits2 ops j i) && chkOrd ops xs (listed.setIfInBounds i true) r
  | listed, (i, _) :: r => (Region.ready .any ops listed == [i]) && chkOrd ops xs (listed.setIfInBounds i true) r
def pairs (l : List (Nat × Kd × GOp)) : List (Nat × Kd) := l.map fun y => (y.1, y.2.1)
theorem ord_x {P : Program} {Q : Exit → Act → World → Prop} {S : World → Prop} {ops : Array Oper} {xs : List Nat} (hs : Region.noSelect ops = true) (hQ : ∀ c a w, Q (.panic c) a w = False) :
    ∀ (l : List (Nat × Kd × GOp)) (listed : Array Bool) (a : Act) (w : World), Closed ops listed → (∀ i k g, (i, k, g) ∈ l → k = .last → xs.contains i = true) → chkOrd ops xs listed (pairs l) = true → wpOrd P Q S ops l a w →
      wpX P ops Q S (fun j => xs.contains j) l.length listed a w
  | [], listed, a, w, _, _, hc, h => by
    simp only [pairs, List.map_nil, chkOrd, List.isEmpty_iff] at hc
    exact ⟨hc, h⟩
  | (i, .quiet, g) :: r, listed, a, w, hcl, hlast, hc, h => by
    simp only [pairs, List.map_cons, chkOrd, Bool.and_eq_true] at hc
    obtain ⟨⟨⟨⟨h1, h2⟩, h3⟩, h4⟩, h5⟩ := hc
    obtain ⟨o, v, ho, hS, hy, hr⟩ := h
    have hir : i ∈ Region.ready .any ops listed := by simpa using h2
    refine wpX_first ho (Region.noSelect_spec hs) (fun c a w hh => by rw [hQ] at hh; exact hh.elim) (by simpa using h3) (fun j hj => List.all_eq_true.1 h4 j (by simpa using hj)) _ _ _ _ hcl
      (Region.free_spec ho h1) hir hy hS ?_
    exact ord_x hs hQ r _ _ _ (hcl.set hir) (fun i k g hm => hlast i k g (List.mem_cons_of_mem _ hm)) h5 hr
  | (i, .loud, g) :: r, listed, a, w, hcl, hlast, hc, h => by
    simp only [pairs, List.map_cons, chkOrd, Bool.and_eq_true, beq_iff_eq] at hc
    obtain ⟨h1, h3⟩ := hc
    refine ⟨fun h0 => (by rw [h1] at h0; cases h0), fun j hj => ?_⟩
    have hj' := hj
    rw [h1, List.mem_singleton] at hj
    subst hj
    exact wpOp_mono (fun a' w' hh => ⟨fun _ => hh.1, ord_x hs hQ r _ _ _ (hcl.set hj') (fun i k g hm => hlast i k g (List.mem_cons_of_mem _ hm)) h3 hh.2⟩) h
  | (i, .last, g) :: r, listed, a, w, hcl, hlast, hc, h => by
    simp only [pairs, List.map_cons, chkOrd, Bool.and_eq_true, beq_iff_eq] at hc
    obtain ⟨h1, h3⟩ := hc
    refine ⟨fun h0 => (by rw [h1] at h0; cases h0), fun j hj => ?_⟩
    have hj' := hj
    rw [h1, List.mem_singleton] at hj
    subst hj
    have hx := hlast j .last g List.mem_cons_self rfl
    exact wpOp_mono (fun a' w' hh => ⟨fun hf => (by have hf' : xs.contains j = false := hf; rw [hx] at hf'; cases hf'), ord_x hs hQ r _ _ _ (hcl.set hj') (fun i k g hm => hlast i k g (List.mem_cons_of_mem _ hm)) h3 hh⟩) h
def orderL (l : List GOp) : List (Nat × Kd) → Option (List (Nat × Kd × GOp))
  | [] => some []
  | (i, q) :: r => match l[i]? with | some g => (match orderL l r with | some t => some ((i, q, g) :: t) | none => none) | none => none
theorem orderL_pairs {l : List GOp} : ∀ {o : List (Nat × Kd)} {lo : List (Nat × Kd × GOp)}, orderL l o = some lo → pairs lo = o ∧ ∀ y ∈ lo, l[y.1]? = some y.2.2
  | [], lo, h => by simp only [orderL, Option.some.injEq] at h; subst h; exact ⟨rfl, fun y hy => by cases hy⟩
  | (i, q) :: r, lo, h => by
    simp only [orderL] at h
    split at h
    · rename_i g hg
      split at h
      · rename_i t ht
        cases h
        obtain ⟨h1, h2⟩ := orderL_pairs ht
        refine ⟨by simp [pairs] at h1 ⊢; exact h1, fun y hy => ?_⟩
        rcases List.mem_cons.1 hy with rfl | hy
        · exact hg
        · exact h2 y hy
      · cases h
    · cases h
theorem lastsOf_mem : ∀ {l : List (Nat × Kd × GOp)} {i : Nat} {k : Kd} {g : GOp}, (i, k, g) ∈ l → k = .last → (lastsOf (pairs l)).contains i = true
  | (j, k', g') :: r, i, k, g, h, hk => by
    rcases List.mem_cons.1 h with e | h
    · cases e; subst hk; simp [pairs, lastsOf]
    · have := lastsOf_mem h hk
      simp only [List.contains_eq_mem, decide_eq_true_eq] at this ⊢
      cases k' <;> simp only [pairs, List.map_cons, lastsOf] <;> first | exact this | exact List.mem_cons_of_mem _ this
  | [], _, _, _, h, _ => by cases h
theorem compOps_get {tb : Tb} {N : Nat} {ops : Array Oper} : ∀ {is : List Nat} {l : List GOp} {j : Nat} {g : GOp}, compOps tb N ops is = some l → l[j]? = some g → ∃ i o, is[j]? = some i ∧ ops[i]? = some o ∧ compOp tb N ops o = some g
  | [], l, j, g, h, hg => by simp only [compOps, Option.some.injEq] at h; subst h; simp at hg
  | i :: t, l, j, g, h, hg => by
    simp only [compOps, Option.bind_eq_some_iff, Option.map_eq_some_iff] at h
    obtain ⟨o, ho, x, hx, u, hu, rfl⟩ := h
    cases j with
    | zero => simp at hg; subst hg; exact ⟨i, o, by simp, ho, hx⟩
    | succ j => simp at hg; simpa using compOps_get hu hg
def chkDraw (ops : Array Oper) (order : List (Nat × Kd)) : Bool := Region.noSelect ops && chkOrd ops (lastsOf order) (Array.replicate ops.size false) order && Nat.beq order.length ops.size

theorem draw_ok {cx : Cx} (hm : cx.P.follows .mixedOrders = true ∧ cx.rd = none) {ops : Array Oper} {l : List GOp} {p : Prop} {stk : List K} {fr : List (Nat × AV)} {ch : List (Nat × Chunk)} {nx : Nat} (hp : p) {order : List (Nat × Kd)}
    (hchk : chkDraw ops order = true) (sch : List (Nat × Chunk)) {lo : List (Nat × Kd × GOp)} (hlo : orderL l order = some lo)
    (hsch : stab sch ch) (hpl : (sch.all fun x => plainCh x.2 && Nat.blt x.1 nx) = true)
    (h : ∀ ρ0 : List Nat, Good cx ⟨.dops true ρ0 sch ops lo :: stk, fr, ch, nx⟩) : EvOk cx (.draw p ops l stk fr ch nx) := by
  refine ⟨hp, fun ρ a w H hc id => ?_⟩
  simp only [chkDraw, Bool.and_eq_true] at hchk
  obtain ⟨⟨h1, h2⟩, h3⟩ := hchk
  obtain ⟨h4, h5⟩ := orderL_pairs hlo
  have hlen : lo.length = ops.size := by
    have : (pairs lo).length = lo.length := by simp [pairs]
    rw [← this, h4]; exact Nat.eq_of_beq_eq_true h3
  have hsok : SchOk ρ sch := fun y hy => by
    have := List.all_eq_true.1 hpl y hy
    simp only [Bool.and_eq_true] at this
    have hlt : y.1 < nx := by simpa using this.2
    obtain ⟨hh, _, hhp⟩ := H.sat.big hlt
    exact ⟨H.len ▸ hlt, this.1, hh, by rw [stab_mem hsch y hy] at hhp; exact hhp⟩
  have H' : Holds cx ρ ⟨.dops true ρ sch ops lo :: stk, fr, ch, nx⟩ a { w with drawn := w.drawn + 1 } :=
    ⟨H.N, H.df, H.len, H.fr, H.sat, H.env.trans ⟨rfl, rfl, rfl, Nat.le_refl _⟩, ⟨[], by simp⟩, hsch, hsok⟩
  have hord := h ρ ρ a _ H' (fun y hy => by
    obtain ⟨i, o, hi, ho, hco⟩ := compOps_get hc (h5 y hy)
    have hij : i = y.1 := by
      rw [List.getElem?_range] at hi
      · simpa using hi.symm
      · rcases Nat.lt_or_ge y.1 ops.size with hlt | hge
        · exact hlt
        · simp [List.getElem?_eq_none (l := List.range ops.size) (by simpa using hge)] at hi
    exact ⟨o, hij ▸ ho, hco⟩)
  rw [hm.2]
  refine wpIn_wide.2 (wp_region_any hm.1 (wpAny_of_x (S := SW ρ sch) (X := fun j => (lastsOf order).contains j) _ _ _ _ ?_))
  rw [← hlen]
  refine ord_x h1 (fun c a w => Disp_panic cx _ c a w) lo _ a _ ?_ (fun i k g hm hk => by rw [← h4]; exact lastsOf_mem hm hk) (by rw [h4]; simpa [hlen] using h2) hord
  intro j k hj
  rw [hlen] at hj
  rcases Nat.lt_or_ge j ops.size with hlt | hge
  · simp [hlt] at hj
  · simp [Array.getElem?_eq_none (xs := Array.replicate ops.size false) (by simpa using hge)] at hj
end Sx
