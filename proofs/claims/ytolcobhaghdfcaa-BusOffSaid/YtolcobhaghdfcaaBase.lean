/- The engine at this program: short words for the contracts' proofs. -/
import Derived.Test.YtolcobhaghdfcaaCon
import Derived.Test.YtolcobhaghdfcaaTbl
namespace Go.Proofs.Ytolcobhaghdfcaa
open Sx Go
set_option maxRecDepth 100000
theorem on {N : Nat} {Q : Exit → Act → World → Prop} {w0 : World} {r0 : List Nat} {df : List Deferred} {rd : Option Nat} {stk : List K} {fr : List (Nat × AV)} {ch : List (Nat × Chunk)} {nx : Nat} (h : EvOk ⟨Try.prog, tbl, N, Q, w0, r0, df, rd⟩ (next false 300 True stk fr ch nx)) :
  Good ⟨Try.prog, tbl, N, Q, w0, r0, df, rd⟩ ⟨stk, fr, ch, nx⟩ := go tbl_ok h
/-- on, and stop ahead of a call -/
theorem onc {N : Nat} {Q : Exit → Act → World → Prop} {w0 : World} {r0 : List Nat} {df : List Deferred} {rd : Option Nat} {stk : List K} {fr : List (Nat × AV)} {ch : List (Nat × Chunk)} {nx : Nat} (h : EvOk ⟨Try.prog, tbl, N, Q, w0, r0, df, rd⟩ (next true 300 True stk fr ch nx)) :
  Good ⟨Try.prog, tbl, N, Q, w0, r0, df, rd⟩ ⟨stk, fr, ch, nx⟩ := (next_ok tbl_ok true _ _ _ _ _ _ h).2
instance (x : Int) : Decidable (InR x) := by unfold InR; exact inferInstance
theorem mixed1 : Try.prog.follows .mixedOrders = true := by kernel_rfl
theorem mixed {r : Option Nat} (h : r = none := by rfl) : Try.prog.follows .mixedOrders = true ∧ r = none := ⟨mixed1, h⟩
/-- a function that only computes: its contract out of its body's run -/
theorem pur {f : Nat} {fn : Func} {ac : ACode} {N : Nat} {args : List Value} (avs : List AV) {retV : Value} (hf : Try.prog.funcs[f]? = some fn) (hb : fn.body.isSome = true) (hnm : (fn.name == "runtime.NumGoroutine") = false)
    (hNt : fn.ntmps = N) (hc : comp tbl N (fn.body.getD .skip) = some ac) (hN : Nat.ble avs.length N = true) (hargs : AV.evs [] avs = some args)
    (hgood : ∀ (F : HProp) (w0 : World), Good ⟨Try.prog, tbl, N, bodyPost Try.prog fn (postOf F w0 (fun _ : Unit => retV) fun _ => emp), w0, [], [], none⟩ ⟨[.code ac], frOf 0 avs, [(0, frm F)], 1⟩) :
    Ctr Try.prog f args emp (fun _ : Unit => retV) (fun _ => emp) :=
  ctr_of hf hb hnm hNt hc [] avs [] hN (by have := AV.evs_ext [] [0] _ _ hargs; simpa using this) pre_emp 1 (frOf 0 avs) rfl rfl hgood
theorem ret1 {N : Nat} {fn : Func} {w0 : World} {r0 : List Nat} {F : HProp} {p : Prop} {stk : List K} {fr : List (Nat × AV)} {ch : List (Nat × Chunk)} {nx : Nat} (hp : p) {retV : Value} {l : List AV} (hres : resA tbl fr ch fn.results.toList = some l)
    (hv : (resV l).ev [] = some retV) (h0 : lookc ch 0 = frm F) (hnx : Nat.blt 0 nx = true) :
    EvOk ⟨Try.prog, tbl, N, bodyPost Try.prog fn (postOf F w0 (fun _ : Unit => retV) fun _ => emp), w0, r0, [], none⟩ (.ret p stk fr ch nx) := ret_pure tbl_ok hp hres hv h0 hnx
abbrev GV (m r : Int) : Value := .agg #[.int .i64 m, .int .i64 r]
abbrev GA (m r : Int) : AV := .agg [.v (.int .i64 m), .v (.int .i64 r)]
abbrev I (n : Int) : Value := .int .i64 n
abbrev IA (n : Int) : AV := .v (.int .i64 n)
theorem evI {a b : Int} (h : a = b) : (resV [IA a]).ev [] = some (I b) := by rw [h]; rfl
/-- so many steps of the abstract machine, and no more -/
theorem go_n {N : Nat} {Q : Exit → Act → World → Prop} {w0 : World} {r0 : List Nat} {df : List Deferred} {rd : Option Nat} (n : Nat) {stk : List K} {fr : List (Nat × AV)} {ch : List (Nat × Chunk)} {nx : Nat} (h : EvOk ⟨Try.prog, tbl, N, Q, w0, r0, df, rd⟩ (next false n True stk fr ch nx)) :
  Good ⟨Try.prog, tbl, N, Q, w0, r0, df, rd⟩ ⟨stk, fr, ch, nx⟩ := (next_ok tbl_ok false n True stk fr ch nx h).2
theorem into {cx : Cx} {stk : List K} {fr : List (Nat × AV)} {ch : List (Nat × Chunk)} {nx : Nat} {fr' : List (Nat × AV)} {ch' : List (Nat × Chunk)} {nx' : Nat} (hG : Good cx ⟨stk, fr', ch', nx'⟩) (hs : nod stk = true) (hf : Fit cx.r0 fr ch nx fr' ch' nx') : Good cx ⟨stk, fr, ch, nx⟩ := hG.conv hs hf
/-- a function's contract over abstract states out of its body's run -/
theorem act {f : Nat} {fn : Func} {ac : ACode} {N : Nat} {n : Nat} {avs : List AV} {pre : List (Nat × Chunk)} {X : Type} {m : X → Nat} {rv : X → AV} {post : X → List (Nat × Chunk)} (hf : Try.prog.funcs[f]? = some fn) (hb : fn.body.isSome = true) (hnm : (fn.name == "runtime.NumGoroutine") = false)
    (hNt : fn.ntmps = N) (hc : comp tbl N (fn.body.getD .skip) = some ac) (hN : Nat.ble avs.length N = true)
    (hgood : ∀ (F : HProp) (w0 : World) (b : Nat → Nat), Good ⟨Try.prog, tbl, N, bodyPost Try.prog fn (postA F w0 (nms b 0 n) m rv post), w0, nms b 0 n, [], none⟩ ⟨[.code ac], frOf 0 avs, (0, frm F) :: pre, n⟩) : ACtr Try.prog f n avs pre m rv post :=
  actr_of hf hb hnm hNt hc hN hgood
theorem reta {N : Nat} {fn : Func} {w0 : World} {r0 : List Nat} {F : HProp} {X : Type} {m : X → Nat} {rv : X → AV} {post : X → List (Nat × Chunk)} {p : Prop} {stk : List K} {fr : List (Nat × AV)} {ch : List (Nat × Chunk)} {nx : Nat} (hp : p)
    {l : List AV} (hres : resA tbl fr ch fn.results.toList = some l) (x : X) (π : List Nat) (hlen : Nat.beq π.length (r0.length + m x) = true) (hlt : (π.all fun j => Nat.blt j nx) = true) (hnd : nodupB π = true) (hkp : keepsN r0.length 0 π = true)
    (hrv : AV.ren π (rv x) = some (resV l)) (hch : FitCh ch π ((0, frm F) :: post x) 0 π) :
    EvOk ⟨Try.prog, tbl, N, bodyPost Try.prog fn (postA F w0 r0 m rv post), w0, r0, [], none⟩ (.ret p stk fr ch nx) := ret_ab tbl_ok hp hres x π hlen hlt hnd hkp ⟨_, hrv, fun _ => rfl⟩ hch
theorem retE {N : Nat} {fn : Func} {w0 : World} {r0 : List Nat} {F : HProp} {X : Type} {m : X → Nat} {rv : X → AV} {post : X → List (Nat × Chunk)} {p : Prop} {stk : List K} {fr : List (Nat × AV)} {ch : List (Nat × Chunk)} {nx : Nat} (hp : p)
    {l : List AV} (hres : resA tbl fr ch fn.results.toList = some l) (x : X) (π : List Nat) (hlen : Nat.beq π.length (r0.length + m x) = true) (hlt : (π.all fun j => Nat.blt j nx) = true) (hnd : nodupB π = true) (hkp : keepsN r0.length 0 π = true)
    (hrv : ∃ u, AV.ren π (rv x) = some u ∧ ∀ ρ, u.ev ρ = (resV l).ev ρ) (hch : FitCh ch π ((0, frm F) :: post x) 0 π) :
    EvOk ⟨Try.prog, tbl, N, bodyPost Try.prog fn (postA F w0 r0 m rv post), w0, r0, [], none⟩ (.ret p stk fr ch nx) := ret_ab tbl_ok hp hres x π hlen hlt hnd hkp hrv hch
theorem fina {N : Nat} {fn : Func} {w0 : World} {r0 : List Nat} {F : HProp} {X : Type} {m : X → Nat} {rv : X → AV} {post : X → List (Nat × Chunk)} {p : Prop} {stk : List K} {fr : List (Nat × AV)} {ch : List (Nat × Chunk)} {nx : Nat} (hp : p)
    {l : List AV} (hres : resA tbl fr ch fn.results.toList = some l) (x : X) (π : List Nat) (hlen : Nat.beq π.length (r0.length + m x) = true) (hlt : (π.all fun j => Nat.blt j nx) = true) (hnd : nodupB π = true) (hkp : keepsN r0.length 0 π = true)
    (hrv : ∃ u, AV.ren π (rv x) = some u ∧ ∀ ρ, u.ev ρ = (resV l).ev ρ) (hch : FitCh ch π ((0, frm F) :: post x) 0 π) :
    EvOk ⟨Try.prog, tbl, N, bodyPost Try.prog fn (postA F w0 r0 m rv post), w0, r0, [], none⟩ (.fin p stk fr ch nx) := fin_ab tbl_ok hp hres x π hlen hlt hnd hkp hrv hch
/-- a branch on what an order of numbers decides -/
theorem ev_lt {cx : Cx} {p : Prop} {s : Nat} {c : Prop} [Decidable c] {stk : List K} {fr : List (Nat × AV)} {ch : List (Nat × Chunk)} {nx : Nat} (hp : p)
    (h1 : c → Good cx ⟨stk, (s, .tt) :: fr, ch, nx⟩) (h2 : ¬ c → Good cx ⟨stk, (s, .ff) :: fr, ch, nx⟩) : EvOk cx (.br p s (decide c) stk fr ch nx) :=
  ⟨hp, fun h => h1 (of_decide_eq_true h), fun h => h2 (of_decide_eq_false h)⟩
theorem ev_ne {cx : Cx} {p : Prop} {s : Nat} {c : Prop} [Decidable c] {stk : List K} {fr : List (Nat × AV)} {ch : List (Nat × Chunk)} {nx : Nat} (hp : p)
    (h1 : ¬ c → Good cx ⟨stk, (s, .tt) :: fr, ch, nx⟩) (h2 : c → Good cx ⟨stk, (s, .ff) :: fr, ch, nx⟩) : EvOk cx (.br p s (!decide c) stk fr ch nx) :=
  ⟨hp, fun h => h1 (by simpa using h), fun h => h2 (by simpa using h)⟩
theorem xd {p : Prop} [Decidable p] (h : (xor false (decide p)) = true) : p := by simpa using h
theorem xdf {p : Prop} [Decidable p] (h : (xor false (decide p)) = false) : ¬ p := by simpa using h
theorem xt {p : Prop} [Decidable p] (h : (xor true (decide p)) = true) : ¬ p := by simpa using h
theorem xtf {p : Prop} [Decidable p] (h : (xor true (decide p)) = false) : p := by simpa using h
theorem evB {a b : Bool} (h : a = b) : (resV [.v (.bool a)]).ev [] = some (.bool b) := by rw [h]; rfl
theorem evD {a b : Prop} [Decidable a] [Decidable b] (h : a ↔ b) : (resV [.v (.bool (decide a))]).ev [] = some (.bool (decide b)) := evB (decide_eq_decide.2 h)
theorem evF {b : Prop} [Decidable b] (h : ¬ b) : (resV [.ff]).ev [] = some (.bool (decide b)) := by rw [decide_eq_false h]; rfl
theorem evT {b : Prop} [Decidable b] (h : b) : (resV [.tt]).ev [] = some (.bool (decide b)) := by rw [decide_eq_true h]; rfl
end Go.Proofs.Ytolcobhaghdfcaa
