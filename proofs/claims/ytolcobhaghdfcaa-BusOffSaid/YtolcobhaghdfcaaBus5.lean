/- Contracts of package bus: Read, Write, Flush, and what is told of a bus. -/
import Derived.Test.YtolcobhaghdfcaaBus4
namespace Go.Proofs.Ytolcobhaghdfcaa
open Sx Go
set_option maxRecDepth 100000
theorem c69 (B : Bs) (b : Nat) : ACtr Try.prog 69 2 [PA b] [(1, frm (busH B b))] (fun _ : Unit => 0) (fun _ => .tt) (fun _ => [(1, frm (busH B b))]) := by
  refine act Try.func69 rfl rfl rfl A69_ok rfl fun F w0 bb => ?_
  refine busE 1 0 rfl rfl rfl (fun _ => trivial) fun x ok => ?_
  refine on ?_
  refine busR trivial 1 2 B x ok rfl rfl rfl rfl rfl rfl rfl ?_
  exact retE trivial rfl () [0, 1] rfl rfl rfl rfl ⟨_, rfl, fun ρ => rfl⟩ ⟨rfl, rfl, trivial⟩
def dW (e : Ent) : Dm := ⟨fun _ => e, fun M => ioM M e.idx, fun M => wrM M e.idx e.data⟩
def dF (e : Ent) : Dm := ⟨fun _ => e, fun M => ioM M 0, fun M => flM M⟩
def dR (e : Ent) : Dm := ⟨fun M => { e with data := rdM M e.idx }, fun M => ioM M e.idx, fun M => M⟩
theorem c71 (e : Ent) (he : e.ok) : Inn 71 e (dW e) := fun M mb hl => by
  refine act Try.func71 rfl rfl rfl A71_ok rfl fun F w0 bb => ?_
  refine on ?_
  refine draw_ok mixed trivial O71_1_ok [(1, _)] Q71_1_ok ⟨rfl, trivial⟩ rfl (fun ρ0 => ?_)
  refine on ?_
  refine call_ab trivial (c21 M mb e.idx e.data he hl) [2] rfl rfl rfl rfl rfl ⟨rfl, trivial⟩ (fun _ => rfl) (fun _ => rfl) (fun _ => ⟨rfl, trivial⟩) (fun _ => ?_)
  refine on ?_
  exact retE trivial rfl () [0, 1, 2] rfl rfl rfl rfl ⟨_, rfl, fun ρ => rfl⟩ ⟨rfl, rfl, rfl, trivial⟩
theorem c74 (e : Ent) : Inn 74 e (dF e) := fun M mb hl => by
  refine act Try.func74 rfl rfl rfl A74_ok rfl fun F w0 bb => ?_
  refine on ?_
  refine call_ab trivial (c23 M mb hl) [2] rfl rfl rfl rfl rfl ⟨rfl, trivial⟩ (fun _ => rfl) (fun _ => rfl) (fun _ => trivial) (fun _ => ?_)
  refine on ?_
  exact retE trivial rfl () [0, 1, 2] rfl rfl rfl rfl ⟨_, rfl, fun ρ => rfl⟩ ⟨rfl, rfl, rfl, trivial⟩
theorem c77 (e : Ent) : Inn 77 e (dR e) := fun M mb hl => by
  refine act Try.func77 rfl rfl rfl A77_ok rfl fun F w0 bb => ?_
  refine on ?_
  refine call_ab trivial (c25 M mb e.idx) [2] rfl rfl rfl rfl rfl ⟨rfl, trivial⟩ (fun _ => rfl) (fun _ => rfl) (fun _ => trivial) (fun _ => ?_)
  refine on ?_
  exact retE trivial rfl () [0, 1, 2] rfl rfl rfl rfl ⟨_, rfl, fun ρ => rfl⟩ ⟨rfl, rfl, rfl, trivial⟩
section
variable (B : Bs) (b : Nat) (Ms : List Mem) (C : Cl) (hst : ∀ s ∈ B.steps, s.at_ = nowB B → okS s) (hlen : ∀ M ∈ Ms, M.log.length ≤ 1000000) (hlog : B.log.length ≤ 100000)
abbrev busPre (B : Bs) (b : Nat) (Ms : List Mem) (C : Cl) : List (Nat × Chunk) := [(1, frm (busH B b)), (2, frm (memsH B.bs Ms)), (3, frm (celH C B.cb))]
abbrev eW (m i : Int) (s : List Int) : Ent := ⟨2, m, i, s, 0⟩
abbrev eF (m : Int) : Ent := ⟨3, m, 0, Z64, 0⟩
abbrev eR (m i : Int) : Ent := ⟨1, m, i, Z64, 0⟩
def wEnt (B : Bs) (Ms : List Mem) (m i : Int) (s : List Int) : Ent := atEnt B Ms (eW m i s) (dW (eW m i s))
def wMs (B : Bs) (Ms : List Mem) (m i : Int) (s : List Int) : List Mem := atMs B Ms (eW m i s) (dW (eW m i s))
def fEnt (B : Bs) (Ms : List Mem) (m : Int) : Ent := atEnt B Ms (eF m) (dF (eF m))
def fMs (B : Bs) (Ms : List Mem) (m : Int) : List Mem := atMs B Ms (eF m) (dF (eF m))
def rEnt (B : Bs) (Ms : List Mem) (m i : Int) : Ent := atEnt B Ms (eR m i) (dR (eR m i))
def rMs (B : Bs) (Ms : List Mem) (m i : Int) : List Mem := atMs B Ms (eR m i) (dR (eR m i))
include hst hlen hlog
theorem c20 (m i : Int) (s : List Int) (hs : s.length = 64) : ACtr Try.prog 20 4 [PA b, IA m, IA i, .run .u8 64 s] (busPre B b Ms C) (fun _ : Unit => 0) (fun _ => IA (wEnt B Ms m i s).err) (fun _ => busPre (busLog B Ms (wEnt B Ms m i s)) b (wMs B Ms m i s) C) := by
  refine act Try.func20 rfl rfl rfl A20_ok rfl fun F w0 bb => ?_
  refine on ?_
  refine call_ab trivial (c69 B b) [1] rfl rfl rfl rfl rfl ⟨rfl, trivial⟩ (fun _ => rfl) (fun _ => rfl) (fun _ => trivial) (fun _ => ?_)
  refine on ?_
  refine call_ab trivial (c70 B b Ms C (eW m i s) hs 71 (dW (eW m i s)) (c71 (eW m i s) hs) hst hlen hlog) [1, 2, 3] rfl rfl rfl rfl rfl ⟨rfl, rfl, rfl, trivial⟩ (fun _ => rfl) (fun _ => rfl) (fun _ => trivial) (fun _ => ?_)
  refine on ?_
  exact retE trivial rfl () [0, 1, 2, 3] rfl rfl rfl rfl ⟨_, rfl, fun ρ => rfl⟩ ⟨rfl, rfl, rfl, rfl, trivial⟩
theorem c22 (m : Int) : ACtr Try.prog 22 4 [PA b, IA m] (busPre B b Ms C) (fun _ : Unit => 0) (fun _ => IA (fEnt B Ms m).err) (fun _ => busPre (busLog B Ms (fEnt B Ms m)) b (fMs B Ms m) C) := by
  refine act Try.func22 rfl rfl rfl A22_ok rfl fun F w0 bb => ?_
  refine on ?_
  refine call_ab trivial (c69 B b) [1] rfl rfl rfl rfl rfl ⟨rfl, trivial⟩ (fun _ => rfl) (fun _ => rfl) (fun _ => trivial) (fun _ => ?_)
  refine on ?_
  refine call_ab trivial (c70 B b Ms C (eF m) (by simp [Ent.ok]) 74 (dF (eF m)) (c74 (eF m)) hst hlen hlog) [1, 2, 3] rfl rfl rfl rfl rfl ⟨rfl, rfl, rfl, trivial⟩ (fun _ => rfl) (fun _ => rfl) (fun _ => trivial) (fun _ => ?_)
  refine on ?_
  exact retE trivial rfl () [0, 1, 2, 3] rfl rfl rfl rfl ⟨_, rfl, fun ρ => rfl⟩ ⟨rfl, rfl, rfl, rfl, trivial⟩
theorem c24 (m i : Int) : ACtr Try.prog 24 4 [PA b, IA m, IA i] (busPre B b Ms C) (fun _ : Unit => 0) (fun _ => .tup [.run .u8 64 (rEnt B Ms m i).data, IA (rEnt B Ms m i).err]) (fun _ => busPre (busLog B Ms (rEnt B Ms m i)) b (rMs B Ms m i) C) := by
  refine act Try.func24 rfl rfl rfl A24_ok rfl fun F w0 bb => ?_
  refine on ?_
  refine call_ab trivial (c69 B b) [1] rfl rfl rfl rfl rfl ⟨rfl, trivial⟩ (fun _ => rfl) (fun _ => rfl) (fun _ => trivial) (fun _ => ?_)
  refine on ?_
  refine call_ab trivial (c70 B b Ms C (eR m i) (by simp [Ent.ok]) 77 (dR (eR m i)) (c77 (eR m i)) hst hlen hlog) [1, 2, 3] rfl rfl rfl rfl rfl ⟨rfl, rfl, rfl, trivial⟩ (fun _ => rfl) (fun _ => rfl) (fun _ => trivial) (fun _ => ?_)
  refine on ?_
  refine draw_ok mixed trivial O24_4_ok [(5, _)] Q24_4_ok ⟨rfl, trivial⟩ rfl (fun ρ0 => ?_)
  refine on ?_
  exact retE trivial rfl () [0, 1, 2, 3] rfl rfl rfl rfl ⟨_, rfl, fun ρ => rfl⟩ ⟨rfl, rfl, rfl, rfl, trivial⟩
end
theorem c28 (B : Bs) (b : Nat) : ACtr Try.prog 28 2 [PA b] [(1, frm (busH B b))] (fun _ : Unit => 0) (fun _ => BA B.off) (fun _ => [(1, frm (busH B b))]) := by
  refine act Try.func28 rfl rfl rfl A28_ok rfl fun F w0 bb => ?_
  refine on ?_
  refine call_ab trivial (c69 B b) [1] rfl rfl rfl rfl rfl ⟨rfl, trivial⟩ (fun _ => rfl) (fun _ => rfl) (fun _ => trivial) (fun _ => ?_)
  refine busE 1 0 rfl rfl rfl (fun _ => trivial) fun x ok => ?_
  refine on ?_
  refine busR trivial 1 2 B x ok rfl rfl rfl rfl rfl rfl rfl ?_
  exact retE trivial rfl () [0, 1] rfl rfl rfl rfl ⟨_, rfl, fun ρ => rfl⟩ ⟨rfl, rfl, trivial⟩
theorem c42 (B : Bs) (b : Nat) : ACtr Try.prog 42 2 [PA b] [(1, frm (busH B b))] (fun _ : Unit => 0) (fun _ => IA B.log.length) (fun _ => [(1, frm (busH B b))]) := by
  refine act Try.func42 rfl rfl rfl A42_ok rfl fun F w0 bb => ?_
  refine on ?_
  refine call_ab trivial (c69 B b) [1] rfl rfl rfl rfl rfl ⟨rfl, trivial⟩ (fun _ => rfl) (fun _ => rfl) (fun _ => trivial) (fun _ => ?_)
  refine busE 1 0 rfl rfl rfl (fun _ => trivial) fun x ok => ?_
  refine on ?_
  refine busR trivial 1 2 B x ok rfl rfl rfl rfl rfl rfl rfl ?_
  exact retE trivial rfl () [0, 1] rfl rfl rfl rfl ⟨_, rfl, fun ρ => rfl⟩ ⟨rfl, rfl, trivial⟩
theorem c91 (B : Bs) (b : Nat) : ACtr Try.prog 91 2 [PA b] [(1, frm (busH B b))] (fun _ : Unit => 0) (fun _ => IA B.bs.length) (fun _ => [(1, frm (busH B b))]) := by
  refine act Try.func91 rfl rfl rfl A91_ok rfl fun F w0 bb => ?_
  refine on ?_
  refine call_ab trivial (c69 B b) [1] rfl rfl rfl rfl rfl ⟨rfl, trivial⟩ (fun _ => rfl) (fun _ => rfl) (fun _ => trivial) (fun _ => ?_)
  refine busE 1 0 rfl rfl rfl (fun _ => trivial) fun x ok => ?_
  refine on ?_
  refine busR trivial 1 2 B x ok rfl rfl rfl rfl rfl rfl rfl ?_
  exact retE trivial rfl () [0, 1] rfl rfl rfl rfl ⟨_, rfl, fun ρ => rfl⟩ ⟨rfl, rfl, trivial⟩
theorem c33 (B : Bs) (b : Nat) : ACtr Try.prog 33 2 [PA b] [(1, frm (busH B b))] (fun _ : Unit => 0) (fun _ => IA 0) (fun _ => [(1, frm (busH { B with off := false } b))]) := by
  refine act Try.func33 rfl rfl rfl A33_ok rfl fun F w0 bb => ?_
  refine on ?_
  refine call_ab trivial (c69 B b) [1] rfl rfl rfl rfl rfl ⟨rfl, trivial⟩ (fun _ => rfl) (fun _ => rfl) (fun _ => trivial) (fun _ => ?_)
  refine busE 1 0 rfl rfl rfl (fun _ => trivial) fun x ok => ?_
  refine on ?_
  refine ret_in trivial ?_
  refine recells 2 (cs' := busCs { B with off := false } x) rfl (fun ρ => rfl) rfl trivial ?_
  refine busL 1 2 { B with off := false } x ok rfl rfl rfl rfl rfl rfl rfl trivial ?_
  refine ret_out ?_
  exact retE trivial rfl () [0, 1] rfl rfl rfl rfl ⟨_, rfl, fun ρ => rfl⟩ ⟨rfl, rfl, trivial⟩
end Go.Proofs.Ytolcobhaghdfcaa
