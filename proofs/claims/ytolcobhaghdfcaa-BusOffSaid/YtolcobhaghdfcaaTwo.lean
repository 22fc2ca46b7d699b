/- Contracts of package casematelaw13: full, given, two. -/
import Derived.Test.YtolcobhaghdfcaaNew
namespace Go.Proofs.Ytolcobhaghdfcaa
open Sx Go
set_option maxRecDepth 100000
abbrev fullL (x : Int) : List Int := List.replicate 64 x
theorem full_set {x : Int} {t : Nat} (ht : t < 64) : (List.replicate t x ++ List.replicate (64 - t) 0).set t x = List.replicate (t + 1) x ++ List.replicate (64 - (t + 1)) 0 := by
  rw [List.set_append, if_neg (by simp), List.length_replicate, Nat.sub_self, show 64 - t = (64 - (t + 1)) + 1 by omega, List.replicate_succ, List.set_cons_zero, List.replicate_succ', List.append_assoc]; rfl
theorem c61 (x : Int) : ACtr Try.prog 61 1 [.v (.int .u8 x)] [] (fun _ : Unit => 0) (fun _ => .run .u8 64 (fullL x)) (fun _ => []) := by
  refine act Try.func61 rfl rfl rfl A61_ok rfl fun F w0 bb => ?_
  refine on ?_
  refine ev_loop trivial (ι := Nat) (fun t => t ≤ 64) (fun t => 64 - t) (fun t => [(0, .v (.int .u8 x)), (2, .ptr 1 0), (3, .ptr 2 0), (4, IA t)])
    (fun t => [(0, frm F), (1, .cells [.run .u8 64 Z64] 25), (2, .cells [.run .u8 64 (List.replicate t x ++ List.replicate (64 - t) 0)] 25)]) 3 0 (Nat.zero_le _)
    (Fit.of [0, 1, 2] rfl rfl rfl rfl ⟨rfl, rfl, rfl, rfl, trivial⟩ ⟨rfl, rfl, rfl, trivial⟩) (fun t ht => ?_)
  refine on ?_
  refine ev_lt trivial (fun h3 => ?_) (fun h3 => ?_)
  · refine on ?_
    refine ev_lend ⟨⟨⟨trivial, by omega, by omega⟩, by omega⟩, by unfold InR; omega⟩ (t + 1) (by omega) (by omega) (Fit.of [0, 1, 2] rfl rfl rfl rfl ⟨rfl, rfl, rfl, rfl, trivial⟩ ⟨rfl, rfl, ?_, trivial⟩)
    rw [← full_set (by omega)]
    rfl
  · have ht' : t = 64 := by omega
    subst ht'
    refine on ?_
    exact retE trivial rfl () [0] rfl rfl rfl rfl ⟨_, rfl, fun ρ => rfl⟩ ⟨rfl, trivial⟩
/-- a named row, by its number -/
theorem row_hp {ρ : List Nat} {k b n cap sz : Nat} {cs : List AV} {T : TypeId} {vs : List Value} {h : Hp} (hb : ρ[k]? = some b) (H : (Chunk.cells cs T).hp ρ k h) (hcs : AV.evc [] cs = some vs) (hlen : vs.length = cap * sz) (hnc : n ≤ cap) (hcm : cap ≤ maxLen) : ownH T sz (some ⟨b, 0, none⟩) n cap (vs.take (n * sz)) h := by
  obtain ⟨b', us, h1, h2, h3⟩ := H
  rw [hb] at h1; cases h1
  have h4 := AV.evc_ext [] ρ _ _ hcs
  rw [List.nil_append, h2] at h4
  cases h4
  refine ⟨?_, .inr ⟨_, vs.toArray, rfl, h3, hnc, hcm, by simpa using hlen, by simp⟩⟩
  rw [List.length_take, hlen]
  exact Nat.min_eq_left (Nat.mul_le_mul_right _ hnc)
abbrev givenL : List Stp := [⟨1, 1, 0, 2, 0, fullL 1, []⟩, ⟨3, 6, 0, 0, 0, Z64, [0, 1]⟩]
abbrev givenD (q : Nat) : List Ds := [(none, 0), (some ⟨q, 0, none⟩, 2)]
theorem c60 : ACtr Try.prog 60 1 [] [] (fun _ : Nat × Nat => 2) (fun x => SA (some ⟨x.1, 0, none⟩) 2 2)
    (fun x => [(1, frm (ownH 40 70 (some ⟨x.1, 0, none⟩) 2 2 (encS givenL (givenD x.2)))), (2, frm (ownH 5 1 (some ⟨x.2, 0, none⟩) 2 2 (U8 [0, 1])))]) := by
  refine act Try.func60 rfl rfl rfl A60_ok rfl fun F w0 bb => ?_
  refine on ?_
  refine call_ab trivial (c61 1) [] rfl rfl rfl rfl rfl trivial (fun _ => rfl) (fun _ => rfl) (fun _ => trivial) (fun _ => ?_)
  refine on ?_
  refine ret_in trivial ?_
  refine name_is 1 rfl (fun _ => trivial) fun q => ?_
  refine rechunkB 2 3 (c := 1) (b := q) (.cells ([IA 1, IA 1, IA 0, IA 2, IA 0, .run .u8 64 (fullL 1), SA none 0 0] ++ [IA 3, IA 6, IA 0, IA 0, IA 0, .run .u8 64 Z64, SA (some ⟨q, 0, none⟩) 2 2]) 40) rfl rfl rfl trivial (fun ρ h hb hh => ?_) ?_
  · obtain ⟨b', vs, h1, h2, h3⟩ := hh
    exact ⟨b', vs, h1, by rw [← h2]; simp [AV.evc, AV.ev1, hb], h3⟩
  refine name_is 2 rfl (fun _ => trivial) fun g => ?_
  refine recast 0 4 (c := 2) (b := g) (v' := SA (some ⟨g, 0, none⟩) 2 2) rfl rfl rfl trivial (fun ρ hb => by simp [AV.ev, hb]) ?_
  refine rechunkB 2 4 (c := 2) (b := g) (frm (ownH 40 70 (some ⟨g, 0, none⟩) 2 2 (encS givenL (givenD q)))) rfl rfl rfl trivial (fun ρ h hb hh => ⟨[], rfl, ?_⟩) ?_
  · have := row_hp (n := 2) (cap := 2) (sz := 70) hb hh (vs := encS givenL (givenD q)) rfl rfl (by decide) (by decide)
    exact this
  refine rechunkB 1 3 (c := 1) (b := q) (frm (ownH 5 1 (some ⟨q, 0, none⟩) 2 2 (U8 [0, 1]))) rfl rfl rfl trivial (fun ρ h hb hh => ⟨[], rfl, ?_⟩) ?_
  · exact row_hp (n := 2) (cap := 2) (sz := 1) hb hh (vs := U8 [0, 1]) rfl rfl (by decide) (by decide)
  refine ret_out ?_
  exact retE trivial rfl (g, q) [0, 2, 1] rfl rfl rfl rfl ⟨_, rfl, fun ρ => rfl⟩ ⟨rfl, rfl, rfl, trivial⟩
abbrev cv0 : CV := ⟨0, List.replicate 32 0⟩
abbrev cel0 : Cl := ⟨[], cv0⟩
structure TwX where
  x : Nat
  a : Nat
  b : Nat
  c : Nat
abbrev TwX.B (t : TwX) (l : List Stp) : Bs := ⟨[t.a, t.b], t.c, l, false, []⟩
theorem mems_two {a b : Nat} {M N : Mem} {h : Hp} (H : star (memH M a) (memH N b) h) : memsH [a, b] [M, N] h := star_mono (fun _ y => y) (fun y hy => star_emp hy) H
theorem c18 (sa : Option Addr) (sc : Nat) (l : List Stp) (ds : List Ds) (R : HProp) (hR : ∀ h, R h → rdA sa (encS l ds) h) (hnil : sa = none → l.length = 0 ∧ sc = 0) (hds : dsOk l ds) (hl : l.length ≤ 1000) (P : HProp) (hP : ∀ h, P h → ∀ (t : Nat) (h1 : t < l.length) (h2 : t < ds.length), rdA ds[t].1 (U8 l[t].picks) h) :
    ACtr Try.prog 18 3 [SA sa l.length sc] [(1, frm R), (2, frm P)] (fun _ : TwX => 3) (fun t => .tup [PA t.x, PA t.a, PA t.b])
      (fun t => [(1, frm R), (2, frm P), (3, frm (busH (t.B l) t.x)), (4, frm (memsH [t.a, t.b] [newM 4, newM 4])), (5, frm (celH cel0 t.c))]) := by
  refine act Try.func18 rfl rfl rfl A18_ok rfl fun F w0 bb => ?_
  refine on ?_
  refine call_ab trivial (c62 4 (by decide) (by decide)) [] rfl rfl rfl rfl rfl trivial (fun _ => rfl) (fun _ => rfl) (fun _ => trivial) (fun a => ?_)
  refine on ?_
  refine call_ab trivial (c62 4 (by decide) (by decide)) [] rfl rfl rfl rfl rfl trivial (fun _ => rfl) (fun _ => rfl) (fun _ => trivial) (fun b => ?_)
  refine on ?_
  refine call_ab trivial (c63 cv0 ⟨by decide, by decide, by decide⟩) [] rfl rfl rfl rfl rfl trivial (fun _ => rfl) (fun _ => rfl) (fun _ => trivial) (fun c => ?_)
  refine onc ?_
  refine ev_more trivial ?_
  refine own_named (sz := 1) 29 6 rfl rfl (vs := [a, b].map ptrV) rfl rfl rfl (Nat.le_refl _) (by decide) (fun _ => trivial) (fun g => ?_)
  refine joinF 3 4 (A := memsH [a, b] [newM 4, newM 4]) rfl rfl rfl rfl rfl trivial (fun h hh => mems_two (star_comm hh)) ?_
  refine on ?_
  refine call_ab trivial (c64 [a, b] c [newM 4, newM 4] cel0 (some ⟨g, 0, none⟩) 2 (ownH 42 1 (some ⟨g, 0, none⟩) 2 2 ([a, b].map ptrV)) (fun h hh => ownH_rd hh) (by simp) (by simp) sa sc l ds R hR hnil hds hl P hP) [6, 3, 5, 1, 2] rfl rfl rfl rfl rfl ⟨rfl, rfl, rfl, rfl, rfl, trivial⟩ (fun _ => rfl) (fun _ => rfl) (fun _ => trivial) (fun x => ?_)
  refine on ?_
  refine ev_ne trivial (fun h => absurd rfl h) (fun _ => ?_)
  refine on ?_
  exact retE trivial rfl ⟨x, a, b, c⟩ [0, 1, 2, 7, 3, 5] rfl rfl rfl rfl ⟨_, rfl, fun ρ => rfl⟩ ⟨rfl, rfl, rfl, rfl, rfl, rfl, trivial⟩
end Go.Proofs.Ytolcobhaghdfcaa
