/- Contracts of slices.Clone, at the types that are met. -/
import Derived.Test.YtolcobhaghdfcaaBus5
namespace Go.Proofs.Ytolcobhaghdfcaa
open Sx Go
set_option maxRecDepth 100000
theorem c80 (a : Option Addr) (n cap : Nat) (us : List Value) (R : HProp) (hR : ∀ h, R h → rdA a us h) (hnil : a = none → n = 0 ∧ cap = 0) (hus : us.length = n * 68) (hone : ∀ u ∈ us, u.oneCell' = true) (hbd : n * 96 ≤ 140737488355328 ∧ n ≤ maxLen) :
    ACtr Try.prog 80 2 [SA a n cap] [(1, frm R)] (fun _ : Option Addr × Nat => 1) (fun x => SA x.1 n x.2) (fun x => [(1, frm R), (2, frm (ownH 64 68 x.1 n x.2 us))]) := by
  refine act Try.func80 rfl rfl rfl A80_ok rfl fun F w0 bb => ?_
  cases a with
  | none =>
    obtain ⟨rfl, rfl⟩ := hnil rfl
    have hu : us = [] := List.eq_nil_of_length_eq_zero (by rw [hus, Nat.zero_mul])
    subst hu
    refine on ?_
    refine ret_in trivial ?_
    refine newE trivial ?_
    refine weakF 2 (B := ownH 64 68 none 0 0 []) rfl rfl trivial (fun h _ => ownH_nil _ _ h) ?_
    refine ret_out ?_
    exact retE trivial rfl (none, 0) [0, 1, 2] rfl rfl rfl rfl ⟨_, rfl, fun ρ => rfl⟩ ⟨rfl, rfl, rfl, trivial⟩
  | some ad =>
    refine onc ?_
    refine ev_more trivial ?_
    refine own_named (sz := 68) 5 2 rfl rfl (vs := []) rfl rfl rfl (Nat.le_refl _) (by decide) (fun _ => trivial) (fun b => ?_)
    refine on ?_
    refine ev_appA (us := us) (m := n) row61 trivial 2 rfl rfl rfl rfl (src_abs (R := R) 1 rfl rfl rfl rfl (fun e => by cases e) hR) hus hone (by rw [Nat.zero_add]; exact hbd) (fun _ => trivial) (fun a' cap' => ?_)
    refine on ?_
    refine retE trivial rfl (a', cap') [0, 1, 2] rfl rfl rfl rfl ⟨_, rfl, fun ρ => ?_⟩ ⟨rfl, rfl, ?_, trivial⟩
    · rw [Nat.zero_add n]; rfl
    · rw [Nat.zero_add n, List.take_nil, List.nil_append]; rfl
theorem row36 : RowTy Try.prog 36 40 70 128 := rowTy_of (by kernel_rfl) (by kernel_rfl) (by decide)
theorem c113 (a : Option Addr) (n cap : Nat) (us : List Value) (R : HProp) (hR : ∀ h, R h → rdA a us h) (hnil : a = none → n = 0 ∧ cap = 0) (hus : us.length = n * 70) (hone : ∀ u ∈ us, u.oneCell' = true) (hbd : n * 128 ≤ 140737488355328 ∧ n ≤ maxLen) :
    ACtr Try.prog 113 2 [SA a n cap] [(1, frm R)] (fun _ : Option Addr × Nat => 1) (fun x => SA x.1 n x.2) (fun x => [(1, frm R), (2, frm (ownH 40 70 x.1 n x.2 us))]) := by
  refine act Try.func113 rfl rfl rfl A113_ok rfl fun F w0 bb => ?_
  cases a with
  | none =>
    obtain ⟨rfl, rfl⟩ := hnil rfl
    have hu : us = [] := List.eq_nil_of_length_eq_zero (by rw [hus, Nat.zero_mul])
    subst hu
    refine on ?_
    refine ret_in trivial ?_
    refine newE trivial ?_
    refine weakF 2 (B := ownH 40 70 none 0 0 []) rfl rfl trivial (fun h _ => ownH_nil _ _ h) ?_
    refine ret_out ?_
    exact retE trivial rfl (none, 0) [0, 1, 2] rfl rfl rfl rfl ⟨_, rfl, fun ρ => rfl⟩ ⟨rfl, rfl, rfl, trivial⟩
  | some ad =>
    refine onc ?_
    refine ev_more trivial ?_
    refine own_named (sz := 70) 5 2 rfl rfl (vs := []) rfl rfl rfl (Nat.le_refl _) (by decide) (fun _ => trivial) (fun b => ?_)
    refine on ?_
    refine ev_appA (us := us) (m := n) row36 trivial 2 rfl rfl rfl rfl (src_abs (R := R) 1 rfl rfl rfl rfl (fun e => by cases e) hR) hus hone (by rw [Nat.zero_add]; exact hbd) (fun _ => trivial) (fun a' cap' => ?_)
    refine on ?_
    refine retE trivial rfl (a', cap') [0, 1, 2] rfl rfl rfl rfl ⟨_, rfl, fun ρ => ?_⟩ ⟨rfl, rfl, ?_, trivial⟩
    · rw [Nat.zero_add n]; rfl
    · rw [Nat.zero_add n, List.take_nil, List.nil_append]; rfl
theorem row38 : RowTy Try.prog 38 5 1 1 := rowTy_of (by kernel_rfl) (by kernel_rfl) (by decide)
theorem c114 (a : Option Addr) (n cap : Nat) (us : List Value) (R : HProp) (hR : ∀ h, R h → rdA a us h) (hnil : a = none → n = 0 ∧ cap = 0) (hus : us.length = n * 1) (hone : ∀ u ∈ us, u.oneCell' = true) (hbd : n * 1 ≤ 140737488355328 ∧ n ≤ maxLen) :
    ACtr Try.prog 114 2 [SA a n cap] [(1, frm R)] (fun _ : Option Addr × Nat => 1) (fun x => SA x.1 n x.2) (fun x => [(1, frm R), (2, frm (ownH 5 1 x.1 n x.2 us))]) := by
  refine act Try.func114 rfl rfl rfl A114_ok rfl fun F w0 bb => ?_
  cases a with
  | none =>
    obtain ⟨rfl, rfl⟩ := hnil rfl
    have hu : us = [] := List.eq_nil_of_length_eq_zero (by rw [hus, Nat.zero_mul])
    subst hu
    refine on ?_
    refine ret_in trivial ?_
    refine newE trivial ?_
    refine weakF 2 (B := ownH 5 1 none 0 0 []) rfl rfl trivial (fun h _ => ownH_nil _ _ h) ?_
    refine ret_out ?_
    exact retE trivial rfl (none, 0) [0, 1, 2] rfl rfl rfl rfl ⟨_, rfl, fun ρ => rfl⟩ ⟨rfl, rfl, rfl, trivial⟩
  | some ad =>
    refine onc ?_
    refine ev_more trivial ?_
    refine own_named (sz := 1) 5 2 rfl rfl (vs := []) rfl rfl rfl (Nat.le_refl _) (by decide) (fun _ => trivial) (fun b => ?_)
    refine on ?_
    refine ev_appA (us := us) (m := n) row38 trivial 2 rfl rfl rfl rfl (src_abs (R := R) 1 rfl rfl rfl rfl (fun e => by cases e) hR) hus hone (by rw [Nat.zero_add]; exact hbd) (fun _ => trivial) (fun a' cap' => ?_)
    refine on ?_
    refine retE trivial rfl (a', cap') [0, 1, 2] rfl rfl rfl rfl ⟨_, rfl, fun ρ => ?_⟩ ⟨rfl, rfl, ?_, trivial⟩
    · rw [Nat.zero_add n]; rfl
    · rw [Nat.zero_add n, List.take_nil, List.nil_append]; rfl
theorem row46 : RowTy Try.prog 46 42 1 8 := rowTy_of (by kernel_rfl) (by kernel_rfl) (by decide)
theorem c115 (a : Option Addr) (n cap : Nat) (us : List Value) (R : HProp) (hR : ∀ h, R h → rdA a us h) (hnil : a = none → n = 0 ∧ cap = 0) (hus : us.length = n * 1) (hone : ∀ u ∈ us, u.oneCell' = true) (hbd : n * 8 ≤ 140737488355328 ∧ n ≤ maxLen) :
    ACtr Try.prog 115 2 [SA a n cap] [(1, frm R)] (fun _ : Option Addr × Nat => 1) (fun x => SA x.1 n x.2) (fun x => [(1, frm R), (2, frm (ownH 42 1 x.1 n x.2 us))]) := by
  refine act Try.func115 rfl rfl rfl A115_ok rfl fun F w0 bb => ?_
  cases a with
  | none =>
    obtain ⟨rfl, rfl⟩ := hnil rfl
    have hu : us = [] := List.eq_nil_of_length_eq_zero (by rw [hus, Nat.zero_mul])
    subst hu
    refine on ?_
    refine ret_in trivial ?_
    refine newE trivial ?_
    refine weakF 2 (B := ownH 42 1 none 0 0 []) rfl rfl trivial (fun h _ => ownH_nil _ _ h) ?_
    refine ret_out ?_
    exact retE trivial rfl (none, 0) [0, 1, 2] rfl rfl rfl rfl ⟨_, rfl, fun ρ => rfl⟩ ⟨rfl, rfl, rfl, trivial⟩
  | some ad =>
    refine onc ?_
    refine ev_more trivial ?_
    refine own_named (sz := 1) 5 2 rfl rfl (vs := []) rfl rfl rfl (Nat.le_refl _) (by decide) (fun _ => trivial) (fun b => ?_)
    refine on ?_
    refine ev_appA (us := us) (m := n) row46 trivial 2 rfl rfl rfl rfl (src_abs (R := R) 1 rfl rfl rfl rfl (fun e => by cases e) hR) hus hone (by rw [Nat.zero_add]; exact hbd) (fun _ => trivial) (fun a' cap' => ?_)
    refine on ?_
    refine retE trivial rfl (a', cap') [0, 1, 2] rfl rfl rfl rfl ⟨_, rfl, fun ρ => ?_⟩ ⟨rfl, rfl, ?_, trivial⟩
    · rw [Nat.zero_add n]; rfl
    · rw [Nat.zero_add n, List.take_nil, List.nil_append]; rfl
theorem c67 (a : Option Addr) (n cap : Nat) (us : List Value) (R : HProp) (hR : ∀ h, R h → rdA a us h) (hnil : a = none → n = 0 ∧ cap = 0) (hus : us.length = n * 65) (hone : ∀ u ∈ us, u.oneCell' = true) (hbd : n * 72 ≤ 140737488355328 ∧ n ≤ maxLen) :
    ACtr Try.prog 67 2 [SA a n cap] [(1, frm R)] (fun _ : Option Addr × Nat => 1) (fun x => SA x.1 n x.2) (fun x => [(1, frm R), (2, frm (ownH 145 65 x.1 n x.2 us))]) := by
  refine act Try.func67 rfl rfl rfl A67_ok rfl fun F w0 bb => ?_
  cases a with
  | none =>
    obtain ⟨rfl, rfl⟩ := hnil rfl
    have hu : us = [] := List.eq_nil_of_length_eq_zero (by rw [hus, Nat.zero_mul])
    subst hu
    refine on ?_
    refine ret_in trivial ?_
    refine newE trivial ?_
    refine weakF 2 (B := ownH 145 65 none 0 0 []) rfl rfl trivial (fun h _ => ownH_nil _ _ h) ?_
    refine ret_out ?_
    exact retE trivial rfl (none, 0) [0, 1, 2] rfl rfl rfl rfl ⟨_, rfl, fun ρ => rfl⟩ ⟨rfl, rfl, rfl, trivial⟩
  | some ad =>
    refine onc ?_
    refine ev_more trivial ?_
    refine own_named (sz := 65) 5 2 rfl rfl (vs := []) rfl rfl rfl (Nat.le_refl _) (by decide) (fun _ => trivial) (fun b => ?_)
    refine on ?_
    refine ev_appA (us := us) (m := n) row138 trivial 2 rfl rfl rfl rfl (src_abs (R := R) 1 rfl rfl rfl rfl (fun e => by cases e) hR) hus hone (by rw [Nat.zero_add]; exact hbd) (fun _ => trivial) (fun a' cap' => ?_)
    refine on ?_
    refine retE trivial rfl (a', cap') [0, 1, 2] rfl rfl rfl rfl ⟨_, rfl, fun ρ => ?_⟩ ⟨rfl, rfl, ?_, trivial⟩
    · rw [Nat.zero_add n]; rfl
    · rw [Nat.zero_add n, List.take_nil, List.nil_append]; rfl
theorem row139 : RowTy Try.prog 139 137 1 8 := rowTy_of (by kernel_rfl) (by kernel_rfl) (by decide)
theorem c68 (a : Option Addr) (n cap : Nat) (us : List Value) (R : HProp) (hR : ∀ h, R h → rdA a us h) (hnil : a = none → n = 0 ∧ cap = 0) (hus : us.length = n * 1) (hone : ∀ u ∈ us, u.oneCell' = true) (hbd : n * 8 ≤ 140737488355328 ∧ n ≤ maxLen) :
    ACtr Try.prog 68 2 [SA a n cap] [(1, frm R)] (fun _ : Option Addr × Nat => 1) (fun x => SA x.1 n x.2) (fun x => [(1, frm R), (2, frm (ownH 137 1 x.1 n x.2 us))]) := by
  refine act Try.func68 rfl rfl rfl A68_ok rfl fun F w0 bb => ?_
  cases a with
  | none =>
    obtain ⟨rfl, rfl⟩ := hnil rfl
    have hu : us = [] := List.eq_nil_of_length_eq_zero (by rw [hus, Nat.zero_mul])
    subst hu
    refine on ?_
    refine ret_in trivial ?_
    refine newE trivial ?_
    refine weakF 2 (B := ownH 137 1 none 0 0 []) rfl rfl trivial (fun h _ => ownH_nil _ _ h) ?_
    refine ret_out ?_
    exact retE trivial rfl (none, 0) [0, 1, 2] rfl rfl rfl rfl ⟨_, rfl, fun ρ => rfl⟩ ⟨rfl, rfl, rfl, trivial⟩
  | some ad =>
    refine onc ?_
    refine ev_more trivial ?_
    refine own_named (sz := 1) 5 2 rfl rfl (vs := []) rfl rfl rfl (Nat.le_refl _) (by decide) (fun _ => trivial) (fun b => ?_)
    refine on ?_
    refine ev_appA (us := us) (m := n) row139 trivial 2 rfl rfl rfl rfl (src_abs (R := R) 1 rfl rfl rfl rfl (fun e => by cases e) hR) hus hone (by rw [Nat.zero_add]; exact hbd) (fun _ => trivial) (fun a' cap' => ?_)
    refine on ?_
    refine retE trivial rfl (a', cap') [0, 1, 2] rfl rfl rfl rfl ⟨_, rfl, fun ρ => ?_⟩ ⟨rfl, rfl, ?_, trivial⟩
    · rw [Nat.zero_add n]; rfl
    · rw [Nat.zero_add n, List.take_nil, List.nil_append]; rfl
end Go.Proofs.Ytolcobhaghdfcaa
