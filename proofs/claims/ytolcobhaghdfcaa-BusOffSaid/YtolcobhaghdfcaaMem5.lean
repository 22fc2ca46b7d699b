/- Contracts of package member: Mark, Back. -/
import Derived.Test.YtolcobhaghdfcaaMem4
namespace Go.Proofs.Ytolcobhaghdfcaa
open Sx Go
set_option maxRecDepth 100000
theorem row139' : RowTy Try.prog 139 137 1 8 := rowTy_of (by kernel_rfl) (by kernel_rfl) (by decide)
theorem imgs_snoc {g : Img} {r : Nat} : ∀ {l : List Img} {rs : List Nat} {h : Hp}, star (imgs l rs) (imgA g r) h → imgs (l ++ [g]) (rs ++ [r]) h
  | [], [], h, H => by
    obtain ⟨p, q, d, lp, lq, hp, hq⟩ := H
    exact star_comm ⟨p, q, d, lp, lq, hp, hq⟩
  | [], _ :: _, h, H => by obtain ⟨p, q, _, _, _, hp, _⟩ := H; exact absurd hp id
  | _ :: _, [], h, H => by obtain ⟨p, q, _, _, _, hp, _⟩ := H; exact absurd hp id
  | a :: l, b :: rs, h, H => star_mono (fun _ y => y) (fun _ y => imgs_snoc y) (star_assoc H)
theorem imgs_len : ∀ {l : List Img} {rs : List Nat} {h : Hp}, imgs l rs h → l.length = rs.length
  | [], [], _, _ => rfl
  | [], _ :: _, _, H => absurd H id
  | _ :: _, [], _, H => absurd H id
  | _ :: l, _ :: rs, _, H => by
    obtain ⟨p, q, _, _, _, _, hq⟩ := H
    simp [imgs_len hq]
abbrev mapV (r : Nat) : Value := .map (some r)
def markE (M : Mem) : Int := if M.marks.length = 64 then 7 else 0
def markN (M : Mem) : Int := if M.marks.length = 64 then 0 else M.marks.length
def markM (M : Mem) : Mem := if M.marks.length = 64 then M else { M with marks := M.marks ++ [M.seen] }
theorem c148 (M : Mem) (b : Nat) (hm : M.marks.length ≤ 1000) : ACtr Try.prog 148 2 [PA b] [(1, frm (memH M b))] (fun _ : Unit => 0) (fun _ => .tup [IA (markN M), IA (markE M)]) (fun _ => [(1, frm (memH (markM M) b))]) := by
  refine act Try.func148 rfl rfl rfl A148_ok rfl fun F w0 bb => ?_
  refine on ?_
  refine call_ab trivial (c65 M b) [1] rfl rfl rfl rfl rfl ⟨rfl, trivial⟩ (fun _ => rfl) (fun _ => rfl) (fun _ => trivial) (fun _ => ?_)
  refine memE 1 0 rfl rfl rfl (fun _ => trivial) fun x ok => ?_
  obtain ⟨xs, xd, la, lc, ma, mc⟩ := x
  refine on ?_
  refine ev_lt trivial (fun h1 => ?_) (fun h1 => ?_)
  · refine on ?_
    refine memR trivial 1 2 M _ ok rfl rfl rfl rfl rfl rfl rfl rfl ?_
    refine retE trivial rfl () [0, 1] rfl rfl rfl rfl ⟨_, rfl, fun ρ => ?_⟩ ⟨rfl, ?_, trivial⟩
    · rw [markN, markE, if_pos (by omega), if_pos (by omega)]; rfl
    · rw [markM, if_pos (by omega)]; rfl
  · have h1' : ¬ M.marks.length = 64 := by omega
    refine exF 7 (X := List Nat) (B := fun rs => star (ownH 137 1 ma M.marks.length mc (rs.map mapV)) (imgs M.marks rs)) rfl rfl (fun _ => trivial) (fun h hh => hh) fun rs => ?_
    refine splitF 7 (B := imgs M.marks rs) (C := ownH 137 1 ma M.marks.length mc (rs.map mapV)) rfl rfl trivial (fun h hh => star_comm hh) ?_
    refine pureF 8 rfl rfl (q := M.marks.length = rs.length) (fun h hh => imgs_len hh) fun hml => ?_
    refine on ?_
    refine draw_ok mixed trivial O148_5_ok [(2, _)] Q148_5_ok ⟨rfl, trivial⟩ rfl (fun ρ0 => ?_)
    refine on ?_
    refine call_ab trivial (c66 M.seen xs) [4] rfl rfl rfl rfl rfl ⟨rfl, trivial⟩ (fun _ => rfl) (fun _ => rfl) (fun _ => ⟨rfl, trivial⟩) (fun r' => ?_)
    refine on ?_
    refine ev_appA (us := [mapV r']) row139' trivial 7 rfl rfl rfl rfl (src_named (cs := [MA r']) (vs := [mapV r']) rfl rfl rfl rfl (fun j u h => by simpa using h)) rfl (fun u hu => by simp only [List.mem_singleton] at hu; subst hu; rfl) ⟨by omega, by unfold maxLen; omega⟩ (fun _ => ⟨rfl, trivial⟩) (fun a' cap' => ?_)
    refine on ?_
    refine ret_in ⟨trivial, by unfold InR; omega⟩ ?_
    refine joinF 8 9 (A := imgs (M.marks ++ [M.seen]) (rs ++ [r'])) rfl rfl rfl rfl rfl trivial (fun h hh => imgs_snoc (star_comm hh)) ?_
    refine joinF 7 8 (A := marksH a' (M.marks.length + 1) cap' (M.marks ++ [M.seen])) rfl rfl rfl rfl rfl trivial (fun h hh => ⟨rs ++ [r'], star_comm (by rw [List.map_append]; exact hh)⟩) ?_
    have e : markM M = { M with marks := M.marks ++ [M.seen] } := by rw [markM, if_neg h1']
    refine memL 1 2 (markM M) ⟨xs, xd, la, lc, a', cap'⟩ ?_ ?_ rfl ?_ ?_ ?_ ?_ rfl rfl trivial ?_
    · rw [e]; exact ok
    · rw [e]; simp only [memCs, List.length_append, List.length_cons, List.length_nil]; rfl
    · rw [e]; rfl
    · rw [e]; rfl
    · rw [e]; rfl
    · rw [e]; simp only [List.length_append, List.length_cons, List.length_nil]; rfl
    refine ret_out ?_
    refine retE trivial rfl () [0, 1] rfl rfl rfl rfl ⟨_, rfl, fun ρ => ?_⟩ ⟨rfl, rfl, trivial⟩
    rw [markN, markE, if_neg h1', if_neg h1']
    rw [show (((M.marks.length + 1 : Nat) : Int) - 1) = (M.marks.length : Int) by omega]; rfl
/-- all images but one -/
def imgsX : List Img → List Nat → Nat → HProp
  | _ :: l, _ :: rs, 0 => imgs l rs
  | g :: l, r :: rs, t + 1 => star (imgA g r) (imgsX l rs t)
  | _, _, _ => lift False
theorem imgs_out : ∀ {l : List Img} {rs : List Nat} {t : Nat} {h : Hp} (h1 : t < l.length) (h2 : t < rs.length), imgs l rs h → star (imgA l[t] rs[t]) (imgsX l rs t) h
  | _ :: _, _ :: _, 0, h, _, _, H => H
  | _ :: l, _ :: rs, t + 1, h, h1, h2, H => star_left_comm (star_mono (fun _ y => y) (fun y hy => imgs_out (by simpa using h1) (by simpa using h2) hy) H)
theorem imgs_in : ∀ {l : List Img} {rs : List Nat} {t : Nat} {h : Hp} (h1 : t < l.length) (h2 : t < rs.length), star (imgA l[t] rs[t]) (imgsX l rs t) h → imgs l rs h
  | _ :: _, _ :: _, 0, h, _, _, H => H
  | _ :: l, _ :: rs, t + 1, h, h1, h2, H => star_mono (fun _ y => y) (fun y hy => imgs_in (by simpa using h1) (by simpa using h2) hy) (star_left_comm H)
end Go.Proofs.Ytolcobhaghdfcaa
