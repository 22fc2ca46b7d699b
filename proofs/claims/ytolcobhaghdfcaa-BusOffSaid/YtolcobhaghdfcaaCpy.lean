/- Contract of member.Copy (of a member without marks). -/
import Derived.Test.YtolcobhaghdfcaaAwk
namespace Go.Proofs.Ytolcobhaghdfcaa
open Sx Go
set_option maxRecDepth 100000
theorem encW_one (l : List Wr) : ∀ u ∈ encW l, u.oneCell' = true := fun u hu => by
  obtain ⟨w, _, hw⟩ := List.mem_flatMap.1 hu
  exact WA_one w u hw
theorem ownH_none {E sz n cap : Nat} {xs : List Value} {h : Hp} {a : Option Addr} (H : ownH E sz a n cap xs h) : a = none → n = 0 ∧ cap = 0 := fun e => by
  obtain ⟨_, ⟨_, h1, h2⟩ | ⟨g, cur, h1, _⟩⟩ := H
  · exact ⟨h1, h2⟩
  · rw [e] at h1; cases h1
theorem marks_own {a : Option Addr} {cap : Nat} {h : Hp} (H : marksH a 0 cap [] h) : ownH 137 1 a 0 cap [] h := by
  obtain ⟨rs, p, q, _, lp, _, hp, hq⟩ := H
  have : rs = [] := by
    cases rs with
    | nil => rfl
    | cons _ _ => exact hq.elim
  subst this
  obtain ⟨h1, h2 | ⟨g, cur, h2, h3, h4⟩⟩ := hp
  · exact ⟨h1, .inl h2⟩
  · exact ⟨h1, .inr ⟨g, cur, h2, lp _ _ h3, h4⟩⟩
theorem own_marks {a : Option Addr} {cap : Nat} {h : Hp} (H : ownH 137 1 a 0 cap [] h) : marksH a 0 cap [] h := ⟨[], star_emp H⟩
theorem c19 (M : Mem) (b : Nat) (hm : M.marks = []) (hlen : M.log.length ≤ 1000000) : ACtr Try.prog 19 2 [PA b] [(1, frm (memH M b))] (fun _ : Nat => 1) (fun b' => PA b') (fun b' => [(1, frm (memH M b)), (2, frm (memH M b'))]) := by
  refine act Try.func19 rfl rfl rfl A19_ok rfl fun F w0 bb => ?_
  refine on ?_
  refine call_ab trivial (c65 M b) [1] rfl rfl rfl rfl rfl ⟨rfl, trivial⟩ (fun _ => rfl) (fun _ => rfl) (fun _ => trivial) (fun _ => ?_)
  refine memE 1 0 rfl rfl rfl (fun _ => trivial) fun x ok => ?_
  obtain ⟨n, seen, dur, log, marks, fails, hurt⟩ := M
  dsimp only at hm hlen
  subst hm
  obtain ⟨xs, xd, la, lc, ma, mc⟩ := x
  refine pureF 6 rfl rfl (q := la = none → log.length = 0 ∧ lc = 0) (fun h hh => ownH_none hh) fun hla => ?_
  refine weakF 7 (B := ownH 137 1 ma 0 mc []) rfl rfl trivial (fun h hh => marks_own hh) ?_
  refine pureF 7 rfl rfl (q := ma = none → 0 = 0 ∧ mc = 0) (fun h hh => ownH_none hh) fun hma => ?_
  refine on ?_
  refine draw_ok mixed trivial O19_4_ok [(2, _)] Q19_4_ok ⟨rfl, trivial⟩ rfl (fun ρ0 => ?_)
  refine on ?_
  refine call_ab trivial (c66 seen xs) [4] rfl rfl rfl rfl rfl ⟨rfl, trivial⟩ (fun _ => rfl) (fun _ => rfl) (fun _ => ⟨rfl, trivial⟩) (fun r1 => ?_)
  refine on ?_
  refine call_ab trivial (c66 dur xd) [5] rfl rfl rfl rfl rfl ⟨rfl, trivial⟩ (fun _ => rfl) (fun _ => rfl) (fun _ => ⟨rfl, trivial⟩) (fun r2 => ?_)
  refine on ?_
  refine call_ab trivial (c67 la log.length lc (encW log) (ownH 145 65 la log.length lc (encW log)) (fun h hh => ownH_rd hh) hla (encW_len ok.2.2) (encW_one log) ⟨by omega, by unfold maxLen; omega⟩) [6] rfl rfl rfl rfl rfl ⟨rfl, trivial⟩ (fun _ => rfl) (fun _ => rfl) (fun _ => ⟨rfl, trivial⟩) (fun r3 => ?_)
  refine on ?_
  refine call_ab trivial (c68 ma 0 mc [] (ownH 137 1 ma 0 mc []) (fun h hh => ownH_rd hh) hma rfl (fun u hu => by cases hu) ⟨by decide, by decide⟩) [7] rfl rfl rfl rfl rfl ⟨rfl, trivial⟩ (fun _ => rfl) (fun _ => rfl) (fun _ => trivial) (fun r4 => ?_)
  refine on ?_
  refine ret_in trivial ?_
  refine weakF 7 (B := marksH ma 0 mc []) rfl rfl trivial (fun h hh => own_marks hh) ?_
  refine memL 1 2 ⟨n, seen, dur, log, [], fails, hurt⟩ ⟨xs, xd, la, lc, ma, mc⟩ ok rfl rfl rfl rfl rfl rfl rfl rfl trivial ?_
  refine weakF 12 (B := marksH r4.1 0 r4.2 []) rfl rfl trivial (fun h hh => own_marks hh) ?_
  refine by_number 2 8 rfl rfl (fun _ => trivial) fun b' => ?_
  refine leave 9 8 13 [9, 10, 11, 12] (A := memH ⟨n, seen, dur, log, [], fails, hurt⟩ b') (cs := memCs ⟨n, seen, dur, log, [], fails, hurt⟩ ⟨r1, r2, r3.1, r3.2, r4.1, r4.2⟩) (Rs := memRs ⟨n, seen, dur, log, [], fails, hurt⟩ ⟨r1, r2, r3.1, r3.2, r4.1, r4.2⟩) rfl rfl ⟨rfl, rfl, rfl, rfl, trivial⟩ ⟨_, rfl⟩ rfl rfl rfl rfl rfl trivial
    (fun h hh => ⟨⟨r1, r2, r3.1, r3.2, r4.1, r4.2⟩, ok, hh⟩) ?_
  refine ret_out ?_
  exact retE trivial rfl b' [0, 1, 9] rfl rfl rfl rfl ⟨_, rfl, fun ρ => rfl⟩ ⟨rfl, rfl, rfl, trivial⟩
end Go.Proofs.Ytolcobhaghdfcaa
