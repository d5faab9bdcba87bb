/-
  Part 13 of the proof of the card: lemmas and walks, joined by mergeclaim.py out of the texts EA.
-/
import Derived.BigQuiet
import Derived.Deep.QuietTactic
import Derived.Test.YtcliaokoganbaaaGreatDoorM12
set_option linter.unusedVariables false
set_option linter.unusedSimpArgs false
namespace Go.Proofs.YtcliaokoganbaaaGreatDoor
open Go Go.RowKit Go.Shelf Go.Proofs.YtcliaokoganbaaaGreatDoorW.PrintWords Go.Proofs.YtcliaokoganbaaaGreatDoorW.PrintLast Go.Proofs.YtcliaokoganbaaaGreatDoorW.PrintMore
open Tq (Lot Box Want Take Ord Op)

/-! ### The order of boxes: cmp.Compare and the closure -/
theorem f120_any (x : Int) (w : World) : Calls Tryz.prog 120 #[.int .i64 x] w fun e w' => e = .returned (.bool false) ∧ w' = w := by
  go_enter Tryz.func120, Tryz.ntmps120
  go_wp2
  go_ret
  exact ⟨by simp, rfl⟩
def cmpI (x y : Int) : Int := if x < y then -1 else if y < x then 1 else 0
set_option maxRecDepth 100000 in
theorem f104_any (x y : Int) (w : World) : Calls Tryz.prog 104 #[.int .i64 x, .int .i64 y] w fun e w' => e = .returned (.int .i64 (cmpI x y)) ∧ w' = w := by
  unfold cmpI
  have h1 := fun W => f120_any x W
  have h2 := fun W => f120_any y W
  go_enter Tryz.func104, Tryz.ntmps104
  by_cases hl : x < y
  · go_wp2_with (first | (go_at_call 120; refine (h1 _).mono ?_; rintro e w' ⟨rfl, rfl⟩) | (go_at_call 120; refine (h2 _).mono ?_; rintro e w' ⟨rfl, rfl⟩))
    go_ret
    simp [hl]
  · by_cases hg : y < x
    · go_wp2_with (first | (go_at_call 120; refine (h1 _).mono ?_; rintro e w' ⟨rfl, rfl⟩) | (go_at_call 120; refine (h2 _).mono ?_; rintro e w' ⟨rfl, rfl⟩))
      go_ret
      simp [hl, hg]
    · go_wp2_with (first | (go_at_call 120; refine (h1 _).mono ?_; rintro e w' ⟨rfl, rfl⟩) | (go_at_call 120; refine (h2 _).mono ?_; rintro e w' ⟨rfl, rfl⟩))
      go_ret
      simp [hl, hg]

set_option maxRecDepth 100000 in
set_option maxHeartbeats 1000000 in
theorem f103_any (gl gb : Nat) (AL AB : Option Addr) (cl cb : Nat) (lots : List Lot) (boxes : List Box) (w : World) (hl : w.cell? ⟨gl, 0, none⟩ = some (.slice AL lots.length cl)) (hb : w.cell? ⟨gb, 0, none⟩ = some (.slice AB boxes.length cb))
    (hL : kL.C w AL lots.length lots) (hB : kB.C w AB boxes.length boxes) (x y : Nat) (hx : x < boxes.length) (hy : y < boxes.length) (hxl : 0 ≤ (Tq.boxAt boxes x).lot ∧ (Tq.boxAt boxes x).lot < lots.length) (hyl : 0 ≤ (Tq.boxAt boxes y).lot ∧ (Tq.boxAt boxes y).lot < lots.length) :
    Calls Tryz.prog 103 #[.int .i64 x, .int .i64 y, .pointer (some ⟨gl, 0, none⟩), .pointer (some ⟨gb, 0, none⟩)] w fun e w' => e = .returned (.int .i64 (cmpI (Tq.expAt lots boxes x) (Tq.expAt lots boxes y))) ∧ ∃ q, w' = w.drewN q := by
  have hgx : boxes[x]? = some (Tq.boxAt boxes x) := by unfold Tq.boxAt; rw [List.getD_eq_getElem?_getD, List.getElem?_eq_getElem hx]; rfl
  have hgy : boxes[y]? = some (Tq.boxAt boxes y) := by unfold Tq.boxAt; rw [List.getD_eq_getElem?_getD, List.getElem?_eq_getElem hy]; rfl
  unfold Tq.expAt Tq.lotAt
  generalize Tq.boxAt boxes x = bx at *
  generalize Tq.boxAt boxes y = bb at *
  obtain ⟨ad, rfl, x0, _, _⟩ := at_B hB x bx hgx
  obtain ⟨ad', e, y0, _, _⟩ := at_B hB y bb hgy
  injection e with e; subst e
  obtain ⟨i, hi⟩ : ∃ i : Nat, bx.lot = i := ⟨bx.lot.toNat, by omega⟩
  obtain ⟨j, hj⟩ : ∃ j : Nat, bb.lot = j := ⟨bb.lot.toNat, by omega⟩
  rw [hi] at x0 hxl ⊢
  rw [hj] at y0 hyl ⊢
  rw [Int.toNat_natCast, Int.toNat_natCast]
  have hil : i < lots.length := by omega
  have hjl : j < lots.length := by omega
  have hgi : lots[i]? = some (lots.getD i default) := by rw [List.getD_eq_getElem?_getD, List.getElem?_eq_getElem hil]; rfl
  have hgj : lots[j]? = some (lots.getD j default) := by rw [List.getD_eq_getElem?_getD, List.getElem?_eq_getElem hjl]; rfl
  generalize lots.getD i default = li at *
  generalize lots.getD j default = lj at *
  obtain ⟨al, rfl, _, i1, _⟩ := at_L hL i li hgi
  obtain ⟨al', e, _, j1, _⟩ := at_L hL j lj hgj
  injection e with e; subst e
  have hxz : (x : Int) < (boxes.length : Int) := by omega
  have hyz : (y : Int) < (boxes.length : Int) := by omega
  have hiz : (i : Int) < (lots.length : Int) := by omega
  have hjz : (j : Int) < (lots.length : Int) := by omega
  have hc := fun q => f104_any li.expiry lj.expiry (w.drewN q)
  clear hL hB hgx hgy hgi hgj hi hj
  go_enter Tryz.func103, Tryz.ntmps103
  go_wp2_with fail
  go_quiet (first | (go_at_call 104; refine Calls.quiet_of_same (hc _)))
  go_wp2
  go_ret
  exact ⟨rfl, _, rfl⟩
end Go.Proofs.YtcliaokoganbaaaGreatDoor
