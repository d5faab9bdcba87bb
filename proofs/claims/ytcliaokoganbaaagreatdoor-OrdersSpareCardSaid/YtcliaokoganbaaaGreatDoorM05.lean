/-
  Part 5 of the proof of the card: lemmas and walks, joined by mergeclaim.py out of the texts CA.
-/
import Derived.Test.YtcliaokoganbaaaGreatDoorM04
import Derived.Shelf.Abstract
set_option linter.unusedVariables false
set_option linter.unusedSimpArgs false
namespace Go.Proofs.YtcliaokoganbaaaGreatDoor
open Go Go.RowKit Go.Shelf Go.Proofs.YtcliaokoganbaaaGreatDoorW.PrintWords Go.Proofs.YtcliaokoganbaaaGreatDoorW.PrintLast Go.Proofs.YtcliaokoganbaaaGreatDoorW.PrintMore
open Tq (Lot Box Want Take Ord Op)

/-! ### slices.IndexFunc, ContainsFunc, at wants and takes -/
/-- The first index at which p holds, or -1. -/
def idxF {α : Type} (p : α → Bool) (l : List α) : Int := match l.findIdx? p with | some i => (i : Int) | none => -1
theorem idxF_hit {α : Type} (p : α → Bool) (l : List α) (k : Nat) (x : α) (hk : l[k]? = some x) (hx : p x = true) (hno : ∀ j y, j < k → l[j]? = some y → p y = false) : idxF p l = (k : Int) := by
  unfold idxF
  have : l.findIdx? p = some k := by
    rw [List.findIdx?_eq_some_iff_getElem]
    obtain ⟨h1, h2⟩ := List.getElem?_eq_some_iff.1 hk
    exact ⟨h1, by rw [h2]; exact hx, fun j hj => by rw [hno j _ hj (List.getElem?_eq_getElem (by omega))]; simp⟩
  rw [this]
theorem idxF_miss {α : Type} (p : α → Bool) (l : List α) (hno : ∀ j y, j < l.length → l[j]? = some y → p y = false) : idxF p l = -1 := by
  unfold idxF
  have : l.findIdx? p = none := by
    rw [List.findIdx?_eq_none_iff]
    intro x hx
    obtain ⟨j, hj, rfl⟩ := List.getElem_of_mem hx
    exact hno j _ hj (List.getElem?_eq_getElem hj)
  rw [this]
theorem idxF_any {α : Type} (p : α → Bool) (l : List α) : decide (0 ≤ idxF p l) = l.any p := by
  unfold idxF
  cases h : l.findIdx? p with
  | none =>
    rw [List.findIdx?_eq_none_iff] at h
    have : l.any p = false := by rw [List.any_eq_false]; intro x hx; rw [h x hx]; simp
    rw [this]; decide
  | some i =>
    rw [List.findIdx?_eq_some_iff_getElem] at h
    obtain ⟨h1, h2, _⟩ := h
    have : l.any p = true := by rw [List.any_eq_true]; exact ⟨_, List.getElem_mem h1, h2⟩
    rw [this]; simp

theorem ret_int' {a b : Int} (h : a = b) : Ending.returned (.int .i64 a) = .returned (.int .i64 b) := by rw [h]
theorem ret_bool {a b : Bool} (h : a = b) : Ending.returned (.bool a) = .returned (.bool b) := by rw [h]
def wV (x : Want) : Value := .agg #[.int .i64 x.kind, .int .i64 x.count, .int .i64 x.til]
def tV (x : Take) : Value := .agg #[.int .i64 x.box, .int .i64 x.n]
/-- What is asked of a function on wants that is handed on. -/
def PredW (g : Nat) (lb : Array Value) (p : Want → Bool) (ws : List Want) (w : World) : Prop :=
  ∀ (W : World) (x : Want), x ∈ ws → Below w.heap.size w W → Calls Tryz.prog g (#[.agg #[.int .i64 x.kind, .int .i64 x.count, .int .i64 x.til]] ++ lb) W fun e w' => e = .returned (.bool (p x)) ∧ Below w.heap.size w w'

set_option maxHeartbeats 1000000 in
theorem f100_any (g : Nat) (lb : Array Value) (p : Want → Bool) (A : Option Addr) (c : Nat) (ws : List Want) (w : World) (hC : kW.C w A ws.length ws)
    (eg : ∀ args w, (callFunc g args).run Tryz.prog w = .ok (.enter g args) w) (hp : PredW g lb p ws w) :
    Calls Tryz.prog 100 #[.slice A ws.length c, .func (.func g) #[] lb] w fun e w' => e = .returned (.int .i64 (idxF p ws)) ∧ Below w.heap.size w w' := by
  have hu := Tryz.underlying100
  have hmax := hC.2.1
  have HC := Aside0.mk hC
  have HP := Aside0.mk hp
  clear hC hp
  go_enter Tryz.func100, Tryz.ntmps100
  go_wp2
  go_loopg [5, 8] ws.length (fun gg _ s8 wr => ∃ kk : Nat, kk ≤ ws.length ∧ ws.length - kk ≤ gg ∧ s8 = .int .i64 kk ∧ Aside (Below w.heap.size w wr) ∧ Aside (∀ j y, j < kk → ws[j]? = some y → p y = false))
  case atStart => exact ⟨0, Nat.zero_le _, by omega, rfl, Below.refl _ w, fun j y hj => absurd hj (Nat.not_lt_zero _)⟩
  case round =>
    obtain ⟨kk, hkk, hg, rfl, BW, A1⟩ := hrel
    by_cases hlt : kk < ws.length
    · have hltz : (kk : Int) < (ws.length : Int) := by omega
      have hget : ws[kk]? = some ws[kk] := List.getElem?_eq_getElem hlt
      have hmem := List.getElem_mem hlt
      generalize ws[kk] = y at hget hmem
      obtain ⟨ad, rfl, hc0, hc1, hc2⟩ := at_W HC.out kk y hget
      have hcall := HP.out wr y hmem BW.out
      have c0 := cell_on BW.out hc0
      have c1 := cell_on BW.out hc1
      have c2 := cell_on BW.out hc2
      have B := Aside0.mk hget
      clear hget hc0 hc1 hc2 hmem
      cases hq : p y with
      | true =>
        rw [hq] at hcall
        go_wp2_with (go_at_fn g; refine hcall.mono ?_; rintro e w' ⟨rfl, hb'⟩)
        go_ret
        refine ⟨?_, hb'⟩
        rw [idxF_hit p ws kk y B.out hq A1.out]
        rfl
      | false =>
        rw [hq] at hcall
        have Q := Aside0.mk hq
        clear hq
        go_wp2_with (go_at_fn g; refine hcall.mono ?_; rintro e w' ⟨rfl, hb'⟩)
        go_roundg (ws.length - (kk + 1))
        case measure => omega
        case rel =>
          refine ⟨kk + 1, by omega, by omega, by go_num, hb', (show Aside _ from fun j x hj hx => ?_)⟩
          by_cases e : j = kk
          · exact (congrArg p (Option.some.inj (B.out.symm.trans (e ▸ hx)))).symm.trans Q.out
          · exact A1.out j x (by omega) hx
    · have hltz : ¬ (kk : Int) < (ws.length : Int) := by omega
      have E := Aside0.mk (show kk = ws.length by omega)
      go_wp2
      go_ret
      refine ⟨?_, BW.out⟩
      rw [idxF_miss p ws (fun j y hj => A1.out j y (by rw [E.out]; exact hj))]
      rfl

set_option maxHeartbeats 400000 in
theorem f51_any (g : Nat) (lb : Array Value) (p : Want → Bool) (A : Option Addr) (c : Nat) (ws : List Want) (w : World) (hC : kW.C w A ws.length ws)
    (eg : ∀ args w, (callFunc g args).run Tryz.prog w = .ok (.enter g args) w) (hp : PredW g lb p ws w) :
    Calls Tryz.prog 51 #[.slice A ws.length c, .func (.func g) #[] lb] w fun e w' => e = .returned (.bool (ws.any p)) ∧ Below w.heap.size w w' := by
  have hcon := f100_any g lb p A c ws w hC eg hp
  rw [← idxF_any]
  clear hC eg hp
  generalize idxF p ws = i at hcon ⊢
  go_enter Tryz.func51, Tryz.ntmps51
  go_wp2_with (go_at_call 100; refine hcon.mono ?_; rintro e w' ⟨rfl, hb'⟩)
  go_ret
  exact ⟨rfl, hb'⟩

/-! ### The predicates on wants -/
set_option maxHeartbeats 400000 in
theorem f98_any (x : Want) (w : World) : Calls Tryz.prog 98 #[.agg #[.int .i64 x.kind, .int .i64 x.count, .int .i64 x.til]] w fun e w' =>
    e = .returned (.bool (!Tq.rightWant x)) ∧ Below w.heap.size w w' := by
  have hB : ∀ o, Below w.heap.size w (w.alloc o) := fun o => below_alloc (Below.refl _ _) o
  have hr : (!Tq.rightWant x) = (decide (x.kind < 0) || decide (x.count < 1) || decide (20000 < x.count) || decide (x.til < 0) || decide (20000 < x.til)) := by
    unfold Tq.rightWant
    rw [Bool.eq_iff_iff]
    simp only [Bool.not_eq_true', Bool.and_eq_false_iff, decide_eq_false_iff_not, Bool.or_eq_true, decide_eq_true_eq]
    omega
  rw [hr]
  clear hr
  obtain ⟨k, c, u⟩ := x
  go_enter Tryz.func98, Tryz.ntmps98
  go_wp2
  all_goals (go_ret; refine ⟨ret_bool ?_, hB _⟩; first | rfl | (rw [Bool.eq_iff_iff]; simp; omega))

set_option maxHeartbeats 400000 in
theorem f53_any (x : Want) (w : World) : Calls Tryz.prog 53 #[.agg #[.int .i64 x.kind, .int .i64 x.count, .int .i64 x.til]] w fun e w' =>
    e = .returned (.bool (Tq.rightWant x)) ∧ Below w.heap.size w w' := by
  have hB : ∀ o, Below w.heap.size w (w.alloc o) := fun o => below_alloc (Below.refl _ _) o
  have hr : Tq.rightWant x = (decide (0 ≤ x.kind) && (decide (1 ≤ x.count) && decide (x.count ≤ 20000)) && (decide (0 ≤ x.til) && decide (x.til ≤ 20000))) := by
    unfold Tq.rightWant
    rw [Bool.eq_iff_iff]
    simp only [Bool.and_eq_true, decide_eq_true_eq]
    omega
  rw [hr]
  clear hr
  obtain ⟨k, c, u⟩ := x
  go_enter Tryz.func53, Tryz.ntmps53
  go_wp2
  all_goals (go_ret; refine ⟨ret_bool ?_, hB _⟩; first | rfl | (rw [Bool.eq_iff_iff]; simp; omega))

set_option maxHeartbeats 400000 in
theorem f52_any (x : Want) (w : World) : Calls Tryz.prog 52 #[.agg #[.int .i64 x.kind, .int .i64 x.count, .int .i64 x.til]] w fun e w' =>
    e = .returned (.bool (!Tq.rightWant x)) ∧ Below w.heap.size w w' := by
  have hc := f53_any x (w.alloc (.cells #[.int .i64 x.kind, .int .i64 x.count, .int .i64 x.til] 100))
  have hB := below_alloc (Below.refl w.heap.size w) (.cells #[.int .i64 x.kind, .int .i64 x.count, .int .i64 x.til] 100)
  generalize Tq.rightWant x = r at hc ⊢
  go_enter Tryz.func52, Tryz.ntmps52
  go_wp2_with (go_at_call 53; refine hc.mono ?_; rintro e w' ⟨rfl, hb'⟩)
  go_ret
  exact ⟨rfl, below_then hB hB.size hb'⟩
theorem pred98 (ws : List Want) (w : World) : PredW 98 #[] (fun x => !Tq.rightWant x) ws w := fun W x _ hb => (f98_any x W).mono fun e w' h => ⟨h.1, below_then hb hb.size h.2⟩
theorem pred52 (ws : List Want) (w : World) : PredW 52 #[] (fun x => !Tq.rightWant x) ws w := fun W x _ hb => (f52_any x W).mono fun e w' h => ⟨h.1, below_then hb hb.size h.2⟩

set_option maxHeartbeats 400000 in
/-- orders.rightWants -/
theorem f48_any (A : Option Addr) (c : Nat) (ws : List Want) (due : Int) (w : World) (hC : kW.C w A ws.length ws) :
    Calls Tryz.prog 48 #[.slice A ws.length c, .int .i64 due] w fun e w' => e = .returned (.bool (Tq.rightWants ws due)) ∧ Below w.heap.size w w' := by
  have hcon := f51_any 98 #[] (fun x => !Tq.rightWant x) A c ws w hC (enters_of Tryz.func98 (by kernel_rfl) rfl) (pred98 ws w)
  have hr : Tq.rightWants ws due = (decide (1 ≤ ws.length) && decide (ws.length ≤ 20) && decide (0 ≤ due) && decide (due ≤ 20000) && !ws.any (fun x => !Tq.rightWant x)) := by
    unfold Tq.rightWants
    congr 1
    rw [List.not_any_eq_all_not]; simp
  rw [hr]
  clear hr hC
  generalize ws.any (fun x => !Tq.rightWant x) = r at hcon ⊢
  generalize ws.length = n at hcon ⊢
  go_enter Tryz.func48, Tryz.ntmps48
  go_wp2_with (go_at_call 51; refine hcon.mono ?_; rintro e w' ⟨rfl, hb'⟩)
  all_goals (go_ret; refine ⟨ret_bool ?_, ?_⟩)
  all_goals first | exact hb' | exact Below.refl _ _ | skip
  all_goals first | rfl | (exfalso; omega) | (rw [Bool.eq_iff_iff]; simp; omega)
end Go.Proofs.YtcliaokoganbaaaGreatDoor
