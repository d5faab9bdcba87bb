/-
  Part 14 of the proof of the card: lemmas and walks, joined by mergeclaim.py out of the texts EB, EC, ED.
-/
import Derived.Test.YtcliaokoganbaaaGreatDoorM13
import Derived.BigRegion
set_option linter.unusedVariables false
set_option linter.unusedSimpArgs false
namespace Go.Proofs.YtcliaokoganbaaaGreatDoor
open Go Go.RowKit Go.Shelf Go.Proofs.YtcliaokoganbaaaGreatDoorW.PrintWords Go.Proofs.YtcliaokoganbaaaGreatDoorW.PrintLast Go.Proofs.YtcliaokoganbaaaGreatDoorW.PrintMore
open Tq (Lot Box Want Take Ord Op)

/-! ### Insertion sort of bodies -/
def nats (l : List Nat) : List Value := l.map fun (n : Nat) => .int .i64 (n : Int)
theorem nats_len (l : List Nat) : (nats l).length = l.length := by simp [nats]
theorem nats_get {l : List Nat} {j x : Nat} (h : l[j]? = some x) : (nats l)[j]? = some (.int .i64 (x : Int)) := by simp [nats, h]
theorem nats_set (l : List Nat) (j x : Nat) : (nats l).set j (.int .i64 (x : Int)) = nats (l.set j x) := by simp [nats, List.map_set]
theorem cmpI_lt (x y : Int) : cmpI x y < 0 ↔ x < y := by
  unfold cmpI; split
  · simp [*]
  · split <;> simp <;> omega
/-- Inserting goes on from the right. -/
theorem insR_go (key : Nat → Int) (x y : Nat) (r : List Nat) (h : key x < key y) : Tq.insR key x (y :: r) = y :: Tq.insR key x r := by simp [Tq.insR, h]
theorem insR_stop (key : Nat → Int) (x y : Nat) (r : List Nat) (h : ¬ key x < key y) : Tq.insR key x (y :: r) = x :: y :: r := by simp [Tq.insR, h]

set_option maxRecDepth 100000 in
set_option maxHeartbeats 4000000 in
theorem f131_any (v1 v2 : Value) (key : Nat → Int) (B gr c : Nat) (l : List Nat) (w : World) (hl : l.length ≤ 4611686018427387903) (hrow : w.ownsRow B 3 1 (.slice (some ⟨gr, 0, none⟩) l.length c) l.length (nats l))
    (hcmp : ∀ W, Below B w W → ∀ x ∈ l, ∀ y ∈ l, Calls Tryz.prog 103 #[.int .i64 (x : Int), .int .i64 (y : Int), v1, v2] W fun e w' => e = .returned (.int .i64 (cmpI (key x) (key y))) ∧ ∃ q, w' = W.drewN q) :
    Calls Tryz.prog 131 #[.slice (some ⟨gr, 0, none⟩) l.length c, .int .i64 0, .int .i64 l.length, .func (.func 103) #[] #[v1, v2]] w fun e w' =>
      e = .returned (.tuple #[]) ∧ w'.ownsRow B 3 1 (.slice (some ⟨gr, 0, none⟩) l.length c) l.length (nats (Tq.isort key l)) ∧ Below B w w' := by
  have HC := Aside0.mk hcmp
  have HR := Aside0.mk hrow
  clear hcmp hrow
  go_enter Tryz.func131, Tryz.ntmps131
  go_wp2
  go_loopw [8, 9] (fun s8 _ wr => ∃ (i : Nat) (acc rest : List Nat), s8 = .int .i64 (i : Int) ∧ 1 ≤ i ∧ (acc.length = i ∧ acc.length + rest.length = l.length ∨ (l = [] ∧ acc = [] ∧ rest = [])) ∧ Aside0 (Tq.isortR key acc rest = Tq.isortR key [] l ∧ (∀ x ∈ acc.reverse ++ rest, x ∈ l)) ∧ Aside0 (wr.ownsRow B 3 1 (.slice (some ⟨gr, 0, none⟩) l.length c) l.length (nats (acc.reverse ++ rest))) ∧ Aside0 (Below B w wr))
    (fun s8 _ _ => l.length + 1 - (intOf s8).toNat)
  case atStart =>
    cases l with
    | nil => exact ⟨1, [], [], rfl, Nat.le_refl _, .inr ⟨rfl, rfl, rfl⟩, ⟨⟨rfl, fun x hx => hx⟩⟩, HR, ⟨Below.refl _ _⟩⟩
    | cons x r => exact ⟨1, [x], r, rfl, Nat.le_refl _, .inl ⟨rfl, by simp; omega⟩, ⟨⟨rfl, fun x hx => by simpa using hx⟩⟩, HR, ⟨Below.refl _ _⟩⟩
  case round =>
    obtain ⟨i, acc, rest, rfl, hi1, hlen, HS, RW, BW⟩ := hrel
    by_cases hlt : i < l.length
    · have hltz : (i : Int) < (l.length : Int) := by omega
      have hlen' : acc.length = i ∧ acc.length + rest.length = l.length := by rcases hlen with h | ⟨rfl, _⟩; exact h; simp at hlt
      obtain ⟨x, rest', rfl⟩ : ∃ x r, rest = x :: r := by cases rest with | nil => simp at hlen'; omega | cons x r => exact ⟨x, r, rfl⟩
      clear hlen
      have hx : x ∈ l := HS.out.2 x (by simp)
      go_wp2
      go_loopw [9] (fun s9 wr => ∃ (j : Nat) (pre post : List Nat), s9 = .int .i64 (j : Int) ∧ pre.length = j ∧ post.length + j = i ∧ Aside0 (post ++ Tq.insR key x pre = Tq.insR key x acc ∧ (∀ y ∈ pre, y ∈ acc) ∧ (∀ y ∈ post, y ∈ acc)) ∧ Aside0 (wr.ownsRow B 3 1 (.slice (some ⟨gr, 0, none⟩) l.length c) l.length (nats (pre.reverse ++ x :: (post.reverse ++ rest')))) ∧ Aside0 (Below B w wr))
        (fun s9 _ => (intOf s9).toNat)
      case atStart => exact ⟨i, acc, [], rfl, hlen'.1, by simp, ⟨⟨rfl, fun y h => h, fun y h => by simp at h⟩⟩, by simpa using RW, BW⟩
      case round =>
        clear RW BW
        obtain ⟨j, pre, post, rfl, hj, hpj, HI, RW, BW⟩ := hrel
        have done : (pre = [] ∨ ∃ y r, pre = y :: r ∧ ¬ key x < key y) → Tq.insR key x acc = post ++ x :: pre := fun hs => by
          rw [← HI.out.1]
          rcases hs with rfl | ⟨y, r, rfl, hn⟩
          · rfl
          · rw [insR_stop _ _ _ _ hn]
        have fin : ∀ (wr1 : World), wr1.ownsRow B 3 1 (.slice (some ⟨gr, 0, none⟩) l.length c) l.length (nats (pre.reverse ++ x :: (post.reverse ++ rest'))) → (pre = [] ∨ ∃ y r, pre = y :: r ∧ ¬ key x < key y) →
            Aside0 (Tq.isortR key (post ++ x :: pre) rest' = Tq.isortR key [] l ∧ (∀ z ∈ (post ++ x :: pre).reverse ++ rest', z ∈ l)) ∧ Aside0 (wr1.ownsRow B 3 1 (.slice (some ⟨gr, 0, none⟩) l.length c) l.length (nats ((post ++ x :: pre).reverse ++ rest'))) := fun wr1 h hs => by
          refine ⟨⟨?_, fun z hz => HS.out.2 z ?_⟩, ⟨by simpa using h⟩⟩
          · rw [← done hs]; exact HS.out.1
          · simp only [List.reverse_append, List.reverse_cons, List.append_assoc, List.mem_append, List.mem_reverse, List.mem_cons, List.not_mem_nil, or_false] at hz ⊢
            rcases hz with h | h | h | h
            · exact .inl (HI.out.2.1 z h)
            · exact .inr (.inl h)
            · exact .inl (HI.out.2.2 z h)
            · exact .inr (.inr h)
        have FIN := Aside0.mk fin
        clear done fin
        cases pre with
        | nil =>
          have hj0 : j = 0 := by simpa using hj.symm
          subst hj0
          go_wp2
          go_quiet (fail)
          obtain ⟨F1, F2⟩ := FIN.out (wr.drewN nq) RW.out (by simp)
          have BN := Aside0.mk (show Below B w (wr.drewN nq) from pw_below_drewN BW.out nq)
          clear FIN
          go_wp2
          go_roundw
          case rel => exact ⟨i + 1, post ++ [x], rest', by go_num, by omega, .inl ⟨by simp; omega, by simp at hlen' ⊢; omega⟩, F1, F2, BN⟩
          case measure => simp [intOf]; omega
        | cons y pre' =>
          obtain ⟨jp, rfl⟩ : ∃ jp, j = jp + 1 := ⟨pre'.length, by simpa using hj.symm⟩
          have hjp : pre'.length = jp := by simpa using hj
          have hy : y ∈ l := HS.out.2 y (by have := HI.out.2.1 y (by simp); simp [this])
          have hrl : (pre'.reverse ++ y :: x :: (post.reverse ++ rest')).length = l.length := by simp at hlen' ⊢; omega
          have e0 : (y :: pre').reverse ++ x :: (post.reverse ++ rest') = pre'.reverse ++ y :: x :: (post.reverse ++ rest') := by simp
          rw [e0] at RW
          have cy : wr.cell? ⟨gr, jp, none⟩ = some (.int .i64 (y : Int)) := by
            rw [RW.out.cellAt jp (by rw [Nat.mul_one, ← hrl]; simp; omega)]
            exact nats_get (by rw [List.getElem?_append_right (by simp; omega)]; simp [hjp])
          have cx : wr.cell? ⟨gr, jp + 1, none⟩ = some (.int .i64 (x : Int)) := by
            rw [RW.out.cellAt (jp + 1) (by rw [Nat.mul_one, ← hrl]; simp; omega)]
            exact nats_get (by rw [List.getElem?_append_right (by simp; omega)]; simp [hjp])
          have fy := RW.out.frozenAt jp
          have fx := RW.out.frozenAt (jp + 1)
          have hwp : IntKind.i64.wrap (jp : Int) = (jp : Int) := by rw [IntKind.wrap_i64]; omega
          have hjl : jp + 1 < l.length := by rw [← hrl]; simp; omega
          have jz : (jp : Int) + 1 < (l.length : Int) := by omega
          have jz1 : (jp : Int) < (l.length : Int) := by omega
          have jz0 : (0 : Int) < (jp : Int) + 1 := by omega
          have p0 : (0 : Int) ≤ (jp : Int) + 1 := by omega
          have e0 : ((jp : Int) + 1).toNat = jp + 1 := by omega
          have hc : ∀ q, Calls Tryz.prog 103 #[.int .i64 (x : Int), .int .i64 (y : Int), v1, v2] (wr.drewN q) fun e w' => e = .returned (.int .i64 (cmpI (key x) (key y))) ∧ ∃ q', w' = (wr.drewN q).drewN q' := fun q => HC.out _ (pw_below_drewN BW.out q) x hx y hy
          by_cases hlv : key x < key y
          · have hv : cmpI (key x) (key y) < 0 := (cmpI_lt _ _).2 hlv
            have hd : decide (cmpI (key x) (key y) < 0) = true := decide_eq_true hv
            go_wp2_with fail
            go_quiet (first | (go_at_call 103; refine Calls.quiet_of (hc _)))
            go_wp2_with fail
            have RW2 := Aside0.mk (pw_own_drewN RW.out nq)
            have BW2 := Aside0.mk (show Below B w (wr.drewN nq) from pw_below_drewN BW.out nq)
            have cy2 : (wr.drewN nq).cell? ⟨gr, jp, none⟩ = some (.int .i64 (y : Int)) := cy
            have cx2 : (wr.drewN nq).cell? ⟨gr, jp + 1, none⟩ = some (.int .i64 (x : Int)) := cx
            have fy2 := RW2.out.frozenAt jp
            have fx2 := RW2.out.frozenAt (jp + 1)
            clear cx cy fx fy hc FIN
            generalize wr.drewN nq = w2 at *
            obtain ⟨j1, hj1⟩ : ∃ j1, j1 = jp + 1 := ⟨_, rfl⟩
            rw [← hj1] at cx2 fx2 e0
            have J1 := Aside0.mk hj1
            have hne : j1 ≠ jp := by omega
            have hne2 : jp ≠ j1 := by omega
            clear hj1
            go_big_region
            have hst := (RW2.out.stored j1 (.int .i64 (y : Int))).1.stored jp (.int .i64 (x : Int))
            have e1 : ((nats (pre'.reverse ++ y :: x :: (post.reverse ++ rest'))).set j1 (.int .i64 (y : Int))).set jp (.int .i64 (x : Int)) = nats (pre'.reverse ++ x :: ((post ++ [y]).reverse ++ rest')) := by
              rw [nats_set, nats_set, J1.out, ← hjp]
              congr 1
              rw [List.set_append_right _ _ (by simp), List.set_append_right _ _ (by simp)]
              simp
            rw [e1] at hst
            have RW3 := Aside0.mk (show ((w2.setCell ⟨gr, j1, none⟩ (.int .i64 (y : Int))).setCell ⟨gr, jp, none⟩ (.int .i64 (x : Int))).drew.ownsRow B 3 1 (.slice (some ⟨gr, 0, none⟩) l.length c) l.length _ from hst.1.drew)
            have hgb := own_base RW2.out gr rfl
            have BW3 := Aside0.mk (show Below B w ((w2.setCell ⟨gr, j1, none⟩ (.int .i64 (y : Int))).setCell ⟨gr, jp, none⟩ (.int .i64 (x : Int))).drew from ((BW2.out.setCell (p := ⟨gr, j1, none⟩) hgb _).setCell (p := ⟨gr, jp, none⟩) hgb _).drew)
            have HI2 : (post ++ [y]) ++ Tq.insR key x pre' = Tq.insR key x acc ∧ (∀ z ∈ pre', z ∈ acc) ∧ (∀ z ∈ post ++ [y], z ∈ acc) := by
              refine ⟨?_, fun z hz => HI.out.2.1 z (by simp [hz]), fun z hz => ?_⟩
              · rw [← HI.out.1, insR_go _ _ _ _ hlv]; simp
              · rcases List.mem_append.1 hz with h | h
                · exact HI.out.2.2 z h
                · rw [List.mem_singleton.1 h]; exact HI.out.2.1 y (by simp)
            have HI3 := Aside0.mk HI2
            clear hst cx2 cy2 fx2 fy2 HI2 e1
            go_wp2
            go_roundw
            case rel => exact ⟨jp, pre', post ++ [y], by first | rfl | go_num, hjp, by rw [List.length_append, List.length_singleton]; omega, HI3, RW3, BW3⟩
            case measure => simp [intOf]
          · have hv : ¬ cmpI (key x) (key y) < 0 := fun h => hlv ((cmpI_lt _ _).1 h)
            have hd : decide (cmpI (key x) (key y) < 0) = false := decide_eq_false hv
            go_wp2_with fail
            go_quiet (first | (go_at_call 103; refine Calls.quiet_of (hc _)))
            obtain ⟨F1, F2⟩ := FIN.out (wr.drewN nq) (by have h := pw_own_drewN RW.out nq; simpa using h) (.inr ⟨y, pre', rfl, hlv⟩)
            have BN := Aside0.mk (show Below B w (wr.drewN nq) from pw_below_drewN BW.out nq)
            clear FIN hc cx cy fx fy
            go_wp2
            go_roundw
            case rel => exact ⟨i + 1, post ++ x :: y :: pre', rest', by go_num, by omega, .inl ⟨by simp at hpj hjp ⊢; omega, by simp at hlen' hpj hjp ⊢; omega⟩, F1, F2, BN⟩
            case measure => simp [intOf]; omega
    · have hltz : ¬ (i : Int) < (l.length : Int) := by omega
      have hrest : rest = [] := by
        rcases hlen with h | ⟨_, _, h⟩
        · exact List.eq_nil_of_length_eq_zero (by omega)
        · exact h
      subst hrest
      have hfin : Tq.isort key l = acc.reverse := by unfold Tq.isort; rw [← HS.out.1]; rfl
      go_wp2
      go_end0
      exact ⟨rfl, by have h := RW.out; simpa using h, BW.out⟩
set_option maxRecDepth 100000 in
theorem f131_nil (v1 v2 : Value) (w : World) :
    Calls Tryz.prog 131 #[.slice none 0 0, .int .i64 0, .int .i64 0, .func (.func 103) #[] #[v1, v2]] w fun e w' => e = .returned (.tuple #[]) ∧ w' = w := by
  go_enter Tryz.func131, Tryz.ntmps131
  go_wp2
  go_loopw [8] (fun s8 wr => s8 = .int .i64 1 ∧ wr = w) (fun _ _ => 0)
  case atStart => exact ⟨rfl, rfl⟩
  case round =>
    obtain ⟨rfl, rfl⟩ := hrel
    go_wp2
    go_end0
    exact ⟨rfl, rfl⟩
end Go.Proofs.YtcliaokoganbaaaGreatDoor
set_option linter.unusedVariables false
set_option linter.unusedSimpArgs false
namespace Go.Proofs.YtcliaokoganbaaaGreatDoor
open Go Go.RowKit Go.Shelf Go.Proofs.YtcliaokoganbaaaGreatDoorW.PrintWords Go.Proofs.YtcliaokoganbaaaGreatDoorW.PrintLast Go.Proofs.YtcliaokoganbaaaGreatDoorW.PrintMore
open Tq (Lot Box Want Take Ord Op)

set_option maxRecDepth 100000 in
theorem f131_same (v1 v2 : Value) (A : Option Addr) (n c : Nat) (w : World) :
    Calls Tryz.prog 131 #[.slice A n c, .int .i64 20, .int .i64 20, .func (.func 103) #[] #[v1, v2]] w fun e w' => e = .returned (.tuple #[]) ∧ w' = w := by
  go_enter Tryz.func131, Tryz.ntmps131
  go_wp2
  go_loopw [8] (fun s8 wr => s8 = .int .i64 21 ∧ wr = w) (fun _ _ => 0)
  case atStart => exact ⟨rfl, rfl⟩
  case round =>
    obtain ⟨rfl, rfl⟩ := hrel
    go_wp2
    go_end0
    exact ⟨rfl, rfl⟩
set_option maxRecDepth 100000 in
set_option maxHeartbeats 2000000 in
theorem f119_lt (v1 v2 : Value) (A : Option Addr) (n c : Nat) (hn : n < 20) (R : World → Prop) (w : World)
    (h : Calls Tryz.prog 131 #[.slice A n c, .int .i64 0, .int .i64 n, .func (.func 103) #[] #[v1, v2]] w fun e w' => e = .returned (.tuple #[]) ∧ R w') :
    Calls Tryz.prog 119 #[.slice A n c, .int .i64 n, .func (.func 103) #[] #[v1, v2]] w fun e w' => e = .returned (.tuple #[]) ∧ R w' := by
  have hz : ¬ (20 : Int) ≤ (n : Int) := by omega
  have hz2 : ¬ (20 : Int) < (n : Int) := by omega
  have hz3 : (n : Int) < 20 := by omega
  have hz4 : (n : Int) ≤ 20 := by omega
  go_enter Tryz.func119, Tryz.ntmps119
  go_wp2
  go_loopw [7, 8] (fun s7 s8 wr => s7 = .int .i64 0 ∧ s8 = .int .i64 20 ∧ wr = w) (fun _ _ _ => 0)
  case atStart => exact ⟨rfl, rfl, rfl⟩
  case round =>
    obtain ⟨rfl, rfl, rfl⟩ := hrel
    go_wp2_with (go_at_call 131; refine h.mono ?_; rintro e w1 ⟨rfl, hR⟩)
    go_loopw [6] (fun s6 wr => s6 = .int .i64 20 ∧ wr = w1) (fun _ _ => 0)
    case atStart => exact ⟨rfl, rfl⟩
    case round =>
      obtain ⟨rfl, rfl⟩ := hrel
      go_wp2
      go_end0
      exact ⟨rfl, hR⟩
set_option maxRecDepth 100000 in
set_option maxHeartbeats 2000000 in
theorem f119_20 (v1 v2 : Value) (A : Option Addr) (c : Nat) (R : World → Prop) (w : World)
    (h : Calls Tryz.prog 131 #[.slice A 20 c, .int .i64 0, .int .i64 20, .func (.func 103) #[] #[v1, v2]] w fun e w' => e = .returned (.tuple #[]) ∧ R w') :
    Calls Tryz.prog 119 #[.slice A 20 c, .int .i64 20, .func (.func 103) #[] #[v1, v2]] w fun e w' => e = .returned (.tuple #[]) ∧ R w' := by
  have hs := fun W => f131_same v1 v2 A 20 c W
  go_enter Tryz.func119, Tryz.ntmps119
  go_wp2
  go_loopw [7, 8] (fun s7 s8 wr => (s7 = .int .i64 0 ∧ s8 = .int .i64 20 ∧ wr = w) ∨ (s7 = .int .i64 20 ∧ s8 = .int .i64 40 ∧ R wr)) (fun _ s8 _ => 40 - (intOf s8).toNat)
  case atStart => exact .inl ⟨rfl, rfl, rfl⟩
  case round =>
    rcases hrel with ⟨rfl, rfl, rfl⟩ | ⟨rfl, rfl, hR⟩
    · go_wp2_with (go_at_call 131; refine h.mono ?_; rintro e w1 ⟨rfl, hR⟩)
      go_roundw
      case rel => exact .inr ⟨rfl, rfl, hR⟩
      case measure => simp [intOf]
    · go_wp2_with (go_at_call 131; refine (hs _).mono ?_; rintro e w1 ⟨rfl, rfl⟩)
      go_loopw [6] (fun s6 wr => s6 = .int .i64 20 ∧ R wr) (fun _ _ => 0)
      case atStart => exact ⟨rfl, hR⟩
      case round =>
        obtain ⟨rfl, hR2⟩ := hrel
        go_wp2
        go_end0
        exact ⟨rfl, hR2⟩
theorem f119_any (v1 v2 : Value) (A : Option Addr) (n c : Nat) (hn : n ≤ 20) (R : World → Prop) (w : World)
    (h : Calls Tryz.prog 131 #[.slice A n c, .int .i64 0, .int .i64 n, .func (.func 103) #[] #[v1, v2]] w fun e w' => e = .returned (.tuple #[]) ∧ R w') :
    Calls Tryz.prog 119 #[.slice A n c, .int .i64 n, .func (.func 103) #[] #[v1, v2]] w fun e w' => e = .returned (.tuple #[]) ∧ R w' := by
  by_cases hl : n < 20
  · exact f119_lt v1 v2 A n c hl R w h
  · obtain rfl : n = 20 := by omega
    exact f119_20 v1 v2 A c R w h
/-- slices.SortStableFunc, at most 20 bodies. -/
theorem f102_any (v1 v2 : Value) (A : Option Addr) (n c : Nat) (hn : n ≤ 20) (R : World → Prop) (w : World)
    (h : Calls Tryz.prog 131 #[.slice A n c, .int .i64 0, .int .i64 n, .func (.func 103) #[] #[v1, v2]] w fun e w' => e = .returned (.tuple #[]) ∧ R w') :
    Calls Tryz.prog 102 #[.slice A n c, .func (.func 103) #[] #[v1, v2]] w fun e w' => e = .returned (.tuple #[]) ∧ R w' := by
  have hf := f119_any v1 v2 A n c hn R w h
  go_enter Tryz.func102, Tryz.ntmps102
  go_wp2_with (go_at_call 119; refine hf.mono ?_; rintro e w1 ⟨rfl, hR⟩)
  go_end0
  exact ⟨rfl, hR⟩
end Go.Proofs.YtcliaokoganbaaaGreatDoor
set_option linter.unusedVariables false
set_option linter.unusedSimpArgs false
namespace Go.Proofs.YtcliaokoganbaaaGreatDoor
open Go Go.RowKit Go.Shelf Go.Proofs.YtcliaokoganbaaaGreatDoorW.PrintWords Go.Proofs.YtcliaokoganbaaaGreatDoorW.PrintLast Go.Proofs.YtcliaokoganbaaaGreatDoorW.PrintMore
open Tq (Lot Box Want Take Ord Op)

theorem rd_lot (lots : List Lot) (i : Int) (h0 : 0 ≤ i) (h1 : i < lots.length) : P.rd_T84 (lots.map l2s) i = l2s (Tq.lotAt lots i) := by
  unfold P.rd_T84 Tq.lotAt
  rw [List.getD_eq_getElem?_getD, List.getD_eq_getElem?_getD, List.getElem?_map, List.getElem?_eq_getElem (by omega)]; rfl
def kW1 (x : Want) : Value := .agg #[.int .i64 x.kind, .int .i64 x.count, .int .i64 x.til]
def kB1 (x : Box) : Value := .agg #[.int .i64 x.lot, .int .i64 x.count, .int .i64 x.tare]
theorem fitsP (k e : Int) (f : Bool) (a c t : Int) : P.stock_Fits.f k e f a c t = some (decide (k = a) && !f && decide (t ≤ e)) := by
  unfold P.stock_Fits.f
  by_cases hk : k = a
  · rw [if_pos hk]
    cases f with
    | true => simp
    | false => simp [hk]
  · rw [if_neg hk]; simp [hk]
/-- fits. -/
theorem f101_any (A : Option Addr) (c : Nat) (lots : List Lot) (b : Box) (x : Want) (w : World) (hC : kL.C w A lots.length lots) (hc : lots.length ≤ c) (hb : b.lot < lots.length) :
    Calls Tryz.prog 101 #[.slice A lots.length c, .agg #[.int .i64 b.lot, .int .i64 b.count, .int .i64 b.tare], .agg #[.int .i64 x.kind, .int .i64 x.count, .int .i64 x.til]] w fun e w' => e = .returned (.bool (Tq.fitsBox lots b x)) ∧ Below w.heap.size w w' := by
  have := P.stock_fits.calls A c (lots.map l2s) b.lot b.count b.tare x.kind x.count x.til (Tq.fitsBox lots b x) w (by rw [List.length_map]; exact kL_C hC) (by rw [List.length_map]; exact hc) ?_
  · rwa [List.length_map] at this
  · unfold P.stock_fits.f Tq.fitsBox
    by_cases h0 : 0 ≤ b.lot
    · rw [if_pos h0, if_pos h0, if_pos (by rw [List.length_map]; exact hb), rd_lot _ _ h0 hb, fitsP]
      simp only [l2s, Tq.fitsLot, h0, decide_true, Bool.true_and, Option.bind_some]; rfl
    · rw [if_neg h0]; simp [h0]
/-- The bodies that may serve a want, of the first k. -/
def candsTo (lots : List Lot) (boxes : List Box) (x : Want) (k : Nat) : List Nat := (List.range k).filter fun i => decide (0 < (Tq.boxAt boxes i).count) && Tq.fitsBox lots (Tq.boxAt boxes i) x
theorem candsTo_succ (lots : List Lot) (boxes : List Box) (x : Want) (k : Nat) : candsTo lots boxes x (k + 1) = candsTo lots boxes x k ++ (if (decide (0 < (Tq.boxAt boxes k).count) && Tq.fitsBox lots (Tq.boxAt boxes k) x) = true then [k] else []) := by
  unfold candsTo
  rw [List.range_succ, List.filter_append]
  by_cases h : (decide (0 < (Tq.boxAt boxes k).count) && Tq.fitsBox lots (Tq.boxAt boxes k) x) = true
  · rw [if_pos h, List.filter_cons, if_pos h]; rfl
  · rw [if_neg h, List.filter_cons, if_neg h]; rfl
theorem candsTo_le (lots : List Lot) (boxes : List Box) (x : Want) (k : Nat) : (candsTo lots boxes x k).length ≤ k := by
  unfold candsTo
  exact Nat.le_trans (List.length_filter_le _ _) (by simp)
theorem insR_length (key : Nat → Int) (x : Nat) : ∀ l : List Nat, (Tq.insR key x l).length = l.length + 1
  | [] => rfl
  | y :: l => by
    unfold Tq.insR
    split
    · rw [List.length_cons, insR_length key x l, List.length_cons]
    · rfl
theorem isortR_length (key : Nat → Int) : ∀ (l acc : List Nat), (Tq.isortR key acc l).length = acc.length + l.length
  | [], acc => by simp [Tq.isortR]
  | x :: l, acc => by rw [Tq.isortR, isortR_length key l, insR_length, List.length_cons]; omega
theorem isort_length (key : Nat → Int) (l : List Nat) : (Tq.isort key l).length = l.length := by
  unfold Tq.isort; rw [List.length_reverse, isortR_length]; simp
theorem nats_snoc (l : List Nat) (k : Nat) : nats (l ++ [k]) = nats l ++ [.int .i64 (k : Int)] := by simp [nats]

set_option maxRecDepth 100000 in
set_option maxHeartbeats 2000000 in
theorem f54_any (AL AB : Option Addr) (cl cb : Nat) (lots : List Lot) (boxes : List Box) (x : Want) (w : World) (hL : kL.C w AL lots.length lots) (hB : kB.C w AB boxes.length boxes) (hcl : lots.length ≤ cl)
    (h20 : boxes.length ≤ 20) (hlot : ∀ b ∈ boxes, b.lot < lots.length) :
    Calls Tryz.prog 54 #[.slice AL lots.length cl, .slice AB boxes.length cb, .agg #[.int .i64 x.kind, .int .i64 x.count, .int .i64 x.til]] w fun e w' => ∃ v', e = .returned v' ∧
      w'.ownsRow w.heap.size 3 1 v' (Tq.order lots boxes x).length (nats (Tq.order lots boxes x)) ∧ Below w.heap.size w w' := by
  have hu60 := Tryz.underlying60
  have hu100 := Tryz.underlying100
  have hmax := hB.2.1
  have HL := Aside0.mk hL
  have HB := Aside0.mk hB
  have HF := Aside0.mk hlot
  clear hL hB hlot
  go_enter Tryz.func54, Tryz.ntmps54
  go_wp2
  have hB3 : Below w.heap.size w (((w.alloc (.cells #[.slice AL lots.length cl] 22)).alloc (.cells #[.slice AB boxes.length cb] 23)).alloc (.cells #[.int .i64 x.kind, .int .i64 x.count, .int .i64 x.til] 100)) := (((Below.refl _ w).alloc (Nat.le_refl _) _).alloc (by simp) _).alloc (by simp; omega) _
  have k0 : (((w.alloc (.cells #[.slice AL lots.length cl] 22)).alloc (.cells #[.slice AB boxes.length cb] 23)).alloc (.cells #[.int .i64 x.kind, .int .i64 x.count, .int .i64 x.til] 100)).heap[w.heap.size]? = some (.cells #[.slice AL lots.length cl] 22 (0, 0)) := block_alloc (block_alloc (heap_alloc_at w _ _ rfl))
  have k1 : (((w.alloc (.cells #[.slice AL lots.length cl] 22)).alloc (.cells #[.slice AB boxes.length cb] 23)).alloc (.cells #[.int .i64 x.kind, .int .i64 x.count, .int .i64 x.til] 100)).heap[w.heap.size + 1]? = some (.cells #[.slice AB boxes.length cb] 23 (0, 0)) := block_alloc (heap_alloc_at _ _ _ (by simp))
  have k2 : (((w.alloc (.cells #[.slice AL lots.length cl] 22)).alloc (.cells #[.slice AB boxes.length cb] 23)).alloc (.cells #[.int .i64 x.kind, .int .i64 x.count, .int .i64 x.til] 100)).heap[w.heap.size + 1 + 1]? = some (.cells #[.int .i64 x.kind, .int .i64 x.count, .int .i64 x.til] 100 (0, 0)) := heap_alloc_at _ _ _ (by simp)
  have hsz : (((w.alloc (.cells #[.slice AL lots.length cl] 22)).alloc (.cells #[.slice AB boxes.length cb] 23)).alloc (.cells #[.int .i64 x.kind, .int .i64 x.count, .int .i64 x.til] 100)).heap.size = w.heap.size + 3 := by simp
  obtain ⟨W3, hW3⟩ : ∃ W3, ((w.alloc (.cells #[.slice AL lots.length cl] 22)).alloc (.cells #[.slice AB boxes.length cb] 23)).alloc (.cells #[.int .i64 x.kind, .int .i64 x.count, .int .i64 x.til] 100) = W3 := ⟨_, rfl⟩
  rw [hW3] at hB3 k0 k1 k2 hsz ⊢
  clear hW3
  go_loopw [7, 8, 9, 12] (fun s7 _ _ s12 wr => ∃ k : Nat, k ≤ boxes.length ∧ s12 = .int .i64 k ∧ Aside0 (wr.ownsRow W3.heap.size 3 1 s7 (candsTo lots boxes x k).length (nats (candsTo lots boxes x k))) ∧ Aside0 (Below W3.heap.size W3 wr)) (fun _ _ _ s12 _ => boxes.length - (intOf s12).toNat)
  case atStart => exact ⟨0, Nat.zero_le _, rfl, ⟨own_nil _ _ _ _⟩, ⟨Below.refl _ _⟩⟩
  case round =>
    obtain ⟨k, hk, rfl, RW, BW⟩ := hrel
    obtain ⟨A7, c7, rfl⟩ := own_slice RW.out
    by_cases hlt : k < boxes.length
    · have hltz : (k : Int) < (boxes.length : Int) := by omega
      have hgb : boxes[k]? = some (Tq.boxAt boxes k) := by unfold Tq.boxAt; rw [List.getD_eq_getElem?_getD, List.getElem?_eq_getElem hlt]; rfl
      have hbl := HF.out _ (List.mem_of_getElem? hgb)
      have hsu := candsTo_succ lots boxes x k
      have hle := candsTo_le lots boxes x k
      generalize Tq.boxAt boxes k = b at hgb hbl hsu
      have hbw := BW.out.size
      have hCB := Kd.C_below (Kd.C_below HB.out hB3) BW.out
      obtain ⟨ad, rfl, b0, b1, b2⟩ := at_B hCB k b hgb
      have hb0 : wr.cell? ⟨w.heap.size, 0, none⟩ = some (.slice AL lots.length cl) := (blk_facts ((BW.out.block _ (by omega)).trans k0)).1 0
      have n0 : w.heap.size ≠ wr.heap.size := by omega
      have n2 : w.heap.size + 1 + 1 ≠ wr.heap.size := by omega
      have hw := blk_facts ((BW.out.block _ (by omega)).trans k2)
      have w0 : wr.cell? ⟨w.heap.size + 1 + 1, 0, none⟩ = some (.int .i64 x.kind) := hw.1 0
      have w1 : wr.cell? ⟨w.heap.size + 1 + 1, 1, none⟩ = some (.int .i64 x.count) := hw.1 1
      have w2 : wr.cell? ⟨w.heap.size + 1 + 1, 2, none⟩ = some (.int .i64 x.til) := hw.1 2
      have hfit := fun W (hW : Below wr.heap.size wr W) => f101_any AL cl lots b x W (Kd.C_below (Kd.C_below (Kd.C_below HL.out hB3) BW.out) hW) hcl hbl
      have hbA : Below wr.heap.size wr (wr.alloc (.cells #[.int .i64 b.lot, .int .i64 b.count, .int .i64 b.tare] 60)) := below_alloc (Below.refl _ _) _
      have hbl0 := blk_facts (heap_alloc_at wr (.cells #[.int .i64 b.lot, .int .i64 b.count, .int .i64 b.tare] 60) _ rfl)
      have q0 := cell_on hbA hb0
      have q1 := cell_on hbA w0
      have q2 := cell_on hbA w1
      have q3 := cell_on hbA w2
      have r0 : (wr.alloc (.cells #[.int .i64 b.lot, .int .i64 b.count, .int .i64 b.tare] 60)).cell? ⟨wr.heap.size, 0, none⟩ = some (.int .i64 b.lot) := hbl0.1 0
      have r1 : (wr.alloc (.cells #[.int .i64 b.lot, .int .i64 b.count, .int .i64 b.tare] 60)).cell? ⟨wr.heap.size, 1, none⟩ = some (.int .i64 b.count) := hbl0.1 1
      have r2 : (wr.alloc (.cells #[.int .i64 b.lot, .int .i64 b.count, .int .i64 b.tare] 60)).cell? ⟨wr.heap.size, 2, none⟩ = some (.int .i64 b.tare) := hbl0.1 2
      clear hgb hw hCB hb0 w0 w1 w2 hbl0 n0 n2
      by_cases hc : 0 < b.count
      · cases hfb : Tq.fitsBox lots b x with
        | true =>
          rw [hfb] at hfit hsu
          simp only [hc, decide_true, Bool.and_self, if_true] at hsu
          have hsz7 : ((nats (candsTo lots boxes x k)).length + 1) * 8 ≤ 140737488355328 := by rw [nats_len]; omega
          have hln : (nats (candsTo lots boxes x k)).length = (candsTo lots boxes x k).length := nats_len _
          go_wp2_with (first
            | (go_at_call 101; refine (hfit _ hbA).mono ?_; rintro e w4 ⟨rfl, hb4⟩; have RW4 := pw_own_below (own_alloc RW.out (.cells #[.int .i64 b.lot, .int .i64 b.count, .int .i64 b.tare] 60)) hb4; have BW4 := (below_alloc BW.out (.cells #[.int .i64 b.lot, .int .i64 b.count, .int .i64 b.tare] 60)).trans (hb4.mono (by simp; omega)); have hs4 := BW4.size; have RW5 : w4.ownsRow W3.heap.size 3 1 (.slice A7 (candsTo lots boxes x k).length c7) (nats (candsTo lots boxes x k)).length (nats (candsTo lots boxes x k)) := hln.symm ▸ RW4)
            | (at_builtin; refine print_append W3.heap.size rfl _ _ 62 3 (.int .i64 0) 8 rfl Tryz.underlying62 (by kernel_rfl) rfl (by omega) (.slice A7 (candsTo lots boxes x k).length c7) (nats (candsTo lots boxes x k)) (.int .i64 (k : Int)) rfl rfl rfl RW5 BW4 hs4 hsz7 ?_; intro v5 w5 hown5 hB5 hg5 hat5))
          rw [← nats_snoc, ← hsu, nats_len] at hown5
          go_roundw
          case rel => exact ⟨k + 1, by omega, by go_num, ⟨hown5⟩, ⟨hB5⟩⟩
          case measure => simp [intOf]; omega
        | false =>
          rw [hfb] at hfit hsu
          simp only [hc, decide_true, Bool.and_false, Bool.false_eq_true, if_false, List.append_nil] at hsu
          go_wp2_with (go_at_call 101; refine (hfit _ hbA).mono ?_; rintro e w4 ⟨rfl, hb4⟩; have RW4 := pw_own_below (own_alloc RW.out (.cells #[.int .i64 b.lot, .int .i64 b.count, .int .i64 b.tare] 60)) hb4; have BW4 := (below_alloc BW.out (.cells #[.int .i64 b.lot, .int .i64 b.count, .int .i64 b.tare] 60)).trans (hb4.mono (by simp; omega)))
          go_roundw
          case rel => exact ⟨k + 1, by omega, by go_num, ⟨by rw [hsu]; exact RW4⟩, ⟨BW4⟩⟩
          case measure => simp [intOf]; omega
      · have hcd : decide (0 < b.count) = false := decide_eq_false hc
        have hcd2 : b.count ≤ 0 := by omega
        simp only [hcd, Bool.false_and, Bool.false_eq_true, if_false, List.append_nil] at hsu
        go_wp2
        go_roundw
        case rel => exact ⟨k + 1, by omega, by go_num, ⟨by rw [hsu]; exact own_alloc RW.out _⟩, ⟨below_alloc BW.out _⟩⟩
        case measure => simp [intOf]; omega
    · have hltz : ¬ (k : Int) < (boxes.length : Int) := by omega
      have E : k = boxes.length := by omega
      subst E
      have hcn : candsTo lots boxes x boxes.length = Tq.cands lots boxes x := rfl
      have hle := candsTo_le lots boxes x boxes.length
      rw [hcn] at RW hle
      have hokc : ∀ i ∈ Tq.cands lots boxes x, i < boxes.length ∧ 0 ≤ (Tq.boxAt boxes i).lot ∧ (Tq.boxAt boxes i).lot < lots.length := fun i hi => by
        obtain ⟨hr, hf⟩ := List.mem_filter.1 hi
        have hil : i < boxes.length := by simpa using hr
        have hfb := (Bool.and_eq_true _ _ ▸ hf).2
        have hgi : boxes[i]? = some (Tq.boxAt boxes i) := by unfold Tq.boxAt; rw [List.getD_eq_getElem?_getD, List.getElem?_eq_getElem hil]; rfl
        unfold Tq.fitsBox at hfb
        exact ⟨hil, of_decide_eq_true (Bool.and_eq_true _ _ ▸ hfb).1, HF.out _ (List.mem_of_getElem? hgi)⟩
      have hbw := BW.out.size
      have hcmp : ∀ W, Below W3.heap.size wr W → ∀ i ∈ Tq.cands lots boxes x, ∀ j ∈ Tq.cands lots boxes x, Calls Tryz.prog 103 #[.int .i64 (i : Int), .int .i64 (j : Int), .pointer (some ⟨w.heap.size, 0, none⟩), .pointer (some ⟨w.heap.size + 1, 0, none⟩)] W fun e w' =>
          e = .returned (.int .i64 (cmpI (Tq.expAt lots boxes i) (Tq.expAt lots boxes j))) ∧ ∃ q, w' = W.drewN q := fun W hW i hi j hj => by
        have hb := BW.out.trans hW
        exact f103_any w.heap.size (w.heap.size + 1) AL AB cl cb lots boxes W ((blk_facts ((hb.block _ (by omega)).trans k0)).1 0) ((blk_facts ((hb.block _ (by omega)).trans k1)).1 0) (Kd.C_below (Kd.C_below HL.out hB3) hb) (Kd.C_below (Kd.C_below HB.out hB3) hb) i j (hokc i hi).1 (hokc j hj).1 (hokc i hi).2 (hokc j hj).2
      have hsort : Calls Tryz.prog 102 #[.slice A7 (Tq.cands lots boxes x).length c7, .func (.func 103) #[] #[.pointer (some ⟨w.heap.size, 0, none⟩), .pointer (some ⟨w.heap.size + 1, 0, none⟩)]] wr fun e w' => e = .returned (.tuple #[]) ∧
          (w'.ownsRow w.heap.size 3 1 (.slice A7 (Tq.cands lots boxes x).length c7) (Tq.order lots boxes x).length (nats (Tq.order lots boxes x)) ∧ Below w.heap.size w w') := by
        refine f102_any _ _ A7 _ c7 (by omega) _ wr ?_
        have hol : (Tq.order lots boxes x).length = (Tq.cands lots boxes x).length := isort_length _ _
        rw [hol]
        rcases RW.out.2 with ⟨he, h0⟩ | ⟨gr, cap, cur, he, _⟩
        · have hnil : Tq.cands lots boxes x = [] := List.eq_nil_of_length_eq_zero h0
          have horn : Tq.order lots boxes x = [] := List.eq_nil_of_length_eq_zero (by rw [hol, h0])
          rw [hnil] at he ⊢
          rw [horn]
          injection he with he _ he2
          subst he; subst he2
          refine (f131_nil _ _ wr).mono ?_
          rintro e w' ⟨rfl, rfl⟩
          exact ⟨rfl, own_nil _ _ _ _, hB3.trans (BW.out.mono (by omega))⟩
        · injection he with he _ he2
          subst he
          refine (f131_any _ _ (Tq.expAt lots boxes) W3.heap.size gr c7 (Tq.cands lots boxes x) wr (by omega) RW.out hcmp).mono ?_
          rintro e w' ⟨rfl, hown, hb⟩
          exact ⟨rfl, own_less hown (by omega), hB3.trans ((BW.out.trans hb).mono (by omega))⟩
      clear hcmp
      go_wp2_with (go_at_call 102; refine hsort.mono ?_; rintro e w4 ⟨rfl, hR⟩)
      go_ret
      exact ⟨_, rfl, hR⟩
end Go.Proofs.YtcliaokoganbaaaGreatDoor
