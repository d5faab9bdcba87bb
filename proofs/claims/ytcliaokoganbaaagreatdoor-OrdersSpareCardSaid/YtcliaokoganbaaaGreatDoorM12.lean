/-
  Part 12 of the proof of the card: lemmas and walks, joined by mergeclaim.py out of the texts DF, DG, DH.
-/
import Derived.Test.YtcliaokoganbaaaGreatDoorM11
import Derived.Maps.RangeWalk
set_option linter.unusedVariables false
set_option linter.unusedSimpArgs false
namespace Go.Proofs.YtcliaokoganbaaaGreatDoor
open Go Go.RowKit Go.Shelf Go.Proofs.YtcliaokoganbaaaGreatDoorW.PrintWords Go.Proofs.YtcliaokoganbaaaGreatDoorW.PrintLast Go.Proofs.YtcliaokoganbaaaGreatDoorW.PrintMore
open Tq (Lot Box Want Take Ord Op)

/-! ### Rows of flat elements, cell by cell -/
theorem reps_flat {α : Type} {R : α → List Value → Prop} {sz : Nat} {f : α → List Value} (hf : ∀ x cs, R x cs → cs = f x) (hz : ∀ x, (f x).length = sz) : ∀ {xs : List α} {inner : List Value}, Reps R sz xs inner → inner = xs.flatMap f
  | [], inner, h => by have := h.1; simp at this; simpa using this
  | x :: xs, inner, h => by
    have h0 := hf _ _ (h.2 0 x rfl)
    have hl := h.1
    rw [List.length_cons, Nat.add_mul, Nat.one_mul] at hl
    rw [Nat.zero_mul, List.drop_zero] at h0
    have ht : inner.drop sz = xs.flatMap f := reps_flat hf hz ⟨by rw [List.length_drop]; omega, fun j y hy => by
      have := h.2 (j + 1) y (by simpa using hy)
      rwa [List.drop_drop, show sz + j * sz = (j + 1) * sz by rw [Nat.add_mul]; omega]⟩
    rw [List.flatMap_cons, ← h0, ← ht, List.take_append_drop]
theorem flat_seg {α : Type} {sz : Nat} {f : α → List Value} (hz : ∀ x, (f x).length = sz) : ∀ (xs : List α) (j : Nat) (x : α), xs[j]? = some x → ((xs.flatMap f).drop (j * sz)).take sz = f x
  | y :: xs, 0, x, h => by
    simp at h; subst h
    rw [Nat.zero_mul, List.drop_zero, List.flatMap_cons, List.take_append_of_le_length (by rw [hz]; exact Nat.le_refl _), List.take_of_length_le (by rw [hz]; exact Nat.le_refl _)]
  | y :: xs, j + 1, x, h => by
    rw [List.flatMap_cons, show (j + 1) * sz = sz + j * sz by rw [Nat.add_mul]; omega, ← List.drop_drop, List.drop_append_of_le_length (by rw [hz]; exact Nat.le_refl _), List.drop_of_length_le (l := f y) (by rw [hz]; exact Nat.le_refl _), List.nil_append]
    exact flat_seg hz xs j x (by simpa using h)
theorem flat_len {α : Type} {sz : Nat} {f : α → List Value} (hz : ∀ x, (f x).length = sz) : ∀ (xs : List α), (xs.flatMap f).length = xs.length * sz
  | [] => by simp
  | x :: xs => by rw [List.flatMap_cons, List.length_append, hz, flat_len hz xs, List.length_cons, Nat.add_mul]; omega
theorem flat_reps {α : Type} {R : α → List Value → Prop} {sz : Nat} {f : α → List Value} (hz : ∀ x, (f x).length = sz) (hR : ∀ x, R x (f x)) (xs : List α) : Reps R sz xs (xs.flatMap f) :=
  ⟨flat_len hz xs, fun j x hx => by rw [flat_seg hz xs j x hx]; exact hR x⟩
theorem flat_get {α : Type} {sz : Nat} {f : α → List Value} (hz : ∀ x, (f x).length = sz) (xs : List α) (j : Nat) (x : α) (h : xs[j]? = some x) (i : Nat) (hi : i < sz) : (xs.flatMap f)[j * sz + i]? = (f x)[i]? := by
  rw [← flat_seg hz xs j x h, List.getElem?_take_of_lt hi, List.getElem?_drop]
theorem flat_set {α : Type} {sz : Nat} {f : α → List Value} (hz : ∀ x, (f x).length = sz) : ∀ (xs : List α) (j : Nat) (x y : α), xs[j]? = some x → ∀ (i : Nat) (u : Value), i < sz → f y = (f x).set i u → (xs.flatMap f).set (j * sz + i) u = (xs.set j y).flatMap f
  | z :: xs, 0, x, y, h, i, u, hi, hy => by
    simp at h; subst h
    rw [Nat.zero_mul, Nat.zero_add, List.flatMap_cons, List.set_append_left _ _ (by rw [hz]; exact hi), List.set_cons_zero, List.flatMap_cons, hy]
  | z :: xs, j + 1, x, y, h, i, u, hi, hy => by
    rw [List.flatMap_cons, List.set_append_right _ _ (by rw [hz, Nat.add_mul]; omega), hz, show (j + 1) * sz + i - sz = j * sz + i by rw [Nat.add_mul]; omega, flat_set hz xs j x y (by simpa using h) i u hi hy, List.set_cons_succ, List.flatMap_cons]
def bCells (b : Box) : List Value := [.int .i64 b.lot, .int .i64 b.count, .int .i64 b.tare]
theorem bCells_len (b : Box) : (bCells b).length = 3 := rfl
theorem kB_flat {e : Nat} {w : World} {base : Nat} {ok : Nat → Prop} {v : Value} {xs : List Box} (h : kB.R e w base ok v xs) : w.ownsRow base e 3 v xs.length (xs.flatMap bCells) := by
  obtain ⟨_, inner, hown, hr⟩ := h
  rw [← reps_flat (f := bCells) (fun x cs hM => kB_openM hM) bCells_len hr]; exact hown
theorem flat_kB {e : Nat} {w : World} {base : Nat} {v : Value} {xs : List Box} (h : w.ownsRow base e 3 v xs.length (xs.flatMap bCells)) : kB.R e w base (fun i => base ≤ i) v xs :=
  ⟨fun i hi => own_base h i hi, _, h, flat_reps bCells_len (fun x => kB_mkM _ _ _ x) xs⟩
end Go.Proofs.YtcliaokoganbaaaGreatDoor
set_option linter.unusedVariables false
set_option linter.unusedSimpArgs false
namespace Go.Proofs.YtcliaokoganbaaaGreatDoor
open Go Go.RowKit Go.Shelf Go.Proofs.YtcliaokoganbaaaGreatDoorW.PrintWords Go.Proofs.YtcliaokoganbaaaGreatDoorW.PrintLast Go.Proofs.YtcliaokoganbaaaGreatDoorW.PrintMore
open Tq (Lot Box Want Take Ord Op)

/-! ### Spare -/
/-- The boxes when those bodies are done that are no longer to come. -/
def spared (ts : List Take) (left : Lit → Bool) (sure : List Box) : List Box :=
  sure.mapIdx fun i b => if ts.any (fun t => decide (t.box = (i : Int))) && !left (.int .i64 (i : Int)) then { b with count := max 0 (b.count - fromW i ts) } else b
theorem spared_len (ts : List Take) (left : Lit → Bool) (sure : List Box) : (spared ts left sure).length = sure.length := by simp [spared]
theorem spared_start (ts : List Take) (sure : List Box) : spared ts (Maps.has (tally ts)) sure = sure := by
  unfold spared
  rw [List.mapIdx_eq_iff]
  intro i
  cases h : sure[i]? with
  | none => rfl
  | some b => simp only [Option.map_some, tally_has, Bool.and_not_self, Bool.false_eq_true, if_false]
theorem spared_end (ts : List Take) {left : Lit → Bool} (h : ∀ k, left k = false) (sure : List Box) : spared ts left sure = spared ts (fun _ => false) sure := by
  rw [show left = fun _ => false from funext h]
theorem spared_stays (ts : List Take) (left : Lit → Bool) (sure : List Box) (x : Int) (hx : (sure.length : Int) ≤ x) : spared ts (fun z => left z && !z.sameKey (.int .i64 x)) sure = spared ts left sure := by
  unfold spared
  rw [List.mapIdx_eq_iff]
  intro i
  rw [List.getElem?_mapIdx]
  cases h : sure[i]? with
  | none => rfl
  | some b =>
    have hi : i < sure.length := (List.getElem?_eq_some_iff.1 h).1
    have hne : (Lit.int .i64 (i : Int)).sameKey (.int .i64 x) = false := by simp [Lit.sameKey]; omega
    simp only [Option.map_some, hne, Bool.not_false, Bool.and_true]
theorem spared_get (ts : List Take) (left : Lit → Bool) (sure : List Box) (i : Nat) (b : Box) (h : sure[i]? = some b) (hl : left (.int .i64 (i : Int)) = true) : (spared ts left sure)[i]? = some b := by
  unfold spared
  rw [List.getElem?_mapIdx, h]
  simp [hl]
theorem spared_step (ts : List Take) (left : Lit → Bool) (sure : List Box) (i : Nat) (b : Box) (h : sure[i]? = some b) (ha : ts.any (fun t => decide (t.box = (i : Int))) = true) :
    (spared ts left sure).set i { b with count := max 0 (b.count - fromW i ts) } = spared ts (fun z => left z && !z.sameKey (.int .i64 (i : Int))) sure := by
  have hi : i < sure.length := (List.getElem?_eq_some_iff.1 h).1
  apply List.ext_getElem?
  intro j
  rw [List.getElem?_set]
  by_cases hj : i = j
  · subst hj
    rw [if_pos rfl, if_pos (by rw [spared_len]; exact hi)]
    unfold spared
    rw [List.getElem?_mapIdx, h]
    have hk : (Lit.int .i64 (i : Int)).sameKey (.int .i64 (i : Int)) = true := by simp [Lit.sameKey]
    simp only [Option.map_some, ha, hk, Bool.not_true, Bool.and_false, Bool.not_false, Bool.and_true, if_true]
  · rw [if_neg hj]
    unfold spared
    rw [List.getElem?_mapIdx, List.getElem?_mapIdx]
    have hk : (Lit.int .i64 (j : Int)).sameKey (.int .i64 (i : Int)) = false := by simp [Lit.sameKey]; omega
    simp only [hk, Bool.not_false, Bool.and_true]
set_option maxRecDepth 100000 in
set_option maxHeartbeats 2000000 in
theorem f19_raw (B g : Nat) (ok : Nat → Prop) (os : List Ord) (A : Option Addr) (c : Nat) (sure : List Box) (w : World) (h : BookAt w B ok g os) (hC : kB.C w A sure.length sure) (hbig : sure.length * 24 ≤ 140737488355328)
    (hk : ∀ t ∈ allTakes os, 0 ≤ t.box ∧ BoxOk t) (hlen : (allTakes os).length ≤ maxLen) (hv : ∀ x : Int, 0 ≤ fromW x (allTakes os) ∧ fromW x (allTakes os) ≤ 9223372036854775807) (hs : ∀ b ∈ sure, 0 ≤ b.count ∧ b.count ≤ 9223372036854775807) :
    Calls Tryz.prog 19 #[.pointer (some ⟨g, 0, none⟩), .slice A sure.length c] w fun e w' => ∃ v', e = .returned v' ∧ kB.R 60 w' w.heap.size (fun i => w.heap.size ≤ i) v' (spared (allTakes os) (fun _ => false) sure) ∧ Below w.heap.size w w' := by
  have hcl := f49_any A c sure w hbig hC
  have hmax := hC.2.1
  have HB := Aside0.mk h
  clear h hC
  go_enter Tryz.func19, Tryz.ntmps19
  go_wp2_with (first
    | (go_at_call 49; refine hcl.mono ?_; rintro e w1 ⟨v', rfl, hR, hb⟩; obtain ⟨A', c', rfl⟩ := Kd.R_slice hR; have hres := f50_any B g ok os w1 (HB.out.below hb) (fun t ht => (hk t ht).2) hlen)
    | (go_at_call 50; refine hres.mono ?_; rintro e w2 ⟨rfl, hown, hb2⟩)
    | (at_range; refine wpList_range_own _ rfl _ 103 rfl 3 3 (Maps.int_keyed Tryz.underlying3) Tryz.underlying103 _ w1.heap.size (allTakes os).length _ rfl hown ?_; intro w0 hrg0 hg0 hs0))
  go_frame
  have hlA := fun k hk => own_lt (kB_flat hR) k hk
  have hsz2 := hb2.size
  have hsz1 := hb.size
  have hown0 : w0.ownsRow w.heap.size 60 3 (.slice A' sure.length c') sure.length ((spared (allTakes os) (Maps.has (tally (allTakes os))) sure).flatMap bCells) := by
    rw [spared_start]; exact own_other (pw_own_below (kB_flat hR) hb2) hg0 (by cases (Value.slice A' sure.length c').ownBlock <;> simp)
  have hBB : Below w.heap.size w w0 := (hb.trans (hb2.mono hsz1)).grown hg0 (by omega) (fun k e => by cases e)
  clear hR hcl hres hown
  go_loopw [6] (fun _ wr => ∃ (left : Lit → Bool) (cnt : Nat), wr.ranges Tryz.prog 3 (plainElem (H := Unit) Tryz.prog 3) w1.heap.size w2.heap.size (allTakes os).length (tally (allTakes os)) left cnt ∧ Aside0 (wr.ownsRow w.heap.size 60 3 (.slice A' sure.length c') sure.length ((spared (allTakes os) left sure).flatMap bCells)) ∧ Aside0 (Below w.heap.size w wr))
    (fun _ wr => wr.rangeLeft w1.heap.size w2.heap.size)
  case atStart => exact ⟨_, _, hrg0, ⟨hown0⟩, ⟨hBB⟩⟩
  case round =>
    obtain ⟨left, cnt, hrg, RW, BW⟩ := hrel
    go_wp2_with (at_next; refine wpList_next_ranges_ii _ rfl _ rfl 3 3 .i64 .i64 (Maps.int_keyed Tryz.underlying3) Tryz.underlying3 Tryz.underlying3 w1.heap.size w2.heap.size (allTakes os).length _ _ _ rfl hrg ?_ ?_)
    · intro _ hl0
      go_wp2
      go_ret
      have hfin := RW.out
      rw [spared_end _ hl0] at hfin
      exact ⟨_, rfl, flat_kB (by rw [spared_len]; exact hfin), BW.out⟩
    · intro x cc w3 cnt1 hwx hwc hlx hat hrg1 hlt hg1 hs1 hen
      have hbW := BW.out.size
      have hcv : cc = fromW x (allTakes os) := by have := hat (.lit (.int .i64 0)); rw [tally_at] at this; injection this with this; injection this with _ this; exact this.symm
      subst hcv
      have hhas : (allTakes os).any (fun t => decide (t.box = x)) = true := by rw [← tally_has]; exact Maps.has_true_of_atKey hat
      obtain ⟨t0, ht0, htx⟩ := List.any_eq_true.1 hhas
      have hx0 : 0 ≤ x := by have := (hk t0 ht0).1; have e := of_decide_eq_true htx; omega
      obtain ⟨i, rfl⟩ : ∃ i : Nat, x = i := ⟨x.toNat, by omega⟩
      have hmw : w2.heap.size < wr.heap.size := hrg.lt
      have RW1 : w3.ownsRow w.heap.size 60 3 (.slice A' sure.length c') sure.length ((spared (allTakes os) left sure).flatMap bCells) := own_other RW.out hg1 (.inr (fun e => by have := hlA _ e; omega))
      have BW1 : Below w.heap.size w w3 := BW.out.grown hg1 hbW (fun k e => by cases e; omega)
      have hv0 := hv (i : Int)
      by_cases hil : i < sure.length
      · have hilz : (i : Int) < (sure.length : Int) := by omega
        obtain ⟨b, hgb⟩ : ∃ b, sure[i]? = some b := ⟨_, List.getElem?_eq_getElem hil⟩
        have hbb := hs b (List.mem_of_getElem? hgb)
        obtain ⟨gr, hA⟩ : ∃ gr, A' = some ⟨gr, 0, none⟩ := by
          obtain ⟨gr, cap, he, _⟩ := RW1.form (by omega)
          injection he with he _ _
          exact ⟨gr, he⟩
        subst hA
        have hspl : (spared (allTakes os) left sure).length = sure.length := spared_len _ _ _
        have hc1 : w3.cell? ⟨gr, i * 3 + 1, none⟩ = some (.int .i64 b.count) := by
          rw [RW1.cellAt (i * 3 + 1) (by omega), flat_get bCells_len _ i b (spared_get _ _ _ i b hgb hlx) 1 (by omega)]; rfl
        have hf1 := RW1.frozenAt (i * 3 + 1)
        have hw1 : IntKind.i64.wrap (b.count - fromW i (allTakes os)) = b.count - fromW i (allTakes os) := by rw [IntKind.wrap_i64]; omega
        have RS := Aside0.mk RW1
        have BS := Aside0.mk BW1
        clear RW1 BW1
        have hmx : (if fromW (i : Int) (allTakes os) < b.count then b.count - fromW (i : Int) (allTakes os) else 0) = max 0 (b.count - fromW (i : Int) (allTakes os)) := by split <;> omega
        have hst := RS.out.stored (i * 3 + 1) (.int .i64 (max 0 (b.count - fromW (i : Int) (allTakes os))))
        rw [flat_set bCells_len _ i b { b with count := max 0 (b.count - fromW (i : Int) (allTakes os)) } (spared_get _ _ _ i b hgb hlx) 1 _ (by omega) rfl, spared_step _ _ _ _ _ hgb hhas] at hst
        have hgrl := hlA gr rfl
        have hrg2 := hrg1.kept hst.2 (fun e => by injection e with e; omega) (fun e => by injection e with e; omega)
        have RS2 := Aside0.mk hst.1
        have BS2 := Aside0.mk (BS.out.grown hst.2 BS.out.size (fun k e => by cases e; exact own_base RS.out gr rfl))
        have hlt' := hrg2.left_eq
        clear hst
        go_wp2
        exact ⟨⟨_, cnt1, hrg2, RS2, BS2⟩, by rw [hlt', hrg.left_eq]; exact hlt⟩
      · have hilz : ¬ (i : Int) < (sure.length : Int) := by omega
        have RS := Aside0.mk RW1
        have BS := Aside0.mk BW1
        clear RW1 BW1
        go_wp2
        go_roundw
        case rel => exact ⟨_, cnt1, hrg1, by rw [spared_stays _ _ _ _ (by omega)]; exact RS, BS⟩
        case measure => rw [hrg1.left_eq, hrg.left_eq]; exact hlt
end Go.Proofs.YtcliaokoganbaaaGreatDoor
set_option linter.unusedVariables false
set_option linter.unusedSimpArgs false
namespace Go.Proofs.YtcliaokoganbaaaGreatDoor
open Go Go.RowKit Go.Shelf Go.Proofs.YtcliaokoganbaaaGreatDoorW.PrintWords Go.Proofs.YtcliaokoganbaaaGreatDoorW.PrintLast Go.Proofs.YtcliaokoganbaaaGreatDoorW.PrintMore
open Tq (Lot Box Want Take Ord Op OrdInv BookInv AllInv TakesInv)

/-! ### What a right book's sizes are -/
def TakeOk (t : Take) : Prop := 0 ≤ t.box ∧ t.box < 3000 ∧ 1 ≤ t.n ∧ t.n ≤ 20000
theorem allInv_len : ∀ {ws : List Want} {ls : List (List Take)}, AllInv ws ls → ls.length = ws.length
  | [], [], _ => rfl
  | [], _ :: _, h => h.elim
  | _ :: _, [], h => h.elim
  | w :: ws, l :: ls, ⟨_, h⟩ => by simp [allInv_len h]
theorem allInv_mem : ∀ {ws : List Want} {ls : List (List Take)}, AllInv ws ls → ∀ l ∈ ls, l.length ≤ 20000 ∧ ∀ t ∈ l, TakeOk t
  | [], [], _, l, hl => by simp at hl
  | [], _ :: _, h, _, _ => h.elim
  | _ :: _, [], h, _, _ => h.elim
  | w :: ws, l :: ls, ⟨h1, h⟩, x, hx => by
    rcases List.mem_cons.1 hx with rfl | hx
    · exact ⟨h1.2.2, h1.1⟩
    · exact allInv_mem h x hx
theorem ordInv_takes {o : Ord} (h : OrdInv o) : o.takes.length ≤ 20 ∧ ∀ l ∈ o.takes, l.length ≤ 20000 ∧ ∀ t ∈ l, TakeOk t := by
  have hw := (Tq.rightWants_bounds h.right).2.1
  by_cases hs : o.state = 1
  · have ha := (h.some_ hs).1
    exact ⟨by rw [allInv_len ha]; exact hw, allInv_mem ha⟩
  · rw [h.none_ hs]; simp
theorem flatten_le {α : Type} (n : Nat) : ∀ (ls : List (List α)), (∀ l ∈ ls, l.length ≤ n) → ls.flatten.length ≤ ls.length * n
  | [], _ => by simp
  | l :: ls, h => by
    have h1 := h l (by simp)
    have h2 := flatten_le n ls (fun x hx => h x (by simp [hx]))
    rw [List.flatten_cons, List.length_append, List.length_cons, Nat.add_mul]; omega
theorem ordInv_flat {o : Ord} (h : OrdInv o) : o.takes.flatten.length ≤ 400000 ∧ ∀ t ∈ o.takes.flatten, TakeOk t := by
  obtain ⟨h1, h2⟩ := ordInv_takes h
  refine ⟨?_, fun t ht => ?_⟩
  · have := flatten_le 20000 o.takes (fun l hl => (h2 l hl).1)
    have : o.takes.length * 20000 ≤ 20 * 20000 := Nat.mul_le_mul_right _ h1
    omega
  · obtain ⟨l, hl, ht⟩ := List.mem_flatten.1 ht
    exact (h2 l hl).2 t ht
theorem allTakes_le (os : List Ord) (h : ∀ o ∈ os, OrdInv o) : (allTakes os).length ≤ os.length * 400000 := by
  induction os with
  | nil => simp [allTakes]
  | cons o os ih =>
    have h1 := (ordInv_flat (h o (by simp))).1
    have h2 := ih (fun x hx => h x (by simp [hx]))
    rw [show allTakes (o :: os) = o.takes.flatten ++ allTakes os by simp [allTakes], List.length_append, List.length_cons, Nat.add_mul]; omega
theorem allTakes_ok {os : List Ord} (h : ∀ o ∈ os, OrdInv o) : ∀ t ∈ allTakes os, TakeOk t := fun t ht => by
  obtain ⟨o, ho, ht⟩ := List.mem_flatMap.1 ht
  exact (ordInv_flat (h o ho)).2 t ht
theorem wf_small {x : Int} (h0 : 0 ≤ x) (h1 : x < 3000) : (Lit.int .i64 x).wf = true := by
  have e : wrap64 x = x := by unfold wrap64; omega
  rw [← e]; exact wrap64_wf x
theorem allTakes_len {os : List Ord} (h : BookInv os) : (allTakes os).length ≤ 400000000 := by
  have := allTakes_le os h.all
  have : os.length * 400000 ≤ 1000 * 400000 := Nat.mul_le_mul_right _ h.len
  omega
theorem fromTakes_bounds {os : List Ord} (h : BookInv os) (x : Int) : 0 ≤ Tq.fromTakes x (allTakes os) ∧ Tq.fromTakes x (allTakes os) ≤ 8000000000000 := by
  refine ⟨fromTakes_nonneg (fun t ht => by have := allTakes_ok h.all t ht; have := this.2.2.1; omega), ?_⟩
  have h1 := fromTakes_le x (allTakes os) 20000 (fun t ht => by have := allTakes_ok h.all t ht; have := this.2.2; omega)
  have := allTakes_len h
  omega
theorem fromW_all {os : List Ord} (h : BookInv os) (x : Int) : fromW x (allTakes os) = Tq.reserved os x := by
  rw [reserved_eq]
  exact fromW_eq x _ (fun t ht => by have := allTakes_ok h.all t ht; have := this.2.2.1; omega) (by have := fromTakes_bounds h x; omega)
theorem spared_spare {os : List Ord} (h : BookInv os) (sure : List Box) : spared (allTakes os) (fun _ => false) sure = Tq.spare os sure := by
  unfold spared Tq.spare
  congr 1
  funext i b
  unfold Tq.spareAt
  rw [isTaken_eq, fromW_all h]
  simp
/-- Spare is 'Tq.spare'. -/
theorem f19_any (B g : Nat) (ok : Nat → Prop) (os : List Ord) (A : Option Addr) (c : Nat) (sure : List Box) (w : World) (h : BookAt w B ok g os) (hi : BookInv os) (hC : kB.C w A sure.length sure) (hbig : sure.length * 24 ≤ 140737488355328) (hs : ∀ b ∈ sure, 0 ≤ b.count ∧ b.count ≤ 9223372036854775807) :
    Calls Tryz.prog 19 #[.pointer (some ⟨g, 0, none⟩), .slice A sure.length c] w fun e w' => ∃ v', e = .returned v' ∧ kB.R 60 w' w.heap.size (fun i => w.heap.size ≤ i) v' (Tq.spare os sure) ∧ Below w.heap.size w w' := by
  rw [← spared_spare hi]
  refine f19_raw B g ok os A c sure w h hC hbig (fun t ht => ?_) ?_ (fun x => ?_) hs
  · have := allTakes_ok hi.all t ht
    exact ⟨this.1, wf_small this.1 this.2.1⟩
  · have := allTakes_len hi
    simp only [maxLen]; omega
  · rw [fromW_all hi, reserved_eq]
    have := fromTakes_bounds hi x
    omega
end Go.Proofs.YtcliaokoganbaaaGreatDoor
