/-
  Part 10 of the proof of the card: lemmas and walks, joined by mergeclaim.py out of the texts DA, DB.
-/
import Derived.RangeFuncNested
import Derived.RangeFuncBound
import Derived.RangeFuncCalls
import Derived.RangeFuncLeaves
import Derived.RangeFuncBox
import Derived.Shelf.Abstract
import Derived.WalkKit
import Derived.OwnWalkIn
import Derived.TacticsInMore
import Derived.LoopNIn
import Derived.LoopIn
import Derived.Maps.OwnIn
import Derived.Test.YtcliaokoganbaaaGreatDoorM09
set_option linter.unusedVariables false
set_option linter.unusedSimpArgs false
namespace Go.Proofs.YtcliaokoganbaaaGreatDoor
open Go Go.RowKit Go.Shelf Go.Proofs.YtcliaokoganbaaaGreatDoorW.PrintWords Go.Proofs.YtcliaokoganbaaaGreatDoorW.PrintLast Go.Proofs.YtcliaokoganbaaaGreatDoorW.PrintMore
open Tq (Lot Box Want Take Ord Op)
attribute [local go_sem] Oper.semAt_some

/-! ### The takes of an order, one by one -/
theorem at_Ts {w : World} {A : Option Addr} {n : Nat} {tss : List (List Take)} (h : kTs.C w A n tss) (k : Nat) (x : List Take) (hx : tss[k]? = some x) :
    ∃ ad A' c', A = some ad ∧ w.cell? (ad.add k) = some (.slice A' x.length c') ∧ kT.C w A' x.length x := by
  obtain ⟨inner, hl, hraw, _, hel⟩ := kTs_cells h
  obtain ⟨A', c', hi, hC⟩ := hel k x hx
  have hk : k < tss.length := (List.getElem?_eq_some_iff.1 hx).1
  obtain ⟨ad, e, hc⟩ := hraw (by have := h.1; omega)
  exact ⟨ad, A', c', e, hc k _ hi, hC⟩

set_option maxRecDepth 100000 in
set_option maxHeartbeats 4000000 in
theorem all1_in (F : Fence) (n : Nat) (hf : F.fn 118) (hro : F.round = none) (hn : 1 ≤ n) (l Bn : Nat) (w0 : World) (gr o : Nat) (A : Option Addr) (c : Nat) (tss : List (List Take)) (Pr : Take → Prop) (hPr : ∀ t ∈ tss.flatten, Pr t) (J Jx : List Take → World → Prop)
    (W : World) (hJ : AbidesFrom W.heap.size J)
    (hY : ∀ pre x W, Pr x → J pre W → pre.length < tss.flatten.length → YieldAt F (n - 1) Tryz.prog l #[.agg #[.int .i64 x.box, .int .i64 x.n]] W fun e W' =>
      (e = .returned (.bool true) ∧ J (pre ++ [x]) W' ∧ Below w0.heap.size W W') ∨ (e = .returned (.bool false) ∧ Jx (pre ++ [x]) W'))
    (hBn : W.cell? ⟨Bn, 0, none⟩ = some (.pointer (some ⟨gr, o, none⟩))) (hW : Below w0.heap.size w0 W) (hc : w0.cell? ⟨gr, o + 3, none⟩ = some (.slice A tss.length c)) (hC : kTs.C w0 A tss.length tss) (h0 : J [] W) :
    CallsIn F n Tryz.prog 118 #[.func (.yield l) #[] #[], .pointer (some ⟨Bn, 0, none⟩)] W fun e W' => (∃ v, e = .returned v) ∧
      ((∃ ys, ys = tss.flatten ∧ J ys W') ∨ (∃ pre, pre <+: tss.flatten ∧ Jx pre W')) := by
  have hmax := hC.2.1
  have hcp : W.cell? ⟨gr, o + 3, none⟩ = some (.slice A tss.length c) := (hW.cell (World.block_lt_of_cell? w0 _ hc)).trans hc
  refine callsIn_of_wp Tryz.func118 rfl hf ?_ hro
  simp only [Tryz.ntmps118, List.size_toArray, List.length_cons, List.length_nil, Nat.reduceAdd, Nat.reduceSub, Array.replicate_succ, Array.replicate_zero, List.push_toArray, List.append_toArray, List.nil_append, List.cons_append]
  gi_wp2
  gi_loopw [4, 6, 12] (fun _ _ s12 wr => ∃ k : Nat, k ≤ tss.length ∧ s12 = .int .i64 k ∧ J ((tss.take k).flatten) wr ∧ Below w0.heap.size w0 wr) (fun _ _ s12 _ => tss.length - (intOf s12).toNat)
  case atStart => exact ⟨0, Nat.zero_le _, rfl, h0, hW⟩
  case round =>
    obtain ⟨k, hk, rfl, hJs, hnx⟩ := hrel
    by_cases hlt : k < tss.length
    · have hltz : (k : Int) < (tss.length : Int) := by omega
      obtain ⟨x, hget⟩ : ∃ x, tss[k]? = some x := ⟨_, List.getElem?_eq_getElem hlt⟩
      have htk : (tss.take (k + 1)).flatten = (tss.take k).flatten ++ x := by rw [List.take_add_one, hget]; simp
      have hpre : (tss.take (k + 1)).flatten <+: tss.flatten := by
        conv => rhs; rw [← List.take_append_drop (k + 1) tss, List.flatten_append]
        exact List.prefix_append _ _
      obtain ⟨ad, A', c', rfl, he, hCx⟩ := at_Ts hC k x hget
      have he1 := cell_on hnx he
      have hmx := hCx.2.1
      gi_wp2
      gi_loopw [6, 18] (fun _ s18 wr => ∃ j : Nat, j ≤ x.length ∧ s18 = .int .i64 j ∧ J ((tss.take k).flatten ++ x.take j) wr ∧ Below w0.heap.size w0 wr) (fun _ s18 _ => x.length - (intOf s18).toNat)
      case atStart => exact ⟨0, Nat.zero_le _, rfl, by simpa using hJs, hnx⟩
      case round =>
        obtain ⟨j, hj, rfl, hJ2, hn2⟩ := hrel
        by_cases hlt2 : j < x.length
        · have hltz2 : (j : Int) < (x.length : Int) := by omega
          obtain ⟨t, hgt⟩ : ∃ t, x[j]? = some t := ⟨_, List.getElem?_eq_getElem hlt2⟩
          have htj : x.take (j + 1) = x.take j ++ [t] := by rw [List.take_add_one, hgt]; simp
          obtain ⟨at', rfl, h1, h2⟩ := at_T hCx j t hgt
          have h11 := cell_on hn2 h1
          have h21 := cell_on hn2 h2
          have hlen : ((tss.take k).flatten ++ x.take j).length < tss.flatten.length := by
            have := hpre.length_le
            rw [htk, List.length_append] at this
            rw [List.length_append, List.length_take]; omega
          have hpr2 : (tss.take k).flatten ++ x.take j ++ [t] <+: tss.flatten := by
            refine List.IsPrefix.trans ?_ hpre
            rw [htk, List.append_assoc, ← htj, List.prefix_append_right_inj]
            exact List.take_prefix _ _
          obtain ⟨fn, tmps, assign, body, hy, hR⟩ := hY _ t (wr.alloc (.cells #[.int .i64 t.box, .int .i64 t.n] 66)) (hPr t (hpr2.subset (by simp))) (hJ _ wr _ none hJ2 (World.grownBy_alloc wr _ none) (fun r e => by cases e)) hlen
          have hbs := hn2.size
          gi_wp2
          refine hR.mono ?_
          rintro e W3 (⟨rfl, hJ3, hk3⟩ | ⟨rfl, hJx3⟩)
          · gi_wp2
            go_roundw
            case rel => exact ⟨j + 1, by omega, by go_num, by rw [htj, ← List.append_assoc]; exact hJ3, (below_alloc hn2 _).trans hk3⟩
            case measure => simp [intOf]; omega
          · gi_wp2
            refine bodyPost_ret (results_none rfl _ _ _) rfl ?_
            exact ⟨⟨_, rfl⟩, .inr ⟨_, hpr2, hJx3⟩⟩
        · obtain rfl : j = x.length := by omega
          gi_wp2
          go_roundw
          case rel => exact ⟨k + 1, by omega, by go_num, by rw [htk]; simpa using hJ2, hn2⟩
          case measure => simp [intOf]; omega
    · obtain rfl : k = tss.length := by omega
      gi_wp2
      go_end0
      exact ⟨⟨_, rfl⟩, .inl ⟨_, rfl, by simpa using hJs⟩⟩
end Go.Proofs.YtcliaokoganbaaaGreatDoor
set_option linter.unusedVariables false
set_option linter.unusedSimpArgs false
namespace Go.Proofs.YtcliaokoganbaaaGreatDoor
open Go Go.RowKit Go.Shelf Go.Proofs.YtcliaokoganbaaaGreatDoorW.PrintWords Go.Proofs.YtcliaokoganbaaaGreatDoorW.PrintLast Go.Proofs.YtcliaokoganbaaaGreatDoorW.PrintMore
open Tq (Lot Box Want Take Ord Op)
attribute [local go_sem] Oper.semAt_some

set_option maxHeartbeats 1000000 in
theorem all_in (F : Fence) (n : Nat) (hf : F.fn 99) (hro : F.round = none) (p : Option Addr) (w : World) :
    CallsIn F n Tryz.prog 99 #[.pointer p] w fun e w' => e = .returned (.func (.func 118) #[] #[.pointer (some ⟨w.heap.size, 0, none⟩)]) ∧ w' = w.alloc (.cells #[.pointer p] 97) := by
  refine callsIn_of_wp Tryz.func99 rfl hf ?_ hro
  simp only [Tryz.ntmps99, List.size_toArray, List.length_cons, List.length_nil, Nat.reduceAdd, Nat.reduceSub, Array.replicate_succ, Array.replicate_zero, List.push_toArray, List.append_toArray, List.nil_append, List.cons_append]
  gi_wp2
  go_ret
  exact ⟨rfl, rfl⟩
theorem all_stops (F : Fence) (n : Nat) (hf : F.fn 118) (hro : F.round = none) (hn : 1 ≤ n) (w0 : World) (gr o : Nat) (A : Option Addr) (c : Nat) (tss : List (List Take))
    (hc : w0.cell? ⟨gr, o + 3, none⟩ = some (.slice A tss.length c)) (hC : kTs.C w0 A tss.length tss) (Bn : Nat) (w : World) (hBn : w.cell? ⟨Bn, 0, none⟩ = some (.pointer (some ⟨gr, o, none⟩))) (hw : Below w0.heap.size w0 w) :
    SeqStopsK F n Tryz.prog 118 #[.pointer (some ⟨Bn, 0, none⟩)] (fun x : Take => #[Value.agg #[.int .i64 x.box, .int .i64 x.n]]) (Below w0.heap.size) (fun ys => ys = tss.flatten) (fun pre => pre <+: tss.flatten) tss.flatten.length w := fun l J Jx W hW hJ _ hY h0 =>
  all1_in F n hf hro hn l Bn w0 gr o A c tss (fun _ => True) (fun _ _ => trivial) J Jx W hJ (fun pre x W _ => hY pre x W) ((hW.cell (World.block_lt_of_cell? w _ hBn)).trans hBn) (hw.trans (hW.mono hw.size)) hc hC h0

/-- The same, where the round is told something of each take. -/
theorem all_stops_sub (Pr : Take → Prop) (F : Fence) (n : Nat) (hf : F.fn 118) (hro : F.round = none) (hn : 1 ≤ n) (w0 : World) (gr o : Nat) (A : Option Addr) (c : Nat) (tss : List (List Take)) (hPr : ∀ t ∈ tss.flatten, Pr t)
    (hc : w0.cell? ⟨gr, o + 3, none⟩ = some (.slice A tss.length c)) (hC : kTs.C w0 A tss.length tss) (Bn : Nat) (w : World) (hBn : w.cell? ⟨Bn, 0, none⟩ = some (.pointer (some ⟨gr, o, none⟩))) (hw : Below w0.heap.size w0 w) :
    SeqStopsK F n Tryz.prog 118 #[.pointer (some ⟨Bn, 0, none⟩)] (fun x : { t : Take // Pr t } => #[Value.agg #[.int .i64 x.1.box, .int .i64 x.1.n]]) (Below w0.heap.size) (fun ys => ys.map Subtype.val = tss.flatten) (fun pre => pre.map Subtype.val <+: tss.flatten) tss.flatten.length w := fun l J Jx W hW hJ _ hY h0 => by
  refine (all1_in F n hf hro hn l Bn w0 gr o A c tss Pr hPr (fun pre W => ∃ pre' : List { t : Take // Pr t }, pre'.map Subtype.val = pre ∧ J pre' W) (fun pre W => ∃ pre' : List { t : Take // Pr t }, pre'.map Subtype.val = pre ∧ Jx pre' W) W
    (fun s A B row hs hg hr => by obtain ⟨p, e, hj⟩ := hs; exact ⟨p, e, hJ p A B row hj hg hr⟩) ?_ ((hW.cell (World.block_lt_of_cell? w _ hBn)).trans hBn) (hw.trans (hW.mono hw.size)) hc hC ⟨[], rfl, h0⟩).mono ?_
  · rintro pre x W1 hx ⟨p, rfl, hj⟩ hl
    refine (hY p ⟨x, hx⟩ W1 hj (by simpa using hl)).mono ?_
    rintro e W' (⟨rfl, hj', hk⟩ | ⟨rfl, hj'⟩)
    · exact .inl ⟨rfl, ⟨p ++ [⟨x, hx⟩], by simp, hj'⟩, hk⟩
    · exact .inr ⟨rfl, p ++ [⟨x, hx⟩], by simp, hj'⟩
  · rintro e W' ⟨hv, ⟨ys, rfl, p, e1, hj⟩ | ⟨pre, hp, p, rfl, hj⟩⟩
    · exact ⟨hv, .inl ⟨p, e1, hj⟩⟩
    · exact ⟨hv, .inr ⟨p, hp, hj⟩⟩

/-- What 'from' reckons. -/
def fromW (body : Int) (ts : List Take) : Int := ts.foldl (fun s t => if t.box = body then wrap64 (s + t.n) else s) 0
theorem fromW_snoc (body : Int) (pre : List Take) (t : Take) : fromW body (pre ++ [t]) = if t.box = body then wrap64 (fromW body pre + t.n) else fromW body pre := by simp [fromW]
/-- A block of cells is the caller's own. -/
theorem block_own {β : Type} (B : Nat) (f : β → Array Value) (t : TypeId) : Own (fun s (W : World) => W.heap[B]? = some (.cells (f s) t (0, 0))) := fun s X Y row hs hg hrow => by
  refine (hg.block B (Array.getElem?_eq_some_iff.1 hs).1 (fun e' => ?_)).trans hs
  obtain ⟨o, ho, hc⟩ := hrow B e'.symm
  rw [hs] at ho; cases ho; cases hc
theorem block_alloc {W : World} {B : Nat} {x o : Obj} (h : W.heap[B]? = some x) : (W.alloc o).heap[B]? = some x := (Below.heap_alloc W o B (Array.getElem?_eq_some_iff.1 h).1).trans h

set_option maxRecDepth 100000 in
set_option maxHeartbeats 4000000 in
theorem f62_in (F : Fence) (n : Nat) (h1 : F.fn 62) (h2 : F.fn 99) (h3 : F.fn 118) (hro : F.round = none) (hn : 6 ≤ n) (gr o : Nat) (A : Option Addr) (c : Nat) (tss : List (List Take)) (body : Int) (w : World)
    (hc : w.cell? ⟨gr, o + 3, none⟩ = some (.slice A tss.length c)) (hC : kTs.C w A tss.length tss) :
    CallsIn F n Tryz.prog 62 #[.pointer (some ⟨gr, o, none⟩), .int .i64 body] w fun e w' => e = .returned (.int .i64 (fromW body tss.flatten)) ∧ Below w.heap.size w w' := by
  have hn1 : 1 ≤ n := by omega
  refine callsIn_of_wp_marks Tryz.func62 rfl h1 ?_ hro
  simp only [Tryz.ntmps62, List.size_toArray, List.length_cons, List.length_nil, Nat.reduceAdd, Nat.reduceSub, Array.replicate_succ, Array.replicate_zero, List.push_toArray, List.append_toArray, List.nil_append, List.cons_append]
  gi_wp2_with (gi_at_call 99; refine (all_in F (n - 1) h2 hro _ _).mono ?_; rintro e w' ⟨rfl, rfl⟩)
  have bB := ((Boxed.new w 3 (.int .i64 body)).alloc (.cells #[.int .i64 0] 3)).alloc (.cells #[.pointer (some ⟨gr, o, none⟩)] 97)
  have bS := (Boxed.new (w.alloc (.cells #[.int .i64 body] 3)) 3 (.int .i64 0)).alloc (.cells #[.pointer (some ⟨gr, o, none⟩)] 97)
  have bA := Boxed.new ((w.alloc (.cells #[.int .i64 body] 3)).alloc (.cells #[.int .i64 0] 3)) 97 (.pointer (some ⟨gr, o, none⟩))
  simp only [World.size_alloc] at bS bA
  have hB0 : Below w.heap.size w (((w.alloc (.cells #[.int .i64 body] 3)).alloc (.cells #[.int .i64 0] 3)).alloc (.cells #[.pointer (some ⟨gr, o, none⟩)] 97)) := (((Below.refl _ w).alloc (Nat.le_refl _) _).alloc (by simp) _).alloc (by simp; omega) _
  have hsz : (((w.alloc (.cells #[.int .i64 body] 3)).alloc (.cells #[.int .i64 0] 3)).alloc (.cells #[.pointer (some ⟨gr, o, none⟩)] 97)).heap.size = w.heap.size + 3 := by simp
  obtain ⟨W0, hW0⟩ : ∃ W0, ((w.alloc (.cells #[.int .i64 body] 3)).alloc (.cells #[.int .i64 0] 3)).alloc (.cells #[.pointer (some ⟨gr, o, none⟩)] 97) = W0 := ⟨_, rfl⟩
  rw [hW0] at bB bS bA hB0 hsz ⊢
  clear hW0
  refine wpIn_rangeFunc_ownH hro hn1 (gf := 118) (lb := #[.pointer (some ⟨w.heap.size + 1 + 1, 0, none⟩)]) rfl h3 (enters_of Tryz.func118 (by kernel_rfl) rfl)
    (all_stops F (n - 1) h3 hro (by omega) w gr o A c tss hc hC (w.heap.size + 1 + 1) W0 bA.cell hB0) belowK_t (belowK_b (by omega)) (Below.refl _ _) (fun _ => rfl)
    (fun pre W => (Boxed W (w.heap.size + 1) 3 (.int .i64 (fromW body pre)) ∧ Boxed W w.heap.size 3 (.int .i64 body)) ∧ Below w.heap.size w W)
    (fun _ _ _ => False)
    (OwnFrom.and (OwnFrom.and (Own.from (boxed_own _ _ _) _) (Own.from (boxed_own _ _ _) _)) (ownFrom_below (Nat.le_refl _) (by omega)))
    (fun _ _ _ _ _ hs _ _ => hs)
    ⟨⟨bS, bB⟩, hB0⟩
    (fun x a' W => ∃ Bx, w.heap.size + 1 < Bx ∧ W.heap[Bx]? = some (.cells #[.int .i64 x.box, .int .i64 x.n] 66 (0, 0)) ∧ a' = { tmps := #[.pointer (some ⟨gr, o, none⟩), .int .i64 body, undef, .pointer (some ⟨w.heap.size, 0, none⟩), .int .i64 0, .pointer (some ⟨w.heap.size + 1, 0, none⟩), .pointer (some ⟨Bx, 0, none⟩), .pointer (some ⟨gr, o, none⟩), .func (.func 118) #[] #[.pointer (some ⟨w.heap.size + 1 + 1, 0, none⟩)], .agg #[.int .i64 x.box, .int .i64 x.n], undef, undef, undef, undef, undef, undef, undef, undef, undef], defers := [] })
    (fun x a' _ X Y row hs hg hr => by obtain ⟨Bx, h1, h2, h3⟩ := hs; exact ⟨Bx, h1, block_own Bx (fun (_ : Unit) => #[.int .i64 x.box, .int .i64 x.n]) 66 () X Y row h2 hg (fun r e => (hr r e).2), h3⟩)
    ?assign ?body ?done ?stop
  case assign =>
    rintro l pre x W K ⟨⟨bS1, bB1⟩, hB1⟩ hK
    gi_wp2
    exact hK _ _ ((KeepsOthers.alloc _ _).from _) ((Below.refl _ W).alloc hB1.size _) ⟨⟨bS1.alloc _, bB1.alloc _⟩, hB1.alloc hB1.size _⟩ ⟨W.heap.size, bS1.lt, heap_alloc_at W _ _ rfl, rfl⟩
  case body =>
    rintro l pre x a' W hl ⟨r, hr⟩ ⟨⟨bS1, bB1⟩, hB1⟩ ⟨Bx, hBx, bX, rfl⟩ hlt
    have cB := bB1.cell
    have cS := bS1.cell
    have fS := bS1.frozen
    have c0 := (blk_facts bX).1 0
    have c1 := (blk_facts bX).1 1
    by_cases hb : x.box = body
    · gi_wp2
      exact ⟨(KeepsOthers.setCell _ _ _).from _, (Below.refl _ W).setCell (p := ⟨w.heap.size + 1, 0, none⟩) (by simp) _,
        ⟨by rw [fromW_snoc, if_pos hb]; exact bS1.set _, bB1.other (by omega) _⟩, hB1.setCell (p := ⟨w.heap.size + 1, 0, none⟩) (by simp) _⟩
    · gi_wp2
      exact ⟨KeepsFrom.refl _ _, Below.refl _ _, ⟨by rw [fromW_snoc, if_neg hb]; exact bS1, bB1⟩, hB1⟩
  case done =>
    rintro D zs W hD rfl ⟨⟨bS1, bB1⟩, hB1⟩ hK
    have cS := bS1.cell
    gi_wp2
    refine ⟨by simp, .inl ⟨_, _, rfl, run_takeDeferred hK, ?_⟩⟩
    exact ⟨_, results_tmp rfl _ _ _, rfl, hB1.trans (belowK_b (w := w) (Nat.le_refl _) W D _ _ (by omega) hK rfl rfl)⟩
  case stop =>
    rintro D c pre W _ _ h _
    exact h.elim
theorem f62_any (gr o : Nat) (A : Option Addr) (c : Nat) (tss : List (List Take)) (body : Int) (w : World)
    (hc : w.cell? ⟨gr, o + 3, none⟩ = some (.slice A tss.length c)) (hC : kTs.C w A tss.length tss) :
    Calls Tryz.prog 62 #[.pointer (some ⟨gr, o, none⟩), .int .i64 body] w fun e w' => e = .returned (.int .i64 (fromW body tss.flatten)) ∧ Below w.heap.size w w' :=
  (callsIn_wide (n := 6)).1 (f62_in Fence.wide 6 trivial trivial trivial rfl (Nat.le_refl _) gr o A c tss body w hc hC)
end Go.Proofs.YtcliaokoganbaaaGreatDoor
