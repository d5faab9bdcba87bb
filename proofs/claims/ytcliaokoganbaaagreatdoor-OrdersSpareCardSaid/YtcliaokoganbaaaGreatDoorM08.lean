/-
  Part 8 of the proof of the card: lemmas and walks, joined by mergeclaim.py out of the texts CE.
-/
import Derived.Test.YtcliaokoganbaaaGreatDoorM07
import Derived.BigGuardPart
set_option linter.unusedVariables false
set_option linter.unusedSimpArgs false
namespace Go.Proofs.YtcliaokoganbaaaGreatDoor
open Go Go.RowKit Go.Shelf Go.Proofs.YtcliaokoganbaaaGreatDoorW.PrintWords Go.Proofs.YtcliaokoganbaaaGreatDoorW.PrintLast Go.Proofs.YtcliaokoganbaaaGreatDoorW.PrintMore
open Tq (Lot Box Want Take Ord Op)

/-! ### New, Len, Takes, Get -/
set_option maxHeartbeats 400000 in
theorem f10_any (B : Nat) (w : World) (hB : B ≤ w.heap.size) : Calls Tryz.prog 10 #[] w fun e w' => ∃ g, e = .returned (.pointer (some ⟨g, 0, none⟩)) ∧ BookAt w' B (fun k => w.heap.size ≤ k) g [] ∧ Below w.heap.size w w' := by
  go_enter Tryz.func10, Tryz.ntmps10
  go_wp2
  go_ret
  exact ⟨_, rfl, ⟨_, heap_alloc_new w _, Nat.le_refl _, hB, Kd.S_nil _ _ _ _ _⟩, below_alloc (Below.refl _ _) _⟩
set_option maxHeartbeats 400000 in
theorem f13_any (B g : Nat) (ok : Nat → Prop) (os : List Ord) (w : World) (h : BookAt w B ok g os) : Calls Tryz.prog 13 #[.pointer (some ⟨g, 0, none⟩)] w fun e w' => e = .returned (.int .i64 os.length) ∧ w' = w := by
  obtain ⟨A, c, hc, hf, hn, _, _⟩ := h.head
  clear h
  go_enter Tryz.func13, Tryz.ntmps13
  go_wp2
  go_ret
  exact ⟨rfl, rfl⟩
set_option maxHeartbeats 400000 in
theorem f15_none (B g : Nat) (ok : Nat → Prop) (os : List Ord) (no : Int) (w : World) (h : BookAt w B ok g os) (hst : Tq.stateAt os no = none) :
    Calls Tryz.prog 15 #[.pointer (some ⟨g, 0, none⟩), .int .i64 no] w fun e w' => e = .returned (.slice none 0 0) ∧ Below w.heap.size w w' := by
  obtain ⟨A, c, hc, hf, hn, _, _⟩ := h.head
  have hs := state_none hst
  clear h hst
  by_cases h0 : no < 0
  · go_enter Tryz.func15, Tryz.ntmps15
    go_wp2
    go_ret
    exact ⟨rfl, Below.refl _ _⟩
  · go_enter Tryz.func15, Tryz.ntmps15
    go_wp2
    go_ret
    exact ⟨rfl, Below.refl _ _⟩
/-- What the contracts ask of an order's lengths. -/
def Small (o : Ord) : Prop := o.wants.length ≤ 1000 ∧ o.takes.length ≤ 1000 ∧ ∀ ts ∈ o.takes, ts.length ≤ 1000000
theorem kTs_C_of_S {w : World} {B : Nat} {oki : Nat → Prop} {v : Value} {tss : List (List Take)} (h : Kd.S kTs 53 w B oki v tss) : ∃ A c, v = .slice A tss.length c ∧ tss.length ≤ c ∧ kTs.C w A tss.length tss := Kd.S_reads h
set_option maxHeartbeats 400000 in
theorem f15_any (B g : Nat) (ok : Nat → Prop) (os : List Ord) (no : Int) (o : Ord) (w : World) (h : BookAt w B ok g os) (hst : Tq.stateAt os no = some o) (hsm : Small o) :
    Calls Tryz.prog 15 #[.pointer (some ⟨g, 0, none⟩), .int .i64 no] w fun e w' => ∃ v', e = .returned v' ∧ Kd.S kTs 53 w' w.heap.size (fun i => w.heap.size ≤ i) v' o.takes ∧ Below w.heap.size w w' := by
  obtain ⟨A1, c1, hc, hf, hn, _, _⟩ := h.head
  obtain ⟨h0, h1, hget⟩ := state_some hst
  obtain ⟨gr, v0, v3, oki, rfl, hne, hokr, hBr, hlt, k0, k1, k2, k3, hfz, hw, ht, hoki, hH⟩ := h.lend hc h0 h1
  rw [hget] at ht
  obtain ⟨A3, c3, rfl, hl3, hC3⟩ := kTs_C_of_S ht
  have hcall := f46_any A3 c3 o.takes w (by have := hsm.2.1; omega) (fun ts hts => by have := hsm.2.2 ts hts; omega) hC3
  clear hst h hf hget k0 k1 k2 hfz hw ht hoki hH hC3 hsm
  go_enter Tryz.func15, Tryz.ntmps15
  go_wp2_with (go_at_call 46; refine hcall.mono ?_; rintro e w1 ⟨v', rfl, hS, hb⟩)
  go_ret
  exact ⟨v', rfl, hS, hb⟩
theorem blk_facts {w : World} {g : Nat} {cs : Array Value} {t : TypeId} (h : w.heap[g]? = some (.cells cs t (0, 0))) : (∀ j, w.cell? ⟨g, j, none⟩ = cs[j]?) ∧ (∀ j, w.frozen? ⟨g, j, none⟩ = false) :=
  ⟨fun j => cell_of_row w g j cs t (0, 0) h, fun j => by simp [World.frozen?, h]⟩
theorem heap_alloc_at (w : World) (o : Obj) (k : Nat) (h : k = w.heap.size) : (w.alloc o).heap[k]? = some o := by subst h; exact heap_alloc_new w o
theorem bcell {W w1 : World} (hb : Below W.heap.size W w1) : (∀ b o, b < W.heap.size → w1.cell? ⟨b, o, none⟩ = W.cell? ⟨b, o, none⟩) ∧ (∀ b o, b < W.heap.size → w1.frozen? ⟨b, o, none⟩ = W.frozen? ⟨b, o, none⟩) :=
  ⟨fun b o h => hb.cell (p := ⟨b, o, none⟩) h, fun b o h => hb.frozen (p := ⟨b, o, none⟩) h⟩
set_option maxHeartbeats 400000 in
theorem f14_none (B g : Nat) (ok : Nat → Prop) (os : List Ord) (no : Int) (w : World) (h : BookAt w B ok g os) (hst : Tq.stateAt os no = none) :
    Calls Tryz.prog 14 #[.pointer (some ⟨g, 0, none⟩), .int .i64 no] w fun e w' => e = .returned (.tuple #[.agg #[.slice none 0 0, .int .i64 0, .int .i64 0], .bool false]) ∧ Below w.heap.size w w' := by
  obtain ⟨A, c, hc, hf, hn, _, _⟩ := h.head
  have hs := state_none hst
  have hgl := h.lt
  have hg1 : g ≠ w.heap.size := by omega
  clear h hst
  by_cases h0 : no < 0
  · go_enter Tryz.func14, Tryz.ntmps14
    go_wp2
    exact bodyPost_ret (v := .tuple #[.agg #[.slice none 0 0, .int .i64 0, .int .i64 0], .bool false]) (by simp [results, Tryz.results14, go_sem]) rfl ⟨rfl, by repeat (first | exact Below.refl _ _ | refine below_alloc ?_ _ | refine Below.setCell ?_ (by simp) _)⟩
  · go_enter Tryz.func14, Tryz.ntmps14
    go_wp2
    exact bodyPost_ret (v := .tuple #[.agg #[.slice none 0 0, .int .i64 0, .int .i64 0], .bool false]) (by simp [results, Tryz.results14, go_sem]) rfl ⟨rfl, by repeat (first | exact Below.refl _ _ | refine below_alloc ?_ _ | refine Below.setCell ?_ (by simp) _)⟩
set_option maxHeartbeats 400000 in
theorem f14_any (B g : Nat) (ok : Nat → Prop) (os : List Ord) (no : Int) (o : Ord) (w : World) (h : BookAt w B ok g os) (hst : Tq.stateAt os no = some o) (hsm : Small o) :
    Calls Tryz.prog 14 #[.pointer (some ⟨g, 0, none⟩), .int .i64 no] w fun e w' => ∃ v', e = .returned (.tuple #[.agg #[v', .int .i64 o.due, .int .i64 o.state], .bool true]) ∧ kW.R 100 w' w.heap.size (fun i => w.heap.size ≤ i) v' o.wants ∧ Below w.heap.size w w' := by
  obtain ⟨A1, c1, hc, hf, hn, _, _⟩ := h.head
  obtain ⟨h0, h1, hget⟩ := state_some hst
  obtain ⟨gr, v0, v3, oki, rfl, hne, hokr, hBr, hlt, k0, k1, k2, k3, hfz, hw, ht, hoki, hH⟩ := h.lend hc h0 h1
  rw [hget] at k1 k2 hw
  obtain ⟨A3, c3, rfl, hl3, hC3⟩ := Kd.R_reads hw
  have hC4 := Kd.C_below hC3 (below_alloc (below_alloc (Below.refl w.heap.size w) (.cells #[.slice none 0 0, .int .i64 0, .int .i64 0] 38)) (.cells #[.slice A3 o.wants.length c3, .int .i64 o.due, .int .i64 o.state] 38))
  have hgl := h.lt
  have hg1 : g ≠ w.heap.size := by omega
  have hg2 : gr ≠ w.heap.size := by omega
  have hcall := f45_any A3 c3 o.wants _ (by have := hsm.1; omega) hC4
  clear hst h hf hget k3 hfz hw ht hoki hH hC3 hC4 hsm
  go_enter Tryz.func14, Tryz.ntmps14
  go_wp2_with (go_at_call 45; refine hcall.mono ?_; rintro e w1 ⟨v', rfl, hR, hb⟩; refine Hid.out ?_)
  refine Lib.hid ?_
  obtain ⟨A', c', rfl⟩ := Kd.R_slice hR
  have HR := Aside0.mk (Kd.R_lower (base' := w.heap.size) hR (by simp; omega))
  have HB := Aside0.mk hb
  have hz : w.heap.size + 1 < w1.heap.size := by have := hb.size; simp at this; omega
  have hX := (hb.block w.heap.size (by simp; omega)).trans ((Below.heap_alloc _ _ _ (by simp)).trans (heap_alloc_new w _))
  have hY := (hb.block (w.heap.size + 1) (by simp)).trans (heap_alloc_at _ _ _ (by simp))
  have q0 : w1.cell? ⟨w.heap.size, 0, none⟩ = some (.slice none 0 0) := (blk_facts hX).1 0
  have q1 : w1.cell? ⟨w.heap.size, 1, none⟩ = some (.int .i64 0) := (blk_facts hX).1 1
  have q2 : w1.cell? ⟨w.heap.size, 2, none⟩ = some (.int .i64 0) := (blk_facts hX).1 2
  have r0 : w1.cell? ⟨w.heap.size + 1, 0, none⟩ = some (.slice A3 o.wants.length c3) := (blk_facts hY).1 0
  have r1 : w1.cell? ⟨w.heap.size + 1, 1, none⟩ = some (.int .i64 o.due) := (blk_facts hY).1 1
  have r2 : w1.cell? ⟨w.heap.size + 1, 2, none⟩ = some (.int .i64 o.state) := (blk_facts hY).1 2
  have p0 := (blk_facts hX).2
  have p1 := (blk_facts hY).2
  clear hR hb hcall hc k0 k1 k2 hX hY
  go_wp2
  refine bodyPost_ret (v := .tuple #[.agg #[.slice A' o.wants.length c', .int .i64 o.due, .int .i64 o.state], .bool true]) (by simp [results, Tryz.results14, go_sem, q0, q1, q2, r0, r1, r2]) rfl ⟨_, rfl, ?_, ?_⟩
  · refine Kd.R_mono (Kd.R_far (p := ⟨w.heap.size, 2, none⟩) (Kd.R_far (p := ⟨w.heap.size, 1, none⟩) (Kd.R_far (p := ⟨w.heap.size, 0, none⟩) (Kd.R_far (p := ⟨w.heap.size + 1, 0, none⟩) HR.out (fun k hk => ?_) _) (fun k hk => ?_) _) (fun k hk => ?_) _) (fun k hk => ?_) _) (fun k hk => ?_)
    all_goals (simp at hk ⊢; omega)
  · have h1 := ((below_alloc (below_alloc (Below.refl w.heap.size w) _) _).trans (HB.out.mono (by simp; omega)))
    exact (((h1.setCell (p := ⟨w.heap.size + 1, 0, none⟩) (by simp) _).setCell (p := ⟨w.heap.size, 0, none⟩) (by simp) _).setCell (p := ⟨w.heap.size, 1, none⟩) (by simp) _).setCell (p := ⟨w.heap.size, 2, none⟩) (by simp) _
end Go.Proofs.YtcliaokoganbaaaGreatDoor
