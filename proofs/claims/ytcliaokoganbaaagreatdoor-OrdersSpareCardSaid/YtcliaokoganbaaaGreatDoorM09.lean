/-
  Part 9 of the proof of the card: lemmas and walks, joined by mergeclaim.py out of the texts CF, CG, CH, CI.
-/
import Derived.Test.YtcliaokoganbaaaGreatDoorM08
import Derived.Deep.RegionLaw
import Derived.Deep.AppendLies
import Derived.Lib.BufferMore
set_option linter.unusedVariables false
set_option linter.unusedSimpArgs false
namespace Go.Proofs.YtcliaokoganbaaaGreatDoor
open Go Go.RowKit Go.Shelf Go.Proofs.YtcliaokoganbaaaGreatDoorW.PrintWords Go.Proofs.YtcliaokoganbaaaGreatDoorW.PrintLast Go.Proofs.YtcliaokoganbaaaGreatDoorW.PrintMore
open Tq (Lot Box Want Take Ord Op)

/-! ### Ask -/
theorem snoc_slice {α : Type} {d : Kd α} {e : Nat} {w : World} {B : Nat} {ok : Nat → Prop} {v : Value} {xs : List α} {x : α} (h : Kd.S d e w B ok v (xs ++ [x])) : ∃ A c, v = .slice A (xs.length + 1) c := by
  obtain ⟨A, c, hv⟩ := Kd.S_slice h
  exact ⟨A, c, by rw [hv]; simp⟩
theorem below_undrew {w w2 : World} (h : Below w.drew.heap.size w.drew w2) : Below w.heap.size w w2 := ⟨h.os, h.tape, h.output, h.size, h.block⟩
theorem keepG {w w1 : World} {a : Addr} {v : Value} {row : Option Nat} (hg : w.grownBy w1 row) (h1 : w.cell? a = some v) (h2 : w.frozen? a = false) (hne : some a.block ≠ row) : w1.cell? a = some v ∧ w1.frozen? a = false :=
  ⟨(World.cell?_of_block (hg.block a.block (World.block_lt_of_cell? w a h1) hne)).trans h1, (World.frozen?_of_block (hg.block a.block (World.block_lt_of_cell? w a h1) hne)).trans h2⟩
theorem keepS {w : World} {a : Addr} {v : Value} {o : Obj} (h1 : w.cell? a = some v) (h2 : w.frozen? a = false) : (w.alloc o).cell? a = some v ∧ (w.alloc o).frozen? a = false := by
  have hb := below_alloc (Below.refl w.heap.size w) o
  have hlt := World.block_lt_of_cell? w a h1
  exact ⟨(hb.cell hlt).trans h1, (hb.frozen hlt).trans h2⟩
theorem BookAt.put {w w1 : World} {B g : Nat} {ok ok' : Nat → Prop} {os os' : List Ord} {v : Value} (h : BookAt w B ok g os) (hh : w1.heap[g]? = w.heap[g]?) (hok : ok' g) (hS : Kd.S kO 96 w1 B (fun k => ok' k ∧ k ≠ g) v os') : BookAt (w1.setCell ⟨g, 0, none⟩ v) B ok' g os' := by
  obtain ⟨v0, hb, ho, hB, _⟩ := h
  exact ⟨v, Lib.heap_setCell_same (i := 0) (hh.trans hb) v, hok, hB, Kd.S_step hS (fun k hk hlt => Below.heap_setCell w1 _ v k hk.2)⟩
set_option maxRecDepth 100000 in
set_option maxHeartbeats 1000000 in
theorem f18_ok (B g : Nat) (ok : Nat → Prop) (os : List Ord) (A : Option Addr) (c : Nat) (ws : List Want) (due : Int) (w : World) (h : BookAt w B ok g os) (hBw : B ≤ w.heap.size) (hC : kW.C w A ws.length ws) (hr : Tq.rightWants ws due = true) (hl : os.length < 1000) :
    Calls Tryz.prog 18 #[.pointer (some ⟨g, 0, none⟩), .slice A ws.length c, .int .i64 due] w fun e w' =>
      e = .returned (.tuple #[.int .i64 os.length, .int .i64 0]) ∧ BookAt w' B (fun k => ok k ∨ w.heap.size ≤ k) g (os ++ [⟨ws, due, 0, []⟩]) ∧ Mut ok w w' := by
  have hwl := (Tq.rightWants_bounds hr).2.1
  have hc48 := f48_any A c ws due w hC
  rw [hr] at hc48
  have HB0 := Aside0.mk h
  have HC := Aside0.mk hC
  clear h hC hr
  go_enter Tryz.func18, Tryz.ntmps18
  go_wp2_with (go_at_call 48; refine hc48.mono ?_; rintro e w1 ⟨rfl, hb⟩; refine Hid.out ?_)
  refine Lib.hid ?_
  have HB1 := Aside0.mk (HB0.out.below hb)
  have HC1 := Aside0.mk (Kd.C_below HC.out hb)
  have HM := Aside0.mk hb
  obtain ⟨A1, c1, hc, hf, hn, hS1, _⟩ := HB1.out.head
  have HS1 := Aside0.mk hS1
  clear hb hc48 hS1 hn
  have hl2 : ((os.length : Nat) : Int) < 1000 := by omega
  go_wp2_with fail
  have hcall := fun W (hW : Below w1.heap.size w1 W) => f45_any A c ws W (by omega) (Kd.C_below HC1.out hW)
  have hlt := HB1.out.lt
  have HMB := Aside0.mk (show Below B w w1 from HM.out.mono hBw)
  have hgw : g < w.heap.size := HB0.out.lt
  have HLT1 := Aside0.mk (show w.heap.size ≤ w1.heap.size from HM.out.size)
  have prep : ∀ (w2 : World) (A2 : Option Addr) (c2 : Nat), Below w1.heap.size w1 w2 → kW.R 100 w2 w1.heap.size (fun i => w1.heap.size ≤ i) (.slice A2 ws.length c2) ws →
      kO.M w2 B (fun k => w1.heap.size ≤ k ∧ k < w2.heap.size) ⟨ws, due, 0, []⟩ [.slice A2 ws.length c2, .int .i64 due, .int .i64 0, .slice none 0 0] ∧
      Kd.S kO 96 w2 B (fun k => ((ok k ∨ w.heap.size ≤ k) ∧ k ≠ g) ∧ ¬ (w1.heap.size ≤ k ∧ k < w2.heap.size)) (.slice A1 os.length c1) os ∧ Below B w w2 ∧ B ≤ w2.heap.size ∧
      (∀ k, (w1.heap.size ≤ k ∧ k < w2.heap.size) → ((ok k ∨ w.heap.size ≤ k) ∧ k ≠ g) ∧ some k ≠ (Value.slice A1 os.length c1).ownBlock) ∧ (∀ k, w2.heap.size ≤ k → (ok k ∨ w.heap.size ≤ k) ∧ k ≠ g) := by
    intro w2 A2 c2 hb2 hR2
    have h1 := HLT1.out
    have h2 := hb2.size
    refine ⟨kO_mkM ⟨ws, due, 0, []⟩ (Kd.R_lower (Kd.R_mono (Kd.R_bound hR2) (fun k hk => ⟨hk.1, hk.2.2.1⟩)) (by omega)) S_nil_any, ?_, HMB.out.trans (hb2.mono (by omega)), by omega, fun k hk => ⟨⟨.inr (by omega), by omega⟩, fun he => ?_⟩, fun k hk => ⟨.inr (by omega), by omega⟩⟩
    · exact Kd.S_below (Kd.S_mono (Kd.S_bound HS1.out) (fun k hk => ⟨⟨.inl hk.1.1, hk.1.2⟩, fun hh => by have := hk.2.2.1; omega⟩)) hb2
    · have := Kd.S_lt HS1.out k he.symm; omega
  have hgr3 : some g ≠ (Value.slice A1 os.length c1).ownBlock := fun he => ((Kd.S_R HS1.out).1 g he.symm).2 rfl
  have HP := Aside0.mk prep
  clear prep
  go_region_law (first | (refine Kd.S_append_step kO B (by simp [Region.wanted]) (.tmp 24) (.tmp 30) 91 96 (.agg #[.slice none 0 0, .int .i64 0, .int .i64 0, .slice none 0 0]) 64 (by rfl) Tryz.underlying91 info96 (by rfl) (by decide) (by decide) (.slice A1 os.length c1) os ⟨ws, due, 0, []⟩ [.slice A2 ws.length c2, .int .i64 due, .int .i64 0, .slice none 0 0] _ _ (by rfl) (by rfl) pM po pf pS pB pb (by omega) ?_; intro v3 w3 hS3 hB3 hg3 hat3; obtain ⟨A3, c3, rfl⟩ := snoc_slice hS3; obtain ⟨hc3, hf3⟩ := keepG hg3 hcw2 hfw2 hgr3) | (go_simp; go_at_call 45; refine (hcall _ ?_).mono ?_; exact ((Below.refl _ _).drew); rintro e w2 ⟨v', rfl, hR2, hb2⟩; obtain ⟨A2, c2, rfl⟩ := Kd.R_slice hR2; have hlt2 : g < w2.heap.size := Nat.lt_of_lt_of_le hlt hb2.size; have hcw2 := cell_on hb2 hc; have hfw2 : w2.frozen? ⟨g, 0, none⟩ = false := (hb2.frozen (p := ⟨g, 0, none⟩) hlt).trans hf; obtain ⟨pM, pS, pB, pb, po, pf⟩ := HP.out w2 A2 c2 (below_undrew hb2) hR2))
  all_goals (
    rename_i Kn hKn
    refine hKn _ _ ?_
    clear hKn
    have hh := HB1.out.put (w1 := w3) ((hg3.block g hlt2 hgr3).trans (hb2.block g hlt)) (ok' := fun k => ok k ∨ w.heap.size ≤ k) (.inl HB1.out.okg) hS3
    have HBB := Aside0.mk hh
    obtain ⟨v0, hb0, _⟩ := HB1.out
    have he4 : (w3.setCell ⟨g, 0, none⟩ (.slice A3 (os.length + 1) c3)).cell? ⟨g, 0, none⟩ = some (.slice A3 (os.length + 1) c3) := (blk_facts (Lib.heap_setCell_same (i := 0) (((hg3.block g hlt2 hgr3).trans (hb2.block g hlt)).trans hb0) (.slice A3 (os.length + 1) c3))).1 0
    have hl9 : IntKind.i64.wrap ((((os.length + 1 : Nat) : Nat) : Int) - 1) = ((os.length : Nat) : Int) := by rw [IntKind.wrap_i64]; omega
    have hl10 : IntKind.i64.wrap (((os.length : Nat) : Int) + 1 - 1) = ((os.length : Nat) : Int) := by rw [IntKind.wrap_i64]; omega
    clear hh hb0
    go_wp2
    go_ret2
    refine ⟨rfl, HBB.out, ?_⟩
    refine ((((Mut.of_below HM.out ok).below (Below.mono (below_undrew hb2) (Nat.le_refl _))).grown hg3 ?_).setCell (.inl HB1.out.okg) _)
    intro i hi
    exact .inl (((Kd.S_R HS1.out).1 i hi).1))
end Go.Proofs.YtcliaokoganbaaaGreatDoor
set_option linter.unusedVariables false
set_option linter.unusedSimpArgs false
namespace Go.Proofs.YtcliaokoganbaaaGreatDoor
open Go Go.RowKit Go.Shelf Go.Proofs.YtcliaokoganbaaaGreatDoorW.PrintWords Go.Proofs.YtcliaokoganbaaaGreatDoorW.PrintLast Go.Proofs.YtcliaokoganbaaaGreatDoorW.PrintMore
open Tq (Lot Box Want Take Ord Op)

set_option maxRecDepth 100000 in
theorem f18_arg (g : Nat) (A : Option Addr) (c : Nat) (ws : List Want) (due : Int) (w : World) (hC : kW.C w A ws.length ws) (hr : Tq.rightWants ws due = false) :
    Calls Tryz.prog 18 #[.pointer (some ⟨g, 0, none⟩), .slice A ws.length c, .int .i64 due] w fun e w' =>
      e = .returned (.tuple #[.int .i64 0, .int .i64 1]) ∧ Below w.heap.size w w' := by
  have hc48 := f48_any A c ws due w hC
  rw [hr] at hc48
  clear hC hr
  go_enter Tryz.func18, Tryz.ntmps18
  go_wp2_with (go_at_call 48; refine hc48.mono ?_; rintro e w1 ⟨rfl, hb⟩)
  go_ret2
  exact ⟨rfl, hb⟩
set_option maxRecDepth 100000 in
theorem f18_full (B g : Nat) (ok : Nat → Prop) (os : List Ord) (A : Option Addr) (c : Nat) (ws : List Want) (due : Int) (w : World) (h : BookAt w B ok g os) (hC : kW.C w A ws.length ws) (hr : Tq.rightWants ws due = true) (hl : 1000 ≤ os.length) :
    Calls Tryz.prog 18 #[.pointer (some ⟨g, 0, none⟩), .slice A ws.length c, .int .i64 due] w fun e w' =>
      e = .returned (.tuple #[.int .i64 0, .int .i64 6]) ∧ Below w.heap.size w w' := by
  have hc48 := f48_any A c ws due w hC
  rw [hr] at hc48
  have HB0 := Aside0.mk h
  clear hC hr h
  go_enter Tryz.func18, Tryz.ntmps18
  go_wp2_with (go_at_call 48; refine hc48.mono ?_; rintro e w1 ⟨rfl, hb⟩; refine Hid.out ?_)
  refine Lib.hid ?_
  have HM := Aside0.mk hb
  obtain ⟨A1, c1, hc, hf, hn, hS1, _⟩ := (HB0.out.below hb).head
  clear hb hc48 hS1 hn
  have hl2 : ¬ ((os.length : Nat) : Int) < 1000 := by omega
  have hl3 : (1000 : Int) ≤ ((os.length : Nat) : Int) := by omega
  go_wp2
  go_ret2
  exact ⟨rfl, HM.out⟩
/-- Ask is 'Tq.ask'. -/
theorem f18_any (B g : Nat) (ok : Nat → Prop) (os : List Ord) (A : Option Addr) (c : Nat) (ws : List Want) (due : Int) (w : World) (h : BookAt w B ok g os) (hBw : B ≤ w.heap.size) (hC : kW.C w A ws.length ws) :
    Calls Tryz.prog 18 #[.pointer (some ⟨g, 0, none⟩), .slice A ws.length c, .int .i64 due] w fun e w' =>
      e = .returned (.tuple #[.int .i64 (Tq.ask os ws due).1, .int .i64 (Tq.ask os ws due).2.1]) ∧ BookAt w' B (fun k => ok k ∨ w.heap.size ≤ k) g (Tq.ask os ws due).2.2 ∧ Mut ok w w' := by
  unfold Tq.ask
  cases hr : Tq.rightWants ws due with
  | false =>
    refine (f18_arg g A c ws due w hC hr).mono ?_
    rintro e w' ⟨rfl, hb⟩
    exact ⟨rfl, (h.below hb).mono (fun _ hk => .inl hk), Mut.of_below hb _⟩
  | true =>
    by_cases hl : 1000 ≤ os.length
    · refine (f18_full B g ok os A c ws due w h hC hr hl).mono ?_
      rintro e w' ⟨rfl, hb⟩
      simp only [Bool.not_true, Bool.false_eq_true, if_false, if_pos hl]
      exact ⟨trivial, (h.below hb).mono (fun _ hk => .inl hk), Mut.of_below hb _⟩
    · refine (f18_ok B g ok os A c ws due w h hBw hC hr (by omega)).mono ?_
      rintro e w' ⟨rfl, hb, hm⟩
      simp only [Bool.not_true, Bool.false_eq_true, if_false, if_neg hl]
      exact ⟨trivial, hb, hm⟩
end Go.Proofs.YtcliaokoganbaaaGreatDoor
set_option linter.unusedVariables false
set_option linter.unusedSimpArgs false
namespace Go.Proofs.YtcliaokoganbaaaGreatDoor
open Go Go.RowKit Go.Shelf Go.Proofs.YtcliaokoganbaaaGreatDoorW.PrintWords Go.Proofs.YtcliaokoganbaaaGreatDoorW.PrintLast Go.Proofs.YtcliaokoganbaaaGreatDoorW.PrintMore
open Tq (Lot Box Want Take Ord Op)

/-! ### Copy -/
/-- A row of orders, of which the first k are made anew. -/
def OMade (lo base : Nat) (inner : List Value) (v : Value) (os : List Ord) (k : Nat) (wr : World) : Prop :=
  ∃ vs b, vs.length = k * 4 ∧ wr.ownsRow base 96 4 v os.length (vs ++ inner.drop (k * 4)) ∧ Stack k b wr.heap.size ∧ (∀ g, v.ownBlock = some g → g < b 0) ∧
    (∀ j x, j < k → os[j]? = some x → kO.M wr base (fun i => b j ≤ i ∧ i < b (j + 1)) x ((vs.drop (j * 4)).take 4)) ∧ lo ≤ b 0
theorem OMade.start {lo base : Nat} {inner : List Value} {v : Value} {os : List Ord} {wr : World} (h : wr.ownsRow base 96 4 v os.length inner) (hlo : lo ≤ wr.heap.size) : OMade lo base inner v os 0 wr :=
  ⟨[], fun _ => wr.heap.size, rfl, by simpa using h, Stack.zero _ _ (Nat.le_refl _), fun g hg => own_lt h g hg, fun j x hj => by omega, hlo⟩
theorem OMade.below {lo base : Nat} {inner : List Value} {v : Value} {os : List Ord} {k : Nat} {wr w1 : World} (h : OMade lo base inner v os k wr) (hb : Below wr.heap.size wr w1) : OMade lo base inner v os k w1 := by
  obtain ⟨vs, b, h1, h2, h3, h4, h5, h6⟩ := h
  exact ⟨vs, b, h1, pw_own_below h2 hb, ⟨h3.mono, Nat.le_trans h3.top hb.size⟩, h4, fun j x hj hx => Kd.M_below (h5 j x hj hx) hb, h6⟩
theorem OMade.cell {lo base : Nat} {inner : List Value} {g cap : Nat} {os : List Ord} {k : Nat} {wr : World} (h : OMade lo base inner (.slice (some ⟨g, 0, none⟩) os.length cap) os k wr) (j : Nat) (hj : k * 4 ≤ j) (hj2 : j < os.length * 4) (hl : inner.length = os.length * 4) :
    wr.cell? ⟨g, j, none⟩ = inner[j]? ∧ wr.frozen? ⟨g, j, none⟩ = false := by
  obtain ⟨vs, b, h1, h2, h3, h4, h5, h6⟩ := h
  refine ⟨?_, h2.frozenAt j⟩
  rw [h2.cellAt j (by omega), List.getElem?_append_right (by omega), List.getElem?_drop]
  congr 1; omega
theorem OMade.push {lo base : Nat} {inner : List Value} {g cap : Nat} {os : List Ord} {k : Nat} {wr w1 : World} {u0 u3 : Value} {x : Ord} (h : OMade lo base inner (.slice (some ⟨g, 0, none⟩) os.length cap) os k wr) (hk : k < os.length) (hl : inner.length = os.length * 4)
    (hx : os[k]? = some x) (hb : Below wr.heap.size wr w1) (hi1 : inner[k * 4 + 1]? = some (.int .i64 x.due)) (hi2 : inner[k * 4 + 2]? = some (.int .i64 x.state))
    (hw : kW.R 100 w1 base (fun i => wr.heap.size ≤ i) u0 x.wants) (ht : Kd.S kTs 53 w1 base (fun i => wr.heap.size ≤ i) u3 x.takes) :
    OMade lo base inner (.slice (some ⟨g, 0, none⟩) os.length cap) os (k + 1) ((w1.setCell ⟨g, k * 4, none⟩ u0).setCell ⟨g, k * 4 + 3, none⟩ u3) := by
  obtain ⟨vs, b, h1, h2, h3, h4, h5, h6⟩ := h
  have hg := h4 g (by simp [Value.ownBlock])
  have hsz : ((w1.setCell ⟨g, k * 4, none⟩ u0).setCell ⟨g, k * 4 + 3, none⟩ u3).heap.size = w1.heap.size := by simp [World.setCell]
  have h20 := pw_own_below h2 hb
  have h2' := (h20.stored (k * 4) u0).1.stored (k * 4 + 3) u3
  have hgl := own_lt h2 g (by simp [Value.ownBlock])
  have hfar : ∀ (okk : Nat → Prop) (y : Ord) (cs : List Value), (∀ i, okk i → i ≠ g) → kO.M w1 base okk y cs → kO.M ((w1.setCell ⟨g, k * 4, none⟩ u0).setCell ⟨g, k * 4 + 3, none⟩ u3) base okk y cs := fun okk y cs hne hM => Kd.M_far (p := ⟨g, k * 4 + 3, none⟩) (Kd.M_far (p := ⟨g, k * 4, none⟩) hM hne u0) hne u3
  refine ⟨vs ++ [u0, .int .i64 x.due, .int .i64 x.state, u3], fun j => if j ≤ k then b j else w1.heap.size, by simp [h1]; omega, ?_, by rw [hsz]; exact h3.push hb.size, fun g' hg' => by have := h4 g' hg'; simpa using this, fun j x' hj hx' => ?_, by simpa using h6⟩
  · have e1 : (((vs ++ inner.drop (k * 4)).set (k * 4) u0).set (k * 4 + 3) u3) = (vs ++ [u0, .int .i64 x.due, .int .i64 x.state, u3]) ++ inner.drop ((k + 1) * 4) := by
      have d0 : k * 4 < inner.length := by omega
      have d1 : k * 4 + 1 < inner.length := by omega
      have d2 : k * 4 + 2 < inner.length := by omega
      have d3 : k * 4 + 3 < inner.length := by omega
      rw [List.getElem?_eq_getElem d1] at hi1
      rw [List.getElem?_eq_getElem d2] at hi2
      rw [List.set_append_right _ _ (by omega), h1, Nat.sub_self, List.drop_eq_getElem_cons d0, List.set_cons_zero, List.drop_eq_getElem_cons d1, List.drop_eq_getElem_cons d2, Option.some.inj hi1, Option.some.inj hi2,
        List.set_append_right _ _ (by omega), h1, show k * 4 + 3 - k * 4 = 3 by omega, show (k + 1) * 4 = k * 4 + 3 + 1 by omega, show k * 4 + 2 + 1 = k * 4 + 3 by omega]
      simp only [List.set_cons_succ, List.append_assoc, List.cons_append, List.nil_append]
      congr 4
      conv => lhs; rw [List.drop_eq_getElem_cons d3]
      rfl
    rw [e1] at h2'
    exact h2'.1
  · by_cases hlt : j < k
    · have := Kd.M_below (h5 j x' hlt hx') hb
      rw [List.drop_append_of_le_length (by omega), List.take_append_of_le_length (by rw [List.length_drop]; omega)]
      refine hfar _ _ _ (fun i hi => ?_) (kO.M_mono (fun i hi => ?_) this)
      · have := h3.mono 0 j (by omega) (by omega)
        simp only [show j ≤ k by omega, if_true] at hi; omega
      · simp only [show j ≤ k by omega, show j + 1 ≤ k by omega, if_true]; exact hi
    · obtain rfl : j = k := by omega
      rw [hx] at hx'; have := Option.some.inj hx'; subst this
      rw [show (vs ++ [u0, Value.int .i64 x.due, .int .i64 x.state, u3]).drop (j * 4) = [u0, Value.int .i64 x.due, .int .i64 x.state, u3] by rw [← h1]; exact List.drop_left, List.take_of_length_le (by simp)]
      refine hfar _ _ _ (fun i hi => ?_) (kO.M_mono (fun i hi => ?_) (kO.M_bound (kO_mkM x hw ht)))
      · have := h3.mono 0 j (by omega) (by omega)
        simp only [Nat.le_refl, if_true] at hi; omega
      · simp only [Nat.le_refl, if_true, show ¬ j + 1 ≤ j by omega, if_false]
        exact ⟨Nat.le_trans h3.top hi.1, hi.2.2.1⟩
theorem OMade.done {lo base : Nat} {inner : List Value} {v : Value} {os : List Ord} {wr : World} (h : OMade lo base inner v os os.length wr) (hl : inner.length = os.length * 4) : Kd.S kO 96 wr base (fun i => base ≤ i ∧ (v.ownBlock = some i ∨ lo ≤ i)) v os := by
  obtain ⟨vs, b, h1, h2, h3, h4, h5, h6⟩ := h
  rw [← hl, List.drop_length, List.append_nil] at h2
  obtain ⟨f, hr⟩ := Kd.reps_tag (d := kO) (w := wr) (base := base) (ok := fun i => (base ≤ i ∧ (v.ownBlock = some i ∨ lo ≤ i)) ∧ some i ≠ v.ownBlock) (xs := os) (inner := vs) (fun j i => j < os.length ∧ b j ≤ i ∧ i < b (j + 1) ∧ base ≤ i)
    (fun i j x hi hj => h3.apart hi.1 hj.1 ⟨hi.2.1, hi.2.2.1⟩ ⟨hj.2.1, hj.2.2.1⟩)
    (fun j i hi => ⟨⟨hi.2.2.2, .inr (by have := h3.mono 0 j (by omega) (by omega); omega)⟩, fun he => by have := h4 i he.symm; have := h3.mono 0 j (by omega) (by omega); omega⟩)
    h1
    (fun j x hx => by
      have hj : j < os.length := (List.getElem?_eq_some_iff.1 hx).1
      exact kO.M_mono (fun i hi => ⟨hj, hi.1.1, hi.1.2, hi.2.1⟩) (kO.M_bound (h5 j x hj hx)))
  refine ⟨f, fun i hi => ⟨own_base h2 i hi, .inl hi⟩, vs, ?_, ?_⟩
  · rw [List.length_zipIdx]; exact h2
  · exact hr
/-- The cells of a book's orders, as they are read. -/
theorem BookAt.cells {w : World} {B g : Nat} {ok : Nat → Prop} {os : List Ord} (h : BookAt w B ok g os) {A : Option Addr} {c : Nat} (hc : w.cell? ⟨g, 0, none⟩ = some (.slice A os.length c)) :
    ∃ inner, inner.length = os.length * 4 ∧ RawAt w A os.length inner ∧ (∀ u ∈ inner, u.oneCell' = true) ∧ ∀ (j : Nat) (x : Ord), os[j]? = some x → ∃ A0 c0 A3 c3,
      inner[j * 4]? = some (.slice A0 x.wants.length c0) ∧ inner[j * 4 + 1]? = some (.int .i64 x.due) ∧ inner[j * 4 + 2]? = some (.int .i64 x.state) ∧ inner[j * 4 + 3]? = some (.slice A3 x.takes.length c3) ∧
      kW.C w A0 x.wants.length x.wants ∧ kTs.C w A3 x.takes.length x.takes := by
  obtain ⟨A', c', hc', _, _, hS, hA⟩ := h.head
  rw [hc] at hc'
  injection hc' with hc'
  injection hc' with e1 e2 e3
  subst e1; subst e3
  obtain ⟨f, hb, inner, hown, hr⟩ := hS
  have hl : inner.length = os.length * 4 := by have := hown.1; rw [List.length_zipIdx] at this; exact this
  have hx4 : ∀ (j : Nat) (x : Ord), os[j]? = some x → ∃ v0 v3, (inner.drop (j * 4)).take 4 = [v0, .int .i64 x.due, .int .i64 x.state, v3] ∧ ∃ okk, kW.R 100 w B okk v0 x.wants ∧ Kd.S kTs 53 w B okk v3 x.takes := by
    intro j x hx
    have := hr.2 j (x, j) (by rw [List.getElem?_zipIdx, hx]; simp)
    obtain ⟨v0, v3, he, h0, h3⟩ := kO_openM (x := x) this
    exact ⟨v0, v3, he, _, h0, h3⟩
  refine ⟨inner, hl, fun hp => ?_, fun u hu => ?_, fun j x hx => ?_⟩
  · obtain ⟨gr, rfl⟩ := hA hp
    refine ⟨_, rfl, fun j u hj => ?_⟩
    rw [List.length_zipIdx] at hown
    have hown' : w.ownsRow B 96 4 (.slice (some ⟨gr, 0, none⟩) os.length c) os.length inner := hown
    have := hown'.cellAt j (by have := (List.getElem?_eq_some_iff.1 hj).1; omega)
    have e : (Addr.add ⟨gr, 0, none⟩ j) = ⟨gr, j, none⟩ := by unfold Addr.add; split <;> simp_all
    rw [e]
    exact this.trans hj
  · obtain ⟨i, hi, rfl⟩ := List.mem_iff_getElem.1 hu
    have hj : i / 4 < os.length := by omega
    obtain ⟨v0, v3, he, okk, h0, h3⟩ := hx4 (i / 4) _ (List.getElem?_eq_getElem hj)
    obtain ⟨A0, c0, rfl⟩ := Kd.R_slice h0
    obtain ⟨A3, c3, rfl⟩ := Kd.S_slice h3
    have hm : inner[i] ∈ (inner.drop (i / 4 * 4)).take 4 := by
      rw [List.mem_iff_getElem?]
      refine ⟨i % 4, ?_⟩
      rw [List.getElem?_take_of_lt (by omega), List.getElem?_drop, show i / 4 * 4 + i % 4 = i by omega, List.getElem?_eq_getElem hi]
    rw [he] at hm
    simp only [List.mem_cons, List.not_mem_nil, or_false] at hm
    rcases hm with hm | hm | hm | hm <;> rw [hm] <;> rfl
  · obtain ⟨v0, v3, he, okk, h0, h3⟩ := hx4 j x hx
    obtain ⟨A0, c0, rfl⟩ := Kd.R_slice h0
    obtain ⟨A3, c3, rfl⟩ := Kd.S_slice h3
    have hj : j < os.length := (List.getElem?_eq_some_iff.1 hx).1
    have hg : ∀ t u, t < 4 → ([Value.slice A0 x.wants.length c0, .int .i64 x.due, .int .i64 x.state, .slice A3 x.takes.length c3] : List Value)[t]? = some u → inner[j * 4 + t]? = some u := by
      intro t u ht hu
      rw [← he, List.getElem?_take_of_lt ht, List.getElem?_drop] at hu
      exact hu
    obtain ⟨_, _, e0, _, hC0⟩ := Kd.R_reads h0
    obtain ⟨_, _, e3, _, hC3⟩ := Kd.S_reads h3
    injection e0 with e01 e02 e03; subst e01
    injection e3 with e31 e32 e33; subst e31
    exact ⟨A0, c0, A3, c3, hg 0 _ (by omega) rfl, hg 1 _ (by omega) rfl, hg 2 _ (by omega) rfl, hg 3 _ (by omega) rfl, hC0, hC3⟩
end Go.Proofs.YtcliaokoganbaaaGreatDoor
set_option linter.unusedVariables false
set_option linter.unusedSimpArgs false
namespace Go.Proofs.YtcliaokoganbaaaGreatDoor
open Go Go.RowKit Go.Shelf Go.Proofs.YtcliaokoganbaaaGreatDoorW.PrintWords Go.Proofs.YtcliaokoganbaaaGreatDoorW.PrintLast Go.Proofs.YtcliaokoganbaaaGreatDoorW.PrintMore
open Tq (Lot Box Want Take Ord Op)

/-- What 'cloned' and 'Clone' can bear. -/
def Small2 (o : Ord) : Prop := o.wants.length * 24 ≤ 140737488355328 ∧ o.takes.length * 24 ≤ 140737488355328 ∧ ∀ ts ∈ o.takes, ts.length * 16 ≤ 140737488355328
set_option maxRecDepth 100000 in
set_option maxHeartbeats 2000000 in
theorem f11_any (B g : Nat) (ok : Nat → Prop) (os : List Ord) (w : World) (h : BookAt w B ok g os) (hbig : os.length * 64 ≤ 140737488355328) (hsm : ∀ o ∈ os, Small2 o) :
    Calls Tryz.prog 11 #[.pointer (some ⟨g, 0, none⟩)] w fun e w' => ∃ g', e = .returned (.pointer (some ⟨g', 0, none⟩)) ∧ BookAt w' w.heap.size (fun k => w.heap.size ≤ k) g' os ∧ Below w.heap.size w w' := by
  obtain ⟨A, c, hc, hf, hn, _, _⟩ := h.head
  obtain ⟨inner, hl, hraw, hone, hel⟩ := h.cells hc
  have hcl := f44_raw A os.length c inner w hl hn hbig hraw hone
  have HEL := Aside0.mk hel
  have HL := Aside0.mk hl
  have HSM := Aside0.mk hsm
  clear h hel hl hraw hone hsm
  go_enter Tryz.func11, Tryz.ntmps11
  go_wp2_with (go_at_call 44; refine hcl.mono ?_; rintro e w1 ⟨v', rfl, hown, hb⟩; obtain ⟨A', c', rfl⟩ := own_slice hown; refine Hid.out ?_)
  refine Lib.hid ?_
  have hblk : (w1.alloc (.cells #[.slice A' os.length c'] 93)).heap[w1.heap.size]? = some (.cells #[.slice A' os.length c'] 93 (0, 0)) := heap_alloc_at w1 _ _ rfl
  have HW1 := Aside0.mk (show w.heap.size ≤ w1.heap.size from hb.size)
  have HB := Aside0.mk (show Below w.heap.size w (w1.alloc (.cells #[.slice A' os.length c'] 93)) from below_alloc hb _)
  have HM := Aside0.mk (OMade.start (lo := w1.heap.size + 1) (pw_own_below hown (below_alloc (Below.refl _ w1) (.cells #[.slice A' os.length c'] 93))) (by simp))
  have hlt0 : w1.heap.size < (w1.alloc (.cells #[.slice A' os.length c'] 93)).heap.size := by simp
  have HNE := Aside0.mk (show ∀ gr, A' = some ⟨gr, 0, none⟩ → gr ≠ w1.heap.size from fun gr e => by have := own_lt hown gr (by rw [e]; rfl); omega)
  have HNE2 := Aside0.mk (show ∀ k, (Value.slice A' os.length c').ownBlock = some k → k ≠ w1.heap.size from fun k e => by have := own_lt hown k e; omega)
  clear hown hb hcl
  go_wp2
  go_loopw [4, 5, 18] (fun _ _ s18 wr => ∃ kk : Nat, kk ≤ os.length ∧ s18 = .int .i64 kk ∧ Aside0 (Below w.heap.size w wr) ∧ Aside0 (OMade (w1.heap.size + 1) w.heap.size inner (.slice A' os.length c') os kk wr) ∧ Aside0 (wr.heap[w1.heap.size]? = some (.cells #[.slice A' os.length c'] 93 (0, 0)))) (fun _ _ s18 _ => os.length - (intOf s18).toNat)
  case atStart => exact ⟨0, Nat.zero_le _, rfl, HB, HM, ⟨hblk⟩⟩
  case round =>
    obtain ⟨kk, hkk, rfl, BW, MW, GW⟩ := hrel
    by_cases hlt : kk < os.length
    · have hltz : (kk : Int) < (os.length : Int) := by omega
      have hget : os[kk]? = some os[kk] := List.getElem?_eq_getElem hlt
      have hmem := List.getElem_mem hlt
      generalize os[kk] = x at hget hmem
      obtain ⟨A0, c0, A3, c3, i0, i1, i2, i3, hC0, hC3⟩ := HEL.out kk x hget
      obtain ⟨hx1, hx2, hx3⟩ := HSM.out x hmem
      obtain ⟨gr, hA⟩ : ∃ gr, A' = some ⟨gr, 0, none⟩ := by
        obtain ⟨vs, b, _, h2, _⟩ := MW.out
        obtain ⟨gr, cap, he, _⟩ := h2.form (by omega)
        injection he with he _ _
        exact ⟨gr, he⟩
      subst hA
      have hne := HNE.out gr rfl
      have hcG := (blk_facts GW.out).1 0
      have hfG := (blk_facts GW.out).2 0
      have hltG : w1.heap.size < wr.heap.size := (Array.getElem?_eq_some_iff.1 GW.out).1
      have hltg : gr < wr.heap.size := by obtain ⟨vs, b, _, h2, _⟩ := MW.out; exact own_lt h2 gr rfl
      obtain ⟨q0, p0⟩ := MW.out.cell (kk * 4) (Nat.le_refl _) (by omega) HL.out
      obtain ⟨q3, p3⟩ := MW.out.cell (kk * 4 + 3) (by omega) (by omega) HL.out
      rw [i0] at q0
      rw [i3] at q3
      have hcall1 := fun W (hW : Below wr.heap.size wr W) => f45_any A0 c0 x.wants W hx1 (Kd.C_below (Kd.C_below hC0 BW.out) hW)
      have hcall2 := fun W (hW : Below wr.heap.size wr W) => f46_any A3 c3 x.takes W hx2 hx3 (Kd.C_below (Kd.C_below hC3 BW.out) hW)
      have X := Aside0.mk hget
      have I1 := Aside0.mk i1
      have I2 := Aside0.mk i2
      clear hget i0 i1 i2 i3 hC0 hC3 hx1 hx2 hx3
      go_wp2
      go_region_law (first
        | (go_simp; go_at_call 45; refine (hcall1 _ ?_).mono ?_; exact ((Below.refl _ _).drew); rintro e w2 ⟨v2, rfl, hR2, hb2⟩; obtain ⟨A2, c2, rfl⟩ := Kd.R_slice hR2; have hbu := below_undrew hb2; have q02 := cell_on hbu q0; have q32 := cell_on hbu q3; have p02 := (hbu.frozen (p := ⟨gr, kk * 4, none⟩) hltg).trans p0; have p32 := (hbu.frozen (p := ⟨gr, kk * 4 + 3, none⟩) hltg).trans p3; have hltg2 : gr < w2.heap.size := Nat.lt_of_lt_of_le hltg hbu.size)
        | (go_simp; go_at_call 46; refine (hcall2 _ ?_).mono ?_; exact hbu; rintro e w3 ⟨v3, rfl, hS3, hb3⟩; obtain ⟨A5, c5, rfl⟩ := Kd.S_slice hS3; have q03 := cell_on hb3 q02; have q33 := cell_on hb3 q32; have p03 := (hb3.frozen (p := ⟨gr, kk * 4, none⟩) hltg2).trans p02; have p33 := (hb3.frozen (p := ⟨gr, kk * 4 + 3, none⟩) hltg2).trans p32))
      all_goals (
        rename_i Kn hKn
        refine hKn _ _ ?_
        clear hKn
        have hb13 : Below wr.heap.size wr w3 := hbu.trans (hb3.mono hbu.size)
        have MW2 := Aside0.mk (MW.out.push hlt HL.out X.out hb13 I1.out I2.out (u0 := .slice A2 x.wants.length c2) (u3 := .slice A5 x.takes.length c5) (Kd.R_lower (Kd.R_below hR2 hb3) BW.out.size) (Kd.S_lower (Kd.S_mono hS3 (fun i hi => Nat.le_trans hbu.size hi)) (Nat.le_trans BW.out.size hbu.size)))
        have hgb : w.heap.size ≤ gr := by obtain ⟨vs, b, _, h2, _⟩ := MW.out; exact own_base h2 gr rfl
        have BW2 := Aside0.mk (((BW.out.trans (hb13.mono BW.out.size)).setCell (p := ⟨gr, kk * 4, none⟩) hgb (.slice A2 x.wants.length c2)).setCell (p := ⟨gr, kk * 4 + 3, none⟩) hgb (.slice A5 x.takes.length c5))
        have GW2 := Aside0.mk (((Below.heap_setCell (w3.setCell ⟨gr, kk * 4, none⟩ (.slice A2 x.wants.length c2)) ⟨gr, kk * 4 + 3, none⟩ (.slice A5 x.takes.length c5) w1.heap.size hne.symm).trans ((Below.heap_setCell w3 ⟨gr, kk * 4, none⟩ (.slice A2 x.wants.length c2) w1.heap.size hne.symm).trans (hb13.block _ hltG))).trans GW.out)
        clear hR2 hS3 hb2 hb3 hbu hb13 hcall1 hcall2
        go_wp2
        go_roundw
        case rel => exact ⟨kk + 1, by omega, by go_num, BW2, MW2, GW2⟩
        case measure => simp [intOf]; omega)
    · have hltz : ¬ (kk : Int) < (os.length : Int) := by omega
      have E : kk = os.length := by omega
      subst E
      have hS := Aside0.mk (MW.out.done HL.out)
      go_wp2
      go_ret
      refine ⟨_, rfl, ?_, BW.out⟩
      exact ⟨_, GW.out, HW1.out, HW1.out, Kd.S_mono hS.out (fun k hk => ⟨hk.1, fun e => hk.2.elim (fun h => HNE2.out k h e) (fun h => by omega)⟩)⟩
end Go.Proofs.YtcliaokoganbaaaGreatDoor
