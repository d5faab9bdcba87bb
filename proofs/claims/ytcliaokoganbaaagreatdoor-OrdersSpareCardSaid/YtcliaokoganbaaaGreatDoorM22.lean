/-
  Part 22 of the proof of the card: lemmas and walks, joined by mergeclaim.py out of the texts JB.
-/
import Derived.Test.YtcliaokoganbaaaGreatDoorM21
import Derived.Test.YtcliaokoganbaaaGreatDoorRows
import Derived.Test.YtcliaokoganbaaaGreatDoorCards
import Derived.Test.YtcliaokoganbaaaGreatDoorTie
import Derived.WalkKit
import Derived.ProofKit
import Derived.OpenShut
import Derived.SizedLaws
import Derived.Deep.DeepHandedRow
import Derived.Deep.DeepWitnessRowRef
import Derived.Lib.LaidU8
import Derived.Lay
set_option linter.unusedVariables false
namespace Go.Proofs.YtcliaokoganbaaaGreatDoor
open Go Go.RowKit Go.ChangeShapes Go.WideShapes Go.ChangeAt Go.Proofs.YtcliaokoganbaaaGreatDoorW.PrintWords
open Tq (Lot Box Want Take Ord BookInv OrdInv)
theorem own : ownKnob Tryz.prog.godebug = none := by kernel_rfl
theorem laidOut : laidOutB Tryz.prog = true := by kernel_rfl
theorem trod_iface_cell {H : Type} {enc : TypeId × Value → H} {P : Program} {w : World} {base : Nat} {sp : Nat → Bool} {held : Bool} {fuel : Nat} {t : TypeId} {ms : Array (String × TypeId)} {cs : List Value} {x : DataW H × List MemPlace}
    (ht : P.underlying t = some (.interface ms)) (h : DataW.trod enc P w base sp held fuel t cs = some x) : ∃ v, cs = [v] ∧ (v = .nilIface ∨ ∃ te pe, v = .iface te pe) := by
  cases fuel with
  | zero => simp [DataW.trod] at h
  | succ n =>
    unfold DataW.trod at h
    rw [ht] at h
    split at h <;> simp_all
/-- The laid list, as all four rows bear it. -/
def laidL : List (String × DataW Unit) := [("math/bits.deBruijn32tab", Rows.laid_math_bits_deBruijn32tab), ("math/bits.deBruijn64tab", Rows.laid_math_bits_deBruijn64tab), ("internal/strconv.uint64pow10", Rows.laid_internal_strconv_uint64pow10), ("strconv.ErrRange", Rows.laid_strconv_ErrRange), ("strconv.ErrSyntax", Rows.laid_strconv_ErrSyntax)]
theorem laidL_met {W : World} (h : laidMetH Tryz.prog laidL W) : laidMet Tryz.prog laidL W := by
  rw [MakeChecks.laidMetH_plain _ _ _ (by kernel_rfl)] at h
  exact h
theorem g_last : Tryz.prog.globalNamed "math/bits.deBruijn64tab" = some 5 := by kernel_rfl
theorem gt_tab : (Tryz.prog.globals[0]?).map (·.type) = some 186 := by kernel_rfl
theorem gt_2 : (Tryz.prog.globals[2]?).map (·.type) = some 125 := by kernel_rfl
theorem gt_3 : (Tryz.prog.globals[3]?).map (·.type) = some 125 := by kernel_rfl
theorem cells_186 : Tryz.prog.cellsOf 186 = 20 := by kernel_rfl
theorem cells_174 : Tryz.prog.cellsOf 174 = 1 := by kernel_rfl
theorem laid_tab_eq : (Rows.laid_internal_strconv_uint64pow10 : DataW Unit) = Lib.tabData .u64 Lib.pow10Tab := by kernel_rfl
theorem std_iface {W : World} {n : String} {d : DataW Unit} {g : Nat} (hg : Tryz.prog.globalNamed n = some g) (hty : (Tryz.prog.globals[g]?).map (·.type) = some 125) (h : Lib.VarReads Tryz.prog W n d) : ∃ ev, W.cell? ⟨g, 0, none⟩ = some ev ∧ (ev = .nilIface ∨ ∃ te pe, ev = .iface te pe) := by
  obtain ⟨g', t, cs, fuel, p, hg', ht', hvar, hd⟩ := h
  obtain rfl := Option.some.inj (hg.symm.trans hg')
  obtain rfl := Option.some.inj (hty.symm.trans ht')
  obtain ⟨v, hv, hk⟩ := trod_iface_cell Tryz.underlying125 hd
  have := World.var?_cell hg hvar 0
  refine ⟨v, ?_, hk⟩
  rw [this, ← Array.getElem?_toList, hv]
  rfl
/-- WHAT THE ROWS' LIST GIVES. -/
theorem std_of_laid {W : World} (hL : laidMetH Tryz.prog laidL W) : Std W := by
  have h := laidL_met hL
  refine ⟨?_, ?_, std_iface errSyntax_at gt_2 (Lib.laidMet.reads h (d := Rows.laid_strconv_ErrSyntax) (by simp [laidL])), std_iface errRange_at gt_3 (Lib.laidMet.reads h (d := Rows.laid_strconv_ErrRange) (by simp [laidL]))⟩
  · obtain ⟨g', t, cs, fuel, p, hg', ht', hvar, hd⟩ := Lib.laidMet.reads h (n := "internal/strconv.uint64pow10") (d := Rows.laid_internal_strconv_uint64pow10) (by simp [laidL])
    obtain rfl := Option.some.inj (pow10_at.symm.trans hg')
    obtain rfl := Option.some.inj (gt_tab.symm.trans ht')
    rw [laid_tab_eq] at hd
    unfold Lib.TabIs
    rw [hvar, ← Lib.cells_of_tab Tryz.underlying186 Tryz.underlying174 cells_174 cells_186 hd]
  · obtain ⟨g', t, cs, fuel, p, hg', ht', hvar, hd⟩ := Lib.laidMet.reads h (n := "math/bits.deBruijn64tab") (d := Rows.laid_math_bits_deBruijn64tab) (by simp [laidL])
    unfold World.var? at hvar
    rw [g_last] at hvar
    simp only [Option.bind_some] at hvar
    rcases Nat.lt_or_ge 5 W.heap.size with h' | h'
    · exact h'
    · rw [Array.getElem?_eq_none h'] at hvar
      cases hvar
/-- A WORLD FOR THE WITNESS. -/
noncomputable def laidWorld (os : Os) : World := World.laidAll Tryz.prog os laidL
theorem laid_met (os : Os) (args : Array Value) : laidMet Tryz.prog laidL ((laidWorld os).forCall (fun _ _ => 0) ⟨#[], args, []⟩).memory :=
  laidMet_laidAll args (by kernel_rfl) (by kernel_rfl)
theorem laidWorld_os (os : Os) : (laidWorld os).os = os := World.laidAll_os _ _ _
theorem wit_vars (os : Os) (args : Array Value) : (((laidWorld os).forCall (fun _ _ => 0) ⟨#[], args, []⟩).variablesRefB Tryz.prog) = true := by kernel_rfl
theorem wit_heap (os : Os) (args : Array Value) : ((((laidWorld os).forCall (fun _ _ => 0) ⟨#[], args, []⟩).heap.toList.drop Tryz.prog.globals.size).take ((begin Tryz.prog (fun _ _ => 0) default).world.heap.size - Tryz.prog.globals.size)) =
      (begin Tryz.prog (fun _ _ => 0) default).world.heap.toList.drop Tryz.prog.globals.size := by kernel_rfl
end Go.Proofs.YtcliaokoganbaaaGreatDoor
