/-
  Part 17 of the proof of the card: lemmas and walks, joined by mergeclaim.py out of the texts GA, GB, GC, GD.
-/
import Derived.Test.YtcliaokoganbaaaGreatDoorM16
import Derived.Test.YtcliaokoganbaaaGreatDoorSh
set_option linter.unusedVariables false
set_option linter.unusedSimpArgs false
namespace Go.Proofs.YtcliaokoganbaaaGreatDoor
open Go Go.RowKit Go.Shelf Go.Proofs.YtcliaokoganbaaaGreatDoorW.PrintWords Go.Proofs.YtcliaokoganbaaaGreatDoorW.PrintLast Go.Proofs.YtcliaokoganbaaaGreatDoorW.PrintMore
open Tq (Lot Box Want Take Ord Op BookInv OrdInv)
theorem pow10_at : Tryz.prog.globalNamed "internal/strconv.uint64pow10" = some 0 := by kernel_rfl
theorem errSyntax_at : Tryz.prog.globalNamed "strconv.ErrSyntax" = some 2 := by kernel_rfl
theorem errRange_at : Tryz.prog.globalNamed "strconv.ErrRange" = some 3 := by kernel_rfl
theorem globals_size : Tryz.prog.globals.size = 6 := by kernel_rfl
/-- what the package-level variables hold -/
structure Std (w : World) : Prop where
  tab : Lib.TabIs Tryz.prog w "internal/strconv.uint64pow10" .u64 Lib.pow10Tab
  size : 6 ≤ w.heap.size
  e2 : ∃ ev, w.cell? ⟨2, 0, none⟩ = some ev ∧ (ev = .nilIface ∨ ∃ te pe, ev = .iface te pe)
  e3 : ∃ ev, w.cell? ⟨3, 0, none⟩ = some ev ∧ (ev = .nilIface ∨ ∃ te pe, ev = .iface te pe)
theorem Std.step {w w' : World} (h : Std w) (hs : w.heap.size ≤ w'.heap.size) (hb : ∀ k, k < 6 → w'.heap[k]? = w.heap[k]?) : Std w' := by
  have hc : ∀ k, k < 6 → w'.cell? ⟨k, 0, none⟩ = w.cell? ⟨k, 0, none⟩ := by
    intro k hk
    unfold World.cell?
    simp only [hb k hk]
  refine ⟨?_, Nat.le_trans h.size hs, ?_, ?_⟩
  · have ht := h.tab
    unfold Lib.TabIs World.var? at ht ⊢
    rw [pow10_at] at ht ⊢
    simp only [Option.bind_some, hb 0 (by omega)] at ht ⊢
    exact ht
  · rw [hc 2 (by omega)]; exact h.e2
  · rw [hc 3 (by omega)]; exact h.e3
theorem Std.below {B : Nat} {w w' : World} (h : Std w) (hb : Below B w w') (hB : 6 ≤ B) : Std w' := h.step hb.size (fun k hk => hb.block k (by omega))
theorem Std.mut {S : Nat → Prop} {w w' : World} (h : Std w) (hb : Mut S w w') (hS : ∀ k, S k → 6 ≤ k) : Std w' :=
  h.step hb.size (fun k hk => hb.block k (by have := h.size; omega) (fun hs => by have := hS k hs; omega))

/-- the bytes of a pure text as the program's string -/
def strOf (l : List UInt8) : Value := .string ⟨l.toArray⟩

theorem below_grow (w : World) (k : Nat) (os : Array Obj) : Below w.heap.size w (Go.Sort.grow (w.drewN k) os) := by
  refine ⟨rfl, rfl, rfl, ?_, ?_⟩
  · show w.heap.size ≤ (w.heap ++ os).size
    simp
  · intro i hi
    show (w.heap ++ os)[i]? = w.heap[i]?
    rw [Array.getElem?_append_left hi]

theorem f110_any (n : Int) (h0 : -9223372036854775808 ≤ n) (h1 : n ≤ 9223372036854775807) (w : World) (hs : Std w) :
    Calls Tryz.prog 110 #[.int .i64 n] w fun e w' => e = .returned (.string ⟨(Lib.itoa n).toArray⟩) ∧ Below w.heap.size w w' := by
  refine (Tryz.strconv_Itoa n h0 h1 w hs.tab).mono ?_
  rintro e w' ⟨rfl, k, os, rfl⟩
  exact ⟨rfl, below_grow w k os⟩

set_option maxRecDepth 100000 in
set_option maxHeartbeats 2000000 in
theorem f76_any (n : Int) (h0 : -9223372036854775808 ≤ n) (h1 : n ≤ 9223372036854775807) (w : World) (hs : Std w) :
    Calls Tryz.prog 76 #[.int .i64 n] w fun e w' => e = .returned (strOf (Tq.enc n)) ∧ Below w.heap.size w w' := by
  have hc := f110_any n h0 h1 w hs
  have hlen : ¬ 9223372036854775807 < (Lib.itoa n).length + 1 := by have := Tq.itoa_len20 n h0 h1; omega
  have hun : ∀ l : List UInt8, Value.string (({ data := l.toArray } : ByteArray) ++ { data := #[59] }) = .string ⟨(l ++ [59]).toArray⟩ := by intro l; congr 1
  unfold strOf Tq.enc
  clear hs
  go_enter Tryz.func76, Tryz.ntmps76
  go_wp2_with (go_at_call 110; refine hc.mono ?_; rintro e w1 ⟨rfl, hb⟩; refine Hid.out ?_)
  refine Lib.hid ?_
  go_wp2
  go_ret
  exact ⟨rfl, hb⟩

set_option maxRecDepth 100000 in
set_option maxHeartbeats 2000000 in
theorem f75_any (n : Int) (h0 : 0 ≤ n) (h1 : n ≤ 9223372036854775807) (w : World) (hs : Std w) :
    Calls Tryz.prog 75 #[.int .i64 n] w fun e w' => e = .returned (strOf (Tq.enc n)) ∧ Below w.heap.size w w' := by
  have hc := f76_any n (by omega) h1 w hs
  have hn : ¬ n < 0 := by omega
  clear hs
  go_enter Tryz.func75, Tryz.ntmps75
  go_wp2_with (go_at_call 76; refine hc.mono ?_; rintro e w1 ⟨rfl, hb⟩; refine Hid.out ?_)
  all_goals first | omega | skip
  refine Lib.hid ?_
  go_wp2
  go_ret
  exact ⟨rfl, hb⟩

/-- a reader of what is left -/
def RdAt (w : World) (g : Nat) (r : Tq.Rd) : Prop := w.heap[g]? = some (.cells #[.string ⟨r.rest.toArray⟩, .bool r.bad] 153 (0, 0))
theorem RdAt.lt {w : World} {g : Nat} {r : Tq.Rd} (h : RdAt w g r) : g < w.heap.size := (Array.getElem?_eq_some_iff.1 h).1
theorem RdAt.c0 {w : World} {g : Nat} {r : Tq.Rd} (h : RdAt w g r) : w.cell? ⟨g, 0, none⟩ = some (.string ⟨r.rest.toArray⟩) := by
  unfold World.cell?; simp only [show w.heap[g]? = _ from h]; rfl
theorem RdAt.c1 {w : World} {g : Nat} {r : Tq.Rd} (h : RdAt w g r) : w.cell? ⟨g, 1, none⟩ = some (.bool r.bad) := by
  unfold World.cell?; simp only [show w.heap[g]? = _ from h]; rfl
theorem RdAt.below {w w' : World} {g : Nat} {r : Tq.Rd} {B : Nat} (h : RdAt w g r) (hb : Below B w w') (hB : g < B) : RdAt w' g r := by
  show w'.heap[g]? = _
  rw [hb.block g hB]; exact h

set_option maxRecDepth 100000 in
set_option maxHeartbeats 2000000 in
theorem f127_any (g : Nat) (r : Tq.Rd) (w : World) (h : RdAt w g r) :
    Calls Tryz.prog 127 #[.pointer (some ⟨g, 0, none⟩)] w fun e w' => e = .returned (.tuple #[]) ∧ RdAt w' g ⟨[], true⟩ ∧ Mut (fun k => k = g) w w' := by
  have hblk : w.heap[g]? = some (.cells #[.string ⟨r.rest.toArray⟩, .bool r.bad] 153 (0, 0)) := h
  obtain ⟨hc, hf⟩ := blk_facts hblk
  have hc0 := hc 0
  have hf0 := hf 0
  have hb1 := Lib.heap_setCell_same (i := 0) hblk (.string ⟨#[]⟩)
  obtain ⟨hc', hf'⟩ := blk_facts hb1
  have hc1 := hc' 1
  have hf1 := hf' 1
  have hb2 := Lib.heap_setCell_same (i := 1) hb1 (.bool true)
  simp at hc0 hc1
  have HB := Aside0.mk hb2
  have HM : Aside0 (Mut (fun k => k = g) w ((w.setCell ⟨g, 0, none⟩ (.string ⟨#[]⟩)).setCell ⟨g, 1, none⟩ (.bool true))) := ⟨((Mut.refl (fun k => k = g) w).setCell (p := ⟨g, 0, none⟩) (.inl rfl) _).setCell (p := ⟨g, 1, none⟩) (.inl rfl) _⟩
  clear h hblk hc hf hb1 hc' hf' hb2
  go_enter Tryz.func127, Tryz.ntmps127
  go_wp2
  refine bodyPost_end (results_none rfl _ _ _) rfl ?_
  exact ⟨rfl, HB.out, HM.out⟩
end Go.Proofs.YtcliaokoganbaaaGreatDoor
set_option linter.unusedVariables false
set_option linter.unusedSimpArgs false
namespace Go.Proofs.YtcliaokoganbaaaGreatDoor
open Go Go.RowKit Go.Shelf Go.Proofs.YtcliaokoganbaaaGreatDoorW.PrintWords Go.Proofs.YtcliaokoganbaaaGreatDoorW.PrintLast Go.Proofs.YtcliaokoganbaaaGreatDoorW.PrintMore
open Tq (Lot Box Want Take Ord Op BookInv OrdInv)
/-! ### strings.Builder at this program (the shelf's structure for WriteString does not lie: a number that no body names) -/
theorem gbU120 : Tryz.prog.underlying 120 = some (.pointer 123) := by kernel_rfl
theorem gbU163 : Tryz.prog.underlying 163 = some .unsafePointer := by kernel_rfl
theorem gbU121 : Tryz.prog.underlying 121 = some (.slice 5) := by kernel_rfl
theorem gbU9 : Tryz.prog.underlying 9 = some .string := by kernel_rfl
theorem gbSize : (Tryz.prog.info? 123).map (fun i => decide (i.size = 0)) = some false := by kernel_rfl
theorem gbLies : liesAt Tryz.prog Tryz.prog.depth 123 (2 / Tryz.prog.cellsOf 123) 0 123 1 = true := by kernel_rfl
set_option maxRecDepth 100000 in
set_option maxHeartbeats 2000000 in
theorem f109_used (b : Nat) (w : World) (h0 : w.cell? ⟨b, 0, none⟩ = some (.pointer (some ⟨b, 0, none⟩))) :
    Calls Tryz.prog 109 #[.pointer (some ⟨b, 0, none⟩)] w fun e w' => e = .returned (.tuple #[]) ∧ w' = w := by
  obtain ⟨j, hj, hjs⟩ := Option.map_eq_some_iff.1 gbSize
  go_enter Tryz.func109, Tryz.ntmps109
  go_wp2
  rw [Lib.run_neq_ptr_same w _ gbU120 hj]
  go_wp2
  go_end0
  exact ⟨rfl, rfl⟩
set_option maxRecDepth 100000 in
set_option maxHeartbeats 2000000 in
theorem f109_fresh (b : Nat) (w : World) (h0 : w.cell? ⟨b, 0, none⟩ = some (.pointer none)) (hsh : w.shape? b = some (123, 2)) (hfz : w.frozen? ⟨b, 0, none⟩ = false) :
    Calls Tryz.prog 109 #[.pointer (some ⟨b, 0, none⟩)] w fun e w' => e = .returned (.tuple #[]) ∧ w' = w.setCell ⟨b, 0, none⟩ (.pointer (some ⟨b, 0, none⟩)) := by
  obtain ⟨j, hj, hjs⟩ := Option.map_eq_some_iff.1 gbSize
  have hjs' : j.size ≠ 0 := by simpa using hjs
  go_enter Tryz.func109, Tryz.ntmps109
  go_wp2
  rw [Lib.run_to_unsafe w ⟨b, 0, none⟩ gbU120 gbU163 hj hjs' hsh (Nat.zero_lt_succ 1)]
  simp only [Result.andThen]
  rw [Oper.upon_value]
  go_wp2
  rw [run_callFunc_extern Tryz.func123 (by kernel_rfl) (by kernel_rfl) (by kernel_rfl) (e := Extern.AbiNoEscape.same) (by kernel_rfl)]
  rw [Lib.run_noEscape]
  simp only [Result.andThen]
  rw [Oper.upon_value]
  go_wp2
  rw [Lib.run_from_unsafe w ⟨b, 0, none⟩ gbU163 gbU120 hj hsh gbLies]
  simp only [Result.andThen]
  rw [Oper.upon_value]
  go_wp2
  go_end0
  exact ⟨rfl, rfl⟩
theorem f109_any (B b : Nat) (bs : List Value) (w : World) (h : Lib.IsBuilderF 123 5 B b bs w) :
    Calls Tryz.prog 109 #[.pointer (some ⟨b, 0, none⟩)] w fun e w' => e = .returned (.tuple #[]) ∧ (Lib.BuilderAtF 123 5 B b (.pointer (some ⟨b, 0, none⟩)) bs w' ∧ Below B w w') := by
  rcases h with h | h
  · refine (f109_fresh b w h.cell0 h.shape h.frozen0).mono ?_
    rintro e w' ⟨rfl, rfl⟩
    exact ⟨rfl, h.used _, (Below.refl B w).setCell (p := ⟨b, 0, none⟩) h.1 _⟩
  · refine (f109_used b w h.cell0).mono ?_
    rintro e w' ⟨rfl, rfl⟩
    exact ⟨rfl, h, Below.refl B _⟩
theorem gbByte : (Tryz.prog.info? 5).map (fun i => (i.zero, i.size, i.bytes)) = some (some (.int .u8 0), 1, 1) := by kernel_rfl
set_option maxRecDepth 100000 in
set_option maxHeartbeats 2000000 in
theorem f74_any (B b : Nat) (bs : List Value) (s : ByteArray) (w : World) (h : Lib.IsBuilderF 123 5 B b bs w) (hlen : bs.length + s.size ≤ 140737488355328) (hBw : B ≤ w.heap.size) :
    Calls Tryz.prog 74 #[.pointer (some ⟨b, 0, none⟩), .string s] w fun e w' => e = .returned (.tuple #[.int .i64 s.size, .nilIface]) ∧ (Lib.BuilderAtF 123 5 B b (.pointer (some ⟨b, 0, none⟩)) (bs ++ Lib.strCells s) w' ∧ Below B w w') := by
  obtain ⟨i0, hi, hz0, hz1, hz2⟩ := info_parts gbByte
  have hcc := f109_any B b bs w h
  clear h
  go_enter Tryz.func74, Tryz.ntmps74
  go_wp2_with (go_at_call 109; refine hcc.mono ?_)
  rintro e w1 ⟨rfl, h1, hb1⟩
  obtain ⟨hB, v, hbk, hown, hne⟩ := h1
  have c0 : w1.cell? ⟨b, 0, none⟩ = some (.pointer (some ⟨b, 0, none⟩)) := by rw [Lib.cell_of_heap hbk]; rfl
  have c1 : w1.cell? ⟨b, 1, none⟩ = some v := by rw [Lib.cell_of_heap hbk]; rfl
  go_wp2_with (at_builtin; refine Lib.wpList_append_own_stringF _ rfl _ _ 121 9 rfl B 5 i0 gbU121 gbU9 hi hz0 hz1 hz2 _ _ _ rfl hown s rfl ?c3 ?c4 ?c5 ?_)
  case c3 => unfold maxLen; omega
  case c4 => omega
  case c5 => have := hb1.size; omega
  intro v' w2 hown' hgrow _
  have hlt : b < w1.heap.size := by
    rcases Nat.lt_or_ge b w1.heap.size with h' | h'
    · exact h'
    · simp [Array.getElem?_eq_none h'] at hbk
  have hb2 : w2.heap[b]? = some (.cells #[.pointer (some ⟨b, 0, none⟩), v] 123 (0, 0)) := by
    rw [hgrow.block b hlt (fun e => hne e.symm)]
    exact hbk
  have d0 : w2.cell? ⟨b, 0, none⟩ = some (.pointer (some ⟨b, 0, none⟩)) := by rw [Lib.cell_of_heap hb2]; rfl
  have d1 : w2.cell? ⟨b, 1, none⟩ = some v := by rw [Lib.cell_of_heap hb2]; rfl
  have f1 : w2.frozen? ⟨b, 1, none⟩ = false := Lib.frozen_of_heap hb2 1
  obtain ⟨ao, n', cap, rfl⟩ : ∃ ao n' cap, v' = .slice ao n' cap := by
    rcases hown'.2 with ⟨hv, _⟩ | ⟨g, cap, cur, fz, hv, _⟩
    · exact ⟨_, _, _, hv⟩
    · exact ⟨_, _, _, hv⟩
  go_wp2
  go_ret2
  refine ⟨rfl, ?_, ?_⟩
  · exact Lib.BuilderAtF.put (T := 123) (e := 5) hB hb2 (bs' := bs ++ Lib.strCells s) (by simpa [Lib.strCells_length] using hown') (by decide)
  · exact (hb1.grown hgrow (by have := hb1.size; omega) (fun k hk => (hown.lt k hk).1)).setCell (p := ⟨b, 1, none⟩) hB _
end Go.Proofs.YtcliaokoganbaaaGreatDoor
set_option linter.unusedVariables false
set_option linter.unusedSimpArgs false
namespace Go.Proofs.YtcliaokoganbaaaGreatDoor
open Go Go.RowKit Go.Shelf Go.Proofs.YtcliaokoganbaaaGreatDoorW.PrintWords Go.Proofs.YtcliaokoganbaaaGreatDoorW.PrintLast Go.Proofs.YtcliaokoganbaaaGreatDoorW.PrintMore
open Tq (Lot Box Want Take Ord Op BookInv OrdInv)
theorem indexByte_idxOf (c : UInt8) : ∀ l : List UInt8, Lib.indexByte l c = (match l.idxOf? c with | none => -1 | some k => (k : Int)) := by
  intro l
  induction l with
  | nil => simp [Lib.indexByte, List.idxOf?]
  | cons x l ih =>
    simp only [Lib.indexByte, List.idxOf?, List.findIdx?_cons] at ih ⊢
    by_cases h : x = c
    · simp [h]
    · have hb : (x == c) = false := by simp [h]
      cases hq : List.findIdx? (fun x => x == c) l with
      | none => rw [hq] at ih; simp [h, hb, ih, hq]
      | some k => rw [hq] at ih; simp [h, hb, ih, hq]
theorem f126_any (l : List UInt8) (c : UInt8) (w : World) :
    Calls Tryz.prog 126 #[.string ⟨l.toArray⟩, .int .u8 c.toNat] w fun e w' => e = .returned (.int .i64 (Lib.indexByte l c)) ∧ w' = w := by
  refine (Tryz.strings_IndexByte ⟨l.toArray⟩ c.toNat w).mono ?_
  rintro e w' ⟨rfl, rfl⟩
  exact ⟨by simp, rfl⟩
theorem extract_take (l : List UInt8) : (⟨l.toArray⟩ : ByteArray).extract 0 (min (l.length : Int) 21).toNat = ⟨(l.take 21).toArray⟩ := by
  apply ByteArray.ext
  have : (min (l.length : Int) 21).toNat = min l.length 21 := by omega
  rw [this]
  simp [ByteArray.data_extract, List.extract_toArray]
  try exact Nat.min_comm _ _
set_option maxRecDepth 100000 in
set_option maxHeartbeats 2000000 in
theorem f113_none (g : Nat) (r : Tq.Rd) (stop : UInt8) (least : Int) (w : World) (h : RdAt w g r) (hn : (r.rest.take 21).idxOf? stop = none) :
    Calls Tryz.prog 113 #[.pointer (some ⟨g, 0, none⟩), .int .u8 stop.toNat, .int .i64 least] w fun e w' => e = .returned (.int .i64 0) ∧ RdAt w' g ⟨[], true⟩ ∧ Mut (fun k => k = g) w w' := by
  have hc0 := h.c0
  have hi := f126_any (r.rest.take 21) stop w.drew
  rw [indexByte_idxOf, hn] at hi
  have hfail := f127_any g r w.drew h
  have hex := extract_take r.rest
  clear h hn
  go_enter Tryz.func113, Tryz.ntmps113
  go_wp2
  go_region
  go_wp2_with (first | (go_at_call 126; refine hi.mono ?_; rintro e w1 ⟨rfl, rfl⟩) | (go_at_call 127; refine hfail.mono ?_; rintro e w2 ⟨rfl, hr2, hm2⟩))
  go_wp2_with (first | (go_at_call 126; refine hi.mono ?_; rintro e w1 ⟨rfl, rfl⟩) | (go_at_call 127; refine hfail.mono ?_; rintro e w2 ⟨rfl, hr2, hm2⟩))
  go_ret
  exact ⟨rfl, hr2, ⟨hm2.os, hm2.tape, hm2.output, hm2.size, hm2.block⟩⟩
end Go.Proofs.YtcliaokoganbaaaGreatDoor
set_option linter.unusedVariables false
set_option linter.unusedSimpArgs false
namespace Go.Proofs.YtcliaokoganbaaaGreatDoor
open Go Go.RowKit Go.Shelf Go.Proofs.YtcliaokoganbaaaGreatDoorW.PrintWords Go.Proofs.YtcliaokoganbaaaGreatDoorW.PrintLast Go.Proofs.YtcliaokoganbaaaGreatDoorW.PrintMore
open Tq (Lot Box Want Take Ord Op BookInv OrdInv)
theorem extract_take2 (l : List UInt8) (k : Nat) (hk : k ≤ l.length) : (⟨l.toArray⟩ : ByteArray).extract 0 k = ⟨(l.take k).toArray⟩ := by
  apply ByteArray.ext
  simp [ByteArray.data_extract, List.extract_toArray]
set_option maxRecDepth 100000 in
set_option maxHeartbeats 2000000 in
theorem f113_err (g : Nat) (r : Tq.Rd) (stop : UInt8) (least : Int) (w : World) (h : RdAt w g r) (k : Nat) (hk : (r.rest.take 21).idxOf? stop = some k) (hk2 : k < (r.rest.take 21).length)
    (hA : Calls Tryz.prog 128 #[.string ⟨((r.rest.take 21).take k).toArray⟩] w.drew fun e w' => ∃ n t p, e = .returned (.tuple #[.int .i64 n, .iface t p]) ∧ Below w.heap.size w w') :
    Calls Tryz.prog 113 #[.pointer (some ⟨g, 0, none⟩), .int .u8 stop.toNat, .int .i64 least] w fun e w' => e = .returned (.int .i64 0) ∧ RdAt w' g ⟨[], true⟩ ∧ Mut (fun k => k = g) w w' := by
  have hc0 := h.c0
  have hi := f126_any (r.rest.take 21) stop w.drew
  rw [indexByte_idxOf, hk] at hi
  have hex := extract_take r.rest
  have hex2 := extract_take2 (r.rest.take 21) k (by omega)
  generalize hhd : r.rest.take 21 = hd at *
  have hkz : ¬ (k : Int) < 0 := by omega
  have hkl : (k : Int) ≤ (hd.length : Int) := by omega
  have hfail : ∀ w1, Below w.heap.size w w1 → Calls Tryz.prog 127 #[.pointer (some ⟨g, 0, none⟩)] w1.drew fun e w' => e = .returned (.tuple #[]) ∧ RdAt w' g ⟨[], true⟩ ∧ Mut (fun k => k = g) w w' := by
    intro w1 hb
    refine (f127_any g r w1.drew (show RdAt w1 g r from h.below hb h.lt)).mono ?_
    rintro e w' ⟨rfl, h1, h2⟩
    have hM : Mut (fun k => k = g) w w1 := Mut.of_below hb _
    have h3 : Mut (fun k => k = g) w1 w' := ⟨h2.os, h2.tape, h2.output, h2.size, h2.block⟩
    exact ⟨rfl, h1, hM.trans h3 (fun i hi => .inl hi)⟩
  clear h hk hhd
  go_enter Tryz.func113, Tryz.ntmps113
  go_wp2
  go_region
  go_wp2_with (first | (go_at_call 126; refine hi.mono ?_; rintro e w1 ⟨rfl, rfl⟩) | (go_at_call 128; refine hA.mono ?_; rintro e w2 ⟨n, t, p, rfl, hb2⟩; refine Hid.out ?_))
  refine Lib.hid ?_
  go_wp2
  go_region
  go_wp2_with (go_at_call 127; refine (hfail w2 hb2).mono ?_; rintro e w3 ⟨rfl, hr3, hm3⟩)
  go_ret
  exact ⟨rfl, hr3, hm3⟩
end Go.Proofs.YtcliaokoganbaaaGreatDoor
