/-
  Part 18 of the proof of the card: lemmas and walks, joined by mergeclaim.py out of the texts GE, GF, GG, GH, HA, HB, HC, HD.
-/
import Derived.Test.YtcliaokoganbaaaGreatDoorM17
import Derived.Deep.RegionHeld3
set_option linter.unusedVariables false
set_option linter.unusedSimpArgs false
namespace Go.Proofs.YtcliaokoganbaaaGreatDoor
open Go Go.RowKit Go.Shelf Go.Proofs.YtcliaokoganbaaaGreatDoorW.PrintWords Go.Proofs.YtcliaokoganbaaaGreatDoorW.PrintLast Go.Proofs.YtcliaokoganbaaaGreatDoorW.PrintMore
open Tq (Lot Box Want Take Ord Op BookInv OrdInv)
set_option maxRecDepth 100000 in
set_option maxHeartbeats 2000000 in
theorem f113_odd (g : Nat) (r : Tq.Rd) (stop : UInt8) (least n : Int) (w : World) (hs : Std w) (h : RdAt w g r) (k : Nat) (hk : (r.rest.take 21).idxOf? stop = some k) (hk2 : k < (r.rest.take 21).length)
    (h0 : -9223372036854775808 ≤ n) (h1 : n ≤ 9223372036854775807)
    (hA : Calls Tryz.prog 128 #[.string ⟨((r.rest.take 21).take k).toArray⟩] w.drew fun e w' => e = .returned (.tuple #[.int .i64 n, .nilIface]) ∧ Below w.heap.size w w')
    (hne : Lib.itoa n ≠ (r.rest.take 21).take k) :
    Calls Tryz.prog 113 #[.pointer (some ⟨g, 0, none⟩), .int .u8 stop.toNat, .int .i64 least] w fun e w' => e = .returned (.int .i64 0) ∧ RdAt w' g ⟨[], true⟩ ∧ Mut (fun k => k = g) w w' := by
  have hc0 := h.c0
  have hi := f126_any (r.rest.take 21) stop w.drew
  rw [indexByte_idxOf, hk] at hi
  have hex := extract_take r.rest
  have hex2 := extract_take2 (r.rest.take 21) k (by omega)
  have hbe : (!(Lib.itoa n == (r.rest.take 21).take k)) = true := by simpa using hne
  generalize hhd : r.rest.take 21 = hd at *
  have hkz : ¬ (k : Int) < 0 := by omega
  have hkl : (k : Int) ≤ (hd.length : Int) := by omega
  have hita : ∀ w1, Below w.heap.size w w1 → Calls Tryz.prog 110 #[.int .i64 n] w1.drew fun e w' => e = .returned (.string ⟨(Lib.itoa n).toArray⟩) ∧ Below w.heap.size w w' := by
    intro w1 hb
    refine (f110_any n h0 h1 w1.drew ((hs.below hb hs.size).below ((Below.refl _ _).drew) hs.size)).mono ?_
    rintro e w' ⟨rfl, h2⟩
    exact ⟨rfl, hb.trans ((below_undrew h2).mono hb.size)⟩
  have hfail : ∀ w1, Below w.heap.size w w1 → Calls Tryz.prog 127 #[.pointer (some ⟨g, 0, none⟩)] w1 fun e w' => e = .returned (.tuple #[]) ∧ RdAt w' g ⟨[], true⟩ ∧ Mut (fun k => k = g) w w' := by
    intro w1 hb
    refine (f127_any g r w1 (h.below hb h.lt)).mono ?_
    rintro e w' ⟨rfl, h1, h2⟩
    have hM : Mut (fun k => k = g) w w1 := Mut.of_below hb _
    exact ⟨rfl, h1, hM.trans h2 (fun i hi => .inl hi)⟩
  clear h hk hhd hs hne
  go_enter Tryz.func113, Tryz.ntmps113
  go_wp2
  go_region
  go_wp2_with (first | (go_at_call 126; refine hi.mono ?_; rintro e w1 ⟨rfl, rfl⟩) | (go_at_call 128; refine hA.mono ?_; rintro e w2 ⟨rfl, hb2⟩; refine Hid.out ?_))
  refine Lib.hid ?_
  go_wp2
  refine wp_region_held_drew (S := fun wx => Below w.heap.size w wx) (by kernel_rfl) hb2.drew (fun hHeld => ?_)
  refine wpAnyH_take (i := 0) (oi := _) (v := .nilIface) rfl (by kernel_rfl) (by kernel_rfl) (by kernel_rfl) (fun _ _ _ h => h) (Or.inl ⟨by rfl, ?_⟩) hHeld ?_
  · intro wx hwx; go_simp
  try simp only [Act.put, List.setIfInBounds_toArray, List.set_cons_zero, List.set_cons_succ]
  refine wpAnyH_take (i := 1) (oi := _) (v := .bool false) rfl (by kernel_rfl) (by kernel_rfl) (by kernel_rfl) (fun _ _ _ h => h) (Or.inl ⟨by rfl, ?_⟩) hHeld ?_
  · intro wx hwx; go_simp
  try simp only [Act.put, List.setIfInBounds_toArray, List.set_cons_zero, List.set_cons_succ]
  refine wpAnyH_take (i := 2) (oi := _) (v := .bool false) rfl (by kernel_rfl) (by kernel_rfl) (by kernel_rfl) (fun _ _ _ h => h) (Or.inl ⟨by rfl, ?_⟩) hHeld ?_
  · intro wx hwx; go_simp
  try simp only [Act.put, List.setIfInBounds_toArray, List.set_cons_zero, List.set_cons_succ]
  refine wpAnyH_take (i := 3) (oi := _) (v := .int .i64 n) rfl (by kernel_rfl) (by kernel_rfl) (by kernel_rfl) (fun _ _ _ h => h) (Or.inl ⟨by rfl, ?_⟩) hHeld ?_
  · intro wx hwx; go_simp
  try simp only [Act.put, List.setIfInBounds_toArray, List.set_cons_zero, List.set_cons_succ]
  refine wpAnyH_take (i := 5) (oi := _) (v := .string ⟨hd.toArray⟩) rfl (by kernel_rfl) (by kernel_rfl) (by kernel_rfl) (fun _ _ _ h => h) (Or.inl ⟨by rfl, ?_⟩) hHeld ?_
  · intro wx hwx; go_simp
  try simp only [Act.put, List.setIfInBounds_toArray, List.set_cons_zero, List.set_cons_succ]
  refine wpAnyH_take (i := 6) (oi := _) (v := .int .i64 k) rfl (by kernel_rfl) (by kernel_rfl) (by kernel_rfl) (fun _ _ _ h => h) (Or.inl ⟨by rfl, ?_⟩) hHeld ?_
  · intro wx hwx; go_simp
  try simp only [Act.put, List.setIfInBounds_toArray, List.set_cons_zero, List.set_cons_succ]
  refine wpAnyH_take (i := 7) (oi := _) (v := .string ⟨(hd.take k).toArray⟩) rfl (by kernel_rfl) (by kernel_rfl) (by kernel_rfl) (fun _ _ _ h => h) (Or.inl ⟨by rfl, ?_⟩) hHeld ?_
  · intro wx hwx; go_simp
  try simp only [Act.put, List.setIfInBounds_toArray, List.set_cons_zero, List.set_cons_succ]
  refine wpAnyH_ready (rs := [4]) (by kernel_rfl) (by simp) ?_
  refine AllReadyH.cons (o := _) rfl (fun K hK => ?_) AllReadyH.nil
  go_simp
  go_at_call 110
  refine (hita w2 hb2).mono ?_
  rintro e w3 ⟨rfl, hb3⟩
  go_wp2_with fail
  refine hK.out _ _ hb3 (fun hHeld2 => ?_)
  clear hK K
  try simp only [Act.put, List.setIfInBounds_toArray, List.set_cons_zero, List.set_cons_succ]
  refine wpAnyH_take (i := 8) (oi := _) (v := .bool true) rfl (by kernel_rfl) (by kernel_rfl) (by kernel_rfl) (fun _ _ _ h => h) (Or.inl ⟨by rfl, ?_⟩) hHeld2 ?_
  · intro wx hwx; go_simp
  try simp only [Act.put, List.setIfInBounds_toArray, List.set_cons_zero, List.set_cons_succ]
  refine wpAnyH_take (i := 9) (oi := _) (v := .bool true) rfl (by kernel_rfl) (by kernel_rfl) (by kernel_rfl) (fun _ _ _ h => h) (Or.inl ⟨by rfl, ?_⟩) hHeld2 ?_
  · intro wx hwx; go_simp
  try simp only [Act.put, List.setIfInBounds_toArray, List.set_cons_zero, List.set_cons_succ]
  refine wpAnyH_take (i := 10) (oi := _) (v := .bool true) rfl (by kernel_rfl) (by kernel_rfl) (by kernel_rfl) (fun _ _ _ h => h) (Or.inl ⟨by rfl, ?_⟩) hHeld2 ?_
  · intro wx hwx; go_simp
  try simp only [Act.put, List.setIfInBounds_toArray, List.set_cons_zero, List.set_cons_succ]
  refine wpAnyH_take (i := 11) (oi := _) (v := undef) rfl (by kernel_rfl) (by kernel_rfl) (by kernel_rfl) (fun _ _ _ h => h) (Or.inr ⟨by rfl, rfl⟩) hHeld2 ?_
  try simp only [Act.put, List.setIfInBounds_toArray, List.set_cons_zero, List.set_cons_succ]
  refine wpAnyH_take (i := 12) (oi := _) (v := undef) rfl (by kernel_rfl) (by kernel_rfl) (by kernel_rfl) (fun _ _ _ h => h) (Or.inr ⟨by rfl, rfl⟩) hHeld2 ?_
  try simp only [Act.put, List.setIfInBounds_toArray, List.set_cons_zero, List.set_cons_succ]
  refine wpAnyH_take (i := 13) (oi := _) (v := undef) rfl (by kernel_rfl) (by kernel_rfl) (by kernel_rfl) (fun _ _ _ h => h) (Or.inr ⟨by rfl, rfl⟩) hHeld2 ?_
  try simp only [Act.put, List.setIfInBounds_toArray, List.set_cons_zero, List.set_cons_succ]
  refine wpAnyH_take (i := 14) (oi := _) (v := .bool true) rfl (by kernel_rfl) (by kernel_rfl) (by kernel_rfl) (fun _ _ _ h => h) (Or.inl ⟨by rfl, ?_⟩) hHeld2 ?_
  · intro wx hwx; go_simp
  try simp only [Act.put, List.setIfInBounds_toArray, List.set_cons_zero, List.set_cons_succ]
  refine wpAnyH_done (by kernel_rfl) ?_ _
  go_wp2_with (go_at_call 127; refine (hfail w3 hb3).mono ?_; rintro e w4 ⟨rfl, hr4, hm4⟩)
  go_ret
  exact ⟨rfl, hr4, hm4⟩
end Go.Proofs.YtcliaokoganbaaaGreatDoor
set_option linter.unusedVariables false
set_option linter.unusedSimpArgs false
namespace Go.Proofs.YtcliaokoganbaaaGreatDoor
open Go Go.RowKit Go.Shelf Go.Proofs.YtcliaokoganbaaaGreatDoorW.PrintWords Go.Proofs.YtcliaokoganbaaaGreatDoorW.PrintLast Go.Proofs.YtcliaokoganbaaaGreatDoorW.PrintMore
open Tq (Lot Box Want Take Ord Op BookInv OrdInv)
set_option maxRecDepth 100000 in
set_option maxHeartbeats 2000000 in
theorem f113_less (g : Nat) (r : Tq.Rd) (stop : UInt8) (least n : Int) (w : World) (hs : Std w) (h : RdAt w g r) (k : Nat) (hk : (r.rest.take 21).idxOf? stop = some k) (hk2 : k < (r.rest.take 21).length)
    (h0 : -9223372036854775808 ≤ n) (h1 : n ≤ 9223372036854775807)
    (hA : Calls Tryz.prog 128 #[.string ⟨((r.rest.take 21).take k).toArray⟩] w.drew fun e w' => e = .returned (.tuple #[.int .i64 n, .nilIface]) ∧ Below w.heap.size w w')
    (hne : Lib.itoa n = (r.rest.take 21).take k) (hlt : n < least) :
    Calls Tryz.prog 113 #[.pointer (some ⟨g, 0, none⟩), .int .u8 stop.toNat, .int .i64 least] w fun e w' => e = .returned (.int .i64 0) ∧ RdAt w' g ⟨[], true⟩ ∧ Mut (fun k => k = g) w w' := by
  have hc0 := h.c0
  have hi := f126_any (r.rest.take 21) stop w.drew
  rw [indexByte_idxOf, hk] at hi
  have hex := extract_take r.rest
  have hex2 := extract_take2 (r.rest.take 21) k (by omega)
  rw [← hne] at hex2 hA
  generalize hhd : r.rest.take 21 = hd at *
  have hkz : ¬ (k : Int) < 0 := by omega
  have hkl : (k : Int) ≤ (hd.length : Int) := by omega
  have hita : ∀ w1, Below w.heap.size w w1 → Calls Tryz.prog 110 #[.int .i64 n] w1.drew fun e w' => e = .returned (.string ⟨(Lib.itoa n).toArray⟩) ∧ Below w.heap.size w w' := by
    intro w1 hb
    refine (f110_any n h0 h1 w1.drew ((hs.below hb hs.size).below ((Below.refl _ _).drew) hs.size)).mono ?_
    rintro e w' ⟨rfl, h2⟩
    exact ⟨rfl, hb.trans ((below_undrew h2).mono hb.size)⟩
  have hfail : ∀ w1, Below w.heap.size w w1 → Calls Tryz.prog 127 #[.pointer (some ⟨g, 0, none⟩)] w1 fun e w' => e = .returned (.tuple #[]) ∧ RdAt w' g ⟨[], true⟩ ∧ Mut (fun k => k = g) w w' := by
    intro w1 hb
    refine (f127_any g r w1 (h.below hb h.lt)).mono ?_
    rintro e w' ⟨rfl, h1, h2⟩
    have hM : Mut (fun k => k = g) w w1 := Mut.of_below hb _
    exact ⟨rfl, h1, hM.trans h2 (fun i hi => .inl hi)⟩
  clear h hk hhd hs hne
  generalize Lib.itoa n = it at *
  go_enter Tryz.func113, Tryz.ntmps113
  go_wp2
  go_region
  go_wp2_with (first | (go_at_call 126; refine hi.mono ?_; rintro e w1 ⟨rfl, rfl⟩) | (go_at_call 128; refine hA.mono ?_; rintro e w2 ⟨rfl, hb2⟩; refine Hid.out ?_))
  refine Lib.hid ?_
  go_wp2
  go_region_held3 (fun wx => Below w.heap.size w wx) (first | exact hb2 | exact hb2.drew | exact hb3 | exact hb3.drew) ((first | (go_at_call 110; refine (hita w2 hb2).mono ?_; rintro e w3 ⟨rfl, hb3⟩)))
  go_wp2_with (go_at_call 127; refine (hfail w3 hb3).mono ?_; rintro e w4 ⟨rfl, hr4, hm4⟩)
  go_ret
  exact ⟨rfl, hr4, hm4⟩
end Go.Proofs.YtcliaokoganbaaaGreatDoor
set_option linter.unusedVariables false
set_option linter.unusedSimpArgs false
namespace Go.Proofs.YtcliaokoganbaaaGreatDoor
open Go Go.RowKit Go.Shelf Go.Proofs.YtcliaokoganbaaaGreatDoorW.PrintWords Go.Proofs.YtcliaokoganbaaaGreatDoorW.PrintLast Go.Proofs.YtcliaokoganbaaaGreatDoorW.PrintMore
open Tq (Lot Box Want Take Ord Op BookInv OrdInv)
theorem extract_drop (l : List UInt8) (k : Nat) : (⟨l.toArray⟩ : ByteArray).extract k l.length = ⟨(l.drop k).toArray⟩ := by
  apply ByteArray.ext
  simp [ByteArray.data_extract, List.extract_toArray]
  exact List.take_of_length_le (by simp)
set_option maxRecDepth 100000 in
set_option maxHeartbeats 2000000 in
theorem f113_yes (g : Nat) (r : Tq.Rd) (stop : UInt8) (least n : Int) (w : World) (hs : Std w) (h : RdAt w g r) (hlen : r.rest.length ≤ 9223372036854775806) (k : Nat) (hk : (r.rest.take 21).idxOf? stop = some k) (hk2 : k < (r.rest.take 21).length)
    (h0 : -9223372036854775808 ≤ n) (h1 : n ≤ 9223372036854775807)
    (hA : Calls Tryz.prog 128 #[.string ⟨((r.rest.take 21).take k).toArray⟩] w.drew fun e w' => e = .returned (.tuple #[.int .i64 n, .nilIface]) ∧ Below w.heap.size w w')
    (hne : Lib.itoa n = (r.rest.take 21).take k) (hlt : ¬ n < least) :
    Calls Tryz.prog 113 #[.pointer (some ⟨g, 0, none⟩), .int .u8 stop.toNat, .int .i64 least] w fun e w' => e = .returned (.int .i64 n) ∧ RdAt w' g ⟨r.rest.drop (k + 1), r.bad⟩ ∧ Mut (fun k => k = g) w w' := by
  obtain ⟨l, bd⟩ := r
  dsimp only at *
  have hc0 := h.c0
  have hi := f126_any (l.take 21) stop w.drew
  rw [indexByte_idxOf, hk] at hi
  have hex := extract_take l
  have hex2 := extract_take2 (l.take 21) k (by omega)
  rw [← hne] at hex2 hA
  have hkr : k < l.length := by simp at hk2; omega
  have HXD := extract_drop l (k + 1)
  generalize hhd : l.take 21 = hd at *
  have hkz : ¬ (k : Int) < 0 := by omega
  have hkl : (k : Int) ≤ (hd.length : Int) := by omega
  have hkr1 : (k : Int) < (l.length : Int) := by omega
  have hkr2 : (k : Int) ≤ 1000 := by
    have : hd.length ≤ 21 := by rw [← hhd]; simp; omega
    omega
  have hita : ∀ w1, Below w.heap.size w w1 → Calls Tryz.prog 110 #[.int .i64 n] w1.drew fun e w' => e = .returned (.string ⟨(Lib.itoa n).toArray⟩) ∧ Below w.heap.size w w' := by
    intro w1 hb
    refine (f110_any n h0 h1 w1.drew ((hs.below hb hs.size).below ((Below.refl _ _).drew) hs.size)).mono ?_
    rintro e w' ⟨rfl, h2⟩
    exact ⟨rfl, hb.trans ((below_undrew h2).mono hb.size)⟩
  have hend : ∀ w1, Below w.heap.size w w1 → Aside0 (RdAt (w1.setCell ⟨g, 0, none⟩ (.string ⟨(l.drop (k + 1)).toArray⟩)) g ⟨l.drop (k + 1), bd⟩ ∧ Mut (fun k => k = g) w (w1.setCell ⟨g, 0, none⟩ (.string ⟨(l.drop (k + 1)).toArray⟩))) := by
    intro w1 hb
    exact ⟨⟨Lib.heap_setCell_same (i := 0) (h.below hb h.lt) _, (Mut.of_below hb (fun k => k = g)).setCell (p := ⟨g, 0, none⟩) (.inl rfl) _⟩⟩
  have hcell : ∀ w1, Below w.heap.size w w1 → w1.cell? ⟨g, 0, none⟩ = some (.string ⟨l.toArray⟩) ∧ w1.frozen? ⟨g, 0, none⟩ = false := by
    intro w1 hb
    obtain ⟨q1, q2⟩ := blk_facts (h.below hb h.lt)
    exact ⟨q1 0, q2 0⟩
  have HK1 := Aside0.mk hkr1
  have HK2 := Aside0.mk hkr2
  have HLT := Aside0.mk hlt
  clear hkr1 hkr2 hkr hlen hlt
  generalize hrr : (⟨l.drop (k + 1), bd⟩ : Tq.Rd) = rr at *
  generalize hdd : l.drop (k + 1) = dd at *
  clear hrr hdd
  have HXE := Lib.hid HXD
  clear HXD
  have HE := Lib.hid hend
  have HC := Lib.hid hcell
  clear h hk hhd hs hne hend hcell
  generalize Lib.itoa n = it at *
  go_enter Tryz.func113, Tryz.ntmps113
  go_wp2
  go_region
  go_wp2_with (first | (go_at_call 126; refine hi.mono ?_; rintro e w1 ⟨rfl, rfl⟩) | (go_at_call 128; refine hA.mono ?_; rintro e w2 ⟨rfl, hb2⟩; refine Hid.out ?_))
  refine Lib.hid ?_
  have hlt := HLT.out
  go_wp2
  go_region_held3 (fun wx => Below w.heap.size w wx) (first | exact hb2 | exact hb2.drew | exact hb3 | exact hb3.drew) ((first | (go_at_call 110; refine (hita w2 hb2).mono ?_; rintro e w3 ⟨rfl, hb3⟩)))
  obtain ⟨q0, q1⟩ := HC.out w3 hb3
  have HX := HE.out w3 hb3
  have hexd := HXE.out
  have hkr1 := HK1.out
  have hkr2 := HK2.out
  go_wp2
  go_ret
  exact ⟨rfl, HX.out.1, HX.out.2⟩
end Go.Proofs.YtcliaokoganbaaaGreatDoor
set_option linter.unusedVariables false
set_option linter.unusedSimpArgs false
namespace Go.Proofs.YtcliaokoganbaaaGreatDoor
open Go Go.RowKit Go.Shelf Go.Proofs.YtcliaokoganbaaaGreatDoorW.PrintWords Go.Proofs.YtcliaokoganbaaaGreatDoorW.PrintLast Go.Proofs.YtcliaokoganbaaaGreatDoorW.PrintMore
open Tq (Lot Box Want Take Ord Op BookInv OrdInv)
theorem parse_range : ∀ (l : List UInt8) (acc a : Nat), acc < 18446744073709551616 → Lib.parseUint10 acc l = .ok a → a < 18446744073709551616
  | [], acc, a, hacc, h => by simp only [Lib.parseUint10] at h; injection h with h; omega
  | c :: l, acc, a, hacc, h => by
    simp only [Lib.parseUint10] at h
    split at h
    · split at h
      · cases h
      · split at h
        · cases h
        · exact parse_range l _ a (by omega) h
    · cases h
theorem atoi_range (l : List UInt8) (v : Int) (h : Lib.atoiAll l = .ok v) : -9223372036854775808 ≤ v ∧ v ≤ 9223372036854775807 := by
  unfold Lib.atoiAll at h
  cases l with
  | nil => cases h
  | cons c r =>
    simp only at h
    split at h
    · cases h
    · cases h
    · split at h
      · cases h
      · split at h
        · cases h
        · injection h with h
          subst h
          split <;> omega
theorem idxOf?_lt {l : List UInt8} {c : UInt8} {k : Nat} (h : l.idxOf? c = some k) : k < l.length := by
  have := List.findIdx?_eq_some_iff_getElem.1 (show l.findIdx? (fun x => x == c) = some k from h)
  exact this.1
theorem f128_ok (l : List UInt8) (hl : l.length ≤ 9223372036854775806) (v : Int) (h : Lib.atoiAll l = .ok v) (w : World) :
    Calls Tryz.prog 128 #[.string ⟨l.toArray⟩] w fun e w' => e = .returned (.tuple #[.int .i64 v, .nilIface]) ∧ Below w.heap.size w w' := by
  refine (Tryz.strconv_Atoi_ok ⟨l.toArray⟩ (by show l.toArray.size ≤ _; simpa using hl) v h w).mono ?_
  rintro e w' ⟨rfl, hw⟩
  refine ⟨rfl, ?_⟩
  rcases hw with rfl | ⟨t, rfl⟩
  · exact Below.refl _ _
  · exact bytes_below (Below.refl _ _) (Nat.le_refl _) 5 t
theorem f128_err (l : List UInt8) (hl : l.length ≤ 1000) (h : ∀ v, Lib.atoiAll l ≠ .ok v) (w : World) (hs : Std w) :
    Calls Tryz.prog 128 #[.string ⟨l.toArray⟩] w fun e w' => ∃ n t p, e = .returned (.tuple #[.int .i64 n, .iface t p]) ∧ Below w.heap.size w w' := by
  rcases hq : Lib.atoiAll l with v | _ | _
  · exact absurd hq (h v)
  · obtain ⟨ev, h1, h2⟩ := hs.e2
    refine (Tryz.strconv_Atoi_syntax ⟨l.toArray⟩ (by show l.toArray.size ≤ _; simp; omega) hq ev w h1 h2).mono ?_
    rintro e w' ⟨N, rfl, _, _, hb⟩
    exact ⟨_, _, _, rfl, hb⟩
  · obtain ⟨ev, h1, h2⟩ := hs.e3
    refine (Tryz.strconv_Atoi_range ⟨l.toArray⟩ (by show l.toArray.size ≤ _; simp; omega) hq ev w h1 h2).mono ?_
    rintro e w' ⟨N, rfl, _, _, hb⟩
    exact ⟨_, _, _, rfl, hb⟩
/-- (*Reader).number -/
theorem f113_any (g : Nat) (r : Tq.Rd) (stop : UInt8) (least : Int) (w : World) (hs : Std w) (h : RdAt w g r) (hlen : r.rest.length ≤ 9223372036854775806) :
    Calls Tryz.prog 113 #[.pointer (some ⟨g, 0, none⟩), .int .u8 stop.toNat, .int .i64 least] w fun e w' =>
      e = .returned (.int .i64 (Tq.number r stop least).1) ∧ RdAt w' g (Tq.number r stop least).2 ∧ Mut (fun k => k = g) w w' := by
  unfold Tq.number
  simp only
  cases hk : (r.rest.take 21).idxOf? stop with
  | none => exact f113_none g r stop least w h hk
  | some k =>
    have hk2 := idxOf?_lt hk
    have hl21 : ((r.rest.take 21).take k).length ≤ 21 := by simp; omega
    simp only
    rcases hq : Lib.atoiAll ((r.rest.take 21).take k) with n | _ | _
    · have hr := atoi_range _ _ hq
      have hA := f128_ok ((r.rest.take 21).take k) (by omega) n hq w.drew
      have hA' : Calls Tryz.prog 128 #[.string ⟨((r.rest.take 21).take k).toArray⟩] w.drew fun e w' => e = .returned (.tuple #[.int .i64 n, .nilIface]) ∧ Below w.heap.size w w' :=
        hA.mono fun e w' h => ⟨h.1, below_undrew h.2⟩
      simp only
      by_cases h1 : Lib.itoa n = (r.rest.take 21).take k
      · by_cases h2 : n < least
        · rw [if_pos (.inr h2)]
          exact f113_less g r stop least n w hs h k hk hk2 hr.1 hr.2 hA' h1 h2
        · rw [if_neg (by simp only [ne_eq, h1, not_true_eq_false, false_or]; exact h2)]
          exact f113_yes g r stop least n w hs h hlen k hk hk2 hr.1 hr.2 hA' h1 h2
      · rw [if_pos (.inl h1)]
        exact f113_odd g r stop least n w hs h k hk hk2 hr.1 hr.2 hA' h1
    · have hA := f128_err ((r.rest.take 21).take k) (by omega) (by rw [hq]; simp) w.drew (hs.below ((Below.refl _ _).drew) hs.size)
      exact f113_err g r stop least w h k hk hk2 (hA.mono fun e w' h => by obtain ⟨n, t, p, h1, h2⟩ := h; exact ⟨n, t, p, h1, below_undrew h2⟩)
    · have hA := f128_err ((r.rest.take 21).take k) (by omega) (by rw [hq]; simp) w.drew (hs.below ((Below.refl _ _).drew) hs.size)
      exact f113_err g r stop least w h k hk hk2 (hA.mono fun e w' h => by obtain ⟨n, t, p, h1, h2⟩ := h; exact ⟨n, t, p, h1, below_undrew h2⟩)
theorem number_rest (r : Tq.Rd) (stop : UInt8) (least : Int) : (Tq.number r stop least).2.rest.length ≤ r.rest.length := by
  unfold Tq.number
  simp only
  split
  · simp
  · split
    · split
      · simp
      · simp
    · simp
theorem number_range (r : Tq.Rd) (stop : UInt8) (least : Int) : -9223372036854775808 ≤ (Tq.number r stop least).1 ∧ (Tq.number r stop least).1 ≤ 9223372036854775807 := by
  unfold Tq.number
  simp only
  split
  · simp
  · split
    · rename_i n hq
      split
      · simp
      · exact atoi_range _ _ hq
    · simp
theorem number_least (r : Tq.Rd) (stop : UInt8) (least : Int) (h : least ≤ 0) : least ≤ (Tq.number r stop least).1 := by
  unfold Tq.number
  simp only
  split
  · exact h
  · split
    · split
      · exact h
      · rename_i h2; simp only; omega
    · exact h
/-! ### (*Reader).Num and Int -/
set_option maxHeartbeats 400000 in
theorem f82_any (g : Nat) (r : Tq.Rd) (w : World) (hs : Std w) (h : RdAt w g r) (hlen : r.rest.length ≤ 9223372036854775806) :
    Calls Tryz.prog 82 #[.pointer (some ⟨g, 0, none⟩)] w fun e w' => e = .returned (.int .i64 (Tq.rNum r).1) ∧ RdAt w' g (Tq.rNum r).2 ∧ Mut (fun k => k = g) w w' := by
  have hc := f113_any g r 59 0 w hs h hlen
  unfold Tq.rNum
  generalize Tq.number r 59 0 = x at *
  have e59 : (59 : UInt8).toNat = 59 := rfl
  rw [e59] at hc
  clear hs h hlen e59
  go_enter Tryz.func82, Tryz.ntmps82
  go_wp2_with (go_at_call 113; refine hc.mono ?_; rintro e w1 ⟨rfl, h1, h2⟩)
  go_ret
  exact ⟨rfl, h1, h2⟩
set_option maxHeartbeats 400000 in
theorem f114_any (g : Nat) (r : Tq.Rd) (w : World) (hs : Std w) (h : RdAt w g r) (hlen : r.rest.length ≤ 9223372036854775806) :
    Calls Tryz.prog 114 #[.pointer (some ⟨g, 0, none⟩)] w fun e w' => e = .returned (.int .i64 (Tq.rInt r).1) ∧ RdAt w' g (Tq.rInt r).2 ∧ Mut (fun k => k = g) w w' := by
  have hc := f113_any g r 59 (-9223372036854775808) w hs h hlen
  unfold Tq.rInt Tq.minI
  generalize Tq.number r 59 (-9223372036854775808) = x at *
  have e59 : (59 : UInt8).toNat = 59 := rfl
  rw [e59] at hc
  clear hs h hlen e59
  go_enter Tryz.func114, Tryz.ntmps114
  go_wp2_with (go_at_call 113; refine hc.mono ?_; rintro e w1 ⟨rfl, h1, h2⟩)
  go_ret
  exact ⟨rfl, h1, h2⟩
theorem rInt_range (r : Tq.Rd) : -9223372036854775808 ≤ (Tq.rInt r).1 ∧ (Tq.rInt r).1 ≤ 9223372036854775807 := number_range r 59 _
theorem rNum_range (r : Tq.Rd) : 0 ≤ (Tq.rNum r).1 ∧ (Tq.rNum r).1 ≤ 9223372036854775807 := ⟨number_least r 59 0 (by omega), (number_range r 59 0).2⟩
theorem rInt_rest (r : Tq.Rd) : (Tq.rInt r).2.rest.length ≤ r.rest.length := number_rest r 59 _
theorem rNum_rest (r : Tq.Rd) : (Tq.rNum r).2.rest.length ≤ r.rest.length := number_rest r 59 _
set_option maxHeartbeats 400000 in
theorem f83_any (g : Nat) (r : Tq.Rd) (w : World) (h : RdAt w g r) (hlen : r.rest.length ≤ 9223372036854775806) :
    Calls Tryz.prog 83 #[.pointer (some ⟨g, 0, none⟩)] w fun e w' => e = .returned (.int .i64 r.rest.length) ∧ w' = w := by
  have hc := h.c0
  obtain ⟨l, b⟩ := r
  simp only at *
  clear h
  go_enter Tryz.func83, Tryz.ntmps83
  go_wp2
  go_ret
  exact ⟨rfl, rfl⟩
set_option maxHeartbeats 400000 in
theorem f85_any (g : Nat) (r : Tq.Rd) (w : World) (h : RdAt w g r) :
    Calls Tryz.prog 85 #[.pointer (some ⟨g, 0, none⟩)] w fun e w' => e = .returned (.bool (!r.bad && decide (r.rest = []))) ∧ Below w.heap.size w w' := by
  have hc := h.c0
  have hc1 := h.c1
  obtain ⟨l, b⟩ := r
  simp only at *
  clear h
  go_enter Tryz.func85, Tryz.ntmps85
  go_wp2
  all_goals (go_ret; refine ⟨ret_bool ?_, Below.refl _ _⟩; cases l <;> simp_all)
set_option maxHeartbeats 400000 in
theorem f81_any (l : List UInt8) (w : World) :
    Calls Tryz.prog 81 #[.string ⟨l.toArray⟩] w fun e w' => ∃ g, e = .returned (.pointer (some ⟨g, 0, none⟩)) ∧ w.heap.size ≤ g ∧ RdAt w' g ⟨l, false⟩ ∧ Below w.heap.size w w' := by
  go_enter Tryz.func81, Tryz.ntmps81
  go_wp2
  go_ret
  exact ⟨_, rfl, Nat.le_refl _, heap_alloc_new w _, below_alloc (Below.refl _ _) _⟩
end Go.Proofs.YtcliaokoganbaaaGreatDoor
set_option linter.unusedVariables false
set_option linter.unusedSimpArgs false
namespace Go.Proofs.YtcliaokoganbaaaGreatDoor
open Go Go.RowKit Go.Shelf Go.Proofs.YtcliaokoganbaaaGreatDoorW.PrintWords Go.Proofs.YtcliaokoganbaaaGreatDoorW.PrintLast Go.Proofs.YtcliaokoganbaaaGreatDoorW.PrintMore
open Tq (Lot Box Want Take Ord Op BookInv OrdInv)
/-- What a write into the builder at block b leaves: all blocks below B; and every block that holds no bytes. -/
structure Far (B b : Nat) (w w' : World) : Prop where
  below : Below B w w'
  keep : ∀ k, k < w.heap.size → k ≠ b → (∀ cs fz, w.heap[k]? ≠ some (.cells cs 5 fz)) → w'.heap[k]? = w.heap[k]?
theorem Far.refl (B b : Nat) (w : World) : Far B b w w := ⟨Below.refl _ _, fun _ _ _ _ => rfl⟩
theorem Far.trans {B b : Nat} {x y z : World} (h : Far B b x y) (k : Far B b y z) : Far B b x z :=
  ⟨h.below.trans k.below, fun i hi hb hn => by
    have e := h.keep i hi hb hn
    exact (k.keep i (Nat.lt_of_lt_of_le hi h.below.size) hb (by rw [e]; exact hn)).trans e⟩
theorem Far.of_below {B b : Nat} {w w' : World} (h : Below w.heap.size w w') (hB : B ≤ w.heap.size) : Far B b w w' :=
  ⟨h.mono hB, fun k hk _ _ => h.block k hk⟩
theorem Far.blk {B b k T : Nat} {w w' : World} {cs : Array Value} {fz : Nat × Nat} (h : Far B b w w') (hb : w.heap[k]? = some (.cells cs T fz)) (hT : T ≠ 5) (hk : k ≠ b) : w'.heap[k]? = some (.cells cs T fz) := by
  have hlt : k < w.heap.size := (Array.getElem?_eq_some_iff.1 hb).1
  rw [h.keep k hlt hk (fun cs' fz' e => by rw [hb] at e; injection e with e; injection e with e1 e2 e3; exact hT e2)]
  exact hb
/-- The builder at block b holds the bytes l. -/
def Bld (B b : Nat) (l : List UInt8) (w : World) : Prop := Lib.IsBuilderF 123 5 B b (Lib.byteCells l) w
theorem Bld.lt {B b : Nat} {l : List UInt8} {w : World} (h : Bld B b l w) : b < w.heap.size := h.elim (fun x => x.lt) (fun x => x.lt)
theorem Bld.ge {B b : Nat} {l : List UInt8} {w : World} (h : Bld B b l w) : B ≤ b := h.elim (fun x => x.1) (fun x => x.1)
theorem BuilderAtF_below {B b : Nat} {p : Value} {bs : List Value} {w w' : World} (h : Lib.BuilderAtF 123 5 B b p bs w) (hb : Below w.heap.size w w') : Lib.BuilderAtF 123 5 B b p bs w' := by
  obtain ⟨hB, v, hblk, hown, hne⟩ := h
  have hlt : b < w.heap.size := (Array.getElem?_eq_some_iff.1 hblk).1
  refine ⟨hB, v, (hb.block b hlt).trans hblk, ?_, hne⟩
  refine ⟨hown.1, ?_⟩
  rcases hown.2 with ⟨h1, h2⟩ | ⟨g, cap, cur, fz, h1, h2, h3, h4⟩
  · exact .inl ⟨h1, h2⟩
  · exact .inr ⟨g, cap, cur, fz, h1, h2, (hb.block g (Array.getElem?_eq_some_iff.1 h3).1).trans h3, h4⟩
theorem Bld.below {B b : Nat} {l : List UInt8} {w w' : World} (h : Bld B b l w) (hb : Below w.heap.size w w') : Bld B b l w' :=
  h.elim (fun x => .inl (BuilderAtF_below x hb)) (fun x => .inr (BuilderAtF_below x hb))
theorem f109_far (B b : Nat) (bs : List Value) (w : World) (h : Lib.IsBuilderF 123 5 B b bs w) :
    Calls Tryz.prog 109 #[.pointer (some ⟨b, 0, none⟩)] w fun e w' => e = .returned (.tuple #[]) ∧ (Lib.BuilderAtF 123 5 B b (.pointer (some ⟨b, 0, none⟩)) bs w' ∧ Far B b w w') := by
  rcases h with h | h
  · refine (f109_fresh b w h.cell0 h.shape h.frozen0).mono ?_
    rintro e w' ⟨rfl, rfl⟩
    exact ⟨rfl, h.used _, (Below.refl B w).setCell (p := ⟨b, 0, none⟩) h.1 _, fun k _ hk _ => Below.heap_setCell w _ _ k hk⟩
  · refine (f109_used b w h.cell0).mono ?_
    rintro e w' ⟨rfl, rfl⟩
    exact ⟨rfl, h, Far.refl _ _ _⟩
set_option maxRecDepth 100000 in
set_option maxHeartbeats 2000000 in
theorem f74_far (B b : Nat) (bs : List Value) (s : ByteArray) (w : World) (h : Lib.IsBuilderF 123 5 B b bs w) (hlen : bs.length + s.size ≤ 140737488355328) (hBw : B ≤ w.heap.size) :
    Calls Tryz.prog 74 #[.pointer (some ⟨b, 0, none⟩), .string s] w fun e w' => e = .returned (.tuple #[.int .i64 s.size, .nilIface]) ∧ (Lib.BuilderAtF 123 5 B b (.pointer (some ⟨b, 0, none⟩)) (bs ++ Lib.strCells s) w' ∧ Far B b w w') := by
  obtain ⟨i0, hi, hz0, hz1, hz2⟩ := info_parts gbByte
  have hcc := f109_far B b bs w h
  clear h
  go_enter Tryz.func74, Tryz.ntmps74
  go_wp2_with (go_at_call 109; refine hcc.mono ?_)
  rintro e w1 ⟨rfl, h1, hf1⟩
  obtain ⟨hB, v, hbk, hown, hne⟩ := h1
  have hb1 := hf1.below
  have c0 : w1.cell? ⟨b, 0, none⟩ = some (.pointer (some ⟨b, 0, none⟩)) := by rw [Lib.cell_of_heap hbk]; rfl
  have c1 : w1.cell? ⟨b, 1, none⟩ = some v := by rw [Lib.cell_of_heap hbk]; rfl
  have HF1 := Aside0.mk hf1
  clear hf1
  go_wp2_with (at_builtin; refine Lib.wpList_append_own_stringF _ rfl _ _ 121 9 rfl B 5 i0 gbU121 gbU9 hi hz0 hz1 hz2 _ _ _ rfl hown s rfl ?c3 ?c4 ?c5 ?_)
  case c3 => unfold maxLen; omega
  case c4 => omega
  case c5 => have := hb1.size; omega
  intro v' w2 hown' hgrow _
  have hlt : b < w1.heap.size := by
    rcases Nat.lt_or_ge b w1.heap.size with h' | h'
    · exact h'
    · simp [Array.getElem?_eq_none h'] at hbk
  have hb2 : w2.heap[b]? = some (.cells #[.pointer (some ⟨b, 0, none⟩), v] 123 (0, 0)) := by
    rw [hgrow.block b hlt (fun e => hne e.symm)]
    exact hbk
  have d0 : w2.cell? ⟨b, 0, none⟩ = some (.pointer (some ⟨b, 0, none⟩)) := by rw [Lib.cell_of_heap hb2]; rfl
  have d1 : w2.cell? ⟨b, 1, none⟩ = some v := by rw [Lib.cell_of_heap hb2]; rfl
  have f1 : w2.frozen? ⟨b, 1, none⟩ = false := Lib.frozen_of_heap hb2 1
  obtain ⟨ao, n', cap, rfl⟩ : ∃ ao n' cap, v' = .slice ao n' cap := by
    rcases hown'.2 with ⟨hv, _⟩ | ⟨g, cap, cur, fz, hv, _⟩
    · exact ⟨_, _, _, hv⟩
    · exact ⟨_, _, _, hv⟩
  go_wp2
  go_ret2
  refine ⟨rfl, ?_, HF1.out.trans ?_⟩
  · exact Lib.BuilderAtF.put (T := 123) (e := 5) hB hb2 (bs' := bs ++ Lib.strCells s) (by simpa [Lib.strCells_length] using hown') (by decide)
  · refine ⟨((Below.refl B w1).grown hgrow (by have := hb1.size; omega) (fun k hk => (hown.lt k hk).1)).setCell (p := ⟨b, 1, none⟩) hB _, fun k hk hkb hn => ?_⟩
    rw [Below.heap_setCell w2 _ _ k hkb]
    refine hgrow.block k hk (fun e => ?_)
    rcases hown.2 with ⟨hv, _⟩ | ⟨g, cap, cur, fz, hv, _, h3, _⟩
    · rw [hv] at e; simp [Value.ownBlock] at e
    · rw [hv] at e
      simp [Value.ownBlock] at e
      subst e
      exact hn _ _ h3
theorem f74_bld (B b : Nat) (l m : List UInt8) (w : World) (h : Bld B b l w) (hlen : (l ++ m).length ≤ 140737488355328) (hBw : B ≤ w.heap.size) :
    Calls Tryz.prog 74 #[.pointer (some ⟨b, 0, none⟩), .string ⟨m.toArray⟩] w fun e w' => e = .returned (.tuple #[.int .i64 m.length, .nilIface]) ∧ Bld B b (l ++ m) w' ∧ Far B b w w' := by
  have hs : (⟨m.toArray⟩ : ByteArray).size = m.length := by show m.toArray.size = _; simp
  refine (f74_far B b (Lib.byteCells l) ⟨m.toArray⟩ w h (by rw [Lib.byteCells_length, hs]; simpa using hlen) hBw).mono ?_
  rintro e w' ⟨rfl, h1, h2⟩
  refine ⟨by rw [hs], .inr ?_, h2⟩
  rw [Lib.byteCells_append]
  exact h1
end Go.Proofs.YtcliaokoganbaaaGreatDoor
set_option linter.unusedVariables false
set_option linter.unusedSimpArgs false
namespace Go.Proofs.YtcliaokoganbaaaGreatDoor
open Go Go.RowKit Go.Shelf Go.Proofs.YtcliaokoganbaaaGreatDoorW.PrintWords Go.Proofs.YtcliaokoganbaaaGreatDoorW.PrintLast Go.Proofs.YtcliaokoganbaaaGreatDoorW.PrintMore
open Tq (Lot Box Want Take Ord Op BookInv OrdInv)
/-! ### The length of an encoding -/
theorem enc_len (n : Int) (h0 : -9223372036854775808 ≤ n) (h1 : n ≤ 9223372036854775807) : (Tq.enc n).length ≤ 21 := by
  have := Tq.itoa_len20 n h0 h1
  simp [Tq.enc]; omega
theorem flatMap_len {α : Type} (f : α → List UInt8) (m : Nat) : ∀ l : List α, (∀ x ∈ l, (f x).length ≤ m) → (l.flatMap f).length ≤ l.length * m
  | [], _ => by simp
  | x :: l, h => by
    have h1 := h x (by simp)
    have h2 := flatMap_len f m l (fun y hy => h y (by simp [hy]))
    rw [List.flatMap_cons, List.length_append, List.length_cons, Nat.succ_mul]
    omega
/-- What is asked of an order's numbers. -/
structure EncOk (o : Ord) : Prop where
  wn : o.wants.length ≤ 20
  wk : ∀ x ∈ o.wants, (-9223372036854775808 ≤ x.kind ∧ x.kind ≤ 9223372036854775807) ∧ (-9223372036854775808 ≤ x.count ∧ x.count ≤ 9223372036854775807) ∧ (-9223372036854775808 ≤ x.til ∧ x.til ≤ 9223372036854775807)
  du : -9223372036854775808 ≤ o.due ∧ o.due ≤ 9223372036854775807
  st : -9223372036854775808 ≤ o.state ∧ o.state ≤ 9223372036854775807
  tn : o.takes.length ≤ 20
  tl : ∀ l ∈ o.takes, l.length ≤ 20000
  tt : ∀ l ∈ o.takes, ∀ t ∈ l, (-9223372036854775808 ≤ t.box ∧ t.box ≤ 9223372036854775807) ∧ (-9223372036854775808 ≤ t.n ∧ t.n ≤ 9223372036854775807)
theorem allInv_ok : ∀ (ws : List Want) (ls : List (List Take)), Tq.AllInv ws ls → ls.length = ws.length ∧ ∀ l ∈ ls, l.length ≤ 20000 ∧ ∀ t ∈ l, 0 ≤ t.box ∧ t.box < 3000 ∧ 1 ≤ t.n ∧ t.n ≤ 20000
  | [], [], _ => ⟨rfl, fun l hl => by cases hl⟩
  | [], _ :: _, h => h.elim
  | _ :: _, [], h => h.elim
  | w :: ws, l :: ls, ⟨h1, h2⟩ => by
    obtain ⟨a, b⟩ := allInv_ok ws ls h2
    refine ⟨by simp [a], fun x hx => ?_⟩
    rcases List.mem_cons.1 hx with rfl | hx
    · exact ⟨h1.2.2, h1.1⟩
    · exact b x hx
theorem encOk_of {o : Ord} (h : OrdInv o) (hk : ∀ w ∈ o.wants, w.kind ≤ 9223372036854775807) : EncOk o := by
  obtain ⟨h1, h2, h3, h4, h5⟩ := Tq.rightWants_bounds h.right
  have h0 := h.s0
  have hs5 := h.s5
  have ht : o.takes.length ≤ 20 ∧ ∀ l ∈ o.takes, l.length ≤ 20000 ∧ ∀ t ∈ l, 0 ≤ t.box ∧ t.box < 3000 ∧ 1 ≤ t.n ∧ t.n ≤ 20000 := by
    by_cases hs : o.state = 1
    · obtain ⟨a, b⟩ := allInv_ok _ _ (h.some_ hs).1
      exact ⟨by omega, b⟩
    · rw [h.none_ hs]; exact ⟨by simp, fun l hl => by cases hl⟩
  refine ⟨h2, fun x hx => ?_, by omega, by omega, ht.1, fun l hl => (ht.2 l hl).1, fun l hl t htm => ?_⟩
  · have := Tq.rightWant_bounds (h5 x hx)
    have := hk x hx
    omega
  · have := (ht.2 l hl).2 t htm
    omega
theorem encOrd_len {o : Ord} (h : EncOk o) : (Tq.encOrd o).length ≤ 20000000 := by
  have h1 := flatMap_len Tq.encWant 63 o.wants (fun x hx => by
    obtain ⟨a, b, c⟩ := h.wk x hx
    have := enc_len x.kind a.1 a.2; have := enc_len x.count b.1 b.2; have := enc_len x.til c.1 c.2
    simp [Tq.encWant]; omega)
  have h2 := flatMap_len Tq.encTakes 840021 o.takes (fun l hl => by
    have h3 := flatMap_len Tq.encTake 42 l (fun t ht => by
      obtain ⟨a, b⟩ := h.tt l hl t ht
      have := enc_len t.box a.1 a.2; have := enc_len t.n b.1 b.2
      simp [Tq.encTake]; omega)
    have := h.tl l hl
    have := enc_len l.length (by omega) (by omega)
    simp [Tq.encTakes] at *; omega)
  have := h.wn; have := h.tn
  have := enc_len o.wants.length (by omega) (by omega)
  have := enc_len o.due h.du.1 h.du.2
  have := enc_len o.state h.st.1 h.st.2
  simp [Tq.encOrd] at *
  omega
theorem encBook_len {os : List Ord} (hn : os.length ≤ 1000) (h : ∀ o ∈ os, EncOk o) : (Tq.encBook os).length ≤ 20000001000 := by
  have h1 := flatMap_len Tq.encOrd 20000000 os (fun o ho => encOrd_len (h o ho))
  have := enc_len os.length (by omega) (by omega)
  simp [Tq.encBook] at *
  omega
end Go.Proofs.YtcliaokoganbaaaGreatDoor
set_option linter.unusedVariables false
set_option linter.unusedSimpArgs false
namespace Go.Proofs.YtcliaokoganbaaaGreatDoor
open Go Go.RowKit Go.Shelf Go.Proofs.YtcliaokoganbaaaGreatDoorW.PrintWords Go.Proofs.YtcliaokoganbaaaGreatDoorW.PrintLast Go.Proofs.YtcliaokoganbaaaGreatDoorW.PrintMore
open Tq (Lot Box Want Take Ord Op BookInv OrdInv)
theorem str_add (a b : List UInt8) : Value.string ((⟨a.toArray⟩ : ByteArray) ++ ⟨b.toArray⟩) = .string ⟨(a ++ b).toArray⟩ := by
  congr 1
theorem pre_len {α : Type} (f : α → List UInt8) (l : List α) (k : Nat) (x : α) (hx : l[k]? = some x) : ((l.take k).flatMap f ++ f x).length ≤ (l.flatMap f).length ∧ (l.take (k + 1)).flatMap f = (l.take k).flatMap f ++ f x := by
  have hk := (List.getElem?_eq_some_iff.1 hx).1
  have hg : l[k] = x := (List.getElem?_eq_some_iff.1 hx).2
  have e : (l.take (k + 1)).flatMap f = (l.take k).flatMap f ++ f x := by
    rw [List.take_succ_eq_append_getElem hk, hg]; simp
  refine ⟨?_, e⟩
  rw [← e]
  conv => rhs; rw [← List.take_append_drop (k + 1) l]
  rw [List.flatMap_append, List.length_append]; omega
set_option maxRecDepth 100000 in
set_option maxHeartbeats 4000000 in
theorem f32_any (B g : Nat) (ok : Nat → Prop) (os : List Ord) (w : World) (h : BookAt w B ok g os) (hs : Std w) (hn : os.length ≤ 1000) (he : ∀ o ∈ os, EncOk o) :
    Calls Tryz.prog 32 #[.pointer (some ⟨g, 0, none⟩)] w fun e w' => e = .returned (strOf (Tq.encBook os)) ∧ Below w.heap.size w w' := by
  obtain ⟨A1, c1, hc, hf, hmax, _, _⟩ := h.head
  have hbl := encBook_len hn he
  have hstd : ∀ W, Below w.heap.size w W → Std W := fun W hb => hs.below hb hs.size
  have hgl := h.lt
  have HB := Aside0.mk h
  have HE := Aside0.mk he
  have HSTD := Aside0.mk hstd
  have HBL := Aside0.mk hbl
  have hW1 : Below w.heap.size w (w.alloc (.cells #[.pointer none, .slice none 0 0] 123)) := below_alloc (Below.refl _ _) _
  have hB1 : Bld w.heap.size w.heap.size [] (w.alloc (.cells #[.pointer none, .slice none 0 0] 123)) := .inl ⟨Nat.le_refl _, _, heap_alloc_new w _, World.ownsRowF_nil _ _ _ _, by simp [Value.ownBlock]⟩
  have hN := f75_any os.length (by omega) (by omega) _ (hstd _ hW1)
  unfold strOf at hN ⊢
  have HW1 := Aside0.mk hW1
  have HB1 := Aside0.mk hB1
  have henc : Tq.encBook os = Tq.enc os.length ++ os.flatMap Tq.encOrd := rfl
  have HENC := Aside0.mk henc
  have hgne : g ≠ w.heap.size := by omega
  clear h hs he hstd hbl hW1 hB1 henc
  generalize hres : Tq.encBook os = res at *
  have HRES := Aside0.mk hres
  clear hres
  go_enter Tryz.func32, Tryz.ntmps32
  go_wp2_with (go_at_call 75; refine hN.mono ?_; rintro e w1 ⟨rfl, hb1⟩; refine Hid.out ?_)
  refine Lib.hid ?_
  have hb01 := HW1.out.trans (hb1.mono (by simp))
  have h74 := f74_bld w.heap.size w.heap.size [] (Tq.enc os.length) w1 (HB1.out.below hb1) (by have := enc_len os.length (by omega) (by omega); simp; omega) (by have := hb01.size; omega)
  have HB01 := Aside0.mk hb01
  clear hb1 hb01
  go_wp2_with (go_at_call 74; refine h74.mono ?_; rintro e w2 ⟨rfl, hBd, hF⟩; refine Hid.out ?_)
  refine Lib.hid ?_
  have hc2 := cell_on (HB01.out.trans hF.below) hc
  have HB02 := Aside0.mk (HB01.out.trans hF.below)
  have HBD := Aside0.mk hBd
  clear hBd hF h74 hN HB01
  go_wp2
  go_loopw [24] (fun s24 wr => ∃ k : Nat, k ≤ os.length ∧ s24 = .int .i64 k ∧ Aside0 (Below w.heap.size w wr) ∧ Aside0 (Bld w.heap.size w.heap.size (Tq.enc os.length ++ (os.take k).flatMap Tq.encOrd) wr)) (fun s24 _ => os.length - (intOf s24).toNat)
  case atStart => exact ⟨0, Nat.zero_le _, rfl, HB02, by simpa using HBD⟩
  case round =>
    obtain ⟨k, hkk, rfl, BW, BL⟩ := hrel
    by_cases hlt : k < os.length
    · have hltz : (k : Int) < (os.length : Int) := by omega
      have hget : os[k]? = some os[k] := List.getElem?_eq_getElem hlt
      have hmem := List.getElem_mem hlt
      generalize os[k] = o at hget hmem
      obtain ⟨wo, hwo⟩ : ∃ wo, wo = wr := ⟨_, rfl⟩
      subst hwo
      obtain ⟨gr, v0, v3, oki, rfl, hgr, -, hBr, ⟨cs, hblk⟩, k0, k1, k2, k3, -, hw, ht, -, -⟩ := HB.out.elem hc (k : Int) (by omega) (by omega)
      rw [Int.toNat_natCast, getD_of hget] at *
      obtain ⟨A3, c3, rfl, hl3, hC3⟩ := Kd.R_reads hw
      obtain ⟨A4, c4, rfl, hl4, hC4⟩ := kTs_C_of_S ht
      have EO := HE.out o hmem
      have hcr := cell_on BW.out hc
      have q0 := cell_on BW.out k0
      have q1 := cell_on BW.out k1
      have q2 := cell_on BW.out k2
      have q3 := cell_on BW.out k3
      have HGET := Aside0.mk hget
      have H3 := Aside0.mk hC3
      have H4 := Aside0.mk hC4
      have HEO := Aside0.mk EO
      clear hget hmem hC3 hC4 hw ht EO hblk k0 k1 k2 k3
      have hbW1 : Below w.heap.size w (wo.alloc (.cells #[.slice A3 o.wants.length c3, .int .i64 o.due, .int .i64 o.state, .slice A4 o.takes.length c4] 96)) := below_alloc BW.out _
      have hBL1 := BL.out.below (below_alloc (Below.refl wo.heap.size wo) (.cells #[.slice A3 o.wants.length c3, .int .i64 o.due, .int .i64 o.state, .slice A4 o.takes.length c4] 96))
      have hT1 := heap_alloc_new wo (.cells #[.slice A3 o.wants.length c3, .int .i64 o.due, .int .i64 o.state, .slice A4 o.takes.length c4] 96)
      have hwn := HEO.out.wn
      have h75 := f75_any o.wants.length (by omega) (by omega) _ (HSTD.out _ hbW1)
      have hPL := (pre_len Tq.encOrd os k o HGET.out).1
      have HSTEP := Aside0.mk (pre_len Tq.encOrd os k o HGET.out).2
      generalize hpre : (Tq.enc os.length ++ (os.take k).flatMap Tq.encOrd) = pre at *
      have hPL2 : (pre ++ Tq.encOrd o).length ≤ 20000001000 := by
        have := HBL.out
        rw [HENC.out] at this
        rw [← hpre]
        simp only [List.length_append] at *
        omega
      have HPL := Aside0.mk hPL2
      have HPRE := Aside0.mk hpre
      have hbbt : w.heap.size < wo.heap.size := Nat.lt_of_le_of_lt BL.out.ge BL.out.lt
      unfold strOf at h75
      have HBW1 := Aside0.mk hbW1
      have HBL1 := Aside0.mk hBL1
      have HT1 := Aside0.mk hT1
      clear hbW1 hBL1 hT1 hPL hPL2 hpre
      go_wp2_with (go_at_call 75; refine h75.mono ?_; rintro e w3 ⟨rfl, hb3⟩; refine Hid.out ?_)
      refine Lib.hid ?_
      have h74 := f74_bld w.heap.size w.heap.size pre (Tq.enc o.wants.length) w3 (HBL1.out.below hb3) (by have := HPL.out; simp [Tq.encOrd] at *; omega) (by have := hb3.size; simp at this; omega)
      have HB3 := Aside0.mk (HBW1.out.trans (hb3.mono (by simp; omega)))
      have HT3 := Aside0.mk ((hb3.block wo.heap.size (by simp)).trans HT1.out)
      clear hb3 h75
      go_wp2_with (go_at_call 74; refine h74.mono ?_; rintro e w4 ⟨rfl, hBd, hF⟩; refine Hid.out ?_)
      refine Lib.hid ?_
      have HB4 := Aside0.mk (HB3.out.trans hF.below)
      have HT4 := Aside0.mk (hF.blk HT3.out (by decide) (by omega))
      have HBD4 := Aside0.mk hBd
      have t40 : w4.cell? ⟨wo.heap.size, 0, none⟩ = some (.slice A3 o.wants.length c3) := (blk_facts HT4.out).1 0
      clear hBd hF h74
      go_wp2
      go_loopw [38] (fun s38 wr => ∃ j : Nat, j ≤ o.wants.length ∧ s38 = .int .i64 j ∧ Aside0 (Below w.heap.size w wr) ∧ Aside0 (Bld w.heap.size w.heap.size (pre ++ Tq.enc o.wants.length ++ (o.wants.take j).flatMap Tq.encWant) wr) ∧ Aside0 (wr.heap[wo.heap.size]? = some (.cells #[.slice A3 o.wants.length c3, .int .i64 o.due, .int .i64 o.state, .slice A4 o.takes.length c4] 96 (0, 0)))) (fun s38 _ => o.wants.length - (intOf s38).toNat)
      case atStart => exact ⟨0, Nat.zero_le _, rfl, HB4, by simpa using HBD4, HT4⟩
      case round =>
        obtain ⟨j, hj, rfl, BW5, BL5, T5⟩ := hrel
        by_cases hltj : j < o.wants.length
        · have hltjz : (j : Int) < (o.wants.length : Int) := by omega
          have hgetx : o.wants[j]? = some o.wants[j] := List.getElem?_eq_getElem hltj
          have hmemx := List.getElem_mem hltj
          generalize o.wants[j] = x at hgetx hmemx
          obtain ⟨wi, hwi⟩ : ∃ wi, wi = wr := ⟨_, rfl⟩
          subst hwi
          obtain ⟨ad, rfl, p0, p1, p2⟩ := at_W H3.out j x hgetx
          have r0 := cell_on BW5.out p0
          have r1 := cell_on BW5.out p1
          have r2 := cell_on BW5.out p2
          obtain ⟨hxk, hxc, hxt⟩ := HEO.out.wk x hmemx
          have HX := Aside0.mk (pre_len Tq.encWant o.wants j x hgetx)
          clear p0 p1 p2 hgetx hmemx
          have hbW5 : Below w.heap.size w (wi.alloc (.cells #[.int .i64 x.kind, .int .i64 x.count, .int .i64 x.til] 100)) := below_alloc BW5.out _
          have hT7 := heap_alloc_new wi (.cells #[.int .i64 x.kind, .int .i64 x.count, .int .i64 x.til] 100)
          have hBL6 := BL5.out.below (below_alloc (Below.refl wi.heap.size wi) (.cells #[.int .i64 x.kind, .int .i64 x.count, .int .i64 x.til] 100))
          have hT56 : (wi.alloc (.cells #[.int .i64 x.kind, .int .i64 x.count, .int .i64 x.til] 100)).heap[wo.heap.size]? = _ := (Below.heap_alloc wi _ _ (Array.getElem?_eq_some_iff.1 T5.out).1).trans T5.out
          have hsz6 : (wi.alloc (.cells #[.int .i64 x.kind, .int .i64 x.count, .int .i64 x.til] 100)).heap.size = wi.heap.size + 1 := by simp
          have hbbi : w.heap.size < wi.heap.size := BL5.out.lt
          go_wp2_with fail
          generalize wi.alloc (.cells #[.int .i64 x.kind, .int .i64 x.count, .int .i64 x.til] 100) = w6 at *
          have hq : ∀ W, Below w6.heap.size w6 W → W.cell? ⟨wi.heap.size, 0, none⟩ = some (.int .i64 x.kind) ∧ W.cell? ⟨wi.heap.size, 1, none⟩ = some (.int .i64 x.count) ∧ W.cell? ⟨wi.heap.size, 2, none⟩ = some (.int .i64 x.til) := by
            intro W hb
            have hh := (blk_facts ((hb.block wi.heap.size (by omega)).trans hT7)).1
            exact ⟨hh 0, hh 1, hh 2⟩
          have hI : ∀ n : Int, -9223372036854775808 ≤ n → n ≤ 9223372036854775807 → ∀ W, Below w6.heap.size w6 W → Calls Tryz.prog 76 #[.int .i64 n] W fun e w' => e = .returned (.string ⟨(Tq.enc n).toArray⟩) ∧ Below w6.heap.size w6 w' := by
            intro n h0 h1 W hb
            refine (f76_any n h0 h1 W (HSTD.out W (hbW5.trans (hb.mono (by omega))))).mono ?_
            rintro e w' ⟨rfl, h2⟩
            exact ⟨rfl, hb.trans (h2.mono hb.size)⟩
          have hIk := hI x.kind hxk.1 hxk.2
          have hIc := hI x.count hxc.1 hxc.2
          have hIt := hI x.til hxt.1 hxt.2
          have hlk := enc_len x.kind hxk.1 hxk.2
          have hlc := enc_len x.count hxc.1 hxc.2
          have hlt2 := enc_len x.til hxt.1 hxt.2
          have hW : ∀ W, Below w6.heap.size w6 W → Calls Tryz.prog 74 #[.pointer (some ⟨w.heap.size, 0, none⟩), .string ⟨(Tq.encWant x).toArray⟩] W fun e w' => e = .returned (.tuple #[.int .i64 (Tq.encWant x).length, .nilIface]) ∧
              Aside0 (Below w.heap.size w w' ∧ Bld w.heap.size w.heap.size (pre ++ Tq.enc o.wants.length ++ (o.wants.take (j + 1)).flatMap Tq.encWant) w' ∧ w'.heap[wo.heap.size]? = some (.cells #[.slice (some ad) o.wants.length c3, .int .i64 o.due, .int .i64 o.state, .slice A4 o.takes.length c4] 96 (0, 0)) ∧
                w'.heap[wi.heap.size]? = some (.cells #[.int .i64 x.kind, .int .i64 x.count, .int .i64 x.til] 100 (0, 0))) := by
            intro W hb
            have hlenx := HX.out.1
            have hpl := HPL.out
            have hle : (pre ++ Tq.enc o.wants.length ++ (o.wants.take j).flatMap Tq.encWant ++ Tq.encWant x).length ≤ 140737488355328 := by
              simp only [Tq.encOrd, List.length_append] at hlenx hpl ⊢
              omega
            refine (f74_bld w.heap.size w.heap.size _ (Tq.encWant x) W (hBL6.below hb) hle (by have := hb.size; omega)).mono ?_
            rintro e w' ⟨rfl, h1, h2⟩
            refine ⟨rfl, ⟨(hbW5.trans (hb.mono (by omega))).trans h2.below, ?_, ?_, ?_⟩⟩
            · rw [HX.out.2, ← List.append_assoc]; exact h1
            · exact h2.blk ((hb.block _ (Array.getElem?_eq_some_iff.1 hT56).1).trans hT56) (by decide) (by omega)
            · exact h2.blk ((hb.block _ (Array.getElem?_eq_some_iff.1 hT7).1).trans hT7) (by decide) (by omega)
          have hqd : ∀ w', Aside0 (Below w.heap.size w w' ∧ Bld w.heap.size w.heap.size (pre ++ Tq.enc o.wants.length ++ (o.wants.take (j + 1)).flatMap Tq.encWant) w' ∧ w'.heap[wo.heap.size]? = some (.cells #[.slice (some ad) o.wants.length c3, .int .i64 o.due, .int .i64 o.state, .slice A4 o.takes.length c4] 96 (0, 0)) ∧
                w'.heap[wi.heap.size]? = some (.cells #[.int .i64 x.kind, .int .i64 x.count, .int .i64 x.til] 100 (0, 0))) → w'.cell? ⟨wi.heap.size, 0, none⟩ = some (.int .i64 x.kind) ∧ w'.cell? ⟨wi.heap.size, 1, none⟩ = some (.int .i64 x.count) ∧ w'.cell? ⟨wi.heap.size, 2, none⟩ = some (.int .i64 x.til) := by
            intro w' h
            have hh := (blk_facts h.out.2.2.2).1
            exact ⟨hh 0, hh 1, hh 2⟩
          have hun := str_add
          have hencx : Tq.encWant x = Tq.enc x.kind ++ (Tq.enc x.count ++ Tq.enc x.til) := List.append_assoc _ _ _
          rw [hencx] at hW
          have HQ := Aside0.mk hq
          have HQD := Aside0.mk hqd
          clear hq hqd hI hbW5 hT7 hBL6 hT56 hxk hxc hxt hencx hsz6 r0 r1 r2 BL5 T5 BW5
          generalize Tq.enc x.kind = ek at *
          generalize Tq.enc x.count = ec at *
          generalize Tq.enc x.til = et at *
          have hs1 : ¬ 9223372036854775807 < ek.length + ec.length := by omega
          have hs2 : ¬ 9223372036854775807 < ek.length + ec.length + et.length := by omega
          have hs3 : ¬ 9223372036854775807 < ek.length + (ec.length + et.length) := by omega
          go_region_held3 (fun wx => wx.cell? ⟨wi.heap.size, 0, none⟩ = some (.int .i64 x.kind) ∧ wx.cell? ⟨wi.heap.size, 1, none⟩ = some (.int .i64 x.count) ∧ wx.cell? ⟨wi.heap.size, 2, none⟩ = some (.int .i64 x.til)) (first | exact HQ.out _ (Below.refl _ _).drew | exact HQ.out _ hba | exact HQ.out _ hbb | exact HQ.out _ hbc | exact HQD.out _ hd)
            ((first | (go_at_call 76; ((with_reducible refine (hIk _ (Below.refl _ _).drew).mono ?_); rintro e wa ⟨rfl, hba⟩)) | (go_at_call 76; ((with_reducible refine (hIc _ hba).mono ?_); rintro e wb ⟨rfl, hbb⟩)) | (go_at_call 76; ((with_reducible refine (hIt _ hbb).mono ?_); rintro e wc ⟨rfl, hbc⟩)) | (go_at_call 74; ((with_reducible refine (hW _ hbc).mono ?_); rintro e wd ⟨rfl, hd⟩))))
          go_wp2
          go_roundw
          case rel => exact ⟨j + 1, by omega, by go_num, ⟨hd.out.1⟩, ⟨hd.out.2.1⟩, ⟨hd.out.2.2.1⟩⟩
          case measure => simp [intOf]; omega
        · have hltjz : ¬ (j : Int) < (o.wants.length : Int) := by omega
          have E : j = o.wants.length := by omega
          subst E
          obtain ⟨wi, hwi⟩ : ∃ wi, wi = wr := ⟨_, rfl⟩
          subst hwi
          rw [List.take_length] at BL5
          have t51 : wi.cell? ⟨wo.heap.size, 1, none⟩ = some (.int .i64 o.due) := (blk_facts T5.out).1 1
          have t52 : wi.cell? ⟨wo.heap.size, 2, none⟩ = some (.int .i64 o.state) := (blk_facts T5.out).1 2
          have t53 : wi.cell? ⟨wo.heap.size, 3, none⟩ = some (.slice A4 o.takes.length c4) := (blk_facts T5.out).1 3
          obtain ⟨hdu, hst⟩ := (⟨HEO.out.du, HEO.out.st⟩ : _ ∧ _)
          have hld := enc_len o.due hdu.1 hdu.2
          have hls := enc_len o.state hst.1 hst.2
          have hsz6 : w.heap.size < wi.heap.size := BL5.out.lt
          have hbi := BW5.out
          have hq : ∀ W, Below wi.heap.size wi W → W.cell? ⟨wo.heap.size, 1, none⟩ = some (.int .i64 o.due) ∧ W.cell? ⟨wo.heap.size, 2, none⟩ = some (.int .i64 o.state) := by
            intro W hb
            have hh := (blk_facts ((hb.block wo.heap.size (Array.getElem?_eq_some_iff.1 T5.out).1).trans T5.out)).1
            exact ⟨hh 1, hh 2⟩
          have hI : ∀ n : Int, -9223372036854775808 ≤ n → n ≤ 9223372036854775807 → ∀ W, Below wi.heap.size wi W → Calls Tryz.prog 76 #[.int .i64 n] W fun e w' => e = .returned (.string ⟨(Tq.enc n).toArray⟩) ∧ Below wi.heap.size wi w' := by
            intro n h0 h1 W hb
            refine (f76_any n h0 h1 W (HSTD.out W (hbi.trans (hb.mono (by omega))))).mono ?_
            rintro e w' ⟨rfl, h2⟩
            exact ⟨rfl, hb.trans (h2.mono hb.size)⟩
          have hId := hI o.due hdu.1 hdu.2
          have hIs := hI o.state hst.1 hst.2
          have hW : ∀ W, Below wi.heap.size wi W → Calls Tryz.prog 74 #[.pointer (some ⟨w.heap.size, 0, none⟩), .string ⟨(Tq.enc o.due ++ Tq.enc o.state).toArray⟩] W fun e w' => e = .returned (.tuple #[.int .i64 (Tq.enc o.due ++ Tq.enc o.state).length, .nilIface]) ∧
              Aside0 (Below w.heap.size w w' ∧ Bld w.heap.size w.heap.size (pre ++ Tq.enc o.wants.length ++ o.wants.flatMap Tq.encWant ++ (Tq.enc o.due ++ Tq.enc o.state)) w' ∧ w'.heap[wo.heap.size]? = some (.cells #[.slice A3 o.wants.length c3, .int .i64 o.due, .int .i64 o.state, .slice A4 o.takes.length c4] 96 (0, 0))) := by
            intro W hb
            have hpl := HPL.out
            have hle : (pre ++ Tq.enc o.wants.length ++ o.wants.flatMap Tq.encWant ++ (Tq.enc o.due ++ Tq.enc o.state)).length ≤ 140737488355328 := by
              simp only [Tq.encOrd, List.length_append] at hpl ⊢
              omega
            refine (f74_bld w.heap.size w.heap.size _ (Tq.enc o.due ++ Tq.enc o.state) W (BL5.out.below hb) hle (by have := hb.size; omega)).mono ?_
            rintro e w' ⟨rfl, h1, h2⟩
            exact ⟨rfl, ⟨(hbi.trans (hb.mono (by omega))).trans h2.below, h1, h2.blk ((hb.block _ (Array.getElem?_eq_some_iff.1 T5.out).1).trans T5.out) (by decide) (by omega)⟩⟩
          have hqd : ∀ w', Aside0 (Below w.heap.size w w' ∧ Bld w.heap.size w.heap.size (pre ++ Tq.enc o.wants.length ++ o.wants.flatMap Tq.encWant ++ (Tq.enc o.due ++ Tq.enc o.state)) w' ∧ w'.heap[wo.heap.size]? = some (.cells #[.slice A3 o.wants.length c3, .int .i64 o.due, .int .i64 o.state, .slice A4 o.takes.length c4] 96 (0, 0))) → w'.cell? ⟨wo.heap.size, 1, none⟩ = some (.int .i64 o.due) ∧ w'.cell? ⟨wo.heap.size, 2, none⟩ = some (.int .i64 o.state) := by
            intro w' h
            have hh := (blk_facts h.out.2.2).1
            exact ⟨hh 1, hh 2⟩
          have hun := str_add
          have HQ := Aside0.mk hq
          have HQD := Aside0.mk hqd
          have HDS := Aside0.mk (show (Tq.enc o.due ++ Tq.enc o.state).length ≤ 42 by simp only [List.length_append]; omega)
          generalize hed : Tq.enc o.due = ed at *
          generalize hes : Tq.enc o.state = es at *
          have HED := Aside0.mk hed
          have HES := Aside0.mk hes
          have hs1 : ¬ 9223372036854775807 < ed.length + es.length := by omega
          clear hq hqd hI hbi hsz6 hdu hst hed hes BL5 BW5 T5 t53
          go_wp2_with fail
          go_region_held3 (fun wx => wx.cell? ⟨wo.heap.size, 1, none⟩ = some (.int .i64 o.due) ∧ wx.cell? ⟨wo.heap.size, 2, none⟩ = some (.int .i64 o.state)) (first | exact HQ.out _ (Below.refl _ _).drew | exact HQ.out _ hba | exact HQ.out _ hbb | exact HQD.out _ hd)
            ((first | (go_at_call 76; ((with_reducible refine (hId _ (Below.refl _ _).drew).mono ?_); rintro e wa ⟨rfl, hba⟩)) | (go_at_call 76; ((with_reducible refine (hIs _ hba).mono ?_); rintro e wb ⟨rfl, hbb⟩)) | (go_at_call 74; ((with_reducible refine (hW _ hbb).mono ?_); rintro e wd ⟨rfl, hd⟩))))
          have HB7 := Aside0.mk hd.out.1
          have HL7 := Aside0.mk hd.out.2.1
          have t73 : wd.cell? ⟨wo.heap.size, 3, none⟩ = some (.slice A4 o.takes.length c4) := (blk_facts hd.out.2.2).1 3
          clear hd hs1 hId hIs hW
          have htn := HEO.out.tn
          generalize hpre7 : (pre ++ Tq.enc o.wants.length ++ o.wants.flatMap Tq.encWant ++ (ed ++ es)) = pre7 at *
          have HPRE7 := Aside0.mk hpre7
          have hpl7 : (pre7 ++ o.takes.flatMap Tq.encTakes).length ≤ 20000001000 := by
            have hpl := HPL.out
            rw [← hpre7]
            simp only [Tq.encOrd, List.length_append, HED.out, HES.out] at hpl ⊢
            omega
          have HPL7 := Aside0.mk hpl7
          clear hpre7 hpl7
          go_wp2
          go_loopw [68] (fun s68 wr => ∃ i : Nat, i ≤ o.takes.length ∧ s68 = .int .i64 i ∧ Aside0 (Below w.heap.size w wr) ∧ Aside0 (Bld w.heap.size w.heap.size (pre7 ++ (o.takes.take i).flatMap Tq.encTakes) wr)) (fun s68 _ => o.takes.length - (intOf s68).toNat)
          case atStart => exact ⟨0, Nat.zero_le _, rfl, HB7, by simpa using HL7⟩
          case round =>
            obtain ⟨i, hi, rfl, BW8, BL8⟩ := hrel
            by_cases hlti : i < o.takes.length
            · have hltiz : (i : Int) < (o.takes.length : Int) := by omega
              have hgetx : o.takes[i]? = some o.takes[i] := List.getElem?_eq_getElem hlti
              have hmemx := List.getElem_mem hlti
              generalize o.takes[i] = x at hgetx hmemx
              obtain ⟨wj, hwj⟩ : ∃ wj, wj = wr := ⟨_, rfl⟩
              subst hwj
              obtain ⟨inner, hin1, hin2, hin3, hin4⟩ := kTs_cells H4.out
              obtain ⟨A', c', hin5, hC5⟩ := hin4 i x hgetx
              obtain ⟨ad4, rfl, hin6⟩ := hin2 (by omega)
              have r0 := cell_on BW8.out (hin6 i _ hin5)
              have HX := Aside0.mk (pre_len Tq.encTakes o.takes i x hgetx)
              have H5 := Aside0.mk hC5
              have htl := HEO.out.tl x hmemx
              have HTT := Aside0.mk (HEO.out.tt x hmemx)
              clear hin1 hin2 hin3 hin4 hin5 hin6 hC5 hgetx hmemx
              have h75 := f75_any x.length (by omega) (by omega) wj (HSTD.out _ BW8.out)
              unfold strOf at h75
              have hpl7 := HPL7.out
              have hxl := HX.out.1
              have henx := enc_len x.length (by omega) (by omega)
              have hle : (pre7 ++ (o.takes.take i).flatMap Tq.encTakes ++ Tq.enc x.length).length ≤ 140737488355328 := by
                simp only [Tq.encTakes, List.length_append] at hpl7 hxl ⊢
                omega
              have hle2 : (pre7 ++ (o.takes.take i).flatMap Tq.encTakes ++ Tq.enc x.length ++ x.flatMap Tq.encTake).length ≤ 140737488355328 := by
                simp only [Tq.encTakes, List.length_append] at hpl7 hxl ⊢
                omega
              have HLE := Aside0.mk hle
              have HLE2 := Aside0.mk hle2
              clear hle hle2 hpl7 hxl
              go_wp2_with (go_at_call 75; refine h75.mono ?_; rintro e w8 ⟨rfl, hb8⟩; refine Hid.out ?_)
              refine Lib.hid ?_
              have hjB : w.heap.size < wj.heap.size := BL8.out.lt
              have h74 := f74_bld w.heap.size w.heap.size _ (Tq.enc x.length) w8 (BL8.out.below hb8) HLE.out (by have := hb8.size; omega)
              have HB8 := Aside0.mk (BW8.out.trans (hb8.mono (by omega)))
              clear hb8 h75
              go_wp2_with (go_at_call 74; refine h74.mono ?_; rintro e w9 ⟨rfl, hBd9, hF9⟩; refine Hid.out ?_)
              refine Lib.hid ?_
              have HB9 := Aside0.mk (HB8.out.trans hF9.below)
              have HBD9 := Aside0.mk hBd9
              clear hBd9 hF9 h74
              generalize hpre9 : (pre7 ++ (o.takes.take i).flatMap Tq.encTakes ++ Tq.enc x.length) = pre9 at *
              have HPRE9 := Aside0.mk hpre9
              clear hpre9
              go_wp2
              go_loopw [78] (fun s78 wr => ∃ j : Nat, j ≤ x.length ∧ s78 = .int .i64 j ∧ Aside0 (Below w.heap.size w wr) ∧ Aside0 (Bld w.heap.size w.heap.size (pre9 ++ (x.take j).flatMap Tq.encTake) wr)) (fun s78 _ => x.length - (intOf s78).toNat)
              case atStart => exact ⟨0, Nat.zero_le _, rfl, HB9, by simpa using HBD9⟩
              case round =>
                obtain ⟨j, hj, rfl, BWA, BLA⟩ := hrel
                by_cases hltj : j < x.length
                · have hltjz : (j : Int) < (x.length : Int) := by omega
                  have hgett : x[j]? = some x[j] := List.getElem?_eq_getElem hltj
                  have hmemt := List.getElem_mem hltj
                  generalize x[j] = t at hgett hmemt
                  obtain ⟨wi, hwi⟩ : ∃ wi, wi = wr := ⟨_, rfl⟩
                  subst hwi
                  obtain ⟨ad, rfl, p0, p1⟩ := at_T H5.out j t hgett
                  have r0 := cell_on BWA.out p0
                  have r1 := cell_on BWA.out p1
                  obtain ⟨hxb, hxn⟩ := HTT.out t hmemt
                  have HXT := Aside0.mk (pre_len Tq.encTake x j t hgett)
                  clear p0 p1 hgett hmemt
                  have hbW5 : Below w.heap.size w (wi.alloc (.cells #[.int .i64 t.box, .int .i64 t.n] 66)) := below_alloc BWA.out _
                  have hT7 := heap_alloc_new wi (.cells #[.int .i64 t.box, .int .i64 t.n] 66)
                  have hBL6 := BLA.out.below (below_alloc (Below.refl wi.heap.size wi) (.cells #[.int .i64 t.box, .int .i64 t.n] 66))
                  have hsz6 : (wi.alloc (.cells #[.int .i64 t.box, .int .i64 t.n] 66)).heap.size = wi.heap.size + 1 := by simp
                  have hbbi : w.heap.size < wi.heap.size := BLA.out.lt
                  go_wp2_with fail
                  generalize wi.alloc (.cells #[.int .i64 t.box, .int .i64 t.n] 66) = w6 at *
                  have hq : ∀ W, Below w6.heap.size w6 W → W.cell? ⟨wi.heap.size, 0, none⟩ = some (.int .i64 t.box) ∧ W.cell? ⟨wi.heap.size, 1, none⟩ = some (.int .i64 t.n) := by
                    intro W hb
                    have hh := (blk_facts ((hb.block wi.heap.size (by omega)).trans hT7)).1
                    exact ⟨hh 0, hh 1⟩
                  have hI : ∀ n : Int, -9223372036854775808 ≤ n → n ≤ 9223372036854775807 → ∀ W, Below w6.heap.size w6 W → Calls Tryz.prog 76 #[.int .i64 n] W fun e w' => e = .returned (.string ⟨(Tq.enc n).toArray⟩) ∧ Below w6.heap.size w6 w' := by
                    intro n h0 h1 W hb
                    refine (f76_any n h0 h1 W (HSTD.out W (hbW5.trans (hb.mono (by omega))))).mono ?_
                    rintro e w' ⟨rfl, h2⟩
                    exact ⟨rfl, hb.trans (h2.mono hb.size)⟩
                  have hIb := hI t.box hxb.1 hxb.2
                  have hIn := hI t.n hxn.1 hxn.2
                  have hlb := enc_len t.box hxb.1 hxb.2
                  have hln := enc_len t.n hxn.1 hxn.2
                  have hW : ∀ W, Below w6.heap.size w6 W → Calls Tryz.prog 74 #[.pointer (some ⟨w.heap.size, 0, none⟩), .string ⟨(Tq.encTake t).toArray⟩] W fun e w' => e = .returned (.tuple #[.int .i64 (Tq.encTake t).length, .nilIface]) ∧
                      Aside0 (Below w.heap.size w w' ∧ Bld w.heap.size w.heap.size (pre9 ++ (x.take (j + 1)).flatMap Tq.encTake) w' ∧ w'.heap[wi.heap.size]? = some (.cells #[.int .i64 t.box, .int .i64 t.n] 66 (0, 0))) := by
                    intro W hb
                    have hlenx := HXT.out.1
                    have hle2 := HLE2.out
                    have hle : (pre9 ++ (x.take j).flatMap Tq.encTake ++ Tq.encTake t).length ≤ 140737488355328 := by
                      simp only [List.length_append] at hlenx hle2 ⊢
                      omega
                    refine (f74_bld w.heap.size w.heap.size _ (Tq.encTake t) W (hBL6.below hb) hle (by have := hb.size; omega)).mono ?_
                    rintro e w' ⟨rfl, h1, h2⟩
                    refine ⟨rfl, ⟨(hbW5.trans (hb.mono (by omega))).trans h2.below, ?_, ?_⟩⟩
                    · rw [HXT.out.2, ← List.append_assoc]; exact h1
                    · exact h2.blk ((hb.block _ (Array.getElem?_eq_some_iff.1 hT7).1).trans hT7) (by decide) (by omega)
                  have hqd : ∀ w', Aside0 (Below w.heap.size w w' ∧ Bld w.heap.size w.heap.size (pre9 ++ (x.take (j + 1)).flatMap Tq.encTake) w' ∧ w'.heap[wi.heap.size]? = some (.cells #[.int .i64 t.box, .int .i64 t.n] 66 (0, 0))) → w'.cell? ⟨wi.heap.size, 0, none⟩ = some (.int .i64 t.box) ∧ w'.cell? ⟨wi.heap.size, 1, none⟩ = some (.int .i64 t.n) := by
                    intro w' h
                    have hh := (blk_facts h.out.2.2).1
                    exact ⟨hh 0, hh 1⟩
                  have hun := str_add
                  have henct : Tq.encTake t = Tq.enc t.box ++ Tq.enc t.n := rfl
                  rw [henct] at hW
                  have HQ := Aside0.mk hq
                  have HQD := Aside0.mk hqd
                  clear hq hqd hI hbW5 hT7 hBL6 hxb hxn henct hsz6 r0 r1 BLA BWA
                  generalize Tq.enc t.box = ek at *
                  generalize Tq.enc t.n = ec at *
                  have hs1 : ¬ 9223372036854775807 < ek.length + ec.length := by omega
                  go_region_held3 (fun wx => wx.cell? ⟨wi.heap.size, 0, none⟩ = some (.int .i64 t.box) ∧ wx.cell? ⟨wi.heap.size, 1, none⟩ = some (.int .i64 t.n)) (first | exact HQ.out _ (Below.refl _ _).drew | exact HQ.out _ hba | exact HQ.out _ hbb | exact HQD.out _ hd)
                    ((first | (go_at_call 76; ((with_reducible refine (hIb _ (Below.refl _ _).drew).mono ?_); rintro e wa ⟨rfl, hba⟩)) | (go_at_call 76; ((with_reducible refine (hIn _ hba).mono ?_); rintro e wb ⟨rfl, hbb⟩)) | (go_at_call 74; ((with_reducible refine (hW _ hbb).mono ?_); rintro e wd ⟨rfl, hd⟩))))
                  go_wp2
                  go_roundw
                  case rel => exact ⟨j + 1, by omega, by go_num, ⟨hd.out.1⟩, ⟨hd.out.2.1⟩⟩
                  case measure => simp [intOf]; omega
                · have hltjz : ¬ (j : Int) < (x.length : Int) := by omega
                  have E : j = x.length := by omega
                  subst E
                  have hend : Aside0 (Bld w.heap.size w.heap.size (pre7 ++ (o.takes.take (i + 1)).flatMap Tq.encTakes) wr) := by
                    refine ⟨?_⟩
                    have := BLA.out
                    rw [List.take_length, ← HPRE9.out] at this
                    rw [HX.out.2]
                    simpa [Tq.encTakes] using this
                  clear BLA
                  go_wp2
                  go_roundw
                  case rel => exact ⟨i + 1, by omega, by go_num, BWA, hend⟩
                  case measure => simp [intOf]; omega
            · have hltiz : ¬ (i : Int) < (o.takes.length : Int) := by omega
              have E : i = o.takes.length := by omega
              subst E
              have hend : Aside0 (Bld w.heap.size w.heap.size (Tq.enc os.length ++ (os.take (k + 1)).flatMap Tq.encOrd) wr) := by
                refine ⟨?_⟩
                have := BL8.out
                rw [List.take_length, ← HPRE7.out, ← HPRE.out] at this
                rw [HSTEP.out]
                simpa [Tq.encOrd, HED.out, HES.out] using this
              clear BL8
              go_wp2
              go_roundw
              case rel => exact ⟨k + 1, by omega, by go_num, BW8, hend⟩
              case measure => simp [intOf]; omega
    · have hltz : ¬ (k : Int) < (os.length : Int) := by omega
      have E : k = os.length := by omega
      subst E
      have hBr := BL.out
      rw [List.take_length, ← HENC.out] at hBr
      have h77 := Tryz.Builder_String_any_f w.heap.size w.heap.size res wr hBr BW.out.size
      clear hBr BL
      go_wp2_with (go_at_call 77; refine h77.mono ?_; rintro e w3 ⟨rfl, hx3, hb3⟩)
      go_ret
      exact ⟨rfl, BW.out.trans hb3⟩
end Go.Proofs.YtcliaokoganbaaaGreatDoor
set_option linter.unusedVariables false
set_option linter.unusedSimpArgs false
namespace Go.Proofs.YtcliaokoganbaaaGreatDoor
open Go Go.RowKit Go.Shelf Go.Proofs.YtcliaokoganbaaaGreatDoorW.PrintWords Go.Proofs.YtcliaokoganbaaaGreatDoorW.PrintLast Go.Proofs.YtcliaokoganbaaaGreatDoorW.PrintMore
open Tq (Lot Box Want Take Ord Op BookInv OrdInv)
/-! ### Reading, round by round (no program in sight) -/
theorem number_lt (r : Tq.Rd) (stop : UInt8) (least : Int) (h : r.rest ≠ []) : (Tq.number r stop least).2.rest.length < r.rest.length := by
  have hp : 0 < r.rest.length := List.length_pos_iff.2 h
  unfold Tq.number
  simp only
  split
  · simpa using hp
  · split
    · split
      · simpa using hp
      · simp; omega
    · simpa using hp
theorem rInt_lt (r : Tq.Rd) (h : r.rest ≠ []) : (Tq.rInt r).2.rest.length < r.rest.length := number_lt r 59 _ h
theorem rNum_lt (r : Tq.Rd) (h : r.rest ≠ []) : (Tq.rNum r).2.rest.length < r.rest.length := number_lt r 59 _ h
structure RW (K : Nat) (r0 : Tq.Rd) (j : Nat) (r : Tq.Rd) (acc : List Want) : Prop where
  eq : Tq.readWants K r0 = (acc ++ (Tq.readWants j r).1, (Tq.readWants j r).2)
  len : acc.length + r.rest.length ≤ r0.rest.length
theorem RW.start (K : Nat) (r0 : Tq.Rd) : RW K r0 K r0 [] := ⟨by simp, by simp⟩
theorem RW.step {K j : Nat} {r0 r : Tq.Rd} {acc : List Want} (h : RW K r0 (j + 1) r acc) (hr : r.rest ≠ []) :
    RW K r0 j (Tq.rInt (Tq.rInt (Tq.rInt r).2).2).2 (acc ++ [⟨(Tq.rInt r).1, (Tq.rInt (Tq.rInt r).2).1, (Tq.rInt (Tq.rInt (Tq.rInt r).2).2).1⟩]) := by
  refine ⟨?_, ?_⟩
  · rw [h.eq]
    simp only [Tq.readWants]
    rw [if_neg hr]
    simp
  · have h1 := rInt_lt r hr
    have h2 := rInt_rest (Tq.rInt r).2
    have h3 := rInt_rest (Tq.rInt (Tq.rInt r).2).2
    have := h.len
    simp only [List.length_append, List.length_cons, List.length_nil]
    omega
theorem RW.stop {K j : Nat} {r0 r : Tq.Rd} {acc : List Want} (h : RW K r0 j r acc) (hs : j = 0 ∨ r.rest = []) : Tq.readWants K r0 = (acc, r) := by
  have he : Tq.readWants j r = ([], r) := by
    rcases hs with rfl | hs
    · rfl
    · cases j with
      | zero => rfl
      | succ j => simp only [Tq.readWants]; rw [if_pos hs]
  rw [h.eq, he]; simp
/-- The takes of one want. -/
structure RT (K : Nat) (r0 : Tq.Rd) (j : Nat) (r : Tq.Rd) (acc : List Take) : Prop where
  eq : Tq.readTakes K r0 = ((Tq.readTakes j r).1.map (acc ++ ·), (Tq.readTakes j r).2)
  len : acc.length + r.rest.length ≤ r0.rest.length
  u0 : 0 ≤ Tq.units acc
  u1 : Tq.units acc ≤ acc.length * 20000
theorem units_append (a b : List Take) : Tq.units (a ++ b) = Tq.units a + Tq.units b := by
  induction a with
  | nil => simp [Tq.units]
  | cons x a ih => simp only [Tq.units, List.cons_append, List.foldr_cons] at *; omega
theorem RT.start (K : Nat) (r0 : Tq.Rd) : RT K r0 K r0 [] := ⟨by cases h : Tq.readTakes K r0 with | mk a b => cases a <;> simp, by simp, by simp [Tq.units], by simp [Tq.units]⟩
theorem RT.step {K j : Nat} {r0 r : Tq.Rd} {acc : List Take} (h : RT K r0 (j + 1) r acc) (hr : r.rest ≠ []) (ha : ¬ ((Tq.rInt r).1 < 0 ∨ 3000 ≤ (Tq.rInt r).1 ∨ (Tq.rInt (Tq.rInt r).2).1 < 1 ∨ 20000 < (Tq.rInt (Tq.rInt r).2).1)) :
    RT K r0 j (Tq.rInt (Tq.rInt r).2).2 (acc ++ [⟨(Tq.rInt r).1, (Tq.rInt (Tq.rInt r).2).1⟩]) := by
  refine ⟨?_, ?_, ?_, ?_⟩
  · rw [h.eq]
    simp only [Tq.readTakes]
    rw [if_neg hr, if_neg ha]
    cases (Tq.readTakes j (Tq.rInt (Tq.rInt r).2).2).1 <;> simp
  · have h1 := rInt_lt r hr
    have h2 := rInt_rest (Tq.rInt r).2
    have := h.len
    simp only [List.length_append, List.length_cons, List.length_nil]
    omega
  · rw [units_append]; have := h.u0; simp [Tq.units] at *; omega
  · rw [units_append]; have := h.u1; simp [Tq.units] at *; omega
theorem RT.bad {K j : Nat} {r0 r : Tq.Rd} {acc : List Take} (h : RT K r0 (j + 1) r acc) (hr : r.rest ≠ []) (ha : (Tq.rInt r).1 < 0 ∨ 3000 ≤ (Tq.rInt r).1 ∨ (Tq.rInt (Tq.rInt r).2).1 < 1 ∨ 20000 < (Tq.rInt (Tq.rInt r).2).1) :
    (Tq.readTakes K r0).1 = none := by
  rw [h.eq]
  simp only [Tq.readTakes]
  rw [if_neg hr, if_pos ha]; rfl
theorem RT.stop {K j : Nat} {r0 r : Tq.Rd} {acc : List Take} (h : RT K r0 j r acc) (hs : j = 0 ∨ r.rest = []) : Tq.readTakes K r0 = (some acc, r) := by
  have he : Tq.readTakes j r = (some [], r) := by
    rcases hs with rfl | hs
    · rfl
    · cases j with
      | zero => rfl
      | succ j => simp only [Tq.readTakes]; rw [if_pos hs]
  rw [h.eq, he]; simp
/-- The takes of all wants. -/
structure RA (ws : List Want) (r0 : Tq.Rd) (i : Nat) (r : Tq.Rd) (tss : List (List Take)) : Prop where
  eq : Tq.readAll ws r0 = ((Tq.readAll (ws.drop i) r).1.map (tss ++ ·), (Tq.readAll (ws.drop i) r).2)
  len : tss.length = i
  rest : r.rest.length ≤ r0.rest.length
theorem RA.start (ws : List Want) (r0 : Tq.Rd) : RA ws r0 0 r0 [] := ⟨by cases h : Tq.readAll ws r0 with | mk a b => cases a <;> simp [h], rfl, Nat.le_refl _⟩
theorem RA.none1 {ws : List Want} {i : Nat} {r0 r : Tq.Rd} {tss : List (List Take)} {x : Want} (h : RA ws r0 i r tss) (hx : ws[i]? = some x) (ht : (Tq.readTakes (Tq.rNum r).1.toNat (Tq.rNum r).2).1 = none) : (Tq.readAll ws r0).1 = none := by
  rw [h.eq, drop_cons hx]
  simp only [Tq.readAll]
  cases hq : Tq.readTakes (Tq.rNum r).1.toNat (Tq.rNum r).2 with
  | mk a b => rw [hq] at ht; simp only at ht; subst ht; rfl
theorem RA.none2 {ws : List Want} {i : Nat} {r0 r r2 : Tq.Rd} {tss : List (List Take)} {x : Want} {l : List Take} (h : RA ws r0 i r tss) (hx : ws[i]? = some x) (ht : Tq.readTakes (Tq.rNum r).1.toNat (Tq.rNum r).2 = (some l, r2)) (hu : x.count < Tq.units l) : (Tq.readAll ws r0).1 = none := by
  rw [h.eq, drop_cons hx]
  simp only [Tq.readAll, ht]
  rw [if_pos hu]; rfl
theorem RA.step {ws : List Want} {i : Nat} {r0 r r2 : Tq.Rd} {tss : List (List Take)} {x : Want} {l : List Take} (h : RA ws r0 i r tss) (hx : ws[i]? = some x) (ht : Tq.readTakes (Tq.rNum r).1.toNat (Tq.rNum r).2 = (some l, r2)) (hu : ¬ x.count < Tq.units l) (hr : r2.rest.length ≤ r.rest.length) :
    RA ws r0 (i + 1) r2 (tss ++ [l]) := by
  refine ⟨?_, by simp [h.len], Nat.le_trans hr h.rest⟩
  rw [h.eq, drop_cons hx]
  simp only [Tq.readAll, ht]
  rw [if_neg hu]
  cases (Tq.readAll (ws.drop (i + 1)) r2).1 <;> simp
theorem RA.stop {ws : List Want} {r0 r : Tq.Rd} {tss : List (List Take)} (h : RA ws r0 ws.length r tss) : Tq.readAll ws r0 = (some tss, r) := by
  rw [h.eq, List.drop_length]; simp [Tq.readAll]
theorem any_snoc (l : List (List Take)) (x : List Take) : (l ++ [x]).any (fun y => !y.isEmpty) = (l.any (fun y => !y.isEmpty) || decide (0 < x.length)) := by
  rw [List.any_append]
  cases x <;> simp

/-! ### How readOrd ends -/
section
variable {r : Tq.Rd} {ws : List Want} {r1 : Tq.Rd}
theorem readOrd_bad (h : Tq.readWants (Tq.rNum r).1.toNat (Tq.rNum r).2 = (ws, r1)) (hb : Tq.rightWants ws (Tq.rInt r1).1 = false ∨ (Tq.rInt (Tq.rInt r1).2).1 < 0 ∨ 5 ≤ (Tq.rInt (Tq.rInt r1).2).1) : (Tq.readOrd r).1 = none := by
  unfold Tq.readOrd
  simp only [h]
  rw [if_pos (by rcases hb with hb | hb | hb <;> simp [hb])]
theorem readOrd_plain (h : Tq.readWants (Tq.rNum r).1.toNat (Tq.rNum r).2 = (ws, r1)) (h1 : Tq.rightWants ws (Tq.rInt r1).1 = true) (h2 : 0 ≤ (Tq.rInt (Tq.rInt r1).2).1) (h3 : (Tq.rInt (Tq.rInt r1).2).1 < 5) (h4 : (Tq.rInt (Tq.rInt r1).2).1 ≠ 1) :
    Tq.readOrd r = (some ⟨ws, (Tq.rInt r1).1, (Tq.rInt (Tq.rInt r1).2).1, []⟩, (Tq.rInt (Tq.rInt r1).2).2) := by
  unfold Tq.readOrd
  simp only [h]
  rw [if_neg (by simp [h1]; omega), if_pos h4]
theorem readOrd_takes (h : Tq.readWants (Tq.rNum r).1.toNat (Tq.rNum r).2 = (ws, r1)) (h1 : Tq.rightWants ws (Tq.rInt r1).1 = true) (h4 : (Tq.rInt (Tq.rInt r1).2).1 = 1) {tss : List (List Take)} {r2 : Tq.Rd} (ht : Tq.readAll ws (Tq.rInt (Tq.rInt r1).2).2 = (some tss, r2)) (ha : tss.any (fun x => !x.isEmpty) = true) :
    Tq.readOrd r = (some ⟨ws, (Tq.rInt r1).1, (Tq.rInt (Tq.rInt r1).2).1, tss⟩, r2) := by
  unfold Tq.readOrd
  simp only [h]
  rw [if_neg (by simp [h1]; omega), if_neg (by simp [h4]), ht]
  simp only
  rw [if_pos ha]
theorem readOrd_empty (h : Tq.readWants (Tq.rNum r).1.toNat (Tq.rNum r).2 = (ws, r1)) (h1 : Tq.rightWants ws (Tq.rInt r1).1 = true) (h4 : (Tq.rInt (Tq.rInt r1).2).1 = 1) {tss : List (List Take)} {r2 : Tq.Rd} (ht : Tq.readAll ws (Tq.rInt (Tq.rInt r1).2).2 = (some tss, r2)) (ha : tss.any (fun x => !x.isEmpty) = false) :
    (Tq.readOrd r).1 = none := by
  unfold Tq.readOrd
  simp only [h]
  rw [if_neg (by simp [h1]; omega), if_neg (by simp [h4]), ht]
  simp only
  rw [if_neg (by simp [ha])]
theorem readOrd_none (h : Tq.readWants (Tq.rNum r).1.toNat (Tq.rNum r).2 = (ws, r1)) (h1 : Tq.rightWants ws (Tq.rInt r1).1 = true) (h4 : (Tq.rInt (Tq.rInt r1).2).1 = 1) (ht : (Tq.readAll ws (Tq.rInt (Tq.rInt r1).2).2).1 = none) :
    (Tq.readOrd r).1 = none := by
  unfold Tq.readOrd
  simp only [h]
  rw [if_neg (by simp [h1]; omega), if_neg (by simp [h4]), ht]
end
end Go.Proofs.YtcliaokoganbaaaGreatDoor
