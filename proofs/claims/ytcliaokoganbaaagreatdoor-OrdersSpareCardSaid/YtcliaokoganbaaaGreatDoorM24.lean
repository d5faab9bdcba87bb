/-
  Part 24 of the proof of the card: lemmas and walks, joined by mergeclaim.py out of the texts KA, KB, KC, KD.
-/
import Derived.Test.YtcliaokoganbaaaGreatDoorM20
import Derived.Test.YtcliaokoganbaaaGreatDoorM23
import Derived.BigQuiet
import Derived.Deep.QuietTactic
set_option linter.unusedVariables false
set_option linter.unusedSimpArgs false
namespace Go.Proofs.YtcliaokoganbaaaGreatDoor
open Go Go.RowKit Go.Shelf Go.Proofs.YtcliaokoganbaaaGreatDoorW.PrintWords Go.Proofs.YtcliaokoganbaaaGreatDoorW.PrintLast Go.Proofs.YtcliaokoganbaaaGreatDoorW.PrintMore
open Tq (Lot Box Want Take Ord BookInv OrdInv)
/-- slices.ContainsFunc at takes -/
theorem f56_any (g : Nat) (lb : Array Value) (p : Take → Bool) (A : Option Addr) (c : Nat) (ws : List Take) (w : World) (hC : kT.C w A ws.length ws)
    (eg : ∀ args w, (callFunc g args).run Tryz.prog w = .ok (.enter g args) w) (hp : PredT g lb p ws w) :
    Calls Tryz.prog 56 #[.slice A ws.length c, .func (.func g) #[] lb] w fun e w' => e = .returned (.bool (ws.any p)) ∧ Below w.heap.size w w' := by
  have hcon := f106_any g lb p A c ws w hC eg hp
  rw [← idxF_any]
  clear hC eg hp
  generalize idxF p ws = i at hcon ⊢
  go_enter Tryz.func56, Tryz.ntmps56
  go_wp2_with (go_at_call 106; refine hcon.mono ?_; rintro e w' ⟨rfl, hb'⟩)
  go_ret
  exact ⟨rfl, hb'⟩
theorem f57_any (x : Take) (A : Option Addr) (n c b : Nat) (w : World) (hc : w.cell? ⟨b, 0, none⟩ = some (.slice A n c)) (hn : n ≤ 20) :
    Calls Tryz.prog 57 #[.agg #[.int .i64 x.box, .int .i64 x.n], .pointer (some ⟨b, 0, none⟩)] w fun e w' => e = .returned (.bool (!decide (0 ≤ x.box ∧ x.box ≤ (n : Int) - 1))) ∧ Below w.heap.size w w' := by
  have hB := below_alloc (Below.refl w.heap.size w) (.cells #[.int .i64 x.box, .int .i64 x.n] 66)
  have hc' := cell_on hB hc
  have hcall := P.stock_between.calls x.box 0 ((n : Int) - 1) _ (w.alloc (.cells #[.int .i64 x.box, .int .i64 x.n] 66)) (between_f _ _ _)
  generalize decide (0 ≤ x.box ∧ x.box ≤ (n : Int) - 1) = r at hcall ⊢
  have HB := Aside0.mk hB
  clear hc hB
  go_enter Tryz.func57, Tryz.ntmps57
  go_wp2_with (go_at_call 58; refine hcall.mono ?_; rintro e w' ⟨rfl, hd⟩)
  go_ret
  exact ⟨rfl, HB.out.trans (hd.below.mono HB.out.size)⟩
theorem f59_any (x : Take) (w : World) : Calls Tryz.prog 59 #[.agg #[.int .i64 x.box, .int .i64 x.n]] w fun e w' => e = .returned (.bool (decide (x.n < 1))) ∧ Below w.heap.size w w' := by
  have hB : ∀ o, Below w.heap.size w (w.alloc o) := fun o => below_alloc (Below.refl _ _) o
  obtain ⟨k, c⟩ := x
  go_enter Tryz.func59, Tryz.ntmps59
  go_wp2
  go_ret
  exact ⟨ret_bool (by first | rfl | (rw [Bool.eq_iff_iff]; simp)), hB _⟩
theorem pred59 (ws : List Take) (w : World) : PredT 59 #[] (fun x => decide (x.n < 1)) ws w := fun W x _ hb => (f59_any x W).mono fun e w' h => ⟨h.1, below_then hb hb.size h.2⟩
theorem pred57 (ws : List Take) (A : Option Addr) (n c b : Nat) (w : World) (hc : w.cell? ⟨b, 0, none⟩ = some (.slice A n c)) (hn : n ≤ 20) : PredT 57 #[.pointer (some ⟨b, 0, none⟩)] (fun x => !decide (0 ≤ x.box ∧ x.box ≤ (n : Int) - 1)) ws w :=
  fun W x _ hb => (f57_any x A n c b W (cell_on hb hc) hn).mono fun e w' h => ⟨h.1, below_then hb hb.size h.2⟩
def CountsOk (bs : List Box) : Prop := ∀ b ∈ bs, 0 ≤ b.count ∧ b.count ≤ 9223372036854775807
theorem counts_lower {bs : List Box} (h : CountsOk bs) {i : Nat} {b : Box} (hg : bs[i]? = some b) {m : Int} (h1 : 1 ≤ m) (h2 : m ≤ b.count) : CountsOk (bs.set i { b with count := b.count - m }) := by
  intro x hx
  have hb := h b (List.mem_of_getElem? hg)
  rcases List.mem_or_eq_of_mem_set hx with hx | rfl
  · exact h x hx
  · simp only; omega
theorem lower_setB {bs : List Box} {i : Nat} {b : Box} (hg : bs[i]? = some b) (m : Int) : Tq.lower bs i m = bs.set i { b with count := b.count - m } := by
  apply List.ext_getElem?
  intro j
  unfold Tq.lower
  rw [List.getElem?_modify, List.getElem?_set]
  by_cases hj : i = j
  · subst hj
    have hi : i < bs.length := (List.getElem?_eq_some_iff.1 hg).1
    rw [if_pos rfl, hg, if_pos hi]
    simp
  · simp [hj]
/-- Where the picking stands. -/
structure PickAt (n : Nat) (ts : List Take) (bs out : List Box) : Prop where
  len : bs.length = n
  cnt : CountsOk bs
  go : Tq.pickFrom ts bs = some out
theorem pickAt_step {n : Nat} {t : Take} {ts : List Take} {bs out : List Box} (h : PickAt n (t :: ts) bs out) (hb : 0 ≤ t.box) (i : Nat) (hi : t.box = (i : Int)) (b : Box) (hg : bs[i]? = some b) (h1 : 1 ≤ t.n) :
    t.n ≤ b.count ∧ PickAt n ts (bs.set i { b with count := b.count - t.n }) out := by
  have hgo := h.go
  unfold Tq.pickFrom at hgo
  have hbox : Tq.boxAt bs t.box.toNat = b := by
    rw [hi]
    show Tq.boxAt bs i = b
    have hil : i < bs.length := (List.getElem?_eq_some_iff.1 hg).1
    have := boxAt_get hil
    rw [hg] at this
    exact (Option.some.inj this).symm
  have hti : t.box.toNat = i := by omega
  rw [hbox] at hgo
  by_cases hl : b.count < t.n
  · rw [if_pos hl] at hgo; cases hgo
  · rw [if_neg hl, hti, lower_setB hg] at hgo
    exact ⟨by omega, by rw [List.length_set]; exact h.len, counts_lower h.cnt hg h1 (by omega), hgo⟩
end Go.Proofs.YtcliaokoganbaaaGreatDoor
set_option linter.unusedVariables false
set_option linter.unusedSimpArgs false
namespace Go.Proofs.YtcliaokoganbaaaGreatDoor
open Go Go.RowKit Go.Shelf Go.Proofs.YtcliaokoganbaaaGreatDoorW.PrintWords Go.Proofs.YtcliaokoganbaaaGreatDoorW.PrintLast Go.Proofs.YtcliaokoganbaaaGreatDoorW.PrintMore
open Tq (Lot Box Want Take Ord BookInv OrdInv)
set_option maxRecDepth 100000 in
set_option maxHeartbeats 2000000 in
/-- stock.Pick, where all can be picked -/
theorem f23_any (A AT : Option Addr) (c ct : Nat) (bs out : List Box) (ts : List Take) (w : World) (hC : kB.C w A bs.length bs) (h20 : bs.length ≤ 20) (hT : kT.C w AT ts.length ts) (hin : ∀ t ∈ ts, 0 ≤ t.box ∧ t.box < bs.length ∧ 1 ≤ t.n) (hcnt : CountsOk bs)
    (hp : Tq.pickFrom ts bs = some out) :
    Calls Tryz.prog 23 #[.slice A bs.length c, .slice AT ts.length ct] w fun e w' => ∃ v', e = .returned (.tuple #[v', .int .i64 0]) ∧ kB.R 60 w' w.heap.size (fun i => w.heap.size ≤ i) v' out ∧ Below w.heap.size w w' := by
  have hB := below_alloc (Below.refl w.heap.size w) (.cells #[.slice A bs.length c] 23)
  have hblk : (w.alloc (.cells #[.slice A bs.length c] 23)).cell? ⟨w.heap.size, 0, none⟩ = some (.slice A bs.length c) := (blk_facts (heap_alloc_new w (.cells #[.slice A bs.length c] 23))).1 0
  have hany1 : ts.any (fun x => !decide (0 ≤ x.box ∧ x.box ≤ (bs.length : Int) - 1)) = false := by
    rw [List.any_eq_false]
    intro t ht
    have := hin t ht
    simp only [Bool.not_eq_true, Bool.not_eq_false', decide_eq_true_eq]
    omega
  have hany2 : ts.any (fun x => decide (x.n < 1)) = false := by
    rw [List.any_eq_false]
    intro t ht
    have := hin t ht
    simp only [decide_eq_true_eq]
    omega
  have c1 := f56_any 57 #[.pointer (some ⟨w.heap.size, 0, none⟩)] _ AT ct ts _ (Kd.C_below hT hB) (enters_of Tryz.func57 (by kernel_rfl) rfl) (pred57 ts A bs.length c w.heap.size _ hblk h20)
  rw [hany1] at c1
  have c2 := fun W (hb : Below w.heap.size w W) => f56_any 59 #[] _ AT ct ts W (Kd.C_below hT hb) (enters_of Tryz.func59 (by kernel_rfl) rfl) (pred59 ts W)
  simp only [hany2] at c2
  have c3 := fun W (hb : Below w.heap.size w W) => f49_any A c bs W (by omega) (Kd.C_below hC hb)
  have hmaxT := hT.2.1
  have HT := Aside0.mk hT
  have HIN := Aside0.mk hin
  have HP : Aside0 (PickAt bs.length ts bs out) := ⟨⟨rfl, hcnt, hp⟩⟩
  have HBLK := Aside0.mk hblk
  have HB := Aside0.mk hB
  have C2 := Aside0.mk c2
  have C3 := Aside0.mk c3
  have hsz : (w.alloc (.cells #[.slice A bs.length c] 23)).heap.size = w.heap.size + 1 := by simp
  have HSZ := Aside0.mk hsz
  clear hC hT hin hcnt hp hany1 hany2 hblk hB c2 c3 hsz
  go_enter Tryz.func23, Tryz.ntmps23
  go_wp2_with (go_at_call 56; refine c1.mono ?_; rintro e w1 ⟨rfl, hb1⟩; refine Hid.out ?_)
  refine Lib.hid ?_
  have HB1 := Aside0.mk (HB.out.trans (hb1.mono HB.out.size))
  have HBLK1 := Aside0.mk (cell_on hb1 HBLK.out)
  have d2 := C2.out w1 HB1.out
  clear c1 hb1
  go_wp2_with (go_at_call 56; refine d2.mono ?_; rintro e w2 ⟨rfl, hb2⟩; refine Hid.out ?_)
  refine Lib.hid ?_
  have HB2 := Aside0.mk (HB1.out.trans (hb2.mono HB1.out.size))
  have hblk2 := cell_on hb2 HBLK1.out
  have d3 := C3.out w2 HB2.out
  clear d2 hb2
  go_wp2_with (go_at_call 49; refine d3.mono ?_; rintro e w3 ⟨v', rfl, hR, hb3⟩; refine Hid.out ?_)
  refine Lib.hid ?_
  obtain ⟨A6, c6, rfl⟩ := Kd.R_slice hR
  have hO3 := own_less (kB_flat hR) HB2.out.size
  have HB3 := Aside0.mk (HB2.out.trans (hb3.mono HB2.out.size))
  have HO3 := Aside0.mk hO3
  have hl3 := fun k hk => own_lt (kB_flat hR) k hk
  clear hR hb3 d3 hO3 hblk2
  go_wp2
  go_loopw [18] (fun s18 wr => ∃ (k : Nat) (bk : List Box), k ≤ ts.length ∧ s18 = .int .i64 k ∧ Aside0 (PickAt bs.length (ts.drop k) bk out) ∧ Aside0 (wr.ownsRow w.heap.size 60 3 (.slice A6 bs.length c6) bs.length (bk.flatMap bCells)) ∧ Aside0 (Below w.heap.size w wr)) (fun s18 _ => ts.length - (intOf s18).toNat)
  case atStart => exact ⟨0, bs, Nat.zero_le _, rfl, HP, HO3, HB3⟩
  case round =>
    obtain ⟨k, bk, hk, rfl, PP, RO, BW⟩ := hrel
    by_cases hlt : k < ts.length
    · have hltz : (k : Int) < (ts.length : Int) := by omega
      obtain ⟨t, hget⟩ : ∃ t, ts[k]? = some t := ⟨_, List.getElem?_eq_getElem hlt⟩
      have hdrop : ts.drop k = t :: ts.drop (k + 1) := by
        rw [List.drop_eq_getElem_cons hlt]
        rw [List.getElem?_eq_getElem hlt] at hget
        rw [Option.some.inj hget]
      have hin := HIN.out t (List.mem_of_getElem? hget)
      obtain ⟨ad, rfl, x0, x1⟩ := at_T (Kd.C_below HT.out BW.out) k t hget
      obtain ⟨bx, n⟩ := t
      simp only at hin x0 x1
      obtain ⟨i, rfl⟩ : ∃ i : Nat, bx = i := ⟨bx.toNat, by omega⟩
      have hil : i < bs.length := by omega
      have hilz : (i : Int) < (bs.length : Int) := by omega
      rw [hdrop] at PP
      have hbl := PP.out.len
      obtain ⟨b, hgb⟩ : ∃ b, bk[i]? = some b := ⟨_, List.getElem?_eq_getElem (by omega)⟩
      obtain ⟨hle, hnext⟩ := pickAt_step PP.out hin.1 i rfl b hgb hin.2.2
      simp only at hle hnext
      have hbb := PP.out.cnt b (List.mem_of_getElem? hgb)
      have hn1 := hin.2.2
      have hnlt : decide (b.count < n) = false := decide_eq_false (by omega)
      obtain ⟨gr, hA⟩ : ∃ gr, A6 = some ⟨gr, 0, none⟩ := by
        obtain ⟨gr, cap, he, _⟩ := RO.out.form (by omega)
        injection he with he _ _
        exact ⟨gr, he⟩
      subst hA
      have hgr := own_lt RO.out gr rfl
      have hgb0 := own_base RO.out gr rfl
      have RO1 := pw_own_below RO.out (below_alloc (Below.refl wr.heap.size wr) (.cells #[.int .i64 i, .int .i64 n] 66))
      have hc1 : (wr.alloc (.cells #[.int .i64 i, .int .i64 n] 66)).cell? ⟨gr, i * 3 + 1, none⟩ = some (.int .i64 b.count) := by
        rw [RO1.cellAt (i * 3 + 1) (by omega), flat_get bCells_len _ i b hgb 1 (by omega)]; rfl
      have hf1 := RO1.frozenAt (i * 3 + 1)
      have hbl0 := blk_facts (heap_alloc_new wr (.cells #[.int .i64 i, .int .i64 n] 66))
      have r0 : (wr.alloc (.cells #[.int .i64 i, .int .i64 n] 66)).cell? ⟨wr.heap.size, 0, none⟩ = some (.int .i64 i) := hbl0.1 0
      have r1 : (wr.alloc (.cells #[.int .i64 i, .int .i64 n] 66)).cell? ⟨wr.heap.size, 1, none⟩ = some (.int .i64 n) := hbl0.1 1
      have hw1 : IntKind.i64.wrap (b.count - n) = b.count - n := by rw [IntKind.wrap_i64]; omega
      have hbq : ∀ q, Below w.heap.size w ((wr.alloc (.cells #[.int .i64 i, .int .i64 n] 66)).drewN q) := fun q => have h := below_alloc BW.out (.cells #[.int .i64 i, .int .i64 n] 66); ⟨h.os, h.tape, h.output, h.size, h.block⟩
      have hst : ∀ q, (((wr.alloc (.cells #[.int .i64 i, .int .i64 n] 66)).drewN q).setCell ⟨gr, i * 3 + 1, none⟩ (.int .i64 (b.count - n))).ownsRow w.heap.size 60 3 (.slice (some ⟨gr, 0, none⟩) bs.length c6) bs.length ((bk.set i { b with count := b.count - n }).flatMap bCells) ∧
          Below w.heap.size w (((wr.alloc (.cells #[.int .i64 i, .int .i64 n] 66)).drewN q).setCell ⟨gr, i * 3 + 1, none⟩ (.int .i64 (b.count - n))) := by
        intro q
        have RQ := pw_own_below RO1 (show Below (wr.alloc (.cells #[.int .i64 i, .int .i64 n] 66)).heap.size (wr.alloc (.cells #[.int .i64 i, .int .i64 n] 66)) ((wr.alloc (.cells #[.int .i64 i, .int .i64 n] 66)).drewN q) from have h := Below.refl (wr.alloc (.cells #[.int .i64 i, .int .i64 n] 66)).heap.size (wr.alloc (.cells #[.int .i64 i, .int .i64 n] 66)); ⟨h.os, h.tape, h.output, h.size, h.block⟩)
        have hs := RQ.stored (i * 3 + 1) (.int .i64 (b.count - n))
        rw [flat_set bCells_len _ i b { b with count := b.count - n } hgb 1 _ (by omega) rfl] at hs
        exact ⟨hs.1, (hbq q).grown hs.2 (hbq q).size (fun k e => by cases e; exact hgb0)⟩
      have HST := Aside0.mk hst
      have HN := Aside0.mk hnext
      clear RO1 hbl0 hst hbq hnext hdrop hget hgb hbb hn1 hin PP RO BW
      go_wp2_with fail
      go_quiet (fail)
      go_wp2_with fail
      go_region
      go_wp2_with fail
      go_roundw
      case rel => exact ⟨k + 1, _, by omega, by go_num, HN, ⟨(HST.out _).1⟩, ⟨(HST.out _).2⟩⟩
      case measure => simp [intOf]; omega
    · have hltz : ¬ (k : Int) < (ts.length : Int) := by omega
      go_wp2
      go_ret2
      have hnil : ts.drop k = [] := List.drop_eq_nil_of_le (by omega)
      rw [hnil] at PP
      have hgo := PP.out.go
      unfold Tq.pickFrom at hgo
      obtain rfl := Option.some.inj hgo
      exact ⟨_, rfl, flat_kB (by rw [PP.out.len]; exact RO.out), BW.out⟩
end Go.Proofs.YtcliaokoganbaaaGreatDoor
set_option linter.unusedVariables false
set_option linter.unusedSimpArgs false
namespace Go.Proofs.YtcliaokoganbaaaGreatDoor
open Go Go.RowKit Go.Shelf Go.Proofs.YtcliaokoganbaaaGreatDoorW.PrintWords Go.Proofs.YtcliaokoganbaaaGreatDoorW.PrintLast Go.Proofs.YtcliaokoganbaaaGreatDoorW.PrintMore
open Tq (Lot Box Want Take Ord BookInv OrdInv)
theorem sameB_l0 (l : List P.S60) (hl : l.length ≤ 1000000) : ∀ (d i k : Nat), i + d = l.length → d < k → P.taquinref35_SameBoxes.l0 k l l (i : Int) = some true
  | 0, i, k, hd, hk => by
    obtain ⟨k, rfl⟩ : ∃ m, k = m + 1 := ⟨k - 1, by omega⟩
    simp only [P.taquinref35_SameBoxes.l0]
    rw [if_neg (by omega)]
  | d + 1, i, k, hd, hk => by
    obtain ⟨k, rfl⟩ : ∃ m, k = m + 1 := ⟨k - 1, by omega⟩
    simp only [P.taquinref35_SameBoxes.l0]
    rw [if_pos (by omega), if_pos (by omega), if_pos (by omega), if_neg (by simp)]
    have hw : wrap64 ((i : Int) + 1) = ((i + 1 : Nat) : Int) := by unfold wrap64; omega
    rw [hw, sameB_l0 l hl d (i + 1) k (by omega) (by omega)]
/-- SameBoxes, of boxes that are the same -/
theorem f22_same (A A' : Option Addr) (c c' n n' : Nat) (bs : List Box) (w : World) (hl : bs.length ≤ 1000000) (hn : n = bs.length) (hn' : n' = bs.length) (hC : kB.C w A bs.length bs) (hc : bs.length ≤ c) (hC' : kB.C w A' bs.length bs) (hc' : bs.length ≤ c') :
    Calls Tryz.prog 22 #[.slice A n c, .slice A' n' c'] w fun e w' => e = .returned (.bool true) ∧ Below w.heap.size w w' := by
  subst hn
  subst hn'
  have h := sameB_l0 (bs.map b2s) (by rw [List.length_map]; exact hl) bs.length 0 (bs.length + 1) (by rw [List.length_map]; omega) (by omega)
  have h2 : P.taquinref35_SameBoxes.f (bs.length + 1) (bs.map b2s) (bs.map b2s) = some true := by
    unfold P.taquinref35_SameBoxes.f
    rw [if_pos rfl]
    simpa using h
  have h3 := P.taquinref35_SameBoxes.calls (bs.length + 1) A c (bs.map b2s) A' c' (bs.map b2s) true w (by rw [List.length_map]; exact kB_C hC) (by rw [List.length_map]; exact hc) (by rw [List.length_map]; exact kB_C hC') (by rw [List.length_map]; exact hc') h2
  rw [List.length_map] at h3
  exact h3.mono (fun e w' h => ⟨h.1, h.2.below⟩)
theorem sameT_l0 (l : List P.S66) (hl : l.length ≤ 1000000) : ∀ (d i k : Nat), i + d = l.length → d < k → P.taquinref35_SameTakes.l0 k l l (i : Int) = some true
  | 0, i, k, hd, hk => by
    obtain ⟨k, rfl⟩ : ∃ m, k = m + 1 := ⟨k - 1, by omega⟩
    simp only [P.taquinref35_SameTakes.l0]
    rw [if_neg (by omega)]
  | d + 1, i, k, hd, hk => by
    obtain ⟨k, rfl⟩ : ∃ m, k = m + 1 := ⟨k - 1, by omega⟩
    simp only [P.taquinref35_SameTakes.l0]
    rw [if_pos (by omega), if_pos (by omega), if_pos (by omega), if_neg (by simp)]
    have hw : wrap64 ((i : Int) + 1) = ((i + 1 : Nat) : Int) := by unfold wrap64; omega
    rw [hw, sameT_l0 l hl d (i + 1) k (by omega) (by omega)]
theorem sameT_f (l : List P.S66) (hl : l.length ≤ 1000000) (k : Nat) (hk : l.length < k) : P.taquinref35_SameTakes.f k l l = some true := by
  unfold P.taquinref35_SameTakes.f
  rw [if_pos rfl]
  exact sameT_l0 l hl l.length 0 k (by omega) hk
theorem sameP_l0 (l : List (List P.S66)) (hl : l.length ≤ 1000000) (hm : ∀ x ∈ l, x.length ≤ 1000000) : ∀ (d i k : Nat), i + d = l.length → d + 1000000 < k → P.taquinref35_SamePlans.l0 k l l (i : Int) = some true
  | 0, i, k, hd, hk => by
    obtain ⟨k, rfl⟩ : ∃ m, k = m + 1 := ⟨k - 1, by omega⟩
    simp only [P.taquinref35_SamePlans.l0]
    rw [if_neg (by omega)]
  | d + 1, i, k, hd, hk => by
    obtain ⟨k, rfl⟩ : ∃ m, k = m + 1 := ⟨k - 1, by omega⟩
    simp only [P.taquinref35_SamePlans.l0]
    rw [if_pos (by omega), if_pos (by omega), if_pos (by omega)]
    have hx : (P.rd_L5 l (i : Int)).length ≤ 1000000 := by
      have : P.rd_L5 l (i : Int) = l[i]'(by omega) := by
        unfold P.rd_L5
        simp [List.getD, List.getElem?_eq_getElem (show i < l.length by omega)]
      rw [this]
      exact hm _ (List.getElem_mem _)
    rw [sameT_f _ hx k (by omega), Option.bind_some, if_pos rfl]
    have hw : wrap64 ((i : Int) + 1) = ((i + 1 : Nat) : Int) := by unfold wrap64; omega
    rw [hw, sameP_l0 l hl hm d (i + 1) k (by omega) (by omega)]
theorem kTs_C {w : World} {A : Option Addr} {n : Nat} {xs : List (List Take)} (h : kTs.C w A n xs) : (Kd.slice 66 P.k66).C w A n (xs.map fun l => l.map t2s) :=
  C_map (d' := kTs) (d := Kd.slice 66 P.k66) (f := fun (l : List Take) => l.map t2s) rfl (fun x cs h => by
    obtain ⟨A, c, rfl, hl, hC⟩ := h
    exact ⟨A, c, by simp, by simpa using hl, by rw [List.length_map]; exact kT_C hC⟩) h
/-- SamePlans, of plans that are the same -/
theorem f24_same (A A' : Option Addr) (c c' n n' : Nat) (ts : List (List Take)) (w : World) (hl : ts.length ≤ 1000000) (hm : ∀ x ∈ ts, x.length ≤ 1000000) (hn : n = ts.length) (hn' : n' = ts.length) (hC : kTs.C w A ts.length ts) (hc : ts.length ≤ c) (hC' : kTs.C w A' ts.length ts) (hc' : ts.length ≤ c') :
    Calls Tryz.prog 24 #[.slice A n c, .slice A' n' c'] w fun e w' => e = .returned (.bool true) ∧ Below w.heap.size w w' := by
  subst hn
  subst hn'
  have h := sameP_l0 (ts.map fun l => l.map t2s) (by rw [List.length_map]; exact hl) (fun x hx => by obtain ⟨y, hy, rfl⟩ := List.mem_map.1 hx; rw [List.length_map]; exact hm y hy) ts.length 0 (ts.length + 1000001) (by rw [List.length_map]; omega) (by omega)
  have h2 : P.taquinref35_SamePlans.f (ts.length + 1000001) (ts.map fun l => l.map t2s) (ts.map fun l => l.map t2s) = some true := by
    unfold P.taquinref35_SamePlans.f
    rw [if_pos rfl]
    exact h
  have h3 := P.taquinref35_SamePlans.calls (ts.length + 1000001) A c (ts.map fun l => l.map t2s) A' c' (ts.map fun l => l.map t2s) true w (by rw [List.length_map]; exact kTs_C hC) (by rw [List.length_map]; exact hc) (by rw [List.length_map]; exact kTs_C hC') (by rw [List.length_map]; exact hc') h2
  rw [List.length_map] at h3
  exact h3.mono (fun e w' h => ⟨h.1, h.2.below⟩)
end Go.Proofs.YtcliaokoganbaaaGreatDoor
set_option linter.unusedVariables false
set_option linter.unusedSimpArgs false
namespace Go.Proofs.YtcliaokoganbaaaGreatDoor
open Go Go.RowKit
open Tq (Lot Box Want Take Ord BookInv OrdInv)
theorem ask_good (os : List Ord) (h : BookInv os) (hk : Tq.KindsOk os) (hl : os.length < 1000) (ws : List Want) (hw : Tq.WantsOk ws) (due : Int) (hr : Tq.rightWants ws due = true) :
    Tq.ask os ws due = ((os.length : Int), 0, os ++ [⟨ws, due, 0, []⟩]) ∧ BookInv (os ++ [⟨ws, due, 0, []⟩]) ∧ Tq.KindsOk (os ++ [⟨ws, due, 0, []⟩]) := by
  have ha : Tq.ask os ws due = ((os.length : Int), 0, os ++ [⟨ws, due, 0, []⟩]) := by
    unfold Tq.ask
    rw [hr, if_neg (by simp), if_neg (by omega)]
  obtain ⟨os', n, e, hst, hi, hkk, _⟩ := Tq.step_good [] [] ⟨by simp, fun b hb => by cases hb⟩ ⟨0, 0, 0, 0, due, ws⟩ hw os h hk
  unfold Tq.stateAfter at hst
  rw [if_pos rfl] at hst
  simp only [ha, Prod.mk.injEq, Option.some.injEq] at hst
  obtain ⟨rfl, _⟩ := hst
  exact ⟨ha, hi, hkk⟩
theorem promise_good (lots : List Lot) (sure : List Box) (hs : Tq.GoodBoxes sure) (os : List Ord) (h : BookInv os) (hk : Tq.KindsOk os) (no : Int) : BookInv (Tq.promise os no lots sure).2 ∧ Tq.KindsOk (Tq.promise os no lots sure).2 := by
  obtain ⟨os', n, e, hst, hi, hkk, _⟩ := Tq.step_good lots sure hs ⟨1, no, 0, 0, 0, []⟩ (fun w hw => by cases hw) os h hk
  unfold Tq.stateAfter at hst
  rw [if_neg (by simp), if_pos rfl] at hst
  simp only [Prod.mk.injEq, Option.some.injEq] at hst
  obtain ⟨rfl, _⟩ := hst
  exact ⟨hi, hkk⟩
theorem withdraw_good (os : List Ord) (h : BookInv os) (hk : Tq.KindsOk os) (no : Int) : BookInv (Tq.withdraw os no).2 ∧ Tq.KindsOk (Tq.withdraw os no).2 := by
  obtain ⟨os', n, e, hst, hi, hkk, _⟩ := Tq.step_good [] [] ⟨by simp, fun b hb => by cases hb⟩ ⟨3, no, 0, 0, 0, []⟩ (fun w hw => by cases hw) os h hk
  unfold Tq.stateAfter at hst
  rw [if_neg (by simp), if_neg (by simp), if_neg (by simp), if_pos rfl] at hst
  simp only [Prod.mk.injEq, Option.some.injEq] at hst
  obtain ⟨rfl, _⟩ := hst
  exact ⟨hi, hkk⟩
/-- What OrdersSpare sees when the order can be promised. -/
structure SpareYes (lots : List Lot) (sure : List Box) (bk : List Ord) (no : Nat) (pl : List (List Take)) (bf : List Box) (b1 b4 : List Ord) (af : List Box) : Prop where
  prom : Tq.promise bk no lots sure = (0, b1)
  inv1 : BookInv b1
  inv4 : BookInv b4
  at1 : ∃ x, Tq.stateAt b1 no = some x ∧ x.takes = pl ∧ OrdInv x
  at4 : ∃ x, Tq.stateAt b4 no = some x ∧ x.takes = [] ∧ OrdInv x
  kinds1 : Tq.KindsOk b1
  kinds4 : Tq.KindsOk b4
  pin : ∀ t ∈ pl.flatten, 0 ≤ t.box ∧ t.box < bf.length ∧ 1 ≤ t.n
  pick : Tq.pickFrom pl.flatten bf = some af
  sp1 : Tq.spare b1 sure = af
  wd : Tq.withdraw b1 no = (0, b4)
  sp4 : Tq.spare b4 sure = bf
  wd2 : Tq.withdraw b4 no = (7, b4)
theorem pick_inv {bf : List Box} {ts : List Take} {af : List Box} (h : Tq.pick bf ts = (af, 0)) : (∀ t ∈ ts, 0 ≤ t.box ∧ t.box < bf.length ∧ 1 ≤ t.n) ∧ Tq.pickFrom ts bf = some af := by
  unfold Tq.pick at h
  by_cases h1 : ts.any (fun t => decide (t.box < 0) || decide ((bf.length : Int) ≤ t.box)) = true
  · rw [if_pos h1] at h; simp at h
  · rw [if_neg h1] at h
    by_cases h2 : ts.any (fun t => decide (t.n < 1)) = true
    · rw [if_pos h2] at h; simp at h
    · rw [if_neg h2] at h
      rw [Bool.not_eq_true, List.any_eq_false] at h1 h2
      cases hp : Tq.pickFrom ts bf with
      | none => rw [hp] at h; simp at h
      | some out =>
        rw [hp] at h
        simp only [Prod.mk.injEq, and_true] at h
        subst h
        refine ⟨fun t ht => ?_, rfl⟩
        have a := h1 t ht
        have b := h2 t ht
        simp only [Bool.or_eq_true, decide_eq_true_eq] at a b
        omega
theorem spare_walk (lots : List Lot) (sure : List Box) (hs : Tq.GoodBoxes sure) (os : List Ord) (h : BookInv os) (hk : Tq.KindsOk os) (hl : os.length < 1000) (ws : List Want) (hw : Tq.WantsOk ws) (due : Int) (hr : Tq.rightWants ws due = true) (bk : List Ord) (hbk : bk = os ++ [⟨ws, due, 0, []⟩])
    (pl : List (List Take)) (f : Int) (bf : List Box) (hbf : bf = Tq.spare bk sure) (hpl : Tq.plan lots bf ws = (pl, f)) :
    (f ≠ 0 ∧ Tq.promise bk os.length lots sure = (f, bk)) ∨ (f = 0 ∧ ∃ b1 b4 af, SpareYes lots sure bk os.length pl bf b1 b4 af) := by
  subst hbk
  subst hbf
  obtain ⟨_, hi, hkk⟩ := ask_good os h hk hl ws hw due hr
  have law := Tq.spare_law lots sure hs os h ws due hr
  simp only [hpl] at law
  obtain ⟨l1, l2, l3⟩ := law
  by_cases hf : f = 0
  · right
    subst hf
    obtain ⟨a1, a2, a3, a4, a5⟩ := l3 rfl
    have hp1 := promise_good lots sure hs _ hi hkk (os.length : Int)
    rw [a1] at hp1
    have hw1 := withdraw_good _ hp1.1 hp1.2 (os.length : Int)
    rw [a3] at hw1
    have hpk := pick_inv a2
    exact ⟨rfl, _, _, _, ⟨Prod.ext l1 a1, hp1.1, hw1.1, ⟨_, Tq.stateAt_last _ _, rfl, hp1.1.all _ (by simp)⟩, ⟨_, Tq.stateAt_last _ _, rfl, hw1.1.all _ (by simp)⟩, hp1.2, hw1.2, hpk.1, hpk.2, rfl, a3, a4, a5⟩⟩
  · left
    exact ⟨hf, Prod.ext l1 (l2 hf)⟩
theorem ask_bad (os : List Ord) (ws : List Want) (due : Int) (hr : Tq.rightWants ws due = false) : Tq.ask os ws due = (0, 1, os) := by
  unfold Tq.ask
  rw [hr, if_pos (by simp)]
end Go.Proofs.YtcliaokoganbaaaGreatDoor
