/-
  Part 20 of the proof of the card: lemmas and walks, joined by mergeclaim.py out of the texts IB, IC, ID, IE, IF.
-/
import Derived.Test.YtcliaokoganbaaaGreatDoorM19
set_option linter.unusedVariables false
set_option linter.unusedSimpArgs false
namespace Go.Proofs.YtcliaokoganbaaaGreatDoor
open Go Go.RowKit Go.Shelf Go.Proofs.YtcliaokoganbaaaGreatDoorW.PrintWords Go.Proofs.YtcliaokoganbaaaGreatDoorW.PrintLast Go.Proofs.YtcliaokoganbaaaGreatDoorW.PrintMore
open Tq (Lot Box Want Take Ord Op BookInv OrdInv)
/-! ### stock.Right, at the three kinds; taquinlaw42.given -/
def LotOk (l : Lot) : Prop := 0 ≤ l.kind ∧ l.kind ≤ 2 ∧ 0 ≤ l.expiry ∧ l.expiry ≤ 20000
def BoxFit (n : Int) (b : Box) : Prop := (0 ≤ b.tare ∧ b.tare ≤ 1000000) ∧ (-1 ≤ b.lot ∧ b.lot ≤ n - 1) ∧ (0 ≤ b.count ∧ b.count ≤ 20000) ∧ (0 ≤ b.lot ∨ b.count = 0)
instance (l : Lot) : Decidable (LotOk l) := by unfold LotOk; exact inferInstance
instance (n : Int) (b : Box) : Decidable (BoxFit n b) := by unfold BoxFit; exact inferInstance
def sumCount (l : List Box) : Int := l.foldr (fun b n => b.count + n) 0
structure GivenOk (lots : List Lot) (sure : List Box) : Prop where
  lots20 : lots.length ≤ 20
  sure20 : sure.length ≤ 20
  lot : ∀ l ∈ lots, LotOk l
  box : ∀ b ∈ sure, BoxFit lots.length b
  units : sumCount sure ≤ 20000
theorem between_f (a b c : Int) : P.stock_between.f a b c = some (decide (b ≤ a ∧ a ≤ c)) := by
  unfold P.stock_between.f
  by_cases h : a ≥ b
  · rw [if_pos h]; congr 1; rw [Bool.eq_iff_iff]; simp; omega
  · rw [if_neg h]; congr 1; rw [Bool.eq_iff_iff]; simp; omega
theorem rightBox_f (b : Box) (n : Nat) (hn : n ≤ 20) : P.stock_rightBox.f b.lot b.count b.tare n = some (decide (BoxFit n b)) := by
  have hw : wrap64 ((n : Int) - 1) = (n : Int) - 1 := by unfold wrap64; omega
  unfold P.stock_rightBox.f
  simp only [between_f, Option.bind_some, decide_eq_true_eq, hw]
  by_cases hB : BoxFit n b
  · have hd : decide (BoxFit n b) = true := decide_eq_true hB
    rw [hd]
    obtain ⟨h1, h2, h3, h4⟩ := hB
    rw [if_pos h1, if_pos h2, if_pos h3]
    by_cases h5 : b.lot ≥ 0
    · rw [if_pos h5]
    · rw [if_neg h5]
      have : b.count = 0 := h4.elim (fun h => absurd h h5) id
      simp [this]
  · have hd : decide (BoxFit n b) = false := decide_eq_false hB
    rw [hd]
    by_cases h1 : 0 ≤ b.tare ∧ b.tare ≤ 1000000
    · rw [if_pos h1]
      by_cases h2 : -1 ≤ b.lot ∧ b.lot ≤ (n : Int) - 1
      · rw [if_pos h2]
        by_cases h3 : 0 ≤ b.count ∧ b.count ≤ 20000
        · rw [if_pos h3]
          have h4 : ¬ (0 ≤ b.lot ∨ b.count = 0) := fun h4 => hB ⟨h1, h2, h3, h4⟩
          rw [if_neg (fun h => h4 (.inl h))]
          have : ¬ b.count = 0 := fun h => h4 (.inr h)
          simp [this]
        · rw [if_neg h3]
      · rw [if_neg h2]
    · rw [if_neg h1]
theorem sumCount_append (a b : List Box) : sumCount (a ++ b) = sumCount a + sumCount b := by
  induction a with
  | nil => simp [sumCount]
  | cons x a ih => simp only [sumCount, List.cons_append, List.foldr_cons] at *; omega
theorem sumCount_bounds {n : Int} : ∀ l : List Box, (∀ b ∈ l, BoxFit n b) → 0 ≤ sumCount l ∧ sumCount l ≤ l.length * 20000
  | [], _ => by simp [sumCount]
  | b :: l, h => by
    have h1 := h b (by simp)
    have h2 := sumCount_bounds l (fun x hx => h x (by simp [hx]))
    unfold BoxFit at h1
    simp only [sumCount, List.foldr_cons, List.length_cons] at *
    omega
theorem units_l0 (l : List Box) {n : Int} (hl : l.length ≤ 20) (hb : ∀ b ∈ l, BoxFit n b) : ∀ (d i k : Nat), i + d = l.length → d < k →
    P.stock_Units.l0 k (sumCount (l.take i)) (l.map b2s) (l.length : Int) (i : Int) = some (sumCount l)
  | 0, i, k, hd, hk => by
    obtain ⟨k, rfl⟩ : ∃ m, k = m + 1 := ⟨k - 1, by omega⟩
    simp only [P.stock_Units.l0]
    rw [if_neg (by omega), List.take_of_length_le (by omega)]
  | d + 1, i, k, hd, hk => by
    obtain ⟨k, rfl⟩ : ∃ m, k = m + 1 := ⟨k - 1, by omega⟩
    have hil : i < l.length := by omega
    have hbi := hb _ (List.getElem_mem hil)
    unfold BoxFit at hbi
    have hs := sumCount_bounds (n := n) (l.take i) (fun b hbm => hb b (List.mem_of_mem_take hbm))
    have hlt : (l.take i).length ≤ 20 := by simp; omega
    simp only [P.stock_Units.l0]
    rw [if_pos (by omega), if_pos (by omega), if_pos (by simp; omega)]
    have hrd : (P.rd_T60 (l.map b2s) (i : Int)).f1 = l[i].count := by
      unfold P.rd_T60
      simp [hil, b2s]
    rw [hrd]
    have hw1 : wrap64 (sumCount (l.take i) + l[i].count) = sumCount (l.take (i + 1)) := by
      rw [List.take_succ_eq_append_getElem hil, sumCount_append]
      have : sumCount [l[i]] = l[i].count := by simp [sumCount]
      rw [this]
      unfold wrap64; omega
    have hw2 : wrap64 ((i : Int) + 1) = ((i + 1 : Nat) : Int) := by unfold wrap64; omega
    rw [hw1, hw2]
    exact units_l0 l hl hb d (i + 1) k (by omega) (by omega)
theorem f95_any (A : Option Addr) (c : Nat) (l : List Box) {n : Int} (w : World) (hC : kB.C w A l.length l) (hc : l.length ≤ c) (hl : l.length ≤ 20) (hb : ∀ b ∈ l, BoxFit n b) :
    Calls Tryz.prog 95 #[.slice A l.length c] w fun e w' => e = .returned (.int .i64 (sumCount l)) ∧ Below w.heap.size w w' := by
  have h := units_l0 l hl hb l.length 0 (l.length + 1) (by omega) (by omega)
  have h2 : P.stock_Units.f (l.length + 1) (l.map b2s) = some (sumCount l) := by
    unfold P.stock_Units.f
    rw [List.length_map]
    simpa [sumCount] using h
  have := P.stock_Units.calls (l.length + 1) A c (l.map b2s) (sumCount l) w (by rw [List.length_map]; exact kB_C hC) (by rw [List.length_map]; exact hc) h2
  rwa [List.length_map] at this
theorem f94_any (b : Box) (n : Nat) (hn : n ≤ 20) (w : World) :
    Calls Tryz.prog 94 #[.agg #[.int .i64 b.lot, .int .i64 b.count, .int .i64 b.tare], .int .i64 n] w fun e w' => e = .returned (.bool (decide (BoxFit n b))) ∧ Below w.heap.size w w' :=
  P.stock_rightBox.calls _ _ _ _ _ w (rightBox_f b n hn)
/-- How Right (and given) ends. -/
def RightPost (lots : List Lot) (sure : List Box) (w : World) (e : Ending) (w' : World) : Prop := ∃ b, e = .returned (.bool b) ∧ (b = true → GivenOk lots sure) ∧ Below w.heap.size w w'
theorem RightPost.no {lots : List Lot} {sure : List Box} {w w' : World} (hb : Below w.heap.size w w') : RightPost lots sure w (.returned (.bool false)) w' := ⟨false, rfl, fun h => (by cases h), hb⟩
theorem RightPost.mk {lots : List Lot} {sure : List Box} {w w' : World} (b : Bool) (h : b = true → GivenOk lots sure) (hb : Below w.heap.size w w') : RightPost lots sure w (.returned (.bool b)) w' := ⟨b, rfl, h, hb⟩
set_option maxRecDepth 100000 in
set_option maxHeartbeats 4000000 in
theorem f43_any (gk : Nat) (AL AS : Option Addr) (cl cs : Nat) (lots : List Lot) (sure : List Box) (w : World) (hb : w.heap[gk]? = some (.cells #[.string ⟨#[97]⟩, .int .i64 1, .string ⟨#[98]⟩, .int .i64 1, .string ⟨#[99]⟩, .int .i64 1] 87 (0, 0)))
    (hL : kL.C w AL lots.length lots) (hS : kB.C w AS sure.length sure) (hcs : sure.length ≤ cs) (hl20 : lots.length ≤ 20) (hs20 : sure.length ≤ 20) :
    Calls Tryz.prog 43 #[.slice (some ⟨gk, 0, none⟩) 3 3, .slice AL lots.length cl, .slice AS sure.length cs] w fun e w' => RightPost lots sure w e w' := by
  have h93 := f93_three gk w hb
  have HL := Aside0.mk hL
  have HS := Aside0.mk hS
  clear hb hL hS
  go_enter Tryz.func43, Tryz.ntmps43
  go_wp2_with (go_at_call 93; refine h93.mono ?_; rintro e w1 ⟨rfl, hb1⟩; refine Hid.out ?_)
  refine Lib.hid ?_
  have HB1 := Aside0.mk hb1
  clear hb1 h93
  go_wp2
  go_loopw [26] (fun s26 wr => ∃ k : Nat, k ≤ lots.length ∧ s26 = .int .i64 k ∧ Aside0 (Below w.heap.size w wr) ∧ Aside0 (∀ j x, j < k → lots[j]? = some x → LotOk x)) (fun s26 _ => lots.length - (intOf s26).toNat)
  case atStart => exact ⟨0, Nat.zero_le _, rfl, HB1, ⟨fun j x hj => absurd hj (Nat.not_lt_zero _)⟩⟩
  case round =>
    obtain ⟨k, hk, rfl, BW, A1⟩ := hrel
    by_cases hlt : k < lots.length
    · have hltz : (k : Int) < (lots.length : Int) := by omega
      have hget : lots[k]? = some lots[k] := List.getElem?_eq_getElem hlt
      generalize lots[k] = x at hget
      obtain ⟨ad, rfl, p0, p1, p2⟩ := at_L HL.out k x hget
      have c0 := cell_on BW.out p0
      have c1 := cell_on BW.out p1
      have c2 := cell_on BW.out p2
      have hBW2 := Aside0.mk (below_alloc BW.out (.cells #[.int .i64 x.kind, .int .i64 x.expiry, .bool x.frozen] 84))
      have HG := Aside0.mk hget
      clear hget p0 p1 p2
      by_cases hok : LotOk x
      · have hA : Aside0 (∀ j y, j < k + 1 → lots[j]? = some y → LotOk y) := ⟨fun j y hj hy => by
          by_cases e : j = k
          · subst e; rw [HG.out] at hy; injection hy with hy; subst hy; exact hok
          · exact A1.out j y (by omega) hy⟩
        obtain ⟨h1, h2, h3, h4⟩ := hok
        go_wp2
        go_roundw
        case rel => exact ⟨k + 1, by omega, by go_num, hBW2, hA⟩
        case measure => simp [intOf]; omega
      · have hcase : x.kind < 0 ∨ (0 ≤ x.kind ∧ 2 < x.kind) ∨ (0 ≤ x.kind ∧ x.kind ≤ 2 ∧ x.expiry < 0) ∨ (0 ≤ x.kind ∧ x.kind ≤ 2 ∧ 0 ≤ x.expiry ∧ 20000 < x.expiry) := by unfold LotOk at hok; omega
        clear hok
        rcases hcase with h1 | ⟨h1, h2⟩ | ⟨h1, h2, h3⟩ | ⟨h1, h2, h3, h4⟩
        all_goals (
          try (have hd : decide (x.expiry ≤ 20000) = false := (by simp; omega))
          go_wp2
          try (any_goals (exfalso; omega))
          go_ret
          exact RightPost.no hBW2.out)
    · have hltz : ¬ (k : Int) < (lots.length : Int) := by omega
      have hA : Aside0 (∀ x ∈ lots, LotOk x) := ⟨fun x hx => by
        obtain ⟨j, hj, rfl⟩ := List.getElem_of_mem hx
        exact A1.out j _ (by omega) (List.getElem?_eq_getElem hj)⟩
      have BW0 := BW
      clear A1 BW
      go_wp2
      go_loopw [46] (fun s46 wr => ∃ i : Nat, i ≤ sure.length ∧ s46 = .int .i64 i ∧ Aside0 (Below w.heap.size w wr) ∧ Aside0 (∀ j x, j < i → sure[j]? = some x → BoxFit lots.length x)) (fun s46 _ => sure.length - (intOf s46).toNat)
      case atStart => exact ⟨0, Nat.zero_le _, rfl, BW0, ⟨fun j x hj => absurd hj (Nat.not_lt_zero _)⟩⟩
      case round =>
        obtain ⟨i, hi, rfl, BW, A1⟩ := hrel
        by_cases hlti : i < sure.length
        · have hltiz : (i : Int) < (sure.length : Int) := by omega
          have hget : sure[i]? = some sure[i] := List.getElem?_eq_getElem hlti
          generalize sure[i] = x at hget
          obtain ⟨ad, rfl, p0, p1, p2⟩ := at_B HS.out i x hget
          have c0 := cell_on BW.out p0
          have c1 := cell_on BW.out p1
          have c2 := cell_on BW.out p2
          have hBW2 := below_alloc BW.out (.cells #[.int .i64 x.lot, .int .i64 x.count, .int .i64 x.tare] 60)
          have HG := Aside0.mk hget
          have h94 := f94_any x lots.length hl20 (wr.alloc (.cells #[.int .i64 x.lot, .int .i64 x.count, .int .i64 x.tare] 60))
          have HBW2 := Aside0.mk hBW2
          clear hget p0 p1 p2 hBW2
          cases hok : decide (BoxFit lots.length x) with
          | true =>
            rw [hok] at h94
            have hA2 : Aside0 (∀ j y, j < i + 1 → sure[j]? = some y → BoxFit lots.length y) := ⟨fun j y hj hy => by
              by_cases e : j = i
              · subst e; rw [HG.out] at hy; injection hy with hy; subst hy; exact of_decide_eq_true hok
              · exact A1.out j y (by omega) hy⟩
            clear hok
            go_wp2_with (go_at_call 94; refine h94.mono ?_; rintro e w4 ⟨rfl, hb4⟩)
            go_roundw
            case rel => exact ⟨i + 1, by omega, by go_num, ⟨HBW2.out.trans (hb4.mono (by have := BW.out.size; simp; omega))⟩, hA2⟩
            case measure => simp [intOf]; omega
          | false =>
            rw [hok] at h94
            clear hok
            go_wp2_with (go_at_call 94; refine h94.mono ?_; rintro e w4 ⟨rfl, hb4⟩)
            go_ret
            exact RightPost.no (HBW2.out.trans (hb4.mono (by have := BW.out.size; simp; omega)))
        · have hltiz : ¬ (i : Int) < (sure.length : Int) := by omega
          have hA2 : ∀ x ∈ sure, BoxFit lots.length x := fun x hx => by
            obtain ⟨j, hj, rfl⟩ := List.getElem_of_mem hx
            exact A1.out j _ (by omega) (List.getElem?_eq_getElem hj)
          have h95 := f95_any AS cs sure wr (Kd.C_below HS.out BW.out) hcs hs20 hA2
          have HA2 := Aside0.mk hA2
          clear hA2 A1
          go_wp2_with (go_at_call 95; refine h95.mono ?_; rintro e w4 ⟨rfl, hb4⟩)
          go_ret
          exact RightPost.mk _ (fun h => ⟨hl20, hs20, hA.out, HA2.out, of_decide_eq_true h⟩) (BW.out.trans (hb4.mono BW.out.size))
theorem Cget_kinds (gk : Nat) (w : World) (hb : w.heap[gk]? = some (.cells #[.string ⟨#[97]⟩, .int .i64 1, .string ⟨#[98]⟩, .int .i64 1, .string ⟨#[99]⟩, .int .i64 1] 87 (0, 0))) :
    Kd.C P.k87 w (some ⟨gk, 0, none⟩) 3 [⟨⟨#[97]⟩, 1⟩, ⟨⟨#[98]⟩, 1⟩, ⟨⟨#[99]⟩, 1⟩] := by
  obtain ⟨hc, _⟩ := blk_facts hb
  refine ⟨rfl, by omega, fun _ => ⟨_, rfl, fun j p hp => ?_⟩⟩
  match j, hp with
  | 0, hp =>
    simp at hp; subst hp
    refine ⟨[.string ⟨#[97]⟩, .int .i64 1], rfl, ⟨[_], [_], rfl, rfl, rfl⟩, fun i u hu => ?_⟩
    match i, hu with
    | 0, hu => simp at hu; subst hu; exact hc 0
    | 1, hu => simp at hu; subst hu; exact hc 1
    | i + 2, hu => simp at hu
  | 1, hp =>
    simp at hp; subst hp
    refine ⟨[.string ⟨#[98]⟩, .int .i64 1], rfl, ⟨[_], [_], rfl, rfl, rfl⟩, fun i u hu => ?_⟩
    match i, hu with
    | 0, hu => simp at hu; subst hu; exact hc 2
    | 1, hu => simp at hu; subst hu; exact hc 3
    | i + 2, hu => simp at hu
  | 2, hp =>
    simp at hp; subst hp
    refine ⟨[.string ⟨#[99]⟩, .int .i64 1], rfl, ⟨[_], [_], rfl, rfl, rfl⟩, fun i u hu => ?_⟩
    match i, hu with
    | 0, hu => simp at hu; subst hu; exact hc 4
    | 1, hu => simp at hu; subst hu; exact hc 5
    | i + 2, hu => simp at hu
  | j + 3, hp => simp at hp
def theKinds : List P.S87 := [⟨⟨#[97]⟩, 1⟩, ⟨⟨#[98]⟩, 1⟩, ⟨⟨#[99]⟩, 1⟩]
theorem few35_step (lots : List P.S84) (boxes : List P.S60) (k i : Nat) (hi : i < 3) : P.taquinref35_Few.l0 (k + 1 + 1) theKinds lots boxes 20 (i : Int) = P.taquinref35_Few.l0 k theKinds lots boxes 20 ((i + 1 : Nat) : Int) := by
  have hl : (theKinds.length : Int) = 3 := rfl
  have hr : ((P.rd_T87 theKinds (i : Int)).f0.size : Int) = 1 := by
    match i, hi with
    | 0, _ => rfl
    | 1, _ => rfl
    | 2, _ => rfl
  have hw : wrap64 ((i : Int) + 1) = ((i + 1 : Nat) : Int) := by unfold wrap64; omega
  rw [P.taquinref35_Few.l0, hl, if_pos (by omega), P.taquinref35_Few.j1, if_pos (by simp; omega), if_pos (by omega), hl, if_pos (by omega), hr, if_neg (by omega), hw]
theorem few35_f (lots : List P.S84) (boxes : List P.S60) : P.taquinref35_Few.f 8 [⟨⟨#[97]⟩, 1⟩, ⟨⟨#[98]⟩, 1⟩, ⟨⟨#[99]⟩, 1⟩] lots boxes 20 = some (decide (lots.length ≤ 20 ∧ boxes.length ≤ 20)) := by
  have hl : (theKinds.length : Int) = 3 := rfl
  show P.taquinref35_Few.l0 8 theKinds lots boxes 20 ((0 : Nat) : Int) = _
  rw [few35_step lots boxes 6 0 (by omega), few35_step lots boxes 4 1 (by omega), few35_step lots boxes 2 2 (by omega)]
  rw [P.taquinref35_Few.l0, hl, if_neg (by omega), P.taquinref35_Few.j1, if_neg (by simp), hl, if_pos (by omega)]
  by_cases h1 : lots.length ≤ 20
  · rw [if_pos (by omega)]; congr 1; rw [Bool.eq_iff_iff]; simp; omega
  · rw [if_neg (by omega)]; congr 1; symm; simp; omega
set_option maxRecDepth 100000 in
set_option maxHeartbeats 4000000 in
theorem f9_any (AL AS : Option Addr) (cl cs : Nat) (lots : List Lot) (sure : List Box) (w : World) (hL : kL.C w AL lots.length lots) (hcl : lots.length ≤ cl) (hS : kB.C w AS sure.length sure) (hcs : sure.length ≤ cs) :
    Calls Tryz.prog 9 #[.slice AL lots.length cl, .slice AS sure.length cs] w fun e w' => RightPost lots sure w e w' := by
  have hB := below_alloc (Below.refl w.heap.size w) (.cells #[.string ⟨#[97]⟩, .int .i64 1, .string ⟨#[98]⟩, .int .i64 1, .string ⟨#[99]⟩, .int .i64 1] 87)
  have hb := heap_alloc_new w (.cells #[.string ⟨#[97]⟩, .int .i64 1, .string ⟨#[98]⟩, .int .i64 1, .string ⟨#[99]⟩, .int .i64 1] 87)
  have h42 := P.taquinref35_Few.calls 8 (some ⟨w.heap.size, 0, none⟩) 3 [⟨⟨#[97]⟩, 1⟩, ⟨⟨#[98]⟩, 1⟩, ⟨⟨#[99]⟩, 1⟩] AL cl (lots.map l2s) AS cs (sure.map b2s) 20 _ _ (Cget_kinds _ _ hb) (by simp) (by rw [List.length_map]; exact kL_C (Kd.C_below hL hB)) (by rw [List.length_map]; exact hcl) (by rw [List.length_map]; exact kB_C (Kd.C_below hS hB)) (by rw [List.length_map]; exact hcs) (few35_f _ _)
  simp only [List.length_map, List.length_cons, List.length_nil, Nat.zero_add, Nat.reduceAdd] at h42
  have HB := Aside0.mk hB
  by_cases hf : lots.length ≤ 20 ∧ sure.length ≤ 20
  · have h43 : ∀ W, Drawn0 (w.alloc (.cells #[.string ⟨#[97]⟩, .int .i64 1, .string ⟨#[98]⟩, .int .i64 1, .string ⟨#[99]⟩, .int .i64 1] 87)) W → Calls Tryz.prog 43 #[.slice (some ⟨w.heap.size, 0, none⟩) 3 3, .slice AL lots.length cl, .slice AS sure.length cs] W fun e w' => RightPost lots sure w e w' := by
      intro W hd
      have hbw := hd.below
      refine (f43_any w.heap.size AL AS cl cs lots sure W ((hbw.block _ (by simp)).trans hb) (Kd.C_below (Kd.C_below hL hB) hbw) (Kd.C_below (Kd.C_below hS hB) hbw) hcs hf.1 hf.2).mono ?_
      rintro e w' ⟨b, rfl, h1, h2⟩
      exact ⟨b, rfl, h1, hB.trans ((hbw.trans (h2.mono hbw.size)).mono (by simp))⟩
    rw [decide_eq_true hf] at h42
    have H43 := Aside0.mk h43
    clear hL hS hB hb hf h43
    go_enter Tryz.func9, Tryz.ntmps9
    go_wp2_with (first | (go_at_call 42; refine h42.mono ?_; rintro e w1 ⟨rfl, hd1⟩) | (go_at_call 43; refine (H43.out _ hd1).mono ?_; rintro e w2 ⟨b, rfl, h1, h2⟩))
    go_ret
    exact RightPost.mk b h1 h2
  · rw [decide_eq_false hf] at h42
    clear hL hS hB hb hf
    go_enter Tryz.func9, Tryz.ntmps9
    go_wp2_with (first | (go_at_call 42; refine h42.mono ?_; rintro e w1 ⟨rfl, hd1⟩))
    go_ret
    exact RightPost.no (HB.out.trans (hd1.below.mono (by simp)))
end Go.Proofs.YtcliaokoganbaaaGreatDoor
set_option linter.unusedVariables false
set_option linter.unusedSimpArgs false
namespace Go.Proofs.YtcliaokoganbaaaGreatDoor
open Go Go.RowKit Go.Shelf Go.Proofs.YtcliaokoganbaaaGreatDoorW.PrintWords Go.Proofs.YtcliaokoganbaaaGreatDoorW.PrintLast Go.Proofs.YtcliaokoganbaaaGreatDoorW.PrintMore
open Tq (Lot Box Want Take Ord Op BookInv OrdInv)
/-! ### taquinlaw42.do -/
theorem GivenOk.sureOk {lots : List Lot} {sure : List Box} (h : GivenOk lots sure) : SureOk lots.length sure :=
  ⟨h.sure20, fun b hb => by have := h.box b hb; unfold BoxFit at this; omega⟩
theorem encOk_book {os : List Ord} (h : BookInv os) (hk : Tq.KindsOk os) : ∀ o ∈ os, EncOk o := fun o ho => encOk_of (h.all o ho) (hk o ho)
theorem encOk_small {o : Ord} (h : EncOk o) : Small o := ⟨by have := h.wn; omega, by have := h.tn; omega, fun l hl => by have := h.tl l hl; omega⟩
theorem encOk_small2 {o : Ord} (h : EncOk o) : Small2 o := ⟨by have := h.wn; omega, by have := h.tn; omega, fun l hl => by have := h.tl l hl; omega⟩
/-- How an operation ends: the book, a number, an error. -/
def DoPost (B : Nat) (ok : Nat → Prop) (os' : List Ord) (n e' : Int) (w : World) (e : Ending) (w' : World) : Prop :=
  ∃ g', e = .returned (.tuple #[.pointer (some ⟨g', 0, none⟩), .int .i64 n, .int .i64 e']) ∧ BookAt w' B (fun k => ok k ∨ w.heap.size ≤ k) g' os' ∧ Mut ok w w'
theorem DoPost.mk {B g' : Nat} {ok : Nat → Prop} {os' : List Ord} {n e' : Int} {w w' : World} (hk : BookAt w' B (fun k => ok k ∨ w.heap.size ≤ k) g' os') (hm : Mut ok w w') : DoPost B ok os' n e' w (.returned (.tuple #[.pointer (some ⟨g', 0, none⟩), .int .i64 n, .int .i64 e'])) w' := ⟨g', rfl, hk, hm⟩
theorem book_more {w' : World} {B g a b : Nat} {ok : Nat → Prop} {os : List Ord} (h : BookAt w' B (fun k => ok k ∨ b ≤ k) g os) (hab : a ≤ b) : BookAt w' B (fun k => ok k ∨ a ≤ k) g os := h.mono (fun k hk => hk.elim .inl (fun h => .inr (by omega)))
section
variable (B g : Nat) (ok : Nat → Prop) (os : List Ord) (o : Tq.Op) (AL AS AW : Option Addr) (cl cs cw : Nat) (lots : List Lot) (sure : List Box) (w : World)
abbrev opCells (o : Tq.Op) (AW : Option Addr) (cw : Nat) : Array Value := #[.int .i64 o.act, .int .i64 o.no, .int .i64 o.body, .int .i64 o.n, .int .i64 o.tick, .slice AW o.wants.length cw]
set_option maxRecDepth 100000 in
set_option maxHeartbeats 2000000 in
theorem f12_ask (h : BookAt w B ok g os) (hBw : B ≤ w.heap.size) (hW : kW.C w AW o.wants.length o.wants) (ha : o.act = 0) :
    Calls Tryz.prog 12 #[.pointer (some ⟨g, 0, none⟩), .agg (opCells o AW cw), .slice AL lots.length cl, .slice AS sure.length cs] w fun e w' => DoPost B ok (Tq.ask os o.wants o.tick).2.2 (Tq.ask os o.wants o.tick).1 (Tq.ask os o.wants o.tick).2.1 w e w' := by
  have hb := below_alloc (Below.refl w.heap.size w) (.cells (opCells o AW cw) 35)
  have HBB := Aside0.mk (h.alloc (.cells (opCells o AW cw) 35))
  have hcall := f18_any B g ok os AW cw o.wants o.tick _ (h.alloc (.cells (opCells o AW cw) 35)) (by simp; omega) (Kd.C_below hW hb)
  clear hW
  have HM := Aside0.mk (Mut.of_below hb ok)
  have HBW := Aside0.mk hb
  unfold opCells at *
  generalize Tq.ask os o.wants o.tick = r at *
  obtain ⟨act, no, body, n, tick, ws⟩ := o
  simp only at *
  subst ha

  clear h hb
  go_enter Tryz.func12, Tryz.ntmps12
  go_wp2_with (go_at_call 18; refine hcall.mono ?_; rintro e w1 ⟨rfl, hk, hm⟩)
  go_ret3
  exact DoPost.mk (book_more hk (by simp)) (HM.out.trans hm (fun i hi => .inl hi))
set_option maxRecDepth 100000 in
set_option maxHeartbeats 2000000 in
theorem f12_promise (h : BookAt w B ok g os) (hBw : B ≤ w.heap.size) (hi : BookInv os) (hL : kL.C w AL lots.length lots) (hcl : lots.length ≤ cl) (hS : kB.C w AS sure.length sure) (hso : SureOk lots.length sure) (ha : o.act = 1) :
    Calls Tryz.prog 12 #[.pointer (some ⟨g, 0, none⟩), .agg (opCells o AW cw), .slice AL lots.length cl, .slice AS sure.length cs] w fun e w' => DoPost B ok (Tq.promise os o.no lots sure).2 0 (Tq.promise os o.no lots sure).1 w e w' := by
  have hb := below_alloc (Below.refl w.heap.size w) (.cells (opCells o AW cw) 35)
  have HBB := Aside0.mk (h.alloc (.cells (opCells o AW cw) 35))
  have hcall := f21_any B g ok os o.no AL AS cl cs lots sure _ (h.alloc (.cells (opCells o AW cw) 35)) (by simp; omega) hi (Kd.C_below hL hb) hcl (Kd.C_below hS hb) hso
  clear hi hL hS hso
  have HM := Aside0.mk (Mut.of_below hb ok)
  have HBW := Aside0.mk hb
  unfold opCells at *
  generalize Tq.promise os o.no lots sure = r at *
  obtain ⟨act, no, body, n, tick, ws⟩ := o
  simp only at *
  subst ha

  clear h hb
  go_enter Tryz.func12, Tryz.ntmps12
  go_wp2_with (go_at_call 21; refine hcall.mono ?_; rintro e w1 ⟨rfl, hk, hm⟩)
  go_ret3
  exact DoPost.mk (book_more hk (by simp)) (HM.out.trans hm (fun i hi => .inl hi))
set_option maxRecDepth 100000 in
set_option maxHeartbeats 2000000 in
theorem f12_serve (h : BookAt w B ok g os) (hBw : B ≤ w.heap.size) (hi : BookInv os) (ha : o.act = 2) :
    Calls Tryz.prog 12 #[.pointer (some ⟨g, 0, none⟩), .agg (opCells o AW cw), .slice AL lots.length cl, .slice AS sure.length cs] w fun e w' => DoPost B ok (Tq.serve os o.no o.body o.n o.tick).2 0 (Tq.serve os o.no o.body o.n o.tick).1 w e w' := by
  have hb := below_alloc (Below.refl w.heap.size w) (.cells (opCells o AW cw) 35)
  have HBB := Aside0.mk (h.alloc (.cells (opCells o AW cw) 35))
  have hcall := f28_any B g ok os o.no o.body o.n o.tick _ (h.alloc (.cells (opCells o AW cw) 35)) (by simp; omega) hi
  clear hi
  have HM := Aside0.mk (Mut.of_below hb ok)
  have HBW := Aside0.mk hb
  unfold opCells at *
  generalize Tq.serve os o.no o.body o.n o.tick = r at *
  obtain ⟨act, no, body, n, tick, ws⟩ := o
  simp only at *
  subst ha

  clear h hb
  go_enter Tryz.func12, Tryz.ntmps12
  go_wp2_with (go_at_call 28; refine hcall.mono ?_; rintro e w1 ⟨rfl, hk, hm⟩)
  go_ret3
  exact DoPost.mk (book_more hk (by simp)) (HM.out.trans hm (fun i hi => .inl hi))
set_option maxRecDepth 100000 in
set_option maxHeartbeats 2000000 in
theorem f12_withdraw (h : BookAt w B ok g os) (hBw : B ≤ w.heap.size) (ha : o.act = 3) :
    Calls Tryz.prog 12 #[.pointer (some ⟨g, 0, none⟩), .agg (opCells o AW cw), .slice AL lots.length cl, .slice AS sure.length cs] w fun e w' => DoPost B ok (Tq.withdraw os o.no).2 0 (Tq.withdraw os o.no).1 w e w' := by
  have hb := below_alloc (Below.refl w.heap.size w) (.cells (opCells o AW cw) 35)
  have HBB := Aside0.mk (h.alloc (.cells (opCells o AW cw) 35))
  have hcall := f25_any B g ok os o.no _ (h.alloc (.cells (opCells o AW cw) 35))
  have HM := Aside0.mk (Mut.of_below hb ok)
  have HBW := Aside0.mk hb
  unfold opCells at *
  generalize Tq.withdraw os o.no = r at *
  obtain ⟨act, no, body, n, tick, ws⟩ := o
  simp only at *
  subst ha

  clear h hb
  go_enter Tryz.func12, Tryz.ntmps12
  go_wp2_with (go_at_call 25; refine hcall.mono ?_; rintro e w1 ⟨rfl, hk, hm⟩)
  go_ret3
  exact DoPost.mk (hk.mono (fun k hk => .inl hk)) (HM.out.trans hm (fun i hi => .inl hi))
set_option maxRecDepth 100000 in
set_option maxHeartbeats 2000000 in
theorem f12_giveUp (h : BookAt w B ok g os) (hBw : B ≤ w.heap.size) (ha : o.act = 4) :
    Calls Tryz.prog 12 #[.pointer (some ⟨g, 0, none⟩), .agg (opCells o AW cw), .slice AL lots.length cl, .slice AS sure.length cs] w fun e w' => DoPost B ok (Tq.giveUp os o.no).2 0 (Tq.giveUp os o.no).1 w e w' := by
  have hb := below_alloc (Below.refl w.heap.size w) (.cells (opCells o AW cw) 35)
  have HBB := Aside0.mk (h.alloc (.cells (opCells o AW cw) 35))
  have hcall := f47_any B g ok os o.no _ (h.alloc (.cells (opCells o AW cw) 35))
  have HM := Aside0.mk (Mut.of_below hb ok)
  have HBW := Aside0.mk hb
  unfold opCells at *
  generalize Tq.giveUp os o.no = r at *
  obtain ⟨act, no, body, n, tick, ws⟩ := o
  simp only at *
  subst ha

  clear h hb
  go_enter Tryz.func12, Tryz.ntmps12
  go_wp2_with (go_at_call 47; refine hcall.mono ?_; rintro e w1 ⟨rfl, hk, hm⟩)
  go_ret3
  exact DoPost.mk (hk.mono (fun k hk => .inl hk)) (HM.out.trans hm (fun i hi => .inl hi))
set_option maxRecDepth 100000 in
set_option maxHeartbeats 2000000 in
theorem f12_copy (h : BookAt w B ok g os) (hBw : B ≤ w.heap.size) (hi : BookInv os) (hk : Tq.KindsOk os) (ha : o.act = 5) :
    Calls Tryz.prog 12 #[.pointer (some ⟨g, 0, none⟩), .agg (opCells o AW cw), .slice AL lots.length cl, .slice AS sure.length cs] w fun e w' => DoPost B ok os 0 0 w e w' := by
  have hb := below_alloc (Below.refl w.heap.size w) (.cells (opCells o AW cw) 35)
  have HBB := Aside0.mk (h.alloc (.cells (opCells o AW cw) 35))
  have hcall := f11_any B g ok os _ (h.alloc (.cells (opCells o AW cw) 35)) (by have := hi.len; omega) (fun x hx => encOk_small2 (encOk_book hi hk x hx))
  clear hi hk
  have HM := Aside0.mk (Mut.of_below hb ok)
  have HBW := Aside0.mk hb
  unfold opCells at *

  obtain ⟨act, no, body, n, tick, ws⟩ := o
  simp only at *
  subst ha

  clear h hb
  go_enter Tryz.func12, Tryz.ntmps12
  go_wp2_with (go_at_call 11; refine hcall.mono ?_; rintro e w1 ⟨g1, rfl, hk1, hb1⟩)
  go_ret3
  exact DoPost.mk ((hk1.lower (by simp; omega)).mono (fun k hk => .inr (by simp at hk; omega))) (HM.out.below hb1)
set_option maxRecDepth 100000 in
set_option maxHeartbeats 2000000 in
theorem f12_same (h : BookAt w B ok g os) (hBw : B ≤ w.heap.size) (ha : o.act < 0 ∨ 6 < o.act) :
    Calls Tryz.prog 12 #[.pointer (some ⟨g, 0, none⟩), .agg (opCells o AW cw), .slice AL lots.length cl, .slice AS sure.length cs] w fun e w' => DoPost B ok os 0 0 w e w' := by
  have hb := below_alloc (Below.refl w.heap.size w) (.cells (opCells o AW cw) 35)
  have HBB := Aside0.mk (h.alloc (.cells (opCells o AW cw) 35))

  have HM := Aside0.mk (Mut.of_below hb ok)
  have HBW := Aside0.mk hb
  unfold opCells at *

  obtain ⟨act, no, body, n, tick, ws⟩ := o
  simp only at *
  have ht0 : (act == 0) = false := by simp; omega
  have ht1 : (act == 1) = false := by simp; omega
  have ht2 : (act == 2) = false := by simp; omega
  have ht3 : (act == 3) = false := by simp; omega
  have ht4 : (act == 4) = false := by simp; omega
  have ht5 : (act == 5) = false := by simp; omega
  have ht6 : (act == 6) = false := by simp; omega
  clear h hb
  go_enter Tryz.func12, Tryz.ntmps12
  go_wp2
  go_ret3
  exact DoPost.mk (HBB.out.mono (fun k hk => .inl hk)) HM.out
set_option maxRecDepth 100000 in
set_option maxHeartbeats 2000000 in
theorem f12_read (h : BookAt w B ok g os) (hBw : B ≤ w.heap.size) (hs : Std w) (hi : BookInv os) (hk : Tq.KindsOk os) (ha : o.act = 6) :
    Calls Tryz.prog 12 #[.pointer (some ⟨g, 0, none⟩), .agg (opCells o AW cw), .slice AL lots.length cl, .slice AS sure.length cs] w fun e w' => DoPost B ok os 0 0 w e w' := by
  have hb := below_alloc (Below.refl w.heap.size w) (.cells (opCells o AW cw) 35)
  have HBB := Aside0.mk (h.alloc (.cells (opCells o AW cw) 35))
  have h32 := f32_any B g ok os _ (h.alloc (.cells (opCells o AW cw) 35)) (hs.below hb hs.size) hi.len (encOk_book hi hk)
  have hlen := encBook_len hi.len (encOk_book hi hk)
  have h39 : ∀ W, Below (w.alloc (.cells (opCells o AW cw) 35)).heap.size (w.alloc (.cells (opCells o AW cw) 35)) W → Calls Tryz.prog 39 #[.string ⟨(Tq.encBook os).toArray⟩] W fun e w' => ∃ g', e = .returned (.tuple #[.pointer (some ⟨g', 0, none⟩), .bool true]) ∧ BookAt w' W.heap.size (fun k => W.heap.size ≤ k) g' os ∧ Below W.heap.size W w' := by
    intro W hW
    refine (f39_any (Tq.encBook os) W ((hs.below hb hs.size).below hW (by have := hs.size; simp; omega)) hlen).mono ?_
    rintro e w' ⟨hbb, hp⟩
    rw [Tq.readBook_enc os hi hk] at hp
    obtain ⟨g', rfl, hk'⟩ := hp
    exact ⟨g', rfl, hk', hbb⟩
  have HM := Aside0.mk (Mut.of_below hb ok)
  have HBW := Aside0.mk hb
  have H39 := Aside0.mk h39
  clear h39 hi hk hlen hs
  unfold opCells strOf at *
  generalize Tq.encBook os = eb at *
  obtain ⟨act, no, body, n, tick, ws⟩ := o
  simp only at *
  subst ha
  clear h hb
  go_enter Tryz.func12, Tryz.ntmps12
  go_wp2_with (first | (go_at_call 32; refine h32.mono ?_; rintro e w1 ⟨rfl, hb1⟩) | (go_at_call 39; refine (H39.out _ hb1).mono ?_; rintro e w2 ⟨g1, rfl, hk1, hb2⟩))
  go_ret3
  have hsz := hb1.size
  simp at hsz
  exact DoPost.mk ((hk1.lower (by omega)).mono (fun k hk => .inr (by omega))) ((HM.out.below hb1).below hb2)
theorem f12_any (h : BookAt w B ok g os) (hBw : B ≤ w.heap.size) (hs : Std w) (hi : BookInv os) (hk : Tq.KindsOk os) (hW : kW.C w AW o.wants.length o.wants) (hL : kL.C w AL lots.length lots) (hcl : lots.length ≤ cl) (hS : kB.C w AS sure.length sure) (hso : SureOk lots.length sure)
    {os' : List Ord} {n e0 : Int} (hst : Tq.stateAfter lots sure o os = (some os', n, e0)) :
    Calls Tryz.prog 12 #[.pointer (some ⟨g, 0, none⟩), .agg (opCells o AW cw), .slice AL lots.length cl, .slice AS sure.length cs] w fun e w' => DoPost B ok os' n e0 w e w' := by
  unfold Tq.stateAfter at hst
  by_cases h0 : o.act = 0
  · rw [if_pos h0] at hst
    simp only [Prod.mk.injEq, Option.some.injEq] at hst
    obtain ⟨rfl, rfl, rfl⟩ := hst
    exact f12_ask B g ok os o AL AS AW cl cs cw lots sure w h hBw hW h0
  rw [if_neg h0] at hst
  by_cases h1 : o.act = 1
  · rw [if_pos h1] at hst
    simp only [Prod.mk.injEq, Option.some.injEq] at hst
    obtain ⟨rfl, rfl, rfl⟩ := hst
    exact f12_promise B g ok os o AL AS AW cl cs cw lots sure w h hBw hi hL hcl hS hso h1
  rw [if_neg h1] at hst
  by_cases h2 : o.act = 2
  · rw [if_pos h2] at hst
    simp only [Prod.mk.injEq, Option.some.injEq] at hst
    obtain ⟨rfl, rfl, rfl⟩ := hst
    exact f12_serve B g ok os o AL AS AW cl cs cw lots sure w h hBw hi h2
  rw [if_neg h2] at hst
  by_cases h3 : o.act = 3
  · rw [if_pos h3] at hst
    simp only [Prod.mk.injEq, Option.some.injEq] at hst
    obtain ⟨rfl, rfl, rfl⟩ := hst
    exact f12_withdraw B g ok os o AL AS AW cl cs cw lots sure w h hBw h3
  rw [if_neg h3] at hst
  by_cases h4 : o.act = 4
  · rw [if_pos h4] at hst
    simp only [Prod.mk.injEq, Option.some.injEq] at hst
    obtain ⟨rfl, rfl, rfl⟩ := hst
    exact f12_giveUp B g ok os o AL AS AW cl cs cw lots sure w h hBw h4
  rw [if_neg h4] at hst
  by_cases h5 : o.act = 5
  · rw [if_pos h5] at hst
    simp only [Prod.mk.injEq, Option.some.injEq] at hst
    obtain ⟨rfl, rfl, rfl⟩ := hst
    exact f12_copy B g ok os o AL AS AW cl cs cw lots sure w h hBw hi hk h5
  rw [if_neg h5] at hst
  by_cases h6 : o.act = 6
  · rw [if_pos h6, Tq.readBook_enc os hi hk] at hst
    simp only [Prod.mk.injEq, Option.some.injEq] at hst
    obtain ⟨rfl, rfl, rfl⟩ := hst
    exact f12_read B g ok os o AL AS AW cl cs cw lots sure w h hBw hs hi hk h6
  rw [if_neg h6] at hst
  simp only [Prod.mk.injEq, Option.some.injEq] at hst
  obtain ⟨rfl, rfl, rfl⟩ := hst
  exact f12_same B g ok os o AL AS AW cl cs cw lots sure w h hBw (by omega)
end
end Go.Proofs.YtcliaokoganbaaaGreatDoor
set_option linter.unusedVariables false
set_option linter.unusedSimpArgs false
namespace Go.Proofs.YtcliaokoganbaaaGreatDoor
open Go Go.RowKit Go.Shelf Go.Proofs.YtcliaokoganbaaaGreatDoorW.PrintWords Go.Proofs.YtcliaokoganbaaaGreatDoorW.PrintLast Go.Proofs.YtcliaokoganbaaaGreatDoorW.PrintMore
open Tq (Lot Box Want Take Ord Op BookInv OrdInv)
/-! ### taquinlaw42.small -/
def oneW : List Want := [⟨0, 2, 5⟩]
def oneL : List Lot := [⟨0, 9, false⟩]
def oneB : List Box := [⟨0, 3, 0⟩]
def bk1 : List Ord := [⟨oneW, 7, 0, []⟩]
def bk2 : List Ord := [⟨oneW, 7, 1, [[⟨0, 2⟩]]⟩]
def bk3 : List Ord := [⟨oneW, 7, 1, [[⟨0, 2⟩]]⟩, ⟨oneW, 9, 0, []⟩]
def bk4 : List Ord := [⟨oneW, 7, 2, []⟩, ⟨oneW, 9, 0, []⟩]
theorem sm1 : Tq.ask [] oneW 7 = (0, 0, bk1) := by decide +kernel
theorem sm2 : Tq.promise bk1 0 oneL oneB = (0, bk2) := by decide +kernel
theorem sm3 : Tq.reserved bk2 0 = 2 := by decide +kernel
theorem sm4 : Tq.ask bk2 oneW 9 = (1, 0, bk3) := by decide +kernel
theorem sm5 : Tq.promise bk3 1 oneL oneB = (22, bk3) := by decide +kernel
theorem sm6 : Tq.serve bk3 0 0 2 7 = (0, bk4) := by decide +kernel
theorem sm7 : Tq.stateAt bk4 0 = some ⟨oneW, 7, 2, []⟩ := by decide +kernel
theorem inv1 : OrdInv ⟨oneW, 7, 0, []⟩ := ⟨by decide +kernel, by decide, by decide, fun _ => rfl, fun h => absurd h (by decide)⟩
theorem inv1' : OrdInv ⟨oneW, 9, 0, []⟩ := ⟨by decide +kernel, by decide, by decide, fun _ => rfl, fun h => absurd h (by decide)⟩
theorem inv2 : OrdInv ⟨oneW, 7, 1, [[⟨0, 2⟩]]⟩ := ⟨by decide +kernel, by decide, by decide, fun h => absurd rfl h, fun _ => ⟨⟨⟨fun t ht => by simp at ht; subst ht; decide, by decide, by decide⟩, trivial⟩, by decide⟩⟩
theorem binv1 : BookInv bk1 := ⟨fun o ho => by simp [bk1] at ho; subst ho; exact inv1, by decide⟩
theorem binv2 : BookInv bk2 := ⟨fun o ho => by simp [bk2] at ho; subst ho; exact inv2, by decide⟩
theorem binv3 : BookInv bk3 := ⟨fun o ho => (show OrdInv o from by simp [bk3] at ho; rcases ho with rfl | rfl <;> first | exact inv2 | exact inv1'), by decide⟩
theorem C_one {α : Type} {d : Kd α} {w : World} {g : Nat} {cs : Array Value} {t : Nat} {x : α} (hb : w.heap[g]? = some (.cells cs t (0, 0))) (hs : cs.size = d.sz) (hK : d.K w x cs.toList) : d.C w (some ⟨g, 0, none⟩) 1 [x] := by
  obtain ⟨hc, _⟩ := blk_facts hb
  refine ⟨rfl, by omega, fun _ => ⟨_, rfl, fun j p hp => ?_⟩⟩
  match j, hp with
  | 0, hp =>
    simp at hp; subst hp
    refine ⟨cs.toList, by simpa using hs, hK, fun i u hu => ?_⟩
    rw [add_plain]
    show w.cell? ⟨g, 0 * d.sz + i, none⟩ = some u
    rw [Nat.zero_mul, Nat.zero_add, hc]
    simpa using hu
  | j + 1, hp => simp at hp
theorem kW_mkK (w : World) (x : Want) : kW.K w x [.int .i64 x.kind, .int .i64 x.count, .int .i64 x.til] := ⟨[_], [_, _], rfl, rfl, ⟨[_], [_], rfl, rfl, rfl⟩⟩
theorem kB_mkK (w : World) (x : Box) : kB.K w x [.int .i64 x.lot, .int .i64 x.count, .int .i64 x.tare] := ⟨[_], [_, _], rfl, rfl, ⟨[_], [_], rfl, rfl, rfl⟩⟩
theorem kL_mkK (w : World) (x : Lot) : kL.K w x [.int .i64 x.kind, .int .i64 x.expiry, .bool x.frozen] := ⟨[_], [_, _], rfl, rfl, ⟨[_], [_], rfl, rfl, rfl⟩⟩
set_option maxHeartbeats 400000 in
theorem f41_any (w : World) : Calls Tryz.prog 41 #[] w fun e w' => ∃ g, e = .returned (.slice (some ⟨g, 0, none⟩) 1 1) ∧ kW.C w' (some ⟨g, 0, none⟩) 1 oneW ∧ Below w.heap.size w w' := by
  have hb := heap_alloc_new w (.cells #[.int .i64 0, .int .i64 2, .int .i64 5] 100)
  have HC := Aside0.mk (C_one (d := kW) (x := ⟨0, 2, 5⟩) hb rfl (kW_mkK _ _))
  clear hb
  go_enter Tryz.func41, Tryz.ntmps41
  go_wp2
  go_ret
  exact ⟨_, rfl, HC.out, below_alloc (Below.refl _ _) _⟩
theorem book_norm {w' : World} {B n g b : Nat} {os : List Ord} (h : BookAt w' B (fun k => n ≤ k ∨ b ≤ k) g os) (hb : n ≤ b) : BookAt w' B (fun k => n ≤ k) g os := h.mono (fun k hk => hk.elim id (fun h => Nat.le_trans hb h))
set_option maxRecDepth 100000 in
set_option maxHeartbeats 4000000 in
theorem f7_any (w : World) : Calls Tryz.prog 7 #[] w fun e w' => e = .returned (.bool true) ∧ Below w.heap.size w w' := by
  have hA1 := below_alloc (Below.refl w.heap.size w) (.cells #[.int .i64 0, .int .i64 9, .bool false] 84)
  have hA2 := below_alloc hA1 (.cells #[.int .i64 0, .int .i64 3, .int .i64 0] 60)
  have hL0 := C_one (d := kL) (x := ⟨0, 9, false⟩) (heap_alloc_new w (.cells #[.int .i64 0, .int .i64 9, .bool false] 84)) rfl (kL_mkK _ _)
  have hL := Kd.C_below hL0 (below_alloc (Below.refl _ _) (.cells #[.int .i64 0, .int .i64 3, .int .i64 0] 60))
  have hS := C_one (d := kB) (x := ⟨0, 3, 0⟩) (heap_alloc_at (w.alloc (.cells #[.int .i64 0, .int .i64 9, .bool false] 84)) (.cells #[.int .i64 0, .int .i64 3, .int .i64 0] 60) (w.heap.size + 1) (by simp)) rfl (kB_mkK _ _)
  have hsz : ((w.alloc (.cells #[.int .i64 0, .int .i64 9, .bool false] 84)).alloc (.cells #[.int .i64 0, .int .i64 3, .int .i64 0] 60)).heap.size = w.heap.size + 2 := by simp
  have h10 := f10_any (w.heap.size + 2) ((w.alloc (.cells #[.int .i64 0, .int .i64 9, .bool false] 84)).alloc (.cells #[.int .i64 0, .int .i64 3, .int .i64 0] 60)) (by rw [hsz]; exact Nat.le_refl _)
  rw [hsz] at h10
  obtain ⟨wA, hwA⟩ : ∃ wA, wA = (w.alloc (.cells #[.int .i64 0, .int .i64 9, .bool false] 84)).alloc (.cells #[.int .i64 0, .int .i64 3, .int .i64 0] 60) := ⟨_, rfl⟩
  have HA2 := Aside0.mk (show Below w.heap.size w wA by rw [hwA]; exact hA2)
  have HL := Aside0.mk (show kL.C wA (some ⟨w.heap.size, 0, none⟩) 1 oneL by rw [hwA]; exact hL)
  have HS := Aside0.mk (show kB.C wA (some ⟨w.heap.size + 1, 0, none⟩) 1 oneB by rw [hwA]; exact hS)
  have hszA : wA.heap.size = w.heap.size + 2 := by rw [hwA]; exact hsz
  have HSZ := Aside0.mk hszA
  have h10' : Calls Tryz.prog 10 #[] ((w.alloc (.cells #[.int .i64 0, .int .i64 9, .bool false] 84)).alloc (.cells #[.int .i64 0, .int .i64 3, .int .i64 0] 60)) fun e w' => ∃ g, e = .returned (.pointer (some ⟨g, 0, none⟩)) ∧ Aside0 (BookAt w' (w.heap.size + 2) (fun k => w.heap.size + 2 ≤ k) g []) ∧ Aside0 (Below (w.heap.size + 2) wA w') := by
    rw [← hwA] at h10 ⊢
    exact h10.mono (fun e w' ⟨g, h1, h2, h3⟩ => ⟨g, h1, ⟨h2⟩, ⟨h3⟩⟩)
  clear hA1 hA2 hL0 hL hS hsz h10 hwA hszA
  -- what each call asks
  have hlots : ∀ W, Aside0 (Below (w.heap.size + 2) wA W) → kL.C W (some ⟨w.heap.size, 0, none⟩) oneL.length oneL ∧ kB.C W (some ⟨w.heap.size + 1, 0, none⟩) oneB.length oneB ∧ w.heap.size + 2 ≤ W.heap.size := fun W hb => by
    have hb' : Below wA.heap.size wA W := by rw [HSZ.out]; exact hb.out
    exact ⟨Kd.C_below HL.out hb', Kd.C_below HS.out hb', by have := hb.out.size; have := HSZ.out; omega⟩
  have hmut : ∀ W W', Aside0 (Below (w.heap.size + 2) wA W) → Mut (fun k => w.heap.size + 2 ≤ k) W W' → Aside0 (Below (w.heap.size + 2) wA W') := fun W W' hb hm => ⟨Mut.base hb.out (hlots W hb).2.2 hm (fun i hi => hi)⟩
  have hbel : ∀ W W', Aside0 (Below (w.heap.size + 2) wA W) → Below W.heap.size W W' → Aside0 (Below (w.heap.size + 2) wA W') := fun W W' hb hm => ⟨hb.out.trans (hm.mono (hlots W hb).2.2)⟩
  have h41 : ∀ W g os, Aside0 (BookAt W (w.heap.size + 2) (fun k => w.heap.size + 2 ≤ k) g os) → Aside0 (Below (w.heap.size + 2) wA W) → Calls Tryz.prog 41 #[] W fun e w' => ∃ g', e = .returned (.slice (some ⟨g', 0, none⟩) 1 1) ∧ Aside0 (kW.C w' (some ⟨g', 0, none⟩) 1 oneW) ∧ Aside0 (BookAt w' (w.heap.size + 2) (fun k => w.heap.size + 2 ≤ k) g os) ∧ Aside0 (Below (w.heap.size + 2) wA w') := fun W g os hk hb =>
    (f41_any W).mono fun e w' ⟨g', h1, h2, h3⟩ => ⟨g', h1, ⟨h2⟩, ⟨hk.out.below h3⟩, hbel W w' hb h3⟩
  have h18 : ∀ W g gw os due r, Tq.ask os oneW due = r → Aside0 (BookAt W (w.heap.size + 2) (fun k => w.heap.size + 2 ≤ k) g os) → Aside0 (Below (w.heap.size + 2) wA W) → Aside0 (kW.C W (some ⟨gw, 0, none⟩) 1 oneW) → Calls Tryz.prog 18 #[.pointer (some ⟨g, 0, none⟩), .slice (some ⟨gw, 0, none⟩) 1 1, .int .i64 due] W fun e w' => e = .returned (.tuple #[.int .i64 r.1, .int .i64 r.2.1]) ∧ Aside0 (BookAt w' (w.heap.size + 2) (fun k => w.heap.size + 2 ≤ k) g r.2.2) ∧ Aside0 (Below (w.heap.size + 2) wA w') := by
    intro W g gw os due r hr hk hb hw
    subst hr
    refine (f18_any (w.heap.size + 2) g (fun k => w.heap.size + 2 ≤ k) os (some ⟨gw, 0, none⟩) 1 oneW due W hk.out (hlots W hb).2.2 hw.out).mono ?_
    rintro e w' ⟨rfl, h1, h2⟩
    exact ⟨rfl, ⟨book_norm h1 (hlots W hb).2.2⟩, hmut W w' hb h2⟩
  have h21 : ∀ W g os no r, BookInv os → Tq.promise os no oneL oneB = r → Aside0 (BookAt W (w.heap.size + 2) (fun k => w.heap.size + 2 ≤ k) g os) → Aside0 (Below (w.heap.size + 2) wA W) → Calls Tryz.prog 21 #[.pointer (some ⟨g, 0, none⟩), .int .i64 no, .slice (some ⟨w.heap.size, 0, none⟩) 1 1, .slice (some ⟨w.heap.size + 1, 0, none⟩) 1 1] W fun e w' => e = .returned (.int .i64 r.1) ∧ Aside0 (BookAt w' (w.heap.size + 2) (fun k => w.heap.size + 2 ≤ k) g r.2) ∧ Aside0 (Below (w.heap.size + 2) wA w') := by
    intro W g os no r hi hr hk hb
    subst hr
    refine (f21_any (w.heap.size + 2) g (fun k => w.heap.size + 2 ≤ k) os no (some ⟨w.heap.size, 0, none⟩) (some ⟨w.heap.size + 1, 0, none⟩) 1 1 oneL oneB W hk.out (hlots W hb).2.2 hi (hlots W hb).1 (Nat.le_refl _) (hlots W hb).2.1 ⟨by decide, fun b hb => by simp [oneB] at hb; subst hb; decide⟩).mono ?_
    rintro e w' ⟨rfl, h1, h2⟩
    exact ⟨rfl, ⟨book_norm h1 (hlots W hb).2.2⟩, hmut W w' hb h2⟩
  have h26 : ∀ W g os body r, BookInv os → Tq.reserved os body = r → Aside0 (BookAt W (w.heap.size + 2) (fun k => w.heap.size + 2 ≤ k) g os) → Aside0 (Below (w.heap.size + 2) wA W) → Calls Tryz.prog 26 #[.pointer (some ⟨g, 0, none⟩), .int .i64 body] W fun e w' => e = .returned (.int .i64 r) ∧ Aside0 (BookAt w' (w.heap.size + 2) (fun k => w.heap.size + 2 ≤ k) g os) ∧ Aside0 (Below (w.heap.size + 2) wA w') := by
    intro W g os body r hi hr hk hb
    subst hr
    refine (f26_any (w.heap.size + 2) g (fun k => w.heap.size + 2 ≤ k) os body W hk.out hi).mono ?_
    rintro e w' ⟨rfl, h2⟩
    exact ⟨rfl, ⟨hk.out.below h2⟩, hbel W w' hb h2⟩
  have h28 : ∀ W g os no body n tick r, BookInv os → Tq.serve os no body n tick = r → Aside0 (BookAt W (w.heap.size + 2) (fun k => w.heap.size + 2 ≤ k) g os) → Aside0 (Below (w.heap.size + 2) wA W) → Calls Tryz.prog 28 #[.pointer (some ⟨g, 0, none⟩), .int .i64 no, .int .i64 body, .int .i64 n, .int .i64 tick] W fun e w' => e = .returned (.int .i64 r.1) ∧ Aside0 (BookAt w' (w.heap.size + 2) (fun k => w.heap.size + 2 ≤ k) g r.2) ∧ Aside0 (Below (w.heap.size + 2) wA w') := by
    intro W g os no body n tick r hi hr hk hb
    subst hr
    refine (f28_any (w.heap.size + 2) g (fun k => w.heap.size + 2 ≤ k) os no body n tick W hk.out (hlots W hb).2.2 hi).mono ?_
    rintro e w' ⟨rfl, h1, h2⟩
    exact ⟨rfl, ⟨book_norm h1 (hlots W hb).2.2⟩, hmut W w' hb h2⟩
  have h14 : ∀ W g, Aside0 (BookAt W (w.heap.size + 2) (fun k => w.heap.size + 2 ≤ k) g bk4) → Aside0 (Below (w.heap.size + 2) wA W) → Calls Tryz.prog 14 #[.pointer (some ⟨g, 0, none⟩), .int .i64 0] W fun e w' => ∃ A c, e = .returned (.tuple #[.agg #[.slice A 1 c, .int .i64 7, .int .i64 2], .bool true]) ∧ Aside0 (Below (w.heap.size + 2) wA w') := by
    intro W g hk hb
    refine (f14_any (w.heap.size + 2) g (fun k => w.heap.size + 2 ≤ k) bk4 0 _ W hk.out sm7 ⟨by decide, by decide, fun ts hts => by cases hts⟩).mono ?_
    rintro e w' ⟨v', rfl, h1, h2⟩
    obtain ⟨A, c, rfl⟩ := Kd.R_slice h1
    exact ⟨A, c, rfl, hbel W w' hb h2⟩
  have H := Aside0.mk hlots
  have H41 := Aside0.mk h41
  have H18a := Aside0.mk (fun W g gw => h18 W g gw [] 7 _ sm1)
  have H18b := Aside0.mk (fun W g gw => h18 W g gw bk2 9 _ sm4)
  have H21a := Aside0.mk (fun W g => h21 W g bk1 0 _ binv1 sm2)
  have H21b := Aside0.mk (fun W g => h21 W g bk3 1 _ binv3 sm5)
  have H26 := Aside0.mk (fun W g => h26 W g bk2 0 _ binv2 sm3)
  have H28 := Aside0.mk (fun W g => h28 W g bk3 0 0 2 7 _ binv3 sm6)
  have H14 := Aside0.mk h14
  clear hlots hmut hbel h41 h18 h21 h26 h28 h14
  go_enter Tryz.func7, Tryz.ntmps7
  go_wp2_with (go_at_call 10; refine h10'.mono ?_; rintro e w1 ⟨g, rfl, k1, b1⟩; refine Hid.out ?_)
  refine Lib.hid ?_
  have c41 := H41.out w1 g [] k1 b1
  go_wp2_with (go_at_call 41; refine c41.mono ?_; rintro e w2 ⟨ga, rfl, wa, k2, b2⟩; refine Hid.out ?_)
  refine Lib.hid ?_
  have c18 := H18a.out w2 g ga k2 b2 wa
  clear c41
  go_wp2_with (go_at_call 18; refine c18.mono ?_; rintro e w3 ⟨rfl, k3, b3⟩; refine Hid.out ?_)
  refine Lib.hid ?_
  have c21 := H21a.out w3 g k3 b3
  clear c18
  go_wp2_with (go_at_call 21; refine c21.mono ?_; rintro e w4 ⟨rfl, k4, b4⟩; refine Hid.out ?_)
  refine Lib.hid ?_
  have c26 := H26.out w4 g k4 b4
  clear c21
  go_wp2_with (go_at_call 26; refine c26.mono ?_; rintro e w5 ⟨rfl, k5, b5⟩; refine Hid.out ?_)
  refine Lib.hid ?_
  have c41 := H41.out w5 g bk2 k5 b5
  clear c26
  go_wp2_with (go_at_call 41; refine c41.mono ?_; rintro e w6 ⟨gb, rfl, wb, k6, b6⟩; refine Hid.out ?_)
  refine Lib.hid ?_
  have c18 := H18b.out w6 g gb k6 b6 wb
  clear c41
  go_wp2_with (go_at_call 18; refine c18.mono ?_; rintro e w7 ⟨rfl, k7, b7⟩; refine Hid.out ?_)
  refine Lib.hid ?_
  have c21 := H21b.out w7 g k7 b7
  clear c18
  go_wp2_with (go_at_call 21; refine c21.mono ?_; rintro e w8 ⟨rfl, k8, b8⟩; refine Hid.out ?_)
  refine Lib.hid ?_
  have c28 := H28.out w8 g k8 b8
  clear c21
  go_wp2_with (go_at_call 28; refine c28.mono ?_; rintro e w9 ⟨rfl, k9, b9⟩; refine Hid.out ?_)
  refine Lib.hid ?_
  have c14 := H14.out w9 g k9 b9
  clear c28
  go_wp2_with (go_at_call 14; refine c14.mono ?_; rintro e wz ⟨A, c, rfl, bz⟩; refine Hid.out ?_)
  refine Lib.hid ?_
  clear c14
  go_wp2
  go_ret
  exact ⟨rfl, below_alloc (HA2.out.trans (bz.out.mono (by omega))) _⟩
end Go.Proofs.YtcliaokoganbaaaGreatDoor
set_option linter.unusedVariables false
set_option linter.unusedSimpArgs false
namespace Go.Proofs.YtcliaokoganbaaaGreatDoor
open Go Go.RowKit Go.Shelf Go.Proofs.YtcliaokoganbaaaGreatDoorW.PrintWords Go.Proofs.YtcliaokoganbaaaGreatDoorW.PrintLast Go.Proofs.YtcliaokoganbaaaGreatDoorW.PrintMore
open Tq (Lot Box Want Take Ord BookInv OrdInv)
/-! ### Operations that came in -/
def kOp : Kd Tq.Op := Kd.iso (Kd.pair (Kd.int .i64) (Kd.pair (Kd.int .i64) (Kd.pair (Kd.int .i64) (Kd.pair (Kd.int .i64) (Kd.pair (Kd.int .i64) (Kd.slice 100 kW)))))) (fun x => (x.act, x.no, x.body, x.n, x.tick, x.wants))
def op2s (x : Tq.Op) : P.S35 := ⟨x.act, x.no, x.body, x.n, x.tick, x.wants.map w2s⟩
theorem kOp_open {w : World} {x : Tq.Op} {cs : List Value} (h : kOp.K w x cs) : ∃ A5 c5, cs = [.int .i64 x.act, .int .i64 x.no, .int .i64 x.body, .int .i64 x.n, .int .i64 x.tick, .slice A5 x.wants.length c5] ∧ x.wants.length ≤ c5 ∧ kW.C w A5 x.wants.length x.wants := by
  obtain ⟨_, _, rfl, rfl, ⟨_, _, rfl, rfl, ⟨_, _, rfl, rfl, ⟨_, _, rfl, rfl, ⟨_, _, rfl, rfl, ⟨A5, c5, rfl, l5, g5⟩⟩⟩⟩⟩⟩ := h
  exact ⟨A5, c5, rfl, l5, g5⟩
theorem kOp_C {w : World} {A : Option Addr} {n : Nat} {xs : List Tq.Op} (h : kOp.C w A n xs) : P.k35.C w A n (xs.map op2s) := by
  refine C_map (d := P.k35) (d' := kOp) (f := op2s) rfl (fun x cs hK => ?_) h
  obtain ⟨A5, c5, rfl, h1, h2⟩ := kOp_open hK
  have := P.k35_mk w (op2s x) (A5 := A5) (c5 := c5) (by simp [op2s]; exact h1) (by simp only [op2s, List.length_map]; exact kW_C h2)
  simpa [op2s] using this
theorem at_Op {w : World} {A : Option Addr} {n : Nat} {xs : List Tq.Op} (h : kOp.C w A n xs) (k : Nat) (x : Tq.Op) (hx : xs[k]? = some x) : ∃ ad A5 c5, A = some ad ∧ w.cell? (ad.add (k * 6)) = some (.int .i64 x.act) ∧
    w.cell? ⟨(ad.add (k * 6)).block, (ad.add (k * 6)).off + 1, none⟩ = some (.int .i64 x.no) ∧ w.cell? ⟨(ad.add (k * 6)).block, (ad.add (k * 6)).off + 2, none⟩ = some (.int .i64 x.body) ∧
    w.cell? ⟨(ad.add (k * 6)).block, (ad.add (k * 6)).off + 3, none⟩ = some (.int .i64 x.n) ∧ w.cell? ⟨(ad.add (k * 6)).block, (ad.add (k * 6)).off + 4, none⟩ = some (.int .i64 x.tick) ∧
    w.cell? ⟨(ad.add (k * 6)).block, (ad.add (k * 6)).off + 5, none⟩ = some (.slice A5 x.wants.length c5) ∧ x.wants.length ≤ c5 ∧ kW.C w A5 x.wants.length x.wants := by
  obtain ⟨ad, c, e, _, hK, hc0⟩ := Kd.C_get h x (k : Int) (by omega) (by have := h.1; have := (List.getElem?_eq_some_iff.1 hx).1; omega)
  have hc : ∀ j u, c[j]? = some u → w.cell? (ad.add (k * 6 + j)) = some u := hc0
  rw [Int.toNat_natCast, getD_of hx] at hK
  obtain ⟨A5, c5, rfl, h1, h2⟩ := kOp_open hK
  exact ⟨ad, A5, c5, e, hc 0 _ rfl, by rw [← add_field _ _ 1 (by omega)]; exact hc 1 _ rfl, by rw [← add_field _ _ 2 (by omega)]; exact hc 2 _ rfl, by rw [← add_field _ _ 3 (by omega)]; exact hc 3 _ rfl, by rw [← add_field _ _ 4 (by omega)]; exact hc 4 _ rfl, by rw [← add_field _ _ 5 (by omega)]; exact hc 5 _ rfl, h1, h2⟩

/-! ### taquinref42.Few -/
def fewB (ops : List Tq.Op) (n : Nat) : Bool := ops.all (fun o => decide (o.wants.length ≤ 6)) && decide (ops.length ≤ n)
theorem few42_l0 (ops : List Tq.Op) (n : Nat) (hl : ops.length ≤ 9223372036854775806) : ∀ (d i k : Nat), i + d = ops.length → d < k →
    P.taquinref42_Few.l0 k (ops.map op2s) n (i : Int) = some ((ops.drop i).all (fun o => decide (o.wants.length ≤ 6)) && decide (ops.length ≤ n))
  | 0, i, k, hd, hk => by
    obtain ⟨k, rfl⟩ : ∃ m, k = m + 1 := ⟨k - 1, by omega⟩
    simp only [P.taquinref42_Few.l0, List.length_map]
    rw [if_neg (by omega), List.drop_eq_nil_of_le (by omega)]
    simp
  | d + 1, i, k, hd, hk => by
    obtain ⟨k, rfl⟩ : ∃ m, k = m + 1 := ⟨k - 1, by omega⟩
    have hil : i < ops.length := by omega
    simp only [P.taquinref42_Few.l0, List.length_map]
    rw [if_pos (by omega), if_pos (by omega)]
    have hrd : (P.rd_T35 (ops.map op2s) (i : Int)).f5.length = ops[i].wants.length := by
      unfold P.rd_T35
      simp [hil, op2s]
    rw [hrd, List.drop_eq_getElem_cons hil, List.all_cons]
    by_cases h6 : ops[i].wants.length ≤ 6
    · rw [if_neg (by omega)]
      have hw : wrap64 ((i : Int) + 1) = ((i + 1 : Nat) : Int) := by unfold wrap64; omega
      rw [hw, few42_l0 ops n hl d (i + 1) k (by omega) (by omega)]
      simp [h6]
    · rw [if_pos (by omega)]
      simp [h6]
theorem f8_any (A : Option Addr) (c : Nat) (ops : List Tq.Op) (n : Nat) (w : World) (hC : kOp.C w A ops.length ops) (hc : ops.length ≤ c) (hl : ops.length ≤ 9223372036854775806) :
    Calls Tryz.prog 8 #[.slice A ops.length c, .int .i64 n] w fun e w' => e = .returned (.bool (fewB ops n)) ∧ Below w.heap.size w w' := by
  have h := few42_l0 ops n hl ops.length 0 (ops.length + 1) (by omega) (by omega)
  have h2 : P.taquinref42_Few.f (ops.length + 1) (ops.map op2s) n = some (fewB ops n) := by
    unfold P.taquinref42_Few.f fewB
    simpa using h
  have h3 := P.taquinref42_Few.calls (ops.length + 1) A c (ops.map op2s) n (fewB ops n) w (by rw [List.length_map]; exact kOp_C hC) (by rw [List.length_map]; exact hc) h2
  rw [List.length_map] at h3
  exact h3.mono (fun e w' h => ⟨h.1, by first | exact h.2.below | exact h.2⟩)

/-! ### taquinref42.SameOrder, of orders that are the same -/
theorem same_l0 (ws : List Want) (du st : Int) (hl : ws.length ≤ 1000) : ∀ (d i k : Nat), i + d = ws.length → d < k →
    P.taquinref42_SameOrder.l0 k (i : Int) (ws.map w2s) du st (ws.map w2s) du st = some true
  | 0, i, k, hd, hk => by
    obtain ⟨k, rfl⟩ : ∃ m, k = m + 1 := ⟨k - 1, by omega⟩
    simp only [P.taquinref42_SameOrder.l0, List.length_map]
    rw [if_neg (by omega)]
  | d + 1, i, k, hd, hk => by
    obtain ⟨k, rfl⟩ : ∃ m, k = m + 1 := ⟨k - 1, by omega⟩
    simp only [P.taquinref42_SameOrder.l0, List.length_map]
    rw [if_pos (by omega), if_pos (by omega), if_pos (by omega), if_neg (by simp)]
    have hw : wrap64 ((i : Int) + 1) = ((i + 1 : Nat) : Int) := by unfold wrap64; omega
    rw [hw, same_l0 ws du st hl d (i + 1) k (by omega) (by omega)]
theorem f16_same (A A' : Option Addr) (c c' : Nat) (ws : List Want) (du st : Int) (w : World) (hl : ws.length ≤ 1000) (hC : kW.C w A ws.length ws) (hc : ws.length ≤ c) (hC' : kW.C w A' ws.length ws) (hc' : ws.length ≤ c') :
    Calls Tryz.prog 16 #[.agg #[.slice A ws.length c, .int .i64 du, .int .i64 st], .agg #[.slice A' ws.length c', .int .i64 du, .int .i64 st]] w fun e w' => e = .returned (.bool true) ∧ Below w.heap.size w w' := by
  have h := same_l0 ws du st hl ws.length 0 (ws.length + 1) (by omega) (by omega)
  have h2 : P.taquinref42_SameOrder.f (ws.length + 2) (ws.map w2s) du st (ws.map w2s) du st = some true := by
    unfold P.taquinref42_SameOrder.f
    rw [if_pos rfl, if_pos rfl]
    rw [P.taquinref42_SameOrder.j0, if_neg (by simp)]
    simpa using h
  have h3 := P.taquinref42_SameOrder.calls (ws.length + 2) A c (ws.map w2s) du st A' c' (ws.map w2s) du st true w (by rw [List.length_map]; exact kW_C hC) (by rw [List.length_map]; exact hc) (by rw [List.length_map]; exact kW_C hC') (by rw [List.length_map]; exact hc') h2
  rw [List.length_map] at h3
  exact h3
theorem f13_eq (B g : Nat) (ok : Nat → Prop) (os : List Ord) (w : World) (h : BookAt w B ok g os) : Calls Tryz.prog 13 #[.pointer (some ⟨g, 0, none⟩)] w fun e w' => e = .returned (.int .i64 os.length) ∧ w = w' :=
  (f13_any B g ok os w h).mono fun e w' h => ⟨h.1, h.2.symm⟩

/-! ### What a step does to each order (no program in sight) -/
theorem takes_state {o : Ord} (h : OrdInv o) : decide (0 < o.takes.length) = decide (o.state = 1) := by
  by_cases hs : o.state = 1
  · have hr := Tq.rightWants_bounds h.right
    have := (allInv_ok _ _ (h.some_ hs).1).1
    rw [decide_eq_true (show 0 < o.takes.length by omega), decide_eq_true hs]
  · rw [h.none_ hs, decide_eq_false hs]; simp
structure Turn (o : Tq.Op) (e : Int) (no : Nat) (x x' : Ord) : Prop where
  wants : x'.wants = x.wants
  due : x'.due = x.due
  state : x'.state = x.state ∨ ((no : Int) = o.no ∧ e = 0 ∧ Tq.may x.state x'.state = true)
theorem stepped_at {o : Tq.Op} {e n : Int} {os os' : List Ord} (h : Tq.Stepped o e n os os') (no : Nat) (x' : Ord) (hx' : os'[no]? = some x') :
    (os[no]? = none ∧ no = os.length ∧ x'.state = 0 ∧ o.act = 0 ∧ e = 0 ∧ x'.due = o.tick) ∨ (∃ x, os[no]? = some x ∧ Turn o e no x x') := by
  cases h with
  | same h1 => exact .inr ⟨x', hx', rfl, rfl, .inl rfl⟩
  | asked h1 h2 h3 =>
    by_cases hlt : no < os.length
    · rw [List.getElem?_append_left hlt] at hx'
      exact .inr ⟨x', hx', rfl, rfl, .inl rfl⟩
    · have hl := (List.getElem?_eq_some_iff.1 hx').1
      simp at hl
      have hno : no = os.length := by omega
      subst hno
      simp at hx'
      subst hx'
      exact .inl ⟨by simp, rfl, rfl, h1, h2, rfl⟩
  | turned x y h1 h2 h3 h4 h5 h6 =>
    obtain ⟨a1, a2, a3⟩ := Tq.stateAt_some h3
    unfold Tq.setOrd at hx'
    by_cases hno : no = o.no.toNat
    · subst hno
      rw [List.getElem?_set_self a2] at hx'
      injection hx' with hx'
      subst hx'
      refine .inr ⟨x, a3, h4, h5, ?_⟩
      rcases h6 with h6 | h6
      · exact .inl h6
      · exact .inr ⟨by omega, h2, h6⟩
    · rw [List.getElem?_set_ne (fun e => hno e.symm)] at hx'
      exact .inr ⟨x', hx', rfl, rfl, .inl rfl⟩
theorem stepped_len {o : Tq.Op} {e n : Int} {os os' : List Ord} (h : Tq.Stepped o e n os os') : (o.act = 0 → e = 0 → n = os.length) ∧ os.length ≤ os'.length ∧ os'.length ≤ os.length + 1 := by
  cases h with
  | same h1 => exact ⟨fun a b => (h1 a b).elim, by omega, by omega⟩
  | asked h1 h2 h3 => exact ⟨fun _ _ => h3, by simp, by simp⟩
  | turned x y h1 h2 h3 h4 h5 h6 => exact ⟨fun a => absurd a h1, by simp [Tq.setOrd], by simp [Tq.setOrd]⟩
end Go.Proofs.YtcliaokoganbaaaGreatDoor
set_option linter.unusedVariables false
set_option linter.unusedSimpArgs false
namespace Go.Proofs.YtcliaokoganbaaaGreatDoor
open Go Go.RowKit Go.Shelf Go.Proofs.YtcliaokoganbaaaGreatDoorW.PrintWords Go.Proofs.YtcliaokoganbaaaGreatDoorW.PrintLast Go.Proofs.YtcliaokoganbaaaGreatDoorW.PrintMore
open Tq (Lot Box Want Take Ord BookInv OrdInv)
set_option maxHeartbeats 400000 in
theorem f17_any (a b : Int) (w : World) : Calls Tryz.prog 17 #[.int .i64 a, .int .i64 b] w fun e w' => e = .returned (.bool (Tq.may a b)) ∧ w = w' := by
  unfold Tq.may
  by_cases h0 : a = 0
  · subst h0
    by_cases h1 : b = 1
    · subst h1
      go_enter Tryz.func17, Tryz.ntmps17
      go_wp2
      go_ret
      exact ⟨rfl, rfl⟩
    · have hb : (b == 1) = false := by simpa using h1
      go_enter Tryz.func17, Tryz.ntmps17
      go_wp2
      go_ret
      refine ⟨ret_bool ?_, rfl⟩; first | rfl | (rw [Bool.eq_iff_iff]; simp; done) | (simp [*]; done)
  · have ha : (a == 0) = false := by simpa using h0
    by_cases h1 : a = 1
    · subst h1
      clear h0 ha
      by_cases h2 : b = 2
      · subst h2
        go_enter Tryz.func17, Tryz.ntmps17
        go_wp2
        go_ret
        exact ⟨rfl, rfl⟩
      · have hb2 : (b == 2) = false := by simpa using h2
        by_cases h3 : b = 3
        · subst h3
          go_enter Tryz.func17, Tryz.ntmps17
          go_wp2
          go_ret
          exact ⟨rfl, rfl⟩
        · have hb3 : (b == 3) = false := by simpa using h3
          go_enter Tryz.func17, Tryz.ntmps17
          go_wp2
          go_ret
          refine ⟨ret_bool ?_, rfl⟩; first | rfl | (rw [Bool.eq_iff_iff]; simp; done) | (simp [*]; done)
    · have ha1 : (a == 1) = false := by simpa using h1
      go_enter Tryz.func17, Tryz.ntmps17
      go_wp2
      go_ret
      refine ⟨ret_bool ?_, rfl⟩; first | rfl | (rw [Bool.eq_iff_iff]; simp; done) | (simp [*]; done)
/-- What came in: operations whose numbers are ints. -/
def OpsOk (ops : List Tq.Op) : Prop := ∀ o ∈ ops, Tq.WantsOk o.wants
theorem state_get {os : List Ord} {no : Nat} {x : Ord} (h : os[no]? = some x) : Tq.stateAt os (no : Int) = some x := by
  have hl := (List.getElem?_eq_some_iff.1 h).1
  unfold Tq.stateAt
  rw [if_pos ⟨by omega, by omega⟩, Int.toNat_natCast, getD_of h]
theorem state_end {os : List Ord} {no : Nat} (h : os.length ≤ no) : Tq.stateAt os (no : Int) = none := by
  unfold Tq.stateAt
  rw [if_neg (by omega)]
end Go.Proofs.YtcliaokoganbaaaGreatDoor
