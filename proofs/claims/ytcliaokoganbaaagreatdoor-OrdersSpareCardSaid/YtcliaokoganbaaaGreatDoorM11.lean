/-
  Part 11 of the proof of the card: lemmas and walks, joined by mergeclaim.py out of the texts DC, DD, DE.
-/
import Derived.Test.YtcliaokoganbaaaGreatDoorM10
import Derived.Maps.Views
set_option linter.unusedVariables false
set_option linter.unusedSimpArgs false
namespace Go.Proofs.YtcliaokoganbaaaGreatDoor
open Go Go.RowKit Go.Shelf Go.Proofs.YtcliaokoganbaaaGreatDoorW.PrintWords Go.Proofs.YtcliaokoganbaaaGreatDoorW.PrintLast Go.Proofs.YtcliaokoganbaaaGreatDoorW.PrintMore
open Tq (Lot Box Want Take Ord Op)

/-! ### The map of what is reserved, as a datum -/
abbrev Dt := DataW Unit
def numD : Dt → Int
  | .lit (.int _ c) => c
  | _ => 0
def bump (D : Dt) (t : Take) : Dt := D.put (.int .i64 t.box) (.lit (.int .i64 (wrap64 (numD (D.atKey (.int .i64 t.box) (.lit (.int .i64 0))) + t.n))))
def tally (ts : List Take) : Dt := ts.foldl bump (.map [])
theorem tally_snoc (pre : List Take) (t : Take) : tally (pre ++ [t]) = bump (tally pre) t := by simp [tally]
theorem snoc_ind {α : Type} {p : List α → Prop} (h0 : p []) (hs : ∀ l x, p l → p (l ++ [x])) (l : List α) : p l := by
  have : ∀ r : List α, p r.reverse := by
    intro r
    induction r with
    | nil => exact h0
    | cons x r ih => rw [List.reverse_cons]; exact hs _ _ ih
  have h := this l.reverse
  rwa [List.reverse_reverse] at h
theorem put_isMap {D : Dt} (h : Maps.IsMap D) (k : Lit) (d : Dt) : Maps.IsMap (D.put k d) := by
  obtain ⟨es, rfl⟩ := h
  exact ⟨_, rfl⟩
theorem tally_isMap (ts : List Take) : Maps.IsMap (tally ts) := by
  induction ts using snoc_ind with
  | h0 => exact Maps.isMap_empty
  | hs l x ih => rw [tally_snoc]; exact put_isMap ih _ _
theorem tally_at (ts : List Take) (x : Int) : (tally ts).atKey (.int .i64 x) (.lit (.int .i64 0)) = .lit (.int .i64 (fromW x ts)) := by
  induction ts using snoc_ind with
  | h0 => rfl
  | hs l t ih =>
    rw [tally_snoc, fromW_snoc, bump]
    by_cases hx : t.box = x
    · subst hx
      rw [Maps.atKey_put_same (tally_isMap l) (show WideAt.IsKeyLit (.int .i64 t.box) from trivial), if_pos rfl, ih]; rfl
    · rw [Maps.atKey_put_other (by intro e; injection e with _ e; exact hx e.symm), if_neg hx, ih]
theorem tally_has (ts : List Take) (x : Int) : Maps.has (tally ts) (.int .i64 x) = ts.any (fun t => decide (t.box = x)) := by
  induction ts using snoc_ind with
  | h0 => rfl
  | hs l t ih =>
    rw [tally_snoc, bump, List.any_append]
    by_cases hx : t.box = x
    · subst hx
      rw [Maps.has_put_same (tally_isMap l) (show WideAt.IsKeyLit (.int .i64 t.box) from trivial)]; simp
    · rw [Maps.has_put_other (by intro e; injection e with _ e; exact hx e.symm), ih]; simp [hx]

/-! ### What 'from' and 'reserved' reckon -/
def allTakes (os : List Ord) : List Take := os.flatMap fun o => o.takes.flatten
theorem fromTakes_append (b : Int) (l l' : List Take) : Tq.fromTakes b (l ++ l') = Tq.fromTakes b l + Tq.fromTakes b l' := by
  unfold Tq.fromTakes
  rw [List.filter_append]
  induction l.filter (fun t => decide (t.box = b)) with
  | nil => simp
  | cons x r ih => simp only [List.cons_append, List.foldr_cons, ih]; omega
theorem fromTakes_nonneg {b : Int} {l : List Take} (h : ∀ t ∈ l, 0 ≤ t.n) : 0 ≤ Tq.fromTakes b l := by
  unfold Tq.fromTakes
  induction l with
  | nil => simp
  | cons x r ih =>
    have := ih (fun t ht => h t (List.mem_cons_of_mem _ ht))
    have hx := h x (List.mem_cons_self)
    rw [List.filter_cons]
    split
    · rw [List.foldr_cons]; omega
    · exact this
theorem fromW_eq (b : Int) (l : List Take) (h : ∀ t ∈ l, 0 ≤ t.n) (hb : Tq.fromTakes b l ≤ 9223372036854775807) : fromW b l = Tq.fromTakes b l := by
  induction l using snoc_ind with
  | h0 => rfl
  | hs l t ih =>
    rw [fromTakes_append] at hb ⊢
    have h1 : 0 ≤ Tq.fromTakes b l := fromTakes_nonneg (fun t ht => h t (by simp [ht]))
    have h2 : 0 ≤ Tq.fromTakes b [t] := fromTakes_nonneg (fun x hx => h x (by rw [List.mem_singleton.1 hx]; simp))
    rw [fromW_snoc, ih (fun t ht => h t (by simp [ht])) (by omega)]
    by_cases hx : t.box = b
    · have e : Tq.fromTakes b [t] = t.n := by simp [Tq.fromTakes, hx]
      rw [e] at hb h2 ⊢
      rw [if_pos hx]; unfold wrap64; omega
    · have e : Tq.fromTakes b [t] = 0 := by simp [Tq.fromTakes, hx]
      rw [if_neg hx, e]; omega
theorem reserved_eq (os : List Ord) (b : Int) : Tq.reserved os b = Tq.fromTakes b (allTakes os) := by
  induction os with
  | nil => rfl
  | cons o os ih =>
    show Tq.fromOrd o b + Tq.reserved os b = _
    rw [ih, show allTakes (o :: os) = o.takes.flatten ++ allTakes os from by simp [allTakes], fromTakes_append]; rfl
theorem isTaken_eq (os : List Ord) (b : Int) : Tq.isTaken os b = (allTakes os).any (fun t => decide (t.box = b)) := by
  unfold Tq.isTaken allTakes
  rw [List.any_flatMap]
/-- The sums stay in an int. -/
theorem fromTakes_le (b : Int) (l : List Take) (c : Int) (h : ∀ t ∈ l, 0 ≤ t.n ∧ t.n ≤ c) : Tq.fromTakes b l ≤ c * l.length := by
  induction l with
  | nil => simp [Tq.fromTakes]
  | cons x r ih =>
    have hr := ih (fun t ht => h t (List.mem_cons_of_mem _ ht))
    have hx := h x List.mem_cons_self
    have : Tq.fromTakes b (x :: r) = Tq.fromTakes b [x] + Tq.fromTakes b r := fromTakes_append b [x] r
    rw [this, List.length_cons]
    have e : Tq.fromTakes b [x] = if x.box = b then x.n else 0 := by by_cases hb : x.box = b <;> simp [Tq.fromTakes, hb]
    rw [e]
    have : c * ((r.length + 1 : Nat) : Int) = c * r.length + c := by rw [Int.natCast_add, Int.mul_add]; simp
    rw [this]
    split <;> omega
end Go.Proofs.YtcliaokoganbaaaGreatDoor
set_option linter.unusedVariables false
set_option linter.unusedSimpArgs false
namespace Go.Proofs.YtcliaokoganbaaaGreatDoor
open Go Go.RowKit Go.Shelf Go.Proofs.YtcliaokoganbaaaGreatDoorW.PrintWords Go.Proofs.YtcliaokoganbaaaGreatDoorW.PrintLast Go.Proofs.YtcliaokoganbaaaGreatDoorW.PrintMore
open Tq (Lot Box Want Take Ord Op)
attribute [local go_sem] Oper.semAt_some

/-! ### Marks of ranges over functions that have ended -/
def Marks (B : Nat) (W : World) : List Deferred → Prop
  | [] => True
  | d :: ds => (∃ r, d = { target := .collected r, args := #[] } ∧ W.heap[r]? = some (.deferred (some [])) ∧ B ≤ r ∧ ∀ d' ∈ ds, d' ≠ { target := .collected r, args := #[] }) ∧ Marks B W ds
theorem Marks.keep {B : Nat} {W W' : World} : ∀ {ds : List Deferred}, Marks B W ds → (∀ r, ({ target := .collected r, args := #[] } : Deferred) ∈ ds → W.heap[r]? = some (.deferred (some [])) → W'.heap[r]? = some (.deferred (some []))) → Marks B W' ds
  | [], _, _ => trivial
  | d :: ds, ⟨⟨r, e, hr, hB, hn⟩, hm⟩, h => ⟨⟨r, e, h r (by simp [e]) hr, hB, hn⟩, hm.keep (fun r' h' => h r' (List.mem_cons_of_mem _ h'))⟩
theorem Marks.mem {B : Nat} {W : World} : ∀ {ds : List Deferred}, Marks B W ds → ∀ r, ({ target := .collected r, args := #[] } : Deferred) ∈ ds → W.heap[r]? = some (.deferred (some []))
  | d :: ds, ⟨⟨r, e, hr, hB, hn⟩, hm⟩, r', h => by
    rcases List.mem_cons.1 h with h | h
    · rw [e] at h; injection h with h _; injection h with h; subst h; exact hr
    · exact hm.mem r' h
theorem leaves_marks {P : Program} {F : Fence} {n : Nat} {fn : Func} {tmps : Array Value} {R : Ending → World → Prop} {v : Value} {B : Nat} (hres : ∀ W, (results fn tmps).run P W = .ok v W) (Inv : World → Prop)
    (hput : ∀ W r, Inv W → B ≤ r → W.heap[r]? = some (.deferred (some [])) → Inv (W.putObj r (.deferred none))) (hR : ∀ W, Inv W → R (.returned v) W) : ∀ (ds : List Deferred) (W : World), Marks B W ds → Inv W → LeavesInM F n P fn tmps R ds .returning W
  | [], W, _, hI => ⟨v, hres W, hR W hI⟩
  | d :: ds, W, ⟨⟨r, e, hr, hB, hn⟩, hm⟩, hI => by
    refine ⟨by simp, .inl ⟨r, _, by rw [e], run_takeDeferred hr, leaves_marks hres Inv hput hR ds _ (hm.keep (fun r' h' hr' => ?_)) (hput W r hI hB hr)⟩⟩
    have hne : r' ≠ r := fun h => hn _ h' (by rw [h])
    exact (World.putObj_heap_other hne).trans hr'
end Go.Proofs.YtcliaokoganbaaaGreatDoor
set_option linter.unusedVariables false
set_option linter.unusedSimpArgs false
namespace Go.Proofs.YtcliaokoganbaaaGreatDoor
open Go Go.RowKit Go.Shelf Go.Proofs.YtcliaokoganbaaaGreatDoorW.PrintWords Go.Proofs.YtcliaokoganbaaaGreatDoorW.PrintLast Go.Proofs.YtcliaokoganbaaaGreatDoorW.PrintMore
open Tq (Lot Box Want Take Ord Op)
attribute [local go_sem] Oper.semAt_some

def BoxOk (t : Take) : Prop := (Lit.int .i64 t.box).wf = true
abbrev mapK (W : World) (b n : Nat) (ts : List Take) : Prop := W.ownsMap Tryz.prog 3 (plainElem (H := Unit) Tryz.prog 3) b n (tally ts)
theorem take_snoc {os : List Ord} {k : Nat} {x : Ord} (h : os[k]? = some x) : allTakes (os.take (k + 1)) = allTakes (os.take k) ++ x.takes.flatten := by
  unfold allTakes
  rw [List.take_add_one, h, List.flatMap_append]; simp
set_option maxRecDepth 100000 in
set_option maxHeartbeats 4000000 in
theorem f50_in (F : Fence) (n : Nat) (h1 : F.fn 50) (h2 : F.fn 99) (h3 : F.fn 118) (hro : F.round = none) (hn : 6 ≤ n) (B g : Nat) (ok : Nat → Prop) (os : List Ord) (w : World) (h : BookAt w B ok g os)
    (hk : ∀ t ∈ allTakes os, BoxOk t) (hlen : (allTakes os).length ≤ maxLen) :
    CallsIn F n Tryz.prog 50 #[.pointer (some ⟨g, 0, none⟩)] w fun e w' => e = .returned (.map (some w.heap.size)) ∧ mapK w' w.heap.size (allTakes os).length (allTakes os) ∧ Below w.heap.size w w' := by
  have hn1 : 1 ≤ n := by omega
  have hmm := @run_makeMap Tryz.prog
  obtain ⟨A, c, hc, hf, hmax, _, _⟩ := h.head
  have hlt := h.lt
  have HB := Aside0.mk h
  clear h
  refine callsIn_of_wp_marks Tryz.func50 rfl h1 ?_ hro
  simp only [Tryz.ntmps50, List.size_toArray, List.length_cons, List.length_nil, Nat.reduceAdd, Nat.reduceSub, Array.replicate_succ, Array.replicate_zero, List.push_toArray, List.append_toArray, List.nil_append, List.cons_append]
  gi_wp2
  refine wpIn_loop (fun a' W => ∃ (k : Nat) (ds : List Deferred) (u4 u5 u13 u14 u15 u16 u17 u18 u19 u20 u21 u22 u23 u24 u25 u26 u27 u28 u29 u30 : Value), k ≤ os.length ∧ a' = { tmps := #[.pointer (some ⟨g, 0, none⟩), undef, .map none, .pointer (some ⟨w.heap.size + 1, 0, none⟩), u4, u5, .map (some w.heap.size), .pointer (some ⟨g, 0, none⟩), .pointer (some ⟨g, 0, none⟩), .pointer (some ⟨g, 0, none⟩), .slice A os.length c, .int .i64 os.length, .int .i64 (k : Int), u13, u14, u15, u16, u17, u18, u19, u20, u21, u22, u23, u24, u25, u26, u27, u28, u29, u30, undef], defers := ds } ∧ Marks w.heap.size W ds ∧ mapK W w.heap.size (allTakes (os.take k)).length (allTakes (os.take k)) ∧ Boxed W (w.heap.size + 1) 103 (.map (some w.heap.size)) ∧ Below w.heap.size w W) (fun a' _ => os.length - (intOf (a'.tmps.getD 12 undef)).toNat) ?_ ?_
  · have hb0 : Below w.heap.size w ((w.alloc (.map #[] 0)).alloc (.cells #[.map (some w.heap.size)] 103)) := ((Below.refl _ w).alloc (Nat.le_refl _) _).alloc (by simp) _
    have bx := Boxed.new (w.alloc (.map #[] 0)) 103 (.map (some w.heap.size))
    simp only [World.size_alloc] at bx
    exact ⟨0, [], _, _, _, _, _, _, _, _, _, _, _, _, _, _, _, _, _, _, _, _, Nat.zero_le _, rfl, trivial, (World.ownsMap_made w Tryz.prog 3 (plainElem (H := Unit) Tryz.prog 3)).alloc _, bx, hb0⟩
  · rintro a' W1 ⟨k, ds, u4, u5, u13, u14, u15, u16, u17, u18, u19, u20, u21, u22, u23, u24, u25, u26, u27, u28, u29, u30, hkl, rfl, hM, hown, bS, hB0⟩
    have hBk := HB.out.step (w' := W1) (fun i _ hi => hB0.block i hi)
    have hcW : W1.cell? ⟨g, 0, none⟩ = some (.slice A os.length c) := cell_on hB0 hc
    have cS := bS.cell
    by_cases hlt2 : k < os.length
    · have hltz : (k : Int) < (os.length : Int) := by omega
      obtain ⟨x, hget⟩ : ∃ x, os[k]? = some x := ⟨_, List.getElem?_eq_getElem hlt2⟩
      have hgd : os.getD k default = x := getD_of hget
      obtain ⟨gr, v0, v3, oki, rfl, hne, _, _, _, q0, _, _, q3, _, hw0, hS3, _, _⟩ := HB.out.elem hc (k : Int) (by omega) hltz
      rw [Int.toNat_natCast] at q0 q3
      rw [Int.toNat_natCast, hgd] at hS3
      obtain ⟨A3, c3, rfl, _, hC3⟩ := Kd.S_reads hS3
      clear q0 hw0 hS3
      have hq3 := cell_on hB0 q3
      gi_wp2_with (gi_at_call 99; refine (all_in F (n - 1) h2 hro _ _).mono ?_; rintro e w' ⟨rfl, rfl⟩)
      have hs1 := hB0.size
      have bS0 := bS.alloc (.cells #[.pointer (some ⟨gr, k * 4, none⟩)] 97)
      have own0 : mapK (W1.alloc (.cells #[.pointer (some ⟨gr, k * 4, none⟩)] 97)) w.heap.size _ _ := World.ownsMap.alloc hown (.cells #[.pointer (some ⟨gr, k * 4, none⟩)] 97)
      have hB1 : Below w.heap.size w (W1.alloc (.cells #[.pointer (some ⟨gr, k * 4, none⟩)] 97)) := hB0.alloc hs1 _
      have bA := Boxed.new W1 97 (.pointer (some ⟨gr, k * 4, none⟩))
      have hM0 : Marks w.heap.size (W1.alloc (.cells #[.pointer (some ⟨gr, k * 4, none⟩)] 97)) ds := hM.keep (fun r _ hr => block_alloc hr)
      have hsz : (W1.alloc (.cells #[.pointer (some ⟨gr, k * 4, none⟩)] 97)).heap.size = W1.heap.size + 1 := by simp
      have hbS := bS.lt
      obtain ⟨W0, hW0⟩ : ∃ W0, W1.alloc (.cells #[.pointer (some ⟨gr, k * 4, none⟩)] 97) = W0 := ⟨_, rfl⟩
      rw [hW0] at bS0 own0 hB1 bA hM0 hsz ⊢
      clear hW0 bS hown hB0 hM
      have hsub : ∀ t ∈ x.takes.flatten, BoxOk t := fun t ht => hk t (by unfold allTakes; exact List.mem_flatMap.2 ⟨x, List.mem_of_getElem? hget, ht⟩)
      have hln : (allTakes (os.take k)).length + x.takes.flatten.length ≤ maxLen := by
        have e1 := congrArg List.length (take_snoc hget)
        rw [List.length_append] at e1
        have e2 : (allTakes (os.take (k + 1))).length ≤ (allTakes os).length := by
          conv => rhs; rw [← List.take_append_drop (k + 1) os]
          unfold allTakes; rw [List.flatMap_append, List.length_append]; omega
        omega
      refine wpIn_rangeFunc_ownH hro hn1 (gf := 118) (lb := #[.pointer (some ⟨W1.heap.size, 0, none⟩)]) rfl h3 (enters_of Tryz.func118 (by kernel_rfl) rfl)
        (all_stops_sub BoxOk F (n - 1) h3 hro (by omega) w gr (k * 4) A3 c3 x.takes hsub q3 hC3 W1.heap.size W0 bA.cell hB1) belowK_t (belowK_b (by omega)) (Below.refl _ _) (fun _ => rfl)
        (fun pre W => (Boxed W (w.heap.size + 1) 103 (.map (some w.heap.size)) ∧ mapK W w.heap.size ((allTakes (os.take k)).length + pre.length) (allTakes (os.take k) ++ pre.map Subtype.val)) ∧ W0.grownBy W (some w.heap.size))
        (fun _ _ _ => False)
        (OwnFrom.and (OwnFrom.and (Own.from (boxed_own _ _ _) _) (fun s X Y row hs hg hr => World.ownsMap.kept hs hg (fun e => by have := (hr _ e.symm).1; omega))) (fun s X Y row hs hg hr => World.grownBy.andThen hs hg (fun j hj => .inl (hr j hj).1)))
        (fun _ _ _ _ _ hs _ _ => hs)
        ⟨⟨bS0, by simpa using own0⟩, World.grownBy.refl _ _⟩
        (fun x a' W => ∃ Bx, w.heap.size + 1 < Bx ∧ W.heap[Bx]? = some (.cells #[.int .i64 x.1.box, .int .i64 x.1.n] 66 (0, 0)) ∧ a' = { tmps := #[.pointer (some ⟨g, 0, none⟩), undef, .map none, .pointer (some ⟨w.heap.size + 1, 0, none⟩), .int .i64 (k : Int), .pointer (some ⟨Bx, 0, none⟩), .map (some w.heap.size), .pointer (some ⟨g, 0, none⟩), .pointer (some ⟨g, 0, none⟩), .pointer (some ⟨g, 0, none⟩), .slice (some ⟨gr, 0, none⟩) os.length c, .int .i64 os.length, .int .i64 (k : Int), .bool true, .int .i64 (k : Int), .pointer (some ⟨g, 0, none⟩), .pointer (some ⟨g, 0, none⟩), .pointer (some ⟨g, 0, none⟩), .slice (some ⟨gr, 0, none⟩) os.length c, .int .i64 (k : Int), .pointer (some ⟨gr, k * 4, none⟩), .func (.func 118) #[] #[.pointer (some ⟨W1.heap.size, 0, none⟩)], .agg #[.int .i64 x.1.box, .int .i64 x.1.n], u23, u24, u25, u26, u27, u28, u29, u30, undef], defers := [] })
        (fun x a' _ X Y row hs hg hr => by obtain ⟨Bx, h1, h2, h3⟩ := hs; exact ⟨Bx, h1, block_own Bx (fun (_ : Unit) => #[.int .i64 x.1.box, .int .i64 x.1.n]) 66 () X Y row h2 hg (fun r e => (hr r e).2), h3⟩)
        ?assign ?body ?done ?stop
      case assign =>
        rintro l pre x W K ⟨⟨bS1, own1⟩, hg1⟩ hK
        have hsW := hg1.size
        gi_wp2
        exact hK _ _ ((KeepsOthers.alloc _ _).from _) ((Below.refl _ W).alloc (by omega) _) ⟨⟨bS1.alloc _, World.ownsMap.alloc own1 _⟩, World.grownBy.andThen hg1 (World.grownBy_alloc W _ none) (fun j hj => by cases hj)⟩ ⟨W.heap.size, by omega, heap_alloc_at W _ _ rfl, rfl⟩
      case body =>
        rintro l pre x' a' W hl ⟨r, hr⟩ ⟨⟨bS1, own1⟩, hg1⟩ ⟨Bx, hBx, bX, rfl⟩ hlt3
        have hsW := hg1.size
        have cS := bS1.cell
        have c0 := (blk_facts bX).1 0
        have c1 := (blk_facts bX).1 1
        have hkey := Maps.keyOf_int_mk Tryz.underlying3 x'.2
        gi_wp2_with (first
          | (gi_at_lookup; refine wpListIn_lookup_own_int _ rfl _ _ 103 rfl 3 3 .i64 (Maps.int_keyed Tryz.underlying3) Tryz.underlying103 Tryz.underlying3 (Tryz.zeroValue3 _) w.heap.size ((allTakes (os.take k)).length + pre.length) _ rfl own1 _ _ rfl hkey ?_; intro cc hat hwc)
          | (gi_at_mapUpdate; refine wpListIn_mapUpdate_own _ rfl _ _ _ 103 rfl 3 3 (Maps.int_keyed Tryz.underlying3) Tryz.underlying103 _ w.heap.size ((allTakes (os.take k)).length + pre.length) _ rfl own1 (by omega) _ _ _ rfl rfl hkey _ [] (plainElem_int Tryz.underlying3 (wrap64_wf _)) ?_; intro w1 hown1 hgrow1))
        refine ⟨KeepsFrom.of_grownBy hgrow1 (fun j e => by cases e; omega), (Below.refl _ W).grown hgrow1 (by omega) (fun k e => by cases e; exact Nat.le_refl _), ⟨bS1.kept hgrow1 (fun e => by injection e with e; omega), ?_⟩, World.grownBy.andThen hg1 hgrow1 (fun j hj => .inr hj)⟩
        have e1 : allTakes (os.take k) ++ (pre ++ [x']).map Subtype.val = (allTakes (os.take k) ++ pre.map Subtype.val) ++ [x'.1] := by simp
        show mapK w1 w.heap.size _ _
        rw [e1, show (allTakes (os.take k)).length + (pre ++ [x']).length = (allTakes (os.take k)).length + pre.length + 1 by simp; omega]
        unfold mapK
        rw [tally_snoc, bump, hat]
        exact hown1
      case done =>
        rintro D zs W hD hzs ⟨⟨bS1, own1⟩, hg1⟩ hK
        have hsW := hg1.size
        have hlb : ∀ r, ({ target := .collected r, args := #[] } : Deferred) ∈ ds → r < W0.heap.size := fun r h => (Array.getElem?_eq_some_iff.1 (hM0.mem r h)).1
        have hM1 : Marks w.heap.size W ({ target := .collected D, args := #[] } :: ds) := ⟨⟨D, rfl, hK, by omega, fun d' hd' he => by have := hlb D (he ▸ hd'); omega⟩, hM0.keep (fun r hr h0 => by
          refine (hg1.block r (hlb r hr) (fun e => ?_)).trans h0
          injection e with e
          obtain ⟨es, ck, hh, _⟩ := own0
          rw [e, hh] at h0; cases h0)⟩
        have hBW : Below w.heap.size w W := hB1.grown hg1 (by omega) (fun k e => by cases e; exact Nat.le_refl _)
        have e1 := take_snoc hget
        have hown' : mapK W w.heap.size (allTakes (os.take (k + 1))).length (allTakes (os.take (k + 1))) := by
          rw [e1, ← hzs, List.length_append, List.length_map]; exact own1
        gi_wp2
        refine ⟨⟨k + 1, _, _, _, _, _, _, _, _, _, _, _, _, _, _, _, _, _, _, _, _, _, by omega, rfl, hM1, hown', bS1, hBW⟩, ?_⟩
        simp [intOf]; omega
      case stop =>
        rintro D c pre W _ _ h _
        exact h.elim
    · obtain rfl : k = os.length := by omega
      gi_wp2
      refine leaves_marks (v := .map (some w.heap.size)) (B := w.heap.size) (fun W => results_tmp (fn := Tryz.f50) (t := 2) rfl _ _ W) (fun W => mapK W w.heap.size (allTakes os).length (allTakes os) ∧ Below w.heap.size w W) ?_ (fun W hI => ⟨rfl, hI.1, hI.2⟩) ds W1 hM ⟨by simpa using hown, hB0⟩
      rintro W r ⟨hm, hb⟩ hBr hr
      refine ⟨World.ownsMap.kept hm (grownBy_putObj' W r _) (fun e => ?_), hb.trans (belowK_b (w := w) (Nat.le_refl _) W r _ _ hBr hr rfl rfl)⟩
      injection e with e
      obtain ⟨es, ck, hh, _⟩ := hm
      rw [e, hr] at hh; cases hh
theorem f50_any (B g : Nat) (ok : Nat → Prop) (os : List Ord) (w : World) (h : BookAt w B ok g os) (hk : ∀ t ∈ allTakes os, BoxOk t) (hlen : (allTakes os).length ≤ maxLen) :
    Calls Tryz.prog 50 #[.pointer (some ⟨g, 0, none⟩)] w fun e w' => e = .returned (.map (some w.heap.size)) ∧ mapK w' w.heap.size (allTakes os).length (allTakes os) ∧ Below w.heap.size w w' :=
  (callsIn_wide (n := 6)).1 (f50_in Fence.wide 6 trivial trivial trivial rfl (Nat.le_refl _) B g ok os w h hk hlen)
end Go.Proofs.YtcliaokoganbaaaGreatDoor
