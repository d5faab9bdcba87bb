/-
  Part 23 of the proof of the card: lemmas and walks, joined by mergeclaim.py out of the texts QB.
-/
import Derived.Test.YtcliaokoganbaaaGreatDoorM03
set_option linter.unusedVariables false
set_option linter.unusedSimpArgs false
namespace Go.Proofs.YtcliaokoganbaaaGreatDoor.Tq
open Go.Lib


/-! ### stock.Pick -/
def pickFrom : List Take → List Box → Option (List Box)
  | [], out => some out
  | t :: ts, out => if (boxAt out t.box.toNat).count < t.n then none else pickFrom ts (lower out t.box.toNat t.n)
def pick (boxes : List Box) (ts : List Take) : List Box × Int :=
  if ts.any (fun t => decide (t.box < 0) || decide ((boxes.length : Int) ≤ t.box)) then ([], 4)
  else if ts.any (fun t => decide (t.n < 1)) then ([], 1)
  else match pickFrom ts boxes with
    | none => ([], 22)
    | some out => (out, 0)

/-! ### Sums by body -/
theorem from_nil (k : Int) : fromTakes k [] = 0 := rfl
theorem from_cons (k : Int) (t : Take) (ts : List Take) : fromTakes k (t :: ts) = (if t.box = k then t.n else 0) + fromTakes k ts := by
  unfold fromTakes
  by_cases h : t.box = k
  · simp [h]
  · simp [h]
theorem from_append (k : Int) : ∀ (a b : List Take), fromTakes k (a ++ b) = fromTakes k a + fromTakes k b
  | [], b => by simp [from_nil]
  | t :: a, b => by rw [List.cons_append, from_cons, from_cons, from_append k a b]; omega
theorem from_nonneg (k : Int) : ∀ (a : List Take), (∀ t ∈ a, 0 ≤ t.n) → 0 ≤ fromTakes k a
  | [], _ => by simp [from_nil]
  | t :: a, h => by
    have := from_nonneg k a (fun x hx => h x (by simp [hx]))
    have := h t (by simp)
    rw [from_cons]; split <;> omega
theorem from_le_of_mem (k : Int) : ∀ (a : List Take), (∀ t ∈ a, 0 ≤ t.n) → ∀ t ∈ a, t.box = k → t.n ≤ fromTakes k a
  | [], _, t, ht, _ => by simp at ht
  | x :: a, h, t, ht, hk => by
    have h1 := from_nonneg k a (fun x hx => h x (by simp [hx]))
    have h2 := h x (by simp)
    rw [from_cons]
    rcases List.mem_cons.1 ht with rfl | ht
    · rw [if_pos hk]; omega
    · have := from_le_of_mem k a (fun x hx => h x (by simp [hx])) t ht hk
      split <;> omega
theorem from_zero_of_none (k : Int) : ∀ (a : List Take), (∀ t ∈ a, t.box ≠ k) → fromTakes k a = 0
  | [], _ => rfl
  | x :: a, h => by
    rw [from_cons, if_neg (h x (by simp)), from_zero_of_none k a (fun y hy => h y (by simp [hy]))]; rfl

def less (bs : List Box) (f : Nat → Int) : List Box := bs.mapIdx fun i b => { b with count := b.count - f i }
theorem less_length (bs : List Box) (f : Nat → Int) : (less bs f).length = bs.length := by simp [less]
theorem less_get (bs : List Box) (f : Nat → Int) (i : Nat) (h : i < bs.length) : boxAt (less bs f) i = { boxAt bs i with count := (boxAt bs i).count - f i } := by
  rw [boxAt_get (by rw [less_length]; exact h), boxAt_get h]; simp [less]
theorem less_congr (bs : List Box) (f g : Nat → Int) (h : ∀ i, i < bs.length → f i = g i) : less bs f = less bs g := by
  apply List.ext_getElem
  · simp [less]
  · intro i h1 h2
    have := h i (by simpa [less] using h1)
    simp [less, this]
theorem less_zero (bs : List Box) : less bs (fun _ => 0) = bs := by
  apply List.ext_getElem
  · simp [less]
  · intro i h1 h2; simp [less]
theorem lower_eq_less (bs : List Box) (i : Nat) (n : Int) : lower bs i n = less bs (fun k => if k = i then n else 0) := by
  apply List.ext_getElem
  · simp [less, lower]
  · intro k h1 h2
    simp only [lower, less, List.getElem_modify, List.getElem_mapIdx]
    by_cases h : i = k
    · subst h; simp
    · have h' : ¬ k = i := fun e => h e.symm
      simp [h, h']
theorem less_less (bs : List Box) (f g : Nat → Int) : less (less bs f) g = less bs (fun k => f k + g k) := by
  apply List.ext_getElem
  · simp [less]
  · intro k h1 h2
    simp only [less, List.getElem_mapIdx]
    congr 1; omega

theorem takeAll_left : ∀ (is : List Nat) (need : Int) (left : List Box), (takeAll is need left).2.2 = less left (fun k => fromTakes k (takeAll is need left).1)
  | [], need, left => by
    simp only [takeAll, from_nil]; exact (less_zero left).symm
  | i :: is, need, left => by
    simp only [takeAll]
    by_cases hz : min need (boxAt left i).count = 0
    · rw [if_pos hz]; simp only [from_nil]; exact (less_zero left).symm
    · rw [if_neg hz]
      generalize min need (boxAt left i).count = m
      simp only
      rw [takeAll_left is (need - m) (lower left i m)]
      generalize (takeAll is (need - m) (lower left i m)).1 = ts
      rw [lower_eq_less, less_less]
      refine less_congr _ _ _ (fun k _ => ?_)
      rw [from_cons]
      by_cases h : k = i
      · subst h; simp
      · rw [if_neg h, if_neg (fun e => h (by simp at e; omega))]

theorem takeAll_order : ∀ (is : List Nat) (need : Int) (left : List Box), ∀ t ∈ (takeAll is need left).1, ∃ i ∈ is, t.box = (i : Int)
  | [], need, left, t, ht => by simp [takeAll] at ht
  | i :: is, need, left, t, ht => by
    simp only [takeAll] at ht
    split at ht
    · simp at ht
    · simp only at ht
      rcases List.mem_cons.1 ht with rfl | ht
      · exact ⟨i, by simp, rfl⟩
      · obtain ⟨j, hj, e⟩ := takeAll_order is _ _ t ht
        exact ⟨j, by simp [hj], e⟩

theorem fitsBox_less (lots : List Lot) (bs : List Box) (f : Nat → Int) (w : Want) (i : Nat) (h : i < bs.length) : fitsBox lots (boxAt (less bs f) i) w = fitsBox lots (boxAt bs i) w := by
  rw [less_get bs f i h]; rfl
theorem order_fits {lots : List Lot} {boxes : List Box} {w : Want} {i : Nat} (h : i ∈ order lots boxes w) : fitsBox lots (boxAt boxes i) w = true := by
  unfold order at h; rw [isort_mem] at h
  simp [cands] at h; exact h.2.2

/-- Each take is of a box that fits its want. -/
def AllFit (lots : List Lot) (boxes : List Box) : List Want → List (List Take) → Prop
  | [], [] => True
  | w :: ws, l :: ls => (∀ t ∈ l, 0 ≤ t.box ∧ t.box < boxes.length ∧ fitsBox lots (boxAt boxes t.box.toNat) w = true) ∧ AllFit lots boxes ws ls
  | _, _ => False
theorem AllFit.of_less {lots : List Lot} {boxes : List Box} {f : Nat → Int} : ∀ {ws : List Want} {ls : List (List Take)}, AllFit lots (less boxes f) ws ls → AllFit lots boxes ws ls
  | [], [], _ => trivial
  | [], _ :: _, h => h.elim
  | _ :: _, [], h => h.elim
  | w :: ws, l :: ls, ⟨h1, h2⟩ => by
    refine ⟨fun t ht => ?_, AllFit.of_less h2⟩
    obtain ⟨a, b, c⟩ := h1 t ht
    rw [less_length] at b
    rw [fitsBox_less lots boxes f w _ (by omega)] at c
    exact ⟨a, b, c⟩

theorem planFrom_less (lots : List Lot) : ∀ (ws : List Want) (left : List Box) (ts : List (List Take)), (∀ w ∈ ws, rightWant w = true) → GoodBoxes left → planFrom lots ws left = some ts →
    GoodBoxes (less left (fun k => fromTakes k ts.flatten)) ∧ (∀ t ∈ ts.flatten, 0 ≤ t.box ∧ t.box < left.length ∧ 1 ≤ t.n) ∧ AllFit lots left ws ts
  | [], left, ts, _, hg, h => by
    simp only [planFrom, Option.some.injEq] at h; subst h
    simp only [List.flatten_nil, from_nil, less_zero]
    exact ⟨hg, by simp, trivial⟩
  | w :: ws, left, ts, hw, hg, h => by
    have hb := rightWant_bounds (hw w (by simp))
    obtain ⟨a1, a2, a3, a4, a5⟩ := takeAll_good (order lots left w) w.count left (by omega) hg (fun i hi => order_lt hi)
    have hl := takeAll_left (order lots left w) w.count left
    have ho := takeAll_order (order lots left w) w.count left
    simp only [planFrom] at h
    split at h
    · cases h
    · obtain ⟨ts', h', rfl⟩ := Option.map_eq_some_iff.1 h
      obtain ⟨b1, b2, b3⟩ := planFrom_less lots ws _ ts' (fun x hx => hw x (by simp [hx])) a4 h'
      rw [hl] at b1 b2 b3
      generalize (takeAll (order lots left w) w.count left).1 = r at *
      rw [less_less] at b1
      rw [less_length] at b2
      refine ⟨?_, fun t ht => ?_, fun t ht => ?_, b3.of_less⟩
      · have e : (fun k : Nat => fromTakes k (r :: ts').flatten) = (fun k : Nat => fromTakes k r + fromTakes k ts'.flatten) := by
          funext k; rw [List.flatten_cons, from_append]
        rw [e]; exact b1
      · rw [List.flatten_cons, List.mem_append] at ht
        rcases ht with ht | ht
        · have := a1 t ht; exact ⟨this.1, this.2.1, this.2.2.1⟩
        · exact b2 t ht
      · have := a1 t ht
        obtain ⟨i, hi, e⟩ := ho t ht
        refine ⟨this.1, this.2.1, ?_⟩
        rw [e]; exact order_fits hi

theorem pickFrom_ok : ∀ (ts : List Take) (bs : List Box), (∀ t ∈ ts, 0 ≤ t.box ∧ t.box < bs.length ∧ 1 ≤ t.n) → GoodBoxes (less bs (fun k => fromTakes k ts)) →
    pickFrom ts bs = some (less bs (fun k => fromTakes k ts))
  | [], bs, _, _ => by simp only [pickFrom, from_nil, less_zero]
  | t :: ts, bs, h, hg => by
    have ht := h t (by simp)
    have hnn : ∀ x ∈ ts, 0 ≤ x.n := fun x hx => by have := (h x (by simp [hx])).2.2; omega
    have hlt : t.box.toNat < bs.length := by omega
    have hc := hg.2 _ (boxAt_mem (i := t.box.toNat) (by rw [less_length]; exact hlt))
    rw [less_get _ _ _ hlt] at hc
    simp only [Int.toNat_of_nonneg ht.1] at hc
    rw [from_cons, if_pos rfl] at hc
    have := from_nonneg t.box ts hnn
    have e : less bs (fun k => fromTakes k (t :: ts)) = less (lower bs t.box.toNat t.n) (fun k => fromTakes k ts) := by
      rw [lower_eq_less, less_less]
      refine less_congr _ _ _ (fun k _ => ?_)
      simp only [from_cons]
      by_cases h : k = t.box.toNat
      · rw [if_pos (by omega), if_pos h]
      · rw [if_neg (by omega), if_neg h]
    simp only [pickFrom]
    rw [if_neg (by omega), e]
    refine pickFrom_ok ts _ (fun x hx => by rw [lower_length]; exact h x (by simp [hx])) ?_
    rw [← e]; exact hg

/-! ### What is spare -/
theorem reserved_append (os : List Ord) (o : Ord) (k : Int) : reserved (os ++ [o]) k = reserved os k + fromOrd o k := by
  unfold reserved
  induction os with
  | nil => simp
  | cons x os ih => simp only [List.cons_append, List.foldr_cons, ih]; omega
theorem isTaken_append (os : List Ord) (o : Ord) (k : Int) : isTaken (os ++ [o]) k = (isTaken os k || isTaken [o] k) := by simp [isTaken]
theorem takes_nonneg {o : Ord} (h : OrdInv o) : ∀ t ∈ o.takes.flatten, 0 ≤ t.box ∧ t.box < 3000 ∧ 1 ≤ t.n ∧ t.n ≤ 20000 := by
  intro t ht
  by_cases hs : o.state = 1
  · have := (h.some_ hs).1
    revert ht this
    generalize o.takes = ls
    generalize o.wants = ws
    intro ht this
    induction ls generalizing ws with
    | nil => simp at ht
    | cons l ls ih =>
      cases ws with
      | nil => exact this.elim
      | cons w ws =>
        rw [List.flatten_cons, List.mem_append] at ht
        rcases ht with ht | ht
        · exact this.1.1 t ht
        · exact ih ws ht this.2
  · rw [h.none_ hs] at ht; simp at ht
theorem reserved_nonneg {os : List Ord} (h : ∀ o ∈ os, OrdInv o) (k : Int) : 0 ≤ reserved os k := by
  unfold reserved
  induction os with
  | nil => simp
  | cons x os ih =>
    simp only [List.foldr_cons]
    have h1 := ih (fun o ho => h o (by simp [ho]))
    have h2 : 0 ≤ fromOrd x k := from_nonneg k _ (fun t ht => by have := (takes_nonneg (h x (by simp)) t ht).2.2; omega)
    omega
theorem from_pos_taken (k : Int) : ∀ (a : List Take), a.any (fun t => decide (t.box = k)) = false → fromTakes k a = 0 := by
  intro a h
  refine from_zero_of_none k a (fun t ht => ?_)
  simp only [List.any_eq_false, decide_eq_true_eq] at h
  exact h t ht
theorem reserved_zero {os : List Ord} {k : Int} (h : isTaken os k = false) : reserved os k = 0 := by
  unfold reserved
  induction os with
  | nil => rfl
  | cons x os ih =>
    simp only [isTaken, List.any_cons, Bool.or_eq_false_iff] at h
    simp only [List.foldr_cons]
    rw [ih h.2]
    have := from_pos_taken k _ h.1
    unfold fromOrd; omega

/-- What an order that is promised last takes is what is spare less. -/
theorem spare_promised (os : List Ord) (h : ∀ o ∈ os, OrdInv o) (o : Ord) (sure : List Box) (ht : ∀ t ∈ o.takes.flatten, 1 ≤ t.n)
    (hg : GoodBoxes (less (spare os sure) (fun k => fromTakes k o.takes.flatten))) :
    spare (os ++ [o]) sure = less (spare os sure) (fun k => fromTakes k o.takes.flatten) := by
  apply List.ext_getElem
  · simp [spare, less]
  · intro k h1 h2
    have hk : k < sure.length := by simpa [spare] using h1
    have hpos := hg.2 _ (List.getElem_mem h2)
    revert hpos
    simp only [spare, less, List.getElem_mapIdx, spareAt, isTaken_append, reserved_append]
    have hR := reserved_nonneg h k
    have hf : 0 ≤ fromTakes k o.takes.flatten := from_nonneg _ _ (fun t ht' => by have := ht t ht'; omega)
    have e1 : fromOrd o k = fromTakes k o.takes.flatten := rfl
    rw [e1]
    have e2 : isTaken [o] k = o.takes.flatten.any (fun t => decide (t.box = (k : Int))) := by simp [isTaken]
    rw [e2]
    by_cases hb : isTaken os k = true
    · simp only [hb, Bool.true_or, if_true]
      intro hpos
      congr 1; omega
    · have hb' : isTaken os k = false := by simpa using hb
      have hz := reserved_zero hb'
      simp only [hb', Bool.false_or, hz, Bool.false_eq_true, if_false]
      intro hpos
      cases hc : o.takes.flatten.any (fun t => decide (t.box = (k : Int))) with
      | true => simp only [if_true]; congr 1; omega
      | false =>
        have := from_pos_taken k _ hc
        simp [this]

theorem spare_empty (os : List Ord) (o : Ord) (sure : List Box) (ht : o.takes = []) : spare (os ++ [o]) sure = spare os sure := by
  unfold spare
  congr 1; funext i b
  simp [spareAt, reserved_append, isTaken, fromOrd, ht, from_nil]

theorem stateAt_last (os : List Ord) (o : Ord) : stateAt (os ++ [o]) os.length = some o := by
  unfold stateAt
  rw [if_pos (by simp; omega)]
  simp [List.getD_eq_getElem?_getD]
theorem setOrd_last (os : List Ord) (o x : Ord) : setOrd (os ++ [o]) os.length x = os ++ [x] := by
  simp [setOrd]

/-- An order that has just been asked for: whether it can be promised, with which takes, what is spare then, and when it is withdrawn. -/
theorem spare_law (lots : List Lot) (sure : List Box) (hs : GoodBoxes sure) (os : List Ord) (h : BookInv os) (ws : List Want) (due : Int) (hr : rightWants ws due = true) :
    let bk := os ++ [(⟨ws, due, 0, []⟩ : Ord)]
    let no : Int := os.length
    let pl := plan lots (spare bk sure) ws
    (promise bk no lots sure).1 = pl.2 ∧ (pl.2 ≠ 0 → (promise bk no lots sure).2 = bk) ∧
    (pl.2 = 0 → (promise bk no lots sure).2 = os ++ [⟨ws, due, 1, pl.1⟩] ∧ pick (spare bk sure) pl.1.flatten = (spare (os ++ [⟨ws, due, 1, pl.1⟩]) sure, 0) ∧
      withdraw (os ++ [⟨ws, due, 1, pl.1⟩]) no = (0, os ++ [⟨ws, due, 4, []⟩]) ∧ spare (os ++ [⟨ws, due, 4, []⟩]) sure = spare bk sure ∧
      withdraw (os ++ [⟨ws, due, 4, []⟩]) no = (7, os ++ [⟨ws, due, 4, []⟩])) := by
  have hrb := rightWants_bounds hr
  simp only
  rw [spare_empty os _ sure rfl]
  generalize hpl : plan lots (spare os sure) ws = pl
  have hp : promise (os ++ [(⟨ws, due, 0, []⟩ : Ord)]) os.length lots sure = if pl.2 ≠ 0 then (pl.2, os ++ [⟨ws, due, 0, []⟩]) else (0, os ++ [⟨ws, due, 1, pl.1⟩]) := by
    unfold promise
    rw [stateAt_last]
    simp only [ne_eq, not_true_eq_false, if_false, spare_empty os ⟨ws, due, 0, []⟩ sure rfl, hpl, setOrd_last]
  rw [hp]
  refine ⟨by split <;> simp_all, fun he => by rw [if_pos he], fun he => ?_⟩
  have hpf : planFrom lots ws (spare os sure) = some pl.1 := by
    unfold plan at hpl
    split at hpl
    · rw [← hpl] at he; simp at he
    · split at hpl
      · rw [← hpl] at he; simp at he
      · rename_i t ht; rw [ht, ← hpl]
  obtain ⟨g1, g2, g3⟩ := planFrom_less lots ws _ _ hrb.2.2.2.2 (spare_good hs) hpf
  have hsp := spare_promised os h.all ⟨ws, due, 1, pl.1⟩ sure (fun t ht => (g2 t ht).2.2) g1
  refine ⟨by rw [if_neg (by simp [he])], ?_, ?_, spare_empty os _ sure rfl, ?_⟩
  · unfold pick
    rw [if_neg, if_neg, pickFrom_ok _ _ g2 g1]
    · rw [hsp]
    · simp only [List.any_eq_true, decide_eq_true_eq, not_exists, not_and]
      intro t ht; have := (g2 t ht).2.2; omega
    · simp only [List.any_eq_true, Bool.or_eq_true, decide_eq_true_eq, not_exists, not_and]
      intro t ht; have := g2 t ht; omega
  · unfold withdraw endOrd
    rw [stateAt_last]
    simp [setOrd_last]
  · unfold withdraw endOrd
    rw [stateAt_last]
    simp

end Go.Proofs.YtcliaokoganbaaaGreatDoor.Tq
