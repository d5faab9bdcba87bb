/-
  Part 3 of the proof of the card: lemmas and walks, joined by mergeclaim.py out of the texts QA.
-/
import Derived.Lib.ItoaNum
import Derived.Lib.ItoaLen
import Derived.Lib.ItoaMem
import Derived.Lib.AtoiAll
set_option linter.unusedVariables false
set_option linter.unusedSimpArgs false
namespace Go.Proofs.YtcliaokoganbaaaGreatDoor.Tq
open Go.Lib


theorem dec_range : ∀ (u : Nat), ∀ c ∈ decDigits u, 48 ≤ c.toNat ∧ c.toNat ≤ 57 := by
  intro u
  induction u using Nat.strongRecOn with
  | _ u ih =>
    intro c hc
    rw [decDigits] at hc
    split at hc
    · simp at hc; subst hc; simp [UInt8.toNat_ofNat']; omega
    · rw [List.mem_append] at hc
      rcases hc with hc | hc
      · exact ih (u / 10) (by omega) c hc
      · simp at hc; subst hc; simp [UInt8.toNat_ofNat']; omega

theorem dec_ne_nil (u : Nat) : decDigits u ≠ [] := by
  rw [decDigits]; split <;> simp

theorem parse_append : ∀ (l r : List UInt8) (acc a : Nat), parseUint10 acc l = .ok a → parseUint10 acc (l ++ r) = parseUint10 a r
  | [], r, acc, a, h => by simp only [parseUint10] at h; injection h with h; subst h; rfl
  | c :: l, r, acc, a, h => by
    simp only [parseUint10, List.cons_append] at h ⊢
    split at h
    · rename_i h1
      rw [if_pos h1]
      split at h
      · cases h
      · rename_i h2
        rw [if_neg h2]
        split at h
        · cases h
        · rename_i h3
          rw [if_neg h3]
          exact parse_append l r _ a h
    · cases h

theorem parse_dec : ∀ (u : Nat), u < 18446744073709551616 → parseUint10 0 (decDigits u) = .ok u := by
  intro u
  induction u using Nat.strongRecOn with
  | _ u ih =>
    intro hu
    rw [decDigits]
    split
    · rename_i h
      have e : (UInt8.ofNat (48 + u)).toNat = 48 + u := by simp [UInt8.toNat_ofNat']; omega
      simp only [parseUint10, e]
      rw [if_pos (by omega), if_neg (by omega), if_neg (by omega)]
      congr 1; omega
    · rename_i h
      rw [parse_append _ _ _ _ (ih (u / 10) (by omega) (by omega))]
      have e : (UInt8.ofNat (48 + u % 10)).toNat = 48 + u % 10 := by simp [UInt8.toNat_ofNat']; omega
      simp only [parseUint10, e]
      rw [if_pos (by omega), if_neg (by omega), if_neg (by omega)]
      congr 1; omega

theorem atoi_itoa (n : Int) (h0 : -9223372036854775808 ≤ n) (h1 : n ≤ 9223372036854775807) : atoiAll (itoa n) = .ok n := by
  unfold itoa
  split
  · rename_i hn
    simp only [atoiAll, parseMag]
    have e : (45 : UInt8).toNat = 45 := rfl
    rw [e]
    simp only [or_true, if_true, dec_ne_nil, if_false]
    rw [parse_dec _ (by omega)]
    simp only [not_true_eq_false, false_and, if_false, true_and]
    rw [if_neg (by omega)]
    congr 1; omega
  · rename_i hn
    have hr := dec_range n.toNat
    have hp := parse_dec n.toNat (by omega)
    revert hr hp
    generalize hl : decDigits n.toNat = l
    intro hr hp
    cases l with
    | nil => exact absurd hl (dec_ne_nil _)
    | cons c r =>
      have hc := hr c (by simp)
      simp only [atoiAll, parseMag]
      have e : ¬ (c.toNat = 45) := by omega
      have e2 : ¬ (c.toNat = 43) := by omega
      simp only [e, e2, or_self, if_false, reduceCtorEq, hp, not_false_eq_true, true_and, false_and]
      rw [if_neg (by omega)]
      congr 1; omega

theorem dec_length_le (u : Nat) (h : u < 10000000000000000000) : (decDigits u).length ≤ 19 := by
  rw [decDigits_length]
  by_cases hu : u < 10
  · rw [nDigits_small hu]; omega
  · have h1 := nDigits_pos u
    by_cases h19 : nDigits u ≤ 19
    · exact h19
    · exfalso
      have key : ∀ (k u : Nat), k + 1 ≤ nDigits u → 1 ≤ k → 10 ^ k ≤ u := by
        intro k
        induction k with
        | zero => intro u _ h; omega
        | succ k ih =>
          intro u hk _
          have hb : ¬ u < 10 := fun hb => by rw [nDigits_small hb] at hk; omega
          rw [nDigits_big hb] at hk
          rcases Nat.eq_zero_or_pos k with rfl | hkp
          · simp; omega
          · have := ih (u / 10) (by omega) hkp
            rw [Nat.pow_succ]; omega
      have := key 19 u (by omega) (by omega)
      omega

theorem itoa_len20 (n : Int) (h0 : -9223372036854775808 ≤ n) (h1 : n ≤ 9223372036854775807) : (itoa n).length ≤ 20 := by
  unfold itoa
  split
  · have := dec_length_le n.natAbs (by omega); simp; omega
  · have := dec_length_le n.toNat (by omega); omega

theorem itoa_byte (n : Int) : ∀ c ∈ itoa n, c = 45 ∨ (48 ≤ c.toNat ∧ c.toNat ≤ 57) := by
  intro c hc
  unfold itoa at hc
  split at hc
  · rcases List.mem_cons.1 hc with rfl | hc
    · exact .inl rfl
    · exact .inr (dec_range _ c hc)
  · exact .inr (dec_range _ c hc)

/-- The state of a reader: what is left, and whether it has failed. -/
structure Rd where
  rest : List UInt8
  bad : Bool
  deriving Repr, DecidableEq

/-- wire.Int -/
def enc (n : Int) : List UInt8 := itoa n ++ [59]

/-- (*wire.Reader).number -/
def number (r : Rd) (stop : UInt8) (least : Int) : Int × Rd :=
  let head := r.rest.take 21
  match head.idxOf? stop with
  | none => (0, ⟨[], true⟩)
  | some k =>
    match atoiAll (head.take k) with
    | .ok n => if itoa n ≠ head.take k ∨ n < least then (0, ⟨[], true⟩) else (n, ⟨r.rest.drop (k + 1), r.bad⟩)
    | _ => (0, ⟨[], true⟩)

theorem idxOf?_append_of_not_mem {l r : List UInt8} {c : UInt8} (h : c ∉ l) : (l ++ c :: r).idxOf? c = some l.length := by
  induction l with
  | nil => simp [List.idxOf?, List.findIdx?_cons]
  | cons x l ih =>
    have h1 : c ≠ x := fun e => h (by simp [e])
    have h2 : c ∉ l := fun e => h (by simp [e])
    have := ih h2
    simp only [List.idxOf?, List.cons_append, List.findIdx?_cons] at this ⊢
    have e : (x == c) = false := by simp; exact fun e => h1 e.symm
    rw [e, this]; simp

theorem number_enc (n : Int) (tail : List UInt8) (bad : Bool) (least : Int) (h0 : -9223372036854775808 ≤ n) (h1 : n ≤ 9223372036854775807) (hl : least ≤ n) :
    number ⟨enc n ++ tail, bad⟩ 59 least = (n, ⟨tail, bad⟩) := by
  have hlen := itoa_len20 n h0 h1
  have hmem : (59 : UInt8) ∉ itoa n := fun h => by
    rcases itoa_byte n 59 h with h | h
    · exact absurd h (by decide)
    · have : (59 : UInt8).toNat = 59 := rfl
      omega
  have e1 : (enc n ++ tail).take 21 = itoa n ++ 59 :: (tail.take (20 - (itoa n).length)) := by
    unfold enc
    rw [List.append_assoc, List.take_append, List.take_of_length_le (by omega)]
    congr 1
    obtain ⟨m, hm⟩ : ∃ m, 21 - (itoa n).length = m + 1 := ⟨20 - (itoa n).length, by omega⟩
    rw [hm]
    simp
    congr 1; omega
  unfold number
  simp only [e1]
  rw [idxOf?_append_of_not_mem hmem]
  simp only [List.take_left, atoi_itoa n h0 h1]
  rw [if_neg (by simp; omega)]
  unfold enc
  congr 2
  simp



structure Lot where
  kind : Int
  expiry : Int
  frozen : Bool
  deriving DecidableEq, Repr, Inhabited
structure Box where
  lot : Int
  count : Int
  tare : Int
  deriving DecidableEq, Repr, Inhabited
structure Want where
  kind : Int
  count : Int
  til : Int
  deriving DecidableEq, Repr, Inhabited
structure Take where
  box : Int
  n : Int
  deriving DecidableEq, Repr, Inhabited
structure Ord where
  wants : List Want
  due : Int
  state : Int
  takes : List (List Take)
  deriving DecidableEq, Repr, Inhabited
structure Op where
  act : Int
  no : Int
  body : Int
  n : Int
  tick : Int
  wants : List Want
  deriving DecidableEq, Repr, Inhabited

/-! ### Plan -/
def rightWant (w : Want) : Bool := decide (0 ≤ w.kind) && decide (1 ≤ w.count) && decide (w.count ≤ 20000) && decide (0 ≤ w.til) && decide (w.til ≤ 20000)
def rightWants (ws : List Want) (due : Int) : Bool :=
  decide (1 ≤ ws.length) && decide (ws.length ≤ 20) && decide (0 ≤ due) && decide (due ≤ 20000) && ws.all rightWant
def fitsLot (l : Lot) (w : Want) : Bool := decide (l.kind = w.kind) && !l.frozen && decide (w.til ≤ l.expiry)
def lotAt (lots : List Lot) (i : Int) : Lot := lots.getD i.toNat default
def fitsBox (lots : List Lot) (b : Box) (w : Want) : Bool := decide (0 ≤ b.lot) && fitsLot (lotAt lots b.lot) w
def boxAt (boxes : List Box) (i : Nat) : Box := boxes.getD i default
def expAt (lots : List Lot) (boxes : List Box) (i : Nat) : Int := (lotAt lots (boxAt boxes i).lot).expiry

/-- One element is moved into its place from the right: the row before it, turned round. -/
def insR (key : Nat → Int) (x : Nat) : List Nat → List Nat
  | [] => [x]
  | y :: ys => if key x < key y then y :: insR key x ys else x :: y :: ys
/-- Insertion sort; the result turned round. -/
def isortR (key : Nat → Int) : List Nat → List Nat → List Nat
  | acc, [] => acc
  | acc, x :: xs => isortR key (insR key x acc) xs
def isort (key : Nat → Int) (l : List Nat) : List Nat := (isortR key [] l).reverse

def cands (lots : List Lot) (boxes : List Box) (w : Want) : List Nat :=
  (List.range boxes.length).filter fun i => decide (0 < (boxAt boxes i).count) && fitsBox lots (boxAt boxes i) w
def order (lots : List Lot) (boxes : List Box) (w : Want) : List Nat := isort (expAt lots boxes) (cands lots boxes w)

def lower (boxes : List Box) (i : Nat) (n : Int) : List Box := boxes.modify i fun b => { b with count := b.count - n }

/-- The boxes in order: takes, what is still needed, what is left. -/
def takeAll : List Nat → Int → List Box → List Take × Int × List Box
  | [], need, left => ([], need, left)
  | i :: is, need, left =>
    let n := min need (boxAt left i).count
    if n = 0 then ([], need, left) else
    let r := takeAll is (need - n) (lower left i n)
    (⟨i, n⟩ :: r.1, r.2)

def planFrom (lots : List Lot) : List Want → List Box → Option (List (List Take))
  | [], _ => some []
  | w :: ws, left =>
    let r := takeAll (order lots left w) w.count left
    if 0 < r.2.1 then none else (planFrom lots ws r.2.2).map (r.1 :: ·)

/-- stock.Plan: 1: ErrArg; 22: ErrStock. -/
def plan (lots : List Lot) (boxes : List Box) (ws : List Want) : List (List Take) × Int :=
  if ws.any (fun w => !rightWant w) then ([], 1)
  else match planFrom lots ws boxes with
    | none => ([], 22)
    | some t => (t, 0)

/-! ### The book -/
def fromTakes (body : Int) (ts : List Take) : Int := (ts.filter (fun t => decide (t.box = body))).foldr (fun t n => t.n + n) 0
def fromOrd (o : Ord) (body : Int) : Int := fromTakes body o.takes.flatten
def reserved (os : List Ord) (body : Int) : Int := os.foldr (fun o n => fromOrd o body + n) 0
def isTaken (os : List Ord) (body : Int) : Bool := os.any fun o => o.takes.flatten.any fun t => decide (t.box = body)
def spareAt (os : List Ord) (i : Nat) (b : Box) : Box := if isTaken os i then { b with count := max 0 (b.count - reserved os i) } else b
def spare (os : List Ord) (sure : List Box) : List Box := sure.mapIdx fun i b => spareAt os i b

def stateAt (os : List Ord) (no : Int) : Option Ord := if 0 ≤ no ∧ no < os.length then some (os.getD no.toNat default) else none

def ask (os : List Ord) (ws : List Want) (due : Int) : Int × Int × List Ord :=
  if !rightWants ws due then (0, 1, os)
  else if 1000 ≤ os.length then (0, 6, os)
  else (os.length, 0, os ++ [⟨ws, due, 0, []⟩])

def setOrd (os : List Ord) (no : Int) (o : Ord) : List Ord := os.set no.toNat o

def promise (os : List Ord) (no : Int) (lots : List Lot) (sure : List Box) : Int × List Ord :=
  match stateAt os no with
  | none => (4, os)
  | some o =>
    if o.state ≠ 0 then (7, os) else
    let r := plan lots (spare os sure) o.wants
    if r.2 ≠ 0 then (r.2, os) else (0, setOrd os no { o with state := 1, takes := r.1 })

/-- The takes of a want become less by n of a body: what is left of them, and of n. -/
def serveTakes (body : Int) : Int → List Take → List Take × Int
  | n, [] => ([], n)
  | n, t :: ts =>
    if t.box = body then
      let k := min n t.n
      let r := serveTakes body (n - k) ts
      (⟨t.box, t.n - k⟩ :: r.1, r.2)
    else
      let r := serveTakes body n ts
      (t :: r.1, r.2)
def serveAll (body : Int) : Int → List (List Take) → List (List Take)
  | _, [] => []
  | n, l :: ls => let r := serveTakes body n l; r.1.filter (fun t => decide (t.n ≠ 0)) :: serveAll body r.2 ls

def serve (os : List Ord) (no body n tick : Int) : Int × List Ord :=
  match stateAt os no with
  | none => (4, os)
  | some o =>
    if o.state ≠ 1 then (7, os)
    else if n < 1 then (1, os)
    else if fromOrd o body < n then (22, os)
    else
      let ts := serveAll body n o.takes
      (0, setOrd os no (if ts.any (fun l => !l.isEmpty) then { o with takes := ts } else { o with takes := [], state := if tick ≤ o.due then 2 else 3 }))

def endOrd (os : List Ord) (no : Int) (st : Int) (from_ : List Int) : Int × List Ord :=
  match stateAt os no with
  | none => (4, os)
  | some o => if from_.contains o.state then (0, setOrd os no { o with state := st, takes := [] }) else (7, os)
def withdraw (os : List Ord) (no : Int) : Int × List Ord := endOrd os no 4 [0, 1]
def giveUp (os : List Ord) (no : Int) : Int × List Ord := endOrd os no 3 [1]

/-! ### The encoding -/
def encWant (w : Want) : List UInt8 := enc w.kind ++ enc w.count ++ enc w.til
def encTake (t : Take) : List UInt8 := enc t.box ++ enc t.n
def encTakes (l : List Take) : List UInt8 := enc l.length ++ l.flatMap encTake
def encOrd (o : Ord) : List UInt8 := enc o.wants.length ++ o.wants.flatMap encWant ++ enc o.due ++ enc o.state ++ o.takes.flatMap encTakes
def encBook (os : List Ord) : List UInt8 := enc os.length ++ os.flatMap encOrd

def minI : Int := -9223372036854775808
def rInt (r : Rd) : Int × Rd := number r 59 minI
def rNum (r : Rd) : Int × Rd := number r 59 0

def readWants : Nat → Rd → List Want × Rd
  | 0, r => ([], r)
  | k + 1, r =>
    if r.rest = [] then ([], r) else
    let a := rInt r; let b := rInt a.2; let c := rInt b.2
    let x := readWants k c.2
    (⟨a.1, b.1, c.1⟩ :: x.1, x.2)

/-- none: a take is wrong. -/
def readTakes : Nat → Rd → Option (List Take) × Rd
  | 0, r => (some [], r)
  | k + 1, r =>
    if r.rest = [] then (some [], r) else
    let a := rInt r; let b := rInt a.2
    if a.1 < 0 ∨ 3000 ≤ a.1 ∨ b.1 < 1 ∨ 20000 < b.1 then (none, b.2) else
    let x := readTakes k b.2
    (x.1.map (⟨a.1, b.1⟩ :: ·), x.2)

def units (l : List Take) : Int := l.foldr (fun t n => t.n + n) 0

def readAll : List Want → Rd → Option (List (List Take)) × Rd
  | [], r => (some [], r)
  | w :: ws, r =>
    let k := rNum r
    match readTakes k.1.toNat k.2 with
    | (none, r2) => (none, r2)
    | (some l, r2) =>
      if w.count < units l then (none, r2) else
      let x := readAll ws r2
      (x.1.map (l :: ·), x.2)

def readOrd (r : Rd) : Option Ord × Rd :=
  let k := rNum r
  let ws := readWants k.1.toNat k.2
  let d := rInt ws.2
  let s := rInt d.2
  if !rightWants ws.1 d.1 ∨ s.1 < 0 ∨ 5 ≤ s.1 then (none, s.2)
  else if s.1 ≠ 1 then (some ⟨ws.1, d.1, s.1, []⟩, s.2)
  else
    let t := readAll ws.1 s.2
    match t.1 with
    | none => (none, t.2)
    | some l => if l.any (fun x => !x.isEmpty) then (some ⟨ws.1, d.1, s.1, l⟩, t.2) else (none, t.2)

def readOrds : Nat → Nat → Rd → Option (List Ord) × Rd
  | 0, _, r => (some [], r)
  | k + 1, m, r =>
    if r.rest = [] then (some [], r) else
    match readOrd r with
    | (none, r2) => (none, r2)
    | (some o, r2) =>
      if 1000 ≤ m then (none, r2) else
      let x := readOrds k (m + 1) r2
      (x.1.map (o :: ·), x.2)

def readBook (s : List UInt8) : Option (List Ord) :=
  let k := rNum ⟨s, false⟩
  match readOrds k.1.toNat 0 k.2 with
  | (none, _) => none
  | (some os, r) => if r.bad ∨ r.rest ≠ [] ∨ encBook os ≠ s then none else some os

/-! ### What is right of a book -/
def TakesInv (l : List Take) (c : Int) : Prop := (∀ t ∈ l, 0 ≤ t.box ∧ t.box < 3000 ∧ 1 ≤ t.n ∧ t.n ≤ 20000) ∧ units l ≤ c ∧ l.length ≤ 20000
def AllInv : List Want → List (List Take) → Prop
  | [], [] => True
  | w :: ws, l :: ls => TakesInv l w.count ∧ AllInv ws ls
  | _, _ => False
structure OrdInv (o : Ord) : Prop where
  right : rightWants o.wants o.due = true
  s0 : 0 ≤ o.state
  s5 : o.state < 5
  none_ : o.state ≠ 1 → o.takes = []
  some_ : o.state = 1 → AllInv o.wants o.takes ∧ o.takes.any (fun x => !x.isEmpty) = true
structure BookInv (os : List Ord) : Prop where
  all : ∀ o ∈ os, OrdInv o
  len : os.length ≤ 1000

/-! ### Read of Bytes -/
theorem rInt_enc (n : Int) (t : List UInt8) (b : Bool) (h0 : -9223372036854775808 ≤ n) (h1 : n ≤ 9223372036854775807) : rInt ⟨enc n ++ t, b⟩ = (n, ⟨t, b⟩) :=
  number_enc n t b minI h0 h1 h0
theorem rNum_enc (n : Int) (t : List UInt8) (b : Bool) (h0 : 0 ≤ n) (h1 : n ≤ 9223372036854775807) : rNum ⟨enc n ++ t, b⟩ = (n, ⟨t, b⟩) :=
  number_enc n t b 0 (by omega) h1 h0
theorem enc_ne (n : Int) (t : List UInt8) : enc n ++ t ≠ [] := by simp [enc]

theorem rightWant_bounds {w : Want} (h : rightWant w = true) : 0 ≤ w.kind ∧ 1 ≤ w.count ∧ w.count ≤ 20000 ∧ 0 ≤ w.til ∧ w.til ≤ 20000 := by
  simp only [rightWant, Bool.and_eq_true, decide_eq_true_eq] at h; omega

theorem readWants_enc (t : List UInt8) : ∀ (ws : List Want), (∀ w ∈ ws, rightWant w = true ∧ w.kind ≤ 9223372036854775807) →
    readWants ws.length ⟨ws.flatMap encWant ++ t, false⟩ = (ws, ⟨t, false⟩)
  | [], _ => rfl
  | w :: ws, h => by
    have hw := h w (by simp)
    have hb := rightWant_bounds hw.1
    have ih := readWants_enc t ws (fun x hx => h x (by simp [hx]))
    have e : (w :: ws).flatMap encWant ++ t = enc w.kind ++ (enc w.count ++ (enc w.til ++ (ws.flatMap encWant ++ t))) := by simp [encWant]
    rw [e]
    simp only [List.length_cons, readWants]
    rw [if_neg (enc_ne _ _), rInt_enc _ _ _ (by omega) (by omega)]
    simp only
    rw [rInt_enc _ _ _ (by omega) (by omega)]
    simp only
    rw [rInt_enc _ _ _ (by omega) (by omega), ih]

theorem readTakes_enc (t : List UInt8) : ∀ (l : List Take), (∀ x ∈ l, 0 ≤ x.box ∧ x.box < 3000 ∧ 1 ≤ x.n ∧ x.n ≤ 20000) →
    readTakes l.length ⟨l.flatMap encTake ++ t, false⟩ = (some l, ⟨t, false⟩)
  | [], _ => rfl
  | x :: l, h => by
    have hx := h x (by simp)
    have ih := readTakes_enc t l (fun y hy => h y (by simp [hy]))
    have e : (x :: l).flatMap encTake ++ t = enc x.box ++ (enc x.n ++ (l.flatMap encTake ++ t)) := by simp [encTake]
    rw [e]
    simp only [List.length_cons, readTakes]
    rw [if_neg (enc_ne _ _), rInt_enc _ _ _ (by omega) (by omega)]
    simp only
    rw [rInt_enc _ _ _ (by omega) (by omega)]
    simp only
    rw [if_neg (by omega), ih]; rfl

theorem readAll_enc (t : List UInt8) : ∀ (ws : List Want) (ls : List (List Take)), AllInv ws ls →
    readAll ws ⟨ls.flatMap encTakes ++ t, false⟩ = (some ls, ⟨t, false⟩)
  | [], [], _ => rfl
  | [], _ :: _, h => h.elim
  | _ :: _, [], h => h.elim
  | w :: ws, l :: ls, ⟨h1, h2⟩ => by
    have ih := readAll_enc t ws ls h2
    have e : (l :: ls).flatMap encTakes ++ t = enc l.length ++ (l.flatMap encTake ++ (ls.flatMap encTakes ++ t)) := by simp [encTakes]
    rw [e]
    have hl := h1.2.2
    simp only [readAll]
    rw [rNum_enc _ _ _ (by omega) (by omega)]
    simp only [Int.toNat_natCast]
    rw [readTakes_enc _ l h1.1]
    simp only
    rw [if_neg (by have := h1.2.1; omega), ih]; rfl

theorem rightWants_bounds {ws : List Want} {due : Int} (h : rightWants ws due = true) : 1 ≤ ws.length ∧ ws.length ≤ 20 ∧ 0 ≤ due ∧ due ≤ 20000 ∧ ∀ w ∈ ws, rightWant w = true := by
  simp only [rightWants, Bool.and_eq_true, decide_eq_true_eq, List.all_eq_true] at h
  exact ⟨h.1.1.1.1, h.1.1.1.2, h.1.1.2, h.1.2, h.2⟩

/-- The kinds of the wants are ints. -/
def KindsOk (os : List Ord) : Prop := ∀ o ∈ os, ∀ w ∈ o.wants, w.kind ≤ 9223372036854775807

theorem readOrd_enc (t : List UInt8) (o : Ord) (h : OrdInv o) (hk : ∀ w ∈ o.wants, w.kind ≤ 9223372036854775807) : readOrd ⟨encOrd o ++ t, false⟩ = (some o, ⟨t, false⟩) := by
  have hr := rightWants_bounds h.right
  have e : encOrd o ++ t = enc o.wants.length ++ (o.wants.flatMap encWant ++ (enc o.due ++ (enc o.state ++ (o.takes.flatMap encTakes ++ t)))) := by simp [encOrd]
  rw [e]
  have := h.s0; have := h.s5
  unfold readOrd
  rw [rNum_enc _ _ _ (by omega) (by omega)]
  simp only [Int.toNat_natCast]
  rw [readWants_enc _ _ (fun w hw => ⟨hr.2.2.2.2 w hw, hk w hw⟩)]
  simp only
  rw [rInt_enc _ _ _ (by omega) (by omega)]
  simp only
  rw [rInt_enc _ _ _ (by omega) (by omega)]
  simp only [h.right]
  rw [if_neg (by simp; omega)]
  by_cases hs : o.state = 1
  · rw [if_neg (by omega)]
    rw [readAll_enc _ _ _ (h.some_ hs).1]
    simp only
    rw [if_pos (h.some_ hs).2]
  · rw [if_pos hs]
    have := h.none_ hs
    rw [this]
    cases o; simp_all

theorem readOrds_enc (t : List UInt8) : ∀ (os : List Ord) (m : Nat), (∀ o ∈ os, OrdInv o) → KindsOk os → m + os.length ≤ 1000 →
    readOrds os.length m ⟨os.flatMap encOrd ++ t, false⟩ = (some os, ⟨t, false⟩)
  | [], _, _, _, _ => rfl
  | o :: os, m, h, hk, hm => by
    have ih := readOrds_enc t os (m + 1) (fun x hx => h x (by simp [hx])) (fun x hx => hk x (by simp [hx])) (by simp at hm; omega)
    have e : (o :: os).flatMap encOrd ++ t = encOrd o ++ (os.flatMap encOrd ++ t) := by simp
    rw [e]
    simp only [List.length_cons, readOrds]
    rw [if_neg (by simp [encOrd, enc]), readOrd_enc _ o (h o (by simp)) (hk o (by simp))]
    simp only
    rw [if_neg (by simp at hm; omega), ih]; rfl

theorem readBook_enc (os : List Ord) (h : BookInv os) (hk : KindsOk os) : readBook (encBook os) = some os := by
  unfold readBook
  have e : encBook os = enc os.length ++ (os.flatMap encOrd ++ []) := by simp [encBook]
  have hl := h.len
  rw [e, rNum_enc _ _ _ (by omega) (by omega)]
  simp only [Int.toNat_natCast]
  rw [readOrds_enc [] os 0 h.all hk (by omega)]
  simp only [← e]
  rw [if_neg (by simp)]



def stateAfter (lots : List Lot) (sure : List Box) (o : Op) (os : List Ord) : Option (List Ord) × Int × Int :=
  if o.act = 0 then let r := ask os o.wants o.tick; (some r.2.2, r.1, r.2.1)
  else if o.act = 1 then let r := promise os o.no lots sure; (some r.2, 0, r.1)
  else if o.act = 2 then let r := serve os o.no o.body o.n o.tick; (some r.2, 0, r.1)
  else if o.act = 3 then let r := withdraw os o.no; (some r.2, 0, r.1)
  else if o.act = 4 then let r := giveUp os o.no; (some r.2, 0, r.1)
  else if o.act = 5 then (some os, 0, 0)
  else if o.act = 6 then (readBook (encBook os), 0, 0)
  else (some os, 0, 0)

def may (a b : Int) : Bool :=
  if a = 0 then decide (b = 1) || decide (b = 4)
  else decide (a = 1) && (decide (b = 2) || decide (b = 3) || decide (b = 4))

/-! ### Plan gives right takes -/
def GoodBoxes (bs : List Box) : Prop := bs.length ≤ 3000 ∧ ∀ b ∈ bs, 0 ≤ b.count

theorem lower_length (bs : List Box) (i : Nat) (n : Int) : (lower bs i n).length = bs.length := by simp [lower]

theorem boxAt_mem {bs : List Box} {i : Nat} (h : i < bs.length) : boxAt bs i ∈ bs := by
  unfold boxAt; rw [List.getD_eq_getElem?_getD, List.getElem?_eq_getElem h]; simp

theorem boxAt_get {bs : List Box} {i : Nat} (h : i < bs.length) : boxAt bs i = bs[i] := by
  unfold boxAt; rw [List.getD_eq_getElem?_getD, List.getElem?_eq_getElem h]; simp

theorem lower_good {bs : List Box} (h : GoodBoxes bs) (i : Nat) (n : Int) (hn : n ≤ (boxAt bs i).count) : GoodBoxes (lower bs i n) := by
  refine ⟨by rw [lower_length]; exact h.1, fun b hb => ?_⟩
  obtain ⟨k, hk, rfl⟩ := List.getElem_of_mem hb
  have hk' : k < bs.length := by simpa [lower] using hk
  simp only [lower, List.getElem_modify]
  split
  · subst i; rw [boxAt_get hk'] at hn; simp; omega
  · exact h.2 _ (List.getElem_mem hk')

theorem takeAll_good : ∀ (is : List Nat) (need : Int) (left : List Box), 0 ≤ need → GoodBoxes left → (∀ i ∈ is, i < left.length) →
    (∀ t ∈ (takeAll is need left).1, 0 ≤ t.box ∧ t.box < left.length ∧ 1 ≤ t.n ∧ t.n ≤ need) ∧
    units (takeAll is need left).1 = need - (takeAll is need left).2.1 ∧ 0 ≤ (takeAll is need left).2.1 ∧ GoodBoxes (takeAll is need left).2.2 ∧ (takeAll is need left).2.2.length = left.length
  | [], need, left, h0, hg, _ => by simp [takeAll, units, h0, hg]
  | i :: is, need, left, h0, hg, hi => by
    have hlt := hi i (by simp)
    have hc := hg.2 _ (boxAt_mem hlt)
    simp only [takeAll]
    by_cases hz : min need (boxAt left i).count = 0
    · rw [if_pos hz]; simp [units, h0, hg]
    · rw [if_neg hz]
      have hm : 1 ≤ min need (boxAt left i).count := by omega
      have hm1 : min need (boxAt left i).count ≤ need := by omega
      have hm2 : min need (boxAt left i).count ≤ (boxAt left i).count := by omega
      generalize min need (boxAt left i).count = m at *
      obtain ⟨a1, a2, a3, a4, a5⟩ := takeAll_good is (need - m) (lower left i m) (by omega) (lower_good hg i m hm2)
        (fun j hj => by rw [lower_length]; exact hi j (by simp [hj]))
      rw [lower_length] at a1 a5
      refine ⟨fun t ht => ?_, ?_, a3, a4, a5⟩
      · rcases List.mem_cons.1 ht with rfl | ht
        · exact ⟨by simp, by simpa using hlt, hm, hm1⟩
        · obtain ⟨b1, b2, b3, b4⟩ := a1 t ht
          exact ⟨b1, b2, b3, by omega⟩
      · simp only [units, List.foldr_cons] at a2 ⊢
        omega

theorem insR_mem (key : Nat → Int) (x : Nat) : ∀ (l : List Nat) (y : Nat), y ∈ insR key x l ↔ y = x ∨ y ∈ l
  | [], y => by simp [insR]
  | z :: l, y => by
    simp only [insR]
    split
    · simp only [List.mem_cons, insR_mem key x l y]
      constructor
      · rintro (h | h | h) <;> simp [h]
      · rintro (h | h | h) <;> simp [h]
    · simp
theorem isortR_mem (key : Nat → Int) : ∀ (l acc : List Nat) (y : Nat), y ∈ isortR key acc l ↔ y ∈ acc ∨ y ∈ l
  | [], acc, y => by simp [isortR]
  | x :: l, acc, y => by
    simp only [isortR, isortR_mem key l _ y, insR_mem, List.mem_cons]
    constructor
    · rintro ((h | h) | h) <;> simp [h]
    · rintro (h | h | h) <;> simp [h]
theorem isort_mem (key : Nat → Int) (l : List Nat) (y : Nat) : y ∈ isort key l ↔ y ∈ l := by simp [isort, isortR_mem]
theorem order_lt {lots : List Lot} {boxes : List Box} {w : Want} {i : Nat} (h : i ∈ order lots boxes w) : i < boxes.length := by
  unfold order at h; rw [isort_mem] at h
  simp [cands] at h; exact h.1

theorem units_ge_length : ∀ (l : List Take), (∀ t ∈ l, 1 ≤ t.n) → (l.length : Int) ≤ units l
  | [], _ => by simp [units]
  | t :: l, h => by
    have := units_ge_length l (fun x hx => h x (by simp [hx]))
    have := h t (by simp)
    simp only [units, List.foldr_cons, List.length_cons] at *
    omega

theorem planFrom_good (lots : List Lot) : ∀ (ws : List Want) (left : List Box) (ts : List (List Take)), (∀ w ∈ ws, rightWant w = true) → GoodBoxes left → planFrom lots ws left = some ts →
    AllInv ws ts ∧ (ws ≠ [] → ts.any (fun x => !x.isEmpty) = true)
  | [], left, ts, _, _, h => by
    simp only [planFrom, Option.some.injEq] at h; subst h; simp [AllInv]
  | w :: ws, left, ts, hw, hg, h => by
    have hb := rightWant_bounds (hw w (by simp))
    obtain ⟨a1, a2, a3, a4, a5⟩ := takeAll_good (order lots left w) w.count left (by omega) hg (fun i hi => order_lt hi)
    simp only [planFrom] at h
    split at h
    · cases h
    · rename_i hz
      obtain ⟨ts', h', rfl⟩ := Option.map_eq_some_iff.1 h
      have ih := planFrom_good lots ws _ ts' (fun x hx => hw x (by simp [hx])) a4 h'
      generalize takeAll (order lots left w) w.count left = r at *
      have hu : units r.1 = w.count := by omega
      have hlen := units_ge_length r.1 (fun t ht => (a1 t ht).2.2.1)
      refine ⟨⟨⟨fun t ht => ?_, by omega, by omega⟩, ih.1⟩, fun _ => ?_⟩
      · obtain ⟨b1, b2, b3, b4⟩ := a1 t ht
        have := hg.1
        exact ⟨b1, by omega, b3, by omega⟩
      · cases h1 : r.1 with
        | nil => rw [h1] at hu; simp [units] at hu; omega
        | cons x l => simp

theorem spare_good {os : List Ord} {sure : List Box} (h : GoodBoxes sure) : GoodBoxes (spare os sure) := by
  refine ⟨by simp [spare]; exact h.1, fun b hb => ?_⟩
  obtain ⟨k, hk, rfl⟩ := List.getElem_of_mem hb
  have hk' : k < sure.length := by simpa [spare] using hk
  simp only [spare, List.getElem_mapIdx, spareAt]
  split
  · simp; omega
  · exact h.2 _ (List.getElem_mem hk')

/-! ### Serving keeps what is right -/
theorem serveTakes_good (body : Int) : ∀ (l : List Take) (n : Int), 0 ≤ n → (∀ t ∈ l, 0 ≤ t.box ∧ t.box < 3000 ∧ 1 ≤ t.n ∧ t.n ≤ 20000) →
    (∀ t ∈ (serveTakes body n l).1, 0 ≤ t.box ∧ t.box < 3000 ∧ 0 ≤ t.n ∧ t.n ≤ 20000) ∧ units (serveTakes body n l).1 ≤ units l ∧ 0 ≤ (serveTakes body n l).2 ∧ (serveTakes body n l).1.length = l.length
  | [], n, h0, _ => by simp [serveTakes, h0]
  | t :: l, n, h0, h => by
    have ht := h t (by simp)
    simp only [serveTakes]
    split
    · have hm : 0 ≤ min n t.n := by omega
      have hm1 : min n t.n ≤ n := by omega
      have hm2 : min n t.n ≤ t.n := by omega
      generalize min n t.n = m at *
      obtain ⟨a1, a2, a3, a4⟩ := serveTakes_good body l (n - m) (by omega) (fun x hx => h x (by simp [hx]))
      refine ⟨fun x hx => ?_, ?_, a3, by simp [a4]⟩
      · rcases List.mem_cons.1 hx with rfl | hx
        · exact ⟨ht.1, ht.2.1, by simp; omega, by simp; omega⟩
        · exact a1 x hx
      · simp only [units, List.foldr_cons] at *; omega
    · obtain ⟨a1, a2, a3, a4⟩ := serveTakes_good body l n h0 (fun x hx => h x (by simp [hx]))
      refine ⟨fun x hx => ?_, ?_, a3, by simp [a4]⟩
      · rcases List.mem_cons.1 hx with rfl | hx
        · exact ⟨ht.1, ht.2.1, by omega, ht.2.2.2⟩
        · exact a1 x hx
      · simp only [units, List.foldr_cons] at *; omega

theorem units_filter : ∀ (l : List Take), units (l.filter fun t => decide (t.n ≠ 0)) = units l
  | [] => rfl
  | t :: l => by
    have ih := units_filter l
    by_cases h : t.n = 0
    · rw [List.filter_cons_of_neg (by simp [h])]; simp only [units, List.foldr_cons] at *; omega
    · rw [List.filter_cons_of_pos (by simp [h])]; simp only [units, List.foldr_cons] at *; omega

theorem serveAll_good (body : Int) : ∀ (ws : List Want) (ls : List (List Take)) (n : Int), 0 ≤ n → AllInv ws ls → AllInv ws (serveAll body n ls)
  | [], [], _, _, h => h
  | [], _ :: _, _, _, h => h.elim
  | _ :: _, [], _, _, h => h.elim
  | w :: ws, l :: ls, n, h0, ⟨h1, h2⟩ => by
    obtain ⟨a1, a2, a3, a4⟩ := serveTakes_good body l n h0 h1.1
    simp only [serveAll]
    refine ⟨⟨fun t ht => ?_, ?_, ?_⟩, serveAll_good body ws ls _ a3 h2⟩
    · rw [List.mem_filter] at ht
      have := a1 t ht.1
      have hne : t.n ≠ 0 := by simpa using ht.2
      omega
    · rw [units_filter]; have := h1.2.1; omega
    · have := List.length_filter_le (fun t : Take => decide (t.n ≠ 0)) (serveTakes body n l).1
      have := h1.2.2
      omega

/-! ### One step -/
theorem stateAt_some {os : List Ord} {no : Int} {o : Ord} (h : stateAt os no = some o) : 0 ≤ no ∧ no.toNat < os.length ∧ os[no.toNat]? = some o := by
  unfold stateAt at h
  split at h
  · rename_i hc
    injection h with h
    have hl : no.toNat < os.length := by omega
    refine ⟨hc.1, hl, ?_⟩
    rw [List.getD_eq_getElem?_getD, List.getElem?_eq_getElem hl] at h
    rw [List.getElem?_eq_getElem hl]; simpa using h
  · cases h

theorem setOrd_inv {os : List Ord} (h : BookInv os) (no : Int) (o : Ord) (ho : OrdInv o) : BookInv (setOrd os no o) := by
  refine ⟨fun x hx => ?_, by simp [setOrd]; exact h.len⟩
  rcases List.mem_or_eq_of_mem_set hx with hx | rfl
  · exact h.all x hx
  · exact ho

/-- What a step does: nothing; an order is added; or one order changes its state and takes. -/
inductive Stepped (o : Op) (e n : Int) (os : List Ord) : List Ord → Prop where
  | same : (o.act = 0 → e = 0 → False) → Stepped o e n os os
  | asked : o.act = 0 → e = 0 → n = os.length → Stepped o e n os (os ++ [⟨o.wants, o.tick, 0, []⟩])
  | turned (x y : Ord) : o.act ≠ 0 → e = 0 → stateAt os o.no = some x → y.wants = x.wants → y.due = x.due → (y.state = x.state ∨ may x.state y.state = true) → Stepped o e n os (setOrd os o.no y)

def WantsOk (ws : List Want) : Prop := ∀ w ∈ ws, w.kind ≤ 9223372036854775807

theorem kinds_set {os : List Ord} (h : KindsOk os) {no : Int} {x y : Ord} (hx : stateAt os no = some x) (hw : y.wants = x.wants) : KindsOk (setOrd os no y) := by
  intro o ho w hwm
  obtain ⟨_, hl, he⟩ := stateAt_some hx
  rcases List.mem_or_eq_of_mem_set ho with ho | rfl
  · exact h o ho w hwm
  · rw [hw] at hwm
    exact h x (List.mem_of_getElem? he) w hwm

theorem step_good (lots : List Lot) (sure : List Box) (hs : GoodBoxes sure) (o : Op) (ho : WantsOk o.wants) (os : List Ord) (h : BookInv os) (hk : KindsOk os) :
    ∃ os' n e, stateAfter lots sure o os = (some os', n, e) ∧ BookInv os' ∧ KindsOk os' ∧ os'.length ≤ os.length + 1 ∧ Stepped o e n os os' := by
  unfold stateAfter
  split
  · rename_i h0
    unfold ask
    split
    · exact ⟨os, 0, 1, rfl, h, hk, by omega, .same (fun _ h => by omega)⟩
    · rename_i hr
      split
      · exact ⟨os, 0, 6, rfl, h, hk, by omega, .same (fun _ h => by omega)⟩
      · rename_i hl
        refine ⟨_, _, _, rfl, ⟨fun x hx => ?_, by simp; omega⟩, ?_, by simp, .asked h0 rfl rfl⟩
        · rcases List.mem_append.1 hx with hx | hx
          · exact h.all x hx
          · simp at hx; subst hx
            exact ⟨by simpa using hr, by simp, by simp, fun _ => rfl, fun h => absurd h (by simp)⟩
        · intro x hx w hw
          rcases List.mem_append.1 hx with hx | hx
          · exact hk x hx w hw
          · simp at hx; subst hx; exact ho w hw
  · rename_i h0
    split
    · unfold promise
      split
      · exact ⟨os, 0, 4, rfl, h, hk, by omega, .same (fun h => absurd h h0)⟩
      · rename_i x hx
        split
        · exact ⟨os, 0, 7, rfl, h, hk, by omega, .same (fun h => absurd h h0)⟩
        · rename_i hst
          have hst : x.state = 0 := by omega
          obtain ⟨hno, hlt, hget⟩ := stateAt_some hx
          have hxi := h.all x (List.mem_of_getElem? hget)
          have hr := rightWants_bounds hxi.right
          simp only
          split
          · exact ⟨os, 0, _, rfl, h, hk, by omega, .same (fun h => absurd h h0)⟩
          · rename_i he
            have he' : (plan lots (spare os sure) x.wants).2 = 0 := by omega
            have hp : planFrom lots x.wants (spare os sure) = some (plan lots (spare os sure) x.wants).1 := by
              unfold plan at he' ⊢
              split at he'
              · simp at he'
              · split at he'
                · simp at he'
                · rename_i hany _ t ht
                  rw [if_neg hany, ht]
            obtain ⟨g1, g2⟩ := planFrom_good lots x.wants _ _ hr.2.2.2.2 (spare_good hs) hp
            refine ⟨_, 0, 0, rfl, setOrd_inv h _ _ ⟨hxi.right, by simp, by simp, fun h => absurd rfl h, fun _ => ⟨g1, g2 (fun h => by have := hr.1; simp [h] at this)⟩⟩, kinds_set hk hx rfl, by simp [setOrd], .turned x _ h0 rfl hx rfl rfl (.inr ?_)⟩
            rw [hst]; rfl
    · split
      · unfold serve
        split
        · exact ⟨os, 0, 4, rfl, h, hk, by omega, .same (fun h => absurd h h0)⟩
        · rename_i x hx
          split
          · exact ⟨os, 0, 7, rfl, h, hk, by omega, .same (fun h => absurd h h0)⟩
          · rename_i hst
            have hst : x.state = 1 := by omega
            split
            · exact ⟨os, 0, 1, rfl, h, hk, by omega, .same (fun h => absurd h h0)⟩
            · rename_i hn
              split
              · exact ⟨os, 0, 22, rfl, h, hk, by omega, .same (fun h => absurd h h0)⟩
              · obtain ⟨hno, hlt, hget⟩ := stateAt_some hx
                have hxi := h.all x (List.mem_of_getElem? hget)
                have hsv := serveAll_good o.body x.wants x.takes o.n (by omega) (hxi.some_ hst).1
                simp only
                split
                · rename_i hany
                  exact ⟨_, 0, 0, rfl, setOrd_inv h _ _ ⟨hxi.right, hxi.s0, hxi.s5, fun hh => absurd hst hh, fun _ => ⟨hsv, hany⟩⟩, kinds_set hk hx rfl, by simp [setOrd], .turned x _ h0 rfl hx rfl rfl (.inl rfl)⟩
                · refine ⟨_, 0, 0, rfl, setOrd_inv h _ _ ⟨hxi.right, ?_, ?_, fun _ => rfl, fun hh => ?_⟩, kinds_set hk hx rfl, by simp [setOrd], .turned x _ h0 rfl hx rfl rfl (.inr ?_)⟩
                  · simp only; split <;> omega
                  · simp only; split <;> omega
                  · simp only at hh; split at hh <;> omega
                  · simp only [hst]; split <;> rfl
      · have hend : ∀ (st : Int) (fr : List Int), (st = 3 ∧ fr = [1] ∨ st = 4 ∧ fr = [0, 1]) → ∃ os' n e, ((some (endOrd os o.no st fr).2, (0 : Int), (endOrd os o.no st fr).1) : Option (List Ord) × Int × Int) = (some os', n, e) ∧ BookInv os' ∧ KindsOk os' ∧ os'.length ≤ os.length + 1 ∧ Stepped o e n os os' := by
          intro st fr hfr
          unfold endOrd
          split
          · exact ⟨os, 0, 4, rfl, h, hk, by omega, .same (fun h => absurd h h0)⟩
          · rename_i x hx
            split
            · rename_i hc
              obtain ⟨hno, hlt, hget⟩ := stateAt_some hx
              have hxi := h.all x (List.mem_of_getElem? hget)
              refine ⟨_, 0, 0, rfl, setOrd_inv h _ _ ⟨hxi.right, ?_, ?_, fun _ => rfl, fun hh => ?_⟩, kinds_set hk hx rfl, by simp [setOrd], .turned x _ h0 rfl hx rfl rfl (.inr ?_)⟩
              · simp only; omega
              · simp only; omega
              · simp only at hh; omega
              · rcases hfr with ⟨rfl, rfl⟩ | ⟨rfl, rfl⟩
                · have : x.state = 1 := by simpa using hc
                  simp [this, may]
                · have : x.state = 0 ∨ x.state = 1 := by simpa using hc
                  rcases this with e | e <;> simp [e, may]
            · exact ⟨os, 0, 7, rfl, h, hk, by omega, .same (fun h => absurd h h0)⟩
        split
        · exact hend 4 [0, 1] (.inr ⟨rfl, rfl⟩)
        · split
          · exact hend 3 [1] (.inl ⟨rfl, rfl⟩)
          · split
            · exact ⟨os, 0, 0, rfl, h, hk, by omega, .same (fun h => absurd h h0)⟩
            · split
              · exact ⟨os, 0, 0, by rw [readBook_enc os h hk], h, hk, by omega, .same (fun h => absurd h h0)⟩
              · exact ⟨os, 0, 0, rfl, h, hk, by omega, .same (fun h => absurd h h0)⟩

end Go.Proofs.YtcliaokoganbaaaGreatDoor.Tq
