/-
  Part 7 of the proof of the card: lemmas and walks, joined by mergeclaim.py out of the texts CC, BB, CD.
-/
import Derived.Test.YtcliaokoganbaaaGreatDoorM06
import Derived.Lib.Hide
set_option linter.unusedVariables false
set_option linter.unusedSimpArgs false
namespace Go.Proofs.YtcliaokoganbaaaGreatDoor
open Go Go.RowKit Go.Shelf Go.Proofs.YtcliaokoganbaaaGreatDoorW.PrintWords Go.Proofs.YtcliaokoganbaaaGreatDoorW.PrintLast Go.Proofs.YtcliaokoganbaaaGreatDoorW.PrintMore
open Tq (Lot Box Want Take Ord Op)

/-! ### Rows of a call's own whose elements are made one after the other -/
/-- The elements' blocks lie between ascending bounds. -/
structure Stack (k : Nat) (b : Nat → Nat) (top : Nat) : Prop where
  mono : ∀ i j, i ≤ j → j ≤ k → b i ≤ b j
  top : b k ≤ top
theorem Stack.zero (m top : Nat) (h : m ≤ top) : Stack 0 (fun _ => m) top := ⟨fun _ _ _ _ => Nat.le_refl _, h⟩
theorem Stack.push {k top top' : Nat} {b : Nat → Nat} (h : Stack k b top) (ht : top ≤ top') : Stack (k + 1) (fun j => if j ≤ k then b j else top') top' := by
  refine ⟨fun i j hij hj => ?_, by simp only [show ¬ k + 1 ≤ k by omega, if_false]; exact Nat.le_refl _⟩
  have := h.top
  by_cases h1 : j ≤ k
  · simp only [h1, if_true, show i ≤ k by omega]; exact h.mono i j hij h1
  · by_cases h2 : i ≤ k
    · simp only [h1, h2, if_true, if_false]; have := h.mono i k h2 (Nat.le_refl _); omega
    · simp only [h1, h2, if_false]; exact Nat.le_refl _
theorem Stack.apart {k top : Nat} {b : Nat → Nat} (h : Stack k b top) {i j x : Nat} (hi : i < k) (hj : j < k) (h1 : b i ≤ x ∧ x < b (i + 1)) (h2 : b j ≤ x ∧ x < b (j + 1)) : i = j := by
  rcases Nat.lt_trichotomy i j with hlt | he | hgt
  · have := h.mono (i + 1) j (by omega) (by omega); omega
  · exact he
  · have := h.mono (j + 1) i (by omega) (by omega); omega

/-- A row of one-cell elements, of which the first k are made anew (vs), each between its bounds. -/
def MadeUpTo {α : Type} (d : Kd α) (e ei : Nat) (base : Nat) (inner : List Value) (v : Value) (xs : List α) (k : Nat) (wr : World) : Prop :=
  ∃ vs b, vs.length = k ∧ wr.ownsRow base e 1 v xs.length (vs ++ inner.drop k) ∧ Stack k b wr.heap.size ∧ (∀ g, v.ownBlock = some g → g < b 0) ∧
    ∀ (j : Nat) (u : Value) (x : α), vs[j]? = some u → xs[j]? = some x → d.M wr base (fun i => b j ≤ i ∧ i < b (j + 1)) x [u]
theorem MadeUpTo.start {α : Type} {d : Kd α} {e ei base : Nat} {inner : List Value} {v : Value} {xs : List α} {wr : World} (h : wr.ownsRow base e 1 v xs.length inner) : MadeUpTo d e ei base inner v xs 0 wr :=
  ⟨[], fun _ => wr.heap.size, rfl, by simpa using h, Stack.zero _ _ (Nat.le_refl _), fun g hg => own_lt h g hg, fun j u x hj => by simp at hj⟩
theorem MadeUpTo.below {α : Type} {d : Kd α} {e ei base : Nat} {inner : List Value} {v : Value} {xs : List α} {k : Nat} {wr w1 : World} (h : MadeUpTo d e ei base inner v xs k wr) (hb : Below wr.heap.size wr w1) : MadeUpTo d e ei base inner v xs k w1 := by
  obtain ⟨vs, b, h1, h2, h3, h4, h5⟩ := h
  exact ⟨vs, b, h1, pw_own_below h2 hb, ⟨h3.mono, Nat.le_trans h3.top hb.size⟩, h4, fun j u x hj hx => Kd.M_below (h5 j u x hj hx) hb⟩
theorem MadeUpTo.cell {α : Type} {d : Kd α} {e ei base : Nat} {inner : List Value} {g cap : Nat} {xs : List α} {k : Nat} {wr : World} (h : MadeUpTo d e ei base inner (.slice (some ⟨g, 0, none⟩) xs.length cap) xs k wr) (hk : k < xs.length) (hl : inner.length = xs.length) :
    wr.cell? ⟨g, k, none⟩ = inner[k]? ∧ wr.frozen? ⟨g, k, none⟩ = false := by
  obtain ⟨vs, b, h1, h2, h3, h4, h5⟩ := h
  refine ⟨?_, h2.frozenAt k⟩
  rw [h2.cellAt k (by omega), List.getElem?_append_right (by omega), List.getElem?_drop]
  congr 1; omega
theorem MadeUpTo.push {α : Type} {d : Kd α} {e ei base : Nat} {inner : List Value} {g cap : Nat} {xs : List α} {k : Nat} {wr w1 : World} {u : Value} {x : α} (h : MadeUpTo d e ei base inner (.slice (some ⟨g, 0, none⟩) xs.length cap) xs k wr) (hk : k < xs.length) (hl : inner.length = xs.length)
    (hx : xs[k]? = some x) (hb : Below wr.heap.size wr w1) (hu : d.M w1 base (fun i => wr.heap.size ≤ i) x [u]) : MadeUpTo d e ei base inner (.slice (some ⟨g, 0, none⟩) xs.length cap) xs (k + 1) (w1.setCell ⟨g, k, none⟩ u) := by
  obtain ⟨vs, b, h1, h2, h3, h4, h5⟩ := h
  have hg := h4 g (by simp [Value.ownBlock])
  have hsz : (w1.setCell ⟨g, k, none⟩ u).heap.size = w1.heap.size := by simp [World.setCell]
  have h20 := pw_own_below h2 hb
  have h2' := h20.stored k u
  have hgl := own_lt h2 g (by simp [Value.ownBlock])
  refine ⟨vs ++ [u], fun j => if j ≤ k then b j else w1.heap.size, by simp [h1], ?_, by rw [hsz]; exact h3.push hb.size, fun g' hg' => by have := h4 g' hg'; simpa using this, fun j u' x' hj hx' => ?_⟩
  · have e1 : (vs ++ inner.drop k).set k u = (vs ++ [u]) ++ inner.drop (k + 1) := by
      rw [List.set_append_right _ _ (by omega), h1, Nat.sub_self, List.drop_eq_getElem_cons (by omega : k < inner.length), List.set_cons_zero]; simp
    rw [e1] at h2'
    exact h2'.1
  · have hfar : ∀ (okk : Nat → Prop) (y : α) (u0 : Value), (∀ i, okk i → i ≠ g) → d.M w1 base okk y [u0] → d.M (w1.setCell ⟨g, k, none⟩ u) base okk y [u0] := fun okk y u0 hne hM => Kd.M_far (p := ⟨g, k, none⟩) hM hne u
    rcases Nat.lt_trichotomy j k with hlt | rfl | hgt
    · rw [List.getElem?_append_left (by omega)] at hj
      have := Kd.M_below (h5 j u' x' hj hx') hb
      refine hfar _ _ _ (fun i hi => ?_) (d.M_mono (fun i hi => ?_) this)
      · have := h3.mono 0 j (by omega) (by omega)
        simp only [show j ≤ k by omega, if_true] at hi; omega
      · simp only [show j ≤ k by omega, show j + 1 ≤ k by omega, if_true]; exact hi
    · rw [List.getElem?_append_right (by omega), h1, Nat.sub_self] at hj
      have hj' : u = u' := by simpa using hj
      subst hj'
      rw [hx] at hx'; have := Option.some.inj hx'; subst this
      refine hfar _ _ _ (fun i hi => ?_) (d.M_mono (fun i hi => ?_) (d.M_bound hu))
      · have := h3.mono 0 j (by omega) (by omega)
        simp only [Nat.le_refl, if_true] at hi; omega
      · simp only [Nat.le_refl, if_true, show ¬ j + 1 ≤ j by omega, if_false]
        exact ⟨Nat.le_trans h3.top hi.1, hi.2.2.1⟩
    · rw [List.getElem?_eq_none (by simp; omega)] at hj; cases hj
theorem MadeUpTo.done {α : Type} {d : Kd α} {e ei base : Nat} {inner : List Value} {v : Value} {xs : List α} {wr : World} (hs : d.sz = 1) (h : MadeUpTo d e ei base inner v xs xs.length wr) (hl : inner.length = xs.length) : Kd.S d e wr base (fun i => base ≤ i) v xs := by
  obtain ⟨vs, b, h1, h2, h3, h4, h5⟩ := h
  rw [← hl, List.drop_length, List.append_nil] at h2
  obtain ⟨f, hr⟩ := Kd.reps_tag (d := d) (w := wr) (base := base) (ok := fun i => base ≤ i ∧ some i ≠ v.ownBlock) (xs := xs) (inner := vs) (fun j i => j < xs.length ∧ b j ≤ i ∧ i < b (j + 1) ∧ base ≤ i)
    (fun i j x hi hj => h3.apart hi.1 hj.1 ⟨hi.2.1, hi.2.2.1⟩ ⟨hj.2.1, hj.2.2.1⟩)
    (fun j i hi => ⟨hi.2.2.2, fun he => by have := h4 i he.symm; have := h3.mono 0 j (by omega) (by omega); omega⟩)
    (by rw [hs, h1, Nat.mul_one])
    (fun j x hx => by
      rw [hs, Nat.mul_one]
      have hj : j < xs.length := (List.getElem?_eq_some_iff.1 hx).1
      rw [List.drop_eq_getElem_cons (by omega : j < vs.length)]
      exact d.M_mono (fun i hi => ⟨hj, hi.1.1, hi.1.2, hi.2.1⟩) (d.M_bound (h5 j _ x (List.getElem?_eq_getElem (by omega)) hx)))
  refine ⟨f, fun i hi => own_base h2 i hi, vs, ?_, ?_⟩
  · rw [List.length_zipIdx]
    have : (Kd.tag f d).sz = 1 := hs
    rw [this, ← hl]; exact h2
  · exact hr

/-! ### orders.cloned -/
theorem kTs_cells {w : World} {A : Option Addr} {n : Nat} {tss : List (List Take)} (h : kTs.C w A n tss) : ∃ inner, inner.length = tss.length ∧ RawAt w A n inner ∧ (∀ u ∈ inner, u.oneCell' = true) ∧
    ∀ (j : Nat) (x : List Take), tss[j]? = some x → ∃ A' c', inner[j]? = some (.slice A' x.length c') ∧ kT.C w A' x.length x := by
  obtain ⟨inner, hr, hraw⟩ := raw_of_C h
  have hl : inner.length = tss.length := by have := hr.1; rw [this]; exact Nat.mul_one _
  refine ⟨inner, hl, hraw, reps_one hr (by decide), fun j x hx => ?_⟩
  have hj : j < tss.length := (List.getElem?_eq_some_iff.1 hx).1
  obtain ⟨A', c', he, _, hC⟩ := hr.2 j x hx
  refine ⟨A', c', ?_, hC⟩
  have he' : (inner.drop (j * 1)).take 1 = [Value.slice A' x.length c'] := he
  rw [Nat.mul_one, List.drop_eq_getElem_cons (by omega : j < inner.length), List.take_succ_cons, List.take_zero] at he'
  rw [List.getElem?_eq_getElem (by omega : j < inner.length)]
  exact congrArg some (List.cons.inj he').1

set_option maxHeartbeats 1000000 in
theorem f46_any (A : Option Addr) (c : Nat) (tss : List (List Take)) (w : World) (hbig : tss.length * 24 ≤ 140737488355328) (hin : ∀ ts ∈ tss, ts.length * 16 ≤ 140737488355328) (hC : kTs.C w A tss.length tss) :
    Calls Tryz.prog 46 #[.slice A tss.length c] w fun e w' => ∃ v', e = .returned v' ∧ Kd.S kTs 53 w' w.heap.size (fun i => w.heap.size ≤ i) v' tss ∧ Below w.heap.size w w' := by
  obtain ⟨inner, hl, hraw, hone, hel⟩ := kTs_cells hC
  have hmax := hC.2.1
  have hcl := f96_raw A tss.length c inner w (by omega) hmax hbig hraw hone
  have HEL := Aside0.mk hel
  have HL := Aside0.mk hl
  have HIN := Aside0.mk hin
  clear hC hel hl hraw hone hin
  go_enter Tryz.func46, Tryz.ntmps46
  go_wp2_with (go_at_call 96; refine hcl.mono ?_; rintro e w1 ⟨v', rfl, hown, hb⟩; obtain ⟨A', c', rfl⟩ := own_slice hown; refine Hid.out ?_)
  refine Lib.hid ?_
  have HB := Aside0.mk hb
  have HM := Aside0.mk (MadeUpTo.start (d := kTs) (ei := 66) hown)
  clear hown hb hcl
  go_wp2
  go_loopw [4, 9] (fun _ s9 wr => ∃ kk : Nat, kk ≤ tss.length ∧ s9 = .int .i64 kk ∧ Aside0 (Below w.heap.size w wr) ∧ Aside0 (MadeUpTo kTs 53 66 w.heap.size inner (.slice A' tss.length c') tss kk wr)) (fun _ s9 _ => tss.length - (intOf s9).toNat)
  case atStart => exact ⟨0, Nat.zero_le _, rfl, HB, HM⟩
  case round =>
    obtain ⟨kk, hkk, rfl, BW, MW⟩ := hrel
    by_cases hlt : kk < tss.length
    · have hltz : (kk : Int) < (tss.length : Int) := by omega
      have hget : tss[kk]? = some tss[kk] := List.getElem?_eq_getElem hlt
      have hmem := List.getElem_mem hlt
      generalize tss[kk] = x at hget hmem
      obtain ⟨A2, c2, hi2, hC2⟩ := HEL.out kk x hget
      have hbx := HIN.out x hmem
      obtain ⟨g, hA⟩ : ∃ g, A' = some ⟨g, 0, none⟩ := by
        obtain ⟨vs, b, _, h2, _⟩ := MW.out
        obtain ⟨g, cap, he, _⟩ := h2.form (by omega)
        injection he with he _ _
        exact ⟨g, he⟩
      subst hA
      obtain ⟨hc, hf⟩ := MW.out.cell hlt HL.out
      rw [hi2] at hc
      have hcall := f97_any A2 c2 x wr hbx (Kd.C_below hC2 BW.out)
      have X := Aside0.mk hget
      have I2 := Aside0.mk hi2
      clear hget hi2 hC2
      go_wp2_with (go_at_call 97; refine hcall.mono ?_; rintro e w2 ⟨v2, rfl, hR2, hb2⟩; refine Hid.out ?_)
      refine Lib.hid ?_
      obtain ⟨hc2, hf2⟩ := (MW.out.below hb2).cell hlt HL.out
      rw [I2.out] at hc2
      obtain ⟨A3, c3, rfl⟩ := Kd.R_slice hR2
      have MW2 := Aside0.mk (MW.out.push hlt HL.out X.out hb2 (u := .slice A3 x.length c3) ⟨_, rfl, Kd.R_lower hR2 BW.out.size⟩)
      have BW2 := Aside0.mk ((BW.out.trans (hb2.mono BW.out.size)).setCell (p := ⟨g, kk, none⟩) (by obtain ⟨vs, b, _, h2, _⟩ := MW.out; exact own_base h2 g (by simp [Value.ownBlock])) (.slice A3 x.length c3))
      clear hR2 hb2 hc hf hcall
      go_wp2
      go_roundw
      case rel => exact ⟨kk + 1, by omega, by go_num, BW2, MW2⟩
      case measure => simp [intOf]; omega
    · have hltz : ¬ (kk : Int) < (tss.length : Int) := by omega
      have E : kk = tss.length := by omega
      subst E
      have hS := Aside0.mk (MW.out.done rfl HL.out)
      go_wp2
      go_ret
      exact ⟨_, rfl, hS.out, BW.out⟩
end Go.Proofs.YtcliaokoganbaaaGreatDoor
set_option linter.unusedVariables false
set_option linter.unusedSimpArgs false
namespace Go.Proofs.YtcliaokoganbaaaGreatDoor
open Go Go.RowKit Go.Shelf Go.Proofs.YtcliaokoganbaaaGreatDoorW.PrintWords Go.Proofs.YtcliaokoganbaaaGreatDoorW.PrintLast Go.Proofs.YtcliaokoganbaaaGreatDoorW.PrintMore
open Tq (Lot Box Want Take Ord Op)

/-! ### The book, one order of it lent -/
/-- The order no is the cells cs (its blocks: oki); all others are in the book. -/
def Hole (w : World) (B : Nat) (ok : Nat → Prop) (g gr cap : Nat) (os : List Ord) (no : Int) (oki : Nat → Prop) (cs : List Value) : Prop :=
  (w.heap[g]? = some (.cells #[.slice (some ⟨gr, 0, none⟩) os.length cap] 93 (0, 0)) ∧ ok g ∧ B ≤ g ∧ 0 ≤ no ∧ no < os.length) ∧ Kd.H kO 96 w B (fun k => ok k ∧ k ≠ g) (.slice (some ⟨gr, 0, none⟩) os.length cap) os no oki cs
section
variable {w w' : World} {B g gr cap : Nat} {ok ok' oki okt : Nat → Prop} {os : List Ord} {no : Int} {cs : List Value}
theorem BookAt.lend (h : BookAt w B ok g os) {A : Option Addr} {c : Nat} (hc : w.cell? ⟨g, 0, none⟩ = some (.slice A os.length c)) (h0 : 0 ≤ no) (h1 : no < os.length) :
    ∃ gr v0 v3 oki, A = some ⟨gr, 0, none⟩ ∧ gr ≠ g ∧ ok gr ∧ B ≤ gr ∧ gr < w.heap.size ∧
      w.cell? ⟨gr, no.toNat * 4, none⟩ = some v0 ∧ w.cell? ⟨gr, no.toNat * 4 + 1, none⟩ = some (.int .i64 (os.getD no.toNat default).due) ∧ w.cell? ⟨gr, no.toNat * 4 + 2, none⟩ = some (.int .i64 (os.getD no.toNat default).state) ∧ w.cell? ⟨gr, no.toNat * 4 + 3, none⟩ = some v3 ∧
      (∀ j, w.frozen? ⟨gr, no.toNat * 4 + j, none⟩ = false) ∧ kW.R 100 w B oki v0 (os.getD no.toNat default).wants ∧ Kd.S kTs 53 w B oki v3 (os.getD no.toNat default).takes ∧ (∀ k, oki k → (ok k ∧ k ≠ g) ∧ k ≠ gr) ∧
      Hole w B ok g gr c os no oki [v0, .int .i64 (os.getD no.toNat default).due, .int .i64 (os.getD no.toNat default).state, v3] := by
  obtain ⟨gr, v0, v3, oki, hA, hne, hokr, hBr, ⟨cs, hty⟩, c0, c1, c2, c3, hf, hw, ht, hoki, hH⟩ := h.elem hc no h0 h1
  subst hA
  obtain ⟨v, hb, ho, hB, hS⟩ := h
  have hv : v = .slice (some ⟨gr, 0, none⟩) os.length c := by
    have := cell_of_row w g 0 _ _ _ hb
    rw [hc] at this
    simpa using this.symm
  subst hv
  exact ⟨gr, v0, v3, oki, rfl, hne, hokr, hBr, (Array.getElem?_eq_some_iff.1 hty).1, c0, c1, c2, c3, hf, hw, ht, hoki, ⟨⟨hb, ho, hB, h0, h1⟩, hH⟩⟩
theorem Hole.set (h : Hole w B ok g gr cap os no oki cs) (hne : gr ≠ g) (j : Nat) (hj : j < 4) (u : Value) (hu : u.oneCell' = true) :
    Hole (w.setCell ⟨gr, no.toNat * 4 + j, none⟩ u) B ok g gr cap os no oki (cs.take j ++ [u] ++ cs.drop (j + 1)) := by
  obtain ⟨⟨hb, ho, hB, h0, h1⟩, hH⟩ := h
  refine ⟨⟨(Below.heap_setCell w _ u g (fun e => hne e.symm)).trans hb, ho, hB, h0, h1⟩, ?_⟩
  exact (Kd.H_seg (seg := [u]) (j := j) hH h0 h1 (by show j + 1 ≤ 4; omega) (fun q hq => by rw [List.mem_singleton.1 hq]; exact hu)).1
theorem Hole.step (h : Hole w B ok g gr cap os no oki cs) (hg : ¬ oki g) (hm : ∀ k, ok k → ¬ oki k → k < w.heap.size → w'.heap[k]? = w.heap[k]?) : Hole w' B ok g gr cap os no oki cs := by
  obtain ⟨⟨hb, ho, hB, h01⟩, hH⟩ := h
  exact ⟨⟨(hm g ho hg (Array.getElem?_eq_some_iff.1 hb).1).trans hb, ho, hB, h01⟩, Kd.H_step hH (fun k hk hn hlt => hm k hk.1 hn hlt)⟩
theorem Hole.below (h : Hole w B ok g gr cap os no oki cs) (hb : Below w.heap.size w w') : Hole w' B ok g gr cap os no oki cs := by
  obtain ⟨⟨hb', ho, hB, h01⟩, hH⟩ := h
  exact ⟨⟨(hb.block g (Array.getElem?_eq_some_iff.1 hb').1).trans hb', ho, hB, h01⟩, Kd.H_below hH hb⟩
/-- What is nobody's may be lent too. -/
theorem Hole.more (h : Hole w B ok g gr cap os no oki cs) (hn : ∀ k, ok k → ¬ okt k) : Hole w B (fun k => ok k ∨ okt k) g gr cap os no (fun k => oki k ∨ okt k) cs := by
  obtain ⟨⟨hb, ho, hB, h01⟩, hH⟩ := h
  have hog : ∀ k, okt k → k ≠ g := fun k hk e => hn g ho (e ▸ hk)
  refine ⟨⟨hb, .inl ho, hB, h01⟩, ?_⟩
  exact Kd.H_more (ok := fun k => (ok k ∨ okt k) ∧ k ≠ g) (okg := okt) (Kd.H_mono hH (fun k hk => ⟨⟨.inl hk.1, hk.2⟩, hn k hk.1⟩)) (fun k hk => ⟨.inr hk, hog k hk⟩)
theorem Hole.back (h : Hole w B ok g gr cap os no oki cs) {x : Ord} (hM : kO.M w B oki x cs) : BookAt w B ok g (Tq.setOrd os no x) := by
  obtain ⟨⟨hb, ho, hB, h01⟩, hH⟩ := h
  have hS := Kd.H_back hH hM (fun _ hk => hk)
  exact ⟨_, hb, ho, hB, hS⟩
end

/-! ### slices.Contains at ints -/
theorem index_f (l : List Int) (s : Int) (hl : l.length ≤ 9223372036854775806) : ∀ (d i k : Nat), i + d = l.length → d < k →
    P.slices_Index_int_int.l0 k l s (l.length : Int) (i : Int) = some (match (l.drop i).findIdx? (fun y => decide (s = y)) with | some j => ((i + j : Nat) : Int) | none => -1)
  | 0, i, k, hd, hk => by
    obtain ⟨k, rfl⟩ : ∃ m, k = m + 1 := ⟨k - 1, by omega⟩
    simp only [P.slices_Index_int_int.l0]
    rw [if_neg (by omega), List.drop_eq_nil_of_le (by omega)]; rfl
  | d + 1, i, k, hd, hk => by
    obtain ⟨k, rfl⟩ : ∃ m, k = m + 1 := ⟨k - 1, by omega⟩
    have hil : i < l.length := by omega
    simp only [P.slices_Index_int_int.l0]
    rw [if_pos (by omega), if_pos (by omega), if_pos (by omega)]
    have hrd : rd l (i : Int) = l[i] := by unfold rd; rw [Int.toNat_natCast, List.getD_eq_getElem?_getD, List.getElem?_eq_getElem hil]; rfl
    rw [hrd, List.drop_eq_getElem_cons hil, List.findIdx?_cons]
    by_cases he : s = l[i]
    · rw [if_pos he]; simp [he]
    · rw [if_neg he]
      have hw : wrap64 ((i : Int) + 1) = ((i + 1 : Nat) : Int) := by unfold wrap64; omega
      rw [hw, index_f l s hl d (i + 1) k (by omega) (by omega)]
      simp only [he, decide_false, Bool.false_eq_true, if_false]
      cases (l.drop (i + 1)).findIdx? (fun y => decide (s = y)) with
      | none => rfl
      | some j => simp only [Option.map_some]; congr 2; omega
theorem contains_f (l : List Int) (s : Int) (hl : l.length ≤ 9223372036854775806) : P.slices_Contains_int_int.f (l.length + 1) l s = some (l.contains s) := by
  unfold P.slices_Contains_int_int.f P.slices_Index_int_int.f
  have := index_f l s hl l.length 0 (l.length + 1) (by omega) (by omega)
  rw [show ((0 : Nat) : Int) = 0 from rfl] at this
  rw [this]
  simp only [Option.bind_some, List.drop_zero]
  congr 1
  cases h : l.findIdx? (fun y => decide (s = y)) with
  | none =>
    rw [List.findIdx?_eq_none_iff] at h
    have : l.contains s = false := by
      cases hc : l.contains s with
      | false => rfl
      | true =>
        have hm := List.contains_iff_mem.1 hc
        have := h s hm; simp at this
    rw [this]; rfl
  | some j =>
    rw [List.findIdx?_eq_some_iff_getElem] at h
    obtain ⟨h1, h2, _⟩ := h
    have : l.contains s = true := by
      rw [List.contains_iff_mem]
      have := of_decide_eq_true h2
      rw [this]; exact List.getElem_mem h1
    rw [this]; simp
theorem contains_any (l : List Int) (s : Int) (A : Option Addr) (c : Nat) (w : World) (hC : Kd.C (Kd.int .i64) w A l.length l) (hc : l.length ≤ c) (hl : l.length ≤ 9223372036854775806) :
    Calls Tryz.prog 105 #[.slice A l.length c, .int .i64 s] w fun e w' => e = .returned (.bool (l.contains s)) ∧ Below w.heap.size w w' :=
  (P.slices_Contains_int_int.calls _ A c l s _ w hC hc (contains_f l s hl)).mono fun e w' h => ⟨h.1, h.2.below⟩
end Go.Proofs.YtcliaokoganbaaaGreatDoor
set_option linter.unusedVariables false
set_option linter.unusedSimpArgs false
namespace Go.Proofs.YtcliaokoganbaaaGreatDoor
open Go Go.RowKit Go.Shelf Go.Proofs.YtcliaokoganbaaaGreatDoorW.PrintWords Go.Proofs.YtcliaokoganbaaaGreatDoorW.PrintLast Go.Proofs.YtcliaokoganbaaaGreatDoorW.PrintMore
open Tq (Lot Box Want Take Ord Op)

/-! ### (*Book).find -/
set_option maxHeartbeats 400000 in
theorem f55_none (g : Nat) (A : Option Addr) (n c : Nat) (no : Int) (v : Value) (w : World) (hn : n ≤ 9223372036854775807) (hc : w.cell? ⟨g, 0, none⟩ = some (.slice A n c)) (h : no < 0 ∨ (n : Int) ≤ no) :
    Calls Tryz.prog 55 #[.pointer (some ⟨g, 0, none⟩), .int .i64 no, v] w fun e w' => e = .returned (.tuple #[.pointer none, .int .i64 4]) ∧ Below w.heap.size w w' := by
  rcases h with h | h
  · go_enter Tryz.func55, Tryz.ntmps55
    go_wp2
    go_ret2
    exact ⟨rfl, Below.refl _ _⟩
  · by_cases h0 : no < 0
    · go_enter Tryz.func55, Tryz.ntmps55
      go_wp2
      go_ret2
      exact ⟨rfl, Below.refl _ _⟩
    · go_enter Tryz.func55, Tryz.ntmps55
      go_wp2
      go_ret2
      exact ⟨rfl, Below.refl _ _⟩
set_option maxHeartbeats 400000 in
theorem f55_any (g gr : Nat) (n c : Nat) (no s : Int) (l : List Int) (A : Option Addr) (cl : Nat) (w : World) (hn : n ≤ 9223372036854775807) (hc : w.cell? ⟨g, 0, none⟩ = some (.slice (some ⟨gr, 0, none⟩) n c))
    (h0 : 0 ≤ no) (h1 : no < n) (hs : w.cell? ⟨gr, no.toNat * 4 + 2, none⟩ = some (.int .i64 s)) (hC : Kd.C (Kd.int .i64) w A l.length l) (hcl : l.length ≤ cl) (hl : l.length ≤ 1000) :
    Calls Tryz.prog 55 #[.pointer (some ⟨g, 0, none⟩), .int .i64 no, .slice A l.length cl] w fun e w' =>
      e = .returned (if l.contains s then .tuple #[.pointer (some ⟨gr, no.toNat * 4, none⟩), .int .i64 0] else .tuple #[.pointer none, .int .i64 7]) ∧ Below w.heap.size w w' := by
  have hcon := contains_any l s A cl w hC hcl (by omega)
  cases hr : l.contains s with
  | true =>
    rw [hr] at hcon
    clear hr hC
    simp only [if_true]
    go_enter Tryz.func55, Tryz.ntmps55
    go_wp2_with (go_at_call 105; refine hcon.mono ?_; rintro e w' ⟨rfl, hb'⟩)
    go_ret2
    exact ⟨rfl, hb'⟩
  | false =>
    rw [hr] at hcon
    clear hr hC
    simp only [Bool.false_eq_true, if_false]
    go_enter Tryz.func55, Tryz.ntmps55
    go_wp2_with (go_at_call 105; refine hcon.mono ?_; rintro e w' ⟨rfl, hb'⟩)
    go_ret2
    exact ⟨rfl, hb'⟩

/-! ### (*Book).end, Withdraw, GiveUp -/
theorem state_none {os : List Ord} {no : Int} (h : Tq.stateAt os no = none) : no < 0 ∨ (os.length : Int) ≤ no := by
  unfold Tq.stateAt at h
  split at h
  · cases h
  · omega
theorem state_some {os : List Ord} {no : Int} {o : Ord} (h : Tq.stateAt os no = some o) : 0 ≤ no ∧ no < os.length ∧ os.getD no.toNat default = o := by
  unfold Tq.stateAt at h
  split at h
  · rename_i hc; exact ⟨hc.1, hc.2, by injection h⟩
  · cases h
theorem S_nil_any {w : World} {B : Nat} {oki : Nat → Prop} : Kd.S kTs 53 w B oki (.slice none 0 0) [] := Kd.S_nil _ _ _ _ _

set_option maxHeartbeats 1000000 in
theorem f61_any (B g : Nat) (ok : Nat → Prop) (os : List Ord) (no st : Int) (l : List Int) (A : Option Addr) (cl : Nat) (w : World) (h : BookAt w B ok g os) (hC : Kd.C (Kd.int .i64) w A l.length l) (hcl : l.length ≤ cl) (hl : l.length ≤ 1000) :
    Calls Tryz.prog 61 #[.pointer (some ⟨g, 0, none⟩), .int .i64 no, .int .i64 st, .slice A l.length cl] w fun e w' =>
      e = .returned (.int .i64 (Tq.endOrd os no st l).1) ∧ BookAt w' B ok g (Tq.endOrd os no st l).2 ∧ Mut ok w w' := by
  obtain ⟨A1, c1, hc, hf, hn, _, _⟩ := h.head
  have HB := Aside0.mk h
  unfold Tq.endOrd
  cases hst : Tq.stateAt os no with
  | none =>
    have hcall := f55_none g A1 os.length c1 no (.slice A l.length cl) w hn hc (state_none hst)
    clear hst h hc hf hn hC
    go_enter Tryz.func61, Tryz.ntmps61
    go_wp2_with (go_at_call 55; refine hcall.mono ?_; rintro e w1 ⟨rfl, hb⟩)
    go_ret
    exact ⟨rfl, HB.out.below hb, Mut.of_below hb ok⟩
  | some o =>
    obtain ⟨h0, h1, hget⟩ := state_some hst
    obtain ⟨gr, v0, v3, oki, rfl, hne, hokr, hBr, hlt, k0, k1, k2, k3, hfz, hw, ht, hoki, hH⟩ := h.lend hc h0 h1
    rw [hget] at k1 k2 hw ht hH
    have hcall := f55_any g gr os.length c1 no o.state l A cl w hn hc h0 h1 k2 hC hcl hl
    have hf2 := hfz 2
    have hf3 := hfz 3
    have HH := Aside0.mk hH
    have HW := Aside0.mk hw
    have HO := Aside0.mk hoki
    simp only
    cases hr : l.contains o.state with
    | false =>
      rw [hr] at hcall
      simp only [Bool.false_eq_true, if_false] at hcall ⊢
      clear hst h hc hf hn hC hr hget k0 k1 k2 k3 hfz hw ht hoki hH hf2 hf3
      go_enter Tryz.func61, Tryz.ntmps61
      go_wp2_with (go_at_call 55; refine hcall.mono ?_; rintro e w1 ⟨rfl, hb⟩)
      go_ret
      exact ⟨rfl, HB.out.below hb, Mut.of_below hb ok⟩
    | true =>
      rw [hr] at hcall
      simp only [if_true] at hcall ⊢
      clear hst h hc hf hn hC hr hget k0 k1 hfz hw ht hoki hH
      go_enter Tryz.func61, Tryz.ntmps61
      go_wp2_with (go_at_call 55; refine hcall.mono ?_; rintro e w1 ⟨rfl, hb⟩; refine Hid.out ?_)
      refine Lib.hid ?_
      have k2' := cell_on hb k2
      have k3' := cell_on hb k3
      have f2' := (hb.frozen (p := ⟨gr, no.toNat * 4 + 2, none⟩) hlt).trans hf2
      have f3' := (hb.frozen (p := ⟨gr, no.toNat * 4 + 3, none⟩) hlt).trans hf3
      have HBW := Aside0.mk hb
      clear k2 k3 hf2 hf3 hcall hb
      go_wp2
      go_ret
      have H1 := ((HH.out.below HBW.out).set hne 2 (by omega) (.int .i64 st) rfl).set hne 3 (by omega) (.slice none 0 0) rfl
      refine ⟨rfl, H1.back (x := { o with state := st, takes := [] }) ?_, ((Mut.of_below HBW.out ok).setCell (p := ⟨gr, no.toNat * 4 + 2, none⟩) (.inl hokr) _).setCell (p := ⟨gr, no.toNat * 4 + 3, none⟩) (.inl hokr) _⟩
      refine kO_mkM { o with state := st, takes := [] } ?_ S_nil_any
      exact Kd.R_far (p := ⟨gr, no.toNat * 4 + 3, none⟩) (Kd.R_far (p := ⟨gr, no.toNat * 4 + 2, none⟩) (Kd.R_below HW.out HBW.out) (fun k hk => (HO.out k hk).2) _) (fun k hk => (HO.out k hk).2) _

/-- A literal of ints. -/
theorem C_lit (w : World) (l : List Int) (hl : l.length ≤ 1000) : Kd.C (Kd.int .i64) (w.alloc (.cells (nums .i64 l).toArray 3)) (some ⟨w.heap.size, 0, none⟩) l.length l := by
  refine ⟨rfl, by omega, fun _ => ⟨_, rfl, fun j p hp => ⟨[.int .i64 p], rfl, rfl, fun i u hu => ?_⟩⟩⟩
  match i, hu with
  | 0, hu =>
    simp at hu; subst hu
    rw [add_plain]
    show (w.alloc _).cell? ⟨w.heap.size, j * 1 + 0, none⟩ = _
    rw [cell_of_row _ _ _ _ _ _ (heap_alloc_new w _)]
    rw [Nat.mul_one, Nat.add_zero]
    simp [nums, hp]
  | i + 1, hu => simp at hu
set_option maxHeartbeats 400000 in
theorem f25_any (B g : Nat) (ok : Nat → Prop) (os : List Ord) (no : Int) (w : World) (h : BookAt w B ok g os) :
    Calls Tryz.prog 25 #[.pointer (some ⟨g, 0, none⟩), .int .i64 no] w fun e w' => e = .returned (.int .i64 (Tq.withdraw os no).1) ∧ BookAt w' B ok g (Tq.withdraw os no).2 ∧ Mut ok w w' := by
  have hcall := f61_any B g ok os no 4 [0, 1] (some ⟨w.heap.size, 0, none⟩) 2 _ (h.alloc (.cells (nums .i64 [0, 1]).toArray 3)) (C_lit w [0, 1] (by decide)) (by decide) (by decide)
  have hm := (Mut.refl ok w).alloc (.cells (nums .i64 [0, 1]).toArray 3)
  unfold Tq.withdraw
  generalize Tq.endOrd os no 4 [0, 1] = r at hcall ⊢
  simp only [nums, List.map_cons, List.map_nil, List.length_cons, List.length_nil] at hcall hm
  clear h
  go_enter Tryz.func25, Tryz.ntmps25
  go_wp2_with (go_at_call 61; refine hcall.mono ?_; rintro e w1 ⟨rfl, hb, hm1⟩)
  go_ret
  exact ⟨rfl, hb, hm.trans hm1 (fun i hi => .inl hi)⟩
set_option maxHeartbeats 400000 in
theorem f47_any (B g : Nat) (ok : Nat → Prop) (os : List Ord) (no : Int) (w : World) (h : BookAt w B ok g os) :
    Calls Tryz.prog 47 #[.pointer (some ⟨g, 0, none⟩), .int .i64 no] w fun e w' => e = .returned (.int .i64 (Tq.giveUp os no).1) ∧ BookAt w' B ok g (Tq.giveUp os no).2 ∧ Mut ok w w' := by
  have hcall := f61_any B g ok os no 3 [1] (some ⟨w.heap.size, 0, none⟩) 1 _ (h.alloc (.cells (nums .i64 [1]).toArray 3)) (C_lit w [1] (by decide)) (by decide) (by decide)
  have hm := (Mut.refl ok w).alloc (.cells (nums .i64 [1]).toArray 3)
  unfold Tq.giveUp
  generalize Tq.endOrd os no 3 [1] = r at hcall ⊢
  simp only [nums, List.map_cons, List.map_nil, List.length_cons, List.length_nil] at hcall hm
  clear h
  go_enter Tryz.func47, Tryz.ntmps47
  go_wp2_with (go_at_call 61; refine hcall.mono ?_; rintro e w1 ⟨rfl, hb, hm1⟩)
  go_ret
  exact ⟨rfl, hb, hm.trans hm1 (fun i hi => .inl hi)⟩
end Go.Proofs.YtcliaokoganbaaaGreatDoor
