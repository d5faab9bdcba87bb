/-
  Part 21 of the proof of the card: lemmas and walks, joined by mergeclaim.py out of the texts JA.
-/
import Derived.Test.YtcliaokoganbaaaGreatDoorM20
import Derived.Deep.Slices
import Derived.Carry
import Derived.OpenShut
set_option linter.unusedVariables false
set_option linter.unusedSimpArgs false
namespace Go.Proofs.YtcliaokoganbaaaGreatDoor
open Go Go.RowKit Go.Shelf Go.Proofs.YtcliaokoganbaaaGreatDoorW.PrintWords Go.Proofs.YtcliaokoganbaaaGreatDoorW.PrintLast Go.Proofs.YtcliaokoganbaaaGreatDoorW.PrintMore
open Tq (Lot Box Want Take Ord BookInv OrdInv)
/-- What is read of type t is of kind d, with Q. -/
def Opens {α : Type} (d : Kd α) (t : TypeId) (Q : α → Prop) : Prop :=
  ∀ (H : Type) (enc : TypeId × Value → H) (w : World) (fuel : Nat) (cs : List Value) (y : DataW H × List MemPlace), DataW.trod enc Tryz.prog w 0 (fun _ => true) true fuel t cs = some y → ∃ x, d.K w x cs ∧ Q x
theorem opens_int {t : TypeId} {k : IntKind} (ht : Tryz.prog.underlying t = some (.int k)) : Opens (Kd.int k) t (fun n => (Lit.int k n).wf = true) := by
  intro H enc w fuel cs y h
  obtain ⟨n, rfl, _, hw⟩ := DataW.trod_int ht h
  exact ⟨n, rfl, hw⟩
theorem opens_bool {t : TypeId} (ht : Tryz.prog.underlying t = some .bool) : Opens Kd.bool t (fun _ => True) := by
  intro H enc w fuel cs y h
  obtain ⟨b, rfl, _⟩ := DataW.trod_bool ht h
  exact ⟨b, rfl, trivial⟩
theorem listOf {α : Type} {p : Nat → α → Prop} : ∀ (n : Nat), (∀ i, i < n → ∃ x, p i x) → ∃ xs : List α, xs.length = n ∧ ∀ i x, xs[i]? = some x → p i x
  | 0, _ => ⟨[], rfl, fun i x h => by simp at h⟩
  | n + 1, h => by
    obtain ⟨xs, hl, hx⟩ := listOf n (fun i hi => h i (by omega))
    obtain ⟨x, hp⟩ := h n (by omega)
    refine ⟨xs ++ [x], by simp [hl], fun i y hy => ?_⟩
    by_cases hi : i < n
    · exact hx i y (by rwa [List.getElem?_append_left (by omega)] at hy)
    · rw [List.getElem?_append_right (by omega)] at hy
      have h0 : i - xs.length = 0 := by
        have := (List.getElem?_eq_some_iff.1 hy).1
        simp at this
        omega
      rw [h0] at hy
      simp at hy
      subst hy
      obtain rfl : i = n := by omega
      exact hp
theorem opens_slice {α : Type} {t e : TypeId} {q : Nat} {d : Kd α} {Q : α → Prop} (ht : Tryz.prog.underlying t = some (.slice e)) (hc : Tryz.prog.cellsOf e = d.sz) (hd : Opens d e Q) : Opens (Kd.slice q d) t (fun xs => ∀ x ∈ xs, Q x) := by
  intro H enc w fuel cs y h
  rcases Deep.open_slice ht h with ⟨rfl, _⟩ | ⟨a, len, cap, m, n, D, Pl, rfl, _, hl, hm, hmm, _, hx⟩
  · exact ⟨[], ⟨none, 0, rfl, Nat.le_refl _, rfl, by simp, fun h => absurd h (by simp)⟩, fun x hx => by cases hx⟩
  · have hm' : len ≤ m := by rw [hmm]; simp only [if_true]; exact hl
    obtain ⟨xs, hxl, hxs⟩ := listOf (p := fun i x => ∃ cs', w.cells? 0 (a.add (i * Tryz.prog.cellsOf e)) (Tryz.prog.cellsOf e) = some cs' ∧ d.K w x cs' ∧ Q x) len (fun i hi => by
      obtain ⟨cs', h1, h2⟩ := hx i (by omega)
      obtain ⟨x, h3, h4⟩ := hd H enc w n cs' _ h2
      exact ⟨x, cs', h1, h3, h4⟩)
    subst hxl
    refine ⟨xs, ⟨some a, cap, rfl, hl, rfl, Nat.le_trans hl hm, fun _ => ⟨a, rfl, fun j x hj => ?_⟩⟩, fun x hx => ?_⟩
    · obtain ⟨cs', h1, h2, _⟩ := hxs j x hj
      refine ⟨cs', d.K_len h2, h2, fun i u hu => ?_⟩
      obtain ⟨_, hlen, hcell⟩ := World.cells?_some h1
      have := hcell i (by have := (List.getElem?_eq_some_iff.1 hu).1; omega)
      rw [Deep.add_add, hc, hu] at this
      exact this
    · obtain ⟨i, hi⟩ := List.mem_iff_getElem?.1 hx
      exact (hxs i x hi).choose_spec.2.2
theorem len3 {α : Type} {l : List α} (h : l.length = 3) : ∃ a b c, l = [a, b, c] := by
  match l, h with
  | [a, b, c], _ => exact ⟨a, b, c, rfl⟩
theorem len6 {α : Type} {l : List α} (h : l.length = 6) : ∃ a b c d e f, l = [a, b, c, d, e, f] := by
  match l, h with
  | [a, b, c, d, e, f], _ => exact ⟨a, b, c, d, e, f, rfl⟩
theorem one3 {t : TypeId} {f0 f1 f2 : Field} (ht : Tryz.prog.underlying t = some (.struct #[f0, f1, f2])) (hc : Tryz.prog.cellsOf t = 3) (o0 : f0.offset = 0) (o1 : f1.offset = 1) (o2 : f2.offset = 2)
    (c0 : Tryz.prog.cellsOf f0.type = 1) (c1 : Tryz.prog.cellsOf f1.type = 1) (c2 : Tryz.prog.cellsOf f2.type = 1) {α β γ : Type} {a : Kd α} {b : Kd β} {c : Kd γ} {Q0 : α → Prop} {Q1 : β → Prop} {Q2 : γ → Prop}
    (h0 : Opens a f0.type Q0) (h1 : Opens b f1.type Q1) (h2 : Opens c f2.type Q2) : Opens (Kd.pair a (Kd.pair b c)) t (fun x => Q0 x.1 ∧ Q1 x.2.1 ∧ Q2 x.2.2) := by
  intro H enc w fuel cs y h
  obtain ⟨xs, k, rfl, _, hl, hxl, hf⟩ := DataW.trod_struct ht h
  rw [hc] at hl
  obtain ⟨y0, y1, y2, rfl⟩ := len3 hxl
  obtain ⟨v0, v1, v2, rfl⟩ := len3 hl
  have z0 := hf 0 _ rfl
  have z1 := hf 1 _ rfl
  have z2 := hf 2 _ rfl
  simp [c0, c1, c2, o0, o1, o2] at z0 z1 z2
  obtain ⟨x0, k0, q0⟩ := h0 _ _ _ _ _ _ z0
  obtain ⟨x1, k1, q1⟩ := h1 _ _ _ _ _ _ z1
  obtain ⟨x2, k2, q2⟩ := h2 _ _ _ _ _ _ z2
  exact ⟨(x0, x1, x2), ⟨[v0], [v1, v2], rfl, k0, [v1], [v2], rfl, k1, k2⟩, q0, q1, q2⟩
theorem one6 {t : TypeId} {f0 f1 f2 f3 f4 f5 : Field} (ht : Tryz.prog.underlying t = some (.struct #[f0, f1, f2, f3, f4, f5])) (hc : Tryz.prog.cellsOf t = 6)
    (o0 : f0.offset = 0) (o1 : f1.offset = 1) (o2 : f2.offset = 2) (o3 : f3.offset = 3) (o4 : f4.offset = 4) (o5 : f5.offset = 5)
    (c0 : Tryz.prog.cellsOf f0.type = 1) (c1 : Tryz.prog.cellsOf f1.type = 1) (c2 : Tryz.prog.cellsOf f2.type = 1) (c3 : Tryz.prog.cellsOf f3.type = 1) (c4 : Tryz.prog.cellsOf f4.type = 1) (c5 : Tryz.prog.cellsOf f5.type = 1)
    {A0 A1 A2 A3 A4 A5 : Type} {d0 : Kd A0} {d1 : Kd A1} {d2 : Kd A2} {d3 : Kd A3} {d4 : Kd A4} {d5 : Kd A5} {Q0 : A0 → Prop} {Q1 : A1 → Prop} {Q2 : A2 → Prop} {Q3 : A3 → Prop} {Q4 : A4 → Prop} {Q5 : A5 → Prop}
    (h0 : Opens d0 f0.type Q0) (h1 : Opens d1 f1.type Q1) (h2 : Opens d2 f2.type Q2) (h3 : Opens d3 f3.type Q3) (h4 : Opens d4 f4.type Q4) (h5 : Opens d5 f5.type Q5) :
    Opens (Kd.pair d0 (Kd.pair d1 (Kd.pair d2 (Kd.pair d3 (Kd.pair d4 d5))))) t (fun x => Q0 x.1 ∧ Q1 x.2.1 ∧ Q2 x.2.2.1 ∧ Q3 x.2.2.2.1 ∧ Q4 x.2.2.2.2.1 ∧ Q5 x.2.2.2.2.2) := by
  intro H enc w fuel cs y h
  obtain ⟨xs, k, rfl, _, hl, hxl, hf⟩ := DataW.trod_struct ht h
  rw [hc] at hl
  obtain ⟨y0, y1, y2, y3, y4, y5, rfl⟩ := len6 hxl
  obtain ⟨v0, v1, v2, v3, v4, v5, rfl⟩ := len6 hl
  have z0 := hf 0 _ rfl
  have z1 := hf 1 _ rfl
  have z2 := hf 2 _ rfl
  have z3 := hf 3 _ rfl
  have z4 := hf 4 _ rfl
  have z5 := hf 5 _ rfl
  simp [c0, c1, c2, c3, c4, c5, o0, o1, o2, o3, o4, o5] at z0 z1 z2 z3 z4 z5
  obtain ⟨x0, k0, q0⟩ := h0 _ _ _ _ _ _ z0
  obtain ⟨x1, k1, q1⟩ := h1 _ _ _ _ _ _ z1
  obtain ⟨x2, k2, q2⟩ := h2 _ _ _ _ _ _ z2
  obtain ⟨x3, k3, q3⟩ := h3 _ _ _ _ _ _ z3
  obtain ⟨x4, k4, q4⟩ := h4 _ _ _ _ _ _ z4
  obtain ⟨x5, k5, q5⟩ := h5 _ _ _ _ _ _ z5
  exact ⟨(x0, x1, x2, x3, x4, x5), ⟨[v0], [v1, v2, v3, v4, v5], rfl, k0, [v1], [v2, v3, v4, v5], rfl, k1, [v2], [v3, v4, v5], rfl, k2, [v3], [v4, v5], rfl, k3, [v4], [v5], rfl, k4, k5⟩, q0, q1, q2, q3, q4, q5⟩
theorem opens_iso {α β : Type} {d : Kd α} {f : β → α} {t : TypeId} {Q : α → Prop} {Q' : β → Prop} (g : α → β) (hg : ∀ x, f (g x) = x) (hq : ∀ x, Q x → Q' (g x)) (h : Opens d t Q) : Opens (Kd.iso d f) t Q' := by
  intro H enc w fuel cs y hy
  obtain ⟨x, hk, hx⟩ := h H enc w fuel cs y hy
  refine ⟨g x, ?_, hq x hx⟩
  show d.K w (f (g x)) cs
  rw [hg]
  exact hk
theorem cells_int : Tryz.prog.cellsOf 3 = 1 := by kernel_rfl
theorem cells_bool : Tryz.prog.cellsOf 4 = 1 := by kernel_rfl
theorem cells_33 : Tryz.prog.cellsOf 33 = 1 := by kernel_rfl
theorem cells_35 : Tryz.prog.cellsOf 35 = 6 := by kernel_rfl
theorem cells_60 : Tryz.prog.cellsOf 60 = 3 := by kernel_rfl
theorem cells_84 : Tryz.prog.cellsOf 84 = 3 := by kernel_rfl
theorem cells_100 : Tryz.prog.cellsOf 100 = 3 := by kernel_rfl
theorem opens_want : Opens kW 100 (fun w => w.kind ≤ 9223372036854775807) :=
  opens_iso (fun x => ⟨x.1, x.2.1, x.2.2⟩) (fun _ => rfl) (fun x hx => (bounds_i64 hx.1).2) (one3 Tryz.underlying100 cells_100 rfl rfl rfl cells_int cells_int cells_int (opens_int Tryz.underlying3) (opens_int Tryz.underlying3) (opens_int Tryz.underlying3))
theorem opens_box : Opens kB 60 (fun _ => True) :=
  opens_iso (fun x => ⟨x.1, x.2.1, x.2.2⟩) (fun _ => rfl) (fun x hx => trivial) (one3 Tryz.underlying60 cells_60 rfl rfl rfl cells_int cells_int cells_int (opens_int Tryz.underlying3) (opens_int Tryz.underlying3) (opens_int Tryz.underlying3))
theorem opens_lot : Opens kL 84 (fun _ => True) :=
  opens_iso (fun x => ⟨x.1, x.2.1, x.2.2⟩) (fun _ => rfl) (fun x hx => trivial) (one3 Tryz.underlying84 cells_84 rfl rfl rfl cells_int cells_int cells_bool (opens_int Tryz.underlying3) (opens_int Tryz.underlying3) (opens_bool Tryz.underlying4))
theorem opens_op : Opens kOp 35 (fun o => Tq.WantsOk o.wants) :=
  opens_iso (fun x => ⟨x.1, x.2.1, x.2.2.1, x.2.2.2.1, x.2.2.2.2.1, x.2.2.2.2.2⟩) (fun _ => rfl) (fun x hx => hx.2.2.2.2.2) (one6 Tryz.underlying35 cells_35 rfl rfl rfl rfl rfl rfl cells_int cells_int cells_int cells_int cells_int cells_33 (opens_int Tryz.underlying3) (opens_int Tryz.underlying3) (opens_int Tryz.underlying3) (opens_int Tryz.underlying3) (opens_int Tryz.underlying3) (opens_slice Tryz.underlying33 cells_100 opens_want))
/-- AN ARGUMENT that is a slice, opened. -/
theorem open_arg_row {H : Type} {enc : TypeId × Value → H} {W : World} {α : Type} {t e : TypeId} {d : Kd α} {Q : α → Prop} {v : Value} {D : DataW H} {p : List MemPlace} (ht : Tryz.prog.underlying t = some (.slice e)) (hc : Tryz.prog.cellsOf e = d.sz) (hd : Opens d e Q)
    (h : DataW.Trod enc Tryz.prog W 0 (fun _ => true) true t v D p) : (∃ a n c, v = .slice a n c) → ∃ A c xs, v = .slice A xs.length c ∧ xs.length ≤ c ∧ d.C W A xs.length xs ∧ ∀ x ∈ xs, Q x := by
  rintro ⟨a, n, c, rfl⟩
  obtain ⟨fuel, hf⟩ := h
  obtain ⟨xs, ⟨A, c', hcs, hl, hC⟩, hq⟩ := opens_slice (q := 0) ht hc hd _ _ _ _ _ _ hf
  simp [Value.cells] at hcs
  obtain ⟨rfl, rfl, rfl⟩ := hcs
  exact ⟨_, _, xs, rfl, hl, hC, hq⟩
end Go.Proofs.YtcliaokoganbaaaGreatDoor
