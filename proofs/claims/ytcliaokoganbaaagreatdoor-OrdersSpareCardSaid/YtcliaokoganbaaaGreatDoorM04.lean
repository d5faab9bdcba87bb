/-
  Part 4 of the proof of the card: lemmas and walks, joined by mergeclaim.py out of the texts BA.
-/
import Derived.Test.YtcliaokoganbaaaGreatDoorM02
import Derived.Test.YtcliaokoganbaaaGreatDoorM03
set_option linter.unusedVariables false
set_option linter.unusedSimpArgs false
namespace Go.Proofs.YtcliaokoganbaaaGreatDoor
open Go Go.RowKit Go.Proofs.YtcliaokoganbaaaGreatDoorW.PrintWords Go.Proofs.YtcliaokoganbaaaGreatDoorW.PrintLast Go.Proofs.YtcliaokoganbaaaGreatDoorW.PrintMore
open Tq (Lot Box Want Take Ord Op)

/-! ### Frames -/
/-- Nothing has turned but blocks of S, and what is new. -/
structure Mut (S : Nat → Prop) (w w' : World) : Prop where
  os : w'.os = w.os
  tape : w'.tape = w.tape
  output : w'.output = w.output
  size : w.heap.size ≤ w'.heap.size
  block : ∀ k, k < w.heap.size → ¬ S k → w'.heap[k]? = w.heap[k]?
section
variable {S S' : Nat → Prop} {a b c w w' : World} {B : Nat}
theorem Mut.refl (S : Nat → Prop) (w : World) : Mut S w w := ⟨rfl, rfl, rfl, Nat.le_refl _, fun _ _ _ => rfl⟩
theorem Mut.trans (h : Mut S a b) (k : Mut S' b c) (hs : ∀ i, S' i → S i ∨ a.heap.size ≤ i) : Mut S a c :=
  ⟨k.os.trans h.os, k.tape.trans h.tape, k.output.trans h.output, Nat.le_trans h.size k.size,
    fun i hi hn => (k.block i (Nat.lt_of_lt_of_le hi h.size) (fun h2 => (hs i h2).elim hn (fun h3 => by omega))).trans (h.block i hi hn)⟩
theorem Mut.mono (h : Mut S w w') (hs : ∀ i, S i → S' i ∨ w.heap.size ≤ i) : Mut S' w w' := (Mut.refl S' w).trans h hs
theorem Mut.of_below (h : Below w.heap.size w w') (S : Nat → Prop) : Mut S w w' := ⟨h.os, h.tape, h.output, h.size, fun i hi _ => h.block i hi⟩
theorem Mut.below (h : Mut S a b) (k : Below b.heap.size b c) : Mut S a c := h.trans (Mut.of_below k (fun _ => False)) (fun _ hf => hf.elim)
theorem Mut.alloc (h : Mut S a w) (o : Obj) : Mut S a (w.alloc o) := h.below (below_alloc (Below.refl _ _) o)
theorem Mut.drew (h : Mut S a w) : Mut S a w.drew := ⟨h.os, h.tape, h.output, h.size, h.block⟩
theorem Mut.drewN (h : Mut S a w) (n : Nat) : Mut S a (w.drewN n) := ⟨h.os, h.tape, h.output, h.size, h.block⟩
theorem Mut.setCell (h : Mut S a w) {p : Addr} (hp : S p.block ∨ a.heap.size ≤ p.block) (u : Value) : Mut S a (w.setCell p u) :=
  h.trans (S' := fun i => i = p.block) ⟨rfl, rfl, rfl, by simp [World.setCell], fun i _ hn => Below.heap_setCell w p u i hn⟩ (fun i hi => by subst hi; exact hp)
theorem Mut.grown (h : Mut S a w) {row : Option Nat} (hg : w.grownBy w' row) (hr : ∀ i, row = some i → S i ∨ a.heap.size ≤ i) : Mut S a w' :=
  h.trans (S' := fun i => row = some i) ⟨hg.os, hg.tape, hg.output, hg.size, fun i hi hn => hg.block i hi (fun he => hn he.symm)⟩ hr
theorem Mut.base (h : Below B a w) (hB : B ≤ w.heap.size) (k : Mut S w w') (hS : ∀ i, S i → B ≤ i) : Below B a w' :=
  h.trans ⟨k.os, k.tape, k.output, k.size, fun i hi => k.block i (by omega) (fun hs => by have := hS i hs; omega)⟩
theorem Mut.below_of (h : Mut S w w') (hS : ∀ i, S i → w.heap.size ≤ i) : Below w.heap.size w w' :=
  ⟨h.os, h.tape, h.output, h.size, fun i hi => h.block i hi (fun hs => by have := hS i hs; omega)⟩
theorem Mut.cell (h : Mut S w w') {p : Addr} {v : Value} (hc : w.cell? p = some v) (hn : ¬ S p.block) : w'.cell? p = some v :=
  (World.cell?_of_block (h.block p.block (World.block_lt_of_cell? w p hc) hn)).trans hc
end

/-! ### Kinds -/
def kW : Kd Want := Kd.iso (Kd.pair (Kd.int .i64) (Kd.pair (Kd.int .i64) (Kd.int .i64))) (fun x => (x.kind, x.count, x.til))
def kT : Kd Take := Kd.iso (Kd.pair (Kd.int .i64) (Kd.int .i64)) (fun x => (x.box, x.n))
def kB : Kd Box := Kd.iso (Kd.pair (Kd.int .i64) (Kd.pair (Kd.int .i64) (Kd.int .i64))) (fun x => (x.lot, x.count, x.tare))
def kL : Kd Lot := Kd.iso (Kd.pair (Kd.int .i64) (Kd.pair (Kd.int .i64) Kd.bool)) (fun x => (x.kind, x.expiry, x.frozen))
def w2s (x : Want) : P.S100 := ⟨x.kind, x.count, x.til⟩
def t2s (x : Take) : P.S66 := ⟨x.box, x.n⟩
def b2s (x : Box) : P.S60 := ⟨x.lot, x.count, x.tare⟩
def l2s (x : Lot) : P.S84 := ⟨x.kind, x.expiry, x.frozen⟩
def o2s (x : Ord) : P.S38 := ⟨x.wants.map w2s, x.due, x.state⟩

theorem C_map {α β : Type} {d' : Kd α} {d : Kd β} {f : α → β} (hs : d'.sz = d.sz) {w : World} (hK : ∀ x cs, d'.K w x cs → d.K w (f x) cs) {A : Option Addr} {n : Nat} {xs : List α} (h : d'.C w A n xs) : d.C w A n (xs.map f) := by
  refine ⟨by rw [List.length_map]; exact h.1, h.2.1, fun hn => ?_⟩
  obtain ⟨ad, e, hc⟩ := h.2.2 hn
  refine ⟨ad, e, fun j p hp => ?_⟩
  rw [List.getElem?_map] at hp
  obtain ⟨x, hx, rfl⟩ := Option.map_eq_some_iff.1 hp
  obtain ⟨c, h1, h2, h3⟩ := hc j x hx
  exact ⟨c, by rw [h1]; exact hs, hK _ _ h2, fun i u hu => by rw [← hs]; exact h3 i u hu⟩
theorem kW_C {w : World} {A : Option Addr} {n : Nat} {xs : List Want} (h : kW.C w A n xs) : P.k100.C w A n (xs.map w2s) := C_map (d := P.k100) (f := w2s) rfl (fun _ _ h => h) h
theorem kT_C {w : World} {A : Option Addr} {n : Nat} {xs : List Take} (h : kT.C w A n xs) : P.k66.C w A n (xs.map t2s) := C_map (d := P.k66) (f := t2s) rfl (fun _ _ h => h) h
theorem kB_C {w : World} {A : Option Addr} {n : Nat} {xs : List Box} (h : kB.C w A n xs) : P.k60.C w A n (xs.map b2s) := C_map (d := P.k60) (f := b2s) rfl (fun _ _ h => h) h
theorem kL_C {w : World} {A : Option Addr} {n : Nat} {xs : List Lot} (h : kL.C w A n xs) : P.k84.C w A n (xs.map l2s) := C_map (d := P.k84) (f := l2s) rfl (fun _ _ h => h) h

theorem kW_open {w : World} {x : Want} {cs : List Value} (h : kW.K w x cs) : cs = [.int .i64 x.kind, .int .i64 x.count, .int .i64 x.til] := by
  obtain ⟨_, _, rfl, rfl, ⟨_, _, rfl, rfl, rfl⟩⟩ := h; rfl
theorem kB_open {w : World} {x : Box} {cs : List Value} (h : kB.K w x cs) : cs = [.int .i64 x.lot, .int .i64 x.count, .int .i64 x.tare] := by
  obtain ⟨_, _, rfl, rfl, ⟨_, _, rfl, rfl, rfl⟩⟩ := h; rfl
theorem kL_open {w : World} {x : Lot} {cs : List Value} (h : kL.K w x cs) : cs = [.int .i64 x.kind, .int .i64 x.expiry, .bool x.frozen] := by
  obtain ⟨_, _, rfl, rfl, ⟨_, _, rfl, rfl, rfl⟩⟩ := h; rfl
theorem kT_open {w : World} {x : Take} {cs : List Value} (h : kT.K w x cs) : cs = [.int .i64 x.box, .int .i64 x.n] := by
  obtain ⟨_, _, rfl, rfl, rfl⟩ := h; rfl
theorem kT_mk (w : World) (x : Take) : kT.K w x [.int .i64 x.box, .int .i64 x.n] := ⟨[_], [_], rfl, rfl, rfl⟩
theorem kT_mkM (w : World) (base : Nat) (ok : Nat → Prop) (x : Take) : kT.M w base ok x [.int .i64 x.box, .int .i64 x.n] := ⟨[_], [_], rfl, rfl, rfl⟩
theorem kT_openM {w : World} {base : Nat} {ok : Nat → Prop} {x : Take} {cs : List Value} (h : kT.M w base ok x cs) : cs = [.int .i64 x.box, .int .i64 x.n] := by
  obtain ⟨_, _, rfl, rfl, rfl⟩ := h; rfl
theorem kW_mkM (w : World) (base : Nat) (ok : Nat → Prop) (x : Want) : kW.M w base ok x [.int .i64 x.kind, .int .i64 x.count, .int .i64 x.til] := ⟨[_], [_, _], rfl, rfl, ⟨[_], [_], rfl, rfl, rfl⟩⟩
theorem kW_openM {w : World} {base : Nat} {ok : Nat → Prop} {x : Want} {cs : List Value} (h : kW.M w base ok x cs) : cs = [.int .i64 x.kind, .int .i64 x.count, .int .i64 x.til] := by
  obtain ⟨_, _, rfl, rfl, ⟨_, _, rfl, rfl, rfl⟩⟩ := h; rfl
theorem kB_mkM (w : World) (base : Nat) (ok : Nat → Prop) (x : Box) : kB.M w base ok x [.int .i64 x.lot, .int .i64 x.count, .int .i64 x.tare] := ⟨[_], [_, _], rfl, rfl, ⟨[_], [_], rfl, rfl, rfl⟩⟩
theorem kB_openM {w : World} {base : Nat} {ok : Nat → Prop} {x : Box} {cs : List Value} (h : kB.M w base ok x cs) : cs = [.int .i64 x.lot, .int .i64 x.count, .int .i64 x.tare] := by
  obtain ⟨_, _, rfl, rfl, ⟨_, _, rfl, rfl, rfl⟩⟩ := h; rfl

/-! ### Elements as the walk spells their cells -/
section
variable {w : World} {A : Option Addr} {n : Nat}
theorem getD_of {α : Type} {xs : List α} {k : Nat} {x z : α} (h : xs[k]? = some x) : xs.getD k z = x := by rw [List.getD_eq_getElem?_getD, h]; rfl
theorem at_W {xs : List Want} (h : kW.C w A n xs) (k : Nat) (x : Want) (hx : xs[k]? = some x) : ∃ ad, A = some ad ∧ w.cell? (ad.add (k * 3)) = some (.int .i64 x.kind) ∧
    w.cell? ⟨(ad.add (k * 3)).block, (ad.add (k * 3)).off + 1, none⟩ = some (.int .i64 x.count) ∧ w.cell? ⟨(ad.add (k * 3)).block, (ad.add (k * 3)).off + 2, none⟩ = some (.int .i64 x.til) := by
  obtain ⟨ad, c, e, _, hK, hc0⟩ := Kd.C_get h x (k : Int) (by omega) (by have := h.1; have := (List.getElem?_eq_some_iff.1 hx).1; omega)
  have hc : ∀ j u, c[j]? = some u → w.cell? (ad.add (k * 3 + j)) = some u := hc0
  rw [Int.toNat_natCast, getD_of hx] at hK
  obtain rfl := kW_open hK
  exact ⟨ad, e, hc 0 _ rfl, by rw [← add_field _ _ 1 (by omega)]; exact hc 1 _ rfl, by rw [← add_field _ _ 2 (by omega)]; exact hc 2 _ rfl⟩
theorem at_B {xs : List Box} (h : kB.C w A n xs) (k : Nat) (x : Box) (hx : xs[k]? = some x) : ∃ ad, A = some ad ∧ w.cell? (ad.add (k * 3)) = some (.int .i64 x.lot) ∧
    w.cell? ⟨(ad.add (k * 3)).block, (ad.add (k * 3)).off + 1, none⟩ = some (.int .i64 x.count) ∧ w.cell? ⟨(ad.add (k * 3)).block, (ad.add (k * 3)).off + 2, none⟩ = some (.int .i64 x.tare) := by
  obtain ⟨ad, c, e, _, hK, hc0⟩ := Kd.C_get h x (k : Int) (by omega) (by have := h.1; have := (List.getElem?_eq_some_iff.1 hx).1; omega)
  have hc : ∀ j u, c[j]? = some u → w.cell? (ad.add (k * 3 + j)) = some u := hc0
  rw [Int.toNat_natCast, getD_of hx] at hK
  obtain rfl := kB_open hK
  exact ⟨ad, e, hc 0 _ rfl, by rw [← add_field _ _ 1 (by omega)]; exact hc 1 _ rfl, by rw [← add_field _ _ 2 (by omega)]; exact hc 2 _ rfl⟩
theorem at_L {xs : List Lot} (h : kL.C w A n xs) (k : Nat) (x : Lot) (hx : xs[k]? = some x) : ∃ ad, A = some ad ∧ w.cell? (ad.add (k * 3)) = some (.int .i64 x.kind) ∧
    w.cell? ⟨(ad.add (k * 3)).block, (ad.add (k * 3)).off + 1, none⟩ = some (.int .i64 x.expiry) ∧ w.cell? ⟨(ad.add (k * 3)).block, (ad.add (k * 3)).off + 2, none⟩ = some (.bool x.frozen) := by
  obtain ⟨ad, c, e, _, hK, hc0⟩ := Kd.C_get h x (k : Int) (by omega) (by have := h.1; have := (List.getElem?_eq_some_iff.1 hx).1; omega)
  have hc : ∀ j u, c[j]? = some u → w.cell? (ad.add (k * 3 + j)) = some u := hc0
  rw [Int.toNat_natCast, getD_of hx] at hK
  obtain rfl := kL_open hK
  exact ⟨ad, e, hc 0 _ rfl, by rw [← add_field _ _ 1 (by omega)]; exact hc 1 _ rfl, by rw [← add_field _ _ 2 (by omega)]; exact hc 2 _ rfl⟩
theorem at_T {xs : List Take} (h : kT.C w A n xs) (k : Nat) (x : Take) (hx : xs[k]? = some x) : ∃ ad, A = some ad ∧ w.cell? (ad.add (k * 2)) = some (.int .i64 x.box) ∧
    w.cell? ⟨(ad.add (k * 2)).block, (ad.add (k * 2)).off + 1, none⟩ = some (.int .i64 x.n) := by
  obtain ⟨ad, c, e, _, hK, hc0⟩ := Kd.C_get h x (k : Int) (by omega) (by have := h.1; have := (List.getElem?_eq_some_iff.1 hx).1; omega)
  have hc : ∀ j u, c[j]? = some u → w.cell? (ad.add (k * 2 + j)) = some u := hc0
  rw [Int.toNat_natCast, getD_of hx] at hK
  obtain rfl := kT_open hK
  exact ⟨ad, e, hc 0 _ rfl, by rw [← add_field _ _ 1 (by omega)]; exact hc 1 _ rfl⟩
/-- A cell that is known, in a later world. -/
theorem cell_on {w w1 : World} {p : Addr} {v : Value} (hb : Below w.heap.size w w1) (hc : w.cell? p = some v) : w1.cell? p = some v := (hb.cell (World.block_lt_of_cell? w p hc)).trans hc
end

/-- A slice whose elements lead to no common block. -/
def aslice {α : Type} (e : Nat) (d : Kd α) : Kd (List α) where
  sz := 1
  E := e :: d.E
  K := fun w xs cs => ∃ A c, cs = [.slice A xs.length c] ∧ xs.length ≤ c ∧ d.C w A xs.length xs
  M := fun w base ok xs cs => ∃ v, cs = [v] ∧ Kd.S d e w base ok v xs
  K_len := by rintro w x cs ⟨A, c, rfl, _⟩; rfl
  K_one := by rintro w x cs ⟨A, c, rfl, _⟩ u hu; rw [List.mem_singleton.1 hu]; rfl
  K_below := by rintro w w1 x cs hb ⟨A, c, rfl, hl, hr⟩; exact ⟨A, c, rfl, hl, Kd.C_below hr hb⟩
  K_of_M := by rintro w base ok x cs ⟨v, rfl, h⟩; obtain ⟨A, c, rfl, hl, hr⟩ := Kd.S_reads h; exact ⟨A, c, rfl, hl, hr⟩
  M_mono := by rintro w base ok ok' x cs hok ⟨v, rfl, h⟩; exact ⟨v, rfl, Kd.S_mono h hok⟩
  M_bound := by rintro w base ok x cs ⟨v, rfl, h⟩; exact ⟨v, rfl, Kd.S_bound h⟩
  M_move := by rintro w w1 base ok x cs hm ⟨v, rfl, h⟩; exact ⟨v, rfl, Kd.S_move h hm⟩
  M_lower := by rintro w base base' ok x cs hb ⟨v, rfl, h⟩; exact ⟨v, rfl, Kd.S_lower h hb⟩
/-- The takes of a want; those of all wants; an order. -/
def kTs : Kd (List Take) := Kd.slice 66 kT
def kTss : Kd (List (List Take)) := aslice 53 kTs
def kO : Kd Ord := Kd.iso (Kd.pair (Kd.slice 100 kW) (Kd.pair (Kd.int .i64) (Kd.pair (Kd.int .i64) kTss))) (fun o => (o.wants, o.due, o.state, o.takes))
theorem kO_openM {w : World} {base : Nat} {ok : Nat → Prop} {x : Ord} {cs : List Value} (h : kO.M w base ok x cs) :
    ∃ v0 v3, cs = [v0, .int .i64 x.due, .int .i64 x.state, v3] ∧ kW.R 100 w base ok v0 x.wants ∧ Kd.S kTs 53 w base ok v3 x.takes := by
  obtain ⟨_, _, rfl, ⟨v0, rfl, h0⟩, ⟨_, _, rfl, rfl, ⟨_, _, rfl, rfl, ⟨v3, rfl, h3⟩⟩⟩⟩ := h
  exact ⟨v0, v3, rfl, h0, h3⟩
theorem kO_mkM {w : World} {base : Nat} {ok : Nat → Prop} (x : Ord) {v0 v3 : Value} (h0 : kW.R 100 w base ok v0 x.wants) (h3 : Kd.S kTs 53 w base ok v3 x.takes) :
    kO.M w base ok x [v0, .int .i64 x.due, .int .i64 x.state, v3] :=
  ⟨[_], [_, _, _], rfl, ⟨v0, rfl, h0⟩, ⟨[_], [_, _], rfl, rfl, ⟨[_], [_], rfl, rfl, ⟨v3, rfl, h3⟩⟩⟩⟩

/-! ### The book in memory -/
def BookAt (w : World) (B : Nat) (ok : Nat → Prop) (g : Nat) (os : List Ord) : Prop :=
  ∃ v, w.heap[g]? = some (.cells #[v] 93 (0, 0)) ∧ ok g ∧ B ≤ g ∧ Kd.S kO 96 w B (fun k => ok k ∧ k ≠ g) v os
section
variable {w w' : World} {B g : Nat} {ok ok' : Nat → Prop} {os : List Ord}
theorem BookAt.lt (h : BookAt w B ok g os) : g < w.heap.size := by
  obtain ⟨v, hb, _⟩ := h
  exact (Array.getElem?_eq_some_iff.1 hb).1
theorem BookAt.ge (h : BookAt w B ok g os) : B ≤ g := by obtain ⟨v, _, _, h, _⟩ := h; exact h
theorem BookAt.okg (h : BookAt w B ok g os) : ok g := by obtain ⟨v, _, h, _⟩ := h; exact h
theorem BookAt.step (h : BookAt w B ok g os) (hm : ∀ k, ok k → k < w.heap.size → w'.heap[k]? = w.heap[k]?) : BookAt w' B ok g os := by
  have hl := h.lt
  obtain ⟨v, hb, ho, hB, hS⟩ := h
  exact ⟨v, (hm g ho hl).trans hb, ho, hB, Kd.S_step hS (fun k hk hlt => hm k hk.1 hlt)⟩
theorem BookAt.below (h : BookAt w B ok g os) (hb : Below w.heap.size w w') : BookAt w' B ok g os := h.step (fun k _ hk => hb.block k hk)
theorem BookAt.mono (h : BookAt w B ok g os) (hok : ∀ k, ok k → ok' k) : BookAt w B ok' g os := by
  obtain ⟨v, hb, ho, hB, hS⟩ := h
  exact ⟨v, hb, hok g ho, hB, Kd.S_mono hS (fun k hk => ⟨hok k hk.1, hk.2⟩)⟩
theorem BookAt.bound (h : BookAt w B ok g os) : BookAt w B (fun k => ok k ∧ B ≤ k ∧ k < w.heap.size) g os := by
  have hl := h.lt
  obtain ⟨v, hb, ho, hB, hS⟩ := h
  exact ⟨v, hb, ⟨ho, hB, hl⟩, hB, Kd.S_mono (Kd.S_bound hS) (fun k hk => ⟨⟨hk.1.1, hk.2.1, hk.2.2.1⟩, hk.1.2⟩)⟩
theorem BookAt.lower {B' : Nat} (h : BookAt w B ok g os) (hB : B' ≤ B) : BookAt w B' ok g os := by
  obtain ⟨v, hb, ho, h1, hS⟩ := h
  exact ⟨v, hb, ho, Nat.le_trans hB h1, Kd.S_lower hS hB⟩
theorem BookAt.mut {S : Nat → Prop} (h : BookAt w B ok g os) (hm : Mut S w w') (hn : ∀ k, ok k → ¬ S k) : BookAt w' B ok g os := h.step (fun k hk hlt => hm.block k hlt (hn k hk))
theorem BookAt.drewN (h : BookAt w B ok g os) (n : Nat) : BookAt (w.drewN n) B ok g os := h
theorem BookAt.drew (h : BookAt w B ok g os) : BookAt w.drew B ok g os := h
theorem BookAt.alloc (h : BookAt w B ok g os) (o : Obj) : BookAt (w.alloc o) B ok g os := h.below (below_alloc (Below.refl _ _) o)

/-- The field 'orders'. -/
theorem BookAt.head (h : BookAt w B ok g os) : ∃ A c, w.cell? ⟨g, 0, none⟩ = some (.slice A os.length c) ∧ w.frozen? ⟨g, 0, none⟩ = false ∧ os.length ≤ 9223372036854775807 ∧ Kd.S kO 96 w B (fun k => ok k ∧ k ≠ g) (.slice A os.length c) os ∧ (0 < os.length → ∃ gr, A = some ⟨gr, 0, none⟩) := by
  obtain ⟨v, hb, ho, hB, hS⟩ := h
  obtain ⟨A, c, rfl, hl, hr⟩ := Kd.S_reads hS
  refine ⟨A, c, ?_, ?_, hr.2.1, hS, fun hp => ?_⟩
  · rw [cell_of_row w g 0 _ _ _ hb]; rfl
  · simp [World.frozen?, hb]
  · obtain ⟨gr, cap, he, _⟩ := Kd.S_form hS hp
    injection he with he
    exact ⟨gr, he⟩
/-- One order. -/
theorem BookAt.elem (h : BookAt w B ok g os) {A : Option Addr} {c : Nat} (hc : w.cell? ⟨g, 0, none⟩ = some (.slice A os.length c)) (no : Int) (h0 : 0 ≤ no) (h1 : no < os.length) :
    ∃ gr v0 v3 oki, A = some ⟨gr, 0, none⟩ ∧ gr ≠ g ∧ ok gr ∧ B ≤ gr ∧ (∃ cs, w.heap[gr]? = some (.cells cs 96 (0, 0))) ∧
      w.cell? ⟨gr, no.toNat * 4, none⟩ = some v0 ∧ w.cell? ⟨gr, no.toNat * 4 + 1, none⟩ = some (.int .i64 (os.getD no.toNat default).due) ∧ w.cell? ⟨gr, no.toNat * 4 + 2, none⟩ = some (.int .i64 (os.getD no.toNat default).state) ∧ w.cell? ⟨gr, no.toNat * 4 + 3, none⟩ = some v3 ∧
      (∀ j, w.frozen? ⟨gr, no.toNat * 4 + j, none⟩ = false) ∧ kW.R 100 w B oki v0 (os.getD no.toNat default).wants ∧ Kd.S kTs 53 w B oki v3 (os.getD no.toNat default).takes ∧ (∀ k, oki k → (ok k ∧ k ≠ g) ∧ k ≠ gr) ∧
      Kd.H kO 96 w B (fun k => ok k ∧ k ≠ g) (.slice (some ⟨gr, 0, none⟩) os.length c) os no oki [v0, .int .i64 (os.getD no.toNat default).due, .int .i64 (os.getD no.toNat default).state, v3] := by
  obtain ⟨A', c', hc', _, _, hS, hA⟩ := h.head
  rw [hc] at hc'
  injection hc' with hc'
  injection hc' with e1 e2 e3
  subst e1; subst e3
  obtain ⟨gr, rfl⟩ := hA (by omega)
  have hB := Kd.S_base hS gr (by simp [Value.ownBlock])
  have hty := Kd.S_typed hS gr (by simp [Value.ownBlock])
  obtain ⟨oki, cc, hcl, hM, hcc, hfr, hoki, hH⟩ := Kd.S_elem hS default no h0 h1
  obtain ⟨v0, v3, rfl, hw, ht⟩ := kO_openM hM
  have hcc' : ∀ j u, [v0, .int .i64 (os.getD no.toNat default).due, .int .i64 (os.getD no.toNat default).state, v3][j]? = some u → w.cell? ⟨gr, no.toNat * 4 + j, none⟩ = some u := hcc
  have hok := (Kd.S_R hS).1 gr (by simp [Value.ownBlock])
  exact ⟨gr, v0, v3, oki, rfl, hok.2, hok.1, hB, hty, by simpa using hcc' 0 _ rfl, hcc' 1 _ rfl, hcc' 2 _ rfl, hcc' 3 _ rfl, hfr, hw, ht, hoki, hH⟩
end
end Go.Proofs.YtcliaokoganbaaaGreatDoor
