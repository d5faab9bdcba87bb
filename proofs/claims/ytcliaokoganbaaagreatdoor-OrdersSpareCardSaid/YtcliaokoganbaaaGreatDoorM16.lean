/-
  Part 16 of the proof of the card: lemmas and walks, joined by mergeclaim.py out of the texts EK, EL, EM, FA.
-/
import Derived.Test.YtcliaokoganbaaaGreatDoorM15
import Derived.Deep.RegionLaw
set_option linter.unusedVariables false
set_option linter.unusedSimpArgs false
namespace Go.Proofs.YtcliaokoganbaaaGreatDoor
open Go Go.RowKit Go.Shelf Go.Proofs.YtcliaokoganbaaaGreatDoorW.PrintWords Go.Proofs.YtcliaokoganbaaaGreatDoorW.PrintLast Go.Proofs.YtcliaokoganbaaaGreatDoorW.PrintMore
open Tq (Lot Box Want Take Ord Op BookInv OrdInv)

/-! ### Serve: the ways out with an error -/
theorem fromW_ord {o : Ord} (h : OrdInv o) (body : Int) : fromW body o.takes.flatten = Tq.fromOrd o body := by
  have hf := ordInv_flat h
  have hb := fromTakes_le body o.takes.flatten 20000 (fun t ht => by have := (hf.2 t ht).2.2; omega)
  exact fromW_eq body _ (fun t ht => by have := (hf.2 t ht).2.2.1; omega) (by have := hf.1; omega)
set_option maxRecDepth 100000 in
set_option maxHeartbeats 2000000 in
theorem f28_none (B g : Nat) (ok : Nat → Prop) (os : List Ord) (no body n tick : Int) (w : World) (h : BookAt w B ok g os) (hst : Tq.stateAt os no = none) :
    Calls Tryz.prog 28 #[.pointer (some ⟨g, 0, none⟩), .int .i64 no, .int .i64 body, .int .i64 n, .int .i64 tick] w fun e w' => e = .returned (.int .i64 4) ∧ Below w.heap.size w w' := by
  have hW := h.alloc (.cells #[.int .i64 1] 3)
  obtain ⟨A1, c1, hc, hf, hn, _, _⟩ := hW.head
  have hcall := f55_none g A1 os.length c1 no (.slice (some ⟨w.heap.size, 0, none⟩) 1 1) _ hn hc (state_none hst)
  have hbA := below_alloc (Below.refl w.heap.size w) (.cells #[.int .i64 1] 3)
  clear h hW hc hf hst
  go_enter Tryz.func28, Tryz.ntmps28
  go_wp2_with (go_at_call 55; refine hcall.mono ?_; rintro e w1 ⟨rfl, hb⟩)
  go_ret
  exact ⟨rfl, hbA.trans (hb.mono (by simp))⟩
set_option maxRecDepth 100000 in
set_option maxHeartbeats 2000000 in
theorem f28_bad (B g : Nat) (ok : Nat → Prop) (os : List Ord) (no body n tick : Int) (o : Ord) (w : World) (h : BookAt w B ok g os) (hst : Tq.stateAt os no = some o) (hs : o.state ≠ 1) :
    Calls Tryz.prog 28 #[.pointer (some ⟨g, 0, none⟩), .int .i64 no, .int .i64 body, .int .i64 n, .int .i64 tick] w fun e w' => e = .returned (.int .i64 7) ∧ Below w.heap.size w w' := by
  have hW := h.alloc (.cells #[.int .i64 1] 3)
  obtain ⟨A1, c1, hc, hf, hn, _, _⟩ := hW.head
  obtain ⟨h0, h1, hget⟩ := state_some hst
  obtain ⟨gr, v0, v3, oki, rfl, hne, hokr, hBr, hlt, k0, k1, k2, k3, hfz, hw, ht, hoki, hH⟩ := hW.lend hc h0 h1
  rw [hget] at k2
  have hcall := f55_any g gr os.length c1 no o.state [1] (some ⟨w.heap.size, 0, none⟩) 1 _ hn hc h0 h1 k2 (C_lit w [1] (by decide)) (by decide) (by decide)
  have hcn : [(1 : Int)].contains o.state = false := by simp [hs]
  rw [hcn] at hcall
  simp only [Bool.false_eq_true, if_false, List.length_cons, List.length_nil] at hcall
  have hbA := below_alloc (Below.refl w.heap.size w) (.cells #[.int .i64 1] 3)
  clear h hW hc hf hst k0 k1 k2 k3 hfz hw ht hoki hH hcn
  go_enter Tryz.func28, Tryz.ntmps28
  go_wp2_with (go_at_call 55; refine hcall.mono ?_; rintro e w1 ⟨rfl, hb⟩)
  go_ret
  exact ⟨rfl, hbA.trans (hb.mono (by simp))⟩
set_option maxRecDepth 100000 in
set_option maxHeartbeats 2000000 in
theorem f28_few (B g : Nat) (ok : Nat → Prop) (os : List Ord) (no body n tick : Int) (o : Ord) (w : World) (h : BookAt w B ok g os) (hi : BookInv os) (hst : Tq.stateAt os no = some o) (hs : o.state = 1) (hbad : n < 1 ∨ Tq.fromOrd o body < n) :
    Calls Tryz.prog 28 #[.pointer (some ⟨g, 0, none⟩), .int .i64 no, .int .i64 body, .int .i64 n, .int .i64 tick] w fun e w' => e = .returned (.int .i64 (if n < 1 then 1 else 22)) ∧ Below w.heap.size w w' := by
  have hW := h.alloc (.cells #[.int .i64 1] 3)
  obtain ⟨A1, c1, hc, hf, hn, _, _⟩ := hW.head
  obtain ⟨h0, h1, hget⟩ := state_some hst
  have hom : o ∈ os := by
    rw [List.getD_eq_getElem?_getD, List.getElem?_eq_getElem (by omega)] at hget
    rw [← hget]; exact List.getElem_mem _
  have hfo := fromW_ord (hi.all o hom) body
  obtain ⟨gr, v0, v3, oki, rfl, hne, hokr, hBr, hlt, k0, k1, k2, k3, hfz, hw, ht, hoki, hH⟩ := hW.lend hc h0 h1
  rw [hget] at k2 ht
  have hcall := f55_any g gr os.length c1 no o.state [1] (some ⟨w.heap.size, 0, none⟩) 1 _ hn hc h0 h1 k2 (C_lit w [1] (by decide)) (by decide) (by decide)
  have hcn : [(1 : Int)].contains o.state = true := by simp [hs]
  rw [hcn] at hcall
  simp only [if_true, List.length_cons, List.length_nil] at hcall
  have hbA := below_alloc (Below.refl w.heap.size w) (.cells #[.int .i64 1] 3)
  obtain ⟨A3, c3, rfl, _, hC3⟩ := Kd.S_reads ht
  have HC3 := Aside0.mk hC3
  clear h hW hc hf hst k0 k1 k2 hfz hw ht hoki hH hcn hC3 hget
  by_cases hn1 : n < 1
  · rw [if_pos hn1]
    go_enter Tryz.func28, Tryz.ntmps28
    go_wp2_with (go_at_call 55; refine hcall.mono ?_; rintro e w1 ⟨rfl, hb⟩)
    go_ret
    exact ⟨rfl, hbA.trans (hb.mono (by simp))⟩
  · rw [if_neg hn1]
    have hlt2 : fromW body o.takes.flatten < n := by rw [hfo]; omega
    have hfrom := fun (W : World) (hb : Below (w.alloc (.cells #[.int .i64 1] 3)).heap.size (w.alloc (.cells #[.int .i64 1] 3)) W) => f62_any gr (no.toNat * 4) A3 c3 o.takes body W (cell_on hb k3) (Kd.C_below HC3.out hb)
    generalize fromW body o.takes.flatten = fw at hlt2 hfrom
    clear hfo hbad
    go_enter Tryz.func28, Tryz.ntmps28
    go_wp2_with (first
      | (go_at_call 55; refine hcall.mono ?_; rintro e w1 ⟨rfl, hb⟩; have hfr := hfrom w1 hb)
      | (go_at_call 62; refine hfr.mono ?_; rintro e w2 ⟨rfl, hb2⟩))
    go_ret
    exact ⟨rfl, hbA.trans ((hb.trans (hb2.mono hb.size)).mono (by simp))⟩
end Go.Proofs.YtcliaokoganbaaaGreatDoor
set_option linter.unusedVariables false
set_option linter.unusedSimpArgs false
namespace Go.Proofs.YtcliaokoganbaaaGreatDoor
open Go Go.RowKit Go.Shelf Go.Proofs.YtcliaokoganbaaaGreatDoorW.PrintWords Go.Proofs.YtcliaokoganbaaaGreatDoorW.PrintLast Go.Proofs.YtcliaokoganbaaaGreatDoorW.PrintMore
open Tq (Lot Box Want Take Ord Op BookInv OrdInv)

/-! ### Serve: what the loops do -/
structure SrvAt (body n0 : Int) (tss : List (List Take)) (i : Nat) (cur : List (List Take)) (n : Int) : Prop where
  eq : Tq.serveAll body n0 tss = cur.take i ++ Tq.serveAll body n (tss.drop i)
  len : cur.length = tss.length
  tail : cur.drop i = tss.drop i
  n0 : 0 ≤ n
  n1 : n ≤ 9223372036854775807
structure SrvIn (body n1 : Int) (l : List Take) (k : Nat) (lc : List Take) (n : Int) : Prop where
  eq : Tq.serveTakes body n1 l = (lc.take k ++ (Tq.serveTakes body n (l.drop k)).1, (Tq.serveTakes body n (l.drop k)).2)
  len : lc.length = l.length
  tail : lc.drop k = l.drop k
  n0 : 0 ≤ n
  n1 : n ≤ 9223372036854775807
theorem drop_cons {α : Type} {l : List α} {k : Nat} {t : α} (h : l[k]? = some t) : l.drop k = t :: l.drop (k + 1) := by
  obtain ⟨hk, e⟩ := List.getElem?_eq_some_iff.1 h
  rw [List.drop_eq_getElem_cons hk, e]
theorem take_succ_set {α : Type} {l : List α} {k : Nat} {t : α} (h : k < l.length) : (l.set k t).take (k + 1) = l.take k ++ [t] := by
  rw [List.take_add_one, List.take_set_of_le (by omega), List.getElem?_set_self h]; rfl
theorem srvIn_start (body n1 : Int) (l : List Take) (h0 : 0 ≤ n1) (h1 : n1 ≤ 9223372036854775807) : SrvIn body n1 l 0 l n1 := ⟨by simp, rfl, rfl, h0, h1⟩
theorem srvIn_skip {body n1 : Int} {l lc : List Take} {k : Nat} {n : Int} {t : Take} (h : SrvIn body n1 l k lc n) (ht : lc[k]? = some t) (hb : t.box ≠ body) : SrvIn body n1 l (k + 1) lc n := by
  have hlt : l.drop k = t :: l.drop (k + 1) := by
    have e := h.tail
    rw [drop_cons ht] at e
    have : l[k]? = some t := by
      have := congrArg (fun x => x[0]?) e
      simpa using this.symm
    exact drop_cons this
  refine ⟨?_, h.len, ?_, h.n0, h.n1⟩
  · rw [h.eq, hlt, Tq.serveTakes, if_neg hb, List.take_add_one, ht]; simp
  · rw [← List.drop_drop, h.tail, List.drop_drop]
theorem srvIn_take {body n1 : Int} {l lc : List Take} {k : Nat} {n m : Int} {t : Take} (h : SrvIn body n1 l k lc n) (ht : lc[k]? = some t) (hb : t.box = body) (hm : m = min n t.n) (hm0 : 0 ≤ m) : SrvIn body n1 l (k + 1) (lc.set k ⟨t.box, t.n - m⟩) (n - m) := by
  have hkl := (List.getElem?_eq_some_iff.1 ht).1
  have hlt : l.drop k = t :: l.drop (k + 1) := by
    have e := h.tail
    rw [drop_cons ht] at e
    have : l[k]? = some t := by
      have := congrArg (fun x => x[0]?) e
      simpa using this.symm
    exact drop_cons this
  have hn := h.n0
  have hn1 := h.n1
  refine ⟨?_, by rw [List.length_set]; exact h.len, ?_, by omega, by omega⟩
  · rw [h.eq, hlt, Tq.serveTakes, if_pos hb, take_succ_set hkl, ← hm]; simp
  · rw [List.drop_set_of_lt (by omega), ← List.drop_drop, h.tail, List.drop_drop]
theorem srvIn_end {body n1 : Int} {l lc : List Take} {n : Int} (h : SrvIn body n1 l l.length lc n) : Tq.serveTakes body n1 l = (lc, n) := by
  rw [h.eq, List.drop_length, Tq.serveTakes, ← h.len, List.take_length]; simp
theorem srvAt_start (body n0 : Int) (tss : List (List Take)) (h0 : 0 ≤ n0) (h1 : n0 ≤ 9223372036854775807) : SrvAt body n0 tss 0 tss n0 := ⟨by simp, rfl, rfl, h0, h1⟩
theorem srvAt_step {body n0 : Int} {tss cur : List (List Take)} {i : Nat} {n n' : Int} {l lc : List Take} (h : SrvAt body n0 tss i cur n) (hl : cur[i]? = some l) (hs : Tq.serveTakes body n l = (lc, n')) (h0 : 0 ≤ n') (h1 : n' ≤ 9223372036854775807) :
    SrvAt body n0 tss (i + 1) (cur.set i (lc.filter fun t => !decide (t.n = 0))) n' := by
  have hil := (List.getElem?_eq_some_iff.1 hl).1
  have hlt : tss.drop i = l :: tss.drop (i + 1) := by
    have e := h.tail
    rw [drop_cons hl] at e
    have : tss[i]? = some l := by
      have := congrArg (fun x => x[0]?) e
      simpa using this.symm
    exact drop_cons this
  refine ⟨?_, by rw [List.length_set]; exact h.len, ?_, h0, h1⟩
  · rw [h.eq, hlt, Tq.serveAll, hs, take_succ_set hil]
    have e : (fun t : Take => decide (t.n ≠ 0)) = fun t => !decide (t.n = 0) := by funext t; simp
    simp only [e]; simp
  · rw [List.drop_set_of_lt (by omega), ← List.drop_drop, h.tail, List.drop_drop]
theorem srvAt_end {body n0 : Int} {tss cur : List (List Take)} {n : Int} (h : SrvAt body n0 tss tss.length cur n) : Tq.serveAll body n0 tss = cur := by
  rw [h.eq, List.drop_length, Tq.serveAll, ← h.len, List.take_length]; simp
theorem any_step {cur : List (List Take)} {i : Nat} {l : List Take} (h : i < cur.length) : ((cur.set i l).take (i + 1)).any (fun x => !x.isEmpty) = ((cur.take i).any (fun x => !x.isEmpty) || decide (0 < l.length)) := by
  rw [take_succ_set h, List.any_append]
  cases l <;> simp
end Go.Proofs.YtcliaokoganbaaaGreatDoor
set_option linter.unusedVariables false
set_option linter.unusedSimpArgs false
namespace Go.Proofs.YtcliaokoganbaaaGreatDoor
open Go Go.RowKit Go.Shelf Go.Proofs.YtcliaokoganbaaaGreatDoorW.PrintWords Go.Proofs.YtcliaokoganbaaaGreatDoorW.PrintLast Go.Proofs.YtcliaokoganbaaaGreatDoorW.PrintMore
open Tq (Lot Box Want Take Ord Op BookInv OrdInv)

theorem Mut.frozen {S : Nat → Prop} {w w' : World} (h : Mut S w w') {p : Addr} {v : Value} (hc : w.cell? p = some v) (hn : ¬ S p.block) (hf : w.frozen? p = false) : w'.frozen? p = false :=
  (World.frozen?_of_block (h.block p.block (World.block_lt_of_cell? w p hc) hn)).trans hf
/-- The takes of an order, apart from its wants. -/
theorem takes_apart {w : World} {B : Nat} {oki : Nat → Prop} {v0 v3 : Value} {ws : List Want} {tss : List (List Take)} (hw : kW.R 100 w B oki v0 ws) (ht : Kd.S kTs 53 w B oki v3 tss) :
    kW.R 100 w B (fun k => v0.ownBlock = some k) v0 ws ∧ Kd.S kTs 53 w B (fun k => oki k ∧ v0.ownBlock ≠ some k) v3 tss := by
  obtain ⟨h0, inner, hown, hr⟩ := hw
  refine ⟨⟨fun k hk => hk, inner, hown, hr.imp_ (fun x cs hM => by obtain rfl := kW_openM hM; exact kW_mkM _ _ _ x)⟩, Kd.S_mono (Kd.S_bound ht) (fun k hk => ⟨hk.1, fun e => ?_⟩)⟩
  obtain ⟨_, _, _, q, hq, cells, hc⟩ := hk
  obtain ⟨cells', hc'⟩ := own_typed hown k e
  rw [hc] at hc'
  injection hc' with hc'
  injection hc' with _ hq' _
  subst hq'
  revert hq
  decide
set_option maxRecDepth 100000 in
set_option maxHeartbeats 4000000 in
theorem f28_go (B g : Nat) (ok : Nat → Prop) (os : List Ord) (no body n tick : Int) (o : Ord) (w : World) (h : BookAt w B ok g os) (hBw : B ≤ w.heap.size) (hi : BookInv os) (hst : Tq.stateAt os no = some o) (hs : o.state = 1) (hn1 : 1 ≤ n) (hfew : n ≤ Tq.fromOrd o body) :
    Calls Tryz.prog 28 #[.pointer (some ⟨g, 0, none⟩), .int .i64 no, .int .i64 body, .int .i64 n, .int .i64 tick] w fun e w' =>
      e = .returned (.int .i64 (Tq.serve os no body n tick).1) ∧ BookAt w' B (fun k => ok k ∨ w.heap.size ≤ k) g (Tq.serve os no body n tick).2 ∧ Mut ok w w' := by
  have hW := h.alloc (.cells #[.int .i64 1] 3)
  obtain ⟨A1, c1, hc, hf, hn, _, _⟩ := hW.head
  obtain ⟨h0, h1, hget⟩ := state_some hst
  have hom : o ∈ os := by
    rw [List.getD_eq_getElem?_getD, List.getElem?_eq_getElem (by omega)] at hget
    rw [← hget]; exact List.getElem_mem _
  have hoi := hi.all o hom
  have hfo := fromW_ord hoi body
  have hot := ordInv_takes hoi
  have hof := ordInv_flat hoi
  have hfl := fromTakes_le body o.takes.flatten 20000 (fun t ht => by have := (hof.2 t ht).2.2; omega)
  have hnM : n ≤ 9223372036854775807 := by
    have : Tq.fromOrd o body = Tq.fromTakes body o.takes.flatten := rfl
    have := hof.1
    omega
  obtain ⟨gr, v0, v3, oki, rfl, hne, hokr, hBr, hlt, k0, k1, k2, k3, hfz, hw, ht, hoki, hH⟩ := hW.lend hc h0 h1
  rw [hget] at k1 k2 hw ht hH
  have hcall := f55_any g gr os.length c1 no o.state [1] (some ⟨w.heap.size, 0, none⟩) 1 _ hn hc h0 h1 k2 (C_lit w [1] (by decide)) (by decide) (by decide)
  have hcn : [(1 : Int)].contains o.state = true := by simp [hs]
  rw [hcn] at hcall
  simp only [if_true, List.length_cons, List.length_nil] at hcall
  have hbA := below_alloc (Below.refl w.heap.size w) (.cells #[.int .i64 1] 3)
  have hW0 : (w.alloc (.cells #[.int .i64 1] 3)).heap.size = w.heap.size + 1 := by simp
  obtain ⟨hwa, hta⟩ := takes_apart hw ht
  obtain ⟨A3, c3, rfl, _, hC3⟩ := Kd.S_reads ht
  have HC3 := Aside0.mk hC3
  have HH := Aside0.mk hH
  have HWA := Aside0.mk hwa
  have HTA := Aside0.mk hta
  have HO := Aside0.mk hoki
  have HOT := Aside0.mk hot
  have HWO := Aside0.mk hw.1
  have hfrom := fun (W : World) (hb : Below (w.alloc (.cells #[.int .i64 1] 3)).heap.size (w.alloc (.cells #[.int .i64 1] 3)) W) => f62_any gr (no.toNat * 4) A3 c3 o.takes body W (cell_on hb k3) (Kd.C_below HC3.out hb)
  rw [hfo] at hfrom
  have hsv : Tq.serve os no body n tick = (0, Tq.setOrd os no (if (Tq.serveAll body n o.takes).any (fun l => !l.isEmpty) then { o with takes := Tq.serveAll body n o.takes } else { o with takes := [], state := if tick ≤ o.due then 2 else 3 })) := by
    unfold Tq.serve
    rw [hst]
    simp only
    rw [if_neg (by omega), if_neg (by omega), if_neg (by omega)]
  rw [hsv]
  generalize hres : Tq.setOrd os no (if (Tq.serveAll body n o.takes).any (fun l => !l.isEmpty) then { o with takes := Tq.serveAll body n o.takes } else { o with takes := [], state := if tick ≤ o.due then 2 else 3 }) = res
  have HRES := Aside0.mk hres
  clear hres
  have hf2 := hfz 2
  have hf3 := hfz 3
  have HB0 := Aside0.mk h
  have HL20 := Aside0.mk (show o.takes.length ≤ 20 from hot.1)
  clear hst h hc hf hn hget hcn hw ht hH hoki hW hfz hsv hwa hta hC3 hfl hof hoi hfo hot
  generalize hfw : Tq.fromOrd o body = fw at hfrom hfew
  go_enter Tryz.func28, Tryz.ntmps28
  go_wp2_with (first
    | (go_at_call 55; refine hcall.mono ?_; rintro e w1 ⟨rfl, hb⟩; have hfr := hfrom w1 hb; have k31 := cell_on hb k3)
    | (go_at_call 62; refine hfr.mono ?_; rintro e w2 ⟨rfl, hb2⟩; have k32 := cell_on hb2 k31))
  have hb12 : Below (w.alloc (.cells #[.int .i64 1] 3)).heap.size (w.alloc (.cells #[.int .i64 1] 3)) w2 := hb.trans (hb2.mono hb.size)
  have HB12 := Aside0.mk hb12
  have hltw2 : gr < w2.heap.size := Nat.lt_of_lt_of_le hlt hb12.size
  have TA2 := Aside0.mk (Kd.S_below HTA.out hb12)
  have hgrT : ¬ (oki gr ∧ v0.ownBlock ≠ some gr) := fun h => (HO.out gr h.1).2 rfl
  have K12 := Aside0.mk (cell_on HB12.out k1)
  have K22 := Aside0.mk (cell_on HB12.out k2)
  have F22 := Aside0.mk ((HB12.out.frozen (p := ⟨gr, no.toNat * 4 + 2, none⟩) hlt).trans hf2)
  have F32 := Aside0.mk ((HB12.out.frozen (p := ⟨gr, no.toNat * 4 + 3, none⟩) hlt).trans hf3)
  generalize hOT : (fun k => oki k ∧ v0.ownBlock ≠ some k) = okT at *
  have hgrT2 : ¬ okT gr := by rw [← hOT]; exact hgrT
  clear hb hb2 hb12 hfr hcall hfrom k0 k1 k2 k3 k31 hgrT
  go_loopw [3, 13, 43] (fun s3 s13 s43 wr => ∃ (i : Nat) (m : Int) (cur : List (List Take)), i ≤ o.takes.length ∧ s43 = .int .i64 i ∧ s3 = .int .i64 m ∧ s13 = .bool ((cur.take i).any (fun x => !x.isEmpty)) ∧ Aside0 (SrvAt body n o.takes i cur m) ∧
    Aside0 (Kd.S kTs 53 wr B okT (.slice A3 o.takes.length c3) cur) ∧ Aside0 (Mut okT w2 wr)) (fun _ _ s43 _ => o.takes.length - (intOf s43).toNat)
  case atStart => exact ⟨0, n, o.takes, Nat.zero_le _, rfl, rfl, by simp, ⟨srvAt_start _ _ _ (by omega) hnM⟩, TA2, ⟨Mut.refl _ _⟩⟩
  case round =>
    clear TA2
    obtain ⟨i, m, cur, hil, rfl, rfl, rfl, SA, SW, MW⟩ := hrel
    have hcl := SA.out.len
    have k3r : wr.cell? ⟨gr, no.toNat * 4 + 3, none⟩ = some (.slice A3 o.takes.length c3) := MW.out.cell k32 hgrT2
    by_cases hlt2 : i < o.takes.length
    · have hltz : (i : Int) < (o.takes.length : Int) := by omega
      have hlcur : i < cur.length := by omega
      have hlm : cur[i]? = some (cur.getD i default) := by rw [List.getD_eq_getElem?_getD, List.getElem?_eq_getElem hlcur]; rfl
      have hlto : o.takes[i]? = some (cur.getD i default) := by
        have e := SA.out.tail
        rw [drop_cons hlm] at e
        have := congrArg (fun x => x[0]?) e
        simpa using this.symm
      have hlok := HOT.out.2 _ (List.mem_of_getElem? hlto)
      obtain ⟨g3, hg3⟩ : ∃ g3, A3 = some ⟨g3, 0, none⟩ := by
        obtain ⟨g3, cap, e, _⟩ := Kd.S_form SW.out (by omega)
        injection e with e _ _
        exact ⟨g3, e⟩
      subst hg3
      have hg3ok : okT g3 := (Kd.S_R SW.out).1 g3 rfl
      obtain ⟨okl, cc, hccl, hMl, hcc, hfr3, hokl, hHl⟩ := Kd.S_elem SW.out default (i : Int) (by omega) (by omega)
      obtain ⟨v5, rfl, hR5⟩ := hMl
      rw [Int.toNat_natCast] at hcc hfr3 hR5
      generalize hl : cur.getD i default = l at *
      obtain ⟨A5, c5, rfl⟩ := Kd.R_slice hR5
      have ci : wr.cell? ⟨g3, i, none⟩ = some (.slice A5 l.length c5) := by have := hcc 0 _ rfl; simpa [kTs, Kd.slice] using this
      have fi : wr.frozen? ⟨g3, i, none⟩ = false := by have := hfr3 0; simpa [kTs, Kd.slice] using this
      obtain ⟨w4, hw4⟩ : ∃ w4, w4 = wr := ⟨_, rfl⟩
      have hg3T : ¬ okl g3 := fun h => (hokl g3 h).2 rfl
      have hgrl : ¬ okl gr := fun h => hgrT2 (hokl gr h).1
      have K3 := Aside0.mk (show w4.cell? ⟨gr, no.toNat * 4 + 3, none⟩ = some (.slice (some ⟨g3, 0, none⟩) o.takes.length c3) by rw [hw4]; exact k3r)
      have CI := Aside0.mk (show w4.cell? ⟨g3, i, none⟩ = some (.slice A5 l.length c5) by rw [hw4]; exact ci)
      have FI := Aside0.mk (show w4.frozen? ⟨g3, i, none⟩ = false by rw [hw4]; exact fi)
      have M4 := Aside0.mk (show Mut okT w2 w4 by rw [hw4]; exact MW.out)
      have H4 := Aside0.mk (show Kd.H kTs 53 w4 B okT (.slice (some ⟨g3, 0, none⟩) o.takes.length c3) cur (i : Int) okl [.slice A5 l.length c5] by rw [hw4]; exact hHl)
      have R4' := Aside0.mk (show kT.R 66 wr B okl (.slice A5 l.length c5) l from hR5)
      have MR := Aside0.mk (show Mut okl w4 wr by rw [hw4]; exact Mut.refl _ _)
      have HLM := Aside0.mk hlm
      have hll : l.length ≤ 20000 := hlok.1
      have HTK := Aside0.mk hlok.2
      have HOKL := Aside0.mk hokl
      clear hcc hfr3 hHl hR5 hlto hccl hlm hlok hokl hl SW MW fi hw4
      go_wp2
      go_loopw [3, 54] (fun s3 s54 wr => ∃ (k : Nat) (q : Int) (lc : List Take), k ≤ l.length ∧ s54 = .int .i64 k ∧ s3 = .int .i64 q ∧ Aside0 (SrvIn body m l k lc q) ∧ Aside0 (kT.R 66 wr B okl (.slice A5 l.length c5) lc) ∧ Aside0 (Mut okl w4 wr)) (fun _ s54 _ => l.length - (intOf s54).toNat)
      case atStart => exact ⟨0, m, l, Nat.zero_le _, rfl, rfl, ⟨srvIn_start _ _ _ SA.out.n0 SA.out.n1⟩, R4', MR⟩
      case round =>
        obtain ⟨k, q, lc, hkl, rfl, rfl, SI, RW, MW⟩ := hrel
        have hlcl := SI.out.len
        have k3r := MW.out.cell K3.out hgrl
        have cir := MW.out.cell CI.out hg3T
        by_cases hlt3 : k < l.length
        · have hltz3 : (k : Int) < (l.length : Int) := by omega
          obtain ⟨t, htk⟩ : ∃ t, lc[k]? = some t := ⟨_, List.getElem?_eq_getElem (by omega)⟩
          have htl : l[k]? = some t := by
            have e := SI.out.tail
            rw [drop_cons htk] at e
            have := congrArg (fun x => x[0]?) e
            simpa using this.symm
          have htok := HTK.out t (List.mem_of_getElem? htl)
          have htn := htok.2.2
          have hown : wr.ownsRow B 66 2 (.slice A5 l.length c5) l.length (lc.flatMap tCells) := by have := kT_flat RW.out; rwa [hlcl] at this
          obtain ⟨g5, hg5⟩ : ∃ g5, A5 = some ⟨g5, 0, none⟩ := by
            obtain ⟨g5, cap, e, _⟩ := hown.form (by omega)
            injection e with e _ _
            exact ⟨g5, e⟩
          subst hg5
          have ct0 : wr.cell? ⟨g5, k * 2, none⟩ = some (.int .i64 t.box) := by rw [hown.cellAt (k * 2) (by omega)]; exact flat_get tCells_len lc k t htk 0 (by omega)
          have ct1 : wr.cell? ⟨g5, k * 2 + 1, none⟩ = some (.int .i64 t.n) := by rw [hown.cellAt (k * 2 + 1) (by omega)]; exact flat_get tCells_len lc k t htk 1 (by omega)
          have ft1 := hown.frozenAt (k * 2 + 1)
          have hok5 : okl g5 := RW.out.1 g5 rfl
          have hq0 := SI.out.n0
          have hq1 := SI.out.n1
          have HTT := Aside0.mk htk
          clear htk htl
          by_cases hb : t.box = body
          · obtain ⟨mm, hmm⟩ : ∃ mm, mm = min q t.n := ⟨_, rfl⟩
            have hmn : (if t.n < q then t.n else q) = mm := by split <;> omega
            have hw1 : IntKind.i64.wrap (t.n - mm) = t.n - mm := by rw [IntKind.wrap_i64]; omega
            have hw2 : IntKind.i64.wrap (q - mm) = q - mm := by rw [IntKind.wrap_i64]; omega
            have SI2 := Aside0.mk (srvIn_take SI.out HTT.out hb hmm (by omega))
            have hst := (hown.stored (k * 2 + 1) (.int .i64 (t.n - mm))).1
            rw [flat_set tCells_len lc k t (⟨t.box, t.n - mm⟩ : Take) HTT.out 1 _ (by omega) rfl] at hst
            have RW2 := Aside0.mk (show kT.R 66 (wr.setCell ⟨g5, k * 2 + 1, none⟩ (.int .i64 (t.n - mm))) B okl (.slice (some ⟨g5, 0, none⟩) l.length c5) (lc.set k ⟨t.box, t.n - mm⟩) from flat_kT (by rw [List.length_set, hlcl]; exact hst) (fun j hj => RW.out.1 j hj))
            have MW2 := Aside0.mk (MW.out.setCell (p := ⟨g5, k * 2 + 1, none⟩) (.inl hok5) (.int .i64 (t.n - mm)))
            have hbb : (t.box == body) = true := by simp [hb]
            clear hst hmm hown
            go_wp2
            go_roundw
            case rel => exact ⟨k + 1, q - mm, lc.set k ⟨t.box, t.n - mm⟩, by omega, by go_num, rfl, SI2, RW2, MW2⟩
            case measure => simp [intOf]; omega
          · have SI2 := Aside0.mk (srvIn_skip SI.out HTT.out hb)
            have hbb : (t.box == body) = false := by simp [hb]
            go_wp2
            go_roundw
            case rel => exact ⟨k + 1, q, lc, by omega, by go_num, rfl, SI2, RW, MW⟩
            case measure => simp [intOf]; omega
        · have hltz3 : ¬ (k : Int) < (l.length : Int) := by omega
          have E : k = l.length := by omega
          subst E
          have hend := srvIn_end SI.out
          have hdel : Calls Tryz.prog 66 #[.slice A5 l.length c5, .func (.func 67) #[] #[]] wr.drew fun e w' => e = .returned (.slice A5 (lc.filter (fun t => !decide (t.n = 0))).length c5) ∧
              kT.R 66 w' B okl (.slice A5 (lc.filter (fun t => !decide (t.n = 0))).length c5) (lc.filter (fun t => !decide (t.n = 0))) ∧ Mut (fun k => (Value.slice A5 l.length c5).ownBlock = some k) wr.drew w' := by
            have := f66_any 67 #[] (fun x => decide (x.n = 0)) B c5 A5 okl lc wr.drew (by rw [hlcl]; exact RW.out) (by omega) (enters_of Tryz.func67 (by kernel_rfl) rfl) (fun ws w => pred67 ws w)
            rwa [hlcl] at this
          have SA6 := Aside0.mk (srvAt_step SA.out HLM.out hend SI.out.n0 SI.out.n1)
          have hicl : i < cur.length := by omega
          have AS := Aside0.mk (any_step (l := lc.filter (fun t => !decide (t.n = 0))) hicl)
          have firl := MW.out.frozen CI.out hg3T FI.out
          have hown5 : ∀ k, (Value.slice A5 l.length c5).ownBlock = some k → okl k := fun k hk => RW.out.1 k hk
          generalize hfl : lc.filter (fun t => !decide (t.n = 0)) = fl at *
          have HOW := Aside0.mk hown5
          clear hend hown5
          go_wp2_with fail
          go_region_law (go_simp; go_at_call 66; refine hdel.mono ?_; rintro e w5 ⟨rfl, hR5, hM5⟩; have hM45 : Mut okl w4 w5 := MW.out.drew.trans hM5 (fun k hk => .inl (HOW.out k hk)); have k35 := hM45.cell K3.out hgrl; have ci5 := hM45.cell CI.out hg3T; have fi5 := hM45.frozen CI.out hg3T FI.out)
          all_goals (
            rename_i Kn hKn
            refine hKn _ _ ?_
            clear hKn
            have H5 := (Kd.H_seg (seg := [Value.slice A5 fl.length c5]) (j := 0) (Kd.H_step H4.out (fun k _ hk hlt => hM45.block k hlt hk)) (by omega) hltz (by show 0 + 1 ≤ 1; omega) (fun q hq => by rw [List.mem_singleton.1 hq]; rfl)).1
            have e0 : (i : Int).toNat * kTs.sz + 0 = i := by simp [kTs, Kd.slice]
            rw [e0] at H5
            have H6 : Kd.H kTs 53 (w5.setCell ⟨g3, i, none⟩ (.slice A5 fl.length c5)) B okT (.slice (some ⟨g3, 0, none⟩) o.takes.length c3) cur (i : Int) okl [.slice A5 fl.length c5] := H5
            have R6 : kT.R 66 (w5.setCell ⟨g3, i, none⟩ (.slice A5 fl.length c5)) B okl (.slice A5 fl.length c5) fl := Kd.R_far (p := ⟨g3, i, none⟩) hR5 (fun k hk => (HOKL.out k hk).2) _
            have S6 := Aside0.mk (Kd.H_back (x' := fl) H6 ⟨_, rfl, R6⟩ (fun _ hk => hk))
            have M6 := Aside0.mk ((M4.out.trans hM45 (fun k hk => .inl (HOKL.out k hk).1)).setCell (p := ⟨g3, i, none⟩) (.inl hg3ok) (.slice A5 fl.length c5))
            have hne3 : gr ≠ g3 := fun e => hgrT2 (e ▸ hg3ok)
            have ki6 : (w5.setCell ⟨g3, i, none⟩ (.slice A5 fl.length c5)).cell? ⟨g3, i, none⟩ = some (.slice A5 fl.length c5) := World.cell?_setCell_same' _ _ _ (by rw [ci5]; rfl)
            have k36 : (w5.setCell ⟨g3, i, none⟩ (.slice A5 fl.length c5)).cell? ⟨gr, no.toNat * 4 + 3, none⟩ = some (.slice (some ⟨g3, 0, none⟩) o.takes.length c3) := (World.cell?_of_block (Below.heap_setCell w5 _ _ gr hne3)).trans k35
            rw [Int.toNat_natCast] at S6
            clear H5 H6 R6 hR5 hM5 hM45 hdel e0 ci5 k35 fi5 k3r cir ci firl hne3
            generalize w5.setCell ⟨g3, i, none⟩ (.slice A5 fl.length c5) = w6 at *
            have hl20 := HL20.out
            cases hlf : (cur.take i).any (fun x => !x.isEmpty) with
            | true =>
              have HLF := Aside0.mk hlf
              go_wp2
              go_roundw
              case rel => exact ⟨i + 1, q, cur.set i fl, by omega, by go_num, rfl, by rw [AS.out, HLF.out]; rfl, SA6, S6, M6⟩
              case measure => simp [intOf]; omega
            | false =>
              have HLF := Aside0.mk hlf
              go_wp2
              go_roundw
              case rel => exact ⟨i + 1, q, cur.set i fl, by omega, by go_num, rfl, by rw [AS.out, HLF.out]; simp, SA6, S6, M6⟩
              case measure => simp [intOf]; omega)
    · have hltz : ¬ (i : Int) < (o.takes.length : Int) := by omega
      have E : i = o.takes.length := by omega
      subst E
      have hfin := srvAt_end SA.out
      have htc : cur.take o.takes.length = cur := by rw [← hcl, List.take_length]
      rw [htc]
      have k1r := MW.out.cell K12.out hgrT2
      have k2r := MW.out.cell K22.out hgrT2
      have f2r := MW.out.frozen K22.out hgrT2 F22.out
      have f3r := MW.out.frozen k32 hgrT2 F32.out
      have hoT : ∀ k, okT k → oki k := fun k hk => by rw [← hOT] at hk; exact hk.1
      have hoT0 : ∀ k, v0.ownBlock = some k → ¬ okT k := fun k hk h => by rw [← hOT] at h; exact h.2 hk
      have H2 := Aside0.mk ((HH.out.below HB12.out).step (fun h => (HO.out g h).1.2 rfl) (fun k _ hk hlt => MW.out.block k hlt (fun h => hk (hoT k h))))
      have W2 := Aside0.mk (Kd.R_mono (Kd.R_step (Kd.R_below HWA.out HB12.out) (fun k hk hlt => MW.out.block k hlt (hoT0 k hk))) (fun k hk => HWO.out k hk))
      have S2 := Aside0.mk (Kd.S_mono SW.out hoT)
      have M2 := Aside0.mk ((Mut.of_below (hbA.trans (HB12.out.mono (by omega))) ok).trans MW.out (fun k hk => .inl (HO.out k (hoT k hk)).1.1))
      have HF := Aside0.mk hfin
      clear hfin hoT hoT0 SW MW SA htc
      cases hlf : cur.any (fun x => !x.isEmpty) with
      | true =>
        have HLF := Aside0.mk hlf
        clear hlf k1r k2r f2r f3r k3r
        go_wp2
        go_ret
        refine ⟨rfl, ?_, M2.out⟩
        show BookAt wr B _ g res
        rw [← HRES.out, HF.out, HLF.out, if_pos rfl]
        exact (H2.out.back (x := { o with takes := cur }) (kO_mkM { o with takes := cur } W2.out S2.out)).mono (fun k hk => .inl hk)
      | false =>
        have HLF := Aside0.mk hlf
        clear hlf
        have k3s := k3r
        by_cases htd : tick ≤ o.due
        · have HTD := Aside0.mk htd
          go_wp2
          go_ret
          have H3 := (((H2.out.set hne 3 (by omega) (.slice none 0 0) rfl).set hne 2 (by omega) (.int .i64 3) rfl).set hne 2 (by omega) (.int .i64 2) rfl)
          refine ⟨rfl, ?_, ((M2.out.setCell (p := ⟨gr, no.toNat * 4 + 3, none⟩) (.inl hokr) _).setCell (p := ⟨gr, no.toNat * 4 + 2, none⟩) (.inl hokr) _).setCell (p := ⟨gr, no.toNat * 4 + 2, none⟩) (.inl hokr) _⟩
          show BookAt _ B _ g res
          rw [← HRES.out, HF.out, HLF.out, if_neg (by decide), if_pos HTD.out]
          refine (H3.back (x := { o with takes := [], state := 2 }) (kO_mkM { o with takes := [], state := 2 } ?_ S_nil_any)).mono (fun k hk => .inl hk)
          exact Kd.R_far (p := ⟨gr, no.toNat * 4 + 2, none⟩) (Kd.R_far (p := ⟨gr, no.toNat * 4 + 2, none⟩) (Kd.R_far (p := ⟨gr, no.toNat * 4 + 3, none⟩) W2.out (fun k hk => (HO.out k hk).2) _) (fun k hk => (HO.out k hk).2) _) (fun k hk => (HO.out k hk).2) _
        · have HTD := Aside0.mk htd
          have htd2 : o.due < tick := by omega
          go_wp2
          go_ret
          have H3 := ((H2.out.set hne 3 (by omega) (.slice none 0 0) rfl).set hne 2 (by omega) (.int .i64 3) rfl)
          refine ⟨rfl, ?_, (M2.out.setCell (p := ⟨gr, no.toNat * 4 + 3, none⟩) (.inl hokr) _).setCell (p := ⟨gr, no.toNat * 4 + 2, none⟩) (.inl hokr) _⟩
          show BookAt _ B _ g res
          rw [← HRES.out, HF.out, HLF.out, if_neg (by decide), if_neg (show ¬ tick ≤ o.due by have := HTD.out; omega)]
          refine (H3.back (x := { o with takes := [], state := 3 }) (kO_mkM { o with takes := [], state := 3 } ?_ S_nil_any)).mono (fun k hk => .inl hk)
          exact Kd.R_far (p := ⟨gr, no.toNat * 4 + 2, none⟩) (Kd.R_far (p := ⟨gr, no.toNat * 4 + 3, none⟩) W2.out (fun k hk => (HO.out k hk).2) _) (fun k hk => (HO.out k hk).2) _
/-- Serve is 'Tq.serve'. -/
theorem f28_any (B g : Nat) (ok : Nat → Prop) (os : List Ord) (no body n tick : Int) (w : World) (h : BookAt w B ok g os) (hBw : B ≤ w.heap.size) (hi : BookInv os) :
    Calls Tryz.prog 28 #[.pointer (some ⟨g, 0, none⟩), .int .i64 no, .int .i64 body, .int .i64 n, .int .i64 tick] w fun e w' =>
      e = .returned (.int .i64 (Tq.serve os no body n tick).1) ∧ BookAt w' B (fun k => ok k ∨ w.heap.size ≤ k) g (Tq.serve os no body n tick).2 ∧ Mut ok w w' := by
  cases hst : Tq.stateAt os no with
  | none =>
    have hp : Tq.serve os no body n tick = (4, os) := by unfold Tq.serve; rw [hst]
    rw [hp]
    refine (f28_none B g ok os no body n tick w h hst).mono ?_
    rintro e w' ⟨rfl, hb⟩
    exact ⟨rfl, (h.below hb).mono (fun k hk => .inl hk), Mut.of_below hb ok⟩
  | some o =>
    by_cases hs : o.state = 1
    · by_cases hbad : n < 1 ∨ Tq.fromOrd o body < n
      · have hp : Tq.serve os no body n tick = (if n < 1 then 1 else 22, os) := by
          unfold Tq.serve; rw [hst]; simp only
          rw [if_neg (by omega)]
          by_cases h1 : n < 1
          · rw [if_pos h1, if_pos h1]
          · rw [if_neg h1, if_neg h1, if_pos (by omega)]
        rw [hp]
        refine (f28_few B g ok os no body n tick o w h hi hst hs hbad).mono ?_
        rintro e w' ⟨rfl, hb⟩
        exact ⟨rfl, (h.below hb).mono (fun k hk => .inl hk), Mut.of_below hb ok⟩
      · exact f28_go B g ok os no body n tick o w h hBw hi hst hs (by omega) (by omega)
    · have hp : Tq.serve os no body n tick = (7, os) := by unfold Tq.serve; rw [hst]; simp only; rw [if_pos hs]
      rw [hp]
      refine (f28_bad B g ok os no body n tick o w h hst hs).mono ?_
      rintro e w' ⟨rfl, hb⟩
      exact ⟨rfl, (h.below hb).mono (fun k hk => .inl hk), Mut.of_below hb ok⟩
end Go.Proofs.YtcliaokoganbaaaGreatDoor
set_option linter.unusedVariables false
set_option linter.unusedSimpArgs false
namespace Go.Proofs.YtcliaokoganbaaaGreatDoor
open Go Go.RowKit Go.Shelf Go.Proofs.YtcliaokoganbaaaGreatDoorW.PrintWords Go.Proofs.YtcliaokoganbaaaGreatDoorW.PrintLast Go.Proofs.YtcliaokoganbaaaGreatDoorW.PrintMore
open Tq (Lot Box Want Take Ord Op BookInv OrdInv)

/-! ### Reserved -/
theorem reserved_take (os : List Ord) (k : Nat) (o : Ord) (b : Int) (h : os[k]? = some o) : Tq.reserved (os.take (k + 1)) b = Tq.reserved (os.take k) b + Tq.fromOrd o b := by
  rw [reserved_eq, reserved_eq, take_snoc h, fromTakes_append]; rfl
theorem bookInv_take {os : List Ord} (h : BookInv os) (k : Nat) : BookInv (os.take k) := ⟨fun o ho => h.all o (List.mem_of_mem_take ho), by have := h.len; rw [List.length_take]; omega⟩
set_option maxRecDepth 100000 in
set_option maxHeartbeats 2000000 in
theorem f26_any (B g : Nat) (ok : Nat → Prop) (os : List Ord) (body : Int) (w : World) (h : BookAt w B ok g os) (hi : BookInv os) :
    Calls Tryz.prog 26 #[.pointer (some ⟨g, 0, none⟩), .int .i64 body] w fun e w' => e = .returned (.int .i64 (Tq.reserved os body)) ∧ Below w.heap.size w w' := by
  obtain ⟨A, c, hc, hf, hmax, _, _⟩ := h.head
  have HB := Aside0.mk h
  have HI := Aside0.mk hi
  clear h hi
  go_enter Tryz.func26, Tryz.ntmps26
  go_wp2
  go_loopw [5, 12] (fun s5 s12 wr => ∃ k : Nat, k ≤ os.length ∧ s12 = .int .i64 k ∧ s5 = .int .i64 (Tq.reserved (os.take k) body) ∧ Aside0 (Below w.heap.size w wr)) (fun _ s12 _ => os.length - (intOf s12).toNat)
  case atStart => exact ⟨0, Nat.zero_le _, rfl, rfl, ⟨Below.refl _ _⟩⟩
  case round =>
    obtain ⟨k, hk, rfl, rfl, BW⟩ := hrel
    have hcr := cell_on BW.out hc
    by_cases hlt : k < os.length
    · have hltz : (k : Int) < (os.length : Int) := by omega
      obtain ⟨x, hget⟩ : ∃ x, os[k]? = some x := ⟨_, List.getElem?_eq_getElem hlt⟩
      have hgd : os.getD k default = x := getD_of hget
      have hrt := reserved_take os k x body hget
      have hfo := fromW_ord (HI.out.all x (List.mem_of_getElem? hget)) body
      have hb1 := fromTakes_bounds (bookInv_take HI.out (k + 1)) body
      rw [← reserved_eq] at hb1
      obtain ⟨gr, hgr, A3, c3, q3, hC3⟩ : ∃ gr, A = some ⟨gr, 0, none⟩ ∧ ∃ A3 c3, w.cell? ⟨gr, k * 4 + 3, none⟩ = some (.slice A3 x.takes.length c3) ∧ kTs.C w A3 x.takes.length x.takes := by
        obtain ⟨gr, v0, v3, oki, rfl, hne, _, _, _, q0, _, _, q3, _, hw0, hS3, _, _⟩ := HB.out.elem hc (k : Int) (by omega) hltz
        rw [Int.toNat_natCast] at q3
        rw [Int.toNat_natCast, hgd] at hS3
        obtain ⟨A3, c3, rfl, _, hC3⟩ := Kd.S_reads hS3
        exact ⟨gr, rfl, A3, c3, q3, hC3⟩
      subst hgr
      have hcall := f62_any gr (k * 4) A3 c3 x.takes body wr (cell_on BW.out q3) (Kd.C_below hC3 BW.out)
      rw [hfo] at hcall
      have hwr : IntKind.i64.wrap (Tq.reserved (os.take k) body + Tq.fromOrd x body) = Tq.reserved (os.take (k + 1)) body := by rw [IntKind.wrap_i64]; omega
      clear hget hgd hC3 q3 hrt hfo hb1
      go_wp2_with (go_at_call 62; refine hcall.mono ?_; rintro e w3 ⟨rfl, hb3⟩)
      go_roundw
      case rel => exact ⟨k + 1, by omega, by go_num, rfl, ⟨BW.out.trans (hb3.mono BW.out.size)⟩⟩
      case measure => simp [intOf]; omega
    · have hltz : ¬ (k : Int) < (os.length : Int) := by omega
      have E : k = os.length := by omega
      subst E
      rw [List.take_length]
      go_wp2
      go_ret
      exact ⟨rfl, BW.out⟩
end Go.Proofs.YtcliaokoganbaaaGreatDoor
