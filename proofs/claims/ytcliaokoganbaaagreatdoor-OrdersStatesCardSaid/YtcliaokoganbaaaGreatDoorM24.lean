/-
  Proved: the card Rows.OrdersStatesCardSaid: for every input taquinlaw42.OrdersStates returns true, and each argument reads afterwards as it read before. Conditions: those of the given row and card alone: the five package-level variables that the row lists start as the program text lays them (the tie is given).
-/
import Derived.Test.YtcliaokoganbaaaGreatDoorM21
import Derived.Test.YtcliaokoganbaaaGreatDoorM23
set_option linter.unusedVariables false
namespace Go.Proofs.YtcliaokoganbaaaGreatDoor
open Go Go.RowKit Go.ChangeShapes Go.WideShapes Go.ChangeAt Go.Proofs.YtcliaokoganbaaaGreatDoorW.PrintWords
open Tq (Lot Box Want Take Ord BookInv OrdInv)
set_option maxRecDepth 100000 in
set_option maxHeartbeats 8000000 in
theorem f3_any (AL AS AO : Option Addr) (cl cs co : Nat) (lots : List Lot) (sure : List Box) (ops : List Tq.Op) (w : World) (hs : Std w) (hL : kL.C w AL lots.length lots) (hcl : lots.length ≤ cl) (hS : kB.C w AS sure.length sure) (hcs : sure.length ≤ cs)
    (hO : kOp.C w AO ops.length ops) (hco : ops.length ≤ co) (hmax : ops.length ≤ 9223372036854775806) (hok : OpsOk ops) :
    Calls Tryz.prog 3 #[.slice AL lots.length cl, .slice AS sure.length cs, .slice AO ops.length co] w fun e w' => e = .returned (.bool true) ∧ Below w.heap.size w w' := by
  cases hf : fewB ops 40 with
  | true => exact f3_go AL AS AO cl cs co lots sure ops w hs hL hcl hS hcs hO hco hmax hok hf
  | false =>
    have h7 := f7_any w
    have h8 := fun W (hb : Below w.heap.size w W) => f8_any AO co ops 40 W (Kd.C_below hO hb) hco hmax
    rw [hf] at h8
    have H8 := Aside0.mk h8
    clear hf hs hL hS hO hok h8 hmax
    go_enter Tryz.func3, Tryz.ntmps3
    go_wp2_with (go_at_call 7; refine h7.mono ?_; rintro e w1 ⟨rfl, hb1⟩; refine Hid.out ?_)
    refine Lib.hid ?_
    have c8 := H8.out w1 hb1
    go_wp2_with (go_at_call 8; refine c8.mono ?_; rintro e w2 ⟨rfl, hb2⟩; refine Hid.out ?_)
    refine Lib.hid ?_
    go_wp2
    go_ret
    exact ⟨rfl, hb1.trans (hb2.mono hb1.size)⟩
/-- the ops' row is no longer than its weight allows -/
theorem sized_len {H : Type} {enc : TypeId × Value → H} {W : World} {t e : TypeId} {a : Option Addr} {len cap : Nat} {d : DataW H} {ps : List MemPlace} {ts : List TypeId} {ds : List (DataW H)} {j : Nat}
    (hsz : (DataW.weightsEach Tryz.prog ts ds).all (· ≤ reachBytes) = true) (ht : ts[j]? = some t) (hd : ds[j]? = some d) (hu : Tryz.prog.underlying t = some (.slice e)) (hB : 1 ≤ Tryz.prog.bytesOf e)
    (h : DataW.Trod enc Tryz.prog W 0 (fun _ => true) true t (.slice a len cap) d ps) : len ≤ 140737488351232 := by
  obtain ⟨fuel, hf⟩ := h
  rcases Deep.open_slice hu hf with ⟨hcs, _⟩ | ⟨x, l, c, m, n, D, Pl, hcs, _, hl, _, hm, hx, _⟩
  · simp [Value.cells] at hcs
    omega
  · simp [Value.cells] at hcs
    obtain ⟨rfl, rfl, rfl⟩ := hcs
    obtain ⟨hx, _⟩ := Prod.mk.inj hx
    subst hx
    have z := sized_slice hsz ht hd hu
    have h1 : len ≤ (((List.range len).map D).length + ((List.range (m - len)).map fun j => D (len + j)).length) * Tryz.prog.bytesOf e := by
      refine Nat.le_trans ?_ (Nat.le_mul_of_pos_right _ hB)
      simp
    exact Nat.le_trans h1 z
set_option maxRecDepth 100000 in
set_option maxHeartbeats 2000000 in
theorem states_contract (H : Type) (enc : TypeId × Value → H) (W : World) (base : Nat) (args : Array Value) (ds gs : List (DataW H)) (before : List MemPlace)
    (hval : ∀ (j : Nat) t v, Tryz.f3.params[j]? = some t → args[j]? = some v → Value.okWide Tryz.prog W .any base t v)
    (hW : DataW.Whole enc Tryz.prog Tryz.f3.params.toList Rows.ordersStatesSpec.vars false W args.toList ds gs before)
    (hsz0 : (DataW.weightsEach Tryz.prog (Tryz.f3.params.toList ++ Rows.ordersStatesSpec.plain.varTypes Tryz.prog) (ds ++ gs)).all (· ≤ reachBytes) = true) (hL : laidMetH Tryz.prog laidL W) :
    Calls Tryz.prog 3 args W fun e W' => ∃ v, e = .returned v ∧ Rows.ordersStatesSpec.post enc Tryz.prog Tryz.f3 false true false false W args v W' := by
  have hW' := hW
  obtain ⟨p, q, hA0, hV, rfl, hfz, hnd⟩ := hW
  have hA : DataW.TrodAll enc Tryz.prog W 0 (fun _ => true) true Tryz.f3.params.toList args.toList ds p := hA0
  rw [Tryz.params3] at hA hval hsz0
  obtain ⟨v0, vs0, d0, ds0, p0, q0, hargs, rfl, rfl, h0, r0⟩ := trodAll_cons hA
  obtain ⟨v1, vs1, d1, ds1, p1, q1, rfl, rfl, rfl, h1, r1⟩ := trodAll_cons r0
  obtain ⟨v2, vs2, d2, ds2, p2, q2, rfl, rfl, rfl, h2, r2⟩ := trodAll_cons r1
  obtain ⟨rfl, rfl, rfl⟩ := trodAll_nil r2
  obtain rfl : args = #[v0, v1, v2] := by cases args; simp_all
  obtain ⟨rfl, rfl⟩ := trodVars_none hV
  have k0 := h0
  have k1 := h1
  have k2 := h2
  have lt0 : ∀ x ∈ p0, x.block < W.heap.size := by obtain ⟨m, hm⟩ := k0; exact DataW.trod_lt m _ _ _ hm
  have lt1 : ∀ x ∈ p1, x.block < W.heap.size := by obtain ⟨m, hm⟩ := k1; exact DataW.trod_lt m _ _ _ hm
  have lt2 : ∀ x ∈ p2, x.block < W.heap.size := by obtain ⟨m, hm⟩ := k2; exact DataW.trod_lt m _ _ _ hm
  obtain ⟨AL, cl, lots, rfl, hcl, hL0, _⟩ := open_arg_row Tryz.underlying22 cells_84 opens_lot h0 (by obtain ⟨a, n, c, h⟩ := okWide_slice Tryz.underlying22 (hval 0 22 v0 rfl rfl); exact ⟨a, n, c, h⟩)
  obtain ⟨AS, cs, sure, rfl, hcs, hS, _⟩ := open_arg_row Tryz.underlying23 cells_60 opens_box h1 (by obtain ⟨a, n, c, h⟩ := okWide_slice Tryz.underlying23 (hval 1 23 v1 rfl rfl); exact ⟨a, n, c, h⟩)
  obtain ⟨AO, co, ops, rfl, hco, hO, hok⟩ := open_arg_row Tryz.underlying24 cells_35 opens_op h2 (by obtain ⟨a, n, c, h⟩ := okWide_slice Tryz.underlying24 (hval 2 24 v2 rfl rfl); exact ⟨a, n, c, h⟩)
  have hlen := sized_len hsz0 (j := 2) (t := 24) rfl rfl Tryz.underlying24 (by rw [show Tryz.prog.bytesOf 35 = 64 by kernel_rfl]; decide) h2
  clear hA0
  refine (f3_any AL AS AO cl cs co lots sure ops W (std_of_laid hL) hL0 hcl hS hcs hO hco (by omega) hok).mono fun e W' ⟨he, bel⟩ => ?_
  subst he
  exact ⟨_, rfl, _, _, _, [], _, [], hW', trodAll_mk1 (shut_bool Tryz.underlying4 _), trodAll_cons_mk (Below.trod laidOut (by kernel_rfl) (of_decide_eq_true (by kernel_rfl)) k0 bel lt0) (trodAll_cons_mk (Below.trod laidOut (by kernel_rfl) (of_decide_eq_true (by kernel_rfl)) k1 bel lt1) (trodAll_cons_mk (Below.trod laidOut (by kernel_rfl) (of_decide_eq_true (by kernel_rfl)) k2 bel lt2) trodAll_mk0)), rfl, bel.frame _, fun h => by cases h⟩
theorem states_reads (os : Os) {H : Type} (enc : TypeId × Value → H) : ∃ places, DataW.whole enc Tryz.prog ((laidWorld os).forCall (fun _ _ => 0) ⟨#[], #[.slice none 0 0, .slice none 0 0, .slice none 0 0], []⟩).memory Tryz.f3.params.toList Rows.ordersStatesSpec.vars false #[Value.slice none 0 0, .slice none 0 0, .slice none 0 0].toList 8 = some ([.nil, .nil, .nil], [], places) :=
  ⟨[], by kernel_rfl⟩
set_option maxRecDepth 100000 in
theorem states_lifted (os : Os) (started : os.Started) (H : Type) (enc : TypeId × Value → H) (F : Stop.Interp) :
    ReturnsInHanded {} Tryz.checked os 3 .any ((OpenSpec.ofChange Rows.ordersStatesSpec).preRow enc Tryz.prog Tryz.f3 Rows.ordersStatesRow.domain false Rows.ordersStatesRow.laid) (((OpenSpec.ofChange Rows.ordersStatesSpec).at F).post enc Tryz.prog Tryz.f3 false true false false) := by
  obtain ⟨places, hx⟩ := states_reads os enc
  refine returnsInHanded_of_row (C := Tryz.checked) (s := OpenSpec.ofChange Rows.ordersStatesSpec) own started (by kernel_rfl) Tryz.func3
    (witness_row_atRef (enc := enc) (C := Tryz.checked) false (laidWorld os) #[.slice none 0 0, .slice none 0 0, .slice none 0 0] (laidWorld_os os) (wit_vars os _) (wit_heap os _) (by kernel_rfl)
      (OpenSpec.preRow_of_cond 8 hx (by kernel_rfl) (fun k hk => by cases hk) (by kernel_rfl) (laid_met os _))) ?_
  intro W base args ds gs before hval hW _ _ hsz hL _ _
  exact states_contract H enc W base args ds gs before hval hW hsz hL
theorem states_said : Rows.OrdersStatesSaid :=
  OpenClaim.holds_of_cond 3 Tryz.f3 rfl rfl rfl rfl rfl rfl rfl ⟨rfl, rfl, rfl, rfl, rfl⟩ rfl rfl rfl rfl rfl (by kernel_rfl) Tryz.func3 (by kernel_rfl)
    (of_decide_eq_true (by kernel_rfl)) (by unfold Func.isWrapper; first | (rw [if_pos (by decide +kernel)]; kernel_rfl) | (rw [if_neg (by decide +kernel)]; exact ⟨rfl, rfl⟩))
    (fun os started H enc _ F => by rw [OpenClaim.pre_eq_preRow]; exact states_lifted os started H enc F)
theorem states_plain (f : FuncId) (fn : Func) (hf : Tryz.pinned.checked.prog.funcNamed "taquin/taquinlaw42.OrdersStates" = some f) (hfn : Tryz.pinned.checked.prog.funcs[f]? = some fn) :
    true = Tryz.pinned.checked.prog.looks [] ∧ ∀ (j : Nat) t, fn.params[j]? = some t → Tryz.pinned.checked.prog.wantsStandIn t = false := by
  obtain rfl : f = 3 := Option.some.inj ((show Tryz.prog.funcNamed "taquin/taquinlaw42.OrdersStates" = some 3 by kernel_rfl).symm.trans hf) |>.symm
  obtain rfl : fn = Tryz.f3 := (Option.some.inj (Tryz.func3.symm.trans hfn)).symm
  refine ⟨by kernel_rfl, fun j t ht => ?_⟩
  rw [Tryz.params3] at ht
  have hm : t = 22 ∨ t = 23 ∨ t = 24 := by simpa using Array.mem_of_getElem? ht
  rcases hm with rfl | rfl | rfl
  · exact (show Tryz.prog.wantsStandIn 22 = false by kernel_rfl)
  · exact (show Tryz.prog.wantsStandIn 23 = false by kernel_rfl)
  · exact (show Tryz.prog.wantsStandIn 24 = false by kernel_rfl)
/-- THE CARD OF OrdersStates. -/
theorem ordersStates_card : Rows.OrdersStatesCardSaid :=
  Claim7.holds_tied_plain_at .later [] _ _ _ _ states_said (fun _ h => by cases h) (by kernel_rfl) (fun _ h => by cases h) ordersStates_row_tie rfl ⟨rfl, rfl⟩ (by kernel_rfl) rfl states_plain (by kernel_rfl)
end Go.Proofs.YtcliaokoganbaaaGreatDoor
