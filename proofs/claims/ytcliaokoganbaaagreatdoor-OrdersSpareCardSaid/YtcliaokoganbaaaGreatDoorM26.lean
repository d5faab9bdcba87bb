/-
  Proved: the card Rows.OrdersSpareCardSaid: for every input taquinlaw42.OrdersSpare returns true, and each argument reads afterwards as it read before. Conditions: those of the given row and card alone: the five package-level variables that the row lists start as the program text lays them (the tie is given).
-/
import Derived.Test.YtcliaokoganbaaaGreatDoorM25
import Derived.Test.YtcliaokoganbaaaGreatDoorM22
set_option linter.unusedVariables false
namespace Go.Proofs.YtcliaokoganbaaaGreatDoor
open Go Go.RowKit Go.ChangeShapes Go.WideShapes Go.ChangeAt Go.Proofs.YtcliaokoganbaaaGreatDoorW.PrintWords
open Tq (Lot Box Want Take Ord BookInv OrdInv)
set_option maxRecDepth 100000 in
set_option maxHeartbeats 8000000 in
theorem f4_any (AL AS AO AW : Option Addr) (cl cs co cw : Nat) (lots : List Lot) (sure : List Box) (ops : List Tq.Op) (ws : List Want) (due : Int) (w : World) (hs : Std w) (hL : kL.C w AL lots.length lots) (hcl : lots.length ≤ cl) (hS : kB.C w AS sure.length sure) (hcs : sure.length ≤ cs)
    (hO : kOp.C w AO ops.length ops) (hco : ops.length ≤ co) (hmax : ops.length ≤ 9223372036854775806) (hok : OpsOk ops) (hWs : kW.C w AW ws.length ws) (hwok : Tq.WantsOk ws) :
    Calls Tryz.prog 4 #[.slice AL lots.length cl, .slice AS sure.length cs, .slice AO ops.length co, .slice AW ws.length cw, .int .i64 due] w fun e w' => e = .returned (.bool true) ∧ Below w.heap.size w w' := by
  have h7 := f7_any w
  have h8 := fun W (hb : Below w.heap.size w W) => f8_any AO co ops 30 W (Kd.C_below hO hb) hco hmax
  cases hf : fewB ops 30 with
  | true =>
    by_cases h6 : ws.length ≤ 6
    · exact f4_go AL AS AO AW cl cs co cw lots sure ops ws due w hs hL hcl hS hcs hO hco hmax hok hWs hwok hf h6
    · rw [hf] at h8
      have H8 := Aside0.mk h8
      have h6b : decide ((6 : Int) < (ws.length : Int)) = true := decide_eq_true (by omega)
      clear hf hs hL hS hO hok h8 hmax hWs hwok h6
      go_enter Tryz.func4, Tryz.ntmps4
      go_wp2_with (go_at_call 7; refine h7.mono ?_; rintro e w1 ⟨rfl, hb1⟩; refine Hid.out ?_)
      refine Lib.hid ?_
      have c8 := H8.out w1 hb1
      go_wp2_with (go_at_call 8; refine c8.mono ?_; rintro e w2 ⟨rfl, hb2⟩; refine Hid.out ?_)
      refine Lib.hid ?_
      go_wp2
      go_ret
      exact ⟨rfl, hb1.trans (hb2.mono hb1.size)⟩
  | false =>
    rw [hf] at h8
    have H8 := Aside0.mk h8
    clear hf hs hL hS hO hok h8 hmax hWs hwok
    go_enter Tryz.func4, Tryz.ntmps4
    go_wp2_with (go_at_call 7; refine h7.mono ?_; rintro e w1 ⟨rfl, hb1⟩; refine Hid.out ?_)
    refine Lib.hid ?_
    have c8 := H8.out w1 hb1
    go_wp2_with (go_at_call 8; refine c8.mono ?_; rintro e w2 ⟨rfl, hb2⟩; refine Hid.out ?_)
    refine Lib.hid ?_
    go_wp2
    go_ret
    exact ⟨rfl, hb1.trans (hb2.mono hb1.size)⟩
/-- the ops' row is no longer than its weight allows -/
theorem sized_len {H : Type} {enc : TypeId × Value → H} {W : World} {t e : TypeId} {a : Option Addr} {len cap : Nat} {d : DataW H} {ps : List MemPlace} {ts : List TypeId} {ds : List (DataW H)} {j : Nat}
    (hsz : (DataW.weightsEach Tryz.prog ts ds).all (· ≤ reachBytes) = true) (ht : ts[j]? = some t) (hd : ds[j]? = some d) (hu : Tryz.prog.underlying t = some (.slice e)) (hB : 1 ≤ Tryz.prog.bytesOf e)
    (h : DataW.Trod enc Tryz.prog W 0 (fun _ => true) true t (.slice a len cap) d ps) : len ≤ 140737488351232 := by
  obtain ⟨fuel, hf⟩ := h
  rcases Deep.open_slice hu hf with ⟨hcs, _⟩ | ⟨x, l, c, m, n, D, Pl, hcs, _, hl, _, hm, hx, _⟩
  · simp [Value.cells] at hcs
    omega
  · simp [Value.cells] at hcs
    obtain ⟨rfl, rfl, rfl⟩ := hcs
    obtain ⟨hx, _⟩ := Prod.mk.inj hx
    subst hx
    have z := sized_slice hsz ht hd hu
    have h1 : len ≤ (((List.range len).map D).length + ((List.range (m - len)).map fun j => D (len + j)).length) * Tryz.prog.bytesOf e := by
      refine Nat.le_trans ?_ (Nat.le_mul_of_pos_right _ hB)
      simp
    exact Nat.le_trans h1 z
set_option maxRecDepth 100000 in
set_option maxHeartbeats 2000000 in
theorem spare_contract (H : Type) (enc : TypeId × Value → H) (W : World) (base : Nat) (args : Array Value) (ds gs : List (DataW H)) (before : List MemPlace)
    (hval : ∀ (j : Nat) t v, Tryz.f4.params[j]? = some t → args[j]? = some v → Value.okWide Tryz.prog W .any base t v)
    (hW : DataW.Whole enc Tryz.prog Tryz.f4.params.toList Rows.ordersSpareSpec.vars false W args.toList ds gs before)
    (hsz0 : (DataW.weightsEach Tryz.prog (Tryz.f4.params.toList ++ Rows.ordersSpareSpec.plain.varTypes Tryz.prog) (ds ++ gs)).all (· ≤ reachBytes) = true) (hL : laidMetH Tryz.prog laidL W) :
    Calls Tryz.prog 4 args W fun e W' => ∃ v, e = .returned v ∧ Rows.ordersSpareSpec.post enc Tryz.prog Tryz.f4 false true false false W args v W' := by
  have hW' := hW
  obtain ⟨p, q, hA0, hV, rfl, hfz, hnd⟩ := hW
  have hA : DataW.TrodAll enc Tryz.prog W 0 (fun _ => true) true Tryz.f4.params.toList args.toList ds p := hA0
  rw [Tryz.params4] at hA hval hsz0
  obtain ⟨v0, vs0, d0, ds0, p0, q0, hargs, rfl, rfl, h0, r0⟩ := trodAll_cons hA
  obtain ⟨v1, vs1, d1, ds1, p1, q1, rfl, rfl, rfl, h1, r1⟩ := trodAll_cons r0
  obtain ⟨v2, vs2, d2, ds2, p2, q2, rfl, rfl, rfl, h2, r2⟩ := trodAll_cons r1
  obtain ⟨v3, vs3, d3, ds3, p3, q3, rfl, rfl, rfl, h3, r3⟩ := trodAll_cons r2
  obtain ⟨v4, vs4, d4, ds4, p4, q4, rfl, rfl, rfl, h4, r4⟩ := trodAll_cons r3
  obtain ⟨rfl, rfl, rfl⟩ := trodAll_nil r4
  obtain rfl : args = #[v0, v1, v2, v3, v4] := by cases args; simp_all
  obtain ⟨rfl, rfl⟩ := trodVars_none hV
  have k0 := h0
  have k1 := h1
  have k2 := h2
  have k3 := h3
  have lt0 : ∀ x ∈ p0, x.block < W.heap.size := by obtain ⟨m, hm⟩ := k0; exact DataW.trod_lt m _ _ _ hm
  have lt1 : ∀ x ∈ p1, x.block < W.heap.size := by obtain ⟨m, hm⟩ := k1; exact DataW.trod_lt m _ _ _ hm
  have lt2 : ∀ x ∈ p2, x.block < W.heap.size := by obtain ⟨m, hm⟩ := k2; exact DataW.trod_lt m _ _ _ hm
  obtain ⟨AL, cl, lots, rfl, hcl, hL0, _⟩ := open_arg_row Tryz.underlying22 cells_84 opens_lot h0 (by obtain ⟨a, n, c, h⟩ := okWide_slice Tryz.underlying22 (hval 0 22 v0 rfl rfl); exact ⟨a, n, c, h⟩)
  obtain ⟨AS, cs, sure, rfl, hcs, hS, _⟩ := open_arg_row Tryz.underlying23 cells_60 opens_box h1 (by obtain ⟨a, n, c, h⟩ := okWide_slice Tryz.underlying23 (hval 1 23 v1 rfl rfl); exact ⟨a, n, c, h⟩)
  obtain ⟨AO, co, ops, rfl, hco, hO, hok⟩ := open_arg_row Tryz.underlying24 cells_35 opens_op h2 (by obtain ⟨a, n, c, h⟩ := okWide_slice Tryz.underlying24 (hval 2 24 v2 rfl rfl); exact ⟨a, n, c, h⟩)
  obtain ⟨AW, cw, ws, rfl, hcw, hWs, hwok⟩ := open_arg_row Tryz.underlying33 cells_100 opens_want h3 (by obtain ⟨a, n, c, h⟩ := okWide_slice Tryz.underlying33 (hval 3 33 v3 rfl rfl); exact ⟨a, n, c, h⟩)
  obtain ⟨due, rfl, rfl, rfl, wdue⟩ := open_int Tryz.underlying3 (hval 4 3 v4 rfl rfl) h4
  have lt3 : ∀ x ∈ p3, x.block < W.heap.size := by obtain ⟨m, hm⟩ := k3; exact DataW.trod_lt m _ _ _ hm
  have hlen := sized_len hsz0 (j := 2) (t := 24) rfl rfl Tryz.underlying24 (by rw [show Tryz.prog.bytesOf 35 = 64 by kernel_rfl]; decide) h2
  clear hA0
  refine (f4_any AL AS AO AW cl cs co cw lots sure ops ws due W (std_of_laid hL) hL0 hcl hS hcs hO hco (by omega) hok hWs hwok).mono fun e W' ⟨he, bel⟩ => ?_
  subst he
  exact ⟨_, rfl, _, _, _, [], _, [], hW', trodAll_mk1 (shut_bool Tryz.underlying4 _), trodAll_cons_mk (Below.trod laidOut (by kernel_rfl) (of_decide_eq_true (by kernel_rfl)) k0 bel lt0) (trodAll_cons_mk (Below.trod laidOut (by kernel_rfl) (of_decide_eq_true (by kernel_rfl)) k1 bel lt1) (trodAll_cons_mk (Below.trod laidOut (by kernel_rfl) (of_decide_eq_true (by kernel_rfl)) k2 bel lt2) (trodAll_cons_mk (Below.trod laidOut (by kernel_rfl) (of_decide_eq_true (by kernel_rfl)) k3 bel lt3) (trodAll_cons_mk (shut_int Tryz.underlying3 wdue) trodAll_mk0)))), rfl, bel.frame _, fun h => by cases h⟩
theorem spare_reads (os : Os) {H : Type} (enc : TypeId × Value → H) : ∃ places, DataW.whole enc Tryz.prog ((laidWorld os).forCall (fun _ _ => 0) ⟨#[], #[.slice none 0 0, .slice none 0 0, .slice none 0 0, .slice none 0 0, .int .i64 0], []⟩).memory Tryz.f4.params.toList Rows.ordersSpareSpec.vars false #[Value.slice none 0 0, .slice none 0 0, .slice none 0 0, .slice none 0 0, .int .i64 0].toList 8 = some ([.nil, .nil, .nil, .nil, .lit (.int .i64 0)], [], places) :=
  ⟨[], by kernel_rfl⟩
set_option maxRecDepth 100000 in
theorem spare_lifted (os : Os) (started : os.Started) (H : Type) (enc : TypeId × Value → H) (F : Stop.Interp) :
    ReturnsInHanded {} Tryz.checked os 4 .any ((OpenSpec.ofChange Rows.ordersSpareSpec).preRow enc Tryz.prog Tryz.f4 Rows.ordersSpareRow.domain false Rows.ordersSpareRow.laid) (((OpenSpec.ofChange Rows.ordersSpareSpec).at F).post enc Tryz.prog Tryz.f4 false true false false) := by
  obtain ⟨places, hx⟩ := spare_reads os enc
  refine returnsInHanded_of_row (C := Tryz.checked) (s := OpenSpec.ofChange Rows.ordersSpareSpec) own started (by kernel_rfl) Tryz.func4
    (witness_row_atRef (enc := enc) (C := Tryz.checked) false (laidWorld os) #[.slice none 0 0, .slice none 0 0, .slice none 0 0, .slice none 0 0, .int .i64 0] (laidWorld_os os) (wit_vars os _) (wit_heap os _) (by kernel_rfl)
      (OpenSpec.preRow_of_cond 8 hx (by kernel_rfl) (fun k hk => by cases hk) (by kernel_rfl) (laid_met os _))) ?_
  intro W base args ds gs before hval hW _ _ hsz hL _ _
  exact spare_contract H enc W base args ds gs before hval hW hsz hL
theorem spare_said : Rows.OrdersSpareSaid :=
  OpenClaim.holds_of_cond 4 Tryz.f4 rfl rfl rfl rfl rfl rfl rfl ⟨rfl, rfl, rfl, rfl, rfl⟩ rfl rfl rfl rfl rfl (by kernel_rfl) Tryz.func4 (by kernel_rfl)
    (of_decide_eq_true (by kernel_rfl)) (by unfold Func.isWrapper; first | (rw [if_pos (by decide +kernel)]; kernel_rfl) | (rw [if_neg (by decide +kernel)]; exact ⟨rfl, rfl⟩))
    (fun os started H enc _ F => by rw [OpenClaim.pre_eq_preRow]; exact spare_lifted os started H enc F)
theorem spare_plain (f : FuncId) (fn : Func) (hf : Tryz.pinned.checked.prog.funcNamed "taquin/taquinlaw42.OrdersSpare" = some f) (hfn : Tryz.pinned.checked.prog.funcs[f]? = some fn) :
    true = Tryz.pinned.checked.prog.looks [] ∧ ∀ (j : Nat) t, fn.params[j]? = some t → Tryz.pinned.checked.prog.wantsStandIn t = false := by
  obtain rfl : f = 4 := Option.some.inj ((show Tryz.prog.funcNamed "taquin/taquinlaw42.OrdersSpare" = some 4 by kernel_rfl).symm.trans hf) |>.symm
  obtain rfl : fn = Tryz.f4 := (Option.some.inj (Tryz.func4.symm.trans hfn)).symm
  refine ⟨by kernel_rfl, fun j t ht => ?_⟩
  rw [Tryz.params4] at ht
  have hm : t = 22 ∨ t = 23 ∨ t = 24 ∨ t = 33 ∨ t = 3 := by simpa using Array.mem_of_getElem? ht
  rcases hm with rfl | rfl | rfl | rfl | rfl
  · exact (show Tryz.prog.wantsStandIn 22 = false by kernel_rfl)
  · exact (show Tryz.prog.wantsStandIn 23 = false by kernel_rfl)
  · exact (show Tryz.prog.wantsStandIn 24 = false by kernel_rfl)
  · exact (show Tryz.prog.wantsStandIn 33 = false by kernel_rfl)
  · exact (show Tryz.prog.wantsStandIn 3 = false by kernel_rfl)
/-- THE CARD OF OrdersSpare. -/
theorem ordersSpare_card : Rows.OrdersSpareCardSaid :=
  Claim7.holds_tied_plain_at .later [] _ _ _ _ spare_said (fun _ h => by cases h) (by kernel_rfl) (fun _ h => by cases h) ordersSpare_row_tie rfl ⟨rfl, rfl⟩ (by kernel_rfl) rfl spare_plain (by kernel_rfl)
end Go.Proofs.YtcliaokoganbaaaGreatDoor
