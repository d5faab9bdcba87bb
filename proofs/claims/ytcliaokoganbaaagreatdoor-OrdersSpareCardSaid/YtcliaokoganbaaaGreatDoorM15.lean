/-
  Part 15 of the proof of the card: lemmas and walks, joined by mergeclaim.py out of the texts EE, EF, EG, EH, EI, EJ.
-/
import Derived.Test.YtcliaokoganbaaaGreatDoorM14
import Derived.Laws.CopyOwn
import Derived.Deep.RegionLaw
set_option linter.unusedVariables false
set_option linter.unusedSimpArgs false
namespace Go.Proofs.YtcliaokoganbaaaGreatDoor
open Go Go.RowKit Go.Shelf Go.Proofs.YtcliaokoganbaaaGreatDoorW.PrintWords Go.Proofs.YtcliaokoganbaaaGreatDoorW.PrintLast Go.Proofs.YtcliaokoganbaaaGreatDoorW.PrintMore
open Tq (Lot Box Want Take Ord Op)

/-! ### copy of a whole row, elements of any size -/
theorem run_copy_whole {P : Program} {w : World} {dT sT ty elem sz g n cap sCap base : Nat} {A : Option Addr} {old news : List Value} (hu : P.underlying dT = some (.slice elem)) (hs : (P.info? elem).map (·.size) = some sz) (hs0 : 0 < sz)
    (hown : w.ownsRow base elem sz (.slice (some ⟨g, 0, none⟩) n cap) n old) (hl : news.length = n * sz) (hraw : RawAt w A n news) (h1 : ∀ u ∈ news, u.oneCell' = true) :
    ∃ w', (Builtin.copy_ #[dT, sT] ty #[.slice (some ⟨g, 0, none⟩) n cap, .slice A n sCap]).run P w = .ok (goInt n) w' ∧ w'.ownsRow base elem sz (.slice (some ⟨g, 0, none⟩) n cap) n news ∧ w.grownBy w' (some g) := by
  obtain ⟨hol, ⟨he, _⟩ | ⟨g', cap', cur, he, hb, hg, hnc, hcm, hcs, htk⟩⟩ := hown
  · cases he
  injection he with e1 e2 e3
  injection e1 with e1; injection e1 with e1
  subst e1; subst e3
  have hfit : n * sz ≤ cap * sz := Nat.mul_le_mul_right _ hnc
  cases hq : P.info? elem with
  | none => simp [hq] at hs
  | some i =>
    have hi : i.size = sz := by simpa [hq] using hs
    have hst := run_storeCells_at P g 0 elem news 0 cur w hg (by rw [hl, hcs]; simpa using hfit) h1
    simp only [Nat.zero_add, Nat.add_zero, List.take_zero, List.nil_append] at hst
    refine ⟨w.setRow g (news ++ cur.toList.drop news.length).toArray, ?_, ?_, ?_⟩
    · cases A with
      | none =>
        have h0 : n = 0 := by
          rcases Nat.eq_zero_or_pos n with h0 | h0
          · exact h0
          · obtain ⟨ad, e, _⟩ := hraw h0; cases e
        have hn : news = [] := List.eq_nil_of_length_eq_zero (by rw [hl, h0]; simp)
        subst hn; subst h0
        have hw : w.setRow g (cur.toList.drop 0).toArray = w := by simpa using setRow_self w g cur elem (0, 0) hg
        simp [Builtin.copy_, run_underlying hu, Builtin.lenOf, Builtin.firstCells, sizeOf, typeInfo, hq, storeCells]
        simpa using (setRow_self w g cur elem (0, 0) hg).symm
      | some a =>
        have hsrc : ∀ j v, news[j]? = some v → w.cell? (a.add j) = some v := fun j v hj => by
          have hp : 0 < n := by
            rcases Nat.eq_zero_or_pos n with h0 | h0
            · rw [h0, Nat.zero_mul] at hl
              rw [List.eq_nil_of_length_eq_zero hl] at hj; simp at hj
            · exact h0
          obtain ⟨ad, e, h⟩ := hraw hp
          injection e with e; subst e
          exact h j v hj
        have hld := run_loadCells_list (P := P) w a news hsrc
        have hmin : Nat.min n n = n := Nat.min_self n
        simp [Builtin.copy_, run_underlying hu, Builtin.lenOf, Builtin.firstCells, sizeOf, typeInfo, hq, hi, hmin, ← hl, hld, hst]
    · refine ⟨hl, .inr ⟨g, cap, _, rfl, hb, setRow_heap w g cur _ elem (0, 0) hg, hnc, hcm, ?_, ?_⟩⟩
      · simp [hcs, hl]; omega
      · simp [hl]
    · exact ⟨rfl, rfl, rfl, by simp [World.setRow], fun k _ hk => setRow_other w g k _ (fun e => hk (by rw [e]))⟩
theorem wpList_copy_whole {P : Program} {w : World} {ops : Array Oper} {rest : List Oper} {o : Oper} {a : Act} {Q : Exit → Act → World → Prop} (hgd : o.guard = none) (d s : Operand) (dT sT : TypeId)
    (ho : o.op = .call { callee := .builtin .copy, args := #[d, s], argTypes := #[dT, sT] }) (elem sz : Nat) (hu : P.underlying dT = some (.slice elem)) (hs : (P.info? elem).map (·.size) = some sz) (hs0 : 0 < sz)
    (g n cap sCap base : Nat) (A : Option Addr) (old news : List Value) (hd : a.eval d = .slice (some ⟨g, 0, none⟩) n cap) (hx : a.eval s = .slice A n sCap)
    (hown : w.ownsRow base elem sz (.slice (some ⟨g, 0, none⟩) n cap) n old) (hl : news.length = n * sz) (hraw : RawAt w A n news) (h1 : ∀ u ∈ news, u.oneCell' = true)
    (h : ∀ w', w'.ownsRow base elem sz (.slice (some ⟨g, 0, none⟩) n cap) n news → w.grownBy w' (some g) → wpList P ops Q rest (a.put o.dst (goInt n)) w') : wpList P ops Q (o :: rest) a w := by
  obtain ⟨w', hrun, h2, h3⟩ := run_copy_whole (ty := o.type) (sT := sT) (sCap := sCap) hu hs hs0 hown hl hraw h1
  refine wpList_plain hgd fun K hK => ?_
  unfold Oper.wp
  simp [execOp, ho, resolve, invoke, builtin, hd, hx, hrun, Result.andThen]
  exact hK _ _ (h w' h2 h3)
end Go.Proofs.YtcliaokoganbaaaGreatDoor
set_option linter.unusedVariables false
set_option linter.unusedSimpArgs false
namespace Go.Proofs.YtcliaokoganbaaaGreatDoor
open Go Go.RowKit Go.Shelf Go.Proofs.YtcliaokoganbaaaGreatDoorW.PrintWords Go.Proofs.YtcliaokoganbaaaGreatDoorW.PrintLast Go.Proofs.YtcliaokoganbaaaGreatDoorW.PrintMore
open Tq (Lot Box Want Take Ord Op)

/-! ### Plan -/
theorem boxAt_get {bs : List Box} {i : Nat} (h : i < bs.length) : bs[i]? = some (Tq.boxAt bs i) := by
  unfold Tq.boxAt; rw [List.getD_eq_getElem?_getD, List.getElem?_eq_getElem h]; rfl
theorem lower_set {bs : List Box} {i : Nat} (n : Int) (h : i < bs.length) : Tq.lower bs i n = bs.set i { Tq.boxAt bs i with count := (Tq.boxAt bs i).count - n } := by
  have hb : bs[i] = Tq.boxAt bs i := by
    have := boxAt_get h
    rw [List.getElem?_eq_getElem h] at this
    exact Option.some.inj this
  unfold Tq.lower
  apply List.ext_getElem?
  intro j
  rw [List.getElem?_modify, List.getElem?_set]
  by_cases hj : i = j
  · subst hj
    rw [if_pos rfl, if_pos h, boxAt_get h]; simp
  · simp [hj]
theorem own_new {w : World} {base e size n m : Nat} {v : Value} {xs : List Value} (h : w.ownsRow base e size v n xs) (hn : ∃ b, v.ownBlock = some b ∧ m ≤ b) : ∃ g c, v = .slice (some ⟨g, 0, none⟩) n c ∧ m ≤ g := by
  obtain ⟨b, hb, hm⟩ := hn
  rcases h.2 with ⟨rfl, _⟩ | ⟨g, c, _, rfl, _⟩
  · simp [Value.ownBlock] at hb
  · simp [Value.ownBlock] at hb; subst hb; exact ⟨g, c, rfl, hm⟩
/-- What is right of what is left. -/
def LeftOk (nl n : Nat) (left : List Box) : Prop := left.length = n ∧ ∀ b ∈ left, b.lot < nl ∧ 0 ≤ b.count ∧ b.count ≤ 9223372036854775807
theorem leftOk_lower {nl n : Nat} {left : List Box} (h : LeftOk nl n left) {i : Nat} (hi : i < n) {k : Int} (h0 : 0 ≤ k) (h1 : k ≤ (Tq.boxAt left i).count) : LeftOk nl n (Tq.lower left i k) := by
  have hil : i < left.length := by rw [h.1]; exact hi
  rw [lower_set _ hil]
  have hb := h.2 _ (List.mem_of_getElem? (boxAt_get hil))
  refine ⟨by rw [List.length_set]; exact h.1, fun b hbm => ?_⟩
  rcases List.mem_or_eq_of_mem_set hbm with h2 | rfl
  · exact h.2 b h2
  · exact ⟨hb.1, by simp only; omega, by simp only; omega⟩
theorem order_lt (lots : List Lot) (left : List Box) (x : Want) : ∀ i ∈ Tq.order lots left x, i < left.length := fun i hi => by
  have := (Tq.isort_mem _ _ _).1 hi
  simpa using (List.mem_filter.1 this).1

/-- Where the plan stands, the wants from k on still to come. -/
structure PlanAt (lots : List Lot) (ws : List Want) (boxes : List Box) (k : Nat) (out : List (List Take)) (left : List Box) : Prop where
  eq : Tq.planFrom lots ws boxes = (Tq.planFrom lots (ws.drop k) left).map (out ++ ·)
  len : out.length = k
  ok : LeftOk lots.length boxes.length left
/-- Where the takes of a want stand, the bodies from j on still to come. -/
structure TakeAt (nl n : Nat) (ord : List Nat) (c : Int) (left : List Box) (j : Nat) (takes : List Take) (need : Int) (lf : List Box) : Prop where
  eq : Tq.takeAll ord c left = (takes ++ (Tq.takeAll (ord.drop j) need lf).1, (Tq.takeAll (ord.drop j) need lf).2)
  len : takes.length = j
  ok : LeftOk nl n lf
  n0 : 0 ≤ need
  n1 : need ≤ 20000
theorem plan_cons {lots : List Lot} {ws : List Want} {boxes : List Box} {k : Nat} {out : List (List Take)} {left : List Box} {x : Want} {takes : List Take} {need : Int} {lf : List Box} (h : PlanAt lots ws boxes k out left) (hx : ws[k]? = some x)
    (ht : Tq.takeAll (Tq.order lots left x) x.count left = (takes, need, lf)) : Tq.planFrom lots ws boxes = if 0 < need then none else (Tq.planFrom lots (ws.drop (k + 1)) lf).map ((out ++ [takes]) ++ ·) := by
  have hk : k < ws.length := (List.getElem?_eq_some_iff.1 hx).1
  have hd : ws.drop k = x :: ws.drop (k + 1) := by
    rw [List.drop_eq_getElem_cons hk]
    rw [List.getElem?_eq_getElem hk] at hx
    rw [Option.some.inj hx]
  rw [h.eq, hd, Tq.planFrom, ht]
  simp only
  split
  · rfl
  · rw [Option.map_map]; congr 1; funext l; simp
theorem plan_fail {lots : List Lot} {ws : List Want} {boxes : List Box} {k : Nat} {out : List (List Take)} {left : List Box} {x : Want} {takes : List Take} {need : Int} {lf : List Box} (h : PlanAt lots ws boxes k out left) (hx : ws[k]? = some x)
    (ht : Tq.takeAll (Tq.order lots left x) x.count left = (takes, need, lf)) (hn : 0 < need) : Tq.planFrom lots ws boxes = none := by rw [plan_cons h hx ht, if_pos hn]
theorem plan_next {lots : List Lot} {ws : List Want} {boxes : List Box} {k : Nat} {out : List (List Take)} {left : List Box} {x : Want} {takes : List Take} {need : Int} {lf : List Box} (h : PlanAt lots ws boxes k out left) (hx : ws[k]? = some x)
    (ht : Tq.takeAll (Tq.order lots left x) x.count left = (takes, need, lf)) (hn : ¬ 0 < need) (hl : LeftOk lots.length boxes.length lf) : PlanAt lots ws boxes (k + 1) (out ++ [takes]) lf :=
  ⟨by rw [plan_cons h hx ht, if_neg hn], by rw [List.length_append, h.len]; rfl, hl⟩
theorem plan_arg {lots : List Lot} {boxes : List Box} {ws : List Want} (h : (ws.any fun x => !Tq.rightWant x) = true) : Tq.plan lots boxes ws = ([], 1) := by unfold Tq.plan; rw [if_pos h]
theorem plan_none {lots : List Lot} {boxes : List Box} {ws : List Want} (h : (ws.any fun x => !Tq.rightWant x) = false) (hp : Tq.planFrom lots ws boxes = none) : Tq.plan lots boxes ws = ([], 22) := by unfold Tq.plan; rw [h, if_neg (by decide), hp]
theorem plan_some {lots : List Lot} {boxes : List Box} {ws : List Want} {t : List (List Take)} (h : (ws.any fun x => !Tq.rightWant x) = false) (hp : Tq.planFrom lots ws boxes = some t) : Tq.plan lots boxes ws = (t, 0) := by unfold Tq.plan; rw [h, if_neg (by decide), hp]
theorem order_le (lots : List Lot) (left : List Box) (x : Want) : (Tq.order lots left x).length ≤ left.length := by
  unfold Tq.order; rw [isort_length]; exact candsTo_le lots left x left.length
set_option maxRecDepth 100000 in
set_option maxHeartbeats 4000000 in
theorem f20_any (AL AB AW : Option Addr) (cl cb cw : Nat) (lots : List Lot) (boxes : List Box) (ws : List Want) (w : World) (hL : kL.C w AL lots.length lots) (hB : kB.C w AB boxes.length boxes) (hW : kW.C w AW ws.length ws) (hcl : lots.length ≤ cl)
    (h20 : boxes.length ≤ 20) (hok : LeftOk lots.length boxes.length boxes) (hws : ws.length ≤ 1000) :
    Calls Tryz.prog 20 #[.slice AL lots.length cl, .slice AB boxes.length cb, .slice AW ws.length cw] w fun e w' => ∃ v', e = .returned (.tuple #[v', .int .i64 (Tq.plan lots boxes ws).2]) ∧
      Kd.S kTs 53 w' w.heap.size (fun i => w.heap.size ≤ i) v' (Tq.plan lots boxes ws).1 ∧ Below w.heap.size w w' := by
  have hcon := f51_any 52 #[] (fun x => !Tq.rightWant x) AW cw ws w hW (enters_of Tryz.func52 (by kernel_rfl) rfl) (pred52 ws w)
  obtain ⟨newsB, hrB, hrawB⟩ := raw_of_C hB
  have hnB : newsB = boxes.flatMap bCells := reps_flat (f := bCells) (fun x cs h => kB_open h) bCells_len hrB
  have hmaxB := hB.2.1
  have hmaxW := hW.2.1
  have HL := Aside0.mk hL
  have HW := Aside0.mk hW
  clear hL hB hW
  generalize hpl : Tq.plan lots boxes ws = r
  have HPL := Aside0.mk hpl
  clear hpl
  cases hany : ws.any (fun x => !Tq.rightWant x) with
  | true =>
    rw [hany] at hcon
    have hr := HPL.out.symm.trans (plan_arg hany)
    subst hr
    clear hany
    go_enter Tryz.func20, Tryz.ntmps20
    go_wp2_with (go_at_call 51; refine hcon.mono ?_; rintro e w1 ⟨rfl, hb⟩)
    go_ret2
    exact ⟨_, rfl, S_nil_any, hb⟩
  | false =>
    rw [hany] at hcon
    have hright : ∀ x ∈ ws, Tq.rightWant x = true := fun x hx => by
      have := (List.any_eq_false.1 hany) x hx
      simpa using this
    have HR := Aside0.mk hright
    have HAN := Aside0.mk hany
    clear hright hany
    go_enter Tryz.func20, Tryz.ntmps20
    go_wp2_with (first
      | (go_at_call 51; refine hcon.mono ?_; rintro e w1 ⟨rfl, hb⟩)
      | (at_make; refine Kd.R_make kB w.heap.size 60 rfl rfl 23 _ _ rfl (boxes.length : Int) rfl rfl Tryz.underlying23 (.agg #[.int .i64 0, .int .i64 0, .int .i64 0]) 24 P.info60 rfl (by decide) (by decide) (⟨0, 0, 0⟩ : Box) (ok := fun i => w.heap.size ≤ i) (okp := fun _ => False) (kB_mkM _ _ _ ⟨0, 0, 0⟩) (fun _ h => h.elim) hb.size (by omega) (by rw [Int.toNat_natCast]; omega) hb hb.size ?_; intro vL w2 hRL hB2 hg2 hown2; have hO2 := kB_flat hRL; rw [List.length_replicate, Int.toNat_natCast] at hO2; obtain ⟨gl, cL, rfl, hgl⟩ := own_new hO2 hown2; have hraw2 : RawAt w2 AB boxes.length newsB := fun hp => (by obtain ⟨ad, e, h⟩ := hrawB hp; exact ⟨ad, e, fun j u hj => (cell_on hB2 (h j u hj))⟩))
      | (refine wpList_copy_whole rfl _ _ 23 23 rfl 60 3 Tryz.underlying23 (by kernel_rfl) (by decide) gl boxes.length cL cb w.heap.size AB _ newsB rfl rfl hO2 hrB.1 hraw2 (reps_one hrB (by decide)) ?_; intro w3 hO3 hg3))
    rw [hnB] at hO3
    have hgl3 := own_lt hO3 gl rfl
    have hb3 : Below w.heap.size w w3 := hB2.grown hg3 hB2.size (fun k e => by cases e; exact own_base hO3 gl rfl)
    have HB3 := Aside0.mk hb3
    have HO3 := Aside0.mk hO3
    clear hO2 hO3 hRL hraw2 hrawB hnB hrB hcon hg2 hg3 hB2 hown2 hb hb3
    go_loopw [9, 27] (fun s9 s27 wr => ∃ (k : Nat) (out : List (List Take)) (left : List Box), k ≤ ws.length ∧ s27 = .int .i64 k ∧ Aside0 (PlanAt lots ws boxes k out left) ∧ Aside0 (wr.ownsRow w.heap.size 60 3 (.slice (some ⟨gl, 0, none⟩) boxes.length cL) boxes.length (left.flatMap bCells)) ∧
      Aside0 (Kd.S kTs 53 wr w3.heap.size (fun i => w3.heap.size ≤ i) s9 out) ∧ Aside0 (Below w.heap.size w wr) ∧ Aside0 (w3.heap.size ≤ wr.heap.size)) (fun _ s27 _ => ws.length - (intOf s27).toNat)
    case atStart => exact ⟨0, [], boxes, Nat.zero_le _, rfl, ⟨⟨by simp, rfl, hok⟩⟩, HO3, ⟨S_nil_any⟩, HB3, ⟨Nat.le_refl _⟩⟩
    case round =>
      obtain ⟨k, out, left, hk, rfl, PP, RL, SO, BW, SZ⟩ := hrel
      obtain ⟨A9, c9, rfl⟩ := Kd.S_slice SO.out
      have hol := PP.out.len
      rw [hol] at SO
      by_cases hlt : k < ws.length
      · have hltz : (k : Int) < (ws.length : Int) := by omega
        obtain ⟨x, hgx⟩ : ∃ x, ws[k]? = some x := ⟨_, List.getElem?_eq_getElem hlt⟩
        have hxr := Tq.rightWant_bounds (HR.out x (List.mem_of_getElem? hgx))
        obtain ⟨ad, rfl, x0, x1, x2⟩ := at_W (Kd.C_below HW.out BW.out) k x hgx
        have hfl := PP.out.ok
        have hRL := flat_kB (xs := left) (by rw [hfl.1]; exact RL.out)
        have hCL : kB.C wr (some ⟨gl, 0, none⟩) left.length left := by
          obtain ⟨_, _, eL, _, hCL⟩ := Kd.R_reads hRL
          injection eL with eL1 _ _
          rw [← eL1] at hCL
          exact hCL
        have hbA : Below wr.heap.size wr (wr.alloc (.cells #[.int .i64 x.kind, .int .i64 x.count, .int .i64 x.til] 100)) := below_alloc (Below.refl _ _) _
        have hbl0 := blk_facts (heap_alloc_at wr (.cells #[.int .i64 x.kind, .int .i64 x.count, .int .i64 x.til] 100) _ rfl)
        have r0 : (wr.alloc (.cells #[.int .i64 x.kind, .int .i64 x.count, .int .i64 x.til] 100)).cell? ⟨wr.heap.size, 0, none⟩ = some (.int .i64 x.kind) := hbl0.1 0
        have r1 : (wr.alloc (.cells #[.int .i64 x.kind, .int .i64 x.count, .int .i64 x.til] 100)).cell? ⟨wr.heap.size, 1, none⟩ = some (.int .i64 x.count) := hbl0.1 1
        have r2 : (wr.alloc (.cells #[.int .i64 x.kind, .int .i64 x.count, .int .i64 x.til] 100)).cell? ⟨wr.heap.size, 2, none⟩ = some (.int .i64 x.til) := hbl0.1 2
        have hord : Calls Tryz.prog 54 #[.slice AL lots.length cl, .slice (some ⟨gl, 0, none⟩) boxes.length cL, .agg #[.int .i64 x.kind, .int .i64 x.count, .int .i64 x.til]] (wr.alloc (.cells #[.int .i64 x.kind, .int .i64 x.count, .int .i64 x.til] 100)) fun e w' => ∃ v', e = .returned v' ∧
            w'.ownsRow (wr.alloc (.cells #[.int .i64 x.kind, .int .i64 x.count, .int .i64 x.til] 100)).heap.size 3 1 v' (Tq.order lots left x).length (nats (Tq.order lots left x)) ∧ Below (wr.alloc (.cells #[.int .i64 x.kind, .int .i64 x.count, .int .i64 x.til] 100)).heap.size (wr.alloc (.cells #[.int .i64 x.kind, .int .i64 x.count, .int .i64 x.til] 100)) w' := by
          have := f54_any AL (some ⟨gl, 0, none⟩) cl cL lots left x _ (Kd.C_below (Kd.C_below HL.out BW.out) hbA) (Kd.C_below hCL hbA) hcl (by rw [hfl.1]; exact h20) (fun b hb => (hfl.2 b hb).1)
          rwa [hfl.1] at this
        have holt := order_lt lots left x
        have hoM := order_le lots left x
        have hoL := hfl.1
        rw [hoL] at hoM
        have hgw := own_lt RL.out gl rfl
        clear hRL hCL hbl0
        go_wp2_with (go_at_call 54; refine hord.mono ?_; rintro e w5 ⟨v5, rfl, hO5, hb5⟩; obtain ⟨A5, c5, rfl⟩ := own_slice hO5)
        have hbm : Below wr.heap.size wr w5 := hbA.trans (hb5.mono (by simp))
        have RL5 := Aside0.mk (pw_own_below RL.out hbm)
        have SO5 := Aside0.mk (Kd.S_below (Kd.S_mono (Kd.S_bound SO.out) (fun i hi => (⟨hi.1, hi.2.2.1⟩ : w3.heap.size ≤ i ∧ i < wr.heap.size))) hbm)
        have BW5 := Aside0.mk (BW.out.trans (hbm.mono BW.out.size))
        have SZ5 := Aside0.mk hbm.size
        have OR5 := Aside0.mk (own_less hO5 (show wr.heap.size ≤ _ by simp))
        clear hbm hb5 hO5 hbA hord r0 r1 r2
        generalize hord : Tq.order lots left x = ord at *
        have SZ0 := SZ.out
        clear RL SO BW SZ x0 x1 x2
        generalize wr.heap.size = m at *
        go_loopw [12, 13, 38] (fun s12 s13 s38 wr => ∃ (j : Nat) (takes : List Take) (need : Int) (lf : List Box), j ≤ ord.length ∧ s38 = .int .i64 j ∧ s13 = .int .i64 need ∧ Aside0 (TakeAt lots.length boxes.length ord x.count left j takes need lf) ∧
          Aside0 (wr.ownsRow w.heap.size 60 3 (.slice (some ⟨gl, 0, none⟩) boxes.length cL) boxes.length (lf.flatMap bCells)) ∧ Aside0 (Kd.S kTs 53 wr w3.heap.size (fun i => w3.heap.size ≤ i ∧ i < m) (.slice A9 k c9) out) ∧
          Aside0 (kT.R 66 wr m (fun i => m ≤ i) s12 takes) ∧ Aside0 (wr.ownsRow m 3 1 (.slice A5 ord.length c5) ord.length (nats ord)) ∧ Aside0 (Below w.heap.size w wr) ∧ Aside0 (m ≤ wr.heap.size))
          (fun _ _ s38 _ => ord.length - (intOf s38).toNat)
        case atStart => exact ⟨0, [], x.count, left, Nat.zero_le _, rfl, rfl, ⟨⟨by simp, rfl, hfl, by omega, by omega⟩⟩, RL5, SO5, ⟨Kd.R_nil _ _ _ _ _⟩, OR5, BW5, SZ5⟩
        case round =>
          clear RL5 SO5 BW5 SZ5 OR5
          obtain ⟨j, takes, need, lf, hj, rfl, rfl, TP, RL6, SO6, TT, OR6, BW6, SZ6⟩ := hrel
          obtain ⟨A12, c12, rfl⟩ := Kd.R_slice TT.out
          by_cases hlt2 : j < ord.length
          · have hltz2 : (j : Int) < (ord.length : Int) := by omega
            obtain ⟨i, hgi⟩ : ∃ i, ord[j]? = some i := ⟨_, List.getElem?_eq_getElem hlt2⟩
            have hdrop : ord.drop j = i :: ord.drop (j + 1) := by
              rw [List.drop_eq_getElem_cons hlt2]
              rw [List.getElem?_eq_getElem hlt2] at hgi
              rw [Option.some.inj hgi]
            have hin : i < boxes.length := by rw [← hfl.1]; exact holt i (List.mem_of_getElem? hgi)
            have hil : i < lf.length := by rw [TP.out.ok.1]; exact hin
            have hbi := TP.out.ok.2 _ (List.mem_of_getElem? (boxAt_get hil))
            obtain ⟨go, e5⟩ : ∃ go, A5 = some ⟨go, 0, none⟩ := by
              obtain ⟨go, cap5, e5, _⟩ := OR6.out.form (by omega)
              injection e5 with e5 _ _
              exact ⟨go, e5⟩
            subst e5
            have ci : wr.cell? ⟨go, j, none⟩ = some (.int .i64 (i : Int)) := by rw [OR6.out.cellAt j (by omega)]; exact nats_get hgi
            have cc : wr.cell? ⟨gl, i * 3 + 1, none⟩ = some (.int .i64 (Tq.boxAt lf i).count) := by rw [RL6.out.cellAt (i * 3 + 1) (by omega), flat_get bCells_len lf i _ (boxAt_get hil) 1 (by omega)]; rfl
            have fc := RL6.out.frozenAt (i * 3 + 1)
            have hiz : (i : Int) < (boxes.length : Int) := by omega
            have hTE := TP.out.eq
            rw [hdrop] at hTE
            obtain ⟨n, hn⟩ : ∃ n, n = min need (Tq.boxAt lf i).count := ⟨_, rfl⟩
            have hTA : Tq.takeAll (i :: ord.drop (j + 1)) need lf = if n = 0 then ([], need, lf) else (⟨(i : Int), n⟩ :: (Tq.takeAll (ord.drop (j + 1)) (need - n) (Tq.lower lf i n)).1, (Tq.takeAll (ord.drop (j + 1)) (need - n) (Tq.lower lf i n)).2) := by subst hn; rfl
            rw [hTA] at hTE
            have hn0 : 0 ≤ n := by have := TP.out.n0; omega
            have hn1 : n ≤ need := by omega
            have hn2 : n ≤ (Tq.boxAt lf i).count := by omega
            have hneed := TP.out.n1
            have hOL := leftOk_lower TP.out.ok hin hn0 hn2
            have hls := lower_set n hil
            generalize hcnt : (Tq.boxAt lf i).count = cnt at *
            have hmn : (if cnt < need then cnt else need) = n := by split <;> omega
            have hw1 : IntKind.i64.wrap (cnt - n) = cnt - n := by rw [IntKind.wrap_i64]; omega
            have hw2 : IntKind.i64.wrap (need - n) = need - n := by rw [IntKind.wrap_i64]; omega
            clear hn hTA hdrop
            by_cases hnz : n = 0
            · rw [if_pos hnz] at hTE
              simp only [List.append_nil] at hTE
              by_cases hnd : 0 < need
              · have hpf := plan_none HAN.out (plan_fail PP.out hgx (by rw [hord]; exact hTE) hnd)
                rw [HPL.out] at hpf
                have HPF := Aside0.mk hpf
                clear hpf
                go_wp2
                go_ret2
                exact ⟨_, by rw [HPF.out]; rfl, by rw [HPF.out]; exact S_nil_any, BW6.out⟩
              · have hpn := Aside0.mk (plan_next PP.out hgx (by rw [hord]; exact hTE) hnd TP.out.ok)
                have hnd2 : need ≤ 0 := by omega
                have hsw := SZ6.out
                have hTT := Kd.R_lower TT.out SZ0
                have hokp : ∀ i, m ≤ i → w3.heap.size ≤ i ∧ some i ≠ (Value.slice A9 k c9).ownBlock := fun i hi => ⟨by omega, fun he => by have := (Kd.S_R SO6.out).1 i he.symm; omega⟩
                have hSO := Kd.S_mono SO6.out (ok' := fun i => w3.heap.size ≤ i ∧ ¬ m ≤ i) (fun i hi => ⟨hi.1, by omega⟩)
                have hol24 : (out.length + 1) * 24 ≤ 140737488355328 := by omega
                go_wp2_with (at_builtin; refine Kd.S_append kTs w3.heap.size rfl _ _ 41 53 (.slice none 0 0) 24 rfl Tryz.underlying41 P.info53 rfl (by decide) (by decide) (.slice A9 k c9) out takes [.slice A12 takes.length c12] (fun i => w3.heap.size ≤ i) (fun i => m ≤ i) rfl rfl ⟨_, rfl, hTT⟩ hokp (fun i hi => by omega) hSO (Below.refl _ wr) (by omega) hol24 ?_; intro v8 w8 hS8 hB8 hg8 hat8)
                have RL8 := Aside0.mk (own_move RL6.out (fun q hq => hB8.block q (by simp [Value.ownBlock] at hq; omega)))
                have BW8 := Aside0.mk (BW6.out.trans (hB8.mono HB3.out.size))
                have SZ8 := Aside0.mk (show w3.heap.size ≤ w8.heap.size by have := hB8.size; omega)
                go_roundw
                case rel => first | exact ⟨k + 1, out ++ [takes], lf, by omega, by go_num, hpn, RL8, ⟨hS8⟩, BW8, SZ8⟩ | exact ⟨k + 1, by omega, by go_num, out ++ [takes], lf, hpn, RL8, ⟨hS8⟩, BW8, SZ8⟩
                case measure => simp [intOf]; omega
            · rw [if_neg hnz] at hTE
              have hsw := SZ6.out
              have htl := TP.out.len
              have hl16 : (takes.length + 1) * 16 ≤ 140737488355328 := by omega
              go_wp2_with (at_builtin; refine Kd.R_append kT m rfl _ _ 53 66 (.agg #[.int .i64 0, .int .i64 0]) 16 rfl Tryz.underlying53 P.info66 rfl (by decide) (by decide) (.slice A12 takes.length c12) takes ⟨(i : Int), n⟩ [.int .i64 (i : Int), .int .i64 n] (fun i => m ≤ i) (fun _ => False) rfl rfl (kT_mkM _ _ _ _) (fun _ h => h.elim) (fun q hq => by omega) TT.out (Below.refl _ wr) hsw hl16 ?_; intro v7 w7 hT7 hB7 hg7 hat7; have RL7 := own_move RL6.out (fun q hq => hB7.block q (by simp [Value.ownBlock] at hq; omega)); have cc7 : w7.cell? ⟨gl, i * 3 + 1, none⟩ = some (.int .i64 cnt) := (hB7.cell (p := ⟨gl, i * 3 + 1, none⟩) hgw).trans cc; have fc7 := RL7.frozenAt (i * 3 + 1))
              have hst := RL7.stored (i * 3 + 1) (.int .i64 (cnt - n))
              rw [flat_set bCells_len lf i (Tq.boxAt lf i) { Tq.boxAt lf i with count := cnt - n } (boxAt_get hil) 1 _ (by omega) rfl, ← hls] at hst
              have hgb := own_base RL7 gl rfl
              have RL8 := Aside0.mk hst.1
              have SO8 := Aside0.mk (Kd.S_far (p := ⟨gl, i * 3 + 1, none⟩) (Kd.S_step SO6.out (fun q hq _ => hB7.block q hq.2)) (fun q hq => (show q ≠ gl by omega)) (.int .i64 (cnt - n)))
              have TT8 := Aside0.mk (Kd.R_far (p := ⟨gl, i * 3 + 1, none⟩) hT7 (fun q hq => (show q ≠ gl by omega)) (.int .i64 (cnt - n)))
              have OR8 := Aside0.mk (own_setCell (p := ⟨gl, i * 3 + 1, none⟩) (own_other OR6.out hg7 (by obtain ⟨_, inner, hin7, _⟩ := TT.out; exact own_type_ne OR6.out hin7 (by decide))) (by intro e; have := own_base OR6.out gl e.symm; omega) (.int .i64 (cnt - n)))
              have BW8 := Aside0.mk ((BW6.out.trans (hB7.mono (by have := HB3.out.size; omega))).setCell (p := ⟨gl, i * 3 + 1, none⟩) hgb (.int .i64 (cnt - n)))
              have SZ8 := Aside0.mk (show m ≤ (w7.setCell ⟨gl, i * 3 + 1, none⟩ (.int .i64 (cnt - n))).heap.size by have := hB7.size; simp [World.setCell]; omega)
              have TP8 : TakeAt lots.length boxes.length ord x.count left (j + 1) (takes ++ [⟨(i : Int), n⟩]) (need - n) (Tq.lower lf i n) := ⟨by rw [hTE]; simp, by rw [List.length_append, TP.out.len]; rfl, hOL, by omega, by omega⟩
              clear hst RL7 cc7 fc7 hT7 hB7 hg7 hat7
              go_roundw
              case rel => exact ⟨j + 1, takes ++ [⟨(i : Int), n⟩], need - n, Tq.lower lf i n, by omega, by go_num, rfl, ⟨TP8⟩, RL8, SO8, TT8, OR8, BW8, SZ8⟩
              case measure => simp [intOf]; omega
          · have hTE := TP.out.eq
            have hjl : j = ord.length := by omega
            rw [List.drop_of_length_le (by omega)] at hTE
            simp only [Tq.takeAll, List.append_nil] at hTE
            have hltz2 : ¬ (j : Int) < (ord.length : Int) := by omega
            by_cases hnd : 0 < need
            · have hpf := plan_none HAN.out (plan_fail PP.out hgx (by rw [hord]; exact hTE) hnd)
              rw [HPL.out] at hpf
              have HPF := Aside0.mk hpf
              clear hpf
              go_wp2
              go_ret2
              exact ⟨_, by rw [HPF.out]; rfl, by rw [HPF.out]; exact S_nil_any, BW6.out⟩
            · have hpn := Aside0.mk (plan_next PP.out hgx (by rw [hord]; exact hTE) hnd TP.out.ok)
              have hnd2 : need ≤ 0 := by omega
              have hsw := SZ6.out
              have hTT := Kd.R_lower TT.out SZ0
              have hokp : ∀ i, m ≤ i → w3.heap.size ≤ i ∧ some i ≠ (Value.slice A9 k c9).ownBlock := fun i hi => ⟨by omega, fun he => by have := (Kd.S_R SO6.out).1 i he.symm; omega⟩
              have hSO := Kd.S_mono SO6.out (ok' := fun i => w3.heap.size ≤ i ∧ ¬ m ≤ i) (fun i hi => ⟨hi.1, by omega⟩)
              have hol24 : (out.length + 1) * 24 ≤ 140737488355328 := by omega
              go_wp2_with (at_builtin; refine Kd.S_append kTs w3.heap.size rfl _ _ 41 53 (.slice none 0 0) 24 rfl Tryz.underlying41 P.info53 rfl (by decide) (by decide) (.slice A9 k c9) out takes [.slice A12 takes.length c12] (fun i => w3.heap.size ≤ i) (fun i => m ≤ i) rfl rfl ⟨_, rfl, hTT⟩ hokp (fun i hi => by omega) hSO (Below.refl _ wr) (by omega) hol24 ?_; intro v8 w8 hS8 hB8 hg8 hat8)
              have RL8 := Aside0.mk (own_move RL6.out (fun q hq => hB8.block q (by simp [Value.ownBlock] at hq; omega)))
              have BW8 := Aside0.mk (BW6.out.trans (hB8.mono HB3.out.size))
              have SZ8 := Aside0.mk (show w3.heap.size ≤ w8.heap.size by have := hB8.size; omega)
              go_roundw
              case rel => first | exact ⟨k + 1, out ++ [takes], lf, by omega, by go_num, hpn, RL8, ⟨hS8⟩, BW8, SZ8⟩ | exact ⟨k + 1, by omega, by go_num, out ++ [takes], lf, hpn, RL8, ⟨hS8⟩, BW8, SZ8⟩
              case measure => simp [intOf]; omega
      · have hltz : ¬ (k : Int) < (ws.length : Int) := by omega
        have E : k = ws.length := by omega
        subst E
        have hpe := PP.out.eq
        rw [List.drop_length, Tq.planFrom] at hpe
        simp only [Option.map_some, List.append_nil] at hpe
        have hpe2 := plan_some HAN.out hpe
        rw [HPL.out] at hpe2
        have HPE := Aside0.mk hpe2
        clear hpe hpe2
        go_wp2
        go_ret2
        refine ⟨.slice A9 ws.length c9, ?_, ?_, BW.out⟩
        · rw [HPE.out]; rfl
        · rw [HPE.out]; exact Kd.S_mono (Kd.S_lower SO.out HB3.out.size) (fun i hi => Nat.le_trans HB3.out.size hi)
end Go.Proofs.YtcliaokoganbaaaGreatDoor
set_option linter.unusedVariables false
set_option linter.unusedSimpArgs false
namespace Go.Proofs.YtcliaokoganbaaaGreatDoor
open Go Go.RowKit Go.Shelf Go.Proofs.YtcliaokoganbaaaGreatDoorW.PrintWords Go.Proofs.YtcliaokoganbaaaGreatDoorW.PrintLast Go.Proofs.YtcliaokoganbaaaGreatDoorW.PrintMore
open Tq (Lot Box Want Take Ord Op BookInv)

/-! ### Promise -/
/-- What is right of boxes. -/
def SureOk (nl : Nat) (sure : List Box) : Prop := sure.length ≤ 20 ∧ ∀ b ∈ sure, b.lot < nl ∧ 0 ≤ b.count ∧ b.count ≤ 20000
theorem spare_ok {nl : Nat} {sure : List Box} (os : List Ord) (hi : BookInv os) (h : SureOk nl sure) : LeftOk nl (Tq.spare os sure).length (Tq.spare os sure) ∧ (Tq.spare os sure).length = sure.length := by
  have hl : (Tq.spare os sure).length = sure.length := by simp [Tq.spare]
  refine ⟨⟨rfl, fun b hb => ?_⟩, hl⟩
  unfold Tq.spare at hb
  obtain ⟨i, hi2, rfl⟩ := List.mem_iff_getElem.1 hb
  rw [List.getElem_mapIdx]
  have hs := h.2 _ (List.getElem_mem (by simpa using hi2 : i < sure.length))
  have hr := fromTakes_bounds hi (i : Int)
  rw [← reserved_eq] at hr
  unfold Tq.spareAt
  split
  · simp only; exact ⟨hs.1, by omega, by omega⟩
  · exact ⟨hs.1, hs.2.1, by omega⟩
set_option maxRecDepth 100000 in
set_option maxHeartbeats 2000000 in
theorem f21_none (B g : Nat) (ok : Nat → Prop) (os : List Ord) (no : Int) (v1 v2 : Value) (w : World) (h : BookAt w B ok g os) (hst : Tq.stateAt os no = none) :
    Calls Tryz.prog 21 #[.pointer (some ⟨g, 0, none⟩), .int .i64 no, v1, v2] w fun e w' => e = .returned (.int .i64 4) ∧ Below w.heap.size w w' := by
  have hW := h.alloc (.cells #[.int .i64 0] 3)
  obtain ⟨A1, c1, hc, hf, hn, _, _⟩ := hW.head
  have hcall := f55_none g A1 os.length c1 no (.slice (some ⟨w.heap.size, 0, none⟩) 1 1) _ hn hc (state_none hst)
  have hbA := below_alloc (Below.refl w.heap.size w) (.cells #[.int .i64 0] 3)
  clear h hW hc hf hst
  go_enter Tryz.func21, Tryz.ntmps21
  go_wp2_with (go_at_call 55; refine hcall.mono ?_; rintro e w1 ⟨rfl, hb⟩)
  go_ret
  exact ⟨rfl, hbA.trans (hb.mono (by simp))⟩
set_option maxRecDepth 100000 in
set_option maxHeartbeats 2000000 in
theorem f21_bad (B g : Nat) (ok : Nat → Prop) (os : List Ord) (no : Int) (v1 v2 : Value) (o : Ord) (w : World) (h : BookAt w B ok g os) (hst : Tq.stateAt os no = some o) (hs : o.state ≠ 0) :
    Calls Tryz.prog 21 #[.pointer (some ⟨g, 0, none⟩), .int .i64 no, v1, v2] w fun e w' => e = .returned (.int .i64 7) ∧ Below w.heap.size w w' := by
  have hW := h.alloc (.cells #[.int .i64 0] 3)
  obtain ⟨A1, c1, hc, hf, hn, _, _⟩ := hW.head
  obtain ⟨h0, h1, hget⟩ := state_some hst
  obtain ⟨gr, v0, v3, oki, rfl, hne, hokr, hBr, hlt, k0, k1, k2, k3, hfz, hw, ht, hoki, hH⟩ := hW.lend hc h0 h1
  rw [hget] at k2
  have hcall := f55_any g gr os.length c1 no o.state [0] (some ⟨w.heap.size, 0, none⟩) 1 _ hn hc h0 h1 k2 (C_lit w [0] (by decide)) (by decide) (by decide)
  have hcn : [(0 : Int)].contains o.state = false := by simp [hs]
  rw [hcn] at hcall
  simp only [Bool.false_eq_true, if_false, List.length_cons, List.length_nil] at hcall
  have hbA := below_alloc (Below.refl w.heap.size w) (.cells #[.int .i64 0] 3)
  clear h hW hc hf hst k0 k1 k2 k3 hfz hw ht hoki hH hcn
  go_enter Tryz.func21, Tryz.ntmps21
  go_wp2_with (go_at_call 55; refine hcall.mono ?_; rintro e w1 ⟨rfl, hb⟩)
  go_ret
  exact ⟨rfl, hbA.trans (hb.mono (by simp))⟩
end Go.Proofs.YtcliaokoganbaaaGreatDoor
set_option linter.unusedVariables false
set_option linter.unusedSimpArgs false
namespace Go.Proofs.YtcliaokoganbaaaGreatDoor
open Go Go.RowKit Go.Shelf Go.Proofs.YtcliaokoganbaaaGreatDoorW.PrintWords Go.Proofs.YtcliaokoganbaaaGreatDoorW.PrintLast Go.Proofs.YtcliaokoganbaaaGreatDoorW.PrintMore
open Tq (Lot Box Want Take Ord Op BookInv)

theorem R_toC {α : Type} {d : Kd α} {e : Nat} {w : World} {B : Nat} {ok : Nat → Prop} {v : Value} {xs : List α} (h : d.R e w B ok v xs) : ∀ A c, v = .slice A xs.length c → d.C w A xs.length xs := by
  intro A c hv
  obtain ⟨_, _, e, _, hC⟩ := Kd.R_reads h
  rw [hv] at e
  injection e with e _ _
  rw [← e] at hC; exact hC
set_option maxRecDepth 100000 in
set_option maxHeartbeats 4000000 in
theorem f21_go (B g : Nat) (ok : Nat → Prop) (os : List Ord) (no : Int) (o : Ord) (AL AS : Option Addr) (cl cs : Nat) (lots : List Lot) (sure : List Box) (w : World) (h : BookAt w B ok g os) (hBw : B ≤ w.heap.size) (hi : BookInv os) (hst : Tq.stateAt os no = some o) (hs : o.state = 0)
    (hL : kL.C w AL lots.length lots) (hcl : lots.length ≤ cl) (hS : kB.C w AS sure.length sure) (hso : SureOk lots.length sure) :
    Calls Tryz.prog 21 #[.pointer (some ⟨g, 0, none⟩), .int .i64 no, .slice AL lots.length cl, .slice AS sure.length cs] w fun e w' =>
      e = .returned (.int .i64 (Tq.promise os no lots sure).1) ∧ BookAt w' B (fun k => ok k ∨ w.heap.size ≤ k) g (Tq.promise os no lots sure).2 ∧ Mut ok w w' := by
  have hW := h.alloc (.cells #[.int .i64 0] 3)
  obtain ⟨A1, c1, hc, hf, hn, _, _⟩ := hW.head
  obtain ⟨h0, h1, hget⟩ := state_some hst
  have hom : o ∈ os := by
    rw [List.getD_eq_getElem?_getD, List.getElem?_eq_getElem (by omega)] at hget
    rw [← hget]; exact List.getElem_mem _
  have hwl := (Tq.rightWants_bounds (hi.all o hom).right).2.1
  obtain ⟨gr, v0, v3, oki, rfl, hne, hokr, hBr, hlt, k0, k1, k2, k3, hfz, hw, ht, hoki, hH⟩ := hW.bound.lend hc h0 h1
  rw [hget] at k1 k2 hw ht hH
  have hcall := f55_any g gr os.length c1 no o.state [0] (some ⟨w.heap.size, 0, none⟩) 1 _ hn hc h0 h1 k2 (C_lit w [0] (by decide)) (by decide) (by decide)
  have hcn : [(0 : Int)].contains o.state = true := by simp [hs]
  rw [hcn] at hcall
  simp only [if_true, List.length_cons, List.length_nil] at hcall
  obtain ⟨hsl, hsn⟩ := spare_ok os hi hso
  have hpr : Tq.promise os no lots sure = if (Tq.plan lots (Tq.spare os sure) o.wants).2 ≠ 0 then ((Tq.plan lots (Tq.spare os sure) o.wants).2, os) else (0, Tq.setOrd os no { o with state := 1, takes := (Tq.plan lots (Tq.spare os sure) o.wants).1 }) := by
    unfold Tq.promise
    rw [hst]
    simp only
    rw [if_neg (by omega)]
  have hbA := below_alloc (Below.refl w.heap.size w) (.cells #[.int .i64 0] 3)
  have hW0 : (w.alloc (.cells #[.int .i64 0] 3)).heap.size = w.heap.size + 1 := by simp
  have HW0 := Aside0.mk hW
  have HH := Aside0.mk hH
  have HW := Aside0.mk hw
  have HO := Aside0.mk hoki
  have HL := Aside0.mk (Kd.C_below hL hbA)
  have HS := Aside0.mk (Kd.C_below hS hbA)
  have HB0 := Aside0.mk h
  obtain ⟨A0, c0, rfl⟩ := Kd.R_slice hw
  have hCW : kW.C (w.alloc (.cells #[.int .i64 0] 3)) A0 o.wants.length o.wants := by
    obtain ⟨_, _, e, _, hC⟩ := Kd.R_reads hw
    injection e with e _ _
    rw [← e] at hC; exact hC
  have HCW := Aside0.mk hCW
  have hf2 := hfz 2
  have hf3 := hfz 3
  have hf2' := hf2
  clear hst h hc hf hn hL hS hget hcn hw ht hH hoki hW hCW hfz hf2'
  rw [hpr]
  clear hpr
  have hplan := fun (W : World) (AB : Option Addr) (cb : Nat) (hb : Below (w.alloc (.cells #[.int .i64 0] 3)).heap.size (w.alloc (.cells #[.int .i64 0] 3)) W) (hB : kB.C W AB (Tq.spare os sure).length (Tq.spare os sure)) =>
    f20_any AL AB A0 cl cb c0 lots (Tq.spare os sure) o.wants W (Kd.C_below HL.out hb) hB (Kd.C_below HCW.out hb) hcl (by rw [hsn]; exact hso.1) hsl (by omega)
  have hspare := fun (W : World) (hb : Below (w.alloc (.cells #[.int .i64 0] 3)).heap.size (w.alloc (.cells #[.int .i64 0] 3)) W) =>
    f19_any B g ok os AS cs sure W (HW0.out.below hb) hi (Kd.C_below HS.out hb) (by have := hso.1; omega) (fun b hb => by have := hso.2 b hb; omega)
  generalize Tq.plan lots (Tq.spare os sure) o.wants = r at hplan ⊢
  generalize hsp : Tq.spare os sure = sp at *
  clear hsn hsl hsp
  by_cases hr : r.2 = 0
  · rw [if_neg (by simp [hr])]
    go_enter Tryz.func21, Tryz.ntmps21
    go_wp2_with (go_at_call 55; refine hcall.mono ?_; rintro e w1 ⟨rfl, hb⟩; refine Hid.out ?_)
    refine Lib.hid ?_
    have j0 := cell_on hb k0
    have j3 := cell_on hb k3
    have j2 := cell_on hb k2
    have f2 := (hb.frozen (p := ⟨gr, no.toNat * 4 + 2, none⟩) hlt).trans hf2
    have f3 := (hb.frozen (p := ⟨gr, no.toNat * 4 + 3, none⟩) hlt).trans hf3
    have hlt1 : gr < w1.heap.size := Nat.lt_of_lt_of_le hlt hb.size
    clear k0 k1 k2 k3 hf2 hf3 hcall
    have hbd := hb.drew
    have HBD := Aside0.mk hb
    go_wp2_with fail
    go_region_law (first
      | (go_simp; go_at_call 19; refine (hspare _ ?_).mono ?_; exact hbd; rintro e w2 ⟨v2, rfl, hR2, hb2⟩; have hCsp := R_toC hR2; obtain ⟨A2, c2, rfl⟩ := Kd.R_slice hR2; have hbu := below_undrew hb2; have j02 := cell_on hbu j0; have hb02 := hb.trans (hbu.mono hb.size))
      | (go_simp; go_at_call 20; refine (hplan _ A2 c2 ?_ ?_).mono ?_; exact hb02; exact hCsp A2 c2 rfl; rintro e w3 ⟨v3', rfl, hS3, hb3⟩; obtain ⟨A3, c3, rfl⟩ := Kd.S_slice hS3))
    all_goals (
      rename_i Kn hKn
      refine hKn _ _ ?_
      clear hKn
      have hb13 : Below w1.heap.size w1 w3 := hbu.trans (hb3.mono hbu.size)
      have j23 := cell_on hb13 j2
      have j33 := cell_on hb13 j3
      have f23 := (hb13.frozen (p := ⟨gr, no.toNat * 4 + 2, none⟩) hlt1).trans f2
      have f33 := (hb13.frozen (p := ⟨gr, no.toNat * 4 + 3, none⟩) hlt1).trans f3
      have HB13 := Aside0.mk hb13
      have HS3 := Aside0.mk hS3
      have SZ := Aside0.mk hbu.size
      clear hb hb2 hb3 hbu hb02 hb13 hS3 hR2 hCsp hbd j0 j2 j3 f2 f3 hspare hplan
      go_wp2
      go_ret
      have hbw : Below (w.alloc (.cells #[.int .i64 0] 3)).heap.size (w.alloc (.cells #[.int .i64 0] 3)) w3 := HBD.out.trans (HB13.out.mono HBD.out.size)
      have hsz : w.heap.size ≤ w2.heap.size := by have := HBD.out.size; have := SZ.out; omega
      have hgr3 : gr < w2.heap.size := by have := SZ.out; omega
      have H1 := (((HH.out.below hbw).more (okt := fun k => w2.heap.size ≤ k) (fun k hk hk2 => by have := HBD.out.size; have := SZ.out; omega)).set hne 2 (by omega) (.int .i64 1) rfl).set hne 3 (by omega) (.slice A3 r.1.length c3) rfl
      refine ⟨rfl, BookAt.mono (H1.back (x := { o with state := 1, takes := r.1 }) ?_) (fun k hk => hk.elim (fun h => .inl h.1) (fun h => .inr (by omega))), ((Mut.of_below (hbA.trans (hbw.mono (by omega))) ok).setCell (p := ⟨gr, no.toNat * 4 + 2, none⟩) (.inl hokr.1) _).setCell (p := ⟨gr, no.toNat * 4 + 3, none⟩) (.inl hokr.1) _⟩
      refine kO_mkM { o with state := 1, takes := r.1 } ?_ ?_
      · exact Kd.R_mono (Kd.R_far (p := ⟨gr, no.toNat * 4 + 3, none⟩) (Kd.R_far (p := ⟨gr, no.toNat * 4 + 2, none⟩) (Kd.R_below HW.out hbw) (fun k hk => (HO.out k hk).2) _) (fun k hk => (HO.out k hk).2) _) (fun k hk => .inl hk)
      · exact Kd.S_mono (Kd.S_lower (Kd.S_far (p := ⟨gr, no.toNat * 4 + 3, none⟩) (Kd.S_far (p := ⟨gr, no.toNat * 4 + 2, none⟩) HS3.out (fun k hk => (show k ≠ gr by omega)) _) (fun k hk => (show k ≠ gr by omega)) _) (by omega)) (fun k hk => .inr hk))
  · rw [if_pos hr]
    go_enter Tryz.func21, Tryz.ntmps21
    go_wp2_with (go_at_call 55; refine hcall.mono ?_; rintro e w1 ⟨rfl, hb⟩; refine Hid.out ?_)
    refine Lib.hid ?_
    have j0 := cell_on hb k0
    have hlt1 : gr < w1.heap.size := Nat.lt_of_lt_of_le hlt hb.size
    clear k0 k1 k2 k3 hf2 hf3 hcall
    have hbd := hb.drew
    have HBD := Aside0.mk hb
    go_wp2_with fail
    go_region_law (first
      | (go_simp; go_at_call 19; refine (hspare _ ?_).mono ?_; exact hbd; rintro e w2 ⟨v2, rfl, hR2, hb2⟩; have hCsp := R_toC hR2; obtain ⟨A2, c2, rfl⟩ := Kd.R_slice hR2; have hbu := below_undrew hb2; have j02 := cell_on hbu j0; have hb02 := hb.trans (hbu.mono hb.size))
      | (go_simp; go_at_call 20; refine (hplan _ A2 c2 ?_ ?_).mono ?_; exact hb02; exact hCsp A2 c2 rfl; rintro e w3 ⟨v3', rfl, hS3, hb3⟩; obtain ⟨A3, c3, rfl⟩ := Kd.S_slice hS3))
    all_goals (
      rename_i Kn hKn
      refine hKn _ _ ?_
      clear hKn
      have hb13 : Below w1.heap.size w1 w3 := hbu.trans (hb3.mono hbu.size)
      have HB13 := Aside0.mk hb13
      clear hb hb2 hb3 hbu hb02 hb13 hS3 hR2 hCsp hbd j0 hspare hplan
      go_wp2
      go_ret
      have hbw : Below (w.alloc (.cells #[.int .i64 0] 3)).heap.size (w.alloc (.cells #[.int .i64 0] 3)) w3 := HBD.out.trans (HB13.out.mono HBD.out.size)
      have hbww := hbA.trans (hbw.mono (by omega))
      exact ⟨rfl, (HB0.out.below hbww).mono (fun k hk => .inl hk), Mut.of_below hbww ok⟩)
/-- Promise is 'Tq.promise'. -/
theorem f21_any (B g : Nat) (ok : Nat → Prop) (os : List Ord) (no : Int) (AL AS : Option Addr) (cl cs : Nat) (lots : List Lot) (sure : List Box) (w : World) (h : BookAt w B ok g os) (hBw : B ≤ w.heap.size) (hi : BookInv os)
    (hL : kL.C w AL lots.length lots) (hcl : lots.length ≤ cl) (hS : kB.C w AS sure.length sure) (hso : SureOk lots.length sure) :
    Calls Tryz.prog 21 #[.pointer (some ⟨g, 0, none⟩), .int .i64 no, .slice AL lots.length cl, .slice AS sure.length cs] w fun e w' =>
      e = .returned (.int .i64 (Tq.promise os no lots sure).1) ∧ BookAt w' B (fun k => ok k ∨ w.heap.size ≤ k) g (Tq.promise os no lots sure).2 ∧ Mut ok w w' := by
  cases hst : Tq.stateAt os no with
  | none =>
    have hp : Tq.promise os no lots sure = (4, os) := by unfold Tq.promise; rw [hst]
    rw [hp]
    refine (f21_none B g ok os no _ _ w h hst).mono ?_
    rintro e w' ⟨rfl, hb⟩
    exact ⟨rfl, (h.below hb).mono (fun k hk => .inl hk), Mut.of_below hb ok⟩
  | some o =>
    by_cases hs : o.state = 0
    · exact f21_go B g ok os no o AL AS cl cs lots sure w h hBw hi hst hs hL hcl hS hso
    · have hp : Tq.promise os no lots sure = (7, os) := by unfold Tq.promise; rw [hst]; simp only; rw [if_pos hs]
      rw [hp]
      refine (f21_bad B g ok os no _ _ o w h hst hs).mono ?_
      rintro e w' ⟨rfl, hb⟩
      exact ⟨rfl, (h.below hb).mono (fun k hk => .inl hk), Mut.of_below hb ok⟩
end Go.Proofs.YtcliaokoganbaaaGreatDoor
set_option linter.unusedVariables false
set_option linter.unusedSimpArgs false
namespace Go.Proofs.YtcliaokoganbaaaGreatDoor
open Go Go.RowKit Go.Shelf Go.Proofs.YtcliaokoganbaaaGreatDoorW.PrintWords Go.Proofs.YtcliaokoganbaaaGreatDoorW.PrintLast Go.Proofs.YtcliaokoganbaaaGreatDoorW.PrintMore
open Tq (Lot Box Want Take Ord Op BookInv)

/-! ### slices.IndexFunc, slices.DeleteFunc at takes -/
def PredT (g : Nat) (lb : Array Value) (p : Take → Bool) (ws : List Take) (w : World) : Prop :=
  ∀ (W : World) (x : Take), x ∈ ws → Below w.heap.size w W → Calls Tryz.prog g (#[.agg #[.int .i64 x.box, .int .i64 x.n]] ++ lb) W fun e w' => e = .returned (.bool (p x)) ∧ Below w.heap.size w w'

set_option maxHeartbeats 1000000 in
theorem f106_any (g : Nat) (lb : Array Value) (p : Take → Bool) (A : Option Addr) (c : Nat) (ws : List Take) (w : World) (hC : kT.C w A ws.length ws)
    (eg : ∀ args w, (callFunc g args).run Tryz.prog w = .ok (.enter g args) w) (hp : PredT g lb p ws w) :
    Calls Tryz.prog 106 #[.slice A ws.length c, .func (.func g) #[] lb] w fun e w' => e = .returned (.int .i64 (idxF p ws)) ∧ Below w.heap.size w w' := by
  have hu := Tryz.underlying66
  have hmax := hC.2.1
  have HC := Aside0.mk hC
  have HP := Aside0.mk hp
  clear hC hp
  go_enter Tryz.func106, Tryz.ntmps106
  go_wp2
  go_loopg [5, 8] ws.length (fun gg _ s8 wr => ∃ kk : Nat, kk ≤ ws.length ∧ ws.length - kk ≤ gg ∧ s8 = .int .i64 kk ∧ Aside (Below w.heap.size w wr) ∧ Aside (∀ j y, j < kk → ws[j]? = some y → p y = false))
  case atStart => exact ⟨0, Nat.zero_le _, by omega, rfl, Below.refl _ w, fun j y hj => absurd hj (Nat.not_lt_zero _)⟩
  case round =>
    obtain ⟨kk, hkk, hg, rfl, BW, A1⟩ := hrel
    by_cases hlt : kk < ws.length
    · have hltz : (kk : Int) < (ws.length : Int) := by omega
      have hget : ws[kk]? = some ws[kk] := List.getElem?_eq_getElem hlt
      have hmem := List.getElem_mem hlt
      generalize ws[kk] = y at hget hmem
      obtain ⟨ad, rfl, hc0, hc1⟩ := at_T HC.out kk y hget
      have hcall := HP.out wr y hmem BW.out
      have c0 := cell_on BW.out hc0
      have c1 := cell_on BW.out hc1
      have B := Aside0.mk hget
      clear hget hc0 hc1 hmem
      cases hq : p y with
      | true =>
        rw [hq] at hcall
        go_wp2_with (go_at_fn g; refine hcall.mono ?_; rintro e w' ⟨rfl, hb'⟩)
        go_ret
        refine ⟨?_, hb'⟩
        rw [idxF_hit p ws kk y B.out hq A1.out]
        rfl
      | false =>
        rw [hq] at hcall
        have Q := Aside0.mk hq
        clear hq
        go_wp2_with (go_at_fn g; refine hcall.mono ?_; rintro e w' ⟨rfl, hb'⟩)
        go_roundg (ws.length - (kk + 1))
        case measure => omega
        case rel =>
          refine ⟨kk + 1, by omega, by omega, by go_num, hb', (show Aside _ from fun j x hj hx => ?_)⟩
          by_cases e : j = kk
          · exact (congrArg p (Option.some.inj (B.out.symm.trans (e ▸ hx)))).symm.trans Q.out
          · exact A1.out j x (by omega) hx
    · have hltz : ¬ (kk : Int) < (ws.length : Int) := by omega
      have E := Aside0.mk (show kk = ws.length by omega)
      go_wp2
      go_ret
      refine ⟨?_, BW.out⟩
      rw [idxF_miss p ws (fun j y hj => A1.out j y (by rw [E.out]; exact hj))]
      rfl

theorem f67_any (x : Take) (w : World) : Calls Tryz.prog 67 #[.agg #[.int .i64 x.box, .int .i64 x.n]] w fun e w' => e = .returned (.bool (decide (x.n = 0))) ∧ Below w.heap.size w w' := by
  have hB : ∀ o, Below w.heap.size w (w.alloc o) := fun o => below_alloc (Below.refl _ _) o
  obtain ⟨k, c⟩ := x
  go_enter Tryz.func67, Tryz.ntmps67
  go_wp2
  go_ret
  exact ⟨ret_bool (by first | rfl | (rw [Bool.eq_iff_iff]; simp)), hB _⟩
theorem pred67 (ws : List Take) (w : World) : PredT 67 #[] (fun x => decide (x.n = 0)) ws w := fun W x _ hb => (f67_any x W).mono fun e w' h => ⟨h.1, below_then hb hb.size h.2⟩
def tCells (t : Take) : List Value := [.int .i64 t.box, .int .i64 t.n]
theorem tCells_len (t : Take) : (tCells t).length = 2 := rfl
theorem kT_flat {e : Nat} {w : World} {base : Nat} {ok : Nat → Prop} {v : Value} {xs : List Take} (h : kT.R e w base ok v xs) : w.ownsRow base e 2 v xs.length (xs.flatMap tCells) := by
  obtain ⟨_, inner, hown, hr⟩ := h
  rw [← reps_flat (f := tCells) (fun x cs hM => kT_openM hM) tCells_len hr]; exact hown
theorem flat_kT {e : Nat} {w : World} {base : Nat} {ok : Nat → Prop} {v : Value} {xs : List Take} (h : w.ownsRow base e 2 v xs.length (xs.flatMap tCells)) (hok : ∀ k, v.ownBlock = some k → ok k) : kT.R e w base ok v xs :=
  ⟨hok, _, h, flat_reps tCells_len (fun x => kT_mkM _ _ _ x) xs⟩
end Go.Proofs.YtcliaokoganbaaaGreatDoor
set_option linter.unusedVariables false
set_option linter.unusedSimpArgs false
namespace Go.Proofs.YtcliaokoganbaaaGreatDoor
open Go Go.RowKit Go.Shelf Go.Proofs.YtcliaokoganbaaaGreatDoorW.PrintWords Go.Proofs.YtcliaokoganbaaaGreatDoorW.PrintLast Go.Proofs.YtcliaokoganbaaaGreatDoorW.PrintMore
open Tq (Lot Box Want Take Ord Op BookInv)

theorem flat_take {α : Type} {sz : Nat} {f : α → List Value} (hz : ∀ x, (f x).length = sz) : ∀ (xs : List α) (i : Nat), (xs.flatMap f).take (i * sz) = (xs.take i).flatMap f
  | [], i => by simp
  | x :: xs, 0 => by simp
  | x :: xs, i + 1 => by
    rw [List.flatMap_cons, List.take_succ_cons, List.flatMap_cons, List.take_append, hz, show (i + 1) * sz - sz = i * sz by rw [Nat.add_mul]; omega, flat_take hz xs i, List.take_of_length_le (by rw [hz, Nat.add_mul]; omega)]
/-! ### clear of a row's tail -/
theorem run_clear_tail {w : World} {g n cap i base : Nat} {ty : TypeId} {xs : List Value} (hi : i < n) (hown : w.ownsRow base 66 2 (.slice (some ⟨g, 0, none⟩) n cap) n xs) :
    ∃ w', (Builtin.clear_ #[53] ty #[.slice (some ⟨g, i * 2, none⟩) (n - i) (cap - i)]).run Tryz.prog w = .ok (.tuple #[]) w' ∧ w'.ownsRow base 66 2 (.slice (some ⟨g, 0, none⟩) i cap) i (xs.take (i * 2)) ∧ w.grownBy w' (some g) := by
  obtain ⟨hol, ⟨he, _⟩ | ⟨g', cap', cur, he, hb, hg, hnc, hcm, hcs, htk⟩⟩ := hown
  · cases he
  injection he with e1 e2 e3
  injection e1 with e1; injection e1 with e1
  subst e1; subst e3
  have hzc : (Builtin.zeroCells #[Value.int .i64 0, .int .i64 0] (n - i)).toList = List.replicate ((n - i) * 2) (Value.int .i64 0) := by
    simp only [Builtin.zeroCells]
    apply List.ext_getElem
    · simp
    · intro k h1 h2
      simp
      rcases Nat.mod_two_eq_zero_or_one k with h | h <;> rw [h] <;> rfl
  have hst := run_storeCells_at Tryz.prog g (i * 2) 66 (List.replicate ((n - i) * 2) (Value.int .i64 0)) 0 cur w hg (by simp [hcs]; omega) (fun v hv => by rw [List.eq_of_mem_replicate hv]; rfl)
  obtain ⟨m, hm⟩ : ∃ m, n - i = m + 1 := ⟨n - i - 1, by omega⟩
  refine ⟨w.setRow g (cur.toList.take (i * 2 + 0) ++ List.replicate ((n - i) * 2) (Value.int .i64 0) ++ cur.toList.drop (i * 2 + 0 + (List.replicate ((n - i) * 2) (Value.int .i64 0)).length)).toArray, ?_, ?_, ?_⟩
  · rw [hm] at hzc hst ⊢
    have hv := Tryz.zeroValue66
    have hcl : (Value.agg #[Value.int .i64 0, Value.int .i64 0]).cells = #[Value.int .i64 0, Value.int .i64 0] := rfl
    simp only [Nat.add_zero] at hst
    simp [Builtin.clear_, run_underlying Tryz.underlying53, hv, hcl, hzc, hst]
  · refine ⟨by rw [List.length_take, hol]; omega, .inr ⟨g, cap, _, rfl, hb, setRow_heap w g cur _ 66 (0, 0) hg, by omega, hcm, ?_, ?_⟩⟩
    · simp [hcs]; omega
    · rw [← htk]
      simp only [Nat.add_zero, List.toList_toArray, List.append_assoc]
      rw [List.take_append_of_le_length (by rw [List.length_take, Array.length_toList, hcs]; omega), List.take_take, List.take_take, Nat.min_self, Nat.min_eq_left (by omega)]
  · exact ⟨rfl, rfl, rfl, by simp [World.setRow], fun k _ hk => setRow_other w g k _ (fun e => hk (by rw [e]))⟩
theorem wpList_clear_tail {w : World} {ops : Array Oper} {rest : List Oper} {o : Oper} {a : Act} {Q : Exit → Act → World → Prop} (hgd : o.guard = none) (d : Operand)
    (ho : o.op = .call { callee := .builtin .clear, args := #[d], argTypes := #[53] }) (g n cap i base : Nat) (xs : List Value) (hd : a.eval d = .slice (some ⟨g, i * 2, none⟩) (n - i) (cap - i)) (hi : i < n)
    (hown : w.ownsRow base 66 2 (.slice (some ⟨g, 0, none⟩) n cap) n xs)
    (h : ∀ w', w'.ownsRow base 66 2 (.slice (some ⟨g, 0, none⟩) i cap) i (xs.take (i * 2)) → w.grownBy w' (some g) → wpList Tryz.prog ops Q rest (a.put o.dst (.tuple #[])) w') : wpList Tryz.prog ops Q (o :: rest) a w := by
  obtain ⟨w', hrun, h2, h3⟩ := run_clear_tail (ty := o.type) hi hown
  refine wpList_plain hgd fun K hK => ?_
  unfold Oper.wp
  simp [execOp, ho, resolve, invoke, builtin, hd, hrun, Result.andThen]
  exact hK _ _ (h w' h2 h3)

set_option maxRecDepth 100000 in
set_option maxHeartbeats 4000000 in
theorem f66_miss (g : Nat) (lb : Array Value) (p : Take → Bool) (A : Option Addr) (c : Nat) (l : List Take) (w : World) (hC : kT.C w A l.length l) (eg : ∀ args w, (callFunc g args).run Tryz.prog w = .ok (.enter g args) w) (hp : PredT g lb p l w) (hm : idxF p l = -1) :
    Calls Tryz.prog 66 #[.slice A l.length c, .func (.func g) #[] lb] w fun e w' => e = .returned (.slice A l.length c) ∧ Below w.heap.size w w' := by
  have hcon := f106_any g lb p A c l w hC eg hp
  rw [hm] at hcon
  clear hC hp
  go_enter Tryz.func66, Tryz.ntmps66
  go_wp2_with (go_at_call 106; refine hcon.mono ?_; rintro e w1 ⟨rfl, hb⟩)
  go_ret
  exact ⟨rfl, hb⟩
/-- The row while DeleteFunc goes: i are kept of the first j. -/
structure DelAt (keep : Take → Bool) (l ls : List Take) (i j : Nat) : Prop where
  len : ls.length = l.length
  lt : i < j
  le : j ≤ l.length
  head : ls.take i = (l.take j).filter keep
  tail : ls.drop j = l.drop j
theorem del_skip {keep : Take → Bool} {l ls : List Take} {i j : Nat} {t : Take} (h : DelAt keep l ls i j) (hj : l[j]? = some t) (hk : keep t = false) : DelAt keep l ls i (j + 1) := by
  have hjl := (List.getElem?_eq_some_iff.1 hj).1
  refine ⟨h.len, by have := h.lt; omega, by omega, ?_, ?_⟩
  · rw [h.head, List.take_add_one, hj, List.filter_append]
    simp [hk]
  · rw [← List.drop_drop, h.tail, List.drop_drop]
theorem del_keep {keep : Take → Bool} {l ls : List Take} {i j : Nat} {t : Take} (h : DelAt keep l ls i j) (hj : l[j]? = some t) (hk : keep t = true) : DelAt keep l (ls.set i t) (i + 1) (j + 1) := by
  have hjl := (List.getElem?_eq_some_iff.1 hj).1
  have hlt := h.lt
  have hil : i < ls.length := by rw [h.len]; omega
  refine ⟨by rw [List.length_set]; exact h.len, by omega, by omega, ?_, ?_⟩
  · have e1 : (ls.set i t).take (i + 1) = ls.take i ++ [t] := by rw [List.take_add_one, List.take_set_of_le (by omega), List.getElem?_set_self hil]; rfl
    rw [e1, List.take_add_one, hj, List.filter_append, ← h.head]
    simp [hk]
  · rw [List.drop_set_of_lt (by omega), ← List.drop_drop, h.tail, List.drop_drop]
set_option maxRecDepth 100000 in
set_option maxHeartbeats 4000000 in
theorem f66_hit (g : Nat) (lb : Array Value) (p : Take → Bool) (base gt c i0 : Nat) (l : List Take) (w : World) (hR : w.ownsRow base 66 2 (.slice (some ⟨gt, 0, none⟩) l.length c) l.length (l.flatMap tCells)) (hmax : l.length ≤ 1000000)
    (hC : kT.C w (some ⟨gt, 0, none⟩) l.length l) (eg : ∀ args w, (callFunc g args).run Tryz.prog w = .ok (.enter g args) w) (hp : ∀ ws w, PredT g lb p ws w) (hm : idxF p l = (i0 : Int)) (hD : DelAt (fun t => !p t) l l i0 (i0 + 1)) :
    Calls Tryz.prog 66 #[.slice (some ⟨gt, 0, none⟩) l.length c, .func (.func g) #[] lb] w fun e w' => e = .returned (.slice (some ⟨gt, 0, none⟩) (l.filter (fun t => !p t)).length c) ∧
      w'.ownsRow base 66 2 (.slice (some ⟨gt, 0, none⟩) (l.filter (fun t => !p t)).length c) (l.filter (fun t => !p t)).length ((l.filter (fun t => !p t)).flatMap tCells) ∧ Mut (fun k => k = gt) w w' := by
  have hcon := f106_any g lb p (some ⟨gt, 0, none⟩) c l w hC eg (hp _ _)
  rw [hm] at hcon
  have hnc := own_cap hR
  have HR := Aside0.mk hR
  have HD := Aside0.mk hD
  have HP := Aside0.mk hp
  have hlt0 := hD.lt
  have hle0 := hD.le
  have hgt := own_lt hR gt rfl
  clear hC hR hD hp
  have hwi : IntKind.i64.wrap ((i0 : Int) + 1) = ((i0 + 1 : Nat) : Int) := by rw [IntKind.wrap_i64]; omega
  have hne1 : (i0 : Int) ≠ -1 := by omega
  have hd1 : ((i0 : Int) == -1) = false := by simp
  go_enter Tryz.func66, Tryz.ntmps66
  go_wp2_with (go_at_call 106; refine hcon.mono ?_; rintro e w1 ⟨rfl, hb⟩; refine Hid.out ?_)
  refine Lib.hid ?_
  have HR1 := Aside0.mk (pw_own_below HR.out hb)
  have HM1 := Aside0.mk (Mut.of_below hb (fun k => k = gt))
  have hgt1 : gt < w1.heap.size := Nat.lt_of_lt_of_le hgt hb.size
  clear hb hcon
  go_wp2
  go_loopw [5, 6] (fun s5 s6 wr => ∃ (i j : Nat) (ls : List Take), s5 = .int .i64 i ∧ s6 = .int .i64 j ∧ i < j ∧ j ≤ l.length ∧ Aside0 (DelAt (fun t => !p t) l ls i j) ∧ Aside0 (wr.ownsRow base 66 2 (.slice (some ⟨gt, 0, none⟩) l.length c) l.length (ls.flatMap tCells)) ∧ Aside0 (Mut (fun k => k = gt) w wr) ∧ Aside0 (gt < wr.heap.size))
    (fun _ s6 _ => l.length - (intOf s6).toNat)
  case atStart => exact ⟨i0, i0 + 1, l, rfl, rfl, hlt0, hle0, HD, HR1, HM1, ⟨hgt1⟩⟩
  case round =>
    obtain ⟨i, j, ls, rfl, rfl, hij, hjl, DD, RW, MW, GW⟩ := hrel
    by_cases hlt : j < l.length
    · have hltz : (j : Int) < (l.length : Int) := by omega
      obtain ⟨t, hgt2⟩ : ∃ t, l[j]? = some t := ⟨_, List.getElem?_eq_getElem hlt⟩
      have hlst : ls[j]? = some t := by
        have := congrArg (fun x => x[0]?) DD.out.tail
        simpa [hgt2] using this
      have hlen := DD.out.len
      have c0 : wr.cell? ⟨gt, j * 2, none⟩ = some (.int .i64 t.box) := by rw [RW.out.cellAt (j * 2) (by omega)]; exact flat_get tCells_len ls j t hlst 0 (by omega)
      have c1 : wr.cell? ⟨gt, j * 2 + 1, none⟩ = some (.int .i64 t.n) := by rw [RW.out.cellAt (j * 2 + 1) (by omega)]; exact flat_get tCells_len ls j t hlst 1 (by omega)
      have hbA : Below wr.heap.size wr (wr.alloc (.cells #[.int .i64 t.box, .int .i64 t.n] 66)) := below_alloc (Below.refl _ _) _
      have hbl := blk_facts (heap_alloc_at wr (.cells #[.int .i64 t.box, .int .i64 t.n] 66) _ rfl)
      have r0 : (wr.alloc (.cells #[.int .i64 t.box, .int .i64 t.n] 66)).cell? ⟨wr.heap.size, 0, none⟩ = some (.int .i64 t.box) := hbl.1 0
      have r1 : (wr.alloc (.cells #[.int .i64 t.box, .int .i64 t.n] 66)).cell? ⟨wr.heap.size, 1, none⟩ = some (.int .i64 t.n) := hbl.1 1
      have hcall := HP.out [t] _ (wr.alloc (.cells #[.int .i64 t.box, .int .i64 t.n] 66)) t (by simp) (Below.refl _ _)
      have HT := Aside0.mk hgt2
      have hgr := GW.out
      clear hbl hgt2 hlst
      cases hq : p t with
      | true =>
        rw [hq] at hcall
        have HQ := Aside0.mk hq
        clear hq
        go_wp2_with (go_at_fn g; refine hcall.mono ?_; rintro e w3 ⟨rfl, hb3⟩)
        have hb03 := hbA.trans (hb3.mono hbA.size)
        have DD2 := Aside0.mk (del_skip DD.out HT.out (by simp [HQ.out]))
        have RW2 := Aside0.mk (pw_own_below RW.out hb03)
        have MW2 := Aside0.mk (MW.out.below hb03)
        have GW2 := Aside0.mk (show gt < w3.heap.size from Nat.lt_of_lt_of_le hgr hb03.size)
        go_roundw
        case rel => exact ⟨i, j + 1, ls, rfl, by go_num, by omega, by omega, DD2, RW2, MW2, GW2⟩
        case measure => simp [intOf]; omega
      | false =>
        rw [hq] at hcall
        have HQ := Aside0.mk hq
        clear hq
        have hil : i < ls.length := by omega
        have hilz : (i : Int) < (l.length : Int) := by omega
        obtain ⟨y, hy⟩ : ∃ y, ls[i]? = some y := ⟨_, List.getElem?_eq_getElem hil⟩
        have HY := Aside0.mk hy
        clear hy
        go_wp2_with (go_at_fn g; refine hcall.mono ?_; rintro e w3 ⟨rfl, hb3⟩; have hb03 := hbA.trans (hb3.mono hbA.size); have RW3 := pw_own_below RW.out hb03; have q0 := cell_on hb3 r0; have q1 := cell_on hb3 r1; have d0 : w3.cell? ⟨gt, i * 2, none⟩ = some (.int .i64 y.box) := (by rw [RW3.cellAt (i * 2) (by omega)]; exact flat_get tCells_len ls i y HY.out 0 (by omega)); have d1 : w3.cell? ⟨gt, i * 2 + 1, none⟩ = some (.int .i64 y.n) := (by rw [RW3.cellAt (i * 2 + 1) (by omega)]; exact flat_get tCells_len ls i y HY.out 1 (by omega)); have f0 := RW3.frozenAt (i * 2); have f1 := RW3.frozenAt (i * 2 + 1))
        have hst := (RW3.stored (i * 2) (.int .i64 t.box)).1.stored (i * 2 + 1) (.int .i64 t.n)
        have e1 : ((ls.flatMap tCells).set (i * 2) (.int .i64 t.box)).set (i * 2 + 1) (.int .i64 t.n) = (ls.set i t).flatMap tCells := by
          have a := flat_set tCells_len ls i y (⟨t.box, y.n⟩ : Take) HY.out 0 (.int .i64 t.box) (by omega) rfl
          rw [Nat.add_zero] at a
          rw [a, flat_set tCells_len (ls.set i (⟨t.box, y.n⟩ : Take)) i (⟨t.box, y.n⟩ : Take) t (by rw [List.getElem?_set_self hil]) 1 (.int .i64 t.n) (by omega) rfl, List.set_set]
        rw [e1] at hst
        have DD2 := Aside0.mk (del_keep DD.out HT.out (by simp [HQ.out]))
        have RW4 := Aside0.mk hst.1
        have MW2 := Aside0.mk (((MW.out.below hb03).setCell (p := ⟨gt, i * 2, none⟩) (.inl rfl) (.int .i64 t.box)).setCell (p := ⟨gt, i * 2 + 1, none⟩) (.inl rfl) (.int .i64 t.n))
        have GW2 := Aside0.mk (show gt < ((w3.setCell ⟨gt, i * 2, none⟩ (.int .i64 t.box)).setCell ⟨gt, i * 2 + 1, none⟩ (.int .i64 t.n)).heap.size by have := hb03.size; simp [World.setCell]; omega)
        go_roundw
        case rel => exact ⟨i + 1, j + 1, ls.set i t, by go_num, by go_num, by omega, by omega, DD2, RW4, MW2, GW2⟩
        case measure => simp [intOf]; omega
    · have hltz : ¬ (j : Int) < (l.length : Int) := by omega
      have E : j = l.length := by omega
      subst E
      have hhead := DD.out.head
      rw [List.take_length] at hhead
      have hiz : (i : Int) ≤ (l.length : Int) := by omega
      have hiz0 : (0 : Int) ≤ (i : Int) := by omega
      have hic : (i : Int) ≤ (c : Int) := by omega
      have hncz : (l.length : Int) ≤ (c : Int) := by omega
      have hlc : i < c := by omega
      have HH := Aside0.mk hhead
      clear hhead
      go_wp2_with (refine wpList_clear_tail rfl _ rfl gt l.length c i base (ls.flatMap tCells) rfl hij RW.out ?_; intro w4 hO4 hg4)
      have hil2 : i ≤ ls.length := by rw [DD.out.len]; omega
      have hfl : (l.filter (fun t => !p t)).length = i := by rw [← HH.out, List.length_take]; omega
      go_ret
      rw [hfl]
      refine ⟨rfl, ?_, MW.out.grown hg4 (fun k e => by cases e; exact .inl rfl)⟩
      rw [flat_take tCells_len, HH.out] at hO4
      exact hO4
theorem idxF_hit_inv {α : Type} (p : α → Bool) (l : List α) (h : idxF p l ≠ -1) : ∃ i0 : Nat, idxF p l = (i0 : Int) ∧ i0 < l.length ∧ (∀ j y, j < i0 → l[j]? = some y → p y = false) ∧ ∃ x, l[i0]? = some x ∧ p x = true := by
  unfold idxF at h ⊢
  cases hf : l.findIdx? p with
  | none => rw [hf] at h; exact (h rfl).elim
  | some i =>
    rw [List.findIdx?_eq_some_iff_getElem] at hf
    obtain ⟨h1, h2, h3⟩ := hf
    refine ⟨i, rfl, h1, fun j y hj hy => ?_, _, List.getElem?_eq_getElem h1, h2⟩
    have := h3 j hj
    obtain ⟨hjl, e⟩ := List.getElem?_eq_some_iff.1 hy
    rw [← e]; simpa using this
theorem del_start {p : Take → Bool} {l : List Take} {i0 : Nat} (hl : i0 < l.length) (hno : ∀ j y, j < i0 → l[j]? = some y → p y = false) {x : Take} (hx : l[i0]? = some x) (hp : p x = true) : DelAt (fun t => !p t) l l i0 (i0 + 1) := by
  refine ⟨rfl, by omega, by omega, ?_, rfl⟩
  rw [List.take_add_one, hx, List.filter_append]
  have e1 : (l.take i0).filter (fun t => !p t) = l.take i0 := List.filter_eq_self.2 (fun a ha => by
    obtain ⟨j, hj, rfl⟩ := List.getElem_of_mem ha
    rw [List.length_take] at hj
    rw [List.getElem_take]
    rw [hno j _ (by omega) (List.getElem?_eq_getElem (by omega))]; rfl)
  rw [e1]; simp [hp]
theorem filter_all {p : Take → Bool} {l : List Take} (h : idxF p l = -1) : l.filter (fun t => !p t) = l := by
  refine List.filter_eq_self.2 (fun a ha => ?_)
  unfold idxF at h
  cases hf : l.findIdx? p with
  | none => rw [List.findIdx?_eq_none_iff] at hf; rw [hf a ha]; rfl
  | some i => rw [hf] at h; simp at h
/-- slices.DeleteFunc at a row of takes of one's own. -/
theorem f66_any (g : Nat) (lb : Array Value) (p : Take → Bool) (base c : Nat) (A : Option Addr) (okk : Nat → Prop) (l : List Take) (w : World) (hR : kT.R 66 w base okk (.slice A l.length c) l) (hmax : l.length ≤ 1000000)
    (eg : ∀ args w, (callFunc g args).run Tryz.prog w = .ok (.enter g args) w) (hp : ∀ ws w, PredT g lb p ws w) :
    Calls Tryz.prog 66 #[.slice A l.length c, .func (.func g) #[] lb] w fun e w' => e = .returned (.slice A (l.filter (fun t => !p t)).length c) ∧
      kT.R 66 w' base okk (.slice A (l.filter (fun t => !p t)).length c) (l.filter (fun t => !p t)) ∧ Mut (fun k => (Value.slice A l.length c).ownBlock = some k) w w' := by
  have hC := R_toC hR A c rfl
  have hown := kT_flat hR
  by_cases hm : idxF p l = -1
  · rw [filter_all hm]
    refine (f66_miss g lb p A c l w hC eg (hp _ _) hm).mono ?_
    rintro e w' ⟨rfl, hb⟩
    exact ⟨rfl, Kd.R_below hR hb, Mut.of_below hb _⟩
  · obtain ⟨i0, hi, hl, hno, x, hx, hpx⟩ := idxF_hit_inv p l hm
    obtain ⟨gt, rfl⟩ : ∃ gt, A = some ⟨gt, 0, none⟩ := by
      obtain ⟨gt, cap, e, _⟩ := hown.form (by omega)
      injection e with e _ _
      exact ⟨gt, e⟩
    refine (f66_hit g lb p base gt c i0 l w hown hmax hC eg hp hi (del_start hl hno hx hpx)).mono ?_
    rintro e w' ⟨rfl, ho, hm⟩
    exact ⟨rfl, flat_kT ho (fun k hk => hR.1 k hk), hm.mono (fun k hk => .inl (by rw [hk]; rfl))⟩
end Go.Proofs.YtcliaokoganbaaaGreatDoor
