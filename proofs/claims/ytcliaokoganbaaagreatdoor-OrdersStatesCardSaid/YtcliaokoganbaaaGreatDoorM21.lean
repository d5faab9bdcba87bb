/-
  Part 21 of the proof of the card: lemmas and walks, joined by mergeclaim.py out of the texts IG.
-/
import Derived.Test.YtcliaokoganbaaaGreatDoorM20
import Derived.BigQuiet
import Derived.Deep.QuietTactic
set_option linter.unusedVariables false
set_option linter.unusedSimpArgs false
namespace Go.Proofs.YtcliaokoganbaaaGreatDoor
open Go Go.RowKit Go.Shelf Go.Proofs.YtcliaokoganbaaaGreatDoorW.PrintWords Go.Proofs.YtcliaokoganbaaaGreatDoorW.PrintLast Go.Proofs.YtcliaokoganbaaaGreatDoorW.PrintMore
open Tq (Lot Box Want Take Ord BookInv OrdInv)
set_option maxRecDepth 100000 in
set_option maxHeartbeats 8000000 in
theorem f3_go (AL AS AO : Option Addr) (cl cs co : Nat) (lots : List Lot) (sure : List Box) (ops : List Tq.Op) (w : World) (hs : Std w) (hL : kL.C w AL lots.length lots) (hcl : lots.length ≤ cl) (hS : kB.C w AS sure.length sure) (hcs : sure.length ≤ cs)
    (hO : kOp.C w AO ops.length ops) (hco : ops.length ≤ co) (hmax : ops.length ≤ 9223372036854775806) (hok : OpsOk ops) (hfew : fewB ops 40 = true) :
    Calls Tryz.prog 3 #[.slice AL lots.length cl, .slice AS sure.length cs, .slice AO ops.length co] w fun e w' => e = .returned (.bool true) ∧ Below w.heap.size w w' := by
  have hf2 : (∀ o ∈ ops, o.wants.length ≤ 6) ∧ ops.length ≤ 40 := by
    unfold fewB at hfew
    simpa using hfew
  have h7 := f7_any w
  have h8 := fun W (hb : Below w.heap.size w W) => f8_any AO co ops 40 W (Kd.C_below hO hb) hco hmax
  rw [hfew] at h8
  have h9 := fun W (hb : Below w.heap.size w W) => f9_any AL AS cl cs lots sure W (Kd.C_below hL hb) hcl (Kd.C_below hS hb) hcs
  have hstd : ∀ W, Below w.heap.size w W → Std W := fun W hb => hs.below hb hs.size
  have HSTD := Aside0.mk hstd
  have HL := Aside0.mk hL
  have HS := Aside0.mk hS
  have HO := Aside0.mk hO
  have HOK := Aside0.mk hok
  have HF := Aside0.mk hf2.1
  have hlen40 := hf2.2
  have H9 := Aside0.mk h9
  have H8 := Aside0.mk h8
  clear hs hstd hL hS hO hok hfew hf2 h8 h9
  go_enter Tryz.func3, Tryz.ntmps3
  go_wp2_with (go_at_call 7; refine h7.mono ?_; rintro e w1 ⟨rfl, hb1⟩; refine Hid.out ?_)
  refine Lib.hid ?_
  have c8 := H8.out w1 hb1
  go_wp2_with (go_at_call 8; refine c8.mono ?_; rintro e w2 ⟨rfl, hb2⟩; refine Hid.out ?_)
  refine Lib.hid ?_
  have hb12 : Below w.heap.size w w2 := hb1.trans (hb2.mono hb1.size)
  have c9 := H9.out w2 hb12
  clear hb2 c8 h7
  go_wp2_with (go_at_call 9; refine c9.mono ?_; rintro e w3 ⟨bg, rfl, hgv, hb3⟩; refine Hid.out ?_)
  refine Lib.hid ?_
  have hb13 : Below w.heap.size w w3 := hb12.trans (hb3.mono hb12.size)
  have HB13 := Aside0.mk hb13
  clear c9 hb12 hb3 hb1
  cases bg with
  | false =>
    clear hgv hb13
    go_wp2
    go_ret
    exact ⟨rfl, HB13.out⟩
  | true =>
    have hgiv := hgv rfl
    have HG := Aside0.mk hgiv
    have h10 := f10_any w.heap.size w3 hb13.size
    clear hgv hgiv
    go_wp2_with (go_at_call 10; refine h10.mono ?_; rintro e w4 ⟨g0, rfl, hk4, hb4⟩; refine Hid.out ?_)
    refine Lib.hid ?_
    have HB4 := Aside0.mk (HB13.out.trans (hb4.mono HB13.out.size))
    have HK4 := Aside0.mk (hk4.mono (ok' := fun k => w.heap.size ≤ k) (fun k hk => Nat.le_trans HB13.out.size hk))
    clear hk4 hb4 h10 hb13
    go_wp2
    go_loopw [8, 9] (fun s8 s9 wr => ∃ (i g : Nat) (os : List Ord), i ≤ ops.length ∧ s9 = .int .i64 i ∧ s8 = .pointer (some ⟨g, 0, none⟩) ∧ Aside0 (Below w.heap.size w wr) ∧ Aside0 (BookAt wr w.heap.size (fun k => w.heap.size ≤ k) g os) ∧ Aside0 (BookInv os ∧ Tq.KindsOk os)) (fun _ s9 _ => ops.length - (intOf s9).toNat)
    case atStart => exact ⟨0, g0, [], Nat.zero_le _, rfl, rfl, HB4, HK4, ⟨⟨⟨fun o ho => (by cases ho), by simp⟩, fun o ho => (by cases ho)⟩⟩⟩
    case round =>
      obtain ⟨i, g, os, hi, rfl, rfl, BW, BK, BI⟩ := hrel
      by_cases hlt : i < ops.length
      · have hltz : (i : Int) < (ops.length : Int) := by omega
        have hget : ops[i]? = some ops[i] := List.getElem?_eq_getElem hlt
        have hmem := List.getElem_mem hlt
        generalize ops[i] = o at hget hmem
        obtain ⟨ad, A5, c5, rfl, p0, p1, p2, p3, p4, p5, hl5, hC5⟩ := at_Op HO.out i o hget
        obtain ⟨wo, hwo⟩ : ∃ wo, wo = wr := ⟨_, rfl⟩
        subst hwo
        have HCELL := Aside0.mk (show ∀ W, Below w.heap.size w W → W.cell? (ad.add (i * 6)) = some (.int .i64 o.act) ∧ W.cell? ⟨(ad.add (i * 6)).block, (ad.add (i * 6)).off + 1, none⟩ = some (.int .i64 o.no) ∧ W.cell? ⟨(ad.add (i * 6)).block, (ad.add (i * 6)).off + 4, none⟩ = some (.int .i64 o.tick) from fun W hb => ⟨cell_on hb p0, cell_on hb p1, cell_on hb p4⟩)
        have q0 := cell_on BW.out p0
        have q1 := cell_on BW.out p1
        have q2 := cell_on BW.out p2
        have q3 := cell_on BW.out p3
        have q4 := cell_on BW.out p4
        have q5 := cell_on BW.out p5
        have h11 := f11_any w.heap.size g (fun k => w.heap.size ≤ k) os wo BK.out (by have := BI.out.1.len; omega) (fun x hx => encOk_small2 (encOk_book BI.out.1 BI.out.2 x hx))
        obtain ⟨os', n0, e0, hst, hi', hk', hlen', hstep⟩ := Tq.step_good lots sure (show Tq.GoodBoxes sure from ⟨by have := HG.out.sure20; omega, fun b hb => by have := HG.out.box b hb; unfold BoxFit at this; omega⟩) o (HOK.out o hmem) os BI.out.1 BI.out.2
        have h12 : ∀ W, Below wo.heap.size wo W → Calls Tryz.prog 12 #[.pointer (some ⟨g, 0, none⟩), .agg #[.int .i64 o.act, .int .i64 o.no, .int .i64 o.body, .int .i64 o.n, .int .i64 o.tick, .slice A5 o.wants.length c5], .slice AL lots.length cl, .slice AS sure.length cs] W fun e w' => DoPost w.heap.size (fun k => w.heap.size ≤ k ∧ k < wo.heap.size) os' n0 e0 W e w' := by
          intro W hW
          have hb : Below w.heap.size w W := BW.out.trans (hW.mono BW.out.size)
          exact f12_any w.heap.size g (fun k => w.heap.size ≤ k ∧ k < wo.heap.size) os o AL AS A5 cl cs c5 lots sure W ((BK.out.bound.mono (fun k hk => ⟨hk.1, hk.2.2⟩)).below hW) hb.size (HSTD.out W hb) BI.out.1 BI.out.2 (Kd.C_below hC5 hb) (Kd.C_below HL.out hb) hcl (Kd.C_below HS.out hb) HG.out.sureOk hst
        have HSTEP := Aside0.mk hstep
        have HI' := Aside0.mk (And.intro hi' hk')
        have HLEN := Aside0.mk (stepped_len hstep)
        have H12 := Aside0.mk h12
        have HGET := Aside0.mk hget
        have H1000 := Aside0.mk (And.intro BI.out.1.len hi'.len)
        clear h12 hstep hi' hk' hst hlen' hget p0 p1 p2 p3 p4 p5 hC5 hmem
        go_wp2_with (go_at_call 11; refine h11.mono ?_; rintro e w5 ⟨g1, rfl, hko, hb5⟩; refine Hid.out ?_)
        refine Lib.hid ?_
        have r0 := cell_on hb5 q0
        have r1 := cell_on hb5 q1
        have r2 := cell_on hb5 q2
        have r3 := cell_on hb5 q3
        have r4 := cell_on hb5 q4
        have r5 := cell_on hb5 q5
        have c12 := H12.out w5 hb5
        have HKO := Aside0.mk hko
        have HB5 := Aside0.mk hb5
        clear q0 q1 q2 q3 q4 q5 h11 hko hb5
        go_wp2_with (go_at_call 12; refine c12.mono ?_; rintro e w6 ⟨g2, rfl, hk6, hm6⟩; refine Hid.out ?_)
        refine Lib.hid ?_
        have HB6 := Aside0.mk (show Below w.heap.size w w6 from Mut.base (BW.out.trans (HB5.out.mono BW.out.size)) (by have := BW.out.size; have := HB5.out.size; omega) hm6 (fun i hi => hi.1))
        have HK6 := Aside0.mk (hk6.mono (ok' := fun k => w.heap.size ≤ k) (fun k hk => hk.elim (fun h => h.1) (fun h => by have := BW.out.size; have := HB5.out.size; omega)))
        have HO6 := Aside0.mk (HKO.out.mut hm6 (fun k hk h => by omega))
        clear r0 r1 r2 r3 r4 r5 c12 hk6 hm6
        obtain ⟨d0, d1, d4⟩ := HCELL.out w6 HB6.out
        have l6 := f13_eq _ _ _ _ w6 HK6.out
        have lo := f13_eq _ _ _ _ w6 HO6.out
        obtain ⟨hn0, hlen1, hlen2⟩ := HLEN.out
        have HN0 := Aside0.mk hn0
        have h1000 := H1000.out.1
        have h1000' := H1000.out.2
        clear hn0
        go_upto_region 17 with fail
        go_cut [89] (fun s89 wx => s89 = .bool false ∧ Aside0 (wx = w6))
        case first =>
          have hz1 : ¬ ((os'.length : Int) < (os.length : Int)) := by omega
          have hz2 : ¬ ((os.length : Int) + 1 < (os'.length : Int)) := by omega
          by_cases ha : o.act = 0
          · have hab : (o.act == 0) = true := by simpa using ha
            by_cases he : e0 = 0
            · have heb : (e0 == 0) = true := by simpa using he
              have hnb : (n0 != (os.length : Int)) = false := by simpa using HN0.out ha he
              clear ha he
              go_wp2_with (first | (go_at_call 13; ((with_reducible refine l6.mono ?_); rintro e wz ⟨rfl, rfl⟩)) | (go_at_call 13; ((with_reducible refine lo.mono ?_); rintro e wz ⟨rfl, rfl⟩)))
              go_meet
              case rel => exact ⟨congrArg Value.bool (decide_eq_false (by omega)), ⟨rfl⟩⟩
            · have heb : (e0 == 0) = false := by simpa using he
              clear ha he
              go_wp2_with (first | (go_at_call 13; ((with_reducible refine l6.mono ?_); rintro e wz ⟨rfl, rfl⟩)) | (go_at_call 13; ((with_reducible refine lo.mono ?_); rintro e wz ⟨rfl, rfl⟩)))
              go_meet
              case rel => exact ⟨congrArg Value.bool (decide_eq_false (by omega)), ⟨rfl⟩⟩
          · have hab : (o.act == 0) = false := by simpa using ha
            clear ha
            go_wp2_with (first | (go_at_call 13; ((with_reducible refine l6.mono ?_); rintro e wz ⟨rfl, rfl⟩)) | (go_at_call 13; ((with_reducible refine lo.mono ?_); rintro e wz ⟨rfl, rfl⟩)))
            go_meet
            case rel => exact ⟨congrArg Value.bool (decide_eq_false (by omega)), ⟨rfl⟩⟩
        case rest =>
          obtain ⟨rfl, hwc⟩ := hcut
          have hwc' : w6 = wc := hwc.out.symm
          clear hwc
          subst hwc'
          clear d0 d1 d4 l6 lo
          have HLENC := Aside0.mk (show ∀ W, Below w6.heap.size w6 W → Calls Tryz.prog 13 #[.pointer (some ⟨g2, 0, none⟩)] W fun e w' => e = .returned (.int .i64 os'.length) ∧ W = w' from fun W hb => f13_eq _ _ _ _ W (HK6.out.below hb))
          go_wp2_with fail
          go_loopw [14] (fun s14 wr => ∃ no : Nat, no ≤ os'.length ∧ s14 = .int .i64 no ∧ Aside0 (Below w6.heap.size w6 wr)) (fun s14 _ => os'.length - (intOf s14).toNat)
          case atStart => exact ⟨0, Nat.zero_le _, rfl, ⟨Below.refl _ _⟩⟩
          case round =>
            obtain ⟨no, hno0, rfl, BI2⟩ := hrel
            obtain ⟨wi, hwi⟩ : ∃ wi, wi = wr := ⟨_, rfl⟩
            subst hwi
            by_cases hltn : no < os'.length
            · have hltnz : (no : Int) < (os'.length : Int) := by omega
              obtain ⟨x', hx'⟩ : ∃ x', os'[no]? = some x' := ⟨_, List.getElem?_eq_getElem hltn⟩
              have hin' := HI'.out.1.all _ (List.mem_of_getElem? hx')
              have heo := encOk_book HI'.out.1 HI'.out.2 _ (List.mem_of_getElem? hx')
              have hwl : x'.wants.length ≤ 1000 := by have := heo.wn; omega
              have hnow : ∀ W, Below w6.heap.size w6 W → Calls Tryz.prog 14 #[.pointer (some ⟨g2, 0, none⟩), .int .i64 no] W fun e w' => ∃ A c, e = .returned (.tuple #[.agg #[.slice A x'.wants.length c, .int .i64 x'.due, .int .i64 x'.state], .bool true]) ∧ Aside0 (kW.R 100 w' W.heap.size (fun i => W.heap.size ≤ i ∧ i < w'.heap.size) (.slice A x'.wants.length c) x'.wants) ∧ Aside0 (Below w6.heap.size w6 w') := by
                intro W hb
                refine (f14_any _ _ _ os' no x' W (HK6.out.below hb) (state_get hx') (encOk_small heo)).mono ?_
                rintro e w' ⟨v', rfl, h1, h2⟩
                obtain ⟨A, c, rfl⟩ := Kd.R_slice h1
                exact ⟨A, c, rfl, ⟨Kd.R_mono (Kd.R_bound h1) (fun k hk => ⟨hk.1, hk.2.2.1⟩)⟩, ⟨hb.trans (h2.mono hb.size)⟩⟩
              have htk : ∀ wb, Below w6.heap.size w6 wb → Calls Tryz.prog 15 #[.pointer (some ⟨g2, 0, none⟩), .int .i64 no] wb.drew fun e w' => ∃ A c, e = .returned (.slice A x'.takes.length c) ∧ Aside0 (Below wb.heap.size wb w') := by
                intro W hb
                refine (f15_any _ _ _ os' no x' W.drew (HK6.out.below hb).drew (state_get hx') (encOk_small heo)).mono ?_
                rintro e w' ⟨v', rfl, h1, h2⟩
                obtain ⟨A, c, rfl⟩ := Kd.S_slice h1
                exact ⟨A, c, rfl, ⟨below_undrew h2⟩⟩
              have HNOW := Aside0.mk hnow
              have HTAKES := Aside0.mk htk
              clear hnow htk
              rcases stepped_at HSTEP.out no x' hx' with ⟨hn, hnl, hst0, hact, he0, hdue⟩ | ⟨x, hx, htw, htd, hts⟩
              · have hw0 : ∀ W, Below w6.heap.size w6 W → Calls Tryz.prog 14 #[.pointer (some ⟨g1, 0, none⟩), .int .i64 no] W fun e w' => e = .returned (.tuple #[.agg #[.slice none 0 0, .int .i64 0, .int .i64 0], .bool false]) ∧ Aside0 (Below w6.heap.size w6 w' ∧ Below W.heap.size W w') := by
                  intro W hb
                  refine (f14_none _ _ _ os no W (HO6.out.below hb) (state_end (by omega))).mono ?_
                  rintro e w' ⟨rfl, h2⟩
                  exact ⟨rfl, ⟨hb.trans (h2.mono hb.size), h2⟩⟩
                have HWAS := Aside0.mk hw0
                have hcell9 := HCELL.out
                have HT := Aside0.mk (takes_state (HI'.out.1.all _ (List.mem_of_getElem? hx')))
                clear hw0 hin' heo hn hnl
                obtain ⟨ws, du, st, ts'⟩ := x'
                simp only at hst0 hdue hwl HNOW HTAKES HT
                subst hst0
                subst hdue
                subst he0
                have hTK : ¬ 0 < ts'.length := by simpa using HT.out
                have hact' : (o.act != 0) = false := by simpa using hact
                have HC9 := Aside0.mk hcell9
                clear hact hcell9
                have cnow := HNOW.out wi BI2.out
                go_wp2_with (first | (go_at_call 13; ((with_reducible refine (HLENC.out wi BI2.out).mono ?_); rintro e wz ⟨rfl, rfl⟩)) | (go_at_call 14; ((with_reducible refine cnow.mono ?_); rintro e w7 ⟨A6, c6, rfl, hr6, hb7⟩; refine Hid.out ?_)))
                refine Lib.hid ?_
                clear cnow hr6
                have HA7 := Aside0.mk (below_alloc hb7.out (.cells #[.slice A6 ws.length c6, .int .i64 o.tick, .int .i64 0] 38))
                have HT15 := Aside0.mk (heap_alloc_new w7 (.cells #[.slice A6 ws.length c6, .int .i64 o.tick, .int .i64 0] 38))
                have hsz7 : (w7.alloc (.cells #[.slice A6 ws.length c6, .int .i64 o.tick, .int .i64 0] 38)).heap.size = w7.heap.size + 1 := by simp
                have cwas := HWAS.out (w7.alloc (.cells #[.slice A6 ws.length c6, .int .i64 o.tick, .int .i64 0] 38)) HA7.out
                go_wp2_with (go_at_call 14; ((with_reducible refine cwas.mono ?_); rintro e w8 ⟨rfl, hb8⟩; refine Hid.out ?_))
                refine Lib.hid ?_
                clear cwas
                have HB8 := Aside0.mk hb8.out.2
                have hsz8 : w7.heap.size < w8.heap.size := by have := hb8.out.2.size; omega
                have HA8 := Aside0.mk (below_alloc hb8.out.1 (.cells #[.slice none 0 0, .int .i64 0, .int .i64 0] 38))
                have HT15' := Aside0.mk ((Below.heap_alloc w8 (.cells #[.slice none 0 0, .int .i64 0, .int .i64 0] 38) w7.heap.size hsz8).trans ((HB8.out.block w7.heap.size (by omega)).trans HT15.out))
                have hsz9 : (w8.alloc (.cells #[.slice none 0 0, .int .i64 0, .int .i64 0] 38)).heap.size = w8.heap.size + 1 := by simp
                clear hb7 hb8 hsz7
                go_wp2_with fail
                generalize w8.alloc (.cells #[.slice none 0 0, .int .i64 0, .int .i64 0] 38) = wb at *
                have hq : ∀ W, Below wb.heap.size wb W → W.cell? ⟨w7.heap.size, 1, none⟩ = some (.int .i64 o.tick) ∧ W.cell? ⟨w7.heap.size, 2, none⟩ = some (.int .i64 0) := by
                  intro W hb
                  obtain ⟨e1, e2⟩ := blk_facts ((hb.block w7.heap.size (by omega)).trans HT15'.out)
                  exact ⟨e1 1, e1 2⟩
                have HQ := Aside0.mk hq
                have ctk := HTAKES.out wb HA8.out
                clear hq
                go_region_held3 (fun wx => wx.cell? ⟨w7.heap.size, 2, none⟩ = some (.int .i64 0)) (first | exact (HQ.out _ (Below.refl _ _).drew).2 | exact (HQ.out _ hb9.out).2)
                  ((first | (go_at_call 15; ((with_reducible refine ctk.mono ?_); rintro e w9 ⟨A8, c8, rfl, hb9⟩))))
                obtain ⟨m1, m2⟩ := HQ.out w9 hb9.out
                obtain ⟨z2, z3, z4⟩ := HC9.out w9 (HB6.out.trans ((HA8.out.trans (hb9.out.mono HA8.out.size)).mono HB6.out.size))
                have HBA := Aside0.mk (HA8.out.trans (hb9.out.mono HA8.out.size))
                clear ctk
                go_wp2_with fail
                go_quiet (fail)
                go_wp2_with fail
                go_roundw
                case rel => exact ⟨no + 1, by omega, by go_num, ⟨⟨HBA.out.os, HBA.out.tape, HBA.out.output, HBA.out.size, HBA.out.block⟩⟩⟩
                case measure => simp [intOf]; omega
              · have heo2 := encOk_book BI.out.1 BI.out.2 _ (List.mem_of_getElem? hx)
                have hwas : ∀ W, Below w6.heap.size w6 W → Calls Tryz.prog 14 #[.pointer (some ⟨g1, 0, none⟩), .int .i64 no] W fun e w' => ∃ A c, e = .returned (.tuple #[.agg #[.slice A x.wants.length c, .int .i64 x.due, .int .i64 x.state], .bool true]) ∧ Aside0 (kW.R 100 w' W.heap.size (fun i => W.heap.size ≤ i ∧ i < w'.heap.size) (.slice A x.wants.length c) x.wants) ∧ Aside0 (Below w6.heap.size w6 w' ∧ Below W.heap.size W w') := by
                  intro W hb
                  refine (f14_any _ _ _ os no x W (HO6.out.below hb) (state_get hx) (encOk_small heo2)).mono ?_
                  rintro e w' ⟨v', rfl, h1, h2⟩
                  obtain ⟨A, c, rfl⟩ := Kd.R_slice h1
                  exact ⟨A, c, rfl, ⟨Kd.R_mono (Kd.R_bound h1) (fun k hk => ⟨hk.1, hk.2.2.1⟩)⟩, ⟨hb.trans (h2.mono hb.size), h2⟩⟩
                have HWAS := Aside0.mk hwas
                clear hwas hin' heo heo2 hx
                obtain ⟨ws', du', st', ts'⟩ := x'
                obtain ⟨ws, du, st, ts⟩ := x
                simp only at htw htd hts hwl HNOW HTAKES HWAS
                have htw' := htw.symm
                have htd' := htd.symm
                clear htw htd
                subst htw'
                subst htd'
                by_cases hse : st' = st
                · have hse' := hse.symm
                  clear hse hts
                  subst hse'
                  have HT := Aside0.mk (takes_state (HI'.out.1.all _ (List.mem_of_getElem? hx')))
                  obtain ⟨bb, hbb⟩ : ∃ bb : Bool, bb = decide (st = 1) := ⟨_, rfl⟩
                  have h1a : (st == 1) = bb := by rw [hbb]; rfl
                  have hTK : decide (0 < ts'.length) = bb := by rw [hbb]; exact HT.out
                  clear hbb
                  have cnow := HNOW.out wi BI2.out
                  go_wp2_with (first | (go_at_call 13; ((with_reducible refine (HLENC.out wi BI2.out).mono ?_); rintro e wz ⟨rfl, rfl⟩)) | (go_at_call 14; ((with_reducible refine cnow.mono ?_); rintro e w7 ⟨A6, c6, rfl, hr6, hb7⟩; refine Hid.out ?_)))
                  refine Lib.hid ?_
                  clear cnow
                  have HA7 := Aside0.mk (below_alloc hb7.out (.cells #[.slice A6 ws.length c6, .int .i64 du, .int .i64 st] 38))
                  have HT15 := Aside0.mk (heap_alloc_new w7 (.cells #[.slice A6 ws.length c6, .int .i64 du, .int .i64 st] 38))
                  have HR6 := Aside0.mk (Kd.R_below hr6.out (below_alloc (Below.refl w7.heap.size w7) (.cells #[.slice A6 ws.length c6, .int .i64 du, .int .i64 st] 38)))
                  have hsz7 : (w7.alloc (.cells #[.slice A6 ws.length c6, .int .i64 du, .int .i64 st] 38)).heap.size = w7.heap.size + 1 := by simp
                  have cwas := HWAS.out (w7.alloc (.cells #[.slice A6 ws.length c6, .int .i64 du, .int .i64 st] 38)) HA7.out
                  go_wp2_with (go_at_call 14; ((with_reducible refine cwas.mono ?_); rintro e w8 ⟨A7, c7, rfl, hr7, hb8⟩; refine Hid.out ?_))
                  refine Lib.hid ?_
                  clear cwas
                  have HB8 := Aside0.mk hb8.out.2
                  have hsz8 : w7.heap.size < w8.heap.size := by have := hb8.out.2.size; omega
                  have HA8 := Aside0.mk (below_alloc hb8.out.1 (.cells #[.slice A7 ws.length c7, .int .i64 du, .int .i64 st] 38))
                  have HT17 := Aside0.mk (heap_alloc_new w8 (.cells #[.slice A7 ws.length c7, .int .i64 du, .int .i64 st] 38))
                  have HT15' := Aside0.mk ((Below.heap_alloc w8 (.cells #[.slice A7 ws.length c7, .int .i64 du, .int .i64 st] 38) w7.heap.size hsz8).trans ((HB8.out.block w7.heap.size (by omega)).trans HT15.out))
                  have HR7 := Aside0.mk (Kd.R_below hr7.out (below_alloc (Below.refl w8.heap.size w8) (.cells #[.slice A7 ws.length c7, .int .i64 du, .int .i64 st] 38)))
                  have HR6' := Aside0.mk (Kd.R_below (Kd.R_below HR6.out HB8.out) (below_alloc (Below.refl w8.heap.size w8) (.cells #[.slice A7 ws.length c7, .int .i64 du, .int .i64 st] 38)))
                  have hsz9 : (w8.alloc (.cells #[.slice A7 ws.length c7, .int .i64 du, .int .i64 st] 38)).heap.size = w8.heap.size + 1 := by simp
                  have HSZ7 := Aside0.mk hsz7
                  have HBW7 := Aside0.mk hb7.out.size
                  clear hb7 hr6 hb8 hr7 hsz7
                  go_wp2_with fail
                  generalize w8.alloc (.cells #[.slice A7 ws.length c7, .int .i64 du, .int .i64 st] 38) = wb at *
                  have hq : ∀ W, Below wb.heap.size wb W → (W.cell? ⟨w7.heap.size, 0, none⟩ = some (.slice A6 ws.length c6) ∧ W.cell? ⟨w7.heap.size, 1, none⟩ = some (.int .i64 du) ∧ W.cell? ⟨w7.heap.size, 2, none⟩ = some (.int .i64 st) ∧ W.frozen? ⟨w7.heap.size, 2, none⟩ = false) ∧ (W.cell? ⟨w8.heap.size, 0, none⟩ = some (.slice A7 ws.length c7) ∧ W.cell? ⟨w8.heap.size, 1, none⟩ = some (.int .i64 du) ∧ W.cell? ⟨w8.heap.size, 2, none⟩ = some (.int .i64 st)) := by
                    intro W hb
                    obtain ⟨e1, e2⟩ := blk_facts ((hb.block w7.heap.size (by omega)).trans HT15'.out)
                    obtain ⟨f1, f2⟩ := blk_facts ((hb.block w8.heap.size (by omega)).trans HT17.out)
                    exact ⟨⟨e1 0, e1 1, e1 2, e2 2⟩, ⟨f1 0, f1 1, f1 2⟩⟩
                  have HQ := Aside0.mk hq
                  have ctk := HTAKES.out wb HA8.out
                  clear hq
                  go_region_held3 (fun wx => wx.cell? ⟨w7.heap.size, 2, none⟩ = some (.int .i64 st)) (first | exact (HQ.out _ (Below.refl _ _).drew).1.2.2.1 | exact (HQ.out _ hb9.out).1.2.2.1)
                    ((first | (go_at_call 15; ((with_reducible refine ctk.mono ?_); rintro e w9 ⟨A8, c8, rfl, hb9⟩))))
                  obtain ⟨⟨m0, m1, m2, m3⟩, ⟨n0', n1', n2'⟩⟩ := HQ.out w9 hb9.out
                  clear ctk
                  have hm15 : (w9.setCell ⟨w7.heap.size, 2, none⟩ (.int .i64 st)).heap[w7.heap.size]? = some (.cells #[.slice A6 ws.length c6, .int .i64 du, .int .i64 st] 38 (0, 0)) := Lib.heap_setCell_same (i := 2) ((hb9.out.block w7.heap.size (by omega)).trans HT15'.out) (.int .i64 st)
                  have hR6 : kW.C (w9.setCell ⟨w7.heap.size, 2, none⟩ (.int .i64 st)) A6 ws.length ws ∧ ws.length ≤ c6 := by
                    have h := Kd.R_reads' (Kd.R_far (p := ⟨w7.heap.size, 2, none⟩) (Kd.R_below HR6'.out hb9.out) (fun k hk => (show k ≠ w7.heap.size by omega)) (.int .i64 st))
                    exact ⟨h.2.2, h.2.1⟩
                  have hR7 : kW.C (w9.setCell ⟨w7.heap.size, 2, none⟩ (.int .i64 st)) A7 ws.length ws ∧ ws.length ≤ c7 := by
                    have h := Kd.R_reads' (Kd.R_far (p := ⟨w7.heap.size, 2, none⟩) (Kd.R_below HR7.out hb9.out) (fun k hk => (show k ≠ w7.heap.size by have := HSZ7.out; omega)) (.int .i64 st))
                    exact ⟨h.2.2, h.2.1⟩
                  have c16 := f16_same A6 A7 c6 c7 ws du st _ hwl hR6.1 hR6.2 hR7.1 hR7.2
                  have hbA : Below w6.heap.size w6 (w9.setCell ⟨w7.heap.size, 2, none⟩ (.int .i64 st)) := (HA8.out.trans (hb9.out.mono HA8.out.size)).setCell (p := ⟨w7.heap.size, 2, none⟩) (show w6.heap.size ≤ w7.heap.size by have := HBW7.out; omega) _
                  have HBA := Aside0.mk hbA
                  obtain ⟨t0, t1, t2⟩ : (w9.setCell ⟨w7.heap.size, 2, none⟩ (.int .i64 st)).cell? ⟨w7.heap.size, 0, none⟩ = some (.slice A6 ws.length c6) ∧ (w9.setCell ⟨w7.heap.size, 2, none⟩ (.int .i64 st)).cell? ⟨w7.heap.size, 1, none⟩ = some (.int .i64 du) ∧ (w9.setCell ⟨w7.heap.size, 2, none⟩ (.int .i64 st)).cell? ⟨w7.heap.size, 2, none⟩ = some (.int .i64 st) := ⟨(blk_facts hm15).1 0, (blk_facts hm15).1 1, (blk_facts hm15).1 2⟩
                  clear hm15 hR6 hR7 hbA
                  have hq16 : ∀ W, Below (w9.setCell ⟨w7.heap.size, 2, none⟩ (.int .i64 st)).heap.size (w9.setCell ⟨w7.heap.size, 2, none⟩ (.int .i64 st)) W → W.cell? ⟨w8.heap.size, 2, none⟩ = some (.int .i64 st) := by
                    intro W hb
                    refine cell_on hb ?_
                    rw [World.cell?_of_block (Below.heap_setCell w9 ⟨w7.heap.size, 2, none⟩ (.int .i64 st) w8.heap.size (show w8.heap.size ≠ w7.heap.size by omega))]
                    exact n2'
                  have HQ16 := Aside0.mk hq16
                  clear hq16
                  go_wp2_with (first | (go_at_call 16; ((with_reducible refine c16.mono ?_); rintro e wy ⟨rfl, hby⟩; have z1 := HQ16.out wy hby)))
                  go_roundw
                  case rel => exact ⟨no + 1, by omega, by go_num, ⟨HBA.out.trans (hby.mono HBA.out.size)⟩⟩
                  case measure => simp [intOf]; omega
                · obtain ⟨hno, he0, hmay⟩ : (no : Int) = o.no ∧ e0 = 0 ∧ Tq.may st st' = true := by
                    rcases hts with h | h
                    · exact absurd h hse
                    · exact h
                  clear hts
                  subst he0
                  have hneb : (st' != st) = true := by simpa using hse
                  have HNO := Aside0.mk hno
                  have HMAY := Aside0.mk hmay
                  clear hse hno hmay
                  have HT := Aside0.mk (takes_state (HI'.out.1.all _ (List.mem_of_getElem? hx')))
                  obtain ⟨bb, hbb⟩ : ∃ bb : Bool, bb = decide (st' = 1) := ⟨_, rfl⟩
                  have h1a : (st' == 1) = bb := by rw [hbb]; rfl
                  have hTK : decide (0 < ts'.length) = bb := by rw [hbb]; exact HT.out
                  clear hbb
                  have cnow := HNOW.out wi BI2.out
                  go_wp2_with (first | (go_at_call 13; ((with_reducible refine (HLENC.out wi BI2.out).mono ?_); rintro e wz ⟨rfl, rfl⟩)) | (go_at_call 14; ((with_reducible refine cnow.mono ?_); rintro e w7 ⟨A6, c6, rfl, hr6, hb7⟩; refine Hid.out ?_)))
                  refine Lib.hid ?_
                  clear cnow
                  have HA7 := Aside0.mk (below_alloc hb7.out (.cells #[.slice A6 ws.length c6, .int .i64 du, .int .i64 st'] 38))
                  have HT15 := Aside0.mk (heap_alloc_new w7 (.cells #[.slice A6 ws.length c6, .int .i64 du, .int .i64 st'] 38))
                  have HR6 := Aside0.mk (Kd.R_below hr6.out (below_alloc (Below.refl w7.heap.size w7) (.cells #[.slice A6 ws.length c6, .int .i64 du, .int .i64 st'] 38)))
                  have hsz7 : (w7.alloc (.cells #[.slice A6 ws.length c6, .int .i64 du, .int .i64 st'] 38)).heap.size = w7.heap.size + 1 := by simp
                  have cwas := HWAS.out (w7.alloc (.cells #[.slice A6 ws.length c6, .int .i64 du, .int .i64 st'] 38)) HA7.out
                  go_wp2_with (go_at_call 14; ((with_reducible refine cwas.mono ?_); rintro e w8 ⟨A7, c7, rfl, hr7, hb8⟩; refine Hid.out ?_))
                  refine Lib.hid ?_
                  clear cwas
                  have HB8 := Aside0.mk hb8.out.2
                  have hsz8 : w7.heap.size < w8.heap.size := by have := hb8.out.2.size; omega
                  have HA8 := Aside0.mk (below_alloc hb8.out.1 (.cells #[.slice A7 ws.length c7, .int .i64 du, .int .i64 st] 38))
                  have HT17 := Aside0.mk (heap_alloc_new w8 (.cells #[.slice A7 ws.length c7, .int .i64 du, .int .i64 st] 38))
                  have HT15' := Aside0.mk ((Below.heap_alloc w8 (.cells #[.slice A7 ws.length c7, .int .i64 du, .int .i64 st] 38) w7.heap.size hsz8).trans ((HB8.out.block w7.heap.size (by omega)).trans HT15.out))
                  have HR7 := Aside0.mk (Kd.R_below hr7.out (below_alloc (Below.refl w8.heap.size w8) (.cells #[.slice A7 ws.length c7, .int .i64 du, .int .i64 st] 38)))
                  have HR6' := Aside0.mk (Kd.R_below (Kd.R_below HR6.out HB8.out) (below_alloc (Below.refl w8.heap.size w8) (.cells #[.slice A7 ws.length c7, .int .i64 du, .int .i64 st] 38)))
                  have hsz9 : (w8.alloc (.cells #[.slice A7 ws.length c7, .int .i64 du, .int .i64 st] 38)).heap.size = w8.heap.size + 1 := by simp
                  have HSZ7 := Aside0.mk hsz7
                  have HBW7 := Aside0.mk hb7.out.size
                  clear hb7 hr6 hb8 hr7 hsz7
                  go_wp2_with fail
                  generalize w8.alloc (.cells #[.slice A7 ws.length c7, .int .i64 du, .int .i64 st] 38) = wb at *
                  have hq : ∀ W, Below wb.heap.size wb W → (W.cell? ⟨w7.heap.size, 0, none⟩ = some (.slice A6 ws.length c6) ∧ W.cell? ⟨w7.heap.size, 1, none⟩ = some (.int .i64 du) ∧ W.cell? ⟨w7.heap.size, 2, none⟩ = some (.int .i64 st') ∧ W.frozen? ⟨w7.heap.size, 2, none⟩ = false) ∧ (W.cell? ⟨w8.heap.size, 0, none⟩ = some (.slice A7 ws.length c7) ∧ W.cell? ⟨w8.heap.size, 1, none⟩ = some (.int .i64 du) ∧ W.cell? ⟨w8.heap.size, 2, none⟩ = some (.int .i64 st)) := by
                    intro W hb
                    obtain ⟨e1, e2⟩ := blk_facts ((hb.block w7.heap.size (by omega)).trans HT15'.out)
                    obtain ⟨f1, f2⟩ := blk_facts ((hb.block w8.heap.size (by omega)).trans HT17.out)
                    exact ⟨⟨e1 0, e1 1, e1 2, e2 2⟩, ⟨f1 0, f1 1, f1 2⟩⟩
                  have HQ := Aside0.mk hq
                  have ctk := HTAKES.out wb HA8.out
                  clear hq
                  go_region_held3 (fun wx => wx.cell? ⟨w7.heap.size, 2, none⟩ = some (.int .i64 st')) (first | exact (HQ.out _ (Below.refl _ _).drew).1.2.2.1 | exact (HQ.out _ hb9.out).1.2.2.1)
                    ((first | (go_at_call 15; ((with_reducible refine ctk.mono ?_); rintro e w9 ⟨A8, c8, rfl, hb9⟩))))
                  obtain ⟨⟨m0, m1, m2, m3⟩, ⟨n0', n1', n2'⟩⟩ := HQ.out w9 hb9.out
                  clear ctk
                  have hm15 : (w9.setCell ⟨w7.heap.size, 2, none⟩ (.int .i64 st)).heap[w7.heap.size]? = some (.cells #[.slice A6 ws.length c6, .int .i64 du, .int .i64 st] 38 (0, 0)) := Lib.heap_setCell_same (i := 2) ((hb9.out.block w7.heap.size (by omega)).trans HT15'.out) (.int .i64 st)
                  have hR6 : kW.C (w9.setCell ⟨w7.heap.size, 2, none⟩ (.int .i64 st)) A6 ws.length ws ∧ ws.length ≤ c6 := by
                    have h := Kd.R_reads' (Kd.R_far (p := ⟨w7.heap.size, 2, none⟩) (Kd.R_below HR6'.out hb9.out) (fun k hk => (show k ≠ w7.heap.size by omega)) (.int .i64 st))
                    exact ⟨h.2.2, h.2.1⟩
                  have hR7 : kW.C (w9.setCell ⟨w7.heap.size, 2, none⟩ (.int .i64 st)) A7 ws.length ws ∧ ws.length ≤ c7 := by
                    have h := Kd.R_reads' (Kd.R_far (p := ⟨w7.heap.size, 2, none⟩) (Kd.R_below HR7.out hb9.out) (fun k hk => (show k ≠ w7.heap.size by have := HSZ7.out; omega)) (.int .i64 st))
                    exact ⟨h.2.2, h.2.1⟩
                  have c16 := f16_same A6 A7 c6 c7 ws du st _ hwl hR6.1 hR6.2 hR7.1 hR7.2
                  have hbA : Below w6.heap.size w6 (w9.setCell ⟨w7.heap.size, 2, none⟩ (.int .i64 st)) := (HA8.out.trans (hb9.out.mono HA8.out.size)).setCell (p := ⟨w7.heap.size, 2, none⟩) (show w6.heap.size ≤ w7.heap.size by have := HBW7.out; omega) _
                  have HBA := Aside0.mk hbA
                  obtain ⟨t0, t1, t2⟩ : (w9.setCell ⟨w7.heap.size, 2, none⟩ (.int .i64 st)).cell? ⟨w7.heap.size, 0, none⟩ = some (.slice A6 ws.length c6) ∧ (w9.setCell ⟨w7.heap.size, 2, none⟩ (.int .i64 st)).cell? ⟨w7.heap.size, 1, none⟩ = some (.int .i64 du) ∧ (w9.setCell ⟨w7.heap.size, 2, none⟩ (.int .i64 st)).cell? ⟨w7.heap.size, 2, none⟩ = some (.int .i64 st) := ⟨(blk_facts hm15).1 0, (blk_facts hm15).1 1, (blk_facts hm15).1 2⟩
                  clear hm15 hR6 hR7 hbA
                  have hq16 : ∀ W, Below (w9.setCell ⟨w7.heap.size, 2, none⟩ (.int .i64 st)).heap.size (w9.setCell ⟨w7.heap.size, 2, none⟩ (.int .i64 st)) W → W.cell? ⟨w8.heap.size, 2, none⟩ = some (.int .i64 st) := by
                    intro W hb
                    refine cell_on hb ?_
                    rw [World.cell?_of_block (Below.heap_setCell w9 ⟨w7.heap.size, 2, none⟩ (.int .i64 st) w8.heap.size (show w8.heap.size ≠ w7.heap.size by omega))]
                    exact n2'
                  have HQ16 := Aside0.mk hq16
                  have hcell9 := HCELL.out
                  have HC9 := Aside0.mk hcell9
                  clear hq16 hcell9
                  have hno := HNO.out
                  have hmay := HMAY.out
                  have c17 := fun W => f17_any st st' W
                  rw [hmay] at c17
                  have hnob : ((no : Int) != o.no) = false := by simpa using hno
                  clear hmay hno
                  go_wp2_with (first | (go_at_call 16; ((with_reducible refine c16.mono ?_); rintro e wy ⟨rfl, hby⟩; have z1 := HQ16.out wy hby; obtain ⟨z2, z3, z4⟩ := HC9.out wy (HB6.out.trans ((HBA.out.trans (hby.mono HBA.out.size)).mono HB6.out.size)))) | (go_at_call 17; ((with_reducible refine (c17 _).mono ?_); rintro e wz ⟨rfl, rfl⟩)))
                  go_roundw
                  case rel => exact ⟨no + 1, by omega, by go_num, ⟨HBA.out.trans (hby.mono HBA.out.size)⟩⟩
                  case measure => simp [intOf]; omega
            · have hltnz : ¬ (no : Int) < (os'.length : Int) := by omega
              go_wp2_with (go_at_call 13; ((with_reducible refine (HLENC.out wi BI2.out).mono ?_); rintro e wz ⟨rfl, rfl⟩))
              go_roundw
              case rel => exact ⟨i + 1, g2, os', by omega, by go_num, rfl, ⟨HB6.out.trans (BI2.out.mono HB6.out.size)⟩, ⟨HK6.out.below BI2.out⟩, ⟨HI'.out⟩⟩
              case measure => simp [intOf]; omega
      · have hltz : ¬ (i : Int) < (ops.length : Int) := by omega
        go_wp2
        go_ret
        exact ⟨rfl, BW.out⟩
end Go.Proofs.YtcliaokoganbaaaGreatDoor
