/-
  Part 25 of the proof of the card: lemmas and walks, joined by mergeclaim.py out of the texts KE.
-/
import Derived.Test.YtcliaokoganbaaaGreatDoorM24
set_option linter.unusedVariables false
set_option linter.unusedSimpArgs false
namespace Go.Proofs.YtcliaokoganbaaaGreatDoor
open Go Go.RowKit Go.Shelf Go.Proofs.YtcliaokoganbaaaGreatDoorW.PrintWords Go.Proofs.YtcliaokoganbaaaGreatDoorW.PrintLast Go.Proofs.YtcliaokoganbaaaGreatDoorW.PrintMore
open Tq (Lot Box Want Take Ord BookInv OrdInv)
theorem flatT_take {pl : List (List Take)} {i : Nat} {l : List Take} (h : pl[i]? = some l) : (pl.take (i + 1)).flatten = (pl.take i).flatten ++ l := by
  rw [List.take_add_one, h]
  simp
theorem flatT_take_le {pl : List (List Take)} {i : Nat} {l : List Take} (h : pl[i]? = some l) : (pl.take i).flatten.length + l.length ≤ pl.flatten.length := by
  have e : pl.flatten = (pl.take (i + 1)).flatten ++ (pl.drop (i + 1)).flatten := by rw [← List.flatten_append, List.take_append_drop]
  have := congrArg List.length e
  rw [flatT_take h, List.length_append, List.length_append] at this
  omega
theorem kT_rows_M {w w1 : World} {base : Nat} (x : Take) (cs : List Value) (h : kT.K w x cs) : kT.M w1 base (fun _ => False) x cs := kT_M_of_K h
set_option maxRecDepth 100000 in
set_option maxHeartbeats 8000000 in
theorem f4_go (AL AS AO AW : Option Addr) (cl cs co cw : Nat) (lots : List Lot) (sure : List Box) (ops : List Tq.Op) (ws : List Want) (due : Int) (w : World) (hs : Std w) (hL : kL.C w AL lots.length lots) (hcl : lots.length ≤ cl) (hS : kB.C w AS sure.length sure) (hcs : sure.length ≤ cs)
    (hO : kOp.C w AO ops.length ops) (hco : ops.length ≤ co) (hmax : ops.length ≤ 9223372036854775806) (hok : OpsOk ops) (hWs : kW.C w AW ws.length ws) (hwok : Tq.WantsOk ws) (hfew : fewB ops 30 = true) (hw6 : ws.length ≤ 6) :
    Calls Tryz.prog 4 #[.slice AL lots.length cl, .slice AS sure.length cs, .slice AO ops.length co, .slice AW ws.length cw, .int .i64 due] w fun e w' => e = .returned (.bool true) ∧ Below w.heap.size w w' := by
  have hf2 : (∀ o ∈ ops, o.wants.length ≤ 6) ∧ ops.length ≤ 30 := by
    unfold fewB at hfew
    simpa using hfew
  have h7 := f7_any w
  have h8 := fun W (hb : Below w.heap.size w W) => f8_any AO co ops 30 W (Kd.C_below hO hb) hco hmax
  rw [hfew] at h8
  have h9 := fun W (hb : Below w.heap.size w W) => f9_any AL AS cl cs lots sure W (Kd.C_below hL hb) hcl (Kd.C_below hS hb) hcs
  have HSTD := Aside0.mk (show ∀ W, Below w.heap.size w W → Std W from fun W hb => hs.below hb hs.size)
  have HL := Aside0.mk hL
  have HS := Aside0.mk hS
  have HO := Aside0.mk hO
  have HOK := Aside0.mk hok
  have HWS := Aside0.mk hWs
  have HWOK := Aside0.mk hwok
  have hlen40 := hf2.2
  have H9 := Aside0.mk h9
  have H8 := Aside0.mk h8
  clear hs hL hS hO hok hWs hwok hfew hf2 h8 h9
  go_enter Tryz.func4, Tryz.ntmps4
  go_wp2_with (go_at_call 7; refine h7.mono ?_; rintro e w1 ⟨rfl, hb1⟩; refine Hid.out ?_)
  refine Lib.hid ?_
  have c8 := H8.out w1 hb1
  go_wp2_with (go_at_call 8; refine c8.mono ?_; rintro e w2 ⟨rfl, hb2⟩; refine Hid.out ?_)
  refine Lib.hid ?_
  have hb12 : Below w.heap.size w w2 := hb1.trans (hb2.mono hb1.size)
  have c9 := H9.out w2 hb12
  clear hb2 c8 h7
  go_wp2_with (go_at_call 9; refine c9.mono ?_; rintro e w3 ⟨bg, rfl, hgv, hb3⟩; refine Hid.out ?_)
  refine Lib.hid ?_
  have hb13 : Below w.heap.size w w3 := hb12.trans (hb3.mono hb12.size)
  have HB13 := Aside0.mk hb13
  clear c9 hb12 hb3 hb1
  cases bg with
  | false =>
    clear hgv hb13
    go_wp2
    go_ret
    exact ⟨rfl, HB13.out⟩
  | true =>
    have hgiv := hgv rfl
    have HG := Aside0.mk hgiv
    have h10 := f10_any w.heap.size w3 hb13.size
    clear hgv hgiv
    go_wp2_with (go_at_call 10; refine h10.mono ?_; rintro e w4 ⟨g0, rfl, hk4, hb4⟩; refine Hid.out ?_)
    refine Lib.hid ?_
    have HB4 := Aside0.mk (HB13.out.trans (hb4.mono HB13.out.size))
    have HK4 := Aside0.mk (hk4.mono (ok' := fun k => w.heap.size ≤ k) (fun k hk => Nat.le_trans HB13.out.size hk))
    clear hk4 hb4 h10 hb13
    go_wp2
    go_loopw [12, 13] (fun s12 s13 wr => ∃ (i g : Nat) (os : List Ord), i ≤ ops.length ∧ os.length ≤ i ∧ s13 = .int .i64 i ∧ s12 = .pointer (some ⟨g, 0, none⟩) ∧ Aside0 (Below w.heap.size w wr) ∧ Aside0 (BookAt wr w.heap.size (fun k => w.heap.size ≤ k) g os) ∧ Aside0 (BookInv os ∧ Tq.KindsOk os)) (fun _ s13 _ => ops.length - (intOf s13).toNat)
    case atStart => exact ⟨0, g0, [], Nat.zero_le _, Nat.zero_le _, rfl, rfl, HB4, HK4, ⟨⟨⟨fun o ho => (by cases ho), by simp⟩, fun o ho => (by cases ho)⟩⟩⟩
    case round =>
      obtain ⟨i, g, os, hi, hosi, rfl, rfl, BW, BK, BI⟩ := hrel
      by_cases hlt : i < ops.length
      · have hltz : (i : Int) < (ops.length : Int) := by omega
        have hget : ops[i]? = some ops[i] := List.getElem?_eq_getElem hlt
        have hmem := List.getElem_mem hlt
        generalize ops[i] = o at hget hmem
        obtain ⟨ad, A5, c5, rfl, p0, p1, p2, p3, p4, p5, hl5, hC5⟩ := at_Op HO.out i o hget
        obtain ⟨wo, hwo⟩ : ∃ wo, wo = wr := ⟨_, rfl⟩
        subst hwo
        have q0 := cell_on BW.out p0
        have q1 := cell_on BW.out p1
        have q2 := cell_on BW.out p2
        have q3 := cell_on BW.out p3
        have q4 := cell_on BW.out p4
        have q5 := cell_on BW.out p5
        obtain ⟨os', n0, e0, hst, hi', hk', hlen', hstep⟩ := Tq.step_good lots sure (show Tq.GoodBoxes sure from ⟨by have := HG.out.sure20; omega, fun b hb => by have := HG.out.box b hb; unfold BoxFit at this; omega⟩) o (HOK.out o hmem) os BI.out.1 BI.out.2
        have h12 : Calls Tryz.prog 12 #[.pointer (some ⟨g, 0, none⟩), .agg #[.int .i64 o.act, .int .i64 o.no, .int .i64 o.body, .int .i64 o.n, .int .i64 o.tick, .slice A5 o.wants.length c5], .slice AL lots.length cl, .slice AS sure.length cs] wo fun e w' => DoPost w.heap.size (fun k => w.heap.size ≤ k) os' n0 e0 wo e w' :=
          f12_any w.heap.size g (fun k => w.heap.size ≤ k) os o AL AS A5 cl cs c5 lots sure wo BK.out BW.out.size (HSTD.out wo BW.out) BI.out.1 BI.out.2 (Kd.C_below hC5 BW.out) (Kd.C_below HL.out BW.out) hcl (Kd.C_below HS.out BW.out) HG.out.sureOk hst
        have HI' := Aside0.mk (And.intro hi' hk')
        clear hi' hk' hst hstep hget p0 p1 p2 p3 p4 p5 hC5 hmem
        go_wp2_with (go_at_call 12; refine h12.mono ?_; rintro e w6 ⟨g2, rfl, hk6, hm6⟩; refine Hid.out ?_)
        refine Lib.hid ?_
        have HB6 := Aside0.mk (show Below w.heap.size w w6 from Mut.base BW.out BW.out.size hm6 (fun i hi => hi))
        have HK6 := Aside0.mk (hk6.mono (ok' := fun k => w.heap.size ≤ k) (fun k hk => hk.elim (fun h => h) (fun h => Nat.le_trans BW.out.size h)))
        clear q0 q1 q2 q3 q4 q5 h12 hk6 hm6
        go_wp2_with fail
        go_roundw
        case rel => exact ⟨i + 1, g2, os', by omega, by omega, by go_num, rfl, HB6, HK6, HI'⟩
        case measure => simp [intOf]; omega
      · have hltz : ¬ (i : Int) < (ops.length : Int) := by omega
        have hos30 : os.length ≤ 30 := by omega
        clear hosi hlt
        obtain ⟨wo, hwo⟩ : ∃ wo, wo = wr := ⟨_, rfl⟩
        subst hwo
        have hask := f18_any w.heap.size g (fun k => w.heap.size ≤ k) os AW cw ws due wo BK.out BW.out.size (Kd.C_below HWS.out BW.out)
        cases hr : Tq.rightWants ws due with
        | false =>
          rw [ask_bad os ws due hr] at hask
          simp only at hask
          have HR := Aside0.mk hr
          clear hr
          go_wp2_with (go_at_call 18; refine hask.mono ?_; rintro e w5 ⟨rfl, hk5, hm5⟩; refine Hid.out ?_)
          refine Lib.hid ?_
          have HB5 := Aside0.mk (show Below w.heap.size w w5 from Mut.base BW.out BW.out.size hm5 (fun i hi => hi))
          clear hask hk5 hm5
          go_wp2
          go_ret
          exact ⟨rfl, HB5.out⟩
        | true =>
          have hgood := ask_good os BI.out.1 BI.out.2 (by omega) ws HWOK.out due hr
          rw [hgood.1] at hask
          simp only at hask
          have hgb : Tq.GoodBoxes sure := ⟨by have := HG.out.sure20; omega, fun b hb => by have := HG.out.box b hb; unfold BoxFit at this; omega⟩
          have hwalk := spare_walk lots sure hgb os BI.out.1 BI.out.2 (by omega) ws HWOK.out due hr _ rfl
          have hinv := hgood.2
          generalize os ++ [(⟨ws, due, 0, []⟩ : Ord)] = bk at hask hwalk hinv
          have HWALK := Aside0.mk hwalk
          have HINV := Aside0.mk hinv
          have HR := Aside0.mk hr
          clear hr hgood hgb hwalk hinv
          go_wp2_with (go_at_call 18; refine hask.mono ?_; rintro e w5 ⟨rfl, hk5, hm5⟩; refine Hid.out ?_)
          refine Lib.hid ?_
          have HB5 := Aside0.mk (show Below w.heap.size w w5 from Mut.base BW.out BW.out.size hm5 (fun i hi => hi))
          have HK5 := Aside0.mk ((hk5.mono (ok' := fun k => w.heap.size ≤ k) (fun k hk => hk.elim (fun h => h) (fun h => Nat.le_trans BW.out.size h))).bound.mono (ok' := fun k => w.heap.size ≤ k ∧ k < w5.heap.size) (fun k hk => ⟨hk.1, hk.2.2⟩))
          clear hask hk5 hm5
          have hsp : ∀ (W : World) (okk : Nat → Prop) (b : List Ord), BookAt W w.heap.size okk g b → BookInv b → Below w.heap.size w W → Calls Tryz.prog 19 #[.pointer (some ⟨g, 0, none⟩), .slice AS sure.length cs] W fun e w' => ∃ A c, e = .returned (.slice A (Tq.spare b sure).length c) ∧ Aside0 (kB.R 60 w' W.heap.size (fun i => W.heap.size ≤ i ∧ i < w'.heap.size) (.slice A (Tq.spare b sure).length c) (Tq.spare b sure)) ∧ Aside0 (Below W.heap.size W w') := by
            intro W okk b hk hib hb
            refine (f19_any w.heap.size g okk b AS cs sure W hk hib (Kd.C_below HS.out hb) (by have := HG.out.sure20; omega) (fun b hb => by have := HG.out.box b hb; unfold BoxFit at this; omega)).mono ?_
            rintro e w' ⟨v', rfl, h1, h2⟩
            obtain ⟨A, c, rfl⟩ := Kd.R_slice h1
            exact ⟨A, c, rfl, ⟨Kd.R_mono (Kd.R_bound h1) (fun k hk => ⟨hk.1, hk.2.2.1⟩)⟩, ⟨h2⟩⟩
          have HSP := Aside0.mk hsp
          have csp := hsp w5 _ bk HK5.out HINV.out.1 HB5.out
          have hlo := spare_ok bk HINV.out.1 HG.out.sureOk
          have HNO := Aside0.mk (show (os.length : Int) = (os.length : Int) from rfl)
          have hsure20 := HG.out.sure20
          generalize hbf : Tq.spare bk sure = bf at csp hlo
          have HBF := Aside0.mk hbf
          have hbf20 : bf.length ≤ 20 := by have := hlo.2; omega
          have HLO := Aside0.mk hlo
          clear hsp hbf hlo
          go_wp2_with (go_at_call 19; ((with_reducible refine csp.mono ?_); rintro e w6 ⟨A16, c16, rfl, hr6, hb6⟩; refine Hid.out ?_))
          refine Lib.hid ?_
          clear csp
          have hsz56 : w5.heap.size ≤ w6.heap.size := hb6.out.size
          have HB6 := Aside0.mk (HB5.out.trans (hb6.out.mono HB5.out.size))
          have HK6 := Aside0.mk (HK5.out.below hb6.out)
          have HR6 := Aside0.mk hr6.out
          have hrd6 := Kd.R_reads' hr6.out
          have cpl := f20_any AL A16 AW cl c16 cw lots bf ws w6 (Kd.C_below HL.out HB6.out) hrd6.2.2 (Kd.C_below HWS.out HB6.out) hcl hbf20 HLO.out.1 (by omega)
          obtain ⟨pl, f, hpl⟩ : ∃ pl f, Tq.plan lots bf ws = (pl, f) := ⟨_, _, rfl⟩
          rw [hpl] at cpl
          simp only at cpl
          have cpl' : Calls Tryz.prog 20 #[.slice AL lots.length cl, .slice A16 bf.length c16, .slice AW ws.length cw] w6 fun e w' => ∃ A c, e = .returned (.tuple #[.slice A pl.length c, .int .i64 f]) ∧ Aside0 (Kd.S kTs 53 w' w6.heap.size (fun i => w6.heap.size ≤ i ∧ i < w'.heap.size) (.slice A pl.length c) pl) ∧ Aside0 (Below w6.heap.size w6 w') := by
            refine cpl.mono ?_
            rintro e w' ⟨v', rfl, h1, h2⟩
            obtain ⟨A, c, rfl⟩ := Kd.S_slice h1
            exact ⟨A, c, rfl, ⟨Kd.S_mono (Kd.S_bound h1) (fun k hk => ⟨hk.1, hk.2.2.1⟩)⟩, ⟨h2⟩⟩
          have HW2 := Aside0.mk (HWALK.out pl f bf HBF.out.symm hpl)
          clear hb6 hr6 hrd6 cpl hpl
          go_wp2_with (go_at_call 20; ((with_reducible refine cpl'.mono ?_); rintro e w7 ⟨A17, c17, rfl, hs7, hb7⟩; refine Hid.out ?_))
          refine Lib.hid ?_
          clear cpl'
          have hsz67 : w6.heap.size ≤ w7.heap.size := hb7.out.size
          have HB7 := Aside0.mk (HB6.out.trans (hb7.out.mono HB6.out.size))
          have HK7 := Aside0.mk (HK6.out.below hb7.out)
          have HR7 := Aside0.mk (Kd.R_below HR6.out hb7.out)
          have HS7 := Aside0.mk hs7.out
          have HCL := Aside0.mk (Kd.C_below HL.out HB7.out)
          have HCS := Aside0.mk (Kd.C_below HS.out HB7.out)
          have c21 := f21_any w.heap.size g _ bk os.length AL AS cl cs lots sure w7 HK7.out HB7.out.size HINV.out.1 HCL.out hcl HCS.out HG.out.sureOk
          clear HCL HCS
          rcases HW2.out with ⟨hf, hprom⟩ | ⟨hf, b1, b4, af, Y⟩
          · rw [hprom] at c21
            simp only at c21
            have hfb : (f != 0) = true := by simpa using hf
            clear hf hprom HW2 HWALK
            go_wp2_with (go_at_call 21; ((with_reducible refine c21.mono ?_); rintro e w8 ⟨rfl, hk8, hm8⟩; refine Hid.out ?_))
            refine Lib.hid ?_
            clear c21
            have HB8 := Aside0.mk (show Below w.heap.size w w8 from Mut.base HB7.out HB7.out.size hm8 (fun i hi => hi.1))
            have HR8 := Aside0.mk (Kd.R_step HR7.out (fun k hk hlt => hm8.block k hlt (fun h => by have := hk.1; have := h.2; omega)))
            have csp := HSP.out w8 _ bk hk8 HINV.out.1 HB8.out
            rw [HBF.out] at csp
            clear hk8 hm8
            go_wp2_with (go_at_call 19; ((with_reducible refine csp.mono ?_); rintro e w9 ⟨A9, c9, rfl, hr9, hb9⟩; refine Hid.out ?_))
            refine Lib.hid ?_
            clear csp
            have hd := Kd.R_reads' hr9.out
            have hd' := Kd.R_reads' (Kd.R_below HR8.out hb9.out)
            have c22 := f22_same A9 A16 c9 c16 bf.length bf.length bf w9 (by omega) rfl rfl hd.2.2 hd.2.1 hd'.2.2 hd'.2.1
            have HB9 := Aside0.mk (HB8.out.trans (hb9.out.mono HB8.out.size))
            clear hr9 hb9 hd hd'
            go_wp2_with (go_at_call 22; ((with_reducible refine c22.mono ?_); rintro e wz ⟨rfl, hbz⟩; refine Hid.out ?_))
            refine Lib.hid ?_
            go_wp2
            go_ret
            exact ⟨rfl, HB9.out.trans (hbz.mono HB9.out.size)⟩
          · subst hf
            have HY := Aside0.mk Y
            rw [Y.prom] at c21
            simp only at c21
            obtain ⟨x, hx, hxt, hxo⟩ := Y.at1
            obtain ⟨y, hy, hyt, hyo⟩ := Y.at4
            have hflat := (ordInv_flat hxo).1
            have htk := ordInv_takes hxo
            rw [hxt] at hflat htk
            have hpl20 := htk.1
            have HTK := Aside0.mk (show ∀ l ∈ pl, l.length ≤ 1000000 from fun l hl => by have := (htk.2 l hl).1; omega)
            have HFLAT := Aside0.mk hflat
            have hxe := encOk_small (encOk_book Y.inv1 Y.kinds1 x (List.mem_of_getElem? (Tq.stateAt_some hx).2.2))
            have hye := encOk_small (encOk_book Y.inv4 Y.kinds4 y (List.mem_of_getElem? (Tq.stateAt_some hy).2.2))
            have HX := Aside0.mk (show ∀ W okk, BookAt W w.heap.size okk g b1 → Calls Tryz.prog 15 #[.pointer (some ⟨g, 0, none⟩), .int .i64 os.length] W fun e w' => ∃ A c, e = .returned (.slice A pl.length c) ∧ Aside0 (kTs.C w' A pl.length pl ∧ pl.length ≤ c) ∧ Aside0 (Below W.heap.size W w') by
              intro W okk hk
              refine (f15_any w.heap.size g okk b1 os.length x W hk hx hxe).mono ?_
              rintro e w' ⟨v', rfl, h1, h2⟩
              rw [hxt] at h1
              obtain ⟨A, c, rfl⟩ := Kd.S_slice h1
              have h3 := Kd.S_reads' h1
              exact ⟨A, c, rfl, ⟨⟨h3.2.2, h3.2.1⟩⟩, ⟨h2⟩⟩)
            have HYC := Aside0.mk (show ∀ W okk, BookAt W w.heap.size okk g b4 → Calls Tryz.prog 15 #[.pointer (some ⟨g, 0, none⟩), .int .i64 os.length] W fun e w' => ∃ A c, e = .returned (.slice A 0 c) ∧ Aside0 (Below W.heap.size W w') by
              intro W okk hk
              refine (f15_any w.heap.size g okk b4 os.length y W hk hy hye).mono ?_
              rintro e w' ⟨v', rfl, h1, h2⟩
              rw [hyt] at h1
              obtain ⟨A, c, rfl⟩ := Kd.S_slice h1
              exact ⟨A, c, rfl, ⟨h2⟩⟩)
            clear Y HW2 HWALK hx hxt hxo hy hyt hyo hflat htk hxe hye
            go_wp2_with (go_at_call 21; ((with_reducible refine c21.mono ?_); rintro e w8 ⟨rfl, hk8, hm8⟩; refine Hid.out ?_))
            refine Lib.hid ?_
            clear c21
            have hsz78 := hm8.size
            have HB8 := Aside0.mk (show Below w.heap.size w w8 from Mut.base HB7.out HB7.out.size hm8 (fun i hi => hi.1))
            have HR8 := Aside0.mk (Kd.R_step HR7.out (fun k hk hlt => hm8.block k hlt (fun h => by have := hk.1; have := h.2; omega)))
            have HS8 := Aside0.mk (Kd.S_step HS7.out (fun k hk hlt => hm8.block k hlt (fun h => by have := hk.1; have := h.2; omega)))
            have HK8 := Aside0.mk (hk8.bound.mono (ok' := fun k => (k < w5.heap.size ∨ w7.heap.size ≤ k) ∧ w.heap.size ≤ k ∧ k < w8.heap.size) (fun k hk => ⟨hk.1.elim (fun h => .inl h.2) (fun h => .inr h), hk.2.1, hk.2.2⟩))
            have HC17 := Aside0.mk (Kd.S_reads' HS8.out).2
            clear hk8 hm8
            go_wp2_with fail
            go_loopw [20, 21] (fun s20 s21 wr => ∃ (i : Nat) (xs : List Take), i ≤ pl.length ∧ s21 = .int .i64 i ∧ Aside0 (xs = (pl.take i).flatten) ∧ Aside0 (kT.R 66 wr w8.heap.size (fun k => w8.heap.size ≤ k) s20 xs) ∧ Aside0 (Below w8.heap.size w8 wr)) (fun _ s21 _ => pl.length - (intOf s21).toNat)
            case atStart => exact ⟨0, [], Nat.zero_le _, rfl, ⟨by simp⟩, ⟨Kd.R_nil _ _ _ _ _⟩, ⟨Below.refl _ _⟩⟩
            case round =>
              obtain ⟨i, xs, hi, rfl, EX, RX, BX⟩ := hrel
              obtain ⟨A20, c20, rfl⟩ := Kd.R_slice RX.out
              obtain ⟨wi, hwi⟩ : ∃ wi, wi = wr := ⟨_, rfl⟩
              subst hwi
              by_cases hlt : i < pl.length
              · have hltz : (i : Int) < (pl.length : Int) := by omega
                obtain ⟨l, hget⟩ : ∃ l, pl[i]? = some l := ⟨_, List.getElem?_eq_getElem hlt⟩
                obtain ⟨ad, A', c', rfl, hcell, hCl⟩ := at_Ts (Kd.C_below HC17.out.2 BX.out) i l hget
                have hl16 : (xs.length + l.length) * 16 ≤ 140737488355328 := by
                  have := flatT_take_le hget
                  rw [← EX.out] at this
                  have := HFLAT.out
                  omega
                have EX2 := Aside0.mk (show xs ++ l = (pl.take (i + 1)).flatten by rw [flatT_take hget, EX.out])
                clear hget
                go_wp2_with (at_builtin; refine Kd.R_append_rows kT (Rr := kT.K wi) w8.heap.size rfl _ _ 53 66 (.agg #[.int .i64 0, .int .i64 0]) 16 rfl Tryz.underlying53 P.info66 rfl (by decide) (by decide) (.slice A20 xs.length c20) xs l A' l.length c' (fun k => w8.heap.size ≤ k) (fun _ => False) rfl rfl RX.out hCl (fun x cs h => kT_rows_M x cs h) (fun _ h => h.elim) (fun q hq => Nat.le_trans BX.out.size hq) (Below.refl _ _) BX.out.size hl16 ?_; intro v1 w1' h1 h2 h3 h4)
                go_roundw
                case rel => exact ⟨i + 1, xs ++ l, by omega, by go_num, EX2, ⟨h1⟩, ⟨BX.out.trans h2⟩⟩
                case measure => simp [intOf]; omega
              · have hltz : ¬ (i : Int) < (pl.length : Int) := by omega
                have hxs : xs = pl.flatten := by rw [EX.out, List.take_of_length_le (by omega)]
                have hrx := Kd.R_reads' RX.out
                have HRW := Aside0.mk (Kd.R_below HR8.out BX.out)
                have hrb := Kd.R_reads' HRW.out
                have c23 := f23_any A16 A20 c16 c20 bf af xs wi hrb.2.2 hbf20 hrx.2.2 (by rw [hxs]; exact HY.out.pin) (fun b hb => (HLO.out.1.2 b hb).2) (by rw [hxs]; exact HY.out.pick)
                have HBW := Aside0.mk (HB8.out.trans (BX.out.mono HB8.out.size))
                have HKW := Aside0.mk (HK8.out.below BX.out)
                have HSW := Aside0.mk (Kd.S_below HS8.out BX.out)
                have hsz8i := BX.out.size
                clear hxs hrx hrb EX RX
                go_wp2_with (go_at_call 23; ((with_reducible refine c23.mono ?_); rintro e w10 ⟨v', rfl, hr10, hb10⟩; refine Hid.out ?_))
                refine Lib.hid ?_
                clear c23
                obtain ⟨A22, c22, rfl⟩ := Kd.R_slice hr10
                have HR10 := Aside0.mk (Kd.R_bound hr10)
                have HB10 := Aside0.mk (HBW.out.trans (hb10.mono HBW.out.size))
                have HK10 := Aside0.mk (HKW.out.below hb10)
                have HRB := Aside0.mk (Kd.R_below HRW.out hb10)
                have HS10 := Aside0.mk (Kd.S_below HSW.out hb10)
                have haf20 : af.length ≤ 20 := by
                  have := HY.out.sp1
                  rw [← this, (spare_ok b1 HY.out.inv1 HG.out.sureOk).2]
                  exact hsure20
                have c15 := HX.out w10 _ HK10.out
                clear hr10 hb10
                go_wp2_with (go_at_call 15; ((with_reducible refine c15.mono ?_); rintro e w11 ⟨A11, c11, rfl, hr11, hb11⟩; refine Hid.out ?_))
                refine Lib.hid ?_
                clear c15
                have hs11 := Kd.S_reads' (Kd.S_below HS10.out hb11.out)
                have c24 := f24_same A11 A17 c11 c17 pl.length pl.length pl w11 (by omega) HTK.out rfl rfl hr11.out.1 hr11.out.2 hs11.2.2 hs11.2.1
                have HB11 := Aside0.mk (HB10.out.trans (hb11.out.mono HB10.out.size))
                have HK11 := Aside0.mk (HK10.out.below hb11.out)
                have HRA := Aside0.mk (Kd.R_below HR10.out hb11.out)
                have HRB11 := Aside0.mk (Kd.R_below HRB.out hb11.out)
                clear hr11 hb11 hs11
                go_wp2_with (go_at_call 24; ((with_reducible refine c24.mono ?_); rintro e w12 ⟨rfl, hb12⟩; refine Hid.out ?_))
                refine Lib.hid ?_
                clear c24
                have HB12 := Aside0.mk (HB11.out.trans (hb12.mono HB11.out.size))
                have HK12 := Aside0.mk (HK11.out.below hb12)
                have HRA12 := Aside0.mk (Kd.R_below HRA.out hb12)
                have HRB12 := Aside0.mk (Kd.R_below HRB11.out hb12)
                have csp := HSP.out w12 _ b1 HK12.out HY.out.inv1 HB12.out
                rw [HY.out.sp1] at csp
                clear hb12
                go_wp2_with (go_at_call 19; ((with_reducible refine csp.mono ?_); rintro e w13 ⟨A13, c13, rfl, hr13, hb13⟩; refine Hid.out ?_))
                refine Lib.hid ?_
                clear csp
                have hd := Kd.R_reads' hr13.out
                have hd' := Kd.R_reads' (Kd.R_below HRA12.out hb13.out)
                have c22' := f22_same A13 A22 c13 c22 af.length af.length af w13 (by omega) rfl rfl hd.2.2 hd.2.1 hd'.2.2 hd'.2.1
                have HB13' := Aside0.mk (HB12.out.trans (hb13.out.mono HB12.out.size))
                have HK13 := Aside0.mk (HK12.out.below hb13.out)
                have HRB13 := Aside0.mk (Kd.R_below HRB12.out hb13.out)
                clear hr13 hb13 hd hd'
                go_wp2_with (go_at_call 22; ((with_reducible refine c22'.mono ?_); rintro e w14 ⟨rfl, hb14⟩; refine Hid.out ?_))
                refine Lib.hid ?_
                clear c22'
                have HB14 := Aside0.mk (HB13'.out.trans (hb14.mono HB13'.out.size))
                have HK14 := Aside0.mk (HK13.out.below hb14)
                have HRB14 := Aside0.mk (Kd.R_below HRB13.out hb14)
                have c25 := f25_any w.heap.size g _ b1 os.length w14 HK14.out
                rw [HY.out.wd] at c25
                simp only at c25
                clear hb14
                go_wp2_with (go_at_call 25; ((with_reducible refine c25.mono ?_); rintro e w15 ⟨rfl, hk15, hm15⟩; refine Hid.out ?_))
                refine Lib.hid ?_
                clear c25
                have HB15 := Aside0.mk (show Below w.heap.size w w15 from Mut.base HB14.out HB14.out.size hm15 (fun i hi => hi.2.1))
                have HK15 := Aside0.mk hk15
                have HRB15 := Aside0.mk (Kd.R_step HRB14.out (fun k hk hlt => hm15.block k hlt (fun h => by have := hk.1; have := hk.2; have := h.1; omega)))
                have csp := HSP.out w15 _ b4 HK15.out HY.out.inv4 HB15.out
                rw [HY.out.sp4] at csp
                clear hk15 hm15
                go_wp2_with (go_at_call 19; ((with_reducible refine csp.mono ?_); rintro e w16 ⟨A16', c16', rfl, hr16, hb16⟩; refine Hid.out ?_))
                refine Lib.hid ?_
                clear csp
                have hd := Kd.R_reads' hr16.out
                have hd' := Kd.R_reads' (Kd.R_below HRB15.out hb16.out)
                have c22' := f22_same A16' A16 c16' c16 bf.length bf.length bf w16 (by omega) rfl rfl hd.2.2 hd.2.1 hd'.2.2 hd'.2.1
                have HB16 := Aside0.mk (HB15.out.trans (hb16.out.mono HB15.out.size))
                have HK16 := Aside0.mk (HK15.out.below hb16.out)
                clear hr16 hb16 hd hd'
                go_wp2_with (go_at_call 22; ((with_reducible refine c22'.mono ?_); rintro e w17 ⟨rfl, hb17⟩; refine Hid.out ?_))
                refine Lib.hid ?_
                clear c22'
                have HB17 := Aside0.mk (HB16.out.trans (hb17.mono HB16.out.size))
                have HK17 := Aside0.mk (HK16.out.below hb17)
                have c15 := HYC.out w17 _ HK17.out
                clear hb17
                go_wp2_with (go_at_call 15; ((with_reducible refine c15.mono ?_); rintro e w18 ⟨A18, c18, rfl, hb18⟩; refine Hid.out ?_))
                refine Lib.hid ?_
                clear c15
                have HB18 := Aside0.mk (HB17.out.trans (hb18.out.mono HB17.out.size))
                have c25 := f25_any w.heap.size g _ b4 os.length w18 (HK17.out.below hb18.out)
                rw [HY.out.wd2] at c25
                simp only at c25
                clear hb18
                go_wp2_with (go_at_call 25; ((with_reducible refine c25.mono ?_); rintro e w19 ⟨rfl, hk19, hm19⟩; refine Hid.out ?_))
                refine Lib.hid ?_
                have HB19 := Aside0.mk (show Below w.heap.size w w19 from Mut.base HB18.out HB18.out.size hm19 (fun i hi => hi.2.1))
                clear c25 hk19 hm19
                go_wp2
                go_ret
                exact ⟨rfl, HB19.out⟩
end Go.Proofs.YtcliaokoganbaaaGreatDoor
