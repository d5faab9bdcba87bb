/-
  Part 19 of the proof of the card: lemmas and walks, joined by mergeclaim.py out of the texts HE, HF, HG, IA.
-/
import Derived.Test.YtcliaokoganbaaaGreatDoorM18
import Derived.Deep.RegionLaw
import Derived.Deep.CutBlock
import Derived.Deep.DeepCutAuto
set_option linter.unusedVariables false
set_option linter.unusedSimpArgs false
namespace Go.Proofs.YtcliaokoganbaaaGreatDoor
open Go Go.RowKit Go.Shelf Go.Proofs.YtcliaokoganbaaaGreatDoorW.PrintWords Go.Proofs.YtcliaokoganbaaaGreatDoorW.PrintLast Go.Proofs.YtcliaokoganbaaaGreatDoorW.PrintMore
open Tq (Lot Box Want Take Ord Op BookInv OrdInv)
theorem Mut.blk {S : Nat → Prop} {w w' : World} (h : Mut S w w') {k : Nat} {o : Obj} (hb : w.heap[k]? = some o) (hn : ¬ S k) : w'.heap[k]? = some o :=
  (h.block k (Array.getElem?_eq_some_iff.1 hb).1 hn).trans hb
theorem f83_eq (g : Nat) (r : Tq.Rd) (w : World) (h : RdAt w g r) (hlen : r.rest.length ≤ 9223372036854775806) :
    Calls Tryz.prog 83 #[.pointer (some ⟨g, 0, none⟩)] w fun e w' => e = .returned (.int .i64 r.rest.length) ∧ w = w' :=
  (f83_any g r w h hlen).mono fun e w' h => ⟨h.1, h.2.symm⟩
theorem Mut.four {S : Nat → Prop} {a w : World} {b : Nat} (h : Mut S a w) (hb : a.heap.size ≤ b) (u0 u1 u2 u3 : Value) : Mut S a ((((w.setCell ⟨b, 0, none⟩ u0).setCell ⟨b, 1, none⟩ u1).setCell ⟨b, 2, none⟩ u2).setCell ⟨b, 3, none⟩ u3) :=
  (((h.setCell (p := ⟨b, 0, none⟩) (.inr hb) u0).setCell (p := ⟨b, 1, none⟩) (.inr hb) u1).setCell (p := ⟨b, 2, none⟩) (.inr hb) u2).setCell (p := ⟨b, 3, none⟩) (.inr hb) u3
theorem heap_four (w : World) (b : Nat) (u0 u1 u2 u3 : Value) (k : Nat) (hk : k ≠ b) : ((((w.setCell ⟨b, 0, none⟩ u0).setCell ⟨b, 1, none⟩ u1).setCell ⟨b, 2, none⟩ u2).setCell ⟨b, 3, none⟩ u3).heap[k]? = w.heap[k]? :=
  (Below.heap_setCell _ ⟨b, 3, none⟩ u3 k hk).trans ((Below.heap_setCell _ ⟨b, 2, none⟩ u2 k hk).trans ((Below.heap_setCell _ ⟨b, 1, none⟩ u1 k hk).trans (Below.heap_setCell w ⟨b, 0, none⟩ u0 k hk)))
/-- How the reading of an order ends. -/
def RdPost (r : Tq.Rd) (g : Nat) (w : World) (e : Ending) (w' : World) : Prop :=
  Mut (fun k => k = g) w w' ∧
  match (Tq.readOrd r).1 with
  | none => ∃ A n c du st A' n' c', e = .returned (.tuple #[.agg #[.slice A n c, .int .i64 du, .int .i64 st, .slice A' n' c'], .bool false])
  | some o => RdAt w' g (Tq.readOrd r).2 ∧ ∃ v0 v3, e = .returned (.tuple #[.agg #[v0, .int .i64 o.due, .int .i64 o.state, v3], .bool true]) ∧ kO.M w' w.heap.size (fun i => w.heap.size ≤ i) o [v0, .int .i64 o.due, .int .i64 o.state, v3]
theorem RdPost.none {r : Tq.Rd} {g : Nat} {w w' : World} (hn : (Tq.readOrd r).1 = Option.none) (hm : Mut (fun k => k = g) w w') (A : Option Addr) (n c : Nat) (du st : Int) (A' : Option Addr) (n' c' : Nat) :
    RdPost r g w (.returned (.tuple #[.agg #[.slice A n c, .int .i64 du, .int .i64 st, .slice A' n' c'], .bool false])) w' := by
  refine ⟨hm, ?_⟩
  rw [hn]
  exact ⟨_, _, _, _, _, _, _, _, rfl⟩
theorem RdPost.some {r r' : Tq.Rd} {g : Nat} {o : Ord} {w w' : World} (hn : Tq.readOrd r = (Option.some o, r')) (hm : Mut (fun k => k = g) w w') (hr : RdAt w' g r') {v0 v3 : Value} (hk : kO.M w' w.heap.size (fun i => w.heap.size ≤ i) o [v0, .int .i64 o.due, .int .i64 o.state, v3]) :
    RdPost r g w (.returned (.tuple #[.agg #[v0, .int .i64 o.due, .int .i64 o.state, v3], .bool true])) w' := by
  refine ⟨hm, ?_⟩
  rw [hn]
  exact ⟨hr, _, _, rfl, hk⟩
set_option maxRecDepth 100000 in
set_option maxHeartbeats 4000000 in
theorem f84_any (g : Nat) (r : Tq.Rd) (w : World) (hs : Std w) (hg6 : 6 ≤ g) (h : RdAt w g r) (hlen : r.rest.length ≤ 20000001000) :
    Calls Tryz.prog 84 #[.pointer (some ⟨g, 0, none⟩)] w fun e w' => RdPost r g w e w' := by
  have hgl := h.lt
  have hstd : ∀ W, Mut (fun k => k = g) w W → Std W := fun W hm => hs.mut hm (fun k hk => by omega)
  have HSTD := Aside0.mk hstd
  have hW1 : Below w.heap.size w ((w.alloc (.cells #[.slice none 0 0, .int .i64 0, .int .i64 0, .slice none 0 0] 96)).alloc (.cells #[.slice none 0 0, .int .i64 0, .int .i64 0, .slice none 0 0] 96)) := below_alloc (below_alloc (Below.refl _ _) _) _
  have h82 := f82_any g r _ (hstd _ (Mut.of_below hW1 _)) (h.below hW1 hgl) (by omega)
  have HN := Aside0.mk (rNum_range r)
  have HNR := Aside0.mk (rNum_rest r)
  have hT2 : ((w.alloc (.cells #[.slice none 0 0, .int .i64 0, .int .i64 0, .slice none 0 0] 96)).alloc (.cells #[.slice none 0 0, .int .i64 0, .int .i64 0, .slice none 0 0] 96)).heap[w.heap.size]? = some (.cells #[.slice none 0 0, .int .i64 0, .int .i64 0, .slice none 0 0] 96 (0, 0)) := (Below.heap_alloc _ _ _ (by simp)).trans (heap_alloc_new w _)
  have hT4 : ((w.alloc (.cells #[.slice none 0 0, .int .i64 0, .int .i64 0, .slice none 0 0] 96)).alloc (.cells #[.slice none 0 0, .int .i64 0, .int .i64 0, .slice none 0 0] 96)).heap[w.heap.size + 1]? = some (.cells #[.slice none 0 0, .int .i64 0, .int .i64 0, .slice none 0 0] 96 (0, 0)) := heap_alloc_at _ _ _ (by simp)
  have HW1 := Aside0.mk hW1
  have HT2 := Aside0.mk hT2
  have HT4 := Aside0.mk hT4
  have HLEN := Aside0.mk hlen
  clear hs h hstd hW1 hT2 hT4 hlen
  go_enter Tryz.func84, Tryz.ntmps84
  go_wp2_with (go_at_call 82; refine h82.mono ?_; rintro e w1 ⟨rfl, hr1, hm1⟩; refine Hid.out ?_)
  refine Lib.hid ?_
  have HM1 := Aside0.mk ((Mut.of_below HW1.out (fun k => k = g)).trans hm1 (fun i hi => .inl hi))
  have HR1 := Aside0.mk hr1
  have HS1 := Aside0.mk (show w.heap.size + 2 ≤ w1.heap.size by have := hm1.size; simpa using this)
  have HT21 := Aside0.mk (hm1.blk HT2.out (show ¬ w.heap.size = g by omega))
  have HT41 := Aside0.mk (hm1.blk HT4.out (show ¬ w.heap.size + 1 = g by omega))
  clear hr1 hm1 h82 HW1 HT2 HT4
  obtain ⟨K, hK⟩ : ∃ K : Nat, (Tq.rNum r).1 = (K : Int) := ⟨(Tq.rNum r).1.toNat, by have := HN.out.1; omega⟩
  have HK := Aside0.mk hK
  have hKm : (K : Int) ≤ 9223372036854775807 := by have := HN.out.2; omega
  rw [hK]
  clear hK
  go_upto_block 0 with fail
  go_cut [] (fun wx => ∃ (r' : Tq.Rd) (acc : List Want) (A : Option Addr) (c : Nat), Aside0 (Tq.readWants K (Tq.rNum r).2 = (acc, r')) ∧ Aside0 (acc.length + r'.rest.length ≤ (Tq.rNum r).2.rest.length) ∧ Aside0 (RdAt wx g r') ∧ Aside0 (Mut (fun k => k = g) w wx) ∧ Aside0 (w.heap.size + 2 ≤ wx.heap.size) ∧
      Aside0 (wx.heap[w.heap.size]? = some (.cells #[.slice none 0 0, .int .i64 0, .int .i64 0, .slice none 0 0] 96 (0, 0))) ∧ Aside0 (wx.heap[w.heap.size + 1]? = some (.cells #[.slice A acc.length c, .int .i64 0, .int .i64 0, .slice none 0 0] 96 (0, 0))) ∧
      Aside0 (kW.R 100 wx (w.heap.size + 2) (fun i => w.heap.size + 2 ≤ i) (.slice A acc.length c) acc))
  case first =>
    go_wp2_with fail
    go_loopw [5] (fun s5 wr => ∃ (j : Nat) (r' : Tq.Rd) (acc : List Want) (A : Option Addr) (c : Nat), s5 = .int .i64 j ∧ j ≤ K ∧ Aside0 (RW K (Tq.rNum r).2 j r' acc) ∧ Aside0 (RdAt wr g r') ∧ Aside0 (Mut (fun k => k = g) w wr) ∧ Aside0 (w.heap.size + 2 ≤ wr.heap.size) ∧
      Aside0 (wr.heap[w.heap.size]? = some (.cells #[.slice none 0 0, .int .i64 0, .int .i64 0, .slice none 0 0] 96 (0, 0))) ∧ Aside0 (wr.heap[w.heap.size + 1]? = some (.cells #[.slice A acc.length c, .int .i64 0, .int .i64 0, .slice none 0 0] 96 (0, 0))) ∧
      Aside0 (kW.R 100 wr (w.heap.size + 2) (fun i => w.heap.size + 2 ≤ i) (.slice A acc.length c) acc)) (fun s5 _ => (intOf s5).toNat)
    case atStart => exact ⟨K, _, [], none, 0, rfl, Nat.le_refl _, ⟨RW.start _ _⟩, HR1, HM1, HS1, HT21, HT41, ⟨Kd.R_nil _ _ _ _ _⟩⟩
    case round =>
      obtain ⟨j, r', acc, A, c, rfl, hj, RWj, RJ, MJ, SJ, T2J, T4J, RRJ⟩ := hrel
      have hlr : r'.rest.length ≤ 20000001000 := by have := RWj.out.len; have := HNR.out; have := HLEN.out; omega
      have hal : acc.length ≤ 20000001000 := by have := RWj.out.len; have := HNR.out; have := HLEN.out; omega
      have h83 := f83_eq g r' wr RJ.out (by omega)
      by_cases hj0 : j = 0
      · subst hj0
        have hst := Aside0.mk (RWj.out.stop (.inl rfl))
        have hln := Aside0.mk RWj.out.len
        clear RWj h83
        go_wp2_with fail
        go_meet
        case rel => exact ⟨r', acc, A, c, hst, hln, RJ, MJ, SJ, T2J, T4J, RRJ⟩
      · by_cases hre : r'.rest = []
        · have hst := Aside0.mk (RWj.out.stop (.inr hre))
          have hln := Aside0.mk RWj.out.len
          have hjz : 0 < j := by omega
          rw [hre] at h83
          clear RWj hre hj0
          go_wp2_with (go_at_call 83; refine h83.mono ?_; rintro e w' ⟨rfl, rfl⟩)
          go_meet
          case rel => exact ⟨r', acc, A, c, hst, hln, RJ, MJ, SJ, T2J, T4J, RRJ⟩
        · obtain ⟨j, rfl⟩ : ∃ m, j = m + 1 := ⟨j - 1, by omega⟩
          have hjz : 0 < j + 1 := by omega
          have hlz : 0 < r'.rest.length := List.length_pos_iff.2 hre
          have HRE := Aside0.mk hre
          obtain ⟨wo, hwo⟩ : ∃ wo, wo = wr := ⟨_, rfl⟩
          subst hwo
          have hcall : ∀ W r1, Mut (fun k => k = g) wo W → RdAt W g r1 → r1.rest.length ≤ 20000001000 → Calls Tryz.prog 114 #[.pointer (some ⟨g, 0, none⟩)] W fun e w' => e = .returned (.int .i64 (Tq.rInt r1).1) ∧ Aside0 (RdAt w' g (Tq.rInt r1).2) ∧ Aside0 (Mut (fun k => k = g) wo w') := by
            intro W r1 hm hr hl
            refine (f114_any g r1 W (HSTD.out W (MJ.out.trans hm (fun i hi => .inl hi))) hr (by omega)).mono ?_
            rintro e w' ⟨rfl, h1, h2⟩
            exact ⟨rfl, ⟨h1⟩, ⟨hm.trans h2 (fun i hi => .inl hi)⟩⟩
          have hl1 := rInt_rest r'
          have hl2 := rInt_rest (Tq.rInt r').2
          have hcA := hcall wo.drew r' (Mut.refl _ _).drew RJ.out hlr
          have hcB := fun W (hm : Aside0 (Mut (fun k => k = g) wo W)) (hr : Aside0 (RdAt W g (Tq.rInt r').2)) => hcall W _ hm.out hr.out (by omega)
          have hcC := fun W (hm : Aside0 (Mut (fun k => k = g) wo W)) (hr : Aside0 (RdAt W g (Tq.rInt (Tq.rInt r').2).2)) => hcall W _ hm.out hr.out (by omega)
          have hq : ∀ W, Aside0 (Mut (fun k => k = g) wo W) → W.cell? ⟨w.heap.size + 1, 0, none⟩ = some (.slice A acc.length c) ∧ W.frozen? ⟨w.heap.size + 1, 0, none⟩ = false := by
            intro W hm
            obtain ⟨q1, q2⟩ := blk_facts (hm.out.blk T4J.out (show ¬ w.heap.size + 1 = g by omega))
            exact ⟨q1 0, q2 0⟩
          obtain ⟨t40, t4f⟩ := hq wo ⟨Mut.refl _ _⟩
          have HQ := Aside0.mk hq
          clear hq hcall hre
          go_wp2_with (go_at_call 83; refine h83.mono ?_; rintro e w' ⟨rfl, rfl⟩)
          have HRW2 := Aside0.mk (RWj.out.step HRE.out)
          have HAL := Aside0.mk hal
          have hpl : (acc.length + 1) * 24 ≤ 140737488355328 := by omega
          have hgr3 : some (w.heap.size + 1) ≠ (Value.slice A acc.length c).ownBlock := fun he => by have := RRJ.out.1 _ he.symm; omega
          have prep : ∀ W, Aside0 (Mut (fun k => k = g) wo W) → kW.R 100 W (w.heap.size + 2) (fun i => w.heap.size + 2 ≤ i) (.slice A acc.length c) acc ∧ w.heap.size + 2 ≤ W.heap.size := by
            intro W hm
            refine ⟨Kd.R_step RRJ.out (fun k hk hlt => hm.out.block k hlt (by omega)), ?_⟩
            have := hm.out.size; have := SJ.out; omega
          have HP := Aside0.mk prep
          clear prep hlr hal hl1 hl2 hlz h83 RWj
          generalize Tq.rInt r' = x1 at *
          generalize Tq.rInt x1.2 = x2 at *
          generalize Tq.rInt x2.2 = x3 at *
          go_region_law (first
            | (go_simp; go_at_call 114; ((with_reducible refine hcA.mono ?_); rintro e wa ⟨rfl, ra, ma⟩; obtain ⟨ta, taf⟩ := HQ.out wa ma))
            | (go_simp; go_at_call 114; ((with_reducible refine (hcB wa ma ra).mono ?_); rintro e wb ⟨rfl, rb, mb⟩; obtain ⟨tb, tbf⟩ := HQ.out wb mb))
            | (go_simp; go_at_call 114; ((with_reducible refine (hcC wb mb rb).mono ?_); rintro e wd ⟨rfl, rd, md⟩; obtain ⟨td, tdf⟩ := HQ.out wd md; have te := (keepS (o := .cells #[.int .i64 x1.1, .int .i64 x2.1, .int .i64 x3.1] 100) td tdf).1; obtain ⟨pR, pb⟩ := HP.out wd md))
            | (refine Kd.R_append_step kW (w.heap.size + 2) (by simp [Region.wanted]) (.tmp 26) (.tmp 34) 33 100 (.agg #[.int .i64 0, .int .i64 0, .int .i64 0]) 24 (by rfl) Tryz.underlying33 P.info100 (by rfl) (by decide) (by decide) (.slice A acc.length c) acc ⟨x1.1, x2.1, x3.1⟩ [.int .i64 x1.1, .int .i64 x2.1, .int .i64 x3.1] (fun i => w.heap.size + 2 ≤ i) (fun _ => False) (by rfl) (by rfl) (kW_mkM _ _ _ ⟨x1.1, x2.1, x3.1⟩) (fun _ h => h.elim) (fun q hq => Nat.le_trans pb hq) pR (Below.refl _ _) pb hpl ?_; intro v3 w3 hR3 hB3 hg3 hat3; obtain ⟨A3, c3, rfl⟩ := Kd.R_slice hR3; obtain ⟨hc3, hf3⟩ := keepG hg3 td tdf hgr3))
          all_goals (
            have hrow : ∀ i, (Value.slice A acc.length c).ownBlock = some i → w.heap.size + 2 ≤ i := fun i hi => RRJ.out.1 i hi
            have t2d := md.out.blk T2J.out (show ¬ w.heap.size = g by omega)
            have t4d := md.out.blk T4J.out (show ¬ w.heap.size + 1 = g by omega)
            have hszd := md.out.size
            have t23 := (hg3.block w.heap.size (Array.getElem?_eq_some_iff.1 t2d).1 (fun he => by have := hrow _ he.symm; omega)).trans t2d
            have t43 := (hg3.block (w.heap.size + 1) (Array.getElem?_eq_some_iff.1 t4d).1 (fun he => by have := hrow _ he.symm; omega)).trans t4d
            have rg3 := (hg3.block g rd.out.lt (fun he => by have := hrow _ he.symm; omega)).trans rd.out
            have T2N := Aside0.mk ((Below.heap_setCell w3 ⟨w.heap.size + 1, 0, none⟩ (.slice A3 (acc ++ [(⟨x1.1, x2.1, x3.1⟩ : Want)]).length c3) w.heap.size (show w.heap.size ≠ w.heap.size + 1 by omega)).trans t23)
            have T4N := Aside0.mk (Lib.heap_setCell_same (i := 0) t43 (.slice A3 (acc ++ [(⟨x1.1, x2.1, x3.1⟩ : Want)]).length c3))
            have RGN := Aside0.mk (show RdAt (w3.setCell ⟨w.heap.size + 1, 0, none⟩ (.slice A3 (acc ++ [(⟨x1.1, x2.1, x3.1⟩ : Want)]).length c3)) g x3.2 from (Below.heap_setCell w3 ⟨w.heap.size + 1, 0, none⟩ (.slice A3 (acc ++ [(⟨x1.1, x2.1, x3.1⟩ : Want)]).length c3) g (show g ≠ w.heap.size + 1 by omega)).trans rg3)
            have MN := Aside0.mk (((MJ.out.trans md.out (fun i hi => .inl hi)).grown hg3 (fun i hi => .inr (by have := hrow i hi; omega))).setCell (p := ⟨w.heap.size + 1, 0, none⟩) (.inr (by show w.heap.size ≤ w.heap.size + 1; omega)) (.slice A3 (acc ++ [(⟨x1.1, x2.1, x3.1⟩ : Want)]).length c3))
            have SN := Aside0.mk (show w.heap.size + 2 ≤ (w3.setCell ⟨w.heap.size + 1, 0, none⟩ (.slice A3 (acc ++ [(⟨x1.1, x2.1, x3.1⟩ : Want)]).length c3)).heap.size by have := hg3.size; simp [World.setCell]; omega)
            have RRN := Aside0.mk (Kd.R_far (p := ⟨w.heap.size + 1, 0, none⟩) hR3 (fun k hk => (show k ≠ w.heap.size + 1 by omega)) (.slice A3 (acc ++ [(⟨x1.1, x2.1, x3.1⟩ : Want)]).length c3))
            clear hR3 hB3 hg3 hat3 t2d t4d t23 t43 rg3 pR
            simp only [List.length_append, List.length_cons, List.length_nil, Nat.zero_add] at T2N T4N RGN MN SN RRN
            go_wp2
            go_roundw
            case rel => exact ⟨j, x3.2, acc ++ [⟨x1.1, x2.1, x3.1⟩], A3, c3, by go_num, by omega, HRW2, RGN, MN, SN, T2N, by simpa using T4N, by simpa using RRN⟩
            case measure => simp [intOf])
  case rest =>
    obtain ⟨r1, ws, A, c, HRW, HLN, R5, M5, S5, T25, T45, RR5⟩ := hcut
    have hl5 : r1.rest.length ≤ 20000001000 := by have := HLN.out; have := HNR.out; have := HLEN.out; omega
    have hcall : ∀ W r1, Mut (fun k => k = g) wc W → RdAt W g r1 → r1.rest.length ≤ 20000001000 → Calls Tryz.prog 114 #[.pointer (some ⟨g, 0, none⟩)] W fun e w' => e = .returned (.int .i64 (Tq.rInt r1).1) ∧ Aside0 (RdAt w' g (Tq.rInt r1).2) ∧ Aside0 (Mut (fun k => k = g) wc w') := by
      intro W r1 hm hr hl
      refine (f114_any g r1 W (HSTD.out W (M5.out.trans hm (fun i hi => .inl hi))) hr (by omega)).mono ?_
      rintro e w' ⟨rfl, h1, h2⟩
      exact ⟨rfl, ⟨h1⟩, ⟨hm.trans h2 (fun i hi => .inl hi)⟩⟩
    have hl1 := rInt_rest r1
    have hl2 := rInt_rest (Tq.rInt r1).2
    have hcA := hcall wc r1 (Mut.refl _ _) R5.out hl5
    have hcB := fun W (hm : Aside0 (Mut (fun k => k = g) wc W)) (hr : Aside0 (RdAt W g (Tq.rInt r1).2)) => hcall W _ hm.out hr.out (by omega)
    have HRD := Aside0.mk (rInt_range r1)
    have HRS := Aside0.mk (rInt_range (Tq.rInt r1).2)
    have hbad := fun hb => readOrd_bad (r := r) (ws := ws) (r1 := r1) (by rw [HK.out, Int.toNat_natCast]; exact HRW.out) hb
    have hpla := fun h1 h2 h3 h4 => readOrd_plain (r := r) (ws := ws) (r1 := r1) (by rw [HK.out, Int.toNat_natCast]; exact HRW.out) h1 h2 h3 h4
    have HBAD := Aside0.mk hbad
    have HPLA := Aside0.mk hpla
    have HRW2 := Aside0.mk (show Tq.readWants (Tq.rNum r).1.toNat (Tq.rNum r).2 = (ws, r1) by rw [HK.out, Int.toNat_natCast]; exact HRW.out)
    have HL2 := Aside0.mk (show (Tq.rInt (Tq.rInt r1).2).2.rest.length ≤ 20000001000 by have := rInt_rest (Tq.rInt r1).2; omega)
    have HWS := Aside0.mk (show ws.length ≤ 20000001000 by have := HLN.out; have := HNR.out; have := HLEN.out; omega)
    obtain ⟨x1, hx1⟩ : ∃ x1, Tq.rInt r1 = x1 := ⟨_, rfl⟩
    rw [hx1] at hcA hcB HRS HBAD HPLA HRD HL2
    obtain ⟨x2, hx2⟩ : ∃ x2, Tq.rInt x1.2 = x2 := ⟨_, rfl⟩
    have hcB2 : ∀ W, Aside0 (Mut (fun k => k = g) wc W) → Aside0 (RdAt W g x1.2) → Calls Tryz.prog 114 #[.pointer (some ⟨g, 0, none⟩)] W fun e w' => e = .returned (.int .i64 x2.1) ∧ Aside0 (RdAt w' g x2.2) ∧ Aside0 (Mut (fun k => k = g) wc w') := by
      intro W h1 h2
      rw [← hx2]
      exact hcB W h1 h2
    rw [hx2] at HRS HBAD HPLA HL2
    have HX1 := Aside0.mk hx1
    have HX2 := Aside0.mk hx2
    have hq : ∀ W, Aside0 (Mut (fun k => k = g) wc W) → (∀ j, W.cell? ⟨w.heap.size + 1, j, none⟩ = (#[Value.slice A ws.length c, .int .i64 0, .int .i64 0, .slice none 0 0] : Array Value)[j]?) ∧ (∀ j, W.frozen? ⟨w.heap.size + 1, j, none⟩ = false) := by
      intro W hm
      exact blk_facts (hm.out.blk T45.out (show ¬ w.heap.size + 1 = g by omega))
    have HQ := Aside0.mk hq
    clear hcall hbad hpla hcB hl1 hl2 hl5 hx1 hx2 hq
    go_wp2_with (first | (go_at_call 114; ((with_reducible refine hcA.mono ?_); rintro e wa ⟨rfl, ra, ma⟩)) | (go_at_call 114; ((with_reducible refine (hcB2 wa ma ra).mono ?_); rintro e wb ⟨rfl, rb, mb⟩; refine Hid.out ?_)))
    refine Lib.hid ?_
    obtain ⟨q1, q2⟩ := HQ.out wb mb
    have q11 : wb.cell? ⟨w.heap.size + 1, 1, none⟩ = some (.int .i64 0) := q1 1
    have q12 : wb.cell? ⟨w.heap.size + 1, 2, none⟩ = some (.int .i64 0) := q1 2
    have q21 := q2 1
    have q22 := q2 2
    clear q1 q2 hcA hcB2
    have t4b := mb.out.blk T45.out (show ¬ w.heap.size + 1 = g by omega)
    have t2b := mb.out.blk T25.out (show ¬ w.heap.size = g by omega)
    have T4N := Aside0.mk (Lib.heap_setCell_same (i := 2) (Lib.heap_setCell_same (i := 1) t4b (.int .i64 x1.1)) (.int .i64 x2.1))
    have T2N := Aside0.mk (((Below.heap_setCell (wb.setCell ⟨w.heap.size + 1, 1, none⟩ (.int .i64 x1.1)) ⟨w.heap.size + 1, 2, none⟩ (.int .i64 x2.1) w.heap.size (show w.heap.size ≠ w.heap.size + 1 by omega)).trans (Below.heap_setCell wb ⟨w.heap.size + 1, 1, none⟩ (.int .i64 x1.1) w.heap.size (show w.heap.size ≠ w.heap.size + 1 by omega))).trans t2b)
    have RGN := Aside0.mk (show RdAt ((wb.setCell ⟨w.heap.size + 1, 1, none⟩ (.int .i64 x1.1)).setCell ⟨w.heap.size + 1, 2, none⟩ (.int .i64 x2.1)) g x2.2 from ((Below.heap_setCell (wb.setCell ⟨w.heap.size + 1, 1, none⟩ (.int .i64 x1.1)) ⟨w.heap.size + 1, 2, none⟩ (.int .i64 x2.1) g (show g ≠ w.heap.size + 1 by omega)).trans (Below.heap_setCell wb ⟨w.heap.size + 1, 1, none⟩ (.int .i64 x1.1) g (show g ≠ w.heap.size + 1 by omega))).trans rb.out)
    have MN := Aside0.mk (((M5.out.trans mb.out (fun i hi => .inl hi)).setCell (p := ⟨w.heap.size + 1, 1, none⟩) (.inr (by show w.heap.size ≤ w.heap.size + 1; omega)) (.int .i64 x1.1)).setCell (p := ⟨w.heap.size + 1, 2, none⟩) (.inr (by show w.heap.size ≤ w.heap.size + 1; omega)) (.int .i64 x2.1))
    have SN := Aside0.mk (show w.heap.size + 2 ≤ ((wb.setCell ⟨w.heap.size + 1, 1, none⟩ (.int .i64 x1.1)).setCell ⟨w.heap.size + 1, 2, none⟩ (.int .i64 x2.1)).heap.size by have := mb.out.size; have := S5.out; simp [World.setCell]; omega)
    have RRN := Aside0.mk (Kd.R_far (p := ⟨w.heap.size + 1, 2, none⟩) (Kd.R_far (p := ⟨w.heap.size + 1, 1, none⟩) (Kd.R_step RR5.out (fun k hk hlt => mb.out.block k hlt (by omega))) (fun k hk => (show k ≠ w.heap.size + 1 by omega)) (.int .i64 x1.1)) (fun k hk => (show k ≠ w.heap.size + 1 by omega)) (.int .i64 x2.1))
    have hca : (((wb.setCell ⟨w.heap.size + 1, 1, none⟩ (.int .i64 x1.1)).setCell ⟨w.heap.size + 1, 2, none⟩ (.int .i64 x2.1))).cell? ⟨w.heap.size + 1, 0, none⟩ = some (.slice A ws.length c) := (blk_facts T4N.out).1 0
    have hcb : (((wb.setCell ⟨w.heap.size + 1, 1, none⟩ (.int .i64 x1.1)).setCell ⟨w.heap.size + 1, 2, none⟩ (.int .i64 x2.1))).cell? ⟨w.heap.size + 1, 1, none⟩ = some (.int .i64 x1.1) := (blk_facts T4N.out).1 1
    have hcc : (((wb.setCell ⟨w.heap.size + 1, 1, none⟩ (.int .i64 x1.1)).setCell ⟨w.heap.size + 1, 2, none⟩ (.int .i64 x2.1))).cell? ⟨w.heap.size + 1, 2, none⟩ = some (.int .i64 x2.1) := (blk_facts T4N.out).1 2
    go_wp2_with fail
    have T4E := Aside0.mk (show ((wb.setCell ⟨w.heap.size + 1, 1, none⟩ (.int .i64 x1.1)).setCell ⟨w.heap.size + 1, 2, none⟩ (.int .i64 x2.1)).heap[w.heap.size + 1]? = some (.cells #[.slice A ws.length c, .int .i64 x1.1, .int .i64 x2.1, .slice none 0 0] 96 (0, 0)) from T4N.out)
    clear T4N t4b t2b q11 q12 q21 q22 hca hcb hcc
    generalize (wb.setCell ⟨w.heap.size + 1, 1, none⟩ (.int .i64 x1.1)).setCell ⟨w.heap.size + 1, 2, none⟩ (.int .i64 x2.1) = w5 at *
    have h48 := f48_any A c ws x1.1 w5 (Kd.R_reads' RRN.out).2.2
    have hX : ∀ W, Below w5.heap.size w5 W → (W.cell? ⟨w.heap.size + 1, 0, none⟩ = some (.slice A ws.length c) ∧ W.cell? ⟨w.heap.size + 1, 1, none⟩ = some (.int .i64 x1.1) ∧ W.cell? ⟨w.heap.size + 1, 2, none⟩ = some (.int .i64 x2.1) ∧ W.cell? ⟨w.heap.size + 1, 3, none⟩ = some (.slice none 0 0)) ∧
        (W.cell? ⟨w.heap.size, 0, none⟩ = some (.slice none 0 0) ∧ W.cell? ⟨w.heap.size, 1, none⟩ = some (.int .i64 0) ∧ W.cell? ⟨w.heap.size, 2, none⟩ = some (.int .i64 0) ∧ W.cell? ⟨w.heap.size, 3, none⟩ = some (.slice none 0 0)) ∧ (∀ j, W.frozen? ⟨w.heap.size, j, none⟩ = false) := by
      intro W hb
      obtain ⟨a1, a2⟩ := blk_facts ((hb.block _ (Array.getElem?_eq_some_iff.1 T4E.out).1).trans T4E.out)
      obtain ⟨b1, b2⟩ := blk_facts ((hb.block _ (Array.getElem?_eq_some_iff.1 T2N.out).1).trans T2N.out)
      exact ⟨⟨a1 0, a1 1, a1 2, a1 3⟩, ⟨b1 0, b1 1, b1 2, b1 3⟩, b2⟩
    have HX := Aside0.mk hX
    clear hX
    cases hrw : Tq.rightWants ws x1.1 with
    | false =>
      rw [hrw] at h48
      have HB := Aside0.mk (HBAD.out (.inl hrw))
      clear hrw
      go_at_call 48
      refine h48.mono ?_
      rintro e w6 ⟨rfl, hb6⟩
      obtain ⟨⟨a0, a1, a2, a3⟩, ⟨b0, b1, b2, b3⟩, bf⟩ := HX.out w6 hb6
      have HM6 := Aside0.mk (MN.out.below hb6)
      clear hb6 h48
      go_wp2
      exact bodyPost_ret (v := .tuple #[.agg #[.slice A ws.length c, .int .i64 x1.1, .int .i64 x2.1, .slice none 0 0], .bool false]) (by simp [results, Tryz.results84, go_sem, b0, b1, b2, b3]) rfl (RdPost.none HB.out (HM6.out.four (Nat.le_refl _) _ _ _ _) _ _ _ _ _ _ _ _)
    | true =>
      rw [hrw] at h48
      by_cases hst : x2.1 < 0 ∨ 5 ≤ x2.1
      · have HB := Aside0.mk (HBAD.out (.inr hst))
        clear hrw
        go_at_call 48
        refine h48.mono ?_
        rintro e w6 ⟨rfl, hb6⟩
        obtain ⟨⟨a0, a1, a2, a3⟩, ⟨b0, b1, b2, b3⟩, bf⟩ := HX.out w6 hb6
        have HM6 := Aside0.mk (MN.out.below hb6)
        clear hb6 h48
        by_cases hs0 : x2.1 < 0
        · clear hst
          go_wp2
          exact bodyPost_ret (v := .tuple #[.agg #[.slice A ws.length c, .int .i64 x1.1, .int .i64 x2.1, .slice none 0 0], .bool false]) (by simp [results, Tryz.results84, go_sem, b0, b1, b2, b3]) rfl (RdPost.none HB.out (HM6.out.four (Nat.le_refl _) _ _ _ _) _ _ _ _ _ _ _ _)
        · have hs5 : 5 ≤ x2.1 := by omega
          clear hst
          go_wp2
          exact bodyPost_ret (v := .tuple #[.agg #[.slice A ws.length c, .int .i64 x1.1, .int .i64 x2.1, .slice none 0 0], .bool false]) (by simp [results, Tryz.results84, go_sem, b0, b1, b2, b3]) rfl (RdPost.none HB.out (HM6.out.four (Nat.le_refl _) _ _ _ _) _ _ _ _ _ _ _ _)
      · have hs0 : ¬ x2.1 < 0 := by omega
        have hs5 : ¬ 5 ≤ x2.1 := by omega
        have HRT := Aside0.mk hrw
        clear hst hrw
        by_cases hs1 : x2.1 = 1
        · have h1b : (x2.1 == 1) = true := by simp [hs1]
          have h1c : (x2.1 != 1) = false := by simp [hs1]
          have HS1 := Aside0.mk hs1
          clear hs1
          go_at_call 48
          refine h48.mono ?_
          rintro e w6 ⟨rfl, hb6⟩
          obtain ⟨⟨a0, a1, a2, a3⟩, ⟨b0, b1, b2, b3⟩, bf⟩ := HX.out w6 hb6
          have HB6 := Aside0.mk hb6
          have RG6 := Aside0.mk (RGN.out.below hb6 RGN.out.lt)
          have M6 := Aside0.mk (MN.out.below hb6)
          have T26 := Aside0.mk ((hb6.block _ (Array.getElem?_eq_some_iff.1 T2N.out).1).trans T2N.out)
          have T46 := Aside0.mk ((hb6.block _ (Array.getElem?_eq_some_iff.1 T4E.out).1).trans T4E.out)
          have RR6 := Aside0.mk (Kd.R_below RRN.out hb6)
          have hsz6 : w.heap.size + 2 ≤ w6.heap.size := by have := hb6.size; have := SN.out; omega
          have hws20 := (Tq.rightWants_bounds HRT.out).2.1
          have htak := fun {tss : List (List Take)} {r2 : Tq.Rd} ht ha => readOrd_takes (r := r) (ws := ws) (r1 := r1) (tss := tss) (r2 := r2) HRW2.out (by rw [HX1.out]; exact HRT.out) (by rw [HX1.out, HX2.out]; exact HS1.out) ht ha
          have hemp := fun {tss : List (List Take)} {r2 : Tq.Rd} ht ha => readOrd_empty (r := r) (ws := ws) (r1 := r1) (tss := tss) (r2 := r2) HRW2.out (by rw [HX1.out]; exact HRT.out) (by rw [HX1.out, HX2.out]; exact HS1.out) ht ha
          have hnon := fun ht => readOrd_none (r := r) (ws := ws) (r1 := r1) HRW2.out (by rw [HX1.out]; exact HRT.out) (by rw [HX1.out, HX2.out]; exact HS1.out) ht
          rw [HX1.out, HX2.out] at hnon
          have HNON := Aside0.mk hnon
          have HTAK : ∀ (tss : List (List Take)) (r2 : Tq.Rd), Tq.readAll ws x2.2 = (some tss, r2) → tss.any (fun x => !x.isEmpty) = true → Tq.readOrd r = (some ⟨ws, x1.1, x2.1, tss⟩, r2) := by
            intro tss r2 ht ha
            have := htak (tss := tss) (r2 := r2) (by rw [HX1.out, HX2.out]; exact ht) ha
            rw [HX1.out, HX2.out] at this; exact this
          have HEMP : ∀ (tss : List (List Take)) (r2 : Tq.Rd), Tq.readAll ws x2.2 = (some tss, r2) → tss.any (fun x => !x.isEmpty) = false → (Tq.readOrd r).1 = none := by
            intro tss r2 ht ha
            exact hemp (tss := tss) (r2 := r2) (by rw [HX1.out, HX2.out]; exact ht) ha
          have HTAKE := Aside0.mk HTAK
          have HEMPT := Aside0.mk HEMP
          clear hb6 h48 htak hemp hnon HTAK HEMP HX
          go_wp2_with fail
          have hX0 : ∀ W, Mut (fun k => k = g ∨ k = w.heap.size + 1) w6 W → Mut (fun k => k = g) w W := fun W hm => M6.out.trans hm (fun i hi => hi.elim .inl (fun h => .inr (by omega)))
          have HM0 := Aside0.mk hX0
          have hST : ∀ W, Mut (fun k => k = g ∨ k = w.heap.size + 1) w6 W → Std W := fun W hm => HSTD.out W (hX0 W hm)
          have HST := Aside0.mk hST
          have hX2 : ∀ W, Mut (fun k => k = g ∨ k = w.heap.size + 1) w6 W → (W.cell? ⟨w.heap.size, 0, none⟩ = some (.slice none 0 0) ∧ W.cell? ⟨w.heap.size, 1, none⟩ = some (.int .i64 0) ∧ W.cell? ⟨w.heap.size, 2, none⟩ = some (.int .i64 0) ∧ W.cell? ⟨w.heap.size, 3, none⟩ = some (.slice none 0 0)) ∧ (∀ j, W.frozen? ⟨w.heap.size, j, none⟩ = false) := by
            intro W hm
            obtain ⟨b1, b2⟩ := blk_facts (hm.blk T26.out (show ¬ (w.heap.size = g ∨ w.heap.size = w.heap.size + 1) by omega))
            exact ⟨⟨b1 0, b1 1, b1 2, b1 3⟩, b2⟩
          have HX2C := Aside0.mk hX2
          have hRW : ∀ W, Mut (fun k => k = g ∨ k = w.heap.size + 1) w6 W → kW.R 100 W (w.heap.size + 2) (fun i => w.heap.size + 2 ≤ i) (.slice A ws.length c) ws := fun W hm => Kd.R_step RR6.out (fun k hk hlt => hm.block k hlt (by omega))
          have HRWW := Aside0.mk hRW
          clear hX0 hST hX2 hRW b0 b1 b2 b3 a0 a1 a2 a3 bf
          go_loopw [6, 76] (fun s6 s76 wr => ∃ (i : Nat) (tss : List (List Take)) (r' : Tq.Rd) (A3 : Option Addr) (c3 : Nat), i ≤ ws.length ∧ s76 = .int .i64 i ∧ s6 = .bool (tss.any (fun x => !x.isEmpty)) ∧ Aside0 (RA ws x2.2 i r' tss) ∧ Aside0 (RdAt wr g r') ∧ Aside0 (Mut (fun k => k = g ∨ k = w.heap.size + 1) w6 wr) ∧
              Aside0 (wr.heap[w.heap.size + 1]? = some (.cells #[.slice A ws.length c, .int .i64 x1.1, .int .i64 x2.1, .slice A3 tss.length c3] 96 (0, 0))) ∧ Aside0 (Kd.S kTs 53 wr w6.heap.size (fun k => w6.heap.size ≤ k) (.slice A3 tss.length c3) tss)) (fun _ s76 _ => ws.length - (intOf s76).toNat)
          case atStart => exact ⟨0, [], _, none, 0, Nat.zero_le _, rfl, rfl, ⟨RA.start _ _⟩, RG6, ⟨Mut.refl _ _⟩, T46, ⟨Kd.S_nil _ _ _ _ _⟩⟩
          case round =>
            obtain ⟨i, tss, r', A3, c3, hi, rfl, rfl, RAI, RGI, MI, T4I, SI⟩ := hrel
            have HTL := Aside0.mk RAI.out.len
            have htl1 : tss.length ≤ 20 := by have := RAI.out.len; omega
            have hrl : r'.rest.length ≤ 20000001000 := by have := RAI.out.rest; have := HL2.out; omega
            obtain ⟨a1, a2⟩ := blk_facts T4I.out
            have c0 : wr.cell? ⟨w.heap.size + 1, 0, none⟩ = some (.slice A ws.length c) := a1 0
            have c1 : wr.cell? ⟨w.heap.size + 1, 1, none⟩ = some (.int .i64 x1.1) := a1 1
            have c2 : wr.cell? ⟨w.heap.size + 1, 2, none⟩ = some (.int .i64 x2.1) := a1 2
            have c3' : wr.cell? ⟨w.heap.size + 1, 3, none⟩ = some (.slice A3 tss.length c3) := a1 3
            by_cases hlt : i < ws.length
            · have hltz : (i : Int) < (ws.length : Int) := by omega
              have hget : ws[i]? = some ws[i] := List.getElem?_eq_getElem hlt
              generalize ws[i] = x at hget
              obtain ⟨ad, rfl, p0, p1, p2⟩ := at_W (Kd.R_reads' (HRWW.out wr MI.out)).2.2 i x hget
              obtain ⟨wo, hwo⟩ : ∃ wo, wo = wr := ⟨_, rfl⟩
              subst hwo
              have HGET := Aside0.mk hget
              have hMA : Mut (fun k => k = g ∨ k = w.heap.size + 1) w6 (wo.alloc (.cells #[.int .i64 x.kind, .int .i64 x.count, .int .i64 x.til] 100)) := MI.out.alloc _
              have hRA : RdAt (wo.alloc (.cells #[.int .i64 x.kind, .int .i64 x.count, .int .i64 x.til] 100)) g r' := RGI.out.below (below_alloc (Below.refl _ _) _) RGI.out.lt
              have h82 := f82_any g r' _ (HST.out _ hMA) hRA (by omega)
              have HN2 := Aside0.mk (rNum_range r')
              have HNR2 := Aside0.mk (rNum_rest r')
              have HMA := Aside0.mk hMA
              have HT8 := Aside0.mk (heap_alloc_new wo (.cells #[.int .i64 x.kind, .int .i64 x.count, .int .i64 x.til] 100))
              have HT4A := Aside0.mk ((Below.heap_alloc wo (.cells #[.int .i64 x.kind, .int .i64 x.count, .int .i64 x.til] 100) _ (Array.getElem?_eq_some_iff.1 T4I.out).1).trans T4I.out)
              have HSA := Aside0.mk (Kd.S_below SI.out (below_alloc (Below.refl _ _) (.cells #[.int .i64 x.kind, .int .i64 x.count, .int .i64 x.til] 100)))
              have HSZA := Aside0.mk (show w6.heap.size ≤ wo.heap.size from MI.out.size)
              have hgo := RGI.out.lt
              clear hget hMA hRA a1 a2
              go_wp2_with (go_at_call 82; refine h82.mono ?_; rintro e w8 ⟨rfl, hr8, hm8⟩; refine Hid.out ?_)
              refine Lib.hid ?_
              have R8 := Aside0.mk hr8
              have M8 := Aside0.mk (HMA.out.trans hm8 (fun i hi => .inl (.inl hi)))
              have T88 := Aside0.mk (hm8.blk HT8.out (show ¬ wo.heap.size = g by omega))
              have T48 := Aside0.mk (hm8.blk HT4A.out (show ¬ w.heap.size + 1 = g by omega))
              have S8 := Aside0.mk (Kd.S_step HSA.out (fun k hk hlt => hm8.block k hlt (by omega)))
              have hsz8 : wo.heap.size < w8.heap.size := by have := hm8.size; simp at this; omega
              clear hr8 hm8 h82 c0 c1 c2 c3' p0 p1 p2
              obtain ⟨K3, hK3⟩ : ∃ K3 : Nat, (Tq.rNum r').1 = (K3 : Int) := ⟨(Tq.rNum r').1.toNat, by have := HN2.out.1; omega⟩
              have HK3 := Aside0.mk hK3
              have hKm3 : (K3 : Int) ≤ 9223372036854775807 := by have := HN2.out.2; omega
              rw [hK3]
              clear hK3
              have HX8 : ∀ W, Mut (fun k => k = g) w8 W → (W.cell? ⟨w.heap.size + 1, 0, none⟩ = some (.slice (some ad) ws.length c) ∧ W.cell? ⟨w.heap.size + 1, 1, none⟩ = some (.int .i64 x1.1) ∧ W.cell? ⟨w.heap.size + 1, 2, none⟩ = some (.int .i64 x2.1) ∧ W.cell? ⟨w.heap.size + 1, 3, none⟩ = some (.slice A3 tss.length c3) ∧ W.frozen? ⟨w.heap.size + 1, 3, none⟩ = false) ∧
                  ((W.cell? ⟨w.heap.size, 0, none⟩ = some (.slice none 0 0) ∧ W.cell? ⟨w.heap.size, 1, none⟩ = some (.int .i64 0) ∧ W.cell? ⟨w.heap.size, 2, none⟩ = some (.int .i64 0) ∧ W.cell? ⟨w.heap.size, 3, none⟩ = some (.slice none 0 0)) ∧ (∀ j, W.frozen? ⟨w.heap.size, j, none⟩ = false)) ∧
                  (W.cell? ⟨wo.heap.size, 1, none⟩ = some (.int .i64 x.count)) ∧ Mut (fun k => k = g ∨ k = w.heap.size + 1) w6 W := by
                intro W hm
                have hmm := M8.out.trans hm (fun i hi => .inl (.inl hi))
                obtain ⟨a1, a2⟩ := blk_facts (hm.blk T48.out (show ¬ w.heap.size + 1 = g by omega))
                obtain ⟨d1, d2⟩ := blk_facts (hm.blk T88.out (show ¬ wo.heap.size = g by omega))
                exact ⟨⟨a1 0, a1 1, a1 2, a1 3, a2 3⟩, HX2C.out W hmm, d1 1, hmm⟩
              have HXX := Aside0.mk HX8
              clear HX8
              go_upto_block 4 with fail
              go_cut [9, 10] (fun s9 s10 wx => ∃ (r2 : Tq.Rd) (l : List Take) (A9 : Option Addr) (c9 : Nat), s9 = .slice A9 l.length c9 ∧ s10 = .int .i64 (Tq.units l) ∧ Aside0 (RdAt wx g r2) ∧ Aside0 (Mut (fun k => k = g) w8 wx) ∧ Aside0 (kT.R 66 wx w8.heap.size (fun k => w8.heap.size ≤ k) (.slice A9 l.length c9) l) ∧
                  Aside0 (Tq.readTakes K3 (Tq.rNum r').2 = (some l, r2)) ∧ Aside0 (l.length + r2.rest.length ≤ (Tq.rNum r').2.rest.length) ∧ Aside0 (0 ≤ Tq.units l ∧ Tq.units l ≤ l.length * 20000))
              case first =>
                go_wp2_with fail
                go_loopw [9, 10, 11] (fun s9 s10 s11 wr => ∃ (j : Nat) (r2 : Tq.Rd) (l : List Take) (A9 : Option Addr) (c9 : Nat), j ≤ K3 ∧ s9 = .slice A9 l.length c9 ∧ s10 = .int .i64 (Tq.units l) ∧ s11 = .int .i64 j ∧ Aside0 (RdAt wr g r2) ∧ Aside0 (Mut (fun k => k = g) w8 wr) ∧ Aside0 (kT.R 66 wr w8.heap.size (fun k => w8.heap.size ≤ k) (.slice A9 l.length c9) l) ∧
                    Aside0 (RT K3 (Tq.rNum r').2 j r2 l)) (fun _ _ s11 _ => (intOf s11).toNat)
                case atStart => exact ⟨K3, _, [], none, 0, Nat.le_refl _, rfl, rfl, rfl, R8, ⟨Mut.refl _ _⟩, ⟨Kd.R_nil _ _ _ _ _⟩, ⟨RT.start _ _⟩⟩
                case round =>
                  obtain ⟨j, r2, l, A9, c9, hj, rfl, rfl, rfl, RJ, MJ, LJ, TJ⟩ := hrel
                  have hl2 : l.length + r2.rest.length ≤ 20000001000 := by have := TJ.out.len; have := HNR2.out; omega
                  have h83 := f83_eq g r2 wr RJ.out (by omega)
                  by_cases hj0 : j = 0
                  · subst hj0
                    have hst := Aside0.mk (TJ.out.stop (.inl rfl))
                    have hln := Aside0.mk TJ.out.len
                    have hun := Aside0.mk (And.intro TJ.out.u0 TJ.out.u1)
                    clear TJ h83
                    go_wp2_with fail
                    go_meet
                    case rel => exact ⟨r2, l, A9, c9, rfl, rfl, RJ, MJ, LJ, hst, hln, hun⟩
                  · by_cases hre : r2.rest = []
                    · have hst := Aside0.mk (TJ.out.stop (.inr hre))
                      have hln := Aside0.mk TJ.out.len
                      have hun := Aside0.mk (And.intro TJ.out.u0 TJ.out.u1)
                      have hjz : 0 < j := by omega
                      rw [hre] at h83
                      clear TJ hre hj0
                      go_wp2_with (go_at_call 83; refine h83.mono ?_; rintro e w' ⟨rfl, rfl⟩)
                      go_meet
                      case rel => exact ⟨r2, l, A9, c9, rfl, rfl, RJ, MJ, LJ, hst, hln, hun⟩
                    · obtain ⟨j, rfl⟩ : ∃ m, j = m + 1 := ⟨j - 1, by omega⟩
                      have hjz : 0 < j + 1 := by omega
                      have hlz : 0 < r2.rest.length := List.length_pos_iff.2 hre
                      have HRE := Aside0.mk hre
                      obtain ⟨wi, hwi⟩ : ∃ wi, wi = wr := ⟨_, rfl⟩
                      subst hwi
                      have hcall : ∀ W r1, Mut (fun k => k = g) wi W → RdAt W g r1 → r1.rest.length ≤ 20000001000 → Calls Tryz.prog 114 #[.pointer (some ⟨g, 0, none⟩)] W fun e w' => e = .returned (.int .i64 (Tq.rInt r1).1) ∧ Aside0 (RdAt w' g (Tq.rInt r1).2) ∧ Aside0 (Mut (fun k => k = g) wi w') := by
                        intro W r1 hm hr hl
                        refine (f114_any g r1 W (HST.out W ((M8.out.trans MJ.out (fun i hi => .inl (.inl hi))).trans hm (fun i hi => .inl (.inl hi)))) hr (by omega)).mono ?_
                        rintro e w' ⟨rfl, h1, h2⟩
                        exact ⟨rfl, ⟨h1⟩, ⟨hm.trans h2 (fun i hi => .inl hi)⟩⟩
                      have hl1 := rInt_rest r2
                      have hcA := hcall wi r2 (Mut.refl _ _) RJ.out (by omega)
                      have hcB := fun W (hm : Aside0 (Mut (fun k => k = g) wi W)) (hr : Aside0 (RdAt W g (Tq.rInt r2).2)) => hcall W _ hm.out hr.out (by omega)
                      have HBADT := Aside0.mk (fun ha => TJ.out.bad HRE.out ha)
                      have HSTEPT := Aside0.mk (fun ha => TJ.out.step HRE.out ha)
                      have hu0 := TJ.out.u0
                      have hu1 := TJ.out.u1
                      have HRD1 := Aside0.mk (rInt_range r2)
                      have HRD2 := Aside0.mk (rInt_range (Tq.rInt r2).2)
                      clear hcall hre hl1 TJ
                      generalize hy1 : Tq.rInt r2 = y1 at *
                      generalize hy2 : Tq.rInt y1.2 = y2 at *
                      clear hy1 hy2
                      go_wp2_with (first | (go_at_call 83; refine h83.mono ?_; rintro e w' ⟨rfl, rfl⟩) | (go_at_call 114; ((with_reducible refine hcA.mono ?_); rintro e wa ⟨rfl, ra, ma⟩)) | (go_at_call 114; ((with_reducible refine (hcB wa ma ra).mono ?_); rintro e wb ⟨rfl, rb, mb⟩; refine Hid.out ?_)))
                      refine Lib.hid ?_
                      clear hlz hjz h83 hcA hcB
                      have hbT := heap_alloc_new wb (.cells #[.int .i64 y1.1, .int .i64 y2.1] 66)
                      obtain ⟨⟨e0, e1, e2, e3, e4⟩, ⟨⟨f0, f1, f2, f3⟩, ff⟩, g1, gM⟩ := HXX.out (wb.alloc (.cells #[.int .i64 y1.1, .int .i64 y2.1] 66)) (((MJ.out.trans mb.out (fun i hi => .inl hi)).alloc _))
                      have GM := Aside0.mk gM
                      have hwb8 : w8.heap.size ≤ wb.heap.size := (MJ.out.trans mb.out (fun i hi => .inl hi)).size
                      clear gM hbT
                      by_cases hbad : y1.1 < 0 ∨ 3000 ≤ y1.1 ∨ y2.1 < 1 ∨ 20000 < y2.1
                      · have hnone := Aside0.mk (HNON.out (RAI.out.none1 HGET.out (by rw [HK3.out, Int.toNat_natCast]; exact HBADT.out hbad)))
                        have hcases : y1.1 < 0 ∨ (0 ≤ y1.1 ∧ 3000 ≤ y1.1) ∨ (0 ≤ y1.1 ∧ y1.1 < 3000 ∧ y2.1 < 1) ∨ (0 ≤ y1.1 ∧ y1.1 < 3000 ∧ 1 ≤ y2.1 ∧ 20000 < y2.1) := by omega
                        clear hbad
                        rcases hcases with h1 | ⟨h1, h2⟩ | ⟨h1, h2, h3⟩ | ⟨h1, h2, h3, h4⟩
                        all_goals (
                          go_wp2
                          try (any_goals (exfalso; omega))
                          refine bodyPost_ret (v := .tuple #[.agg #[.slice (some ad) ws.length c, .int .i64 x1.1, .int .i64 x2.1, .slice A3 tss.length c3], .bool false]) ?_ rfl ?_
                          · simp [results, Tryz.results84, go_sem, f0, f1, f2, f3]
                          · exact RdPost.none hnone.out ((HM0.out _ GM.out).four (Nat.le_refl _) _ _ _ _) _ _ _ _ _ _ _ _)
                      · have hs := Aside0.mk (HSTEPT.out hbad)
                        have h1 : 0 ≤ y1.1 := by omega
                        have h2 : y1.1 < 3000 := by omega
                        have h3 : 1 ≤ y2.1 := by omega
                        have h4 : y2.1 ≤ 20000 := by omega
                        clear hbad f0 f1 f2 f3 ff e0 e1 e2 e3 e4 g1
                        have hq1 : (wb.alloc (.cells #[.int .i64 y1.1, .int .i64 y2.1] 66)).cell? ⟨wb.heap.size, 0, none⟩ = some (.int .i64 y1.1) := (blk_facts (heap_alloc_new wb (.cells #[.int .i64 y1.1, .int .i64 y2.1] 66))).1 0
                        have hq2 : (wb.alloc (.cells #[.int .i64 y1.1, .int .i64 y2.1] 66)).cell? ⟨wb.heap.size, 1, none⟩ = some (.int .i64 y2.1) := (blk_facts (heap_alloc_new wb (.cells #[.int .i64 y1.1, .int .i64 y2.1] 66))).1 1
                        have hmwb : Mut (fun k => k = g) w8 (wb.alloc (.cells #[.int .i64 y1.1, .int .i64 y2.1] 66)) := (MJ.out.trans mb.out (fun i hi => .inl hi)).alloc _
                        have hsw : w8.heap.size ≤ (wb.alloc (.cells #[.int .i64 y1.1, .int .i64 y2.1] 66)).heap.size := hmwb.size
                        have hLB := Kd.R_below (Kd.R_step LJ.out (fun k hk hlt => mb.out.block k hlt (by omega))) (below_alloc (Below.refl _ _) (.cells #[.int .i64 y1.1, .int .i64 y2.1] 66))
                        have hl16 : (l.length + 1) * 16 ≤ 140737488355328 := by omega
                        have hrb : RdAt (wb.alloc (.cells #[.int .i64 y1.1, .int .i64 y2.1] 66)) g y2.2 := rb.out.below (below_alloc (Below.refl _ _) _) rb.out.lt
                        have hun : Tq.units (l ++ [(⟨y1.1, y2.1⟩ : Take)]) = Tq.units l + y2.1 := by rw [units_append]; simp [Tq.units]
                        have HUN := Aside0.mk hun
                        have HMWB := Aside0.mk hmwb
                        have HRB := Aside0.mk hrb
                        have HLB := Aside0.mk hLB
                        have HSW := Aside0.mk hsw
                        clear hun hmwb hrb hLB hsw GM
                        go_upto_if 113 with fail
                        try (any_goals (exfalso; omega))
                        generalize wb.alloc (.cells #[.int .i64 y1.1, .int .i64 y2.1] 66) = wq at *
                        go_wp2_with (at_builtin; refine Kd.R_append kT w8.heap.size rfl _ _ 53 66 (.agg #[.int .i64 0, .int .i64 0]) 16 rfl Tryz.underlying53 P.info66 rfl (by decide) (by decide) (.slice A9 l.length c9) l ⟨y1.1, y2.1⟩ [.int .i64 y1.1, .int .i64 y2.1] (fun k => w8.heap.size ≤ k) (fun _ => False) rfl rfl (kT_mkM _ _ _ ⟨y1.1, y2.1⟩) (fun _ h => h.elim) (fun q hq => Nat.le_trans HSW.out hq) HLB.out (Below.refl _ _) HSW.out hl16 ?_; intro v7 w7 hR7 hB7 hg7 hat7; obtain ⟨A7, c7, rfl⟩ := Kd.R_slice hR7)
                        have hrow : ∀ i, (Value.slice A9 l.length c9).ownBlock = some i → w8.heap.size ≤ i := fun i hi => LJ.out.1 i hi
                        have M7 := Aside0.mk (HMWB.out.grown hg7 (fun i hi => .inr (hrow i hi)))
                        have R7 := Aside0.mk (show RdAt w7 g y2.2 from (hg7.block g HRB.out.lt (fun he => by have := hrow _ he.symm; omega)).trans HRB.out)
                        have L7 := Aside0.mk hR7
                        clear hR7 hB7 hg7 hat7 hrow
                        go_roundw
                        case rel => exact ⟨j, y2.2, l ++ [⟨y1.1, y2.1⟩], A7, c7, by omega, by simp, by rw [HUN.out], by go_num, R7, M7, L7, hs⟩
                        case measure => simp [intOf]
              case rest =>
                obtain ⟨r2, l, A9, c9, rfl, rfl, RL, ML, LL, TL, LNL, UNL⟩ := hcut
                obtain ⟨⟨e0, e1, e2, e3, e4⟩, ⟨⟨f0, f1, f2, f3⟩, ff⟩, g1, gM⟩ := HXX.out wc ML.out
                have GM := Aside0.mk gM
                have h68 : w6.heap.size ≤ w8.heap.size := by have := HSZA.out; omega
                have hu0 := UNL.out.1
                have hu1 := UNL.out.2
                have hll : l.length ≤ 20000001000 := by have := LNL.out; have := HNR2.out; omega
                have HRT2 := Aside0.mk (show Tq.readTakes (Tq.rNum r').1.toNat (Tq.rNum r').2 = (some l, r2) by rw [HK3.out, Int.toNat_natCast]; exact TL.out)
                clear gM
                by_cases hu : x.count < Tq.units l
                · have hnone := Aside0.mk (HNON.out (RAI.out.none2 HGET.out HRT2.out hu))
                  go_wp2
                  try (any_goals (exfalso; omega))
                  refine bodyPost_ret (v := .tuple #[.agg #[.slice (some ad) ws.length c, .int .i64 x1.1, .int .i64 x2.1, .slice A3 tss.length c3], .bool false]) ?_ rfl ?_
                  · simp [results, Tryz.results84, go_sem, f0, f1, f2, f3]
                  · exact RdPost.none hnone.out ((HM0.out _ GM.out).four (Nat.le_refl _) _ _ _ _) _ _ _ _ _ _ _ _
                · have hs := Aside0.mk (RAI.out.step HGET.out HRT2.out hu (by have := LNL.out; have := HNR2.out; omega))
                  have hrowt : ∀ k, (Value.slice A3 tss.length c3).ownBlock = some k → w6.heap.size ≤ k ∧ k < w8.heap.size := fun k hk => ⟨(Kd.S_R S8.out).1 k hk, Kd.S_lt S8.out k hk⟩
                  have hSO := Aside0.mk (Kd.S_step (Kd.S_mono (Kd.S_bound S8.out) (ok' := fun i => w6.heap.size ≤ i ∧ ¬ w8.heap.size ≤ i) (fun i hi => ⟨hi.1, by have := hi.2.2.1; omega⟩)) (fun k hk hlt => ML.out.block k hlt (by omega)))
                  have hTT := Aside0.mk (Kd.R_lower LL.out (show w6.heap.size ≤ w8.heap.size by omega))
                  have hokp : ∀ i, w8.heap.size ≤ i → w6.heap.size ≤ i ∧ some i ≠ (Value.slice A3 tss.length c3).ownBlock := fun i hi => ⟨by omega, fun he => by have := hrowt i he.symm; omega⟩
                  have HOKP := Aside0.mk hokp
                  have hsw := Aside0.mk (show w6.heap.size ≤ wc.heap.size by have := ML.out.size; omega)
                  have hol24 : (tss.length + 1) * 24 ≤ 140737488355328 := by omega
                  have HROW := Aside0.mk hrowt
                  have hgr3 : some (w.heap.size + 1) ≠ (Value.slice A3 tss.length c3).ownBlock := fun he => by have := hrowt _ he.symm; omega
                  have hgrg : some g ≠ (Value.slice A3 tss.length c3).ownBlock := fun he => by have := hrowt _ he.symm; omega
                  have T4C := Aside0.mk (ML.out.blk T48.out (show ¬ w.heap.size + 1 = g by omega))
                  have HGR3 := Aside0.mk hgr3
                  have HGRG := Aside0.mk hgrg
                  have ANY := Aside0.mk (any_snoc tss l)
                  clear hrowt hokp hgrg f0 f1 f2 f3 ff
                  obtain ⟨bb, hbb⟩ : ∃ bb, decide (0 < l.length) = bb := ⟨_, rfl⟩
                  have HL0 := Aside0.mk hbb
                  all_goals (
                    cases hany : tss.any (fun x => !x.isEmpty) with
                    | true =>
                      have HANY := Aside0.mk hany
                      clear hany
                      clear hbb
                      go_wp2_with (at_builtin; refine Kd.S_append kTs w6.heap.size rfl _ _ 41 53 (.slice none 0 0) 24 rfl Tryz.underlying41 P.info53 rfl (by decide) (by decide) (.slice A3 tss.length c3) tss l [.slice A9 l.length c9] (fun i => w6.heap.size ≤ i) (fun i => w8.heap.size ≤ i) rfl rfl ⟨_, rfl, hTT.out⟩ HOKP.out (fun i hi => Nat.le_trans hsw.out hi) hSO.out (Below.refl _ wc) hsw.out hol24 ?_; intro v8 wz hS8 hB8 hg8 hat8; obtain ⟨A8, c8, rfl⟩ := Kd.S_slice hS8; obtain ⟨k3, kf3⟩ := keepG hg8 e3 e4 hgr3)
                      refine ⟨⟨i + 1, tss ++ [l], r2, A8, c8, by omega, by go_num, by rw [ANY.out, HANY.out]; simp [HL0.out], hs, ⟨?_⟩, ⟨?_⟩, ⟨?_⟩, ⟨?_⟩⟩, by simp [intOf]; omega⟩
                      · exact (Below.heap_setCell wz ⟨w.heap.size + 1, 3, none⟩ _ g (show g ≠ w.heap.size + 1 by omega)).trans ((hg8.block g RL.out.lt HGRG.out).trans RL.out)
                      · exact ((GM.out.grown hg8 (fun i hi => .inr (HROW.out i hi).1)).setCell (p := ⟨w.heap.size + 1, 3, none⟩) (.inl (.inr rfl)) _)
                      · have := Lib.heap_setCell_same (i := 3) ((hg8.block _ (Array.getElem?_eq_some_iff.1 T4C.out).1 HGR3.out).trans T4C.out) (.slice A8 (tss.length + 1) c8)
                        simpa using this
                      · have := Kd.S_far (p := ⟨w.heap.size + 1, 3, none⟩) hS8 (fun k hk => (show k ≠ w.heap.size + 1 by omega)) (.slice A8 (tss.length + 1) c8)
                        simpa using this
                    | false =>
                      have HANY := Aside0.mk hany
                      clear hany
                      go_wp2_with (at_builtin; refine Kd.S_append kTs w6.heap.size rfl _ _ 41 53 (.slice none 0 0) 24 rfl Tryz.underlying41 P.info53 rfl (by decide) (by decide) (.slice A3 tss.length c3) tss l [.slice A9 l.length c9] (fun i => w6.heap.size ≤ i) (fun i => w8.heap.size ≤ i) rfl rfl ⟨_, rfl, hTT.out⟩ HOKP.out (fun i hi => Nat.le_trans hsw.out hi) hSO.out (Below.refl _ wc) hsw.out hol24 ?_; intro v8 wz hS8 hB8 hg8 hat8; obtain ⟨A8, c8, rfl⟩ := Kd.S_slice hS8; obtain ⟨k3, kf3⟩ := keepG hg8 e3 e4 hgr3)
                      refine ⟨⟨i + 1, tss ++ [l], r2, A8, c8, by omega, by go_num, by rw [ANY.out, HANY.out]; simp [HL0.out], hs, ⟨?_⟩, ⟨?_⟩, ⟨?_⟩, ⟨?_⟩⟩, by simp [intOf]; omega⟩
                      · exact (Below.heap_setCell wz ⟨w.heap.size + 1, 3, none⟩ _ g (show g ≠ w.heap.size + 1 by omega)).trans ((hg8.block g RL.out.lt HGRG.out).trans RL.out)
                      · exact ((GM.out.grown hg8 (fun i hi => .inr (HROW.out i hi).1)).setCell (p := ⟨w.heap.size + 1, 3, none⟩) (.inl (.inr rfl)) _)
                      · have := Lib.heap_setCell_same (i := 3) ((hg8.block _ (Array.getElem?_eq_some_iff.1 T4C.out).1 HGR3.out).trans T4C.out) (.slice A8 (tss.length + 1) c8)
                        simpa using this
                      · have := Kd.S_far (p := ⟨w.heap.size + 1, 3, none⟩) hS8 (fun k hk => (show k ≠ w.heap.size + 1 by omega)) (.slice A8 (tss.length + 1) c8)
                        simpa using this
                  )
            · have hltz : ¬ (i : Int) < (ws.length : Int) := by omega
              have E : i = ws.length := by omega
              subst E
              have HRA := RAI.out.stop
              obtain ⟨⟨f0, f1, f2, f3⟩, ff⟩ := HX2C.out wr MI.out
              have HM9 := Aside0.mk (HM0.out wr MI.out)
              cases hany : tss.any (fun x => !x.isEmpty) with
              | true =>
                have HP := Aside0.mk (HTAKE.out tss r' HRA hany)
                have HW9 := Aside0.mk (HRWW.out wr MI.out)
                clear hany HRA a1 a2
                go_wp2
                refine bodyPost_ret (v := .tuple #[.agg #[.slice A ws.length c, .int .i64 x1.1, .int .i64 x2.1, .slice A3 tss.length c3], .bool true]) ?_ rfl ?_
                · simp [results, Tryz.results84, go_sem, f0, f1, f2, f3]
                · have hneq := fun k (hk : k ≠ w.heap.size) => heap_four wr w.heap.size (.slice A ws.length c) (.int .i64 x1.1) (.int .i64 x2.1) (.slice A3 tss.length c3) k hk
                  refine RdPost.some HP.out (HM9.out.four (Nat.le_refl _) _ _ _ _) ?_ ?_
                  · show _ = _
                    rw [hneq g (by omega)]
                    exact RGI.out
                  · refine kO_mkM ⟨ws, x1.1, x2.1, tss⟩ ?_ ?_
                    · exact Kd.R_lower (base := w.heap.size + 2) (Kd.R_mono (ok := fun i => w.heap.size + 2 ≤ i) (Kd.R_step HW9.out (fun k hk _ => hneq k (by omega))) (fun k hk => by omega)) (by omega)
                    · exact Kd.S_lower (base := w6.heap.size) (Kd.S_mono (ok := fun i => w6.heap.size ≤ i) (Kd.S_step SI.out (fun k hk _ => hneq k (by omega))) (fun k hk => by omega)) (by omega)
              | false =>
                have HP := Aside0.mk (HEMPT.out tss r' HRA hany)
                clear hany HRA a1 a2
                go_wp2
                refine bodyPost_ret (v := .tuple #[.agg #[.slice A ws.length c, .int .i64 x1.1, .int .i64 x2.1, .slice A3 tss.length c3], .bool false]) ?_ rfl ?_
                · simp [results, Tryz.results84, go_sem, f0, f1, f2, f3]
                · exact RdPost.none HP.out (HM9.out.four (Nat.le_refl _) _ _ _ _) _ _ _ _ _ _ _ _
        · have h1b : (x2.1 == 1) = false := by simp [hs1]
          have hs1' : x2.1 < 1 ∨ 1 < x2.1 := by omega
          have HP := Aside0.mk (HPLA.out HRT.out (by omega) (by omega) hs1)
          clear hs1
          go_at_call 48
          refine h48.mono ?_
          rintro e w6 ⟨rfl, hb6⟩
          obtain ⟨⟨a0, a1, a2, a3⟩, ⟨b0, b1, b2, b3⟩, bf⟩ := HX.out w6 hb6
          have HB6 := Aside0.mk hb6
          clear hb6 h48
          go_wp2_with fail
          try (any_goals (exfalso; omega))
          refine bodyPost_ret (v := .tuple #[.agg #[.slice A ws.length c, .int .i64 x1.1, .int .i64 x2.1, .slice none 0 0], .bool true]) ?_ rfl ?_
          · simp [results, Tryz.results84, go_sem, b0, b1, b2, b3]
          · have hneq : ∀ k, k ≠ w.heap.size → ((((w6.setCell ⟨w.heap.size, 0, none⟩ (.slice A ws.length c)).setCell ⟨w.heap.size, 1, none⟩ (.int .i64 x1.1)).setCell ⟨w.heap.size, 2, none⟩ (.int .i64 x2.1)).setCell ⟨w.heap.size, 3, none⟩ (.slice none 0 0)).heap[k]? = w6.heap[k]? := fun k hk => heap_four w6 _ _ _ _ _ k hk
            refine RdPost.some HP.out ((MN.out.below HB6.out).four (Nat.le_refl _) _ _ _ _) ?_ ?_
            · show _ = _
              rw [hneq g (by omega), HB6.out.block g RGN.out.lt]
              exact RGN.out
            · refine kO_mkM ⟨ws, x1.1, x2.1, []⟩ ?_ S_nil_any
              refine Kd.R_lower (base := w.heap.size + 2) (Kd.R_mono (ok := fun i => w.heap.size + 2 ≤ i) (Kd.R_step (Kd.R_below RRN.out HB6.out) (fun k hk _ => hneq k (by omega))) (fun k hk => by omega)) (by omega)
end Go.Proofs.YtcliaokoganbaaaGreatDoor
set_option linter.unusedVariables false
set_option linter.unusedSimpArgs false
namespace Go.Proofs.YtcliaokoganbaaaGreatDoor
open Go Go.RowKit Go.Shelf Go.Proofs.YtcliaokoganbaaaGreatDoorW.PrintWords Go.Proofs.YtcliaokoganbaaaGreatDoorW.PrintLast Go.Proofs.YtcliaokoganbaaaGreatDoorW.PrintMore
open Tq (Lot Box Want Take Ord Op BookInv OrdInv)
/-! ### What is read is right (no program in sight) -/
theorem readWants_good : ∀ (k : Nat) (r : Tq.Rd), (∀ w ∈ (Tq.readWants k r).1, w.kind ≤ 9223372036854775807) ∧ (Tq.readWants k r).2.rest.length ≤ r.rest.length
  | 0, r => ⟨fun w hw => by simp [Tq.readWants] at hw, Nat.le_refl _⟩
  | k + 1, r => by
    simp only [Tq.readWants]
    split
    · exact ⟨fun w hw => by simp at hw, Nat.le_refl _⟩
    · obtain ⟨h1, h2⟩ := readWants_good k (Tq.rInt (Tq.rInt (Tq.rInt r).2).2).2
      have a1 := rInt_rest r
      have a2 := rInt_rest (Tq.rInt r).2
      have a3 := rInt_rest (Tq.rInt (Tq.rInt r).2).2
      refine ⟨fun w hw => ?_, by simp only; omega⟩
      rcases List.mem_cons.1 hw with rfl | hw
      · exact (rInt_range r).2
      · exact h1 w hw
theorem readTakes_good : ∀ (k : Nat) (r : Tq.Rd), (∀ l, (Tq.readTakes k r).1 = some l → ∀ t ∈ l, 0 ≤ t.box ∧ t.box < 3000 ∧ 1 ≤ t.n ∧ t.n ≤ 20000) ∧ (Tq.readTakes k r).2.rest.length ≤ r.rest.length
  | 0, r => ⟨fun l hl t ht => (by simp [Tq.readTakes] at hl; subst hl; cases ht), Nat.le_refl _⟩
  | k + 1, r => by
    have a1 := rInt_rest r
    have a2 := rInt_rest (Tq.rInt r).2
    simp only [Tq.readTakes]
    split
    · exact ⟨fun l hl t ht => (by simp at hl; subst hl; cases ht), Nat.le_refl _⟩
    · split
      · exact ⟨fun l hl => (by cases hl), by simp only; omega⟩
      · rename_i hb
        obtain ⟨h1, h2⟩ := readTakes_good k (Tq.rInt (Tq.rInt r).2).2
        refine ⟨fun l hl t ht => ?_, by simp only; omega⟩
        obtain ⟨l', hl', rfl⟩ := Option.map_eq_some_iff.1 hl
        rcases List.mem_cons.1 ht with rfl | ht
        · simp only; omega
        · exact h1 l' hl' t ht
theorem readAll_good : ∀ (ws : List Want) (r : Tq.Rd), (∀ w ∈ ws, w.count ≤ 20000) → (∀ ls, (Tq.readAll ws r).1 = some ls → Tq.AllInv ws ls) ∧ (Tq.readAll ws r).2.rest.length ≤ r.rest.length
  | [], r, _ => ⟨fun ls h => by simp [Tq.readAll] at h; subst h; trivial, Nat.le_refl _⟩
  | w :: ws, r, hw => by
    have a1 := rNum_rest r
    obtain ⟨h1, h2⟩ := readTakes_good (Tq.rNum r).1.toNat (Tq.rNum r).2
    simp only [Tq.readAll]
    cases hq : Tq.readTakes (Tq.rNum r).1.toNat (Tq.rNum r).2 with
    | mk a r2 =>
      rw [hq] at h1 h2
      cases a with
      | none => exact ⟨fun ls h => (by cases h), by simp only at *; omega⟩
      | some l =>
        simp only at h2 ⊢
        split
        · exact ⟨fun ls h => (by cases h), by simp only; omega⟩
        · rename_i hu
          obtain ⟨h3, h4⟩ := readAll_good ws r2 (fun x hx => hw x (by simp [hx]))
          refine ⟨fun ls h => ?_, by simp only; omega⟩
          obtain ⟨ls', h', rfl⟩ := Option.map_eq_some_iff.1 h
          have hl := h1 l rfl
          have := Tq.units_ge_length l (fun t ht => (hl t ht).2.2.1)
          have := hw w (by simp)
          exact ⟨⟨hl, by omega, by omega⟩, h3 ls' h'⟩
theorem readOrd_good (r : Tq.Rd) : (∀ o, (Tq.readOrd r).1 = some o → OrdInv o ∧ ∀ w ∈ o.wants, w.kind ≤ 9223372036854775807) ∧ (Tq.readOrd r).2.rest.length ≤ r.rest.length := by
  have a1 := rNum_rest r
  obtain ⟨h1, h2⟩ := readWants_good (Tq.rNum r).1.toNat (Tq.rNum r).2
  unfold Tq.readOrd
  simp only
  generalize Tq.readWants (Tq.rNum r).1.toNat (Tq.rNum r).2 = x at *
  have a2 := rInt_rest x.2
  have a3 := rInt_rest (Tq.rInt x.2).2
  split
  · exact ⟨fun o h => (by cases h), by simp only; omega⟩
  · rename_i hb
    have hr : Tq.rightWants x.1 (Tq.rInt x.2).1 = true := by
      cases hq : Tq.rightWants x.1 (Tq.rInt x.2).1 with
      | true => rfl
      | false => exact absurd (.inl (by simp [hq])) hb
    have hs : 0 ≤ (Tq.rInt (Tq.rInt x.2).2).1 ∧ (Tq.rInt (Tq.rInt x.2).2).1 < 5 := by
      constructor
      · exact Int.not_lt.1 (fun h => hb (.inr (.inl h)))
      · exact Int.not_le.1 (fun h => hb (.inr (.inr h)))
    obtain ⟨b1, b2, b3, b4, b5⟩ := Tq.rightWants_bounds hr
    split
    · rename_i hs1
      refine ⟨fun o h => ?_, by simp only; omega⟩
      have h : (⟨x.1, (Tq.rInt x.2).1, (Tq.rInt (Tq.rInt x.2).2).1, []⟩ : Ord) = o := by simpa using h
      subst h
      exact ⟨⟨hr, hs.1, hs.2, fun _ => rfl, fun h => absurd h hs1⟩, h1⟩
    · rename_i hs1
      have hs1' : (Tq.rInt (Tq.rInt x.2).2).1 = 1 := by omega
      obtain ⟨c1, c2⟩ := readAll_good x.1 (Tq.rInt (Tq.rInt x.2).2).2 (fun w hw => (Tq.rightWant_bounds (b5 w hw)).2.2.1)
      cases hq : Tq.readAll x.1 (Tq.rInt (Tq.rInt x.2).2).2 with
      | mk a r2 =>
        rw [hq] at c1 c2
        cases a with
        | none => exact ⟨fun o h => (by cases h), by simp only at *; omega⟩
        | some l =>
          simp only at c2 ⊢
          split
          · rename_i ha
            refine ⟨fun o h => ?_, by simp only; omega⟩
            have h : (⟨x.1, (Tq.rInt x.2).1, (Tq.rInt (Tq.rInt x.2).2).1, l⟩ : Ord) = o := by simpa using h
            subst h
            exact ⟨⟨hr, hs.1, hs.2, fun h => absurd hs1' h, fun _ => ⟨c1 l rfl, ha⟩⟩, h1⟩
          · exact ⟨fun o h => (by cases h), by simp only; omega⟩
structure RO (K : Nat) (r0 : Tq.Rd) (j : Nat) (r : Tq.Rd) (os : List Ord) : Prop where
  eq : Tq.readOrds K 0 r0 = ((Tq.readOrds j os.length r).1.map (os ++ ·), (Tq.readOrds j os.length r).2)
  rest : r.rest.length ≤ r0.rest.length
  good : ∀ o ∈ os, OrdInv o ∧ ∀ w ∈ o.wants, w.kind ≤ 9223372036854775807
  len : os.length ≤ 1000
theorem RO.start (K : Nat) (r0 : Tq.Rd) : RO K r0 K r0 [] :=
  ⟨by cases h : Tq.readOrds K 0 r0 with | mk a b => cases a <;> simp [h], Nat.le_refl _, fun o ho => (by cases ho), by simp⟩
theorem RO.none1 {K j : Nat} {r0 r : Tq.Rd} {os : List Ord} (h : RO K r0 (j + 1) r os) (hr : r.rest ≠ []) (ht : (Tq.readOrd r).1 = none) : (Tq.readOrds K 0 r0).1 = none := by
  rw [h.eq]
  simp only [Tq.readOrds]
  rw [if_neg hr]
  cases hq : Tq.readOrd r with
  | mk a b => rw [hq] at ht; simp only at ht; subst ht; rfl
theorem RO.none2 {K j : Nat} {r0 r r2 : Tq.Rd} {os : List Ord} {o : Ord} (h : RO K r0 (j + 1) r os) (hr : r.rest ≠ []) (ht : Tq.readOrd r = (some o, r2)) (hl : 1000 ≤ os.length) : (Tq.readOrds K 0 r0).1 = none := by
  rw [h.eq]
  simp only [Tq.readOrds]
  rw [if_neg hr, ht]
  simp only
  rw [if_pos hl]; rfl
theorem RO.step {K j : Nat} {r0 r r2 : Tq.Rd} {os : List Ord} {o : Ord} (h : RO K r0 (j + 1) r os) (hr : r.rest ≠ []) (ht : Tq.readOrd r = (some o, r2)) (hl : os.length < 1000) : RO K r0 j r2 (os ++ [o]) := by
  have hg := readOrd_good r
  rw [ht] at hg
  refine ⟨?_, Nat.le_trans hg.2 h.rest, fun x hx => ?_, by simp; omega⟩
  · rw [h.eq]
    simp only [Tq.readOrds]
    rw [if_neg hr, ht]
    simp only
    rw [if_neg (by omega)]
    simp only [List.length_append, List.length_cons, List.length_nil]
    cases (Tq.readOrds j (os.length + 1) r2).1 <;> simp
  · rcases List.mem_append.1 hx with hx | hx
    · exact h.good x hx
    · simp at hx; subst hx; exact hg.1 _ rfl
theorem RO.stop {K j : Nat} {r0 r : Tq.Rd} {os : List Ord} (h : RO K r0 j r os) (hs : j = 0 ∨ r.rest = []) : Tq.readOrds K 0 r0 = (some os, r) := by
  have he : Tq.readOrds j os.length r = (some [], r) := by
    rcases hs with rfl | hs
    · rfl
    · cases j with
      | zero => rfl
      | succ j => simp only [Tq.readOrds]; rw [if_pos hs]
  rw [h.eq, he]; simp
theorem readBook_none {s : List UInt8} (h : (Tq.readOrds (Tq.rNum ⟨s, false⟩).1.toNat 0 (Tq.rNum ⟨s, false⟩).2).1 = none) : Tq.readBook s = none := by
  unfold Tq.readBook
  simp only
  cases hq : Tq.readOrds (Tq.rNum ⟨s, false⟩).1.toNat 0 (Tq.rNum ⟨s, false⟩).2 with
  | mk a b => rw [hq] at h; simp only at h; subst h; rfl
theorem readBook_bad {s : List UInt8} {os : List Ord} {r : Tq.Rd} (h : Tq.readOrds (Tq.rNum ⟨s, false⟩).1.toNat 0 (Tq.rNum ⟨s, false⟩).2 = (some os, r)) (hb : (!r.bad && decide (r.rest = [])) = false ∨ Tq.encBook os ≠ s) : Tq.readBook s = none := by
  unfold Tq.readBook
  simp only [h]
  rw [if_pos]
  rcases hb with hb | hb
  · cases hq : r.bad with
    | true => exact .inl rfl
    | false => rw [hq] at hb; simp at hb; exact .inr (.inl hb)
  · exact .inr (.inr hb)
theorem readBook_some {s : List UInt8} {os : List Ord} {r : Tq.Rd} (h : Tq.readOrds (Tq.rNum ⟨s, false⟩).1.toNat 0 (Tq.rNum ⟨s, false⟩).2 = (some os, r)) (hb : (!r.bad && decide (r.rest = [])) = true) (he : Tq.encBook os = s) : Tq.readBook s = some os := by
  unfold Tq.readBook
  simp only [h]
  simp at hb
  rw [if_neg (by simp [hb.1, hb.2, he])]
theorem readOrds_good : ∀ (k m : Nat) (r : Tq.Rd) (os : List Ord), m ≤ 1000 → (Tq.readOrds k m r).1 = some os → (∀ o ∈ os, OrdInv o ∧ ∀ w ∈ o.wants, w.kind ≤ 9223372036854775807) ∧ m + os.length ≤ 1000
  | 0, m, r, os, hm, h => by simp [Tq.readOrds] at h; subst h; exact ⟨fun o ho => (by cases ho), by simpa using hm⟩
  | k + 1, m, r, os, hm, h => by
    simp only [Tq.readOrds] at h
    split at h
    · simp at h; subst h; exact ⟨fun o ho => (by cases ho), by simpa using hm⟩
    · have hg := readOrd_good r
      cases hq : Tq.readOrd r with
      | mk a r2 =>
        rw [hq] at h hg
        cases a with
        | none => cases h
        | some o =>
          simp only at h
          split at h
          · cases h
          · obtain ⟨os', h', rfl⟩ := Option.map_eq_some_iff.1 h
            obtain ⟨h1, h2⟩ := readOrds_good k (m + 1) r2 os' (by omega) h'
            refine ⟨fun x hx => ?_, by simp; omega⟩
            rcases List.mem_cons.1 hx with rfl | hx
            · exact hg.1 _ rfl
            · exact h1 x hx
theorem readBook_inv {s : List UInt8} {os : List Ord} (h : Tq.readBook s = some os) : BookInv os ∧ Tq.KindsOk os := by
  unfold Tq.readBook at h
  simp only at h
  cases hq : Tq.readOrds (Tq.rNum ⟨s, false⟩).1.toNat 0 (Tq.rNum ⟨s, false⟩).2 with
  | mk a r =>
    rw [hq] at h
    cases a with
    | none => cases h
    | some os' =>
      simp only at h
      split at h
      · cases h
      · injection h with h
        subst h
        obtain ⟨h1, h2⟩ := readOrds_good _ 0 _ os' (by omega) (by rw [hq])
        exact ⟨⟨fun o ho => (h1 o ho).1, by omega⟩, fun o ho => (h1 o ho).2⟩
end Go.Proofs.YtcliaokoganbaaaGreatDoor
set_option linter.unusedVariables false
set_option linter.unusedSimpArgs false
namespace Go.Proofs.YtcliaokoganbaaaGreatDoor
open Go Go.RowKit Go.Shelf Go.Proofs.YtcliaokoganbaaaGreatDoorW.PrintWords Go.Proofs.YtcliaokoganbaaaGreatDoorW.PrintLast Go.Proofs.YtcliaokoganbaaaGreatDoorW.PrintMore
open Tq (Lot Box Want Take Ord Op BookInv OrdInv)
/-- How Read ends. -/
def ReadPost (s : List UInt8) (w : World) (e : Ending) (w' : World) : Prop :=
  Below w.heap.size w w' ∧
  match Tq.readBook s with
  | none => e = .returned (.tuple #[.pointer none, .bool false])
  | some os => ∃ g, e = .returned (.tuple #[.pointer (some ⟨g, 0, none⟩), .bool true]) ∧ BookAt w' w.heap.size (fun k => w.heap.size ≤ k) g os
theorem ReadPost.none {s : List UInt8} {w w' : World} (h : Tq.readBook s = Option.none) (hb : Below w.heap.size w w') : ReadPost s w (.returned (.tuple #[.pointer Option.none, .bool false])) w' := by
  refine ⟨hb, ?_⟩; rw [h]
theorem ReadPost.some {s : List UInt8} {w w' : World} {os : List Ord} {g : Nat} (h : Tq.readBook s = Option.some os) (hb : Below w.heap.size w w') (hk : BookAt w' w.heap.size (fun k => w.heap.size ≤ k) g os) : ReadPost s w (.returned (.tuple #[.pointer (Option.some ⟨g, 0, Option.none⟩), .bool true])) w' := by
  refine ⟨hb, ?_⟩; rw [h]; exact ⟨g, rfl, hk⟩
set_option maxRecDepth 100000 in
set_option maxHeartbeats 4000000 in
theorem f39_any (s : List UInt8) (w : World) (hs : Std w) (hlen : s.length ≤ 20000001000) :
    Calls Tryz.prog 39 #[.string ⟨s.toArray⟩] w fun e w' => ReadPost s w e w' := by
  have h81 := f81_any s w
  have hstd : ∀ W, Below w.heap.size w W → Std W := fun W hb => hs.below hb hs.size
  have HSTD := Aside0.mk hstd
  have h6 := hs.size
  have HLEN := Aside0.mk hlen
  clear hs hstd hlen
  go_enter Tryz.func39, Tryz.ntmps39
  go_wp2_with (go_at_call 81; refine h81.mono ?_; rintro e w1 ⟨gr, rfl, hgr, hr1, hb1⟩; refine Hid.out ?_)
  refine Lib.hid ?_
  have hgl := hr1.lt
  have h10 := f10_any w1.heap.size w1 (Nat.le_refl _)
  have HR1 := Aside0.mk hr1
  have HB1 := Aside0.mk hb1
  have HSZ1 := Aside0.mk hb1.size
  clear hr1 hb1 h81
  go_wp2_with (go_at_call 10; refine h10.mono ?_; rintro e w2 ⟨gb, rfl, hk2, hb2⟩; refine Hid.out ?_)
  refine Lib.hid ?_
  have HR2 := Aside0.mk (HR1.out.below hb2 hgl)
  have HB2 := Aside0.mk (HB1.out.trans (hb2.mono HSZ1.out))
  have HK2 := Aside0.mk hk2
  have hsz2 : w1.heap.size ≤ w2.heap.size := hb2.size
  have h82 := f82_any gr ⟨s, false⟩ w2 (HSTD.out _ HB2.out) HR2.out (by have := HLEN.out; show s.length ≤ _; omega)
  have HN := Aside0.mk (rNum_range ⟨s, false⟩)
  have HNR := Aside0.mk (rNum_rest ⟨s, false⟩)
  clear hk2 hb2 h10
  go_wp2_with (go_at_call 82; refine h82.mono ?_; rintro e w3 ⟨rfl, hr3, hm3⟩; refine Hid.out ?_)
  refine Lib.hid ?_
  have HR3 := Aside0.mk hr3
  have HB3 := Aside0.mk (show Below w.heap.size w w3 from Mut.base HB2.out (by have := HSZ1.out; omega) hm3 (fun i hi => by omega))
  have HK3 := Aside0.mk (HK2.out.mut hm3 (fun k hk => by omega))
  have HSZ3 := Aside0.mk (show w1.heap.size ≤ w3.heap.size by have := hm3.size; omega)
  clear hr3 hm3 h82
  obtain ⟨K, hK⟩ : ∃ K : Nat, (Tq.rNum ⟨s, false⟩).1 = (K : Int) := ⟨(Tq.rNum ⟨s, false⟩).1.toNat, by have := HN.out.1; omega⟩
  have HK := Aside0.mk hK
  have hKm : (K : Int) ≤ 9223372036854775807 := by have := HN.out.2; omega
  rw [hK]
  clear hK
  go_upto_block 0 with fail
  go_cut [] (fun wx => ∃ (r' : Tq.Rd) (os : List Ord), Aside0 (Tq.readOrds (Tq.rNum ⟨s, false⟩).1.toNat 0 (Tq.rNum ⟨s, false⟩).2 = (some os, r')) ∧ Aside0 (RdAt wx gr r') ∧ Aside0 (Below w.heap.size w wx) ∧ Aside0 (BookAt wx w1.heap.size (fun k => w1.heap.size ≤ k) gb os) ∧ Aside0 (w1.heap.size ≤ wx.heap.size) ∧ Aside0 (os.length ≤ 1000 ∧ ∀ o ∈ os, OrdInv o ∧ ∀ w ∈ o.wants, w.kind ≤ 9223372036854775807))
  case first =>
    go_wp2_with fail
    go_loopw [6] (fun s6 wr => ∃ (j : Nat) (r' : Tq.Rd) (os : List Ord), j ≤ K ∧ s6 = .int .i64 j ∧ Aside0 (RO K (Tq.rNum ⟨s, false⟩).2 j r' os) ∧ Aside0 (RdAt wr gr r') ∧ Aside0 (Below w.heap.size w wr) ∧ Aside0 (BookAt wr w1.heap.size (fun k => w1.heap.size ≤ k) gb os) ∧ Aside0 (w1.heap.size ≤ wr.heap.size)) (fun s6 _ => (intOf s6).toNat)
    case atStart => exact ⟨K, _, [], Nat.le_refl _, rfl, ⟨RO.start _ _⟩, HR3, HB3, HK3, HSZ3⟩
    case round =>
      obtain ⟨j, r', os, hj, rfl, RJ, RG, BJ, KJ, SJ⟩ := hrel
      have hlr : r'.rest.length ≤ 20000001000 := by have := RJ.out.rest; have h2 : (Tq.rNum ⟨s, false⟩).2.rest.length ≤ s.length := HNR.out; have := HLEN.out; omega
      have h83 := f83_eq gr r' wr RG.out (by omega)
      by_cases hj0 : j = 0
      · subst hj0
        have hst := Aside0.mk (show Tq.readOrds (Tq.rNum ⟨s, false⟩).1.toNat 0 (Tq.rNum ⟨s, false⟩).2 = (some os, r') by rw [HK.out, Int.toNat_natCast]; exact RJ.out.stop (.inl rfl))
        have hgd := Aside0.mk (And.intro RJ.out.len RJ.out.good)
        clear RJ h83
        go_wp2_with fail
        go_meet
        case rel => exact ⟨r', os, hst, RG, BJ, KJ, SJ, hgd⟩
      · by_cases hre : r'.rest = []
        · have hst := Aside0.mk (show Tq.readOrds (Tq.rNum ⟨s, false⟩).1.toNat 0 (Tq.rNum ⟨s, false⟩).2 = (some os, r') by rw [HK.out, Int.toNat_natCast]; exact RJ.out.stop (.inr hre))
          have hgd := Aside0.mk (And.intro RJ.out.len RJ.out.good)
          have hjz : 0 < j := by omega
          rw [hre] at h83
          clear RJ hre hj0
          go_wp2_with (go_at_call 83; refine h83.mono ?_; rintro e w' ⟨rfl, rfl⟩)
          go_meet
          case rel => exact ⟨r', os, hst, RG, BJ, KJ, SJ, hgd⟩
        · obtain ⟨j, rfl⟩ : ∃ m, j = m + 1 := ⟨j - 1, by omega⟩
          have hjz : 0 < j + 1 := by omega
          have hlz : 0 < r'.rest.length := List.length_pos_iff.2 hre
          have HRE := Aside0.mk hre
          obtain ⟨wo, hwo⟩ : ∃ wo, wo = wr := ⟨_, rfl⟩
          subst hwo
          have h84 := f84_any gr r' wo (HSTD.out _ BJ.out) (by omega) RG.out hlr
          clear hre
          cases hro : Tq.readOrd r' with
          | mk a r2 =>
          cases a with
          | none =>
            have hnone := Aside0.mk (readBook_none (s := s) (by rw [HK.out, Int.toNat_natCast]; exact RJ.out.none1 HRE.out (by rw [hro])))
            have h84n : Calls Tryz.prog 84 #[.pointer (some ⟨gr, 0, none⟩)] wo fun e w' => ∃ A n c du st A' n' c', e = .returned (.tuple #[.agg #[.slice A n c, .int .i64 du, .int .i64 st, .slice A' n' c'], .bool false]) ∧ Below w.heap.size w w' := by
              refine h84.mono ?_
              rintro e w' ⟨hm, hp⟩
              rw [hro] at hp
              obtain ⟨A, n, c, du, st, A', n', c', rfl⟩ := hp
              exact ⟨A, n, c, du, st, A', n', c', rfl, Mut.base BJ.out (by have := SJ.out; have := HSZ1.out; omega) hm (fun i hi => by omega)⟩
            clear h84 hro
            go_wp2_with (first | (go_at_call 83; refine h83.mono ?_; rintro e w' ⟨rfl, rfl⟩) | (go_at_call 84; refine h84n.mono ?_; rintro e w4 ⟨A, n, c, du, st, A', n', c', rfl, hb4⟩))
            go_ret2
            exact ReadPost.none hnone.out (below_alloc hb4 _)
          | some o =>
            have hgo := readOrd_good r'
            rw [hro] at hgo
            have h84s : Calls Tryz.prog 84 #[.pointer (some ⟨gr, 0, none⟩)] wo fun e w' => ∃ A0 n0 c0 A3 n3 c3, e = .returned (.tuple #[.agg #[.slice A0 n0 c0, .int .i64 o.due, .int .i64 o.state, .slice A3 n3 c3], .bool true]) ∧ Aside0 (RdAt w' gr r2 ∧ Mut (fun k => k = gr) wo w' ∧ kO.M w' wo.heap.size (fun i => wo.heap.size ≤ i) o [.slice A0 n0 c0, .int .i64 o.due, .int .i64 o.state, .slice A3 n3 c3]) := by
              refine h84.mono ?_
              rintro e w' ⟨hm, hp⟩
              rw [hro] at hp
              obtain ⟨h1, v0, v3, rfl, hM⟩ := hp
              obtain ⟨v0', v3', he, hw, ht⟩ := kO_openM hM
              obtain ⟨A0, c0, h0⟩ := Kd.R_slice hw
              obtain ⟨A3, c3, h3⟩ := Kd.S_slice ht
              subst h0; subst h3
              have e1 : v0 = .slice A0 o.wants.length c0 := by injection he
              have e2 : v3 = .slice A3 o.takes.length c3 := by
                have := congrArg (fun l => l[3]?) he
                simpa using this
              subst e1; subst e2
              exact ⟨A0, _, c0, A3, _, c3, rfl, ⟨h1, hm, hM⟩⟩
            clear h84
            have hH4 : ∀ W, Mut (fun k => k = gr) wo W → Aside0 (BookAt W w1.heap.size (fun k => w1.heap.size ≤ k ∧ k < wo.heap.size) gb os ∧ Below w.heap.size w W ∧ w1.heap.size ≤ W.heap.size) := by
              intro W hm
              refine ⟨(KJ.out.bound.mono (fun k hk => ⟨hk.1, hk.2.2⟩)).mut hm (fun k hk => by omega), Mut.base BJ.out (by have := SJ.out; have := HSZ1.out; omega) hm (fun i hi => by omega), ?_⟩
              have := hm.size; have := SJ.out; omega
            have HH4 := Aside0.mk hH4
            have hlen1000 := RJ.out.len
            have HRO := Aside0.mk hro
            clear hro hgo hH4
            go_wp2_with (first | (go_at_call 83; refine h83.mono ?_; rintro e w' ⟨rfl, rfl⟩) | (go_at_call 84; refine h84s.mono ?_; rintro e w4 ⟨A0, n0, c0, A3, n3, c3, rfl, h4⟩; refine Hid.out ?_))
            refine Lib.hid ?_
            obtain ⟨hk4, hb4, hs4⟩ := (HH4.out w4 h4.out.2.1).out
            have hblk := heap_alloc_new w4 (.cells #[.slice A0 n0 c0, .int .i64 o.due, .int .i64 o.state, .slice A3 n3 c3] 96)
            have hk5 := hk4.alloc (.cells #[.slice A0 n0 c0, .int .i64 o.due, .int .i64 o.state, .slice A3 n3 c3] 96)
            obtain ⟨A1, c1, hc, hf, hn, hS1, _⟩ := hk5.head
            have HB4 := Aside0.mk hb4
            have HS4 := Aside0.mk hs4
            have HBLK := Aside0.mk hblk
            have HK5 := Aside0.mk hk5
            have HS1 := Aside0.mk hS1
            clear hk4 hb4 hs4 hblk hk5 hS1 hlz hjz h83 h84s
            by_cases hfull : 1000 ≤ os.length
            · have hnone := Aside0.mk (readBook_none (s := s) (by rw [HK.out, Int.toNat_natCast]; exact RJ.out.none2 HRE.out HRO.out hfull))
              have hfz : (1000 : Int) ≤ (os.length : Int) := by omega
              go_wp2
              go_ret2
              exact ReadPost.none hnone.out (below_alloc HB4.out _)
            · have hstep := Aside0.mk (RJ.out.step HRE.out HRO.out (by omega))
              have hfz : (os.length : Int) < (1000 : Int) := by omega
              have hgb1 : gb < wo.heap.size := KJ.out.lt
              have hgb0 : w1.heap.size ≤ gb := KJ.out.ge
              have hw45 : w4.heap.size < (w4.alloc (.cells #[.slice A0 n0 c0, .int .i64 o.due, .int .i64 o.state, .slice A3 n3 c3] 96)).heap.size := by simp
              have hw4o : wo.heap.size ≤ w4.heap.size := h4.out.2.1.size
              have hM5 := Aside0.mk (kO.M_lower (show w1.heap.size ≤ wo.heap.size from SJ.out) (Kd.M_below (kO.M_mono (ok' := fun k => wo.heap.size ≤ k ∧ k < w4.heap.size) (fun k hk => ⟨hk.1, hk.2.2.1⟩) (kO.M_bound h4.out.2.2)) (below_alloc (Below.refl w4.heap.size w4) (.cells #[.slice A0 n0 c0, .int .i64 o.due, .int .i64 o.state, .slice A3 n3 c3] 96))))
              have RG5 := Aside0.mk (h4.out.1.below (below_alloc (Below.refl w4.heap.size w4) (.cells #[.slice A0 n0 c0, .int .i64 o.due, .int .i64 o.state, .slice A3 n3 c3] 96)) h4.out.1.lt)
              have HB5 := Aside0.mk (below_alloc HB4.out (.cells #[.slice A0 n0 c0, .int .i64 o.due, .int .i64 o.state, .slice A3 n3 c3] 96))
              have t0 : (w4.alloc (.cells #[.slice A0 n0 c0, .int .i64 o.due, .int .i64 o.state, .slice A3 n3 c3] 96)).cell? ⟨w4.heap.size, 0, none⟩ = some (.slice A0 n0 c0) := (blk_facts HBLK.out).1 0
              have t1 : (w4.alloc (.cells #[.slice A0 n0 c0, .int .i64 o.due, .int .i64 o.state, .slice A3 n3 c3] 96)).cell? ⟨w4.heap.size, 1, none⟩ = some (.int .i64 o.due) := (blk_facts HBLK.out).1 1
              have t2 : (w4.alloc (.cells #[.slice A0 n0 c0, .int .i64 o.due, .int .i64 o.state, .slice A3 n3 c3] 96)).cell? ⟨w4.heap.size, 2, none⟩ = some (.int .i64 o.state) := (blk_facts HBLK.out).1 2
              have t3 : (w4.alloc (.cells #[.slice A0 n0 c0, .int .i64 o.due, .int .i64 o.state, .slice A3 n3 c3] 96)).cell? ⟨w4.heap.size, 3, none⟩ = some (.slice A3 n3 c3) := (blk_facts HBLK.out).1 3
              go_upto_region 9 with fail
              generalize w4.alloc (.cells #[.slice A0 n0 c0, .int .i64 o.due, .int .i64 o.state, .slice A3 n3 c3] 96) = w5 at *
              have hrow : ∀ k, (Value.slice A1 os.length c1).ownBlock = some k → w1.heap.size ≤ k ∧ k < wo.heap.size ∧ k ≠ gb := fun k hk => by have := (Kd.S_R HS1.out).1 k hk; omega
              have hS5 := Aside0.mk (show Kd.S kO 96 w5.drew w1.heap.size (fun k => (w1.heap.size ≤ k ∧ k ≠ gb) ∧ ¬ (wo.heap.size ≤ k ∧ k < w4.heap.size)) (.slice A1 os.length c1) os from Kd.S_mono HS1.out (fun k hk => ⟨⟨hk.1.1, hk.2⟩, by omega⟩))
              have hokp := Aside0.mk (show ∀ k, (wo.heap.size ≤ k ∧ k < w4.heap.size) → (w1.heap.size ≤ k ∧ k ≠ gb) ∧ some k ≠ (Value.slice A1 os.length c1).ownBlock from fun k hk => ⟨by omega, fun he => by have := hrow k he.symm; omega⟩)
              have hfresh := Aside0.mk (show ∀ k, w5.drew.heap.size ≤ k → w1.heap.size ≤ k ∧ k ≠ gb from fun k hk => by have : w5.heap.size ≤ k := hk; omega)
              have hbase := Aside0.mk (show w1.heap.size ≤ w5.drew.heap.size from by show w1.heap.size ≤ w5.heap.size; omega)
              have hM5' := Aside0.mk (show kO.M w5.drew w1.heap.size (fun k => wo.heap.size ≤ k ∧ k < w4.heap.size) o [.slice A0 n0 c0, .int .i64 o.due, .int .i64 o.state, .slice A3 n3 c3] from hM5.out)
              have hl64 : (os.length + 1) * 64 ≤ 140737488355328 := by omega
              have hgr3 : some gb ≠ (Value.slice A1 os.length c1).ownBlock := fun he => by have := hrow _ he.symm; omega
              have hgg3 : some gr ≠ (Value.slice A1 os.length c1).ownBlock := fun he => by have := hrow _ he.symm; omega
              have HROW := Aside0.mk hrow
              have HGR3 := Aside0.mk hgr3
              have HGG3 := Aside0.mk hgg3
              have hcd : w5.drew.cell? ⟨gb, 0, none⟩ = some (.slice A1 os.length c1) := hc
              have hfd : w5.drew.frozen? ⟨gb, 0, none⟩ = false := hf
              have hce := (keepS (o := .cells #[.slice A0 n0 c0, .int .i64 o.due, .int .i64 o.state, .slice A3 n3 c3] 96) hc hf).1
              clear hrow hgg3 hfz HH4
              go_region_law (first | (refine Kd.S_append_step (W := w5.drew) kO w1.heap.size (by simp [Region.wanted]) (.tmp 42) (.tmp 44) 91 96 (.agg #[.slice none 0 0, .int .i64 0, .int .i64 0, .slice none 0 0]) 64 (by rfl) Tryz.underlying91 info96 (by rfl) (by decide) (by decide) (.slice A1 os.length c1) os o [.slice A0 n0 c0, .int .i64 o.due, .int .i64 o.state, .slice A3 n3 c3] (fun k => w1.heap.size ≤ k ∧ k ≠ gb) (fun k => wo.heap.size ≤ k ∧ k < w4.heap.size) (by rfl) (by rfl) hM5'.out hokp.out hfresh.out hS5.out (Below.refl _ w5.drew) hbase.out hl64 ?_; intro v3 w3 hS3 hB3 hg3 hat3; obtain ⟨A9, c9, rfl⟩ := snoc_slice hS3; obtain ⟨hc3, hf3⟩ := keepG hg3 hcd hfd hgr3))
              all_goals (
                have hh := Aside0.mk (HK5.out.put (w1 := w3) (hg3.block gb (HK5.out.lt) hgr3) (ok' := fun k => w1.heap.size ≤ k) hgb0 hS3)
                have RG9 := Aside0.mk (show RdAt (w3.setCell ⟨gb, 0, none⟩ (.slice A9 (os.length + 1) c9)) gr r2 from (Below.heap_setCell w3 ⟨gb, 0, none⟩ _ gr (show gr ≠ gb by omega)).trans ((hg3.block gr RG5.out.lt HGG3.out).trans RG5.out))
                have HB9 := Aside0.mk (show Below w.heap.size w (w3.setCell ⟨gb, 0, none⟩ (.slice A9 (os.length + 1) c9)) from ((HB5.out.drew).grown hg3 (show w.heap.size ≤ w5.heap.size by have := HSZ1.out; omega) (fun k hk => by have := HROW.out k hk; have := HSZ1.out; omega)).setCell (p := ⟨gb, 0, none⟩) (by have := HSZ1.out; show w.heap.size ≤ gb; omega) _)
                have HS9 := Aside0.mk (show w1.heap.size ≤ (w3.setCell ⟨gb, 0, none⟩ (.slice A9 (os.length + 1) c9)).heap.size by have : w5.heap.size ≤ w3.heap.size := hg3.size; simp [World.setCell]; omega)
                clear hS3 hB3 hg3 hat3
                go_wp2
                go_roundw
                case rel => exact ⟨j, r2, os ++ [o], by omega, by go_num, hstep, RG9, HB9, hh, HS9⟩
                case measure => simp [intOf])
  case rest =>
    obtain ⟨r', os, HRO, RG, BJ, KJ, SJ, HGD⟩ := hcut
    have h85 := f85_any gr r' wc RG.out
    by_cases hdn : (!r'.bad && decide (r'.rest = [])) = true
    · rw [hdn] at h85
      have hEO : ∀ o ∈ os, EncOk o := fun o ho => encOk_of (HGD.out.2 o ho).1 (HGD.out.2 o ho).2
      have h32 := fun W (hb : Below wc.heap.size wc W) => f32_any w1.heap.size gb (fun k => w1.heap.size ≤ k) os W (KJ.out.below hb) (HSTD.out W (BJ.out.trans (hb.mono (by have := SJ.out; have := HSZ1.out; omega)))) HGD.out.1 hEO
      unfold strOf at h32
      by_cases heq : Tq.encBook os = s
      · have HP := Aside0.mk (readBook_some HRO.out hdn heq)
        rw [heq] at h32
        clear hdn hEO heq
        go_wp2_with (first | (go_at_call 85; refine h85.mono ?_; rintro e w4 ⟨rfl, hb4⟩) | (go_at_call 32; refine (h32 _ hb4).mono ?_; rintro e w5 ⟨rfl, hb5⟩))
        go_ret2
        have hb6 : Below wc.heap.size wc w5 := hb4.trans (hb5.mono hb4.size)
        refine ReadPost.some HP.out (BJ.out.trans (hb6.mono (by have := SJ.out; have := HSZ1.out; omega))) ?_
        exact ((KJ.out.below hb6).lower HSZ1.out).mono (fun k hk => Nat.le_trans HSZ1.out hk)
      · have HP := Aside0.mk (readBook_bad HRO.out (.inr heq))
        have hbe : (!(Tq.encBook os == s)) = true := by simpa using heq
        have hbf : (Tq.encBook os == s) = false := by simpa using heq
        clear hdn hEO heq
        generalize Tq.encBook os = eb at *
        go_wp2_with (first | (go_at_call 85; refine h85.mono ?_; rintro e w4 ⟨rfl, hb4⟩) | (go_at_call 32; refine (h32 _ hb4).mono ?_; rintro e w5 ⟨rfl, hb5⟩))
        go_ret2
        have hb6 : Below wc.heap.size wc w5 := hb4.trans (hb5.mono hb4.size)
        exact ReadPost.none HP.out (BJ.out.trans (hb6.mono (by have := SJ.out; have := HSZ1.out; omega)))
    · have HP := Aside0.mk (readBook_bad HRO.out (.inl (by simpa using hdn)))
      have hdf : (!r'.bad && decide (r'.rest = [])) = false := by simpa using hdn
      rw [hdf] at h85
      clear hdn hdf
      go_wp2_with (go_at_call 85; refine h85.mono ?_; rintro e w4 ⟨rfl, hb4⟩)
      go_ret2
      exact ReadPost.none HP.out (BJ.out.trans (hb4.mono (by have := SJ.out; have := HSZ1.out; omega)))
end Go.Proofs.YtcliaokoganbaaaGreatDoor
set_option linter.unusedVariables false
set_option linter.unusedSimpArgs false
namespace Go.Proofs.YtcliaokoganbaaaGreatDoor
open Go Go.RowKit Go.Shelf Go.Proofs.YtcliaokoganbaaaGreatDoorW.PrintWords Go.Proofs.YtcliaokoganbaaaGreatDoorW.PrintLast Go.Proofs.YtcliaokoganbaaaGreatDoorW.PrintMore
open Tq (Lot Box Want Take Ord Op BookInv OrdInv)
/-! ### stock.rightKinds at the three kinds of 'given' -/
def keyS (c : UInt8) : Lit := .string [c]
def putS (D : Dt) (c : UInt8) : Dt := D.put (keyS c) (.lit (.bool true))
def nameD : Nat → Dt
  | 0 => .map []
  | 1 => putS (.map []) 97
  | 2 => putS (putS (.map []) 97) 98
  | _ => putS (putS (putS (.map []) 97) 98) 99
theorem nameD_at0 : (nameD 0).atKey (keyS 97) (.lit (.bool false)) = .lit (.bool false) := by kernel_rfl
theorem nameD_at1 : (nameD 1).atKey (keyS 98) (.lit (.bool false)) = .lit (.bool false) := by kernel_rfl
theorem nameD_at2 : (nameD 2).atKey (keyS 99) (.lit (.bool false)) = .lit (.bool false) := by kernel_rfl
theorem zero4 (w : World) : (zeroValue 4).run Tryz.prog w = .ok (.bool false) w := by kernel_rfl
theorem plainBool_inv {P : Program} {e : TypeId} (he : P.underlying e = some .bool) {v : Value} {b : Bool} {ps : List MemPlace} (h : plainElem (H := Unit) P e v = some (.lit (.bool b), ps)) : v = .bool b := by
  unfold plainElem at h
  rw [he] at h
  cases v <;> simp at h
  rw [h.1]
abbrev mapS (W : World) (b n : Nat) (D : Dt) : Prop := W.ownsMap Tryz.prog 9 (plainElem (H := Unit) Tryz.prog 4) b n D
theorem mapS_look {W : World} {b n : Nat} {D : Dt} (h : mapS W b n D) (c : UInt8) (hat : D.atKey (keyS c) (.lit (.bool false)) = .lit (.bool false)) :
    (Instr.lookup 158 (.map (some b)) (.string ⟨#[c]⟩) false).run Tryz.prog W = .ok (.bool false) W := by
  have hkey : keyOf Tryz.prog 9 (.string ⟨#[c]⟩) = some (keyS c) := WideMaps.keyOf_string_mk Tryz.underlying9 (show (1 : Nat) ≤ maxLen by unfold maxLen; omega)
  obtain ⟨v, ps, hrun, hv⟩ := h.lookup (Maps.string_keyed Tryz.underlying9) Tryz.underlying158 (zero4 W) (plainElem_bool Tryz.underlying4 false) hkey
  rw [hat] at hv
  rw [plainBool_inv Tryz.underlying4 hv] at hrun
  exact hrun
set_option maxRecDepth 100000 in
set_option maxHeartbeats 2000000 in
theorem f93_three (gk : Nat) (w : World) (hb : w.heap[gk]? = some (.cells #[.string ⟨#[97]⟩, .int .i64 1, .string ⟨#[98]⟩, .int .i64 1, .string ⟨#[99]⟩, .int .i64 1] 87 (0, 0))) :
    Calls Tryz.prog 93 #[.slice (some ⟨gk, 0, none⟩) 3 3] w fun e w' => e = .returned (.bool true) ∧ Below w.heap.size w w' := by
  have hmm := @run_makeMap Tryz.prog
  obtain ⟨hc, _⟩ := blk_facts hb
  have k0 : w.cell? ⟨gk, 0, none⟩ = some (.string ⟨#[97]⟩) := hc 0
  have k1 : w.cell? ⟨gk, 1, none⟩ = some (.int .i64 1) := hc 1
  have k2 : w.cell? ⟨gk, 2, none⟩ = some (.string ⟨#[98]⟩) := hc 2
  have k3 : w.cell? ⟨gk, 3, none⟩ = some (.int .i64 1) := hc 3
  have k4 : w.cell? ⟨gk, 4, none⟩ = some (.string ⟨#[99]⟩) := hc 4
  have k5 : w.cell? ⟨gk, 5, none⟩ = some (.int .i64 1) := hc 5
  have hlt := (Array.getElem?_eq_some_iff.1 hb).1
  have HB0 := Aside0.mk (below_alloc (Below.refl w.heap.size w) (.map #[] 0))
  have HM0 := Aside0.mk (World.ownsMap_made w Tryz.prog 9 (plainElem (H := Unit) Tryz.prog 4))
  clear hc hb
  go_enter Tryz.func93, Tryz.ntmps93
  go_wp2
  go_loopw [9] (fun s9 wr => ∃ z : Int, 0 ≤ z ∧ z ≤ 3 ∧ s9 = .int .i64 z ∧ Aside0 (mapS wr w.heap.size z.toNat (nameD z.toNat)) ∧ Aside0 (Below w.heap.size w wr)) (fun s9 _ => (3 - intOf s9).toNat)
  case atStart => exact ⟨0, by omega, by omega, rfl, HM0, HB0⟩
  case round =>
    obtain ⟨z, hz0, hz3, rfl, M, BW⟩ := hrel
    have c0 := cell_on BW.out k0
    have c1 := cell_on BW.out k1
    have c2 := cell_on BW.out k2
    have c3 := cell_on BW.out k3
    have c4 := cell_on BW.out k4
    have c5 := cell_on BW.out k5
    have hcase : z = 0 ∨ z = 1 ∨ z = 2 ∨ z = 3 := by omega
    rcases hcase with rfl | rfl | rfl | rfl
    · have hM1 := (show mapS wr w.heap.size 0 (nameD 0) from M.out).alloc (.cells #[.string ⟨#[97]⟩, .int .i64 1] 87)
      have hl := mapS_look hM1 97 nameD_at0
      have hb1 := Aside0.mk (below_alloc BW.out (.cells #[.string ⟨#[97]⟩, .int .i64 1] 87))
      have hkey : keyOf Tryz.prog 9 (.string ⟨#[97]⟩) = some (keyS 97) := WideMaps.keyOf_string_mk Tryz.underlying9 (show (1 : Nat) ≤ maxLen by unfold maxLen; omega)
      go_wp2_with (first | (at_mapUpdate; refine wpList_mapUpdate_own _ rfl _ _ _ 158 rfl 9 4 (Maps.string_keyed Tryz.underlying9) Tryz.underlying158 _ w.heap.size 0 (nameD 0) rfl hM1 (by unfold maxLen; omega) _ _ (keyS 97) rfl rfl hkey _ [] (plainElem_bool Tryz.underlying4 true) ?_; intro w1 hown1 hgrow1; have hb2 := Aside0.mk (hb1.out.grown hgrow1 (by have := BW.out.size; simp; omega) (fun k e => by cases e; exact Nat.le_refl _)); have hm2 := Aside0.mk hown1; clear hown1 hgrow1) | go_in)
      go_roundw
      case rel => exact ⟨1, by omega, by omega, rfl, ⟨hm2.out⟩, hb2⟩
      case measure => simp [intOf]
    · have hM1 := (show mapS wr w.heap.size 1 (nameD 1) from M.out).alloc (.cells #[.string ⟨#[98]⟩, .int .i64 1] 87)
      have hl := mapS_look hM1 98 nameD_at1
      have hb1 := Aside0.mk (below_alloc BW.out (.cells #[.string ⟨#[98]⟩, .int .i64 1] 87))
      have hkey : keyOf Tryz.prog 9 (.string ⟨#[98]⟩) = some (keyS 98) := WideMaps.keyOf_string_mk Tryz.underlying9 (show (1 : Nat) ≤ maxLen by unfold maxLen; omega)
      go_wp2_with (first | (at_mapUpdate; refine wpList_mapUpdate_own _ rfl _ _ _ 158 rfl 9 4 (Maps.string_keyed Tryz.underlying9) Tryz.underlying158 _ w.heap.size 1 (nameD 1) rfl hM1 (by unfold maxLen; omega) _ _ (keyS 98) rfl rfl hkey _ [] (plainElem_bool Tryz.underlying4 true) ?_; intro w1 hown1 hgrow1; have hb2 := Aside0.mk (hb1.out.grown hgrow1 (by have := BW.out.size; simp; omega) (fun k e => by cases e; exact Nat.le_refl _)); have hm2 := Aside0.mk hown1; clear hown1 hgrow1) | go_in)
      go_roundw
      case rel => exact ⟨2, by omega, by omega, rfl, ⟨hm2.out⟩, hb2⟩
      case measure => simp [intOf]
    · have hM1 := (show mapS wr w.heap.size 2 (nameD 2) from M.out).alloc (.cells #[.string ⟨#[99]⟩, .int .i64 1] 87)
      have hl := mapS_look hM1 99 nameD_at2
      have hb1 := Aside0.mk (below_alloc BW.out (.cells #[.string ⟨#[99]⟩, .int .i64 1] 87))
      have hkey : keyOf Tryz.prog 9 (.string ⟨#[99]⟩) = some (keyS 99) := WideMaps.keyOf_string_mk Tryz.underlying9 (show (1 : Nat) ≤ maxLen by unfold maxLen; omega)
      go_wp2_with (first | (at_mapUpdate; refine wpList_mapUpdate_own _ rfl _ _ _ 158 rfl 9 4 (Maps.string_keyed Tryz.underlying9) Tryz.underlying158 _ w.heap.size 2 (nameD 2) rfl hM1 (by unfold maxLen; omega) _ _ (keyS 99) rfl rfl hkey _ [] (plainElem_bool Tryz.underlying4 true) ?_; intro w1 hown1 hgrow1; have hb2 := Aside0.mk (hb1.out.grown hgrow1 (by have := BW.out.size; simp; omega) (fun k e => by cases e; exact Nat.le_refl _)); have hm2 := Aside0.mk hown1; clear hown1 hgrow1) | go_in)
      go_roundw
      case rel => exact ⟨3, by omega, by omega, rfl, ⟨hm2.out⟩, hb2⟩
      case measure => simp [intOf]
    · go_wp2
      go_ret
      exact ⟨rfl, BW.out⟩
end Go.Proofs.YtcliaokoganbaaaGreatDoor
