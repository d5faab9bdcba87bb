/-
  Part 6 of the proof of the card: lemmas and walks, joined by mergeclaim.py out of the texts CB.
-/
import Derived.Test.YtcliaokoganbaaaGreatDoorM05
import Derived.Lib.SliceRun
set_option linter.unusedVariables false
set_option linter.unusedSimpArgs false
namespace Go.Proofs.YtcliaokoganbaaaGreatDoor
open Go Go.RowKit Go.Shelf Go.Proofs.YtcliaokoganbaaaGreatDoorW.PrintWords Go.Proofs.YtcliaokoganbaaaGreatDoorW.PrintLast Go.Proofs.YtcliaokoganbaaaGreatDoorW.PrintMore
open Tq (Lot Box Want Take Ord Op)

/-! ### slices.Clone -/
theorem info96 : (Tryz.prog.info? 96).map (fun i => (i.zero, i.size, i.bytes)) = some (some (.agg #[.slice none 0 0, .int .i64 0, .int .i64 0, .slice none 0 0]), 4, 64) := by kernel_rfl
theorem kW_M_of_K {w w1 : World} {base : Nat} {ok : Nat → Prop} {x : Want} {cs : List Value} (h : kW.K w x cs) : kW.M w1 base ok x cs := by rw [kW_open h]; exact kW_mkM _ _ _ _
theorem kB_M_of_K {w w1 : World} {base : Nat} {ok : Nat → Prop} {x : Box} {cs : List Value} (h : kB.K w x cs) : kB.M w1 base ok x cs := by rw [kB_open h]; exact kB_mkM _ _ _ _
theorem kT_M_of_K {w w1 : World} {base : Nat} {ok : Nat → Prop} {x : Take} {cs : List Value} (h : kT.K w x cs) : kT.M w1 base ok x cs := by rw [kT_open h]; exact kT_mkM _ _ _ _
/-- The cells behind a slice. -/
def RawAt (w : World) (A : Option Addr) (n : Nat) (news : List Value) : Prop := 0 < n → ∃ ad, A = some ad ∧ ∀ j u, news[j]? = some u → w.cell? (ad.add j) = some u
theorem raw_of_C {α : Type} {d : Kd α} {w : World} {A : Option Addr} {n : Nat} {xs : List α} (h : d.C w A n xs) : ∃ inner, Reps (d.K w) d.sz xs inner ∧ RawAt w A n inner := by
  rcases Nat.eq_zero_or_pos n with h0 | h0
  · have : xs = [] := List.eq_nil_of_length_eq_zero (by have := h.1; omega)
    subst this
    exact ⟨[], Reps.none _ _, fun hp => by omega⟩
  · obtain ⟨ad, rfl, _⟩ := h.2.2 h0
    obtain ⟨inner, h1, h2⟩ := ReadsRow.inner_ h
    exact ⟨inner, h1, fun _ => ⟨ad, rfl, h2⟩⟩
theorem reps_one {α : Type} {d : Kd α} {w : World} {xs : List α} {inner : List Value} (h : Reps (d.K w) d.sz xs inner) (hs : 0 < d.sz) : ∀ u ∈ inner, u.oneCell' = true := by
  intro u hu
  obtain ⟨j, hj, rfl⟩ := List.getElem_of_mem hu
  have hl := h.1
  have hjx : j / d.sz < xs.length := by rw [Nat.div_lt_iff_lt_mul hs]; omega
  have hK := h.2 (j / d.sz) _ (List.getElem?_eq_getElem hjx)
  refine d.K_one hK _ ?_
  rw [List.mem_iff_getElem?]
  have hm := Nat.mod_lt j hs
  have hdm := Nat.div_add_mod j d.sz
  have he : j / d.sz * d.sz + j % d.sz = j := by rw [Nat.mul_comm]; exact hdm
  exact ⟨j % d.sz, by rw [List.getElem?_take, if_pos hm, List.getElem?_drop, he, List.getElem?_eq_getElem hj]⟩

set_option maxHeartbeats 1000000 in
set_option maxRecDepth 100000 in
theorem f45_raw (A : Option Addr) (n c : Nat) (news : List Value) (w : World) (hl : news.length = n * 3) (hn : n ≤ 9223372036854775807) (hbig : n * 24 ≤ 140737488355328) (hc : RawAt w A n news) (h1 : ∀ u ∈ news, u.oneCell' = true) :
    Calls Tryz.prog 45 #[.slice A n c] w fun e w' => ∃ v', e = .returned v' ∧ w'.ownsRow w.heap.size 100 3 v' n news ∧ Below w.heap.size w w' := by
  obtain ⟨i0, hi, hz0, hz1, hz2⟩ := info_parts P.info100
  have q := fun (w : World) (a : Option Addr) (n c n' c' : Nat) => Lib.run_eql_slice_nil (P := Tryz.prog) w _ _ a n c n' c' Tryz.underlying33
  rcases A with _ | ad
  · have h0 : n = 0 := by
      rcases Nat.eq_zero_or_pos n with h0 | h0
      · exact h0
      · obtain ⟨ad, h, _⟩ := hc h0; cases h
    subst h0
    have hn0 : news = [] := List.eq_nil_of_length_eq_zero (by omega)
    subst hn0
    clear hi hz0 hz1 hz2 hc
    go_enter Tryz.func45, Tryz.ntmps45
    go_wp2
    go_ret
    exact ⟨_, rfl, World.ownsRow_nil _ _ _ _, Below.refl _ _⟩
  · have hc' : ∀ j u, news[j]? = some u → w.cell? (ad.add j) = some u := by
      intro j u hj
      rcases Nat.eq_zero_or_pos n with h0 | h0
      · subst h0
        have hn0 : news = [] := List.eq_nil_of_length_eq_zero (by omega)
        subst hn0; simp at hj
      · obtain ⟨ad', h, hh⟩ := hc h0
        injection h with h; subst h
        exact hh j u hj
    have HC := Aside0.mk hc'
    have HL := Aside0.mk hl
    clear hc hc' hl
    go_enter Tryz.func45, Tryz.ntmps45
    go_wp2_with (at_builtin; refine wpList_append_own _ rfl _ _ 33 rfl w.heap.size 100 i0 _ 3 24 Tryz.underlying33 hi hz0 hz1 hz2 rfl (by decide) _ _ _ rfl (World.ownsRow_made w #[] 0 (Nat.le_refl _) (Nat.zero_le _) (by simp)) ad n c news rfl ?qc1 ?qc2 ?qc3 ?qc4 ?qc5 ?qc6 ?_)
    case qc1 => exact HL.out
    case qc2 => exact fun j u hj => Lib.cell?_alloc_some _ (HC.out j u hj)
    case qc3 => exact h1
    case qc4 => rw [Nat.zero_add]; exact hn
    case qc5 => rw [Nat.zero_add]; exact hbig
    case qc6 => simp
    intro v' w1 hown hgrow hnil
    go_wp2
    go_ret
    exact ⟨v', rfl, by simpa using hown, ((Below.refl _ w).alloc (Nat.le_refl _) _).grown hgrow (by simp) (by intro k hk; simp [Value.ownBlock] at hk; omega)⟩

set_option maxHeartbeats 1000000 in
set_option maxRecDepth 100000 in
theorem f49_raw (A : Option Addr) (n c : Nat) (news : List Value) (w : World) (hl : news.length = n * 3) (hn : n ≤ 9223372036854775807) (hbig : n * 24 ≤ 140737488355328) (hc : RawAt w A n news) (h1 : ∀ u ∈ news, u.oneCell' = true) :
    Calls Tryz.prog 49 #[.slice A n c] w fun e w' => ∃ v', e = .returned v' ∧ w'.ownsRow w.heap.size 60 3 v' n news ∧ Below w.heap.size w w' := by
  obtain ⟨i0, hi, hz0, hz1, hz2⟩ := info_parts P.info60
  have q := fun (w : World) (a : Option Addr) (n c n' c' : Nat) => Lib.run_eql_slice_nil (P := Tryz.prog) w _ _ a n c n' c' Tryz.underlying23
  rcases A with _ | ad
  · have h0 : n = 0 := by
      rcases Nat.eq_zero_or_pos n with h0 | h0
      · exact h0
      · obtain ⟨ad, h, _⟩ := hc h0; cases h
    subst h0
    have hn0 : news = [] := List.eq_nil_of_length_eq_zero (by omega)
    subst hn0
    clear hi hz0 hz1 hz2 hc
    go_enter Tryz.func49, Tryz.ntmps49
    go_wp2
    go_ret
    exact ⟨_, rfl, World.ownsRow_nil _ _ _ _, Below.refl _ _⟩
  · have hc' : ∀ j u, news[j]? = some u → w.cell? (ad.add j) = some u := by
      intro j u hj
      rcases Nat.eq_zero_or_pos n with h0 | h0
      · subst h0
        have hn0 : news = [] := List.eq_nil_of_length_eq_zero (by omega)
        subst hn0; simp at hj
      · obtain ⟨ad', h, hh⟩ := hc h0
        injection h with h; subst h
        exact hh j u hj
    have HC := Aside0.mk hc'
    have HL := Aside0.mk hl
    clear hc hc' hl
    go_enter Tryz.func49, Tryz.ntmps49
    go_wp2_with (at_builtin; refine wpList_append_own _ rfl _ _ 23 rfl w.heap.size 60 i0 _ 3 24 Tryz.underlying23 hi hz0 hz1 hz2 rfl (by decide) _ _ _ rfl (World.ownsRow_made w #[] 0 (Nat.le_refl _) (Nat.zero_le _) (by simp)) ad n c news rfl ?qc1 ?qc2 ?qc3 ?qc4 ?qc5 ?qc6 ?_)
    case qc1 => exact HL.out
    case qc2 => exact fun j u hj => Lib.cell?_alloc_some _ (HC.out j u hj)
    case qc3 => exact h1
    case qc4 => rw [Nat.zero_add]; exact hn
    case qc5 => rw [Nat.zero_add]; exact hbig
    case qc6 => simp
    intro v' w1 hown hgrow hnil
    go_wp2
    go_ret
    exact ⟨v', rfl, by simpa using hown, ((Below.refl _ w).alloc (Nat.le_refl _) _).grown hgrow (by simp) (by intro k hk; simp [Value.ownBlock] at hk; omega)⟩

set_option maxHeartbeats 1000000 in
set_option maxRecDepth 100000 in
theorem f97_raw (A : Option Addr) (n c : Nat) (news : List Value) (w : World) (hl : news.length = n * 2) (hn : n ≤ 9223372036854775807) (hbig : n * 16 ≤ 140737488355328) (hc : RawAt w A n news) (h1 : ∀ u ∈ news, u.oneCell' = true) :
    Calls Tryz.prog 97 #[.slice A n c] w fun e w' => ∃ v', e = .returned v' ∧ w'.ownsRow w.heap.size 66 2 v' n news ∧ Below w.heap.size w w' := by
  obtain ⟨i0, hi, hz0, hz1, hz2⟩ := info_parts P.info66
  have q := fun (w : World) (a : Option Addr) (n c n' c' : Nat) => Lib.run_eql_slice_nil (P := Tryz.prog) w _ _ a n c n' c' Tryz.underlying53
  rcases A with _ | ad
  · have h0 : n = 0 := by
      rcases Nat.eq_zero_or_pos n with h0 | h0
      · exact h0
      · obtain ⟨ad, h, _⟩ := hc h0; cases h
    subst h0
    have hn0 : news = [] := List.eq_nil_of_length_eq_zero (by omega)
    subst hn0
    clear hi hz0 hz1 hz2 hc
    go_enter Tryz.func97, Tryz.ntmps97
    go_wp2
    go_ret
    exact ⟨_, rfl, World.ownsRow_nil _ _ _ _, Below.refl _ _⟩
  · have hc' : ∀ j u, news[j]? = some u → w.cell? (ad.add j) = some u := by
      intro j u hj
      rcases Nat.eq_zero_or_pos n with h0 | h0
      · subst h0
        have hn0 : news = [] := List.eq_nil_of_length_eq_zero (by omega)
        subst hn0; simp at hj
      · obtain ⟨ad', h, hh⟩ := hc h0
        injection h with h; subst h
        exact hh j u hj
    have HC := Aside0.mk hc'
    have HL := Aside0.mk hl
    clear hc hc' hl
    go_enter Tryz.func97, Tryz.ntmps97
    go_wp2_with (at_builtin; refine wpList_append_own _ rfl _ _ 53 rfl w.heap.size 66 i0 _ 2 16 Tryz.underlying53 hi hz0 hz1 hz2 rfl (by decide) _ _ _ rfl (World.ownsRow_made w #[] 0 (Nat.le_refl _) (Nat.zero_le _) (by simp)) ad n c news rfl ?qc1 ?qc2 ?qc3 ?qc4 ?qc5 ?qc6 ?_)
    case qc1 => exact HL.out
    case qc2 => exact fun j u hj => Lib.cell?_alloc_some _ (HC.out j u hj)
    case qc3 => exact h1
    case qc4 => rw [Nat.zero_add]; exact hn
    case qc5 => rw [Nat.zero_add]; exact hbig
    case qc6 => simp
    intro v' w1 hown hgrow hnil
    go_wp2
    go_ret
    exact ⟨v', rfl, by simpa using hown, ((Below.refl _ w).alloc (Nat.le_refl _) _).grown hgrow (by simp) (by intro k hk; simp [Value.ownBlock] at hk; omega)⟩

set_option maxHeartbeats 1000000 in
set_option maxRecDepth 100000 in
theorem f96_raw (A : Option Addr) (n c : Nat) (news : List Value) (w : World) (hl : news.length = n * 1) (hn : n ≤ 9223372036854775807) (hbig : n * 24 ≤ 140737488355328) (hc : RawAt w A n news) (h1 : ∀ u ∈ news, u.oneCell' = true) :
    Calls Tryz.prog 96 #[.slice A n c] w fun e w' => ∃ v', e = .returned v' ∧ w'.ownsRow w.heap.size 53 1 v' n news ∧ Below w.heap.size w w' := by
  obtain ⟨i0, hi, hz0, hz1, hz2⟩ := info_parts P.info53
  have q := fun (w : World) (a : Option Addr) (n c n' c' : Nat) => Lib.run_eql_slice_nil (P := Tryz.prog) w _ _ a n c n' c' Tryz.underlying41
  rcases A with _ | ad
  · have h0 : n = 0 := by
      rcases Nat.eq_zero_or_pos n with h0 | h0
      · exact h0
      · obtain ⟨ad, h, _⟩ := hc h0; cases h
    subst h0
    have hn0 : news = [] := List.eq_nil_of_length_eq_zero (by omega)
    subst hn0
    clear hi hz0 hz1 hz2 hc
    go_enter Tryz.func96, Tryz.ntmps96
    go_wp2
    go_ret
    exact ⟨_, rfl, World.ownsRow_nil _ _ _ _, Below.refl _ _⟩
  · have hc' : ∀ j u, news[j]? = some u → w.cell? (ad.add j) = some u := by
      intro j u hj
      rcases Nat.eq_zero_or_pos n with h0 | h0
      · subst h0
        have hn0 : news = [] := List.eq_nil_of_length_eq_zero (by omega)
        subst hn0; simp at hj
      · obtain ⟨ad', h, hh⟩ := hc h0
        injection h with h; subst h
        exact hh j u hj
    have HC := Aside0.mk hc'
    have HL := Aside0.mk hl
    clear hc hc' hl
    go_enter Tryz.func96, Tryz.ntmps96
    go_wp2_with (at_builtin; refine wpList_append_own _ rfl _ _ 41 rfl w.heap.size 53 i0 _ 1 24 Tryz.underlying41 hi hz0 hz1 hz2 rfl (by decide) _ _ _ rfl (World.ownsRow_made w #[] 0 (Nat.le_refl _) (Nat.zero_le _) (by simp)) ad n c news rfl ?qc1 ?qc2 ?qc3 ?qc4 ?qc5 ?qc6 ?_)
    case qc1 => exact HL.out
    case qc2 => exact fun j u hj => Lib.cell?_alloc_some _ (HC.out j u hj)
    case qc3 => exact h1
    case qc4 => rw [Nat.zero_add]; exact hn
    case qc5 => rw [Nat.zero_add]; exact hbig
    case qc6 => simp
    intro v' w1 hown hgrow hnil
    go_wp2
    go_ret
    exact ⟨v', rfl, by simpa using hown, ((Below.refl _ w).alloc (Nat.le_refl _) _).grown hgrow (by simp) (by intro k hk; simp [Value.ownBlock] at hk; omega)⟩

set_option maxHeartbeats 1000000 in
set_option maxRecDepth 100000 in
theorem f44_raw (A : Option Addr) (n c : Nat) (news : List Value) (w : World) (hl : news.length = n * 4) (hn : n ≤ 9223372036854775807) (hbig : n * 64 ≤ 140737488355328) (hc : RawAt w A n news) (h1 : ∀ u ∈ news, u.oneCell' = true) :
    Calls Tryz.prog 44 #[.slice A n c] w fun e w' => ∃ v', e = .returned v' ∧ w'.ownsRow w.heap.size 96 4 v' n news ∧ Below w.heap.size w w' := by
  obtain ⟨i0, hi, hz0, hz1, hz2⟩ := info_parts info96
  have q := fun (w : World) (a : Option Addr) (n c n' c' : Nat) => Lib.run_eql_slice_nil (P := Tryz.prog) w _ _ a n c n' c' Tryz.underlying91
  rcases A with _ | ad
  · have h0 : n = 0 := by
      rcases Nat.eq_zero_or_pos n with h0 | h0
      · exact h0
      · obtain ⟨ad, h, _⟩ := hc h0; cases h
    subst h0
    have hn0 : news = [] := List.eq_nil_of_length_eq_zero (by omega)
    subst hn0
    clear hi hz0 hz1 hz2 hc
    go_enter Tryz.func44, Tryz.ntmps44
    go_wp2
    go_ret
    exact ⟨_, rfl, World.ownsRow_nil _ _ _ _, Below.refl _ _⟩
  · have hc' : ∀ j u, news[j]? = some u → w.cell? (ad.add j) = some u := by
      intro j u hj
      rcases Nat.eq_zero_or_pos n with h0 | h0
      · subst h0
        have hn0 : news = [] := List.eq_nil_of_length_eq_zero (by omega)
        subst hn0; simp at hj
      · obtain ⟨ad', h, hh⟩ := hc h0
        injection h with h; subst h
        exact hh j u hj
    have HC := Aside0.mk hc'
    have HL := Aside0.mk hl
    clear hc hc' hl
    go_enter Tryz.func44, Tryz.ntmps44
    go_wp2_with (at_builtin; refine wpList_append_own _ rfl _ _ 91 rfl w.heap.size 96 i0 _ 4 64 Tryz.underlying91 hi hz0 hz1 hz2 rfl (by decide) _ _ _ rfl (World.ownsRow_made w #[] 0 (Nat.le_refl _) (Nat.zero_le _) (by simp)) ad n c news rfl ?qc1 ?qc2 ?qc3 ?qc4 ?qc5 ?qc6 ?_)
    case qc1 => exact HL.out
    case qc2 => exact fun j u hj => Lib.cell?_alloc_some _ (HC.out j u hj)
    case qc3 => exact h1
    case qc4 => rw [Nat.zero_add]; exact hn
    case qc5 => rw [Nat.zero_add]; exact hbig
    case qc6 => simp
    intro v' w1 hown hgrow hnil
    go_wp2
    go_ret
    exact ⟨v', rfl, by simpa using hown, ((Below.refl _ w).alloc (Nat.le_refl _) _).grown hgrow (by simp) (by intro k hk; simp [Value.ownBlock] at hk; omega)⟩

theorem f45_any (A : Option Addr) (c : Nat) (xs : List Want) (w : World) (hbig : xs.length * 24 ≤ 140737488355328) (hC : kW.C w A xs.length xs) :
    Calls Tryz.prog 45 #[.slice A xs.length c] w fun e w' => ∃ v', e = .returned v' ∧ kW.R 100 w' w.heap.size (fun i => w.heap.size ≤ i) v' xs ∧ Below w.heap.size w w' := by
  obtain ⟨inner, hr, hraw⟩ := raw_of_C hC
  refine (f45_raw A xs.length c inner w hr.1 hC.2.1 hbig hraw (reps_one hr (by decide))).mono ?_
  rintro e w' ⟨v', rfl, hown, hb⟩
  refine ⟨v', rfl, ⟨fun i hi => own_base hown i hi, inner, hown, hr.imp_ (fun x cs h => ?_)⟩, hb⟩
  exact kW_M_of_K h

theorem f49_any (A : Option Addr) (c : Nat) (xs : List Box) (w : World) (hbig : xs.length * 24 ≤ 140737488355328) (hC : kB.C w A xs.length xs) :
    Calls Tryz.prog 49 #[.slice A xs.length c] w fun e w' => ∃ v', e = .returned v' ∧ kB.R 60 w' w.heap.size (fun i => w.heap.size ≤ i) v' xs ∧ Below w.heap.size w w' := by
  obtain ⟨inner, hr, hraw⟩ := raw_of_C hC
  refine (f49_raw A xs.length c inner w hr.1 hC.2.1 hbig hraw (reps_one hr (by decide))).mono ?_
  rintro e w' ⟨v', rfl, hown, hb⟩
  refine ⟨v', rfl, ⟨fun i hi => own_base hown i hi, inner, hown, hr.imp_ (fun x cs h => ?_)⟩, hb⟩
  exact kB_M_of_K h

theorem f97_any (A : Option Addr) (c : Nat) (xs : List Take) (w : World) (hbig : xs.length * 16 ≤ 140737488355328) (hC : kT.C w A xs.length xs) :
    Calls Tryz.prog 97 #[.slice A xs.length c] w fun e w' => ∃ v', e = .returned v' ∧ kT.R 66 w' w.heap.size (fun i => w.heap.size ≤ i) v' xs ∧ Below w.heap.size w w' := by
  obtain ⟨inner, hr, hraw⟩ := raw_of_C hC
  refine (f97_raw A xs.length c inner w hr.1 hC.2.1 hbig hraw (reps_one hr (by decide))).mono ?_
  rintro e w' ⟨v', rfl, hown, hb⟩
  refine ⟨v', rfl, ⟨fun i hi => own_base hown i hi, inner, hown, hr.imp_ (fun x cs h => ?_)⟩, hb⟩
  exact kT_M_of_K h
end Go.Proofs.YtcliaokoganbaaaGreatDoor
