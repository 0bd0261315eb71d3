/- The program's chains in a complex: the cells of a dimension; the cells of a chain. No condition. -/
import Derived.Test.YtmnjglpieghdkaaGreatV5
import Derived.Test.YtmnjglpieghdkaaGreatV4
import Derived.Test.YtmnjglpieghdkaaGreatRows
section
set_option linter.unusedVariables false
set_option linter.unusedSimpArgs false
open Go Go.Am Go.Proofs
namespace Go.Am
set_option linter.unusedSimpArgs false
theorem aH_nil {R c : Nat} {M U V : List (List Int)} : (fun id => (wR0 R c :: wH R c M U V)[id]?) = aH R c M U V [] := by
  funext id
  unfold aH famH
  rw [if_neg (by omega), aL_eq, List.append_nil, Nat.sub_zero]
set_option maxHeartbeats 16000000 in
set_option maxRecDepth 10000 in
theorem r12Negate {R c i : Nat} {M U V : List (List Int)} (hs : WS R c M U V) (hR : R ≤ 1000) (hc : c ≤ 1000) (hi : i < R) (hM : ∀ r t, Sy (ent M r t)) (hU : ∀ r t, Sy (ent U r t)) (hV : ∀ r t, Sy (ent V r t)) :
    TSpec Tryz.prog 100 (.ptr 0 0) (wR0 R c) (wH R c M U V) [.i .i64 (i : Int)] (wR0 R c) (wH R c (ngR R c M i) (ngR R R U i) (ngV R V i)) (.tp []) := by
  refine tspec_of0 (N := 100) follows_mixed Tryz.func100 rfl rfl rfl rfl (by kernel_rfl) (by kernel_rfl) (by simp) ?_
  have hl : (wH R c M U V).length = 3 * R + 3 := wHs_len hs _ _ _
  simp (config := { maxSteps := 1000000 }) [-List.map_map, -List.mapM_map, ↓KW, StT, hl, aH_nil]
  rw [show 3 * R + 3 + 1 = 3 * R + 4 by omega]
  refine loopP_inv (fun y : Nat × List (List Int) => y.1 ≤ c ∧ Sh R c y.2 ∧ ∀ r t, r < R → t < c → ent y.2 r t = ngF M i y.1 r t) (fun y => ⟨sltF [(0, .ptr 0 0), (1, .d (.i .i64 (i : Int))), (4, .d (.i .i64 (y.1 : Int)))], aH R c y.2 U V [], 3 * R + 4⟩) (fun y => c - y.1)
    (0, M) ⟨Nat.zero_le _, hs.m, fun r t hr ht => (if_neg (by omega)).symm⟩ ?_ ?_
  · refine ⟨_, wk_id ?_ (fun id o' ho => ⟨o', ho, aH_self hs (fun o ho => by cases ho) ho⟩) (fun id hid => aH_top hs hid) (by simp)⟩
    have g0 := aH_some (x := []) hs (id := 0) (by omega)
    simp [-List.map_map, upd, inj1, Γ0, g0]
  · rintro ⟨s, M1⟩ ⟨hsb, hM1, hME⟩
    simp only at hsb hM1 hME
    have hs0 : WS R c M1 U V := ⟨hM1, hs.u, hs.v⟩
    have hHr : aH R c M1 U V [] 0 = some (.cells 133 [.d (.i .i64 (R : Int)), .d (.i .i64 (c : Int)), .own 1 0 R 1, .d (.i .i64 (R : Int)), .d (.i .i64 (R : Int)), .own (R + 2) 0 R 1, .d (.i .i64 (R : Int)), .d (.i .i64 (R : Int)), .own (2 * R + 3) 0 R 1]) := rfl
    by_cases hgo : s < c
    · have q1 : (s : Int) < c := by omega
      have hw : IntKind.i64.wrap ((s : Int) + 1) = (s : Int) + 1 := wrap_i64 (by omega) (by omega)
      have hHh : aH R c M1 U V [] 1 = some (.cells 40 (hdr c R 2)) := aH_hM hs0
      obtain ⟨vi, hvi, hvli, hvei⟩ := hM1.get hi
      have hHi : aH R c M1 U V [] (i + 2) = some (.cells 51 ((vcs vi).map .d)) := aH_rM hvi
      have hgi := hdr_get (c := c) (b := 2) hi
      have hggi : ∀ h : i < (hdr c R 2).length, (hdr c R 2)[i]'h = .own (i + 2) 0 c 2 := fun h => Option.some.inj ((List.getElem?_eq_getElem h).symm.trans hgi)
      have hvci := vcs_len vi
      rw [hvli] at hvci
      have hbs : s * 2 + 2 ≤ c * 2 := by omega
      have hz0 : ent M1 i s = ent M i s := by rw [hME i s (by omega) (by omega)]; exact if_neg (by omega)
      have hrd0 : List.take 2 (List.drop (s * 2) ((vcs vi).map AV.d)) = [.d (.b (decide (ent M i s < 0))), .d (encM (digs (ent M i s).natAbs))] := by
        rw [← hz0, ← hvei s, ← List.map_drop, ← List.map_take, vcs_get2 (z := vi.getD s 0) (by rw [List.getD_eq_getElem?_getD, List.getElem?_eq_getElem (by omega)]; rfl)]; rfl
      have hzs0 : Sy (ent M i s) := hM i s
      have hneg := r01NegB (ent M i s) (Nat.le_trans hzs0 (by decide))
      obtain ⟨z, hZ⟩ : ∃ z, -ent M i s = z := ⟨_, rfl⟩
      rw [hZ] at hneg
      have hM2 : Sh R c (M1.set i (vi.set s z)) := ent_set_sh hM1 hvi
      have hs1 : WS R c (M1.set i (vi.set s z)) U V := ⟨hM2, hs.u, hs.v⟩
      have hupd : upd (aH R c M1 U V []) (i + 2) (some (.cells 51 ((vcs (vi.set s z)).map .d))) = aH R c (M1.set i (vi.set s z)) U V [] := aH_updM hs0 hi
      have hlay := lay_row (v := vi) z (j := s) (by rw [hvli]; omega)
      have hgl := hdr_len c R 2
      generalize hz0g : ent M i s = z0 at *
      generalize hHg : aH R c M1 U V [] = H at *
      generalize hdr c R 2 = cellsR at *
      simp (config := { maxSteps := 1000000 }) [-List.map_map, -List.mapM_map, ↓KW, q1, hHr, hHh, hHi, hgi, hggi, hvci, hi, hbs, hgo, hrd0, hgl, cellsA_encM, one_encM, inj1_encM, inj_encM, kills_encM]
      refine callP_intro (ds := [encZ z0]) (by rfl) hneg ?_
      rw [encZ_eq]
      simp (config := { maxSteps := 1000000 }) [-List.map_map, -List.mapM_map, ↓KW, hHr, hHh, hHi, hgi, hggi, hvci, hi, hbs, hgo, hrd0, hgl, hw, hlay, cellsA_encM, one_encM, inj1_encM, inj_encM, kills_encM]
      rw [hupd]
      refine nxt_intro (s + 1, M1.set i (vi.set s z)) ⟨hgo, hM2, fun r t hr ht => ?_⟩ (Nat.sub_lt_sub_left hgo (Nat.lt_succ_self _)) ?_
      · rw [ent_set hM1 hi (by omega) hvi, hME r t hr ht, ← hZ]
        unfold ngF
        by_cases e : r = i ∧ t = s
        · obtain ⟨e1, e2⟩ := e
          subst e1; subst e2
          rw [if_pos ⟨rfl, rfl⟩, if_pos (by omega)]
          rw [← hz0g]
        · rw [if_neg e]
          split
          · rw [if_pos (by omega)]
          · rw [if_neg (by omega)]
      · refine ⟨_, wk_id ?_ (fun id o' ho => ⟨o', ho, aH_self hs1 (fun o ho => by cases ho) ho⟩) (fun id hid => aH_top hs1 hid) (by simp)⟩
        have g0 := aH_some (x := []) hs1 (id := 0) (by omega)
        simp [-List.map_map, upd, inj1, Γ0, g0]
    · have q1 : ¬ (s : Int) < c := by omega
      have es : s = c := by omega
      have hNe : M1 = ngR R c M i := mk_of hM1 fun r t hr ht => by rw [hME r t hr ht, es]
      have hsome := fun id => aH_some (x := []) hs0 (id := id)
      have hself := fun (H : Nat → Option HO) id o => aH_self (x := []) hs0 (fun o ho => by cases ho) (H := H) (id := id) (o := o)
      have htop := fun id => aH_top (x := []) hs0 (id := id)
      clear hM1 hME
      rw [← hNe]
      clear hNe
      generalize hHg : aH R c M1 U V [] = H at *
      simp (config := { maxSteps := 1000000 }) [-List.map_map, -List.mapM_map, ↓KW, q1, hHr]
      rw [← hHg]
      have hs := hs0
      clear hs0 hHr hself hsome htop hHg
      refine loopP_inv (fun y : Nat × List (List Int) => y.1 ≤ R ∧ Sh R R y.2 ∧ ∀ r t, r < R → t < R → ent y.2 r t = ngF U i y.1 r t) (fun y => ⟨sltF [(0, .ptr 0 0), (1, .d (.i .i64 (i : Int))), (5, .d (.i .i64 (y.1 : Int)))], aH R c M1 y.2 V [], 3 * R + 4⟩) (fun y => R - y.1)
        (0, U) ⟨Nat.zero_le _, hs.u, fun r t hr ht => (if_neg (by omega)).symm⟩ ?_ ?_
      · refine ⟨_, wk_id ?_ (fun id o' ho => ⟨o', ho, aH_self hs (fun o ho => by cases ho) ho⟩) (fun id hid => aH_top hs hid) (by simp)⟩
        have g0 := aH_some (x := []) hs (id := 0) (by omega)
        simp [-List.map_map, upd, inj1, Γ0, g0]
      · rintro ⟨s, U1⟩ ⟨hsb, hM1, hME⟩
        simp only at hsb hM1 hME
        have hs0 : WS R c M1 U1 V := ⟨hs.m, hM1, hs.v⟩
        have hHr : aH R c M1 U1 V [] 0 = some (.cells 133 [.d (.i .i64 (R : Int)), .d (.i .i64 (c : Int)), .own 1 0 R 1, .d (.i .i64 (R : Int)), .d (.i .i64 (R : Int)), .own (R + 2) 0 R 1, .d (.i .i64 (R : Int)), .d (.i .i64 (R : Int)), .own (2 * R + 3) 0 R 1]) := rfl
        by_cases hgo : s < R
        · have q1 : (s : Int) < R := by omega
          have hw : IntKind.i64.wrap ((s : Int) + 1) = (s : Int) + 1 := wrap_i64 (by omega) (by omega)
          have hHh : aH R c M1 U1 V [] (R + 2) = some (.cells 40 (hdr R R (R + 3))) := aH_hU hs0
          obtain ⟨vi, hvi, hvli, hvei⟩ := hM1.get hi
          have hHi : aH R c M1 U1 V [] (i + (R + 3)) = some (.cells 51 ((vcs vi).map .d)) := aH_rU hs0 hvi
          have hgi := hdr_get (c := R) (b := (R + 3)) hi
          have hggi : ∀ h : i < (hdr R R (R + 3)).length, (hdr R R (R + 3))[i]'h = .own (i + (R + 3)) 0 R 2 := fun h => Option.some.inj ((List.getElem?_eq_getElem h).symm.trans hgi)
          have hvci := vcs_len vi
          rw [hvli] at hvci
          have hbs : s * 2 + 2 ≤ R * 2 := by omega
          have hz0 : ent U1 i s = ent U i s := by rw [hME i s (by omega) (by omega)]; exact if_neg (by omega)
          have hrd0 : List.take 2 (List.drop (s * 2) ((vcs vi).map AV.d)) = [.d (.b (decide (ent U i s < 0))), .d (encM (digs (ent U i s).natAbs))] := by
            rw [← hz0, ← hvei s, ← List.map_drop, ← List.map_take, vcs_get2 (z := vi.getD s 0) (by rw [List.getD_eq_getElem?_getD, List.getElem?_eq_getElem (by omega)]; rfl)]; rfl
          have hzs0 : Sy (ent U i s) := hU i s
          have hneg := r01NegB (ent U i s) (Nat.le_trans hzs0 (by decide))
          obtain ⟨z, hZ⟩ : ∃ z, -ent U i s = z := ⟨_, rfl⟩
          rw [hZ] at hneg
          have hM2 : Sh R R (U1.set i (vi.set s z)) := ent_set_sh hM1 hvi
          have hs1 : WS R c M1 (U1.set i (vi.set s z)) V := ⟨hs.m, hM2, hs.v⟩
          have hupd : upd (aH R c M1 U1 V []) (i + (R + 3)) (some (.cells 51 ((vcs (vi.set s z)).map .d))) = aH R c M1 (U1.set i (vi.set s z)) V [] := aH_updU hs0 hi
          have hlay := lay_row (v := vi) z (j := s) (by rw [hvli]; omega)
          have hgl := hdr_len R R (R + 3)
          generalize hz0g : ent U i s = z0 at *
          generalize hHg : aH R c M1 U1 V [] = H at *
          generalize hdr R R (R + 3) = cellsR at *
          simp (config := { maxSteps := 1000000 }) [-List.map_map, -List.mapM_map, ↓KW, q1, hHr, hHh, hHi, hgi, hggi, hvci, hi, hbs, hgo, hrd0, hgl, cellsA_encM, one_encM, inj1_encM, inj_encM, kills_encM]
          refine callP_intro (ds := [encZ z0]) (by rfl) hneg ?_
          rw [encZ_eq]
          simp (config := { maxSteps := 1000000 }) [-List.map_map, -List.mapM_map, ↓KW, hHr, hHh, hHi, hgi, hggi, hvci, hi, hbs, hgo, hrd0, hgl, hw, hlay, cellsA_encM, one_encM, inj1_encM, inj_encM, kills_encM]
          rw [hupd]
          refine nxt_intro (s + 1, U1.set i (vi.set s z)) ⟨hgo, hM2, fun r t hr ht => ?_⟩ (Nat.sub_lt_sub_left hgo (Nat.lt_succ_self _)) ?_
          · rw [ent_set hM1 hi (by omega) hvi, hME r t hr ht, ← hZ]
            unfold ngF
            by_cases e : r = i ∧ t = s
            · obtain ⟨e1, e2⟩ := e
              subst e1; subst e2
              rw [if_pos ⟨rfl, rfl⟩, if_pos (by omega)]
              rw [← hz0g]
            · rw [if_neg e]
              split
              · rw [if_pos (by omega)]
              · rw [if_neg (by omega)]
          · refine ⟨_, wk_id ?_ (fun id o' ho => ⟨o', ho, aH_self hs1 (fun o ho => by cases ho) ho⟩) (fun id hid => aH_top hs1 hid) (by simp)⟩
            have g0 := aH_some (x := []) hs1 (id := 0) (by omega)
            simp [-List.map_map, upd, inj1, Γ0, g0]
        · have q1 : ¬ (s : Int) < R := by omega
          have es : s = R := by omega
          have hNe : U1 = ngR R R U i := mk_of hM1 fun r t hr ht => by rw [hME r t hr ht, es]
          have hsome := fun id => aH_some (x := []) hs0 (id := id)
          have hself := fun (H : Nat → Option HO) id o => aH_self (x := []) hs0 (fun o ho => by cases ho) (H := H) (id := id) (o := o)
          have htop := fun id => aH_top (x := []) hs0 (id := id)
          clear hM1 hME
          rw [← hNe]
          clear hNe
          generalize hHg : aH R c M1 U1 V [] = H at *
          simp (config := { maxSteps := 1000000 }) [-List.map_map, -List.mapM_map, ↓KW, q1, hHr]
          rw [← hHg]
          have hs := hs0
          clear hs0 hHr hself hsome htop hHg
          refine loopP_inv (fun y : Nat × List (List Int) => y.1 ≤ R ∧ Sh R R y.2 ∧ ∀ r t, r < R → t < R → ent y.2 r t = ngC V i y.1 r t) (fun y => ⟨sltF [(0, .ptr 0 0), (1, .d (.i .i64 (i : Int))), (6, .d (.i .i64 (y.1 : Int)))], aH R c M1 U1 y.2 [], 3 * R + 4⟩) (fun y => R - y.1)
            (0, V) ⟨Nat.zero_le _, hs.v, fun r t hr ht => (if_neg (by omega)).symm⟩ ?_ ?_
          · refine ⟨_, wk_id ?_ (fun id o' ho => ⟨o', ho, aH_self hs (fun o ho => by cases ho) ho⟩) (fun id hid => aH_top hs hid) (by simp)⟩
            have g0 := aH_some (x := []) hs (id := 0) (by omega)
            simp [-List.map_map, upd, inj1, Γ0, g0]
          · rintro ⟨s, V1⟩ ⟨hsb, hM1, hME⟩
            simp only at hsb hM1 hME
            have hs0 : WS R c M1 U1 V1 := ⟨hs.m, hs.u, hM1⟩
            have hHr : aH R c M1 U1 V1 [] 0 = some (.cells 133 [.d (.i .i64 (R : Int)), .d (.i .i64 (c : Int)), .own 1 0 R 1, .d (.i .i64 (R : Int)), .d (.i .i64 (R : Int)), .own (R + 2) 0 R 1, .d (.i .i64 (R : Int)), .d (.i .i64 (R : Int)), .own (2 * R + 3) 0 R 1]) := rfl
            by_cases hgo : s < R
            · have q1 : (s : Int) < R := by omega
              have hw : IntKind.i64.wrap ((s : Int) + 1) = (s : Int) + 1 := wrap_i64 (by omega) (by omega)
              have hHh : aH R c M1 U1 V1 [] (2 * R + 3) = some (.cells 40 (hdr R R (2 * R + 4))) := aH_hV hs0
              obtain ⟨vs, hvs, hvls, hves⟩ := hM1.get hgo
              have hHs : aH R c M1 U1 V1 [] (s + (2 * R + 4)) = some (.cells 51 ((vcs vs).map .d)) := aH_rV hs0 hvs
              have hgs := hdr_get (c := R) (b := (2 * R + 4)) hgo
              have hggs : ∀ h : s < (hdr R R (2 * R + 4)).length, (hdr R R (2 * R + 4))[s]'h = .own (s + (2 * R + 4)) 0 R 2 := fun h => Option.some.inj ((List.getElem?_eq_getElem h).symm.trans hgs)
              have hvcs := vcs_len vs
              rw [hvls] at hvcs
              have hbi : i * 2 + 2 ≤ R * 2 := by omega
              have hz0 : ent V1 s i = ent V s i := by rw [hME s i (by omega) (by omega)]; exact if_neg (by omega)
              have hrd0 : List.take 2 (List.drop (i * 2) ((vcs vs).map AV.d)) = [.d (.b (decide (ent V s i < 0))), .d (encM (digs (ent V s i).natAbs))] := by
                rw [← hz0, ← hves i, ← List.map_drop, ← List.map_take, vcs_get2 (z := vs.getD i 0) (by rw [List.getD_eq_getElem?_getD, List.getElem?_eq_getElem (by omega)]; rfl)]; rfl
              have hzs0 : Sy (ent V s i) := hV s i
              have hneg := r01NegB (ent V s i) (Nat.le_trans hzs0 (by decide))
              obtain ⟨z, hZ⟩ : ∃ z, -ent V s i = z := ⟨_, rfl⟩
              rw [hZ] at hneg
              have hM2 : Sh R R (V1.set s (vs.set i z)) := ent_set_sh hM1 hvs
              have hs1 : WS R c M1 U1 (V1.set s (vs.set i z)) := ⟨hs.m, hs.u, hM2⟩
              have hupd : upd (aH R c M1 U1 V1 []) (s + (2 * R + 4)) (some (.cells 51 ((vcs (vs.set i z)).map .d))) = aH R c M1 U1 (V1.set s (vs.set i z)) [] := aH_updV hs0 hgo
              have hlay := lay_row (v := vs) z (j := i) (by rw [hvls]; omega)
              have hgl := hdr_len R R (2 * R + 4)
              generalize hz0g : ent V s i = z0 at *
              generalize hHg : aH R c M1 U1 V1 [] = H at *
              generalize hdr R R (2 * R + 4) = cellsR at *
              simp (config := { maxSteps := 1000000 }) [-List.map_map, -List.mapM_map, ↓KW, q1, hHr, hHh, hHs, hgs, hggs, hvcs, hgo, hbi, hi, hrd0, hgl, cellsA_encM, one_encM, inj1_encM, inj_encM, kills_encM]
              refine callP_intro (ds := [encZ z0]) (by rfl) hneg ?_
              rw [encZ_eq]
              simp (config := { maxSteps := 1000000 }) [-List.map_map, -List.mapM_map, ↓KW, hHr, hHh, hHs, hgs, hggs, hvcs, hgo, hbi, hi, hrd0, hgl, hw, hlay, cellsA_encM, one_encM, inj1_encM, inj_encM, kills_encM]
              rw [hupd]
              refine nxt_intro (s + 1, V1.set s (vs.set i z)) ⟨hgo, hM2, fun r t hr ht => ?_⟩ (Nat.sub_lt_sub_left hgo (Nat.lt_succ_self _)) ?_
              · rw [ent_set hM1 hgo (by omega) hvs, hME r t hr ht, ← hZ]
                unfold ngC
                by_cases e : r = s ∧ t = i
                · obtain ⟨e1, e2⟩ := e
                  subst e1; subst e2
                  rw [if_pos ⟨rfl, rfl⟩, if_pos (by omega)]
                  rw [← hz0g]
                · rw [if_neg e]
                  split
                  · rw [if_pos (by omega)]
                  · rw [if_neg (by omega)]
              · refine ⟨_, wk_id ?_ (fun id o' ho => ⟨o', ho, aH_self hs1 (fun o ho => by cases ho) ho⟩) (fun id hid => aH_top hs1 hid) (by simp)⟩
                have g0 := aH_some (x := []) hs1 (id := 0) (by omega)
                simp [-List.map_map, upd, inj1, Γ0, g0]
            · have q1 : ¬ (s : Int) < R := by omega
              have es : s = R := by omega
              have hNe : V1 = ngV R V i := mk_of hM1 fun r t hr ht => by rw [hME r t hr ht, es]
              have hsome := fun id => aH_some (x := []) hs0 (id := id)
              have hself := fun (H : Nat → Option HO) id o => aH_self (x := []) hs0 (fun o ho => by cases ho) (H := H) (id := id) (o := o)
              have htop := fun id => aH_top (x := []) hs0 (id := id)
              clear hM1 hME
              rw [← hNe]
              clear hNe
              generalize hHg : aH R c M1 U1 V1 [] = H at *
              simp (config := { maxSteps := 1000000 }) [-List.map_map, -List.mapM_map, ↓KW, q1, hHr]
              rw [← hHg]
              exact aH_end hs0 (Nat.succ_ne_zero _)
end Go.Am
end

section
set_option linter.unusedVariables false
set_option linter.unusedSimpArgs false
open Go Go.Am Go.Proofs
namespace Go.Am
set_option linter.unusedSimpArgs false
/-- Two slices of a header exchanged. -/
def hdsw (c n b i j : Nat) : List AV := lay (lay (hdr c n b) i [.own (j + b) 0 c 2]) j [.own (i + b) 0 c 2]
theorem hdsw_len {c n b i j : Nat} (hi : i < n) (hj : j < n) : (hdsw c n b i j).length = n := by
  unfold hdsw
  have h1 : (lay (hdr c n b) i [.own (j + b) 0 c 2]).length = n := by rw [lay_length (by rw [hdr_len]; exact hi), hdr_len]
  rw [lay_length (by rw [h1]; exact hj), h1]
theorem hdsw_get {c n b i j k : Nat} (hi : i < n) (hj : j < n) (hk : k < n) : (hdsw c n b i j)[k]? = some (.own (swp i j k + b) 0 c 2) := by
  unfold hdsw
  have h1 : (lay (hdr c n b) i [.own (j + b) 0 c 2]).length = n := by rw [lay_length (by rw [hdr_len]; exact hi), hdr_len]
  rw [lay_get (by rw [h1]; exact hj), lay_get (by rw [hdr_len]; exact hi)]
  simp only [List.length_singleton]
  unfold swp
  by_cases e1 : k = j
  · subst e1
    rw [if_pos (by omega), Nat.sub_self]
    by_cases e2 : k = i
    · subst e2; rw [if_pos rfl]; rfl
    · rw [if_neg e2, if_pos rfl]; rfl
  · rw [if_neg (by omega)]
    by_cases e2 : k = i
    · subst e2; rw [if_pos (by omega), if_pos rfl, Nat.sub_self]; rfl
    · rw [if_neg (by omega), if_neg e2, if_neg e1, hdr_get hk]
theorem swR_get {R c i j t : Nat} {M : List (List Int)} (h : Sh R c M) (hi : i < R) (hj : j < R) (ht : t < R) : (swR R c M i j)[t]? = M[swp i j t]? := by
  obtain ⟨v, h1, h2, h3⟩ := (mk_sh R c fun r t => ent M (swp i j r) t).get ht
  obtain ⟨v', g1, g2, g3⟩ := h.get (swp_lt hi hj ht)
  unfold swR
  rw [h1, g1]
  congr 1
  refine List.ext_getElem (by rw [h2, g2]) fun s a1 a2 => ?_
  have e1 := h3 s
  have e2 := g3 s
  rw [mk_ent _ ht (by omega)] at e1
  rw [List.getD_eq_getElem?_getD, List.getElem?_eq_getElem a1] at e1
  rw [List.getD_eq_getElem?_getD, List.getElem?_eq_getElem a2] at e2
  simp only [Option.getD_some] at e1 e2
  rw [e1, e2]
theorem app_at {α : Type} {a b : List α} {n k : Nat} (h : a.length = n) : (a ++ b)[k + n]? = b[k]? := by
  rw [List.getElem?_append_right (by omega), h, Nat.add_sub_cancel]
/-- The numbers of rows exchanged. -/
def swN (R i j : Nat) (id : Nat) : Nat := if 2 ≤ id ∧ id < R + 2 then swp i j (id - 2) + 2 else if R + 3 ≤ id ∧ id < 2 * R + 3 then swp i j (id - (R + 3)) + (R + 3) else id
/-- The headers exchanged: the same as the rows exchanged. -/
theorem wk_sw {R c i j n : Nat} {M U V : List (List Int)} {Γ : Nat → AV} {sl : List (Nat × AV)} {H : Nat → Option HO} (hs : WS R c M U V) (hi : i < R) (hj : j < R)
    (h1 : H 1 = some (.cells 40 (hdsw c R 2 i j))) (h2 : H (R + 2) = some (.cells 40 (hdsw R R (R + 3) i j))) (ho : ∀ id, id ≠ 1 → id ≠ R + 2 → H id = aH R c M U V [] id)
    (hslot : slotsOk H (aH R c (swR R c M i j) (swR R R U i j) V []) (swN R i j) Γ sl) : ∃ ρ, Wk ⟨Γ, H, n + 1⟩ ⟨sltF sl, aH R c (swR R c M i j) (swR R R U i j) V [], 3 * R + 4⟩ ρ := by
  have hs' : WS R c (swR R c M i j) (swR R R U i j) V := ⟨mk_sh _ _ _, mk_sh _ _ _, hs.v⟩
  have hlen := aL_len (x := []) hs'
  have hsome := fun id => aH_some (x := []) hs' (id := id)
  have hge : ∀ id, (aH R c (swR R c M i j) (swR R R U i j) V [] id).isSome = true → id < 3 * R + 4 := fun id h => by
    have := (famH_lt h).2
    rw [hlen] at this; simpa using this
  have n2 : ∀ t, t < R → swN R i j (t + 2) = swp i j t + 2 := fun t ht => by unfold swN; rw [if_pos (by omega), Nat.add_sub_cancel]
  have n3 : ∀ t, t < R → swN R i j (t + (R + 3)) = swp i j t + (R + 3) := fun t ht => by unfold swN; rw [if_neg (by omega), if_pos (by omega), Nat.add_sub_cancel]
  have n0 : ∀ id, id < 2 → swN R i j id = id := fun id h => by unfold swN; rw [if_neg (by omega), if_neg (by omega)]
  have n1 : swN R i j (R + 2) = R + 2 := by unfold swN; rw [if_neg (by omega), if_neg (by omega)]
  have n4 : ∀ id, 2 * R + 3 ≤ id → swN R i j id = id := fun id h => by unfold swN; rw [if_neg (by omega), if_neg (by omega)]
  have hk : ∀ t, t < R → swp i j t < R := fun t ht => swp_lt hi hj ht
  have cases5 : ∀ id, id < 3 * R + 4 → id = 0 ∨ id = 1 ∨ (∃ t, t < R ∧ id = t + 2) ∨ id = R + 2 ∨ (∃ t, t < R ∧ id = t + (R + 3)) ∨ 2 * R + 3 ≤ id := fun id h => by
    by_cases a : id < 2
    · omega
    · by_cases b : id < R + 2
      · exact .inr (.inr (.inl ⟨id - 2, by omega, by omega⟩))
      · by_cases d : id = R + 2
        · exact .inr (.inr (.inr (.inl d)))
        · by_cases f : id < 2 * R + 3
          · exact .inr (.inr (.inr (.inr (.inl ⟨id - (R + 3), by omega, by omega⟩))))
          · exact .inr (.inr (.inr (.inr (.inr (by omega)))))
  refine ⟨_, wk_gen (swN R i j) hslot (fun id o' h => ?_) (fun id id' g1 g2 e => ?_) (fun _ => n0 0 (by omega)) (fun id hid => aH_top hs' hid) (by omega)⟩
  · show ∃ o, H (swN R i j id) = some o ∧ SubO H _ (swN R i j) o o'
    have hid := hge id (by rw [h]; rfl)
    rcases cases5 id hid with rfl | rfl | ⟨t, ht, rfl⟩ | rfl | ⟨t, ht, rfl⟩ | hbig
    · rw [n0 0 (by omega), ho 0 (by omega) (by omega)]
      rw [aH_root] at h
      injection h with h; subst h
      have m1 := n0 1 (by omega)
      have m2 := n4 (2 * R + 3) (by omega)
      have s1 := hsome 1 (by omega)
      have s2 := hsome (R + 2) (by omega)
      have s3 := hsome (2 * R + 3) (by omega)
      refine ⟨_, aH_root, ?_⟩
      unfold wR0 wRt
      simp [-List.map_map, upd, inj1, Γ0, ]
      exact ⟨⟨m1.symm, rfl, rfl, rfl, s1⟩, ⟨n1.symm, rfl, rfl, rfl, s2⟩, ⟨m2.symm, rfl, rfl, rfl, s3⟩⟩
    · rw [n0 1 (by omega), h1]
      rw [aH_hM hs'] at h
      injection h with h; subst h
      refine ⟨_, rfl, subO_cells.2 ⟨rfl, cellsOk_iff.2 ⟨by rw [hdsw_len hi hj, hdr_len], fun k x y a1 a2 => ?_⟩⟩⟩
      have hkR : k < R := by have := (List.getElem?_eq_some_iff.1 a2).1; rwa [hdr_len] at this
      rw [hdsw_get hi hj hkR] at a1; injection a1 with a1; subst a1
      rw [hdr_get hkR] at a2; injection a2 with a2; subst a2
      exact ⟨(n2 k hkR).symm, rfl, rfl, rfl, hsome _ (by omega)⟩
    · rw [n2 t ht, ho _ (by omega) (by have := hk t ht; omega)]
      obtain ⟨v, hv, _⟩ := hs.m.get (hk t ht)
      rw [aH_rM (v := v) (by rw [swR_get hs.m hi hj ht]; exact hv)] at h
      injection h with h; subst h
      exact ⟨_, aH_rM hv, subO_data _ _⟩
    · rw [n1, h2]
      rw [aH_hU hs'] at h
      injection h with h; subst h
      refine ⟨_, rfl, subO_cells.2 ⟨rfl, cellsOk_iff.2 ⟨by rw [hdsw_len hi hj, hdr_len], fun k x y a1 a2 => ?_⟩⟩⟩
      have hkR : k < R := by have := (List.getElem?_eq_some_iff.1 a2).1; rwa [hdr_len] at this
      rw [hdsw_get hi hj hkR] at a1; injection a1 with a1; subst a1
      rw [hdr_get hkR] at a2; injection a2 with a2; subst a2
      exact ⟨(n3 k hkR).symm, rfl, rfl, rfl, hsome _ (by omega)⟩
    · rw [n3 t ht, ho _ (by have := hk t ht; omega) (by omega)]
      obtain ⟨v, hv, _⟩ := hs.u.get (hk t ht)
      rw [aH_rU hs' (v := v) (by rw [swR_get hs.u hi hj ht]; exact hv)] at h
      injection h with h; subst h
      exact ⟨_, aH_rU hs hv, subO_data _ _⟩
    · rw [n4 id hbig, ho id (by omega) (by omega)]
      have hmem : o' ∈ mB R V (2 * R + 3) := by
        obtain ⟨k, rfl⟩ : ∃ k, id = k + (2 * R + 3) := ⟨id - (2 * R + 3), by omega⟩
        unfold aH at h
        rw [aL_V] at h
        have l2 : (wR0 R c :: (mB c (swR R c M i j) 1 ++ mB R (swR R R U i j) (R + 2))).length = 2 * R + 3 := by rw [List.length_cons, List.length_append, mB_len, mB_len, hs'.m.len, hs'.u.len]; omega
        unfold famH at h
        rw [if_neg (by omega), List.append_assoc, Nat.sub_zero, app_at l2, List.append_nil] at h
        exact List.mem_of_getElem? h
      have eqV : aH R c M U V [] id = aH R c (swR R c M i j) (swR R R U i j) V [] id := by
        unfold aH
        rw [aL_V, aL_V]
        obtain ⟨k, rfl⟩ : ∃ k, id = k + (2 * R + 3) := ⟨id - (2 * R + 3), by omega⟩
        have l1 : (wR0 R c :: (mB c M 1 ++ mB R U (R + 2))).length = 2 * R + 3 := by rw [List.length_cons, List.length_append, mB_len, mB_len, hs.m.len, hs.u.len]; omega
        have l2 : (wR0 R c :: (mB c (swR R c M i j) 1 ++ mB R (swR R R U i j) (R + 2))).length = 2 * R + 3 := by rw [List.length_cons, List.length_append, mB_len, mB_len, hs'.m.len, hs'.u.len]; omega
        unfold famH
        rw [if_neg (by omega), if_neg (by omega), List.append_assoc, List.append_assoc, Nat.sub_zero, app_at l1, app_at l2]
      rw [eqV, h]
      refine ⟨o', rfl, rf_self (rfO_mB (a := 2 * R + 3) (n := 3 * R + 4) (by omega) (by rw [hs.v.len]; omega) o' hmem) fun id g1 g2 => ⟨(n4 id g1).symm, hsome id (by show _ < _ + 0; omega)⟩⟩
  · have inv : ∀ id, id < 3 * R + 4 → swN R i j (swN R i j id) = id := fun id h => by
      rcases cases5 id h with rfl | rfl | ⟨t, ht, rfl⟩ | rfl | ⟨t, ht, rfl⟩ | hbig
      · rw [n0 0 (by omega), n0 0 (by omega)]
      · rw [n0 1 (by omega), n0 1 (by omega)]
      · rw [n2 t ht, n2 _ (hk t ht), swp_swp]
      · rw [n1, n1]
      · rw [n3 t ht, n3 _ (hk t ht), swp_swp]
      · rw [n4 id hbig, n4 id hbig]
    rw [← inv id (hge id g1), ← inv id' (hge id' g2)]
    exact congrArg _ e
end Go.Am
end

section
set_option linter.unusedVariables false
set_option linter.unusedSimpArgs false
open Go Go.Am Go.Proofs
namespace Go.Am
set_option linter.unusedSimpArgs false
set_option maxHeartbeats 1000000 in
set_option maxRecDepth 10000 in
theorem r12Swap {R c i j : Nat} {M U V : List (List Int)} (hs : WS R c M U V) (hR : R ≤ 1000) (hc : c ≤ 1000) (hi : i < R) (hj : j < R) :
    TSpec Tryz.prog 99 (.ptr 0 0) (wR0 R c) (wH R c M U V) [.i .i64 (i : Int), .i .i64 (j : Int)] (wR0 R c) (wH R c (swR R c M i j) (swR R R U i j) (swV R V i j)) (.tp []) := by
  refine tspec_of0 (N := 123) follows_mixed Tryz.func99 rfl rfl rfl rfl (by kernel_rfl) (by kernel_rfl) (by simp) ?_
  have hl : (wH R c M U V).length = 3 * R + 3 := wHs_len hs _ _ _
  have hHr : aH R c M U V [] 0 = some (.cells 133 [.d (.i .i64 (R : Int)), .d (.i .i64 (c : Int)), .own 1 0 R 1, .d (.i .i64 (R : Int)), .d (.i .i64 (R : Int)), .own (R + 2) 0 R 1, .d (.i .i64 (R : Int)), .d (.i .i64 (R : Int)), .own (2 * R + 3) 0 R 1]) := rfl
  have hHh : aH R c M U V [] 1 = some (.cells 40 (hdr c R 2)) := aH_hM hs
  have hHu : aH R c M U V [] (R + 2) = some (.cells 40 (hdr R R (R + 3))) := aH_hU hs
  have hgi := hdr_get (c := c) (b := 2) hi
  have hgj := hdr_get (c := c) (b := 2) hj
  have hui := hdr_get (c := R) (b := R + 3) hi
  have huj := hdr_get (c := R) (b := R + 3) hj
  have hgl := hdr_len c R 2
  have hul := hdr_len R R (R + 3)
  obtain ⟨m1, hm1⟩ : ∃ m1, lay (hdr c R 2) i [.own (j + 2) 0 c 2] = m1 := ⟨_, rfl⟩
  obtain ⟨m2, hm2⟩ : ∃ m2, lay m1 j [.own (i + 2) 0 c 2] = m2 := ⟨_, rfl⟩
  obtain ⟨u1, hu1⟩ : ∃ u1, lay (hdr R R (R + 3)) i [.own (j + (R + 3)) 0 R 2] = u1 := ⟨_, rfl⟩
  obtain ⟨u2, hu2⟩ : ∃ u2, lay u1 j [.own (i + (R + 3)) 0 R 2] = u2 := ⟨_, rfl⟩
  have hm1l : m1.length = R := by rw [← hm1, lay_length (by rw [hdr_len]; exact hi), hdr_len]
  have hu1l : u1.length = R := by rw [← hu1, lay_length (by rw [hdr_len]; exact hi), hdr_len]
  have hm3 : m2 = hdsw c R 2 i j := by rw [← hm2, ← hm1]; rfl
  have hu3 : u2 = hdsw R R (R + 3) i j := by rw [← hu2, ← hu1]; rfl
  have e1 : R + 2 ≠ 1 := by omega
  have e2 : ∀ h : i < (hdr c R 2).length, (hdr c R 2)[i]'h = .own (i + 2) 0 c 2 := fun h => Option.some.inj ((List.getElem?_eq_getElem h).symm.trans hgi)
  have e3 : ∀ h : j < (hdr c R 2).length, (hdr c R 2)[j]'h = .own (j + 2) 0 c 2 := fun h => Option.some.inj ((List.getElem?_eq_getElem h).symm.trans hgj)
  have e4 : ∀ h : i < (hdr R R (R + 3)).length, (hdr R R (R + 3))[i]'h = .own (i + (R + 3)) 0 R 2 := fun h => Option.some.inj ((List.getElem?_eq_getElem h).symm.trans hui)
  have e5 : ∀ h : j < (hdr R R (R + 3)).length, (hdr R R (R + 3))[j]'h = .own (j + (R + 3)) 0 R 2 := fun h => Option.some.inj ((List.getElem?_eq_getElem h).symm.trans huj)
  have hst : StT (.ptr 0 0) (wR0 R c) (wH R c M U V) [.i .i64 (i : Int), .i .i64 (j : Int)] 123 = ⟨(StT (.ptr 0 0) (wR0 R c) (wH R c M U V) [.i .i64 (i : Int), .i .i64 (j : Int)] 123).Γ, aH R c M U V [], 3 * R + 4⟩ := by
    rw [← aH_nil]; unfold StT; rw [hl]
  have hself := fun id o => aH_self (x := []) hs (fun o ho => by cases ho) (H := aH R c M U V []) (id := id) (o := o)
  rw [hst]
  clear hst
  obtain ⟨H, hHg⟩ : ∃ H, aH R c M U V [] = H := ⟨_, rfl⟩
  obtain ⟨cellsM, hcM⟩ : ∃ l, hdr c R 2 = l := ⟨_, rfl⟩
  obtain ⟨cellsU, hcU⟩ : ∃ l, hdr R R (R + 3) = l := ⟨_, rfl⟩
  rw [hHg, hcM] at hHh
  rw [hHg, hcU] at hHu
  rw [hHg] at hHr ⊢
  simp only [hcM] at hgi hgj hgl hm1 e2 e3
  simp only [hcU] at hui huj hul hu1 e4 e5
  have hi1 : i + 1 ≤ R := hi
  have hj1 : j + 1 ≤ R := hj
  simp (config := { maxSteps := 1000000 }) [-List.map_map, -List.mapM_map, ↓KW, StT, hi1, hj1, hHr, hHh, hHu, hgi, hgj, hui, huj, hgl, hul, hm1, hm2, hu1, hu2, hm1l, hu1l, e1, e2, e3, e4, e5, hi, hj]
  have hs' : WS R c (swR R c M i j) (swR R R U i j) V := ⟨mk_sh _ _ _, mk_sh _ _ _, hs.v⟩
  refine loopP_inv (fun y : Nat × List (List Int) => y.1 ≤ R ∧ Sh R R y.2 ∧ ∀ r t, r < R → t < R → ent y.2 r t = swC V i j y.1 r t) (fun y => ⟨sltF [(0, .ptr 0 0), (1, .d (.i .i64 (i : Int))), (2, .d (.i .i64 (j : Int))), (7, .d (.i .i64 (y.1 : Int)))], aH R c (swR R c M i j) (swR R R U i j) y.2 [], 3 * R + 4⟩) (fun y => R - y.1)
    (0, V) ⟨Nat.zero_le _, hs.v, fun r t hr ht => by unfold swC; rw [if_neg (by omega)]⟩ ?_ ?_
  · refine wk_sw (n := 3 * R + 3) hs hi hj ?_ ?_ (fun id h1 h2 => ?_) ?_
    · simp [upd, hm3]
    · simp [upd, hu3]
    · simp only [upd]
      rw [if_neg h2, if_neg h2, if_neg h1, if_neg h1, hHg]
    · have g0 := aH_some (x := []) hs' (id := 0) (by omega)
      have g1 : swN R i j 0 = 0 := by unfold swN; rw [if_neg (by omega), if_neg (by omega)]
      simp [-List.map_map, upd, inj1, Γ0, g0, g1]
  · rintro ⟨s, V1⟩ ⟨hsb, hM1, hME⟩
    simp only at hsb hM1 hME
    have hm : (swR R c M i j) = (swR R c M i j) := rfl
    generalize hMg : swR R c M i j = M1 at *
    generalize hUg : swR R R U i j = U1 at *
    have hs0 : WS R c M1 U1 V1 := ⟨hs'.m, hs'.u, hM1⟩
    have hHr : aH R c M1 U1 V1 [] 0 = some (.cells 133 [.d (.i .i64 (R : Int)), .d (.i .i64 (c : Int)), .own 1 0 R 1, .d (.i .i64 (R : Int)), .d (.i .i64 (R : Int)), .own (R + 2) 0 R 1, .d (.i .i64 (R : Int)), .d (.i .i64 (R : Int)), .own (2 * R + 3) 0 R 1]) := rfl
    by_cases hgo : s < R
    · have q1 : (s : Int) < R := by omega
      have hw : IntKind.i64.wrap ((s : Int) + 1) = (s : Int) + 1 := wrap_i64 (by omega) (by omega)
      have hHh : aH R c M1 U1 V1 [] (2 * R + 3) = some (.cells 40 (hdr R R (2 * R + 4))) := aH_hV hs0
      obtain ⟨vs, hvs, hvls, hves⟩ := hM1.get hgo
      have hHs : aH R c M1 U1 V1 [] (s + (2 * R + 4)) = some (.cells 51 ((vcs vs).map .d)) := aH_rV hs0 hvs
      have hgs := hdr_get (c := R) (b := (2 * R + 4)) hgo
      have hggs : ∀ h : s < (hdr R R (2 * R + 4)).length, (hdr R R (2 * R + 4))[s]'h = .own (s + (2 * R + 4)) 0 R 2 := fun h => Option.some.inj ((List.getElem?_eq_getElem h).symm.trans hgs)
      have hvcs := vcs_len vs
      rw [hvls] at hvcs
      have hbi : i * 2 + 2 ≤ R * 2 := by omega
      have hbj : j * 2 + 2 ≤ R * 2 := by omega
      obtain ⟨z0, hz0⟩ : ∃ z, ent V1 s i = z := ⟨_, rfl⟩
      obtain ⟨z1, hz1⟩ : ∃ z, ent V1 s j = z := ⟨_, rfl⟩
      have hrd0 : List.take 2 (List.drop (i * 2) ((vcs vs).map AV.d)) = [.d (.b (decide (z0 < 0))), .d (encM (digs z0.natAbs))] := by
        rw [← hz0, ← hves i, ← List.map_drop, ← List.map_take, vcs_get2 (z := vs.getD i 0) (by rw [List.getD_eq_getElem?_getD, List.getElem?_eq_getElem (by omega)]; rfl)]; rfl
      have hrd1 : List.take 2 (List.drop (j * 2) ((vcs vs).map AV.d)) = [.d (.b (decide (z1 < 0))), .d (encM (digs z1.natAbs))] := by
        rw [← hz1, ← hves j, ← List.map_drop, ← List.map_take, vcs_get2 (z := vs.getD j 0) (by rw [List.getD_eq_getElem?_getD, List.getElem?_eq_getElem (by omega)]; rfl)]; rfl
      obtain ⟨vs1, hvs1⟩ : ∃ v, vs.set i z1 = v := ⟨_, rfl⟩
      have hlay := lay_row (v := vs) z1 (j := i) (by rw [hvls]; omega)
      rw [hvs1] at hlay
      have hvls1 : vs1.length = R := by rw [← hvs1, List.length_set]; exact hvls
      have hvcs1 := vcs_len vs1
      rw [hvls1] at hvcs1
      have hlay1 := lay_row (v := vs1) z0 (j := j) (by rw [hvls1]; omega)
      have hM2 : Sh R R (V1.set s vs1) := by rw [← hvs1]; exact ent_set_sh hM1 hvs
      have hvs2 : (V1.set s vs1)[s]? = some vs1 := List.getElem?_set_self (by rw [hM1.len]; exact hgo)
      have hM3 : Sh R R ((V1.set s vs1).set s (vs1.set j z0)) := ent_set_sh hM2 hvs2
      have hs1 : WS R c M1 U1 ((V1.set s vs1).set s (vs1.set j z0)) := ⟨hs'.m, hs'.u, hM3⟩
      have hs2 : WS R c M1 U1 (V1.set s vs1) := ⟨hs'.m, hs'.u, hM2⟩
      have hupd : upd (aH R c M1 U1 V1 []) (s + (2 * R + 4)) (some (.cells 51 ((vcs vs1).map .d))) = aH R c M1 U1 (V1.set s vs1) [] := aH_updV hs0 hgo
      have hupd2 : upd (aH R c M1 U1 (V1.set s vs1) []) (s + (2 * R + 4)) (some (.cells 51 ((vcs (vs1.set j z0)).map .d))) = aH R c M1 U1 ((V1.set s vs1).set s (vs1.set j z0)) [] := aH_updV hs2 hgo
      have hgl := hdr_len R R (2 * R + 4)
      have k1 : s + (2 * R + 4) ≠ 3 * R + 4 := by omega
      have k2 : 2 * R + 3 ≠ 3 * R + 4 := by omega
      have k3 : 2 * R + 3 ≠ s + (2 * R + 4) := by omega
      have k4 : 3 * R + 4 ≠ s + (2 * R + 4) := by omega
      have k1' : ¬ s + 2 * R = 3 * R := by omega
      have k2' : ¬ 2 * R = 3 * R + 1 := by omega
      have k3' : ¬ 2 * R = s + (2 * R + 1) := by omega
      have k4' : ¬ 3 * R = s + 2 * R := by omega
      obtain ⟨H, hHg⟩ : ∃ H, aH R c M1 U1 V1 [] = H := ⟨_, rfl⟩
      obtain ⟨cells, hc⟩ : ∃ l, hdr R R (2 * R + 4) = l := ⟨_, rfl⟩
      rw [hHg] at hHr hHh hHs hupd ⊢
      simp only [hc] at hHh hgs hggs hgl
      simp (config := { maxSteps := 1000000 }) [-List.map_map, -List.mapM_map, ↓KW, q1, hHr, hHh, hHs, hgs, hggs, hvcs, hvcs1, hi, hj, hbi, hbj, hrd0, hrd1, hlay, hlay1, hgl, hgo, hw, k1, k2, k3, k4, k1', k2', k3', k4', cellsA_encM, one_encM, inj1_encM, inj_encM, kills_encM]
      refine nxt_intro (s + 1, (V1.set s vs1).set s (vs1.set j z0)) ⟨hgo, hM3, fun r t hr ht => ?_⟩ (Nat.sub_lt_sub_left hgo (Nat.lt_succ_self _)) ?_
      · have a1 := ent_set (i := s) (j := i) (z := z1) hM1 hgo hi hvs r t
        rw [hvs1] at a1
        rw [ent_set hM2 hgo hj hvs2, a1, hME r t hr ht, ← hz0, ← hz1, hME s i hgo hi, hME s j hgo hj]
        unfold swC swp
        by_cases e : r = s
        · subst e
          simp only [true_and, Nat.lt_irrefl, if_false, Nat.lt_succ_self, if_true]
          by_cases a : t = j
          · subst a
            rw [if_pos rfl]
            by_cases b : t = i
            · rw [if_pos b, b]
            · rw [if_neg b, if_pos rfl]
          · rw [if_neg a]
            by_cases b : t = i
            · rw [if_pos b, if_pos b]
            · rw [if_neg b, if_neg b, if_neg a]
        · simp only [e, false_and, if_false]
          by_cases g : r < s
          · rw [if_pos g, if_pos (show r < s + 1 by omega)]
          · rw [if_neg g, if_neg (show ¬ r < s + 1 by omega)]
      · refine ⟨_, wk_id ?_ (fun id o' ho => ?_) (fun id hid => aH_top hs1 hid) (by simp)⟩
        · have g0 := aH_some (x := []) hs1 (id := 0) (by omega)
          rw [List.set_set] at g0
          simp [-List.map_map, upd, inj1, Γ0, g0]
        · have hlt : id < 3 * R + 4 := by
            have := (famH_lt (b := 0) (l := aL R c M1 U1 ((V1.set s vs1).set s (vs1.set j z0)) []) (id := id) (by unfold aH at ho; rw [ho]; rfl)).2
            rw [aL_len hs1] at this; simpa using this
          refine ⟨o', ?_, aH_self hs1 (fun o ho => by cases ho) ho⟩
          rw [← hupd2, ← hupd] at ho
          simp only [upd] at ho ⊢
          by_cases e : id = s + (2 * R + 4)
          · rw [if_pos e] at ho ⊢; exact ho
          · rw [if_neg e, if_neg e] at ho
            rw [if_neg e, if_neg e, if_neg (by omega), if_neg (by omega)]; exact ho
    · have q1 : ¬ (s : Int) < R := by omega
      have es : s = R := by omega
      have hNe : V1 = swV R V i j := mk_of hM1 fun r t hr ht => by rw [hME r t hr ht, es]
      obtain ⟨H, hHg⟩ : ∃ H, aH R c M1 U1 V1 [] = H := ⟨_, rfl⟩
      rw [hHg] at hHr
      rw [← hNe, hHg]
      simp (config := { maxSteps := 1000000 }) [-List.map_map, -List.mapM_map, ↓KW, q1, hHr]
      rw [← hHg]
      exact aH_end hs0 (Nat.succ_ne_zero _)
end Go.Am
end

section
set_option linter.unusedVariables false
set_option linter.unusedSimpArgs false
open Go Go.Am Go.Proofs
namespace Go.Am
set_option linter.unusedSimpArgs false
set_option linter.unusedVariables false
/-! What a relation says of its first state -/
theorem Eu.ok {R c col top i : Nat} {w w' : W3} (h : Eu R c col top i w w') : Ok R c w := by cases h <;> assumption
theorem Ei.ok {R c col top i : Nat} {w w' : W3} (h : Ei R c col top i w w') : Ok R c w := by
  cases h with
  | done _ _ ok _ => exact ok
  | go _ _ _ _ _ h1 _ => exact h1.ok
theorem Rd.ok {R c col top i : Nat} {w w' : W3} (h : Rd R c col top i w w') : Ok R c w := by cases h <;> assumption
theorem Fo.ok {R c col top : Nat} {w w' : W3} (h : Fo R c col top w w') : Ok R c w := by
  cases h with
  | done _ _ _ ok _ => exact ok
  | zero _ _ _ _ _ _ _ h3 _ _ => exact h3.ok
  | piv _ _ _ _ _ _ _ _ h3 _ _ _ => exact h3.ok
theorem Eu.end {R c col top i : Nat} {w w' : W3} (h : Eu R c col top i w w') (h0 : ent w.M i col = 0) : w = w' := by
  cases h with
  | done _ _ _ => rfl
  | go _ _ _ h1 _ => exact absurd h0 h1
theorem Eu.next {R c col top i : Nat} {w w' : W3} (h : Eu R c col top i w w') (h0 : ent w.M i col ≠ 0) : Eu R c col top i (euS R c col top i w) w' := by
  cases h with
  | done _ _ h1 => exact absurd h1 h0
  | go _ _ _ _ h2 => exact h2
theorem Eu.less {R c col top i : Nat} {w : W3} (hcol : col < c) (hti : top < i) (hiR : i < R) (hy : ent w.M i col ≠ 0) : (ent (euS R c col top i w).M i col).natAbs < (ent w.M i col).natAbs := by
  have hy1 : ent (euS R c col top i w).M i col = ent w.M top col % ent w.M i col := by
    rw [euS_M (by omega) (by omega) hiR hiR hcol, if_neg (by omega), if_pos rfl]
    have := Int.mul_ediv_add_emod (ent w.M top col) (ent w.M i col)
    rw [Int.mul_comm (ent w.M top col / _)]; omega
  have hlt := Int.emod_lt (ent w.M top col) hy
  have hnn := Int.emod_nonneg (ent w.M top col) hy
  rw [hy1]; omega
theorem Ei.end {R c col top i : Nat} {w w' : W3} (h : Ei R c col top i w w') (h0 : ¬ i < R) : w = w' := by
  cases h with
  | done _ _ _ _ => rfl
  | go _ _ _ _ h1 _ _ => exact absurd h1 h0
theorem Ei.next {R c col top i : Nat} {w w' : W3} (h : Ei R c col top i w w') (h0 : i < R) : ∃ w1, Eu R c col top i w w1 ∧ Ei R c col top (i + 1) w1 w' := by
  cases h with
  | done _ _ _ h1 => omega
  | go _ _ w1 _ _ h1 h2 => exact ⟨w1, h1, h2⟩
theorem Rd.end {R c col top i : Nat} {w w' : W3} (h : Rd R c col top i w w') (h0 : ¬ i < top) : w = w' := by
  cases h with
  | done _ _ _ _ => rfl
  | go _ _ _ _ h1 _ => exact absurd h1 h0
theorem Rd.next {R c col top i : Nat} {w w' : W3} (h : Rd R c col top i w w') (h0 : i < top) : Rd R c col top (i + 1) (rdS R c col top i w) w' := by
  cases h with
  | done _ _ _ h1 => omega
  | go _ _ _ _ _ h2 => exact h2
theorem Fo.end {R c col top : Nat} {w w' : W3} (h : Fo R c col top w w') (h0 : ¬ (col < c ∧ top < R)) : w = w' := by
  cases h with
  | done _ _ _ _ _ => rfl
  | zero _ _ _ _ _ h1 h2 _ _ _ => exact absurd ⟨h1, h2⟩ h0
  | piv _ _ _ _ _ _ h1 h2 _ _ _ _ => exact absurd ⟨h1, h2⟩ h0
theorem Fo.next {R c col top : Nat} {w w' : W3} (h : Fo R c col top w w') (h0 : col < c ∧ top < R) : ∃ w1, Ei R c col top (top + 1) w w1 ∧ ((ent w1.M top col = 0 ∧ Fo R c (col + 1) top w1 w') ∨ (ent w1.M top col ≠ 0 ∧ ∃ w2, Rd R c col top 0 (ngS R c col top w1) w2 ∧ Fo R c (col + 1) (top + 1) w2 w')) := by
  cases h with
  | done _ _ _ _ h1 => exact absurd h0 h1
  | zero _ _ _ w1 _ _ _ h3 h4 h5 => exact ⟨w1, h3, .inl ⟨h4, h5⟩⟩
  | piv _ _ _ w1 w2 _ _ _ h3 h4 h5 h6 => exact ⟨w1, h3, .inr ⟨h4, w2, h5, h6⟩⟩
theorem Rd.col {R c col top i : Nat} {w w' : W3} (hcol : col < c) (hR : top < R) (h : Rd R c col top i w w') : ∀ r, top ≤ r → r < R → ent w'.M r col = ent w.M r col := by
  induction h with
  | done _ _ _ _ => intro r _ _; rfl
  | go i w w2 _ h1 _ ih =>
    intro r h2 h3
    rw [ih r h2 h3]
    show ent (rowA R c w.M i top _) r col = _
    rw [ent_rowA h3 hcol, if_neg (by omega)]
theorem sy_of_sd {z : Int} (h : Sd z) : Sy z := Nat.le_trans h (by decide)
/-! The heap -/
def herZ : HO := .cells 122 [.d (.i .i64 0), .d (.i .i64 0), .nil, .d (.i .i64 0), .d (.i .i64 0), .nil, .d (.i .i64 0), .d (.i .i64 0), .nil]
def foPre (R c : Nat) (A : List (List Int)) : List HO := [.cells 60 [.d (.i .i64 (R : Int)), .d (.i .i64 (c : Int)), .d (.sl (A.map fun v => [encV2 v]))], herZ]
theorem foPre_rf (R c : Nat) (A : List (List Int)) : ∀ o ∈ foPre R c A, rfO 0 0 o = true := by
  intro o ho
  simp only [foPre, List.mem_cons, List.not_mem_nil, or_false] at ho
  rcases ho with rfl | rfl <;> rfl
theorem HF.upd {H : Nat → Option HO} {pre : List HO} {p q r R c n : Nat} {M U V : List (List Int)} {x : Option HO} (h : HF H pre p q r R c M U V) (hs : WS R c M U V) (h0 : pre.length + 1 < p) (h2 : p + R < q) (h3 : q + R < r) (hn : r + R < n) : HF (upd H n x) pre p q r R c M U V := by
  have hl : ∀ {c' m : Nat} {N : List (List Int)} {i : Nat} {o : HO}, N.length = R → (mB c' N m)[i]? = some o → i < R + 1 := fun hN h => by
    have := (List.getElem?_eq_some_iff.1 h).1; rwa [mB_len, hN] at this
  refine ⟨⟨?_, fun i o ho => ?_, fun i o ho => ?_, fun i o ho => ?_⟩, fun i o ho => ?_⟩
  · rw [upd_ne _ _ (by omega)]; exact h.w.root
  · have := hl hs.m.len ho
    rw [upd_ne _ _ (by omega)]; exact h.w.m i o ho
  · have := hl hs.u.len ho
    rw [upd_ne _ _ (by omega)]; exact h.w.u i o ho
  · have := hl hs.v.len ho
    rw [upd_ne _ _ (by omega)]; exact h.w.v i o ho
  · have := (List.getElem?_eq_some_iff.1 ho).1
    rw [upd_ne _ _ (by omega)]; exact h.pre i o ho
theorem can_HF {pre : List HO} {R c : Nat} {M U V : List (List Int)} {H : Nat → Option HO} (hs : WS R c M U V) (hH : wFam pre R c M U V = H) : ∃ p q r, pre.length + 1 < p ∧ p + R < q ∧ q + R < r ∧ r + R < pre.length + 3 * R + 5 ∧ HF H pre p q r R c M U V :=
  ⟨_, _, _, by omega, by omega, by omega, by omega, hH ▸ wFam_HF hs⟩
theorem can_facts {pre : List HO} {p q r R c : Nat} {M U V : List (List Int)} (hpl : pre.length = 2) (hs : WS R c M U V) : wRho 3 p q r R 1 = 1 ∧ wRho 3 p q r R 2 = 2 ∧ wRho 3 p q r R 3 = 3 ∧ (wFam pre R c M U V 1).isSome = true ∧ (wFam pre R c M U V 2).isSome = true ∧ (wFam pre R c M U V 3).isSome = true := by
  have hl := wFl_len (pre := pre) hs
  exact ⟨rfl, rfl, rfl, famH_some (by omega) (by rw [hl]; omega), famH_some (by omega) (by rw [hl]; omega), famH_some (by omega) (by rw [hl]; omega)⟩
/-- What a heap with a work behind two blocks holds. -/
theorem HF.root2 {H : Nat → Option HO} {pre : List HO} {p q r R c : Nat} {M U V : List (List Int)} (h : HF H pre p q r R c M U V) (hpl : pre.length = 2) :
    H 3 = some (.cells 133 [.d (.i .i64 (R : Int)), .d (.i .i64 (c : Int)), .own p 0 R 1, .d (.i .i64 (R : Int)), .d (.i .i64 (R : Int)), .own q 0 R 1, .d (.i .i64 (R : Int)), .d (.i .i64 (R : Int)), .own r 0 R 1]) := by
  have := h.w.root
  rwa [hpl] at this
/-- A number of the first matrix is read. -/
structure Rdg (H : Nat → Option HO) (p R c i s : Nat) (z : Int) : Prop where
  hd : ∃ v : List Int, H (i + (p + 1)) = some (.cells 51 ((vcs v).map .d)) ∧ (vcs v).length = c * 2 ∧ List.take 2 (List.drop (s * 2) ((vcs v).map AV.d)) = [.d (.b (decide (z < 0))), .d (encM (digs z.natAbs))]
theorem HF.rd {H : Nat → Option HO} {pre : List HO} {p q r R c i s : Nat} {M U V : List (List Int)} (h : HF H pre p q r R c M U V) (hs : WS R c M U V) (hi : i < R) (hc : s < c) : Rdg H p R c i s (ent M i s) := by
  obtain ⟨v, hv, hl, he⟩ := hs.m.get hi
  have h2 := vcs_len v
  refine ⟨v, h.w.rowM hv, by rw [h2, hl], ?_⟩
  rw [← he s, ← List.map_drop, ← List.map_take, vcs_get2 (z := v.getD s 0) (by rw [List.getD_eq_getElem?_getD, List.getElem?_eq_getElem (by omega)]; rfl)]; rfl
/-- The call at a region's end. -/
theorem o1_wend {P : Program} {dst : Option Tmp} {ty : TypeId} {pos : String} {after : Array Edge} {guard : Option (Nat × Bool)} {σ : St} {k : St → List Nat → Prop} {f : FuncId} {x : Operand} {rest : List Operand} {ts : Array TypeId}
    {d : Dm ((⟨dst, .call ⟨.value (.func f), (x :: rest).toArray, ts⟩, ty, pos, after, guard⟩ : Oper), k)} {pre : List HO} {p q r R c : Nat} {w w' : W3} {ds : List D} {K : St → Prop} {dm : Dm K} (hkk : ∀ σ' con', k σ' con' = FinP σ' con' K dm) (hm : mutF P f = true) (hx : oev σ.Γ x = .ptr (pre.length + 1) 0)
    (hF : HF σ.H pre p q r R c w.M w.U w.V) (hpre : ∀ o ∈ pre, rfO 0 0 o = true) (hs : w.sh R c) (h1 : pre.length + 1 < p) (h2 : p + R < q) (h3 : q + R < r) (h4 : r + R < σ.n) (hvis : viss σ.H (rest.map (oev σ.Γ)) = []) (hfr : frzs σ.H (rest.map (oev σ.Γ)) = some ds)
    (hs' : w'.sh R c) (hsp : TSpec P f (.ptr 0 0) (wR0 R c) (wH R c w.M w.U w.V) ds (wR0 R c) (wH R c w'.M w'.U w'.V) (.tp []))
    (hk : ∀ (l : List Nat) (H' : Nat → Option HO) (p' q' r' n' : Nat), (∀ id, id ≤ pre.length + 1 → ¬ id ∈ l) → pre.length + 1 < p' → p' + R < q' → q' + R < r' → r' + R < n' → HF H' pre p' q' r' R c w'.M w'.U w'.V → K ⟨fun t => scrub l (putA σ.Γ dst (inj (.tp [])) t), H', n'⟩) : O1d P ⟨dst, .call ⟨.value (.func f), (x :: rest).toArray, ts⟩, ty, pos, after, guard⟩ σ [] k d := by
  refine o1_wcall (b := pre.length + 1) hm (by omega) hx hF.w hs h1 h2 h3 hvis hfr hs' hsp ?_
  rw [hkk, finP_ne _ (nuL_ne _ _), List.append_nil]
  refine hk _ _ σ.n (σ.n + R + 1) (σ.n + 2 * R + 2) _ (fun id hid hm => ?_) (by omega) (by omega) (by omega) (by simp only; omega) (HF.call hF hs' h1 h2 h3 h4 hpre)
  have := w_ids h1 h2 h3 h4 hm
  omega
/-- A matrix is read. -/
theorem frz_mat {H : Nat → Option HO} {R c p : Nat} {M : List (List Int)} (k : Nat) (hM : Sh R c M) (h : ∀ (i : Nat) o, (mB c M p)[i]? = some o → H (i + p) = some o) : frz H (k + 3) (.own p 0 R 1) = some (.sl (M.map fun v => [encV2 v])) := by
  have h0 : H p = some (.cells 40 (hdr c R (p + 1))) := by
    have := h 0 _ rfl
    rwa [Nat.zero_add, hM.len] at this
  rw [frz_own', h0]
  simp only [Nat.zero_add, Nat.mul_one, hdr_len, Nat.zero_mul, List.drop_zero]
  rw [if_pos ⟨Nat.le_refl _, by decide⟩, List.take_of_length_le (by rw [hdr_len]; exact Nat.le_refl _)]
  rw [mapM_some (frz H (k + 2)) (fun i => encV2 (M.getD i [])) _ fun i x hx => ?_]
  · simp only [Option.map_some, hdr_len]
    congr 2
    unfold chunk
    refine List.ext_getElem (by simp [hM.len]) fun i a1 a2 => ?_
    have hi : i < R := by simpa using a1
    have hiM : i < M.length := by rw [hM.len]; exact hi
    simp only [List.getElem_map, List.getElem_range, Nat.mul_one]
    rw [List.drop_eq_getElem_cons (by simpa using hi)]
    simp only [List.getElem_map, List.getElem_range, List.take_succ_cons, List.take_zero]
    rw [List.getD_eq_getElem?_getD, List.getElem?_eq_getElem hiM]; rfl
  · have hi : i < R := by have := (List.getElem?_eq_some_iff.1 hx).1; rwa [hdr_len] at this
    rw [hdr_get hi] at hx; injection hx with hx; subst hx
    have hiM : i < M.length := by rw [hM.len]; exact hi
    rw [List.getD_eq_getElem?_getD, List.getElem?_eq_getElem hiM, Option.getD_some]
    have := h (i + 1) (rowO M[i]) (by simp only [mB, List.getElem?_cons_succ, List.getElem?_map, List.getElem?_eq_getElem hiM, Option.map_some])
    exact frz_vcsN k (by rwa [show i + 1 + p = i + (p + 1) by omega] at this) (hM.row _ (List.getElem_mem hiM))
/-! A Hermite decomposition as data -/
def encHer (R c : Nat) (w : W3) : D := .ag [.i .i64 (R : Int), .i .i64 (c : Int), .sl (w.M.map fun v => [encV2 v]), .i .i64 (R : Int), .i .i64 (R : Int), .sl (w.U.map fun v => [encV2 v]), .i .i64 (R : Int), .i .i64 (R : Int), .sl (w.V.map fun v => [encV2 v])]
theorem r12Floor (x y : Int) (hy : y ≠ 0) (hx : Sd x) (hyl : Sd y) : Spec Tryz.prog 101 [encZ x, encZ y] (encZ (x / y)) := by
  refine spec_of (N := 16) follows_mixed Tryz.func101 rfl rfl rfl (by kernel_rfl) (by kernel_rfl) (by simp) ?_
  have h := r01DivMod x y hy hx hyl
  simp (config := { maxSteps := 1000000 }) [-List.map_map, -List.mapM_map, ↓KW, encZ_eq, cellsA_encM, one_encM, inj1_encM, inj_encM, kills_encM]
  refine callP_intro (ds := [encZ x, encZ y]) (by rfl) h ?_
  rw [encZ_eq, encZ_eq]
  simp (config := { maxSteps := 1000000 }) [-List.map_map, -List.mapM_map, ↓KW, encZ_eq, cellsA_encM, one_encM, inj1_encM, inj_encM, kills_encM]
end Go.Am
end

section
set_option linter.unusedVariables false
set_option linter.unusedSimpArgs false
open Go Go.Am Go.Proofs
namespace Go.Am
set_option linter.unusedSimpArgs false
set_option linter.unusedVariables false
set_option maxHeartbeats 2000000 in
set_option maxRecDepth 10000 in
theorem r12Form {R c : Nat} {A : List (List Int)} {wf : W3} (hA : Sh R c A) (hR : R ≤ 15) (hc : c ≤ 1000) (hAs : ∀ v ∈ A, ∀ z ∈ v, Sz z) (hFo : Fo R c 0 0 ⟨A, idM R, idM R⟩ wf) :
    Spec Tryz.prog 87 [encMat R c A] (encHer R c wf) := by
  refine spec_of (N := 173) follows_mixed Tryz.func87 rfl rfl rfl (by kernel_rfl) (by kernel_rfl) (by simp) ?_
  have hst := r12Start hA (by omega) hc hAs
  have hH0 : extB (upd (upd (fun _ => none) 1 (some (.cells 60 [.d (.i .i64 (R : Int)), .d (.i .i64 (c : Int)), .d (.sl (A.map fun v => [encV2 v]))]))) 2 (some (.cells 122 [.d (.i .i64 0), .d (.i .i64 0), .nil, .d (.i .i64 0), .d (.i .i64 0), .nil, .d (.i .i64 0), .d (.i .i64 0), .nil]))) 3 (wOut R c A (idM R) (idM R) 3) = wFam (foPre R c A) R c A (idM R) (idM R) := by
    rw [fam_two, fam_ext (n := 3) rfl]
    have e1 : (foPre R c A).length = 2 := rfl
    unfold wFam wFl wOut
    rw [e1, show 3 + 1 = 2 + 2 by omega, show 3 + R + 2 = 2 + R + 3 by omega, show 3 + 2 * R + 3 = 2 + 2 * R + 4 by omega]; rfl
  have hlo : (wOut R c A (idM R) (idM R) 3).length = 3 * R + 4 := wOut_len ⟨hA, mk_sh _ _ _, mk_sh _ _ _⟩ 3
  obtain ⟨pre, hpre⟩ : ∃ l, foPre R c A = l := ⟨_, rfl⟩
  have hpl : pre.length = 2 := by rw [← hpre]; rfl
  have hprf : ∀ o ∈ pre, rfO 0 0 o = true := by rw [← hpre]; exact foPre_rf R c A
  have hp1 : pre[0]? = some (.cells 60 [.d (.i .i64 (R : Int)), .d (.i .i64 (c : Int)), .d (.sl (A.map fun v => [encV2 v]))]) := by rw [← hpre]; rfl
  have hp2 : pre[1]? = some (.cells 122 [.d (.i .i64 0), .d (.i .i64 0), .nil, .d (.i .i64 0), .d (.i .i64 0), .nil, .d (.i .i64 0), .d (.i .i64 0), .nil]) := by rw [← hpre]; rfl
  rw [hpre] at hH0
  obtain ⟨w0, hw0⟩ : ∃ w : W3, ⟨A, idM R, idM R⟩ = w := ⟨_, rfl⟩
  have hM0 : w0.M = A := by rw [← hw0]
  have hU0 : w0.U = idM R := by rw [← hw0]
  have hV0 : w0.V = idM R := by rw [← hw0]
  rw [hw0] at hFo
  have hH1 : wFam pre R c A (idM R) (idM R) = wFam pre R c w0.M w0.U w0.V := by rw [hM0, hU0, hV0]
  rw [hH1] at hH0
  simp (config := { maxSteps := 1000000 }) [-List.map_map, -List.mapM_map, ↓KW, encMat]
  refine o1_ncall [encMat R c A] (fun m => .ptr m 0) (wOut R c A (idM R) (idM R)) (by simp) (by simp) (by simp) (by rfl) (by rfl) hst ?_
  simp (config := { maxSteps := 1000000 }) [-List.map_map, -List.mapM_map, ↓KW, hH0, hlo]
  refine loopP_inv (fun x : Nat × Nat × W3 × (Nat → Option HO) => Fo R c x.1 x.2.1 x.2.2.1 wf ∧ x.1 ≤ c ∧ x.2.1 ≤ R ∧ wFam pre R c x.2.2.1.M x.2.2.1.U x.2.2.1.V = x.2.2.2) (fun x => ⟨sltF [(1, .ptr 1 0), (2, .ptr 2 0), (3, .ptr 3 0), (4, .d (.i .i64 (x.2.1 : Int))), (5, .d (.i .i64 (x.1 : Int)))], x.2.2.2, 3 + 3 * R + 4⟩) (fun x => c - x.1) (0, 0, w0, wFam pre R c w0.M w0.U w0.V) ⟨hFo, Nat.zero_le _, Nat.zero_le _, rfl⟩ ?_ ?_
  · have hs := hFo.ok.sh
    obtain ⟨g1, g2, g3, s1, s2, s3⟩ := can_facts (p := pre.length + 2) (q := pre.length + R + 3) (r := pre.length + 2 * R + 4) hpl hs
    refine wk_can (wFam_HF hs) hs (by omega) (by omega) (by omega) (by omega) hprf ?_
    simp [-List.map_map, upd, inj1, Γ0, g1, g2, g3, s1, s2, s3]
  · rintro ⟨col, top, w, H⟩ ⟨hf, hcb, htb, hHg⟩
    simp only at hf hcb htb hHg
    have hs := hf.ok.sh
    refine (can_HF (pre := pre) hs hHg).elim fun p hh => hh.elim fun q hh => hh.elim fun r hh => ?_
    have h1 := hh.1
    have h2 := hh.2.1
    have h3 := hh.2.2.1
    have h4 := hh.2.2.2.1
    have hF := hh.2.2.2.2
    rw [hpl] at h1 h4
    clear hh
    have hH1 : H 1 = _ := hF.pre 0 _ hp1
    have hH2 : H 2 = _ := hF.pre 1 _ hp2
    have hH3 := hF.root2 hpl
    by_cases hgo : col < c ∧ top < R
    · have q1 : (col : Int) < c := by omega
      have q2 : (top : Int) < R := by omega
      have hw1 : IntKind.i64.wrap ((top : Int) + 1) = (top : Int) + 1 := wrap_i64 (by omega) (by omega)
      have hw2 : IntKind.i64.wrap ((col : Int) + 1) = (col : Int) + 1 := wrap_i64 (by omega) (by omega)
      refine (hf.next hgo).elim fun w1 hw => ?_
      have hei := hw.1
      have hrest := hw.2
      simp (config := { maxSteps := 1000000 }) [-List.map_map, -List.mapM_map, ↓KW, q1, q2, hgo.1, hgo.2, hH1, hw1]
      refine loopP_inv (fun x : Nat × W3 × (Nat → Option HO) => Ei R c col top x.1 x.2.1 w1 ∧ top < x.1 ∧ x.1 ≤ R ∧ wFam pre R c x.2.1.M x.2.1.U x.2.1.V = x.2.2) (fun x => ⟨sltF [(1, .ptr 1 0), (2, .ptr 2 0), (3, .ptr 3 0), (4, .d (.i .i64 (top : Int))), (5, .d (.i .i64 (col : Int))), (6, .d (.i .i64 (x.1 : Int)))], x.2.2, 3 + 3 * R + 4⟩) (fun x => R - x.1) (top + 1, w, H) ⟨hei, Nat.lt_succ_self _, hgo.2, hHg⟩ ?_ ?_
      · obtain ⟨g1, g2, g3, s1, s2, s3⟩ := can_facts (p := p) (q := q) (r := r) hpl hs
        subst hHg
        refine wk_can hF hs (by omega) (by omega) h2 h3 hprf ?_
        simp [-List.map_map, upd, inj1, Γ0, g1, g2, g3, s1, s2, s3]
      · clear hei hH1 hH2 hH3 hF hHg h1 h2 h3 h4 hs
        rintro ⟨i, w, H⟩ ⟨hei, hti, hiR, hHg⟩
        simp only at hei hti hiR hHg
        have hs := hei.ok.sh
        refine (can_HF (pre := pre) hs hHg).elim fun p hh => hh.elim fun q hh => hh.elim fun r hh => ?_
        have h1 := hh.1
        have h2 := hh.2.1
        have h3 := hh.2.2.1
        have h4 := hh.2.2.2.1
        have hF := hh.2.2.2.2
        rw [hpl] at h1 h4
        clear hh
        have hH1 : H 1 = _ := hF.pre 0 _ hp1
        have hH2 : H 2 = _ := hF.pre 1 _ hp2
        have hH3 := hF.root2 hpl
        by_cases hi : i < R
        · have q3 : (i : Int) < R := by omega
          have hw3 : IntKind.i64.wrap ((i : Int) + 1) = (i : Int) + 1 := wrap_i64 (by omega) (by omega)
          refine (hei.next hi).elim fun w2 hw => ?_
          have heu := hw.1
          have hei2 := hw.2
          simp (config := { maxSteps := 1000000 }) [-List.map_map, -List.mapM_map, ↓KW, q3, hi, hH1]
          refine loopP_inv (fun x : W3 × (Nat → Option HO) => Eu R c col top i x.1 w2 ∧ wFam pre R c x.1.M x.1.U x.1.V = x.2) (fun x => ⟨sltF [(1, .ptr 1 0), (2, .ptr 2 0), (3, .ptr 3 0), (4, .d (.i .i64 (top : Int))), (5, .d (.i .i64 (col : Int))), (6, .d (.i .i64 (i : Int)))], x.2, 3 + 3 * R + 4⟩) (fun x => (ent x.1.M i col).natAbs) (w, H) ⟨heu, hHg⟩ ?_ ?_
          · obtain ⟨g1, g2, g3, s1, s2, s3⟩ := can_facts (p := p) (q := q) (r := r) hpl hs
            subst hHg
            refine wk_can hF hs (by omega) (by omega) h2 h3 hprf ?_
            simp [-List.map_map, upd, inj1, Γ0, g1, g2, g3, s1, s2, s3]
          · clear heu hH1 hH2 hH3 hF hHg h1 h2 h3 h4 hs
            rintro ⟨w, H⟩ ⟨heu, hHg⟩
            simp only at heu hHg
            have ok := heu.ok
            have hs := ok.sh
            refine (can_HF (pre := pre) hs hHg).elim fun p hh => hh.elim fun q hh => hh.elim fun r hh => ?_
            have h1 := hh.1
            have h2 := hh.2.1
            have h3 := hh.2.2.1
            have h4 := hh.2.2.2.1
            have hF := hh.2.2.2.2
            rw [hpl] at h1 h4
            clear hh
            have hH3 := hF.root2 hpl
            have hHd := hF.w.hdrM hs
            have hgi := hdr_get (c := c) (b := p + 1) hi
            have hgt := hdr_get (c := c) (b := p + 1) hgo.2
            have hgl := hdr_len c R (p + 1)
            refine (show ∃ l, hdr c R (p + 1) = l from ⟨_, rfl⟩).elim fun cells hcl => ?_
            rw [hcl] at hHd hgi hgt hgl
            have hggi : ∀ h : i < cells.length, cells[i]'h = .own (i + (p + 1)) 0 c 2 := fun h => Option.some.inj ((List.getElem?_eq_getElem h).symm.trans hgi)
            have hggt : ∀ h : top < cells.length, cells[top]'h = .own (top + (p + 1)) 0 c 2 := fun h => Option.some.inj ((List.getElem?_eq_getElem h).symm.trans hgt)
            refine (hF.rd hs hi hgo.1).hd.elim fun vi hh => ?_
            have hHi := hh.1
            have hvi := hh.2.1
            have hri := hh.2.2
            clear hh
            refine (hF.rd hs hgo.2 hgo.1).hd.elim fun vt hh => ?_
            have hHt := hh.1
            have hvt := hh.2.1
            have hrt := hh.2.2
            clear hh
            have hbc : col * 2 + 2 ≤ c * 2 := by omega
            have hg1 := hgo.1
            have hg2 := hgo.2
            have hsgi := r01SignZ (ent w.M i col)
            have hsgt := r01SignZ (ent w.M top col)
            refine (show ∃ y, ent w.M i col = y from ⟨_, rfl⟩).elim fun y hy => ?_
            refine (show ∃ x, ent w.M top col = x from ⟨_, rfl⟩).elim fun x hx => ?_
            rw [hy] at hri hsgi
            rw [hx] at hrt hsgt
            by_cases hy0 : y = 0
            · have hys : (y.sign != 0) = false := by simp [hy0]
              have e := heu.end (hy.trans hy0)
              simp (config := { maxSteps := 1000000 }) [-List.map_map, -List.mapM_map, ↓KW, hH3, hHd, hgi, hgt, hgl, hggi, hggt, hHi, hHt, hvi, hvt, hri, hrt, hbc, hg1, hg2, hi, hys, cellsA_encM, one_encM, inj1_encM, inj_encM, kills_encM]
              refine callP_intro (ds := [encZ y]) (by rfl) hsgi ?_
              simp (config := { maxSteps := 1000000 }) [-List.map_map, -List.mapM_map, ↓KW, hH3, hHd, hgi, hgt, hgl, hggi, hggt, hHi, hHt, hvi, hvt, hri, hrt, hbc, hg1, hg2, hi, hys, cellsA_encM, one_encM, inj1_encM, inj_encM, kills_encM, hw3]
              refine nxt_intro (i + 1, w, H) ⟨e ▸ hei2, by omega, hi, hHg⟩ (by omega) ?_
              subst hHg
              have e := can_facts (p := p) (q := q) (r := r) hpl hs
              refine wk_can hF hs (by omega) (by omega) h2 h3 hprf ?_
              simp [-List.map_map, upd, inj1, Γ0, e.1, e.2.1, e.2.2.1, e.2.2.2.1, e.2.2.2.2.1, e.2.2.2.2.2]
            · have hys : (y.sign != 0) = true := by simp [hy0]
              simp (config := { maxSteps := 1000000 }) [-List.map_map, -List.mapM_map, ↓KW, hH3, hHd, hgi, hgt, hgl, hggi, hggt, hHi, hHt, hvi, hvt, hri, hrt, hbc, hg1, hg2, hi, hys, cellsA_encM, one_encM, inj1_encM, inj_encM, kills_encM]
              refine callP_intro (ds := [encZ y]) (by rfl) hsgi ?_
              simp (config := { maxSteps := 1000000 }) [-List.map_map, -List.mapM_map, ↓KW, hH3, hHd, hgi, hgt, hgl, hggi, hggt, hHi, hHt, hvi, hvt, hri, hrt, hbc, hg1, hg2, hi, hys, cellsA_encM, one_encM, inj1_encM, inj_encM, kills_encM]
              refine callP_intro (ds := [encZ x]) (by rfl) hsgt ?_
              by_cases hx0 : x = 0
              · have hxs : (x.sign != 0) = false := by simp [hx0]
                have hsw := r12Swap hs (by omega) hc hgo.2 hi
                have hS : euS R c col top i w = w.sw R c top i := by unfold euS euT; rw [if_pos (hx.trans hx0)]
                have heu2 := heu.next (fun h => hy0 (hy.symm.trans h))
                have hless := Eu.less (w := w) hgo.1 hti hi (fun h => hy0 (hy.symm.trans h))
                rw [hS] at heu2 hless
                simp (config := { maxSteps := 1000000 }) [-List.map_map, -List.mapM_map, ↓KW, hH3, hHd, hgi, hgt, hgl, hggi, hggt, hHi, hHt, hvi, hvt, hri, hrt, hbc, hg1, hg2, hi, hys, cellsA_encM, one_encM, inj1_encM, inj_encM, kills_encM, hxs]
                refine o1_wend (pre := pre) (w := w) (w' := w.sw R c top i) (fun _ _ => by first | rfl | exact ow_nil' _ _ _ _ _) (by simp) (by rw [hpl]; rfl) hF hprf hs (by omega) h2 h3 (by simp only; omega) (by rfl) (by rfl) (W3.sw_sh ..) hsw ?_
                intro l H' p' q' r' n' hl g1 g2 g3 g4 hF'
                have hl1 := hl 1 (by omega)
                have hl2 := hl 2 (by omega)
                have hl3 := hl 3 (by omega)
                refine nxt_intro (w.sw R c top i, wFam pre R c (w.sw R c top i).M (w.sw R c top i).U (w.sw R c top i).V) ⟨heu2, rfl⟩ hless ?_
                have e := can_facts (p := p') (q := q') (r := r') hpl (W3.sw_sh R c w top i)
                refine wk_can hF' (W3.sw_sh R c w top i) (by omega) (by omega) g2 g3 hprf ?_
                simp [-List.map_map, upd, inj1, Γ0, e.1, e.2.1, e.2.2.1, e.2.2.2.1, e.2.2.2.2.1, e.2.2.2.2.2, hl1, hl2, hl3]
              · have hxs : (x.sign != 0) = true := by simp [hx0]
                simp (config := { maxSteps := 1000000 }) [-List.map_map, -List.mapM_map, ↓KW, hH3, hHd, hgi, hgt, hgl, hggi, hggt, hHi, hHt, hvi, hvt, hri, hrt, hbc, hg1, hg2, hi, hys, cellsA_encM, one_encM, inj1_encM, inj_encM, kills_encM, hxs]
                have hq := r01DivMod x y hy0 (by rw [← hx]; exact ok.m _ _) (by rw [← hy]; exact ok.m _ _)
                have hqs : Sd (x / y) := Nat.le_trans (digs_len_mono (Int.natAbs_ediv_le_natAbs x y)) (by rw [← hx]; exact ok.m _ _)
                have hS : euS R c col top i w = (w.add R c top i (-(x / y))).sw R c top i := by unfold euS euT; rw [if_neg (fun h => hx0 (hx.symm.trans h)), hx, hy]
                have heu2 := heu.next (fun h => hy0 (hy.symm.trans h))
                have hless := Eu.less (w := w) hgo.1 hti hi (fun h => hy0 (hy.symm.trans h))
                rw [hS] at heu2 hless
                refine (show ∃ qq, x / y = qq from ⟨_, rfl⟩).elim fun qq hqq => ?_
                refine (show ∃ rr, x % y = rr from ⟨_, rfl⟩).elim fun rr hrr => ?_
                rw [hqq, hrr] at hq
                rw [hqq] at hqs heu2 hless
                have hng := r01NegB qq (Nat.le_trans hqs (by decide))
                have hsn : Sd (-qq) := by unfold Sd; rw [Int.natAbs_neg]; exact hqs
                refine (show ∃ nq, -qq = nq from ⟨_, rfl⟩).elim fun nq hnq => ?_
                rw [hnq] at hng hsn heu2 hless
                have hs2 : (w.add R c top i nq).sh R c := W3.add_sh ..
                have had := r12AddTo hs (by omega) hc hgo.2 hi (sy_of_sd hsn) (fun r t => sy_of_sd (ok.m r t)) (fun r t => sy_of_sd (ok.u r t)) (fun r t => sy_of_sd (ok.v r t))
                have hsw := r12Swap hs2 (by omega) hc hgo.2 hi
                refine callP_intro (ds := [encZ x, encZ y]) (by rfl) hq ?_
                simp (config := { maxSteps := 1000000 }) [-List.map_map, -List.mapM_map, ↓KW, encZ_eq, hH3, hHd, hgi, hgt, hgl, hggi, hggt, hHi, hHt, hvi, hvt, hri, hrt, hbc, hg1, hg2, hi, hys, cellsA_encM, one_encM, inj1_encM, inj_encM, kills_encM]
                refine callP_intro (ds := [encZ qq]) (by rfl) hng ?_
                simp (config := { maxSteps := 1000000 }) [-List.map_map, -List.mapM_map, ↓KW, encZ_eq, hH3, hHd, hgi, hgt, hgl, hggi, hggt, hHi, hHt, hvi, hvt, hri, hrt, hbc, hg1, hg2, hi, hys, cellsA_encM, one_encM, inj1_encM, inj_encM, kills_encM]
                refine o1_wend (pre := pre) (w := w) (w' := w.add R c top i nq) (ds := [.i .i64 (top : Int), .i .i64 (i : Int), encZ nq]) (fun _ _ => by first | rfl | exact ow_nil' _ _ _ _ _) (by simp) (by rw [hpl]; rfl) ((((hF.upd hs (by omega) h2 h3 (by omega)).upd hs (by omega) h2 h3 (by omega)).upd hs (by omega) h2 h3 (by omega)).upd hs (by omega) h2 h3 (by omega)) hprf hs (by omega) h2 h3 (by simp only; omega) (by rfl) (by rfl) hs2 had ?_
                intro l H' p' q' r' n' hl g1 g2 g3 g4 hF'
                have hl1 := hl 1 (by omega)
                have hl2 := hl 2 (by omega)
                have hl3 := hl 3 (by omega)
                simp (config := { maxSteps := 1000000 }) [-List.map_map, -List.mapM_map, ↓KW, hl1, hl2, hl3]
                refine o1_wend (pre := pre) (w := w.add R c top i nq) (w' := (w.add R c top i nq).sw R c top i) (ds := [.i .i64 (top : Int), .i .i64 (i : Int)]) (fun _ _ => by first | rfl | exact ow_nil' _ _ _ _ _) (by simp) (by rw [hpl]; rfl) hF' hprf hs2 (by omega) g2 g3 g4 (by rfl) (by rfl) (W3.sw_sh ..) hsw ?_
                intro l2 H2 p2 q2 r2 n2 kl k1 k2 k3 k4 kF
                have kl1 := kl 1 (by omega)
                have kl2 := kl 2 (by omega)
                have kl3 := kl 3 (by omega)
                refine nxt_intro ((w.add R c top i nq).sw R c top i, wFam pre R c ((w.add R c top i nq).sw R c top i).M ((w.add R c top i nq).sw R c top i).U ((w.add R c top i nq).sw R c top i).V) ⟨heu2, rfl⟩ hless ?_
                have e := can_facts (p := p2) (q := q2) (r := r2) hpl (W3.sw_sh R c (w.add R c top i nq) top i)
                refine wk_can kF (W3.sw_sh R c (w.add R c top i nq) top i) (by omega) (by omega) k2 k3 hprf ?_
                simp [-List.map_map, upd, inj1, Γ0, e.1, e.2.1, e.2.2.1, e.2.2.2.1, e.2.2.2.2.1, e.2.2.2.2.2, hl1, hl2, hl3, kl1, kl2, kl3]
        · have hq3 : ¬ (i : Int) < R := by omega
          have e := hei.end hi
          have ok := hei.ok
          have hHd := hF.w.hdrM hs
          have hgt := hdr_get (c := c) (b := p + 1) hgo.2
          have hgl := hdr_len c R (p + 1)
          refine (show ∃ l, hdr c R (p + 1) = l from ⟨_, rfl⟩).elim fun cells hcl => ?_
          rw [hcl] at hHd hgt hgl
          have hggt : ∀ h : top < cells.length, cells[top]'h = .own (top + (p + 1)) 0 c 2 := fun h => Option.some.inj ((List.getElem?_eq_getElem h).symm.trans hgt)
          refine (hF.rd hs hgo.2 hgo.1).hd.elim fun vt hh => ?_
          have hHt := hh.1
          have hvt := hh.2.1
          have hrt := hh.2.2
          clear hh
          have hbc : col * 2 + 2 ≤ c * 2 := by omega
          have hg1 := hgo.1
          have hg2 := hgo.2
          have hsgt := r01SignZ (ent w.M top col)
          have hrest' := hrest
          rw [← e] at hrest'
          refine (show ∃ x, ent w.M top col = x from ⟨_, rfl⟩).elim fun x hx => ?_
          rw [hx] at hrt hsgt hrest'
          simp (config := { maxSteps := 1000000 }) [-List.map_map, -List.mapM_map, ↓KW, hq3, hi, hH1]
          simp (config := { maxSteps := 1000000 }) [-List.map_map, -List.mapM_map, ↓KW, hH3, hHd, hgt, hgl, hggt, hHt, hvt, hrt, hbc, hg1, hg2, cellsA_encM, one_encM, inj1_encM, inj_encM, kills_encM]
          refine callP_intro (ds := [encZ x]) (by rfl) hsgt ?_
          by_cases hx0 : x = 0
          · have hxs : (x.sign == 0) = true := by simp [hx0]
            have hfo := (hrest'.resolve_right fun h => h.1 hx0).2
            simp (config := { maxSteps := 1000000 }) [-List.map_map, -List.mapM_map, ↓KW, hH3, hHd, hgt, hgl, hggt, hHt, hvt, hrt, hbc, hg1, hg2, cellsA_encM, one_encM, inj1_encM, inj_encM, kills_encM, hxs, hw2]
            refine nxt_intro (col + 1, top, w, H) ⟨hfo, hgo.1, htb, hHg⟩ (by omega) ?_
            subst hHg
            have e := can_facts (p := p) (q := q) (r := r) hpl hs
            refine wk_can hF hs (by omega) (by omega) h2 h3 hprf ?_
            simp [-List.map_map, upd, inj1, Γ0, e.1, e.2.1, e.2.2.1, e.2.2.2.1, e.2.2.2.2.1, e.2.2.2.2.2]
          · have hxs : (x.sign == 0) = false := by simp [hx0]
            refine (hrest'.resolve_left fun h => hx0 h.1).2.elim fun w2 hh => ?_
            have hrd0 := hh.1
            have hfo := hh.2
            clear hh
            simp (config := { maxSteps := 1000000 }) [-List.map_map, -List.mapM_map, ↓KW, hH3, hHd, hgt, hgl, hggt, hHt, hvt, hrt, hbc, hg1, hg2, cellsA_encM, one_encM, inj1_encM, inj_encM, kills_encM, hxs]
            refine callP_intro (ds := [encZ x]) (by rfl) hsgt ?_
            by_cases hxn : x < 0
            · have hxl : x.sign < 0 := by rw [Int.sign_eq_neg_one_of_neg hxn]; decide
              have hng := r12Negate hs (by omega) hc hgo.2 (fun r t => sy_of_sd (ok.m r t)) (fun r t => sy_of_sd (ok.u r t)) (fun r t => sy_of_sd (ok.v r t))
              have hS : ngS R c col top w = w.ng R c top := by unfold ngS; rw [hx, if_pos hxn]
              have hx1 : ent (w.ng R c top).M top col ≠ 0 := by
                have := ngS_col (w := w) hgo.1 hgo.2 hgo.2
                rw [hS, hx] at this
                exact fun h => hx0 (this.1 h)
              rw [hS] at hrd0
              simp (config := { maxSteps := 1000000 }) [-List.map_map, -List.mapM_map, ↓KW, hH3, hHd, hgt, hgl, hggt, hHt, hvt, hrt, hbc, hg1, hg2, cellsA_encM, one_encM, inj1_encM, inj_encM, kills_encM, hxl]
              refine o1_wend (pre := pre) (w := w) (w' := w.ng R c top) (ds := [.i .i64 (top : Int)]) (fun _ _ => by first | rfl | exact ow_nil' _ _ _ _ _) (by simp) (by rw [hpl]; rfl) hF hprf hs (by omega) h2 h3 (by simp only; omega) (by rfl) (by rfl) (W3.ng_sh ..) hng ?_
              intro l H' p' q' r' n' hl g1 g2 g3 g4 hF'
              have hl1 := hl 1 (by omega)
              have hl2 := hl 2 (by omega)
              have hl3 := hl 3 (by omega)
              simp (config := { maxSteps := 1000000 }) [-List.map_map, -List.mapM_map, ↓KW, hl1, hl2, hl3]
              refine loopP_inv (fun x : Nat × W3 × (Nat → Option HO) => Rd R c col top x.1 x.2.1 w2 ∧ x.1 ≤ top ∧ ent x.2.1.M top col ≠ 0 ∧ wFam pre R c x.2.1.M x.2.1.U x.2.1.V = x.2.2) (fun x => ⟨sltF [(1, .ptr 1 0), (2, .ptr 2 0), (3, .ptr 3 0), (4, .d (.i .i64 (top : Int))), (5, .d (.i .i64 (col : Int))), (10, .d (.i .i64 (x.1 : Int)))], x.2.2, 3 + 3 * R + 4⟩) (fun x => top - x.1) (0, w.ng R c top, wFam pre R c (w.ng R c top).M (w.ng R c top).U (w.ng R c top).V) ⟨hrd0, Nat.zero_le _, hx1, rfl⟩ ?_ ?_
              · have e := can_facts (p := p') (q := q') (r := r') hpl (W3.ng_sh R c w top)
                refine wk_can hF' (W3.ng_sh R c w top) (by omega) (by omega) g2 g3 hprf ?_
                simp [-List.map_map, upd, inj1, Γ0, e.1, e.2.1, e.2.2.1, e.2.2.2.1, e.2.2.2.2.1, e.2.2.2.2.2, hl1, hl2, hl3]
              · clear hH3 hHd hgt hgl hggt hHt hvt hrt hF h1 h2 h3 h4 hs hHg hx hsgt hei
                rintro ⟨i, w, H⟩ ⟨hrd, hit, hxc, hHg⟩
                simp only at hrd hit hxc hHg
                have ok := hrd.ok
                have hs := ok.sh
                refine (can_HF (pre := pre) hs hHg).elim fun p hh => hh.elim fun q hh => hh.elim fun r hh => ?_
                have h1 := hh.1
                have h2 := hh.2.1
                have h3 := hh.2.2.1
                have h4 := hh.2.2.2.1
                have hF := hh.2.2.2.2
                rw [hpl] at h1 h4
                clear hh
                have hH3 := hF.root2 hpl
                by_cases hig : i < top
                · have q5 : (i : Int) < top := by omega
                  have hi : i < R := by omega
                  have hw5 : IntKind.i64.wrap ((i : Int) + 1) = (i : Int) + 1 := wrap_i64 (by omega) (by omega)
                  have hHd := hF.w.hdrM hs
                  have hgi := hdr_get (c := c) (b := p + 1) hi
                  have hgt := hdr_get (c := c) (b := p + 1) hgo.2
                  have hgl := hdr_len c R (p + 1)
                  refine (show ∃ l, hdr c R (p + 1) = l from ⟨_, rfl⟩).elim fun cells hcl => ?_
                  rw [hcl] at hHd hgi hgt hgl
                  have hggi : ∀ h : i < cells.length, cells[i]'h = .own (i + (p + 1)) 0 c 2 := fun h => Option.some.inj ((List.getElem?_eq_getElem h).symm.trans hgi)
                  have hggt : ∀ h : top < cells.length, cells[top]'h = .own (top + (p + 1)) 0 c 2 := fun h => Option.some.inj ((List.getElem?_eq_getElem h).symm.trans hgt)
                  refine (hF.rd hs hi hgo.1).hd.elim fun vi hh => ?_
                  have hHi := hh.1
                  have hvi := hh.2.1
                  have hri := hh.2.2
                  clear hh
                  refine (hF.rd hs hgo.2 hgo.1).hd.elim fun vt hh => ?_
                  have hHt := hh.1
                  have hvt := hh.2.1
                  have hrt := hh.2.2
                  clear hh
                  have hnext := hrd.next hig
                  have hxn : ent (rdS R c col top i w).M top col ≠ 0 := by
                    show ent (rowA R c w.M i top _) top col ≠ 0
                    rw [ent_rowA hgo.2 hgo.1, if_neg (by omega)]; exact hxc
                  have hS : rdS R c col top i w = w.add R c i top (-(ent w.M i col / ent w.M top col)) := rfl
                  have hyd : Sd (ent w.M i col) := ok.m i col
                  have hxd : Sd (ent w.M top col) := ok.m top col
                  have hqs : Sd (ent w.M i col / ent w.M top col) := Nat.le_trans (digs_len_mono (Int.natAbs_ediv_le_natAbs _ _)) hyd
                  have hfl := r12Floor (ent w.M i col) (ent w.M top col) hxc hyd hxd
                  have hng := r01NegB (ent w.M i col / ent w.M top col) (Nat.le_trans hqs (by decide))
                  refine (show ∃ nq, -(ent w.M i col / ent w.M top col) = nq from ⟨_, rfl⟩).elim fun nq hnq => ?_
                  have hsn : Sd nq := by rw [← hnq]; unfold Sd; rw [Int.natAbs_neg]; exact hqs
                  rw [hnq] at hng hS
                  rw [hS] at hnext hxn
                  refine (show ∃ qq, ent w.M i col / ent w.M top col = qq from ⟨_, rfl⟩).elim fun qq hqq => ?_
                  rw [hqq] at hng hfl
                  refine (show ∃ y, ent w.M i col = y from ⟨_, rfl⟩).elim fun y hy => ?_
                  refine (show ∃ x, ent w.M top col = x from ⟨_, rfl⟩).elim fun x hx => ?_
                  rw [hy] at hri hfl
                  rw [hx] at hrt hfl
                  have hs2 : (w.add R c i top nq).sh R c := W3.add_sh ..
                  have had := r12AddTo hs (by omega) hc hi hgo.2 (sy_of_sd hsn) (fun r t => sy_of_sd (ok.m r t)) (fun r t => sy_of_sd (ok.u r t)) (fun r t => sy_of_sd (ok.v r t))
                  have hbc : col * 2 + 2 ≤ c * 2 := by omega
                  have hg1 := hgo.1
                  have hg2 := hgo.2
                  simp (config := { maxSteps := 1000000 }) [-List.map_map, -List.mapM_map, ↓KW, q5, hig, hH3, hHd, hgi, hgt, hgl, hggi, hggt, hHi, hHt, hvi, hvt, hri, hrt, hbc, hg1, hg2, hi, cellsA_encM, one_encM, inj1_encM, inj_encM, kills_encM]
                  refine callP_intro (ds := [encZ y, encZ x]) (by rfl) hfl ?_
                  simp (config := { maxSteps := 1000000 }) [-List.map_map, -List.mapM_map, ↓KW, encZ_eq, hH3, hHd, hgi, hgt, hgl, hggi, hggt, hHi, hHt, hvi, hvt, hri, hrt, hbc, hg1, hg2, hi, cellsA_encM, one_encM, inj1_encM, inj_encM, kills_encM]
                  refine callP_intro (ds := [encZ qq]) (by rfl) hng ?_
                  simp (config := { maxSteps := 1000000 }) [-List.map_map, -List.mapM_map, ↓KW, encZ_eq, hH3, hHd, hgi, hgt, hgl, hggi, hggt, hHi, hHt, hvi, hvt, hri, hrt, hbc, hg1, hg2, hi, cellsA_encM, one_encM, inj1_encM, inj_encM, kills_encM]
                  refine o1_wend (pre := pre) (w := w) (w' := w.add R c i top nq) (ds := [.i .i64 (i : Int), .i .i64 (top : Int), encZ nq]) (fun _ _ => by first | rfl | exact ow_nil' _ _ _ _ _) (by simp) (by rw [hpl]; rfl) hF hprf hs (by omega) h2 h3 (by simp only; omega) (by rfl) (by rfl) hs2 had ?_
                  intro l H' p' q' r' n' hl g1 g2 g3 g4 hF'
                  have hl1 := hl 1 (by omega)
                  have hl2 := hl 2 (by omega)
                  have hl3 := hl 3 (by omega)
                  simp (config := { maxSteps := 1000000 }) [-List.map_map, -List.mapM_map, ↓KW, hl1, hl2, hl3, hw5]
                  refine nxt_intro (i + 1, w.add R c i top nq, wFam pre R c (w.add R c i top nq).M (w.add R c i top nq).U (w.add R c i top nq).V) ⟨hnext, hig, hxn, rfl⟩ (by omega) ?_
                  have e := can_facts (p := p') (q := q') (r := r') hpl hs2
                  refine wk_can hF' hs2 (by omega) (by omega) g2 g3 hprf ?_
                  simp [-List.map_map, upd, inj1, Γ0, e.1, e.2.1, e.2.2.1, e.2.2.2.1, e.2.2.2.2.1, e.2.2.2.2.2, hl1, hl2, hl3]
                · have q5 : ¬ (i : Int) < top := by omega
                  have e := hrd.end hig
                  simp (config := { maxSteps := 1000000 }) [-List.map_map, -List.mapM_map, ↓KW, q5, hig, hw1, hw2]
                  refine nxt_intro (col + 1, top + 1, w, H) ⟨e ▸ hfo, hgo.1, hgo.2, hHg⟩ (by omega) ?_
                  subst hHg
                  have e := can_facts (p := p) (q := q) (r := r) hpl hs
                  refine wk_can hF hs (by omega) (by omega) h2 h3 hprf ?_
                  simp [-List.map_map, upd, inj1, Γ0, e.1, e.2.1, e.2.2.1, e.2.2.2.1, e.2.2.2.2.1, e.2.2.2.2.2]
            · have hxl : ¬ x.sign < 0 := by
                have := Int.sign_nonneg_iff.2 (show 0 ≤ x by omega)
                omega
              have hS : ngS R c col top w = w := by unfold ngS; rw [hx, if_neg hxn]
              rw [hS] at hrd0
              simp (config := { maxSteps := 1000000 }) [-List.map_map, -List.mapM_map, ↓KW, hH3, hHd, hgt, hgl, hggt, hHt, hvt, hrt, hbc, hg1, hg2, cellsA_encM, one_encM, inj1_encM, inj_encM, kills_encM, hxl]
              refine loopP_inv (fun x : Nat × W3 × (Nat → Option HO) => Rd R c col top x.1 x.2.1 w2 ∧ x.1 ≤ top ∧ ent x.2.1.M top col ≠ 0 ∧ wFam pre R c x.2.1.M x.2.1.U x.2.1.V = x.2.2) (fun x => ⟨sltF [(1, .ptr 1 0), (2, .ptr 2 0), (3, .ptr 3 0), (4, .d (.i .i64 (top : Int))), (5, .d (.i .i64 (col : Int))), (10, .d (.i .i64 (x.1 : Int)))], x.2.2, 3 + 3 * R + 4⟩) (fun x => top - x.1) (0, w, H) ⟨hrd0, Nat.zero_le _, fun h => hx0 (hx.symm.trans h), hHg⟩ ?_ ?_
              · subst hHg
                have e := can_facts (p := p) (q := q) (r := r) hpl hs
                refine wk_can hF hs (by omega) (by omega) h2 h3 hprf ?_
                simp [-List.map_map, upd, inj1, Γ0, e.1, e.2.1, e.2.2.1, e.2.2.2.1, e.2.2.2.2.1, e.2.2.2.2.2]
              · clear hH3 hHd hgt hgl hggt hHt hvt hrt hF h1 h2 h3 h4 hs hHg hx hsgt hei
                rintro ⟨i, w, H⟩ ⟨hrd, hit, hxc, hHg⟩
                simp only at hrd hit hxc hHg
                have ok := hrd.ok
                have hs := ok.sh
                refine (can_HF (pre := pre) hs hHg).elim fun p hh => hh.elim fun q hh => hh.elim fun r hh => ?_
                have h1 := hh.1
                have h2 := hh.2.1
                have h3 := hh.2.2.1
                have h4 := hh.2.2.2.1
                have hF := hh.2.2.2.2
                rw [hpl] at h1 h4
                clear hh
                have hH3 := hF.root2 hpl
                by_cases hig : i < top
                · have q5 : (i : Int) < top := by omega
                  have hi : i < R := by omega
                  have hw5 : IntKind.i64.wrap ((i : Int) + 1) = (i : Int) + 1 := wrap_i64 (by omega) (by omega)
                  have hHd := hF.w.hdrM hs
                  have hgi := hdr_get (c := c) (b := p + 1) hi
                  have hgt := hdr_get (c := c) (b := p + 1) hgo.2
                  have hgl := hdr_len c R (p + 1)
                  refine (show ∃ l, hdr c R (p + 1) = l from ⟨_, rfl⟩).elim fun cells hcl => ?_
                  rw [hcl] at hHd hgi hgt hgl
                  have hggi : ∀ h : i < cells.length, cells[i]'h = .own (i + (p + 1)) 0 c 2 := fun h => Option.some.inj ((List.getElem?_eq_getElem h).symm.trans hgi)
                  have hggt : ∀ h : top < cells.length, cells[top]'h = .own (top + (p + 1)) 0 c 2 := fun h => Option.some.inj ((List.getElem?_eq_getElem h).symm.trans hgt)
                  refine (hF.rd hs hi hgo.1).hd.elim fun vi hh => ?_
                  have hHi := hh.1
                  have hvi := hh.2.1
                  have hri := hh.2.2
                  clear hh
                  refine (hF.rd hs hgo.2 hgo.1).hd.elim fun vt hh => ?_
                  have hHt := hh.1
                  have hvt := hh.2.1
                  have hrt := hh.2.2
                  clear hh
                  have hnext := hrd.next hig
                  have hxn : ent (rdS R c col top i w).M top col ≠ 0 := by
                    show ent (rowA R c w.M i top _) top col ≠ 0
                    rw [ent_rowA hgo.2 hgo.1, if_neg (by omega)]; exact hxc
                  have hS : rdS R c col top i w = w.add R c i top (-(ent w.M i col / ent w.M top col)) := rfl
                  have hyd : Sd (ent w.M i col) := ok.m i col
                  have hxd : Sd (ent w.M top col) := ok.m top col
                  have hqs : Sd (ent w.M i col / ent w.M top col) := Nat.le_trans (digs_len_mono (Int.natAbs_ediv_le_natAbs _ _)) hyd
                  have hfl := r12Floor (ent w.M i col) (ent w.M top col) hxc hyd hxd
                  have hng := r01NegB (ent w.M i col / ent w.M top col) (Nat.le_trans hqs (by decide))
                  refine (show ∃ nq, -(ent w.M i col / ent w.M top col) = nq from ⟨_, rfl⟩).elim fun nq hnq => ?_
                  have hsn : Sd nq := by rw [← hnq]; unfold Sd; rw [Int.natAbs_neg]; exact hqs
                  rw [hnq] at hng hS
                  rw [hS] at hnext hxn
                  refine (show ∃ qq, ent w.M i col / ent w.M top col = qq from ⟨_, rfl⟩).elim fun qq hqq => ?_
                  rw [hqq] at hng hfl
                  refine (show ∃ y, ent w.M i col = y from ⟨_, rfl⟩).elim fun y hy => ?_
                  refine (show ∃ x, ent w.M top col = x from ⟨_, rfl⟩).elim fun x hx => ?_
                  rw [hy] at hri hfl
                  rw [hx] at hrt hfl
                  have hs2 : (w.add R c i top nq).sh R c := W3.add_sh ..
                  have had := r12AddTo hs (by omega) hc hi hgo.2 (sy_of_sd hsn) (fun r t => sy_of_sd (ok.m r t)) (fun r t => sy_of_sd (ok.u r t)) (fun r t => sy_of_sd (ok.v r t))
                  have hbc : col * 2 + 2 ≤ c * 2 := by omega
                  have hg1 := hgo.1
                  have hg2 := hgo.2
                  simp (config := { maxSteps := 1000000 }) [-List.map_map, -List.mapM_map, ↓KW, q5, hig, hH3, hHd, hgi, hgt, hgl, hggi, hggt, hHi, hHt, hvi, hvt, hri, hrt, hbc, hg1, hg2, hi, cellsA_encM, one_encM, inj1_encM, inj_encM, kills_encM]
                  refine callP_intro (ds := [encZ y, encZ x]) (by rfl) hfl ?_
                  simp (config := { maxSteps := 1000000 }) [-List.map_map, -List.mapM_map, ↓KW, encZ_eq, hH3, hHd, hgi, hgt, hgl, hggi, hggt, hHi, hHt, hvi, hvt, hri, hrt, hbc, hg1, hg2, hi, cellsA_encM, one_encM, inj1_encM, inj_encM, kills_encM]
                  refine callP_intro (ds := [encZ qq]) (by rfl) hng ?_
                  simp (config := { maxSteps := 1000000 }) [-List.map_map, -List.mapM_map, ↓KW, encZ_eq, hH3, hHd, hgi, hgt, hgl, hggi, hggt, hHi, hHt, hvi, hvt, hri, hrt, hbc, hg1, hg2, hi, cellsA_encM, one_encM, inj1_encM, inj_encM, kills_encM]
                  refine o1_wend (pre := pre) (w := w) (w' := w.add R c i top nq) (ds := [.i .i64 (i : Int), .i .i64 (top : Int), encZ nq]) (fun _ _ => by first | rfl | exact ow_nil' _ _ _ _ _) (by simp) (by rw [hpl]; rfl) hF hprf hs (by omega) h2 h3 (by simp only; omega) (by rfl) (by rfl) hs2 had ?_
                  intro l H' p' q' r' n' hl g1 g2 g3 g4 hF'
                  have hl1 := hl 1 (by omega)
                  have hl2 := hl 2 (by omega)
                  have hl3 := hl 3 (by omega)
                  simp (config := { maxSteps := 1000000 }) [-List.map_map, -List.mapM_map, ↓KW, hl1, hl2, hl3, hw5]
                  refine nxt_intro (i + 1, w.add R c i top nq, wFam pre R c (w.add R c i top nq).M (w.add R c i top nq).U (w.add R c i top nq).V) ⟨hnext, hig, hxn, rfl⟩ (by omega) ?_
                  have e := can_facts (p := p') (q := q') (r := r') hpl hs2
                  refine wk_can hF' hs2 (by omega) (by omega) g2 g3 hprf ?_
                  simp [-List.map_map, upd, inj1, Γ0, e.1, e.2.1, e.2.2.1, e.2.2.2.1, e.2.2.2.2.1, e.2.2.2.2.2, hl1, hl2, hl3]
                · have q5 : ¬ (i : Int) < top := by omega
                  have e := hrd.end hig
                  simp (config := { maxSteps := 1000000 }) [-List.map_map, -List.mapM_map, ↓KW, q5, hig, hw1, hw2]
                  refine nxt_intro (col + 1, top + 1, w, H) ⟨e ▸ hfo, hgo.1, hgo.2, hHg⟩ (by omega) ?_
                  subst hHg
                  have e := can_facts (p := p) (q := q) (r := r) hpl hs
                  refine wk_can hF hs (by omega) (by omega) h2 h3 hprf ?_
                  simp [-List.map_map, upd, inj1, Γ0, e.1, e.2.1, e.2.2.1, e.2.2.2.1, e.2.2.2.2.1, e.2.2.2.2.2]
    · have e := hf.end hgo
      subst e
      have hu : ∀ {c' m : Nat} {N : List (List Int)} (x : Option HO), 3 < m → (∀ (i : Nat) o, (mB c' N m)[i]? = some o → H (i + m) = some o) → ∀ (i : Nat) o, (mB c' N m)[i]? = some o → upd H 2 x (i + m) = some o := fun x hm h i o ho => by
        rw [upd_ne _ _ (by omega)]; exact h i o ho
      have f1 := fun x k => frz_mat (H := upd H 2 x) k hs.m (hu x (by omega) hF.w.m)
      have f2 := fun x k => frz_mat (H := upd H 2 x) k hs.u (hu x (by omega) hF.w.u)
      have f3 := fun x k => frz_mat (H := upd H 2 x) k hs.v (hu x (by omega) hF.w.v)
      by_cases q1 : col < c
      · have q2 : ¬ top < R := fun h => hgo ⟨q1, h⟩
        have q1' : (col : Int) < c := by omega
        have q2' : ¬ (top : Int) < R := by omega
        simp (config := { maxSteps := 1000000 }) [-List.map_map, -List.mapM_map, ↓KW, q1, q1', q2, q2', hH1, hH2, hH3, f1, f2, f3, -frz_own]
        rfl
      · have q1' : ¬ (col : Int) < c := by omega
        simp (config := { maxSteps := 1000000 }) [-List.map_map, -List.mapM_map, ↓KW, q1, q1', hH1, hH2, hH3, f1, f2, f3, -frz_own]
        rfl
end Go.Am
end

section
set_option linter.unusedVariables false
set_option linter.unusedSimpArgs false
open Go Go.Am Go.Proofs
namespace Go.Am
set_option linter.unusedSimpArgs false
set_option linter.unusedVariables false
def pvF : Nat → List Int → Int
  | _, [] => -1
  | k, z :: l => if z = 0 then pvF (k + 1) l else (k : Int)
def pivR (v : List Int) : Int := pvF 0 v
theorem sgn0 {z : Int} (h : z = 0) : (z.sign != 0) = false := by rw [h]; rfl
theorem sgn1 {z : Int} (h : ¬ z = 0) : (z.sign != 0) = true := by
  have : z.sign ≠ 0 := fun e => h (Int.sign_eq_zero_iff_zero.1 e)
  simpa using this
set_option maxHeartbeats 1000000 in
set_option maxRecDepth 10000 in
theorem r12Pivot (v : List Int) (hl : v.length ≤ 1000000) : Spec Tryz.prog 102 [encV2 v] (.i .i64 (pivR v)) := by
  refine spec_of (N := 17) follows_mixed Tryz.func102 rfl rfl rfl (by kernel_rfl) (by kernel_rfl) (by simp) ?_
  simp (config := { maxSteps := 1000000 }) [-List.map_map, -List.mapM_map, ↓KW, encV2]
  refine loopP_inv (fun i : Nat => i ≤ v.length ∧ pvF i (v.drop i) = pivR v) (fun i => StL [(0, .d (encV2 v)), (3, .d (.i .i64 (i : Int)))] none []) (fun i => v.length - i) 0 ⟨Nat.zero_le _, rfl⟩ ?_ ?_
  · refine wk_l [] (by simp) ?_ ?_ <;> simp [-List.map_map, upd, inj1, Γ0, encV2, blksOk]
  · intro i ⟨hi, hp⟩
    by_cases hgo : i < v.length
    · have q1 : (i : Int) < v.length := by omega
      have hx : v[i]? = some v[i] := List.getElem?_eq_getElem hgo
      have hw : IntKind.i64.wrap ((i : Int) + 1) = (i : Int) + 1 := wrap_i64 (by omega) (by omega)
      rw [List.drop_eq_getElem_cons hgo, pvF] at hp
      generalize v[i] = z at *
      have hS := r01SignZ z
      simp (config := { maxSteps := 1000000 }) [-List.map_map, -List.mapM_map, ↓KW, encV2, q1, hx, encN_eq]
      refine callP_intro (ds := [encZ z]) (by rfl) hS ?_
      by_cases h0 : z = 0
      · have hs := sgn0 h0
        rw [if_pos h0] at hp
        generalize z.sign = sn at *
        simp (config := { maxSteps := 1000000 }) [-List.map_map, -List.mapM_map, ↓KW, hw, hs]
        refine nxt_intro (i + 1) ⟨hgo, hp⟩ (Nat.sub_lt_sub_left hgo (Nat.lt_succ_self _)) (wk_l [] (by simp) ?_ ?_) <;> simp [-List.map_map, upd, inj1, Γ0, encV2, blksOk]
      · have hs := sgn1 h0
        rw [if_neg h0] at hp
        generalize z.sign = sn at *
        simp (config := { maxSteps := 1000000 }) [-List.map_map, -List.mapM_map, ↓KW, hw, hs, ← hp]
    · have q1 : ¬ (i : Int) < v.length := by omega
      rw [List.drop_eq_nil_of_le (by omega), pvF] at hp
      simp (config := { maxSteps := 1000000 }) [-List.map_map, -List.mapM_map, ↓KW, encV2, q1, ← hp]
def rkR (A : List (List Int)) : Nat := (A.filter fun v => decide (0 ≤ pivR v)).length
theorem rkR_take {A : List (List Int)} {i : Nat} (h : i < A.length) : rkR (A.take (i + 1)) = rkR (A.take i) + if 0 ≤ pivR A[i] then 1 else 0 := by
  rw [List.take_add_one, List.getElem?_eq_getElem h]
  unfold rkR
  rw [List.filter_append, List.length_append]
  congr 1
  by_cases e : 0 ≤ pivR A[i] <;> simp [e]
theorem rkR_le (A : List (List Int)) : rkR A ≤ A.length := List.length_filter_le _ _
theorem rkR_take_le (A : List (List Int)) (i : Nat) : rkR (A.take i) ≤ i := Nat.le_trans (rkR_le _) (by simp; omega)
set_option maxHeartbeats 1000000 in
set_option maxRecDepth 10000 in
theorem r12Rank {R c : Nat} {A : List (List Int)} (hA : Sh R c A) (hR : R ≤ 1000) (hc : c ≤ 1000) : Spec Tryz.prog 88 [encMat R c A] (.i .i64 (rkR A : Int)) := by
  refine spec_of (N := 21) follows_mixed Tryz.func88 rfl rfl rfl (by kernel_rfl) (by kernel_rfl) (by simp) ?_
  simp (config := { maxSteps := 1000000 }) [-List.map_map, -List.mapM_map, ↓KW, encMat]
  refine loopP_inv (fun i : Nat => i ≤ R) (fun i => StL [(1, .ptr 1 0), (3, .d (.i .i64 (rkR (A.take i) : Int))), (4, .d (.i .i64 (i : Int)))] none [.cells 60 [.d (.i .i64 (R : Int)), .d (.i .i64 (c : Int)), .d (.sl (A.map fun v => [encV2 v]))]]) (fun i => R - i) 0 (Nat.zero_le _) ?_ ?_
  · refine wk_l [1] (by simp) ?_ ?_ <;> simp [-List.map_map, upd, inj1, Γ0, rkR]
  · intro i hi
    have hAl := hA.len
    by_cases hgo : i < R
    · have q1 : (i : Int) < R := by omega
      have hgA : i < A.length := by omega
      have hx : A[i]? = some A[i] := List.getElem?_eq_getElem hgA
      have hw : IntKind.i64.wrap ((i : Int) + 1) = (i : Int) + 1 := wrap_i64 (by omega) (by omega)
      have htk := rkR_take hgA
      have hvl := hA.row _ (List.getElem_mem hgA)
      have hrl := rkR_take_le A i
      generalize A[i] = v at *
      generalize rkR (A.take i) = n at *
      have hw2 : IntKind.i64.wrap ((n : Int) + 1) = (n : Int) + 1 := wrap_i64 (by omega) (by omega)
      have hS := r12Pivot v (by omega)
      have hv2 : encV2 v = .sl (v.map encN) := rfl
      simp (config := { maxSteps := 1000000 }) [-List.map_map, -List.mapM_map, ↓KW, q1, hx, hv2]
      refine callP_intro (ds := [encV2 v]) (by rfl) hS ?_
      by_cases h0 : 0 ≤ pivR v
      · rw [if_pos h0] at htk
        simp (config := { maxSteps := 1000000 }) [-List.map_map, -List.mapM_map, ↓KW, hw, hw2, h0]
        refine nxt_intro (i + 1) hgo (Nat.sub_lt_sub_left hgo (Nat.lt_succ_self _)) (wk_l [1] (by simp) ?_ ?_) <;> simp [-List.map_map, upd, inj1, Γ0, htk]
      · rw [if_neg h0] at htk
        simp (config := { maxSteps := 1000000 }) [-List.map_map, -List.mapM_map, ↓KW, hw, hw2, h0]
        refine nxt_intro (i + 1) hgo (Nat.sub_lt_sub_left hgo (Nat.lt_succ_self _)) (wk_l [1] (by simp) ?_ ?_) <;> simp [-List.map_map, upd, inj1, Γ0, htk]
    · have q1 : ¬ (i : Int) < R := by omega
      rw [List.take_of_length_le (by omega)]
      simp (config := { maxSteps := 1000000 }) [-List.map_map, -List.mapM_map, ↓KW, q1]
theorem okHead_rows (A : List (List Int)) : okHead 1 (A.map fun v => [encV2 v]) = true := by cases A <;> rfl
set_option maxHeartbeats 1000000 in
set_option maxRecDepth 10000 in
theorem r12Top {R c : Nat} {A : List (List Int)} (hA : Sh R c A) (n : Nat) (hn : n ≤ R) (hR : R ≤ 1000) (hc : c ≤ 1000) : Spec Tryz.prog 103 [encMat R c A, .i .i64 (n : Int)] (encMat n c (A.take n)) := by
  refine spec_of (N := 13) follows_mixed Tryz.func103 rfl rfl rfl (by kernel_rfl) (by kernel_rfl) (by simp) ?_
  have hAl := hA.len
  have q1 : (n : Int) ≤ A.length := by omega
  have q2 : n ≤ A.length := by omega
  have q3 := okHead_rows A
  simp (config := { maxSteps := 1000000 }) [-List.map_map, -List.mapM_map, ↓KW, encMat, sliceA, q1, q2, q3, hAl, hn, List.map_take]
set_option maxHeartbeats 1000000 in
set_option maxRecDepth 10000 in
theorem r12Basis {R c : Nat} {A : List (List Int)} {wf : W3} (hA : Sh R c A) (hR : R ≤ 15) (hc : c ≤ 1000) (hAs : ∀ v ∈ A, ∀ z ∈ v, Sz z) (hFo : Fo R c 0 0 ⟨A, idM R, idM R⟩ wf) (hw : Sh R c wf.M) :
    Spec Tryz.prog 89 [encMat R c A] (encMat (rkR wf.M) c (wf.M.take (rkR wf.M))) := by
  refine spec_of (N := 12) follows_mixed Tryz.func89 rfl rfl rfl (by kernel_rfl) (by kernel_rfl) (by simp) ?_
  have hF := r12Form hA hR hc hAs hFo
  have hK := r12Rank hw (by omega) hc
  have hle : rkR wf.M ≤ R := by have := rkR_le wf.M; rwa [hw.len] at this
  have hT := r12Top hw (rkR wf.M) hle (by omega) hc
  generalize rkR wf.M = k at *
  simp (config := { maxSteps := 1000000 }) [-List.map_map, -List.mapM_map, ↓KW, encMat]
  refine callP_intro (ds := [encMat R c A]) (by rfl) hF ?_
  simp (config := { maxSteps := 1000000 }) [-List.map_map, -List.mapM_map, ↓KW, encHer]
  refine callP_intro (ds := [encMat R c wf.M]) (by rfl) hK ?_
  simp (config := { maxSteps := 1000000 }) [-List.map_map, -List.mapM_map, ↓KW, encHer]
  refine callP_intro (ds := [encMat R c wf.M, .i .i64 (k : Int)]) (by rfl) hT ?_
  simp (config := { maxSteps := 1000000 }) [-List.map_map, -List.mapM_map, ↓KW, encMat]
set_option maxHeartbeats 1000000 in
set_option maxRecDepth 10000 in
theorem r15LeftS {R c : Nat} {A B : List (List Int)} {wf wg : W3} (hA : Sh R c A) (hR : R ≤ 15) (hc : c ≤ 1000) (hAs : ∀ v ∈ A, ∀ z ∈ v, Sz z) (hFo : Fo R c 0 0 ⟨A, idM R, idM R⟩ wf) (hw : Sh R c wf.M) (hu : Sh R R wf.U)
    (hk : rkR wf.M ≤ R) (hB : wf.U.drop (rkR wf.M) = B) (hBs : ∀ v ∈ B, ∀ z ∈ v, Sz z) (hFg : Fo (R - rkR wf.M) R 0 0 ⟨B, idM (R - rkR wf.M), idM (R - rkR wf.M)⟩ wg) (hg : Sh (R - rkR wf.M) R wg.M) :
    Spec Tryz.prog 77 [encMat R c A] (encMat (rkR wg.M) R (wg.M.take (rkR wg.M))) := by
  refine spec_of (N := 25) follows_mixed Tryz.func77 rfl rfl rfl (by kernel_rfl) (by kernel_rfl) (by simp) ?_
  have hF := r12Form hA hR hc hAs hFo
  have hK := r12Rank hw (by omega) hc
  have hBh : Sh (R - rkR wf.M) R B := ⟨by rw [← hB, List.length_drop, hu.len], fun v hv => hu.row v (List.mem_of_mem_drop (hB ▸ hv))⟩
  have hG := r12Basis hBh (by omega) (by omega) hBs hFg hg
  have hul := hu.len
  generalize rkR wf.M = k at *
  have q1 : (k : Int) ≤ wf.U.length := by omega
  have q2 : k ≤ wf.U.length := by omega
  have q3 := okHead_rows wf.U
  have q5 : List.take R (wf.U.map fun v => [encV2 v]) = wf.U.map fun v => [encV2 v] := List.take_of_length_le (by simp; omega)
  have q4 : ((R - k : Nat) : Int) = (R : Int) - k := by omega
  have hwr : IntKind.i64.wrap ((R : Int) - k) = (R : Int) - k := wrap_i64 (by omega) (by omega)
  rw [q4] at hG
  simp (config := { maxSteps := 1000000 }) [-List.map_map, -List.mapM_map, ↓KW, encMat]
  refine callP_intro (ds := [encMat R c A]) (by rfl) hF ?_
  simp (config := { maxSteps := 1000000 }) [-List.map_map, -List.mapM_map, ↓KW, encHer]
  refine callP_intro (ds := [encMat R c wf.M]) (by rfl) hK ?_
  simp (config := { maxSteps := 1000000 }) [-List.map_map, -List.mapM_map, ↓KW, encHer, hwr, sliceA, q1, q2, q3, q5, hul, hk]
  refine callP_intro (ds := [encMat ((R : Int) - k) R B]) (by simp only [← hB, encMat, List.map_drop]; rfl) hG ?_
  simp (config := { maxSteps := 1000000 }) [-List.map_map, -List.mapM_map, ↓KW, encMat]
end Go.Am
end

section
set_option linter.unusedVariables false
set_option linter.unusedSimpArgs false
open Go Go.Am Go.Proofs
namespace Go.Am
set_option linter.unusedSimpArgs false
set_option linter.unusedVariables false
theorem pvF_pos : ∀ (v : List Int) (k : Nat), 0 ≤ pvF k v ↔ ∃ z ∈ v, z ≠ 0
  | [], k => by simp [pvF]
  | z :: v, k => by
    unfold pvF
    by_cases h : z = 0
    · rw [if_pos h, pvF_pos v (k + 1)]
      simp [h]
    · rw [if_neg h]
      exact ⟨fun _ => ⟨z, List.mem_cons_self .., h⟩, fun _ => by omega⟩
theorem getD_mem {v : List Int} {t : Nat} (h : v.getD t 0 ≠ 0) : v.getD t 0 ∈ v := by
  rw [List.getD_eq_getElem?_getD] at h ⊢
  cases e : v[t]? with
  | none => rw [e] at h; exact (h rfl).elim
  | some z => exact List.mem_of_getElem? e
theorem mem_getD {v : List Int} {z : Int} (h : z ∈ v) : ∃ t, t < v.length ∧ v.getD t 0 = z := by
  obtain ⟨t, ht, e⟩ := List.getElem_of_mem h
  exact ⟨t, ht, by rw [List.getD_eq_getElem?_getD, List.getElem?_eq_getElem ht, e]; rfl⟩
theorem rank_eq {R c k : Nat} {M : List (List Int)} (hM : Sh R c M) (hk : k ≤ R) (hz : ∀ r t, k ≤ r → r < R → t < c → ent M r t = 0) (hn : ∀ r, r < k → ∃ t, t < c ∧ ent M r t ≠ 0) : rkR M = k := by
  unfold rkR
  have hl := hM.len
  have e : (M.take k ++ M.drop k).filter (fun v => decide (0 ≤ pivR v)) = M.take k := by
    rw [List.filter_append, List.filter_eq_self.2, List.filter_eq_nil_iff.2, List.append_nil]
    · intro v hv
      obtain ⟨i, hi, e⟩ := List.getElem_of_mem hv
      rw [List.getElem_drop] at e
      have hi2 : k + i < R := by rw [List.length_drop] at hi; omega
      intro h
      obtain ⟨z, hzv, hz0⟩ := (pvF_pos v 0).1 (of_decide_eq_true h)
      obtain ⟨t, ht, et⟩ := mem_getD hzv
      have hvc : v.length = c := hM.row v (List.mem_of_mem_drop hv)
      refine hz0 ?_
      rw [← et]
      have := hz (k + i) t (by omega) hi2 (by omega)
      unfold ent at this
      rwa [List.getD_eq_getElem?_getD (l := M), List.getElem?_eq_getElem (by omega), Option.getD_some, e] at this
    · intro v hv
      obtain ⟨i, hi, e⟩ := List.getElem_of_mem hv
      rw [List.getElem_take] at e
      have hi2 : i < k := by rw [List.length_take] at hi; omega
      obtain ⟨t, ht, ht0⟩ := hn i hi2
      unfold ent at ht0
      rw [List.getD_eq_getElem?_getD (l := M), List.getElem?_eq_getElem (by omega), Option.getD_some, e] at ht0
      exact decide_eq_true ((pvF_pos v 0).2 ⟨_, getD_mem ht0, ht0⟩)
  rw [List.take_append_drop] at e
  rw [e, List.length_take]; omega
theorem Be.mem {e : Nat} {M : List (List Int)} (h : Be e M) (he : e < 1099511627776) : ∀ v ∈ M, ∀ z ∈ v, Sz z := fun v hv z hz => by
  obtain ⟨i, hi, e1⟩ := List.getElem_of_mem hv
  obtain ⟨t, ht, e2⟩ := mem_getD hz
  have := h.sd he i t
  unfold ent at this
  rw [List.getD_eq_getElem?_getD (l := M), List.getElem?_eq_getElem hi, Option.getD_some, e1, e2] at this
  exact Nat.le_trans this (by decide)
theorem idM_sh (R : Nat) : Sh R R (idM R) := mk_sh _ _ _
theorem idM_ent {R r s : Nat} (hr : r < R) (hs : s < R) : ent (idM R) r s = if r = s then 1 else 0 := mk_ent _ hr hs
theorem idM_be (R e : Nat) : Be e (idM R) := Be.of (idM_sh R) fun r t hr ht => by
  rw [idM_ent hr ht]
  have : 1 ≤ 2 ^ e := Nat.one_le_two_pow
  split <;> simp <;> omega
theorem form_ex {R c e : Nat} {A : List (List Int)} (hA : Sh R c A) (hR : R ≤ 15) (hB : Be e A) (he : dbl (tr R) e < 1099511627776) :
    ∃ wf k e', Fo R c 0 0 ⟨A, idM R, idM R⟩ wf ∧ rkR wf.M = k ∧ k ≤ R ∧ wf.sh R c ∧ B3 e' wf ∧ dbl (tr (R - k)) e' ≤ dbl (tr R) e ∧ PrEq R c R wf.U A wf.M ∧ ∀ r t, k ≤ r → r < R → t < c → ent wf.M r t = 0 := by
  have g : Gd R c A e 0 0 ⟨A, idM R, idM R⟩ := ⟨⟨hA, idM_sh R, idM_sh R⟩, ⟨hB, idM_be R e, idM_be R e⟩, fun r t hr ht => by
    show sgm R (fun j => ent (idM R) r j * ent A j t) = ent A r t
    rw [← sgm_one hr fun j => ent A j t]
    refine sgm_congr fun j hj => ?_
    rw [idM_ent hr hj]
    by_cases e : r = j
    · rw [if_pos e, if_pos e.symm]
    · rw [if_neg e, if_neg fun h => e h.symm], fun r t _ _ h => by omega, fun r h => by omega⟩
  obtain ⟨w', k, e', h1, h2, h3, h4, h5⟩ := fo_ex (A := A) hR c 0 0 e _ (by omega) (Nat.zero_le _) g he
  exact ⟨w', k, e', h1, rank_eq h3.sh.m h2 h4 h3.hi, h2, h3.sh, h3.b, h5, h3.eq, h4⟩
theorem sgm_comm (n m : Nat) (f : Nat → Nat → Int) : sgm n (fun i => sgm m (fun j => f i j)) = sgm m (fun j => sgm n (fun i => f i j)) := by
  induction n with
  | zero => exact (sgm_zero m).symm
  | succ n ih =>
    show sgm n _ + sgm m _ = _
    rw [ih, ← sgm_add]; rfl
theorem sgm_mulr (n : Nat) (k : Int) (f : Nat → Int) : sgm n (fun j => f j * k) = sgm n f * k := by
  rw [Int.mul_comm, ← sgm_mul]
  exact sgm_congr fun j _ => Int.mul_comm _ _
theorem ent_drop {k r s : Nat} {M : List (List Int)} : ent (M.drop k) r s = ent M (k + r) s := by
  unfold ent
  rw [List.getD_eq_getElem?_getD (l := M.drop k), List.getElem?_drop, List.getD_eq_getElem?_getD (l := M)]
/-- What Left gives back. -/
structure LeftR (R c E : Nat) (A L : List (List Int)) : Prop where
  spec : Spec Tryz.prog 77 [encMat R c A] (encMat L.length R L)
  len : L.length ≤ R
  row : ∀ v ∈ L, v.length = R
  be : ∀ v ∈ L, ∀ z ∈ v, z.natAbs ≤ 2 ^ E
  ker : ∀ v ∈ L, ∀ t, t < c → sgm R (fun j => v.getD j 0 * ent A j t) = 0
theorem left_ex {R c e : Nat} {A : List (List Int)} (hA : Sh R c A) (hR : R ≤ 15) (hc : c ≤ 1000) (hB : Be e A) (he : dbl (tr R) e < 1099511627776) : ∃ L, LeftR R c (dbl (tr R) e) A L := by
  obtain ⟨wf, k, e', f1, f2, f3, f4, f5, f6, f7, f8⟩ := form_ex hA hR hB he
  have hB2 : Sh (R - k) R (wf.U.drop k) := ⟨by rw [List.length_drop, f4.u.len], fun v hv => f4.u.row v (List.mem_of_mem_drop hv)⟩
  have hbe : Be e' (wf.U.drop k) := fun r t => by rw [ent_drop]; exact f5.u _ _
  obtain ⟨wg, q, e2, g1, g2, g3, g4, g5, g6, g7, g8⟩ := form_ex hB2 (by omega) hbe (Nat.lt_of_le_of_lt f6 he)
  have he1 : e < 1099511627776 := Nat.lt_of_le_of_lt (dbl_le _ _) he
  have he2 : e' < 1099511627776 := Nat.lt_of_le_of_lt (Nat.le_trans (dbl_le _ _) f6) he
  have he3 : e2 ≤ dbl (tr R) e := Nat.le_trans (dbl_le _ _) (Nat.le_trans g6 f6)
  have hS := r15LeftS hA hR hc (hB.mem he1) f1 f4.m f4.u (by rw [f2]; exact f3) rfl (by rw [f2]; exact hbe.mem he2) (by rw [f2]; exact g1) (by rw [f2]; exact g4.m)
  rw [g2] at hS
  have hlen : (wg.M.take q).length = q := by rw [List.length_take, g4.m.len]; omega
  refine ⟨wg.M.take q, by rw [hlen]; exact hS, by omega, fun v hv => g4.m.row v (List.mem_of_mem_take hv), fun v hv z hz => ?_, fun v hv t ht => ?_⟩
  · obtain ⟨i, hi, e1⟩ := List.getElem_of_mem (List.mem_of_mem_take hv)
    obtain ⟨s, hs, e2'⟩ := mem_getD hz
    have := g5.m i s
    unfold ent at this
    rw [List.getD_eq_getElem?_getD (l := wg.M), List.getElem?_eq_getElem hi, Option.getD_some, e1, e2'] at this
    exact Nat.le_trans this (Nat.pow_le_pow_right (by decide) he3)
  · obtain ⟨r, hr, e1⟩ := List.getElem_of_mem hv
    have hrq : r < q := by omega
    have hrR : r < R - k := by omega
    rw [List.getElem_take] at e1
    have hrl : r < wg.M.length := by rw [g4.m.len]; exact hrR
    have hvj : ∀ j, j < R → v.getD j 0 = sgm (R - k) fun i => ent wg.U r i * ent wf.U (k + i) j := fun j hj => by
      have h1 := g7 r j hrR hj
      have h2 : ent wg.M r j = v.getD j 0 := by
        unfold ent
        rw [List.getD_eq_getElem?_getD (l := wg.M), List.getElem?_eq_getElem hrl, Option.getD_some, e1]
      rw [← h2, ← h1]
      exact sgm_congr fun i _ => by rw [ent_drop]
    rw [sgm_congr fun j hj => by rw [hvj j hj, ← sgm_mulr], sgm_comm]
    rw [sgm_congr (g := fun _ => 0) fun i hi => ?_, sgm_zero]
    rw [sgm_congr (g := fun j => ent wg.U r i * (ent wf.U (k + i) j * ent A j t)) fun j _ => Int.mul_assoc _ _ _, sgm_mul, f7 (k + i) t (by omega) ht, f8 (k + i) t (by omega) (by omega) ht, Int.mul_zero]
/-! No columns -/
theorem rowA_zero {R c i j : Nat} {M : List (List Int)} (h : Sh R c M) : rowA R c M i j 0 = M :=
  (mk_of h fun r t hr ht => by unfold addF; split <;> simp_all).symm
theorem addV_zero {R i j : Nat} {V : List (List Int)} (h : Sh R R V) : addV R V i j 0 = V :=
  (mk_of h fun r t hr ht => by unfold addC; split <;> simp_all).symm
theorem idW_ok (R : Nat) : Ok R R ⟨idM R, idM R, idM R⟩ :=
  have h : B3 0 ⟨idM R, idM R, idM R⟩ := ⟨idM_be R 0, idM_be R 0, idM_be R 0⟩
  h.ok ⟨idM_sh R, idM_sh R, idM_sh R⟩ (by decide)
theorem ei_id {R col : Nat} (hc : col < R) : ∀ (n i : Nat), n + i = R → col < i → Ei R R col col i ⟨idM R, idM R, idM R⟩ ⟨idM R, idM R, idM R⟩
  | 0, i, h, _ => .done i _ (idW_ok R) (by omega)
  | n + 1, i, h, h2 => .go i _ _ _ (by omega) (.done _ (idW_ok R) (by rw [idM_ent (by omega) hc, if_neg (by omega)])) (ei_id hc n (i + 1) (by omega) (by omega))
theorem rd_id {R col : Nat} (hc : col < R) : ∀ (n i : Nat), n + i = col → Rd R R col col i ⟨idM R, idM R, idM R⟩ ⟨idM R, idM R, idM R⟩
  | 0, i, h => .done i _ (idW_ok R) (by omega)
  | n + 1, i, h => .go i _ _ (idW_ok R) (by omega) (by
    have e : rdS R R col col i ⟨idM R, idM R, idM R⟩ = ⟨idM R, idM R, idM R⟩ := by
      unfold rdS W3.add
      simp only
      rw [idM_ent (show i < R by omega) hc, if_neg (by omega), Int.zero_ediv, Int.neg_zero, rowA_zero (idM_sh R), addV_zero (idM_sh R)]
    rw [e]
    exact rd_id hc n (i + 1) (by omega))
theorem fo_id {R : Nat} : ∀ (n col : Nat), n + col = R → Fo R R col col ⟨idM R, idM R, idM R⟩ ⟨idM R, idM R, idM R⟩
  | 0, col, h => .done col col _ (idW_ok R) (by omega)
  | n + 1, col, h => by
    have hc : col < R := by omega
    have h1 : ent (idM R) col col = 1 := by rw [idM_ent hc hc, if_pos rfl]
    refine .piv col col _ _ _ _ hc hc (ei_id hc (R - (col + 1)) (col + 1) (by omega) (by omega)) (by rw [h1]; decide) ?_ (fo_id n (col + 1) (by omega))
    have e : ngS R R col col ⟨idM R, idM R, idM R⟩ = ⟨idM R, idM R, idM R⟩ := by
      unfold ngS
      rw [h1, if_neg (by decide)]
    rw [e]
    exact rd_id hc col 0 (by omega)
theorem left_id {R : Nat} {A : List (List Int)} (hA : Sh R 0 A) (hR : R ≤ 15) : LeftR R 0 0 A (idM R) := by
  have hr0 : rkR A = 0 := rank_eq hA (Nat.zero_le _) (fun r t _ _ h => by omega) (fun r h => by omega)
  have hr1 : rkR (idM R) = R := rank_eq (idM_sh R) (Nat.le_refl _) (fun r t h1 h2 _ => by omega) (fun r h => ⟨r, h, by rw [idM_ent h h, if_pos rfl]; decide⟩)
  have hAs : ∀ v ∈ A, ∀ z ∈ v, Sz z := fun v hv z hz => by
    have := hA.row v hv
    rw [List.eq_nil_of_length_eq_zero this] at hz; cases hz
  have hb : B3 0 ⟨A, idM R, idM R⟩ := ⟨fun r t => by rw [ent_out hA (by omega)]; exact Nat.zero_le _, idM_be R 0, idM_be R 0⟩
  have hIs := (idM_be R 0).mem (by decide)
  have hl : (idM R).length = R := (idM_sh R).len
  have hd : (idM R).drop (rkR A) = idM R := by rw [hr0]; rfl
  have hS := r15LeftS (B := idM R) (wf := ⟨A, idM R, idM R⟩) (wg := ⟨idM R, idM R, idM R⟩) hA hR (by decide) hAs (.done 0 0 _ (hb.ok ⟨hA, idM_sh R, idM_sh R⟩ (by decide)) (by omega)) hA (idM_sh R) (by rw [hr0]; omega) hd hIs
    (by rw [hr0]; exact fo_id R 0 rfl) (by rw [hr0]; exact idM_sh R)
  have e1 : (idM R).take R = idM R := List.take_of_length_le (by omega)
  simp only [hr1, e1] at hS
  exact ⟨by rw [hl]; exact hS, by omega, (idM_sh R).row, fun v hv z hz => by
    obtain ⟨r, hr, e2⟩ := List.getElem_of_mem hv
    obtain ⟨s, hs, e3⟩ := mem_getD hz
    have := idM_be R 0 r s
    unfold ent at this
    rwa [List.getD_eq_getElem?_getD (l := idM R), List.getElem?_eq_getElem hr, Option.getD_some, e2, e3] at this, fun v hv t ht => by omega⟩
end Go.Am
end

section
set_option linter.unusedVariables false
set_option linter.unusedSimpArgs false
open Go Go.Am Go.Proofs
namespace Go.Am
set_option linter.unusedSimpArgs false
set_option linter.unusedVariables false
theorem mix_set {a b : List Int} {k : Nat} {z : Int} (hl : a.length = b.length) (hk : k < a.length) (hz : a[k]? = some z) : (a.take k ++ b.drop k).set k z = a.take (k + 1) ++ b.drop (k + 1) := by
  have e : k - (a.take k).length = 0 := by rw [List.length_take]; omega
  rw [List.set_append_right _ _ (by rw [List.length_take]; omega), e, List.drop_eq_getElem_cons (show k < b.length by omega), List.set_cons_zero, List.take_add_one, hz]; simp
theorem mix_same {a b : List Int} {k : Nat} (hl : a.length = b.length) (hk : k < a.length) (hz : a[k]? = b[k]?) : a.take k ++ b.drop k = a.take (k + 1) ++ b.drop (k + 1) := by
  rw [List.take_add_one, List.drop_eq_getElem_cons (show k < b.length by omega), hz, List.getElem?_eq_getElem (by omega)]; simp
theorem rowX_len (ids : List Int) (x : List (Int × Int)) : (rowX ids x).length = ids.length := by simp [rowX]
theorem rowX_get {ids : List Int} {x : List (Int × Int)} {k : Nat} {q : Int} (h : ids[k]? = some q) : (rowX ids x)[k]? = some (lv q x) := by simp [rowX, h]
theorem rowX_nil (ids : List Int) : rowX ids [] = List.replicate ids.length 0 := by
  unfold rowX
  rw [List.map_eq_replicate_iff.2]
  intro n _; rfl
set_option maxHeartbeats 2000000 in
set_option maxRecDepth 10000 in
theorem r25Row (x : List (Int × Int)) (ids : List Int) (hl : x.length ≤ 1000000) (hn : ids.length ≤ 1000000) : Spec Tryz.prog 56 [encC x, encIds ids] (encV2 (rowX ids x)) := by
  refine spec_of (N := 42) follows_mixed Tryz.func56 rfl rfl rfl (by kernel_rfl) (by kernel_rfl) (by simp) ?_
  have hmx : 32 * (ids.length : Int) ≤ 281474976710656 ∧ (ids.length : Int) ≤ 9223372036854775807 := by omega
  have hmx2 : ids.length ≤ maxLen := le_maxLen (by omega)
  have hmx3 : ids.length * 32 ≤ 140737488355328 := by omega
  simp (config := { maxSteps := 1000000 }) [-List.map_map, -List.mapM_map, ↓KW, encC, encIds, hmx, hmx2, hmx3]
  refine loopP_inv (fun i : Nat => i ≤ x.length) (fun i => StL [(0, .d (encC x)), (1, .d (encIds ids)), (5, .own 1 0 ids.length 2), (6, .d (.i .i64 (i : Int)))] none [.cells 51 ((vcs (rowX ids (x.take i))).map .d)]) (fun i => x.length - i) 0 (Nat.zero_le _) ?_ ?_
  · have hz := fun (H H' : Nat → Option HO) ρ => zr_vcs (H := H) (H' := H') (ρ := ρ) ids.length
    refine wk_l [1] (by simp) ?_ ?_
    · simp [-List.map_map, upd, inj1, Γ0, encC, encIds]
    · rw [List.take_zero, rowX_nil]
      exact ⟨⟨_, by simp [upd_ap]; rfl, subO_cells.2 ⟨rfl, hz _ _ _⟩⟩, trivial⟩
  · intro i hi
    by_cases hgo : i < x.length
    · have q1 : (i : Int) < x.length := by omega
      have hx : x[i]? = some x[i] := List.getElem?_eq_getElem hgo
      have hw : IntKind.i64.wrap ((i : Int) + 1) = (i : Int) + 1 := wrap_i64 (by omega) (by omega)
      have htk := fun q => lv_take hgo q
      have hra := rowX_len ids (x.take i)
      have hrb := rowX_len ids (x.take (i + 1))
      have hrg := fun (k : Nat) (q : Int) (h : ids[k]? = some q) => rowX_get (x := x.take i) h
      have hrg1 := fun (k : Nat) (q : Int) (h : ids[k]? = some q) => rowX_get (x := x.take (i + 1)) h
      obtain ⟨a, ha⟩ : ∃ a, rowX ids (x.take i) = a := ⟨_, rfl⟩
      obtain ⟨b, hb⟩ : ∃ b, rowX ids (x.take (i + 1)) = b := ⟨_, rfl⟩
      rw [ha] at hra hrg
      rw [hb] at hrb hrg1
      simp only [ha]
      generalize x[i] = f at *
      obtain ⟨fn, fc⟩ := f
      have hvl := vcs_len a
      rw [hra] at hvl
      simp (config := { maxSteps := 1000000 }) [-List.map_map, -List.mapM_map, ↓KW, encC, encIds, q1]
      refine loopP_inv (fun k : Nat => k ≤ ids.length) (fun k => StL [(0, .d (encC x)), (1, .d (encIds ids)), (5, .own 1 0 ids.length 2), (6, .d (.i .i64 (i : Int))), (7, .d (.i .i64 (k : Int)))] none [.cells 51 ((vcs (b.take k ++ a.drop k)).map .d)]) (fun k => ids.length - k) 0 (Nat.zero_le _) ?_ ?_
      · refine wk_l [1] (by simp) ?_ ?_ <;> simp [-List.map_map, upd, inj1, Γ0, encC, encIds]
      · intro k hk
        have hml : (b.take k ++ a.drop k).length = ids.length := by rw [List.length_append, List.length_take, List.length_drop]; omega
        by_cases hgk : k < ids.length
        · have q2 : (k : Int) < ids.length := by omega
          have hy : ids[k]? = some ids[k] := List.getElem?_eq_getElem hgk
          have hwk : IntKind.i64.wrap ((k : Int) + 1) = (k : Int) + 1 := wrap_i64 (by omega) (by omega)
          have hm1 := mix_set (a := b) (b := a) (k := k) (z := fc) (by omega) (by omega)
          have hm2 := mix_same (a := b) (b := a) (k := k) (by omega) (by omega)
          have hg1 := hrg k _ hy
          have hg2 := hrg1 k _ hy
          rw [htk] at hg2
          generalize ids[k] = q at *
          have hy' : ∀ h : k < ids.length, ids[k]'h = q := fun h => Option.some.inj ((List.getElem?_eq_getElem h).symm.trans hy)
          obtain ⟨v, hv⟩ : ∃ v, b.take k ++ a.drop k = v := ⟨_, rfl⟩
          obtain ⟨v', hv'⟩ : ∃ v, b.take (k + 1) ++ a.drop (k + 1) = v := ⟨_, rfl⟩
          rw [hv, hv'] at hm1 hm2
          rw [hv] at hml
          simp only [hv]
          have hvc := vcs_len v
          rw [hml] at hvc
          have hb2 : k * 2 + 2 ≤ ids.length * 2 := by omega
          have hlay := lay_row (v := v) fc (j := k) (by omega)
          by_cases h0 : q = fn
          · have h0' : ((q == fn) : Bool) = true := by simpa using h0
            rw [if_pos h0.symm] at hg2
            rw [hm1 hg2] at hlay
            subst h0
            have q3 : ((q == q) : Bool) = true := by simp
            simp (config := { maxSteps := 1000000 }) [-List.map_map, -List.mapM_map, ↓KW, encC, encIds, encF_eq, q1, q2, hx, hy, h0', q3, hb2, hvc, hlay, hwk, hgk, hy', cellsA_encM, one_encM, inj1_encM, inj_encM]
            refine nxt_intro (k + 1) hgk (Nat.sub_lt_sub_left hgk (Nat.lt_succ_self _)) (wk_l [1] (by simp) ?_ ?_) <;> simp [-List.map_map, upd, inj1, Γ0, encC, encIds, hv', hvc]
          · have h0' : ((q == fn) : Bool) = false := by simpa using h0
            rw [if_neg fun e => h0 e.symm] at hg2
            rw [hm2 (hg2.trans hg1.symm)]
            simp (config := { maxSteps := 1000000 }) [-List.map_map, -List.mapM_map, ↓KW, encC, encIds, encF_eq, q1, q2, hx, hy, h0, h0', hwk, cellsA_encM, one_encM, inj1_encM, inj_encM]
            refine nxt_intro (k + 1) hgk (Nat.sub_lt_sub_left hgk (Nat.lt_succ_self _)) (wk_l [1] (by simp) ?_ ?_) <;> simp [-List.map_map, upd, inj1, Γ0, encC, encIds, hv']
        · have q2 : ¬ (k : Int) < ids.length := by omega
          have e : b.take k ++ a.drop k = b := by rw [List.take_of_length_le (by omega), List.drop_eq_nil_of_le (by omega), List.append_nil]
          rw [e]
          simp (config := { maxSteps := 1000000 }) [-List.map_map, -List.mapM_map, ↓KW, encC, encIds, q2, hw]
          refine nxt_intro (i + 1) hgo (Nat.sub_lt_sub_left hgo (Nat.lt_succ_self _)) (wk_l [1] (by simp) ?_ ?_) <;> simp [-List.map_map, upd, inj1, Γ0, encC, encIds, hb]
    · have q1 : ¬ (i : Int) < x.length := by omega
      rw [List.take_of_length_le (by omega)]
      have hfl := vcs_len (rowX ids x)
      have hvl := rowX_len ids x
      rw [hvl] at hfl
      generalize rowX ids x = out at *
      simp (config := { maxSteps := 1000000 }) [-List.map_map, -List.mapM_map, ↓KW, encC, encIds, encV2, q1, hfl, chunk_vcs hvl, vcs_take_all hvl]
theorem eq_of_get {α : Type} {a b : List α} (hl : a.length = b.length) (h : ∀ j, j < a.length → a[j]? = b[j]?) : a = b := by
  apply List.ext_getElem?
  intro j
  rcases Nat.lt_or_ge j a.length with h1 | h1
  · exact h j h1
  · rw [List.getElem?_eq_none h1, List.getElem?_eq_none (by omega)]
theorem r05SameVec {a b : List Int} (ha : ∀ x ∈ a, Sz x) (hb : ∀ x ∈ b, Sz x) (hla : a.length ≤ 4294967296) : Spec Tryz.prog 19 [encV2 a, encV2 b] (.b (decide (a = b))) := by
  refine spec_of (N := 27) follows_mixed Tryz.func19 rfl rfl rfl (by kernel_rfl) (by kernel_rfl) (by simp) ?_
  by_cases hn : a.length = b.length
  rotate_left
  · have h1 : (((a.length : Int) != b.length) : Bool) = true := by simp; omega
    have h2 : decide (a = b) = false := by simp; intro e; rw [e] at hn; exact hn rfl
    simp (config := { maxSteps := 1000000 }) [-List.map_map, -List.mapM_map, ↓KW, encV2, h1, h2]
  · have h1 : (((a.length : Int) != b.length) : Bool) = false := by simp; omega
    simp (config := { maxSteps := 1000000 }) [-List.map_map, -List.mapM_map, ↓KW, encV2, h1]
    refine loopP_inv (fun i : Nat => i ≤ a.length ∧ ∀ j, j < i → a[j]? = b[j]?) (fun i => StL [(0, .d (encV2 a)), (1, .d (encV2 b)), (5, .d (.i .i64 (i : Int)))] none []) (fun i => a.length - i) 0 ⟨Nat.zero_le _, fun j h => by omega⟩ ?_ ?_
    · refine wk_l [] (by simp) ?_ ?_ <;> simp [-List.map_map, upd, inj1, Γ0, encV2]
    · rintro i ⟨hi, hok⟩
      by_cases hgo : i < a.length
      · have q1 : (i : Int) < a.length := by omega
        have hgb : i < b.length := by omega
        have hx : a[i]? = some a[i] := List.getElem?_eq_getElem hgo
        have hy : b[i]? = some b[i] := List.getElem?_eq_getElem hgb
        have hxs := ha _ (List.getElem_mem hgo)
        have hys := hb _ (List.getElem_mem hgb)
        have hw : IntKind.i64.wrap ((i : Int) + 1) = (i : Int) + 1 := wrap_i64 (by omega) (by omega)
        generalize a[i] = x at *
        generalize b[i] = y at *
        have hS := r01SameZ x y (Nat.le_trans hxs (by decide)) (Nat.le_trans hys (by decide))
        have hne : ¬ (x = y) → decide (a = b) = false := fun h => by
          simp only [decide_eq_false_iff_not]
          intro e
          rw [e, hy] at hx
          injection hx with hx
          exact h hx.symm
        simp (config := { maxSteps := 1000000 }) [-List.map_map, -List.mapM_map, ↓KW, encV2, encN_eq, q1, hx, hy, cellsA_encM, one_encM]
        refine callP_intro (ds := [encZ x, encZ y]) (by rfl) hS ?_
        by_cases hv : x = y
        · subst hv
          rw [decide_eq_true rfl]
          simp (config := { maxSteps := 1000000 }) [-List.map_map, -List.mapM_map, ↓KW, hw]
          refine nxt_intro (i + 1) ⟨hgo, fun j hj => ?_⟩ (Nat.sub_lt_sub_left hgo (Nat.lt_succ_self _)) (wk_l [] (by simp) ?_ ?_)
          · rcases Nat.lt_or_ge j i with h2 | h2
            · exact hok j h2
            · rw [show j = i by omega, hx, hy]
          · simp [-List.map_map, upd, inj1, Γ0, encV2]
          · trivial
        · rw [decide_eq_false hv]
          have e2 := hne hv
          simp (config := { maxSteps := 1000000 }) [-List.map_map, -List.mapM_map, ↓KW, e2]
      · have q1 : ¬ (i : Int) < a.length := by omega
        have e : decide (a = b) = true := by simpa using eq_of_get hn fun j hj => hok j (by omega)
        simp (config := { maxSteps := 1000000 }) [-List.map_map, -List.mapM_map, ↓KW, encV2, q1, e]
end Go.Am
end

section
set_option linter.unusedVariables false
set_option linter.unusedSimpArgs false
open Go Go.Am Go.Proofs
namespace Go.Am
set_option linter.unusedSimpArgs false
set_option linter.unusedVariables false
theorem matX_len (c : List Cl) (k : Int) : (matX c k).length = (idsX c k).length := by simp [matX]
theorem matX_get {c : List Cl} {k : Int} {i : Nat} {q : Int} (h : (idsX c k)[i]? = some q) : (matX c k)[i]? = some (rowX (idsX c (k - 1)) (bOf c q)) := by simp [matX, h]
/-- The state at the loop's head. -/
def bdS (c : List Cl) (R : List Int) (cs : List Int) (M : List (List Int)) : Nat → St
  | 0 => StL [(0, .d (encX c)), (4, .ptr 1 0), (5, .d (encIds R)), (6, .d (encIds cs)), (7, .ptr 2 0), (8, .d (.i .i64 0))] none [.cells 60 [.d (.i .i64 0), .d (.i .i64 0), .nil], .cells 60 [.d (.i .i64 R.length), .d (.i .i64 cs.length), .nil]]
  | i + 1 => StL [(0, .d (encX c)), (4, .ptr 1 0), (5, .d (encIds R)), (6, .d (encIds cs)), (7, .ptr 2 0), (8, .d (.i .i64 ((i : Int) + 1)))] none [.cells 60 [.d (.i .i64 0), .d (.i .i64 0), .nil], .cells 60 [.d (.i .i64 R.length), .d (.i .i64 cs.length), .own 3 0 (i + 1) 1], .cells 40 (((M.take (i + 1)).map encV2).map .d)]
theorem one_encV2 (v : List Int) : one (.d (encV2 v)) = true := rfl
theorem cellsA_encV2 (v : List Int) : cellsA (.d (encV2 v)) = some [.d (encV2 v)] := rfl
theorem inj1_encV2 (v : List Int) : inj1 (encV2 v) = .d (encV2 v) := rfl
theorem inj_encV2 (v : List Int) : inj (encV2 v) = .d (encV2 v) := rfl
theorem kills_encV2 (H : Nat → Option HO) (avs : List AV) (v : List Int) : killsOf H avs (encV2 v) = viss H avs := rfl
set_option maxHeartbeats 2000000 in
set_option maxRecDepth 10000 in
theorem r25Boundary (c : List Cl) (k : Int) (hk : -1000 ≤ k ∧ k ≤ 1000) (hl : c.length ≤ 1000) (hb : ∀ x ∈ c, x.b.length ≤ 1000000) :
    Spec Tryz.prog 26 [encX c, .i .i64 k] (encMat (idsX c k).length (idsX c (k - 1)).length (matX c k)) := by
  refine spec_of (N := 48) follows_mixed Tryz.func26 rfl rfl rfl (by kernel_rfl) (by kernel_rfl) (by simp) ?_
  have h1 := r25Cells c k (by omega)
  have h2 := r25Cells c (k - 1) (by omega)
  have hwk : IntKind.i64.wrap (k - 1) = k - 1 := wrap_i64 (by omega) (by omega)
  have hml := matX_len c k
  have hmg := fun i q h => matX_get (c := c) (k := k) (i := i) (q := q) h
  have hrl := idsX_len c k
  have hcl := idsX_len c (k - 1)
  generalize idsX c (k - 1) = cs at *
  generalize idsX c k = R at *
  generalize matX c k = M at *
  have hfnd := fun n => r25Find c n (by omega)
  have hbl : ∀ n, (bOf c n).length ≤ 1000000 := fun n => by
    unfold bOf
    cases e : findX c n with
    | none => exact Nat.zero_le _
    | some x => exact hb x (findX_some e).1
  have hrow := fun n => r25Row (bOf c n) cs (hbl n) (by omega)
  simp (config := { maxSteps := 1000000 }) [-List.map_map, -List.mapM_map, ↓KW, encX]
  refine callP_intro (ds := [encX c, .i .i64 k]) (by rfl) h1 ?_
  simp (config := { maxSteps := 1000000 }) [-List.map_map, -List.mapM_map, ↓KW, encX, encIds, hwk]
  refine callP_intro (ds := [encX c, .i .i64 (k - 1)]) (by rfl) h2 ?_
  simp (config := { maxSteps := 1000000 }) [-List.map_map, -List.mapM_map, ↓KW, encX, encIds]
  refine loopP_inv (fun i : Nat => i ≤ R.length) (bdS c R cs M) (fun i => R.length - i) 0 (Nat.zero_le _) ?_ ?_
  · refine wk_l [1, 2] (by simp) ?_ ?_ <;> simp [-List.map_map, upd, inj1, Γ0, encX, encIds, bdS]
  · intro i hi
    by_cases hgo : i < R.length
    · have hx : R[i]? = some R[i] := List.getElem?_eq_getElem hgo
      have hm := hmg i _ hx
      have htk : M.take (i + 1) = M.take i ++ [rowX cs (bOf c R[i])] := by rw [List.take_add_one, hm]; rfl
      have hF := hfnd R[i]
      have hR := hrow R[i]
      generalize R[i] = q at *
      have hnb : ((findX c q).getD noCl).b = bOf c q := rfl
      unfold fndD at hF
      generalize ((findX c q).getD noCl) = y at *
      generalize (findX c q).isSome = t at *
      obtain ⟨yi, yd, yb⟩ := y
      simp only at hnb
      subst hnb
      generalize rowX cs (bOf c q) = row at *
      generalize bOf c q = yb at *
      rcases i with _ | i
      · have q1 : 0 < R.length := hgo
        rw [List.take_zero, List.nil_append] at htk
        have hx' : ∀ h : 0 < R.length, R[0]'h = q := fun h => Option.some.inj ((List.getElem?_eq_getElem h).symm.trans hx)
        have hh : R.head? = some q := by rw [List.head?_eq_getElem?]; exact hx
        have hw : IntKind.i64.wrap 1 = 1 := by decide
        have hm1 : (1 : Nat) ≤ maxLen := le_maxLen (by decide)
        unfold bdS
        simp (config := { maxSteps := 1000000 }) [-List.map_map, -List.mapM_map, ↓KW, encX, encIds, q1, hx, hx', hh]
        refine callP_intro (ds := [encX c, .i .i64 q]) (by rfl) hF ?_
        simp (config := { maxSteps := 1000000 }) [-List.map_map, -List.mapM_map, ↓KW, encX, encIds, encCl, one_encC, cellsA_encC, inj1_encC, inj_encC]
        refine callP_intro (ds := [encC yb, encIds cs]) (by rfl) hR ?_
        simp (config := { maxSteps := 1000000 }) [-List.map_map, -List.mapM_map, ↓KW, encX, encIds, encCl, hw, hm1, one_encC, cellsA_encC, inj1_encC, inj_encC, one_encV2, cellsA_encV2, inj1_encV2, inj_encV2, kills_encV2]
        refine nxt_intro (0 + 1) hgo (Nat.sub_lt_sub_left hgo (Nat.lt_succ_self _)) ?_
        simp only [bdS]
        refine wk_l [1, 2, 5] (by simp) ?_ ?_ <;> simp [-List.map_map, upd, inj1, Γ0, encX, encIds, htk, subL_own_iff3]
      · have q1 : (i : Int) + 1 < R.length := by omega
        have q0 : (0 : Int) ≤ (i : Int) + 1 := by omega
        have hx' : ∀ h : i + 1 < R.length, R[i + 1]'h = q := fun h => Option.some.inj ((List.getElem?_eq_getElem h).symm.trans hx)
        have hw : IntKind.i64.wrap ((i : Int) + 1 + 1) = (i : Int) + 1 + 1 := wrap_i64 (by omega) (by omega)
        have hbb := app_bounds (n := i + 1) (by omega)
        have hb8 : (i + 1 + 1) * 24 ≤ 140737488355328 := by omega
        have hml1 : (M.take (i + 1)).length = i + 1 := by rw [List.length_take]; omega
        have hml2 : ((M.take (i + 1)).map encV2).length = i + 1 := by rw [List.length_map]; exact hml1
        unfold bdS
        simp only []
        generalize M.take (i + 1) = out at *
        simp (config := { maxSteps := 1000000 }) [-List.map_map, -List.mapM_map, ↓KW, encX, encIds, q1, q0, hx, hx']
        refine callP_intro (ds := [encX c, .i .i64 q]) (by rfl) hF ?_
        simp (config := { maxSteps := 1000000 }) [-List.map_map, -List.mapM_map, ↓KW, encX, encIds, encCl, one_encC, cellsA_encC, inj1_encC, inj_encC]
        refine callP_intro (ds := [encC yb, encIds cs]) (by rfl) hR ?_
        simp (config := { maxSteps := 1000000 }) [-List.map_map, -List.mapM_map, ↓KW, encX, encIds, encCl, hw, hbb, hb8, hml1, hml2, le_maxLen, one_encC, cellsA_encC, inj1_encC, inj_encC, one_encV2, cellsA_encV2, inj1_encV2, inj_encV2, kills_encV2]
        refine nxt_intro (i + 1 + 1) hgo (Nat.sub_lt_sub_left hgo (Nat.lt_succ_self _)) ?_
        simp only [bdS]
        refine wk_l [1, 2, 6] (by simp) ?_ ?_ <;> simp [-List.map_map, upd, inj1, Γ0, encX, encIds, htk, subL_own_iff3]
    · have e : i = R.length := by omega
      rcases i with _ | i
      · have q1 : ¬ 0 < R.length := by omega
        have eM : M = [] := List.eq_nil_of_length_eq_zero (by omega)
        unfold bdS
        simp (config := { maxSteps := 1000000 }) [-List.map_map, -List.mapM_map, ↓KW, encX, encIds, q1, eM, encMat]
      · have q1 : ¬ (i : Int) + 1 < R.length := by omega
        have e2 : M.take (i + 1) = M := List.take_of_length_le (by omega)
        have e3 : (M.map encV2).length = i + 1 := by rw [List.length_map]; omega
        have e4 : chunk 1 (i + 1) (M.map encV2) = M.map fun v => [encV2 v] := by rw [chunk_one _ _ e3.symm, List.map_map]; rfl
        have e5 : List.take (i + 1) ((M.map encV2).map AV.d) = (M.map encV2).map AV.d := List.take_of_length_le (by simp; omega)
        have e6 : M.length = i + 1 := by omega
        unfold bdS
        simp (config := { maxSteps := 1000000 }) [-List.map_map, -List.mapM_map, ↓KW, encX, encIds, q1, e2, e3, e4, e5, e6, encMat]
set_option maxHeartbeats 2000000 in
set_option maxRecDepth 10000 in
theorem r26Dim (c : List Cl) (x : List (Int × Int)) (hl : c.length ≤ 1000) (hx : x.length ≤ 1000) : Spec Tryz.prog 11 [encX c, encC x] (.tp [.i .i64 (dimX c x).1, .i .i64 (dimX c x).2]) := by
  refine spec_of (N := 41) follows_mixed Tryz.func11 rfl rfl rfl (by kernel_rfl) (by kernel_rfl) (by simp) ?_
  have hfnd := fun n => r25Find c n (by omega)
  simp (config := { maxSteps := 1000000 }) [-List.map_map, -List.mapM_map, ↓KW, encX, encC]
  refine loopP_inv (fun i : Nat => i ≤ x.length ∧ ∀ j, j < i → kn c (x.getD j (0, 0)).1 = true) (fun i => StL [(0, .d (encX c)), (1, .d (encC x)), (6, .d (.i .i64 (dLast c x i))), (7, .d (.b (mixN c x i))), (8, .d (.i .i64 (i : Int)))] none []) (fun i => x.length - i) 0 ⟨Nat.zero_le _, fun j h => by omega⟩ ?_ ?_
  · refine wk_l [] (by simp) ?_ ?_ <;> simp [-List.map_map, upd, inj1, Γ0, encX, encC, dLast, mixN, blksOk]
  · rintro i ⟨hi, hok⟩
    by_cases hgo : i < x.length
    · have q1 : (i : Int) < x.length := by omega
      have hxi : x[i]? = some x[i] := List.getElem?_eq_getElem hgo
      have hgd : x.getD i (0, 0) = x[i] := by rw [List.getD_eq_getElem?_getD, hxi]; rfl
      have hw : IntKind.i64.wrap ((i : Int) + 1) = (i : Int) + 1 := wrap_i64 (by omega) (by omega)
      have hkn : kn c x[i].1 = (findX c x[i].1).isSome := rfl
      have hdo : dOf c x[i].1 = ((findX c x[i].1).getD noCl).dim := rfl
      have hl1 : dLast c x (i + 1) = dOf c x[i].1 := by rw [dLast, hgd]
      have hm1 : mixN c x (i + 1) = (mixN c x i || (decide (0 < i) && decide (dOf c x[i].1 ≠ dLast c x i))) := by
        rw [mixN, hgd]
        cases i with
        | zero => rfl
        | succ i => rfl
      have hF := hfnd x[i].1
      have hall : kn c x[i].1 = false → dimX c x = (0, 250) := fun h => by
        unfold dimX
        have : knAll c x = false := by
          unfold knAll
          rw [List.all_eq_false]
          exact ⟨x[i], List.getElem_mem hgo, by rw [h]; decide⟩
        rw [this]; rfl
      have hok2 : kn c x[i].1 = true → ∀ j, j < i + 1 → kn c (x.getD j (0, 0)).1 = true := fun h j hj => by
        rcases Nat.lt_or_ge j i with h2 | h2
        · exact hok j h2
        · rw [show j = i by omega, hgd]; exact h
      rw [hkn] at hall hok2
      rw [hdo] at hl1 hm1
      clear hkn hdo hok
      generalize x[i] = f at *
      obtain ⟨fn, fc⟩ := f
      simp only at hF hall hok2 hl1 hm1
      unfold fndD at hF
      generalize ((findX c fn).getD noCl) = y at *
      generalize (findX c fn).isSome = t at *
      obtain ⟨yi, yd, yb⟩ := y
      simp only at hl1 hm1
      generalize dLast c x i = d at *
      generalize mixN c x i = m at *
      simp (config := { maxSteps := 1000000 }) [-List.map_map, -List.mapM_map, ↓KW, encX, encC, encF_eq, q1, hxi]
      refine callP_intro (ds := [encX c, .i .i64 fn]) (by rfl) hF ?_
      cases t with
      | false =>
        have e := hall rfl
        simp (config := { maxSteps := 1000000 }) [-List.map_map, -List.mapM_map, ↓KW, encX, encC, encCl, e, one_encC, cellsA_encC, inj1_encC, inj_encC]
        rfl
      | true =>
        have e := hok2 rfl
        by_cases h0 : 0 < i
        · have h0' : (0 : Int) < i := by omega
          by_cases h1 : yd = d
          · have h1' : ((yd != d) : Bool) = false := by simpa using h1
            simp (config := { maxSteps := 1000000 }) [-List.map_map, -List.mapM_map, ↓KW, encX, encC, encCl, h0, h0', h1, h1', hw, one_encC, cellsA_encC, inj1_encC, inj_encC]
            refine nxt_intro (i + 1) ⟨hgo, e⟩ (Nat.sub_lt_sub_left hgo (Nat.lt_succ_self _)) (wk_l [] (by simp) ?_ ?_) <;> simp [-List.map_map, upd, inj1, Γ0, encX, encC, hl1, hm1, h0, h1, blksOk]
          · have h1' : ((yd != d) : Bool) = true := by simpa using h1
            simp (config := { maxSteps := 1000000 }) [-List.map_map, -List.mapM_map, ↓KW, encX, encC, encCl, h0, h0', h1, h1', hw, one_encC, cellsA_encC, inj1_encC, inj_encC]
            refine nxt_intro (i + 1) ⟨hgo, e⟩ (Nat.sub_lt_sub_left hgo (Nat.lt_succ_self _)) (wk_l [] (by simp) ?_ ?_) <;> simp [-List.map_map, upd, inj1, Γ0, encX, encC, hl1, hm1, h0, h1, blksOk]
        · have h0' : ¬ (0 : Int) < i := by omega
          have h00 : i = 0 := by omega
          simp (config := { maxSteps := 1000000 }) [-List.map_map, -List.mapM_map, ↓KW, encX, encC, encCl, h0, h0', hw, one_encC, cellsA_encC, inj1_encC, inj_encC]
          refine nxt_intro (i + 1) ⟨hgo, e⟩ (Nat.sub_lt_sub_left hgo (Nat.lt_succ_self _)) (wk_l [] (by simp) ?_ ?_) <;> simp [-List.map_map, upd, inj1, Γ0, encX, encC, hl1, hm1, h0, blksOk]
    · have q1 : ¬ (i : Int) < x.length := by omega
      have e : i = x.length := by omega
      have hall : knAll c x = true := by
        unfold knAll
        rw [List.all_eq_true]
        intro f hf
        obtain ⟨j, hj, e2⟩ := List.getElem_of_mem hf
        have := hok j (by omega)
        rw [List.getD_eq_getElem?_getD, List.getElem?_eq_getElem hj, e2] at this
        exact this
      subst e
      unfold dimX
      rw [hall]
      generalize mixN c x x.length = m at *
      generalize dLast c x x.length = d at *
      cases m
      · simp (config := { maxSteps := 1000000 }) [-List.map_map, -List.mapM_map, ↓KW, encC, q1]
        rfl
      · simp (config := { maxSteps := 1000000 }) [-List.map_map, -List.mapM_map, ↓KW, encC, q1]
        rfl
end Go.Am
end

section
set_option linter.unusedVariables false
set_option linter.unusedSimpArgs false
open Go Go.Am Go.Proofs
namespace Go.Am
set_option linter.unusedSimpArgs false
set_option linter.unusedVariables false
/-! Sizes -/
theorem digE {e n : Nat} (h : n ≤ 2 ^ e) (he : e < 4398046511104) : (digs n).length ≤ 137438953472 := by
  have := Sd_of (z := (n : Int)) (E := e) (by simpa using h) 137438953472 (by omega)
  simpa using this
theorem szE {e : Nat} {z : Int} (h : z.natAbs ≤ 2 ^ e) (he : e < 4398046511104) : Sz z := digE h he
theorem pw_mul (a b : Nat) : 2 ^ a * 2 ^ b = 2 ^ (a + b) := (Nat.pow_add 2 a b).symm
theorem pw_le {a b : Nat} (h : a ≤ b) : 2 ^ a ≤ 2 ^ b := Nat.pow_le_pow_right (by decide) h
theorem pw_len {n l x : Nat} (h : n ≤ 2 ^ l) : n * 2 ^ x ≤ 2 ^ (l + x) := by rw [← pw_mul]; exact Nat.mul_le_mul_right _ h
theorem pw_add {a b E n m : Nat} (hn : n ≤ 2 ^ a) (hm : m ≤ 2 ^ b) (ha : a + 1 ≤ E) (hb : b + 1 ≤ E) : n + m ≤ 2 ^ E := by
  have h1 := pw_le (a := a) (b := E - 1) (by omega)
  have h2 := pw_le (a := b) (b := E - 1) (by omega)
  have h3 : 2 ^ E = 2 ^ (E - 1) * 2 := by rw [← Nat.pow_succ]; congr 1; omega
  omega
theorem Bnd.pw {a b : Nat} {l : List (Int × Int)} (h : Bnd (2 ^ a) l) (k : a ≤ b) : Bnd (2 ^ b) l := h.mono (pw_le k)
theorem Bnd.sz {e : Nat} {l : List (Int × Int)} (h : Bnd (2 ^ e) l) (he : e < 4398046511104) : ∀ x ∈ l, Sz x.2 := fun x hx => szE (h x hx) he
theorem mulR_len (k : Int) (b : List (Int × Int)) : (mulR k b).length = b.length := by simp [mulR]
theorem bOf_len {c : List Cl} {L : Nat} (hb : ∀ x ∈ c, x.b.length ≤ L) (n : Int) : (bOf c n).length ≤ L := by
  unfold bOf
  cases e : findX c n with
  | none => exact Nat.zero_le _
  | some x => exact hb x (findX_some e).1
theorem bOf_bnd {c : List Cl} {M : Nat} (hb : ∀ x ∈ c, Bnd M x.b) (n : Int) : Bnd M (bOf c n) := by
  unfold bOf
  cases e : findX c n with
  | none => exact Bnd.nil M
  | some x => exact hb x (findX_some e).1
theorem bdL_len {c : List Cl} {L : Nat} (hb : ∀ x ∈ c, x.b.length ≤ L) : ∀ x : List (Int × Int), (bdL c x).length ≤ x.length * L
  | [] => Nat.zero_le _
  | f :: x => by
    have := bdL_len hb x
    have h2 := bOf_len hb f.1
    show (mulR f.2 (bOf c f.1) ++ bdL c x).length ≤ _
    rw [List.length_append, mulR_len, List.length_cons, Nat.succ_mul]; omega
theorem bdL_bnd {c : List Cl} {K M : Nat} (hb : ∀ x ∈ c, Bnd M x.b) : ∀ {x : List (Int × Int)}, Bnd K x → Bnd (K * M) (bdL c x)
  | [], _ => Bnd.nil _
  | f :: x, h => (mulR_bnd (h f (List.mem_cons_self ..)) (bOf_bnd hb f.1)).app (bdL_bnd hb fun y hy => h y (List.mem_cons_of_mem _ hy))
/-- A complex whose sizes are bounded. -/
structure SzX (f : Nat) (c : List Cl) : Prop where
  len : c.length ≤ 100
  bl : ∀ x ∈ c, x.b.length ≤ 100
  bb : ∀ x ∈ c, Bnd (2 ^ f) x.b
theorem bdL_le {f g : Nat} {c : List Cl} {x : List (Int × Int)} (hc : SzX f c) (hx : x.length ≤ 100) (hg : Bnd (2 ^ g) x) : (bdL c x).length ≤ 10000 ∧ Bnd (2 ^ (f + g)) (bdL c x) := by
  refine ⟨Nat.le_trans (bdL_len hc.bl x) (by omega), ?_⟩
  have := bdL_bnd hc.bb hg
  rwa [pw_mul, Nat.add_comm] at this
theorem bdX_bnd {f g : Nat} {c : List Cl} {x : List (Int × Int)} (hc : SzX f c) (hx : x.length ≤ 100) (hg : Bnd (2 ^ g) x) : Bnd (2 ^ (f + g + 14)) (bdX c x) ∧ (bdX c x).length ≤ 10000 := by
  obtain ⟨h1, h2⟩ := bdL_le hc hx hg
  have h3 := addR_bnd (bdL c x) [] (Bnd.nil 0) h2
  have h4 := addR_len [] (bdL c x)
  refine ⟨h3.mono ?_, by simp only [List.length_nil] at h4; unfold bdX; omega⟩
  have := pw_len (n := (bdL c x).length) (l := 14) (x := f + g) (by have : (10000 : Nat) ≤ 2 ^ 14 := by decide
                                                                    omega)
  rw [show 14 + (f + g) = f + g + 14 by omega] at this; omega
end Go.Am
end

section
set_option linter.unusedVariables false
set_option linter.unusedSimpArgs false
open Go Go.Am Go.Proofs
namespace Go.Am
set_option linter.unusedSimpArgs false
set_option linter.unusedVariables false
end Go.Am
end

section
set_option linter.unusedVariables false
set_option linter.unusedSimpArgs false
open Go Go.Am Go.Proofs
namespace Go.Am
set_option linter.unusedSimpArgs false
set_option linter.unusedVariables false
set_option maxHeartbeats 4000000 in
set_option maxRecDepth 10000 in
theorem r26Vector (c : List Cl) (k : Int) (x : List (Int × Int)) (hl : c.length ≤ 100) (hx : x.length ≤ 100) : Spec Tryz.prog 15 [encX c, .i .i64 k, encC x] (.tp [encV2 (vecX c k x).1, .i .i64 (vecX c k x).2]) := by
  have hD := r26Dim c x (by omega) (by omega)
  have hI := r25Cells c k (by omega)
  have hil := idsX_len c k
  by_cases he : (dimX c x).2 = 0
  rotate_left
  · have hr : vecX c k x = ([], (dimX c x).2) := by unfold vecX; rw [if_neg he]
    rw [hr]
    generalize (dimX c x).1 = d at *
    generalize (dimX c x).2 = e at *
    have he' : ((e != 0) : Bool) = true := by simpa using he
    refine spec_of (N := 69) follows_mixed Tryz.func15 rfl rfl rfl (by kernel_rfl) (by kernel_rfl) (by simp) ?_
    simp (config := { maxSteps := 1000000 }) [-List.map_map, -List.mapM_map, ↓KW, encX, encC]
    refine callP_intro (ds := [encX c, encC x]) (by rfl) hD ?_
    simp (config := { maxSteps := 1000000 }) [-List.map_map, -List.mapM_map, ↓KW, encX, encC, he, he', encV2]
    rfl
  · by_cases hb : 0 < x.length ∧ (dimX c x).1 ≠ k
    · have hr : vecX c k x = ([], 260) := by unfold vecX; rw [if_pos he, if_pos hb]
      rw [hr]
      rw [he] at hD
      clear he hr
      generalize (dimX c x).1 = d at *
      have b1 := hb.1
      have b1' : (0 : Int) < x.length := by omega
      have b2 : ((d != k) : Bool) = true := by simpa using hb.2
      refine spec_of (N := 69) follows_mixed Tryz.func15 rfl rfl rfl (by kernel_rfl) (by kernel_rfl) (by simp) ?_
      simp (config := { maxSteps := 1000000 }) [-List.map_map, -List.mapM_map, ↓KW, encX, encC]
      refine callP_intro (ds := [encX c, encC x]) (by rfl) hD ?_
      simp (config := { maxSteps := 1000000 }) [-List.map_map, -List.mapM_map, ↓KW, encX, encC, b1, b1', b2, encV2]
      rfl
    · have hr : vecX c k x = (rowX (idsX c k) x, 0) := by unfold vecX; rw [if_pos he, if_neg hb]
      rw [hr]
      rw [he] at hD
      clear he hr
      generalize (dimX c x).1 = d at *
      generalize idsX c k = ids at *
      refine spec_of (N := 69) follows_mixed Tryz.func15 rfl rfl rfl (by kernel_rfl) (by kernel_rfl) (by simp) ?_
      have hof := r01Of 0 (by decide) (by decide)
      simp (config := { maxSteps := 1000000 }) [-List.map_map, -List.mapM_map, ↓KW, encX, encC]
      refine callP_intro (ds := [encX c, encC x]) (by rfl) hD ?_
      by_cases b1 : 0 < x.length
      · have b2' : d = k := Decidable.byContradiction fun h => hb ⟨b1, h⟩
        have b2 : ((d != k) : Bool) = false := by simpa using b2'
        have b1' : (0 : Int) < x.length := by omega
        simp (config := { maxSteps := 1000000 }) [-List.map_map, -List.mapM_map, ↓KW, encX, encC, b1, b1', b2, b2']
        refine callP_intro (ds := [encX c, .i .i64 k]) (by rfl) hI ?_
        simp (config := { maxSteps := 1000000 }) [-List.map_map, -List.mapM_map, ↓KW, encX, encC, encIds]
        refine loopP_inv (fun j : Nat => j ≤ ids.length) (fun j => StL [(2, .d (encC x)), (10, .d (encIds ids)), (11, .own 1 0 j 2), (12, .d (.i .i64 (j : Int)))] none [.cells 51 ((vcs ((rowX ids x).take j)).map .d)]) (fun j => ids.length - j) 0 (Nat.zero_le _) ?_ ?_
        · refine wk_l [1] (by simp) ?_ ?_ <;> simp [-List.map_map, upd, inj1, Γ0, encX, encC, encIds, vcs_nil]
        · intro j hj
          have hrl := rowX_len ids x
          by_cases hgo : j < ids.length
          · have q1 : (j : Int) < ids.length := by omega
            have hy : ids[j]? = some ids[j] := List.getElem?_eq_getElem hgo
            have hrg := rowX_get (x := x) hy
            have hw : IntKind.i64.wrap ((j : Int) + 1) = (j : Int) + 1 := wrap_i64 (by omega) (by omega)
            have htk : (rowX ids x).take (j + 1) = (rowX ids x).take j ++ [lv ids[j] x] := by rw [List.take_add_one, hrg]; rfl
            have hfl := vcs_len ((rowX ids x).take j)
            have hol : ((rowX ids x).take j).length = j := by rw [List.length_take]; omega
            rw [hol] at hfl
            have hbb := app_bounds2 (n := j) (by omega)
            generalize (rowX ids x).take j = out at *
            generalize ids[j] = q at *
            simp (config := { maxSteps := 1000000 }) [-List.map_map, -List.mapM_map, ↓KW, encX, encC, encIds, q1]
            refine callP_intro (ds := [.i .i64 0]) (by rfl) hof ?_
            rw [encZ_eq]
            simp (config := { maxSteps := 1000000 }) [-List.map_map, -List.mapM_map, ↓KW, encC, cellsA_encM, one_encM, inj1_encM, inj_encM, kills_encM]
            refine loopP_inv (fun i : Nat => i ≤ x.length) (fun i => StL [(2, .d (encC x)), (10, .d (encIds ids)), (11, .own 1 0 j 2), (12, .d (.i .i64 (j : Int))), (13, .ptr 2 0), (14, .d (.i .i64 (i : Int)))] none
              [.cells 51 ((vcs out).map .d), .cells 51 [.d (.b (decide (lv q (x.take i) < 0))), .d (encM (digs (lv q (x.take i)).natAbs))]]) (fun i => x.length - i) 0 (Nat.zero_le _) ?_ ?_
            · refine wk_l [1, 2] (by simp) ?_ ?_ <;> simp [-List.map_map, upd, inj1, Γ0, encX, encC, encIds, lv]
            · intro i hi
              by_cases hgi : i < x.length
              · have q2 : (i : Int) < x.length := by omega
                have hx : x[i]? = some x[i] := List.getElem?_eq_getElem hgi
                have hw2 : IntKind.i64.wrap ((i : Int) + 1) = (i : Int) + 1 := wrap_i64 (by omega) (by omega)
                have htk2 := lv_take hgi q
                generalize lv q (x.take i) = z at *
                generalize x[i] = f at *
                obtain ⟨fn, fc⟩ := f
                by_cases h0 : fn = q
                · subst h0
                  rw [if_pos rfl] at htk2
                  have q3 : ((fn == fn) : Bool) = true := by simp
                  simp (config := { maxSteps := 1000000 }) [-List.map_map, -List.mapM_map, ↓KW, encX, encC, encIds, encF_eq, q2, hx, hy, q3, hw2, cellsA_encM, one_encM, inj1_encM, inj_encM]
                  refine nxt_intro (i + 1) hgi (Nat.sub_lt_sub_left hgi (Nat.lt_succ_self _)) (wk_l [1, 2] (by simp) ?_ ?_) <;> simp [-List.map_map, upd, inj1, Γ0, encX, encC, encIds, htk2]
                · rw [if_neg h0] at htk2
                  have q3 : ((fn == q) : Bool) = false := by simpa using h0
                  simp (config := { maxSteps := 1000000 }) [-List.map_map, -List.mapM_map, ↓KW, encX, encC, encIds, encF_eq, q2, hx, hy, q3, h0, hw2, cellsA_encM, one_encM, inj1_encM, inj_encM]
                  refine nxt_intro (i + 1) hgi (Nat.sub_lt_sub_left hgi (Nat.lt_succ_self _)) (wk_l [1, 2] (by simp) ?_ ?_) <;> simp [-List.map_map, upd, inj1, Γ0, encX, encC, encIds, htk2]
              · have q2 : ¬ (i : Int) < x.length := by omega
                rw [List.take_of_length_le (by omega)]
                generalize lv q x = z at *
                simp (config := { maxSteps := 1000000 }) [-List.map_map, -List.mapM_map, ↓KW, encX, encC, encIds, q2, hw, hbb, hfl, le_maxLen, cellsA_encM, one_encM, inj1_encM, inj_encM]
                refine nxt_intro (j + 1) hgo (Nat.sub_lt_sub_left hgo (Nat.lt_succ_self _)) (wk_l [4] (by simp) ?_ ?_) <;> simp [-List.map_map, upd, inj1, Γ0, encX, encC, encIds, htk, vcs_app, vcs_one]
          · have e : j = ids.length := by omega
            subst e
            have q1 : ¬ (ids.length : Int) < ids.length := by omega
            have e2 : (rowX ids x).take ids.length = rowX ids x := List.take_of_length_le (by omega)
            have hfl := vcs_len (rowX ids x)
            rw [hrl] at hfl
            rw [e2]
            generalize rowX ids x = out at *
            simp (config := { maxSteps := 1000000 }) [-List.map_map, -List.mapM_map, ↓KW, encV2, encIds, q1, hfl, resD_2, chunk_vcs hrl, vcs_take_all hrl]
      · have b1' : ¬ (0 : Int) < x.length := by omega
        simp (config := { maxSteps := 1000000 }) [-List.map_map, -List.mapM_map, ↓KW, encX, encC, b1, b1']
        refine callP_intro (ds := [encX c, .i .i64 k]) (by rfl) hI ?_
        simp (config := { maxSteps := 1000000 }) [-List.map_map, -List.mapM_map, ↓KW, encX, encC, encIds]
        refine loopP_inv (fun j : Nat => j ≤ ids.length) (fun j => StL [(2, .d (encC x)), (10, .d (encIds ids)), (11, .own 1 0 j 2), (12, .d (.i .i64 (j : Int)))] none [.cells 51 ((vcs ((rowX ids x).take j)).map .d)]) (fun j => ids.length - j) 0 (Nat.zero_le _) ?_ ?_
        · refine wk_l [1] (by simp) ?_ ?_ <;> simp [-List.map_map, upd, inj1, Γ0, encX, encC, encIds, vcs_nil]
        · intro j hj
          have hrl := rowX_len ids x
          by_cases hgo : j < ids.length
          · have q1 : (j : Int) < ids.length := by omega
            have hy : ids[j]? = some ids[j] := List.getElem?_eq_getElem hgo
            have hrg := rowX_get (x := x) hy
            have hw : IntKind.i64.wrap ((j : Int) + 1) = (j : Int) + 1 := wrap_i64 (by omega) (by omega)
            have htk : (rowX ids x).take (j + 1) = (rowX ids x).take j ++ [lv ids[j] x] := by rw [List.take_add_one, hrg]; rfl
            have hfl := vcs_len ((rowX ids x).take j)
            have hol : ((rowX ids x).take j).length = j := by rw [List.length_take]; omega
            rw [hol] at hfl
            have hbb := app_bounds2 (n := j) (by omega)
            generalize (rowX ids x).take j = out at *
            generalize ids[j] = q at *
            simp (config := { maxSteps := 1000000 }) [-List.map_map, -List.mapM_map, ↓KW, encX, encC, encIds, q1]
            refine callP_intro (ds := [.i .i64 0]) (by rfl) hof ?_
            rw [encZ_eq]
            simp (config := { maxSteps := 1000000 }) [-List.map_map, -List.mapM_map, ↓KW, encC, cellsA_encM, one_encM, inj1_encM, inj_encM, kills_encM]
            refine loopP_inv (fun i : Nat => i ≤ x.length) (fun i => StL [(2, .d (encC x)), (10, .d (encIds ids)), (11, .own 1 0 j 2), (12, .d (.i .i64 (j : Int))), (13, .ptr 2 0), (14, .d (.i .i64 (i : Int)))] none
              [.cells 51 ((vcs out).map .d), .cells 51 [.d (.b (decide (lv q (x.take i) < 0))), .d (encM (digs (lv q (x.take i)).natAbs))]]) (fun i => x.length - i) 0 (Nat.zero_le _) ?_ ?_
            · refine wk_l [1, 2] (by simp) ?_ ?_ <;> simp [-List.map_map, upd, inj1, Γ0, encX, encC, encIds, lv]
            · intro i hi
              by_cases hgi : i < x.length
              · have q2 : (i : Int) < x.length := by omega
                have hx : x[i]? = some x[i] := List.getElem?_eq_getElem hgi
                have hw2 : IntKind.i64.wrap ((i : Int) + 1) = (i : Int) + 1 := wrap_i64 (by omega) (by omega)
                have htk2 := lv_take hgi q
                generalize lv q (x.take i) = z at *
                generalize x[i] = f at *
                obtain ⟨fn, fc⟩ := f
                by_cases h0 : fn = q
                · subst h0
                  rw [if_pos rfl] at htk2
                  have q3 : ((fn == fn) : Bool) = true := by simp
                  simp (config := { maxSteps := 1000000 }) [-List.map_map, -List.mapM_map, ↓KW, encX, encC, encIds, encF_eq, q2, hx, hy, q3, hw2, cellsA_encM, one_encM, inj1_encM, inj_encM]
                  refine nxt_intro (i + 1) hgi (Nat.sub_lt_sub_left hgi (Nat.lt_succ_self _)) (wk_l [1, 2] (by simp) ?_ ?_) <;> simp [-List.map_map, upd, inj1, Γ0, encX, encC, encIds, htk2]
                · rw [if_neg h0] at htk2
                  have q3 : ((fn == q) : Bool) = false := by simpa using h0
                  simp (config := { maxSteps := 1000000 }) [-List.map_map, -List.mapM_map, ↓KW, encX, encC, encIds, encF_eq, q2, hx, hy, q3, h0, hw2, cellsA_encM, one_encM, inj1_encM, inj_encM]
                  refine nxt_intro (i + 1) hgi (Nat.sub_lt_sub_left hgi (Nat.lt_succ_self _)) (wk_l [1, 2] (by simp) ?_ ?_) <;> simp [-List.map_map, upd, inj1, Γ0, encX, encC, encIds, htk2]
              · have q2 : ¬ (i : Int) < x.length := by omega
                rw [List.take_of_length_le (by omega)]
                generalize lv q x = z at *
                simp (config := { maxSteps := 1000000 }) [-List.map_map, -List.mapM_map, ↓KW, encX, encC, encIds, q2, hw, hbb, hfl, le_maxLen, cellsA_encM, one_encM, inj1_encM, inj_encM]
                refine nxt_intro (j + 1) hgo (Nat.sub_lt_sub_left hgo (Nat.lt_succ_self _)) (wk_l [4] (by simp) ?_ ?_) <;> simp [-List.map_map, upd, inj1, Γ0, encX, encC, encIds, htk, vcs_app, vcs_one]
          · have e : j = ids.length := by omega
            subst e
            have q1 : ¬ (ids.length : Int) < ids.length := by omega
            have e2 : (rowX ids x).take ids.length = rowX ids x := List.take_of_length_le (by omega)
            have hfl := vcs_len (rowX ids x)
            rw [hrl] at hfl
            rw [e2]
            generalize rowX ids x = out at *
            simp (config := { maxSteps := 1000000 }) [-List.map_map, -List.mapM_map, ↓KW, encV2, encIds, q1, hfl, resD_2, chunk_vcs hrl, vcs_take_all hrl]
end Go.Am
end

section
set_option linter.unusedVariables false
set_option linter.unusedSimpArgs false
open Go Go.Am Go.Proofs
namespace Go.Am
set_option linter.unusedSimpArgs false
set_option linter.unusedVariables false
theorem zip_take {ids v : List Int} {i : Nat} (h1 : i < ids.length) (h2 : i < v.length) : (ids.zip v).take (i + 1) = (ids.zip v).take i ++ [(ids[i], v[i])] := by
  have h : i < (ids.zip v).length := by rw [List.length_zip]; omega
  rw [List.take_add_one, List.getElem?_eq_getElem h, List.getElem_zip]; rfl
theorem zip_bnd {ids v : List Int} {M : Nat} (h : ∀ z ∈ v, z.natAbs ≤ M) : Bnd M (ids.zip v) := fun x hx => h _ (List.of_mem_zip hx).2
theorem Bnd.take {M i : Nat} {l : List (Int × Int)} (h : Bnd M l) : Bnd M (l.take i) := fun x hx => h x (List.mem_of_mem_take hx)
set_option maxHeartbeats 2000000 in
set_option maxRecDepth 10000 in
theorem r26Chain {g : Nat} (c : List Cl) (k : Int) (v : List Int) (hl : c.length ≤ 100) (hv : ∀ z ∈ v, z.natAbs ≤ 2 ^ g) (hg : g + 20 < 4398046511104) :
    Spec Tryz.prog 30 [encX c, .i .i64 k, encV2 v] (.tp [encC (chX c k v).1, .i .i64 (chX c k v).2]) := by
  have hI := r25Cells c k (by omega)
  have hil := idsX_len c k
  by_cases he : v.length = (idsX c k).length
  · have hr : chX c k v = (addR [] ((idsX c k).zip v), 0) := by unfold chX; rw [if_pos he]
    rw [hr]
    clear hr
    generalize idsX c k = ids at *
    have hb := zip_bnd (ids := ids) hv
    have he' : (((v.length : Int) != ids.length) : Bool) = false := by simp; omega
    refine spec_of (N := 38) follows_mixed Tryz.func30 rfl rfl rfl (by kernel_rfl) (by kernel_rfl) (by simp) ?_
    simp (config := { maxSteps := 1000000 }) [-List.map_map, -List.mapM_map, ↓KW, encX, encV2]
    refine callP_intro (ds := [encX c, .i .i64 k]) (by rfl) hI ?_
    simp (config := { maxSteps := 1000000 }) [-List.map_map, -List.mapM_map, ↓KW, encX, encIds, he']
    refine loopP_inv (fun i : Nat => i ≤ v.length) (fun i => StL [(2, .d (encV2 v)), (8, .d (encIds ids)), (9, .d (encC (addR [] ((ids.zip v).take i)))), (10, .d (.i .i64 (i : Int)))] none []) (fun i => v.length - i) 0 (Nat.zero_le _) ?_ ?_
    · refine wk_l [] (by simp) ?_ ?_
      · simp [-List.map_map, upd, inj1, Γ0, encV2, encIds, encC, addR]
        exact sub_frz (by simp [frz_own, upd, chunk_0]) (fun a _ id h => by simp [blkF] at h)
      · trivial
    · intro i hi
      by_cases hgo : i < v.length
      · have q1 : (i : Int) < v.length := by omega
        have hgi : i < ids.length := by omega
        have hx : v[i]? = some v[i] := List.getElem?_eq_getElem hgo
        have hy : ids[i]? = some ids[i] := List.getElem?_eq_getElem hgi
        have hz := hv _ (List.getElem_mem hgo)
        have htk : addR [] ((ids.zip v).take (i + 1)) = insR (addR [] ((ids.zip v).take i)) (ids[i], v[i]) := by rw [zip_take hgi hgo, addR_app]; rfl
        have ho := addR_bnd ((ids.zip v).take i) [] (Bnd.nil 0) hb.take
        have hol := addR_len [] ((ids.zip v).take i)
        have hzl : ((ids.zip v).take i).length ≤ 100 := by rw [List.length_take, List.length_zip]; omega
        have hw : IntKind.i64.wrap ((i : Int) + 1) = (i : Int) + 1 := wrap_i64 (by omega) (by omega)
        have hob : Bnd (2 ^ (7 + g)) (addR [] ((ids.zip v).take i)) := ho.mono (by
          have := pw_len (x := g) (Nat.le_trans hzl (show 100 ≤ 2 ^ 7 by decide)); omega)
        generalize addR [] ((ids.zip v).take i) = out at *
        generalize v[i] = z at *
        generalize ids[i] = q at *
        have hin := r26insert out q z (szE hz (by omega)) (hob.sz (by omega)) (by simp only [List.length_nil] at hol; omega)
        simp (config := { maxSteps := 1000000 }) [-List.map_map, -List.mapM_map, ↓KW, encV2, encIds, encN_eq, q1, hx, hy, cellsA_encM, one_encM]
        refine callP_intro (ds := [encC out, .ag (encF (q, z))]) (by rfl) hin ?_
        simp (config := { maxSteps := 1000000 }) [-List.map_map, -List.mapM_map, ↓KW, encC, hw]
        refine nxt_intro (i + 1) hgo (Nat.sub_lt_sub_left hgo (Nat.lt_succ_self _)) (wk_l [] (by simp) ?_ ?_)
        · simp [-List.map_map, upd, inj1, Γ0, encV2, encIds, encC, htk]
        · trivial
      · have q1 : ¬ (i : Int) < v.length := by omega
        rw [List.take_of_length_le (by rw [List.length_zip]; omega)]
        generalize addR [] (ids.zip v) = out at *
        simp (config := { maxSteps := 1000000 }) [-List.map_map, -List.mapM_map, ↓KW, encV2, encIds, encC, q1, resD_2]
  · have hr : chX c k v = ([], 50) := by unfold chX; rw [if_neg he]
    rw [hr]
    clear hr
    generalize idsX c k = ids at *
    have he' : (((v.length : Int) != ids.length) : Bool) = true := by simp; omega
    refine spec_of (N := 38) follows_mixed Tryz.func30 rfl rfl rfl (by kernel_rfl) (by kernel_rfl) (by simp) ?_
    simp (config := { maxSteps := 1000000 }) [-List.map_map, -List.mapM_map, ↓KW, encX, encV2]
    refine callP_intro (ds := [encX c, .i .i64 k]) (by rfl) hI ?_
    simp (config := { maxSteps := 1000000 }) [-List.map_map, -List.mapM_map, ↓KW, encX, encIds, encC, he', resD_2]
set_option maxHeartbeats 1000000 in
set_option maxRecDepth 10000 in
theorem r26Of {g : Nat} (c : List Cl) (k : Int) (v : List Int) (hl : c.length ≤ 100) (hv : ∀ z ∈ v, z.natAbs ≤ 2 ^ g) (hg : g + 20 < 4398046511104) :
    Spec Tryz.prog 51 [encX c, .i .i64 k, encV2 v] (encC (chX c k v).1) := by
  refine spec_of (N := 17) follows_mixed Tryz.func51 rfl rfl rfl (by kernel_rfl) (by kernel_rfl) (by simp) ?_
  have h := r26Chain c k v hl hv hg
  generalize (chX c k v).1 = out at *
  generalize (chX c k v).2 = e at *
  simp (config := { maxSteps := 1000000 }) [-List.map_map, -List.mapM_map, ↓KW, encX, encV2]
  refine callP_intro (ds := [encX c, .i .i64 k, encV2 v]) (by rfl) h ?_
  simp (config := { maxSteps := 1000000 }) [-List.map_map, -List.mapM_map, ↓KW, encC]
set_option maxHeartbeats 1000000 in
set_option maxRecDepth 10000 in
theorem r26Row (c : List Cl) (k : Int) (x : List (Int × Int)) (hl : c.length ≤ 100) (hx : x.length ≤ 100) : Spec Tryz.prog 25 [encX c, .i .i64 k, encC x] (encV2 (vecX c k x).1) := by
  refine spec_of (N := 17) follows_mixed Tryz.func25 rfl rfl rfl (by kernel_rfl) (by kernel_rfl) (by simp) ?_
  have h := r26Vector c k x hl hx
  generalize (vecX c k x).1 = out at *
  generalize (vecX c k x).2 = e at *
  simp (config := { maxSteps := 1000000 }) [-List.map_map, -List.mapM_map, ↓KW, encX, encC]
  refine callP_intro (ds := [encX c, .i .i64 k, encC x]) (by rfl) h ?_
  simp (config := { maxSteps := 1000000 }) [-List.map_map, -List.mapM_map, ↓KW, encV2]
/-- A list of numbers. -/
def encL (l : List Int) : D := .sl (l.map fun n => [.i .i64 n])
/-- Pairs in turn. -/
def prs : List Int → List (Int × Int)
  | a :: b :: l => (a, b) :: prs l
  | _ => []
theorem prs_drop : ∀ (l : List Int) (i : Nat), 2 * i + 1 < l.length → prs (l.drop (2 * i)) = (l.getD (2 * i) 0, l.getD (2 * i + 1) 0) :: prs (l.drop (2 * (i + 1)))
  | [], i, h => by simp at h
  | [a], i, h => by simp at h
  | a :: b :: l, 0, h => rfl
  | a :: b :: l, i + 1, h => by
    have := prs_drop l i (by simp only [List.length_cons] at h; omega)
    rw [show 2 * (i + 1) = 2 * i + 1 + 1 by omega, show 2 * (i + 1 + 1) = 2 * (i + 1) + 1 + 1 by omega]
    simp only [List.drop_succ_cons, List.getD_cons_succ]
    exact this
theorem prs_short {l : List Int} (h : l.length ≤ 1) : prs l = [] := by
  rcases l with _ | ⟨a, _ | ⟨b, l⟩⟩
  · rfl
  · rfl
  · simp at h
set_option maxHeartbeats 2000000 in
set_option maxRecDepth 10000 in
theorem r26Cell (id dim : Int) (l : List Int) (hl : l.length ≤ 100) (hb : ∀ z ∈ l, -1000 ≤ z ∧ z ≤ 1000) : Spec Tryz.prog 31 [.i .i64 id, .i .i64 dim, encL l] (.ag (encCl ⟨id, dim, addR [] (prs l)⟩)) := by
  refine spec_of (N := 34) follows_mixed Tryz.func31 rfl rfl rfl (by kernel_rfl) (by kernel_rfl) (by simp) ?_
  simp (config := { maxSteps := 1000000 }) [-List.map_map, -List.mapM_map, ↓KW, encL]
  refine loopP_inv (fun y : Nat × List (Int × Int) => 2 * y.1 ≤ l.length + 1 ∧ addR y.2 (prs (l.drop (2 * y.1))) = addR [] (prs l) ∧ y.2.length ≤ y.1 ∧ Bnd (y.1 * 1000) y.2) (fun y => StL [(0, .d (.i .i64 id)), (1, .d (.i .i64 dim)), (2, .d (encL l)), (6, .ptr 1 0), (7, .d (encC y.2)), (8, .d (.i .i64 ((2 * y.1 : Nat) : Int)))] none [.cells 63 [.d (.i .i64 0), .d (.i .i64 0), .nil]]) (fun y => l.length + 1 - 2 * y.1) (0, []) ⟨Nat.zero_le _, rfl, Nat.zero_le _, Bnd.nil _⟩ ?_ ?_
  · refine wk_l [1] (by simp) ?_ ?_
    · simp [-List.map_map, upd, inj1, Γ0, encL, encC]
      exact sub_frz (by simp [frz_own, upd, chunk_0]) (fun a ha id h => by
        simp [upd] at ha
        by_cases e : id = 1
        · subst e; rw [ha]; show (1 : Nat) ≠ 2; decide
        · simp [blkF, upd, e] at h)
    · simp [-List.map_map, upd, inj1, Γ0, encL, encC]
  · rintro ⟨i, out⟩ ⟨hi, ho, hol, hob⟩
    simp only at hi ho hol hob ⊢
    have hw1 : IntKind.i64.wrap (((2 * i : Nat) : Int) + 1) = ((2 * i : Nat) : Int) + 1 := wrap_i64 (by omega) (by omega)
    have hw2 : IntKind.i64.wrap (((2 * i : Nat) : Int) + 2) = ((2 * i : Nat) : Int) + 2 := wrap_i64 (by omega) (by omega)
    by_cases hgo : 2 * i + 1 < l.length
    · have q1 : ((2 * i : Nat) : Int) + 1 < l.length := by omega
      have hg2 : 2 * i < l.length := by omega
      have hx : l[2 * i]? = some (l.getD (2 * i) 0) := by rw [List.getD_eq_getElem?_getD, List.getElem?_eq_getElem hg2]; rfl
      have hy : l[2 * i + 1]? = some (l.getD (2 * i + 1) 0) := by rw [List.getD_eq_getElem?_getD, List.getElem?_eq_getElem hgo]; rfl
      have hbx := hb _ (List.mem_of_getElem? hx)
      have hby := hb _ (List.mem_of_getElem? hy)
      rw [prs_drop l i hgo] at ho
      generalize l.getD (2 * i) 0 = a at *
      generalize l.getD (2 * i + 1) 0 = b at *
      have hof := r01Of b (by omega) (by omega)
      have hin := r26insert out a b (szE (e := 10) (by omega) (by decide)) (fun x hx => szE (e := 20) (Nat.le_trans (hob x hx) (by omega)) (by decide)) (by omega)
      have hnb : Bnd ((i + 1) * 1000) (insR out (a, b)) := (insR_bnd (K := 1000) hob (by show b.natAbs ≤ 1000; omega)).mono (by omega)
      have hnl := insR_len1 out (a, b)
      have ec : (((2 * i : Nat) : Int) + 2) = ((2 * (i + 1) : Nat) : Int) := by omega
      have ec1 : (((2 * i : Nat) : Int) + 1) = ((2 * i + 1 : Nat) : Int) := by omega
      rw [ec1] at hw1 q1
      rw [ec] at hw2
      generalize hm1 : 2 * i + 1 = m1 at *
      generalize hm2 : 2 * (i + 1) = m2 at *
      generalize hm : 2 * i = m at *
      simp (config := { maxSteps := 1000000 }) [-List.map_map, -List.mapM_map, ↓KW, encL, hw1, q1, hx, hy, ec1]
      refine callP_intro (ds := [.i .i64 b]) (by rfl) hof ?_
      rw [encZ_eq]
      simp (config := { maxSteps := 1000000 }) [-List.map_map, -List.mapM_map, ↓KW, encC, cellsA_encM, one_encM, inj1_encM, inj_encM, kills_encM]
      refine callP_intro (ds := [encC out, .ag (encF (a, b))]) (by rfl) hin ?_
      simp (config := { maxSteps := 1000000 }) [-List.map_map, -List.mapM_map, ↓KW, encC, hw2, ec]
      refine nxt_intro (i + 1, insR out (a, b)) ⟨by omega, by rw [hm2]; exact ho, by simp only; omega, hnb⟩ (by simp only; omega) (wk_l [1] (by simp) ?_ ?_)
      · simp [-List.map_map, upd, inj1, Γ0, encL, encC, hm2]
        omega
      · simp [-List.map_map, upd, inj1, Γ0, encL, encC, hm2]
    · have q1 : ¬ ((2 * i : Nat) : Int) + 1 < l.length := by omega
      rw [prs_short (by rw [List.length_drop]; omega)] at ho
      generalize hm : 2 * i = m at *
      rw [← ho]
      have e : addR out [] = out := rfl
      rw [e]
      simp (config := { maxSteps := 1000000 }) [-List.map_map, -List.mapM_map, ↓KW, encL, encCl, encC, hw1, q1]
end Go.Am
end

section
set_option linter.unusedVariables false
set_option linter.unusedSimpArgs false
open Go Go.Am Go.Proofs
namespace Go.Am
set_option linter.unusedSimpArgs false
set_option linter.unusedVariables false
def spc : Nat → List Cl
  | 0 => []
  | 1 => [⟨1, 0, []⟩]
  | 2 => [⟨1, 0, []⟩, ⟨7, 0, []⟩]
  | 3 => [⟨1, 0, []⟩, ⟨2, 0, []⟩, ⟨3, 1, [(1, -1), (2, 1)]⟩]
  | 4 => [⟨1, 0, []⟩, ⟨2, 1, []⟩]
  | 5 => [⟨1, 0, []⟩, ⟨2, 0, []⟩, ⟨3, 0, []⟩, ⟨4, 1, [(1, -1), (2, 1)]⟩, ⟨5, 1, [(2, -1), (3, 1)]⟩, ⟨6, 1, [(1, 1), (3, -1)]⟩]
  | 6 => [⟨1, 0, []⟩, ⟨2, 0, []⟩, ⟨3, 0, []⟩, ⟨4, 1, [(1, -1), (2, 1)]⟩, ⟨5, 1, [(2, -1), (3, 1)]⟩, ⟨6, 1, [(1, 1), (3, -1)]⟩, ⟨9, 2, [(4, 1), (5, 1), (6, 1)]⟩]
  | 7 => [⟨1, 0, []⟩, ⟨2, 2, []⟩]
  | 8 => [⟨1, 0, []⟩, ⟨2, 1, []⟩, ⟨3, 1, []⟩, ⟨4, 2, []⟩]
  | 9 => [⟨1, 0, []⟩, ⟨2, 1, []⟩, ⟨3, 2, [(2, 2)]⟩]
  | 10 => [⟨1, 0, []⟩, ⟨2, 1, []⟩, ⟨3, 1, []⟩, ⟨4, 2, [(2, 2)]⟩]
  | 11 => [⟨1, 0, []⟩, ⟨2, 1, []⟩, ⟨3, 2, [(2, 3)]⟩, ⟨4, 3, []⟩]
  | 12 => [⟨1, 0, []⟩, ⟨2, 1, []⟩, ⟨3, 2, [(2, 4)]⟩, ⟨4, 2, [(2, 6)]⟩]
  | 13 => [⟨1, 0, []⟩, ⟨2, 1, []⟩, ⟨3, 0, []⟩, ⟨5, 1, []⟩, ⟨6, 2, [(5, 2)]⟩]
  | _ => []
theorem cell0 : Spec Tryz.prog 31 [.i .i64 1, .i .i64 0, encL []] (.ag [.i .i64 1, .i .i64 0, encC []]) := r26Cell 1 0 [] (by decide) (by decide)
theorem cell1 : Spec Tryz.prog 31 [.i .i64 2, .i .i64 1, encL []] (.ag [.i .i64 2, .i .i64 1, encC []]) := r26Cell 2 1 [] (by decide) (by decide)
theorem cell2 : Spec Tryz.prog 31 [.i .i64 2, .i .i64 0, encL []] (.ag [.i .i64 2, .i .i64 0, encC []]) := r26Cell 2 0 [] (by decide) (by decide)
theorem cell3 : Spec Tryz.prog 31 [.i .i64 3, .i .i64 0, encL []] (.ag [.i .i64 3, .i .i64 0, encC []]) := r26Cell 3 0 [] (by decide) (by decide)
theorem cell4 : Spec Tryz.prog 31 [.i .i64 4, .i .i64 1, encL [1, -1, 2, 1]] (.ag [.i .i64 4, .i .i64 1, encC [(1, -1), (2, 1)]]) := r26Cell 4 1 [1, -1, 2, 1] (by decide) (by decide)
theorem cell5 : Spec Tryz.prog 31 [.i .i64 5, .i .i64 1, encL [2, -1, 3, 1]] (.ag [.i .i64 5, .i .i64 1, encC [(2, -1), (3, 1)]]) := r26Cell 5 1 [2, -1, 3, 1] (by decide) (by decide)
theorem cell6 : Spec Tryz.prog 31 [.i .i64 6, .i .i64 1, encL [1, 1, 3, -1]] (.ag [.i .i64 6, .i .i64 1, encC [(1, 1), (3, -1)]]) := r26Cell 6 1 [1, 1, 3, -1] (by decide) (by decide)
theorem cell7 : Spec Tryz.prog 31 [.i .i64 7, .i .i64 0, encL []] (.ag [.i .i64 7, .i .i64 0, encC []]) := r26Cell 7 0 [] (by decide) (by decide)
theorem cell8 : Spec Tryz.prog 31 [.i .i64 3, .i .i64 1, encL [1, -1, 2, 1]] (.ag [.i .i64 3, .i .i64 1, encC [(1, -1), (2, 1)]]) := r26Cell 3 1 [1, -1, 2, 1] (by decide) (by decide)
theorem cell9 : Spec Tryz.prog 31 [.i .i64 9, .i .i64 2, encL [4, 1, 5, 1, 6, 1]] (.ag [.i .i64 9, .i .i64 2, encC [(4, 1), (5, 1), (6, 1)]]) := r26Cell 9 2 [4, 1, 5, 1, 6, 1] (by decide) (by decide)
theorem cell10 : Spec Tryz.prog 31 [.i .i64 2, .i .i64 2, encL []] (.ag [.i .i64 2, .i .i64 2, encC []]) := r26Cell 2 2 [] (by decide) (by decide)
theorem cell11 : Spec Tryz.prog 31 [.i .i64 3, .i .i64 1, encL []] (.ag [.i .i64 3, .i .i64 1, encC []]) := r26Cell 3 1 [] (by decide) (by decide)
theorem cell12 : Spec Tryz.prog 31 [.i .i64 4, .i .i64 2, encL []] (.ag [.i .i64 4, .i .i64 2, encC []]) := r26Cell 4 2 [] (by decide) (by decide)
theorem cell13 : Spec Tryz.prog 31 [.i .i64 3, .i .i64 2, encL [2, 2]] (.ag [.i .i64 3, .i .i64 2, encC [(2, 2)]]) := r26Cell 3 2 [2, 2] (by decide) (by decide)
theorem cell14 : Spec Tryz.prog 31 [.i .i64 4, .i .i64 2, encL [2, 2]] (.ag [.i .i64 4, .i .i64 2, encC [(2, 2)]]) := r26Cell 4 2 [2, 2] (by decide) (by decide)
theorem cell15 : Spec Tryz.prog 31 [.i .i64 3, .i .i64 2, encL [2, 3]] (.ag [.i .i64 3, .i .i64 2, encC [(2, 3)]]) := r26Cell 3 2 [2, 3] (by decide) (by decide)
theorem cell16 : Spec Tryz.prog 31 [.i .i64 4, .i .i64 3, encL []] (.ag [.i .i64 4, .i .i64 3, encC []]) := r26Cell 4 3 [] (by decide) (by decide)
theorem cell17 : Spec Tryz.prog 31 [.i .i64 3, .i .i64 2, encL [2, 4]] (.ag [.i .i64 3, .i .i64 2, encC [(2, 4)]]) := r26Cell 3 2 [2, 4] (by decide) (by decide)
theorem cell18 : Spec Tryz.prog 31 [.i .i64 4, .i .i64 2, encL [2, 6]] (.ag [.i .i64 4, .i .i64 2, encC [(2, 6)]]) := r26Cell 4 2 [2, 6] (by decide) (by decide)
theorem cell19 : Spec Tryz.prog 31 [.i .i64 5, .i .i64 1, encL []] (.ag [.i .i64 5, .i .i64 1, encC []]) := r26Cell 5 1 [] (by decide) (by decide)
theorem cell20 : Spec Tryz.prog 31 [.i .i64 6, .i .i64 2, encL [5, 2]] (.ag [.i .i64 6, .i .i64 2, encC [(5, 2)]]) := r26Cell 6 2 [5, 2] (by decide) (by decide)
set_option maxHeartbeats 2000000 in
set_option maxRecDepth 10000 in
theorem space0 (k : Int) (hk : k.tmod 14 = 0) : Spec Tryz.prog 36 [.i .u8 k] (encX (spc 0)) := by
  have hr : encX (spc 0) = .sl [] := rfl
  have hw : IntKind.u8.wrap 0 = 0 := by decide
  have hm2 : ∀ n, n ≤ 100 → n ≤ maxLen := fun n h => le_maxLen (by omega)
  rw [hr]
  refine spec_of (N := 104) follows_mixed Tryz.func36 rfl rfl rfl (by kernel_rfl) (by kernel_rfl) (by simp) ?_
  simp (config := { maxSteps := 1000000 }) [-List.map_map, -List.mapM_map, ↓KW, ]
  refine callP_intro (ds := [.i .i64 1, .i .i64 0, encL []]) (by rfl) cell0 ?_
  simp (config := { maxSteps := 1000000 }) [-List.map_map, -List.mapM_map, ↓KW, hk, hw, hm2, one_encC, cellsA_encC, inj1_encC, inj_encC]
  refine callP_intro (ds := [.i .i64 2, .i .i64 1, encL []]) (by rfl) cell1 ?_
  simp (config := { maxSteps := 1000000 }) [-List.map_map, -List.mapM_map, ↓KW, hk, hw, hm2, one_encC, cellsA_encC, inj1_encC, inj_encC]
  refine callP_intro (ds := [.i .i64 2, .i .i64 0, encL []]) (by rfl) cell2 ?_
  simp (config := { maxSteps := 1000000 }) [-List.map_map, -List.mapM_map, ↓KW, hk, hw, hm2, one_encC, cellsA_encC, inj1_encC, inj_encC]
  refine callP_intro (ds := [.i .i64 3, .i .i64 0, encL []]) (by rfl) cell3 ?_
  simp (config := { maxSteps := 1000000 }) [-List.map_map, -List.mapM_map, ↓KW, hk, hw, hm2, one_encC, cellsA_encC, inj1_encC, inj_encC]
  refine callP_intro (ds := [.i .i64 4, .i .i64 1, encL [1, -1, 2, 1]]) (by rfl) cell4 ?_
  simp (config := { maxSteps := 1000000 }) [-List.map_map, -List.mapM_map, ↓KW, hk, hw, hm2, one_encC, cellsA_encC, inj1_encC, inj_encC]
  refine callP_intro (ds := [.i .i64 5, .i .i64 1, encL [2, -1, 3, 1]]) (by rfl) cell5 ?_
  simp (config := { maxSteps := 1000000 }) [-List.map_map, -List.mapM_map, ↓KW, hk, hw, hm2, one_encC, cellsA_encC, inj1_encC, inj_encC]
  refine callP_intro (ds := [.i .i64 6, .i .i64 1, encL [1, 1, 3, -1]]) (by rfl) cell6 ?_
  simp (config := { maxSteps := 1000000 }) [-List.map_map, -List.mapM_map, ↓KW, hk, hw, hm2, one_encC, cellsA_encC, inj1_encC, inj_encC]
set_option maxHeartbeats 2000000 in
set_option maxRecDepth 10000 in
theorem space1 (k : Int) (hk : k.tmod 14 = 1) : Spec Tryz.prog 36 [.i .u8 k] (encX (spc 1)) := by
  have hr : encX (spc 1) = .sl [[.i .i64 1, .i .i64 0, encC []]] := rfl
  have hw : IntKind.u8.wrap 1 = 1 := by decide
  have hm2 : ∀ n, n ≤ 100 → n ≤ maxLen := fun n h => le_maxLen (by omega)
  rw [hr]
  refine spec_of (N := 104) follows_mixed Tryz.func36 rfl rfl rfl (by kernel_rfl) (by kernel_rfl) (by simp) ?_
  simp (config := { maxSteps := 1000000 }) [-List.map_map, -List.mapM_map, ↓KW, ]
  refine callP_intro (ds := [.i .i64 1, .i .i64 0, encL []]) (by rfl) cell0 ?_
  simp (config := { maxSteps := 1000000 }) [-List.map_map, -List.mapM_map, ↓KW, hk, hw, hm2, one_encC, cellsA_encC, inj1_encC, inj_encC]
  refine callP_intro (ds := [.i .i64 2, .i .i64 1, encL []]) (by rfl) cell1 ?_
  simp (config := { maxSteps := 1000000 }) [-List.map_map, -List.mapM_map, ↓KW, hk, hw, hm2, one_encC, cellsA_encC, inj1_encC, inj_encC]
  refine callP_intro (ds := [.i .i64 2, .i .i64 0, encL []]) (by rfl) cell2 ?_
  simp (config := { maxSteps := 1000000 }) [-List.map_map, -List.mapM_map, ↓KW, hk, hw, hm2, one_encC, cellsA_encC, inj1_encC, inj_encC]
  refine callP_intro (ds := [.i .i64 3, .i .i64 0, encL []]) (by rfl) cell3 ?_
  simp (config := { maxSteps := 1000000 }) [-List.map_map, -List.mapM_map, ↓KW, hk, hw, hm2, one_encC, cellsA_encC, inj1_encC, inj_encC]
  refine callP_intro (ds := [.i .i64 4, .i .i64 1, encL [1, -1, 2, 1]]) (by rfl) cell4 ?_
  simp (config := { maxSteps := 1000000 }) [-List.map_map, -List.mapM_map, ↓KW, hk, hw, hm2, one_encC, cellsA_encC, inj1_encC, inj_encC]
  refine callP_intro (ds := [.i .i64 5, .i .i64 1, encL [2, -1, 3, 1]]) (by rfl) cell5 ?_
  simp (config := { maxSteps := 1000000 }) [-List.map_map, -List.mapM_map, ↓KW, hk, hw, hm2, one_encC, cellsA_encC, inj1_encC, inj_encC]
  refine callP_intro (ds := [.i .i64 6, .i .i64 1, encL [1, 1, 3, -1]]) (by rfl) cell6 ?_
  simp (config := { maxSteps := 1000000 }) [-List.map_map, -List.mapM_map, ↓KW, hk, hw, hm2, one_encC, cellsA_encC, inj1_encC, inj_encC]
set_option maxHeartbeats 2000000 in
set_option maxRecDepth 10000 in
theorem space2 (k : Int) (hk : k.tmod 14 = 2) : Spec Tryz.prog 36 [.i .u8 k] (encX (spc 2)) := by
  have hr : encX (spc 2) = .sl [[.i .i64 1, .i .i64 0, encC []], [.i .i64 7, .i .i64 0, encC []]] := rfl
  have hw : IntKind.u8.wrap 2 = 2 := by decide
  have hm2 : ∀ n, n ≤ 100 → n ≤ maxLen := fun n h => le_maxLen (by omega)
  rw [hr]
  refine spec_of (N := 104) follows_mixed Tryz.func36 rfl rfl rfl (by kernel_rfl) (by kernel_rfl) (by simp) ?_
  simp (config := { maxSteps := 1000000 }) [-List.map_map, -List.mapM_map, ↓KW, ]
  refine callP_intro (ds := [.i .i64 1, .i .i64 0, encL []]) (by rfl) cell0 ?_
  simp (config := { maxSteps := 1000000 }) [-List.map_map, -List.mapM_map, ↓KW, hk, hw, hm2, one_encC, cellsA_encC, inj1_encC, inj_encC]
  refine callP_intro (ds := [.i .i64 2, .i .i64 1, encL []]) (by rfl) cell1 ?_
  simp (config := { maxSteps := 1000000 }) [-List.map_map, -List.mapM_map, ↓KW, hk, hw, hm2, one_encC, cellsA_encC, inj1_encC, inj_encC]
  refine callP_intro (ds := [.i .i64 2, .i .i64 0, encL []]) (by rfl) cell2 ?_
  simp (config := { maxSteps := 1000000 }) [-List.map_map, -List.mapM_map, ↓KW, hk, hw, hm2, one_encC, cellsA_encC, inj1_encC, inj_encC]
  refine callP_intro (ds := [.i .i64 3, .i .i64 0, encL []]) (by rfl) cell3 ?_
  simp (config := { maxSteps := 1000000 }) [-List.map_map, -List.mapM_map, ↓KW, hk, hw, hm2, one_encC, cellsA_encC, inj1_encC, inj_encC]
  refine callP_intro (ds := [.i .i64 4, .i .i64 1, encL [1, -1, 2, 1]]) (by rfl) cell4 ?_
  simp (config := { maxSteps := 1000000 }) [-List.map_map, -List.mapM_map, ↓KW, hk, hw, hm2, one_encC, cellsA_encC, inj1_encC, inj_encC]
  refine callP_intro (ds := [.i .i64 5, .i .i64 1, encL [2, -1, 3, 1]]) (by rfl) cell5 ?_
  simp (config := { maxSteps := 1000000 }) [-List.map_map, -List.mapM_map, ↓KW, hk, hw, hm2, one_encC, cellsA_encC, inj1_encC, inj_encC]
  refine callP_intro (ds := [.i .i64 6, .i .i64 1, encL [1, 1, 3, -1]]) (by rfl) cell6 ?_
  simp (config := { maxSteps := 1000000 }) [-List.map_map, -List.mapM_map, ↓KW, hk, hw, hm2, one_encC, cellsA_encC, inj1_encC, inj_encC]
  refine callP_intro (ds := [.i .i64 7, .i .i64 0, encL []]) (by rfl) cell7 ?_
  simp (config := { maxSteps := 1000000 }) [-List.map_map, -List.mapM_map, ↓KW, hk, hw, hm2, one_encC, cellsA_encC, inj1_encC, inj_encC]
set_option maxHeartbeats 2000000 in
set_option maxRecDepth 10000 in
theorem space3 (k : Int) (hk : k.tmod 14 = 3) : Spec Tryz.prog 36 [.i .u8 k] (encX (spc 3)) := by
  have hr : encX (spc 3) = .sl [[.i .i64 1, .i .i64 0, encC []], [.i .i64 2, .i .i64 0, encC []], [.i .i64 3, .i .i64 1, encC [(1, -1), (2, 1)]]] := rfl
  have hw : IntKind.u8.wrap 3 = 3 := by decide
  have hm2 : ∀ n, n ≤ 100 → n ≤ maxLen := fun n h => le_maxLen (by omega)
  rw [hr]
  refine spec_of (N := 104) follows_mixed Tryz.func36 rfl rfl rfl (by kernel_rfl) (by kernel_rfl) (by simp) ?_
  simp (config := { maxSteps := 1000000 }) [-List.map_map, -List.mapM_map, ↓KW, ]
  refine callP_intro (ds := [.i .i64 1, .i .i64 0, encL []]) (by rfl) cell0 ?_
  simp (config := { maxSteps := 1000000 }) [-List.map_map, -List.mapM_map, ↓KW, hk, hw, hm2, one_encC, cellsA_encC, inj1_encC, inj_encC]
  refine callP_intro (ds := [.i .i64 2, .i .i64 1, encL []]) (by rfl) cell1 ?_
  simp (config := { maxSteps := 1000000 }) [-List.map_map, -List.mapM_map, ↓KW, hk, hw, hm2, one_encC, cellsA_encC, inj1_encC, inj_encC]
  refine callP_intro (ds := [.i .i64 2, .i .i64 0, encL []]) (by rfl) cell2 ?_
  simp (config := { maxSteps := 1000000 }) [-List.map_map, -List.mapM_map, ↓KW, hk, hw, hm2, one_encC, cellsA_encC, inj1_encC, inj_encC]
  refine callP_intro (ds := [.i .i64 3, .i .i64 0, encL []]) (by rfl) cell3 ?_
  simp (config := { maxSteps := 1000000 }) [-List.map_map, -List.mapM_map, ↓KW, hk, hw, hm2, one_encC, cellsA_encC, inj1_encC, inj_encC]
  refine callP_intro (ds := [.i .i64 4, .i .i64 1, encL [1, -1, 2, 1]]) (by rfl) cell4 ?_
  simp (config := { maxSteps := 1000000 }) [-List.map_map, -List.mapM_map, ↓KW, hk, hw, hm2, one_encC, cellsA_encC, inj1_encC, inj_encC]
  refine callP_intro (ds := [.i .i64 5, .i .i64 1, encL [2, -1, 3, 1]]) (by rfl) cell5 ?_
  simp (config := { maxSteps := 1000000 }) [-List.map_map, -List.mapM_map, ↓KW, hk, hw, hm2, one_encC, cellsA_encC, inj1_encC, inj_encC]
  refine callP_intro (ds := [.i .i64 6, .i .i64 1, encL [1, 1, 3, -1]]) (by rfl) cell6 ?_
  simp (config := { maxSteps := 1000000 }) [-List.map_map, -List.mapM_map, ↓KW, hk, hw, hm2, one_encC, cellsA_encC, inj1_encC, inj_encC]
  refine callP_intro (ds := [.i .i64 2, .i .i64 0, encL []]) (by rfl) cell2 ?_
  simp (config := { maxSteps := 1000000 }) [-List.map_map, -List.mapM_map, ↓KW, hk, hw, hm2, one_encC, cellsA_encC, inj1_encC, inj_encC]
  refine callP_intro (ds := [.i .i64 3, .i .i64 1, encL [1, -1, 2, 1]]) (by rfl) cell8 ?_
  simp (config := { maxSteps := 1000000 }) [-List.map_map, -List.mapM_map, ↓KW, hk, hw, hm2, one_encC, cellsA_encC, inj1_encC, inj_encC]
  rfl
set_option maxHeartbeats 2000000 in
set_option maxRecDepth 10000 in
theorem space4 (k : Int) (hk : k.tmod 14 = 4) : Spec Tryz.prog 36 [.i .u8 k] (encX (spc 4)) := by
  have hr : encX (spc 4) = .sl [[.i .i64 1, .i .i64 0, encC []], [.i .i64 2, .i .i64 1, encC []]] := rfl
  have hw : IntKind.u8.wrap 4 = 4 := by decide
  have hm2 : ∀ n, n ≤ 100 → n ≤ maxLen := fun n h => le_maxLen (by omega)
  rw [hr]
  refine spec_of (N := 104) follows_mixed Tryz.func36 rfl rfl rfl (by kernel_rfl) (by kernel_rfl) (by simp) ?_
  simp (config := { maxSteps := 1000000 }) [-List.map_map, -List.mapM_map, ↓KW, ]
  refine callP_intro (ds := [.i .i64 1, .i .i64 0, encL []]) (by rfl) cell0 ?_
  simp (config := { maxSteps := 1000000 }) [-List.map_map, -List.mapM_map, ↓KW, hk, hw, hm2, one_encC, cellsA_encC, inj1_encC, inj_encC]
  refine callP_intro (ds := [.i .i64 2, .i .i64 1, encL []]) (by rfl) cell1 ?_
  simp (config := { maxSteps := 1000000 }) [-List.map_map, -List.mapM_map, ↓KW, hk, hw, hm2, one_encC, cellsA_encC, inj1_encC, inj_encC]
  refine callP_intro (ds := [.i .i64 2, .i .i64 0, encL []]) (by rfl) cell2 ?_
  simp (config := { maxSteps := 1000000 }) [-List.map_map, -List.mapM_map, ↓KW, hk, hw, hm2, one_encC, cellsA_encC, inj1_encC, inj_encC]
  refine callP_intro (ds := [.i .i64 3, .i .i64 0, encL []]) (by rfl) cell3 ?_
  simp (config := { maxSteps := 1000000 }) [-List.map_map, -List.mapM_map, ↓KW, hk, hw, hm2, one_encC, cellsA_encC, inj1_encC, inj_encC]
  refine callP_intro (ds := [.i .i64 4, .i .i64 1, encL [1, -1, 2, 1]]) (by rfl) cell4 ?_
  simp (config := { maxSteps := 1000000 }) [-List.map_map, -List.mapM_map, ↓KW, hk, hw, hm2, one_encC, cellsA_encC, inj1_encC, inj_encC]
  refine callP_intro (ds := [.i .i64 5, .i .i64 1, encL [2, -1, 3, 1]]) (by rfl) cell5 ?_
  simp (config := { maxSteps := 1000000 }) [-List.map_map, -List.mapM_map, ↓KW, hk, hw, hm2, one_encC, cellsA_encC, inj1_encC, inj_encC]
  refine callP_intro (ds := [.i .i64 6, .i .i64 1, encL [1, 1, 3, -1]]) (by rfl) cell6 ?_
  simp (config := { maxSteps := 1000000 }) [-List.map_map, -List.mapM_map, ↓KW, hk, hw, hm2, one_encC, cellsA_encC, inj1_encC, inj_encC]
set_option maxHeartbeats 2000000 in
set_option maxRecDepth 10000 in
theorem space5 (k : Int) (hk : k.tmod 14 = 5) : Spec Tryz.prog 36 [.i .u8 k] (encX (spc 5)) := by
  have hr : encX (spc 5) = .sl [[.i .i64 1, .i .i64 0, encC []], [.i .i64 2, .i .i64 0, encC []], [.i .i64 3, .i .i64 0, encC []], [.i .i64 4, .i .i64 1, encC [(1, -1), (2, 1)]], [.i .i64 5, .i .i64 1, encC [(2, -1), (3, 1)]], [.i .i64 6, .i .i64 1, encC [(1, 1), (3, -1)]]] := rfl
  have hw : IntKind.u8.wrap 5 = 5 := by decide
  have hm2 : ∀ n, n ≤ 100 → n ≤ maxLen := fun n h => le_maxLen (by omega)
  rw [hr]
  refine spec_of (N := 104) follows_mixed Tryz.func36 rfl rfl rfl (by kernel_rfl) (by kernel_rfl) (by simp) ?_
  simp (config := { maxSteps := 1000000 }) [-List.map_map, -List.mapM_map, ↓KW, ]
  refine callP_intro (ds := [.i .i64 1, .i .i64 0, encL []]) (by rfl) cell0 ?_
  simp (config := { maxSteps := 1000000 }) [-List.map_map, -List.mapM_map, ↓KW, hk, hw, hm2, one_encC, cellsA_encC, inj1_encC, inj_encC]
  refine callP_intro (ds := [.i .i64 2, .i .i64 1, encL []]) (by rfl) cell1 ?_
  simp (config := { maxSteps := 1000000 }) [-List.map_map, -List.mapM_map, ↓KW, hk, hw, hm2, one_encC, cellsA_encC, inj1_encC, inj_encC]
  refine callP_intro (ds := [.i .i64 2, .i .i64 0, encL []]) (by rfl) cell2 ?_
  simp (config := { maxSteps := 1000000 }) [-List.map_map, -List.mapM_map, ↓KW, hk, hw, hm2, one_encC, cellsA_encC, inj1_encC, inj_encC]
  refine callP_intro (ds := [.i .i64 3, .i .i64 0, encL []]) (by rfl) cell3 ?_
  simp (config := { maxSteps := 1000000 }) [-List.map_map, -List.mapM_map, ↓KW, hk, hw, hm2, one_encC, cellsA_encC, inj1_encC, inj_encC]
  refine callP_intro (ds := [.i .i64 4, .i .i64 1, encL [1, -1, 2, 1]]) (by rfl) cell4 ?_
  simp (config := { maxSteps := 1000000 }) [-List.map_map, -List.mapM_map, ↓KW, hk, hw, hm2, one_encC, cellsA_encC, inj1_encC, inj_encC]
  refine callP_intro (ds := [.i .i64 5, .i .i64 1, encL [2, -1, 3, 1]]) (by rfl) cell5 ?_
  simp (config := { maxSteps := 1000000 }) [-List.map_map, -List.mapM_map, ↓KW, hk, hw, hm2, one_encC, cellsA_encC, inj1_encC, inj_encC]
  refine callP_intro (ds := [.i .i64 6, .i .i64 1, encL [1, 1, 3, -1]]) (by rfl) cell6 ?_
  simp (config := { maxSteps := 1000000 }) [-List.map_map, -List.mapM_map, ↓KW, hk, hw, hm2, one_encC, cellsA_encC, inj1_encC, inj_encC]
  rfl
set_option maxHeartbeats 2000000 in
set_option maxRecDepth 10000 in
theorem space6 (k : Int) (hk : k.tmod 14 = 6) : Spec Tryz.prog 36 [.i .u8 k] (encX (spc 6)) := by
  have hr : encX (spc 6) = .sl [[.i .i64 1, .i .i64 0, encC []], [.i .i64 2, .i .i64 0, encC []], [.i .i64 3, .i .i64 0, encC []], [.i .i64 4, .i .i64 1, encC [(1, -1), (2, 1)]], [.i .i64 5, .i .i64 1, encC [(2, -1), (3, 1)]], [.i .i64 6, .i .i64 1, encC [(1, 1), (3, -1)]], [.i .i64 9, .i .i64 2, encC [(4, 1), (5, 1), (6, 1)]]] := rfl
  have hw : IntKind.u8.wrap 6 = 6 := by decide
  have hm2 : ∀ n, n ≤ 100 → n ≤ maxLen := fun n h => le_maxLen (by omega)
  rw [hr]
  refine spec_of (N := 104) follows_mixed Tryz.func36 rfl rfl rfl (by kernel_rfl) (by kernel_rfl) (by simp) ?_
  simp (config := { maxSteps := 1000000 }) [-List.map_map, -List.mapM_map, ↓KW, ]
  refine callP_intro (ds := [.i .i64 1, .i .i64 0, encL []]) (by rfl) cell0 ?_
  simp (config := { maxSteps := 1000000 }) [-List.map_map, -List.mapM_map, ↓KW, hk, hw, hm2, one_encC, cellsA_encC, inj1_encC, inj_encC]
  refine callP_intro (ds := [.i .i64 2, .i .i64 1, encL []]) (by rfl) cell1 ?_
  simp (config := { maxSteps := 1000000 }) [-List.map_map, -List.mapM_map, ↓KW, hk, hw, hm2, one_encC, cellsA_encC, inj1_encC, inj_encC]
  refine callP_intro (ds := [.i .i64 2, .i .i64 0, encL []]) (by rfl) cell2 ?_
  simp (config := { maxSteps := 1000000 }) [-List.map_map, -List.mapM_map, ↓KW, hk, hw, hm2, one_encC, cellsA_encC, inj1_encC, inj_encC]
  refine callP_intro (ds := [.i .i64 3, .i .i64 0, encL []]) (by rfl) cell3 ?_
  simp (config := { maxSteps := 1000000 }) [-List.map_map, -List.mapM_map, ↓KW, hk, hw, hm2, one_encC, cellsA_encC, inj1_encC, inj_encC]
  refine callP_intro (ds := [.i .i64 4, .i .i64 1, encL [1, -1, 2, 1]]) (by rfl) cell4 ?_
  simp (config := { maxSteps := 1000000 }) [-List.map_map, -List.mapM_map, ↓KW, hk, hw, hm2, one_encC, cellsA_encC, inj1_encC, inj_encC]
  refine callP_intro (ds := [.i .i64 5, .i .i64 1, encL [2, -1, 3, 1]]) (by rfl) cell5 ?_
  simp (config := { maxSteps := 1000000 }) [-List.map_map, -List.mapM_map, ↓KW, hk, hw, hm2, one_encC, cellsA_encC, inj1_encC, inj_encC]
  refine callP_intro (ds := [.i .i64 6, .i .i64 1, encL [1, 1, 3, -1]]) (by rfl) cell6 ?_
  simp (config := { maxSteps := 1000000 }) [-List.map_map, -List.mapM_map, ↓KW, hk, hw, hm2, one_encC, cellsA_encC, inj1_encC, inj_encC]
  refine callP_intro (ds := [.i .i64 9, .i .i64 2, encL [4, 1, 5, 1, 6, 1]]) (by rfl) cell9 ?_
  simp (config := { maxSteps := 1000000 }) [-List.map_map, -List.mapM_map, ↓KW, hk, hw, hm2, one_encC, cellsA_encC, inj1_encC, inj_encC]
  rfl
set_option maxHeartbeats 2000000 in
set_option maxRecDepth 10000 in
theorem space7 (k : Int) (hk : k.tmod 14 = 7) : Spec Tryz.prog 36 [.i .u8 k] (encX (spc 7)) := by
  have hr : encX (spc 7) = .sl [[.i .i64 1, .i .i64 0, encC []], [.i .i64 2, .i .i64 2, encC []]] := rfl
  have hw : IntKind.u8.wrap 7 = 7 := by decide
  have hm2 : ∀ n, n ≤ 100 → n ≤ maxLen := fun n h => le_maxLen (by omega)
  rw [hr]
  refine spec_of (N := 104) follows_mixed Tryz.func36 rfl rfl rfl (by kernel_rfl) (by kernel_rfl) (by simp) ?_
  simp (config := { maxSteps := 1000000 }) [-List.map_map, -List.mapM_map, ↓KW, ]
  refine callP_intro (ds := [.i .i64 1, .i .i64 0, encL []]) (by rfl) cell0 ?_
  simp (config := { maxSteps := 1000000 }) [-List.map_map, -List.mapM_map, ↓KW, hk, hw, hm2, one_encC, cellsA_encC, inj1_encC, inj_encC]
  refine callP_intro (ds := [.i .i64 2, .i .i64 1, encL []]) (by rfl) cell1 ?_
  simp (config := { maxSteps := 1000000 }) [-List.map_map, -List.mapM_map, ↓KW, hk, hw, hm2, one_encC, cellsA_encC, inj1_encC, inj_encC]
  refine callP_intro (ds := [.i .i64 2, .i .i64 0, encL []]) (by rfl) cell2 ?_
  simp (config := { maxSteps := 1000000 }) [-List.map_map, -List.mapM_map, ↓KW, hk, hw, hm2, one_encC, cellsA_encC, inj1_encC, inj_encC]
  refine callP_intro (ds := [.i .i64 3, .i .i64 0, encL []]) (by rfl) cell3 ?_
  simp (config := { maxSteps := 1000000 }) [-List.map_map, -List.mapM_map, ↓KW, hk, hw, hm2, one_encC, cellsA_encC, inj1_encC, inj_encC]
  refine callP_intro (ds := [.i .i64 4, .i .i64 1, encL [1, -1, 2, 1]]) (by rfl) cell4 ?_
  simp (config := { maxSteps := 1000000 }) [-List.map_map, -List.mapM_map, ↓KW, hk, hw, hm2, one_encC, cellsA_encC, inj1_encC, inj_encC]
  refine callP_intro (ds := [.i .i64 5, .i .i64 1, encL [2, -1, 3, 1]]) (by rfl) cell5 ?_
  simp (config := { maxSteps := 1000000 }) [-List.map_map, -List.mapM_map, ↓KW, hk, hw, hm2, one_encC, cellsA_encC, inj1_encC, inj_encC]
  refine callP_intro (ds := [.i .i64 6, .i .i64 1, encL [1, 1, 3, -1]]) (by rfl) cell6 ?_
  simp (config := { maxSteps := 1000000 }) [-List.map_map, -List.mapM_map, ↓KW, hk, hw, hm2, one_encC, cellsA_encC, inj1_encC, inj_encC]
  refine callP_intro (ds := [.i .i64 2, .i .i64 2, encL []]) (by rfl) cell10 ?_
  simp (config := { maxSteps := 1000000 }) [-List.map_map, -List.mapM_map, ↓KW, hk, hw, hm2, one_encC, cellsA_encC, inj1_encC, inj_encC]
set_option maxHeartbeats 2000000 in
set_option maxRecDepth 10000 in
theorem space8 (k : Int) (hk : k.tmod 14 = 8) : Spec Tryz.prog 36 [.i .u8 k] (encX (spc 8)) := by
  have hr : encX (spc 8) = .sl [[.i .i64 1, .i .i64 0, encC []], [.i .i64 2, .i .i64 1, encC []], [.i .i64 3, .i .i64 1, encC []], [.i .i64 4, .i .i64 2, encC []]] := rfl
  have hw : IntKind.u8.wrap 8 = 8 := by decide
  have hm2 : ∀ n, n ≤ 100 → n ≤ maxLen := fun n h => le_maxLen (by omega)
  rw [hr]
  refine spec_of (N := 104) follows_mixed Tryz.func36 rfl rfl rfl (by kernel_rfl) (by kernel_rfl) (by simp) ?_
  simp (config := { maxSteps := 1000000 }) [-List.map_map, -List.mapM_map, ↓KW, ]
  refine callP_intro (ds := [.i .i64 1, .i .i64 0, encL []]) (by rfl) cell0 ?_
  simp (config := { maxSteps := 1000000 }) [-List.map_map, -List.mapM_map, ↓KW, hk, hw, hm2, one_encC, cellsA_encC, inj1_encC, inj_encC]
  refine callP_intro (ds := [.i .i64 2, .i .i64 1, encL []]) (by rfl) cell1 ?_
  simp (config := { maxSteps := 1000000 }) [-List.map_map, -List.mapM_map, ↓KW, hk, hw, hm2, one_encC, cellsA_encC, inj1_encC, inj_encC]
  refine callP_intro (ds := [.i .i64 2, .i .i64 0, encL []]) (by rfl) cell2 ?_
  simp (config := { maxSteps := 1000000 }) [-List.map_map, -List.mapM_map, ↓KW, hk, hw, hm2, one_encC, cellsA_encC, inj1_encC, inj_encC]
  refine callP_intro (ds := [.i .i64 3, .i .i64 0, encL []]) (by rfl) cell3 ?_
  simp (config := { maxSteps := 1000000 }) [-List.map_map, -List.mapM_map, ↓KW, hk, hw, hm2, one_encC, cellsA_encC, inj1_encC, inj_encC]
  refine callP_intro (ds := [.i .i64 4, .i .i64 1, encL [1, -1, 2, 1]]) (by rfl) cell4 ?_
  simp (config := { maxSteps := 1000000 }) [-List.map_map, -List.mapM_map, ↓KW, hk, hw, hm2, one_encC, cellsA_encC, inj1_encC, inj_encC]
  refine callP_intro (ds := [.i .i64 5, .i .i64 1, encL [2, -1, 3, 1]]) (by rfl) cell5 ?_
  simp (config := { maxSteps := 1000000 }) [-List.map_map, -List.mapM_map, ↓KW, hk, hw, hm2, one_encC, cellsA_encC, inj1_encC, inj_encC]
  refine callP_intro (ds := [.i .i64 6, .i .i64 1, encL [1, 1, 3, -1]]) (by rfl) cell6 ?_
  simp (config := { maxSteps := 1000000 }) [-List.map_map, -List.mapM_map, ↓KW, hk, hw, hm2, one_encC, cellsA_encC, inj1_encC, inj_encC]
  refine callP_intro (ds := [.i .i64 3, .i .i64 1, encL []]) (by rfl) cell11 ?_
  simp (config := { maxSteps := 1000000 }) [-List.map_map, -List.mapM_map, ↓KW, hk, hw, hm2, one_encC, cellsA_encC, inj1_encC, inj_encC]
  refine callP_intro (ds := [.i .i64 4, .i .i64 2, encL []]) (by rfl) cell12 ?_
  simp (config := { maxSteps := 1000000 }) [-List.map_map, -List.mapM_map, ↓KW, hk, hw, hm2, one_encC, cellsA_encC, inj1_encC, inj_encC]
  rfl
set_option maxHeartbeats 2000000 in
set_option maxRecDepth 10000 in
theorem space9 (k : Int) (hk : k.tmod 14 = 9) : Spec Tryz.prog 36 [.i .u8 k] (encX (spc 9)) := by
  have hr : encX (spc 9) = .sl [[.i .i64 1, .i .i64 0, encC []], [.i .i64 2, .i .i64 1, encC []], [.i .i64 3, .i .i64 2, encC [(2, 2)]]] := rfl
  have hw : IntKind.u8.wrap 9 = 9 := by decide
  have hm2 : ∀ n, n ≤ 100 → n ≤ maxLen := fun n h => le_maxLen (by omega)
  rw [hr]
  refine spec_of (N := 104) follows_mixed Tryz.func36 rfl rfl rfl (by kernel_rfl) (by kernel_rfl) (by simp) ?_
  simp (config := { maxSteps := 1000000 }) [-List.map_map, -List.mapM_map, ↓KW, ]
  refine callP_intro (ds := [.i .i64 1, .i .i64 0, encL []]) (by rfl) cell0 ?_
  simp (config := { maxSteps := 1000000 }) [-List.map_map, -List.mapM_map, ↓KW, hk, hw, hm2, one_encC, cellsA_encC, inj1_encC, inj_encC]
  refine callP_intro (ds := [.i .i64 2, .i .i64 1, encL []]) (by rfl) cell1 ?_
  simp (config := { maxSteps := 1000000 }) [-List.map_map, -List.mapM_map, ↓KW, hk, hw, hm2, one_encC, cellsA_encC, inj1_encC, inj_encC]
  refine callP_intro (ds := [.i .i64 2, .i .i64 0, encL []]) (by rfl) cell2 ?_
  simp (config := { maxSteps := 1000000 }) [-List.map_map, -List.mapM_map, ↓KW, hk, hw, hm2, one_encC, cellsA_encC, inj1_encC, inj_encC]
  refine callP_intro (ds := [.i .i64 3, .i .i64 0, encL []]) (by rfl) cell3 ?_
  simp (config := { maxSteps := 1000000 }) [-List.map_map, -List.mapM_map, ↓KW, hk, hw, hm2, one_encC, cellsA_encC, inj1_encC, inj_encC]
  refine callP_intro (ds := [.i .i64 4, .i .i64 1, encL [1, -1, 2, 1]]) (by rfl) cell4 ?_
  simp (config := { maxSteps := 1000000 }) [-List.map_map, -List.mapM_map, ↓KW, hk, hw, hm2, one_encC, cellsA_encC, inj1_encC, inj_encC]
  refine callP_intro (ds := [.i .i64 5, .i .i64 1, encL [2, -1, 3, 1]]) (by rfl) cell5 ?_
  simp (config := { maxSteps := 1000000 }) [-List.map_map, -List.mapM_map, ↓KW, hk, hw, hm2, one_encC, cellsA_encC, inj1_encC, inj_encC]
  refine callP_intro (ds := [.i .i64 6, .i .i64 1, encL [1, 1, 3, -1]]) (by rfl) cell6 ?_
  simp (config := { maxSteps := 1000000 }) [-List.map_map, -List.mapM_map, ↓KW, hk, hw, hm2, one_encC, cellsA_encC, inj1_encC, inj_encC]
  refine callP_intro (ds := [.i .i64 3, .i .i64 2, encL [2, 2]]) (by rfl) cell13 ?_
  simp (config := { maxSteps := 1000000 }) [-List.map_map, -List.mapM_map, ↓KW, hk, hw, hm2, one_encC, cellsA_encC, inj1_encC, inj_encC]
  rfl
set_option maxHeartbeats 2000000 in
set_option maxRecDepth 10000 in
theorem space10 (k : Int) (hk : k.tmod 14 = 10) : Spec Tryz.prog 36 [.i .u8 k] (encX (spc 10)) := by
  have hr : encX (spc 10) = .sl [[.i .i64 1, .i .i64 0, encC []], [.i .i64 2, .i .i64 1, encC []], [.i .i64 3, .i .i64 1, encC []], [.i .i64 4, .i .i64 2, encC [(2, 2)]]] := rfl
  have hw : IntKind.u8.wrap 10 = 10 := by decide
  have hm2 : ∀ n, n ≤ 100 → n ≤ maxLen := fun n h => le_maxLen (by omega)
  rw [hr]
  refine spec_of (N := 104) follows_mixed Tryz.func36 rfl rfl rfl (by kernel_rfl) (by kernel_rfl) (by simp) ?_
  simp (config := { maxSteps := 1000000 }) [-List.map_map, -List.mapM_map, ↓KW, ]
  refine callP_intro (ds := [.i .i64 1, .i .i64 0, encL []]) (by rfl) cell0 ?_
  simp (config := { maxSteps := 1000000 }) [-List.map_map, -List.mapM_map, ↓KW, hk, hw, hm2, one_encC, cellsA_encC, inj1_encC, inj_encC]
  refine callP_intro (ds := [.i .i64 2, .i .i64 1, encL []]) (by rfl) cell1 ?_
  simp (config := { maxSteps := 1000000 }) [-List.map_map, -List.mapM_map, ↓KW, hk, hw, hm2, one_encC, cellsA_encC, inj1_encC, inj_encC]
  refine callP_intro (ds := [.i .i64 2, .i .i64 0, encL []]) (by rfl) cell2 ?_
  simp (config := { maxSteps := 1000000 }) [-List.map_map, -List.mapM_map, ↓KW, hk, hw, hm2, one_encC, cellsA_encC, inj1_encC, inj_encC]
  refine callP_intro (ds := [.i .i64 3, .i .i64 0, encL []]) (by rfl) cell3 ?_
  simp (config := { maxSteps := 1000000 }) [-List.map_map, -List.mapM_map, ↓KW, hk, hw, hm2, one_encC, cellsA_encC, inj1_encC, inj_encC]
  refine callP_intro (ds := [.i .i64 4, .i .i64 1, encL [1, -1, 2, 1]]) (by rfl) cell4 ?_
  simp (config := { maxSteps := 1000000 }) [-List.map_map, -List.mapM_map, ↓KW, hk, hw, hm2, one_encC, cellsA_encC, inj1_encC, inj_encC]
  refine callP_intro (ds := [.i .i64 5, .i .i64 1, encL [2, -1, 3, 1]]) (by rfl) cell5 ?_
  simp (config := { maxSteps := 1000000 }) [-List.map_map, -List.mapM_map, ↓KW, hk, hw, hm2, one_encC, cellsA_encC, inj1_encC, inj_encC]
  refine callP_intro (ds := [.i .i64 6, .i .i64 1, encL [1, 1, 3, -1]]) (by rfl) cell6 ?_
  simp (config := { maxSteps := 1000000 }) [-List.map_map, -List.mapM_map, ↓KW, hk, hw, hm2, one_encC, cellsA_encC, inj1_encC, inj_encC]
  refine callP_intro (ds := [.i .i64 3, .i .i64 1, encL []]) (by rfl) cell11 ?_
  simp (config := { maxSteps := 1000000 }) [-List.map_map, -List.mapM_map, ↓KW, hk, hw, hm2, one_encC, cellsA_encC, inj1_encC, inj_encC]
  refine callP_intro (ds := [.i .i64 4, .i .i64 2, encL [2, 2]]) (by rfl) cell14 ?_
  simp (config := { maxSteps := 1000000 }) [-List.map_map, -List.mapM_map, ↓KW, hk, hw, hm2, one_encC, cellsA_encC, inj1_encC, inj_encC]
  rfl
set_option maxHeartbeats 2000000 in
set_option maxRecDepth 10000 in
theorem space11 (k : Int) (hk : k.tmod 14 = 11) : Spec Tryz.prog 36 [.i .u8 k] (encX (spc 11)) := by
  have hr : encX (spc 11) = .sl [[.i .i64 1, .i .i64 0, encC []], [.i .i64 2, .i .i64 1, encC []], [.i .i64 3, .i .i64 2, encC [(2, 3)]], [.i .i64 4, .i .i64 3, encC []]] := rfl
  have hw : IntKind.u8.wrap 11 = 11 := by decide
  have hm2 : ∀ n, n ≤ 100 → n ≤ maxLen := fun n h => le_maxLen (by omega)
  rw [hr]
  refine spec_of (N := 104) follows_mixed Tryz.func36 rfl rfl rfl (by kernel_rfl) (by kernel_rfl) (by simp) ?_
  simp (config := { maxSteps := 1000000 }) [-List.map_map, -List.mapM_map, ↓KW, ]
  refine callP_intro (ds := [.i .i64 1, .i .i64 0, encL []]) (by rfl) cell0 ?_
  simp (config := { maxSteps := 1000000 }) [-List.map_map, -List.mapM_map, ↓KW, hk, hw, hm2, one_encC, cellsA_encC, inj1_encC, inj_encC]
  refine callP_intro (ds := [.i .i64 2, .i .i64 1, encL []]) (by rfl) cell1 ?_
  simp (config := { maxSteps := 1000000 }) [-List.map_map, -List.mapM_map, ↓KW, hk, hw, hm2, one_encC, cellsA_encC, inj1_encC, inj_encC]
  refine callP_intro (ds := [.i .i64 2, .i .i64 0, encL []]) (by rfl) cell2 ?_
  simp (config := { maxSteps := 1000000 }) [-List.map_map, -List.mapM_map, ↓KW, hk, hw, hm2, one_encC, cellsA_encC, inj1_encC, inj_encC]
  refine callP_intro (ds := [.i .i64 3, .i .i64 0, encL []]) (by rfl) cell3 ?_
  simp (config := { maxSteps := 1000000 }) [-List.map_map, -List.mapM_map, ↓KW, hk, hw, hm2, one_encC, cellsA_encC, inj1_encC, inj_encC]
  refine callP_intro (ds := [.i .i64 4, .i .i64 1, encL [1, -1, 2, 1]]) (by rfl) cell4 ?_
  simp (config := { maxSteps := 1000000 }) [-List.map_map, -List.mapM_map, ↓KW, hk, hw, hm2, one_encC, cellsA_encC, inj1_encC, inj_encC]
  refine callP_intro (ds := [.i .i64 5, .i .i64 1, encL [2, -1, 3, 1]]) (by rfl) cell5 ?_
  simp (config := { maxSteps := 1000000 }) [-List.map_map, -List.mapM_map, ↓KW, hk, hw, hm2, one_encC, cellsA_encC, inj1_encC, inj_encC]
  refine callP_intro (ds := [.i .i64 6, .i .i64 1, encL [1, 1, 3, -1]]) (by rfl) cell6 ?_
  simp (config := { maxSteps := 1000000 }) [-List.map_map, -List.mapM_map, ↓KW, hk, hw, hm2, one_encC, cellsA_encC, inj1_encC, inj_encC]
  refine callP_intro (ds := [.i .i64 3, .i .i64 2, encL [2, 3]]) (by rfl) cell15 ?_
  simp (config := { maxSteps := 1000000 }) [-List.map_map, -List.mapM_map, ↓KW, hk, hw, hm2, one_encC, cellsA_encC, inj1_encC, inj_encC]
  refine callP_intro (ds := [.i .i64 4, .i .i64 3, encL []]) (by rfl) cell16 ?_
  simp (config := { maxSteps := 1000000 }) [-List.map_map, -List.mapM_map, ↓KW, hk, hw, hm2, one_encC, cellsA_encC, inj1_encC, inj_encC]
  rfl
set_option maxHeartbeats 2000000 in
set_option maxRecDepth 10000 in
theorem space12 (k : Int) (hk : k.tmod 14 = 12) : Spec Tryz.prog 36 [.i .u8 k] (encX (spc 12)) := by
  have hr : encX (spc 12) = .sl [[.i .i64 1, .i .i64 0, encC []], [.i .i64 2, .i .i64 1, encC []], [.i .i64 3, .i .i64 2, encC [(2, 4)]], [.i .i64 4, .i .i64 2, encC [(2, 6)]]] := rfl
  have hw : IntKind.u8.wrap 12 = 12 := by decide
  have hm2 : ∀ n, n ≤ 100 → n ≤ maxLen := fun n h => le_maxLen (by omega)
  rw [hr]
  refine spec_of (N := 104) follows_mixed Tryz.func36 rfl rfl rfl (by kernel_rfl) (by kernel_rfl) (by simp) ?_
  simp (config := { maxSteps := 1000000 }) [-List.map_map, -List.mapM_map, ↓KW, ]
  refine callP_intro (ds := [.i .i64 1, .i .i64 0, encL []]) (by rfl) cell0 ?_
  simp (config := { maxSteps := 1000000 }) [-List.map_map, -List.mapM_map, ↓KW, hk, hw, hm2, one_encC, cellsA_encC, inj1_encC, inj_encC]
  refine callP_intro (ds := [.i .i64 2, .i .i64 1, encL []]) (by rfl) cell1 ?_
  simp (config := { maxSteps := 1000000 }) [-List.map_map, -List.mapM_map, ↓KW, hk, hw, hm2, one_encC, cellsA_encC, inj1_encC, inj_encC]
  refine callP_intro (ds := [.i .i64 2, .i .i64 0, encL []]) (by rfl) cell2 ?_
  simp (config := { maxSteps := 1000000 }) [-List.map_map, -List.mapM_map, ↓KW, hk, hw, hm2, one_encC, cellsA_encC, inj1_encC, inj_encC]
  refine callP_intro (ds := [.i .i64 3, .i .i64 0, encL []]) (by rfl) cell3 ?_
  simp (config := { maxSteps := 1000000 }) [-List.map_map, -List.mapM_map, ↓KW, hk, hw, hm2, one_encC, cellsA_encC, inj1_encC, inj_encC]
  refine callP_intro (ds := [.i .i64 4, .i .i64 1, encL [1, -1, 2, 1]]) (by rfl) cell4 ?_
  simp (config := { maxSteps := 1000000 }) [-List.map_map, -List.mapM_map, ↓KW, hk, hw, hm2, one_encC, cellsA_encC, inj1_encC, inj_encC]
  refine callP_intro (ds := [.i .i64 5, .i .i64 1, encL [2, -1, 3, 1]]) (by rfl) cell5 ?_
  simp (config := { maxSteps := 1000000 }) [-List.map_map, -List.mapM_map, ↓KW, hk, hw, hm2, one_encC, cellsA_encC, inj1_encC, inj_encC]
  refine callP_intro (ds := [.i .i64 6, .i .i64 1, encL [1, 1, 3, -1]]) (by rfl) cell6 ?_
  simp (config := { maxSteps := 1000000 }) [-List.map_map, -List.mapM_map, ↓KW, hk, hw, hm2, one_encC, cellsA_encC, inj1_encC, inj_encC]
  refine callP_intro (ds := [.i .i64 3, .i .i64 2, encL [2, 4]]) (by rfl) cell17 ?_
  simp (config := { maxSteps := 1000000 }) [-List.map_map, -List.mapM_map, ↓KW, hk, hw, hm2, one_encC, cellsA_encC, inj1_encC, inj_encC]
  refine callP_intro (ds := [.i .i64 4, .i .i64 2, encL [2, 6]]) (by rfl) cell18 ?_
  simp (config := { maxSteps := 1000000 }) [-List.map_map, -List.mapM_map, ↓KW, hk, hw, hm2, one_encC, cellsA_encC, inj1_encC, inj_encC]
  rfl
set_option maxHeartbeats 2000000 in
set_option maxRecDepth 10000 in
theorem space13 (k : Int) (hk : k.tmod 14 = 13) : Spec Tryz.prog 36 [.i .u8 k] (encX (spc 13)) := by
  have hr : encX (spc 13) = .sl [[.i .i64 1, .i .i64 0, encC []], [.i .i64 2, .i .i64 1, encC []], [.i .i64 3, .i .i64 0, encC []], [.i .i64 5, .i .i64 1, encC []], [.i .i64 6, .i .i64 2, encC [(5, 2)]]] := rfl
  have hw : IntKind.u8.wrap 13 = 13 := by decide
  have hm2 : ∀ n, n ≤ 100 → n ≤ maxLen := fun n h => le_maxLen (by omega)
  rw [hr]
  refine spec_of (N := 104) follows_mixed Tryz.func36 rfl rfl rfl (by kernel_rfl) (by kernel_rfl) (by simp) ?_
  simp (config := { maxSteps := 1000000 }) [-List.map_map, -List.mapM_map, ↓KW, ]
  refine callP_intro (ds := [.i .i64 1, .i .i64 0, encL []]) (by rfl) cell0 ?_
  simp (config := { maxSteps := 1000000 }) [-List.map_map, -List.mapM_map, ↓KW, hk, hw, hm2, one_encC, cellsA_encC, inj1_encC, inj_encC]
  refine callP_intro (ds := [.i .i64 2, .i .i64 1, encL []]) (by rfl) cell1 ?_
  simp (config := { maxSteps := 1000000 }) [-List.map_map, -List.mapM_map, ↓KW, hk, hw, hm2, one_encC, cellsA_encC, inj1_encC, inj_encC]
  refine callP_intro (ds := [.i .i64 2, .i .i64 0, encL []]) (by rfl) cell2 ?_
  simp (config := { maxSteps := 1000000 }) [-List.map_map, -List.mapM_map, ↓KW, hk, hw, hm2, one_encC, cellsA_encC, inj1_encC, inj_encC]
  refine callP_intro (ds := [.i .i64 3, .i .i64 0, encL []]) (by rfl) cell3 ?_
  simp (config := { maxSteps := 1000000 }) [-List.map_map, -List.mapM_map, ↓KW, hk, hw, hm2, one_encC, cellsA_encC, inj1_encC, inj_encC]
  refine callP_intro (ds := [.i .i64 4, .i .i64 1, encL [1, -1, 2, 1]]) (by rfl) cell4 ?_
  simp (config := { maxSteps := 1000000 }) [-List.map_map, -List.mapM_map, ↓KW, hk, hw, hm2, one_encC, cellsA_encC, inj1_encC, inj_encC]
  refine callP_intro (ds := [.i .i64 5, .i .i64 1, encL [2, -1, 3, 1]]) (by rfl) cell5 ?_
  simp (config := { maxSteps := 1000000 }) [-List.map_map, -List.mapM_map, ↓KW, hk, hw, hm2, one_encC, cellsA_encC, inj1_encC, inj_encC]
  refine callP_intro (ds := [.i .i64 6, .i .i64 1, encL [1, 1, 3, -1]]) (by rfl) cell6 ?_
  simp (config := { maxSteps := 1000000 }) [-List.map_map, -List.mapM_map, ↓KW, hk, hw, hm2, one_encC, cellsA_encC, inj1_encC, inj_encC]
  refine callP_intro (ds := [.i .i64 3, .i .i64 0, encL []]) (by rfl) cell3 ?_
  simp (config := { maxSteps := 1000000 }) [-List.map_map, -List.mapM_map, ↓KW, hk, hw, hm2, one_encC, cellsA_encC, inj1_encC, inj_encC]
  refine callP_intro (ds := [.i .i64 5, .i .i64 1, encL []]) (by rfl) cell19 ?_
  simp (config := { maxSteps := 1000000 }) [-List.map_map, -List.mapM_map, ↓KW, hk, hw, hm2, one_encC, cellsA_encC, inj1_encC, inj_encC]
  refine callP_intro (ds := [.i .i64 6, .i .i64 2, encL [5, 2]]) (by rfl) cell20 ?_
  simp (config := { maxSteps := 1000000 }) [-List.map_map, -List.mapM_map, ↓KW, hk, hw, hm2, one_encC, cellsA_encC, inj1_encC, inj_encC]
  rfl
end Go.Am
end

section
set_option linter.unusedVariables false
set_option linter.unusedSimpArgs false
open Go Go.Am Go.Proofs
namespace Go.Am
set_option linter.unusedSimpArgs false
set_option linter.unusedVariables false
/-- Chains, a list of them. -/
def encCh (l : List (List (Int × Int))) : D := .sl (l.map fun x => [encC x])
set_option maxHeartbeats 2000000 in
set_option maxRecDepth 10000 in
theorem r26CyclesN (c : List Cl) (k : Int) (hk : k < 0) : Spec Tryz.prog 64 [encX c, .i .i64 k] (encCh []) := by
  refine spec_of (N := 34) follows_mixed Tryz.func64 rfl rfl rfl (by kernel_rfl) (by kernel_rfl) (by simp) ?_
  simp (config := { maxSteps := 1000000 }) [-List.map_map, -List.mapM_map, ↓KW, encX, encCh, hk]
set_option maxHeartbeats 2000000 in
set_option maxRecDepth 10000 in
theorem r26Cycles {E : Nat} (c : List Cl) (k : Int) (L : List (List Int)) (hk : 0 ≤ k ∧ k ≤ 1000) (hl : c.length ≤ 100) (hb : ∀ x ∈ c, x.b.length ≤ 1000000)
    (hL : LeftR (idsX c k).length (idsX c (k - 1)).length E (matX c k) L) (hE : E + 20 < 4398046511104) : Spec Tryz.prog 64 [encX c, .i .i64 k] (encCh (L.map fun v => (chX c k v).1)) := by
  refine spec_of (N := 34) follows_mixed Tryz.func64 rfl rfl rfl (by kernel_rfl) (by kernel_rfl) (by simp) ?_
  have hB := r25Boundary c k (by omega) (by omega) hb
  have hS := hL.spec
  have hOf := fun v hv => r26Of c k v hl (hL.be v hv) hE
  have hLl := Nat.le_trans hL.len (idsX_len c k)
  have hneg : ¬ k < 0 := by omega
  generalize (idsX c k).length = R at *
  generalize (idsX c (k - 1)).length = C at *
  generalize matX c k = M at *
  simp (config := { maxSteps := 1000000 }) [-List.map_map, -List.mapM_map, ↓KW, encX, hneg]
  refine callP_intro (ds := [encX c, .i .i64 k]) (by rfl) hB ?_
  simp (config := { maxSteps := 1000000 }) [-List.map_map, -List.mapM_map, ↓KW, encMat]
  refine callP_intro (ds := [encMat R C M]) (by rfl) hS ?_
  simp (config := { maxSteps := 1000000 }) [-List.map_map, -List.mapM_map, ↓KW, encMat]
  obtain ⟨out, hout⟩ : ∃ o, (L.map fun v => (chX c k v).1) = o := ⟨_, rfl⟩
  have hol : out.length = L.length := by rw [← hout, List.length_map]
  have hog : ∀ i v, L[i]? = some v → out[i]? = some (chX c k v).1 := fun i v h => by rw [← hout, List.getElem?_map, h]; rfl
  rw [hout]
  refine loopP_inv (fun i : Nat => i ≤ L.length) (fun i => StL [(0, .d (encX c)), (1, .d (.i .i64 k)), (5, .own 1 0 i 1), (6, .ptr 2 0), (7, .d (.i .i64 (i : Int)))] none [.cells 32 (((out.take i).map encC).map .d), .cells 60 [.d (.i .i64 (L.length : Int)), .d (.i .i64 (R : Int)), .d (.sl (L.map fun v => [encV2 v]))]]) (fun i => L.length - i) 0 (Nat.zero_le _) ?_ ?_
  · refine wk_l [1, 2] (by simp) ?_ ?_ <;> simp [-List.map_map, upd, inj1, Γ0, encX]
  · intro i hi
    by_cases hgo : i < L.length
    · have q1 : (i : Int) < L.length := by omega
      have hx : L[i]? = some L[i] := List.getElem?_eq_getElem hgo
      have hO := hOf _ (List.getElem_mem hgo)
      have hg := hog i _ hx
      have htk : out.take (i + 1) = out.take i ++ [(chX c k L[i]).1] := by rw [List.take_add_one, hg]; rfl
      have hw : IntKind.i64.wrap ((i : Int) + 1) = (i : Int) + 1 := wrap_i64 (by omega) (by omega)
      have hol1 : (out.take i).length = i := by rw [List.length_take]; omega
      have hol2 : ((out.take i).map encC).length = i := by rw [List.length_map]; exact hol1
      have hbb := app_bounds (n := i) (by omega)
      have hb8 : (i + 1) * 24 ≤ 140737488355328 := by omega
      generalize out.take i = o1 at *
      generalize (chX c k L[i]).1 = y at *
      generalize L[i] = v at *
      have hv2 : encV2 v = .sl (v.map encN) := rfl
      simp (config := { maxSteps := 1000000 }) [-List.map_map, -List.mapM_map, ↓KW, encX, q1, hx, hv2]
      refine callP_intro (ds := [encX c, .i .i64 k, encV2 v]) (by rfl) hO ?_
      simp (config := { maxSteps := 1000000 }) [-List.map_map, -List.mapM_map, ↓KW, hw, hbb, hb8, hol1, hol2, le_maxLen, one_encC, cellsA_encC, inj1_encC, inj_encC, kills_encC, encV2]
      refine nxt_intro (i + 1) hgo (Nat.sub_lt_sub_left hgo (Nat.lt_succ_self _)) (wk_l [4, 2] (by simp) ?_ ?_) <;> simp [-List.map_map, upd, inj1, Γ0, encX, htk]
    · have q1 : ¬ (i : Int) < L.length := by omega
      have e : i = L.length := by omega
      have e2 : out.take i = out := List.take_of_length_le (by omega)
      have e3 : (out.map encC).length = i := by rw [List.length_map]; omega
      have e4 : chunk 1 i (out.map encC) = out.map fun x => [encC x] := by rw [chunk_one _ _ e3.symm, List.map_map]; rfl
      have e5 : List.take i ((out.map encC).map AV.d) = (out.map encC).map AV.d := List.take_of_length_le (by simp; omega)
      have e6 : out.length = i := by omega
      simp (config := { maxSteps := 1000000 }) [-List.map_map, -List.mapM_map, ↓KW, encCh, q1, e2, e3, e4, e5, e6]
/-! One more cell -/
def gB (cyc : List (List (Int × Int))) (xs : List Int) : Nat → List (Int × Int)
  | 0 => []
  | i + 1 => addR (gB cyc xs i) (mulR ((xs.getD (i + 1) 0).tmod 4) (cyc.getD i []))
def gDim (x0 : Int) : Int := (x0 % 256) % 4
def gId (c : List Cl) (x0 : Int) : Int := match c.getLast? with
  | none => 1
  | some y => y.id + 1 + (x0 % 256) / 128
def grown (c : List Cl) (x0 x1 x2 x3 : Int) (cyc : List (List (Int × Int))) : List Cl := c ++ [⟨gId c x0, gDim x0, gB cyc [x0, x1, x2, x3] (min 3 cyc.length)⟩]
theorem tmod4 (x : Int) : (x.tmod 4).natAbs ≤ 2 ^ 2 ∧ -4 < x.tmod 4 ∧ x.tmod 4 < 4 := by
  have h1 := Int.tmod_lt_of_pos x (b := 4) (by decide)
  have h2 := Int.tmod_lt_of_pos (-x) (b := 4) (by decide)
  rw [Int.neg_tmod] at h2
  exact ⟨by omega, by omega, h1⟩
theorem gB_sz {e : Nat} {cyc : List (List (Int × Int))} {xs : List Int} (hb : ∀ y ∈ cyc, Bnd (2 ^ e) y) (hl : ∀ y ∈ cyc, y.length ≤ 16) : ∀ i, i ≤ 3 → i ≤ cyc.length → Bnd (i * (16 * (2 ^ 2 * 2 ^ e))) (gB cyc xs i) ∧ (gB cyc xs i).length ≤ i * 16
  | 0, _, _ => ⟨Bnd.nil _, Nat.le_refl _⟩
  | i + 1, h3, hc => by
    obtain ⟨h1, h2⟩ := gB_sz hb hl i (by omega) (by omega)
    have hm : cyc.getD i [] ∈ cyc := by rw [List.getD_eq_getElem?_getD, List.getElem?_eq_getElem (by omega)]; exact List.getElem_mem _
    have h4 := addR_bnd (mulR ((xs.getD (i + 1) 0).tmod 4) (cyc.getD i [])) (gB cyc xs i) h1 (mulR_bnd (tmod4 _).1 (hb _ hm))
    have h5 := addR_len (gB cyc xs i) (mulR ((xs.getD (i + 1) 0).tmod 4) (cyc.getD i []))
    rw [mulR_len] at h4 h5
    have h6 := hl _ hm
    refine ⟨h4.mono ?_, ?_⟩
    · exact Nat.le_trans (Nat.add_le_add_left (Nat.mul_le_mul_right _ h6) _) (Nat.le_of_eq (Nat.succ_mul i _).symm)
    · show (addR _ _).length ≤ _
      omega
theorem wrap_i8s {n : Int} (h1 : -128 ≤ n) (h2 : n ≤ 127) : IntKind.i8.wrap n = n := by
  show IntKind.i8.wrap n = n
  unfold IntKind.wrap
  simp [IntKind.bits, IntKind.signed]
  omega
theorem ccs_len (c : List Cl) : (c.map encCl).flatten.length = c.length * 3 := by
  induction c with
  | nil => rfl
  | cons x c ih => simp only [List.map_cons, List.flatten_cons, List.length_append, ih, encCl, List.length_cons, List.length_nil]; omega
theorem chunk_ccs (c : List Cl) (y : Cl) : chunk 3 (c.length + 1) ((c.map encCl).flatten ++ encCl y) = c.map encCl ++ [encCl y] := by
  have h := chunk_three (c.map encCl ++ [encCl y]) (fun x hx => by
    rcases List.mem_append.1 hx with hx | hx
    · obtain ⟨z, _, rfl⟩ := List.mem_map.1 hx; rfl
    · rw [List.mem_singleton.1 hx]; rfl)
  rw [List.length_append, List.length_map, List.flatten_append] at h
  simpa using h
theorem ccs_one (c : List Cl) : ∀ (x : Cl), x ∈ c → ∀ (x_1 : D), x_1 ∈ encCl x → one (AV.d x_1) = true := fun x _ d hd => by
  simp only [encCl, List.mem_cons, List.not_mem_nil, or_false] at hd
  rcases hd with rfl | rfl | rfl <;> rfl
theorem gsz {i e n : Nat} (hi : i ≤ 3) (hn : n ≤ 16) : i * (16 * (2 ^ 2 * 2 ^ e)) + n * (2 ^ 2 * 2 ^ e) ≤ 2 ^ (e + 20) := by
  rw [pw_mul, ← Nat.mul_assoc, ← Nat.add_mul, show e + 20 = 18 + (2 + e) by omega]
  exact pw_len (Nat.le_trans (show i * 16 + n ≤ 100 by omega) (by decide))
set_option maxHeartbeats 4000000 in
set_option maxRecDepth 10000 in
theorem r26Grown {e : Nat} (c : List Cl) (x0 x1 x2 x3 : Int) (cyc : List (List (Int × Int))) (hx0 : -128 ≤ x0 ∧ x0 ≤ 127) (hx1 : -128 ≤ x1 ∧ x1 ≤ 127) (hx2 : -128 ≤ x2 ∧ x2 ≤ 127) (hx3 : -128 ≤ x3 ∧ x3 ≤ 127) (hl : c.length ≤ 100)
    (hid : ∀ y ∈ c, -1000 ≤ y.id ∧ y.id ≤ 1000) (hS : Spec Tryz.prog 64 [encX c, .i .i64 (gDim x0 - 1)] (encCh cyc)) (hcl : cyc.length ≤ 100) (hb : ∀ y ∈ cyc, Bnd (2 ^ e) y) (hyl : ∀ y ∈ cyc, y.length ≤ 16) (he : e + 20 < 4398046511104) :
    Spec Tryz.prog 37 [encX c, .ag [.i .i8 x0, .i .i8 x1, .i .i8 x2, .i .i8 x3]] (encX (grown c x0 x1 x2 x3 cyc)) := by
  have hu : IntKind.u8.wrap x0 = x0 % 256 := wrap_u8m x0
  have hr : (x0 % 256).tmod 4 = gDim x0 := by
    rw [Int.tmod_eq_emod_of_nonneg (by omega)]; rfl
  have hd : 0 ≤ gDim x0 ∧ gDim x0 ≤ 3 := by unfold gDim; omega
  have hu2 : IntKind.u8.wrap (gDim x0) = gDim x0 := by rw [wrap_u8m]; omega
  have hw1 : IntKind.i64.wrap (gDim x0) = gDim x0 := wrap_i64 (by omega) (by omega)
  have hw2 : IntKind.i64.wrap (gDim x0 - 1) = gDim x0 - 1 := wrap_i64 (by omega) (by omega)
  obtain ⟨xs, hxs⟩ : ∃ l, [x0, x1, x2, x3] = l := ⟨_, rfl⟩
  have hgs := gB_sz (xs := xs) hb hyl
  have hfin : encX (grown c x0 x1 x2 x3 cyc) = .sl (c.map encCl ++ [encCl ⟨gId c x0, gDim x0, gB cyc xs (min 3 cyc.length)⟩]) := by unfold grown encX; rw [hxs, List.map_append]; rfl
  rw [hfin]
  clear hfin
  generalize hdd : gDim x0 = d at *
  obtain ⟨bb, hbe⟩ : ∃ b, gB cyc xs (min 3 cyc.length) = b := ⟨_, rfl⟩
  obtain ⟨gi, hgi⟩ : ∃ b, gId c x0 = b := ⟨_, rfl⟩
  rw [hbe, hgi]
  refine spec_of (N := 71) follows_mixed Tryz.func37 rfl rfl rfl (by kernel_rfl) (by kernel_rfl) (by simp) ?_
  simp (config := { maxSteps := 1000000 }) [-List.map_map, -List.mapM_map, ↓KW, encX, hu, hr, hu2, hw1]
  refine callP_intro (ds := [encX c, .i .i64 (d - 1)]) (by rw [hw2]; rfl) hS ?_
  simp (config := { maxSteps := 1000000 }) [-List.map_map, -List.mapM_map, ↓KW, encX, encCh]
  refine loopP_inv (fun y : Nat × List (Int × Int) => y.1 ≤ min 3 cyc.length ∧ gB cyc xs y.1 = y.2) (fun y => StL [(0, .d (encX c)), (3, .ptr 1 0), (5, .d (.i .i64 d)), (6, .d (encC y.2)), (7, .d (.i .i64 1)), (8, .d (encCh cyc)), (9, .d (.i .i64 (y.1 : Int)))] none [.cells 78 [.d (.i .i8 x0), .d (.i .i8 x1), .d (.i .i8 x2), .d (.i .i8 x3)]]) (fun y => 3 - y.1) (0, []) ⟨Nat.zero_le _, rfl⟩ ?_ ?_
  · refine wk_l [1] (by simp) ?_ ?_
    · simp [-List.map_map, upd, inj1, Γ0, encX, encCh, encC, gB]
      exact sub_frz (by simp [frz_own, upd, chunk_0]) (fun a ha id h => by
        simp [upd] at ha
        by_cases e : id = 1
        · subst e; rw [ha]; show (1 : Nat) ≠ 2; decide
        · simp [blkF, upd, e] at h)
    · simp [-List.map_map, upd, inj1, Γ0, encX, encCh]
  · rintro ⟨i, o⟩ ⟨hi, ho⟩
    simp only at hi ho ⊢
    have hgs0 := hgs i (by omega) (by omega)
    rw [ho] at hgs0
    by_cases hgo : i < cyc.length ∧ i < 3
    · have q1 : (i : Int) < cyc.length := by omega
      have q3 : (i : Int) < 3 := by omega
      have g1 := hgo.1
      have g2 := hgo.2
      have a1 : (0 : Int) ≤ (i : Int) + 1 := by omega
      have a2 : (i : Int) + 1 < 4 := by omega
      have a3 : i + 1 + 1 ≤ 4 := by omega
      have a4 : i + 1 < 4 := by omega
      have a5 : i ≤ 2 := by omega
      refine (show ∃ q, xs.getD (i + 1) 0 = q from ⟨_, rfl⟩).elim fun q hq => ?_
      have hrd : List.take 1 (List.drop i [AV.d (.i .i8 x1), AV.d (.i .i8 x2), AV.d (.i .i8 x3)]) = [AV.d (.i .i8 q)] := by
        rw [← hq, ← hxs]
        rcases i with _ | _ | _ | i
        · rfl
        · rfl
        · rfl
        · omega
      have hre : ∀ h : i < [AV.d (.i .i8 x1), AV.d (.i .i8 x2), AV.d (.i .i8 x3)].length, [AV.d (.i .i8 x1), AV.d (.i .i8 x2), AV.d (.i .i8 x3)][i]'h = AV.d (.i .i8 q) := fun h => by
        subst hq; subst hxs
        rcases i with _ | _ | _ | i
        · rfl
        · rfl
        · rfl
        · omega
      have t1 := (tmod4 q).1
      have t2 := (tmod4 q).2.1
      have t3 := (tmod4 q).2.2
      have hw8 : IntKind.i8.wrap (q.tmod 4) = q.tmod 4 := wrap_i8s (by omega) (by omega)
      have hw : IntKind.i64.wrap ((i : Int) + 1) = (i : Int) + 1 := wrap_i64 (by omega) (by omega)
      have hwt : IntKind.i64.wrap (q.tmod 4) = q.tmod 4 := wrap_i64 (by omega) (by omega)
      have hof := r01Of (q.tmod 4) (by omega) (by omega)
      have hgy : cyc[i]? = some (cyc.getD i []) := by rw [List.getD_eq_getElem?_getD, List.getElem?_eq_getElem g1]; rfl
      have hyb := hb _ (List.mem_of_getElem? hgy)
      have hyl1 := hyl _ (List.mem_of_getElem? hgy)
      have hnx : gB cyc xs (i + 1) = addR o (mulR (q.tmod 4) (cyc.getD i [])) := by rw [gB, hq, ho]
      clear ho hgs
      refine (show ∃ y, cyc.getD i [] = y from ⟨_, rfl⟩).elim fun y hye => ?_
      rw [hye] at hgy hyb hyl1 hnx
      have hgy' : ∀ h : i < cyc.length, cyc[i]'h = y := fun h => Option.some.inj ((List.getElem?_eq_getElem h).symm.trans hgy)
      refine (show ∃ z, q.tmod 4 = z from ⟨_, rfl⟩).elim fun z hz => ?_
      rw [hz] at t1 t2 t3 hw8 hwt hof hnx
      have hA := r26Add o y z _ (2 ^ e) (2 ^ 2) hgs0.1 hyb t1 (digE (gsz (by omega) hyl1) he) (digE (by rw [pw_mul]; exact pw_le (show 2 + e ≤ e + 20 by omega)) he) (digE (pw_le (show 2 ≤ e + 20 by omega)) he) (digE (pw_le (show e ≤ e + 20 by omega)) he) (by omega)
      simp (config := { maxSteps := 1000000 }) [-List.map_map, -List.mapM_map, ↓KW, encX, encCh, g1, g2, q1, q3, a1, a2, a3, a4, a5, hgy, hgy', hwt, hw8, hw, hrd, hre, hz]
      refine callP_intro (ds := [.i .i64 z]) (by rfl) hof ?_
      simp (config := { maxSteps := 1000000 }) [-List.map_map, -List.mapM_map, ↓KW, encZ_eq, encC, cellsA_encM, one_encM, inj1_encM, inj_encM, kills_encM]
      refine callP_intro (ds := [encC o, encC y, encZ z]) (by rfl) hA ?_
      simp (config := { maxSteps := 1000000 }) [-List.map_map, -List.mapM_map, ↓KW, encC, hw]
      refine nxt_intro (i + 1, addR o (mulR z y)) ⟨by simp only; omega, hnx⟩ (by simp only; omega) (wk_l [1] (by simp) ?_ ?_) <;> simp [-List.map_map, upd, inj1, Γ0, encX, encCh, encC]
    · have hmin : min 3 cyc.length = i := by omega
      have hob : bb = o := by rw [← hbe, hmin, ho]
      clear hgs0 hgs hS hb hyl ho hmin hi hbe
      have hfl : (c.map encCl).flatten.length = c.length * 3 := ccs_len c
      have hok := okHead_encX c
      have hfin : ∀ y : Cl, chunk 3 (c.length + 1) ((c.map encCl).flatten ++ encCl y) = c.map encCl ++ [encCl y] := chunk_ccs c
      have hr2 : (x0 % 256).tdiv 128 = x0 % 256 / 128 := Int.tdiv_eq_ediv_of_nonneg (by omega)
      refine (show ∃ u, x0 % 256 / 128 = u from ⟨_, rfl⟩).elim fun u hue => ?_
      have hu3 : IntKind.u8.wrap u = u := by rw [wrap_u8m]; omega
      have hu4 : IntKind.i64.wrap u = u := wrap_i64 (by omega) (by omega)
      have hub : 0 ≤ u ∧ u ≤ 1 := by omega
      rw [hue] at hr2
      have b1 : (c.length + 1) * 40 ≤ 140737488355328 := by omega
      have b2 : c.length * 40 ≤ 140737488355328 := by omega
      have b3 : c.length + 1 ≤ maxLen := le_maxLen (by omega)
      have b4 : c.length ≤ maxLen := le_maxLen (by omega)
      have key : ∀ (gi : Int) (sl : Nat → AV), True := fun _ _ => trivial
      by_cases g1 : i < cyc.length
      · have g2 : ¬ i < 3 := fun h => hgo ⟨g1, h⟩
        have q1 : (i : Int) < cyc.length := by omega
        have q3 : ¬ (i : Int) < 3 := by omega
        by_cases hc0 : 0 < c.length
        · have hc0' : (0 : Int) < c.length := by omega
          refine (show ∃ y, c[c.length - 1]? = some y from ⟨c[c.length - 1], List.getElem?_eq_getElem (by omega)⟩).elim fun y hy => ?_
          have hgy : c.getLast? = some y := by rw [List.getLast?_eq_getElem?]; exact hy
          have hgi2 : gi = y.id + 1 + u := by rw [← hgi, ← hue]; unfold gId; rw [hgy]
          have hyb := hid y (List.mem_of_getElem? hy)
          have hw5 : IntKind.i64.wrap ((c.length : Int) - 1) = ((c.length - 1 : Nat) : Int) := by rw [wrap_i64 (by omega) (by omega)]; omega
          have hw6 : IntKind.i64.wrap (y.id + 1) = y.id + 1 := wrap_i64 (by omega) (by omega)
          have hw7 : IntKind.i64.wrap (y.id + 1 + u) = y.id + 1 + u := wrap_i64 (by omega) (by omega)
          have hf2 : chunk 3 (c.length + 1) ((c.map encCl).flatten ++ [D.i .i64 (y.id + 1 + u), .i .i64 d, encC o]) = c.map encCl ++ [[D.i .i64 (y.id + 1 + u), .i .i64 d, encC o]] := hfin ⟨y.id + 1 + u, d, o⟩
          have hyc : encCl y = [D.i .i64 y.id, .i .i64 y.dim, encC y.b] := rfl
          have hec : encCl ⟨y.id + 1 + u, d, o⟩ = [D.i .i64 (y.id + 1 + u), .i .i64 d, encC o] := rfl
          have hfl2 : ((c.map encCl).flatten.map AV.d).length = c.length * 3 := by rw [List.length_map]; exact hfl
          have hfl3 : ¬ c.length * 3 = 0 := by omega
          have hcn : ¬ c.length = 0 := by omega
          have hone : (∀ (x : Cl), x ∈ c → ∀ (x_1 : D), x_1 ∈ encCl x → one (AV.d x_1) = true) ↔ True := ⟨fun _ => trivial, fun _ => ccs_one c⟩
          refine (show ∃ fl, (c.map encCl).flatten = fl from ⟨_, rfl⟩).elim fun fl hfe => ?_
          have hfm : (List.map (List.map AV.d) (List.map encCl c)).flatten = fl.map AV.d := by rw [← hfe, List.map_flatten]
          have hl1 : fl.length = c.length * 3 := by rw [← hfe]; exact hfl
          have hf3 : chunk 3 (c.length + 1) (fl ++ [D.i .i64 (y.id + 1 + u), .i .i64 d, encC o]) = c.map encCl ++ [[D.i .i64 (y.id + 1 + u), .i .i64 d, encC o]] := by rw [← hfe]; exact hf2
          simp (config := { maxSteps := 1000000 }) [-List.map_map, -List.mapM_map, ↓KW, encX, encCh, q1, q3, hob, hc0, hc0', hw5, hy, hyc, hu, hr2, hu3, hu4, hw6, hw7]
          simp (config := { maxSteps := 1000000 }) [-List.map_map, -List.mapM_map, ↓KW, hok, hone, hfm, hl1, hfl3, hcn, hf3, b1, b2, b3, b4, one_encC, cellsA_encC, inj1_encC]
          refine ⟨by omega, fl ++ [D.i .i64 (y.id + 1 + u), .i .i64 d, encC o], ?_, ?_⟩
          · rw [List.take_of_length_le (by simp; omega), show List.map AV.d fl ++ [AV.d (D.i IntKind.i64 (y.id + 1 + u)), AV.d (D.i IntKind.i64 d), AV.d (encC o)] = (fl ++ [D.i .i64 (y.id + 1 + u), .i .i64 d, encC o]).map AV.d by simp]
            exact mapM_d _ 6 _
          · rw [hf3, hgi2, hob, hec]
        · have hc0' : ¬ (0 : Int) < c.length := by omega
          have hce : c = [] := List.eq_nil_of_length_eq_zero (by omega)
          subst hce
          have hgi2 : gi = 1 := by rw [← hgi]; rfl
          have hm1 : (1 : Nat) ≤ maxLen := le_maxLen (by decide)
          have hec : encCl ⟨1, d, o⟩ = [D.i .i64 1, .i .i64 d, encC o] := rfl
          simp (config := { maxSteps := 1000000 }) [-List.map_map, -List.mapM_map, ↓KW, encX, encCh, q1, q3, hob, hm1, one_encC, cellsA_encC, inj1_encC]
          simp (config := { maxSteps := 1000000 }) [-List.map_map, -List.mapM_map, ↓KW, hgi2, hec]
      · have q1 : ¬ (i : Int) < cyc.length := by omega
        by_cases hc0 : 0 < c.length
        · have hc0' : (0 : Int) < c.length := by omega
          refine (show ∃ y, c[c.length - 1]? = some y from ⟨c[c.length - 1], List.getElem?_eq_getElem (by omega)⟩).elim fun y hy => ?_
          have hgy : c.getLast? = some y := by rw [List.getLast?_eq_getElem?]; exact hy
          have hgi2 : gi = y.id + 1 + u := by rw [← hgi, ← hue]; unfold gId; rw [hgy]
          have hyb := hid y (List.mem_of_getElem? hy)
          have hw5 : IntKind.i64.wrap ((c.length : Int) - 1) = ((c.length - 1 : Nat) : Int) := by rw [wrap_i64 (by omega) (by omega)]; omega
          have hw6 : IntKind.i64.wrap (y.id + 1) = y.id + 1 := wrap_i64 (by omega) (by omega)
          have hw7 : IntKind.i64.wrap (y.id + 1 + u) = y.id + 1 + u := wrap_i64 (by omega) (by omega)
          have hf2 : chunk 3 (c.length + 1) ((c.map encCl).flatten ++ [D.i .i64 (y.id + 1 + u), .i .i64 d, encC o]) = c.map encCl ++ [[D.i .i64 (y.id + 1 + u), .i .i64 d, encC o]] := hfin ⟨y.id + 1 + u, d, o⟩
          have hyc : encCl y = [D.i .i64 y.id, .i .i64 y.dim, encC y.b] := rfl
          have hec : encCl ⟨y.id + 1 + u, d, o⟩ = [D.i .i64 (y.id + 1 + u), .i .i64 d, encC o] := rfl
          have hfl2 : ((c.map encCl).flatten.map AV.d).length = c.length * 3 := by rw [List.length_map]; exact hfl
          have hfl3 : ¬ c.length * 3 = 0 := by omega
          have hcn : ¬ c.length = 0 := by omega
          have hone : (∀ (x : Cl), x ∈ c → ∀ (x_1 : D), x_1 ∈ encCl x → one (AV.d x_1) = true) ↔ True := ⟨fun _ => trivial, fun _ => ccs_one c⟩
          refine (show ∃ fl, (c.map encCl).flatten = fl from ⟨_, rfl⟩).elim fun fl hfe => ?_
          have hfm : (List.map (List.map AV.d) (List.map encCl c)).flatten = fl.map AV.d := by rw [← hfe, List.map_flatten]
          have hl1 : fl.length = c.length * 3 := by rw [← hfe]; exact hfl
          have hf3 : chunk 3 (c.length + 1) (fl ++ [D.i .i64 (y.id + 1 + u), .i .i64 d, encC o]) = c.map encCl ++ [[D.i .i64 (y.id + 1 + u), .i .i64 d, encC o]] := by rw [← hfe]; exact hf2
          simp (config := { maxSteps := 1000000 }) [-List.map_map, -List.mapM_map, ↓KW, encX, encCh, q1, hob, hc0, hc0', hw5, hy, hyc, hu, hr2, hu3, hu4, hw6, hw7]
          simp (config := { maxSteps := 1000000 }) [-List.map_map, -List.mapM_map, ↓KW, hok, hone, hfm, hl1, hfl3, hcn, hf3, b1, b2, b3, b4, one_encC, cellsA_encC, inj1_encC]
          refine ⟨by omega, fl ++ [D.i .i64 (y.id + 1 + u), .i .i64 d, encC o], ?_, ?_⟩
          · rw [List.take_of_length_le (by simp; omega), show List.map AV.d fl ++ [AV.d (D.i IntKind.i64 (y.id + 1 + u)), AV.d (D.i IntKind.i64 d), AV.d (encC o)] = (fl ++ [D.i .i64 (y.id + 1 + u), .i .i64 d, encC o]).map AV.d by simp]
            exact mapM_d _ 6 _
          · rw [hf3, hgi2, hob, hec]
        · have hc0' : ¬ (0 : Int) < c.length := by omega
          have hce : c = [] := List.eq_nil_of_length_eq_zero (by omega)
          subst hce
          have hgi2 : gi = 1 := by rw [← hgi]; rfl
          have hm1 : (1 : Nat) ≤ maxLen := le_maxLen (by decide)
          have hec : encCl ⟨1, d, o⟩ = [D.i .i64 1, .i .i64 d, encC o] := rfl
          simp (config := { maxSteps := 1000000 }) [-List.map_map, -List.mapM_map, ↓KW, encX, encCh, q1, hob, hm1, one_encC, cellsA_encC, inj1_encC]
          simp (config := { maxSteps := 1000000 }) [-List.map_map, -List.mapM_map, ↓KW, hgi2, hec]
end Go.Am
end

section
set_option linter.unusedVariables false
set_option linter.unusedSimpArgs false
open Go Go.Am Go.Proofs
namespace Go.Am
set_option linter.unusedSimpArgs false
set_option linter.unusedVariables false
/-! Weights -/
def wsum (w : Int → Int) : List (Int × Int) → Int
  | [] => 0
  | x :: l => x.2 * w x.1 + wsum w l
theorem wsum_app (w : Int → Int) : ∀ a b : List (Int × Int), wsum w (a ++ b) = wsum w a + wsum w b
  | [], b => by simp [wsum]
  | x :: a, b => by
    have := wsum_app w a b
    simp only [List.cons_append, wsum, this]; omega
theorem wsum_insA (w : Int → Int) (id z : Int) : ∀ l : List (Int × Int), wsum w (insA id z l) = wsum w l + z * w id
  | [] => by simp [insA, wsum]
  | x :: l => by
    rw [insA]
    by_cases h1 : x.1 > id
    · rw [if_pos h1]; simp only [wsum]; omega
    · rw [if_neg h1]
      by_cases h2 : x.1 = id
      · rw [if_pos h2]
        by_cases h3 : x.2 + z = 0
        · rw [if_pos h3]
          have : x.2 * w x.1 + z * w id = 0 := by rw [h2, ← Int.add_mul, h3, Int.zero_mul]
          simp only [wsum]; omega
        · rw [if_neg h3]; simp only [wsum]; rw [h2, Int.add_mul]; omega
      · rw [if_neg h2]; simp only [wsum]; rw [wsum_insA w id z l]; omega
theorem wsum_insR (w : Int → Int) (l : List (Int × Int)) (f : Int × Int) : wsum w (insR l f) = wsum w l + f.2 * w f.1 := by
  obtain ⟨id, z⟩ := f
  rw [insR_eq]
  by_cases h : z = 0
  · rw [if_pos h, h]; simp
  · rw [if_neg h, wsum_insA]
theorem wsum_addR (w : Int → Int) : ∀ b a : List (Int × Int), wsum w (addR a b) = wsum w a + wsum w b
  | [], a => by simp [addR, wsum]
  | f :: b, a => by
    show wsum w (addR (insR a f) b) = _
    rw [wsum_addR w b, wsum_insR]; simp only [wsum]; omega
theorem wsum_mulR (w : Int → Int) (k : Int) : ∀ b : List (Int × Int), wsum w (mulR k b) = k * wsum w b
  | [] => by simp [mulR, wsum]
  | f :: b => by
    have ih := wsum_mulR w k b
    show k * f.2 * w f.1 + wsum w (mulR k b) = k * (f.2 * w f.1 + wsum w b)
    rw [ih, Int.mul_add, Int.mul_assoc]
theorem wsum_congr {w w' : Int → Int} : ∀ {l : List (Int × Int)}, (∀ x ∈ l, w x.1 = w' x.1) → wsum w l = wsum w' l
  | [], _ => rfl
  | x :: l, h => by
    simp only [wsum]
    rw [h x (List.mem_cons_self ..), wsum_congr fun y hy => h y (List.mem_cons_of_mem _ hy)]
theorem cf_none {n : Int} : ∀ {l : List (Int × Int)}, (∀ x ∈ l, x.1 ≠ n) → cf n l = 0
  | [], _ => rfl
  | x :: l, h => by
    simp only [cf]
    rw [if_neg fun e => h x (List.mem_cons_self ..) e.symm, cf_none fun y hy => h y (List.mem_cons_of_mem _ hy)]; rfl
/-- The boundary of a chain, its coefficient of a cell. -/
theorem cf_bdL (c : List Cl) (n : Int) : ∀ y : List (Int × Int), cf n (bdL c y) = wsum (fun m => cf n (bOf c m)) y
  | [] => rfl
  | f :: y => by
    show cf n (mulR f.2 (bOf c f.1) ++ bdL c y) = _
    rw [cf_app, cf_mulR, cf_bdL c n y]; rfl
theorem sgm_head (n : Nat) (f : Nat → Int) : sgm (n + 1) f = f 0 + sgm n fun j => f (j + 1) := by
  induction n with
  | zero => show 0 + f 0 = f 0 + 0; omega
  | succ n ih =>
    show sgm (n + 1) f + f (n + 1) = f 0 + (sgm n (fun j => f (j + 1)) + f (n + 1))
    rw [ih]; omega
theorem wsum_zip (w : Int → Int) : ∀ (ids v : List Int), ids.length = v.length → wsum w (ids.zip v) = sgm ids.length fun j => v.getD j 0 * w (ids.getD j 0)
  | [], [], _ => rfl
  | [], _ :: _, h => by simp at h
  | _ :: _, [], h => by simp at h
  | i :: ids, z :: v, h => by
    have ih := wsum_zip w ids v (by simpa using h)
    rw [List.zip_cons_cons, List.length_cons, sgm_head]
    simp only [wsum, ih]; rfl
/-! Sizes of valid chains -/
theorem getM_of_mem : ∀ {l : List (Int × Int)} {x : Int × Int}, Val l → x ∈ l → getM l x.1 = x.2
  | y :: l, x, h, hx => by
    obtain ⟨h1, h2, _⟩ := h.tail
    rw [getM_cons]
    rcases List.mem_cons.1 hx with rfl | hx
    · rw [if_pos rfl]
    · rw [if_neg (by have := h2 x hx; omega), getM_of_mem h1 hx]
theorem bnd_of_getM {l : List (Int × Int)} {M : Nat} (h : Val l) (hb : ∀ n, (getM l n).natAbs ≤ M) : Bnd M l := fun x hx => by
  rw [← getM_of_mem h hx]; exact hb _
theorem mem_of_getM {l : List (Int × Int)} {n : Int} (h : getM l n ≠ 0) : ∃ x ∈ l, x.1 = n := Classical.byContradiction fun hn => h (getM_zero fun y hy e => hn ⟨y, hy, e⟩)
theorem getM_bnd' {M : Nat} {l : List (Int × Int)} (h : Bnd M l) (n : Int) : (getM l n).natAbs ≤ M := getM_bnd h n
theorem lin_vbnd {a b : List (Int × Int)} {k : Int} {A M K : Nat} (ha : Val a) (hb : Val b) (bA : Bnd A a) (bM : Bnd M b) (hk : k.natAbs ≤ K) : Bnd (A + K * M) (addR a (mulR k b)) := by
  obtain ⟨h1, h2⟩ := lin_val ha hb k
  refine bnd_of_getM h1 fun n => ?_
  show (getM (lin a b k) n).natAbs ≤ _
  rw [h2 n]
  have e1 := getM_bnd' bA n
  have e2 := Nat.mul_le_mul hk (getM_bnd' bM n)
  have e3 := Int.natAbs_add_le (getM a n) (k * getM b n)
  rw [Int.natAbs_mul] at e3
  omega
theorem lin_keys' {a b : List (Int × Int)} {k : Int} {S : Int → Prop} (ha : Val a) (hb : Val b) (ka : ∀ x ∈ a, S x.1) (kb : ∀ x ∈ b, S x.1) : ∀ x ∈ addR a (mulR k b), S x.1 := fun x hx => by
  obtain ⟨h1, h2⟩ := lin_val ha hb k
  have e := getM_of_mem (l := lin a b k) h1 hx
  rw [h2] at e
  have hne : x.2 ≠ 0 := h1.2 x hx
  by_cases h : getM a x.1 = 0
  · have : getM b x.1 ≠ 0 := fun h' => by rw [h, h', Int.mul_zero] at e; exact hne e.symm
    obtain ⟨y, hy, e2⟩ := mem_of_getM this
    rw [← e2]; exact kb y hy
  · obtain ⟨y, hy, e2⟩ := mem_of_getM h
    rw [← e2]; exact ka y hy
theorem cf_zip_bnd {M : Nat} (n : Int) : ∀ (ids v : List Int), ids.Pairwise (· < ·) → (∀ z ∈ v, z.natAbs ≤ M) → (cf n (ids.zip v)).natAbs ≤ M ∧ (cf n (ids.zip v) ≠ 0 → n ∈ ids)
  | [], v, _, _ => by simp [cf]
  | i :: ids, [], _, _ => by simp [cf]
  | i :: ids, z :: v, hp, hv => by
    obtain ⟨h1, h2⟩ := List.pairwise_cons.1 hp
    obtain ⟨h3, h4⟩ := cf_zip_bnd n ids v h2 fun y hy => hv y (List.mem_cons_of_mem _ hy)
    rw [List.zip_cons_cons]
    simp only [cf]
    by_cases e : n = i
    · have hz : cf n (ids.zip v) = 0 := cf_none fun x hx e2 => by
        have := h1 _ (List.of_mem_zip hx).1; omega
      rw [if_pos e, hz, Int.add_zero]
      exact ⟨hv z (List.mem_cons_self ..), fun _ => by rw [e]; exact List.mem_cons_self ..⟩
    · rw [if_neg e, Int.zero_add]
      exact ⟨h3, fun h => List.mem_cons_of_mem _ (h4 h)⟩
/-- A chain of a row. -/
theorem chain_of {ids v : List Int} {M : Nat} (hp : ids.Pairwise (· < ·)) (hv : ∀ z ∈ v, z.natAbs ≤ M) : Val (addR [] (ids.zip v)) ∧ Bnd M (addR [] (ids.zip v)) ∧ (∀ x ∈ addR [] (ids.zip v), x.1 ∈ ids) ∧ (addR [] (ids.zip v)).length ≤ ids.length ∧ ∀ n, getM (addR [] (ids.zip v)) n = cf n (ids.zip v) := by
  obtain ⟨h1, h2⟩ := addR_val (ids.zip v) [] Val.nil
  have h3 : ∀ n, getM (addR [] (ids.zip v)) n = cf n (ids.zip v) := fun n => by rw [h2 n, getM_nil, Int.zero_add]
  refine ⟨h1, bnd_of_getM h1 fun n => by rw [h3]; exact (cf_zip_bnd n ids v hp hv).1, fun x hx => ?_, ?_, h3⟩
  · have e := getM_of_mem h1 hx
    rw [h3] at e
    exact (cf_zip_bnd x.1 ids v hp hv).2 (by rw [e]; exact h1.2 x hx)
  · have := addR_len [] (ids.zip v)
    rw [List.length_zip] at this
    simp only [List.length_nil] at this; omega
/-! Cells of a dimension -/
theorem Inc.ids {c : List Cl} (h : Inc c) (k : Int) : (idsX c k).Pairwise (· < ·) := by
  unfold idsX
  rw [List.pairwise_map]
  exact (List.Pairwise.filter _ h)
theorem mem_idsX {c : List Cl} {k n : Int} : n ∈ idsX c k ↔ ∃ x ∈ c, x.dim = k ∧ x.id = n := by
  unfold idsX
  rw [List.mem_map]
  constructor
  · rintro ⟨x, hx, e⟩
    obtain ⟨h1, h2⟩ := List.mem_filter.1 hx
    exact ⟨x, h1, of_decide_eq_true h2, e⟩
  · rintro ⟨x, h1, h2, e⟩
    exact ⟨x, List.mem_filter.2 ⟨h1, decide_eq_true h2⟩, e⟩
theorem idsX_app (c : List Cl) (x : Cl) (k : Int) : idsX (c ++ [x]) k = idsX c k ++ if x.dim = k then [x.id] else [] := by
  unfold idsX
  rw [List.filter_append, List.map_append]
  congr 1
  by_cases e : x.dim = k <;> simp [e]
theorem findX_app {c : List Cl} {x : Cl} {n : Int} (h : n ≠ x.id) : findX (c ++ [x]) n = findX c n := by
  unfold findX
  rw [List.find?_append]
  have : [x].find? (fun y => decide (y.id = n)) = none := by simp; exact fun e => h e.symm
  rw [this, Option.or_none]
theorem bOf_app {c : List Cl} {x : Cl} {n : Int} (h : n ≠ x.id) : bOf (c ++ [x]) n = bOf c n := by unfold bOf; rw [findX_app h]
/-- A valid complex. -/
structure CxV (c : List Cl) : Prop where
  inc : Inc c
  dim : ∀ x ∈ c, 0 ≤ x.dim ∧ x.dim ≤ 3
  val : ∀ x ∈ c, Val x.b
  face : ∀ x ∈ c, ∀ f ∈ x.b, ∃ y ∈ c, y.id = f.1 ∧ y.dim = x.dim - 1
  cyc : ∀ x ∈ c, ∀ n, wsum (fun m => cf n (bOf c m)) x.b = 0
theorem CxV.bOf {c : List Cl} (h : CxV c) {x : Cl} (hx : x ∈ c) : bOf c x.id = x.b := by unfold Go.Am.bOf; rw [h.inc.find hx]; rfl
theorem CxV.bval {c : List Cl} (h : CxV c) (n : Int) : Val (Go.Am.bOf c n) := by
  unfold Go.Am.bOf
  cases e : findX c n with
  | none => exact Val.nil
  | some x => exact h.val x (findX_some e).1
/-- A row that the boundary matrix takes to zero is a cycle. -/
theorem CxV.cycle {c : List Cl} (h : CxV c) {k : Int} {v : List Int} (hv : v.length = (idsX c k).length) (hz : ∀ t, t < (idsX c (k - 1)).length → sgm (idsX c k).length (fun j => v.getD j 0 * ent (matX c k) j t) = 0) (n : Int) :
    wsum (fun m => cf n (Go.Am.bOf c m)) (addR [] ((idsX c k).zip v)) = 0 := by
  rw [wsum_addR, wsum_zip _ _ _ hv.symm]
  show 0 + _ = (0 : Int)
  rw [Int.zero_add]
  have hrow : ∀ j, j < (idsX c k).length → ∃ x ∈ c, x.dim = k ∧ x.id = (idsX c k).getD j 0 := fun j hj => by
    rw [List.getD_eq_getElem?_getD, List.getElem?_eq_getElem hj]
    exact mem_idsX.1 (List.getElem_mem hj)
  by_cases hn : n ∈ idsX c (k - 1)
  · obtain ⟨t, ht, e⟩ := List.getElem_of_mem hn
    refine Eq.trans ?_ (hz t ht)
    refine sgm_congr fun j hj => ?_
    have : ent (matX c k) j t = cf n (Go.Am.bOf c ((idsX c k).getD j 0)) := by
      unfold ent
      rw [List.getD_eq_getElem?_getD (l := matX c k), matX_get (List.getElem?_eq_getElem hj), Option.getD_some, List.getD_eq_getElem?_getD, rowX_get (List.getElem?_eq_getElem ht), Option.getD_some, e, lv_getM (h.bval _), ← cf_getM (h.bval _)]
      rw [List.getD_eq_getElem?_getD, List.getElem?_eq_getElem hj]; rfl
    rw [this]
  · rw [sgm_congr (g := fun _ => 0) fun j hj => ?_, sgm_zero]
    obtain ⟨x, hx, hd, he⟩ := hrow j hj
    rw [← he, h.bOf hx, cf_none fun f hf e => ?_, Int.mul_zero]
    obtain ⟨y, hy, e1, e2⟩ := h.face x hx f hf
    exact hn (mem_idsX.2 ⟨y, hy, by omega, by omega⟩)
theorem matX_sh (c : List Cl) (k : Int) : Sh (idsX c k).length (idsX c (k - 1)).length (matX c k) := ⟨matX_len c k, fun v hv => by
  obtain ⟨n, _, rfl⟩ := List.mem_map.1 hv
  exact rowX_len _ _⟩
theorem matX_be {c : List Cl} {k : Int} {e : Nat} (hi : Inc c) (hb : ∀ x ∈ c, x.dim = k → Bnd (2 ^ e) x.b) : Be e (matX c k) := Be.of (matX_sh c k) fun r t hr ht => by
  unfold ent
  rw [List.getD_eq_getElem?_getD (l := matX c k), matX_get (List.getElem?_eq_getElem hr), Option.getD_some, List.getD_eq_getElem?_getD, rowX_get (List.getElem?_eq_getElem ht), Option.getD_some]
  obtain ⟨x, hx, hd, he⟩ := mem_idsX.1 (List.getElem_mem hr)
  rw [← he]
  have : bOf c x.id = x.b := by unfold bOf; rw [hi.find hx]; rfl
  rw [this]
  exact lv_bnd (hb x hx hd) _
end Go.Am
end

section
set_option linter.unusedVariables false
set_option linter.unusedSimpArgs false
open Go Go.Am Go.Proofs
namespace Go.Am
set_option linter.unusedSimpArgs false
set_option linter.unusedVariables false
def eD (d : Int) : Nat := if d = 1 then 4 else if d = 2 then 16777216 else if d = 3 then 549755944960 else 0
/-- A complex behind i rounds. -/
structure Gr (i : Nat) (c : List Cl) : Prop where
  v : CxV c
  len : c.length ≤ 7 + i
  n0 : (idsX c 0).length ≤ 3 + i
  n1 : (idsX c 1).length ≤ 3 + i
  n2 : (idsX c 2).length ≤ 2 + i
  ids : ∀ x ∈ c, 1 ≤ x.id ∧ x.id ≤ 9 + 2 * (i : Int)
  bl : ∀ x ∈ c, x.b.length ≤ 48
  eb : ∀ x ∈ c, Bnd (2 ^ eD x.dim) x.b
/-! The spaces -/
def grB (c : List Cl) : Prop := (c.Pairwise fun x y => x.id < y.id) ∧ (∀ x ∈ c, 0 ≤ x.dim ∧ x.dim ≤ 3) ∧ (∀ x ∈ c, x.b.Pairwise (fun x y => x.1 < y.1) ∧ ∀ y ∈ x.b, y.2 ≠ 0) ∧ (∀ x ∈ c, ∀ f ∈ x.b, ∃ y ∈ c, y.id = f.1 ∧ y.dim = x.dim - 1) ∧ (∀ x ∈ c, addR [] (bdL c x.b) = [])
  ∧ c.length ≤ 7 ∧ (idsX c 0).length ≤ 3 ∧ (idsX c 1).length ≤ 3 ∧ (idsX c 2).length ≤ 2 ∧ (∀ x ∈ c, 1 ≤ x.id ∧ x.id ≤ 9) ∧ (∀ x ∈ c, x.b.length ≤ 48) ∧ ∀ x ∈ c, x.b = [] ∨ (1 ≤ x.dim ∧ ∀ y ∈ x.b, y.2.natAbs ≤ 16)
instance (c : List Cl) : Decidable (grB c) := by unfold grB; infer_instance
theorem eD_ge {d : Int} (h1 : 1 ≤ d) (h3 : d ≤ 3) : 4 ≤ eD d := by
  unfold eD
  split
  · omega
  · split
    · omega
    · rw [if_pos (by omega)]; omega
theorem gr_of {c : List Cl} (h : grB c) : Gr 0 c := by
  obtain ⟨h1, h2, h3, h4, h5, h6, h7, h8, h9, h10, h11, h12⟩ := h
  refine ⟨⟨h1, h2, h3, h4, fun x hx n => ?_⟩, h6, h7, h8, h9, fun x hx => by have := h10 x hx; omega, h11, fun x hx => ?_⟩
  · rw [← cf_bdL]
    have := (addR_val (bdL c x.b) [] Val.nil).2 n
    rw [h5 x hx, getM_nil] at this; omega
  · rcases h12 x hx with h | ⟨h, h'⟩
    · rw [h]; exact Bnd.nil _
    · exact Bnd.mono (M := 16) h' (Nat.le_trans (show 16 ≤ 2 ^ 4 by decide) (pw_le (eD_ge h (h2 x hx).2)))
set_option maxRecDepth 100000 in
theorem spc_gr (j : Nat) (h : j < 14) : Gr 0 (spc j) := by
  refine gr_of ?_
  revert j
  decide
/-! One more cell -/
theorem gB_props {c : List Cl} {E : Nat} {cyc : List (List (Int × Int))} {xs : List Int} {S : Int → Prop} {W : Int → Int → Int} (hc : ∀ y ∈ cyc, Val y ∧ Bnd (2 ^ E) y ∧ (∀ f ∈ y, S f.1) ∧ ∀ n, wsum (W n) y = 0) :
    ∀ i, i ≤ cyc.length → Val (gB cyc xs i) ∧ Bnd (i * (2 ^ 2 * 2 ^ E)) (gB cyc xs i) ∧ (∀ f ∈ gB cyc xs i, S f.1) ∧ ∀ n, wsum (W n) (gB cyc xs i) = 0
  | 0, _ => ⟨Val.nil, Bnd.nil _, (fun f hf => absurd hf List.not_mem_nil), fun n => rfl⟩
  | i + 1, hi => by
    obtain ⟨h1, h2, h3, h4⟩ := gB_props (c := c) (xs := xs) hc i (by omega)
    have hm : cyc.getD i [] ∈ cyc := by rw [List.getD_eq_getElem?_getD, List.getElem?_eq_getElem (by omega)]; exact List.getElem_mem _
    obtain ⟨y1, y2, y3, y4⟩ := hc _ hm
    refine ⟨(lin_val h1 y1 _).1, ?_, lin_keys' h1 y1 h3 y3, fun n => ?_⟩
    · rw [Nat.succ_mul]
      exact lin_vbnd h1 y1 h2 y2 (tmod4 _).1
    · show wsum (W n) (addR (gB cyc xs i) (mulR _ (cyc.getD i []))) = 0
      rw [wsum_addR, wsum_mulR, h4, y4]; simp
theorem gId_gt {c : List Cl} {x0 : Int} (h : Inc c) : ∀ x ∈ c, x.id < gId c x0 := fun x hx => by
  unfold gId
  cases e : c.getLast? with
  | none => rw [List.getLast?_eq_none_iff] at e; rw [e] at hx; cases hx
  | some y =>
    obtain ⟨ys, hy⟩ := List.getLast?_eq_some_iff.1 e
    have : x.id ≤ y.id := by
      rw [hy] at hx h
      rcases List.mem_append.1 hx with hx | hx
      · exact Int.le_of_lt ((List.pairwise_append.1 h).2.2 x hx y (List.mem_singleton_self _))
      · rw [List.mem_singleton.1 hx]; exact Int.le_refl _
    simp only; omega
theorem gId_le {c : List Cl} {x0 m : Int} (h : ∀ x ∈ c, 1 ≤ x.id ∧ x.id ≤ m) (hm : 0 ≤ m) : 1 ≤ gId c x0 ∧ gId c x0 ≤ m + 2 := by
  unfold gId
  cases e : c.getLast? with
  | none => simp only; omega
  | some y =>
    have := h y (List.mem_of_getLast? e)
    simp only; omega
theorem grow {i E : Nat} {c : List Cl} {x0 x1 x2 x3 : Int} {cyc : List (List (Int × Int))} (g : Gr i c) (hc : ∀ y ∈ cyc, Val y ∧ Bnd (2 ^ E) y ∧ (∀ f ∈ y, f.1 ∈ idsX c (gDim x0 - 1)) ∧ ∀ n, wsum (fun m => cf n (bOf c m)) y = 0) (hl : ∀ y ∈ cyc, y.length ≤ 16)
    (hE : cyc = [] ∨ E + 4 ≤ eD (gDim x0)) : Gr (i + 1) (grown c x0 x1 x2 x3 cyc) := by
  obtain ⟨b1, b2, b3, b4⟩ := gB_props (c := c) (xs := [x0, x1, x2, x3]) hc (min 3 cyc.length) (by omega)
  have b5 : (gB cyc [x0, x1, x2, x3] (min 3 cyc.length)).length ≤ 48 := by
    have := (gB_sz (e := E) (xs := [x0, x1, x2, x3]) (fun y hy => (hc y hy).2.1) hl (min 3 cyc.length) (by omega) (by omega)).2
    omega
  have b6 : Bnd (2 ^ eD (gDim x0)) (gB cyc [x0, x1, x2, x3] (min 3 cyc.length)) := by
    rcases hE with h | h
    · subst h; exact Bnd.nil _
    · refine b2.mono (Nat.le_trans ?_ (pw_le h))
      rw [pw_mul, show E + 4 = 2 + (2 + E) by omega]
      exact pw_len (Nat.le_trans (show min 3 cyc.length ≤ 3 by omega) (by decide))
  unfold grown
  generalize gB cyc [x0, x1, x2, x3] (min 3 cyc.length) = b at *
  have hgt := gId_gt (x0 := x0) g.v.inc
  have hle := gId_le (x0 := x0) g.ids (by omega)
  have hd : 0 ≤ gDim x0 ∧ gDim x0 ≤ 3 := by unfold gDim; omega
  generalize gId c x0 = id at *
  generalize gDim x0 = d at *
  have hmem : ∀ n k, n ∈ idsX c k → n ≠ id := fun n k hn => by
    obtain ⟨y, hy, _, e⟩ := mem_idsX.1 hn
    have := hgt y hy; omega
  have hall : ∀ (P : Cl → Prop), (∀ x ∈ c, P x) → P ⟨id, d, b⟩ → ∀ x ∈ c ++ [⟨id, d, b⟩], P x := fun P h1 h2 x hx => by
    rcases List.mem_append.1 hx with hx | hx
    · exact h1 x hx
    · rw [List.mem_singleton.1 hx]; exact h2
  have hcnt : ∀ k m, (idsX c k).length ≤ m → (idsX (c ++ [⟨id, d, b⟩]) k).length ≤ m + 1 := fun k m h => by
    rw [idsX_app, List.length_append]; split <;> simp <;> omega
  refine ⟨⟨?_, hall _ g.v.dim hd, hall _ g.v.val b1, hall _ (fun x hx f hf => ?_) fun f hf => ?_, hall _ (fun x hx n => ?_) fun n => ?_⟩, ?_, hcnt 0 _ g.n0, hcnt 1 _ g.n1, hcnt 2 _ g.n2, hall _ (fun x hx => ?_) ?_, hall _ g.bl b5, hall _ g.eb b6⟩
  · refine List.pairwise_append.2 ⟨g.v.inc, List.pairwise_singleton _ _, fun x hx y hy => ?_⟩
    rw [List.mem_singleton.1 hy]; exact hgt x hx
  · obtain ⟨y, hy, e⟩ := g.v.face x hx f hf
    exact ⟨y, List.mem_append_left _ hy, e⟩
  · obtain ⟨y, hy, e1, e2⟩ := mem_idsX.1 (b3 f hf)
    exact ⟨y, List.mem_append_left _ hy, e2, e1⟩
  · rw [wsum_congr fun f hf => ?_]
    · exact g.v.cyc x hx n
    · obtain ⟨y, hy, e, _⟩ := g.v.face x hx f hf
      rw [bOf_app]
      have := hgt y hy
      show f.1 ≠ id; omega
  · rw [wsum_congr fun f hf => ?_]
    · exact b4 n
    · rw [bOf_app]; exact hmem _ _ (b3 f hf)
  · rw [List.length_append]; have := g.len; simp; omega
  · have := g.ids x hx; omega
  · show 1 ≤ id ∧ id ≤ _; omega
/-! The cycles -/
theorem tr6 : ∀ R, R ≤ 6 → tr R ≤ 21 := by
  intro R h
  have : ∀ R, R < 7 → tr R ≤ 21 := by decide
  exact this R (by omega)
theorem tr5 : ∀ R, R ≤ 5 → tr R ≤ 15 := by
  intro R h
  have : ∀ R, R < 6 → tr R ≤ 15 := by decide
  exact this R (by omega)
theorem cyc_of {E : Nat} {c : List Cl} {k : Int} {L : List (List Int)} (hv : CxV c) (hL : LeftR (idsX c k).length (idsX c (k - 1)).length E (matX c k) L) :
    ∀ y ∈ L.map fun v => (chX c k v).1, (Val y ∧ Bnd (2 ^ E) y ∧ (∀ f ∈ y, f.1 ∈ idsX c k) ∧ ∀ n, wsum (fun m => cf n (bOf c m)) y = 0) ∧ y.length ≤ (idsX c k).length := fun y hy => by
  obtain ⟨v, hvL, rfl⟩ := List.mem_map.1 hy
  have hr := hL.row v hvL
  have e : (chX c k v).1 = addR [] ((idsX c k).zip v) := by unfold chX; rw [if_pos hr]
  rw [e]
  obtain ⟨c1, c2, c3, c4, _⟩ := chain_of (hv.inc.ids k) (hL.be v hvL)
  exact ⟨⟨c1, c2, c3, hv.cycle hr (hL.ker v hvL)⟩, c4⟩
theorem cyc_ex {i : Nat} {c : List Cl} (g : Gr i c) (hi : i ≤ 3) (d : Int) (hd : 0 ≤ d ∧ d ≤ 3) : ∃ cyc E, Spec Tryz.prog 64 [encX c, .i .i64 (d - 1)] (encCh cyc) ∧ (cyc = [] ∨ E + 4 ≤ eD d) ∧ E + 20 < 4398046511104 ∧ cyc.length ≤ 100 ∧
    ∀ y ∈ cyc, (Val y ∧ Bnd (2 ^ E) y ∧ (∀ f ∈ y, f.1 ∈ idsX c (d - 1)) ∧ ∀ n, wsum (fun m => cf n (bOf c m)) y = 0) ∧ y.length ≤ 16 := by
  have hlen := g.len
  have hbl : ∀ x ∈ c, x.b.length ≤ 1000000 := fun x hx => Nat.le_trans (g.bl x hx) (by decide)
  have fin : ∀ (k : Int) (E : Nat) L, 0 ≤ k → k ≤ 2 → (idsX c k).length ≤ 16 → E + 20 < 4398046511104 → E + 4 ≤ eD (k + 1) → LeftR (idsX c k).length (idsX c (k - 1)).length E (matX c k) L → ∃ cyc E, Spec Tryz.prog 64 [encX c, .i .i64 k] (encCh cyc) ∧ (cyc = [] ∨ E + 4 ≤ eD (k + 1)) ∧ E + 20 < 4398046511104 ∧ cyc.length ≤ 100 ∧
      ∀ y ∈ cyc, (Val y ∧ Bnd (2 ^ E) y ∧ (∀ f ∈ y, f.1 ∈ idsX c k) ∧ ∀ n, wsum (fun m => cf n (bOf c m)) y = 0) ∧ y.length ≤ 16 := fun k E L h1 h2 h3 h4 h5 hL => by
    have hc := cyc_of g.v hL
    refine ⟨_, E, r26Cycles c k L (by omega) (by omega) hbl hL h4, .inr h5, h4, ?_, fun y hy => ⟨(hc y hy).1, Nat.le_trans (hc y hy).2 h3⟩⟩
    rw [List.length_map]
    have := hL.len; omega
  have hd' : d = 0 ∨ d = 1 ∨ d = 2 ∨ d = 3 := by omega
  rcases hd' with rfl | rfl | rfl | rfl
  · exact ⟨[], 0, r26CyclesN c _ (by decide), .inl rfl, by decide, by simp, fun y hy => by cases hy⟩
  · have h0 : (idsX c (0 - 1)).length = 0 := by
      rw [List.length_eq_zero_iff]
      refine List.eq_nil_iff_forall_not_mem.2 fun n hn => ?_
      obtain ⟨x, hx, hdx, _⟩ := mem_idsX.1 hn
      have := (g.v.dim x hx).1; omega
    have hs := matX_sh c 0
    rw [h0] at hs
    have hl := left_id hs (by have := g.n0; omega)
    refine fin 0 0 _ (by decide) (by decide) (by have := g.n0; omega) (by decide) (by decide) (by rw [h0]; exact hl)
  · have hb : Be 4 (matX c 1) := matX_be g.v.inc fun x hx hdx => by have := g.eb x hx; rw [hdx] at this; exact this
    have hn := g.n1
    have h1 := dbl_mono (e := 4) (tr6 (idsX c 1).length (by omega))
    have h2 := dbl_eq 21 4
    rw [show 2 ^ 21 * (4 + 4) = 16777216 by decide] at h2
    obtain ⟨L, hL⟩ := left_ex (matX_sh c 1) (by omega) (by have := idsX_len c (1 - 1); omega) hb (by omega)
    exact fin 1 _ L (by decide) (by decide) (by omega) (by omega) (by show _ ≤ 16777216; omega) hL
  · obtain ⟨E2, hE2, hE3⟩ : ∃ E, E = eD 2 ∧ E = 16777216 := ⟨eD 2, rfl, rfl⟩
    have hb : Be E2 (matX c 2) := matX_be g.v.inc fun x hx hdx => by have := g.eb x hx; rw [hdx, ← hE2] at this; exact this
    have hn := g.n2
    have h1 := dbl_mono (e := E2) (tr5 (idsX c 2).length (by omega))
    have h2 := dbl_eq 15 E2
    have h3 : 2 ^ 15 * (E2 + 4) = 549755944960 := by rw [hE3]
    rw [h3] at h2
    obtain ⟨L, hL⟩ := left_ex (matX_sh c 2) (by omega) (by have := idsX_len c (2 - 1); omega) hb (by omega)
    exact fin 2 _ L (by decide) (by decide) (by omega) (by omega) (by show _ ≤ 549755944960; omega) hL
/-! The draw -/
abbrev Q4 := Int × Int × Int × Int
def Q4.ok (q : Q4) : Prop := (-128 ≤ q.1 ∧ q.1 ≤ 127) ∧ (-128 ≤ q.2.1 ∧ q.2.1 ≤ 127) ∧ (-128 ≤ q.2.2.1 ∧ q.2.2.1 ≤ 127) ∧ (-128 ≤ q.2.2.2 ∧ q.2.2.2 ≤ 127)
def encQ (q : Q4) : List D := [.i .i8 q.1, .i .i8 q.2.1, .i .i8 q.2.2.1, .i .i8 q.2.2.2]
def encRaw (s : Int) (l : List Q4) : D := .ag [.i .u8 s, .sl (l.map encQ)]
theorem grown_ex {i : Nat} {c : List Cl} (g : Gr i c) (hi : i ≤ 3) (q : Q4) (hq : q.ok) : ∃ c', Spec Tryz.prog 37 [encX c, .ag (encQ q)] (encX c') ∧ Gr (i + 1) c' := by
  obtain ⟨x0, x1, x2, x3⟩ := q
  obtain ⟨cyc, E, h1, h2, h3, h4, h5⟩ := cyc_ex g hi (gDim x0) (by unfold gDim; omega)
  have hlen := g.len
  exact ⟨_, r26Grown (e := E) c x0 x1 x2 x3 cyc hq.1 hq.2.1 hq.2.2.1 hq.2.2.2 (by omega) (fun y hy => by have := g.ids y hy; omega) h1 h4 (fun y hy => (h5 y hy).1.2.1) (fun y hy => (h5 y hy).2) h3,
    grow g (fun y hy => (h5 y hy).1) (fun y hy => (h5 y hy).2) h2⟩
inductive MkR : List Q4 → List Cl → List Cl → Prop
  | nil (c : List Cl) : MkR [] c c
  | cons (q : Q4) (l : List Q4) (c c1 c2 : List Cl) (h : Spec Tryz.prog 37 [encX c, .ag (encQ q)] (encX c1)) (h2 : MkR l c1 c2) : MkR (q :: l) c c2
theorem MkR.end {c c2 : List Cl} (h : MkR [] c c2) : c2 = c := by cases h; rfl
theorem MkR.next {q : Q4} {l : List Q4} {c c2 : List Cl} (h : MkR (q :: l) c c2) : ∃ c1, Spec Tryz.prog 37 [encX c, .ag (encQ q)] (encX c1) ∧ MkR l c1 c2 := by cases h with | cons _ _ _ c1 _ h h2 => exact ⟨c1, h, h2⟩
theorem mk_ex : ∀ (l : List Q4) (i : Nat) (c : List Cl), Gr i c → i + l.length ≤ 4 → (∀ q ∈ l, q.ok) → ∃ c', MkR l c c' ∧ Gr (i + l.length) c'
  | [], i, c, g, _, _ => ⟨c, .nil c, g⟩
  | q :: l, i, c, g, hi, hq => by
    simp only [List.length_cons] at hi
    obtain ⟨c1, h1, h2⟩ := grown_ex g (by omega) q (hq q (List.mem_cons_self ..))
    obtain ⟨c2, h3, h4⟩ := mk_ex l (i + 1) c1 h2 (by omega) fun y hy => hq y (List.mem_cons_of_mem _ hy)
    exact ⟨c2, .cons q l c c1 c2 h1 h3, by rw [List.length_cons, show i + (l.length + 1) = i + 1 + l.length by omega]; exact h4⟩
set_option maxHeartbeats 2000000 in
set_option maxRecDepth 10000 in
theorem r26MadeS (s : Int) (l : List Q4) (c0 c : List Cl) (hl : l.length ≤ 9223372036854775807) (hS : Spec Tryz.prog 36 [.i .u8 s] (encX c0)) (hm : MkR (l.take 4) c0 c) : Spec Tryz.prog 7 [encRaw s l] (encX c) := by
  refine spec_of (N := 27) follows_mixed Tryz.func7 rfl rfl rfl (by kernel_rfl) (by kernel_rfl) (by simp) ?_
  have hq4 : ∀ q : Q4, encQ q = [.i .i8 q.1, .i .i8 q.2.1, .i .i8 q.2.2.1, .i .i8 q.2.2.2] := fun q => rfl
  simp (config := { maxSteps := 1000000 }) [-List.map_map, -List.mapM_map, ↓KW, encRaw]
  refine callP_intro (ds := [.i .u8 s]) (by rfl) hS ?_
  simp (config := { maxSteps := 1000000 }) [-List.map_map, -List.mapM_map, ↓KW, encX]
  refine loopP_inv (fun y : Nat × List Cl => y.1 ≤ min 4 l.length ∧ MkR ((l.take 4).drop y.1) y.2 c) (fun y => StL [(1, .ptr 1 0), (3, .d (encX y.2)), (4, .d (.i .i64 (y.1 : Int)))] none [.cells 24 [.d (.i .u8 s), .d (.sl (l.map encQ))]]) (fun y => 4 - y.1) (0, c0) ⟨Nat.zero_le _, hm⟩ ?_ ?_
  · refine wk_l [1] (by simp) ?_ ?_ <;> simp [-List.map_map, upd, inj1, Γ0, encX]
  · rintro ⟨i, d⟩ ⟨hi, hm⟩
    simp only at hi hm ⊢
    by_cases hgo : i < l.length ∧ i < 4
    · have g1 := hgo.1
      have g2 := hgo.2
      have q1 : (i : Int) < l.length := by omega
      have q2 : (i : Int) < 4 := by omega
      have hx : l[i]? = some l[i] := List.getElem?_eq_getElem g1
      have hd : (l.take 4).drop i = l[i] :: (l.take 4).drop (i + 1) := by
        rw [List.drop_eq_getElem_cons (by rw [List.length_take]; omega), List.getElem_take]
      rw [hd] at hm
      have hw : IntKind.i64.wrap ((i : Int) + 1) = (i : Int) + 1 := wrap_i64 (by omega) (by omega)
      refine (hm.next).elim fun d1 hh => ?_
      have h1 := hh.1
      have h2 := hh.2
      clear hh hd hm
      have hx' : ∀ h : i < l.length, l[i]'h = l[i] := fun h => rfl
      refine (show ∃ q, l[i] = q from ⟨_, rfl⟩).elim fun q hq => ?_
      rw [hq] at hx h1
      have hgy' : ∀ h : i < l.length, l[i]'h = q := fun h => hq
      have e4 := hq4 q
      rw [e4] at h1
      simp (config := { maxSteps := 1000000 }) [-List.map_map, -List.mapM_map, ↓KW, encX, g1, g2, q1, q2, hx, hgy', e4]
      refine callP_intro (ds := [encX d, .ag [.i .i8 q.1, .i .i8 q.2.1, .i .i8 q.2.2.1, .i .i8 q.2.2.2]]) (by rfl) h1 ?_
      simp (config := { maxSteps := 1000000 }) [-List.map_map, -List.mapM_map, ↓KW, encX, hw]
      refine nxt_intro (i + 1, d1) ⟨by simp only; omega, h2⟩ (by simp only; omega) (wk_l [1] (by simp) ?_ ?_) <;> simp [-List.map_map, upd, inj1, Γ0, encX]
    · have hd : (l.take 4).drop i = [] := List.drop_eq_nil_of_le (by rw [List.length_take]; omega)
      rw [hd] at hm
      have he := hm.end
      by_cases g1 : i < l.length
      · have q1 : (i : Int) < l.length := by omega
        have q2 : ¬ (i : Int) < 4 := by omega
        simp (config := { maxSteps := 1000000 }) [-List.map_map, -List.mapM_map, ↓KW, encX, q1, q2, he]
      · have q1 : ¬ (i : Int) < l.length := by omega
        simp (config := { maxSteps := 1000000 }) [-List.map_map, -List.mapM_map, ↓KW, encX, q1, he]
theorem space_ex (s : Int) (h : 0 ≤ s ∧ s ≤ 255) : ∃ j, j < 14 ∧ Spec Tryz.prog 36 [.i .u8 s] (encX (spc j)) := by
  have h1 := Int.tmod_lt_of_pos s (b := 14) (by decide)
  have h2 : 0 ≤ s.tmod 14 := Int.tmod_nonneg _ h.1
  have h3 : s.tmod 14 = 0 ∨ s.tmod 14 = 1 ∨ s.tmod 14 = 2 ∨ s.tmod 14 = 3 ∨ s.tmod 14 = 4 ∨ s.tmod 14 = 5 ∨ s.tmod 14 = 6 ∨ s.tmod 14 = 7 ∨ s.tmod 14 = 8 ∨ s.tmod 14 = 9 ∨ s.tmod 14 = 10 ∨ s.tmod 14 = 11 ∨ s.tmod 14 = 12 ∨ s.tmod 14 = 13 := by omega
  rcases h3 with e | e | e | e | e | e | e | e | e | e | e | e | e | e
  · exact ⟨0, by decide, space0 s e⟩
  · exact ⟨1, by decide, space1 s e⟩
  · exact ⟨2, by decide, space2 s e⟩
  · exact ⟨3, by decide, space3 s e⟩
  · exact ⟨4, by decide, space4 s e⟩
  · exact ⟨5, by decide, space5 s e⟩
  · exact ⟨6, by decide, space6 s e⟩
  · exact ⟨7, by decide, space7 s e⟩
  · exact ⟨8, by decide, space8 s e⟩
  · exact ⟨9, by decide, space9 s e⟩
  · exact ⟨10, by decide, space10 s e⟩
  · exact ⟨11, by decide, space11 s e⟩
  · exact ⟨12, by decide, space12 s e⟩
  · exact ⟨13, by decide, space13 s e⟩
/-- What is drawn. -/
structure MdX (c : List Cl) : Prop where
  v : CxV c
  len : c.length ≤ 11
  ids : ∀ x ∈ c, 1 ≤ x.id ∧ x.id ≤ 17
  sz : ∃ F, F = 549755944960 ∧ SzX F c
theorem eD_le (d : Int) : eD d ≤ 549755944960 := by
  unfold eD
  split
  · decide
  · split
    · decide
    · split <;> decide
theorem made_ex (s : Int) (l : List Q4) (hs : 0 ≤ s ∧ s ≤ 255) (hq : ∀ q ∈ l, q.ok) (hl : l.length ≤ 9223372036854775807) : ∃ c, Spec Tryz.prog 7 [encRaw s l] (encX c) ∧ MdX c := by
  obtain ⟨j, hj, h1⟩ := space_ex s hs
  have h4 : (l.take 4).length ≤ 4 := by rw [List.length_take]; omega
  obtain ⟨c, h2, g⟩ := mk_ex (l.take 4) 0 (spc j) (spc_gr j hj) (by omega) fun q h => hq q (List.mem_of_mem_take h)
  have hlen := g.len
  obtain ⟨F, hF⟩ : ∃ F, F = 549755944960 := ⟨_, rfl⟩
  have hFe : ∀ d, eD d ≤ F := fun d => by rw [hF]; exact eD_le d
  exact ⟨c, r26MadeS s l _ c hl h1 h2, g.v, by omega, fun x hx => by have := g.ids x hx; omega, F, hF, by omega, fun x hx => Nat.le_trans (g.bl x hx) (by decide), fun x hx => (g.eb x hx).pw (hFe _)⟩
end Go.Am
end

section
set_option linter.unusedVariables false
set_option linter.unusedSimpArgs false
open Go Go.Am Go.Proofs
namespace Go.Am
set_option linter.unusedSimpArgs false
open Go.ChangeShapes Go.WideShapes Go.ChangeAt Go.RowKit
theorem zRaw : Tryz.prog.cellsOf 24 = 2 := by kernel_rfl
theorem zU8 : Tryz.prog.cellsOf 5 = 1 := by kernel_rfl
theorem zI8 : Tryz.prog.cellsOf 26 = 1 := by kernel_rfl
theorem zA4 : Tryz.prog.cellsOf 78 = 4 := by kernel_rfl
theorem zL4 : Tryz.prog.cellsOf 22 = 1 := by kernel_rfl
theorem wf_i8z {n : Int} (h : (Lit.int .i8 n).wf = true) : -128 ≤ n ∧ n ≤ 127 := by
  have hmin : IntKind.i8.min = -128 := rfl
  have hmax : IntKind.i8.max = 127 := rfl
  simp only [Lit.wf, Bool.and_eq_true, decide_eq_true_eq] at h
  omega
theorem wf_u8z {n : Int} (h : (Lit.int .u8 n).wf = true) : 0 ≤ n ∧ n ≤ 255 := by
  have hmin : IntKind.u8.min = 0 := rfl
  have hmax : IntKind.u8.max = 255 := rfl
  simp only [Lit.wf, Bool.and_eq_true, decide_eq_true_eq] at h
  omega
theorem len4z {α : Type} {l : List α} (h : l.length = 4) : ∃ a b c d, l = [a, b, c, d] := by
  match l, h with
  | [a, b, c, d], _ => exact ⟨a, b, c, d, rfl⟩
theorem len2z {α : Type} {l : List α} (h : l.length = 2) : ∃ a b, l = [a, b] := by
  match l, h with
  | [a, b], _ => exact ⟨a, b, rfl⟩
section
variable {H : Type} {enc : TypeId × Value → H} {w : World} {sp : Nat → Bool} {held : Bool}
set_option maxRecDepth 100000 in
theorem openQ {cs : List Value} {x : DataW H × List MemPlace} {fuel : Nat} (h : DataW.trod enc Tryz.prog w 0 sp held fuel 78 cs = some x) :
    ∃ y : Q4, y.ok ∧ (encQ y).length = Tryz.prog.cellsOf 78 ∧ ∀ (k : Nat) (c : D) (v : Value), (encQ y)[k]? = some c → cs[k]? = some v → VD (fun b => b < w.heap.size) w c v := by
  obtain ⟨xs, m, _, _, hcl, hxl, hx⟩ := DataW.trod_array Tryz.underlying78 h
  rw [zA4] at hcl
  obtain ⟨a, b, c, d, rfl⟩ := len4z hcl
  have h0 := hx 0 (by decide)
  have h1 := hx 1 (by decide)
  have h2 := hx 2 (by decide)
  have h3 := hx 3 (by decide)
  rw [zI8, List.getElem?_eq_getElem (by omega)] at h0 h1 h2 h3
  simp only [Nat.mul_one, Nat.zero_mul, Nat.one_mul, List.drop_zero, List.drop_succ_cons, List.take_succ_cons, List.take_zero] at h0 h1 h2 h3
  obtain ⟨i0, e0, _, w0⟩ := DataW.trod_int Tryz.underlying26 h0
  obtain ⟨i1, e1, _, w1⟩ := DataW.trod_int Tryz.underlying26 h1
  obtain ⟨i2, e2, _, w2⟩ := DataW.trod_int Tryz.underlying26 h2
  obtain ⟨i3, e3, _, w3⟩ := DataW.trod_int Tryz.underlying26 h3
  injection e0 with e0; injection e1 with e1; injection e2 with e2; injection e3 with e3
  subst e0; subst e1; subst e2; subst e3
  refine ⟨(i0, i1, i2, i3), ⟨wf_i8z w0, wf_i8z w1, wf_i8z w2, wf_i8z w3⟩, by rw [zA4]; rfl, fun k c v hk hv => ?_⟩
  rcases k with _ | _ | _ | _ | k
  · simp [encQ] at hk hv; subst hk; subst hv; exact .i _ _
  · simp [encQ] at hk hv; subst hk; subst hv; exact .i _ _
  · simp [encQ] at hk hv; subst hk; subst hv; exact .i _ _
  · simp [encQ] at hk hv; subst hk; subst hv; exact .i _ _
  · simp [encQ] at hk
theorem openRawZ {v : Value} {d : DataW H} {ps : List MemPlace} {cs : Array Value} (hv : v = .agg cs) (h : DataW.Trod enc Tryz.prog w 0 sp held 24 v d ps) :
    ∃ (s : Int) (l : List Q4), VD (fun b => b < w.heap.size) w (encRaw s l) v ∧ (0 ≤ s ∧ s ≤ 255) ∧ (∀ y ∈ l, y.ok) ∧ l.length ≤ 9223372036854775807 := by
  subst hv
  obtain ⟨fuel, hf⟩ := h
  obtain ⟨xs, n, _, _, hl, hlen, hfs⟩ := DataW.trod_struct Tryz.underlying24 hf
  rw [zRaw] at hl
  have h0 := hfs 0 { name := "S", type := 5, offset := 0, embedded := false, tag := "", pkgPath := "", byteOffset := 0 } rfl
  have h1 := hfs 1 { name := "L", type := 22, offset := 1, embedded := false, tag := "", pkgPath := "", byteOffset := 8 } rfl
  obtain ⟨x0, hx0⟩ : ∃ x, xs[0]? = some x := ⟨_, List.getElem?_eq_getElem (by rw [hlen]; decide)⟩
  obtain ⟨x1, hx1⟩ : ∃ x, xs[1]? = some x := ⟨_, List.getElem?_eq_getElem (by rw [hlen]; decide)⟩
  rw [hx0] at h0; rw [hx1] at h1
  simp only [Value.cells] at h0 h1 hl
  obtain ⟨cs⟩ := cs
  simp only at h0 h1 hl
  obtain ⟨a, b, rfl⟩ := len2z hl
  simp only [zU8, zL4, List.drop_zero, List.drop_succ_cons, List.take_succ_cons, List.take_zero] at h0 h1
  obtain ⟨i, e1, _, w1⟩ := DataW.trod_int Tryz.underlying5 h0
  obtain ⟨u, l, e2, hu, hg, hL⟩ := openSlice Tryz.underlying22 (by rw [zA4]; decide) encQ Q4.ok (fun fuel cs x h => openQ h) h1
  injection e1 with e1; injection e2 with e2
  subst e1; subst e2
  refine ⟨i, l, .ag _ _ rfl fun k d v hk hv => ?_, wf_u8z w1, hg, hL⟩
  rcases k with _ | _ | k
  · simp at hk hv; subst hk; subst hv; exact .i _ _
  · simp at hk hv; subst hk; subst hv; exact hu
  · simp at hk
theorem openBz {cs : List Value} {x : DataW H × List MemPlace} {fuel : Nat} (hf : DataW.trod enc Tryz.prog w 0 sp held fuel 48 cs = some x) :
    ∃ (u : Value) (l : List Int), cs = [u] ∧ VD (fun b => b < w.heap.size) w (.sl (l.map fun n => [D.i .i8 n])) u ∧ (∀ x ∈ l, -128 ≤ x ∧ x ≤ 127) ∧ l.length ≤ 9223372036854775807 :=
  openSlice Tryz.underlying48 (by rw [zI8]; decide) (fun n : Int => [D.i .i8 n]) (fun x => -128 ≤ x ∧ x ≤ 127) (fun fuel cs x h => by
    obtain ⟨a, q1, _, w1⟩ := DataW.trod_int Tryz.underlying26 h
    subst q1
    refine ⟨a, wf_i8z w1, by rw [zI8]; rfl, fun k c v hk hv => ?_⟩
    rcases k with _ | k
    · simp at hk hv
      subst hk; subst hv
      exact .i _ _
    · simp at hk) hf
end
end Go.Am
namespace Go.Proofs.YtmnjglpieghdkaaGreat
theorem ownZ : ownKnob Tryz.prog.godebug = none := by kernel_rfl
theorem laidZ : laidOutB Tryz.prog = true := by kernel_rfl
end Go.Proofs.YtmnjglpieghdkaaGreat
end

section
set_option linter.unusedVariables false
set_option linter.unusedSimpArgs false
open Go Go.Am Go.Proofs
namespace Go.Am
set_option linter.unusedSimpArgs false
set_option linter.unusedVariables false
/-- What a slot holds to which elements are appended, and the block. -/
def grS (t : Nat) (sl : List (Nat × AV)) (e : TypeId) (sz : Nat) (n : Nat) (cells : List D) : St := match n with
  | 0 => StL ((t, .nil) :: sl) none []
  | n + 1 => StL ((t, .own 1 0 (n + 1) sz) :: sl) none [.cells e (cells.map .d)]
set_option maxHeartbeats 1000000 in
set_option maxRecDepth 10000 in
theorem complexCells (c : List Cl) (k : Int) (hl : c.length ≤ 1000000) : Spec Tryz.prog 47 [encX c, .i .i64 k] (encIds (idsX c k)) := by
  refine spec_of (N := 25) follows_mixed Tryz.func47 rfl rfl rfl (by kernel_rfl) (by kernel_rfl) (by simp) ?_
  simp (config := { maxSteps := 1000000 }) [-List.map_map, -List.mapM_map, ↓KW, encX]
  refine loopP_inv (fun y : Nat × List Int => y.1 ≤ c.length ∧ idsX (c.take y.1) k = y.2) (fun y => grS 5 [(1, .d (.i .i64 k)), (8, .d (encX c)), (9, .d (.i .i64 c.length)), (10, .d (.i .i64 (y.1 : Int)))] 3 1 y.2.length (y.2.map fun n => D.i .i64 n)) (fun y => c.length - y.1) (0, []) ⟨Nat.zero_le _, rfl⟩ ?_ ?_
  · simp only [List.length_nil, grS]
    refine wk_l [] (by simp) ?_ ?_ <;> simp [-List.map_map, upd, inj1, Γ0, encX, blksOk]
  · rintro ⟨i, out⟩ ⟨hi, ho⟩
    simp only at hi ho ⊢
    by_cases hgo : i < c.length
    · have q1 : (i : Int) < c.length := by omega
      have hx : c[i]? = some c[i] := List.getElem?_eq_getElem hgo
      have hw : IntKind.i64.wrap ((i : Int) + 1) = (i : Int) + 1 := wrap_i64 (by omega) (by omega)
      have htk := idsX_take hgo k
      rw [ho] at htk
      have hln : out.length ≤ i := by rw [← ho]; exact Nat.le_trans (idsX_len _ _) (by simp; omega)
      refine (show ∃ x, c[i] = x from ⟨_, rfl⟩).elim fun x hxe => ?_
      rw [hxe] at hx htk
      have hyc : encCl x = [D.i .i64 x.id, .i .i64 x.dim, encC x.b] := rfl
      by_cases h0 : x.dim = k
      · rw [if_pos h0] at htk
        have q3 : (((k : Int) == (k : Int)) : Bool) = true := by simp
        rcases hn : out with _ | ⟨o1, o2⟩
        · rw [hn] at htk
          have hm1 : (1 : Nat) ≤ maxLen := le_maxLen (by decide)
          simp only [List.length_nil, grS]
          simp (config := { maxSteps := 1000000 }) [-List.map_map, -List.mapM_map, ↓KW, encX, q1, hx, hyc, h0, q3, hw, hm1, one_encC, cellsA_encC, inj1_encC]
          refine nxt_intro (i + 1, [x.id]) ⟨hgo, htk⟩ (Nat.sub_lt_sub_left hgo (Nat.lt_succ_self _)) ?_
          simp only [List.length_singleton, grS]
          refine wk_l [3] (by simp) ?_ ?_ <;> simp [-List.map_map, upd, inj1, Γ0, encX]
        · rw [← hn]
          refine (show ∃ m, out.length = m + 1 from ⟨o2.length, by rw [hn]; rfl⟩).elim fun m hm => ?_
          have hbb := app_bounds (n := m + 1) (by omega)
          have hb8 : (m + 1 + 1) * 8 ≤ 140737488355328 := by omega
          simp only [hm, grS]
          simp (config := { maxSteps := 1000000 }) [-List.map_map, -List.mapM_map, ↓KW, encX, q1, hx, hyc, h0, q3, hw, hm, hbb, hb8, le_maxLen, one_encC, cellsA_encC, inj1_encC]
          refine nxt_intro (i + 1, out ++ [x.id]) ⟨hgo, htk⟩ (Nat.sub_lt_sub_left hgo (Nat.lt_succ_self _)) ?_
          simp only [List.length_append, hm, List.length_singleton, grS]
          refine wk_l [4] (by simp) ?_ ?_ <;> simp [-List.map_map, upd, inj1, Γ0, encX]
      · rw [if_neg h0, List.append_nil] at htk
        have h0' : ((x.dim == k) : Bool) = false := by simpa using h0
        rcases hn : out.length with _ | m
        · simp only [grS]
          simp (config := { maxSteps := 1000000 }) [-List.map_map, -List.mapM_map, ↓KW, encX, q1, hx, hyc, h0, h0', hw, one_encC, cellsA_encC, inj1_encC]
          refine nxt_intro (i + 1, out) ⟨hgo, htk⟩ (Nat.sub_lt_sub_left hgo (Nat.lt_succ_self _)) ?_
          simp only [hn, grS]
          refine wk_l [] (by simp) ?_ ?_ <;> simp [-List.map_map, upd, inj1, Γ0, encX, blksOk]
        · simp only [grS]
          simp (config := { maxSteps := 1000000 }) [-List.map_map, -List.mapM_map, ↓KW, encX, q1, hx, hyc, h0, h0', hw, one_encC, cellsA_encC, inj1_encC]
          refine nxt_intro (i + 1, out) ⟨hgo, htk⟩ (Nat.sub_lt_sub_left hgo (Nat.lt_succ_self _)) ?_
          simp only [hn, grS]
          refine wk_l [1] (by simp) ?_ ?_ <;> simp [-List.map_map, upd, inj1, Γ0, encX]
    · have q1 : ¬ (i : Int) < c.length := by omega
      rw [List.take_of_length_le (by omega)] at ho
      have hln := idsX_len c k
      rw [ho] at hln ⊢
      rcases hn : out.length with _ | m
      · have e0 : out = [] := List.eq_nil_of_length_eq_zero hn
        simp only [grS]
        simp (config := { maxSteps := 1000000 }) [-List.map_map, -List.mapM_map, ↓KW, encX, encIds, q1, e0]
      · have e1 : List.take (m + 1) ((out.map fun n => D.i .i64 n).map AV.d) = (out.map fun n => D.i .i64 n).map AV.d := List.take_of_length_le (by simp; omega)
        have e2 : chunk 1 (m + 1) (out.map fun n => D.i .i64 n) = out.map fun n => [D.i .i64 n] := by rw [chunk_one _ _ (by simp; omega), List.map_map]; rfl
        simp only [grS]
        simp (config := { maxSteps := 1000000 }) [-List.map_map, -List.mapM_map, ↓KW, encX, encIds, q1, e1, e2, hn]
end Go.Am
end
