/- sparse.To on valid matrices. No condition. -/
import Derived.Test.YtmnjglpieghdkaaA3
import Derived.Test.YtmnjglpieghdkaaMx
import Derived.Recover
import Derived.Test.YtmnjglpieghdkaaMy
open Go Go.Am Go.Proofs
namespace Go.Am
set_option linter.unusedSimpArgs false

theorem rec120 : RecSpec Try.prog 120 := by
  refine ⟨fun w => enters_of Try.func120 (by kernel_rfl) rfl _ w, fun w => ?_⟩
  refine callsD_of_wpS Try.func120 rfl fun c₀ cs hu => ?_
  apply wpS_region
  simp [wpOpsS, go_sem, recoverD, hu, Try.ntmps120, bodyPostS, results, Try.results120]
  cases c₀; simp only at hu; subst hu; rfl
def zr (cols : Nat) : List AV := (List.replicate cols [AV.d (.b false), AV.nil]).flatten
def nwC (rows cols b i : Nat) : List AV := ((List.range i).map fun j => AV.own (j + b) 0 cols 2) ++ List.replicate (rows - i) .nil
theorem nwC_len {rows cols b i : Nat} (h : i ≤ rows) : (nwC rows cols b i).length = rows := by simp [nwC]; omega
theorem nwC_lay {rows cols b i : Nat} (h : i < rows) : lay (nwC rows cols b i) i [.own (i + b) 0 cols 2] = nwC rows cols b (i + 1) := by
  apply List.ext_getElem?
  intro k
  rw [lay_get (by rw [nwC_len (by omega)]; simp only [List.length_singleton]; omega)]
  unfold nwC
  simp only [List.length_singleton]
  by_cases hk : k < i
  · rw [if_neg (by omega), List.getElem?_append_left (by simpa using hk), List.getElem?_append_left (by simp; omega), List.getElem?_map, List.getElem?_map, List.getElem?_range hk, List.getElem?_range (by omega)]
  · by_cases e : k = i
    · subst e
      rw [if_pos ⟨by omega, by omega⟩, List.getElem?_append_left (by simp), List.getElem?_map, List.getElem?_range (by omega), Nat.sub_self]; rfl
    · rw [if_neg (by omega), List.getElem?_append_right (by simp; omega), List.getElem?_append_right (by simp; omega)]
      simp only [List.length_map, List.length_range, List.getElem?_replicate]
      by_cases hr : k < rows
      · rw [if_pos (by omega), if_pos (by omega)]
      · rw [if_neg (by omega), if_neg (by omega)]
theorem nwC_zero (rows cols b : Nat) : nwC rows cols b 0 = List.replicate rows .nil := by simp [nwC]
theorem nwC_all (rows cols b : Nat) : nwC rows cols b rows = (List.range rows).map fun j => AV.own (j + b) 0 cols 2 := by simp [nwC]
def nwH (rows cols i : Nat) : Nat → Option HO := fun id =>
  if id = 1 then some (.cells 62 [.d (.i .i64 0), .d (.i .i64 0), .nil]) else if id = 2 then some (.cells 49 (nwC rows cols 3 i)) else if 3 ≤ id ∧ id < i + 3 then some (.cells 32 (zr cols)) else none

/-- What New gives back. -/
def nwV (rows cols m : Nat) : AV := .ag [.d (.i .i64 (rows : Int)), .d (.i .i64 (cols : Int)), .own m 0 rows 1]
def nwB (rows cols m : Nat) : List HO := .cells 49 ((List.range rows).map fun j => AV.own (j + (m + 1)) 0 cols 2) :: List.replicate rows (.cells 32 (zr cols))

theorem zr_self {H H' : Nat → Option HO} {ρ : Nat → Nat} (cols : Nat) : cellsOk H H' ρ (zr cols) (zr cols) := by
  refine cellsOk_iff.2 ⟨rfl, fun k c d h1 h2 => ?_⟩
  rw [h1] at h2; injection h2 with h2; subst h2
  have hm := List.mem_of_getElem? h1
  unfold zr at hm
  rw [List.mem_flatten] at hm
  obtain ⟨l, hl, hc⟩ := hm
  rw [List.eq_of_mem_replicate hl] at hc
  rcases List.mem_cons.1 hc with rfl | hc
  · exact (subL_d _ _).2 rfl
  · rw [List.mem_singleton.1 hc]; trivial

theorem nwC_self {H H' : Nat → Option HO} {rows cols b i : Nat} (h : ∀ j, j < i → (H' (j + b)).isSome = true) : cellsOk H H' (fun i => i) (nwC rows cols b i) (nwC rows cols b i) := by
  refine cellsOk_iff.2 ⟨rfl, fun k c d h1 h2 => ?_⟩
  rw [h1] at h2; injection h2 with h2; subst h2
  have hm := List.mem_of_getElem? h1
  rcases List.mem_append.1 hm with hm | hm
  · obtain ⟨j, hj, rfl⟩ := List.mem_map.1 hm
    exact ⟨rfl, rfl, rfl, rfl, h j (by simpa using hj)⟩
  · rw [List.eq_of_mem_replicate hm]; trivial
theorem nwH_self {H H' : Nat → Option HO} {rows cols i id : Nat} {o : HO} (h : nwH rows cols i id = some o) (hid : ¬ id = 2) : SubO H H' (fun i => i) o o := by
  unfold nwH at h
  split at h
  · injection h with h; subst h
    simp [-List.map_map, upd, inj1, Γ0, ]
  · split at h
    · injection h with h; subst h
      exact subO_cells.2 ⟨rfl, zr_self cols⟩
    · cases h
theorem nwH_some {rows cols i j : Nat} (h : j < i) : (nwH rows cols i (j + 3)).isSome = true := by
  unfold nwH
  rw [if_neg (by omega), if_neg (by omega), if_pos (by omega)]; rfl

set_option maxHeartbeats 8000000 in
set_option maxRecDepth 10000 in
theorem matNew (rows cols : Nat) (hr : rows ≤ 1000) (hc : cols ≤ 1000) : NSpec Try.prog 93 [.i .i64 (rows : Int), .i .i64 (cols : Int)] (nwV rows cols) (nwB rows cols) := by
  refine nspec_of_d (N := 28) follows_mixed Try.func93 rfl rfl rfl (by decide) (by kernel_rfl) (by kernel_rfl) (by kernel_rfl) (by kernel_rfl) rfl rec120 (by simp) rfl ?_
  have m1 : ¬ (rows : Int) < 0 := by omega
  have m2 : ¬ (cols : Int) < 0 := by omega
  have hm : 24 * (rows : Int) ≤ 281474976710656 := by omega
  have hm2 : (rows : Int) ≤ 9223372036854775807 := by omega
  have hm3 : 32 * (cols : Int) ≤ 281474976710656 := by omega
  have hm4 : (cols : Int) ≤ 9223372036854775807 := by omega
  simp (config := { maxSteps := 1000000 }) [-List.map_map, -List.mapM_map, ↓awp_skip, ↓awp_regionB, ↓awp_seq, ↓awp_block, ↓awp_exit, ↓awp_ret, ↓awp_label, ↓awp_scope, ↓awp_condB, ↓awp_loopB, ↓ow_nil', ↓ow_cons0, ↓ow_cons1, ↓o1_move, ↓o1_assign, ↓o1_pick, ↓o1_alloc, ↓o1_box, ↓o1_build, ↓o1_buildSlice, ↓o1_makeSlice, ↓o1_makeMap, ↓o1_binOp, ↓o1_unOp, ↓o1_convert, ↓o1_fieldAddr, ↓o1_field, ↓o1_indexAddr, ↓o1_extract, ↓o1_slice, ↓o1_len, ↓o1_max, ↓o1_min, ↓o1_load, ↓o1_lookup, ↓o1_store, ↓o1_mapUpdate, ↓o1_append, ↓o1_delete, ↓o1_call, m1, m2, hm, hm2, le_maxLen]
  refine loopP_inv (fun i : Nat => i ≤ rows) (fun i => ⟨sltF [(0, .d (.i .i64 (rows : Int))), (1, .d (.i .i64 (cols : Int))), (4, .ptr 1 0), (5, .own 2 0 rows 1), (14, .d (.i .i64 (rows : Int))), (15, .d (.i .i64 (i : Int)))], nwH rows cols i, i + 3⟩) (fun i => rows - i) 0 (Nat.zero_le _) ?_ ?_
  · refine ⟨_, wk_id ?_ (fun id o' ho => ?_) (fun id hid => ?_) (by simp)⟩
    · simp [-List.map_map, upd, inj1, Γ0, nwH]
    · simp only [nwH] at ho
      split at ho
      · rename_i e; subst e
        injection ho with ho; subst ho
        exact ⟨_, rfl, by simp [-List.map_map, upd, inj1, Γ0, ]⟩
      · split at ho
        · rename_i e; subst e
          injection ho with ho; subst ho
          refine ⟨_, rfl, subO_cells.2 ⟨rfl, ?_⟩⟩
          rw [nwC_zero]
          exact cellsOk_rep _
        · rw [if_neg (by omega)] at ho; cases ho
    · simp only [nwH]
      rw [if_neg (by omega), if_neg (by omega), if_neg (by omega)]
  · intro i hi
    have hH1 : nwH rows cols i 1 = some (.cells 62 [.d (.i .i64 0), .d (.i .i64 0), .nil]) := rfl
    have hH2 : nwH rows cols i 2 = some (.cells 49 (nwC rows cols 3 i)) := rfl
    have hlen : (nwC rows cols 3 i).length = rows := nwC_len hi
    by_cases hgo : i < rows
    · have q1 : (i : Int) < rows := by omega
      have hw : IntKind.i64.wrap ((i : Int) + 1) = (i : Int) + 1 := wrap_i64 (by omega) (by omega)
      have hly := nwC_lay (cols := cols) (b := 3) hgo
      have q2 : i + 1 ≤ rows := hgo
      have hH : ∀ id, nwH rows cols (i + 1) id = if id = 2 then some (.cells 49 (nwC rows cols 3 (i + 1))) else if id = i + 3 then some (.cells 32 (zr cols)) else nwH rows cols i id := fun id => by
        simp only [nwH]
        by_cases e1 : id = 1
        · subst e1; rw [if_pos rfl, if_neg (by omega), if_neg (by omega), if_pos rfl]
        · by_cases e2 : id = 2
          · subst e2; rfl
          · rw [if_neg e1, if_neg e2, if_neg e2, if_neg e1, if_neg e2]
            by_cases e3 : id = i + 3
            · rw [if_pos e3, if_pos (by omega)]
            · rw [if_neg e3]
              by_cases e4 : 3 ≤ id ∧ id < i + 3
              · rw [if_pos e4, if_pos (by omega)]
              · rw [if_neg e4, if_neg (by omega)]
      generalize hHg : nwH rows cols i = H at *
      simp (config := { maxSteps := 1000000 }) [-List.map_map, -List.mapM_map, ↓awp_skip, ↓awp_regionB, ↓awp_seq, ↓awp_block, ↓awp_exit, ↓awp_ret, ↓awp_label, ↓awp_scope, ↓awp_condB, ↓awp_loopB, ↓ow_nil', ↓ow_cons0, ↓ow_cons1, ↓o1_move, ↓o1_assign, ↓o1_pick, ↓o1_alloc, ↓o1_box, ↓o1_build, ↓o1_buildSlice, ↓o1_makeSlice, ↓o1_makeMap, ↓o1_binOp, ↓o1_unOp, ↓o1_convert, ↓o1_fieldAddr, ↓o1_field, ↓o1_indexAddr, ↓o1_extract, ↓o1_slice, ↓o1_len, ↓o1_max, ↓o1_min, ↓o1_load, ↓o1_lookup, ↓o1_store, ↓o1_mapUpdate, ↓o1_append, ↓o1_delete, ↓o1_call, q1, q2, hgo, hw, hm3, hm4, hH1, hH2, hlen, hly, m1, m2, le_maxLen]
      refine nxt_intro (i + 1) hgo (Nat.sub_lt_sub_left hgo (Nat.lt_succ_self _)) ⟨_, wk_id ?_ (fun id o' ho => ?_) (fun id hid => ?_) (by simp)⟩
      · have g1 : nwH rows cols (i + 1) 1 = some (.cells 62 [.d (.i .i64 0), .d (.i .i64 0), .nil]) := rfl
        have g2 : nwH rows cols (i + 1) 2 = some (.cells 49 (nwC rows cols 3 (i + 1))) := rfl
        simp [-List.map_map, upd, inj1, Γ0, g1, g2]
      · have ho2 := ho
        rw [hH] at ho
        split at ho
        · rename_i e; subst e
          injection ho with ho; subst ho
          exact ⟨_, by simp [upd], subO_cells.2 ⟨rfl, nwC_self fun j hj => nwH_some hj⟩⟩
        · rename_i e2
          split at ho
          · rename_i e; subst e
            injection ho with ho; subst ho
            exact ⟨_, by simp [upd, e2, zr], subO_cells.2 ⟨rfl, zr_self cols⟩⟩
          · rename_i e3
            exact ⟨o', by simp only [upd, if_neg e2, if_neg e3]; exact ho, nwH_self ho2 e2⟩
      · rw [hH, if_neg (by omega), if_neg (by omega), ← hHg]
        unfold nwH
        rw [if_neg (by omega), if_neg (by omega), if_neg (by omega)]
    · have q1 : ¬ (i : Int) < rows := by omega
      have e : i = rows := by omega
      subst e
      generalize hHg : nwH i cols i = H at *
      simp (config := { maxSteps := 1000000 }) [-List.map_map, -List.mapM_map, ↓awp_skip, ↓awp_regionB, ↓awp_seq, ↓awp_block, ↓awp_exit, ↓awp_ret, ↓awp_label, ↓awp_scope, ↓awp_condB, ↓awp_loopB, ↓ow_nil', ↓ow_cons0, ↓ow_cons1, ↓o1_move, ↓o1_assign, ↓o1_pick, ↓o1_alloc, ↓o1_box, ↓o1_build, ↓o1_buildSlice, ↓o1_makeSlice, ↓o1_makeMap, ↓o1_binOp, ↓o1_unOp, ↓o1_convert, ↓o1_fieldAddr, ↓o1_field, ↓o1_indexAddr, ↓o1_extract, ↓o1_slice, ↓o1_len, ↓o1_max, ↓o1_min, ↓o1_load, ↓o1_lookup, ↓o1_store, ↓o1_mapUpdate, ↓o1_append, ↓o1_delete, ↓o1_call, q1, hH1, hH2]
      intro m hm0
      have hin : ∀ id, m ≤ id → id < m + (i + 1) → (outS (nwV i cols) (nwB i cols) m).H id = (nwB i cols m)[id - m]? := fun id h1 h2 => by
        simp only [outS, extB]
        rw [if_pos ⟨h1, by simp only [nwB, List.length_cons, List.length_replicate]; omega⟩]
      have hout : ∀ id, ¬ (m ≤ id ∧ id < m + (i + 1)) → (outS (nwV i cols) (nwB i cols) m).H id = none := fun id h => by
        simp only [outS, extB]
        rw [if_neg (by simp only [nwB, List.length_cons, List.length_replicate]; omega)]
      have hsome : ∀ id, ((outS (nwV i cols) (nwB i cols) m).H id).isSome = true → m ≤ id ∧ id < m + (i + 1) := fun id h => by
        by_cases hr : m ≤ id ∧ id < m + (i + 1)
        · exact hr
        · rw [hout id hr] at h; cases h
      have hS0 : ((outS (nwV i cols) (nwB i cols) m).H m).isSome = true := by
        rw [hin m (Nat.le_refl _) (by omega), Nat.sub_self]; rfl
      have hSj : ∀ j, j < i → (outS (nwV i cols) (nwB i cols) m).H (j + (m + 1)) = some (.cells 32 (zr cols)) := fun j hj => by
        rw [hin _ (by omega) (by omega), show j + (m + 1) - m = j + 1 by omega]
        simp only [nwB, List.getElem?_cons_succ, List.getElem?_replicate, if_pos hj]
      refine ⟨fun id => id - m + 2, fun id hid => hout id (by simp only [outS, nwB, List.length_cons, List.length_replicate] at hid; omega), fun t => ?_, fun id o' ho => ?_, fun id id' h1 h2 e => ?_, fun h => ?_, fun h => ?_⟩
      · show Sub _ _ _ _ (upd (fun _ => .any) 0 (nwV i cols m) t)
        by_cases e : t = 0
        · subst e
          simp only [upd_same, nwV]
          refine ⟨rfl, fun k c d h1 h2 => ?_⟩
          rcases k with _ | _ | _ | k
          · simp at h1 h2; subst h1; subst h2; exact (subL_d _ _).2 rfl
          · simp at h1 h2; subst h1; subst h2; exact (subL_d _ _).2 rfl
          · simp at h1 h2; subst h1; subst h2
            exact ⟨by simp, rfl, rfl, rfl, hS0⟩
          · simp at h1
        · rw [upd_ne _ _ e]; exact sub_any _
      · have hr := hsome id (by rw [ho]; rfl)
        rw [hin id hr.1 hr.2] at ho
        simp only
        obtain ⟨j, rfl⟩ : ∃ j, id = m + j := ⟨id - m, by omega⟩
        rw [show m + j - m = j by omega] at ho ⊢
        rcases j with _ | j
        · simp only [nwB, List.getElem?_cons_zero] at ho
          injection ho with ho; subst ho
          refine ⟨.cells 49 (nwC i cols 3 i), by simp only [upd]; rw [if_neg (by omega)]; exact hH2, subO_cells.2 ⟨rfl, cellsOk_iff.2 ⟨by rw [nwC_all]; simp, fun k c d h1 h2 => ?_⟩⟩⟩
          rw [nwC_all, List.getElem?_map] at h1
          rw [List.getElem?_map] at h2
          obtain ⟨k1, hk1, rfl⟩ := Option.map_eq_some_iff.1 h1
          obtain ⟨k2, hk2, rfl⟩ := Option.map_eq_some_iff.1 h2
          rw [hk1] at hk2; injection hk2 with hk2; subst hk2
          have hlt : k1 < i := by simpa using List.mem_of_getElem? hk1
          exact ⟨by show k1 + 3 = k1 + (m + 1) - m + 2; omega, rfl, rfl, rfl, by rw [hSj k1 hlt]; rfl⟩
        · have hlt : j < i := by omega
          simp only [nwB, List.getElem?_cons_succ, List.getElem?_replicate, if_pos hlt] at ho
          injection ho with ho; subst ho
          refine ⟨.cells 32 (zr cols), ?_, subO_cells.2 ⟨rfl, zr_self cols⟩⟩
          simp only [upd]
          rw [if_neg (by omega), ← hHg]
          unfold nwH
          rw [if_neg (by omega), if_neg (by omega), if_pos (by omega)]
      · have q1' := hsome id h1
        have q2' := hsome id' h2
        have e' : id - m + 2 = id' - m + 2 := e
        omega
      · have := hsome 0 h; omega
      · simp only [outS] at h; omega

end Go.Am

open Go Go.Am Go.Proofs
namespace Go.Am
set_option linter.unusedSimpArgs false

def dI (row : List (Int × Int)) (acc : List Int) : List Int := row.foldl (fun acc t => acc.set t.1.toNat t.2) acc
theorem dI_snoc (row : List (Int × Int)) (t : Int × Int) (acc : List Int) : dI (row ++ [t]) acc = (dI row acc).set t.1.toNat t.2 := by simp [dI]
theorem dI_len : ∀ (row : List (Int × Int)) (acc : List Int), (dI row acc).length = acc.length
  | [], _ => rfl
  | t :: row, acc => by
    show (dI row (acc.set t.1.toNat t.2)).length = _
    rw [dI_len row, List.length_set]
theorem dI_get (n : Nat) : ∀ (row : List (Int × Int)) (acc : List Int), n < acc.length → (∀ x ∈ row, 0 ≤ x.1) → (dI row acc).getD n 0 = row.foldl (fun a x => if x.1 = (n : Int) then x.2 else a) (acc.getD n 0)
  | [], _, _, _ => rfl
  | t :: row, acc, hn, h => by
    have h0 := h t (List.mem_cons_self ..)
    show (dI row (acc.set t.1.toNat t.2)).getD n 0 = _
    rw [dI_get n row _ (by rw [List.length_set]; exact hn) fun y hy => h y (List.mem_cons_of_mem _ hy), List.foldl_cons]
    congr 1
    rw [List.getD_eq_getElem?_getD, List.getElem?_set]
    by_cases e : t.1 = (n : Int)
    · rw [if_pos (by omega), if_pos e, if_pos (by omega)]; rfl
    · rw [if_neg (by omega), if_neg e, List.getD_eq_getElem?_getD]
theorem dI_dense {c : Nat} {row : List (Int × Int)} (hs : Srt row) (hc : ColIn (c : Int) row) : dI row (List.replicate c 0) = dense c row := by
  refine List.ext_getElem (by rw [dI_len]; simp [dense]) fun n h1 h2 => ?_
  have h3 : n < c := by simpa [dI_len] using h1
  have e1 := dI_get n row (List.replicate c 0) (by simpa using h3) fun x hx => (hc x hx).1
  rw [List.getD_eq_getElem?_getD, List.getElem?_eq_getElem h1] at e1
  simp only [Option.getD_some] at e1
  rw [e1]
  simp only [dense, List.getElem_map, List.getElem_range]
  rw [← lv_cz (n : Int) hs, List.getD_eq_getElem?_getD, List.getElem?_replicate, if_pos h3]; rfl

/-- The rows, each in a block of its own. -/
def toH (R c : Nat) (M : List (List Int)) : Nat → Option HO := fun id =>
  if id = 1 then some (.cells 62 [.d (.i .i64 0), .d (.i .i64 0), .nil]) else if id = 2 then some (.cells 62 [.d (.i .i64 (R : Int)), .d (.i .i64 (c : Int)), .own 3 0 R 1])
  else if id = 3 then some (.cells 49 ((List.range R).map fun j => AV.own (j + 4) 0 c 2)) else if 4 ≤ id then (M[id - 4]?).map fun v => .cells 32 ((vcs v).map .d) else none
theorem toH_row (R c : Nat) (M : List (List Int)) (j : Nat) : toH R c M (j + 4) = (M[j]?).map fun v => .cells 32 ((vcs v).map .d) := by
  unfold toH
  rw [if_neg (by omega), if_neg (by omega), if_neg (by omega), if_pos (by omega), show j + 4 - 4 = j by omega]
theorem toH_set {R c : Nat} {M : List (List Int)} {i : Nat} {v : List Int} (hi : i < M.length) (id : Nat) : toH R c (M.set i v) id = if id = i + 4 then some (.cells 32 ((vcs v).map .d)) else toH R c M id := by
  by_cases e : id = i + 4
  · subst e
    rw [if_pos rfl, toH_row, List.getElem?_set_self hi]; rfl
  · rw [if_neg e]
    unfold toH
    by_cases h : 4 ≤ id
    · rw [if_neg (by omega), if_neg (by omega), if_neg (by omega), if_pos h, if_neg (by omega), if_neg (by omega), if_neg (by omega), if_pos h, List.getElem?_set_ne (by omega)]
    · simp only [if_neg h]
theorem toH_top {R c : Nat} {M : List (List Int)} (hM : M.length = R) {id : Nat} (h : R + 4 ≤ id) : toH R c M id = none := by
  unfold toH
  rw [if_neg (by omega), if_neg (by omega), if_neg (by omega), if_pos (by omega), List.getElem?_eq_none (by omega)]; rfl
theorem toH_some {R c : Nat} {M : List (List Int)} (hM : M.length = R) {j : Nat} (h : j < R) : (toH R c M (j + 4)).isSome = true := by
  rw [toH_row, List.getElem?_eq_getElem (by omega)]; rfl
theorem toH_self {R c : Nat} {M : List (List Int)} (hM : M.length = R) {H : Nat → Option HO} {id : Nat} {o : HO} (h : toH R c M id = some o) : SubO H (toH R c M) (fun i => i) o o := by
  rcases id with _ | _ | _ | _ | id
  · cases h
  · injection h with h; subst h
    simp [-List.map_map, upd, inj1, Γ0, ]
  · injection h with h; subst h
    have e3 : (toH R c M 3).isSome = true := rfl
    simp [-List.map_map, upd, inj1, Γ0, subL_own_iff3, e3]
  · injection h with h; subst h
    refine subO_cells.2 ⟨rfl, cellsOk_iff.2 ⟨rfl, fun k x y h1 h2 => ?_⟩⟩
    rw [h1] at h2; injection h2 with h2; subst h2
    obtain ⟨j, hj, rfl⟩ := List.mem_map.1 (List.mem_of_getElem? h1)
    exact ⟨rfl, rfl, rfl, rfl, toH_some hM (by simpa using hj)⟩
  · rw [toH_row] at h
    obtain ⟨v, _, rfl⟩ := Option.map_eq_some_iff.1 h
    exact subO_data _ _
theorem mid_set {α : Type} {done : List α} {i : Nat} (h : done.length = i) (x y : α) (rest : List α) : (done ++ x :: rest).set i y = done ++ y :: rest := by
  subst h; simp
theorem mid_get {α : Type} {done : List α} {i : Nat} (h : done.length = i) (x : α) (rest : List α) : (done ++ x :: rest)[i]? = some x := by
  subst h; simp
theorem frz_vcsN {H : Nat → Option HO} {B : Nat} {e : TypeId} {v : List Int} {n : Nat} (m : Nat) (hB : H B = some (.cells e ((vcs v).map .d))) (hv : v.length = n) : frz H (m + 2) (.own B 0 n 2) = some (encV2 v) := by
  have hl := vcs_len v
  rw [hv] at hl
  rw [frz_own, hB]
  simp only [Nat.zero_add, List.length_map, hl, Nat.zero_mul, List.drop_zero]
  rw [vcs_take_all hv, if_pos ⟨Nat.le_refl _, by decide⟩]
  have : List.mapM (frz H (m + 1)) ((vcs v).map AV.d) = some (vcs v) := mapM_d H m (vcs v)
  rw [this, Option.map_some, chunk_vcs hv]; rfl
theorem mapM_some {α β : Type} (f : α → Option β) (g : Nat → β) : ∀ (l : List α), (∀ k x, l[k]? = some x → f x = some (g k)) → l.mapM f = some ((List.range l.length).map g)
  | [], _ => rfl
  | x :: l, h => by
    rw [List.mapM_cons, h 0 x rfl, mapM_some f (fun k => g (k + 1)) l fun k y hy => h (k + 1) y (by simpa using hy), List.length_cons, List.range_succ_eq_map]
    simp [Function.comp_def]
theorem nwB_len (rows cols m : Nat) : (nwB rows cols m).length = rows + 1 := by simp [nwB]
theorem zr_vcs {H H' : Nat → Option HO} {ρ : Nat → Nat} : ∀ c : Nat, cellsOk H H' ρ (zr c) ((vcs (List.replicate c 0)).map .d)
  | 0 => trivial
  | c + 1 => by
    have ih := zr_vcs (H := H) (H' := H') (ρ := ρ) c
    have e1 : zr (c + 1) = AV.d (.b false) :: AV.nil :: zr c := by simp [zr, List.replicate_succ]
    have e2 : (vcs (List.replicate (c + 1) 0)).map AV.d = AV.d (.b (decide ((0 : Int) < 0))) :: AV.d (encM (digs (0 : Int).natAbs)) :: (vcs (List.replicate c 0)).map AV.d := by
      rw [List.replicate_succ]; rfl
    rw [e1, e2]
    refine ⟨?_, ?_, ih⟩
    · exact (subL_d _ _).2 rfl
    · exact ⟨by rw [show ((0 : Int).natAbs) = 0 from rfl, digs_zero]; rfl, fun a ha => by simp [vis] at ha⟩

set_option maxHeartbeats 16000000 in
set_option maxRecDepth 10000 in
theorem spTo {c : Nat} {A : List (List (Int × Int))} (hA : MOk c A) (hAl : A.length ≤ 1000) (hcl : c ≤ 1000) :
    Spec Try.prog 46 [encSp A.length c A] (encMat A.length c (A.map (dense c))) := by
  refine spec_of_d (N := 45) follows_mixed Try.func46 rfl rfl rfl (by kernel_rfl) (by kernel_rfl) (by kernel_rfl) (by kernel_rfl) rfl rec92 (by simp) ?_
  have hV := spValidZ hA
  have hN := matNew A.length c hAl hcl
  simp (config := { maxSteps := 1000000 }) [-List.map_map, -List.mapM_map, ↓awp_skip, ↓awp_regionB, ↓awp_seq, ↓awp_block, ↓awp_exit, ↓awp_ret, ↓awp_label, ↓awp_scope, ↓awp_condB, ↓awp_loopB, ↓ow_nil', ↓ow_cons0, ↓ow_cons1, ↓o1_move, ↓o1_assign, ↓o1_pick, ↓o1_alloc, ↓o1_box, ↓o1_build, ↓o1_buildSlice, ↓o1_makeSlice, ↓o1_makeMap, ↓o1_binOp, ↓o1_unOp, ↓o1_convert, ↓o1_fieldAddr, ↓o1_field, ↓o1_indexAddr, ↓o1_extract, ↓o1_slice, ↓o1_len, ↓o1_max, ↓o1_min, ↓o1_load, ↓o1_lookup, ↓o1_store, ↓o1_mapUpdate, ↓o1_append, ↓o1_delete, ↓o1_call, encSp]
  refine callP_intro (ds := [encSp A.length c A]) (by rfl) hV ?_
  simp (config := { maxSteps := 1000000 }) [-List.map_map, -List.mapM_map, ↓awp_skip, ↓awp_regionB, ↓awp_seq, ↓awp_block, ↓awp_exit, ↓awp_ret, ↓awp_label, ↓awp_scope, ↓awp_condB, ↓awp_loopB, ↓ow_nil', ↓ow_cons0, ↓ow_cons1, ↓o1_move, ↓o1_assign, ↓o1_pick, ↓o1_alloc, ↓o1_box, ↓o1_build, ↓o1_buildSlice, ↓o1_makeSlice, ↓o1_makeMap, ↓o1_binOp, ↓o1_unOp, ↓o1_convert, ↓o1_fieldAddr, ↓o1_field, ↓o1_indexAddr, ↓o1_extract, ↓o1_slice, ↓o1_len, ↓o1_max, ↓o1_min, ↓o1_load, ↓o1_lookup, ↓o1_store, ↓o1_mapUpdate, ↓o1_append, ↓o1_delete, ↓o1_call, ]
  refine o1_ncall [.i .i64 (A.length : Int), .i .i64 (c : Int)] (nwV A.length c) (nwB A.length c) (by simp) (by simp) (by simp) (by rfl) (by rfl) hN ?_
  have hne1 : ¬ 1 = 3 + (A.length + 1) := by omega
  simp (config := { maxSteps := 1000000 }) [-List.map_map, -List.mapM_map, ↓awp_skip, ↓awp_regionB, ↓awp_seq, ↓awp_block, ↓awp_exit, ↓awp_ret, ↓awp_label, ↓awp_scope, ↓awp_condB, ↓awp_loopB, ↓ow_nil', ↓ow_cons0, ↓ow_cons1, ↓o1_move, ↓o1_assign, ↓o1_pick, ↓o1_alloc, ↓o1_box, ↓o1_build, ↓o1_buildSlice, ↓o1_makeSlice, ↓o1_makeMap, ↓o1_binOp, ↓o1_unOp, ↓o1_convert, ↓o1_fieldAddr, ↓o1_field, ↓o1_indexAddr, ↓o1_extract, ↓o1_slice, ↓o1_len, ↓o1_max, ↓o1_min, ↓o1_load, ↓o1_lookup, ↓o1_store, ↓o1_mapUpdate, ↓o1_append, ↓o1_delete, ↓o1_call, nwV, nwB_len, extB, hne1]
  refine loopP_inv (fun i : Nat => i ≤ A.length) (fun i => ⟨sltF [(2, .ptr 1 0), (3, .ptr 2 0), (18, .d (.sl (A.map fun r => [encC r]))), (19, .d (.i .i64 (A.length : Int))), (20, .d (.i .i64 (i : Int)))], toH A.length c ((A.take i).map (dense c) ++ List.replicate (A.length - i) (List.replicate c 0)), A.length + 4⟩) (fun i => A.length - i) 0 (Nat.zero_le _) ?_ ?_
  · have hM0 : (A.take 0).map (dense c) ++ List.replicate (A.length - 0) (List.replicate c 0) = List.replicate A.length (List.replicate c 0) := by simp
    simp only [hM0]
    refine ⟨_, wk_gen (fun id => if id = 1 then 2 else if id = 2 then A.length + 4 else id) ?_ (fun id o' ho => ?_) (fun id id' h1 h2 e => ?_) (fun h => by cases h) (fun id hid => toH_top (by simp) hid) (by simp)⟩
    · have g1 : (toH A.length c (List.replicate A.length (List.replicate c 0)) 1).isSome = true := rfl
      have g2 : (toH A.length c (List.replicate A.length (List.replicate c 0)) 2).isSome = true := rfl
      have g3 : 3 + (A.length + 1) = A.length + 4 := by omega
      simp [-List.map_map, upd, inj1, Γ0, g1, g2, g3]
    · have n1 : ¬ 2 = 3 + (A.length + 1) := by omega
      have n2 : A.length + 4 = 3 + (A.length + 1) := by omega
      have n3 : ¬ 3 = 3 + (A.length + 1) := by omega
      rcases id with _ | _ | _ | _ | id
      · cases ho
      · injection ho with ho; subst ho
        refine ⟨.cells 62 [.d (.i .i64 0), .d (.i .i64 0), .nil], ?_, by simp [-List.map_map, upd, inj1, Γ0, ]⟩
        show upd _ _ _ 2 = _
        simp [upd, extB, nwB_len, n1]
      · injection ho with ho; subst ho
        have g3 : (toH A.length c (List.replicate A.length (List.replicate c 0)) 3).isSome = true := rfl
        refine ⟨.cells 62 [.d (.i .i64 (A.length : Int)), .d (.i .i64 (c : Int)), .own 3 0 A.length 1], ?_, by simp [-List.map_map, upd, inj1, Γ0, subL_own_iff3, g3]⟩
        show upd _ _ _ (A.length + 4) = _
        rw [n2]
        simp [upd]
      · injection ho with ho; subst ho
        refine ⟨.cells 49 ((List.range A.length).map fun j => AV.own (j + 4) 0 c 2), by simp only [upd, extB, nwB_len, if_neg n3]; simp [nwB], subO_cells.2 ⟨rfl, cellsOk_iff.2 ⟨rfl, fun k x y h1 h2 => ?_⟩⟩⟩
        rw [h1] at h2; injection h2 with h2; subst h2
        obtain ⟨j, hj, rfl⟩ := List.mem_map.1 (List.mem_of_getElem? h1)
        exact ⟨by simp, rfl, rfl, rfl, toH_some (by simp) (by simpa using hj)⟩
      · rw [toH_row, List.getElem?_replicate] at ho
        split at ho
        · rename_i hlt
          simp only [Option.map_some] at ho
          injection ho with ho; subst ho
          have n4 : ¬ id + 4 = 3 + (A.length + 1) := by omega
          have n5 : 3 ≤ id + 4 ∧ id + 4 < 3 + (A.length + 1) := by omega
          have n6 : id + 4 - 3 = id + 1 := by omega
          refine ⟨.cells 32 (zr c), ?_, subO_cells.2 ⟨rfl, zr_vcs c⟩⟩
          rw [if_neg (by omega), if_neg (by omega)]
          simp only [upd, extB, nwB_len, if_neg n4, if_pos n5, n6]
          simp [nwB, hlt]
        · cases ho
    · have k1 : ∀ id, (toH A.length c (List.replicate A.length (List.replicate c 0)) id).isSome = true → 1 ≤ id ∧ id < A.length + 4 := fun id h => by
        rcases id with _ | id
        · cases h
        · by_cases hlt : id + 1 < A.length + 4
          · exact ⟨by omega, hlt⟩
          · rw [toH_top (by simp) (by omega)] at h; cases h
      have b1 := k1 id h1
      have b2 := k1 id' h2
      have e' : (if id = 1 then 2 else if id = 2 then A.length + 4 else id) = (if id' = 1 then 2 else if id' = 2 then A.length + 4 else id') := e
      have f3 : ∀ x : Nat, ¬ x = 1 → ¬ x = 2 → (if x = 1 then 2 else if x = 2 then A.length + 4 else x) = x := fun x h1 h2 => by rw [if_neg h1, if_neg h2]
      have f1 : (if 1 = 1 then 2 else if 1 = 2 then A.length + 4 else 1) = 2 := rfl
      have f2 : (if 2 = 1 then 2 else if 2 = 2 then A.length + 4 else 2) = A.length + 4 := rfl
      rcases (show id = 1 ∨ id = 2 ∨ (¬ id = 1 ∧ ¬ id = 2) by omega) with rfl | rfl | ⟨a1, a2⟩ <;> rcases (show id' = 1 ∨ id' = 2 ∨ (¬ id' = 1 ∧ ¬ id' = 2) by omega) with rfl | rfl | ⟨a3, a4⟩
      · rfl
      · rw [f1, f2] at e'; omega
      · rw [f1, f3 _ a3 a4] at e'; omega
      · rw [f1, f2] at e'; omega
      · rfl
      · rw [f2, f3 _ a3 a4] at e'; omega
      · rw [f1, f3 _ a1 a2] at e'; omega
      · rw [f2, f3 _ a1 a2] at e'; omega
      · rw [f3 _ a1 a2, f3 _ a3 a4] at e'; exact e'
  · intro i hi
    have hM : ((A.take i).map (dense c) ++ List.replicate (A.length - i) (List.replicate c 0)).length = A.length := by simp; omega
    by_cases hgi : i < A.length
    · have q1 : (i : Int) < A.length := by omega
      have hw : IntKind.i64.wrap ((i : Int) + 1) = (i : Int) + 1 := wrap_i64 (by omega) (by omega)
      have hy : A[i]? = some A[i] := List.getElem?_eq_getElem hgi
      have hmem := List.getElem_mem hgi
      have hrs := hA.srt _ hmem
      have hrc := hA.col _ hmem
      have hro := hA.ok _ hmem
      have hrl := srt_len0 hrs hrc
      have hdn : ((A.take i).map (dense c)).length = i := by rw [List.length_map, List.length_take]; exact Nat.min_eq_left hi
      have htk : (A.take (i + 1)).map (dense c) = (A.take i).map (dense c) ++ [dense c A[i]] := by rw [List.take_add_one, hy, List.map_append]; rfl
      have hst : (A.take i).map (dense c) ++ List.replicate (A.length - i) (List.replicate c 0) = (A.take i).map (dense c) ++ List.replicate c 0 :: List.replicate (A.length - (i + 1)) (List.replicate c 0) := by
        rw [show A.length - i = (A.length - (i + 1)) + 1 by omega]; rfl
      have hst2 : (A.take (i + 1)).map (dense c) ++ List.replicate (A.length - (i + 1)) (List.replicate c 0) = (A.take i).map (dense c) ++ dense c A[i] :: List.replicate (A.length - (i + 1)) (List.replicate c 0) := by
        rw [htk, List.append_assoc]; rfl
      rw [hst] at hM ⊢
      clear hmem hst htk
      generalize hdone : (A.take i).map (dense c) = done at *
      generalize hrest : List.replicate (A.length - (i + 1)) (List.replicate c (0 : Int)) = rest at *
      generalize A[i] = row at *
      have hlen : ∀ v : List Int, (done ++ v :: rest).length = A.length := fun v => by
        rw [List.length_append, List.length_cons] at hM ⊢; exact hM
      have hdc : (List.replicate c (0 : Int)).length = c := List.length_replicate
      have hself : ∀ (v : List Int) (H : Nat → Option HO) (id : Nat) (o : HO), toH A.length c (done ++ v :: rest) id = some o → SubO H (toH A.length c (done ++ v :: rest)) (fun i => i) o o := fun v H id o h => toH_self (hlen v) h
      generalize hH0 : toH A.length c (done ++ List.replicate c 0 :: rest) = H0 at *
      simp (config := { maxSteps := 1000000 }) [-List.map_map, -List.mapM_map, ↓awp_skip, ↓awp_regionB, ↓awp_seq, ↓awp_block, ↓awp_exit, ↓awp_ret, ↓awp_label, ↓awp_scope, ↓awp_condB, ↓awp_loopB, ↓ow_nil', ↓ow_cons0, ↓ow_cons1, ↓o1_move, ↓o1_assign, ↓o1_pick, ↓o1_alloc, ↓o1_box, ↓o1_build, ↓o1_buildSlice, ↓o1_makeSlice, ↓o1_makeMap, ↓o1_binOp, ↓o1_unOp, ↓o1_convert, ↓o1_fieldAddr, ↓o1_field, ↓o1_indexAddr, ↓o1_extract, ↓o1_slice, ↓o1_len, ↓o1_max, ↓o1_min, ↓o1_load, ↓o1_lookup, ↓o1_store, ↓o1_mapUpdate, ↓o1_append, ↓o1_delete, ↓o1_call, q1, hy, encC]
      refine loopP_inv (fun j : Nat => j ≤ row.length) (fun j => ⟨sltF [(2, .ptr 1 0), (3, .ptr 2 0), (4, .d (.i .i64 (i : Int))), (18, .d (.sl (A.map fun r => [encC r]))), (19, .d (.i .i64 (A.length : Int))), (20, .d (.i .i64 (i : Int))), (25, .d (encC row)), (26, .d (.i .i64 (row.length : Int))), (27, .d (.i .i64 (j : Int)))],
        toH A.length c (done ++ dI (row.take j) (List.replicate c 0) :: rest), A.length + 4⟩) (fun j => row.length - j) 0 (Nat.zero_le _) ?_ ?_
      · rw [show dI (row.take 0) (List.replicate c 0) = List.replicate c 0 from rfl, hH0]
        refine ⟨_, wk_id ?_ (fun id o' ho => ⟨o', ho, ?_⟩) (fun id hid => ?_) (by simp)⟩
        · have g1 : (H0 1).isSome = true := by rw [← hH0]; rfl
          have g2 : (H0 2).isSome = true := by rw [← hH0]; rfl
          simp [-List.map_map, upd, inj1, Γ0, encC, g1, g2]
        · rw [← hH0] at ho ⊢
          exact hself _ _ _ _ ho
        · rw [← hH0]; exact toH_top (hlen _) hid
      · clear hH0
        intro j hj
        have hcl0 : (dI (row.take j) (List.replicate c 0)).length = c := by rw [dI_len]; exact hdc
        by_cases hgj : j < row.length
        · have q2 : (j : Int) < row.length := by omega
          have hw2 : IntKind.i64.wrap ((j : Int) + 1) = (j : Int) + 1 := wrap_i64 (by omega) (by omega)
          have hz : row[j]? = some row[j] := List.getElem?_eq_getElem hgj
          have hcj := hrc _ (List.getElem_mem hgj)
          have hoj := hro.1 _ (List.getElem_mem hgj)
          have htk2 : dI (row.take (j + 1)) (List.replicate c 0) = (dI (row.take j) (List.replicate c 0)).set row[j].1.toNat row[j].2 := by
            rw [List.take_add_one, hz]; exact dI_snoc _ _ _
          generalize dI (row.take j) (List.replicate c 0) = cur at *
          generalize row[j] = t at *
          obtain ⟨tc, tv⟩ := t
          simp only at hcj hoj htk2
          obtain ⟨k, rfl⟩ : ∃ k : Nat, tc = k := ⟨tc.toNat, by omega⟩
          rw [Int.toNat_natCast] at htk2
          have hkc : k < c := by omega
          have hO := ownSpec tv (Nat.le_trans hoj (by decide))
          have hslen := vcs_len cur
          rw [hcl0] at hslen
          have hk2 : k * 2 + 2 ≤ c * 2 := by omega
          have hlay : lay ((vcs cur).map .d) (k * 2) [.d (.b (decide (tv < 0))), .d (encM (digs tv.natAbs))] = (vcs (cur.set k tv)).map .d := by
            rw [← vcs_set _ (by omega)]
            simp [lay, encN]
          have hset := mid_set hdn cur (cur.set k tv) rest
          have hiM : i < (done ++ cur :: rest).length := by rw [hlen]; exact hgi
          have hnew := fun id => toH_set (R := A.length) (c := c) (v := cur.set k tv) hiM id
          rw [hset] at hnew
          have hH2 : toH A.length c (done ++ cur :: rest) 2 = some (.cells 62 [.d (.i .i64 (A.length : Int)), .d (.i .i64 (c : Int)), .own 3 0 A.length 1]) := rfl
          have hH3 : toH A.length c (done ++ cur :: rest) 3 = some (.cells 49 ((List.range A.length).map fun j => AV.own (j + 4) 0 c 2)) := rfl
          have hHi : toH A.length c (done ++ cur :: rest) (i + 4) = some (.cells 32 ((vcs cur).map .d)) := by rw [toH_row, mid_get hdn]; rfl
          have htop := fun id => toH_top (R := A.length) (c := c) (hlen cur) (id := id)
          have hself2 := hself (cur.set k tv)
          have hg : ((List.range A.length).map fun j => AV.own (j + 4) 0 c 2)[i]? = some (.own (i + 4) 0 c 2) := by rw [List.getElem?_map, List.getElem?_range hgi]; rfl
          have hgl : ((List.range A.length).map fun j => AV.own (j + 4) 0 c 2).length = A.length := by simp
          have hg2 : ∀ h : i < ((List.range A.length).map fun j => AV.own (j + 4) 0 c 2).length, ((List.range A.length).map fun j => AV.own (j + 4) 0 c 2)[i]'h = .own (i + 4) 0 c 2 := fun h => Option.some.inj ((List.getElem?_eq_getElem h).symm.trans hg)
          have hni : ¬ i = A.length := by omega
          have hni2 : ¬ A.length = i := by omega
          generalize toH A.length c (done ++ cur :: rest) = H at *
          generalize ((List.range A.length).map fun j => AV.own (j + 4) 0 c 2) = cellsR at *
          simp (config := { maxSteps := 1000000 }) [-List.map_map, -List.mapM_map, ↓awp_skip, ↓awp_regionB, ↓awp_seq, ↓awp_block, ↓awp_exit, ↓awp_ret, ↓awp_label, ↓awp_scope, ↓awp_condB, ↓awp_loopB, ↓ow_nil', ↓ow_cons0, ↓ow_cons1, ↓o1_move, ↓o1_assign, ↓o1_pick, ↓o1_alloc, ↓o1_box, ↓o1_build, ↓o1_buildSlice, ↓o1_makeSlice, ↓o1_makeMap, ↓o1_binOp, ↓o1_unOp, ↓o1_convert, ↓o1_fieldAddr, ↓o1_field, ↓o1_indexAddr, ↓o1_extract, ↓o1_slice, ↓o1_len, ↓o1_max, ↓o1_min, ↓o1_load, ↓o1_lookup, ↓o1_store, ↓o1_mapUpdate, ↓o1_append, ↓o1_delete, ↓o1_call, q2, hz, encC, encF_eq, hH2, hH3, hHi, hg, hg2, hgl, hgi, hni, hni2, hkc, hk2, hslen, cellsA_encM, one_encM, inj1_encM, inj_encM, kills_encM]
          refine callP_intro (ds := [encZ tv]) (by rfl) hO ?_
          rw [encZ_eq]
          simp (config := { maxSteps := 1000000 }) [-List.map_map, -List.mapM_map, ↓awp_skip, ↓awp_regionB, ↓awp_seq, ↓awp_block, ↓awp_exit, ↓awp_ret, ↓awp_label, ↓awp_scope, ↓awp_condB, ↓awp_loopB, ↓ow_nil', ↓ow_cons0, ↓ow_cons1, ↓o1_move, ↓o1_assign, ↓o1_pick, ↓o1_alloc, ↓o1_box, ↓o1_build, ↓o1_buildSlice, ↓o1_makeSlice, ↓o1_makeMap, ↓o1_binOp, ↓o1_unOp, ↓o1_convert, ↓o1_fieldAddr, ↓o1_field, ↓o1_indexAddr, ↓o1_extract, ↓o1_slice, ↓o1_len, ↓o1_max, ↓o1_min, ↓o1_load, ↓o1_lookup, ↓o1_store, ↓o1_mapUpdate, ↓o1_append, ↓o1_delete, ↓o1_call, hw2, hH2, hH3, hHi, hg, hg2, hgl, hgi, hni, hni2, hkc, hk2, hslen, hlay, cellsA_encM, one_encM, inj1_encM, inj_encM, kills_encM]
          have hself3 := hself2
          generalize hHn : toH A.length c (done ++ cur.set k tv :: rest) = Hn at *
          refine nxt_intro (j + 1) hgj (Nat.sub_lt_sub_left hgj (Nat.lt_succ_self _)) ?_
          rw [htk2, hHn]
          refine ⟨_, wk_id ?_ (fun id o' ho => ⟨o', ?_, hself3 _ _ _ ho⟩) (fun id hid => ?_) (by simp)⟩
          · have g1 : (Hn 1).isSome = true := by rw [← hHn]; rfl
            have g2 : (Hn 2).isSome = true := by rw [← hHn]; rfl
            simp [-List.map_map, upd, inj1, Γ0, encC, g1, g2]
          · rw [hnew] at ho
            split at ho
            · rename_i e; subst e
              simp only [upd, if_true]; exact ho
            · rename_i e
              have e2 : ¬ id = A.length + 4 := fun h => by rw [htop id (by omega)] at ho; cases ho
              simp only [upd, if_neg e, if_neg e2]; exact ho
          · rw [hnew, if_neg (by omega)]; exact htop id hid
        · have q2 : ¬ (j : Int) < row.length := by omega
          have ej : row.take j = row := List.take_of_length_le (by omega)
          rw [ej, dI_dense hrs hrc]
          have hself3 := hself (dense c row)
          have htop := fun id => toH_top (R := A.length) (c := c) (hlen (dense c row)) (id := id)
          generalize hHn : toH A.length c (done ++ dense c row :: rest) = Hn at *
          simp (config := { maxSteps := 1000000 }) [-List.map_map, -List.mapM_map, ↓awp_skip, ↓awp_regionB, ↓awp_seq, ↓awp_block, ↓awp_exit, ↓awp_ret, ↓awp_label, ↓awp_scope, ↓awp_condB, ↓awp_loopB, ↓ow_nil', ↓ow_cons0, ↓ow_cons1, ↓o1_move, ↓o1_assign, ↓o1_pick, ↓o1_alloc, ↓o1_box, ↓o1_build, ↓o1_buildSlice, ↓o1_makeSlice, ↓o1_makeMap, ↓o1_binOp, ↓o1_unOp, ↓o1_convert, ↓o1_fieldAddr, ↓o1_field, ↓o1_indexAddr, ↓o1_extract, ↓o1_slice, ↓o1_len, ↓o1_max, ↓o1_min, ↓o1_load, ↓o1_lookup, ↓o1_store, ↓o1_mapUpdate, ↓o1_append, ↓o1_delete, ↓o1_call, q2, hw]
          refine nxt_intro (i + 1) hgi (Nat.sub_lt_sub_left hgi (Nat.lt_succ_self _)) ?_
          rw [hrest, hst2, hHn]
          refine ⟨_, wk_id ?_ (fun id o' ho => ⟨o', ho, hself3 _ _ _ ho⟩) (fun id hid => htop id hid) (by simp)⟩
          have g1 : (Hn 1).isSome = true := by rw [← hHn]; rfl
          have g2 : (Hn 2).isSome = true := by rw [← hHn]; rfl
          simp [-List.map_map, upd, inj1, Γ0, encC, g1, g2]
    · have q1 : ¬ (i : Int) < A.length := by omega
      have e : i = A.length := by omega
      have hMe : (A.take i).map (dense c) ++ List.replicate (A.length - i) (List.replicate c 0) = A.map (dense c) := by
        rw [e, Nat.sub_self, List.replicate_zero, List.append_nil, List.take_length]
      rw [hMe]
      have hH1 : toH A.length c (A.map (dense c)) 1 = some (.cells 62 [.d (.i .i64 0), .d (.i .i64 0), .nil]) := rfl
      have hH2 : toH A.length c (A.map (dense c)) 2 = some (.cells 62 [.d (.i .i64 (A.length : Int)), .d (.i .i64 (c : Int)), .own 3 0 A.length 1]) := rfl
      have hH3 : toH A.length c (A.map (dense c)) 3 = some (.cells 49 ((List.range A.length).map fun j => AV.own (j + 4) 0 c 2)) := rfl
      have hfr : ∀ (H : Nat → Option HO), (∀ id, H (id + 4) = toH A.length c (A.map (dense c)) (id + 4)) → ((List.range A.length).map fun j => AV.own (j + 4) 0 c 2).mapM (frz H 6) = some ((A.map (dense c)).map encV2) := fun H hH => by
        rw [mapM_some (frz H 6) (fun k => encV2 ((A.map (dense c)).getD k [])) _ fun k x hx => by
          rw [List.getElem?_map] at hx
          obtain ⟨j, hj, rfl⟩ := Option.map_eq_some_iff.1 hx
          have hlt : k < A.length := by have := (List.getElem?_eq_some_iff.1 hj).1; simpa using this
          rw [List.getElem?_range hlt] at hj
          injection hj with hj; subst hj
          have hg : (A.map (dense c))[k]? = some (dense c A[k]) := by rw [List.getElem?_map, List.getElem?_eq_getElem hlt]; rfl
          rw [List.getD_eq_getElem?_getD, hg]
          exact frz_vcsN 4 (by rw [hH, toH_row, hg]; rfl) (by simp [dense])]
        congr 1
        simp only [List.length_map, List.length_range]
        apply List.ext_getElem?
        intro k
        by_cases hk : k < A.length
        · rw [List.getElem?_map, List.getElem?_range hk, List.getElem?_map, List.getElem?_map, Option.map_some, List.getD_eq_getElem?_getD, List.getElem?_map, List.getElem?_eq_getElem hk]; rfl
        · rw [List.getElem?_eq_none (by simpa using hk), List.getElem?_eq_none (by simpa using hk)]
      have hgl : ((List.range A.length).map fun j => AV.own (j + 4) 0 c 2).length = A.length := by simp
      have htk : List.take A.length ((List.range A.length).map fun j => AV.own (j + 4) 0 c 2) = (List.range A.length).map fun j => AV.own (j + 4) 0 c 2 := List.take_of_length_le (by rw [hgl]; exact Nat.le_refl _)
      generalize toH A.length c (A.map (dense c)) = H at *
      generalize ((List.range A.length).map fun j => AV.own (j + 4) 0 c 2) = cellsR at *
      have hml : ((A.map (dense c)).map encV2).length = A.length := by simp
      simp (config := { maxSteps := 1000000 }) [-List.map_map, -List.mapM_map, ↓awp_skip, ↓awp_regionB, ↓awp_seq, ↓awp_block, ↓awp_exit, ↓awp_ret, ↓awp_label, ↓awp_scope, ↓awp_condB, ↓awp_loopB, ↓ow_nil', ↓ow_cons0, ↓ow_cons1, ↓o1_move, ↓o1_assign, ↓o1_pick, ↓o1_alloc, ↓o1_box, ↓o1_build, ↓o1_buildSlice, ↓o1_makeSlice, ↓o1_makeMap, ↓o1_binOp, ↓o1_unOp, ↓o1_convert, ↓o1_fieldAddr, ↓o1_field, ↓o1_indexAddr, ↓o1_extract, ↓o1_slice, ↓o1_len, ↓o1_max, ↓o1_min, ↓o1_load, ↓o1_lookup, ↓o1_store, ↓o1_mapUpdate, ↓o1_append, ↓o1_delete, ↓o1_call, q1, hH1, hH2, hH3, encMat, hgl, htk]
      have hch : chunk 1 A.length (List.map encV2 (List.map (dense c) A)) = (A.map (dense c)).map fun v => [encV2 v] := by rw [chunk_one _ _ hml.symm, List.map_map]; rfl
      rw [hfr _ (fun id => by simp [upd])]
      simp [-List.map_map, hch]

end Go.Am
