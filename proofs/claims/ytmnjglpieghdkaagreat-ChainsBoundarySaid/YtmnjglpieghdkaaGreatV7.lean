/- ChainsBoundary answers true: a contract. No condition. -/
import Derived.Test.YtmnjglpieghdkaaGreatV6
import Derived.Test.YtmnjglpieghdkaaGreatV4
import Derived.Test.YtmnjglpieghdkaaGreatV5
section
set_option linter.unusedVariables false
set_option linter.unusedSimpArgs false
open Go Go.Am Go.Proofs
namespace Go.Am
set_option linter.unusedSimpArgs false
set_option linter.unusedVariables false
/-! The map of the places -/
def idxF : Nat → List Cl → List (Int × AV)
  | _, [] => []
  | k, y :: c => (y.id, .d (.i .i64 (k : Int))) :: idxF (k + 1) c
theorem mlook_cons (x : Int × AV) (es : List (Int × AV)) (n : Int) : mlook (x :: es) n = if x.1 = n then some x.2 else mlook es n := by
  have e : mfind n (x :: es) = if x.1 = n then some 0 else (mfind n es).map (· + 1) := rfl
  unfold mlook
  rw [e]
  by_cases h : x.1 = n
  · rw [if_pos h, if_pos h]; rfl
  · rw [if_neg h, if_neg h]
    cases mfind n es <;> rfl
theorem mlook_idxF (n : Int) : ∀ (c : List Cl) (k : Nat), (findX c n = none ∧ mlook (idxF k c) n = none) ∨ ∃ j y, c[j]? = some y ∧ findX c n = some y ∧ mlook (idxF k c) n = some (.d (.i .i64 ((k + j : Nat) : Int)))
  | [], k => .inl ⟨rfl, rfl⟩
  | x :: c, k => by
    rw [findX_cons, idxF, mlook_cons]
    by_cases h : x.id = n
    · rw [if_pos h, if_pos h]
      exact .inr ⟨0, x, rfl, rfl, rfl⟩
    · rw [if_neg h, if_neg h]
      rcases mlook_idxF n c (k + 1) with h1 | ⟨j, y, h1, h2, h3⟩
      · exact .inl h1
      · exact .inr ⟨j + 1, y, h1, h2, by rw [h3, show k + 1 + j = k + (j + 1) by omega]⟩
theorem mfind_no {n : Int} : ∀ {es : List (Int × AV)}, (∀ x ∈ es, x.1 ≠ n) → mfind n es = none
  | [], _ => rfl
  | x :: es, h => by
    show (if x.1 = n then some 0 else (mfind n es).map (· + 1)) = none
    rw [if_neg (h x (List.mem_cons_self ..)), mfind_no fun y hy => h y (List.mem_cons_of_mem _ hy)]; rfl
theorem idxF_mem : ∀ {c : List Cl} {k : Nat} {x : Int × AV}, x ∈ idxF k c → ∃ y ∈ c, y.id = x.1 ∧ ∃ j : Nat, x.2 = .d (.i .i64 (j : Int))
  | y :: c, k, x, h => by
    rcases List.mem_cons.1 h with rfl | h
    · exact ⟨y, List.mem_cons_self .., rfl, k, rfl⟩
    · obtain ⟨z, hz, e⟩ := idxF_mem h
      exact ⟨z, List.mem_cons_of_mem _ hz, e⟩
theorem idxF_snoc : ∀ (c : List Cl) (k : Nat) (y : Cl), idxF k (c ++ [y]) = idxF k c ++ [(y.id, .d (.i .i64 ((k + c.length : Nat) : Int)))]
  | [], k, y => rfl
  | x :: c, k, y => by
    rw [List.cons_append, idxF, idxF_snoc c (k + 1) y, idxF, List.length_cons, show k + 1 + c.length = k + (c.length + 1) by omega]; rfl
theorem idx_put {c : List Cl} (h : Inc c) {i : Nat} (hi : i < c.length) : mput (idxF 0 (c.take i)) c[i].id (.d (.i .i64 (i : Int))) = idxF 0 (c.take (i + 1)) := by
  rw [List.take_add_one, List.getElem?_eq_getElem hi]
  show _ = idxF 0 (c.take i ++ [c[i]])
  rw [idxF_snoc, Nat.zero_add, List.length_take, Nat.min_eq_left (by omega)]
  unfold mput
  rw [mfind_no fun x hx e => ?_]
  obtain ⟨y, hy, e1, _⟩ := idxF_mem hx
  obtain ⟨j, hj, e2⟩ := List.getElem_of_mem hy
  rw [List.length_take] at hj
  rw [List.getElem_take] at e2
  have := List.pairwise_iff_getElem.1 h j i (by omega) hi (by omega)
  rw [e2] at this; omega
theorem subO_idx {H H' : Nat → Option HO} {ρ : Nat → Nat} (k : Nat) (c : List Cl) : SubO H H' ρ (.map .i64 (idxF k c)) (.map .i64 (idxF k c)) := subO_map fun x hx => by
  obtain ⟨_, _, _, j, e⟩ := idxF_mem hx
  rw [e]; exact sub_d _
theorem scrub_idx (l : List Nat) (k : Nat) (c : List Cl) : scrubO l (.map .i64 (idxF k c)) = .map .i64 (idxF k c) := by
  have : ∀ (c : List Cl) (k : Nat), (idxF k c).map (fun p => (p.1, scrub1 l p.2)) = idxF k c := fun c => by
    induction c with
    | nil => intro k; rfl
    | cons y c ih => intro k; simp only [idxF, List.map_cons, ih]; rfl
  show HO.map .i64 _ = _
  rw [this c k]
/-! The cells -/
def clX (c : List Cl) (n : Int) : Cl := (findX c n).getD noCl
def clsX (c : List Cl) (x : List (Int × Int)) : List Cl := x.map fun f => clX c f.1
theorem clsX_take {c : List Cl} {x : List (Int × Int)} {i : Nat} (h : i < x.length) : clsX c (x.take (i + 1)) = clsX c (x.take i) ++ [clX c x[i].1] := by
  unfold clsX
  rw [List.take_add_one, List.getElem?_eq_getElem h, List.map_append]; rfl
theorem ccs_get {l : List Cl} {i : Nat} {y : Cl} (h : l[i]? = some y) : (((l.map encCl).flatten).drop (i * 3)).take 3 = encCl y := by
  induction l generalizing i with
  | nil => simp at h
  | cons a l ih =>
    rcases i with _ | i
    · simp at h; subst h; rfl
    · have := ih (i := i) (by simpa using h)
      rw [List.map_cons, List.flatten_cons, List.drop_append, List.drop_eq_nil_of_le (by simp [encCl]; omega), List.nil_append]
      have e : (i + 1) * 3 - (encCl a).length = i * 3 := by simp only [encCl, List.length_cons, List.length_nil]; omega
      rw [e]; exact this
def coD (c : List Cl) (x : List (Int × Int)) : D := .tp [if (dimX c x).2 = 0 then encX (clsX c x) else .sl [], .i .i64 (dimX c x).1, .i .i64 (dimX c x).2]
/-- The states at the second loop's head. -/
def coS (c : List Cl) (m : List (Int × AV)) (x : List (Int × Int)) (l : List Cl) (i : Nat) : Nat → St
  | 0 => StL [(0, .d (encX c)), (7, .mp 1), (10, .nil), (33, .d (encC x)), (34, .d (.i .i64 x.length)), (35, .d (.i .i64 (i : Int)))] none [.map .i64 m]
  | n + 1 => StL [(0, .d (encX c)), (7, .mp 1), (10, .own 2 0 (n + 1) 3), (33, .d (encC x)), (34, .d (.i .i64 x.length)), (35, .d (.i .i64 (i : Int)))] none [.map .i64 m, .cells 63 ((l.map encCl).flatten.map .d)]
theorem mixN_mono {c : List Cl} {x : List (Int × Int)} {i : Nat} (h : mixN c x i = true) : ∀ n, i ≤ n → mixN c x n = true
  | 0, hn => by
    have : i = 0 := by omega
    rw [this] at h; exact h
  | n + 1, hn => by
    by_cases e : i = n + 1
    · rw [← e]; exact h
    · rw [mixN, mixN_mono h n (by omega), Bool.true_or]
set_option maxHeartbeats 4000000 in
set_option maxRecDepth 10000 in
theorem cellsOf (c : List Cl) (x : List (Int × Int)) (hl : c.length ≤ 1000) (hx : x.length ≤ 1000) (hi : Inc c) : Spec Tryz.prog 40 [encX c, encC x] (coD c x) := by
  have hD : (knAll c x = false ∧ coD c x = .tp [.sl [], .i .i64 0, .i .i64 250]) ∨ (knAll c x = true ∧ mixN c x x.length = true ∧ coD c x = .tp [.sl [], .i .i64 0, .i .i64 260]) ∨ (knAll c x = true ∧ mixN c x x.length = false ∧ coD c x = .tp [encX (clsX c x), .i .i64 (dLast c x x.length), .i .i64 0]) := by
    unfold coD dimX
    cases knAll c x <;> cases mixN c x x.length <;> simp
  obtain ⟨res, hres⟩ : ∃ r, coD c x = r := ⟨_, rfl⟩
  rw [hres] at hD ⊢
  clear hres
  refine spec_of (N := 76) follows_mixed Tryz.func40 rfl rfl rfl (by kernel_rfl) (by kernel_rfl) (by simp) ?_
  have hlc : (c.length : Int) ≤ 1000 := by omega
  simp (config := { maxSteps := 1000000 }) [-List.map_map, -List.mapM_map, ↓KW, encX, encC]
  refine loopP_inv (fun y : Nat × List (Int × AV) => y.1 ≤ c.length ∧ idxF 0 (c.take y.1) = y.2) (fun y => StL [(0, .d (encX c)), (1, .d (encC x)), (7, .mp 1), (21, .d (encX c)), (22, .d (.i .i64 c.length)), (23, .d (.i .i64 (y.1 : Int)))] none [.map .i64 y.2]) (fun y => c.length - y.1) (0, []) ⟨Nat.zero_le _, rfl⟩ ?_ ?_
  · refine wk_l [1] (by simp) ?_ ?_
    · simp [-List.map_map, upd, inj1, Γ0, encX, encC]
    · exact ⟨⟨.map .i64 [], by simp [upd_ap], subO_map (es := []) (fun x hx => by cases hx)⟩, trivial⟩
  · rintro ⟨i, m⟩ ⟨hic, him⟩
    simp only at hic him ⊢
    have hsc : ∀ l, scrubO l (.map .i64 m) = .map .i64 m := fun l => him ▸ scrub_idx l 0 _
    have hms : ∀ (H H' : Nat → Option HO) ρ, SubO H H' ρ (.map .i64 m) (.map .i64 m) := fun H H' ρ => him ▸ subO_idx 0 _
    by_cases hgo : i < c.length
    · have q1 : (i : Int) < c.length := by omega
      have hxi : c[i]? = some c[i] := List.getElem?_eq_getElem hgo
      have hw : IntKind.i64.wrap ((i : Int) + 1) = (i : Int) + 1 := wrap_i64 (by omega) (by omega)
      have hp := idx_put hi hgo
      rw [him] at hp
      refine (show ∃ y, c[i] = y from ⟨_, rfl⟩).elim fun y hye => ?_
      rw [hye] at hxi hp
      refine (show ∃ y, idxF 0 (c.take (i + 1)) = y from ⟨_, rfl⟩).elim fun m1 hm1 => ?_
      rw [hm1] at hp
      have hyc : encCl y = [D.i .i64 y.id, .i .i64 y.dim, encC y.b] := rfl
      have hms1 : ∀ (H H' : Nat → Option HO) ρ, SubO H H' ρ (.map .i64 m1) (.map .i64 m1) := fun H H' ρ => hm1 ▸ subO_idx 0 _
      simp (config := { maxSteps := 1000000 }) [-List.map_map, -List.mapM_map, ↓KW, encX, q1, hxi, hyc, hw, mapW_mp, hp, one_encC, cellsA_encC, inj1_encC]
      refine nxt_intro (i + 1, m1) ⟨hgo, hm1⟩ (Nat.sub_lt_sub_left hgo (Nat.lt_succ_self _)) (wk_l [1] (by simp) ?_ ?_)
      · simp [-List.map_map, upd, inj1, Γ0, encX, encC]
      · exact ⟨⟨_, by simp [upd_ap], hms1 _ _ _⟩, trivial⟩
    · have q1 : ¬ (i : Int) < c.length := by omega
      rw [List.take_of_length_le (by omega)] at him
      simp (config := { maxSteps := 1000000 }) [-List.map_map, -List.mapM_map, ↓KW, encX, encC, q1]
      refine loopP_inv (fun y : Nat × List Cl => y.1 ≤ x.length ∧ clsX c (x.take y.1) = y.2 ∧ ∀ j, j < y.1 → kn c (x.getD j (0, 0)).1 = true) (fun y => coS c m x y.2 y.1 y.2.length) (fun y => x.length - y.1) (0, []) ⟨Nat.zero_le _, rfl, fun j h => by omega⟩ ?_ ?_
      · simp only [List.length_nil, coS]
        refine wk_l [1] (by simp) ?_ ?_
        · simp [-List.map_map, upd, inj1, Γ0, encX, encC]
        · exact ⟨⟨_, by simp [blkF_ap], hms _ _ _⟩, trivial⟩
      · clear hlc q1 hgo hic
        rintro ⟨j, l⟩ ⟨hj, hlj, hok⟩
        simp only at hj hlj hok ⊢
        have hll : l.length = j := by rw [← hlj]; unfold clsX; rw [List.length_map, List.length_take]; omega
        by_cases hgo : j < x.length
        · have q1 : (j : Int) < x.length := by omega
          have hxj : x[j]? = some x[j] := List.getElem?_eq_getElem hgo
          have hgd : x.getD j (0, 0) = x[j] := by rw [List.getD_eq_getElem?_getD, hxj]; rfl
          have hw : IntKind.i64.wrap ((j : Int) + 1) = (j : Int) + 1 := wrap_i64 (by omega) (by omega)
          have htk := clsX_take (c := c) hgo
          rw [hlj] at htk
          have hlk := mlook_idxF x[j].1 c 0
          rw [him] at hlk
          have hna : findX c x[j].1 = none → knAll c x = false := fun h => by
            unfold knAll
            rw [List.all_eq_false]
            exact ⟨x[j], List.getElem_mem hgo, by unfold kn; rw [h]; decide⟩
          have hok2 : ∀ y, findX c x[j].1 = some y → ∀ i, i < j + 1 → kn c (x.getD i (0, 0)).1 = true := fun y h i hi => by
            rcases Nat.lt_or_ge i j with h2 | h2
            · exact hok i h2
            · rw [show i = j by omega, hgd]; unfold kn; rw [h]; rfl
          refine (show ∃ f, x[j] = f from ⟨_, rfl⟩).elim fun f hfe => ?_
          rw [hfe] at hxj htk hlk hna hok2
          clear hok hgd
          have hef := encF_eq f
          have hxj' : ∀ h : j < x.length, x[j]'h = f := fun h => Option.some.inj ((List.getElem?_eq_getElem h).symm.trans hxj)
          rcases hlk with hlk | hlk
          · have hr : res = .tp [.sl [], .i .i64 0, .i .i64 250] := by
              have := hna hlk.1
              rcases hD with h | h | h
              · exact h.2
              · rw [this] at h; exact absurd h.1 (by decide)
              · rw [this] at h; exact absurd h.1 (by decide)
            rcases hl0 : l.length with _ | n
            · simp only [coS]
              simp (config := { maxSteps := 1000000 }) [-List.map_map, -List.mapM_map, ↓KW, encX, encC, hef, q1, hxj, hxj', lookA_mp, hlk.2, one_encM, cellsA_encM, hr, resD_3]
            · simp only [coS]
              simp (config := { maxSteps := 1000000 }) [-List.map_map, -List.mapM_map, ↓KW, encX, encC, hef, q1, hxj, hxj', lookA_mp, hlk.2, one_encM, cellsA_encM, hr, resD_3]
          · refine hlk.elim fun p hh => hh.elim fun y hh => ?_
            have hcp := hh.1
            have hfy := hh.2.1
            have hml := hh.2.2
            clear hh hlk
            rw [Nat.zero_add] at hml
            have hpl := (List.getElem?_eq_some_iff.1 hcp).1
            have hcp' : ∀ h : p < c.length, c[p]'h = y := fun h => Option.some.inj ((List.getElem?_eq_getElem h).symm.trans hcp)
            have hcl : clX c f.1 = y := by unfold clX; rw [hfy]; rfl
            rw [hcl] at htk
            have hok3 := hok2 y hfy
            have hyc : encCl y = [D.i .i64 y.id, .i .i64 y.dim, encC y.b] := rfl
            have hfl := ccs_len l
            clear hok2 hna
            rcases hl0 : l.length with _ | n
            · have e0 : l = [] := List.eq_nil_of_length_eq_zero hl0
              rw [e0] at htk
              have hm1 : (1 : Nat) ≤ maxLen := le_maxLen (by decide)
              simp only [coS]
              simp (config := { maxSteps := 1000000 }) [-List.map_map, -List.mapM_map, ↓KW, encX, encC, hef, q1, hxj, hxj', lookA_mp, hml, hcp, hcp', hpl, hyc, hw, hm1, one_encM, cellsA_encM, one_encC, cellsA_encC, inj1_encC]
              refine nxt_intro (j + 1, [y]) ⟨hgo, htk, hok3⟩ (Nat.sub_lt_sub_left hgo (Nat.lt_succ_self _)) ?_
              simp only [List.length_singleton, coS]
              refine wk_l [1, 4] (by simp) ?_ ?_
              · simp [-List.map_map, upd, inj1, Γ0, encX, encC]
              · refine ⟨⟨.map .i64 m, by simp [upd_ap, blkF_ap], hms _ _ _⟩, ?_⟩
                simp [-List.map_map, upd, inj1, Γ0, hyc, encC]
            · have hbb := app_bounds (n := n + 1) (by omega)
              have hb8 : (n + 1 + 1) * 40 ≤ 140737488355328 := by omega
              rw [hl0] at hfl
              refine (show ∃ fl, (l.map encCl).flatten = fl from ⟨_, rfl⟩).elim fun fl hfe2 => ?_
              rw [hfe2] at hfl
              have hfl2 : ((l ++ [y]).map encCl).flatten = fl ++ [D.i .i64 y.id, .i .i64 y.dim, encC y.b] := by rw [List.map_append, List.flatten_append, hfe2]; rfl
              have hlen2 : (l ++ [y]).length = n + 1 + 1 := by rw [List.length_append, hl0]; rfl
              simp only [coS, hfe2]
              simp (config := { maxSteps := 1000000 }) [-List.map_map, -List.mapM_map, ↓KW, encX, encC, hef, q1, hxj, hxj', lookA_mp, hml, hcp, hcp', hpl, hyc, hw, hfl, hbb, hb8, le_maxLen, hsc, one_encM, cellsA_encM, one_encC, cellsA_encC, inj1_encC]
              refine nxt_intro (j + 1, l ++ [y]) ⟨hgo, htk, hok3⟩ (Nat.sub_lt_sub_left hgo (Nat.lt_succ_self _)) ?_
              simp only [hlen2, coS, hfl2]
              refine wk_l [1, 5] (by simp) ?_ ?_
              · simp [-List.map_map, upd, inj1, Γ0, encX, encC]
              · refine ⟨⟨.map .i64 m, by simp [upd_ap, blkF_ap, hsc, kill_one], hms _ _ _⟩, ?_⟩
                simp [-List.map_map, upd, inj1, Γ0, hyc, encC]
        · have q1 : ¬ (j : Int) < x.length := by omega
          have ej : j = x.length := by omega
          have hall : knAll c x = true := by
            unfold knAll
            rw [List.all_eq_true]
            intro f hf
            obtain ⟨k, hk, e2⟩ := List.getElem_of_mem hf
            have := hok k (by omega)
            rw [List.getD_eq_getElem?_getD, List.getElem?_eq_getElem hk, e2] at this
            exact this
          rw [List.take_of_length_le (by omega)] at hlj
          have hD1 : mixN c x x.length = true → res = .tp [.sl [], .i .i64 0, .i .i64 260] := fun h => by
            rcases hD with e | e | e
            · rw [hall] at e; exact absurd e.1 (by decide)
            · exact e.2.2
            · rw [h] at e; exact absurd e.2.1 (by decide)
          have hD2 : mixN c x x.length = false → res = .tp [encX l, .i .i64 (dLast c x x.length), .i .i64 0] := fun h => by
            rcases hD with e | e | e
            · rw [hall] at e; exact absurd e.1 (by decide)
            · rw [h] at e; exact absurd e.2.1 (by decide)
            · rw [← hlj]; exact e.2.2
          clear hD hok
          rcases hl0 : l.length with _ | n
          · have e0 : l = [] := List.eq_nil_of_length_eq_zero hl0
            have ex : x = [] := List.eq_nil_of_length_eq_zero (by omega)
            have hr : res = .tp [.sl [], .i .i64 (-1), .i .i64 0] := by
              have := hD2 (by rw [ex]; rfl)
              rw [e0, ex] at this; exact this
            simp only [coS]
            simp (config := { maxSteps := 1000000 }) [-List.map_map, -List.mapM_map, ↓KW, encX, encC, q1]
            refine loopP_inv (fun i : Nat => i = 0) (fun i => StL [(10, .nil), (15, .d (.i .i64 (-1))), (57, .d (.i .i64 0)), (58, .d (.i .i64 0))] none []) (fun i => 0) 0 rfl ?_ ?_
            · refine wk_l [] (by simp) ?_ ?_ <;> simp [-List.map_map, upd, inj1, Γ0, blksOk]
            · intro i hi0
              simp (config := { maxSteps := 1000000 }) [-List.map_map, -List.mapM_map, ↓KW, hr, resD_3]
          · have hfl := ccs_len l
            rw [hl0] at hfl
            have hrd0 := fun (i : Nat) (y : Cl) (h : l[i]? = some y) => ccs_get h
            have hfin : chunk 3 (n + 1) ((l.map encCl).flatten) = l.map encCl := by
              have h := chunk_three (l.map encCl) (fun x hx => by obtain ⟨z, _, rfl⟩ := List.mem_map.1 hx; rfl)
              rwa [List.length_map, hl0] at h
            refine (show ∃ fl, (l.map encCl).flatten = fl from ⟨_, rfl⟩).elim fun fl hfe2 => ?_
            rw [hfe2] at hfl hfin
            simp only [hfe2] at hrd0
            have hxn : x.length = n + 1 := by omega
            have hdx : ∀ i y, l[i]? = some y → y.dim = dOf c (x.getD i (0, 0)).1 := fun i y h => by
              rw [← hlj] at h
              unfold clsX at h
              rw [List.getElem?_map] at h
              obtain ⟨f, hf, e⟩ := Option.map_eq_some_iff.1 h
              rw [← e, List.getD_eq_getElem?_getD, hf]; rfl
            simp only [coS, hfe2]
            simp (config := { maxSteps := 1000000 }) [-List.map_map, -List.mapM_map, ↓KW, encX, encC, q1]
            refine loopP_inv (fun y : Nat × Int => y.1 ≤ n + 1 ∧ mixN c x y.1 = false ∧ dLast c x y.1 = y.2) (fun y => StL [(10, .own 1 0 (n + 1) 3), (15, .d (.i .i64 y.2)), (56, .own 1 0 (n + 1) 3), (57, .d (.i .i64 ((n + 1 : Nat) : Int))), (58, .d (.i .i64 (y.1 : Int)))] none [.cells 63 (fl.map .d)]) (fun y => n + 1 - y.1) (0, -1) ⟨Nat.zero_le _, rfl, rfl⟩ ?_ ?_
            · refine wk_l [2] (by simp) ?_ ?_ <;> simp [-List.map_map, upd, inj1, Γ0, encX]
            · rintro ⟨i, d⟩ ⟨hin, hmx, hdl⟩
              simp only at hin hmx hdl ⊢
              by_cases hgo2 : i < n + 1
              · have q2 : (i : Int) < ((n + 1 : Nat) : Int) := by omega
                have q3 : (i : Int) < (n : Int) + 1 := by omega
                have hwi : IntKind.i64.wrap ((i : Int) + 1) = (i : Int) + 1 := wrap_i64 (by omega) (by omega)
                have hli : l[i]? = some l[i] := List.getElem?_eq_getElem (by omega)
                have hrd := hrd0 i _ hli
                have hdy := hdx i _ hli
                refine (show ∃ y, l[i]'(by omega) = y from ⟨_, rfl⟩).elim fun y hye => ?_
                rw [hye] at hrd hdy
                have hyc : encCl y = [D.i .i64 y.id, .i .i64 y.dim, encC y.b] := rfl
                have hrd2 : List.take 3 (List.drop (i * 3) (fl.map AV.d)) = [.d (.i .i64 y.id), .d (.i .i64 y.dim), .d (encC y.b)] := by
                  rw [← List.map_drop, ← List.map_take, hrd]; rfl
                have hb3 : i * 3 + 3 ≤ (n + 1) * 3 := by omega
                have hl1 : dLast c x (i + 1) = y.dim := by rw [dLast, hdy]
                have hm1 : mixN c x (i + 1) = (decide (0 < i) && decide (y.dim ≠ d)) := by
                  rw [mixN, hmx, Bool.false_or, ← hdy, ← hdl]
                  cases i with
                  | zero => rfl
                  | succ i => rfl
                by_cases h0 : 0 < i
                · have h0' : (0 : Int) < i := by omega
                  by_cases h1 : y.dim = d
                  · have h1' : ((y.dim != d) : Bool) = false := by simpa using h1
                    have hmx1 : mixN c x (i + 1) = false := by rw [hm1, decide_eq_false (p := y.dim ≠ d) (fun h => h h1), Bool.and_false]
                    simp (config := { maxSteps := 1000000 }) [-List.map_map, -List.mapM_map, ↓KW, q2, q3, hgo2, hrd2, hb3, hfl, h0, h0', h1, h1', hwi, one_encC, cellsA_encC, inj1_encC]
                    refine nxt_intro (i + 1, d) ⟨hgo2, hmx1, by rw [hl1, h1]⟩ (Nat.sub_lt_sub_left hgo2 (Nat.lt_succ_self _)) (wk_l [1] (by simp) ?_ ?_) <;> simp [-List.map_map, upd, inj1, Γ0]
                  · have h1' : ((y.dim != d) : Bool) = true := by simpa using h1
                    have hmx1 : mixN c x (i + 1) = true := by rw [hm1, decide_eq_true h1, decide_eq_true h0]; rfl
                    have hr := hD1 (mixN_mono hmx1 _ (by omega))
                    simp (config := { maxSteps := 1000000 }) [-List.map_map, -List.mapM_map, ↓KW, q2, q3, hgo2, hrd2, hb3, hfl, h0, h0', h1, h1', hwi, one_encC, cellsA_encC, inj1_encC, hr, resD_3]
                · have h0' : ¬ (0 : Int) < i := by omega
                  have hmx1 : mixN c x (i + 1) = false := by rw [hm1, decide_eq_false h0]; rfl
                  simp (config := { maxSteps := 1000000 }) [-List.map_map, -List.mapM_map, ↓KW, q2, q3, hgo2, hrd2, hb3, hfl, h0, h0', hwi, one_encC, cellsA_encC, inj1_encC]
                  refine nxt_intro (i + 1, y.dim) ⟨hgo2, hmx1, hl1⟩ (Nat.sub_lt_sub_left hgo2 (Nat.lt_succ_self _)) (wk_l [1] (by simp) ?_ ?_) <;> simp [-List.map_map, upd, inj1, Γ0]
              · have q2 : ¬ (i : Int) < ((n + 1 : Nat) : Int) := by omega
                have q3 : ¬ (i : Int) < (n : Int) + 1 := by omega
                have ein : i = n + 1 := by omega
                rw [ein, ← hxn] at hmx hdl
                have hr := hD2 hmx
                rw [hdl] at hr
                have e5 : List.take ((n + 1) * 3) (fl.map AV.d) = fl.map AV.d := List.take_of_length_le (by rw [List.length_map]; omega)
                simp (config := { maxSteps := 1000000 }) [-List.map_map, -List.mapM_map, ↓KW, q2, q3, hr, resD_3, hfl, e5, hfin, encX]
end Go.Am
end

section
set_option linter.unusedVariables false
set_option linter.unusedSimpArgs false
open Go Go.Am Go.Proofs
namespace Go.Am
set_option linter.unusedSimpArgs false
set_option linter.unusedVariables false
theorem sum_facts {e : Nat} {L m : List (Int × Int)} (hm : sumM [] L = m) (hb : Bnd (2 ^ e) L) (hl : L.length ≤ 10000) (hk : Keys L) : Bnd (2 ^ (e + 14)) m ∧ Keys m ∧ m.length ≤ 10000 := by
  subst hm
  have h1 := sumM_bnd L [] (Bnd.nil 0) hb
  have h2 := sumM_len [] L
  refine ⟨h1.mono ?_, sumM_keys L [] (fun _ h => by cases h) hk, by simp only [List.length_nil] at h2; omega⟩
  rw [Nat.zero_add, Nat.add_comm]
  exact pw_len (Nat.le_trans hl (by decide))
theorem sumM_app (m a b : List (Int × Int)) : sumM m (a ++ b) = sumM (sumM m a) b := by unfold sumM; rw [List.foldl_append]
theorem Keys.app {a b : List (Int × Int)} (ha : Keys a) (hb : Keys b) : Keys (a ++ b) := fun x hx => by
  rcases List.mem_append.1 hx with h | h
  · exact ha x h
  · exact hb x h
theorem Keys.take {a : List (Int × Int)} (ha : Keys a) (i : Nat) : Keys (a.take i) := fun x hx => ha x (List.mem_of_mem_take hx)
theorem mulR_keys {k : Int} {b : List (Int × Int)} (hb : Keys b) : Keys (mulR k b) := fun x hx => by
  obtain ⟨y, hy, rfl⟩ := List.mem_map.1 hx
  exact hb y hy
theorem bOf_keys {c : List Cl} (hk : ∀ x ∈ c, Keys x.b) (n : Int) : Keys (bOf c n) := by
  unfold bOf
  cases e : findX c n with
  | none => intro x hx; cases hx
  | some x => exact hk x (findX_some e).1
theorem bdL_keys {c : List Cl} (hk : ∀ x ∈ c, Keys x.b) : ∀ x : List (Int × Int), Keys (bdL c x)
  | [] => fun y hy => by cases hy
  | f :: x => (mulR_keys (bOf_keys hk f.1)).app (bdL_keys hk x)
theorem mulR_take {k : Int} {b : List (Int × Int)} {i : Nat} (h : i < b.length) : (mulR k b).take (i + 1) = (mulR k b).take i ++ [(b[i].1, k * b[i].2)] := by
  unfold mulR
  rw [List.take_add_one, List.getElem?_map, List.getElem?_eq_getElem h]; rfl
set_option maxHeartbeats 4000000 in
set_option maxRecDepth 10000 in
theorem chainsBoundary {f g : Nat} {c : List Cl} {x : List (Int × Int)} (hc : SzX f c) (hi : Inc c) (hk : ∀ x ∈ c, Keys x.b) (hx : x.length ≤ 100) (hg : Bnd (2 ^ g) x) (hfg : f + g + 20 < 4398046511104) :
    Spec Tryz.prog 12 [encX c, encC x] (.tp [encC (bndX c x).1, .i .i64 (bndX c x).2]) := by
  have hcl := hc.len
  have hC := cellsOf c x (by omega) (by omega) hi
  by_cases he : (dimX c x).2 = 0
  rotate_left
  · have hr : bndX c x = ([], (dimX c x).2) := by unfold bndX; rw [if_neg he]
    rw [hr]
    unfold coD at hC
    rw [if_neg he] at hC
    generalize (dimX c x).1 = d at *
    generalize (dimX c x).2 = e at *
    have he' : ((e != 0) : Bool) = true := by simpa using he
    refine spec_of_d (N := 55) follows_mixed Tryz.func12 rfl rfl rfl (by kernel_rfl) (by kernel_rfl) (by kernel_rfl) (by kernel_rfl) rfl rec42 (by simp) ?_
    simp (config := { maxSteps := 1000000 }) [-List.map_map, -List.mapM_map, ↓KW, encX, encC]
    refine callP_intro (ds := [encX c, encC x]) (by rfl) hC ?_
    simp (config := { maxSteps := 1000000 }) [-List.map_map, -List.mapM_map, ↓KW, encX, encC, he, he', resD_2]
  · have hr : bndX c x = (chainM (sumM [] (bdL c x)), 0) := by unfold bndX bdX; rw [if_pos he, make_eq]
    rw [hr]
    unfold coD at hC
    rw [if_pos he, he] at hC
    clear he hr
    generalize (dimX c x).1 = d at *
    have hle := bdL_le hc hx hg
    have hkk := bdL_keys hk x
    obtain ⟨mf, hmf⟩ : ∃ m, sumM [] (bdL c x) = m := ⟨_, rfl⟩
    rw [hmf]
    have hmff := sum_facts hmf hle.2 hle.1 hkk
    have hll : (clsX c x).length = x.length := by unfold clsX; rw [List.length_map]
    have hlg : ∀ i (h : i < x.length), (clsX c x)[i]? = some (clX c x[i].1) := fun i h => by unfold clsX; rw [List.getElem?_map, List.getElem?_eq_getElem h]; rfl
    obtain ⟨l, hle2⟩ : ∃ l, clsX c x = l := ⟨_, rfl⟩
    rw [hle2] at hC hll hlg
    refine spec_of_d (N := 55) follows_mixed Tryz.func12 rfl rfl rfl (by kernel_rfl) (by kernel_rfl) (by kernel_rfl) (by kernel_rfl) rfl rec42 (by simp) ?_
    simp (config := { maxSteps := 1000000 }) [-List.map_map, -List.mapM_map, ↓KW, encX, encC]
    refine callP_intro (ds := [encX c, encC x]) (by rfl) hC ?_
    simp (config := { maxSteps := 1000000 }) [-List.map_map, -List.mapM_map, ↓KW, encX, encC]
    refine loopP_inv (fun y : Nat × List (Int × Int) => y.1 ≤ x.length ∧ sumM [] (bdL c (x.take y.1)) = y.2) (fun y => StL [(1, .d (encC x)), (9, .mp 1), (25, .d (encX l)), (26, .d (.i .i64 x.length)), (27, .d (.i .i64 (y.1 : Int)))] none [.map .i64 (encE y.2)]) (fun y => x.length - y.1) (0, []) ⟨Nat.zero_le _, rfl⟩ ?_ ?_
    · refine wk_l [1] (by simp) ?_ ?_
      · simp [-List.map_map, upd, inj1, Γ0, encX, encC, hll]
      · exact ⟨⟨.map .i64 [], by simp [upd_ap], subO_encE []⟩, trivial⟩
    · rintro ⟨i, m⟩ ⟨hin, him⟩
      simp only at hin him ⊢
      by_cases hgo : i < x.length
      · have q1 : (i : Int) < x.length := by omega
        have hxi : x[i]? = some x[i] := List.getElem?_eq_getElem hgo
        have hli := hlg i hgo
        have hw : IntKind.i64.wrap ((i : Int) + 1) = (i : Int) + 1 := wrap_i64 (by omega) (by omega)
        have htk := bdL_take (c := c) hgo
        have hgt : Bnd (2 ^ g) (x.take i) := hg.take
        have hle1 := bdL_le hc (x := x.take i) (by rw [List.length_take]; omega) hgt
        have hle2 := bdL_le hc (x := x.take (i + 1)) (by rw [List.length_take]; omega) hg.take
        have hk1 := bdL_keys hk (x.take i)
        have hk2 := bdL_keys hk (x.take (i + 1))
        rw [htk] at hle2 hk2
        have hgz := hg _ (List.getElem_mem hgo)
        refine (show ∃ fa, x[i] = fa from ⟨_, rfl⟩).elim fun fa hfa => ?_
        rw [hfa] at hxi hli htk hle2 hk2 hgz
        refine (show ∃ y, clX c fa.1 = y from ⟨_, rfl⟩).elim fun y hy => ?_
        have hyb : bOf c fa.1 = y.b := by rw [← hy]; rfl
        have hbl := bOf_len hc.bl fa.1
        have hbb := bOf_bnd hc.bb fa.1
        have hbk := bOf_keys hk fa.1
        rw [hy] at hli
        rw [hyb] at htk hle2 hk2 hbl hbb hbk
        refine (show ∃ b, y.b = b from ⟨_, rfl⟩).elim fun b hb => ?_
        rw [hb] at htk hle2 hk2 hbl hbb hbk
        have hyc : encCl y = [D.i .i64 y.id, .i .i64 y.dim, encC b] := by rw [← hb]; rfl
        have hef := encF_eq fa
        refine (show ∃ L, bdL c (x.take i) = L from ⟨_, rfl⟩).elim fun L hL => ?_
        rw [hL] at htk hle1 hle2 hk1 hk2 him
        refine (show ∃ k, fa.2 = k from ⟨_, rfl⟩).elim fun k hke => ?_
        rw [hke] at htk hle2 hk2 hgz hef
        clear hle hkk hfa hy hyb hb hL hgt
        have hli' : ∀ h : i < l.length, l[i]'h = y := fun h => Option.some.inj ((List.getElem?_eq_getElem h).symm.trans hli)
        have hxi' : ∀ h : i < x.length, x[i]'h = fa := fun h => Option.some.inj ((List.getElem?_eq_getElem h).symm.trans hxi)
        simp (config := { maxSteps := 1000000 }) [-List.map_map, -List.mapM_map, ↓KW, encX, encC, q1, hli, hli', hyc, hll, one_encC, cellsA_encC, inj1_encC]
        refine loopP_inv (fun z : Nat × List (Int × Int) => z.1 ≤ b.length ∧ sumM [] (L ++ (mulR k b).take z.1) = z.2) (fun z => StL [(1, .d (encC x)), (9, .mp 1), (10, .d (.i .i64 (i : Int))), (25, .d (encX l)), (26, .d (.i .i64 x.length)), (27, .d (.i .i64 (i : Int))), (33, .d (encC b)), (34, .d (.i .i64 b.length)), (35, .d (.i .i64 (z.1 : Int)))] none [.map .i64 (encE z.2)]) (fun z => b.length - z.1) (0, m) ⟨Nat.zero_le _, by rw [List.take_zero, List.append_nil]; exact him⟩ ?_ ?_
        · refine wk_l [1] (by simp) ?_ ?_
          · simp [-List.map_map, upd, inj1, Γ0, encX, encC]
          · exact ⟨⟨.map .i64 (encE m), by simp [upd_ap, blkF_ap], subO_encE m⟩, trivial⟩
        · rintro ⟨j, m⟩ ⟨hjn, hjm⟩
          simp only at hjn hjm ⊢
          clear him
          have hmt := mulR_len k b
          have hsub1 : Bnd (2 ^ (f + g)) (L ++ (mulR k b).take j) := hle1.2.app (fun z hz => hle2.2 z (List.mem_append_right _ (List.mem_of_mem_take hz)))
          have hsub2 : (L ++ (mulR k b).take j).length ≤ 10000 := by
            have := hle2.1
            rw [List.length_append] at this ⊢
            rw [List.length_take]; omega
          have hmf2 := sum_facts hjm hsub1 hsub2 (hk1.app (Keys.take (a := mulR k b) (fun z hz => hk2 z (List.mem_append_right _ hz)) j))
          by_cases hgj : j < b.length
          · have q2 : (j : Int) < b.length := by omega
            have hbj : b[j]? = some b[j] := List.getElem?_eq_getElem hgj
            have hw2 : IntKind.i64.wrap ((j : Int) + 1) = (j : Int) + 1 := wrap_i64 (by omega) (by omega)
            have htj := mulR_take (k := k) hgj
            have hbz := hbb _ (List.getElem_mem hgj)
            refine (show ∃ fb, b[j] = fb from ⟨_, rfl⟩).elim fun fb hfb => ?_
            rw [hfb] at hbj htj hbz
            have hbj' : ∀ h : j < b.length, b[j]'h = fb := fun h => Option.some.inj ((List.getElem?_eq_getElem h).symm.trans hbj)
            have heb := encF_eq fb
            have hmul := intMulZ k fb.2 (szE hgz (by omega)) (szE hbz (by omega))
            refine (show ∃ m2, addM m fb.1 (k * fb.2) = m2 from ⟨_, rfl⟩).elim fun m2 hm2 => ?_
            have hadd := sumAdd m fb.1 (k * fb.2) (szE (getM_bnd hmf2.1 fb.1) (by omega)) (szE (e := g + f) (by rw [Int.natAbs_mul, ← pw_mul]; exact Nat.mul_le_mul hgz hbz) (by omega))
            rw [hm2] at hadd
            have hnx : sumM [] (L ++ (mulR k b).take (j + 1)) = m2 := by
              rw [htj, ← List.append_assoc, sumM_app, hjm, ← hm2]; rfl
            refine (show ∃ z, k * fb.2 = z from ⟨_, rfl⟩).elim fun z hz => ?_
            rw [hz] at hmul hadd
            simp (config := { maxSteps := 1000000 }) [-List.map_map, -List.mapM_map, ↓KW, encX, encC, q2, hbj, hbj', heb, hxi, hxi', hef, one_encM, cellsA_encM]
            refine callP_intro (ds := [encZ k, encZ fb.2]) (by rfl) hmul ?_
            rw [encZ_eq]
            simp (config := { maxSteps := 1000000 }) [-List.map_map, -List.mapM_map, ↓KW, encX, encC, cellsA_encM, one_encM, inj1_encM, inj_encM, kills_encM]
            refine o1_callM hadd (by simp) (id := 1) (by simp [oev_tmp, upd_ap, sltF_ap]) (by simp [upd_ap, blkF_ap]) (noh_encE _) (by simp [oev_tmp, upd_ap, viss_cons, viss_nil, vis_d, vis_ag]) (by simp [oev_tmp, upd_ap]; rfl) rfl (noh_encE _) ?_
            simp (config := { maxSteps := 1000000 }) [-List.map_map, -List.mapM_map, ↓KW, hw2]
            refine nxt_intro (j + 1, m2) ⟨hgj, hnx⟩ (Nat.sub_lt_sub_left hgj (Nat.lt_succ_self _)) (wk_l [1] (by simp) ?_ ?_)
            · simp [-List.map_map, upd, inj1, Γ0, encX, encC]
            · exact ⟨⟨.map .i64 (encE m2), by simp [upd_ap], subO_encE m2⟩, trivial⟩
          · have q2 : ¬ (j : Int) < b.length := by omega
            have hjt : (mulR k b).take j = mulR k b := List.take_of_length_le (by omega)
            rw [hjt, ← htk] at hjm
            simp (config := { maxSteps := 1000000 }) [-List.map_map, -List.mapM_map, ↓KW, encX, encC, q2, hw]
            refine nxt_intro (i + 1, m) ⟨hgo, hjm⟩ (Nat.sub_lt_sub_left hgo (Nat.lt_succ_self _)) (wk_l [1] (by simp) ?_ ?_)
            · simp [-List.map_map, upd, inj1, Γ0, encX, encC]
            · exact ⟨⟨.map .i64 (encE m), by simp [upd_ap, blkF_ap], subO_encE m⟩, trivial⟩
      · have q1 : ¬ (i : Int) < x.length := by omega
        rw [List.take_of_length_le (by omega), hmf] at him
        have hmf1 := hmff.1
        have hsc := sumChain mf (fun q => szE (getM_bnd hmf1 q) (by omega)) (by have := hmff.2.2; omega) hmff.2.1.all
        have him' : m = mf := him.symm
        simp (config := { maxSteps := 1000000 }) [-List.map_map, -List.mapM_map, ↓KW, encX, encC, q1, him']
        refine o1_callM hsc (by simp) (id := 1) (by simp [oev_tmp, upd_ap, sltF_ap]) (by simp [upd_ap, blkF_ap]) (noh_encE _) (by simp [viss_nil]) (by rfl) rfl (noh_encE _) ?_
        simp (config := { maxSteps := 1000000 }) [-List.map_map, -List.mapM_map, ↓KW, encC, resD_2]
set_option maxHeartbeats 2000000 in
set_option maxRecDepth 10000 in
theorem chainsCycle {f g : Nat} {c : List Cl} {x : List (Int × Int)} (hc : SzX f c) (hi : Inc c) (hk : ∀ x ∈ c, Keys x.b) (hx : x.length ≤ 100) (hg : Bnd (2 ^ g) x) (hfg : f + g + 20 < 4398046511104) :
    Spec Tryz.prog 17 [encX c, encC x] (.b (cycX c x)) := by
  have hB := chainsBoundary hc hi hk hx hg hfg
  unfold bndX at hB
  unfold cycX
  generalize (dimX c x).2 = e at *
  generalize bdX c x = out at *
  refine spec_of_d (N := 20) follows_mixed Tryz.func17 rfl rfl rfl (by kernel_rfl) (by kernel_rfl) (by kernel_rfl) (by kernel_rfl) rfl rec49 (by simp) ?_
  by_cases he : e = 0
  · rw [if_pos he] at hB
    subst he
    by_cases ho : out.length = 0
    · have ho' : (out.length : Int) = 0 := by omega
      simp (config := { maxSteps := 1000000 }) [-List.map_map, -List.mapM_map, ↓KW, encX, encC]
      refine callP_intro (ds := [encX c, encC x]) (by rfl) hB ?_
      simp (config := { maxSteps := 1000000 }) [-List.map_map, -List.mapM_map, ↓KW, encC, ho, ho']
    · have ho' : ¬ (out.length : Int) = 0 := by omega
      have ho2 : (((out.length : Int) == 0) : Bool) = false := by simpa using ho
      simp (config := { maxSteps := 1000000 }) [-List.map_map, -List.mapM_map, ↓KW, encX, encC]
      refine callP_intro (ds := [encX c, encC x]) (by rfl) hB ?_
      simp (config := { maxSteps := 1000000 }) [-List.map_map, -List.mapM_map, ↓KW, encC, ho, ho', ho2]
  · rw [if_neg he] at hB
    have he' : ((e == 0) : Bool) = false := by simpa using he
    simp (config := { maxSteps := 1000000 }) [-List.map_map, -List.mapM_map, ↓KW, encX, encC]
    refine callP_intro (ds := [encX c, encC x]) (by rfl) hB ?_
    simp (config := { maxSteps := 1000000 }) [-List.map_map, -List.mapM_map, ↓KW, encC, he, he']
end Go.Am
end

section
set_option linter.unusedVariables false
set_option linter.unusedSimpArgs false
open Go Go.Am Go.Proofs
namespace Go.Am
set_option linter.unusedSimpArgs false
set_option linter.unusedVariables false
theorem lay_zero {H H' : Nat → Option HO} {ρ : Nat → Nat} : ∀ {v : List Int} {i : Nat}, v[i]? = some 0 → cellsOk H H' ρ (lay ((vcs v).map AV.d) (i * 2) [.d (.b false), .nil]) ((vcs v).map .d)
  | [], i, h => by simp at h
  | z :: v, 0, h => by
    have hz : z = 0 := by simpa using h
    subst hz
    have e : lay ((vcs (0 :: v)).map AV.d) (0 * 2) [.d (.b false), .nil] = AV.d (.b false) :: AV.nil :: (vcs v).map .d := by rw [vcs_cons]; rfl
    rw [e, vcs_cons]
    refine ⟨(subL_d _ _).2 rfl, ⟨by rw [show ((0 : Int).natAbs) = 0 from rfl, digs_zero]; rfl, fun a ha => by simp [vis] at ha⟩, cellsOk_data rfl rfl⟩
  | z :: v, i + 1, h => by
    have ih := lay_zero (H := H) (H' := H') (ρ := ρ) (v := v) (i := i) (by simpa using h)
    have e : lay ((vcs (z :: v)).map AV.d) ((i + 1) * 2) [.d (.b false), .nil] = AV.d (.b (decide (z < 0))) :: AV.d (encM (digs z.natAbs)) :: lay ((vcs v).map AV.d) (i * 2) [.d (.b false), .nil] := by
      unfold lay
      rw [vcs_cons, show (i + 1) * 2 = i * 2 + 1 + 1 by omega]
      show _ = _
      simp only [encN, List.cons_append, List.nil_append, List.map_cons, List.take_succ_cons, List.length_cons, List.length_nil]
      rw [show i * 2 + 1 + 1 + (0 + 1 + 1) = i * 2 + (0 + 1 + 1) + 1 + 1 by omega, List.drop_succ_cons, List.drop_succ_cons]
    rw [e, vcs_cons]
    exact ⟨(subL_d _ _).2 rfl, (subL_d _ _).2 rfl, ih⟩
theorem sum_lv {x : List (Int × Int)} (h : Val x) (q : Int) : getM (sumM [] x) q = lv q x := by
  rw [(sumM_mp x [] Mp.nil).2 q, getM_nil, Int.zero_add, cf_getM h, lv_getM h]
set_option maxHeartbeats 4000000 in
set_option maxRecDepth 10000 in
theorem chainsVector {g : Nat} {c : List Cl} {x : List (Int × Int)} (k : Int) (hl : c.length ≤ 100) (hi : Inc c) (hx : x.length ≤ 100) (hv : Val x) (hkx : Keys x) (hg : Bnd (2 ^ g) x) (hgg : g + 20 < 4398046511104) :
    Spec Tryz.prog 14 [encX c, .i .i64 k, encC x] (.tp [encV2 (vecX c k x).1, .i .i64 (vecX c k x).2]) := by
  have hC := cellsOf c x (by omega) (by omega) hi
  have hI := complexCells c k (by omega)
  have hil := idsX_len c k
  by_cases he : (dimX c x).2 = 0
  rotate_left
  · have hr : vecX c k x = ([], (dimX c x).2) := by unfold vecX; rw [if_neg he]
    rw [hr]
    unfold coD at hC
    rw [if_neg he] at hC
    generalize (dimX c x).1 = d at *
    generalize (dimX c x).2 = e at *
    have he' : ((e != 0) : Bool) = true := by simpa using he
    refine spec_of_d (N := 71) follows_mixed Tryz.func14 rfl rfl rfl (by kernel_rfl) (by kernel_rfl) (by kernel_rfl) (by kernel_rfl) rfl rec46 (by simp) ?_
    simp (config := { maxSteps := 1000000 }) [-List.map_map, -List.mapM_map, ↓KW, encX, encC]
    refine callP_intro (ds := [encX c, encC x]) (by rfl) hC ?_
    simp (config := { maxSteps := 1000000 }) [-List.map_map, -List.mapM_map, ↓KW, encX, encC, encV2, he, he', resD_2]
  · by_cases hb : 0 < x.length ∧ (dimX c x).1 ≠ k
    · have hr : vecX c k x = ([], 260) := by unfold vecX; rw [if_pos he, if_pos hb]
      rw [hr]
      unfold coD at hC
      rw [if_pos he, he] at hC
      clear he hr
      generalize (dimX c x).1 = d at *
      have b1 := hb.1
      have b1' : (0 : Int) < x.length := by omega
      have b2 : ((d != k) : Bool) = true := by simpa using hb.2
      generalize clsX c x = l at *
      refine spec_of_d (N := 71) follows_mixed Tryz.func14 rfl rfl rfl (by kernel_rfl) (by kernel_rfl) (by kernel_rfl) (by kernel_rfl) rfl rec46 (by simp) ?_
      simp (config := { maxSteps := 1000000 }) [-List.map_map, -List.mapM_map, ↓KW, encX, encC]
      refine callP_intro (ds := [encX c, encC x]) (by rfl) hC ?_
      simp (config := { maxSteps := 1000000 }) [-List.map_map, -List.mapM_map, ↓KW, encX, encC, encV2, b1, b1', b2, resD_2]
    · have hr : vecX c k x = (rowX (idsX c k) x, 0) := by unfold vecX; rw [if_pos he, if_neg hb]
      rw [hr]
      unfold coD at hC
      rw [if_pos he, he] at hC
      clear he hr
      generalize (dimX c x).1 = d at *
      generalize clsX c x = l at *
      have hlv := fun q => sum_lv hv q
      have hmff := fun m h => sum_facts (m := m) h hg (by omega) hkx
      generalize idsX c k = ids at *
      obtain ⟨row, hrow⟩ : ∃ r, rowX ids x = r := ⟨_, rfl⟩
      have hrl := rowX_len ids x
      have hrg := fun i q h => rowX_get (ids := ids) (x := x) (k := i) (q := q) h
      rw [hrow] at hrl hrg ⊢
      have hcnd : (if 0 < x.length then (d != k : Bool) else false) = false := by
        split
        · rename_i h
          have : d = k := Decidable.byContradiction fun h' => hb ⟨h, h'⟩
          simp [this]
        · rfl
      refine spec_of_d (N := 71) follows_mixed Tryz.func14 rfl rfl rfl (by kernel_rfl) (by kernel_rfl) (by kernel_rfl) (by kernel_rfl) rfl rec46 (by simp) ?_
      simp (config := { maxSteps := 1000000 }) [-List.map_map, -List.mapM_map, ↓KW, encX, encC]
      refine callP_intro (ds := [encX c, encC x]) (by rfl) hC ?_
      by_cases b1 : 0 < x.length
      · have b2' : d = k := Decidable.byContradiction fun h => hb ⟨b1, h⟩
        have b2 : ((d != k) : Bool) = false := by simpa using b2'
        have b1' : (0 : Int) < x.length := by omega
        simp (config := { maxSteps := 1000000 }) [-List.map_map, -List.mapM_map, ↓KW, encX, encC, b1, b1', b2, b2']
        refine loopP_inv (fun y : Nat × List (Int × Int) => y.1 ≤ x.length ∧ sumM [] (x.take y.1) = y.2) (fun y => StL [(0, .d (encX c)), (1, .d (.i .i64 k)), (11, .mp 1), (37, .d (encC x)), (38, .d (.i .i64 x.length)), (39, .d (.i .i64 (y.1 : Int)))] none [.map .i64 (encE y.2)]) (fun y => x.length - y.1) (0, []) ⟨Nat.zero_le _, rfl⟩ ?_ ?_
        · refine wk_l [1] (by simp) ?_ ?_
          · simp [-List.map_map, upd, inj1, Γ0, encX, encC]
          · exact ⟨⟨.map .i64 [], by simp [upd_ap], subO_encE []⟩, trivial⟩
        · rintro ⟨i, m⟩ ⟨hin, him⟩
          simp only at hin him ⊢
          have hmf := sum_facts him hg.take (by rw [List.length_take]; omega) (hkx.take i)
          by_cases hgo : i < x.length
          · have q1 : (i : Int) < x.length := by omega
            have hxi : x[i]? = some x[i] := List.getElem?_eq_getElem hgo
            have hw : IntKind.i64.wrap ((i : Int) + 1) = (i : Int) + 1 := wrap_i64 (by omega) (by omega)
            have htk := sumM_take [] x i hgo
            rw [him] at htk
            have hgz := hg _ (List.getElem_mem hgo)
            refine (show ∃ fa, x[i] = fa from ⟨_, rfl⟩).elim fun fa hfa => ?_
            rw [hfa] at hxi htk hgz
            have hef := encF_eq fa
            have hadd := sumAdd m fa.1 fa.2 (szE (getM_bnd hmf.1 fa.1) (by omega)) (szE hgz (by omega))
            refine (show ∃ m2, addM m fa.1 fa.2 = m2 from ⟨_, rfl⟩).elim fun m2 hm2 => ?_
            rw [hm2] at hadd htk
            have hxi' : ∀ h : i < x.length, x[i]'h = fa := fun h => Option.some.inj ((List.getElem?_eq_getElem h).symm.trans hxi)
            simp (config := { maxSteps := 1000000 }) [-List.map_map, -List.mapM_map, ↓KW, encX, encC, q1, hxi, hxi', hef, one_encM, cellsA_encM]
            refine o1_callM hadd (by simp) (id := 1) (by simp [oev_tmp, upd_ap, sltF_ap]) (by simp [upd_ap, blkF_ap]) (noh_encE _) (by simp [oev_tmp, upd_ap, viss_cons, viss_nil, vis_d, vis_ag]) (by simp [oev_tmp, upd_ap]; rfl) rfl (noh_encE _) ?_
            simp (config := { maxSteps := 1000000 }) [-List.map_map, -List.mapM_map, ↓KW, hw]
            refine nxt_intro (i + 1, m2) ⟨hgo, htk⟩ (Nat.sub_lt_sub_left hgo (Nat.lt_succ_self _)) (wk_l [1] (by simp) ?_ ?_)
            · simp [-List.map_map, upd, inj1, Γ0, encX, encC]
            · exact ⟨⟨.map .i64 (encE m2), by simp [upd_ap], subO_encE m2⟩, trivial⟩
          · have q1 : ¬ (i : Int) < x.length := by omega
            rw [List.take_of_length_le (by omega)] at him
            rw [him] at hlv
            have hmx : 32 * (ids.length : Int) ≤ 281474976710656 ∧ (ids.length : Int) ≤ 9223372036854775807 := by omega
            simp (config := { maxSteps := 1000000 }) [-List.map_map, -List.mapM_map, ↓KW, encX, encC, q1]
            refine callP_intro (ds := [encX c, .i .i64 k]) (by rfl) hI ?_
            simp (config := { maxSteps := 1000000 }) [-List.map_map, -List.mapM_map, ↓KW, encIds, hmx]
            refine loopP_inv (fun y : Nat × List Int => y.1 ≤ ids.length ∧ row.take y.1 ++ (List.replicate ids.length 0).drop y.1 = y.2) (fun y => StL [(11, .mp 1), (15, .own 2 0 ids.length 2), (56, .d (encIds ids)), (57, .d (.i .i64 ids.length)), (58, .d (.i .i64 (y.1 : Int)))] none [.map .i64 (encE m), .cells 51 ((vcs y.2).map .d)]) (fun y => ids.length - y.1) (0, List.replicate ids.length 0) ⟨Nat.zero_le _, rfl⟩ ?_ ?_
            · have hz := fun (H H' : Nat → Option HO) ρ => zr_vcs (H := H) (H' := H') (ρ := ρ) ids.length
              refine wk_l [1, 2] (by simp) ?_ ?_
              · simp [-List.map_map, upd, inj1, Γ0, encIds]
              · exact ⟨⟨.map .i64 (encE m), by simp [upd_ap, blkF_ap], subO_encE m⟩, ⟨_, by simp [upd_ap]; rfl, subO_cells.2 ⟨rfl, hz _ _ _⟩⟩, trivial⟩
            · rintro ⟨j, v⟩ ⟨hjn, hjv⟩
              simp only at hjn hjv ⊢
              have hvl : v.length = ids.length := by rw [← hjv, List.length_append, List.length_take, List.length_drop, List.length_replicate]; omega
              have hvc := vcs_len v
              rw [hvl] at hvc
              by_cases hgj : j < ids.length
              · have q2 : (j : Int) < ids.length := by omega
                have hy : ids[j]? = some ids[j] := List.getElem?_eq_getElem hgj
                have hwj : IntKind.i64.wrap ((j : Int) + 1) = (j : Int) + 1 := wrap_i64 (by omega) (by omega)
                have hrj := hrg j _ hy
                refine (show ∃ q, ids[j] = q from ⟨_, rfl⟩).elim fun q hqe => ?_
                rw [hqe] at hy hrj
                have hy' : ∀ h : j < ids.length, ids[j]'h = q := fun h => Option.some.inj ((List.getElem?_eq_getElem h).symm.trans hy)
                have hb2 : j * 2 + 2 ≤ ids.length * 2 := by omega
                have hml := mlook_encE m q
                by_cases hs : (fnd q m).isSome = true
                · rw [if_pos hs, hlv q] at hml
                  refine (show ∃ z, lv q x = z from ⟨_, rfl⟩).elim fun z hz => ?_
                  rw [hz] at hml hrj
                  have hset := mix_set (a := row) (b := List.replicate ids.length 0) (k := j) (z := z) (by simp [hrl]) (by omega) hrj
                  rw [hjv] at hset
                  have hlay := lay_row (v := v) z (j := j) (by omega)
                  rw [hset] at hlay
                  simp (config := { maxSteps := 1000000 }) [-List.map_map, -List.mapM_map, ↓KW, encIds, q2, hgj, hy, hy', lookA_mp, hml, encV, hvc, hb2, hlay, hwj, cellsA_encM, one_encM]
                  refine nxt_intro (j + 1, row.take (j + 1) ++ (List.replicate ids.length 0).drop (j + 1)) ⟨hgj, rfl⟩ (Nat.sub_lt_sub_left hgj (Nat.lt_succ_self _)) (wk_l [1, 2] (by simp) ?_ ?_)
                  · simp [-List.map_map, upd, inj1, Γ0, encIds]
                  · refine ⟨⟨.map .i64 (encE m), by simp [upd_ap, blkF_ap], subO_encE m⟩, ⟨_, by simp [upd_ap], subO_cells.2 ⟨rfl, cellsOk_data rfl rfl⟩⟩, trivial⟩
                · rw [if_neg hs] at hml
                  have hz : lv q x = 0 := by
                    rw [← hlv q]
                    unfold getM
                    cases hf : fnd q m with
                    | none => rfl
                    | some j => rw [hf] at hs; exact (hs rfl).elim
                  rw [hz] at hrj
                  have hsame := mix_same (a := row) (b := List.replicate ids.length 0) (k := j) (by simp [hrl]) (by omega) (by rw [hrj, List.getElem?_replicate, if_pos hgj])
                  rw [hjv] at hsame
                  have hvj : v[j]? = some 0 := by
                    rw [← hjv, List.getElem?_append_right (by rw [List.length_take]; omega), List.length_take, Nat.min_eq_left (by omega), Nat.sub_self, List.getElem?_drop, Nat.add_zero, List.getElem?_replicate, if_pos hgj]
                  have hlz := fun (H H' : Nat → Option HO) ρ => lay_zero (H := H) (H' := H') (ρ := ρ) hvj
                  simp (config := { maxSteps := 1000000 }) [-List.map_map, -List.mapM_map, ↓KW, encIds, q2, hgj, hy, hy', lookA_mp, hml, cv, encV, hvc, hb2, hwj, cellsA_encM, one_encM]
                  refine nxt_intro (j + 1, v) ⟨hgj, hsame.symm⟩ (Nat.sub_lt_sub_left hgj (Nat.lt_succ_self _)) (wk_l [1, 2] (by simp) ?_ ?_)
                  · simp [-List.map_map, upd, inj1, Γ0, encIds]
                  · refine ⟨⟨.map .i64 (encE m), by simp [upd_ap, blkF_ap], subO_encE m⟩, ⟨_, by simp [upd_ap], subO_cells.2 ⟨rfl, hlz _ _ _⟩⟩, trivial⟩
              · have q2 : ¬ (j : Int) < ids.length := by omega
                have ej : v = row := by
                  rw [← hjv, List.take_of_length_le (by omega), List.drop_eq_nil_of_le (by simp; omega), List.append_nil]
                simp (config := { maxSteps := 1000000 }) [-List.map_map, -List.mapM_map, ↓KW, encIds, q2, ej]
                rw [ej] at hvc
                simp (config := { maxSteps := 1000000 }) [-List.map_map, -List.mapM_map, ↓KW, encV2, hvc, resD_2, chunk_vcs hrl, vcs_take_all hrl]
      · have b1' : ¬ (0 : Int) < x.length := by omega
        simp (config := { maxSteps := 1000000 }) [-List.map_map, -List.mapM_map, ↓KW, encX, encC, b1, b1']
        refine loopP_inv (fun y : Nat × List (Int × Int) => y.1 ≤ x.length ∧ sumM [] (x.take y.1) = y.2) (fun y => StL [(0, .d (encX c)), (1, .d (.i .i64 k)), (11, .mp 1), (37, .d (encC x)), (38, .d (.i .i64 x.length)), (39, .d (.i .i64 (y.1 : Int)))] none [.map .i64 (encE y.2)]) (fun y => x.length - y.1) (0, []) ⟨Nat.zero_le _, rfl⟩ ?_ ?_
        · refine wk_l [1] (by simp) ?_ ?_
          · simp [-List.map_map, upd, inj1, Γ0, encX, encC]
          · exact ⟨⟨.map .i64 [], by simp [upd_ap], subO_encE []⟩, trivial⟩
        · rintro ⟨i, m⟩ ⟨hin, him⟩
          simp only at hin him ⊢
          have hmf := sum_facts him hg.take (by rw [List.length_take]; omega) (hkx.take i)
          by_cases hgo : i < x.length
          · have q1 : (i : Int) < x.length := by omega
            have hxi : x[i]? = some x[i] := List.getElem?_eq_getElem hgo
            have hw : IntKind.i64.wrap ((i : Int) + 1) = (i : Int) + 1 := wrap_i64 (by omega) (by omega)
            have htk := sumM_take [] x i hgo
            rw [him] at htk
            have hgz := hg _ (List.getElem_mem hgo)
            refine (show ∃ fa, x[i] = fa from ⟨_, rfl⟩).elim fun fa hfa => ?_
            rw [hfa] at hxi htk hgz
            have hef := encF_eq fa
            have hadd := sumAdd m fa.1 fa.2 (szE (getM_bnd hmf.1 fa.1) (by omega)) (szE hgz (by omega))
            refine (show ∃ m2, addM m fa.1 fa.2 = m2 from ⟨_, rfl⟩).elim fun m2 hm2 => ?_
            rw [hm2] at hadd htk
            have hxi' : ∀ h : i < x.length, x[i]'h = fa := fun h => Option.some.inj ((List.getElem?_eq_getElem h).symm.trans hxi)
            simp (config := { maxSteps := 1000000 }) [-List.map_map, -List.mapM_map, ↓KW, encX, encC, q1, hxi, hxi', hef, one_encM, cellsA_encM]
            refine o1_callM hadd (by simp) (id := 1) (by simp [oev_tmp, upd_ap, sltF_ap]) (by simp [upd_ap, blkF_ap]) (noh_encE _) (by simp [oev_tmp, upd_ap, viss_cons, viss_nil, vis_d, vis_ag]) (by simp [oev_tmp, upd_ap]; rfl) rfl (noh_encE _) ?_
            simp (config := { maxSteps := 1000000 }) [-List.map_map, -List.mapM_map, ↓KW, hw]
            refine nxt_intro (i + 1, m2) ⟨hgo, htk⟩ (Nat.sub_lt_sub_left hgo (Nat.lt_succ_self _)) (wk_l [1] (by simp) ?_ ?_)
            · simp [-List.map_map, upd, inj1, Γ0, encX, encC]
            · exact ⟨⟨.map .i64 (encE m2), by simp [upd_ap], subO_encE m2⟩, trivial⟩
          · have q1 : ¬ (i : Int) < x.length := by omega
            rw [List.take_of_length_le (by omega)] at him
            rw [him] at hlv
            have hmx : 32 * (ids.length : Int) ≤ 281474976710656 ∧ (ids.length : Int) ≤ 9223372036854775807 := by omega
            simp (config := { maxSteps := 1000000 }) [-List.map_map, -List.mapM_map, ↓KW, encX, encC, q1]
            refine callP_intro (ds := [encX c, .i .i64 k]) (by rfl) hI ?_
            simp (config := { maxSteps := 1000000 }) [-List.map_map, -List.mapM_map, ↓KW, encIds, hmx]
            refine loopP_inv (fun y : Nat × List Int => y.1 ≤ ids.length ∧ row.take y.1 ++ (List.replicate ids.length 0).drop y.1 = y.2) (fun y => StL [(11, .mp 1), (15, .own 2 0 ids.length 2), (56, .d (encIds ids)), (57, .d (.i .i64 ids.length)), (58, .d (.i .i64 (y.1 : Int)))] none [.map .i64 (encE m), .cells 51 ((vcs y.2).map .d)]) (fun y => ids.length - y.1) (0, List.replicate ids.length 0) ⟨Nat.zero_le _, rfl⟩ ?_ ?_
            · have hz := fun (H H' : Nat → Option HO) ρ => zr_vcs (H := H) (H' := H') (ρ := ρ) ids.length
              refine wk_l [1, 2] (by simp) ?_ ?_
              · simp [-List.map_map, upd, inj1, Γ0, encIds]
              · exact ⟨⟨.map .i64 (encE m), by simp [upd_ap, blkF_ap], subO_encE m⟩, ⟨_, by simp [upd_ap]; rfl, subO_cells.2 ⟨rfl, hz _ _ _⟩⟩, trivial⟩
            · rintro ⟨j, v⟩ ⟨hjn, hjv⟩
              simp only at hjn hjv ⊢
              have hvl : v.length = ids.length := by rw [← hjv, List.length_append, List.length_take, List.length_drop, List.length_replicate]; omega
              have hvc := vcs_len v
              rw [hvl] at hvc
              by_cases hgj : j < ids.length
              · have q2 : (j : Int) < ids.length := by omega
                have hy : ids[j]? = some ids[j] := List.getElem?_eq_getElem hgj
                have hwj : IntKind.i64.wrap ((j : Int) + 1) = (j : Int) + 1 := wrap_i64 (by omega) (by omega)
                have hrj := hrg j _ hy
                refine (show ∃ q, ids[j] = q from ⟨_, rfl⟩).elim fun q hqe => ?_
                rw [hqe] at hy hrj
                have hy' : ∀ h : j < ids.length, ids[j]'h = q := fun h => Option.some.inj ((List.getElem?_eq_getElem h).symm.trans hy)
                have hb2 : j * 2 + 2 ≤ ids.length * 2 := by omega
                have hml := mlook_encE m q
                by_cases hs : (fnd q m).isSome = true
                · rw [if_pos hs, hlv q] at hml
                  refine (show ∃ z, lv q x = z from ⟨_, rfl⟩).elim fun z hz => ?_
                  rw [hz] at hml hrj
                  have hset := mix_set (a := row) (b := List.replicate ids.length 0) (k := j) (z := z) (by simp [hrl]) (by omega) hrj
                  rw [hjv] at hset
                  have hlay := lay_row (v := v) z (j := j) (by omega)
                  rw [hset] at hlay
                  simp (config := { maxSteps := 1000000 }) [-List.map_map, -List.mapM_map, ↓KW, encIds, q2, hgj, hy, hy', lookA_mp, hml, encV, hvc, hb2, hlay, hwj, cellsA_encM, one_encM]
                  refine nxt_intro (j + 1, row.take (j + 1) ++ (List.replicate ids.length 0).drop (j + 1)) ⟨hgj, rfl⟩ (Nat.sub_lt_sub_left hgj (Nat.lt_succ_self _)) (wk_l [1, 2] (by simp) ?_ ?_)
                  · simp [-List.map_map, upd, inj1, Γ0, encIds]
                  · refine ⟨⟨.map .i64 (encE m), by simp [upd_ap, blkF_ap], subO_encE m⟩, ⟨_, by simp [upd_ap], subO_cells.2 ⟨rfl, cellsOk_data rfl rfl⟩⟩, trivial⟩
                · rw [if_neg hs] at hml
                  have hz : lv q x = 0 := by
                    rw [← hlv q]
                    unfold getM
                    cases hf : fnd q m with
                    | none => rfl
                    | some j => rw [hf] at hs; exact (hs rfl).elim
                  rw [hz] at hrj
                  have hsame := mix_same (a := row) (b := List.replicate ids.length 0) (k := j) (by simp [hrl]) (by omega) (by rw [hrj, List.getElem?_replicate, if_pos hgj])
                  rw [hjv] at hsame
                  have hvj : v[j]? = some 0 := by
                    rw [← hjv, List.getElem?_append_right (by rw [List.length_take]; omega), List.length_take, Nat.min_eq_left (by omega), Nat.sub_self, List.getElem?_drop, Nat.add_zero, List.getElem?_replicate, if_pos hgj]
                  have hlz := fun (H H' : Nat → Option HO) ρ => lay_zero (H := H) (H' := H') (ρ := ρ) hvj
                  simp (config := { maxSteps := 1000000 }) [-List.map_map, -List.mapM_map, ↓KW, encIds, q2, hgj, hy, hy', lookA_mp, hml, cv, encV, hvc, hb2, hwj, cellsA_encM, one_encM]
                  refine nxt_intro (j + 1, v) ⟨hgj, hsame.symm⟩ (Nat.sub_lt_sub_left hgj (Nat.lt_succ_self _)) (wk_l [1, 2] (by simp) ?_ ?_)
                  · simp [-List.map_map, upd, inj1, Γ0, encIds]
                  · refine ⟨⟨.map .i64 (encE m), by simp [upd_ap, blkF_ap], subO_encE m⟩, ⟨_, by simp [upd_ap], subO_cells.2 ⟨rfl, hlz _ _ _⟩⟩, trivial⟩
              · have q2 : ¬ (j : Int) < ids.length := by omega
                have ej : v = row := by
                  rw [← hjv, List.take_of_length_le (by omega), List.drop_eq_nil_of_le (by simp; omega), List.append_nil]
                simp (config := { maxSteps := 1000000 }) [-List.map_map, -List.mapM_map, ↓KW, encIds, q2, ej]
                rw [ej] at hvc
                simp (config := { maxSteps := 1000000 }) [-List.map_map, -List.mapM_map, ↓KW, encV2, hvc, resD_2, chunk_vcs hrl, vcs_take_all hrl]
end Go.Am
end

section
set_option linter.unusedVariables false
set_option linter.unusedSimpArgs false
open Go Go.Am Go.Proofs
namespace Go.Am
set_option linter.unusedSimpArgs false
set_option linter.unusedVariables false
end Go.Am
end

section
set_option linter.unusedVariables false
set_option linter.unusedSimpArgs false
open Go Go.Am Go.Proofs
namespace Go.Am
set_option linter.unusedSimpArgs false
set_option linter.unusedVariables false
theorem inr_of {n : Int} (h1 : -1000 ≤ n) (h2 : n ≤ 1000) : inr n = true := by
  unfold inr
  simp only [Bool.and_eq_true, decide_eq_true_eq]
  omega
theorem MdX.keys {c : List Cl} (h : MdX c) : ∀ x ∈ c, Keys x.b := fun x hx f hf => by
  obtain ⟨y, hy, e, _⟩ := h.v.face x hx f hf
  have := h.ids y hy
  exact inr_of (by omega) (by omega)
theorem MdX.kids {c : List Cl} (h : MdX c) : ∀ x ∈ c, inr x.id = true := fun x hx => by
  have := h.ids x hx
  exact inr_of (by omega) (by omega)
theorem rowX_bnd {ids : List Int} {x : List (Int × Int)} {M : Nat} (h : Bnd M x) : ∀ z ∈ rowX ids x, z.natAbs ≤ M := fun z hz => by
  obtain ⟨n, _, rfl⟩ := List.mem_map.1 hz
  exact lv_bnd h n
end Go.Am
end

section
set_option linter.unusedVariables false
set_option linter.unusedSimpArgs false
open Go Go.Am Go.Proofs
namespace Go.Am
set_option linter.unusedSimpArgs false
set_option linter.unusedVariables false
theorem rng_set {n j : Nat} (f : Nat → Int) (z : Int) : ((List.range n).map f).set j z = (List.range n).map fun t => if t = j then z else f t := by
  apply List.ext_getElem?
  intro t
  rw [List.getElem?_set, List.getElem?_map, List.getElem?_map, List.length_map, List.length_range]
  by_cases h : t < n
  · rw [List.getElem?_range h]
    by_cases e : j = t
    · subst e; simp [h]
    · simp [e]; exact fun h => (e h.symm).elim
  · rw [List.getElem?_eq_none (by simpa using h)]
    by_cases e : j = t
    · subst e; simp [h]
    · simp [e]
/-- A row by its elements. -/
def rg (n : Nat) (f : Nat → Int) : List Int := (List.range n).map f
theorem rg_len (n : Nat) (f : Nat → Int) : (rg n f).length = n := by simp [rg]
theorem rg_get {n t : Nat} (f : Nat → Int) (h : t < n) : (rg n f)[t]? = some (f t) := by simp [rg, h]
theorem rg_set {n j : Nat} (f : Nat → Int) (z : Int) : (rg n f).set j z = rg n fun t => if t = j then z else f t := rng_set f z
theorem rg_congr {n : Nat} {f g : Nat → Int} (h : ∀ t, t < n → f t = g t) : rg n f = rg n g := List.map_congr_left fun t ht => h t (List.mem_range.1 ht)
theorem rg_rep (n : Nat) : List.replicate n (0 : Int) = rg n fun _ => 0 := by
  unfold rg
  rw [List.map_const', List.length_range]
/-! Weights of boundaries -/
theorem wsum_bdL (w : Int → Int) (c : List Cl) : ∀ y : List (Int × Int), wsum w (bdL c y) = wsum (fun m => wsum w (bOf c m)) y
  | [] => rfl
  | f :: y => by
    show wsum w (mulR f.2 (bOf c f.1) ++ bdL c y) = _
    rw [wsum_app, wsum_mulR, wsum_bdL w c y]; rfl
theorem wsum_zero {w : Int → Int} : ∀ {l : List (Int × Int)}, (∀ x ∈ l, w x.1 = 0) → wsum w l = 0
  | [], _ => rfl
  | x :: l, h => by
    simp only [wsum]
    rw [h x (List.mem_cons_self ..), wsum_zero fun y hy => h y (List.mem_cons_of_mem _ hy)]; simp
theorem bdX_val (c : List Cl) (x : List (Int × Int)) : Val (bdX c x) ∧ ∀ n, getM (bdX c x) n = wsum (fun m => cf n (bOf c m)) x := by
  obtain ⟨h1, h2⟩ := addR_val (bdL c x) [] Val.nil
  exact ⟨h1, fun n => by show getM (addR [] (bdL c x)) n = _; rw [h2 n, getM_nil, Int.zero_add, cf_bdL]⟩
theorem bdX_lin {c : List Cl} {a b : List (Int × Int)} (n : Int) : bdX c (lin a b n) = lin (bdX c a) (bdX c b) n := by
  obtain ⟨a1, a2⟩ := bdX_val c a
  obtain ⟨b1, b2⟩ := bdX_val c b
  obtain ⟨h1, h2⟩ := bdX_val c (lin a b n)
  obtain ⟨l1, l2⟩ := lin_val a1 b1 n
  refine h1.ext l1 fun m => ?_
  rw [h2, l2, a2, b2]
  show wsum _ (addR a (mulR n b)) = _
  rw [wsum_addR, wsum_mulR]
/-- All cells of a chain lie in a dimension. -/
def In (c : List Cl) (k : Int) (x : List (Int × Int)) : Prop := ∀ f ∈ x, f.1 ∈ idsX c k
theorem In.lin {c : List Cl} {k : Int} {a b : List (Int × Int)} (ha : Val a) (hb : Val b) (ia : In c k a) (ib : In c k b) (n : Int) : In c k (lin a b n) := lin_keys' (S := fun m => m ∈ idsX c k) ha hb ia ib
theorem find_in {c : List Cl} (hv : CxV c) {k n : Int} (h : n ∈ idsX c k) : ∃ y ∈ c, findX c n = some y ∧ y.dim = k ∧ y.id = n := by
  obtain ⟨y, hy, hd, he⟩ := mem_idsX.1 h
  exact ⟨y, hy, by rw [← he]; exact hv.inc.find hy, hd, he⟩
theorem dim_ok {c : List Cl} (hv : CxV c) {k : Int} {x : List (Int × Int)} (h : In c k x) : (dimX c x).2 = 0 ∧ (0 < x.length → (dimX c x).1 = k) := by
  have hd : ∀ i, i < x.length → dOf c (x.getD i (0, 0)).1 = k := fun i hi => by
    rw [List.getD_eq_getElem?_getD, List.getElem?_eq_getElem hi]
    obtain ⟨y, _, h1, h2, _⟩ := find_in hv (h _ (List.getElem_mem hi))
    show ((findX c x[i].1).getD noCl).dim = k
    rw [h1]; exact h2
  have h1 : knAll c x = true := by
    unfold knAll
    rw [List.all_eq_true]
    intro f hf
    obtain ⟨y, _, h1, _⟩ := find_in hv (h f hf)
    unfold kn; rw [h1]; rfl
  have h2 : ∀ n, n ≤ x.length → mixN c x n = false := fun n => by
    induction n with
    | zero => intro _; rfl
    | succ n ih =>
      intro hn
      rw [mixN, ih (by omega), Bool.false_or, hd n (by omega)]
      cases n with
      | zero => rfl
      | succ n => rw [show n + 1 - 1 = n by omega, hd n (by omega)]; simp
  unfold dimX
  rw [h1, h2 _ (Nat.le_refl _)]
  refine ⟨rfl, fun hx => ?_⟩
  show dLast c x x.length = k
  cases hl : x.length with
  | zero => omega
  | succ n => exact hd n (by omega)
theorem bd_in {c : List Cl} (hv : CxV c) {k : Int} {x : List (Int × Int)} (h : In c k x) : In c (k - 1) (bdX c x) := fun f hf => by
  obtain ⟨h1, h2⟩ := bdX_val c x
  have e := getM_of_mem h1 hf
  rw [h2] at e
  have hne : f.2 ≠ 0 := h1.2 f hf
  refine Classical.byContradiction fun hn => hne ?_
  rw [← e]
  refine wsum_zero fun y hy => ?_
  obtain ⟨z, hz, g1, g2, g3⟩ := find_in hv (h y hy)
  have hb : bOf c y.1 = z.b := by unfold bOf; rw [g1]; rfl
  rw [hb]
  refine cf_none fun u hu he => hn ?_
  obtain ⟨t, ht, e1, e2⟩ := hv.face z hz u hu
  exact mem_idsX.2 ⟨t, ht, by omega, by omega⟩
theorem bd_bd {c : List Cl} (hv : CxV c) {k : Int} {x : List (Int × Int)} (h : In c k x) : bdX c (bdX c x) = [] := by
  obtain ⟨h1, h2⟩ := bdX_val c (bdX c x)
  refine h1.ext Val.nil fun n => ?_
  rw [h2, getM_nil]
  show wsum _ (addR [] (bdL c x)) = 0
  rw [wsum_addR, wsum_bdL]
  show 0 + _ = (0 : Int)
  rw [Int.zero_add]
  refine wsum_zero fun y hy => ?_
  obtain ⟨z, hz, g1, _⟩ := find_in hv (h y hy)
  have hb : bOf c y.1 = z.b := by unfold bOf; rw [g1]; rfl
  rw [hb]; exact hv.cyc z hz n
theorem bd_zero {c : List Cl} (hv : CxV c) {x : List (Int × Int)} (h : In c 0 x) : bdX c x = [] := by
  have h0 := bd_in hv h
  rcases he : bdX c x with _ | ⟨f, l⟩
  · rfl
  · rw [he] at h0
    obtain ⟨y, hy, hd, _⟩ := mem_idsX.1 (h0 f (List.mem_cons_self ..))
    have := (hv.dim y hy).1; omega
theorem bd_one {c : List Cl} (hv : CxV c) {y : Cl} (hy : y ∈ c) : bdX c [(y.id, 1)] = y.b := by
  obtain ⟨h1, h2⟩ := bdX_val c [(y.id, 1)]
  refine h1.ext (hv.val y hy) fun n => ?_
  rw [h2]
  simp only [wsum]
  rw [hv.bOf hy, cf_getM (hv.val y hy)]; omega
/-! Rows -/
theorem cf_zip_at : ∀ {ids v : List Int} {i : Nat} {q z : Int}, ids.Pairwise (· < ·) → ids[i]? = some q → v[i]? = some z → cf q (ids.zip v) = z
  | [], _, i, q, z, _, h, _ => by simp at h
  | a :: ids, [], i, q, z, _, _, h => by simp at h
  | a :: ids, b :: v, 0, q, z, hp, h1, h2 => by
    simp at h1 h2; subst h1; subst h2
    obtain ⟨p1, _⟩ := List.pairwise_cons.1 hp
    rw [List.zip_cons_cons]
    simp only [cf, if_true]
    rw [cf_none fun x hx e => by have := p1 _ (List.of_mem_zip hx).1; omega, Int.add_zero]
  | a :: ids, b :: v, i + 1, q, z, hp, h1, h2 => by
    obtain ⟨p1, p2⟩ := List.pairwise_cons.1 hp
    have ih := cf_zip_at (ids := ids) (v := v) (i := i) (q := q) (z := z) p2 (by simpa using h1) (by simpa using h2)
    have hq : a < q := p1 q (List.mem_of_getElem? (by simpa using h1))
    rw [List.zip_cons_cons]
    simp only [cf]
    rw [if_neg (by omega), Int.zero_add]; exact ih
theorem rowX_chain {ids v : List Int} (hp : ids.Pairwise (· < ·)) (hl : v.length = ids.length) : rowX ids (addR [] (ids.zip v)) = v := by
  obtain ⟨h1, h2⟩ := addR_val (ids.zip v) [] Val.nil
  apply List.ext_getElem?
  intro i
  by_cases hi : i < ids.length
  · have hq : ids[i]? = some ids[i] := List.getElem?_eq_getElem hi
    have hz : v[i]? = some v[i] := List.getElem?_eq_getElem (by omega)
    rw [rowX_get hq, hz, lv_getM h1, h2, getM_nil, Int.zero_add, cf_zip_at hp hq hz]
  · rw [List.getElem?_eq_none (by rw [rowX_len]; omega), List.getElem?_eq_none (by omega)]
/-- The boundary's row is the row times the matrix. -/
theorem bd_row {c : List Cl} (hv : CxV c) (k : Int) {v : List Int} (hl : v.length = (idsX c k).length) :
    rowX (idsX c (k - 1)) (bdX c (addR [] ((idsX c k).zip v))) = rg (idsX c (k - 1)).length fun t => sgm (idsX c k).length fun j => v.getD j 0 * ent (matX c k) j t := by
  obtain ⟨h1, h2⟩ := bdX_val c (addR [] ((idsX c k).zip v))
  apply List.ext_getElem?
  intro t
  by_cases ht : t < (idsX c (k - 1)).length
  · have hq : (idsX c (k - 1))[t]? = some (idsX c (k - 1))[t] := List.getElem?_eq_getElem ht
    rw [rowX_get hq, rg_get _ ht, lv_getM h1, h2, wsum_addR, wsum_zip _ _ _ hl.symm]
    congr 1
    show 0 + _ = _
    rw [Int.zero_add]
    refine sgm_congr fun j hj => ?_
    congr 1
    unfold ent
    rw [List.getD_eq_getElem?_getD (l := matX c k), matX_get (List.getElem?_eq_getElem hj), Option.getD_some, List.getD_eq_getElem?_getD (l := rowX _ _), rowX_get hq, Option.getD_some, lv_getM (hv.bval _), ← cf_getM (hv.bval _)]
    rw [List.getD_eq_getElem?_getD, List.getElem?_eq_getElem hj]; rfl
  · rw [List.getElem?_eq_none (by rw [rowX_len]; omega), List.getElem?_eq_none (by rw [rg_len]; omega)]
end Go.Am
end

section
set_option linter.unusedVariables false
set_option linter.unusedSimpArgs false
open Go Go.Am Go.Proofs
namespace Go.Am
set_option linter.unusedSimpArgs false
set_option linter.unusedVariables false
def encBz (l : List Int) : D := .sl (l.map fun n => [D.i .i8 n])
def vf (l : List Int) (t : Nat) : Int := (l.getD t 0).tmod 10
def vecF (l : List Int) (n : Nat) : List Int := rg n (vf l)
theorem vecF_bnd (l : List Int) (n : Nat) : ∀ z ∈ vecF l n, z.natAbs ≤ 2 ^ 4 := fun z hz => by
  obtain ⟨t, _, rfl⟩ := List.mem_map.1 hz
  have h1 := Int.tmod_lt_of_pos (l.getD t 0) (b := 10) (by decide)
  have h2 := Int.tmod_lt_of_pos (-(l.getD t 0)) (b := 10) (by decide)
  rw [Int.neg_tmod] at h2
  show ((l.getD t 0).tmod 10).natAbs ≤ 16
  omega
theorem vecF_len (l : List Int) (n : Nat) : (vecF l n).length = n := rg_len _ _
def fiS (l : List Int) (n i : Nat) (row : List Int) : St :=
  StL [(2, .d (encBz l)), (6, .ptr 1 0), (7, .ptr 4 0), (8, .d (.i .i64 (i : Int)))] none [.cells 60 [.d (.i .i64 0), .d (.i .i64 0), .nil], .cells 40 [.own 3 0 n 2], .cells 51 ((vcs row).map .d), .cells 60 [.d (.i .i64 1), .d (.i .i64 (n : Int)), .own 2 0 1 1]]
theorem ext_two (H : Nat → Option HO) (n : Nat) (a b : HO) : extB H n [a, b] = upd (upd H n (some a)) (n + 1) (some b) := by
  funext id
  unfold extB upd
  by_cases h1 : id = n + 1
  · subst h1; simp
  · by_cases h2 : id = n
    · subst h2; simp
    · simp only [h1, h2, if_false, List.length_cons, List.length_nil]
      rw [if_neg (by omega)]
set_option maxHeartbeats 4000000 in
set_option maxRecDepth 10000 in
theorem r05Filled1 (l : List Int) (n : Nat) (hn : n ≤ 16) (hb : ∀ x ∈ l, -128 ≤ x ∧ x ≤ 127) (hll : l.length ≤ 9223372036854775807) :
    Spec Tryz.prog 57 [.i .i64 1, .i .i64 (n : Int), encBz l] (encMat 1 n [vecF l n]) := by
  refine spec_of (N := 60) follows_mixed Tryz.func57 rfl rfl rfl (by kernel_rfl) (by kernel_rfl) (by simp) ?_
  have hN : NSpec Tryz.prog 76 [.i .i64 1, .i .i64 (n : Int)] (nwV 1 n) (mB n [List.replicate n 0]) := r05New 1 n (by decide) (by omega)
  have m1 : ¬ (n : Int) < 0 := by omega
  have m2 : ¬ (16 : Int) < n := by omega
  have m3 : ¬ 16 < n := by omega
  have hz : rg n (fun t => if t < 0 then vf l t else 0) = List.replicate n 0 := by rw [rg_rep]; exact rg_congr fun t _ => if_neg (by omega)
  have hmB : mB n [List.replicate n 0] 2 = [.cells 40 [.own 3 0 n 2], .cells 51 ((vcs (List.replicate n 0)).map .d)] := rfl
  simp (config := { maxSteps := 1000000 }) [-List.map_map, -List.mapM_map, ↓KW, encBz, m1, m2, m3]
  refine o1_ncall [.i .i64 1, .i .i64 (n : Int)] (nwV 1 n) (mB n [List.replicate n 0]) (by simp) (by simp) (by simp) (by rfl) (by rfl) hN ?_
  simp (config := { maxSteps := 1000000 }) [-List.map_map, -List.mapM_map, ↓KW, nwV, hmB, ext_two]
  refine loopP_inv (fun y : Nat × List Int => y.1 ≤ 1 ∧ y.2 = if y.1 = 0 then List.replicate n 0 else vecF l n) (fun y => fiS l n y.1 y.2) (fun y => 1 - y.1) (0, List.replicate n 0) ⟨Nat.zero_le _, rfl⟩ ?_ ?_
  · simp only [fiS]
    refine wk_l [1, 2, 3, 4] (by simp) ?_ ?_ <;> simp [-List.map_map, upd, inj1, Γ0, encBz, subL_own_iff3]
  · rintro ⟨i, row⟩ ⟨hi, hrow⟩
    simp only at hi hrow ⊢
    by_cases h0 : i = 0
    · subst h0
      rw [if_pos rfl] at hrow
      simp only [fiS]
      simp (config := { maxSteps := 1000000 }) [-List.map_map, -List.mapM_map, ↓KW, encBz]
      refine loopP_inv (fun y : Nat × List Int => y.1 ≤ n ∧ (y.1 = 0 ∨ y.1 ≤ l.length) ∧ y.2 = rg n fun t => if t < y.1 then vf l t else 0) (fun y => StL [(2, .d (encBz l)), (6, .ptr 1 0), (7, .ptr 4 0), (8, .d (.i .i64 0)), (9, .d (.i .i64 (y.1 : Int)))] none [.cells 60 [.d (.i .i64 0), .d (.i .i64 0), .nil], .cells 40 [.own 3 0 n 2], .cells 51 ((vcs y.2).map .d), .cells 60 [.d (.i .i64 1), .d (.i .i64 (n : Int)), .own 2 0 1 1]]) (fun y => n - y.1) (0, row) ⟨Nat.zero_le _, .inl rfl, by rw [hrow, hz]⟩ ?_ ?_
      · refine wk_l [1, 2, 3, 4] (by simp) ?_ ?_ <;> simp [-List.map_map, upd, inj1, Γ0, encBz, subL_own_iff3]
      · clear hrow hi
        rintro ⟨j, row⟩ ⟨hj, hjl, hrow⟩
        simp only at hj hjl hrow ⊢
        have hrl : row.length = n := by rw [hrow, rg_len]
        have hw0 : IntKind.i64.wrap (j : Int) = j := wrap_i64 (by omega) (by omega)
        have hw : IntKind.i64.wrap ((j : Int) + 1) = (j : Int) + 1 := wrap_i64 (by omega) (by omega)
        have hz0 : IntKind.i64.wrap 0 = 0 := by decide
        by_cases hgo : j < n ∧ j < l.length
        · have g1 := hgo.1
          have g2 := hgo.2
          have q1 : (j : Int) < n := by omega
          have q2 : (j : Int) < l.length := by omega
          have hx : l[j]? = some (l.getD j 0) := by rw [List.getD_eq_getElem?_getD, List.getElem?_eq_getElem g2]; rfl
          have hx8 := hb _ (List.mem_of_getElem? hx)
          have hset := rg_set (n := n) (j := j) (fun t => if t < j then vf l t else 0) (vf l j)
          rw [← hrow] at hset
          have hset2 : (rg n fun t => if t = j then vf l j else if t < j then vf l t else 0) = rg n fun t => if t < j + 1 then vf l t else 0 := rg_congr fun t ht => by
            by_cases e : t = j
            · rw [if_pos e, e, if_pos (by omega)]
            · rw [if_neg e]
              by_cases e2 : t < j
              · rw [if_pos e2, if_pos (by omega)]
              · rw [if_neg e2, if_neg (by omega)]
          rw [hset2] at hset
          have hvj : vf l j = (l.getD j 0).tmod 10 := rfl
          refine (show ∃ u, vf l j = u from ⟨_, rfl⟩).elim fun u hu => ?_
          refine (show ∃ z, l.getD j 0 = z from ⟨_, rfl⟩).elim fun z hze => ?_
          rw [hu] at hvj hset
          rw [hze] at hx hx8 hvj
          have b1 := Int.tmod_lt_of_pos z (b := 10) (by decide)
          have b2 := Int.tmod_lt_of_pos (-z) (b := 10) (by decide)
          rw [Int.neg_tmod] at b2
          rw [← hvj] at b1 b2
          have hvj' := hvj.symm
          have hw8 : IntKind.i8.wrap u = u := wrap_i8s (by omega) (by omega)
          have hwu : IntKind.i64.wrap u = u := wrap_i64 (by omega) (by omega)
          have hof := r01Of u (by omega) (by omega)
          have hx' : ∀ h : j < l.length, l[j]'h = z := fun h => Option.some.inj ((List.getElem?_eq_getElem h).symm.trans hx)
          have hvc := vcs_len row
          rw [hrl] at hvc
          have hb2 : j * 2 + 2 ≤ n * 2 := by omega
          have hlay := lay_row (v := row) u (j := j) (by omega)
          rw [hset] at hlay
          simp (config := { maxSteps := 1000000 }) [-List.map_map, -List.mapM_map, ↓KW, encBz, g1, g2, q1, q2, hz0, hw0, hx, hx', hvj', hw8, hwu]
          refine callP_intro (ds := [.i .i64 u]) (by rfl) hof ?_
          rw [encZ_eq]
          simp (config := { maxSteps := 1000000 }) [-List.map_map, -List.mapM_map, ↓KW, hvc, hb2, hlay, hw, g1, cellsA_encM, one_encM, inj1_encM, inj_encM, kills_encM]
          refine nxt_intro (j + 1, rg n fun t => if t < j + 1 then vf l t else 0) ⟨g1, .inr g2, rfl⟩ (Nat.sub_lt_sub_left g1 (Nat.lt_succ_self _)) (wk_l [1, 2, 3, 4] (by simp) ?_ ?_) <;> simp [-List.map_map, upd, inj1, Γ0, encBz, subL_own_iff3]
        · have hfin : row = vecF l n := by
            rw [hrow]
            refine rg_congr fun t ht => ?_
            by_cases e : t < j
            · exact if_pos e
            · rw [if_neg e]
              unfold vf
              rw [List.getD_eq_getElem?_getD, List.getElem?_eq_none (by omega)]; rfl
          clear hrow
          by_cases g1 : j < n
          · have g2 : ¬ j < l.length := fun h => hgo ⟨g1, h⟩
            have q1 : (j : Int) < n := by omega
            have q2 : ¬ (j : Int) < l.length := by omega
            have hwi : IntKind.i64.wrap 1 = 1 := by decide
            simp (config := { maxSteps := 1000000 }) [-List.map_map, -List.mapM_map, ↓KW, encBz, g1, g2, q1, q2, hz0, hw0, hwi]
            refine nxt_intro (1, row) ⟨Nat.le_refl _, hfin⟩ (by show 1 - 1 < 1 - 0; decide) ?_
            simp only [fiS]
            refine wk_l [1, 2, 3, 4] (by simp) ?_ ?_ <;> simp [-List.map_map, upd, inj1, Γ0, encBz, subL_own_iff3]
          · have q1 : ¬ (j : Int) < n := by omega
            have hwi : IntKind.i64.wrap 1 = 1 := by decide
            simp (config := { maxSteps := 1000000 }) [-List.map_map, -List.mapM_map, ↓KW, encBz, g1, q1, hz0, hw0, hwi]
            refine nxt_intro (1, row) ⟨Nat.le_refl _, hfin⟩ (by show 1 - 1 < 1 - 0; decide) ?_
            simp only [fiS]
            refine wk_l [1, 2, 3, 4] (by simp) ?_ ?_ <;> simp [-List.map_map, upd, inj1, Γ0, encBz, subL_own_iff3]
    · have h1 : i = 1 := by omega
      rw [if_neg h0] at hrow
      subst h1
      have hrl := vecF_len l n
      have hvc := vcs_len (vecF l n)
      rw [hrl] at hvc
      have hkey := chunk_vcs hrl
      have htk := vcs_take_all hrl
      rw [← hrow] at hvc hkey htk ⊢
      have hm5 : ∀ H : Nat → Option HO, List.mapM (frz H 5) ((vcs row).map AV.d) = some (vcs row) := fun H => mapM_d H 4 _
      simp only [fiS]
      simp (config := { maxSteps := 1000000 }) [-List.map_map, -List.mapM_map, ↓KW, encBz, encMat, encV2, hvc, hkey, htk, hm5]
theorem tfMatA : tfld Tryz.prog 60 2 = some (2, false, 1) := by kernel_rfl
theorem r05Vector (l : List Int) (n : Nat) (hn : n ≤ 16) (hb : ∀ x ∈ l, -128 ≤ x ∧ x ≤ 127) (hll : l.length ≤ 9223372036854775807) :
    Spec Tryz.prog 28 [encBz l, .i .i64 (n : Int)] (encV2 (vecF l n)) := by
  refine spec_of (N := 11) follows_mixed Tryz.func28 rfl rfl rfl (by kernel_rfl) (by kernel_rfl) (by simp) ?_
  have h := r05Filled1 l n hn hb hll
  generalize vecF l n = v at *
  simp (config := { maxSteps := 1000000 }) [-List.map_map, -List.mapM_map, ↓KW, encBz]
  refine callP_intro (ds := [.i .i64 1, .i .i64 (n : Int), encBz l]) (by rfl) h ?_
  simp (config := { maxSteps := 1000000 }) [-List.map_map, -List.mapM_map, ↓KW, encMat, encV2, tfMatA]
theorem r26Combination (c : List Cl) (k : Int) (l : List Int) (hl : c.length ≤ 16) (hb : ∀ x ∈ l, -128 ≤ x ∧ x ≤ 127) (hll : l.length ≤ 9223372036854775807) :
    Spec Tryz.prog 21 [encX c, .i .i64 k, encBz l] (encC (addR [] ((idsX c k).zip (vecF l (idsX c k).length)))) := by
  refine spec_of (N := 16) follows_mixed Tryz.func21 rfl rfl rfl (by kernel_rfl) (by kernel_rfl) (by simp) ?_
  have hI := r25Cells c k (by omega)
  have hil := idsX_len c k
  have hV := r05Vector l (idsX c k).length (by omega) hb hll
  have hO := r26Of c k (vecF l (idsX c k).length) (by omega) (vecF_bnd l _) (by decide)
  have e : (chX c k (vecF l (idsX c k).length)).1 = addR [] ((idsX c k).zip (vecF l (idsX c k).length)) := by unfold chX; rw [if_pos (vecF_len _ _)]
  rw [e] at hO
  clear e
  generalize addR [] ((idsX c k).zip (vecF l (idsX c k).length)) = out at *
  generalize vecF l (idsX c k).length = v at *
  generalize idsX c k = ids at *
  simp (config := { maxSteps := 1000000 }) [-List.map_map, -List.mapM_map, ↓KW, encX, encBz]
  refine callP_intro (ds := [encX c, .i .i64 k]) (by rfl) hI ?_
  simp (config := { maxSteps := 1000000 }) [-List.map_map, -List.mapM_map, ↓KW, encX, encIds]
  refine callP_intro (ds := [encBz l, .i .i64 (ids.length : Int)]) (by rfl) hV ?_
  simp (config := { maxSteps := 1000000 }) [-List.map_map, -List.mapM_map, ↓KW, encX, encV2]
  refine callP_intro (ds := [encX c, .i .i64 k, encV2 v]) (by rfl) hO ?_
  simp (config := { maxSteps := 1000000 }) [-List.map_map, -List.mapM_map, ↓KW, encC]
end Go.Am
end

section
set_option linter.unusedVariables false
set_option linter.unusedSimpArgs false
open Go Go.Am Go.Proofs
namespace Go.Am
set_option linter.unusedSimpArgs false
set_option linter.unusedVariables false
theorem vec_ok {c : List Cl} (hv : CxV c) {k : Int} {x : List (Int × Int)} (h : In c k x) : vecX c k x = (rowX (idsX c k) x, 0) := by
  obtain ⟨h1, h2⟩ := dim_ok hv h
  unfold vecX
  rw [if_pos h1, if_neg fun hh => hh.2 (h2 hh.1)]
end Go.Am
end

section
set_option linter.unusedVariables false
set_option linter.unusedSimpArgs false
open Go Go.Am Go.Proofs
namespace Go.Am
set_option linter.unusedSimpArgs false
set_option linter.unusedVariables false
/-- The product's element, its first k summands. -/
def pr1 (v : List Int) (A : List (List Int)) (j k : Nat) : Int := sgm k fun t => v.getD t 0 * ent A t j
theorem pr1_bnd {v : List Int} {A : List (List Int)} {f g : Nat} (hv : ∀ t, (v.getD t 0).natAbs ≤ 2 ^ g) (hA : Be f A) (j : Nat) : ∀ k, k ≤ 100 → (pr1 v A j k).natAbs ≤ k * 2 ^ (g + f)
  | 0, _ => by simp [pr1, sgm]
  | k + 1, h => by
    have ih := pr1_bnd hv hA j k (by omega)
    show (pr1 v A j k + v.getD k 0 * ent A k j).natAbs ≤ _
    have e1 := Int.natAbs_add_le (pr1 v A j k) (v.getD k 0 * ent A k j)
    have e2 := Nat.mul_le_mul (hv k) (hA k j)
    rw [pw_mul] at e2
    rw [Int.natAbs_mul] at e1
    rw [Nat.succ_mul]; omega
/-- The row behind element j's k-th summand. -/
def prow (C : Nat) (v : List Int) (A : List (List Int)) (R j k : Nat) : List Int := rg C fun t => if t < j then pr1 v A t R else if t = j then pr1 v A j k else 0
theorem prow_next {C R j : Nat} {v : List Int} {A : List (List Int)} : prow C v A R j R = prow C v A R (j + 1) 0 := rg_congr fun t ht => by
  by_cases h1 : t < j
  · rw [if_pos h1, if_pos (by omega)]
  · rw [if_neg h1]
    by_cases h2 : t = j
    · rw [if_pos h2, if_pos (by omega), h2]
    · rw [if_neg h2, if_neg (by omega)]
      split <;> rfl
theorem prow_set {C R j k : Nat} {v : List Int} {A : List (List Int)} : (prow C v A R j k).set j (pr1 v A j (k + 1)) = prow C v A R j (k + 1) := by
  unfold prow
  rw [rg_set]
  refine rg_congr fun t ht => ?_
  by_cases h2 : t = j
  · rw [if_pos h2, if_neg (by omega), if_pos h2]
  · rw [if_neg h2]
    by_cases h1 : t < j
    · rw [if_pos h1, if_pos h1]
    · rw [if_neg h1, if_neg h2, if_neg h1, if_neg h2]
theorem prow_zero {C R : Nat} {v : List Int} {A : List (List Int)} : prow C v A R 0 0 = List.replicate C 0 := by
  rw [rg_rep]
  refine rg_congr fun t ht => ?_
  rw [if_neg (by omega)]
  split <;> rfl
def muP (R C : Nat) (v : List Int) (A : List (List Int)) (row : List Int) : List HO :=
  [.cells 60 [.d (.i .i64 1), .d (.i .i64 (R : Int)), .d (.sl [[encV2 v]])], .cells 60 [.d (.i .i64 (R : Int)), .d (.i .i64 (C : Int)), .d (.sl (A.map fun v => [encV2 v]))], .cells 60 [.d (.i .i64 0), .d (.i .i64 0), .nil],
    .cells 40 [.own 5 0 C 2], .cells 51 ((vcs row).map .d), .cells 60 [.d (.i .i64 1), .d (.i .i64 (C : Int)), .own 4 0 1 1]]
set_option maxHeartbeats 4000000 in
set_option maxRecDepth 10000 in
theorem r05Mul1 {R C f g : Nat} {v : List Int} {A : List (List Int)} (hv : v.length = R) (hA : Sh R C A) (hR : R ≤ 100) (hC : C ≤ 100) (hvb : ∀ z ∈ v, z.natAbs ≤ 2 ^ g) (hAb : Be f A) (hfg : g + f + 20 < 4398046511104) :
    Spec Tryz.prog 86 [encMat 1 R [v], encMat R C A] (.tp [encMat 1 C [rg C fun j => pr1 v A j R], .i .i64 0]) := by
  refine spec_of (N := 73) follows_mixed Tryz.func86 rfl rfl rfl (by kernel_rfl) (by kernel_rfl) (by simp) ?_
  have hN : NSpec Tryz.prog 76 [.i .i64 1, .i .i64 (C : Int)] (nwV 1 C) (mB C [List.replicate C 0]) := r05New 1 C (by decide) (by omega)
  have hmB : mB C [List.replicate C 0] 4 = [.cells 40 [.own 5 0 C 2], .cells 51 ((vcs (List.replicate C 0)).map .d)] := rfl
  have hvb2 : ∀ t, (v.getD t 0).natAbs ≤ 2 ^ g := fun t => by
    rw [List.getD_eq_getElem?_getD]
    cases e : v[t]? with
    | none => simp
    | some z => exact hvb z (List.mem_of_getElem? e)
  have hzr : (prow C v A R 0 0) = List.replicate C 0 := prow_zero
  simp (config := { maxSteps := 1000000 }) [-List.map_map, -List.mapM_map, ↓KW, encMat]
  refine o1_ncall [.i .i64 1, .i .i64 (C : Int)] (nwV 1 C) (mB C [List.replicate C 0]) (by simp) (by simp) (by simp) (by rfl) (by rfl) hN ?_
  simp (config := { maxSteps := 1000000 }) [-List.map_map, -List.mapM_map, ↓KW, nwV, hmB, ext_two]
  refine loopP_inv (fun y : Nat × List Int => y.1 ≤ 1 ∧ y.2 = if y.1 = 0 then prow C v A R 0 0 else rg C fun j => pr1 v A j R) (fun y => StL [(2, .ptr 1 0), (3, .ptr 2 0), (4, .ptr 3 0), (6, .ptr 6 0), (7, .d (.i .i64 (y.1 : Int)))] none (muP R C v A y.2)) (fun y => 1 - y.1) (0, List.replicate C 0) ⟨Nat.zero_le _, hzr.symm⟩ ?_ ?_
  · unfold muP
    refine wk_l [1, 2, 3, 4, 5, 6] (by simp) ?_ ?_ <;> simp [-List.map_map, upd, inj1, Γ0, subL_own_iff3]
  · rintro ⟨i, row⟩ ⟨hi, hrow⟩
    simp only at hi hrow ⊢
    by_cases h0 : i = 0
    · subst h0
      rw [if_pos rfl] at hrow
      unfold muP
      simp (config := { maxSteps := 1000000 }) [-List.map_map, -List.mapM_map, ↓KW, ]
      refine loopP_inv (fun y : Nat × List Int => y.1 ≤ C ∧ y.2 = prow C v A R y.1 0) (fun y => StL [(2, .ptr 1 0), (3, .ptr 2 0), (4, .ptr 3 0), (6, .ptr 6 0), (7, .d (.i .i64 0)), (8, .d (.i .i64 (y.1 : Int)))] none (muP R C v A y.2)) (fun y => C - y.1) (0, row) ⟨Nat.zero_le _, hrow⟩ ?_ ?_
      · unfold muP
        refine wk_l [1, 2, 3, 4, 5, 6] (by simp) ?_ ?_ <;> simp [-List.map_map, upd, inj1, Γ0, subL_own_iff3]
      · clear hrow hi
        rintro ⟨j, row⟩ ⟨hj, hrow⟩
        simp only at hj hrow ⊢
        by_cases hgj : j < C
        · have q1 : (j : Int) < C := by omega
          have hwj : IntKind.i64.wrap ((j : Int) + 1) = (j : Int) + 1 := wrap_i64 (by omega) (by omega)
          unfold muP
          simp (config := { maxSteps := 1000000 }) [-List.map_map, -List.mapM_map, ↓KW, q1, hgj]
          refine loopP_inv (fun y : Nat × List Int => y.1 ≤ R ∧ y.2 = prow C v A R j y.1) (fun y => StL [(2, .ptr 1 0), (3, .ptr 2 0), (4, .ptr 3 0), (6, .ptr 6 0), (7, .d (.i .i64 0)), (8, .d (.i .i64 (j : Int))), (9, .d (.i .i64 (y.1 : Int)))] none (muP R C v A y.2)) (fun y => R - y.1) (0, row) ⟨Nat.zero_le _, hrow⟩ ?_ ?_
          · unfold muP
            refine wk_l [1, 2, 3, 4, 5, 6] (by simp) ?_ ?_ <;> simp [-List.map_map, upd, inj1, Γ0, subL_own_iff3]
          · clear hrow
            rintro ⟨k, row⟩ ⟨hk, hrow⟩
            simp only at hk hrow ⊢
            by_cases hgk : k < R
            · have q2 : (k : Int) < R := by omega
              have hwk : IntKind.i64.wrap ((k : Int) + 1) = (k : Int) + 1 := wrap_i64 (by omega) (by omega)
              have hrl : row.length = C := by rw [hrow]; exact rg_len _ _
              have hvc := vcs_len row
              rw [hrl] at hvc
              have hb2 : j * 2 + 2 ≤ C * 2 := by omega
              have hre : row[j]? = some (pr1 v A j k) := by
                rw [hrow]
                unfold prow
                rw [rg_get _ hgj, if_neg (by omega), if_pos rfl]
              have hrd : List.take 2 (List.drop (j * 2) ((vcs row).map AV.d)) = [.d (.b (decide (pr1 v A j k < 0))), .d (encM (digs (pr1 v A j k).natAbs))] := by
                rw [← List.map_drop, ← List.map_take, vcs_get2 hre]; rfl
              have hx : v[k]? = some (v.getD k 0) := by rw [List.getD_eq_getElem?_getD, List.getElem?_eq_getElem (by omega)]; rfl
              have hAx := hA.get hgk
              have hset := prow_set (C := C) (R := R) (j := j) (k := k) (v := v) (A := A)
              rw [← hrow] at hset
              have hstep : pr1 v A j (k + 1) = pr1 v A j k + v.getD k 0 * ent A k j := rfl
              have hpb := pr1_bnd hvb2 hAb j k (by omega)
              have hpb2 : (pr1 v A j k).natAbs ≤ 2 ^ (7 + (g + f)) := Nat.le_trans hpb (pw_len (Nat.le_trans (show k ≤ 100 by omega) (by decide)))
              have hmb : (v.getD k 0 * ent A k j).natAbs ≤ 2 ^ (g + f) := by rw [Int.natAbs_mul, ← pw_mul]; exact Nat.mul_le_mul (hvb2 k) (hAb k j)
              have hmul := r01MulZ (v.getD k 0) (ent A k j) (szE (hvb2 k) (by omega)) (szE (hAb k j) (by omega))
              have hadd := r01AddZ (pr1 v A j k) (v.getD k 0 * ent A k j) (Nat.le_trans (szE hpb2 (by omega)) (by decide)) (Nat.le_trans (szE hmb (by omega)) (by decide))
              rw [← hstep] at hadd
              have hlay := lay_row (v := row) (pr1 v A j (k + 1)) (j := j) (by omega)
              rw [hset] at hlay
              refine (show ∃ r2, prow C v A R j (k + 1) = r2 from ⟨_, rfl⟩).elim fun r2 hr2 => ?_
              rw [hr2] at hlay
              refine hAx.elim fun av hh => ?_
              have hav := hh.1
              have havl := hh.2.1
              have have1 := hh.2.2 j
              clear hh hAx
              have hz : av[j]? = some (ent A k j) := by
                rw [← have1, List.getD_eq_getElem?_getD, List.getElem?_eq_getElem (by omega)]; rfl
              refine (show ∃ p, pr1 v A j k = p from ⟨_, rfl⟩).elim fun p hp => ?_
              refine (show ∃ p, pr1 v A j (k + 1) = p from ⟨_, rfl⟩).elim fun p2 hp2 => ?_
              refine (show ∃ p, v.getD k 0 = p from ⟨_, rfl⟩).elim fun x hxe => ?_
              refine (show ∃ p, ent A k j = p from ⟨_, rfl⟩).elim fun z hze => ?_
              rw [hp] at hrd hadd
              rw [hp2] at hadd hlay
              rw [hxe] at hx hmul hadd
              rw [hze] at hz hmul hadd
              refine (show ∃ p, x * z = p from ⟨_, rfl⟩).elim fun m hme => ?_
              rw [hme] at hmul hadd
              have hav2 : encV2 av = .sl (av.map encN) := rfl
              have hv2 : encV2 v = .sl (v.map encN) := rfl
              unfold muP
              simp (config := { maxSteps := 1000000 }) [-List.map_map, -List.mapM_map, ↓KW, q2, hgj, hgk, hx, hav, hz, hav2, hv2, encN_eq, hvc, hb2, hrd, cellsA_encM, one_encM, inj1_encM, inj_encM, kills_encM]
              refine callP_intro (ds := [encZ x, encZ z]) (by rfl) hmul ?_
              rw [encZ_eq]
              simp (config := { maxSteps := 1000000 }) [-List.map_map, -List.mapM_map, ↓KW, q2, hgj, hgk, hx, hav, hz, hav2, hv2, encN_eq, hvc, hb2, hrd, cellsA_encM, one_encM, inj1_encM, inj_encM, kills_encM]
              refine callP_intro (ds := [encZ p, encZ m]) (by rfl) hadd ?_
              rw [encZ_eq]
              simp (config := { maxSteps := 1000000 }) [-List.map_map, -List.mapM_map, ↓KW, hgj, hvc, hb2, hlay, hwk, cellsA_encM, one_encM, inj1_encM, inj_encM, kills_encM]
              refine nxt_intro (k + 1, r2) ⟨hgk, hr2.symm⟩ (Nat.sub_lt_sub_left hgk (Nat.lt_succ_self _)) ?_
              refine wk_l [1, 2, 3, 4, 5, 6] (by simp) ?_ ?_ <;> simp [-List.map_map, upd, inj1, Γ0, muP, subL_own_iff3, hv2]
            · have q2 : ¬ (k : Int) < R := by omega
              have ek : k = R := by omega
              have hrow2 : row = prow C v A R (j + 1) 0 := by rw [hrow, ek, prow_next]
              unfold muP
              simp (config := { maxSteps := 1000000 }) [-List.map_map, -List.mapM_map, ↓KW, q2, hwj]
              refine nxt_intro (j + 1, row) ⟨hgj, hrow2⟩ (Nat.sub_lt_sub_left hgj (Nat.lt_succ_self _)) ?_
              refine wk_l [1, 2, 3, 4, 5, 6] (by simp) ?_ ?_ <;> simp [-List.map_map, upd, inj1, Γ0, muP, subL_own_iff3]
        · have q1 : ¬ (j : Int) < C := by omega
          have hrow2 : row = rg C fun j => pr1 v A j R := by
            rw [hrow]
            exact rg_congr fun t ht => if_pos (by omega)
          have hwi : IntKind.i64.wrap 1 = 1 := by decide
          unfold muP
          simp (config := { maxSteps := 1000000 }) [-List.map_map, -List.mapM_map, ↓KW, q1, hwi]
          refine nxt_intro (1, row) ⟨Nat.le_refl _, hrow2⟩ (by show 1 - 1 < 1 - 0; decide) ?_
          refine wk_l [1, 2, 3, 4, 5, 6] (by simp) ?_ ?_ <;> simp [-List.map_map, upd, inj1, Γ0, muP, subL_own_iff3]
    · have h1 : i = 1 := by omega
      rw [if_neg h0] at hrow
      subst h1
      have hrl : row.length = C := by rw [hrow]; exact rg_len _ _
      have hvc := vcs_len row
      rw [hrl] at hvc
      have hkey := chunk_vcs hrl
      have htk := vcs_take_all hrl
      have hm5 : ∀ H : Nat → Option HO, List.mapM (frz H 5) ((vcs row).map AV.d) = some (vcs row) := fun H => mapM_d H 4 _
      rw [← hrow]
      unfold muP
      simp (config := { maxSteps := 1000000 }) [-List.map_map, -List.mapM_map, ↓KW, encMat, encV2, hvc, hkey, htk, hm5, resD_2]
set_option maxHeartbeats 2000000 in
set_option maxRecDepth 10000 in
theorem r05Product1 {R C f g : Nat} {v : List Int} {A : List (List Int)} (hv : v.length = R) (hA : Sh R C A) (hR : R ≤ 100) (hC : C ≤ 100) (hvb : ∀ z ∈ v, z.natAbs ≤ 2 ^ g) (hAb : Be f A) (hfg : g + f + 20 < 4398046511104) :
    Spec Tryz.prog 74 [encMat 1 R [v], encMat R C A] (encMat 1 C [rg C fun j => pr1 v A j R]) := by
  refine spec_of (N := 14) follows_mixed Tryz.func74 rfl rfl rfl (by kernel_rfl) (by kernel_rfl) (by simp) ?_
  have h := r05Mul1 hv hA hR hC hvb hAb hfg
  generalize (rg C fun j => pr1 v A j R) = o at *
  simp (config := { maxSteps := 1000000 }) [-List.map_map, -List.mapM_map, ↓KW, encMat]
  refine callP_intro (ds := [encMat 1 R [v], encMat R C A]) (by rfl) h ?_
  simp (config := { maxSteps := 1000000 }) [-List.map_map, -List.mapM_map, ↓KW, encMat]
set_option maxHeartbeats 2000000 in
set_option maxRecDepth 10000 in
theorem r05RowM (v : List Int) (hl : v.length ≤ 1000000) : Spec Tryz.prog 75 [encV2 v] (encMat 1 v.length [v]) := by
  refine spec_of (N := 8) follows_mixed Tryz.func75 rfl rfl rfl (by kernel_rfl) (by kernel_rfl) (by simp) ?_
  have hm1 : (1 : Nat) ≤ maxLen := le_maxLen (by decide)
  simp (config := { maxSteps := 1000000 }) [-List.map_map, -List.mapM_map, ↓KW, encMat, encV2, hm1]
set_option maxHeartbeats 2000000 in
set_option maxRecDepth 10000 in
theorem r05Act {R C f g : Nat} {v : List Int} {A : List (List Int)} (hv : v.length = R) (hA : Sh R C A) (hR : R ≤ 100) (hC : C ≤ 100) (hvb : ∀ z ∈ v, z.natAbs ≤ 2 ^ g) (hAb : Be f A) (hfg : g + f + 20 < 4398046511104) :
    Spec Tryz.prog 24 [encV2 v, encMat R C A] (encV2 (rg C fun j => pr1 v A j R)) := by
  have hT : Spec Tryz.prog 55 [encV2 v, encMat R C A] (.tp [encV2 (rg C fun j => pr1 v A j R), .i .i64 0]) := by
    refine spec_of (N := 18) follows_mixed Tryz.func55 rfl rfl rfl (by kernel_rfl) (by kernel_rfl) (by simp) ?_
    have h1 := r05RowM v (by omega)
    have h2 := r05Product1 hv hA hR hC hvb hAb hfg
    rw [hv] at h1
    generalize (rg C fun j => pr1 v A j R) = o at *
    simp (config := { maxSteps := 1000000 }) [-List.map_map, -List.mapM_map, ↓KW, encMat, encV2, hv]
    refine callP_intro (ds := [encV2 v]) (by rfl) h1 ?_
    simp (config := { maxSteps := 1000000 }) [-List.map_map, -List.mapM_map, ↓KW, encMat, encV2]
    refine callP_intro (ds := [encMat 1 R [v], encMat R C A]) (by rfl) h2 ?_
    simp (config := { maxSteps := 1000000 }) [-List.map_map, -List.mapM_map, ↓KW, encMat, encV2, tfMatA, resD_2]
  refine spec_of (N := 14) follows_mixed Tryz.func24 rfl rfl rfl (by kernel_rfl) (by kernel_rfl) (by simp) ?_
  generalize (rg C fun j => pr1 v A j R) = o at *
  simp (config := { maxSteps := 1000000 }) [-List.map_map, -List.mapM_map, ↓KW, encMat, encV2]
  refine callP_intro (ds := [encV2 v, encMat R C A]) (by rfl) hT ?_
  simp (config := { maxSteps := 1000000 }) [-List.map_map, -List.mapM_map, ↓KW, encV2]
end Go.Am
end

section
set_option linter.unusedVariables false
set_option linter.unusedSimpArgs false
open Go Go.Am Go.Proofs
namespace Go.Am
set_option linter.unusedSimpArgs false
set_option linter.unusedVariables false
theorem sub_len : ∀ (ids l : List Int), ids.Pairwise (· < ·) → l.Pairwise (· < ·) → (∀ x ∈ l, x ∈ ids) → l.length ≤ ids.length
  | [], [], _, _, _ => Nat.le_refl _
  | [], x :: l, _, _, h => by have := h x (List.mem_cons_self ..); cases this
  | i :: ids, [], _, _, _ => Nat.zero_le _
  | i :: ids, x :: l, hi, hl, h => by
    obtain ⟨i1, i2⟩ := List.pairwise_cons.1 hi
    obtain ⟨l1, l2⟩ := List.pairwise_cons.1 hl
    rcases List.mem_cons.1 (h x (List.mem_cons_self ..)) with e | hx
    · have := sub_len ids l i2 l2 fun y hy => by
        rcases List.mem_cons.1 (h y (List.mem_cons_of_mem _ hy)) with e2 | h2
        · have := l1 y hy; omega
        · exact h2
      simp only [List.length_cons]; omega
    · have := sub_len ids (x :: l) i2 hl fun y hy => by
        rcases List.mem_cons.1 (h y hy) with e2 | h2
        · have h3 := i1 x hx
          rcases List.mem_cons.1 hy with e3 | h3'
          · omega
          · have := l1 y h3'; omega
        · exact h2
      simp only [List.length_cons] at this ⊢; omega
theorem in_len {c : List Cl} (hi : Inc c) {k : Int} {x : List (Int × Int)} (hv : Val x) (h : In c k x) : x.length ≤ c.length := by
  have := sub_len (idsX c k) (x.map (·.1)) (hi.ids k) (by rw [List.pairwise_map]; exact hv.1) fun n hn => by
    obtain ⟨f, hf, rfl⟩ := List.mem_map.1 hn
    exact h f hf
  rw [List.length_map] at this
  exact Nat.le_trans this (idsX_len c k)
theorem In.keys {c : List Cl} (hk : ∀ x ∈ c, inr x.id = true) {k : Int} {x : List (Int × Int)} (h : In c k x) : Keys x := fun f hf => by
  obtain ⟨y, hy, _, e⟩ := mem_idsX.1 (h f hf)
  rw [← e]; exact hk y hy
theorem bnd_ok {c : List Cl} (hv : CxV c) {k : Int} {x : List (Int × Int)} (h : In c k x) : bndX c x = (bdX c x, 0) := by
  unfold bndX; rw [if_pos (dim_ok hv h).1]
theorem cyc_ok {c : List Cl} (hv : CxV c) {k : Int} {x : List (Int × Int)} (h : In c k x) (h0 : bdX c x = []) : cycX c x = true := by
  unfold cycX
  rw [(dim_ok hv h).1, h0]; rfl
set_option maxRecDepth 10000 in
theorem round_facts {c : List Cl} (hc : MdX c) (k n : Int) (hk : 0 ≤ k ∧ k ≤ 3) (hn : 0 ≤ n ∧ n ≤ 9223372036854775807) (l m : List Int) (hl : ∀ x ∈ l, -128 ≤ x ∧ x ≤ 127) (hll : l.length ≤ 9223372036854775807) (hm : ∀ x ∈ m, -128 ≤ x ∧ x ≤ 127) (hml : m.length ≤ 9223372036854775807) :
    ∃ (a b ab d f L : List (Int × Int)) (va row : List Int) (R C : Nat) (M : List (List Int)),
      Spec Tryz.prog 21 [encX c, .i .i64 k, encBz l] (encC a) ∧ Spec Tryz.prog 21 [encX c, .i .i64 k, encBz m] (encC b) ∧
      Spec Tryz.prog 12 [encX c, encC a] (.tp [encC d, .i .i64 0]) ∧ Spec Tryz.prog 12 [encX c, encC b] (.tp [encC f, .i .i64 0]) ∧
      Spec Tryz.prog 22 [encC a, encC b, encZ n] (encC ab) ∧ Spec Tryz.prog 12 [encX c, encC ab] (.tp [encC L, .i .i64 0]) ∧
      Spec Tryz.prog 23 [encC d] (.b true) ∧ Spec Tryz.prog 23 [encC f] (.b true) ∧
      Spec Tryz.prog 22 [encC d, encC f, encZ n] (encC L) ∧ Spec Tryz.prog 16 [encC L, encC L] (.b true) ∧
      Spec Tryz.prog 12 [encX c, encC d] (.tp [encC [], .i .i64 0]) ∧ Spec Tryz.prog 14 [encX c, .i .i64 (k - 1), encC d] (.tp [encV2 row, .i .i64 0]) ∧
      Spec Tryz.prog 17 [encX c, encC d] (.b true) ∧ Spec Tryz.prog 25 [encX c, .i .i64 k, encC a] (encV2 va) ∧
      Spec Tryz.prog 26 [encX c, .i .i64 k] (encMat R C M) ∧ Spec Tryz.prog 24 [encV2 va, encMat R C M] (encV2 row) ∧
      Spec Tryz.prog 19 [encV2 row, encV2 row] (.b true) ∧ (k = 0 → d = []) := by
  have hlen := hc.len
  have hil := idsX_len c k
  obtain ⟨F, hF, hsz⟩ := hc.sz
  have sA := r26Combination c k l (by omega) hl hll
  have sB := r26Combination c k m (by omega) hm hml
  have hva := vecF_bnd l (idsX c k).length
  have hvb := vecF_bnd m (idsX c k).length
  have hvl := vecF_len l (idsX c k).length
  have hrow := bd_row hc.v k hvl
  have hrx := rowX_chain (hc.v.inc.ids k) hvl
  generalize vecF l (idsX c k).length = va at *
  generalize vecF m (idsX c k).length = vb at *
  obtain ⟨a1, a2, a3, a4, _⟩ := chain_of (hc.v.inc.ids k) hva
  obtain ⟨b1, b2, b3, b4, _⟩ := chain_of (hc.v.inc.ids k) hvb
  have ia : In c k (addR [] ((idsX c k).zip va)) := a3
  have ib : In c k (addR [] ((idsX c k).zip vb)) := b3
  clear a3 b3
  generalize addR [] ((idsX c k).zip va) = a at *
  generalize addR [] ((idsX c k).zip vb) = b at *
  have ka := ia.keys hc.kids
  have kb := ib.keys hc.kids
  have hnn : n.natAbs ≤ 2 ^ 63 := by
    rw [show (2 : Nat) ^ 63 = 9223372036854775808 by decide]; omega
  have iL := In.lin a1 b1 ia ib n
  have vL := (lin_val a1 b1 n).1
  have bL : Bnd (2 ^ 72) (lin a b n) := (lin_bnd a2 b2 hnn).mono (by
    rw [pw_mul]
    exact pw_add (a := 4) (b := 71) (Nat.le_refl _) (pw_len (n := b.length) (l := 4) (Nat.le_trans (show b.length ≤ 16 by omega) (by decide))) (by decide) (by decide))
  have lL := in_len hc.v.inc vL iL
  have hd := bdX_val c a
  have hf := bdX_val c b
  have id' := bd_in hc.v ia
  have if' := bd_in hc.v ib
  have bd := (bdX_bnd hsz (by omega) a2).1
  have bf := (bdX_bnd hsz (by omega) b2).1
  have ld := in_len hc.v.inc hd.1 id'
  have lf := in_len hc.v.inc hf.1 if'
  have sD := chainsBoundary hsz hc.v.inc hc.keys (by omega) a2 (by omega)
  have sF := chainsBoundary hsz hc.v.inc hc.keys (by omega) b2 (by omega)
  rw [bnd_ok hc.v ia] at sD
  rw [bnd_ok hc.v ib] at sF
  have sL := r26Add a b n (2 ^ 4) (2 ^ 4) (2 ^ 63) a2 b2 hnn (digE (e := 72) (by
    rw [pw_mul]
    exact pw_add (a := 4) (b := 71) (Nat.le_refl _) (pw_len (n := b.length) (l := 4) (Nat.le_trans (show b.length ≤ 16 by omega) (by decide))) (by decide) (by decide)) (by decide)) (digE (e := 67) (by rw [pw_mul]; exact Nat.le_refl _) (by decide)) (digE (Nat.le_refl _) (by decide)) (digE (Nat.le_refl _) (by decide)) (by omega)
  have sH := chainsBoundary hsz hc.v.inc hc.keys (by omega) bL (by omega)
  rw [bnd_ok hc.v iL, bdX_lin] at sH
  have hdd := bd_bd hc.v ia
  have sJ := chainsBoundary hsz hc.v.inc hc.keys (by omega) bd (by omega)
  rw [bnd_ok hc.v id', hdd] at sJ
  have sY := chainsCycle hsz hc.v.inc hc.keys (by omega) bd (by omega)
  rw [cyc_ok hc.v id' hdd] at sY
  have kd := id'.keys hc.kids
  have sW := chainsVector (k - 1) (by omega) hc.v.inc (by omega) hd.1 kd bd (by omega)
  rw [vec_ok hc.v id', hrow] at sW
  have sR := r26Row c k a (by omega) (by omega)
  rw [vec_ok hc.v ia, hrx] at sR
  have sM := r25Boundary c k (by omega) (by omega) fun x hx => Nat.le_trans (hsz.bl x hx) (by decide)
  have hbe : Be F (matX c k) := matX_be hc.v.inc fun x hx _ => hsz.bb x hx
  have hcl1 := idsX_len c (k - 1)
  have sX := r05Act hvl (matX_sh c k) (by omega) (by omega) hva hbe (by omega)
  have hrz : ∀ z ∈ (rg (idsX c (k - 1)).length fun t => sgm (idsX c k).length fun j => va.getD j 0 * ent (matX c k) j t), Sz z := fun z hz => by
    rw [← hrow] at hz
    exact szE (rowX_bnd bd z hz) (by omega)
  have sT := r05SameVec hrz hrz (by rw [rg_len]; omega)
  have sVd := r26Valid (bdX c a) (bd.sz (by omega)) (by omega)
  have sVf := r26Valid (bdX c b) (bf.sz (by omega)) (by omega)
  rw [val_validR hd.1] at sVd
  rw [val_validR hf.1] at sVf
  have hz0 : k = 0 → bdX c a = [] := fun e => bd_zero hc.v (by rw [← e]; exact ia)
  have hE : 2 ^ (F + 4 + 14) + (bdX c b).length * (2 ^ 63 * 2 ^ (F + 4 + 14)) ≤ 2 ^ (F + 100) := by
    rw [pw_mul]
    exact pw_add (a := F + 4 + 14) (b := 4 + (63 + (F + 4 + 14))) (Nat.le_refl _) (pw_len (n := (bdX c b).length) (l := 4) (Nat.le_trans (show (bdX c b).length ≤ 16 by omega) (by decide))) (by omega) (by omega)
  have sL2 := r26Add (bdX c a) (bdX c b) n (2 ^ (F + 4 + 14)) (2 ^ (F + 4 + 14)) (2 ^ 63) bd bf hnn (digE hE (by omega)) (digE (e := 63 + (F + 4 + 14)) (by rw [pw_mul]; exact Nat.le_refl _) (by omega)) (digE (e := 63) (Nat.le_refl _) (by decide)) (digE (e := F + 4 + 14) (Nat.le_refl _) (by omega)) (by omega)
  have bLL : Bnd (2 ^ (F + 100)) (lin (bdX c a) (bdX c b) n) := (lin_bnd bd bf hnn).mono hE
  have lLL := lin_len (bdX c a) (bdX c b) n
  have sS := r26Same _ _ (bLL.sz (by omega)) (bLL.sz (by omega)) (by omega) (by omega)
  simp only [decide_true] at sS sT
  exact ⟨a, b, lin a b n, bdX c a, bdX c b, lin (bdX c a) (bdX c b) n, va, _, _, _, _, sA, sB, sD, sF, sL, sH, sVd, sVf, sL2, sS, sJ, sW, sY, sR, sM, sX, sT, hz0⟩
theorem cell_facts {c : List Cl} (hc : MdX c) {y : Cl} (hy : y ∈ c) : Spec Tryz.prog 12 [encX c, encC [(y.id, 1)]] (.tp [encC y.b, .i .i64 0]) ∧ Spec Tryz.prog 16 [encC y.b, encC y.b] (.b true) := by
  have hlen := hc.len
  obtain ⟨F, hF, hsz⟩ := hc.sz
  have hin : In c y.dim [(y.id, 1)] := fun f hf => by
    rw [List.mem_singleton.1 hf]
    exact mem_idsX.2 ⟨y, hy, rfl, rfl⟩
  have hb : Bnd (2 ^ 1) [(y.id, (1 : Int))] := Bnd.one (show (1 : Int).natAbs ≤ 2 ^ 1 by decide)
  have sB := chainsBoundary hsz hc.v.inc hc.keys (x := [(y.id, 1)]) (by simp) hb (by omega)
  rw [bnd_ok hc.v hin, bd_one hc.v hy] at sB
  have hz := (hsz.bb y hy).sz (by omega)
  have hl := hsz.bl y hy
  have sS := r26Same y.b y.b hz hz (by omega) (by omega)
  simp only [decide_true] at sS
  exact ⟨sB, sS⟩
set_option maxHeartbeats 8000000 in
set_option maxRecDepth 10000 in
theorem lawBoundary26 (s : Int) (q : List Q4) (l m : List Int) (hs : 0 ≤ s ∧ s ≤ 255) (hq : ∀ y ∈ q, y.ok) (hql : q.length ≤ 9223372036854775807) (hl : ∀ x ∈ l, -128 ≤ x ∧ x ≤ 127) (hll : l.length ≤ 9223372036854775807) (hm : ∀ x ∈ m, -128 ≤ x ∧ x ≤ 127) (hml : m.length ≤ 9223372036854775807) :
    Spec Tryz.prog 4 [encRaw s q, encBz l, encBz m] (.b true) := by
  obtain ⟨c, sM, hc⟩ := made_ex s q hs hq hql
  have hlen := hc.len
  have sO := r01Of (l.length : Int) (by omega) (by omega)
  have sO1 := r01Of 1 (by decide) (by decide)
  obtain ⟨n, hn⟩ : ∃ n : Int, (l.length : Int) = n := ⟨_, rfl⟩
  have hn2 : 0 ≤ n ∧ n ≤ 9223372036854775807 := by omega
  have hrf := fun (k : Int) hk => round_facts hc k n hk hn2 l m hl hll hm hml
  rw [hn] at sO
  have hr : encRaw s q = .ag [.i .u8 s, .sl (q.map encQ)] := rfl
  refine spec_of (N := 181) follows_mixed Tryz.func4 rfl rfl rfl (by kernel_rfl) (by kernel_rfl) (by simp) ?_
  simp (config := { maxSteps := 1000000 }) [-List.map_map, -List.mapM_map, ↓KW, hr, encBz]
  refine callP_intro (ds := []) (by rfl) sanity26 ?_
  simp (config := { maxSteps := 1000000 }) [-List.map_map, -List.mapM_map, ↓KW, hr, encBz]
  refine callP_intro (ds := [encRaw s q]) (by rfl) sM ?_
  simp (config := { maxSteps := 1000000 }) [-List.map_map, -List.mapM_map, ↓KW, encX, encBz, hn]
  refine callP_intro (ds := [.i .i64 n]) (by rfl) sO ?_
  rw [encZ_eq]
  simp (config := { maxSteps := 1000000 }) [-List.map_map, -List.mapM_map, ↓KW, encX, encBz, cellsA_encM, one_encM, inj1_encM, inj_encM, kills_encM]
  refine loopP_inv (fun k : Nat => k ≤ 4) (fun k => StL [(1, .d (encBz l)), (2, .d (encBz m)), (7, .d (.b true)), (8, .d (encX c)), (9, .ptr 1 0), (10, .d (.i .i64 (k : Int)))] none [.cells 51 [.d (.b (decide (n < 0))), .d (encM (digs n.natAbs))]]) (fun k => 4 - k) 0 (Nat.zero_le _) ?_ ?_
  · refine wk_l [2] (by simp) ?_ ?_ <;> simp [-List.map_map, upd, inj1, Γ0, encX, encBz]
  · intro k hk
    by_cases hgo : k < 4
    · have q1 : (k : Int) ≤ 3 := by omega
      have q1' : k ≤ 3 := by omega
      have hw : IntKind.i64.wrap ((k : Int) + 1) = (k : Int) + 1 := wrap_i64 (by omega) (by omega)
      have hw1 : IntKind.i64.wrap ((k : Int) - 1) = (k : Int) - 1 := wrap_i64 (by omega) (by omega)
      refine (hrf k (by omega)).elim fun a hh => hh.elim fun b hh => hh.elim fun ab hh => hh.elim fun d hh => hh.elim fun f hh => hh.elim fun L hh => hh.elim fun va hh => hh.elim fun row hh => hh.elim fun R hh => hh.elim fun C hh => hh.elim fun M hh => ?_
      have p1 := hh.1
      have p2 := hh.2.1
      have p3 := hh.2.2.1
      have p4 := hh.2.2.2.1
      have p5 := hh.2.2.2.2.1
      have p6 := hh.2.2.2.2.2.1
      have p7 := hh.2.2.2.2.2.2.1
      have p8 := hh.2.2.2.2.2.2.2.1
      have p9 := hh.2.2.2.2.2.2.2.2.1
      have p10 := hh.2.2.2.2.2.2.2.2.2.1
      have p11 := hh.2.2.2.2.2.2.2.2.2.2.1
      have p12 := hh.2.2.2.2.2.2.2.2.2.2.2.1
      have p13 := hh.2.2.2.2.2.2.2.2.2.2.2.2.1
      have p14 := hh.2.2.2.2.2.2.2.2.2.2.2.2.2.1
      have p15 := hh.2.2.2.2.2.2.2.2.2.2.2.2.2.2.1
      have p16 := hh.2.2.2.2.2.2.2.2.2.2.2.2.2.2.2.1
      have p17 := hh.2.2.2.2.2.2.2.2.2.2.2.2.2.2.2.2.1
      have p18 := hh.2.2.2.2.2.2.2.2.2.2.2.2.2.2.2.2.2
      clear hh hrf
      simp (config := { maxSteps := 1000000 }) [-List.map_map, -List.mapM_map, ↓KW, encX, encBz, q1, q1']
      refine callP_intro (ds := [encX c, .i .i64 k, encBz l]) (by rfl) p1 ?_
      simp (config := { maxSteps := 1000000 }) [-List.map_map, -List.mapM_map, ↓KW, encX, encBz, encC]
      refine callP_intro (ds := [encX c, .i .i64 k, encBz m]) (by rfl) p2 ?_
      simp (config := { maxSteps := 1000000 }) [-List.map_map, -List.mapM_map, ↓KW, encX, encBz, encC]
      refine callP_intro (ds := [encX c, encC a]) (by rfl) p3 ?_
      simp (config := { maxSteps := 1000000 }) [-List.map_map, -List.mapM_map, ↓KW, encX, encBz, encC]
      refine callP_intro (ds := [encX c, encC b]) (by rfl) p4 ?_
      simp (config := { maxSteps := 1000000 }) [-List.map_map, -List.mapM_map, ↓KW, encX, encBz, encC, cellsA_encM, one_encM, inj1_encM, inj_encM]
      refine callP_intro (ds := [encC a, encC b, encZ n]) (by rfl) p5 ?_
      simp (config := { maxSteps := 1000000 }) [-List.map_map, -List.mapM_map, ↓KW, encX, encBz, encC]
      refine callP_intro (ds := [encX c, encC ab]) (by rfl) p6 ?_
      simp (config := { maxSteps := 1000000 }) [-List.map_map, -List.mapM_map, ↓KW, encX, encBz, encC]
      refine callP_intro (ds := [encC d]) (by rfl) p7 ?_
      simp (config := { maxSteps := 1000000 }) [-List.map_map, -List.mapM_map, ↓KW, encX, encBz, encC]
      refine callP_intro (ds := [encC f]) (by rfl) p8 ?_
      simp (config := { maxSteps := 1000000 }) [-List.map_map, -List.mapM_map, ↓KW, encX, encBz, encC, cellsA_encM, one_encM, inj1_encM, inj_encM]
      refine callP_intro (ds := [encC d, encC f, encZ n]) (by rfl) p9 ?_
      simp (config := { maxSteps := 1000000 }) [-List.map_map, -List.mapM_map, ↓KW, encX, encBz, encC]
      refine callP_intro (ds := [encC L, encC L]) (by rfl) p10 ?_
      simp (config := { maxSteps := 1000000 }) [-List.map_map, -List.mapM_map, ↓KW, encX, encBz, encC]
      refine callP_intro (ds := [encX c, encC d]) (by rfl) p11 ?_
      simp (config := { maxSteps := 1000000 }) [-List.map_map, -List.mapM_map, ↓KW, encX, encBz, encC, hw1]
      refine callP_intro (ds := [encX c, .i .i64 ((k : Int) - 1), encC d]) (by rfl) p12 ?_
      simp (config := { maxSteps := 1000000 }) [-List.map_map, -List.mapM_map, ↓KW, encX, encBz, encC, encV2]
      refine callP_intro (ds := [encX c, encC d]) (by rfl) p13 ?_
      by_cases hk0 : 0 < k
      · have q2 : (0 : Int) < k := by omega
        have q3 : (((k : Int) == 0) : Bool) = false := by simp; omega
        have q4 : ¬ (k : Int) = 0 := by omega
        have q5 : ¬ k = 0 := by omega
        simp (config := { maxSteps := 1000000 }) [-List.map_map, -List.mapM_map, ↓KW, encX, encBz, encC, encV2, q2, hk0, q3, q4, q5]
        refine callP_intro (ds := [encX c, .i .i64 k, encC a]) (by rfl) p14 ?_
        simp (config := { maxSteps := 1000000 }) [-List.map_map, -List.mapM_map, ↓KW, encX, encBz, encC, encV2]
        refine callP_intro (ds := [encX c, .i .i64 k]) (by rfl) p15 ?_
        simp (config := { maxSteps := 1000000 }) [-List.map_map, -List.mapM_map, ↓KW, encX, encBz, encC, encV2, encMat]
        refine callP_intro (ds := [encV2 va, encMat R C M]) (by rfl) p16 ?_
        simp (config := { maxSteps := 1000000 }) [-List.map_map, -List.mapM_map, ↓KW, encX, encBz, encC, encV2]
        refine callP_intro (ds := [encV2 row, encV2 row]) (by rfl) p17 ?_
        simp (config := { maxSteps := 1000000 }) [-List.map_map, -List.mapM_map, ↓KW, encX, encBz, encC, encV2, q2, hk0, q3, q4, q5, hw]
        refine nxt_intro (k + 1) hgo (Nat.sub_lt_sub_left hgo (Nat.lt_succ_self _)) (wk_l [1] (by simp) ?_ ?_) <;> simp [-List.map_map, upd, inj1, Γ0, encX, encBz]
      · have q2 : ¬ (0 : Int) < k := by omega
        have q3 : (((k : Int) == 0) : Bool) = true := by simp; omega
        have hd0 := p18 (by omega)
        have q5 : k = 0 := by omega
        simp (config := { maxSteps := 1000000 }) [-List.map_map, -List.mapM_map, ↓KW, encX, encBz, encC, encV2, q2, hk0, q3, hd0, hw]
        refine nxt_intro (k + 1) hgo (Nat.sub_lt_sub_left hgo (Nat.lt_succ_self _)) (wk_l [1] (by simp) ?_ ?_) <;> simp [-List.map_map, upd, inj1, Γ0, encX, encBz]
    · have q1 : ¬ (k : Int) ≤ 3 := by omega
      have q1' : ¬ k ≤ 3 := by omega
      simp (config := { maxSteps := 1000000 }) [-List.map_map, -List.mapM_map, ↓KW, encX, encBz, q1, q1']
      refine loopP_inv (fun i : Nat => i ≤ c.length) (fun i => StL [(7, .d (.b true)), (8, .d (encX c)), (23, .d (.i .i64 (i : Int)))] none []) (fun i => c.length - i) 0 (Nat.zero_le _) ?_ ?_
      · refine wk_l [] (by simp) ?_ ?_ <;> simp [-List.map_map, upd, inj1, Γ0, encX, blksOk]
      · clear hk hgo q1 q1'
        intro i hi
        by_cases hgo : i < c.length
        · have q1 : (i : Int) < c.length := by omega
          have hx : c[i]? = some c[i] := List.getElem?_eq_getElem hgo
          have hw : IntKind.i64.wrap ((i : Int) + 1) = (i : Int) + 1 := wrap_i64 (by omega) (by omega)
          have hcf := cell_facts hc (List.getElem_mem hgo)
          refine (show ∃ y, c[i] = y from ⟨_, rfl⟩).elim fun y hye => ?_
          rw [hye] at hx hcf
          have hx' : ∀ h : i < c.length, c[i]'h = y := fun h => Option.some.inj ((List.getElem?_eq_getElem h).symm.trans hx)
          have hyc : encCl y = [D.i .i64 y.id, .i .i64 y.dim, encC y.b] := rfl
          have hb := hcf.1
          have hsm := hcf.2
          have hm1 : (1 : Nat) ≤ maxLen := le_maxLen (by decide)
          simp (config := { maxSteps := 1000000 }) [-List.map_map, -List.mapM_map, ↓KW, encX, q1, hgo, hx, hx', hyc, one_encC, cellsA_encC, inj1_encC]
          refine callP_intro (ds := [.i .i64 1]) (by rfl) sO1 ?_
          rw [encZ_eq]
          simp (config := { maxSteps := 1000000 }) [-List.map_map, -List.mapM_map, ↓KW, hm1, cellsA_encM, one_encM, inj1_encM, inj_encM, kills_encM]
          refine callP_intro (ds := [encX c, encC [(y.id, 1)]]) (by rfl) hb ?_
          have hf1 : ∀ l : List (List D), flat1 (.sl l) = false := fun _ => rfl
          simp (config := { maxSteps := 1000000 }) [-List.map_map, -List.mapM_map, ↓KW, encX, encC, q1, hgo, hx, hx', hyc, hf1, one_encC, cellsA_encC, inj1_encC]
          refine callP_intro (ds := [encC y.b, encC y.b]) (by rfl) hsm ?_
          simp (config := { maxSteps := 1000000 }) [-List.map_map, -List.mapM_map, ↓KW, hw]
          refine nxt_intro (i + 1) hgo (Nat.sub_lt_sub_left hgo (Nat.lt_succ_self _)) (wk_l [] (by simp) ?_ ?_) <;> simp [-List.map_map, upd, inj1, Γ0, encX, blksOk]
        · have q1 : ¬ (i : Int) < c.length := by omega
          simp (config := { maxSteps := 1000000 }) [-List.map_map, -List.mapM_map, ↓KW, encX, q1]
end Go.Am
end
