/- ChainsMatchesReference answers true: a contract. No condition. -/
import Derived.Test.YtmnjglpieghdkaaGreatM6
import Derived.Test.YtmnjglpieghdkaaGreatM4
import Derived.Test.YtmnjglpieghdkaaGreatRows
section
set_option linter.unusedVariables false
set_option linter.unusedSimpArgs false
open Go Go.Am Go.Proofs
namespace Go.Am
set_option linter.unusedSimpArgs false
set_option linter.unusedVariables false

def eD (d : Int) : Nat := if d = 1 then 4 else if d = 2 then 16777216 else if d = 3 then 549755944960 else 0
/-- A complex behind i rounds. -/
structure Gr (i : Nat) (c : List Cl) : Prop where
  v : CxV c
  len : c.length ≤ 7 + i
  n0 : (idsX c 0).length ≤ 3 + i
  n1 : (idsX c 1).length ≤ 3 + i
  n2 : (idsX c 2).length ≤ 2 + i
  ids : ∀ x ∈ c, 1 ≤ x.id ∧ x.id ≤ 9 + 2 * (i : Int)
  bl : ∀ x ∈ c, x.b.length ≤ 48
  eb : ∀ x ∈ c, Bnd (2 ^ eD x.dim) x.b

/-! The spaces -/
def grB (c : List Cl) : Prop := (c.Pairwise fun x y => x.id < y.id) ∧ (∀ x ∈ c, 0 ≤ x.dim ∧ x.dim ≤ 3) ∧ (∀ x ∈ c, x.b.Pairwise (fun x y => x.1 < y.1) ∧ ∀ y ∈ x.b, y.2 ≠ 0) ∧ (∀ x ∈ c, ∀ f ∈ x.b, ∃ y ∈ c, y.id = f.1 ∧ y.dim = x.dim - 1) ∧ (∀ x ∈ c, addR [] (bdL c x.b) = [])
  ∧ c.length ≤ 7 ∧ (idsX c 0).length ≤ 3 ∧ (idsX c 1).length ≤ 3 ∧ (idsX c 2).length ≤ 2 ∧ (∀ x ∈ c, 1 ≤ x.id ∧ x.id ≤ 9) ∧ (∀ x ∈ c, x.b.length ≤ 48) ∧ ∀ x ∈ c, x.b = [] ∨ (1 ≤ x.dim ∧ ∀ y ∈ x.b, y.2.natAbs ≤ 16)
instance (c : List Cl) : Decidable (grB c) := by unfold grB; infer_instance
theorem eD_ge {d : Int} (h1 : 1 ≤ d) (h3 : d ≤ 3) : 4 ≤ eD d := by
  unfold eD
  split
  · omega
  · split
    · omega
    · rw [if_pos (by omega)]; omega
theorem gr_of {c : List Cl} (h : grB c) : Gr 0 c := by
  obtain ⟨h1, h2, h3, h4, h5, h6, h7, h8, h9, h10, h11, h12⟩ := h
  refine ⟨⟨h1, h2, h3, h4, fun x hx n => ?_⟩, h6, h7, h8, h9, fun x hx => by have := h10 x hx; omega, h11, fun x hx => ?_⟩
  · rw [← cf_bdL]
    have := (addR_val (bdL c x.b) [] Val.nil).2 n
    rw [h5 x hx, getM_nil] at this; omega
  · rcases h12 x hx with h | ⟨h, h'⟩
    · rw [h]; exact Bnd.nil _
    · exact Bnd.mono (M := 16) h' (Nat.le_trans (show 16 ≤ 2 ^ 4 by decide) (pw_le (eD_ge h (h2 x hx).2)))
set_option maxRecDepth 100000 in
theorem spc_gr (j : Nat) (h : j < 14) : Gr 0 (spc j) := by
  refine gr_of ?_
  revert j
  decide

/-! One more cell -/
theorem gB_props {c : List Cl} {E : Nat} {cyc : List (List (Int × Int))} {xs : List Int} {S : Int → Prop} {W : Int → Int → Int} (hc : ∀ y ∈ cyc, Val y ∧ Bnd (2 ^ E) y ∧ (∀ f ∈ y, S f.1) ∧ ∀ n, wsum (W n) y = 0) :
    ∀ i, i ≤ cyc.length → Val (gB cyc xs i) ∧ Bnd (i * (2 ^ 2 * 2 ^ E)) (gB cyc xs i) ∧ (∀ f ∈ gB cyc xs i, S f.1) ∧ ∀ n, wsum (W n) (gB cyc xs i) = 0
  | 0, _ => ⟨Val.nil, Bnd.nil _, (fun f hf => absurd hf List.not_mem_nil), fun n => rfl⟩
  | i + 1, hi => by
    obtain ⟨h1, h2, h3, h4⟩ := gB_props (c := c) (xs := xs) hc i (by omega)
    have hm : cyc.getD i [] ∈ cyc := by rw [List.getD_eq_getElem?_getD, List.getElem?_eq_getElem (by omega)]; exact List.getElem_mem _
    obtain ⟨y1, y2, y3, y4⟩ := hc _ hm
    refine ⟨(lin_val h1 y1 _).1, ?_, lin_keys' h1 y1 h3 y3, fun n => ?_⟩
    · rw [Nat.succ_mul]
      exact lin_vbnd h1 y1 h2 y2 (tmod4 _).1
    · show wsum (W n) (addR (gB cyc xs i) (mulR _ (cyc.getD i []))) = 0
      rw [wsum_addR, wsum_mulR, h4, y4]; simp
theorem gId_gt {c : List Cl} {x0 : Int} (h : Inc c) : ∀ x ∈ c, x.id < gId c x0 := fun x hx => by
  unfold gId
  cases e : c.getLast? with
  | none => rw [List.getLast?_eq_none_iff] at e; rw [e] at hx; cases hx
  | some y =>
    obtain ⟨ys, hy⟩ := List.getLast?_eq_some_iff.1 e
    have : x.id ≤ y.id := by
      rw [hy] at hx h
      rcases List.mem_append.1 hx with hx | hx
      · exact Int.le_of_lt ((List.pairwise_append.1 h).2.2 x hx y (List.mem_singleton_self _))
      · rw [List.mem_singleton.1 hx]; exact Int.le_refl _
    simp only; omega
theorem gId_le {c : List Cl} {x0 m : Int} (h : ∀ x ∈ c, 1 ≤ x.id ∧ x.id ≤ m) (hm : 0 ≤ m) : 1 ≤ gId c x0 ∧ gId c x0 ≤ m + 2 := by
  unfold gId
  cases e : c.getLast? with
  | none => simp only; omega
  | some y =>
    have := h y (List.mem_of_getLast? e)
    simp only; omega

theorem grow {i E : Nat} {c : List Cl} {x0 x1 x2 x3 : Int} {cyc : List (List (Int × Int))} (g : Gr i c) (hc : ∀ y ∈ cyc, Val y ∧ Bnd (2 ^ E) y ∧ (∀ f ∈ y, f.1 ∈ idsX c (gDim x0 - 1)) ∧ ∀ n, wsum (fun m => cf n (bOf c m)) y = 0) (hl : ∀ y ∈ cyc, y.length ≤ 16)
    (hE : cyc = [] ∨ E + 4 ≤ eD (gDim x0)) : Gr (i + 1) (grown c x0 x1 x2 x3 cyc) := by
  obtain ⟨b1, b2, b3, b4⟩ := gB_props (c := c) (xs := [x0, x1, x2, x3]) hc (min 3 cyc.length) (by omega)
  have b5 : (gB cyc [x0, x1, x2, x3] (min 3 cyc.length)).length ≤ 48 := by
    have := (gB_sz (e := E) (xs := [x0, x1, x2, x3]) (fun y hy => (hc y hy).2.1) hl (min 3 cyc.length) (by omega) (by omega)).2
    omega
  have b6 : Bnd (2 ^ eD (gDim x0)) (gB cyc [x0, x1, x2, x3] (min 3 cyc.length)) := by
    rcases hE with h | h
    · subst h; exact Bnd.nil _
    · refine b2.mono (Nat.le_trans ?_ (pw_le h))
      rw [pw_mul, show E + 4 = 2 + (2 + E) by omega]
      exact pw_len (Nat.le_trans (show min 3 cyc.length ≤ 3 by omega) (by decide))
  unfold grown
  generalize gB cyc [x0, x1, x2, x3] (min 3 cyc.length) = b at *
  have hgt := gId_gt (x0 := x0) g.v.inc
  have hle := gId_le (x0 := x0) g.ids (by omega)
  have hd : 0 ≤ gDim x0 ∧ gDim x0 ≤ 3 := by unfold gDim; omega
  generalize gId c x0 = id at *
  generalize gDim x0 = d at *
  have hmem : ∀ n k, n ∈ idsX c k → n ≠ id := fun n k hn => by
    obtain ⟨y, hy, _, e⟩ := mem_idsX.1 hn
    have := hgt y hy; omega
  have hall : ∀ (P : Cl → Prop), (∀ x ∈ c, P x) → P ⟨id, d, b⟩ → ∀ x ∈ c ++ [⟨id, d, b⟩], P x := fun P h1 h2 x hx => by
    rcases List.mem_append.1 hx with hx | hx
    · exact h1 x hx
    · rw [List.mem_singleton.1 hx]; exact h2
  have hcnt : ∀ k m, (idsX c k).length ≤ m → (idsX (c ++ [⟨id, d, b⟩]) k).length ≤ m + 1 := fun k m h => by
    rw [idsX_app, List.length_append]; split <;> simp <;> omega
  refine ⟨⟨?_, hall _ g.v.dim hd, hall _ g.v.val b1, hall _ (fun x hx f hf => ?_) fun f hf => ?_, hall _ (fun x hx n => ?_) fun n => ?_⟩, ?_, hcnt 0 _ g.n0, hcnt 1 _ g.n1, hcnt 2 _ g.n2, hall _ (fun x hx => ?_) ?_, hall _ g.bl b5, hall _ g.eb b6⟩
  · refine List.pairwise_append.2 ⟨g.v.inc, List.pairwise_singleton _ _, fun x hx y hy => ?_⟩
    rw [List.mem_singleton.1 hy]; exact hgt x hx
  · obtain ⟨y, hy, e⟩ := g.v.face x hx f hf
    exact ⟨y, List.mem_append_left _ hy, e⟩
  · obtain ⟨y, hy, e1, e2⟩ := mem_idsX.1 (b3 f hf)
    exact ⟨y, List.mem_append_left _ hy, e2, e1⟩
  · rw [wsum_congr fun f hf => ?_]
    · exact g.v.cyc x hx n
    · obtain ⟨y, hy, e, _⟩ := g.v.face x hx f hf
      rw [bOf_app]
      have := hgt y hy
      show f.1 ≠ id; omega
  · rw [wsum_congr fun f hf => ?_]
    · exact b4 n
    · rw [bOf_app]; exact hmem _ _ (b3 f hf)
  · rw [List.length_append]; have := g.len; simp; omega
  · have := g.ids x hx; omega
  · show 1 ≤ id ∧ id ≤ _; omega

/-! The cycles -/
theorem tr6 : ∀ R, R ≤ 6 → tr R ≤ 21 := by
  intro R h
  have : ∀ R, R < 7 → tr R ≤ 21 := by decide
  exact this R (by omega)
theorem tr5 : ∀ R, R ≤ 5 → tr R ≤ 15 := by
  intro R h
  have : ∀ R, R < 6 → tr R ≤ 15 := by decide
  exact this R (by omega)
theorem cyc_of {E : Nat} {c : List Cl} {k : Int} {L : List (List Int)} (hv : CxV c) (hL : LeftR (idsX c k).length (idsX c (k - 1)).length E (matX c k) L) :
    ∀ y ∈ L.map fun v => (chX c k v).1, (Val y ∧ Bnd (2 ^ E) y ∧ (∀ f ∈ y, f.1 ∈ idsX c k) ∧ ∀ n, wsum (fun m => cf n (bOf c m)) y = 0) ∧ y.length ≤ (idsX c k).length := fun y hy => by
  obtain ⟨v, hvL, rfl⟩ := List.mem_map.1 hy
  have hr := hL.row v hvL
  have e : (chX c k v).1 = addR [] ((idsX c k).zip v) := by unfold chX; rw [if_pos hr]
  rw [e]
  obtain ⟨c1, c2, c3, c4, _⟩ := chain_of (hv.inc.ids k) (hL.be v hvL)
  exact ⟨⟨c1, c2, c3, hv.cycle hr (hL.ker v hvL)⟩, c4⟩
theorem cyc_ex {i : Nat} {c : List Cl} (g : Gr i c) (hi : i ≤ 3) (d : Int) (hd : 0 ≤ d ∧ d ≤ 3) : ∃ cyc E, Spec Tryz.prog 64 [encX c, .i .i64 (d - 1)] (encCh cyc) ∧ (cyc = [] ∨ E + 4 ≤ eD d) ∧ E + 20 < 4398046511104 ∧ cyc.length ≤ 100 ∧
    ∀ y ∈ cyc, (Val y ∧ Bnd (2 ^ E) y ∧ (∀ f ∈ y, f.1 ∈ idsX c (d - 1)) ∧ ∀ n, wsum (fun m => cf n (bOf c m)) y = 0) ∧ y.length ≤ 16 := by
  have hlen := g.len
  have hbl : ∀ x ∈ c, x.b.length ≤ 1000000 := fun x hx => Nat.le_trans (g.bl x hx) (by decide)
  have fin : ∀ (k : Int) (E : Nat) L, 0 ≤ k → k ≤ 2 → (idsX c k).length ≤ 16 → E + 20 < 4398046511104 → E + 4 ≤ eD (k + 1) → LeftR (idsX c k).length (idsX c (k - 1)).length E (matX c k) L → ∃ cyc E, Spec Tryz.prog 64 [encX c, .i .i64 k] (encCh cyc) ∧ (cyc = [] ∨ E + 4 ≤ eD (k + 1)) ∧ E + 20 < 4398046511104 ∧ cyc.length ≤ 100 ∧
      ∀ y ∈ cyc, (Val y ∧ Bnd (2 ^ E) y ∧ (∀ f ∈ y, f.1 ∈ idsX c k) ∧ ∀ n, wsum (fun m => cf n (bOf c m)) y = 0) ∧ y.length ≤ 16 := fun k E L h1 h2 h3 h4 h5 hL => by
    have hc := cyc_of g.v hL
    refine ⟨_, E, r26Cycles c k L (by omega) (by omega) hbl hL h4, .inr h5, h4, ?_, fun y hy => ⟨(hc y hy).1, Nat.le_trans (hc y hy).2 h3⟩⟩
    rw [List.length_map]
    have := hL.len; omega
  have hd' : d = 0 ∨ d = 1 ∨ d = 2 ∨ d = 3 := by omega
  rcases hd' with rfl | rfl | rfl | rfl
  · exact ⟨[], 0, r26CyclesN c _ (by decide), .inl rfl, by decide, by simp, fun y hy => by cases hy⟩
  · have h0 : (idsX c (0 - 1)).length = 0 := by
      rw [List.length_eq_zero_iff]
      refine List.eq_nil_iff_forall_not_mem.2 fun n hn => ?_
      obtain ⟨x, hx, hdx, _⟩ := mem_idsX.1 hn
      have := (g.v.dim x hx).1; omega
    have hs := matX_sh c 0
    rw [h0] at hs
    have hl := left_id hs (by have := g.n0; omega)
    refine fin 0 0 _ (by decide) (by decide) (by have := g.n0; omega) (by decide) (by decide) (by rw [h0]; exact hl)
  · have hb : Be 4 (matX c 1) := matX_be g.v.inc fun x hx hdx => by have := g.eb x hx; rw [hdx] at this; exact this
    have hn := g.n1
    have h1 := dbl_mono (e := 4) (tr6 (idsX c 1).length (by omega))
    have h2 := dbl_eq 21 4
    rw [show 2 ^ 21 * (4 + 4) = 16777216 by decide] at h2
    obtain ⟨L, hL⟩ := left_ex (matX_sh c 1) (by omega) (by have := idsX_len c (1 - 1); omega) hb (by omega)
    exact fin 1 _ L (by decide) (by decide) (by omega) (by omega) (by show _ ≤ 16777216; omega) hL
  · obtain ⟨E2, hE2, hE3⟩ : ∃ E, E = eD 2 ∧ E = 16777216 := ⟨eD 2, rfl, rfl⟩
    have hb : Be E2 (matX c 2) := matX_be g.v.inc fun x hx hdx => by have := g.eb x hx; rw [hdx, ← hE2] at this; exact this
    have hn := g.n2
    have h1 := dbl_mono (e := E2) (tr5 (idsX c 2).length (by omega))
    have h2 := dbl_eq 15 E2
    have h3 : 2 ^ 15 * (E2 + 4) = 549755944960 := by rw [hE3]
    rw [h3] at h2
    obtain ⟨L, hL⟩ := left_ex (matX_sh c 2) (by omega) (by have := idsX_len c (2 - 1); omega) hb (by omega)
    exact fin 2 _ L (by decide) (by decide) (by omega) (by omega) (by show _ ≤ 549755944960; omega) hL

/-! The draw -/
abbrev Q4 := Int × Int × Int × Int
def Q4.ok (q : Q4) : Prop := (-128 ≤ q.1 ∧ q.1 ≤ 127) ∧ (-128 ≤ q.2.1 ∧ q.2.1 ≤ 127) ∧ (-128 ≤ q.2.2.1 ∧ q.2.2.1 ≤ 127) ∧ (-128 ≤ q.2.2.2 ∧ q.2.2.2 ≤ 127)
def encQ (q : Q4) : List D := [.i .i8 q.1, .i .i8 q.2.1, .i .i8 q.2.2.1, .i .i8 q.2.2.2]
def encRaw (s : Int) (l : List Q4) : D := .ag [.i .u8 s, .sl (l.map encQ)]
theorem grown_ex {i : Nat} {c : List Cl} (g : Gr i c) (hi : i ≤ 3) (q : Q4) (hq : q.ok) : ∃ c', Spec Tryz.prog 37 [encX c, .ag (encQ q)] (encX c') ∧ Gr (i + 1) c' := by
  obtain ⟨x0, x1, x2, x3⟩ := q
  obtain ⟨cyc, E, h1, h2, h3, h4, h5⟩ := cyc_ex g hi (gDim x0) (by unfold gDim; omega)
  have hlen := g.len
  exact ⟨_, r26Grown (e := E) c x0 x1 x2 x3 cyc hq.1 hq.2.1 hq.2.2.1 hq.2.2.2 (by omega) (fun y hy => by have := g.ids y hy; omega) h1 h4 (fun y hy => (h5 y hy).1.2.1) (fun y hy => (h5 y hy).2) h3,
    grow g (fun y hy => (h5 y hy).1) (fun y hy => (h5 y hy).2) h2⟩
inductive MkR : List Q4 → List Cl → List Cl → Prop
  | nil (c : List Cl) : MkR [] c c
  | cons (q : Q4) (l : List Q4) (c c1 c2 : List Cl) (h : Spec Tryz.prog 37 [encX c, .ag (encQ q)] (encX c1)) (h2 : MkR l c1 c2) : MkR (q :: l) c c2
theorem MkR.end {c c2 : List Cl} (h : MkR [] c c2) : c2 = c := by cases h; rfl
theorem MkR.next {q : Q4} {l : List Q4} {c c2 : List Cl} (h : MkR (q :: l) c c2) : ∃ c1, Spec Tryz.prog 37 [encX c, .ag (encQ q)] (encX c1) ∧ MkR l c1 c2 := by cases h with | cons _ _ _ c1 _ h h2 => exact ⟨c1, h, h2⟩
theorem mk_ex : ∀ (l : List Q4) (i : Nat) (c : List Cl), Gr i c → i + l.length ≤ 4 → (∀ q ∈ l, q.ok) → ∃ c', MkR l c c' ∧ Gr (i + l.length) c'
  | [], i, c, g, _, _ => ⟨c, .nil c, g⟩
  | q :: l, i, c, g, hi, hq => by
    simp only [List.length_cons] at hi
    obtain ⟨c1, h1, h2⟩ := grown_ex g (by omega) q (hq q (List.mem_cons_self ..))
    obtain ⟨c2, h3, h4⟩ := mk_ex l (i + 1) c1 h2 (by omega) fun y hy => hq y (List.mem_cons_of_mem _ hy)
    exact ⟨c2, .cons q l c c1 c2 h1 h3, by rw [List.length_cons, show i + (l.length + 1) = i + 1 + l.length by omega]; exact h4⟩
set_option maxHeartbeats 2000000 in
set_option maxRecDepth 10000 in
theorem r26MadeS (s : Int) (l : List Q4) (c0 c : List Cl) (hl : l.length ≤ 9223372036854775807) (hS : Spec Tryz.prog 36 [.i .u8 s] (encX c0)) (hm : MkR (l.take 4) c0 c) : Spec Tryz.prog 7 [encRaw s l] (encX c) := by
  refine spec_of (N := 27) follows_mixed Tryz.func7 rfl rfl rfl (by kernel_rfl) (by kernel_rfl) (by simp) ?_
  have hq4 : ∀ q : Q4, encQ q = [.i .i8 q.1, .i .i8 q.2.1, .i .i8 q.2.2.1, .i .i8 q.2.2.2] := fun q => rfl
  simp (config := { maxSteps := 1000000 }) [-List.map_map, -List.mapM_map, ↓KW, encRaw]
  refine callP_intro (ds := [.i .u8 s]) (by rfl) hS ?_
  simp (config := { maxSteps := 1000000 }) [-List.map_map, -List.mapM_map, ↓KW, encX]
  refine loopP_inv (fun y : Nat × List Cl => y.1 ≤ min 4 l.length ∧ MkR ((l.take 4).drop y.1) y.2 c) (fun y => StL [(1, .ptr 1 0), (3, .d (encX y.2)), (4, .d (.i .i64 (y.1 : Int)))] none [.cells 24 [.d (.i .u8 s), .d (.sl (l.map encQ))]]) (fun y => 4 - y.1) (0, c0) ⟨Nat.zero_le _, hm⟩ ?_ ?_
  · refine wk_l [1] (by simp) ?_ ?_ <;> simp [-List.map_map, upd, inj1, Γ0, encX]
  · rintro ⟨i, d⟩ ⟨hi, hm⟩
    simp only at hi hm ⊢
    by_cases hgo : i < l.length ∧ i < 4
    · have g1 := hgo.1
      have g2 := hgo.2
      have q1 : (i : Int) < l.length := by omega
      have q2 : (i : Int) < 4 := by omega
      have hx : l[i]? = some l[i] := List.getElem?_eq_getElem g1
      have hd : (l.take 4).drop i = l[i] :: (l.take 4).drop (i + 1) := by
        rw [List.drop_eq_getElem_cons (by rw [List.length_take]; omega), List.getElem_take]
      rw [hd] at hm
      have hw : IntKind.i64.wrap ((i : Int) + 1) = (i : Int) + 1 := wrap_i64 (by omega) (by omega)
      refine (hm.next).elim fun d1 hh => ?_
      have h1 := hh.1
      have h2 := hh.2
      clear hh hd hm
      have hx' : ∀ h : i < l.length, l[i]'h = l[i] := fun h => rfl
      refine (show ∃ q, l[i] = q from ⟨_, rfl⟩).elim fun q hq => ?_
      rw [hq] at hx h1
      have hgy' : ∀ h : i < l.length, l[i]'h = q := fun h => hq
      have e4 := hq4 q
      rw [e4] at h1
      simp (config := { maxSteps := 1000000 }) [-List.map_map, -List.mapM_map, ↓KW, encX, g1, g2, q1, q2, hx, hgy', e4]
      refine callP_intro (ds := [encX d, .ag [.i .i8 q.1, .i .i8 q.2.1, .i .i8 q.2.2.1, .i .i8 q.2.2.2]]) (by rfl) h1 ?_
      simp (config := { maxSteps := 1000000 }) [-List.map_map, -List.mapM_map, ↓KW, encX, hw]
      refine nxt_intro (i + 1, d1) ⟨by simp only; omega, h2⟩ (by simp only; omega) (wk_l [1] (by simp) ?_ ?_) <;> simp [-List.map_map, upd, inj1, Γ0, encX]
    · have hd : (l.take 4).drop i = [] := List.drop_eq_nil_of_le (by rw [List.length_take]; omega)
      rw [hd] at hm
      have he := hm.end
      by_cases g1 : i < l.length
      · have q1 : (i : Int) < l.length := by omega
        have q2 : ¬ (i : Int) < 4 := by omega
        simp (config := { maxSteps := 1000000 }) [-List.map_map, -List.mapM_map, ↓KW, encX, q1, q2, he]
      · have q1 : ¬ (i : Int) < l.length := by omega
        simp (config := { maxSteps := 1000000 }) [-List.map_map, -List.mapM_map, ↓KW, encX, q1, he]

theorem space_ex (s : Int) (h : 0 ≤ s ∧ s ≤ 255) : ∃ j, j < 14 ∧ Spec Tryz.prog 36 [.i .u8 s] (encX (spc j)) := by
  have h1 := Int.tmod_lt_of_pos s (b := 14) (by decide)
  have h2 : 0 ≤ s.tmod 14 := Int.tmod_nonneg _ h.1
  have h3 : s.tmod 14 = 0 ∨ s.tmod 14 = 1 ∨ s.tmod 14 = 2 ∨ s.tmod 14 = 3 ∨ s.tmod 14 = 4 ∨ s.tmod 14 = 5 ∨ s.tmod 14 = 6 ∨ s.tmod 14 = 7 ∨ s.tmod 14 = 8 ∨ s.tmod 14 = 9 ∨ s.tmod 14 = 10 ∨ s.tmod 14 = 11 ∨ s.tmod 14 = 12 ∨ s.tmod 14 = 13 := by omega
  rcases h3 with e | e | e | e | e | e | e | e | e | e | e | e | e | e
  · exact ⟨0, by decide, space0 s e⟩
  · exact ⟨1, by decide, space1 s e⟩
  · exact ⟨2, by decide, space2 s e⟩
  · exact ⟨3, by decide, space3 s e⟩
  · exact ⟨4, by decide, space4 s e⟩
  · exact ⟨5, by decide, space5 s e⟩
  · exact ⟨6, by decide, space6 s e⟩
  · exact ⟨7, by decide, space7 s e⟩
  · exact ⟨8, by decide, space8 s e⟩
  · exact ⟨9, by decide, space9 s e⟩
  · exact ⟨10, by decide, space10 s e⟩
  · exact ⟨11, by decide, space11 s e⟩
  · exact ⟨12, by decide, space12 s e⟩
  · exact ⟨13, by decide, space13 s e⟩

/-- What is drawn. -/
structure MdX (c : List Cl) : Prop where
  v : CxV c
  len : c.length ≤ 11
  ids : ∀ x ∈ c, 1 ≤ x.id ∧ x.id ≤ 17
  sz : ∃ F, F = 549755944960 ∧ SzX F c
theorem eD_le (d : Int) : eD d ≤ 549755944960 := by
  unfold eD
  split
  · decide
  · split
    · decide
    · split <;> decide
theorem made_ex (s : Int) (l : List Q4) (hs : 0 ≤ s ∧ s ≤ 255) (hq : ∀ q ∈ l, q.ok) (hl : l.length ≤ 9223372036854775807) : ∃ c, Spec Tryz.prog 7 [encRaw s l] (encX c) ∧ MdX c := by
  obtain ⟨j, hj, h1⟩ := space_ex s hs
  have h4 : (l.take 4).length ≤ 4 := by rw [List.length_take]; omega
  obtain ⟨c, h2, g⟩ := mk_ex (l.take 4) 0 (spc j) (spc_gr j hj) (by omega) fun q h => hq q (List.mem_of_mem_take h)
  have hlen := g.len
  obtain ⟨F, hF⟩ : ∃ F, F = 549755944960 := ⟨_, rfl⟩
  have hFe : ∀ d, eD d ≤ F := fun d => by rw [hF]; exact eD_le d
  exact ⟨c, r26MadeS s l _ c hl h1 h2, g.v, by omega, fun x hx => by have := g.ids x hx; omega, F, hF, by omega, fun x hx => Nat.le_trans (g.bl x hx) (by decide), fun x hx => (g.eb x hx).pw (hFe _)⟩

end Go.Am
end

section
set_option linter.unusedVariables false
set_option linter.unusedSimpArgs false
open Go Go.Am Go.Proofs
namespace Go.Am
set_option linter.unusedSimpArgs false
open Go.ChangeShapes Go.WideShapes Go.ChangeAt Go.RowKit

theorem zRaw : Tryz.prog.cellsOf 24 = 2 := by kernel_rfl
theorem zU8 : Tryz.prog.cellsOf 5 = 1 := by kernel_rfl
theorem zI8 : Tryz.prog.cellsOf 26 = 1 := by kernel_rfl
theorem zA4 : Tryz.prog.cellsOf 78 = 4 := by kernel_rfl
theorem zL4 : Tryz.prog.cellsOf 22 = 1 := by kernel_rfl
theorem zA2 : Tryz.prog.cellsOf 67 = 2 := by kernel_rfl
theorem wf_i8z {n : Int} (h : (Lit.int .i8 n).wf = true) : -128 ≤ n ∧ n ≤ 127 := by
  have hmin : IntKind.i8.min = -128 := rfl
  have hmax : IntKind.i8.max = 127 := rfl
  simp only [Lit.wf, Bool.and_eq_true, decide_eq_true_eq] at h
  omega
theorem wf_u8z {n : Int} (h : (Lit.int .u8 n).wf = true) : 0 ≤ n ∧ n ≤ 255 := by
  have hmin : IntKind.u8.min = 0 := rfl
  have hmax : IntKind.u8.max = 255 := rfl
  simp only [Lit.wf, Bool.and_eq_true, decide_eq_true_eq] at h
  omega
theorem len4z {α : Type} {l : List α} (h : l.length = 4) : ∃ a b c d, l = [a, b, c, d] := by
  match l, h with
  | [a, b, c, d], _ => exact ⟨a, b, c, d, rfl⟩
theorem len2z {α : Type} {l : List α} (h : l.length = 2) : ∃ a b, l = [a, b] := by
  match l, h with
  | [a, b], _ => exact ⟨a, b, rfl⟩

section
variable {H : Type} {enc : TypeId × Value → H} {w : World} {sp : Nat → Bool} {held : Bool}
set_option maxRecDepth 100000 in
theorem openQ {cs : List Value} {x : DataW H × List MemPlace} {fuel : Nat} (h : DataW.trod enc Tryz.prog w 0 sp held fuel 78 cs = some x) :
    ∃ y : Q4, y.ok ∧ (encQ y).length = Tryz.prog.cellsOf 78 ∧ ∀ (k : Nat) (c : D) (v : Value), (encQ y)[k]? = some c → cs[k]? = some v → VD (fun b => b < w.heap.size) w c v := by
  obtain ⟨xs, m, _, _, hcl, hxl, hx⟩ := DataW.trod_array Tryz.underlying78 h
  rw [zA4] at hcl
  obtain ⟨a, b, c, d, rfl⟩ := len4z hcl
  have h0 := hx 0 (by decide)
  have h1 := hx 1 (by decide)
  have h2 := hx 2 (by decide)
  have h3 := hx 3 (by decide)
  rw [zI8, List.getElem?_eq_getElem (by omega)] at h0 h1 h2 h3
  simp only [Nat.mul_one, Nat.zero_mul, Nat.one_mul, List.drop_zero, List.drop_succ_cons, List.take_succ_cons, List.take_zero] at h0 h1 h2 h3
  obtain ⟨i0, e0, _, w0⟩ := DataW.trod_int Tryz.underlying26 h0
  obtain ⟨i1, e1, _, w1⟩ := DataW.trod_int Tryz.underlying26 h1
  obtain ⟨i2, e2, _, w2⟩ := DataW.trod_int Tryz.underlying26 h2
  obtain ⟨i3, e3, _, w3⟩ := DataW.trod_int Tryz.underlying26 h3
  injection e0 with e0; injection e1 with e1; injection e2 with e2; injection e3 with e3
  subst e0; subst e1; subst e2; subst e3
  refine ⟨(i0, i1, i2, i3), ⟨wf_i8z w0, wf_i8z w1, wf_i8z w2, wf_i8z w3⟩, by rw [zA4]; rfl, fun k c v hk hv => ?_⟩
  rcases k with _ | _ | _ | _ | k
  · simp [encQ] at hk hv; subst hk; subst hv; exact .i _ _
  · simp [encQ] at hk hv; subst hk; subst hv; exact .i _ _
  · simp [encQ] at hk hv; subst hk; subst hv; exact .i _ _
  · simp [encQ] at hk hv; subst hk; subst hv; exact .i _ _
  · simp [encQ] at hk
theorem openRawZ {v : Value} {d : DataW H} {ps : List MemPlace} {cs : Array Value} (hv : v = .agg cs) (h : DataW.Trod enc Tryz.prog w 0 sp held 24 v d ps) :
    ∃ (s : Int) (l : List Q4), VD (fun b => b < w.heap.size) w (encRaw s l) v ∧ (0 ≤ s ∧ s ≤ 255) ∧ (∀ y ∈ l, y.ok) ∧ l.length ≤ 9223372036854775807 := by
  subst hv
  obtain ⟨fuel, hf⟩ := h
  obtain ⟨xs, n, _, _, hl, hlen, hfs⟩ := DataW.trod_struct Tryz.underlying24 hf
  rw [zRaw] at hl
  have h0 := hfs 0 { name := "S", type := 5, offset := 0, embedded := false, tag := "", pkgPath := "", byteOffset := 0 } rfl
  have h1 := hfs 1 { name := "L", type := 22, offset := 1, embedded := false, tag := "", pkgPath := "", byteOffset := 8 } rfl
  obtain ⟨x0, hx0⟩ : ∃ x, xs[0]? = some x := ⟨_, List.getElem?_eq_getElem (by rw [hlen]; decide)⟩
  obtain ⟨x1, hx1⟩ : ∃ x, xs[1]? = some x := ⟨_, List.getElem?_eq_getElem (by rw [hlen]; decide)⟩
  rw [hx0] at h0; rw [hx1] at h1
  simp only [Value.cells] at h0 h1 hl
  obtain ⟨cs⟩ := cs
  simp only at h0 h1 hl
  obtain ⟨a, b, rfl⟩ := len2z hl
  simp only [zU8, zL4, List.drop_zero, List.drop_succ_cons, List.take_succ_cons, List.take_zero] at h0 h1
  obtain ⟨i, e1, _, w1⟩ := DataW.trod_int Tryz.underlying5 h0
  obtain ⟨u, l, e2, hu, hg, hL⟩ := openSlice Tryz.underlying22 (by rw [zA4]; decide) encQ Q4.ok (fun fuel cs x h => openQ h) h1
  injection e1 with e1; injection e2 with e2
  subst e1; subst e2
  refine ⟨i, l, .ag _ _ rfl fun k d v hk hv => ?_, wf_u8z w1, hg, hL⟩
  rcases k with _ | _ | k
  · simp at hk hv; subst hk; subst hv; exact .i _ _
  · simp at hk hv; subst hk; subst hv; exact hu
  · simp at hk
set_option maxRecDepth 100000 in
theorem openP {cs : List Value} {x : DataW H × List MemPlace} {fuel : Nat} (hf : DataW.trod enc Tryz.prog w 0 sp held fuel 25 cs = some x) :
    ∃ (u : Value) (l : List (Int × Int)), cs = [u] ∧ VD (fun b => b < w.heap.size) w (encP l) u ∧ (∀ p ∈ l, I8 p) ∧ l.length ≤ 9223372036854775807 :=
  openSlice Tryz.underlying25 (by rw [zA2]; decide) (fun (p : Int × Int) => [D.i .i8 p.1, D.i .i8 p.2]) I8 (fun fuel cs x h => by
    obtain ⟨xs, m, _, _, hcl, hxl, hx⟩ := DataW.trod_array Tryz.underlying67 h
    rw [zA2] at hcl
    obtain ⟨a, b, rfl⟩ := len2z hcl
    have h0 := hx 0 (by decide)
    have h1 := hx 1 (by decide)
    rw [zI8, List.getElem?_eq_getElem (by omega)] at h0 h1
    simp only [Nat.mul_one, Nat.zero_mul, Nat.one_mul, List.drop_zero, List.drop_succ_cons, List.take_succ_cons, List.take_zero] at h0 h1
    obtain ⟨i0, e0, _, w0⟩ := DataW.trod_int Tryz.underlying26 h0
    obtain ⟨i1, e1, _, w1⟩ := DataW.trod_int Tryz.underlying26 h1
    injection e0 with e0; injection e1 with e1
    subst e0; subst e1
    refine ⟨(i0, i1), ⟨wf_i8z w0, wf_i8z w1⟩, by rw [zA2]; rfl, fun k c v hk hv => ?_⟩
    rcases k with _ | _ | k
    · simp at hk hv; subst hk; subst hv; exact .i _ _
    · simp at hk hv; subst hk; subst hv; exact .i _ _
    · simp at hk) hf
theorem openBz {cs : List Value} {x : DataW H × List MemPlace} {fuel : Nat} (hf : DataW.trod enc Tryz.prog w 0 sp held fuel 48 cs = some x) :
    ∃ (u : Value) (l : List Int), cs = [u] ∧ VD (fun b => b < w.heap.size) w (.sl (l.map fun n => [D.i .i8 n])) u ∧ (∀ x ∈ l, -128 ≤ x ∧ x ≤ 127) ∧ l.length ≤ 9223372036854775807 :=
  openSlice Tryz.underlying48 (by rw [zI8]; decide) (fun n : Int => [D.i .i8 n]) (fun x => -128 ≤ x ∧ x ≤ 127) (fun fuel cs x h => by
    obtain ⟨a, q1, _, w1⟩ := DataW.trod_int Tryz.underlying26 h
    subst q1
    refine ⟨a, wf_i8z w1, by rw [zI8]; rfl, fun k c v hk hv => ?_⟩
    rcases k with _ | k
    · simp at hk hv
      subst hk; subst hv
      exact .i _ _
    · simp at hk) hf
end

end Go.Am
namespace Go.Proofs.YtmnjglpieghdkaaGreat
theorem ownZ : ownKnob Tryz.prog.godebug = none := by kernel_rfl
theorem laidZ : laidOutB Tryz.prog = true := by kernel_rfl
end Go.Proofs.YtmnjglpieghdkaaGreat
end

section
set_option linter.unusedVariables false
set_option linter.unusedSimpArgs false
open Go Go.Am Go.Proofs
namespace Go.Am
set_option linter.unusedSimpArgs false
set_option linter.unusedVariables false

/-- What a slot holds to which elements are appended, and the block. -/
def grS (t : Nat) (sl : List (Nat × AV)) (e : TypeId) (sz : Nat) (n : Nat) (cells : List D) : St := match n with
  | 0 => StL ((t, .nil) :: sl) none []
  | n + 1 => StL ((t, .own 1 0 (n + 1) sz) :: sl) none [.cells e (cells.map .d)]

set_option maxHeartbeats 1000000 in
set_option maxRecDepth 10000 in
theorem complexCells (c : List Cl) (k : Int) (hl : c.length ≤ 1000000) : Spec Tryz.prog 47 [encX c, .i .i64 k] (encIds (idsX c k)) := by
  refine spec_of (N := 25) follows_mixed Tryz.func47 rfl rfl rfl (by kernel_rfl) (by kernel_rfl) (by simp) ?_
  simp (config := { maxSteps := 1000000 }) [-List.map_map, -List.mapM_map, ↓KW, encX]
  refine loopP_inv (fun y : Nat × List Int => y.1 ≤ c.length ∧ idsX (c.take y.1) k = y.2) (fun y => grS 5 [(1, .d (.i .i64 k)), (8, .d (encX c)), (9, .d (.i .i64 c.length)), (10, .d (.i .i64 (y.1 : Int)))] 3 1 y.2.length (y.2.map fun n => D.i .i64 n)) (fun y => c.length - y.1) (0, []) ⟨Nat.zero_le _, rfl⟩ ?_ ?_
  · simp only [List.length_nil, grS]
    refine wk_l [] (by simp) ?_ ?_ <;> simp [-List.map_map, upd, inj1, Γ0, encX, blksOk]
  · rintro ⟨i, out⟩ ⟨hi, ho⟩
    simp only at hi ho ⊢
    by_cases hgo : i < c.length
    · have q1 : (i : Int) < c.length := by omega
      have hx : c[i]? = some c[i] := List.getElem?_eq_getElem hgo
      have hw : IntKind.i64.wrap ((i : Int) + 1) = (i : Int) + 1 := wrap_i64 (by omega) (by omega)
      have htk := idsX_take hgo k
      rw [ho] at htk
      have hln : out.length ≤ i := by rw [← ho]; exact Nat.le_trans (idsX_len _ _) (by simp; omega)
      refine (show ∃ x, c[i] = x from ⟨_, rfl⟩).elim fun x hxe => ?_
      rw [hxe] at hx htk
      have hyc : encCl x = [D.i .i64 x.id, .i .i64 x.dim, encC x.b] := rfl
      by_cases h0 : x.dim = k
      · rw [if_pos h0] at htk
        have q3 : (((k : Int) == (k : Int)) : Bool) = true := by simp
        rcases hn : out with _ | ⟨o1, o2⟩
        · rw [hn] at htk
          have hm1 : (1 : Nat) ≤ maxLen := le_maxLen (by decide)
          simp only [List.length_nil, grS]
          simp (config := { maxSteps := 1000000 }) [-List.map_map, -List.mapM_map, ↓KW, encX, q1, hx, hyc, h0, q3, hw, hm1, one_encC, cellsA_encC, inj1_encC]
          refine nxt_intro (i + 1, [x.id]) ⟨hgo, htk⟩ (Nat.sub_lt_sub_left hgo (Nat.lt_succ_self _)) ?_
          simp only [List.length_singleton, grS]
          refine wk_l [3] (by simp) ?_ ?_ <;> simp [-List.map_map, upd, inj1, Γ0, encX]
        · rw [← hn]
          refine (show ∃ m, out.length = m + 1 from ⟨o2.length, by rw [hn]; rfl⟩).elim fun m hm => ?_
          have hbb := app_bounds (n := m + 1) (by omega)
          have hb8 : (m + 1 + 1) * 8 ≤ 140737488355328 := by omega
          simp only [hm, grS]
          simp (config := { maxSteps := 1000000 }) [-List.map_map, -List.mapM_map, ↓KW, encX, q1, hx, hyc, h0, q3, hw, hm, hbb, hb8, le_maxLen, one_encC, cellsA_encC, inj1_encC]
          refine nxt_intro (i + 1, out ++ [x.id]) ⟨hgo, htk⟩ (Nat.sub_lt_sub_left hgo (Nat.lt_succ_self _)) ?_
          simp only [List.length_append, hm, List.length_singleton, grS]
          refine wk_l [4] (by simp) ?_ ?_ <;> simp [-List.map_map, upd, inj1, Γ0, encX]
      · rw [if_neg h0, List.append_nil] at htk
        have h0' : ((x.dim == k) : Bool) = false := by simpa using h0
        rcases hn : out.length with _ | m
        · simp only [grS]
          simp (config := { maxSteps := 1000000 }) [-List.map_map, -List.mapM_map, ↓KW, encX, q1, hx, hyc, h0, h0', hw, one_encC, cellsA_encC, inj1_encC]
          refine nxt_intro (i + 1, out) ⟨hgo, htk⟩ (Nat.sub_lt_sub_left hgo (Nat.lt_succ_self _)) ?_
          simp only [hn, grS]
          refine wk_l [] (by simp) ?_ ?_ <;> simp [-List.map_map, upd, inj1, Γ0, encX, blksOk]
        · simp only [grS]
          simp (config := { maxSteps := 1000000 }) [-List.map_map, -List.mapM_map, ↓KW, encX, q1, hx, hyc, h0, h0', hw, one_encC, cellsA_encC, inj1_encC]
          refine nxt_intro (i + 1, out) ⟨hgo, htk⟩ (Nat.sub_lt_sub_left hgo (Nat.lt_succ_self _)) ?_
          simp only [hn, grS]
          refine wk_l [1] (by simp) ?_ ?_ <;> simp [-List.map_map, upd, inj1, Γ0, encX]
    · have q1 : ¬ (i : Int) < c.length := by omega
      rw [List.take_of_length_le (by omega)] at ho
      have hln := idsX_len c k
      rw [ho] at hln ⊢
      rcases hn : out.length with _ | m
      · have e0 : out = [] := List.eq_nil_of_length_eq_zero hn
        simp only [grS]
        simp (config := { maxSteps := 1000000 }) [-List.map_map, -List.mapM_map, ↓KW, encX, encIds, q1, e0]
      · have e1 : List.take (m + 1) ((out.map fun n => D.i .i64 n).map AV.d) = (out.map fun n => D.i .i64 n).map AV.d := List.take_of_length_le (by simp; omega)
        have e2 : chunk 1 (m + 1) (out.map fun n => D.i .i64 n) = out.map fun n => [D.i .i64 n] := by rw [chunk_one _ _ (by simp; omega), List.map_map]; rfl
        simp only [grS]
        simp (config := { maxSteps := 1000000 }) [-List.map_map, -List.mapM_map, ↓KW, encX, encIds, q1, e1, e2, hn]

end Go.Am
end

section
set_option linter.unusedVariables false
set_option linter.unusedSimpArgs false
open Go Go.Am Go.Proofs
namespace Go.Am
set_option linter.unusedSimpArgs false
set_option linter.unusedVariables false

/-! The map of the places -/
def idxF : Nat → List Cl → List (Int × AV)
  | _, [] => []
  | k, y :: c => (y.id, .d (.i .i64 (k : Int))) :: idxF (k + 1) c
theorem mlook_cons (x : Int × AV) (es : List (Int × AV)) (n : Int) : mlook (x :: es) n = if x.1 = n then some x.2 else mlook es n := by
  have e : mfind n (x :: es) = if x.1 = n then some 0 else (mfind n es).map (· + 1) := rfl
  unfold mlook
  rw [e]
  by_cases h : x.1 = n
  · rw [if_pos h, if_pos h]; rfl
  · rw [if_neg h, if_neg h]
    cases mfind n es <;> rfl
theorem mlook_idxF (n : Int) : ∀ (c : List Cl) (k : Nat), (findX c n = none ∧ mlook (idxF k c) n = none) ∨ ∃ j y, c[j]? = some y ∧ findX c n = some y ∧ mlook (idxF k c) n = some (.d (.i .i64 ((k + j : Nat) : Int)))
  | [], k => .inl ⟨rfl, rfl⟩
  | x :: c, k => by
    rw [findX_cons, idxF, mlook_cons]
    by_cases h : x.id = n
    · rw [if_pos h, if_pos h]
      exact .inr ⟨0, x, rfl, rfl, rfl⟩
    · rw [if_neg h, if_neg h]
      rcases mlook_idxF n c (k + 1) with h1 | ⟨j, y, h1, h2, h3⟩
      · exact .inl h1
      · exact .inr ⟨j + 1, y, h1, h2, by rw [h3, show k + 1 + j = k + (j + 1) by omega]⟩
theorem mfind_no {n : Int} : ∀ {es : List (Int × AV)}, (∀ x ∈ es, x.1 ≠ n) → mfind n es = none
  | [], _ => rfl
  | x :: es, h => by
    show (if x.1 = n then some 0 else (mfind n es).map (· + 1)) = none
    rw [if_neg (h x (List.mem_cons_self ..)), mfind_no fun y hy => h y (List.mem_cons_of_mem _ hy)]; rfl
theorem idxF_mem : ∀ {c : List Cl} {k : Nat} {x : Int × AV}, x ∈ idxF k c → ∃ y ∈ c, y.id = x.1 ∧ ∃ j : Nat, x.2 = .d (.i .i64 (j : Int))
  | y :: c, k, x, h => by
    rcases List.mem_cons.1 h with rfl | h
    · exact ⟨y, List.mem_cons_self .., rfl, k, rfl⟩
    · obtain ⟨z, hz, e⟩ := idxF_mem h
      exact ⟨z, List.mem_cons_of_mem _ hz, e⟩
theorem idxF_snoc : ∀ (c : List Cl) (k : Nat) (y : Cl), idxF k (c ++ [y]) = idxF k c ++ [(y.id, .d (.i .i64 ((k + c.length : Nat) : Int)))]
  | [], k, y => rfl
  | x :: c, k, y => by
    rw [List.cons_append, idxF, idxF_snoc c (k + 1) y, idxF, List.length_cons, show k + 1 + c.length = k + (c.length + 1) by omega]; rfl
theorem idx_put {c : List Cl} (h : Inc c) {i : Nat} (hi : i < c.length) : mput (idxF 0 (c.take i)) c[i].id (.d (.i .i64 (i : Int))) = idxF 0 (c.take (i + 1)) := by
  rw [List.take_add_one, List.getElem?_eq_getElem hi]
  show _ = idxF 0 (c.take i ++ [c[i]])
  rw [idxF_snoc, Nat.zero_add, List.length_take, Nat.min_eq_left (by omega)]
  unfold mput
  rw [mfind_no fun x hx e => ?_]
  obtain ⟨y, hy, e1, _⟩ := idxF_mem hx
  obtain ⟨j, hj, e2⟩ := List.getElem_of_mem hy
  rw [List.length_take] at hj
  rw [List.getElem_take] at e2
  have := List.pairwise_iff_getElem.1 h j i (by omega) hi (by omega)
  rw [e2] at this; omega
theorem subO_idx {H H' : Nat → Option HO} {ρ : Nat → Nat} (k : Nat) (c : List Cl) : SubO H H' ρ (.map .i64 (idxF k c)) (.map .i64 (idxF k c)) := subO_map fun x hx => by
  obtain ⟨_, _, _, j, e⟩ := idxF_mem hx
  rw [e]; exact sub_d _
theorem scrub_idx (l : List Nat) (k : Nat) (c : List Cl) : scrubO l (.map .i64 (idxF k c)) = .map .i64 (idxF k c) := by
  have : ∀ (c : List Cl) (k : Nat), (idxF k c).map (fun p => (p.1, scrub1 l p.2)) = idxF k c := fun c => by
    induction c with
    | nil => intro k; rfl
    | cons y c ih => intro k; simp only [idxF, List.map_cons, ih]; rfl
  show HO.map .i64 _ = _
  rw [this c k]

/-! The cells -/
def clX (c : List Cl) (n : Int) : Cl := (findX c n).getD noCl
def clsX (c : List Cl) (x : List (Int × Int)) : List Cl := x.map fun f => clX c f.1
theorem clsX_take {c : List Cl} {x : List (Int × Int)} {i : Nat} (h : i < x.length) : clsX c (x.take (i + 1)) = clsX c (x.take i) ++ [clX c x[i].1] := by
  unfold clsX
  rw [List.take_add_one, List.getElem?_eq_getElem h, List.map_append]; rfl
theorem ccs_get {l : List Cl} {i : Nat} {y : Cl} (h : l[i]? = some y) : (((l.map encCl).flatten).drop (i * 3)).take 3 = encCl y := by
  induction l generalizing i with
  | nil => simp at h
  | cons a l ih =>
    rcases i with _ | i
    · simp at h; subst h; rfl
    · have := ih (i := i) (by simpa using h)
      rw [List.map_cons, List.flatten_cons, List.drop_append, List.drop_eq_nil_of_le (by simp [encCl]; omega), List.nil_append]
      have e : (i + 1) * 3 - (encCl a).length = i * 3 := by simp only [encCl, List.length_cons, List.length_nil]; omega
      rw [e]; exact this
def coD (c : List Cl) (x : List (Int × Int)) : D := .tp [if (dimX c x).2 = 0 then encX (clsX c x) else .sl [], .i .i64 (dimX c x).1, .i .i64 (dimX c x).2]
/-- The states at the second loop's head. -/
def coS (c : List Cl) (m : List (Int × AV)) (x : List (Int × Int)) (l : List Cl) (i : Nat) : Nat → St
  | 0 => StL [(0, .d (encX c)), (7, .mp 1), (10, .nil), (33, .d (encC x)), (34, .d (.i .i64 x.length)), (35, .d (.i .i64 (i : Int)))] none [.map .i64 m]
  | n + 1 => StL [(0, .d (encX c)), (7, .mp 1), (10, .own 2 0 (n + 1) 3), (33, .d (encC x)), (34, .d (.i .i64 x.length)), (35, .d (.i .i64 (i : Int)))] none [.map .i64 m, .cells 63 ((l.map encCl).flatten.map .d)]
/-- .. at the third. -/
def coT (l : List Cl) (d : Int) (i : Nat) : Nat → St
  | 0 => StL [(10, .nil), (15, .d (.i .i64 d)), (56, .nil), (57, .d (.i .i64 0)), (58, .d (.i .i64 (i : Int)))] none []
  | n + 1 => StL [(10, .own 1 0 (n + 1) 3), (15, .d (.i .i64 d)), (56, .own 1 0 (n + 1) 3), (57, .d (.i .i64 ((n + 1 : Nat) : Int))), (58, .d (.i .i64 (i : Int)))] none [.cells 63 ((l.map encCl).flatten.map .d)]

theorem mixN_mono {c : List Cl} {x : List (Int × Int)} {i : Nat} (h : mixN c x i = true) : ∀ n, i ≤ n → mixN c x n = true
  | 0, hn => by
    have : i = 0 := by omega
    rw [this] at h; exact h
  | n + 1, hn => by
    by_cases e : i = n + 1
    · rw [← e]; exact h
    · rw [mixN, mixN_mono h n (by omega), Bool.true_or]

set_option maxHeartbeats 4000000 in
set_option maxRecDepth 10000 in
theorem cellsOf (c : List Cl) (x : List (Int × Int)) (hl : c.length ≤ 1000) (hx : x.length ≤ 1000) (hi : Inc c) : Spec Tryz.prog 40 [encX c, encC x] (coD c x) := by
  have hD : (knAll c x = false ∧ coD c x = .tp [.sl [], .i .i64 0, .i .i64 250]) ∨ (knAll c x = true ∧ mixN c x x.length = true ∧ coD c x = .tp [.sl [], .i .i64 0, .i .i64 260]) ∨ (knAll c x = true ∧ mixN c x x.length = false ∧ coD c x = .tp [encX (clsX c x), .i .i64 (dLast c x x.length), .i .i64 0]) := by
    unfold coD dimX
    cases knAll c x <;> cases mixN c x x.length <;> simp
  obtain ⟨res, hres⟩ : ∃ r, coD c x = r := ⟨_, rfl⟩
  rw [hres] at hD ⊢
  clear hres
  refine spec_of (N := 76) follows_mixed Tryz.func40 rfl rfl rfl (by kernel_rfl) (by kernel_rfl) (by simp) ?_
  have hlc : (c.length : Int) ≤ 1000 := by omega
  simp (config := { maxSteps := 1000000 }) [-List.map_map, -List.mapM_map, ↓KW, encX, encC]
  refine loopP_inv (fun y : Nat × List (Int × AV) => y.1 ≤ c.length ∧ idxF 0 (c.take y.1) = y.2) (fun y => StL [(0, .d (encX c)), (1, .d (encC x)), (7, .mp 1), (21, .d (encX c)), (22, .d (.i .i64 c.length)), (23, .d (.i .i64 (y.1 : Int)))] none [.map .i64 y.2]) (fun y => c.length - y.1) (0, []) ⟨Nat.zero_le _, rfl⟩ ?_ ?_
  · refine wk_l [1] (by simp) ?_ ?_
    · simp [-List.map_map, upd, inj1, Γ0, encX, encC]
    · exact ⟨⟨.map .i64 [], by simp [upd_ap], subO_map (es := []) (fun x hx => by cases hx)⟩, trivial⟩
  · rintro ⟨i, m⟩ ⟨hic, him⟩
    simp only at hic him ⊢
    have hsc : ∀ l, scrubO l (.map .i64 m) = .map .i64 m := fun l => him ▸ scrub_idx l 0 _
    have hms : ∀ (H H' : Nat → Option HO) ρ, SubO H H' ρ (.map .i64 m) (.map .i64 m) := fun H H' ρ => him ▸ subO_idx 0 _
    by_cases hgo : i < c.length
    · have q1 : (i : Int) < c.length := by omega
      have hxi : c[i]? = some c[i] := List.getElem?_eq_getElem hgo
      have hw : IntKind.i64.wrap ((i : Int) + 1) = (i : Int) + 1 := wrap_i64 (by omega) (by omega)
      have hp := idx_put hi hgo
      rw [him] at hp
      refine (show ∃ y, c[i] = y from ⟨_, rfl⟩).elim fun y hye => ?_
      rw [hye] at hxi hp
      refine (show ∃ y, idxF 0 (c.take (i + 1)) = y from ⟨_, rfl⟩).elim fun m1 hm1 => ?_
      rw [hm1] at hp
      have hyc : encCl y = [D.i .i64 y.id, .i .i64 y.dim, encC y.b] := rfl
      have hms1 : ∀ (H H' : Nat → Option HO) ρ, SubO H H' ρ (.map .i64 m1) (.map .i64 m1) := fun H H' ρ => hm1 ▸ subO_idx 0 _
      simp (config := { maxSteps := 1000000 }) [-List.map_map, -List.mapM_map, ↓KW, encX, q1, hxi, hyc, hw, mapW_mp, hp, one_encC, cellsA_encC, inj1_encC]
      refine nxt_intro (i + 1, m1) ⟨hgo, hm1⟩ (Nat.sub_lt_sub_left hgo (Nat.lt_succ_self _)) (wk_l [1] (by simp) ?_ ?_)
      · simp [-List.map_map, upd, inj1, Γ0, encX, encC]
      · exact ⟨⟨_, by simp [upd_ap], hms1 _ _ _⟩, trivial⟩
    · have q1 : ¬ (i : Int) < c.length := by omega
      rw [List.take_of_length_le (by omega)] at him
      simp (config := { maxSteps := 1000000 }) [-List.map_map, -List.mapM_map, ↓KW, encX, encC, q1]
      refine loopP_inv (fun y : Nat × List Cl => y.1 ≤ x.length ∧ clsX c (x.take y.1) = y.2 ∧ ∀ j, j < y.1 → kn c (x.getD j (0, 0)).1 = true) (fun y => coS c m x y.2 y.1 y.2.length) (fun y => x.length - y.1) (0, []) ⟨Nat.zero_le _, rfl, fun j h => by omega⟩ ?_ ?_
      · simp only [List.length_nil, coS]
        refine wk_l [1] (by simp) ?_ ?_
        · simp [-List.map_map, upd, inj1, Γ0, encX, encC]
        · exact ⟨⟨_, by simp [blkF_ap], hms _ _ _⟩, trivial⟩
      · clear hlc q1 hgo hic
        rintro ⟨j, l⟩ ⟨hj, hlj, hok⟩
        simp only at hj hlj hok ⊢
        have hll : l.length = j := by rw [← hlj]; unfold clsX; rw [List.length_map, List.length_take]; omega
        by_cases hgo : j < x.length
        · have q1 : (j : Int) < x.length := by omega
          have hxj : x[j]? = some x[j] := List.getElem?_eq_getElem hgo
          have hgd : x.getD j (0, 0) = x[j] := by rw [List.getD_eq_getElem?_getD, hxj]; rfl
          have hw : IntKind.i64.wrap ((j : Int) + 1) = (j : Int) + 1 := wrap_i64 (by omega) (by omega)
          have htk := clsX_take (c := c) hgo
          rw [hlj] at htk
          have hlk := mlook_idxF x[j].1 c 0
          rw [him] at hlk
          have hna : findX c x[j].1 = none → knAll c x = false := fun h => by
            unfold knAll
            rw [List.all_eq_false]
            exact ⟨x[j], List.getElem_mem hgo, by unfold kn; rw [h]; decide⟩
          have hok2 : ∀ y, findX c x[j].1 = some y → ∀ i, i < j + 1 → kn c (x.getD i (0, 0)).1 = true := fun y h i hi => by
            rcases Nat.lt_or_ge i j with h2 | h2
            · exact hok i h2
            · rw [show i = j by omega, hgd]; unfold kn; rw [h]; rfl
          refine (show ∃ f, x[j] = f from ⟨_, rfl⟩).elim fun f hfe => ?_
          rw [hfe] at hxj htk hlk hna hok2
          clear hok hgd
          have hef := encF_eq f
          have hxj' : ∀ h : j < x.length, x[j]'h = f := fun h => Option.some.inj ((List.getElem?_eq_getElem h).symm.trans hxj)
          rcases hlk with hlk | hlk
          · have hr : res = .tp [.sl [], .i .i64 0, .i .i64 250] := by
              have := hna hlk.1
              rcases hD with h | h | h
              · exact h.2
              · rw [this] at h; exact absurd h.1 (by decide)
              · rw [this] at h; exact absurd h.1 (by decide)
            rcases hl0 : l.length with _ | n
            · simp only [coS]
              simp (config := { maxSteps := 1000000 }) [-List.map_map, -List.mapM_map, ↓KW, encX, encC, hef, q1, hxj, hxj', lookA_mp, hlk.2, one_encM, cellsA_encM, hr, resD_3]
            · simp only [coS]
              simp (config := { maxSteps := 1000000 }) [-List.map_map, -List.mapM_map, ↓KW, encX, encC, hef, q1, hxj, hxj', lookA_mp, hlk.2, one_encM, cellsA_encM, hr, resD_3]
          · refine hlk.elim fun p hh => hh.elim fun y hh => ?_
            have hcp := hh.1
            have hfy := hh.2.1
            have hml := hh.2.2
            clear hh hlk
            rw [Nat.zero_add] at hml
            have hpl := (List.getElem?_eq_some_iff.1 hcp).1
            have hcp' : ∀ h : p < c.length, c[p]'h = y := fun h => Option.some.inj ((List.getElem?_eq_getElem h).symm.trans hcp)
            have hcl : clX c f.1 = y := by unfold clX; rw [hfy]; rfl
            rw [hcl] at htk
            have hok3 := hok2 y hfy
            have hyc : encCl y = [D.i .i64 y.id, .i .i64 y.dim, encC y.b] := rfl
            have hfl := ccs_len l
            clear hok2 hna
            rcases hl0 : l.length with _ | n
            · have e0 : l = [] := List.eq_nil_of_length_eq_zero hl0
              rw [e0] at htk
              have hm1 : (1 : Nat) ≤ maxLen := le_maxLen (by decide)
              simp only [coS]
              simp (config := { maxSteps := 1000000 }) [-List.map_map, -List.mapM_map, ↓KW, encX, encC, hef, q1, hxj, hxj', lookA_mp, hml, hcp, hcp', hpl, hyc, hw, hm1, one_encM, cellsA_encM, one_encC, cellsA_encC, inj1_encC]
              refine nxt_intro (j + 1, [y]) ⟨hgo, htk, hok3⟩ (Nat.sub_lt_sub_left hgo (Nat.lt_succ_self _)) ?_
              simp only [List.length_singleton, coS]
              refine wk_l [1, 4] (by simp) ?_ ?_
              · simp [-List.map_map, upd, inj1, Γ0, encX, encC]
              · refine ⟨⟨.map .i64 m, by simp [upd_ap, blkF_ap], hms _ _ _⟩, ?_⟩
                simp [-List.map_map, upd, inj1, Γ0, hyc, encC]
            · have hbb := app_bounds (n := n + 1) (by omega)
              have hb8 : (n + 1 + 1) * 40 ≤ 140737488355328 := by omega
              rw [hl0] at hfl
              refine (show ∃ fl, (l.map encCl).flatten = fl from ⟨_, rfl⟩).elim fun fl hfe2 => ?_
              rw [hfe2] at hfl
              have hfl2 : ((l ++ [y]).map encCl).flatten = fl ++ [D.i .i64 y.id, .i .i64 y.dim, encC y.b] := by rw [List.map_append, List.flatten_append, hfe2]; rfl
              have hlen2 : (l ++ [y]).length = n + 1 + 1 := by rw [List.length_append, hl0]; rfl
              simp only [coS, hfe2]
              simp (config := { maxSteps := 1000000 }) [-List.map_map, -List.mapM_map, ↓KW, encX, encC, hef, q1, hxj, hxj', lookA_mp, hml, hcp, hcp', hpl, hyc, hw, hfl, hbb, hb8, le_maxLen, hsc, one_encM, cellsA_encM, one_encC, cellsA_encC, inj1_encC]
              refine nxt_intro (j + 1, l ++ [y]) ⟨hgo, htk, hok3⟩ (Nat.sub_lt_sub_left hgo (Nat.lt_succ_self _)) ?_
              simp only [hlen2, coS, hfl2]
              refine wk_l [1, 5] (by simp) ?_ ?_
              · simp [-List.map_map, upd, inj1, Γ0, encX, encC]
              · refine ⟨⟨.map .i64 m, by simp [upd_ap, blkF_ap, hsc, kill_one], hms _ _ _⟩, ?_⟩
                simp [-List.map_map, upd, inj1, Γ0, hyc, encC]
        · have q1 : ¬ (j : Int) < x.length := by omega
          have ej : j = x.length := by omega
          have hall : knAll c x = true := by
            unfold knAll
            rw [List.all_eq_true]
            intro f hf
            obtain ⟨k, hk, e2⟩ := List.getElem_of_mem hf
            have := hok k (by omega)
            rw [List.getD_eq_getElem?_getD, List.getElem?_eq_getElem hk, e2] at this
            exact this
          rw [List.take_of_length_le (by omega)] at hlj
          have hD1 : mixN c x x.length = true → res = .tp [.sl [], .i .i64 0, .i .i64 260] := fun h => by
            rcases hD with e | e | e
            · rw [hall] at e; exact absurd e.1 (by decide)
            · exact e.2.2
            · rw [h] at e; exact absurd e.2.1 (by decide)
          have hD2 : mixN c x x.length = false → res = .tp [encX l, .i .i64 (dLast c x x.length), .i .i64 0] := fun h => by
            rcases hD with e | e | e
            · rw [hall] at e; exact absurd e.1 (by decide)
            · rw [h] at e; exact absurd e.2.1 (by decide)
            · rw [← hlj]; exact e.2.2
          clear hD hok
          rcases hl0 : l.length with _ | n
          · have e0 : l = [] := List.eq_nil_of_length_eq_zero hl0
            have ex : x = [] := List.eq_nil_of_length_eq_zero (by omega)
            have hr : res = .tp [.sl [], .i .i64 (-1), .i .i64 0] := by
              have := hD2 (by rw [ex]; rfl)
              rw [e0, ex] at this; exact this
            simp only [coS]
            simp (config := { maxSteps := 1000000 }) [-List.map_map, -List.mapM_map, ↓KW, encX, encC, q1]
            refine loopP_inv (fun i : Nat => i = 0) (fun i => StL [(10, .nil), (15, .d (.i .i64 (-1))), (57, .d (.i .i64 0)), (58, .d (.i .i64 0))] none []) (fun i => 0) 0 rfl ?_ ?_
            · refine wk_l [] (by simp) ?_ ?_ <;> simp [-List.map_map, upd, inj1, Γ0, blksOk]
            · intro i hi0
              simp (config := { maxSteps := 1000000 }) [-List.map_map, -List.mapM_map, ↓KW, hr, resD_3]
          · have hfl := ccs_len l
            rw [hl0] at hfl
            have hrd0 := fun (i : Nat) (y : Cl) (h : l[i]? = some y) => ccs_get h
            have hfin : chunk 3 (n + 1) ((l.map encCl).flatten) = l.map encCl := by
              have h := chunk_three (l.map encCl) (fun x hx => by obtain ⟨z, _, rfl⟩ := List.mem_map.1 hx; rfl)
              rwa [List.length_map, hl0] at h
            refine (show ∃ fl, (l.map encCl).flatten = fl from ⟨_, rfl⟩).elim fun fl hfe2 => ?_
            rw [hfe2] at hfl hfin
            simp only [hfe2] at hrd0
            have hxn : x.length = n + 1 := by omega
            have hdx : ∀ i y, l[i]? = some y → y.dim = dOf c (x.getD i (0, 0)).1 := fun i y h => by
              rw [← hlj] at h
              unfold clsX at h
              rw [List.getElem?_map] at h
              obtain ⟨f, hf, e⟩ := Option.map_eq_some_iff.1 h
              rw [← e, List.getD_eq_getElem?_getD, hf]; rfl
            simp only [coS, hfe2]
            simp (config := { maxSteps := 1000000 }) [-List.map_map, -List.mapM_map, ↓KW, encX, encC, q1]
            refine loopP_inv (fun y : Nat × Int => y.1 ≤ n + 1 ∧ mixN c x y.1 = false ∧ dLast c x y.1 = y.2) (fun y => StL [(10, .own 1 0 (n + 1) 3), (15, .d (.i .i64 y.2)), (56, .own 1 0 (n + 1) 3), (57, .d (.i .i64 ((n + 1 : Nat) : Int))), (58, .d (.i .i64 (y.1 : Int)))] none [.cells 63 (fl.map .d)]) (fun y => n + 1 - y.1) (0, -1) ⟨Nat.zero_le _, rfl, rfl⟩ ?_ ?_
            · refine wk_l [2] (by simp) ?_ ?_ <;> simp [-List.map_map, upd, inj1, Γ0, encX]
            · rintro ⟨i, d⟩ ⟨hin, hmx, hdl⟩
              simp only at hin hmx hdl ⊢
              by_cases hgo2 : i < n + 1
              · have q2 : (i : Int) < ((n + 1 : Nat) : Int) := by omega
                have q3 : (i : Int) < (n : Int) + 1 := by omega
                have hwi : IntKind.i64.wrap ((i : Int) + 1) = (i : Int) + 1 := wrap_i64 (by omega) (by omega)
                have hli : l[i]? = some l[i] := List.getElem?_eq_getElem (by omega)
                have hrd := hrd0 i _ hli
                have hdy := hdx i _ hli
                refine (show ∃ y, l[i]'(by omega) = y from ⟨_, rfl⟩).elim fun y hye => ?_
                rw [hye] at hrd hdy
                have hyc : encCl y = [D.i .i64 y.id, .i .i64 y.dim, encC y.b] := rfl
                have hrd2 : List.take 3 (List.drop (i * 3) (fl.map AV.d)) = [.d (.i .i64 y.id), .d (.i .i64 y.dim), .d (encC y.b)] := by
                  rw [← List.map_drop, ← List.map_take, hrd]; rfl
                have hb3 : i * 3 + 3 ≤ (n + 1) * 3 := by omega
                have hl1 : dLast c x (i + 1) = y.dim := by rw [dLast, hdy]
                have hm1 : mixN c x (i + 1) = (decide (0 < i) && decide (y.dim ≠ d)) := by
                  rw [mixN, hmx, Bool.false_or, ← hdy, ← hdl]
                  cases i with
                  | zero => rfl
                  | succ i => rfl
                by_cases h0 : 0 < i
                · have h0' : (0 : Int) < i := by omega
                  by_cases h1 : y.dim = d
                  · have h1' : ((y.dim != d) : Bool) = false := by simpa using h1
                    have hmx1 : mixN c x (i + 1) = false := by rw [hm1, decide_eq_false (p := y.dim ≠ d) (fun h => h h1), Bool.and_false]
                    simp (config := { maxSteps := 1000000 }) [-List.map_map, -List.mapM_map, ↓KW, q2, q3, hgo2, hrd2, hb3, hfl, h0, h0', h1, h1', hwi, one_encC, cellsA_encC, inj1_encC]
                    refine nxt_intro (i + 1, d) ⟨hgo2, hmx1, by rw [hl1, h1]⟩ (Nat.sub_lt_sub_left hgo2 (Nat.lt_succ_self _)) (wk_l [1] (by simp) ?_ ?_) <;> simp [-List.map_map, upd, inj1, Γ0]
                  · have h1' : ((y.dim != d) : Bool) = true := by simpa using h1
                    have hmx1 : mixN c x (i + 1) = true := by rw [hm1, decide_eq_true h1, decide_eq_true h0]; rfl
                    have hr := hD1 (mixN_mono hmx1 _ (by omega))
                    simp (config := { maxSteps := 1000000 }) [-List.map_map, -List.mapM_map, ↓KW, q2, q3, hgo2, hrd2, hb3, hfl, h0, h0', h1, h1', hwi, one_encC, cellsA_encC, inj1_encC, hr, resD_3]
                · have h0' : ¬ (0 : Int) < i := by omega
                  have hmx1 : mixN c x (i + 1) = false := by rw [hm1, decide_eq_false h0]; rfl
                  simp (config := { maxSteps := 1000000 }) [-List.map_map, -List.mapM_map, ↓KW, q2, q3, hgo2, hrd2, hb3, hfl, h0, h0', hwi, one_encC, cellsA_encC, inj1_encC]
                  refine nxt_intro (i + 1, y.dim) ⟨hgo2, hmx1, hl1⟩ (Nat.sub_lt_sub_left hgo2 (Nat.lt_succ_self _)) (wk_l [1] (by simp) ?_ ?_) <;> simp [-List.map_map, upd, inj1, Γ0]
              · have q2 : ¬ (i : Int) < ((n + 1 : Nat) : Int) := by omega
                have q3 : ¬ (i : Int) < (n : Int) + 1 := by omega
                have ein : i = n + 1 := by omega
                rw [ein, ← hxn] at hmx hdl
                have hr := hD2 hmx
                rw [hdl] at hr
                have e5 : List.take ((n + 1) * 3) (fl.map AV.d) = fl.map AV.d := List.take_of_length_le (by rw [List.length_map]; omega)
                simp (config := { maxSteps := 1000000 }) [-List.map_map, -List.mapM_map, ↓KW, q2, q3, hr, resD_3, hfl, e5, hfin, encX]

end Go.Am
end

section
set_option linter.unusedVariables false
set_option linter.unusedSimpArgs false
open Go Go.Am Go.Proofs
namespace Go.Am
set_option linter.unusedSimpArgs false
set_option linter.unusedVariables false

set_option maxHeartbeats 1000000 in
set_option maxRecDepth 10000 in
theorem chainsDim (c : List Cl) (x : List (Int × Int)) (hl : c.length ≤ 1000) (hx : x.length ≤ 1000) (hi : Inc c) : Spec Tryz.prog 10 [encX c, encC x] (.tp [.i .i64 (dimX c x).1, .i .i64 (dimX c x).2]) := by
  have hC := cellsOf c x hl hx hi
  unfold coD at hC
  generalize (dimX c x).1 = d at *
  generalize (dimX c x).2 = e at *
  obtain ⟨u, hu⟩ : ∃ u : D, (if e = 0 then encX (clsX c x) else .sl []) = u := ⟨_, rfl⟩
  obtain ⟨w, hw⟩ : ∃ w : List (List D), u = .sl w := by
    rw [← hu]; split
    · exact ⟨_, rfl⟩
    · exact ⟨_, rfl⟩
  rw [hu, hw] at hC
  refine spec_of_d (N := 18) follows_mixed Tryz.func10 rfl rfl rfl (by kernel_rfl) (by kernel_rfl) (by kernel_rfl) (by kernel_rfl) rfl rec39 (by simp) ?_
  simp (config := { maxSteps := 1000000 }) [-List.map_map, -List.mapM_map, ↓KW, encX, encC]
  refine callP_intro (ds := [encX c, encC x]) (by rfl) hC ?_
  simp (config := { maxSteps := 1000000 }) [-List.map_map, -List.mapM_map, ↓KW, resD_2]

theorem sum_facts {e : Nat} {L m : List (Int × Int)} (hm : sumM [] L = m) (hb : Bnd (2 ^ e) L) (hl : L.length ≤ 10000) (hk : Keys L) : Bnd (2 ^ (e + 14)) m ∧ Keys m ∧ m.length ≤ 10000 := by
  subst hm
  have h1 := sumM_bnd L [] (Bnd.nil 0) hb
  have h2 := sumM_len [] L
  refine ⟨h1.mono ?_, sumM_keys L [] (fun _ h => by cases h) hk, by simp only [List.length_nil] at h2; omega⟩
  rw [Nat.zero_add, Nat.add_comm]
  exact pw_len (Nat.le_trans hl (by decide))
theorem sumM_app (m a b : List (Int × Int)) : sumM m (a ++ b) = sumM (sumM m a) b := by unfold sumM; rw [List.foldl_append]
theorem Keys.app {a b : List (Int × Int)} (ha : Keys a) (hb : Keys b) : Keys (a ++ b) := fun x hx => by
  rcases List.mem_append.1 hx with h | h
  · exact ha x h
  · exact hb x h
theorem Keys.take {a : List (Int × Int)} (ha : Keys a) (i : Nat) : Keys (a.take i) := fun x hx => ha x (List.mem_of_mem_take hx)
theorem mulR_keys {k : Int} {b : List (Int × Int)} (hb : Keys b) : Keys (mulR k b) := fun x hx => by
  obtain ⟨y, hy, rfl⟩ := List.mem_map.1 hx
  exact hb y hy
theorem bOf_keys {c : List Cl} (hk : ∀ x ∈ c, Keys x.b) (n : Int) : Keys (bOf c n) := by
  unfold bOf
  cases e : findX c n with
  | none => intro x hx; cases hx
  | some x => exact hk x (findX_some e).1
theorem bdL_keys {c : List Cl} (hk : ∀ x ∈ c, Keys x.b) : ∀ x : List (Int × Int), Keys (bdL c x)
  | [] => fun y hy => by cases hy
  | f :: x => (mulR_keys (bOf_keys hk f.1)).app (bdL_keys hk x)
theorem mulR_take {k : Int} {b : List (Int × Int)} {i : Nat} (h : i < b.length) : (mulR k b).take (i + 1) = (mulR k b).take i ++ [(b[i].1, k * b[i].2)] := by
  unfold mulR
  rw [List.take_add_one, List.getElem?_map, List.getElem?_eq_getElem h]; rfl

set_option maxHeartbeats 4000000 in
set_option maxRecDepth 10000 in
theorem chainsBoundary {f g : Nat} {c : List Cl} {x : List (Int × Int)} (hc : SzX f c) (hi : Inc c) (hk : ∀ x ∈ c, Keys x.b) (hx : x.length ≤ 100) (hg : Bnd (2 ^ g) x) (hfg : f + g + 20 < 4398046511104) :
    Spec Tryz.prog 12 [encX c, encC x] (.tp [encC (bndX c x).1, .i .i64 (bndX c x).2]) := by
  have hcl := hc.len
  have hC := cellsOf c x (by omega) (by omega) hi
  by_cases he : (dimX c x).2 = 0
  rotate_left
  · have hr : bndX c x = ([], (dimX c x).2) := by unfold bndX; rw [if_neg he]
    rw [hr]
    unfold coD at hC
    rw [if_neg he] at hC
    generalize (dimX c x).1 = d at *
    generalize (dimX c x).2 = e at *
    have he' : ((e != 0) : Bool) = true := by simpa using he
    refine spec_of_d (N := 55) follows_mixed Tryz.func12 rfl rfl rfl (by kernel_rfl) (by kernel_rfl) (by kernel_rfl) (by kernel_rfl) rfl rec42 (by simp) ?_
    simp (config := { maxSteps := 1000000 }) [-List.map_map, -List.mapM_map, ↓KW, encX, encC]
    refine callP_intro (ds := [encX c, encC x]) (by rfl) hC ?_
    simp (config := { maxSteps := 1000000 }) [-List.map_map, -List.mapM_map, ↓KW, encX, encC, he, he', resD_2]
  · have hr : bndX c x = (chainM (sumM [] (bdL c x)), 0) := by unfold bndX bdX; rw [if_pos he, make_eq]
    rw [hr]
    unfold coD at hC
    rw [if_pos he, he] at hC
    clear he hr
    generalize (dimX c x).1 = d at *
    have hle := bdL_le hc hx hg
    have hkk := bdL_keys hk x
    obtain ⟨mf, hmf⟩ : ∃ m, sumM [] (bdL c x) = m := ⟨_, rfl⟩
    rw [hmf]
    have hmff := sum_facts hmf hle.2 hle.1 hkk
    have hll : (clsX c x).length = x.length := by unfold clsX; rw [List.length_map]
    have hlg : ∀ i (h : i < x.length), (clsX c x)[i]? = some (clX c x[i].1) := fun i h => by unfold clsX; rw [List.getElem?_map, List.getElem?_eq_getElem h]; rfl
    obtain ⟨l, hle2⟩ : ∃ l, clsX c x = l := ⟨_, rfl⟩
    rw [hle2] at hC hll hlg
    refine spec_of_d (N := 55) follows_mixed Tryz.func12 rfl rfl rfl (by kernel_rfl) (by kernel_rfl) (by kernel_rfl) (by kernel_rfl) rfl rec42 (by simp) ?_
    simp (config := { maxSteps := 1000000 }) [-List.map_map, -List.mapM_map, ↓KW, encX, encC]
    refine callP_intro (ds := [encX c, encC x]) (by rfl) hC ?_
    simp (config := { maxSteps := 1000000 }) [-List.map_map, -List.mapM_map, ↓KW, encX, encC]
    refine loopP_inv (fun y : Nat × List (Int × Int) => y.1 ≤ x.length ∧ sumM [] (bdL c (x.take y.1)) = y.2) (fun y => StL [(1, .d (encC x)), (9, .mp 1), (25, .d (encX l)), (26, .d (.i .i64 x.length)), (27, .d (.i .i64 (y.1 : Int)))] none [.map .i64 (encE y.2)]) (fun y => x.length - y.1) (0, []) ⟨Nat.zero_le _, rfl⟩ ?_ ?_
    · refine wk_l [1] (by simp) ?_ ?_
      · simp [-List.map_map, upd, inj1, Γ0, encX, encC, hll]
      · exact ⟨⟨.map .i64 [], by simp [upd_ap], subO_encE []⟩, trivial⟩
    · rintro ⟨i, m⟩ ⟨hin, him⟩
      simp only at hin him ⊢
      by_cases hgo : i < x.length
      · have q1 : (i : Int) < x.length := by omega
        have hxi : x[i]? = some x[i] := List.getElem?_eq_getElem hgo
        have hli := hlg i hgo
        have hw : IntKind.i64.wrap ((i : Int) + 1) = (i : Int) + 1 := wrap_i64 (by omega) (by omega)
        have htk := bdL_take (c := c) hgo
        have hgt : Bnd (2 ^ g) (x.take i) := hg.take
        have hle1 := bdL_le hc (x := x.take i) (by rw [List.length_take]; omega) hgt
        have hle2 := bdL_le hc (x := x.take (i + 1)) (by rw [List.length_take]; omega) hg.take
        have hk1 := bdL_keys hk (x.take i)
        have hk2 := bdL_keys hk (x.take (i + 1))
        rw [htk] at hle2 hk2
        have hgz := hg _ (List.getElem_mem hgo)
        refine (show ∃ fa, x[i] = fa from ⟨_, rfl⟩).elim fun fa hfa => ?_
        rw [hfa] at hxi hli htk hle2 hk2 hgz
        refine (show ∃ y, clX c fa.1 = y from ⟨_, rfl⟩).elim fun y hy => ?_
        have hyb : bOf c fa.1 = y.b := by rw [← hy]; rfl
        have hbl := bOf_len hc.bl fa.1
        have hbb := bOf_bnd hc.bb fa.1
        have hbk := bOf_keys hk fa.1
        rw [hy] at hli
        rw [hyb] at htk hle2 hk2 hbl hbb hbk
        refine (show ∃ b, y.b = b from ⟨_, rfl⟩).elim fun b hb => ?_
        rw [hb] at htk hle2 hk2 hbl hbb hbk
        have hyc : encCl y = [D.i .i64 y.id, .i .i64 y.dim, encC b] := by rw [← hb]; rfl
        have hef := encF_eq fa
        refine (show ∃ L, bdL c (x.take i) = L from ⟨_, rfl⟩).elim fun L hL => ?_
        rw [hL] at htk hle1 hle2 hk1 hk2 him
        refine (show ∃ k, fa.2 = k from ⟨_, rfl⟩).elim fun k hke => ?_
        rw [hke] at htk hle2 hk2 hgz hef
        clear hle hkk hfa hy hyb hb hL hgt
        have hli' : ∀ h : i < l.length, l[i]'h = y := fun h => Option.some.inj ((List.getElem?_eq_getElem h).symm.trans hli)
        have hxi' : ∀ h : i < x.length, x[i]'h = fa := fun h => Option.some.inj ((List.getElem?_eq_getElem h).symm.trans hxi)
        simp (config := { maxSteps := 1000000 }) [-List.map_map, -List.mapM_map, ↓KW, encX, encC, q1, hli, hli', hyc, hll, one_encC, cellsA_encC, inj1_encC]
        refine loopP_inv (fun z : Nat × List (Int × Int) => z.1 ≤ b.length ∧ sumM [] (L ++ (mulR k b).take z.1) = z.2) (fun z => StL [(1, .d (encC x)), (9, .mp 1), (10, .d (.i .i64 (i : Int))), (25, .d (encX l)), (26, .d (.i .i64 x.length)), (27, .d (.i .i64 (i : Int))), (33, .d (encC b)), (34, .d (.i .i64 b.length)), (35, .d (.i .i64 (z.1 : Int)))] none [.map .i64 (encE z.2)]) (fun z => b.length - z.1) (0, m) ⟨Nat.zero_le _, by rw [List.take_zero, List.append_nil]; exact him⟩ ?_ ?_
        · refine wk_l [1] (by simp) ?_ ?_
          · simp [-List.map_map, upd, inj1, Γ0, encX, encC]
          · exact ⟨⟨.map .i64 (encE m), by simp [upd_ap, blkF_ap], subO_encE m⟩, trivial⟩
        · rintro ⟨j, m⟩ ⟨hjn, hjm⟩
          simp only at hjn hjm ⊢
          clear him
          have hmt := mulR_len k b
          have hsub1 : Bnd (2 ^ (f + g)) (L ++ (mulR k b).take j) := hle1.2.app (fun z hz => hle2.2 z (List.mem_append_right _ (List.mem_of_mem_take hz)))
          have hsub2 : (L ++ (mulR k b).take j).length ≤ 10000 := by
            have := hle2.1
            rw [List.length_append] at this ⊢
            rw [List.length_take]; omega
          have hmf2 := sum_facts hjm hsub1 hsub2 (hk1.app (Keys.take (a := mulR k b) (fun z hz => hk2 z (List.mem_append_right _ hz)) j))
          by_cases hgj : j < b.length
          · have q2 : (j : Int) < b.length := by omega
            have hbj : b[j]? = some b[j] := List.getElem?_eq_getElem hgj
            have hw2 : IntKind.i64.wrap ((j : Int) + 1) = (j : Int) + 1 := wrap_i64 (by omega) (by omega)
            have htj := mulR_take (k := k) hgj
            have hbz := hbb _ (List.getElem_mem hgj)
            refine (show ∃ fb, b[j] = fb from ⟨_, rfl⟩).elim fun fb hfb => ?_
            rw [hfb] at hbj htj hbz
            have hbj' : ∀ h : j < b.length, b[j]'h = fb := fun h => Option.some.inj ((List.getElem?_eq_getElem h).symm.trans hbj)
            have heb := encF_eq fb
            have hmul := intMulZ k fb.2 (szE hgz (by omega)) (szE hbz (by omega))
            refine (show ∃ m2, addM m fb.1 (k * fb.2) = m2 from ⟨_, rfl⟩).elim fun m2 hm2 => ?_
            have hadd := sumAdd m fb.1 (k * fb.2) (szE (getM_bnd hmf2.1 fb.1) (by omega)) (szE (e := g + f) (by rw [Int.natAbs_mul, ← pw_mul]; exact Nat.mul_le_mul hgz hbz) (by omega))
            rw [hm2] at hadd
            have hnx : sumM [] (L ++ (mulR k b).take (j + 1)) = m2 := by
              rw [htj, ← List.append_assoc, sumM_app, hjm, ← hm2]; rfl
            refine (show ∃ z, k * fb.2 = z from ⟨_, rfl⟩).elim fun z hz => ?_
            rw [hz] at hmul hadd
            simp (config := { maxSteps := 1000000 }) [-List.map_map, -List.mapM_map, ↓KW, encX, encC, q2, hbj, hbj', heb, hxi, hxi', hef, one_encM, cellsA_encM]
            refine callP_intro (ds := [encZ k, encZ fb.2]) (by rfl) hmul ?_
            rw [encZ_eq]
            simp (config := { maxSteps := 1000000 }) [-List.map_map, -List.mapM_map, ↓KW, encX, encC, cellsA_encM, one_encM, inj1_encM, inj_encM, kills_encM]
            refine o1_callM hadd (by simp) (id := 1) (by simp [oev_tmp, upd_ap, sltF_ap]) (by simp [upd_ap, blkF_ap]) (noh_encE _) (by simp [oev_tmp, upd_ap, viss_cons, viss_nil, vis_d, vis_ag]) (by simp [oev_tmp, upd_ap]; rfl) rfl (noh_encE _) ?_
            simp (config := { maxSteps := 1000000 }) [-List.map_map, -List.mapM_map, ↓KW, hw2]
            refine nxt_intro (j + 1, m2) ⟨hgj, hnx⟩ (Nat.sub_lt_sub_left hgj (Nat.lt_succ_self _)) (wk_l [1] (by simp) ?_ ?_)
            · simp [-List.map_map, upd, inj1, Γ0, encX, encC]
            · exact ⟨⟨.map .i64 (encE m2), by simp [upd_ap], subO_encE m2⟩, trivial⟩
          · have q2 : ¬ (j : Int) < b.length := by omega
            have hjt : (mulR k b).take j = mulR k b := List.take_of_length_le (by omega)
            rw [hjt, ← htk] at hjm
            simp (config := { maxSteps := 1000000 }) [-List.map_map, -List.mapM_map, ↓KW, encX, encC, q2, hw]
            refine nxt_intro (i + 1, m) ⟨hgo, hjm⟩ (Nat.sub_lt_sub_left hgo (Nat.lt_succ_self _)) (wk_l [1] (by simp) ?_ ?_)
            · simp [-List.map_map, upd, inj1, Γ0, encX, encC]
            · exact ⟨⟨.map .i64 (encE m), by simp [upd_ap, blkF_ap], subO_encE m⟩, trivial⟩
      · have q1 : ¬ (i : Int) < x.length := by omega
        rw [List.take_of_length_le (by omega), hmf] at him
        have hmf1 := hmff.1
        have hsc := sumChain mf (fun q => szE (getM_bnd hmf1 q) (by omega)) (by have := hmff.2.2; omega) hmff.2.1.all
        have him' : m = mf := him.symm
        simp (config := { maxSteps := 1000000 }) [-List.map_map, -List.mapM_map, ↓KW, encX, encC, q1, him']
        refine o1_callM hsc (by simp) (id := 1) (by simp [oev_tmp, upd_ap, sltF_ap]) (by simp [upd_ap, blkF_ap]) (noh_encE _) (by simp [viss_nil]) (by rfl) rfl (noh_encE _) ?_
        simp (config := { maxSteps := 1000000 }) [-List.map_map, -List.mapM_map, ↓KW, encC, resD_2]

set_option maxHeartbeats 2000000 in
set_option maxRecDepth 10000 in
theorem chainsCycle {f g : Nat} {c : List Cl} {x : List (Int × Int)} (hc : SzX f c) (hi : Inc c) (hk : ∀ x ∈ c, Keys x.b) (hx : x.length ≤ 100) (hg : Bnd (2 ^ g) x) (hfg : f + g + 20 < 4398046511104) :
    Spec Tryz.prog 17 [encX c, encC x] (.b (cycX c x)) := by
  have hB := chainsBoundary hc hi hk hx hg hfg
  unfold bndX at hB
  unfold cycX
  generalize (dimX c x).2 = e at *
  generalize bdX c x = out at *
  refine spec_of_d (N := 20) follows_mixed Tryz.func17 rfl rfl rfl (by kernel_rfl) (by kernel_rfl) (by kernel_rfl) (by kernel_rfl) rfl rec49 (by simp) ?_
  by_cases he : e = 0
  · rw [if_pos he] at hB
    subst he
    by_cases ho : out.length = 0
    · have ho' : (out.length : Int) = 0 := by omega
      simp (config := { maxSteps := 1000000 }) [-List.map_map, -List.mapM_map, ↓KW, encX, encC]
      refine callP_intro (ds := [encX c, encC x]) (by rfl) hB ?_
      simp (config := { maxSteps := 1000000 }) [-List.map_map, -List.mapM_map, ↓KW, encC, ho, ho']
    · have ho' : ¬ (out.length : Int) = 0 := by omega
      have ho2 : (((out.length : Int) == 0) : Bool) = false := by simpa using ho
      simp (config := { maxSteps := 1000000 }) [-List.map_map, -List.mapM_map, ↓KW, encX, encC]
      refine callP_intro (ds := [encX c, encC x]) (by rfl) hB ?_
      simp (config := { maxSteps := 1000000 }) [-List.map_map, -List.mapM_map, ↓KW, encC, ho, ho', ho2]
  · rw [if_neg he] at hB
    have he' : ((e == 0) : Bool) = false := by simpa using he
    simp (config := { maxSteps := 1000000 }) [-List.map_map, -List.mapM_map, ↓KW, encX, encC]
    refine callP_intro (ds := [encX c, encC x]) (by rfl) hB ?_
    simp (config := { maxSteps := 1000000 }) [-List.map_map, -List.mapM_map, ↓KW, encC, he, he']

end Go.Am
end

section
set_option linter.unusedVariables false
set_option linter.unusedSimpArgs false
open Go Go.Am Go.Proofs
namespace Go.Am
set_option linter.unusedSimpArgs false
set_option linter.unusedVariables false

theorem lay_zero {H H' : Nat → Option HO} {ρ : Nat → Nat} : ∀ {v : List Int} {i : Nat}, v[i]? = some 0 → cellsOk H H' ρ (lay ((vcs v).map AV.d) (i * 2) [.d (.b false), .nil]) ((vcs v).map .d)
  | [], i, h => by simp at h
  | z :: v, 0, h => by
    have hz : z = 0 := by simpa using h
    subst hz
    have e : lay ((vcs (0 :: v)).map AV.d) (0 * 2) [.d (.b false), .nil] = AV.d (.b false) :: AV.nil :: (vcs v).map .d := by rw [vcs_cons]; rfl
    rw [e, vcs_cons]
    refine ⟨(subL_d _ _).2 rfl, ⟨by rw [show ((0 : Int).natAbs) = 0 from rfl, digs_zero]; rfl, fun a ha => by simp [vis] at ha⟩, cellsOk_data rfl rfl⟩
  | z :: v, i + 1, h => by
    have ih := lay_zero (H := H) (H' := H') (ρ := ρ) (v := v) (i := i) (by simpa using h)
    have e : lay ((vcs (z :: v)).map AV.d) ((i + 1) * 2) [.d (.b false), .nil] = AV.d (.b (decide (z < 0))) :: AV.d (encM (digs z.natAbs)) :: lay ((vcs v).map AV.d) (i * 2) [.d (.b false), .nil] := by
      unfold lay
      rw [vcs_cons, show (i + 1) * 2 = i * 2 + 1 + 1 by omega]
      show _ = _
      simp only [encN, List.cons_append, List.nil_append, List.map_cons, List.take_succ_cons, List.length_cons, List.length_nil]
      rw [show i * 2 + 1 + 1 + (0 + 1 + 1) = i * 2 + (0 + 1 + 1) + 1 + 1 by omega, List.drop_succ_cons, List.drop_succ_cons]
    rw [e, vcs_cons]
    exact ⟨(subL_d _ _).2 rfl, (subL_d _ _).2 rfl, ih⟩
theorem sum_lv {x : List (Int × Int)} (h : Val x) (q : Int) : getM (sumM [] x) q = lv q x := by
  rw [(sumM_mp x [] Mp.nil).2 q, getM_nil, Int.zero_add, cf_getM h, lv_getM h]

set_option maxHeartbeats 4000000 in
set_option maxRecDepth 10000 in
theorem chainsVector {g : Nat} {c : List Cl} {x : List (Int × Int)} (k : Int) (hl : c.length ≤ 100) (hi : Inc c) (hx : x.length ≤ 100) (hv : Val x) (hkx : Keys x) (hg : Bnd (2 ^ g) x) (hgg : g + 20 < 4398046511104) :
    Spec Tryz.prog 14 [encX c, .i .i64 k, encC x] (.tp [encV2 (vecX c k x).1, .i .i64 (vecX c k x).2]) := by
  have hC := cellsOf c x (by omega) (by omega) hi
  have hI := complexCells c k (by omega)
  have hil := idsX_len c k
  by_cases he : (dimX c x).2 = 0
  rotate_left
  · have hr : vecX c k x = ([], (dimX c x).2) := by unfold vecX; rw [if_neg he]
    rw [hr]
    unfold coD at hC
    rw [if_neg he] at hC
    generalize (dimX c x).1 = d at *
    generalize (dimX c x).2 = e at *
    have he' : ((e != 0) : Bool) = true := by simpa using he
    refine spec_of_d (N := 71) follows_mixed Tryz.func14 rfl rfl rfl (by kernel_rfl) (by kernel_rfl) (by kernel_rfl) (by kernel_rfl) rfl rec46 (by simp) ?_
    simp (config := { maxSteps := 1000000 }) [-List.map_map, -List.mapM_map, ↓KW, encX, encC]
    refine callP_intro (ds := [encX c, encC x]) (by rfl) hC ?_
    simp (config := { maxSteps := 1000000 }) [-List.map_map, -List.mapM_map, ↓KW, encX, encC, encV2, he, he', resD_2]
  · by_cases hb : 0 < x.length ∧ (dimX c x).1 ≠ k
    · have hr : vecX c k x = ([], 260) := by unfold vecX; rw [if_pos he, if_pos hb]
      rw [hr]
      unfold coD at hC
      rw [if_pos he, he] at hC
      clear he hr
      generalize (dimX c x).1 = d at *
      have b1 := hb.1
      have b1' : (0 : Int) < x.length := by omega
      have b2 : ((d != k) : Bool) = true := by simpa using hb.2
      generalize clsX c x = l at *
      refine spec_of_d (N := 71) follows_mixed Tryz.func14 rfl rfl rfl (by kernel_rfl) (by kernel_rfl) (by kernel_rfl) (by kernel_rfl) rfl rec46 (by simp) ?_
      simp (config := { maxSteps := 1000000 }) [-List.map_map, -List.mapM_map, ↓KW, encX, encC]
      refine callP_intro (ds := [encX c, encC x]) (by rfl) hC ?_
      simp (config := { maxSteps := 1000000 }) [-List.map_map, -List.mapM_map, ↓KW, encX, encC, encV2, b1, b1', b2, resD_2]
    · have hr : vecX c k x = (rowX (idsX c k) x, 0) := by unfold vecX; rw [if_pos he, if_neg hb]
      rw [hr]
      unfold coD at hC
      rw [if_pos he, he] at hC
      clear he hr
      generalize (dimX c x).1 = d at *
      generalize clsX c x = l at *
      have hlv := fun q => sum_lv hv q
      have hmff := fun m h => sum_facts (m := m) h hg (by omega) hkx
      generalize idsX c k = ids at *
      obtain ⟨row, hrow⟩ : ∃ r, rowX ids x = r := ⟨_, rfl⟩
      have hrl := rowX_len ids x
      have hrg := fun i q h => rowX_get (ids := ids) (x := x) (k := i) (q := q) h
      rw [hrow] at hrl hrg ⊢
      have hcnd : (if 0 < x.length then (d != k : Bool) else false) = false := by
        split
        · rename_i h
          have : d = k := Decidable.byContradiction fun h' => hb ⟨h, h'⟩
          simp [this]
        · rfl
      refine spec_of_d (N := 71) follows_mixed Tryz.func14 rfl rfl rfl (by kernel_rfl) (by kernel_rfl) (by kernel_rfl) (by kernel_rfl) rfl rec46 (by simp) ?_
      simp (config := { maxSteps := 1000000 }) [-List.map_map, -List.mapM_map, ↓KW, encX, encC]
      refine callP_intro (ds := [encX c, encC x]) (by rfl) hC ?_
      by_cases b1 : 0 < x.length
      · have b2' : d = k := Decidable.byContradiction fun h => hb ⟨b1, h⟩
        have b2 : ((d != k) : Bool) = false := by simpa using b2'
        have b1' : (0 : Int) < x.length := by omega
        simp (config := { maxSteps := 1000000 }) [-List.map_map, -List.mapM_map, ↓KW, encX, encC, b1, b1', b2, b2']
        refine loopP_inv (fun y : Nat × List (Int × Int) => y.1 ≤ x.length ∧ sumM [] (x.take y.1) = y.2) (fun y => StL [(0, .d (encX c)), (1, .d (.i .i64 k)), (11, .mp 1), (37, .d (encC x)), (38, .d (.i .i64 x.length)), (39, .d (.i .i64 (y.1 : Int)))] none [.map .i64 (encE y.2)]) (fun y => x.length - y.1) (0, []) ⟨Nat.zero_le _, rfl⟩ ?_ ?_
        · refine wk_l [1] (by simp) ?_ ?_
          · simp [-List.map_map, upd, inj1, Γ0, encX, encC]
          · exact ⟨⟨.map .i64 [], by simp [upd_ap], subO_encE []⟩, trivial⟩
        · rintro ⟨i, m⟩ ⟨hin, him⟩
          simp only at hin him ⊢
          have hmf := sum_facts him hg.take (by rw [List.length_take]; omega) (hkx.take i)
          by_cases hgo : i < x.length
          · have q1 : (i : Int) < x.length := by omega
            have hxi : x[i]? = some x[i] := List.getElem?_eq_getElem hgo
            have hw : IntKind.i64.wrap ((i : Int) + 1) = (i : Int) + 1 := wrap_i64 (by omega) (by omega)
            have htk := sumM_take [] x i hgo
            rw [him] at htk
            have hgz := hg _ (List.getElem_mem hgo)
            refine (show ∃ fa, x[i] = fa from ⟨_, rfl⟩).elim fun fa hfa => ?_
            rw [hfa] at hxi htk hgz
            have hef := encF_eq fa
            have hadd := sumAdd m fa.1 fa.2 (szE (getM_bnd hmf.1 fa.1) (by omega)) (szE hgz (by omega))
            refine (show ∃ m2, addM m fa.1 fa.2 = m2 from ⟨_, rfl⟩).elim fun m2 hm2 => ?_
            rw [hm2] at hadd htk
            have hxi' : ∀ h : i < x.length, x[i]'h = fa := fun h => Option.some.inj ((List.getElem?_eq_getElem h).symm.trans hxi)
            simp (config := { maxSteps := 1000000 }) [-List.map_map, -List.mapM_map, ↓KW, encX, encC, q1, hxi, hxi', hef, one_encM, cellsA_encM]
            refine o1_callM hadd (by simp) (id := 1) (by simp [oev_tmp, upd_ap, sltF_ap]) (by simp [upd_ap, blkF_ap]) (noh_encE _) (by simp [oev_tmp, upd_ap, viss_cons, viss_nil, vis_d, vis_ag]) (by simp [oev_tmp, upd_ap]; rfl) rfl (noh_encE _) ?_
            simp (config := { maxSteps := 1000000 }) [-List.map_map, -List.mapM_map, ↓KW, hw]
            refine nxt_intro (i + 1, m2) ⟨hgo, htk⟩ (Nat.sub_lt_sub_left hgo (Nat.lt_succ_self _)) (wk_l [1] (by simp) ?_ ?_)
            · simp [-List.map_map, upd, inj1, Γ0, encX, encC]
            · exact ⟨⟨.map .i64 (encE m2), by simp [upd_ap], subO_encE m2⟩, trivial⟩
          · have q1 : ¬ (i : Int) < x.length := by omega
            rw [List.take_of_length_le (by omega)] at him
            rw [him] at hlv
            have hmx : 32 * (ids.length : Int) ≤ 281474976710656 ∧ (ids.length : Int) ≤ 9223372036854775807 := by omega
            simp (config := { maxSteps := 1000000 }) [-List.map_map, -List.mapM_map, ↓KW, encX, encC, q1]
            refine callP_intro (ds := [encX c, .i .i64 k]) (by rfl) hI ?_
            simp (config := { maxSteps := 1000000 }) [-List.map_map, -List.mapM_map, ↓KW, encIds, hmx]
            refine loopP_inv (fun y : Nat × List Int => y.1 ≤ ids.length ∧ row.take y.1 ++ (List.replicate ids.length 0).drop y.1 = y.2) (fun y => StL [(11, .mp 1), (15, .own 2 0 ids.length 2), (56, .d (encIds ids)), (57, .d (.i .i64 ids.length)), (58, .d (.i .i64 (y.1 : Int)))] none [.map .i64 (encE m), .cells 51 ((vcs y.2).map .d)]) (fun y => ids.length - y.1) (0, List.replicate ids.length 0) ⟨Nat.zero_le _, rfl⟩ ?_ ?_
            · have hz := fun (H H' : Nat → Option HO) ρ => zr_vcs (H := H) (H' := H') (ρ := ρ) ids.length
              refine wk_l [1, 2] (by simp) ?_ ?_
              · simp [-List.map_map, upd, inj1, Γ0, encIds]
              · exact ⟨⟨.map .i64 (encE m), by simp [upd_ap, blkF_ap], subO_encE m⟩, ⟨_, by simp [upd_ap]; rfl, subO_cells.2 ⟨rfl, hz _ _ _⟩⟩, trivial⟩
            · rintro ⟨j, v⟩ ⟨hjn, hjv⟩
              simp only at hjn hjv ⊢
              have hvl : v.length = ids.length := by rw [← hjv, List.length_append, List.length_take, List.length_drop, List.length_replicate]; omega
              have hvc := vcs_len v
              rw [hvl] at hvc
              by_cases hgj : j < ids.length
              · have q2 : (j : Int) < ids.length := by omega
                have hy : ids[j]? = some ids[j] := List.getElem?_eq_getElem hgj
                have hwj : IntKind.i64.wrap ((j : Int) + 1) = (j : Int) + 1 := wrap_i64 (by omega) (by omega)
                have hrj := hrg j _ hy
                refine (show ∃ q, ids[j] = q from ⟨_, rfl⟩).elim fun q hqe => ?_
                rw [hqe] at hy hrj
                have hy' : ∀ h : j < ids.length, ids[j]'h = q := fun h => Option.some.inj ((List.getElem?_eq_getElem h).symm.trans hy)
                have hb2 : j * 2 + 2 ≤ ids.length * 2 := by omega
                have hml := mlook_encE m q
                by_cases hs : (fnd q m).isSome = true
                · rw [if_pos hs, hlv q] at hml
                  refine (show ∃ z, lv q x = z from ⟨_, rfl⟩).elim fun z hz => ?_
                  rw [hz] at hml hrj
                  have hset := mix_set (a := row) (b := List.replicate ids.length 0) (k := j) (z := z) (by simp [hrl]) (by omega) hrj
                  rw [hjv] at hset
                  have hlay := lay_row (v := v) z (j := j) (by omega)
                  rw [hset] at hlay
                  simp (config := { maxSteps := 1000000 }) [-List.map_map, -List.mapM_map, ↓KW, encIds, q2, hgj, hy, hy', lookA_mp, hml, encV, hvc, hb2, hlay, hwj, cellsA_encM, one_encM]
                  refine nxt_intro (j + 1, row.take (j + 1) ++ (List.replicate ids.length 0).drop (j + 1)) ⟨hgj, rfl⟩ (Nat.sub_lt_sub_left hgj (Nat.lt_succ_self _)) (wk_l [1, 2] (by simp) ?_ ?_)
                  · simp [-List.map_map, upd, inj1, Γ0, encIds]
                  · refine ⟨⟨.map .i64 (encE m), by simp [upd_ap, blkF_ap], subO_encE m⟩, ⟨_, by simp [upd_ap], subO_cells.2 ⟨rfl, cellsOk_data rfl rfl⟩⟩, trivial⟩
                · rw [if_neg hs] at hml
                  have hz : lv q x = 0 := by
                    rw [← hlv q]
                    unfold getM
                    cases hf : fnd q m with
                    | none => rfl
                    | some j => rw [hf] at hs; exact (hs rfl).elim
                  rw [hz] at hrj
                  have hsame := mix_same (a := row) (b := List.replicate ids.length 0) (k := j) (by simp [hrl]) (by omega) (by rw [hrj, List.getElem?_replicate, if_pos hgj])
                  rw [hjv] at hsame
                  have hvj : v[j]? = some 0 := by
                    rw [← hjv, List.getElem?_append_right (by rw [List.length_take]; omega), List.length_take, Nat.min_eq_left (by omega), Nat.sub_self, List.getElem?_drop, Nat.add_zero, List.getElem?_replicate, if_pos hgj]
                  have hlz := fun (H H' : Nat → Option HO) ρ => lay_zero (H := H) (H' := H') (ρ := ρ) hvj
                  simp (config := { maxSteps := 1000000 }) [-List.map_map, -List.mapM_map, ↓KW, encIds, q2, hgj, hy, hy', lookA_mp, hml, cv, encV, hvc, hb2, hwj, cellsA_encM, one_encM]
                  refine nxt_intro (j + 1, v) ⟨hgj, hsame.symm⟩ (Nat.sub_lt_sub_left hgj (Nat.lt_succ_self _)) (wk_l [1, 2] (by simp) ?_ ?_)
                  · simp [-List.map_map, upd, inj1, Γ0, encIds]
                  · refine ⟨⟨.map .i64 (encE m), by simp [upd_ap, blkF_ap], subO_encE m⟩, ⟨_, by simp [upd_ap], subO_cells.2 ⟨rfl, hlz _ _ _⟩⟩, trivial⟩
              · have q2 : ¬ (j : Int) < ids.length := by omega
                have ej : v = row := by
                  rw [← hjv, List.take_of_length_le (by omega), List.drop_eq_nil_of_le (by simp; omega), List.append_nil]
                simp (config := { maxSteps := 1000000 }) [-List.map_map, -List.mapM_map, ↓KW, encIds, q2, ej]
                rw [ej] at hvc
                simp (config := { maxSteps := 1000000 }) [-List.map_map, -List.mapM_map, ↓KW, encV2, hvc, resD_2, chunk_vcs hrl, vcs_take_all hrl]
      · have b1' : ¬ (0 : Int) < x.length := by omega
        simp (config := { maxSteps := 1000000 }) [-List.map_map, -List.mapM_map, ↓KW, encX, encC, b1, b1']
        refine loopP_inv (fun y : Nat × List (Int × Int) => y.1 ≤ x.length ∧ sumM [] (x.take y.1) = y.2) (fun y => StL [(0, .d (encX c)), (1, .d (.i .i64 k)), (11, .mp 1), (37, .d (encC x)), (38, .d (.i .i64 x.length)), (39, .d (.i .i64 (y.1 : Int)))] none [.map .i64 (encE y.2)]) (fun y => x.length - y.1) (0, []) ⟨Nat.zero_le _, rfl⟩ ?_ ?_
        · refine wk_l [1] (by simp) ?_ ?_
          · simp [-List.map_map, upd, inj1, Γ0, encX, encC]
          · exact ⟨⟨.map .i64 [], by simp [upd_ap], subO_encE []⟩, trivial⟩
        · rintro ⟨i, m⟩ ⟨hin, him⟩
          simp only at hin him ⊢
          have hmf := sum_facts him hg.take (by rw [List.length_take]; omega) (hkx.take i)
          by_cases hgo : i < x.length
          · have q1 : (i : Int) < x.length := by omega
            have hxi : x[i]? = some x[i] := List.getElem?_eq_getElem hgo
            have hw : IntKind.i64.wrap ((i : Int) + 1) = (i : Int) + 1 := wrap_i64 (by omega) (by omega)
            have htk := sumM_take [] x i hgo
            rw [him] at htk
            have hgz := hg _ (List.getElem_mem hgo)
            refine (show ∃ fa, x[i] = fa from ⟨_, rfl⟩).elim fun fa hfa => ?_
            rw [hfa] at hxi htk hgz
            have hef := encF_eq fa
            have hadd := sumAdd m fa.1 fa.2 (szE (getM_bnd hmf.1 fa.1) (by omega)) (szE hgz (by omega))
            refine (show ∃ m2, addM m fa.1 fa.2 = m2 from ⟨_, rfl⟩).elim fun m2 hm2 => ?_
            rw [hm2] at hadd htk
            have hxi' : ∀ h : i < x.length, x[i]'h = fa := fun h => Option.some.inj ((List.getElem?_eq_getElem h).symm.trans hxi)
            simp (config := { maxSteps := 1000000 }) [-List.map_map, -List.mapM_map, ↓KW, encX, encC, q1, hxi, hxi', hef, one_encM, cellsA_encM]
            refine o1_callM hadd (by simp) (id := 1) (by simp [oev_tmp, upd_ap, sltF_ap]) (by simp [upd_ap, blkF_ap]) (noh_encE _) (by simp [oev_tmp, upd_ap, viss_cons, viss_nil, vis_d, vis_ag]) (by simp [oev_tmp, upd_ap]; rfl) rfl (noh_encE _) ?_
            simp (config := { maxSteps := 1000000 }) [-List.map_map, -List.mapM_map, ↓KW, hw]
            refine nxt_intro (i + 1, m2) ⟨hgo, htk⟩ (Nat.sub_lt_sub_left hgo (Nat.lt_succ_self _)) (wk_l [1] (by simp) ?_ ?_)
            · simp [-List.map_map, upd, inj1, Γ0, encX, encC]
            · exact ⟨⟨.map .i64 (encE m2), by simp [upd_ap], subO_encE m2⟩, trivial⟩
          · have q1 : ¬ (i : Int) < x.length := by omega
            rw [List.take_of_length_le (by omega)] at him
            rw [him] at hlv
            have hmx : 32 * (ids.length : Int) ≤ 281474976710656 ∧ (ids.length : Int) ≤ 9223372036854775807 := by omega
            simp (config := { maxSteps := 1000000 }) [-List.map_map, -List.mapM_map, ↓KW, encX, encC, q1]
            refine callP_intro (ds := [encX c, .i .i64 k]) (by rfl) hI ?_
            simp (config := { maxSteps := 1000000 }) [-List.map_map, -List.mapM_map, ↓KW, encIds, hmx]
            refine loopP_inv (fun y : Nat × List Int => y.1 ≤ ids.length ∧ row.take y.1 ++ (List.replicate ids.length 0).drop y.1 = y.2) (fun y => StL [(11, .mp 1), (15, .own 2 0 ids.length 2), (56, .d (encIds ids)), (57, .d (.i .i64 ids.length)), (58, .d (.i .i64 (y.1 : Int)))] none [.map .i64 (encE m), .cells 51 ((vcs y.2).map .d)]) (fun y => ids.length - y.1) (0, List.replicate ids.length 0) ⟨Nat.zero_le _, rfl⟩ ?_ ?_
            · have hz := fun (H H' : Nat → Option HO) ρ => zr_vcs (H := H) (H' := H') (ρ := ρ) ids.length
              refine wk_l [1, 2] (by simp) ?_ ?_
              · simp [-List.map_map, upd, inj1, Γ0, encIds]
              · exact ⟨⟨.map .i64 (encE m), by simp [upd_ap, blkF_ap], subO_encE m⟩, ⟨_, by simp [upd_ap]; rfl, subO_cells.2 ⟨rfl, hz _ _ _⟩⟩, trivial⟩
            · rintro ⟨j, v⟩ ⟨hjn, hjv⟩
              simp only at hjn hjv ⊢
              have hvl : v.length = ids.length := by rw [← hjv, List.length_append, List.length_take, List.length_drop, List.length_replicate]; omega
              have hvc := vcs_len v
              rw [hvl] at hvc
              by_cases hgj : j < ids.length
              · have q2 : (j : Int) < ids.length := by omega
                have hy : ids[j]? = some ids[j] := List.getElem?_eq_getElem hgj
                have hwj : IntKind.i64.wrap ((j : Int) + 1) = (j : Int) + 1 := wrap_i64 (by omega) (by omega)
                have hrj := hrg j _ hy
                refine (show ∃ q, ids[j] = q from ⟨_, rfl⟩).elim fun q hqe => ?_
                rw [hqe] at hy hrj
                have hy' : ∀ h : j < ids.length, ids[j]'h = q := fun h => Option.some.inj ((List.getElem?_eq_getElem h).symm.trans hy)
                have hb2 : j * 2 + 2 ≤ ids.length * 2 := by omega
                have hml := mlook_encE m q
                by_cases hs : (fnd q m).isSome = true
                · rw [if_pos hs, hlv q] at hml
                  refine (show ∃ z, lv q x = z from ⟨_, rfl⟩).elim fun z hz => ?_
                  rw [hz] at hml hrj
                  have hset := mix_set (a := row) (b := List.replicate ids.length 0) (k := j) (z := z) (by simp [hrl]) (by omega) hrj
                  rw [hjv] at hset
                  have hlay := lay_row (v := v) z (j := j) (by omega)
                  rw [hset] at hlay
                  simp (config := { maxSteps := 1000000 }) [-List.map_map, -List.mapM_map, ↓KW, encIds, q2, hgj, hy, hy', lookA_mp, hml, encV, hvc, hb2, hlay, hwj, cellsA_encM, one_encM]
                  refine nxt_intro (j + 1, row.take (j + 1) ++ (List.replicate ids.length 0).drop (j + 1)) ⟨hgj, rfl⟩ (Nat.sub_lt_sub_left hgj (Nat.lt_succ_self _)) (wk_l [1, 2] (by simp) ?_ ?_)
                  · simp [-List.map_map, upd, inj1, Γ0, encIds]
                  · refine ⟨⟨.map .i64 (encE m), by simp [upd_ap, blkF_ap], subO_encE m⟩, ⟨_, by simp [upd_ap], subO_cells.2 ⟨rfl, cellsOk_data rfl rfl⟩⟩, trivial⟩
                · rw [if_neg hs] at hml
                  have hz : lv q x = 0 := by
                    rw [← hlv q]
                    unfold getM
                    cases hf : fnd q m with
                    | none => rfl
                    | some j => rw [hf] at hs; exact (hs rfl).elim
                  rw [hz] at hrj
                  have hsame := mix_same (a := row) (b := List.replicate ids.length 0) (k := j) (by simp [hrl]) (by omega) (by rw [hrj, List.getElem?_replicate, if_pos hgj])
                  rw [hjv] at hsame
                  have hvj : v[j]? = some 0 := by
                    rw [← hjv, List.getElem?_append_right (by rw [List.length_take]; omega), List.length_take, Nat.min_eq_left (by omega), Nat.sub_self, List.getElem?_drop, Nat.add_zero, List.getElem?_replicate, if_pos hgj]
                  have hlz := fun (H H' : Nat → Option HO) ρ => lay_zero (H := H) (H' := H') (ρ := ρ) hvj
                  simp (config := { maxSteps := 1000000 }) [-List.map_map, -List.mapM_map, ↓KW, encIds, q2, hgj, hy, hy', lookA_mp, hml, cv, encV, hvc, hb2, hwj, cellsA_encM, one_encM]
                  refine nxt_intro (j + 1, v) ⟨hgj, hsame.symm⟩ (Nat.sub_lt_sub_left hgj (Nat.lt_succ_self _)) (wk_l [1, 2] (by simp) ?_ ?_)
                  · simp [-List.map_map, upd, inj1, Γ0, encIds]
                  · refine ⟨⟨.map .i64 (encE m), by simp [upd_ap, blkF_ap], subO_encE m⟩, ⟨_, by simp [upd_ap], subO_cells.2 ⟨rfl, hlz _ _ _⟩⟩, trivial⟩
              · have q2 : ¬ (j : Int) < ids.length := by omega
                have ej : v = row := by
                  rw [← hjv, List.take_of_length_le (by omega), List.drop_eq_nil_of_le (by simp; omega), List.append_nil]
                simp (config := { maxSteps := 1000000 }) [-List.map_map, -List.mapM_map, ↓KW, encIds, q2, ej]
                rw [ej] at hvc
                simp (config := { maxSteps := 1000000 }) [-List.map_map, -List.mapM_map, ↓KW, encV2, hvc, resD_2, chunk_vcs hrl, vcs_take_all hrl]

set_option maxHeartbeats 2000000 in
set_option maxRecDepth 10000 in
theorem chainsChain {g : Nat} {c : List Cl} (k : Int) (v : List Int) (hl : c.length ≤ 100) (hv : ∀ z ∈ v, z.natAbs ≤ 2 ^ g) (hki : ∀ x ∈ c, inr x.id = true) (hg : g + 20 < 4398046511104) :
    Spec Tryz.prog 29 [encX c, .i .i64 k, encV2 v] (.tp [encC (chX c k v).1, .i .i64 (chX c k v).2]) := by
  have hI := complexCells c k (by omega)
  have hil := idsX_len c k
  have hik : ∀ n ∈ idsX c k, inr n = true := fun n hn => by
    obtain ⟨x, hx, _, e⟩ := mem_idsX.1 hn
    rw [← e]; exact hki x hx
  by_cases he : v.length = (idsX c k).length
  · have hr : chX c k v = (chainM (sumM [] ((idsX c k).zip v)), 0) := by unfold chX; rw [if_pos he, make_eq]
    rw [hr]
    clear hr
    generalize idsX c k = ids at *
    have hb := zip_bnd (ids := ids) hv
    have hzk : Keys (ids.zip v) := fun x hx => hik _ (List.of_mem_zip hx).1
    have hzl : (ids.zip v).length ≤ 100 := by rw [List.length_zip]; omega
    have he' : (((v.length : Int) != ids.length) : Bool) = false := by simp; omega
    obtain ⟨mf, hmf⟩ : ∃ m, sumM [] (ids.zip v) = m := ⟨_, rfl⟩
    rw [hmf]
    have hmff := sum_facts hmf hb (by omega) hzk
    refine spec_of_d (N := 38) follows_mixed Tryz.func29 rfl rfl rfl (by kernel_rfl) (by kernel_rfl) (by kernel_rfl) (by kernel_rfl) rfl rec58 (by simp) ?_
    simp (config := { maxSteps := 1000000 }) [-List.map_map, -List.mapM_map, ↓KW, encX, encV2]
    refine callP_intro (ds := [encX c, .i .i64 k]) (by rfl) hI ?_
    simp (config := { maxSteps := 1000000 }) [-List.map_map, -List.mapM_map, ↓KW, encX, encIds, he']
    refine loopP_inv (fun y : Nat × List (Int × Int) => y.1 ≤ ids.length ∧ sumM [] ((ids.zip v).take y.1) = y.2) (fun y => StL [(2, .d (encV2 v)), (9, .mp 1), (21, .d (encIds ids)), (22, .d (.i .i64 ids.length)), (23, .d (.i .i64 (y.1 : Int)))] none [.map .i64 (encE y.2)]) (fun y => ids.length - y.1) (0, []) ⟨Nat.zero_le _, rfl⟩ ?_ ?_
    · refine wk_l [1] (by simp) ?_ ?_
      · simp [-List.map_map, upd, inj1, Γ0, encV2, encIds]
      · exact ⟨⟨.map .i64 [], by simp [upd_ap], subO_encE []⟩, trivial⟩
    · rintro ⟨i, m⟩ ⟨hin, him⟩
      simp only at hin him ⊢
      have hmi := sum_facts him hb.take (by rw [List.length_take]; omega) (hzk.take i)
      by_cases hgo : i < ids.length
      · have q1 : (i : Int) < ids.length := by omega
        have hgv : i < v.length := by omega
        have q1v : (i : Int) < v.length := by omega
        have hx : v[i]? = some v[i] := List.getElem?_eq_getElem hgv
        have hy : ids[i]? = some ids[i] := List.getElem?_eq_getElem hgo
        have hz := hv _ (List.getElem_mem hgv)
        have hw : IntKind.i64.wrap ((i : Int) + 1) = (i : Int) + 1 := wrap_i64 (by omega) (by omega)
        have htk := zip_take hgo hgv
        refine (show ∃ z, v[i] = z from ⟨_, rfl⟩).elim fun z hze => ?_
        refine (show ∃ q, ids[i] = q from ⟨_, rfl⟩).elim fun q hqe => ?_
        rw [hze] at hx hz htk
        rw [hqe] at hy htk
        have hy' : ∀ h : i < ids.length, ids[i]'h = q := fun h => Option.some.inj ((List.getElem?_eq_getElem h).symm.trans hy)
        have hx' : ∀ h : i < v.length, v[i]'h = z := fun h => Option.some.inj ((List.getElem?_eq_getElem h).symm.trans hx)
        refine (show ∃ m2, addM m q z = m2 from ⟨_, rfl⟩).elim fun m2 hm2 => ?_
        have hadd := sumAdd m q z (szE (getM_bnd hmi.1 q) (by omega)) (szE hz (by omega))
        rw [hm2] at hadd
        have hnx : sumM [] ((ids.zip v).take (i + 1)) = m2 := by rw [htk, sumM_app, him, ← hm2]; rfl
        simp (config := { maxSteps := 1000000 }) [-List.map_map, -List.mapM_map, ↓KW, encV2, encIds, encN_eq, q1, q1v, hx, hx', hy, hy', one_encM, cellsA_encM]
        refine o1_callM hadd (by simp) (id := 1) (by simp [oev_tmp, upd_ap, sltF_ap]) (by simp [upd_ap, blkF_ap]) (noh_encE _) (by simp [oev_tmp, upd_ap, viss_cons, viss_nil, vis_d, vis_ag]) (by simp [oev_tmp, upd_ap]; rfl) rfl (noh_encE _) ?_
        simp (config := { maxSteps := 1000000 }) [-List.map_map, -List.mapM_map, ↓KW, hw]
        refine nxt_intro (i + 1, m2) ⟨hgo, hnx⟩ (Nat.sub_lt_sub_left hgo (Nat.lt_succ_self _)) (wk_l [1] (by simp) ?_ ?_)
        · simp [-List.map_map, upd, inj1, Γ0, encV2, encIds]
        · exact ⟨⟨.map .i64 (encE m2), by simp [upd_ap], subO_encE m2⟩, trivial⟩
      · have q1 : ¬ (i : Int) < ids.length := by omega
        rw [List.take_of_length_le (by rw [List.length_zip]; omega), hmf] at him
        have hmf1 := hmff.1
        have hsc := sumChain mf (fun q => szE (getM_bnd hmf1 q) (by omega)) (by have := hmff.2.2; omega) hmff.2.1.all
        have him' : m = mf := him.symm
        simp (config := { maxSteps := 1000000 }) [-List.map_map, -List.mapM_map, ↓KW, encV2, encIds, q1, him']
        refine o1_callM hsc (by simp) (id := 1) (by simp [oev_tmp, upd_ap, sltF_ap]) (by simp [upd_ap, blkF_ap]) (noh_encE _) (by simp [viss_nil]) (by rfl) rfl (noh_encE _) ?_
        simp (config := { maxSteps := 1000000 }) [-List.map_map, -List.mapM_map, ↓KW, encC, resD_2]
  · have hr : chX c k v = ([], 50) := by unfold chX; rw [if_neg he]
    rw [hr]
    clear hr
    generalize idsX c k = ids at *
    have he' : (((v.length : Int) != ids.length) : Bool) = true := by simp; omega
    refine spec_of_d (N := 38) follows_mixed Tryz.func29 rfl rfl rfl (by kernel_rfl) (by kernel_rfl) (by kernel_rfl) (by kernel_rfl) rfl rec58 (by simp) ?_
    simp (config := { maxSteps := 1000000 }) [-List.map_map, -List.mapM_map, ↓KW, encX, encV2]
    refine callP_intro (ds := [encX c, .i .i64 k]) (by rfl) hI ?_
    simp (config := { maxSteps := 1000000 }) [-List.map_map, -List.mapM_map, ↓KW, encX, encIds, encC, he', resD_2]

end Go.Am
end

section
set_option linter.unusedVariables false
set_option linter.unusedSimpArgs false
open Go Go.Am Go.Proofs
namespace Go.Am
set_option linter.unusedSimpArgs false
set_option linter.unusedVariables false

set_option maxHeartbeats 2000000 in
set_option maxRecDepth 10000 in
theorem r26Cycle {f g : Nat} {c : List Cl} {x : List (Int × Int)} (hc : SzX f c) (hx : x.length ≤ 100) (hg : Bnd (2 ^ g) x) (hfg : f + g + 20 < 4398046511104) :
    Spec Tryz.prog 18 [encX c, encC x] (.b (cycX c x)) := by
  refine spec_of (N := 20) follows_mixed Tryz.func18 rfl rfl rfl (by kernel_rfl) (by kernel_rfl) (by simp) ?_
  have hB := r26Boundary hc hx hg hfg
  unfold bndX at hB
  unfold cycX
  generalize (dimX c x).2 = e at *
  generalize bdX c x = out at *
  by_cases he : e = 0
  · rw [if_pos he] at hB
    subst he
    by_cases ho : out.length = 0
    · have ho' : (out.length : Int) = 0 := by omega
      simp (config := { maxSteps := 1000000 }) [-List.map_map, -List.mapM_map, ↓KW, encX, encC]
      refine callP_intro (ds := [encX c, encC x]) (by rfl) hB ?_
      simp (config := { maxSteps := 1000000 }) [-List.map_map, -List.mapM_map, ↓KW, encC, ho, ho']
    · have ho' : ¬ (out.length : Int) = 0 := by omega
      have ho2 : (((out.length : Int) == 0) : Bool) = false := by simpa using ho
      simp (config := { maxSteps := 1000000 }) [-List.map_map, -List.mapM_map, ↓KW, encX, encC]
      refine callP_intro (ds := [encX c, encC x]) (by rfl) hB ?_
      simp (config := { maxSteps := 1000000 }) [-List.map_map, -List.mapM_map, ↓KW, encC, ho, ho', ho2]
  · rw [if_neg he] at hB
    have he' : ((e == 0) : Bool) = false := by simpa using he
    simp (config := { maxSteps := 1000000 }) [-List.map_map, -List.mapM_map, ↓KW, encX, encC]
    refine callP_intro (ds := [encX c, encC x]) (by rfl) hB ?_
    simp (config := { maxSteps := 1000000 }) [-List.map_map, -List.mapM_map, ↓KW, encC, he, he']

end Go.Am
end

section
set_option linter.unusedVariables false
set_option linter.unusedSimpArgs false
open Go Go.Am Go.Proofs
namespace Go.Am
set_option linter.unusedSimpArgs false
set_option linter.unusedVariables false

theorem inr_of {n : Int} (h1 : -1000 ≤ n) (h2 : n ≤ 1000) : inr n = true := by
  unfold inr
  simp only [Bool.and_eq_true, decide_eq_true_eq]
  omega
theorem MdX.keys {c : List Cl} (h : MdX c) : ∀ x ∈ c, Keys x.b := fun x hx f hf => by
  obtain ⟨y, hy, e, _⟩ := h.v.face x hx f hf
  have := h.ids y hy
  exact inr_of (by omega) (by omega)
theorem MdX.kids {c : List Cl} (h : MdX c) : ∀ x ∈ c, inr x.id = true := fun x hx => by
  have := h.ids x hx
  exact inr_of (by omega) (by omega)
theorem rowX_bnd {ids : List Int} {x : List (Int × Int)} {M : Nat} (h : Bnd M x) : ∀ z ∈ rowX ids x, z.natAbs ≤ M := fun z hz => by
  obtain ⟨n, _, rfl⟩ := List.mem_map.1 hz
  exact lv_bnd h n
theorem vecX_sz {c : List Cl} {k : Int} {x : List (Int × Int)} {e : Nat} (h : Bnd (2 ^ e) x) (he : e < 4398046511104) : ∀ z ∈ (vecX c k x).1, Sz z := fun z hz => by
  unfold vecX at hz
  split at hz
  · split at hz
    · cases hz
    · exact szE (rowX_bnd h z hz) he
  · cases hz
theorem vecX_len (c : List Cl) (k : Int) (x : List (Int × Int)) : (vecX c k x).1.length ≤ c.length := by
  unfold vecX
  split
  · split
    · simp
    · rw [rowX_len]; exact idsX_len c k
  · simp

set_option maxHeartbeats 4000000 in
set_option maxRecDepth 10000 in
theorem lawMatchesRef (s : Int) (q : List Q4) (l : List (Int × Int)) (k : Int) (hs : 0 ≤ s ∧ s ≤ 255) (hq : ∀ y ∈ q, y.ok) (hql : q.length ≤ 9223372036854775807) (hl : ∀ p ∈ l, I8 p) (hll : l.length ≤ 9223372036854775807) (hk : -128 ≤ k ∧ k ≤ 127) :
    Spec Tryz.prog 3 [encRaw s q, encP l, .i .i8 k] (.b true) := by
  obtain ⟨c, sM, hc⟩ := made_ex s q hs hq hql
  have sF := r26Faces l hl hll
  have xl := facesR_len l
  have xb := facesR_bnd l
  have xk := facesR_keys l
  generalize facesR l = x at *
  have sA := r26Make x 3 (digs_small (by omega)) xb (by omega)
  have av := (addR_val x [] Val.nil).1
  have al := addR_len [] x
  have ab : Bnd (2 ^ 5) (addR [] x) := (addR_bnd x [] (Bnd.nil 0) xb).mono (by omega)
  have ak := addR_keys xk
  generalize addR [] x = a at *
  simp only [List.length_nil] at al
  have hlen := hc.len
  obtain ⟨F, hF, hsz⟩ := hc.sz
  have sD := chainsDim c a (by omega) (by omega) hc.v.inc
  have sE := r26Dim c a (by omega) (by omega)
  have sB := chainsBoundary hsz hc.v.inc hc.keys (by omega) ab (by omega)
  have sC := r26Boundary hsz (by omega) ab (by omega)
  have sY := chainsCycle hsz hc.v.inc hc.keys (by omega) ab (by omega)
  have sZ := r26Cycle hsz (by omega) ab (by omega)
  have t1 := Int.tmod_lt_of_pos k (b := 5) (by decide)
  have t2 := Int.tmod_lt_of_pos (-k) (b := 5) (by decide)
  rw [Int.neg_tmod] at t2
  obtain ⟨d, hd⟩ : ∃ d, k.tmod 5 = d := ⟨_, rfl⟩
  rw [hd] at t1 t2
  have hw8 : IntKind.i8.wrap d = d := wrap_i8s (by omega) (by omega)
  have hw : IntKind.i64.wrap d = d := wrap_i64 (by omega) (by omega)
  have sV := chainsVector d (by omega) hc.v.inc (by omega) av ak ab (by omega)
  have sW := r26Vector c d a (by omega) (by omega)
  have bz : ∀ y ∈ (bndX c a).1, Sz y.2 := by
    unfold bndX
    split
    · exact (bdX_bnd hsz (by omega) ab).1.sz (by omega)
    · intro y hy; cases hy
  have bl : (bndX c a).1.length ≤ 10000 := by
    unfold bndX
    split
    · exact (bdX_bnd hsz (by omega) ab).2
    · simp
  have sS := r26Same _ _ bz bz (by omega) (by omega)
  have vz := vecX_sz (c := c) (k := d) ab (by omega)
  have vl := vecX_len c d a
  have sT := r05SameVec vz vz (by omega)
  simp only [decide_true] at sS sT
  generalize (dimX c a).1 = d1 at *
  generalize (dimX c a).2 = d2 at *
  generalize (bndX c a).1 = b1 at *
  generalize (bndX c a).2 = b2 at *
  generalize (vecX c d a).1 = v1 at *
  generalize (vecX c d a).2 = v2 at *
  generalize cycX c a = cy at *
  have hr : encRaw s q = .ag [.i .u8 s, .sl (q.map encQ)] := rfl
  refine spec_of (N := 110) follows_mixed Tryz.func3 rfl rfl rfl (by kernel_rfl) (by kernel_rfl) (by simp) ?_
  simp (config := { maxSteps := 1000000 }) [-List.map_map, -List.mapM_map, ↓KW, hr, encP]
  refine callP_intro (ds := []) (by rfl) sanity26 ?_
  simp (config := { maxSteps := 1000000 }) [-List.map_map, -List.mapM_map, ↓KW, hr, encP]
  refine callP_intro (ds := [encRaw s q]) (by rfl) sM ?_
  simp (config := { maxSteps := 1000000 }) [-List.map_map, -List.mapM_map, ↓KW, encX, encP]
  refine callP_intro (ds := [encP l]) (by rfl) sF ?_
  simp (config := { maxSteps := 1000000 }) [-List.map_map, -List.mapM_map, ↓KW, encX, encC]
  refine callP_intro (ds := [encC x]) (by rfl) sA ?_
  simp (config := { maxSteps := 1000000 }) [-List.map_map, -List.mapM_map, ↓KW, encX, encC, hd, hw8, hw]
  refine callP_intro (ds := [encX c, encC a]) (by rfl) sD ?_
  simp (config := { maxSteps := 1000000 }) [-List.map_map, -List.mapM_map, ↓KW, encX, encC]
  refine callP_intro (ds := [encX c, encC a]) (by rfl) sE ?_
  simp (config := { maxSteps := 1000000 }) [-List.map_map, -List.mapM_map, ↓KW, encX, encC]
  refine callP_intro (ds := [encX c, encC a]) (by rfl) sB ?_
  simp (config := { maxSteps := 1000000 }) [-List.map_map, -List.mapM_map, ↓KW, encX, encC]
  refine callP_intro (ds := [encX c, encC a]) (by rfl) sC ?_
  simp (config := { maxSteps := 1000000 }) [-List.map_map, -List.mapM_map, ↓KW, encX, encC]
  refine callP_intro (ds := [encX c, .i .i64 d, encC a]) (by rfl) sV ?_
  simp (config := { maxSteps := 1000000 }) [-List.map_map, -List.mapM_map, ↓KW, encX, encC, encV2]
  refine callP_intro (ds := [encX c, .i .i64 d, encC a]) (by rfl) sW ?_
  simp (config := { maxSteps := 1000000 }) [-List.map_map, -List.mapM_map, ↓KW, encX, encC, encV2]
  refine callP_intro (ds := [encC b1, encC b1]) (by rfl) sS ?_
  simp (config := { maxSteps := 1000000 }) [-List.map_map, -List.mapM_map, ↓KW, encX, encC, encV2]
  refine callP_intro (ds := [encX c, encC a]) (by rfl) sY ?_
  simp (config := { maxSteps := 1000000 }) [-List.map_map, -List.mapM_map, ↓KW, encX, encC, encV2]
  refine callP_intro (ds := [encX c, encC a]) (by rfl) sZ ?_
  simp (config := { maxSteps := 1000000 }) [-List.map_map, -List.mapM_map, ↓KW, encX, encC, encV2]
  refine callP_intro (ds := [encV2 v1, encV2 v1]) (by rfl) sT ?_
  simp (config := { maxSteps := 1000000 }) [-List.map_map, -List.mapM_map, ↓KW, encX, encC, encV2]

end Go.Am
end
