/- The abstract machine, part 19: states by a list of slots and a list of blocks; what is owed where such a state is come to. No condition. -/
import Derived.Test.YtmnjglpieghdkaaAm18
namespace Go.Am

def sltF : List (Nat × AV) → Nat → AV
  | [] => fun _ => .any
  | p :: l => upd (sltF l) p.1 p.2

def blkF : Nat → List HO → Nat → Option HO
  | _, [] => fun _ => none
  | i, o :: os => upd (blkF (i + 1) os) i (some o)

def blk0 (o0 : Option HO) (H : Nat → Option HO) : Nat → Option HO := match o0 with
  | none => H
  | some o => upd H 0 (some o)

/-- A state: what is known of some slots; block 0, where there is one; blocks 1, 2, .. -/
def StL (sl : List (Nat × AV)) (o0 : Option HO) (hs : List HO) : St := ⟨sltF sl, blk0 o0 (blkF 1 hs), hs.length + 1⟩

theorem blkF_get : ∀ (hs : List HO) (i j : Nat), blkF i hs j = if i ≤ j then hs[j - i]? else none
  | [], i, j => by simp [blkF]
  | o :: os, i, j => by
    unfold blkF upd
    by_cases h : j = i
    · subst h; simp
    · rw [if_neg h, blkF_get os (i + 1) j]
      by_cases h1 : i + 1 ≤ j
      · rw [if_pos h1, if_pos (by omega), show j - i = (j - (i + 1)) + 1 from by omega, List.getElem?_cons_succ]
      · rw [if_neg h1, if_neg (by omega)]
theorem StL_H0 (sl : List (Nat × AV)) (o0 : Option HO) (hs : List HO) : (StL sl o0 hs).H 0 = o0 := by
  unfold StL blk0
  cases o0 with
  | none => simp [blkF_get]
  | some o => rfl
theorem StL_Hs (sl : List (Nat × AV)) (o0 : Option HO) (hs : List HO) (i : Nat) : (StL sl o0 hs).H (i + 1) = hs[i]? := by
  unfold StL blk0
  cases o0 with
  | none => simp [blkF_get]
  | some o => simp [upd, blkF_get]
theorem sltF_get : ∀ (l : List (Nat × AV)) (t : Nat), sltF l t = .any ∨ ∃ p ∈ l, p.1 = t ∧ sltF l t = p.2
  | [], t => .inl rfl
  | p :: l, t => by
    by_cases h : t = p.1
    · exact .inr ⟨p, List.mem_cons_self .., h.symm, by simp [sltF, upd, h]⟩
    · have e : sltF (p :: l) t = sltF l t := by simp [sltF, upd, h]
      rw [e]
      rcases sltF_get l t with h | ⟨q, hq, h⟩
      · exact .inl h
      · exact .inr ⟨q, List.mem_cons_of_mem _ hq, h⟩

def rhoL (rs : List Nat) : Nat → Nat := fun id => match id with | 0 => 0 | i + 1 => rs.getD i 0

def slotsOk (H H' : Nat → Option HO) (ρ : Nat → Nat) (Γ : Nat → AV) : List (Nat × AV) → Prop
  | [] => True
  | p :: l => Sub H H' ρ (Γ p.1) p.2 ∧ slotsOk H H' ρ Γ l

def blksOk (H H' : Nat → Option HO) (ρ : Nat → Nat) : List Nat → List HO → Prop
  | [], [] => True
  | r :: rs, o :: os => (∃ o0, H r = some o0 ∧ SubO H H' ρ o0 o) ∧ blksOk H H' ρ rs os
  | _, _ => False

theorem slotsOk_mem {H H' : Nat → Option HO} {ρ : Nat → Nat} {Γ : Nat → AV} : ∀ {l : List (Nat × AV)}, slotsOk H H' ρ Γ l → ∀ p ∈ l, Sub H H' ρ (Γ p.1) p.2
  | p :: l, h, q, hq => by
    rcases List.mem_cons.1 hq with rfl | hq
    · exact h.1
    · exact slotsOk_mem h.2 q hq

theorem blksOk_get {H H' : Nat → Option HO} {ρ : Nat → Nat} : ∀ {rs : List Nat} {os : List HO}, blksOk H H' ρ rs os → rs.length = os.length ∧ ∀ (i : Nat) o, os[i]? = some o → ∃ o0, H (rs.getD i 0) = some o0 ∧ SubO H H' ρ o0 o
  | [], [], _ => ⟨rfl, fun i o h => by simp at h⟩
  | r :: rs, o :: os, h => by
    obtain ⟨h1, h2⟩ := h
    obtain ⟨q1, q2⟩ := blksOk_get h2
    refine ⟨by simp [q1], fun i o' hi => ?_⟩
    rcases i with _ | i
    · simp at hi; subst hi; simpa using h1
    · simpa using q2 i o' (by simpa using hi)
  | [], _ :: _, h => h.elim
  | _ :: _, [], h => h.elim

theorem getD_of {l : List Nat} {i : Nat} (h : i < l.length) : l.getD i 0 = l[i] := by
  rw [List.getD_eq_getElem?_getD, List.getElem?_eq_getElem h]; rfl

theorem sub_any {H H' : Nat → Option HO} {ρ : Nat → Nat} (x : AV) : Sub H H' ρ x .any := by cases x <;> trivial

theorem wk_list {σ : St} {sl : List (Nat × AV)} {o0 : Option HO} {hs : List HO} (rs : List Nat) (hnd : (0 :: rs).Nodup)
    (hslot : slotsOk σ.H (StL sl o0 hs).H (rhoL rs) σ.Γ sl) (h0 : ∀ o', o0 = some o' → ∃ o, σ.H 0 = some o ∧ SubO σ.H (StL sl o0 hs).H (rhoL rs) o o')
    (hblk : blksOk σ.H (StL sl o0 hs).H (rhoL rs) rs hs) : Wk σ (StL sl o0 hs) (rhoL rs) := by
  obtain ⟨hlen, hget⟩ := blksOk_get hblk
  have hlt : ∀ i, (((StL sl o0 hs).H (i + 1)).isSome = true) → i < rs.length := fun i h => by
    rw [hlen]
    rw [StL_Hs] at h
    rcases Nat.lt_or_ge i hs.length with h' | h'
    · exact h'
    · rw [List.getElem?_eq_none h'] at h; cases h
  have hno : ∀ i, i < rs.length → rs.getD i 0 ≠ 0 := fun i hi h => by
    have : rs[i] ∈ rs := List.getElem_mem hi
    rw [getD_of hi] at h
    rw [h] at this
    exact (List.nodup_cons.1 hnd).1 this
  refine ⟨fun id h => ?_, fun t => ?_, fun id o' h => ?_, fun id id' h h' e => ?_, fun _ => rfl, fun h => by simp [StL] at h⟩
  · cases id with
    | zero => simp [StL] at h
    | succ i => rw [StL_Hs]; simp only [StL] at h; exact List.getElem?_eq_none (by omega)
  · show Sub _ _ _ _ (sltF sl t)
    rcases sltF_get sl t with h | ⟨p, hp, rfl, h⟩
    · rw [h]; exact sub_any _
    · rw [h]; exact slotsOk_mem hslot _ hp
  · cases id with
    | zero => rw [StL_H0] at h; exact h0 o' h
    | succ i => rw [StL_Hs] at h; exact hget i o' h
  · cases id with
    | zero => cases id' with
      | zero => rfl
      | succ j => exact absurd e.symm (hno j (hlt j h'))
    | succ i => cases id' with
      | zero => exact absurd e (hno i (hlt i h))
      | succ j =>
        have hi := hlt i h
        have hj := hlt j h'
        simp only [rhoL] at e
        rw [getD_of hi, getD_of hj] at e
        have := (List.getElem_inj (List.nodup_cons.1 hnd).2).1 e
        rw [this]

/-- The same, no block 0. -/
theorem wk_l {σ : St} {sl : List (Nat × AV)} {hs : List HO} (rs : List Nat) (hnd : (0 :: rs).Nodup)
    (hslot : slotsOk σ.H (StL sl none hs).H (rhoL rs) σ.Γ sl) (hblk : blksOk σ.H (StL sl none hs).H (rhoL rs) rs hs) : ∃ ρ, Wk σ (StL sl none hs) ρ :=
  ⟨_, wk_list rs hnd hslot (fun _ h => by cases h) hblk⟩

/-- Cells that are data. -/
theorem subO_data {H H' : Nat → Option HO} {ρ : Nat → Nat} (e : TypeId) (l : List D) : SubO H H' ρ (.cells e (l.map .d)) (.cells e (l.map .d)) := by
  refine ⟨rfl, rfl, fun k c d h1 h2 => ?_⟩
  rw [h1] at h2; injection h2 with h2; subst h2
  rw [List.getElem?_map] at h1
  obtain ⟨x, _, rfl⟩ := Option.map_eq_some_iff.1 h1
  exact ⟨rfl, fun a ha => by simp [vis] at ha⟩

theorem subO_data' {H H' : Nat → Option HO} {ρ : Nat → Nat} {e : TypeId} {l : List D} {c c' : List AV} (h : c = l.map .d) (h' : c' = l.map .d) : SubO H H' ρ (.cells e c) (.cells e c') := by
  subst h; subst h'; exact subO_data e l

theorem sub_d {H H' : Nat → Option HO} {ρ : Nat → Nat} (x : D) : Sub H H' ρ (.d x) (.d x) := ⟨rfl, fun a ha => by simp [vis] at ha⟩
theorem sub_d' {H H' : Nat → Option HO} {ρ : Nat → Nat} {x y : D} (h : x = y) : Sub H H' ρ (.d x) (.d y) := h ▸ sub_d x
theorem sub_d_iff {H H' : Nat → Option HO} {ρ : Nat → Nat} (x y : D) : Sub H H' ρ (.d x) (.d y) ↔ x = y := by
  constructor
  · intro h
    have : frz H 8 (.d x) = some y := h.1
    rw [frz_d] at this
    injection this
  · exact sub_d'
theorem sub_own {H H' : Nat → Option HO} {ρ : Nat → Nat} {a o l s b o' l' s' : Nat} (h1 : a = ρ b) (h2 : o = o') (h3 : l = l') (h4 : s = s') (h5 : (H' b).isSome = true) : Sub H H' ρ (.own a o l s) (.own b o' l' s') := ⟨h1, h2, h3, h4, h5⟩
theorem sub_own_iff {H H' : Nat → Option HO} {ρ : Nat → Nat} {a o l s b o' l' s' : Nat} : Sub H H' ρ (.own a o l s) (.own b o' l' s') ↔ (a = ρ b ∧ o = o' ∧ l = l' ∧ s = s' ∧ (H' b).isSome = true) := Iff.rfl
theorem sub_ptr_iff {H H' : Nat → Option HO} {ρ : Nat → Nat} {a o b o' : Nat} : Sub H H' ρ (.ptr a o) (.ptr b o') ↔ (a = ρ b ∧ o = o' ∧ (H' b).isSome = true) := Iff.rfl
theorem sub_mp_iff {H H' : Nat → Option HO} {ρ : Nat → Nat} {a b : Nat} : Sub H H' ρ (.mp a) (.mp b) ↔ (a = ρ b ∧ (H' b).isSome = true) := Iff.rfl
theorem sub_nil {H H' : Nat → Option HO} {ρ : Nat → Nat} : Sub H H' ρ .nil .nil ↔ True := Iff.rfl
theorem sub_un {H H' : Nat → Option HO} {ρ : Nat → Nat} : Sub H H' ρ .un .un ↔ True := Iff.rfl
/-- A slice of the call's own that is read for good. -/
theorem sub_frz {H H' : Nat → Option HO} {ρ : Nat → Nat} {x : AV} {y : D} (h : frz H 8 x = some y) (hv : ∀ a ∈ vis H 8 x, ∀ id, (H' id).isSome = true → ρ id ≠ a) : Sub H H' ρ x (.d y) := by
  have h2 : SubL H H' ρ x (.d y) := by cases x <;> exact ⟨h, hv⟩
  cases x <;> exact h2

/-! Cells -/
theorem lay_one (l : List D) (off : Nat) (x : D) (h : off < l.length) : lay (l.map AV.d) off [.d x] = (l.set off x).map .d := by
  have h1 : off + [AV.d x].length ≤ (l.map AV.d).length := by rw [List.length_map]; exact h
  apply List.ext_getElem?
  intro k
  rw [lay_get h1, List.getElem?_map, List.getElem?_map, List.getElem?_set]
  by_cases e : off = k
  · subst e; simp [h]
  · rw [if_neg e, if_neg]
    simp only [List.length_singleton]; omega
theorem chunk_one (l : List D) (n : Nat) (h : n = l.length) : chunk 1 n l = l.map fun x => [x] := by
  subst h
  unfold chunk
  apply List.ext_getElem?
  intro k
  by_cases hk : k < l.length
  · simp only [List.getElem?_map, List.getElem?_range hk, Option.map_some, Nat.mul_one, List.getElem?_eq_getElem hk]
    congr 1
    rw [List.drop_eq_getElem_cons hk]; rfl
  · rw [List.getElem?_eq_none (by simpa using hk), List.getElem?_eq_none (by simpa using hk)]
theorem chunk_three (l : List (List D)) (h : ∀ x ∈ l, x.length = 3) : chunk 3 l.length l.flatten = l := by
  induction l with
  | nil => rfl
  | cons a l ih =>
    have ha := h a (List.mem_cons_self ..)
    have := ih fun x hx => h x (List.mem_cons_of_mem _ hx)
    unfold chunk at this ⊢
    rw [List.length_cons, List.range_succ_eq_map, List.map_cons, List.map_map, List.flatten_cons]
    congr 1
    · simp [ha]
    · conv => rhs; rw [← this]
      apply List.map_congr_left
      intro i _
      simp only [Function.comp]
      rw [show Nat.succ i * 3 = a.length + i * 3 from by omega, List.drop_append, List.drop_eq_nil_of_le (by omega)]
      simp
theorem rep_flat (n : Nat) (x : D) : (List.replicate n [AV.d x]).flatten = (List.replicate n x).map .d := by
  induction n with
  | zero => rfl
  | succ n ih => simp only [List.replicate_succ, List.flatten_cons, ih]; rfl
theorem all_one_d (l : List D) (h : ∀ x ∈ l, one (.d x) = true) : (l.map AV.d).all one = true := by
  simpa using h

theorem frz_ag (H : Nat → Option HO) (n : Nat) (cs : List AV) : frz H (n + 1) (.ag cs) = (cs.mapM (frz H n)).map .ag := rfl
theorem kills_flat (H : Nat → Option HO) (avs : List AV) (r : D) (h : flat r = true) : killsOf H avs r = [] := by unfold killsOf; rw [if_pos h]
theorem frzs_all (H : Nat → Option HO) : ∀ (ds : List D), frzs H (ds.map .d) = some ds := fun ds => mapM_d H 7 ds

def cellsOk (H H' : Nat → Option HO) (ρ : Nat → Nat) : List AV → List AV → Prop
  | [], [] => True
  | c :: cs, d :: ds => SubL H H' ρ c d ∧ cellsOk H H' ρ cs ds
  | _, _ => False
theorem cellsOk_iff {H H' : Nat → Option HO} {ρ : Nat → Nat} : ∀ {cs ds : List AV}, cellsOk H H' ρ cs ds ↔ (cs.length = ds.length ∧ ∀ (k : Nat) c d, cs[k]? = some c → ds[k]? = some d → SubL H H' ρ c d)
  | [], [] => by simp [cellsOk]
  | c :: cs, d :: ds => by
    rw [cellsOk, cellsOk_iff]
    constructor
    · rintro ⟨h1, h2, h3⟩
      refine ⟨by simp [h2], fun k a b ha hb => ?_⟩
      rcases k with _ | k
      · simp at ha hb; subst ha; subst hb; exact h1
      · exact h3 k a b (by simpa using ha) (by simpa using hb)
    · rintro ⟨h1, h2⟩
      exact ⟨h2 0 c d rfl rfl, by simpa using h1, fun k a b ha hb => h2 (k + 1) a b (by simpa using ha) (by simpa using hb)⟩
  | [], _ :: _ => by simp [cellsOk]
  | _ :: _, [] => by simp [cellsOk]
theorem subO_cells {H H' : Nat → Option HO} {ρ : Nat → Nat} {e e' : TypeId} {cs ds : List AV} : SubO H H' ρ (.cells e cs) (.cells e' ds) ↔ (e = e' ∧ cellsOk H H' ρ cs ds) := by
  rw [cellsOk_iff]; rfl
theorem subL_d {H H' : Nat → Option HO} {ρ : Nat → Nat} (x y : D) : SubL H H' ρ (.d x) (.d y) ↔ x = y := sub_d_iff x y
theorem subL_nil {H H' : Nat → Option HO} {ρ : Nat → Nat} : SubL H H' ρ .nil .nil ↔ True := Iff.rfl
theorem subL_un {H H' : Nat → Option HO} {ρ : Nat → Nat} : SubL H H' ρ .un .un ↔ True := Iff.rfl
theorem cellsOk_data {H H' : Nat → Option HO} {ρ : Nat → Nat} {c c' : List AV} {l : List D} (h : c = l.map .d) (h' : c' = l.map .d) : cellsOk H H' ρ c c' := by
  have := subO_data' (H := H) (H' := H') (ρ := ρ) (e := 0) h h'
  exact (subO_cells.1 this).2
theorem cellsOk_map {H H' : Nat → Option HO} {ρ : Nat → Nat} {l l' : List D} : cellsOk H H' ρ (l.map .d) (l'.map .d) ↔ l = l' := by
  constructor
  · intro h
    obtain ⟨h1, h2⟩ := cellsOk_iff.1 h
    apply List.ext_getElem?
    intro k
    by_cases hk : k < l.length
    · have hk' : k < l'.length := by simpa using (by simpa using h1 : l.length = l'.length) ▸ hk
      have := h2 k (.d l[k]) (.d l'[k]) (by simp [hk]) (by simp [hk'])
      rw [subL_d] at this
      rw [List.getElem?_eq_getElem hk, List.getElem?_eq_getElem hk', this]
    · have hk' : ¬ k < l'.length := by have : l.length = l'.length := by simpa using h1
                                       omega
      rw [List.getElem?_eq_none (by omega), List.getElem?_eq_none (by omega)]
  · rintro rfl; exact cellsOk_data rfl rfl

theorem subO_map {H H' : Nat → Option HO} {ρ : Nat → Nat} {k : IntKind} {es : List (Int × AV)} (h : ∀ x ∈ es, Sub H H' ρ x.2 x.2) : SubO H H' ρ (.map k es) (.map k es) := by
  refine ⟨rfl, rfl, fun j x y hx hy => ?_⟩
  rw [hx] at hy; injection hy with hy; subst hy
  exact ⟨rfl, .inr (h x (List.mem_of_getElem? hx))⟩
theorem cellsOk_same {H H' : Nat → Option HO} {ρ : Nat → Nat} {l : List D} {c c' : List AV} : cellsOk H H' ρ (l.map .d ++ c) (l.map .d ++ c') ↔ cellsOk H H' ρ c c' := by
  induction l with
  | nil => rfl
  | cons x l ih => simp only [List.map_cons, List.cons_append, cellsOk, ih, subL_d, true_and]

end Go.Am
