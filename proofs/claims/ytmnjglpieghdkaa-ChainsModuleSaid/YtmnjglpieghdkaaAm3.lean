/- The abstract machine, part 3: struct values, zero values, the filling of cells. No condition. -/
import Derived.Test.YtmnjglpieghdkaaAm2
namespace Go.Am

def one : AV → Bool
  | .d (.b _) | .d (.i _ _) | .d (.sl _) | .nil | .own .. | .ptr .. | .mp _ | .fp _ | .fd _ => true
  | .d (.lit v) => v.oneCell'
  | _ => false

def cellsA : AV → Option (List AV)
  | .ag cs => if cs.all one then some cs else none
  | .d (.ag cs) => if (cs.map AV.d).all one then some (cs.map .d) else none
  | x => if one x then some [x] else none

def agOf : AV → Option (List AV)
  | .ag cs => some cs
  | .d (.ag cs) => some (cs.map .d)
  | _ => none

def tpOf : AV → Option (List AV)
  | .tp cs => some cs
  | .d (.tp cs) => some (cs.map .d)
  | _ => none

section
variable {F : Nat → Prop} {w : World} {ι : Nat → Option Nat}

theorem one_V {x : AV} {v : Value} (h1 : one x = true) (h : V F w ι x v) : v.oneCell' = true := by
  cases h with
  | d x v h => cases h <;> first | rfl | (simp [one] at h1; done) | simpa [one] using h1
  | ag cs vs hl h => simp [one] at h1
  | tp cs vs hl h => simp [one] at h1
  | un => simp [one] at h1
  | any v => simp [one] at h1
  | _ => rfl

theorem cells_one {v : Value} (h : v.oneCell' = true) : v.cells = #[v] := by cases v <;> first | rfl | (simp [Value.oneCell'] at h)

theorem V_map_d {cs : List D} {vs : Array Value} (h : ∀ (k : Nat) c v, cs[k]? = some c → vs[k]? = some v → VD F w c v) :
    ∀ (k : Nat) c v, (cs.map AV.d)[k]? = some c → vs[k]? = some v → V F w ι c v := by
  intro k c v hc hv
  rw [List.getElem?_map] at hc
  obtain ⟨d, hd, rfl⟩ := Option.map_eq_some_iff.1 hc
  exact .d _ _ (h k d v hd hv)

theorem agOf_V {x : AV} {v : Value} {cs : List AV} (h : agOf x = some cs) (hv : V F w ι x v) : ∃ vs, v = .agg vs ∧ cs.length = vs.size ∧ ∀ (k : Nat) c u, cs[k]? = some c → vs[k]? = some u → V F w ι c u := by
  unfold agOf at h
  split at h
  · injection h with h; subst h; cases hv with | ag _ vs hl hh => exact ⟨vs, rfl, hl, hh⟩
  · injection h with h; subst h; cases hv with | d _ _ hh => cases hh with | ag _ vs hl hh => exact ⟨vs, rfl, by simpa using hl, V_map_d hh⟩
  · cases h

theorem tpOf_V {x : AV} {v : Value} {cs : List AV} (h : tpOf x = some cs) (hv : V F w ι x v) : ∃ vs, v = .tuple vs ∧ cs.length = vs.size ∧ ∀ (k : Nat) c u, cs[k]? = some c → vs[k]? = some u → V F w ι c u := by
  unfold tpOf at h
  split at h
  · injection h with h; subst h; cases hv with | tp _ vs hl hh => exact ⟨vs, rfl, hl, hh⟩
  · injection h with h; subst h; cases hv with | d _ _ hh => cases hh with | tp _ vs hl hh => exact ⟨vs, rfl, by simpa using hl, V_map_d hh⟩
  · cases h

/-- The cells of a value that is stored. -/
def CV (F : Nat → Prop) (w : World) (ι : Nat → Option Nat) (cs : List AV) (vs : Array Value) : Prop :=
  cs.length = vs.size ∧ (∀ (k : Nat) c u, cs[k]? = some c → vs[k]? = some u → V F w ι c u) ∧ ∀ u ∈ vs, u.oneCell' = true

theorem CV_one {cs : List AV} {vs : Array Value} (h1 : cs.all one = true) (hl : cs.length = vs.size) (h : ∀ (k : Nat) c u, cs[k]? = some c → vs[k]? = some u → V F w ι c u) : CV F w ι cs vs := by
  refine ⟨hl, h, fun u hu => ?_⟩
  obtain ⟨k, hk, rfl⟩ := Array.mem_iff_getElem.1 hu
  have hk' : k < cs.length := by omega
  exact one_V (List.all_eq_true.1 h1 _ (List.getElem_mem hk')) (h k cs[k] vs[k] (List.getElem?_eq_getElem hk') (Array.getElem?_eq_getElem hk))

theorem cellsA_V {x : AV} {v : Value} {cs : List AV} (h : cellsA x = some cs) (hv : V F w ι x v) : CV F w ι cs v.cells := by
  unfold cellsA at h
  split at h
  · split at h
    · rename_i h1
      injection h with h; subst h
      cases hv with | ag _ vs hl hh => exact CV_one h1 hl hh
    · cases h
  · split at h
    · rename_i h1
      injection h with h; subst h
      cases hv with | d _ _ hh => cases hh with | ag _ vs hl hh => exact CV_one h1 (by simpa [Value.cells] using hl) (V_map_d hh)
    · cases h
  · split at h
    · rename_i h1
      injection h with h; subst h
      have h2 := one_V h1 hv
      rw [cells_one h2]
      exact CV_one (by simpa using h1) (by simp) fun k c u hc hu => by
        rcases k with _ | k
        · simp at hc hu; subst hc; subst hu; exact hv
        · simp at hc
    · cases h

theorem CV.get {cs : List AV} {vs : Array Value} (h : CV F w ι cs vs) {k : Nat} {c : AV} (hc : cs[k]? = some c) : ∃ u, vs[k]? = some u ∧ V F w ι c u := by
  have hk : k < cs.length := (List.getElem?_eq_some_iff.1 hc).1
  have hk' : k < vs.size := by have := h.1; omega
  exact ⟨vs[k], Array.getElem?_eq_getElem hk', h.2.1 k c _ hc (Array.getElem?_eq_getElem hk')⟩

theorem CV.step {F' : Nat → Prop} {w' : World} {ι' : Nat → Option Nat} {cs : List AV} {vs : Array Value} (hs : Step F w ι F' w' ι') (h : CV F w ι cs vs) : CV F' w' ι' cs vs :=
  ⟨h.1, fun k c u hc hu => (h.2.1 k c u hc hu).step hs, h.2.2⟩
end

/-- Cells laid over others from a place on. -/
def lay (cells : List AV) (off : Nat) (cs : List AV) : List AV := cells.take off ++ cs ++ cells.drop (off + cs.length)

theorem lay_length {cells cs : List AV} {off : Nat} (h : off + cs.length ≤ cells.length) : (lay cells off cs).length = cells.length := by
  simp [lay]; omega

theorem lay_get {cells cs : List AV} {off : Nat} (h : off + cs.length ≤ cells.length) (k : Nat) :
    (lay cells off cs)[k]? = if off ≤ k ∧ k < off + cs.length then cs[k - off]? else cells[k]? := by
  unfold lay
  by_cases h1 : off ≤ k
  · by_cases h2 : k < off + cs.length
    · rw [if_pos ⟨h1, h2⟩, List.append_assoc, List.getElem?_append_right (by simp; omega), List.length_take, Nat.min_eq_left (by omega), List.getElem?_append_left (by omega)]
    · rw [if_neg (by omega), List.getElem?_append_right (by simp; omega), List.length_append, List.length_take, Nat.min_eq_left (by omega), List.getElem?_drop]
      congr 1; omega
  · rw [if_neg (by omega), List.append_assoc, List.getElem?_append_left (by simp; omega), List.getElem?_take, if_pos (by omega)]

theorem foldl_set (off : Nat) : ∀ (l : List Value) (j : Nat) (cs : Array Value), off + j + l.length ≤ cs.size →
    ((l.zipIdx j).foldl (fun cs (p : Value × Nat) => cs.setIfInBounds (off + p.2) p.1) cs).size = cs.size ∧
    ∀ k, ((l.zipIdx j).foldl (fun cs (p : Value × Nat) => cs.setIfInBounds (off + p.2) p.1) cs)[k]? = if off + j ≤ k ∧ k < off + j + l.length then l[k - (off + j)]? else cs[k]? := by
  intro l
  induction l with
  | nil => intro j cs _; refine ⟨rfl, fun k => ?_⟩; rw [if_neg (by simp only [List.length_nil]; omega)]; rfl
  | cons v l ih =>
    intro j cs h
    simp only [List.length_cons] at h
    obtain ⟨h1, h2⟩ := ih (j + 1) (cs.setIfInBounds (off + j) v) (by simp; omega)
    refine ⟨by simpa using h1, fun k => ?_⟩
    simp only [List.zipIdx_cons, List.foldl_cons]
    rw [h2 k]
    by_cases hk : k = off + j
    · subst hk
      rw [if_neg (by omega), if_pos ⟨Nat.le_refl _, by simp⟩, Nat.sub_self, List.getElem?_cons_zero]
      exact Array.getElem?_setIfInBounds_self_of_lt (by omega)
    · by_cases h3 : off + (j + 1) ≤ k ∧ k < off + (j + 1) + l.length
      · rw [if_pos h3, if_pos (by simp only [List.length_cons]; omega)]
        rw [show k - (off + j) = (k - (off + (j + 1))) + 1 from by omega, List.getElem?_cons_succ]
      · rw [if_neg h3, if_neg (by simp only [List.length_cons]; omega), Array.getElem?_setIfInBounds_ne (by omega)]

def fillA (place : Nat → Option (Nat × Nat)) (cells : List AV) : List (Nat × AV) → Option (List AV)
  | [] => some cells
  | (i, x) :: rest =>
    match place i, cellsA x with
    | some (off, size), some cs => if cs.length = size ∧ off + cs.length ≤ cells.length then fillA place (lay cells off cs) rest else none
    | _, _ => none

section
variable {F : Nat → Prop} {w : World} {ι : Nat → Option Nat}

theorem CV_lay {cells cs : List AV} {vs us : Array Value} {off : Nat} (h : CV F w ι cells vs) (hc : CV F w ι cs us) (hf : off + cs.length ≤ cells.length) :
    CV F w ι (lay cells off cs) (us.zipIdx.foldl (fun cs (p : Value × Nat) => cs.setIfInBounds (off + p.2) p.1) vs) := by
  have hl := h.1
  have hl' := hc.1
  obtain ⟨h1, h2⟩ := foldl_set off us.toList 0 vs (by simp; omega)
  have he : (us.zipIdx.foldl (fun cs (p : Value × Nat) => cs.setIfInBounds (off + p.2) p.1) vs) = ((us.toList.zipIdx 0).foldl (fun cs (p : Value × Nat) => cs.setIfInBounds (off + p.2) p.1) vs) := by
    rw [← Array.foldl_toList]; simp
  rw [he]
  simp only [Nat.add_zero, Array.length_toList] at h2
  refine ⟨by rw [lay_length hf, h1]; exact hl, fun k c u hk hu => ?_, fun u hu => ?_⟩
  · rw [lay_get hf] at hk
    rw [h2 k] at hu
    by_cases hx : off ≤ k ∧ k < off + cs.length
    · rw [if_pos hx] at hk
      rw [if_pos (by omega)] at hu
      exact hc.2.1 _ _ _ hk (by simpa using hu)
    · rw [if_neg hx] at hk
      rw [if_neg (by omega)] at hu
      exact h.2.1 _ _ _ hk hu
  · obtain ⟨k, hk, rfl⟩ := Array.mem_iff_getElem.1 hu
    have hu' := h2 k
    rw [Array.getElem?_eq_getElem hk] at hu'
    by_cases hx : off ≤ k ∧ k < off + us.size
    · rw [if_pos hx] at hu'
      exact hc.2.2 _ (by have := List.mem_of_getElem? hu'.symm; simpa using this)
    · rw [if_neg hx] at hu'
      exact h.2.2 _ (Array.mem_of_getElem? hu'.symm)

theorem fillA_V (place : Nat → Option (Nat × Nat)) : ∀ (parts : List (Nat × AV)) (vals : List (Nat × Value)) (cells : List AV) (vs : Array Value) (out : List AV), CV F w ι cells vs →
    parts.length = vals.length → (∀ (k : Nat) p q, parts[k]? = some p → vals[k]? = some q → p.1 = q.1 ∧ V F w ι p.2 q.2) → fillA place cells parts = some out →
    ∃ us, Instr.fill place vs vals = some us ∧ CV F w ι out us
  | [], [], cells, vs, out, h, _, _, he => by
    simp only [fillA, Option.some.injEq] at he
    subst he
    exact ⟨vs, rfl, h⟩
  | (i, x) :: rest, (i', v) :: vals, cells, vs, out, h, hl, hp, he => by
    obtain ⟨hi, hv⟩ := hp 0 _ _ rfl rfl
    simp only at hi hv
    subst hi
    simp only [fillA] at he
    cases hpl : place i with
    | none => simp [hpl] at he
    | some os =>
      obtain ⟨off, size⟩ := os
      cases hcs : cellsA x with
      | none => simp [hpl, hcs] at he
      | some cs =>
        simp only [hpl, hcs] at he
        split at he
        · rename_i hx
          have hc := cellsA_V hcs hv
          have hcl := hc.1
          have hsz := h.1
          obtain ⟨us, hu, hcv⟩ := fillA_V place rest vals _ _ out (CV_lay h hc hx.2) (by simpa using hl) (fun k p q a b => hp (k + 1) p q (by simpa using a) (by simpa using b)) he
          refine ⟨us, ?_, hcv⟩
          simp only [Instr.fill, hpl]
          have h3 : (decide (v.cells.size ≠ size) || decide (off + v.cells.size > vs.size)) = false := by simp; omega
          rw [h3]
          exact hu
        · cases he
  | [], _ :: _, _, _, _, _, hl, _, _ => by simp at hl
  | _ :: _, [], _, _, _, _, hl, _, _ => by simp at hl
end

/-- The places of a struct's fields: cell, size. -/
def flds (P : Program) (t : TypeId) : Option (List (Nat × Nat)) :=
  match P.underlying t with
  | some (.struct fs) => fs.toList.mapM fun f => (P.info? f.type).map fun i => (f.offset, i.size)
  | _ => none

def tsz (P : Program) (t : TypeId) : Option Nat := (P.info? t).map (·.size)
def tby (P : Program) (t : TypeId) : Option Nat := (P.info? t).map (·.bytes)
def tz (P : Program) (t : TypeId) : Option Value := (P.info? t).bind (·.zero)
def tagg (P : Program) (t : TypeId) : Option Bool := (P.underlying t).map fun | .struct _ | .array _ _ => true | _ => false
def tel (P : Program) (t : TypeId) : Option TypeId := match P.underlying t with | some (.slice e) => some e | _ => none
def tarr (P : Program) (t : TypeId) : Option (Nat × TypeId) := match P.underlying t with | some (.array n e) => some (n, e) | _ => none
/-- A field's place, whether it is a struct or an array, its size. -/
def tfld (P : Program) (s : TypeId) (f : Nat) : Option (Nat × Bool × Nat) := match P.underlying s with | some (.struct fs) => (fs[f]?).bind fun g => (tagg P g.type).bind fun a => (tsz P g.type).map fun z => (g.offset, a, z) | _ => none
def tint (P : Program) (t : TypeId) : Option IntKind := match P.underlying t with | some (.int k) => some k | _ => none
def tmp (P : Program) (t : TypeId) : Option (TypeId × TypeId) := match P.underlying t with | some (.map k e) => some (k, e) | _ => none

section
variable {P : Program} (w : World)

theorem run_sizeOf {t : TypeId} {n : Nat} (h : tsz P t = some n) : (sizeOf t).run P w = .ok n w := by
  obtain ⟨i, hi, rfl⟩ := Option.map_eq_some_iff.1 h
  simp [sizeOf, typeInfo, hi]

theorem run_zeroValue {t : TypeId} {z : Value} (h : tz P t = some z) : (zeroValue t).run P w = .ok z w := by
  obtain ⟨i, hi, hz⟩ := Option.bind_eq_some_iff.1 h
  simp [zeroValue, typeInfo, hi, hz]

theorem run_isAgg {t : TypeId} {x : Bool} (h : tagg P t = some x) : (isAgg t).run P w = .ok x w := by
  obtain ⟨d, hd, hx⟩ := Option.map_eq_some_iff.1 h
  subst hx
  cases d <;> simp [isAgg, run_underlying hd]

theorem run_mapM_fields : ∀ (fs : List Field) (ps : List (Nat × Nat)), (fs.mapM fun f => (P.info? f.type).map fun i => (f.offset, i.size)) = some ps →
    (fs.mapM (m := Sem) fun f => do pure (f.offset, ← sizeOf f.type)).run P w = .ok ps w
  | [], ps, h => by simp at h; subst h; simp
  | f :: fs, ps, h => by
    simp only [List.mapM_cons, Option.bind_eq_bind, Option.bind_eq_some_iff, Option.pure_def, Option.some.injEq] at h
    obtain ⟨p, hp, r, hr, rfl⟩ := h
    obtain ⟨i, hi, rfl⟩ := Option.map_eq_some_iff.1 hp
    have ih := run_mapM_fields fs r hr
    simp only [List.mapM_cons, Sem.run_bind, run_sizeOf w (show tsz P f.type = some i.size by simp [tsz, hi]), Result.andThen_ok, Sem.run_pure, ih]

theorem run_flds {t : TypeId} {ps : List (Nat × Nat)} (h : flds P t = some ps) : ∃ fs, P.underlying t = some (.struct fs) ∧
    (fs.mapM (m := Sem) fun f => do pure (f.offset, ← sizeOf f.type)).run P w = .ok ps.toArray w ∧ (fs.toList.mapM fun f => (P.info? f.type).map fun i => (f.offset, i.size)) = some ps := by
  unfold flds at h
  split at h
  · rename_i fs hu
    refine ⟨fs, hu, ?_, h⟩
    rw [Array.mapM_eq_mapM_toList, Sem.run_map, run_mapM_fields w _ _ h]
    rfl
  · cases h
end

end Go.Am
