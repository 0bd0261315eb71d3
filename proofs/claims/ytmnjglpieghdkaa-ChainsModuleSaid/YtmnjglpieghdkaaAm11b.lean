/- The abstract machine, part 11b: maps of the call's own; writing into a block; calls that write into one block. No condition. -/
import Derived.Test.YtmnjglpieghdkaaAm11
namespace Go.Am
open RowKit (Below)

def mfind (n : Int) : List (Int × AV) → Option Nat
  | [] => none
  | x :: es => if x.1 = n then some 0 else (mfind n es).map (· + 1)

def mlook (es : List (Int × AV)) (n : Int) : Option AV := (mfind n es).bind fun j => (es[j]?).map (·.2)
def mput (es : List (Int × AV)) (n : Int) (v : AV) : List (Int × AV) := match mfind n es with | some j => es.set j (n, v) | none => es ++ [(n, v)]
def mdel (es : List (Int × AV)) (n : Int) : List (Int × AV) := match mfind n es with | some j => es.eraseIdx j | none => es

section
variable {P : Program} {F : Nat → Prop} {w : World} {ι : Nat → Option Nat} {G : Ctx} {C : Nat → Prop} {H K : Nat → Option HO}

theorem findNow_abs {k : IntKind} {n : Int} : ∀ (es : List (Int × AV)) (l : List MapEntry) (i : Nat), es.length = l.length → (∀ (j : Nat) x, es[j]? = some x → ∃ en, l[j]? = some en ∧ en.key = .int k x.1) →
    Instr.findNow (.int k) (.int k n) l i = some ((mfind n es).bind fun j => (l[j]?).map fun en => (i + j, en.val))
  | [], [], i, _, _ => rfl
  | x :: es, e :: l, i, hl, h => by
    obtain ⟨en, h1, h2⟩ := h 0 x rfl
    simp only [List.getElem?_cons_zero, Option.some.injEq] at h1; subst h1
    have ih := findNow_abs (k := k) (n := n) es l (i + 1) (by simpa using hl) fun j y hy => h (j + 1) y (by simpa using hy)
    unfold Instr.findNow mfind
    rw [h2]
    by_cases hx : x.1 = n
    · simp [Instr.sameNow, hx]
    · have hne : (n == x.1) = false := by simp; exact fun e => hx e.symm
      simp only [Instr.sameNow, if_true, hne, if_neg hx, ih]
      cases mfind n es with
      | none => rfl
      | some j => simp [Nat.add_assoc, Nat.add_comm 1 j]

theorem mfind_lt {n : Int} : ∀ {es : List (Int × AV)} {j : Nat}, mfind n es = some j → ∃ v, es[j]? = some (n, v)
  | x :: es, j, h => by
    unfold mfind at h
    split at h
    · rename_i hx; injection h with h; subst h; exact ⟨x.2, by simp [← hx]⟩
    · obtain ⟨i, hi, rfl⟩ := Option.map_eq_some_iff.1 h
      obtain ⟨v, hv⟩ := mfind_lt hi
      exact ⟨v, by simpa using hv⟩
  | [], j, h => by cases h

theorem mfind_none {n : Int} : ∀ {es : List (Int × AV)}, mfind n es = none → ∀ (j : Nat) x, es[j]? = some x → x.1 ≠ n
  | [], _, j, x, h => by simp at h
  | y :: es, hn, j, x, h => by
    unfold mfind at hn
    split at hn
    · cases hn
    · rename_i hy
      have hn' := Option.map_eq_none_iff.1 hn
      rcases j with _ | j
      · simp at h; subst h; exact hy
      · exact mfind_none hn' j x (by simpa using h)

theorem tmp_und {t : TypeId} {p : TypeId × TypeId} (h : tmp P t = some p) : P.underlying t = some (.map p.1 p.2) := by
  unfold tmp at h; split at h
  · injection h with h; subst h; assumption
  · cases h

theorem HR.mapOf (hR : HR G F w ι C K) (hHK : ∀ id o, H id = some o → K id = some o) {id b : Nat} (hι : ι id = some b) {k : IntKind} {es : List (Int × AV)} (hH : H id = some (.map k es)) :
    ∃ ents clock, w.heap[b]? = some (.map ents clock) ∧ es.length = ents.size ∧ MapKept.Stamped ents clock ∧ (∀ (j : Nat) x, es[j]? = some x → ∃ en, ents[j]? = some en ∧ en.key = .int k x.1 ∧ V F w ι x.2 en.val) := by
  obtain ⟨ob, h2, h3⟩ := hR.obj id b _ hι (hHK _ _ hH)
  cases h3 with | map _ _ ents clock hl hst h => exact ⟨ents, clock, h2, hl, hst, h⟩

theorem keys_all {k : IntKind} {es : List (Int × AV)} {ents : Array MapEntry} (hl : es.length = ents.size) (h : ∀ (j : Nat) x, es[j]? = some x → ∃ en, ents[j]? = some en ∧ en.key = .int k x.1 ∧ V F w ι x.2 en.val) :
    ∀ x ∈ ents.toList, MapKept.IsKey (.int k) x.key := by
  intro x hx
  obtain ⟨j, hj, rfl⟩ := List.mem_iff_getElem.1 hx
  have hj' : j < es.length := by simpa [hl] using hj
  obtain ⟨en, h1, h2, _⟩ := h j _ (List.getElem?_eq_getElem hj')
  have hj2 : j < ents.size := by omega
  rw [Array.getElem?_eq_getElem hj2] at h1
  injection h1 with h1
  simp only [Array.getElem_toList]
  rw [h1, h2]; rfl

/-- A map's element. -/
def lookA (P : Program) (H : Nat → Option HO) (t : TypeId) (m x : AV) (ok : Bool) : Option AV :=
  match m with
  | .mp id => match H id with
    | some (.map k es) => (tmp P t).bind fun p => match x with
      | .d (.i k' n) => if k' = k ∧ tint P p.1 = some k then
          match mlook es n with
          | some v => some (if ok then .tp [v, .d (.b true)] else v)
          | none => (tz P p.2).map fun z => if ok then .tp [cv z, .d (.b false)] else cv z
        else none
      | _ => none
    | _ => none
  | _ => none

theorem lookA_V (hR : HR G F w ι C K) (hHK : ∀ id o, H id = some o → K id = some o) {t : TypeId} {m x r : AV} {ok : Bool} {u v : Value} (h : lookA P H t m x ok = some r) (hm : V F w ι m u) (hx : V F w ι x v) :
    ∃ z, (Instr.lookup t u v ok).run P w = .ok z w ∧ V F w ι r z := by
  unfold lookA at h
  split at h
  case h_2 => cases h
  rename_i id
  cases hm with | mp _ b hι =>
  split at h
  case h_2 => cases h
  rename_i k es hH
  obtain ⟨p, hp, hq⟩ := Option.bind_eq_some_iff.1 h
  clear h
  have h := hq
  clear hq
  split at h
  case h_2 => cases h
  rename_i k' n
  split at h
  case isFalse => cases h
  rename_i hk
  obtain ⟨rfl, hk⟩ := hk
  cases hx with | d _ _ hx => cases hx with | i =>
  obtain ⟨ents, clock, hb, hl, hst, hes⟩ := hR.mapOf hHK hι hH
  have hu := tmp_und hp
  have hf := findNow_abs (k := k') (n := n) es ents.toList 0 (by simpa using hl) fun j x hx => let ⟨en, h1, h2, _⟩ := hes j x hx; ⟨en, by simpa using h1, h2⟩
  have hki : P.underlying p.1 = some (.int k') := by
    unfold tint at hk; split at hk
    · injection hk with hk; subst hk; assumption
    · cases hk
  have hck := MapKept.run_checkKey (P := P) (w := w) (k := .int k' n) hki (by simp [MapKept.IsKey]) ents.isEmpty 9999
  have hfk := MapKept.run_findKey (P := P) (w := w) hki hf
  split at h
  · rename_i v hv
    injection h with h; subst h
    unfold mlook at hv
    obtain ⟨j, hj, hv⟩ := Option.bind_eq_some_iff.1 hv
    obtain ⟨y, hy, rfl⟩ := Option.map_eq_some_iff.1 hv
    obtain ⟨en, h1, h2, h3⟩ := hes j y hy
    have h1' : ents.toList[j]? = some en := by simpa using h1
    rw [hj] at hfk
    simp only [Option.bind_some, h1', Option.map_some, Nat.zero_add] at hfk
    refine ⟨if ok then .tuple #[en.val, .bool true] else en.val, ?_, ?_⟩
    · cases ok <;> simp [Instr.lookup, run_underlying hu, MapKept.run_getObj_map hb, hck, hfk]
    · cases ok
      · exact h3
      · refine .tp _ _ (by simp) fun i c q hc hq => ?_
        rcases i with _ | _ | i
        · simp at hc hq; subst hc; subst hq; exact h3
        · simp at hc hq; subst hc; subst hq; exact .d _ _ (.b _)
        · simp at hc
  · rename_i hv
    obtain ⟨z, hz, rfl⟩ := Option.map_eq_some_iff.1 h
    have hn : mfind n es = none := by
      cases hj : mfind n es with
      | none => rfl
      | some j =>
        obtain ⟨y, hy⟩ := mfind_lt hj
        simp [mlook, hj, hy] at hv
    rw [hn] at hfk
    simp only [Option.bind_none] at hfk
    refine ⟨if ok then .tuple #[z, .bool false] else z, ?_, ?_⟩
    · cases ok <;> simp [Instr.lookup, run_underlying hu, MapKept.run_getObj_map hb, hck, hfk, run_zeroValue w hz]
    · cases ok
      · exact V_cv z
      · refine .tp _ _ (by simp) fun i c q hc hq => ?_
        rcases i with _ | _ | i
        · simp at hc hq; subst hc; subst hq; exact V_cv z
        · simp at hc hq; subst hc; subst hq; exact .d _ _ (.b _)
        · simp at hc

/-- One block turns, new blocks of data may come. -/
theorem HR.write (hR : HR G F w ι C K) {id b : Nat} {w' : World} {ob ob' : Obj} {old ho : HO} {K' : Nat → Option HO} (hC : ¬ C id) (hι : ι id = some b) (hold : K id = some old) (hlen : ho.len = old.len)
    (hk : Kept (· = b) w.heap.size w w') (hb : w.heap[b]? = some ob) (hb' : w'.heap[b]? = some ob')
    (hshape : ∀ cur e, ob = .cells cur e (0, 0) → ∃ cur', ob' = .cells cur' e (0, 0) ∧ cur'.size = cur.size)
    (hcr : Step F w ι (fun k => F k ∨ (w.heap.size ≤ k ∧ k < w'.heap.size)) w' ι → CR (fun k => F k ∨ (w.heap.size ≤ k ∧ k < w'.heap.size)) w' ι ho ob')
    (hK' : K' id = some ho) (hsub : ∀ j o, j ≠ id → K' j = some o → K j = some o ∧ ¬ C j) :
    HR G (fun k => F k ∨ (w.heap.size ≤ k ∧ k < w'.heap.size)) w' ι C K' ∧ Step F w ι (fun k => F k ∨ (w.heap.size ≤ k ∧ k < w'.heap.size)) w' ι := by
  have hnF : ¬ F b := (hR.place id b hι).2.2 hC
  have hoth : ∀ k, k < w.heap.size → k ≠ b → w'.heap[k]? = w.heap[k]? := fun k hk1 hk2 => hk.block k hk1 hk2
  have hst : Step F w ι (fun k => F k ∨ (w.heap.size ≤ k ∧ k < w'.heap.size)) w' ι := by
    refine ⟨fun _ h => .inl h, fun k hkF => hoth k (hR.F_lt k hkF) (fun e => hnF (e ▸ hkF)), fun _ _ h => h, fun i k c0 e0 hi hk0 => ?_⟩
    by_cases hkb : k = b
    · subst hkb
      rw [hb] at hk0; injection hk0 with hk0
      obtain ⟨cur', h1, h2⟩ := hshape c0 e0 hk0
      exact ⟨cur', by rw [hb', h1], h2⟩
    · exact ⟨c0, (hoth k (hR.ι_lt hi) hkb).trans hk0, rfl⟩
  have hW : G.W.heap.size ≤ w.heap.size := hR.kept.size
  have hsz := hk.size
  refine ⟨⟨hR.kept.trans ⟨hk.os, hk.tape, hk.output, hk.size, fun k hkW hm => hoth k (by omega) fun e => ?_⟩, ?_, ?_, ?_, ?_, hR.inj, ?_⟩, hst⟩
  · subst e
    rcases (hR.place id k hι).1 with h | h
    · exact hm h
    · omega
  · rintro k (h | h)
    · have := hR.F_lt k h; omega
    · exact h.2
  · rintro k (h | h)
    · exact hR.F_ok k h
    · exact .inr (.inr (by omega))
  · intro i k hi
    obtain ⟨p1, p2, p3⟩ := hR.place i k hi
    exact ⟨p1, by omega, fun hc h => h.elim (p3 hc) fun h => by omega⟩
  · intro i k o' hi ho'
    by_cases hid : i = id
    · subst hid
      rw [hι] at hi; injection hi with hi; subst hi
      rw [hK'] at ho'; injection ho' with ho'; subst ho'
      exact ⟨ob', hb', hcr hst⟩
    · obtain ⟨hk1, hk2⟩ := hsub i o' hid ho'
      obtain ⟨ob2, h2, h3⟩ := hR.obj i k o' hi hk1
      refine ⟨ob2, (hoth k (hR.ι_lt hi) fun e => ?_).trans h2, h3.step hst⟩
      subst e
      exact hid (hR.inj i id k hi hι hk2 hC)
  · intro i i' k o1 o2 hi hi' hc h1 h2
    have hk1 : ∃ q1, K i = some q1 ∧ q1.len = o1.len := by
      by_cases hid : i = id
      · subst hid; rw [hK'] at h1; injection h1 with h1; subst h1; exact ⟨_, hold, hlen.symm⟩
      · exact ⟨o1, (hsub i o1 hid h1).1, rfl⟩
    have hk2 : ∃ q2, K i' = some q2 ∧ q2.len = o2.len := by
      by_cases hid : i' = id
      · subst hid; rw [hK'] at h2; injection h2 with h2; subst h2; exact ⟨_, hold, hlen.symm⟩
      · exact ⟨o2, (hsub i' o2 hid h2).1, rfl⟩
    obtain ⟨q1, e1, l1⟩ := hk1
    obtain ⟨q2, e2, l2⟩ := hk2
    rw [← l1, ← l2]
    exact hR.len i i' k q1 q2 hi hi' hc e1 e2

/-- What a map becomes by an assignment or a deletion. -/
def mapW (P : Program) (H : Nat → Option HO) (t : TypeId) (m x : AV) (v : Option AV) : Option (Nat × HO) :=
  match m with
  | .mp id => match H id with
    | some (.map k es) => (tmp P t).bind fun p => match x with
      | .d (.i k' n) => if k' = k ∧ tint P p.1 = some k then some (id, .map k (match v with | some v => mput es n v | none => mdel es n)) else none
      | _ => none
    | _ => none
  | _ => none

theorem mput_CR {F' : Nat → Prop} {w' : World} {k : IntKind} {n : Int} {v : AV} {u : Value} {es : List (Int × AV)} {ents : Array MapEntry} {clock : Nat} (hst : MapKept.Stamped ents clock) (hl : es.length = ents.size)
    (hes : ∀ (j : Nat) x, es[j]? = some x → ∃ en, ents[j]? = some en ∧ en.key = .int k x.1 ∧ V F' w' ι x.2 en.val) (hv : V F' w' ι v u) :
    CR F' w' ι (.map k (mput es n v)) (match mfind n es with
      | some j => .map (ents.modify j fun e => { e with key := .int k n, val := u }) clock
      | none => .map (ents.push { key := .int k n, val := u, born := clock }) (clock + 1)) := by
  unfold mput
  cases hj : mfind n es with
  | some j =>
    obtain ⟨v0, hj0⟩ := mfind_lt hj
    obtain ⟨e0, q1, q2, _⟩ := hes j _ hj0
    have hjl : j < ents.size := (Array.getElem?_eq_some_iff.1 q1).1
    refine .map _ _ _ _ (by simp [hl]) (MapKept.stamped_modify hst _ _ (fun _ _ => rfl) fun e' _ he' => ?_) fun i x hx => ?_
    · rw [q1] at he'; cases he'; exact q2.symm
    · simp only at hx
      rw [List.getElem?_set] at hx
      by_cases hij : j = i
      · subst hij
        have : j < es.length := by omega
        simp only [if_true, this, Option.some.injEq] at hx
        subst hx
        exact ⟨{ e0 with key := .int k n, val := u }, by simp [Array.getElem?_modify, q1], rfl, hv⟩
      · rw [if_neg hij] at hx
        obtain ⟨en, h1, h2, h3⟩ := hes i x hx
        exact ⟨en, by simp [Array.getElem?_modify, hij, h1], h2, h3⟩
  | none =>
    refine .map _ _ _ _ (by simp [hl]) (MapKept.stamped_push hst fun x hx => ?_) fun i x hx => ?_
    · obtain ⟨i, hi, rfl⟩ := List.mem_iff_getElem.1 hx
      have hi' : i < es.length := by simpa [hl] using hi
      obtain ⟨en, h1, h2, _⟩ := hes i _ (List.getElem?_eq_getElem hi')
      have hi2 : i < ents.size := by omega
      rw [Array.getElem?_eq_getElem hi2] at h1; injection h1 with h1
      simp only [Array.getElem_toList]
      rw [h1, h2]
      intro he; injection he with _ he
      exact mfind_none hj i _ (List.getElem?_eq_getElem hi') he
    · rw [List.getElem?_append] at hx
      split at hx
      · rename_i hi
        obtain ⟨en, h1, h2, h3⟩ := hes i x hx
        exact ⟨en, by rw [Array.getElem?_push, if_neg (by omega)]; exact h1, h2, h3⟩
      · rename_i hi
        have hi0 : i = es.length := by
          have := (List.getElem?_eq_some_iff.1 hx).1
          simp at this; omega
        subst hi0
        simp at hx; subst hx
        exact ⟨_, by rw [Array.getElem?_push, if_pos hl], rfl, hv⟩

theorem mdel_CR {F' : Nat → Prop} {w' : World} {k : IntKind} {n : Int} {es : List (Int × AV)} {ents : Array MapEntry} {clock : Nat} (hst : MapKept.Stamped ents clock) (hl : es.length = ents.size)
    (hes : ∀ (j : Nat) x, es[j]? = some x → ∃ en, ents[j]? = some en ∧ en.key = .int k x.1 ∧ V F' w' ι x.2 en.val) :
    CR F' w' ι (.map k (mdel es n)) (match mfind n es with
      | some j => .map (ents.eraseIdxIfInBounds j) clock
      | none => .map ents clock) := by
  unfold mdel
  cases hj : mfind n es with
  | some j =>
    obtain ⟨v0, hj0⟩ := mfind_lt hj
    have hjl : j < es.length := (List.getElem?_eq_some_iff.1 hj0).1
    have hjl' : j < ents.size := by omega
    refine .map _ _ _ _ (by simp [List.length_eraseIdx, Array.eraseIdxIfInBounds, hjl, hjl', hl]) (MapKept.stamped_erase hst _) fun i x hx => ?_
    simp only at hx
    rw [List.getElem?_eraseIdx] at hx
    have he : (ents.eraseIdxIfInBounds j)[i]? = if i < j then ents[i]? else ents[i + 1]? := by
      simp only [Array.eraseIdxIfInBounds, dif_pos hjl']
      rw [Array.getElem?_eraseIdx]
    rw [he]
    split at hx
    · rename_i h; rw [if_pos h]; exact hes i x hx
    · rename_i h; rw [if_neg h]; exact hes (i + 1) x hx
  | none => exact .map _ _ _ _ hl hst hes

variable {Γ : Nat → AV} {o : Oper}

theorem set_kept {b : Nat} {ob : Obj} (ob' : Obj) (hb : w.heap[b]? = some ob) : Kept (· = b) w.heap.size w { w with heap := w.heap.setIfInBounds b ob' } :=
  ⟨rfl, rfl, rfl, by simp, fun k _ hk => (MapKept.heap_set hb).2 k hk⟩

theorem y_mapw {t : TypeId} {m x : Operand} {v : Option Operand} {id : Nat} {ho : HO} {K' : Nat → Option HO}
    (hop_ : (∃ y, v = some y ∧ o.op = .mapUpdate t m x y) ∨ (v = none ∧ ∃ kt, o.op = .call { callee := .builtin .delete, args := #[m, x], argTypes := #[t, kt] })) (hHK : ∀ id ob, H id = some ob → K id = some ob)
    (h : mapW P H t (oev Γ m) (oev Γ x) (v.map (oev Γ)) = some (id, ho)) (hC : ¬ C id) (hK' : K' id = some ho) (hsub : ∀ j o, j ≠ id → K' j = some o → K j = some o ∧ ¬ C j) :
    Y P G o Γ C K K' .any none' none' := by
  intro F w ι a hR hop _ next Q hnext
  have om : V F w ι (oev Γ m) (a.eval m) := V_oev fun t e => hop t (by rcases hop_ with ⟨y, _, h⟩ | ⟨_, kt, h⟩ <;> rw [h] <;> simp [Op.operands, Call.operands, e])
  have ox : V F w ι (oev Γ x) (a.eval x) := V_oev fun t e => hop t (by rcases hop_ with ⟨y, _, h⟩ | ⟨_, kt, h⟩ <;> rw [h] <;> simp [Op.operands, Call.operands, e])
  unfold mapW at h
  split at h
  case h_2 => cases h
  rename_i id' hm
  rw [hm] at om
  generalize hme : a.eval m = vm at om
  cases om with | mp _ b hι =>
  split at h
  case h_2 => cases h
  rename_i k es hH
  obtain ⟨p, hp, hq⟩ := Option.bind_eq_some_iff.1 h
  clear h
  have h := hq
  clear hq
  split at h
  case h_2 => cases h
  rename_i k' n hxx
  split at h
  case isFalse => cases h
  rename_i hk
  obtain ⟨rfl, hk⟩ := hk
  injection h with h; injection h with e1 e2; subst e1; subst e2
  rw [hxx] at ox
  generalize hxe : a.eval x = vx at ox
  cases ox with | d _ _ ox => cases ox with | i =>
  obtain ⟨ents, clock, hb, hl, hst, hes⟩ := hR.mapOf hHK hι hH
  have hu := tmp_und hp
  have hf := findNow_abs (k := k') (n := n) es ents.toList 0 (by simpa using hl) fun j x hx => let ⟨en, h1, h2, _⟩ := hes j x hx; ⟨en, by simpa using h1, h2⟩
  have hki : P.underlying p.1 = some (.int k') := by
    unfold tint at hk; split at hk
    · injection hk with hk; subst hk; assumption
    · cases hk
  have hks := keys_all (F := F) (w := w) (ι := ι) hl hes
  have hik : MapKept.IsKey (.int k') (.int k' n) := by simp [MapKept.IsKey]
  have hck := fun e => MapKept.run_checkKey (P := P) (w := w) (k := .int k' n) hki hik e 9999
  have hfk := MapKept.run_findKey (P := P) (w := w) hki hf
  have key : ∀ (ob' : Obj), o.upon P a next Q ((execOp a.eval o).run P w) = next (a.put o.dst (match v with | some _ => undef | none => .tuple #[])) { w with heap := w.heap.setIfInBounds b ob' } →
      (∀ F' w', Step F w ι F' w' ι → CR F' w' ι (.map k' (match v.map (oev Γ) with | some v => mput es n v | none => mdel es n)) ob') → o.wp P a w next Q := by
    intro ob' hrun hcr
    unfold Oper.wp
    rw [hrun]
    obtain ⟨hR', hst'⟩ := hR.write (K' := K') (ob' := ob') (ho := .map k' (match v.map (oev Γ) with | some v => mput es n v | none => mdel es n)) (old := .map k' es) hC hι (hHK _ _ hH) rfl (set_kept ob' hb) hb (MapKept.heap_set hb).1
      (fun cur e he => by cases he) (fun hs => hcr _ _ hs) hK' hsub
    exact hnext _ _ ι _ (hR'.congrC fun id => by simp [none']) hst' (fun _ _ h => .inl h) (fun _ h => h.elim) (.any _)
  rcases hop_ with ⟨y, rfl, hop1⟩ | ⟨rfl, kt, hop1⟩
  · have oy : V F w ι (oev Γ y) (a.eval y) := V_oev fun t e => hop t (by rw [hop1]; simp [Op.operands, e])
    refine key _ ?_ fun F' w' hs => mput_CR (n := n) (u := a.eval y) hst hl (fun j x hx => let ⟨en, h1, h2, h3⟩ := hes j x hx; ⟨en, h1, h2, h3.step hs⟩) (oy.step hs)
    cases hj : mfind n es with
    | some j =>
      obtain ⟨v0, hj0⟩ := mfind_lt hj
      obtain ⟨e0, q1, q2, _⟩ := hes j _ hj0
      have q1' : ents.toList[j]? = some e0 := by simpa using q1
      rw [hj] at hfk
      simp only [Option.bind_some, q1', Option.map_some, Nat.zero_add] at hfk
      simp [execOp, hop1, hme, hxe, Instr.mapUpdate, run_underlying hu, MapKept.run_getObj_map hb, hck, hfk, q1, q2, MapKept.run_keyThatStays hik, MapKept.run_setObj_map _ hb, Oper.upon_skip]
    | none =>
      rw [hj] at hfk
      simp only [Option.bind_none] at hfk
      simp [execOp, hop1, hme, hxe, Instr.mapUpdate, run_underlying hu, MapKept.run_getObj_map hb, hck, hfk, MapKept.run_setObj_map _ hb, Oper.upon_skip]
  · refine key _ ?_ fun F' w' hs => mdel_CR (n := n) hst hl (fun j x hx => let ⟨en, h1, h2, h3⟩ := hes j x hx; ⟨en, h1, h2, h3.step hs⟩)
    cases hj : mfind n es with
    | some j =>
      obtain ⟨v0, hj0⟩ := mfind_lt hj
      obtain ⟨e0, q1, q2, _⟩ := hes j _ hj0
      have q1' : ents.toList[j]? = some e0 := by simpa using q1
      rw [hj] at hfk
      simp only [Option.bind_some, q1', Option.map_some, Nat.zero_add] at hfk
      simp [execOp, hop1, resolve, invoke, builtin, hme, hxe, Builtin.delete_, run_underlying hu, MapKept.run_getObj_map hb, hck, hfk, MapKept.run_setObj_map _ hb, Oper.upon_value]
    | none =>
      rw [hj] at hfk
      simp only [Option.bind_none] at hfk
      simp [execOp, hop1, resolve, invoke, builtin, hme, hxe, Builtin.delete_, run_underlying hu, MapKept.run_getObj_map hb, hck, hfk, MapKept.run_setObj_map _ hb, Oper.upon_value]
end

end Go.Am
