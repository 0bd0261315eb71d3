/- The abstract machine, part 13: from the abstract run of a region to the model's. No condition. -/
import Derived.Test.YtmnjglpieghdkaaAm12
namespace Go.Am

def free2 (P : Program) (ops : Array Oper) (listed : Array Bool) (i : Nat) : Bool :=
  match ops[i]? with
  | none => false
  | some oi => (List.range ops.size).all fun j => j == i || listed.getD j true || match ops[j]? with
      | some oj => oj.after.any (fun e => Region.binds .any e && e.on == i) || apart2 P ops oi oj || dep ops 6 j i
      | none => true

def lexFrom2 (P : Program) (ops : Array Oper) : Nat → Nat → Array Bool → Bool
  | 0, _, listed => (Region.ready .any ops listed).isEmpty
  | fuel + 1, k, listed => (Region.ready .any ops listed).contains k && free2 P ops listed k && lexFrom2 P ops fuel (k + 1) (listed.setIfInBounds k true)

/-- The text's order is one of those that the edges allow, and stands for all. -/
def lexB2 (P : Program) (ops : Array Oper) : Bool := lexFrom2 P ops ops.size 0 (Array.replicate ops.size false)

section
variable {P : Program} {G : Ctx} {ops : Array Oper}

theorem free2_spec {i : Nat} {oi : Oper} {listed : Array Bool} (hi : ops[i]? = some oi) (h : free2 P ops listed i = true) (j : Nat) (oj : Oper)
    (hj : ops[j]? = some oj) (hne : j ≠ i) (hun : listed.getD j true = false) (hno : ∀ e ∈ oj.after, Region.binds .any e = true → e.on ≠ i) (hnd : dep ops 6 j i = false) : apart2 P ops oi oj = true := by
  simp only [free2, hi, List.all_eq_true, List.mem_range] at h
  have h1 := h j (Array.getElem?_eq_some_iff.1 hj).1
  simp only [hj, Bool.or_eq_true, beq_iff_eq, hne, false_or, hun, Bool.false_eq_true, hnd, or_false] at h1
  rcases h1 with h1 | h1
  · obtain ⟨e, he, hb⟩ := Array.any_eq_true'.1 h1
    simp only [Bool.and_eq_true, beq_iff_eq] at hb
    exact absurd hb.2 (hno e he hb.1)
  · exact h1

def aLex (P : Program) (G : Ctx) (ops : Array Oper) (Q : AS → Prop) : List Oper → AS → Prop
  | [], s => Q s
  | o :: l, s => ∃ s', Does P G ops o s s' ∧ aLex P G ops Q l s'

theorem aAny_lex {Q : AS → Prop} : ∀ (l : List Oper) (k : Nat) (listed : Array Bool) (s : AS), Dc ops listed → (∀ j, l[j]? = ops[k + j]?) → lexFrom2 P ops l.length k listed = true → aLex P G ops Q l s → aAny P G ops Q l.length listed s
  | [], _, _, _, _, _, hB, h => ⟨by simpa [lexFrom2] using hB, h⟩
  | o :: l, k, listed, s, hdc, hl, hB, h => by
    have h0 : ops[k]? = some o := by simpa using (hl 0).symm
    simp only [List.length_cons, lexFrom2, Bool.and_eq_true] at hB
    obtain ⟨⟨hr, hf⟩, hB'⟩ := hB
    obtain ⟨s', hd, hK⟩ := h
    exact aAny_first h0 l.length listed s s' hdc (free2_spec h0 hf) (by simpa using hr) hd
      (aAny_lex l (k + 1) _ _ (Dc_set hdc (by simpa using hr)) (fun j => by have := hl (j + 1); simpa [Nat.add_assoc, Nat.add_comm 1 j] using this) hB' hK)

/-- The abstract state stands for this frame and world. -/
def RelS (G : Ctx) (N : Nat) (ds : List Deferred) (s : AS) (a : Act) (w : World) : Prop :=
  ∃ F ι, HR G F w ι s.T s.K ∧ (∀ id, (∃ b, ι id = some b) ↔ s.U id) ∧ (∀ t, V F w ι (s.Γ t) (a.tmps.getD t undef)) ∧ a.tmps.size = N ∧ a.defers = ds ∧ ∀ b, ι 0 = some b → G.P0 b

theorem getD_put (a : Act) (dst : Option Tmp) (u : Value) (h : ∀ d, dst = some d → d < a.tmps.size) (t : Nat) : (a.put dst u).tmps.getD t undef = if dst = some t then u else a.tmps.getD t undef := by
  cases dst with
  | none => simp [Act.put]
  | some d =>
    have hd := h d rfl
    simp only [Act.put, Array.getD_eq_getD_getElem?, Option.some.injEq]
    by_cases e : d = t
    · subst e; rw [if_pos rfl, Array.getElem?_setIfInBounds_self_of_lt hd]; rfl
    · rw [if_neg e, Array.getElem?_setIfInBounds_ne e]

theorem wanted_of {o : Oper} {Γ : Nat → AV} {F : Nat → Prop} {w : World} {ι : Nat → Option Nat} {a : Act} {x : Bool} (h : wantedA ops o Γ = some x) (hV : ∀ t, V F w ι (Γ t) (a.tmps.getD t undef)) :
    Region.wanted o (yielded ops a.tmps) = x := by
  unfold wantedA at h
  unfold Region.wanted
  cases hg : o.guard with
  | none => simp only [hg] at h; injection h
  | some gw =>
    obtain ⟨j, want⟩ := gw
    simp only [hg] at h ⊢
    unfold yielded
    cases hd : (ops[j]?).bind (·.dst) with
    | none => simp only [hd, Option.some.injEq] at h; rw [← h]; cases want <;> rfl
    | some d =>
      simp only [hd] at h
      have hv := hV d
      simp only [Option.bind_some]
      rw [Array.getD_eq_getD_getElem?] at hv
      split at h
      · rename_i y hy
        injection h with h; subst h
        rw [hy] at hv
        cases ht : a.tmps[d]? with
        | none => rw [ht] at hv; simp only [Option.getD_none] at hv; cases hv with | d _ _ hv => cases hv
        | some v =>
          rw [ht] at hv; simp only [Option.getD_some] at hv
          cases hv with | d _ _ hv => cases hv with | b =>
          cases y <;> cases want <;> rfl
      · rename_i hy
        injection h with h; subst h
        rw [hy] at hv
        cases ht : a.tmps[d]? with
        | none => rfl
        | some v =>
          rw [ht] at hv; simp only [Option.getD_some] at hv
          generalize hu : v = v' at hv
          cases hv; rfl
      · cases h

theorem does_sound {N : Nat} {ds : List Deferred} {o : Oper} {s s' : AS} {a : Act} {w : World} {K : Act → World → Prop} {Q' : Exit → Act → World → Prop} (hd : Does P G ops o s s') (hdst : ∀ d, o.dst = some d → d < N) (hrel : RelS G N ds s a w)
    (hK : ∀ a' w', RelS G N ds s' a' w' → K a' w') : if Region.wanted o (yielded ops a.tmps) then o.wp P a w K Q' else K (a.put o.dst undef) w := by
  obtain ⟨F, ι, hR, hdom, hV, hN, hds, hp⟩ := hrel
  have hputN : ∀ u, (a.put o.dst u).tmps.size = N := fun u => by cases o.dst <;> simp [Act.put, hN]
  have hputd : ∀ u, (a.put o.dst u).defers = ds := fun u => by cases o.dst <;> simp [Act.put, hds]
  cases hd with
  | no hw =>
    rw [wanted_of hw hV, if_neg (by simp)]
    exact hK _ _ ⟨F, ι, hR, hdom, V_put hV .un fun t => getD_put a o.dst undef (fun d h => by rw [hN]; exact hdst d h) t, hputN _, hputd _, hp⟩
  | yes av new con K' hw hev hU hT h0 =>
    have hY : Y P G o s.Γ s.T s.K K' av new con := by
      rcases hev with ⟨_, rfl, rfl, h⟩ | ⟨_, rfl, hcT, _, h⟩ | ⟨_, rfl, rfl, id, t, old, ho, _, _, hold, hT, rfl, h⟩
      · exact h _ _ fun _ _ => rfl
      · exact h _ hcT
      · exact h _ _ hold hT
    rw [wanted_of hw hV, if_pos rfl]
    refine hY F w ι a hR (fun t _ => hV t) (fun id hn => ?_) _ _ fun F' w' ι' u hR' hs hd1 hd2 hv => ?_
    · cases hi : ι id with
      | none => rfl
      | some b => exact absurd ((hdom id).1 ⟨b, hi⟩) (hU id hn)
    · refine hK _ _ ⟨F', ι', hR', fun id => ⟨?_, ?_⟩, V_put (fun t => (hV t).step hs) hv fun t => getD_put a o.dst u (fun d h => by rw [hN]; exact hdst d h) t, hputN _, hputd _, fun b hb => (hd1 0 b hb).elim (hp b) fun h => h0 h b⟩
      · rintro ⟨b, hb⟩
        rcases hd1 id b hb with h | h
        · exact .inl ((hdom id).1 ⟨b, h⟩)
        · exact .inr h
      · rintro (h | h)
        · obtain ⟨b, hb⟩ := (hdom id).2 h
          exact ⟨b, hs.ι_le _ _ hb⟩
        · exact hd2 id h

theorem wpAny_of_aAny {N : Nat} {ds : List Deferred} {Q : AS → Prop} {Q' : Exit → Act → World → Prop} (hdst : ∀ (i : Nat) (o : Oper) (d : Tmp), ops[i]? = some o → o.dst = some d → d < N) (hQ : ∀ s a w, Q s → RelS G N ds s a w → Q' .normal a w) :
    ∀ (fuel : Nat) (listed : Array Bool) (s : AS) (a : Act) (w : World), RelS G N ds s a w → aAny P G ops Q fuel listed s → wpAny P .any ops Q' fuel listed a w
  | 0, _, s, a, w, hr, h => ⟨h.1, hQ s a w h.2 hr⟩
  | fuel + 1, listed, s, a, w, hr, h => by
    refine ⟨fun h0 => hQ s a w (h.1 h0) hr, fun i hi => ?_⟩
    have h1 := h.2 i hi
    unfold aOp at h1
    unfold wpOp
    split
    · rename_i ho
      simp only [ho] at h1
      exact wpAny_of_aAny hdst hQ fuel _ s a w hr h1
    · rename_i o ho
      simp only [ho] at h1
      rcases h1 with h1 | ⟨s', hd, h1⟩
      · obtain ⟨F, ι, hR, hdom, hV, _, _, _⟩ := hr
        exact (h1 F w ι a hR (fun id b hb => (hdom id).1 ⟨b, hb⟩) hV).elim
      · have := does_sound (K := wpAny P .any ops Q' fuel (listed.setIfInBounds i true)) (Q' := Q') hd (fun d h => hdst i o d ho h) hr fun a' w' hr' => wpAny_of_aAny hdst hQ fuel _ s' a' w' hr' h1
        split
        · rename_i hw; rw [if_pos hw] at this; exact .inl this
        · rename_i hw; rw [if_neg hw] at this; exact this

theorem RelS.drew {N : Nat} {ds : List Deferred} {s : AS} {a : Act} {w : World} (h : RelS G N ds s a w) : RelS G N ds s a { w with drawn := w.drawn + 1 } := by
  obtain ⟨F, ι, hR, hdom, hV, hN, hds, hp⟩ := h
  have hs : Step F w ι F { w with drawn := w.drawn + 1 } ι := ⟨fun _ h => h, fun _ _ => rfl, fun _ _ h => h, fun _ _ cur _ _ h => ⟨cur, h, rfl⟩⟩
  refine ⟨F, ι, ⟨hR.kept.trans ⟨rfl, rfl, rfl, Nat.le_refl _, fun _ _ _ => rfl⟩, hR.F_lt, hR.F_ok, hR.place, fun id b o h1 h2 => ?_, hR.inj, hR.len⟩, hdom, fun t => (hV t).step hs, hN, hds, hp⟩
  obtain ⟨ob, h3, h4⟩ := hR.obj id b o h1 h2
  exact ⟨ob, h3, h4.step hs⟩

/-- A region that draws its order, by its abstract run in the text's order. -/
theorem region_draw {id N : Nat} {ds : List Deferred} {Q : AS → Prop} {Q' : Exit → Act → World → Prop} {s : AS} {a : Act} {w : World} (hm : P.follows .mixedOrders = true) (hB : lexB2 P ops = true)
    (hdst : ∀ (i : Nat) (o : Oper) (d : Tmp), ops[i]? = some o → o.dst = some d → d < N) (hrel : RelS G N ds s a w) (h : aLex P G ops Q ops.toList s) (hQ : ∀ s a w, Q s → RelS G N ds s a w → Q' .normal a w) :
    (Code.region id ops true).wp P Q' a w := by
  refine wp_region_any hm (wpAny_of_aAny hdst hQ _ _ s a _ hrel.drew ?_)
  have := aAny_lex (P := P) (G := G) (Q := Q) ops.toList 0 (Array.replicate ops.size false) s (fun m om hm => by simp only [Array.getD_eq_getD_getElem?, Array.getElem?_replicate] at hm; split at hm <;> cases hm) (by simp) (by rw [Array.length_toList]; exact hB) h
  simpa using this

/-- A region in the text's order. -/
theorem region_seq {id N : Nat} {ds : List Deferred} {Q : AS → Prop} {Q' : Exit → Act → World → Prop} (hdst : ∀ (i : Nat) (o : Oper) (d : Tmp), ops[i]? = some o → o.dst = some d → d < N) (hQ : ∀ s a w, Q s → RelS G N ds s a w → Q' .normal a w) {s : AS} {a : Act} {w : World}
    (hrel : RelS G N ds s a w) (h : aLex P G ops Q ops.toList s) : (Code.region id ops false).wp P Q' a w := by
  refine wp_region_list ?_
  have key : ∀ (l : List Oper), (∀ o ∈ l, ∀ d, o.dst = some d → d < N) → ∀ (s : AS) (a : Act) (w : World), RelS G N ds s a w → aLex P G ops Q l s → wpList P ops Q' l a w := by
    intro l
    induction l with
    | nil => intro _ s a w hr h; exact hQ s a w h hr
    | cons o l ih =>
      intro hl s a w hr h
      obtain ⟨s', hd, h⟩ := h
      have := does_sound (K := wpList P ops Q' l) (Q' := Q') hd (hl o (List.mem_cons_self ..)) hr fun a' w' hr' => ih (fun o ho => hl o (List.mem_cons_of_mem _ ho)) s' a' w' hr' h
      unfold wpList
      split
      · rename_i hw; rw [if_pos hw] at this; exact .inl this
      · rename_i hw; rw [if_neg hw] at this; exact this
  refine key ops.toList (fun o ho d hd => ?_) s a w hrel h
  obtain ⟨i, hi, he⟩ := List.mem_iff_getElem.1 ho
  exact hdst i o d (by rw [← he]; simp at hi ⊢) hd
end

end Go.Am
