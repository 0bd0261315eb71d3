/- A range over a function, part 5: the equations for walks by simp: iterators, functions that range over one, calls of function values. No condition. -/
import Derived.Test.YtmnjglpieghdkaaA3
namespace Go.Am
open RowKit (Below)

/-- The state stands for this frame and world; F: blocks that are read, M: blocks of the frame's own. -/
def SRB (F M : Nat → Prop) (N : Nat) (ds : List Deferred) (σ : St) (a : Act) (w : World) : Prop :=
  (∀ id, σ.n ≤ id → σ.H id = none) ∧ ∃ ι, (∀ b, F b → b < w.heap.size) ∧ (∀ id b, ι id = some b → M b) ∧ (∀ b, M b → b < w.heap.size ∧ ¬ F b) ∧
    (∀ id b o, ι id = some b → σ.H id = some o → ∃ ob, w.heap[b]? = some ob ∧ CR F w ι o ob) ∧ (∀ id id' b, ι id = some b → ι id' = some b → id = id') ∧
    (∀ id, (∃ b, ι id = some b) ↔ (σ.H id).isSome = true) ∧ (∀ t, V F w ι (σ.Γ t) (a.tmps.getD t undef)) ∧ a.tmps.size = N ∧ a.defers = ds

def allP : Nat → Prop := fun _ => True
def noZ : Nat → Option Value := fun _ => none

section
variable {P : Program} {F M : Nat → Prop} {N : Nat} {ds : List Deferred} {σ : St} {a : Act} {w : World}

theorem SRB.sr (h : SRB F M N ds σ a w) (Z : Nat → Option Value) (hZ : ∀ t v, Z t = some v → a.tmps.getD t undef = v) : SR ⟨w, F, M, allP, Z⟩ N ds σ a w := by
  obtain ⟨h1, ι, hF, hM, hMF, ho, hi, hd, hV, hN, hds⟩ := h
  refine ⟨h1, fun _ _ => trivial, F, ι, ⟨.refl _ _ _, hF, fun b h => .inl h, fun id b e => ⟨.inl (hM id b e), (hMF b (hM id b e)).1, fun _ => (hMF b (hM id b e)).2⟩, ho, fun id id' b e e' _ _ => hi id id' b e e', fun id id' b o o' e e' _ q q' => ?_⟩, hd, hV, ⟨hN, hZ⟩, hds, fun _ _ => trivial⟩
  have := hi id id' b e e'
  subst this
  rw [q] at q'; injection q' with q'; subst q'
  exact Nat.le_refl _

theorem SR.srb {G : Ctx} (h : SR G N ds σ a w) : ∃ F M, SRB F M N ds σ a w ∧ (∀ b, M b → G.M b ∨ G.W.heap.size ≤ b) ∧ (∀ b, F b → G.A b ∨ G.M b ∨ G.W.heap.size ≤ b) ∧ Kept G.M G.W.heap.size G.W w ∧
    ∀ t v, G.Z t = some v → a.tmps.getD t undef = v := by
  obtain ⟨h1, h2, F, ι, hR, hd, hV, hN, hds, _⟩ := h
  refine ⟨F, fun b => ∃ id, ι id = some b, ⟨h1, ι, hR.F_lt, fun id b e => ⟨id, e⟩, ?_, hR.obj, fun id id' b e e' => hR.inj id id' b e e' (fun x => x) (fun x => x), hd, hV, hN.1, hds⟩, ?_, hR.F_ok, hR.kept, hN.2⟩
  · rintro b ⟨id, e⟩; exact ⟨(hR.place id b e).2.1, (hR.place id b e).2.2 fun x => x⟩
  · rintro b ⟨id, e⟩; exact (hR.place id b e).1

/-- What lies beside may turn. -/
theorem SRB.world (h : SRB F M N ds σ a w) {w' : World} (hsz : w.heap.size ≤ w'.heap.size) (hb : ∀ b, F b ∨ M b → w'.heap[b]? = w.heap[b]?) : SRB F M N ds σ a w' := by
  obtain ⟨h1, ι, hF, hM, hMF, ho, hi, hd, hV, hN, hds⟩ := h
  have hs : Step F w ι F w' ι := ⟨fun _ h => h, fun b h => hb b (.inl h), fun _ _ h => h, fun id b cur e hi h => ⟨cur, (hb b (.inr (hM id b hi))).trans h, rfl⟩⟩
  refine ⟨h1, ι, fun b h => Nat.lt_of_lt_of_le (hF b h) hsz, hM, fun b h => ⟨Nat.lt_of_lt_of_le (hMF b h).1 hsz, (hMF b h).2⟩, fun id b o e e' => ?_, hi, hd, fun t => (hV t).step hs, hN, hds⟩
  obtain ⟨ob, q1, q2⟩ := ho id b o e e'
  exact ⟨ob, (hb b (.inr (hM id b e))).trans q1, q2.step hs⟩

/-- More may be read. -/
theorem SRB.more (h : SRB F M N ds σ a w) {F' : Nat → Prop} (hFF : ∀ b, F b → F' b) (hF' : ∀ b, F' b → b < w.heap.size) (hMF' : ∀ b, M b → ¬ F' b) : SRB F' M N ds σ a w := by
  obtain ⟨h1, ι, hF, hM, hMF, ho, hi, hd, hV, hN, hds⟩ := h
  have hs : Step F w ι F' w ι := ⟨hFF, fun b h => rfl, fun _ _ h => h, fun id b cur e hi h => ⟨cur, h, rfl⟩⟩
  refine ⟨h1, ι, hF', hM, fun b h => ⟨(hMF b h).1, hMF' b h⟩, fun id b o e e' => ?_, hi, hd, fun t => (hV t).step hs, hN, hds⟩
  obtain ⟨ob, q1, q2⟩ := ho id b o e e'
  exact ⟨ob, q1, q2.step hs⟩

/-- Another frame, whose slots read as the state says. -/
theorem SRB.act (h : SRB F M N ds σ a w) {Γ' : Nat → AV} {a' : Act} {ds' : List Deferred} (hN : a'.tmps.size = N) (hds : a'.defers = ds')
    (hV : ∀ t, (Γ' t = σ.Γ t ∧ a'.tmps.getD t undef = a.tmps.getD t undef) ∨ Γ' t = .any ∨ ∃ d v, Γ' t = inj1 d ∧ a'.tmps.getD t undef = v ∧ VD F w d v) : SRB F M N ds' ⟨Γ', σ.H, σ.n⟩ a' w := by
  obtain ⟨h1, ι, hF, hM, hMF, ho, hi, hd, hV0, _, _⟩ := h
  refine ⟨h1, ι, hF, hM, hMF, ho, hi, hd, fun t => ?_, hN, hds⟩
  rcases hV t with ⟨e1, e2⟩ | e | ⟨d, v, e1, e2, e3⟩
  · show V F w ι (Γ' t) _
    rw [e1, e2]; exact hV0 t
  · show V F w ι (Γ' t) _
    rw [e]; exact .any _
  · show V F w ι (Γ' t) _
    rw [e1, e2]; exact V_inj1 e3

theorem SRB.defers (h : SRB F M N ds σ a w) (ds' : List Deferred) : SRB F M N ds' σ { a with defers := ds' } w := by
  obtain ⟨h1, ι, hF, hM, hMF, ho, hi, hd, hV, hN, hds⟩ := h
  exact ⟨h1, ι, hF, hM, hMF, ho, hi, hd, hV, hN, rfl⟩

theorem SRB.weak (h : SRB F M N ds σ a w) {σ' : St} {ρ : Nat → Nat} (hk : Wk σ σ' ρ) : ∃ F' M', SRB F' M' N ds σ' a w ∧ (∀ b, M' b → M b) ∧ ∀ b, F' b → F b ∨ M b := by
  obtain ⟨F', M', h', hM, hF, _⟩ := (SR_weak hk (h.sr noZ fun _ _ e => by cases e)).srb
  refine ⟨F', M', h', fun b hb => ?_, fun b hb => ?_⟩
  · rcases hM b hb with h1 | h1
    · exact h1
    · obtain ⟨_, _, _, _, q, _⟩ := h'
      have := (q b hb).1
      simp only at h1; omega
  · rcases hF b hb with h1 | h1 | h1
    · exact .inl h1
    · exact .inr h1
    · obtain ⟨_, _, q, _⟩ := h'
      have := q b hb
      simp only at h1; omega

/-- What is left when these blocks have been used up. -/
def used (σ : St) (l : List Nat) : St := fin ⟨σ.Γ, kill l σ.H, σ.n⟩ l

/-- What a function value has captured is read for good from now on. -/
theorem SRB.callee (h : SRB F M N ds σ a w) {g : Operand} {gf : FuncId} {cs : List AV} {caps : List D} (hg : calleeA (oev σ.Γ g) = some (gf, cs)) (hf : frzs σ.H cs = some caps) :
    ∃ lb A M', a.eval g = .func (.func gf) #[] lb ∧ caps.length = lb.size ∧ (∀ (k : Nat) d v, caps[k]? = some d → lb[k]? = some v → VD A w d v) ∧ SRB A M' N ds (used σ (viss σ.H cs)) a w ∧
      (∀ b, A b → F b ∨ M b) ∧ (∀ b, M' b → M b) := by
  obtain ⟨h1, ι, hF, hM, hMF, ho, hi, hd, hV, hN, hds⟩ := h
  have hR : HR ⟨w, F, M, allP, noZ⟩ F w ι none' σ.H := by
    refine ⟨.refl _ _ _, hF, fun b h => .inl h, fun id b e => ⟨.inl (hM id b e), (hMF b (hM id b e)).1, fun _ => (hMF b (hM id b e)).2⟩, ho, fun id id' b e e' _ _ => hi id id' b e e', fun id id' b o o' e e' _ q q' => ?_⟩
    have := hi id id' b e e'
    subst this
    rw [q] at q'; injection q' with q'; subst q'
    exact Nat.le_refl _
  have hVg : V F w ι (oev σ.Γ g) (a.eval g) := V_oev fun t _ => hV t
  obtain ⟨lb, e1, e2, e3⟩ := calleeA_V hg hVg
  obtain ⟨q1, q2, q3⟩ := frzs_VL (vs := lb.toList) hR (fun _ _ h => h) hf (by simpa using e2) fun k c u hc hu => e3 k c u hc (by simpa using hu)
  let l := viss σ.H cs
  have hAM : ∀ b, reach F ι l b → F b ∨ M b := by
    rintro b (hb | ⟨id, _, e⟩)
    · exact .inl hb
    · exact .inr (hM id b e)
  have hAlt : ∀ b, reach F ι l b → b < w.heap.size := fun b hb => (hAM b hb).elim (hF b) fun h => (hMF b h).1
  have hs : Step F w ι (reach F ι l) w ι := ⟨fun b h => .inl h, fun b h => rfl, fun _ _ h => h, fun id b cur e hi h => ⟨cur, h, rfl⟩⟩
  refine ⟨lb, reach F ι l, fun b => M b ∧ ¬ reach F ι l b, e1, by simpa using q1, fun k d v hk hv => q2 k d v hk (by simpa using hv), ?_, hAM, fun b h => h.1⟩
  have hmask : ∀ id b, mask ι l id = some b → M b ∧ ¬ reach F ι l b := fun id b e => by
    obtain ⟨m1, m2⟩ := mask_some e
    refine ⟨hM id b m1, ?_⟩
    rintro (hb | ⟨id', hid', e'⟩)
    · exact (hMF b (hM id b m1)).2 hb
    · exact m2 (hi id id' b m1 e' ▸ hid')
  have hkill : ∀ id, kill l σ.H id = if id ∈ l then none else σ.H id := fun id => by
    by_cases hid : id ∈ l
    · rw [if_pos hid, kill_mem hid]
    · rw [if_neg hid, kill_not hid]
  unfold used
  show SRB (reach F ι l) _ N ds (fin ⟨σ.Γ, kill l σ.H, σ.n⟩ l) a w
  cases hl : l with
  | nil =>
    have hmk : mask ι l = ι := by funext id; simp [mask, hl]
    rw [← hl]
    have hfin : fin ⟨σ.Γ, kill l σ.H, σ.n⟩ l = σ := by rw [hl]; rfl
    rw [hfin]
    refine ⟨h1, ι, hAlt, fun id b e => hmask id b (by rw [hmk]; exact e), fun b h => ⟨(hMF b h.1).1, h.2⟩, fun id b o e e' => ?_, hi, hd, fun t => (hV t).step hs, hN, hds⟩
    obtain ⟨ob, p1, p2⟩ := ho id b o e e'
    exact ⟨ob, p1, p2.step hs⟩
  | cons x xs =>
    rw [← hl]
    have hfin : fin ⟨σ.Γ, kill l σ.H, σ.n⟩ l = ⟨fun t => scrub l (σ.Γ t), fun id => (kill l σ.H id).map (scrubO l), σ.n⟩ := by rw [hl]; rfl
    rw [hfin]
    refine ⟨fun id h => by simp only; rw [hkill, h1 id h]; simp, mask ι l, hAlt, hmask, fun b h => ⟨(hMF b h.1).1, h.2⟩, fun id b o e e' => ?_, fun id id' b e e' => hi id id' b (mask_some e).1 (mask_some e').1, fun id => ?_, fun t => V_scrub ((hV t).step hs), hN, hds⟩
    · obtain ⟨m1, m2⟩ := mask_some e
      simp only [hkill, if_neg m2] at e'
      obtain ⟨o1, ho1, rfl⟩ := Option.map_eq_some_iff.1 e'
      obtain ⟨ob, p1, p2⟩ := ho id b o1 m1 ho1
      exact ⟨ob, p1, CR_scrub (p2.step hs)⟩
    · constructor
      · rintro ⟨b, e⟩
        obtain ⟨m1, m2⟩ := mask_some e
        simp only [hkill, if_neg m2, Option.isSome_map]
        exact (hd id).1 ⟨b, m1⟩
      · intro e
        by_cases hid : id ∈ l
        · simp [hkill, hid] at e
        · simp only [hkill, if_neg hid, Option.isSome_map] at e
          obtain ⟨b, hb⟩ := (hd id).2 e
          exact ⟨b, by unfold mask; rw [if_neg hid]; exact hb⟩
end

end Go.Am

namespace Go.Am
open RowKit (Below)

/-- A contract: the function value hands these rows of values to yield, in this order, and returns; it reads what it has captured, and writes blocks of its own alone (X: its blocks, O: those that it may yet write). -/
def SeqSpec (P : Program) (g : FuncId) (caps : List D) (xs : List (List D)) : Prop :=
  ∀ (A : Nat → Prop) (W : World) (l : Nat) (lb : Array Value), (∀ b, A b → b < W.heap.size) → caps.length = lb.size → (∀ (k : Nat) d v, caps[k]? = some d → lb[k]? = some v → VD A W d v) →
    (∀ args w, (callFunc g args).run P w = .ok (.enter g args) w) ∧
    ∀ (J : Nat → (Nat → Prop) → (Nat → Prop) → World → Prop),
      (∀ k X O W1 X' O' W2, J k X O W1 → Kept O W1.heap.size W1 W2 → (∀ b, X b → X' b) → (∀ b, X' b → X b ∨ (W1.heap.size ≤ b ∧ b < W2.heap.size)) → (∀ b, O' b → X' b ∧ (O b ∨ W1.heap.size ≤ b)) → J k X' O' W2) →
      (∀ k X O W1 ds (vals : Array Value), xs[k]? = some ds → J k X O W1 → ds.length = vals.size → (∀ (i : Nat) d v, ds[i]? = some d → vals[i]? = some v → VD (fun b => A b ∨ (X b ∧ ¬ O b)) W1 d v) →
        YieldAt Fence.wide 0 P l vals W1 fun e W2 => e = .returned (.bool true) ∧ J (k + 1) X O W2 ∧ W1.heap.size ≤ W2.heap.size ∧ W2.os = W1.os ∧ W2.tape = W1.tape ∧ W2.output = W1.output ∧ ∀ b, A b ∨ X b → W2.heap[b]? = W1.heap[b]?) →
      J 0 none' none' W →
      Calls P g (#[.func (.yield l) #[] #[]] ++ lb) W fun e W' => (∃ v, e = .returned v) ∧ ∃ X O, J xs.length X O W'

def marks (Ds : List Nat) : List Deferred := Ds.map fun D => { target := .collected D, args := #[] }

/-- A frame within a function that began at W; Ds: the blocks for the rounds' deferred calls. -/
def FR (W : World) (A0 : Nat → Prop) (N : Nat) (Ds : List Nat) (σ : St) (a : Act) (w : World) : Prop :=
  ∃ F M, SRB F M N (marks Ds) σ a w ∧ (∀ b, M b → W.heap.size ≤ b) ∧ (∀ b, F b → A0 b ∨ W.heap.size ≤ b) ∧ Kept none' W.heap.size W w ∧
    (∀ D ∈ Ds, W.heap.size ≤ D ∧ w.heap[D]? = some (.deferred (some [])) ∧ ¬ M D ∧ ¬ F D) ∧ Ds.Nodup

def FRx (W : World) (A0 : Nat → Prop) (N : Nat) (σ : St) (a : Act) (w : World) : Prop := ∃ Ds, FR W A0 N Ds σ a w

theorem lt_of_some {w : World} {b : Nat} {o : Obj} (h : w.heap[b]? = some o) : b < w.heap.size := (Array.getElem?_eq_some_iff.1 h).1

section
variable {P : Program} {W w : World} {A0 : Nat → Prop} {N : Nat} {Ds : List Nat} {σ : St} {a : Act}

/-- Code without a range over a function. -/
theorem fr_code (hm : P.follows .mixedOrders = true) {c : Code} {Q : Exit → St → Prop} (hd : codeDst N c = true) (hl : codeLex P c = true) (h : AWP P c σ Q) (hs : FRx W A0 N σ a w) :
    c.wp P (fun e a' w' => ∃ σ', Q e σ' ∧ FRx W A0 N σ' a' w') a w := by
  obtain ⟨Ds, F, M, hs, hM, hF, hK, hD, hnd⟩ := hs
  have hMlt : ∀ b, M b → b < w.heap.size := by obtain ⟨_, _, _, _, q, _⟩ := hs; exact fun b hb => (q b hb).1
  refine wp_mono (AWP_sound (G := ⟨w, F, M, allP, noZ⟩) hm (fun _ => rfl) c Q σ a w hd hl h (hs.sr noZ fun _ _ e => by cases e)) ?_
  rintro e a' w' ⟨σ', hq, hs'⟩
  refine ⟨σ', hq, ?_⟩
  obtain ⟨F', M', h', hM', hF', hK', _⟩ := hs'.srb
  simp only at hM' hF' hK'
  have hWw := hK.size
  refine ⟨Ds, F', M', h', fun b hb => ?_, fun b hb => ?_, hK.trans ⟨hK'.os, hK'.tape, hK'.output, hK'.size, fun k hk _ => hK'.block k (by omega) fun hm => by have := hM k hm; omega⟩, fun D hDm => ?_, hnd⟩
  · rcases hM' b hb with h | h
    · exact hM b h
    · omega
  · rcases hF' b hb with h | h | h
    · exact hF b h
    · exact .inr (hM b h)
    · exact .inr (by omega)
  · obtain ⟨d1, d2, d3, d4⟩ := hD D hDm
    have hlt := lt_of_some d2
    refine ⟨d1, (hK'.block D hlt d3).trans d2, fun hm => ?_, fun hf => ?_⟩
    · rcases hM' D hm with h | h
      · exact d3 h
      · omega
    · rcases hF' D hf with h | h | h
      · exact d4 h
      · exact d3 h
      · omega

def setΓ : List (Tmp × D) → (Nat → AV) → Nat → AV
  | [], Γ => Γ
  | (p, d) :: l, Γ => setΓ l (upd Γ p (inj1 d))

theorem setΓ_V {F : Nat → Prop} {w : World} {wr : Nat → Bool} : ∀ (l : List (Tmp × D)) (vs : List (Tmp × Value)) (Γ0 Γ : Nat → AV) (T0 T : Array Value), T.size = T0.size → l.length = vs.length →
    (∀ (k : Nat) p q, l[k]? = some p → vs[k]? = some q → p.1 = q.1 ∧ p.1 < T0.size ∧ wr p.1 = true ∧ VD F w p.2 q.2) →
    (∀ t, (Γ t = Γ0 t ∧ T.getD t undef = T0.getD t undef) ∨ Γ t = .any ∨ ∃ d v, Γ t = inj1 d ∧ T.getD t undef = v ∧ VD F w d v) →
    (∀ t, wr t = false → T.getD t undef = T0.getD t undef) →
    ((vs.foldl (fun t (p : Tmp × Value) => t.setIfInBounds p.1 p.2) T).size = T0.size) ∧
    (∀ t, (setΓ l Γ t = Γ0 t ∧ (vs.foldl (fun t (p : Tmp × Value) => t.setIfInBounds p.1 p.2) T).getD t undef = T0.getD t undef) ∨ setΓ l Γ t = .any ∨ ∃ d v, setΓ l Γ t = inj1 d ∧ (vs.foldl (fun t (p : Tmp × Value) => t.setIfInBounds p.1 p.2) T).getD t undef = v ∧ VD F w d v) ∧
    (∀ t, wr t = false → (vs.foldl (fun t (p : Tmp × Value) => t.setIfInBounds p.1 p.2) T).getD t undef = T0.getD t undef)
  | [], [], Γ0, Γ, T0, T, hsz, _, _, h, hz => ⟨hsz, h, hz⟩
  | [], _ :: _, _, _, _, _, _, hl, _, _, _ => by simp at hl
  | _ :: _, [], _, _, _, _, _, hl, _, _, _ => by simp at hl
  | (p, d) :: l, (p', v) :: vs, Γ0, Γ, T0, T, hsz, hl, hp, h, hz => by
    obtain ⟨e1, e2, e3, e4⟩ := hp 0 _ _ rfl rfl
    simp only at e1 e2 e3 e4
    subst e1
    have hget : ∀ t, (T.setIfInBounds p v).getD t undef = if t = p then v else T.getD t undef := fun t => by
      simp only [Array.getD_eq_getD_getElem?]
      by_cases ht : t = p
      · subst ht; rw [if_pos rfl, Array.getElem?_setIfInBounds_self_of_lt (by rw [hsz]; exact e2)]; rfl
      · rw [if_neg ht, Array.getElem?_setIfInBounds_ne (Ne.symm ht)]
    refine setΓ_V (wr := wr) l vs Γ0 (upd Γ p (inj1 d)) T0 (T.setIfInBounds p v) (by simpa using hsz) (by simpa using hl) (fun k a b ha hb => hp (k + 1) a b (by simpa using ha) (by simpa using hb)) (fun t => ?_) fun t ht => ?_
    · by_cases htp : t = p
      · subst htp
        exact .inr (.inr ⟨d, v, upd_same _ _ _, by rw [hget, if_pos rfl], e4⟩)
      · rw [upd_ne _ _ htp, hget, if_neg htp]; exact h t
    · rw [hget, if_neg (fun e => by subst e; rw [e3] at ht; cases ht)]; exact hz t ht

/-- The rounds of a range over a function, between states T 0, T 1, ..; wl: the slots that a round writes. -/
structure Rounds (P : Program) (N : Nat) (ps : Array Tmp) (assign body : Code) (wl : List Nat) (xs : List (List D)) (T : Nat → St) : Prop where
  dst : codeDst N assign = true ∧ codeDst N body = true
  lex : codeLex P assign = true ∧ codeLex P body = true
  rd : codeRd assign = true ∧ codeRd body = true
  nz : codeNZ (fun t => !wl.contains t) assign = true ∧ codeNZ (fun t => !wl.contains t) body = true
  psl : ∀ p ∈ ps.toList, p < N ∧ wl.contains p = true
  round : ∀ k x, xs[k]? = some x → x.length = ps.size ∧ AWP P assign ⟨setΓ (ps.toList.zip x) (T k).Γ, (T k).H, (T k).n⟩ fun e σ1 => e = .normal ∧
    AWP P body σ1 fun e σ2 => e = .normal ∧ ∃ ρ, Wk ⟨fun t => if wl.contains t then .any else σ2.Γ t, σ2.H, σ2.n⟩ (T (k + 1)) ρ

theorem foldl_pair (l : Array (Tmp × Value)) (T : Array Value) : l.foldl (fun t (x : Tmp × Value) => match x with | (p, v) => t.setIfInBounds p v) T = l.toList.foldl (fun t (p : Tmp × Value) => t.setIfInBounds p.1 p.2) T := by
  rw [← Array.foldl_toList]

/-- The record of a loop. -/
def recOf (fn : FuncId) (a : Act) (ps : Array Tmp) (assign body : Code) (d : Nat) (st : LoopState) (pe : Option Code) : Loop := { state := st, pending := pe, fn, tmps := a.tmps, params := ps, assign, body, defers := d }

/-- Between two rounds; n: the place of the block for the rounds' deferred calls, ahead of the record. -/
def JR (W : World) (n : Nat) (A0 A : Nat → Prop) (N : Nat) (Ds : List Nat) (T : Nat → St) (a : Act) (rec : LoopState → Option Code → Loop) (k : Nat) (X O : Nat → Prop) (U : World) : Prop := ∃ F M, SRB F M N (marks Ds) (T k) a U ∧
    (∀ b, M b → W.heap.size ≤ b ∧ ¬ X b ∧ ¬ A b ∧ b ≠ n + 1 ∧ b ≠ n ∧ b ∉ Ds) ∧ (∀ b, F b → (A0 b ∨ W.heap.size ≤ b) ∧ ¬ O b ∧ b ≠ n + 1 ∧ b ≠ n ∧ b ∉ Ds) ∧
    Kept none' W.heap.size W U ∧ (∀ D ∈ Ds, U.heap[D]? = some (.deferred (some []))) ∧ U.heap[n + 1]? = some (.loop (rec .ready none)) ∧ U.heap[n]? = some (.deferred (some [])) ∧
    (∀ b, X b → n + 2 ≤ b ∧ b < U.heap.size) ∧ (∀ b, O b → X b)

theorem JR.stab {n : Nat} {A : Nat → Prop} {T : Nat → St} {rec : LoopState → Option Code → Loop} (hWw : W.heap.size ≤ n) (hDs : ∀ D ∈ Ds, D < n) : ∀ k X O U1 X' O' U2, JR W n A0 A N Ds T a rec k X O U1 → Kept O U1.heap.size U1 U2 → (∀ b, X b → X' b) →
    (∀ b, X' b → X b ∨ (U1.heap.size ≤ b ∧ b < U2.heap.size)) → (∀ b, O' b → X' b ∧ (O b ∨ U1.heap.size ≤ b)) → JR W n A0 A N Ds T a rec k X' O' U2 := by
  rintro k X O U1 X' O' U2 ⟨F, M, hj, hjM, hjF, hjK, hjD, hjl, hjd, hjX, hjO⟩ hk hX1 hX2 hO
  have hFlt : ∀ b, F b → b < U1.heap.size := by obtain ⟨_, _, q, _⟩ := hj; exact q
  have hMlt : ∀ b, M b → b < U1.heap.size := by obtain ⟨_, _, _, _, q, _⟩ := hj; exact fun b h => (q b h).1
  have keep : ∀ b, b < U1.heap.size → ¬ O b → U2.heap[b]? = U1.heap[b]? := fun b h1 h2 => hk.block b h1 h2
  have hOge : ∀ b, O b → n + 2 ≤ b := fun b hb => (hjX b (hjO b hb)).1
  have hKs := hjK.size
  refine ⟨F, M, hj.world hk.size fun b hb => ?_, fun b hb => ?_, fun b hb => ?_, ?_, fun D hDm => ?_, ?_, ?_, fun b hb => ?_, fun b hb => (hO b hb).1⟩
  · rcases hb with h | h
    · exact keep b (hFlt b h) (hjF b h).2.1
    · exact keep b (hMlt b h) fun ho => (hjM b h).2.1 (hjO b ho)
  · obtain ⟨q1, q2, q3⟩ := hjM b hb
    refine ⟨q1, fun hx => ?_, q3⟩
    rcases hX2 b hx with h | h
    · exact q2 h
    · have := hMlt b hb; omega
  · obtain ⟨q1, q2, q3⟩ := hjF b hb
    refine ⟨q1, fun hx => ?_, q3⟩
    rcases (hO b hx).2 with h | h
    · exact q2 h
    · have := hFlt b hb; omega
  · exact hjK.trans ⟨hk.os, hk.tape, hk.output, hk.size, fun k hk' _ => keep k (by omega) fun ho => by have := hOge k ho; omega⟩
  · have := hDs D hDm
    exact (keep D (lt_of_some (hjD D hDm)) fun ho => by have := hOge D ho; omega).trans (hjD D hDm)
  · exact (keep _ (lt_of_some hjl) fun ho => by have := hOge _ ho; omega).trans hjl
  · exact (keep _ (lt_of_some hjd) fun ho => by have := hOge _ ho; omega).trans hjd
  · have := hk.size
    rcases hX2 b hb with h | h
    · have := hjX b h; omega
    · have := lt_of_some hjl
      refine ⟨?_, h.2⟩
      omega

theorem JR.round (hm : P.follows .mixedOrders = true) {n : Nat} {A : Nat → Prop} {ps : Array Tmp} {assign body : Code} {fn : FuncId} {xs : List (List D)} {T : Nat → St} {wl : List Nat} (hWw : W.heap.size ≤ n) (hDs : ∀ D ∈ Ds, D < n) (hAlt : ∀ b, A b → b < n)
    (hA0' : ∀ b, A b → A0 b ∨ W.heap.size ≤ b) (hADs : ∀ b, A b → b ∉ Ds) (hadef : a.tmps.size = N) (hadd : a.defers = marks Ds) (hr : Rounds P N ps assign body wl xs T) :
    ∀ k X O U1 ds (vals : Array Value), xs[k]? = some ds → JR W n A0 A N Ds T a (recOf fn a ps assign body n) k X O U1 → ds.length = vals.size → (∀ (i : Nat) d v, ds[i]? = some d → vals[i]? = some v → VD (fun b => A b ∨ (X b ∧ ¬ O b)) U1 d v) →
      YieldAt Fence.wide 0 P (n + 1) vals U1 fun e W2 => e = .returned (.bool true) ∧ JR W n A0 A N Ds T a (recOf fn a ps assign body n) (k + 1) X O W2 ∧ U1.heap.size ≤ W2.heap.size ∧ W2.os = U1.os ∧ W2.tape = U1.tape ∧ W2.output = U1.output ∧ ∀ b, A b ∨ X b → W2.heap[b]? = U1.heap[b]? := by
  obtain ⟨rec, hrec⟩ : ∃ rec : LoopState → Option Code → Loop, rec = recOf fn a ps assign body n := ⟨_, rfl⟩
  rw [← hrec]
  rintro k X O U1 ds vals hx ⟨F, M, hj, hjM, hjF, hjK, hjD, hjl, hjd, hjX, hjO⟩ hlen hvals
  obtain ⟨hps, hwalk⟩ := hr.round k ds hx
  have hFlt : ∀ b, F b → b < U1.heap.size := by obtain ⟨_, _, q, _⟩ := hj; exact q
  have hMlt : ∀ b, M b → b < U1.heap.size := by obtain ⟨_, _, _, _, q, _⟩ := hj; exact fun b h => (q b h).1
  have hsz1 : n + 1 < U1.heap.size := lt_of_some hjl
  have hy := run_yield (P := P) (args := vals) hjl (by rw [hrec]; show vals.size = ps.size; omega)
  rw [hrec] at hy
  refine ⟨fn, _, assign, body, hy, roundIn_of_wpIn trivial ?_⟩
  -- the frame of the round
  let F1 : Nat → Prop := fun b => F b ∨ A b ∨ (X b ∧ ¬ O b)
  have hF1lt : ∀ b, F1 b → b < U1.heap.size := by
    rintro b (h | h | h)
    · exact hFlt b h
    · have := hAlt b h; omega
    · exact (hjX b h.1).2
  have hj1 : SRB F1 M N (marks Ds) (T k) a U1 := hj.more (fun b h => .inl h) hF1lt fun b hb hf => by
    obtain ⟨_, q2, q3, _⟩ := hjM b hb
    rcases hf with h | h | h
    · obtain ⟨_, _, _, _, q, _⟩ := hj; exact (q b hb).2 h
    · exact q3 h
    · exact q2 h.1
  obtain ⟨s1, s2, s3⟩ := setΓ_V (F := F1) (w := U1) (wr := fun t => wl.contains t) (ps.toList.zip ds) (ps.zip vals).toList (T k).Γ (T k).Γ a.tmps a.tmps rfl (by simp; omega) (fun i p q hp hq => by
    rw [Array.toList_zip] at hq
    rw [List.getElem?_zip_eq_some] at hp hq
    obtain ⟨p1, p2⟩ := p; obtain ⟨q1, q2⟩ := q
    simp only at hp hq ⊢
    have e : p1 = q1 := by have := hp.1.symm.trans hq.1; injection this
    obtain ⟨w1, w2⟩ := hr.psl p1 (List.mem_of_getElem? hp.1)
    exact ⟨e, by rw [hadef]; exact w1, w2, (hvals i p2 q2 hp.2 (by simpa using hq.2)).mono fun b hb => .inr hb⟩) (fun t => .inl ⟨rfl, rfl⟩) fun t _ => rfl
  have hfold := foldl_pair (ps.zip vals) a.tmps
  obtain ⟨tmps', htm⟩ : ∃ tmps', (ps.zip vals).foldl (fun t (x : Tmp × Value) => match x with | (p, v) => t.setIfInBounds p v) a.tmps = tmps' := ⟨_, rfl⟩
  rw [← hfold, htm] at s1 s2 s3
  show assign.wpIn (Fence.wide.inRound (n + 1)) 0 P _ { tmps := (ps.zip vals).foldl (fun t (x : Tmp × Value) => match x with | (p, v) => t.setIfInBounds p v) a.tmps, defers := [] } U1
  rw [htm]
  have hj2 : SRB F1 M N [] ⟨setΓ (ps.toList.zip ds) (T k).Γ, (T k).H, (T k).n⟩ { tmps := tmps', defers := [] } U1 := hj1.act (by show tmps'.size = N; omega) rfl s2
  let Z : Nat → Option Value := fun t => if wl.contains t then none else some (a.tmps.getD t undef)
  have hZ : ∀ d v, Z d = some v → (!wl.contains d) = true := fun d v e => by
    simp only [Z] at e
    split at e
    · cases e
    · rename_i h; simpa using h
  have hZt : ∀ (tm : Array Value), (∀ t, wl.contains t = false → tm.getD t undef = a.tmps.getD t undef) → ∀ t v, Z t = some v → tm.getD t undef = v := fun tm h t v e => by
    simp only [Z] at e
    split at e
    · cases e
    · rename_i hc; injection e with e; rw [h t (by simpa using hc), e]
  refine wpIn_mono (AWP_soundR (G := ⟨U1, F1, M, allP, Z⟩) (WpR.round P (n + 1) 0) hm hZ assign _ _ _ _ hr.dst.1 hr.lex.1 hr.nz.1 (fun _ => hr.rd.1) hwalk (hj2.sr Z (hZt _ s3))) ?_
  rintro e a2 U2 ⟨σ2, ⟨rfl, hwalk2⟩, hs2⟩
  obtain ⟨F2', M2', h2, hM2', hF2', hK2', hZ2⟩ := hs2.srb
  simp only at hM2' hF2' hK2' hZ2
  have hl2 : U2.heap[n + 1]? = some (.loop (rec .ready none)) := (hK2'.block _ hsz1 fun h => (hjM _ h).2.2.2.1 rfl).trans hjl
  have hsz2 : U1.heap.size ≤ U2.heap.size := hK2'.size
  refine ⟨_, run_beginRound hl2 (by rw [hrec]; rfl), ?_⟩
  obtain ⟨U3, hU3⟩ : ∃ U3, U2.putObj (n + 1) (.loop { rec .ready none with state := .busy }) = U3 := ⟨_, rfl⟩
  have hU3s : U3.heap.size = U2.heap.size := by rw [← hU3]; simp
  have hl3 : U3.heap[n + 1]? = some (.loop { rec .ready none with state := .busy }) := by rw [← hU3]; exact World.putObj_heap_same (by omega)
  have hoth3 : ∀ b, b ≠ n + 1 → U3.heap[b]? = U2.heap[b]? := fun b hb => by rw [← hU3]; exact World.putObj_heap_other hb
  have hF1l : ∀ b, F1 b → b ≠ n + 1 := by
    rintro b (h | h | h)
    · exact (hjF b h).2.2.1
    · have := hAlt b h; omega
    · have := (hjX b h.1).1; omega
  have hM2l : ∀ b, M2' b → b ≠ n + 1 := fun b hb => by
    rcases hM2' b hb with h | h
    · exact (hjM b h).2.2.2.1
    · omega
  have hF2l : ∀ b, F2' b → b ≠ n + 1 := fun b hb => by
    rcases hF2' b hb with h | h | h
    · exact hF1l b h
    · exact (hjM b h).2.2.2.1
    · omega
  have h3 : SRB F2' M2' N [] σ2 a2 U3 := h2.world (by omega) fun b hb => hoth3 b (hb.elim (hF2l b) (hM2l b))
  rw [show U2.putObj (n + 1) (.loop { rec .ready none with state := .busy }) = U3 from hU3]
  refine wpIn_mono (AWP_soundR (G := ⟨U3, F2', M2', allP, Z⟩) (WpR.round P (n + 1) 0) hm hZ body _ _ _ _ hr.dst.2 hr.lex.2 hr.nz.2 (fun _ => hr.rd.2) hwalk2 (h3.sr Z hZ2)) ?_
  rintro e a4 U4 ⟨σ4, ⟨rfl, ρ, hwk⟩, hs4⟩
  obtain ⟨F4, M4, h4, hM4, hF4, hK4, hZ4⟩ := hs4.srb
  simp only at hM4 hF4 hK4 hZ4
  have hl4 : U4.heap[n + 1]? = some (.loop { rec .ready none with state := .busy }) := (hK4.block _ (by omega) fun h => hM2l _ h rfl).trans hl3
  have hsz4 : U3.heap.size ≤ U4.heap.size := hK4.size
  obtain ⟨U5, hU5⟩ : ∃ U5, U4.putObj (n + 1) (.loop (rec .ready none)) = U5 := ⟨_, rfl⟩
  have hU5s : U5.heap.size = U4.heap.size := by rw [← hU5]; simp
  have hoth5 : ∀ b, b ≠ n + 1 → U5.heap[b]? = U4.heap[b]? := fun b hb => by rw [← hU5]; exact World.putObj_heap_other hb
  have hend := run_endRound (P := P) none hl4
  have hrr : ({ ({ rec .ready none with state := .busy } : Loop) with state := if (none : Option Code).isNone then .ready else .done, pending := none } : Loop) = rec .ready none := by rw [hrec]; rfl
  refine ⟨.bool true, U5, ?_, rfl, ?_⟩
  · rw [← hU5]
    have e2 : (Instr.endRound (n + 1) none).run P U4 = .ok (.bool true) (U4.putObj (n + 1) (.loop (rec .ready none))) := by
      rw [hrec] at hend ⊢; exact hend
    exact e2
  -- what lay there lies there still
  have hkeep : ∀ b, b < U1.heap.size → ¬ M b → b ≠ n + 1 → U5.heap[b]? = U1.heap[b]? := fun b h1 h2 h3 => by
    rw [hoth5 b h3, hK4.block b (by omega) (fun h => by rcases hM2' b h with h | h; exact h2 h; omega), hoth3 b h3, hK2'.block b h1 h2]
  have hM4' : ∀ b, M4 b → M b ∨ U1.heap.size ≤ b := fun b hb => by
    rcases hM4 b hb with h | h
    · exact hM2' b h
    · right; omega
  have hF4' : ∀ b, F4 b → F1 b ∨ M b ∨ U1.heap.size ≤ b := fun b hb => by
    rcases hF4 b hb with h | h | h
    · exact hF2' b h
    · exact .inr (hM2' b h)
    · right; right; omega
  have hM4l : ∀ b, M4 b → b ≠ n + 1 := fun b hb => by
    rcases hM4' b hb with h | h
    · exact (hjM b h).2.2.2.1
    · omega
  have hF4l : ∀ b, F4 b → b ≠ n + 1 := fun b hb => by
    rcases hF4' b hb with h | h | h
    · exact hF1l b h
    · exact (hjM b h).2.2.2.1
    · omega
  have h5 : SRB F4 M4 N [] σ4 a4 U5 := h4.world (by omega) fun b hb => hoth5 b (hb.elim (hF4l b) (hM4l b))
  have h6 : SRB F4 M4 N (marks Ds) ⟨fun t => if wl.contains t then .any else σ4.Γ t, σ4.H, σ4.n⟩ a U5 := h5.act hadef hadd fun t => by
    by_cases ht : wl.contains t = true
    · right; left; simp only [ht, if_true]
    · left
      have ht' : wl.contains t = false := by simpa using ht
      refine ⟨by simp only [ht', Bool.false_eq_true, if_false], ?_⟩
      exact (hZ4 t (a.tmps.getD t undef) (by simp only [Z, ht', Bool.false_eq_true, if_false])).symm
  obtain ⟨F7, M7, h7, hM7, hF7⟩ := h6.weak hwk
  have hM7' : ∀ b, M7 b → M b ∨ U1.heap.size ≤ b := fun b hb => hM4' b (hM7 b hb)
  have hF7' : ∀ b, F7 b → F1 b ∨ M b ∨ U1.heap.size ≤ b := fun b hb => (hF7 b hb).elim (hF4' b) fun h => .inr (hM4' b h)
  have hKs := hjK.size
  have hDlt : ∀ D ∈ Ds, D < U1.heap.size := fun D hDm => lt_of_some (hjD D hDm)
  refine ⟨⟨F7, M7, h7, fun b hb => ?_, fun b hb => ?_, ?_, fun D hDm => ?_, ?_, ?_, fun b hb => ?_, hjO⟩, by omega, ?_, ?_, ?_, fun b hb => ?_⟩
  · rcases hM7' b hb with h | h
    · exact hjM b h
    · exact ⟨by omega, fun hx => by have := (hjX b hx).2; omega, fun ha => by have := hAlt b ha; omega, by omega, by omega, fun hDm => by have := hDlt b hDm; omega⟩
  · rcases hF7' b hb with (h | h | h) | h | h
    · exact hjF b h
    · have := hAlt b h
      exact ⟨hA0' b h, fun ho => by have := (hjX b (hjO b ho)).1; omega, by omega, by omega, hADs b h⟩
    · have := (hjX b h.1).1
      exact ⟨.inr (by omega), h.2, by omega, by omega, fun hDm => by have := hDs b hDm; omega⟩
    · obtain ⟨q1, q2, q3, q4, q5, q6⟩ := hjM b h
      exact ⟨.inr q1, fun ho => q2 (hjO b ho), q4, q5, q6⟩
    · exact ⟨.inr (by omega), fun ho => by have := (hjX b (hjO b ho)).2; omega, by omega, by omega, fun hDm => by have := hDlt b hDm; omega⟩
  · refine hjK.trans ⟨?_, ?_, ?_, by omega, fun b hb _ => hkeep b (by omega) (fun h => by have := (hjM b h).1; omega) (by omega)⟩
    · rw [← hU5]; show U4.os = U1.os; rw [hK4.os, ← hU3]; exact hK2'.os
    · rw [← hU5]; show U4.tape = U1.tape; rw [hK4.tape, ← hU3]; exact hK2'.tape
    · rw [← hU5]; show U4.output = U1.output; rw [hK4.output, ← hU3]; exact hK2'.output
  · exact (hkeep D (hDlt D hDm) (fun h => (hjM D h).2.2.2.2.2 hDm) (by have := hDs D hDm; omega)).trans (hjD D hDm)
  · rw [← hU5]; exact World.putObj_heap_same (by omega)
  · exact (hkeep _ (by omega) (fun h => (hjM _ h).2.2.2.2.1 rfl) (by omega)).trans hjd
  · have := hjX b hb; omega
  · rw [← hU5]; show U4.os = U1.os; rw [hK4.os, ← hU3]; exact hK2'.os
  · rw [← hU5]; show U4.tape = U1.tape; rw [hK4.tape, ← hU3]; exact hK2'.tape
  · rw [← hU5]; show U4.output = U1.output; rw [hK4.output, ← hU3]; exact hK2'.output
  · rcases hb with h | h
    · have := hAlt b h
      exact hkeep b (by omega) (fun hmm => (hjM b hmm).2.2.1 h) (by omega)
    · have := hjX b h
      exact hkeep b this.2 (fun hmm => (hjM b hmm).2.1 h) (by omega)

theorem fr_range (hm : P.follows .mixedOrders = true) {g : Operand} {ps : Array Tmp} {assign body : Code} {gf : FuncId} {cs : List AV} {caps : List D} {xs : List (List D)} {T : Nat → St} {wl : List Nat}
    (hg : calleeA (oev σ.Γ g) = some (gf, cs)) (hf : frzs σ.H cs = some caps) (hseq : SeqSpec P gf caps xs) (hr : Rounds P N ps assign body wl xs T) (h0 : ∃ ρ, Wk (used σ (viss σ.H cs)) (T 0) ρ) (hs : FRx W A0 N σ a w) :
    (Code.rangeFunc g ps assign body).wp P (fun e a' w' => e = .normal ∧ FRx W A0 N (T xs.length) a' w') a w := by
  obtain ⟨Ds, F, M, hs, hM, hF, hK, hD, hnd⟩ := hs
  obtain ⟨lb, A, M1, hev, hlb, hV, hs1, hA, hM1⟩ := hs.callee hg hf
  obtain ⟨ρ0, hw0⟩ := h0
  obtain ⟨F2, M2, hs2, hM2, hF2⟩ := hs1.weak hw0
  have hWw := hK.size
  have hAlt : ∀ b, A b → b < w.heap.size := by obtain ⟨_, _, q, _⟩ := hs1; exact q
  have hM2A : ∀ b, M2 b → ¬ A b := fun b hb => by obtain ⟨_, _, _, _, q, _⟩ := hs1; exact (q b (hM2 b hb)).2
  have hadef : a.tmps.size = N := by obtain ⟨_, _, _, _, _, _, _, _, _, q, _⟩ := hs; exact q
  have hadd : a.defers = marks Ds := by obtain ⟨_, _, _, _, _, _, _, _, _, _, q⟩ := hs; exact q
  refine (wpIn_wide (n := 1)).1 (wpIn_rangeFunc ?_)
  intro fn _
  obtain ⟨rec, hrec⟩ : ∃ rec : LoopState → Option Code → Loop, rec = recOf fn a ps assign body w.heap.size := ⟨_, rfl⟩
  obtain ⟨W1, hW1⟩ : ∃ W1, (w.alloc (.deferred (some []))).alloc (.loop (rec .ready none)) = W1 := ⟨_, rfl⟩
  have hW1s : W1.heap.size = w.heap.size + 2 := by rw [← hW1]; simp
  have hL1 : W1.heap[w.heap.size + 1]? = some (.loop (rec .ready none)) := by
    rw [← hW1]; have := World.alloc_heap_new (w.alloc (.deferred (some []))) (.loop (rec .ready none)); rwa [World.size_alloc] at this
  have hold : ∀ b, b < w.heap.size → W1.heap[b]? = w.heap[b]? := fun b hb => by
    rw [← hW1]
    show ((w.heap.push _).push _)[b]? = _
    rw [Array.getElem?_push, if_neg (by simp; omega), Array.getElem?_push, if_neg (by omega)]
  have hK1 : W1.heap[w.heap.size]? = some (.deferred (some [])) := by
    rw [← hW1]
    show ((w.heap.push _).push _)[w.heap.size]? = _
    rw [Array.getElem?_push, if_neg (by simp), Array.getElem?_push, if_pos rfl]
  have hstr : W1.os = w.os ∧ W1.tape = w.tape ∧ W1.output = w.output := by rw [← hW1]; exact ⟨rfl, rfl, rfl⟩
  have hAW1 : ∀ (k : Nat) d v, caps[k]? = some d → lb[k]? = some v → VD A W1 d v := fun k d v hk hv => (hV k d v hk hv).step (fun _ h => h) fun b hb => hold b (hAlt b hb)
  obtain ⟨hent, hseq⟩ := hseq A W1 (w.heap.size + 1) lb (fun b hb => by have := hAlt b hb; omega) hlb hAW1
  have hDs : ∀ D ∈ Ds, D < w.heap.size := fun D hDm => lt_of_some (hD D hDm).2.1
  have hA0' : ∀ b, A b → A0 b ∨ W.heap.size ≤ b := fun b hb => (hA b hb).elim (hF b) fun h => .inr (hM b h)
  have hADs : ∀ b, A b → b ∉ Ds := fun b hb hDm => (hA b hb).elim (hD b hDm).2.2.2 (hD b hDm).2.2.1
  have hend := hseq (JR W w.heap.size A0 A N Ds T a rec) (JR.stab hWw hDs) (by rw [hrec]; exact JR.round hm hWw hDs hAlt hA0' hADs hadef hadd hr) ?start
  · have h1 : (Instr.enterLoop fn a.tmps ps assign body Fence.wide.round).run P w = .ok (w.heap.size + 1, [{ target := .collected w.heap.size, args := #[] }]) W1 := by
      rw [← hW1, hrec]; exact run_enterLoop_outer _ _ _ _ _
    have h2 : (resolve a.eval (rangeCall g (w.heap.size + 1)) 0).run P W1 = .ok { target := .fn (.func gf) lb, args := #[.func (.yield (w.heap.size + 1)) #[] #[]] } W1 := by
      simp only [resolve, hev]
      simp [Deferred.ofValue, Act.eval]
    have h3 : (invoke (.fn (.func gf) lb) #[.func (.yield (w.heap.size + 1)) #[] #[]]).run P W1 = .ok (.enter gf (#[.func (.yield (w.heap.size + 1)) #[] #[]] ++ lb)) W1 := by
      simp only [invoke, hent]
    refine ⟨_, _, W1, _, W1, gf, _, W1, h1, h2, fun _ _ => trivial, h3, fun h => by simp [Fence.wide] at h, ?_⟩
    refine callsIn_wide.2 (hend.mono ?_)
    · rintro e U ⟨⟨v, rfl⟩, X, O, F, M, hj, hjM, hjF, hjK, hjD, hjl, hjd, hjX, hjO⟩
      have hlt := lt_of_some hjl
      obtain ⟨U', hU'⟩ : ∃ U', U.putObj (w.heap.size + 1) (.loop { rec .ready none with state := .exhausted }) = U' := ⟨_, rfl⟩
      have hoth : ∀ b, b ≠ w.heap.size + 1 → U'.heap[b]? = U.heap[b]? := fun b hb => by rw [← hU']; exact World.putObj_heap_other hb
      have hUs : U'.heap.size = U.heap.size := by rw [← hU']; simp
      have hst : U'.os = U.os ∧ U'.tape = U.tape ∧ U'.output = U.output := by rw [← hU']; exact ⟨rfl, rfl, rfl⟩
      refine ⟨none, U', ?_, ?_⟩
      · have := run_endLoop (P := P) hjl (by rw [hrec]; simp [recOf])
        rw [← hU', hrec] at *; exact this
      · refine ⟨rfl, w.heap.size :: Ds, F, M, ?_, fun b hb => (hjM b hb).1, fun b hb => (hjF b hb).1, ?_, ?_, ?_⟩
        · rw [hadd]
          exact (hj.world (w' := U') (by omega) fun b hb => hoth b (by
            rcases hb with h | h
            · exact (hjF b h).2.2.1
            · exact (hjM b h).2.2.2.1)).defers (marks (w.heap.size :: Ds))
        · exact hjK.trans ⟨hst.1, hst.2.1, hst.2.2, by omega, fun k hk _ => hoth k (by omega)⟩
        · intro D hDm
          rcases List.mem_cons.1 hDm with rfl | hDm
          · exact ⟨hWw, (hoth _ (by omega)).trans hjd, fun h => (hjM _ h).2.2.2.2.1 rfl, fun h => (hjF _ h).2.2.2.1 rfl⟩
          · have := hDs D hDm
            exact ⟨(hD D hDm).1, (hoth _ (by omega)).trans (hjD D hDm), fun h => (hjM _ h).2.2.2.2.2 hDm, fun h => (hjF _ h).2.2.2.2 hDm⟩
        · exact List.nodup_cons.2 ⟨fun h => by have := hDs _ h; omega, hnd⟩
  case start =>
    refine ⟨F2, M2, hs2.world (by omega) (fun b hb => hold b ?_), fun b hb => ?_, fun b hb => ?_, ?_, fun D hDm => ?_, hL1, hK1, fun b hb => hb.elim, fun b hb => hb.elim⟩
    · obtain ⟨_, _, q1, _, q2, _⟩ := hs2
      exact hb.elim (q1 b) fun h => (q2 b h).1
    · have hb2 := hM1 b (hM2 b hb)
      have : b < w.heap.size := by obtain ⟨_, _, _, _, q2, _⟩ := hs2; exact (q2 b hb).1
      exact ⟨hM b hb2, fun h => h.elim, hM2A b hb, by omega, by omega, fun hDm => (hD b hDm).2.2.1 hb2⟩
    · have : b < w.heap.size := by obtain ⟨_, _, q1, _⟩ := hs2; exact q1 b hb
      have hb2 : A0 b ∨ W.heap.size ≤ b := (hF2 b hb).elim (hA0' b) fun h => .inr (hM b (hM1 b h))
      exact ⟨hb2, fun h => h.elim, by omega, by omega, fun hDm => (hF2 b hb).elim (fun h => hADs b h hDm) fun h => (hD b hDm).2.2.1 (hM1 b h)⟩
    · exact hK.trans ⟨hstr.1, hstr.2.1, hstr.2.2, by omega, fun k hk _ => hold k (by omega)⟩
    · exact (hold D (hDs D hDm)).trans (hD D hDm).2.1
end

end Go.Am

namespace Go.Am
open RowKit (Below)

/-- The calculus, ranges over functions among the code (outside loops and branches). -/
def AWPR (P : Program) (N : Nat) : Code → St → (Exit → St → Prop) → Prop
  | .seq x y, σ, Q => AWPR P N x σ fun e σ' => match e with | .normal => AWPR P N y σ' Q | e => Q e σ'
  | .block id c, σ, Q => AWPR P N c σ fun e σ' => match e with | .exit id' => if id' = id then Q .normal σ' else Q (.exit id') σ' | e => Q e σ'
  | .rangeFunc g ps assign body, σ, Q => ∃ gf cs caps xs T wl, calleeA (oev σ.Γ g) = some (gf, cs) ∧ frzs σ.H cs = some caps ∧ SeqSpec P gf caps xs ∧ Rounds P N ps assign body wl xs T ∧ (∃ ρ, Wk (used σ (viss σ.H cs)) (T 0) ρ) ∧ Q .normal (T xs.length)
  | c, σ, Q => AWP P c σ Q

/-- All but what stands in rounds. -/
def codeOut (p : Code → Bool) : Code → Bool
  | .seq x y => codeOut p x && codeOut p y
  | .block _ c => codeOut p c
  | .rangeFunc .. => true
  | c => p c

section
variable {P : Program} {W : World} {A0 : Nat → Prop} {N : Nat}

theorem AWPR_sound (hm : P.follows .mixedOrders = true) (hA0 : ∀ b, A0 b → b < W.heap.size) : ∀ (c : Code) (Q : Exit → St → Prop) (σ : St) (a : Act) (w : World), codeOut (codeDst N) c = true → codeOut (codeLex P) c = true → AWPR P N c σ Q → FRx W A0 N σ a w →
    c.wp P (fun e a' w' => ∃ σ', Q e σ' ∧ FRx W A0 N σ' a' w') a w := by
  intro c
  induction c with
  | seq x y ihx ihy =>
    intro Q σ a w hd hl h hs
    simp only [codeOut, Bool.and_eq_true] at hd hl
    refine wp_seq (wp_mono (ihx _ σ a w hd.1 hl.1 h hs) ?_)
    rintro e a' w' ⟨σ', hq, hs'⟩
    cases e with
    | normal => exact ihy Q σ' a' w' hd.2 hl.2 hq hs'
    | _ => exact ⟨σ', hq, hs'⟩
  | block id c ih =>
    intro Q σ a w hd hl h hs
    refine wp_block (wp_mono (ih _ σ a w hd hl h hs) ?_)
    rintro e a' w' ⟨σ', hq, hs'⟩
    cases e with
    | exit id' =>
      simp only [Exit.inBlock] at hq ⊢
      split at hq
      · rename_i he; rw [if_pos he]; exact ⟨σ', hq, hs'⟩
      · rename_i he; rw [if_neg he]; exact ⟨σ', hq, hs'⟩
    | _ => exact ⟨σ', hq, hs'⟩
  | rangeFunc g ps assign body _ _ =>
    intro Q σ a w _ _ h hs
    obtain ⟨gf, cs, caps, xs, T, wl, hg, hf, hseq, hr, h0, hq⟩ := h
    refine wp_mono (fr_range hm hg hf hseq hr h0 hs) ?_
    rintro e a' w' ⟨rfl, hs'⟩
    exact ⟨_, hq, hs'⟩
  | skip => intro Q σ a w hd hl h hs; exact fr_code hm hd hl h hs
  | region id ops draw => intro Q σ a w hd hl h hs; exact fr_code hm hd hl h hs
  | cond c x y _ _ => intro Q σ a w hd hl h hs; exact fr_code hm hd hl h hs
  | loop c _ => intro Q σ a w hd hl h hs; exact fr_code hm hd hl h hs
  | exit id => intro Q σ a w hd hl h hs; exact fr_code hm hd hl h hs
  | ret => intro Q σ a w hd hl h hs; exact fr_code hm hd hl h hs
  | label l => intro Q σ a w hd hl h hs; exact fr_code hm hd hl h hs
  | scope c _ => intro Q σ a w hd hl h hs; exact fr_code hm hd hl h hs
  | _ => intro Q σ a w hd hl h; exact h.elim

/-- A function that held ranges over functions leaves: its marks are taken, then its results. -/
theorem leaves_marks {fn : Func} {σ : St} {a : Act} {r : D} {ds0 : List Deferred} (hr : resD P fn.results.toList σ = some r) : ∀ (Ds : List Nat) (w : World), (∃ F M, SRB F M N ds0 σ a w ∧ (∀ b, M b → W.heap.size ≤ b) ∧ (∀ b, F b → A0 b ∨ W.heap.size ≤ b) ∧ Kept none' W.heap.size W w ∧
    (∀ D ∈ Ds, W.heap.size ≤ D ∧ w.heap[D]? = some (.deferred (some [])) ∧ ¬ M D ∧ ¬ F D)) → Ds.Nodup →
    LeavesInM Fence.wide 1 P fn a.tmps (fun e W' => ∃ v, e = .returned v ∧ Below W.heap.size W W' ∧ VD (fun b => A0 b ∨ (W.heap.size ≤ b ∧ b < W'.heap.size)) W' r v) (marks Ds) .returning w
  | [], w, ⟨F, M, hs, hM, hF, hK, _⟩, _ => by
    obtain ⟨v, h1, h2⟩ := run_results (hs.sr noZ fun _ _ e => by cases e) hr
    have hFlt : ∀ b, F b → b < w.heap.size := by obtain ⟨_, _, q, _⟩ := hs; exact q
    have hMlt : ∀ b, M b → b < w.heap.size := by obtain ⟨_, _, _, _, q, _⟩ := hs; exact fun b h => (q b h).1
    refine ⟨v, h1, v, rfl, ⟨hK.os, hK.tape, hK.output, hK.size, fun k hk => hK.block k hk fun h => h⟩, h2.mono ?_⟩
    rintro b (h | h | h)
    · exact (hF b h).imp_right fun q => ⟨q, hFlt b h⟩
    · exact .inr ⟨hM b h, hMlt b h⟩
    · simp only at h; omega
  | D :: Ds, w, ⟨F, M, hs, hM, hF, hK, hD⟩, hnd => by
    obtain ⟨d1, d2, d3, d4⟩ := hD D (List.mem_cons_self ..)
    have hlt := lt_of_some d2
    obtain ⟨w', hw'⟩ : ∃ w', w.putObj D (.deferred none) = w' := ⟨_, rfl⟩
    have hoth : ∀ b, b ≠ D → w'.heap[b]? = w.heap[b]? := fun b hb => by rw [← hw']; exact World.putObj_heap_other hb
    have hsz : w'.heap.size = w.heap.size := by rw [← hw']; simp
    refine ⟨by simp, .inl ⟨D, w', rfl, by rw [← hw']; exact run_takeDeferred d2, leaves_marks hr Ds w' ⟨F, M, hs.world (by omega) fun b hb => hoth b ?_, hM, hF, ?_, fun D' hD' => ?_⟩ (List.nodup_cons.1 hnd).2⟩⟩
    · rintro rfl; exact hb.elim d4 d3
    · exact hK.trans ⟨by rw [← hw']; rfl, by rw [← hw']; rfl, by rw [← hw']; rfl, by omega, fun k hk _ => hoth k (by omega)⟩
    · obtain ⟨e1, e2, e3, e4⟩ := hD D' (List.mem_cons_of_mem _ hD')
      exact ⟨e1, (hoth D' fun e => by subst e; exact (List.nodup_cons.1 hnd).1 hD').trans e2, e3, e4⟩

/-- A contract, of a function that holds ranges over functions. -/
theorem spec_ofR {f : Nat} {fn : Func} {c : Code} {args : List D} {r : D} (hm : P.follows .mixedOrders = true) (hf : P.funcs[f]? = some fn) (hb : fn.body = some c) (hname : (fn.name == "runtime.NumGoroutine") = false) (hN : fn.ntmps = N)
    (hd : codeOut (codeDst N) c = true) (hl' : codeOut (codeLex P) c = true) (ha : args.length ≤ N) (h : AWPR P N c (St0 args N) fun e σ => (e = .normal ∨ e = .ret) ∧ resD P fn.results.toList σ = some r) : Spec P f args r := by
  intro A W vs hA hl hv
  have hn : ¬ fn.name = "runtime.NumGoroutine" := by simpa using hname
  refine ⟨fun w => by simp [callFunc, hf, hn, hb], ?_⟩
  refine (callsIn_wide (n := 1)).1 (callsIn_of_wp_marks hf hb trivial ((wpIn_wide (n := 1)).2 ?_))
  subst hN
  obtain ⟨F, M, h1, hM, hF, hK, _⟩ := (SR0 hA hl hv ha).srb
  simp only at hM hF hK
  refine wp_mono (AWPR_sound (W := W) (A0 := A) hm hA c _ _ _ _ hd hl' h ⟨[], F, M, h1, fun b hb => ?_, fun b hb => ?_, hK, (fun D hD => by cases hD), List.nodup_nil⟩) ?_
  · exact (hM b hb).elim (fun h => h.elim) fun h => h
  · rcases hF b hb with h | h | h
    · exact .inl h
    · exact h.elim
    · exact .inr h
  · rintro e a w ⟨σ, ⟨he, hr⟩, Ds, F, M, hs, hM, hF, hK, hD, hnd⟩
    have hdd : a.defers = marks Ds := by obtain ⟨_, _, _, _, _, _, _, _, _, _, q⟩ := hs; exact q
    have := leaves_marks (W := W) (A0 := A) hr Ds w ⟨F, M, hs, hM, hF, hK, hD⟩ hnd
    rw [← hdd] at this
    rcases he with rfl | rfl <;> exact this
end

end Go.Am

namespace Go.Am
open RowKit (Below)

section
variable {P : Program} {F M : Nat → Prop} {N : Nat} {ds : List Deferred} {σ : St} {a : Act} {w : World}

/-- What is handed over is read for good. -/
theorem SRB.args (h : SRB F M N ds σ a w) {args : List Operand} {dd : List D} (hf : frzs σ.H (args.map (oev σ.Γ)) = some dd) :
    ∃ A M', dd.length = args.length ∧ (∀ (k : Nat) d v, dd[k]? = some d → (args.map a.eval)[k]? = some v → VD A w d v) ∧ SRB A M' N ds (used σ (viss σ.H (args.map (oev σ.Γ)))) a w ∧ (∀ b, A b → F b ∨ M b) ∧ (∀ b, M' b → M b) := by
  obtain ⟨h1, ι, hF, hM, hMF, ho, hi, hd, hV, hN, hds⟩ := h
  have hR : HR ⟨w, F, M, allP, noZ⟩ F w ι none' σ.H := by
    refine ⟨.refl _ _ _, hF, fun b h => .inl h, fun id b e => ⟨.inl (hM id b e), (hMF b (hM id b e)).1, fun _ => (hMF b (hM id b e)).2⟩, ho, fun id id' b e e' _ _ => hi id id' b e e', fun id id' b o o' e e' _ q q' => ?_⟩
    have := hi id id' b e e'
    subst this
    rw [q] at q'; injection q' with q'; subst q'
    exact Nat.le_refl _
  obtain ⟨q1, q2, q3⟩ := frzs_VL (vs := args.map a.eval) hR (fun _ _ h => h) hf (by simp) fun k c u hc hu => by
    rw [List.getElem?_map] at hc hu
    cases hx : args[k]? with
    | none => rw [hx] at hc; cases hc
    | some x =>
      rw [hx] at hc hu
      injection hc with hc; injection hu with hu
      subst hc; subst hu
      exact V_oev fun t _ => hV t
  obtain ⟨l, hl⟩ : ∃ l, viss σ.H (args.map (oev σ.Γ)) = l := ⟨_, rfl⟩
  rw [hl] at q2 ⊢
  have hAM : ∀ b, reach F ι l b → F b ∨ M b := by
    rintro b (hb | ⟨id, _, e⟩)
    · exact .inl hb
    · exact .inr (hM id b e)
  have hAlt : ∀ b, reach F ι l b → b < w.heap.size := fun b hb => (hAM b hb).elim (hF b) fun h => (hMF b h).1
  have hs : Step F w ι (reach F ι l) w ι := ⟨fun b h => .inl h, fun b h => rfl, fun _ _ h => h, fun id b cur e hi h => ⟨cur, h, rfl⟩⟩
  refine ⟨reach F ι l, fun b => M b ∧ ¬ reach F ι l b, by simpa using q1, q2, ?_, hAM, fun b h => h.1⟩
  have hmask : ∀ id b, mask ι l id = some b → M b ∧ ¬ reach F ι l b := fun id b e => by
    obtain ⟨m1, m2⟩ := mask_some e
    refine ⟨hM id b m1, ?_⟩
    rintro (hb | ⟨id', hid', e'⟩)
    · exact (hMF b (hM id b m1)).2 hb
    · exact m2 (hi id id' b m1 e' ▸ hid')
  have hkill : ∀ id, kill l σ.H id = if id ∈ l then none else σ.H id := fun id => by
    by_cases hid : id ∈ l
    · rw [if_pos hid, kill_mem hid]
    · rw [if_neg hid, kill_not hid]
  unfold used
  cases hl : l with
  | nil =>
    have hmk : mask ι l = ι := by funext id; simp [mask, hl]
    rw [← hl]
    have hfin : fin ⟨σ.Γ, kill l σ.H, σ.n⟩ l = σ := by rw [hl]; rfl
    rw [hfin]
    refine ⟨h1, ι, hAlt, fun id b e => hmask id b (by rw [hmk]; exact e), fun b h => ⟨(hMF b h.1).1, h.2⟩, fun id b o e e' => ?_, hi, hd, fun t => (hV t).step hs, hN, hds⟩
    obtain ⟨ob, p1, p2⟩ := ho id b o e e'
    exact ⟨ob, p1, p2.step hs⟩
  | cons x xs =>
    rw [← hl]
    have hfin : fin ⟨σ.Γ, kill l σ.H, σ.n⟩ l = ⟨fun t => scrub l (σ.Γ t), fun id => (kill l σ.H id).map (scrubO l), σ.n⟩ := by rw [hl]; rfl
    rw [hfin]
    refine ⟨fun id h => by simp only; rw [hkill, h1 id h]; simp, mask ι l, hAlt, hmask, fun b h => ⟨(hMF b h.1).1, h.2⟩, fun id b o e e' => ?_, fun id id' b e e' => hi id id' b (mask_some e).1 (mask_some e').1, fun id => ?_, fun t => V_scrub ((hV t).step hs), hN, hds⟩
    · obtain ⟨m1, m2⟩ := mask_some e
      simp only [hkill, if_neg m2] at e'
      obtain ⟨o1, ho1, rfl⟩ := Option.map_eq_some_iff.1 e'
      obtain ⟨ob, p1, p2⟩ := ho id b o1 m1 ho1
      exact ⟨ob, p1, CR_scrub (p2.step hs)⟩
    · constructor
      · rintro ⟨b, e⟩
        obtain ⟨m1, m2⟩ := mask_some e
        simp only [hkill, if_neg m2, Option.isSome_map]
        exact (hd id).1 ⟨b, m1⟩
      · intro e
        by_cases hid : id ∈ l
        · simp [hkill, hid] at e
        · simp only [hkill, if_neg hid, Option.isSome_map] at e
          obtain ⟨b, hb⟩ := (hd id).2 e
          exact ⟨b, by unfold mask; rw [if_neg hid]; exact hb⟩
end

/-- A call of a function value, not guarded. -/
def isY (o : Oper) : Bool := match o.op with | .call { callee := .value (.tmp _), args := _, argTypes := _ } => o.guard.isNone | _ => false

def spanY : List Oper → Option (List Oper × Oper × List Oper)
  | [] => none
  | o :: l => if isY o then some ([], o, l) else (spanY l).map fun p => (o :: p.1, p.2.1, p.2.2)

def hasY : Code → Bool
  | .region _ ops _ => (spanY ops.toList).isSome
  | .seq x y | .cond _ x y => hasY x || hasY y
  | .block _ c | .loop c | .scope c => hasY c
  | _ => false

/-- The call of yield (l: the loop's record): the next of the values is handed over. -/
def YO (l : Nat) (xs : List (List D)) (y : Oper) (k : Nat) (σ : St) (K : St → Prop) : Prop :=
  match y.op with
  | .call { callee := .value (.tmp t), args := args, argTypes := _ } => σ.Γ t = .d (.lit (.func (.yield l) #[] #[])) ∧ ∃ dd, frzs σ.H (args.toList.map (oev σ.Γ)) = some dd ∧ xs[k]? = some dd ∧
      K ⟨putA (used σ (viss σ.H (args.toList.map (oev σ.Γ)))).Γ y.dst (.d (.b true)), (used σ (viss σ.H (args.toList.map (oev σ.Γ)))).H, (used σ (viss σ.H (args.toList.map (oev σ.Γ)))).n⟩
  | _ => False

def YR (P : Program) (l : Nat) (xs : List (List D)) (ops : Array Oper) (k : Nat) (σ : St) (K : Nat → St → Prop) : Prop :=
  match spanY ops.toList with
  | some (pre, y, post) => OW P ops pre σ [] fun σ1 con1 => YO l xs y k (fin σ1 con1) fun σ2 => OW P ops post σ2 [] fun σ3 con3 => K (k + 1) (fin σ3 con3)
  | none => False

/-- The calculus of an iterator's body: k: how many values have been handed over. -/
def AWPY (P : Program) (l : Nat) (xs : List (List D)) : Code → Nat → St → (Exit → Nat → St → Prop) → Prop
  | .region id ops draw, k, σ, Q => if (spanY ops.toList).isSome then draw = false ∧ YR P l xs ops k σ (Q .normal) else AWP P (.region id ops draw) σ fun e σ' => Q e k σ'
  | .seq x y, k, σ, Q => AWPY P l xs x k σ fun e k' σ' => match e with | .normal => AWPY P l xs y k' σ' Q | e => Q e k' σ'
  | .cond c x y, k, σ, Q => match oev σ.Γ c with | .d (.b t) => if t then AWPY P l xs x k σ Q else AWPY P l xs y k σ Q | .ub => AWPY P l xs x k σ Q ∧ AWPY P l xs y k σ Q | _ => False
  | .block id c, k, σ, Q => AWPY P l xs c k σ fun e k' σ' => match e with | .exit id' => if id' = id then Q .normal k' σ' else Q (.exit id') k' σ' | e => Q e k' σ'
  | .loop c, k, σ, Q => if hasY c then ∃ (τ : Type) (S : τ → St) (κ m : τ → Nat) (x0 : τ), κ x0 = k ∧ (∃ ρ, Wk σ (S x0) ρ) ∧ ∀ x, AWPY P l xs c (κ x) (S x) fun e k' σ' => match e with | .normal => ∃ y, m y < m x ∧ κ y = k' ∧ ∃ ρ, Wk σ' (S y) ρ | e => Q e k' σ'
      else AWP P (.loop c) σ fun e σ' => Q e k σ'
  | c, k, σ, Q => AWP P c σ fun e σ' => Q e k σ'

section
variable {P : Program} {A : Nat → Prop} {W : World} {N l : Nat} {xs : List (List D)}

/-- What an iterator's caller keeps between two rounds, as the iterator knows it. -/
structure JOk (P : Program) (l : Nat) (A : Nat → Prop) (xs : List (List D)) (J : Nat → (Nat → Prop) → (Nat → Prop) → World → Prop) : Prop where
  stab : ∀ k X O W1 X' O' W2, J k X O W1 → Kept O W1.heap.size W1 W2 → (∀ b, X b → X' b) → (∀ b, X' b → X b ∨ (W1.heap.size ≤ b ∧ b < W2.heap.size)) → (∀ b, O' b → X' b ∧ (O b ∨ W1.heap.size ≤ b)) → J k X' O' W2
  round : ∀ k X O W1 ds (vals : Array Value), xs[k]? = some ds → J k X O W1 → ds.length = vals.size → (∀ (i : Nat) d v, ds[i]? = some d → vals[i]? = some v → VD (fun b => A b ∨ (X b ∧ ¬ O b)) W1 d v) →
    YieldAt Fence.wide 0 P l vals W1 fun e W2 => e = .returned (.bool true) ∧ J (k + 1) X O W2 ∧ W1.heap.size ≤ W2.heap.size ∧ W2.os = W1.os ∧ W2.tape = W1.tape ∧ W2.output = W1.output ∧ ∀ b, A b ∨ X b → W2.heap[b]? = W1.heap[b]?

variable {J : Nat → (Nat → Prop) → (Nat → Prop) → World → Prop}

/-- The iterator's frame, k values having been handed over. -/
def RY (A : Nat → Prop) (N : Nat) (J : Nat → (Nat → Prop) → (Nat → Prop) → World → Prop) (k : Nat) (σ : St) (a : Act) (w : World) : Prop :=
  ∃ X F M, J k X M w ∧ SRB F M N [] σ a w ∧ (∀ b, M b → X b) ∧ (∀ b, F b → A b ∨ (X b ∧ ¬ M b)) ∧ (∀ b, X b → b < w.heap.size)

/-- A step of the iterator's own. -/
theorem RY.step (hJ : JOk P l A xs J) {k : Nat} {X F M : Nat → Prop} {w : World} (hj : J k X M w) (hMX : ∀ b, M b → X b) (hFA : ∀ b, F b → A b ∨ (X b ∧ ¬ M b)) {σ' : St} {a' : Act} {w' : World}
    (h : SR ⟨w, F, M, allP, noZ⟩ N [] σ' a' w') (hX : ∀ b, X b → b < w.heap.size) : RY A N J k σ' a' w' := by
  obtain ⟨F', M', h', hM', hF', hK, _⟩ := h.srb
  simp only at hM' hF' hK
  have hsz := hK.size
  have hM'lt : ∀ b, M' b → b < w'.heap.size ∧ ¬ F' b := by obtain ⟨_, _, _, _, q, _⟩ := h'; exact q
  have hF'lt : ∀ b, F' b → b < w'.heap.size := by obtain ⟨_, _, q, _⟩ := h'; exact q
  have hM'X : ∀ b, M' b → X b ∨ (w.heap.size ≤ b ∧ b < w'.heap.size) := fun b hb => (hM' b hb).imp (hMX b) fun h => ⟨h, (hM'lt b hb).1⟩
  refine ⟨fun b => X b ∨ (w.heap.size ≤ b ∧ b < w'.heap.size), F', M', hJ.stab k X M w _ M' w' hj hK (fun b h => .inl h) (fun b h => h) (fun b hb => ⟨hM'X b hb, hM' b hb⟩), h', hM'X, fun b hb => ?_, fun b hb => ?_⟩
  · have hnM : ¬ M' b := fun h => (hM'lt b h).2 hb
    rcases hF' b hb with h | h | h
    · exact (hFA b h).imp_right fun q => ⟨.inl q.1, hnM⟩
    · exact .inr ⟨.inl (hMX b h), hnM⟩
    · exact .inr ⟨.inr ⟨h, hF'lt b hb⟩, hnM⟩
  · rcases hb with h | h
    · have := hX b h; omega
    · exact h.2

theorem RY.sr {k : Nat} {σ : St} {a : Act} {w : World} (h : RY A N J k σ a w) : ∃ X F M, J k X M w ∧ (∀ b, M b → X b) ∧ (∀ b, F b → A b ∨ (X b ∧ ¬ M b)) ∧ (∀ b, X b → b < w.heap.size) ∧ SR ⟨w, F, M, allP, noZ⟩ N [] σ a w := by
  obtain ⟨X, F, M, h1, h2, h3, h4, h5⟩ := h
  exact ⟨X, F, M, h1, h3, h4, h5, h2.sr noZ fun _ _ e => by cases e⟩

theorem RY.weak (hJ : JOk P l A xs J) {k : Nat} {σ σ' : St} {ρ : Nat → Nat} {a : Act} {w : World} (hk : Wk σ σ' ρ) (h : RY A N J k σ a w) : RY A N J k σ' a w := by
  obtain ⟨X, F, M, h1, h3, h4, h5, hs⟩ := h.sr
  exact RY.step hJ h1 h3 h4 (SR_weak hk hs) h5

/-- Code without a call of yield. -/
theorem ry_code (hm : P.follows .mixedOrders = true) (hJ : JOk P l A xs J) {c : Code} {k : Nat} {σ : St} {a : Act} {w : World} {Q : Exit → St → Prop} (hd : codeDst N c = true) (hl : codeLex P c = true) (h : AWP P c σ Q) (hs : RY A N J k σ a w) :
    c.wp P (fun e a' w' => ∃ σ', Q e σ' ∧ RY A N J k σ' a' w') a w := by
  obtain ⟨X, F, M, h1, h3, h4, h5, hsr⟩ := hs.sr
  refine wp_mono (AWP_sound hm (fun _ => rfl) c Q σ a w hd hl h hsr) ?_
  rintro e a' w' ⟨σ', hq, hs'⟩
  exact ⟨σ', hq, RY.step hJ h1 h3 h4 hs' h5⟩

theorem wp_wide {n : Nat} {o : Oper} {a : Act} {w : World} {K : Act → World → Prop} {Q : Exit → Act → World → Prop} (h : o.wp P a w K Q) : o.wpIn Fence.wide n P a w K Q := by
  refine ⟨fun _ _ => trivial, ?_⟩
  show o.uponIn _ n P a K Q ((execOp a.eval o).run P w)
  unfold Oper.wp at h
  generalize (execOp a.eval o).run P w = r at h
  have hdep : ∀ (F : Fence), F = Fence.wide → (F.depth.isSome = true → 1 ≤ n) := fun F hF h => by subst hF; simp [Fence.wide] at h
  unfold Oper.upon at h
  split at h
  · exact h
  · exact h
  · exact h
  · refine ⟨hdep _ rfl, (callsIn_wide.2 h).mono ?_⟩
    rintro (v | c | _) w' h <;> exact h
  · rename_i row args w'
    refine ⟨hdep _ rfl, fun c cs _ => ?_⟩
    obtain ⟨v, w2, h1, h2⟩ := h c cs
    exact ⟨v, w2, h1, stepsIn_wide.2 h2⟩
  · exact h
  · exact h.elim

theorem list_seqIn {G : Ctx} {ops : Array Oper} {ds : List Deferred} {Q : AS → Prop} {K : Act → World → Prop} {Q' : Exit → Act → World → Prop} (hQ : ∀ s a w, Q s → RelS G N ds s a w → K a w) :
    ∀ (l rest : List Oper), (∀ a w, K a w → wpListIn Fence.wide 1 P ops Q' rest a w) → (∀ o ∈ l, ∀ d, o.dst = some d → d < N ∧ G.Z d = none) → ∀ (s : AS) (a : Act) (w : World), RelS G N ds s a w → aLex P G ops Q l s → wpListIn Fence.wide 1 P ops Q' (l ++ rest) a w := by
  intro l
  induction l with
  | nil => intro rest hk _ s a w hr h; exact hk _ _ (hQ s a w h hr)
  | cons o l ih =>
    intro rest hk hl s a w hr h
    obtain ⟨s', hd, h⟩ := h
    have := does_sound (K := wpListIn Fence.wide 1 P ops Q' (l ++ rest)) (Q' := Q') hd (hl o (List.mem_cons_self ..)) hr fun a' w' hr' => ih rest hk (fun o ho => hl o (List.mem_cons_of_mem _ ho)) s' a' w' hr' h
    show wpListIn Fence.wide 1 P ops Q' (o :: (l ++ rest)) a w
    unfold wpListIn
    split
    · rename_i hw; rw [if_pos hw] at this; exact wp_wide this
    · rename_i hw; rw [if_neg hw] at this; exact ⟨fun _ _ => trivial, this⟩

/-- Some operations of a region, walked. -/
theorem ops_sound {G : Ctx} {ops : Array Oper} {ds : List Deferred} {Q : St → Prop} {Q' : Exit → Act → World → Prop} {os rest : List Oper} {σ : St} {a : Act} {w : World}
    (hdst : ∀ o ∈ os, ∀ d, o.dst = some d → d < N ∧ G.Z d = none) (hsr : SR G N ds σ a w) (h : OW P ops os σ [] fun σ' con => Q (fin σ' con)) (hQ : ∀ σ a w, Q σ → SR G N ds σ a w → wpListIn Fence.wide 1 P ops Q' rest a w) :
    wpListIn Fence.wide 1 P ops Q' (os ++ rest) a w := by
  obtain ⟨hn0, hwf, hag⟩ := SR_agree hsr
  obtain ⟨fb, hfb⟩ := OW_sound (G := G) os σ [] hn0 hwf h
  obtain ⟨h1, h2⟩ := hag (fun i => if i < σ.n then σ.H i else fb i) (fun i o hi => by
    rcases Nat.lt_or_ge i σ.n with hlt | hge
    · rw [if_pos hlt]; exact hi
    · rw [hwf.top i hge] at hi; cases hi)
  have h3 := hfb _ h1 (fun i hi => by simp only; rw [if_neg (by omega)])
  refine list_seqIn (K := fun a w => ∃ σ, Q σ ∧ SR G N ds σ a w) (Q := fun s' => ∃ σ' con', Q (fin σ' con') ∧ (σ'.n = 0 → ∀ b, G.P0 b) ∧ Wf σ' con' ∧ Agree σ' con' s') ?_ os rest ?_ hdst _ a w h2 h3
  · rintro s a w ⟨σ', con', hq, hn', hwf', hag'⟩ hr
    exact ⟨_, hq, SR_fin hn' hwf' hag' hr⟩
  · rintro a w ⟨σ, hq, hs⟩; exact hQ σ a w hq hs

theorem spanY_eq : ∀ (os : List Oper) {pre post : List Oper} {y : Oper}, spanY os = some (pre, y, post) → os = pre ++ y :: post ∧ isY y = true
  | [], _, _, _, h => by cases h
  | o :: os, pre, post, y, h => by
    unfold spanY at h
    split at h
    · rename_i ho; injection h with h; injection h with h1 h; injection h with h2 h3; subst h1; subst h2; subst h3; exact ⟨rfl, ho⟩
    · obtain ⟨⟨p1, p2, p3⟩, hp, h⟩ := Option.map_eq_some_iff.1 h
      injection h with h1 h; injection h with h2 h3; subst h1; subst h2; subst h3
      obtain ⟨e1, e2⟩ := spanY_eq os hp
      exact ⟨by rw [e1]; rfl, e2⟩

theorem ry_yield (hJ : JOk P l A xs J) {id k : Nat} {ops : Array Oper} {σ : St} {a : Act} {w : World} {Q : Nat → St → Prop} (hd : opsDst N ops = true) (h : YR P l xs ops k σ Q) (hs : RY A N J k σ a w) :
    (Code.region id ops false).wp P (fun e a' w' => e = .normal ∧ ∃ k' σ', Q k' σ' ∧ RY A N J k' σ' a' w') a w := by
  refine (wpIn_wide (n := 1)).1 (wpIn_region_list ?_)
  unfold YR at h
  split at h
  case h_2 => exact h.elim
  rename_i pre y post hsp
  obtain ⟨heq, hy⟩ := spanY_eq _ hsp
  have hdst : ∀ o ∈ ops.toList, ∀ d, o.dst = some d → d < N ∧ (noZ : Nat → Option Value) d = none := fun o ho d hdd => by
    have := Array.all_eq_true_iff_forall_mem.1 hd o (by simpa using ho)
    rw [hdd] at this
    exact ⟨by simpa using this, rfl⟩
  rw [heq] at hdst ⊢
  obtain ⟨X, F, M, hj, hMX, hFA, hXlt, hsr⟩ := hs.sr
  refine ops_sound (G := ⟨w, F, M, allP, noZ⟩) (fun o ho => hdst o (List.mem_append_left _ ho)) hsr (Q := fun σ1 => YO l xs y k σ1 fun σ2 => OW P ops post σ2 [] fun σ3 con3 => Q (k + 1) (fin σ3 con3)) h ?_
  intro σ1 a1 w1 hY hs1
  obtain ⟨X1, F1, M1, hj1, hs1', hMX1, hFA1, hX1⟩ := RY.step hJ hj hMX hFA hs1 hXlt
  unfold YO at hY
  split at hY
  case h_2 => exact hY.elim
  rename_i t args ts hop
  obtain ⟨hΓ, dd, hfr, hx, hK⟩ := hY
  have hguard : y.guard = none := by
    unfold isY at hy
    rw [hop] at hy
    simpa using hy
  have hev : a1.eval (.tmp t) = .func (.yield l) #[] #[] := by
    obtain ⟨_, ι, _, _, _, _, _, _, hV, _⟩ := hs1'
    have := hV t
    rw [hΓ] at this
    show a1.tmps.getD t undef = _
    generalize a1.tmps.getD t undef = v at this
    cases this with | d _ _ h => cases h; rfl
  obtain ⟨A2, M2, hlen, hVD, hs2, hA2, hM2⟩ := hs1'.args hfr
  have hs2lt : ∀ b, M2 b → b < w1.heap.size ∧ ¬ A2 b := by obtain ⟨_, _, _, _, q, _⟩ := hs2; exact q
  have hj2 : J k X1 M2 w1 := hJ.stab k X1 M1 w1 X1 M2 w1 hj1 (.refl _ _ _) (fun _ h => h) (fun _ h => .inl h) fun b hb => ⟨hMX1 b (hM2 b hb), .inl (hM2 b hb)⟩
  have hAX : ∀ b, A2 b → A b ∨ (X1 b ∧ ¬ M2 b) := fun b hb => by
    have hn : ¬ M2 b := fun h => (hs2lt b h).2 hb
    rcases hA2 b hb with h | h
    · exact (hFA1 b h).imp_right fun q => ⟨q.1, hn⟩
    · exact .inr ⟨hMX1 b h, hn⟩
  obtain ⟨fn, tmps, assign, body, hyl, hround⟩ := hJ.round k X1 M2 w1 dd (args.map a1.eval) hx hj2 (by simpa using hlen) fun i d v hi hv =>
    (hVD i d v hi (by have := Array.getElem?_toList (xs := args.map a1.eval) (i := i); rw [hv, Array.toList_map] at this; exact this)).mono hAX
  unfold wpListIn
  rw [if_pos (by simp [Region.wanted, hguard])]
  refine ⟨fun _ _ => trivial, ?_⟩
  show y.uponIn _ 1 P a1 _ _ ((execOp a1.eval y).run P w1)
  have hrun : (execOp a1.eval y).run P w1 = .ok (.round l fn tmps assign body) w1 := by
    simp only [execOp, hop, resolve, hev, Sem.run_bind, Deferred.ofValue, Sem.run_pure, Result.andThen_ok, Array.empty_append, invoke]
    exact hyl
  rw [hrun, Oper.uponIn_round]
  refine ⟨fun h => by simp [Fence.wide] at h, hround.mono ?_⟩
  rintro e W2 ⟨rfl, hj3, hsz, hos, htp, hou, hkeep⟩
  -- behind the call
  have hs3 : SRB A2 M2 N [] (used σ1 (viss σ1.H (args.toList.map (oev σ1.Γ)))) a1 W2 := hs2.world hsz fun b hb => hkeep b (by
    rcases hb with h | h
    · exact (hAX b h).imp_right fun q => q.1
    · exact .inr (hMX1 b (hM2 b h)))
  have hN : a1.tmps.size = N := by obtain ⟨_, _, _, _, _, _, _, _, _, q, _⟩ := hs3; exact q
  have hdf : a1.defers = [] := by obtain ⟨_, _, _, _, _, _, _, _, _, _, q⟩ := hs3; exact q
  have hyd : ∀ d, y.dst = some d → d < a1.tmps.size := fun d h => by rw [hN]; exact (hdst y (by simp) d h).1
  have hs4 : SRB A2 M2 N [] ⟨putA (used σ1 (viss σ1.H (args.toList.map (oev σ1.Γ)))).Γ y.dst (.d (.b true)), (used σ1 (viss σ1.H (args.toList.map (oev σ1.Γ)))).H, (used σ1 (viss σ1.H (args.toList.map (oev σ1.Γ)))).n⟩ (a1.put y.dst (.bool true)) W2 := by
    refine hs3.act (by cases y.dst <;> simp [Act.put, hN]) (by cases y.dst <;> simp [Act.put, hdf]) fun t => ?_
    rw [getD_put a1 y.dst (.bool true) hyd t]
    by_cases ht : y.dst = some t
    · rw [ht]
      exact .inr (.inr ⟨.b true, .bool true, by simp [putA, upd, inj1], by simp, .b _⟩)
    · rw [if_neg ht]
      exact .inl ⟨by rw [putA_eq ht], rfl⟩
  have hry : RY A N J (k + 1) _ (a1.put y.dst (.bool true)) W2 := ⟨X1, A2, M2, hj3, hs4, fun b hb => hMX1 b (hM2 b hb), hAX, fun b hb => by have := hX1 b hb; omega⟩
  obtain ⟨X5, F5, M5, hj5, hMX5, hFA5, hX5, hsr5⟩ := hry.sr
  have hfin := ops_sound (P := P) (ops := ops) (G := ⟨W2, F5, M5, allP, noZ⟩) (rest := []) (Q := Q (k + 1)) (Q' := fun e a' w' => e = .normal ∧ ∃ k' σ', Q k' σ' ∧ RY A N J k' σ' a' w') (fun o ho => hdst o (List.mem_append_right _ (List.mem_cons_of_mem _ ho))) hsr5 hK
    fun σ6 a6 w6 hq hs6 => ⟨rfl, k + 1, σ6, hq, RY.step hJ hj5 hMX5 hFA5 hs6 hX5⟩
  rw [List.append_nil] at hfin
  exact hfin

theorem AWPY_sound (hm : P.follows .mixedOrders = true) (hJ : JOk P l A xs J) : ∀ (c : Code) (Q : Exit → Nat → St → Prop) (k : Nat) (σ : St) (a : Act) (w : World), codeDst N c = true → codeLex P c = true → AWPY P l xs c k σ Q → RY A N J k σ a w →
    c.wp P (fun e a' w' => ∃ k' σ', Q e k' σ' ∧ RY A N J k' σ' a' w') a w := by
  have plain : ∀ (c : Code) (Q : Exit → Nat → St → Prop) (k : Nat) (σ : St) (a : Act) (w : World), codeDst N c = true → codeLex P c = true → (AWP P c σ fun e σ' => Q e k σ') → RY A N J k σ a w →
      c.wp P (fun e a' w' => ∃ k' σ', Q e k' σ' ∧ RY A N J k' σ' a' w') a w := by
    intro c Q k σ a w hd hl h hs
    refine wp_mono (ry_code hm hJ hd hl h hs) ?_
    rintro e a' w' ⟨σ', hq, hs'⟩
    exact ⟨k, σ', hq, hs'⟩
  intro c
  induction c with
  | region id ops draw =>
    intro Q k σ a w hd hl h hs
    unfold AWPY at h
    split at h
    · obtain ⟨rfl, h⟩ := h
      refine wp_mono (ry_yield hJ hd h hs) ?_
      rintro e a' w' ⟨rfl, k', σ', hq, hs'⟩
      exact ⟨k', σ', hq, hs'⟩
    · exact plain _ Q k σ a w hd hl h hs
  | seq x y ihx ihy =>
    intro Q k σ a w hd hl h hs
    simp only [codeDst, codeLex, Bool.and_eq_true] at hd hl
    refine wp_seq (wp_mono (ihx _ k σ a w hd.1 hl.1 h hs) ?_)
    rintro e a' w' ⟨k', σ', hq, hs'⟩
    cases e with
    | normal => exact ihy Q k' σ' a' w' hd.2 hl.2 hq hs'
    | _ => exact ⟨k', σ', hq, hs'⟩
  | cond c x y ihx ihy =>
    intro Q k σ a w hd hl h hs
    simp only [codeDst, codeLex, Bool.and_eq_true] at hd hl
    have hV : ∃ F ι, V F w ι (oev σ.Γ c) (a.eval c) := by
      obtain ⟨_, F, _, _, ⟨_, ι, _, _, _, _, _, _, hV, _⟩, _⟩ := hs
      exact ⟨F, ι, V_oev fun t _ => hV t⟩
    obtain ⟨F, ι, hV⟩ := hV
    unfold AWPY at h
    split at h
    · rename_i t ht
      have hc : a.eval c = .bool t := by
        rw [ht] at hV
        generalize a.eval c = v at hV
        cases hV with | d _ _ h => cases h; rfl
      refine wp_cond hc ?_
      cases t
      · exact ihy Q k σ a w hd.2 hl.2 h hs
      · exact ihx Q k σ a w hd.1 hl.1 h hs
    · rename_i ht
      have hc : ∃ t, a.eval c = .bool t := by
        rw [ht] at hV
        generalize a.eval c = v at hV
        cases hV with | ub t => exact ⟨t, rfl⟩
      obtain ⟨t, hc⟩ := hc
      refine wp_cond hc ?_
      cases t
      · exact ihy Q k σ a w hd.2 hl.2 h.2 hs
      · exact ihx Q k σ a w hd.1 hl.1 h.1 hs
    · exact h.elim
  | block id c ih =>
    intro Q k σ a w hd hl h hs
    refine wp_block (wp_mono (ih _ k σ a w hd hl h hs) ?_)
    rintro e a' w' ⟨k', σ', hq, hs'⟩
    cases e with
    | exit id' =>
      simp only [Exit.inBlock] at hq ⊢
      split at hq
      · rename_i he; rw [if_pos he]; exact ⟨k', σ', hq, hs'⟩
      · rename_i he; rw [if_neg he]; exact ⟨k', σ', hq, hs'⟩
    | _ => exact ⟨k', σ', hq, hs'⟩
  | loop c ih =>
    intro Q k σ a w hd hl h hs
    unfold AWPY at h
    split at h
    · obtain ⟨τ, S, κ, m, x0, hk0, ⟨ρ, hk⟩, hround⟩ := h
      refine wp_loop_rel (fun n a w => ∃ x, m x = n ∧ RY A N J (κ x) (S x) a w) ⟨m x0, x0, rfl, by rw [hk0]; exact hs.weak hJ hk⟩ ?_
      rintro n a w ⟨x, rfl, hsx⟩
      refine wp_mono (ih _ (κ x) (S x) a w hd hl (hround x) hsx) ?_
      rintro e a' w' ⟨k', σ', hq, hs'⟩
      cases e with
      | normal =>
        obtain ⟨y, hlt, rfl, ρ, hk⟩ := hq
        exact ⟨m y, hlt, y, rfl, hs'.weak hJ hk⟩
      | _ => exact ⟨k', σ', hq, hs'⟩
    · exact plain _ Q k σ a w hd hl h hs
  | skip => intro Q k σ a w hd hl h hs; exact plain _ Q k σ a w hd hl h hs
  | exit id => intro Q k σ a w hd hl h hs; exact plain _ Q k σ a w hd hl h hs
  | ret => intro Q k σ a w hd hl h hs; exact plain _ Q k σ a w hd hl h hs
  | label l => intro Q k σ a w hd hl h hs; exact plain _ Q k σ a w hd hl h hs
  | scope c _ => intro Q k σ a w hd hl h hs; exact plain _ Q k σ a w hd hl h hs
  | _ => intro Q k σ a w hd hl h; exact h.elim
end

/-- The contract of an iterator, by the calculus over its body. -/
theorem seq_of {P : Program} {f N : Nat} {fn : Func} {c : Code} {caps : List D} {xs : List (List D)} (hm : P.follows .mixedOrders = true) (hf : P.funcs[f]? = some fn) (hb : fn.body = some c) (hname : (fn.name == "runtime.NumGoroutine") = false) (hN : fn.ntmps = N)
    (hd : codeDst N c = true) (hl' : codeLex P c = true) (ha : caps.length + 1 ≤ N)
    (h : ∀ l, AWPY P l xs c 0 (St0 (.lit (.func (.yield l) #[] #[]) :: caps) N) fun e k σ => (e = .normal ∨ e = .ret) ∧ k = xs.length ∧ ∃ r, resD P fn.results.toList σ = some r) : SeqSpec P f caps xs := by
  intro A W l lb hA hl hv
  have hn : ¬ fn.name = "runtime.NumGoroutine" := by simpa using hname
  refine ⟨fun args w => by simp [callFunc, hf, hn, hb], fun J hstab hround h0 => ?_⟩
  have hJ : JOk P l A xs J := ⟨hstab, hround⟩
  refine calls_of_wp hf hb ?_
  subst hN
  obtain ⟨F, M, h1, hM, hF, hK, _⟩ := (SR0 (N := fn.ntmps) (args := .lit (.func (.yield l) #[] #[]) :: caps) (vs := #[.func (.yield l) #[] #[]] ++ lb) hA (by simp; omega) (fun k d v hk hv' => by
    cases k with
    | zero => rw [Array.getElem?_append_left (by simp)] at hv'; simp at hk hv'; subst hk; subst hv'; exact .lit _
    | succ k => exact hv k d v (by simpa using hk) (by rw [Array.getElem?_append_right (by simp)] at hv'; simpa using hv')) (by simpa using ha)).srb
  simp only at hM hF hK
  have hMlt : ∀ b, M b → b < W.heap.size := by obtain ⟨_, _, _, _, q, _⟩ := h1; exact fun b h => (q b h).1
  have hFlt : ∀ b, F b → b < W.heap.size := by obtain ⟨_, _, q, _⟩ := h1; exact q
  have hM0 : ∀ b, ¬ M b := fun b hb => by
    rcases hM b hb with h | h
    · exact h
    · have := hMlt b hb; omega
  have hMe : M = none' := funext fun b => propext ⟨fun h => (hM0 b h).elim, fun h => h.elim⟩
  refine wp_mono (AWPY_sound (A := A) hm hJ c _ 0 _ _ W hd hl' (h l) ⟨none', F, M, by rw [hMe]; exact h0, h1, fun b hb => (hM0 b hb).elim, fun b hb => ?_, fun b hb => hb.elim⟩) ?_
  · rcases hF b hb with h | h | h
    · exact .inl h
    · exact h.elim
    · have := hFlt b hb; omega
  · rintro e a w ⟨k, σ, ⟨he, rfl, r, hr⟩, X, F, M, hj, hs, _⟩
    have hdf : a.defers = [] := by obtain ⟨_, _, _, _, _, _, _, _, _, _, q⟩ := hs; exact q
    obtain ⟨v, h1, _⟩ := run_results (hs.sr noZ fun _ _ e => by cases e) hr
    have hend : a.defers = [] ∧ ∃ v, (results fn a.tmps).run P w = .ok v w ∧ ((∃ v', Ending.returned v = .returned v') ∧ ∃ X O, J xs.length X O w) := ⟨hdf, v, h1, ⟨v, rfl⟩, X, M, hj⟩
    rcases he with rfl | rfl <;> exact hend

end Go.Am

namespace Go.Am
variable {P : Program}

theorem nv_makeFunc (f : FuncId) (cs : List Operand) (Γ : Nat → AV) (n : Nat) : nev P (.makeFunc (.func f) #[] cs.toArray) Γ n = some (.fn f (cs.map (oev Γ)), none) := by
  simp [nev, pureA]
theorem nv_index (t : TypeId) (x i : Operand) (Γ : Nat → AV) (n : Nat) : nev P (.index t x i) Γ n = pureA ((tarr P t).bind fun p => (tsz P p.2).bind fun sz => (tagg P p.2).bind fun ag => (intOfA (oev Γ i)).bind fun k => (agOf (oev Γ x)).bind fun cs =>
      if 0 ≤ k ∧ k < p.1 then (if ag then (if k.toNat * sz + sz ≤ cs.length then some (.ag ((cs.drop (k.toNat * sz)).take sz)) else none) else cs[k.toNat * sz]?) else none) := rfl
theorem inj_fn (f : FuncId) (cs : List D) : inj (.fn f cs) = .d (.fn f cs) := rfl
theorem inj1_fn (f : FuncId) (cs : List D) : inj1 (.fn f cs) = .d (.fn f cs) := rfl
theorem inj1_pt (cs : List D) : inj1 (.pt cs) = .fp cs := rfl
theorem inj1_lit (v : Value) : inj1 (.lit v) = .d (.lit v) := rfl
theorem kills_fn (H : Nat → Option HO) (avs : List AV) (f : FuncId) (cs : List D) : killsOf H avs (.fn f cs) = viss H avs := rfl
theorem kills_pt (H : Nat → Option HO) (avs : List AV) (cs : List D) : killsOf H avs (.pt cs) = viss H avs := rfl
theorem calleeA_fn (f : FuncId) (cs : List AV) : calleeA (.fn f cs) = some (f, cs) := rfl
theorem calleeA_dfn (f : FuncId) (cs : List D) : calleeA (.d (.fn f cs)) = some (f, cs.map inj1) := rfl
theorem calleeA_lit (f : FuncId) : calleeA (.d (.lit (.func (.func f) #[] #[]))) = some (f, []) := rfl
theorem frz_fnA (H : Nat → Option HO) (n : Nat) (f : FuncId) (cs : List AV) : frz H (n + 1) (.fn f cs) = (cs.mapM (frz H n)).map (.fn f) := rfl
theorem frz_fpA (H : Nat → Option HO) (n : Nat) (cs : List D) : frz H (n + 1) (.fp cs) = some (.pt cs) := rfl
theorem frz_ptrA (H : Nat → Option HO) (n : Nat) (id off : Nat) : frz H (n + 1) (.ptr id off) = match H id with
      | some (.cells _ cs) => if off ≤ cs.length then ((cs.drop off).mapM (frz H n)).map .pt else none
      | _ => none := rfl
theorem vis_fnA (H : Nat → Option HO) (n : Nat) (f : FuncId) (cs : List AV) : vis H (n + 1) (.fn f cs) = cs.flatMap (vis H n) := rfl
theorem vis_fpA (H : Nat → Option HO) (n : Nat) (cs : List D) : vis H (n + 1) (.fp cs) = [] := rfl
theorem vis_ptrA (H : Nat → Option HO) (n : Nat) (id off : Nat) : vis H (n + 1) (.ptr id off) = match H id with
      | some (.cells _ cs) => id :: (cs.drop off).flatMap (vis H n)
      | _ => [] := rfl
theorem cellsA_fn (f : FuncId) (cs : List AV) : cellsA (.fn f cs) = some [.fn f cs] := rfl
theorem cellsA_dfn (f : FuncId) (cs : List D) : cellsA (.d (.fn f cs)) = some [.d (.fn f cs)] := rfl
theorem scrub_fn (l : List Nat) (f : FuncId) (cs : List AV) : scrub l (.fn f cs) = .fn f (cs.map (scrubP l)) := rfl

section
variable (dst : Option Tmp) (ty : TypeId) (pos : String) (after : Array Edge) (guard : Option (Nat × Bool)) (σ : St) (con : List Nat) (k : St → List Nat → Prop)
theorem o1_makeFunc (f : Fn) (x y : Array Operand) (d : Dm ((⟨dst, .makeFunc f x y, ty, pos, after, guard⟩ : Oper), k)) : O1d P ⟨dst, .makeFunc f x y, ty, pos, after, guard⟩ σ con k d = BindP (nev P (.makeFunc f x y) σ.Γ σ.n) (fun p => k ⟨putA σ.Γ dst p.1, addB σ.H σ.n p.2, cnt p.2 σ.n⟩ con) .mk := o1_of_nev rfl rfl
theorem o1_index (t : TypeId) (x y : Operand) (d : Dm ((⟨dst, .index t x y, ty, pos, after, guard⟩ : Oper), k)) : O1d P ⟨dst, .index t x y, ty, pos, after, guard⟩ σ con k d = BindP (nev P (.index t x y) σ.Γ σ.n) (fun p => k ⟨putA σ.Γ dst p.1, addB σ.H σ.n p.2, cnt p.2 σ.n⟩ con) .mk := o1_of_nev rfl rfl

/-- A call of a function value, by contract. -/
def CallV (P : Program) (c : Option (FuncId × List AV)) (avs : List AV) (H : Nat → Option HO) (k : List AV → D → Prop) (_ : Dm k) : Prop := match c with
  | some (f, cs) => ∃ ds r, frzs H (avs ++ cs) = some ds ∧ Spec P f ds r ∧ k (avs ++ cs) r
  | none => False
theorem callV_intro {f : FuncId} {cs avs : List AV} {H : Nat → Option HO} {k : List AV → D → Prop} {d : Dm k} {ds : List D} {r : D} (h1 : frzs H (avs ++ cs) = some ds) (h2 : Spec P f ds r) (h3 : k (avs ++ cs) r) : CallV P (some (f, cs)) avs H k d := ⟨ds, r, h1, h2, h3⟩
theorem o1_callV (t : Tmp) (args : List Operand) (ts : Array TypeId) (d : Dm ((⟨dst, .call ⟨.value (.tmp t), args.toArray, ts⟩, ty, pos, after, guard⟩ : Oper), k)) : O1d P ⟨dst, .call ⟨.value (.tmp t), args.toArray, ts⟩, ty, pos, after, guard⟩ σ con k d =
    CallV P (calleeA (σ.Γ t)) (args.map (oev σ.Γ)) σ.H (fun avs r => k ⟨putA σ.Γ dst (inj r), kill (killsOf σ.H avs r) σ.H, σ.n⟩ (killsOf σ.H avs r ++ con)) .mk := by
  unfold O1d; simp only [O1, CallV]
  cases calleeA (σ.Γ t) with
  | none => rfl
  | some p => obtain ⟨f, cs⟩ := p; rfl
end

/-! ### Iterators -/
theorem awpY_plain {l : Nat} {xs : List (List D)} : ∀ (c : Code) {k : Nat} {σ : St} {Q : Exit → Nat → St → Prop}, hasY c = false → (AWP P c σ fun e σ' => Q e k σ') → AWPY P l xs c k σ Q := by
  intro c
  induction c with
  | region id ops draw =>
    intro k σ Q hy h
    unfold AWPY
    simp only [hasY] at hy
    rw [hy]
    exact h
  | seq x y ihx ihy =>
    intro k σ Q hy h
    simp only [hasY, Bool.or_eq_false_iff] at hy
    refine ihx hy.1 (AWP_mono x (fun e σ h => ?_) h)
    cases e with
    | normal => exact ihy hy.2 h
    | _ => exact h
  | cond c x y ihx ihy =>
    intro k σ Q hy h
    simp only [hasY, Bool.or_eq_false_iff] at hy
    unfold AWPY
    unfold AWP at h
    split
    · rename_i t ht
      simp only [ht] at h
      cases t
      · exact ihy hy.2 h
      · exact ihx hy.1 h
    · rename_i ht
      simp only [ht] at h
      exact ⟨ihx hy.1 h.1, ihy hy.2 h.2⟩
    · rename_i h1 h2
      split at h
      · rename_i t ht; exact h1 _ ht
      · rename_i ht; exact h2 ht
      · exact h
  | block id c ih =>
    intro k σ Q hy h
    refine ih hy (AWP_mono c (fun e σ h => ?_) h)
    cases e <;> exact h
  | loop c ih =>
    intro k σ Q hy h
    simp only [hasY] at hy
    unfold AWPY
    rw [hy]
    exact h
  | _ => intro k σ Q _ h; exact h

@[congr] theorem awpY_congr {l : Nat} {xs : List (List D)} {c : Code} {k : Nat} {σ σ' : St} {Q : Exit → Nat → St → Prop} (h : σ = σ') : AWPY P l xs c k σ Q = AWPY P l xs c k σ' Q := by rw [h]

/-- The first part of a sequence makes no call of yield. -/
theorem awpY_seqL {l : Nat} {xs : List (List D)} {x y : Code} {k : Nat} {σ : St} {Q : Exit → Nat → St → Prop} (hy : hasY x = false) (h : AWP P x σ fun e σ' => match e with | .normal => AWPY P l xs y k σ' Q | e => Q e k σ') : AWPY P l xs (.seq x y) k σ Q := by
  refine awpY_plain (l := l) (xs := xs) x (k := k) hy (AWP_mono x (fun e σ h => ?_) h)
  cases e <;> exact h

theorem awpY_block {l : Nat} {xs : List (List D)} {id : Nat} {c : Code} {k : Nat} {σ : St} {Q : Exit → Nat → St → Prop} (h : AWPY P l xs c k σ fun e k' σ' => match e with | .exit id' => if id' = id then Q .normal k' σ' else Q (.exit id') k' σ' | e => Q e k' σ') : AWPY P l xs (.block id c) k σ Q := h
theorem awpY_seq {l : Nat} {xs : List (List D)} {x y : Code} {k : Nat} {σ : St} {Q : Exit → Nat → St → Prop} (h : AWPY P l xs x k σ fun e k' σ' => match e with | .normal => AWPY P l xs y k' σ' Q | e => Q e k' σ') : AWPY P l xs (.seq x y) k σ Q := h

/-- The region that calls yield. -/
theorem awpY_yield {l : Nat} {xs : List (List D)} {id : Nat} {ops : Array Oper} {k : Nat} {σ : St} {Q : Exit → Nat → St → Prop} {pre post : List Oper} {y : Oper} (hs : spanY ops.toList = some (pre, y, post))
    (h : OWd P ops pre σ [] (fun σ1 con1 => YO l xs y k (fin σ1 con1) fun σ2 => OWd P ops post σ2 [] (fun σ3 con3 => FinP σ3 con3 (Q .normal (k + 1)) .mk) .mk) .mk) : AWPY P l xs (.region id ops false) k σ Q := by
  unfold AWPY
  rw [hs]
  refine ⟨rfl, ?_⟩
  unfold YR
  rw [hs]
  exact h
@[congr] theorem yO_congr {l : Nat} {xs : List (List D)} {y : Oper} {k : Nat} {σ σ' : St} {K : St → Prop} (h : σ = σ') : YO l xs y k σ K = YO l xs y k σ' K := by rw [h]
theorem yO_intro {l : Nat} {xs : List (List D)} {dst : Option Tmp} {t : Tmp} {args : List Operand} {ts : Array TypeId} {ty : TypeId} {pos : String} {after : Array Edge} {guard : Option (Nat × Bool)} {k : Nat} {σ : St} {K : St → Prop} {dd : List D} {l2 : List Nat}
    (h1 : σ.Γ t = .d (.lit (.func (.yield l) #[] #[]))) (h2 : frzs σ.H (args.map (oev σ.Γ)) = some dd) (h3 : xs[k]? = some dd) (h4 : viss σ.H (args.map (oev σ.Γ)) = l2)
    (h5 : K ⟨putA (used σ l2).Γ dst (.d (.b true)), (used σ l2).H, (used σ l2).n⟩) : YO l xs ⟨dst, .call ⟨.value (.tmp t), args.toArray, ts⟩, ty, pos, after, guard⟩ k σ K := by
  subst h4
  exact ⟨h1, dd, h2, h3, h5⟩

/-- A round's end. -/
def NxtY {τ : Type} (I : τ → Prop) (m κ : τ → Nat) (S : τ → St) (x : τ) (k : Nat) (σ' : St) (_ : Dm (I, m, κ, S, x)) : Prop := ∃ y, I y ∧ m y < m x ∧ κ y = k ∧ ∃ ρ, Wk σ' (S y) ρ
theorem awpY_loop {τ : Type} {l : Nat} {xs : List (List D)} {c : Code} {k : Nat} {σ : St} {Q : Exit → Nat → St → Prop} (hy : hasY c = true) (I : τ → Prop) (S : τ → St) (κ m : τ → Nat) (x0 : τ) (hI : I x0) (hk : κ x0 = k) (h0 : ∃ ρ, Wk σ (S x0) ρ)
    (h : ∀ x, I x → AWPY P l xs c (κ x) (S x) fun e k' σ' => match e with | .normal => NxtY I m κ S x k' σ' .mk | e => Q e k' σ') : AWPY P l xs (.loop c) k σ Q := by
  unfold AWPY
  rw [if_pos hy]
  refine ⟨{ x : τ // I x }, fun x => S x.1, fun x => κ x.1, fun x => m x.1, ⟨x0, hI⟩, hk, h0, fun x => ?_⟩
  refine cast (congrArg (AWPY P l xs c (κ x.1) (S x.1)) ?_) (h x.1 x.2)
  funext e k' σ'
  cases e with
  | normal => exact propext ⟨fun ⟨y, h1, h2, h3⟩ => ⟨⟨y, h1⟩, h2, h3⟩, fun ⟨y, h2, h3⟩ => ⟨y.1, y.2, h2, h3⟩⟩
  | _ => rfl

/-! ### Functions that range over one -/
def hasR : Code → Bool
  | .seq x y => hasR x || hasR y
  | .block _ c => hasR c
  | .rangeFunc .. => true
  | _ => false

theorem awpR_plain {N : Nat} : ∀ (c : Code) {σ : St} {Q : Exit → St → Prop}, hasR c = false → AWP P c σ Q → AWPR P N c σ Q := by
  intro c
  induction c with
  | seq x y ihx ihy =>
    intro σ Q hr h
    simp only [hasR, Bool.or_eq_false_iff] at hr
    refine ihx hr.1 (AWP_mono x (fun e σ h => ?_) h)
    cases e with
    | normal => exact ihy hr.2 h
    | _ => exact h
  | block id c ih => intro σ Q hr h; exact ih hr h
  | rangeFunc => intro σ Q hr; cases hr
  | _ => intro σ Q _ h; exact h

@[congr] theorem awpR_congr {N : Nat} {c : Code} {σ σ' : St} {Q : Exit → St → Prop} (h : σ = σ') : AWPR P N c σ Q = AWPR P N c σ' Q := by rw [h]
theorem awpR_seqL {N : Nat} {x y : Code} {σ : St} {Q : Exit → St → Prop} (hr : hasR x = false) (h : AWP P x σ fun e σ' => match e with | .normal => AWPR P N y σ' Q | e => Q e σ') : AWPR P N (.seq x y) σ Q := by
  refine awpR_plain x hr (AWP_mono x (fun e σ h => ?_) h)
  cases e <;> exact h
theorem awpR_seq {N : Nat} {x y : Code} {σ : St} {Q : Exit → St → Prop} (h : AWPR P N x σ fun e σ' => match e with | .normal => AWPR P N y σ' Q | e => Q e σ') : AWPR P N (.seq x y) σ Q := h
theorem awpR_block {N id : Nat} {c : Code} {σ : St} {Q : Exit → St → Prop} (h : AWPR P N c σ fun e σ' => match e with | .exit id' => if id' = id then Q .normal σ' else Q (.exit id') σ' | e => Q e σ') : AWPR P N (.block id c) σ Q := h

/-- One round's end, in a range over a function. -/
def NxtR (wl : List Nat) (T : St) (σ2 : St) (_ : Dm (wl, T)) : Prop := ∃ ρ, Wk ⟨fun t => if wl.contains t then .any else σ2.Γ t, σ2.H, σ2.n⟩ T ρ
theorem awpR_range {N : Nat} {g : Operand} {ps : Array Tmp} {assign body : Code} {σ : St} {Q : Exit → St → Prop} {gf : FuncId} {cs : List AV} {caps : List D} (xs : List (List D)) (T : Nat → St) (wl : List Nat)
    (hg : calleeA (oev σ.Γ g) = some (gf, cs)) (hf : frzs σ.H cs = some caps) (hseq : SeqSpec P gf caps xs) (h0 : ∃ ρ, Wk (used σ (viss σ.H cs)) (T 0) ρ)
    (hc : (codeDst N assign && codeDst N body && codeLex P assign && codeLex P body && codeRd assign && codeRd body && codeNZ (fun t => !wl.contains t) assign && codeNZ (fun t => !wl.contains t) body && ps.toList.all fun p => decide (p < N) && wl.contains p) = true)
    (hr : ∀ k x, xs[k]? = some x → x.length = ps.size ∧ AWP P assign ⟨setΓ (ps.toList.zip x) (T k).Γ, (T k).H, (T k).n⟩ fun e σ1 => match e with
      | .normal => AWP P body σ1 fun e σ2 => match e with | .normal => NxtR wl (T (k + 1)) σ2 .mk | _ => False
      | _ => False)
    (hq : Q .normal (T xs.length)) : AWPR P N (.rangeFunc g ps assign body) σ Q := by
  simp only [Bool.and_eq_true, List.all_eq_true, decide_eq_true_eq] at hc
  obtain ⟨⟨⟨⟨⟨⟨⟨⟨d1, d2⟩, l1⟩, l2⟩, r1⟩, r2⟩, z1⟩, z2⟩, hps⟩ := hc
  refine ⟨gf, cs, caps, xs, T, wl, hg, hf, hseq, ⟨⟨d1, d2⟩, ⟨l1, l2⟩, ⟨r1, r2⟩, ⟨z1, z2⟩, hps, fun k x hx => ⟨(hr k x hx).1, AWP_mono assign (fun e σ1 h => ?_) (hr k x hx).2⟩⟩, h0, hq⟩
  cases e with
  | normal =>
    refine ⟨rfl, AWP_mono body (fun e σ2 h => ?_) h⟩
    cases e with
    | normal => exact ⟨rfl, h⟩
    | _ => exact h.elim
  | _ => exact h.elim

theorem awpR_range0 {N : Nat} {g : Operand} {ps : Array Tmp} {assign body : Code} {σ : St} {Q : Exit → St → Prop} {gf : FuncId} {cs : List AV} {caps : List D} (xs : List (List D)) (T : Nat → St) (wl : List Nat)
    (hg : calleeA (oev σ.Γ g) = some (gf, cs)) (hf : frzs σ.H cs = some caps) (hv : viss σ.H cs = []) (hseq : SeqSpec P gf caps xs) (h0 : ∃ ρ, Wk σ (T 0) ρ)
    (hc : (codeDst N assign && codeDst N body && codeLex P assign && codeLex P body && codeRd assign && codeRd body && codeNZ (fun t => !wl.contains t) assign && codeNZ (fun t => !wl.contains t) body && ps.toList.all fun p => decide (p < N) && wl.contains p) = true)
    (hr : ∀ k x, xs[k]? = some x → x.length = ps.size ∧ AWP P assign ⟨setΓ (ps.toList.zip x) (T k).Γ, (T k).H, (T k).n⟩ fun e σ1 => match e with
      | .normal => AWP P body σ1 fun e σ2 => match e with | .normal => NxtR wl (T (k + 1)) σ2 .mk | _ => False
      | _ => False)
    (hq : Q .normal (T xs.length)) : AWPR P N (.rangeFunc g ps assign body) σ Q :=
  awpR_range xs T wl hg hf hseq (by rw [hv]; exact h0) hc hr hq

attribute [simp] nv_makeFunc nv_index inj_fn inj1_fn inj1_pt inj1_lit calleeA_fn calleeA_dfn calleeA_lit frz_fnA frz_fpA frz_ptrA vis_fnA vis_fpA vis_ptrA cellsA_fn cellsA_dfn scrub_fn kills_fn kills_pt

end Go.Am
