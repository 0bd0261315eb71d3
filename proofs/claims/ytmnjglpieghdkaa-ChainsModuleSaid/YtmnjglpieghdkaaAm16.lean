/- The abstract machine, part 16: code, and contracts out of it. No condition. -/
import Derived.Test.YtmnjglpieghdkaaAm15
import Derived.Scope
import Derived.Defers
namespace Go.Am
open RowKit (Below)

/-- A weakest precondition over abstract states. -/
def AWP (P : Program) : Code → St → (Exit → St → Prop) → Prop
  | .skip, σ, Q => Q .normal σ
  | .region _ ops _, σ, Q => OW P ops ops.toList σ [] fun σ' con => Q .normal (fin σ' con)
  | .seq x y, σ, Q => AWP P x σ fun e σ' => match e with | .normal => AWP P y σ' Q | e => Q e σ'
  | .cond c x y, σ, Q => match oev σ.Γ c with | .d (.b t) => if t then AWP P x σ Q else AWP P y σ Q | .ub => AWP P x σ Q ∧ AWP P y σ Q | _ => False
  | .block id c, σ, Q => AWP P c σ fun e σ' => match e with | .exit id' => if id' = id then Q .normal σ' else Q (.exit id') σ' | e => Q e σ'
  | .loop c, σ, Q => ∃ (τ : Type) (S : τ → St) (m : τ → Nat) (x0 : τ), (∃ ρ, Wk σ (S x0) ρ) ∧ ∀ x, AWP P c (S x) fun e σ' => match e with | .normal => ∃ y, m y < m x ∧ ∃ ρ, Wk σ' (S y) ρ | e => Q e σ'
  | .exit id, σ, Q => Q (.exit id) σ
  | .ret, σ, Q => Q .ret σ
  | .label _, σ, Q => Q .normal σ
  | .scope c, σ, Q => AWP P c σ fun e σ' => match e with | .goto _ => False | e => Q e σ'
  | _, _, _ => False

def opsDst (N : Nat) (ops : Array Oper) : Bool := ops.all fun o => match o.dst with | some d => decide (d < N) | none => true

def codeDst (N : Nat) : Code → Bool
  | .region _ ops _ => opsDst N ops
  | .seq x y | .cond _ x y => codeDst N x && codeDst N y
  | .block _ c | .loop c | .scope c => codeDst N c
  | _ => true

/-- Drawn regions may be walked in the text's order. -/
def codeLex (P : Program) : Code → Bool
  | .region _ ops draw => !draw || lexB2 P ops
  | .seq x y | .cond _ x y => codeLex P x && codeLex P y
  | .block _ c | .loop c | .scope c => codeLex P c
  | _ => true

theorem opsDst_spec {N : Nat} {ops : Array Oper} (h : opsDst N ops = true) : ∀ (i : Nat) (o : Oper) (d : Tmp), ops[i]? = some o → o.dst = some d → d < N := by
  intro i o d hi hd
  have := Array.all_eq_true_iff_forall_mem.1 h o (Array.mem_of_getElem? hi)
  rw [hd] at this
  simpa using this

section
variable {P : Program} {G : Ctx} {N : Nat} {ds : List Deferred}

theorem wp_loop_rel {c : Code} {Q : Exit → Act → World → Prop} {a : Act} {w : World} (I : Nat → Act → World → Prop) (h₀ : ∃ n, I n a w)
    (round : ∀ n a w, I n a w → c.wp P (Exit.then (fun a' w' => ∃ m, m < n ∧ I m a' w') Q) a w) : (Code.loop c).wp P Q a w := by
  intro b k cs
  have key : ∀ n a w, I n a w → ∃ e a' w', Q e a' w' ∧ Arrives P (lone (b.at a (.code c :: .inLoop c :: k)) cs w) b k cs e a' w' := by
    intro n
    induction n using Nat.strongRecOn with
    | _ n ih =>
      intro a w hI
      obtain ⟨e, a₁, w₁, hq, harr⟩ := round n a w hI b (.inLoop c :: k) cs
      cases e with
      | normal =>
        obtain ⟨m, hlt, hI₁⟩ := hq
        obtain ⟨e₂, a₂, w₂, hq₂, harr₂⟩ := ih m hlt a₁ w₁ hI₁
        exact ⟨e₂, a₂, w₂, hq₂, .of_steps (Steps.trans harr (.one step_inLoop)) harr₂⟩
      | exit id => exact ⟨_, a₁, w₁, hq, .pass (x := .inLoop c) rfl (fun _ _ => .inl (by simp)) harr⟩
      | goto l => exact ⟨_, a₁, w₁, hq, .pass (x := .inLoop c) rfl (fun _ _ => .inl (by simp)) harr⟩
      | ret => exact ⟨_, a₁, w₁, hq, .pass (x := .inLoop c) rfl (fun _ _ => .inl (by simp)) harr⟩
      | panic ch => exact ⟨_, a₁, w₁, hq, .pass (x := .inLoop c) rfl (fun _ _ => .inl (by simp)) harr⟩
      | outgrown => exact ⟨_, a₁, w₁, hq, .pass (x := .inLoop c) rfl (fun _ _ => .inl (by simp)) harr⟩
  obtain ⟨n, hn⟩ := h₀
  obtain ⟨e, a', w', hq, harr⟩ := key n a w hn
  exact ⟨e, a', w', hq, .of_steps (.one step_loop) harr⟩

/-- The calculus is right. -/
theorem AWP_sound (hm : P.follows .mixedOrders = true) : ∀ (c : Code) (Q : Exit → St → Prop) (σ : St) (a : Act) (w : World), codeDst N c = true → codeLex P c = true → AWP P c σ Q → SR G N ds σ a w →
    c.wp P (fun e a' w' => ∃ σ', Q e σ' ∧ SR G N ds σ' a' w') a w := by
  intro c
  induction c with
  | skip => intro Q σ a w _ _ h hs; exact wp_skip ⟨σ, h, hs⟩
  | region id ops draw =>
    intro Q σ a w hd hl h hs
    exact region_sound (Q := Q .normal) hm (opsDst_spec hd) (fun hdr => by simpa [codeLex, hdr] using hl) hs h fun σ' a' w' hq hs' => ⟨σ', hq, hs'⟩
  | seq x y ihx ihy =>
    intro Q σ a w hd hl h hs
    simp only [codeDst, codeLex, Bool.and_eq_true] at hd hl
    refine wp_seq (wp_mono (ihx _ σ a w hd.1 hl.1 h hs) ?_)
    rintro e a' w' ⟨σ', hq, hs'⟩
    cases e with
    | normal => exact ihy Q σ' a' w' hd.2 hl.2 hq hs'
    | _ => exact ⟨σ', hq, hs'⟩
  | cond c x y ihx ihy =>
    intro Q σ a w hd hl h hs
    simp only [codeDst, codeLex, Bool.and_eq_true] at hd hl
    unfold AWP at h
    split at h
    rotate_left
    · rename_i ht
      have hc : ∃ t, a.eval c = .bool t := by
        obtain ⟨_, _, F, ι, _, _, hV, _⟩ := hs
        have := V_oev (Γ := σ.Γ) (a := a) (x := c) (F := F) (w := w) (ι := ι) fun t _ => hV t
        rw [ht] at this
        generalize a.eval c = v at this
        cases this with | ub t => exact ⟨t, rfl⟩
      obtain ⟨t, hc⟩ := hc
      refine wp_cond hc ?_
      cases t
      · exact ihy Q σ a w hd.2 hl.2 h.2 hs
      · exact ihx Q σ a w hd.1 hl.1 h.1 hs
    · exact h.elim
    · rename_i t ht
      have hc : a.eval c = .bool t := by
        obtain ⟨_, _, F, ι, _, _, hV, _⟩ := hs
        have := V_oev (Γ := σ.Γ) (a := a) (x := c) (F := F) (w := w) (ι := ι) fun t _ => hV t
        rw [ht] at this
        generalize a.eval c = v at this
        cases this with | d _ _ h => cases h; rfl
      refine wp_cond hc ?_
      cases t
      · exact ihy Q σ a w hd.2 hl.2 h hs
      · exact ihx Q σ a w hd.1 hl.1 h hs
  | block id c ih =>
    intro Q σ a w hd hl h hs
    refine wp_block (wp_mono (ih _ σ a w hd hl h hs) ?_)
    rintro e a' w' ⟨σ', hq, hs'⟩
    cases e with
    | exit id' =>
      simp only [Exit.inBlock] at hq ⊢
      split at hq
      · rename_i he; rw [if_pos he]; exact ⟨σ', hq, hs'⟩
      · rename_i he; rw [if_neg he]; exact ⟨σ', hq, hs'⟩
    | _ => exact ⟨σ', hq, hs'⟩
  | loop c ih =>
    intro Q σ a w hd hl h hs
    obtain ⟨τ, S, m, x0, ⟨ρ, hk⟩, hround⟩ := h
    refine wp_loop_rel (fun n a w => ∃ x, m x = n ∧ SR G N ds (S x) a w) ⟨m x0, x0, rfl, SR_weak hk hs⟩ ?_
    rintro n a w ⟨x, rfl, hsx⟩
    refine wp_mono (ih _ (S x) a w hd hl (hround x) hsx) ?_
    rintro e a' w' ⟨σ', hq, hs'⟩
    cases e with
    | normal =>
      obtain ⟨y, hlt, ρ, hk⟩ := hq
      exact ⟨m y, hlt, y, rfl, SR_weak hk hs'⟩
    | _ => exact ⟨σ', hq, hs'⟩
  | exit id => intro Q σ a w _ _ h hs; exact wp_exit ⟨σ, h, hs⟩
  | ret => intro Q σ a w _ _ h hs; exact wp_ret ⟨σ, h, hs⟩
  | label l => intro Q σ a w _ _ h hs; exact wp_label ⟨σ, h, hs⟩
  | scope c ih =>
    intro Q σ a w hd hl h hs
    refine wp_scope_straight (wp_mono (ih _ σ a w hd hl h hs) ?_)
    rintro e a' w' ⟨σ', hq, hs'⟩
    cases e with
    | goto l => exact hq.elim
    | _ => exact ⟨σ', hq, hs'⟩
  | _ => intro Q σ a w _ _ h; exact h.elim

/-- A result, as it is read at the end. -/
def res1 (P : Program) (σ : St) : ResultVar → Option AV
  | .tmp t => some (σ.Γ t)
  | .cell ad t => loadA P σ.H t (σ.Γ ad)

def resD (P : Program) (rs : List ResultVar) (σ : St) : Option D :=
  (rs.mapM (res1 P σ)).bind fun avs => (frzs σ.H avs).map fun l => match l with | [x] => x | l => .tp l

theorem run_results' {fn : Func} {σ : St} {a : Act} {w : World} {r : D} {F : Nat → Prop} {ι : Nat → Option Nat} (hR : HR G F w ι none' σ.H) (hV : ∀ t, V F w ι (σ.Γ t) (a.tmps.getD t undef)) (h : resD P fn.results.toList σ = some r) :
    ∃ v, (results fn a.tmps).run P w = .ok v w ∧ VD (fun b => F b ∨ ∃ id e cs, σ.H id = some (.cells e cs) ∧ ι id = some b) w r v := by
  obtain ⟨avs, havs, h⟩ := Option.bind_eq_some_iff.1 h
  obtain ⟨l, hl, rfl⟩ := Option.map_eq_some_iff.1 h
  have hrun : ∀ (rs : List ResultVar) (avs : List AV), rs.mapM (res1 P σ) = some avs → ∃ vs : List Value, (rs.mapM (m := Sem) fun | .tmp t => pure (a.tmps.getD t undef) | .cell ad t => do loadVar t (← asAddr (a.tmps.getD ad undef))).run P w = .ok vs w ∧
      vs.length = avs.length ∧ ∀ (k : Nat) c v, avs[k]? = some c → vs[k]? = some v → V F w ι c v := by
    intro rs
    induction rs with
    | nil => intro avs h; simp at h; subst h; exact ⟨[], by simp, rfl, fun k c v h => by simp at h⟩
    | cons x rs ih =>
      intro avs h
      simp only [List.mapM_cons, Option.bind_eq_bind, Option.bind_eq_some_iff, Option.pure_def, Option.some.injEq] at h
      obtain ⟨av, hav, avs', havs', rfl⟩ := h
      obtain ⟨vs, h1, h2, h3⟩ := ih avs' havs'
      have hx : ∃ v, ((match x with | .tmp t => pure (a.tmps.getD t undef) | .cell ad t => do loadVar t (← asAddr (a.tmps.getD ad undef))) : Sem Value).run P w = .ok v w ∧ V F w ι av v := by
        cases x with
        | tmp t => simp only [res1, Option.some.injEq] at hav; subst hav; exact ⟨_, by simp, hV t⟩
        | cell ad t =>
          simp only [res1] at hav
          obtain ⟨u, hu, hv⟩ := loadA_V (P := P) hR (fun _ _ h => h) hav (hV ad)
          refine ⟨u, ?_, hv⟩
          show (do loadVar t (← asAddr (a.tmps.getD ad undef)) : Sem Value).run P w = _
          simp only [Instr.loadAt] at hu
          generalize a.tmps.getD ad undef = p at hu ⊢
          cases p with
          | pointer q => cases q with
            | some q => simpa [Instr.sureAddr, asAddr] using hu
            | none => simp [Instr.sureAddr, stuck, Sem.run] at hu
          | _ => simp [Instr.sureAddr, stuck, Sem.run] at hu
      obtain ⟨v, hv, hvv⟩ := hx
      refine ⟨v :: vs, ?_, by simp [h2], fun k c u hc hu => ?_⟩
      · simp only [List.mapM_cons, Sem.run_bind, hv, Result.andThen_ok, h1, Sem.run_pure]
      · rcases k with _ | k
        · simp at hc hu; subst hc; subst hu; exact hvv
        · exact h3 k c u (by simpa using hc) (by simpa using hu)
  obtain ⟨vs, h1, h2, h3⟩ := hrun _ _ havs
  obtain ⟨q1, q2⟩ := mapM_get _ _ _ hl
  have hVD : ∀ (k : Nat) d v, l[k]? = some d → vs[k]? = some v → VD (fun b => F b ∨ ∃ id e cs, σ.H id = some (.cells e cs) ∧ ι id = some b) w d v := by
    intro k d v hd hv
    obtain ⟨c, hc, hf⟩ := q2 k d hd
    refine (frz_V hR (fun _ _ h => h) 8 c v d hf (h3 k c v hc hv)).1.mono ?_
    rintro b (hb | ⟨id, hid, hb⟩)
    · exact .inl hb
    · obtain ⟨e, cs, he⟩ := vis_cells _ _ _ _ hid
      exact .inr ⟨id, e, cs, he, hb⟩
  have hres : (results fn a.tmps).run P w = .ok (if h : vs.toArray.size = 1 then vs.toArray[0] else .tuple vs.toArray) w := by
    simp only [results, Array.mapM_eq_mapM_toList, Sem.run_bind, Sem.run_map]
    erw [h1]
    simp
  refine ⟨_, hres, ?_⟩
  have hlen : l.length = vs.length := by omega
  match l, hlen, hVD with
  | [x], hlen, hVD =>
    match vs, hlen, hVD with
    | [v], _, hVD => exact hVD 0 x v rfl rfl
  | [], hlen, hVD =>
    have : vs = [] := List.eq_nil_of_length_eq_zero (by simpa using hlen.symm)
    subst this
    exact .tp _ _ rfl fun k c v h => by simp at h
  | x :: y :: l, hlen, hVD =>
    have hne : ¬ vs.toArray.size = 1 := by simp at hlen ⊢; omega
    rw [dif_neg hne]
    exact .tp _ _ (by simpa using hlen) fun k c v hc hv => hVD k c v hc (by simpa using hv)

theorem run_results {fn : Func} {σ : St} {a : Act} {w : World} {r : D} (hs : SR G N ds σ a w) (h : resD P fn.results.toList σ = some r) :
    ∃ v, (results fn a.tmps).run P w = .ok v w ∧ VD (fun b => G.A b ∨ G.M b ∨ (G.W.heap.size ≤ b ∧ b < w.heap.size)) w r v := by
  obtain ⟨_, _, F, ι, hR, hdom, hV, _⟩ := hs
  obtain ⟨v, h1, h2⟩ := run_results' hR hV h
  refine ⟨v, h1, h2.mono ?_⟩
  rintro b (hb | ⟨id, _, _, _, hb⟩)
  · rcases hR.F_ok b hb with h | h | h
    · exact .inl h
    · exact .inr (.inl h)
    · exact .inr (.inr ⟨h, hR.F_lt b hb⟩)
  · rcases (hR.place id b hb).1 with h | h
    · exact .inr (.inl h)
    · exact .inr (.inr ⟨h, hR.ι_lt hb⟩)

def Γ0 (args : List D) (N : Nat) : Nat → AV := fun t => match args[t]? with | some d => inj1 d | none => if t < N then .un else .un

def St0 (args : List D) (N : Nat) : St := ⟨Γ0 args N, fun _ => none, 1⟩

theorem SR0 {A : Nat → Prop} {W : World} {vs : Array Value} {args : List D} (hA : ∀ b, A b → b < W.heap.size) (hl : args.length = vs.size) (hv : ∀ (k : Nat) d v, args[k]? = some d → vs[k]? = some v → VD A W d v) (hN : args.length ≤ N) :
    SR ⟨W, A, none', fun _ => True⟩ N [] (St0 args N) { tmps := vs ++ Array.replicate (N - vs.size) undef, defers := [] } W := by
  refine ⟨fun _ _ => rfl, fun h => by simp [St0] at h, A, fun _ => none, ⟨.refl _ _ _, hA, fun b h => .inl h, fun _ _ h => by simp at h, fun _ _ _ h => by simp at h, fun _ _ _ h => by simp at h, fun _ _ _ _ _ h => by simp at h⟩, fun id => by simp [St0], fun t => ?_, by simp; omega, rfl, fun _ h => by simp at h⟩
  simp only [St0, Γ0]
  by_cases ht : t < args.length
  · rw [List.getElem?_eq_getElem ht]
    have ht' : t < vs.size := by omega
    have : (vs ++ Array.replicate (N - vs.size) undef).getD t undef = vs[t] := by
      simp only [Array.getD_eq_getD_getElem?]
      rw [Array.getElem?_append_left ht', Array.getElem?_eq_getElem ht']; rfl
    rw [this]
    exact V_inj1 (hv t _ _ (List.getElem?_eq_getElem ht) (Array.getElem?_eq_getElem ht'))
  · rw [List.getElem?_eq_none (by omega)]
    have : (vs ++ Array.replicate (N - vs.size) undef).getD t undef = undef := by
      simp only [Array.getD_eq_getD_getElem?]
      rw [Array.getElem?_append_right (by omega)]
      by_cases h2 : t - vs.size < N - vs.size
      · rw [Array.getElem?_replicate, if_pos h2]; rfl
      · rw [Array.getElem?_replicate, if_neg h2]; rfl
    rw [this]
    simp only [ite_self]
    exact .un

/-- A contract, by the calculus over the function's body. -/
theorem spec_of {f N : Nat} {fn : Func} {c : Code} {args : List D} {r : D} (hm : P.follows .mixedOrders = true) (hf : P.funcs[f]? = some fn) (hb : fn.body = some c) (hname : (fn.name == "runtime.NumGoroutine") = false) (hN : fn.ntmps = N)
    (hd : codeDst N c = true) (hl' : codeLex P c = true) (ha : args.length ≤ N) (h : AWP P c (St0 args N) fun e σ => (e = .normal ∨ e = .ret) ∧ resD P fn.results.toList σ = some r) : Spec P f args r := by
  intro A W vs hA hl hv
  have hn : ¬ fn.name = "runtime.NumGoroutine" := by simpa using hname
  refine ⟨fun w => by simp [callFunc, hf, hn, hb], ?_⟩
  refine calls_of_wp hf hb ?_
  subst hN
  refine wp_mono (AWP_sound hm c _ _ _ _ hd hl' h (SR0 hA hl hv ha)) ?_
  rintro e a w ⟨σ, ⟨he, hr⟩, hs⟩
  obtain ⟨v, hrun, hvd⟩ := run_results hs hr
  obtain ⟨_, _, F, ι, hR, _, _, _, hdf, _⟩ := hs
  have hend : a.defers = [] ∧ ∃ v, (results fn a.tmps).run P w = .ok v w ∧ ∃ v', Ending.returned v = .returned v' ∧ Below W.heap.size W w ∧ VD (fun b => A b ∨ (W.heap.size ≤ b ∧ b < w.heap.size)) w r v' := by
    refine ⟨hdf, v, hrun, v, rfl, ⟨hR.kept.os, hR.kept.tape, hR.kept.output, hR.kept.size, fun k hk => hR.kept.block k hk (fun h => h)⟩, hvd.mono ?_⟩
    rintro b (h | h | h)
    · exact .inl h
    · exact h.elim
    · exact .inr h
  rcases he with rfl | rfl <;> exact hend

/-- A deferred function that does nothing where nothing has gone wrong. -/
def RecSpec (P : Program) (g : FuncId) : Prop :=
  (∀ w, (callFunc g #[]).run P w = .ok (.enter g #[]) w) ∧ ∀ w, CallsD P g #[] .returning w fun e u' w' => e = .returned (.tuple #[]) ∧ u' = .returning ∧ w' = w

/-- The region that defers. -/
def deferOf : Code → Option FuncId
  | .region _ ops false => match ops.toList with
    | [{ dst := none, op := .defer { callee := .value (.func g), args := args, argTypes := _ }, guard := none, .. }] => if args.isEmpty then some g else none
    | _ => none
  | _ => none

theorem SR_defer {σ : St} {a : Act} {w : World} (d : Deferred) (h : SR G N ds σ a w) : SR G N (d :: ds) σ { a with defers := d :: a.defers } w := by
  obtain ⟨h1, h2, F, ι, hR, hdom, hV, hN, hds, hp⟩ := h
  exact ⟨h1, h2, F, ι, hR, hdom, hV, hN, by rw [hds], hp⟩

theorem wp_deferOf {c : Code} {g : FuncId} {a : Act} {w : World} {Q : Exit → Act → World → Prop} (h : deferOf c = some g) (hQ : Q .normal { a with defers := { target := .fn (.func g) #[], args := #[] } :: a.defers } w) : c.wp P Q a w := by
  unfold deferOf at h
  split at h
  case h_2 => cases h
  rename_i id ops
  split at h
  case h_2 => cases h
  rename_i g' args ts ty pos after hops
  split at h
  case isFalse => cases h
  rename_i hargs
  injection h with h; subst h
  refine wp_region_list ?_
  rw [hops]
  unfold wpList
  have hargs' : args = #[] := by simpa using hargs
  subst hargs'
  have hw : ∀ y, Region.wanted { dst := none, op := .defer { callee := .value (.func g'), args := #[], argTypes := ts }, type := ty, pos := pos, after := after, guard := none } y = true := fun y => by simp [Region.wanted]
  rw [if_pos (hw _)]
  refine .inl ?_
  unfold Oper.wp
  have hfe : a.eval (.func g') = .func (.func g') #[] #[] := rfl
  simp [execOp, resolve, hfe, Deferred.ofValue, Oper.upon_defer, wpList, Act.put]
  exact hQ

theorem spec_of_d {f N : Nat} {fn : Func} {g : FuncId} {r0 rd rest : Code} {args : List D} {r : D} (hm : P.follows .mixedOrders = true) (hf : P.funcs[f]? = some fn) (hb : fn.body = some (.seq r0 (.seq rd rest))) (hname : (fn.name == "runtime.NumGoroutine") = false)
    (hN : fn.ntmps = N) (hd0 : codeDst N r0 = true) (hl0 : codeLex P r0 = true) (hd1 : codeDst N rest = true) (hl1 : codeLex P rest = true) (hg : deferOf rd = some g) (hrec : RecSpec P g) (ha : args.length ≤ N)
    (h : AWP P r0 (St0 args N) fun e σ0 => e = .normal ∧ AWP P rest σ0 fun e σ => (e = .normal ∨ e = .ret) ∧ resD P fn.results.toList σ = some r) : Spec P f args r := by
  intro A W vs hA hl hv
  have hn : ¬ fn.name = "runtime.NumGoroutine" := by simpa using hname
  refine ⟨fun w => by simp [callFunc, hf, hn, hb], ?_⟩
  refine calls_of_wp_defers hf hb ?_
  subst hN
  refine wp_seq (wp_mono (AWP_sound hm r0 _ _ _ _ hd0 hl0 h (SR0 hA hl hv ha)) ?_)
  rintro e a w ⟨σ0, ⟨rfl, h1⟩, hs0⟩
  refine wp_seq (wp_deferOf hg ?_)
  refine wp_mono (AWP_sound hm rest _ _ _ _ hd1 hl1 h1 (SR_defer { target := .fn (.func g) #[], args := #[] } hs0)) ?_
  rintro e a w ⟨σ, ⟨he, hr⟩, hs⟩
  obtain ⟨v, hrun, hvd⟩ := run_results hs hr
  obtain ⟨_, _, F, ι, hR, _, _, _, hdf, _⟩ := hs
  have hend : Leaves P fn a.tmps (fun e w' => ∃ v, e = .returned v ∧ Below W.heap.size W w' ∧ VD (fun b => A b ∨ (W.heap.size ≤ b ∧ b < w'.heap.size)) w' r v) a.defers .returning w := by
    rw [hdf]
    refine leaves_cons (by simp) (args := #[]) (f := g) ?_ ((hrec.2 w).mono ?_)
    · have := hrec.1 w
      simpa [invoke] using this
    · rintro e u' w' ⟨rfl, rfl, rfl⟩
      refine ⟨v, by simpa [settle] using hrun, v, rfl, ⟨hR.kept.os, hR.kept.tape, hR.kept.output, hR.kept.size, fun k hk => hR.kept.block k hk (fun h => h)⟩, hvd.mono ?_⟩
      rintro b (h | h | h)
      · exact .inl h
      · exact h.elim
      · exact .inr h
  rcases he with rfl | rfl <;> exact hend

/-- The state at the start of a function that writes into the block which its first argument names. -/
def St1 (h : AV) (o : HO) (args : List D) (N : Nat) : St := ⟨fun t => match t with | 0 => h | t + 1 => Γ0 args N t, fun id => if id = 0 then some o else none, 1⟩

theorem SR1 {A : Nat → Prop} {W : World} {vs : Array Value} {args : List D} {h : AV} {o : HO} {b : Nat} (hA : ∀ b, A b → b < W.heap.size) (hAb : ¬ A b) (hb : b < W.heap.size) (ho : ∃ ob, W.heap[b]? = some ob ∧ CR A W (ι1 b) o ob)
    (hl : args.length + 1 = vs.size) (h0 : ∃ v, vs[0]? = some v ∧ V A W (ι1 b) h v) (hv : ∀ (k : Nat) d v, args[k]? = some d → vs[k + 1]? = some v → VD A W d v) (hN : args.length + 1 ≤ N) :
    SR ⟨W, A, (· = b), (· = b)⟩ N [] (St1 h o args N) { tmps := vs ++ Array.replicate (N - vs.size) undef, defers := [] } W := by
  have hι : ∀ id b', ι1 b id = some b' → id = 0 ∧ b' = b := fun id b' e => by
    unfold ι1 at e
    split at e
    · injection e with e; exact ⟨by assumption, e.symm⟩
    · cases e
  have hH : ∀ id o', (if id = 0 then some o else none) = some o' → id = 0 ∧ o' = o := fun id o' e => by
    split at e
    · injection e with e; exact ⟨by assumption, e.symm⟩
    · cases e
  refine ⟨fun id h => by simp only [St1] at h ⊢; rw [if_neg (by omega)], fun h => by simp [St1] at h, A, ι1 b, ⟨.refl _ _ _, hA, fun b h => .inl h, fun id b' e => ?_, fun id b' o' e e' => ?_, fun id id' b' e e' _ _ => ?_, fun id id' b' o1 o2 e e' _ h1 h2 => ?_⟩, fun id => ?_, fun t => ?_, by simp; omega, rfl, fun b' e => (hι 0 b' e).2⟩
  · obtain ⟨_, rfl⟩ := hι id b' e; exact ⟨.inl rfl, hb, fun _ => hAb⟩
  · obtain ⟨_, rfl⟩ := hι id b' e; obtain ⟨_, rfl⟩ := hH id o' e'; exact ho
  · rw [(hι _ _ e).1, (hι _ _ e').1]
  · rw [(hH _ _ h1).2, (hH _ _ h2).2]; exact Nat.le_refl _
  · simp only [St1, ι1]
    by_cases hid : id = 0 <;> simp [hid]
  · have hget : ∀ k, k < vs.size → (vs ++ Array.replicate (N - vs.size) undef).getD k undef = vs.getD k undef := fun k hk => by
      simp only [Array.getD_eq_getD_getElem?]; rw [Array.getElem?_append_left hk]
    have hget2 : ∀ k, vs.size ≤ k → (vs ++ Array.replicate (N - vs.size) undef).getD k undef = undef := fun k hk => by
      simp only [Array.getD_eq_getD_getElem?]
      rw [Array.getElem?_append_right hk]
      by_cases h2 : k - vs.size < N - vs.size
      · rw [Array.getElem?_replicate, if_pos h2]; rfl
      · rw [Array.getElem?_replicate, if_neg h2]; rfl
    cases t with
    | zero =>
      obtain ⟨v, hv0, hV0⟩ := h0
      show V A W (ι1 b) h _
      rw [show (({ tmps := vs ++ Array.replicate (N - vs.size) undef, defers := [] } : Act).tmps.getD 0 undef) = v from by
        rw [hget 0 (by omega)]; simp [Array.getD_eq_getD_getElem?, hv0]]
      exact hV0
    | succ t =>
      show V A W (ι1 b) (Γ0 args N t) _
      simp only [Γ0]
      by_cases ht : t < args.length
      · have ht' : t + 1 < vs.size := by omega
        rw [List.getElem?_eq_getElem ht, hget _ ht', Array.getD_eq_getD_getElem?, Array.getElem?_eq_getElem ht']
        exact V_inj1 (hv t _ _ (List.getElem?_eq_getElem ht) (Array.getElem?_eq_getElem ht'))
      · rw [List.getElem?_eq_none (by omega), hget2 _ (by omega)]
        simp only [ite_self]
        exact .un

theorem ospec_of {f N : Nat} {fn : Func} {c : Code} {h : AV} {o o' : HO} {args : List D} {r : D} (hf : P.funcs[f]? = some fn) (hb : fn.body = some c) (hname : (fn.name == "runtime.NumGoroutine") = false) (hN : fn.ntmps = N)
    (ha : args.length + 1 ≤ N) (hmap : ∃ k es, o = .map k es) (hmap' : ∃ k es, o' = .map k es) (hno' : nohO o' = true)
    (hA : ∀ (G : Ctx) (a : Act) (w : World), SR G N [] (St1 h o args N) a w → c.wp P (fun e a' w' => ∃ σ, ((e = .normal ∨ e = .ret) ∧ resD P fn.results.toList σ = some r ∧ σ.H 0 = some o') ∧ SR G N [] σ a' w') a w) : OSpec P f h o args o' r := by
  intro A W vs b hAl hAb hbl hob hl hv0 hv
  have hn : ¬ fn.name = "runtime.NumGoroutine" := by simpa using hname
  refine ⟨fun w => by simp [callFunc, hf, hn, hb], ?_⟩
  refine calls_of_wp hf hb ?_
  subst hN
  have hsr := SR1 (N := fn.ntmps) hAl hAb hbl hob hl hv0 hv ha
  refine wp_mono (hA _ _ _ hsr) ?_
  rintro e a w ⟨σ, ⟨he, hr, hH0⟩, hs⟩
  obtain ⟨_, _, F, ι, hR, hdom, hVs, _, hdf, hp⟩ := hs
  obtain ⟨v, hrun, hvd⟩ := run_results' hR hVs hr
  obtain ⟨b', hb'⟩ := (hdom 0).2 (by rw [hH0]; rfl)
  have hbb := hp b' hb'
  simp only at hbb
  subst hbb
  obtain ⟨ob', hob', hcr⟩ := hR.obj 0 b' o' hb' hH0
  have hnF : ¬ F b' := (hR.place 0 b' hb').2.2 (fun x => x)
  have hFA : ∀ k, F k → A k ∨ (W.heap.size ≤ k ∧ k < w.heap.size) := fun k hk => by
    rcases hR.F_ok k hk with h | h | h
    · exact .inl h
    · simp only at h; subst h; exact (hnF hk).elim
    · exact .inr ⟨h, hR.F_lt k hk⟩
  have hend : a.defers = [] ∧ ∃ v, (results fn a.tmps).run P w = .ok v w ∧ ∃ v' ob', Ending.returned v = .returned v' ∧ Kept (· = b') W.heap.size W w ∧ w.heap[b']? = some ob' ∧
      (∀ cur e, W.heap[b']? = some (.cells cur e (0, 0)) → ∃ cur', ob' = .cells cur' e (0, 0) ∧ cur'.size = cur.size) ∧
      CR (fun k => A k ∨ (W.heap.size ≤ k ∧ k < w.heap.size)) w (ι1 b') o' ob' ∧ VD (fun k => A k ∨ (W.heap.size ≤ k ∧ k < w.heap.size)) w r v' := by
    refine ⟨hdf, v, hrun, v, ob', rfl, hR.kept, hob', fun cur e he => ?_, (CR_noh hno' hcr).step ⟨hFA, fun _ _ => rfl, fun _ _ h => h, fun _ _ cur _ _ h => ⟨cur, h, rfl⟩⟩, hvd.mono ?_⟩
    rotate_left
    · rintro c (hc | ⟨id, e1, cs, h1, h2⟩)
      · exact hFA c hc
      · rcases (hR.place id c h2).1 with h | h
        · simp only at h; subst h
          have := hR.inj id 0 c h2 hb' (fun x => x) (fun x => x)
          subst this
          obtain ⟨k, es, rfl⟩ := hmap'
          rw [hH0] at h1; cases h1
        · exact .inr ⟨h, hR.ι_lt h2⟩
    obtain ⟨k, es, rfl⟩ := hmap
    obtain ⟨ob, h1, h2⟩ := hob
    rw [he] at h1; injection h1 with h1; subst h1
    cases h2
  rcases he with rfl | rfl <;> exact hend
end

end Go.Am
