/- The abstract machine, part 18: the calculus' equations, one by one, for walks by simp; loops by a family of states. No condition. -/
import Derived.Test.YtmnjglpieghdkaaAm17
namespace Go.Am
variable {P : Program}

@[congr] theorem awp_congr {c : Code} {σ σ' : St} {Q : Exit → St → Prop} (h : σ = σ') : AWP P c σ Q = AWP P c σ' Q := by rw [h]

theorem awp_skip (σ : St) (Q : Exit → St → Prop) : AWP P .skip σ Q = Q .normal σ := rfl
theorem awp_region (id : Nat) (ops : Array Oper) (draw : Bool) (σ : St) (Q : Exit → St → Prop) : AWP P (.region id ops draw) σ Q = OW P ops ops.toList σ [] fun σ' con => Q .normal (fin σ' con) := rfl
theorem awp_seq (x y : Code) (σ : St) (Q : Exit → St → Prop) : AWP P (.seq x y) σ Q = AWP P x σ fun e σ' => match e with | .normal => AWP P y σ' Q | e => Q e σ' := rfl
theorem awp_block (id : Nat) (c : Code) (σ : St) (Q : Exit → St → Prop) : AWP P (.block id c) σ Q = AWP P c σ fun e σ' => match e with | .exit id' => if id' = id then Q .normal σ' else Q (.exit id') σ' | e => Q e σ' := rfl
theorem awp_exit (id : Nat) (σ : St) (Q : Exit → St → Prop) : AWP P (.exit id) σ Q = Q (.exit id) σ := rfl
theorem awp_ret (σ : St) (Q : Exit → St → Prop) : AWP P .ret σ Q = Q .ret σ := rfl
theorem awp_label (l : Nat) (σ : St) (Q : Exit → St → Prop) : AWP P (.label l) σ Q = Q .normal σ := rfl
theorem awp_scope (c : Code) (σ : St) (Q : Exit → St → Prop) : AWP P (.scope c) σ Q = AWP P c σ fun e σ' => match e with | .goto _ => False | e => Q e σ' := rfl

/-- A branch that is not decided yet. -/
def IfA (t : Bool) (A B : Prop) : Prop := if t then A else B
@[congr] theorem ifA_congr {t t' : Bool} {A B : Prop} (h : t = t') : IfA t A B = IfA t' A B := by rw [h]
theorem ifA_true (A B : Prop) : IfA true A B = A := rfl
theorem ifA_false (A B : Prop) : IfA false A B = B := by simp [IfA]
theorem ifA_intro {t : Bool} {A B : Prop} (h1 : t = true → A) (h2 : t = false → B) : IfA t A B := by cases t <;> simp [IfA, h1, h2]

theorem awp_cond (c : Operand) (x y : Code) (σ : St) (Q : Exit → St → Prop) : AWP P (.cond c x y) σ Q = match oev σ.Γ c with | .d (.b t) => IfA t (AWP P x σ Q) (AWP P y σ Q) | .ub => AWP P x σ Q ∧ AWP P y σ Q | _ => False := rfl

theorem awp_loop {τ : Type} {c : Code} {σ : St} {Q : Exit → St → Prop} (S : τ → St) (m : τ → Nat) (x0 : τ) (ρ : Nat → Nat) (h0 : Wk σ (S x0) ρ)
    (h : ∀ x, AWP P c (S x) fun e σ' => match e with | .normal => ∃ y, m y < m x ∧ ∃ ρ, Wk σ' (S y) ρ | e => Q e σ') : AWP P (.loop c) σ Q := ⟨τ, S, m, x0, ⟨ρ, h0⟩, h⟩

/-- A call by contract: the continuation is left as it is. -/
def CallN (P : Program) (f : FuncId) (avs : List AV) (H : Nat → Option HO) (k : D → Prop) : Prop := ∃ ds r, frzs H avs = some ds ∧ Spec P f ds r ∧ k r
@[congr] theorem callN_congr {f : FuncId} {avs avs' : List AV} {H H' : Nat → Option HO} {k : D → Prop} (h : avs = avs') (h2 : H = H') : CallN P f avs H k = CallN P f avs' H' k := by rw [h, h2]

theorem callN_intro {f : FuncId} {avs : List AV} {H : Nat → Option HO} {k : D → Prop} {ds : List D} {r : D} (h1 : frzs H avs = some ds) (h2 : Spec P f ds r) (h3 : k r) : CallN P f avs H k := ⟨ds, r, h1, h2, h3⟩

theorem oc_call {f : FuncId} {args : Array Operand} {dst : Option Tmp} {σ : St} {con : List Nat} {k : St → List Nat → Prop} (hm : mutF P f = false) (hk : (match args.toList.map (oev σ.Γ) with | [.kf _ _] => false | _ => true) = true) :
    OC P f args dst σ con k = CallN P f (args.toList.map (oev σ.Γ)) σ.H fun r =>
      k ⟨putA σ.Γ dst (inj r), kill (killsOf σ.H (args.toList.map (oev σ.Γ)) r) σ.H, σ.n⟩ (killsOf σ.H (args.toList.map (oev σ.Γ)) r ++ con) := by
  unfold OC CallN
  simp only [hm, Bool.false_eq_true, if_false]
  split
  · rename_i hx; rw [hx] at hk; cases hk
  · rfl

theorem ow_nil (ops : Array Oper) (σ : St) (con : List Nat) (k : St → List Nat → Prop) : OW P ops [] σ con k = k σ con := rfl
theorem ow_cons (ops : Array Oper) (o : Oper) (l : List Oper) (σ : St) (con : List Nat) (k : St → List Nat → Prop) : OW P ops (o :: l) σ con k = match wantedA ops o σ.Γ with
  | some true => O1 P o σ con fun σ' con' => OW P ops l σ' con' k
  | some false => OW P ops l ⟨putA σ.Γ o.dst .un, σ.H, σ.n⟩ con k
  | none => False := rfl

theorem frz_own (H : Nat → Option HO) (n id off len sz : Nat) : frz H (n + 1) (.own id off len sz) = match H id with
    | some (.cells _ cs) => if (off + len) * sz ≤ cs.length ∧ 0 < sz then (((cs.drop (off * sz)).take (len * sz)).mapM (frz H n)).map fun l => .sl (chunk sz len l) else none
    | _ => none := rfl
theorem frz_fd (H : Nat → Option HO) (n : Nat) (els : List (List D)) : frz H (n + 1) (.fd els) = some (.sl els) := rfl
theorem frz_nil (H : Nat → Option HO) (n : Nat) : frz H (n + 1) .nil = some (.sl []) := rfl
theorem frz_d (H : Nat → Option HO) (n : Nat) (x : D) : frz H (n + 1) (.d x) = some x := rfl
theorem scrub_map (l : List Nat) (ds : List D) : (ds.map AV.d).map (scrub0 l) = ds.map AV.d := by simp [scrub0, Function.comp_def]
theorem mapM_d (H : Nat → Option HO) (n : Nat) : ∀ (ds : List D), (ds.map AV.d).mapM (frz H (n + 1)) = some ds
  | [] => rfl
  | d :: ds => by rw [List.map_cons, List.mapM_cons, mapM_d H n ds, frz_d]; rfl
theorem vis_none : ∀ (n : Nat) (x : AV), vis (fun _ => none) n x = []
  | 0, _ => rfl
  | n + 1, x => by
    have ih := vis_none n
    cases x <;> simp [vis, ih]

theorem kills_none (avs : List AV) (r : D) : killsOf (fun _ => none) avs r = [] := by
  unfold killsOf viss
  split
  · rfl
  · simp [vis_none]

/-- A state without blocks of its own: slots are data, or forgotten. -/
def StD (Γ : Nat → AV) : St := ⟨Γ, fun _ => none, 1⟩

theorem wk_data {σ : St} {Γ' : Nat → AV} (h : ∀ t, Γ' t = .any ∨ ∃ d, Γ' t = .d d ∧ frz σ.H 8 (σ.Γ t) = some d) : Wk σ (StD Γ') (fun i => i) := by
  refine ⟨fun _ _ => rfl, fun t => ?_, fun _ _ h => by simp [StD] at h, fun _ _ h => by simp [StD] at h, fun _ => rfl, fun h => by simp [StD] at h⟩
  show Sub σ.H (fun _ => none) (fun i => i) (σ.Γ t) (Γ' t)
  rcases h t with h | ⟨d, h, hf⟩
  · rw [h]; generalize σ.Γ t = x; cases x <;> trivial
  · rw [h]
    have : frz σ.H 8 (σ.Γ t) = some d ∧ ∀ a ∈ vis σ.H 8 (σ.Γ t), ∀ id, ((fun _ => none : Nat → Option HO) id).isSome = true → id ≠ a := ⟨hf, fun _ _ _ h => by cases h⟩
    generalize σ.Γ t = x at this
    cases x <;> exact this

end Go.Am
