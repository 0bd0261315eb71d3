/- The abstract machine, part 20: the calculus' equations with what comes after out of reach of rewriting, one by one, for walks by simp. No condition. -/
import Derived.Test.YtmnjglpieghdkaaAm19
namespace Go.Am
variable {P : Program}

/-- A mark: what it names is not rewritten. -/
inductive Dm {α : Sort _} (a : α) : Type where
  | mk

def BindP {α : Type} (x : Option α) (k : α → Prop) (_ : Dm k) : Prop := match x with | some a => k a | none => False
theorem bindP_some {α : Type} (a : α) (k : α → Prop) (d : Dm k) : BindP (some a) k d = k a := rfl
theorem bindP_intro {α : Type} {x : Option α} {a : α} {k : α → Prop} {d : Dm k} (h : x = some a) (hk : k a) : BindP x k d := by rw [h]; exact hk

/-- A branch that is not decided yet. -/
def IfD (t : Bool) (A B : Prop) (_ : Dm (A, B)) : Prop := if t then A else B
theorem ifD_true (A B : Prop) (d : Dm (A, B)) : IfD true A B d = A := rfl
theorem ifD_false (A B : Prop) (d : Dm (A, B)) : IfD false A B d = B := by simp [IfD]
theorem ifD_intro {t : Bool} {A B : Prop} {d : Dm (A, B)} (h1 : t = true → A) (h2 : t = false → B) : IfD t A B d := by cases t <;> simp [IfD, h1, h2]

def OWd (P : Program) (ops : Array Oper) (l : List Oper) (σ : St) (con : List Nat) (k : St → List Nat → Prop) (_ : Dm (ops, l, k)) : Prop := OW P ops l σ con k
def O1d (P : Program) (o : Oper) (σ : St) (con : List Nat) (k : St → List Nat → Prop) (_ : Dm (o, k)) : Prop := O1 P o σ con k
/-- A region's end. -/
def FinP (σ : St) (con : List Nat) (k : St → Prop) (_ : Dm k) : Prop := k (fin σ con)
theorem finP_nil (σ : St) (k : St → Prop) (d : Dm k) : FinP σ [] k d = k σ := rfl
theorem finP_cons (σ : St) (c : Nat) (l : List Nat) (k : St → Prop) (d : Dm k) : FinP σ (c :: l) k d = k ⟨fun t => scrub (c :: l) (σ.Γ t), fun id => (σ.H id).map (scrubO (c :: l)), σ.n⟩ := rfl

def CondP (P : Program) (v : AV) (x y : Code) (σ : St) (Q : Exit → St → Prop) (_ : Dm (x, y, Q)) : Prop := match v with | .d (.b t) => IfD t (AWP P x σ Q) (AWP P y σ Q) .mk | .ub => AWP P x σ Q ∧ AWP P y σ Q | _ => False
theorem condP_b (t : Bool) (x y : Code) (σ : St) (Q : Exit → St → Prop) (d : Dm (x, y, Q)) : CondP P (.d (.b t)) x y σ Q d = IfD t (AWP P x σ Q) (AWP P y σ Q) .mk := rfl
theorem condP_ub (x y : Code) (σ : St) (Q : Exit → St → Prop) (d : Dm (x, y, Q)) : CondP P .ub x y σ Q d = (AWP P x σ Q ∧ AWP P y σ Q) := rfl
theorem awp_condB (c : Operand) (x y : Code) (σ : St) (Q : Exit → St → Prop) : AWP P (.cond c x y) σ Q = CondP P (oev σ.Γ c) x y σ Q .mk := rfl
theorem awp_regionB (id : Nat) (l : List Oper) (draw : Bool) (σ : St) (Q : Exit → St → Prop) : AWP P (.region id l.toArray draw) σ Q = OWd P l.toArray l σ [] (fun σ' con => FinP σ' con (Q .normal) .mk) .mk := rfl
def LoopP (P : Program) (c : Code) (σ : St) (Q : Exit → St → Prop) (_ : Dm (c, Q)) : Prop := AWP P (.loop c) σ Q
theorem awp_loopB (c : Code) (σ : St) (Q : Exit → St → Prop) : AWP P (.loop c) σ Q = LoopP P c σ Q .mk := rfl

theorem loopP_intro {τ : Type} {c : Code} {σ : St} {Q : Exit → St → Prop} {d : Dm (c, Q)} (S : τ → St) (m : τ → Nat) (x0 : τ) (h0 : ∃ ρ, Wk σ (S x0) ρ)
    (h : ∀ x, AWP P c (S x) fun e σ' => match e with | .normal => ∃ y, m y < m x ∧ ∃ ρ, Wk σ' (S y) ρ | e => Q e σ') : LoopP P c σ Q d := ⟨τ, S, m, x0, h0, h⟩

/-- A round's end: the state that the next round finds. -/
def Nxt {τ : Type} (I : τ → Prop) (m : τ → Nat) (S : τ → St) (x : τ) (σ' : St) (_ : Dm (I, m, S, x)) : Prop := ∃ y, I y ∧ m y < m x ∧ ∃ ρ, Wk σ' (S y) ρ
theorem nxt_intro {τ : Type} {I : τ → Prop} {m : τ → Nat} {S : τ → St} {x : τ} {σ' : St} {d : Dm (I, m, S, x)} (y : τ) (h1 : I y) (h2 : m y < m x) (h3 : ∃ ρ, Wk σ' (S y) ρ) : Nxt I m S x σ' d := ⟨y, h1, h2, h3⟩
theorem loopP_inv {τ : Type} {c : Code} {σ : St} {Q : Exit → St → Prop} {d : Dm (c, Q)} (I : τ → Prop) (S : τ → St) (m : τ → Nat) (x0 : τ) (hI : I x0) (h0 : ∃ ρ, Wk σ (S x0) ρ)
    (h : ∀ x, I x → AWP P c (S x) fun e σ' => match e with | .normal => Nxt I m S x σ' .mk | e => Q e σ') : LoopP P c σ Q d := by
  refine loopP_intro (τ := { x : τ // I x }) (fun x => S x.1) (fun x => m x.1) ⟨x0, hI⟩ h0 fun x => ?_
  refine cast (congrArg (AWP P c (S x.1)) ?_) (h x.1 x.2)
  funext e σ'
  cases e with
  | normal => exact propext ⟨fun ⟨y, h1, h2, h3⟩ => ⟨⟨y, h1⟩, h2, h3⟩, fun ⟨y, h2, h3⟩ => ⟨y.1, y.2, h2, h3⟩⟩
  | _ => rfl

theorem o1_of_nev {o : Oper} {σ : St} {con : List Nat} {k : St → List Nat → Prop} {d : Dm (o, k)} (h : O1 P o σ con k = (kind P o.op = 0 ∧ match nev P o.op σ.Γ σ.n with
    | some (av, nb) => k ⟨putA σ.Γ o.dst av, addB σ.H σ.n nb, cnt nb σ.n⟩ con
    | none => False)) (hk : kind P o.op = 0) : O1d P o σ con k d = BindP (nev P o.op σ.Γ σ.n) (fun p => k ⟨putA σ.Γ o.dst p.1, addB σ.H σ.n p.2, cnt p.2 σ.n⟩ con) .mk := by
  rw [O1d, h]
  simp only [hk, true_and]
  cases nev P o.op σ.Γ σ.n with
  | none => rfl
  | some p => obtain ⟨a, b⟩ := p; rfl

section
variable (dst : Option Tmp) (ty : TypeId) (pos : String) (after : Array Edge) (guard : Option (Nat × Bool)) (σ : St) (con : List Nat) (k : St → List Nat → Prop)
theorem o1_move (x : Operand) (d : Dm ((⟨dst, .move x, ty, pos, after, guard⟩ : Oper), k)) : O1d P ⟨dst, .move x, ty, pos, after, guard⟩ σ con k d = BindP (nev P (.move x) σ.Γ σ.n) (fun p => k ⟨putA σ.Γ dst p.1, addB σ.H σ.n p.2, cnt p.2 σ.n⟩ con) .mk := o1_of_nev rfl rfl
theorem o1_assign (x : Operand) (d : Dm ((⟨dst, .assign x, ty, pos, after, guard⟩ : Oper), k)) : O1d P ⟨dst, .assign x, ty, pos, after, guard⟩ σ con k d = BindP (nev P (.assign x) σ.Γ σ.n) (fun p => k ⟨putA σ.Γ dst p.1, addB σ.H σ.n p.2, cnt p.2 σ.n⟩ con) .mk := o1_of_nev rfl rfl
theorem o1_pick (a b c : Operand) (d : Dm ((⟨dst, .pick a b c, ty, pos, after, guard⟩ : Oper), k)) : O1d P ⟨dst, .pick a b c, ty, pos, after, guard⟩ σ con k d = BindP (nev P (.pick a b c) σ.Γ σ.n) (fun p => k ⟨putA σ.Γ dst p.1, addB σ.H σ.n p.2, cnt p.2 σ.n⟩ con) .mk := o1_of_nev rfl rfl
theorem o1_alloc (e : TypeId) (d : Dm ((⟨dst, .alloc e, ty, pos, after, guard⟩ : Oper), k)) : O1d P ⟨dst, .alloc e, ty, pos, after, guard⟩ σ con k d = BindP (nev P (.alloc e) σ.Γ σ.n) (fun p => k ⟨putA σ.Γ dst p.1, addB σ.H σ.n p.2, cnt p.2 σ.n⟩ con) .mk := o1_of_nev rfl rfl
theorem o1_box (e : TypeId) (x : Operand) (d : Dm ((⟨dst, .box e x, ty, pos, after, guard⟩ : Oper), k)) : O1d P ⟨dst, .box e x, ty, pos, after, guard⟩ σ con k d = BindP (nev P (.box e x) σ.Γ σ.n) (fun p => k ⟨putA σ.Γ dst p.1, addB σ.H σ.n p.2, cnt p.2 σ.n⟩ con) .mk := o1_of_nev rfl rfl
theorem o1_build (e : TypeId) (x : Array (Nat × Operand)) (d : Dm ((⟨dst, .build e x, ty, pos, after, guard⟩ : Oper), k)) : O1d P ⟨dst, .build e x, ty, pos, after, guard⟩ σ con k d = BindP (nev P (.build e x) σ.Γ σ.n) (fun p => k ⟨putA σ.Γ dst p.1, addB σ.H σ.n p.2, cnt p.2 σ.n⟩ con) .mk := o1_of_nev rfl rfl
theorem o1_buildSlice (e : TypeId) (n : Nat) (x : Array (Nat × Operand)) (d : Dm ((⟨dst, .buildSlice e n x, ty, pos, after, guard⟩ : Oper), k)) : O1d P ⟨dst, .buildSlice e n x, ty, pos, after, guard⟩ σ con k d = BindP (nev P (.buildSlice e n x) σ.Γ σ.n) (fun p => k ⟨putA σ.Γ dst p.1, addB σ.H σ.n p.2, cnt p.2 σ.n⟩ con) .mk := o1_of_nev rfl rfl
theorem o1_makeSlice (e : TypeId) (x y : Operand) (d : Dm ((⟨dst, .makeSlice e x y, ty, pos, after, guard⟩ : Oper), k)) : O1d P ⟨dst, .makeSlice e x y, ty, pos, after, guard⟩ σ con k d = BindP (nev P (.makeSlice e x y) σ.Γ σ.n) (fun p => k ⟨putA σ.Γ dst p.1, addB σ.H σ.n p.2, cnt p.2 σ.n⟩ con) .mk := o1_of_nev rfl rfl
theorem o1_makeMap (e : TypeId) (x : Option Operand) (d : Dm ((⟨dst, .makeMap e x, ty, pos, after, guard⟩ : Oper), k)) : O1d P ⟨dst, .makeMap e x, ty, pos, after, guard⟩ σ con k d = BindP (nev P (.makeMap e x) σ.Γ σ.n) (fun p => k ⟨putA σ.Γ dst p.1, addB σ.H σ.n p.2, cnt p.2 σ.n⟩ con) .mk := o1_of_nev rfl rfl
theorem o1_binOp (b : BinOp) (t : TypeId) (x y : Operand) (u : TypeId) (d : Dm ((⟨dst, .binOp b t x y u, ty, pos, after, guard⟩ : Oper), k)) : O1d P ⟨dst, .binOp b t x y u, ty, pos, after, guard⟩ σ con k d = BindP (nev P (.binOp b t x y u) σ.Γ σ.n) (fun p => k ⟨putA σ.Γ dst p.1, addB σ.H σ.n p.2, cnt p.2 σ.n⟩ con) .mk := o1_of_nev rfl rfl
theorem o1_unOp (b : UnOp) (t : TypeId) (x : Operand) (d : Dm ((⟨dst, .unOp b t x, ty, pos, after, guard⟩ : Oper), k)) : O1d P ⟨dst, .unOp b t x, ty, pos, after, guard⟩ σ con k d = BindP (nev P (.unOp b t x) σ.Γ σ.n) (fun p => k ⟨putA σ.Γ dst p.1, addB σ.H σ.n p.2, cnt p.2 σ.n⟩ con) .mk := o1_of_nev rfl rfl
theorem o1_convert (s t : TypeId) (x : Operand) (d : Dm ((⟨dst, .convert s t x, ty, pos, after, guard⟩ : Oper), k)) : O1d P ⟨dst, .convert s t x, ty, pos, after, guard⟩ σ con k d = BindP (nev P (.convert s t x) σ.Γ σ.n) (fun p => k ⟨putA σ.Γ dst p.1, addB σ.H σ.n p.2, cnt p.2 σ.n⟩ con) .mk := o1_of_nev rfl rfl
theorem o1_fieldAddr (s : TypeId) (x : Operand) (f : Nat) (d : Dm ((⟨dst, .fieldAddr s x f, ty, pos, after, guard⟩ : Oper), k)) : O1d P ⟨dst, .fieldAddr s x f, ty, pos, after, guard⟩ σ con k d = BindP (nev P (.fieldAddr s x f) σ.Γ σ.n) (fun p => k ⟨putA σ.Γ dst p.1, addB σ.H σ.n p.2, cnt p.2 σ.n⟩ con) .mk := o1_of_nev rfl rfl
theorem o1_field (s : TypeId) (x : Operand) (f : Nat) (d : Dm ((⟨dst, .field s x f, ty, pos, after, guard⟩ : Oper), k)) : O1d P ⟨dst, .field s x f, ty, pos, after, guard⟩ σ con k d = BindP (nev P (.field s x f) σ.Γ σ.n) (fun p => k ⟨putA σ.Γ dst p.1, addB σ.H σ.n p.2, cnt p.2 σ.n⟩ con) .mk := o1_of_nev rfl rfl
theorem o1_indexAddr (s : TypeId) (x y : Operand) (d : Dm ((⟨dst, .indexAddr s x y, ty, pos, after, guard⟩ : Oper), k)) : O1d P ⟨dst, .indexAddr s x y, ty, pos, after, guard⟩ σ con k d = BindP (nev P (.indexAddr s x y) σ.Γ σ.n) (fun p => k ⟨putA σ.Γ dst p.1, addB σ.H σ.n p.2, cnt p.2 σ.n⟩ con) .mk := o1_of_nev rfl rfl
theorem o1_extract (x : Operand) (i : Nat) (d : Dm ((⟨dst, .extract x i, ty, pos, after, guard⟩ : Oper), k)) : O1d P ⟨dst, .extract x i, ty, pos, after, guard⟩ σ con k d = BindP (nev P (.extract x i) σ.Γ σ.n) (fun p => k ⟨putA σ.Γ dst p.1, addB σ.H σ.n p.2, cnt p.2 σ.n⟩ con) .mk := o1_of_nev rfl rfl
theorem o1_slice (t : TypeId) (x : Operand) (a b c : Option Operand) (d : Dm ((⟨dst, .slice t x a b c, ty, pos, after, guard⟩ : Oper), k)) : O1d P ⟨dst, .slice t x a b c, ty, pos, after, guard⟩ σ con k d = BindP (nev P (.slice t x a b c) σ.Γ σ.n) (fun p => k ⟨putA σ.Γ dst p.1, addB σ.H σ.n p.2, cnt p.2 σ.n⟩ con) .mk := o1_of_nev rfl rfl
theorem o1_len (args : Array Operand) (ts : Array TypeId) (d : Dm ((⟨dst, .call ⟨.builtin .len, args, ts⟩, ty, pos, after, guard⟩ : Oper), k)) : O1d P ⟨dst, .call ⟨.builtin .len, args, ts⟩, ty, pos, after, guard⟩ σ con k d = BindP (nev P (.call ⟨.builtin .len, args, ts⟩) σ.Γ σ.n) (fun p => k ⟨putA σ.Γ dst p.1, addB σ.H σ.n p.2, cnt p.2 σ.n⟩ con) .mk := o1_of_nev rfl rfl
theorem o1_max (args : Array Operand) (ts : Array TypeId) (d : Dm ((⟨dst, .call ⟨.builtin .max, args, ts⟩, ty, pos, after, guard⟩ : Oper), k)) : O1d P ⟨dst, .call ⟨.builtin .max, args, ts⟩, ty, pos, after, guard⟩ σ con k d = BindP (nev P (.call ⟨.builtin .max, args, ts⟩) σ.Γ σ.n) (fun p => k ⟨putA σ.Γ dst p.1, addB σ.H σ.n p.2, cnt p.2 σ.n⟩ con) .mk := o1_of_nev rfl rfl
theorem o1_min (args : Array Operand) (ts : Array TypeId) (d : Dm ((⟨dst, .call ⟨.builtin .min, args, ts⟩, ty, pos, after, guard⟩ : Oper), k)) : O1d P ⟨dst, .call ⟨.builtin .min, args, ts⟩, ty, pos, after, guard⟩ σ con k d = BindP (nev P (.call ⟨.builtin .min, args, ts⟩) σ.Γ σ.n) (fun p => k ⟨putA σ.Γ dst p.1, addB σ.H σ.n p.2, cnt p.2 σ.n⟩ con) .mk := o1_of_nev rfl rfl
theorem o1_load (t : TypeId) (x : Operand) (d : Dm ((⟨dst, .load t x, ty, pos, after, guard⟩ : Oper), k)) : O1d P ⟨dst, .load t x, ty, pos, after, guard⟩ σ con k d = BindP (loadA P σ.H t (oev σ.Γ x)) (fun v => k ⟨putA σ.Γ dst v, σ.H, σ.n⟩ con) .mk := by
  unfold O1d; simp only [O1, BindP]; split <;> simp_all
theorem o1_lookup (t : TypeId) (m x : Operand) (ok : Bool) (d : Dm ((⟨dst, .lookup t m x ok, ty, pos, after, guard⟩ : Oper), k)) : O1d P ⟨dst, .lookup t m x ok, ty, pos, after, guard⟩ σ con k d = BindP (lookA P σ.H t (oev σ.Γ m) (oev σ.Γ x) ok) (fun v => k ⟨putA σ.Γ dst v, σ.H, σ.n⟩ con) .mk := by
  unfold O1d; simp only [O1, BindP]; split <;> simp_all
theorem o1_store (t : TypeId) (ad x : Operand) (d : Dm ((⟨dst, .store t ad x, ty, pos, after, guard⟩ : Oper), k)) : O1d P ⟨dst, .store t ad x, ty, pos, after, guard⟩ σ con k d = BindP (storeA P σ.H t (oev σ.Γ ad) (oev σ.Γ x)) (fun p => k ⟨putA σ.Γ dst .un, upd σ.H p.1 (some p.2), σ.n⟩ con) .mk := by
  unfold O1d; simp only [O1, BindP]; split <;> simp_all
theorem o1_mapUpdate (t : TypeId) (m x v : Operand) (d : Dm ((⟨dst, .mapUpdate t m x v, ty, pos, after, guard⟩ : Oper), k)) : O1d P ⟨dst, .mapUpdate t m x v, ty, pos, after, guard⟩ σ con k d = BindP (mapW P σ.H t (oev σ.Γ m) (oev σ.Γ x) (some (oev σ.Γ v))) (fun p => k ⟨putA σ.Γ dst .any, upd σ.H p.1 (some p.2), σ.n⟩ con) .mk := by
  unfold O1d; simp only [O1, BindP]; split <;> simp_all
theorem o1_delete (m x : Operand) (t u : TypeId) (d : Dm ((⟨dst, .call ⟨.builtin .delete, #[m, x], #[t, u]⟩, ty, pos, after, guard⟩ : Oper), k)) : O1d P ⟨dst, .call ⟨.builtin .delete, #[m, x], #[t, u]⟩, ty, pos, after, guard⟩ σ con k d = BindP (mapW P σ.H t (oev σ.Γ m) (oev σ.Γ x) none) (fun p => k ⟨putA σ.Γ dst .any, upd σ.H p.1 (some p.2), σ.n⟩ con) .mk := by
  unfold O1d; simp only [O1, BindP]; split <;> simp_all
theorem o1_append (s x : Operand) (t : TypeId) (d : Dm ((⟨dst, .call ⟨.builtin .append, #[s, x], #[t, t]⟩, ty, pos, after, guard⟩ : Oper), k)) : O1d P ⟨dst, .call ⟨.builtin .append, #[s, x], #[t, t]⟩, ty, pos, after, guard⟩ σ con k d = BindP (appA P σ.H t (oev σ.Γ s) (oev σ.Γ x) σ.n) (fun p => k ⟨putA σ.Γ dst p.1, addB (kill p.2.2 σ.H) σ.n p.2.1, cnt p.2.1 σ.n⟩ (p.2.2 ++ con)) .mk := by
  unfold O1d; simp only [O1, BindP]; simp only [true_and]
  cases appA P σ.H t (oev σ.Γ s) (oev σ.Γ x) σ.n with
  | none => rfl
  | some p => obtain ⟨a, b, c⟩ := p; rfl
end

/-- A call by contract. -/
def CallP (P : Program) (f : FuncId) (avs : List AV) (H : Nat → Option HO) (k : D → Prop) (_ : Dm k) : Prop := ∃ ds r, frzs H avs = some ds ∧ Spec P f ds r ∧ k r
theorem callP_intro {f : FuncId} {avs : List AV} {H : Nat → Option HO} {k : D → Prop} {d : Dm k} {ds : List D} {r : D} (h1 : frzs H avs = some ds) (h2 : Spec P f ds r) (h3 : k r) : CallP P f avs H k d := ⟨ds, r, h1, h2, h3⟩
/-- .. of a function that writes into the block that its first argument names, or only reads it. -/
def CallO (P : Program) (f : FuncId) (x : Option (Nat × AV)) (rest : List AV) (H : Nat → Option HO) (k : Nat → HO → D → Prop) (_ : Dm k) : Prop :=
  ∃ id h ho, x = some (id, h) ∧ H id = some ho ∧ nohO ho = true ∧ viss H rest = [] ∧ ∃ ds ho' r, frzs H rest = some ds ∧ OSpec P f h ho ds ho' r ∧ ho'.len = ho.len ∧ nohO ho' = true ∧ k id ho' r
theorem callO_intro {f : FuncId} {rest : List AV} {H : Nat → Option HO} {k : Nat → HO → D → Prop} {d : Dm k} {id : Nat} {h : AV} {ho ho' : HO} {ds : List D} {r : D} (h1 : H id = some ho) (h2 : nohO ho = true) (h3 : viss H rest = [])
    (h4 : frzs H rest = some ds) (h5 : OSpec P f h ho ds ho' r) (h6 : ho'.len = ho.len) (h7 : nohO ho' = true) (h8 : k id ho' r) : CallO P f (some (id, h)) rest H k d := ⟨id, h, ho, rfl, h1, h2, h3, ds, ho', r, h4, h5, h6, h7, h8⟩

def isKf : List AV → Bool
  | [.kf _ _] => true
  | _ => false
theorem o1_call (dst : Option Tmp) (ty : TypeId) (pos : String) (after : Array Edge) (guard : Option (Nat × Bool)) (σ : St) (con : List Nat) (k : St → List Nat → Prop) (f : FuncId) (args : List Operand) (ts : Array TypeId)
    (d : Dm ((⟨dst, .call ⟨.value (.func f), args.toArray, ts⟩, ty, pos, after, guard⟩ : Oper), k)) (hm : mutF P f = false) (hk : isKf (args.map (oev σ.Γ)) = false) : O1d P ⟨dst, .call ⟨.value (.func f), args.toArray, ts⟩, ty, pos, after, guard⟩ σ con k d =
    CallP P f (args.map (oev σ.Γ)) σ.H (fun r => k ⟨putA σ.Γ dst (inj r), kill (killsOf σ.H (args.map (oev σ.Γ)) r) σ.H, σ.n⟩ (killsOf σ.H (args.map (oev σ.Γ)) r ++ con)) .mk := by
  show OC P f args.toArray dst σ con k = _
  unfold OC CallP
  simp only [hm, Bool.false_eq_true, if_false]
  split
  · rename_i hx; rw [show args.map (oev σ.Γ) = _ from hx] at hk; cases hk
  · rfl
/-- It is enough to come to such a call. -/
theorem o1_callO {dst : Option Tmp} {ty : TypeId} {pos : String} {after : Array Edge} {guard : Option (Nat × Bool)} {σ : St} {con : List Nat} {k : St → List Nat → Prop} {f : FuncId} {x : Operand} {rest : List Operand} {ts : Array TypeId}
    {d : Dm ((⟨dst, .call ⟨.value (.func f), (x :: rest).toArray, ts⟩, ty, pos, after, guard⟩ : Oper), k)} (hm : mutF P f = true)
    (h : CallO P f (hd1 (oev σ.Γ x)) (rest.map (oev σ.Γ)) σ.H (fun id ho' r => k ⟨putA σ.Γ dst (inj r), upd σ.H id (some ho'), σ.n⟩ con) .mk) : O1d P ⟨dst, .call ⟨.value (.func f), (x :: rest).toArray, ts⟩, ty, pos, after, guard⟩ σ con k d := by
  obtain ⟨id, hh, ho, h1, h2, h3, h4, h5⟩ := h
  show OC P f (x :: rest).toArray dst σ con k
  unfold OC
  simp only [hm, if_true, h1, h2]
  exact .inr ⟨h3, h4, h5⟩

theorem ow_nil' (ops : Array Oper) (σ : St) (con : List Nat) (k : St → List Nat → Prop) (d : Dm (ops, ([] : List Oper), k)) : OWd P ops [] σ con k d = k σ con := rfl
theorem ow_cons0 (ops : Array Oper) (dst : Option Tmp) (op : Op) (ty : TypeId) (pos : String) (after : Array Edge) (l : List Oper) (σ : St) (con : List Nat) (k : St → List Nat → Prop) (d : Dm (ops, (⟨dst, op, ty, pos, after, none⟩ :: l : List Oper), k)) :
    OWd P ops (⟨dst, op, ty, pos, after, none⟩ :: l) σ con k d = O1d P ⟨dst, op, ty, pos, after, none⟩ σ con (fun σ' con' => OWd P ops l σ' con' k .mk) .mk := rfl
theorem ow_cons1 (ops : Array Oper) (dst : Option Tmp) (op : Op) (ty : TypeId) (pos : String) (after : Array Edge) (g : Nat × Bool) (l : List Oper) (σ : St) (con : List Nat) (k : St → List Nat → Prop) (d : Dm (ops, (⟨dst, op, ty, pos, after, some g⟩ :: l : List Oper), k)) :
    OWd P ops (⟨dst, op, ty, pos, after, some g⟩ :: l) σ con k d = BindP (wantedA ops ⟨dst, op, ty, pos, after, some g⟩ σ.Γ) (fun t => IfD t (O1d P ⟨dst, op, ty, pos, after, some g⟩ σ con (fun σ' con' => OWd P ops l σ' con' k .mk) .mk) (OWd P ops l ⟨putA σ.Γ dst .un, σ.H, σ.n⟩ con k .mk) .mk) .mk := by
  show (match wantedA ops ⟨dst, op, ty, pos, after, some g⟩ σ.Γ with
  | some true => O1 P ⟨dst, op, ty, pos, after, some g⟩ σ con fun σ' con' => OW P ops l σ' con' k
  | some false => OW P ops l ⟨putA σ.Γ dst .un, σ.H, σ.n⟩ con k
  | none => False) = _
  cases wantedA ops ⟨dst, op, ty, pos, after, some g⟩ σ.Γ with
  | none => rfl
  | some t => cases t <;> simp [BindP, IfD, O1d, OWd]

theorem ite_db (t : Bool) (x y : Bool) : (if t = true then AV.d (.b x) else AV.d (.b y)) = AV.d (.b (if t then x else y)) := by cases t <;> rfl

end Go.Am
