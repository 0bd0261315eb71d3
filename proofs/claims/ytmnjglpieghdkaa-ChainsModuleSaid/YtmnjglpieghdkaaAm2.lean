/- The abstract machine, part 2: operands, 'what an operation does' (Y), and the operations that only reckon with values. No condition. -/
import Derived.Test.YtmnjglpieghdkaaAm1
namespace Go.Am

def cv1 : Value → AV
  | .bool x => .d (.b x)
  | .int k n => .d (.i k n)
  | .slice none 0 0 => .nil
  | v => .d (.lit v)

def cv : Value → AV
  | .agg cs => .ag (cs.toList.map cv1)
  | v => cv1 v

def oev (Γ : Nat → AV) : Operand → AV
  | .tmp t => Γ t
  | .const v => cv v
  | .global g => .d (.lit (.pointer (some ⟨g, 0, none⟩)))
  | .func f => .d (.lit (.func (.func f) #[] #[]))

section
variable {F : Nat → Prop} {w : World} {ι : Nat → Option Nat}

theorem V_cv1 (v : Value) : V F w ι (cv1 v) v := by
  unfold cv1
  split
  · exact .d _ _ (.b _)
  · exact .d _ _ (.i _ _)
  · exact .nil
  · exact .d _ _ (.lit _)

theorem V_cells (cs : Array Value) (k : Nat) (c : AV) (v : Value) (h : (cs.toList.map cv1)[k]? = some c) (h' : cs[k]? = some v) : V F w ι c v := by
  simp only [List.getElem?_map, Array.getElem?_toList, h', Option.map_some, Option.some.injEq] at h
  subst h
  exact V_cv1 v

theorem V_cv (v : Value) : V F w ι (cv v) v := by
  unfold cv
  split
  · exact .ag _ _ (by simp) (V_cells _)
  · exact V_cv1 _

theorem V_oev {Γ : Nat → AV} {a : Act} {x : Operand} (h : ∀ t, x = .tmp t → V F w ι (Γ t) (a.tmps.getD t undef)) : V F w ι (oev Γ x) (a.eval x) := by
  cases x with
  | tmp t => exact h t rfl
  | const v => exact V_cv v
  | global g => exact .d _ _ (.lit _)
  | func f => exact .d _ _ (.lit _)
end

theorem HR.congrC {G : Ctx} {F : Nat → Prop} {w : World} {ι : Nat → Option Nat} {C C' : Nat → Prop} {H : Nat → Option HO} (h : HR G F w ι C H) (hC : ∀ id, C id ↔ C' id) : HR G F w ι C' H := by
  have : C = C' := funext fun id => propext (hC id)
  exact this ▸ h

theorem HR.weakC {G : Ctx} {F : Nat → Prop} {w : World} {ι : Nat → Option Nat} {C C' : Nat → Prop} {H : Nat → Option HO} (h : HR G F w ι C H) (hC : ∀ id, C id → C' id) : HR G F w ι C' H :=
  ⟨h.kept, h.F_lt, h.F_ok, fun id b e => ⟨(h.place id b e).1, (h.place id b e).2.1, fun hn => (h.place id b e).2.2 fun x => hn (hC _ x)⟩, h.obj,
    fun id id' b e e' n n' => h.inj id id' b e e' (fun x => n (hC _ x)) (fun x => n' (hC _ x)),
    fun id id' b o o' e e' n => h.len id id' b o o' e e' (fun x => n (hC _ x))⟩

/-- What an operation does, wherever the call's blocks lie. -/
def Y (P : Program) (G : Ctx) (o : Oper) (Γ : Nat → AV) (C : Nat → Prop) (H H' : Nat → Option HO) (av : AV) (new con : Nat → Prop) : Prop :=
  ∀ (F : Nat → Prop) (w : World) (ι : Nat → Option Nat) (a : Act), HR G F w ι C H →
    (∀ t, Operand.tmp t ∈ o.op.operands → V F w ι (Γ t) (a.tmps.getD t undef)) → (∀ id, new id → ι id = none) →
    ∀ (next : Act → World → Prop) (Q : Exit → Act → World → Prop),
      (∀ (F' : Nat → Prop) (w' : World) (ι' : Nat → Option Nat) (u : Value), HR G F' w' ι' (fun id => C id ∨ con id) H' → Step F w ι F' w' ι' →
        (∀ id b, ι' id = some b → ι id = some b ∨ new id) → (∀ id, new id → ∃ b, ι' id = some b) → V F' w' ι' av u → next (a.put o.dst u) w') → o.wp P a w next Q

def none' : Nat → Prop := fun _ => False

/-- An operation that turns nothing. -/
theorem y_pure {P : Program} {G : Ctx} {o : Oper} {Γ : Nat → AV} {C : Nat → Prop} {H : Nat → Option HO} {av : AV}
    (h : ∀ (F : Nat → Prop) (w : World) (ι : Nat → Option Nat) (a : Act), HR G F w ι C H → (∀ t, Operand.tmp t ∈ o.op.operands → V F w ι (Γ t) (a.tmps.getD t undef)) →
      ∃ u, ((execOp a.eval o).run P w = .ok (.value u) w) ∧ V F w ι av u) : Y P G o Γ C H H av none' none' := by
  intro F w ι a hR hop _ next Q hn
  obtain ⟨u, hr, hv⟩ := h F w ι a hR hop
  unfold Oper.wp
  rw [hr, Oper.upon_value]
  exact hn F w ι u (hR.weakC fun _ h => .inl h) (.refl _ _ _) (fun _ _ h => .inl h) (fun _ h => h.elim) hv

def upd {α : Type} (f : Nat → α) (k : Nat) (x : α) : Nat → α := fun j => if j = k then x else f j

theorem upd_same {α : Type} (f : Nat → α) (k : Nat) (x : α) : upd f k x k = x := by simp [upd]
theorem upd_ne {α : Type} (f : Nat → α) {k j : Nat} (x : α) (h : j ≠ k) : upd f k x j = f j := by simp [upd, h]

section
variable {G : Ctx} {F : Nat → Prop} {w : World} {ι : Nat → Option Nat} {C : Nat → Prop} {H : Nat → Option HO}

theorem HR.ι_lt (hR : HR G F w ι C H) {id b : Nat} (h : ι id = some b) : b < w.heap.size := (hR.place id b h).2.1

/-- w1 is w with one block more. -/
structure NewBlk (w : World) (o : Obj) (w1 : World) : Prop where
  heap : w1.heap = w.heap.push o
  os : w1.os = w.os
  tape : w1.tape = w.tape
  output : w1.output = w.output

theorem NewBlk.alloc (w : World) (o : Obj) : NewBlk w o (w.alloc o) := ⟨rfl, rfl, rfl, rfl⟩
theorem NewBlk.drew (w : World) (o : Obj) : NewBlk w o (w.drew.alloc o) := ⟨rfl, rfl, rfl, rfl⟩
theorem NewBlk.old {w w1 : World} {o : Obj} (h : NewBlk w o w1) (i : Nat) (hi : i < w.heap.size) : w1.heap[i]? = w.heap[i]? := by
  rw [h.heap, Array.getElem?_push, if_neg (by omega)]
theorem NewBlk.new {w w1 : World} {o : Obj} (h : NewBlk w o w1) : w1.heap[w.heap.size]? = some o := by
  rw [h.heap, Array.getElem?_push, if_pos rfl]
theorem NewBlk.size {w w1 : World} {o : Obj} (h : NewBlk w o w1) : w1.heap.size = w.heap.size + 1 := by rw [h.heap, Array.size_push]

theorem step_alloc (hR : HR G F w ι C H) (n : Nat) (hn : ι n = none) {o : Obj} {w1 : World} (hw : NewBlk w o w1) : Step F w ι F w1 (upd ι n (some w.heap.size)) :=
  ⟨fun _ h => h, fun b hb => hw.old b (hR.F_lt b hb), fun id b e => by
    rw [upd_ne _ _ (fun he => by rw [he, hn] at e; cases e)]; exact e,
   fun id b cur e hi hb => ⟨cur, (hw.old b (hR.ι_lt hi)).trans hb, rfl⟩⟩

theorem CR.step {F' : Nat → Prop} {w' : World} {ι' : Nat → Option Nat} {x : HO} {ob : Obj} (hs : Step F w ι F' w' ι') (h : CR F w ι x ob) : CR F' w' ι' x ob := by
  cases h with
  | cells e cs cur hl h => exact .cells e cs cur hl fun k c hk => let ⟨u, h1, h2⟩ := h k c hk; ⟨u, h1, h2.step hs⟩
  | map k es ents clock hl hst h => exact .map k es ents clock hl hst fun j x hj => let ⟨en, h1, h2, h3⟩ := h j x hj; ⟨en, h1, h2, h3.step hs⟩

/-- A new block, known as number n. -/
theorem HR.alloc (hR : HR G F w ι C H) (n : Nat) (hn : ι n = none) {o : Obj} {w1 : World} (hw : NewBlk w o w1) (ho : HO) (hH : H n = some ho) (hcr : CR F w1 (upd ι n (some w.heap.size)) ho o) :
    HR G F w1 (upd ι n (some w.heap.size)) C H := by
  have hs := step_alloc hR n hn hw
  have hsz := hw.size
  have hW : G.W.heap.size ≤ w.heap.size := hR.kept.size
  have cases_ι : ∀ id b, upd ι n (some w.heap.size) id = some b → (id = n ∧ b = w.heap.size) ∨ (id ≠ n ∧ ι id = some b) := by
    intro id b e
    by_cases h : id = n
    · subst h; rw [upd_same] at e; injection e with e; exact .inl ⟨rfl, e.symm⟩
    · rw [upd_ne _ _ h] at e; exact .inr ⟨h, e⟩
  refine ⟨hR.kept.trans ⟨hw.os, hw.tape, hw.output, by omega, fun k hk _ => hw.old k (by omega)⟩, fun b hb => by have := hR.F_lt b hb; omega, hR.F_ok, ?_, ?_, ?_, ?_⟩
  · intro id b e
    rcases cases_ι id b e with ⟨_, rfl⟩ | ⟨_, e⟩
    · exact ⟨.inr hW, by omega, fun _ hF => by have := hR.F_lt _ hF; omega⟩
    · obtain ⟨h1, h2, h3⟩ := hR.place id b e
      exact ⟨h1, by omega, h3⟩
  · intro id b x e hx
    rcases cases_ι id b e with ⟨rfl, rfl⟩ | ⟨_, e⟩
    · rw [hH] at hx; injection hx with hx; subst hx; exact ⟨o, hw.new, hcr⟩
    · obtain ⟨ob, h2, h3⟩ := hR.obj id b x e hx
      exact ⟨ob, (hw.old b (hR.ι_lt e)).trans h2, h3.step hs⟩
  · intro id id' b e e' hc hc'
    rcases cases_ι id b e with ⟨h1, h2⟩ | ⟨_, h2⟩ <;> rcases cases_ι id' b e' with ⟨h1', h2'⟩ | ⟨_, h2'⟩
    · rw [h1, h1']
    · have := hR.ι_lt h2'; omega
    · have := hR.ι_lt h2; omega
    · exact hR.inj id id' b h2 h2' hc hc'
  · intro id id' b x x' e e' hc hx hx'
    rcases cases_ι id b e with ⟨h1, h2⟩ | ⟨_, h2⟩ <;> rcases cases_ι id' b e' with ⟨h1', h2'⟩ | ⟨_, h2'⟩
    · rw [h1] at hx; rw [h1', hx] at hx'; injection hx' with h; subst h; exact Nat.le_refl _
    · have := hR.ι_lt h2'; omega
    · have := hR.ι_lt h2; omega
    · exact hR.len id id' b x x' h2 h2' hc hx hx'
end

/-- An operation that makes one new block. -/
theorem y_alloc {P : Program} {G : Ctx} {o : Oper} {Γ : Nat → AV} {C : Nat → Prop} {H : Nat → Option HO} {av : AV} {n : Nat} {ho : HO} (hH : H n = some ho)
    (h : ∀ (F : Nat → Prop) (w : World) (ι : Nat → Option Nat) (a : Act), (∀ t, Operand.tmp t ∈ o.op.operands → V F w ι (Γ t) (a.tmps.getD t undef)) →
      ∃ u ob w1, (execOp a.eval o).run P w = .ok (.value u) w1 ∧ NewBlk w ob w1 ∧
        (∀ F' w' ι', Step F w ι F' w' ι' → ι' n = some w.heap.size → w'.heap[w.heap.size]? = some ob → CR F' w' ι' ho ob ∧ V F' w' ι' av u)) :
    Y P G o Γ C H H av (· = n) none' := by
  intro F w ι a hR hop hnew next Q hn
  obtain ⟨u, ob, w1, hr, hw, hv⟩ := h F w ι a hop
  have h0 := hnew n rfl
  have hs := step_alloc hR n h0 hw
  obtain ⟨hcr, hvv⟩ := hv _ _ _ hs (upd_same _ _ _) hw.new
  unfold Oper.wp
  rw [hr, Oper.upon_value]
  refine hn F _ _ u ((hR.alloc n h0 hw ho hH hcr).weakC fun _ h => .inl h) hs (fun id b e => ?_) (fun id h => ⟨_, by subst h; exact upd_same _ _ _⟩) hvv
  by_cases hid : id = n
  · exact .inr hid
  · rw [upd_ne _ _ hid] at e; exact .inl e

end Go.Am
