/- The abstract machine, part 1: abstract values, how they stand for the model's values in a world, and what a step of the world keeps. No condition. -/
import Derived.WalkKit
import Derived.Still
import Derived.MapKept
namespace Go.Am

/-- Pure data. -/
inductive D where
  | b (x : Bool)
  | i (k : IntKind) (n : Int)
  | sl (els : List (List D))
  | ag (cs : List D)
  | tp (vs : List D)
  | lit (v : Value)
  deriving Inhabited

/-- 'The value reads as this data; all memory that is read lies in blocks of F.' -/
inductive VD (F : Nat → Prop) (w : World) : D → Value → Prop where
  | b (x : Bool) : VD F w (.b x) (.bool x)
  | i (k : IntKind) (n : Int) : VD F w (.i k n) (.int k n)
  | sl0 (ad : Option Addr) (c : Nat) : VD F w (.sl []) (.slice ad 0 c)
  | sl (els : List (List D)) (ad : Addr) (n c sz : Nat) (f : Nat → Value) (hn : n = els.length) (hc : n ≤ c) (hsz : ∀ cs ∈ els, cs.length = sz) (hF : F ad.block)
      (hcell : ∀ j, j < n * sz → w.cell? (ad.add j) = some (f j)) (hel : ∀ (j k : Nat) cs c, els[j]? = some cs → cs[k]? = some c → VD F w c (f (j * sz + k))) :
      VD F w (.sl els) (.slice (some ad) n c)
  | ag (cs : List D) (vs : Array Value) (hl : cs.length = vs.size) (h : ∀ (k : Nat) c v, cs[k]? = some c → vs[k]? = some v → VD F w c v) : VD F w (.ag cs) (.agg vs)
  | tp (cs : List D) (vs : Array Value) (hl : cs.length = vs.size) (h : ∀ (k : Nat) c v, cs[k]? = some c → vs[k]? = some v → VD F w c v) : VD F w (.tp cs) (.tuple vs)
  | lit (v : Value) : VD F w (.lit v) v

/-- What a frame's slot holds. -/
inductive AV where
  | d (x : D)
  | nil
  | own (id off len sz : Nat)
  | ptr (id off : Nat)
  | mp (id : Nat)
  | fp (cs : List D)
  | fd (els : List (List D))
  | ag (cs : List AV)
  | tp (vs : List AV)
  | un
  | ub
  | kf (f : FuncId) (id : Nat)
  | any
  deriving Inhabited

inductive V (F : Nat → Prop) (w : World) (ι : Nat → Option Nat) : AV → Value → Prop where
  | d (x : D) (v : Value) (h : VD F w x v) : V F w ι (.d x) v
  | nil : V F w ι .nil (.slice none 0 0)
  | own (id off len sz b cap : Nat) (cur : Array Value) (e : TypeId) (hι : ι id = some b) (hb : w.heap[b]? = some (.cells cur e (0, 0))) (hcap : (off + cap) * sz ≤ cur.size) (hl : len ≤ cap)
      (hm : cap ≤ maxLen) : V F w ι (.own id off len sz) (.slice (some ⟨b, off * sz, none⟩) len cap)
  | ptr (id off b : Nat) (hι : ι id = some b) : V F w ι (.ptr id off) (.pointer (some ⟨b, off, none⟩))
  | mp (id b : Nat) (hι : ι id = some b) : V F w ι (.mp id) (.map (some b))
  | fp (cs : List D) (ad : Addr) (f : Nat → Value) (hF : F ad.block) (hcell : ∀ j, j < cs.length → w.cell? (ad.add j) = some (f j)) (hel : ∀ (k : Nat) c, cs[k]? = some c → VD F w c (f k)) :
      V F w ι (.fp cs) (.pointer (some ad))
  | fd (els : List (List D)) (ad : Option Addr) (n : Nat) (h : VD F w (.sl els) (.slice ad n n)) : V F w ι (.fd els) (.slice ad n n)
  | ag (cs : List AV) (vs : Array Value) (hl : cs.length = vs.size) (h : ∀ (k : Nat) c v, cs[k]? = some c → vs[k]? = some v → V F w ι c v) : V F w ι (.ag cs) (.agg vs)
  | tp (cs : List AV) (vs : Array Value) (hl : cs.length = vs.size) (h : ∀ (k : Nat) c v, cs[k]? = some c → vs[k]? = some v → V F w ι c v) : V F w ι (.tp cs) (.tuple vs)
  | un : V F w ι .un undef
  | ub (t : Bool) : V F w ι .ub (.bool t)
  | kf (f : FuncId) (id b p : Nat) (e : TypeId) (hι : ι id = some b) (hF : F p) (hp : w.heap[p]? = some (.cells #[.map (some b)] e (0, 0))) : V F w ι (.kf f id) (.func (.func f) #[] #[.pointer (some ⟨p, 0, none⟩)])
  | any (v : Value) : V F w ι .any v

/-- A block that the call owns. -/
inductive HO where
  | cells (e : TypeId) (cs : List AV)
  | map (k : IntKind) (es : List (Int × AV))
  deriving Inhabited

def HO.len : HO → Nat
  | .cells _ cs => cs.length
  | .map .. => 0

inductive CR (F : Nat → Prop) (w : World) (ι : Nat → Option Nat) : HO → Obj → Prop where
  | cells (e : TypeId) (cs : List AV) (cur : Array Value) (hl : cs.length ≤ cur.size) (h : ∀ (k : Nat) c, cs[k]? = some c → ∃ u, cur[k]? = some u ∧ V F w ι c u) : CR F w ι (.cells e cs) (.cells cur e (0, 0))
  | map (k : IntKind) (es : List (Int × AV)) (ents : Array MapEntry) (clock : Nat) (hl : es.length = ents.size) (hst : MapKept.Stamped ents clock)
      (h : ∀ (j : Nat) x, es[j]? = some x → ∃ en, ents[j]? = some en ∧ en.key = .int k x.1 ∧ V F w ι x.2 en.val) : CR F w ι (.map k es) (.map ents clock)

/-- Cells of F, and the shapes of the blocks that are owned, are kept. -/
structure Step (F : Nat → Prop) (w : World) (ι : Nat → Option Nat) (F' : Nat → Prop) (w' : World) (ι' : Nat → Option Nat) : Prop where
  F_le : ∀ b, F b → F' b
  blk : ∀ b, F b → w'.heap[b]? = w.heap[b]?
  ι_le : ∀ id b, ι id = some b → ι' id = some b
  own : ∀ id b cur e, ι id = some b → w.heap[b]? = some (.cells cur e (0, 0)) → ∃ cur', w'.heap[b]? = some (.cells cur' e (0, 0)) ∧ cur'.size = cur.size

theorem Step.refl (F : Nat → Prop) (w : World) (ι : Nat → Option Nat) : Step F w ι F w ι := ⟨fun _ h => h, fun _ _ => rfl, fun _ _ h => h, fun _ _ cur _ _ h => ⟨cur, h, rfl⟩⟩

theorem Step.trans {F F1 F2 : Nat → Prop} {w w1 w2 : World} {ι ι1 ι2 : Nat → Option Nat} (h : Step F w ι F1 w1 ι1) (k : Step F1 w1 ι1 F2 w2 ι2) : Step F w ι F2 w2 ι2 :=
  ⟨fun b hb => k.F_le b (h.F_le b hb), fun b hb => (k.blk b (h.F_le b hb)).trans (h.blk b hb), fun id b e => k.ι_le id b (h.ι_le id b e), fun id b cur e hi hb => by
    obtain ⟨c1, h1, s1⟩ := h.own id b cur e hi hb
    obtain ⟨c2, h2, s2⟩ := k.own id b c1 e (h.ι_le id b hi) h1
    exact ⟨c2, h2, s2.trans s1⟩⟩

theorem block_add (a : Addr) (j : Nat) : (a.add j).block = a.block := by unfold Addr.add; split <;> rfl
theorem add_add (a : Addr) (i j : Nat) : (a.add i).add j = a.add (i + j) := by
  unfold Addr.add
  by_cases hi : i = 0 <;> by_cases hj : j = 0 <;> simp [hi, hj, Nat.add_assoc]
theorem add_mk (b o j : Nat) : (⟨b, o, none⟩ : Addr).add j = ⟨b, o + j, none⟩ := by
  unfold Addr.add; split <;> simp_all

theorem cell_eq_of_block {w w' : World} {a : Addr} (h : w'.heap[a.block]? = w.heap[a.block]?) : w'.cell? a = w.cell? a := by simp [World.cell?, h]

theorem VD.step {F F' : Nat → Prop} {w w' : World} {x : D} {v : Value} (hF : ∀ b, F b → F' b) (hb : ∀ b, F b → w'.heap[b]? = w.heap[b]?) (h : VD F w x v) : VD F' w' x v := by
  induction h with
  | b x => exact .b x
  | i k n => exact .i k n
  | sl0 ad c => exact .sl0 ad c
  | sl els ad n c sz f hn hc hsz hFb hcell hel ih =>
    exact .sl els ad n c sz f hn hc hsz (hF _ hFb) (fun j hj => (cell_eq_of_block (a := ad.add j) (by rw [block_add]; exact hb _ hFb)).trans (hcell j hj)) ih
  | ag cs vs hl h ih => exact .ag cs vs hl ih
  | tp cs vs hl h ih => exact .tp cs vs hl ih
  | lit v => exact .lit v

theorem VD.mono {F F' : Nat → Prop} {w : World} {x : D} {v : Value} (h : VD F w x v) (hF : ∀ b, F b → F' b) : VD F' w x v := h.step hF fun _ _ => rfl

theorem V.step {F F' : Nat → Prop} {w w' : World} {ι ι' : Nat → Option Nat} {x : AV} {v : Value} (hs : Step F w ι F' w' ι') (h : V F w ι x v) : V F' w' ι' x v := by
  induction h with
  | d x v h => exact .d x v (h.step hs.F_le hs.blk)
  | nil => exact .nil
  | own id off len sz b cap cur e hι hb hcap hl hm =>
    obtain ⟨cur', hb', hsz⟩ := hs.own id b cur e hι hb
    exact .own id off len sz b cap cur' e (hs.ι_le _ _ hι) hb' (by omega) hl hm
  | ptr id off b hι => exact .ptr id off b (hs.ι_le _ _ hι)
  | mp id b hι => exact .mp id b (hs.ι_le _ _ hι)
  | fp cs ad f hF hcell hel =>
    exact .fp cs ad f (hs.F_le _ hF) (fun j hj => (cell_eq_of_block (a := ad.add j) (by rw [block_add]; exact hs.blk _ hF)).trans (hcell j hj)) (fun k c hk => (hel k c hk).step hs.F_le hs.blk)
  | fd els ad n h => exact .fd els ad n (h.step hs.F_le hs.blk)
  | ag cs vs hl h ih => exact .ag cs vs hl ih
  | tp cs vs hl h ih => exact .tp cs vs hl ih
  | un => exact .un
  | ub t => exact .ub t
  | kf f id b p e hι hF hp => exact .kf f id b p e (hs.ι_le _ _ hι) (hs.F_le _ hF) ((hs.blk _ hF).trans hp)
  | any v => exact .any v

/-- Blocks below B that do not lie in M are kept; so are the streams. -/
structure Kept (M : Nat → Prop) (B : Nat) (w w' : World) : Prop where
  os : w'.os = w.os
  tape : w'.tape = w.tape
  output : w'.output = w.output
  size : w.heap.size ≤ w'.heap.size
  block : ∀ k, k < B → ¬ M k → w'.heap[k]? = w.heap[k]?

theorem Kept.refl (M : Nat → Prop) (B : Nat) (w : World) : Kept M B w w := ⟨rfl, rfl, rfl, Nat.le_refl _, fun _ _ _ => rfl⟩
theorem Kept.trans {M : Nat → Prop} {B : Nat} {w w1 w2 : World} (h : Kept M B w w1) (k : Kept M B w1 w2) : Kept M B w w2 :=
  ⟨k.os.trans h.os, k.tape.trans h.tape, k.output.trans h.output, Nat.le_trans h.size k.size, fun b hb hm => (k.block b hb hm).trans (h.block b hb hm)⟩
theorem Kept.below {M : Nat → Prop} {B B' : Nat} {w w' : World} (h : RowKit.Below B' w w') (hB : B ≤ B') : Kept M B w w' := ⟨h.os, h.tape, h.output, h.size, fun k hk _ => h.block k (by omega)⟩

/-- What is fixed for one call: the world at its start, which old blocks data may lie in, which old blocks it may write. -/
structure Ctx where
  W : World
  A : Nat → Prop
  M : Nat → Prop
  P0 : Nat → Prop

/-- The blocks that the call owns: 'ι' says where they lie, 'C' which of them are used up, 'H' what they hold. -/
structure HR (G : Ctx) (F : Nat → Prop) (w : World) (ι : Nat → Option Nat) (C : Nat → Prop) (H : Nat → Option HO) : Prop where
  kept : Kept G.M G.W.heap.size G.W w
  F_lt : ∀ b, F b → b < w.heap.size
  F_ok : ∀ b, F b → G.A b ∨ G.M b ∨ G.W.heap.size ≤ b
  place : ∀ id b, ι id = some b → (G.M b ∨ G.W.heap.size ≤ b) ∧ b < w.heap.size ∧ (¬ C id → ¬ F b)
  obj : ∀ id b o, ι id = some b → H id = some o → ∃ ob, w.heap[b]? = some ob ∧ CR F w ι o ob
  inj : ∀ id id' b, ι id = some b → ι id' = some b → ¬ C id → ¬ C id' → id = id'
  len : ∀ id id' b o o', ι id = some b → ι id' = some b → ¬ C id → H id = some o → H id' = some o' → o'.len ≤ o.len

end Go.Am
