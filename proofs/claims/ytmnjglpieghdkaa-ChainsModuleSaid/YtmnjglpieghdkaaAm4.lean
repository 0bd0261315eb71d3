/- The abstract machine, part 4: the operations that reckon with values alone. No condition. -/
import Derived.Test.YtmnjglpieghdkaaAm3
namespace Go.Am

/-- Integer arithmetic as the model has it. -/
def arith (op : BinOp) (k : IntKind) (a b : Int) : Option D :=
  match op with
  | .add => some (.i k (k.wrap (a + b)))
  | .sub => some (.i k (k.wrap (a - b)))
  | .mul => some (.i k (k.wrap (a * b)))
  | .quo => if b = 0 then none else some (.i k (k.wrap (a.tdiv b)))
  | .rem => if b = 0 then none else some (.i k (a.tmod b))
  | .and => some (.i k (bits .and k a b))
  | .or => some (.i k (bits .or k a b))
  | .xor => some (.i k (bits .xor k a b))
  | .andNot => some (.i k (bits .andNot k a b))
  | .eql => some (.b (a == b))
  | .neq => some (.b (a != b))
  | .lss => some (.b (decide (a < b)))
  | .leq => some (.b (decide (a ≤ b)))
  | .gtr => some (.b (decide (b < a)))
  | .geq => some (.b (decide (b ≤ a)))
  | _ => none

def shiftA (op : BinOp) (k : IntKind) (a b : Int) : Option D :=
  if b < 0 then none else
  match op with
  | .shl => some (.i k (k.wrap (a * 2 ^ (min b.toNat k.bits))))
  | .shr => some (.i k (a.fdiv (2 ^ (min b.toNat k.bits))))
  | _ => none

def binA (op : BinOp) (boolT : Bool) (x y : AV) : Option D :=
  match x, y with
  | .d (.i k a), .d (.i k' b) => if op = .shl ∨ op = .shr then shiftA op k a b else if k = k' then arith op k a b else none
  | .d (.b p), .d (.b q) => if boolT then (match op with | .eql => some (.b (p == q)) | .neq => some (.b (!(p == q))) | _ => none) else none
  | _, _ => none

def unA (op : UnOp) (x : AV) : Option D :=
  match op, x with
  | .not, .d (.b p) => some (.b !p)
  | .neg, .d (.i k a) => some (.i k (k.wrap (0 - a)))
  | .xor, .d (.i k a) => some (.i k (bits .xor k (if k.signed then -1 else k.max) a))
  | _, _ => none

def tbool (P : Program) (t : TypeId) : Bool := match P.underlying t with | some .bool => true | _ => false

section
variable {P : Program} {F : Nat → Prop} {w : World} {ι : Nat → Option Nat}

theorem run_binA {op : BinOp} {t : TypeId} {x y : AV} {u v : Value} {r : D} (h : binA op (tbool P t) x y = some r) (hx : V F w ι x u) (hy : V F w ι y v) (ox oy : Operand) :
    ∃ z, ((eqGuard op t ox oy u v).run P w = .ok () w ∧ (binOp op t u v).run P w = .ok z w) ∧ VD F w r z := by
  unfold binA at h
  split at h
  · rename_i k a k' b
    cases hx with | d _ _ hx => cases hx with | i =>
    cases hy with | d _ _ hy => cases hy with | i =>
    by_cases hs : op = .shl ∨ op = .shr
    · rw [if_pos hs] at h
      unfold shiftA at h
      by_cases hb : b < 0
      · simp [hb] at h
      · rw [if_neg hb] at h
        rcases hs with rfl | rfl <;> simp only [Option.some.injEq] at h <;> subst h
        · exact ⟨_, ⟨by simp [eqGuard_shl], by simp [binOp_shl, Op.shift, hb]⟩, .i _ _⟩
        · exact ⟨_, ⟨by simp [eqGuard_shr], by simp [binOp_shr, Op.shift, hb]⟩, .i _ _⟩
    · rw [if_neg hs] at h
      by_cases hk : k = k'
      · subst hk
        rw [if_pos rfl] at h
        have hg : (eqGuard op t ox oy (.int k a) (.int k b)).run P w = .ok () w := by rw [eqGuard_at_int]; simp
        cases op <;> simp only [arith, Option.some.injEq] at h <;> try (cases h; done)
        case quo =>
          by_cases hb : b = 0
          · simp [hb] at h
          · simp only [hb, if_false, Option.some.injEq] at h; subst h
            exact ⟨_, ⟨hg, by simp [binOp_quo, Op.intDiv, hb]⟩, .i _ _⟩
        case rem =>
          by_cases hb : b = 0
          · simp [hb] at h
          · simp only [hb, if_false, Option.some.injEq] at h; subst h
            exact ⟨_, ⟨hg, by simp [binOp_rem, Op.intDiv, hb]⟩, .i _ _⟩
        case add => subst h; exact ⟨_, ⟨hg, by simp [binOp_add, Op.intArith]⟩, .i _ _⟩
        case sub => subst h; exact ⟨_, ⟨hg, by simp [binOp_sub, Op.intArith]⟩, .i _ _⟩
        case mul => subst h; exact ⟨_, ⟨hg, by simp [binOp_mul, Op.intArith]⟩, .i _ _⟩
        case and => subst h; exact ⟨_, ⟨hg, by simp [binOp_and, intBits_and]⟩, .i _ _⟩
        case or => subst h; exact ⟨_, ⟨hg, by simp [binOp_or, intBits_or]⟩, .i _ _⟩
        case xor => subst h; exact ⟨_, ⟨hg, by simp [binOp_xor, intBits_xor]⟩, .i _ _⟩
        case andNot => subst h; exact ⟨_, ⟨hg, by simp [binOp_andNot, intBits_andNot]⟩, .i _ _⟩
        case eql => subst h; exact ⟨_, ⟨hg, by simp [binOp_eql]⟩, .b _⟩
        case neq => subst h; exact ⟨_, ⟨hg, by simp [binOp_neq]⟩, .b _⟩
        case lss => subst h; exact ⟨_, ⟨hg, by simp [binOp_lss]⟩, .b _⟩
        case leq => subst h; exact ⟨_, ⟨hg, by simp [binOp_leq]⟩, .b _⟩
        case gtr => subst h; exact ⟨_, ⟨hg, by simp [binOp_gtr]⟩, .b _⟩
        case geq => subst h; exact ⟨_, ⟨hg, by simp [binOp_geq]⟩, .b _⟩
      · rw [if_neg hk] at h; cases h
  · rename_i p q
    cases hx with | d _ _ hx => cases hx with | b =>
    cases hy with | d _ _ hy => cases hy with | b =>
    by_cases ht : tbool P t = true
    · rw [if_pos ht] at h
      have hu : P.underlying t = some .bool := by
        unfold tbool at ht; split at ht
        · assumption
        · cases ht
      have hg : (eqGuard op t ox oy (.bool p) (.bool q)).run P w = .ok () w := by rw [eqGuard_at_bool]; simp
      split at h
      · injection h with h; subst h; exact ⟨_, ⟨hg, run_eql_bool w t p q hu⟩, .b _⟩
      · injection h with h; subst h; exact ⟨_, ⟨hg, run_neq_bool w t p q hu⟩, .b _⟩
      · cases h
    · rw [if_neg ht] at h; cases h
  · cases h

theorem run_unA {op : UnOp} {x : AV} {u : Value} {r : D} (h : unA op x = some r) (hx : V F w ι x u) : ∃ z, (Op.unary op u).run P w = .ok z w ∧ VD F w r z := by
  unfold unA at h
  split at h
  · injection h with h; subst h
    cases hx with | d _ _ hx => cases hx with | b => exact ⟨_, by simp [unary_not], .b _⟩
  · injection h with h; subst h
    cases hx with | d _ _ hx => cases hx with | i => exact ⟨_, by simp [unary_neg, Op.intArith], .i _ _⟩
  · injection h with h; subst h
    cases hx with | d _ _ hx => cases hx with | i => exact ⟨_, by simp [unary_xor, intBits_xor], .i _ _⟩
  · cases h

theorem tel_und {t e : TypeId} (h : tel P t = some e) : P.underlying t = some (.slice e) := by
  unfold tel at h; split at h
  · injection h with h; subst h; assumption
  · cases h

theorem equalIn_nil (w : World) (d : Nat) (t e : TypeId) (a : Option Addr) (n c n' c' : Nat) (h : P.underlying t = some (.slice e)) : (Op.equalIn (d + 1) t (.slice a n c) (.slice none n' c')).run P w = .ok a.isNone w := by
  cases a <;> simp [Op.equalIn, run_underlying h]

theorem eql_nil (w : World) (t e : TypeId) (a : Option Addr) (n c n' c' : Nat) (h : P.underlying t = some (.slice e)) (ox oy : Operand) :
    ((eqGuard .eql t ox oy (.slice a n c) (.slice none n' c')).run P w = .ok () w ∧ (binOp .eql t (.slice a n c) (.slice none n' c')).run P w = .ok (.bool a.isNone) w) ∧
    ((eqGuard .neq t ox oy (.slice a n c) (.slice none n' c')).run P w = .ok () w ∧ (binOp .neq t (.slice a n c) (.slice none n' c')).run P w = .ok (.bool (!a.isNone)) w) := by
  refine ⟨⟨by rw [eqGuard_at_slice]; simp, ?_⟩, ⟨by rw [eqGuard_at_slice]; simp, ?_⟩⟩
  · simp only [binOp]; simp [Op.equal, Op.maxDepth, equalIn_nil w 9999 t e a n c n' c' h]
  · simp only [binOp]; simp [Op.equal, Op.maxDepth, equalIn_nil w 9999 t e a n c n' c' h]
end

/-- Is the slice nil? (none inside: it cannot be told.) -/
def isNilA : AV → Option (Option Bool)
  | .nil => some (some true)
  | .own .. => some (some false)
  | .d (.sl []) | .fd [] => some none
  | .d (.sl _) | .fd _ => some (some false)
  | _ => none

def nilB (op : BinOp) (b : Option Bool) : Option AV :=
  match op, b with
  | .eql, some t => some (.d (.b t))
  | .neq, some t => some (.d (.b !t))
  | .eql, none => some .ub
  | .neq, none => some .ub
  | _, _ => none

def nilA (op : BinOp) (te : Option TypeId) (x y : AV) : Option AV :=
  match te, y with
  | some _, .nil => (isNilA x).bind (nilB op)
  | _, _ => none

/-- The first element, where there is one, has the type's size. -/
def okHead (sz : Nat) (els : List (List D)) : Bool := match els.head? with | some cs => cs.length == sz | none => true

/-- The slice cut: elements from l to h (and, with a third index, a known capacity). -/
def sliceA (sz : Nat) (x : AV) (l h : Int) (full : Bool) : Option AV :=
  if 0 ≤ l ∧ l ≤ h then
    match x with
    | .d (.sl els) | .fd els => if h ≤ els.length ∧ okHead sz els = true then some (if full then .fd ((els.take h.toNat).drop l.toNat) else .d (.sl ((els.take h.toNat).drop l.toNat))) else none
    | .nil => if h ≤ 0 then some (.d (.sl [])) else none
    | .own id off len sz' => if h ≤ len ∧ sz' = sz then (if l = h then some (.d (.sl [])) else some (.own id (off + l.toNat) (h - l).toNat sz)) else none
    | _ => none
  else none

def lenA : AV → Option Int
  | .d (.sl els) => some els.length
  | .fd els => some els.length
  | .nil => some 0
  | .own _ _ len _ => some len
  | _ => none

section
variable {P : Program} {F : Nat → Prop} {w : World} {ι : Nat → Option Nat}

theorem isNilA_V {x : AV} {v : Value} {b : Option Bool} (h : isNilA x = some b) (hv : V F w ι x v) : ∃ ad n c, v = .slice ad n c ∧ (b = none ∨ b = some ad.isNone) := by
  unfold isNilA at h
  split at h <;> first | (cases h; done) | (injection h with h; subst h)
  · cases hv; exact ⟨_, _, _, rfl, .inr rfl⟩
  · cases hv; exact ⟨_, _, _, rfl, .inr rfl⟩
  · cases hv with | d _ _ hv => cases hv with
    | sl0 => exact ⟨_, _, _, rfl, .inl rfl⟩
    | sl => exact ⟨_, _, _, rfl, .inl rfl⟩
  · cases hv; exact ⟨_, _, _, rfl, .inl rfl⟩
  · rename_i els hne
    cases hv with | d _ _ hv => cases hv with
    | sl0 => exact (hne rfl).elim
    | sl => exact ⟨_, _, _, rfl, .inr rfl⟩
  · rename_i els hne
    cases hv with | fd _ ad n hv => cases hv with
    | sl0 => exact (hne rfl).elim
    | sl => exact ⟨_, _, _, rfl, .inr rfl⟩

theorem run_nilA {op : BinOp} {t : TypeId} {x y r : AV} {u v : Value} (h : nilA op (tel P t) x y = some r) (hx : V F w ι x u) (hy : V F w ι y v) (ox oy : Operand) :
    ∃ z, ((eqGuard op t ox oy u v).run P w = .ok () w ∧ (binOp op t u v).run P w = .ok z w) ∧ V F w ι r z := by
  unfold nilA at h
  split at h
  · rename_i e he
    obtain ⟨b, hb, h⟩ := Option.bind_eq_some_iff.1 h
    obtain ⟨ad, n, c, rfl, hb'⟩ := isNilA_V hb hx
    cases hy
    obtain ⟨h1, h2⟩ := eql_nil w t e ad n c 0 0 (tel_und he) ox oy
    unfold nilB at h
    split at h <;> first | (cases h; done) | (injection h with h; subst h)
    · rcases hb' with hb' | hb'
      · cases hb'
      · injection hb' with hb'; subst hb'; exact ⟨_, h1, .d _ _ (.b _)⟩
    · rcases hb' with hb' | hb'
      · cases hb'
      · injection hb' with hb'; subst hb'; exact ⟨_, h2, .d _ _ (.b _)⟩
    · exact ⟨_, h1, .ub _⟩
    · exact ⟨_, h2, .ub _⟩
  · cases h

theorem VD_slice {els : List (List D)} {v : Value} (h : VD F w (.sl els) v) : ∃ ad c, v = .slice ad els.length c ∧ els.length ≤ c := by
  cases h with
  | sl0 ad c => exact ⟨ad, c, rfl, Nat.zero_le _⟩
  | sl _ ad n c sz f hn hc => subst hn; exact ⟨_, _, rfl, hc⟩

theorem lenA_V {x : AV} {v : Value} {n : Int} (h : lenA x = some n) (hv : V F w ι x v) : ∃ ad l c, v = .slice ad l c ∧ n = l := by
  unfold lenA at h
  split at h <;> first | (cases h; done) | (injection h with h; subst h)
  · cases hv with | d _ _ hh => obtain ⟨ad, c, rfl, _⟩ := VD_slice hh; exact ⟨_, _, _, rfl, rfl⟩
  · cases hv with | fd _ ad n hh => obtain ⟨ad', c, he, _⟩ := VD_slice hh; injection he with _ h2 _; exact ⟨_, _, _, rfl, by rw [h2]⟩
  · cases hv; exact ⟨_, _, _, rfl, rfl⟩
  · cases hv; exact ⟨_, _, _, rfl, rfl⟩

/-- A part of what reads as a list. -/
theorem VD_cut {els : List (List D)} {ad : Option Addr} {n c : Nat} {sz : Nat} (h : VD F w (.sl els) (.slice ad n c)) (hsz : ∀ cs ∈ els, cs.length = sz) (l k m : Nat) (hl : l ≤ k) (hk : k ≤ n) (hm : k ≤ m) :
    VD F w (.sl ((els.take k).drop l)) (.slice (if m = l then ad else ad.map (·.add (l * sz))) (k - l) (m - l)) := by
  by_cases he : l = k
  · subst he
    have : (els.take l).drop l = [] := by simp
    rw [this, Nat.sub_self]
    exact .sl0 _ _
  · cases h with
    | sl0 => omega
    | sl _ a _ _ sz' f hn hc hsz' hF hcell hel =>
      have hpos : 0 < els.length := by omega
      have hes : sz' = sz := by
        have := List.getElem_mem hpos
        rw [← hsz' _ this, hsz _ this]
      subst hes
      rw [if_neg (by omega)]
      have hlen : ((els.take k).drop l).length = k - l := by simp; omega
      refine .sl _ _ _ _ sz' (fun j => f (l * sz' + j)) hlen.symm (by omega) (fun cs hcs => hsz cs (List.mem_of_mem_take (List.mem_of_mem_drop hcs))) (by rw [block_add]; exact hF) (fun j hj => ?_) (fun j i cs d hj hi => ?_)
      · rw [add_add]
        refine hcell _ ?_
        have h1 : l * sz' + (k - l) * sz' = k * sz' := by rw [← Nat.add_mul]; congr 1; omega
        have h2 : k * sz' ≤ n * sz' := Nat.mul_le_mul_right _ hk
        omega
      · rw [List.getElem?_drop, List.getElem?_take] at hj
        split at hj
        · have := hel (l + j) i cs d hj hi
          rw [Nat.add_mul, Nat.add_assoc] at this
          exact this
        · cases hj
end

end Go.Am
