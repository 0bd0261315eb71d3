/- The abstract machine, part 5: every operation that only reckons with values or makes one block (nev), proved. No condition. -/
import Derived.Test.YtmnjglpieghdkaaAm4
namespace Go.Am

section
variable {P : Program} {F : Nat → Prop} {w : World} {ι : Nat → Option Nat}

theorem V_fd_len {els : List (List D)} {v : Value} (h : V F w ι (.fd els) v) : ∃ ad, v = .slice ad els.length els.length ∧ VD F w (.sl els) (.slice ad els.length els.length) := by
  cases h with
  | fd _ ad n hh =>
    obtain ⟨ad', c, he, _⟩ := VD_slice hh
    injection he with h1 h2 h3
    subst h2
    exact ⟨ad, rfl, hh⟩

/-- Elements of one size, as the type has it. -/
def fit (sz : Nat) (els : List (List D)) : Bool := els.all fun cs => cs.length == sz

theorem fit_mem {sz : Nat} {els : List (List D)} (h : fit sz els = true) : ∀ cs ∈ els, cs.length = sz := fun cs hcs => by simpa using List.all_eq_true.1 h cs hcs

/-- The slice's own size fits by itself where one of its elements does. -/
theorem VD_sizes {els : List (List D)} {v : Value} {sz : Nat} (h : VD F w (.sl els) v) (h0 : ∀ cs, els.head? = some cs → cs.length = sz) : ∀ cs ∈ els, cs.length = sz := by
  cases h with
  | sl0 => intro cs hcs; cases hcs
  | sl _ ad n c sz' f hn hc hsz =>
    intro cs hcs
    cases els with
    | nil => cases hcs
    | cons a l =>
      have := h0 a rfl
      rw [hsz cs hcs, ← hsz a (List.mem_cons_self ..), this]

theorem okHead_spec {sz : Nat} {els : List (List D)} (h : okHead sz els = true) : ∀ cs, els.head? = some cs → cs.length = sz := by
  intro cs hcs
  simpa [okHead, hcs] using h

theorem sliceA_V {x : AV} {v : Value} {l h : Int} {full : Bool} {sz : Nat} {r : AV} (he : sliceA sz x l h full = some r) (hv : V F w ι x v) :
    ∃ ad n c, v = .slice ad n c ∧ 0 ≤ l ∧ l ≤ h ∧ h ≤ n ∧ n ≤ c ∧ ∀ m : Nat, (if full then m = h.toNat else m = c) → V F w ι r (.slice (if m = l.toNat then ad else ad.map (·.add (l.toNat * sz))) (h.toNat - l.toNat) (m - l.toNat)) := by
  unfold sliceA at he
  split at he
  · rename_i hlh
    split at he
    · rename_i els
      split at he
      · rename_i hn
        injection he with he; subst he
        cases hv with | d _ _ hh =>
        obtain ⟨ad, c, rfl, hc⟩ := VD_slice hh
        refine ⟨ad, _, c, rfl, hlh.1, hlh.2, hn.1, hc, fun m hm => ?_⟩
        have hcut := VD_cut hh (VD_sizes hh (okHead_spec hn.2)) l.toNat h.toNat m (by omega) (by have := hn.1; omega) (by have := hn.1; split at hm <;> omega)
        cases full
        · exact .d _ _ hcut
        · simp only [if_true] at hm; subst hm
          exact .fd _ _ _ hcut
      · cases he
    · rename_i els
      split at he
      · rename_i hn
        injection he with he; subst he
        obtain ⟨ad, rfl, hh⟩ := V_fd_len hv
        refine ⟨ad, _, _, rfl, hlh.1, hlh.2, hn.1, Nat.le_refl _, fun m hm => ?_⟩
        have hcut := VD_cut hh (VD_sizes hh (okHead_spec hn.2)) l.toNat h.toNat m (by omega) (by have := hn.1; omega) (by have := hn.1; split at hm <;> omega)
        cases full
        · exact .d _ _ hcut
        · simp only [if_true] at hm; subst hm
          exact .fd _ _ _ hcut
      · cases he
    · split at he
      · injection he with he; subst he
        cases hv
        refine ⟨none, 0, 0, rfl, hlh.1, hlh.2, by omega, Nat.le_refl _, fun m _ => ?_⟩
        have : h.toNat - l.toNat = 0 := by omega
        rw [this]
        exact .d _ _ (.sl0 _ _)
      · cases he
    · rename_i id off len sz'
      split at he
      · rename_i hn
        obtain ⟨hn, rfl⟩ := hn
        cases hv with | own _ _ _ _ b cap cur e hι hb hcap hl hm' =>
        refine ⟨_, _, _, rfl, hlh.1, hlh.2, hn, hl, fun m hm => ?_⟩
        split at he
        · injection he with he; subst he
          have : h.toNat - l.toNat = 0 := by omega
          rw [this]
          exact .d _ _ (.sl0 _ _)
        · injection he with he; subst he
          have hm1 : h.toNat ≤ m := by split at hm <;> omega
          have hm2 : m ≤ cap := by split at hm <;> omega
          rw [if_neg (by omega), Option.map_some, add_mk, ← Nat.add_mul, show h.toNat - l.toNat = (h - l).toNat from by omega]
          refine .own _ _ _ _ b _ cur e hι hb (Nat.le_trans (Nat.mul_le_mul_right _ ?_) hcap) (by omega) (by omega)
          omega
      · cases he
    · cases he
  · cases he
end

def intOfA : AV → Option Int
  | .d (.i _ n) => some n
  | _ => none

def optI (x : Option Operand) (Γ : Nat → AV) (dflt : Int) : Option Int :=
  match x with
  | none => some dflt
  | some o => intOfA (oev Γ o)

def boolOfA : AV → Option Bool
  | .d (.b x) => some x
  | _ => none

def guardO (c : Prop) [Decidable c] : Option Unit := if c then some () else none

def fieldA (off : Nat) : AV → Option AV
  | .ptr id o => some (.ptr id (o + off))
  | .fp cs => some (.fp (cs.drop off))
  | _ => none

def indexS (sz : Nat) (k : Int) : AV → Option AV
  | .d (.sl els) | .fd els => if 0 ≤ k then (els[k.toNat]?).bind fun cs => if cs.length = sz then some (.fp cs) else none else none
  | .own id off len sz' => if 0 ≤ k ∧ k < len ∧ sz' = sz then some (.ptr id ((off + k.toNat) * sz)) else none
  | _ => none

def indexP (sz m : Nat) (k : Int) : AV → Option AV
  | .ptr id o => if 0 ≤ k ∧ k < m then some (.ptr id (o + k.toNat * sz)) else none
  | .fp cs => if 0 ≤ k ∧ k < m then some (.fp (cs.drop (k.toNat * sz))) else none
  | _ => none

def pureA (x : Option AV) : Option (AV × Option HO) := x.map fun v => (v, none)

def nevCall (P : Program) (Γ : Nat → AV) : Callee → List Operand → List TypeId → Option AV
  | .builtin .len, [x], [t] => (tel P t).bind fun _ => (lenA (oev Γ x)).map fun n => .d (.i .i64 n)
  | .builtin .max, [x, y], _ => match oev Γ x, oev Γ y with | .d (.i k a), .d (.i _ b) => some (.d (.i k (if b > a then b else a))) | _, _ => none
  | .builtin .min, [x, y], _ => match oev Γ x, oev Γ y with | .d (.i k a), .d (.i _ b) => some (.d (.i k (if b < a then b else a))) | _, _ => none
  | _, _, _ => none

/-- What an operation that looks at values alone gives: the value, and the block that it makes (known as number n). -/
def nev (P : Program) (op : Op) (Γ : Nat → AV) (n : Nat) : Option (AV × Option HO) :=
  match op with
  | .move x | .assign x => some (oev Γ x, none)
  | .pick c a b => pureA ((boolOfA (oev Γ c)).map fun t => if t then oev Γ a else oev Γ b)
  | .alloc e => (tz P e).map fun z => (.ptr n 0, some (.cells e (z.cells.toList.map cv1)))
  | .box e x => (cellsA (oev Γ x)).map fun cs => (.ptr n 0, some (.cells e cs))
  | .build t ps => pureA ((tz P t).bind fun z => (flds P t).bind fun fl => if z.cells.all Value.oneCell' then
      (fillA (fl[·]?) (z.cells.toList.map cv1) (ps.toList.map fun p => (p.1, oev Γ p.2))).map .ag else none)
  | .buildSlice t len ps => (tel P t).bind fun e => (tsz P e).bind fun sz => (tz P e).bind fun z =>
      if z.cells.size = sz ∧ 0 < sz ∧ len * sz ≤ 16777216 ∧ z.cells.all Value.oneCell' = true then
        (fillA (fun i => some (i * sz, sz)) ((List.replicate len (z.cells.toList.map cv1)).flatten) (ps.toList.map fun p => (p.1, oev Γ p.2))).map fun cs => (.own n 0 len sz, some (.cells e cs))
      else none
  | .makeSlice t l c => (tel P t).bind fun e => (tsz P e).bind fun sz => (tz P e).bind fun z => (tby P e).bind fun by_ => (intOfA (oev Γ l)).bind fun a => (intOfA (oev Γ c)).bind fun b =>
      if z.cells.size = sz ∧ 0 < sz ∧ z.cells.all Value.oneCell' = true ∧ 0 ≤ a ∧ a ≤ b ∧ (by_ : Int) * b ≤ 281474976710656 ∧ b ≤ 9223372036854775807 then
        some (.own n 0 a.toNat sz, some (.cells e (List.replicate a.toNat (z.cells.toList.map cv1)).flatten))
      else none
  | .binOp op t x y _ => pureA (match nilA op (tel P t) (oev Γ x) (oev Γ y) with | some r => some r | none => (binA op (tbool P t) (oev Γ x) (oev Γ y)).map .d)
  | .unOp op _ x => pureA ((unA op (oev Γ x)).map .d)
  | .convert s t x => pureA ((tint P t).bind fun k => (intOfA (oev Γ x)).bind fun m => if (P.underlying s).isSome then some (.d (.i k (k.wrap m))) else none)
  | .fieldAddr s x f => pureA ((flds P s).bind fun fl => (fl[f]?).bind fun p => if p.2 = 0 then none else fieldA p.1 (oev Γ x))
  | .indexAddr t x i => pureA ((intOfA (oev Γ i)).bind fun k => match tel P t with
      | some e => (tsz P e).bind fun sz => indexS sz k (oev Γ x)
      | none => (tarr P t).bind fun p => (tsz P p.2).bind fun sz => indexP sz p.1 k (oev Γ x))
  | .extract x i => pureA ((tpOf (oev Γ x)).bind fun vs => vs[i]?)
  | .slice t x lo hi mx => pureA ((tel P t).bind fun e => (tsz P e).bind fun sz => (lenA (oev Γ x)).bind fun n => (optI lo Γ 0).bind fun l => (optI hi Γ n).bind fun h =>
      match mx with
      | none => sliceA sz (oev Γ x) l h false
      | some y => (intOfA (oev Γ y)).bind fun m => if m = h ∧ hi.isSome then sliceA sz (oev Γ x) l h true else none)
  | .call c => pureA (nevCall P Γ c.callee c.args.toList c.argTypes.toList)
  | .field s x f => pureA ((tfld P s f).bind fun p => (agOf (oev Γ x)).bind fun cs => if p.2.1 then (if p.1 + p.2.2 ≤ cs.length then some (.ag ((cs.drop p.1).take p.2.2)) else none) else cs[p.1]?)
  | .makeMap t r => (tmp P t).bind fun p => (tint P p.1).bind fun k => (match r with | none => some 0 | some x => intOfA (oev Γ x)).map fun _ => (.mp n, some (.map k []))
  | _ => none

end Go.Am
