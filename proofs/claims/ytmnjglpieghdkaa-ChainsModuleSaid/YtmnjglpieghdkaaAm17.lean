/- The abstract machine, part 17: an interpreter over abstract states, by which the kernel runs a function at given data; what it answers is a contract. No condition. -/
import Derived.Test.YtmnjglpieghdkaaAm16
namespace Go.Am
open RowKit (Below)

/-- What is known of callees: contracts on data, contracts that write into one block, 'maps.Keys', 'slices.Sorted', deferred functions. -/
structure Kn where
  call : FuncId → List D → Option D
  ocall : FuncId → AV → HO → List D → Option (HO × D)
  keys : FuncId → Option FuncId
  sorted : FuncId → FuncId → Bool
  recs : FuncId → Bool

structure KnOk (P : Program) (E : Kn) : Prop where
  call : ∀ f ds r, E.call f ds = some r → Spec P f ds r
  ocall : ∀ f h o ds o' r, E.ocall f h o ds = some (o', r) → OSpec P f h o ds o' r
  keys : ∀ f g, E.keys f = some g → KeysSpec P f g
  sorted : ∀ f g, E.sorted f g = true → SortedSpec P f g
  recs : ∀ g, E.recs g = true → RecSpec P g

def OEC (P : Program) (E : Kn) (f : FuncId) (args : Array Operand) (dst : Option Tmp) (σ : St) (con : List Nat) : Option (St × List Nat) :=
  if mutF P f then match args.toList with
    | x :: rest => match hd1 (oev σ.Γ x) with
      | some (id, h) => match σ.H id with
        | some ho => match rest, h, E.keys f with
          | [], .mp 0, some g => some (⟨putA σ.Γ dst (.kf g id), σ.H, σ.n⟩, con)
          | _, _, _ => if nohO ho = true ∧ viss σ.H (rest.map (oev σ.Γ)) = [] then match frzs σ.H (rest.map (oev σ.Γ)) with
            | some ds => match E.ocall f h ho ds with
              | some (ho', r) => if ho'.len = ho.len ∧ nohO ho' = true then some (⟨putA σ.Γ dst (inj r), upd σ.H id (some ho'), σ.n⟩, con) else none
              | none => none
            | none => none
            else none
        | none => none
      | none => none
    | [] => none
  else match args.toList.map (oev σ.Γ) with
    | [.kf g id] => match σ.H id with
      | some (.map .i64 es) => if es.length ≤ 1099511627776 ∧ (es.map (·.1)).all inr = true ∧ E.sorted f g = true then some (⟨putA σ.Γ dst (.d (.sl ((isort (es.map (·.1))).map fun n => [.i .i64 n]))), σ.H, σ.n⟩, con) else none
      | _ => none
    | avs => match frzs σ.H avs with
      | some ds => match E.call f ds with
        | some r => some (⟨putA σ.Γ dst (inj r), kill (killsOf σ.H avs r) σ.H, σ.n⟩, killsOf σ.H avs r ++ con)
        | none => none
      | none => none

def OE1 (P : Program) (E : Kn) (o : Oper) (σ : St) (con : List Nat) : Option (St × List Nat) :=
  match o.op with
  | .load t x => match loadA P σ.H t (oev σ.Γ x) with
    | some v => some (⟨putA σ.Γ o.dst v, σ.H, σ.n⟩, con)
    | none => none
  | .lookup t m x ok => match lookA P σ.H t (oev σ.Γ m) (oev σ.Γ x) ok with
    | some v => some (⟨putA σ.Γ o.dst v, σ.H, σ.n⟩, con)
    | none => none
  | .store t ad x => match storeA P σ.H t (oev σ.Γ ad) (oev σ.Γ x) with
    | some (id, ho) => some (⟨putA σ.Γ o.dst .un, upd σ.H id (some ho), σ.n⟩, con)
    | none => none
  | .mapUpdate t m x v => match mapW P σ.H t (oev σ.Γ m) (oev σ.Γ x) (some (oev σ.Γ v)) with
    | some (id, ho) => some (⟨putA σ.Γ o.dst .any, upd σ.H id (some ho), σ.n⟩, con)
    | none => none
  | .call { callee := .value (.func f), args := args, argTypes := _ } => OEC P E f args o.dst σ con
  | .call { callee := .builtin .append, args := args, argTypes := ts } => match args.toList, ts.toList with
    | [s, x], [t, t'] => if t = t' then match appA P σ.H t (oev σ.Γ s) (oev σ.Γ x) σ.n with
      | some (av, nb, cn) => some (⟨putA σ.Γ o.dst av, addB (kill cn σ.H) σ.n nb, cnt nb σ.n⟩, cn ++ con)
      | none => none
      else none
    | _, _ => none
  | .call { callee := .builtin .delete, args := args, argTypes := ts } => match args.toList, ts.toList with
    | [m, x], [t, _] => match mapW P σ.H t (oev σ.Γ m) (oev σ.Γ x) none with
      | some (id, ho) => some (⟨putA σ.Γ o.dst .any, upd σ.H id (some ho), σ.n⟩, con)
      | none => none
    | _, _ => none
  | op => if kind P op = 0 then match nev P op σ.Γ σ.n with
    | some (av, nb) => some (⟨putA σ.Γ o.dst av, addB σ.H σ.n nb, cnt nb σ.n⟩, con)
    | none => none
    else none

def OE (P : Program) (E : Kn) (ops : Array Oper) : List Oper → St → List Nat → Option (St × List Nat)
  | [], σ, con => some (σ, con)
  | o :: l, σ, con => match wantedA ops o σ.Γ with
    | some true => match OE1 P E o σ con with
      | some p => OE P E ops l p.1 p.2
      | none => none
    | some false => OE P E ops l ⟨putA σ.Γ o.dst .un, σ.H, σ.n⟩ con
    | none => none

section
variable {P : Program} {E : Kn} (hE : KnOk P E)
include hE

theorem OEC_sound {f : FuncId} {args : Array Operand} {dst : Option Tmp} {σ : St} {con : List Nat} {p : St × List Nat} {k : St → List Nat → Prop} (h : OEC P E f args dst σ con = some p) (hk : k p.1 p.2) : OC P f args dst σ con k := by
  unfold OEC at h
  unfold OC
  split at h
  · rename_i hm
    rw [if_pos hm]
    split at h
    case h_2 => cases h
    rename_i x rest hargs
    rw [hargs]
    simp only
    split at h
    case h_2 => cases h
    rename_i id hh hx
    rw [hx]
    simp only
    split at h
    case h_2 => cases h
    rename_i ho hH
    rw [hH]
    simp only
    split at h
    · rename_i g hg
      injection h with h; subst h
      exact .inl ⟨g, rfl, rfl, hE.keys _ _ hg, hk⟩
    · split at h
      case isFalse => cases h
      rename_i hc
      split at h
      case h_2 => cases h
      rename_i ds hds
      split at h
      case h_2 => cases h
      rename_i ho' r hr
      split at h
      case isFalse => cases h
      rename_i hc2
      injection h with h; subst h
      exact .inr ⟨hc.1, hc.2, ds, ho', r, hds, hE.ocall _ _ _ _ _ _ hr, hc2.1, hc2.2, hk⟩
  · rename_i hm
    rw [if_neg hm]
    split at h
    · rename_i g id hargs
      rw [hargs]
      simp only
      split at h
      · rename_i es hH
        split at h
        · rename_i hc
          injection h with h; subst h
          rw [hH]
          exact ⟨hc.1, hc.2.1, hE.sorted _ _ hc.2.2, hk⟩
        · cases h
      · cases h
    · rename_i hne
      split at h
      case h_2 => cases h
      rename_i ds hds
      split at h
      case h_2 => cases h
      rename_i r hr
      injection h with h; subst h
      split
      · rename_i g id hargs; exact (hne _ _ hargs).elim
      · exact ⟨ds, r, hds, hE.call _ _ _ hr, hk⟩

theorem OE1_sound {o : Oper} {σ : St} {con : List Nat} {p : St × List Nat} {k : St → List Nat → Prop} (h : OE1 P E o σ con = some p) (hk : k p.1 p.2) : O1 P o σ con k := by
  unfold OE1 at h
  unfold O1
  split at h
  · rename_i t x hop
    rw [hop]
    split at h
    · rename_i v hv; simp only [hv]; injection h with h; subst h; exact hk
    · cases h
  · rename_i t m x ok hop
    rw [hop]
    split at h
    · rename_i v hv; simp only [hv]; injection h with h; subst h; exact hk
    · cases h
  · rename_i t ad x hop
    rw [hop]
    split at h
    · rename_i id ho hv; simp only [hv]; injection h with h; subst h; exact hk
    · cases h
  · rename_i t m x v hop
    rw [hop]
    split at h
    · rename_i id ho hv; simp only [hv]; injection h with h; subst h; exact hk
    · cases h
  · rename_i f args ts hop
    rw [hop]
    exact OEC_sound hE h hk
  · rename_i args ts hop
    rw [hop]
    split at h
    · rename_i s x t t' hargs hts
      simp only [hargs, hts]
      split at h
      · rename_i htt
        refine ⟨htt, ?_⟩
        split at h
        · rename_i av nb cn hv; simp only [hv]; injection h with h; subst h; exact hk
        · cases h
      · cases h
    · cases h
  · rename_i args ts hop
    rw [hop]
    split at h
    · rename_i m x t kt hargs hts
      simp only [hargs, hts]
      split at h
      · rename_i id ho hv; simp only [hv]; injection h with h; subst h; exact hk
      · cases h
    · cases h
  · rename_i op h1 h2 h3 h4 h5 h6 h7
    split at h
    · rename_i hkd
      split at h
      · rename_i av nb hv
        injection h with h; subst h
        split
        · rename_i hop; exact (h1 _ _ hop).elim
        · rename_i hop; exact (h2 _ _ _ _ hop).elim
        · rename_i hop; exact (h3 _ _ _ hop).elim
        · rename_i hop; exact (h4 _ _ _ _ hop).elim
        · rename_i hop; exact (h5 _ _ _ hop).elim
        · rename_i hop; exact (h6 _ _ hop).elim
        · rename_i hop; exact (h7 _ _ hop).elim
        · refine ⟨hkd, ?_⟩
          simp only [hv]; exact hk
      · cases h
    · cases h

theorem OE_sound {ops : Array Oper} {k : St → List Nat → Prop} : ∀ (l : List Oper) (σ : St) (con : List Nat) (p : St × List Nat), OE P E ops l σ con = some p → k p.1 p.2 → OW P ops l σ con k
  | [], σ, con, p, h, hk => by unfold OE at h; injection h with h; subst h; exact hk
  | o :: l, σ, con, p, h, hk => by
    unfold OE at h
    unfold OW
    split at h
    · rename_i hw
      simp only [hw]
      split at h
      · rename_i q hq; exact OE1_sound hE hq (OE_sound l _ _ _ h hk)
      · cases h
    · rename_i hw
      simp only [hw]
      exact OE_sound l _ _ _ h hk
    · cases h
end

/-- A leaf of a state whose blocks S are read for good from now on. -/
def fz (H : Nat → Option HO) (S : List Nat) (x : AV) : AV :=
  match x with
  | .own id _ _ _ => if id ∈ S then (match frz H 8 x with
      | some d => if (vis H 8 x).all (fun a => decide (a ∈ S)) then .d d else .any
      | none => .any) else if (H id).isSome then x else .any
  | .ptr id _ => if id ∈ S then .any else if (H id).isSome then x else .any
  | .mp id => if id ∈ S then .any else if (H id).isSome then x else .any
  | .kf _ id => if id ∈ S then .any else if (H id).isSome then x else .any
  | .ag _ => .any
  | .tp _ => .any
  | x => x

def fzs (H : Nat → Option HO) (S : List Nat) (x : AV) : AV :=
  match x with
  | .ag cs => .ag (cs.map (fz H S))
  | x => fz H S x

def fzm (H : Nat → Option HO) (S : List Nat) (x : AV) : AV :=
  match frz H 8 x with
  | some d => if (vis H 8 x).all (fun a => decide (a ∈ S)) then .d d else .any
  | none => .any

def fzO (H : Nat → Option HO) (S : List Nat) : HO → HO
  | .cells e cs => .cells e (cs.map (fz H S))
  | .map k es => .map k (es.map fun p => (p.1, fzm H S p.2))

/-- From now on the blocks S are read only. -/
def frzS (S : List Nat) (σ : St) : St := ⟨fun t => fzs σ.H S (σ.Γ t), fun id => if id ∈ S then none else (σ.H id).map (fzO σ.H S), σ.n⟩

theorem frzS_some {S : List Nat} {σ : St} {id : Nat} : ((frzS S σ).H id).isSome = true ↔ id ∉ S ∧ (σ.H id).isSome = true := by
  simp only [frzS]
  by_cases h : id ∈ S <;> simp [h]

theorem fz_sub {S : List Nat} {σ : St} (x : AV) : SubL σ.H (frzS S σ).H (fun i => i) x (fz σ.H S x) := by
  have key : ∀ (x : AV) (d : D), frz σ.H 8 x = some d → (vis σ.H 8 x).all (fun a => decide (a ∈ S)) = true → SubL σ.H (frzS S σ).H (fun i => i) x (.d d) := by
    intro x d h1 h2
    have : frz σ.H 8 x = some d ∧ ∀ a ∈ vis σ.H 8 x, ∀ id, ((frzS S σ).H id).isSome = true → id ≠ a := by
      refine ⟨h1, fun a ha id hid e => ?_⟩
      have h3 := List.all_eq_true.1 h2 a ha
      simp only [decide_eq_true_eq] at h3
      exact (frzS_some.1 hid).1 (e ▸ h3)
    cases x <;> exact this
  cases x with
  | own id off len sz =>
    simp only [fz]
    split
    · split
      · rename_i d hd
        split
        · exact key _ d hd (by assumption)
        · trivial
      · trivial
    · split
      · exact ⟨rfl, rfl, rfl, rfl, frzS_some.2 ⟨by assumption, by assumption⟩⟩
      · trivial
  | ptr id off =>
    simp only [fz]
    split
    · trivial
    · split
      · exact ⟨rfl, rfl, frzS_some.2 ⟨by assumption, by assumption⟩⟩
      · trivial
  | mp id =>
    simp only [fz]
    split
    · trivial
    · split
      · exact ⟨rfl, frzS_some.2 ⟨by assumption, by assumption⟩⟩
      · trivial
  | kf f id =>
    simp only [fz]
    split
    · trivial
    · split
      · exact ⟨rfl, rfl, frzS_some.2 ⟨by assumption, by assumption⟩⟩
      · trivial
  | ag cs => trivial
  | tp cs => trivial
  | d y => exact key _ y rfl rfl
  | nil => trivial
  | fp cs => rfl
  | fd els => rfl
  | un => trivial
  | ub => trivial
  | any => trivial

theorem frzS_wk (S : List Nat) (σ : St) (htop : ∀ id, σ.n ≤ id → σ.H id = none) : Wk σ (frzS S σ) (fun i => i) := by
  refine ⟨fun id h => ?_, fun t => ?_, fun id o' h => ?_, fun _ _ _ _ h => h, fun _ => rfl, fun h => h⟩
  · simp only [frzS] at h ⊢
    rw [htop id h]; simp
  · show Sub σ.H (frzS S σ).H (fun i => i) (σ.Γ t) (fzs σ.H S (σ.Γ t))
    generalize σ.Γ t = x
    cases x with
    | ag cs =>
      refine ⟨by simp, fun k c d hc hd => ?_⟩
      rw [List.getElem?_map, hc] at hd
      injection hd with hd; subst hd
      exact fz_sub c
    | d y => exact fz_sub (S := S) (σ := σ) (.d y)
    | nil => exact fz_sub (S := S) (σ := σ) .nil
    | un => exact fz_sub (S := S) (σ := σ) .un
    | ub => exact fz_sub (S := S) (σ := σ) .ub
    | any => exact fz_sub (S := S) (σ := σ) .any
    | fp cs => exact fz_sub (S := S) (σ := σ) (.fp cs)
    | fd els => exact fz_sub (S := S) (σ := σ) (.fd els)
    | tp cs => exact fz_sub (S := S) (σ := σ) (.tp cs)
    | own id off len sz =>
      have h := fz_sub (S := S) (σ := σ) (.own id off len sz)
      simp only [fzs]
      generalize fz σ.H S (.own id off len sz) = y at h
      cases y <;> exact h
    | ptr id off =>
      have h := fz_sub (S := S) (σ := σ) (.ptr id off)
      simp only [fzs]
      generalize fz σ.H S (.ptr id off) = y at h
      cases y <;> exact h
    | mp id =>
      have h := fz_sub (S := S) (σ := σ) (.mp id)
      simp only [fzs]
      generalize fz σ.H S (.mp id) = y at h
      cases y <;> exact h
    | kf f id =>
      have h := fz_sub (S := S) (σ := σ) (.kf f id)
      simp only [fzs]
      generalize fz σ.H S (.kf f id) = y at h
      cases y <;> exact h
  · simp only [frzS] at h
    split at h
    · cases h
    · obtain ⟨o, ho, rfl⟩ := Option.map_eq_some_iff.1 h
      refine ⟨o, ho, ?_⟩
      cases o with
      | cells e cs =>
        refine ⟨rfl, by simp, fun k c d hc hd => ?_⟩
        rw [List.getElem?_map, hc] at hd
        injection hd with hd; subst hd
        exact fz_sub c
      | map k es =>
        refine ⟨rfl, by simp, fun j x y hx hy => ?_⟩
        rw [List.getElem?_map, hx] at hy
        injection hy with hy; subst hy
        refine ⟨rfl, ?_⟩
        simp only [fzm]
        split
        · rename_i d hd
          split
          · rename_i hv
            have : frz σ.H 8 x.2 = some d ∧ ∀ a ∈ vis σ.H 8 x.2, ∀ id, ((frzS S σ).H id).isSome = true → id ≠ a := by
              refine ⟨hd, fun a ha id hid e => ?_⟩
              have h3 := List.all_eq_true.1 hv a ha
              simp only [decide_eq_true_eq] at h3
              exact (frzS_some.1 hid).1 (e ▸ h3)
            generalize x.2 = z at this
            cases z <;> exact .inl this
          · generalize x.2 = z
            cases z <;> exact .inl trivial
        · generalize x.2 = z
          cases z <;> exact .inl trivial

def iter (body : St → Option (Exit × St)) : Nat → St → Option (Exit × St)
  | 0, _ => none
  | n + 1, σ => match body σ with
    | some (.normal, σ') => iter body n σ'
    | r => r

def ex (P : Program) (E : Kn) (fuel : Nat) : Code → St → Option (Exit × St)
  | .skip, σ => some (.normal, σ)
  | .region _ ops _, σ => match OE P E ops ops.toList σ [] with
    | some (σ', con) => match con.filter (fun i => decide (i < σ.n)) with
      | [] => some (.normal, fin σ' con)
      | i :: S => match OE P E ops ops.toList (frzS (i :: S) σ) [] with
        | some (σ2, con2) => some (.normal, fin σ2 con2)
        | none => some (.normal, fin σ' con)
    | none => none
  | .seq x y, σ => match ex P E fuel x σ with
    | some (.normal, σ') => ex P E fuel y σ'
    | r => r
  | .cond c x y, σ => match oev σ.Γ c with
    | .d (.b true) => ex P E fuel x σ
    | .d (.b false) => ex P E fuel y σ
    | _ => none
  | .block id c, σ => match ex P E fuel c σ with
    | some (.exit id', σ') => if id' = id then some (.normal, σ') else some (.exit id', σ')
    | r => r
  | .loop c, σ => iter (ex P E fuel c) fuel σ
  | .exit id, σ => some (.exit id, σ)
  | .ret, σ => some (.ret, σ)
  | .label _, σ => some (.normal, σ)
  | .scope c, σ => match ex P E fuel c σ with
    | some (.goto _, _) => none
    | r => r
  | _, _ => none

section
variable {P : Program} {G : Ctx} {N : Nat} {ds : List Deferred} {E : Kn}

theorem ex_sound (hE : KnOk P E) (hm : P.follows .mixedOrders = true) (fuel : Nat) : ∀ (c : Code) (σ : St) (a : Act) (w : World) (e : Exit) (σ' : St), codeDst N c = true → codeLex P c = true → ex P E fuel c σ = some (e, σ') → SR G N ds σ a w →
    c.wp P (fun e' a' w' => e' = e ∧ SR G N ds σ' a' w') a w := by
  intro c
  induction c with
  | skip => intro σ a w e σ' _ _ h hs; simp only [ex, Option.some.injEq, Prod.mk.injEq] at h; obtain ⟨rfl, rfl⟩ := h; exact wp_skip ⟨rfl, hs⟩
  | region id ops draw =>
    intro σ a w e σ' hd hl h hs
    have one : ∀ (σ0 σ1 : St) (con : List Nat), OE P E ops ops.toList σ0 [] = some (σ1, con) → SR G N ds σ0 a w → (Code.region id ops draw).wp P (fun e' a' w' => e' = .normal ∧ SR G N ds (fin σ1 con) a' w') a w := by
      intro σ0 σ1 con hp hs0
      refine region_sound (Q := fun s => s = fin σ1 con) hm (opsDst_spec hd) (fun hdr => by simpa [codeLex, hdr] using hl) hs0 (OE_sound hE _ _ _ _ hp rfl) ?_
      rintro σ' a' w' rfl hs'
      exact ⟨rfl, hs'⟩
    simp only [ex] at h
    split at h
    · rename_i σ1 con hp
      split at h
      · injection h with h; injection h with h1 h2; subst h1; subst h2
        exact one σ σ1 con hp hs
      · rename_i i S hS
        split at h
        · rename_i σ2 con2 hp2
          injection h with h; injection h with h1 h2; subst h1; subst h2
          exact one _ σ2 con2 hp2 (SR_weak (frzS_wk (i :: S) σ hs.1) hs)
        · injection h with h; injection h with h1 h2; subst h1; subst h2
          exact one σ σ1 con hp hs
    · cases h
  | seq x y ihx ihy =>
    intro σ a w e σ' hd hl h hs
    simp only [codeDst, codeLex, Bool.and_eq_true] at hd hl
    simp only [ex] at h
    split at h
    · rename_i σ1 h1
      refine wp_seq (wp_mono (ihx σ a w _ _ hd.1 hl.1 h1 hs) ?_)
      rintro e' a' w' ⟨rfl, hs'⟩
      exact ihy _ a' w' _ _ hd.2 hl.2 h hs'
    · rename_i hne
      refine wp_seq (wp_mono (ihx σ a w _ _ hd.1 hl.1 h hs) ?_)
      rintro e' a' w' ⟨rfl, hs'⟩
      cases e' with
      | normal => exact (hne _ h).elim
      | _ => exact ⟨rfl, hs'⟩
  | cond c x y ihx ihy =>
    intro σ a w e σ' hd hl h hs
    simp only [codeDst, codeLex, Bool.and_eq_true] at hd hl
    have hc : ∀ t, oev σ.Γ c = .d (.b t) → a.eval c = .bool t := by
      intro t ht
      obtain ⟨_, _, F, ι, _, _, hV, _⟩ := hs
      have := V_oev (Γ := σ.Γ) (a := a) (x := c) (F := F) (w := w) (ι := ι) fun t _ => hV t
      rw [ht] at this
      generalize a.eval c = v at this
      cases this with | d _ _ h => cases h; rfl
    simp only [ex] at h
    split at h
    · rename_i ht; exact wp_cond (hc _ ht) (ihx σ a w _ _ hd.1 hl.1 h hs)
    · rename_i ht; exact wp_cond (hc _ ht) (ihy σ a w _ _ hd.2 hl.2 h hs)
    · cases h
  | block id c ih =>
    intro σ a w e σ' hd hl h hs
    simp only [ex] at h
    split at h
    · rename_i id' σ1 h1
      refine wp_block (wp_mono (ih σ a w _ _ hd hl h1 hs) ?_)
      rintro e' a' w' ⟨rfl, hs'⟩
      simp only [Exit.inBlock]
      split at h
      · rename_i he; injection h with h; injection h with h1 h2; subst h1; subst h2; rw [if_pos he]; exact ⟨rfl, hs'⟩
      · rename_i he; injection h with h; injection h with h1 h2; subst h1; subst h2; rw [if_neg he]; exact ⟨rfl, hs'⟩
    · rename_i hne
      refine wp_block (wp_mono (ih σ a w _ _ hd hl h hs) ?_)
      rintro e' a' w' ⟨rfl, hs'⟩
      cases e' with
      | exit id' => exact (hne _ _ h).elim
      | _ => exact ⟨rfl, hs'⟩
  | loop c ih =>
    intro σ a w e σ' hd hl h hs
    simp only [ex] at h
    refine wp_loop_rel (fun n a w => ∃ σ, iter (ex P E fuel c) n σ = some (e, σ') ∧ SR G N ds σ a w) ⟨fuel, σ, h, hs⟩ ?_
    rintro n a w ⟨σ1, h1, hs1⟩
    cases n with
    | zero => cases h1
    | succ n =>
      simp only [iter] at h1
      split at h1
      · rename_i σ2 h2
        refine wp_mono (ih σ1 a w _ _ hd hl h2 hs1) ?_
        rintro e' a' w' ⟨rfl, hs'⟩
        exact ⟨n, Nat.lt_succ_self n, _, h1, hs'⟩
      · rename_i hne
        refine wp_mono (ih σ1 a w _ _ hd hl h1 hs1) ?_
        rintro e' a' w' ⟨rfl, hs'⟩
        cases e' with
        | normal => exact (hne _ h1).elim
        | _ => exact ⟨rfl, hs'⟩
  | exit id => intro σ a w e σ' _ _ h hs; simp only [ex, Option.some.injEq, Prod.mk.injEq] at h; obtain ⟨rfl, rfl⟩ := h; exact wp_exit ⟨rfl, hs⟩
  | ret => intro σ a w e σ' _ _ h hs; simp only [ex, Option.some.injEq, Prod.mk.injEq] at h; obtain ⟨rfl, rfl⟩ := h; exact wp_ret ⟨rfl, hs⟩
  | label l => intro σ a w e σ' _ _ h hs; simp only [ex, Option.some.injEq, Prod.mk.injEq] at h; obtain ⟨rfl, rfl⟩ := h; exact wp_label ⟨rfl, hs⟩
  | scope c ih =>
    intro σ a w e σ' hd hl h hs
    simp only [ex] at h
    split at h
    · cases h
    · rename_i hne
      refine wp_scope_straight (wp_mono (ih σ a w _ _ hd hl h hs) ?_)
      rintro e' a' w' ⟨rfl, hs'⟩
      cases e' with
      | goto l => exact (hne _ _ h).elim
      | _ => exact ⟨rfl, hs'⟩
  | _ => intro σ a w e σ' _ _ h; cases h
end

/-- The function may be run by the interpreter. -/
def fnOk (P : Program) (fn : Func) (c : Code) : Bool := codeDst fn.ntmps c && codeLex P c && !(fn.name == "runtime.NumGoroutine")

/-- The parts of a body that defers. -/
def parts3 (c : Code) : Option (Code × FuncId × Code) := match c with
  | .seq r0 (.seq rd rest) => (deferOf rd).map fun g => (r0, g, rest)
  | _ => none

theorem spec_of_wp {P : Program} {f N : Nat} {fn : Func} {c : Code} {args : List D} {r : D} {e : Exit} {σ : St} (hf : P.funcs[f]? = some fn) (hb : fn.body = some c) (hname : (fn.name == "runtime.NumGoroutine") = false) (hN : fn.ntmps = N)
    (ha : args.length ≤ N) (h : ∀ (G : Ctx) (a : Act) (w : World), SR G N [] (St0 args N) a w → c.wp P (fun e' a' w' => e' = e ∧ SR G N [] σ a' w') a w) (he : e = .normal ∨ e = .ret) (hr : resD P fn.results.toList σ = some r) : Spec P f args r := by
  intro A W vs hA hl hv
  have hn : ¬ fn.name = "runtime.NumGoroutine" := by simpa using hname
  refine ⟨fun w => by simp [callFunc, hf, hn, hb], ?_⟩
  refine calls_of_wp hf hb ?_
  subst hN
  refine wp_mono (h _ _ _ (SR0 hA hl hv ha)) ?_
  rintro e' a w ⟨rfl, hs⟩
  obtain ⟨v, hrun, hvd⟩ := run_results hs hr
  obtain ⟨_, _, F, ι, hR, _, _, _, hdf, _⟩ := hs
  have hend : a.defers = [] ∧ ∃ v, (results fn a.tmps).run P w = .ok v w ∧ ∃ v', Ending.returned v = .returned v' ∧ Below W.heap.size W w ∧ VD (fun b => A b ∨ (W.heap.size ≤ b ∧ b < w.heap.size)) w r v' := by
    refine ⟨hdf, v, hrun, v, rfl, ⟨hR.kept.os, hR.kept.tape, hR.kept.output, hR.kept.size, fun k hk => hR.kept.block k hk (fun h => h)⟩, hvd.mono ?_⟩
    rintro b (h | h | h)
    · exact .inl h
    · exact h.elim
    · exact .inr h
  rcases he with rfl | rfl <;> exact hend

theorem spec_of_dwp {P : Program} {f N : Nat} {fn : Func} {g : FuncId} {r0 rd rest : Code} {args : List D} {r : D} {e : Exit} {σ0 σ : St} (hf : P.funcs[f]? = some fn) (hb : fn.body = some (.seq r0 (.seq rd rest))) (hname : (fn.name == "runtime.NumGoroutine") = false)
    (hN : fn.ntmps = N) (hg : deferOf rd = some g) (hrec : RecSpec P g) (ha : args.length ≤ N) (h : ∀ (G : Ctx) (a : Act) (w : World), SR G N [] (St0 args N) a w → r0.wp P (fun e' a' w' => e' = .normal ∧ SR G N [] σ0 a' w') a w)
    (h' : ∀ (G : Ctx) (a : Act) (w : World), SR G N [{ target := .fn (.func g) #[], args := #[] }] σ0 a w → rest.wp P (fun e' a' w' => e' = e ∧ SR G N [{ target := .fn (.func g) #[], args := #[] }] σ a' w') a w)
    (he : e = .normal ∨ e = .ret) (hr : resD P fn.results.toList σ = some r) : Spec P f args r := by
  intro A W vs hA hl hv
  have hn : ¬ fn.name = "runtime.NumGoroutine" := by simpa using hname
  refine ⟨fun w => by simp [callFunc, hf, hn, hb], ?_⟩
  refine calls_of_wp_defers hf hb ?_
  subst hN
  refine wp_seq (wp_mono (h _ _ _ (SR0 hA hl hv ha)) ?_)
  rintro e' a w ⟨rfl, hs0⟩
  refine wp_seq (wp_deferOf hg ?_)
  refine wp_mono (h' _ _ _ (SR_defer { target := .fn (.func g) #[], args := #[] } hs0)) ?_
  rintro e' a w ⟨rfl, hs⟩
  obtain ⟨v, hrun, hvd⟩ := run_results hs hr
  obtain ⟨_, _, F, ι, hR, _, _, _, hdf, _⟩ := hs
  have hend : Leaves P fn a.tmps (fun e w' => ∃ v, e = .returned v ∧ Below W.heap.size W w' ∧ VD (fun b => A b ∨ (W.heap.size ≤ b ∧ b < w'.heap.size)) w' r v) a.defers .returning w := by
    rw [hdf]
    refine leaves_cons (by simp) (args := #[]) (f := g) ?_ ((hrec.2 w).mono ?_)
    · have := hrec.1 w
      simpa [invoke] using this
    · rintro e u' w' ⟨rfl, rfl, rfl⟩
      refine ⟨v, by simpa [settle] using hrun, v, rfl, ⟨hR.kept.os, hR.kept.tape, hR.kept.output, hR.kept.size, fun k hk => hR.kept.block k hk (fun h => h)⟩, hvd.mono ?_⟩
      rintro b (h | h | h)
      · exact .inl h
      · exact h.elim
      · exact .inr h
  rcases he with rfl | rfl <;> exact hend

def endD (P : Program) (fn : Func) : Option (Exit × St) → Option D
  | some (.normal, σ) => resD P fn.results.toList σ
  | some (.ret, σ) => resD P fn.results.toList σ
  | _ => none

def run1 (P : Program) (E : Kn) (fuel : Nat) (f : FuncId) (args : List D) : Option D :=
  match P.funcs[f]? with
  | none => none
  | some fn => match fn.body with
    | none => none
    | some c => match parts3 c with
      | none => if fnOk P fn c && decide (args.length ≤ fn.ntmps) then endD P fn (ex P E fuel c (St0 args fn.ntmps)) else none
      | some (r0, g, rest) => if fnOk P fn r0 && fnOk P fn rest && E.recs g && decide (args.length ≤ fn.ntmps) then match ex P E fuel r0 (St0 args fn.ntmps) with
          | some (.normal, σ) => endD P fn (ex P E fuel rest σ)
          | _ => none
        else none

def runO1 (P : Program) (E : Kn) (fuel : Nat) (f : FuncId) (h : AV) (o : HO) (args : List D) : Option (HO × D) :=
  match P.funcs[f]? with
  | none => none
  | some fn => match fn.body, o with
    | some c, .map _ _ => if fnOk P fn c && decide (args.length + 1 ≤ fn.ntmps) then match ex P E fuel c (St1 h o args fn.ntmps) with
      | some (e, σ) => match σ.H 0, endD P fn (some (e, σ)) with
        | some (.map k es), some r => if nohO (.map k es) then some (.map k es, r) else none
        | _, _ => none
      | none => none
      else none
    | _, _ => none

/-- Runs f, its callees where they are not known. -/
def runK (P : Program) (E : Kn) (fuel : Nat) : Nat → Kn
  | 0 => { E with call := fun _ _ => none, ocall := fun _ _ _ _ => none }
  | n + 1 => { E with
      call := fun f args => match E.call f args with | some r => some r | none => run1 P (runK P E fuel n) fuel f args
      ocall := fun f h o args => runO1 P (runK P E fuel n) fuel f h o args }

theorem endD_some {P : Program} {fn : Func} {e : Exit} {σ : St} {r : D} (h : endD P fn (some (e, σ)) = some r) : (e = .normal ∨ e = .ret) ∧ resD P fn.results.toList σ = some r := by
  cases e <;> first | exact ⟨.inl rfl, h⟩ | exact ⟨.inr rfl, h⟩ | cases h

theorem run1_sound {P : Program} {E : Kn} {fuel : Nat} (hm : P.follows .mixedOrders = true) (hE : KnOk P E) {f : FuncId} {args : List D} {r : D} (h : run1 P E fuel f args = some r) : Spec P f args r := by
  unfold run1 at h
  split at h
  · cases h
  rename_i fn hfn
  split at h
  · cases h
  rename_i c hc
  split at h
  · split at h
    case isFalse => cases h
    rename_i hok
    simp only [fnOk, Bool.and_eq_true, Bool.not_eq_true', decide_eq_true_eq] at hok
    obtain ⟨⟨⟨h1, h2⟩, h3⟩, h4⟩ := hok
    cases hex : ex P E fuel c (St0 args fn.ntmps) with
    | none => rw [hex] at h; cases h
    | some p =>
      obtain ⟨e, σ⟩ := p
      rw [hex] at h
      obtain ⟨he, hr⟩ := endD_some h
      exact spec_of_wp hfn hc h3 rfl h4 (fun G a w hs => ex_sound hE hm fuel c _ a w _ _ h1 h2 hex hs) he hr
  · rename_i r0 g rest hp
    split at h
    case isFalse => cases h
    rename_i hok
    simp only [fnOk, Bool.and_eq_true, Bool.not_eq_true', decide_eq_true_eq] at hok
    obtain ⟨⟨⟨⟨⟨h1, h2⟩, h3⟩, ⟨h1', h2'⟩, _⟩, hg⟩, h4⟩ := hok
    split at h
    case h_2 => cases h
    rename_i σ0 hex0
    cases hex : ex P E fuel rest σ0 with
    | none => rw [hex] at h; cases h
    | some p =>
      obtain ⟨e, σ⟩ := p
      rw [hex] at h
      obtain ⟨he, hr⟩ := endD_some h
      unfold parts3 at hp
      split at hp
      case h_2 => cases hp
      rename_i r0' rd rest'
      obtain ⟨g', hg', hp⟩ := Option.map_eq_some_iff.1 hp
      injection hp with e1 hp; injection hp with e2 e3; subst e1; subst e2; subst e3
      exact spec_of_dwp hfn hc h3 rfl hg' (hE.recs _ hg) h4 (fun G a w hs => wp_mono (ex_sound hE hm fuel _ _ a w _ _ h1 h2 hex0 hs) fun e a w h => h)
        (fun G a w hs => ex_sound hE hm fuel _ _ a w _ _ h1' h2' hex hs) he hr

theorem runO1_sound {P : Program} {E : Kn} {fuel : Nat} (hm : P.follows .mixedOrders = true) (hE : KnOk P E) {f : FuncId} {h0 : AV} {o o' : HO} {args : List D} {r : D} (h : runO1 P E fuel f h0 o args = some (o', r)) : OSpec P f h0 o args o' r := by
  unfold runO1 at h
  split at h
  · cases h
  rename_i fn hfn
  split at h
  case h_2 => cases h
  rename_i c kd es hc
  split at h
  case isFalse => cases h
  rename_i hok
  simp only [fnOk, Bool.and_eq_true, Bool.not_eq_true', decide_eq_true_eq] at hok
  obtain ⟨⟨⟨h1, h2⟩, h3⟩, h4⟩ := hok
  split at h
  case h_2 => cases h
  rename_i e σ hex
  split at h
  case h_2 => cases h
  rename_i k1 es1 r1 hH hr
  split at h
  case isFalse => cases h
  rename_i hfl
  injection h with h; injection h with e1 e2; subst e1; subst e2
  have hr2 := endD_some hr
  obtain ⟨he, hr3⟩ := hr2
  refine ospec_of hfn hc h3 rfl h4 ⟨_, _, rfl⟩ ⟨_, _, rfl⟩ hfl fun G a w hs => wp_mono (ex_sound hE hm fuel c _ a w _ _ h1 h2 hex hs) ?_
  rintro e' a' w' ⟨rfl, hs'⟩
  exact ⟨σ, ⟨he, hr3, hH⟩, hs'⟩

theorem runK_ok {P : Program} {E : Kn} {fuel : Nat} (hm : P.follows .mixedOrders = true) (hE : KnOk P E) : ∀ n, KnOk P (runK P E fuel n)
  | 0 => ⟨(fun _ _ _ h => by cases h), (fun _ _ _ _ _ _ h => by cases h), hE.keys, hE.sorted, hE.recs⟩
  | n + 1 => by
    have ih := runK_ok (fuel := fuel) hm hE n
    refine ⟨fun f ds r h => ?_, fun f h0 o ds o' r h => runO1_sound hm ih h, hE.keys, hE.sorted, hE.recs⟩
    unfold runK at h
    simp only at h
    split at h
    · rename_i r' hr'; injection h with h; subst h; exact hE.call _ _ _ hr'
    · exact run1_sound hm ih h

end Go.Am
