/- The abstract machine, part 12: a region's operations in whatever order its edges allow; the text's order serves. No condition. -/
import Derived.Test.YtmnjglpieghdkaaAm11c
namespace Go.Am

/-- An abstract state inside a region: slots, blocks used up, blocks (those that will be made among them), numbers in use. -/
structure AS where
  Γ : Nat → AV
  T : Nat → Prop
  K : Nat → Option HO
  U : Nat → Prop

def putA (Γ : Nat → AV) (d : Option Tmp) (v : AV) : Nat → AV :=
  match d with
  | some d => upd Γ d v
  | none => Γ

/-- A function without results is called for what it does; one whose first parameter is a map may write it. -/
def mutF (P : Program) (f : FuncId) : Bool := match P.funcs[f]? with | some fn => fn.resultTypes.isEmpty || (match fn.params[0]? with | some t => (tmp P t).isSome | none => false) | none => false

def kind (P : Program) : Op → Nat
  | .load .. => 1
  | .lookup .. => 1
  | .call { callee := .value (.func f), .. } => if mutF P f then 2 else 1
  | .call { callee := .builtin .append, .. } => 1
  | .call { callee := .builtin .delete, .. } => 2
  | .store .. => 2
  | .mapUpdate .. => 2
  | .call { callee := .value _, .. } => 1
  | _ => 0

def hasId (id : Nat) : AV → Bool
  | .ptr i _ | .mp i | .own i _ _ _ => i == id
  | _ => false

open Classical in
noncomputable def wupd (K : Nat → Option HO) (T : Nat → Prop) (id : Nat) (ho : HO) : Nat → Option HO := fun j => if j = id then some ho else if T j then none else K j

def EvN (P : Program) (G : Ctx) (o : Oper) (Γ : Nat → AV) (K K' : Nat → Option HO) (av : AV) (new con : Nat → Prop) : Prop :=
  kind P o.op = 0 ∧ K' = K ∧ con = none' ∧ ∀ (T2 : Nat → Prop) (K2 : Nat → Option HO), (∀ id, new id → K2 id = K id) → Y P G o Γ T2 K2 K2 av new none'

def EvR (P : Program) (G : Ctx) (o : Oper) (Γ : Nat → AV) (T : Nat → Prop) (K K' : Nat → Option HO) (av : AV) (new con : Nat → Prop) : Prop :=
  kind P o.op = 1 ∧ K' = K ∧ (∀ id, con id → ¬ T id) ∧
  (∀ F w ι T2 (a : Act), HR G F w ι T2 K → (∀ t, Operand.tmp t ∈ o.op.operands → V F w ι (Γ t) (a.tmps.getD t undef)) → ∀ id, con id → ∃ b, ι id = some b) ∧
  ∀ T2 : Nat → Prop, (∀ id, con id → ¬ T2 id) → Y P G o Γ T2 K K av new con

def EvW (P : Program) (G : Ctx) (o : Oper) (Γ : Nat → AV) (T : Nat → Prop) (K K' : Nat → Option HO) (av : AV) (new con : Nat → Prop) : Prop :=
  kind P o.op = 2 ∧ new = none' ∧ con = none' ∧ ∃ id t old ho, Operand.tmp t ∈ o.op.operands ∧ hasId id (Γ t) = true ∧ K id = some old ∧ ¬ T id ∧ K' = wupd K T id ho ∧
    ∀ (T2 : Nat → Prop) (K2 : Nat → Option HO), K2 id = some old → ¬ T2 id → Y P G o Γ T2 K2 (wupd K2 T2 id ho) av none' none'

def Ev (P : Program) (G : Ctx) (o : Oper) (Γ : Nat → AV) (T : Nat → Prop) (K K' : Nat → Option HO) (av : AV) (new con : Nat → Prop) : Prop :=
  EvN P G o Γ K K' av new con ∨ EvR P G o Γ T K K' av new con ∨ EvW P G o Γ T K K' av new con

/-- No world stands for this state. -/
def Un (G : Ctx) (s : AS) : Prop := ∀ F w ι (a : Act), HR G F w ι s.T s.K → (∀ id b, ι id = some b → s.U id) → (∀ t, V F w ι (s.Γ t) (a.tmps.getD t undef)) → False

def wantedA (ops : Array Oper) (o : Oper) (Γ : Nat → AV) : Option Bool :=
  match o.guard with
  | none => some true
  | some (j, want) => match (ops[j]?).bind (·.dst) with
    | none => some false
    | some d => match Γ d with
      | .d (.b x) => some (x == want)
      | .un => some false
      | _ => none

/-- What one operation does to the state. -/
inductive Does (P : Program) (G : Ctx) (ops : Array Oper) (o : Oper) (s : AS) : AS → Prop where
  | yes (av : AV) (new con : Nat → Prop) (K' : Nat → Option HO) (hw : wantedA ops o s.Γ = some true) (hev : Ev P G o s.Γ s.T s.K K' av new con) (hU : ∀ id, new id → ¬ s.U id) (hT : ∀ id, new id → ¬ s.T id) (h0 : new 0 → ∀ b, G.P0 b) :
      Does P G ops o s ⟨putA s.Γ o.dst av, fun id => s.T id ∨ con id, K', fun id => s.U id ∨ new id⟩
  | no (hw : wantedA ops o s.Γ = some false) : Does P G ops o s ⟨putA s.Γ o.dst .un, s.T, s.K, s.U⟩

def aOp (P : Program) (G : Ctx) (ops : Array Oper) (i : Nat) (k : AS → Prop) (s : AS) : Prop :=
  match ops[i]? with
  | none => k s
  | some o => Un G s ∨ ∃ s', Does P G ops o s s' ∧ k s'

theorem aOp_mono {P : Program} {G : Ctx} {ops : Array Oper} {i : Nat} {k k' : AS → Prop} {s : AS} (h : ∀ s, k s → k' s) (hh : aOp P G ops i k s) : aOp P G ops i k' s := by
  unfold aOp at *
  split
  · exact h _ (by simpa [*] using hh)
  · rename_i o ho
    simp only [ho] at hh
    exact hh.imp (fun x => x) fun ⟨s', h1, h2⟩ => ⟨s', h1, h _ h2⟩

def aAny (P : Program) (G : Ctx) (ops : Array Oper) (Q : AS → Prop) : Nat → Array Bool → AS → Prop
  | 0, listed, s => Region.ready .any ops listed = [] ∧ Q s
  | fuel + 1, listed, s => (Region.ready .any ops listed = [] → Q s) ∧ ∀ i ∈ Region.ready .any ops listed, aOp P G ops i (aAny P G ops Q fuel (listed.setIfInBounds i true)) s

def apart2 (P : Program) (ops : Array Oper) (x y : Oper) : Bool :=
  x.apart ops y && !(kind P x.op == 2 && kind P y.op != 0) && !(kind P y.op == 2 && kind P x.op != 0)

theorem kind_lt (P : Program) (op : Op) : kind P op = 0 ∨ kind P op = 1 ∨ kind P op = 2 := by
  unfold kind; split <;> simp

theorem putA_eq {Γ : Nat → AV} {d : Option Tmp} {v : AV} {t : Nat} (h : d ≠ some t) : putA Γ d v t = Γ t := by
  cases d with
  | none => rfl
  | some d => exact upd_ne _ _ fun e => h (e ▸ rfl)

theorem putA_comm (Γ : Nat → AV) {x y : Option Tmp} (v u : AV) (h : ∀ d, x = some d → y ≠ some d) : putA (putA Γ x v) y u = putA (putA Γ y u) x v := by
  cases x with
  | none => rfl
  | some d =>
    cases y with
    | none => rfl
    | some e =>
      have hne : d ≠ e := fun he => h d rfl (he ▸ rfl)
      funext t
      by_cases h1 : t = d
      · subst h1; simp [putA, upd, hne]
      · by_cases h2 : t = e
        · subst h2; simp [putA, upd, h1]
        · simp [putA, upd, h1, h2]

section
variable {P : Program} {G : Ctx} {ops : Array Oper}

theorem Y.congrΓ {o : Oper} {Γ Γ' : Nat → AV} {T : Nat → Prop} {K K' : Nat → Option HO} {av : AV} {new con : Nat → Prop} (h : Y P G o Γ T K K' av new con)
    (he : ∀ t, Operand.tmp t ∈ o.op.operands → Γ' t = Γ t) : Y P G o Γ' T K K' av new con :=
  fun F w ι a hR hop hn next Q hx => h F w ι a hR (fun t ht => by rw [← he t ht]; exact hop t ht) hn next Q hx

theorem Ev.congrΓ {o : Oper} {Γ Γ' : Nat → AV} {T : Nat → Prop} {K K' : Nat → Option HO} {av : AV} {new con : Nat → Prop} (h : Ev P G o Γ T K K' av new con)
    (he : ∀ t, Operand.tmp t ∈ o.op.operands → Γ' t = Γ t) : Ev P G o Γ' T K K' av new con := by
  rcases h with ⟨hk, h1, h2, h⟩ | ⟨hk, h1, hT, hl, h⟩ | ⟨hk, h1, h2, id, t, old, ho, ht, hΓ, hold, hT, hK, h⟩
  · exact .inl ⟨hk, h1, h2, fun T2 K2 hK => (h T2 K2 hK).congrΓ he⟩
  · exact .inr (.inl ⟨hk, h1, hT, fun F w ι T2 a hR hop => hl F w ι T2 a hR fun t ht => by rw [← he t ht]; exact hop t ht, fun T2 hT2 => (h T2 hT2).congrΓ he⟩)
  · exact .inr (.inr ⟨hk, h1, h2, id, t, old, ho, ht, by rw [he t ht]; exact hΓ, hold, hT, hK, fun T2 K2 h1 h2 => (h T2 K2 h1 h2).congrΓ he⟩)

theorem looks_operand {o : Oper} {d : Nat} (h : d ∉ o.looksAt ops) : Operand.tmp d ∉ o.op.operands := fun hx =>
  h (List.mem_append_left _ (List.mem_filterMap.2 ⟨.tmp d, by simpa using hx, rfl⟩))

theorem wantedA_put {o : Oper} {Γ : Nat → AV} {dst : Option Tmp} {v : AV} (h : ∀ d, dst = some d → d ∉ o.looksAt ops) : wantedA ops o (putA Γ dst v) = wantedA ops o Γ := by
  unfold wantedA
  cases hg : o.guard with
  | none => rfl
  | some gw =>
    obtain ⟨g, want⟩ := gw
    simp only
    cases ht : (ops[g]?).bind (·.dst) with
    | none => rfl
    | some t =>
      simp only
      rw [putA_eq fun e => h t e (by simp [Oper.looksAt, hg, ht])]

theorem operand_put {o : Oper} {Γ : Nat → AV} {dst : Option Tmp} {v : AV} (h : ∀ d, dst = some d → d ∉ o.looksAt ops) : ∀ t, Operand.tmp t ∈ o.op.operands → putA Γ dst v t = Γ t :=
  fun t ht => putA_eq fun e => looks_operand (h t e) ht

theorem or_none (T : Nat → Prop) : (fun id => T id ∨ none' id) = T := funext fun id => propext (by simp [none'])

theorem wupd_keep {K : Nat → Option HO} {T : Nat → Prop} {id i : Nat} {ho : HO} (h1 : i ≠ id) (h2 : ¬ T i) : wupd K T id ho i = K i := by
  unfold wupd; rw [if_neg h1, if_neg h2]

theorem ptr_used {s : AS} {t id : Nat} (hΓ : hasId id (s.Γ t) = true) (hU : ¬ s.U id) : Un G s := by
  intro F w ι a _ hd hV
  have := hV t
  generalize s.Γ t = x at this hΓ
  generalize a.tmps.getD t undef = v at this
  unfold hasId at hΓ
  split at hΓ
  · simp only [beq_iff_eq] at hΓ; subst hΓ; cases this with | ptr _ _ b hι => exact hU (hd _ _ hι)
  · simp only [beq_iff_eq] at hΓ; subst hΓ; cases this with | mp _ b hι => exact hU (hd _ _ hι)
  · simp only [beq_iff_eq] at hΓ; subst hΓ; cases this with | own _ _ _ _ b cap cur e hι => exact hU (hd _ _ hι)
  · cases hΓ

/-- Two operations that are apart may change places. -/
theorem swap {oi oj : Oper} {s s1 s2 : AS} (hap : apart2 P ops oi oj = true) (hi : Does P G ops oi s s1) (hj : Does P G ops oj s1 s2) :
    Un G s ∨ ∃ s1', Does P G ops oj s s1' ∧ Does P G ops oi s1' s2 := by
  simp only [apart2, Bool.and_eq_true, Bool.not_eq_true', Bool.and_eq_false_iff, beq_eq_false_iff_ne, bne_eq_false_iff_eq] at hap
  obtain ⟨⟨hap, hw1⟩, hw2⟩ := hap
  obtain ⟨h1, h2, h3⟩ := Oper.apart_spec hap
  cases hi with
  | no hwi =>
    cases hj with
    | no hwj =>
      refine .inr ⟨_, .no (by rw [← hwj]; exact (wantedA_put h1).symm), ?_⟩
      have := Does.no (P := P) (G := G) (ops := ops) (o := oi) (s := ⟨putA s.Γ oj.dst .un, s.T, s.K, s.U⟩) (by rw [← hwi]; exact wantedA_put h3)
      simp only at this ⊢
      rwa [putA_comm s.Γ .un .un h2]
    | yes av new con K' hwj hev hU hT h0 =>
      refine .inr ⟨_, .yes av new con K' (by rw [← hwj]; exact (wantedA_put h1).symm) (hev.congrΓ fun t ht => (operand_put h1 t ht).symm) hU hT h0, ?_⟩
      have := Does.no (P := P) (G := G) (ops := ops) (o := oi) (s := ⟨putA s.Γ oj.dst av, fun id => s.T id ∨ con id, K', fun id => s.U id ∨ new id⟩) (by rw [← hwi]; exact wantedA_put h3)
      simp only at this ⊢
      rwa [putA_comm s.Γ .un av h2]
  | yes avi newi coni Ki hwi hevi hUi hTi h0i =>
    have hwi' : ∀ (v : AV), wantedA ops oi (putA s.Γ oj.dst v) = some true := fun v => by rw [← hwi]; exact wantedA_put h3
    cases hj with
    | no hwj =>
      refine .inr ⟨_, .no (by rw [← hwj]; exact (wantedA_put h1).symm), ?_⟩
      have := Does.yes (P := P) (G := G) (ops := ops) (o := oi) (s := ⟨putA s.Γ oj.dst .un, s.T, s.K, s.U⟩) avi newi coni Ki (hwi' _) (hevi.congrΓ (operand_put h3)) hUi hTi h0i
      simp only at this ⊢
      rwa [putA_comm s.Γ avi .un h2]
    | yes avj newj conj Kj hwj hevj hUj hTj h0j =>
      have hwj' : wantedA ops oj s.Γ = some true := by rw [← hwj]; exact (wantedA_put h1).symm
      have hevj0 := hevj.congrΓ (Γ' := s.Γ) fun t ht => (operand_put h1 t ht).symm
      have hevi' := hevi.congrΓ (Γ' := putA s.Γ oj.dst avj) (operand_put h3)
      simp only at hUj hTj hevj0
      have hUj0 : ∀ id, newj id → ¬ s.U id := fun id h hu => hUj id h (.inl hu)
      have hTj0 : ∀ id, newj id → ¬ s.T id := fun id h hu => hTj id h (.inl hu)
      have hdis : ∀ id, newi id → ¬ newj id := fun id h hj => hUj id hj (.inr h)
      have hUi1 : ∀ id, newi id → ¬ (s.U id ∨ newj id) := fun id h hu => hu.elim (hUi id h) (hdis id h)
      have eU : (fun id => (s.U id ∨ newi id) ∨ newj id) = fun id => (s.U id ∨ newj id) ∨ newi id := funext fun id => propext ⟨fun h => by rcases h with (h | h) | h <;> simp [h], fun h => by rcases h with (h | h) | h <;> simp [h]⟩
      have eT : (fun id => (s.T id ∨ coni id) ∨ conj id) = fun id => (s.T id ∨ conj id) ∨ coni id := funext fun id => propext ⟨fun h => by rcases h with (h | h) | h <;> simp [h], fun h => by rcases h with (h | h) | h <;> simp [h]⟩
      have fin : ∀ K1, (∀ id, newi id → ¬ conj id) → Ev P G oj s.Γ s.T s.K K1 avj newj conj → Ev P G oi (putA s.Γ oj.dst avj) (fun id => s.T id ∨ conj id) K1 Kj avi newi coni →
          ∃ s1', Does P G ops oj s s1' ∧ Does P G ops oi s1' ⟨putA (putA s.Γ oi.dst avi) oj.dst avj, fun id => (s.T id ∨ coni id) ∨ conj id, Kj, fun id => (s.U id ∨ newi id) ∨ newj id⟩ := by
        intro K1 hnc e1 e2
        refine ⟨_, .yes avj newj conj K1 hwj' e1 hUj0 hTj0 h0j, ?_⟩
        have := Does.yes (P := P) (G := G) (ops := ops) (o := oi) (s := ⟨putA s.Γ oj.dst avj, fun id => s.T id ∨ conj id, K1, fun id => s.U id ∨ newj id⟩) avi newi coni Kj (hwi' _) e2 hUi1
          (fun id h ht => ht.elim (hTi id h) (hnc id h)) h0i
        simp only at this ⊢
        rwa [putA_comm s.Γ avi avj h2, eU, eT]
      rcases hevi' with ⟨hki, rfl, rfl, hYi⟩ | ⟨hki, rfl, hcTi, hli, hYi⟩ | ⟨hki, rfl, rfl, id, t, old, ho, ht, hΓ, hold, hT, rfl, hYi⟩
      · -- oi neutral
        rcases hevj0 with ⟨hkj, rfl, rfl, hYj⟩ | ⟨hkj, rfl, hcTj, hlj, hYj⟩ | ⟨hkj, rfl, rfl, id, t, old, ho, ht, hΓ, hold, hT, rfl, hYj⟩
        · exact .inr (fin _ (fun _ _ h => h) (.inl ⟨hkj, rfl, rfl, hYj⟩) (.inl ⟨hki, rfl, rfl, hYi⟩))
        · by_cases hx : ∃ id, newi id ∧ conj id
          · obtain ⟨id, hn, hc⟩ := hx
            exact .inl fun F w ι a hR hd hV => let ⟨b, hb⟩ := hlj F w ι s.T a hR (fun t _ => hV t) id hc; hUi id hn (hd id b hb)
          · exact .inr (fin _ (fun id h1 h2 => hx ⟨id, h1, h2⟩) (.inr (.inl ⟨hkj, rfl, fun id h ht => hcTj id h (.inl ht), hlj, hYj⟩)) (.inl ⟨hki, rfl, rfl, hYi⟩))
        · by_cases hid : newi id
          · exact .inl (ptr_used hΓ (hUi id hid))
          · have hsT : ¬ s.T id := fun h => hT (.inl h)
            have e0 : wupd s.K (fun i => s.T i ∨ none' i) id ho = wupd s.K s.T id ho := by rw [or_none]
            refine .inr ?_
            have h4 := fin (wupd s.K s.T id ho) (fun _ _ h => h) (.inr (.inr ⟨hkj, rfl, rfl, id, t, old, ho, ht, hΓ, hold, hsT, rfl, hYj⟩))
              (.inl ⟨hki, e0, rfl, fun T2 K2 hK => hYi T2 K2 fun i hi => by rw [hK i hi]; exact wupd_keep (fun e => hid (e ▸ hi)) (hTi i hi)⟩)
            exact h4
      · -- oi reads
        rcases hevj0 with ⟨hkj, rfl, rfl, hYj⟩ | ⟨hkj, rfl, hcTj, hlj, hYj⟩ | ⟨hkj, _⟩
        · exact .inr (fin _ (fun _ _ h => h) (.inl ⟨hkj, rfl, rfl, hYj⟩) (.inr (.inl ⟨hki, rfl, fun id h ht => by rw [or_none] at ht; exact hcTi id h ht, hli, hYi⟩)))
        · by_cases hx : ∃ id, newi id ∧ conj id
          · obtain ⟨id, hn, hc⟩ := hx
            exact .inl fun F w ι a hR hd hV => let ⟨b, hb⟩ := hlj F w ι s.T a hR (fun t _ => hV t) id hc; hUi id hn (hd id b hb)
          · exact .inr (fin _ (fun id h1 h2 => hx ⟨id, h1, h2⟩) (.inr (.inl ⟨hkj, rfl, fun id h ht => hcTj id h (.inl ht), hlj, hYj⟩))
              (.inr (.inl ⟨hki, rfl, fun id h ht => ht.elim (hcTi id h) fun hc => hcTj id hc (.inr h), hli, hYi⟩)))
        · omega
      · -- oi writes
        rcases hevj0 with ⟨hkj, rfl, rfl, hYj⟩ | ⟨hkj, _⟩ | ⟨hkj, _⟩
        · by_cases hid : newj id
          · have := (operand_put (Γ := s.Γ) (v := avj) h3 t ht)
            rw [this] at hΓ
            exact .inl (ptr_used hΓ (hUj0 id hid))
          · refine .inr ?_
            have h4 := fin s.K (fun _ h _ => h) (.inl ⟨hkj, rfl, rfl, fun T2 K2 hK => hYj T2 K2 fun i hi => by rw [hK i hi]; exact (wupd_keep (fun e => hid (by rw [← e]; exact hi)) (hTj0 i hi)).symm⟩)
              (.inr (.inr ⟨hki, rfl, rfl, id, t, old, ho, ht, hΓ, hold, by rw [or_none]; exact hT, by rw [or_none], hYi⟩))
            exact h4
        · omega
        · omega

theorem wp_false {o : Oper} {a : Act} {w : World} (h : o.wp P a w (fun _ _ => False) (fun _ _ _ => False)) : False := by
  unfold Oper.wp at h
  generalize (execOp a.eval o).run P w = r at h
  cases r with
  | ok n w' =>
    cases n <;> simp only [Oper.upon] at h
    case enter f args =>
      obtain ⟨e, w'', fr, hR, _⟩ := h []
      cases e with
      | returned v => exact hR
      | panicked c => exact hR
      | outgrown => exact let ⟨_, _, h⟩ := hR; h
    case row row args => obtain ⟨v, w'', hR, _⟩ := h default []; exact hR
  | halt x w' => cases x <;> simp only [Oper.upon] at h

theorem put_act (a : Act) (dst : Option Tmp) (u : Value) : ∃ a2 : Act, ∀ t, a2.tmps.getD t undef = if dst = some t then u else a.tmps.getD t undef := by
  cases dst with
  | none => exact ⟨a, fun t => by simp⟩
  | some d =>
    refine ⟨⟨(Array.range (max (d + 1) a.tmps.size)).map fun t => if d = t then u else a.tmps.getD t undef, []⟩, fun t => ?_⟩
    simp only [Array.getD_eq_getD_getElem?, Array.getElem?_map, Array.getElem?_range, Option.some.injEq]
    by_cases ht : t < max (d + 1) a.tmps.size
    · rw [if_pos ht]; rfl
    · have hdt : ¬ d = t := fun e => ht (by rw [← e]; exact Nat.lt_of_lt_of_le (Nat.lt_succ_self d) (Nat.le_max_left ..))
      rw [if_neg ht, if_neg hdt]
      simp only [Option.map_none, Option.getD_none]
      rw [Array.getElem?_eq_none (by simp only [Nat.not_lt] at ht; exact Nat.le_trans (Nat.le_max_right ..) ht)]; rfl

theorem V_put {F : Nat → Prop} {w : World} {ι : Nat → Option Nat} {Γ : Nat → AV} {dst : Option Tmp} {av : AV} {f g : Nat → Value} {u : Value} (hV : ∀ t, V F w ι (Γ t) (f t)) (hu : V F w ι av u)
    (hg : ∀ t, g t = if dst = some t then u else f t) : ∀ t, V F w ι (putA Γ dst av t) (g t) := by
  intro t
  rw [hg t]
  by_cases h : dst = some t
  · subst h; simp only [putA, upd_same, if_true]; exact hu
  · rw [putA_eq h, if_neg h]; exact hV t

theorem un_back {o : Oper} {s s1 : AS} (hd : Does P G ops o s s1) (hu : Un G s1) : Un G s := by
  intro F w ι a hR hdm hV
  cases hd with
  | no hw =>
    obtain ⟨a2, h2⟩ := put_act a o.dst undef
    exact hu F w ι a2 hR hdm (V_put hV .un h2)
  | yes av new con K' hw hev hU hT h0 =>
    have hY : Y P G o s.Γ s.T s.K K' av new con := by
      rcases hev with ⟨_, rfl, rfl, h⟩ | ⟨_, rfl, hcT, _, h⟩ | ⟨_, rfl, rfl, id, t, old, ho, _, _, hold, hT, rfl, h⟩
      · exact h _ _ fun _ _ => rfl
      · exact h _ hcT
      · exact h _ _ hold hT
    refine wp_false (P := P) (hY F w ι a hR (fun t _ => hV t) (fun id hn => ?_) _ _ fun F' w' ι' u hR' hs hd1 hd2 hv => ?_)
    · cases hi : ι id with
      | none => rfl
      | some b => exact absurd (hdm id b hi) (hU id hn)
    · obtain ⟨a2, h2⟩ := put_act a o.dst u
      refine hu F' w' ι' a2 hR' (fun id b hb => ?_) (V_put (fun t => (hV t).step hs) hv h2)
      rcases hd1 id b hb with h | h
      · exact .inl (hdm id b h)
      · exact .inr h

/-- What has been done is closed under what it waited for. -/
def Dc (ops : Array Oper) (listed : Array Bool) : Prop :=
  ∀ (m : Nat) (om : Oper), listed.getD m false = true → ops[m]? = some om → ∀ e ∈ om.after, Region.binds .any e = true → listed.getD e.on false = true

/-- Operation j waits for operation i, through others. -/
def dep (ops : Array Oper) : Nat → Nat → Nat → Bool
  | 0, _, _ => false
  | f + 1, j, i => match ops[j]? with
    | some o => o.after.any fun e => Region.binds .any e && (e.on == i || dep ops f e.on i)
    | none => false

theorem dep_listed {listed : Array Bool} (hdc : Dc ops listed) : ∀ (f j i : Nat), (∀ o, ops[j]? = some o → ∀ e ∈ o.after, Region.binds .any e = true → listed.getD e.on false = true) → dep ops f j i = true → listed.getD i false = true
  | 0, _, _, _, h => by cases h
  | f + 1, j, i, hj, h => by
    unfold dep at h
    split at h
    · rename_i o ho
      obtain ⟨e, he, hb⟩ := Array.any_eq_true'.1 h
      simp only [Bool.and_eq_true, Bool.or_eq_true, beq_iff_eq] at hb
      obtain ⟨h1, h2⟩ := hb
      have hl := hj o ho e he h1
      rcases h2 with h2 | h2
      · rw [← h2]; exact hl
      · exact dep_listed hdc f e.on i (fun o' ho' => hdc e.on o' hl ho') h2
    · cases h

theorem Dc_set {listed : Array Bool} {j : Nat} (hdc : Dc ops listed) (hj : j ∈ Region.ready .any ops listed) : Dc ops (listed.setIfInBounds j true) := by
  intro m om hm hom e he hb
  obtain ⟨_, o, ho, hall⟩ := mem_ready.1 hj
  refine getD_set_true ?_
  by_cases hmj : m = j
  · subst hmj
    rw [ho] at hom; injection hom with hom; subst hom
    exact hall e he hb
  · rw [getD_set_ne false (Ne.symm hmj)] at hm
    exact hdc m om hm hom e he hb

/-- An operation that may come up now may be taken first. -/
theorem aAny_first {Q : AS → Prop} {i : Nat} {oi : Oper} (hi : ops[i]? = some oi) :
    ∀ (fuel : Nat) (listed : Array Bool) (s s1 : AS), Dc ops listed →
      (∀ j oj, ops[j]? = some oj → j ≠ i → listed.getD j true = false → (∀ e ∈ oj.after, Region.binds .any e = true → e.on ≠ i) → dep ops 6 j i = false → apart2 P ops oi oj = true) →
      i ∈ Region.ready .any ops listed → Does P G ops oi s s1 → aAny P G ops Q fuel (listed.setIfInBounds i true) s1 → aAny P G ops Q (fuel + 1) listed s := by
  intro fuel
  induction fuel with
  | zero =>
    intro listed s s1 _ _ hr hd H
    refine ⟨fun h => (by rw [h] at hr; cases hr), fun j hj => ?_⟩
    by_cases hji : j = i
    · subst hji; unfold aOp; simp only [hi]; exact .inr ⟨s1, hd, H⟩
    · have := ready_mono hj hji
      rw [H.1] at this
      cases this
  | succ fuel ih =>
    intro listed s s1 hdc hfree hr hd H
    refine ⟨fun h => (by rw [h] at hr; cases hr), fun j hj => ?_⟩
    by_cases hji : j = i
    · subst hji; unfold aOp; simp only [hi]; exact .inr ⟨s1, hd, H⟩
    · have h1 := H.2 j (ready_mono hj hji)
      obtain ⟨hjun, oj, hoj, hall⟩ := mem_ready.1 hj
      have hnot : ∀ e ∈ oj.after, Region.binds .any e = true → e.on ≠ i := fun e he hb heq => by
        have h1 := hall e he hb
        have h0 := (mem_ready.1 hr).1
        rw [heq] at h1
        rcases Nat.lt_or_ge i listed.size with h' | h'
        · simp [h'] at h0 h1; rw [h0] at h1; cases h1
        · simp [Array.getElem?_eq_none h'] at h1
      have hnd : dep ops 6 j i = false := by
        cases hd6 : dep ops 6 j i with
        | false => rfl
        | true =>
          have h1 := dep_listed hdc 6 j i (fun o' ho' => by rw [hoj] at ho'; injection ho' with ho'; subst ho'; exact hall) hd6
          have h0 := (mem_ready.1 hr).1
          rcases Nat.lt_or_ge i listed.size with h' | h'
          · simp [h'] at h0 h1; rw [h0] at h1; cases h1
          · simp [Array.getElem?_eq_none h'] at h1
      have hap := hfree j oj hoj hji hjun hnot hnd
      have hfree' : ∀ k ok, ops[k]? = some ok → k ≠ i → (listed.setIfInBounds j true).getD k true = false →
          (∀ e ∈ ok.after, Region.binds .any e = true → e.on ≠ i) → dep ops 6 k i = false → apart2 P ops oi ok = true := fun k ok hk hki hun hno hnd => by
        refine hfree k ok hk hki ?_ hno hnd
        by_cases hjk : j = k
        · subst hjk; exact hjun
        · rw [getD_set_ne true hjk] at hun; exact hun
      unfold aOp at h1 ⊢
      simp only [hoj] at h1 ⊢
      rcases h1 with h1 | ⟨s2, hd2, h2⟩
      · exact .inl (un_back hd h1)
      · rcases swap hap hd hd2 with h3 | ⟨s1', hd1', hd2'⟩
        · exact .inl h3
        · refine .inr ⟨s1', hd1', ih (listed.setIfInBounds j true) s1' s2 (Dc_set hdc hj) hfree' (ready_mono hr (Ne.symm hji)) hd2' ?_⟩
          rw [Array.setIfInBounds_comm _ _ hji]
          exact h2
end

end Go.Am
