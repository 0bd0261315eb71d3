/- The abstract machine, part 15: states between regions; what may be forgotten. No condition. -/
import Derived.Test.YtmnjglpieghdkaaAm14
namespace Go.Am

def scrub0 (l : List Nat) : AV → AV
  | .own id off len sz => if id ∈ l then .any else .own id off len sz
  | .ptr id off => if id ∈ l then .any else .ptr id off
  | .mp id => if id ∈ l then .any else .mp id
  | .kf f id => if id ∈ l then .any else .kf f id
  | .ag _ => .any
  | .tp _ => .any
  | x => x

def scrub1 (l : List Nat) : AV → AV
  | .ag cs => .ag (cs.map (scrub0 l))
  | x => scrub0 l x

def scrub (l : List Nat) : AV → AV
  | .tp vs => .tp (vs.map (scrub1 l))
  | x => scrub1 l x

def scrubO (l : List Nat) : HO → HO
  | .cells e cs => .cells e (cs.map (scrub0 l))
  | .map k es => .map k (es.map fun p => (p.1, scrub1 l p.2))

def fin (σ : St) (con : List Nat) : St := match con with
  | [] => σ
  | l => ⟨fun t => scrub l (σ.Γ t), fun id => (σ.H id).map (scrubO l), σ.n⟩

/-- The state stands for this frame and world. -/
def SR (G : Ctx) (N : Nat) (ds : List Deferred) (σ : St) (a : Act) (w : World) : Prop :=
  (∀ id, σ.n ≤ id → σ.H id = none) ∧ (σ.n = 0 → ∀ b, G.P0 b) ∧
  ∃ F ι, HR G F w ι none' σ.H ∧ (∀ id, (∃ b, ι id = some b) ↔ (σ.H id).isSome = true) ∧ (∀ t, V F w ι (σ.Γ t) (a.tmps.getD t undef)) ∧ a.tmps.size = N ∧ a.defers = ds ∧ ∀ b, ι 0 = some b → G.P0 b

section
variable {F : Nat → Prop} {w : World} {ι : Nat → Option Nat} {l : List Nat}

def mask (ι : Nat → Option Nat) (l : List Nat) : Nat → Option Nat := fun id => if id ∈ l then none else ι id

theorem mask_some {id b : Nat} (h : mask ι l id = some b) : ι id = some b ∧ id ∉ l := by
  unfold mask at h; split at h
  · cases h
  · exact ⟨h, by assumption⟩

theorem V_scrub0 {x : AV} {v : Value} (h : V F w ι x v) : V F w (mask ι l) (scrub0 l x) v := by
  cases h with
  | d x v h => exact .d _ _ h
  | nil => exact .nil
  | own id off len sz b cap cur e hι hb hcap hl hm =>
    simp only [scrub0]; split
    · exact .any _
    · exact .own _ _ _ _ b _ _ _ (by unfold mask; rw [if_neg ‹_›]; exact hι) hb hcap hl hm
  | ptr id off b hι =>
    simp only [scrub0]; split
    · exact .any _
    · exact .ptr _ _ _ (by unfold mask; rw [if_neg ‹_›]; exact hι)
  | mp id b hι =>
    simp only [scrub0]; split
    · exact .any _
    · exact .mp _ _ (by unfold mask; rw [if_neg ‹_›]; exact hι)
  | ub t => exact .ub t
  | kf f id b p e hι hF hp =>
    simp only [scrub0]; split
    · exact .any _
    · exact .kf f _ b p e (by unfold mask; rw [if_neg ‹_›]; exact hι) hF hp
  | fp cs ad f hF hcell hel => exact .fp _ _ f hF hcell hel
  | fd els ad n h => exact .fd _ _ _ h
  | ag cs vs hl h => exact .any _
  | tp cs vs hl h => exact .any _
  | un => exact .un
  | any v => exact .any _

theorem V_scrub1 {x : AV} {v : Value} (h : V F w ι x v) : V F w (mask ι l) (scrub1 l x) v := by
  have h0 := V_scrub0 (l := l) h
  cases h with
  | ag cs vs hl hh =>
    refine .ag _ _ (by simpa using hl) fun k c u hc hu => ?_
    rw [List.getElem?_map] at hc
    obtain ⟨d, hd, rfl⟩ := Option.map_eq_some_iff.1 hc
    exact V_scrub0 (hh k d u hd hu)
  | _ => exact h0

theorem V_scrub {x : AV} {v : Value} (h : V F w ι x v) : V F w (mask ι l) (scrub l x) v := by
  have h1 := V_scrub1 (l := l) h
  cases h with
  | tp cs vs hl hh =>
    refine .tp _ _ (by simpa using hl) fun k c u hc hu => ?_
    rw [List.getElem?_map] at hc
    obtain ⟨d, hd, rfl⟩ := Option.map_eq_some_iff.1 hc
    exact V_scrub1 (hh k d u hd hu)
  | _ => exact h1

theorem CR_scrub {o : HO} {ob : Obj} (h : CR F w ι o ob) : CR F w (mask ι l) (scrubO l o) ob := by
  cases h with
  | cells e cs cur hl hh =>
    refine .cells _ _ _ (by simpa using hl) fun k c hk => ?_
    rw [List.getElem?_map] at hk
    obtain ⟨d, hd, rfl⟩ := Option.map_eq_some_iff.1 hk
    obtain ⟨u, hu, hv⟩ := hh k d hd
    exact ⟨u, hu, V_scrub0 hv⟩
  | map k es ents clock hl hst hh =>
    refine .map _ _ _ _ (by simpa using hl) hst fun k x hk => ?_
    rw [List.getElem?_map] at hk
    obtain ⟨d, hd, rfl⟩ := Option.map_eq_some_iff.1 hk
    obtain ⟨en, h1, h2, h3⟩ := hh k d hd
    exact ⟨en, h1, h2, V_scrub1 h3⟩

theorem scrubO_len (o : HO) : (scrubO l o).len = o.len := by cases o <;> simp [scrubO, HO.len]

variable {G : Ctx} {N : Nat} {ds : List Deferred}

/-- At a region's end what has been used up is forgotten. -/
theorem SR_fin {σ : St} {con : List Nat} {s : AS} {a : Act} (hn0 : σ.n = 0 → ∀ b, G.P0 b) (hwf : Wf σ con) (hag : Agree σ con s) (hr : RelS G N ds s a w) : SR G N ds (fin σ con) a w := by
  obtain ⟨F, ι, hR, hdom, hV, hN, hds, hp⟩ := hr
  rw [hag.Γ] at hV
  cases con with
  | nil =>
    refine ⟨hwf.top, hn0, F, ι, ?_, fun id => by rw [hdom, hag.U]; simp [fin], hV, hN, hds, hp⟩
    have hT : s.T = none' := funext fun i => propext (by simp [hag.T, none'])
    rw [hT] at hR
    exact ⟨hR.kept, hR.F_lt, hR.F_ok, hR.place, fun id b o h1 h2 => hR.obj id b o h1 (hag.K _ _ h2), hR.inj, fun id id' b o o' h1 h2 h3 h4 h5 => hR.len id id' b o o' h1 h2 h3 (hag.K _ _ h4) (hag.K _ _ h5)⟩
  | cons c con =>
    have hl : fin σ (c :: con) = ⟨fun t => scrub (c :: con) (σ.Γ t), fun id => (σ.H id).map (scrubO (c :: con)), σ.n⟩ := rfl
    rw [hl]
    have hT : ∀ id, id ∉ c :: con → ¬ s.T id := fun id h ht => h ((hag.T id).1 ht)
    refine ⟨fun id h => by simp [hwf.top id h], hn0, F, mask ι (c :: con), ⟨hR.kept, hR.F_lt, hR.F_ok, fun id b h => ?_, fun id b o h1 h2 => ?_, fun id id' b h h' _ _ => ?_, fun id id' b o o' h h' _ h3 h4 => ?_⟩, fun id => ?_, fun t => V_scrub (hV t), hN, hds, fun b hb => hp b (mask_some hb).1⟩
    · obtain ⟨h1, h2⟩ := mask_some h
      obtain ⟨p1, p2, p3⟩ := hR.place id b h1
      exact ⟨p1, p2, fun _ => p3 (hT id h2)⟩
    · obtain ⟨q1, _⟩ := mask_some h1
      obtain ⟨o1, ho1, rfl⟩ := Option.map_eq_some_iff.1 h2
      obtain ⟨ob, e1, e2⟩ := hR.obj id b o1 q1 (hag.K _ _ ho1)
      exact ⟨ob, e1, CR_scrub e2⟩
    · obtain ⟨q1, q2⟩ := mask_some h
      obtain ⟨q1', q2'⟩ := mask_some h'
      exact hR.inj id id' b q1 q1' (hT id q2) (hT id' q2')
    · obtain ⟨q1, q2⟩ := mask_some h
      obtain ⟨q1', q2'⟩ := mask_some h'
      obtain ⟨o1, ho1, rfl⟩ := Option.map_eq_some_iff.1 h3
      obtain ⟨o2, ho2, rfl⟩ := Option.map_eq_some_iff.1 h4
      rw [scrubO_len, scrubO_len]
      exact hR.len id id' b o1 o2 q1 q1' (hT id q2) (hag.K _ _ ho1) (hag.K _ _ ho2)
    · constructor
      · rintro ⟨b, h⟩
        obtain ⟨q1, q2⟩ := mask_some h
        rcases (hag.U id).1 ((hdom id).1 ⟨b, q1⟩) with h | h
        · simpa using h
        · exact absurd h q2
      · intro h
        simp only [Option.isSome_map] at h
        obtain ⟨b, hb⟩ := (hdom id).2 ((hag.U id).2 (.inl h))
        refine ⟨b, ?_⟩
        unfold mask
        rw [if_neg fun hc => by have := (hwf.con id hc).2; rw [this] at h; cases h]
        exact hb

theorem SR_agree {σ : St} {a : Act} (h : SR G N ds σ a w) : (σ.n = 0 → ∀ b, G.P0 b) ∧ Wf σ [] ∧ ∀ K : Nat → Option HO, (∀ id o, σ.H id = some o → K id = some o) →
    Agree σ [] ⟨σ.Γ, none', K, fun id => (σ.H id).isSome = true⟩ ∧ RelS G N ds ⟨σ.Γ, none', K, fun id => (σ.H id).isSome = true⟩ a w := by
  obtain ⟨htop, hn0, F, ι, hR, hdom, hV, hN, hds, hp⟩ := h
  refine ⟨hn0, ⟨htop, fun _ h => by cases h⟩, fun K hK => ⟨⟨rfl, fun id => by simp [none'], hK, fun id => by simp⟩, F, ι, ?_, hdom, hV, hN, hds, hp⟩⟩
  have live : ∀ id b, ι id = some b → ∃ o, σ.H id = some o := fun id b h => Option.isSome_iff_exists.1 ((hdom id).1 ⟨b, h⟩)
  refine ⟨hR.kept, hR.F_lt, hR.F_ok, hR.place, fun id b o h1 h2 => ?_, hR.inj, fun id id' b o o' h1 h2 h3 h4 h5 => ?_⟩
  · obtain ⟨o1, ho1⟩ := live id b h1
    simp only at h2
    rw [hK _ _ ho1] at h2; injection h2 with h2; subst h2
    exact hR.obj id b o1 h1 ho1
  · obtain ⟨o1, ho1⟩ := live id b h1
    obtain ⟨o2, ho2⟩ := live id' b h2
    simp only at h4 h5
    rw [hK _ _ ho1] at h4; injection h4 with h4; subst h4
    rw [hK _ _ ho2] at h5; injection h5 with h5; subst h5
    exact hR.len id id' b o1 o2 h1 h2 h3 ho1 ho2
end

/-- A region, walked. -/
theorem region_sound {P : Program} {G : Ctx} {id N : Nat} {ds : List Deferred} {ops : Array Oper} {draw : Bool} {Q : St → Prop} {Q' : Exit → Act → World → Prop} {σ : St} {a : Act} {w : World} (hm : P.follows .mixedOrders = true)
    (hdst : ∀ (i : Nat) (o : Oper) (d : Tmp), ops[i]? = some o → o.dst = some d → d < N) (hB : draw = true → lexB2 P ops = true) (hsr : SR G N ds σ a w)
    (h : OW P ops ops.toList σ [] fun σ' con => Q (fin σ' con)) (hQ : ∀ σ a w, Q σ → SR G N ds σ a w → Q' .normal a w) : (Code.region id ops draw).wp P Q' a w := by
  obtain ⟨hn0, hwf, hag⟩ := SR_agree hsr
  obtain ⟨fb, hfb⟩ := OW_sound (G := G) ops.toList σ [] hn0 hwf h
  obtain ⟨h1, h2⟩ := hag (fun i => if i < σ.n then σ.H i else fb i) (fun i o hi => by
    rcases Nat.lt_or_ge i σ.n with hlt | hge
    · rw [if_pos hlt]; exact hi
    · rw [hwf.top i hge] at hi; cases hi)
  have h3 := hfb _ h1 (fun i hi => by simp only; rw [if_neg (by omega)])
  have hQ2 : ∀ (s : AS) (a : Act) (w : World), (∃ σ' con', Q (fin σ' con') ∧ (σ'.n = 0 → ∀ b, G.P0 b) ∧ Wf σ' con' ∧ Agree σ' con' s) → RelS G N ds s a w → Q' .normal a w := by
    rintro s a w ⟨σ', con', hq, hn', hwf', hag'⟩ hr
    exact hQ _ a w hq (SR_fin hn' hwf' hag' hr)
  cases draw
  · exact region_seq hdst hQ2 h2 h3
  · exact region_draw hm (hB rfl) hdst h2 h3 hQ2

/-- σ' says less than σ: slots forgotten, blocks dropped or read for good, numbers changed (ρ: new number to old). -/
def SubL (H : Nat → Option HO) (H' : Nat → Option HO) (ρ : Nat → Nat) : AV → AV → Prop
  | _, .any => True
  | x, .d y => frz H 8 x = some y ∧ ∀ a ∈ vis H 8 x, ∀ id, (H' id).isSome = true → ρ id ≠ a
  | .nil, .nil => True
  | .un, .un => True
  | .ub, .ub => True
  | .kf f a, .kf g b => f = g ∧ a = ρ b ∧ (H' b).isSome = true
  | .fd a, .fd b => a = b
  | .fp a, .fp b => a = b
  | .own a o l s, .own b o' l' s' => a = ρ b ∧ o = o' ∧ l = l' ∧ s = s' ∧ (H' b).isSome = true
  | .ptr a o, .ptr b o' => a = ρ b ∧ o = o' ∧ (H' b).isSome = true
  | .mp a, .mp b => a = ρ b ∧ (H' b).isSome = true
  | _, _ => False

def Sub (H : Nat → Option HO) (H' : Nat → Option HO) (ρ : Nat → Nat) : AV → AV → Prop
  | .ag cs, .ag ds => cs.length = ds.length ∧ ∀ (k : Nat) c d, cs[k]? = some c → ds[k]? = some d → SubL H H' ρ c d
  | x, y => SubL H H' ρ x y

def SubO (H : Nat → Option HO) (H' : Nat → Option HO) (ρ : Nat → Nat) : HO → HO → Prop
  | .cells e cs, .cells e' ds => e = e' ∧ cs.length = ds.length ∧ ∀ (k : Nat) c d, cs[k]? = some c → ds[k]? = some d → SubL H H' ρ c d
  | .map k es, .map k' fs => k = k' ∧ es.length = fs.length ∧ ∀ (k : Nat) x y, es[k]? = some x → fs[k]? = some y → x.1 = y.1 ∧ (SubL H H' ρ x.2 y.2 ∨ Sub H H' ρ x.2 y.2)
  | _, _ => False

structure Wk (σ σ' : St) (ρ : Nat → Nat) : Prop where
  top : ∀ id, σ'.n ≤ id → σ'.H id = none
  slot : ∀ t, Sub σ.H σ'.H ρ (σ.Γ t) (σ'.Γ t)
  blk : ∀ id o', σ'.H id = some o' → ∃ o, σ.H (ρ id) = some o ∧ SubO σ.H σ'.H ρ o o'
  inj : ∀ id id', (σ'.H id).isSome = true → (σ'.H id').isSome = true → ρ id = ρ id' → id = id'
  pin : (σ'.H 0).isSome = true → ρ 0 = 0
  n0 : σ'.n = 0 → σ.n = 0

section
variable {G : Ctx} {N : Nat} {ds : List Deferred}

theorem SR_weak {σ σ' : St} {ρ : Nat → Nat} {a : Act} {w : World} (hk : Wk σ σ' ρ) (h : SR G N ds σ a w) : SR G N ds σ' a w := by
  obtain ⟨htop, hn0, F, ι, hR, hdom, hV, hN, hds, hp⟩ := h
  let F' : Nat → Prop := fun b => F b ∨ ∃ i, ι i = some b ∧ ∀ id, (σ'.H id).isSome = true → ρ id ≠ i
  let ι' : Nat → Option Nat := fun id => if (σ'.H id).isSome = true then ι (ρ id) else none
  have ι'_some : ∀ id b, ι' id = some b → (σ'.H id).isSome = true ∧ ι (ρ id) = some b := by
    intro id b h
    simp only [ι'] at h
    split at h
    · exact ⟨by assumption, h⟩
    · cases h
  have hFF : ∀ b, F b → F' b := fun b h => .inl h
  have subL : ∀ x y v, SubL σ.H σ'.H ρ x y → V F w ι x v → V F' w ι' y v := by
    intro x y v hs hv
    cases y with
    | any => exact .any _
    | d y =>
      have hs' : frz σ.H 8 x = some y ∧ ∀ a ∈ vis σ.H 8 x, ∀ id, (σ'.H id).isSome = true → ρ id ≠ a := by cases x <;> exact hs
      obtain ⟨h1, h2⟩ := hs'
      refine .d _ _ ((frz_V hR (fun _ _ h => h) 8 x v y h1 hv).1.mono ?_)
      rintro b (hb | ⟨i, hi, hb⟩)
      · exact .inl hb
      · exact .inr ⟨i, hb, fun id hid => h2 i hi id hid⟩
    | nil => cases x <;> first | exact hs.elim | (cases hv; exact .nil)
    | un => cases x <;> first | exact hs.elim | (cases hv; exact .un)
    | ub => cases x <;> first | exact hs.elim | (cases hv; exact .ub _)
    | kf g b => cases x <;> first | exact hs.elim | (simp only [SubL] at hs; obtain ⟨rfl, rfl, hsm⟩ := hs; cases hv with | kf _ _ bb p e hι hF hpp => exact .kf _ _ bb p e (by simp only [ι']; rw [if_pos hsm]; exact hι) (hFF _ hF) hpp)
    | fd b => cases x <;> first | exact hs.elim | (simp only [SubL] at hs; subst hs; cases hv with | fd _ ad n h => exact .fd _ _ _ (h.mono hFF))
    | fp b =>
      cases x <;> first | exact hs.elim | (simp only [SubL] at hs; subst hs; cases hv with | fp _ ad f hF hcell hel => exact .fp _ _ f (hFF _ hF) hcell fun k c hk => (hel k c hk).mono hFF)
    | own b o l s =>
      cases x <;> first | exact hs.elim | (simp only [SubL] at hs; obtain ⟨rfl, rfl, rfl, rfl, hsm⟩ := hs; cases hv with | own _ _ _ _ bb cap cur e hι hb hcap hl hm => exact .own _ _ _ _ bb cap cur e (by simp only [ι']; rw [if_pos hsm]; exact hι) hb hcap hl hm)
    | ptr b o => cases x <;> first | exact hs.elim | (simp only [SubL] at hs; obtain ⟨rfl, rfl, hsm⟩ := hs; cases hv with | ptr _ _ bb hι => exact .ptr _ _ bb (by simp only [ι']; rw [if_pos hsm]; exact hι))
    | mp b => cases x <;> first | exact hs.elim | (simp only [SubL] at hs; obtain ⟨rfl, hsm⟩ := hs; cases hv with | mp _ bb hι => exact .mp _ bb (by simp only [ι']; rw [if_pos hsm]; exact hι))
    | ag _ => cases x <;> exact hs.elim
    | tp _ => cases x <;> exact hs.elim
  have sub : ∀ x y v, Sub σ.H σ'.H ρ x y → V F w ι x v → V F' w ι' y v := by
    intro x y v hs hv
    by_cases hag : ∃ cs ds, x = .ag cs ∧ y = .ag ds
    · obtain ⟨cs, ds, rfl, rfl⟩ := hag
      obtain ⟨hl, hs⟩ := hs
      cases hv with | ag _ vs hvl hh =>
      refine .ag _ _ (by omega) fun k d u hd hu => ?_
      have hk : k < cs.length := by rw [hl]; exact (List.getElem?_eq_some_iff.1 hd).1
      exact subL _ _ _ (hs k _ d (List.getElem?_eq_getElem hk) hd) (hh k _ u (List.getElem?_eq_getElem hk) hu)
    · refine subL x y v ?_ hv
      cases x <;> cases y <;> first | exact hs | exact absurd ⟨_, _, rfl, rfl⟩ hag
  have cr : ∀ o o' ob, SubO σ.H σ'.H ρ o o' → CR F w ι o ob → CR F' w ι' o' ob := by
    intro o o' ob hs hc
    cases hc with
    | cells e cs cur hl hh =>
      cases o' with
      | map _ _ => exact hs.elim
      | cells e' ds =>
        obtain ⟨rfl, hl', hs⟩ := hs
        refine .cells _ _ _ (by omega) fun k d hd => ?_
        have hk : k < cs.length := by rw [hl']; exact (List.getElem?_eq_some_iff.1 hd).1
        obtain ⟨u, hu, hv⟩ := hh k _ (List.getElem?_eq_getElem hk)
        exact ⟨u, hu, subL _ _ _ (hs k _ d (List.getElem?_eq_getElem hk) hd) hv⟩
    | map kd es ents clock hl hst hh =>
      cases o' with
      | cells _ _ => exact hs.elim
      | map kd' fs =>
        obtain ⟨rfl, hl', hs⟩ := hs
        refine .map _ _ _ _ (by omega) hst fun k y hy => ?_
        have hk : k < es.length := by rw [hl']; exact (List.getElem?_eq_some_iff.1 hy).1
        obtain ⟨en, h1, h2, h3⟩ := hh k _ (List.getElem?_eq_getElem hk)
        obtain ⟨e1, e2⟩ := hs k _ y (List.getElem?_eq_getElem hk) hy
        exact ⟨en, h1, by rw [← e1]; exact h2, e2.elim (fun e2 => subL _ _ _ e2 h3) fun e2 => sub _ _ _ e2 h3⟩
  have subO_len : ∀ o o', SubO σ.H σ'.H ρ o o' → o'.len = o.len := by
    intro o o' hs
    cases o <;> cases o' <;> first | exact hs.elim | (simp only [HO.len]; exact hs.2.1.symm) | rfl
  refine ⟨hk.top, fun h => hn0 (hk.n0 h), F', ι', ⟨hR.kept, ?_, ?_, ?_, ?_, ?_, ?_⟩, fun id => ⟨?_, ?_⟩, fun t => sub _ _ _ (hk.slot t) (hV t), hN, hds, fun b hb => ?_⟩
  rotate_right
  · obtain ⟨h1, h2⟩ := ι'_some 0 b hb
    rw [hk.pin h1] at h2; exact hp b h2
  · rintro b (h | ⟨i, h, _⟩)
    · exact hR.F_lt b h
    · exact hR.ι_lt h
  · rintro b (h | ⟨i, h, _⟩)
    · exact hR.F_ok b h
    · exact .inr (hR.place i b h).1
  · intro id b h
    obtain ⟨h1, h2⟩ := ι'_some id b h
    obtain ⟨p1, p2, p3⟩ := hR.place _ b h2
    refine ⟨p1, p2, fun _ hF => ?_⟩
    rcases hF with hF | ⟨i, hi, hne⟩
    · exact p3 (fun x => x) hF
    · exact hne id h1 (hR.inj _ _ b h2 hi (fun x => x) (fun x => x))
  · intro id b o' h ho'
    obtain ⟨h1, h2⟩ := ι'_some id b h
    obtain ⟨o, ho, hs⟩ := hk.blk id o' ho'
    obtain ⟨ob, e1, e2⟩ := hR.obj _ b o h2 ho
    exact ⟨ob, e1, cr o o' ob hs e2⟩
  · intro id id' b h h' _ _
    obtain ⟨h1, h2⟩ := ι'_some id b h
    obtain ⟨h1', h2'⟩ := ι'_some id' b h'
    exact hk.inj id id' h1 h1' (hR.inj _ _ b h2 h2' (fun x => x) (fun x => x))
  · intro id id' b o o' h h' _ ho ho'
    obtain ⟨h1, h2⟩ := ι'_some id b h
    obtain ⟨h1', h2'⟩ := ι'_some id' b h'
    obtain ⟨p, hp, hs⟩ := hk.blk id o ho
    obtain ⟨p', hp', hs'⟩ := hk.blk id' o' ho'
    rw [subO_len _ _ hs, subO_len _ _ hs']
    exact hR.len _ _ b p p' h2 h2' (fun x => x) hp hp'
  · rintro ⟨b, h⟩; exact (ι'_some id b h).1
  · intro h
    obtain ⟨o', ho'⟩ := Option.isSome_iff_exists.1 h
    obtain ⟨o, ho, _⟩ := hk.blk id o' ho'
    obtain ⟨b, hb⟩ := (hdom (ρ id)).2 (by rw [ho]; rfl)
    exact ⟨b, by simp only [ι']; rw [if_pos h]; exact hb⟩
end

end Go.Am
