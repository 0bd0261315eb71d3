/- The abstract machine, part 14: the walk of a region's operations in the text's order, as a computation, and what it stands for. No condition. -/
import Derived.Test.YtmnjglpieghdkaaAm13
namespace Go.Am

structure St where
  Γ : Nat → AV
  H : Nat → Option HO
  n : Nat

def kill (l : List Nat) (H : Nat → Option HO) : Nat → Option HO := match l with | [] => H | _ => fun id => if id ∈ l then none else H id

def addB (H : Nat → Option HO) (n : Nat) (nb : Option HO) : Nat → Option HO := match nb with | some ho => upd H n (some ho) | none => H

def cnt (nb : Option HO) (n : Nat) : Nat := match nb with | some _ => n + 1 | none => n

/-- A call of a Go function: what the state is behind it. -/
def OC (P : Program) (f : FuncId) (args : Array Operand) (dst : Option Tmp) (σ : St) (con : List Nat) (k : St → List Nat → Prop) : Prop :=
  if mutF P f then match args.toList with
    | x :: rest => match hd1 (oev σ.Γ x) with
      | some (id, h) => match σ.H id with
        | some ho => (∃ g, rest = [] ∧ h = .mp 0 ∧ KeysSpec P f g ∧ k ⟨putA σ.Γ dst (.kf g id), σ.H, σ.n⟩ con) ∨
          (nohO ho = true ∧ viss σ.H (rest.map (oev σ.Γ)) = [] ∧ ∃ ds ho' r, frzs σ.H (rest.map (oev σ.Γ)) = some ds ∧ OSpec P f h ho ds ho' r ∧ ho'.len = ho.len ∧ nohO ho' = true ∧
            k ⟨putA σ.Γ dst (inj r), upd σ.H id (some ho'), σ.n⟩ con)
        | none => False
      | none => False
    | [] => False
  else match args.toList.map (oev σ.Γ) with
    | [.kf g id] => match σ.H id with
      | some (.map .i64 es) => es.length ≤ 1099511627776 ∧ (es.map (·.1)).all inr = true ∧ SortedSpec P f g ∧ k ⟨putA σ.Γ dst (.d (.sl ((isort (es.map (·.1))).map fun n => [.i .i64 n]))), σ.H, σ.n⟩ con
      | _ => False
    | avs => ∃ ds r, frzs σ.H avs = some ds ∧ Spec P f ds r ∧ k ⟨putA σ.Γ dst (inj r), kill (killsOf σ.H avs r) σ.H, σ.n⟩ (killsOf σ.H avs r ++ con)

/-- One operation: what the state is behind it. -/
def O1 (P : Program) (o : Oper) (σ : St) (con : List Nat) (k : St → List Nat → Prop) : Prop :=
  match o.op with
  | .load t x => match loadA P σ.H t (oev σ.Γ x) with
    | some v => k ⟨putA σ.Γ o.dst v, σ.H, σ.n⟩ con
    | none => False
  | .lookup t m x ok => match lookA P σ.H t (oev σ.Γ m) (oev σ.Γ x) ok with
    | some v => k ⟨putA σ.Γ o.dst v, σ.H, σ.n⟩ con
    | none => False
  | .store t ad x => match storeA P σ.H t (oev σ.Γ ad) (oev σ.Γ x) with
    | some (id, ho) => k ⟨putA σ.Γ o.dst .un, upd σ.H id (some ho), σ.n⟩ con
    | none => False
  | .mapUpdate t m x v => match mapW P σ.H t (oev σ.Γ m) (oev σ.Γ x) (some (oev σ.Γ v)) with
    | some (id, ho) => k ⟨putA σ.Γ o.dst .any, upd σ.H id (some ho), σ.n⟩ con
    | none => False
  | .call { callee := .value (.func f), args := args, argTypes := _ } => OC P f args o.dst σ con k
  | .call { callee := .builtin .append, args := args, argTypes := ts } => match args.toList, ts.toList with
    | [s, x], [t, t'] => t = t' ∧ match appA P σ.H t (oev σ.Γ s) (oev σ.Γ x) σ.n with
      | some (av, nb, cn) => k ⟨putA σ.Γ o.dst av, addB (kill cn σ.H) σ.n nb, cnt nb σ.n⟩ (cn ++ con)
      | none => False
    | _, _ => False
  | .call { callee := .builtin .delete, args := args, argTypes := ts } => match args.toList, ts.toList with
    | [m, x], [t, _] => match mapW P σ.H t (oev σ.Γ m) (oev σ.Γ x) none with
      | some (id, ho) => k ⟨putA σ.Γ o.dst .any, upd σ.H id (some ho), σ.n⟩ con
      | none => False
    | _, _ => False
  | op => kind P op = 0 ∧ match nev P op σ.Γ σ.n with
    | some (av, nb) => k ⟨putA σ.Γ o.dst av, addB σ.H σ.n nb, cnt nb σ.n⟩ con
    | none => False

def OW (P : Program) (ops : Array Oper) : List Oper → St → List Nat → (St → List Nat → Prop) → Prop
  | [], σ, con, k => k σ con
  | o :: l, σ, con, k => match wantedA ops o σ.Γ with
    | some true => O1 P o σ con fun σ' con' => OW P ops l σ' con' k
    | some false => OW P ops l ⟨putA σ.Γ o.dst .un, σ.H, σ.n⟩ con k
    | none => False

structure Wf (σ : St) (con : List Nat) : Prop where
  top : ∀ id, σ.n ≤ id → σ.H id = none
  con : ∀ id ∈ con, id < σ.n ∧ σ.H id = none

structure Agree (σ : St) (con : List Nat) (s : AS) : Prop where
  Γ : s.Γ = σ.Γ
  T : ∀ id, s.T id ↔ id ∈ con
  K : ∀ id o, σ.H id = some o → s.K id = some o
  U : ∀ id, s.U id ↔ ((σ.H id).isSome = true ∨ id ∈ con)

section
variable {P : Program} {G : Ctx} {ops : Array Oper}

theorem kill_some {l : List Nat} {H : Nat → Option HO} {id : Nat} {o : HO} (h : kill l H id = some o) : H id = some o ∧ id ∉ l := by
  unfold kill at h
  split at h
  · exact ⟨h, by simp⟩
  · simp only at h
    split at h
    · cases h
    · exact ⟨h, by assumption⟩

theorem kill_mem {l : List Nat} {H : Nat → Option HO} {id : Nat} (h : id ∈ l) : kill l H id = none := by
  unfold kill
  split
  · cases h
  · simp only; rw [if_pos h]

theorem kill_not {l : List Nat} {H : Nat → Option HO} {id : Nat} (h : id ∉ l) : kill l H id = H id := by
  unfold kill
  split
  · rfl
  · simp only; rw [if_neg h]

theorem storeA_id {H : Nat → Option HO} {t : TypeId} {ad x : AV} {id : Nat} {ho : HO} (h : storeA P H t ad x = some (id, ho)) : ∃ off old, ad = .ptr id off ∧ H id = some old := by
  unfold storeA at h
  split at h
  · split at h
    · rename_i hH
      obtain ⟨vs, hvs, h⟩ := Option.bind_eq_some_iff.1 h
      obtain ⟨sz, hsz, h⟩ := Option.bind_eq_some_iff.1 h
      split at h
      · injection h with h; injection h with h1 h2; subst h1; exact ⟨_, _, rfl, hH⟩
      · cases h
    · cases h
  · cases h

theorem vis_some (H : Nat → Option HO) : ∀ (n : Nat) (x : AV) (id : Nat), id ∈ vis H n x → ∃ o, H id = some o
  | 0, x, id, h => by simp [vis] at h
  | n + 1, x, id, h => by
    have ih := vis_some H n
    unfold vis at h
    split at h
    · split at h
      · rename_i e cs hH
        rcases List.mem_cons.1 h with rfl | h
        · exact ⟨_, hH⟩
        · obtain ⟨c, _, hc⟩ := List.mem_flatMap.1 h; exact ih c id hc
      · cases h
    · obtain ⟨c, _, hc⟩ := List.mem_flatMap.1 h; exact ih c id hc
    · obtain ⟨c, _, hc⟩ := List.mem_flatMap.1 h; exact ih c id hc
    · cases h

theorem vis_cells (H : Nat → Option HO) : ∀ (n : Nat) (x : AV) (id : Nat), id ∈ vis H n x → ∃ e cs, H id = some (.cells e cs)
  | 0, x, id, h => by simp [vis] at h
  | n + 1, x, id, h => by
    have ih := vis_cells H n
    unfold vis at h
    split at h
    · split at h
      · rename_i e cs hH
        rcases List.mem_cons.1 h with rfl | h
        · exact ⟨_, _, hH⟩
        · obtain ⟨c, _, hc⟩ := List.mem_flatMap.1 h; exact ih c id hc
      · cases h
    · obtain ⟨c, _, hc⟩ := List.mem_flatMap.1 h; exact ih c id hc
    · obtain ⟨c, _, hc⟩ := List.mem_flatMap.1 h; exact ih c id hc
    · cases h

theorem kills_some {H : Nat → Option HO} {l : List AV} {r : D} {id : Nat} (h : id ∈ killsOf H l r) : ∃ o, H id = some o := by
  unfold killsOf at h
  split at h
  · cases h
  · obtain ⟨c, _, hc⟩ := List.mem_flatMap.1 h; exact vis_some H 8 c id hc

theorem appA_con {H : Nat → Option HO} {t : TypeId} {s x : AV} {n : Nat} {av : AV} {nb : Option HO} {cn : List Nat} (h : appA P H t s x n = some (av, nb, cn)) :
    ∀ id ∈ cn, (∃ o, H id = some o) ∧ ∃ off len sz, s = .own id off len sz := by
  unfold appA at h
  obtain ⟨e, _, h⟩ := Option.bind_eq_some_iff.1 h
  obtain ⟨sz, _, h⟩ := Option.bind_eq_some_iff.1 h
  obtain ⟨bt, _, h⟩ := Option.bind_eq_some_iff.1 h
  obtain ⟨z, _, h⟩ := Option.bind_eq_some_iff.1 h
  obtain ⟨p, _, h⟩ := Option.bind_eq_some_iff.1 h
  split at h
  · split at h
    · split at h
      · injection h with h; injection h with _ h; injection h with _ h; subst h; intro id hid; cases hid
      · split at h
        · injection h with h; injection h with _ h; injection h with _ h; subst h; intro id hid; cases hid
        · cases h
    · split at h
      · rename_i hH
        split at h
        · injection h with h; injection h with _ h; injection h with _ h; subst h
          intro id hid
          simp only [List.mem_singleton] at hid; subst hid
          exact ⟨⟨_, hH⟩, _, _, _, rfl⟩
        · cases h
      · cases h
    · split at h
      · injection h with h; injection h with _ h; injection h with _ h; subst h; intro id hid; cases hid
      · cases h
    · cases h
  · cases h

theorem hd1_tmp {Γ : Nat → AV} {x : Operand} {id : Nat} {h : AV} (he : hd1 (oev Γ x) = some (id, h)) : ∃ ts, x = .tmp ts ∧ hasId id (Γ ts) = true := by
  cases x with
  | tmp ts =>
    refine ⟨ts, rfl, ?_⟩
    simp only [oev] at he
    unfold hd1 at he
    split at he <;> first | (cases he; done) | (injection he with he; injection he with e1 _; subst e1; simp_all [hasId])
  | const v =>
    exfalso
    simp only [oev, cv] at he
    split at he
    · cases he
    · unfold cv1 at he; split at he <;> cases he
  | global g => cases he
  | func f => cases he

theorem mapW_id {H : Nat → Option HO} {t : TypeId} {m x : AV} {v : Option AV} {id : Nat} {ho : HO} (h : mapW P H t m x v = some (id, ho)) : ∃ old, m = .mp id ∧ H id = some old ∧ ho.len = old.len := by
  unfold mapW at h
  split at h
  · split at h
    · rename_i hH
      obtain ⟨p, _, h⟩ := Option.bind_eq_some_iff.1 h
      split at h
      · split at h
        · injection h with h; injection h with e1 e2; subst e1; subst e2; exact ⟨_, rfl, hH, rfl⟩
        · cases h
      · cases h
    · cases h
  · cases h

/-- The walk stands for a chain of the abstract run, whatever lies behind. -/
theorem OW_sound {k : St → List Nat → Prop} : ∀ (l : List Oper) (σ : St) (con : List Nat), (σ.n = 0 → ∀ b, G.P0 b) → Wf σ con → OW P ops l σ con k →
    ∃ fb : Nat → Option HO, ∀ s, Agree σ con s → (∀ id, σ.n ≤ id → s.K id = fb id) → aLex P G ops (fun s' => ∃ σ' con', k σ' con' ∧ (σ'.n = 0 → ∀ b, G.P0 b) ∧ Wf σ' con' ∧ Agree σ' con' s') l s
  | [], σ, con, hn0, hwf, h => ⟨fun _ => none, fun s hs _ => ⟨σ, con, h, hn0, hwf, hs⟩⟩
  | o :: l, σ, con, hn0, hwf, h => by
    have ih := OW_sound (k := k) l
    unfold OW at h
    -- a step that makes no block
    have pure0 : ∀ (av : AV) (con' : List Nat) (H' : Nat → Option HO), H' = kill con' σ.H → (∀ id ∈ con', (σ.H id).isSome = true) → OW P ops l ⟨putA σ.Γ o.dst av, H', σ.n⟩ (con' ++ con) k →
        (∀ s, Agree σ con s → Ev P G o s.Γ s.T s.K s.K av none' (fun i => i ∈ con')) → wantedA ops o σ.Γ = some true →
        ∃ fb : Nat → Option HO, ∀ s, Agree σ con s → (∀ id, σ.n ≤ id → s.K id = fb id) → aLex P G ops (fun s' => ∃ σ' con', k σ' con' ∧ (σ'.n = 0 → ∀ b, G.P0 b) ∧ Wf σ' con' ∧ Agree σ' con' s') (o :: l) s := by
      intro av con' H' hH' hc' hk hev hw
      subst hH'
      have hwf' : Wf ⟨putA σ.Γ o.dst av, kill con' σ.H, σ.n⟩ (con' ++ con) := by
        refine ⟨fun id hid => ?_, fun id hid => ?_⟩
        · cases hx : kill con' σ.H id with
          | none => exact hx
          | some o' => have := (kill_some hx).1; rw [hwf.top id hid] at this; cases this
        · rcases List.mem_append.1 hid with hid | hid
          · refine ⟨?_, kill_mem hid⟩
            have := hc' id hid
            rcases Nat.lt_or_ge id σ.n with h | h
            · exact h
            · rw [hwf.top id h] at this; cases this
          · obtain ⟨h1, h2⟩ := hwf.con id hid
            refine ⟨h1, ?_⟩
            cases hx : kill con' σ.H id with
            | none => exact hx
            | some o' => have := (kill_some hx).1; rw [h2] at this; cases this
      obtain ⟨fb, hfb⟩ := ih _ _ (by exact hn0) hwf' hk
      refine ⟨fb, fun s hs hsfb => ⟨_, .yes av none' (fun i => i ∈ con') s.K (by rw [hs.Γ]; exact hw) (hev s hs) (fun _ h => h.elim) (fun _ h => h.elim) (fun h => h.elim), hfb _ ?_ hsfb⟩⟩
      refine ⟨by rw [hs.Γ], fun id => by simp [hs.T, or_comm], fun id o' h => hs.K id o' (kill_some h).1, fun id => ?_⟩
      simp only [hs.U, none', or_false, List.mem_append]
      by_cases hid : id ∈ con'
      · simp [hid, hc' id hid, kill_mem hid]
      · rw [kill_not hid]; simp [hid]
    -- a step that makes block n
    have new1 : ∀ (av : AV) (con' : List Nat) (ho : HO), (∀ id ∈ con', (σ.H id).isSome = true) → OW P ops l ⟨putA σ.Γ o.dst av, upd (kill con' σ.H) σ.n (some ho), σ.n + 1⟩ (con' ++ con) k →
        (∀ s, Agree σ con s → s.K σ.n = some ho → Ev P G o s.Γ s.T s.K s.K av (· = σ.n) (fun i => i ∈ con')) → wantedA ops o σ.Γ = some true →
        ∃ fb : Nat → Option HO, ∀ s, Agree σ con s → (∀ id, σ.n ≤ id → s.K id = fb id) → aLex P G ops (fun s' => ∃ σ' con', k σ' con' ∧ (σ'.n = 0 → ∀ b, G.P0 b) ∧ Wf σ' con' ∧ Agree σ' con' s') (o :: l) s := by
      intro av con' ho hc' hk hev hw
      have hlt : ∀ id ∈ con', id < σ.n := fun id hid => by
        have := hc' id hid
        rcases Nat.lt_or_ge id σ.n with h | h
        · exact h
        · rw [hwf.top id h] at this; cases this
      have hwf' : Wf ⟨putA σ.Γ o.dst av, upd (kill con' σ.H) σ.n (some ho), σ.n + 1⟩ (con' ++ con) := by
        refine ⟨fun id hid => ?_, fun id hid => ?_⟩
        · simp only at hid ⊢
          rw [upd_ne _ _ (by omega)]
          cases hx : kill con' σ.H id with
          | none => rfl
          | some o' => have := (kill_some hx).1; rw [hwf.top id (by omega)] at this; cases this
        · simp only
          rcases List.mem_append.1 hid with hid | hid
          · have := hlt id hid
            exact ⟨by omega, by rw [upd_ne _ _ (by omega)]; exact kill_mem hid⟩
          · obtain ⟨h1, h2⟩ := hwf.con id hid
            refine ⟨by omega, ?_⟩
            rw [upd_ne _ _ (by omega)]
            cases hx : kill con' σ.H id with
            | none => rfl
            | some o' => have := (kill_some hx).1; rw [h2] at this; cases this
      obtain ⟨fb, hfb⟩ := ih _ _ (fun h => by simp at h) hwf' hk
      refine ⟨upd fb σ.n (some ho), fun s hs hsfb => ?_⟩
      have hKn : s.K σ.n = some ho := by rw [hsfb _ (Nat.le_refl _), upd_same]
      refine ⟨_, .yes av (· = σ.n) (fun i => i ∈ con') s.K (by rw [hs.Γ]; exact hw) (hev s hs hKn) ?_ ?_ (fun h => hn0 h.symm), hfb _ ?_ fun id hid => ?_⟩
      · rintro id rfl hu
        rcases (hs.U σ.n).1 hu with h | h
        · rw [hwf.top _ (Nat.le_refl _)] at h; cases h
        · have := (hwf.con _ h).1; omega
      · rintro id rfl ht
        have := (hwf.con _ ((hs.T σ.n).1 ht)).1; omega
      · refine ⟨by rw [hs.Γ], fun id => by simp [hs.T, or_comm], fun id o' h => ?_, fun id => ?_⟩
        · simp only at h
          by_cases hid : id = σ.n
          · subst hid; rw [upd_same] at h; rw [← h]; exact hKn
          · rw [upd_ne _ _ hid] at h; exact hs.K id o' (kill_some h).1
        · simp only [hs.U, List.mem_append]
          by_cases hid : id = σ.n
          · subst hid; simp [upd_same]
          · rw [upd_ne _ _ hid]
            by_cases hc : id ∈ con'
            · simp [hc, hc' id hc, kill_mem hc]
            · rw [kill_not hc]; simp [hid, hc]
      · simp only at hid
        rw [hsfb id (by omega), upd_ne _ _ (by omega)]
    -- a step that writes into a block
    have write1 : ∀ (av : AV) (id : Nat) (ho old : HO) (ts : Nat), Operand.tmp ts ∈ o.op.operands → hasId id (σ.Γ ts) = true → σ.H id = some old → kind P o.op = 2 → OW P ops l ⟨putA σ.Γ o.dst av, upd σ.H id (some ho), σ.n⟩ con k →
        (∀ (T2 : Nat → Prop) (K2 : Nat → Option HO), K2 id = some old → ¬ T2 id → Y P G o σ.Γ T2 K2 (wupd K2 T2 id ho) av none' none') → wantedA ops o σ.Γ = some true →
        ∃ fb : Nat → Option HO, ∀ s, Agree σ con s → (∀ id, σ.n ≤ id → s.K id = fb id) → aLex P G ops (fun s' => ∃ σ' con', k σ' con' ∧ (σ'.n = 0 → ∀ b, G.P0 b) ∧ Wf σ' con' ∧ Agree σ' con' s') (o :: l) s := by
      intro av id ho old ts hts hΓ hold hkd h hY hw
      have hwf' : Wf ⟨putA σ.Γ o.dst av, upd σ.H id (some ho), σ.n⟩ con := by
        refine ⟨fun i hi => ?_, fun i hi => ?_⟩
        · simp only at hi ⊢
          rw [upd_ne _ _ (fun e => by rw [e] at hi; rw [hwf.top id hi] at hold; cases hold)]; exact hwf.top i hi
        · obtain ⟨h1, h2⟩ := hwf.con i hi
          refine ⟨h1, ?_⟩
          simp only
          rw [upd_ne _ _ (fun e => by rw [e] at h2; rw [h2] at hold; cases hold)]; exact h2
      obtain ⟨fb, hfb⟩ := ih _ _ (by exact hn0) hwf' h
      refine ⟨fb, fun s hs hsfb => ?_⟩
      have hidn : id < σ.n := by
        rcases Nat.lt_or_ge id σ.n with h | h
        · exact h
        · rw [hwf.top id h] at hold; cases hold
      have hnT : ¬ s.T id := fun h => by have := (hwf.con id ((hs.T id).1 h)).2; rw [this] at hold; cases hold
      refine ⟨_, .yes av none' none' (wupd s.K s.T id ho) (by rw [hs.Γ]; exact hw) (.inr (.inr ⟨hkd, rfl, rfl, id, ts, old, ho, hts, by rw [hs.Γ]; exact hΓ, hs.K _ _ hold, hnT, rfl, fun T2 K2 hK2 hT2 => by rw [hs.Γ]; exact hY T2 K2 hK2 hT2⟩)) (fun _ h => h.elim) (fun _ h => h.elim) (fun h => h.elim), hfb _ ?_ fun i hi => ?_⟩
      · refine ⟨by rw [hs.Γ], fun i => by simp [hs.T, none'], fun i o' h => ?_, fun i => ?_⟩
        · simp only at h ⊢
          by_cases hid : i = id
          · subst hid; rw [upd_same] at h; unfold wupd; rw [if_pos rfl]; exact h
          · rw [upd_ne _ _ hid] at h
            rw [wupd_keep hid (fun ht => by have := (hwf.con i ((hs.T i).1 ht)).2; rw [this] at h; cases h)]
            exact hs.K i o' h
        · simp only [hs.U, none', or_false]
          by_cases hid : i = id
          · subst hid; simp [upd_same, hold]
          · rw [upd_ne _ _ hid]
      · simp only at hi
        show wupd s.K s.T id ho i = fb i
        rw [wupd_keep (by omega) (fun ht => by have := (hwf.con i ((hs.T i).1 ht)).1; omega)]
        exact hsfb i hi
    have wsub : ∀ {T2 : Nat → Prop} {K2 : Nat → Option HO} {id : Nat} {ho : HO} (j : Nat) (o' : HO), j ≠ id → wupd K2 T2 id ho j = some o' → K2 j = some o' ∧ ¬ T2 j := by
      intro T2 K2 id ho j o' hj h
      unfold wupd at h
      rw [if_neg hj] at h
      split at h
      · cases h
      · exact ⟨h, by assumption⟩
    have one1 : ∀ {K2 : Nat → Option HO} {id : Nat} {old : HO}, σ.H id = some old → K2 id = some old → ∀ i ob, (if i = id then σ.H id else none) = some ob → K2 i = some ob := by
      intro K2 id old hold hK2 i ob h
      split at h
      · rename_i e; subst e; rw [hold] at h; rw [hK2]; exact h
      · cases h
    split at h
    case h_3 => exact h.elim
    case h_2 hw =>
      have hwf' : Wf ⟨putA σ.Γ o.dst .un, σ.H, σ.n⟩ con := ⟨hwf.top, hwf.con⟩
      obtain ⟨fb, hfb⟩ := ih _ _ (by exact hn0) hwf' h
      exact ⟨fb, fun s hs hsfb => ⟨_, .no (by rw [hs.Γ]; exact hw), hfb _ ⟨by rw [hs.Γ], hs.T, hs.K, hs.U⟩ hsfb⟩⟩
    case h_1 hw =>
    unfold O1 at h
    split at h
    · -- load
      rename_i t x hop
      split at h
      · rename_i v hv
        refine pure0 v [] σ.H rfl (fun _ h => by cases h) h (fun s hs => .inr (.inl ⟨by rw [hop]; rfl, rfl, (fun _ h => by cases h), (fun _ _ _ _ _ _ _ _ h => by cases h), fun T2 _ => ?_⟩)) hw
        have : (fun i => i ∈ ([] : List Nat)) = none' := funext fun i => by simp [none']
        rw [this]
        refine y_pure fun F w ι a hR hops => ?_
        obtain ⟨u, h1, h2⟩ := loadA_V (P := P) hR hs.K hv (V_oev (Γ := σ.Γ) (a := a) fun t e => by rw [← hs.Γ]; exact hops t (by rw [hop]; simp [Op.operands, e]))
        exact ⟨u, by simp only [execOp, hop, Sem.run_bind, h1]; rfl, h2⟩
      · exact h.elim
    · -- lookup
      rename_i t m x ok hop
      split at h
      · rename_i v hv
        refine pure0 v [] σ.H rfl (fun _ h => by cases h) h (fun s hs => .inr (.inl ⟨by rw [hop]; rfl, rfl, (fun _ h => by cases h), (fun _ _ _ _ _ _ _ _ h => by cases h), fun T2 _ => ?_⟩)) hw
        have : (fun i => i ∈ ([] : List Nat)) = none' := funext fun i => by simp [none']
        rw [this]
        refine y_pure fun F w ι a hR hops => ?_
        obtain ⟨u, h1, h2⟩ := lookA_V (P := P) hR hs.K hv (V_oev (Γ := σ.Γ) (a := a) fun t e => by rw [← hs.Γ]; exact hops t (by rw [hop]; simp [Op.operands, e])) (V_oev (Γ := σ.Γ) (a := a) fun t e => by rw [← hs.Γ]; exact hops t (by rw [hop]; simp [Op.operands, e]))
        exact ⟨u, by simp only [execOp, hop, Sem.run_bind, h1]; rfl, h2⟩
      · exact h.elim
    · -- store
      rename_i t ad x hop
      split at h
      · rename_i id ho hst
        obtain ⟨off, old, hadp, hold⟩ := storeA_id hst
        obtain ⟨ts, hts, hΓ⟩ := hd1_tmp (Γ := σ.Γ) (x := ad) (id := id) (h := .ptr 0 off) (by rw [hadp]; rfl)
        refine write1 .un id ho old ts (by rw [hop]; simp [Op.operands, hts]) hΓ hold (by rw [hop]; rfl) h (fun T2 K2 hK2 hT2 => ?_) hw
        refine y_store (H := fun i => if i = id then σ.H id else none) (id := id) (ho := ho) hop (one1 hold hK2) ?_ hT2 (by unfold wupd; rw [if_pos rfl]) wsub
        unfold storeA at hst ⊢
        rw [hadp] at hst ⊢
        simp only [if_true] at hst ⊢
        exact hst
      · exact h.elim
    · -- assignment to a map's element
      rename_i t m x v hop
      split at h
      · rename_i id ho hst
        obtain ⟨old, hm, hold, _⟩ := mapW_id hst
        obtain ⟨ts, hts, hΓ⟩ := hd1_tmp (Γ := σ.Γ) (x := m) (id := id) (h := .mp 0) (by rw [hm]; rfl)
        refine write1 .any id ho old ts (by rw [hop]; simp [Op.operands, hts]) hΓ hold (by rw [hop]; rfl) h (fun T2 K2 hK2 hT2 => ?_) hw
        refine y_mapw (H := fun i => if i = id then σ.H id else none) (v := some v) (id := id) (ho := ho) (.inl ⟨v, rfl, hop⟩) (one1 hold hK2) ?_ hT2 (by unfold wupd; rw [if_pos rfl]) wsub
        unfold mapW at hst ⊢
        rw [hm] at hst ⊢
        simp only [if_true] at hst ⊢
        exact hst
      · exact h.elim
    · -- call
      rename_i f args ts hop
      unfold OC at h
      split at h
      · rename_i hmut
        have hkd : kind P o.op = 2 := by rw [hop]; simp [kind, hmut]
        split at h
        case h_2 => exact h.elim
        rename_i x rest hargs
        split at h
        case h_2 => exact h.elim
        rename_i id hh hx
        split at h
        case h_2 => exact h.elim
        rename_i ho hold
        obtain ⟨tt, htt, hΓ⟩ := hd1_tmp hx
        have hop2 : Operand.tmp tt ∈ o.op.operands := by rw [hop]; simp only [Op.operands, Call.operands]; simp; rw [← Array.mem_toList_iff, hargs]; simp [htt]
        rcases h with ⟨g, rfl, rfl, hks, h⟩ | ⟨hno, hvis, ds, ho', r, hf, hs, hlen, hno', h⟩
        · have hmp : oev σ.Γ x = .mp id := by
            generalize oev σ.Γ x = av at hx
            cases av <;> simp [hd1] at hx
            rw [hx]
          have hup : upd σ.H id (some ho) = σ.H := by
            funext i; by_cases hi : i = id
            · subst hi; rw [upd_same, hold]
            · rw [upd_ne _ _ hi]
          refine write1 (.kf g id) id ho ho tt hop2 hΓ hold hkd (by rw [hup]; exact h) (fun T2 K2 hK2 hT2 => ?_) hw
          intro F w ι a hR hop' hn next Q hx'
          have hY := y_keys (P := P) (G := G) (C := T2) (K := K2) hop hargs hmp hks
          refine hY F w ι a hR hop' hn next Q fun F' w' ι' u hR' hs' hd1' hd2' hv' => hx' F' w' ι' u ⟨hR'.kept, hR'.F_lt, hR'.F_ok, hR'.place, fun i b o' e1 e2 => ?_, hR'.inj, fun i i' b o1 o2 e1 e2 e3 e4 e5 => ?_⟩ hs' hd1' hd2' hv'
          · by_cases hi : i = id
            · subst hi; unfold wupd at e2; rw [if_pos rfl] at e2; exact hR'.obj _ b o' e1 (by rw [hK2]; exact e2)
            · exact hR'.obj i b o' e1 (wsub i o' hi e2).1
          · have q : ∀ (i : Nat) (o1 : HO), wupd K2 T2 id ho i = some o1 → K2 i = some o1 := fun i o1 e => by
              by_cases hi : i = id
              · subst hi; unfold wupd at e; rw [if_pos rfl] at e; rw [hK2]; exact e
              · exact (wsub i o1 hi e).1
            exact hR'.len i i' b o1 o2 e1 e2 e3 (q _ _ e4) (q _ _ e5)
        · have hvis0 : ∀ (c : AV), c ∈ rest.map (oev σ.Γ) → vis σ.H 8 c = [] := fun c hc => by
            unfold viss at hvis; exact List.flatMap_eq_nil_iff.1 hvis c hc
          refine write1 (inj r) id ho' ho tt hop2 hΓ hold hkd h (fun T2 K2 hK2 hT2 => ?_) hw
          intro F w ι a hR
          have hfr : frzs (fun i => if i = id then σ.H id else none) (rest.map (oev σ.Γ)) = some ds ∧ viss (fun i => if i = id then σ.H id else none) (rest.map (oev σ.Γ)) = [] := frzs_novis hvis hf
          exact y_ocall (H := fun i => if i = id then σ.H id else none) hop hargs (one1 hold hK2) hx (by simp only [if_true]; exact hold) hno hfr.2 hfr.1 hs hlen hno' hT2 (by unfold wupd; rw [if_pos rfl]) wsub F w ι a hR
      · rename_i hmut
        have hkd : kind P o.op = 1 := by rw [hop]; simp [kind, hmut]
        split at h
        · rename_i g id hargs
          obtain ⟨x, hx, hxe⟩ : ∃ x, args.toList = [x] ∧ oev σ.Γ x = .kf g id := by
            cases hl : args.toList with
            | nil => rw [hl] at hargs; cases hargs
            | cons x l =>
              rw [hl] at hargs
              cases l with
              | nil => simp only [List.map_cons, List.map_nil, List.cons.injEq, and_true] at hargs; exact ⟨x, rfl, hargs⟩
              | cons y l => simp at hargs
          split at h
          · rename_i es hH
            obtain ⟨hn, hrr, hss, h⟩ := h
            refine pure0 _ [] σ.H rfl (fun _ h => by cases h) h (fun s hs => .inr (.inl ⟨hkd, rfl, (fun _ h => by cases h), (fun _ _ _ _ _ _ _ _ h => by cases h), fun T2 _ => ?_⟩)) hw
            have : (fun i => i ∈ ([] : List Nat)) = none' := funext fun i => by simp [none']
            rw [this]
            exact y_sorted (Γ := s.Γ) hop hx hs.K (by rw [hs.Γ]; exact hxe) hH hn hrr hss
          · exact h.elim
        · obtain ⟨ds, r, hfr, hsp, h⟩ := h
          refine pure0 (inj r) (killsOf σ.H (args.toList.map (oev σ.Γ)) r) _ rfl (fun id hid => by obtain ⟨o', ho'⟩ := kills_some hid; rw [ho']; rfl) h (fun s hs => .inr (.inl ⟨hkd, rfl, fun id hid ht => ?_, fun F w ι T2 a hR hops id hid => ?_, fun T2 hT2 => ?_⟩)) hw
          · obtain ⟨o', ho'⟩ := kills_some hid
            have := (hwf.con id ((hs.T id).1 ht)).2
            rw [this] at ho'; cases ho'
          · refine call_live (Γ := σ.Γ) (a := a) (r := r) hR hs.K hfr (fun x hx => V_oev fun t e => ?_) id hid
            rw [← hs.Γ]; exact hops t (by rw [hop]; subst e; simp [Op.operands, Call.operands]; simpa using hx)
          · have := y_call (P := P) (G := G) (Γ := s.Γ) (C := T2) (K := s.K) (H := σ.H) (o := o) (r := r) hop hs.K (by rw [hs.Γ]; exact hfr) hsp (by rw [hs.Γ]; exact hT2)
            rw [hs.Γ] at this ⊢
            exact this
    · -- append
      rename_i args ts hop
      split at h
      · rename_i s x t t' hargs hts
        obtain ⟨rfl, h⟩ := h
        split at h
        · rename_i av nb cn happ
          have hop' : o.op = .call { callee := .builtin .append, args := #[s, x], argTypes := #[t, t] } := by
            rw [hop]; cases args; cases ts; simp only at hargs hts; subst hargs; subst hts; rfl
          have hcs : ∀ id ∈ cn, (σ.H id).isSome = true := fun id hid => by obtain ⟨⟨o', ho'⟩, _⟩ := appA_con happ id hid; rw [ho']; rfl
          have hlive : ∀ s' : AS, Agree σ con s' → ∀ F w ι T2 (a : Act), HR G F w ι T2 s'.K → (∀ t, Operand.tmp t ∈ o.op.operands → V F w ι (s'.Γ t) (a.tmps.getD t undef)) → ∀ id, id ∈ cn → ∃ b, ι id = some b := by
            intro s' hs F w ι T2 a hR hops id hid
            obtain ⟨_, off, len, sz, hse⟩ := appA_con happ id hid
            have := V_oev (Γ := σ.Γ) (a := a) (x := s) (F := F) (w := w) (ι := ι) fun t e => by rw [← hs.Γ]; exact hops t (by rw [hop']; simp [Op.operands, Call.operands, e])
            rw [hse] at this
            generalize a.eval s = v at this
            cases this with | own _ _ _ _ b cap cur e hι => exact ⟨b, hι⟩
          have hnT : ∀ s' : AS, Agree σ con s' → ∀ id, id ∈ cn → ¬ s'.T id := fun s' hs id hid ht => by
            have h1 := hcs id hid
            rw [(hwf.con id ((hs.T id).1 ht)).2] at h1; cases h1
          cases nb with
          | none =>
            refine pure0 av cn _ rfl hcs h (fun s' hs => .inr (.inl ⟨by rw [hop]; rfl, rfl, hnT s' hs, hlive s' hs, fun T2 hT2 => ?_⟩)) hw
            have := y_append (P := P) (G := G) (Γ := s'.Γ) (C := T2) (K := s'.K) (H := σ.H) (n := σ.n) (o := o) hop' hs.K (by rw [hs.Γ]; exact happ) (fun ob h => by cases h) hT2
            have e1 : (fun i : Nat => (none : Option HO).isSome = true ∧ i = σ.n) = none' := funext fun i => by simp [none']
            rw [e1] at this; exact this
          | some ho =>
            refine new1 av cn ho hcs h (fun s' hs hKn => .inr (.inl ⟨by rw [hop]; rfl, rfl, hnT s' hs, hlive s' hs, fun T2 hT2 => ?_⟩)) hw
            have := y_append (P := P) (G := G) (Γ := s'.Γ) (C := T2) (K := s'.K) (H := σ.H) (n := σ.n) (o := o) hop' hs.K (by rw [hs.Γ]; exact happ) (fun ob h => by injection h with h; subst h; exact hKn) hT2
            have e1 : (fun i : Nat => (some ho).isSome = true ∧ i = σ.n) = (· = σ.n) := funext fun i => by simp
            rw [e1] at this; exact this
        · exact h.elim
      · exact h.elim
    · -- delete
      rename_i args ts hop
      split at h
      · rename_i m x t kt hargs hts
        split at h
        · rename_i id ho hst
          have hop' : o.op = .call { callee := .builtin .delete, args := #[m, x], argTypes := #[t, kt] } := by
            rw [hop]; cases args; cases ts; simp only at hargs hts; subst hargs; subst hts; rfl
          obtain ⟨old, hm, hold, _⟩ := mapW_id hst
          obtain ⟨tt, htt, hΓ⟩ := hd1_tmp (Γ := σ.Γ) (x := m) (id := id) (h := .mp 0) (by rw [hm]; rfl)
          refine write1 .any id ho old tt (by rw [hop']; simp [Op.operands, Call.operands, htt]) hΓ hold (by rw [hop]; rfl) h (fun T2 K2 hK2 hT2 => ?_) hw
          refine y_mapw (H := fun i => if i = id then σ.H id else none) (v := none) (id := id) (ho := ho) (.inr ⟨rfl, kt, hop'⟩) (one1 hold hK2) ?_ hT2 (by unfold wupd; rw [if_pos rfl]) wsub
          unfold mapW at hst ⊢
          rw [hm] at hst ⊢
          simp only [if_true] at hst ⊢
          exact hst
        · exact h.elim
      · exact h.elim
    · -- values alone
      obtain ⟨hk, h⟩ := h
      split at h
      · rename_i av nb hnev
        have e0 : (fun i => i ∈ ([] : List Nat)) = none' := funext fun i => by simp [none']
        cases nb with
        | none =>
          refine pure0 av [] σ.H rfl (fun _ h => by cases h) h (fun s hs => ?_) hw
          rw [e0]
          exact .inl ⟨hk, rfl, rfl, fun T2 K2 _ => nev_pure (n := σ.n) (by rw [hs.Γ]; exact hnev)⟩
        | some ho =>
          refine new1 av [] ho (fun _ h => by cases h) h (fun s hs hKn => ?_) hw
          rw [e0]
          exact .inl ⟨hk, rfl, rfl, fun T2 K2 hK2 => nev_alloc (n := σ.n) (ho := ho) (by rw [hs.Γ]; exact hnev) (by rw [hK2 _ rfl]; exact hKn)⟩
      · exact h.elim
end

end Go.Am
