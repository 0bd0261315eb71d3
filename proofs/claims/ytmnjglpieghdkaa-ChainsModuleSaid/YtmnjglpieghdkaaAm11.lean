/- The abstract machine, part 11: contracts, calls, stores. No condition. -/
import Derived.Test.YtmnjglpieghdkaaAm10
namespace Go.Am
open RowKit (Below)

def chunk (sz len : Nat) (l : List D) : List (List D) := (List.range len).map fun i => (l.drop (i * sz)).take sz

/-- What a value reads as, all through. -/
def frz (H : Nat → Option HO) : Nat → AV → Option D
  | 0, _ => none
  | n + 1, x => match x with
    | .d x => some x
    | .nil => some (.sl [])
    | .fd els => some (.sl els)
    | .own id off len sz => match H id with
      | some (.cells _ cs) => if (off + len) * sz ≤ cs.length ∧ 0 < sz then (((cs.drop (off * sz)).take (len * sz)).mapM (frz H n)).map fun l => .sl (chunk sz len l) else none
      | _ => none
    | .ag cs => (cs.mapM (frz H n)).map .ag
    | .tp cs => (cs.mapM (frz H n)).map .tp
    | _ => none

def frzs (H : Nat → Option HO) (l : List AV) : Option (List D) := l.mapM (frz H 8)

theorem mapM_get {α β : Type} (f : α → Option β) : ∀ (l : List α) (r : List β), l.mapM f = some r → r.length = l.length ∧ ∀ (k : Nat) d, r[k]? = some d → ∃ c, l[k]? = some c ∧ f c = some d
  | [], r, h => by simp at h; subst h; exact ⟨rfl, fun k d h => by simp at h⟩
  | x :: l, r, h => by
    simp only [List.mapM_cons, Option.bind_eq_bind, Option.bind_eq_some_iff, Option.pure_def, Option.some.injEq] at h
    obtain ⟨y, hy, r', hr', rfl⟩ := h
    obtain ⟨h1, h2⟩ := mapM_get f l r' hr'
    refine ⟨by simp [h1], fun k d hk => ?_⟩
    rcases k with _ | k
    · simp at hk; subst hk; exact ⟨x, rfl, hy⟩
    · exact h2 k d (by simpa using hk)

/-- The numbers of the blocks that reading comes to. -/
def vis (H : Nat → Option HO) : Nat → AV → List Nat
  | 0, _ => []
  | n + 1, x => match x with
    | .own id off len sz => match H id with
      | some (.cells _ cs) => id :: ((cs.drop (off * sz)).take (len * sz)).flatMap (vis H n)
      | _ => []
    | .ag cs => cs.flatMap (vis H n)
    | .tp cs => cs.flatMap (vis H n)
    | _ => []

def viss (H : Nat → Option HO) (l : List AV) : List Nat := l.flatMap (vis H 8)

/-- The blocks that reading may reach. -/
def reach (F : Nat → Prop) (ι : Nat → Option Nat) (l : List Nat) : Nat → Prop := fun b => F b ∨ ∃ id ∈ l, ι id = some b

section
variable {P : Program} {F : Nat → Prop} {w : World} {ι : Nat → Option Nat} {G : Ctx} {C : Nat → Prop} {H K : Nat → Option HO}

theorem reach_mono {l l' : List Nat} (h : ∀ id ∈ l, id ∈ l') : ∀ b, reach F ι l b → reach F ι l' b := by
  rintro b (hb | ⟨id, hi, hb⟩)
  · exact .inl hb
  · exact .inr ⟨id, h id hi, hb⟩

theorem frz_V (hR : HR G F w ι C K) (hHK : ∀ id o, H id = some o → K id = some o) : ∀ (n : Nat) (x : AV) (v : Value) (d : D), frz H n x = some d → V F w ι x v →
    VD (reach F ι (vis H n x)) w d v ∧ ∀ id ∈ vis H n x, ∃ b, ι id = some b
  | 0, x, v, d, h, _ => by simp [frz] at h
  | n + 1, x, v, d, h, hv => by
    have ih := frz_V hR hHK n
    unfold frz at h
    have cellsV : ∀ (cs : List AV) (l : List D) (vs : Array Value), cs.length = vs.size → cs.mapM (frz H n) = some l → (∀ (k : Nat) c u, cs[k]? = some c → vs[k]? = some u → V F w ι c u) →
        (∀ (k : Nat) d u, l[k]? = some d → vs[k]? = some u → VD (reach F ι (cs.flatMap (vis H n))) w d u) ∧ ∀ id ∈ cs.flatMap (vis H n), ∃ b, ι id = some b := by
      intro cs l vs hlen hm hv
      obtain ⟨h1, h2⟩ := mapM_get _ _ _ hm
      refine ⟨fun k d u hk hu => ?_, fun id hid => ?_⟩
      · obtain ⟨c, hc, hd⟩ := h2 k d hk
        exact (ih c u d hd (hv k c u hc hu)).1.mono (reach_mono fun id hid => List.mem_flatMap.2 ⟨c, List.mem_of_getElem? hc, hid⟩)
      · obtain ⟨c, hc, hid⟩ := List.mem_flatMap.1 hid
        obtain ⟨k, hk, rfl⟩ := List.mem_iff_getElem.1 hc
        have hk' : k < vs.size := by omega
        have hk2 : k < l.length := by omega
        obtain ⟨c', hc', hd⟩ := h2 k _ (List.getElem?_eq_getElem hk2)
        rw [List.getElem?_eq_getElem hk] at hc'; injection hc' with hc'; subst hc'
        exact (ih _ _ _ hd (hv k _ _ (List.getElem?_eq_getElem hk) (Array.getElem?_eq_getElem hk'))).2 id hid
    split at h
    · injection h with h; subst h
      cases hv with | d _ _ hh => exact ⟨hh.mono fun b hb => .inl hb, fun id hid => by simp [vis] at hid⟩
    · injection h with h; subst h
      cases hv; exact ⟨.sl0 _ _, fun id hid => by simp [vis] at hid⟩
    · injection h with h; subst h
      obtain ⟨ad, rfl, hh⟩ := V_fd_len hv
      exact ⟨hh.mono fun b hb => .inl hb, fun id hid => by simp [vis] at hid⟩
    · rename_i id off len sz
      split at h
      · rename_i e cs hH
        split at h
        · rename_i hfit
          obtain ⟨hfit, hpos⟩ := hfit
          obtain ⟨l, hl, rfl⟩ := Option.map_eq_some_iff.1 h
          cases hv with | own _ _ _ _ b cap cur0 e0 hι hb0 hcap hlc hm =>
          obtain ⟨cur, hb, hcl, hcc⟩ := hR.cells hHK hι hH
          obtain ⟨hll, hlg⟩ := mapM_get _ _ _ hl
          have hfit' : off * sz + len * sz ≤ cs.length := by rw [← Nat.add_mul]; exact hfit
          have hlen : l.length = len * sz := by rw [hll]; simp; omega
          have hvis : vis H (n + 1) (.own id off len sz) = id :: ((cs.drop (off * sz)).take (len * sz)).flatMap (vis H n) := by simp [vis, hH]
          rw [hvis]
          refine ⟨.sl _ _ _ _ sz (fun j => cur.getD (off * sz + j) undef) (by simp [chunk]) hlc ?_ (.inr ⟨id, by simp, hι⟩) (fun j hj => ?_) (fun j k ds d hj hk => ?_), fun i hi => ?_⟩
          · intro ds hds
            simp only [chunk, List.mem_map, List.mem_range] at hds
            obtain ⟨i, hi, rfl⟩ := hds
            rw [List.length_take, List.length_drop, hlen]
            have : (i + 1) * sz ≤ len * sz := Nat.mul_le_mul_right _ hi
            rw [Nat.add_mul, Nat.one_mul] at this
            omega
          · rw [add_mk, cell_of_row w b _ cur e (0, 0) hb, Array.getElem?_eq_getElem (by omega)]
            simp [show off * sz + j < cur.size by omega]
          · have hjl : j < len := by have := (List.getElem?_eq_some_iff.1 hj).1; simpa [chunk] using this
            simp only [chunk, List.getElem?_map, List.getElem?_range hjl, Option.map_some, Option.some.injEq] at hj
            subst hj
            rw [List.getElem?_take] at hk
            split at hk
            · rename_i hks
              rw [List.getElem?_drop] at hk
              obtain ⟨c, hc, hd⟩ := hlg _ _ hk
              have hmem := List.mem_of_getElem? hc
              rw [List.getElem?_take] at hc
              split at hc
              · rw [List.getElem?_drop] at hc
                obtain ⟨u, hu, hvv⟩ := hcc _ _ hc
                have hlt := (Array.getElem?_eq_some_iff.1 hu).1
                rw [Array.getElem?_eq_getElem hlt] at hu
                injection hu with hu
                have := (ih c u d hd hvv).1.mono (reach_mono (F := F) (ι := ι) (l' := id :: ((cs.drop (off * sz)).take (len * sz)).flatMap (vis H n)) fun i hi => List.mem_cons_of_mem _ (List.mem_flatMap.2 ⟨c, hmem, hi⟩))
                rw [← hu] at this
                simpa [hlt] using this
              · cases hc
            · cases hk
          · rcases List.mem_cons.1 hi with rfl | hi
            · exact ⟨b, hι⟩
            · obtain ⟨c, hc, hid⟩ := List.mem_flatMap.1 hi
              obtain ⟨k, hk, hck⟩ := List.mem_iff_getElem.1 hc
              have hk2 : k < l.length := by rw [hll]; exact hk
              obtain ⟨c', hc', hd⟩ := hlg k _ (List.getElem?_eq_getElem hk2)
              have hce : c' = c := by rw [List.getElem?_eq_getElem hk] at hc'; injection hc' with hc'; rw [← hc', hck]
              subst hce
              rw [List.getElem?_take] at hc'
              split at hc'
              · rw [List.getElem?_drop] at hc'
                obtain ⟨u, hu, hvv⟩ := hcc _ _ hc'
                exact (ih _ _ _ hd hvv).2 i hid
              · cases hc'
        · cases h
      · cases h
    · obtain ⟨l, hl, rfl⟩ := Option.map_eq_some_iff.1 h
      cases hv with | ag _ vs hvl hh =>
      obtain ⟨q1, q2⟩ := cellsV _ l vs hvl hl hh
      exact ⟨.ag _ _ (by rw [(mapM_get _ _ _ hl).1]; exact hvl) q1, q2⟩
    · obtain ⟨l, hl, rfl⟩ := Option.map_eq_some_iff.1 h
      cases hv with | tp _ vs hvl hh =>
      obtain ⟨q1, q2⟩ := cellsV _ l vs hvl hl hh
      exact ⟨.tp _ _ (by rw [(mapM_get _ _ _ hl).1]; exact hvl) q1, q2⟩
    · cases h
end

/-- A contract: called with arguments that read as these data, the function returns what reads as r; nothing that was there has turned. -/
def Spec (P : Program) (f : FuncId) (args : List D) (r : D) : Prop :=
  ∀ (A : Nat → Prop) (W : World) (vs : Array Value), (∀ b, A b → b < W.heap.size) → args.length = vs.size → (∀ (k : Nat) d v, args[k]? = some d → vs[k]? = some v → VD A W d v) →
    (∀ w, (callFunc f vs).run P w = .ok (.enter f vs) w) ∧
    Calls P f vs W fun e W' => ∃ v, e = .returned v ∧ Below W.heap.size W W' ∧ VD (fun b => A b ∨ (W.heap.size ≤ b ∧ b < W'.heap.size)) W' r v

def inj1 : D → AV
  | .ag cs => .ag (cs.map .d)
  | x => .d x

def inj : D → AV
  | .tp vs => .tp (vs.map inj1)
  | x => inj1 x

/-- Data without memory. -/
def flat1 : D → Bool
  | .b _ | .i _ _ => true
  | _ => false

def flat : D → Bool
  | .tp vs => vs.all flat1
  | x => flat1 x

section
variable {P : Program} {F : Nat → Prop} {w : World} {ι : Nat → Option Nat} {G : Ctx} {C : Nat → Prop} {H K : Nat → Option HO}

theorem V_inj1 {x : D} {v : Value} (h : VD F w x v) : V F w ι (inj1 x) v := by
  unfold inj1
  split
  · cases h with | ag cs vs hl hh => exact .ag _ _ (by simpa using hl) (V_map_d hh)
  · exact .d _ _ h

theorem V_inj {x : D} {v : Value} (h : VD F w x v) : V F w ι (inj x) v := by
  unfold inj
  split
  · cases h with
    | tp cs vs hl hh =>
      refine .tp _ _ (by simpa using hl) fun k c u hc hu => ?_
      rw [List.getElem?_map] at hc
      obtain ⟨d, hd, rfl⟩ := Option.map_eq_some_iff.1 hc
      exact V_inj1 (hh k d u hd hu)
  · exact V_inj1 h

theorem flat1_V {x : D} {v : Value} {F' : Nat → Prop} {w' : World} (hf : flat1 x = true) (h : VD F w x v) : VD F' w' x v := by
  cases h <;> first | exact .b _ | exact .i _ _ | (simp [flat1] at hf; done)

theorem flat_V {x : D} {v : Value} {F' : Nat → Prop} {w' : World} (hf : flat x = true) (h : VD F w x v) : VD F' w' x v := by
  cases h with
  | tp cs vs hl hh => exact .tp _ _ hl fun k c u hc hu => flat1_V (by simp only [flat] at hf; exact List.all_eq_true.1 hf _ (List.mem_of_getElem? hc)) (hh k c u hc hu)
  | b x => exact .b _
  | i k n => exact .i _ _
  | _ => simp [flat, flat1] at hf

/-- What a call leaves. -/
theorem HR.call (hR : HR G F w ι C K) {w' : World} (hb : Below w.heap.size w w') (kills : List Nat) (hk : ∀ id ∈ kills, ¬ C id) :
    HR G (fun b => F b ∨ (∃ id ∈ kills, ι id = some b) ∨ (w.heap.size ≤ b ∧ b < w'.heap.size)) w' ι (fun id => C id ∨ id ∈ kills) K ∧
    Step F w ι (fun b => F b ∨ (∃ id ∈ kills, ι id = some b) ∨ (w.heap.size ≤ b ∧ b < w'.heap.size)) w' ι := by
  have hs : Step F w ι (fun b => F b ∨ (∃ id ∈ kills, ι id = some b) ∨ (w.heap.size ≤ b ∧ b < w'.heap.size)) w' ι :=
    ⟨fun _ h => .inl h, fun b h => hb.block b (hR.F_lt b h), fun _ _ h => h, fun id b cur e hi h => ⟨cur, (hb.block b (hR.ι_lt hi)).trans h, rfl⟩⟩
  have hsz := hb.size
  have hW : G.W.heap.size ≤ w.heap.size := hR.kept.size
  refine ⟨⟨hR.kept.trans (.below hb hW), ?_, ?_, ?_, ?_, ?_, ?_⟩, hs⟩
  · rintro b (h | ⟨id, _, h⟩ | h)
    · have := hR.F_lt b h; omega
    · have := hR.ι_lt h; omega
    · exact h.2
  · rintro b (h | ⟨id, _, h⟩ | h)
    · exact hR.F_ok b h
    · exact .inr (hR.place id b h).1
    · exact .inr (.inr (by omega))
  · intro id b h
    obtain ⟨h1, h2, h3⟩ := hR.place id b h
    refine ⟨h1, by omega, fun hc hF => ?_⟩
    rcases hF with hF | ⟨id', hi, hF⟩ | hF
    · exact h3 (fun x => hc (.inl x)) hF
    · exact hc (.inr ((hR.inj id id' b h hF (fun x => hc (.inl x)) (hk id' hi)) ▸ hi))
    · omega
  · intro id b o h ho
    obtain ⟨ob, h2, h3⟩ := hR.obj id b o h ho
    exact ⟨ob, (hb.block b (hR.ι_lt h)).trans h2, h3.step hs⟩
  · exact fun id id' b h h' hc hc' => hR.inj id id' b h h' (fun x => hc (.inl x)) fun x => hc' (.inl x)
  · exact fun id id' b o o' h h' hc => hR.len id id' b o o' h h' fun x => hc (.inl x)

variable {Γ : Nat → AV} {o : Oper}

theorem frzs_V (hR : HR G F w ι C K) (hHK : ∀ id o, H id = some o → K id = some o) {args : List Operand} {a : Act} {ds : List D} (hf : frzs H (args.map (oev Γ)) = some ds)
    (hop : ∀ x ∈ args, V F w ι (oev Γ x) (a.eval x)) : ds.length = (args.map a.eval).toArray.size ∧
      (∀ (k : Nat) d v, ds[k]? = some d → (args.map a.eval).toArray[k]? = some v → VD (reach F ι (viss H (args.map (oev Γ)))) w d v) ∧ ∀ id ∈ viss H (args.map (oev Γ)), ∃ b, ι id = some b := by
  obtain ⟨h1, h2⟩ := mapM_get _ _ _ hf
  refine ⟨by simpa using h1, fun k d v hk hv => ?_, fun id hid => ?_⟩
  · obtain ⟨c, hc, hd⟩ := h2 k d hk
    have hmem := List.mem_of_getElem? hc
    simp only [List.getElem?_map, List.getElem?_toArray] at hc hv
    cases hx : args[k]? with
    | none => simp [hx] at hc
    | some x =>
      simp only [hx, Option.map_some, Option.some.injEq] at hc hv
      subst hc; subst hv
      exact (frz_V hR hHK _ _ _ _ hd (hop x (List.mem_of_getElem? hx))).1.mono (reach_mono fun id hid => List.mem_flatMap.2 ⟨_, hmem, hid⟩)
  · obtain ⟨c, hc, hid⟩ := List.mem_flatMap.1 hid
    obtain ⟨k, hk, hck⟩ := List.mem_iff_getElem.1 hc
    have hk2 : k < ds.length := by omega
    obtain ⟨c', hc', hd⟩ := h2 k _ (List.getElem?_eq_getElem hk2)
    rw [List.getElem?_eq_getElem hk] at hc'; injection hc' with hc'
    rw [← hc', hck] at hd
    rw [List.getElem_map] at hck
    rw [← hck] at hd hid
    exact (frz_V hR hHK _ _ _ _ hd (hop _ (List.getElem_mem _))).2 id hid

/-- What a call uses up: all that its arguments reach; nothing, where the result holds no memory. -/
def killsOf (H : Nat → Option HO) (args : List AV) (r : D) : List Nat := if flat r then [] else viss H args

theorem y_call {f : FuncId} {args : Array Operand} {ts : Array TypeId} {ds : List D} {r : D} (ho : o.op = .call { callee := .value (.func f), args := args, argTypes := ts })
    (hHK : ∀ id ob, H id = some ob → K id = some ob) (hargs : frzs H (args.toList.map (oev Γ)) = some ds) (hs : Spec P f ds r) (hk : ∀ id ∈ killsOf H (args.toList.map (oev Γ)) r, ¬ C id) :
    Y P G o Γ C K K (inj r) none' (fun i => i ∈ killsOf H (args.toList.map (oev Γ)) r) := by
  intro F w ι a hR hop _ next Q hnext
  have hop' : ∀ x ∈ args.toList, V F w ι (oev Γ x) (a.eval x) := fun x hx => V_oev fun t e => hop t (by rw [ho]; subst e; simp [Op.operands, Call.operands]; simpa using hx)
  have hmap : args.map a.eval = (args.toList.map a.eval).toArray := by cases args; simp
  obtain ⟨hl, hV, _⟩ := frzs_V hR hHK hargs hop'
  rw [← hmap] at hl hV
  obtain ⟨hent, hcalls⟩ := hs (reach F ι (viss H (args.toList.map (oev Γ)))) w (args.map a.eval) (by
    rintro b (h | ⟨id, _, h⟩)
    · exact hR.F_lt b h
    · exact hR.ι_lt h) hl hV
  unfold Oper.wp
  have hfe : a.eval (.func f) = .func (.func f) #[] #[] := rfl
  simp only [execOp, ho, resolve, invoke, Sem.run_bind, hfe, Deferred.ofValue, Sem.run_pure, Result.andThen_ok, Array.empty_append, Array.append_empty, hent, Oper.upon_enter]
  refine hcalls.mono ?_
  rintro e w' ⟨v, rfl, hb, hv⟩
  obtain ⟨hR', hst⟩ := hR.call hb (killsOf H (args.toList.map (oev Γ)) r) hk
  refine hnext _ w' ι v hR' hst (fun _ _ h => .inl h) (fun _ h => h.elim) (V_inj ?_)
  by_cases hf : flat r = true
  · exact flat_V hf hv
  · refine hv.mono fun b hb' => ?_
    rcases hb' with (h | ⟨id, h, hx⟩) | h
    · exact .inl h
    · exact .inr (.inl ⟨id, by simpa [killsOf, hf] using h, hx⟩)
    · exact .inr (.inr h)

/-- What a call uses up is there. -/
theorem call_live {args : Array Operand} {ds : List D} {r : D} {a : Act} (hR : HR G F w ι C K) (hHK : ∀ id ob, H id = some ob → K id = some ob) (hargs : frzs H (args.toList.map (oev Γ)) = some ds)
    (hop : ∀ x ∈ args.toList, V F w ι (oev Γ x) (a.eval x)) : ∀ id ∈ killsOf H (args.toList.map (oev Γ)) r, ∃ b, ι id = some b := by
  intro id hid
  unfold killsOf at hid
  split at hid
  · cases hid
  · exact (frzs_V hR hHK hargs hop).2.2 id hid

/-- A store into a block of the call's own; what has been used up is forgotten. -/
def storeA (P : Program) (H : Nat → Option HO) (t : TypeId) (ad x : AV) : Option (Nat × HO) :=
  match ad with
  | .ptr id off => match H id with
    | some (.cells e cs) => (cellsA x).bind fun vs => (tsz P t).bind fun sz => if vs.length = sz ∧ off + sz ≤ cs.length then some (id, .cells e (lay cs off vs)) else none
    | _ => none
  | _ => none

theorem storeA_len {t : TypeId} {ad x : AV} {id : Nat} {ho : HO} (h : storeA P H t ad x = some (id, ho)) : ∃ o, H id = some o ∧ ho.len = o.len := by
  unfold storeA at h
  split at h
  · split at h
    · rename_i hH
      obtain ⟨vs, hvs, h⟩ := Option.bind_eq_some_iff.1 h
      obtain ⟨sz, hsz, h⟩ := Option.bind_eq_some_iff.1 h
      split at h
      · rename_i hc
        injection h with h; injection h with h1 h2; subst h1; subst h2
        exact ⟨_, hH, by simp only [HO.len]; exact lay_length (by omega)⟩
      · cases h
    · cases h
  · cases h

theorem y_store {t : TypeId} {ad x : Operand} {id : Nat} {ho : HO} {K' : Nat → Option HO} (hop_ : o.op = .store t ad x) (hHK : ∀ id ob, H id = some ob → K id = some ob)
    (h : storeA P H t (oev Γ ad) (oev Γ x) = some (id, ho)) (hC : ¬ C id) (hK' : K' id = some ho) (hsub : ∀ j o, j ≠ id → K' j = some o → K j = some o ∧ ¬ C j) :
    Y P G o Γ C K K' .un none' none' := by
  intro F w ι a hR hop _ next Q hnext
  have oa : V F w ι (oev Γ ad) (a.eval ad) := V_oev fun t e => hop t (by rw [hop_]; simp [Op.operands, e])
  have ox : V F w ι (oev Γ x) (a.eval x) := V_oev fun t e => hop t (by rw [hop_]; simp [Op.operands, e])
  unfold storeA at h
  split at h
  case h_2 => cases h
  rename_i id' off hadd
  split at h
  case h_2 => cases h
  rename_i e cs hH
  obtain ⟨vs, hvs, h⟩ := Option.bind_eq_some_iff.1 h
  obtain ⟨sz, hsz, h⟩ := Option.bind_eq_some_iff.1 h
  split at h
  case isFalse => cases h
  rename_i hc
  obtain ⟨hvl, hfit⟩ := hc
  injection h with h; injection h with h1 h2; subst h1; subst h2
  rw [hadd] at oa
  generalize hav : a.eval ad = av at oa
  cases oa with | ptr _ _ b hι =>
  have hcv := cellsA_V hvs ox
  obtain ⟨cur, hb, hl, hcc⟩ := hR.cells hHK hι hH
  have hus : (a.eval x).cells.toList.length = sz := by have := hcv.1; simp; omega
  have hrun : (storeCells ⟨b, off, none⟩ (a.eval x).cells.toList 0).run P w = _ := run_storeCells_at P b off e (a.eval x).cells.toList 0 cur w hb (by omega) (fun v hv => hcv.2.2 v (by simpa using hv))
  simp only [Nat.add_zero] at hrun
  have hset := setRow_heap w b cur (cur.toList.take off ++ (a.eval x).cells.toList ++ cur.toList.drop (off + (a.eval x).cells.toList.length)).toArray e (0, 0) hb
  have hnF : ¬ F b := (hR.place id' b hι).2.2 hC
  have hoth : ∀ k, k ≠ b → (w.setRow b (cur.toList.take off ++ (a.eval x).cells.toList ++ cur.toList.drop (off + (a.eval x).cells.toList.length)).toArray).heap[k]? = w.heap[k]? := fun k hk => setRow_other w b k _ hk
  have hsize : (cur.toList.take off ++ (a.eval x).cells.toList ++ cur.toList.drop (off + (a.eval x).cells.toList.length)).toArray.size = cur.size := by
    have : (a.eval x).cells.size = sz := by simpa using hus
    simp only [List.size_toArray, List.length_append, List.length_take, List.length_drop, Array.length_toList]; omega
  have hlen2 : (cur.toList.take off ++ (a.eval x).cells.toList).length = off + sz := by
    rw [List.length_append, hus, List.length_take, Array.length_toList]; omega
  generalize hcur' : (cur.toList.take off ++ (a.eval x).cells.toList ++ cur.toList.drop (off + (a.eval x).cells.toList.length)).toArray = cur' at *
  have hst : Step F w ι F (w.setRow b cur') ι := by
    refine ⟨fun _ h => h, fun k hk => hoth k (fun e => hnF (e ▸ hk)), fun _ _ h => h, fun i k c0 e0 hi hk => ?_⟩
    by_cases hkb : k = b
    · subst hkb
      rw [hb] at hk; injection hk with hk; injection hk with h1 h2; subst h1; subst h2
      exact ⟨cur', hset, hsize⟩
    · exact ⟨c0, (hoth k hkb).trans hk, rfl⟩
  unfold Oper.wp
  have hne : ¬ ((a.eval x).cells.size ≠ sz) := by have := hcv.1; omega
  simp only [execOp, hop_, Sem.run_bind, Instr.storeAt, hav, Instr.sureAddr, Sem.run_pure, Result.andThen_ok, storeVar, run_sizeOf w hsz, hne, if_false, hrun, Oper.upon_skip]
  refine hnext F _ ι undef ?_ hst (fun _ _ h => .inl h) (fun _ h => h.elim) .un
  refine HR.congrC (C := C) ⟨hR.kept.trans ⟨rfl, rfl, rfl, by simp, fun k hk hm => hoth k fun e => ?_⟩, fun k hk => by rw [size_setRow]; exact hR.F_lt k hk, hR.F_ok, fun i k hi => ?_, ?_, hR.inj, ?_⟩ (fun id => by simp [none'])
  · subst e
    rcases (hR.place id' k hι).1 with h | h
    · exact hm h
    · omega
  · rw [size_setRow]; exact hR.place i k hi
  · intro i k o' hi ho'
    by_cases hid : i = id'
    · subst hid
      rw [hι] at hi; injection hi with hi; subst hi
      rw [hK'] at ho'; injection ho' with ho'; subst ho'
      refine ⟨_, hset, .cells _ _ _ (by rw [lay_length (by omega), hsize]; exact hl) fun j c hj => ?_⟩
      rw [lay_get (by omega)] at hj
      split at hj
      · rename_i hjj
        obtain ⟨u, hu, hv⟩ := hcv.get hj
        refine ⟨u, ?_, hv.step hst⟩
        rw [← hcur', List.getElem?_toArray, List.getElem?_append_left (by simp; omega), List.getElem?_append_right (by simp; omega), List.length_take, Array.length_toList, Nat.min_eq_left (by omega), Array.getElem?_toList]
        exact hu
      · rename_i hjj
        obtain ⟨u, hu, hv⟩ := hcc j c hj
        have hjl : j < cs.length := (List.getElem?_eq_some_iff.1 hj).1
        refine ⟨u, ?_, hv.step hst⟩
        rw [← hcur', List.getElem?_toArray]
        by_cases hjo : j < off
        · rw [List.append_assoc, List.getElem?_append_left (by simp; omega), List.getElem?_take, if_pos hjo, Array.getElem?_toList]; exact hu
        · rw [List.getElem?_append_right (by omega), hlen2, List.getElem?_drop, Array.getElem?_toList, hus]
          rw [← hu]; congr 1; omega
    · obtain ⟨hk1, hk2⟩ := hsub i o' hid ho'
      obtain ⟨ob, h2, h3⟩ := hR.obj i k o' hi hk1
      refine ⟨ob, (hoth k fun e => ?_).trans h2, h3.step hst⟩
      subst e
      exact hid (hR.inj i id' k hi hι hk2 hC)
  · intro i i' k o1 o2 hi hi' hc h1 h2
    have hlay : (HO.cells e (lay cs off vs)).len = (HO.cells e cs).len := by simp only [HO.len]; exact lay_length (by omega)
    have hk1 : ∃ q1, K i = some q1 ∧ q1.len = o1.len := by
      by_cases hid : i = id'
      · subst hid; rw [hK'] at h1; injection h1 with h1; subst h1; exact ⟨_, hHK _ _ hH, hlay.symm⟩
      · exact ⟨o1, (hsub i o1 hid h1).1, rfl⟩
    have hk2 : ∃ q2, K i' = some q2 ∧ q2.len = o2.len := by
      by_cases hid : i' = id'
      · subst hid; rw [hK'] at h2; injection h2 with h2; subst h2; exact ⟨_, hHK _ _ hH, hlay.symm⟩
      · exact ⟨o2, (hsub i' o2 hid h2).1, rfl⟩
    obtain ⟨q1, e1, l1⟩ := hk1
    obtain ⟨q2, e2, l2⟩ := hk2
    rw [← l1, ← l2]
    exact hR.len i i' k q1 q2 hi hi' hc e1 e2
end

end Go.Am
