/- The abstract machine, part 11c: contracts of calls that write into one block of the caller's; the keys of a map, sorted. No condition. -/
import Derived.Test.YtmnjglpieghdkaaAm11b
namespace Go.Am
open RowKit (Below)

def noh0 : AV → Bool
  | .d _ | .nil | .fp _ | .fd _ | .un | .ub | .any => true
  | _ => false

/-- No number of a block of the call's own is named. -/
def noh : AV → Bool
  | .ag cs => cs.all noh0
  | x => noh0 x

def nohO : HO → Bool
  | .cells _ cs => cs.all noh
  | .map _ es => es.all fun p => noh p.2

section
variable {P : Program} {F : Nat → Prop} {w : World} {ι : Nat → Option Nat} {G : Ctx} {C : Nat → Prop} {H K : Nat → Option HO}

theorem V_noh0 {x : AV} {v : Value} {ι' : Nat → Option Nat} (hn : noh0 x = true) (h : V F w ι x v) : V F w ι' x v := by
  cases h with
  | d x v h => exact .d _ _ h
  | nil => exact .nil
  | fp cs ad f hF hcell hel => exact .fp _ _ f hF hcell hel
  | fd els ad n h => exact .fd _ _ _ h
  | un => exact .un
  | ub t => exact .ub t
  | any v => exact .any v
  | _ => cases hn

theorem V_noh {x : AV} {v : Value} {ι' : Nat → Option Nat} (hn : noh x = true) (h : V F w ι x v) : V F w ι' x v := by
  cases h with
  | ag cs vs hl h => exact .ag _ _ hl fun k c v hc hv => V_noh0 (List.all_eq_true.1 hn c (List.mem_of_getElem? hc)) (h k c v hc hv)
  | d x v h => exact .d _ _ h
  | nil => exact .nil
  | fp cs ad f hF hcell hel => exact .fp _ _ f hF hcell hel
  | fd els ad n h => exact .fd _ _ _ h
  | un => exact .un
  | ub t => exact .ub t
  | any v => exact .any v
  | _ => cases hn

theorem CR_noh {o : HO} {ob : Obj} {ι' : Nat → Option Nat} (hn : nohO o = true) (h : CR F w ι o ob) : CR F w ι' o ob := by
  cases h with
  | cells e cs cur hl h => exact .cells _ _ _ hl fun k c hk => let ⟨u, h1, h2⟩ := h k c hk; ⟨u, h1, V_noh (List.all_eq_true.1 hn c (List.mem_of_getElem? hk)) h2⟩
  | map k es ents clock hl hst h => exact .map _ _ _ _ hl hst fun j x hj => let ⟨en, h1, h2, h3⟩ := h j x hj; ⟨en, h1, h2, V_noh (List.all_eq_true.1 hn x (List.mem_of_getElem? hj)) h3⟩

theorem mapM_novis {f g : AV → Option D} {v v' : AV → List Nat} : ∀ (l : List AV) (ds : List D), l.mapM f = some ds → l.flatMap v = [] → (∀ x ∈ l, ∀ d, f x = some d → v x = [] → g x = some d ∧ v' x = []) → l.mapM g = some ds ∧ l.flatMap v' = []
  | [], ds, h, _, _ => by simpa using h
  | x :: l, ds, h, hv, ih => by
    simp only [List.mapM_cons, Option.bind_eq_bind, Option.bind_eq_some_iff, Option.pure_def, Option.some.injEq] at h
    obtain ⟨y, hy, r', hr', rfl⟩ := h
    simp only [List.flatMap_cons, List.append_eq_nil_iff] at hv
    obtain ⟨h1, h2⟩ := ih x (List.mem_cons_self ..) y hy hv.1
    obtain ⟨h3, h4⟩ := mapM_novis l r' hr' hv.2 fun x hx => ih x (List.mem_cons_of_mem _ hx)
    exact ⟨by simp [h1, h3], by simp [h2, h4]⟩

theorem frz_novis {H H' : Nat → Option HO} : ∀ (n : Nat) (x : AV) (d : D), frz H n x = some d → vis H n x = [] → frz H' n x = some d ∧ vis H' n x = []
  | 0, _, _, h, _ => by cases h
  | n + 1, x, d, h, hv => by
    cases x with
    | d y => exact ⟨h, rfl⟩
    | nil => exact ⟨h, rfl⟩
    | fd els => exact ⟨h, rfl⟩
    | own id off len sz =>
      exfalso
      simp only [frz] at h
      simp only [vis] at hv
      split at h
      · rename_i hH; rw [hH] at hv; cases hv
      · cases h
    | ag cs =>
      simp only [frz, vis] at h hv ⊢
      obtain ⟨l, hl, rfl⟩ := Option.map_eq_some_iff.1 h
      obtain ⟨h1, h2⟩ := mapM_novis cs l hl hv fun x _ d hx hv => frz_novis n x d hx hv
      exact ⟨by rw [h1]; rfl, h2⟩
    | tp cs =>
      simp only [frz, vis] at h hv ⊢
      obtain ⟨l, hl, rfl⟩ := Option.map_eq_some_iff.1 h
      obtain ⟨h1, h2⟩ := mapM_novis cs l hl hv fun x _ d hx hv => frz_novis n x d hx hv
      exact ⟨by rw [h1]; rfl, h2⟩
    | _ => cases h

theorem frzs_novis {H H' : Nat → Option HO} {l : List AV} {ds : List D} (hv : viss H l = []) (h : frzs H l = some ds) : frzs H' l = some ds ∧ viss H' l = [] :=
  mapM_novis l ds h hv fun x _ d hx hv => frz_novis 8 x d hx hv

/-- One block only: number 0. -/
def ι1 (b : Nat) : Nat → Option Nat := fun id => if id = 0 then some b else none

def hd1 : AV → Option (Nat × AV)
  | .mp id => some (id, .mp 0)
  | .own id off len sz => some (id, .own 0 off len sz)
  | .ptr id off => some (id, .ptr 0 off)
  | _ => none

theorem hd1_V {F' : Nat → Prop} {x h : AV} {id : Nat} {v : Value} (he : hd1 x = some (id, h)) (hv : V F w ι x v) : ∃ b, ι id = some b ∧ V F' w (ι1 b) h v := by
  unfold hd1 at he
  split at he <;> first | (cases he; done) | (injection he with he; injection he with e1 e2; subst e1; subst e2)
  · cases hv with | mp _ b hι => exact ⟨b, hι, .mp _ _ rfl⟩
  · cases hv with | own _ _ _ _ b cap cur e hι hb hcap hl hm => exact ⟨b, hι, .own _ _ _ _ b cap cur e rfl hb hcap hl hm⟩
  · cases hv with | ptr _ _ b hι => exact ⟨b, hι, .ptr _ _ _ rfl⟩

/-- A contract of a function that writes into one block, which its first argument names. -/
def OSpec (P : Program) (f : FuncId) (h : AV) (o : HO) (ds : List D) (o' : HO) (r : D) : Prop :=
  ∀ (A : Nat → Prop) (W : World) (vs : Array Value) (b : Nat), (∀ k, A k → k < W.heap.size) → ¬ A b → b < W.heap.size → (∃ ob, W.heap[b]? = some ob ∧ CR A W (ι1 b) o ob) → ds.length + 1 = vs.size →
    (∃ v, vs[0]? = some v ∧ V A W (ι1 b) h v) → (∀ (k : Nat) d v, ds[k]? = some d → vs[k + 1]? = some v → VD A W d v) →
    (∀ w, (callFunc f vs).run P w = .ok (.enter f vs) w) ∧ Calls P f vs W fun e w' => ∃ v ob', e = .returned v ∧ Kept (· = b) W.heap.size W w' ∧ w'.heap[b]? = some ob' ∧
      (∀ cur e, W.heap[b]? = some (.cells cur e (0, 0)) → ∃ cur', ob' = .cells cur' e (0, 0) ∧ cur'.size = cur.size) ∧
      CR (fun k => A k ∨ (W.heap.size ≤ k ∧ k < w'.heap.size)) w' (ι1 b) o' ob' ∧ VD (fun k => A k ∨ (W.heap.size ≤ k ∧ k < w'.heap.size)) w' r v

variable {Γ : Nat → AV} {o : Oper}

theorem y_ocall {f : FuncId} {args : Array Operand} {ts : Array TypeId} {x : Operand} {rest : List Operand} {ds : List D} {id : Nat} {h : AV} {ho ho' : HO} {r : D} {K' : Nat → Option HO}
    (hop_ : o.op = .call { callee := .value (.func f), args := args, argTypes := ts }) (hargs : args.toList = x :: rest) (hHK : ∀ id ob, H id = some ob → K id = some ob)
    (hx : hd1 (oev Γ x) = some (id, h)) (hH : H id = some ho) (hno : nohO ho = true) (hvis : viss H (rest.map (oev Γ)) = []) (hf : frzs H (rest.map (oev Γ)) = some ds) (hs : OSpec P f h ho ds ho' r)
    (hlen : ho'.len = ho.len) (hno' : nohO ho' = true) (hC : ¬ C id) (hK' : K' id = some ho') (hsub : ∀ j o, j ≠ id → K' j = some o → K j = some o ∧ ¬ C j) : Y P G o Γ C K K' (inj r) none' none' := by
  intro F w ι a hR hop _ next Q hnext
  have hargs' : args = (x :: rest).toArray := by rw [← hargs]
  have hop' : ∀ y ∈ x :: rest, V F w ι (oev Γ y) (a.eval y) := fun y hy => V_oev fun t e => hop t (by rw [hop_]; subst e; simp only [Op.operands, Call.operands]; rw [hargs']; simpa using hy)
  obtain ⟨b, hι, hv0⟩ := hd1_V (F' := F) hx (hop' x (List.mem_cons_self ..))
  obtain ⟨ob, hb, hcr⟩ := hR.obj id b ho hι (hHK _ _ hH)
  obtain ⟨hl, hV, _⟩ := frzs_V hR hHK hf fun y hy => hop' y (List.mem_cons_of_mem _ hy)
  have hmap : args.map a.eval = (a.eval x :: rest.map a.eval).toArray := by rw [hargs']; simp
  have hnF : ¬ F b := (hR.place id b hι).2.2 hC
  obtain ⟨hent, hcalls⟩ := hs F w (args.map a.eval) b hR.F_lt hnF (hR.ι_lt hι) ⟨ob, hb, CR_noh hno hcr⟩ (by rw [hmap]; simp at hl ⊢; omega) ⟨a.eval x, by rw [hmap]; simp, hv0⟩
    (fun k d v hk hv => (hV k d v hk (by rw [hmap] at hv; simpa using hv)).mono fun c hc => by
      rcases hc with hc | ⟨i, hi, _⟩
      · exact hc
      · rw [hvis] at hi; cases hi)
  unfold Oper.wp
  have hfe : a.eval (.func f) = .func (.func f) #[] #[] := rfl
  simp only [execOp, hop_, resolve, invoke, Sem.run_bind, hfe, Deferred.ofValue, Sem.run_pure, Result.andThen_ok, Array.empty_append, Array.append_empty, hent, Oper.upon_enter]
  refine hcalls.mono ?_
  rintro e w' ⟨v, ob', rfl, hk, hb', hshape, hcr', hvd⟩
  obtain ⟨hR', hst⟩ := hR.write (K' := K') (ob' := ob') (ho := ho') hC hι (hHK _ _ hH) hlen hk hb hb' (fun cur e he => hshape cur e (by rw [hb, he])) (fun _ => CR_noh hno' hcr') hK' hsub
  exact hnext _ w' ι v (hR'.congrC fun id => by simp [none']) hst (fun _ _ h => .inl h) (fun _ h => h.elim) (V_inj hvd)

/-- 'maps.Keys', at a map that is not nil. -/
def KeysSpec (P : Program) (f g : FuncId) : Prop :=
  ∀ (W : World) (b : Nat), (∀ w, (callFunc f #[.map (some b)]).run P w = .ok (.enter f #[.map (some b)]) w) ∧
    Calls P f #[.map (some b)] W fun e w' => ∃ e0, e = .returned (.func (.func g) #[] #[.pointer (some ⟨W.heap.size, 0, none⟩)]) ∧ w' = W.alloc (.cells #[.map (some b)] e0)

def ins (n : Int) : List Int → List Int
  | [] => [n]
  | m :: l => if n ≤ m then n :: m :: l else m :: ins n l

def isort : List Int → List Int
  | [] => []
  | n :: l => ins n (isort l)

def inr (n : Int) : Bool := decide (-9223372036854775808 ≤ n ∧ n ≤ 9223372036854775807)

/-- 'slices.Sorted', at the keys of a map. -/
def SortedSpec (P : Program) (f g : FuncId) : Prop :=
  ∀ (W : World) (b p : Nat) (e : TypeId) (ks : List Int) (ents : Array MapEntry) (clock : Nat), W.heap[b]? = some (.map ents clock) → MapKept.Stamped ents clock → ents.toList.map (·.key) = ks.map (.int .i64 ·) →
    W.heap[p]? = some (.cells #[.map (some b)] e (0, 0)) → ks.length ≤ 1099511627776 → ks.all inr = true →
    (∀ w, (callFunc f #[.func (.func g) #[] #[.pointer (some ⟨p, 0, none⟩)]]).run P w = .ok (.enter f #[.func (.func g) #[] #[.pointer (some ⟨p, 0, none⟩)]]) w) ∧
    Calls P f #[.func (.func g) #[] #[.pointer (some ⟨p, 0, none⟩)]] W fun e w' => ∃ v, e = .returned v ∧ Below W.heap.size W w' ∧
      VD (fun k => W.heap.size ≤ k ∧ k < w'.heap.size) w' (.sl ((isort ks).map fun n => [.i .i64 n])) v

theorem y_keys {f g : FuncId} {args : Array Operand} {ts : Array TypeId} {x : Operand} {id : Nat} (hop_ : o.op = .call { callee := .value (.func f), args := args, argTypes := ts }) (hargs : args.toList = [x])
    (hx : oev Γ x = .mp id) (hs : KeysSpec P f g) : Y P G o Γ C K K (.kf g id) none' none' := by
  intro F w ι a hR hop _ next Q hnext
  have hargs' : args = #[x] := by cases args; simp only at hargs; subst hargs; rfl
  have ox : V F w ι (oev Γ x) (a.eval x) := V_oev fun t e => hop t (by rw [hop_, hargs']; simp [Op.operands, Call.operands, e])
  rw [hx] at ox
  generalize hxe : a.eval x = u at ox
  cases ox with | mp _ b hι =>
  obtain ⟨hent, hcalls⟩ := hs w b
  unfold Oper.wp
  have hfe : a.eval (.func f) = .func (.func f) #[] #[] := rfl
  simp only [execOp, hop_, hargs', resolve, invoke, Sem.run_bind, hfe, Deferred.ofValue, Sem.run_pure, Result.andThen_ok, Array.empty_append, Array.append_empty, List.map_toArray, List.map_cons, List.map_nil, hxe, hent, Oper.upon_enter]
  refine hcalls.mono ?_
  rintro e w' ⟨e0, rfl, rfl⟩
  obtain ⟨hR', hst⟩ := hR.call (((Below.refl _ w).alloc (Nat.le_refl _) (.cells #[.map (some b)] e0))) [] (by simp)
  refine hnext _ _ ι _ (hR'.congrC fun id => by simp [none']) hst (fun _ _ h => .inl h) (fun _ h => h.elim) (.kf g id b w.heap.size e0 hι (.inr (.inr ⟨Nat.le_refl _, by simp⟩)) ?_)
  exact (MapKept.heap_alloc w _).1

theorem y_sorted {f g : FuncId} {args : Array Operand} {ts : Array TypeId} {x : Operand} {id : Nat} {es : List (Int × AV)} (hop_ : o.op = .call { callee := .value (.func f), args := args, argTypes := ts }) (hargs : args.toList = [x])
    (hHK : ∀ id ob, H id = some ob → K id = some ob) (hx : oev Γ x = .kf g id) (hH : H id = some (.map .i64 es)) (hn : es.length ≤ 1099511627776) (hr : (es.map (·.1)).all inr = true) (hs : SortedSpec P f g) :
    Y P G o Γ C K K (.d (.sl ((isort (es.map (·.1))).map fun n => [.i .i64 n]))) none' none' := by
  intro F w ι a hR hop _ next Q hnext
  have hargs' : args = #[x] := by cases args; simp only at hargs; subst hargs; rfl
  have ox : V F w ι (oev Γ x) (a.eval x) := V_oev fun t e => hop t (by rw [hop_, hargs']; simp [Op.operands, Call.operands, e])
  rw [hx] at ox
  generalize hxe : a.eval x = u at ox
  cases ox with | kf _ _ b p e hι hF hp =>
  obtain ⟨ents, clock, hb, hl, hst, hes⟩ := hR.mapOf hHK hι hH
  have hkeys : ents.toList.map (·.key) = (es.map (·.1)).map (.int .i64 ·) := by
    refine List.ext_getElem? fun j => ?_
    simp only [List.getElem?_map, Array.getElem?_toList]
    cases hj : es[j]? with
    | none =>
      have : ents[j]? = none := by rw [Array.getElem?_eq_none_iff]; rw [List.getElem?_eq_none_iff] at hj; omega
      rw [this]; rfl
    | some y => obtain ⟨en, h1, h2, _⟩ := hes j y hj; rw [h1]; simp [h2]
  obtain ⟨hent, hcalls⟩ := hs w b p e (es.map (·.1)) ents clock hb hst hkeys hp (by simpa using hn) hr
  unfold Oper.wp
  have hfe : a.eval (.func f) = .func (.func f) #[] #[] := rfl
  simp only [execOp, hop_, hargs', resolve, invoke, Sem.run_bind, hfe, Deferred.ofValue, Sem.run_pure, Result.andThen_ok, Array.empty_append, Array.append_empty, List.map_toArray, List.map_cons, List.map_nil, hxe, hent, Oper.upon_enter]
  refine hcalls.mono ?_
  rintro e' w' ⟨v, rfl, hbl, hv⟩
  obtain ⟨hR', hst⟩ := hR.call hbl [] (by simp)
  exact hnext _ _ ι _ (hR'.congrC fun id => by simp [none']) hst (fun _ _ h => .inl h) (fun _ h => h.elim) (.d _ _ (hv.mono fun b hb => .inr (.inr hb)))
end

end Go.Am
