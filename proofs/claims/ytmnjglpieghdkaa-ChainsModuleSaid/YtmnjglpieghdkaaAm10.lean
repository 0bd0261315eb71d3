/- The abstract machine, part 10: append. No condition. -/
import Derived.Test.YtmnjglpieghdkaaAm9
namespace Go.Am

def appA (P : Program) (H : Nat → Option HO) (t : TypeId) (s x : AV) (n : Nat) : Option (AV × Option HO × List Nat) :=
  (tel P t).bind fun e => (tsz P e).bind fun sz => (tby P e).bind fun bt => (tz P e).bind fun z => (srcA H sz x).bind fun p =>
    if z.cells.size = sz ∧ 0 < sz then
      match s with
      | .nil => if p.1 = 0 then some (.nil, none, []) else if p.1 * bt ≤ 140737488355328 ∧ p.1 ≤ maxLen then some (.own n 0 p.1 sz, some (.cells e p.2), []) else none
      | .own id off len sz' => match H id with
        | some (.cells e' cs) => if off = 0 ∧ sz' = sz ∧ e' = e ∧ cs.length = len * sz ∧ (len + p.1) * bt ≤ 140737488355328 ∧ len + p.1 ≤ maxLen then
            some (.own n 0 (len + p.1) sz, some (.cells e (cs ++ p.2)), [id]) else none
        | _ => none
      | .fd els => if 0 < p.1 ∧ okHead sz els = true ∧ (els.flatten.map AV.d).all one = true ∧ (els.length + p.1) * bt ≤ 140737488355328 ∧ els.length + p.1 ≤ maxLen then
            some (.own n 0 (els.length + p.1) sz, some (.cells e (els.flatten.map .d ++ p.2)), []) else none
      | _ => none
    else none

section
variable {P : Program} {F : Nat → Prop} {w : World} {ι : Nat → Option Nat} {G : Ctx} {C : Nat → Prop} {H K : Nat → Option HO}

/-- A block of the call's own, written behind what is known of it, goes under a new number. -/
theorem HR.inplace (hR : HR G F w ι C K) {id b n : Nat} {e : TypeId} {cs news : List AV} {cur cur' : Array Value} {w' : World} (hC : ¬ C id) (hι : ι id = some b) (hn : ι n = none)
    (hK : K id = some (.cells e cs)) (hKn : K n = some (.cells e (cs ++ news))) (hb : w.heap[b]? = some (.cells cur e (0, 0))) (hb' : w'.heap[b]? = some (.cells cur' e (0, 0)))
    (hs : cur'.size = cur.size) (hfit : cs.length + news.length ≤ cur'.size) (hold : ∀ k, k < cs.length → cur'[k]? = cur[k]?)
    (hnew : ∀ (j : Nat) c, news[j]? = some c → ∃ u, cur'[cs.length + j]? = some u ∧ V F w ι c u)
    (hsize : w'.heap.size = w.heap.size) (hoth : ∀ k, k ≠ b → w'.heap[k]? = w.heap[k]?) (hos : w'.os = w.os) (htp : w'.tape = w.tape) (hout : w'.output = w.output) :
    HR G F w' (upd ι n (some b)) (fun i => C i ∨ i = id) K ∧ Step F w ι F w' (upd ι n (some b)) := by
  have hnF : ¬ F b := (hR.place id b hι).2.2 hC
  have hst : Step F w ι F w' (upd ι n (some b)) := by
    refine ⟨fun _ h => h, fun k hk => hoth k (fun e => hnF (e ▸ hk)), fun i k hi => by rw [upd_ne _ _ (fun he => by rw [he, hn] at hi; cases hi)]; exact hi, fun i k c0 e0 hi hk => ?_⟩
    by_cases hkb : k = b
    · subst hkb
      rw [hb] at hk; injection hk with hk; injection hk with h1 h2; subst h1; subst h2
      exact ⟨cur', hb', hs⟩
    · exact ⟨c0, (hoth k hkb).trans hk, rfl⟩
  have split_ι : ∀ i k, upd ι n (some b) i = some k → (i = n ∧ k = b) ∨ (i ≠ n ∧ ι i = some k) := by
    intro i k hi
    by_cases h : i = n
    · subst h; rw [upd_same] at hi; injection hi with hi; exact .inl ⟨rfl, hi.symm⟩
    · rw [upd_ne _ _ h] at hi; exact .inr ⟨h, hi⟩
  refine ⟨⟨hR.kept.trans ⟨hos, htp, hout, by omega, fun k hk hm => hoth k fun e => ?_⟩, fun k hk => by rw [hsize]; exact hR.F_lt k hk, hR.F_ok, ?_, ?_, ?_, ?_⟩, hst⟩
  · subst e
    rcases (hR.place id k hι).1 with h | h
    · exact hm h
    · omega
  · intro i k hi
    rcases split_ι i k hi with ⟨rfl, rfl⟩ | ⟨_, hi⟩
    · obtain ⟨h1, h2, _⟩ := hR.place id k hι
      exact ⟨h1, by omega, fun _ => hnF⟩
    · obtain ⟨h1, h2, h3⟩ := hR.place i k hi
      exact ⟨h1, by omega, fun hc => h3 fun x => hc (.inl x)⟩
  · intro i k o hi ho
    rcases split_ι i k hi with ⟨rfl, rfl⟩ | ⟨_, _⟩
    · rw [hKn] at ho; injection ho with ho; subst ho
      refine ⟨_, hb', .cells _ _ _ (by simp; omega) fun j c hj => ?_⟩
      by_cases hjl : j < cs.length
      · rw [List.getElem?_append_left hjl] at hj
        obtain ⟨ob, h2, h3⟩ := hR.obj id k _ hι hK
        rw [hb] at h2; injection h2 with h2; subst h2
        cases h3 with | cells _ _ _ hl h =>
        obtain ⟨u, hu, hv⟩ := h j c hj
        exact ⟨u, (hold j hjl).trans hu, hv.step hst⟩
      · rw [List.getElem?_append_right (by omega)] at hj
        obtain ⟨u, hu, hv⟩ := hnew _ _ hj
        exact ⟨u, by rw [← hu]; congr 1; omega, hv.step hst⟩
    · rename_i hi2
      obtain ⟨ob, h2, h3⟩ := hR.obj i k o hi2 ho
      by_cases hkb : k = b
      · subst hkb
        rw [hb] at h2; injection h2 with h2; subst h2
        have hlen := hR.len id i k _ _ hι hi2 hC hK ho
        cases h3 with | cells _ cs' _ hl h =>
        simp only [HO.len] at hlen
        refine ⟨_, hb', .cells _ _ _ (by omega) fun j c hj => ?_⟩
        obtain ⟨u, hu, hv⟩ := h j c hj
        have : j < cs'.length := (List.getElem?_eq_some_iff.1 hj).1
        exact ⟨u, (hold j (by omega)).trans hu, hv.step hst⟩
      · exact ⟨ob, (hoth k hkb).trans h2, h3.step hst⟩
  · intro i i' k hi hi' hc hc'
    rcases split_ι i k hi with ⟨h1, h2⟩ | ⟨h1, h2⟩ <;> rcases split_ι i' k hi' with ⟨h1', h2'⟩ | ⟨h1', h2'⟩
    · rw [h1, h1']
    · subst h2; exact absurd (hR.inj i' id k h2' hι (fun x => hc' (.inl x)) hC) fun x => hc' (.inr x)
    · subst h2'; exact absurd (hR.inj i id k h2 hι (fun x => hc (.inl x)) hC) fun x => hc (.inr x)
    · exact hR.inj i i' k h2 h2' (fun x => hc (.inl x)) fun x => hc' (.inl x)
  · intro i i' k o o' hi hi' hc ho ho'
    rcases split_ι i k hi with ⟨h1, h2⟩ | ⟨h1, h2⟩ <;> rcases split_ι i' k hi' with ⟨h1', h2'⟩ | ⟨h1', h2'⟩
    · rw [h1] at ho; rw [h1', ho] at ho'; injection ho' with h; subst h; exact Nat.le_refl _
    · subst h2
      rw [h1, hKn] at ho; injection ho with ho; subst ho
      have := hR.len id i' k _ _ hι h2' hC hK ho'
      simp only [HO.len] at this ⊢
      simp; omega
    · subst h2'; exact absurd (hR.inj i id k h2 hι (fun x => hc (.inl x)) hC) fun x => hc (.inr x)
    · exact hR.len i i' k o o' h2 h2' (fun x => hc (.inl x)) ho ho'

theorem run_append_none {t e : TypeId} {sz : Nat} (ht : tel P t = some e) (hs : tsz P e = some sz) (ty : TypeId) (b : Option Addr) (n cap c : Nat) (hc : n ≤ cap) (w : World) :
    (Builtin.append_ #[t, t] ty #[.slice b n cap, .slice none 0 c]).run P w = .ok (.slice b n cap) w := by
  cases b <;> simp [Builtin.append_, run_underlying (tel_und ht), run_sizeOf w hs, Builtin.lenOf, hc, Builtin.firstCells, storeCells]

theorem run_append_idle {t e : TypeId} {sz : Nat} (ht : tel P t = some e) (hs : tsz P e = some sz) (ty : TypeId) (a : Addr) (c : Nat) (w : World) :
    (Builtin.append_ #[t, t] ty #[.slice none 0 0, .slice (some a) 0 c]).run P w = .ok (.slice none 0 0) w := by
  simp [Builtin.append_, run_underlying (tel_und ht), run_sizeOf w hs, Builtin.lenOf, Builtin.firstCells, loadCells, loadCellsFrom]

variable {Γ : Nat → AV} {n : Nat} {o : Oper}

theorem tparts {e : TypeId} {sz bt : Nat} {z : Value} (h1 : tsz P e = some sz) (h2 : tby P e = some bt) (h3 : tz P e = some z) : ∃ i, P.info? e = some i ∧ i.zero = some z ∧ i.size = sz ∧ i.bytes = bt := by
  obtain ⟨i, hi, rfl⟩ := Option.map_eq_some_iff.1 h1
  obtain ⟨j, hj, rfl⟩ := Option.map_eq_some_iff.1 h2
  obtain ⟨k, hk, hz⟩ := Option.bind_eq_some_iff.1 h3
  rw [hi] at hj hk; injection hj with hj; injection hk with hk; subst hj; subst hk
  exact ⟨i, hi, hz, rfl, rfl⟩

theorem y_append {s x : Operand} {t : TypeId} {av : AV} {nb : Option HO} {con : List Nat} (ho : o.op = .call { callee := .builtin .append, args := #[s, x], argTypes := #[t, t] })
    (hHK : ∀ id ob, H id = some ob → K id = some ob) (h : appA P H t (oev Γ s) (oev Γ x) n = some (av, nb, con)) (hK : ∀ ob, nb = some ob → K n = some ob) (hcon : ∀ id ∈ con, ¬ C id) :
    Y P G o Γ C K K av (fun i => nb.isSome = true ∧ i = n) (fun i => i ∈ con) := by
  intro F w ι a hR hop hnew next Q hnext
  have os : V F w ι (oev Γ s) (a.eval s) := V_oev fun t e => hop t (by rw [ho]; simp [Op.operands, Call.operands, e])
  have ox : V F w ι (oev Γ x) (a.eval x) := V_oev fun t e => hop t (by rw [ho]; simp [Op.operands, Call.operands, e])
  unfold appA at h
  obtain ⟨e, he, h⟩ := Option.bind_eq_some_iff.1 h
  obtain ⟨sz, hsz, h⟩ := Option.bind_eq_some_iff.1 h
  obtain ⟨bt, hbt, h⟩ := Option.bind_eq_some_iff.1 h
  obtain ⟨z, hz, h⟩ := Option.bind_eq_some_iff.1 h
  obtain ⟨⟨m, ncs⟩, hsrc, h⟩ := Option.bind_eq_some_iff.1 h
  obtain ⟨i, hi, hiz, his, hib⟩ := tparts hsz hbt hz
  obtain ⟨ad, c, news, hxv, hcv, hncl, hcell, hnil⟩ := srcA_V hR hHK hsrc ox
  have hnl : news.length = m * i.size := by have := hcv.1; simp only [List.size_toArray] at this; rw [his, ← hncl, this]
  have h1c : ∀ u ∈ news, u.oneCell' = true := fun u hu => hcv.2.2 u (by simpa using hu)
  split at h
  case isFalse => cases h
  rename_i hzs
  obtain ⟨hzs, hpos⟩ := hzs
  -- what an operation that gives this value in this world does
  have fin : ∀ (u : Value) (w' : World) (F' : Nat → Prop) (ι' : Nat → Option Nat), (Builtin.append_ #[t, t] o.type #[a.eval s, a.eval x]).run P w = .ok u w' → HR G F' w' ι' (fun j => C j ∨ j ∈ con) K →
      Step F w ι F' w' ι' → (∀ id b, ι' id = some b → ι id = some b ∨ (nb.isSome = true ∧ id = n)) → (∀ id, (nb.isSome = true ∧ id = n) → ∃ b, ι' id = some b) → V F' w' ι' av u → o.wp P a w next Q := by
    intro u w' F' ι' hr hR' hs' hd hd' hv
    unfold Oper.wp
    simp only [execOp, ho, resolve, invoke, builtin, Sem.run_bind, Sem.run_pure, Result.andThen_ok, List.map_toArray, List.map_cons, List.map_nil, hr, Oper.upon_value]
    exact hnext F' w' ι' u hR' hs' hd hd' hv
  -- a new block
  have grown : ∀ (vals : List Value) (zs : Array Value) (cells : List AV) (cap l : Nat), nb = some (.cells e cells) → av = .own n 0 l sz → (cells.length = vals.length ∧ ∀ (k : Nat) c, cells[k]? = some c → ∃ u, vals[k]? = some u ∧ V F w ι c u) → l ≤ cap → cap ≤ maxLen → cap * sz ≤ (vals.toArray ++ zs).size →
      (Builtin.append_ #[t, t] o.type #[a.eval s, a.eval x]).run P w = .ok (.slice (some ⟨w.heap.size, 0, none⟩) l cap) (w.drew.alloc (.cells (vals.toArray ++ zs) e)) → o.wp P a w next Q := by
    intro vals zs cells cap l hnb hav hcvv hlc hcm hcs hrun
    subst hav
    have h0 : ι n = none := hnew n ⟨by rw [hnb]; rfl, rfl⟩
    have hw := NewBlk.drew w (.cells (vals.toArray ++ zs) e)
    have hs := step_alloc hR n h0 hw
    have hcr : CR F (w.drew.alloc (.cells (vals.toArray ++ zs) e)) (upd ι n (some w.heap.size)) (.cells e cells) (.cells (vals.toArray ++ zs) e (0, 0)) := by
      refine .cells _ _ _ (by have := hcvv.1; simp at this ⊢; omega) fun k c hk => ?_
      obtain ⟨u, hu, hv⟩ := hcvv.2 k c hk
      have hlt := (List.getElem?_eq_some_iff.1 hu).1
      exact ⟨u, by rw [Array.getElem?_append_left (by simpa using hlt)]; simpa using hu, hv.step hs⟩
    refine fin _ _ F _ hrun ((hR.alloc n h0 hw _ (hK _ hnb) hcr).weakC fun _ h => .inl h) hs (fun id b e => ?_) (fun id h => ⟨w.heap.size, by rw [h.2, upd_same]⟩) ?_
    · by_cases hid : id = n
      · exact .inr ⟨by rw [hnb]; rfl, hid⟩
      · rw [upd_ne _ _ hid] at e; exact .inl e
    · have := V.own (F := F) (w := w.drew.alloc (.cells (vals.toArray ++ zs) e)) (ι := upd ι n (some w.heap.size)) n 0 l sz w.heap.size cap _ e (upd_same _ _ _) hw.new (by rw [Nat.zero_add]; exact hcs) hlc hcm
      simpa using this
  have cvw : CV F w ι ncs news.toArray → (ncs.length = news.length ∧ ∀ (k : Nat) c, ncs[k]? = some c → ∃ u, news[k]? = some u ∧ V F w ι c u) := fun hc =>
    ⟨by simpa using hc.1, fun k c hk => let ⟨u, hu, hv⟩ := hc.get hk; ⟨u, by simpa using hu, hv⟩⟩
  split at h
  · -- nil
    rename_i hsn
    rw [hsn] at os
    generalize hsv : a.eval s = sv at os fin grown
    cases os
    simp only at h
    by_cases hm : m = 0
    · rw [if_pos hm] at h
      injection h with h; injection h with h1 h2; injection h2 with h2 h3; subst h1; subst h2; subst h3; subst hm
      have hrun : (Builtin.append_ #[t, t] o.type #[.slice none 0 0, a.eval x]).run P w = .ok (.slice none 0 0) w := by
        rw [hxv]
        cases ad with
        | none => exact run_append_none he hsz _ _ _ _ _ (Nat.le_refl _) _
        | some ad => exact run_append_idle he hsz _ _ _ _
      exact fin _ _ F ι hrun (hR.congrC fun id => ⟨fun h => .inl h, fun h => h.elim (fun x => x) (fun h => by cases h)⟩) (.refl _ _ _) (fun _ _ h => .inl h) (fun _ h => by simp at h) .nil
    · rw [if_neg hm] at h
      split at h
      · rename_i hb
        injection h with h; injection h with h1 h2; injection h2 with h2 h3; subst h1; subst h2; subst h3
        cases ad with
        | none => exact absurd (hnil rfl) hm
        | some ad =>
          have hr := run_append_nil (P := P) w t o.type e i z (tel_und he) hi hiz ad m c news hnl (hcell _ rfl) (by omega) (by have := hb.2; simp only [maxLen] at this; omega) (by rw [hib]; omega)
          rw [← hxv] at hr
          refine grown news _ ncs _ m rfl rfl (cvw hcv) (grownCap_ge _ _ _ _) (grownCap_le_maxLen _ _ _ _ hb.2) ?_ hr
          have h1 := grownCap_ge w m 0 e
          simp only [Array.size_append, List.size_toArray, size_zeroCells, hzs, hnl, his, ← Nat.add_mul]
          rw [show m + (grownCap w m 0 e - m) = grownCap w m 0 e from by omega]
          exact Nat.le_refl _
      · cases h
  · -- own
    rename_i id off len sz' hsn
    rw [hsn] at os
    generalize hsv : a.eval s = sv at os fin grown
    cases os with | own _ _ _ _ b cap cur0 e0 hι hb0 hcap hlc hcm =>
    split at h
    · rename_i e' cs hH
      split at h
      · rename_i hc
        obtain ⟨rfl, rfl, rfl, hcl, hby, hml⟩ := hc
        injection h with h; injection h with h1 h2; injection h2 with h2 h3; subst h1; subst h2; subst h3
        obtain ⟨cur, hb, hl, hcc⟩ := hR.cells hHK hι hH
        rw [hb] at hb0; injection hb0 with hb0; injection hb0 with e1 e2; subst e1; subst e2
        rw [Nat.zero_add] at hcap
        rw [Nat.zero_mul] at fin grown
        have hCid : ¬ C id := hcon id (by simp)
        have h0 : ι n = none := hnew n ⟨rfl, rfl⟩
        have inpl : ∀ (cur' : Array Value) (w' : World), (Builtin.append_ #[t, t] o.type #[.slice (some ⟨b, 0, none⟩) len cap, a.eval x]).run P w = .ok (.slice (some ⟨b, 0, none⟩) (len + m) cap) w' →
            len + m ≤ cap → w'.heap[b]? = some (.cells cur' e' (0, 0)) → cur'.size = cur.size → (∀ k, k < cs.length → cur'[k]? = cur[k]?) → (∀ (j : Nat) c, ncs[j]? = some c → ∃ u, cur'[cs.length + j]? = some u ∧ V F w ι c u) →
            w'.heap.size = w.heap.size → (∀ k, k ≠ b → w'.heap[k]? = w.heap[k]?) → w'.os = w.os → w'.tape = w.tape → w'.output = w.output → o.wp P a w next Q := by
          intro cur' w' hrun hroom hb' hs' hold hnw hsize hoth hos htp hout
          have hfit : cs.length + ncs.length ≤ cur'.size := by
            rw [hcl, hncl, ← Nat.add_mul, hs']
            exact Nat.le_trans (Nat.mul_le_mul_right _ hroom) hcap
          obtain ⟨hR', hst⟩ := hR.inplace hCid hι h0 (hHK _ _ hH) (hK _ rfl) hb hb' hs' hfit hold hnw hsize hoth hos htp hout
          refine fin _ _ F _ hrun (hR'.congrC fun j => by simp) hst (fun id b e => ?_) (fun id h => ⟨b, by rw [h.2, upd_same]⟩) ?_
          · by_cases hid : id = n
            · exact .inr ⟨rfl, hid⟩
            · rw [upd_ne _ _ hid] at e; exact .inl e
          · have := V.own (F := F) (w := w') (ι := upd ι n (some b)) n 0 (len + m) sz' b cap cur' e' (upd_same _ _ _) hb' (by rw [Nat.zero_add, hs']; exact hcap) hroom hcm
            simpa using this
        cases ad with
        | none =>
          have hm0 := hnil rfl
          subst hm0
          have hn0 : ncs = [] := List.eq_nil_of_length_eq_zero (by rw [hncl, Nat.zero_mul])
          subst hn0
          refine inpl cur w ?_ (by omega) hb rfl (fun _ _ => rfl) (fun j c h => by simp at h) rfl (fun _ _ => rfl) rfl rfl rfl
          rw [hxv]
          exact run_append_none he hsz _ _ _ _ _ hlc _
        | some ad =>
          by_cases hroom : len + m ≤ cap
          · have hfit : len * i.size + news.length ≤ cur.size := by
              rw [hnl, ← Nat.add_mul, his]; exact Nat.le_trans (Nat.mul_le_mul_right _ hroom) hcap
            have hr := run_append_room (P := P) w t o.type e' i (tel_und he) hi b len cap cur hb ad m c news hnl (hcell _ rfl) h1c hroom hfit
            rw [← hxv] at hr
            have hg := setRow_heap w b cur (cur.toList.take (len * i.size) ++ news ++ cur.toList.drop (len * i.size + news.length)).toArray e' (0, 0) hb
            have hcl' : cs.length = len * i.size := by rw [his]; exact hcl
            have hmin : (cur.toList.take (len * i.size)).length = len * i.size := by rw [List.length_take, Array.length_toList]; omega
            refine inpl _ _ hr hroom hg ?_ (fun k hk => ?_) (fun j cc hj => ?_) (by simp) (fun k hk => setRow_other w b k _ hk) rfl rfl rfl
            · simp only [List.size_toArray, List.length_append, List.length_take, List.length_drop, Array.length_toList]; omega
            · rw [List.getElem?_toArray, List.append_assoc, List.getElem?_append_left (by omega), List.getElem?_take, if_pos (by omega), Array.getElem?_toList]
            · obtain ⟨u, hu, hv⟩ := hcv.get hj
              refine ⟨u, ?_, hv⟩
              have hjl : j < news.length := by have := (Array.getElem?_eq_some_iff.1 hu).1; simpa using this
              rw [List.getElem?_toArray, List.append_assoc, List.getElem?_append_right (by omega), hmin, hcl',
                show len * i.size + j - len * i.size = j from by omega, List.getElem?_append_left hjl]
              simpa using hu
          · have holds : ∀ j u, (cur.toList.take (len * i.size))[j]? = some u → w.cell? ((⟨b, 0, none⟩ : Addr).add j) = some u := by
              intro j u hu
              rw [List.getElem?_take] at hu
              split at hu
              · rw [add_mk, Nat.zero_add, cell_of_row w b _ cur e' (0, 0) hb]; simpa using hu
              · cases hu
            have hcl' : cs.length = len * i.size := by rw [his]; exact hcl
            have hr := run_append_grow (P := P) w t o.type e' i z (tel_und he) hi hiz ⟨b, 0, none⟩ len cap (cur.toList.take (len * i.size)) (by simp; omega) holds ad m c news hnl (hcell _ rfl) (by omega)
              (by simp only [maxLen] at hml; omega) (growslice_fits (by omega) (by rw [hib]; exact hby))
            rw [← hxv, show (cur.toList.take (len * i.size)).toArray ++ news.toArray = (cur.toList.take (len * i.size) ++ news).toArray from by simp] at hr
            have hvals : (cs ++ ncs).length = ((cur.toList.take (len * i.size)) ++ news).length ∧ ∀ (k : Nat) c, (cs ++ ncs)[k]? = some c → ∃ u, ((cur.toList.take (len * i.size)) ++ news)[k]? = some u ∧ V F w ι c u := by
              refine ⟨?_, fun k cc hk => ?_⟩
              · have := hcv.1; simp at this ⊢; omega
              · by_cases hkl : k < cs.length
                · rw [List.getElem?_append_left hkl] at hk
                  obtain ⟨u', hu', hv⟩ := hcc k cc hk
                  exact ⟨u', by rw [List.getElem?_append_left (by simp; omega), List.getElem?_take, if_pos (by omega), Array.getElem?_toList]; exact hu', hv⟩
                · rw [List.getElem?_append_right (by omega)] at hk
                  obtain ⟨u, hu, hv⟩ := hcv.get hk
                  exact ⟨u, by rw [List.getElem?_append_right (by simp; omega), show (cur.toList.take (len * i.size)).length = cs.length from by rw [List.length_take, Array.length_toList]; omega]; simpa using hu, hv⟩
            refine grown _ (Builtin.zeroCells z.cells (grownCap w (len + m) cap e' - (len + m))) (cs ++ ncs) _ (len + m) rfl rfl hvals (grownCap_ge w (len + m) cap e') (grownCap_le_maxLen w (len + m) cap e' hml) ?_ hr
            have h1 := grownCap_ge w (len + m) cap e'
            simp only [Array.size_append, List.size_toArray, size_zeroCells, hzs, List.length_append, List.length_take, Array.length_toList, hnl, his]
            have h2 : len * sz' ≤ cur.size := by omega
            rw [Nat.min_eq_left h2, ← Nat.add_mul, ← Nat.add_mul, show len + m + (grownCap w (len + m) cap e' - (len + m)) = grownCap w (len + m) cap e' from by omega]
            exact Nat.le_refl _
      · cases h
    · cases h
  · -- a full slice
    rename_i els hsn
    rw [hsn] at os
    split at h
    · rename_i hc
      obtain ⟨hm, hok, hone, hby, hml⟩ := hc
      injection h with h; injection h with h1 h2; injection h2 with h2 h3; subst h1; subst h2; subst h3
      obtain ⟨sad, hse, hh⟩ := V_fd_len os
      have hs2 : srcA H sz (.fd els) = some (els.length, els.flatten.map .d) := by simp only [srcA]; rw [if_pos ⟨hok, hone⟩]
      obtain ⟨ad2, c2, olds, hov, hocv, hocl, hocell, honil⟩ := srcA_V hR hHK hs2 os
      rw [hse] at hov; injection hov with e1 e2 e3; subst e1; subst e3
      have hol : olds.length = els.length * i.size := by have := hocv.1; simp only [List.size_toArray] at this; rw [his, ← hocl, this]
      cases ad with
      | none => exact absurd (hnil rfl) (by omega)
      | some ad =>
        cases sad with
        | none =>
          have hl0 := honil rfl
          have hels : els = [] := List.eq_nil_of_length_eq_zero hl0
          subst hels
          have hr := run_append_nil (P := P) w t o.type e i z (tel_und he) hi hiz ad m c news hnl (hcell _ rfl) (by omega) (by simp only [maxLen] at hml; simp at hml; omega) (by rw [hib]; simp at hby; omega)
          rw [← hxv] at hr
          simp only [List.length_nil] at hse
          rw [← hse] at hr
          simp only [List.length_nil, Nat.zero_add] at hml
          refine grown news _ ([] ++ ncs) _ (0 + m) (by simp) (by simp) (cvw hcv) (by rw [Nat.zero_add]; exact grownCap_ge w m 0 e) (grownCap_le_maxLen _ _ _ _ hml) ?_ (by rw [Nat.zero_add]; exact hr)
          have h1 := grownCap_ge w m 0 e
          simp only [Array.size_append, List.size_toArray, size_zeroCells, hzs, hnl, his, ← Nat.add_mul]
          rw [show m + (grownCap w m 0 e - m) = grownCap w m 0 e from by omega]
          exact Nat.le_refl _
        | some sad =>
          have hr := run_append_grow (P := P) w t o.type e i z (tel_und he) hi hiz sad els.length els.length olds hol (hocell _ rfl) ad m c news hnl (hcell _ rfl) (by omega)
            (by simp only [maxLen] at hml; omega) (growslice_fits (by omega) (by rw [hib]; exact hby))
          rw [← hxv, ← hse, show olds.toArray ++ news.toArray = (olds ++ news).toArray from by simp] at hr
          have hvals : (els.flatten.map AV.d ++ ncs).length = (olds ++ news).length ∧ ∀ (k : Nat) c, (els.flatten.map AV.d ++ ncs)[k]? = some c → ∃ u, (olds ++ news)[k]? = some u ∧ V F w ι c u := by
            have ho1 := hocv.1
            simp only [List.size_toArray] at ho1
            refine ⟨?_, fun k cc hk => ?_⟩
            · have := hcv.1; simp only [List.size_toArray, List.length_append] at this ⊢; omega
            · by_cases hkl : k < (els.flatten.map AV.d).length
              · rw [List.getElem?_append_left hkl] at hk
                obtain ⟨u, hu, hv⟩ := hocv.get hk
                exact ⟨u, by rw [List.getElem?_append_left (by omega)]; simpa using hu, hv⟩
              · rw [List.getElem?_append_right (by omega)] at hk
                obtain ⟨u, hu, hv⟩ := hcv.get hk
                exact ⟨u, by rw [List.getElem?_append_right (by omega), ← ho1]; simpa using hu, hv⟩
          refine grown _ (Builtin.zeroCells z.cells (grownCap w (els.length + m) els.length e - (els.length + m))) (els.flatten.map .d ++ ncs) _ (els.length + m) rfl rfl hvals (grownCap_ge w (els.length + m) els.length e) (grownCap_le_maxLen w (els.length + m) els.length e hml) ?_ hr
          have h1 := grownCap_ge w (els.length + m) els.length e
          simp only [Array.size_append, List.size_toArray, size_zeroCells, hzs, List.length_append, hol, hnl, his]
          rw [← Nat.add_mul, ← Nat.add_mul, show els.length + m + (grownCap w (els.length + m) els.length e - (els.length + m)) = grownCap w (els.length + m) els.length e from by omega]
          exact Nat.le_refl _
    · cases h
  · cases h
end

end Go.Am
