/- The abstract machine, part 7: 'nev' is right, operation by operation. No condition. -/
import Derived.Test.YtmnjglpieghdkaaAm6
namespace Go.Am

section
variable {P : Program}

theorem run_fieldAt {s : TypeId} {f : Nat} {fl : List (Nat × Nat)} {p : Nat × Nat} (w : World) (h : flds P s = some fl) (hp : fl[f]? = some p) (h0 : p.2 ≠ 0) (ad : Addr) :
    (Instr.fieldAt s (.pointer (some ad)) f).run P w = .ok (.pointer (some (ad.add p.1))) w := by
  obtain ⟨fs, hu, _, hm⟩ := run_flds w h
  have hlen : ∀ (l : List Field) (r : List (Nat × Nat)), (l.mapM fun f => (P.info? f.type).map fun i => (f.offset, i.size)) = some r → ∀ (k : Nat) q, r[k]? = some q → ∃ g, l[k]? = some g ∧ q.1 = g.offset ∧ tsz P g.type = some q.2 := by
    intro l
    induction l with
    | nil => intro r hr k q hq; simp at hr; subst hr; simp at hq
    | cons g l ih =>
      intro r hr k q hq
      simp only [List.mapM_cons, Option.bind_eq_bind, Option.bind_eq_some_iff, Option.pure_def, Option.some.injEq] at hr
      obtain ⟨x, hx, r', hr', rfl⟩ := hr
      obtain ⟨i, hi, rfl⟩ := Option.map_eq_some_iff.1 hx
      rcases k with _ | k
      · simp only [List.getElem?_cons_zero, Option.some.injEq] at hq; subst hq; exact ⟨g, rfl, rfl, by simp [tsz, hi]⟩
      · exact ih r' hr' k q (by simpa using hq)
  obtain ⟨g, hg, e1, e2⟩ := hlen _ _ hm f p hp
  have hg' : fs[f]? = some g := by simpa using hg
  simp [Instr.fieldAt, run_underlying hu, hg', Instr.sureAddr, fieldPlace, run_sizeOf w e2, h0, e1]

theorem run_indexAt_s {t e : TypeId} {sz : Nat} (w : World) (h : tel P t = some e) (hs : tsz P e = some sz) (a : Addr) (n c : Nat) (ki : IntKind) (k : Int) (h0 : 0 ≤ k) (h1 : k < n) :
    (Instr.indexAt t (.slice (some a) n c) (.int ki k)).run P w = .ok (.pointer (some (a.add (k.toNat * sz)))) w := by
  simp [Instr.indexAt, asIntOf, run_underlying (tel_und h), run_sizeOf w hs, h0, h1]

theorem run_indexAt_p {t e : TypeId} {sz m : Nat} (w : World) (h : tarr P t = some (m, e)) (hs : tsz P e = some sz) (a : Addr) (ki : IntKind) (k : Int) (h0 : 0 ≤ k) (h1 : k < m) :
    (Instr.indexAt t (.pointer (some a)) (.int ki k)).run P w = .ok (.pointer (some (a.add (k.toNat * sz)))) w := by
  simp [Instr.indexAt, asIntOf, run_underlying (tarr_und h), run_sizeOf w hs, h0, h1, Instr.sureAddr]

theorem run_len_s {t e : TypeId} (w : World) (h : tel P t = some e) (ty : TypeId) (a : Option Addr) (n c : Nat) : (Builtin.len_ #[t] ty #[.slice a n c]).run P w = .ok (.int .i64 n) w := by
  simp [Builtin.len_, run_underlying (tel_und h), goInt]

theorem run_bound (w : World) (k : IntKind) (i : Int) (y : Nat) (code : BoundsCode) (h0 : 0 ≤ i) (h1 : i ≤ y) : (Instr.sliceBound (.int k i) y code).run P w = .ok i.toNat w := by
  simp [Instr.sliceBound, asIntOf, h0, h1]

theorem run_slice_cut {t e : TypeId} {sz : Nat} (w : World) (ht : tel P t = some e) (hs : tsz P e = some sz) (ad : Option Addr) (n c : Nat) (hnc : n ≤ c) (lo hi mx : Option Value) (l h : Int)
    (hlo : (lo = none ∧ l = 0) ∨ ∃ k, lo = some (.int k l)) (hhi : (hi = none ∧ h = n) ∨ ∃ k, hi = some (.int k h)) (hl : 0 ≤ l) (hlh : l ≤ h) (hn : h ≤ n)
    (m : Nat) (hm : (mx = none ∧ m = c) ∨ (∃ k, mx = some (.int k h)) ∧ m = h.toNat ∧ hi.isSome = true) :
    (Instr.sliceAt t (.slice ad n c) lo hi mx).run P w = .ok (.slice (if m = l.toNat then ad else ad.map (·.add (l.toNat * sz))) (h.toNat - l.toNat) (m - l.toNat)) w := by
  have hu := tel_und ht
  have hb : (Instr.sliceBounds true n c lo hi mx).run P w = .ok (l.toNat, h.toNat, m) w := by
    have e1 : (h.toNat : Int) = h := by omega
    rcases hm with ⟨rfl, rfl⟩ | ⟨⟨km, rfl⟩, rfl, hs'⟩
    · rcases hlo with ⟨rfl, rfl⟩ | ⟨kl, rfl⟩ <;> rcases hhi with ⟨rfl, rfl⟩ | ⟨kh, rfl⟩
      · simp [Instr.sliceBounds]
      · simp [Instr.sliceBounds, run_bound w kh h m _ (by omega) (by omega)]
      · simp [Instr.sliceBounds, run_bound w kl l n _ (by omega) (by omega)]
      · simp [Instr.sliceBounds, run_bound w kh h m _ (by omega) (by omega), run_bound w kl l h.toNat _ (by omega) (by omega)]
    · rcases hhi with ⟨rfl, rfl⟩ | ⟨kh, rfl⟩
      · simp at hs'
      · rcases hlo with ⟨rfl, rfl⟩ | ⟨kl, rfl⟩
        · simp [Instr.sliceBounds, run_bound w km h c _ (by omega) (by omega), run_bound w kh h h.toNat _ (by omega) (by omega)]
        · simp [Instr.sliceBounds, run_bound w km h c _ (by omega) (by omega), run_bound w kh h h.toNat _ (by omega) (by omega), run_bound w kl l h.toNat _ (by omega) (by omega)]
  simp [Instr.sliceAt, Instr.slice, run_underlying hu, hb, run_sizeOf w hs]

variable {G : Ctx} {o : Oper} {Γ : Nat → AV} {C : Nat → Prop} {H : Nat → Option HO} {n : Nat}

theorem nev_pure {av : AV} (h : nev P o.op Γ n = some (av, none)) : Y P G o Γ C H H av none' none' := by
  refine y_pure fun F w ι a hR hop => ?_
  have ov : ∀ x ∈ o.op.operands, V F w ι (oev Γ x) (a.eval x) := fun x hx => V_oev fun t e => hop t (e ▸ hx)
  obtain ⟨dst, op, type, pos, after, guard⟩ := o
  simp only at h ov ⊢
  unfold nev at h
  split at h
  · rename_i x; injection h with h; injection h with h _; subst h; exact ⟨_, by simp [execOp], ov x (by simp [Op.operands])⟩
  · rename_i x; injection h with h; injection h with h _; subst h; exact ⟨_, by simp [execOp], ov x (by simp [Op.operands])⟩
  · rename_i c x y
    obtain ⟨h, _⟩ := pureA_none h
    obtain ⟨t, ht, rfl⟩ := Option.map_eq_some_iff.1 h
    have hc := boolOfA_V ht (ov c (by simp [Op.operands]))
    refine ⟨if t then a.eval x else a.eval y, by simp [execOp, hc, asBool], ?_⟩
    cases t
    · exact ov y (by simp [Op.operands])
    · exact ov x (by simp [Op.operands])
  · obtain ⟨z, _, h⟩ := Option.map_eq_some_iff.1 h; cases h
  · obtain ⟨z, _, h⟩ := Option.map_eq_some_iff.1 h; cases h
  · rename_i t ps
    obtain ⟨h, _⟩ := pureA_none h
    obtain ⟨z, hz, h⟩ := Option.bind_eq_some_iff.1 h
    obtain ⟨fl, hfl, h⟩ := Option.bind_eq_some_iff.1 h
    split at h
    · rename_i hone
      obtain ⟨cs, hcs, rfl⟩ := Option.map_eq_some_iff.1 h
      obtain ⟨fs, hu, hm, _⟩ := run_flds w hfl
      have hp := parts_V (F := F) (w := w) (ι := ι) (Γ := Γ) (a := a) (ps := ps) fun p hp => ov p.2 (by simp [Op.operands]; exact ⟨p.1, hp⟩)
      obtain ⟨us, hus, hcv⟩ := fillA_V _ _ _ _ _ _ (CV_zero (F := F) (w := w) (ι := ι) hone) hp.1 hp.2 hcs
      refine ⟨.agg us, ?_, .ag _ _ hcv.1 hcv.2.1⟩
      have hrun := run_struct_zero (w := w) hz hu fl.toArray (ps.map fun p => (p.1, a.eval p.2)) us hm (by simpa using hus)
      simp only [execOp, Sem.run_bind]
      rw [hrun]; rfl
    · cases h
  · obtain ⟨e, _, h⟩ := Option.bind_eq_some_iff.1 h
    obtain ⟨sz, _, h⟩ := Option.bind_eq_some_iff.1 h
    obtain ⟨z, _, h⟩ := Option.bind_eq_some_iff.1 h
    split at h
    · obtain ⟨cs, _, h⟩ := Option.map_eq_some_iff.1 h; cases h
    · cases h
  · obtain ⟨e, _, h⟩ := Option.bind_eq_some_iff.1 h
    obtain ⟨sz, _, h⟩ := Option.bind_eq_some_iff.1 h
    obtain ⟨z, _, h⟩ := Option.bind_eq_some_iff.1 h
    obtain ⟨y, _, h⟩ := Option.bind_eq_some_iff.1 h
    obtain ⟨a, _, h⟩ := Option.bind_eq_some_iff.1 h
    obtain ⟨b, _, h⟩ := Option.bind_eq_some_iff.1 h
    split at h <;> cases h
  · rename_i op t x y yt
    obtain ⟨h, _⟩ := pureA_none h
    split at h
    · rename_i r' hr
      injection h with h; subst h
      obtain ⟨z, ⟨h1, h2⟩, hz⟩ := run_nilA (P := P) hr (ov x (by simp [Op.operands])) (ov y (by simp [Op.operands])) x y
      exact ⟨z, by simp [execOp, h1, h2], hz⟩
    obtain ⟨r, hr, rfl⟩ := Option.map_eq_some_iff.1 h
    obtain ⟨z, ⟨h1, h2⟩, hz⟩ := run_binA (P := P) hr (ov x (by simp [Op.operands])) (ov y (by simp [Op.operands])) x y
    exact ⟨z, by simp [execOp, h1, h2], .d _ _ hz⟩
  · rename_i op t x
    obtain ⟨h, _⟩ := pureA_none h
    obtain ⟨r, hr, rfl⟩ := Option.map_eq_some_iff.1 h
    obtain ⟨z, h1, hz⟩ := run_unA (P := P) hr (ov x (by simp [Op.operands]))
    exact ⟨z, by simp [execOp, h1], .d _ _ hz⟩
  · rename_i s t x
    obtain ⟨h, _⟩ := pureA_none h
    obtain ⟨k, hk, h⟩ := Option.bind_eq_some_iff.1 h
    obtain ⟨m, hm, h⟩ := Option.bind_eq_some_iff.1 h
    split at h
    · rename_i hs
      injection h with h; subst h
      obtain ⟨k', hx⟩ := intOfA_V hm (ov x (by simp [Op.operands]))
      refine ⟨.int k (k.wrap m), ?_, .d _ _ (.i _ _)⟩
      obtain ⟨ds, hds⟩ := Option.isSome_iff_exists.1 hs
      simp [execOp, hx, convert, run_underlying hds, run_underlying (tint_und hk), Conv.intToInt]
    · cases h
  · rename_i s x f
    obtain ⟨h, _⟩ := pureA_none h
    obtain ⟨fl, hfl, h⟩ := Option.bind_eq_some_iff.1 h
    obtain ⟨p, hp, h⟩ := Option.bind_eq_some_iff.1 h
    split at h
    · cases h
    · rename_i h0
      obtain ⟨ad, hx, hv⟩ := fieldA_V h (ov x (by simp [Op.operands]))
      exact ⟨_, by simp only [execOp, hx, Sem.run_bind, run_fieldAt w hfl hp h0 ad]; rfl, hv⟩
  · rename_i t x i
    obtain ⟨h, _⟩ := pureA_none h
    obtain ⟨k, hk, h⟩ := Option.bind_eq_some_iff.1 h
    obtain ⟨ki, hi⟩ := intOfA_V hk (ov i (by simp [Op.operands]))
    split at h
    · rename_i e he
      obtain ⟨sz, hsz, h⟩ := Option.bind_eq_some_iff.1 h
      obtain ⟨ad, m, c, hx, h0, h1, hv⟩ := indexS_V h (ov x (by simp [Op.operands]))
      exact ⟨_, by simp only [execOp, hx, hi, Sem.run_bind, run_indexAt_s w he hsz ad m c ki k h0 h1]; rfl, hv⟩
    · obtain ⟨⟨m, e⟩, he, h⟩ := Option.bind_eq_some_iff.1 h
      obtain ⟨sz, hsz, h⟩ := Option.bind_eq_some_iff.1 h
      obtain ⟨ad, hx, h0, h1, hv⟩ := indexP_V h (ov x (by simp [Op.operands]))
      exact ⟨_, by simp only [execOp, hx, hi, Sem.run_bind, run_indexAt_p w he hsz ad ki k h0 h1]; rfl, hv⟩
  · rename_i x i
    obtain ⟨h, _⟩ := pureA_none h
    obtain ⟨vs, hvs, h⟩ := Option.bind_eq_some_iff.1 h
    obtain ⟨us, hx, hl, hv⟩ := tpOf_V hvs (ov x (by simp [Op.operands]))
    have hlt : i < vs.length := (List.getElem?_eq_some_iff.1 h).1
    have hlt' : i < us.size := by omega
    exact ⟨us[i], by simp [execOp, hx, Instr.extract, hlt'], hv i _ _ h (Array.getElem?_eq_getElem hlt')⟩
  · rename_i t x lo hi mx
    obtain ⟨h, _⟩ := pureA_none h
    obtain ⟨e, he, h⟩ := Option.bind_eq_some_iff.1 h
    obtain ⟨sz, hsz, h⟩ := Option.bind_eq_some_iff.1 h
    obtain ⟨n', hn', h⟩ := Option.bind_eq_some_iff.1 h
    obtain ⟨l, hl, h⟩ := Option.bind_eq_some_iff.1 h
    obtain ⟨hh, hhh, h⟩ := Option.bind_eq_some_iff.1 h
    obtain ⟨ad', len', c', hxv, hnl⟩ := lenA_V hn' (ov x (by simp [Op.operands]))
    have hlo : (lo.map a.eval = none ∧ l = 0) ∨ ∃ k, lo.map a.eval = some (.int k l) := by
      cases lo with
      | none => simp only [optI, Option.some.injEq] at hl; exact .inl ⟨rfl, hl.symm⟩
      | some y => obtain ⟨k, hk⟩ := intOfA_V hl (ov y (by simp [Op.operands])); exact .inr ⟨k, by simp [hk]⟩
    have hhi : (hi.map a.eval = none ∧ hh = len') ∨ ∃ k, hi.map a.eval = some (.int k hh) := by
      cases hi with
      | none => simp only [optI, Option.some.injEq] at hhh; exact .inl ⟨rfl, by rw [← hhh, hnl]⟩
      | some y => obtain ⟨k, hk⟩ := intOfA_V hhh (ov y (by simp [Op.operands])); exact .inr ⟨k, by simp [hk]⟩
    cases mx with
    | none =>
      obtain ⟨ad, m, c, hx, h0, h1, h2, h3, hv⟩ := sliceA_V h (ov x (by simp [Op.operands]))
      rw [hxv] at hx; injection hx with e1 e2 e3; subst e1; subst e2; subst e3
      refine ⟨_, ?_, hv c' (by simp)⟩
      have := run_slice_cut w he hsz ad' len' c' h3 _ _ none l hh hlo hhi h0 h1 h2 c' (.inl ⟨rfl, rfl⟩)
      simp only [execOp, hxv, Sem.run_bind, Option.map_none, this]; rfl
    | some y =>
      obtain ⟨m, hm, h⟩ := Option.bind_eq_some_iff.1 h
      split at h
      · rename_i hmh
        obtain ⟨rfl, his⟩ := hmh
        obtain ⟨ad, m', c, hx, h0, h1, h2, h3, hv⟩ := sliceA_V h (ov x (by simp [Op.operands]))
        rw [hxv] at hx; injection hx with e1 e2 e3; subst e1; subst e2; subst e3
        obtain ⟨km, hkm⟩ := intOfA_V hm (ov y (by simp [Op.operands]))
        refine ⟨_, ?_, hv m.toNat (by simp)⟩
        have := run_slice_cut w he hsz ad' len' c' h3 _ _ (some (.int km m)) l m hlo hhi h0 h1 h2 m.toNat (.inr ⟨⟨km, rfl⟩, rfl, by simpa using his⟩)
        simp only [execOp, hxv, Sem.run_bind, Option.map_some, hkm, this]; rfl
      · cases h
  · rename_i c
    obtain ⟨h, _⟩ := pureA_none h
    obtain ⟨callee, args, argTypes⟩ := c
    simp only [Op.operands, Call.operands] at ov
    obtain ⟨args⟩ := args
    obtain ⟨argTypes⟩ := argTypes
    simp only at h
    unfold nevCall at h
    split at h
    · rename_i x t _
      obtain ⟨e, he, h⟩ := Option.bind_eq_some_iff.1 h
      obtain ⟨m, hm, rfl⟩ := Option.map_eq_some_iff.1 h
      obtain ⟨ad, l, c, hx, rfl⟩ := lenA_V hm (ov x (by simp))
      refine ⟨.int .i64 l, ?_, .d _ _ (.i _ _)⟩
      simp [execOp, resolve, invoke, builtin, hx, run_len_s w he]
    · rename_i x y _
      split at h
      · rename_i k p k' q hx hy
        injection h with h; subst h
        have vx := ov x (by simp)
        have vy := ov y (by simp)
        rw [hx] at vx; rw [hy] at vy
        cases vx with | d _ _ vx => cases vy with | d _ _ vy =>
        generalize hex : a.eval x = ux at vx
        generalize hey : a.eval y = uy at vy
        cases vx; cases vy
        exact ⟨_, by simp [execOp, resolve, invoke, builtin, hex, hey, run_max_int2], .d _ _ (.i _ _)⟩
      · cases h
    · rename_i x y _
      split at h
      · rename_i k p k' q hx hy
        injection h with h; subst h
        have vx := ov x (by simp)
        have vy := ov y (by simp)
        rw [hx] at vx; rw [hy] at vy
        cases vx with | d _ _ vx => cases vy with | d _ _ vy =>
        generalize hex : a.eval x = ux at vx
        generalize hey : a.eval y = uy at vy
        cases vx; cases vy
        exact ⟨_, by simp [execOp, resolve, invoke, builtin, hex, hey, run_min_int2], .d _ _ (.i _ _)⟩
      · cases h
    · cases h
  · rename_i s x f
    obtain ⟨h, _⟩ := pureA_none h
    obtain ⟨⟨off, ag, sz⟩, hp, h⟩ := Option.bind_eq_some_iff.1 h
    obtain ⟨cs, hcs, h⟩ := Option.bind_eq_some_iff.1 h
    obtain ⟨vs, hx, hl, hV⟩ := agOf_V hcs (ov x (by simp [Op.operands]))
    unfold tfld at hp
    split at hp
    · rename_i fs hu
      obtain ⟨g, hg, hp⟩ := Option.bind_eq_some_iff.1 hp
      obtain ⟨a', ha', hp⟩ := Option.bind_eq_some_iff.1 hp
      obtain ⟨z, hz, hp⟩ := Option.map_eq_some_iff.1 hp
      injection hp with e1 e2; injection e2 with e2 e3; subst e1; subst e2; subst e3
      cases a'
      · simp only [Bool.false_eq_true, if_false] at h
        have hlt : g.offset < vs.size := by rw [← hl]; exact (List.getElem?_eq_some_iff.1 h).1
        have hv := Array.getElem?_eq_getElem hlt
        refine ⟨vs[g.offset], ?_, hV _ _ _ h hv⟩
        simp [execOp, hx, Instr.field, run_underlying hu, hg, asAgg, part, run_isAgg w ha', hv]
      · simp only [if_true] at h
        split at h
        · rename_i hfit
          injection h with h; subst h
          refine ⟨.agg (vs.extract g.offset (g.offset + z)), by simp [execOp, hx, Instr.field, run_underlying hu, hg, asAgg, part, run_isAgg w ha', run_sizeOf w hz], .ag _ _ (by simp; omega) fun k c u hc hu' => ?_⟩
          have hk : k < z := by
            rcases Nat.lt_or_ge k z with h | h
            · exact h
            · rw [List.getElem?_take, if_neg (by omega)] at hc; cases hc
          rw [List.getElem?_take, if_pos hk, List.getElem?_drop] at hc
          rw [Array.getElem?_extract] at hu'
          rw [if_pos (by omega)] at hu'
          exact hV _ _ _ hc hu'
        · cases h
    · cases hp
  · obtain ⟨p, _, h⟩ := Option.bind_eq_some_iff.1 h
    obtain ⟨k, _, h⟩ := Option.bind_eq_some_iff.1 h
    obtain ⟨_, _, h⟩ := Option.map_eq_some_iff.1 h
    cases h
  · cases h
end

end Go.Am
