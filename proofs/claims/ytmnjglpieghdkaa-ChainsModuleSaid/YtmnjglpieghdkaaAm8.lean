/- The abstract machine, part 8: operations that make a block. No condition. -/
import Derived.Test.YtmnjglpieghdkaaAm7
namespace Go.Am

theorem get_flat {α : Type} (zs : List α) (hz : 0 < zs.length) : ∀ (n k : Nat), k < n * zs.length → (List.replicate n zs).flatten[k]? = zs[k % zs.length]?
  | 0, k, h => by omega
  | n + 1, k, h => by
    rw [List.replicate_succ, List.flatten_cons]
    by_cases hk : k < zs.length
    · rw [List.getElem?_append_left hk, Nat.mod_eq_of_lt hk]
    · rw [List.getElem?_append_right (by omega), get_flat zs hz n (k - zs.length) (by rw [Nat.add_mul, Nat.one_mul] at h; omega)]
      congr 1
      exact (Nat.mod_eq_sub_mod (by omega)).symm

theorem len_flat {α : Type} (zs : List α) (n : Nat) : (List.replicate n zs).flatten.length = n * zs.length := by simp

section
variable {P : Program} {F : Nat → Prop} {w : World} {ι : Nat → Option Nat}

theorem CV_made {z : Array Value} {sz n m : Nat} (hz : z.size = sz) (h0 : 0 < sz) (hone : z.all Value.oneCell' = true) (hnm : n ≤ m) :
    ((List.replicate n (z.toList.map cv1)).flatten.length ≤ (madeCells z (m * sz)).size) ∧
    ∀ (k : Nat) c, (List.replicate n (z.toList.map cv1)).flatten[k]? = some c → ∃ u, (madeCells z (m * sz))[k]? = some u ∧ V F w ι c u ∧ u.oneCell' = true := by
  have hl : (z.toList.map cv1).length = sz := by simp [hz]
  have hmul : n * sz ≤ m * sz := Nat.mul_le_mul_right _ hnm
  refine ⟨by rw [len_flat, hl, size_madeCells]; exact hmul, fun k c hk => ?_⟩
  have hlt : k < n * sz := by
    have := (List.getElem?_eq_some_iff.1 hk).1
    rwa [len_flat, hl] at this
  rw [get_flat _ (by omega) n k (by rw [hl]; exact hlt), hl] at hk
  have hm : k % sz < z.size := by rw [hz]; exact Nat.mod_lt _ h0
  refine ⟨z[k % sz], ?_, V_cells z (k % sz) c _ hk (Array.getElem?_eq_getElem hm), Array.all_eq_true_iff_forall_mem.1 hone _ (Array.getElem_mem hm)⟩
  simp only [madeCells, Array.getElem?_map, Array.getElem?_range, hz]
  rw [if_pos (by omega)]
  simp [hm]

theorem CV_of_made {z : Array Value} {sz n : Nat} (hz : z.size = sz) (h0 : 0 < sz) (hone : z.all Value.oneCell' = true) :
    CV F w ι (List.replicate n (z.toList.map cv1)).flatten ((Array.range (n * sz)).map (z[· % z.size]!)) := by
  obtain ⟨_, h2⟩ := CV_made (F := F) (w := w) (ι := ι) hz h0 hone (Nat.le_refl n)
  have hl : (List.replicate n (z.toList.map cv1)).flatten.length = n * sz := by rw [len_flat]; simp [hz]
  refine ⟨by rw [hl]; simp, fun k c u hc hu => ?_, fun u hu => ?_⟩
  · obtain ⟨u', hu', hv, _⟩ := h2 k c hc
    rw [show (madeCells z (n * sz)) = ((Array.range (n * sz)).map (z[· % z.size]!)) from rfl, hu] at hu'
    injection hu' with hu'; subst hu'; exact hv
  · obtain ⟨k, hk, rfl⟩ := Array.mem_iff_getElem.1 hu
    have hk' : k < (List.replicate n (z.toList.map cv1)).flatten.length := by rw [hl]; simpa using hk
    obtain ⟨u', hu', _, ho⟩ := h2 k _ (List.getElem?_eq_getElem hk')
    rw [show (madeCells z (n * sz)) = ((Array.range (n * sz)).map (z[· % z.size]!)) from rfl, Array.getElem?_eq_getElem hk] at hu'
    injection hu' with hu'; rw [hu']; exact ho

theorem CR_of_CV {e : TypeId} {cs : List AV} {vs : Array Value} (h : CV F w ι cs vs) : CR F w ι (.cells e cs) (.cells vs e (0, 0)) :=
  .cells _ _ _ (by have := h.1; omega) fun k c hk => let ⟨u, h1, h2⟩ := h.get hk; ⟨u, h1, h2⟩

variable {G : Ctx} {o : Oper} {Γ : Nat → AV} {C : Nat → Prop} {H : Nat → Option HO} {n : Nat}

theorem nev_alloc {av : AV} {ho : HO} (h : nev P o.op Γ n = some (av, some ho)) (hH : H n = some ho) : Y P G o Γ C H H av (· = n) none' := by
  refine y_alloc hH fun F w ι a hop => ?_
  have ov : ∀ x ∈ o.op.operands, V F w ι (oev Γ x) (a.eval x) := fun x hx => V_oev fun t e => hop t (e ▸ hx)
  obtain ⟨dst, op, type, pos, after, guard⟩ := o
  simp only at h ov ⊢
  unfold nev at h
  split at h <;> try (obtain ⟨_, h⟩ := pureA_none h; cases h; done)
  · injection h with h; injection h with _ h; cases h
  · injection h with h; injection h with _ h; cases h
  · rename_i e
    obtain ⟨z, hz, h⟩ := Option.map_eq_some_iff.1 h
    injection h with h1 h2; subst h1; injection h2 with h2; subst h2
    refine ⟨.pointer (some ⟨w.heap.size, 0, none⟩), .cells z.cells e, w.alloc (.cells z.cells e), ?_, .alloc _ _, fun F' w' ι' hs hι hb => ⟨.cells _ _ _ (by simp) (fun k c hk => ?_), .ptr _ _ _ hι⟩⟩
    · simp only [execOp, Instr.alloc, Sem.run_bind, run_zeroValue w hz, Result.andThen_ok, newVar, newRow, run_newObj, Sem.run_pure, World.alloc_eq]
    · simp only [List.getElem?_map, Array.getElem?_toList] at hk
      obtain ⟨u, hu, rfl⟩ := Option.map_eq_some_iff.1 hk
      exact ⟨u, hu, V_cv1 u⟩
  · rename_i e x
    obtain ⟨cs, hcs, h⟩ := Option.map_eq_some_iff.1 h
    injection h with h1 h2; subst h1; injection h2 with h2; subst h2
    have hc := cellsA_V hcs (ov x (by simp [Op.operands]))
    refine ⟨.pointer (some ⟨w.heap.size, 0, none⟩), .cells (a.eval x).cells e, w.alloc (.cells (a.eval x).cells e), ?_, .alloc _ _, fun F' w' ι' hs hι hb => ⟨CR_of_CV (hc.step hs), .ptr _ _ _ hι⟩⟩
    simp only [execOp, Instr.box, Sem.run_bind, newVar, newRow, run_newObj, Result.andThen_ok, Sem.run_pure, World.alloc_eq]
  · rename_i t len ps
    obtain ⟨e, he, h⟩ := Option.bind_eq_some_iff.1 h
    obtain ⟨sz, hsz, h⟩ := Option.bind_eq_some_iff.1 h
    obtain ⟨z, hz, h⟩ := Option.bind_eq_some_iff.1 h
    split at h
    · rename_i hc
      obtain ⟨h1, h2, h3, h4⟩ := hc
      obtain ⟨cs, hcs, h⟩ := Option.map_eq_some_iff.1 h
      injection h with e1 e2; subst e1; injection e2 with e2; subst e2
      have hp := parts_V (F := F) (w := w) (ι := ι) (Γ := Γ) (a := a) (ps := ps) fun p hp => ov p.2 (by simp [Op.operands]; exact ⟨p.1, hp⟩)
      obtain ⟨us, hus, hcv⟩ := fillA_V _ _ _ _ _ _ (CV_of_made (F := F) (w := w) (ι := ι) (n := len) h1 h2 h4) hp.1 hp.2 hcs
      have hsize : us.size = len * sz := by
        have hfl : ∀ (parts : List (Nat × AV)) (cells out : List AV) (pl : Nat → Option (Nat × Nat)), fillA pl cells parts = some out → out.length = cells.length := by
          intro parts
          induction parts with
          | nil => intro cells out pl h; simp only [fillA, Option.some.injEq] at h; rw [h]
          | cons p parts ih =>
            intro cells out pl h
            obtain ⟨i, x⟩ := p
            simp only [fillA] at h
            split at h
            · split at h
              · rename_i hx; rw [ih _ _ _ h, lay_length hx.2]
              · cases h
            · cases h
        have := hfl _ _ _ _ hcs
        rw [← hcv.1, this, len_flat]; simp [h1]
      refine ⟨.slice (some ⟨w.heap.size, 0, none⟩) len len, .cells us e, w.alloc (.cells us e), ?_, .alloc _ _, fun F' w' ι' hs hι hb => ⟨CR_of_CV (hcv.step hs), ?_⟩⟩
      · have hf : Instr.fill (fun i => some (i * sz, sz)) ((Array.range (len * sz)).map (z.cells[· % z.cells.size]!)) (ps.map fun p => (p.1, a.eval p.2)).toList = some us := hus
        have hbig : ¬ (len * sz > 2 ^ 24) := by omega
        by_cases h0 : len * sz = 0
        · simp only [h0, Array.range_zero', Array.map_empty] at hf
          simp only [execOp, Instr.buildSlice, Sem.run_bind, run_underlying (tel_und he), Result.andThen_ok, run_sizeOf w hsz, h0, if_true, Sem.run_pure, Array.range_zero', Array.map_empty]
          rw [if_neg (by omega)]
          simp only [Sem.run_bind, Sem.run_pure, Result.andThen_ok, hf]
          simp [newRow]
        · simp only [execOp, Instr.buildSlice, Sem.run_bind, run_underlying (tel_und he), Result.andThen_ok, run_sizeOf w hsz]
          rw [if_neg hbig, if_neg h0]
          simp only [Sem.run_bind, Sem.run_pure, Result.andThen_ok, run_zeroValue w hz, hf]
          simp [newRow]
      · have := V.own (F := F') (w := w') (ι := ι') n 0 len sz w.heap.size len us e hι hb (by rw [hsize]; simp) (Nat.le_refl _) (by
          have hx : len * 1 ≤ len * sz := Nat.mul_le_mul_left _ (by omega)
          simp only [maxLen]; omega)
        simpa using this
    · cases h
  · rename_i t l c
    obtain ⟨e, he, h⟩ := Option.bind_eq_some_iff.1 h
    obtain ⟨sz, hsz, h⟩ := Option.bind_eq_some_iff.1 h
    obtain ⟨z, hz, h⟩ := Option.bind_eq_some_iff.1 h
    obtain ⟨y, hy, h⟩ := Option.bind_eq_some_iff.1 h
    obtain ⟨x, hx, h⟩ := Option.bind_eq_some_iff.1 h
    obtain ⟨b, hb', h⟩ := Option.bind_eq_some_iff.1 h
    split at h
    · rename_i hc
      obtain ⟨h1, h2, h3, h4, h5, h6, h7⟩ := hc
      injection h with h; injection h with e1 e2; subst e1; injection e2 with e2; subst e2
      obtain ⟨kl, hl⟩ := intOfA_V hx (ov l (by simp [Op.operands]))
      obtain ⟨kc, hcc⟩ := intOfA_V hb' (ov c (by simp [Op.operands]))
      obtain ⟨i, hi, rfl⟩ := Option.map_eq_some_iff.1 hsz
      have hz' : i.zero = some z := by obtain ⟨j, hj, hjz⟩ := Option.bind_eq_some_iff.1 hz; rw [hi] at hj; injection hj with hj; subst hj; exact hjz
      have hy' : i.bytes = y := by obtain ⟨j, hj, hjz⟩ := Option.map_eq_some_iff.1 hy; rw [hi] at hj; injection hj with hj; subst hj; exact hjz
      have hr := run_make (P := P) w t e i z (tel_und he) hi hz' kl kc x b h4 h5 (by rw [hy']; exact h6) h7
      refine ⟨.slice (some ⟨w.heap.size, 0, none⟩) x.toNat b.toNat, _, _, ?_, .alloc w (.cells (madeCells z.cells (b.toNat * i.size)) e), fun F' w' ι' hs hι hb => ⟨?_, ?_⟩⟩
      · simp only [execOp, Sem.run_bind, hl, hcc, hr]; rfl
      · obtain ⟨q1, q2⟩ := CV_made (F := F') (w := w') (ι := ι') (z := z.cells) (n := x.toNat) (m := b.toNat) h1 h2 h3 (by omega)
        exact .cells _ _ _ q1 fun k c hk => let ⟨u, u1, u2, _⟩ := q2 k c hk; ⟨u, u1, u2⟩
      · have := V.own (F := F') (w := w') (ι := ι') n 0 x.toNat i.size w.heap.size b.toNat _ e hι hb (by rw [size_madeCells]; simp) (by omega) (by simp only [maxLen]; omega)
        simpa using this
    · cases h
  · rename_i t r
    obtain ⟨p, hp, h⟩ := Option.bind_eq_some_iff.1 h
    obtain ⟨k, _, h⟩ := Option.bind_eq_some_iff.1 h
    obtain ⟨i, hi, h⟩ := Option.map_eq_some_iff.1 h
    injection h with e1 e2; subst e1; injection e2 with e2; subst e2
    have hu : P.underlying t = some (.map p.1 p.2) := by
      unfold tmp at hp; split at hp
      · injection hp with hp; subst hp; assumption
      · cases hp
    refine ⟨.map (some w.heap.size), .map #[] 0, w.alloc (.map #[] 0), ?_, .alloc _ _, fun F' w' ι' hs hι hb => ⟨.map _ _ _ _ rfl (MapKept.stamped_empty 0) fun j x h => by simp at h, .mp _ _ hι⟩⟩
    cases r with
    | none => simp [execOp, Instr.makeMap]
    | some x =>
      obtain ⟨kk, hx⟩ := intOfA_V hi (ov x (by simp [Op.operands]))
      simp [execOp, hx, Instr.makeMap, run_underlying hu, asInt, asIntOf]
  · cases h
end

end Go.Am
