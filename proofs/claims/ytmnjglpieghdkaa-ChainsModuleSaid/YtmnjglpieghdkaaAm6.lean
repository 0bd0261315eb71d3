/- The abstract machine, part 6: 'nev' is right. No condition. -/
import Derived.Test.YtmnjglpieghdkaaAm5
namespace Go.Am

section
variable {P : Program} {F : Nat → Prop} {w : World} {ι : Nat → Option Nat}

theorem intOfA_V {x : AV} {v : Value} {n : Int} (h : intOfA x = some n) (hv : V F w ι x v) : ∃ k, v = .int k n := by
  unfold intOfA at h
  split at h
  · injection h with h; subst h; cases hv with | d _ _ hv => cases hv; exact ⟨_, rfl⟩
  · cases h

theorem boolOfA_V {x : AV} {v : Value} {n : Bool} (h : boolOfA x = some n) (hv : V F w ι x v) : v = .bool n := by
  unfold boolOfA at h
  split at h
  · injection h with h; subst h; cases hv with | d _ _ hv => cases hv; rfl
  · cases h

theorem tarr_und {t : TypeId} {p : Nat × TypeId} (h : tarr P t = some p) : P.underlying t = some (.array p.1 p.2) := by
  unfold tarr at h; split at h
  · injection h with h; subst h; assumption
  · cases h

theorem tint_und {t : TypeId} {k : IntKind} (h : tint P t = some k) : P.underlying t = some (.int k) := by
  unfold tint at h; split at h
  · injection h with h; subst h; assumption
  · cases h

theorem elem_of {t e : TypeId} (h : P.underlying t = some (.slice e)) : P.underlying t = some (.slice (P.elem t)) := by
  rw [h]; simp [Program.elem, h]

theorem fieldA_V {off : Nat} {x r : AV} {v : Value} (h : fieldA off x = some r) (hv : V F w ι x v) : ∃ ad, v = .pointer (some ad) ∧ V F w ι r (.pointer (some (ad.add off))) := by
  unfold fieldA at h
  split at h
  · injection h with h; subst h
    cases hv with | ptr id o b hι => exact ⟨_, rfl, by rw [add_mk]; exact .ptr _ _ _ hι⟩
  · injection h with h; subst h
    cases hv with | fp cs ad f hF hcell hel =>
    refine ⟨_, rfl, .fp _ _ (fun j => f (off + j)) (by rw [block_add]; exact hF) (fun j hj => ?_) (fun k c hk => ?_)⟩
    · rw [add_add]; exact hcell _ (by simp at hj; omega)
    · rw [List.getElem?_drop] at hk; exact hel _ _ hk
  · cases h

theorem VD_elem {els : List (List D)} {ad : Option Addr} {n c k : Nat} {cs : List D} (h : VD F w (.sl els) (.slice ad n c)) (hk : els[k]? = some cs) (ι : Nat → Option Nat) :
    ∃ a, ad = some a ∧ k < n ∧ V F w ι (.fp cs) (.pointer (some (a.add (k * cs.length)))) := by
  have hlt : k < els.length := (List.getElem?_eq_some_iff.1 hk).1
  cases h with
  | sl0 => simp at hk
  | sl _ a _ _ sz f hn hc hsz hF hcell hel =>
    have hs : cs.length = sz := hsz cs (List.mem_of_getElem? hk)
    refine ⟨a, rfl, by omega, ?_⟩
    subst hs
    refine .fp _ _ (fun j => f (k * cs.length + j)) (by rw [block_add]; exact hF) (fun j hj => ?_) (fun j c hj => hel k j cs c hk hj)
    rw [add_add]
    refine hcell _ ?_
    have h1 : (k + 1) * cs.length ≤ n * cs.length := Nat.mul_le_mul_right _ (by omega)
    rw [Nat.add_mul, Nat.one_mul] at h1
    omega

theorem indexS_V {sz : Nat} {k : Int} {x r : AV} {v : Value} (h : indexS sz k x = some r) (hv : V F w ι x v) :
    ∃ a n c, v = .slice (some a) n c ∧ 0 ≤ k ∧ k < n ∧ V F w ι r (.pointer (some (a.add (k.toNat * sz)))) := by
  unfold indexS at h
  split at h
  · rename_i els
    split at h
    · rename_i hk0
      obtain ⟨cs, hcs, h⟩ := Option.bind_eq_some_iff.1 h
      split at h
      · rename_i hl
        injection h with h; subst h; subst hl
        cases hv with | d _ _ hh =>
        obtain ⟨ad, c, rfl, _⟩ := VD_slice hh
        obtain ⟨a, rfl, h1, h2⟩ := VD_elem hh hcs ι
        exact ⟨a, _, _, rfl, hk0, by omega, h2⟩
      · cases h
    · cases h
  · rename_i els
    split at h
    · rename_i hk0
      obtain ⟨cs, hcs, h⟩ := Option.bind_eq_some_iff.1 h
      split at h
      · rename_i hl
        injection h with h; subst h; subst hl
        obtain ⟨ad, rfl, hh⟩ := V_fd_len hv
        obtain ⟨a, rfl, h1, h2⟩ := VD_elem hh hcs ι
        exact ⟨a, _, _, rfl, hk0, by omega, h2⟩
      · cases h
    · cases h
  · split at h
    · rename_i hk
      obtain ⟨h0, h1, rfl⟩ := hk
      injection h with h; subst h
      cases hv with | own id off len _ b cap cur e hι hb hcap hl hm =>
      refine ⟨_, _, _, rfl, h0, by omega, ?_⟩
      rw [add_mk, ← Nat.add_mul]
      exact .ptr _ _ _ hι
    · cases h
  · cases h

theorem indexP_V {sz m : Nat} {k : Int} {x r : AV} {v : Value} (h : indexP sz m k x = some r) (hv : V F w ι x v) :
    ∃ a, v = .pointer (some a) ∧ 0 ≤ k ∧ k < m ∧ V F w ι r (.pointer (some (a.add (k.toNat * sz)))) := by
  unfold indexP at h
  split at h
  · split at h
    · rename_i hk
      injection h with h; subst h
      cases hv with | ptr id o b hι => exact ⟨_, rfl, hk.1, hk.2, by rw [add_mk]; exact .ptr _ _ _ hι⟩
    · cases h
  · split at h
    · rename_i hk
      injection h with h; subst h
      cases hv with | fp cs ad f hF hcell hel =>
      refine ⟨_, rfl, hk.1, hk.2, .fp _ _ (fun j => f (k.toNat * sz + j)) (by rw [block_add]; exact hF) (fun j hj => ?_) (fun j c hc => ?_)⟩
      · rw [add_add]; exact hcell _ (by simp at hj; omega)
      · rw [List.getElem?_drop] at hc; exact hel _ _ hc
    · cases h
  · cases h

theorem pureA_none {x : Option AV} {av : AV} {ho : Option HO} (h : pureA x = some (av, ho)) : x = some av ∧ ho = none := by
  unfold pureA at h
  obtain ⟨v, hv, h⟩ := Option.map_eq_some_iff.1 h
  injection h with h1 h2
  subst h1
  exact ⟨hv, h2.symm⟩

theorem run_struct_zero {t : TypeId} {z : Value} {fs : Array Field} (hz : tz P t = some z) (hu : P.underlying t = some (.struct fs)) (ps : Array (Nat × Nat)) (parts : Array (Nat × Value)) (cells : Array Value)
    (hm : (fs.mapM (m := Sem) fun f => do pure (f.offset, ← sizeOf f.type)).run P w = .ok ps w) (hf : Instr.fill (ps[·]?) z.cells parts.toList = some cells) :
    (Instr.build t parts).run P w = .ok (.agg cells) w := by
  simp only [Instr.build, Sem.run_bind, run_zeroValue w hz, Result.andThen_ok, run_underlying hu, hm, hf]
  rfl

theorem CV_zero {z : Value} (h : z.cells.all Value.oneCell' = true) : CV F w ι (z.cells.toList.map cv1) z.cells :=
  ⟨by simp, V_cells _, fun u hu => Array.all_eq_true_iff_forall_mem.1 h u hu⟩

theorem parts_V {Γ : Nat → AV} {a : Act} {ps : Array (Nat × Operand)} (h : ∀ p ∈ ps, V F w ι (oev Γ p.2) (a.eval p.2)) :
    (ps.toList.map fun p => (p.1, oev Γ p.2)).length = (ps.map fun p => (p.1, a.eval p.2)).toList.length ∧
    ∀ (k : Nat) p q, (ps.toList.map fun p => (p.1, oev Γ p.2))[k]? = some p → (ps.map fun p => (p.1, a.eval p.2)).toList[k]? = some q → p.1 = q.1 ∧ V F w ι p.2 q.2 := by
  refine ⟨by simp, fun k p q hp hq => ?_⟩
  simp only [List.getElem?_map, Array.toList_map, Array.getElem?_toList] at hp hq
  cases hx : ps[k]? with
  | none => simp [hx] at hp
  | some x =>
    simp only [hx, Option.map_some, Option.some.injEq] at hp hq
    subst hp; subst hq
    exact ⟨rfl, h x (Array.mem_of_getElem? hx)⟩
end

end Go.Am
