/- The abstract machine, part 9: operations that read blocks: load, append. No condition. -/
import Derived.Test.YtmnjglpieghdkaaAm8
namespace Go.Am

def loadA (P : Program) (H : Nat → Option HO) (t : TypeId) : AV → Option AV
  | .ptr id off => (tagg P t).bind fun ag => match H id with
    | some (.cells _ cs) => if ag then (tsz P t).bind fun sz => if off + sz ≤ cs.length then some (.ag ((cs.drop off).take sz)) else none else cs[off]?
    | _ => none
  | .fp cs => (tagg P t).bind fun ag => if ag then (tsz P t).bind fun sz => if sz ≤ cs.length then some (.ag ((cs.take sz).map .d)) else none else (cs[0]?).map .d
  | _ => none

/-- The cells of what is appended: how many elements, their cells. -/
def srcA (H : Nat → Option HO) (sz : Nat) : AV → Option (Nat × List AV)
  | .nil => some (0, [])
  | .own id off len sz' => match H id with
    | some (.cells _ cs) => if sz' = sz ∧ (off + len) * sz ≤ cs.length ∧ ((cs.drop (off * sz)).take (len * sz)).all one = true then some (len, (cs.drop (off * sz)).take (len * sz)) else none
    | _ => none
  | .d (.sl els) | .fd els => if okHead sz els = true ∧ (els.flatten.map AV.d).all one = true then some (els.length, els.flatten.map .d) else none
  | _ => none

section
variable {P : Program} {F : Nat → Prop} {w : World} {ι : Nat → Option Nat} {G : Ctx} {C : Nat → Prop} {H K : Nat → Option HO}

theorem HR.cells (hR : HR G F w ι C K) (hHK : ∀ id o, H id = some o → K id = some o) {id b : Nat} (hι : ι id = some b) {e : TypeId} {cs : List AV} (hH : H id = some (.cells e cs)) :
    ∃ cur, w.heap[b]? = some (.cells cur e (0, 0)) ∧ cs.length ≤ cur.size ∧ ∀ (k : Nat) c, cs[k]? = some c → ∃ u, cur[k]? = some u ∧ V F w ι c u := by
  obtain ⟨ob, h2, h3⟩ := hR.obj id b _ hι (hHK _ _ hH)
  cases h3 with | cells _ _ cur hl h => exact ⟨cur, h2, hl, h⟩

theorem run_load1 {a : Addr} {v : Value} (h : w.cell? a = some v) : (load a).run P w = .ok v w := by
  simp [load, Sem.run, h]

theorem run_loadVar_agg {t : TypeId} {sz : Nat} {a : Addr} (f : Nat → Value) (ht : tagg P t = some true) (hs : tsz P t = some sz) (h : ∀ j, j < sz → w.cell? (a.add j) = some (f j)) :
    (loadVar t a).run P w = .ok (.agg ((List.range sz).map f).toArray) w := by
  simp only [loadVar, Sem.run_bind, run_isAgg w ht, Result.andThen_ok, if_true, run_sizeOf w hs, run_loadCells w a sz f h, Sem.run_pure]

theorem run_loadVar_one {t : TypeId} {a : Addr} {v : Value} (ht : tagg P t = some false) (h : w.cell? a = some v) : (loadVar t a).run P w = .ok v w := by
  simp only [loadVar, Sem.run_bind, run_isAgg w ht, Result.andThen_ok]
  exact run_load1 h

theorem loadA_V (hR : HR G F w ι C K) (hHK : ∀ id o, H id = some o → K id = some o) {t : TypeId} {x r : AV} {v : Value} (h : loadA P H t x = some r) (hv : V F w ι x v) :
    ∃ u, (Instr.loadAt t v).run P w = .ok u w ∧ V F w ι r u := by
  unfold loadA at h
  split at h
  · rename_i id off
    obtain ⟨ag, hag, h⟩ := Option.bind_eq_some_iff.1 h
    cases hv with | ptr _ _ b hι =>
    split at h
    · rename_i e cs hH
      obtain ⟨cur, hb, hl, hc⟩ := hR.cells hHK hι hH
      have hcell : ∀ j, w.cell? ((⟨b, off, none⟩ : Addr).add j) = cur[off + j]? := fun j => by rw [add_mk]; exact cell_of_row w b _ cur e (0, 0) hb
      cases ag
      · simp only [Bool.false_eq_true, if_false] at h
        obtain ⟨u, hu, hv⟩ := hc off r h
        refine ⟨u, ?_, hv⟩
        have h0 := hcell 0
        simp only [Nat.add_zero] at h0
        have : (⟨b, off, none⟩ : Addr).add 0 = ⟨b, off, none⟩ := by simp [Addr.add]
        rw [this, hu] at h0
        simp only [Instr.loadAt, Instr.sureAddr, Sem.run_bind, Sem.run_pure, Result.andThen_ok, run_loadVar_one hag h0]
      · simp only [if_true] at h
        obtain ⟨sz, hsz, h⟩ := Option.bind_eq_some_iff.1 h
        split at h
        · rename_i hfit
          injection h with h; subst h
          refine ⟨.agg ((List.range sz).map fun j => cur.getD (off + j) undef).toArray, ?_, .ag _ _ ?_ fun k c u hk hu => ?_⟩
          · simp only [Instr.loadAt, Instr.sureAddr, Sem.run_bind, Sem.run_pure, Result.andThen_ok]
            exact run_loadVar_agg _ hag hsz fun j hj => by rw [hcell, Array.getElem?_eq_getElem (by omega)]; simp [show off + j < cur.size by omega]
          · simp; omega
          · rw [List.getElem?_take] at hk
            split at hk
            · rename_i hks
              rw [List.getElem?_drop] at hk
              obtain ⟨u', hu', hv⟩ := hc _ _ hk
              simp only [List.getElem?_toArray, List.getElem?_map, List.getElem?_range hks, Option.map_some, Option.some.injEq] at hu
              subst hu
              have hlt := (Array.getElem?_eq_some_iff.1 hu').1
              rw [Array.getElem?_eq_getElem hlt] at hu'
              injection hu' with hu'
              simpa [hlt, hu'] using hv
            · cases hk
        · cases h
    · cases h
  · rename_i cs
    obtain ⟨ag, hag, h⟩ := Option.bind_eq_some_iff.1 h
    cases hv with | fp _ ad f hF hcell hel =>
    cases ag
    · simp only [Bool.false_eq_true, if_false] at h
      obtain ⟨c, hc, rfl⟩ := Option.map_eq_some_iff.1 h
      have hlt : 0 < cs.length := (List.getElem?_eq_some_iff.1 hc).1
      refine ⟨f 0, ?_, .d _ _ (hel 0 c hc)⟩
      have h0 := hcell 0 hlt
      have : ad.add 0 = ad := by simp [Addr.add]
      rw [this] at h0
      simp only [Instr.loadAt, Instr.sureAddr, Sem.run_bind, Sem.run_pure, Result.andThen_ok, run_loadVar_one hag h0]
    · simp only [if_true] at h
      obtain ⟨sz, hsz, h⟩ := Option.bind_eq_some_iff.1 h
      split at h
      · rename_i hfit
        injection h with h; subst h
        refine ⟨.agg ((List.range sz).map f).toArray, ?_, .ag _ _ ?_ fun k c u hk hu => ?_⟩
        · simp only [Instr.loadAt, Instr.sureAddr, Sem.run_bind, Sem.run_pure, Result.andThen_ok]
          exact run_loadVar_agg _ hag hsz fun j hj => hcell j (by omega)
        · simp; omega
        · rw [List.getElem?_map] at hk
          obtain ⟨d, hd, rfl⟩ := Option.map_eq_some_iff.1 hk
          rw [List.getElem?_take] at hd
          split at hd
          · rename_i hks
            simp only [List.getElem?_toArray, List.getElem?_map, List.getElem?_range hks, Option.map_some, Option.some.injEq] at hu
            subst hu
            exact .d _ _ (hel k d hd)
          · cases hd
      · cases h
  · cases h

/-- The source's cells, as values in memory. -/
theorem srcA_V (hR : HR G F w ι C K) (hHK : ∀ id o, H id = some o → K id = some o) {sz m : Nat} {x : AV} {cs : List AV} {v : Value} (h : srcA H sz x = some (m, cs)) (hv : V F w ι x v) :
    ∃ ad c, ∃ news : List Value, v = .slice ad m c ∧ CV F w ι cs news.toArray ∧ cs.length = m * sz ∧ (∀ a, ad = some a → ∀ j u, news[j]? = some u → w.cell? (a.add j) = some u) ∧ (ad = none → m = 0) := by
  have data : ∀ (els : List (List D)) (ad : Option Addr) (c : Nat), VD F w (.sl els) (.slice ad els.length c) → okHead sz els = true → (els.flatten.map AV.d).all one = true →
      ∃ news : List Value, CV F w ι (els.flatten.map .d) news.toArray ∧ (els.flatten.map AV.d).length = els.length * sz ∧ (∀ a, ad = some a → ∀ j u, news[j]? = some u → w.cell? (a.add j) = some u) ∧ (ad = none → els.length = 0) := by
    intro els ad c hh hok hone
    have hall := VD_sizes hh (okHead_spec hok)
    have hlen : els.flatten.length = els.length * sz := by
      clear hh hok hone
      induction els with
      | nil => simp
      | cons a l ih =>
        rw [List.flatten_cons, List.length_append, ih fun cs hcs => hall cs (List.mem_cons_of_mem _ hcs), hall a (List.mem_cons_self ..), List.length_cons, Nat.add_mul, Nat.one_mul, Nat.add_comm]
    cases hh with
    | sl0 ad c => exact ⟨[], ⟨rfl, fun k c u hc => by simp at hc, fun u hu => by simp at hu⟩, by simp, fun a _ j u hu => by simp at hu, fun _ => rfl⟩
    | sl _ a n c sz' f hn hc hsz hF hcell hel =>
      have hes : els = [] ∨ sz' = sz := by
        cases els with
        | nil => exact .inl rfl
        | cons a l => exact .inr (by rw [← hsz a (List.mem_cons_self ..), hall a (List.mem_cons_self ..)])
      rcases hes with rfl | rfl
      · exact ⟨[], ⟨rfl, fun k c u hc => by simp at hc, fun u hu => by simp at hu⟩, by simp, fun a _ j u hu => by simp at hu, fun _ => rfl⟩
      · have hget : ∀ (l : List (List D)), (∀ cs ∈ l, cs.length = sz') → ∀ (k : Nat) d, l.flatten[k]? = some d → ∃ cs, l[k / sz']? = some cs ∧ cs[k % sz']? = some d := by
          intro l
          induction l with
          | nil => intro _ k d h; simp at h
          | cons a l ih =>
            intro hl k d h
            have ha : a.length = sz' := hl a (List.mem_cons_self ..)
            rw [List.flatten_cons] at h
            by_cases hk : k < sz'
            · rw [List.getElem?_append_left (by omega)] at h
              exact ⟨a, by rw [Nat.div_eq_of_lt hk]; rfl, by rw [Nat.mod_eq_of_lt hk]; exact h⟩
            · rw [List.getElem?_append_right (by omega), ha] at h
              obtain ⟨cs, h1, h2⟩ := ih (fun cs hcs => hl cs (List.mem_cons_of_mem _ hcs)) _ _ h
              by_cases hz : sz' = 0
              · subst hz
                simp only [Nat.div_zero] at h1 ⊢
                rw [Nat.sub_zero] at h2
                exact (by
                  have : cs.length = 0 := hl cs (List.mem_cons_of_mem _ (List.mem_of_getElem? h1))
                  have := (List.getElem?_eq_some_iff.1 h2).1
                  omega)
              · refine ⟨cs, ?_, by rw [Nat.mod_eq_sub_mod (by omega)]; exact h2⟩
                rw [Nat.div_eq_sub_div (by omega) (by omega), List.getElem?_cons_succ]; exact h1
        refine ⟨(List.range (els.length * sz')).map f, CV_one hone (by rw [List.length_map, hlen]; simp) (V_map_d fun k c u hk hu => ?_), by rw [List.length_map]; exact hlen, fun a' ha j u hu => ?_, fun h => by cases h⟩
        · obtain ⟨cs, h1, h2⟩ := hget els hsz k c hk
          have := hel _ _ _ _ h1 h2
          have hlt : k < els.length * sz' := by rw [← hlen]; exact (List.getElem?_eq_some_iff.1 hk).1
          simp only [List.getElem?_toArray, List.getElem?_map, List.getElem?_range hlt, Option.map_some, Option.some.injEq] at hu
          subst hu
          rwa [Nat.mul_comm, Nat.div_add_mod] at this
        · injection ha with ha; subst ha
          have hlt : j < els.length * sz' := by have := (List.getElem?_eq_some_iff.1 hu).1; simpa using this
          simp only [List.getElem?_map, List.getElem?_range hlt, Option.map_some, Option.some.injEq] at hu
          subst hu
          exact hcell j (by omega)
  unfold srcA at h
  split at h
  · injection h with h; injection h with h1 h2; subst h1; subst h2
    cases hv
    exact ⟨none, 0, [], rfl, ⟨rfl, fun k c u hc => by simp at hc, fun u hu => by simp at hu⟩, by simp, (fun a ha => by cases ha), fun _ => rfl⟩
  · rename_i id off len sz'
    cases hv with | own _ _ _ _ b cap cur' e' hι hb' hcap hl' hm' =>
    split at h
    · rename_i e cs' hH
      split at h
      · rename_i hc
        obtain ⟨rfl, hfit, hone⟩ := hc
        injection h with h; injection h with h1 h2; subst h1; subst h2
        obtain ⟨cur, hb, hl, hcc⟩ := hR.cells hHK hι hH
        rw [hb] at hb'; injection hb' with hb'; injection hb' with e1 e2; subst e1; subst e2
        have hfit' : off * sz' + len * sz' ≤ cs'.length := by rw [← Nat.add_mul]; exact hfit
        refine ⟨_, _, (cur.toList.drop (off * sz')).take (len * sz'), rfl, CV_one hone (by simp; omega) fun k c u hk hu => ?_, by simp; omega, fun a ha j u hu => ?_, fun h => by cases h⟩
        · rw [List.getElem?_take] at hk
          split at hk
          · rename_i hks
            rw [List.getElem?_drop] at hk
            obtain ⟨u', hu', hv⟩ := hcc _ _ hk
            simp only [List.getElem?_toArray, List.getElem?_take, if_pos hks, List.getElem?_drop, Array.getElem?_toList] at hu
            rw [hu'] at hu; injection hu with hu; subst hu; exact hv
          · cases hk
        · injection ha with ha; subst ha
          rw [List.getElem?_take] at hu
          split at hu
          · rw [List.getElem?_drop, Array.getElem?_toList] at hu
            rw [add_mk, cell_of_row w b _ cur e (0, 0) hb]; exact hu
          · cases hu
      · cases h
    · cases h
  · rename_i els
    split at h
    · rename_i hc
      injection h with h; injection h with h1 h2; subst h1; subst h2
      cases hv with | d _ _ hh =>
      obtain ⟨ad, c, rfl, _⟩ := VD_slice hh
      obtain ⟨news, h1, h2, h3, h4⟩ := data els ad c hh hc.1 hc.2
      exact ⟨ad, c, news, rfl, h1, h2, h3, h4⟩
    · cases h
  · rename_i els
    split at h
    · rename_i hc
      injection h with h; injection h with h1 h2; subst h1; subst h2
      obtain ⟨ad, rfl, hh⟩ := V_fd_len hv
      obtain ⟨news, h1, h2, h3, h4⟩ := data els ad _ hh hc.1 hc.2
      exact ⟨ad, _, news, rfl, h1, h2, h3, h4⟩
    · cases h
  · cases h
end

end Go.Am
