/- What is known of the library's functions and of the deferred closures in this program; chapter 26's own check runs to true. No condition. -/
import Derived.Recover
import Derived.Test.YtmnjglpieghdkaaTy
import Derived.Test.YtmnjglpieghdkaaLib0
import Derived.Test.YtmnjglpieghdkaaAm18
open Go Go.Am Go.Proofs
namespace Go.Am
def clOk (els : List (List D)) : Bool := els.all (fun cs => match cs with | [d] => one (.d d) | _ => false) && decide (els.length ≤ 1099511627776)
set_option maxRecDepth 10000 in
theorem clone_any (els : List (List D)) (h : clOk els = true) : Spec Try.prog 107 [.sl els] (.sl els) := by
  have hone : ∀ els : List (List D), els.all (fun cs => match cs with | [d] => one (.d d) | _ => false) = true → (els.flatten.map AV.d).all one = true ∧ els.flatten.length = els.length ∧ okHead 1 els = true ∧
      chunk 1 els.length els.flatten = els := by
    intro els h
    have key : ∃ ds : List D, els = ds.map (fun d => [d]) ∧ (ds.map AV.d).all one = true := by
      induction els with
      | nil => exact ⟨[], rfl, rfl⟩
      | cons c l ih =>
        simp only [List.all_cons, Bool.and_eq_true] at h
        obtain ⟨ds, hds, hd1⟩ := ih h.2
        have h1 := h.1
        split at h1
        · rename_i d; exact ⟨d :: ds, by rw [hds]; rfl, by simp only [List.map_cons, List.all_cons, Bool.and_eq_true]; exact ⟨h1, hd1⟩⟩
        · cases h1
    obtain ⟨ds, rfl, hd1⟩ := key
    have hfl : (ds.map (fun d => [d])).flatten = ds := by simp [← List.flatMap_def]
    rw [hfl]
    refine ⟨hd1, by simp, by cases ds <;> simp [okHead], ?_⟩
    simp only [chunk, List.length_map]
    refine List.ext_getElem (by simp) fun i h1 h2 => ?_
    simp at h1 h2
    simp [List.take_one, List.head?_drop, h1]
  simp only [clOk, Bool.and_eq_true, decide_eq_true_eq] at h
  obtain ⟨q1, q2, q3, q4⟩ := hone els h.1
  refine spec_of (N := 8) follows_mixed Try.func107 rfl rfl rfl (by kernel_rfl) (by kernel_rfl) (by simp) ?_
  show AWP Try.prog (.seq _ (.seq (.seq _ (.cond _ _ _)) (.seq (.region _ _ _) _))) _ _
  have hb : ∀ b, isNilA (.d (.sl els)) = some b → b = none ∧ els = [] ∨ b = some false := by
    intro b hb
    cases els with
    | nil => simp [isNilA] at hb; exact .inl ⟨hb.symm, rfl⟩
    | cons => simp [isNilA] at hb; exact .inr hb.symm
  have hl : els.length ≤ 1099511627776 := h.2
  have e1 : (els.flatten.map AV.d).length = els.length := by rw [List.length_map]; exact q2
  cases els with
  | nil =>
    simp [AWP, OW, O1, wantedA, kind, nev, oev, St0, cv, cv1, putA, upd, addB, cnt, fin, Γ0, nilA, pureA, isNilA, nilB, inj1, appA, srcA, okHead, fillA, resD, res1, frzs, frz_own, frz_d, Try.f107, Option.bind, kill, chunk, Value.cells, Value.oneCell', scrub, scrub1, scrub0, scrubO, maxLen, frz]
  | cons x l =>
    generalize hE : x :: l = els at *
    have hn : isNilA (.d (.sl els)) = some (some false) := by rw [← hE]; rfl
    have m1 : ∀ (H : Nat → Option HO) n, (els.flatten.map AV.d).mapM (frz H (n + 1)) = some els.flatten := fun H n => mapM_d H n _
    have m2 : ∀ l, (els.flatten.map AV.d).map (scrub0 l) = els.flatten.map AV.d := fun l => scrub_map l _
    have hsrc : ∀ H, srcA H 1 (.d (.sl els)) = some (els.length, els.flatten.map AV.d) := fun H => by
      simp only [srcA]; rw [if_pos ⟨q3, q1⟩]
    generalize els.flatten.map AV.d = cs at *
    generalize els.flatten = fl at *
    have m3 : cs.map (fun x => scrub0 [1] x) = cs := m2 [1]
    have p1 : els.length * 4 ≤ 140737488355328 := by omega
    have p2 : els.length ≤ 9223372036854775807 := by omega
    have e2 : cs.take els.length = cs := by rw [← e1]; exact List.take_length
    simp [AWP, OW, O1, wantedA, kind, nev, oev, St0, cv, cv1, putA, upd, addB, cnt, fin, Γ0, nilA, pureA, hn, nilB, inj1, appA, hsrc, fillA, resD, res1, frzs, frz_own, Try.f107, kill, Value.cells, Value.oneCell', scrub, scrub1, scrubO, maxLen, p1, p2]
    simp [scrub0, frz_own, scrubO, e1, e2, m2, m1, q4]

theorem rec65 : RecSpec Try.prog 65 := by
  refine ⟨fun w => enters_of Try.func65 (by kernel_rfl) rfl _ w, fun w => ?_⟩
  refine callsD_of_wpS Try.func65 rfl fun c₀ cs hu => ?_
  apply wpS_region
  simp [wpOpsS, go_sem, recoverD, hu, Try.ntmps65, bodyPostS, results, Try.results65]
  cases c₀; simp only at hu; subst hu; rfl

theorem rec68 : RecSpec Try.prog 68 := by
  refine ⟨fun w => enters_of Try.func68 (by kernel_rfl) rfl _ w, fun w => ?_⟩
  refine callsD_of_wpS Try.func68 rfl fun c₀ cs hu => ?_
  apply wpS_region
  simp [wpOpsS, go_sem, recoverD, hu, Try.ntmps68, bodyPostS, results, Try.results68]
  cases c₀; simp only at hu; subst hu; rfl

theorem rec71 : RecSpec Try.prog 71 := by
  refine ⟨fun w => enters_of Try.func71 (by kernel_rfl) rfl _ w, fun w => ?_⟩
  refine callsD_of_wpS Try.func71 rfl fun c₀ cs hu => ?_
  apply wpS_region
  simp [wpOpsS, go_sem, recoverD, hu, Try.ntmps71, bodyPostS, results, Try.results71]
  cases c₀; simp only at hu; subst hu; rfl

theorem rec88 : RecSpec Try.prog 88 := by
  refine ⟨fun w => enters_of Try.func88 (by kernel_rfl) rfl _ w, fun w => ?_⟩
  refine callsD_of_wpS Try.func88 rfl fun c₀ cs hu => ?_
  apply wpS_region
  simp [wpOpsS, go_sem, recoverD, hu, Try.ntmps88, bodyPostS, results, Try.results88]
  cases c₀; simp only at hu; subst hu; rfl

theorem rec90 : RecSpec Try.prog 90 := by
  refine ⟨fun w => enters_of Try.func90 (by kernel_rfl) rfl _ w, fun w => ?_⟩
  refine callsD_of_wpS Try.func90 rfl fun c₀ cs hu => ?_
  apply wpS_region
  simp [wpOpsS, go_sem, recoverD, hu, Try.ntmps90, bodyPostS, results, Try.results90]
  cases c₀; simp only at hu; subst hu; rfl

theorem rec92 : RecSpec Try.prog 92 := by
  refine ⟨fun w => enters_of Try.func92 (by kernel_rfl) rfl _ w, fun w => ?_⟩
  refine callsD_of_wpS Try.func92 rfl fun c₀ cs hu => ?_
  apply wpS_region
  simp [wpOpsS, go_sem, recoverD, hu, Try.ntmps92, bodyPostS, results, Try.results92]
  cases c₀; simp only at hu; subst hu; rfl

theorem rec99 : RecSpec Try.prog 99 := by
  refine ⟨fun w => enters_of Try.func99 (by kernel_rfl) rfl _ w, fun w => ?_⟩
  refine callsD_of_wpS Try.func99 rfl fun c₀ cs hu => ?_
  apply wpS_region
  simp [wpOpsS, go_sem, recoverD, hu, Try.ntmps99, bodyPostS, results, Try.results99]
  cases c₀; simp only at hu; subst hu; rfl

theorem rec101 : RecSpec Try.prog 101 := by
  refine ⟨fun w => enters_of Try.func101 (by kernel_rfl) rfl _ w, fun w => ?_⟩
  refine callsD_of_wpS Try.func101 rfl fun c₀ cs hu => ?_
  apply wpS_region
  simp [wpOpsS, go_sem, recoverD, hu, Try.ntmps101, bodyPostS, results, Try.results101]
  cases c₀; simp only at hu; subst hu; rfl

theorem rec102 : RecSpec Try.prog 102 := by
  refine ⟨fun w => enters_of Try.func102 (by kernel_rfl) rfl _ w, fun w => ?_⟩
  refine callsD_of_wpS Try.func102 rfl fun c₀ cs hu => ?_
  apply wpS_region
  simp [wpOpsS, go_sem, recoverD, hu, Try.ntmps102, bodyPostS, results, Try.results102]
  cases c₀; simp only at hu; subst hu; rfl

theorem rec104 : RecSpec Try.prog 104 := by
  refine ⟨fun w => enters_of Try.func104 (by kernel_rfl) rfl _ w, fun w => ?_⟩
  refine callsD_of_wpS Try.func104 rfl fun c₀ cs hu => ?_
  apply wpS_region
  simp [wpOpsS, go_sem, recoverD, hu, Try.ntmps104, bodyPostS, results, Try.results104]
  cases c₀; simp only at hu; subst hu; rfl

theorem rec105 : RecSpec Try.prog 105 := by
  refine ⟨fun w => enters_of Try.func105 (by kernel_rfl) rfl _ w, fun w => ?_⟩
  refine callsD_of_wpS Try.func105 rfl fun c₀ cs hu => ?_
  apply wpS_region
  simp [wpOpsS, go_sem, recoverD, hu, Try.ntmps105, bodyPostS, results, Try.results105]
  cases c₀; simp only at hu; subst hu; rfl

def E0 : Kn where
  call := fun f ds => if f = 107 then (match ds with | [.sl els] => if clOk els then some (.sl els) else none | _ => none) else none
  ocall := fun _ _ _ _ => none
  keys := fun f => if f = 87 then some 119 else if f = 106 then some 122 else none
  sorted := fun f g => f == 86 && (g == 119 || g == 122)
  recs := fun g => [65, 68, 71, 88, 90, 92, 99, 101, 102, 104, 105].contains g

theorem E0_ok : KnOk Try.prog E0 := by
  refine ⟨fun f ds r h => ?_, fun f h o ds o' r h' => (by cases h'), fun f g h => ?_, fun f g h => ?_, fun g h => ?_⟩
  · simp only [E0] at h
    split at h
    · rename_i hf; subst hf
      split at h
      · split at h
        · rename_i hc; injection h with h; subst h; exact clone_any _ hc
        · cases h
      · cases h
    · cases h
  · simp only [E0] at h
    split at h
    · rename_i hf; subst hf; injection h with h; subst h; exact Try.keys87
    · split at h
      · rename_i hf; subst hf; injection h with h; subst h; exact Try.keys106
      · cases h
  · simp only [E0, Bool.and_eq_true, Bool.or_eq_true, beq_iff_eq] at h
    obtain ⟨rfl, rfl | rfl⟩ := h
    · exact Try.sorted119
    · exact Try.sorted122
  · simp only [E0, List.contains_eq_mem, decide_eq_true_eq] at h
    simp only [List.mem_cons, List.not_mem_nil, or_false] at h
    rcases h with rfl | rfl | rfl | rfl | rfl | rfl | rfl | rfl | rfl | rfl | rfl
    · exact rec65
    · exact rec68
    · exact rec71
    · exact rec88
    · exact rec90
    · exact rec92
    · exact rec99
    · exact rec101
    · exact rec102
    · exact rec104
    · exact rec105

theorem sanity26 : Spec Try.prog 11 [] (.b true) :=
  (runK_ok (fuel := 100) follows_mixed E0_ok 20).call 11 [] (.b true) (by kernel_rfl)
end Go.Am
