/- What is known of the library's functions in this program: the keys of a map, sorted. No condition. -/
import Derived.Shelf.SlIterI.Nil
import Derived.Shelf.SortM.Plain
import Derived.Shelf.SortM.SortNone
import Derived.Ground.GgzProg
import Derived.Ground.SlgmProg
import Derived.Test.YtmnjglpieghdkaaProg
import Derived.Test.YtmnjglpieghdkaaAm17
namespace Go.Proofs
open Go.RowKit Go.Maps Go.Sort Go.Shelf
def Try.keysA_ren : Go.Shelf.Ren := ⟨fun | 7 => 87 | 10 => 119 | n => n, fun | 23 => 98 | 26 => 3 | 3 => 32 | 28 => 124 | 0 => 0 | 27 => 123 | 33 => 144 | 4 => 4 | n => n, fun | n => n⟩
theorem Try.keysA : Go.Proofs.SlLaysZI.n7 Try.prog Try.keysA_ren := {
  mixed := by kernel_rfl,
  f7 := ⟨Try.f87.name, by decide, Try.func87.trans (congrArg some (by kernel_rfl))⟩,
  f10 := ⟨Try.f119.name, by decide, Try.func119.trans (congrArg some (by kernel_rfl))⟩,
  t0 := Try.underlying0,
  a0 := Try.isAgg0,
  z0 := Try.sizeOf0,
  v0 := Try.zeroValue0,
  t4 := Try.underlying4,
  a4 := Try.isAgg4,
  z4 := Try.sizeOf4,
  v4 := Try.zeroValue4,
  t23 := Try.underlying98,
  a23 := Try.isAgg98,
  z23 := Try.sizeOf98,
  v23 := Try.zeroValue98,
  t26 := Try.underlying3,
  a26 := Try.isAgg3,
  z26 := Try.sizeOf3,
  v26 := Try.zeroValue3,
  t27 := Try.underlying123,
  a27 := Try.isAgg123,
  z27 := Try.sizeOf123,
  v27 := Try.zeroValue123,
  t28 := Try.underlying124,
  a28 := Try.isAgg124,
  z28 := Try.sizeOf124,
  v28 := Try.zeroValue124,
  t33 := Try.underlying144,
  a33 := Try.isAgg144,
  z33 := Try.sizeOf144,
  v33 := Try.zeroValue144 }

def Try.keysB_ren : Go.Shelf.Ren := ⟨fun | 7 => 106 | 10 => 122 | n => n, fun | 23 => 99 | 26 => 3 | 3 => 32 | 28 => 124 | 0 => 0 | 27 => 123 | 33 => 144 | 4 => 4 | n => n, fun | n => n⟩
theorem Try.keysB : Go.Proofs.SlLaysZI.n7 Try.prog Try.keysB_ren := {
  mixed := by kernel_rfl,
  f7 := ⟨Try.f106.name, by decide, Try.func106.trans (congrArg some (by kernel_rfl))⟩,
  f10 := ⟨Try.f122.name, by decide, Try.func122.trans (congrArg some (by kernel_rfl))⟩,
  t0 := Try.underlying0,
  a0 := Try.isAgg0,
  z0 := Try.sizeOf0,
  v0 := Try.zeroValue0,
  t4 := Try.underlying4,
  a4 := Try.isAgg4,
  z4 := Try.sizeOf4,
  v4 := Try.zeroValue4,
  t23 := Try.underlying99,
  a23 := Try.isAgg99,
  z23 := Try.sizeOf99,
  v23 := Try.zeroValue99,
  t26 := Try.underlying3,
  a26 := Try.isAgg3,
  z26 := Try.sizeOf3,
  v26 := Try.zeroValue3,
  t27 := Try.underlying123,
  a27 := Try.isAgg123,
  z27 := Try.sizeOf123,
  v27 := Try.zeroValue123,
  t28 := Try.underlying124,
  a28 := Try.isAgg124,
  z28 := Try.sizeOf124,
  v28 := Try.zeroValue124,
  t33 := Try.underlying144,
  a33 := Try.isAgg144,
  z33 := Try.sizeOf144,
  v33 := Try.zeroValue144 }

def Try.sortedA_ren : Go.Shelf.Ren := ⟨fun | 6 => 86 | 8 => 117 | 9 => 118 | 11 => 124 | 13 => 126 | 12 => 125 | 23 => 138 | 24 => 139 | 14 => 129 | 15 => 130 | 16 => 131 | 17 => 132 | 18 => 133 | 19 => 134 | 20 => 135 | 21 => 136 | 22 => 137 | 25 => 140 | 26 => 141 | 27 => 142 | 28 => 143 | 29 => 144 | 30 => 127 | 31 => 145 | n => n, fun | 26 => 3 | 28 => 124 | 24 => 121 | 0 => 0 | 3 => 3 | 37 => 105 | 48 => 104 | 50 => 102 | 4 => 4 | 40 => 155 | 39 => 154 | 45 => 147 | 5 => 5 | 9 => 9 | 51 => 163 | 55 => 167 | 57 => 169 | 58 => 170 | 33 => 144 | n => n, fun | n => n⟩
theorem Try.sortedA : Go.Proofs.SlLaysZI.n6 Try.prog Try.sortedA_ren := {
  mixed := by kernel_rfl,
  f6 := ⟨Try.f86.name, by decide, Try.func86.trans (congrArg some (by kernel_rfl))⟩,
  f8 := ⟨Try.f117.name, by decide, Try.func117.trans (congrArg some (by kernel_rfl))⟩,
  f11 := ⟨Try.f124.name, by decide, Try.func124.trans (congrArg some (by kernel_rfl))⟩,
  t0 := Try.underlying0,
  a0 := Try.isAgg0,
  z0 := Try.sizeOf0,
  v0 := Try.zeroValue0,
  t24 := Try.underlying121,
  a24 := Try.isAgg121,
  z24 := Try.sizeOf121,
  v24 := Try.zeroValue121,
  t26 := Try.underlying3,
  a26 := Try.isAgg3,
  z26 := Try.sizeOf3,
  v26 := Try.zeroValue3,
  t28 := Try.underlying124,
  a28 := Try.isAgg124,
  z28 := Try.sizeOf124,
  v28 := Try.zeroValue124,
  i26 := by kernel_rfl }

def Try.sortA_ren : Go.Shelf.Ren := ⟨fun | 5 => 118 | 8 => 126 | 7 => 125 | 19 => 138 | 20 => 139 | 10 => 129 | 11 => 130 | 12 => 131 | 13 => 132 | 14 => 133 | 15 => 134 | 16 => 135 | 17 => 136 | 18 => 137 | 30 => 140 | 31 => 141 | 32 => 142 | 33 => 143 | 34 => 144 | 35 => 127 | 40 => 145 | n => n, fun | 23 => 121 | 25 => 3 | 3 => 3 | 32 => 105 | 22 => 121 | 0 => 0 | 44 => 104 | 46 => 102 | 4 => 4 | 36 => 155 | 35 => 154 | 41 => 147 | 5 => 5 | 9 => 9 | 53 => 163 | 57 => 167 | 63 => 169 | 64 => 170 | n => n, fun | n => n⟩
theorem Try.sortA : Go.Proofs.SlLaysM.n5 Try.prog Try.sortA_ren := {
  mixed := by kernel_rfl,
  f5 := ⟨Try.f118.name, by decide, Try.func118.trans (congrArg some (by kernel_rfl))⟩,
  f7 := ⟨Try.f125.name, by decide, Try.func125.trans (congrArg some (by kernel_rfl))⟩,
  f8 := Try.func126.trans (congrArg some (by kernel_rfl)),
  f10 := ⟨Try.f129.name, by decide, Try.func129.trans (congrArg some (by kernel_rfl))⟩,
  f11 := ⟨Try.f130.name, by decide, Try.func130.trans (congrArg some (by kernel_rfl))⟩,
  f12 := ⟨Try.f131.name, by decide, Try.func131.trans (congrArg some (by kernel_rfl))⟩,
  f13 := ⟨Try.f132.name, by decide, Try.func132.trans (congrArg some (by kernel_rfl))⟩,
  f14 := ⟨Try.f133.name, by decide, Try.func133.trans (congrArg some (by kernel_rfl))⟩,
  f15 := ⟨Try.f134.name, by decide, Try.func134.trans (congrArg some (by kernel_rfl))⟩,
  f16 := ⟨Try.f135.name, by decide, Try.func135.trans (congrArg some (by kernel_rfl))⟩,
  f17 := ⟨Try.f136.name, by decide, Try.func136.trans (congrArg some (by kernel_rfl))⟩,
  f18 := ⟨Try.f137.name, by decide, Try.func137.trans (congrArg some (by kernel_rfl))⟩,
  f19 := Try.func138.trans (congrArg some (by kernel_rfl)),
  f20 := Try.func139.trans (congrArg some (by kernel_rfl)),
  f30 := ⟨Try.f140.name, by decide, Try.func140.trans (congrArg some (by kernel_rfl))⟩,
  f31 := Try.func141.trans (congrArg some (by kernel_rfl)),
  f32 := Try.func142.trans (congrArg some (by kernel_rfl)),
  f33 := ⟨Try.f143.name, by decide, Try.func143.trans (congrArg some (by kernel_rfl))⟩,
  f34 := ⟨Try.f144.name, by decide, Try.func144.trans (congrArg some (by kernel_rfl))⟩,
  f35 := ⟨Try.f127.name, by decide, Try.func127.trans (congrArg some (by kernel_rfl))⟩,
  f40 := ⟨Try.f145.name, by decide, Try.func145.trans (congrArg some (by kernel_rfl))⟩,
  t0 := Try.underlying0,
  a0 := Try.isAgg0,
  z0 := Try.sizeOf0,
  v0 := Try.zeroValue0,
  t3 := Try.underlying3,
  a3 := Try.isAgg3,
  z3 := Try.sizeOf3,
  v3 := Try.zeroValue3,
  t4 := Try.underlying4,
  a4 := Try.isAgg4,
  z4 := Try.sizeOf4,
  v4 := Try.zeroValue4,
  t5 := Try.underlying5,
  a5 := Try.isAgg5,
  z5 := Try.sizeOf5,
  v5 := Try.zeroValue5,
  t9 := Try.underlying9,
  a9 := Try.isAgg9,
  z9 := Try.sizeOf9,
  v9 := Try.zeroValue9,
  t22 := Try.underlying121,
  a22 := Try.isAgg121,
  z22 := Try.sizeOf121,
  v22 := Try.zeroValue121,
  t23 := Try.underlying121,
  a23 := Try.isAgg121,
  z23 := Try.sizeOf121,
  v23 := Try.zeroValue121,
  t25 := Try.underlying3,
  a25 := Try.isAgg3,
  z25 := Try.sizeOf3,
  v25 := Try.zeroValue3,
  t32 := Try.underlying105,
  a32 := Try.isAgg105,
  z32 := Try.sizeOf105,
  v32 := Try.zeroValue105,
  t35 := Try.underlying154,
  a35 := Try.isAgg154,
  z35 := Try.sizeOf154,
  v35 := Try.zeroValue154,
  t36 := Try.underlying155,
  a36 := Try.isAgg155,
  z36 := Try.sizeOf155,
  v36 := Try.zeroValue155,
  t41 := Try.underlying147,
  a41 := Try.isAgg147,
  z41 := Try.sizeOf147,
  v41 := Try.zeroValue147,
  t44 := Try.underlying104,
  a44 := Try.isAgg104,
  z44 := Try.sizeOf104,
  v44 := Try.zeroValue104,
  t46 := Try.underlying102,
  a46 := Try.isAgg102,
  z46 := Try.sizeOf102,
  v46 := Try.zeroValue102,
  t53 := Try.underlying163,
  a53 := Try.isAgg163,
  z53 := Try.sizeOf163,
  v53 := Try.zeroValue163,
  t57 := Try.underlying167,
  a57 := Try.isAgg167,
  z57 := Try.sizeOf167,
  v57 := Try.zeroValue167,
  t63 := Try.underlying169,
  a63 := Try.isAgg169,
  z63 := Try.sizeOf169,
  v63 := Try.zeroValue169,
  t64 := Try.underlying170,
  a64 := Try.isAgg170,
  z64 := Try.sizeOf170,
  v64 := Try.zeroValue170 }

theorem Try.sortsA (m : Nat) : AnyZI.SortsIn Try.prog Try.sortedA_ren Fence.wide m :=
  ⟨fun blk off cap ss W hH hblk hsz => callsIn_wide.2 (AnyM.slices_Sort_int Try.sortA blk off cap ss W hH hblk hsz),
   fun p cap W => callsIn_wide.2 (AnyM.slices_Sort_int_none Try.sortA p cap W)⟩

theorem Try.keys87 : Am.KeysSpec Try.prog 87 119 := fun W b =>
  ⟨fun w => enters_of Try.func87 (by kernel_rfl) rfl _ w, (callsIn_wide (n := 5)).1 ((AnyZI.keys_in Try.keysA Fence.wide 5 trivial rfl (some b) W).mono (by rintro e w' ⟨rfl, rfl⟩; exact ⟨_, rfl, rfl⟩))⟩

theorem Try.keys106 : Am.KeysSpec Try.prog 106 122 := fun W b =>
  ⟨fun w => enters_of Try.func106 (by kernel_rfl) rfl _ w, (callsIn_wide (n := 5)).1 ((AnyZI.keys_in Try.keysB Fence.wide 5 trivial rfl (some b) W).mono (by rintro e w' ⟨rfl, rfl⟩; exact ⟨_, rfl, rfl⟩))⟩

theorem isort_perm : ∀ l : List Int, (Am.isort l).Perm l
  | [] => .nil
  | n :: l => by
    have h1 : ∀ (m : List Int), (Am.ins n m).Perm (n :: m) := by
      intro m
      induction m with
      | nil => exact .refl _
      | cons x m ih =>
        unfold Am.ins
        split
        · exact .refl _
        · exact (ih.cons x).trans (.swap n x m)
    exact (h1 _).trans ((isort_perm l).cons n)

theorem isort_sorted : ∀ l : List Int, (Am.isort l).Pairwise (fun a b => a ≤ b)
  | [] => .nil
  | n :: l => by
    have h1 : ∀ (m : List Int), m.Pairwise (fun a b => a ≤ b) → (Am.ins n m).Pairwise (fun a b => a ≤ b) := by
      intro m
      induction m with
      | nil => intro _; simp [Am.ins]
      | cons x m ih =>
        intro h
        unfold Am.ins
        have h' := List.pairwise_cons.1 h
        split
        · rename_i hx
          exact List.pairwise_cons.2 ⟨fun a ha => by
            rcases List.mem_cons.1 ha with rfl | ha
            · exact hx
            · exact Int.le_trans hx (h'.1 a ha), h⟩
        · rename_i hx
          refine List.pairwise_cons.2 ⟨fun a ha => ?_, ih h'.2⟩
          have hp : (Am.ins n m).Perm (n :: m) := by
            clear ih h h' ha
            induction m with
            | nil => exact .refl _
            | cons y m ih =>
              unfold Am.ins
              split
              · exact .refl _
              · exact (ih.cons y).trans (.swap n y m)
          rcases List.mem_cons.1 (hp.mem_iff.1 ha) with rfl | ha
          · omega
          · exact h'.1 a ha
    exact h1 _ (isort_sorted l)

theorem mergeSort_isort (ss ks : List Int) (h : ss.Perm ks) : ss.mergeSort (fun x y => decide (x ≤ y)) = Am.isort ks := by
  have tr : ∀ a b c : Int, decide (a ≤ b) = true → decide (b ≤ c) = true → decide (a ≤ c) = true := fun a b c h1 h2 => by simp only [decide_eq_true_eq] at *; exact Int.le_trans h1 h2
  have to : ∀ a b : Int, (decide (a ≤ b) || decide (b ≤ a)) = true := fun a b => by simp only [Bool.or_eq_true, decide_eq_true_eq]; exact Int.le_total a b
  refine List.Perm.eq_of_pairwise (le := fun a b => decide (a ≤ b) = true) (fun a b _ _ h1 h2 => ?_) (List.pairwise_mergeSort tr to ss) ((isort_sorted ks).imp fun h => by simpa using h) (((List.mergeSort_perm ss _).trans h).trans (isort_perm ks).symm)
  simp only [decide_eq_true_eq] at h1 h2
  exact Int.le_antisymm h1 h2

theorem keyOf_ok {P : Program} {k : TypeId} (hk : P.underlying k = some (.int .i64)) {n : Int} (hn : Am.inr n = true) : keyOf P k (.int .i64 n) = some (.int .i64 n) := by
  have hw : (Lit.int .i64 n).wf = true := by
    have hmin : IntKind.i64.min = -9223372036854775808 := rfl
    have hmax : IntKind.i64.max = 9223372036854775807 := rfl
    simp only [Am.inr, decide_eq_true_eq] at hn
    simp only [Lit.wf, Bool.and_eq_true, decide_eq_true_eq]
    omega
  simp [keyOf, hk, mapKey, hw]

set_option maxRecDepth 20000 in
theorem sorted_core (f g : FuncId) (T3 : TypeId) (hk3 : Try.prog.underlying T3 = some (.int .i64)) (hent : ∀ args w, (callFunc f args).run Try.prog w = .ok (.enter f args) w)
    (hS : ∀ (lb : Array Value) (S : List Int → Prop) (N : Nat), N ≤ maxLen → N * 8 ≤ 140737488355328 → ∀ w, SeqGives Fence.wide 2 Try.prog g lb encZ S N w → CallsIn Fence.wide 5 Try.prog f #[.func (.func g) #[] lb] w fun e w' =>
      ∃ v ss, e = .returned v ∧ S ss ∧ w'.ownsRow w.heap.size T3 1 v ss.length ((ss.mergeSort fun x y => decide (x ≤ y)).map encZ) ∧ (v = .slice none 0 0 ↔ ss = []) ∧ Below w.heap.size w w')
    (hG : ∀ (Bm b nn : Nat) (D0 : DataW Unit) (R : Value → Option (DataW Unit × List MemPlace)) (w : World), Bm < w.heap.size → w.cell? ⟨Bm, 0, none⟩ = some (.map (some b)) → w.ownsMap Try.prog T3 R b nn D0 →
      SeqGives Fence.wide 2 Try.prog g #[.pointer (some ⟨Bm, 0, none⟩)] encZ (fun ss => ss.Perm (intKeys D0)) (Maps.size D0) w) : Am.SortedSpec Try.prog f g := by
  intro W b p e ks ents clock hb hst hkeys hp hlen hr
  refine ⟨fun w => hent _ w, (callsIn_wide (n := 5)).1 ?_⟩
  have hpl : p < W.heap.size := (Array.getElem?_eq_some_iff.1 hp).1
  have hcell : W.cell? ⟨p, 0, none⟩ = some (.map (some b)) := by
    rw [show W.cell? ⟨p, 0, none⟩ = (#[Value.map (some b)] : Array Value)[0]? from cell_of_row W p 0 _ e (0, 0) hp]; rfl
  have hsz : ents.size = ks.length := by have := congrArg List.length hkeys; simpa using this
  let R : Value → Option (DataW Unit × List MemPlace) := fun _ => some (.nil, [])
  have hrd : ∀ x ∈ ents.toList, ∃ n, n ∈ ks ∧ x.key = .int .i64 n ∧ WideElems.rd Try.prog T3 R x = some (.int .i64 n, .nil) := by
    intro x hx
    have : x.key ∈ ks.map (.int .i64 ·) := by rw [← hkeys]; exact List.mem_map_of_mem hx
    obtain ⟨n, hn, he⟩ := List.mem_map.1 this
    refine ⟨n, hn, he.symm, ?_⟩
    simp [WideElems.rd, ← he, keyOf_ok hk3 (List.all_eq_true.1 hr n hn), R]
  have hfit : WideElems.Fit Try.prog T3 R ents clock := ⟨by rw [hsz]; simp only [maxLen]; omega, hst, fun x hx => let ⟨n, _, _, h⟩ := hrd x hx; ⟨_, h⟩⟩
  have hks2 : ∀ (l : List MapEntry) (k : List Int), l.map (·.key) = k.map (.int .i64 ·) → (∀ x ∈ l, ∃ n, n ∈ ks ∧ x.key = .int .i64 n ∧ WideElems.rd Try.prog T3 R x = some (.int .i64 n, .nil)) → (l.map (WideElems.rg Try.prog T3 R)).map (fun q => Go.intOf q.1) = k := by
    intro l
    induction l with
    | nil => intro k hk _; cases k with
      | nil => rfl
      | cons => simp at hk
    | cons x l ih =>
      intro k hk h
      cases k with
      | nil => simp at hk
      | cons m k =>
        simp only [List.map_cons, List.cons.injEq] at hk ⊢
        refine ⟨?_, ih k hk.2 fun y hy => h y (List.mem_cons_of_mem _ hy)⟩
        obtain ⟨n, _, hxn, hxr⟩ := h x (List.mem_cons_self ..)
        rw [hxn] at hk
        have := hk.1
        injection this with _ this
        simp [WideElems.rg, hxr, Go.intOf, this]
  have hD : (intKeys (.map ((ents.toList.map (WideElems.rg Try.prog T3 R)).foldr DataW.insert []))).Perm ks := by
    show (((ents.toList.map (WideElems.rg Try.prog T3 R)).foldr DataW.insert []).map fun q => Go.intOf q.1).Perm ks
    have h1 := (WideShapes.sorted_perm (ents.toList.map (WideElems.rg Try.prog T3 R))).map (fun q : Lit × DataW Unit => Go.intOf q.1)
    rwa [hks2 _ ks hkeys hrd] at h1
  have hN : Maps.size (.map ((ents.toList.map (WideElems.rg Try.prog T3 R)).foldr DataW.insert []) : DataW Unit) = ks.length := by
    have := hD.length_eq
    simpa [intKeys, Maps.size] using this
  have hseq := hG p b ents.size (.map ((ents.toList.map (WideElems.rg Try.prog T3 R)).foldr DataW.insert [])) R W hpl hcell ⟨ents, clock, hb, hfit, Nat.le_refl _, rfl⟩
  rw [hN] at hseq
  refine (hS _ _ _ (by simp only [maxLen]; omega) (by omega) W hseq).mono ?_
  rintro e' w' ⟨v, ss, rfl, hperm, hrow, hnil, hbl⟩
  refine ⟨v, rfl, hbl, ?_⟩
  rw [mergeSort_isort ss ks (hperm.trans hD)] at hrow
  have hssl : ss.length = ks.length := (hperm.trans hD).length_eq
  obtain ⟨hl, ⟨rfl, h0⟩ | ⟨gg, cap, cur, rfl, hg, hheap, h1, h2, h3, h4⟩⟩ := hrow
  · have : Am.isort ks = [] := by
      apply List.eq_nil_of_length_eq_zero
      simp at hl; omega
    rw [this]
    exact .sl0 _ _
  · have hil : (Am.isort ks).length = ss.length := by simpa using hl
    refine .sl _ ⟨gg, 0, none⟩ _ _ 1 (fun j => .int .i64 ((Am.isort ks).getD j 0)) (by simp [hil]) h1 (fun cs hcs => by obtain ⟨n, _, rfl⟩ := List.mem_map.1 hcs; rfl) ⟨hg, (Array.getElem?_eq_some_iff.1 hheap).1⟩ (fun j hj => ?_) (fun j k cs c hj hk => ?_)
    · rw [Am.add_mk, cell_of_row w' gg _ cur T3 (0, 0) hheap, Nat.zero_add]
      have : cur.toList[j]? = ((Am.isort ks).map encZ)[j]? := by
        rw [← h4, List.getElem?_take, if_pos (by omega)]
      rw [← Array.getElem?_toList, this, List.getElem?_map]
      have hj2 : j < (Am.isort ks).length := by omega
      simp [List.getElem?_eq_getElem hj2, List.getD_eq_getElem?_getD]
    · rw [List.getElem?_map] at hj
      obtain ⟨n, hn, rfl⟩ := Option.map_eq_some_iff.1 hj
      rcases k with _ | k
      · simp at hk; subst hk
        simp only [Nat.mul_one, Nat.add_zero, List.getD_eq_getElem?_getD, hn, Option.getD_some]
        exact .i _ _
      · simp at hk

set_option maxRecDepth 20000 in
theorem Try.sorted119 : Am.SortedSpec Try.prog 86 119 :=
  sorted_core 86 119 3 (by kernel_rfl) (fun args w => enters_of Try.func86 (by kernel_rfl) rfl args w)
    (fun lb S N h1 h2 w hs => AnyZI.sorted_in Try.sortedA Fence.wide 5 trivial trivial trivial trivial rfl (by omega) (Try.sortsA _) (enters_of Try.func118 (by kernel_rfl) rfl) 119 lb trivial (enters_of Try.func119 (by kernel_rfl) rfl) S N h1 h2 w hs)
    (fun Bm b nn D0 R w h1 h2 h3 => AnyZI.keys_gives (ρ := Try.keysA_ren) { Try.keysA with } Fence.wide _ trivial rfl (by omega) Bm b nn D0 w h1 h2 h3)

set_option maxRecDepth 20000 in
theorem Try.sorted122 : Am.SortedSpec Try.prog 86 122 :=
  sorted_core 86 122 3 (by kernel_rfl) (fun args w => enters_of Try.func86 (by kernel_rfl) rfl args w)
    (fun lb S N h1 h2 w hs => AnyZI.sorted_in Try.sortedA Fence.wide 5 trivial trivial trivial trivial rfl (by omega) (Try.sortsA _) (enters_of Try.func118 (by kernel_rfl) rfl) 122 lb trivial (enters_of Try.func122 (by kernel_rfl) rfl) S N h1 h2 w hs)
    (fun Bm b nn D0 R w h1 h2 h3 => AnyZI.keys_gives (ρ := Try.keysB_ren) { Try.keysB with } Fence.wide _ trivial rfl (by omega) Bm b nn D0 w h1 h2 h3)
end Go.Proofs
