/- Sparse matrices in plain terms: transposes, dense rows, associativity. No condition. -/
import Derived.Test.YtmnjglpieghdkaaIi
import Derived.Test.YtmnjglpieghdkaaA4
import Derived.Test.YtmnjglpieghdkaaMx
open Go Go.Am Go.Proofs
namespace Go.Am
set_option linter.unusedSimpArgs false

theorem o1_keys {P : Program} {dst : Option Tmp} {ty : TypeId} {pos : String} {after : Array Edge} {guard : Option (Nat × Bool)} {σ : St} {con : List Nat} {k : St → List Nat → Prop} {f g : FuncId} {x : Operand} {ts : Array TypeId}
    {d : Dm ((⟨dst, .call ⟨.value (.func f), [x].toArray, ts⟩, ty, pos, after, guard⟩ : Oper), k)} {id : Nat} {ho : HO} (hs : KeysSpec P f g) (hm : mutF P f = true)
    (hx : oev σ.Γ x = .mp id) (hH : σ.H id = some ho) (hk : k ⟨putA σ.Γ dst (.kf g id), σ.H, σ.n⟩ con) : O1d P ⟨dst, .call ⟨.value (.func f), [x].toArray, ts⟩, ty, pos, after, guard⟩ σ con k d := by
  show OC P f [x].toArray dst σ con k
  unfold OC
  have e : hd1 (oev σ.Γ x) = some (id, .mp 0) := by rw [hx]; rfl
  simp only [hm, if_true, e, hH]
  exact .inl ⟨g, trivial, trivial, hs, hk⟩

theorem o1_sorted {P : Program} {dst : Option Tmp} {ty : TypeId} {pos : String} {after : Array Edge} {guard : Option (Nat × Bool)} {σ : St} {con : List Nat} {k : St → List Nat → Prop} {f g : FuncId} {x : Operand} {ts : Array TypeId}
    {d : Dm ((⟨dst, .call ⟨.value (.func f), [x].toArray, ts⟩, ty, pos, after, guard⟩ : Oper), k)} {id : Nat} {es : List (Int × AV)} (hs : SortedSpec P f g) (hm : mutF P f = false)
    (hx : oev σ.Γ x = .kf g id) (hH : σ.H id = some (.map .i64 es)) (hl : es.length ≤ 1099511627776) (hr : (es.map (·.1)).all inr = true)
    (hk : k ⟨putA σ.Γ dst (.d (.sl ((isort (es.map (·.1))).map fun n => [.i .i64 n]))), σ.H, σ.n⟩ con) : O1d P ⟨dst, .call ⟨.value (.func f), [x].toArray, ts⟩, ty, pos, after, guard⟩ σ con k d := by
  show OC P f [x].toArray dst σ con k
  unfold OC
  have e : ([x].toArray.toList.map (oev σ.Γ)) = [.kf g id] := by show [oev σ.Γ x] = _; rw [hx]
  simp only [hm, Bool.false_eq_true, if_false]
  refine .inr ?_
  split
  · rename_i g' id' hx'
    rw [e] at hx'
    injection hx' with hx' _
    injection hx' with h1 h2
    subst h1; subst h2
    rw [hH]
    exact ⟨hl, hr, hs, hk⟩
  · rename_i hne
    exact (hne _ _ e).elim

/-! Sums, as association lists -/
def fnd (n : Int) : List (Int × Int) → Option Nat
  | [] => none
  | x :: es => if x.1 = n then some 0 else (fnd n es).map (· + 1)
def encV (z : Int) : AV := .ag [.d (.b (decide (z < 0))), .d (encM (digs z.natAbs))]
def encE (m : List (Int × Int)) : List (Int × AV) := m.map fun p => (p.1, encV p.2)
theorem mfind_encE (n : Int) (m : List (Int × Int)) : mfind n (encE m) = fnd n m := by
  induction m with
  | nil => rfl
  | cons x m ih =>
    show (if x.1 = n then some 0 else (mfind n (encE m)).map (· + 1)) = if x.1 = n then some 0 else (fnd n m).map (· + 1)
    rw [ih]
theorem fnd_some {n : Int} {m : List (Int × Int)} {j : Nat} (h : fnd n m = some j) : ∃ z, m[j]? = some (n, z) := by
  induction m generalizing j with
  | nil => cases h
  | cons x m ih =>
    unfold fnd at h
    by_cases hx : x.1 = n
    · rw [if_pos hx] at h; injection h with h; subst h; exact ⟨x.2, by rw [← hx]; rfl⟩
    · rw [if_neg hx] at h
      obtain ⟨i, hi, rfl⟩ := Option.map_eq_some_iff.1 h
      obtain ⟨z, hz⟩ := ih hi
      exact ⟨z, by simpa using hz⟩
def getM (m : List (Int × Int)) (n : Int) : Int := match fnd n m with
  | some j => (m.getD j (0, 0)).2
  | none => 0
def putM (m : List (Int × Int)) (n v : Int) : List (Int × Int) := match fnd n m with
  | some j => m.set j (n, v)
  | none => m ++ [(n, v)]
def delM (m : List (Int × Int)) (n : Int) : List (Int × Int) := match fnd n m with
  | some j => m.eraseIdx j
  | none => m
def addM (m : List (Int × Int)) (n k : Int) : List (Int × Int) := if getM m n + k = 0 then delM m n else putM m n (getM m n + k)
theorem mput_encE (m : List (Int × Int)) (n v : Int) : mput (encE m) n (encV v) = encE (putM m n v) := by
  unfold mput putM
  rw [mfind_encE]
  cases fnd n m with
  | none => simp [encE]
  | some j => simp [encE, List.map_set]
theorem eraseIdx_map' {α β : Type} (f : α → β) : ∀ (l : List α) (j : Nat), (l.map f).eraseIdx j = (l.eraseIdx j).map f
  | [], _ => rfl
  | _ :: _, 0 => rfl
  | x :: l, j + 1 => by
    show f x :: (l.map f).eraseIdx j = f x :: (l.eraseIdx j).map f
    rw [eraseIdx_map' f l j]
theorem mdel_encE (m : List (Int × Int)) (n : Int) : mdel (encE m) n = encE (delM m n) := by
  unfold mdel delM
  rw [mfind_encE]
  cases fnd n m with
  | none => rfl
  | some j => simp [encE, eraseIdx_map']
theorem mlook_encE (m : List (Int × Int)) (n : Int) : mlook (encE m) n = if (fnd n m).isSome then some (encV (getM m n)) else none := by
  unfold mlook getM
  rw [mfind_encE]
  cases h : fnd n m with
  | none => rfl
  | some j =>
    obtain ⟨z, hz⟩ := fnd_some h
    simp [encE, hz, List.getD_eq_getElem?_getD]
theorem noh_encE (m : List (Int × Int)) : nohO (.map .i64 (encE m)) = true := by
  simp only [nohO, encE, List.all_map, List.all_eq_true]
  intro x _; rfl
theorem lookA_mp {P : Program} (H : Nat → Option HO) (t : TypeId) (id : Nat) (x : AV) (ok : Bool) : lookA P H t (.mp id) x ok = match H id with
    | some (.map k es) => (tmp P t).bind fun p => match x with
      | .d (.i k' n) => if k' = k ∧ tint P p.1 = some k then
          match mlook es n with
          | some v => some (if ok then .tp [v, .d (.b true)] else v)
          | none => (tz P p.2).map fun z => if ok then .tp [cv z, .d (.b false)] else cv z
        else none
      | _ => none
    | _ => none := rfl
theorem mapW_mp {P : Program} (H : Nat → Option HO) (t : TypeId) (id : Nat) (x : AV) (v : Option AV) : mapW P H t (.mp id) x v = match H id with
    | some (.map k es) => (tmp P t).bind fun p => match x with
      | .d (.i k' n) => if k' = k ∧ tint P p.1 = some k then some (id, .map k (match v with | some v => mput es n v | none => mdel es n)) else none
      | _ => none
    | _ => none := rfl

/-- The sum, by keys in order. -/
def chainM (m : List (Int × Int)) : List (Int × Int) := (isort (m.map (·.1))).map fun n => (n, getM m n)
theorem ins_len (n : Int) : ∀ l : List Int, (ins n l).length = l.length + 1
  | [] => rfl
  | m :: l => by
    unfold ins
    split
    · rfl
    · simp [ins_len n l]
theorem isort_len : ∀ l : List Int, (isort l).length = l.length
  | [] => rfl
  | n :: l => by rw [isort, ins_len, isort_len l]; rfl
theorem ins_mem (n x : Int) : ∀ l : List Int, x ∈ ins n l ↔ x = n ∨ x ∈ l
  | [] => by simp [ins]
  | m :: l => by
    unfold ins
    split
    · simp
    · simp [ins_mem n x l]
      constructor
      · rintro (h | h | h) <;> simp [h]
      · rintro (h | h | h) <;> simp [h]
theorem isort_mem (x : Int) : ∀ l : List Int, x ∈ isort l ↔ x ∈ l
  | [] => by simp [isort]
  | n :: l => by rw [isort, ins_mem, isort_mem x l]; simp
theorem fnd_isSome {n : Int} {m : List (Int × Int)} (h : n ∈ m.map (·.1)) : (fnd n m).isSome = true := by
  induction m with
  | nil => simp at h
  | cons x m ih =>
    unfold fnd
    by_cases hx : x.1 = n
    · rw [if_pos hx]; rfl
    · rw [if_neg hx, Option.isSome_map]
      exact ih (by
        rcases List.mem_cons.1 h with h | h
        · exact (hx h.symm).elim
        · exact h)
theorem encE_keys (m : List (Int × Int)) : (encE m).map (·.1) = m.map (·.1) := by simp [encE]

theorem scrubO_encE (l : List Nat) (m : List (Int × Int)) : scrubO l (.map .i64 (encE m)) = .map .i64 (encE m) := by
  simp [scrubO, encE, encV, scrub1, scrub0]

end Go.Am

open Go Go.Am Go.Proofs
namespace Go.Am
set_option linter.unusedSimpArgs false

/-- A row against numbers. -/
def dot (g : Int → Int) : List (Int × Int) → Int
  | [] => 0
  | x :: l => x.2 * g x.1 + dot g l
theorem dot_app (g : Int → Int) : ∀ a b : List (Int × Int), dot g (a ++ b) = dot g a + dot g b
  | [], b => by simp [dot]
  | x :: a, b => by rw [List.cons_append, dot, dot, dot_app g a b]; omega
theorem cz_dot (n : Int) : ∀ l : List (Int × Int), cz n l = dot (fun m => if m = n then 1 else 0) l
  | [] => rfl
  | x :: l => by
    rw [cz, dot, cz_dot n l]
    split <;> simp
theorem dot_mg (g : Int → Int) (k : Int) (p : Int × Int × Int) (l : List (Int × Int × Int)) : dot g (mg k (p :: l)) = (p.2.1 + k * p.2.2) * g p.1 + dot g (mg k l) := by
  rw [mg_cons]
  by_cases h : p.2.1 + k * p.2.2 = 0
  · rw [if_pos h, h]; simp
  · rw [if_neg h]; rfl
theorem dot_bZ (g : Int → Int) (k : Int) : ∀ (m : Nat) (a b : List (Int × Int)), a.length + b.length ≤ m → dot g (mg k (bZ m a b)) = dot g a + k * dot g b
  | 0, a, b, h => by
    have ha : a = [] := List.eq_nil_of_length_eq_zero (by omega)
    have hb : b = [] := List.eq_nil_of_length_eq_zero (by omega)
    subst ha; subst hb; simp [bZ, mg, dot]
  | m + 1, [], [], _ => by simp [bZ, mg, dot]
  | m + 1, x :: a, [], h => by
    have ih := dot_bZ g k m a [] (by simp at h ⊢; omega)
    show dot g (mg k ((x.1, x.2, 0) :: bZ m a [])) = _
    rw [dot_mg, ih]
    simp only [dot, Int.mul_zero, Int.add_zero]
  | m + 1, [], y :: b, h => by
    have ih := dot_bZ g k m [] b (by simp at h ⊢; omega)
    show dot g (mg k ((y.1, 0, y.2) :: bZ m [] b)) = _
    rw [dot_mg, ih]
    simp only [dot, Int.zero_add, Int.mul_add, Int.mul_assoc]
  | m + 1, x :: a, y :: b, h => by
    simp only [List.length_cons] at h
    unfold bZ
    split
    · rw [dot_mg, dot_bZ g k m (x :: a) b (by simp only [List.length_cons]; omega)]
      simp only [dot, Int.zero_add, Int.mul_add, Int.mul_assoc]; omega
    · split
      · rw [dot_mg, dot_bZ g k m a (y :: b) (by simp only [List.length_cons]; omega)]
        simp only [dot, Int.mul_zero, Int.add_zero, Int.mul_add, Int.mul_assoc]; omega
      · rename_i h1 h2
        have e : x.1 = y.1 := by omega
        rw [dot_mg, dot_bZ g k m a b (by omega)]
        simp only [dot, Int.mul_add, Int.add_mul, Int.mul_assoc, e]
        omega
theorem dot_lz (g : Int → Int) (a b : List (Int × Int)) (k : Int) : dot g (lz a b k) = dot g a + k * dot g b := dot_bZ g k _ a b (Nat.le_refl _)
theorem dot_congr {g h : Int → Int} : ∀ {l : List (Int × Int)}, (∀ x ∈ l, g x.1 = h x.1) → dot g l = dot h l
  | [], _ => rfl
  | x :: l, e => by rw [dot, dot, e x (List.mem_cons_self ..), dot_congr fun y hy => e y (List.mem_cons_of_mem _ hy)]

/-- The rows of a matrix, by number. -/
def rowAt (B : List (List (Int × Int))) (k : Int) : List (Int × Int) := B.getD k.toNat []
theorem rowAt_mem {B : List (List (Int × Int))} {k : Int} (P : List (Int × Int) → Prop) (h0 : P []) (h : ∀ r ∈ B, P r) : P (rowAt B k) := by
  unfold rowAt
  rw [List.getD_eq_getElem?_getD]
  cases hk : B[k.toNat]? with
  | none => exact h0
  | some r => exact h r (List.mem_of_getElem? hk)
theorem rowAt_nat (B : List (List (Int × Int))) (k : Nat) : rowAt B (k : Int) = B.getD k [] := rfl
theorem rowAt_get {B : List (List (Int × Int))} {k : Nat} {r : List (Int × Int)} (h : B[k]? = some r) : rowAt B (k : Int) = r := by
  rw [rowAt_nat, List.getD_eq_getElem?_getD, h]; rfl

/-- A row times a matrix. -/
def mulA (B : List (List (Int × Int))) (acc row : List (Int × Int)) : List (Int × Int) := row.foldl (fun acc t => lz acc (rowAt B t.1) t.2) acc
def mulR (B : List (List (Int × Int))) (row : List (Int × Int)) : List (Int × Int) := mulA B [] row
theorem dot_mulA (g : Int → Int) (B : List (List (Int × Int))) : ∀ (row acc : List (Int × Int)), dot g (mulA B acc row) = dot g acc + dot (fun k => dot g (rowAt B k)) row
  | [], acc => by simp [mulA, dot]
  | t :: row, acc => by
    show dot g (mulA B (lz acc (rowAt B t.1) t.2) row) = _
    rw [dot_mulA g B row, dot_lz, dot]; omega
theorem dot_mulR (g : Int → Int) (B : List (List (Int × Int))) (row : List (Int × Int)) : dot g (mulR B row) = dot (fun k => dot g (rowAt B k)) row := by
  unfold mulR; rw [dot_mulA]; simp [dot]
theorem cz_mulR (n : Int) (B : List (List (Int × Int))) (row : List (Int × Int)) : cz n (mulR B row) = dot (fun k => cz n (rowAt B k)) row := by
  rw [cz_dot, dot_mulR]
  exact dot_congr fun x _ => (cz_dot n _).symm
theorem mulA_srt {B : List (List (Int × Int))} (hB : ∀ r ∈ B, Srt r) : ∀ (row acc : List (Int × Int)), Srt acc → Srt (mulA B acc row)
  | [], _, h => h
  | _ :: row, _, h => mulA_srt hB row _ (lz_srt h (rowAt_mem Srt Srt.nil hB) _)
theorem mulR_srt {B : List (List (Int × Int))} (hB : ∀ r ∈ B, Srt r) (row : List (Int × Int)) : Srt (mulR B row) := mulA_srt hB row [] Srt.nil
def ColIn (c : Int) (r : List (Int × Int)) : Prop := ∀ x ∈ r, 0 ≤ x.1 ∧ x.1 < c
theorem ColIn.nil (c : Int) : ColIn c [] := fun _ h => by cases h
theorem lz_colIn {c : Int} {a b : List (Int × Int)} {k : Int} (ha : ColIn c a) (hb : ColIn c b) : ColIn c (lz a b k) := fun q hq => by
  rcases lz_cols hq with ⟨x, hx, e⟩ | ⟨x, hx, e⟩
  · rw [← e]; exact ha x hx
  · rw [← e]; exact hb x hx
theorem mulA_col {c : Int} {B : List (List (Int × Int))} (hB : ∀ r ∈ B, ColIn c r) : ∀ (row acc : List (Int × Int)), ColIn c acc → ColIn c (mulA B acc row)
  | [], _, h => h
  | _ :: row, _, h => mulA_col hB row _ (lz_colIn h (rowAt_mem (ColIn c) (ColIn.nil c) hB))
theorem mulR_col {c : Int} {B : List (List (Int × Int))} (hB : ∀ r ∈ B, ColIn c r) (row : List (Int × Int)) : ColIn c (mulR B row) := mulA_col hB row [] (ColIn.nil c)
def BdR (b : Nat) (r : List (Int × Int)) : Prop := ∀ x ∈ r, x.2.natAbs ≤ b
theorem BdR.nil (b : Nat) : BdR b [] := fun _ h => by cases h
theorem BdR.mono {a b : Nat} {r : List (Int × Int)} (h : BdR a r) (hab : a ≤ b) : BdR b r := fun x hx => Nat.le_trans (h x hx) hab
theorem mulA_bd {b e : Nat} {B : List (List (Int × Int))} (hB : ∀ r ∈ B, BdR b r) : ∀ (row acc : List (Int × Int)) (a : Nat), BdR e row → BdR a acc → BdR (a + row.length * (e * b)) (mulA B acc row)
  | [], acc, a, _, h => by simpa [mulA] using h
  | t :: row, acc, a, hr, h => by
    have h1 : BdR (a + e * b) (lz acc (rowAt B t.1) t.2) := lz_bnd h (rowAt_mem (BdR b) (BdR.nil b) hB) (hr t (List.mem_cons_self ..))
    have h2 := mulA_bd hB row _ (a + e * b) (fun x hx => hr x (List.mem_cons_of_mem _ hx)) h1
    refine BdR.mono h2 ?_
    rw [List.length_cons, Nat.succ_mul]; omega
theorem mulR_bd {b e : Nat} {B : List (List (Int × Int))} {row : List (Int × Int)} (hB : ∀ r ∈ B, BdR b r) (hr : BdR e row) : BdR (row.length * (e * b)) (mulR B row) := by
  have := mulA_bd hB row [] 0 hr (BdR.nil 0)
  rwa [Nat.zero_add] at this
theorem srt_len : ∀ {l : List (Int × Int)} {a c : Int}, Srt l → (∀ x ∈ l, a ≤ x.1 ∧ x.1 < c) → (l.length : Int) ≤ max 0 (c - a)
  | [], a, c, _, _ => by simp; omega
  | x :: l, a, c, h, hc => by
    obtain ⟨h1, h2, _⟩ := h.tail
    have := srt_len (a := x.1 + 1) (c := c) h1 fun y hy => ⟨by have := h2 y hy; omega, (hc y (List.mem_cons_of_mem _ hy)).2⟩
    have h3 := hc x (List.mem_cons_self ..)
    rw [List.length_cons]; omega
theorem srt_len0 {l : List (Int × Int)} {c : Nat} (h : Srt l) (hc : ColIn (c : Int) l) : l.length ≤ c := by
  have := srt_len h hc; omega

/-! A map of sums -/
theorem getM_cons (x : Int × Int) (l : List (Int × Int)) (n : Int) : getM (x :: l) n = if x.1 = n then x.2 else getM l n := by
  unfold getM
  by_cases h : x.1 = n
  · have e : fnd n (x :: l) = some 0 := by unfold fnd; rw [if_pos h]
    rw [e, if_pos h]; rfl
  · have e : fnd n (x :: l) = (fnd n l).map (· + 1) := by
      show (if x.1 = n then some 0 else (fnd n l).map (· + 1)) = _
      rw [if_neg h]
    rw [e, if_neg h]
    cases fnd n l with
    | none => rfl
    | some j => simp
theorem getM_nil (n : Int) : getM [] n = 0 := rfl
theorem putM_cons (x : Int × Int) (m : List (Int × Int)) (n v : Int) : putM (x :: m) n v = if x.1 = n then (n, v) :: m else x :: putM m n v := by
  unfold putM
  by_cases h : x.1 = n
  · have e : fnd n (x :: m) = some 0 := by unfold fnd; rw [if_pos h]
    rw [e, if_pos h]; rfl
  · have e : fnd n (x :: m) = (fnd n m).map (· + 1) := by
      show (if x.1 = n then some 0 else (fnd n m).map (· + 1)) = _
      rw [if_neg h]
    rw [e, if_neg h]
    cases fnd n m with
    | none => rfl
    | some j => simp
theorem putM_nil (n v : Int) : putM [] n v = [(n, v)] := rfl
theorem getM_putM (n v k : Int) : ∀ m : List (Int × Int), getM (putM m n v) k = if k = n then v else getM m k
  | [] => by
    rw [putM_nil, getM_cons, getM_nil]
    by_cases h : k = n
    · subst h; simp
    · rw [if_neg (fun e => h e.symm), if_neg h]
  | x :: m => by
    rw [putM_cons]
    by_cases hx : x.1 = n
    · rw [if_pos hx, getM_cons, getM_cons]
      by_cases h : k = n
      · subst h; simp
      · rw [if_neg (fun e => h e.symm), if_neg h, if_neg (fun e => h (by rw [← e, hx]))]
    · rw [if_neg hx, getM_cons, getM_cons, getM_putM n v k m]
      by_cases h : k = n
      · subst h; rw [if_pos rfl, if_neg hx, if_pos rfl]
      · rw [if_neg h, if_neg h]
def Ndk (m : List (Int × Int)) : Prop := m.Pairwise (fun x y => x.1 ≠ y.1)
theorem putM_keys (n v : Int) : ∀ (m : List (Int × Int)) (y : Int × Int), y ∈ putM m n v → y.1 = n ∨ ∃ x ∈ m, x.1 = y.1
  | [], y, h => by simp [putM_nil] at h; exact .inl (by rw [h])
  | x :: m, y, h => by
    rw [putM_cons] at h
    split at h
    · rcases List.mem_cons.1 h with rfl | h
      · exact .inl rfl
      · exact .inr ⟨y, List.mem_cons_of_mem _ h, rfl⟩
    · rcases List.mem_cons.1 h with rfl | h
      · exact .inr ⟨y, List.mem_cons_self .., rfl⟩
      · rcases putM_keys n v m y h with h | ⟨z, hz, e⟩
        · exact .inl h
        · exact .inr ⟨z, List.mem_cons_of_mem _ hz, e⟩
theorem putM_ndk (n v : Int) : ∀ {m : List (Int × Int)}, Ndk m → Ndk (putM m n v)
  | [], _ => List.pairwise_singleton _ _
  | x :: m, h => by
    obtain ⟨h1, h2⟩ := List.pairwise_cons.1 h
    rw [putM_cons]
    by_cases hx : x.1 = n
    · rw [if_pos hx]
      exact List.pairwise_cons.2 ⟨fun y hy => by rw [show ((n, v) : Int × Int).1 = x.1 from hx.symm]; exact h1 y hy, h2⟩
    · rw [if_neg hx]
      refine List.pairwise_cons.2 ⟨fun y hy => ?_, putM_ndk n v h2⟩
      rcases putM_keys n v m y hy with e | ⟨z, hz, e⟩
      · rw [e]; exact hx
      · rw [← e]; exact h1 z hz
theorem putM_len (m : List (Int × Int)) (n v : Int) : (putM m n v).length ≤ m.length + 1 := by
  unfold putM
  split <;> simp
def addT (v : Int) (m : List (Int × Int)) (u : Int × Int) : List (Int × Int) := putM m u.1 (getM m u.1 + v * u.2)
def sumT (v : Int) (m row : List (Int × Int)) : List (Int × Int) := row.foldl (addT v) m
def sumS (B : List (List (Int × Int))) (m row : List (Int × Int)) : List (Int × Int) := row.foldl (fun m t => sumT t.2 m (rowAt B t.1)) m
theorem sumT_snoc (v : Int) (m row : List (Int × Int)) (u : Int × Int) : sumT v m (row ++ [u]) = addT v (sumT v m row) u := by simp [sumT]
theorem sumS_snoc (B : List (List (Int × Int))) (m row : List (Int × Int)) (t : Int × Int) : sumS B m (row ++ [t]) = sumT t.2 (sumS B m row) (rowAt B t.1) := by simp [sumS]
theorem getM_addT (v k : Int) (m : List (Int × Int)) (u : Int × Int) : getM (addT v m u) k = getM m k + if u.1 = k then v * u.2 else 0 := by
  unfold addT
  rw [getM_putM]
  by_cases h : k = u.1
  · subst h; simp
  · rw [if_neg h, if_neg (fun e => h e.symm)]; omega
theorem getM_sumT (v k : Int) : ∀ (row m : List (Int × Int)), getM (sumT v m row) k = getM m k + v * cz k row
  | [], m => by simp [sumT, cz]
  | u :: row, m => by
    show getM (sumT v (addT v m u) row) k = _
    rw [getM_sumT v k row, getM_addT, cz, Int.mul_add, mul_ite]; omega
theorem getM_sumS (k : Int) (B : List (List (Int × Int))) : ∀ (row m : List (Int × Int)), getM (sumS B m row) k = getM m k + dot (fun j => cz k (rowAt B j)) row
  | [], m => by simp [sumS, dot]
  | t :: row, m => by
    show getM (sumS B (sumT t.2 m (rowAt B t.1)) row) k = _
    rw [getM_sumS k B row, getM_sumT, dot]; omega
/-- Of the maps that come up: keys once, in range; sizes. -/
structure MapOk (c b : Nat) (m : List (Int × Int)) : Prop where
  nd : Ndk m
  col : ColIn (c : Int) m
  bd : BdR b m
theorem MapOk.nil (c b : Nat) : MapOk c b [] := ⟨List.Pairwise.nil, ColIn.nil _, BdR.nil _⟩
theorem getM_bd {b : Nat} {m : List (Int × Int)} (h : BdR b m) (n : Int) : (getM m n).natAbs ≤ b := by
  unfold getM
  cases hf : fnd n m with
  | none => simp
  | some j =>
    obtain ⟨z, hz⟩ := fnd_some hf
    simp only [List.getD_eq_getElem?_getD, hz, Option.getD_some]
    exact h _ (List.mem_of_getElem? hz)
theorem putM_mem {m : List (Int × Int)} {n v : Int} {x : Int × Int} (h : x ∈ putM m n v) : x ∈ m ∨ x = (n, v) := by
  unfold putM at h
  split at h
  · rcases List.mem_or_eq_of_mem_set h with h | h
    · exact .inl h
    · exact .inr h
  · rcases List.mem_append.1 h with h | h
    · exact .inl h
    · exact .inr (by simpa using h)
theorem MapOk.addT {c b d : Nat} {v : Int} {m : List (Int × Int)} {u : Int × Int} (h : MapOk c b m) (hu : 0 ≤ u.1 ∧ u.1 < c) (hv : (v * u.2).natAbs ≤ d) : MapOk c (b + d) (addT v m u) := by
  refine ⟨putM_ndk _ _ h.nd, fun x hx => ?_, fun x hx => ?_⟩
  · rcases putM_mem hx with hx | rfl
    · exact h.col x hx
    · exact hu
  · rcases putM_mem hx with hx | rfl
    · exact Nat.le_trans (h.bd x hx) (Nat.le_add_right ..)
    · have := getM_bd h.bd u.1
      simp only; omega
theorem getM_map (g : Int → Int) : ∀ (l : List Int) (n : Int), getM (l.map fun n => (n, g n)) n = if n ∈ l then g n else 0
  | [], n => rfl
  | x :: l, n => by
    rw [List.map_cons, getM_cons, getM_map g l n]
    by_cases h : x = n
    · subst h; simp
    · have h' : ¬ n = x := fun e => h e.symm
      simp [h, h']
theorem getM_none {m : List (Int × Int)} {n : Int} (h : n ∉ m.map (·.1)) : getM m n = 0 := by
  induction m with
  | nil => rfl
  | cons x m ih =>
    rw [getM_cons, if_neg (fun e => h (by simp [e]))]
    exact ih fun e => h (List.mem_cons_of_mem _ e)

/-- What is written out: the sums by column, zeros left out. -/
def outF (m : List (Int × Int)) (n : Int) : Option (Int × Int) := if getM m n = 0 then none else some (n, getM m n)
def outM (m : List (Int × Int)) : List (Int × Int) := (isort (m.map (·.1))).filterMap (outF m)
theorem cz_outL (m : List (Int × Int)) (k : Int) : ∀ {l : List Int}, l.Pairwise (· < ·) → cz k (l.filterMap (outF m)) = if k ∈ l then getM m k else 0
  | [], _ => rfl
  | n :: l, h => by
    obtain ⟨h1, h2⟩ := List.pairwise_cons.1 h
    have ih := cz_outL m k h2
    have hn : ∀ z : Int, cz k ((n, z) :: l.filterMap (outF m)) = (if n = k then z else 0) + cz k (l.filterMap (outF m)) := fun z => rfl
    rw [List.filterMap_cons]
    have e : outF m n = if getM m n = 0 then none else some (n, getM m n) := rfl
    by_cases h0 : getM m n = 0
    · rw [e, if_pos h0]
      simp only [ih]
      by_cases hk : k = n
      · subst hk
        rw [if_neg (fun hk => by have := h1 _ hk; omega), if_pos (List.mem_cons_self ..), h0]
      · by_cases hl : k ∈ l
        · rw [if_pos hl, if_pos (List.mem_cons_of_mem _ hl)]
        · rw [if_neg hl, if_neg (fun hm => by rcases List.mem_cons.1 hm with hm | hm <;> contradiction)]
    · rw [e, if_neg h0]
      simp only [hn, ih]
      by_cases hk : k = n
      · subst hk
        rw [if_pos rfl, if_neg (fun hk => by have := h1 _ hk; omega), if_pos (List.mem_cons_self ..)]; omega
      · rw [if_neg (fun e => hk e.symm)]
        by_cases hl : k ∈ l
        · rw [if_pos hl, if_pos (List.mem_cons_of_mem _ hl)]; omega
        · rw [if_neg hl, if_neg (fun hm => by rcases List.mem_cons.1 hm with hm | hm <;> contradiction)]; rfl
theorem isort_lt {m : List (Int × Int)} (h : Ndk m) : (isort (m.map (·.1))).Pairwise (· < ·) := by
  have h1 := Go.Proofs.isort_sorted (m.map (·.1))
  have h0 : (m.map (·.1)).Pairwise (fun a b : Int => a ≠ b) := by rw [List.pairwise_map]; exact h
  have h2 : (isort (m.map (·.1))).Pairwise (fun a b : Int => a ≠ b) := (Go.Proofs.isort_perm (m.map (·.1))).symm.pairwise h0 (fun {x y} (hxy : x ≠ y) => Ne.symm hxy)
  exact (h1.and h2).imp fun ⟨a, b⟩ => by omega
theorem ndk_len {m : List (Int × Int)} {c : Nat} (h : Ndk m) (hc : ColIn (c : Int) m) : m.length ≤ c := by
  have h1 : Srt ((isort (m.map (·.1))).map fun n => ((n, 1) : Int × Int)) := ⟨by rw [List.pairwise_map]; exact isort_lt h, fun x hx => by obtain ⟨n, _, rfl⟩ := List.mem_map.1 hx; simp⟩
  have h2 := srt_len0 (c := c) h1 fun x hx => by
    obtain ⟨n, hn, rfl⟩ := List.mem_map.1 hx
    obtain ⟨y, hy, rfl⟩ := List.mem_map.1 ((isort_mem n _).1 hn)
    exact hc y hy
  rwa [List.length_map, isort_len, List.length_map] at h2
theorem outL_srt (m : List (Int × Int)) : ∀ {l : List Int}, l.Pairwise (· < ·) → Srt (l.filterMap (outF m)) ∧ ∀ x ∈ l.filterMap (outF m), x.1 ∈ l
  | [], _ => ⟨Srt.nil, fun _ h => by cases h⟩
  | n :: l, h => by
    obtain ⟨h1, h2⟩ := List.pairwise_cons.1 h
    obtain ⟨ih1, ih2⟩ := outL_srt m h2
    rw [List.filterMap_cons]
    have e : outF m n = if getM m n = 0 then none else some (n, getM m n) := rfl
    by_cases h0 : getM m n = 0
    · rw [e, if_pos h0]
      exact ⟨ih1, fun x hx => List.mem_cons_of_mem _ (ih2 x hx)⟩
    · rw [e, if_neg h0]
      refine ⟨⟨List.pairwise_cons.2 ⟨fun y hy => h1 _ (ih2 y hy), ih1.1⟩, fun x hx => ?_⟩, fun x hx => ?_⟩
      · rcases List.mem_cons.1 hx with rfl | hx
        · exact h0
        · exact ih1.2 x hx
      · rcases List.mem_cons.1 hx with rfl | hx
        · exact List.mem_cons_self ..
        · exact List.mem_cons_of_mem _ (ih2 x hx)
theorem outM_srt {m : List (Int × Int)} (h : Ndk m) : Srt (outM m) := (outL_srt m (isort_lt h)).1
theorem cz_outM {m : List (Int × Int)} (h : Ndk m) (k : Int) : cz k (outM m) = getM m k := by
  unfold outM
  rw [cz_outL m k (isort_lt h)]
  by_cases hk : k ∈ m.map (·.1)
  · rw [if_pos ((isort_mem k _).2 hk)]
  · rw [if_neg (fun h => hk ((isort_mem k _).1 h)), getM_none hk]
theorem outM_mulR {B : List (List (Int × Int))} {row : List (Int × Int)} (hB : ∀ r ∈ B, Srt r) (h : Ndk (sumS B [] row)) : outM (sumS B [] row) = mulR B row :=
  Srt.ext (outM_srt h) (mulR_srt hB row) fun n => by rw [cz_outM h, getM_sumS, cz_mulR, getM_nil]; omega

end Go.Am

open Go Go.Am Go.Proofs
namespace Go.Am
set_option linter.unusedSimpArgs false

/-! Sums over a dense row -/
def vdot (g : Int → Int) : Nat → List Int → Int
  | _, [] => 0
  | j, z :: v => z * g j + vdot g (j + 1) v
theorem dot_rw0 (g : Int → Int) : ∀ (v : List Int) (j : Nat), dot g (rw0 j v) = vdot g j v
  | [], _ => rfl
  | z :: v, j => by
    have ih := dot_rw0 g v (j + 1)
    unfold rw0 vdot
    split
    · rename_i h; rw [ih, h]; simp
    · rw [dot, ih]
theorem vdot_snoc (g : Int → Int) : ∀ (v : List Int) (j : Nat) (z : Int), vdot g j (v ++ [z]) = vdot g j v + z * g ((j + v.length : Nat) : Int)
  | [], j, z => by simp [vdot]
  | y :: v, j, z => by
    rw [List.cons_append, vdot, vdot, vdot_snoc g v (j + 1) z, List.length_cons, show j + 1 + v.length = j + (v.length + 1) by omega]; omega
def ssum (F : Nat → Int) : Nat → Int
  | 0 => 0
  | n + 1 => ssum F n + F n
theorem ssum_congr {F G : Nat → Int} : ∀ {n : Nat}, (∀ k, k < n → F k = G k) → ssum F n = ssum G n
  | 0, _ => rfl
  | n + 1, h => by rw [ssum, ssum, ssum_congr (n := n) fun k hk => h k (by omega), h n (by omega)]
theorem vdot_range (g : Int → Int) (h : Nat → Int) : ∀ n : Nat, vdot g 0 ((List.range n).map h) = ssum (fun k => h k * g k) n
  | 0 => rfl
  | n + 1 => by
    rw [List.range_succ, List.map_append, List.map_singleton, vdot_snoc, vdot_range g h n, ssum]
    simp
theorem cz_rw0 (n : Int) : ∀ (v : List Int) (j : Nat), cz n (rw0 j v) = if (j : Int) ≤ n then v.getD (n - j).toNat 0 else 0
  | [], j => by simp [rw0, cz]
  | z :: v, j => by
    have ih := cz_rw0 n v (j + 1)
    have hc : cz n (rw0 j (z :: v)) = (if (j : Int) = n then z else 0) + cz n (rw0 (j + 1) v) := by
      conv => lhs; unfold rw0
      split
      · rename_i h; rw [h]; simp
      · rfl
    rw [hc, ih]
    by_cases h1 : (j : Int) = n
    · subst h1
      rw [if_pos rfl, if_neg (by omega), if_pos (Int.le_refl _), Int.sub_self]; simp
    · rw [if_neg h1]
      by_cases h2 : (j : Int) ≤ n
      · rw [if_pos (by omega), if_pos h2, show (n - (j : Int)).toNat = (n - ((j + 1 : Nat) : Int)).toNat + 1 by omega]; simp
      · rw [if_neg (by omega), if_neg h2]; rfl
theorem cz_rw00 (n : Int) (v : List Int) : cz n (rw0 0 v) = if 0 ≤ n then v.getD n.toNat 0 else 0 := by
  have := cz_rw0 n v 0
  simpa using this
theorem cz_out {c : Int} {n : Int} : ∀ {r : List (Int × Int)}, ColIn c r → ¬ (0 ≤ n ∧ n < c) → cz n r = 0
  | [], _, _ => rfl
  | x :: r, h, hn => by
    have h1 := h x (List.mem_cons_self ..)
    rw [cz, if_neg (fun e => hn (by rw [← e]; exact h1)), cz_out (fun y hy => h y (List.mem_cons_of_mem _ hy)) hn]; rfl
def dense (c : Nat) (r : List (Int × Int)) : List Int := (List.range c).map fun (k : Nat) => cz k r
theorem getD_range {α : Type} (h : Nat → α) (n k : Nat) (d : α) : ((List.range n).map h).getD k d = if k < n then h k else d := by
  rw [List.getD_eq_getElem?_getD, List.getElem?_map]
  by_cases hk : k < n
  · rw [if_pos hk, List.getElem?_range hk]; rfl
  · rw [if_neg hk, List.getElem?_eq_none (by simpa using hk)]; rfl
theorem rw0_dense {c : Nat} {r : List (Int × Int)} (h : Srt r) (hc : ColIn (c : Int) r) : rw0 0 (dense c r) = r :=
  Srt.ext (rw0_srt _ _) h fun n => by
    rw [cz_rw00]
    unfold dense
    by_cases h0 : 0 ≤ n
    · rw [if_pos h0, getD_range]
      by_cases h1 : n.toNat < c
      · rw [if_pos h1]; congr 1; omega
      · rw [if_neg h1, cz_out hc (by omega)]
    · rw [if_neg h0, cz_out hc (by omega)]
theorem dot_dense (g : Int → Int) {c : Nat} {r : List (Int × Int)} (h : Srt r) (hc : ColIn (c : Int) r) : dot g r = ssum (fun k => cz k r * g k) c := by
  conv => lhs; rw [← rw0_dense h hc]
  rw [dot_rw0]
  exact vdot_range g _ c

theorem cz_bdR {b : Nat} (n : Int) : ∀ {r : List (Int × Int)}, Srt r → BdR b r → (cz n r).natAbs ≤ b
  | [], _, _ => Nat.zero_le _
  | x :: r, h, hb => by
    obtain ⟨h1, h2, _⟩ := h.tail
    have ih := cz_bdR n h1 fun y hy => hb y (List.mem_cons_of_mem _ hy)
    have h3 := hb x (List.mem_cons_self ..)
    rw [cz]
    by_cases hx : x.1 = n
    · rw [if_pos hx, cz_gt (fun y hy => by have := h2 y hy; omega), Int.add_zero]; exact h3
    · rw [if_neg hx, Int.zero_add]; exact ih

/-! Transposes -/
def trL (c : Nat) (A : List (List (Int × Int))) : List (List (Int × Int)) := (List.range c).map fun (k : Nat) => rw0 0 (A.map (cz k))
theorem trL_len (c : Nat) (A : List (List (Int × Int))) : (trL c A).length = c := by simp [trL]
theorem rowAt_trL {c : Nat} (A : List (List (Int × Int))) {k : Nat} (h : k < c) : rowAt (trL c A) (k : Int) = rw0 0 (A.map (cz k)) := by
  unfold trL
  rw [rowAt_nat, getD_range, if_pos h]
theorem getD_map {α β : Type} (f : α → β) (l : List α) (k : Nat) (a : α) (b : β) (hb : f a = b) : (l.map f).getD k b = f (l.getD k a) := by
  rw [List.getD_eq_getElem?_getD, List.getD_eq_getElem?_getD, List.getElem?_map]
  cases l[k]? with
  | none => exact hb.symm
  | some x => rfl
theorem cz_nil (n : Int) : cz n [] = 0 := rfl
theorem cz_trRow (A : List (List (Int × Int))) (k i : Int) : cz i (rw0 0 (A.map (cz k))) = if 0 ≤ i then cz k (rowAt A i) else 0 := by
  rw [cz_rw00, getD_map (cz k) A i.toNat [] 0 rfl]; rfl
theorem map_rowAt {α : Type} (f : List (Int × Int) → α) (B : List (List (Int × Int))) : B.map f = (List.range B.length).map fun (k : Nat) => f (rowAt B k) := by
  apply List.ext_getElem?
  intro k
  by_cases h : k < B.length
  · rw [List.getElem?_map, List.getElem?_map, List.getElem?_range h, List.getElem?_eq_getElem h]
    simp only [Option.map_some]
    rw [rowAt_get (List.getElem?_eq_getElem h)]
  · rw [List.getElem?_eq_none (by simpa using h), List.getElem?_eq_none (by simpa using h)]

theorem mul_tr {ca cb : Nat} {A B : List (List (Int × Int))} (hA : ∀ r ∈ A, Srt r) (hAc : ∀ r ∈ A, ColIn (ca : Int) r) (hcb : B.length = ca) :
    (trL cb B).map (mulR (trL ca A)) = trL cb (A.map (mulR B)) := by
  unfold trL
  rw [List.map_map]
  refine List.map_congr_left fun c hc => ?_
  simp only [Function.comp]
  have hts : ∀ r ∈ (List.range ca).map (fun (k : Nat) => rw0 0 (A.map (cz k))), Srt r := fun r hr => by
    obtain ⟨k, _, rfl⟩ := List.mem_map.1 hr; exact rw0_srt _ _
  refine Srt.ext (mulR_srt hts _) (rw0_srt _ _) fun i => ?_
  rw [cz_mulR, dot_rw0, map_rowAt (cz (c : Int)) B, vdot_range, cz_trRow]
  have e1 : ∀ k, k < B.length → cz (c : Int) (rowAt B (k : Int)) * cz i (rowAt ((List.range ca).map (fun (k : Nat) => rw0 0 (A.map (cz k)))) (k : Int)) = if 0 ≤ i then cz (k : Int) (rowAt A i) * cz (c : Int) (rowAt B (k : Int)) else 0 := fun k hk => by
    have := rowAt_trL (c := ca) A (k := k) (by omega)
    unfold trL at this
    rw [this, cz_trRow]
    split
    · exact Int.mul_comm ..
    · exact Int.mul_zero _
  rw [ssum_congr e1]
  by_cases h0 : 0 ≤ i
  · simp only [if_pos h0]
    have e2 : rowAt (A.map (mulR B)) i = mulR B (rowAt A i) := by
      unfold rowAt
      exact getD_map (mulR B) A i.toNat [] [] rfl
    rw [e2, cz_mulR, dot_dense (c := ca) _ (rowAt_mem Srt Srt.nil hA) (rowAt_mem (ColIn (ca : Int)) (ColIn.nil _) hAc), hcb]
  · simp only [if_neg h0]
    generalize B.length = n
    induction n with
    | zero => rfl
    | succ n ih => rw [ssum, ih]; rfl

theorem tr_tr {c : Nat} {A : List (List (Int × Int))} (hA : ∀ r ∈ A, Srt r) (hAc : ∀ r ∈ A, ColIn (c : Int) r) : trL A.length (trL c A) = A := by
  have e0 : A = (List.range A.length).map fun (k : Nat) => rowAt A k := by
    have := map_rowAt id A
    simpa using this
  conv => rhs; rw [e0]
  conv => lhs; unfold trL
  refine List.map_congr_left fun i hi => ?_
  rw [List.mem_range] at hi
  refine Srt.ext (rw0_srt _ _) (rowAt_mem Srt Srt.nil hA) fun n => ?_
  rw [cz_trRow]
  have hcol : ColIn (c : Int) (rowAt A (i : Int)) := rowAt_mem (ColIn (c : Int)) (ColIn.nil _) hAc
  by_cases h0 : 0 ≤ n
  · rw [if_pos h0]
    obtain ⟨n, rfl⟩ : ∃ k : Nat, n = k := ⟨n.toNat, by omega⟩
    by_cases h1 : n < c
    · have h2 := rowAt_trL A h1
      unfold trL at h2
      rw [h2, cz_trRow, if_pos (by omega)]
    · have h2 : rowAt ((List.range c).map (fun (k : Nat) => rw0 0 (A.map (cz k)))) (n : Int) = [] := by
        rw [rowAt_nat, getD_range, if_neg h1]
      rw [h2, cz_nil, cz_out hcol (by omega)]
  · rw [if_neg h0, cz_out hcol (by omega)]

/-! Associativity -/
theorem mul_assoc {A : List (List (Int × Int))} {B C : List (List (Int × Int))} (hC : ∀ r ∈ C, Srt r) : (A.map (mulR B)).map (mulR C) = A.map (mulR (B.map (mulR C))) := by
  rw [List.map_map]
  refine List.map_congr_left fun row _ => ?_
  have hBC : ∀ r ∈ B.map (mulR C), Srt r := fun r hr => by obtain ⟨x, _, rfl⟩ := List.mem_map.1 hr; exact mulR_srt hC x
  refine Srt.ext (mulR_srt hC _) (mulR_srt hBC _) fun n => ?_
  show cz n (mulR C (mulR B row)) = _
  rw [cz_mulR, cz_mulR, dot_mulR]
  refine dot_congr fun x _ => ?_
  have : rowAt (B.map (mulR C)) x.1 = mulR C (rowAt B x.1) := by
    unfold rowAt
    exact getD_map (mulR C) B x.1.toNat [] [] rfl
  rw [this, cz_mulR]

/-! Dense rows times a matrix -/
theorem lv_skip (k : Int) : ∀ (l : List (Int × Int)) (a : Int), (∀ x ∈ l, x.1 ≠ k) → l.foldl (fun acc x => if x.1 = k then x.2 else acc) a = a
  | [], _, _ => rfl
  | x :: l, a, h => by
    rw [List.foldl_cons, if_neg (h x (List.mem_cons_self ..))]
    exact lv_skip k l a fun y hy => h y (List.mem_cons_of_mem _ hy)
theorem lv_cz (k : Int) : ∀ {l : List (Int × Int)}, Srt l → lv k l = cz k l
  | [], _ => rfl
  | x :: l, h => by
    obtain ⟨h1, h2, _⟩ := h.tail
    have ih := lv_cz k h1
    unfold lv at ih ⊢
    rw [List.foldl_cons, cz]
    by_cases hx : x.1 = k
    · rw [if_pos hx, lv_skip k l _ (fun y hy => by have := h2 y hy; omega), cz_gt (fun y hy => by have := h2 y hy; omega)]; omega
    · rw [if_neg hx, ih]; omega
theorem fullR_dense {c : Nat} {r : List (Int × Int)} (h : Srt r) : fullR r c = dense c r := List.map_congr_left fun k _ => lv_cz k h
theorem addAt_get (r : List Int) (k n : Nat) (z : Int) (hn : n < r.length) : (addAt r k z).getD n 0 = r.getD n 0 + if k = n then z else 0 := by
  unfold addAt
  rw [List.getD_eq_getElem?_getD, List.getElem?_set]
  by_cases h : k = n
  · subst h; simp [hn]
  · rw [if_neg h, if_neg h, List.getD_eq_getElem?_getD]; omega
theorem tmI_len (z : Int) : ∀ (row : List (Int × Int)) (r : List Int), (tmI z row r).length = r.length
  | [], _ => rfl
  | x :: row, r => by
    show (tmI z row (addAt r x.1.toNat (z * x.2))).length = _
    rw [tmI_len z row, addAt_len]
theorem tmI_get (z : Int) (n : Nat) : ∀ (row : List (Int × Int)) (r : List Int), n < r.length → (∀ x ∈ row, 0 ≤ x.1) → (tmI z row r).getD n 0 = r.getD n 0 + z * cz n row
  | [], r, _, _ => by simp [tmI, cz]
  | x :: row, r, hn, h => by
    have h0 := h x (List.mem_cons_self ..)
    show (tmI z row (addAt r x.1.toNat (z * x.2))).getD n 0 = _
    rw [tmI_get z n row _ (by rw [addAt_len]; exact hn) fun y hy => h y (List.mem_cons_of_mem _ hy), addAt_get _ _ _ _ hn, cz, Int.mul_add, mul_ite]
    by_cases hx : x.1 = (n : Int)
    · rw [if_pos hx, if_pos (by omega)]; omega
    · rw [if_neg hx, if_neg (by omega)]; omega
theorem tiO_len : ∀ (z : List (Int × List (Int × Int))) (r : List Int), (tiO z r).length = r.length
  | [], _ => rfl
  | p :: z, r => by
    show (tiO z (tmI p.1 p.2 r)).length = _
    rw [tiO_len z, tmI_len]
theorem tiO_get (n : Nat) : ∀ (z : List (Int × List (Int × Int))) (r : List Int), n < r.length → (∀ p ∈ z, ∀ x ∈ p.2, 0 ≤ x.1) → (tiO z r).getD n 0 = r.getD n 0 + (z.map fun p => p.1 * cz n p.2).sum
  | [], r, _, _ => by simp [tiO]
  | p :: z, r, hn, h => by
    show (tiO z (tmI p.1 p.2 r)).getD n 0 = _
    rw [tiO_get n z _ (by rw [tmI_len]; exact hn) fun y hy => h y (List.mem_cons_of_mem _ hy), tmI_get _ _ _ _ hn (h p (List.mem_cons_self ..)), List.map_cons, List.sum_cons]; omega
theorem sum_range (F : Nat → Int) : ∀ n : Nat, ((List.range n).map F).sum = ssum F n
  | 0 => rfl
  | n + 1 => by rw [List.range_succ, List.map_append, List.sum_append, sum_range F n, ssum]; simp
theorem zip_range {α β : Type} (f : Nat → α) (g : Nat → β) (n : Nat) : ((List.range n).map f).zip ((List.range n).map g) = (List.range n).map fun k => (f k, g k) := by
  rw [List.zip_map']
theorem times_mul {ca cb : Nat} {B : List (List (Int × Int))} {row : List (Int × Int)} (hB : ∀ r ∈ B, Srt r) (hBc : ∀ r ∈ B, ColIn (cb : Int) r) (hcb : B.length = ca) (hr : Srt row) (hc : ColIn (ca : Int) row) :
    rw0 0 (tiO ((fullR row ca).zip B) (List.replicate cb 0)) = mulR B row := by
  refine Srt.ext (rw0_srt _ _) (mulR_srt hB row) fun n => ?_
  have e0 : B = (List.range ca).map fun (k : Nat) => rowAt B k := by
    have := map_rowAt id B
    rw [hcb] at this
    simpa using this
  have hcol := mulR_col hBc row
  rw [cz_rw00]
  by_cases h0 : 0 ≤ n
  · rw [if_pos h0]
    obtain ⟨n, rfl⟩ : ∃ k : Nat, n = k := ⟨n.toNat, by omega⟩
    rw [Int.toNat_natCast]
    by_cases h1 : n < cb
    · rw [tiO_get n _ _ (by simpa using h1) (fun p hp x hx => (hBc p.2 (List.of_mem_zip (a := p.1) (b := p.2) hp).2 x hx).1), cz_mulR, dot_dense (c := ca) _ hr hc, fullR_dense hr]
      have e1 : (dense ca row).zip B = (List.range ca).map fun (k : Nat) => (cz k row, rowAt B k) := by
        conv => lhs; rw [e0]
        exact zip_range _ _ _
      rw [e1, List.map_map, sum_range]
      have e2 : (List.replicate cb (0 : Int)).getD n 0 = 0 := by
        rw [List.getD_eq_getElem?_getD, List.getElem?_replicate]; simp [h1]
      rw [e2, Int.zero_add]; rfl
    · rw [List.getD_eq_getElem?_getD, List.getElem?_eq_none (by rw [tiO_len]; simpa using h1), cz_out hcol (by omega)]; rfl
  · rw [if_neg h0, cz_out hcol (by omega)]

/-! How the program makes a transpose -/
def appT (M : List (List (Int × Int))) (k : Nat) (x : Int × Int) : List (List (Int × Int)) := M.set k (M.getD k [] ++ [x])
def tIn (i : Int) (M : List (List (Int × Int))) (row : List (Int × Int)) : List (List (Int × Int)) := row.foldl (fun M t => appT M t.1.toNat (i, t.2)) M
def tF (A : List (List (Int × Int))) (c n : Nat) : List (List (Int × Int)) := (List.range n).foldl (fun M (i : Nat) => tIn i M (rowAt A i)) (List.replicate c [])
theorem tIn_snoc (i : Int) (M : List (List (Int × Int))) (row : List (Int × Int)) (t : Int × Int) : tIn i M (row ++ [t]) = appT (tIn i M row) t.1.toNat (i, t.2) := by simp [tIn]
theorem tF_succ (A : List (List (Int × Int))) (c n : Nat) : tF A c (n + 1) = tIn n (tF A c n) (rowAt A n) := by simp [tF, List.range_succ]
theorem appT_len (M : List (List (Int × Int))) (k : Nat) (x : Int × Int) : (appT M k x).length = M.length := by simp [appT]
theorem tIn_len (i : Int) : ∀ (row : List (Int × Int)) (M : List (List (Int × Int))), (tIn i M row).length = M.length
  | [], _ => rfl
  | x :: row, M => by
    show (tIn i (appT M x.1.toNat (i, x.2)) row).length = _
    rw [tIn_len i row, appT_len]
theorem tF_len (A : List (List (Int × Int))) (c : Nat) : ∀ n : Nat, (tF A c n).length = c
  | 0 => by simp [tF]
  | n + 1 => by rw [tF_succ, tIn_len, tF_len A c n]
theorem appT_get (M : List (List (Int × Int))) (k n : Nat) (x : Int × Int) (hn : n < M.length) : (appT M k x).getD n [] = M.getD n [] ++ if k = n then [x] else [] := by
  unfold appT
  rw [List.getD_eq_getElem?_getD, List.getElem?_set]
  by_cases h : k = n
  · subst h; simp [hn]
  · rw [if_neg h, if_neg h, List.getD_eq_getElem?_getD, List.append_nil]
theorem tIn_get (i : Int) (n : Nat) : ∀ (row : List (Int × Int)) (M : List (List (Int × Int))), n < M.length → Srt row → (∀ x ∈ row, 0 ≤ x.1) → (tIn i M row).getD n [] = M.getD n [] ++ if cz n row = 0 then [] else [(i, cz n row)]
  | [], M, _, _, _ => by simp [tIn, cz]
  | x :: row, M, hn, hs, h => by
    obtain ⟨h1, h2, h3⟩ := hs.tail
    have h0 := h x (List.mem_cons_self ..)
    show (tIn i (appT M x.1.toNat (i, x.2)) row).getD n [] = _
    rw [tIn_get i n row _ (by rw [appT_len]; exact hn) h1 fun y hy => h y (List.mem_cons_of_mem _ hy), appT_get _ _ _ _ hn, cz]
    by_cases hx : x.1 = (n : Int)
    · have e : cz n row = 0 := cz_gt fun y hy => by have := h2 y hy; omega
      rw [if_pos (by omega), if_pos hx, e, if_pos rfl, Int.add_zero, if_neg h3, List.append_nil]
    · rw [if_neg (by omega), if_neg hx, List.append_nil, Int.zero_add]
theorem tF_get {A : List (List (Int × Int))} {c : Nat} (hA : ∀ r ∈ A, Srt r) (hAc : ∀ r ∈ A, ∀ x ∈ r, 0 ≤ x.1) {k : Nat} (hk : k < c) : ∀ n : Nat, n ≤ A.length → (tF A c n).getD k [] = rw0 0 ((A.take n).map (cz k))
  | 0, _ => by simp [tF, rw0, List.getD_eq_getElem?_getD, hk]
  | n + 1, h => by
    have hg : A[n]? = some A[n] := List.getElem?_eq_getElem (by omega)
    have hl : ((A.take n).map (cz (k : Int))).length = n := by simp; omega
    rw [tF_succ, tIn_get _ _ _ _ (by rw [tF_len]; exact hk) (rowAt_mem Srt Srt.nil hA) (rowAt_mem (fun r => ∀ x ∈ r, 0 ≤ x.1) (fun _ h => by cases h) hAc), tF_get hA hAc hk n (by omega), List.take_add_one, hg, rowAt_get hg]
    simp only [Option.toList, List.map_append, List.map_singleton]
    rw [rw0_snoc, hl, Nat.zero_add]
theorem tF_trL {A : List (List (Int × Int))} {c : Nat} (hA : ∀ r ∈ A, Srt r) (hAc : ∀ r ∈ A, ∀ x ∈ r, 0 ≤ x.1) : tF A c A.length = trL c A := by
  apply List.ext_getElem (by rw [tF_len, trL_len])
  intro k h1 h2
  rw [tF_len] at h1
  have e1 := tF_get hA hAc h1 A.length (Nat.le_refl _)
  have e2 := rowAt_trL A h1
  rw [List.take_length, List.getD_eq_getElem?_getD, List.getElem?_eq_getElem (by rw [tF_len]; exact h1)] at e1
  rw [rowAt_nat, List.getD_eq_getElem?_getD, List.getElem?_eq_getElem (by rw [trL_len]; exact h1)] at e2
  simp only [Option.getD_some] at e1 e2
  rw [e1, e2]

end Go.Am
