/- Valid matrices with bounded elements: products, transposes, the checks on them. No condition. -/
import Derived.Test.YtmnjglpieghdkaaIi
import Derived.Test.YtmnjglpieghdkaaA4
import Derived.Test.YtmnjglpieghdkaaMx
import Derived.Test.YtmnjglpieghdkaaMw
open Go Go.Am Go.Proofs
namespace Go.Am
set_option linter.unusedSimpArgs false

theorem o1_keys {P : Program} {dst : Option Tmp} {ty : TypeId} {pos : String} {after : Array Edge} {guard : Option (Nat × Bool)} {σ : St} {con : List Nat} {k : St → List Nat → Prop} {f g : FuncId} {x : Operand} {ts : Array TypeId}
    {d : Dm ((⟨dst, .call ⟨.value (.func f), [x].toArray, ts⟩, ty, pos, after, guard⟩ : Oper), k)} {id : Nat} {ho : HO} (hs : KeysSpec P f g) (hm : mutF P f = true)
    (hx : oev σ.Γ x = .mp id) (hH : σ.H id = some ho) (hk : k ⟨putA σ.Γ dst (.kf g id), σ.H, σ.n⟩ con) : O1d P ⟨dst, .call ⟨.value (.func f), [x].toArray, ts⟩, ty, pos, after, guard⟩ σ con k d := by
  show OC P f [x].toArray dst σ con k
  unfold OC
  have e : hd1 (oev σ.Γ x) = some (id, .mp 0) := by rw [hx]; rfl
  simp only [hm, if_true, e, hH]
  exact .inl ⟨g, trivial, trivial, hs, hk⟩

theorem o1_sorted {P : Program} {dst : Option Tmp} {ty : TypeId} {pos : String} {after : Array Edge} {guard : Option (Nat × Bool)} {σ : St} {con : List Nat} {k : St → List Nat → Prop} {f g : FuncId} {x : Operand} {ts : Array TypeId}
    {d : Dm ((⟨dst, .call ⟨.value (.func f), [x].toArray, ts⟩, ty, pos, after, guard⟩ : Oper), k)} {id : Nat} {es : List (Int × AV)} (hs : SortedSpec P f g) (hm : mutF P f = false)
    (hx : oev σ.Γ x = .kf g id) (hH : σ.H id = some (.map .i64 es)) (hl : es.length ≤ 1099511627776) (hr : (es.map (·.1)).all inr = true)
    (hk : k ⟨putA σ.Γ dst (.d (.sl ((isort (es.map (·.1))).map fun n => [.i .i64 n]))), σ.H, σ.n⟩ con) : O1d P ⟨dst, .call ⟨.value (.func f), [x].toArray, ts⟩, ty, pos, after, guard⟩ σ con k d := by
  show OC P f [x].toArray dst σ con k
  unfold OC
  have e : ([x].toArray.toList.map (oev σ.Γ)) = [.kf g id] := by show [oev σ.Γ x] = _; rw [hx]
  simp only [hm, Bool.false_eq_true, if_false]
  split
  · rename_i g' id' hx'
    rw [e] at hx'
    injection hx' with hx' _
    injection hx' with h1 h2
    subst h1; subst h2
    rw [hH]
    exact ⟨hl, hr, hs, hk⟩
  · rename_i hne
    exact (hne _ _ e).elim

/-! Sums, as association lists -/
def fnd (n : Int) : List (Int × Int) → Option Nat
  | [] => none
  | x :: es => if x.1 = n then some 0 else (fnd n es).map (· + 1)
def encV (z : Int) : AV := .ag [.d (.b (decide (z < 0))), .d (encM (digs z.natAbs))]
def encE (m : List (Int × Int)) : List (Int × AV) := m.map fun p => (p.1, encV p.2)
theorem mfind_encE (n : Int) (m : List (Int × Int)) : mfind n (encE m) = fnd n m := by
  induction m with
  | nil => rfl
  | cons x m ih =>
    show (if x.1 = n then some 0 else (mfind n (encE m)).map (· + 1)) = if x.1 = n then some 0 else (fnd n m).map (· + 1)
    rw [ih]
theorem fnd_some {n : Int} {m : List (Int × Int)} {j : Nat} (h : fnd n m = some j) : ∃ z, m[j]? = some (n, z) := by
  induction m generalizing j with
  | nil => cases h
  | cons x m ih =>
    unfold fnd at h
    by_cases hx : x.1 = n
    · rw [if_pos hx] at h; injection h with h; subst h; exact ⟨x.2, by rw [← hx]; rfl⟩
    · rw [if_neg hx] at h
      obtain ⟨i, hi, rfl⟩ := Option.map_eq_some_iff.1 h
      obtain ⟨z, hz⟩ := ih hi
      exact ⟨z, by simpa using hz⟩
def getM (m : List (Int × Int)) (n : Int) : Int := match fnd n m with
  | some j => (m.getD j (0, 0)).2
  | none => 0
def putM (m : List (Int × Int)) (n v : Int) : List (Int × Int) := match fnd n m with
  | some j => m.set j (n, v)
  | none => m ++ [(n, v)]
def delM (m : List (Int × Int)) (n : Int) : List (Int × Int) := match fnd n m with
  | some j => m.eraseIdx j
  | none => m
def addM (m : List (Int × Int)) (n k : Int) : List (Int × Int) := if getM m n + k = 0 then delM m n else putM m n (getM m n + k)
theorem mput_encE (m : List (Int × Int)) (n v : Int) : mput (encE m) n (encV v) = encE (putM m n v) := by
  unfold mput putM
  rw [mfind_encE]
  cases fnd n m with
  | none => simp [encE]
  | some j => simp [encE, List.map_set]
theorem eraseIdx_map' {α β : Type} (f : α → β) : ∀ (l : List α) (j : Nat), (l.map f).eraseIdx j = (l.eraseIdx j).map f
  | [], _ => rfl
  | _ :: _, 0 => rfl
  | x :: l, j + 1 => by
    show f x :: (l.map f).eraseIdx j = f x :: (l.eraseIdx j).map f
    rw [eraseIdx_map' f l j]
theorem mdel_encE (m : List (Int × Int)) (n : Int) : mdel (encE m) n = encE (delM m n) := by
  unfold mdel delM
  rw [mfind_encE]
  cases fnd n m with
  | none => rfl
  | some j => simp [encE, eraseIdx_map']
theorem mlook_encE (m : List (Int × Int)) (n : Int) : mlook (encE m) n = if (fnd n m).isSome then some (encV (getM m n)) else none := by
  unfold mlook getM
  rw [mfind_encE]
  cases h : fnd n m with
  | none => rfl
  | some j =>
    obtain ⟨z, hz⟩ := fnd_some h
    simp [encE, hz, List.getD_eq_getElem?_getD]
theorem noh_encE (m : List (Int × Int)) : nohO (.map .i64 (encE m)) = true := by
  simp only [nohO, encE, List.all_map, List.all_eq_true]
  intro x _; rfl
theorem lookA_mp {P : Program} (H : Nat → Option HO) (t : TypeId) (id : Nat) (x : AV) (ok : Bool) : lookA P H t (.mp id) x ok = match H id with
    | some (.map k es) => (tmp P t).bind fun p => match x with
      | .d (.i k' n) => if k' = k ∧ tint P p.1 = some k then
          match mlook es n with
          | some v => some (if ok then .tp [v, .d (.b true)] else v)
          | none => (tz P p.2).map fun z => if ok then .tp [cv z, .d (.b false)] else cv z
        else none
      | _ => none
    | _ => none := rfl
theorem mapW_mp {P : Program} (H : Nat → Option HO) (t : TypeId) (id : Nat) (x : AV) (v : Option AV) : mapW P H t (.mp id) x v = match H id with
    | some (.map k es) => (tmp P t).bind fun p => match x with
      | .d (.i k' n) => if k' = k ∧ tint P p.1 = some k then some (id, .map k (match v with | some v => mput es n v | none => mdel es n)) else none
      | _ => none
    | _ => none := rfl

/-- The sum, by keys in order. -/
def chainM (m : List (Int × Int)) : List (Int × Int) := (isort (m.map (·.1))).map fun n => (n, getM m n)
theorem ins_len (n : Int) : ∀ l : List Int, (ins n l).length = l.length + 1
  | [] => rfl
  | m :: l => by
    unfold ins
    split
    · rfl
    · simp [ins_len n l]
theorem isort_len : ∀ l : List Int, (isort l).length = l.length
  | [] => rfl
  | n :: l => by rw [isort, ins_len, isort_len l]; rfl
theorem ins_mem (n x : Int) : ∀ l : List Int, x ∈ ins n l ↔ x = n ∨ x ∈ l
  | [] => by simp [ins]
  | m :: l => by
    unfold ins
    split
    · simp
    · simp [ins_mem n x l]
      constructor
      · rintro (h | h | h) <;> simp [h]
      · rintro (h | h | h) <;> simp [h]
theorem isort_mem (x : Int) : ∀ l : List Int, x ∈ isort l ↔ x ∈ l
  | [] => by simp [isort]
  | n :: l => by rw [isort, ins_mem, isort_mem x l]; simp
theorem fnd_isSome {n : Int} {m : List (Int × Int)} (h : n ∈ m.map (·.1)) : (fnd n m).isSome = true := by
  induction m with
  | nil => simp at h
  | cons x m ih =>
    unfold fnd
    by_cases hx : x.1 = n
    · rw [if_pos hx]; rfl
    · rw [if_neg hx, Option.isSome_map]
      exact ih (by
        rcases List.mem_cons.1 h with h | h
        · exact (hx h.symm).elim
        · exact h)
theorem encE_keys (m : List (Int × Int)) : (encE m).map (·.1) = m.map (·.1) := by simp [encE]

theorem scrubO_encE (l : List Nat) (m : List (Int × Int)) : scrubO l (.map .i64 (encE m)) = .map .i64 (encE m) := by
  simp [scrubO, encE, encV, scrub1, scrub0]

end Go.Am

open Go Go.Am Go.Proofs
namespace Go.Am
set_option linter.unusedSimpArgs false

/-- A row against numbers. -/
def dot (g : Int → Int) : List (Int × Int) → Int
  | [] => 0
  | x :: l => x.2 * g x.1 + dot g l
theorem dot_app (g : Int → Int) : ∀ a b : List (Int × Int), dot g (a ++ b) = dot g a + dot g b
  | [], b => by simp [dot]
  | x :: a, b => by rw [List.cons_append, dot, dot, dot_app g a b]; omega
theorem cz_dot (n : Int) : ∀ l : List (Int × Int), cz n l = dot (fun m => if m = n then 1 else 0) l
  | [] => rfl
  | x :: l => by
    rw [cz, dot, cz_dot n l]
    split <;> simp
theorem dot_mg (g : Int → Int) (k : Int) (p : Int × Int × Int) (l : List (Int × Int × Int)) : dot g (mg k (p :: l)) = (p.2.1 + k * p.2.2) * g p.1 + dot g (mg k l) := by
  rw [mg_cons]
  by_cases h : p.2.1 + k * p.2.2 = 0
  · rw [if_pos h, h]; simp
  · rw [if_neg h]; rfl
theorem dot_bZ (g : Int → Int) (k : Int) : ∀ (m : Nat) (a b : List (Int × Int)), a.length + b.length ≤ m → dot g (mg k (bZ m a b)) = dot g a + k * dot g b
  | 0, a, b, h => by
    have ha : a = [] := List.eq_nil_of_length_eq_zero (by omega)
    have hb : b = [] := List.eq_nil_of_length_eq_zero (by omega)
    subst ha; subst hb; simp [bZ, mg, dot]
  | m + 1, [], [], _ => by simp [bZ, mg, dot]
  | m + 1, x :: a, [], h => by
    have ih := dot_bZ g k m a [] (by simp at h ⊢; omega)
    show dot g (mg k ((x.1, x.2, 0) :: bZ m a [])) = _
    rw [dot_mg, ih]
    simp only [dot, Int.mul_zero, Int.add_zero]
  | m + 1, [], y :: b, h => by
    have ih := dot_bZ g k m [] b (by simp at h ⊢; omega)
    show dot g (mg k ((y.1, 0, y.2) :: bZ m [] b)) = _
    rw [dot_mg, ih]
    simp only [dot, Int.zero_add, Int.mul_add, Int.mul_assoc]
  | m + 1, x :: a, y :: b, h => by
    simp only [List.length_cons] at h
    unfold bZ
    split
    · rw [dot_mg, dot_bZ g k m (x :: a) b (by simp only [List.length_cons]; omega)]
      simp only [dot, Int.zero_add, Int.mul_add, Int.mul_assoc]; omega
    · split
      · rw [dot_mg, dot_bZ g k m a (y :: b) (by simp only [List.length_cons]; omega)]
        simp only [dot, Int.mul_zero, Int.add_zero, Int.mul_add, Int.mul_assoc]; omega
      · rename_i h1 h2
        have e : x.1 = y.1 := by omega
        rw [dot_mg, dot_bZ g k m a b (by omega)]
        simp only [dot, Int.mul_add, Int.add_mul, Int.mul_assoc, e]
        omega
theorem dot_lz (g : Int → Int) (a b : List (Int × Int)) (k : Int) : dot g (lz a b k) = dot g a + k * dot g b := dot_bZ g k _ a b (Nat.le_refl _)
theorem dot_congr {g h : Int → Int} : ∀ {l : List (Int × Int)}, (∀ x ∈ l, g x.1 = h x.1) → dot g l = dot h l
  | [], _ => rfl
  | x :: l, e => by rw [dot, dot, e x (List.mem_cons_self ..), dot_congr fun y hy => e y (List.mem_cons_of_mem _ hy)]

/-- The rows of a matrix, by number. -/
def rowAt (B : List (List (Int × Int))) (k : Int) : List (Int × Int) := B.getD k.toNat []
theorem rowAt_mem {B : List (List (Int × Int))} {k : Int} (P : List (Int × Int) → Prop) (h0 : P []) (h : ∀ r ∈ B, P r) : P (rowAt B k) := by
  unfold rowAt
  rw [List.getD_eq_getElem?_getD]
  cases hk : B[k.toNat]? with
  | none => exact h0
  | some r => exact h r (List.mem_of_getElem? hk)
theorem rowAt_nat (B : List (List (Int × Int))) (k : Nat) : rowAt B (k : Int) = B.getD k [] := rfl
theorem rowAt_get {B : List (List (Int × Int))} {k : Nat} {r : List (Int × Int)} (h : B[k]? = some r) : rowAt B (k : Int) = r := by
  rw [rowAt_nat, List.getD_eq_getElem?_getD, h]; rfl

/-- A row times a matrix. -/
def mulA (B : List (List (Int × Int))) (acc row : List (Int × Int)) : List (Int × Int) := row.foldl (fun acc t => lz acc (rowAt B t.1) t.2) acc
def mulR (B : List (List (Int × Int))) (row : List (Int × Int)) : List (Int × Int) := mulA B [] row
theorem dot_mulA (g : Int → Int) (B : List (List (Int × Int))) : ∀ (row acc : List (Int × Int)), dot g (mulA B acc row) = dot g acc + dot (fun k => dot g (rowAt B k)) row
  | [], acc => by simp [mulA, dot]
  | t :: row, acc => by
    show dot g (mulA B (lz acc (rowAt B t.1) t.2) row) = _
    rw [dot_mulA g B row, dot_lz, dot]; omega
theorem dot_mulR (g : Int → Int) (B : List (List (Int × Int))) (row : List (Int × Int)) : dot g (mulR B row) = dot (fun k => dot g (rowAt B k)) row := by
  unfold mulR; rw [dot_mulA]; simp [dot]
theorem cz_mulR (n : Int) (B : List (List (Int × Int))) (row : List (Int × Int)) : cz n (mulR B row) = dot (fun k => cz n (rowAt B k)) row := by
  rw [cz_dot, dot_mulR]
  exact dot_congr fun x _ => (cz_dot n _).symm
theorem mulA_srt {B : List (List (Int × Int))} (hB : ∀ r ∈ B, Srt r) : ∀ (row acc : List (Int × Int)), Srt acc → Srt (mulA B acc row)
  | [], _, h => h
  | _ :: row, _, h => mulA_srt hB row _ (lz_srt h (rowAt_mem Srt Srt.nil hB) _)
theorem mulR_srt {B : List (List (Int × Int))} (hB : ∀ r ∈ B, Srt r) (row : List (Int × Int)) : Srt (mulR B row) := mulA_srt hB row [] Srt.nil
def ColIn (c : Int) (r : List (Int × Int)) : Prop := ∀ x ∈ r, 0 ≤ x.1 ∧ x.1 < c
theorem ColIn.nil (c : Int) : ColIn c [] := fun _ h => by cases h
theorem lz_colIn {c : Int} {a b : List (Int × Int)} {k : Int} (ha : ColIn c a) (hb : ColIn c b) : ColIn c (lz a b k) := fun q hq => by
  rcases lz_cols hq with ⟨x, hx, e⟩ | ⟨x, hx, e⟩
  · rw [← e]; exact ha x hx
  · rw [← e]; exact hb x hx
theorem mulA_col {c : Int} {B : List (List (Int × Int))} (hB : ∀ r ∈ B, ColIn c r) : ∀ (row acc : List (Int × Int)), ColIn c acc → ColIn c (mulA B acc row)
  | [], _, h => h
  | _ :: row, _, h => mulA_col hB row _ (lz_colIn h (rowAt_mem (ColIn c) (ColIn.nil c) hB))
theorem mulR_col {c : Int} {B : List (List (Int × Int))} (hB : ∀ r ∈ B, ColIn c r) (row : List (Int × Int)) : ColIn c (mulR B row) := mulA_col hB row [] (ColIn.nil c)
def BdR (b : Nat) (r : List (Int × Int)) : Prop := ∀ x ∈ r, x.2.natAbs ≤ b
theorem BdR.nil (b : Nat) : BdR b [] := fun _ h => by cases h
theorem BdR.mono {a b : Nat} {r : List (Int × Int)} (h : BdR a r) (hab : a ≤ b) : BdR b r := fun x hx => Nat.le_trans (h x hx) hab
theorem mulA_bd {b e : Nat} {B : List (List (Int × Int))} (hB : ∀ r ∈ B, BdR b r) : ∀ (row acc : List (Int × Int)) (a : Nat), BdR e row → BdR a acc → BdR (a + row.length * (e * b)) (mulA B acc row)
  | [], acc, a, _, h => by simpa [mulA] using h
  | t :: row, acc, a, hr, h => by
    have h1 : BdR (a + e * b) (lz acc (rowAt B t.1) t.2) := lz_bnd h (rowAt_mem (BdR b) (BdR.nil b) hB) (hr t (List.mem_cons_self ..))
    have h2 := mulA_bd hB row _ (a + e * b) (fun x hx => hr x (List.mem_cons_of_mem _ hx)) h1
    refine BdR.mono h2 ?_
    rw [List.length_cons, Nat.succ_mul]; omega
theorem mulR_bd {b e : Nat} {B : List (List (Int × Int))} {row : List (Int × Int)} (hB : ∀ r ∈ B, BdR b r) (hr : BdR e row) : BdR (row.length * (e * b)) (mulR B row) := by
  have := mulA_bd hB row [] 0 hr (BdR.nil 0)
  rwa [Nat.zero_add] at this
theorem srt_len : ∀ {l : List (Int × Int)} {a c : Int}, Srt l → (∀ x ∈ l, a ≤ x.1 ∧ x.1 < c) → (l.length : Int) ≤ max 0 (c - a)
  | [], a, c, _, _ => by simp; omega
  | x :: l, a, c, h, hc => by
    obtain ⟨h1, h2, _⟩ := h.tail
    have := srt_len (a := x.1 + 1) (c := c) h1 fun y hy => ⟨by have := h2 y hy; omega, (hc y (List.mem_cons_of_mem _ hy)).2⟩
    have h3 := hc x (List.mem_cons_self ..)
    rw [List.length_cons]; omega
theorem srt_len0 {l : List (Int × Int)} {c : Nat} (h : Srt l) (hc : ColIn (c : Int) l) : l.length ≤ c := by
  have := srt_len h hc; omega

/-! A map of sums -/
theorem getM_cons (x : Int × Int) (l : List (Int × Int)) (n : Int) : getM (x :: l) n = if x.1 = n then x.2 else getM l n := by
  unfold getM
  by_cases h : x.1 = n
  · have e : fnd n (x :: l) = some 0 := by unfold fnd; rw [if_pos h]
    rw [e, if_pos h]; rfl
  · have e : fnd n (x :: l) = (fnd n l).map (· + 1) := by
      show (if x.1 = n then some 0 else (fnd n l).map (· + 1)) = _
      rw [if_neg h]
    rw [e, if_neg h]
    cases fnd n l with
    | none => rfl
    | some j => simp
theorem getM_nil (n : Int) : getM [] n = 0 := rfl
theorem putM_cons (x : Int × Int) (m : List (Int × Int)) (n v : Int) : putM (x :: m) n v = if x.1 = n then (n, v) :: m else x :: putM m n v := by
  unfold putM
  by_cases h : x.1 = n
  · have e : fnd n (x :: m) = some 0 := by unfold fnd; rw [if_pos h]
    rw [e, if_pos h]; rfl
  · have e : fnd n (x :: m) = (fnd n m).map (· + 1) := by
      show (if x.1 = n then some 0 else (fnd n m).map (· + 1)) = _
      rw [if_neg h]
    rw [e, if_neg h]
    cases fnd n m with
    | none => rfl
    | some j => simp
theorem putM_nil (n v : Int) : putM [] n v = [(n, v)] := rfl
theorem getM_putM (n v k : Int) : ∀ m : List (Int × Int), getM (putM m n v) k = if k = n then v else getM m k
  | [] => by
    rw [putM_nil, getM_cons, getM_nil]
    by_cases h : k = n
    · subst h; simp
    · rw [if_neg (fun e => h e.symm), if_neg h]
  | x :: m => by
    rw [putM_cons]
    by_cases hx : x.1 = n
    · rw [if_pos hx, getM_cons, getM_cons]
      by_cases h : k = n
      · subst h; simp
      · rw [if_neg (fun e => h e.symm), if_neg h, if_neg (fun e => h (by rw [← e, hx]))]
    · rw [if_neg hx, getM_cons, getM_cons, getM_putM n v k m]
      by_cases h : k = n
      · subst h; rw [if_pos rfl, if_neg hx, if_pos rfl]
      · rw [if_neg h, if_neg h]
def Ndk (m : List (Int × Int)) : Prop := m.Pairwise (fun x y => x.1 ≠ y.1)
theorem putM_keys (n v : Int) : ∀ (m : List (Int × Int)) (y : Int × Int), y ∈ putM m n v → y.1 = n ∨ ∃ x ∈ m, x.1 = y.1
  | [], y, h => by simp [putM_nil] at h; exact .inl (by rw [h])
  | x :: m, y, h => by
    rw [putM_cons] at h
    split at h
    · rcases List.mem_cons.1 h with rfl | h
      · exact .inl rfl
      · exact .inr ⟨y, List.mem_cons_of_mem _ h, rfl⟩
    · rcases List.mem_cons.1 h with rfl | h
      · exact .inr ⟨y, List.mem_cons_self .., rfl⟩
      · rcases putM_keys n v m y h with h | ⟨z, hz, e⟩
        · exact .inl h
        · exact .inr ⟨z, List.mem_cons_of_mem _ hz, e⟩
theorem putM_ndk (n v : Int) : ∀ {m : List (Int × Int)}, Ndk m → Ndk (putM m n v)
  | [], _ => List.pairwise_singleton _ _
  | x :: m, h => by
    obtain ⟨h1, h2⟩ := List.pairwise_cons.1 h
    rw [putM_cons]
    by_cases hx : x.1 = n
    · rw [if_pos hx]
      exact List.pairwise_cons.2 ⟨fun y hy => by rw [show ((n, v) : Int × Int).1 = x.1 from hx.symm]; exact h1 y hy, h2⟩
    · rw [if_neg hx]
      refine List.pairwise_cons.2 ⟨fun y hy => ?_, putM_ndk n v h2⟩
      rcases putM_keys n v m y hy with e | ⟨z, hz, e⟩
      · rw [e]; exact hx
      · rw [← e]; exact h1 z hz
theorem putM_len (m : List (Int × Int)) (n v : Int) : (putM m n v).length ≤ m.length + 1 := by
  unfold putM
  split <;> simp
def addT (v : Int) (m : List (Int × Int)) (u : Int × Int) : List (Int × Int) := putM m u.1 (getM m u.1 + v * u.2)
def sumT (v : Int) (m row : List (Int × Int)) : List (Int × Int) := row.foldl (addT v) m
def sumS (B : List (List (Int × Int))) (m row : List (Int × Int)) : List (Int × Int) := row.foldl (fun m t => sumT t.2 m (rowAt B t.1)) m
theorem sumT_snoc (v : Int) (m row : List (Int × Int)) (u : Int × Int) : sumT v m (row ++ [u]) = addT v (sumT v m row) u := by simp [sumT]
theorem sumS_snoc (B : List (List (Int × Int))) (m row : List (Int × Int)) (t : Int × Int) : sumS B m (row ++ [t]) = sumT t.2 (sumS B m row) (rowAt B t.1) := by simp [sumS]
theorem getM_addT (v k : Int) (m : List (Int × Int)) (u : Int × Int) : getM (addT v m u) k = getM m k + if u.1 = k then v * u.2 else 0 := by
  unfold addT
  rw [getM_putM]
  by_cases h : k = u.1
  · subst h; simp
  · rw [if_neg h, if_neg (fun e => h e.symm)]; omega
theorem getM_sumT (v k : Int) : ∀ (row m : List (Int × Int)), getM (sumT v m row) k = getM m k + v * cz k row
  | [], m => by simp [sumT, cz]
  | u :: row, m => by
    show getM (sumT v (addT v m u) row) k = _
    rw [getM_sumT v k row, getM_addT, cz, Int.mul_add, mul_ite]; omega
theorem getM_sumS (k : Int) (B : List (List (Int × Int))) : ∀ (row m : List (Int × Int)), getM (sumS B m row) k = getM m k + dot (fun j => cz k (rowAt B j)) row
  | [], m => by simp [sumS, dot]
  | t :: row, m => by
    show getM (sumS B (sumT t.2 m (rowAt B t.1)) row) k = _
    rw [getM_sumS k B row, getM_sumT, dot]; omega
/-- Of the maps that come up: keys once, in range; sizes. -/
structure MapOk (c b : Nat) (m : List (Int × Int)) : Prop where
  nd : Ndk m
  col : ColIn (c : Int) m
  bd : BdR b m
theorem MapOk.nil (c b : Nat) : MapOk c b [] := ⟨List.Pairwise.nil, ColIn.nil _, BdR.nil _⟩
theorem getM_bd {b : Nat} {m : List (Int × Int)} (h : BdR b m) (n : Int) : (getM m n).natAbs ≤ b := by
  unfold getM
  cases hf : fnd n m with
  | none => simp
  | some j =>
    obtain ⟨z, hz⟩ := fnd_some hf
    simp only [List.getD_eq_getElem?_getD, hz, Option.getD_some]
    exact h _ (List.mem_of_getElem? hz)
theorem putM_mem {m : List (Int × Int)} {n v : Int} {x : Int × Int} (h : x ∈ putM m n v) : x ∈ m ∨ x = (n, v) := by
  unfold putM at h
  split at h
  · rcases List.mem_or_eq_of_mem_set h with h | h
    · exact .inl h
    · exact .inr h
  · rcases List.mem_append.1 h with h | h
    · exact .inl h
    · exact .inr (by simpa using h)
theorem MapOk.addT {c b d : Nat} {v : Int} {m : List (Int × Int)} {u : Int × Int} (h : MapOk c b m) (hu : 0 ≤ u.1 ∧ u.1 < c) (hv : (v * u.2).natAbs ≤ d) : MapOk c (b + d) (addT v m u) := by
  refine ⟨putM_ndk _ _ h.nd, fun x hx => ?_, fun x hx => ?_⟩
  · rcases putM_mem hx with hx | rfl
    · exact h.col x hx
    · exact hu
  · rcases putM_mem hx with hx | rfl
    · exact Nat.le_trans (h.bd x hx) (Nat.le_add_right ..)
    · have := getM_bd h.bd u.1
      simp only; omega
theorem getM_map (g : Int → Int) : ∀ (l : List Int) (n : Int), getM (l.map fun n => (n, g n)) n = if n ∈ l then g n else 0
  | [], n => rfl
  | x :: l, n => by
    rw [List.map_cons, getM_cons, getM_map g l n]
    by_cases h : x = n
    · subst h; simp
    · have h' : ¬ n = x := fun e => h e.symm
      simp [h, h']
theorem getM_none {m : List (Int × Int)} {n : Int} (h : n ∉ m.map (·.1)) : getM m n = 0 := by
  induction m with
  | nil => rfl
  | cons x m ih =>
    rw [getM_cons, if_neg (fun e => h (by simp [e]))]
    exact ih fun e => h (List.mem_cons_of_mem _ e)

/-- What is written out: the sums by column, zeros left out. -/
def outF (m : List (Int × Int)) (n : Int) : Option (Int × Int) := if getM m n = 0 then none else some (n, getM m n)
def outM (m : List (Int × Int)) : List (Int × Int) := (isort (m.map (·.1))).filterMap (outF m)
theorem cz_outL (m : List (Int × Int)) (k : Int) : ∀ {l : List Int}, l.Pairwise (· < ·) → cz k (l.filterMap (outF m)) = if k ∈ l then getM m k else 0
  | [], _ => rfl
  | n :: l, h => by
    obtain ⟨h1, h2⟩ := List.pairwise_cons.1 h
    have ih := cz_outL m k h2
    have hn : ∀ z : Int, cz k ((n, z) :: l.filterMap (outF m)) = (if n = k then z else 0) + cz k (l.filterMap (outF m)) := fun z => rfl
    rw [List.filterMap_cons]
    have e : outF m n = if getM m n = 0 then none else some (n, getM m n) := rfl
    by_cases h0 : getM m n = 0
    · rw [e, if_pos h0]
      simp only [ih]
      by_cases hk : k = n
      · subst hk
        rw [if_neg (fun hk => by have := h1 _ hk; omega), if_pos (List.mem_cons_self ..), h0]
      · by_cases hl : k ∈ l
        · rw [if_pos hl, if_pos (List.mem_cons_of_mem _ hl)]
        · rw [if_neg hl, if_neg (fun hm => by rcases List.mem_cons.1 hm with hm | hm <;> contradiction)]
    · rw [e, if_neg h0]
      simp only [hn, ih]
      by_cases hk : k = n
      · subst hk
        rw [if_pos rfl, if_neg (fun hk => by have := h1 _ hk; omega), if_pos (List.mem_cons_self ..)]; omega
      · rw [if_neg (fun e => hk e.symm)]
        by_cases hl : k ∈ l
        · rw [if_pos hl, if_pos (List.mem_cons_of_mem _ hl)]; omega
        · rw [if_neg hl, if_neg (fun hm => by rcases List.mem_cons.1 hm with hm | hm <;> contradiction)]; rfl
theorem isort_lt {m : List (Int × Int)} (h : Ndk m) : (isort (m.map (·.1))).Pairwise (· < ·) := by
  have h1 := Go.Proofs.isort_sorted (m.map (·.1))
  have h0 : (m.map (·.1)).Pairwise (fun a b : Int => a ≠ b) := by rw [List.pairwise_map]; exact h
  have h2 : (isort (m.map (·.1))).Pairwise (fun a b : Int => a ≠ b) := (Go.Proofs.isort_perm (m.map (·.1))).symm.pairwise h0 (fun {x y} (hxy : x ≠ y) => Ne.symm hxy)
  exact (h1.and h2).imp fun ⟨a, b⟩ => by omega
theorem ndk_len {m : List (Int × Int)} {c : Nat} (h : Ndk m) (hc : ColIn (c : Int) m) : m.length ≤ c := by
  have h1 : Srt ((isort (m.map (·.1))).map fun n => ((n, 1) : Int × Int)) := ⟨by rw [List.pairwise_map]; exact isort_lt h, fun x hx => by obtain ⟨n, _, rfl⟩ := List.mem_map.1 hx; simp⟩
  have h2 := srt_len0 (c := c) h1 fun x hx => by
    obtain ⟨n, hn, rfl⟩ := List.mem_map.1 hx
    obtain ⟨y, hy, rfl⟩ := List.mem_map.1 ((isort_mem n _).1 hn)
    exact hc y hy
  rwa [List.length_map, isort_len, List.length_map] at h2
theorem outL_srt (m : List (Int × Int)) : ∀ {l : List Int}, l.Pairwise (· < ·) → Srt (l.filterMap (outF m)) ∧ ∀ x ∈ l.filterMap (outF m), x.1 ∈ l
  | [], _ => ⟨Srt.nil, fun _ h => by cases h⟩
  | n :: l, h => by
    obtain ⟨h1, h2⟩ := List.pairwise_cons.1 h
    obtain ⟨ih1, ih2⟩ := outL_srt m h2
    rw [List.filterMap_cons]
    have e : outF m n = if getM m n = 0 then none else some (n, getM m n) := rfl
    by_cases h0 : getM m n = 0
    · rw [e, if_pos h0]
      exact ⟨ih1, fun x hx => List.mem_cons_of_mem _ (ih2 x hx)⟩
    · rw [e, if_neg h0]
      refine ⟨⟨List.pairwise_cons.2 ⟨fun y hy => h1 _ (ih2 y hy), ih1.1⟩, fun x hx => ?_⟩, fun x hx => ?_⟩
      · rcases List.mem_cons.1 hx with rfl | hx
        · exact h0
        · exact ih1.2 x hx
      · rcases List.mem_cons.1 hx with rfl | hx
        · exact List.mem_cons_self ..
        · exact List.mem_cons_of_mem _ (ih2 x hx)
theorem outM_srt {m : List (Int × Int)} (h : Ndk m) : Srt (outM m) := (outL_srt m (isort_lt h)).1
theorem cz_outM {m : List (Int × Int)} (h : Ndk m) (k : Int) : cz k (outM m) = getM m k := by
  unfold outM
  rw [cz_outL m k (isort_lt h)]
  by_cases hk : k ∈ m.map (·.1)
  · rw [if_pos ((isort_mem k _).2 hk)]
  · rw [if_neg (fun h => hk ((isort_mem k _).1 h)), getM_none hk]
theorem outM_mulR {B : List (List (Int × Int))} {row : List (Int × Int)} (hB : ∀ r ∈ B, Srt r) (h : Ndk (sumS B [] row)) : outM (sumS B [] row) = mulR B row :=
  Srt.ext (outM_srt h) (mulR_srt hB row) fun n => by rw [cz_outM h, getM_sumS, cz_mulR, getM_nil]; omega

end Go.Am

open Go Go.Am Go.Proofs
namespace Go.Am
set_option linter.unusedSimpArgs false

theorem subO_encE {H H' : Nat → Option HO} {ρ : Nat → Nat} (m : List (Int × Int)) : SubO H H' ρ (.map .i64 (encE m)) (.map .i64 (encE m)) := subO_map fun x hx => by
  obtain ⟨y, _, rfl⟩ := List.mem_map.1 hx
  refine ⟨rfl, fun k c d hc hd => ?_⟩
  rw [hc] at hd; injection hd with hd; subst hd
  rcases k with _ | _ | k
  · simp at hc; subst hc; exact (subL_d _ _).2 rfl
  · simp at hc; subst hc; exact (subL_d _ _).2 rfl
  · simp at hc
theorem subO_encE_iff {H H' : Nat → Option HO} {ρ : Nat → Nat} (m : List (Int × Int)) : SubO H H' ρ (.map .i64 (encE m)) (.map .i64 (encE m)) ↔ True := ⟨fun _ => trivial, fun _ => subO_encE m⟩
theorem subO_encE_eq {H H' : Nat → Option HO} {ρ : Nat → Nat} {m m' : List (Int × Int)} (h : m = m') : SubO H H' ρ (.map .i64 (encE m)) (.map .i64 (encE m')) := h ▸ subO_encE m

/-- While the sums of row i are made. -/
def mlA (cb : Int) (A B : List (List (Int × Int))) (row : List (Int × Int)) (i j : Nat) (rows : List AV) (m : List (Int × Int)) : St :=
  StL [(3, .ptr 1 0), (4, .ptr 2 0), (6, .ptr 4 0), (7, .d (.i .i64 (i : Int))), (9, .mp 5), (41, .d (.sl (A.map fun r => [encC r]))), (42, .d (.i .i64 (A.length : Int))), (43, .d (.i .i64 (i : Int))), (49, .d (encC row)), (50, .d (.i .i64 (row.length : Int))), (51, .d (.i .i64 (j : Int)))] none
    [.cells 44 [.d (.i .i64 (B.length : Int)), .d (.i .i64 cb), .d (.sl (B.map fun r => [encC r]))], .cells 44 [.d (.i .i64 0), .d (.i .i64 0), .nil], .cells 45 rows, .cells 44 [.d (.i .i64 (A.length : Int)), .d (.i .i64 cb), .own 3 0 A.length 1], .map .i64 (encE m)]
def mlB (cb : Int) (A B : List (List (Int × Int))) (row : List (Int × Int)) (i j : Nat) (rows : List AV) (tc tv : Int) (r : List (Int × Int)) (k : Nat) (m : List (Int × Int)) : St :=
  StL [(3, .ptr 1 0), (4, .ptr 2 0), (6, .ptr 4 0), (7, .d (.i .i64 (i : Int))), (9, .mp 5), (11, .ptr 6 0), (41, .d (.sl (A.map fun r => [encC r]))), (42, .d (.i .i64 (A.length : Int))), (43, .d (.i .i64 (i : Int))), (49, .d (encC row)), (50, .d (.i .i64 (row.length : Int))), (51, .d (.i .i64 (j : Int))),
      (60, .d (encC r)), (61, .d (.i .i64 (r.length : Int))), (62, .d (.i .i64 (k : Int)))] none
    [.cells 44 [.d (.i .i64 (B.length : Int)), .d (.i .i64 cb), .d (.sl (B.map fun r => [encC r]))], .cells 44 [.d (.i .i64 0), .d (.i .i64 0), .nil], .cells 45 rows, .cells 44 [.d (.i .i64 (A.length : Int)), .d (.i .i64 cb), .own 3 0 A.length 1], .map .i64 (encE m),
     .cells 109 [.d (.i .i64 tc), .d (.b (decide (tv < 0))), .d (encM (digs tv.natAbs))]]
/-- While row i is written. -/
def mlC (cb : Int) (A B : List (List (Int × Int))) (ks : List Int) (i q n : Nat) (done : List D) (m : List (Int × Int)) : List (Int × Int) → St
  | [] => StL [(3, .ptr 1 0), (4, .ptr 2 0), (6, .ptr 4 0), (7, .d (.i .i64 (i : Int))), (9, .mp 5), (41, .d (.sl (A.map fun r => [encC r]))), (42, .d (.i .i64 (A.length : Int))), (43, .d (.i .i64 (i : Int))), (83, .d (.sl (ks.map fun n => [.i .i64 n]))), (84, .d (.i .i64 (ks.length : Int))), (85, .d (.i .i64 (q : Int)))] none
    [.cells 44 [.d (.i .i64 (B.length : Int)), .d (.i .i64 cb), .d (.sl (B.map fun r => [encC r]))], .cells 44 [.d (.i .i64 0), .d (.i .i64 0), .nil], .cells 45 (rowD done .nil n), .cells 44 [.d (.i .i64 (A.length : Int)), .d (.i .i64 cb), .own 3 0 A.length 1], .map .i64 (encE m)]
  | p :: M => StL [(3, .ptr 1 0), (4, .ptr 2 0), (6, .ptr 4 0), (7, .d (.i .i64 (i : Int))), (9, .mp 5), (41, .d (.sl (A.map fun r => [encC r]))), (42, .d (.i .i64 (A.length : Int))), (43, .d (.i .i64 (i : Int))), (83, .d (.sl (ks.map fun n => [.i .i64 n]))), (84, .d (.i .i64 (ks.length : Int))), (85, .d (.i .i64 (q : Int)))] none
    [.cells 44 [.d (.i .i64 (B.length : Int)), .d (.i .i64 cb), .d (.sl (B.map fun r => [encC r]))], .cells 44 [.d (.i .i64 0), .d (.i .i64 0), .nil], .cells 45 (rowD done (.own 6 0 (M.length + 1) 3) n), .cells 44 [.d (.i .i64 (A.length : Int)), .d (.i .i64 cb), .own 3 0 A.length 1], .map .i64 (encE m),
     .cells 109 ((fcs (p :: M)).map .d)]

set_option maxHeartbeats 16000000 in
set_option maxRecDepth 10000 in
theorem spMul {ca cb : Nat} {A B : List (List (Int × Int))} (hA : MOk ca A) (hB : MOk cb B) (hcb : B.length = ca) (hAl : A.length ≤ 1000) (hcal : ca ≤ 1000) (hcbl : cb ≤ 1000) (hAb : ∀ r ∈ A, BdR 1000000 r) (hBb : ∀ r ∈ B, BdR 1000000 r) :
    Spec Try.prog 41 [encSp A.length ca A, encSp B.length cb B] (.tp [encSp A.length cb (A.map (mulR B)), .i .i64 0]) := by
  refine spec_of (N := 113) follows_mixed Try.func41 rfl rfl rfl (by kernel_rfl) (by kernel_rfl) (by simp) ?_
  have hVa := spValidZ hA
  have hVb := spValidZ hB
  have hne : (((ca : Int) != B.length) : Bool) = false := by simp; omega
  have hm : 24 * (A.length : Int) ≤ 281474976710656 := by omega
  have hm2 : (A.length : Int) ≤ 9223372036854775807 := by omega
  simp (config := { maxSteps := 1000000 }) [-List.map_map, -List.mapM_map, ↓awp_skip, ↓awp_regionB, ↓awp_seq, ↓awp_block, ↓awp_exit, ↓awp_ret, ↓awp_label, ↓awp_scope, ↓awp_condB, ↓awp_loopB, ↓ow_nil', ↓ow_cons0, ↓ow_cons1, ↓o1_move, ↓o1_assign, ↓o1_pick, ↓o1_alloc, ↓o1_box, ↓o1_build, ↓o1_buildSlice, ↓o1_makeSlice, ↓o1_makeMap, ↓o1_binOp, ↓o1_unOp, ↓o1_convert, ↓o1_fieldAddr, ↓o1_field, ↓o1_indexAddr, ↓o1_extract, ↓o1_slice, ↓o1_len, ↓o1_max, ↓o1_min, ↓o1_load, ↓o1_lookup, ↓o1_store, ↓o1_mapUpdate, ↓o1_append, ↓o1_delete, ↓o1_call, encSp]
  refine callP_intro (ds := [encSp A.length ca A]) (by rfl) hVa ?_
  simp (config := { maxSteps := 1000000 }) [-List.map_map, -List.mapM_map, ↓awp_skip, ↓awp_regionB, ↓awp_seq, ↓awp_block, ↓awp_exit, ↓awp_ret, ↓awp_label, ↓awp_scope, ↓awp_condB, ↓awp_loopB, ↓ow_nil', ↓ow_cons0, ↓ow_cons1, ↓o1_move, ↓o1_assign, ↓o1_pick, ↓o1_alloc, ↓o1_box, ↓o1_build, ↓o1_buildSlice, ↓o1_makeSlice, ↓o1_makeMap, ↓o1_binOp, ↓o1_unOp, ↓o1_convert, ↓o1_fieldAddr, ↓o1_field, ↓o1_indexAddr, ↓o1_extract, ↓o1_slice, ↓o1_len, ↓o1_max, ↓o1_min, ↓o1_load, ↓o1_lookup, ↓o1_store, ↓o1_mapUpdate, ↓o1_append, ↓o1_delete, ↓o1_call, encSp]
  refine callP_intro (ds := [encSp B.length cb B]) (by rfl) hVb ?_
  simp (config := { maxSteps := 1000000 }) [-List.map_map, -List.mapM_map, ↓awp_skip, ↓awp_regionB, ↓awp_seq, ↓awp_block, ↓awp_exit, ↓awp_ret, ↓awp_label, ↓awp_scope, ↓awp_condB, ↓awp_loopB, ↓ow_nil', ↓ow_cons0, ↓ow_cons1, ↓o1_move, ↓o1_assign, ↓o1_pick, ↓o1_alloc, ↓o1_box, ↓o1_build, ↓o1_buildSlice, ↓o1_makeSlice, ↓o1_makeMap, ↓o1_binOp, ↓o1_unOp, ↓o1_convert, ↓o1_fieldAddr, ↓o1_field, ↓o1_indexAddr, ↓o1_extract, ↓o1_slice, ↓o1_len, ↓o1_max, ↓o1_min, ↓o1_load, ↓o1_lookup, ↓o1_store, ↓o1_mapUpdate, ↓o1_append, ↓o1_delete, ↓o1_call, hne, hm, hm2, le_maxLen]
  refine loopP_inv (fun i : Nat => i ≤ A.length) (fun i => StL [(3, .ptr 1 0), (4, .ptr 2 0), (6, .ptr 4 0), (41, .d (.sl (A.map fun r => [encC r]))), (42, .d (.i .i64 (A.length : Int))), (43, .d (.i .i64 (i : Int)))] none
      [.cells 44 [.d (.i .i64 (B.length : Int)), .d (.i .i64 (cb : Int)), .d (.sl (B.map fun r => [encC r]))], .cells 44 [.d (.i .i64 0), .d (.i .i64 0), .nil], .cells 45 (rowE (rcs ((A.map (mulR B)).take i)) (A.length - i)), .cells 44 [.d (.i .i64 (A.length : Int)), .d (.i .i64 (cb : Int)), .own 3 0 A.length 1]]) (fun i => A.length - i) 0 (Nat.zero_le _) ?_ ?_
  · refine wk_l [2, 3, 4, 5] (by simp) ?_ ?_
    · simp [-List.map_map, upd, inj1, Γ0, ]
    · simp [-List.map_map, upd, inj1, Γ0, subL_own_iff3]
      exact cellsOk_rep _
  · intro i hi
    by_cases hgi : i < A.length
    · have q1 : (i : Int) < A.length := by omega
      have hx : A[i]? = some A[i] := List.getElem?_eq_getElem hgi
      have hmem := List.getElem_mem hgi
      have hrs := hA.srt _ hmem
      have hrc := hA.col _ hmem
      have hrb := hAb _ hmem
      have hrl := srt_len0 hrs hrc
      have hw : IntKind.i64.wrap ((i : Int) + 1) = (i : Int) + 1 := wrap_i64 (by omega) (by omega)
      have hd : (rcs ((A.map (mulR B)).take i)).length = i := by rw [rcs_len, List.length_take, List.length_map]; exact Nat.min_eq_left hi
      have htk : rcs ((A.map (mulR B)).take (i + 1)) = rcs ((A.map (mulR B)).take i) ++ [encC (mulR B A[i])] := by rw [List.take_add_one, List.getElem?_map, hx]; exact rcs_snoc _ _
      have hst : rowE (rcs ((A.map (mulR B)).take i)) (A.length - i) = rowD (rcs ((A.map (mulR B)).take i)) .nil (A.length - (i + 1)) := by rw [show A.length - i = (A.length - (i + 1)) + 1 by omega]; rfl
      have hmm : i + (A.length - (i + 1) + 1) = A.length := by omega
      rw [hst]
      have hend : ∀ (H H' : Nat → Option HO) (ρ : Nat → Nat) (c : AV), SubL H H' ρ c (.d (encC (mulR B A[i]))) → cellsOk H H' ρ (rowD (rcs ((A.map (mulR B)).take i)) c (A.length - (i + 1))) (rowE (rcs ((A.map (mulR B)).take (i + 1))) (A.length - (i + 1))) := fun H H' ρ c h => by
        rw [htk, ← rowD_d]
        exact cellsOk_rowD.2 h
      clear hmem
      generalize rcs ((A.map (mulR B)).take i) = done at *
      generalize hmd : A.length - (i + 1) = n at *
      generalize A[i] = row at *
      simp (config := { maxSteps := 1000000 }) [-List.map_map, -List.mapM_map, ↓awp_skip, ↓awp_regionB, ↓awp_seq, ↓awp_block, ↓awp_exit, ↓awp_ret, ↓awp_label, ↓awp_scope, ↓awp_condB, ↓awp_loopB, ↓ow_nil', ↓ow_cons0, ↓ow_cons1, ↓o1_move, ↓o1_assign, ↓o1_pick, ↓o1_alloc, ↓o1_box, ↓o1_build, ↓o1_buildSlice, ↓o1_makeSlice, ↓o1_makeMap, ↓o1_binOp, ↓o1_unOp, ↓o1_convert, ↓o1_fieldAddr, ↓o1_field, ↓o1_indexAddr, ↓o1_extract, ↓o1_slice, ↓o1_len, ↓o1_max, ↓o1_min, ↓o1_load, ↓o1_lookup, ↓o1_store, ↓o1_mapUpdate, ↓o1_append, ↓o1_delete, ↓o1_call, q1, hx, encC]
      refine loopP_inv (fun j : Nat => j ≤ row.length ∧ MapOk cb (j * 1000000000000000) (sumS B [] (row.take j))) (fun j => mlA cb A B row i j (rowD done .nil n) (sumS B [] (row.take j))) (fun j => row.length - j) 0 ⟨Nat.zero_le _, MapOk.nil _ _⟩ ?_ ?_
      · simp only [mlA]
        refine wk_l [1, 2, 3, 4, 5] (by simp) ?_ ?_ <;> simp [-List.map_map, upd, inj1, Γ0, encC, cellsOk_rowD, subL_own_iff3]
        exact subO_encE []
      · rintro j ⟨hj, hmo⟩
        by_cases hgj : j < row.length
        · have q2 : (j : Int) < row.length := by omega
          have hw2 : IntKind.i64.wrap ((j : Int) + 1) = (j : Int) + 1 := wrap_i64 (by omega) (by omega)
          have hy : row[j]? = some row[j] := List.getElem?_eq_getElem hgj
          have hcj := hrc _ (List.getElem_mem hgj)
          have hbj := hrb _ (List.getElem_mem hgj)
          have htk2 : sumS B [] (row.take (j + 1)) = sumT row[j].2 (sumS B [] (row.take j)) (rowAt B row[j].1) := by
            rw [List.take_add_one, hy]; exact sumS_snoc _ _ _ _
          generalize sumS B [] (row.take j) = m0 at *
          generalize row[j] = t at *
          obtain ⟨tc, tv⟩ := t
          simp only at hcj hbj htk2
          obtain ⟨tk, rfl⟩ : ∃ k : Nat, tc = k := ⟨tc.toNat, by omega⟩
          have hkB : tk < B.length := by omega
          have hrB : B[tk]? = some B[tk] := List.getElem?_eq_getElem hkB
          rw [rowAt_get hrB] at htk2
          have hmB := List.getElem_mem hkB
          have hsB := hB.srt _ hmB
          have hcB := hB.col _ hmB
          have hbB := hBb _ hmB
          have hlB := srt_len0 hsB hcB
          clear hmB
          generalize hrB2 : B[tk] = r at *
          simp only [mlA]
          simp (config := { maxSteps := 1000000 }) [-List.map_map, -List.mapM_map, ↓awp_skip, ↓awp_regionB, ↓awp_seq, ↓awp_block, ↓awp_exit, ↓awp_ret, ↓awp_label, ↓awp_scope, ↓awp_condB, ↓awp_loopB, ↓ow_nil', ↓ow_cons0, ↓ow_cons1, ↓o1_move, ↓o1_assign, ↓o1_pick, ↓o1_alloc, ↓o1_box, ↓o1_build, ↓o1_buildSlice, ↓o1_makeSlice, ↓o1_makeMap, ↓o1_binOp, ↓o1_unOp, ↓o1_convert, ↓o1_fieldAddr, ↓o1_field, ↓o1_indexAddr, ↓o1_extract, ↓o1_slice, ↓o1_len, ↓o1_max, ↓o1_min, ↓o1_load, ↓o1_lookup, ↓o1_store, ↓o1_mapUpdate, ↓o1_append, ↓o1_delete, ↓o1_call, q2, hy, encC, encF_eq, hrB, hrB2, hkB, cellsA_encM, one_encM, inj1_encM, inj_encM, kills_encM]
          refine loopP_inv (fun k : Nat => k ≤ r.length ∧ MapOk cb (j * 1000000000000000 + k * 1000000000000) (sumT tv m0 (r.take k))) (fun k => mlB cb A B row i j (rowD done .nil n) tk tv r k (sumT tv m0 (r.take k))) (fun k => r.length - k) 0 ⟨Nat.zero_le _, by simpa [sumT] using hmo⟩ ?_ ?_
          · simp only [mlB]
            refine wk_l [1, 2, 3, 4, 5, 6] (by simp) ?_ ?_ <;> simp [-List.map_map, upd, inj1, Γ0, encC, cellsOk_rowD, subL_own_iff3]
            exact subO_encE m0
          · rintro k ⟨hk, hmk⟩
            by_cases hgk : k < r.length
            · have q3 : (k : Int) < r.length := by omega
              have hw3 : IntKind.i64.wrap ((k : Int) + 1) = (k : Int) + 1 := wrap_i64 (by omega) (by omega)
              have hz : r[k]? = some r[k] := List.getElem?_eq_getElem hgk
              have hck := hcB _ (List.getElem_mem hgk)
              have hbk := hbB _ (List.getElem_mem hgk)
              have htk3 : sumT tv m0 (r.take (k + 1)) = addT tv (sumT tv m0 (r.take k)) r[k] := by
                rw [List.take_add_one, hz]; exact sumT_snoc _ _ _ _
              generalize sumT tv m0 (r.take k) = m at *
              generalize r[k] = u at *
              obtain ⟨uc, uv⟩ := u
              simp only at hck hbk htk3
              have hmulb : (tv * uv).natAbs ≤ 1000000000000 := by rw [Int.natAbs_mul]; exact Nat.mul_le_mul hbj hbk
              have hmk2 := hmk.addT (u := (uc, uv)) (v := tv) hck hmulb
              have hgb := getM_bd hmk.bd uc
              have hM := intMulZ tv uv (Nat.le_trans (sz_small (z := tv) (by omega)) (by decide)) (Nat.le_trans (sz_small (z := uv) (by omega)) (by decide))
              have hAd := intAddZ (getM m uc) (tv * uv) (Nat.le_trans (sz_small (z := getM m uc) (by omega)) (by decide)) (Nat.le_trans (sz_small (z := tv * uv) (by omega)) (by decide))
              have hml := mlook_encE m uc
              have hz0 : ¬ (fnd uc m).isSome = true → getM m uc = 0 := fun h => by
                unfold getM
                cases hf : fnd uc m with
                | none => rfl
                | some j => rw [hf] at h; exact (h rfl).elim
              have e3 := mput_encE m uc (getM m uc + tv * uv)
              have e4 : addT tv m (uc, uv) = putM m uc (getM m uc + tv * uv) := rfl
              rw [e4] at htk3 hmk2
              unfold encV at e3
              have hfin : MapOk cb (j * 1000000000000000 + (k + 1) * 1000000000000) (putM m uc (getM m uc + tv * uv)) := ⟨hmk2.nd, hmk2.col, BdR.mono hmk2.bd (by omega)⟩
              generalize putM m uc (getM m uc + tv * uv) = m2 at *
              simp only [mlB]
              by_cases hs : (fnd uc m).isSome = true
              · rw [if_pos hs] at hml
                generalize getM m uc = y at *
                generalize tv * uv = zt at *
                generalize y + zt = yt at *
                simp (config := { maxSteps := 1000000 }) [-List.map_map, -List.mapM_map, ↓awp_skip, ↓awp_regionB, ↓awp_seq, ↓awp_block, ↓awp_exit, ↓awp_ret, ↓awp_label, ↓awp_scope, ↓awp_condB, ↓awp_loopB, ↓ow_nil', ↓ow_cons0, ↓ow_cons1, ↓o1_move, ↓o1_assign, ↓o1_pick, ↓o1_alloc, ↓o1_box, ↓o1_build, ↓o1_buildSlice, ↓o1_makeSlice, ↓o1_makeMap, ↓o1_binOp, ↓o1_unOp, ↓o1_convert, ↓o1_fieldAddr, ↓o1_field, ↓o1_indexAddr, ↓o1_extract, ↓o1_slice, ↓o1_len, ↓o1_max, ↓o1_min, ↓o1_load, ↓o1_lookup, ↓o1_store, ↓o1_mapUpdate, ↓o1_append, ↓o1_delete, ↓o1_call, q3, hz, encC, encF_eq, lookA_mp, hml, encV, cellsA_encM, one_encM, inj1_encM, inj_encM, kills_encM]
                refine callP_intro (ds := [encZ tv, encZ uv]) (by rfl) hM ?_
                rw [encZ_eq]
                simp (config := { maxSteps := 1000000 }) [-List.map_map, -List.mapM_map, ↓awp_skip, ↓awp_regionB, ↓awp_seq, ↓awp_block, ↓awp_exit, ↓awp_ret, ↓awp_label, ↓awp_scope, ↓awp_condB, ↓awp_loopB, ↓ow_nil', ↓ow_cons0, ↓ow_cons1, ↓o1_move, ↓o1_assign, ↓o1_pick, ↓o1_alloc, ↓o1_box, ↓o1_build, ↓o1_buildSlice, ↓o1_makeSlice, ↓o1_makeMap, ↓o1_binOp, ↓o1_unOp, ↓o1_convert, ↓o1_fieldAddr, ↓o1_field, ↓o1_indexAddr, ↓o1_extract, ↓o1_slice, ↓o1_len, ↓o1_max, ↓o1_min, ↓o1_load, ↓o1_lookup, ↓o1_store, ↓o1_mapUpdate, ↓o1_append, ↓o1_delete, ↓o1_call, cellsA_encM, one_encM, inj1_encM, inj_encM, kills_encM]
                refine callP_intro (ds := [encZ y, encZ zt]) (by rfl) hAd ?_
                rw [encZ_eq]
                simp (config := { maxSteps := 1000000 }) [-List.map_map, -List.mapM_map, ↓awp_skip, ↓awp_regionB, ↓awp_seq, ↓awp_block, ↓awp_exit, ↓awp_ret, ↓awp_label, ↓awp_scope, ↓awp_condB, ↓awp_loopB, ↓ow_nil', ↓ow_cons0, ↓ow_cons1, ↓o1_move, ↓o1_assign, ↓o1_pick, ↓o1_alloc, ↓o1_box, ↓o1_build, ↓o1_buildSlice, ↓o1_makeSlice, ↓o1_makeMap, ↓o1_binOp, ↓o1_unOp, ↓o1_convert, ↓o1_fieldAddr, ↓o1_field, ↓o1_indexAddr, ↓o1_extract, ↓o1_slice, ↓o1_len, ↓o1_max, ↓o1_min, ↓o1_load, ↓o1_lookup, ↓o1_store, ↓o1_mapUpdate, ↓o1_append, ↓o1_delete, ↓o1_call, mapW_mp, e3, hw3, cellsA_encM, one_encM, inj1_encM, inj_encM, kills_encM]
                refine nxt_intro (k + 1) ⟨hgk, by rw [htk3]; exact hfin⟩ (Nat.sub_lt_sub_left hgk (Nat.lt_succ_self _)) ?_
                simp only [mlB, htk3]
                refine wk_l [1, 2, 3, 4, 5, 6] (by simp) ?_ ?_ <;> simp [-List.map_map, upd, inj1, Γ0, encC, cellsOk_rowD, subL_own_iff3, subO_encE_iff]
              · rw [if_neg hs] at hml
                have h0 := hz0 hs
                generalize getM m uc = y at *
                subst h0
                generalize tv * uv = zt at *
                generalize 0 + zt = yt at *
                simp (config := { maxSteps := 1000000 }) [-List.map_map, -List.mapM_map, ↓awp_skip, ↓awp_regionB, ↓awp_seq, ↓awp_block, ↓awp_exit, ↓awp_ret, ↓awp_label, ↓awp_scope, ↓awp_condB, ↓awp_loopB, ↓ow_nil', ↓ow_cons0, ↓ow_cons1, ↓o1_move, ↓o1_assign, ↓o1_pick, ↓o1_alloc, ↓o1_box, ↓o1_build, ↓o1_buildSlice, ↓o1_makeSlice, ↓o1_makeMap, ↓o1_binOp, ↓o1_unOp, ↓o1_convert, ↓o1_fieldAddr, ↓o1_field, ↓o1_indexAddr, ↓o1_extract, ↓o1_slice, ↓o1_len, ↓o1_max, ↓o1_min, ↓o1_load, ↓o1_lookup, ↓o1_store, ↓o1_mapUpdate, ↓o1_append, ↓o1_delete, ↓o1_call, q3, hz, encC, encF_eq, lookA_mp, hml, cv, cellsA_encM, one_encM, inj1_encM, inj_encM, kills_encM]
                refine callP_intro (ds := [encZ tv, encZ uv]) (by rfl) hM ?_
                rw [encZ_eq]
                simp (config := { maxSteps := 1000000 }) [-List.map_map, -List.mapM_map, ↓awp_skip, ↓awp_regionB, ↓awp_seq, ↓awp_block, ↓awp_exit, ↓awp_ret, ↓awp_label, ↓awp_scope, ↓awp_condB, ↓awp_loopB, ↓ow_nil', ↓ow_cons0, ↓ow_cons1, ↓o1_move, ↓o1_assign, ↓o1_pick, ↓o1_alloc, ↓o1_box, ↓o1_build, ↓o1_buildSlice, ↓o1_makeSlice, ↓o1_makeMap, ↓o1_binOp, ↓o1_unOp, ↓o1_convert, ↓o1_fieldAddr, ↓o1_field, ↓o1_indexAddr, ↓o1_extract, ↓o1_slice, ↓o1_len, ↓o1_max, ↓o1_min, ↓o1_load, ↓o1_lookup, ↓o1_store, ↓o1_mapUpdate, ↓o1_append, ↓o1_delete, ↓o1_call, cellsA_encM, one_encM, inj1_encM, inj_encM, kills_encM]
                refine callP_intro (ds := [encZ 0, encZ zt]) (by rw [encZ_zero]; rfl) hAd ?_
                rw [encZ_eq]
                simp (config := { maxSteps := 1000000 }) [-List.map_map, -List.mapM_map, ↓awp_skip, ↓awp_regionB, ↓awp_seq, ↓awp_block, ↓awp_exit, ↓awp_ret, ↓awp_label, ↓awp_scope, ↓awp_condB, ↓awp_loopB, ↓ow_nil', ↓ow_cons0, ↓ow_cons1, ↓o1_move, ↓o1_assign, ↓o1_pick, ↓o1_alloc, ↓o1_box, ↓o1_build, ↓o1_buildSlice, ↓o1_makeSlice, ↓o1_makeMap, ↓o1_binOp, ↓o1_unOp, ↓o1_convert, ↓o1_fieldAddr, ↓o1_field, ↓o1_indexAddr, ↓o1_extract, ↓o1_slice, ↓o1_len, ↓o1_max, ↓o1_min, ↓o1_load, ↓o1_lookup, ↓o1_store, ↓o1_mapUpdate, ↓o1_append, ↓o1_delete, ↓o1_call, mapW_mp, e3, hw3, cellsA_encM, one_encM, inj1_encM, inj_encM, kills_encM]
                refine nxt_intro (k + 1) ⟨hgk, by rw [htk3]; exact hfin⟩ (Nat.sub_lt_sub_left hgk (Nat.lt_succ_self _)) ?_
                simp only [mlB, htk3]
                refine wk_l [1, 2, 3, 4, 5, 6] (by simp) ?_ ?_ <;> simp [-List.map_map, upd, inj1, Γ0, encC, cellsOk_rowD, subL_own_iff3, subO_encE_iff]
            · have q3 : ¬ (k : Int) < r.length := by omega
              have ek : r.take k = r := List.take_of_length_le (by omega)
              rw [ek] at hmk ⊢
              rw [← htk2] at hmk ⊢
              simp only [mlB]
              simp (config := { maxSteps := 1000000 }) [-List.map_map, -List.mapM_map, ↓awp_skip, ↓awp_regionB, ↓awp_seq, ↓awp_block, ↓awp_exit, ↓awp_ret, ↓awp_label, ↓awp_scope, ↓awp_condB, ↓awp_loopB, ↓ow_nil', ↓ow_cons0, ↓ow_cons1, ↓o1_move, ↓o1_assign, ↓o1_pick, ↓o1_alloc, ↓o1_box, ↓o1_build, ↓o1_buildSlice, ↓o1_makeSlice, ↓o1_makeMap, ↓o1_binOp, ↓o1_unOp, ↓o1_convert, ↓o1_fieldAddr, ↓o1_field, ↓o1_indexAddr, ↓o1_extract, ↓o1_slice, ↓o1_len, ↓o1_max, ↓o1_min, ↓o1_load, ↓o1_lookup, ↓o1_store, ↓o1_mapUpdate, ↓o1_append, ↓o1_delete, ↓o1_call, encC, q3, hw2]
              refine nxt_intro (j + 1) ⟨hgj, ⟨hmk.nd, hmk.col, BdR.mono hmk.bd (by omega)⟩⟩ (Nat.sub_lt_sub_left hgj (Nat.lt_succ_self _)) ?_
              refine wk_l [1, 2, 3, 4, 5] (by simp) ?_ ?_ <;> simp [-List.map_map, upd, inj1, Γ0, encC, cellsOk_rowD, subL_own_iff3, subO_encE_iff]
        · have q2 : ¬ (j : Int) < row.length := by omega
          have ej : row.take j = row := List.take_of_length_le (by omega)
          rw [ej] at hmo ⊢
          have hout := outM_mulR hB.srt hmo.nd
          rw [← hout] at hend
          clear hout
          have hml := ndk_len hmo.nd hmo.col
          have hmk := hmo.nd
          have hkey : (m : List (Int × Int)) → m = sumS B [] row → ((m.map (·.1)).all inr = true ∧ m.length ≤ 1000 ∧ BdR 10000000000000000000 m) := fun m e => by
            subst e
            refine ⟨?_, by omega, BdR.mono hmo.bd (by omega)⟩
            rw [List.all_eq_true]
            intro x hx
            obtain ⟨y, hy, rfl⟩ := List.mem_map.1 hx
            have := hmo.col y hy
            simp only [inr, decide_eq_true_eq]; omega
          generalize sumS B [] row = m at *
          obtain ⟨hka, hmlen, hmbd⟩ := hkey m rfl
          clear hkey
          have hkl : ∀ q ∈ isort (m.map (·.1)), mlook (encE m) q = some (encV (getM m q)) := fun q hq => by
            rw [mlook_encE, if_pos (fnd_isSome ((isort_mem q _).1 hq))]
          have hil := isort_len (m.map (·.1))
          rw [List.length_map] at hil
          have hout : outM m = (isort (m.map (·.1))).filterMap (outF m) := rfl
          rw [hout] at hend
          clear hout
          simp only [mlA]
          simp (config := { maxSteps := 1000000 }) [-List.map_map, -List.mapM_map, ↓awp_skip, ↓awp_regionB, ↓awp_seq, ↓awp_block, ↓awp_exit, ↓awp_ret, ↓awp_label, ↓awp_scope, ↓awp_condB, ↓awp_loopB, ↓ow_nil', ↓ow_cons0, ↓ow_cons1, ↓o1_move, ↓o1_assign, ↓o1_pick, ↓o1_alloc, ↓o1_box, ↓o1_build, ↓o1_buildSlice, ↓o1_makeSlice, ↓o1_makeMap, ↓o1_binOp, ↓o1_unOp, ↓o1_convert, ↓o1_fieldAddr, ↓o1_field, ↓o1_indexAddr, ↓o1_extract, ↓o1_slice, ↓o1_len, ↓o1_max, ↓o1_min, ↓o1_load, ↓o1_lookup, ↓o1_store, ↓o1_mapUpdate, ↓o1_append, ↓o1_delete, ↓o1_call, q2]
          refine o1_keys Try.keys87 (by simp) (id := 5) (ho := .map .i64 (encE m)) (by simp [oev_tmp, upd_ap]) (by simp) ?_
          simp (config := { maxSteps := 1000000 }) [-List.map_map, -List.mapM_map, ↓awp_skip, ↓awp_regionB, ↓awp_seq, ↓awp_block, ↓awp_exit, ↓awp_ret, ↓awp_label, ↓awp_scope, ↓awp_condB, ↓awp_loopB, ↓ow_nil', ↓ow_cons0, ↓ow_cons1, ↓o1_move, ↓o1_assign, ↓o1_pick, ↓o1_alloc, ↓o1_box, ↓o1_build, ↓o1_buildSlice, ↓o1_makeSlice, ↓o1_makeMap, ↓o1_binOp, ↓o1_unOp, ↓o1_convert, ↓o1_fieldAddr, ↓o1_field, ↓o1_indexAddr, ↓o1_extract, ↓o1_slice, ↓o1_len, ↓o1_max, ↓o1_min, ↓o1_load, ↓o1_lookup, ↓o1_store, ↓o1_mapUpdate, ↓o1_append, ↓o1_delete, ↓o1_call, ]
          refine o1_sorted Try.sorted119 (by simp) (id := 5) (es := encE m) (by simp [oev_tmp, upd_ap]) (by simp) (by simp [encE]; omega) (by rw [encE_keys]; exact hka) ?_
          rw [encE_keys]
          generalize isort (m.map (·.1)) = ks at *
          have hkl2 : ks.length ≤ 1000 := by omega
          clear hka hmlen hil hmo hmk hml
          simp (config := { maxSteps := 1000000 }) [-List.map_map, -List.mapM_map, ↓awp_skip, ↓awp_regionB, ↓awp_seq, ↓awp_block, ↓awp_exit, ↓awp_ret, ↓awp_label, ↓awp_scope, ↓awp_condB, ↓awp_loopB, ↓ow_nil', ↓ow_cons0, ↓ow_cons1, ↓o1_move, ↓o1_assign, ↓o1_pick, ↓o1_alloc, ↓o1_box, ↓o1_build, ↓o1_buildSlice, ↓o1_makeSlice, ↓o1_makeMap, ↓o1_binOp, ↓o1_unOp, ↓o1_convert, ↓o1_fieldAddr, ↓o1_field, ↓o1_indexAddr, ↓o1_extract, ↓o1_slice, ↓o1_len, ↓o1_max, ↓o1_min, ↓o1_load, ↓o1_lookup, ↓o1_store, ↓o1_mapUpdate, ↓o1_append, ↓o1_delete, ↓o1_call, ]
          refine loopP_inv (fun q : Nat => q ≤ ks.length) (fun q => mlC cb A B ks i q n done m ((ks.take q).filterMap (outF m))) (fun q => ks.length - q) 0 (Nat.zero_le _) ?_ ?_
          · simp only [List.take_zero, List.filterMap_nil, mlC]
            refine wk_l [1, 2, 3, 4, 5] (by simp) ?_ ?_ <;> simp [-List.map_map, upd, inj1, Γ0, cellsOk_rowD, subL_own_iff3, subO_encE_iff]
          · intro q hq
            by_cases hgq : q < ks.length
            · have q3 : (q : Int) < ks.length := by omega
              have hkq : ks[q]? = some ks[q] := List.getElem?_eq_getElem hgq
              have hml := hkl _ (List.getElem_mem hgq)
              have hw2 : IntKind.i64.wrap ((q : Int) + 1) = (q : Int) + 1 := wrap_i64 (by omega) (by omega)
              have htk3 : (ks.take (q + 1)).filterMap (outF m) = (ks.take q).filterMap (outF m) ++ if getM m ks[q] = 0 then [] else [(ks[q], getM m ks[q])] := by
                rw [List.take_add_one, hkq]
                simp only [Option.toList, List.filterMap_append, List.filterMap_cons, List.filterMap_nil, outF]
                split <;> rename_i h <;> split at h <;> simp_all
              have hln : ((ks.take q).filterMap (outF m)).length ≤ q := Nat.le_trans (List.length_filterMap_le _ _) (by rw [List.length_take]; omega)
              generalize (ks.take q).filterMap (outF m) = M0 at *
              generalize ks[q] = key at *
              have hzb := getM_bd hmbd key
              generalize getM m key = z at *
              have hS := intSignZ z (sz_small (z := z) (by omega))
              have hs0 : z = 0 → z.sign = 0 := fun h => by rw [h]; rfl
              have hs1 : ¬ z = 0 → (z.sign != 0) = true := fun h => by
                have : z.sign ≠ 0 := fun e => h (Int.sign_eq_zero_iff_zero.1 e)
                simpa using this
              rcases M0 with _ | ⟨p, M⟩
              · have hgt := rowD_get (x := .nil) (m := n) hd
                have hgt2 : ∀ h : i < (rowD done .nil n).length, (rowD done .nil n)[i]'h = .nil := fun h => Option.some.inj ((List.getElem?_eq_getElem h).symm.trans hgt)
                have hly := fun y => rowD_lay (x := .nil) (y := y) (m := n) hd
                simp only [mlC]
                simp (config := { maxSteps := 1000000 }) [-List.map_map, -List.mapM_map, ↓awp_skip, ↓awp_regionB, ↓awp_seq, ↓awp_block, ↓awp_exit, ↓awp_ret, ↓awp_label, ↓awp_scope, ↓awp_condB, ↓awp_loopB, ↓ow_nil', ↓ow_cons0, ↓ow_cons1, ↓o1_move, ↓o1_assign, ↓o1_pick, ↓o1_alloc, ↓o1_box, ↓o1_build, ↓o1_buildSlice, ↓o1_makeSlice, ↓o1_makeMap, ↓o1_binOp, ↓o1_unOp, ↓o1_convert, ↓o1_fieldAddr, ↓o1_field, ↓o1_indexAddr, ↓o1_extract, ↓o1_slice, ↓o1_len, ↓o1_max, ↓o1_min, ↓o1_load, ↓o1_lookup, ↓o1_store, ↓o1_mapUpdate, ↓o1_append, ↓o1_delete, ↓o1_call, q3, hkq, lookA_mp, hml, encV, cellsA_encM, one_encM, inj1_encM, inj_encM, kills_encM]
                refine callP_intro (ds := [encZ z]) (by rfl) hS ?_
                by_cases h0 : z = 0
                · rw [hs0 h0]
                  rw [if_pos h0, List.append_nil] at htk3
                  simp (config := { maxSteps := 1000000 }) [-List.map_map, -List.mapM_map, ↓awp_skip, ↓awp_regionB, ↓awp_seq, ↓awp_block, ↓awp_exit, ↓awp_ret, ↓awp_label, ↓awp_scope, ↓awp_condB, ↓awp_loopB, ↓ow_nil', ↓ow_cons0, ↓ow_cons1, ↓o1_move, ↓o1_assign, ↓o1_pick, ↓o1_alloc, ↓o1_box, ↓o1_build, ↓o1_buildSlice, ↓o1_makeSlice, ↓o1_makeMap, ↓o1_binOp, ↓o1_unOp, ↓o1_convert, ↓o1_fieldAddr, ↓o1_field, ↓o1_indexAddr, ↓o1_extract, ↓o1_slice, ↓o1_len, ↓o1_max, ↓o1_min, ↓o1_load, ↓o1_lookup, ↓o1_store, ↓o1_mapUpdate, ↓o1_append, ↓o1_delete, ↓o1_call, hw2]
                  refine nxt_intro (q + 1) hgq (Nat.sub_lt_sub_left hgq (Nat.lt_succ_self _)) ?_
                  simp only [htk3, mlC]
                  refine wk_l [1, 2, 3, 4, 5] (by simp) ?_ ?_ <;> simp [-List.map_map, upd, inj1, Γ0, cellsOk_rowD, subL_own_iff3, subO_encE_iff]
                · have hs2 := hs1 h0
                  rw [if_neg h0] at htk3
                  generalize z.sign = sn at *
                  simp (config := { maxSteps := 1000000 }) [-List.map_map, -List.mapM_map, ↓awp_skip, ↓awp_regionB, ↓awp_seq, ↓awp_block, ↓awp_exit, ↓awp_ret, ↓awp_label, ↓awp_scope, ↓awp_condB, ↓awp_loopB, ↓ow_nil', ↓ow_cons0, ↓ow_cons1, ↓o1_move, ↓o1_assign, ↓o1_pick, ↓o1_alloc, ↓o1_box, ↓o1_build, ↓o1_buildSlice, ↓o1_makeSlice, ↓o1_makeMap, ↓o1_binOp, ↓o1_unOp, ↓o1_convert, ↓o1_fieldAddr, ↓o1_field, ↓o1_indexAddr, ↓o1_extract, ↓o1_slice, ↓o1_len, ↓o1_max, ↓o1_min, ↓o1_load, ↓o1_lookup, ↓o1_store, ↓o1_mapUpdate, ↓o1_append, ↓o1_delete, ↓o1_call, hs2, hgt, hgt2, hgi, lookA_mp, hml, encV, hw2, hd, le_maxLen, rowD_len, hly, rowD_scrub, cellsA_encM, one_encM, inj1_encM, inj_encM, kills_encM]
                  refine nxt_intro (q + 1) hgq (Nat.sub_lt_sub_left hgq (Nat.lt_succ_self _)) ?_
                  simp only [htk3, mlC, List.nil_append]
                  refine wk_l [1, 2, 3, 4, 5, 7] (by simp) ?_ ?_ <;> simp [-List.map_map, upd, inj1, Γ0, rowD_scrub, cellsOk_rowD, subL_own_iff3, subO_encE_iff, fcs_one, fcs_nil]
              · have hfl := fcs_len (p :: M)
                rw [List.length_cons] at hfl hln
                have hbb : (M.length + 1 + 1) * 40 ≤ 140737488355328 ∧ M.length + 1 + 1 ≤ 1099511627776 := ⟨by omega, by omega⟩
                have e1 : fcs (p :: (M ++ [(key, z)])) = fcs (p :: M) ++ fcs [(key, z)] := fcs_app (p :: M) _
                have hgt := rowD_get (x := .own 6 0 (M.length + 1) 3) (m := n) hd
                have hgt2 : ∀ h : i < (rowD done (.own 6 0 (M.length + 1) 3) n).length, (rowD done (.own 6 0 (M.length + 1) 3) n)[i]'h = .own 6 0 (M.length + 1) 3 := fun h => Option.some.inj ((List.getElem?_eq_getElem h).symm.trans hgt)
                have hly := fun y => rowD_lay (x := .own 6 0 (M.length + 1) 3) (y := y) (m := n) hd
                simp only [mlC]
                generalize hFM : fcs (p :: M) = FM at *
                simp (config := { maxSteps := 1000000 }) [-List.map_map, -List.mapM_map, ↓awp_skip, ↓awp_regionB, ↓awp_seq, ↓awp_block, ↓awp_exit, ↓awp_ret, ↓awp_label, ↓awp_scope, ↓awp_condB, ↓awp_loopB, ↓ow_nil', ↓ow_cons0, ↓ow_cons1, ↓o1_move, ↓o1_assign, ↓o1_pick, ↓o1_alloc, ↓o1_box, ↓o1_build, ↓o1_buildSlice, ↓o1_makeSlice, ↓o1_makeMap, ↓o1_binOp, ↓o1_unOp, ↓o1_convert, ↓o1_fieldAddr, ↓o1_field, ↓o1_indexAddr, ↓o1_extract, ↓o1_slice, ↓o1_len, ↓o1_max, ↓o1_min, ↓o1_load, ↓o1_lookup, ↓o1_store, ↓o1_mapUpdate, ↓o1_append, ↓o1_delete, ↓o1_call, q3, hkq, lookA_mp, hml, encV, cellsA_encM, one_encM, inj1_encM, inj_encM, kills_encM]
                refine callP_intro (ds := [encZ z]) (by rfl) hS ?_
                by_cases h0 : z = 0
                · rw [hs0 h0]
                  rw [if_pos h0, List.append_nil] at htk3
                  simp (config := { maxSteps := 1000000 }) [-List.map_map, -List.mapM_map, ↓awp_skip, ↓awp_regionB, ↓awp_seq, ↓awp_block, ↓awp_exit, ↓awp_ret, ↓awp_label, ↓awp_scope, ↓awp_condB, ↓awp_loopB, ↓ow_nil', ↓ow_cons0, ↓ow_cons1, ↓o1_move, ↓o1_assign, ↓o1_pick, ↓o1_alloc, ↓o1_box, ↓o1_build, ↓o1_buildSlice, ↓o1_makeSlice, ↓o1_makeMap, ↓o1_binOp, ↓o1_unOp, ↓o1_convert, ↓o1_fieldAddr, ↓o1_field, ↓o1_indexAddr, ↓o1_extract, ↓o1_slice, ↓o1_len, ↓o1_max, ↓o1_min, ↓o1_load, ↓o1_lookup, ↓o1_store, ↓o1_mapUpdate, ↓o1_append, ↓o1_delete, ↓o1_call, hw2]
                  refine nxt_intro (q + 1) hgq (Nat.sub_lt_sub_left hgq (Nat.lt_succ_self _)) ?_
                  simp only [htk3, mlC]
                  refine wk_l [1, 2, 3, 4, 5, 6] (by simp) ?_ ?_
                  · simp [-List.map_map, upd, inj1, Γ0, hFM, cellsOk_rowD, subL_own_iff3, subO_encE_iff]
                  · simp [-List.map_map, upd, inj1, Γ0, hFM, cellsOk_rowD, subL_own_iff3, subO_encE_iff]
                · have hs2 := hs1 h0
                  rw [if_neg h0] at htk3
                  generalize z.sign = sn at *
                  simp (config := { maxSteps := 1000000 }) [-List.map_map, -List.mapM_map, ↓awp_skip, ↓awp_regionB, ↓awp_seq, ↓awp_block, ↓awp_exit, ↓awp_ret, ↓awp_label, ↓awp_scope, ↓awp_condB, ↓awp_loopB, ↓ow_nil', ↓ow_cons0, ↓ow_cons1, ↓o1_move, ↓o1_assign, ↓o1_pick, ↓o1_alloc, ↓o1_box, ↓o1_build, ↓o1_buildSlice, ↓o1_makeSlice, ↓o1_makeMap, ↓o1_binOp, ↓o1_unOp, ↓o1_convert, ↓o1_fieldAddr, ↓o1_field, ↓o1_indexAddr, ↓o1_extract, ↓o1_slice, ↓o1_len, ↓o1_max, ↓o1_min, ↓o1_load, ↓o1_lookup, ↓o1_store, ↓o1_mapUpdate, ↓o1_append, ↓o1_delete, ↓o1_call, hs2, hgt, hgt2, hgi, lookA_mp, hml, encV, hw2, hd, hbb, hfl, le_maxLen, rowD_len, hly, rowD_scrub, cellsA_encM, one_encM, inj1_encM, inj_encM, kills_encM]
                  refine nxt_intro (q + 1) hgq (Nat.sub_lt_sub_left hgq (Nat.lt_succ_self _)) ?_
                  simp only [htk3, mlC, List.nil_append, List.cons_append, e1]
                  refine wk_l [1, 2, 3, 4, 5, 8] (by simp) ?_ ?_ <;> simp [-List.map_map, upd, inj1, Γ0, rowD_scrub, scrubO_encE, cellsOk_rowD, subL_own_iff3, subO_encE_iff, fcs_one, fcs_nil]
            · have q3 : ¬ (q : Int) < ks.length := by omega
              have e : ks.take q = ks := List.take_of_length_le (by omega)
              rw [e]
              rcases hM0 : ks.filterMap (outF m) with _ | ⟨p, M⟩
              · simp only [mlC]
                simp (config := { maxSteps := 1000000 }) [-List.map_map, -List.mapM_map, ↓awp_skip, ↓awp_regionB, ↓awp_seq, ↓awp_block, ↓awp_exit, ↓awp_ret, ↓awp_label, ↓awp_scope, ↓awp_condB, ↓awp_loopB, ↓ow_nil', ↓ow_cons0, ↓ow_cons1, ↓o1_move, ↓o1_assign, ↓o1_pick, ↓o1_alloc, ↓o1_box, ↓o1_build, ↓o1_buildSlice, ↓o1_makeSlice, ↓o1_makeMap, ↓o1_binOp, ↓o1_unOp, ↓o1_convert, ↓o1_fieldAddr, ↓o1_field, ↓o1_indexAddr, ↓o1_extract, ↓o1_slice, ↓o1_len, ↓o1_max, ↓o1_min, ↓o1_load, ↓o1_lookup, ↓o1_store, ↓o1_mapUpdate, ↓o1_append, ↓o1_delete, ↓o1_call, q3, hw]
                refine nxt_intro (i + 1) hgi (Nat.sub_lt_sub_left hgi (Nat.lt_succ_self _)) ?_
                refine wk_l [1, 2, 3, 4] (by simp) ?_ ?_
                · simp [-List.map_map, upd, inj1, Γ0, encC]
                · simp [-List.map_map, upd, inj1, Γ0, encC, hmd, subL_own_iff3]
                  refine hend _ _ _ _ ?_
                  rw [hM0]
                  exact ⟨rfl, fun a ha => by simp [vis] at ha⟩
              · simp only [mlC]
                simp (config := { maxSteps := 1000000 }) [-List.map_map, -List.mapM_map, ↓awp_skip, ↓awp_regionB, ↓awp_seq, ↓awp_block, ↓awp_exit, ↓awp_ret, ↓awp_label, ↓awp_scope, ↓awp_condB, ↓awp_loopB, ↓ow_nil', ↓ow_cons0, ↓ow_cons1, ↓o1_move, ↓o1_assign, ↓o1_pick, ↓o1_alloc, ↓o1_box, ↓o1_build, ↓o1_buildSlice, ↓o1_makeSlice, ↓o1_makeMap, ↓o1_binOp, ↓o1_unOp, ↓o1_convert, ↓o1_fieldAddr, ↓o1_field, ↓o1_indexAddr, ↓o1_extract, ↓o1_slice, ↓o1_len, ↓o1_max, ↓o1_min, ↓o1_load, ↓o1_lookup, ↓o1_store, ↓o1_mapUpdate, ↓o1_append, ↓o1_delete, ↓o1_call, q3, hw]
                refine nxt_intro (i + 1) hgi (Nat.sub_lt_sub_left hgi (Nat.lt_succ_self _)) ?_
                refine wk_l [1, 2, 3, 4] (by simp) ?_ ?_
                · simp [-List.map_map, upd, inj1, Γ0, encC]
                · simp [-List.map_map, upd, inj1, Γ0, encC, hmd, subL_own_iff3]
                  refine hend _ _ _ _ ?_
                  rw [hM0]
                  exact subL_read (frz_fcs (e := 109) (v := p :: M) (by rfl) rfl).1 (frz_fcs (e := 109) (v := p :: M) (by rfl) rfl).2 (rho_neF (rs := [1, 2, 3, 4]) (by decide) (by decide) (by simp))
    · have e : i = A.length := by omega
      have hL2 : (A.map (mulR B)).take i = A.map (mulR B) := List.take_of_length_le (by rw [List.length_map]; omega)
      have hfm : (rcs (A.map (mulR B))).length = A.length := by rw [rcs_len, List.length_map]
      have hst : rowE (rcs ((A.map (mulR B)).take i)) (A.length - i) = (rcs (A.map (mulR B))).map .d := by rw [hL2, e, Nat.sub_self, rowE_zero]
      rw [hst]
      have q1 : ¬ (i : Int) < A.length := by omega
      have hM := rcs_chunk (A.map (mulR B))
      generalize A.map (mulR B) = S at *
      simp (config := { maxSteps := 1000000 }) [-List.map_map, -List.mapM_map, ↓awp_skip, ↓awp_regionB, ↓awp_seq, ↓awp_block, ↓awp_exit, ↓awp_ret, ↓awp_label, ↓awp_scope, ↓awp_condB, ↓awp_loopB, ↓ow_nil', ↓ow_cons0, ↓ow_cons1, ↓o1_move, ↓o1_assign, ↓o1_pick, ↓o1_alloc, ↓o1_box, ↓o1_build, ↓o1_buildSlice, ↓o1_makeSlice, ↓o1_makeMap, ↓o1_binOp, ↓o1_unOp, ↓o1_convert, ↓o1_fieldAddr, ↓o1_field, ↓o1_indexAddr, ↓o1_extract, ↓o1_slice, ↓o1_len, ↓o1_max, ↓o1_min, ↓o1_load, ↓o1_lookup, ↓o1_store, ↓o1_mapUpdate, ↓o1_append, ↓o1_delete, ↓o1_call, encSp, q1, hM, hfm, resD_two]
      rw [List.take_of_length_le (by simp [hfm]), mapM_d _ 5 (rcs S)]
      simp [chunk_one _ _ hfm.symm]

end Go.Am

open Go Go.Am Go.Proofs
namespace Go.Am
set_option linter.unusedSimpArgs false

/-! Sums over a dense row -/
def vdot (g : Int → Int) : Nat → List Int → Int
  | _, [] => 0
  | j, z :: v => z * g j + vdot g (j + 1) v
theorem dot_rw0 (g : Int → Int) : ∀ (v : List Int) (j : Nat), dot g (rw0 j v) = vdot g j v
  | [], _ => rfl
  | z :: v, j => by
    have ih := dot_rw0 g v (j + 1)
    unfold rw0 vdot
    split
    · rename_i h; rw [ih, h]; simp
    · rw [dot, ih]
theorem vdot_snoc (g : Int → Int) : ∀ (v : List Int) (j : Nat) (z : Int), vdot g j (v ++ [z]) = vdot g j v + z * g ((j + v.length : Nat) : Int)
  | [], j, z => by simp [vdot]
  | y :: v, j, z => by
    rw [List.cons_append, vdot, vdot, vdot_snoc g v (j + 1) z, List.length_cons, show j + 1 + v.length = j + (v.length + 1) by omega]; omega
def ssum (F : Nat → Int) : Nat → Int
  | 0 => 0
  | n + 1 => ssum F n + F n
theorem ssum_congr {F G : Nat → Int} : ∀ {n : Nat}, (∀ k, k < n → F k = G k) → ssum F n = ssum G n
  | 0, _ => rfl
  | n + 1, h => by rw [ssum, ssum, ssum_congr (n := n) fun k hk => h k (by omega), h n (by omega)]
theorem vdot_range (g : Int → Int) (h : Nat → Int) : ∀ n : Nat, vdot g 0 ((List.range n).map h) = ssum (fun k => h k * g k) n
  | 0 => rfl
  | n + 1 => by
    rw [List.range_succ, List.map_append, List.map_singleton, vdot_snoc, vdot_range g h n, ssum]
    simp
theorem cz_rw0 (n : Int) : ∀ (v : List Int) (j : Nat), cz n (rw0 j v) = if (j : Int) ≤ n then v.getD (n - j).toNat 0 else 0
  | [], j => by simp [rw0, cz]
  | z :: v, j => by
    have ih := cz_rw0 n v (j + 1)
    have hc : cz n (rw0 j (z :: v)) = (if (j : Int) = n then z else 0) + cz n (rw0 (j + 1) v) := by
      conv => lhs; unfold rw0
      split
      · rename_i h; rw [h]; simp
      · rfl
    rw [hc, ih]
    by_cases h1 : (j : Int) = n
    · subst h1
      rw [if_pos rfl, if_neg (by omega), if_pos (Int.le_refl _), Int.sub_self]; simp
    · rw [if_neg h1]
      by_cases h2 : (j : Int) ≤ n
      · rw [if_pos (by omega), if_pos h2, show (n - (j : Int)).toNat = (n - ((j + 1 : Nat) : Int)).toNat + 1 by omega]; simp
      · rw [if_neg (by omega), if_neg h2]; rfl
theorem cz_rw00 (n : Int) (v : List Int) : cz n (rw0 0 v) = if 0 ≤ n then v.getD n.toNat 0 else 0 := by
  have := cz_rw0 n v 0
  simpa using this
theorem cz_out {c : Int} {n : Int} : ∀ {r : List (Int × Int)}, ColIn c r → ¬ (0 ≤ n ∧ n < c) → cz n r = 0
  | [], _, _ => rfl
  | x :: r, h, hn => by
    have h1 := h x (List.mem_cons_self ..)
    rw [cz, if_neg (fun e => hn (by rw [← e]; exact h1)), cz_out (fun y hy => h y (List.mem_cons_of_mem _ hy)) hn]; rfl
def dense (c : Nat) (r : List (Int × Int)) : List Int := (List.range c).map fun (k : Nat) => cz k r
theorem getD_range {α : Type} (h : Nat → α) (n k : Nat) (d : α) : ((List.range n).map h).getD k d = if k < n then h k else d := by
  rw [List.getD_eq_getElem?_getD, List.getElem?_map]
  by_cases hk : k < n
  · rw [if_pos hk, List.getElem?_range hk]; rfl
  · rw [if_neg hk, List.getElem?_eq_none (by simpa using hk)]; rfl
theorem rw0_dense {c : Nat} {r : List (Int × Int)} (h : Srt r) (hc : ColIn (c : Int) r) : rw0 0 (dense c r) = r :=
  Srt.ext (rw0_srt _ _) h fun n => by
    rw [cz_rw00]
    unfold dense
    by_cases h0 : 0 ≤ n
    · rw [if_pos h0, getD_range]
      by_cases h1 : n.toNat < c
      · rw [if_pos h1]; congr 1; omega
      · rw [if_neg h1, cz_out hc (by omega)]
    · rw [if_neg h0, cz_out hc (by omega)]
theorem dot_dense (g : Int → Int) {c : Nat} {r : List (Int × Int)} (h : Srt r) (hc : ColIn (c : Int) r) : dot g r = ssum (fun k => cz k r * g k) c := by
  conv => lhs; rw [← rw0_dense h hc]
  rw [dot_rw0]
  exact vdot_range g _ c

theorem cz_bdR {b : Nat} (n : Int) : ∀ {r : List (Int × Int)}, Srt r → BdR b r → (cz n r).natAbs ≤ b
  | [], _, _ => Nat.zero_le _
  | x :: r, h, hb => by
    obtain ⟨h1, h2, _⟩ := h.tail
    have ih := cz_bdR n h1 fun y hy => hb y (List.mem_cons_of_mem _ hy)
    have h3 := hb x (List.mem_cons_self ..)
    rw [cz]
    by_cases hx : x.1 = n
    · rw [if_pos hx, cz_gt (fun y hy => by have := h2 y hy; omega), Int.add_zero]; exact h3
    · rw [if_neg hx, Int.zero_add]; exact ih

/-! Transposes -/
def trL (c : Nat) (A : List (List (Int × Int))) : List (List (Int × Int)) := (List.range c).map fun (k : Nat) => rw0 0 (A.map (cz k))
theorem trL_len (c : Nat) (A : List (List (Int × Int))) : (trL c A).length = c := by simp [trL]
theorem rowAt_trL {c : Nat} (A : List (List (Int × Int))) {k : Nat} (h : k < c) : rowAt (trL c A) (k : Int) = rw0 0 (A.map (cz k)) := by
  unfold trL
  rw [rowAt_nat, getD_range, if_pos h]
theorem getD_map {α β : Type} (f : α → β) (l : List α) (k : Nat) (a : α) (b : β) (hb : f a = b) : (l.map f).getD k b = f (l.getD k a) := by
  rw [List.getD_eq_getElem?_getD, List.getD_eq_getElem?_getD, List.getElem?_map]
  cases l[k]? with
  | none => exact hb.symm
  | some x => rfl
theorem cz_nil (n : Int) : cz n [] = 0 := rfl
theorem cz_trRow (A : List (List (Int × Int))) (k i : Int) : cz i (rw0 0 (A.map (cz k))) = if 0 ≤ i then cz k (rowAt A i) else 0 := by
  rw [cz_rw00, getD_map (cz k) A i.toNat [] 0 rfl]; rfl
theorem map_rowAt {α : Type} (f : List (Int × Int) → α) (B : List (List (Int × Int))) : B.map f = (List.range B.length).map fun (k : Nat) => f (rowAt B k) := by
  apply List.ext_getElem?
  intro k
  by_cases h : k < B.length
  · rw [List.getElem?_map, List.getElem?_map, List.getElem?_range h, List.getElem?_eq_getElem h]
    simp only [Option.map_some]
    rw [rowAt_get (List.getElem?_eq_getElem h)]
  · rw [List.getElem?_eq_none (by simpa using h), List.getElem?_eq_none (by simpa using h)]

theorem mul_tr {ca cb : Nat} {A B : List (List (Int × Int))} (hA : ∀ r ∈ A, Srt r) (hAc : ∀ r ∈ A, ColIn (ca : Int) r) (hcb : B.length = ca) :
    (trL cb B).map (mulR (trL ca A)) = trL cb (A.map (mulR B)) := by
  unfold trL
  rw [List.map_map]
  refine List.map_congr_left fun c hc => ?_
  simp only [Function.comp]
  have hts : ∀ r ∈ (List.range ca).map (fun (k : Nat) => rw0 0 (A.map (cz k))), Srt r := fun r hr => by
    obtain ⟨k, _, rfl⟩ := List.mem_map.1 hr; exact rw0_srt _ _
  refine Srt.ext (mulR_srt hts _) (rw0_srt _ _) fun i => ?_
  rw [cz_mulR, dot_rw0, map_rowAt (cz (c : Int)) B, vdot_range, cz_trRow]
  have e1 : ∀ k, k < B.length → cz (c : Int) (rowAt B (k : Int)) * cz i (rowAt ((List.range ca).map (fun (k : Nat) => rw0 0 (A.map (cz k)))) (k : Int)) = if 0 ≤ i then cz (k : Int) (rowAt A i) * cz (c : Int) (rowAt B (k : Int)) else 0 := fun k hk => by
    have := rowAt_trL (c := ca) A (k := k) (by omega)
    unfold trL at this
    rw [this, cz_trRow]
    split
    · exact Int.mul_comm ..
    · exact Int.mul_zero _
  rw [ssum_congr e1]
  by_cases h0 : 0 ≤ i
  · simp only [if_pos h0]
    have e2 : rowAt (A.map (mulR B)) i = mulR B (rowAt A i) := by
      unfold rowAt
      exact getD_map (mulR B) A i.toNat [] [] rfl
    rw [e2, cz_mulR, dot_dense (c := ca) _ (rowAt_mem Srt Srt.nil hA) (rowAt_mem (ColIn (ca : Int)) (ColIn.nil _) hAc), hcb]
  · simp only [if_neg h0]
    generalize B.length = n
    induction n with
    | zero => rfl
    | succ n ih => rw [ssum, ih]; rfl

theorem tr_tr {c : Nat} {A : List (List (Int × Int))} (hA : ∀ r ∈ A, Srt r) (hAc : ∀ r ∈ A, ColIn (c : Int) r) : trL A.length (trL c A) = A := by
  have e0 : A = (List.range A.length).map fun (k : Nat) => rowAt A k := by
    have := map_rowAt id A
    simpa using this
  conv => rhs; rw [e0]
  conv => lhs; unfold trL
  refine List.map_congr_left fun i hi => ?_
  rw [List.mem_range] at hi
  refine Srt.ext (rw0_srt _ _) (rowAt_mem Srt Srt.nil hA) fun n => ?_
  rw [cz_trRow]
  have hcol : ColIn (c : Int) (rowAt A (i : Int)) := rowAt_mem (ColIn (c : Int)) (ColIn.nil _) hAc
  by_cases h0 : 0 ≤ n
  · rw [if_pos h0]
    obtain ⟨n, rfl⟩ : ∃ k : Nat, n = k := ⟨n.toNat, by omega⟩
    by_cases h1 : n < c
    · have h2 := rowAt_trL A h1
      unfold trL at h2
      rw [h2, cz_trRow, if_pos (by omega)]
    · have h2 : rowAt ((List.range c).map (fun (k : Nat) => rw0 0 (A.map (cz k)))) (n : Int) = [] := by
        rw [rowAt_nat, getD_range, if_neg h1]
      rw [h2, cz_nil, cz_out hcol (by omega)]
  · rw [if_neg h0, cz_out hcol (by omega)]

/-! Associativity -/
theorem mul_assoc {A : List (List (Int × Int))} {B C : List (List (Int × Int))} (hC : ∀ r ∈ C, Srt r) : (A.map (mulR B)).map (mulR C) = A.map (mulR (B.map (mulR C))) := by
  rw [List.map_map]
  refine List.map_congr_left fun row _ => ?_
  have hBC : ∀ r ∈ B.map (mulR C), Srt r := fun r hr => by obtain ⟨x, _, rfl⟩ := List.mem_map.1 hr; exact mulR_srt hC x
  refine Srt.ext (mulR_srt hC _) (mulR_srt hBC _) fun n => ?_
  show cz n (mulR C (mulR B row)) = _
  rw [cz_mulR, cz_mulR, dot_mulR]
  refine dot_congr fun x _ => ?_
  have : rowAt (B.map (mulR C)) x.1 = mulR C (rowAt B x.1) := by
    unfold rowAt
    exact getD_map (mulR C) B x.1.toNat [] [] rfl
  rw [this, cz_mulR]

/-! Dense rows times a matrix -/
theorem lv_skip (k : Int) : ∀ (l : List (Int × Int)) (a : Int), (∀ x ∈ l, x.1 ≠ k) → l.foldl (fun acc x => if x.1 = k then x.2 else acc) a = a
  | [], _, _ => rfl
  | x :: l, a, h => by
    rw [List.foldl_cons, if_neg (h x (List.mem_cons_self ..))]
    exact lv_skip k l a fun y hy => h y (List.mem_cons_of_mem _ hy)
theorem lv_cz (k : Int) : ∀ {l : List (Int × Int)}, Srt l → lv k l = cz k l
  | [], _ => rfl
  | x :: l, h => by
    obtain ⟨h1, h2, _⟩ := h.tail
    have ih := lv_cz k h1
    unfold lv at ih ⊢
    rw [List.foldl_cons, cz]
    by_cases hx : x.1 = k
    · rw [if_pos hx, lv_skip k l _ (fun y hy => by have := h2 y hy; omega), cz_gt (fun y hy => by have := h2 y hy; omega)]; omega
    · rw [if_neg hx, ih]; omega
theorem fullR_dense {c : Nat} {r : List (Int × Int)} (h : Srt r) : fullR r c = dense c r := List.map_congr_left fun k _ => lv_cz k h
theorem addAt_get (r : List Int) (k n : Nat) (z : Int) (hn : n < r.length) : (addAt r k z).getD n 0 = r.getD n 0 + if k = n then z else 0 := by
  unfold addAt
  rw [List.getD_eq_getElem?_getD, List.getElem?_set]
  by_cases h : k = n
  · subst h; simp [hn]
  · rw [if_neg h, if_neg h, List.getD_eq_getElem?_getD]; omega
theorem tmI_len (z : Int) : ∀ (row : List (Int × Int)) (r : List Int), (tmI z row r).length = r.length
  | [], _ => rfl
  | x :: row, r => by
    show (tmI z row (addAt r x.1.toNat (z * x.2))).length = _
    rw [tmI_len z row, addAt_len]
theorem tmI_get (z : Int) (n : Nat) : ∀ (row : List (Int × Int)) (r : List Int), n < r.length → (∀ x ∈ row, 0 ≤ x.1) → (tmI z row r).getD n 0 = r.getD n 0 + z * cz n row
  | [], r, _, _ => by simp [tmI, cz]
  | x :: row, r, hn, h => by
    have h0 := h x (List.mem_cons_self ..)
    show (tmI z row (addAt r x.1.toNat (z * x.2))).getD n 0 = _
    rw [tmI_get z n row _ (by rw [addAt_len]; exact hn) fun y hy => h y (List.mem_cons_of_mem _ hy), addAt_get _ _ _ _ hn, cz, Int.mul_add, mul_ite]
    by_cases hx : x.1 = (n : Int)
    · rw [if_pos hx, if_pos (by omega)]; omega
    · rw [if_neg hx, if_neg (by omega)]; omega
theorem tiO_len : ∀ (z : List (Int × List (Int × Int))) (r : List Int), (tiO z r).length = r.length
  | [], _ => rfl
  | p :: z, r => by
    show (tiO z (tmI p.1 p.2 r)).length = _
    rw [tiO_len z, tmI_len]
theorem tiO_get (n : Nat) : ∀ (z : List (Int × List (Int × Int))) (r : List Int), n < r.length → (∀ p ∈ z, ∀ x ∈ p.2, 0 ≤ x.1) → (tiO z r).getD n 0 = r.getD n 0 + (z.map fun p => p.1 * cz n p.2).sum
  | [], r, _, _ => by simp [tiO]
  | p :: z, r, hn, h => by
    show (tiO z (tmI p.1 p.2 r)).getD n 0 = _
    rw [tiO_get n z _ (by rw [tmI_len]; exact hn) fun y hy => h y (List.mem_cons_of_mem _ hy), tmI_get _ _ _ _ hn (h p (List.mem_cons_self ..)), List.map_cons, List.sum_cons]; omega
theorem sum_range (F : Nat → Int) : ∀ n : Nat, ((List.range n).map F).sum = ssum F n
  | 0 => rfl
  | n + 1 => by rw [List.range_succ, List.map_append, List.sum_append, sum_range F n, ssum]; simp
theorem zip_range {α β : Type} (f : Nat → α) (g : Nat → β) (n : Nat) : ((List.range n).map f).zip ((List.range n).map g) = (List.range n).map fun k => (f k, g k) := by
  rw [List.zip_map']
theorem times_mul {ca cb : Nat} {B : List (List (Int × Int))} {row : List (Int × Int)} (hB : ∀ r ∈ B, Srt r) (hBc : ∀ r ∈ B, ColIn (cb : Int) r) (hcb : B.length = ca) (hr : Srt row) (hc : ColIn (ca : Int) row) :
    rw0 0 (tiO ((fullR row ca).zip B) (List.replicate cb 0)) = mulR B row := by
  refine Srt.ext (rw0_srt _ _) (mulR_srt hB row) fun n => ?_
  have e0 : B = (List.range ca).map fun (k : Nat) => rowAt B k := by
    have := map_rowAt id B
    rw [hcb] at this
    simpa using this
  have hcol := mulR_col hBc row
  rw [cz_rw00]
  by_cases h0 : 0 ≤ n
  · rw [if_pos h0]
    obtain ⟨n, rfl⟩ : ∃ k : Nat, n = k := ⟨n.toNat, by omega⟩
    rw [Int.toNat_natCast]
    by_cases h1 : n < cb
    · rw [tiO_get n _ _ (by simpa using h1) (fun p hp x hx => (hBc p.2 (List.of_mem_zip (a := p.1) (b := p.2) hp).2 x hx).1), cz_mulR, dot_dense (c := ca) _ hr hc, fullR_dense hr]
      have e1 : (dense ca row).zip B = (List.range ca).map fun (k : Nat) => (cz k row, rowAt B k) := by
        conv => lhs; rw [e0]
        exact zip_range _ _ _
      rw [e1, List.map_map, sum_range]
      have e2 : (List.replicate cb (0 : Int)).getD n 0 = 0 := by
        rw [List.getD_eq_getElem?_getD, List.getElem?_replicate]; simp [h1]
      rw [e2, Int.zero_add]; rfl
    · rw [List.getD_eq_getElem?_getD, List.getElem?_eq_none (by rw [tiO_len]; simpa using h1), cz_out hcol (by omega)]; rfl
  · rw [if_neg h0, cz_out hcol (by omega)]

/-! How the program makes a transpose -/
def appT (M : List (List (Int × Int))) (k : Nat) (x : Int × Int) : List (List (Int × Int)) := M.set k (M.getD k [] ++ [x])
def tIn (i : Int) (M : List (List (Int × Int))) (row : List (Int × Int)) : List (List (Int × Int)) := row.foldl (fun M t => appT M t.1.toNat (i, t.2)) M
def tF (A : List (List (Int × Int))) (c n : Nat) : List (List (Int × Int)) := (List.range n).foldl (fun M (i : Nat) => tIn i M (rowAt A i)) (List.replicate c [])
theorem tIn_snoc (i : Int) (M : List (List (Int × Int))) (row : List (Int × Int)) (t : Int × Int) : tIn i M (row ++ [t]) = appT (tIn i M row) t.1.toNat (i, t.2) := by simp [tIn]
theorem tF_succ (A : List (List (Int × Int))) (c n : Nat) : tF A c (n + 1) = tIn n (tF A c n) (rowAt A n) := by simp [tF, List.range_succ]
theorem appT_len (M : List (List (Int × Int))) (k : Nat) (x : Int × Int) : (appT M k x).length = M.length := by simp [appT]
theorem tIn_len (i : Int) : ∀ (row : List (Int × Int)) (M : List (List (Int × Int))), (tIn i M row).length = M.length
  | [], _ => rfl
  | x :: row, M => by
    show (tIn i (appT M x.1.toNat (i, x.2)) row).length = _
    rw [tIn_len i row, appT_len]
theorem tF_len (A : List (List (Int × Int))) (c : Nat) : ∀ n : Nat, (tF A c n).length = c
  | 0 => by simp [tF]
  | n + 1 => by rw [tF_succ, tIn_len, tF_len A c n]
theorem appT_get (M : List (List (Int × Int))) (k n : Nat) (x : Int × Int) (hn : n < M.length) : (appT M k x).getD n [] = M.getD n [] ++ if k = n then [x] else [] := by
  unfold appT
  rw [List.getD_eq_getElem?_getD, List.getElem?_set]
  by_cases h : k = n
  · subst h; simp [hn]
  · rw [if_neg h, if_neg h, List.getD_eq_getElem?_getD, List.append_nil]
theorem tIn_get (i : Int) (n : Nat) : ∀ (row : List (Int × Int)) (M : List (List (Int × Int))), n < M.length → Srt row → (∀ x ∈ row, 0 ≤ x.1) → (tIn i M row).getD n [] = M.getD n [] ++ if cz n row = 0 then [] else [(i, cz n row)]
  | [], M, _, _, _ => by simp [tIn, cz]
  | x :: row, M, hn, hs, h => by
    obtain ⟨h1, h2, h3⟩ := hs.tail
    have h0 := h x (List.mem_cons_self ..)
    show (tIn i (appT M x.1.toNat (i, x.2)) row).getD n [] = _
    rw [tIn_get i n row _ (by rw [appT_len]; exact hn) h1 fun y hy => h y (List.mem_cons_of_mem _ hy), appT_get _ _ _ _ hn, cz]
    by_cases hx : x.1 = (n : Int)
    · have e : cz n row = 0 := cz_gt fun y hy => by have := h2 y hy; omega
      rw [if_pos (by omega), if_pos hx, e, if_pos rfl, Int.add_zero, if_neg h3, List.append_nil]
    · rw [if_neg (by omega), if_neg hx, List.append_nil, Int.zero_add]
theorem tF_get {A : List (List (Int × Int))} {c : Nat} (hA : ∀ r ∈ A, Srt r) (hAc : ∀ r ∈ A, ∀ x ∈ r, 0 ≤ x.1) {k : Nat} (hk : k < c) : ∀ n : Nat, n ≤ A.length → (tF A c n).getD k [] = rw0 0 ((A.take n).map (cz k))
  | 0, _ => by simp [tF, rw0, List.getD_eq_getElem?_getD, hk]
  | n + 1, h => by
    have hg : A[n]? = some A[n] := List.getElem?_eq_getElem (by omega)
    have hl : ((A.take n).map (cz (k : Int))).length = n := by simp; omega
    rw [tF_succ, tIn_get _ _ _ _ (by rw [tF_len]; exact hk) (rowAt_mem Srt Srt.nil hA) (rowAt_mem (fun r => ∀ x ∈ r, 0 ≤ x.1) (fun _ h => by cases h) hAc), tF_get hA hAc hk n (by omega), List.take_add_one, hg, rowAt_get hg]
    simp only [Option.toList, List.map_append, List.map_singleton]
    rw [rw0_snoc, hl, Nat.zero_add]
theorem tF_trL {A : List (List (Int × Int))} {c : Nat} (hA : ∀ r ∈ A, Srt r) (hAc : ∀ r ∈ A, ∀ x ∈ r, 0 ≤ x.1) : tF A c A.length = trL c A := by
  apply List.ext_getElem (by rw [tF_len, trL_len])
  intro k h1 h2
  rw [tF_len] at h1
  have e1 := tF_get hA hAc h1 A.length (Nat.le_refl _)
  have e2 := rowAt_trL A h1
  rw [List.take_length, List.getD_eq_getElem?_getD, List.getElem?_eq_getElem (by rw [tF_len]; exact h1)] at e1
  rw [rowAt_nat, List.getD_eq_getElem?_getD, List.getElem?_eq_getElem (by rw [trL_len]; exact h1)] at e2
  simp only [Option.getD_some] at e1 e2
  rw [e1, e2]

end Go.Am

open Go Go.Am Go.Proofs
namespace Go.Am
set_option linter.unusedSimpArgs false

/-- Weakening without renumbering. -/
theorem wk_id {σ : St} {sl : List (Nat × AV)} {H' : Nat → Option HO} {n' : Nat} (hslot : slotsOk σ.H H' (fun i => i) σ.Γ sl) (hblk : ∀ id o', H' id = some o' → ∃ o, σ.H id = some o ∧ SubO σ.H H' (fun i => i) o o')
    (htop : ∀ id, n' ≤ id → H' id = none) (hn : n' ≠ 0) : Wk σ ⟨sltF sl, H', n'⟩ (fun i => i) := by
  refine ⟨htop, fun t => ?_, hblk, fun _ _ _ _ e => e, fun _ => rfl, fun h => absurd h hn⟩
  show Sub _ _ _ _ (sltF sl t)
  rcases sltF_get sl t with h | ⟨p, hp, rfl, h⟩
  · rw [h]; exact sub_any _
  · rw [h]; exact slotsOk_mem hslot _ hp

/-- A row being made: not begun, or a block of the call's own. -/
def tcell (p : Nat × List (Int × Int)) : AV := if p.2 = [] then .nil else .own p.1 0 p.2.length 3
/-- Rows being made: the numbers of their blocks, what they hold; which blocks there are. -/
structure TS where
  T : List (Nat × List (Int × Int))
  H : Nat → Option HO
  n : Nat
structure TOk (c : Nat) (b1 b3 : List AV) (x : TS) : Prop where
  len : x.T.length = c
  h0 : x.H 0 = none
  h1 : x.H 1 = some (.cells 44 b1)
  h2 : x.H 2 = some (.cells 45 (x.T.map tcell))
  h3 : x.H 3 = some (.cells 44 b3)
  top : ∀ id, x.n + 4 ≤ id → x.H id = none
  row : ∀ (k : Nat) p, x.T[k]? = some p → p.2 ≠ [] → ∃ b, p.1 = b + 4 ∧ b < x.n ∧ x.H (b + 4) = some (.cells 109 ((fcs p.2).map .d))
  inj : ∀ (k k' : Nat) p p', x.T[k]? = some p → x.T[k']? = some p' → p.2 ≠ [] → p'.2 ≠ [] → p.1 = p'.1 → k = k'
  lng : ∀ (k : Nat) p, x.T[k]? = some p → p.2.length ≤ x.n
  all : ∀ id o, x.H (id + 4) = some o → ∃ r : List (Int × Int), o = .cells 109 ((fcs r).map .d)

theorem fcs_ne (p : Int × Int) : fcs [p] = encF p := by simp [fcs]
/-- The blocks behind a row that grows: 'old' is dropped. -/
def growH (H : Nat → Option HO) (n : Nat) (T : List (Nat × List (Int × Int))) (r : List (Int × Int)) (old : Nat → Bool) : Nat → Option HO := fun id =>
  if id = 2 then some (.cells 45 (T.map tcell)) else if id = n + 6 then some (.cells 109 ((fcs r).map .d)) else if id = n + 4 ∨ id = n + 5 then none else if old id = true then none else H id
theorem growH_new (H : Nat → Option HO) (n : Nat) (T : List (Nat × List (Int × Int))) (r : List (Int × Int)) (old : Nat → Bool) : growH H n T r old (n + 6) = some (.cells 109 ((fcs r).map .d)) := by
  unfold growH
  rw [if_neg (by omega), if_pos rfl]
def TS.grow (x : TS) (k : Nat) (p : Nat × List (Int × Int)) (e : Int × Int) : TS :=
  ⟨x.T.set k (x.n + 6, p.2 ++ [e]), growH x.H x.n (x.T.set k (x.n + 6, p.2 ++ [e])) (p.2 ++ [e]) (fun id => decide (p.2 ≠ [] ∧ id = p.1)), x.n + 3⟩
theorem TOk.grow {c : Nat} {b1 b3 : List AV} {x : TS} (h : TOk c b1 b3 x) {k : Nat} {p : Nat × List (Int × Int)} (hp : x.T[k]? = some p) (e : Int × Int) :
    TOk c b1 b3 (x.grow k p e) := by
  unfold TS.grow
  have hk : k < x.T.length := (List.getElem?_eq_some_iff.1 hp).1
  have hold : ∀ j, j < 4 → decide (p.2 ≠ [] ∧ j = p.1) = false := fun j hj => by
    simp only [decide_eq_false_iff_not]
    rintro ⟨h1, h2⟩
    obtain ⟨b, hb, _⟩ := h.row k p hp h1
    omega
  have hset : ∀ (j : Nat) q, (x.T.set k (x.n + 6, p.2 ++ [e]))[j]? = some q → (j = k ∧ q = (x.n + 6, p.2 ++ [e])) ∨ (j ≠ k ∧ x.T[j]? = some q) := fun j q hq => by
    rw [List.getElem?_set] at hq
    split at hq
    · rename_i hj; subst hj; simp only [hk, if_true, Option.some.injEq] at hq; exact .inl ⟨rfl, hq.symm⟩
    · rename_i hj; exact .inr ⟨fun e => hj e.symm, hq⟩
  refine ⟨by rw [List.length_set]; exact h.len, ?_, ?_, ?_, ?_, fun id hid => ?_, fun j q hq hne => ?_, fun j j' q q' hq hq' hn hn' heq => ?_, fun j q hq => ?_, fun id o ho => ?_⟩
  · simp only [growH]
    rw [if_neg (by omega), if_neg (by omega), if_neg (by omega), if_neg (by rw [hold 0 (by omega)]; decide)]; exact h.h0
  · simp only [growH]
    rw [if_neg (by omega), if_neg (by omega), if_neg (by omega), if_neg (by rw [hold 1 (by omega)]; decide)]; exact h.h1
  · simp only [growH]; rfl
  · simp only [growH]
    rw [if_neg (by omega), if_neg (by omega), if_neg (by omega), if_neg (by rw [hold 3 (by omega)]; decide)]; exact h.h3
  · simp only at hid
    simp only [growH]
    rw [if_neg (by omega), if_neg (by omega), if_neg (by omega)]
    split
    · rfl
    · exact h.top id (by omega)
  · simp only at hq ⊢
    rcases hset j q hq with ⟨rfl, rfl⟩ | ⟨hj, hq⟩
    · exact ⟨x.n + 2, rfl, by omega, growH_new _ _ _ _ _⟩
    · obtain ⟨b, hb, hlt, hH⟩ := h.row j q hq hne
      refine ⟨b, hb, by omega, ?_⟩
      simp only [growH]
      rw [if_neg (by omega), if_neg (by omega), if_neg (by omega), if_neg, hH]
      simp only [decide_eq_true_eq]
      rintro ⟨hpn, he⟩
      exact hj (h.inj j k q p hq hp hne hpn (by omega))
  · simp only at hq hq'
    rcases hset j q hq with ⟨e1, e2⟩ | ⟨hj, hq2⟩ <;> rcases hset j' q' hq' with ⟨e3, e4⟩ | ⟨hj', hq2'⟩
    · omega
    · obtain ⟨b, hb, hlt, _⟩ := h.row j' q' hq2' hn'
      rw [e2] at heq
      simp only at heq; omega
    · obtain ⟨b, hb, hlt, _⟩ := h.row j q hq2 hn
      rw [e4] at heq
      simp only at heq; omega
    · exact h.inj j j' q q' hq2 hq2' hn hn' heq
  · simp only at hq ⊢
    rcases hset j q hq with ⟨rfl, rfl⟩ | ⟨hj, hq⟩
    · have := h.lng j p hp
      rw [List.length_append, List.length_singleton]; omega
    · have := h.lng j q hq; omega
  · simp only [growH] at ho
    rw [if_neg (by omega)] at ho
    split at ho
    · injection ho with ho; exact ⟨_, ho.symm⟩
    · split at ho
      · cases ho
      · split at ho
        · cases ho
        · exact h.all id o ho

/-- What a scrub leaves of the cells. -/
theorem tcell_lay {x : TS} {k : Nat} {v : AV} (hk : k < x.T.length) : lay (x.T.map tcell) k [v] = (x.T.map tcell).set k v := by
  apply List.ext_getElem?
  intro j
  rw [lay_get (by simp; omega), List.getElem?_set]
  by_cases e : k = j
  · subst e; simp [hk]
  · rw [if_neg e, if_neg]
    simp only [List.length_singleton]; omega

theorem TOk.self {c : Nat} {b1 b3 : List AV} {x : TS} (h : TOk c b1 b3 x) {H : Nat → Option HO} (hb1 : cellsOk H x.H (fun i => i) b1 b1) (hb3 : cellsOk H x.H (fun i => i) b3 b3) (id : Nat) (o : HO) (ho : x.H id = some o) : SubO H x.H (fun i => i) o o := by
  rcases id with _ | _ | _ | _ | id
  · rw [h.h0] at ho; cases ho
  · rw [h.h1] at ho; injection ho with ho; subst ho
    exact subO_cells.2 ⟨rfl, hb1⟩
  · rw [h.h2] at ho; injection ho with ho; subst ho
    refine subO_cells.2 ⟨rfl, cellsOk_iff.2 ⟨rfl, fun k c d h1 h2 => ?_⟩⟩
    rw [h1] at h2; injection h2 with h2; subst h2
    rw [List.getElem?_map] at h1
    obtain ⟨p, hp, rfl⟩ := Option.map_eq_some_iff.1 h1
    unfold tcell
    split
    · trivial
    · rename_i hne
      obtain ⟨b, hb, _, hH⟩ := h.row k p hp hne
      exact ⟨rfl, rfl, rfl, rfl, by rw [hb, hH]; rfl⟩
  · rw [h.h3] at ho; injection ho with ho; subst ho
    exact subO_cells.2 ⟨rfl, hb3⟩
  · obtain ⟨r, rfl⟩ := h.all id o ho
    exact subO_data _ _

theorem TOk.scrub {c : Nat} {b1 b3 : List AV} {x : TS} (h : TOk c b1 b3 x) {k b n l : Nat} {p : Nat × List (Int × Int)} (hp : x.T[k]? = some p) (hpe : p.2 ≠ []) (hb : p.1 = b + 4) (m : Nat) (hn : ¬ n = b + 4) (hm : n = m) :
    ((x.T.map tcell).set k (.own n 0 l 3)).map (scrub0 [b + 4]) = (x.T.map tcell).set k (.own m 0 l 3) := by
  subst hm
  apply List.ext_getElem?
  intro j
  rw [List.getElem?_map, List.getElem?_set]
  by_cases e : k = j
  · subst e
    simp only [if_true]
    split
    · simp [scrub0, hn]
    · rfl
  · rw [if_neg e, List.getElem?_map]
    cases hq : x.T[j]? with
    | none => rfl
    | some q =>
      simp only [Option.map_some]
      congr 1
      unfold tcell
      split
      · rfl
      · rename_i hqe
        have : ¬ q.1 = b + 4 := fun he => e (h.inj k j p q hp hq hpe hqe (by omega))
        simp [scrub0, this]

theorem TOk.keep {c : Nat} {b1 b3 : List AV} {x : TS} (h : TOk c b1 b3 x) {b : Nat} (e1 : b1.map (scrub0 [b + 4]) = b1) (e3 : b3.map (scrub0 [b + 4]) = b3) {id : Nat} {o : HO} (hid : ¬ id = 2) (ho : x.H id = some o) : scrubO [b + 4] o = o := by
  rcases id with _ | _ | _ | _ | id
  · rw [h.h0] at ho; cases ho
  · rw [h.h1] at ho; injection ho with ho; subst ho
    simp only [scrubO, e1]
  · exact (hid rfl).elim
  · rw [h.h3] at ho; injection ho with ho; subst ho
    simp only [scrubO, e3]
  · obtain ⟨r, rfl⟩ := h.all id o ho
    simp only [scrubO, scrub_map]
theorem frz_fcsN {H : Nat → Option HO} {B : Nat} {e : TypeId} {v : List (Int × Int)} {n : Nat} (m : Nat) (hB : H B = some (.cells e ((fcs v).map .d))) (hv : v.length = n) : frz H (m + 2) (.own B 0 n 3) = some (encC v) := by
  have hl := fcs_len v
  rw [hv] at hl
  rw [frz_own, hB]
  simp only [Nat.zero_add, List.length_map, hl, Nat.zero_mul, List.drop_zero]
  rw [fcs_take_all hv, if_pos ⟨Nat.le_refl _, by decide⟩]
  have : List.mapM (frz H (m + 1)) ((fcs v).map AV.d) = some (fcs v) := mapM_d H m (fcs v)
  rw [this, Option.map_some, chunk_fcs hv]; rfl
theorem mapM_tcell {H : Nat → Option HO} {m : Nat} : ∀ {T : List (Nat × List (Int × Int))}, (∀ p ∈ T, frz H m (tcell p) = some (encC p.2)) → (T.map tcell).mapM (frz H m) = some (rcs (T.map (·.2)))
  | [], _ => rfl
  | p :: T, h => by
    rw [List.map_cons, List.mapM_cons, h p (List.mem_cons_self ..), mapM_tcell fun q hq => h q (List.mem_cons_of_mem _ hq)]; rfl
theorem TOk.frz {c : Nat} {b1 b3 : List AV} {x : TS} (h : TOk c b1 b3 x) {H : Nat → Option HO} (hH : ∀ id, H (id + 4) = x.H (id + 4)) (m : Nat) : (x.T.map tcell).mapM (Am.frz H (m + 2)) = some (rcs (x.T.map (·.2))) := by
  refine mapM_tcell fun p hp => ?_
  obtain ⟨k, hk, hkp⟩ := List.mem_iff_getElem.1 hp
  have hk2 : x.T[k]? = some p := by rw [List.getElem?_eq_getElem hk, hkp]
  unfold tcell
  split
  · rename_i e; rw [e]; rfl
  · rename_i hne
    obtain ⟨b, hb, _, hHb⟩ := h.row k p hk2 hne
    rw [hb]
    exact frz_fcsN m (by rw [hH, hHb]) rfl

def trS1 (A : List (List (Int × Int))) (x : Nat × TS) : St :=
  ⟨sltF [(2, .ptr 1 0), (3, .ptr 3 0), (21, .d (.sl (A.map fun r => [encC r]))), (22, .d (.i .i64 (A.length : Int))), (23, .d (.i .i64 (x.1 : Int)))], x.2.H, x.2.n + 4⟩
def trS2 (A : List (List (Int × Int))) (row : List (Int × Int)) (i : Nat) (x : Nat × TS) : St :=
  ⟨sltF [(2, .ptr 1 0), (3, .ptr 3 0), (4, .d (.i .i64 (i : Int))), (21, .d (.sl (A.map fun r => [encC r]))), (22, .d (.i .i64 (A.length : Int))), (23, .d (.i .i64 (i : Int))), (28, .d (encC row)), (29, .d (.i .i64 (row.length : Int))), (30, .d (.i .i64 (x.1 : Int)))], x.2.H, x.2.n + 4⟩

set_option maxHeartbeats 16000000 in
set_option maxRecDepth 10000 in
theorem spTrans {c : Nat} {A : List (List (Int × Int))} (hA : MOk c A) (hAl : A.length ≤ 1000) (hcl : c ≤ 1000) :
    Spec Try.prog 42 [encSp A.length c A] (encSp c A.length (trL c A)) := by
  refine spec_of_d (N := 55) follows_mixed Try.func42 rfl rfl rfl (by kernel_rfl) (by kernel_rfl) (by kernel_rfl) (by kernel_rfl) rfl rec88 (by simp) ?_
  have hV := spValidZ hA
  have hm : 24 * (c : Int) ≤ 281474976710656 := by omega
  have hm2 : (c : Int) ≤ 9223372036854775807 := by omega
  simp (config := { maxSteps := 1000000 }) [-List.map_map, -List.mapM_map, ↓awp_skip, ↓awp_regionB, ↓awp_seq, ↓awp_block, ↓awp_exit, ↓awp_ret, ↓awp_label, ↓awp_scope, ↓awp_condB, ↓awp_loopB, ↓ow_nil', ↓ow_cons0, ↓ow_cons1, ↓o1_move, ↓o1_assign, ↓o1_pick, ↓o1_alloc, ↓o1_box, ↓o1_build, ↓o1_buildSlice, ↓o1_makeSlice, ↓o1_makeMap, ↓o1_binOp, ↓o1_unOp, ↓o1_convert, ↓o1_fieldAddr, ↓o1_field, ↓o1_indexAddr, ↓o1_extract, ↓o1_slice, ↓o1_len, ↓o1_max, ↓o1_min, ↓o1_load, ↓o1_lookup, ↓o1_store, ↓o1_mapUpdate, ↓o1_append, ↓o1_delete, ↓o1_call, encSp]
  refine callP_intro (ds := [encSp A.length c A]) (by rfl) hV ?_
  simp (config := { maxSteps := 1000000 }) [-List.map_map, -List.mapM_map, ↓awp_skip, ↓awp_regionB, ↓awp_seq, ↓awp_block, ↓awp_exit, ↓awp_ret, ↓awp_label, ↓awp_scope, ↓awp_condB, ↓awp_loopB, ↓ow_nil', ↓ow_cons0, ↓ow_cons1, ↓o1_move, ↓o1_assign, ↓o1_pick, ↓o1_alloc, ↓o1_box, ↓o1_build, ↓o1_buildSlice, ↓o1_makeSlice, ↓o1_makeMap, ↓o1_binOp, ↓o1_unOp, ↓o1_convert, ↓o1_fieldAddr, ↓o1_field, ↓o1_indexAddr, ↓o1_extract, ↓o1_slice, ↓o1_len, ↓o1_max, ↓o1_min, ↓o1_load, ↓o1_lookup, ↓o1_store, ↓o1_mapUpdate, ↓o1_append, ↓o1_delete, ↓o1_call, hm, hm2, le_maxLen]
  refine loopP_inv (fun x : Nat × TS => x.1 ≤ A.length ∧ TOk c [.d (.i .i64 0), .d (.i .i64 0), .nil] [.d (.i .i64 (c : Int)), .d (.i .i64 (A.length : Int)), .own 2 0 c 1] x.2 ∧ x.2.T.map (·.2) = tF A c x.1 ∧ x.2.n ≤ 3000 * x.1) (trS1 A) (fun x => A.length - x.1)
    (0, ⟨List.replicate c (0, []), blkF 1 [.cells 44 [.d (.i .i64 0), .d (.i .i64 0), .nil], .cells 45 (List.replicate c .nil), .cells 44 [.d (.i .i64 (c : Int)), .d (.i .i64 (A.length : Int)), .own 2 0 c 1]], 0⟩) ⟨Nat.zero_le _, ?_, ?_, Nat.zero_le _⟩ ?_ ?_
  · have hget : ∀ (k : Nat) p, (List.replicate c ((0 : Nat), ([] : List (Int × Int))))[k]? = some p → p = (0, []) := fun k p h => by
      rw [List.getElem?_replicate] at h
      split at h
      · injection h with h; exact h.symm
      · cases h
    refine ⟨by simp, rfl, rfl, by simp [blkF_ap, tcell], rfl, fun id hid => ?_, fun k p hp hne => ?_, fun k k' p p' hp hp' hne => ?_, fun k p hp => ?_, fun id o ho => ?_⟩
    · show blkF 1 _ id = none
      rw [blkF_get, if_pos (by simp only at hid; omega), List.getElem?_eq_none (by simp only [List.length_cons, List.length_nil]; simp only at hid; omega)]
    · rw [hget k p hp] at hne; exact (hne rfl).elim
    · rw [hget k p hp] at hne; exact (hne rfl).elim
    · rw [hget k p hp]; exact Nat.zero_le _
    · have : blkF 1 [HO.cells 44 [.d (.i .i64 0), .d (.i .i64 0), .nil], .cells 45 (List.replicate c .nil), .cells 44 [.d (.i .i64 (c : Int)), .d (.i .i64 (A.length : Int)), .own 2 0 c 1]] (id + 4) = none := by
        rw [blkF_get, if_pos (by omega), List.getElem?_eq_none (by simp only [List.length_cons, List.length_nil]; omega)]
      simp only at ho
      rw [this] at ho; cases ho
  · simp [tF]
  · refine wk_l (sl := [(2, .ptr 1 0), (3, .ptr 3 0), (21, .d (.sl (A.map fun r => [encC r]))), (22, .d (.i .i64 (A.length : Int))), (23, .d (.i .i64 ((0 : Nat) : Int)))]) [2, 3, 4] (by simp) ?_ ?_
    · simp [-List.map_map, upd, inj1, Γ0, ]
    · simp [-List.map_map, upd, inj1, Γ0, subL_own_iff3]
      exact cellsOk_rep _
  · rintro ⟨i, x⟩ ⟨hi, hx, hxT, hxn⟩
    simp only at hi hx hxT hxn
    by_cases hgi : i < A.length
    · have q1 : (i : Int) < A.length := by omega
      have hw : IntKind.i64.wrap ((i : Int) + 1) = (i : Int) + 1 := wrap_i64 (by omega) (by omega)
      have hy : A[i]? = some A[i] := List.getElem?_eq_getElem hgi
      have hmem := List.getElem_mem hgi
      have hrs := hA.srt _ hmem
      have hrc := hA.col _ hmem
      have hro := hA.ok _ hmem
      have hrl := srt_len0 hrs hrc
      have htk := tF_succ A c i
      rw [rowAt_get hy, ← hxT] at htk
      clear hmem
      generalize A[i] = row at *
      simp only [trS1]
      simp (config := { maxSteps := 1000000 }) [-List.map_map, -List.mapM_map, ↓awp_skip, ↓awp_regionB, ↓awp_seq, ↓awp_block, ↓awp_exit, ↓awp_ret, ↓awp_label, ↓awp_scope, ↓awp_condB, ↓awp_loopB, ↓ow_nil', ↓ow_cons0, ↓ow_cons1, ↓o1_move, ↓o1_assign, ↓o1_pick, ↓o1_alloc, ↓o1_box, ↓o1_build, ↓o1_buildSlice, ↓o1_makeSlice, ↓o1_makeMap, ↓o1_binOp, ↓o1_unOp, ↓o1_convert, ↓o1_fieldAddr, ↓o1_field, ↓o1_indexAddr, ↓o1_extract, ↓o1_slice, ↓o1_len, ↓o1_max, ↓o1_min, ↓o1_load, ↓o1_lookup, ↓o1_store, ↓o1_mapUpdate, ↓o1_append, ↓o1_delete, ↓o1_call, q1, hy, encC]
      refine loopP_inv (fun y : Nat × TS => y.1 ≤ row.length ∧ TOk c [.d (.i .i64 0), .d (.i .i64 0), .nil] [.d (.i .i64 (c : Int)), .d (.i .i64 (A.length : Int)), .own 2 0 c 1] y.2 ∧ y.2.T.map (·.2) = tIn i (x.T.map (·.2)) (row.take y.1) ∧ y.2.n ≤ 3000 * i + 3 * y.1) (trS2 A row i) (fun y => row.length - y.1)
        (0, x) ⟨Nat.zero_le _, hx, rfl, hxn⟩ ?_ ?_
      · refine ⟨_, wk_id ?_ (fun id o' ho => ⟨o', ho, hx.self ?_ ?_ id o' ho⟩) hx.top (by simp)⟩
        · have g1 := hx.h1
          have g3 := hx.h3
          simp [-List.map_map, upd, inj1, Γ0, encC, g1, g3]
        · simp [-List.map_map, upd, inj1, Γ0, ]
        · have g2 := hx.h2
          simp [-List.map_map, upd, inj1, Γ0, subL_own_iff3, g2]
      · clear hx hxT hxn
        rintro ⟨j, y⟩ ⟨hj, hx, hxT, hxn⟩
        simp only at hj hx hxT hxn
        by_cases hgj : j < row.length
        · have q2 : (j : Int) < row.length := by omega
          have hw2 : IntKind.i64.wrap ((j : Int) + 1) = (j : Int) + 1 := wrap_i64 (by omega) (by omega)
          have hz : row[j]? = some row[j] := List.getElem?_eq_getElem hgj
          have hcj := hrc _ (List.getElem_mem hgj)
          have hoj := hro.1 _ (List.getElem_mem hgj)
          have htk2 : tIn i (x.T.map (·.2)) (row.take (j + 1)) = appT (y.T.map (·.2)) row[j].1.toNat (i, row[j].2) := by
            rw [List.take_add_one, hz, hxT]; exact tIn_snoc _ _ _ _
          clear hxT
          clear htk
          generalize row[j] = t at *
          obtain ⟨tc, tv⟩ := t
          simp only at hcj hoj htk2
          obtain ⟨k, rfl⟩ : ∃ k : Nat, tc = k := ⟨tc.toNat, by omega⟩
          rw [Int.toNat_natCast] at htk2
          have hkc : k < c := by omega
          have hkc1 : k + 1 ≤ c := hkc
          obtain ⟨p, hp⟩ : ∃ p, y.T[k]? = some p := ⟨_, List.getElem?_eq_getElem (by rw [hx.len]; exact hkc)⟩
          have hgrow := hx.grow hp ((i : Int), tv)
          have hO := ownSpec tv (Nat.le_trans hoj (by decide))
          have hcl2 : (y.T.map tcell).length = c := by rw [List.length_map]; exact hx.len
          have hgt : (y.T.map tcell)[k]? = some (tcell p) := by rw [List.getElem?_map, hp]; rfl
          have hgt2 : ∀ h : k < (y.T.map tcell).length, (y.T.map tcell)[k]'h = tcell p := fun h => Option.some.inj ((List.getElem?_eq_getElem h).symm.trans hgt)
          have hly : ∀ v : AV, lay (y.T.map tcell) k [v] = (y.T.map tcell).set k v := fun v => tcell_lay (by rw [hx.len]; exact hkc)
          have hH1 := hx.h1
          have hH2 := hx.h2
          have hH3 := hx.h3
          by_cases hpe : p.2 = []
          · have hpc : tcell p = .nil := by unfold tcell; rw [if_pos hpe]
            rw [hpc] at hgt hgt2
            simp only [trS2]
            generalize hcells : y.T.map tcell = cells at *
            simp (config := { maxSteps := 1000000 }) [-List.map_map, -List.mapM_map, ↓awp_skip, ↓awp_regionB, ↓awp_seq, ↓awp_block, ↓awp_exit, ↓awp_ret, ↓awp_label, ↓awp_scope, ↓awp_condB, ↓awp_loopB, ↓ow_nil', ↓ow_cons0, ↓ow_cons1, ↓o1_move, ↓o1_assign, ↓o1_pick, ↓o1_alloc, ↓o1_box, ↓o1_build, ↓o1_buildSlice, ↓o1_makeSlice, ↓o1_makeMap, ↓o1_binOp, ↓o1_unOp, ↓o1_convert, ↓o1_fieldAddr, ↓o1_field, ↓o1_indexAddr, ↓o1_extract, ↓o1_slice, ↓o1_len, ↓o1_max, ↓o1_min, ↓o1_load, ↓o1_lookup, ↓o1_store, ↓o1_mapUpdate, ↓o1_append, ↓o1_delete, ↓o1_call, q2, hz, encC, encF_eq, hH2, hH3, hgt, hgt2, hcl2, hkc, cellsA_encM, one_encM, inj1_encM, inj_encM, kills_encM]
            refine callP_intro (ds := [encZ tv]) (by rfl) hO ?_
            rw [encZ_eq]
            simp (config := { maxSteps := 1000000 }) [-List.map_map, -List.mapM_map, ↓awp_skip, ↓awp_regionB, ↓awp_seq, ↓awp_block, ↓awp_exit, ↓awp_ret, ↓awp_label, ↓awp_scope, ↓awp_condB, ↓awp_loopB, ↓ow_nil', ↓ow_cons0, ↓ow_cons1, ↓o1_move, ↓o1_assign, ↓o1_pick, ↓o1_alloc, ↓o1_box, ↓o1_build, ↓o1_buildSlice, ↓o1_makeSlice, ↓o1_makeMap, ↓o1_binOp, ↓o1_unOp, ↓o1_convert, ↓o1_fieldAddr, ↓o1_field, ↓o1_indexAddr, ↓o1_extract, ↓o1_slice, ↓o1_len, ↓o1_max, ↓o1_min, ↓o1_load, ↓o1_lookup, ↓o1_store, ↓o1_mapUpdate, ↓o1_append, ↓o1_delete, ↓o1_call, hw2, hH1, hH2, hH3, hgt, hgt2, hly, hcl2, hkc, hkc1, le_maxLen, cellsA_encM, one_encM, inj1_encM, inj_encM, kills_encM]
            refine nxt_intro (j + 1, y.grow k p ((i : Int), tv)) ⟨hgj, hgrow, ?_, by show y.n + 3 ≤ _; simp only; omega⟩ (Nat.sub_lt_sub_left hgj (Nat.lt_succ_self _)) ⟨_, wk_id ?_ (fun id o' ho => ⟨o', ?_, hgrow.self ?_ ?_ id o' ho⟩) hgrow.top (by simp)⟩
            · rw [htk2]
              show List.map _ (y.T.set k _) = _
              rw [List.map_set]; unfold appT
              rw [List.getD_eq_getElem?_getD, List.getElem?_map, hp]; rfl
            · have g1 := hgrow.h1
              have g3 := hgrow.h3
              simp [-List.map_map, upd, inj1, Γ0, encC, g1, g3]
            · simp only [TS.grow, growH] at ho
              have hT2 : List.map tcell (y.T.set k (y.n + 6, p.2 ++ [((i : Int), tv)])) = cells.set k (.own (y.n + 6) 0 1 3) := by
                rw [List.map_set, hcells, hpe]; rfl
              split at ho
              · rename_i e; subst e; rw [← ho, hT2]; rfl
              · split at ho
                · rename_i e; subst e; rw [← ho, hpe]; simp [upd, fcs, encF]
                · split at ho
                  · cases ho
                  · split at ho
                    · cases ho
                    · have e1 : ¬ id = y.n + 4 + 1 + 1 := by omega
                      have e2 : ¬ id = y.n + 4 + 1 := by omega
                      have e3 : ¬ id = y.n + 4 := by omega
                      have e4 : ¬ id = 2 := by omega
                      simp only [upd, if_neg e1, if_neg e2, if_neg e3, if_neg e4]
                      exact ho
            · simp [-List.map_map, upd, inj1, Γ0, ]
            · have g2 := hgrow.h2
              simp [-List.map_map, upd, inj1, Γ0, subL_own_iff3, g2]
          · obtain ⟨b, hb, hbn, hHb⟩ := hx.row k p hp hpe
            have hpc : tcell p = .own (b + 4) 0 p.2.length 3 := by unfold tcell; rw [if_neg hpe, hb]
            have hfl := fcs_len p.2
            have hln : p.2.length ≤ 2147483648 := by have := hx.lng k p hp; omega
            have hbb : (p.2.length + 1) * 40 ≤ 140737488355328 ∧ p.2.length + 1 ≤ 1099511627776 := ⟨by omega, by omega⟩
            have b0 : ¬ b = y.n := by omega
            have b1 : ¬ b = y.n + 1 := by omega
            have b2 : ¬ b = y.n + 1 + 1 := by omega
            have b3 : ¬ b + 4 = y.n + 4 := by omega
            have b4 : ¬ b + 4 = y.n + 4 + 1 := by omega
            have b5 : ¬ b + 4 = y.n + 4 + 1 + 1 := by omega
            have b6 : ¬ y.n + 4 = b + 4 := by omega
            have b7 : ¬ y.n + 4 + 1 = b + 4 := by omega
            have b8 : ¬ y.n + 4 + 1 + 1 = b + 4 := by omega
            have hgrow2 : fcs (p.2 ++ [((i : Int), tv)]) = fcs p.2 ++ fcs [((i : Int), tv)] := fcs_app _ _
            have hne2 : p.2 ++ [((i : Int), tv)] ≠ [] := by simp
            have hl2 : (p.2 ++ [((i : Int), tv)]).length = p.2.length + 1 := by simp
            have hT2 : List.map tcell (y.T.set k (y.n + 6, p.2 ++ [((i : Int), tv)])) = (y.T.map tcell).set k (.own (y.n + 6) 0 (p.2.length + 1) 3) := by
              rw [List.map_set]; unfold tcell; rw [if_neg hne2, hl2]
            have hsc : ((y.T.map tcell).set k (.own (y.n + 4 + 1 + 1) 0 (p.2.length + 1) 3)).map (scrub0 [b + 4]) = (y.T.map tcell).set k (.own (y.n + 6) 0 (p.2.length + 1) 3) := hx.scrub hp hpe hb _ b8 rfl
            rw [hpc] at hgt hgt2
            simp only [trS2]
            generalize hcells : y.T.map tcell = cells at *
            simp (config := { maxSteps := 1000000 }) [-List.map_map, -List.mapM_map, ↓awp_skip, ↓awp_regionB, ↓awp_seq, ↓awp_block, ↓awp_exit, ↓awp_ret, ↓awp_label, ↓awp_scope, ↓awp_condB, ↓awp_loopB, ↓ow_nil', ↓ow_cons0, ↓ow_cons1, ↓o1_move, ↓o1_assign, ↓o1_pick, ↓o1_alloc, ↓o1_box, ↓o1_build, ↓o1_buildSlice, ↓o1_makeSlice, ↓o1_makeMap, ↓o1_binOp, ↓o1_unOp, ↓o1_convert, ↓o1_fieldAddr, ↓o1_field, ↓o1_indexAddr, ↓o1_extract, ↓o1_slice, ↓o1_len, ↓o1_max, ↓o1_min, ↓o1_load, ↓o1_lookup, ↓o1_store, ↓o1_mapUpdate, ↓o1_append, ↓o1_delete, ↓o1_call, q2, hz, encC, encF_eq, hH2, hH3, hHb, hgt, hgt2, hcl2, hkc, cellsA_encM, one_encM, inj1_encM, inj_encM, kills_encM]
            refine callP_intro (ds := [encZ tv]) (by rfl) hO ?_
            rw [encZ_eq]
            simp (config := { maxSteps := 1000000 }) [-List.map_map, -List.mapM_map, ↓awp_skip, ↓awp_regionB, ↓awp_seq, ↓awp_block, ↓awp_exit, ↓awp_ret, ↓awp_label, ↓awp_scope, ↓awp_condB, ↓awp_loopB, ↓ow_nil', ↓ow_cons0, ↓ow_cons1, ↓o1_move, ↓o1_assign, ↓o1_pick, ↓o1_alloc, ↓o1_box, ↓o1_build, ↓o1_buildSlice, ↓o1_makeSlice, ↓o1_makeMap, ↓o1_binOp, ↓o1_unOp, ↓o1_convert, ↓o1_fieldAddr, ↓o1_field, ↓o1_indexAddr, ↓o1_extract, ↓o1_slice, ↓o1_len, ↓o1_max, ↓o1_min, ↓o1_load, ↓o1_lookup, ↓o1_store, ↓o1_mapUpdate, ↓o1_append, ↓o1_delete, ↓o1_call, hw2, hH1, hH2, hH3, hHb, hfl, hbb, b0, b1, b2, b3, b4, b5, b6, b7, b8, hgt, hgt2, hly, hcl2, hkc, hkc1, le_maxLen, cellsA_encM, one_encM, inj1_encM, inj_encM, kills_encM]
            refine nxt_intro (j + 1, y.grow k p ((i : Int), tv)) ⟨hgj, hgrow, ?_, by show y.n + 3 ≤ _; simp only; omega⟩ (Nat.sub_lt_sub_left hgj (Nat.lt_succ_self _)) ⟨_, wk_id ?_ (fun id o' ho => ⟨o', ?_, hgrow.self ?_ ?_ id o' ho⟩) hgrow.top (by simp)⟩
            · rw [htk2]
              show List.map _ (y.T.set k _) = _
              rw [List.map_set]; unfold appT
              rw [List.getD_eq_getElem?_getD, List.getElem?_map, hp]; rfl
            · have g1 := hgrow.h1
              have g3 := hgrow.h3
              simp [-List.map_map, upd, inj1, Γ0, encC, g1, g3]
            · simp only [TS.grow, growH] at ho
              split at ho
              · rename_i e; subst e; rw [← ho, hT2]; exact congrArg (fun l => some (HO.cells 45 l)) hsc
              · split at ho
                · rename_i e; subst e; rw [← ho, hgrow2]
                  have e4 : ¬ y.n + 6 = 2 := by omega
                  simp only [if_neg e4]
                  simp [fcs, encF, scrubO, scrub0, Function.comp_def]
                · split at ho
                  · cases ho
                  · split at ho
                    · cases ho
                    · rename_i e5
                      have e6 : ¬ id = b + 4 := fun e => e5 (by rw [hb]; simp [hpe, e])
                      have e1 : ¬ id = y.n + 4 + 1 + 1 := by omega
                      have e2 : ¬ id = y.n + 4 + 1 := by omega
                      have e3 : ¬ id = y.n + 4 := by omega
                      have e4 : ¬ id = 2 := by omega
                      simp only [if_neg e1, if_neg e2, if_neg e3, if_neg e4, if_neg e6]
                      rw [ho, Option.map_some, hx.keep (b := b) (by simp [scrub0]) (by simp [scrub0]) e4 ho]
            · simp [-List.map_map, upd, inj1, Γ0, ]
            · have g2 := hgrow.h2
              simp [-List.map_map, upd, inj1, Γ0, subL_own_iff3, g2]
        · have q2 : ¬ (j : Int) < row.length := by omega
          have ej : row.take j = row := List.take_of_length_le (by omega)
          rw [ej, ← htk] at hxT
          simp only [trS2]
          simp (config := { maxSteps := 1000000 }) [-List.map_map, -List.mapM_map, ↓awp_skip, ↓awp_regionB, ↓awp_seq, ↓awp_block, ↓awp_exit, ↓awp_ret, ↓awp_label, ↓awp_scope, ↓awp_condB, ↓awp_loopB, ↓ow_nil', ↓ow_cons0, ↓ow_cons1, ↓o1_move, ↓o1_assign, ↓o1_pick, ↓o1_alloc, ↓o1_box, ↓o1_build, ↓o1_buildSlice, ↓o1_makeSlice, ↓o1_makeMap, ↓o1_binOp, ↓o1_unOp, ↓o1_convert, ↓o1_fieldAddr, ↓o1_field, ↓o1_indexAddr, ↓o1_extract, ↓o1_slice, ↓o1_len, ↓o1_max, ↓o1_min, ↓o1_load, ↓o1_lookup, ↓o1_store, ↓o1_mapUpdate, ↓o1_append, ↓o1_delete, ↓o1_call, q2, hw]
          refine nxt_intro (i + 1, y) ⟨hgi, hx, hxT, by show y.n ≤ _; simp only; omega⟩ (Nat.sub_lt_sub_left hgi (Nat.lt_succ_self _)) ⟨_, wk_id ?_ (fun id o' ho => ⟨o', ho, hx.self ?_ ?_ id o' ho⟩) hx.top (by simp)⟩
          · have g1 := hx.h1
            have g3 := hx.h3
            simp [-List.map_map, upd, inj1, Γ0, encC, g1, g3]
          · simp [-List.map_map, upd, inj1, Γ0, ]
          · have g2 := hx.h2
            simp [-List.map_map, upd, inj1, Γ0, subL_own_iff3, g2]
    · have q1 : ¬ (i : Int) < A.length := by omega
      have e : i = A.length := by omega
      rw [e, tF_trL hA.srt (fun r hr x hx => (hA.col r hr x hx).1)] at hxT
      have hH1 := hx.h1
      have hH2 := hx.h2
      have hH3 := hx.h3
      simp only [trS1]
      have hxl := hx.len
      have htake : List.take c (List.map tcell x.T) = List.map tcell x.T := List.take_of_length_le (by simp [hxl])
      have hch := rcs_chunk (trL c A)
      have hcl3 : (rcs (trL c A)).length = c := by rw [rcs_len, trL_len]
      simp (config := { maxSteps := 1000000 }) [-List.map_map, -List.mapM_map, ↓awp_skip, ↓awp_regionB, ↓awp_seq, ↓awp_block, ↓awp_exit, ↓awp_ret, ↓awp_label, ↓awp_scope, ↓awp_condB, ↓awp_loopB, ↓ow_nil', ↓ow_cons0, ↓ow_cons1, ↓o1_move, ↓o1_assign, ↓o1_pick, ↓o1_alloc, ↓o1_box, ↓o1_build, ↓o1_buildSlice, ↓o1_makeSlice, ↓o1_makeMap, ↓o1_binOp, ↓o1_unOp, ↓o1_convert, ↓o1_fieldAddr, ↓o1_field, ↓o1_indexAddr, ↓o1_extract, ↓o1_slice, ↓o1_len, ↓o1_max, ↓o1_min, ↓o1_load, ↓o1_lookup, ↓o1_store, ↓o1_mapUpdate, ↓o1_append, ↓o1_delete, ↓o1_call, q1, hH1, hH2, hH3, encSp, hxl, htake]
      rw [hx.frz (fun id => by simp [upd]) 4, hxT]
      simp [chunk_one _ _ hcl3.symm, hch]

end Go.Am

open Go Go.Am Go.Proofs
namespace Go.Am
set_option linter.unusedSimpArgs false

/-- A valid matrix with bounded elements. -/
structure Mx (c b : Nat) (L : List (List (Int × Int))) : Prop where
  srt : ∀ r ∈ L, Srt r
  col : ∀ r ∈ L, ColIn (c : Int) r
  bd : ∀ r ∈ L, BdR b r
theorem Mx.ok {c b : Nat} {L : List (List (Int × Int))} (h : Mx c b L) (hb : b ≤ 100000000000000000000) (hc : c ≤ 1000000) (hl : L.length ≤ 1000000) : MOk (c : Int) L :=
  ⟨h.srt, h.col, fun r hr => ⟨fun x hx => sz_small (Nat.le_trans (h.bd r hr x hx) hb), Nat.le_trans (srt_len0 (h.srt r hr) (h.col r hr)) (by omega)⟩, Int.natCast_nonneg _, hl⟩
theorem Mx.mono {c b b' : Nat} {L : List (List (Int × Int))} (h : Mx c b L) (hb : b ≤ b') : Mx c b' L := ⟨h.srt, h.col, fun r hr => (h.bd r hr).mono hb⟩
theorem Mx.mul {ca cb a b : Nat} {A B : List (List (Int × Int))} (hA : Mx ca a A) (hB : Mx cb b B) : Mx cb (ca * (a * b)) (A.map (mulR B)) := by
  refine ⟨fun r hr => ?_, fun r hr => ?_, fun r hr => ?_⟩
  · obtain ⟨x, _, rfl⟩ := List.mem_map.1 hr; exact mulR_srt hB.srt x
  · obtain ⟨x, _, rfl⟩ := List.mem_map.1 hr; exact mulR_col hB.col x
  · obtain ⟨x, hx, rfl⟩ := List.mem_map.1 hr
    exact (mulR_bd hB.bd (hA.bd x hx)).mono (Nat.mul_le_mul_right _ (srt_len0 (hA.srt x hx) (hA.col x hx)))
theorem Mx.tr {c b : Nat} {L : List (List (Int × Int))} (h : Mx c b L) : Mx L.length b (trL c L) := by
  refine ⟨fun r hr => ?_, fun r hr => ?_, fun r hr x hx => ?_⟩
  · obtain ⟨k, _, rfl⟩ := List.mem_map.1 hr; exact rw0_srt _ _
  · obtain ⟨k, _, rfl⟩ := List.mem_map.1 hr
    intro x hx
    have := rw0_mem _ _ _ hx
    rw [List.length_map] at this
    exact ⟨by omega, by omega⟩
  · obtain ⟨k, _, rfl⟩ := List.mem_map.1 hr
    obtain ⟨_, _, h3, _⟩ := rw0_mem _ _ _ hx
    obtain ⟨y, hy, e⟩ := List.mem_map.1 h3
    rw [← e]; exact cz_bdR _ (h.srt y hy) (h.bd y hy)
theorem szMat_mx (l : List Int) (cc rr : Nat) : Mx cc 9 ((szMat l cc rr).map (rw0 0)) := by
  have hm : ∀ r ∈ (szMat l cc rr).map (rw0 0), ∃ i, r = rw0 0 (szRow l cc i cc) := fun r h => by
    obtain ⟨v, hv, rfl⟩ := List.mem_map.1 h
    obtain ⟨i, _, rfl⟩ := List.mem_map.1 hv
    exact ⟨i, rfl⟩
  refine ⟨fun r h => ?_, fun r h x hx => ?_, fun r h x hx => ?_⟩
  · obtain ⟨i, rfl⟩ := hm r h; exact rw0_srt _ _
  · obtain ⟨i, rfl⟩ := hm r h
    have := rw0_mem _ _ _ hx
    rw [szRow_len] at this
    exact ⟨by omega, by omega⟩
  · obtain ⟨i, rfl⟩ := hm r h
    obtain ⟨_, _, h3, _⟩ := rw0_mem _ _ _ hx
    obtain ⟨j, _, e⟩ := List.mem_map.1 h3
    have := vz1_bnd l (i * cc + j)
    rw [← e]; omega

theorem r06ValidZ {c : Int} {L : List (List (Int × Int))} (h : MOk c L) : Spec Try.prog 24 [encSp L.length c L] (.b true) := by
  have h1 := r06Valid L.length c (L.map fun r => r.map tmZ) (fun r hr => by
    obtain ⟨x, hx, rfl⟩ := List.mem_map.1 hr
    refine ⟨fun t ht => ?_, ?_⟩
    · obtain ⟨y, hy, rfl⟩ := List.mem_map.1 ht
      exact Nat.le_trans ((h.ok x hx).1 y hy) (by decide)
    · rw [List.length_map]; exact Nat.le_trans (h.ok x hx).2 (by decide)) (by rw [List.length_map]; exact Nat.le_trans h.len (by decide))
  rw [encS_tmZ] at h1
  have h2 : matR L.length c (L.map fun r => r.map tmZ) = true := matR_true (by simp) (by have := h.pos; omega) fun j hj r hr => by
    rw [List.getElem?_map] at hr
    obtain ⟨x, hx, rfl⟩ := Option.map_eq_some_iff.1 hr
    have hm := List.mem_of_getElem? hx
    exact rowR_tmZ (h.srt x hm) (h.col x hm)
  rwa [h2] at h1

theorem eqS {r c : Int} {L : List (List (Int × Int))} {k b : Nat} (h : Mx k b L) (hb : b ≤ 100000000000000000000) (hk : k ≤ 1000000) (hl : L.length ≤ 1000000) : Spec Try.prog 39 [encSp r c L, encSp r c L] (.b true) := by
  have hok := (h.ok hb hk hl).ok
  have := r06Equal r c r c hok hok hl hl
  simpa only [and_self, decide_true] using this

/-- Products and transposes of small matrices. -/
theorem mulS {ca cb a b ra : Nat} {A B : List (List (Int × Int))} (hA : Mx ca a A) (hB : Mx cb b B) (hra : A.length = ra) (hcb : B.length = ca) (h1 : ra ≤ 1000) (h2 : ca ≤ 1000) (h3 : cb ≤ 1000) (h4 : a ≤ 1000000) (h5 : b ≤ 1000000) :
    Spec Try.prog 41 [encSp ra ca A, encSp ca cb B] (.tp [encSp ra cb (A.map (mulR B)), .i .i64 0]) := by
  have := spMul (hA.ok (by omega) (by omega) (by omega)) (hB.ok (by omega) (by omega) (by omega)) hcb (by omega) h2 h3 (fun r hr => (hA.bd r hr).mono h4) (fun r hr => (hB.bd r hr).mono h5)
  rwa [hra, hcb] at this
theorem trS {c b ra : Nat} {A : List (List (Int × Int))} (hA : Mx c b A) (hra : A.length = ra) (h1 : ra ≤ 1000) (h2 : c ≤ 1000) (h3 : b ≤ 1000000) :
    Spec Try.prog 42 [encSp ra c A] (encSp c ra (trL c A)) := by
  have := spTrans (hA.ok (by omega) (by omega) (by omega)) (by omega) h2
  rwa [hra] at this

end Go.Am
