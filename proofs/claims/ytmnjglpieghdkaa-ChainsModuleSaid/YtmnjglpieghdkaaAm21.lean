/- The abstract machine, part 21: what the operations give at each kind of value, an equation each, for walks by simp. No condition. -/
import Derived.Test.YtmnjglpieghdkaaAm20
namespace Go.Am
variable {P : Program}

def allOne : List Value → Bool
  | [] => true
  | v :: l => v.oneCell' && allOne l
theorem allOne_nil : allOne [] = true := rfl
theorem allOne_cons (v : Value) (l : List Value) : allOne (v :: l) = (v.oneCell' && allOne l) := rfl
theorem allOne_eq (a : Array Value) : a.all Value.oneCell' = allOne a.toList := by
  rw [← Array.all_toList]
  generalize a.toList = l
  induction l with
  | nil => rfl
  | cons v l ih => simp only [List.all_cons, allOne, ih]
section
variable (Γ : Nat → AV) (n : Nat)
theorem nv_move (x : Operand) : nev P (.move x) Γ n = some (oev Γ x, none) := rfl
theorem nv_assign (x : Operand) : nev P (.assign x) Γ n = some (oev Γ x, none) := rfl
theorem nv_pick (c a b : Operand) : nev P (.pick c a b) Γ n = pureA ((boolOfA (oev Γ c)).map fun t => if t then oev Γ a else oev Γ b) := rfl
theorem nv_alloc (e : TypeId) : nev P (.alloc e) Γ n = (tz P e).map fun z => (.ptr n 0, some (.cells e (z.cells.toList.map cv1))) := rfl
theorem nv_box (e : TypeId) (x : Operand) : nev P (.box e x) Γ n = (cellsA (oev Γ x)).map fun cs => (.ptr n 0, some (.cells e cs)) := rfl
theorem nv_build (t : TypeId) (ps : List (Nat × Operand)) : nev P (.build t ps.toArray) Γ n = pureA ((tz P t).bind fun z => (flds P t).bind fun fl => if allOne z.cells.toList then
      (fillA (fl[·]?) (z.cells.toList.map cv1) (ps.map fun p => (p.1, oev Γ p.2))).map .ag else none) := by
  simp only [nev, allOne_eq]
theorem nv_buildSlice (t : TypeId) (len : Nat) (ps : List (Nat × Operand)) : nev P (.buildSlice t len ps.toArray) Γ n = (tel P t).bind fun e => (tsz P e).bind fun sz => (tz P e).bind fun z =>
      if z.cells.toList.length = sz ∧ 0 < sz ∧ len * sz ≤ 16777216 ∧ allOne z.cells.toList = true then
        (fillA (fun i => some (i * sz, sz)) ((List.replicate len (z.cells.toList.map cv1)).flatten) (ps.map fun p => (p.1, oev Γ p.2))).map fun cs => (.own n 0 len sz, some (.cells e cs))
      else none := by
  simp only [nev, allOne_eq, Array.length_toList]
theorem nv_makeSlice (t : TypeId) (l c : Operand) : nev P (.makeSlice t l c) Γ n = (tel P t).bind fun e => (tsz P e).bind fun sz => (tz P e).bind fun z => (tby P e).bind fun by_ => (intOfA (oev Γ l)).bind fun a => (intOfA (oev Γ c)).bind fun b =>
      if z.cells.toList.length = sz ∧ 0 < sz ∧ allOne z.cells.toList = true ∧ 0 ≤ a ∧ a ≤ b ∧ (by_ : Int) * b ≤ 281474976710656 ∧ b ≤ 9223372036854775807 then
        some (.own n 0 a.toNat sz, some (.cells e (List.replicate a.toNat (z.cells.toList.map cv1)).flatten))
      else none := by
  simp only [nev, allOne_eq, Array.length_toList]
theorem nv_binOp (op : BinOp) (t : TypeId) (x y : Operand) (u : TypeId) : nev P (.binOp op t x y u) Γ n = pureA (match nilA op (tel P t) (oev Γ x) (oev Γ y) with | some r => some r | none => (binA op (tbool P t) (oev Γ x) (oev Γ y)).map .d) := rfl
theorem nv_unOp (op : UnOp) (t : TypeId) (x : Operand) : nev P (.unOp op t x) Γ n = pureA ((unA op (oev Γ x)).map .d) := rfl
theorem nv_convert (s t : TypeId) (x : Operand) : nev P (.convert s t x) Γ n = pureA ((tint P t).bind fun k => (intOfA (oev Γ x)).bind fun m => if (P.underlying s).isSome then some (.d (.i k (k.wrap m))) else none) := rfl
theorem nv_fieldAddr (s : TypeId) (x : Operand) (f : Nat) : nev P (.fieldAddr s x f) Γ n = pureA ((flds P s).bind fun fl => (fl[f]?).bind fun p => if p.2 = 0 then none else fieldA p.1 (oev Γ x)) := rfl
theorem nv_indexAddr (t : TypeId) (x i : Operand) : nev P (.indexAddr t x i) Γ n = pureA ((intOfA (oev Γ i)).bind fun k => match tel P t with
      | some e => (tsz P e).bind fun sz => indexS sz k (oev Γ x)
      | none => (tarr P t).bind fun p => (tsz P p.2).bind fun sz => indexP sz p.1 k (oev Γ x)) := rfl
theorem nv_extract (x : Operand) (i : Nat) : nev P (.extract x i) Γ n = pureA ((tpOf (oev Γ x)).bind fun vs => vs[i]?) := rfl
theorem nv_slice (t : TypeId) (x : Operand) (lo hi mx : Option Operand) : nev P (.slice t x lo hi mx) Γ n = pureA ((tel P t).bind fun e => (tsz P e).bind fun sz => (lenA (oev Γ x)).bind fun n => (optI lo Γ 0).bind fun l => (optI hi Γ n).bind fun h =>
      match mx with
      | none => sliceA sz (oev Γ x) l h false
      | some y => (intOfA (oev Γ y)).bind fun m => if m = h ∧ hi.isSome then sliceA sz (oev Γ x) l h true else none) := rfl
theorem nv_len (x : Operand) (t : TypeId) : nev P (.call ⟨.builtin .len, #[x], #[t]⟩) Γ n = pureA ((tel P t).bind fun _ => (lenA (oev Γ x)).map fun n => .d (.i .i64 n)) := rfl
def maxC : AV → AV → Option AV
  | .d (.i k a), .d (.i _ b) => some (.d (.i k (if b > a then b else a)))
  | _, _ => none
def minC : AV → AV → Option AV
  | .d (.i k a), .d (.i _ b) => some (.d (.i k (if b < a then b else a)))
  | _, _ => none
theorem maxC_i (k k' : IntKind) (a b : Int) : maxC (.d (.i k a)) (.d (.i k' b)) = some (.d (.i k (if b > a then b else a))) := rfl
theorem minC_i (k k' : IntKind) (a b : Int) : minC (.d (.i k a)) (.d (.i k' b)) = some (.d (.i k (if b < a then b else a))) := rfl
theorem nv_max (x y : Operand) (ts : Array TypeId) : nev P (.call ⟨.builtin .max, #[x, y], ts⟩) Γ n = pureA (maxC (oev Γ x) (oev Γ y)) := rfl
theorem nv_min (x y : Operand) (ts : Array TypeId) : nev P (.call ⟨.builtin .min, #[x, y], ts⟩) Γ n = pureA (minC (oev Γ x) (oev Γ y)) := rfl
theorem nv_field (s : TypeId) (x : Operand) (f : Nat) : nev P (.field s x f) Γ n = pureA ((tfld P s f).bind fun p => (agOf (oev Γ x)).bind fun cs => if p.2.1 then (if p.1 + p.2.2 ≤ cs.length then some (.ag ((cs.drop p.1).take p.2.2)) else none) else cs[p.1]?) := rfl
theorem nv_makeMap (t : TypeId) (r : Option Operand) : nev P (.makeMap t r) Γ n = (tmp P t).bind fun p => (tint P p.1).bind fun k => (match r with | none => some 0 | some x => intOfA (oev Γ x)).map fun _ => (.mp n, some (.map k [])) := rfl
end
theorem mapM_d7 (H : Nat → Option HO) (ds : List D) : (ds.map AV.d).mapM (frz H 7) = some ds := mapM_d H 6 ds
theorem mapM_d6 (H : Nat → Option HO) (ds : List D) : (ds.map AV.d).mapM (frz H 6) = some ds := mapM_d H 5 ds
theorem flat_one {α β : Type} (f : α → β) (l : List α) : (l.map fun x => [f x]).flatten = l.map f := by induction l <;> simp_all
theorem chunk_map {α : Type} (f : α → D) (l : List α) (n : Nat) (h : l.length = n) : chunk 1 n (l.map f) = l.map fun x => [f x] := by
  rw [chunk_one _ _ (by simp [h])]; simp
theorem take_all {α : Type} (l : List α) (n : Nat) (h : l.length = n) : l.take n = l := List.take_of_length_le (by omega)
theorem take_map_all {α β : Type} (f : α → β) (l : List α) (n : Nat) (h : l.length = n) : (l.map f).take n = l.map f := List.take_of_length_le (by simp [h])
theorem chunk_0 (sz : Nat) (l : List D) : chunk sz 0 l = [] := rfl
theorem chunk_1 (sz : Nat) (l : List D) : chunk sz 1 l = [l.take sz] := by simp [chunk, List.range_succ]
theorem chunk_2 (sz : Nat) (l : List D) : chunk sz 2 l = [l.take sz, (l.drop sz).take sz] := by simp [chunk, List.range_succ]
theorem kills_ag (H : Nat → Option HO) (avs : List AV) (l : List D) : killsOf H avs (.ag l) = viss H avs := rfl
theorem kills_b (H : Nat → Option HO) (avs : List AV) (x : Bool) : killsOf H avs (.b x) = [] := rfl
theorem kills_i (H : Nat → Option HO) (avs : List AV) (k : IntKind) (n : Int) : killsOf H avs (.i k n) = [] := rfl
theorem kills_tp (H : Nat → Option HO) (avs : List AV) (l : List D) : killsOf H avs (.tp l) = if l.all flat1 then [] else viss H avs := rfl
theorem kills_sl (H : Nat → Option HO) (avs : List AV) (l : List (List D)) : killsOf H avs (.sl l) = viss H avs := rfl
theorem viss_nil (H : Nat → Option HO) : viss H [] = [] := rfl
theorem viss_cons (H : Nat → Option HO) (a : AV) (l : List AV) : viss H (a :: l) = vis H 8 a ++ viss H l := rfl
theorem vis_d (H : Nat → Option HO) (n : Nat) (x : D) : vis H n (.d x) = [] := by cases n <;> rfl
theorem vis_nil (H : Nat → Option HO) (n : Nat) : vis H n .nil = [] := by cases n <;> rfl
theorem vis_fd (H : Nat → Option HO) (n : Nat) (x : List (List D)) : vis H n (.fd x) = [] := by cases n <;> rfl
theorem vis_ag (H : Nat → Option HO) (n : Nat) (cs : List AV) : vis H (n + 1) (.ag cs) = cs.flatMap (vis H n) := rfl
theorem vis_data (H : Nat → Option HO) (n : Nat) (ds : List D) : (ds.map AV.d).flatMap (vis H n) = [] := by
  induction ds with
  | nil => rfl
  | cons d ds ih => rw [List.map_cons, List.flatMap_cons, ih, vis_d]; rfl
def visC (H : Nat → Option HO) (n id off len sz : Nat) (ho : Option HO) : List Nat := match ho with
  | some (.cells _ cs) => id :: ((cs.drop (off * sz)).take (len * sz)).flatMap (vis H n)
  | _ => []
theorem vis_own (H : Nat → Option HO) (n id off len sz : Nat) : vis H (n + 1) (.own id off len sz) = visC H n id off len sz (H id) := rfl
theorem visC_cells (H : Nat → Option HO) (n id off len sz : Nat) (e : TypeId) (cs : List AV) : visC H n id off len sz (some (.cells e cs)) = id :: ((cs.drop (off * sz)).take (len * sz)).flatMap (vis H n) := rfl
theorem lay_cons (c : AV) (cells : List AV) (off : Nat) (cs : List AV) : lay (c :: cells) off cs = (c :: cells).take off ++ cs ++ (c :: cells).drop (off + cs.length) := rfl
theorem pureA_some (v : AV) : pureA (some v) = some (v, none) := rfl
theorem StL_Γ (sl : List (Nat × AV)) (o0 : Option HO) (hs : List HO) : (StL sl o0 hs).Γ = sltF sl := rfl
theorem StL_H (sl : List (Nat × AV)) (hs : List HO) : (StL sl none hs).H = blkF 1 hs := rfl
theorem StL_HO (sl : List (Nat × AV)) (o : HO) (hs : List HO) : (StL sl (some o) hs).H = upd (blkF 1 hs) 0 (some o) := rfl
theorem StL_n (sl : List (Nat × AV)) (o0 : Option HO) (hs : List HO) : (StL sl o0 hs).n = hs.length + 1 := rfl
theorem sltF_ap (p : Nat × AV) (l : List (Nat × AV)) (t : Nat) : sltF (p :: l) t = if t = p.1 then p.2 else sltF l t := rfl
theorem sltF_nil (t : Nat) : sltF [] t = .any := rfl
theorem blkF_ap (i : Nat) (o : HO) (os : List HO) (j : Nat) : blkF i (o :: os) j = if j = i then some o else blkF (i + 1) os j := rfl
theorem blkF_nil (i j : Nat) : blkF i [] j = none := rfl
theorem oev_tmp (Γ : Nat → AV) (t : Nat) : oev Γ (.tmp t) = Γ t := rfl
theorem oev_i (Γ : Nat → AV) (k : IntKind) (n : Int) : oev Γ (.const (.int k n)) = .d (.i k n) := rfl
theorem oev_b (Γ : Nat → AV) (x : Bool) : oev Γ (.const (.bool x)) = .d (.b x) := rfl
theorem oev_nil (Γ : Nat → AV) : oev Γ (.const (.slice none 0 0)) = .nil := rfl
theorem oev_agg (Γ : Nat → AV) (cs : Array Value) : oev Γ (.const (.agg cs)) = .ag (cs.toList.map cv1) := rfl
theorem cv1_i (k : IntKind) (n : Int) : cv1 (.int k n) = .d (.i k n) := rfl
theorem cv1_b (x : Bool) : cv1 (.bool x) = .d (.b x) := rfl
theorem cv1_nil : cv1 (.slice none 0 0) = .nil := rfl
theorem cells_agg (cs : Array Value) : Value.cells (.agg cs) = cs := rfl
theorem cells_i (k : IntKind) (n : Int) : Value.cells (.int k n) = #[.int k n] := rfl
theorem cells_b (x : Bool) : Value.cells (.bool x) = #[.bool x] := rfl
theorem cells_sl (a : Option Addr) (n c : Nat) : Value.cells (.slice a n c) = #[.slice a n c] := rfl
theorem oneC_i (k : IntKind) (n : Int) : Value.oneCell' (.int k n) = true := rfl
theorem oneC_b (x : Bool) : Value.oneCell' (.bool x) = true := rfl
theorem oneC_sl (a : Option Addr) (n c : Nat) : Value.oneCell' (.slice a n c) = true := rfl

theorem one_db (x : Bool) : one (.d (.b x)) = true := rfl
theorem one_di (k : IntKind) (n : Int) : one (.d (.i k n)) = true := rfl
theorem one_dsl (l : List (List D)) : one (.d (.sl l)) = true := rfl
theorem one_nil : one .nil = true := rfl
theorem one_own (a b c d : Nat) : one (.own a b c d) = true := rfl
theorem one_ptr (a b : Nat) : one (.ptr a b) = true := rfl
theorem one_mp (a : Nat) : one (.mp a) = true := rfl
theorem one_fd (l : List (List D)) : one (.fd l) = true := rfl
theorem one_fp (l : List D) : one (.fp l) = true := rfl
theorem cellsA_db (x : Bool) : cellsA (.d (.b x)) = some [.d (.b x)] := rfl
theorem cellsA_di (k : IntKind) (n : Int) : cellsA (.d (.i k n)) = some [.d (.i k n)] := rfl
theorem cellsA_dsl (l : List (List D)) : cellsA (.d (.sl l)) = some [.d (.sl l)] := rfl
theorem cellsA_nil : cellsA .nil = some [.nil] := rfl
theorem cellsA_own (a b c d : Nat) : cellsA (.own a b c d) = some [.own a b c d] := rfl
theorem cellsA_ptr (a b : Nat) : cellsA (.ptr a b) = some [.ptr a b] := rfl
theorem cellsA_mp (a : Nat) : cellsA (.mp a) = some [.mp a] := rfl
theorem cellsA_fd (l : List (List D)) : cellsA (.fd l) = some [.fd l] := rfl
theorem cellsA_ag (cs : List AV) : cellsA (.ag cs) = if cs.all one then some cs else none := rfl
theorem cellsA_dag (cs : List D) : cellsA (.d (.ag cs)) = if (cs.map AV.d).all one then some (cs.map .d) else none := rfl
theorem agOf_ag (cs : List AV) : agOf (.ag cs) = some cs := rfl
theorem agOf_dag (cs : List D) : agOf (.d (.ag cs)) = some (cs.map .d) := rfl
theorem tpOf_tp (cs : List AV) : tpOf (.tp cs) = some cs := rfl
theorem tpOf_dtp (cs : List D) : tpOf (.d (.tp cs)) = some (cs.map .d) := rfl
theorem intOfA_i (k : IntKind) (n : Int) : intOfA (.d (.i k n)) = some n := rfl
theorem boolOfA_b (x : Bool) : boolOfA (.d (.b x)) = some x := rfl
theorem optI_none (Γ : Nat → AV) (n : Int) : optI none Γ n = some n := rfl
theorem optI_some (Γ : Nat → AV) (x : Operand) (n : Int) : optI (some x) Γ n = intOfA (oev Γ x) := rfl
theorem lenA_dsl (l : List (List D)) : lenA (.d (.sl l)) = some (l.length : Int) := rfl
theorem lenA_fd (l : List (List D)) : lenA (.fd l) = some (l.length : Int) := rfl
theorem lenA_nil : lenA .nil = some 0 := rfl
theorem lenA_own (a b c d : Nat) : lenA (.own a b c d) = some (c : Int) := rfl
theorem fieldA_ptr (off id o : Nat) : fieldA off (.ptr id o) = some (.ptr id (o + off)) := rfl
theorem fieldA_fp (off : Nat) (cs : List D) : fieldA off (.fp cs) = some (.fp (cs.drop off)) := rfl
theorem indexS_dsl (sz : Nat) (k : Int) (els : List (List D)) : indexS sz k (.d (.sl els)) = if 0 ≤ k then (els[k.toNat]?).bind fun cs => if cs.length = sz then some (.fp cs) else none else none := rfl
theorem indexS_fd (sz : Nat) (k : Int) (els : List (List D)) : indexS sz k (.fd els) = if 0 ≤ k then (els[k.toNat]?).bind fun cs => if cs.length = sz then some (.fp cs) else none else none := rfl
theorem indexS_own (sz : Nat) (k : Int) (id off len sz' : Nat) : indexS sz k (.own id off len sz') = if 0 ≤ k ∧ k < len ∧ sz' = sz then some (.ptr id ((off + k.toNat) * sz)) else none := rfl
theorem indexP_ptr (sz m : Nat) (k : Int) (id o : Nat) : indexP sz m k (.ptr id o) = if 0 ≤ k ∧ k < m then some (.ptr id (o + k.toNat * sz)) else none := rfl
theorem indexP_fp (sz m : Nat) (k : Int) (cs : List D) : indexP sz m k (.fp cs) = if 0 ≤ k ∧ k < m then some (.fp (cs.drop (k.toNat * sz))) else none := rfl
theorem binA_b (op : BinOp) (x y : Bool) : binA op true (.d (.b x)) (.d (.b y)) = match op with | .eql => some (.b (x == y)) | .neq => some (.b (!(x == y))) | _ => none := rfl
theorem binA_add (t : Bool) (k : IntKind) (a b : Int) : binA .add t (.d (.i k a)) (.d (.i k b)) = some (.i k (k.wrap (a + b))) := by simp [binA, arith]
theorem binA_sub (t : Bool) (k : IntKind) (a b : Int) : binA .sub t (.d (.i k a)) (.d (.i k b)) = some (.i k (k.wrap (a - b))) := by simp [binA, arith]
theorem binA_mul (t : Bool) (k : IntKind) (a b : Int) : binA .mul t (.d (.i k a)) (.d (.i k b)) = some (.i k (k.wrap (a * b))) := by simp [binA, arith]
theorem binA_quo (t : Bool) (k : IntKind) (a b : Int) : binA .quo t (.d (.i k a)) (.d (.i k b)) = if b = 0 then none else some (.i k (k.wrap (a.tdiv b))) := by simp [binA, arith]
theorem binA_rem (t : Bool) (k : IntKind) (a b : Int) : binA .rem t (.d (.i k a)) (.d (.i k b)) = if b = 0 then none else some (.i k (a.tmod b)) := by simp [binA, arith]
theorem binA_eql (t : Bool) (k : IntKind) (a b : Int) : binA .eql t (.d (.i k a)) (.d (.i k b)) = some (.b (a == b)) := by simp [binA, arith]
theorem binA_neq (t : Bool) (k : IntKind) (a b : Int) : binA .neq t (.d (.i k a)) (.d (.i k b)) = some (.b (a != b)) := by simp [binA, arith]
theorem binA_lss (t : Bool) (k : IntKind) (a b : Int) : binA .lss t (.d (.i k a)) (.d (.i k b)) = some (.b (decide (a < b))) := by simp [binA, arith]
theorem binA_leq (t : Bool) (k : IntKind) (a b : Int) : binA .leq t (.d (.i k a)) (.d (.i k b)) = some (.b (decide (a ≤ b))) := by simp [binA, arith]
theorem binA_gtr (t : Bool) (k : IntKind) (a b : Int) : binA .gtr t (.d (.i k a)) (.d (.i k b)) = some (.b (decide (b < a))) := by simp [binA, arith]
theorem binA_geq (t : Bool) (k : IntKind) (a b : Int) : binA .geq t (.d (.i k a)) (.d (.i k b)) = some (.b (decide (b ≤ a))) := by simp [binA, arith]
theorem binA_shl (t : Bool) (k k' : IntKind) (a b : Int) : binA .shl t (.d (.i k a)) (.d (.i k' b)) = shiftA .shl k a b := by simp [binA]
theorem binA_shr (t : Bool) (k k' : IntKind) (a b : Int) : binA .shr t (.d (.i k a)) (.d (.i k' b)) = shiftA .shr k a b := by simp [binA]
theorem binA_nilr (op : BinOp) (t : Bool) (x : AV) : binA op t x .nil = none := by unfold binA; split <;> simp_all
theorem unA_not (p : Bool) : unA .not (.d (.b p)) = some (.b !p) := rfl
theorem unA_neg (k : IntKind) (a : Int) : unA .neg (.d (.i k a)) = some (.i k (k.wrap (0 - a))) := rfl
theorem nilA_none (op : BinOp) (x y : AV) : nilA op none x y = none := rfl
theorem nilA_nil (op : BinOp) (e : TypeId) (x : AV) : nilA op (some e) x .nil = (isNilA x).bind (nilB op) := rfl
theorem inj1_b (x : Bool) : inj1 (.b x) = .d (.b x) := rfl
theorem inj1_i (k : IntKind) (n : Int) : inj1 (.i k n) = .d (.i k n) := rfl
theorem inj1_sl (l : List (List D)) : inj1 (.sl l) = .d (.sl l) := rfl
theorem inj1_ag (l : List D) : inj1 (.ag l) = .ag (l.map .d) := rfl
theorem inj_b (x : Bool) : inj (.b x) = .d (.b x) := rfl
theorem inj_i (k : IntKind) (n : Int) : inj (.i k n) = .d (.i k n) := rfl
theorem inj_sl (l : List (List D)) : inj (.sl l) = .d (.sl l) := rfl
theorem inj_ag (l : List D) : inj (.ag l) = .ag (l.map .d) := rfl
theorem inj_tp (l : List D) : inj (.tp l) = .tp (l.map inj1) := rfl
theorem scrub_d (l : List Nat) (x : D) : scrub l (.d x) = .d x := rfl
theorem scrub_nil (l : List Nat) : scrub l .nil = .nil := rfl
theorem scrub_un (l : List Nat) : scrub l .un = .un := rfl
theorem scrub_any (l : List Nat) : scrub l .any = .any := rfl
theorem scrub_own (l : List Nat) (a b c d : Nat) : scrub l (.own a b c d) = if a ∈ l then .any else .own a b c d := rfl
theorem scrub_ptr (l : List Nat) (a b : Nat) : scrub l (.ptr a b) = if a ∈ l then .any else .ptr a b := rfl
theorem scrub_mp (l : List Nat) (a : Nat) : scrub l (.mp a) = if a ∈ l then .any else .mp a := rfl
theorem scrub_fp (l : List Nat) (c : List D) : scrub l (.fp c) = .fp c := rfl
theorem scrub_fd (l : List Nat) (c : List (List D)) : scrub l (.fd c) = .fd c := rfl
theorem scrub_ag (l : List Nat) (c : List AV) : scrub l (.ag c) = .ag (c.map (scrub0 l)) := rfl
theorem scrub_tp (l : List Nat) (c : List AV) : scrub l (.tp c) = .tp (c.map (scrub1 l)) := rfl
theorem scrub0_d (l : List Nat) (x : D) : scrub0 l (.d x) = .d x := rfl
theorem scrub0_nil (l : List Nat) : scrub0 l .nil = .nil := rfl
theorem scrub0_un (l : List Nat) : scrub0 l .un = .un := rfl
theorem scrub0_any (l : List Nat) : scrub0 l .any = .any := rfl
theorem scrub0_own (l : List Nat) (a b c d : Nat) : scrub0 l (.own a b c d) = if a ∈ l then .any else .own a b c d := rfl
theorem scrub0_ptr (l : List Nat) (a b : Nat) : scrub0 l (.ptr a b) = if a ∈ l then .any else .ptr a b := rfl
theorem scrubO_cells (l : List Nat) (e : TypeId) (cs : List AV) : scrubO l (.cells e cs) = .cells e (cs.map (scrub0 l)) := rfl
theorem scrubO_data (l : List Nat) (e : TypeId) (ds : List D) : scrubO l (.cells e (ds.map .d)) = .cells e (ds.map .d) := by rw [scrubO_cells, scrub_map]
theorem srcA_nil (H : Nat → Option HO) (sz : Nat) : srcA H sz .nil = some (0, []) := rfl
theorem srcA_dsl (H : Nat → Option HO) (sz : Nat) (els : List (List D)) : srcA H sz (.d (.sl els)) = if okHead sz els = true ∧ (els.flatten.map AV.d).all one = true then some (els.length, els.flatten.map .d) else none := rfl
theorem srcA_fd (H : Nat → Option HO) (sz : Nat) (els : List (List D)) : srcA H sz (.fd els) = if okHead sz els = true ∧ (els.flatten.map AV.d).all one = true then some (els.length, els.flatten.map .d) else none := rfl
/-- A slice of the call's own, all of it. -/
def srcOwn (ho : Option HO) (sz off len sz' : Nat) : Option (Nat × List AV) := match ho with
    | some (.cells _ cs) => if sz' = sz ∧ (off + len) * sz ≤ cs.length ∧ ((cs.drop (off * sz)).take (len * sz)).all one = true then some (len, (cs.drop (off * sz)).take (len * sz)) else none
    | _ => none
theorem srcA_own (H : Nat → Option HO) (sz id off len sz' : Nat) : srcA H sz (.own id off len sz') = srcOwn (H id) sz off len sz' := rfl
theorem srcOwn_cells (e : TypeId) (cs : List AV) (sz off len sz' : Nat) : srcOwn (some (.cells e cs)) sz off len sz' = if sz' = sz ∧ (off + len) * sz ≤ cs.length ∧ ((cs.drop (off * sz)).take (len * sz)).all one = true then some (len, (cs.drop (off * sz)).take (len * sz)) else none := rfl
theorem okHead_nil (sz : Nat) : okHead sz [] = true := rfl
theorem okHead_cons (sz : Nat) (a : List D) (l : List (List D)) : okHead sz (a :: l) = (a.length == sz) := rfl

/-- What is appended to. -/
def appC (e : TypeId) (sz bt n : Nat) (s : AV) (ho : Option HO) (p : Nat × List AV) : Option (AV × Option HO × List Nat) := match s with
      | .nil => if p.1 = 0 then some (.nil, none, []) else if p.1 * bt ≤ 140737488355328 ∧ p.1 ≤ maxLen then some (.own n 0 p.1 sz, some (.cells e p.2), []) else none
      | .own id off len sz' => match ho with
        | some (.cells e' cs) => if off = 0 ∧ sz' = sz ∧ e' = e ∧ cs.length = len * sz ∧ (len + p.1) * bt ≤ 140737488355328 ∧ len + p.1 ≤ maxLen then
            some (.own n 0 (len + p.1) sz, some (.cells e (cs ++ p.2)), [id]) else none
        | _ => none
      | .fd els => if 0 < p.1 ∧ okHead sz els = true ∧ (els.flatten.map AV.d).all one = true ∧ (els.length + p.1) * bt ≤ 140737488355328 ∧ els.length + p.1 ≤ maxLen then
            some (.own n 0 (els.length + p.1) sz, some (.cells e (els.flatten.map .d ++ p.2)), []) else none
      | _ => none
def ownOf : AV → Nat
  | .own id _ _ _ => id
  | _ => 0
theorem appA_def (H : Nat → Option HO) (t : TypeId) (s x : AV) (n : Nat) : appA P H t s x n = (tel P t).bind fun e => (tsz P e).bind fun sz => (tby P e).bind fun bt => (tz P e).bind fun z => (srcA H sz x).bind fun p =>
    if z.cells.size = sz ∧ 0 < sz then appC e sz bt n s (H (ownOf s)) p else none := by
  unfold appA
  congr; funext e; congr; funext sz; congr; funext bt; congr; funext z; congr; funext p
  split
  · cases s <;> rfl
  · rfl
theorem ownOf_own (a b c d : Nat) : ownOf (.own a b c d) = a := rfl
theorem ownOf_nil : ownOf .nil = 0 := rfl
theorem appC_nil (e : TypeId) (sz bt n : Nat) (ho : Option HO) (m : Nat) (cs : List AV) : appC e sz bt n .nil ho (m, cs) = if m = 0 then some (.nil, none, []) else if m * bt ≤ 140737488355328 ∧ m ≤ maxLen then some (.own n 0 m sz, some (.cells e cs), []) else none := rfl
theorem appC_own (e e' : TypeId) (sz bt n id off len sz' : Nat) (cs : List AV) (m : Nat) (ds : List AV) : appC e sz bt n (.own id off len sz') (some (.cells e' cs)) (m, ds) = if off = 0 ∧ sz' = sz ∧ e' = e ∧ cs.length = len * sz ∧ (len + m) * bt ≤ 140737488355328 ∧ len + m ≤ maxLen then
            some (.own n 0 (len + m) sz, some (.cells e (cs ++ ds)), [id]) else none := rfl

/-- Loads. -/
def ldC (ag : Bool) (sz : Option Nat) (off : Nat) (ho : Option HO) : Option AV := match ho with
    | some (.cells _ cs) => if ag then sz.bind fun sz => if off + sz ≤ cs.length then some (.ag ((cs.drop off).take sz)) else none else cs[off]?
    | _ => none
theorem loadA_ptr (H : Nat → Option HO) (t : TypeId) (id off : Nat) : loadA P H t (.ptr id off) = (tagg P t).bind fun ag => ldC ag (tsz P t) off (H id) := rfl
theorem ldC_cells (ag : Bool) (sz : Option Nat) (off : Nat) (e : TypeId) (cs : List AV) : ldC ag sz off (some (.cells e cs)) = if ag then sz.bind fun sz => if off + sz ≤ cs.length then some (.ag ((cs.drop off).take sz)) else none else cs[off]? := rfl
theorem loadA_fp (H : Nat → Option HO) (t : TypeId) (cs : List D) : loadA P H t (.fp cs) = (tagg P t).bind fun ag => if ag then (tsz P t).bind fun sz => if sz ≤ cs.length then some (.ag ((cs.take sz).map .d)) else none else (cs[0]?).map .d := rfl
/-- Stores. -/
def stC (id off : Nat) (sz : Option Nat) (vs : Option (List AV)) (ho : Option HO) : Option (Nat × HO) := match ho with
    | some (.cells e cs) => vs.bind fun vs => sz.bind fun sz => if vs.length = sz ∧ off + sz ≤ cs.length then some (id, .cells e (lay cs off vs)) else none
    | _ => none
theorem storeA_ptr (H : Nat → Option HO) (t : TypeId) (id off : Nat) (x : AV) : storeA P H t (.ptr id off) x = stC id off (tsz P t) (cellsA x) (H id) := rfl
theorem stC_cells (id off : Nat) (sz : Option Nat) (vs : Option (List AV)) (e : TypeId) (cs : List AV) : stC id off sz vs (some (.cells e cs)) = vs.bind fun vs => sz.bind fun sz => if vs.length = sz ∧ off + sz ≤ cs.length then some (id, .cells e (lay cs off vs)) else none := rfl
theorem frz_own' (H : Nat → Option HO) (n id off len sz : Nat) : frz H (n + 1) (.own id off len sz) = match H id with
    | some (.cells _ cs) => if (off + len) * sz ≤ cs.length ∧ 0 < sz then (((cs.drop (off * sz)).take (len * sz)).mapM (frz H n)).map fun l => .sl (chunk sz len l) else none
    | _ => none := rfl
theorem res1_tmp (σ : St) (t : Nat) : res1 P σ (.tmp t) = some (σ.Γ t) := rfl
theorem res1_cell (σ : St) (ad t : Nat) : res1 P σ (.cell ad t) = loadA P σ.H t (σ.Γ ad) := rfl
theorem resD_one (x : ResultVar) (σ : St) : resD P [x] σ = (res1 P σ x).bind fun av => frz σ.H 8 av := by
  unfold resD
  simp only [List.mapM_cons, List.mapM_nil, Option.pure_def, Option.bind_eq_bind]
  cases res1 P σ x with
  | none => rfl
  | some av =>
    simp only [Option.bind_some, frzs, List.mapM_cons, List.mapM_nil, Option.pure_def, Option.bind_eq_bind]
    cases frz σ.H 8 av <;> rfl
theorem kill_nil (H : Nat → Option HO) : kill [] H = H := rfl
theorem kill_one (a : Nat) (H : Nat → Option HO) : kill [a] H = fun id => if id = a then none else H id := by funext id; simp [kill]
theorem addB_none (H : Nat → Option HO) (n : Nat) : addB H n none = H := rfl
theorem addB_some (H : Nat → Option HO) (n : Nat) (o : HO) : addB H n (some o) = upd H n (some o) := rfl
theorem cnt_none (n : Nat) : cnt none n = n := rfl
theorem cnt_some (n : Nat) (o : HO) : cnt (some o) n = n + 1 := rfl
theorem putA_some (Γ : Nat → AV) (d : Nat) (v : AV) : putA Γ (some d) v = upd Γ d v := rfl
theorem putA_none (Γ : Nat → AV) (v : AV) : putA Γ none v = Γ := rfl
theorem upd_ap {α : Type} (f : Nat → α) (k j : Nat) (x : α) : upd f k x j = if j = k then x else f j := rfl
theorem fillA_nil (place : Nat → Option (Nat × Nat)) (cells : List AV) : fillA place cells [] = some cells := rfl
def fillC (place : Nat → Option (Nat × Nat)) (cells : List AV) (pl : Option (Nat × Nat)) (cs : Option (List AV)) (rest : List (Nat × AV)) : Option (List AV) := match pl, cs with
  | some (off, size), some cs => if cs.length = size ∧ off + cs.length ≤ cells.length then fillA place (lay cells off cs) rest else none
  | _, _ => none
theorem fillA_cons (place : Nat → Option (Nat × Nat)) (cells : List AV) (i : Nat) (x : AV) (rest : List (Nat × AV)) : fillA place cells ((i, x) :: rest) = fillC place cells (place i) (cellsA x) rest := rfl
theorem fillC_some (place : Nat → Option (Nat × Nat)) (cells : List AV) (off size : Nat) (cs : List AV) (rest : List (Nat × AV)) : fillC place cells (some (off, size)) (some cs) rest = if cs.length = size ∧ off + cs.length ≤ cells.length then fillA place (lay cells off cs) rest else none := rfl
theorem sliceA_dsl (sz : Nat) (els : List (List D)) (l h : Int) (full : Bool) : sliceA sz (.d (.sl els)) l h full = if 0 ≤ l ∧ l ≤ h then if h ≤ els.length ∧ okHead sz els = true then some (if full then .fd ((els.take h.toNat).drop l.toNat) else .d (.sl ((els.take h.toNat).drop l.toNat))) else none else none := rfl
theorem sliceA_fd (sz : Nat) (els : List (List D)) (l h : Int) (full : Bool) : sliceA sz (.fd els) l h full = if 0 ≤ l ∧ l ≤ h then if h ≤ els.length ∧ okHead sz els = true then some (if full then .fd ((els.take h.toNat).drop l.toNat) else .d (.sl ((els.take h.toNat).drop l.toNat))) else none else none := rfl
theorem wantedA_some (ops : Array Oper) (dst : Option Tmp) (op : Op) (ty : TypeId) (pos : String) (after : Array Edge) (j : Nat) (w : Bool) (Γ : Nat → AV) : wantedA ops ⟨dst, op, ty, pos, after, some (j, w)⟩ Γ =
    match (ops[j]?).bind (·.dst) with
    | none => some false
    | some d => match Γ d with
      | .d (.b x) => some (x == w)
      | .un => some false
      | _ => none := rfl
theorem Γ0_get (args : List D) (N t : Nat) : Γ0 args N t = match args[t]? with | some d => inj1 d | none => .un := by unfold Γ0; cases args[t]? <;> simp

theorem okHead_encM (m : List Nat) (f : Nat → D) : okHead 1 (m.map fun x => [f x]) = true := by cases m <;> rfl

end Go.Am
