/- The run while workers work: to the place behind Wait, on every tape. No condition. -/
import Derived.Test.YtdgdlndhaecliaaGreatP4
import Derived.ProofKit
import Derived.OpenShut
import Derived.Test.YtdgdlndhaecliaaGreatP3
import Derived.Laws.Bits64b
import Derived.Test.YtdgdlndhaecliaaGreatP1
import Derived.Conc.Beside
import Derived.Conc.QuitsD
import Derived.Conc.WgGenLone
import Derived.Conc.WgGenWait
import Derived.Conc.WgArith
import Derived.Conc.CrowdRun
set_option linter.unusedSectionVars false
set_option linter.unusedVariables false
set_option linter.unusedSimpArgs false
section
open List renaming map_map→ζ,mapM_map→ξ
open Go Go.Am Go.Proofs
namespace Go.Am
open Go.ChangeShapes Go.WideShapes Go.ChangeAt Go.RowKit
theorem cell_ltO {w:World} {a:Addr} {v:Value} (h:w.cell? a=some v):a.block<w.heap.size:=by
  unfold World.cell? at h
  cases hb:w.heap[a.block]? with
  | none=>rw [hb] at h; cases h
  | some o=>exact (Array.getElem?_eq_some_iff.1 hb).1
theorem listOf {α:Type} {Q:Nat→α→Prop}:∀ {n:Nat},(∀ i,i<n→∃ y,Q i y)→∃ l:List α,l.length=n∧∀ (i:Nat) (y:α),l[i]? = some y→Q i y
  | 0,_=>⟨[],rfl,fun i y h=>by simp at h⟩
  | n+1,h=>by
    obtain ⟨l,hl,hq⟩:=listOf (n:=n) fun i hi=>h i (Nat.lt_succ_of_lt hi)
    obtain ⟨y,hy⟩:=h n (Nat.lt_succ_self n)
    refine ⟨l++[y],by simp [hl],fun i z hz=>?_⟩
    rcases Nat.lt_or_ge i l.length with h1 | h1
    · rw [List.getElem?_append_left h1] at hz; exact hq i z hz
    · rw [List.getElem?_append_right h1] at hz
      have h2:i - l.length=0:=by
        rcases Nat.eq_zero_or_pos (i - l.length) with h3 | h3
        · exact h3
        · rw [List.getElem?_eq_none (by simp; omega)] at hz; cases hz
      rw [h2] at hz
      simp at hz
      subst hz
      rwa [show i=n by omega]
theorem cells_get {w:World} {n:Nat} {a:Addr} {cs:List Value} (h:w.cells? 0 a n=some cs):∀ k,k<n→w.cell? (a.add k)=cs[k]? := by
  intro k hk
  unfold World.cells? at h
  rw [if_pos (Nat.zero_le _)] at h
  have:=mapM_some_get h k k (by simp [hk])
  exact this
theorem openSlice {α:Type} {P:Program} {H:Type} {enc:TypeId × Value→H} {w:World} {sp:Nat→Bool} {held:Bool} {t e:TypeId} {cs:List Value} {x:DataW H × List MemPlace} {fuel:Nat} (ht:P.underlying t=some (.slice e)) (hc:0<P.cellsOf e) (E:α→List D) (good:α→Prop)
    (hE:∀ (fuel:Nat) (cs:List Value) (x:DataW H × List MemPlace),DataW.trod enc P w 0 sp held fuel e cs=some x→∃ y:α,good y∧(E y).length=P.cellsOf e∧∀ (k:Nat) (c:D) (v:Value),(E y)[k]? = some c→cs[k]? = some v→VD (fun b=>b<w.heap.size) w c v)
    (hf:DataW.trod enc P w 0 sp held fuel t cs=some x):∃ (v:Value) (l:List α),cs=[v]∧VD (fun b=>b<w.heap.size) w (.sl (l.map E)) v∧(∀ y∈l,good y)∧l.length≤9223372036854775807:=by
  rcases DataW.trod_slice ht hf with ⟨hcs,_⟩ | ⟨a,len,cap,elems,rest,n,_,hcs,_,_,hlc,hcm,hel,hEl,_⟩
  · exact ⟨_,[],hcs,.sl0 _ _,(fun p hp=>by cases hp),Nat.zero_le _⟩
  · have each:∀ i,i<len→∃ y:α,good y∧(E y).length=P.cellsOf e∧∀ (k:Nat),k<P.cellsOf e→∃ v,w.cell? (a.add (i * P.cellsOf e+k))=some v∧∀ c:D,(E y)[k]? = some c→VD (fun b=>b<w.heap.size) w c v:=by
      intro i hi
      have h1:=hEl i hi
      rw [List.getElem?_eq_getElem (by omega)] at h1
      obtain ⟨vs,h2,h3⟩:=Option.bind_eq_some_iff.1 h1
      obtain ⟨y,g,hy,hv⟩:=hE _ _ _ h3
      refine ⟨y,g,hy,fun k hk=>?_⟩
      have h4:=cells_get h2 k hk
      rw [add_add] at h4
      have h5:k<vs.length:=by
        unfold World.cells? at h2
        rw [if_pos (Nat.zero_le _)] at h2
        have:=mapM_some_length h2
        simp at this; omega
      rw [List.getElem?_eq_getElem h5] at h4
      exact ⟨_,h4,fun c hc=>hv k c _ hc (List.getElem?_eq_getElem h5)⟩
    obtain ⟨l,hl,hq⟩:=listOf each
    have hgood:∀ y∈l,good y:=fun y hy=>by
      obtain ⟨i,hi,rfl⟩:=List.mem_iff_getElem.1 hy
      exact (hq i _ (List.getElem?_eq_getElem hi)).1
    refine ⟨_,l,hcs,?_,hgood,by rw [hl]; exact Nat.le_trans hlc hcm⟩
    rcases Nat.eq_zero_or_pos len with h0 | hpos
    · have:l=[]:=List.eq_nil_of_length_eq_zero (by omega)
      subst this; subst h0; exact .sl0 _ _
    · have hab:a.block<w.heap.size:=by
        obtain ⟨y,_,_,hy⟩:=each 0 hpos
        obtain ⟨v,hv,_⟩:=hy 0 hc
        have:=cell_ltO hv
        rwa [block_add] at this
      refine .sl _ a len cap (P.cellsOf e) (fun j=>(w.cell? (a.add j)).getD undef) (by simp [hl]) hlc (fun cs hcs=>?_) hab (fun j hj=>?_) (fun j k cs c hj hk=>?_)
      · obtain ⟨y,hy,rfl⟩:=List.mem_map.1 hcs
        obtain ⟨i,hi,rfl⟩:=List.mem_iff_getElem.1 hy
        exact (hq i _ (List.getElem?_eq_getElem hi)).2.1
      · have hd:j / P.cellsOf e<len:=Nat.div_lt_of_lt_mul (by rwa [Nat.mul_comm] at hj)
        obtain ⟨y,_,_,hy⟩:=each _ hd
        obtain ⟨v,hv,_⟩:=hy (j % P.cellsOf e) (Nat.mod_lt _ hc)
        rw [Nat.mul_comm,Nat.div_add_mod] at hv
        simp [hv]
      · rw [List.getElem?_map,Option.map_eq_some_iff] at hj
        obtain ⟨y,hy,rfl⟩:=hj
        obtain ⟨_,h6,h7⟩:=hq j y hy
        obtain ⟨v,hv,hvc⟩:=h7 k (by rw [← h6]; exact (List.getElem?_eq_some_iff.1 hk).1)
        simp only [hv,Option.getD_some]
        exact hvc c hk
end Go.Am
end
section
open List renaming map_map→ζ,mapM_map→ξ
open Go Go.Am Go.Proofs
namespace Go.Am
theorem wf_u8z {n:Int} (h:(Lit.int .u8 n).wf=true):0≤n∧n≤255:=by
  have h1:IntKind.u8.min=0:=rfl
  have h2:IntKind.u8.max=255:=rfl
  simp only [Lit.wf,Bool.and_eq_true,decide_eq_true_eq] at h
  omega
theorem openLimbs2 {P:Program} {H:Type} {enc:TypeId × Value→H} {w:World} {sp:Nat→Bool} {held:Bool} {t e:TypeId} {cs:List Value} {x:DataW H × List MemPlace} {fuel:Nat} (ht:P.underlying t=some (.slice e)) (he:P.underlying e=some (.int .u32)) (ce:P.cellsOf e=1)
    (hf:DataW.trod enc P w 0 sp held fuel t cs=some x):∃ (v:Value) (m:List Nat),cs=[v]∧VD (fun b=>b<w.heap.size) w (encM m) v∧Lim m∧m.length≤9223372036854775807:=by
  obtain ⟨v,m,h1,h2,h3,h4⟩:=openSlice ht (by omega) (fun n:Nat=>[D.i .u32 (n:Int)]) (fun n=>n<4294967296) (fun fuel cs x h=>by
    obtain ⟨a,q1,_,w1⟩:=DataW.trod_int he h
    subst q1
    have hmin:IntKind.u32.min=0:=rfl
    have hmax:IntKind.u32.max=4294967295:=rfl
    simp only [Lit.wf,Bool.and_eq_true,decide_eq_true_eq] at w1
    refine ⟨a.toNat,by omega,by simp [ce],fun k c v hk hv=>?_⟩
    rcases k with _ | k
    · simp at hk hv
      subst hk; subst hv
      rw [show max a 0=a by omega]
      exact .i _ _
    · simp at hk) hf
  exact ⟨v,m,h1,h2,h3,h4⟩
theorem ownZ:ownKnob Tryz.prog.godebug=none:=by kernel_rfl
theorem laidZ:laidOutB Tryz.prog=true:=by kernel_rfl
theorem zU32:Tryz.prog.cellsOf 89=1:=by kernel_rfl
def dnL (n m:Nat):List (List D):=(List.range (n - m)).map fun k=>[.i .u64 ((n - 1 - k:Nat):Int)]
theorem dnL_len (n m:Nat):(dnL n m).length=n - m:=by simp [dnL]
theorem dnL_at {n m k:Nat} (h:k<n - m):(dnL n m)[k]? = some [.i .u64 ((n - 1 - k:Nat):Int)]:=by
  simp [dnL,h]
set_option maxHeartbeats 8000000 in
set_option maxRecDepth 10000 in
theorem downSeq [M:Mch Tryz.prog] (n m:Nat) (h:m<n) (hn:n≤2147483648):SeqSpec Tryz.prog 200 [.pt [.i .u64 n]] (dnL n m):=by
  refine seq_of (N:=15) follows_mixed Tryz.func200 rfl rfl rfl (by kernel_rfl) (by kernel_rfl) (by simp) fun l=>?_
  refine awpY_seqL (by kernel_rfl) ?_
  simp [-ζ,-ξ,↓KW,↓luP_succ,↓o1_makeFunc,↓o1_index,↓o1_callV]
  have hmin:(if (2147483648:Int)<(n:Int) then (2147483648:Int) else (n:Int))=n:=by rw [if_neg (by omega)]
  rw [hmin]
  refine awpY_block ?_
  refine awpY_loop (τ:=Nat) (by kernel_rfl) (fun k=>k<n - m) (fun k=>StL [(0,.d (.lit (.func (.yield l) #[] #[]))),(3,.d (.i .u64 ((n - k:Nat):Int)))] none []) (fun k=>k) (fun k=>n - k) 0 (by omega) rfl ?_ ?_
  · refine wkQ [] ?_ ?_
    · simp [-ζ,upd,inj1,Γ0]
    · simp [-ζ,upd,inj1,Γ0]
  · intro k hk
    have h1:0<n - k:=by omega
    have h2:IntKind.u64.wrap (((n - k:Nat):Int) - 1)=((n - 1 - k:Nat):Int):=by
      rw [show (((n - k:Nat):Int) - 1)=((n - 1 - k:Nat):Int) from by omega]
      exact wrap_u64 (by omega) (by omega)
    refine awpY_seqL (by kernel_rfl) ?_
    simp [-ζ,-ξ,↓KW,↓luP_succ,↓o1_makeFunc,↓o1_index,↓o1_callV,h1]
    refine awpY_seq (P:=Tryz.prog) ?_
    refine awpY_block ?_
    refine awpY_seq ?_
    refine awpY_yield (P:=Tryz.prog) (by kernel_rfl) rfl ?_
    simp [-ζ,-ξ,↓KW,↓luP_succ,↓o1_makeFunc,↓o1_index,↓o1_callV,h1,h2]
    have hnk:n - k - 1=n - 1 - k:=by omega
    refine yO_intro (dd:=[.i .u64 ((n - 1 - k:Nat):Int)]) (l2:=[]) (by rfl) (by rfl) (dnL_at hk) (by rfl) ?_
    rw [dnL_len]
    by_cases hl:k+1=n - m
    · have e1:decide (k+1≠n - m)=false:=by simp [hl]
      rw [e1]
      simp [-ζ,-ξ,↓KW,↓luP_succ,↓o1_makeFunc,↓o1_index,↓o1_callV,used,fin]
      refine awpY_plain _ (by kernel_rfl) ?_
      simp [-ζ,-ξ,↓KW,↓luP_succ,↓o1_makeFunc,↓o1_index,↓o1_callV,dnL_len,hl]
      exact ⟨_,rfl⟩
    · have e1:decide (k+1≠n - m)=true:=by simp [hl]
      have e2:n - (k+1)=n - 1 - k:=by omega
      rw [e1]
      simp [-ζ,-ξ,↓KW,↓luP_succ,↓o1_makeFunc,↓o1_index,↓o1_callV,used,fin]
      refine awpY_plain _ (by kernel_rfl) ?_
      simp [-ζ,-ξ,↓KW,↓luP_succ,↓o1_makeFunc,↓o1_index,↓o1_callV]
      refine awpY_plain _ (by kernel_rfl) ?_
      simp [-ζ,-ξ,↓KW,↓luP_succ,↓o1_makeFunc,↓o1_index,↓o1_callV,h2]
      refine ⟨k+1,by omega,by show n - (k+1)<n - k; omega,rfl,wkQ [] ?_ ?_⟩ <;> simp [-ζ,upd,inj1,Γ0,e2]
theorem downSpec [M:Mch Tryz.prog] (n:Nat):Spec Tryz.prog 190 [.i .u64 n] (.fn 200 [.pt [.i .u64 n]]):=by
  refine specQ (N:=4) Tryz.func190 ?_
  simp [-ζ,-ξ,↓KW,↓luP_succ,↓o1_makeFunc,↓o1_index,↓o1_callV]
set_option maxHeartbeats 8000000 in
set_option maxRecDepth 10000 in
theorem firstSpec [M:Mch Tryz.prog] (n m:Nat) (h:m<n) (hn:n≤2147483648) (hp:∀ v:Nat,m≤v→v<n→Spec Tryz.prog 52 [.i .u64 v] (.b (decide (v=m)))) :
    Spec Tryz.prog 189 [.fn 200 [.pt [.i .u64 n]]] (.i .u64 m):=by
  refine spec_ofR (N:=9) follows_mixed Tryz.func189 rfl rfl rfl (by kernel_rfl) (by kernel_rfl) (by simp) ?_
  refine awpR_seqL (by kernel_rfl) ?_
  simp [-ζ,-ξ,↓KW,↓luP_succ,↓o1_makeFunc,↓o1_index,↓o1_callV]
  refine awpR_seq ?_
  refine awpR_seqL (by kernel_rfl) ?_
  simp [-ζ,-ξ,↓KW,↓luP_succ,↓o1_makeFunc,↓o1_index,↓o1_callV]
  refine awpR_block ?_
  refine awpR_range0 (dnL n m) (fun k=>StL [(2,.ptr 1 0)] none [.cells 51 [.d (.i .u64 (if k<n - m then 0 else m))]]) [3,5,6,7,8] .ret .ret (.inl rfl) (gf:=200) (caps:=[.pt [.i .u64 n]]) (by rfl) (by rfl) (by rfl) (downSeq n m h hn) ?_ (by kernel_rfl) (by rw [dnL_len]; omega) ?_ ?_ ?_
  · rw [if_pos (by omega)]
    refine wkQ [1] ?_ ?_ <;> simp [-ζ,upd,inj1,Γ0]
  · intro k x hk hx
    rw [dnL_len] at hk
    rw [dnL_at (by omega)] at hx
    injection hx with hx; subst hx
    refine ⟨rfl,?_⟩
    have hP:=hp (n - 1 - k) (by omega) (by omega)
    rw [decide_eq_false (by omega)] at hP
    rw [if_pos (by omega),if_pos (by omega)]
    show AWP _ _ ⟨upd _ 5 (.d (.i .u64 ((n - 1 - k:Nat):Int))),_,_⟩ _
    simp [-ζ,-ξ,↓KW,↓luP_succ,↓o1_makeFunc,↓o1_index,↓o1_callV]
    refine callQ hP ?_
    simp [-ζ,-ξ,↓KW,↓luP_succ,↓o1_makeFunc,↓o1_index,↓o1_callV]
    refine wkQ [1] ?_ ?_ <;> simp [-ζ,upd,inj1,Γ0]
  · intro k x hk hx
    rw [dnL_len] at hk
    rw [dnL_at (by omega)] at hx
    injection hx with hx; subst hx
    refine ⟨rfl,?_⟩
    have hP:=hp (n - 1 - k) (by omega) (by omega)
    have hm:n - 1 - k=m:=by omega
    rw [hm,decide_eq_true rfl] at hP
    rw [if_pos (by omega),if_neg (by omega),hm]
    show AWP _ _ ⟨upd _ 5 (.d (.i .u64 (m:Int))),_,_⟩ _
    simp [-ζ,-ξ,↓KW,↓luP_succ,↓o1_makeFunc,↓o1_index,↓o1_callV]
    refine callQ hP ?_
    simp [-ζ,-ξ,↓KW,↓luP_succ,↓o1_makeFunc,↓o1_index,↓o1_callV]
    refine wkQ [1] ?_ ?_ <;> simp [-ζ,upd,inj1,Γ0]
  · rw [dnL_len,if_neg (by omega)]
    simp [-ζ,-ξ,↓KW,↓luP_succ,↓o1_makeFunc,↓o1_index,↓o1_callV]
theorem beforeSpec [M:Mch Tryz.prog] (n m:Nat) (h:m<n) (hn:n≤2147483648) (hp:∀ v:Nat,m≤v→v<n→Spec Tryz.prog 52 [.i .u64 v] (.b (decide (v=m)))) :
    Spec Tryz.prog 163 [.i .u64 n] (.i .u64 m):=by
  refine specQ (N:=6) Tryz.func163 ?_
  simp [-ζ,-ξ,↓KW,↓luP_succ,↓o1_makeFunc,↓o1_index,↓o1_callV]
  refine callQ (downSpec n) ?_
  simp [-ζ,-ξ,↓KW,↓luP_succ,↓o1_makeFunc,↓o1_index,↓o1_callV]
  refine callQ (firstSpec n m h hn hp) ?_
  simp [-ζ,-ξ,↓KW,↓luP_succ,↓o1_makeFunc,↓o1_index,↓o1_callV]
def Desc [M:Mch Tryz.prog]:Nat→List Nat→Prop
  | _,[]=>True
  | n,p::l=>0<p∧p<2147483648∧Spec Tryz.prog 163 [.i .u64 n] (.i .u64 p)∧Desc p l
def psL (ps:List Nat):List (List D):=ps.map fun (p:Nat)=>[.i .u64 (p:Int)]
theorem Desc.at [M:Mch Tryz.prog]:∀ {n:Nat} {ps:List Nat} {k p q:Nat},Desc n ps→ps[k]? = some p→ps[k+1]? = some q→Spec Tryz.prog 163 [.i .u64 p] (.i .u64 q)
  | n,[],k,p,q,_,h,_=>by simp at h
  | n,x::l,0,p,q,hd,h,h2=>by
    simp only [List.getElem?_cons_zero,Option.some.injEq] at h; subst h
    simp only [List.getElem?_cons_succ] at h2
    cases l with
    | nil=>simp at h2
    | cons y l=>simp only [List.getElem?_cons_zero,Option.some.injEq] at h2; subst h2; exact hd.2.2.2.2.2.1
  | n,x::l,k+1,p,q,hd,h,h2=>Desc.at (k:=k) hd.2.2.2 (by simpa using h) (by simpa using h2)
theorem Desc.pos [M:Mch Tryz.prog]:∀ {n:Nat} {ps:List Nat} {k p:Nat},Desc n ps→ps[k]? = some p→0<p∧p<2147483648
  | n,[],k,p,_,h=>by simp at h
  | n,x::l,0,p,hd,h=>by
    simp only [List.getElem?_cons_zero,Option.some.injEq] at h; subst h; exact ⟨hd.1,hd.2.1⟩
  | n,x::l,k+1,p,hd,h=>Desc.pos (k:=k) hd.2.2.2 (by simpa using h)
set_option maxHeartbeats 8000000 in
set_option maxRecDepth 10000 in
theorem belowSeq [M:Mch Tryz.prog] (n p0:Nat) (ps:List Nat) (hd:Desc n (p0::ps)):SeqSpec Tryz.prog 162 [.pt [.i .u64 n]] (psL (p0::ps)):=by
  refine seq_of (N:=14) follows_mixed Tryz.func162 rfl rfl rfl (by kernel_rfl) (by kernel_rfl) (by simp) fun l=>?_
  refine awpY_seqL (by kernel_rfl) ?_
  simp [-ζ,-ξ,↓KW,↓luP_succ,↓o1_makeFunc,↓o1_index,↓o1_callV]
  refine callQ hd.2.2.1 ?_
  simp [-ζ,-ξ,↓KW,↓luP_succ,↓o1_makeFunc,↓o1_index,↓o1_callV]
  refine awpY_block ?_
  refine awpY_loop (τ:=Nat × Nat) (by kernel_rfl) (fun x=>(p0::ps)[x.1]? = some x.2) (fun x=>StL [(0,.d (.lit (.func (.yield l) #[] #[]))),(3,.d (.i .u64 (x.2:Int)))] none []) (fun x=>x.1) (fun x=>(p0::ps).length - x.1) (0,p0) (by rfl) rfl ?_ ?_
  · refine wkQ [] ?_ ?_
    · simp [-ζ,upd,inj1,Γ0]
    · simp [-ζ,upd,inj1,Γ0]
  · rintro ⟨k,p⟩ hk
    simp only at hk ⊢
    obtain ⟨hp0,hp1⟩:=Desc.pos hd hk
    have hlt:=(List.getElem?_eq_some_iff.1 hk).1
    have hx:(psL (p0::ps))[k]? = some [.i .u64 (p:Int)]:=by
      unfold psL; rw [List.getElem?_map,hk]; rfl
    have hlen:(psL (p0::ps)).length=(p0::ps).length:=by simp [psL]
    generalize hL:(p0::ps)=L at *
    refine awpY_seqL (by kernel_rfl) ?_
    simp [-ζ,-ξ,↓KW,↓luP_succ,↓o1_makeFunc,↓o1_index,↓o1_callV,hp0]
    refine awpY_seq (P:=Tryz.prog) ?_
    refine awpY_block ?_
    refine awpY_seq ?_
    refine awpY_yield (P:=Tryz.prog) (by kernel_rfl) rfl ?_
    simp [-ζ,-ξ,↓KW,↓luP_succ,↓o1_makeFunc,↓o1_index,↓o1_callV,hp0]
    refine yO_intro (dd:=[.i .u64 (p:Int)]) (l2:=[]) (by rfl) (by rfl) hx (by rfl) ?_
    rw [hlen]
    by_cases hl:k+1=L.length
    · have e1:decide (k+1≠L.length)=false:=by simp [hl]
      rw [e1]
      simp [-ζ,-ξ,↓KW,↓luP_succ,↓o1_makeFunc,↓o1_index,↓o1_callV,used,fin]
      refine awpY_plain _ (by kernel_rfl) ?_
      simp [-ζ,-ξ,↓KW,↓luP_succ,↓o1_makeFunc,↓o1_index,↓o1_callV,hlen,hl]
      exact ⟨_,rfl⟩
    · have e1:decide (k+1≠L.length)=true:=by simp [hl]
      rw [e1]
      obtain ⟨q,hq⟩:∃ q,L[k+1]? = some q:=⟨_,List.getElem?_eq_getElem (by omega)⟩
      have hB:=Desc.at hd hk hq
      simp [-ζ,-ξ,↓KW,↓luP_succ,↓o1_makeFunc,↓o1_index,↓o1_callV,used,fin]
      refine awpY_plain _ (by kernel_rfl) ?_
      simp [-ζ,-ξ,↓KW,↓luP_succ,↓o1_makeFunc,↓o1_index,↓o1_callV]
      refine awpY_plain _ (by kernel_rfl) ?_
      simp [-ζ,-ξ,↓KW,↓luP_succ,↓o1_makeFunc,↓o1_index,↓o1_callV]
      refine callQ hB ?_
      simp [-ζ,-ξ,↓KW,↓luP_succ,↓o1_makeFunc,↓o1_index,↓o1_callV]
      refine ⟨(k+1,q),hq,by show L.length - (k+1)<L.length - k; omega,rfl,wkQ [] ?_ ?_⟩ <;> simp [-ζ,upd,inj1,Γ0]
theorem belowSpec [M:Mch Tryz.prog] (n:Nat):Spec Tryz.prog 102 [.i .u64 n] (.fn 162 [.pt [.i .u64 n]]):=by
  refine specQ (N:=4) Tryz.func102 ?_
  simp [-ζ,-ξ,↓KW,↓luP_succ,↓o1_makeFunc,↓o1_index,↓o1_callV]
theorem app_boundU {n:Nat} (h:n≤2147483648):(n+1) * 8≤140737488355328∧n+1≤1099511627776∧(n+1+1) * 8≤140737488355328∧n+1+1≤1099511627776:=by
  refine ⟨by omega,by omega,by omega,by omega⟩
def encU (l:List Nat):D:=.sl (l.map fun (p:Nat)=>[.i .u64 (p:Int)])
def dU (l:List Nat):List D:=l.map fun (p:Nat)=>.i .u64 (p:Int)
theorem dU_len (l:List Nat):(dU l).length=l.length:=by simp [dU]
theorem dU_snoc (x:Nat) (a b:List Nat):dU (x::(a++b))=dU (x::a)++dU b:=by simp [dU]
theorem dU_one (x:Nat):dU [x]=[.i .u64 (x:Int)]:=rfl
theorem chunk_dU {l:List Nat} {n:Nat} (h:l.length=n):chunk 1 n (dU l)=l.map fun (p:Nat)=>[D.i .u64 (p:Int)]:=by
  rw [chunk_one _ _ (by rw [dU_len]; exact h.symm)]; simp [dU]
theorem dU_take_all {l:List Nat} {n:Nat} (h:l.length=n):List.take n ((dU l).map AV.d)=(dU l).map AV.d:=List.take_of_length_le (by simp [dU_len,h])
theorem subL_own_iff {H H':Hp} {ρ:Nat→Nat} {a o l s b o' l' s':Nat}:SubL H H' ρ (.own a o l s) (.own b o' l' s')↔(a=ρ b∧o=o'∧l=l'∧s=s'∧(H' b).isSome=true):=Iff.rfl
def prS (n:Int):List Nat→St
  | []=>StL [(3,.ptr 1 0),(5,.ptr 2 0)] none [.cells 3 [.d (.i .i64 n)],.cells 46 [.nil]]
  | x::l=>StL [(3,.ptr 1 0),(5,.ptr 2 0)] none [.cells 3 [.d (.i .i64 n)],.cells 46 [.own 3 0 (l.length+1) 1],.cells 51 ((dU (x::l)).map .d)]
set_option maxHeartbeats 8000000 in
set_option maxRecDepth 10000 in
theorem primesSpec [M:Mch Tryz.prog] (n p0:Nat) (ps:List Nat) (hd:Desc n (p0::ps)) (hl:ps.length≤1000000) :
    Spec Tryz.prog 57 [.i .u64 n,.i .i64 ((ps.length+1:Nat):Int)] (encU (p0::ps)):=by
  have hx0:∀ k:Nat,(psL (p0::ps))[k]? = ((p0::ps)[k]?).map (fun (p:Nat)=>[D.i .u64 (p:Int)]):=fun k=>by simp only [psL,List.getElem?_map]
  have hlen:(psL (p0::ps)).length=ps.length+1:=by simp [psL]
  have hseq:=belowSeq n p0 ps hd
  obtain ⟨K,hK⟩:∃ K,K=ps.length+1:=⟨_,rfl⟩
  rw [← hK] at hlen ⊢
  have hLl:(p0::ps).length=K:=by rw [hK]; rfl
  generalize hL:p0::ps=L at hx0 hlen hseq hLl hd ⊢
  have hK0:0<K:=by omega
  have hK1:¬ (K=0):=by omega
  refine spec_ofR (N:=22) follows_mixed Tryz.func57 rfl rfl rfl (by kernel_rfl) (by kernel_rfl) (by simp) ?_
  refine awpR_seqL (by kernel_rfl) ?_
  simp [-ζ,-ξ,↓KW,↓luP_succ,↓o1_makeFunc,↓o1_index,↓o1_callV]
  refine awpR_scope ?_
  refine awpR_seqL (by kernel_rfl) ?_
  simp [-ζ,-ξ,↓KW,↓luP_succ,↓o1_makeFunc,↓o1_index,↓o1_callV,hK1]
  refine awpR_seqL (by kernel_rfl) ?_
  simp [-ζ,-ξ,↓KW,↓luP_succ,↓o1_makeFunc,↓o1_index,↓o1_callV]
  refine awpR_seqL (by kernel_rfl) ?_
  simp [-ζ,-ξ,↓KW,↓luP_succ,↓o1_makeFunc,↓o1_index,↓o1_callV]
  refine awpR_seq (P:=Tryz.prog) ?_
  refine awpR_seqL (by kernel_rfl) ?_
  simp [-ζ,-ξ,↓KW,↓luP_succ,↓o1_makeFunc,↓o1_index,↓o1_callV]
  refine callQ (belowSpec n) ?_
  simp [-ζ,-ξ,↓KW,↓luP_succ,↓o1_makeFunc,↓o1_index,↓o1_callV]
  refine awpR_block ?_
  refine awpR_range0 (psL L) (fun k=>prS K (L.take k)) [6,11,12,13,14,15,16,17,18,19,20] (.exit 0) (.exit 0) (.inr ⟨0,rfl⟩) (gf:=162) (caps:=[.pt [.i .u64 n]]) (by rfl) (by rfl) (by rfl) hseq ?_ (by kernel_rfl) (by rw [hlen]; omega) ?_ ?_ ?_
  · rw [List.take_zero]
    refine wkQ [1,2] ?_ ?_ <;> simp [-ζ,upd,inj1,Γ0]
  · intro k x hk hx
    rw [hlen] at hk
    rw [hx0,Option.map_eq_some_iff] at hx
    obtain ⟨p,hp,rfl⟩:=hx
    refine ⟨rfl,?_⟩
    rw [List.take_add_one,hp,Option.toList_some]
    have htl:(L.take k).length=k:=by rw [List.length_take]; omega
    generalize L.take k=T at htl ⊢
    cases T with
    | nil =>
      have hk0:k=0:=htl.symm
      have hKk:((1:Int) == (K:Int))=false:=by simp; omega
      show AWP _ _ ⟨upd (prS K []).Γ 11 (.d (.i .u64 (p:Int))),(prS K []).H,(prS K []).n⟩ _
      have hm1:(1:Nat)≤maxLen:=le_maxLen (by decide)
      simp [-ζ,-ξ,↓KW,↓luP_succ,↓o1_makeFunc,↓o1_index,↓o1_callV,prS,hKk,hm1]
      refine wkQ [1,2,4] ?_ ?_ <;> simp [-ζ,upd,inj1,Γ0,List.contains_cons,subL_own_iff,dU_snoc,dU_one]
    | cons y T =>
      have hk0:T.length+1=k:=htl
      have hKk:((T.length:Int)+1+1 == (K:Int))=false:=by simp; omega
      have hbb:=app_boundU (n:=T.length+1) (by omega)
      show AWP _ _ ⟨upd (prS K (y::T)).Γ 11 (.d (.i .u64 (p:Int))),(prS K (y::T)).H,(prS K (y::T)).n⟩ _
      simp [-ζ,-ξ,↓KW,↓luP_succ,↓o1_makeFunc,↓o1_index,↓o1_callV,prS,hKk,dU_len,hbb,le_maxLen]
      refine wkQ [1,2,5] ?_ ?_ <;> simp [-ζ,upd,inj1,Γ0,List.contains_cons,subL_own_iff,dU_snoc,dU_one]
  · intro k x hk hx
    rw [hlen] at hk
    rw [hx0,Option.map_eq_some_iff] at hx
    obtain ⟨p,hp,rfl⟩:=hx
    refine ⟨rfl,?_⟩
    rw [List.take_add_one,hp,Option.toList_some]
    have htl:(L.take k).length=k:=by rw [List.length_take]; omega
    generalize L.take k=T at htl ⊢
    cases T with
    | nil =>
      have hk0:k=0:=htl.symm
      have hKk:((1:Int) == (K:Int))=true:=by simp; omega
      show AWP _ _ ⟨upd (prS K []).Γ 11 (.d (.i .u64 (p:Int))),(prS K []).H,(prS K []).n⟩ _
      have hm1:(1:Nat)≤maxLen:=le_maxLen (by decide)
      simp [-ζ,-ξ,↓KW,↓luP_succ,↓o1_makeFunc,↓o1_index,↓o1_callV,prS,hKk,hm1]
      refine wkQ [1,2,4] ?_ ?_ <;> simp [-ζ,upd,inj1,Γ0,List.contains_cons,subL_own_iff,dU_snoc,dU_one]
    | cons y T =>
      have hk0:T.length+1=k:=htl
      have hKk:((T.length:Int)+1+1 == (K:Int))=true:=by simp; omega
      have hbb:=app_boundU (n:=T.length+1) (by omega)
      show AWP _ _ ⟨upd (prS K (y::T)).Γ 11 (.d (.i .u64 (p:Int))),(prS K (y::T)).H,(prS K (y::T)).n⟩ _
      simp [-ζ,-ξ,↓KW,↓luP_succ,↓o1_makeFunc,↓o1_index,↓o1_callV,prS,hKk,dU_len,hbb,le_maxLen]
      refine wkQ [1,2,5] ?_ ?_ <;> simp [-ζ,upd,inj1,Γ0,List.contains_cons,subL_own_iff,dU_snoc,dU_one]
  · rw [hlen,← hLl,List.take_length,← hL]
    simp [-ζ,-ξ,↓KW,↓luP_succ,↓o1_makeFunc,↓o1_index,↓o1_callV,prS]
    refine awpR_plain _ (by kernel_rfl) ?_
    have hln2:(p0::ps).length=ps.length+1:=rfl
    have hfl:=dU_len (p0::ps)
    rw [hln2] at hfl
    simp [-ζ,-ξ,↓KW,↓luP_succ,↓o1_makeFunc,↓o1_index,↓o1_callV,prS,encU,hfl,chunk_dU hln2,dU_take_all hln2]
set_option maxRecDepth 10000 in
theorem primes0Spec [M:Mch Tryz.prog] (n:Nat):Spec Tryz.prog 57 [.i .u64 n,.i .i64 0] (encU []):=by
  refine spec_ofR (N:=22) follows_mixed Tryz.func57 rfl rfl rfl (by kernel_rfl) (by kernel_rfl) (by simp) ?_
  refine awpR_seqL (by kernel_rfl) ?_
  simp [-ζ,-ξ,↓KW,↓luP_succ,↓o1_makeFunc,↓o1_index,↓o1_callV]
  refine awpR_scope ?_
  refine awpR_seqL (by kernel_rfl) ?_
  simp [-ζ,-ξ,↓KW,↓luP_succ,↓o1_makeFunc,↓o1_index,↓o1_callV,encU]
end Go.Am
end
section
open List renaming map_map→ζ,mapM_map→ξ
namespace Go.Am
open Go.Conc
open RowKit (Below)
section
variable {P:Program} [M:Mch P]
theorem ospec_cells {f N:Nat} {fn:Func} {c:Code} {h:AV} {o o':HO} {args:List D} (hf:P.funcs[f]? = some fn) (hb:fn.body=some c) (hname:(fn.name == "runtime.NumGoroutine")=false) (hN:fn.ntmps=N)
    (ha:args.length+1≤N) (hno':nohO o'=true)
    (hA:∀ (G:Ctx) (a:Act) (w:World),(∀ d,G.Z d=none)→SR G N [] (St1 h o args N) a w→WC P c (fun e a' w'=>∃ σ,((e=.normal∨e=.ret)∧resD P fn.results.toList σ=some (.tp [])∧σ.H 0=some o')∧SR G N [] σ a' w') a w):OSpec P f h o args o' (.tp []):=by
  intro A W vs b hAl hAb hbl hob hl hv0 hv
  have hn:¬ fn.name = "runtime.NumGoroutine" := by simpa using hname
  refine ⟨fun w=>by simp [callFunc,hf,hn,hb],?_⟩
  refine cx_of_wc hf hb ?_
  subst hN
  refine (WpR.plain P).okv fun hok=>?_
  have hsr:=SR1 (N:=fn.ntmps) hok hAl hAb hbl hob hl hv0 hv ha
  refine wc_mono (hA _ _ _ (fun _=>rfl) hsr) ?_
  rintro e a w0 ⟨σ,⟨he,hr,hH0⟩,hs0⟩
  have hend:a.defers=[]∧∀ w,Env w0 w→∃ v,runC P (results fn a.tmps) w=.ok v w∧∃ ob',Kept (·=b) W.heap.size W w∧w.heap[b]? = some ob' ∧
      (∀ cur e,W.heap[b]? = some (.cells cur e (0,0))→∃ cur',ob'=.cells cur' e (0,0)∧cur'.size=cur.size) ∧
      CR (fun k=>A k∨(W.heap.size≤k∧k<w.heap.size)) w (ι1 b) o' ob'∧VD (fun k=>A k∨(W.heap.size≤k∧k<w.heap.size)) w (.tp []) v:=by
   refine ⟨hs0.2.2.2.elim fun _ h=>h.elim fun _ h=>h.2.2.2.2.1,fun w henv=>?_⟩
   have hs:=hs0.env henv
   obtain ⟨_,_,_,F,ι,hR,hdom,hVs,_,hdf,hp⟩:=hs
   obtain ⟨v,hrun,hvd⟩:=run_results' hR hVs hr
   obtain ⟨b',hb'⟩:=(hdom 0).2 (by rw [hH0]; rfl)
   have hbb:=hp b' hb'
   simp only at hbb
   subst hbb
   obtain ⟨ob',hob',hcr⟩:=hR.obj 0 b' o' hb' hH0
   have hnF:¬ F b':=(hR.place 0 b' hb').2.2 (fun x=>x)
   have hFA:∀ k,F k→A k∨(W.heap.size≤k∧k<w.heap.size):=fun k hk=>by
     rcases hR.F_ok k hk with h | h | h
     · exact .inl h
     · simp only at h; subst h; exact (hnF hk).elim
     · exact .inr ⟨h,hR.F_lt k hk⟩
   refine ⟨v,hrun,ob',hR.kept,hob',fun cur e he=>?_,(CR_noh hno' hcr).step ⟨hFA,fun _ _=>rfl,fun _ _ h=>h,fun _ _ cur _ _ h=>⟨cur,h,rfl⟩⟩,?_⟩
   · obtain ⟨cur',h1,h2⟩:=hR.kept.shape b' cur e hbl he
     rw [hob'] at h1; injection h1 with h1
     exact ⟨cur',h1,h2⟩
   · cases hvd with | tp ds vs hl hh=>exact .tp _ _ hl fun k d v hk=>by simp at hk
  rcases he with rfl | rfl <;> exact hend
def runO2 (P:Program) (E:Kn) (fuel:Nat) (f:FuncId) (h:AV) (o:HO) (args:List D):Option (HO × D) :=
  match P.funcs[f]? with
  | none=>none
  | some fn=>match fn.body with
    | some c=>if fnOk P fn c && decide (args.length+1≤fn.ntmps) then match ex P E fuel c (St1 h o args fn.ntmps) with
      | some (e,σ)=>match σ.H 0,endD P fn (some (e,σ)) with
        | some o',some (.tp [])=>if nohO o' then some (o',.tp []) else none
        | _,_=>none
      | none=>none
      else none
    | _=>none
theorem runO2_sound {E:Kn} {fuel:Nat} (hm:P.follows .mixedOrders=true) (hE:KnOk P E) {f:FuncId} {h0:AV} {o o':HO} {args:List D} {r:D} (h:runO2 P E fuel f h0 o args=some (o',r)):OSpec P f h0 o args o' r:=by
  unfold runO2 at h
  split at h
  · cases h
  rename_i fn hfn
  split at h
  case h_2=>cases h
  rename_i c hc
  split at h
  case isFalse=>cases h
  rename_i hok
  simp only [fnOk,Bool.and_eq_true,Bool.not_eq_true',decide_eq_true_eq] at hok
  obtain ⟨⟨⟨h1,h2⟩,h3⟩,h4⟩:=hok
  split at h
  case h_2=>cases h
  rename_i e σ hex
  split at h
  case h_2=>cases h
  rename_i o1 hH hr
  split at h
  case isFalse=>cases h
  rename_i hfl
  injection h with h; injection h with e1 e2; subst e1; subst e2
  obtain ⟨he,hr3⟩:=endD_some hr
  refine ospec_cells hfn hc h3 rfl h4 hfl fun G a w hZ hs=>wc_mono (ex_sound hE hm hZ fuel c _ a w _ _ h1 h2 hex hs) ?_
  rintro e' a' w' ⟨rfl,hs'⟩
  exact ⟨σ,⟨he,hr3,hH⟩,hs'⟩
def runKc (P:Program) (E:Kn) (fuel:Nat):Nat→Kn
  | 0=>{ E with call:=fun _ _=>none,ocall:=fun _ _ _ _=>none }
  | n+1=>{ E with
      call:=fun f args=>match E.call f args with | some r=>some r | none=>run1 P (runKc P E fuel n) fuel f args
      ocall:=fun f h o args=>match E.ocall f h o args with | some r=>some r | none=>match o with
        | .cells _ _=>runO2 P (runKc P E fuel n) fuel f h o args
        | _=>runO1 P (runKc P E fuel n) fuel f h o args }
theorem runKc_ok {E:Kn} {fuel:Nat} (hm:P.follows .mixedOrders=true) (hE:KnOk P E):∀ n,KnOk P (runKc P E fuel n)
  | 0=>⟨(fun _ _ _ h=>by cases h),(fun _ _ _ _ _ _ h=>by cases h),hE.keys,hE.sorted⟩
  | n+1=>by
    have ih:=runKc_ok (fuel:=fuel) hm hE n
    refine ⟨fun f ds r h=>?_,fun f h0 o ds o' r h=>?_,hE.keys,hE.sorted⟩
    · unfold runKc at h
      simp only at h
      split at h
      · rename_i r' hr'; injection h with h; subst h; exact hE.call _ _ _ hr'
      · exact run1_sound hm ih h
    · unfold runKc at h
      simp only at h
      split at h
      · rename_i r' hr'; injection h with h; subst h; exact hE.ocall _ _ _ _ _ _ hr'
      · split at h
        · exact runO2_sound hm ih h
        · exact runO1_sound hm ih h
def E00:Kn:=⟨fun _ _=>none,fun _ _ _ _=>none,fun _=>none,fun _ _=>false⟩
end
end Go.Am
end
section
open List renaming map_map→ζ,mapM_map→ξ
open Go Go.Am Go.Proofs
namespace Go.Am
theorem remSpec [M:Mch Tryz.prog] (x p:Nat) (hp:0<p):Spec Tryz.prog 100 [.i .u64 x,.i .u64 p] (.i .u64 (x % p:Nat)):=by
  refine specQ (N:=10) Tryz.func100 ?_
  have h0:((p:Int) == 0)=false:=by simp; omega
  have ht:((x:Int).tmod (p:Int))=(x:Int) % (p:Int):=Int.tmod_eq_emod_of_nonneg (by omega)
  have h1:¬ p=0:=by omega
  simp [-ζ,-ξ,↓KW,h0,h1,ht]
theorem mulSpec [M:Mch Tryz.prog] (p a b:Nat) (hp:0<p) (hab:a * b<18446744073709551616):Spec Tryz.prog 89 [.i .u64 p,.i .u64 a,.i .u64 b] (.i .u64 (a * b % p:Nat)):=by
  refine specQ (N:=12) Tryz.func89 ?_
  have hw:IntKind.u64.wrap ((a:Int) * (b:Int))=((a * b:Nat):Int):=by rw [← Int.natCast_mul]; exact wrap_u64 (by omega) (by omega)
  have hR:=remSpec (a * b) p hp
  generalize a * b % p=r at *
  generalize a * b=z at *
  simp [-ζ,-ξ,↓KW,hw]
  refine callQ hR ?_
  simp [-ζ,-ξ,↓KW]
def powL (p:Nat):Nat→Nat→Nat→Nat→Nat
  | 0,r,_,_=>r
  | n+1,r,a,e=>if e=0 then r else powL p n (if e % 2=1 then r * a % p else r) (a * a % p) (e / 2)
theorem powL_zero (p n r a:Nat):powL p n r a 0=r:=by cases n <;> simp [powL]
set_option maxHeartbeats 4000000 in
set_option maxRecDepth 10000 in
theorem powSpec [M:Mch Tryz.prog] (p a e:Nat) (hp:0<p) (hp1:p≤2147483648) (ha:a≤2147483648) (he:e<18446744073709551616) :
    Spec Tryz.prog 99 [.i .u64 p,.i .u64 a,.i .u64 e] (.i .u64 (powL p 64 (1 % p) a e:Nat)):=by
  refine specQ (N:=26) Tryz.func99 ?_
  have hR:=remSpec 1 p hp
  simp [-ζ,-ξ,↓KW]
  refine callQ hR ?_
  simp [-ζ,-ξ,↓KW]
  have hm:∀ x:Nat,x % p≤2147483648:=fun x=>by have:=Nat.mod_lt x hp; omega
  have hmm:∀ x y:Nat,x≤2147483648→y≤2147483648→x * y<18446744073709551616:=fun x y h1 h2=>Nat.lt_of_le_of_lt (Nat.mul_le_mul h1 h2) (by decide)
  obtain ⟨R,hRR⟩:∃ R,powL p 64 (1 % p) a e=R:=⟨_,rfl⟩
  have hc1:((1:Int) % (p:Int))=((1 % p:Nat):Int):=by simp
  rw [hRR,hc1]
  have hr0:=hm 1
  generalize 1 % p=r0 at *
  refine loopP_intro (τ:={ x:Nat × Nat × Nat × Nat // powL p x.1 x.2.1 x.2.2.1 x.2.2.2=R∧x.2.2.2<2 ^ x.1∧x.1≤64∧x.2.1≤2147483648∧x.2.2.1≤2147483648 })
    (S:=fun x=>StL [(0,.d (.i .u64 p)),(1,.d (.i .u64 (x.1.2.2.1:Nat))),(2,.d (.i .u64 (x.1.2.2.2:Nat))),(7,.d (.i .u64 (x.1.2.1:Nat)))] none []) (m:=fun x=>x.1.1) ⟨(64,r0,a,e),hRR,by simpa using he,Nat.le_refl _,hr0,ha⟩ ?_ ?_
  · refine wkQ [] ?_ ?_ <;> simp [-ζ,upd,inj1,Γ0]
  · rintro ⟨⟨n,r,a,e⟩,h1,h2,h3,h4,h5⟩
    simp only at h1 h2 h3 h4 h5 ⊢
    rcases Nat.eq_zero_or_pos e with he0 | he0
    · subst he0
      rw [powL_zero] at h1
      subst h1
      simp [-ζ,-ξ,↓KW]
    · obtain ⟨n,rfl⟩:∃ k,n=k+1:=by
        cases n with
        | zero=>simp at h2; omega
        | succ n=>exact ⟨n,rfl⟩
      have hsh:shiftA .shr .u64 (e:Int) 1=some (.i .u64 ((e / 2:Nat):Int)):=by
        simp only [shiftA,IntKind.bits]
        rw [if_neg (by decide)]
        congr 2
        rw [show (2:Int) ^ (min (1:Int).toNat 64)=2 from by decide,Int.fdiv_eq_ediv_of_nonneg _ (by decide)]
        simp
      have heb:e<18446744073709551616:=Nat.lt_of_lt_of_le h2 (Nat.le_trans (Nat.pow_le_pow_right (by decide) h3) (by decide))
      have hbt:bits .and .u64 (e:Int) 1=((e % 2:Nat):Int):=by
        have:=bits_and_u64_nat e 1 heb (by decide)
        rw [Nat.and_one_is_mod] at this
        exact this
      have hn2:e / 2<2 ^ n:=by rw [Nat.pow_succ] at h2; omega
      unfold powL at h1
      rw [if_neg (by omega)] at h1
      have hM2:=mulSpec p a a hp (hmm a a h5 h5)
      have hm2:=hm (a * a)
      generalize a * a % p=a2 at *
      generalize e / 2=e2 at *
      by_cases hodd:e % 2=1
      · have hM1:=mulSpec p r a hp (hmm r a h4 h5)
        have hm1:=hm (r * a)
        rw [if_pos hodd] at h1
        generalize r * a % p=r2 at *
        rw [hodd] at hbt
        replace hbt:binA .and false (.d (.i .u64 (e:Int))) (.d (.i .u64 1))=some (.i .u64 1):=by show some (D.i .u64 (bits .and .u64 (e:Int) 1))=_; rw [hbt]; rfl
        simp [-ζ,-ξ,↓KW,he0,hbt]
        refine callQ hM1 ?_
        simp [-ζ,-ξ,↓KW]
        refine callQ hM2 ?_
        simp [-ζ,-ξ,↓KW,hsh]
        refine ⟨n,Nat.lt_succ_self _,r2,a2,e2,⟨h1,hn2,by omega,hm1,hm2⟩,.inr (wkQ [] ?_ ?_)⟩ <;> simp [-ζ,upd,inj1,Γ0]
      · have hz:e % 2=0:=by omega
        rw [if_neg hodd] at h1
        rw [hz] at hbt
        replace hbt:binA .and false (.d (.i .u64 (e:Int))) (.d (.i .u64 1))=some (.i .u64 0):=by show some (D.i .u64 (bits .and .u64 (e:Int) 1))=_; rw [hbt]; rfl
        simp [-ζ,-ξ,↓KW,he0,hbt]
        refine callQ hM2 ?_
        simp [-ζ,-ξ,↓KW,hsh]
        refine ⟨n,Nat.lt_succ_self _,r,a2,e2,⟨h1,hn2,by omega,h4,hm2⟩,.inr (wkQ [] ?_ ?_)⟩ <;> simp [-ζ,upd,inj1,Γ0]
def EPc (f:FuncId) (ds:List D):Option D :=
  if f=99 then match ds with
    | [.i .u64 p,.i .u64 a,.i .u64 e]=>if 0<p∧p≤2147483648∧0≤a∧a≤2147483648∧0≤e∧e<18446744073709551616 then some (.i .u64 (powL p.toNat 64 (1 % p.toNat) a.toNat e.toNat:Nat)) else none
    | _=>none
  else if f=89 then match ds with
    | [.i .u64 p,.i .u64 a,.i .u64 b]=>if 0<p∧0≤a∧0≤b∧a * b<18446744073709551616 then some (.i .u64 (a.toNat * b.toNat % p.toNat:Nat)) else none
    | _=>none
  else none
theorem EPc_ok [M:Mch Tryz.prog] {f:FuncId} {ds:List D} {r:D} (h:EPc f ds=some r):Spec Tryz.prog f ds r:=by
  unfold EPc at h
  split at h
  · rename_i hf; subst hf
    split at h
    · rename_i p a e
      split at h
      · rename_i hc
        injection h with h; subst h
        obtain ⟨h1,h2,h3,h4,h5,h6⟩:=hc
        have:=powSpec p.toNat a.toNat e.toNat (by omega) (by omega) (by omega) (by omega)
        rwa [Int.toNat_of_nonneg (by omega),Int.toNat_of_nonneg h3,Int.toNat_of_nonneg h5] at this
      · cases h
    · cases h
  · split at h
    · rename_i hf; subst hf
      split at h
      · rename_i p a b
        split at h
        · rename_i hc
          injection h with h; subst h
          obtain ⟨h1,h2,h3,h4⟩:=hc
          have:=mulSpec p.toNat a.toNat b.toNat (by omega) (by
            have:((a.toNat * b.toNat:Nat):Int)=a * b:=by rw [Int.natCast_mul,Int.toNat_of_nonneg h2,Int.toNat_of_nonneg h3]
            omega)
          rwa [Int.toNat_of_nonneg (by omega),Int.toNat_of_nonneg h2,Int.toNat_of_nonneg h3] at this
        · cases h
      · cases h
    · cases h
def EP:Kn:={ E00 with call:=EPc }
theorem EP_ok [M:Mch Tryz.prog]:KnOk Tryz.prog EP:=⟨fun f ds r h=>EPc_ok h,fun _ _ _ _ _ _ h=>by (cases h),fun _ _ h=>by (cases h),fun _ _ h=>by (cases h)⟩
noncomputable def prB (n:Nat):Nat:=match (runKc Tryz.prog EP 100 20).call 52 [.i .u64 n] with
  | some (.b true)=>1
  | some (.b false)=>2
  | _=>0
theorem prB_ok [M:Mch Tryz.prog] {n:Nat} {b:Bool} (h:prB n=if b then 1 else 2):Spec Tryz.prog 52 [.i .u64 n] (.b b):=by
  refine (runKc_ok (fuel:=100) follows_mixed EP_ok 20).call _ _ _ ?_
  unfold prB at h
  split at h
  · rename_i he; rw [he]; cases b <;> first | rfl | cases h
  · rename_i he; rw [he]; cases b <;> first | rfl | cases h
  · cases b <;> cases h
noncomputable def gapB (n m:Nat):Bool:=(List.range (n - m)).all fun k=>prB (m+k) == if k == 0 then 1 else 2
theorem before_of [M:Mch Tryz.prog] {n m:Nat} (h:m<n) (hn:n≤2147483648) (hg:gapB n m=true):Spec Tryz.prog 163 [.i .u64 n] (.i .u64 m):=by
  refine beforeSpec n m h hn fun v h1 h2=>prB_ok ?_
  have:=List.all_eq_true.1 hg (v - m) (List.mem_range.2 (by omega))
  rw [show m+(v - m)=v from by omega,beq_iff_eq] at this
  rw [this]
  by_cases hv:v=m
  · subst hv; simp
  · have:v - m≠0:=by omega
    simp [hv,this]
theorem gap0:gapB 2147483648 2147483647=true:=by kernel_rfl
theorem gap1:gapB 2147483647 2147483629=true:=by kernel_rfl
theorem gap2:gapB 2147483629 2147483587=true:=by kernel_rfl
theorem gap3:gapB 2147483587 2147483579=true:=by kernel_rfl
theorem gap4:gapB 2147483579 2147483563=true:=by kernel_rfl
theorem gap5:gapB 2147483563 2147483549=true:=by kernel_rfl
theorem gap6:gapB 2147483549 2147483543=true:=by kernel_rfl
theorem gap7:gapB 2147483543 2147483497=true:=by kernel_rfl
theorem gap8:gapB 2147483497 2147483489=true:=by kernel_rfl
theorem gap9:gapB 2147483489 2147483477=true:=by kernel_rfl
def P10:List Nat:=[2147483647,2147483629,2147483587,2147483579,2147483563,2147483549,2147483543,2147483497,2147483489,2147483477]
theorem desc10 [M:Mch Tryz.prog]:Desc 2147483648 P10 :=
  ⟨by decide,by decide,before_of (by decide) (by decide) gap0,by decide,by decide,before_of (by decide) (by decide) gap1,by decide,by decide,before_of (by decide) (by decide) gap2,by decide,by decide,before_of (by decide) (by decide) gap3,by decide,by decide,before_of (by decide) (by decide) gap4,by decide,by decide,before_of (by decide) (by decide) gap5,by decide,by decide,before_of (by decide) (by decide) gap6,by decide,by decide,before_of (by decide) (by decide) gap7,by decide,by decide,before_of (by decide) (by decide) gap8,by decide,by decide,before_of (by decide) (by decide) gap9,trivial⟩
theorem Desc.drop [M:Mch Tryz.prog]:∀ {k n:Nat} {l:List Nat},Desc n l→k<l.length→Desc (if k=0 then n else l[k - 1]!) (l.drop k)
  | 0,n,l,h,_=>h
  | k+1,n,[],h,hk=>by simp at hk
  | 1,n,x::l,h,hk=>h.2.2.2
  | k+2,n,x::l,h,hk=>by
    have:=Desc.drop (k:=k+1) h.2.2.2 (by simp only [List.length_cons] at hk; omega)
    simpa using this
theorem Desc.take [M:Mch Tryz.prog]:∀ {k n:Nat} {l:List Nat},Desc n l→Desc n (l.take k)
  | 0,n,l,h=>trivial
  | k+1,n,[],h=>trivial
  | k+1,n,x::l,h=>⟨h.1,h.2.1,h.2.2.1,Desc.take h.2.2.2⟩
theorem cmpL_zero (m n:Nat):cmpL (digs m) (digs n)=0↔m=n:=by
  unfold cmpL
  rw [lessL_digs,lessL_digs]
  by_cases h1:m<n
  · simp [h1]; omega
  · by_cases h2:n<m
    · simp [h1,h2]; omega
    · simp [h1,h2]; omega
theorem cmpL_bnd (a b:List Nat):-1≤cmpL a b∧cmpL a b≤1:=by
  unfold cmpL
  split
  · exact ⟨by decide,by decide⟩
  · split <;> exact ⟨by decide,by decide⟩
theorem cmpL_val (m n:Nat):cmpL (digs m) (digs n)=if m<n then -1 else if n<m then 1 else 0:=by
  unfold cmpL
  rw [lessL_digs,lessL_digs]
  by_cases h1:m<n
  · simp [h1]
  · by_cases h2:n<m
    · simp [h1,h2]
    · simp [h1,h2]
theorem sgn_val (x:Int):x.sign=if x<0 then -1 else if x=0 then 0 else 1:=by
  rcases Int.lt_trichotomy x 0 with h | h | h
  · rw [Int.sign_eq_neg_one_of_neg h,if_pos h]
  · subst h; rfl
  · rw [Int.sign_eq_one_of_pos h,if_neg (by omega),if_neg (by omega)]
theorem sgn_cmp {x y:Int} (hs:x.sign=y.sign):0<x.sign * cmpL (digs x.natAbs) (digs y.natAbs)↔y<x:=by
  rw [cmpL_val]
  rw [sgn_val,sgn_val] at hs
  rw [sgn_val]
  split at hs <;> (try split at hs) <;> (try split at hs) <;> (try split at hs) <;> simp_all <;> (try omega)
  all_goals (split <;> (try split) <;> omega)
theorem sgn_cmp2 {x y:Int} (hs:¬ x.sign=y.sign):0<cmpI x.sign y.sign↔y<x:=by
  unfold cmpI
  rw [sgn_val,sgn_val] at hs ⊢
  split at hs <;> (try split at hs) <;> (try split at hs) <;> (try split at hs) <;> simp_all <;> (try omega)
theorem intCmpS [M:Mch Tryz.prog] (x y:Int) (hx:Sz x) (hy:Sz y):∃ r:Int,Spec Tryz.prog 48 [encZ x,encZ y] (.i .i64 r)∧(0<r↔y<x):=by
  have hSx:=intSignZ x hx
  have hSy:=intSignZ y hy
  have hTx:=intTrim (digs x.natAbs) (Nat.le_trans hx (by decide))
  have hTy:=intTrim (digs y.natAbs) (Nat.le_trans hy (by decide))
  rw [strip_canon (canon_digs _)] at hTx hTy
  have hC:=intCompare (digs x.natAbs) (digs y.natAbs) (lim_digs _) (lim_digs _) (Nat.le_trans hx (by decide)) (Nat.le_trans hy (by decide))
  have hc0:=cmpL_zero x.natAbs y.natAbs
  have hcb:=cmpL_bnd (digs x.natAbs) (digs y.natAbs)
  have hI:=cmpInt x.sign y.sign
  by_cases hs:x.sign=y.sign
  · refine ⟨x.sign * cmpL (digs x.natAbs) (digs y.natAbs),?_,?_⟩
    rotate_left
    · exact sgn_cmp hs
    · refine specQ (N:=26) Tryz.func48 ?_
      have hne:((x.sign != y.sign):Bool)=false:=by simp [hs]
      have hsb:-1≤x.sign∧x.sign≤1:=by
        rcases Int.lt_trichotomy x 0 with h | h | h
        · rw [Int.sign_eq_neg_one_of_neg h]; decide
        · subst h; decide
        · rw [Int.sign_eq_one_of_pos h]; decide
      generalize cmpL (digs x.natAbs) (digs y.natAbs)=r at *
      generalize y.sign=sy at *
      generalize x.sign=sx at *
      have hw:IntKind.i64.wrap (sx * r)=sx * r:=by
        have h1:sx=-1∨sx=0∨sx=1:=by omega
        rcases h1 with rfl | rfl | rfl <;> exact wrapQ
      simp [-ζ,-ξ,↓KW,encZ_eq,cellsA_encM,one_encM,inj1_encM,inj_encM,kills_encM]
      refine callQ hSx ?_
      simp [-ζ,-ξ,↓KW,encZ_eq,cellsA_encM,one_encM,inj1_encM,inj_encM,kills_encM]
      refine callQ hSy ?_
      simp [-ζ,-ξ,↓KW,hne,cellsA_encM,one_encM,inj1_encM,inj_encM,kills_encM]
      refine callQ hTx ?_
      simp [-ζ,-ξ,↓KW,cellsA_encM,one_encM,inj1_encM,inj_encM,kills_encM]
      refine callQ hTy ?_
      simp [-ζ,-ξ,↓KW,cellsA_encM,one_encM,inj1_encM,inj_encM,kills_encM]
      refine callQ hC ?_
      simp [-ζ,-ξ,↓KW,hw,cellsA_encM,one_encM,inj1_encM,inj_encM,kills_encM]
  · refine ⟨cmpI x.sign y.sign,?_,?_⟩
    rotate_left
    · exact sgn_cmp2 hs
    · refine specQ (N:=26) Tryz.func48 ?_
      have hne:((x.sign != y.sign):Bool)=true:=by simpa using hs
      generalize y.sign=sy at *
      generalize x.sign=sx at *
      simp [-ζ,-ξ,↓KW,encZ_eq,cellsA_encM,one_encM,inj1_encM,inj_encM,kills_encM]
      refine callQ hSx ?_
      simp [-ζ,-ξ,↓KW,encZ_eq,cellsA_encM,one_encM,inj1_encM,inj_encM,kills_encM]
      refine callQ hSy ?_
      simp [-ζ,-ξ,↓KW,hne,cellsA_encM,one_encM,inj1_encM,inj_encM,kills_encM]
      refine callQ hI ?_
      simp [-ζ,-ξ,↓KW]
theorem r01NegB [M:Mch Tryz.prog] (x:Int) (hx:(digs x.natAbs).length≤549755813888):Spec Tryz.prog 104 [encZ x] (encZ (-x)):=by
  refine specQ (N:=9) Tryz.func104 ?_
  have la:=lim_digs x.natAbs
  have va:=val_digs x.natAbs
  have sx:=sg_natAbs x
  have ex:encZ x=.ag [.b (decide (x<0)),encM (digs x.natAbs)]:=rfl
  have hm:=r01Made (digs x.natAbs) (!decide (x<0)) (by omega)
  rw [made_encZ la,va] at hm
  have e:sg (!decide (x<0)) x.natAbs=-x:=by
    unfold sg; by_cases h:x<0 <;> simp [h] <;> omega
  rw [e] at hm
  rw [ex]
  generalize digs x.natAbs=a at *
  generalize decide (x<0)=nx at *
  simp [-ζ,-ξ,↓KW,encM]
  refine callP_intro (ds:=[encM a,.b (!nx)]) ?_ hm ?_
  · cases nx <;> rfl
  · simp [-ζ,-ξ,↓KW,encM,encZ,encI]
theorem r01SubB [M:Mch Tryz.prog] (x y:Int) (hx:(digs x.natAbs).length≤549755813888) (hy:(digs y.natAbs).length≤549755813888):Spec Tryz.prog 65 [encZ x,encZ y] (encZ (x - y)):=by
  refine specQ (N:=9) Tryz.func65 ?_
  have h1:=r01NegB y hy
  have h2:=r01AddZ x (-y) hx (by rw [Int.natAbs_neg]; exact hy)
  rw [← Int.sub_eq_add_neg] at h2
  simp [-ζ,-ξ,↓KW,encZ,encI,encM]
  refine callQ h1 ?_
  simp [-ζ,-ξ,↓KW,encZ,encI,encM]
  refine callP_intro (ds:=[encZ x,encZ (-y)]) ?_ h2 ?_
  · simp [-ζ,-ξ,↓KW,encZ,encI,encM]
  · simp [-ζ,-ξ,↓KW,encZ,encI,encM]
theorem digs_lt {n:Nat} (h0:n≠0) (h:n<4294967296):digs n=[n]:=by
  rw [digs_pos h0,Nat.mod_eq_of_lt h,Nat.div_eq_of_lt h,digs_zero]
theorem encZ_nat {n:Nat} (h0:n≠0) (h:n<4294967296):encZ (n:Int)=.ag [.b false,.sl [[.i .u32 (n:Int)]]]:=by
  have hd:decide ((n:Int)<0)=false:=by simp
  rw [encZ_eq,hd]
  simp [encM,digs_lt h0 h]
theorem intOf1 [M:Mch Tryz.prog]:Spec Tryz.prog 82 [.i .i64 1] (encZ 1):=by
  rw [show (1:Int)=((1:Nat):Int) from rfl,encZ_nat (by decide) (by decide)]
  exact (runKc_ok (fuel:=100) follows_mixed EP_ok 20).call 82 [.i .i64 1] (.ag [.b false,.sl [[.i .u32 1]]]) (by kernel_rfl)
noncomputable def wdB (p:Nat):Bool:=match (runKc Tryz.prog EP 100 20).call 84 [.i .u64 p] with
  | some (.ag [.b false,.sl [[.i .u32 q]]])=>q == (p:Int)
  | _=>false
theorem wd_ok [M:Mch Tryz.prog] {p:Nat} (h0:p≠0) (h:p<4294967296) (hw:wdB p=true):Spec Tryz.prog 84 [.i .u64 p] (encZ (p:Int)):=by
  rw [encZ_nat h0 h]
  refine (runKc_ok (fuel:=100) follows_mixed EP_ok 20).call _ _ _ ?_
  unfold wdB at hw
  split at hw
  · rename_i q he
    rw [he,beq_iff_eq] at *
    subst hw; rfl
  · cases hw
theorem wd10:(P10.all wdB)=true:=by kernel_rfl
theorem wordSpec [M:Mch Tryz.prog] {p:Nat} (h:p∈P10):Spec Tryz.prog 84 [.i .u64 p] (encZ (p:Int)):=by
  have hb:∀ q∈P10,q≠0∧q<4294967296:=by decide
  exact wd_ok (hb p h).1 (hb p h).2 (List.all_eq_true.1 wd10 p h)
theorem sz_big {z:Int} (h:z.natAbs<2 ^ 256):Sz z:=by
  have:=digs_len_le (n:=z.natAbs) (k:=8) (Nat.lt_of_lt_of_le h (by decide))
  unfold Sz; omega
theorem sz_1:Sz 1:=sz_big (by decide)
set_option maxRecDepth 10000 in
theorem enough0 [M:Mch Tryz.prog] (b:Int) (hb:Sz b) (hb2:Sz (b+b)) (h0:0≤b):Spec Tryz.prog 44 [.sl [],encZ b] (.b (decide (b=0))):=by
  refine specQ (N:=26) Tryz.func44 ?_
  have hA:=intAddZ b b hb hb
  obtain ⟨r,hC,hr⟩:=intCmpS 1 (b+b) (sz_1) hb2
  have hd:decide (0<r)=decide (b=0):=by
    by_cases h:b=0
    · subst h; simp [hr.2]
    · have:¬ 0<r:=fun h'=>h (by have:=hr.1 h'; omega)
      simp [h,this]
  generalize b+b=c at *
  simp [-ζ,-ξ,↓KW,encZ_eq b,cellsA_encM,one_encM,inj1_encM,inj_encM,kills_encM]
  refine callQ intOf1 ?_
  rw [encZ_eq 1]
  simp [-ζ,-ξ,↓KW,cellsA_encM,one_encM,inj1_encM,inj_encM,kills_encM]
  refine loopP_lu 2 ?_
  simp [-ζ,-ξ,↓KW,↓luP_succ,↓o1_makeFunc,↓o1_index,↓o1_callV,cellsA_encM,one_encM,inj1_encM,inj_encM,kills_encM]
  refine callQ hA ?_
  rw [encZ_eq c]
  simp [-ζ,-ξ,↓KW,cellsA_encM,one_encM,inj1_encM,inj_encM,kills_encM]
  refine callQ hC ?_
  simp [-ζ,-ξ,↓KW,hd]
def encZN (n:Nat):D:=.ag [.b false,encM (digs n)]
theorem encZN_eq (n:Nat):encZN n=.ag [.b false,encM (digs n)]:=rfl
theorem encZn (n:Nat):encZ (n:Int)=encZN n:=by
  rw [encZ_eq,encZN_eq]
  simp
theorem szN {n:Nat} (h:n<2 ^ 256):Sz (n:Int):=sz_big (by simpa using h)
theorem addN [M:Mch Tryz.prog] {x y:Nat} (hx:x<2 ^ 256) (hy:y<2 ^ 256):Spec Tryz.prog 85 [encZN x,encZN y] (encZN (x+y)):=by
  have:=intAddZ (x:Int) (y:Int) (szN hx) (szN hy)
  rwa [← Int.natCast_add,encZn,encZn,encZn] at this
theorem mulN [M:Mch Tryz.prog] {x y:Nat} (hx:x<2 ^ 256) (hy:y<2 ^ 256):Spec Tryz.prog 83 [encZN x,encZN y] (encZN (x * y)):=by
  have:=intMulZ (x:Int) (y:Int) (szN hx) (szN hy)
  rwa [← Int.natCast_mul,encZn,encZn,encZn] at this
theorem cmpN [M:Mch Tryz.prog] {x y:Nat} (hx:x<2 ^ 256) (hy:y<2 ^ 256):∃ r:Int,Spec Tryz.prog 48 [encZN x,encZN y] (.i .i64 r)∧(0<r↔y<x):=by
  obtain ⟨r,h1,h2⟩:=intCmpS (x:Int) (y:Int) (szN hx) (szN hy)
  rw [encZn,encZn] at h1
  exact ⟨r,h1,by rw [h2]; omega⟩
theorem of1N [M:Mch Tryz.prog]:Spec Tryz.prog 82 [.i .i64 1] (encZN 1):=by rw [← encZn]; exact intOf1
theorem wordN [M:Mch Tryz.prog] {p:Nat} (h:p∈P10):Spec Tryz.prog 84 [.i .u64 p] (encZN p):=by rw [← encZn]; exact wordSpec h
theorem enoughN [M:Mch Tryz.prog] {b:Nat} (h0:0<b) (h:b<2 ^ 200):Spec Tryz.prog 44 [.sl [],encZN b] (.b false):=by
  have:=enough0 (b:Int) (szN (by omega)) (sz_big (by omega)) (by omega)
  rwa [decide_eq_false (by omega),encZn] at this
def prodL:List Nat→Nat
  | []=>1
  | p::l=>p * prodL l
theorem prodL_snoc (l:List Nat) (p:Nat):prodL (l++[p])=prodL l * p:=by
  induction l with
  | nil=>simp [prodL]
  | cons x l ih=>simp only [List.cons_append,prodL,ih,Nat.mul_assoc]
theorem prodL_bnd:∀ (l:List Nat),(∀ p∈l,p<2147483648)→prodL l≤2147483648 ^ l.length
  | [],_=>by simp [prodL]
  | p::l,h=>by
    have h1:=h p (List.mem_cons_self ..)
    have h2:=prodL_bnd l fun q hq=>h q (List.mem_cons_of_mem _ hq)
    simp only [prodL,List.length_cons,Nat.pow_succ]
    rw [Nat.mul_comm]
    exact Nat.mul_le_mul h2 (by omega)
structure Ndd (b:Nat) (l:List Nat):Prop where
  big:2 * b<prodL l
  low:∀ k,k<l.length→prodL (l.take k)≤2 * b
def neF (c:Nat):List Nat→St
  | []=>StL [(4,.ptr 1 0),(5,.ptr 2 0),(6,.ptr 3 0),(7,.ptr 4 0)] none [.cells 46 [.nil],.cells 46 [.nil],.cells 31 [.d (.b false),.d (encM (digs 1))],.cells 31 [.d (.b false),.d (encM (digs c))]]
  | x::l=>StL [(4,.ptr 1 0),(5,.ptr 2 0),(6,.ptr 3 0),(7,.ptr 4 0)] none [.cells 46 [.nil],.cells 46 [.own 5 0 (l.length+1) 1],.cells 31 [.d (.b false),.d (encM (digs (prodL (x::l))))],.cells 31 [.d (.b false),.d (encM (digs c))],.cells 51 ((dU (x::l)).map .d)]
def neS (c:Nat) (L:List Nat) (k:Nat):St :=
  if k<L.length then neF c (L.take k) else StL [(4,.ptr 1 0)] none [.cells 46 [.own 2 0 L.length 1],.cells 51 ((dU L).map .d)]
set_option maxHeartbeats 8000000 in
set_option maxRecDepth 10000 in
theorem neededSpec [M:Mch Tryz.prog] (b n p0:Nat) (ps:List Nat) (hb:b<2 ^ 100) (hb0:0<b) (hd:Desc n (p0::ps)) (hl:ps.length≤6) (hn:Ndd b (p0::ps)) (hw:∀ p∈p0::ps,Spec Tryz.prog 84 [.i .u64 p] (encZN p)) :
    Spec Tryz.prog 59 [encZN b,.i .u64 n] (encU (p0::ps)):=by
  have hx0:∀ k:Nat,(psL (p0::ps))[k]? = ((p0::ps)[k]?).map (fun (p:Nat)=>[D.i .u64 (p:Int)]):=fun k=>by simp only [psL,List.getElem?_map]
  have hlen:(psL (p0::ps)).length=(p0::ps).length:=by simp [psL]
  have hseq:=belowSeq n p0 ps hd
  have hE:=enoughN hb0 (Nat.lt_of_lt_of_le hb (by decide))
  have hA:=addN (x:=b) (y:=b) (by omega) (by omega)
  have hlL:(p0::ps).length≤7:=by simp; omega
  have hL0:0<(p0::ps).length:=by simp
  have hlt:∀ p∈p0::ps,p<2147483648:=fun p hp=>by
    obtain ⟨k,hk,rfl⟩:=List.mem_iff_getElem.1 hp
    exact (Desc.pos hd (List.getElem?_eq_getElem hk)).2
  generalize p0::ps=L at *
  obtain ⟨hbig,hlow⟩:=hn
  rw [← Nat.two_mul] at hA
  have hc:2 * b<2 ^ 256:=by omega
  generalize 2 * b=c at *
  have hO:=of1N
  refine spec_ofR (N:=31) follows_mixed Tryz.func59 rfl rfl rfl (by kernel_rfl) (by kernel_rfl) (by simp) ?_
  refine awpR_seqL (by kernel_rfl) ?_
  simp [-ζ,-ξ,↓KW,↓luP_succ,↓o1_makeFunc,↓o1_index,↓o1_callV,encZN_eq b,cellsA_encM,one_encM]
  refine awpR_seqL (by kernel_rfl) ?_
  simp [-ζ,-ξ,↓KW,↓luP_succ,↓o1_makeFunc,↓o1_index,↓o1_callV,encZN_eq b,cellsA_encM,one_encM,inj1_encM,inj_encM,kills_encM]
  refine callQ hE ?_
  simp [-ζ,-ξ,↓KW,↓luP_succ,↓o1_makeFunc,↓o1_index,↓o1_callV,encZN_eq b,cellsA_encM,one_encM,inj1_encM,inj_encM,kills_encM]
  refine awpR_seqL (by kernel_rfl) ?_
  simp [-ζ,-ξ,↓KW,↓luP_succ,↓o1_makeFunc,↓o1_index,↓o1_callV]
  refine awpR_seqL (by kernel_rfl) ?_
  simp [-ζ,-ξ,↓KW,↓luP_succ,↓o1_makeFunc,↓o1_index,↓o1_callV,cellsA_encM,one_encM,inj1_encM,inj_encM,kills_encM]
  refine callQ hO ?_
  rw [encZN_eq 1]
  simp [-ζ,-ξ,↓KW,↓luP_succ,↓o1_makeFunc,↓o1_index,↓o1_callV,cellsA_encM,one_encM,inj1_encM,inj_encM,kills_encM]
  refine callQ hA ?_
  rw [encZN_eq c]
  simp [-ζ,-ξ,↓KW,↓luP_succ,↓o1_makeFunc,↓o1_index,↓o1_callV,cellsA_encM,one_encM,inj1_encM,inj_encM,kills_encM]
  refine awpR_seq (P:=Tryz.prog) ?_
  refine awpR_seqL (by kernel_rfl) ?_
  simp [-ζ,-ξ,↓KW,↓luP_succ,↓o1_makeFunc,↓o1_index,↓o1_callV]
  refine callQ (belowSpec n) ?_
  simp [-ζ,-ξ,↓KW,↓luP_succ,↓o1_makeFunc,↓o1_index,↓o1_callV]
  refine awpR_block ?_
  refine awpR_range0 (psL L) (fun k=>neS c L k) [8,17,18,19,20,21,22,23,24,25,26,27,28,29,30] .ret .ret (.inl rfl) (gf:=162) (caps:=[.pt [.i .u64 n]]) (by rfl) (by rfl) (by rfl) hseq ?_ (by kernel_rfl) (by rw [hlen]; omega) ?_ ?_ ?_
  · show ∃ ρ,Wk _ (neS c L 0) ρ
    unfold neS
    rw [if_pos hL0,List.take_zero]
    refine wkQ [2,3,4,5] ?_ ?_ <;> simp [-ζ,upd,inj1,Γ0,neF]
  · intro k x hk hx
    rw [hlen] at hk
    rw [hx0,Option.map_eq_some_iff] at hx
    obtain ⟨p,hp,rfl⟩:=hx
    refine ⟨rfl,?_⟩
    have hpL:=List.mem_of_getElem? hp
    have hW:=hw p hpL
    have hp31:=hlt p hpL
    have htl:(L.take k).length=k:=by rw [List.length_take]; omega
    have hPb:prodL (L.take k)≤2147483648 ^ 7:=Nat.le_trans (prodL_bnd _ fun q hq=>hlt q (List.mem_of_mem_take hq)) (Nat.pow_le_pow_right (by decide) (by omega))
    have hP2:prodL (L.take k) * p<2 ^ 256:=Nat.lt_of_le_of_lt (Nat.mul_le_mul hPb (Nat.le_of_lt hp31)) (by decide)
    have hM:=mulN (x:=prodL (L.take k)) (y:=p) (Nat.lt_of_le_of_lt hPb (by decide)) (by omega)
    obtain ⟨r,hC,hr⟩:=cmpN (x:=prodL (L.take k) * p) (y:=c) hP2 hc
    have hsn:L.take (k+1)=L.take k++[p]:=by rw [List.take_add_one,hp]; rfl
    have hps:=prodL_snoc (L.take k) p
    have hle:=hlow (k+1) hk
    rw [hsn,hps] at hle
    have hrr:¬ 0<r:=fun h=>by have:=hr.1 h; omega
    unfold neS
    rw [if_pos (by omega),if_pos hk,hsn]
    generalize L.take k=T at *
    generalize hPp:prodL T * p=Pp at *
    cases T with
    | nil =>
      have hm1:(1:Nat)≤maxLen:=le_maxLen (by decide)
      show AWP _ _ ⟨upd (neF c []).Γ 17 (.d (.i .u64 (p:Int))),(neF c []).H,(neF c []).n⟩ _
      change Spec _ _ [encZN 1,encZN p] _ at hM
      simp [-ζ,-ξ,↓KW,↓luP_succ,↓o1_makeFunc,↓o1_index,↓o1_callV,neF,hm1,cellsA_encM,one_encM,inj1_encM,inj_encM,kills_encM]
      refine callQ hW ?_
      rw [encZN_eq p]
      simp [-ζ,-ξ,↓KW,↓luP_succ,↓o1_makeFunc,↓o1_index,↓o1_callV,cellsA_encM,one_encM,inj1_encM,inj_encM,kills_encM]
      refine callQ hM ?_
      rw [encZN_eq Pp]
      simp [-ζ,-ξ,↓KW,↓luP_succ,↓o1_makeFunc,↓o1_index,↓o1_callV,cellsA_encM,one_encM,inj1_encM,inj_encM,kills_encM]
      refine callQ hC ?_
      simp [-ζ,-ξ,↓KW,↓luP_succ,↓o1_makeFunc,↓o1_index,↓o1_callV,hrr,cellsA_encM,one_encM,inj1_encM,inj_encM,kills_encM]
      have hps':prodL [p]=Pp:=hps
      refine wkQ [1,2,3,4,6] ?_ ?_ <;> simp [-ζ,upd,inj1,Γ0,List.contains_cons,subL_own_iff,dU_snoc,dU_one,hps']
    | cons y T =>
      have hps':prodL (y::(T++[p]))=Pp:=hps
      have hbb:=app_boundU (n:=T.length+1) (by simp at htl; omega)
      show AWP _ _ ⟨upd (neF c (y::T)).Γ 17 (.d (.i .u64 (p:Int))),(neF c (y::T)).H,(neF c (y::T)).n⟩ _
      simp [-ζ,-ξ,↓KW,↓luP_succ,↓o1_makeFunc,↓o1_index,↓o1_callV,neF,dU_len,hbb,le_maxLen,cellsA_encM,one_encM,inj1_encM,inj_encM,kills_encM]
      refine callQ hW ?_
      rw [encZN_eq p]
      simp [-ζ,-ξ,↓KW,↓luP_succ,↓o1_makeFunc,↓o1_index,↓o1_callV,cellsA_encM,one_encM,inj1_encM,inj_encM,kills_encM]
      refine callQ hM ?_
      rw [encZN_eq Pp]
      simp [-ζ,-ξ,↓KW,↓luP_succ,↓o1_makeFunc,↓o1_index,↓o1_callV,cellsA_encM,one_encM,inj1_encM,inj_encM,kills_encM]
      refine callQ hC ?_
      simp [-ζ,-ξ,↓KW,↓luP_succ,↓o1_makeFunc,↓o1_index,↓o1_callV,hrr,cellsA_encM,one_encM,inj1_encM,inj_encM,kills_encM]
      refine wkQ [1,2,3,4,7] ?_ ?_ <;> simp [-ζ,upd,inj1,Γ0,List.contains_cons,subL_own_iff,dU_snoc,dU_one,hps']
  · intro k x hk hx
    rw [hlen] at hk
    rw [hx0,Option.map_eq_some_iff] at hx
    obtain ⟨p,hp,rfl⟩:=hx
    refine ⟨rfl,?_⟩
    have hpL:=List.mem_of_getElem? hp
    have hW:=hw p hpL
    have hp31:=hlt p hpL
    have htl:(L.take k).length=k:=by rw [List.length_take]; omega
    have hPb:prodL (L.take k)≤2147483648 ^ 7:=Nat.le_trans (prodL_bnd _ fun q hq=>hlt q (List.mem_of_mem_take hq)) (Nat.pow_le_pow_right (by decide) (by omega))
    have hP2:prodL (L.take k) * p<2 ^ 256:=Nat.lt_of_le_of_lt (Nat.mul_le_mul hPb (Nat.le_of_lt hp31)) (by decide)
    have hM:=mulN (x:=prodL (L.take k)) (y:=p) (Nat.lt_of_le_of_lt hPb (by decide)) (by omega)
    obtain ⟨r,hC,hr⟩:=cmpN (x:=prodL (L.take k) * p) (y:=c) hP2 hc
    have hsn:L.take (k+1)=L.take k++[p]:=by rw [List.take_add_one,hp]; rfl
    have hps:=prodL_snoc (L.take k) p
    have hLe:L.take (k+1)=L:=by rw [hk]; exact List.take_length
    rw [hLe] at hsn
    rw [hLe.symm.trans (hLe.trans hsn),hps] at hbig
    have hrr:0<r:=hr.2 hbig
    unfold neS
    rw [if_pos (by omega),if_neg (by omega)]
    have hTl:L.length=k+1:=hk.symm
    rw [hTl]
    generalize L.take k=T at *
    subst hsn
    generalize hPp:prodL T * p=Pp at *
    cases T with
    | nil =>
      have hm1:(1:Nat)≤maxLen:=le_maxLen (by decide)
      have hk0:k=0:=htl.symm
      subst hk0
      show AWP _ _ ⟨upd (neF c []).Γ 17 (.d (.i .u64 (p:Int))),(neF c []).H,(neF c []).n⟩ _
      change Spec _ _ [encZN 1,encZN p] _ at hM
      simp [-ζ,-ξ,↓KW,↓luP_succ,↓o1_makeFunc,↓o1_index,↓o1_callV,neF,hm1,cellsA_encM,one_encM,inj1_encM,inj_encM,kills_encM]
      refine callQ hW ?_
      rw [encZN_eq p]
      simp [-ζ,-ξ,↓KW,↓luP_succ,↓o1_makeFunc,↓o1_index,↓o1_callV,cellsA_encM,one_encM,inj1_encM,inj_encM,kills_encM]
      refine callQ hM ?_
      rw [encZN_eq Pp]
      simp [-ζ,-ξ,↓KW,↓luP_succ,↓o1_makeFunc,↓o1_index,↓o1_callV,cellsA_encM,one_encM,inj1_encM,inj_encM,kills_encM]
      refine callQ hC ?_
      simp [-ζ,-ξ,↓KW,↓luP_succ,↓o1_makeFunc,↓o1_index,↓o1_callV,hrr,cellsA_encM,one_encM,inj1_encM,inj_encM,kills_encM]
      refine wkQ [1,6] ?_ ?_ <;> simp [-ζ,upd,inj1,Γ0,List.contains_cons,subL_own_iff,dU_snoc,dU_one]
    | cons y T =>
      have hk0:k=T.length+1:=htl.symm
      subst hk0
      have hbb:=app_boundU (n:=T.length+1) (by omega)
      show AWP _ _ ⟨upd (neF c (y::T)).Γ 17 (.d (.i .u64 (p:Int))),(neF c (y::T)).H,(neF c (y::T)).n⟩ _
      simp [-ζ,-ξ,↓KW,↓luP_succ,↓o1_makeFunc,↓o1_index,↓o1_callV,neF,dU_len,hbb,le_maxLen,cellsA_encM,one_encM,inj1_encM,inj_encM,kills_encM]
      refine callQ hW ?_
      rw [encZN_eq p]
      simp [-ζ,-ξ,↓KW,↓luP_succ,↓o1_makeFunc,↓o1_index,↓o1_callV,cellsA_encM,one_encM,inj1_encM,inj_encM,kills_encM]
      refine callQ hM ?_
      rw [encZN_eq Pp]
      simp [-ζ,-ξ,↓KW,↓luP_succ,↓o1_makeFunc,↓o1_index,↓o1_callV,cellsA_encM,one_encM,inj1_encM,inj_encM,kills_encM]
      refine callQ hC ?_
      simp [-ζ,-ξ,↓KW,↓luP_succ,↓o1_makeFunc,↓o1_index,↓o1_callV,hrr,cellsA_encM,one_encM,inj1_encM,inj_encM,kills_encM]
      refine wkQ [1,7] ?_ ?_ <;> simp [-ζ,upd,inj1,Γ0,List.contains_cons,subL_own_iff,dU_snoc,dU_one]
  · rw [hlen]
    unfold neS
    rw [if_neg (by omega)]
    have hfl:=dU_len L
    simp [-ζ,-ξ,↓KW,↓luP_succ,↓o1_makeFunc,↓o1_index,↓o1_callV,encU,hfl,chunk_dU (rfl:L.length=L.length),dU_take_all (rfl:L.length=L.length)]
end Go.Am
end
section
open List renaming map_map→ζ,mapM_map→ξ
open Go Go.Am Go.Proofs
namespace Go.Am
open Go.RowKit (Below)
theorem run_append_zeros0 {P:Program} (w:World) (t tn ty e:TypeId) (i:TypeInfo) (z:Value) (kq kn:IntKind) (ht:P.underlying t=some (.slice e)) (htn:P.underlying tn=some (.int kn)) (hi:P.info? e=some i) (hz:i.zero=some z)
    (k:Nat) (h0:0<k) (hs:0<i.size) (h63:(k:Int)≤9223372036854775807) (h48:k * i.bytes≤281474976710656) :
    runC P (Builtin.append_ #[t,tn] ty #[.slice none 0 0,.int kq k]) w =
      .ok (.slice (some ⟨w.heap.size,0,none⟩) k (grownCap w k 0 e))
        (w.drew.alloc (.cells (Builtin.zeroCells z.cells k++Builtin.zeroCells z.cells (grownCap w k 0 e - k)) e)):=by
  have hk:k≠0:=by omega
  have hw:IntKind.i64.wrap (k:Int)=k:=by rw [IntKind.wrap_i64]; omega
  have h63':¬ (9223372036854775807<(k:Int)):=by omega
  have h48':¬ (281474976710656<Builtin.nextslicecap k 0 * i.bytes):=by rw [nextslicecap_zero h0]; omega
  have h48i:¬ (281474976710656<(k:Int) * (i.bytes:Int)):=by rw [← Int.natCast_mul]; omega
  have hneg:¬ ((k:Int)<0):=by omega
  have hns:¬ (k * i.size=0):=Nat.mul_ne_zero hk (by omega)
  simp [Builtin.append_,run_underlying ht,run_underlying htn,sizeOf,typeInfo,zeroValue,hi,hz,asInt,asIntOf,hw,hk,hneg,hns,h63',h48',h48i,Question.forced,run_firstCells_none,newRow,grownCap]
structure AL (n:Nat) (l:List (Nat × Value)) (a:Act):Prop where
  size:a.tmps.size=n
  defs:a.defers=[]
  get:∀ t x,l.lookup t=some x→a.eval (.tmp t)=x
theorem AL.put {n:Nat} {l:List (Nat × Value)} {a:Act} (h:AL n l a) {d:Nat} (hd:d<n) (x:Value):AL n ((d,x)::l) (a.put (some d) x) where
  size:=by simp [Act.put,h.size]
  defs:=h.defs
  get t y hy:=by
    have hg:=getD_put a (some d) x (fun _ e=>by injection e with e; subst e; rw [h.size]; exact hd) t
    have he:(a.put (some d) x).eval (.tmp t)=if (some d:Option Nat)=some t then x else a.eval (.tmp t):=by simpa [Act.eval] using hg
    rw [he]
    rw [List.lookup_cons] at hy
    by_cases e:t=d
    · subst e; simp at hy; simp [hy]
    · rw [show (t == d)=false from by simp [e]] at hy
      rw [if_neg (by simpa using Ne.symm e)]
      exact h.get t y hy
def evL (l:List (Nat × Value)):Operand→Option Value
  | .tmp t=>l.lookup t
  | .const v=>some v
  | _=>none
theorem AL.ev {n:Nat} {l:List (Nat × Value)} {a:Act} (h:AL n l a) {o:Operand} {x:Value} (hx:evL l o=some x):a.eval o=x:=by
  cases o with
  | tmp t=>exact h.get t x hx
  | const v => have e : v = x := by simpa [evL] using hx
               subst e; rfl
  | _=>cases hx
section
variable {P:Program} [M:Mch P] {Q:Exit→Act→World→Prop} {ops:Array Oper} {n:Nat} {l:List (Nat × Value)}
theorem wl_pure {W v:World} {d:Nat} {op:Op} {ty:TypeId} {pos:String} {after:Array Edge} {rest:List Oper} {a:Act} (x:Value) (hA:AL n l a) (he:Env W v) (hd:d<n) (hr:∀ w,runC P (execOp a.eval ⟨some d,op,ty,pos,after,none⟩) w=.ok (.value x) w)
    (h:∀ a' v',AL n ((d,x)::l) a'→Env W v'→wpLX P ops Q rest a' v'):wpLX P ops Q (⟨some d,op,ty,pos,after,none⟩::rest) a v:=by
  have hw:Region.wanted (⟨some d,op,ty,pos,after,none⟩:Oper) (yielded ops a.tmps)=true:=rfl
  unfold wpLX
  rw [if_pos hw]
  intro v1 he1
  unfold wpX
  rw [hr]
  exact h _ _ (hA.put hd x) (he.trans he1)
def dv:D→Value
  | .b x=>.bool x
  | .i k n=>.int k n
  | _=>undef
theorem wl_bin {W v:World} {dst:Nat} {op:BinOp} {t t2:TypeId} {x y:Operand} {pos:String} {ty:TypeId} {after:Array Edge} {rest:List Oper} {a:Act} {k k':IntKind} {m m':Int} (d:D) (hA:AL n l a) (he:Env W v) (hdst:dst<n) (hx:evL l x=some (.int k m)) (hy:evL l y=some (.int k' m'))
    (hd:binA op (tbool P t) (.d (.i k m)) (.d (.i k' m'))=some d) (hd2:(∃ b,d=.b b)∨∃ k n,d=.i k n)
    (h:∀ a' v',AL n ((dst,dv d)::l) a'→Env W v'→wpLX P ops Q rest a' v'):wpLX P ops Q (⟨some dst,.binOp op t x y t2,ty,pos,after,none⟩::rest) a v:=by
  refine wl_pure _ hA he hdst (fun w=>?_) h
  obtain ⟨z,⟨h1,h2⟩,hz⟩:=run_binA (P:=P) (F:=fun _=>False) (w:=w) (ι:=fun _=>none) (u:=.int k m) (v:=.int k' m') hd (.d _ _ (.i k m)) (.d _ _ (.i k' m')) x y
  have hzd:z=dv d:=by
    rcases hd2 with ⟨b,rfl⟩ | ⟨k,n,rfl⟩ <;> cases hz <;> rfl
  subst hzd
  simp [execOp,hA.ev hx,hA.ev hy,h1,h2]
theorem wl_move {W v:World} {dst:Nat} {x:Operand} {pos:String} {ty:TypeId} {after:Array Edge} {rest:List Oper} {a:Act} {u:Value} (hA:AL n l a) (he:Env W v) (hdst:dst<n) (hx:evL l x=some u)
    (h:∀ a' v',AL n ((dst,u)::l) a'→Env W v'→wpLX P ops Q rest a' v'):wpLX P ops Q (⟨some dst,.move x,ty,pos,after,none⟩::rest) a v :=
  wl_pure _ hA he hdst (fun w=>by simp [execOp,hA.ev hx]) h
theorem wl_asg {W v:World} {dst:Nat} {x:Operand} {pos:String} {ty:TypeId} {after:Array Edge} {rest:List Oper} {a:Act} {u:Value} (hA:AL n l a) (he:Env W v) (hdst:dst<n) (hx:evL l x=some u)
    (h:∀ a' v',AL n ((dst,u)::l) a'→Env W v'→wpLX P ops Q rest a' v'):wpLX P ops Q (⟨some dst,.assign x,ty,pos,after,none⟩::rest) a v :=
  wl_pure _ hA he hdst (fun w=>by simp [execOp,hA.ev hx]) h
theorem wl_cap {W v:World} {dst:Nat} {x:Operand} {pos:String} {ty t e:TypeId} {after:Array Edge} {rest:List Oper} {a:Act} {b:Option Addr} {len cap:Nat} (hA:AL n l a) (he:Env W v) (hdst:dst<n) (ht:P.underlying t=some (.slice e)) (hx:evL l x=some (.slice b len cap))
    (h:∀ a' v',AL n ((dst,.int .i64 cap)::l) a'→Env W v'→wpLX P ops Q rest a' v'):wpLX P ops Q (⟨some dst,.call ⟨.builtin .cap,#[x],#[t]⟩,ty,pos,after,none⟩::rest) a v :=
  wl_pure _ hA he hdst (fun w=>by simp [execOp,resolve,invoke,builtin,hA.ev hx,run_underlying ht,Builtin.cap_]; rfl) h
theorem wl_len {W v:World} {dst:Nat} {x:Operand} {pos:String} {ty t e:TypeId} {after:Array Edge} {rest:List Oper} {a:Act} {b:Option Addr} {len cap:Nat} (hA:AL n l a) (he:Env W v) (hdst:dst<n) (ht:P.underlying t=some (.slice e)) (hx:evL l x=some (.slice b len cap))
    (h:∀ a' v',AL n ((dst,.int .i64 len)::l) a'→Env W v'→wpLX P ops Q rest a' v'):wpLX P ops Q (⟨some dst,.call ⟨.builtin .len,#[x],#[t]⟩,ty,pos,after,none⟩::rest) a v :=
  wl_pure _ hA he hdst (fun w=>by simp [execOp,resolve,invoke,builtin,hA.ev hx,run_underlying ht,Builtin.len_,Builtin.lenOf]; rfl) h
theorem wl_any {v:World} {d:Nat} {op:Op} {ty:TypeId} {pos:String} {after:Array Edge} {rest:List Oper} {a:Act} (hA:AL n l a) (hd:d<n)
    (h:∀ v1,Env v v1→∃ x w1,runC P (execOp a.eval ⟨some d,op,ty,pos,after,none⟩) v1=.ok (.value x) w1∧∀ a',AL n ((d,x)::l) a'→wpLX P ops Q rest a' w1):wpLX P ops Q (⟨some d,op,ty,pos,after,none⟩::rest) a v:=by
  have hw:Region.wanted (⟨some d,op,ty,pos,after,none⟩:Oper) (yielded ops a.tmps)=true:=rfl
  unfold wpLX
  rw [if_pos hw]
  intro v1 he1
  obtain ⟨x,w1,h1,h2⟩:=h v1 he1
  unfold wpX
  rw [h1]
  exact h2 _ (hA.put hd x)
theorem wl_slice0 {W v:World} {dst:Nat} {x hi:Operand} {pos:String} {ty t e:TypeId} {sz:Nat} {after:Array Edge} {rest:List Oper} {a:Act} {b:Option Addr} {len cap:Nat} (hA:AL n l a) (he:Env W v) (hdst:dst<n) (ht:tel P t=some e) (hs:tsz P e=some sz) (hc:len≤cap) (hx:evL l x=some (.slice b len cap)) (hh:evL l hi=some (.int .i64 0)) (hb:b=none∧cap=0∨0<cap∧∃ k,b=some ⟨k,0,none⟩)
    (h:∀ a' v',AL n ((dst,.slice b 0 cap)::l) a'→Env W v'→wpLX P ops Q rest a' v'):wpLX P ops Q (⟨some dst,.slice t x none (some hi) none,ty,pos,after,none⟩::rest) a v:=by
  refine wl_pure _ hA he hdst (fun w=>?_) h
  have hr:=run_slice_cut (P:=P) w ht hs b len cap hc none (some (.int .i64 0)) none 0 0 (.inl ⟨rfl,rfl⟩) (.inr ⟨_,rfl⟩) (by omega) (by omega) (by omega) cap (.inl ⟨rfl,rfl⟩)
  simp only [execOp,hA.ev hx,hA.ev hh,Option.map_some,Option.map_none,Sem.run_bind,hr,Result.andThen_ok]
  rcases hb with ⟨rfl,rfl⟩ | ⟨h0,k,rfl⟩
  · simp
  · simp [Addr.add,Nat.ne_of_gt h0]
theorem wl_end {a:Act} {v:World} (h:Q .normal a v):wpLX P ops Q [] a v:=h
end
theorem AL.start (x y:Value) (k:Nat):AL (2+k) [(0,x),(1,y)] ⟨#[x,y]++Array.replicate k undef,[]⟩ where
  size:=by simp
  defs:=rfl
  get t z hz:=by
    have h2:∀ t,t<2→(#[x,y]++Array.replicate k undef:Array Value).getD t undef=(#[x,y]:Array Value).getD t undef:=fun t ht=>by
      simp only [Array.getD_eq_getD_getElem?]; rw [Array.getElem?_append_left (by simpa using ht)]
    match t with
    | 0=>rw [List.lookup_cons] at hz; simp at hz; subst hz; show Array.getD _ _ _=_; rw [h2 0 (by decide)]; rfl
    | 1=>simp [List.lookup_cons] at hz; subst hz; show Array.getD _ _ _=_; rw [h2 1 (by decide)]; rfl
    | t+2=>simp [List.lookup_cons] at hz
noncomputable def u64I:TypeInfo:=((Tryz.prog).info? 51).get (by kernel_rfl)
theorem u64I_eq:(Tryz.prog).info? 51=some u64I:=by kernel_rfl
noncomputable def u64Z:Value:=u64I.zero.get (by kernel_rfl)
theorem u64I_zero:u64I.zero=some u64Z:=by kernel_rfl
theorem u64Z_size:u64Z.cells.size=1:=by kernel_rfl
theorem u64I_size:u64I.size=1:=by kernel_rfl
theorem u64I_bytes:u64I.bytes=8:=by kernel_rfl
set_option maxHeartbeats 400000 in
set_option maxRecDepth 100000 in
theorem grow_nil [M : Mch Tryz.prog] (n : Nat) (W : World) (h0 : 0 < n) (hn : n ≤ 1000000) : CX Tryz.prog 103 #[.slice none 0 0, .int .i64 n] W fun x w' => ∃ b G ROW, n ≤ G ∧ G ≤ maxLen ∧ G ≤ ROW.size ∧ W.heap.size ≤ b ∧
      x=.slice (some ⟨b,0,none⟩) 0 G∧w'.heap[b]? = some (.cells ROW 51 (0,0))∧Below W.heap.size W w':=by
  refine cx_of_wc Tryz.func103 rfl ?_
  have hu46:(Tryz.prog).underlying 46=some (.slice 51):=by kernel_rfl
  have hu3:(Tryz.prog).underlying 3=some (.int .i64):=by kernel_rfl
  have e0:Env W W:=.refl W
  have hb0:∀ t,binA .sub t (.d (.i .i64 0)) (.d (.i .i64 0))=some (.i .i64 0):=fun t=>by simp [binA,arith]; decide
  have hwn:IntKind.i64.wrap (n:Int)=n:=wrapQ
  have hb1:∀ t,binA .sub t (.d (.i .i64 (n:Int))) (.d (.i .i64 0))=some (.i .i64 n):=fun t=>by simp [binA,arith,hwn]
  have hA:AL 27 [(0,.slice none 0 0),(1,.int .i64 n)] { tmps:=#[Value.slice none 0 0,Value.int .i64 n]++Array.replicate (Tryz.f103.ntmps - #[Value.slice none 0 0,Value.int .i64 n].size) undef,defers:=[] }:=AL.start _ _ 25
  generalize ({ tmps:=#[Value.slice none 0 0,Value.int .i64 n]++Array.replicate (Tryz.f103.ntmps - #[Value.slice none 0 0,Value.int .i64 n].size) undef,defers:=[] }:Act)=a0 at hA ⊢
  refine wc_seq (wc_regL ?_)
  refine wl_asg hA e0 (by decide) rfl fun a v hA e1=>wl_end ?_
  refine wc_seq (wc_seq (wc_regL ?_))
  refine wl_move hA e1 (by decide) rfl fun a v hA e2=>?_
  refine wl_bin (.b false) hA e2 (by decide) rfl rfl (by simp [binA,arith]) (.inl ⟨_,rfl⟩) fun a v hA e3=>wl_end ?_
  refine wc_cond (t:=false) (hA.get _ _ rfl) (wc_skip ?_)
  refine wc_seq (wc_seq (wc_regL ?_))
  refine wl_move hA e3 (by decide) rfl fun a v hA e4=>?_
  refine wl_move hA e4 (by decide) rfl fun a v hA e5=>?_
  refine wl_cap hA e5 (by decide) hu46 rfl fun a v hA e6=>?_
  refine wl_move hA e6 (by decide) rfl fun a v hA e7=>?_
  refine wl_len hA e7 (by decide) hu46 rfl fun a v hA e8=>?_
  refine wl_bin (.i .i64 0) hA e8 (by decide) rfl rfl (hb0 _) (.inr ⟨_,_,rfl⟩) fun a v hA e9=>?_
  refine wl_bin (.i .i64 n) hA e9 (by decide) rfl rfl (hb1 _) (.inr ⟨_,_,rfl⟩) fun a v hA e10=>?_
  refine wl_asg hA e10 (by decide) rfl fun a v hA e11=>wl_end ?_
  refine wc_seq (wc_regL ?_)
  refine wl_move hA e11 (by decide) rfl fun a v hA e12=>?_
  refine wl_bin (.b true) hA e12 (by decide) rfl rfl (by simp [binA,arith,h0]) (.inl ⟨_,rfl⟩) fun a v hA e13=>wl_end ?_
  refine wc_cond (t:=true) (hA.get _ _ rfl) (wc_regL ?_)
  refine wl_move hA e13 (by decide) rfl fun a v hA e14=>?_
  refine wl_move hA e14 (by decide) rfl fun a v hA e15=>?_
  refine wl_cap hA e15 (by decide) hu46 rfl fun a v hA e16=>?_
  refine wl_slice0 (e:=51) (sz:=1) hA e16 (by decide) (by kernel_rfl) (by kernel_rfl) (Nat.le_refl _) rfl rfl (.inl ⟨rfl,rfl⟩) fun a v hA e17=>?_
  refine wl_move hA e17 (by decide) rfl fun a v hA e18=>?_
  refine wl_any hA (by decide) fun w e19=>?_
  have e20:=e18.trans e19
  obtain ⟨G,hG⟩:∃ G,G=grownCap w n 0 51:=⟨_,rfl⟩
  obtain ⟨ROW,hROW⟩:∃ ROW,ROW=Builtin.zeroCells u64Z.cells n++Builtin.zeroCells u64Z.cells (G - n):=⟨_,rfl⟩
  have hGn:n≤G:=hG ▸ grownCap_ge w _ _ _
  have hGm:G≤maxLen:=hG ▸ grownCap_le_maxLen w n 0 51 (by unfold maxLen; omega)
  have hRl:G≤ROW.size:=by
    rw [hROW]
    simp only [Array.size_append,Builtin.zeroCells,Array.size_map,Array.size_range,u64Z_size]
    omega
  refine ⟨.slice (some ⟨w.heap.size,0,none⟩) n G,w.drew.alloc (.cells ROW 51),?_,fun a hA=>?_⟩
  · have hr:=run_append_zeros0 w 46 3 46 51 u64I u64Z .i64 .i64 hu46 hu3 u64I_eq u64I_zero n h0 (by rw [u64I_size]; decide) (by omega) (by rw [u64I_bytes]; omega)
    rw [← hG,← hROW] at hr
    simp only [execOp,resolve,invoke,builtin]
    simp [hA.get 20 _ rfl,hA.get 21 _ rfl,dv,hr]
  have hw0:Below W.heap.size W w:=by
    exact ⟨e20.os,e20.tape,e20.output,e20.size,fun k hk=>e20.get hk⟩
  have hb:Below W.heap.size W (w.drew.alloc (.cells ROW 51)):=by
    have h:=hw0.alloc hw0.size (.cells ROW 51)
    exact ⟨h.os,h.tape,h.output,h.size,h.block⟩
  have hat:(w.drew.alloc (.cells ROW 51)).heap[w.heap.size]? = some (.cells ROW 51 (0,0)):=by
    simp only [World.alloc,World.drew]
    rw [Array.getElem?_push,if_pos rfl]
  have hsz:w.heap.size<(w.drew.alloc (.cells ROW 51)).heap.size:=by simp only [World.alloc,World.drew,Array.size_push]; omega
  generalize w.drew.alloc (.cells ROW 51)=W1 at hb hat hsz ⊢
  have f0:Env W1 W1:=.refl _
  have hG0:0<G:=by omega
  refine wl_move hA f0 (by decide) rfl fun a v hA f1=>?_
  refine wl_len hA f1 (by decide) hu46 rfl fun a v hA f2=>?_
  refine wl_slice0 (e:=51) (sz:=1) hA f2 (by decide) (by kernel_rfl) (by kernel_rfl) hGn rfl rfl (.inr ⟨hG0,_,rfl⟩) fun a v hA f3=>?_
  refine wl_asg hA f3 (by decide) rfl fun a v hA f4=>wl_end ?_
  refine wc_seq (wc_regL ?_)
  refine wl_move hA f4 (by decide) rfl fun a v hA f5=>?_
  refine wl_asg hA f5 (by decide) rfl fun a v hA f6=>wl_end (wc_ret ?_)
  refine ⟨hA.defs,fun v1 f7=>⟨.slice (some ⟨w.heap.size,0,none⟩) 0 G,?_,w.heap.size,G,ROW,hGn,hGm,hRl,e20.size,rfl,?_,?_⟩⟩
  · have hr:=hA.get 4 _ rfl
    show runC _ (results _ a.tmps) v1=_
    have hrs:Tryz.f103.results=#[.tmp 4]:=rfl
    simp only [results,hrs]
    simp only [Act.eval,Array.getD_eq_getD_getElem?] at hr
    simp [hr]
  · rw [(f6.trans f7).get hsz]; exact hat
  · have f8:=f6.trans f7
    exact ⟨f8.os.trans hb.os,f8.tape.trans hb.tape,f8.output.trans hb.output,Nat.le_trans hb.size f8.size,fun k hk=>(f8.get (Nat.lt_of_lt_of_le hk hb.size)).trans (hb.block k hk)⟩
set_option maxHeartbeats 400000 in
set_option maxRecDepth 100000 in
theorem grow_zero [M:Mch Tryz.prog] (W:World):CX Tryz.prog 103 #[.slice none 0 0,.int .i64 0] W fun x w'=>x=.slice none 0 0∧Below W.heap.size W w':=by
  refine cx_of_wc Tryz.func103 rfl ?_
  have hu46:(Tryz.prog).underlying 46=some (.slice 51):=by kernel_rfl
  have e0:Env W W:=.refl W
  have hb0:∀ t,binA .sub t (.d (.i .i64 0)) (.d (.i .i64 0))=some (.i .i64 0):=fun t=>by simp [binA,arith]; decide
  have hA:AL 27 [(0,.slice none 0 0),(1,.int .i64 0)] { tmps:=#[Value.slice none 0 0,Value.int .i64 0]++Array.replicate (Tryz.f103.ntmps - #[Value.slice none 0 0,Value.int .i64 0].size) undef,defers:=[] }:=AL.start _ _ 25
  generalize ({ tmps:=#[Value.slice none 0 0,Value.int .i64 0]++Array.replicate (Tryz.f103.ntmps - #[Value.slice none 0 0,Value.int .i64 0].size) undef,defers:=[] }:Act)=a0 at hA ⊢
  refine wc_seq (wc_regL ?_)
  refine wl_asg hA e0 (by decide) rfl fun a v hA e1=>wl_end ?_
  refine wc_seq (wc_seq (wc_regL ?_))
  refine wl_move hA e1 (by decide) rfl fun a v hA e2=>?_
  refine wl_bin (.b false) hA e2 (by decide) rfl rfl (by simp [binA,arith]) (.inl ⟨_,rfl⟩) fun a v hA e3=>wl_end ?_
  refine wc_cond (t:=false) (hA.get _ _ rfl) (wc_skip ?_)
  refine wc_seq (wc_seq (wc_regL ?_))
  refine wl_move hA e3 (by decide) rfl fun a v hA e4=>?_
  refine wl_move hA e4 (by decide) rfl fun a v hA e5=>?_
  refine wl_cap hA e5 (by decide) hu46 rfl fun a v hA e6=>?_
  refine wl_move hA e6 (by decide) rfl fun a v hA e7=>?_
  refine wl_len hA e7 (by decide) hu46 rfl fun a v hA e8=>?_
  refine wl_bin (.i .i64 0) hA e8 (by decide) rfl rfl (hb0 _) (.inr ⟨_,_,rfl⟩) fun a v hA e9=>?_
  refine wl_bin (.i .i64 0) hA e9 (by decide) rfl rfl (hb0 _) (.inr ⟨_,_,rfl⟩) fun a v hA e10=>?_
  refine wl_asg hA e10 (by decide) rfl fun a v hA e11=>wl_end ?_
  refine wc_seq (wc_regL ?_)
  refine wl_move hA e11 (by decide) rfl fun a v hA e12=>?_
  refine wl_bin (.b false) hA e12 (by decide) rfl rfl (by simp [binA,arith]) (.inl ⟨_,rfl⟩) fun a v hA e13=>wl_end ?_
  refine wc_cond (t:=false) (hA.get _ _ rfl) (wc_skip ?_)
  refine wc_seq (wc_regL ?_)
  refine wl_move hA e13 (by decide) rfl fun a v hA e14=>?_
  refine wl_asg hA e14 (by decide) rfl fun a v hA e15=>wl_end (wc_ret ?_)
  refine ⟨hA.defs,fun v1 f7=>⟨.slice none 0 0,?_,rfl,?_⟩⟩
  · have hr:=hA.get 4 _ rfl
    show runC _ (results _ a.tmps) v1=_
    have hrs:Tryz.f103.results=#[.tmp 4]:=rfl
    simp only [results,hrs]
    simp only [Act.eval,Array.getD_eq_getD_getElem?] at hr
    simp [hr]
  · have f8:=e15.trans f7
    exact ⟨f8.os,f8.tape,f8.output,f8.size,fun k hk=>f8.get hk⟩
theorem two_args {vs:Array Value} (h:2=vs.size):∃ v0 v1,vs=#[v0,v1]:=by
  obtain ⟨v0,hv0⟩:∃ v1,vs[0]? = some v1:=⟨vs[0],Array.getElem?_eq_getElem (by omega)⟩
  obtain ⟨v1,hv1⟩:∃ v1,vs[1]? = some v1:=⟨vs[1],Array.getElem?_eq_getElem (by omega)⟩
  refine ⟨v0,v1,?_⟩
  apply Array.ext_getElem?
  intro k
  match k with
  | 0=>simpa using hv0
  | 1=>simpa using hv1
  | k+2=>rw [Array.getElem?_eq_none (by omega)]; simp
theorem grow_enters (vs:Array Value) (w:World):runC Tryz.prog (callFunc 103 vs) w=.ok (.enter 103 vs) w:=by
  have hn:¬ Tryz.f103.name = "runtime.NumGoroutine" := by
    have:(Tryz.f103.name == "runtime.NumGoroutine")=false:=rfl
    simpa using this
  have hb:Tryz.f103.body=some _:=rfl
  simp [callFunc,Tryz.func103,hn,hb]
theorem growU [M:Mch Tryz.prog] (n:Nat) (h0:0<n) (hn:n≤1000000):NSpecV Tryz.prog 103 [.nil,.d (.i .i64 (n:Int))] (fun m=>.own m 0 0 1) (fun _=>[.cells 51 []]):=by
  intro A W vs hA hl hv
  obtain ⟨v0,v1,rfl⟩:=two_args hl
  have h1:=hv 0 _ v0 rfl rfl
  cases h1
  have h2:=hv 1 _ v1 rfl rfl
  cases h2 with | d _ _ h2 =>
  cases h2
  refine ⟨grow_enters _,?_⟩
  refine (grow_nil n W h0 hn).mono ?_
  rintro e w' ⟨b,G,ROW,hG,hGm,hR,hbW,rfl,hat,hb⟩
  have hsz:b<w'.heap.size:=lt_of_get hat
  refine ⟨hb,fun m hm=>⟨A,fun id=>if id=m then some b else none,fun b h=>.inl h,?_,fun id=>?_,fun id b' h=>?_,fun i o b' ho hb'=>?_,fun id id' b' h h'=>?_⟩⟩
  · have:=V.own (F:=A) (w:=w') (ι:=fun id=>if id=m then some b else none) m 0 0 1 b G ROW 51 (if_pos rfl) hat (by omega) (by omega) hGm
    rwa [Nat.zero_mul] at this
  · constructor
    · rintro ⟨b',h⟩
      simp only at h
      split at h
      · rename_i e; subst e; exact ⟨Nat.le_refl _,by simp⟩
      · cases h
    · rintro ⟨h1,h2⟩
      have e:id=m:=by simp at h2; omega
      exact ⟨_,if_pos e⟩
  · simp only at h
    split at h
    · injection h with h; subst h
      exact ⟨hbW,hsz,fun h=>Nat.lt_irrefl _ (Nat.lt_of_lt_of_le (hA _ h) hbW)⟩
    · cases h
  · have hi:i=0:=by
      have:=(List.getElem?_eq_some_iff.1 ho).1
      simp at this; exact this
    subst hi
    simp at ho; subst ho
    simp at hb'; subst hb'
    exact ⟨_,hat,.cells _ _ _ (Nat.zero_le _) fun k c h=>by simp at h⟩
  · simp only at h h'
    split at h
    · rename_i e
      split at h'
      · rename_i e'; exact e.trans e'.symm
      · cases h'
    · cases h
theorem growU0 [M:Mch Tryz.prog]:NSpecV Tryz.prog 103 [.nil,.d (.i .i64 0)] (fun _=>.nil) (fun _=>[]):=by
  intro A W vs hA hl hv
  obtain ⟨v0,v1,rfl⟩:=two_args hl
  have h1:=hv 0 _ v0 rfl rfl
  cases h1
  have h2:=hv 1 _ v1 rfl rfl
  cases h2 with | d _ _ h2 =>
  cases h2
  refine ⟨grow_enters _,?_⟩
  refine (grow_zero W).mono ?_
  rintro e w' ⟨rfl,hb⟩
  exact ⟨hb,fun m hm=>⟨A,fun _=>none,fun b h=>.inl h,.nil,fun id=>⟨fun ⟨b,h⟩=>(by cases h),fun h=>(by simp at h; omega)⟩,fun id b h=>(by cases h),fun i o b h=>(by simp at h),fun id id' b h h'=>(by cases h)⟩⟩
end Go.Am
end
section
open List renaming map_map→ζ,mapM_map→ξ
open Go Go.Am Go.Proofs
namespace Go.Am
theorem one_encU (l:List Nat):one (.d (encU l))=true:=rfl
theorem cellsA_encU (l:List Nat):cellsA (.d (encU l))=some [.d (encU l)]:=rfl
theorem inj1_encU (l:List Nat):inj1 (encU l)=.d (encU l):=rfl
theorem extB_nil (H:Hp) (n:Nat):extB H n []=H:=by
  funext id; unfold extB; rw [if_neg (by simp)]
theorem extB_one (H:Hp) (n:Nat) (o:HO):extB H n [o]=upd H n (some o):=by
  funext id; unfold extB upd
  by_cases h:id=n
  · subst h; simp
  · rw [if_neg (by simp; omega)]; simp [h]
theorem dU_flat (l:List Nat):((l.map fun (p:Nat)=>[D.i .u64 (p:Int)]).map (List.map AV.d)).flatten=(dU l).map AV.d:=by
  induction l with
  | nil=>rfl
  | cons x l ih=>simp only [List.map_cons,List.flatten_cons,ih]; rfl
theorem dU_app (a b:List Nat):dU (a++b)=dU a++dU b:=by simp [dU]
theorem dU_one' (l:List Nat):((dU l).map AV.d).all one=true:=by
  rw [List.all_eq_true]
  intro x hx
  obtain ⟨d,hd,rfl⟩:=List.mem_map.1 hx
  obtain ⟨p,_,rfl⟩:=List.mem_map.1 hd
  rfl
def encUU (a b:List Nat):D:=.sl [[encU a],[encU b]]
set_option maxHeartbeats 4000000 in
set_option maxRecDepth 10000 in
theorem concatU [M:Mch Tryz.prog] (a b:List Nat) (ha:a.length≤10000) (hb:b.length≤10000):Spec Tryz.prog 58 [encUU a b] (encU (a++b)):=by
  have hw0:IntKind.i64.wrap (a.length:Int)=(a.length:Int):=wrapQ
  have hw1:IntKind.i64.wrap ((a.length:Int)+b.length)=(a.length:Int)+b.length:=wrapQ
  have hwz:IntKind.i64.wrap 1=1:=by decide
  have hwz2:IntKind.i64.wrap 2=2:=by decide
  have h00:¬ (a.length:Int)<0:=by omega
  have h01:¬ (a.length:Int)+b.length<0:=by omega
  refine specQ (N:=36) Tryz.func58 ?_
  simp [-ζ,-ξ,↓KW,encUU,one_encU,cellsA_encU,inj1_encU]
  refine loopP_lu 3 ?_
  simp [-ζ,-ξ,↓KW,↓luP_succ,↓o1_makeFunc,↓o1_index,↓o1_callV,encUU,encU,one_encU,cellsA_encU,inj1_encU,hw0,hw1,hwz,hwz2,h00,h01]
  by_cases hab:a.length+b.length=0
  · have ea:a=[]:=List.eq_nil_of_length_eq_zero (by omega)
    have eb:b=[]:=List.eq_nil_of_length_eq_zero (by omega)
    subst ea; subst eb
    refine o1_nvcall (fun _=>.nil) (fun _=>[]) (by simp) (by simp) (by simp) (by rfl) (by simpa [oev_tmp,upd_ap] using growU0) ?_
    simp [-ζ,-ξ,↓KW,extB_nil,encU]
    refine loopP_lu 3 ?_
    simp [-ζ,-ξ,↓KW,↓luP_succ,↓o1_makeFunc,↓o1_index,↓o1_callV,encUU,encU,one_encU,cellsA_encU,inj1_encU,hwz,hwz2]
  · refine o1_nvcall (fun m=>.own m 0 0 1) (fun _=>[.cells 51 []]) (by simp) (by simp) (by simp) (by rfl) (by simpa [oev_tmp,upd_ap] using growU (a.length+b.length) (by omega) (by omega)) ?_
    have hok:∀ l:List Nat,okHead 1 (l.map fun (p:Nat)=>[D.i .u64 (p:Int)])=true:=fun l=>by cases l <;> simp [okHead]
    have hff:=dU_flat
    have hla:=dU_len a
    have hlb:=dU_len b
    have hbb:a.length * 8≤140737488355328∧a.length≤maxLen:=⟨by omega,le_maxLen (by omega)⟩
    have hbb2:(a.length+b.length) * 8≤140737488355328∧a.length+b.length≤maxLen:=⟨by omega,le_maxLen (by omega)⟩
    have hab':(a++b).length=a.length+b.length:=List.length_append
    have e1:List.take (a.length+b.length) ((dU (a++b)).map AV.d)=(dU (a++b)).map AV.d:=dU_take_all hab'
    have e2:chunk 1 (a.length+b.length) (dU (a++b))=(a++b).map fun (p:Nat)=>[D.i .u64 (p:Int)]:=chunk_dU hab'
    have e3:=dU_len (a++b)
    rw [hab'] at e3
    have e4:(dU a).map AV.d++(dU b).map AV.d=(dU (a++b)).map AV.d:=by rw [dU_app,List.map_append]
    have hone:=dU_one'
    simp [-ζ,-ξ,↓KW,extB_one,encU]
    refine loopP_lu 3 ?_
    simp [-ζ,-ξ,↓KW,↓luP_succ,↓o1_makeFunc,↓o1_index,↓o1_callV,encUU,encU,one_encU,cellsA_encU,inj1_encU,hwz,hwz2,appC,hok,hone,hff,hla,hlb,hbb,hbb2,e1,e2,e3,e4]
theorem inj_encU (l:List Nat):inj (encU l)=.d (encU l):=rfl
theorem kills_encU (H:Hp) (avs:List AV) (l:List Nat):killsOf H avs (encU l)=viss H avs:=rfl
set_option maxRecDepth 10000 in
theorem needed0 [M:Mch Tryz.prog] (n:Nat):Spec Tryz.prog 59 [encZN 0,.i .u64 n] (encU []):=by
  have hE:=enough0 0 (sz_big (by decide)) (sz_big (by decide)) (by decide)
  have h0:encZ 0=encZN 0:=encZn 0
  rw [h0] at hE
  simp only [decide_true] at hE
  refine spec_ofR (N:=31) follows_mixed Tryz.func59 rfl rfl rfl (by kernel_rfl) (by kernel_rfl) (by simp) ?_
  refine awpR_seqL (by kernel_rfl) ?_
  simp [-ζ,-ξ,↓KW,↓luP_succ,↓o1_makeFunc,↓o1_index,↓o1_callV,encZN_eq 0,cellsA_encM,one_encM]
  refine awpR_seqL (by kernel_rfl) ?_
  simp [-ζ,-ξ,↓KW,↓luP_succ,↓o1_makeFunc,↓o1_index,↓o1_callV,encZN_eq 0,cellsA_encM,one_encM,inj1_encM,inj_encM,kills_encM]
  refine callQ hE ?_
  simp [-ζ,-ξ,↓KW,↓luP_succ,↓o1_makeFunc,↓o1_index,↓o1_callV,encZN_eq 0,cellsA_encM,one_encM,inj1_encM,inj_encM,kills_encM,encU]
def needL (c:Nat):Nat→List Nat→List Nat
  | acc,[]=>[]
  | acc,p::l=>if c<acc then [] else p::needL c (acc * p) l
theorem needL_prefix (c:Nat):∀ (l:List Nat) (acc:Nat),∃ k,needL c acc l=l.take k
  | [],acc=>⟨0,by simp [needL]⟩
  | p::l,acc=>by
    unfold needL
    split
    · exact ⟨0,rfl⟩
    · obtain ⟨k,hk⟩:=needL_prefix c l (acc * p)
      exact ⟨k+1,by simp [hk]⟩
theorem needL_big (c:Nat):∀ (l:List Nat) (acc:Nat),c<acc * prodL l→c<acc * prodL (needL c acc l)
  | [],acc,h=>by simpa [needL] using h
  | p::l,acc,h=>by
    unfold needL
    split
    · rename_i h1; simpa [prodL] using h1
    · have:=needL_big c l (acc * p) (by simpa [prodL,Nat.mul_assoc] using h)
      simpa [prodL,Nat.mul_assoc] using this
theorem needL_low (c:Nat):∀ (l:List Nat) (acc k:Nat),k<(needL c acc l).length→acc * prodL ((needL c acc l).take k)≤c
  | [],acc,k,h=>by simp [needL] at h
  | p::l,acc,k,h=>by
    unfold needL at h ⊢
    split
    · rename_i h1; simp [h1] at h
    · rename_i h1
      rw [if_neg h1] at h
      cases k with
      | zero=>simp [prodL]; omega
      | succ k =>
        have:=needL_low c l (acc * p) k (by simpa using h)
        simpa [prodL,Nat.mul_assoc] using this
theorem needL_ndd {b:Nat} {l:List Nat} (h:2 * b<prodL l):Ndd b (needL (2 * b) 1 l) where
  big:=by have:=needL_big (2 * b) l 1 (by simpa using h); simpa using this
  low k hk:=by have:=needL_low (2 * b) l 1 k hk; simpa using this
def wpL (b k:Nat):List Nat:=P10.take (2 * k)++needL (2 * b) 1 (P10.drop (2 * k))
set_option maxHeartbeats 4000000 in
set_option maxRecDepth 10000 in
theorem wp_nil [M:Mch Tryz.prog] (b:Nat) (N:List Nat) (hN:N.length≤1000) (hNe:Spec Tryz.prog 59 [encZN b,.i .u64 2147483648] (encU N)):Spec Tryz.prog 19 [encZN b,.i .i64 0] (encU N):=by
  have hPr:=primes0Spec 2147483648
  have hC:=concatU [] N (by simp) (by omega)
  rw [List.nil_append] at hC
  refine specQ (N:=26) Tryz.func19 ?_
  simp [-ζ,-ξ,↓KW,encZN_eq b,cellsA_encM,one_encM]
  refine callQ hPr ?_
  have hnil:encU []=.sl []:=rfl
  simp [-ζ,-ξ,↓KW,hnil,cellsA_encM,one_encM,inj1_encM,inj_encM,kills_encM]
  refine callQ hNe ?_
  simp [-ζ,-ξ,↓KW,one_encU,cellsA_encU,inj1_encU,inj_encU,kills_encU]
  refine callQ hC ?_
  simp [-ζ,-ξ,↓KW,one_encU,cellsA_encU,inj1_encU,inj_encU,kills_encU]
set_option maxHeartbeats 4000000 in
set_option maxRecDepth 10000 in
theorem wp_some [M:Mch Tryz.prog] (b k p:Nat) (T N:List Nat) (hN:N.length≤1000) (hk:k≤3) (hT:T.length+1=2 * k) (hPr:Spec Tryz.prog 57 [.i .u64 2147483648,.i .i64 ((2 * k:Nat):Int)] (encU (T++[p]))) (hNe:Spec Tryz.prog 59 [encZN b,.i .u64 p] (encU N)):Spec Tryz.prog 19 [encZN b,.i .i64 k] (encU (T++[p]++N)):=by
  have hC:=concatU (T++[p]) N (by simp; omega) (by omega)
  have hmin:(if (1073741824:Int)<(k:Int) then (1073741824:Int) else (k:Int))=k:=by rw [if_neg (by omega)]
  have hw:IntKind.i64.wrap (2 * (k:Int))=((2 * k:Nat):Int):=by rw [show 2 * (k:Int)=((2 * k:Nat):Int) from by omega]; exact wrapQ
  have hwl:IntKind.i64.wrap (T.length:Int)=(T.length:Int):=wrapQ
  have h0:(0:Int)<(T.length:Int)+1:=by omega
  refine specQ (N:=26) Tryz.func19 ?_
  simp [-ζ,-ξ,↓KW,encZN_eq b,cellsA_encM,one_encM]
  rw [hmin]
  simp [-ζ,-ξ,↓KW,hw]
  refine callQ hPr ?_
  have hlen:∃ l,encU (T++[p])=.sl l∧l.length=T.length+1∧l[T.length]? = some [.i .u64 (p:Int)]:=⟨_,rfl,by simp,by simp⟩
  obtain ⟨l,hl,hl1,hl2⟩:=hlen
  have hl3:inj (encU (T++[p]))=.d (.sl l):=by rw [inj_encU,hl]
  have hl4:encUU (T++[p]) N=.sl [[.sl l],[encU N]]:=by rw [← hl]; rfl
  rw [hl4] at hC
  have hl5:∀ h,l[T.length]'h=[.i .u64 (p:Int)]:=fun h=>by rw [List.getElem?_eq_getElem h] at hl2; injection hl2
  simp [-ζ,-ξ,↓KW,hl3,kills_encU,hl1,h0,hwl,hl2,hl5,one_encU,cellsA_encU,inj1_encU,cellsA_encM,one_encM,inj1_encM,inj_encM,kills_encM]
  refine callQ hNe ?_
  simp [-ζ,-ξ,↓KW,one_encU,cellsA_encU,inj1_encU,inj_encU,kills_encU]
  refine callQ hC ?_
  simp [-ζ,-ξ,↓KW,one_encU,cellsA_encU,inj1_encU,inj_encU,kills_encU]
theorem p10_len:P10.length=10:=rfl
theorem mem_needL {c acc:Nat} {l:List Nat} {p:Nat} (h:p∈needL c acc l):p∈l:=by
  obtain ⟨k,hk⟩:=needL_prefix c l acc
  rw [hk] at h
  exact List.mem_of_mem_take h
theorem big_ok:∀ k:Nat,k≤3→2 * 2 ^ 96<prodL (P10.drop (2 * k)):=by decide
theorem neededW [M:Mch Tryz.prog] (b k:Nat) (hb:b<2 ^ 96) (hk:k≤3):Spec Tryz.prog 59 [encZN b,.i .u64 ((if 2 * k=0 then 2147483648 else P10[2 * k - 1]! : Nat):Int)] (encU (needL (2 * b) 1 (P10.drop (2 * k)))):=by
  have hbig:=big_ok k hk
  have hD:=Desc.drop (k:=2 * k) desc10 (by rw [p10_len]; omega)
  have hm:∀ p∈P10.drop (2 * k),p∈P10:=fun p hp=>List.mem_of_mem_drop hp
  have hln:(P10.drop (2 * k)).length≤10:=by rw [List.length_drop,p10_len]; omega
  generalize (if 2 * k=0 then 2147483648 else P10[2 * k - 1]! : Nat)=n at *
  generalize P10.drop (2 * k)=L at *
  rcases Nat.eq_zero_or_pos b with h0 | h0
  · subst h0
    have e:needL (2 * 0) 1 L=[]:=by
      cases L with
      | nil=>rfl
      | cons p L=>rfl
    rw [e]; exact needed0 n
  · have hN:=needL_ndd (b:=b) (l:=L) (by omega)
    have hlow:=needL_low (2 * b) L 1
    have hmm:∀ p∈needL (2 * b) 1 L,p∈P10:=fun p hp=>hm p (mem_needL hp)
    obtain ⟨j,hj⟩:=needL_prefix (2 * b) L 1
    have hD2:Desc n (needL (2 * b) 1 L):=by rw [hj]; exact Desc.take hD
    generalize needL (2 * b) 1 L=N at *
    have hl6:N.length≤7:=by
      refine Decidable.byContradiction fun hc=>?_
      have h8:=hlow 7 (by omega)
      have hmin:∀ l:List Nat,(∀ p∈l,1073741824≤p)→1073741824 ^ l.length≤prodL l:=by
        intro l
        induction l with
        | nil=>intro _; simp [prodL]
        | cons x l ih =>
          intro h
          rw [List.length_cons,Nat.pow_succ,Nat.mul_comm]
          exact Nat.mul_le_mul (h x (List.mem_cons_self ..)) (ih fun p hp=>h p (List.mem_cons_of_mem _ hp))
      have hge:∀ p∈P10,1073741824≤p:=by decide
      have h9:=hmin (N.take 7) fun p hp=>hge p (hmm p (List.mem_of_mem_take hp))
      have hl7:(N.take 7).length=7:=by rw [List.length_take]; omega
      rw [hl7] at h9
      have h10:(1073741824:Nat) ^ 7=2 ^ 210:=by decide
      have h11:(2:Nat) ^ 96 * 2 ^ 114=2 ^ 210:=by decide
      have h12:(2:Nat) ^ 114=20769187434139310514121985316880384:=by decide
      have h13:(2:Nat) ^ 96=79228162514264337593543950336:=by decide
      omega
    cases N with
    | nil=>exact absurd hN.big (by simp [prodL]; omega)
    | cons p0 ps=>exact neededSpec b n p0 ps (by omega) h0 hD2 (by simp at hl6; omega) hN fun p hp=>wordN (hmm p hp)
theorem wPrimes [M:Mch Tryz.prog] (b k:Nat) (hb:b<2 ^ 96) (hk:k≤3):Spec Tryz.prog 19 [encZN b,.i .i64 k] (encU (wpL b k)):=by
  have hN:=neededW b k hb hk
  have hl:(needL (2 * b) 1 (P10.drop (2 * k))).length≤1000:=by
    obtain ⟨j,hj⟩:=needL_prefix (2 * b) (P10.drop (2 * k)) 1
    have:=List.length_take_le' j (P10.drop (2 * k))
    have h2:(P10.drop (2 * k)).length≤10:=by rw [List.length_drop,p10_len]; omega
    rw [hj]; omega
  have hd:=desc10
  unfold wpL
  have hk4:k=0∨k=1∨k=2∨k=3:=by omega
  rcases hk4 with rfl | rfl | rfl | rfl
  · exact wp_nil b _ hl hN
  · exact wp_some b 1 2147483629 [2147483647] _ hl (by omega) rfl (primesSpec 2147483648 2147483647 [2147483629] (Desc.take (k:=2) hd) (by decide)) hN
  · exact wp_some b 2 2147483579 [2147483647,2147483629,2147483587] _ hl (by omega) rfl (primesSpec 2147483648 2147483647 [2147483629,2147483587,2147483579] (Desc.take (k:=4) hd) (by decide)) hN
  · exact wp_some b 3 2147483549 [2147483647,2147483629,2147483587,2147483579,2147483563] _ hl (by omega) rfl (primesSpec 2147483648 2147483647 [2147483629,2147483587,2147483579,2147483563,2147483549] (Desc.take (k:=6) hd) (by decide)) hN
def Pr3 (n:Nat):Prop:=2≤n∧n<2147483648∧∀ d,2≤d→d * d≤n→n % d≠0
set_option maxHeartbeats 4000000 in
set_option maxRecDepth 10000 in
theorem r03Prime [M:Mch Tryz.prog] (n:Nat) (b:Bool) (hb:b=true↔Pr3 n) (hn:n<18446744073709551616):Spec Tryz.prog 98 [.i .u64 n] (.b b):=by
  refine specQ (N:=21) Tryz.func98 ?_
  simp [-ζ,-ξ,↓KW]
  by_cases h1:n<2
  · have hbf:b=false:=by
      cases b with
      | false=>rfl
      | true=>have:=hb.1 rfl; unfold Pr3 at this; omega
    have hi:decide ((n:Int)<2)=true:=by simp; omega
    subst hbf
    simp [-ζ,-ξ,↓KW,hi,h1]
  by_cases h2:2147483648≤n
  · have hbf:b=false:=by
      cases b with
      | false=>rfl
      | true=>have:=hb.1 rfl; unfold Pr3 at this; omega
    subst hbf
    have hi:¬ ((n:Int)<2):=by omega
    have hj:(2147483648:Int)≤(n:Int):=by omega
    simp [-ζ,-ξ,↓KW,hi,hj,h1,h2]
  have hi:¬ ((n:Int)<2):=by omega
  have hj:¬ (2147483648:Int)≤(n:Int):=by omega
  simp [-ζ,-ξ,↓KW,hi,hj,h1,h2]
  refine loopP_inv (τ:=Nat) (fun d=>2≤d∧d≤46341∧∀ e,2≤e→e<d→n % e≠0) (fun d=>StL [(0,.d (.i .u64 n)),(3,.d (.i .u64 d))] none []) (fun d=>46341 - d) 2 ⟨by omega,by omega,fun e h1 h2=>by omega⟩ ?_ ?_
  · refine wkQ [] ?_ ?_ <;> simp [-ζ,upd,inj1,Γ0]
  · rintro d ⟨h3,h4,h5⟩
    have hw:IntKind.u64.wrap ((d:Int) * (d:Int))=((d * d:Nat):Int):=by
      rw [← Int.natCast_mul]
      have:=Nat.mul_le_mul h4 h4
      exact wrap_u64 (by omega) (by omega)
    have hd0:((d:Int) == 0)=false:=by simp; omega
    have hd1:¬ d=0:=by omega
    have htm:((n:Int).tmod (d:Int))=((n % d:Nat):Int):=by rw [Int.tmod_eq_emod_of_nonneg (by omega)]; rfl
    have hw1:IntKind.u64.wrap ((d:Int)+1)=((d+1:Nat):Int):=wrap_u64 (by omega) (by omega)
    by_cases hd:d * d≤n
    · have hle:decide (((d * d:Nat):Int)≤(n:Int))=true:=by simp only [decide_eq_true_eq]; omega
      have hd2:d<46341:=by
        refine Decidable.byContradiction fun hc=>?_
        have:d=46341:=by omega
        subst this; omega
      by_cases hz:n % d=0
      · have hbf:b=false:=by
          cases b with
          | false=>rfl
          | true=>exact absurd hz ((hb.1 rfl).2.2 d h3 hd)
        have hzi:(((n % d:Nat):Int) == 0)=true:=by rw [hz]; rfl
        subst hbf
        generalize d * d=dd at *
        generalize n % d=r at *
        simp [-ζ,-ξ,↓KW,hw,hd,hd0,hd1,htm,hzi]
      · have hzi:(((n % d:Nat):Int) == 0)=false:=by simp; omega
        have hst:∀ e,2≤e→e<d+1→n % e≠0:=fun e g1 g2=>by
          by_cases g:e=d
          · subst g; exact hz
          · exact h5 e g1 (by omega)
        generalize d * d=dd at *
        generalize n % d=r at *
        simp [-ζ,-ξ,↓KW,hw,hd,hd0,hd1,htm,hzi,hw1]
        refine nxt_intro (d+1) ⟨by omega,by omega,hst⟩ (by show 46341 - (d+1)<46341 - d; omega) (wkQ [] ?_ ?_) <;> simp [-ζ,upd,inj1,Γ0]
    · have hle:decide (((d * d:Nat):Int)≤(n:Int))=false:=by simp only [decide_eq_false_iff_not]; omega
      have hbt:b=true:=hb.2 ⟨by omega,by omega,fun e g1 g2=>h5 e g1 (by
        refine Decidable.byContradiction fun hc=>hd ?_
        exact Nat.le_trans (Nat.mul_le_mul (by omega) (by omega)) g2)⟩
      subst hbt
      generalize d * d=dd at *
      simp [-ζ,-ξ,↓KW,hw,hd]
set_option maxHeartbeats 4000000 in
set_option maxRecDepth 10000 in
theorem r03Before [M:Mch Tryz.prog] (n m:Nat) (h:m<n) (hn:n≤2147483648) (hp:∀ v:Nat,m≤v→v<n→Spec Tryz.prog 98 [.i .u64 v] (.b (decide (v=m)))):Spec Tryz.prog 60 [.i .u64 n] (.i .u64 m):=by
  refine specQ (N:=15) Tryz.func60 ?_
  have hmin:(if (2147483648:Int)<(n:Int) then (2147483648:Int) else (n:Int))=n:=by rw [if_neg (by omega)]
  simp [-ζ,-ξ,↓KW]
  rw [hmin]
  refine loopP_inv (τ:=Nat) (fun v=>m<v∧v≤n) (fun v=>StL [(3,.d (.i .u64 v))] none []) (fun v=>v) n ⟨h,Nat.le_refl _⟩ ?_ ?_
  · refine wkQ [] ?_ ?_ <;> simp [-ζ,upd,inj1,Γ0]
  · rintro v ⟨h1,h2⟩
    have hv0:0<v:=by omega
    have hw:IntKind.u64.wrap ((v:Int) - 1)=((v - 1:Nat):Int):=by
      rw [show ((v:Int) - 1)=((v - 1:Nat):Int) from by omega]
      exact wrap_u64 (by omega) (by omega)
    have hP:=hp (v - 1) (by omega) (by omega)
    by_cases he:v - 1=m
    · rw [decide_eq_true he] at hP
      generalize v - 1=u at *
      subst he
      simp [-ζ,-ξ,↓KW,hv0,hw]
      refine callQ hP ?_
      simp [-ζ,-ξ,↓KW]
    · rw [decide_eq_false he] at hP
      have hlt:v - 1<v:=by omega
      have hmv:m<v - 1:=by omega
      have hvn:v - 1≤n:=by omega
      generalize v - 1=u at *
      simp [-ζ,-ξ,↓KW,hv0,hw]
      refine callQ hP ?_
      simp [-ζ,-ξ,↓KW]
      refine nxt_intro u ⟨hmv,hvn⟩ hlt (wkQ [] ?_ ?_) <;> simp [-ζ,upd,inj1,Γ0]
def noDv (n:Nat):Nat→Nat→Bool
  | 0,d=>!(Nat.beq (n % d) 0)
  | k+1,d=>noDv n k d && noDv n k (d+2 * 2 ^ k)
theorem noDv_ok {n:Nat}:∀ {k d:Nat},noDv n k d=true→∀ i,i<2 ^ k→n % (d+2 * i)≠0
  | 0,d,h,i,hi=>by
    have:i=0:=by simpa using hi
    subst this
    intro hz
    unfold noDv at h
    simp only [Nat.mul_zero,Nat.add_zero] at hz
    rw [hz] at h; cases h
  | k+1,d,h,i,hi=>by
    unfold noDv at h
    simp only [Bool.and_eq_true] at h
    by_cases hk:i<2 ^ k
    · exact noDv_ok h.1 i hk
    · have:=noDv_ok h.2 (i - 2 ^ k) (by rw [Nat.pow_succ] at hi; omega)
      rwa [show d+2 * 2 ^ k+2 * (i - 2 ^ k)=d+2 * i from by omega] at this
theorem pr3_of {n:Nat} (h0:2≤n) (h1:n<2147483648) (h2:n % 2≠0) (h3:noDv n 15 3=true):Pr3 n:=by
  refine ⟨h0,h1,fun d g1 g2 hz=>?_⟩
  have hd:d<46341:=by
    refine Decidable.byContradiction fun hc=>?_
    have:=Nat.mul_le_mul (show 46341≤d by omega) (show 46341≤d by omega)
    omega
  rcases Nat.mod_two_eq_zero_or_one d with he | he
  · have:=Nat.mod_mod_of_dvd n (Nat.dvd_of_mod_eq_zero he)
    rw [hz] at this
    exact h2 this.symm
  · have hk:=noDv_ok h3 ((d - 3) / 2) (by show (d - 3) / 2<32768; omega)
    rw [show 3+2 * ((d - 3) / 2)=d from by omega] at hk
    exact hk hz
def compB:Nat→List Nat→Bool
  | _,[]=>true
  | v,d::l=>Nat.beq (v % d) 0 && (Nat.ble 2 d && (Nat.ble (d * d) v && compB (v+1) l))
theorem compB_ok:∀ {v:Nat} {l:List Nat},compB v l=true→∀ k,k<l.length→¬ Pr3 (v+k)
  | v,[],h,k,hk=>by simp at hk
  | v,d::l,h,k,hk=>by
    unfold compB at h
    simp only [Bool.and_eq_true,Nat.beq_eq_true_eq] at h
    cases k with
    | zero=>exact fun hp=>hp.2.2 d (Nat.le_of_ble_eq_true h.2.1) (Nat.le_of_ble_eq_true h.2.2.1) (Nat.eq_of_beq_eq_true h.1)
    | succ k =>
      have:=compB_ok h.2.2.2 k (by simpa using hk)
      rwa [show v+1+k=v+(k+1) from by omega] at this
theorem r03_of [M:Mch Tryz.prog] {n m:Nat} {l:List Nat} (hl:l.length=n - (m+1)) (h:m<n) (hn:n≤2147483648) (hm:Pr3 m) (hc:compB (m+1) l=true):Spec Tryz.prog 60 [.i .u64 n] (.i .u64 m):=by
  refine r03Before n m h hn fun v h1 h2=>r03Prime v _ ?_ (by omega)
  by_cases hv:v=m
  · subst hv; simp [hm]
  · have:=compB_ok hc (v - (m+1)) (by omega)
    rw [show m+1+(v - (m+1))=v from by omega] at this
    simp [hv,this]
def ws0:List Nat:=[]
theorem np0:noDv 2147483647 15 3=true:=by kernel_rfl
theorem r3b0 [M:Mch Tryz.prog]:Spec Tryz.prog 60 [.i .u64 2147483648] (.i .u64 2147483647):=r03_of (n:=2147483648) (m:=2147483647) (l:=ws0) (by kernel_rfl) (by decide) (by decide) (pr3_of (by decide) (by decide) (by decide) np0) (by kernel_rfl)
def ws1:List Nat:=[2,3,2,5843,2,5,2,3,2,7,2,2699,2,3,2,5,2]
theorem np1:noDv 2147483629 15 3=true:=by kernel_rfl
theorem r3b1 [M:Mch Tryz.prog]:Spec Tryz.prog 60 [.i .u64 2147483647] (.i .u64 2147483629):=r03_of (n:=2147483647) (m:=2147483629) (l:=ws1) (by kernel_rfl) (by decide) (by decide) (pr3_of (by decide) (by decide) (by decide) np1) (by kernel_rfl)
def ws2:List Nat:=[2,3,2,11,2,59,2,3,2,7,2,1657,2,3,2,1187,2,5,2,3,2,41,2,7,2,3,2,5,2,6733,2,3,2,14741,2,79,2,3,2,47,2]
theorem np2:noDv 2147483587 15 3=true:=by kernel_rfl
theorem r3b2 [M:Mch Tryz.prog]:Spec Tryz.prog 60 [.i .u64 2147483629] (.i .u64 2147483587):=r03_of (n:=2147483629) (m:=2147483587) (l:=ws2) (by kernel_rfl) (by decide) (by decide) (pr3_of (by decide) (by decide) (by decide) np2) (by kernel_rfl)
def ws3:List Nat:=[2,89,2,3,2,5,2]
theorem np3:noDv 2147483579 15 3=true:=by kernel_rfl
theorem r3b3 [M:Mch Tryz.prog]:Spec Tryz.prog 60 [.i .u64 2147483587] (.i .u64 2147483579):=r03_of (n:=2147483587) (m:=2147483579) (l:=ws3) (by kernel_rfl) (by decide) (by decide) (pr3_of (by decide) (by decide) (by decide) np3) (by kernel_rfl)
def ws4:List Nat:=[2,3,2,11503,2,7,2,3,2,23,2,5,2,3,2]
theorem np4:noDv 2147483563 15 3=true:=by kernel_rfl
theorem r3b4 [M:Mch Tryz.prog]:Spec Tryz.prog 60 [.i .u64 2147483579] (.i .u64 2147483563):=r03_of (n:=2147483579) (m:=2147483563) (l:=ws4) (by kernel_rfl) (by decide) (by decide) (pr3_of (by decide) (by decide) (by decide) np4) (by kernel_rfl)
def ws5:List Nat:=[2,32063,2,3,2,5,2,3181,2,3,2,167,2]
theorem np5:noDv 2147483549 15 3=true:=by kernel_rfl
theorem r3b5 [M:Mch Tryz.prog]:Spec Tryz.prog 60 [.i .u64 2147483563] (.i .u64 2147483549):=r03_of (n:=2147483563) (m:=2147483549) (l:=ws5) (by kernel_rfl) (by decide) (by decide) (pr3_of (by decide) (by decide) (by decide) np5) (by kernel_rfl)
def ws6:List Nat:=[2,5,2,3,2]
theorem np6:noDv 2147483543 15 3=true:=by kernel_rfl
theorem r3b6 [M:Mch Tryz.prog]:Spec Tryz.prog 60 [.i .u64 2147483549] (.i .u64 2147483543):=r03_of (n:=2147483549) (m:=2147483543) (l:=ws6) (by kernel_rfl) (by decide) (by decide) (pr3_of (by decide) (by decide) (by decide) np6) (by kernel_rfl)
def ws7:List Nat:=[2,3,2,523,2,11,2,3,2,13,2,149,2,3,2,7,2,5,2,3,2,257,2,53,2,3,2,5,2,7,2,3,2,19,2,13,2,3,2,17,2,409,2,3,2]
theorem np7:noDv 2147483497 15 3=true:=by kernel_rfl
theorem r3b7 [M:Mch Tryz.prog]:Spec Tryz.prog 60 [.i .u64 2147483543] (.i .u64 2147483497):=r03_of (n:=2147483543) (m:=2147483497) (l:=ws7) (by kernel_rfl) (by decide) (by decide) (pr3_of (by decide) (by decide) (by decide) np7) (by kernel_rfl)
def ws8:List Nat:=[2,31,2,3,2,5,2]
theorem np8:noDv 2147483489 15 3=true:=by kernel_rfl
theorem r3b8 [M:Mch Tryz.prog]:Spec Tryz.prog 60 [.i .u64 2147483497] (.i .u64 2147483489):=r03_of (n:=2147483497) (m:=2147483489) (l:=ws8) (by kernel_rfl) (by decide) (by decide) (pr3_of (by decide) (by decide) (by decide) np8) (by kernel_rfl)
def ws9:List Nat:=[2,191,2,3,2,30649,2,5,2,3,2]
theorem np9:noDv 2147483477 15 3=true:=by kernel_rfl
theorem r3b9 [M:Mch Tryz.prog]:Spec Tryz.prog 60 [.i .u64 2147483489] (.i .u64 2147483477):=r03_of (n:=2147483489) (m:=2147483477) (l:=ws9) (by kernel_rfl) (by decide) (by decide) (pr3_of (by decide) (by decide) (by decide) np9) (by kernel_rfl)
def DescR [M:Mch Tryz.prog]:Nat→List Nat→Prop
  | _,[]=>True
  | n,p::l=>0<p∧p<2147483648∧Spec Tryz.prog 60 [.i .u64 n] (.i .u64 p)∧DescR p l
theorem descR10 [M:Mch Tryz.prog]:DescR 2147483648 P10:=⟨by decide,by decide,r3b0,by decide,by decide,r3b1,by decide,by decide,r3b2,by decide,by decide,r3b3,by decide,by decide,r3b4,by decide,by decide,r3b5,by decide,by decide,r3b6,by decide,by decide,r3b7,by decide,by decide,r3b8,by decide,by decide,r3b9,trivial⟩
theorem szR {z:Int} (h:z.natAbs<2 ^ 256):(digs z.natAbs).length≤137438953472∧(digs z.natAbs).length≤549755813888:=by
  have:=digs_len_le (n:=z.natAbs) (k:=8) (Nat.lt_of_lt_of_le h (by decide))
  omega
theorem r01CmpB [M:Mch Tryz.prog] (x y:Int) (hx:x.natAbs<2 ^ 255) (hy:y.natAbs<2 ^ 255):Spec Tryz.prog 23 [encZ x,encZ y] (.i .i64 (x - y).sign):=by
  have hS:=r01SubB x y (szR (by omega)).2 (szR (by omega)).2
  have hG:=r01SignZ (x - y)
  generalize x - y=z at *
  refine specQ (N:=9) Tryz.func23 ?_
  simp [-ζ,-ξ,↓KW,encZ_eq x,encZ_eq y,cellsA_encM,one_encM,inj1_encM,inj_encM,kills_encM]
  refine callQ hS ?_
  simp [-ζ,-ξ,↓KW,encZ_eq z,cellsA_encM,one_encM,inj1_encM,inj_encM,kills_encM]
  refine callQ hG ?_
  simp [-ζ,-ξ,↓KW]
theorem r01AddN [M:Mch Tryz.prog] {x y:Nat} (hx:x<2 ^ 255) (hy:y<2 ^ 255):Spec Tryz.prog 22 [encZN x,encZN y] (encZN (x+y)):=by
  have:=r01AddZ (x:Int) (y:Int) (szR (by simp; omega)).2 (szR (by simp; omega)).2
  rwa [← Int.natCast_add,encZn,encZn,encZn] at this
theorem r01MulN [M:Mch Tryz.prog] {x y:Nat} (hx:x<2 ^ 255) (hy:y<2 ^ 255):Spec Tryz.prog 24 [encZN x,encZN y] (encZN (x * y)):=by
  have:=r01MulZ (x:Int) (y:Int) (szR (by simp; omega)).1 (szR (by simp; omega)).1
  rwa [← Int.natCast_mul,encZn,encZn,encZn] at this
theorem r01OfN [M:Mch Tryz.prog] {x:Nat} (hx:x<9223372036854775808):Spec Tryz.prog 11 [.i .i64 x] (encZN x):=by
  have:=r01Of (x:Int) (by omega) (by omega)
  rwa [encZn] at this
theorem r01CmpN [M:Mch Tryz.prog] {x y:Nat} (hx:x<2 ^ 255) (hy:y<2 ^ 255):∃ r:Int,Spec Tryz.prog 23 [encZN x,encZN y] (.i .i64 r)∧(r≤0↔x≤y)∧(0<r↔y<x):=by
  have:=r01CmpB (x:Int) (y:Int) (by simpa using hx) (by simpa using hy)
  rw [encZn,encZn] at this
  refine ⟨_,this,?_⟩
  rw [sgn_val]
  constructor <;> split <;> (try split) <;> omega
def pvL (n:Nat) (L:List Nat) (k:Nat):Nat:=match k with | 0=>n | k+1=>L[k]!
theorem DescR.at [M:Mch Tryz.prog]:∀ {n:Nat} {L:List Nat} {k:Nat},DescR n L→k<L.length→(0<L[k]! ∧ L[k]! < 2147483648)∧Spec Tryz.prog 60 [.i .u64 (pvL n L k)] (.i .u64 (L[k]! : Nat))
  | n,[],k,h,hk=>by simp at hk
  | n,x::l,0,h,hk=>⟨⟨h.1,h.2.1⟩,h.2.2.1⟩
  | n,x::l,1,h,hk=>by
    have:=DescR.at (k:=0) h.2.2.2 (by simpa using hk)
    simpa [pvL] using this
  | n,x::l,k+2,h,hk=>by
    have:=DescR.at (k:=k+1) h.2.2.2 (by simp only [List.length_cons] at hk; omega)
    simpa [pvL] using this
theorem pvL_succ (n:Nat) (L:List Nat) (k:Nat):pvL n L (k+1)=L[k]! := rfl
def rS (k b c q i:Nat) (T:List Nat) (p:Nat):St:=StL [(1,.d (.i .i64 (k:Int))),(2,.ptr 1 0),(5,.own 2 0 T.length 1),(6,.ptr 3 0),(7,.d (.i .u64 (p:Int))),(8,.ptr 4 0),(9,.d (.i .i64 (i:Int)))] none [.cells 31 [.d (.b false),.d (encM (digs b))],.cells 51 ((dU T).map .d),.cells 31 [.d (.b false),.d (encM (digs q))],.cells 31 [.d (.b false),.d (encM (digs c))]]
def rS2 (b c q:Nat) (T:List Nat) (p:Nat):St:=StL [(2,.ptr 1 0),(5,.own 2 0 T.length 1),(6,.ptr 3 0),(7,.d (.i .u64 (p:Int))),(8,.ptr 4 0)] none [.cells 31 [.d (.b false),.d (encM (digs b))],.cells 51 ((dU T).map .d),.cells 31 [.d (.b false),.d (encM (digs q))],.cells 31 [.d (.b false),.d (encM (digs c))]]
set_option maxHeartbeats 4000000 in
set_option maxRecDepth 10000 in
theorem r20Primes [M:Mch Tryz.prog] (b k:Nat) (hb:b<2 ^ 96) (hk:k≤3):Spec Tryz.prog 21 [encZN b,.i .i64 k] (encU (wpL b k)):=by
  have hO:=r01OfN (x:=1) (by omega)
  have hA:=r01AddN (x:=b) (y:=b) (by omega) (by omega)
  rw [← Nat.two_mul] at hA
  have hD:=descR10
  unfold wpL
  obtain ⟨L,hL⟩:∃ L,L=P10:=⟨_,rfl⟩
  rw [← hL] at hD ⊢
  obtain ⟨c,hc⟩:∃ c,2 * b=c:=⟨_,rfl⟩
  rw [hc] at hA ⊢
  refine specQ (N:=43) Tryz.func21 ?_
  simp [-ζ,-ξ,↓KW,encZN_eq b,cellsA_encM,one_encM]
  refine callQ hO ?_
  simp [-ζ,-ξ,↓KW,encZN_eq 1,encZN_eq b,cellsA_encM,one_encM,inj1_encM,inj_encM,kills_encM]
  refine callQ hA ?_
  simp [-ζ,-ξ,↓KW,encZN_eq c,encZN_eq b,cellsA_encM,one_encM,inj1_encM,inj_encM,kills_encM]
  have hlen:L.length=10:=by rw [hL]; rfl
  refine loopP_invW (τ:=Nat) (fun i=>i≤2 * k) (fun i=>rS k b c 1 i (L.take i) (pvL 2147483648 L i)) (fun i=>2 * k - i) 0 (Nat.zero_le _) ?_ ?_
  · unfold rS
    refine wkQ [1,2,3,4] ?_ ?_ <;> simp [-ζ,upd,inj1,Γ0,pvL,dU]
  · intro i hi
    have hw:IntKind.i64.wrap (2 * (k:Int))=((2 * k:Nat):Int):=by rw [show 2 * (k:Int)=((2 * k:Nat):Int) from by omega]; exact wrapQ
    have hw1:IntKind.i64.wrap ((i:Int)+1)=((i+1:Nat):Int):=wrapQ
    by_cases hlt:i<2 * k
    · obtain ⟨hx,hB⟩:=DescR.at (k:=i) hD (by omega)
      have hps:=pvL_succ 2147483648 L i
      have hge:L[i]? = some L[i]! := by rw [getElem!_pos L i (by omega)]; exact List.getElem?_eq_getElem (by omega)
      have hT:L.take (i+1)=L.take i++[L[i]!]:=by rw [List.take_add_one,hge]; rfl
      have hTl:(L.take i).length=i:=by rw [List.length_take]; omega
      generalize L.take i=T at *
      generalize pvL 2147483648 L i=p at *
      generalize L[i]! = p' at *
      have hli:(i:Int)<2 * (k:Int):=by omega
      have hbb:=app_boundU (n:=T.length) (by omega)
      unfold rS
      simp [-ζ,-ξ,↓KW,hw,hli,dU_len]
      refine callQ hB ?_
      simp [-ζ,-ξ,↓KW,dU_len,hbb,le_maxLen,cellsA_encM,one_encM,hw1]
      refine nxt_intro (i+1) (by omega) (by show 2 * k - (i+1)<2 * k - i; omega) ?_
      show ∃ ρ,Wk _ (StL _ _ _) ρ
      rw [hT,hps]
      refine wkQ [1,6,3,4] ?_ ?_ <;> simp [-ζ,upd,inj1,Γ0,List.contains_cons,subL_own_iff,dU_app,dU_one]
    · have hie:i=2 * k:=by omega
      have hli:¬ (i:Int)<2 * (k:Int):=by omega
      have hTl:(L.take i).length=i:=by rw [List.length_take]; omega
      have hcat:∀ j,L.take i++(L.drop i).take j=L.take (i+j):=fun j=>List.take_add.symm
      have hbigL:c<prodL (L.drop i):=by rw [hie,hL,← hc]; exact Nat.lt_of_le_of_lt (by omega) (big_ok k hk)
      have hmem:∀ p∈L,p<2147483648:=by rw [hL]; decide
      rw [← hie]
      obtain ⟨J,hJ⟩:=needL_prefix c (L.drop i) 1
      have hlow:=needL_low c (L.drop i) 1
      have hbig:=needL_big c (L.drop i) 1 (by omega)
      have hJJ:∃ J,needL c 1 (L.drop i)=(L.drop i).take J∧J≤(L.drop i).length:=⟨min J (L.drop i).length,by rw [hJ]; simp [List.take_eq_take_iff],by omega⟩
      obtain ⟨J,hJ,hJl⟩:=hJJ
      have hNl:(needL c 1 (L.drop i)).length=J:=by rw [hJ,List.length_take]; omega
      rw [hNl] at hlow
      have hlow':∀ j,j<J→prodL ((L.drop i).take j)≤c:=fun j hj=>by
        have:=hlow j hj
        rw [hJ,List.take_take,Nat.min_eq_left (by omega),Nat.one_mul] at this
        exact this
      rw [hJ,Nat.one_mul] at hbig
      rw [hJ,hcat]
      rw [List.length_drop] at hJl
      have hqb:∀ j,j≤4→prodL ((L.drop i).take j)≤2 ^ 124:=fun j hj=>by
        refine Nat.le_trans (prodL_bnd _ fun p hp=>hmem p (List.mem_of_mem_drop (List.mem_of_mem_take hp))) ?_
        refine Nat.le_trans (Nat.pow_le_pow_right (j:=4) (by decide) (by rw [List.length_take]; omega)) (by decide)
      have hJ4:J≤4:=by
        refine Decidable.byContradiction fun hcn=>?_
        have h1:=hlow' 4 (by omega)
        have h2:2 * 2 ^ 96<prodL ((L.drop i).take 4):=by
          rw [hie,hL]
          have:∀ k:Nat,k≤3→2 * 2 ^ 96<prodL ((P10.drop (2 * k)).take 4):=by decide
          exact this k hk
        omega
      simp [-ζ,-ξ,↓KW,rS,hw,hli,dU_len]
      refine exP_wk (rS2 b c 1 (L.take i) (pvL 2147483648 L i)) ?_ ?_
      · unfold rS2
        refine wkQ [1,2,3,4] ?_ ?_ <;> simp [-ζ,upd,inj1,Γ0]
      simp [-ζ,-ξ,↓KW]
      have hcN:c<2 ^ 255:=by omega
      have hA4:i+4≤10:=by omega
      clear hbigL hlow hNl hJ hw hli hA
      refine loopP_invW (τ:=Nat) (fun j=>j≤J) (fun j=>rS2 b c (prodL ((L.drop i).take j)) (L.take (i+j)) (pvL 2147483648 L (i+j))) (fun j=>J - j) 0 (Nat.zero_le _) ?_ ?_
      · rw [List.take_zero,Nat.add_zero]
        show ∃ ρ,Wk _ (rS2 b c 1 _ _) ρ
        unfold rS2
        refine wkQ [1,2,3,4] ?_ ?_ <;> simp [-ζ,upd,inj1,Γ0]
      · intro j hj
        have hTl:(L.take (i+j)).length=i+j:=by rw [List.length_take]; omega
        have hqj:=hqb j (by omega)
        have hbb:=app_boundU (n:=i+j) (by omega)
        obtain ⟨r,hC,hr,hr2⟩:=r01CmpN (x:=prodL ((L.drop i).take j)) (y:=c) (by omega) hcN
        by_cases hjl:j<J
        · obtain ⟨hx,hB⟩:=DescR.at (k:=i+j) hD (by omega)
          have hps:pvL 2147483648 L (i+(j+1))=L[i+j]! := pvL_succ 2147483648 L (i+j)
          have hge:L[i+j]? = some L[i+j]! := by rw [getElem!_pos L (i+j) (by omega)]; exact List.getElem?_eq_getElem (by omega)
          have hT:L.take (i+(j+1))=L.take (i+j)++[L[i+j]!]:=by rw [← Nat.add_assoc,List.take_add_one,hge]; rfl
          have hq:prodL ((L.drop i).take (j+1))=prodL ((L.drop i).take j) * L[i+j]! := by
            rw [List.take_add_one,List.getElem?_drop,hge]; exact prodL_snoc _ _
          have hr1:=hr.2 (hlow' j hjl)
          have hO:=r01OfN (x:=L[i+j]!) (by omega)
          have hMl:=r01MulN (x:=prodL ((L.drop i).take j)) (y:=L[i+j]!) (by omega) (by omega)
          have hw:IntKind.i64.wrap ((L[i+j]! : Nat):Int)=((L[i+j]! : Nat):Int):=wrapQ
          rw [← hq] at hMl
          obtain ⟨q',hq'⟩:∃ q',prodL ((L.drop i).take (j+1))=q':=⟨_,rfl⟩
          rw [hq'] at hMl
          generalize prodL ((L.drop i).take j)=q at *
          generalize L.take (i+j)=T at *
          generalize pvL 2147483648 L (i+j)=p at *
          generalize L[i+j]! = p' at *
          show AWP _ _ (rS2 b c q T p) _
          simp [-ζ,-ξ,↓KW,rS2,dU_len,cellsA_encM,one_encM,inj1_encM,inj_encM,kills_encM]
          refine callQ hC ?_
          simp [-ζ,-ξ,↓KW,hr1,cellsA_encM,one_encM,inj1_encM,inj_encM,kills_encM]
          refine callQ hB ?_
          rw [← hTl] at hbb
          simp [-ζ,-ξ,↓KW,dU_len,hbb,le_maxLen,cellsA_encM,one_encM,inj1_encM,inj_encM,kills_encM,hw]
          refine callQ hO ?_
          simp [-ζ,-ξ,↓KW,encZN_eq p',cellsA_encM,one_encM,inj1_encM,inj_encM,kills_encM]
          refine callQ hMl ?_
          simp [-ζ,-ξ,↓KW,encZN_eq q',cellsA_encM,one_encM,inj1_encM,inj_encM,kills_encM]
          refine nxt_intro (j+1) (by omega) (by show J - (j+1)<J - j; omega) ?_
          show ∃ ρ,Wk _ (StL _ _ _) ρ
          rw [hT,hps,hq']
          refine wkQ [1,6,3,4] ?_ ?_ <;> simp [-ζ,upd,inj1,Γ0,List.contains_cons,subL_own_iff,dU_app,dU_one]
        · have hjJ:j=J:=by omega
          rw [← hjJ] at hbig ⊢
          have hr1:¬ r≤0:=fun h=>by have:=hr.1 h; omega
          have e1:List.take (i+j) ((dU (L.take (i+j))).map AV.d)=(dU (L.take (i+j))).map AV.d:=dU_take_all hTl
          have e2:=chunk_dU hTl
          have e3:=dU_len (L.take (i+j))
          rw [hTl] at e3
          generalize prodL ((L.drop i).take j)=q at *
          show AWP _ _ (rS2 b c q (L.take (i+j)) _) _
          generalize pvL 2147483648 L (i+j)=p at *
          generalize L.take (i+j)=T at *
          simp [-ζ,-ξ,↓KW,rS2,dU_len,hTl,cellsA_encM,one_encM,inj1_encM,inj_encM,kills_encM]
          refine callQ hC ?_
          simp [-ζ,-ξ,↓KW,hr1,encU,hTl,e1,e2,e3,cellsA_encM,one_encM,inj1_encM,inj_encM,kills_encM]
          refine exP_same ?_
          simp [-ζ,-ξ,↓KW,encU,hTl,e1,e2,e3]
def encN (z:Int):List D:=[.b (decide (z<0)),encM (digs z.natAbs)]
def vcs (v:List Int):List D:=(v.map encN).flatten
def zr (cols:Nat):List AV:=(List.replicate cols [AV.d (.b false),AV.nil]).flatten
theorem zr_self {H H':Hp} {ρ:Nat→Nat} (cols:Nat):cellsOk H H' ρ (zr cols) (zr cols):=by
  refine cellsOk_iff.2 ⟨rfl,fun k c d h1 h2=>?_⟩
  rw [h1] at h2; injection h2 with h2; subst h2
  have hm:=List.mem_of_getElem? h1
  unfold zr at hm
  rw [List.mem_flatten] at hm
  obtain ⟨l,hl,hc⟩:=hm
  rw [List.eq_of_mem_replicate hl] at hc
  rcases List.mem_cons.1 hc with rfl | hc
  · exact (subL_d _ _).2 rfl
  · rw [List.mem_singleton.1 hc]; trivial
theorem zr_vcs {H H':Hp} {ρ:Nat→Nat}:∀ c:Nat,cellsOk H H' ρ (zr c) ((vcs (List.replicate c 0)).map .d)
  | 0=>trivial
  | c+1=>by
    have ih:=zr_vcs (H:=H) (H':=H') (ρ:=ρ) c
    have e1:zr (c+1)=AV.d (.b false)::AV.nil::zr c:=by simp [zr,List.replicate_succ]
    have e2:(vcs (List.replicate (c+1) 0)).map AV.d=AV.d (.b (decide ((0:Int)<0)))::AV.d (encM (digs (0:Int).natAbs))::(vcs (List.replicate c 0)).map AV.d:=by
      rw [List.replicate_succ]; rfl
    rw [e1,e2]
    refine ⟨?_,?_,ih⟩
    · exact (subL_d _ _).2 rfl
    · exact ⟨by rw [show ((0:Int).natAbs)=0 from rfl,digs_zero]; rfl,fun a ha=>by simp [vis] at ha⟩
def nwV (rows cols m:Nat):AV:=.ag [.d (.i .i64 (rows:Int)),.d (.i .i64 (cols:Int)),.own m 0 rows 1]
def hdr (c n b:Nat):List AV:=(List.range n).map fun j=>AV.own (j+b) 0 c 2
def rowO (v:List Int):HO:=.cells 31 ((vcs v).map .d)
def mB (c:Nat) (M:List (List Int)) (m:Nat):List HO:=.cells 110 (hdr c M.length (m+1))::M.map rowO
theorem hdr_len (c n b:Nat):(hdr c n b).length=n:=by simp [hdr]
theorem hdr_get {c n b i:Nat} (h:i<n):(hdr c n b)[i]? = some (.own (i+b) 0 c 2):=by
  unfold hdr; rw [List.getElem?_map,List.getElem?_range h]; rfl
theorem hdr_succ (c n b:Nat):hdr c (n+1) b=hdr c n b++[.own (n+b) 0 c 2]:=by simp [hdr,List.range_succ]
theorem mB_len (c:Nat) (M:List (List Int)) (m:Nat):(mB c M m).length=M.length+1:=by simp [mB]
def nwH (cols i:Nat):Hp:=fun id =>
  if id=1 then some (.cells 61 [.d (.i .i64 0),.d (.i .i64 0),.nil]) else if id=2 then some (.cells 110 (hdr cols i 3)) else if 3≤id∧id<i+3 then some (.cells 31 (zr cols)) else none
set_option maxHeartbeats 8000000 in
set_option maxRecDepth 10000 in
theorem r05New [M:Mch Tryz.prog] (rows cols:Nat) (hr:rows≤1000) (hc:cols≤1000):NSpec Tryz.prog 38 [.i .i64 (rows:Int),.i .i64 (cols:Int)] (nwV rows cols) (mB cols (List.replicate rows (List.replicate cols 0))):=by
  refine nspec_of (N:=22) follows_mixed Tryz.func38 rfl rfl rfl (by decide) (by kernel_rfl) (by kernel_rfl) (by simp) rfl ?_
  have m1:¬ (rows:Int)<0:=by omega
  have m2:¬ (cols:Int)<0:=by omega
  have hm3:32 * (cols:Int)≤281474976710656:=by omega
  have hm4:(cols:Int)≤9223372036854775807:=by omega
  simp [-ζ,-ξ,↓KW,m1,m2,le_maxLen]
  refine loopP_inv (fun i:Nat=>i≤rows) (fun i=>⟨sltF [(0,.d (.i .i64 (rows:Int))),(1,.d (.i .i64 (cols:Int))),(4,.ptr 1 0),(5,.own 2 0 i 1),(6,.d (.i .i64 (i:Int)))],nwH cols i,i+3⟩) (fun i=>rows - i) 0 (Nat.zero_le _) ?_ ?_
  · refine ⟨_,wk_id ?_ (fun id o' ho=>?_) (fun id hid=>?_) (by simp)⟩
    · simp [-ζ,upd,inj1,Γ0,nwH]
    · simp only [nwH] at ho
      split at ho
      · rename_i e; subst e
        injection ho with ho; subst ho
        exact ⟨_,rfl,by simp [-ζ,upd,inj1,Γ0]⟩
      · split at ho
        · rename_i e; subst e
          injection ho with ho; subst ho
          exact ⟨_,rfl,subO_cells.2 ⟨rfl,trivial⟩⟩
        · rw [if_neg (by omega)] at ho; cases ho
    · simp only [nwH]
      rw [if_neg (by omega),if_neg (by omega),if_neg (by omega)]
  · intro i hi
    have hH1:nwH cols i 1=some (.cells 61 [.d (.i .i64 0),.d (.i .i64 0),.nil]):=rfl
    have hH2:nwH cols i 2=some (.cells 110 (hdr cols i 3)):=rfl
    have hlen:(hdr cols i 3).length=i:=hdr_len ..
    by_cases hgo:i<rows
    · have q1:(i:Int)<rows:=by omega
      have hw:IntKind.i64.wrap ((i:Int)+1)=(i:Int)+1:=wrapQ
      generalize hHg:nwH cols i=H at *
      generalize hcl:hdr cols i 3=cells at *
      have hb:(i+1) * 24≤140737488355328:=by omega
      have hb2:i+1≤maxLen:=le_maxLen (by omega)
      simp [-ζ,-ξ,↓KW,q1,hgo,hw,hm3,hm4,hH1,hH2,hlen,m1,m2,hb,hb2]
      have hn1:(nwH cols (i+1) 1).isSome=true:=rfl
      have hn2:(nwH cols (i+1) 2).isSome=true:=rfl
      have hnj:∀ j,j<i+1→(nwH cols (i+1) (j+3)).isSome=true:=fun j hj=>by
        unfold nwH; rw [if_neg (by omega),if_neg (by omega),if_pos (by omega)]; rfl
      refine nxt_intro (i+1) hgo (slQ hgo) ⟨_,wk_gen (fun id=>if id=2 then i+5 else id) ?_ (fun id o' ho=>?_) (fun id id' h1 h2 e=>?_) (fun _=>rfl) (fun id hid=>?_) (by simp)⟩
      · simp [-ζ,upd,inj1,Γ0,hn1,hn2]
      · simp only [nwH] at ho
        split at ho
        · rename_i e; subst e
          injection ho with ho; subst ho
          refine ⟨.cells 61 [.d (.i .i64 0),.d (.i .i64 0),.nil],?_,by simp [-ζ,upd,inj1,Γ0]⟩
          rw [if_neg (by omega)]
          simp only
          rw [if_neg (by omega),if_neg (by omega),if_neg (by omega),if_neg (by omega),hH1]
          rfl
        · split at ho
          · rename_i e; subst e
            injection ho with ho; subst ho
            refine ⟨.cells 110 (hdr cols (i+1) 3),?_,subO_cells.2 ⟨rfl,cellsOk_iff.2 ⟨rfl,fun k x y h1 h2=>?_⟩⟩⟩
            · show Option.map (scrubO [2]) (if i+5=i+3+1+1 then some (HO.cells 110 (cells++[AV.own (i+3) 0 cols 2])) else _)=_
              rw [if_pos (by omega),hdr_succ,hcl]
              simp only [Option.map_some,scrubO,List.map_append,List.map_cons,List.map_nil]
              have e1:cells.map (scrub0 [2])=cells:=by
                rw [← hcl]
                unfold hdr
                rw [List.map_map]
                apply List.map_congr_left
                intro j hj
                simp [scrub0]
              rw [e1]
              simp [scrub0]
            · rw [h1] at h2; injection h2 with h2; subst h2
              have hk:k<i+1:=by have:=(List.getElem?_eq_some_iff.1 h1).1; rwa [hdr_len] at this
              rw [hdr_get hk] at h1; injection h1 with h1; subst h1
              exact ⟨by simp only; rw [if_neg (by omega)],rfl,rfl,rfl,hnj k hk⟩
          · split at ho
            · rename_i e2 e3
              injection ho with ho; subst ho
              refine ⟨.cells 31 (zr cols),?_,subO_cells.2 ⟨rfl,zr_self cols⟩⟩
              rw [if_neg e2]
              simp only
              rw [if_neg (by omega),if_neg e2,if_neg (by omega)]
              have ez:Option.map (scrubO [2]) (some (HO.cells 31 (zr cols)))=some (.cells 31 (zr cols)):=by
                simp only [Option.map_some,scrubO]
                congr 2
                unfold zr
                rw [List.map_flatten,List.map_replicate]; rfl
              by_cases e4:id=i+3
              · rw [if_pos e4]; exact ez
              · rw [if_neg e4,← hHg]
                unfold nwH
                rw [if_neg (by omega),if_neg (by omega),if_pos (by omega)]
                exact ez
            · cases ho
      · have k1:∀ id,(nwH cols (i+1) id).isSome=true→1≤id∧id<i+4:=fun id h=>by
          unfold nwH at h
          split at h
          · omega
          · split at h
            · omega
            · split at h
              · omega
              · cases h
        have b1:=k1 id h1
        have b2:=k1 id' h2
        have e':(if id=2 then i+5 else id)=(if id'=2 then i+5 else id'):=e
        split at e' <;> split at e' <;> omega
      · simp only [nwH]
        rw [if_neg (by omega),if_neg (by omega),if_neg (by omega)]
    · have q1:¬ (i:Int)<rows:=by omega
      have e:i=rows:=by omega
      subst e
      generalize hHg:nwH cols i=H at *
      simp [-ζ,-ξ,↓KW,q1,hH1,hH2]
      intro m hm0
      have hML:(mB cols (List.replicate i (List.replicate cols (0:Int))) m).length=i+1:=by simp [mB_len]
      have hin:∀ id,m≤id→id<m+(i+1)→(outS (nwV i cols) (mB cols (List.replicate i (List.replicate cols 0))) m).H id=(mB cols (List.replicate i (List.replicate cols 0)) m)[id - m]? := fun id h1 h2=>by
        simp only [outS,extB]
        rw [if_pos ⟨h1,by rw [hML]; exact h2⟩]
      have hout:∀ id,¬ (m≤id∧id<m+(i+1))→(outS (nwV i cols) (mB cols (List.replicate i (List.replicate cols 0))) m).H id=none:=fun id h=>by
        simp only [outS,extB]
        rw [if_neg (by rw [hML]; exact h)]
      have hsome:∀ id,((outS (nwV i cols) (mB cols (List.replicate i (List.replicate cols 0))) m).H id).isSome=true→m≤id∧id<m+(i+1):=fun id h=>by
        by_cases hr:m≤id∧id<m+(i+1)
        · exact hr
        · rw [hout id hr] at h; cases h
      have hS0:((outS (nwV i cols) (mB cols (List.replicate i (List.replicate cols 0))) m).H m).isSome=true:=by
        rw [hin m (Nat.le_refl _) (by omega),Nat.sub_self]; rfl
      have hSj:∀ j,j<i→(outS (nwV i cols) (mB cols (List.replicate i (List.replicate cols 0))) m).H (j+(m+1))=some (rowO (List.replicate cols 0)):=fun j hj=>by
        rw [hin _ (by omega) (by omega),show j+(m+1) - m=j+1 by omega]
        simp only [mB,List.getElem?_cons_succ,List.map_replicate,List.getElem?_replicate,if_pos hj]
      refine ⟨fun id=>id - m+2,fun id hid=>hout id (by simp only [outS] at hid; rw [hML] at hid; omega),fun t=>?_,fun id o' ho=>?_,fun id id' h1 h2 e=>?_,fun h=>?_,fun h=>?_⟩
      · show Sub _ _ _ _ (upd (fun _=>.any) 0 (nwV i cols m) t)
        by_cases e:t=0
        · subst e
          simp only [upd_same,nwV]
          refine ⟨rfl,fun k c d h1 h2=>?_⟩
          rcases k with _ | _ | _ | k
          · simp at h1 h2; subst h1; subst h2; exact (subL_d _ _).2 rfl
          · simp at h1 h2; subst h1; subst h2; exact (subL_d _ _).2 rfl
          · simp at h1 h2; subst h1; subst h2
            exact ⟨by simp,rfl,rfl,rfl,hS0⟩
          · simp at h1
        · rw [upd_ne _ _ e]; exact sub_any _
      · have hr:=hsome id (by rw [ho]; rfl)
        rw [hin id hr.1 hr.2] at ho
        simp only
        obtain ⟨j,rfl⟩:∃ j,id=m+j:=⟨id - m,by omega⟩
        rw [show m+j - m=j by omega] at ho ⊢
        rcases j with _ | j
        · simp only [mB,List.getElem?_cons_zero,List.length_replicate] at ho
          injection ho with ho; subst ho
          refine ⟨.cells 110 (hdr cols i 3),by simp only [upd]; rw [if_neg (by omega)]; exact hH2,subO_cells.2 ⟨rfl,cellsOk_iff.2 ⟨by rw [hdr_len,hdr_len],fun k c d h1 h2=>?_⟩⟩⟩
          have hlt:k<i:=by have:=(List.getElem?_eq_some_iff.1 h1).1; rwa [hdr_len] at this
          rw [hdr_get hlt] at h1 h2
          injection h1 with h1; injection h2 with h2; subst h1; subst h2
          exact ⟨by show k+3=k+(m+1) - m+2; omega,rfl,rfl,rfl,by rw [hSj k hlt]; rfl⟩
        · have hlt:j<i:=by omega
          simp only [mB,List.getElem?_cons_succ,List.map_replicate,List.getElem?_replicate,if_pos hlt] at ho
          injection ho with ho; subst ho
          refine ⟨.cells 31 (zr cols),?_,subO_cells.2 ⟨rfl,zr_vcs cols⟩⟩
          simp only [upd]
          rw [if_neg (by omega),← hHg]
          unfold nwH
          rw [if_neg (by omega),if_neg (by omega),if_pos (by omega)]
      · have q1':=hsome id h1
        have q2':=hsome id' h2
        have e':id - m+2=id' - m+2:=e
        omega
      · have:=hsome 0 h; omega
      · simp only [outS] at h; omega
theorem kcall [M:Mch Tryz.prog] {f:FuncId} {args:List D} {r:D} (h:(runKc Tryz.prog EP 100 20).call f args=some r):Spec Tryz.prog f args r:=(runKc_ok (fuel:=100) follows_mixed EP_ok 20).call _ _ _ h
def mA:D:=.ag [.i .i64 1,.i .i64 1,.sl [[.sl [[.b true,.sl [[.i .u32 1]]]]]]]
theorem ext_two (H:Hp) (n:Nat) (a b:HO):extB H n [a,b]=upd (upd H n (some a)) (n+1) (some b):=by
  funext id
  unfold extB upd
  by_cases h1:id=n+1
  · subst h1; simp
  · by_cases h2:id=n
    · subst h2; simp
    · simp only [h1,h2,if_false,List.length_cons,List.length_nil]
      rw [if_neg (by omega)]
set_option maxHeartbeats 4000000 in
set_option maxRecDepth 10000 in
theorem kInts [M:Mch Tryz.prog]:Spec Tryz.prog 37 [.i .i64 1,.i .i64 1,.sl [[.i .i64 (-1)]]] mA:=by
  refine specQ (N:=50) Tryz.func37 ?_
  have hN:NSpec Tryz.prog 38 [.i .i64 1,.i .i64 1] (nwV 1 1) (mB 1 [[0]]):=r05New 1 1 (by decide) (by decide)
  have hmB:mB 1 [[0]] 2=[.cells 110 [.own 3 0 1 2],.cells 31 [.d (.b (decide ((0:Int)<0))),.d (encM (digs (0:Int).natAbs))]]:=rfl
  have hO:Spec Tryz.prog 11 [.i .i64 (-1)] (.ag [.b true,.sl [[.i .u32 1]]]):=kcall (by kernel_rfl)
  simp [-ζ,-ξ,↓KW]
  refine o1_ncall [.i .i64 1,.i .i64 1] (nwV 1 1) (mB 1 [[0]]) (by simp) (by simp) (by simp) (by rfl) (by rfl) hN ?_
  simp [-ζ,-ξ,↓KW,nwV,hmB,ext_two]
  have hz0:IntKind.i64.wrap 0=0:=by decide
  have hz1:IntKind.i64.wrap 1=1:=by decide
  refine loopP_lu 2 ?_
  simp [-ζ,-ξ,↓KW,↓luP_succ,↓o1_makeFunc,↓o1_index,↓o1_callV,hz0,hz1]
  refine loopP_lu 2 ?_
  simp [-ζ,-ξ,↓KW,↓luP_succ,↓o1_makeFunc,↓o1_index,↓o1_callV,hz0,hz1]
  refine callQ hO ?_
  simp [-ζ,-ξ,↓KW,↓luP_succ,↓o1_makeFunc,↓o1_index,↓o1_callV,hz0,hz1]
  rfl
def iv (n:Int):D:=.ag [.b false,.sl [[.i .u32 n]]]
def iv0:D:=.ag [.b false,.sl []]
def rp (w p v:Int):List D:=[.i .i64 w,.i .u64 p,.i .u64 v]
def rl4:List (List D):=[rp 0 7 5,rp 1 11 5,rp 2 13 5,rp 3 17 0]
def rl3:List (List D):=[rp 0 7 5,rp 1 11 5,rp 2 13 5]
def rl2:List (List D):=[rp 0 7 5,rp 1 11 5]
def m12:D:=.ag [.i .i64 1,.i .i64 2,.sl [[.sl [[.b false,.sl []],[.b false,.sl []]]]]]
def m00:D:=.ag [.i .i64 0,.i .i64 0,.sl []]
def vd (v:Int) (l:List Int):D:=.ag [.b false,.sl [[.i .u32 v]],.sl (l.map fun x=>[.i .i64 x])]
def vd0:D:=.ag [.b false,.sl [],.sl []]
section
variable [M:Mch Tryz.prog]
theorem kC1:Spec Tryz.prog 10 [iv 10,.sl rl4,.i .i64 1] (.tp [vd 5 [3],.i .i64 0]):=kcall (by kernel_rfl)
theorem kC2:Spec Tryz.prog 10 [iv 10,.sl rl3,.i .i64 1] (.tp [vd0,.i .i64 200]):=kcall (by kernel_rfl)
theorem kC3:Spec Tryz.prog 10 [iv 10,.sl rl2,.i .i64 0] (.tp [vd 5 [],.i .i64 0]):=kcall (by kernel_rfl)
theorem kC4:Spec Tryz.prog 10 [iv 3,.sl [rp 0 7 1,rp 1 11 2],.i .i64 0] (.tp [vd0,.i .i64 201]):=kcall (by kernel_rfl)
theorem kC5:Spec Tryz.prog 10 [iv 10,.sl rl4,.i .i64 (-1)] (.tp [vd0,.i .i64 1]):=kcall (by kernel_rfl)
theorem kC6:Spec Tryz.prog 10 [iv 10,.sl [rp 0 8 1],.i .i64 0] (.tp [vd0,.i .i64 40]):=kcall (by kernel_rfl)
theorem kBl:Spec Tryz.prog 16 [iv 5,.sl rl4] (.sl [[.i .i64 3]]):=kcall (by kernel_rfl)
theorem kRe (w p v:Int) (h:(runKc Tryz.prog EP 100 20).call 36 [.i .i64 w,.i .u64 p,.i .u64 v]=some (.ag (rp w p v)):=by kernel_rfl):Spec Tryz.prog 36 [.i .i64 w,.i .u64 p,.i .u64 v] (.ag (rp w p v)):=kcall h
theorem kOf (n:Int) (h:(runKc Tryz.prog EP 100 20).call 11 [.i .i64 n]=some (iv n):=by kernel_rfl):Spec Tryz.prog 11 [.i .i64 n] (iv n):=kcall h
theorem kOf0:Spec Tryz.prog 11 [.i .i64 0] iv0:=kcall (by kernel_rfl)
theorem kW2:Spec Tryz.prog 27 [m12,.sl []] (.tp [.sl [],.i .i64 50]):=kcall (by kernel_rfl)
theorem kW3:Spec Tryz.prog 27 [m00,.sl [[.i .u64 5],[.i .u64 5]]] (.tp [.sl [],.i .i64 40]):=kcall (by kernel_rfl)
theorem kNu (a b:List Nat) (h:(runKc Tryz.prog EP 100 20).call 20 [encU a,encU b]=some (.b true):=by kernel_rfl):Spec Tryz.prog 20 [encU a,encU b] (.b true):=kcall h
theorem kSa (v:Int) (l:List Int) (h:(runKc Tryz.prog EP 100 20).call 13 [vd v l,vd v l]=some (.b true):=by kernel_rfl):Spec Tryz.prog 13 [vd v l,vd v l] (.b true):=kcall h
theorem kSR:Spec Tryz.prog 39 [.sl [rp 0 5 4,rp 1 3 2],.sl [rp 0 5 4,rp 1 3 2]] (.b true):=kcall (by kernel_rfl)
theorem kIn:Spec Tryz.prog 15 [.sl [[.i .i64 3]],.sl [[.i .i64 3]]] (.b true):=kcall (by kernel_rfl)
theorem kVa:Spec Tryz.prog 69 [mA] (.b true):=kcall (by kernel_rfl)
theorem kDi:Spec Tryz.prog 70 [.sl [[.i .u64 5],[.i .u64 3]]] (.b true):=kcall (by kernel_rfl)
theorem kR5:Spec Tryz.prog 74 [mA,.i .u64 5] (.tp [.ag [.i .u64 5,.i .u64 4],.i .i64 0]):=kcall (by kernel_rfl)
theorem kR3:Spec Tryz.prog 74 [mA,.i .u64 3] (.tp [.ag [.i .u64 3,.i .u64 2],.i .i64 0]):=kcall (by kernel_rfl)
theorem iv0_eq:encZN 0=iv0:=by
  rw [← encZn]; exact encZ_zero
theorem iv1_eq:encZN 1=iv 1:=by
  rw [← encZn]; exact encZ_nat (by decide) (by decide)
theorem kP1:Spec Tryz.prog 19 [iv0,.i .i64 1] (encU [2147483647,2147483629]):=by
  have h:=wPrimes 0 1 (by decide) (by decide)
  rwa [iv0_eq,show wpL 0 1=[2147483647,2147483629] from by decide] at h
theorem kP2:Spec Tryz.prog 19 [iv 1,.i .i64 0] (encU [2147483647]):=by
  have h:=wPrimes 1 0 (by decide) (by decide)
  rwa [iv1_eq,show wpL 1 0=[2147483647] from by decide] at h
theorem kP3:Spec Tryz.prog 19 [iv0,.i .i64 0] (encU []):=by
  have h:=wPrimes 0 0 (by decide) (by decide)
  rwa [iv0_eq,show wpL 0 0=[] from by decide] at h
end
end Go.Am
end
section
open List renaming map_map→ζ,mapM_map→ξ
namespace Go.Am
open Go.Conc
inductive Dl (P:Program) (main:Bool) (I:World→Prop) (Rm:Event→Prop) (K:Nat→Goroutine→Prop):Nat→Goroutine→Prop
  | here {d:Nat} {g:Goroutine} (h:K d g):Dl P main I Rm K d g
  | step {d:Nat} {g g':Goroutine} {es:Array Event} (hs:g.status=.running) (hm:∀ e∈es,Event.mute e=true∨Rm e) (h:∀ w,I w→stepG P main g w=.go g' w es) (hq:Dl P main I Rm K (deafBehind d es) g'):Dl P main I Rm K d g
section
variable {P:Program} {main:Bool} {I:World→Prop} {Rm:Event→Prop} {K:Nat→Goroutine→Prop} {b:Frame} {a:Act} {k:List Item} {cs:List Frame} {d:Nat}
theorem Dl.ctl {g g':Goroutine} (hs:g.status=.running) (h:∀ w,I w→stepG P main g w=.go g' w) (hq:Dl P main I Rm K d g'):Dl P main I Rm K d g:=.step hs (by simp) h hq
theorem Dl.value {ops:Array Oper} {i:Nat} {rest:List Nat} {o:Oper} (v:Value) (ho:ops[i]? = some o) (hw:Region.wanted o (yielded ops a.tmps)=true) (hk:b.kind≠.early)
    (hr:∀ w,I w→(execOp a.eval o).run P w=.ok (.value v) w) (he:∀ w,I w→(execOp a.eval o).events P w #[]=#[])
    (hq:Dl P main I Rm K d (G (b.at (a.put o.dst v) (.inRegion ops rest::k)) cs)):Dl P main I Rm K d (G (b.at a (.inRegion ops (i::rest)::k)) cs) :=
  .ctl rfl (fun w hI=>by rw [stepG_value ho hw hk (hr w hI)]; unfold listed; rw [he w hI,seen_none]) hq
theorem Dl.unwanted {ops:Array Oper} {i:Nat} {rest:List Nat} {o:Oper} (ho:ops[i]? = some o) (hw:Region.wanted o (yielded ops a.tmps)=false)
    (hq:Dl P main I Rm K d (G (b.at (a.put o.dst undef) (.inRegion ops rest::k)) cs)):Dl P main I Rm K d (G (b.at a (.inRegion ops (i::rest)::k)) cs) :=
  .ctl rfl (fun _ _=>stepG_unwanted ho hw) hq
theorem Dl.enter {ops:Array Oper} {i:Nat} {rest:List Nat} {o:Oper} {f:FuncId} {args:Array Value} (ho:ops[i]? = some o) (hw:Region.wanted o (yielded ops a.tmps)=true) (hk:b.kind≠.early)
    (hr:∀ w,I w→(execOp a.eval o).run P w=.ok (.enter f args) w) (he:∀ w,I w→(execOp a.eval o).events P w #[]=#[])
    (hq:Dl P main I Rm K d (G (Frame.enter P f args .normal) (b.at a (.inRegion ops (i::rest)::k)::cs))):Dl P main I Rm K d (G (b.at a (.inRegion ops (i::rest)::k)) cs) :=
  .ctl rfl (fun w hI=>by rw [stepG_enter ho hw hk (hr w hI)]; unfold listed; rw [he w hI,seen_none]) hq
theorem Dl.leave0 {fn:Func} {todo:List Item} {b₀:Frame} {a₀:Act} {ops:Array Oper} {i:Nat} {rest:List Nat} (hn:b.kind=.normal) (hd:a.defers=[]) (hf:P.funcs[b.fn]? = some fn) (hr:fn.results=#[])
    (hq:Dl P main I Rm K d (G (b₀.at (a₀.put ((ops[i]?).bind (·.dst)) (.tuple #[])) (.inRegion ops rest::k)) cs)) :
    Dl P main I Rm K d (G { b.at a todo with mode:=.returning } (b₀.at a₀ (.inRegion ops (i::rest)::k)::cs)) :=
  .ctl rfl (fun w _=>by rw [stepG_leave hn hd hf (results_none hr _ P w) (events_results_none hr _ _),Frame.finish_at]) hq
theorem Dl.leave1 {fn:Func} {todo:List Item} {b₀:Frame} {a₀:Act} {ops:Array Oper} {i:Nat} {rest:List Nat} {t:Tmp} (hn:b.kind=.normal) (hd:a.defers=[]) (hf:P.funcs[b.fn]? = some fn) (hr:fn.results=#[.tmp t])
    (hq:Dl P main I Rm K d (G (b₀.at (a₀.put ((ops[i]?).bind (·.dst)) (a.tmps.getD t undef)) (.inRegion ops rest::k)) cs)) :
    Dl P main I Rm K d (G { b.at a todo with mode:=.returning } (b₀.at a₀ (.inRegion ops (i::rest)::k)::cs)) :=
  .ctl rfl (fun w _=>by rw [stepG_leave hn hd hf (results_tmp hr _ P w) (events_results_tmp hr _ _),Frame.finish_at]) hq
theorem Dl.call {ops:Array Oper} {i:Nat} {rest:List Nat} {o:Oper} {f:FuncId} {fn:Func} {c:Code} {args:Array Operand} {ats:Array TypeId}
    (ho:ops[i]? = some o) (hw:Region.wanted o (yielded ops a.tmps)=true) (hk:b.kind≠.early) (hop:o.op=.call { callee:=.value (.func f),args,argTypes:=ats })
    (hf:P.funcs[f]? = some fn) (hname:(fn.name == "runtime.NumGoroutine")=false) (hb:fn.body=some c)
    (hq:Dl P main I Rm K d (G ((base f).at { tmps:=args.map a.eval++Array.replicate (fn.ntmps - (args.map a.eval).size) undef,defers:=[] } [.code c]) (b.at a (.inRegion ops (i::rest)::k)::cs))) :
    Dl P main I Rm K d (G (b.at a (.inRegion ops (i::rest)::k)) cs):=by
  have hb':fn.body.isNone=false:=by rw [hb]; rfl
  refine .ctl rfl (fun w _=>?_) hq
  rw [stepG_enter ho hw hk (run_call_body hop hf hname hb'),enter_at _ hf hb]
  have:listed P b.fn a o w=#[]:=by unfold listed; rw [events_call_body hop hf hname hb']; exact seen_none P _
  rw [this]
theorem Dl.unwind_mark {fn:Func} {f:FuncId} {todo:List Item} {ds:List Deferred} (m:Mark) (hm:Event.mute ⟨.mark m,false,true⟩=true) (hx:∀ g,m≠.extern g) (hd:a.defers=dcall f #[]::ds)
    (hf:P.funcs[f]? = some fn) (hname:(fn.name == "runtime.NumGoroutine")=false) (hb:fn.body.isNone=true) (hn:Extern.findNext fn=none)
    (he:Extern.find fn=some (fun _=>do mark m; pure Extern.Race.none_))
    (hq:Dl P main I Rm K (deafBehind d #[⟨.mark m,false,true⟩]) (G { b.at ⟨a.tmps,ds⟩ todo with mode:=.returning } cs)):Dl P main I Rm K d (G { b.at a todo with mode:=.returning } cs) :=
  .step rfl (by intro e h; simp at h; subst h; exact .inl hm) (fun w _=>stepG_unwind_entry (v:=.tuple #[]) hd hf hname hb hn he (by simp [Extern.Race.none_]) (by simp) (by
    intro x hx'
    simp at hx'
    subst hx'
    exact ⟨rfl,fun g h=>hx g (Loc.mark.inj h)⟩)) hq
theorem Dl.leaveD {fn:Func} {todo:List Item} {c:Frame} (hn:b.kind=.deferred) (hd:a.defers=[]) (hf:P.funcs[b.fn]? = some fn) (hr:fn.results=#[]) (hc:c.mode=.returning)
    (hq:Dl P main I Rm K d (G c cs)):Dl P main I Rm K d (G { b.at a todo with mode:=.returning } (c::cs)) :=
  .ctl rfl (fun w _=>stepG_leave_deferred hn hd hf (results_none hr _ P w) (events_results_none hr _ _) hc) hq
theorem Dl.done (h:Dl P main I Rm K d (G { b.at a [] with mode:=.returning } cs)):Dl P main I Rm K d (G (b.at a []) cs):=.ctl rfl (fun _ _=>stepG_end) h
theorem Dl.seq {x y:Code} (h:Dl P main I Rm K d (G (b.at a (.code x::.code y::k)) cs)):Dl P main I Rm K d (G (b.at a (.code (.seq x y)::k)) cs):=.ctl rfl (fun _ _=>stepG_seq) h
theorem Dl.skip (h:Dl P main I Rm K d (G (b.at a k) cs)):Dl P main I Rm K d (G (b.at a (.code .skip::k)) cs):=.ctl rfl (fun _ _=>stepG_skip) h
theorem Dl.region {id:Nat} {ops:Array Oper} (h:Dl P main I Rm K d (G (b.at a (.inRegion ops (List.range ops.size)::k)) cs)):Dl P main I Rm K d (G (b.at a (.code (.region id ops false)::k)) cs):=.ctl rfl (fun _ _=>stepG_region) h
theorem Dl.regionEnd {ops:Array Oper} (h:Dl P main I Rm K d (G (b.at a k) cs)):Dl P main I Rm K d (G (b.at a (.inRegion ops []::k)) cs):=.ctl rfl (fun _ _=>stepG_region_end) h
theorem Dl.cond {c:Operand} {x y:Code} (t:Bool) (hc:a.eval c=.bool t) (h:Dl P main I Rm K d (G (b.at a (.code (if t then x else y)::k)) cs)):Dl P main I Rm K d (G (b.at a (.code (.cond c x y)::k)) cs):=.ctl rfl (fun _ _=>stepG_cond hc) h
theorem Dl.block {id:Nat} {c:Code} (h:Dl P main I Rm K d (G (b.at a (.code c::.inBlock id::k)) cs)):Dl P main I Rm K d (G (b.at a (.code (.block id c)::k)) cs):=.ctl rfl (fun _ _=>stepG_block) h
theorem Dl.inBlock {id:Nat} (h:Dl P main I Rm K d (G (b.at a k) cs)):Dl P main I Rm K d (G (b.at a (.inBlock id::k)) cs):=.ctl rfl (fun _ _=>stepG_inBlock) h
theorem Dl.loop {c:Code} (h:Dl P main I Rm K d (G (b.at a (.code c::.inLoop c::k)) cs)):Dl P main I Rm K d (G (b.at a (.code (.loop c)::k)) cs):=.ctl rfl (fun _ _=>stepG_loop) h
theorem Dl.inLoop {c:Code} (h:Dl P main I Rm K d (G (b.at a (.code c::.inLoop c::k)) cs)):Dl P main I Rm K d (G (b.at a (.inLoop c::k)) cs):=.ctl rfl (fun _ _=>stepG_inLoop) h
theorem Dl.exit {id:Nat} {k':List Item} (hx:exitTo id k=some k') (h:Dl P main I Rm K d (G (b.at a k') cs)):Dl P main I Rm K d (G (b.at a (.code (.exit id)::k)) cs):=.ctl rfl (fun _ _=>stepG_exit hx) h
theorem Dl.ret (h:Dl P main I Rm K d (G { b.at a (.code .ret::k) with mode:=.returning } cs)):Dl P main I Rm K d (G (b.at a (.code .ret::k)) cs):=.ctl rfl (fun _ _=>stepG_ret') h
def DlN (P:Program) (main:Bool) (I:World→Prop) (Rm:Event→Prop) (K:Nat→Goroutine→Prop):Nat→Nat→Goroutine→Prop
  | 0,d,g=>K d g
  | n+1,d,g=>K d g∨(g.status=.running∧∃ g' es,(∀ e∈es,Event.mute e=true∨Rm e)∧(∀ w,I w→stepG P main g w=.go g' w es)∧DlN P main I Rm K n (deafBehind d es) g')
theorem Dl.count {g:Goroutine} (h:Dl P main I Rm K d g):∃ n,DlN P main I Rm K n d g:=by
  induction h with
  | here h=>exact ⟨0,h⟩
  | step hs hm h _ ih=>obtain ⟨n,ih⟩:=ih; exact ⟨n+1,.inr ⟨hs,_,_,hm,h,ih⟩⟩
theorem DlN.cases {n:Nat} {g:Goroutine} (h:DlN P main I Rm K n d g):K d g∨∃ m,n=m+1∧g.status=.running∧∃ g' es,(∀ e∈es,Event.mute e=true∨Rm e)∧(∀ w,I w→stepG P main g w=.go g' w es)∧DlN P main I Rm K m (deafBehind d es) g':=by
  cases n with
  | zero=>exact .inl h
  | succ n=>exact h.imp id fun x=>⟨n,rfl,x⟩
theorem Dl.mono {K':Nat→Goroutine→Prop} (hK:∀ d g,K d g→K' d g) {g:Goroutine} (h:Dl P main I Rm K d g):Dl P main I Rm K' d g:=by
  induction h with
  | here h=>exact .here (hK _ _ h)
  | step hs hm h _ ih=>exact .step hs hm h ih
theorem Dl.bind {K':Nat→Goroutine→Prop} (hK:∀ d g,K d g→Dl P main I Rm K' d g) {g:Goroutine} (h:Dl P main I Rm K d g):Dl P main I Rm K' d g:=by
  induction h with
  | here h=>exact hK _ _ h
  | step hs hm h _ ih=>exact .step hs hm h ih
theorem Dl.quits {g:Goroutine} (h:Dl P false (fun _=>True) (fun _=>False) (fun d g=>∃ n,QuitsD P n d g) d g):∃ n,QuitsD P n d g:=by
  induction h with
  | here h=>exact h
  | step hs hm h _ ih=>obtain ⟨n,ih⟩:=ih; exact ⟨n+1,.inr ⟨hs,_,_,fun e he=>(hm e he).resolve_right id,fun w=>h w trivial,ih⟩⟩
end
end Go.Am
end
section
open List renaming map_map→ζ,mapM_map→ξ
namespace Go.Am
open Go.Conc
inductive Tr where
  | leaf
  | node (f:World × World→Tr)
def TrLt (a b:Tr):Prop:=∃ f p,b=.node f∧a=f p
theorem trLt_acc (t:Tr):Acc TrLt t:=by
  induction t with
  | leaf=>exact ⟨_,fun y ⟨f,p,h,_⟩=>by cases h⟩
  | node f ih=>exact ⟨_,fun y ⟨g,p,h,e⟩=>by cases h; exact e ▸ ih p⟩
def Tr.nat:Nat→Tr
  | 0=>.leaf
  | n+1=>.node fun _=>Tr.nat n
theorem trLt_node (f:World × World→Tr) (p:World × World):TrLt (f p) (.node f):=⟨f,p,rfl,rfl⟩
theorem trLt_nat (n:Nat):TrLt (Tr.nat n) (Tr.nat (n+1)):=⟨_,default,rfl,rfl⟩
def Tr.up (t:Tr):Tr:=.node fun _=>t
structure StepQ (Rm:Event→Prop) (v w v' w':World) (es:Array Event):Prop where
  sim:Sim v' w'
  ok:OkV v'
  ext:Ext v v'
  rest:Rest v w w'
  evs:∀ e∈es,EvV v' e∨Event.mute e=true∨Rm e
theorem StepOk.q {Rm:Event→Prop} {v w v' w':World} {es:Array Event} (h:StepOk v w v' w' es):StepQ Rm v w v' w' es:=⟨h.sim,h.ok,h.ext,h.rest,fun e he=>.inl (h.evs e he)⟩
def GT (P:Program) (main:Bool) (I:World→Prop) (Rm:Event→Prop) (Stop:Nat→Goroutine→World→Prop):Tr→Nat→Goroutine→World→Prop
  | .leaf,d,g,v=>Stop d g v
  | .node f,d,g,v=>g.status=.running∧OkV v∧∀ v1 w,Env v v1→Sim v1 w→I w →
      ∃ g' v' w' es,stepG P main g w=.go g' w' es∧StepQ Rm v1 w v' w' es∧GT P main I Rm Stop (f (v1,w)) (deafBehind d es) g' v'
def EnvS (Stop:Nat→Goroutine→World→Prop):Prop:=∀ d g v v1,Stop d g v→Env v v1→Stop d g v1
theorem evV_loc {v:World} {e:Event} (h:EvV v e):e.loc≠.mark .disable∧e.loc≠.mark .enable:=by
  rcases h with ⟨a,c,t,f,h1,_⟩ | ⟨r,o,h1,_⟩ | rfl
  · rw [h1]; exact ⟨by simp,by simp⟩
  · rw [h1]; exact ⟨by simp,by simp⟩
  · exact ⟨by simp,by simp⟩
section
variable {P:Program} {main:Bool} {I:World→Prop} {Rm:Event→Prop} {Stop:Nat→Goroutine→World→Prop}
theorem GT.env (hS:EnvS Stop) {tr:Tr} {d:Nat} {g:Goroutine} {v v1:World} (h:GT P main I Rm Stop tr d g v) (he:Env v v1):GT P main I Rm Stop tr d g v1:=by
  cases tr with
  | leaf=>exact hS _ _ _ _ h he
  | node f=>exact ⟨h.1,he.okV h.2.1,fun v2 w he2 hs hi=>h.2.2 v2 w (he.trans he2) hs hi⟩
def GoW (P:Program) (main:Bool) (I:World→Prop) (Rm:Event→Prop) (Stop:Nat→Goroutine→World→Prop) (g:Goroutine) (v:World):Prop:=∃ tr,GT P main I Rm Stop tr 0 g v
theorem gt_choose {d:Nat} {g:Goroutine} {v:World} (hr:g.status=.running) (hv:OkV v)
    (h:∀ v1 w,Env v v1→Sim v1 w→I w→∃ g' v' w' es,stepG P main g w=.go g' w' es∧StepQ Rm v1 w v' w' es∧∃ tr,GT P main I Rm Stop tr (deafBehind d es) g' v'):∃ tr,GT P main I Rm Stop tr d g v:=by
  classical
  have h':∀ p:World × World,∃ tr:Tr,Env v p.1→Sim p.1 p.2→I p.2→∃ g' v' w' es,stepG P main g p.2=.go g' w' es∧StepQ Rm p.1 p.2 v' w' es∧GT P main I Rm Stop tr (deafBehind d es) g' v':=by
    intro p
    by_cases hp:Env v p.1∧Sim p.1 p.2∧I p.2
    · obtain ⟨g',v',w',es,h1,h2,tr,h3⟩:=h p.1 p.2 hp.1 hp.2.1 hp.2.2
      exact ⟨tr,fun _ _ _=>⟨g',v',w',es,h1,h2,h3⟩⟩
    · exact ⟨.leaf,fun a b c=>(hp ⟨a,b,c⟩).elim⟩
  obtain ⟨F,hF⟩:=Classical.axiomOfChoice h'
  exact ⟨.node F,hr,hv,fun v1 w he hs hi=>hF (v1,w) he hs hi⟩
theorem goW_closed (hS:EnvS Stop):Closed P main (GoW P main I Rm Stop) where
  env h he:=by obtain ⟨tr,h⟩:=h; exact ⟨tr,h.env hS he⟩
  step {g v} hr hv h:=gt_choose hr hv fun v1 w he hs hi=>by
    obtain ⟨g',v',w',es,h1,h2,tr,h3⟩:=h v1 w he hs
    exact ⟨g',v',w',es,h1,h2.q,tr,by rw [deafBehind_still fun e hx=>evV_loc (h2.evs e hx)]; exact h3⟩
@[instance_reducible] def goMch (P:Program) (main:Bool):Mch P where
  main:=main
  Fam Win:=(∃ I Rm Stop,EnvS Stop∧Win=GoW P main I Rm Stop)∨Win=fun _ _=>False
  closed h:=by
    rcases h with ⟨I,Rm,Stop,hS,rfl⟩ | rfl
    · exact goW_closed hS
    · exact none_closed main
  none:=.inr rfl
theorem Dl.gt {K:Nat→Goroutine→Prop} {d:Nat} {g:Goroutine} (h:Dl P main I Rm K d g):∀ {v:World},OkV v→(∀ d g v1,Env v v1→K d g→∃ tr,GT P main I Rm Stop tr d g v1)→∃ tr,GT P main I Rm Stop tr d g v:=by
  induction h with
  | here h=>exact fun _ hK=>hK _ _ _ (.refl _) h
  | step hs hm h _ ih =>
    intro v hv hK
    exact gt_choose hs hv fun v1 w he hsim hi=>⟨_,v1,w,_,h w hi,⟨hsim,he.okV hv,.refl _,.refl _ _,fun e hx=>.inr (hm e hx)⟩,ih (he.okV hv) fun d g v2 he2 hk=>hK d g v2 (he.trans he2) hk⟩
end
end Go.Am
end
section
open List renaming map_map→ζ,mapM_map→ξ
namespace Go.Am
open Go.Conc
def Unf (v:World) (b:Nat):Prop:=∃ o,v.heap[b]? = some o∧∀ c t,o≠Obj.cells c t (0,c.size)
def Whole (v:World) (b:Nat):Prop:=∃ c t,v.heap[b]? = some (.cells c t (0,c.size))
theorem hole_whole {v:World} {b:Nat} (h:v.heap[b]? = some hole):Whole v b:=⟨#[],0,h⟩
theorem Whole.not_unf {v:World} {b:Nat} (h:Whole v b):¬ Unf v b:=by
  obtain ⟨c,t,h⟩:=h
  rintro ⟨o,ho,hn⟩
  rw [h] at ho; exact hn c t (Option.some.inj ho).symm
theorem hole_not_unf {v:World} {b:Nat} (h:v.heap[b]? = some hole):¬ Unf v b:=(hole_whole h).not_unf
theorem whole_or_unf {v:World} {b:Nat} (h:b<v.heap.size):Whole v b∨Unf v b:=by
  classical
  by_cases hw:Whole v b
  · exact .inl hw
  · exact .inr ⟨_,Array.getElem?_eq_getElem h,fun c t e=>hw ⟨c,t,by rw [Array.getElem?_eq_getElem h,e]⟩⟩
def growV (v w':World):World:={ v with heap:=v.heap++Array.replicate (w'.heap.size - v.heap.size) hole,drawn:=w'.drawn }
theorem growV_env (v w':World):Env v (growV v w'):=⟨rfl,rfl,rfl,_,rfl⟩
theorem growV_size {v w':World} (h:v.heap.size≤w'.heap.size):(growV v w').heap.size=w'.heap.size:=by simp [growV]; omega
theorem growV_old {v w':World} {b:Nat} (h:b<v.heap.size):(growV v w').heap[b]? = v.heap[b]? := (growV_env v w').get h
theorem growV_new {v w':World} {b:Nat} (h:v.heap.size≤b) {o:Obj} (ho:(growV v w').heap[b]? = some o):o=hole:=by
  simp only [growV] at ho
  rw [Array.getElem?_append_right h] at ho
  have:=Array.mem_of_getElem? ho
  rw [Array.mem_replicate] at this
  exact this.2
theorem growV_unf {v w':World} {b:Nat}:Unf (growV v w') b↔Unf v b:=by
  constructor
  · rintro ⟨o,ho,hn⟩
    rcases Nat.lt_or_ge b v.heap.size with h | h
    · exact ⟨o,by rw [← growV_old h]; exact ho,hn⟩
    · exact absurd (growV_new h ho) (by rintro rfl; exact hn #[] 0 rfl)
  · rintro ⟨o,ho,hn⟩
    exact ⟨o,by rw [growV_old (lt_of_get ho)]; exact ho,hn⟩
theorem growV_hole {v w':World} {b:Nat} (h:v.heap[b]? = some hole):(growV v w').heap[b]? = some hole:=by rw [growV_old (lt_of_get h)]; exact h
structure Older (v v':World):Prop where
  size:v.heap.size≤v'.heap.size
  unf:∀ b,b<v.heap.size→(Unf v' b↔Unf v b)
  whole:∀ b c t,b<v.heap.size→(v'.heap[b]? = some (.cells c t (0,c.size))↔v.heap[b]? = some (.cells c t (0,c.size)))
  tape:v'.tape=v.tape
  os:v'.os=v.os
  output:v'.output=v.output
theorem Older.of_env {v v':World} (h:Env v v'):Older v v':=⟨h.size,fun b hb=>by simp only [Unf,h.get hb],fun b c t hb=>by rw [h.get hb],h.tape,h.os,h.output⟩
theorem Older.of_ext {v v':World} (h:Ext v v') (hv:OkV v):Older v v':=by
  have key:∀ (b:Nat) (o:Obj),v.heap[b]? = some o→(∃ (c:Array Value) (t:TypeId) (f:Nat × Nat),o=Obj.cells c t f∧∃ c':Array Value,v'.heap[b]? = some (Obj.cells c' t f)∧c'.size=c.size∧(f=(0,c.size)→c'=c))∨((∀ (c:Array Value) (t:TypeId) (f:Nat × Nat),o≠Obj.cells c t f)∧∃ o':Obj,v'.heap[b]? = some o'∧∀ (c:Array Value) (t:TypeId) (f:Nat × Nat),o'≠Obj.cells c t f):=by
    intro b o hb
    by_cases hc:∃ (c:Array Value) (t:TypeId) (f:Nat × Nat),o=Obj.cells c t f
    · obtain ⟨c,t,f,rfl⟩:=hc
      exact .inl ⟨c,t,f,rfl,h.cells b c t f hb⟩
    · have hc':∀ c t f,o≠Obj.cells c t f:=fun c t f e=>hc ⟨c,t,f,e⟩
      obtain ⟨o',h1,h2,_⟩:=h.other b o hb hc' (hv b o hb)
      exact .inr ⟨hc',o',h1,h2⟩
  refine ⟨h.size,fun b hb=>?_,fun b c t hb=>?_,h.tape,h.os,h.output⟩
  · obtain ⟨o,ho⟩:∃ o,v.heap[b]? = some o:=⟨_,Array.getElem?_eq_getElem hb⟩
    rcases key b o ho with ⟨c,t,f,rfl,c',h1,h2,h3⟩ | ⟨h1,o',h2,h3⟩
    · constructor
      · rintro ⟨o,ho',hn⟩
        rw [h1] at ho'; obtain rfl:=Option.some.inj ho'
        refine ⟨_,ho,fun c2 t2 e=>?_⟩
        injection e with e1 e2 e3; subst e1; subst e3
        have:=h3 rfl; subst this; exact hn _ _ rfl
      · rintro ⟨o,ho',hn⟩
        rw [ho] at ho'; obtain rfl:=Option.some.inj ho'
        refine ⟨_,h1,fun c2 t2 e=>?_⟩
        injection e with e1 e2 e3; subst e1; subst e3
        exact hn c t (by rw [h2])
    · exact ⟨fun _=>⟨o,ho,fun c t=>h1 c t _⟩,fun _=>⟨o',h2,fun c t=>h3 c t _⟩⟩
  · obtain ⟨o,ho⟩:∃ o,v.heap[b]? = some o:=⟨_,Array.getElem?_eq_getElem hb⟩
    rcases key b o ho with ⟨c0,t0,f,rfl,c',h1,h2,h3⟩ | ⟨h1,o',h2,h3⟩
    · rw [h1,ho]
      constructor
      · intro e; injection e with e; injection e with e1 e2 e3; subst e1; subst e2; subst e3
        have:=h3 (by rw [h2]); subst this; rfl
      · intro e; injection e with e; injection e with e1 e2 e3; subst e1; subst e2; subst e3
        have:=h3 rfl; subst this; rfl
    · rw [h2,ho]
      constructor
      · intro e; exact absurd (Option.some.inj e) (h3 _ _ _)
      · intro e; exact absurd (Option.some.inj e) (h1 _ _ _)
theorem Older.trans {v v1 v2:World} (h:Older v v1) (k:Older v1 v2):Older v v2 :=
  ⟨Nat.le_trans h.size k.size,fun b hb=>(k.unf b (Nat.lt_of_lt_of_le hb h.size)).trans (h.unf b hb),fun b c t hb=>(k.whole b c t (Nat.lt_of_lt_of_le hb h.size)).trans (h.whole b c t hb),k.tape.trans h.tape,k.os.trans h.os,k.output.trans h.output⟩
theorem Older.hole {v v':World} (h:Older v v') {b:Nat} (hb:v.heap[b]? = some hole):v'.heap[b]? = some hole:=(h.whole b #[] 0 (lt_of_get hb)).2 hb
theorem Older.whole' {v v':World} (h:Older v v') {b:Nat} (hb:Whole v b):Whole v' b:=by
  obtain ⟨c,t,hb⟩:=hb
  exact ⟨c,t,(h.whole b c t (lt_of_get hb)).2 hb⟩
structure Vws (A:Nat→Prop) (V:Nat→World) (w:World):Prop where
  sim:∀ k,A k→Sim (V k) w
  ok:∀ k,A k→OkV (V k)
  dis:∀ k k',A k→A k'→k≠k'→∀ b,Unf (V k) b→(V k').heap[b]? = some hole
def putV (V:Nat→World) (k:Nat) (v' w':World) (x:Nat):World:=if x=k then v' else growV (V x) w'
theorem putV_self (V:Nat→World) (k:Nat) (v' w':World):putV V k v' w' k=v':=by simp [putV]
theorem putV_ne (V:Nat→World) {k x:Nat} (v' w':World) (h:x≠k):putV V k v' w' x=growV (V x) w':=by simp [putV,h]
theorem growV_sim {v w w':World} (h:Sim v w) (hsz:w.heap.size≤w'.heap.size) (ht:w'.tape=w.tape) (ho:w'.os=w.os) (hp:w'.output=w.output)
    (hb:∀ (b:Nat) (o:Obj),v.heap[b]? = some o→o≠hole→w'.heap[b]? = w.heap[b]?):Sim (growV v w') w':=by
  have hs:v.heap.size=w.heap.size:=h.size
  refine ⟨by simp [growV,h.tape,ht],rfl,by simp [growV,h.os,ho],by simp [growV,h.output,hp],growV_size (by omega),fun b o hx=>?_⟩
  rcases Nat.lt_or_ge b v.heap.size with hlt | hge
  · rw [growV_old hlt] at hx
    by_cases e:o=hole
    · exact .inl e
    · rw [hb b o hx e]; exact h.blk b o hx
  · exact .inl (growV_new hge hx)
theorem Vws.step {A:Nat→Prop} {V:Nat→World} {w:World} (h:Vws A V w) {k:Nat} (hk:A k) {Rm:Event→Prop} {v' w':World} {es:Array Event} (hs:StepQ Rm (V k) w v' w' es):Vws A (putV V k v' w') w':=by
  have hsz:(V k).heap.size=w.heap.size:=(h.sim k hk).size
  have hsz':v'.heap.size=w'.heap.size:=hs.sim.size
  have hge:(V k).heap.size≤v'.heap.size:=hs.ext.size
  have hO:=Older.of_ext hs.ext (h.ok k hk)
  have htp:w'.tape=w.tape:=by rw [← hs.sim.tape,hs.ext.tape,(h.sim k hk).tape]
  have hos:w'.os=w.os:=by rw [← hs.sim.os,hs.ext.os,(h.sim k hk).os]
  have hop:w'.output=w.output:=by rw [← hs.sim.output,hs.ext.output,(h.sim k hk).output]
  refine ⟨fun x hx=>?_,fun x hx=>?_,fun x y hx hy hne b hu=>?_⟩
  · by_cases e:x=k
    · subst e; rw [putV_self]; exact hs.sim
    · rw [putV_ne V _ _ e]
      refine growV_sim (h.sim x hx) (by omega) htp hos hop fun b o hb hne=>?_
      have hlt:b<(V k).heap.size:=by rw [hsz,← (h.sim x hx).size]; exact lt_of_get hb
      rcases whole_or_unf hlt with ⟨c,t,hw⟩ | hu
      · exact hs.rest b c t hw
      · have:=h.dis k x hk hx (Ne.symm e) b hu
        rw [hb] at this; exact absurd (Option.some.inj this) hne
  · by_cases e:x=k
    · subst e; rw [putV_self]; exact hs.ok
    · rw [putV_ne V _ _ e]; exact (growV_env _ _).okV (h.ok x hx)
  · by_cases e:x=k
    · subst e
      have ey:y≠x:=Ne.symm hne
      rw [putV_self] at hu
      rw [putV_ne V _ _ ey]
      rcases Nat.lt_or_ge b (V x).heap.size with hlt | hge'
      · exact growV_hole (h.dis x y hx hy hne b ((hO.unf b hlt).1 hu))
      · obtain ⟨o,ho,_⟩:=hu
        have hlt:=lt_of_get ho
        have hy':(V y).heap.size=w.heap.size:=(h.sim y hy).size
        have hb:b<(growV (V y) w').heap.size:=by rw [growV_size (by omega)]; omega
        have hget:=Array.getElem?_eq_getElem hb
        have:=growV_new (v:=V y) (w':=w') (b:=b) (by omega) hget
        rw [hget,this]
    · rw [putV_ne V _ _ e] at hu
      have hu':=growV_unf.1 hu
      by_cases ey:y=k
      · subst ey
        rw [putV_self]
        exact hO.hole (h.dis x y hx hy hne b hu')
      · rw [putV_ne V _ _ ey]
        exact growV_hole (h.dis x y hx hy hne b hu')
theorem Vws.aside {A:Nat→Prop} {V:Nat→World} {w w':World} (h:Vws A V w) (hsz:w'.heap.size=w.heap.size) (ht:w'.tape=w.tape) (ho:w'.os=w.os) (hp:w'.output=w.output)
    (hb:∀ k,A k→∀ (b:Nat) (o:Obj),(V k).heap[b]? = some o→o≠hole→w'.heap[b]? = w.heap[b]?):Vws A (fun x=>growV (V x) w') w' :=
  ⟨fun k hk=>growV_sim (h.sim k hk) (by omega) ht ho hp (hb k hk),fun k hk=>(growV_env _ _).okV (h.ok k hk),fun k k' hk hk' hne b hu=>growV_hole (h.dis k k' hk hk' hne b (growV_unf.1 hu))⟩
/-! ### what is handed to a worker -/
def frzOb:Obj→Obj
  | .cells c e _=>.cells c e (0,c.size)
  | _=>hole
def frzV (v:World):World:={ v with heap:=v.heap.map frzOb }
theorem frzV_get (v:World) (b:Nat):(frzV v).heap[b]? = (v.heap[b]?).map frzOb:=by simp [frzV]
theorem frzV_size (v:World):(frzV v).heap.size=v.heap.size:=by simp [frzV]
theorem frzOb_whole (o:Obj):∃ c t,frzOb o=.cells c t (0,c.size):=by
  cases o with
  | cells c e f=>exact ⟨c,e,rfl⟩
  | _=>exact ⟨#[],0,rfl⟩
theorem frzV_whole {v:World} {b:Nat} (h:b<v.heap.size):Whole (frzV v) b:=by
  obtain ⟨c,t,e⟩:=frzOb_whole v.heap[b]
  exact ⟨c,t,by rw [frzV_get,Array.getElem?_eq_getElem h,Option.map_some,e]⟩
theorem frzV_not_unf (v:World) (b:Nat):¬ Unf (frzV v) b:=by
  rintro ⟨o,ho,hn⟩
  have hlt:=lt_of_get ho
  rw [frzV_size] at hlt
  exact (frzV_whole hlt).not_unf ⟨o,ho,hn⟩
theorem frzOb_hole:frzOb hole=hole:=rfl
theorem frzV_hole {v:World} {b:Nat} (h:v.heap[b]? = some hole):(frzV v).heap[b]? = some hole:=by rw [frzV_get,h,Option.map_some,frzOb_hole]
theorem frzV_ok (v:World):OkV (frzV v):=fun b o ho=>by
  rw [frzV_get] at ho
  obtain ⟨x,_,rfl⟩:=Option.map_eq_some_iff.1 ho
  obtain ⟨c,t,e⟩:=frzOb_whole x
  rw [e]; rfl
theorem frzV_sim {v w:World} (h:Sim v w):Sim (frzV v) w:=by
  refine ⟨h.tape,h.drawn,h.os,h.output,by rw [frzV_size]; exact h.size,fun b o ho=>?_⟩
  rw [frzV_get] at ho
  obtain ⟨x,hx,rfl⟩:=Option.map_eq_some_iff.1 ho
  cases x with
  | cells c e f =>
    simp only [frzOb]
    rcases h.blk b _ hx with e1 | e1 | ⟨c',e',f',e1,e2⟩
    · injection e1 with e1 e2 e3; subst e1; subst e2; exact .inl rfl
    · exact .inr (.inr ⟨c,e,f,rfl,e1⟩)
    · injection e1 with e1 e3 e4; subst e1; subst e3
      exact .inr (.inr ⟨c,e,f',rfl,e2⟩)
  | _=>exact .inl rfl
end Go.Am
end
section
open List renaming map_map→ζ,mapM_map→ξ
namespace Go.Am
open Go.Conc Go.ConcR.Gen Go.Conc.Lib Go.RowKit Go.ConcR
open Go
def WgLv (ty:TypeId) (Wg:Nat) (w:World):Prop:=∃ st sm,w.heap[Wg]? = some (wgBlock ty st sm)
theorem WgLv.cell0 {ty:TypeId} {Wg:Nat} {w:World} (h:WgLv ty Wg w):∃ v,w.cell? ⟨Wg,0,none⟩=some v:=by
  obtain ⟨st,sm,h⟩:=h
  exact ⟨.int .u64 st,by simp [World.cell?,h,wgBlock]⟩
theorem WgLv.cell1 {ty:TypeId} {Wg:Nat} {w:World} (h:WgLv ty Wg w):∃ v,w.cell? ⟨Wg,1,none⟩=some v:=by
  obtain ⟨st,sm,h⟩:=h
  exact ⟨.int .u32 sm,by simp [World.cell?,h,wgBlock]⟩
def noE:Event→Prop:=fun _=>False
section
variable (P:Program) (L:WgLink) (Wg:Nat)
def AtSem (d:Nat) (g:Goroutine):Prop :=
  d=1∧g.status=.running∧mayWake P g=true∧∀ w,w.heap[Wg]? = some (wgBlock L.tWg 0 0)→∃ g',stepG P false g w=.go g' (w.setCell (smA Wg) (.int .u32 1)) (semEvents (smA Wg))∧∃ q,QuitsD P q d g'
def AtZero (d:Nat) (g:Goroutine):Prop :=
  d=1∧g.status=.running∧∀ w,w.heap[Wg]? = some (wgBlock L.tWg 1 0)→∃ g',stepG P false g w=.go g' (w.setCell (stA Wg) (.int .u64 0)) #[wr (stA Wg)]∧Dl P false (WgLv L.tWg Wg) noE (AtSem P L Wg) d g'
def AtLook (d:Nat) (g:Goroutine):Prop :=
  d=1∧g.status=.running∧∀ w,w.heap[Wg]? = some (wgBlock L.tWg 1 0)→∃ g',stepG P false g w=.go g' w #[rd (stA Wg)]∧Dl P false (WgLv L.tWg Wg) noE (AtZero P L Wg) d g'
def AtSub (d:Nat) (g:Goroutine):Prop :=
  g.status=.running∧∀ (w:World) (v wt:Nat),wt≤1→v<2147483647→w.heap[Wg]? = some (wgBlock L.tWg (((v:Int)+1) * KK+wt) 0) →
    ∃ g',stepG P false g w=.go g' (w.setCell (stA Wg) (.int .u64 ((v:Int) * KK+wt))) #[rd (stA Wg),wr (stA Wg)] ∧
      ((v=0∧wt=1)→Dl P false (WgLv L.tWg Wg) noE (AtLook P L Wg) d g')∧(¬ (v=0∧wt=1)→∃ q,QuitsD P q d g')
def AtRelM (d:Nat) (g:Goroutine):Prop :=
  g.status=.running∧d=0∧∃ g',(∀ w,WgLv L.tWg Wg w→stepG P false g w=.go g' w #[mk (.releaseMerge (stA Wg))])∧Dl P false (WgLv L.tWg Wg) noE (fun d g=>d=1∧AtSub P L Wg d g) 0 g'
end
def saidE (Wg:Nat) (e:Event):Prop:=e=⟨.mark (.read (smA Wg)),false,true⟩∨e=⟨.mark (.write (smA Wg)),false,true⟩
section
variable (P:Program) (L:WgLink) (Wg:Nat)
def AtAdd (K:Nat→Goroutine→Prop) (d:Nat) (g:Goroutine):Prop :=
  g.status=.running∧∀ (w:World) (v:Nat),v<2147483647→w.heap[Wg]? = some (wgBlock L.tWg ((v:Int) * KK) 0) →
    ∃ g',stepG P true g w=.go g' (w.setCell (stA Wg) (.int .u64 (((v:Int)+1) * KK))) #[rd (stA Wg),wr (stA Wg)]∧Dl P true (WgLv L.tWg Wg) (saidE Wg) K d g'
end
section
variable (P:Program) (L:WgLink) (Wg:Nat) (K:Goroutine→Prop)
def AtAcq (d:Nat) (g:Goroutine):Prop :=
  d=0∧g.status=.running∧∃ g',(∀ w,WgLv L.tWg Wg w→stepG P true g w=.go g' w #[mk (.acquire (stA Wg))])∧Dl P true (fun _=>True) noE (fun d g=>d=0∧K g) 0 g'
def AtLd4 (d:Nat) (g:Goroutine):Prop :=
  g.status=.running∧∀ w,w.heap[Wg]? = some (wgBlock L.tWg 0 0)→∃ g',stepG P true g w=.go g' w #[rd (stA Wg)]∧Dl P true (WgLv L.tWg Wg) (saidE Wg) (AtAcq P L Wg K) d g'
def AtTake (d:Nat) (g:Goroutine):Prop :=
  g.status=.running∧g.offers=none∧(∀ w st,w.heap[Wg]? = some (wgBlock L.tWg st 0)→stepG P true g w=.go { g with status:=.blocked } w #[]) ∧
    ∀ w,w.heap[Wg]? = some (wgBlock L.tWg 0 1)→∃ g',stepG P true g w=.go g' (w.setCell (smA Wg) (.int .u32 0)) (semEvents (smA Wg))∧Dl P true (WgLv L.tWg Wg) (saidE Wg) (AtLd4 P L Wg K) d g'
def AtCas (An:Goroutine→Prop) (vs:Nat) (d:Nat) (g:Goroutine):Prop :=
  g.status=.running∧∀ (w:World) (v:Nat),v<2147483648→w.heap[Wg]? = some (wgBlock L.tWg ((v:Int) * KK) 0) →
    (v=vs→∃ g',stepG P true g w=.go g' (w.setCell (stA Wg) (.int .u64 ((v:Int) * KK+1))) #[rd (stA Wg),wr (stA Wg)]∧Dl P true (WgLv L.tWg Wg) (saidE Wg) (AtTake P L Wg K) d g') ∧
    (v≠vs→∃ g',stepG P true g w=.go g' w #[rd (stA Wg)]∧Dl P true (WgLv L.tWg Wg) (saidE Wg) (fun d' g=>d'=d∧An g) d g')
def AtLd (An:Goroutine→Prop) (d:Nat) (g:Goroutine):Prop :=
  g.status=.running∧∀ (w:World) (v:Nat),v<2147483648→w.heap[Wg]? = some (wgBlock L.tWg ((v:Int) * KK) 0) →
    ∃ g',stepG P true g w=.go g' w #[rd (stA Wg)]∧(v=0→Dl P true (WgLv L.tWg Wg) (saidE Wg) (AtAcq P L Wg K) d g')∧(v≠0→Dl P true (WgLv L.tWg Wg) (saidE Wg) (fun d' g=>d'=d∧AtCas P L Wg K An v d' g) d g')
def HeadW (c:Frame) (cs:List Frame) (g:Goroutine):Prop :=
  ∃ T:Array Value,g=G ((base L.wait).at ⟨T,[]⟩ [.code (L7 L),.inLoop (L7 L),.inBlock 0]) (c::cs)∧T.size=84∧T[0]? = some (.pointer (some ⟨Wg,0,none⟩))
end
end Go.Am
end
section
open List renaming map_map→ζ,mapM_map→ξ
namespace Go.Am
open Go.Conc
open Go.ConcN (CT Apart Ok0 OkW PermW)
open Go.ConcR (stA smA)
structure Pl where
  C:Nat
  wd:Nat
  n:Nat
  ety:TypeId
  val:Nat→Nat→Value
  pos:0<wd
  tot:Nat
  le:n * wd≤tot
def Pl.cell (p:Pl) (i r:Nat):Addr:=⟨p.C,i * p.wd+r,none⟩
def locBlk:Loc→Option Nat
  | .cell a=>some a.block
  | .obj r=>some r
  | _=>none
section
variable (p:Pl) (m j:Nat) (V:Nat→World)
def OwnF (k:Nat) (l:Loc):Prop:=m≤k∧k<m+j∧((∃ b,locBlk l=some b∧Unf (V k) b)∨∃ r,r<p.wd∧l=.cell (p.cell (k - m) r))
def RdF (k:Nat) (l:Loc):Prop:=m≤k∧k<m+j∧∃ (a:Addr) (c:Array Value) (t:TypeId),l=.cell a∧(V k).heap[a.block]? = some (.cells c t (0,c.size))∧a.off<c.size
end
def Act01 (m j k:Nat):Prop:=k=0∨(m≤k∧k<m+j)
theorem apart_of {p:Pl} {m j:Nat} {V:Nat→World} {w:World} {S:Nat→Prop} (hv:Vws (Act01 m j) V w) (hm:1≤m) (hC:∀ k,Act01 m j k→(V k).heap[p.C]? = some hole) (hS:∀ k,Act01 m j k→∀ b,S b→(V k).heap[b]? = some hole) (hCS:¬ S p.C) :
    Apart (ShunS S) (OwnF p m j V) (RdF m j V) where
  own k k' l h h':=by
    obtain ⟨a1,a2,h⟩:=h
    obtain ⟨b1,b2,h'⟩:=h'
    by_cases hne:k=k'
    · exact hne
    rcases h with ⟨b,e,hu⟩ | ⟨r,hr,e⟩ <;> rcases h' with ⟨b',e',hu'⟩ | ⟨r',hr',e'⟩
    · rw [e] at e'; obtain rfl:=Option.some.inj e'
      exact absurd hu' (hole_not_unf (hv.dis k k' (.inr ⟨a1,a2⟩) (.inr ⟨b1,b2⟩) hne b hu))
    · subst e'; simp only [locBlk,Option.some.injEq,Pl.cell] at e; subst e
      exact absurd hu (hole_not_unf (hC k (.inr ⟨a1,a2⟩)))
    · subst e; simp only [locBlk,Option.some.injEq,Pl.cell] at e'; subst e'
      exact absurd hu' (hole_not_unf (hC k' (.inr ⟨b1,b2⟩)))
    · subst e
      simp only [Pl.cell,Loc.cell.injEq,Addr.mk.injEq,and_true,true_and] at e'
      have h1:(r+p.wd * (k - m)) / p.wd=k - m:=by rw [Nat.add_mul_div_left _ _ (by omega),Nat.div_eq_of_lt hr]; omega
      have h2:(r'+p.wd * (k' - m)) / p.wd=k' - m:=by rw [Nat.add_mul_div_left _ _ (by omega),Nat.div_eq_of_lt hr']; omega
      have h3:r+p.wd * (k - m)=r'+p.wd * (k' - m):=by rw [Nat.mul_comm,Nat.mul_comm p.wd]; omega
      rw [h3,h2] at h1; omega
  ownRd k k' l h h':=by
    obtain ⟨a1,a2,h⟩:=h
    obtain ⟨b1,b2,a,c,t,rfl,hw,hlt⟩:=h'
    rcases h with ⟨b,e,hu⟩ | ⟨r,hr,e⟩
    · simp only [locBlk,Option.some.injEq] at e; subst e
      by_cases hne:k=k'
      · subst hne; exact Whole.not_unf ⟨c,t,hw⟩ hu
      · have:=hv.dis k k' (.inr ⟨a1,a2⟩) (.inr ⟨b1,b2⟩) hne _ hu
        rw [hw] at this; injection this with this; injection this with e1 _ _; subst e1; simp at hlt
    · injection e with e; subst e
      rw [show (p.cell (k - m) r).block=p.C from rfl,hC k' (.inr ⟨b1,b2⟩)] at hw
      injection hw with hw; injection hw with e1 _ _; subst e1; simp at hlt
  ownSh k l h hs:=by
    obtain ⟨a1,a2,h⟩:=h
    cases l with
    | cell a =>
      rcases h with ⟨b,e,hu⟩ | ⟨r,hr,e⟩
      · simp only [locBlk,Option.some.injEq] at e; subst e
        exact hole_not_unf (hS k (.inr ⟨a1,a2⟩) _ hs) hu
      · injection e with e; subst e; exact hCS hs
    | _=>exact hs
  rdSh k l h hs:=by
    obtain ⟨b1,b2,a,c,t,rfl,hw,hlt⟩:=h
    rw [hS k (.inr ⟨b1,b2⟩) _ hs] at hw
    injection hw with hw; injection hw with e1 _ _; subst e1; simp at hlt
/-! ### the trace -/
def Untouched (t:Trace) (l:Loc):Prop:=∀ i a,touchAt t i=some a→a.loc≠l
theorem touch_low {x:MemAct} {B:Nat} {a:Touch} (h:x.low B) (ha:x.touch? = some a):a.loc.low B:=by
  cases x with
  | access e=>simp only [MemAct.touch?,Option.some.injEq] at ha; subst ha; exact h
  | mark mk=>cases mk <;> simp [MemAct.touch?] at ha <;> subst ha <;> exact h
  | _=>simp [MemAct.touch?] at ha
theorem untouched_of {t:Trace} {B:Nat} (h:∀ op∈t,op.act.low B) {l:Loc} {b:Nat} (hl:locBlk l=some b) (hb:B≤b):Untouched t l:=by
  intro i a ha e
  obtain ⟨op,hop,hoa⟩:=touch_of ha
  have:=touch_low (h op (Array.mem_of_getElem? hop)) hoa
  rw [e] at this
  cases l <;> simp [locBlk] at hl <;> subst hl <;> simp only [Loc.low] at this <;> omega
theorem CT.grow {Sh:Loc→Prop} {Own Own' Rd Rd':Nat→Loc→Prop} {t:Trace} {j:Nat} (h:CT Sh Own Rd t j) (ho:∀ k l,1≤k→k≤j→Own k l→Own' k l) (hr:∀ k l,1≤k→k≤j→Rd k l→Rd' k l)
    (hf:∀ k l,1≤k→k≤j→Own' k l→Own k l∨Untouched t l) (hg:∀ k l,1≤k→k≤j→Rd' k l→Rd k l∨Untouched t l):CT Sh Own' Rd' t j where
  quiet:=h.quiet
  own k h1 h2 l hl:=by
    rcases hf k l h1 h2 hl with h3 | h3
    · exact h.own k h1 h2 l h3
    · exact fun i a ha e=>(h3 i a ha e).elim
  rd k h1 h2 l hl:=by
    rcases hg k l h1 h2 hl with h3 | h3
    · exact h.rd k h1 h2 l h3
    · exact fun i a ha e _=>(h3 i a ha e).elim
  free l hs hn:=h.free l hs fun k h1 h2=>⟨fun x=>(hn k h1 h2).1 (ho k l h1 h2 x),fun x=>(hn k h1 h2).2 (hr k l h1 h2 x)⟩
  mine l hs hn:=h.mine l hs fun k h1 h2 x=>hn k h1 h2 (ho k l h1 h2 x)
  nr:=h.nr
  gs:=h.gs
theorem ct_views {p:Pl} {m j N:Nat} {V V':Nat→World} {t:Trace} {S:Nat→Prop} {B:Nat} (h:CT (ShunS S) (OwnF p m j V) (RdF m j V) t N) (hB:∀ op∈t,op.act.low B) (hsz:∀ k,m≤k→k<m+j→(V k).heap.size=B) (hO:∀ k,m≤k→k<m+j→Older (V k) (V' k)) :
    CT (ShunS S) (OwnF p m j V') (RdF m j V') t N:=by
  refine CT.grow h (fun k l _ _ ⟨a1,a2,hl⟩=>⟨a1,a2,?_⟩) (fun k l _ _ ⟨a1,a2,a,c,ty,e,hw,hlt⟩=>⟨a1,a2,a,c,ty,e,?_,hlt⟩) (fun k l _ _ ⟨a1,a2,hl⟩=>?_) (fun k l _ _ ⟨a1,a2,a,c,ty,e,hw,hlt⟩=>?_)
  · rcases hl with ⟨b,e,hu⟩ | hl
    · exact .inl ⟨b,e,((hO k a1 a2).unf b (let ⟨_,ho,_⟩:=hu; lt_of_get ho)).2 hu⟩
    · exact .inr hl
  · exact ((hO k a1 a2).whole _ c ty (lt_of_get hw)).2 hw
  · rcases hl with ⟨b,e,hu⟩ | hl
    · rcases Nat.lt_or_ge b B with hlt | hge
      · exact .inl ⟨a1,a2,.inl ⟨b,e,((hO k a1 a2).unf b (by rw [hsz k a1 a2]; exact hlt)).1 hu⟩⟩
      · exact .inr (untouched_of hB e hge)
    · exact .inl ⟨a1,a2,.inr hl⟩
  · rcases Nat.lt_or_ge a.block B with hlt' | hge
    · exact .inl ⟨a1,a2,a,c,ty,e,((hO k a1 a2).whole _ c ty (by rw [hsz k a1 a2]; exact hlt')).1 hw,hlt⟩
    · exact .inr (untouched_of hB (by rw [e]; rfl) hge)
theorem okW_evV {p:Pl} {m j k:Nat} {V:Nat→World} {S:Nat→Prop} (hk:m≤k) (hkj:k<m+j) {e:Event} (h:EvV (V k) e) (fn:FuncId) (pos:String):OkW (ShunS S) (OwnF p m j V) (RdF m j V) k { g:=k,fn,pos,act:=.ofEvent e }:=by
  refine ⟨rfl,fun x hx=>?_⟩
  obtain ⟨loc,wr,sy⟩:=e
  rcases h with ⟨a,c,t,f,h1,h2,h3,h4,h5⟩ | ⟨r,o,h1,h2,h3,h4,h5⟩ | h
  · simp only at h1 h2 h3 h5; subst h1; subst h2
    simp [MemAct.ofEvent,MemAct.touch?] at hx; subst hx
    by_cases hf:f=(0,c.size)
    · subst hf
      refine .inr (.inr ⟨⟨hk,hkj,a,c,t,rfl,h3,h4⟩,?_⟩)
      cases wr with
      | false=>rfl
      | true=>exact absurd rfl (h5 rfl)
    · refine .inr (.inl ⟨hk,hkj,.inl ⟨a.block,rfl,_,h3,fun c2 t2 e=>?_⟩⟩)
      injection e with e1 e2 e3; subst e1; exact hf e3
  · simp only at h1 h2 h3; subst h1; subst h2
    simp [MemAct.ofEvent,MemAct.touch?] at hx; subst hx
    exact .inr (.inl ⟨hk,hkj,.inl ⟨r,rfl,o,h3,fun c t=>h4 c t _⟩⟩)
  · injection h with e1 e2 e3; subst e1; subst e2; subst e3
    simp [MemAct.ofEvent,MemAct.touch?] at hx
theorem ok0_evV {p:Pl} {m j N:Nat} {V:Nat→World} {w:World} {S:Nat→Prop} (hv:Vws (Act01 m j) V w) (hm:1≤m) (hC:(V 0).heap[p.C]? = some hole) (hS:∀ b,S b→(V 0).heap[b]? = some hole) {e:Event} (h:EvV (V 0) e) (fn:FuncId) (pos:String) :
    Ok0 (ShunS S) (OwnF p m j V) (RdF m j V) N { g:=0,fn,pos,act:=.ofEvent e }:=by
  refine ⟨rfl,fun x hx=>?_⟩
  obtain ⟨loc,wr,sy⟩:=e
  have key:∀ k b,m≤k→k<m+j→∀ o,(V 0).heap[b]? = some o→o≠hole→¬ Unf (V k) b:=fun k b h1 h2 o ho hne hu=>by
    have:=hv.dis k 0 (.inr ⟨h1,h2⟩) (.inl rfl) (by omega) b hu
    rw [ho] at this; exact hne (Option.some.inj this)
  rcases h with ⟨a,c,t,f,h1,h2,h3,h4,h5⟩ | ⟨r,o,h1,h2,h3,h4,h5⟩ | h
  · simp only at h1 h2 h3 h5; subst h1; subst h2
    simp [MemAct.ofEvent,MemAct.touch?] at hx; subst hx
    have hne:Obj.cells c t f≠hole:=by intro e; injection e with e1 _ _; subst e1; simp at h4
    refine .inr ⟨fun hs=>?_,fun k _ _ ⟨a1,a2,ho⟩=>?_,fun hw k _ _ ⟨a1,a2,a',c',t',e,hw',hlt⟩=>?_⟩
    · rw [hS a.block hs] at h3; exact hne (Option.some.inj h3).symm
    · rcases ho with ⟨b,e,hu⟩ | ⟨r,hr,e⟩
      · simp only [locBlk,Option.some.injEq] at e; subst e
        exact key k _ a1 a2 _ h3 hne hu
      · injection e with e; subst e
        rw [show (p.cell (k - m) r).block=p.C from rfl,hC] at h3; exact hne (Option.some.inj h3).symm
    · injection e with e; subst e
      have hu:Unf (V 0) a.block:=⟨_,h3,fun c2 t2 e=>by injection e with e1 e2 e3; subst e1; exact h5 hw e3⟩
      have:=hv.dis 0 k (.inl rfl) (.inr ⟨a1,a2⟩) (by omega) _ hu
      rw [hw'] at this; injection this with this; injection this with e1 _ _; subst e1; simp at hlt
  · simp only at h1 h2 h3; subst h1; subst h2
    simp [MemAct.ofEvent,MemAct.touch?] at hx; subst hx
    have hne:o≠hole:=fun e=>h4 _ _ _ e
    refine .inr ⟨fun hs=>hs.elim,fun k _ _ ⟨a1,a2,ho⟩=>?_,fun hw k _ _ ⟨a1,a2,a',c',t',e,_⟩=>by cases e⟩
    rcases ho with ⟨b,e,hu⟩ | ⟨r',hr,e⟩
    · simp only [locBlk,Option.some.injEq] at e; subst e
      exact key k _ a1 a2 _ h3 hne hu
    · cases e
  · injection h with e1 e2 e3; subst e1; subst e2; subst e3
    simp [MemAct.ofEvent,MemAct.touch?] at hx
theorem low_evV {v:World} {B:Nat} (hB:v.heap.size≤B) {e:Event} (h:EvV v e):(MemAct.ofEvent e).low B:=by
  exact (evL_of_evV (S:=fun _=>False) (fun _ x=>x.elim) hB h).2.2.2
end Go.Am
end
section
open List renaming map_map→ζ,mapM_map→ξ
namespace Go.Am
open Go.Conc Go.Conc.Lib
open Go.ConcN (CT Apart Ok0 OkW PermW RelBy CTag phi Mode WD Vc Ssum sumTo upd upd_same upd_ne)
open Go.ConcR (KK wgBlock stA smA rd wr mk)
section
variable (P:Program) (L:WgLink) (Wg:Nat) (p:Pl)
def PayA (w:World):Prop:=∃ (cs:Array Value) (f:Nat × Nat),w.heap[p.C]? = some (.cells cs p.ety f)∧cs.size=p.tot∧(cs.size≠0→f=(0,0))
structure PutOk (i:Nat) (w w':World):Prop where
  tape:w'.tape=w.tape
  os:w'.os=w.os
  output:w'.output=w.output
  size:w'.heap.size=w.heap.size
  block:∀ b,b≠p.C→w'.heap[b]? = w.heap[b]?
  pay:PayA p w'
  cells:∀ o,(o<i * p.wd∨(i+1) * p.wd≤o)→w'.cell? ⟨p.C,o,none⟩=w.cell? ⟨p.C,o,none⟩
  new:∀ r,r<p.wd→w'.cell? (p.cell i r)=some (p.val i r)
def AtPut (i:Nat) (d:Nat) (g:Goroutine):Prop :=
  d=0∧g.status=.running∧∀ w,PayA p w→∃ g' w' es,stepG P false g w=.go g' w' es∧PutOk p i w w'∧(∀ e∈es,∃ r,r<p.wd∧e=⟨.cell (p.cell i r),true,false⟩)∧Dl P false (WgLv L.tWg Wg) noE (AtRelM P L Wg) 0 g'
abbrev GTw (i:Nat):=GT P false (fun _=>True) noE (fun d g _=>AtPut P L Wg p i d g)
inductive WS (i:Nat):Nat→Tr→Nat→Goroutine→World→Prop
  | work {tr:Tr} {d:Nat} {g:Goroutine} {v:World}:GTw P L Wg p i tr d g v→WS i 7 tr d g v
  | rel {n d:Nat} {g:Goroutine} {v:World}:DlN P false (WgLv L.tWg Wg) noE (AtRelM P L Wg) n d g→WS i 6 (Tr.nat n) d g v
  | sub {n d:Nat} {g:Goroutine} {v:World}:DlN P false (WgLv L.tWg Wg) noE (fun d g=>d=1∧AtSub P L Wg d g) n d g→WS i 5 (Tr.nat n) d g v
  | look {n d:Nat} {g:Goroutine} {v:World}:DlN P false (WgLv L.tWg Wg) noE (AtLook P L Wg) n d g→WS i 4 (Tr.nat n) d g v
  | zero {n d:Nat} {g:Goroutine} {v:World}:DlN P false (WgLv L.tWg Wg) noE (AtZero P L Wg) n d g→WS i 3 (Tr.nat n) d g v
  | sem {n d:Nat} {g:Goroutine} {v:World}:DlN P false (WgLv L.tWg Wg) noE (AtSem P L Wg) n d g→WS i 2 (Tr.nat n) d g v
  | quit {n d:Nat} {g:Goroutine} {v:World}:QuitsD P n d g→WS i 1 (Tr.nat n) d g v
abbrev GTm (Stop:Nat→Goroutine→World→Prop):=GT P true (WgLv L.tWg Wg) (saidE Wg) Stop
def AtGo (i:Nat) (Next:Goroutine→World→Prop) (d:Nat) (g:Goroutine) (v:World):Prop :=
  d=0∧g.status=.running∧∀ v1,Env v v1→∃ g' child,(∀ w,Sim v1 w→WgLv L.tWg Wg w→stepG P true g w=.spawn g' child w #[])∧child.status=.running∧(∃ tr,GTw P L Wg p i tr 0 child (frzV v1))∧Next g' (frzV v1)
def StopA (i:Nat) (Next:Goroutine→World→Prop) (d:Nat) (g:Goroutine) (v:World):Prop :=
  d=1∧AtAdd P L Wg (fun d' g'=>∀ v1,Env v v1→OkV v1→∃ tr,GTm P L Wg (AtGo P L Wg p i Next) tr d' g' v1) d g
variable (K An:Goroutine→Prop)
def StopL (d:Nat) (g:Goroutine) (_:World):Prop:=d=1∧AtLd P L Wg K An d g
def MScr:Nat→Goroutine→World→Prop
  | 0,g,v=>∃ tr,GTm P L Wg (StopL P L Wg K An) tr 0 g v
  | r+1,g,v=>∃ tr,GTm P L Wg (StopA P L Wg p (p.n - (r+1)) (MScr r)) tr 0 g v
inductive CS:CTag→Nat→Tr→Nat→Goroutine→World→Prop
  | a1 {r:Nat} {tr:Tr} {d:Nat} {g:Goroutine} {v:World}:r<p.n→GTm P L Wg (StopA P L Wg p (p.n - (r+1)) (MScr P L Wg p K An r)) tr d g v→CS (.sp r 4) (p.n - (r+1)) tr d g v
  | go {r:Nat} {tr:Tr} {d:Nat} {g:Goroutine} {v:World}:r<p.n→GTm P L Wg (AtGo P L Wg p (p.n - (r+1)) (MScr P L Wg p K An r)) tr d g v→CS (.sp r 3) (p.n - (r+1)) tr d g v
  | w1 {tr:Tr} {d:Nat} {g:Goroutine} {v:World}:GTm P L Wg (StopL P L Wg K An) tr d g v→CS .w1 p.n tr d g v
  | w2 {vs n d:Nat} {g:Goroutine} {v:World}:DlN P true (WgLv L.tWg Wg) (saidE Wg) (fun d g=>d=1∧AtCas P L Wg K An vs d g) n d g→CS (.w2 vs) p.n (Tr.nat n) d g v
  | w3 {n d:Nat} {g:Goroutine} {v:World}:DlN P true (WgLv L.tWg Wg) (saidE Wg) (AtTake P L Wg K) n d g→CS .w3 p.n (Tr.nat (n+1)) d g v
  | blk {r:Tr} {d:Nat} {g:Goroutine} {v:World}:AtTake P L Wg K d g→CS .blk p.n r d { g with status:=.blocked } v
  | w4 {n d:Nat} {g:Goroutine} {v:World}:DlN P true (WgLv L.tWg Wg) (saidE Wg) (AtLd4 P L Wg K) n d g→CS .w4 p.n (Tr.nat n) d g v
  | acq {n d:Nat} {g:Goroutine} {v:World}:DlN P true (WgLv L.tWg Wg) (saidE Wg) (AtAcq P L Wg K) n d g→CS .acq p.n (Tr.nat n) d g v
  | ret {n d:Nat} {g:Goroutine} {v:World}:DlN P true (fun _=>True) noE (fun d g=>d=0∧K g) n d g→CS .ret p.n (Tr.nat n) d g v
end
section
variable {P:Program} {L:WgLink} {Wg:Nat} {p:Pl} {K An:Goroutine→Prop}
theorem GTw.env' {i:Nat} {tr:Tr} {d:Nat} {g:Goroutine} {v v1:World} (h:GTw P L Wg p i tr d g v) (he:Env v v1):GTw P L Wg p i tr d g v1:=GT.env (fun _ _ _ _ h _=>h) h he
theorem WS.env {i s d:Nat} {r:Tr} {g:Goroutine} {v v1:World} (h:WS P L Wg p i s r d g v) (he:Env v v1):WS P L Wg p i s r d g v1:=by
  cases h with
  | work h=>exact .work (h.env' he)
  | rel h=>exact .rel h
  | sub h=>exact .sub h
  | look h=>exact .look h
  | zero h=>exact .zero h
  | sem h=>exact .sem h
  | quit h=>exact .quit h
theorem atGo_env {i:Nat} {N:Goroutine→World→Prop}:EnvS (AtGo P L Wg p i N):=fun _ _ _ _ h he=>⟨h.1,h.2.1,fun v2 he2=>h.2.2 v2 (he.trans he2)⟩
theorem atAdd_mono {K K':Nat→Goroutine→Prop} (hK:∀ d g,K d g→K' d g) {d:Nat} {g:Goroutine} (h:AtAdd P L Wg K d g):AtAdd P L Wg K' d g :=
  ⟨h.1,fun w v hv hw=>let ⟨g',h1,h2⟩:=h.2 w v hv hw; ⟨g',h1,h2.mono hK⟩⟩
theorem stopA_env {i:Nat} {N:Goroutine→World→Prop}:EnvS (StopA P L Wg p i N):=fun _ _ _ _ h he=>⟨h.1,atAdd_mono (fun _ _ hk v2 he2 ho=>hk v2 (he.trans he2) ho) h.2⟩
theorem stopL_env:EnvS (StopL P L Wg K An):=fun _ _ _ _ h _=>h
theorem CS.env {tag:CTag} {j d:Nat} {r:Tr} {g:Goroutine} {v v1:World} (h:CS P L Wg p K An tag j r d g v) (he:Env v v1):CS P L Wg p K An tag j r d g v1:=by
  cases h with
  | a1 hr h=>exact .a1 hr (h.env stopA_env he)
  | go hr h=>exact .go hr (h.env atGo_env he)
  | w1 h=>exact .w1 (h.env stopL_env he)
  | w2 h=>exact .w2 h
  | w3 h=>exact .w3 h
  | blk h=>exact .blk h
  | w4 h=>exact .w4 h
  | acq h=>exact .acq h
  | ret h=>exact .ret h
theorem DlN.run {main:Bool} {I:World→Prop} {Rm:Event→Prop} {K:Nat→Goroutine→Prop} (hK:∀ d g,K d g→g.status=.running) {n d:Nat} {g:Goroutine} (h:DlN P main I Rm K n d g):g.status=.running:=by
  rcases h.cases with h | ⟨_,_,h,_⟩
  · exact hK _ _ h
  · exact h
theorem GT.run {main:Bool} {I:World→Prop} {Rm:Event→Prop} {Stop:Nat→Goroutine→World→Prop} (hK:∀ d g v,Stop d g v→g.status=.running) {tr:Tr} {d:Nat} {g:Goroutine} {v:World} (h:GT P main I Rm Stop tr d g v):g.status=.running:=by
  cases tr with
  | leaf=>exact hK _ _ _ h
  | node f=>exact h.1
theorem WS.status {i s d:Nat} {r:Tr} {g:Goroutine} {v:World} (h:WS P L Wg p i s r d g v):(g.status=.running)∨(g.status=.finished∧s=1):=by
  cases h with
  | work h=>exact .inl (h.run fun _ _ _ h=>h.2.1)
  | rel h=>exact .inl (h.run fun _ _ h=>h.1)
  | sub h=>exact .inl (h.run fun _ _ h=>h.2.1)
  | look h=>exact .inl (h.run fun _ _ h=>h.2.1)
  | zero h=>exact .inl (h.run fun _ _ h=>h.2.1)
  | sem h=>exact .inl (h.run fun _ _ h=>h.2.1)
  | quit h=>exact h.status.elim .inl fun x=>.inr ⟨x,rfl⟩
theorem WS.woken {i s d:Nat} {r:Tr} {g:Goroutine} {v:World} (h:WS P L Wg p i s r d g v) (a a':Goroutine) (w':World):woken P a a' w' g=g:=by
  unfold Go.Conc.woken
  split
  · exact again_running _ (h.status.elim .inl fun x=>.inr x.1)
  · rfl
theorem CS.status (hK:∀ g,K g→g.status=.running) {tag:CTag} {j d:Nat} {r:Tr} {g:Goroutine} {v:World} (h:CS P L Wg p K An tag j r d g v):(g.status=.running∧tag≠.blk)∨(g.status=.blocked∧tag=.blk):=by
  cases h with
  | a1 hr h=>exact .inl ⟨h.run fun _ _ _ h=>h.2.1,by simp⟩
  | go hr h=>exact .inl ⟨h.run fun _ _ _ h=>h.2.1,by simp⟩
  | w1 h=>exact .inl ⟨h.run fun _ _ _ h=>h.2.1,by simp⟩
  | w2 h=>exact .inl ⟨h.run fun _ _ h=>h.2.1,by simp⟩
  | w3 h=>exact .inl ⟨h.run fun _ _ h=>h.1,by simp⟩
  | blk h=>exact .inr ⟨rfl,rfl⟩
  | w4 h=>exact .inl ⟨h.run fun _ _ h=>h.1,by simp⟩
  | acq h=>exact .inl ⟨h.run fun _ _ h=>h.2.1,by simp⟩
  | ret h=>exact .inl ⟨h.run fun _ _ h=>hK _ h.2,by simp⟩
theorem CS.wokenBy (hK:∀ g,K g→g.status=.running) {tag:CTag} {j d:Nat} {r:Tr} {a:Goroutine} {v:World} (h:CS P L Wg p K An tag j r d a v) (g g':Goroutine) (w':World) :
    ∃ tag' r',CS P L Wg p K An tag' j r' d (woken P g g' w' a) v∧(tag'=tag∨(tag=.blk∧tag'=.w3))∧(mayWake P g=true→g'.status=.running→tag'≠.blk):=by
  unfold Go.Conc.woken
  split
  · rcases h.status hK with ⟨hs,hne⟩ | ⟨_,rfl⟩
    · exact ⟨tag,r,by rw [again_running _ (.inl hs)]; exact h,.inl rfl,fun _ _=>hne⟩
    · cases h with
      | blk hb =>
        exact ⟨.w3,Tr.nat (0+1),by rw [Go.ConcR.again_blocked hb.1 hb.2.1]; exact .w3 (n:=0) hb,.inr ⟨rfl,rfl⟩,fun _ _=>by simp⟩
  · rename_i hc
    exact ⟨tag,r,h,.inl rfl,fun h1 h2=>absurd (by simp [h1,h2]) hc⟩
end
end Go.Am
end
section
open List renaming map_map→ζ,mapM_map→ξ
namespace Go.Am
open Go.Conc Go.Conc.Lib
open Go.ConcN (CT Apart Ok0 OkW PermW RelBy CTag phi Mode WD Vc Ssum sumTo)
open Go.ConcR (KK wgBlock stA smA rd wr mk)
def ShW (S:Nat→Prop) (Wg b:Nat):Prop:=S b∨b=Wg
structure Com (P:Program) (L:WgLink) (Wg:Nat) (p:Pl) (S:Nat→Prop) (w0:World) (m j:Nat) (gs:Array Goroutine) (w:World) (t:Trace) (D:Nat→WD) (R:Nat→Tr) (V:Nat→World) (d0:Nat):Prop where
  mpos:1≤m
  size:gs.size=m+j
  wk:∀ i,i<j→∃ g,gs[m+i]? = some g∧WS P L Wg p i (D i).stage (R (m+i)) (D i).deaf g (V (m+i))
  old:∀ i,0<i→i<m→∃ g q,gs[i]? = some g∧R i=Tr.nat q∧QuitsD P q (Deaf t i) g
  above:∀ i,m+j≤i→Deaf t i=0
  ct:CT (ShunS (ShW S Wg)) (OwnF p m j V) (RdF m j V) t (m+j - 1)
  norel:NoRelease (stA Wg) t
  deaf0:Deaf t 0=d0
  deafW:∀ i,i<j→Deaf t (m+i)=(D i).deaf
  rel:∀ i,i<j→(D i).stage≤5→∃ r,RelBy (stA Wg) t (m+i) r
  has:∀ i,i<j→(D i).stage≤6→∀ r,r<p.wd→w.cell? (p.cell i r)=some (p.val i r)
  pay:PayA p w
  vws:Vws (Act01 m j) V w
  low:∀ k,Act01 m j k→∀ b,b≤Wg→Whole (V k) b
  hC:∀ k,Act01 m j k→(V k).heap[p.C]? = some hole
  hS:∀ k,Act01 m j k→∀ b,ShW S Wg b→(V k).heap[b]? = some hole
  stay:∀ b,b<Wg→(b≠p.C∨p.tot=0)→w.heap[b]? = w0.heap[b]?
  like:w.tape=w0.tape∧w.os=w0.os∧w.output=w0.output
  kn:∀ i a,touchAt t i=some a→Knows t 0 i∨(ShunS (ShW S Wg) a.loc∧a.kind=.atomic)∨((∃ g,t.g? i=some g∧m≤g)∧a.kind≠.atomic)
  mem:∀ i a,touchAt t i=some a→a.loc.isMemory=true
  over:∀ i g,t.g? i=some g→g≠0→g<m→t.counts i→∃ q,t.g? q=some 0∧HappensBefore t i q
  seen:∀ op∈t,op.act.low w.heap.size
structure Geo (Wg:Nat) (p:Pl) (S:Nat→Prop):Prop where
  C:p.C<Wg
  S:¬ S p.C
section
variable {P:Program} {L:WgLink} {Wg:Nat} {p:Pl} {S:Nat→Prop} {w0:World} {m j:Nat} {gs:Array Goroutine} {w w':World} {t u:Trace} {D:Nat→WD} {R:Nat→Tr} {V V':Nat→World} {d0:Nat}
theorem Com.apart (h:Com P L Wg p S w0 m j gs w t D R V d0) (G:Geo Wg p S):Apart (ShunS (ShW S Wg)) (OwnF p m j V) (RdF m j V) :=
  apart_of h.vws h.mpos h.hC h.hS fun hs=>hs.elim G.S fun e=>by have:=G.C; omega
theorem kn_app (h:∀ i a,touchAt t i=some a→Knows t 0 i∨(ShunS (ShW S Wg) a.loc∧a.kind=.atomic)∨((∃ g,t.g? i=some g∧m≤g)∧a.kind≠.atomic))
    (hu:∀ op∈u,∀ a,op.act.touch? = some a→op.g=0∨(ShunS (ShW S Wg) a.loc∧a.kind=.atomic)∨(m≤op.g∧a.kind≠.atomic)) :
    ∀ i a,touchAt (t++u) i=some a→Knows (t++u) 0 i∨(ShunS (ShW S Wg) a.loc∧a.kind=.atomic)∨((∃ g,(t++u).g? i=some g∧m≤g)∧a.kind≠.atomic):=by
  intro i a ha
  obtain ⟨x,hx,hxa⟩:=touch_of ha
  rcases getElem?_append_cases hx with ⟨hi,hx'⟩ | ⟨_,hxu⟩
  · rcases h i a (by rw [touchAt_of hx']; exact hxa) with h1 | h1 | ⟨⟨g,h1,h2⟩,h3⟩
    · exact .inl (h1.app u)
    · exact .inr (.inl h1)
    · exact .inr (.inr ⟨⟨g,by simpa [Trace.g?,getElem?_append_old hi] using h1,h2⟩,h3⟩)
  · rcases hu x hxu a hxa with h1 | h1 | ⟨h1,h2⟩
    · have:=knows_own hx
      rw [h1] at this
      exact .inl this
    · exact .inr (.inl h1)
    · exact .inr (.inr ⟨⟨x.g,by simp [Trace.g?,hx],h1⟩,h2⟩)
theorem mem_app (h:∀ i a,touchAt t i=some a→a.loc.isMemory=true) (hu:∀ op∈u,∀ a,op.act.touch? = some a→a.loc.isMemory=true):∀ i a,touchAt (t++u) i=some a→a.loc.isMemory=true:=by
  intro i a ha
  obtain ⟨x,hx,hxa⟩:=touch_of ha
  rcases getElem?_append_cases hx with ⟨_,hx'⟩ | ⟨_,hxu⟩
  · exact h i a (by rw [touchAt_of hx']; exact hxa)
  · exact hu x hxu a hxa
theorem over_app (h:∀ i g,t.g? i=some g→g≠0→g<m→t.counts i→∃ q,t.g? q=some 0∧HappensBefore t i q) (hu:∀ op∈u,op.g=0∨m≤op.g∨op.act.touch? = none) :
    ∀ i g,(t++u).g? i=some g→g≠0→g<m→(t++u).counts i→∃ q,(t++u).g? q=some 0∧HappensBefore (t++u) i q:=by
  intro i g hg hne hlt hc
  obtain ⟨x,hx,_⟩:=hc
  obtain ⟨op,hop,hox⟩:=touch_of hx
  rcases getElem?_append_cases hop with ⟨hi,hop'⟩ | ⟨_,hopu⟩
  · obtain ⟨q,hq,hb⟩:=h i g (by simpa [Trace.g?,getElem?_append_old hi] using hg) hne hlt ((counts_old hi).1 ⟨x,hx,‹_›⟩)
    have hql:q<t.size:=by
      unfold Trace.g? at hq
      obtain ⟨z,hz,_⟩:=Option.map_eq_some_iff.1 hq
      exact lt_size_of_getElem? hz
    exact ⟨q,by simpa [Trace.g?,getElem?_append_old hql] using hq,hb_app u hb⟩
  · have hgg:op.g=g:=by simpa [Trace.g?,hop] using hg
    rcases hu op hopu with h0 | h0 | h0
    · exact absurd (hgg.symm.trans h0) hne
    · omega
    · rw [h0] at hox; cases hox
theorem low_app {B B':Nat} (h:∀ op∈t,op.act.low B) (hB:B≤B') (hu:∀ op∈u,op.act.low B'):∀ op∈t++u,op.act.low B':=fun op hop=>(Array.mem_append.1 hop).elim (fun x=>MemAct.low_mono hB (h op x)) (hu op)
structure Kept' (p:Pl) (Wg:Nat) (w w':World):Prop where
  size:w.heap.size≤w'.heap.size
  stay:∀ b,b<Wg→(b≠p.C∨p.tot=0)→w'.heap[b]? = w.heap[b]?
  like:w'.tape=w.tape∧w'.os=w.os∧w'.output=w.output
  pay:PayA p w'
theorem Com.stepW (h:Com P L Wg p S w0 m j gs w t D R V d0) (G:Geo Wg p S) {i:Nat} (hi:i<j) {g g':Goroutine} {es:Array Event} {s' dd':Nat} {r':Tr}
    (hg:gs[m+i]? = some g) (hK:Kept' p Wg w w') (hV:Vws (Act01 m j) V' w') (hE:∀ x,x≠m+i→Env (V x) (V' x)) (hO:Older (V (m+i)) (V' (m+i)))
    (hs':WS P L Wg p i s' r' dd' g' (V' (m+i))) (hdd:deafBehind (D i).deaf es=dd')
    (hok:∀ e∈es,∀ fn pos,OkW (ShunS (ShW S Wg)) (OwnF p m j V') (RdF m j V') (m+i) { g:=m+i,fn,pos,act:=.ofEvent e })
    (hat:∀ e∈es,∀ x,(MemAct.ofEvent e).touch? = some x→x.loc.isMemory=true∧((ShunS (ShW S Wg) x.loc∧x.kind=.atomic)∨x.kind≠.atomic))
    (hnr:∀ e∈es,e.loc≠.mark (.release (stA Wg))) (hlow:∀ e∈es,(MemAct.ofEvent e).low w'.heap.size)
    (hrel:s'≤5→∃ r,RelBy (stA Wg) (t++MemOp.ofEvents (m+i) g.frame.fn g.frame.place es) (m+i) r)
    (hhas:s'≤6→∀ r,r<p.wd→w'.cell? (p.cell i r)=some (p.val i r)) (hho:∀ i',i'<j→i'≠i→∀ r,r<p.wd→w'.cell? (p.cell i' r)=w.cell? (p.cell i' r)) :
    Com P L Wg p S w0 m j ((gs.map (woken P g g' w')).setIfInBounds (m+i) g') w' (t++MemOp.ofEvents (m+i) g.frame.fn g.frame.place es) (ConcN.upd D i ⟨s',0,dd'⟩) (ConcN.upd R (m+i) r') V' d0:=by
  have hm:=h.mpos
  have hact:Act01 m j (m+i):=.inr ⟨by omega,by omega⟩
  have hold:∀ x,Older (V x) (V' x):=fun x=>by
    by_cases e:x=m+i
    · subst e; exact hO
    · exact Older.of_env (hE x e)
  have hops:∀ op∈MemOp.ofEvents (m+i) g.frame.fn g.frame.place es,op.g=m+i:=fun op hop=>by obtain ⟨e,_,rfl⟩:=Conc.mem_ofEvents hop; rfl
  have hA:Apart (ShunS (ShW S Wg)) (OwnF p m j V') (RdF m j V'):=apart_of hV hm (fun k hk=>(hold k).hole (h.hC k hk)) (fun k hk b hb=>(hold k).hole (h.hS k hk b hb)) fun hs=>hs.elim G.S fun e=>by have:=G.C; omega
  refine ⟨hm,by simp [h.size],fun i' hi'=>?_,fun i' h1 h2=>?_,fun i' hi'=>?_,?_,?_,?_,fun i' hi'=>?_,fun i' hi' hs=>?_,fun i' hi' hs r hr=>?_,hK.pay,hV,fun k hk b hb=>(hold k).whole' (h.low k hk b hb),fun k hk=>(hold k).hole (h.hC k hk),fun k hk b hb=>(hold k).hole (h.hS k hk b hb),
    fun b hb hne=>(hK.stay b hb hne).trans (h.stay b hb hne),⟨hK.like.1.trans h.like.1,hK.like.2.1.trans h.like.2.1,hK.like.2.2.trans h.like.2.2⟩,?_,?_,?_,low_app h.seen hK.size fun op hop=>by obtain ⟨e,he,rfl⟩:=Conc.mem_ofEvents hop; exact hlow e he⟩
  · by_cases e:i'=i
    · subst e
      refine ⟨g',?_,by rw [ConcN.upd_same,ConcN.upd_same]; exact hs'⟩
      have:m+i'<gs.size:=(Array.getElem?_eq_some_iff.1 hg).1
      rw [Array.getElem?_setIfInBounds_self_of_lt (by simpa using this)]
    · obtain ⟨g1,hg1,hs1⟩:=h.wk i' hi'
      refine ⟨g1,?_,by rw [ConcN.upd_ne D _ e,ConcN.upd_ne R _ (by omega)]; exact hs1.env (hE _ (by omega))⟩
      rw [Array.getElem?_setIfInBounds_ne (by omega),Array.getElem?_map,hg1]
      simp [hs1.woken]
  · obtain ⟨g1,q,hg1,hr,hq⟩:=h.old i' h1 h2
    refine ⟨g1,q,?_,by rw [ConcN.upd_ne R _ (by omega)]; exact hr,by rw [Deaf_other t (by omega) _ hops]; exact hq⟩
    rw [Array.getElem?_setIfInBounds_ne (by omega),Array.getElem?_map,hg1]
    simp [woken_quitsD hq]
  · rw [Deaf_other t (g':=m+i) (by omega) _ hops]; exact h.above i' hi'
  · refine ConcN.CT.appW hA (ct_views h.ct h.seen (fun k h1 h2=>(h.vws.sim k (.inr ⟨h1,h2⟩)).size) fun k _ _=>hold k) (k:=m+i) (by omega) (by omega) fun op hop=>?_
    obtain ⟨e,he,rfl⟩:=Conc.mem_ofEvents hop
    exact hok e he _ _
  · exact h.norel.app (ConcN.norel_of hnr)
  · rw [Deaf_other t (g:=0) (g':=m+i) (by omega) _ hops]; exact h.deaf0
  · by_cases e:i'=i
    · subst e; rw [ConcN.upd_same,Deaf_own,h.deafW i' hi',hdd]
    · rw [ConcN.upd_ne D _ e,Deaf_other t (g':=m+i) (by omega) _ hops,h.deafW i' hi']
  · by_cases e:i'=i
    · subst e; rw [ConcN.upd_same] at hs; exact hrel hs
    · rw [ConcN.upd_ne D _ e] at hs
      obtain ⟨r,hr⟩:=h.rel i' hi' hs
      exact ⟨r,hr.appOther hops (by omega)⟩
  · by_cases e:i'=i
    · subst e; rw [ConcN.upd_same] at hs; exact hhas hs r hr
    · rw [ConcN.upd_ne D _ e] at hs
      rw [hho i' hi' e r hr]; exact h.has i' hi' hs r hr
  · refine kn_app h.kn fun op hop a ha=>?_
    obtain ⟨e,he,rfl⟩:=Conc.mem_ofEvents hop
    rcases (hat e he a ha).2 with h1 | h1
    · exact .inr (.inl h1)
    · exact .inr (.inr ⟨by simp only; omega,h1⟩)
  · refine mem_app h.mem fun op hop a ha=>?_
    obtain ⟨e,he,rfl⟩:=Conc.mem_ofEvents hop
    exact (hat e he a ha).1
  · exact over_app h.over fun op hop=>.inr (.inl (by rw [hops op hop]; omega))
theorem Com.step0 (h:Com P L Wg p S w0 m j gs w t D R V d0) (G:Geo Wg p S) {g g':Goroutine} {es:Array Event}
    (hg:gs[0]? = some g) (hK:Kept' p Wg w w') (hV:Vws (Act01 m j) V' w') (hE:∀ x,x≠0→Env (V x) (V' x)) (hO:Older (V 0) (V' 0))
    (hok:∀ e∈es,∀ fn pos,Ok0 (ShunS (ShW S Wg)) (OwnF p m j V') (RdF m j V') (m+j - 1) { g:=0,fn,pos,act:=.ofEvent e })
    (hat:∀ e∈es,∀ x,(MemAct.ofEvent e).touch? = some x→x.loc.isMemory=true)
    (hnr:∀ e∈es,e.loc≠.mark (.release (stA Wg))) (hlow:∀ e∈es,(MemAct.ofEvent e).low w'.heap.size)
    (hho:∀ i,i<j→∀ r,r<p.wd→w'.cell? (p.cell i r)=w.cell? (p.cell i r)) (r0:Tr) :
    Com P L Wg p S w0 m j ((gs.map (woken P g g' w')).setIfInBounds 0 g') w' (t++MemOp.ofEvents 0 g.frame.fn g.frame.place es) D (ConcN.upd R 0 r0) V' (deafBehind d0 es):=by
  have hm:=h.mpos
  have hold:∀ x,Older (V x) (V' x):=fun x=>by
    by_cases e:x=0
    · subst e; exact hO
    · exact Older.of_env (hE x e)
  have hops:∀ op∈MemOp.ofEvents 0 g.frame.fn g.frame.place es,op.g=0:=fun op hop=>by obtain ⟨e,_,rfl⟩:=Conc.mem_ofEvents hop; rfl
  have hA:Apart (ShunS (ShW S Wg)) (OwnF p m j V') (RdF m j V'):=apart_of hV hm (fun k hk=>(hold k).hole (h.hC k hk)) (fun k hk b hb=>(hold k).hole (h.hS k hk b hb)) fun hs=>hs.elim G.S fun e=>by have:=G.C; omega
  refine ⟨hm,by simp [h.size],fun i' hi'=>?_,fun i' h1 h2=>?_,fun i' hi'=>?_,?_,?_,?_,fun i' hi'=>?_,fun i' hi' hs=>?_,fun i' hi' hs r hr=>?_,hK.pay,hV,fun k hk b hb=>(hold k).whole' (h.low k hk b hb),fun k hk=>(hold k).hole (h.hC k hk),fun k hk b hb=>(hold k).hole (h.hS k hk b hb),
    fun b hb hne=>(hK.stay b hb hne).trans (h.stay b hb hne),⟨hK.like.1.trans h.like.1,hK.like.2.1.trans h.like.2.1,hK.like.2.2.trans h.like.2.2⟩,?_,?_,?_,low_app h.seen hK.size fun op hop=>by obtain ⟨e,he,rfl⟩:=Conc.mem_ofEvents hop; exact hlow e he⟩
  · obtain ⟨g1,hg1,hs1⟩:=h.wk i' hi'
    refine ⟨g1,?_,by rw [ConcN.upd_ne R _ (by omega)]; exact hs1.env (hE _ (by omega))⟩
    rw [Array.getElem?_setIfInBounds_ne (by omega),Array.getElem?_map,hg1]
    simp [hs1.woken]
  · obtain ⟨g1,q,hg1,hr,hq⟩:=h.old i' h1 h2
    refine ⟨g1,q,?_,by rw [ConcN.upd_ne R _ (by omega)]; exact hr,by rw [Deaf_other t (by omega) _ hops]; exact hq⟩
    rw [Array.getElem?_setIfInBounds_ne (by omega),Array.getElem?_map,hg1]
    simp [woken_quitsD hq]
  · rw [Deaf_other t (g':=0) (by omega) _ hops]; exact h.above i' hi'
  · refine ConcN.CT.app0 hA (ct_views h.ct h.seen (fun k h1 h2=>(h.vws.sim k (.inr ⟨h1,h2⟩)).size) fun k _ _=>hold k) fun op hop=>?_
    obtain ⟨e,he,rfl⟩:=Conc.mem_ofEvents hop
    exact hok e he _ _
  · exact h.norel.app (ConcN.norel_of hnr)
  · rw [Deaf_own,h.deaf0]
  · rw [Deaf_other t (g':=0) (by omega) _ hops,h.deafW i' hi']
  · obtain ⟨r,hr⟩:=h.rel i' hi' hs
    exact ⟨r,hr.appOther hops (by omega)⟩
  · rw [hho i' hi' r hr]; exact h.has i' hi' hs r hr
  · exact kn_app h.kn fun op hop a ha=>.inl (hops op hop)
  · refine mem_app h.mem fun op hop a ha=>?_
    obtain ⟨e,he,rfl⟩:=Conc.mem_ofEvents hop
    exact hat e he a ha
  · exact over_app h.over fun op hop=>.inl (hops op hop)
theorem Com.stepO (h:Com P L Wg p S w0 m j gs w t D R V d0) (G:Geo Wg p S) {i q:Nat} (h0:0<i) (him:i<m) {g g':Goroutine} {es:Array Event}
    (hg:gs[i]? = some g) (hm':∀ e∈es,Event.mute e=true) (hq':QuitsD P q (deafBehind (Deaf t i) es) g') :
    Com P L Wg p S w0 m j ((gs.map (woken P g g' w)).setIfInBounds i g') w (t++MemOp.ofEvents i g.frame.fn g.frame.place es) D (ConcN.upd R i (Tr.nat q)) V d0:=by
  have hm:=h.mpos
  have hlt:i<gs.size:=(Array.getElem?_eq_some_iff.1 hg).1
  have hops:∀ op∈MemOp.ofEvents i g.frame.fn g.frame.place es,op.g=i:=fun op hop=>by obtain ⟨e,_,rfl⟩:=Conc.mem_ofEvents hop; rfl
  have hnt:∀ op∈MemOp.ofEvents i g.frame.fn g.frame.place es,op.act.touch? = none:=fun op hop=>by obtain ⟨e,he,rfl⟩:=Conc.mem_ofEvents hop; exact touch_mute (hm' e he)
  refine ⟨hm,by simp [h.size],fun i' hi'=>?_,fun i' h1 h2=>?_,fun i' hi'=>?_,?_,?_,?_,fun i' hi'=>?_,fun i' hi' hs=>?_,h.has,h.pay,h.vws,h.low,h.hC,h.hS,h.stay,h.like,kn_app h.kn fun op hop a ha=>?_,mem_app h.mem fun op hop a ha=>?_,over_app h.over fun op hop=>.inr (.inr (hnt op hop)),low_app h.seen (Nat.le_refl _) fun op hop=>?_⟩
  · obtain ⟨g1,hg1,hs1⟩:=h.wk i' hi'
    refine ⟨g1,?_,by rw [ConcN.upd_ne R _ (by omega)]; exact hs1⟩
    rw [Array.getElem?_setIfInBounds_ne (by omega),Array.getElem?_map,hg1]
    simp [hs1.woken]
  · by_cases e:i'=i
    · subst e
      refine ⟨g',q,by rw [Array.getElem?_setIfInBounds_self_of_lt (by simpa using hlt)],by rw [ConcN.upd_same],by rw [Deaf_own]; exact hq'⟩
    · obtain ⟨g1,q1,hg1,hr,hq⟩:=h.old i' h1 h2
      refine ⟨g1,q1,?_,by rw [ConcN.upd_ne R _ e]; exact hr,by rw [Deaf_other t (by omega) _ hops]; exact hq⟩
      rw [Array.getElem?_setIfInBounds_ne (by omega),Array.getElem?_map,hg1]
      simp [woken_quitsD hq]
  · rw [Deaf_other t (g':=i) (by omega) _ hops]; exact h.above i' hi'
  · refine ConcN.CT.appW (h.apart G) h.ct (k:=i) (by omega) (by omega) fun op hop=>⟨hops op hop,fun x hx=>by rw [hnt op hop] at hx; cases hx⟩
  · refine h.norel.app fun op hop e=>?_
    obtain ⟨x,hx,rfl⟩:=Conc.mem_ofEvents hop
    have:=hm' x hx
    have e':=Go.ConcR.loc_of_ofEvent e
    obtain ⟨loc,wr,sy⟩:=x
    simp only at e'
    subst e'
    simp [Event.mute] at this
  · rw [Deaf_other t (g:=0) (g':=i) (by omega) _ hops]; exact h.deaf0
  · rw [Deaf_other t (g':=i) (by omega) _ hops,h.deafW i' hi']
  · obtain ⟨r,hr⟩:=h.rel i' hi' hs
    exact ⟨r,hr.appOther hops (by omega)⟩
  · rw [hnt op hop] at ha; cases ha
  · rw [hnt op hop] at ha; cases ha
  · obtain ⟨e,he,rfl⟩:=Conc.mem_ofEvents hop
    exact low_mute (hm' e he) _
theorem Com.at (h:Com P L Wg p S w0 m j gs w t D R V d0) (d:Nat):Com P L Wg p S w0 m j gs (w.at d) t D R (fun x=>growV (V x) (w.at d)) d0 where
  mpos:=h.mpos
  size:=h.size
  wk i hi:=let ⟨g,h1,h2⟩:=h.wk i hi; ⟨g,h1,h2.env (growV_env _ _)⟩
  old:=h.old
  above:=h.above
  ct:=ct_views h.ct h.seen (fun k h1 h2=>(h.vws.sim k (.inr ⟨h1,h2⟩)).size) fun k _ _=>Older.of_env (growV_env _ _)
  norel:=h.norel
  deaf0:=h.deaf0
  deafW:=h.deafW
  rel:=h.rel
  has:=h.has
  pay:=h.pay
  vws:=h.vws.aside rfl rfl rfl rfl fun _ _ _ _ _ _=>rfl
  low k hk b hb:=(Older.of_env (growV_env _ _)).whole' (h.low k hk b hb)
  hC k hk:=growV_hole (h.hC k hk)
  hS k hk b hb:=growV_hole (h.hS k hk b hb)
  stay:=h.stay
  like:=h.like
  kn:=h.kn
  mem:=h.mem
  over:=h.over
  seen:=h.seen
end
end Go.Am
end
section
open List renaming map_map→ζ,mapM_map→ξ
namespace Go.Am
open Go.Conc Go.Conc.Lib
open Go.ConcN (CT Apart Ok0 OkW PermW RelBy CTag phi WD Vc Ssum sumTo sumTo_upd OpenSt AllQuit isOpen isW3 isFin pend phi_mono phi_retag le_sumTo Vc_le Vc_upd others_uncounted bk_cell)
open Go.ConcR (KK wgBlock stA smA rd wr mk Bk bk_of_mute ofEvent_loc_mark ofEvent_cell ofEvent_mk)
/-! ### the measure -/
inductive LLt:List Tr→List Tr→Prop
  | head {x y:Tr} {l:List Tr}:TrLt x y→LLt (x::l) (y::l)
  | tail {x:Tr} {l l':List Tr}:LLt l l'→LLt (x::l) (x::l')
theorem llt_cons {x:Tr} (hx:Acc TrLt x):∀ l,Acc LLt l→Acc LLt (x::l):=by
  induction hx with
  | intro x _ ihx =>
    intro l hl
    induction hl with
    | intro l hl' ihl =>
      refine ⟨_,fun y hy=>?_⟩
      cases hy with
      | head h=>exact ihx _ h l ⟨_,hl'⟩
      | tail h=>exact ihl _ h
theorem llt_acc:∀ l:List Tr,Acc LLt l
  | []=>⟨_,fun y hy=>by cases hy⟩
  | x::l=>llt_cons (trLt_acc x) l (llt_acc l)
theorem llt_map {l:List Nat} {f f':Nat→Tr} {k:Nat} (hk:k∈l) (hn:l.Nodup) (h:TrLt (f' k) (f k)) (he:∀ x∈l,x≠k→f' x=f x):LLt (l.map f') (l.map f):=by
  induction l with
  | nil=>cases hk
  | cons x l ih =>
    have hn':=List.nodup_cons.1 hn
    by_cases e:x=k
    · subst e
      have:l.map f'=l.map f:=List.map_congr_left fun y hy=>he y (by simp [hy]) fun e=>hn'.1 (e ▸ hy)
      rw [List.map_cons,List.map_cons,this]
      exact .head h
    · rw [List.map_cons,List.map_cons,he x (by simp) e]
      exact .tail (ih (by simpa [Ne.symm e] using hk) hn'.2 fun y hy=>he y (by simp [hy]))
abbrev Mu:=Nat × (List Tr × Tr)
def MLt:Mu→Mu→Prop:=Prod.Lex (·<·) (Prod.Lex LLt TrLt)
theorem mlt_wf:WellFounded MLt:=(Prod.lex ⟨(·<·),Nat.lt_wfRel.wf⟩ (Prod.lex ⟨LLt,⟨llt_acc⟩⟩ ⟨TrLt,⟨trLt_acc⟩⟩)).wf
def ranks (R:Nat→Tr) (N:Nat):List Tr:=(List.range' 1 (N - 1)).map R
theorem ranks_lt {R R':Nat→Tr} {N k:Nat} (h1:1≤k) (h2:k<N) (h:TrLt (R' k) (R k)) (he:∀ x,x≠0→x≠k→R' x=R x):LLt (ranks R' N) (ranks R N) :=
  llt_map (k:=k) (by simp [List.mem_range'_1]; omega) (List.nodup_range' (step:=1)) h fun x hx hne=>he x (by simp [List.mem_range'_1] at hx; omega) hne
theorem ranks_eq {R R':Nat→Tr} {N:Nat} (he:∀ x,x≠0→R' x=R x):ranks R' N=ranks R N :=
  List.map_congr_left fun x hx=>he x (by simp [List.mem_range'_1] at hx; omega)
def AcqA (Wg m j:Nat) (t:Trace):Prop :=
  ∃ q,t.act? q=some (.mark (.acquire (stA Wg)))∧t.g? q=some 0∧t.heard q∧∀ i,i<j→∃ r,RelBy (stA Wg) t (m+i) r∧r<q
theorem AcqA.app {Wg m j:Nat} {t u:Trace} (h:AcqA Wg m j t) (hu:∀ i r,i<j→RelBy (stA Wg) t (m+i) r→RelBy (stA Wg) (t++u) (m+i) r):AcqA Wg m j (t++u):=by
  obtain ⟨q,h1,h2,h3,h4⟩:=h
  have hq:=lt_of_act? h1
  exact ⟨q,by rw [act?_old hq]; exact h1,by rw [g?_old hq]; exact h2,(heard_old hq).2 h3,fun i hi=>let ⟨r,hr,hrq⟩:=h4 i hi; ⟨r,hu i r hi hr,hrq⟩⟩
section
variable (P:Program) (L:WgLink) (Wg:Nat) (p:Pl) (K An:Goroutine→Prop) (S:Nat→Prop) (w0:World) (m:Nat)
def Inv (μ:Mu) (M:Machine) (t:Trace):Prop :=
  ∃ (gs:Array Goroutine) (w:World) (sl:Option (Nat × Nat)) (j:Nat) (D:Nat→WD) (R:Nat→Tr) (V:Nat→World) (tag:CTag) (d0:Nat) (a:Goroutine) (st sm:Int),
    M=crowd gs w sl∧gs[0]? = some a∧CS P L Wg p K An tag j (R 0) d0 a (V 0)∧Com P L Wg p S w0 m j gs w t D R V d0∧w.heap[Wg]? = some (wgBlock L.tWg st sm)∧ConcN.Mode j D tag st sm ∧
    (tag=.ret→AcqA Wg m j t)∧μ=(phi p.n (Vc j D) tag+Ssum j D,ranks R (m+j),R 0)
end
section
variable {P:Program} {L:WgLink} {Wg:Nat} {p:Pl} {K An:Goroutine→Prop} {S:Nat→Prop} {w0:World} {m j:Nat} {gs:Array Goroutine} {w w':World} {sl:Option (Nat × Nat)} {t:Trace} {D:Nat→WD} {R:Nat→Tr} {V V':Nat→World} {tag:CTag} {d0:Nat} {a:Goroutine} {st sm:Int}
theorem workerStep (hKr:∀ g,K g→g.status=.running) (G:Geo Wg p S)
    (ha:gs[0]? = some a) (hcs:CS P L Wg p K An tag j (R 0) d0 a (V 0)) (hcom:Com P L Wg p S w0 m j gs w t D R V d0)
    {i:Nat} (hi:i<j) {g g':Goroutine} {es:Array Event} {s' dd':Nat} {r':Tr} {st' sm':Int} (hg:gs[m+i]? = some g) (hgo:stepG P false g w=.go g' w' es)
    (hK:Kept' p Wg w w') (hV:Vws (Act01 m j) V' w') (hE:∀ x,x≠m+i→Env (V x) (V' x)) (hO:Older (V (m+i)) (V' (m+i)))
    (hs':WS P L Wg p i s' r' dd' g' (V' (m+i))) (hdd:deafBehind (D i).deaf es=dd')
    (hok:∀ e∈es,∀ fn pos,OkW (ShunS (ShW S Wg)) (OwnF p m j V') (RdF m j V') (m+i) { g:=m+i,fn,pos,act:=.ofEvent e })
    (hat:∀ e∈es,∀ x,(MemAct.ofEvent e).touch? = some x→x.loc.isMemory=true∧((ShunS (ShW S Wg) x.loc∧x.kind=.atomic)∨x.kind≠.atomic))
    (hnr:∀ e∈es,e.loc≠.mark (.release (stA Wg))) (hlow:∀ e∈es,(MemAct.ofEvent e).low w'.heap.size)
    (hrel:s'≤5→∃ r,RelBy (stA Wg) (t++MemOp.ofEvents (m+i) g.frame.fn g.frame.place es) (m+i) r)
    (hhas:s'≤6→∀ r,r<p.wd→w'.cell? (p.cell i r)=some (p.val i r)) (hho:∀ i',i'<j→i'≠i→∀ r,r<p.wd→w'.cell? (p.cell i' r)=w.cell? (p.cell i' r))
    (hwg:w'.heap[Wg]? = some (wgBlock L.tWg st' sm'))
    (hmode:∀ tag',(tag'=tag∨(tag=.blk∧tag'=.w3))→(mayWake P g=true→g'.status=.running→tag'≠.blk)→ConcN.Mode j (ConcN.upd D i ⟨s',0,dd'⟩) tag' st' sm')
    (hacq:tag=.ret→AcqA Wg m j (t++MemOp.ofEvents (m+i) g.frame.fn g.frame.place es))
    (hlt:(s'<(D i).stage∧ConcN.cnt ⟨s',0,dd'⟩≤ConcN.cnt (D i))∨(s'=(D i).stage∧TrLt r' (R (m+i)))) :
    ∃ M ops μ',runT P (crowd gs w sl) (m+i)=(.next M,ops)∧MLt μ' (phi p.n (Vc j D) tag+Ssum j D,ranks R (m+j),R 0)∧Inv P L Wg p K An S w0 m μ' M (t++ops):=by
  have hm:=hcom.mpos
  obtain ⟨tag',r0,hcs',htag,hwk⟩:=(hcs.env (hE 0 (by omega))).wokenBy hKr g g' w'
  have hrun:=runT_crowd_go (P:=P) (sl:=sl) (i:=m+i) hg (by rw [show (m+i == 0)=false by simp; omega]; exact hgo)
  have e1:=sumTo_upd D (⟨s',0,dd'⟩:WD) ConcN.cnt hi
  have e2:=sumTo_upd D (⟨s',0,dd'⟩:WD) WD.stage hi
  have hcom':=hcom.stepW G hi hg hK hV hE hO hs' hdd hok hat hnr hlow hrel hhas hho
  have hcom'':Com P L Wg p S w0 m j ((gs.map (woken P g g' w')).setIfInBounds (m+i) g') w' (t++MemOp.ofEvents (m+i) g.frame.fn g.frame.place es) (ConcN.upd D i ⟨s',0,dd'⟩) (ConcN.upd (ConcN.upd R (m+i) r') 0 r0) V' d0 :=
    { hcom' with wk:=fun i' hi'=>by rw [ConcN.upd_ne (ConcN.upd R (m+i) r') r0 (show m+i'≠0 by omega)]; exact hcom'.wk i' hi',old:=fun i' h1 h2=>by rw [ConcN.upd_ne (ConcN.upd R (m+i) r') r0 (show i'≠0 by omega)]; exact hcom'.old i' h1 h2 }
  refine ⟨_,_,(phi p.n (Vc j (ConcN.upd D i ⟨s',0,dd'⟩)) tag'+Ssum j (ConcN.upd D i ⟨s',0,dd'⟩),ranks (ConcN.upd (ConcN.upd R (m+i) r') 0 r0) (m+j),r0),hrun,?_,
    _,w',sl,j,ConcN.upd D i ⟨s',0,dd'⟩,ConcN.upd (ConcN.upd R (m+i) r') 0 r0,V',tag',d0,woken P g g' w' a,st',sm',rfl,?_,by rw [ConcN.upd_same]; exact hcs',hcom'',hwg,hmode tag' htag hwk,?_,by rw [ConcN.upd_same]⟩
  · rw [phi_retag p.n _ htag]
    simp only [Vc,Ssum] at *
    rcases hlt with ⟨h1,h2⟩ | ⟨h1,h2⟩
    · refine Prod.Lex.left _ _ ?_
      have:=phi_mono p.n (v':=sumTo j fun a=>ConcN.cnt (ConcN.upd D i ⟨s',0,dd'⟩ a)) (v:=sumTo j fun a=>ConcN.cnt (D a)) (by omega) tag
      omega
    · have ec:ConcN.cnt (⟨s',0,dd'⟩:WD)=ConcN.cnt (D i):=by simp only [ConcN.cnt,h1]
      have ev:(sumTo j fun a=>ConcN.cnt (ConcN.upd D i ⟨s',0,dd'⟩ a))=sumTo j fun a=>ConcN.cnt (D a):=by omega
      have es':(sumTo j fun a=>(ConcN.upd D i ⟨s',0,dd'⟩ a).stage)=sumTo j fun a=>(D a).stage:=by omega
      rw [ev,es']
      refine Prod.Lex.right _ (Prod.Lex.left _ _ (ranks_lt (k:=m+i) (by omega) (by omega) ?_ fun x h0 hx=>by rw [ConcN.upd_ne _ _ h0,ConcN.upd_ne _ _ hx]))
      rw [ConcN.upd_ne _ _ (by omega),ConcN.upd_same]; exact h2
  · rw [Array.getElem?_setIfInBounds_ne (by omega),Array.getElem?_map,ha]; rfl
  · intro e
    rcases htag with rfl | ⟨_,rfl⟩
    · exact hacq e
    · cases e
/-! ### small laws -/
theorem okW_bk {k:Nat} {Own Rd:Nat→Loc→Prop} {e:Event} (h:Bk Wg e) (fn:FuncId) (pos:String):OkW (ShunS (ShW S Wg)) Own Rd k { g:=k,fn,pos,act:=.ofEvent e }:=by
  refine ⟨rfl,fun x hx=>?_⟩
  rcases h with h1 | h1 | ⟨a,wr,rfl,ha⟩
  · simp only [ofEvent_loc_mark h1] at hx; cases hx
  · simp only [ofEvent_loc_mark h1] at hx; cases hx
  · simp only [ofEvent_cell,MemAct.touch?,Option.some.injEq] at hx
    subst hx
    exact .inl ⟨.inr ha,by simp,by simp⟩
theorem ok0_bk {N:Nat} {Own Rd:Nat→Loc→Prop} {e:Event} (h:Bk Wg e) (fn:FuncId) (pos:String):Ok0 (ShunS (ShW S Wg)) Own Rd N { g:=0,fn,pos,act:=.ofEvent e }:=by
  refine ⟨rfl,fun x hx=>?_⟩
  rcases h with h1 | h1 | ⟨a,wr,rfl,ha⟩
  · simp only [ofEvent_loc_mark h1] at hx; cases hx
  · simp only [ofEvent_loc_mark h1] at hx; cases hx
  · simp only [ofEvent_cell,MemAct.touch?,Option.some.injEq] at hx
    subst hx
    exact .inl ⟨.inr ha,by simp⟩
theorem at_bk {e:Event} (h:Bk Wg e):∀ x,(MemAct.ofEvent e).touch? = some x→x.loc.isMemory=true∧((ShunS (ShW S Wg) x.loc∧x.kind=.atomic)∨x.kind≠.atomic):=by
  intro x hx
  rcases h with h1 | h1 | ⟨a,wr,rfl,ha⟩
  · simp only [ofEvent_loc_mark h1] at hx; cases hx
  · simp only [ofEvent_loc_mark h1] at hx; cases hx
  · simp only [ofEvent_cell,MemAct.touch?,Option.some.injEq] at hx
    subst hx
    exact ⟨rfl,.inl ⟨.inr ha,by simp⟩⟩
theorem nr_bk {e:Event} (h:Bk Wg e):e.loc≠.mark (.release (stA Wg)):=by
  intro hl
  rcases h with h1 | h1 | ⟨a,wr,rfl,_⟩
  · rw [h1] at hl; cases hl
  · rw [h1] at hl; cases hl
  · cases hl
theorem low_bk {e:Event} (h:Bk Wg e) {B:Nat} (hB:Wg<B):(MemAct.ofEvent e).low B:=by
  rcases h with h1 | h1 | ⟨a,wr,rfl,ha⟩
  · rw [ofEvent_loc_mark h1]; trivial
  · rw [ofEvent_loc_mark h1]; trivial
  · rw [ofEvent_cell]; simp only [MemAct.low,Loc.low]; omega
structure TurnW (Wg:Nat) (w w':World):Prop where
  tape:w'.tape=w.tape
  os:w'.os=w.os
  output:w'.output=w.output
  size:w'.heap.size=w.heap.size
  block:∀ b,b≠Wg→w'.heap[b]? = w.heap[b]?
theorem TurnW.refl (Wg:Nat) (w:World):TurnW Wg w w:=⟨rfl,rfl,rfl,rfl,fun _ _=>rfl⟩
theorem TurnW.set (Wg:Nat) (w:World) (o:Nat) (x:Value):TurnW Wg w (w.setCell ⟨Wg,o,none⟩ x):=⟨rfl,rfl,rfl,by simp [World.setCell],fun b hb=>by rw [setCell_get,if_neg hb]⟩
theorem set_st {Wg:Nat} {w:World} {ty:TypeId} {st sm:Int} (h:w.heap[Wg]? = some (wgBlock ty st sm)) (x:Int):(w.setCell (stA Wg) (.int .u64 x)).heap[Wg]? = some (wgBlock ty x sm):=by
  rw [setCell_get,if_pos (show Wg=(stA Wg).block from rfl),h]; simp [setO,wgBlock,stA]
theorem set_sm {Wg:Nat} {w:World} {ty:TypeId} {st sm:Int} (h:w.heap[Wg]? = some (wgBlock ty st sm)) (x:Int):(w.setCell (smA Wg) (.int .u32 x)).heap[Wg]? = some (wgBlock ty st x):=by
  rw [setCell_get,if_pos (show Wg=(smA Wg).block from rfl),h]; simp [setO,wgBlock,smA]
theorem TurnW.kept (h:TurnW Wg w w') (G:Geo Wg p S) (hp:PayA p w):Kept' p Wg w w' :=
  ⟨Nat.le_of_eq h.size.symm,fun b hb _=>h.block b (by omega),⟨h.tape,h.os,h.output⟩,by obtain ⟨cs,f,h1,h2⟩:=hp; exact ⟨cs,f,(h.block p.C (by have:=G.C; omega)).trans h1,h2⟩⟩
theorem TurnW.cells (h:TurnW Wg w w') (G:Geo Wg p S) (i r:Nat):w'.cell? (p.cell i r)=w.cell? (p.cell i r):=by
  have:=h.block p.C (by have:=G.C; omega)
  simp [World.cell?,Pl.cell,this]
theorem Com.turn (hcom:Com P L Wg p S w0 m j gs w t D R V d0) (h:TurnW Wg w w'):Vws (Act01 m j) (fun x=>growV (V x) w') w' :=
  hcom.vws.aside h.size h.tape h.os h.output fun k hk b o ho hne=>h.block b fun e=>by
    subst e
    rw [hcom.hS k hk b (.inr rfl)] at ho
    exact hne (Option.some.inj ho).symm
theorem bookW (hKr:∀ g,K g→g.status=.running) (G:Geo Wg p S) (ha:gs[0]? = some a) (hcs:CS P L Wg p K An tag j (R 0) d0 a (V 0)) (hcom:Com P L Wg p S w0 m j gs w t D R V d0)
    {i:Nat} (hi:i<j) {g g':Goroutine} {es:Array Event} {s' dd':Nat} {r':Tr} {st' sm':Int} (hg:gs[m+i]? = some g) (hgo:stepG P false g w=.go g' w' es)
    (hT:TurnW Wg w w') (hwg:w'.heap[Wg]? = some (wgBlock L.tWg st' sm')) (hbk:∀ e∈es,Bk Wg e)
    (hd:∀ jx e,es[jx]? = some e→(MemAct.ofEvent e).touch? = none∨0<deafBehind (D i).deaf (es.extract 0 jx))
    (hs':∀ v,WS P L Wg p i s' r' dd' g' v) (hdd:deafBehind (D i).deaf es=dd') (h6:(D i).stage≤6) (h5:s'≤5→(D i).stage≤5)
    (hmode:∀ tag',(tag'=tag∨(tag=.blk∧tag'=.w3))→(mayWake P g=true→g'.status=.running→tag'≠.blk)→ConcN.Mode j (ConcN.upd D i ⟨s',0,dd'⟩) tag' st' sm')
    (hacq:tag=.ret→AcqA Wg m j (t++MemOp.ofEvents (m+i) g.frame.fn g.frame.place es))
    (hlt:(s'<(D i).stage∧ConcN.cnt ⟨s',0,dd'⟩≤ConcN.cnt (D i))∨(s'=(D i).stage∧TrLt r' (R (m+i)))) :
    ∃ M ops μ',runT P (crowd gs w sl) (m+i)=(.next M,ops)∧MLt μ' (phi p.n (Vc j D) tag+Ssum j D,ranks R (m+j),R 0)∧Inv P L Wg p K An S w0 m μ' M (t++ops):=by
  have hdk:Deaf t (m+i)=(D i).deaf:=hcom.deafW i hi
  have hlt':Wg<w'.heap.size:=lt_of_get hwg
  exact workerStep hKr G ha hcs hcom hi hg hgo (hT.kept G hcom.pay) (hcom.turn hT) (fun x _=>growV_env _ _) (Older.of_env (growV_env _ _)) (hs' _) hdd
    (fun e he fn pos=>okW_bk (hbk e he) fn pos) (fun e he=>at_bk (hbk e he)) (fun e he=>nr_bk (hbk e he)) (fun e he=>low_bk (hbk e he) hlt')
    (fun h=>let ⟨r,hr⟩:=hcom.rel i hi (h5 h); ⟨r,hr.book hdk _ _ hbk hd⟩) (fun _ r hr=>(hT.cells G i r).trans (hcom.has i hi h6 r hr)) (fun i' _ _ r _=>hT.cells G i' r) hwg hmode hacq hlt
end
end Go.Am
end
section
open List renaming map_map→ζ,mapM_map→ξ
namespace Go.Am
open Go.Conc Go.Conc.Lib
open Go.ConcN (CT Apart Ok0 OkW PermW RelBy CTag phi WD Vc Ssum sumTo sumTo_upd OpenSt AllQuit isOpen isW3 isFin pend phi_mono phi_retag le_sumTo Vc_le Vc_upd others_uncounted bk_cell)
open Go.ConcR (KK wgBlock stA smA rd wr mk Bk bk_of_mute ofEvent_loc_mark ofEvent_cell ofEvent_mk)
theorem evV_plain {v:World} {e:Event} (h:EvV v e) {x:Touch} (hx:(MemAct.ofEvent e).touch? = some x):x.kind=.plain:=by
  obtain ⟨loc,wr,sy⟩:=e
  rcases h with ⟨a,c,t,f,h1,h2,_⟩ | ⟨r,o,h1,h2,_⟩ | h
  · simp only at h1 h2; subst h1; subst h2
    simp [MemAct.ofEvent,MemAct.touch?] at hx; subst hx; rfl
  · simp only at h1 h2; subst h1; subst h2
    simp [MemAct.ofEvent,MemAct.touch?] at hx; subst hx; rfl
  · injection h with e1 e2 e3; subst e1; subst e2; subst e3
    simp [MemAct.ofEvent,MemAct.touch?] at hx
theorem evV_nr {v:World} {e:Event} (h:EvV v e) (a:Addr):e.loc≠.mark (.release a):=by
  rcases h with ⟨a,c,t,f,h1,_⟩ | ⟨r,o,h1,_⟩ | rfl
  · rw [h1]; simp
  · rw [h1]; simp
  · simp
section
variable {P:Program} {L:WgLink} {Wg:Nat} {p:Pl} {K An:Goroutine→Prop} {S:Nat→Prop} {w0:World} {m j:Nat} {gs:Array Goroutine} {w w':World} {sl:Option (Nat × Nat)} {t:Trace} {D:Nat→WD} {R:Nat→Tr} {V V':Nat→World} {tag:CTag} {d0:Nat} {a:Goroutine} {st sm:Int}
theorem Com.keptQ (hcom:Com P L Wg p S w0 m j gs w t D R V d0) (G:Geo Wg p S) {k:Nat} (hk:Act01 m j k) {Rm:Event→Prop} {v':World} {es:Array Event} (hq:StepQ Rm (V k) w v' w' es) :
    Kept' p Wg w w'∧w'.heap[Wg]? = w.heap[Wg]? ∧ w'.heap[p.C]? = w.heap[p.C]? := by
  have hs:=hcom.vws.sim k hk
  have hsz:(V k).heap.size=w.heap.size:=hs.size
  have hge:=hq.ext.size
  have hsz':=hq.sim.size
  have hC:w'.heap[p.C]? = w.heap[p.C]? := hq.rest _ #[] 0 (hcom.hC k hk)
  refine ⟨⟨by omega,fun b hb hne=>?_,⟨by rw [← hq.sim.tape,hq.ext.tape,hs.tape],by rw [← hq.sim.os,hq.ext.os,hs.os],by rw [← hq.sim.output,hq.ext.output,hs.output]⟩,?_⟩,hq.rest _ #[] 0 (hcom.hS k hk _ (.inr rfl)),hC⟩
  · obtain ⟨c,ty,h⟩:=hcom.low k hk b (by omega)
    exact hq.rest b c ty h
  · obtain ⟨cs,f,h1,h2⟩:=hcom.pay
    exact ⟨cs,f,hC.trans h1,h2⟩
set_option maxHeartbeats 1600000 in
theorem stepWorker (hKr:∀ g,K g→g.status=.running) (G:Geo Wg p S) (hn:p.n<2147483648) (hjn:j+pend tag≤p.n)
    (ha:gs[0]? = some a) (hcs:CS P L Wg p K An tag j (R 0) d0 a (V 0)) (hcom:Com P L Wg p S w0 m j gs w t D R V d0) (hwg:w.heap[Wg]? = some (wgBlock L.tWg st sm)) (hmode:ConcN.Mode j D tag st sm)
    (hacq:tag=.ret→AcqA Wg m j t) {i:Nat} (hi:i<j) {g:Goroutine} (hg:gs[m+i]? = some g) (hrun:g.status=.running) :
    ∃ M ops μ',runT P (crowd gs w sl) (m+i)=(.next M,ops)∧MLt μ' (phi p.n (Vc j D) tag+Ssum j D,ranks R (m+j),R 0)∧Inv P L Wg p K An S w0 m μ' M (t++ops):=by
  obtain ⟨g₁,hg₁,hs⟩:=hcom.wk i hi
  obtain rfl:g=g₁:=by rw [hg] at hg₁; exact Option.some.inj hg₁
  have hm:=hcom.mpos
  have hact:Act01 m j (m+i):=.inr ⟨by omega,by omega⟩
  have hVj:=Vc_le j D
  have hdk:Deaf t (m+i)=(D i).deaf:=hcom.deafW i hi
  have hI:WgLv L.tWg Wg w:=⟨st,sm,hwg⟩
  generalize hst:(D i).stage=s at hs
  generalize hR:R (m+i)=r at hs
  generalize hde:(D i).deaf=dd at hs
  have nr:s≠1→tag≠.ret:=fun h=>hmode.not_ret hi (by omega)
  -- idle steps behind the working stage
  have idle:∀ {g':Goroutine} {es:Array Event} {k:Nat},stepG P false g w=.go g' w es→(∀ e∈es,Event.mute e=true∨noE e)→(∀ v,WS P L Wg p i s (Tr.nat k) (deafBehind dd es) g' v)→r=Tr.nat (k+1)→s≤6 →
      ∃ M ops μ',runT P (crowd gs w sl) (m+i)=(.next M,ops)∧MLt μ' (phi p.n (Vc j D) tag+Ssum j D,ranks R (m+j),R 0)∧Inv P L Wg p K An S w0 m μ' M (t++ops):=by
    intro g' es k hgo hmu hs' hr h6
    have hmu':∀ e∈es,Event.mute e=true:=fun e he=>(hmu e he).resolve_right id
    have hbk:∀ e∈es,Bk Wg e:=fun e he=>bk_of_mute (hmu' e he)
    have hno:∀ jx e,es[jx]? = some e→(MemAct.ofEvent e).touch? = none∨0<deafBehind (D i).deaf (es.extract 0 jx):=fun jx e he=>.inl (touch_mute (hmu' e (Array.mem_of_getElem? he)))
    refine bookW hKr G ha hcs hcom hi hg hgo (.refl Wg w) hwg hbk hno (s':=s) hs' (by rw [hde]) (by omega) (fun h=>by omega) (fun tag' ht _=>?_) (fun e=>?_) (.inr ⟨hst.symm,by rw [hR,hr]; exact trLt_nat k⟩)
    · have:=hmode.same (i:=i) 0 (deafBehind dd es)
      rw [hst] at this
      exact this.retag ht
    · refine (hacq e).app fun i' r' hi' hr'=>?_
      by_cases e':i'=i
      · subst e'; exact hr'.book hdk _ _ hbk hno
      · exact hr'.appOther Go.ConcR.g_of_ofEvents (by omega)
  cases hs with
  | work h =>
    cases htr:r with
    | node f =>
      rw [htr] at h
      obtain ⟨_,hv,hst'⟩:=h
      obtain ⟨g',v',w',es,hgo,hq,hgt⟩:=hst' (V (m+i)) w (.refl _) (hcom.vws.sim _ hact) trivial
      obtain ⟨hK,hW,hC⟩:=hcom.keptQ G hact hq
      have hput:putV V (m+i) v' w' (m+i)=v':=putV_self _ _ _ _
      have hev:∀ e∈es,EvV v' e∨Event.mute e=true:=fun e he=>(hq.evs e he).imp id fun x=>x.resolve_right id
      have hcell:∀ i' r,w'.cell? (p.cell i' r)=w.cell? (p.cell i' r):=fun i' r=>by simp [World.cell?,Pl.cell,hC]
      have hlt':Wg<w'.heap.size:=lt_of_get (hW.trans hwg)
      refine workerStep hKr G ha hcs hcom hi hg hgo (V':=putV V (m+i) v' w') hK (hcom.vws.step hact hq) (fun x hx=>by rw [putV_ne V _ _ hx]; exact growV_env _ _) (by rw [hput]; exact Older.of_ext hq.ext hv)
        (s':=7) (r':=f (V (m+i),w)) (dd':=deafBehind dd es) (.work (by rw [hput]; exact hgt)) (by rw [hde])
        (fun e he fn pos=>?_) (fun e he x hx=>?_) (fun e he=>?_) (fun e he=>?_) (fun h=>by omega) (fun h=>by omega) (fun i' _ _ r _=>hcell i' r) (hW.trans hwg) (fun tag' ht _=>?_) (fun e=>absurd e (nr (by omega))) (.inr ⟨hst.symm,?_⟩)
      · rcases hev e he with h1 | h1
        · exact okW_evV (by omega) (by omega) (by rw [hput]; exact h1) fn pos
        · exact okW_bk (bk_of_mute h1) fn pos
      · rcases hev e he with h1 | h1
        · exact ⟨(evV_mem h1 hx).1,.inr (by rw [evV_plain h1 hx]; simp)⟩
        · rw [touch_mute h1] at hx; cases hx
      · rcases hev e he with h1 | h1
        · exact evV_nr h1 _
        · exact nr_bk (bk_of_mute h1)
      · rcases hev e he with h1 | h1
        · exact low_evV (Nat.le_of_eq hq.sim.size) h1
        · exact low_mute h1 _
      · have:=hmode.same (i:=i) 0 (deafBehind dd es)
        rw [hst] at this
        exact this.retag ht
      · rw [hR,htr]; exact trLt_node f _
    | leaf =>
      rw [htr] at h
      obtain ⟨hd,_,hput⟩:=h
      obtain ⟨g',w',es,hgo,hp,hes,hdl⟩:=hput w hcom.pay
      obtain ⟨n,hdn⟩:=hdl.count
      have hd0:deafBehind dd es=0:=by
        rw [deafBehind_still fun e he=>by obtain ⟨r,_,rfl⟩:=hes e he; exact ⟨by simp,by simp⟩]; exact hd
      have hCl:p.C<w'.heap.size:=by obtain ⟨cs,f,h1,_⟩:=hp.pay; exact lt_of_get h1
      have hW:w'.heap[Wg]? = w.heap[Wg]? := hp.block Wg (by have:=G.C; omega)
      refine workerStep hKr G ha hcs hcom hi hg hgo (V':=fun x=>growV (V x) w') ⟨Nat.le_of_eq hp.size.symm,fun b _ hne=>hne.elim (hp.block b) fun e=>absurd e (by have:=Nat.mul_pos (show 0<p.n by omega) p.pos; have:=p.le; omega),⟨hp.tape,hp.os,hp.output⟩,hp.pay⟩
        (hcom.vws.aside hp.size hp.tape hp.os hp.output fun k hk b o ho hne=>hp.block b fun e=>by subst e; rw [hcom.hC k hk] at ho; exact hne (Option.some.inj ho).symm) (fun x _=>growV_env _ _) (Older.of_env (growV_env _ _))
        (s':=6) (dd':=0) (.rel hdn) (by rw [hde]; exact hd0) (fun e he fn pos=>?_) (fun e he x hx=>?_) (fun e he=>?_) (fun e he=>?_) (fun h=>by omega) (fun _ r hr=>hp.new r hr) (fun i' hi' hne r hr=>?_) (hW.trans hwg)
        (fun tag' ht _=>(hmode.counted hi (by omega) (.inl rfl) _ _).retag ht) (fun e=>absurd e (nr (by omega))) (.inl ⟨by omega,by simp [ConcN.cnt,hst]⟩)
      · obtain ⟨r,hr,rfl⟩:=hes e he
        refine ⟨rfl,fun x hx=>?_⟩
        simp only [ofEvent_cell,MemAct.touch?,Option.some.injEq] at hx
        subst hx
        exact .inr (.inl ⟨by omega,by omega,.inr ⟨r,hr,by simp⟩⟩)
      · obtain ⟨r,hr,rfl⟩:=hes e he
        simp only [ofEvent_cell,MemAct.touch?,Option.some.injEq] at hx
        subst hx
        exact ⟨rfl,.inr (by simp)⟩
      · obtain ⟨r,hr,rfl⟩:=hes e he
        simp
      · obtain ⟨r,hr,rfl⟩:=hes e he
        rw [ofEvent_cell]; exact hCl
      · refine hp.cells _ ?_
        rcases Nat.lt_or_gt_of_ne hne with h1 | h1
        · left
          have:(i'+1) * p.wd≤i * p.wd:=Nat.mul_le_mul_right _ h1
          rw [Nat.add_mul] at this; omega
        · right
          have:(i+1) * p.wd≤i' * p.wd:=Nat.mul_le_mul_right _ h1
          omega
  | rel h =>
    rcases h.cases with ⟨_,hd,g',hgo,hdl⟩ | ⟨n',rfl,_,g',es,hmu,hgo,h'⟩
    · obtain ⟨n,hdn⟩:=hdl.count
      have hlt':Wg<w.heap.size:=lt_of_get hwg
      refine workerStep hKr G ha hcs hcom hi hg (hgo w hI) (V':=V) ((TurnW.refl Wg w).kept G hcom.pay) hcom.vws (fun x _=>.refl _) (Older.of_env (.refl _)) (s':=5) (dd':=0) (.sub hdn) (by rw [hde,hd]; rfl)
        (fun e he fn pos=>?_) (fun e he x hx=>?_) (fun e he=>?_) (fun e he=>?_) (fun _=>⟨t.size,ConcN.RelBy.new (by rw [hdk,hde,hd]) _ _⟩) (fun _ r hr=>hcom.has i hi (by omega) r hr) (fun _ _ _ _ _=>rfl) hwg
        (fun tag' ht _=>(hmode.counted hi (by omega) (.inr rfl) _ _).retag ht) (fun e=>absurd e (nr (by omega))) (.inl ⟨by omega,by simp [ConcN.cnt,hst]⟩)
      · simp at he; subst he; exact ⟨rfl,fun x hx=>by simp [ofEvent_mk,MemAct.touch?] at hx⟩
      · simp at he; subst he; simp [ofEvent_mk,MemAct.touch?] at hx
      · simp at he; subst he; simp [mk]
      · simp at he; subst he; rw [ofEvent_mk]; exact hlt'
    · exact idle (hgo w hI) hmu (fun v=>.rel h') rfl (by omega)
  | sub h =>
    rcases h.cases with ⟨hd,_,hall⟩ | ⟨n',rfl,_,g',es,hmu,hgo,h'⟩
    · have hc1:ConcN.cnt (D i)=1:=by simp [ConcN.cnt,hst]
      have hV1:1≤Vc j D:=by have:=le_sumTo (f:=fun x=>ConcN.cnt (D x)) hi; simp only [Vc]; omega
      have bk2:∀ e∈#[rd (stA Wg),wr (stA Wg)],Bk Wg e:=by intro e he; simp at he; rcases he with rfl | rfl <;> exact bk_cell _ _ rfl
      have df2:∀ jx e,(#[rd (stA Wg),wr (stA Wg)]:Array Event)[jx]? = some e→(MemAct.ofEvent e).touch? = none∨0<deafBehind (D i).deaf ((#[rd (stA Wg),wr (stA Wg)]:Array Event).extract 0 jx):=by
        intro jx e he
        rw [hde,hd]
        match jx,he with
        | 0,_=>exact .inr (by simp [deafBehind])
        | 1,_=>exact .inr (by simp [deafBehind,rd])
        | jx+2,he=>simp at he
      have hdd:deafBehind (D i).deaf #[rd (stA Wg),wr (stA Wg)]=dd:=by rw [hde]; simp [deafBehind,rd,wr]
      have hq0:∀ x,ConcN.cnt (⟨1,0,x⟩:WD)=0:=fun _=>rfl
      have opq:OpenSt j D→OpenSt j (ConcN.upd D i ⟨1,0,dd⟩):=fun h a ha=>by
        by_cases e:a=i
        · subst e; rw [ConcN.upd_same]; simp
        · rw [ConcN.upd_ne D _ e]; exact h a ha
      cases hmode with
      | opn h1 h2 h3 =>
        obtain ⟨v,hv⟩:∃ v,Vc j D+pend tag=v+1:=⟨Vc j D+pend tag - 1,by omega⟩
        rw [hv] at hwg
        have hw1:w.heap[Wg]? = some (wgBlock L.tWg (((v:Int)+1) * KK+((0:Nat):Int)) 0):=by simpa using hwg
        obtain ⟨g',hgo,_,hq⟩:=hall w v 0 (by omega) (by omega) hw1
        obtain ⟨q,hq⟩:=hq (by omega)
        have hv':Vc j (ConcN.upd D i ⟨1,0,dd⟩)+pend tag=v:=by have:=Vc_upd D (⟨1,0,dd⟩:WD) hi; have:=hq0 dd; omega
        refine bookW hKr G ha hcs hcom hi hg hgo (TurnW.set Wg w 0 _) (set_st hw1 _) bk2 df2 (s':=1) (dd':=dd) (fun v=>.quit hq) hdd (by omega) (fun _=>by omega) (fun tag' ht _=>ConcN.Mode.retag ?_ ht) (fun e=>absurd e (nr (by omega))) (.inl ⟨by omega,by simp [ConcN.cnt]⟩)
        have e:((v:Nat):Int) * KK+((0:Nat):Int)=((Vc j (ConcN.upd D i ⟨1,0,dd⟩)+pend tag:Nat):Int) * KK:=by rw [hv']; simp
        rw [e]
        exact .opn h1 (opq h2) (fun vs ev=>by have:=h3 vs ev; omega)
      | reg h1 h2 h3 =>
        obtain ⟨v,hv⟩:∃ v,Vc j D=v+1:=⟨Vc j D - 1,by omega⟩
        rw [hv] at hwg
        have hp:pend tag=0:=by cases tag <;> first | rfl | exact h1.elim
        have hw1:w.heap[Wg]? = some (wgBlock L.tWg (((v:Int)+1) * KK+((1:Nat):Int)) 0):=by simpa using hwg
        obtain ⟨g',hgo,hl,hq⟩:=hall w v 1 (by omega) (by omega) hw1
        by_cases hv0:v=0
        · subst hv0
          obtain ⟨n2,hk⟩:=(hl ⟨rfl,rfl⟩).count
          refine bookW hKr G ha hcs hcom hi hg hgo (TurnW.set Wg w 0 _) (set_st hw1 _) bk2 df2 (s':=4) (dd':=dd) (fun v=>.look hk) hdd (by omega) (fun _=>by omega) (fun tag' ht _=>ConcN.Mode.retag ?_ ht) (fun e=>absurd e (nr (by omega))) (.inl ⟨by omega,by simp [ConcN.cnt]⟩)
          have hoth:∀ a,a<j→a≠i→(D a).stage=1:=fun a ha e=>by
            have c0:=others_uncounted hi hv hc1 a ha e
            have:=h2 a ha
            simp only [ConcN.cnt] at c0
            split at c0 <;> omega
          have:=ConcN.Mode.last (j:=j) (D:=ConcN.upd D i ⟨4,0,dd⟩) (tag:=tag) i h1 hi (by rw [ConcN.upd_same]; simp) (fun a ha e=>by rw [ConcN.upd_ne D _ e]; exact hoth a ha e)
          rw [ConcN.upd_same] at this
          simpa using this
        · obtain ⟨q,hq⟩:=hq (by omega)
          have hv':Vc j (ConcN.upd D i ⟨1,0,dd⟩)=v:=by have:=Vc_upd D (⟨1,0,dd⟩:WD) hi; have:=hq0 dd; omega
          refine bookW hKr G ha hcs hcom hi hg hgo (TurnW.set Wg w 0 _) (set_st hw1 _) bk2 df2 (s':=1) (dd':=dd) (fun v=>.quit hq) hdd (by omega) (fun _=>by omega) (fun tag' ht _=>ConcN.Mode.retag ?_ ht) (fun e=>absurd e (nr (by omega))) (.inl ⟨by omega,by simp [ConcN.cnt]⟩)
          have e:((v:Nat):Int) * KK+((1:Nat):Int)=((Vc j (ConcN.upd D i ⟨1,0,dd⟩):Nat):Int) * KK+1:=by rw [hv']; simp
          rw [e]
          exact .reg h1 (opq h2) (by omega)
      | last L' _ h2 h3 h4 =>
        by_cases e:i=L'
        · subst e; omega
        · have:=h4 i hi e; omega
      | sema h2=>have:=h2 i hi; omega
      | fin _ h2=>have:=h2 i hi; omega
    · exact idle (hgo w hI) hmu (fun v=>.sub h') rfl (by omega)
  | look h =>
    rcases h.cases with ⟨hd,_,hx⟩ | ⟨n',rfl,_,g',es,hmu,hgo,h'⟩
    · obtain ⟨hW3,hoth,rfl,rfl⟩:=hmode.isLast hi (by omega)
      simp only [hst] at hwg
      obtain ⟨g',hgo,hk⟩:=hx w (by simpa using hwg)
      obtain ⟨n2,hk⟩:=hk.count
      refine bookW hKr G ha hcs hcom hi hg hgo (.refl Wg w) hwg (by intro e he; simp at he; subst he; exact bk_cell _ _ rfl) (by rw [hde,hd]; intro jx e he; match jx,he with | 0,_=>exact .inr (by simp [deafBehind]) | jx+1,he=>simp at he)
        (s':=3) (dd':=dd) (fun v=>.zero hk) (by rw [hde]; simp [deafBehind,rd]) (by omega) (fun _=>by omega) (fun tag' ht _=>ConcN.Mode.retag ?_ ht) (fun e=>absurd e (nr (by omega))) (.inl ⟨by omega,by simp [ConcN.cnt]⟩)
      have:=ConcN.Mode.last (j:=j) (D:=ConcN.upd D i ⟨3,0,dd⟩) (tag:=tag) i hW3 hi (by rw [ConcN.upd_same]; simp) (fun a ha e=>by rw [ConcN.upd_ne D _ e]; exact hoth a ha e)
      rw [ConcN.upd_same] at this
      simpa using this
    · exact idle (hgo w hI) hmu (fun v=>.look h') rfl (by omega)
  | zero h =>
    rcases h.cases with ⟨hd,_,hx⟩ | ⟨n',rfl,_,g',es,hmu,hgo,h'⟩
    · obtain ⟨hW3,hoth,rfl,rfl⟩:=hmode.isLast hi (by omega)
      simp only [hst] at hwg
      have hwg':w.heap[Wg]? = some (wgBlock L.tWg 1 0):=by simpa using hwg
      obtain ⟨g',hgo,hk⟩:=hx w hwg'
      obtain ⟨n2,hk⟩:=hk.count
      refine bookW hKr G ha hcs hcom hi hg hgo (TurnW.set Wg w 0 _) (set_st hwg' 0) (by intro e he; simp at he; subst he; exact bk_cell _ _ rfl) (by rw [hde,hd]; intro jx e he; match jx,he with | 0,_=>exact .inr (by simp [deafBehind]) | jx+1,he=>simp at he)
        (s':=2) (dd':=dd) (fun v=>.sem hk) (by rw [hde]; simp [deafBehind,wr]) (by omega) (fun _=>by omega) (fun tag' ht _=>ConcN.Mode.retag ?_ ht) (fun e=>absurd e (nr (by omega))) (.inl ⟨by omega,by simp [ConcN.cnt]⟩)
      have:=ConcN.Mode.last (j:=j) (D:=ConcN.upd D i ⟨2,0,dd⟩) (tag:=tag) i hW3 hi (by rw [ConcN.upd_same]; simp) (fun a ha e=>by rw [ConcN.upd_ne D _ e]; exact hoth a ha e)
      rw [ConcN.upd_same] at this
      simpa using this
    · exact idle (hgo w hI) hmu (fun v=>.zero h') rfl (by omega)
  | sem h =>
    rcases h.cases with ⟨hd,_,hmw,hx⟩ | ⟨n',rfl,_,g',es,hmu,hgo,h'⟩
    · obtain ⟨hW3,hoth,rfl,rfl⟩:=hmode.isLast hi (by omega)
      simp only [hst] at hwg
      have hwg':w.heap[Wg]? = some (wgBlock L.tWg 0 0):=by simpa using hwg
      obtain ⟨g',hgo,q,hq⟩:=hx w hwg'
      have hrun':g'.status=.running:=by
        cases q with
        | zero=>exact absurd hq.2 (by omega)
        | succ q=>exact hq.elim (fun x=>absurd x.2 (by omega)) (fun x=>x.1)
      refine bookW hKr G ha hcs hcom hi hg hgo (TurnW.set Wg w 1 _) (set_sm hwg' 1) (es:=semEvents (smA Wg)) ?_ ?_ (s':=1) (dd':=dd) (fun v=>.quit hq) (by rw [hde,hd]; simp [deafBehind,semEvents]) (by omega) (fun _=>by omega) ?_ (fun e=>absurd e (nr (by omega))) (.inl ⟨by omega,by simp [ConcN.cnt]⟩)
      · exact ConcN.bk_sem
      · intro jx e he
        rw [hde,hd]
        match jx,he with
        | 0,he=>simp [semEvents] at he; subst he; exact .inl rfl
        | 1,_=>exact .inr (by simp [deafBehind,semEvents])
        | 2,_=>exact .inr (by simp [deafBehind,semEvents])
        | 3,he=>simp [semEvents] at he; subst he; exact .inl rfl
        | jx+4,he=>simp [semEvents] at he
      · intro tag' ht hw
        have hnb:=hw hmw hrun'
        have e3:tag'=.w3:=by
          rcases ht with rfl | ⟨_,rfl⟩
          · cases tag' <;> first | rfl | exact hW3.elim | exact absurd rfl hnb
          · rfl
        subst e3
        exact .sema fun a ha=>by
          by_cases e:a=i
          · subst e; rw [ConcN.upd_same]
          · rw [ConcN.upd_ne D _ e]; exact hoth a ha e
    · exact idle (hgo w hI) hmu (fun v=>.sem h') rfl (by omega)
  | quit h =>
    rename_i n
    cases n with
    | zero=>rw [h.1] at hrun; cases hrun
    | succ q =>
      rcases h with ⟨hf,_⟩ | ⟨_,g',es,hmute,hstep,hq⟩
      · rw [hf] at hrun; cases hrun
      · exact idle (hstep w) (fun e he=>.inl (hmute e he)) (fun v=>.quit hq) rfl (by omega)
end
end Go.Am
end
section
open List renaming map_map→ζ,mapM_map→ξ
namespace Go.Am
open Go.Conc Go.Conc.Lib
open Go.ConcN (CT Apart Ok0 OkW PermW RelBy CTag phi WD Vc Ssum sumTo sumTo_upd sumTo_upd_out OpenSt AllQuit isOpen isW3 isFin pend phi_mono phi_retag le_sumTo Vc_le Vc_upd others_uncounted bk_cell allQuit_of)
open Go.ConcR (KK wgBlock stA smA rd wr mk Bk bk_of_mute ofEvent_loc_mark ofEvent_cell ofEvent_mk)
section
variable {P:Program} {L:WgLink} {Wg:Nat} {p:Pl} {K An:Goroutine→Prop} {S:Nat→Prop} {w0:World} {m j:Nat} {gs:Array Goroutine} {w w':World} {sl:Option (Nat × Nat)} {t:Trace} {D:Nat→WD} {R:Nat→Tr} {V V':Nat→World} {tag tag':CTag} {d0:Nat} {a a':Goroutine} {st sm st' sm':Int} {es:Array Event} {r':Tr}
theorem CS.bound {d:Nat} {r:Tr} {v:World} (h:CS P L Wg p K An tag j r d a v):j+pend tag≤p.n:=by
  cases h <;> simp only [pend] <;> (try simp) <;> omega
theorem callerStep (G:Geo Wg p S) (ha:gs[0]? = some a) (hcom:Com P L Wg p S w0 m j gs w t D R V d0)
    (hgo:stepG P true a w=.go a' w' es) (hK:Kept' p Wg w w') (hV:Vws (Act01 m j) V' w') (hE:∀ x,x≠0→Env (V x) (V' x)) (hO:Older (V 0) (V' 0))
    (hok:∀ e∈es,∀ fn pos,Ok0 (ShunS (ShW S Wg)) (OwnF p m j V') (RdF m j V') (m+j - 1) { g:=0,fn,pos,act:=.ofEvent e })
    (hat:∀ e∈es,∀ x,(MemAct.ofEvent e).touch? = some x→x.loc.isMemory=true) (hnr:∀ e∈es,e.loc≠.mark (.release (stA Wg))) (hlow:∀ e∈es,(MemAct.ofEvent e).low w'.heap.size)
    (hho:∀ i,i<j→∀ r,r<p.wd→w'.cell? (p.cell i r)=w.cell? (p.cell i r))
    (hcs':CS P L Wg p K An tag' j r' (deafBehind d0 es) a' (V' 0)) (hwg:w'.heap[Wg]? = some (wgBlock L.tWg st' sm')) (hmode:ConcN.Mode j D tag' st' sm')
    (hacq:tag'=.ret→AcqA Wg m j (t++MemOp.ofEvents 0 a.frame.fn a.frame.place es))
    (hlt:phi p.n (Vc j D) tag'<phi p.n (Vc j D) tag∨(phi p.n (Vc j D) tag'=phi p.n (Vc j D) tag∧TrLt r' (R 0))) :
    ∃ M ops μ',runT P (crowd gs w sl) 0=(.next M,ops)∧MLt μ' (phi p.n (Vc j D) tag+Ssum j D,ranks R (m+j),R 0)∧Inv P L Wg p K An S w0 m μ' M (t++ops):=by
  have hrun:=runT_crowd_go (P:=P) (sl:=sl) (i:=0) ha (by simpa using hgo)
  have hlt0:0<gs.size:=(Array.getElem?_eq_some_iff.1 ha).1
  refine ⟨_,_,(phi p.n (Vc j D) tag'+Ssum j D,ranks (ConcN.upd R 0 r') (m+j),r'),hrun,?_,
    _,w',sl,j,D,ConcN.upd R 0 r',V',tag',deafBehind d0 es,a',st',sm',rfl,by simp [hlt0],by rw [ConcN.upd_same]; exact hcs',hcom.step0 G ha hK hV hE hO hok hat hnr hlow hho r',hwg,hmode,hacq,by rw [ConcN.upd_same]⟩
  rw [ranks_eq (R':=ConcN.upd R 0 r') (R:=R) fun x hx=>ConcN.upd_ne R _ hx]
  rcases hlt with h | ⟨h1,h2⟩
  · exact Prod.Lex.left _ _ (by omega)
  · rw [h1]; exact Prod.Lex.right _ (Prod.Lex.right _ h2)
theorem said_ev {e:Event} (h:saidE Wg e):(∀ {Own Rd:Nat→Loc→Prop} {N:Nat} (fn:FuncId) (pos:String),Ok0 (ShunS (ShW S Wg)) Own Rd N { g:=0,fn,pos,act:=.ofEvent e })∧(∀ x,(MemAct.ofEvent e).touch? = some x→x.loc.isMemory=true)∧e.loc≠.mark (.release (stA Wg))∧∀ B,Wg<B→(MemAct.ofEvent e).low B:=by
  rcases h with rfl | rfl
  · refine ⟨fun fn pos=>⟨rfl,fun x hx=>?_⟩,fun x hx=>?_,by simp,fun B hB=>hB⟩ <;> simp only [MemAct.ofEvent,MemAct.touch?,Option.some.injEq] at hx <;> subst hx
    · exact .inl ⟨.inr rfl,by simp⟩
    · rfl
  · refine ⟨fun fn pos=>⟨rfl,fun x hx=>?_⟩,fun x hx=>?_,by simp,fun B hB=>hB⟩ <;> simp only [MemAct.ofEvent,MemAct.touch?,Option.some.injEq] at hx <;> subst hx
    · exact .inl ⟨.inr rfl,by simp⟩
    · rfl
theorem bookC (G:Geo Wg p S) (ha:gs[0]? = some a) (hcom:Com P L Wg p S w0 m j gs w t D R V d0)
    (hgo:stepG P true a w=.go a' w' es) (hT:TurnW Wg w w') (hwg:w'.heap[Wg]? = some (wgBlock L.tWg st' sm')) (hbk:∀ e∈es,Bk Wg e∨saidE Wg e)
    (hcs':∀ v,Env (V 0) v→CS P L Wg p K An tag' j r' (deafBehind d0 es) a' v) (hmode:ConcN.Mode j D tag' st' sm')
    (hacq:tag'=.ret→AcqA Wg m j (t++MemOp.ofEvents 0 a.frame.fn a.frame.place es))
    (hlt:phi p.n (Vc j D) tag'<phi p.n (Vc j D) tag∨(phi p.n (Vc j D) tag'=phi p.n (Vc j D) tag∧TrLt r' (R 0))) :
    ∃ M ops μ',runT P (crowd gs w sl) 0=(.next M,ops)∧MLt μ' (phi p.n (Vc j D) tag+Ssum j D,ranks R (m+j),R 0)∧Inv P L Wg p K An S w0 m μ' M (t++ops):=by
  have hlt':Wg<w'.heap.size:=lt_of_get hwg
  refine callerStep G ha hcom hgo (hT.kept G hcom.pay) (hcom.turn hT) (fun x _=>growV_env _ _) (Older.of_env (growV_env _ _)) (fun e he fn pos=>?_) (fun e he=>?_) (fun e he=>?_) (fun e he=>?_) (fun i _ r _=>hT.cells G i r) (hcs' _ (growV_env _ _)) hwg hmode hacq hlt
  · rcases hbk e he with h | h
    · exact ok0_bk h fn pos
    · exact (said_ev (S:=S) h).1 fn pos
  · rcases hbk e he with h | h
    · exact fun x hx=>(at_bk (S:=S) h x hx).1
    · exact (said_ev (S:=S) h).2.1
  · rcases hbk e he with h | h
    · exact nr_bk h
    · exact (said_ev (S:=S) h).2.2.1
  · rcases hbk e he with h | h
    · exact low_bk h hlt'
    · exact (said_ev (S:=S) h).2.2.2 _ hlt'
theorem viewC (G:Geo Wg p S) (ha:gs[0]? = some a) (hcom:Com P L Wg p S w0 m j gs w t D R V d0) (hwg:w.heap[Wg]? = some (wgBlock L.tWg st sm)) (hmode:ConcN.Mode j D tag st sm) (hacq:tag≠.ret)
    {v':World} (hgo:stepG P true a w=.go a' w' es) (hq:StepQ (saidE Wg) (V 0) w v' w' es) (hcs':CS P L Wg p K An tag j r' (deafBehind d0 es) a' v') (hlt:TrLt r' (R 0)) :
    ∃ M ops μ',runT P (crowd gs w sl) 0=(.next M,ops)∧MLt μ' (phi p.n (Vc j D) tag+Ssum j D,ranks R (m+j),R 0)∧Inv P L Wg p K An S w0 m μ' M (t++ops):=by
  obtain ⟨hK,hW,hC⟩:=hcom.keptQ G (.inl rfl) hq
  have hput:putV V 0 v' w' 0=v':=putV_self _ _ _ _
  have hcell:∀ i' r,w'.cell? (p.cell i' r)=w.cell? (p.cell i' r):=fun i' r=>by simp [World.cell?,Pl.cell,hC]
  have hlt':Wg<w'.heap.size:=lt_of_get (hW.trans hwg)
  have hO:Older (V 0) v':=Older.of_ext hq.ext (hcom.vws.ok 0 (.inl rfl))
  have hVV:Vws (Act01 m j) (putV V 0 v' w') w':=hcom.vws.step (.inl rfl) hq
  refine callerStep G ha hcom hgo (V':=putV V 0 v' w') hK hVV (fun x hx=>by rw [putV_ne V _ _ hx]; exact growV_env _ _) (by rw [hput]; exact hO) (fun e he fn pos=>?_) (fun e he=>?_) (fun e he=>?_) (fun e he=>?_) (fun i _ r _=>hcell i r) (by rw [hput]; exact hcs') (hW.trans hwg) hmode (fun e=>absurd e hacq) (.inr ⟨rfl,hlt⟩)
  · rcases hq.evs e he with h | h | h
    · exact ok0_evV hVV hcom.mpos (by rw [hput]; exact hO.hole (hcom.hC 0 (.inl rfl))) (fun b hb=>by rw [hput]; exact hO.hole (hcom.hS 0 (.inl rfl) b hb)) (by rw [hput]; exact h) fn pos
    · exact ok0_bk (bk_of_mute h) fn pos
    · exact (said_ev (S:=S) h).1 fn pos
  · rcases hq.evs e he with h | h | h
    · exact fun x hx=>(evV_mem h hx).1
    · exact fun x hx=>by rw [touch_mute h] at hx; cases hx
    · exact (said_ev (S:=S) h).2.1
  · rcases hq.evs e he with h | h | h
    · exact evV_nr h _
    · exact nr_bk (bk_of_mute h)
    · exact (said_ev (S:=S) h).2.2.1
  · rcases hq.evs e he with h | h | h
    · exact low_evV (Nat.le_of_eq hq.sim.size) h
    · exact low_mute h _
    · exact (said_ev (S:=S) h).2.2.2 _ hlt'
theorem Com.spawn (h:Com P L Wg p S w0 m j gs w t D R V 0) (G:Geo Wg p S) {child:Goroutine} {x y:MemOp} {tr r0:Tr} (hx:x.g=0∧x.act=.go (m+j)) (hy:y.g=m+j∧y.act=.start) (hWg:Wg<w.heap.size)
    (hc:GTw P L Wg p j tr 0 child (frzV (V 0))) :
    Com P L Wg p S w0 m (j+1) ((gs.setIfInBounds 0 a').push child) w (t++#[x,y]) (ConcN.upd D j ⟨7,0,0⟩) (ConcN.upd (ConcN.upd R (m+j) tr) 0 r0) (ConcN.upd (ConcN.upd V (m+j) (frzV (V 0))) 0 (frzV (V 0))) 0:=by
  have hm:=h.mpos
  generalize hVd:ConcN.upd (ConcN.upd V (m+j) (frzV (V 0))) 0 (frzV (V 0))=V'
  have v0:V' 0=frzV (V 0):=by rw [← hVd,ConcN.upd_same]
  have vj:V' (m+j)=frzV (V 0):=by rw [← hVd,ConcN.upd_ne _ _ (by omega),ConcN.upd_same]
  have vx:∀ k,k≠0→k≠m+j→V' k=V k:=fun k h0 h1=>by rw [← hVd,ConcN.upd_ne _ _ h0,ConcN.upd_ne _ _ h1]
  have hact:∀ k,Act01 m (j+1) k→(V' k=frzV (V 0)∧(k=0∨k=m+j))∨(V' k=V k∧k≠0∧m≤k∧k<m+j):=fun k hk=>by
    by_cases h0:k=0
    · subst h0; exact .inl ⟨v0,.inl rfl⟩
    by_cases h1:k=m+j
    · subst h1; exact .inl ⟨vj,.inr rfl⟩
    · rcases hk with hk | ⟨h2,h3⟩
      · exact absurd hk h0
      · exact .inr ⟨vx k h0 h1,h0,h2,by omega⟩
  have hmm:∀ op∈#[x,y],op=x∨op=y:=by intro op hop; simpa using hop
  have hst:∀ op∈#[x,y],op.act≠.mark .disable∧op.act≠.mark .enable:=by
    intro op hop
    rcases hmm op hop with rfl | rfl
    · rw [hx.2]; exact ⟨by simp,by simp⟩
    · rw [hy.2]; exact ⟨by simp,by simp⟩
  have hnt:∀ op∈#[x,y],op.act.touch? = none:=by
    intro op hop
    rcases hmm op hop with rfl | rfl
    · rw [hx.2]; rfl
    · rw [hy.2]; rfl
  have hVw:Vws (Act01 m (j+1)) V' w:=by
    refine ⟨fun k hk=>?_,fun k hk=>?_,fun k k' hk hk' hne b hu=>?_⟩
    · rcases hact k hk with ⟨e,_⟩ | ⟨e,_,h1,h2⟩
      · rw [e]; exact frzV_sim (h.vws.sim 0 (.inl rfl))
      · rw [e]; exact h.vws.sim k (.inr ⟨h1,h2⟩)
    · rcases hact k hk with ⟨e,_⟩ | ⟨e,_,h1,h2⟩
      · rw [e]; exact frzV_ok _
      · rw [e]; exact h.vws.ok k (.inr ⟨h1,h2⟩)
    · rcases hact k hk with ⟨e,_⟩ | ⟨e,h0,h1,h2⟩
      · rw [e] at hu; exact absurd hu (frzV_not_unf _ _)
      · rw [e] at hu
        rcases hact k' hk' with ⟨e',_⟩ | ⟨e',h0',h1',h2'⟩
        · rw [e']; exact frzV_hole (h.vws.dis k 0 (.inr ⟨h1,h2⟩) (.inl rfl) h0 b hu)
        · rw [e']; exact h.vws.dis k k' (.inr ⟨h1,h2⟩) (.inr ⟨h1',h2'⟩) hne b hu
  have hC':∀ k,Act01 m (j+1) k→(V' k).heap[p.C]? = some hole:=fun k hk=>by
    rcases hact k hk with ⟨e,_⟩ | ⟨e,_,h1,h2⟩
    · rw [e]; exact frzV_hole (h.hC 0 (.inl rfl))
    · rw [e]; exact h.hC k (.inr ⟨h1,h2⟩)
  have hS':∀ k,Act01 m (j+1) k→∀ b,ShW S Wg b→(V' k).heap[b]? = some hole:=fun k hk b hb=>by
    rcases hact k hk with ⟨e,_⟩ | ⟨e,_,h1,h2⟩
    · rw [e]; exact frzV_hole (h.hS 0 (.inl rfl) b hb)
    · rw [e]; exact h.hS k (.inr ⟨h1,h2⟩) b hb
  have hA:Apart (ShunS (ShW S Wg)) (OwnF p m (j+1) V') (RdF m (j+1) V'):=apart_of hVw hm hC' hS' fun hs=>hs.elim G.S fun e=>by have:=G.C; omega
  have hct:CT (ShunS (ShW S Wg)) (OwnF p m (j+1) V') (RdF m (j+1) V') t (m+j - 1):=by
    refine CT.grow h.ct (fun k l k1 kj ⟨a1,a2,hl⟩=>⟨a1,by omega,?_⟩) (fun k l k1 kj ⟨a1,a2,hl⟩=>⟨a1,by omega,?_⟩) (fun k l k1 kj ⟨a1,a2,hl⟩=>.inl ⟨a1,by omega,?_⟩) (fun k l k1 kj ⟨a1,a2,hl⟩=>.inl ⟨a1,by omega,?_⟩)
    · rw [vx k (by omega) (by omega)]; exact hl
    · rw [vx k (by omega) (by omega)]; exact hl
    · rw [vx k (by omega) (by omega)] at hl; exact hl
    · rw [vx k (by omega) (by omega)] at hl; exact hl
  have hsz:=h.size
  refine ⟨hm,by simp [hsz]; omega,fun i hi=>?_,fun i h1 h2=>?_,fun i hi=>?_,?_,h.norel.app fun op hop=>?_,by rw [ConcN.Deaf_still t 0 _ hst,h.deaf0],fun i hi=>?_,fun i hi hs=>?_,fun i hi hs r hr=>?_,h.pay,hVw,fun k hk b hb=>?_,hC',hS',h.stay,h.like,kn_app h.kn fun op hop a ha=>?_,mem_app h.mem fun op hop a ha=>?_,over_app h.over fun op hop=>.inr (.inr (hnt op hop)),low_app h.seen (Nat.le_refl _) fun op hop=>?_⟩
  · rcases Nat.lt_or_ge i j with hlt | hge
    · obtain ⟨g,hg,hsg⟩:=h.wk i hlt
      refine ⟨g,?_,by rw [ConcN.upd_ne D _ (by omega),ConcN.upd_ne (ConcN.upd R (m+j) tr) _ (by omega),ConcN.upd_ne R _ (by omega),vx _ (by omega) (by omega)]; exact hsg⟩
      rw [Array.getElem?_push_lt (by simp [hsz]; omega),← Array.getElem?_eq_getElem,Array.getElem?_setIfInBounds_ne (by omega)]
      exact hg
    · obtain rfl:i=j:=by omega
      refine ⟨child,?_,by rw [ConcN.upd_same,ConcN.upd_ne (ConcN.upd R (m+i) tr) _ (by omega),ConcN.upd_same,vj]; exact .work hc⟩
      rw [show m+i=(gs.setIfInBounds 0 a').size by simp [hsz],Array.getElem?_push_size]
  · obtain ⟨g,q,hg,hr,hq⟩:=h.old i h1 h2
    refine ⟨g,q,?_,by rw [ConcN.upd_ne (ConcN.upd R (m+j) tr) _ (by omega),ConcN.upd_ne R _ (by omega)]; exact hr,by rw [ConcN.Deaf_still t _ _ hst]; exact hq⟩
    rw [Array.getElem?_push_lt (by simp [hsz]; omega),← Array.getElem?_eq_getElem,Array.getElem?_setIfInBounds_ne (by omega)]
    exact hg
  · rw [ConcN.Deaf_still t _ _ hst]; exact h.above i (by omega)
  · have:=ConcN.CT.fork hA hct (x:=x) (y:=y) (by rw [show m+j - 1+1=m+j by omega]; exact hx) (by rw [show m+j - 1+1=m+j by omega]; exact hy) h.deaf0
    rw [show m+j - 1+1=m+(j+1) - 1 by omega] at this
    exact this
  · rcases hmm op hop with rfl | rfl
    · rw [hx.2]; simp
    · rw [hy.2]; simp
  · rw [ConcN.Deaf_still t _ _ hst]
    rcases Nat.lt_or_ge i j with hlt | hge
    · rw [h.deafW i hlt,ConcN.upd_ne D _ (by omega)]
    · obtain rfl:i=j:=by omega
      rw [ConcN.upd_same]
      exact h.above _ (Nat.le_refl _)
  · rcases Nat.lt_or_ge i j with hlt | hge
    · rw [ConcN.upd_ne D _ (by omega)] at hs
      obtain ⟨r,hr⟩:=h.rel i hlt hs
      refine ⟨r,hr.appNot fun op hop=>?_⟩
      rcases hmm op hop with rfl | rfl
      · rw [hx.1]; omega
      · rw [hy.1]; omega
    · obtain rfl:i=j:=by omega
      rw [ConcN.upd_same] at hs
      simp at hs
  · rcases Nat.lt_or_ge i j with hlt | hge
    · rw [ConcN.upd_ne D _ (by omega)] at hs
      exact h.has i hlt hs r hr
    · obtain rfl:i=j:=by omega
      rw [ConcN.upd_same] at hs
      simp at hs
  · rcases hact k hk with ⟨e,_⟩ | ⟨e,_,h1,h2⟩
    · rw [e]; exact frzV_whole (by have:=(h.vws.sim 0 (.inl rfl)).size; omega)
    · rw [e]; exact h.low k (.inr ⟨h1,h2⟩) b hb
  · rw [hnt op hop] at ha; cases ha
  · rw [hnt op hop] at ha; cases ha
  · rcases hmm op hop with rfl | rfl
    · rw [hx.2]; trivial
    · rw [hy.2]; trivial
end
end Go.Am
end
section
open List renaming map_map→ζ,mapM_map→ξ
namespace Go.Am
open Go.Conc Go.Conc.Lib
open Go.ConcN (CT Apart Ok0 OkW PermW RelBy CTag phi WD Vc Ssum sumTo sumTo_upd sumTo_upd_out OpenSt AllQuit isOpen isW3 isFin pend phi_mono phi_retag le_sumTo Vc_le Vc_upd others_uncounted bk_cell allQuit_of)
open Go.ConcR (KK wgBlock stA smA rd wr mk Bk bk_of_mute ofEvent_loc_mark ofEvent_cell ofEvent_mk)
section
variable {P:Program} {L:WgLink} {Wg:Nat} {p:Pl} {K An:Goroutine→Prop} {S:Nat→Prop} {w0:World} {m j:Nat} {gs:Array Goroutine} {w w':World} {sl:Option (Nat × Nat)} {t:Trace} {D:Nat→WD} {R:Nat→Tr} {V V':Nat→World} {tag tag':CTag} {d0:Nat} {a a':Goroutine} {st sm st' sm':Int} {es:Array Event} {r':Tr}
theorem bkS {es:Array Event} (h:∀ e∈es,Bk Wg e):∀ e∈es,Bk Wg e∨saidE Wg e:=fun e he=>.inl (h e he)
set_option maxHeartbeats 1600000 in
theorem stepCaller (hKr:∀ g,K g→g.status=.running) (hAn:∀ g,An g→Dl P true (WgLv L.tWg Wg) (saidE Wg) (fun d g=>d=1∧AtLd P L Wg K An d g) 1 g) (G:Geo Wg p S) (hn:p.n<2147483648)
    (ha:gs[0]? = some a) (hcs:CS P L Wg p K An tag j (R 0) d0 a (V 0)) (hcom:Com P L Wg p S w0 m j gs w t D R V d0) (hwg:w.heap[Wg]? = some (wgBlock L.tWg st sm)) (hmode:ConcN.Mode j D tag st sm)
    (hacq:tag=.ret→AcqA Wg m j t) (hrun:a.status=.running) (hstop:¬ (tag=.ret∧d0=0∧K a)) :
    ∃ M ops μ',runT P (crowd gs w sl) 0=(.next M,ops)∧MLt μ' (phi p.n (Vc j D) tag+Ssum j D,ranks R (m+j),R 0)∧Inv P L Wg p K An S w0 m μ' M (t++ops):=by
  have hVj:=Vc_le j D
  have hb:=hcs.bound
  have hI:WgLv L.tWg Wg w:=⟨st,sm,hwg⟩
  have hsim0:=hcom.vws.sim 0 (.inl rfl)
  have hok0:=hcom.vws.ok 0 (.inl rfl)
  -- an idle step of a chain
  have idle:∀ {g':Goroutine} {es:Array Event} {r':Tr},tag≠.ret→stepG P true a w=.go g' w es→(∀ e∈es,Event.mute e=true∨saidE Wg e)→(∀ v,CS P L Wg p K An tag j r' (deafBehind d0 es) g' v)→TrLt r' (R 0) →
      ∃ M ops μ',runT P (crowd gs w sl) 0=(.next M,ops)∧MLt μ' (phi p.n (Vc j D) tag+Ssum j D,ranks R (m+j),R 0)∧Inv P L Wg p K An S w0 m μ' M (t++ops) :=
    fun hne hgo hmu hcs' hlt=>bookC G ha hcom hgo (.refl Wg w) hwg (fun e he=>(hmu e he).imp bk_of_mute id) (fun v _=>hcs' v) hmode (fun e=>absurd e hne) (.inr ⟨rfl,hlt⟩)
  generalize hR:R 0=r at hcs
  cases hcs with
  | a1 hr h =>
    rename_i r1
    cases htr:r with
    | node f =>
      rw [htr] at h
      obtain ⟨_,hv,hs⟩:=h
      obtain ⟨g',v',w',es,hgo,hq,hgt⟩:=hs (V 0) w (.refl _) hsim0 hI
      have:=viewC (sl:=sl) G ha hcom hwg hmode (by simp) hgo hq (.a1 hr hgt) (by rw [hR,htr]; exact trLt_node f _)
      rwa [hR,htr] at this
    | leaf =>
      rw [htr] at h
      obtain ⟨hd,_,hall⟩:=h
      obtain ⟨ho,rfl,rfl,_⟩:=hmode.open_inv trivial
      have hwg0:w.heap[Wg]? = some (wgBlock L.tWg ((Vc (p.n - (r1+1)) D:Nat) * KK:Int) 0):=by simpa [pend] using hwg
      obtain ⟨g',hgo,hdl⟩:=hall w (Vc (p.n - (r1+1)) D) (by omega) hwg0
      have hdd:deafBehind d0 #[rd (stA Wg),wr (stA Wg)]=d0:=by simp [deafBehind,rd,wr]
      have hT:=TurnW.set Wg w 0 (.int .u64 (((Vc (p.n - (r1+1)) D:Nat)+1) * KK))
      obtain ⟨tr,hgt⟩:=hdl.gt ((growV_env (V 0) _).okV hok0) (v:=growV (V 0) (w.setCell (stA Wg) (.int .u64 (((Vc (p.n - (r1+1)) D:Nat)+1) * KK)))) fun d g v1 he hk=>hk v1 ((growV_env _ _).trans he) (((growV_env _ _).trans he).okV hok0)
      rw [← (hR.trans htr)]
      refine callerStep G ha hcom hgo (hT.kept G hcom.pay) (hcom.turn hT) (fun x _=>growV_env _ _) (Older.of_env (growV_env _ _)) (fun e he fn pos=>ok0_bk (ConcN.bk_rw e he) fn pos) (fun e he x hx=>(at_bk (S:=S) (ConcN.bk_rw e he) x hx).1) (fun e he=>nr_bk (ConcN.bk_rw e he)) (fun e he=>low_bk (ConcN.bk_rw e he) (by simpa [World.setCell] using lt_of_get hwg0))
        (fun i _ r _=>hT.cells G i r) (tag':=.sp r1 3) (r':=tr) (by rw [hdd]; exact .go hr hgt) (set_st hwg0 _) ?_ (by simp) (.inl (by simp only [phi]; omega))
      have e:(((Vc (p.n - (r1+1)) D:Nat):Int)+1) * KK=((Vc (p.n - (r1+1)) D+pend (.sp r1 3):Nat):Int) * KK:=by simp [pend]
      rw [e]
      exact .opn trivial ho (by simp)
  | go hr h =>
    rename_i r1
    cases htr:r with
    | node f =>
      rw [htr] at h
      obtain ⟨_,hv,hs⟩:=h
      obtain ⟨g',v',w',es,hgo,hq,hgt⟩:=hs (V 0) w (.refl _) hsim0 hI
      have:=viewC (sl:=sl) G ha hcom hwg hmode (by simp) hgo hq (.go hr hgt) (by rw [hR,htr]; exact trLt_node f _)
      rwa [hR,htr] at this
    | leaf =>
      rw [htr] at h
      obtain ⟨rfl,_,hgo'⟩:=h
      obtain ⟨g',child,hsp,_,⟨tr,hgt⟩,hnext⟩:=hgo' (V 0) (.refl _)
      have hsp:=hsp w hsim0 hI
      obtain ⟨ho,rfl,rfl,_⟩:=hmode.open_inv trivial
      have hrun':=runT_crowd_spawn (P:=P) (sl:=sl) (i:=0) ha (by simpa using hsp)
      rw [hcom.size] at hrun'
      have hlt0:0<gs.size:=(Array.getElem?_eq_some_iff.1 ha).1
      have eV:Vc (p.n - (r1+1)+1) (ConcN.upd D (p.n - (r1+1)) ⟨7,0,0⟩)=Vc (p.n - (r1+1)) D+1:=by
        simp only [Vc,sumTo,ConcN.upd_same]
        rw [sumTo_upd_out D _ ConcN.cnt (Nat.le_refl _)]; rfl
      have eS:Ssum (p.n - (r1+1)+1) (ConcN.upd D (p.n - (r1+1)) ⟨7,0,0⟩)=Ssum (p.n - (r1+1)) D+7:=by
        simp only [Ssum,sumTo,ConcN.upd_same]
        rw [sumTo_upd_out D _ WD.stage (Nat.le_refl _)]
      have ho':OpenSt (p.n - (r1+1)+1) (ConcN.upd D (p.n - (r1+1)) ⟨7,0,0⟩):=fun i hi=>by
        by_cases e:i=p.n - (r1+1)
        · subst e; rw [ConcN.upd_same]; simp
        · rw [ConcN.upd_ne D _ e]; exact ho i (by omega)
      have ha':((gs.setIfInBounds 0 g').push child)[0]? = some g':=by
        rw [Array.getElem?_push_lt (by simp; omega),← Array.getElem?_eq_getElem]
        simp [hlt0]
      have ej:p.n - (r1+1)+1=p.n - r1:=by omega
      have hsp':∀ r0,Com P L Wg p S w0 m (p.n - (r1+1)+1) _ w _ _ (ConcN.upd (ConcN.upd R (m+(p.n - (r1+1))) tr) 0 r0) _ 0:=fun r0=>hcom.spawn G (a':=g') (r0:=r0) (child:=child) (x:={ g:=0,fn:=a.frame.fn,pos:=a.frame.place,act:=.go (m+(p.n - (r1+1))) }) (y:={ g:=m+(p.n - (r1+1)),fn:=child.frame.fn,pos:=a.frame.place,act:=.start }) ⟨rfl,rfl⟩ ⟨rfl,rfl⟩ (lt_of_get hwg) hgt
      rw [ej] at eV eS ho' hsp'
      have est:∀ tag',pend tag'=0→((Vc (p.n - (r1+1)) D+pend (.sp r1 3):Nat):Int) * KK=((Vc (p.n - r1) (ConcN.upd D (p.n - (r1+1)) ⟨7,0,0⟩)+pend tag':Nat):Int) * KK:=fun tag' hp=>by rw [eV,hp]; simp [pend]
      cases r1 with
      | zero =>
        obtain ⟨tr0,hk⟩:=hnext
        simp only [Nat.sub_zero] at hrun' hsp' eV eS ho' est
        refine ⟨_,_,(phi p.n (Vc p.n (ConcN.upd D (p.n - (0+1)) ⟨7,0,0⟩)) .w1+Ssum p.n (ConcN.upd D (p.n - (0+1)) ⟨7,0,0⟩),_,_),hrun',Prod.Lex.left _ _ (by simp only [phi]; have:=Vc_le p.n (ConcN.upd D (p.n - (0+1)) ⟨7,0,0⟩); omega),
          _,w,sl,p.n,_,_,_,.w1,0,g',_,_,rfl,ha',?_,hsp' tr0,hwg,?_,by simp,rfl⟩
        · rw [ConcN.upd_same,ConcN.upd_same]; exact .w1 hk
        · rw [est .w1 rfl]
          exact .opn trivial ho' (by simp)
      | succ r2 =>
        obtain ⟨tr0,hk⟩:=hnext
        refine ⟨_,_,(phi p.n (Vc (p.n - (r2+1)) (ConcN.upd D (p.n - (r2+1+1)) ⟨7,0,0⟩)) (.sp r2 4)+Ssum (p.n - (r2+1)) (ConcN.upd D (p.n - (r2+1+1)) ⟨7,0,0⟩),_,_),hrun',Prod.Lex.left _ _ (by simp only [phi]; omega),
          _,w,sl,p.n - (r2+1),_,_,_,.sp r2 4,0,g',_,_,rfl,ha',?_,hsp' tr0,hwg,?_,by simp,rfl⟩
        · rw [ConcN.upd_same,ConcN.upd_same]; exact .a1 (by omega) hk
        · rw [est (.sp r2 4) rfl]
          exact .opn trivial ho' (by simp)
  | w1 h =>
    cases htr:r with
    | node f =>
      rw [htr] at h
      obtain ⟨_,hv,hs⟩:=h
      obtain ⟨g',v',w',es,hgo,hq,hgt⟩:=hs (V 0) w (.refl _) hsim0 hI
      have:=viewC (sl:=sl) G ha hcom hwg hmode (by simp) hgo hq (.w1 hgt) (by rw [hR,htr]; exact trLt_node f _)
      rwa [hR,htr] at this
    | leaf =>
      rw [htr] at h
      obtain ⟨hd,_,hall⟩:=h
      obtain ⟨ho,rfl,rfl,_⟩:=hmode.open_inv trivial
      have hwg0:w.heap[Wg]? = some (wgBlock L.tWg ((Vc p.n D:Nat) * KK:Int) 0):=by simpa [pend] using hwg
      obtain ⟨g',hgo,h0,hne⟩:=hall w (Vc p.n D) (by omega) hwg0
      have hdd:deafBehind d0 #[rd (stA Wg)]=d0:=by simp [deafBehind,rd]
      rw [← (hR.trans htr)]
      by_cases hv:Vc p.n D=0
      · obtain ⟨n,hk⟩:=(h0 hv).count
        refine bookC G ha hcom hgo (.refl Wg w) hwg (bkS ConcN.bk_rd) (tag':=.acq) (fun v _=>by rw [hdd]; exact .acq hk) ?_ (by simp) (.inl (by simp only [phi]; omega))
        have e:((Vc p.n D+pend .w1:Nat):Int) * KK=0:=by rw [hv]; simp [pend]
        rw [e]
        exact .fin trivial (allQuit_of ho hv)
      · obtain ⟨n,hk⟩:=(hne hv).count
        refine bookC G ha hcom hgo (.refl Wg w) hwg (bkS ConcN.bk_rd) (tag':=.w2 (Vc p.n D)) (fun v _=>by rw [hdd]; subst hd; exact .w2 hk) (hmode.reopen trivial trivial rfl (fun vs e=>by cases e; omega)) (by simp) (.inl (by simp only [phi]; omega))
  | w2 h =>
    rename_i vs n
    rw [← hR]
    rcases h.cases with ⟨hd,_,hall⟩ | ⟨n',rfl,_,g',es,hmu,hgo,h'⟩
    · obtain ⟨ho,rfl,rfl,hw2⟩:=hmode.open_inv trivial
      obtain ⟨hle,h1⟩:=hw2 vs rfl
      have hwg0:w.heap[Wg]? = some (wgBlock L.tWg ((Vc p.n D:Nat) * KK:Int) 0):=by simpa [pend] using hwg
      obtain ⟨hhit,hmiss⟩:=hall w (Vc p.n D) (by omega) hwg0
      by_cases e:Vc p.n D=vs
      · obtain ⟨g',hgo,hk⟩:=hhit e
        obtain ⟨n2,hk⟩:=hk.count
        exact bookC G ha hcom hgo (TurnW.set Wg w 0 _) (set_st hwg0 _) (bkS ConcN.bk_rw) (tag':=.w3) (fun v _=>by rw [show deafBehind d0 #[rd (stA Wg),wr (stA Wg)]=d0 by simp [deafBehind,rd,wr]]; exact .w3 hk) (.reg trivial ho (by omega)) (by simp) (.inl (by simp only [phi]; omega))
      · obtain ⟨g',hgo,hk⟩:=hmiss e
        have hdd:deafBehind d0 #[rd (stA Wg)]=d0:=by simp [deafBehind,rd]
        have hk':Dl P true (WgLv L.tWg Wg) (saidE Wg) (fun d g=>d=1∧AtLd P L Wg K An d g) d0 g':=hk.bind fun d g hk2=>by
          rw [hk2.1,hd]
          exact hAn g hk2.2
        obtain ⟨tr,hgt⟩:=hk'.gt (v:=V 0) hok0 (Stop:=StopL P L Wg K An) fun d g v1 _ hk=>⟨.leaf,hk⟩
        exact bookC G ha hcom hgo (.refl Wg w) hwg (bkS ConcN.bk_rd) (tag':=.w1) (r':=tr) (fun v he=>by rw [hdd]; exact .w1 (hgt.env stopL_env he)) (hmode.reopen trivial trivial rfl (by simp)) (by simp) (.inl (by simp only [phi]; omega))
    · exact idle (by simp) (hgo w hI) hmu (fun v=>.w2 h') (by rw [hR]; exact trLt_nat n')
  | w3 h =>
    rename_i n
    rw [← hR]
    rcases h.cases with ⟨hs,hoff,hblk,htake⟩ | ⟨n',rfl,_,g',es,hmu,hgo,h'⟩
    · cases hmode with
      | opn h1 _ _=>exact h1.elim
      | reg h1 h2 h3=>exact bookC G ha hcom (hblk w _ hwg) (.refl Wg w) hwg (by simp) (tag':=.blk) (r':=Tr.nat n) (fun v _=>.blk ⟨hs,hoff,hblk,htake⟩) (.reg trivial h2 h3) (by simp) (.inr ⟨rfl,by rw [hR]; exact trLt_nat n⟩)
      | last L' h1 h2 h3 h4=>exact bookC G ha hcom (hblk w _ hwg) (.refl Wg w) hwg (by simp) (tag':=.blk) (r':=Tr.nat n) (fun v _=>.blk ⟨hs,hoff,hblk,htake⟩) (.last L' trivial h2 h3 h4) (by simp) (.inr ⟨rfl,by rw [hR]; exact trLt_nat n⟩)
      | sema h2 =>
        obtain ⟨g',hgo,hk⟩:=htake w hwg
        obtain ⟨n2,hk⟩:=hk.count
        exact bookC G ha hcom hgo (TurnW.set Wg w 1 _) (set_sm hwg 0) (bkS ConcN.bk_sem) (tag':=.w4) (fun v _=>by rw [show deafBehind d0 (semEvents (smA Wg))=d0 by simp [deafBehind,semEvents]]; exact .w4 hk) (.fin trivial h2) (by simp) (.inl (by simp only [phi]; omega))
      | fin h1 _=>exact h1.elim
    · exact idle (by simp) (hgo w hI) hmu (fun v=>.w3 h') (by rw [hR]; exact trLt_nat (n'+1))
  | blk h=>simp at hrun
  | w4 h =>
    rename_i n
    rw [← hR]
    rcases h.cases with ⟨_,hx⟩ | ⟨n',rfl,_,g',es,hmu,hgo,h'⟩
    · obtain ⟨hq,rfl,rfl⟩:=hmode.fin_inv trivial
      obtain ⟨g',hgo,hk⟩:=hx w hwg
      obtain ⟨n2,hk⟩:=hk.count
      exact bookC G ha hcom hgo (.refl Wg w) hwg (bkS ConcN.bk_rd) (tag':=.acq) (fun v _=>by rw [show deafBehind d0 #[rd (stA Wg)]=d0 by simp [deafBehind,rd]]; exact .acq hk) (.fin trivial hq) (by simp) (.inl (by simp only [phi]; omega))
    · exact idle (by simp) (hgo w hI) hmu (fun v=>.w4 h') (by rw [hR]; exact trLt_nat n')
  | acq h =>
    rename_i n
    rw [← hR]
    rcases h.cases with ⟨hd,_,g',hgo,hk⟩ | ⟨n',rfl,_,g',es,hmu,hgo,h'⟩
    · obtain ⟨hq,rfl,rfl⟩:=hmode.fin_inv trivial
      obtain ⟨n2,hk⟩:=hk.count
      have hlt':Wg<w.heap.size:=lt_of_get hwg
      refine callerStep G ha hcom (hgo w hI) ((TurnW.refl Wg w).kept G hcom.pay) (V':=V) hcom.vws (fun x _=>.refl _) (Older.of_env (.refl _)) (fun e he fn pos=>?_) (fun e he x hx=>?_) (fun e he=>?_) (fun e he=>?_) (fun _ _ _ _=>rfl) (tag':=.ret) (r':=Tr.nat n2)
        (by rw [show deafBehind d0 #[mk (.acquire (stA Wg))]=0 by simp [deafBehind,mk,hd]]; exact .ret hk) hwg (.fin trivial hq) (fun _=>?_) (.inl (by simp only [phi]; omega))
      · simp at he; subst he; exact ⟨rfl,fun x hx=>by simp [ofEvent_mk,MemAct.touch?] at hx⟩
      · simp at he; subst he; simp [ofEvent_mk,MemAct.touch?] at hx
      · simp at he; subst he; simp [mk]
      · simp at he; subst he; rw [ofEvent_mk]; exact hlt'
      · have e1:MemOp.ofEvents 0 a.frame.fn a.frame.place #[mk (.acquire (stA Wg))]=#[{ g:=0,fn:=a.frame.fn,pos:=a.frame.place,act:=.mark (.acquire (stA Wg)) }]:=by rw [ofEvents_eq]; simp [ofEvent_mk]
        have hy:(t++#[({ g:=0,fn:=a.frame.fn,pos:=a.frame.place,act:=.mark (.acquire (stA Wg)) }:MemOp)])[t.size]? = some { g:=0,fn:=a.frame.fn,pos:=a.frame.place,act:=.mark (.acquire (stA Wg)) }:=by simp
        have hm:=hcom.mpos
        refine ⟨t.size,by rw [e1,act?_of hy],by rw [e1]; simp [Trace.g?],by rw [e1]; exact ⟨0,by simp [Trace.g?],by rw [deaf_old (Nat.le_refl _)]; exact hcom.deaf0.trans hd⟩,fun i hi=>?_⟩
        obtain ⟨r,hr⟩:=hcom.rel i hi (by rw [hq i hi]; omega)
        exact ⟨r,hr.appOther Go.ConcR.g_of_ofEvents (by omega),lt_of_act? hr.act⟩
    · exact idle (by simp) (hgo w hI) hmu (fun v=>.acq h') (by rw [hR]; exact trLt_nat n')
  | ret h =>
    rename_i n
    rw [← hR]
    rcases h.cases with ⟨hd,hk⟩ | ⟨n',rfl,_,g',es,hmu,hgo,h'⟩
    · exact absurd ⟨rfl,hd,hk⟩ hstop
    · have hm:=hcom.mpos
      exact bookC G ha hcom (hgo w trivial) (.refl Wg w) hwg (fun e he=>.inl (bk_of_mute ((hmu e he).resolve_right id))) (tag':=.ret) (fun v _=>.ret h') hmode (fun _=>(hacq rfl).app fun i r _ hr=>hr.appOther Go.ConcR.g_of_ofEvents (by omega)) (.inr ⟨rfl,by rw [hR]; exact trLt_nat n'⟩)
end
end Go.Am
end
section
open List renaming map_map→ζ,mapM_map→ξ
namespace Go.Am
open Go.Conc Go.Conc.Lib
open Go.ConcN (CT Apart Ok0 OkW PermW RelBy CTag phi WD Vc Ssum sumTo sumTo_upd OpenSt AllQuit isOpen isW3 isFin pend phi_mono phi_retag le_sumTo Vc_le Vc_upd)
open Go.ConcR (KK wgBlock stA smA rd wr mk)
section
variable {P:Program} {L:WgLink} {Wg:Nat} {p:Pl} {K An:Goroutine→Prop} {S:Nat→Prop} {w0:World} {m j:Nat} {gs:Array Goroutine} {w w':World} {sl:Option (Nat × Nat)} {t:Trace} {D:Nat→WD} {R:Nat→Tr} {V V':Nat→World} {tag tag':CTag} {d0:Nat} {a a':Goroutine} {st sm st' sm':Int} {es:Array Event} {r':Tr} {Post:Value→World→Prop}
theorem CS.ret_j {d:Nat} {r:Tr} {v:World} (h:CS P L Wg p K An tag j r d a v) (e:tag=.ret):j=p.n:=by
  cases h <;> first | rfl | cases e
theorem stepOld (hKr:∀ g,K g→g.status=.running) (G:Geo Wg p S) (ha:gs[0]? = some a) (hcs:CS P L Wg p K An tag j (R 0) d0 a (V 0)) (hcom:Com P L Wg p S w0 m j gs w t D R V d0) (hwg:w.heap[Wg]? = some (wgBlock L.tWg st sm)) (hmode:ConcN.Mode j D tag st sm)
    (hacq:tag=.ret→AcqA Wg m j t) {i:Nat} (h0:0<i) (him:i<m) {g:Goroutine} (hg:gs[i]? = some g) (hrun:g.status=.running) :
    ∃ M ops μ',runT P (crowd gs w sl) i=(.next M,ops)∧MLt μ' (phi p.n (Vc j D) tag+Ssum j D,ranks R (m+j),R 0)∧Inv P L Wg p K An S w0 m μ' M (t++ops):=by
  obtain ⟨g1,q,hg1,hR,hq⟩:=hcom.old i h0 him
  obtain rfl:g=g1:=by rw [hg] at hg1; exact Option.some.inj hg1
  cases q with
  | zero=>rw [hq.1] at hrun; cases hrun
  | succ q =>
    rcases hq with ⟨hf,_⟩ | ⟨_,g',es,hm',hstp,hq'⟩
    · rw [hf] at hrun; cases hrun
    obtain ⟨tag',r0,hcs',htag,hwk⟩:=hcs.wokenBy hKr g g' w
    have hrunT:=runT_crowd_go (P:=P) (sl:=sl) (i:=i) hg (by rw [show (i == 0)=false by simp; omega]; exact hstp w)
    have hcom':=hcom.stepO G h0 him hg hm' hq'
    have hcom'':Com P L Wg p S w0 m j ((gs.map (woken P g g' w)).setIfInBounds i g') w (t++MemOp.ofEvents i g.frame.fn g.frame.place es) D (ConcN.upd (ConcN.upd R i (Tr.nat q)) 0 r0) V d0 :=
      { hcom' with wk:=fun i' hi'=>by rw [ConcN.upd_ne (ConcN.upd R i (Tr.nat q)) r0 (show m+i'≠0 by omega)]; exact hcom'.wk i' hi',old:=fun i' h1 h2=>by rw [ConcN.upd_ne (ConcN.upd R i (Tr.nat q)) r0 (show i'≠0 by omega)]; exact hcom'.old i' h1 h2 }
    refine ⟨_,_,(phi p.n (Vc j D) tag'+Ssum j D,ranks (ConcN.upd (ConcN.upd R i (Tr.nat q)) 0 r0) (m+j),r0),hrunT,?_,_,w,sl,j,D,_,V,tag',d0,woken P g g' w a,st,sm,rfl,?_,by rw [ConcN.upd_same]; exact hcs',hcom'',hwg,hmode.retag htag,?_,by rw [ConcN.upd_same]⟩
    · rw [phi_retag p.n _ htag]
      refine Prod.Lex.right _ (Prod.Lex.left _ _ (ranks_lt (k:=i) (by omega) (by omega) ?_ fun x h0 hx=>by rw [ConcN.upd_ne _ _ h0,ConcN.upd_ne _ _ hx]))
      rw [ConcN.upd_ne _ _ (by omega),ConcN.upd_same,hR]; exact trLt_nat q
    · rw [Array.getElem?_setIfInBounds_ne (by omega),Array.getElem?_map,ha]; rfl
    · intro e
      rcases htag with rfl | ⟨_,rfl⟩
      · exact (hacq e).app fun i' r _ hr=>hr.appOther Go.ConcR.g_of_ofEvents (by omega)
      · cases e
theorem someRuns (hKr:∀ g,K g→g.status=.running) (ha:gs[0]? = some a) (hcs:CS P L Wg p K An tag j (R 0) d0 a (V 0)) (hcom:Com P L Wg p S w0 m j gs w t D R V d0) (hmode:ConcN.Mode j D tag st sm) :
    ∃ (i:Nat) (g:Goroutine),gs[i]? = some g∧g.status=.running:=by
  rcases hcs.status hKr with ⟨h,_⟩ | ⟨_,rfl⟩
  · exact ⟨0,a,ha,h⟩
  have wk:∀ i,i<j→(D i).stage≠1→∃ (i:Nat) (g:Goroutine),gs[i]? = some g∧g.status=.running:=fun i hi hne=>by
    obtain ⟨g,hg,hs⟩:=hcom.wk i hi
    rcases hs.status with h | ⟨_,h⟩
    · exact ⟨m+i,g,hg,h⟩
    · exact absurd h hne
  cases hmode with
  | opn h1 _ _=>exact h1.elim
  | reg _ h2 h3 =>
    obtain ⟨i,hi,h5⟩:∃ i,i<j∧ConcN.cnt (D i)≠0:=Classical.byContradiction fun hno=>by
      have:Vc j D=0:=by
        have:∀ i,i<j→ConcN.cnt (D i)=0:=fun i hi=>Classical.byContradiction fun hne=>hno ⟨i,hi,hne⟩
        have e:=ConcN.sumTo_congr (f:=fun i=>ConcN.cnt (D i)) (g:=fun _=>0) (j:=j) this
        have z:∀ j,sumTo j (fun _=>0)=0:=fun j=>by induction j with
          | zero=>rfl
          | succ j ih=>simp [sumTo,ih]
        simp only [Vc]; rw [e,z]
      omega
    refine wk i hi fun e=>h5 ?_
    simp [ConcN.cnt,e]
  | last L' _ h2 h3 _=>exact wk L' h2 (by omega)
  | fin h1 _=>exact h1.elim
theorem allAwake (hKr:∀ g,K g→g.status=.running) (ha:gs[0]? = some a) (hcs:CS P L Wg p K An tag j (R 0) d0 a (V 0)) (hcom:Com P L Wg p S w0 m j gs w t D R V d0):∀ g∈gs,awake g:=by
  intro g hg tm
  obtain ⟨i,hi⟩:=Array.mem_iff_getElem?.1 hg
  by_cases h0:i=0
  · subst h0
    rw [ha] at hi; cases hi
    rcases hcs.status hKr with ⟨hs,_⟩ | ⟨hs,_⟩ <;> rw [hs] <;> simp
  · have hlt:i<m+j:=by have:=(Array.getElem?_eq_some_iff.1 hi).1; rw [hcom.size] at this; omega
    by_cases him:i<m
    · obtain ⟨g',q,hg',_,hq⟩:=hcom.old i (by omega) him
      rw [hi] at hg'; cases hg'
      rcases hq.status with h | h <;> rw [h] <;> simp
    · obtain ⟨g',hg',hs⟩:=hcom.wk (i - m) (by omega)
      rw [show m+(i - m)=i by omega,hi] at hg'; cases hg'
      rcases hs.status with h | ⟨h,_⟩ <;> rw [h] <;> simp
theorem ph_runs (hKr:∀ g,K g→g.status=.running) (hAn:∀ g,An g→Dl P true (WgLv L.tWg Wg) (saidE Wg) (fun d g=>d=1∧AtLd P L Wg K An d g) 1 g) (G:Geo Wg p S) (hn:p.n<2147483648)
    (hFin:∀ (gs:Array Goroutine) (w:World) (sl:Option (Nat × Nat)) (R:Nat→Tr) (V:Nat→World) (D:Nat→WD) (a:Goroutine) (t:Trace),gs[0]? = some a→K a→Com P L Wg p S w0 m p.n gs w t D R V 0→w.heap[Wg]? = some (wgBlock L.tWg 0 0)→AllQuit p.n D→AcqA Wg m p.n t→EndsGood P Post (crowd gs w sl) t) :
    ∀ μ M t,Inv P L Wg p K An S w0 m μ M t→EndsGood P Post M t:=by
  intro μ
  induction μ using mlt_wf.induction with
  | _ μ ih =>
    rintro M t ⟨gs,w,sl,j,D,R,V,tag,d0,a,st,sm,rfl,ha,hcs,hcom,hwg,hmode,hacq,rfl⟩
    by_cases hstop:tag=.ret∧d0=0∧K a
    · obtain ⟨rfl,rfl,hk⟩:=hstop
      obtain ⟨hq,rfl,rfl⟩:=hmode.fin_inv trivial
      obtain rfl:j=p.n:=hcs.ret_j rfl
      exact hFin gs w sl R V D a t ha hk hcom hwg hq (hacq rfl)
    obtain ⟨i,g,d,sl',hg,hrun,hst⟩:=crowd_pick (P:=P) (w:=w) (sl:=sl) (allAwake hKr ha hcs hcom) (someRuns hKr ha hcs hcom hmode)
    have hcs':=hcs.env (growV_env (V 0) (w.at d))
    have hcom':=hcom.at d
    have hwg':(w.at d).heap[Wg]? = some (wgBlock L.tWg st sm):=hwg
    have hm:=hcom.mpos
    by_cases h0:i=0
    · subst h0
      obtain rfl:g=a:=by rw [ha] at hg; exact (Option.some.inj hg).symm
      obtain ⟨M,ops,μ',h1,h2,h3⟩:=stepCaller (sl:=sl') hKr hAn G hn ha hcs' hcom' hwg' hmode hacq hrun hstop
      exact EndsGood.step (hst.trans h1) (ih μ' h2 M _ h3)
    have hlt:i<m+j:=by have:=(Array.getElem?_eq_some_iff.1 hg).1; rw [hcom.size] at this; omega
    by_cases him:i<m
    · obtain ⟨M,ops,μ',h1,h2,h3⟩:=stepOld (sl:=sl') hKr G ha hcs' hcom' hwg' hmode hacq (by omega) him hg hrun
      exact EndsGood.step (hst.trans h1) (ih μ' h2 M _ h3)
    · obtain ⟨i',rfl⟩:∃ i',i=m+i':=⟨i - m,by omega⟩
      obtain ⟨M,ops,μ',h1,h2,h3⟩:=stepWorker (sl:=sl') hKr G hn hcs.bound ha hcs' hcom' hwg' hmode hacq (by omega) hg hrun
      exact EndsGood.step (hst.trans h1) (ih μ' h2 M _ h3)
end
end Go.Am
end
