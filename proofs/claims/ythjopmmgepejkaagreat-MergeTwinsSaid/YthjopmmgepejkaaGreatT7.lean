/- The check of chapter 31: it answers true. No condition. -/
import Derived.Test.YthjopmmgepejkaaGreatT6
import Derived.Shelf.SlSortCmp.PdqK
import Derived.Ground.SlsfProg
import Derived.Shelf.SlicesG.Cmp
import Derived.Test.YthjopmmgepejkaaGreatT4
import Derived.Test.YthjopmmgepejkaaGreatT5
section
set_option linter.unusedVariables false
set_option linter.unusedSimpArgs false
open List (map_map mapM_map)
open Go Go.Am Go.Proofs
namespace Go.Am
theorem rec59:RecSpec Tryz.prog 59:=by
  refine ⟨fun w=>enters_of Tryz.func59 (by kernel_rfl) rfl _ w,fun w=>?_⟩
  refine callsD_of_wpS Tryz.func59 rfl fun c₀ cs hu=>?_
  apply wpS_region
  simp [wpOpsS,go_sem,recoverD,hu,Tryz.ntmps59,bodyPostS,results,Tryz.results59]
  cases c₀; simp only at hu; subst hu; rfl
def encPr (p:Int × Int):List D:=[.i .i64 p.1,.i .i64 p.2]
def encPrs (l:List (Int × Int)):D:=.sl (l.map encPr)
theorem encPr_len (x:Int × Int):(encPr x).length=2:=rfl
theorem encPr_one (x:Int × Int):((encPr x).map AV.d).all one=true:=rfl
theorem encPr_eq (x:Int × Int):encPr x=[.i .i64 x.1,.i .i64 x.2]:=rfl
/-! How often a cell is used -/
def incM (m:List (Int × Int)) (n:Int):List (Int × Int):=apt m n ((alk m n).getD 0+1)
def usesF (l:Ch) (m:List (Int × Int)):List (Int × Int):=l.foldl (fun m f=>incM m f.1) m
def usesC (c:List Cl):List (Int × Int):=c.foldl (fun m x=>usesF x.b m) []
def cntF (n:Int) (l:Ch):Nat:=l.countP fun f=>decide (f.1=n)
def cntC (n:Int):List Cl→Nat
  | []=>0
  | x::c=>cntF n x.b+cntC n c
def UsOk (m:List (Int × Int)) (k:Int→Nat):Prop:=(m.map (·.1)).Nodup∧∀ n,(alk m n).getD 0=(k n:Int)
theorem incM_ok {m:List (Int × Int)} {k:Int→Nat} (h:UsOk m k) (n:Int):UsOk (incM m n) fun q=>k q+if q=n then 1 else 0:=by
  refine ⟨apt_nodup _ _ h.1,fun q=>?_⟩
  unfold incM
  rw [alk_apt]
  by_cases e:q=n
  · subst e; simp [h.2 q]
  · simp [e,h.2 q]
theorem usesF_ok:∀ (l:Ch) {m:List (Int × Int)} {k:Int→Nat},UsOk m k→UsOk (usesF l m) fun q=>k q+cntF q l
  | [],m,k,h=>by simpa [usesF,cntF] using h
  | f::l,m,k,h=>by
    have:=usesF_ok l (incM_ok h f.1)
    refine ⟨this.1,fun q=>?_⟩
    show (alk (usesF l (incM m f.1)) q).getD 0=_
    rw [this.2 q]
    simp only [cntF,List.countP_cons]
    by_cases e:q=f.1
    · rw [if_pos e,if_pos (by simp [e])]; omega
    · have:¬ f.1=q:=fun h=>e h.symm
      simp [e,this]
theorem usesC_ok (c:List Cl):UsOk (usesC c) fun q=>cntC q c:=by
  suffices ∀ (c:List Cl) (m:List (Int × Int)) (k:Int→Nat),UsOk m k→UsOk (c.foldl (fun m x=>usesF x.b m) m) fun q=>k q+cntC q c by
    have:=this c [] (fun _=>0) ⟨by simp,fun n=>rfl⟩
    simpa [usesC] using this
  intro c
  induction c with
  | nil=>intro m k h; simpa [cntC] using h
  | cons x c ih =>
    intro m k h
    have:=ih _ _ (usesF_ok x.b h)
    refine ⟨this.1,fun q=>?_⟩
    show (alk (c.foldl (fun m x=>usesF x.b m) (usesF x.b m)) q).getD 0=_
    rw [this.2 q]
    simp only [cntC]; omega
theorem usesC_take {c:List Cl} {i:Nat} (h:i<c.length):usesC (c.take (i+1))=usesF c[i].b (usesC (c.take i)):=by
  unfold usesC
  rw [List.take_add_one,List.getElem?_eq_getElem h,List.foldl_append]; rfl
theorem usesF_take {l:Ch} {i:Nat} (h:i<l.length) (m:List (Int × Int)):usesF (l.take (i+1)) m=incM (usesF (l.take i) m) l[i].1:=by
  unfold usesF
  rw [List.take_add_one,List.getElem?_eq_getElem h,List.foldl_append]; rfl
theorem usesF_alk_bnd {l:Ch} {m:List (Int × Int)} {B:Int} (h:∀ n,0≤(alk m n).getD 0∧(alk m n).getD 0≤B):∀ n,0≤(alk (usesF l m) n).getD 0∧(alk (usesF l m) n).getD 0≤B+l.length:=by
  induction l generalizing m B with
  | nil=>intro n; have:=h n; simp only [usesF,List.foldl_nil,List.length_nil]; omega
  | cons f l ih =>
    intro n
    have:=ih (m:=incM m f.1) (B:=B+1) (fun q=>by
      unfold incM
      rw [alk_apt]
      have h1:=h q
      have h2:=h f.1
      split
      · simp only [Option.getD_some]; omega
      · omega) n
    show 0≤(alk (usesF l (incM m f.1)) n).getD 0∧(alk (usesF l (incM m f.1)) n).getD 0≤_
    simp only [List.length_cons]; omega
/-! The free pairs -/
def frOk (c:List Cl) (f:Int × Int):Bool:=decide (cntC f.1 c=1) && decide (f.2.natAbs=1)
def frCell (c:List Cl) (x:Cl):List (Int × Int):=if 0<cntC x.id c then [] else (x.b.filter (frOk c)).map fun f=>(x.id,f.1)
def freeX (c:List Cl):List (Int × Int):=c.flatMap (frCell c)
def iD (v:Int):D:=.i .i64 v
def bD (v:Bool):D:=.b v
def usE (m:List (Int × Int)):List (Int × AV):=enA (fun v=>.d (iD v)) m
def onE (m:List (Int × Bool)):List (Int × AV):=enA (fun v=>.d (bD v)) m
theorem onE_nil:([]:List (Int × AV))=onE []:=rfl
theorem mlook_usE (m:List (Int × Int)) (n:Int):mlook (usE m) n=(alk m n).map fun v=>.d (.i .i64 v):=mlook_enA _ _ _
theorem mlook_onE (m:List (Int × Bool)) (n:Int):mlook (onE m) n=(alk m n).map fun v=>.d (.b v):=mlook_enA _ _ _
theorem mput_usE (m:List (Int × Int)) (n v:Int):mput (usE m) n (.d (.i .i64 v))=usE (apt m n v):=mput_enA (fun v=>AV.d (iD v)) _ _ _
theorem mput_onE (m:List (Int × Bool)) (n:Int) (v:Bool):mput (onE m) n (.d (.b v))=onE (apt m n v):=mput_enA (fun v=>AV.d (bD v)) _ _ _
theorem subO_usE {H H':Nat→Option HO} {ρ:Nat→Nat} (m:List (Int × Int)):SubO H H' ρ (.map .i64 (usE m)) (.map .i64 (usE m))↔True:=subO_enA_iff _
theorem subO_onE {H H':Nat→Option HO} {ρ:Nat→Nat} (m:List (Int × Bool)):SubO H H' ρ (.map .i64 (onE m)) (.map .i64 (onE m))↔True:=subO_enA_iff _
theorem scrubO_usE (l:List Nat) (m:List (Int × Int)):scrubO l (.map .i64 (usE m))=.map .i64 (usE m):=scrubO_enA _ _ _
theorem scrubO_onE (l:List Nat) (m:List (Int × Bool)):scrubO l (.map .i64 (onE m))=.map .i64 (onE m):=scrubO_enA _ _ _
theorem lookU (H:Nat→Option HO) (id:Nat) (m:List (Int × Int)) (n:Int) (h:H id=some (.map .i64 (usE m))):lookA Tryz.prog H 101 (.mp id) (.d (.i .i64 n)) false=some (.d (.i .i64 ((alk m n).getD 0))):=by
  have h1:tmp Tryz.prog 101=some (3,3):=by kernel_rfl
  have h2:tint Tryz.prog 3=some .i64:=by kernel_rfl
  have h3:tz Tryz.prog 3=some (.int .i64 0):=by kernel_rfl
  rw [lookA_mp,h]
  simp only [mlook_usE]
  cases alk m n <;> simp [h1,h2,h3,cv,cv1]
theorem lookO (H:Nat→Option HO) (id:Nat) (m:List (Int × Bool)) (n:Int) (h:H id=some (.map .i64 (onE m))):lookA Tryz.prog H 102 (.mp id) (.d (.i .i64 n)) false=some (.d (.b ((alk m n).getD false))):=by
  have h1:tmp Tryz.prog 102=some (3,4):=by kernel_rfl
  have h2:tint Tryz.prog 3=some .i64:=by kernel_rfl
  have h3:tz Tryz.prog 4=some (.bool false):=by kernel_rfl
  rw [lookA_mp,h]
  simp only [mlook_onE]
  cases alk m n <;> simp [h1,h2,h3,cv,cv1]
def usD (m:List (Int × Int)):D:=.mp .i64 (m.map (·.1)) (m.map fun p=>iD p.2)
theorem lookUD (H:Nat→Option HO) (m:List (Int × Int)) (n:Int):lookA Tryz.prog H 101 (.d (usD m)) (.d (.i .i64 n)) false=some (.d (.i .i64 ((alk m n).getD 0))):=by
  have h1:tmp Tryz.prog 101=some (3,3):=by kernel_rfl
  have h2:tint Tryz.prog 3=some .i64:=by kernel_rfl
  have h3:tz Tryz.prog 3=some (.int .i64 0):=by kernel_rfl
  have e:lookA Tryz.prog H 101 (.d (usD m)) (.d (.i .i64 n)) false=lookE Tryz.prog 101 .i64 (injM (m.map (·.1)) (m.map fun p=>iD p.2)) (.d (.i .i64 n)) false:=rfl
  rw [e,injM_enA iD fun _=>rfl]
  simp only [lookE,mlook_enA]
  cases alk m n <;> simp [h1,h2,h3,cv,cv1,iD]
def usI (m:List (Int × Int)):List (Int × D):=m.map fun p=>(p.1,iD p.2)
theorem nv_rangeU (m:List (Int × Int)) (Γ:Nat→AV) (n:Nat) (x:Operand) (h:oev Γ x=.d (usD m)):nev Tryz.prog (.range 101 x) Γ n=some (.ptr n 0,some (.iter .i64 none (usI m))):=by
  have h1:tmp Tryz.prog 101=some (3,3):=by kernel_rfl
  have e:∀ m:List (Int × Int),(m.map (·.1)).zip (m.map fun p=>iD p.2)=usI m:=fun m=>by
    induction m with
    | nil=>rfl
    | cons p m ih=>simp only [List.map_cons,List.zip_cons_cons,ih,usI]
  simp only [nev,h1,h,usD,Option.bind_some,e]
theorem erase_perm {α:Type}:∀ {l:List α} {j:Nat} {e:α},l[j]? = some e→l.Perm (e::l.eraseIdx j)
  | [],j,e,h=>by simp at h
  | x::l,0,e,h=>by simp at h; subst h; exact List.Perm.refl _
  | x::l,j+1,e,h=>by
    have:=erase_perm (l:=l) (j:=j) (e:=e) (by simpa using h)
    exact (List.Perm.cons x this).trans (List.Perm.swap e x _)
theorem itA_ptr (H:Nat→Option HO) (id:Nat):itA H (.ptr id 0)=match H id with
    | some (.iter k _ es)=>some (id,k,es)
    | _=>none:=rfl
theorem entA_ptr (H:Nat→Option HO) (id:Nat):entA H (.ptr id 0)=match H id with
    | some (.iter k (some e) _)=>some (.tp [.d (.i k e.1),inj1 e.2])
    | _=>none:=rfl
theorem subO_iter {H H':Nat→Option HO} {ρ:Nat→Nat} (k k':IntKind) (l l':Option (Int × D)) (es es':List (Int × D)):SubO H H' ρ (.iter k l es) (.iter k' l' es')↔(k=k'∧l=l'∧es=es'):=Iff.rfl
theorem scrubO_iter (s:List Nat) (k:IntKind) (l:Option (Int × D)) (es:List (Int × D)):scrubO s (.iter k l es)=.iter k l es:=rfl
theorem usI_mem {m:List (Int × Int)} {e:Int × D} (h:e∈usI m):∃ n v,e=(n,iD v)∧(n,v)∈m:=by
  obtain ⟨p,hp,rfl⟩:=List.mem_map.1 h
  exact ⟨p.1,p.2,rfl,hp⟩
theorem iD_inj {a b:Int} (h:iD a=iD b):a=b:=by injection h
theorem inj1_iD (v:Int):inj1 (iD v)=.d (.i .i64 v):=rfl
def OnOk (m:List (Int × Int)) (rest:List (Int × D)) (once:List (Int × Bool)):Prop:=∃ done,(done++rest).Perm (usI m)∧∀ n,(alk once n).getD false=true↔(n,iD 1)∈done
theorem OnOk.step {m:List (Int × Int)} {rest:List (Int × D)} {once:List (Int × Bool)} (h:OnOk m rest once) {j:Nat} {n v:Int} (he:rest[j]? = some (n,iD v)):OnOk m (rest.eraseIdx j) (if v=1 then apt once n true else once):=by
  obtain ⟨done,h1,h2⟩:=h
  refine ⟨done++[(n,iD v)],?_,fun q=>?_⟩
  · rw [List.append_assoc]
    exact ((List.Perm.append_left done (erase_perm he)).symm).trans h1
  · rw [List.mem_append,List.mem_singleton,Prod.mk.injEq]
    by_cases hv:v=1
    · rw [if_pos hv,alk_apt]
      by_cases hq:q=n
      · subst hq; subst hv; simp
      · rw [if_neg hq,h2]; simp [hq]
    · rw [if_neg hv,h2]
      constructor
      · exact .inl
      · rintro (h | ⟨_,h⟩)
        · exact h
        · exact absurd (iD_inj h).symm hv
theorem OnOk.fin {m:List (Int × Int)} {once:List (Int × Bool)} (hnd:(m.map (·.1)).Nodup) (h:OnOk m [] once) (n:Int):(alk once n).getD false=true↔(alk m n).getD 0=1:=by
  obtain ⟨done,h1,h2⟩:=h
  rw [List.append_nil] at h1
  rw [h2,h1.mem_iff]
  constructor
  · intro h
    obtain ⟨a,v,e,hm⟩:=usI_mem h
    injection e with e1 e2
    rw [← iD_inj e2,← e1] at hm
    rw [(alk_mem hnd).2 hm]; rfl
  · intro h
    cases hk:alk m n with
    | none=>rw [hk] at h; simp at h
    | some v =>
      rw [hk] at h
      have hv:v=1:=h
      subst hv
      exact List.mem_map.2 ⟨(n,1),(alk_mem hnd).1 hk,rfl⟩
theorem OnOk.nil (m:List (Int × Int)):OnOk m (usI m) []:=⟨[],by simp,fun n=>by simp [alk]⟩
def grQ1 (t:Nat) (sl:List (Nat × AV)) (mb:HO) (e:TypeId) (sz n:Nat) (cells:List D):St:=match n with
  | 0=>StL ((t,.nil)::sl) none [mb]
  | n+1=>StL ((t,.own 2 0 (n+1) sz)::sl) none [mb,.cells e (cells.map .d)]
def grQ2 (t:Nat) (sl:List (Nat × AV)) (mb xb:HO) (e:TypeId) (sz n:Nat) (cells:List D):St:=match n with
  | 0=>StL ((t,.nil)::sl) none [mb,xb]
  | n+1=>StL ((t,.own 3 0 (n+1) sz)::sl) none [mb,xb,.cells e (cells.map .d)]
theorem freeX_take {c d:List Cl} {i:Nat} (h:i<c.length):(c.take (i+1)).flatMap (frCell d)=(c.take i).flatMap (frCell d)++frCell d c[i]:=by
  rw [List.take_add_one,List.getElem?_eq_getElem h,List.flatMap_append]; simp
theorem frIn_take {c:List Cl} {l:Ch} {i:Nat} (n:Int) (h:i<l.length):((l.take (i+1)).filter (frOk c)).map (fun f=>(n,f.1))=((l.take i).filter (frOk c)).map (fun f=>(n,f.1))++if frOk c l[i] then [(n,l[i].1)] else []:=by
  rw [List.take_add_one,List.getElem?_eq_getElem h,List.filter_append,List.map_append]
  congr 1
  by_cases e:frOk c l[i]=true <;> simp [e]
set_option maxHeartbeats 16000000 in
set_option maxRecDepth 10000 in
theorem mgFree {c:List Cl} {e:Nat} (hz:SzX e c) (he:e+14<4398046511104):Spec Tryz.prog 22 [encX c] (encPrs (freeX c)):=by
  have hlen:=hz.len
  refine spec_of_d (N:=90) follows_mixed Tryz.func22 rfl rfl rfl (by kernel_rfl) (by kernel_rfl) (by kernel_rfl) (by kernel_rfl) rfl rec59 (by simp) ?_
  simp (maxSteps:=1000000) [-map_map,-mapM_map,↓KW,encX]
  refine loopP_invW (fun i:Nat=>i≤c.length∧∀ n,0≤(alk (usesC (c.take i)) n).getD 0∧(alk (usesC (c.take i)) n).getD 0≤100 * i) (fun i=>StL [(0,.d (encX c)),(3,.mp 1),(17,.d (encX c)),(18,.d (.i .i64 c.length)),(19,.d (.i .i64 (i:Int)))] none [.map .i64 (usE (usesC (c.take i)))]) (fun i=>c.length - i) 0 ⟨Nat.zero_le _,fun n=>by simp [usesC,alk]⟩ ?_ ?_
  · refine wk_l [1] (by simp) ?_ ?_
    · simp [-map_map,upd,inj1,Γ0,encX]
    · exact ⟨⟨_,by simp [upd]; rfl,subO_enA rfl⟩,trivial⟩
  · rintro i ⟨hi,hub⟩
    by_cases hgo:i<c.length
    · have q1:(i:Int)<c.length:=by omega
      have hx:c[i]? = some c[i]:=List.getElem?_eq_getElem hgo
      have hw:IntKind.i64.wrap ((i:Int)+1)=(i:Int)+1:=wrap_i64 (by omega) (by omega)
      have htk:=usesC_take hgo
      have hxl:=hz.bl _ (List.getElem_mem hgo)
      refine (show ∃ x,c[i]=x from ⟨_,rfl⟩).elim fun x hxe=>?_
      rw [hxe] at hx htk hxl
      refine (show ∃ m,usesC (c.take i)=m from ⟨_,rfl⟩).elim fun m hme=>?_
      rw [hme] at htk
      simp only [hme] at hub ⊢
      have hyc:encCl x=[D.i .i64 x.id,.i .i64 x.dim,encC x.b]:=rfl
      simp (maxSteps:=1000000) [-map_map,-mapM_map,↓KW,encX,encC,q1,hx,hyc,one_encC,cellsA_encC,inj1_encC,scrubO_usE]
      refine loopP_inv (fun j:Nat=>j≤x.b.length) (fun j=>StL [(0,.d (encX c)),(3,.mp 1),(17,.d (encX c)),(18,.d (.i .i64 c.length)),(19,.d (.i .i64 (i:Int))),(24,.d (encC x.b)),(25,.d (.i .i64 x.b.length)),(26,.d (.i .i64 (j:Int)))] none [.map .i64 (usE (usesF (x.b.take j) m))]) (fun j=>x.b.length - j) 0 (Nat.zero_le _) ?_ ?_
      · refine wk_l [1] (by simp) ?_ ?_ <;> simp [-map_map,upd,inj1,Γ0,encX,encC,scrubO_usE,subO_usE,usesF]
      · intro j hj
        by_cases hgo2:j<x.b.length
        · have q2:(j:Int)<x.b.length:=by omega
          have hf:x.b[j]? = some x.b[j]:=List.getElem?_eq_getElem hgo2
          have hw2:IntKind.i64.wrap ((j:Int)+1)=(j:Int)+1:=wrap_i64 (by omega) (by omega)
          have htk2:=usesF_take hgo2 m
          have hb2:=usesF_alk_bnd (l:=x.b.take j) hub
          rw [List.length_take] at hb2
          refine (show ∃ f,x.b[j]=f from ⟨_,rfl⟩).elim fun f hfe=>?_
          rw [hfe] at hf htk2
          refine (show ∃ m',usesF (x.b.take j) m=m' from ⟨_,rfl⟩).elim fun m' hme'=>?_
          rw [hme'] at htk2 hb2
          simp only [hme']
          have hb3:=hb2 f.1
          have hlk:∀ H:Nat→Option HO,H 1=some (.map .i64 (usE m'))→lookA Tryz.prog H 101 (.mp 1) (.d (.i .i64 f.1)) false=some (.d (.i .i64 ((alk m' f.1).getD 0))):=fun H h=>lookU H 1 m' f.1 h
          have hinc:apt m' f.1 ((alk m' f.1).getD 0+1)=incM m' f.1:=rfl
          refine (show ∃ v,(alk m' f.1).getD 0=v from ⟨_,rfl⟩).elim fun v hve=>?_
          rw [hve] at hlk hinc hb3
          have hw3:IntKind.i64.wrap (v+1)=v+1:=wrap_i64 (by omega) (by omega)
          simp (maxSteps:=1000000) [-map_map,-mapM_map,↓KW,encX,encC,encF_eq,q2,hf,hlk,hw3,hw2,mapW_mp,mput_usE,hinc,scrubO_usE,one_encM,cellsA_encM,inj1_encM]
          refine nxt_intro (j+1) hgo2 (Nat.sub_lt_sub_left hgo2 (Nat.lt_succ_self _)) (wk_l [1] (by simp) ?_ ?_) <;> simp [-map_map,upd,inj1,Γ0,encX,encC,scrubO_usE,subO_usE,htk2]
        · have q2:¬ (j:Int)<x.b.length:=by omega
          have hb2:=usesF_alk_bnd (l:=x.b) hub
          rw [List.take_of_length_le (by omega)]
          simp (maxSteps:=1000000) [-map_map,-mapM_map,↓KW,encX,encC,q2,hw]
          refine nxt_intro (i+1) ⟨hgo,fun n=>?_⟩ (Nat.sub_lt_sub_left hgo (Nat.lt_succ_self _)) (wk_l [1] (by simp) ?_ ?_)
          · rw [htk]; have:=hb2 n; omega
          · simp [-map_map,upd,inj1,Γ0,encX,encC,scrubO_usE,subO_usE,htk]
          · simp [-map_map,upd,inj1,Γ0,encX,encC,scrubO_usE,subO_usE,htk]
    · have q1:¬ (i:Int)<c.length:=by omega
      rw [List.take_of_length_le (by omega)] at hub ⊢
      obtain ⟨hnd,hcnt⟩:=usesC_ok c
      refine (show ∃ m,usesC c=m from ⟨_,rfl⟩).elim fun m hme=>?_
      rw [hme] at hub hnd hcnt ⊢
      simp (maxSteps:=1000000) [-map_map,-mapM_map,↓KW,encX,q1]
      refine exP_wk (StL [(0,.d (encX c)),(3,.d (usD m))] none []) (wk_l [] (by simp) ?_ ?_) ?_
      · simp [-map_map,upd,inj1,Γ0,encX]
        exact sub_frz (frz_mpA iD _ 6 1 m rfl) (fun a _ id h=>by simp [blkF] at h)
      · trivial
      · simp (maxSteps:=1000000) [-map_map,-mapM_map,↓KW,encX,↓o1_range,nv_rangeU m,onE_nil]
        refine loopP_inv (fun y:Option (Int × D) × List (Int × D) × List (Int × Bool)=>OnOk m y.2.1 y.2.2) (fun y=>StL [(0,.d (encX c)),(3,.d (usD m)),(8,.mp 1),(39,.ptr 2 0)] none [.map .i64 (onE y.2.2),.iter .i64 y.1 y.2.1]) (fun y=>y.2.1.length) (none,usI m,[]) (OnOk.nil m) ?_ ?_
        · refine wk_l [1,2] (by simp) ?_ ?_ <;> simp [-map_map,upd,inj1,Γ0,encX,subO_onE,subO_iter]
        · rintro ⟨last,rest,once⟩ hok
          simp only at hok ⊢
          simp (maxSteps:=1000000) [-map_map,-mapM_map,↓KW,encX,↓o1_next,itA_ptr]
          refine nextP_intro (fun he=>?_) (fun j ⟨n,w⟩ he=>?_)
          · subst he
            have hfin:=hok.fin hnd
            simp (maxSteps:=1000000) [-map_map,-mapM_map,↓KW,encX]
            refine loopP_inv (fun y:Nat × List (Int × Int)=>y.1≤c.length∧y.2.length≤100 * y.1∧(c.take y.1).flatMap (frCell c)=y.2) (fun y=>grQ1 11 [(0,.d (encX c)),(3,.d (usD m)),(8,.mp 1),(49,.d (encX c)),(50,.d (.i .i64 c.length)),(51,.d (.i .i64 (y.1:Int)))] (.map .i64 (onE once)) 59 2 y.2.length (flt encPr y.2)) (fun y=>c.length - y.1) (0,[]) ⟨Nat.zero_le _,Nat.zero_le _,rfl⟩ ?_ ?_
            · simp only [List.length_nil,grQ1]
              refine wk_l [1] (by simp) ?_ ?_ <;> simp [-map_map,upd,inj1,Γ0,encX,subO_onE,blksOk]
            · clear hi hgo q1 i hub
              rintro ⟨i,l⟩ ⟨hi,hll,hl⟩
              simp only at hi hll hl ⊢
              by_cases hgo:i<c.length
              · have q1:(i:Int)<c.length:=by omega
                have hx:c[i]? = some c[i]:=List.getElem?_eq_getElem hgo
                have hw:IntKind.i64.wrap ((i:Int)+1)=(i:Int)+1:=wrap_i64 (by omega) (by omega)
                have htk:=freeX_take (d:=c) hgo
                rw [hl] at htk
                have hxl:=hz.bl _ (List.getElem_mem hgo)
                have hxb:=hz.bb _ (List.getElem_mem hgo)
                refine (show ∃ x,c[i]=x from ⟨_,rfl⟩).elim fun x hxe=>?_
                rw [hxe] at hx htk hxl hxb
                have hyc:encCl x=[D.i .i64 x.id,.i .i64 x.dim,encC x.b]:=rfl
                have hlu:∀ H:Nat→Option HO,lookA Tryz.prog H 101 (.d (usD m)) (.d (.i .i64 x.id)) false=some (.d (.i .i64 ((cntC x.id c:Nat):Int))):=fun H=>by rw [lookUD H m x.id,hcnt]
                rcases hn:l.length with _ | k
                · simp only [hn,grQ1]
                  by_cases h0:0<cntC x.id c
                  · have h0':(0:Int)<((cntC x.id c:Nat):Int):=by omega
                    have hfc:frCell c x=[]:=by unfold frCell; rw [if_pos h0]
                    rw [hfc,List.append_nil] at htk
                    simp (maxSteps:=1000000) [-map_map,-mapM_map,↓KW,encX,q1,hx,hyc,hlu,h0,h0',hw,one_encC,cellsA_encC,inj1_encC,scrubO_onE]
                    refine nxt_intro (τ:=Nat × List (Int × Int)) (i+1,l) ⟨hgo,by simp only; omega,htk⟩ (Nat.sub_lt_sub_left hgo (Nat.lt_succ_self _)) ?_
                    simp only [hn,grQ1]
                    refine wk_l [1] (by simp) ?_ ?_ <;> simp [-map_map,upd,inj1,Γ0,encX,subO_onE,blksOk]
                  · have h0':¬ (0:Int)<((cntC x.id c:Nat):Int):=by omega
                    have hfc:frCell c x=(x.b.filter (frOk c)).map fun f=>(x.id,f.1):=by unfold frCell; rw [if_neg h0]
                    rw [hfc] at htk
                    simp (maxSteps:=1000000) [-map_map,-mapM_map,↓KW,encX,encC,q1,hx,hyc,hlu,h0,h0',hw,one_encC,cellsA_encC,inj1_encC,scrubO_onE]
                    refine loopP_inv (fun y:Nat × List (Int × Int)=>y.1≤x.b.length∧y.2.length≤100 * i+y.1∧l++((x.b.take y.1).filter (frOk c)).map (fun f=>(x.id,f.1))=y.2) (fun y=>grQ2 11 [(0,.d (encX c)),(3,.d (usD m)),(8,.mp 1),(13,.ptr 2 0),(49,.d (encX c)),(50,.d (.i .i64 c.length)),(51,.d (.i .i64 (i:Int))),(61,.d (encC x.b)),(62,.d (.i .i64 x.b.length)),(63,.d (.i .i64 (y.1:Int)))] (.map .i64 (onE once)) (.cells 47 [.d (.i .i64 x.id),.d (.i .i64 x.dim),.d (encC x.b)]) 59 2 y.2.length (flt encPr y.2)) (fun y=>x.b.length - y.1) (0,l) ⟨Nat.zero_le _,by simp only; omega,by simp⟩ ?_ ?_
                    · simp only [hn,grQ2]
                      refine wk_l [1,2] (by simp) ?_ ?_ <;> simp [-map_map,upd,inj1,Γ0,encX,encC,subO_onE,blksOk]
                    · rintro ⟨j,l2⟩ ⟨hj,hl2,hinv⟩
                      simp only at hj hl2 hinv ⊢
                      by_cases hgo2:j<x.b.length
                      · have q2:(j:Int)<x.b.length:=by omega
                        have hf:x.b[j]? = some x.b[j]:=List.getElem?_eq_getElem hgo2
                        have hw2:IntKind.i64.wrap ((j:Int)+1)=(j:Int)+1:=wrap_i64 (by omega) (by omega)
                        have hfb:=hxb _ (List.getElem_mem hgo2)
                        have htk2:=frIn_take (c:=c) x.id hgo2
                        refine (show ∃ f,x.b[j]=f from ⟨_,rfl⟩).elim fun f hfe=>?_
                        rw [hfe] at hf htk2 hfb
                        have hinv2:l++((x.b.take (j+1)).filter (frOk c)).map (fun f=>(x.id,f.1))=l2++if frOk c f then [(x.id,f.1)] else []:=by rw [htk2,← List.append_assoc,hinv]
                        have hef:encF f=[.i .i64 f.1,.b (decide (f.2<0)),encM (digs f.2.natAbs)]:=rfl
                        obtain ⟨n,z⟩:=f
                        simp only at hfb hef hinv2
                        have hzS:Sz z:=szE hfb (by omega)
                        have hon:(alk once n).getD false=decide (cntC n c=1):=by
                          rw [Bool.eq_iff_iff,hfin,hcnt,decide_eq_true_eq]; simp only; omega
                        have hlo:∀ H:Nat→Option HO,H 1=some (.map .i64 (onE once))→lookA Tryz.prog H 102 (.mp 1) (.d (.i .i64 n)) false=some (.d (.b (decide (cntC n c=1)))):=fun H h=>by rw [lookO H 1 once n h,hon]
                        have hm1:(1:Nat)≤maxLen:=le_maxLen (by decide)
                        rcases hn2:l2.length with _ | k
                        · by_cases h1:cntC n c=1
                          · have hA:=intAbsZ z hzS
                            have hO:=intOf1
                            obtain ⟨r,hC,hr⟩:=intCmpZ (z.natAbs:Int) 1 (by unfold Sz at hzS ⊢; rw [Int.natAbs_natCast]; exact hzS) sz1
                            rw [decide_eq_true h1] at hlo
                            simp only [grQ2]
                            simp (maxSteps:=1000000) [-map_map,-mapM_map,↓KW,encX,encC,encF_eq,q2,hf,hlo,one_encM,cellsA_encM,inj1_encM]
                            refine callP_intro (ds:=[encZ z]) (by rfl) hA ?_
                            simp (maxSteps:=1000000) [-map_map,-mapM_map,↓KW,encX,encC,encF_eq,encZ_eq,one_encM,cellsA_encM,inj1_encM,scrubO_onE]
                            refine callP_intro (ds:=[.i .i64 1]) (by rfl) hO ?_
                            simp (maxSteps:=1000000) [-map_map,-mapM_map,↓KW,encX,encC,encF_eq,encZ_eq,one_encM,cellsA_encM,inj1_encM,scrubO_onE]
                            refine callP_intro (ds:=[encZ (z.natAbs:Int),encZ 1]) (by rfl) hC ?_
                            by_cases hz1:z.natAbs=1
                            · have hr0:r=0:=hr.2 (by omega)
                              have hok:frOk c (n,z)=true:=by unfold frOk; simp [h1,hz1]
                              rw [hok,if_pos rfl] at hinv2
                              rw [hr0]
                              have e0:l2=[]:=List.eq_nil_of_length_eq_zero hn2
                              simp (maxSteps:=1000000) [-map_map,-mapM_map,↓KW,hr0,hw2,hm1,scrubO_onE]
                              refine nxt_intro (τ:=Nat × List (Int × Int)) (j+1,l2++[(x.id,n)]) ⟨hgo2,by simp only [List.length_append,List.length_singleton]; omega,hinv2⟩ (Nat.sub_lt_sub_left hgo2 (Nat.lt_succ_self _)) ?_
                              simp only [List.length_append,hn2,List.length_singleton,grQ2]
                              refine wk_l [1,2,5] (by simp) ?_ ?_ <;> simp [-map_map,upd,inj1,Γ0,encX,encC,subO_onE,e0,flt_one,encPr_eq]
                            · have hr0:((r == 0):Bool)=false:=by simp; exact fun h=>hz1 (by have:=hr.1 h; omega)
                              have hok:frOk c (n,z)=false:=by unfold frOk; simp [hz1]
                              rw [hok] at hinv2
                              simp only [Bool.false_eq_true,if_false,List.append_nil] at hinv2
                              simp (maxSteps:=1000000) [-map_map,-mapM_map,↓KW,hr0,hw2,scrubO_onE]
                              refine nxt_intro (τ:=Nat × List (Int × Int)) (j+1,l2) ⟨hgo2,by simp only; omega,hinv2⟩ (Nat.sub_lt_sub_left hgo2 (Nat.lt_succ_self _)) ?_
                              simp only [hn2,grQ2]
                              refine wk_l [1,2] (by simp) ?_ ?_ <;> simp [-map_map,upd,inj1,Γ0,encX,encC,subO_onE,blksOk]
                          · rw [decide_eq_false h1] at hlo
                            have hok:frOk c (n,z)=false:=by unfold frOk; simp [h1]
                            rw [hok] at hinv2
                            simp only [Bool.false_eq_true,if_false,List.append_nil] at hinv2
                            simp only [grQ2]
                            simp (maxSteps:=1000000) [-map_map,-mapM_map,↓KW,encX,encC,encF_eq,q2,hf,hlo,hw2,one_encM,cellsA_encM,inj1_encM,scrubO_onE]
                            refine nxt_intro (τ:=Nat × List (Int × Int)) (j+1,l2) ⟨hgo2,by simp only; omega,hinv2⟩ (Nat.sub_lt_sub_left hgo2 (Nat.lt_succ_self _)) ?_
                            simp only [hn2,grQ2]
                            refine wk_l [1,2] (by simp) ?_ ?_ <;> simp [-map_map,upd,inj1,Γ0,encX,encC,subO_onE,blksOk]
                        · by_cases h1:cntC n c=1
                          · have hA:=intAbsZ z hzS
                            have hO:=intOf1
                            obtain ⟨r,hC,hr⟩:=intCmpZ (z.natAbs:Int) 1 (by unfold Sz at hzS ⊢; rw [Int.natAbs_natCast]; exact hzS) sz1
                            rw [decide_eq_true h1] at hlo
                            simp only [grQ2]
                            simp (maxSteps:=1000000) [-map_map,-mapM_map,↓KW,encX,encC,encF_eq,q2,hf,hlo,one_encM,cellsA_encM,inj1_encM]
                            refine callP_intro (ds:=[encZ z]) (by rfl) hA ?_
                            simp (maxSteps:=1000000) [-map_map,-mapM_map,↓KW,encX,encC,encF_eq,encZ_eq,one_encM,cellsA_encM,inj1_encM,scrubO_onE]
                            refine callP_intro (ds:=[.i .i64 1]) (by rfl) hO ?_
                            simp (maxSteps:=1000000) [-map_map,-mapM_map,↓KW,encX,encC,encF_eq,encZ_eq,one_encM,cellsA_encM,inj1_encM,scrubO_onE]
                            refine callP_intro (ds:=[encZ (z.natAbs:Int),encZ 1]) (by rfl) hC ?_
                            by_cases hz1:z.natAbs=1
                            · have hr0:r=0:=hr.2 (by omega)
                              have hok:frOk c (n,z)=true:=by unfold frOk; simp [h1,hz1]
                              rw [hok,if_pos rfl] at hinv2
                              rw [hr0]
                              have hbb:=app_bounds (n:=k+1) (by omega)
                              have hcl:=flt_len encPr_len l2
                              rw [hn2] at hcl
                              have hal:=flt_all encPr_one l2
                              have hb8:(k+1+1) * 16≤140737488355328:=by omega
                              simp (maxSteps:=1000000) [-map_map,-mapM_map,↓KW,hr0,hw2,hm1,hbb,hb8,hcl,hal,le_maxLen,scrubO_onE]
                              refine nxt_intro (τ:=Nat × List (Int × Int)) (j+1,l2++[(x.id,n)]) ⟨hgo2,by simp only [List.length_append,List.length_singleton]; omega,hinv2⟩ (Nat.sub_lt_sub_left hgo2 (Nat.lt_succ_self _)) ?_
                              simp only [List.length_append,hn2,List.length_singleton,grQ2]
                              refine wk_l [1,2,6] (by simp) ?_ ?_ <;> simp [-map_map,upd,inj1,Γ0,encX,encC,scrubO_onE,subO_onE,flt_app,flt_one,encPr_eq]
                            · have hr0:((r == 0):Bool)=false:=by simp; exact fun h=>hz1 (by have:=hr.1 h; omega)
                              have hok:frOk c (n,z)=false:=by unfold frOk; simp [hz1]
                              rw [hok] at hinv2
                              simp only [Bool.false_eq_true,if_false,List.append_nil] at hinv2
                              simp (maxSteps:=1000000) [-map_map,-mapM_map,↓KW,hr0,hw2,scrubO_onE]
                              refine nxt_intro (τ:=Nat × List (Int × Int)) (j+1,l2) ⟨hgo2,by simp only; omega,hinv2⟩ (Nat.sub_lt_sub_left hgo2 (Nat.lt_succ_self _)) ?_
                              simp only [hn2,grQ2]
                              refine wk_l [1,2,3] (by simp) ?_ ?_ <;> simp [-map_map,upd,inj1,Γ0,encX,encC,subO_onE,blksOk]
                          · rw [decide_eq_false h1] at hlo
                            have hok:frOk c (n,z)=false:=by unfold frOk; simp [h1]
                            rw [hok] at hinv2
                            simp only [Bool.false_eq_true,if_false,List.append_nil] at hinv2
                            simp only [grQ2]
                            simp (maxSteps:=1000000) [-map_map,-mapM_map,↓KW,encX,encC,encF_eq,q2,hf,hlo,hw2,one_encM,cellsA_encM,inj1_encM,scrubO_onE]
                            refine nxt_intro (τ:=Nat × List (Int × Int)) (j+1,l2) ⟨hgo2,by simp only; omega,hinv2⟩ (Nat.sub_lt_sub_left hgo2 (Nat.lt_succ_self _)) ?_
                            simp only [hn2,grQ2]
                            refine wk_l [1,2,3] (by simp) ?_ ?_ <;> simp [-map_map,upd,inj1,Γ0,encX,encC,subO_onE,blksOk]
                      · have q2:¬ (j:Int)<x.b.length:=by omega
                        rw [List.take_of_length_le (by omega)] at hinv
                        rcases hn2:l2.length with _ | k
                        · simp only [grQ2]
                          simp (maxSteps:=1000000) [-map_map,-mapM_map,↓KW,encX,encC,q2,hw,scrubO_onE]
                          refine nxt_intro (τ:=Nat × List (Int × Int)) (i+1,l2) ⟨hgo,by simp only; omega,by rw [htk,hinv]⟩ (Nat.sub_lt_sub_left hgo (Nat.lt_succ_self _)) ?_
                          simp only [hn2,grQ1]
                          refine wk_l [1] (by simp) ?_ ?_ <;> simp [-map_map,upd,inj1,Γ0,encX,subO_onE,blksOk]
                        · simp only [grQ2]
                          simp (maxSteps:=1000000) [-map_map,-mapM_map,↓KW,encX,encC,q2,hw,scrubO_onE]
                          refine nxt_intro (τ:=Nat × List (Int × Int)) (i+1,l2) ⟨hgo,by simp only; omega,by rw [htk,hinv]⟩ (Nat.sub_lt_sub_left hgo (Nat.lt_succ_self _)) ?_
                          simp only [hn2,grQ1]
                          refine wk_l [1,3] (by simp) ?_ ?_ <;> simp [-map_map,upd,inj1,Γ0,encX,subO_onE,blksOk]
                · simp only [hn,grQ1]
                  by_cases h0:0<cntC x.id c
                  · have h0':(0:Int)<((cntC x.id c:Nat):Int):=by omega
                    have hfc:frCell c x=[]:=by unfold frCell; rw [if_pos h0]
                    rw [hfc,List.append_nil] at htk
                    simp (maxSteps:=1000000) [-map_map,-mapM_map,↓KW,encX,q1,hx,hyc,hlu,h0,h0',hw,one_encC,cellsA_encC,inj1_encC,scrubO_onE]
                    refine nxt_intro (τ:=Nat × List (Int × Int)) (i+1,l) ⟨hgo,by simp only; omega,htk⟩ (Nat.sub_lt_sub_left hgo (Nat.lt_succ_self _)) ?_
                    simp only [hn,grQ1]
                    refine wk_l [1,2] (by simp) ?_ ?_ <;> simp [-map_map,upd,inj1,Γ0,encX,subO_onE,blksOk]
                  · have h0':¬ (0:Int)<((cntC x.id c:Nat):Int):=by omega
                    have hfc:frCell c x=(x.b.filter (frOk c)).map fun f=>(x.id,f.1):=by unfold frCell; rw [if_neg h0]
                    rw [hfc] at htk
                    simp (maxSteps:=1000000) [-map_map,-mapM_map,↓KW,encX,encC,q1,hx,hyc,hlu,h0,h0',hw,one_encC,cellsA_encC,inj1_encC,scrubO_onE]
                    refine loopP_inv (fun y:Nat × List (Int × Int)=>y.1≤x.b.length∧y.2.length≤100 * i+y.1∧l++((x.b.take y.1).filter (frOk c)).map (fun f=>(x.id,f.1))=y.2) (fun y=>grQ2 11 [(0,.d (encX c)),(3,.d (usD m)),(8,.mp 1),(13,.ptr 2 0),(49,.d (encX c)),(50,.d (.i .i64 c.length)),(51,.d (.i .i64 (i:Int))),(61,.d (encC x.b)),(62,.d (.i .i64 x.b.length)),(63,.d (.i .i64 (y.1:Int)))] (.map .i64 (onE once)) (.cells 47 [.d (.i .i64 x.id),.d (.i .i64 x.dim),.d (encC x.b)]) 59 2 y.2.length (flt encPr y.2)) (fun y=>x.b.length - y.1) (0,l) ⟨Nat.zero_le _,by simp only; omega,by simp⟩ ?_ ?_
                    · simp only [hn,grQ2]
                      refine wk_l [1,3,2] (by simp) ?_ ?_ <;> simp [-map_map,upd,inj1,Γ0,encX,encC,subO_onE,blksOk]
                    · rintro ⟨j,l2⟩ ⟨hj,hl2,hinv⟩
                      simp only at hj hl2 hinv ⊢
                      by_cases hgo2:j<x.b.length
                      · have q2:(j:Int)<x.b.length:=by omega
                        have hf:x.b[j]? = some x.b[j]:=List.getElem?_eq_getElem hgo2
                        have hw2:IntKind.i64.wrap ((j:Int)+1)=(j:Int)+1:=wrap_i64 (by omega) (by omega)
                        have hfb:=hxb _ (List.getElem_mem hgo2)
                        have htk2:=frIn_take (c:=c) x.id hgo2
                        refine (show ∃ f,x.b[j]=f from ⟨_,rfl⟩).elim fun f hfe=>?_
                        rw [hfe] at hf htk2 hfb
                        have hinv2:l++((x.b.take (j+1)).filter (frOk c)).map (fun f=>(x.id,f.1))=l2++if frOk c f then [(x.id,f.1)] else []:=by rw [htk2,← List.append_assoc,hinv]
                        have hef:encF f=[.i .i64 f.1,.b (decide (f.2<0)),encM (digs f.2.natAbs)]:=rfl
                        obtain ⟨n,z⟩:=f
                        simp only at hfb hef hinv2
                        have hzS:Sz z:=szE hfb (by omega)
                        have hon:(alk once n).getD false=decide (cntC n c=1):=by
                          rw [Bool.eq_iff_iff,hfin,hcnt,decide_eq_true_eq]; simp only; omega
                        have hlo:∀ H:Nat→Option HO,H 1=some (.map .i64 (onE once))→lookA Tryz.prog H 102 (.mp 1) (.d (.i .i64 n)) false=some (.d (.b (decide (cntC n c=1)))):=fun H h=>by rw [lookO H 1 once n h,hon]
                        have hm1:(1:Nat)≤maxLen:=le_maxLen (by decide)
                        rcases hn2:l2.length with _ | k
                        · by_cases h1:cntC n c=1
                          · have hA:=intAbsZ z hzS
                            have hO:=intOf1
                            obtain ⟨r,hC,hr⟩:=intCmpZ (z.natAbs:Int) 1 (by unfold Sz at hzS ⊢; rw [Int.natAbs_natCast]; exact hzS) sz1
                            rw [decide_eq_true h1] at hlo
                            simp only [grQ2]
                            simp (maxSteps:=1000000) [-map_map,-mapM_map,↓KW,encX,encC,encF_eq,q2,hf,hlo,one_encM,cellsA_encM,inj1_encM]
                            refine callP_intro (ds:=[encZ z]) (by rfl) hA ?_
                            simp (maxSteps:=1000000) [-map_map,-mapM_map,↓KW,encX,encC,encF_eq,encZ_eq,one_encM,cellsA_encM,inj1_encM,scrubO_onE]
                            refine callP_intro (ds:=[.i .i64 1]) (by rfl) hO ?_
                            simp (maxSteps:=1000000) [-map_map,-mapM_map,↓KW,encX,encC,encF_eq,encZ_eq,one_encM,cellsA_encM,inj1_encM,scrubO_onE]
                            refine callP_intro (ds:=[encZ (z.natAbs:Int),encZ 1]) (by rfl) hC ?_
                            by_cases hz1:z.natAbs=1
                            · have hr0:r=0:=hr.2 (by omega)
                              have hok:frOk c (n,z)=true:=by unfold frOk; simp [h1,hz1]
                              rw [hok,if_pos rfl] at hinv2
                              rw [hr0]
                              have e0:l2=[]:=List.eq_nil_of_length_eq_zero hn2
                              simp (maxSteps:=1000000) [-map_map,-mapM_map,↓KW,hr0,hw2,hm1,scrubO_onE]
                              refine nxt_intro (τ:=Nat × List (Int × Int)) (j+1,l2++[(x.id,n)]) ⟨hgo2,by simp only [List.length_append,List.length_singleton]; omega,hinv2⟩ (Nat.sub_lt_sub_left hgo2 (Nat.lt_succ_self _)) ?_
                              simp only [List.length_append,hn2,List.length_singleton,grQ2]
                              refine wk_l [1,2,5] (by simp) ?_ ?_ <;> simp [-map_map,upd,inj1,Γ0,encX,encC,subO_onE,e0,flt_one,encPr_eq]
                            · have hr0:((r == 0):Bool)=false:=by simp; exact fun h=>hz1 (by have:=hr.1 h; omega)
                              have hok:frOk c (n,z)=false:=by unfold frOk; simp [hz1]
                              rw [hok] at hinv2
                              simp only [Bool.false_eq_true,if_false,List.append_nil] at hinv2
                              simp (maxSteps:=1000000) [-map_map,-mapM_map,↓KW,hr0,hw2,scrubO_onE]
                              refine nxt_intro (τ:=Nat × List (Int × Int)) (j+1,l2) ⟨hgo2,by simp only; omega,hinv2⟩ (Nat.sub_lt_sub_left hgo2 (Nat.lt_succ_self _)) ?_
                              simp only [hn2,grQ2]
                              refine wk_l [1,2] (by simp) ?_ ?_ <;> simp [-map_map,upd,inj1,Γ0,encX,encC,subO_onE,blksOk]
                          · rw [decide_eq_false h1] at hlo
                            have hok:frOk c (n,z)=false:=by unfold frOk; simp [h1]
                            rw [hok] at hinv2
                            simp only [Bool.false_eq_true,if_false,List.append_nil] at hinv2
                            simp only [grQ2]
                            simp (maxSteps:=1000000) [-map_map,-mapM_map,↓KW,encX,encC,encF_eq,q2,hf,hlo,hw2,one_encM,cellsA_encM,inj1_encM,scrubO_onE]
                            refine nxt_intro (τ:=Nat × List (Int × Int)) (j+1,l2) ⟨hgo2,by simp only; omega,hinv2⟩ (Nat.sub_lt_sub_left hgo2 (Nat.lt_succ_self _)) ?_
                            simp only [hn2,grQ2]
                            refine wk_l [1,2] (by simp) ?_ ?_ <;> simp [-map_map,upd,inj1,Γ0,encX,encC,subO_onE,blksOk]
                        · by_cases h1:cntC n c=1
                          · have hA:=intAbsZ z hzS
                            have hO:=intOf1
                            obtain ⟨r,hC,hr⟩:=intCmpZ (z.natAbs:Int) 1 (by unfold Sz at hzS ⊢; rw [Int.natAbs_natCast]; exact hzS) sz1
                            rw [decide_eq_true h1] at hlo
                            simp only [grQ2]
                            simp (maxSteps:=1000000) [-map_map,-mapM_map,↓KW,encX,encC,encF_eq,q2,hf,hlo,one_encM,cellsA_encM,inj1_encM]
                            refine callP_intro (ds:=[encZ z]) (by rfl) hA ?_
                            simp (maxSteps:=1000000) [-map_map,-mapM_map,↓KW,encX,encC,encF_eq,encZ_eq,one_encM,cellsA_encM,inj1_encM,scrubO_onE]
                            refine callP_intro (ds:=[.i .i64 1]) (by rfl) hO ?_
                            simp (maxSteps:=1000000) [-map_map,-mapM_map,↓KW,encX,encC,encF_eq,encZ_eq,one_encM,cellsA_encM,inj1_encM,scrubO_onE]
                            refine callP_intro (ds:=[encZ (z.natAbs:Int),encZ 1]) (by rfl) hC ?_
                            by_cases hz1:z.natAbs=1
                            · have hr0:r=0:=hr.2 (by omega)
                              have hok:frOk c (n,z)=true:=by unfold frOk; simp [h1,hz1]
                              rw [hok,if_pos rfl] at hinv2
                              rw [hr0]
                              have hbb:=app_bounds (n:=k+1) (by omega)
                              have hcl:=flt_len encPr_len l2
                              rw [hn2] at hcl
                              have hal:=flt_all encPr_one l2
                              have hb8:(k+1+1) * 16≤140737488355328:=by omega
                              simp (maxSteps:=1000000) [-map_map,-mapM_map,↓KW,hr0,hw2,hm1,hbb,hb8,hcl,hal,le_maxLen,scrubO_onE]
                              refine nxt_intro (τ:=Nat × List (Int × Int)) (j+1,l2++[(x.id,n)]) ⟨hgo2,by simp only [List.length_append,List.length_singleton]; omega,hinv2⟩ (Nat.sub_lt_sub_left hgo2 (Nat.lt_succ_self _)) ?_
                              simp only [List.length_append,hn2,List.length_singleton,grQ2]
                              refine wk_l [1,2,6] (by simp) ?_ ?_ <;> simp [-map_map,upd,inj1,Γ0,encX,encC,scrubO_onE,subO_onE,flt_app,flt_one,encPr_eq]
                            · have hr0:((r == 0):Bool)=false:=by simp; exact fun h=>hz1 (by have:=hr.1 h; omega)
                              have hok:frOk c (n,z)=false:=by unfold frOk; simp [hz1]
                              rw [hok] at hinv2
                              simp only [Bool.false_eq_true,if_false,List.append_nil] at hinv2
                              simp (maxSteps:=1000000) [-map_map,-mapM_map,↓KW,hr0,hw2,scrubO_onE]
                              refine nxt_intro (τ:=Nat × List (Int × Int)) (j+1,l2) ⟨hgo2,by simp only; omega,hinv2⟩ (Nat.sub_lt_sub_left hgo2 (Nat.lt_succ_self _)) ?_
                              simp only [hn2,grQ2]
                              refine wk_l [1,2,3] (by simp) ?_ ?_ <;> simp [-map_map,upd,inj1,Γ0,encX,encC,subO_onE,blksOk]
                          · rw [decide_eq_false h1] at hlo
                            have hok:frOk c (n,z)=false:=by unfold frOk; simp [h1]
                            rw [hok] at hinv2
                            simp only [Bool.false_eq_true,if_false,List.append_nil] at hinv2
                            simp only [grQ2]
                            simp (maxSteps:=1000000) [-map_map,-mapM_map,↓KW,encX,encC,encF_eq,q2,hf,hlo,hw2,one_encM,cellsA_encM,inj1_encM,scrubO_onE]
                            refine nxt_intro (τ:=Nat × List (Int × Int)) (j+1,l2) ⟨hgo2,by simp only; omega,hinv2⟩ (Nat.sub_lt_sub_left hgo2 (Nat.lt_succ_self _)) ?_
                            simp only [hn2,grQ2]
                            refine wk_l [1,2,3] (by simp) ?_ ?_ <;> simp [-map_map,upd,inj1,Γ0,encX,encC,subO_onE,blksOk]
                      · have q2:¬ (j:Int)<x.b.length:=by omega
                        rw [List.take_of_length_le (by omega)] at hinv
                        rcases hn2:l2.length with _ | k
                        · simp only [grQ2]
                          simp (maxSteps:=1000000) [-map_map,-mapM_map,↓KW,encX,encC,q2,hw,scrubO_onE]
                          refine nxt_intro (τ:=Nat × List (Int × Int)) (i+1,l2) ⟨hgo,by simp only; omega,by rw [htk,hinv]⟩ (Nat.sub_lt_sub_left hgo (Nat.lt_succ_self _)) ?_
                          simp only [hn2,grQ1]
                          refine wk_l [1] (by simp) ?_ ?_ <;> simp [-map_map,upd,inj1,Γ0,encX,subO_onE,blksOk]
                        · simp only [grQ2]
                          simp (maxSteps:=1000000) [-map_map,-mapM_map,↓KW,encX,encC,q2,hw,scrubO_onE]
                          refine nxt_intro (τ:=Nat × List (Int × Int)) (i+1,l2) ⟨hgo,by simp only; omega,by rw [htk,hinv]⟩ (Nat.sub_lt_sub_left hgo (Nat.lt_succ_self _)) ?_
                          simp only [hn2,grQ1]
                          refine wk_l [1,3] (by simp) ?_ ?_ <;> simp [-map_map,upd,inj1,Γ0,encX,subO_onE,blksOk]
              · have q1:¬ (i:Int)<c.length:=by omega
                rw [List.take_of_length_le (by omega)] at hl
                have hl':freeX c=l:=hl
                rcases hn:l.length with _ | k
                · have e0:l=[]:=List.eq_nil_of_length_eq_zero hn
                  simp only [grQ1]
                  simp (maxSteps:=1000000) [-map_map,-mapM_map,↓KW,encX,encPrs,q1,hl',e0]
                · have e1:=flt_take encPr_len hn
                  have e2:=flt_chunk (by decide) encPr_len hn
                  have e3:=flt_len encPr_len l
                  rw [hn] at e3
                  simp only [grQ1]
                  simp (maxSteps:=1000000) [-map_map,-mapM_map,↓KW,encX,encPrs,q1,hl',e1,e2,e3,hn]
          · have hlt:=(List.getElem?_eq_some_iff.1 he).1
            obtain ⟨n',v,hnv,hnm⟩:∃ n' v,((n,w):Int × D)=(n',iD v)∧(n',v)∈m:=by
              obtain ⟨done,h1,_⟩:=hok
              exact usI_mem (h1.mem_iff.1 (List.mem_append_right _ (List.mem_of_getElem? he)))
            injection hnv with e1 e2
            subst e1; subst e2
            have hst:=hok.step he
            have hel:(rest.eraseIdx j).length<rest.length:=by rw [List.length_eraseIdx,if_pos hlt]; omega
            refine (show ∃ r',rest.eraseIdx j=r' from ⟨_,rfl⟩).elim fun r' hre=>?_
            rw [hre] at hst hel ⊢
            by_cases hv:v=1
            · have hv':((v == 1):Bool)=true:=by simpa using hv
              rw [if_pos hv] at hst
              have q3:(((1:Int) == (1:Int)):Bool)=true:=rfl
              simp (maxSteps:=1000000) [-map_map,-mapM_map,↓KW,encX,↓o1_entry,entA_ptr,inj1_iD,hv',hv,q3,mapW_mp,mput_onE,scrubO_onE,scrubO_iter]
              refine nxt_intro (τ:=Option (Int × D) × List (Int × D) × List (Int × Bool)) (some (n,iD v),r',apt once n true) hst hel (wk_l [1,2] (by simp) ?_ ?_) <;> simp [-map_map,upd,inj1,Γ0,encX,subO_onE,subO_iter,hv]
            · have hv':((v == 1):Bool)=false:=by simpa using hv
              rw [if_neg hv] at hst
              simp (maxSteps:=1000000) [-map_map,-mapM_map,↓KW,encX,↓o1_entry,entA_ptr,inj1_iD,hv',hv,mapW_mp,mput_onE,scrubO_onE,scrubO_iter]
              refine nxt_intro (τ:=Option (Int × D) × List (Int × D) × List (Int × Bool)) (some (n,iD v),r',once) hst hel (wk_l [1,2] (by simp) ?_ ?_) <;> simp [-map_map,upd,inj1,Γ0,encX,subO_onE,subO_iter]
end Go.Am
end

section
set_option linter.unusedVariables false
set_option linter.unusedSimpArgs false
open List (map_map mapM_map)
open Go Go.Am Go.Proofs
namespace Go.Am
theorem binA_ag (x y:List AV):binA .eql false (.ag x) (.ag y)=none:=rfl
theorem tai59:tai Tryz.prog 59=some .i64:=by kernel_rfl
theorem arr59 (a b c d:Int):arrA .eql (tai Tryz.prog 59) (.ag [.d (.i .i64 a),.d (.i .i64 b)]) (.ag [.d (.i .i64 c),.d (.i .i64 d)])=some (.b (a == c && b == d)):=by rw [tai59]; rfl
def ixP (l:List (Int × Int)) (p:Int × Int):Int:=if p∈l then (l.findIdx (fun q=>q == p):Nat) else -1
set_option maxHeartbeats 2000000 in
set_option maxRecDepth 10000 in
theorem idxPr (l:List (Int × Int)) (a b:Int) (hl:l.length≤1000000):Spec Tryz.prog 114 [encPrs l,.ag [.i .i64 a,.i .i64 b]] (.i .i64 (ixP l (a,b))):=by
  refine spec_of (N:=19) follows_mixed Tryz.func114 rfl rfl rfl (by kernel_rfl) (by kernel_rfl) (by simp) ?_
  simp (maxSteps:=1000000) [-map_map,-mapM_map,↓KW,encPrs]
  refine loopP_inv (fun i:Nat=>i≤l.length∧∀ j p,j<i→l[j]? = some p→p≠(a,b)) (fun i=>StL [(0,.d (encPrs l)),(3,.ptr 1 0),(7,.d (.i .i64 l.length)),(8,.d (.i .i64 (i:Int)))] none [.cells 59 [.d (.i .i64 a),.d (.i .i64 b)]]) (fun i=>l.length - i) 0 ⟨Nat.zero_le _,fun j p h=>by omega⟩ ?_ ?_
  · refine wk_l [1] (by simp) ?_ ?_ <;> simp [-map_map,upd,inj1,Γ0,encPrs]
  · rintro i ⟨hi,hn⟩
    by_cases hgo:i<l.length
    · have q1:(i:Int)<l.length:=by omega
      have hx:l[i]? = some l[i]:=List.getElem?_eq_getElem hgo
      have hw:IntKind.i64.wrap ((i:Int)+1)=(i:Int)+1:=wrap_i64 (by omega) (by omega)
      have hw0:IntKind.i64.wrap (i:Int)=(i:Int):=wrap_i64 (by omega) (by omega)
      refine (show ∃ x,l[i]=x from ⟨_,rfl⟩).elim fun x hxe=>?_
      rw [hxe] at hx
      have hy:encPr x=[.i .i64 x.1,.i .i64 x.2]:=rfl
      by_cases he:x=(a,b)
      · subst he
        have hb:((a == a && b == b):Bool)=true:=by simp
        have hix:ixP l (a,b)=i:=by
          unfold ixP
          rw [if_pos (List.mem_of_getElem? hx)]
          congr 1
          rw [List.findIdx_eq hgo]
          refine ⟨by rw [hxe]; simp,fun j hj=>?_⟩
          have:=hn j l[j] hj (List.getElem?_eq_getElem (by omega))
          simpa using this
        simp (maxSteps:=1000000) [-map_map,-mapM_map,↓KW,encPrs,q1,hx,hy,hw,binA_ag,arr59,hb,hix]
      · have hb:((a == x.1 && b == x.2):Bool)=false:=by
          cases h:((a == x.1 && b == x.2):Bool)
          · rfl
          · simp only [Bool.and_eq_true,beq_iff_eq] at h
            exact (he (Prod.ext h.1.symm h.2.symm)).elim
        simp (maxSteps:=1000000) [-map_map,-mapM_map,↓KW,encPrs,q1,hx,hy,hw,binA_ag,arr59,hb]
        refine nxt_intro (i+1) ⟨hgo,fun j p hj hp=>?_⟩ (Nat.sub_lt_sub_left hgo (Nat.lt_succ_self _)) (wk_l [1] (by simp) ?_ ?_)
        · rcases Nat.lt_or_ge j i with h | h
          · exact hn j p h hp
          · obtain rfl:j=i:=by omega
            rw [hx] at hp; injection hp with hp; rw [← hp]; exact he
        · simp [-map_map,upd,inj1,Γ0,encPrs]
        · simp [-map_map,upd,inj1,Γ0,encPrs]
    · have q1:¬ (i:Int)<l.length:=by omega
      have hnm:(a,b) ∉ l:=fun h=>by
        obtain ⟨j,hj⟩:=List.getElem?_of_mem h
        exact hn j _ (by have:=(List.getElem?_eq_some_iff.1 hj).1; omega) hj rfl
      simp (maxSteps:=1000000) [-map_map,-mapM_map,↓KW,encPrs,q1,ixP,hnm]
set_option maxHeartbeats 2000000 in
theorem ctPr (l:List (Int × Int)) (a b:Int) (hl:l.length≤1000000):Spec Tryz.prog 80 [encPrs l,.ag [.i .i64 a,.i .i64 b]] (.b (decide ((a,b)∈l))):=by
  refine spec_of (N:=9) follows_mixed Tryz.func80 rfl rfl rfl (by kernel_rfl) (by kernel_rfl) (by simp) ?_
  have hI:=idxPr l a b hl
  have hge:decide ((0:Int)≤ixP l (a,b))=decide ((a,b)∈l):=by
    unfold ixP
    by_cases h:(a,b)∈l
    · rw [if_pos h]; simp [h]
    · rw [if_neg h]; simp [h]
  simp (maxSteps:=1000000) [-map_map,-mapM_map,↓KW,encPrs]
  refine callP_intro (ds:=[encPrs l,.ag [.i .i64 a,.i .i64 b]]) (by rfl) hI ?_
  simp (maxSteps:=1000000) [-map_map,-mapM_map,↓KW,encPrs,hge]
end Go.Am
end

section
set_option linter.unusedVariables false
set_option linter.unusedSimpArgs false
namespace Go.Am
open RowKit (Below)
inductive Tr where
  | leaf
  | one (i:Nat) (t:Tr)
  | two (i:Nat) (t:Tr) (j:Nat) (u:Tr)
def noNew (P:Program) (o:Oper):Bool:=match o.op with
  | .move _=>true
  | .assign _=>true
  | .insert ..=>true
  | .call { callee:=.value (.func f),.. }=>!mutF P f && !newF P f
  | _=>false
def opL (ops:Array Oper) (i:Nat):List Oper:=(ops.toList.drop i).take 1
def opsL (ops:Array Oper) (is:List Nat):List Oper:=is.flatMap (opL ops)
theorem opL_get {ops:Array Oper} {i:Nat} {o:Oper} (h:ops[i]? = some o):opL ops i=[o]:=by
  unfold opL
  have h':ops.toList[i]? = some o:=by simpa using h
  obtain ⟨hl,he⟩:=List.getElem?_eq_some_iff.1 h'
  rw [List.drop_eq_getElem_cons hl,he]; rfl
def preOk (P:Program) (ops:Array Oper):List Nat→Array Bool→Option (Array Bool)
  | [],l=>some l
  | i::is,l=>if (Region.ready .any ops l).contains i && free2 P ops l i then preOk P ops is (l.setIfInBounds i true) else none
def nnAt (P:Program) (ops:Array Oper) (i:Nat):Bool:=match ops[i]? with
  | some o=>noNew P o
  | none=>false
def chkT (P:Program) (ops:Array Oper):Nat→Array Bool→Tr→Bool
  | 0,l,.leaf=>(Region.ready .any ops l).isEmpty
  | n+1,l,.one i t=>(Region.ready .any ops l == [i]) && nnAt P ops i && chkT P ops n (l.setIfInBounds i true) t
  | n+1,l,.two i t j u=>(Region.ready .any ops l == [i,j]) && nnAt P ops i && nnAt P ops j && chkT P ops n (l.setIfInBounds i true) t && chkT P ops n (l.setIfInBounds j true) u
  | _,_,_=>false
def OWT (P:Program) (ops:Array Oper):Tr→St→List Nat→(St→List Nat→Prop)→Prop
  | .leaf,σ,con,k=>k σ con
  | .one i t,σ,con,k=>OW P ops (opL ops i) σ con fun σ' con'=>OWT P ops t σ' con' k
  | .two i t j u,σ,con,k=>(OW P ops (opL ops i) σ con fun σ' con'=>OWT P ops t σ' con' k)∧(OW P ops (opL ops j) σ con fun σ' con'=>OWT P ops u σ' con' k)
def treeOk (P:Program) (ops:Array Oper) (pre:List Nat) (t:Tr):Bool:=match preOk P ops pre (Array.replicate ops.size false) with
  | some l=>noNext (opsL ops pre) && decide (pre.length≤ops.size) && chkT P ops (ops.size - pre.length) l t
  | none=>false
section
variable {P:Program} {G:Ctx} {ops:Array Oper}
theorem aAny_pre {Q:AS→Prop} {n:Nat} {l1:Array Bool}:∀ (is:List Nat) (listed:Array Bool) (s:AS),Dc ops listed→preOk P ops is listed=some l1→aLex P G ops (fun s'=>Dc ops l1→aAny P G ops Q n l1 s') (opsL ops is) s→aAny P G ops Q (is.length+n) listed s
  | [],listed,s,hdc,hp,h=>by
    simp only [preOk,Option.some.injEq] at hp; subst hp
    simpa using h hdc
  | i::is,listed,s,hdc,hp,h=>by
    simp only [preOk] at hp
    split at hp
    case isFalse=>cases hp
    rename_i hc
    simp only [Bool.and_eq_true] at hc
    have hr:i∈Region.ready .any ops listed:=by simpa using hc.1
    obtain ⟨_,o,ho,_⟩:=mem_ready.1 hr
    have e:opsL ops (i::is)=o::opsL ops is:=by
      show opL ops i++opsL ops is=_
      rw [opL_get ho]; rfl
    rw [e] at h
    obtain ⟨s',hd,h⟩:=h
    rw [List.length_cons,Nat.add_right_comm]
    exact aAny_first ho (is.length+n) listed s s' hdc (free2_spec ho hc.2) hr hd (aAny_pre is _ _ (Dc_set hdc hr) hp h)
theorem one0 {k:St→List Nat→Prop} {o:Oper} {σ:St} {con:List Nat} (hnn:noNew P o=true) (hn0:σ.n=0→∀ b,G.P0 b) (hwf:Wf σ con) (h:OW P ops [o] σ con k) :
    ∀ s,Agree σ con s→∃ s',Does P G ops o s s'∧∃ σ' con',k σ' con'∧(σ'.n=0→∀ b,G.P0 b)∧Wf σ' con'∧Agree σ' con' s':=by
  unfold OW at h
  have pure0:∀ (av:AV) (con':List Nat) (H':Nat→Option HO),H'=kill con' σ.H→(∀ id∈con',(σ.H id).isSome=true)→k ⟨putA σ.Γ o.dst av,H',σ.n⟩ (con'++con) →
      (∀ s,Agree σ con s→Ev P G o s.Γ s.T s.K s.K av none' (fun i=>i∈con'))→wantedA ops o σ.Γ=some true →
      ∀ s,Agree σ con s→∃ s',Does P G ops o s s'∧∃ σ' con',k σ' con'∧(σ'.n=0→∀ b,G.P0 b)∧Wf σ' con'∧Agree σ' con' s':=by
    intro av con' H' hH' hc' hk hev hw s hs
    subst hH'
    have hwf':Wf ⟨putA σ.Γ o.dst av,kill con' σ.H,σ.n⟩ (con'++con):=by
      refine ⟨fun id hid=>?_,fun id hid=>?_⟩
      · cases hx:kill con' σ.H id with
        | none=>exact hx
        | some o'=>have:=(kill_some hx).1; rw [hwf.top id hid] at this; cases this
      · rcases List.mem_append.1 hid with hid | hid
        · refine ⟨?_,kill_mem hid⟩
          have:=hc' id hid
          rcases Nat.lt_or_ge id σ.n with h | h
          · exact h
          · rw [hwf.top id h] at this; cases this
        · obtain ⟨h1,h2⟩:=hwf.con id hid
          refine ⟨h1,?_⟩
          cases hx:kill con' σ.H id with
          | none=>exact hx
          | some o'=>have:=(kill_some hx).1; rw [h2] at this; cases this
    refine ⟨_,.yes av none' (fun i=>i∈con') s.K (by rw [hs.Γ]; exact hw) (hev s hs) (fun _ h=>h.elim) (fun _ h=>h.elim) (fun h=>h.elim),_,_,hk,hn0,hwf',?_⟩
    refine ⟨by rw [hs.Γ],fun id=>by simp [hs.T,or_comm],fun id o' h=>hs.K id o' (kill_some h).1,fun id=>?_⟩
    simp only [hs.U,none',or_false,List.mem_append]
    by_cases hid:id∈con'
    · simp [hid,hc' id hid,kill_mem hid]
    · rw [kill_not hid]; simp [hid]
  have write1:∀ (av:AV) (id:Nat) (ho old:HO) (ts:Nat),Operand.tmp ts∈o.op.operands→hasId id (σ.Γ ts)=true→σ.H id=some old→kind P o.op=2→k ⟨putA σ.Γ o.dst av,upd σ.H id (some ho),σ.n⟩ con →
      (∀ (T2:Nat→Prop) (K2:Nat→Option HO),K2 id=some old→¬ T2 id→Y P G o σ.Γ T2 K2 (wupd K2 T2 id ho) av none' none')→wantedA ops o σ.Γ=some true →
      ∀ s,Agree σ con s→∃ s',Does P G ops o s s'∧∃ σ' con',k σ' con'∧(σ'.n=0→∀ b,G.P0 b)∧Wf σ' con'∧Agree σ' con' s':=by
    intro av id ho old ts hts hΓ hold hkd h hY hw s hs
    have hwf':Wf ⟨putA σ.Γ o.dst av,upd σ.H id (some ho),σ.n⟩ con:=by
      refine ⟨fun i hi=>?_,fun i hi=>?_⟩
      · simp only at hi ⊢
        rw [upd_ne _ _ (fun e=>by rw [e] at hi; rw [hwf.top id hi] at hold; cases hold)]; exact hwf.top i hi
      · obtain ⟨h1,h2⟩:=hwf.con i hi
        refine ⟨h1,?_⟩
        simp only
        rw [upd_ne _ _ (fun e=>by rw [e] at h2; rw [h2] at hold; cases hold)]; exact h2
    have hidn:id<σ.n:=by
      rcases Nat.lt_or_ge id σ.n with h | h
      · exact h
      · rw [hwf.top id h] at hold; cases hold
    have hnT:¬ s.T id:=fun h=>by have:=(hwf.con id ((hs.T id).1 h)).2; rw [this] at hold; cases hold
    refine ⟨_,.yes av none' none' (wupd s.K s.T id ho) (by rw [hs.Γ]; exact hw) (.inr (.inr (.inl ⟨hkd,rfl,rfl,id,ts,old,ho,hts,by rw [hs.Γ]; exact hΓ,hs.K _ _ hold,hnT,rfl,fun T2 K2 hK2 hT2=>by rw [hs.Γ]; exact hY T2 K2 hK2 hT2⟩))) (fun _ h=>h.elim) (fun _ h=>h.elim) (fun h=>h.elim),_,_,h,hn0,hwf',?_⟩
    refine ⟨by rw [hs.Γ],fun i=>by simp [hs.T,none'],fun i o' h=>?_,fun i=>?_⟩
    · simp only at h ⊢
      by_cases hid:i=id
      · subst hid; rw [upd_same] at h; unfold wupd; rw [if_pos rfl]; exact h
      · rw [upd_ne _ _ hid] at h
        rw [wupd_keep hid (fun ht=>by have:=(hwf.con i ((hs.T i).1 ht)).2; rw [this] at h; cases h)]
        exact hs.K i o' h
    · simp only [hs.U,none',or_false]
      by_cases hid:i=id
      · subst hid; simp [upd_same,hold]
      · rw [upd_ne _ _ hid]
  have wsub:∀ {T2:Nat→Prop} {K2:Nat→Option HO} {id:Nat} {ho:HO} (j:Nat) (o':HO),j≠id→wupd K2 T2 id ho j=some o'→K2 j=some o'∧¬ T2 j:=by
    intro T2 K2 id ho j o' hj h
    unfold wupd at h
    rw [if_neg hj] at h
    split at h
    · cases h
    · exact ⟨h,by assumption⟩
  have one1:∀ {K2:Nat→Option HO} {id:Nat} {old:HO},σ.H id=some old→K2 id=some old→∀ i ob,(if i=id then σ.H id else none)=some ob→K2 i=some ob:=by
    intro K2 id old hold hK2 i ob h
    split at h
    · rename_i e; subst e; rw [hold] at h; rw [hK2]; exact h
    · cases h
  have val0:∀ (av:AV),kind P o.op=0→nev P o.op σ.Γ σ.n=some (av,none)→k ⟨putA σ.Γ o.dst av,σ.H,σ.n⟩ con→wantedA ops o σ.Γ=some true →
      ∀ s,Agree σ con s→∃ s',Does P G ops o s s'∧∃ σ' con',k σ' con'∧(σ'.n=0→∀ b,G.P0 b)∧Wf σ' con'∧Agree σ' con' s':=by
    intro av hk hnev h hw
    have e0:(fun i=>i∈([]:List Nat))=none':=funext fun i=>by simp [none']
    refine pure0 av [] σ.H rfl (fun _ h=>by cases h) h (fun s hs=>?_) hw
    rw [e0]
    exact .inl ⟨hk,rfl,rfl,fun T2 K2 _=>nev_pure (n:=σ.n) (by rw [hs.Γ]; exact hnev)⟩
  split at h
  case h_3=>exact h.elim
  case h_2 hw =>
    have hwf':Wf ⟨putA σ.Γ o.dst .un,σ.H,σ.n⟩ con:=⟨hwf.top,hwf.con⟩
    exact fun s hs=>⟨_,.no (by rw [hs.Γ]; exact hw),_,_,h,hn0,hwf',⟨by rw [hs.Γ],hs.T,hs.K,hs.U⟩⟩
  case h_1 hw =>
  simp only [OW] at h
  unfold noNew at hnn
  split at hnn
  · -- move
    rename_i x hop
    unfold O1 at h
    simp only [hop] at h
    obtain ⟨hk,h⟩:=h
    split at h
    · rename_i av nb hnev
      have e:nb=none:=by
        simp only [nev] at hnev
        injection hnev with hnev; injection hnev with _ h2; exact h2.symm
      subst e
      exact val0 av (by rw [hop]; exact hk) (by rw [hop]; exact hnev) h hw
    · exact h.elim
  · -- assign
    rename_i x hop
    unfold O1 at h
    simp only [hop] at h
    obtain ⟨hk,h⟩:=h
    split at h
    · rename_i av nb hnev
      have e:nb=none:=by
        simp only [nev] at hnev
        injection hnev with hnev; injection hnev with _ h2; exact h2.symm
      subst e
      exact val0 av (by rw [hop]; exact hk) (by rw [hop]; exact hnev) h hw
    · exact h.elim
  · -- a new element of a map
    rename_i t m x v hop
    unfold O1 at h
    simp only [hop] at h
    split at h
    · rename_i id ho hst
      obtain ⟨old,hm,hold,_⟩:=mapW_id hst
      obtain ⟨ts,hts,hΓ⟩:=hd1_tmp (Γ:=σ.Γ) (x:=m) (id:=id) (h:=.mp 0) (by rw [hm]; rfl)
      refine write1 .any id ho old ts (by rw [hop]; simp [Op.operands,hts]) hΓ hold (by rw [hop]; rfl) h (fun T2 K2 hK2 hT2=>?_) hw
      refine y_mapw (H:=fun i=>if i=id then σ.H id else none) (v:=some v) (id:=id) (ho:=ho) (.inl ⟨v,rfl,.inr hop⟩) (one1 hold hK2) ?_ hT2 (by unfold wupd; rw [if_pos rfl]) wsub
      unfold mapW at hst ⊢
      rw [hm] at hst ⊢
      simp only [if_true] at hst ⊢
      exact hst
    · exact h.elim
  · -- call
    rename_i f args ts hop
    simp only [Bool.and_eq_true,Bool.not_eq_true'] at hnn
    obtain ⟨hmut,hnew⟩:=hnn
    unfold O1 at h
    simp only [hop] at h
    unfold OC at h
    rw [hmut] at h
    simp only [Bool.false_eq_true,if_false] at h
    have hkd:kind P o.op=1:=by rw [hop]; simp [kind,hmut]
    rcases h with ⟨h1,_⟩ | h
    · rw [hnew] at h1; cases h1
    split at h
    · rename_i g id hargs
      obtain ⟨x,hx,hxe⟩:∃ x,args.toList=[x]∧oev σ.Γ x=.kf g id:=by
        cases hl:args.toList with
        | nil=>rw [hl] at hargs; cases hargs
        | cons x l =>
          rw [hl] at hargs
          cases l with
          | nil=>simp only [List.map_cons,List.map_nil,List.cons.injEq,and_true] at hargs; exact ⟨x,rfl,hargs⟩
          | cons y l=>simp at hargs
      split at h
      · rename_i es hH
        obtain ⟨hn,hrr,hss,h⟩:=h
        refine pure0 _ [] σ.H rfl (fun _ h=>by cases h) h (fun s hs=>.inr (.inl ⟨hkd,rfl,(fun _ h=>by cases h),(fun _ _ _ _ _ _ _ _ h=>by cases h),fun T2 _=>?_⟩)) hw
        have:(fun i=>i∈([]:List Nat))=none':=funext fun i=>by simp [none']
        rw [this]
        exact y_sorted (Γ:=s.Γ) hop hx hs.K (by rw [hs.Γ]; exact hxe) hH hn hrr hss
      · exact h.elim
    · obtain ⟨ds,r,hfr,hsp,h⟩:=h
      refine pure0 (inj r) (killsOf σ.H (args.toList.map (oev σ.Γ)) r) _ rfl (fun id hid=>by obtain ⟨o',ho'⟩:=kills_some hid; rw [ho']; rfl) h (fun s hs=>.inr (.inl ⟨hkd,rfl,fun id hid ht=>?_,fun F w ι T2 a hR hops id hid=>?_,fun T2 hT2=>?_⟩)) hw
      · obtain ⟨o',ho'⟩:=kills_some hid
        have:=(hwf.con id ((hs.T id).1 ht)).2
        rw [this] at ho'; cases ho'
      · refine call_live (Γ:=σ.Γ) (a:=a) (r:=r) hR hs.K hfr (fun x hx=>V_oev fun t e=>?_) id hid
        rw [← hs.Γ]; exact hops t (by rw [hop]; subst e; simp [Op.operands,Call.operands]; simpa using hx)
      · have:=y_call (P:=P) (G:=G) (Γ:=s.Γ) (C:=T2) (K:=s.K) (H:=σ.H) (o:=o) (r:=r) hop hs.K (by rw [hs.Γ]; exact hfr) hsp (by rw [hs.Γ]; exact hT2)
        rw [hs.Γ] at this ⊢
        exact this
  · cases hnn
theorem aAny_tree {k:St→List Nat→Prop}:∀ (n:Nat) (listed:Array Bool) (t:Tr) (σ:St) (con:List Nat),chkT P ops n listed t=true→(σ.n=0→∀ b,G.P0 b)→Wf σ con→OWT P ops t σ con k →
    ∀ s,Agree σ con s→aAny P G ops (fun s'=>∃ σ' con',k σ' con'∧(σ'.n=0→∀ b,G.P0 b)∧Wf σ' con'∧Agree σ' con' s') n listed s
  | 0,listed,t,σ,con,hc,hn0,hwf,h,s,hs=>by
    cases t <;> simp only [chkT,Bool.false_eq_true] at hc
    exact ⟨by simpa using hc,σ,con,h,hn0,hwf,hs⟩
  | n+1,listed,t,σ,con,hc,hn0,hwf,h,s,hs=>by
    have step:∀ (i:Nat) (u:Tr),nnAt P ops i=true→chkT P ops n (listed.setIfInBounds i true) u=true→(OW P ops (opL ops i) σ con fun σ' con'=>OWT P ops u σ' con' k) →
        aOp P G ops i (aAny P G ops (fun s'=>∃ σ' con',k σ' con'∧(σ'.n=0→∀ b,G.P0 b)∧Wf σ' con'∧Agree σ' con' s') n (listed.setIfInBounds i true)) s:=by
      intro i u hn hcu hu
      unfold nnAt at hn
      split at hn
      case h_2=>cases hn
      rename_i o ho
      rw [opL_get ho] at hu
      obtain ⟨s',hd,σ',con',hk,hn',hwf',hs'⟩:=one0 hn hn0 hwf hu s hs
      unfold aOp
      simp only [ho]
      exact .inr ⟨s',hd,aAny_tree n _ u σ' con' hcu hn' hwf' hk s' hs'⟩
    cases t with
    | leaf=>simp only [chkT,Bool.false_eq_true] at hc
    | one i u =>
      simp only [chkT,Bool.and_eq_true,beq_iff_eq] at hc
      refine ⟨fun he=>(by rw [he] at hc; cases hc.1.1),fun j hj=>?_⟩
      rw [hc.1.1,List.mem_singleton] at hj
      subst hj
      exact step j u hc.1.2 hc.2 h
    | two i u j v =>
      simp only [chkT,Bool.and_eq_true,beq_iff_eq] at hc
      obtain ⟨⟨⟨⟨hr,hi⟩,hj⟩,hu⟩,hv⟩:=hc
      refine ⟨fun he=>(by rw [he] at hr; cases hr),fun m hm=>?_⟩
      rw [hr] at hm
      rcases List.mem_cons.1 hm with rfl | hm
      · exact step m u hi hu h.1
      · rw [List.mem_singleton] at hm
        subst hm
        exact step m v hj hv h.2
end
theorem aLex_mono {P:Program} {G:Ctx} {ops:Array Oper} {Q Q':AS→Prop} (h:∀ s,Q s→Q' s):∀ (l:List Oper) (s:AS),aLex P G ops Q l s→aLex P G ops Q' l s
  | [],s,hh=>h s hh
  | o::l,s,⟨s',hd,hh⟩=>⟨s',hd,aLex_mono h l s' hh⟩
theorem region_tree {P:Program} {WW:Code→(Exit→Act→World→Prop)→Act→World→Prop} (hW:WpR P false WW) {G:Ctx} {id N:Nat} {ds:List Deferred} {ops:Array Oper} {pre:List Nat} {t:Tr} {Q:St→Prop} {Q':Exit→Act→World→Prop} {σ:St} {a:Act} {w:World} (hm:P.follows .mixedOrders=true)
    (hdst:∀ (i:Nat) (o:Oper) (d:Tmp),ops[i]? = some o→o.dst=some d→d<N∧G.Z d=none) (hB:treeOk P ops pre t=true) (hsr:SR G N ds σ a w)
    (h:OW P ops (opsL ops pre) σ [] fun σ1 con1=>OWT P ops t σ1 con1 fun σ' con=>Q (fin σ' con)) (hQ:∀ σ a w,Q σ→SR G N ds σ a w→Q' .normal a w):WW (.region id ops true) Q' a w:=by
  unfold treeOk at hB
  split at hB
  case h_2=>cases hB
  rename_i l1 hl1
  simp only [Bool.and_eq_true,decide_eq_true_eq] at hB
  obtain ⟨⟨hnx,hlen⟩,hchk⟩:=hB
  obtain ⟨hn0,hwf,hag⟩:=SR_agree hsr
  obtain ⟨fb,hfb⟩:=OW_sound (G:=G) (opsL ops pre) σ [] hnx hn0 hwf h
  obtain ⟨h1,h2⟩:=hag (fun i=>if i<σ.n then σ.H i else fb i) (fun i o hi=>by
    rcases Nat.lt_or_ge i σ.n with hlt | hge
    · rw [if_pos hlt]; exact hi
    · rw [hwf.top i hge] at hi; cases hi)
  have h3:=hfb _ h1 (fun i hi=>by simp only; rw [if_neg (by omega)])
  have hQ2:∀ (s:AS) (a:Act) (w:World),(∃ σ' con',Q (fin σ' con')∧(σ'.n=0→∀ b,G.P0 b)∧Wf σ' con'∧Agree σ' con' s)→RelS G N ds s a w→Q' .normal a w:=by
    rintro s a w ⟨σ',con',hq,hn',hwf',hag'⟩ hr
    exact hQ _ a w hq (SR_fin hn' hwf' hag' hr)
  refine hW.regA hm (fun h=>by cases h) (wpA_of_aAny hdst hQ2 _ _ _ a _ h2.drew ?_)
  have h4:=aAny_pre (P:=P) (G:=G) (n:=ops.size - pre.length) (l1:=l1) pre (Array.replicate ops.size false) _ (fun m om hm=>by simp only [Array.getD_eq_getD_getElem?,Array.getElem?_replicate] at hm; split at hm <;> cases hm) hl1
    (aLex_mono (fun s' ⟨σ1,con1,hk,hn1,hwf1,hs1⟩ _=>aAny_tree _ _ _ σ1 con1 hchk hn1 hwf1 hk s' hs1) _ _ h3)
  rw [show pre.length+(ops.size - pre.length)=ops.size by omega] at h4
  exact h4
inductive Fl where
  | st
  | wk
  | tr (pre:List Nat) (t:Tr)
def AWPT (P:Program):List Fl→Code→St→(Exit→St→Prop)→Prop
  | [],c,σ,Q=>AWP P c σ Q
  | .wk::l,c,σ,Q=>∃ σ2,WkR σ σ2∧AWPT P l c σ2 Q
  | .st::l,.seq x y,σ,Q=>AWP P x σ fun e σ'=>match e with | .normal=>AWPT P l y σ' Q | e=>Q e σ'
  | .tr pre t::l,.seq (.region _ ops true) y,σ,Q=>OW P ops (opsL ops pre) σ [] fun σ1 con1=>OWT P ops t σ1 con1 fun σ' con=>AWPT P l y (fin σ' con) Q
  | _::_,_,_,_=>False
def lexT (P:Program):List Fl→Code→Bool
  | [],c=>codeLex P c
  | .wk::l,c=>lexT P l c
  | .st::l,.seq x y=>codeLex P x && lexT P l y
  | .tr pre t::l,.seq (.region _ ops true) y=>treeOk P ops pre t && lexT P l y
  | _::_,_=>false
section
variable {P:Program} {G:Ctx} {N:Nat} {ds:List Deferred}
theorem AWPT_sound (hm:P.follows .mixedOrders=true) (hZ:∀ d,G.Z d=none):∀ (l:List Fl) (c:Code) (Q:Exit→St→Prop) (σ:St) (a:Act) (w:World),codeDst N c=true→lexT P l c=true→AWPT P l c σ Q→SR G N ds σ a w →
    c.wp P (fun e a' w'=>∃ σ',Q e σ'∧SR G N ds σ' a' w') a w:=by
  intro l
  induction l with
  | nil=>intro c Q σ a w hd hl h hs; exact AWP_sound hm hZ c Q σ a w hd hl h hs
  | cons f l ih =>
    intro c Q σ a w hd hl h hs
    cases f with
    | wk =>
      obtain ⟨σ2,hw,h⟩:=h
      exact ih c Q σ2 a w hd hl h (SR_weakR hw hs)
    | st =>
      cases c with
      | seq x y =>
        simp only [codeDst,lexT,Bool.and_eq_true] at hd hl
        refine wp_seq (wp_mono (AWP_sound hm hZ x _ _ a w hd.1 hl.1 h hs) ?_)
        rintro e a' w' ⟨σ1,hq,hs'⟩
        cases e with
        | normal=>exact ih y Q σ1 a' w' hd.2 hl.2 hq hs'
        | _=>exact ⟨σ1,hq,hs'⟩
      | _=>exact h.elim
    | tr pre t =>
      cases c with
      | seq x y =>
        cases x with
        | region id ops draw =>
          cases draw with
          | true =>
            simp only [codeDst,lexT,Bool.and_eq_true] at hd hl
            refine wp_seq ?_
            refine region_tree (WpR.plain P) (Q:=fun σ'=>AWPT P l y σ' Q) hm (fun i o d hi ho=>⟨opsDst_spec hd.1 i o d hi ho,hZ d⟩) hl.1 hs h ?_
            intro σ' a' w' hq hs'
            exact ih y Q σ' a' w' hd.2 hl.2 hq hs'
          | false=>exact h.elim
        | _=>exact h.elim
      | _=>exact h.elim
theorem spec_of_dT {f N:Nat} {fn:Func} {g:FuncId} {r0 rd rest:Code} {args:List D} {r:D} (l:List Fl) (hm:P.follows .mixedOrders=true) (hf:P.funcs[f]? = some fn) (hb:fn.body=some (.seq r0 (.seq rd rest))) (hname:(fn.name == "runtime.NumGoroutine")=false)
    (hN:fn.ntmps=N) (hd0:codeDst N r0=true) (hl0:codeLex P r0=true) (hd1:codeDst N rest=true) (hl1:lexT P l rest=true) (hg:deferOf rd=some g) (hrec:RecSpec P g) (ha:args.length≤N)
    (h:AWP P r0 (St0 args N) fun e σ0=>e=.normal∧AWPT P l rest σ0 fun e σ=>(e=.normal∨e=.ret)∧resD P fn.results.toList σ=some r):Spec P f args r:=by
  intro A W vs hA hl hv
  have hn:¬ fn.name = "runtime.NumGoroutine" := by simpa using hname
  refine ⟨fun w=>by simp [callFunc,hf,hn,hb],?_⟩
  refine calls_of_wp_defers hf hb ?_
  subst hN
  refine wp_seq (wp_mono (AWP_sound hm (fun _=>rfl) r0 _ _ _ _ hd0 hl0 h (SR0 hA hl hv ha)) ?_)
  rintro e a w ⟨σ0,⟨rfl,h1⟩,hs0⟩
  refine wp_seq (wp_deferOf hg ?_)
  refine wp_mono (AWPT_sound hm (fun _=>rfl) l rest _ _ _ _ hd1 hl1 h1 (SR_defer { target:=.fn (.func g) #[],args:=#[] } hs0)) ?_
  rintro e a w ⟨σ,⟨he,hr⟩,hs⟩
  obtain ⟨v,hrun,hvd⟩:=run_results hs hr
  obtain ⟨_,_,F,ι,hR,_,_,_,hdf,_⟩:=hs
  have hend:Leaves P fn a.tmps (fun e w'=>∃ v,e=.returned v∧Below W.heap.size W w'∧VD (fun b=>A b∨(W.heap.size≤b∧b<w'.heap.size)) w' r v) a.defers .returning w:=by
    rw [hdf]
    refine leaves_cons (by simp) (args:=#[]) (f:=g) ?_ ((hrec.2 w).mono ?_)
    · have:=hrec.1 w
      simpa [invoke] using this
    · rintro e u' w' ⟨rfl,rfl,rfl⟩
      refine ⟨v,by simpa [settle] using hrun,v,rfl,⟨hR.kept.os,hR.kept.tape,hR.kept.output,hR.kept.size,fun k hk=>hR.kept.block k hk (fun h=>h)⟩,hvd.mono ?_⟩
      rintro b (h | h | h)
      · exact .inl h
      · exact h.elim
      · exact .inr h
  rcases he with rfl | rfl <;> exact hend
end
theorem awpt_nil (P:Program) (c:Code) (σ:St) (Q:Exit→St→Prop):AWPT P [] c σ Q=AWP P c σ Q:=rfl
theorem awpt_st (P:Program) (l:List Fl) (x y:Code) (σ:St) (Q:Exit→St→Prop):AWPT P (.st::l) (.seq x y) σ Q=AWP P x σ fun e σ'=>match e with | .normal=>AWPT P l y σ' Q | e=>Q e σ':=rfl
inductive Tro where
  | leaf
  | one (l:List Oper) (t:Tro)
  | two (l:List Oper) (t:Tro) (m:List Oper) (u:Tro)
def fillT (ops:Array Oper):Tr→Tro
  | .leaf=>.leaf
  | .one i t=>.one (opL ops i) (fillT ops t)
  | .two i t j u=>.two (opL ops i) (fillT ops t) (opL ops j) (fillT ops u)
def OWTo (P:Program) (ops:Array Oper):Tro→St→List Nat→(St→List Nat→Prop)→Prop
  | .leaf,σ,con,k=>k σ con
  | .one l t,σ,con,k=>OW P ops l σ con fun σ' con'=>OWTo P ops t σ' con' k
  | .two l t m u,σ,con,k=>(OW P ops l σ con fun σ' con'=>OWTo P ops t σ' con' k)∧(OW P ops m σ con fun σ' con'=>OWTo P ops u σ' con' k)
theorem owt_fill (P:Program) (ops:Array Oper):∀ (t:Tr) (σ:St) (con:List Nat) (k:St→List Nat→Prop),OWT P ops t σ con k=OWTo P ops (fillT ops t) σ con k
  | .leaf,_,_,_=>rfl
  | .one i t,σ,con,k=>by
    simp only [OWT,OWTo,fillT]
    exact congrArg _ (funext fun σ'=>funext fun con'=>owt_fill P ops t σ' con' k)
  | .two i t j u,σ,con,k=>by
    simp only [OWT,OWTo,fillT]
    exact congr (congrArg And (congrArg _ (funext fun σ'=>funext fun con'=>owt_fill P ops t σ' con' k))) (congrArg _ (funext fun σ'=>funext fun con'=>owt_fill P ops u σ' con' k))
def TreeP (P:Program) (ops:Array Oper) (l:List Oper) (t:Tro) (σ:St) (k:St→Prop) (_:Dm k):Prop:=OWd P ops l σ [] (fun σ1 con1=>OWTo P ops t σ1 con1 fun σ' con=>FinP σ' con k .mk) .mk
theorem awpt_tree {P:Program} {fl:List Fl} {pre:List Nat} {t:Tr} {id:Nat} {ops:Array Oper} {y:Code} {σ:St} {Q:Exit→St→Prop} (l:List Oper) (t':Tro) (h1:opsL ops pre=l) (h2:fillT ops t=t')
    (h:TreeP P ops l t' σ (fun σ'=>AWPT P fl y σ' Q) .mk):AWPT P (.tr pre t::fl) (.seq (.region id ops true) y) σ Q:=by
  subst h1; subst h2
  show OW P ops (opsL ops pre) σ [] fun σ1 con1=>OWT P ops t σ1 con1 fun σ' con=>AWPT P fl y (fin σ' con) Q
  simp only [owt_fill]
  exact h
theorem treeP_eq (P:Program) (ops:Array Oper) (l:List Oper) (t:Tro) (σ:St) (k:St→Prop) (d:Dm k):TreeP P ops l t σ k d=OWd P ops l σ [] (fun σ1 con1=>OWTo P ops t σ1 con1 fun σ' con=>FinP σ' con k .mk) .mk:=rfl
theorem owto_leaf (P:Program) (ops:Array Oper) (σ:St) (con:List Nat) (k:St→List Nat→Prop):OWTo P ops .leaf σ con k=k σ con:=rfl
theorem owto_one (P:Program) (ops:Array Oper) (l:List Oper) (t:Tro) (σ:St) (con:List Nat) (k:St→List Nat→Prop):OWTo P ops (.one l t) σ con k=OWd P ops l σ con (fun σ' con'=>OWTo P ops t σ' con' k) .mk:=rfl
theorem owto_two (P:Program) (ops:Array Oper) (l:List Oper) (t:Tro) (m:List Oper) (u:Tro) (σ:St) (con:List Nat) (k:St→List Nat→Prop):OWTo P ops (.two l t m u) σ con k=(OWd P ops l σ con (fun σ' con'=>OWTo P ops t σ' con' k) .mk∧OWd P ops m σ con (fun σ' con'=>OWTo P ops u σ' con' k) .mk):=rfl
end Go.Am
end

section
set_option linter.unusedVariables false
set_option linter.unusedSimpArgs false
open List (map_map mapM_map)
open Go Go.Am Go.Proofs
namespace Go.Am
theorem rec79:RecSpec Tryz.prog 79:=by
  refine ⟨fun w=>enters_of Tryz.func79 (by kernel_rfl) rfl _ w,fun w=>?_⟩
  refine callsD_of_wpS Tryz.func79 rfl fun c₀ cs hu=>?_
  apply wpS_region
  simp [wpOpsS,go_sem,recoverD,hu,Tryz.ntmps79,bodyPostS,results,Tryz.results79]
  cases c₀; simp only at hu; subst hu; rfl
def lastC (l:Ch) (n:Int):Int:=l.foldl (fun a f=>if f.1=n then f.2 else a) 0
theorem lastC_take {l:Ch} {i:Nat} (h:i<l.length) (n:Int):lastC (l.take (i+1)) n=if l[i].1=n then l[i].2 else lastC (l.take i) n:=by
  unfold lastC
  rw [List.take_add_one,List.getElem?_eq_getElem h,List.foldl_append]; rfl
theorem lastC_mem {l:Ch} {n:Int}:lastC l n=0∨∃ f∈l,lastC l n=f.2:=by
  unfold lastC
  suffices ∀ (l:Ch) (a:Int),l.foldl (fun a f=>if f.1=n then f.2 else a) a=a∨∃ f∈l,l.foldl (fun a f=>if f.1=n then f.2 else a) a=f.2 from this l 0
  intro l
  induction l with
  | nil=>intro a; exact .inl rfl
  | cons f l ih =>
    intro a
    rw [List.foldl_cons]
    rcases ih (if f.1=n then f.2 else a) with h | ⟨g,hg,h⟩
    · rw [h]
      by_cases e:f.1=n
      · rw [if_pos e]; exact .inr ⟨f,List.mem_cons_self ..,rfl⟩
      · rw [if_neg e]; exact .inl rfl
    · exact .inr ⟨g,List.mem_cons_of_mem _ hg,h⟩
theorem lastC_bnd {l:Ch} {M:Nat} (h:Bnd M l) (n:Int):(lastC l n).natAbs≤M:=by
  rcases lastC_mem (l:=l) (n:=n) with e | ⟨f,hf,e⟩
  · rw [e]; exact Nat.zero_le _
  · rw [e]; exact h f hf
theorem freeX_len {c:List Cl} {e:Nat} (hz:SzX e c):(freeX c).length≤10000:=by
  have:∀ d:List Cl,(∀ x∈d,x∈c)→(d.flatMap (frCell c)).length≤100 * d.length:=by
    intro d
    induction d with
    | nil=>intro _; simp
    | cons x d ih =>
      intro h
      rw [List.flatMap_cons,List.length_append,List.length_cons]
      have h1:=ih fun y hy=>h y (List.mem_cons_of_mem _ hy)
      have h2:=hz.bl x (h x (List.mem_cons_self ..))
      have h3:(frCell c x).length≤x.b.length:=by
        unfold frCell
        split
        · simp
        · rw [List.length_map]; exact List.length_filter_le _ _
      omega
  have h1:=this c fun _ h=>h
  have h2:=hz.len
  unfold freeX
  omega
theorem inj_encPrs (l:List (Int × Int)):inj (encPrs l)=.d (encPrs l):=rfl
theorem kills_encPrs (H:Nat→Option HO) (avs:List AV) (l:List (Int × Int)):killsOf H avs (encPrs l)=viss H avs:=rfl
theorem freeX_ne {c:List Cl} {a b:Int} (h:(a,b)∈freeX c):a≠b:=by
  unfold freeX at h
  obtain ⟨x,hx,h⟩:=List.mem_flatMap.1 h
  unfold frCell at h
  split at h
  · cases h
  · rename_i h0
    obtain ⟨f,hf,he⟩:=List.mem_map.1 h
    injection he with h1 h2
    have h3:=(List.mem_filter.1 hf).2
    unfold frOk at h3
    simp only [Bool.and_eq_true,decide_eq_true_eq] at h3
    intro hab
    rw [h2,← hab,← h1] at h3
    omega
theorem mapX_swap {c:List Cl} {a b:Int} {r:Ch} (h:a≠b):mapX c [(b,r),(a,[])]=mapX c [(a,[]),(b,r)]:=by
  unfold mapX
  refine List.map_congr_left fun x _=>?_
  unfold getG
  by_cases h1:b=x.id
  · have h2:¬ a=x.id:=fun e=>h (e.trans h1.symm)
    simp [List.find?_cons,h1,h2]
  · by_cases h2:a=x.id <;> simp [List.find?_cons,h1,h2]
theorem mput2 {a b:Int} (h:a≠b) (v w:AV):mput [(a,v)] b w=[(a,v),(b,w)]:=by
  simp [mput,mfind,List.findIdx?_cons,h]
def keepC (cell face:Int) (z:Cl):Bool:=!decide (z.id=cell) && !decide (z.id=face)
def colC (c:List Cl) (cell face:Int):List Cl:=c.filter (keepC cell face)
theorem colC_take {c:List Cl} {i:Nat} (h:i<c.length) (a b:Int):colC (c.take (i+1)) a b=colC (c.take i) a b++if keepC a b c[i] then [c[i]] else []:=by
  unfold colC
  rw [List.take_add_one,List.getElem?_eq_getElem h,List.filter_append]
  congr 1
  by_cases e:keepC a b c[i]=true <;> simp [e]
theorem colC_len (c:List Cl) (a b:Int):(colC c a b).length≤c.length:=List.length_filter_le _ _
def offL (z n:Int) (l:Ch):Ch:=(l.filter fun f=>!decide (f.1=n)).map fun f=>(f.1,z * f.2)
theorem offL_take {l:Ch} {i:Nat} (h:i<l.length) (z n:Int):offL z n (l.take (i+1))=offL z n (l.take i)++if l[i].1=n then [] else [(l[i].1,z * l[i].2)]:=by
  unfold offL
  rw [List.take_add_one,List.getElem?_eq_getElem h,List.filter_append,List.map_append]
  congr 1
  by_cases e:l[i].1=n <;> simp [e]
theorem offL_len (z n:Int) (l:Ch):(offL z n l).length≤l.length:=by unfold offL; rw [List.length_map]; exact List.length_filter_le _ _
theorem offL_bnd {z n:Int} {l:Ch} {K M:Nat} (hz:z.natAbs≤K) (h:Bnd M l):Bnd (K * M) (offL z n l):=fun x hx=>by
  unfold offL at hx
  obtain ⟨f,hf,rfl⟩:=List.mem_map.1 hx
  rw [Int.natAbs_mul]
  exact Nat.mul_le_mul hz (h f (List.mem_filter.1 hf).1)
theorem offL_keys {z n:Int} {l:Ch} (h:Keys l):Keys (offL z n l):=fun x hx=>by
  unfold offL at hx
  obtain ⟨f,hf,rfl⟩:=List.mem_map.1 hx
  exact h f (List.mem_filter.1 hf).1
def colL (l:Ch) (face:Int):Ch:=offL (-lastC l face) face l
def colG (c:List Cl) (cell face:Int):List (Int × Ch):=[(cell,[]),(face,addR [] (colL (bOf c cell) face))]
def colX (c:List Cl) (cell face:Int):List Cl × List (Int × Ch) × Int :=
  if (findX c cell).isSome=false∨(findX c face).isSome=false then ([],[],250) else if (cell,face) ∉ freeX c then ([],[],310) else (colC c cell face,mapX c (colG c cell face),0)
theorem subL_nil0 {H H':Nat→Option HO} {ρ:Nat→Nat}:SubL H H' ρ .nil (.d (.sl []))↔True:=⟨fun _=>trivial,fun _=>⟨rfl,fun a ha=>by simp [vis] at ha⟩⟩
theorem encC_nil:encC []=.sl []:=rfl
theorem sub_nil0 {H H':Nat→Option HO} {ρ:Nat→Nat}:Sub H H' ρ .nil (.d (.sl []))↔True:=subL_nil0
theorem sub_own_encC {H:Nat→Option HO} {ρ:Nat→Nat} {t:TypeId} {id n:Nat} {l:Ch} (hn:l.length=n) (hH:H id=some (.cells t ((flt encF l).map .d))):Sub H (blkF 1 []) ρ (.own id 0 n 3) (.d (encC l)):=by
  refine sub_frz ?_ fun a _ id h=>by simp [blkF] at h
  have e1:=flt_take encF_len hn
  have e2:=flt_chunk (by decide) encF_len hn
  have e3:=flt_len encF_len l
  rw [hn] at e3
  rw [frz_own,hH]
  simp only [Nat.zero_mul,Nat.zero_add,List.drop_zero,e1,mapM_d,Option.map_some,e2]
  rw [if_pos ⟨by rw [List.length_map]; omega,by omega⟩]; rfl
def fls10:List Fl:=[.st,.st,.st,.st,.st,.st,.st,.st,.st,.st]
def tail29:Tr:=.one 9 (.one 10 (.one 11 (.one 12 (.one 13 .leaf))))
def tree29:Tr:=.two 4 (.one 7 (.one 8 tail29)) 7 (.two 4 (.one 8 tail29) 8 (.one 4 tail29))
def flsC:List Fl:=fls10++[.tr [0,1,2,3,5,6] tree29]
set_option maxHeartbeats 4000000 in
set_option maxRecDepth 10000 in
theorem mgCollapse {c:List Cl} {e:Nat} (a b:Int) (hc:Inc c) (hz:SzX e c) (hk:∀ x∈c,Keys x.b) (he:e+e+14<4398046511104):Spec Tryz.prog 29 [encX c,.i .i64 a,.i .i64 b] (encR3 (colX c a b)):=by
  have hlen:=hz.len
  have hFa:=cxFind hc a (by omega)
  have hFb:=cxFind hc b (by omega)
  have hFr:=mgFree hz (by omega)
  have hfl:=freeX_len hz
  have hCt:=ctPr (freeX c) a b (by omega)
  have hr:∃ p x q y,(findX c a).isSome=p∧(findX c a).getD noCl=x∧(findX c b).isSome=q∧(findX c b).getD noCl=y:=⟨_,_,_,_,rfl,rfl,rfl,rfl⟩
  obtain ⟨p,x,q,y,hp,hx,hq,hy⟩:=hr
  have hba:bOf c a=x.b:=by unfold bOf; rw [hx]
  have hxl:x.b.length≤100:=by rw [← hba]; exact bOf_len hz.bl a
  have hxb:Bnd (2 ^ e) x.b:=by rw [← hba]; exact bOf_bnd hz.bb a
  unfold fndD at hFa hFb
  rw [hp,hx] at hFa
  rw [hq,hy] at hFb
  unfold colX colG
  rw [hp,hq,hba]
  refine spec_of_dT (N:=114) flsC follows_mixed Tryz.func29 rfl rfl rfl (by kernel_rfl) (by kernel_rfl) (by kernel_rfl) (by kernel_rfl) rfl rec79 (by simp) ?_
  simp (maxSteps:=1000000) [-map_map,-mapM_map,↓KW,encX,flsC,fls10,↓awpt_st]
  refine callP_intro (ds:=[encX c,.i .i64 a]) (by rfl) hFa ?_
  simp (maxSteps:=1000000) [-map_map,-mapM_map,↓KW,encX,encCl_eq,one_encC,cellsA_encC,inj1_encC,↓awpt_st]
  refine callP_intro (ds:=[encX c,.i .i64 b]) (by rfl) hFb ?_
  cases p with
  | false=>simp (maxSteps:=1000000) [-map_map,-mapM_map,↓KW,encX,encCl_eq,one_encC,cellsA_encC,inj1_encC,resD_3,encR3,encMp,↓awpt_st]
  | true =>
    cases q with
    | false=>simp (maxSteps:=1000000) [-map_map,-mapM_map,↓KW,encX,encCl_eq,one_encC,cellsA_encC,inj1_encC,resD_3,encR3,encMp,↓awpt_st]
    | true =>
      simp (maxSteps:=1000000) [-map_map,-mapM_map,↓KW,encX,encCl_eq,one_encC,cellsA_encC,inj1_encC,↓awpt_st]
      refine callP_intro (ds:=[encX c]) (by rfl) hFr ?_
      simp (maxSteps:=1000000) [-map_map,-mapM_map,↓KW,encX,encCl_eq,one_encC,cellsA_encC,inj1_encC,inj_encPrs,kills_encPrs,↓awpt_st]
      refine callP_intro (ds:=[encPrs (freeX c),.ag [.i .i64 a,.i .i64 b]]) (by rfl) hCt ?_
      by_cases hin:(a,b)∈freeX c
      rotate_left
      · rw [decide_eq_false hin]
        simp (maxSteps:=1000000) [-map_map,-mapM_map,↓KW,encX,encCl_eq,one_encC,cellsA_encC,inj1_encC,inj_encPrs,kills_encPrs,resD_3,encR3,encMp,hin,↓awpt_st]
      · rw [decide_eq_true hin]
        have hkx:Keys x.b:=by
          cases hfx:findX c a with
          | none=>rw [hfx] at hp; cases hp
          | some x' =>
            rw [hfx] at hx
            have:x'=x:=hx
            subst this
            exact hk _ (findX_some hfx).1
        have hne:=freeX_ne hin
        clear hFa hFb hFr hCt hp hq hx hy hfl
        simp (maxSteps:=1000000) [-map_map,-mapM_map,↓KW,encX,encC,encCl_eq,one_encC,cellsA_encC,inj1_encC,inj_encPrs,kills_encPrs,↓awpt_st]
        refine loopP_inv (fun i:Nat=>i≤x.b.length) (fun i=>StL [(0,.d (encX c)),(1,.d (.i .i64 a)),(2,.d (.i .i64 b)),(9,.ptr 1 0),(13,.ptr 2 0),(48,.d (encC x.b)),(49,.d (.i .i64 x.b.length)),(50,.d (.i .i64 (i:Int)))] none [.cells 47 [.d (.i .i64 x.id),.d (.i .i64 x.dim),.d (encC x.b)],.cells 69 [.d (.b (decide (lastC (x.b.take i) b<0))),.d (encM (digs (lastC (x.b.take i) b).natAbs))]]) (fun i=>x.b.length - i) 0 (Nat.zero_le _) ?_ ?_
        · refine wk_l [1,3] (by simp) ?_ ?_ <;> simp [-map_map,upd,inj1,Γ0,encX,encC,lastC,digs_zero,encM,subL_nil0]
        · intro i hi
          by_cases hgo:i<x.b.length
          · have q1:(i:Int)<x.b.length:=by omega
            have hf:x.b[i]? = some x.b[i]:=List.getElem?_eq_getElem hgo
            have hw:IntKind.i64.wrap ((i:Int)+1)=(i:Int)+1:=wrap_i64 (by omega) (by omega)
            have htk:=lastC_take hgo b
            refine (show ∃ f,x.b[i]=f from ⟨_,rfl⟩).elim fun f hfe=>?_
            rw [hfe] at hf htk
            refine (show ∃ z,lastC (x.b.take i) b=z from ⟨_,rfl⟩).elim fun z hze=>?_
            rw [hze] at htk
            simp only [hze]
            have hef:encF f=[.i .i64 f.1,.b (decide (f.2<0)),encM (digs f.2.natAbs)]:=rfl
            by_cases h0:f.1=b
            · have h0':((f.1 == b):Bool)=true:=by simpa using h0
              rw [if_pos h0] at htk
              have q3:(((b:Int) == (b:Int)):Bool)=true:=by simp
              simp (maxSteps:=1000000) [-map_map,-mapM_map,↓KW,encX,encC,q1,hf,hef,h0,h0',q3,hw,one_encM,cellsA_encM,inj1_encM,one_encC,cellsA_encC,inj1_encC]
              refine nxt_intro (i+1) hgo (Nat.sub_lt_sub_left hgo (Nat.lt_succ_self _)) (wk_l [1,2] (by simp) ?_ ?_) <;> simp [-map_map,upd,inj1,Γ0,encX,encC,htk]
            · have h0':((f.1 == b):Bool)=false:=by simpa using h0
              rw [if_neg h0] at htk
              simp (maxSteps:=1000000) [-map_map,-mapM_map,↓KW,encX,encC,q1,hf,hef,h0,h0',hw,one_encM,cellsA_encM,inj1_encM,one_encC,cellsA_encC,inj1_encC]
              refine nxt_intro (i+1) hgo (Nat.sub_lt_sub_left hgo (Nat.lt_succ_self _)) (wk_l [1,2] (by simp) ?_ ?_) <;> simp [-map_map,upd,inj1,Γ0,encX,encC,htk]
          · have q1:¬ (i:Int)<x.b.length:=by omega
            rw [List.take_of_length_le (by omega)]
            have hzb:=lastC_bnd hxb b
            refine (show ∃ z,lastC x.b b=z from ⟨_,rfl⟩).elim fun z hze=>?_
            rw [hze] at hzb
            have hNg:=intNegZ z (szE hzb (by omega))
            obtain ⟨zn,hzn⟩:∃ zn,-z=zn:=⟨_,rfl⟩
            have hzb':zn.natAbs≤2 ^ e:=by rw [← hzn,Int.natAbs_neg]; exact hzb
            have hcol:colL x.b b=offL zn b x.b:=by unfold colL; rw [hze,hzn]
            rw [hzn] at hNg
            clear hzn
            simp only [hze]
            simp (maxSteps:=1000000) [-map_map,-mapM_map,↓KW,encX,encC,q1,one_encC,cellsA_encC,inj1_encC,one_encM,cellsA_encM,inj1_encM,↓awpt_st]
            refine loopP_inv (fun y:Nat × Ch=>y.1≤x.b.length∧offL zn b (x.b.take y.1)=y.2) (fun y=>grQ1 16 [(0,.d (encX c)),(1,.d (.i .i64 a)),(2,.d (.i .i64 b)),(13,.ptr 1 0),(62,.d (encC x.b)),(63,.d (.i .i64 x.b.length)),(64,.d (.i .i64 (y.1:Int)))] (.cells 69 [.d (.b (decide (z<0))),.d (encM (digs z.natAbs))]) 89 3 y.2.length (flt encF y.2)) (fun y=>x.b.length - y.1) (0,[]) ⟨Nat.zero_le _,rfl⟩ ?_ ?_
            · simp only [List.length_nil,grQ1]
              refine wk_l [2] (by simp) ?_ ?_ <;> simp [-map_map,upd,inj1,Γ0,encX,encC,blksOk]
            · rintro ⟨j,l⟩ ⟨hj,hl⟩
              simp only at hj hl ⊢
              by_cases hgo:j<x.b.length
              · have q1:(j:Int)<x.b.length:=by omega
                have hf:x.b[j]? = some x.b[j]:=List.getElem?_eq_getElem hgo
                have hw:IntKind.i64.wrap ((j:Int)+1)=(j:Int)+1:=wrap_i64 (by omega) (by omega)
                have htk:=offL_take hgo zn b
                rw [hl] at htk
                have hll:l.length≤j:=by rw [← hl]; exact Nat.le_trans (offL_len _ _ _) (by rw [List.length_take]; omega)
                have hfb:=hxb _ (List.getElem_mem hgo)
                refine (show ∃ f,x.b[j]=f from ⟨_,rfl⟩).elim fun f hfe=>?_
                rw [hfe] at hf htk hfb
                have hef:encF f=[.i .i64 f.1,.b (decide (f.2<0)),encM (digs f.2.natAbs)]:=rfl
                have hm1:(1:Nat)≤maxLen:=le_maxLen (by decide)
                by_cases h0:f.1=b
                · have h0':((f.1 != b):Bool)=false:=by simpa using h0
                  rw [if_pos h0,List.append_nil] at htk
                  have q3:(((b:Int) != (b:Int)):Bool)=false:=by simp
                  rcases hn:l.length with _ | k
                  · simp only [hn,grQ1]
                    simp (maxSteps:=1000000) [-map_map,-mapM_map,↓KW,encX,encC,q1,hf,hef,h0,h0',q3,hw,one_encM,cellsA_encM,inj1_encM,one_encC,cellsA_encC,inj1_encC]
                    refine nxt_intro (τ:=Nat × Ch) (j+1,l) ⟨hgo,htk⟩ (Nat.sub_lt_sub_left hgo (Nat.lt_succ_self _)) ?_
                    simp only [hn,grQ1]
                    refine wk_l [1] (by simp) ?_ ?_ <;> simp [-map_map,upd,inj1,Γ0,encX,encC,blksOk]
                  · simp only [hn,grQ1]
                    simp (maxSteps:=1000000) [-map_map,-mapM_map,↓KW,encX,encC,q1,hf,hef,h0,h0',q3,hw,one_encM,cellsA_encM,inj1_encM,one_encC,cellsA_encC,inj1_encC]
                    refine nxt_intro (τ:=Nat × Ch) (j+1,l) ⟨hgo,htk⟩ (Nat.sub_lt_sub_left hgo (Nat.lt_succ_self _)) ?_
                    simp only [hn,grQ1]
                    refine wk_l [1,2] (by simp) ?_ ?_ <;> simp [-map_map,upd,inj1,Γ0,encX,encC,blksOk]
                · have h0':((f.1 != b):Bool)=true:=by simpa using h0
                  rw [if_neg h0] at htk
                  have hMu:=intMulZ zn f.2 (digE hzb' (by omega)) (digE hfb (by omega))
                  rcases hn:l.length with _ | k
                  · have e0:l=[]:=List.eq_nil_of_length_eq_zero hn
                    simp only [hn,grQ1]
                    simp (maxSteps:=1000000) [-map_map,-mapM_map,↓KW,encX,encC,q1,hf,hef,h0,h0',hw,one_encM,cellsA_encM,inj1_encM,one_encC,cellsA_encC,inj1_encC]
                    refine callP_intro (ds:=[encZ z]) (by rfl) hNg ?_
                    simp (maxSteps:=1000000) [-map_map,-mapM_map,↓KW,encX,encC,encZ_eq,q1,hf,hef,h0,h0',hw,one_encM,cellsA_encM,inj1_encM,one_encC,cellsA_encC,inj1_encC]
                    refine callP_intro (ds:=[encZ zn,encZ f.2]) (by rfl) hMu ?_
                    simp (maxSteps:=1000000) [-map_map,-mapM_map,↓KW,encX,encC,encZ_eq,q1,hf,hef,h0,h0',hw,hm1,one_encM,cellsA_encM,inj1_encM,one_encC,cellsA_encC,inj1_encC]
                    refine nxt_intro (τ:=Nat × Ch) (j+1,l++[(f.1,zn * f.2)]) ⟨hgo,htk⟩ (Nat.sub_lt_sub_left hgo (Nat.lt_succ_self _)) ?_
                    simp only [List.length_append,hn,List.length_singleton,grQ1]
                    refine wk_l [1,4] (by simp) ?_ ?_ <;> simp [-map_map,upd,inj1,Γ0,encX,encC,encF_eq,e0,flt_one]
                  · have hbb:=app_bounds (n:=k+1) (by omega)
                    have hcl:=flt_len encF_len l
                    rw [hn] at hcl
                    have hal:=flt_all encF_one l
                    simp only [hn,grQ1]
                    simp (maxSteps:=1000000) [-map_map,-mapM_map,↓KW,encX,encC,q1,hf,hef,h0,h0',hw,one_encM,cellsA_encM,inj1_encM,one_encC,cellsA_encC,inj1_encC]
                    refine callP_intro (ds:=[encZ z]) (by rfl) hNg ?_
                    simp (maxSteps:=1000000) [-map_map,-mapM_map,↓KW,encX,encC,encZ_eq,q1,hf,hef,h0,h0',hw,one_encM,cellsA_encM,inj1_encM,one_encC,cellsA_encC,inj1_encC]
                    refine callP_intro (ds:=[encZ zn,encZ f.2]) (by rfl) hMu ?_
                    simp (maxSteps:=1000000) [-map_map,-mapM_map,↓KW,encX,encC,encZ_eq,q1,hf,hef,h0,h0',hw,hm1,hbb,hcl,hal,le_maxLen,one_encM,cellsA_encM,inj1_encM,one_encC,cellsA_encC,inj1_encC]
                    refine nxt_intro (τ:=Nat × Ch) (j+1,l++[(f.1,zn * f.2)]) ⟨hgo,htk⟩ (Nat.sub_lt_sub_left hgo (Nat.lt_succ_self _)) ?_
                    simp only [List.length_append,hn,List.length_singleton,grQ1]
                    refine wk_l [1,5] (by simp) ?_ ?_ <;> simp [-map_map,upd,inj1,Γ0,encX,encC,encF_eq,flt_app,flt_one]
              · have q1:¬ (j:Int)<x.b.length:=by omega
                rw [List.take_of_length_le (by omega)] at hl
                have hlb:=offL_bnd (n:=b) (z:=zn) hzb' hxb
                have hlk:=offL_keys (n:=b) (z:=zn) hkx
                have hlL:=offL_len zn b x.b
                rw [hl] at hlb hlk hlL hcol
                rcases hn:l.length with _ | k
                · have e0:l=[]:=List.eq_nil_of_length_eq_zero hn
                  simp only [hn,grQ1]
                  simp (maxSteps:=1000000) [-map_map,-mapM_map,↓KW,encX,encC,q1,one_encC,cellsA_encC,inj1_encC,one_encM,cellsA_encM,inj1_encM,↓awpt_st]
                  refine loopP_inv (fun y:Nat × List Cl=>y.1≤c.length∧colC (c.take y.1) a b=y.2) (fun y=>grS 19 [(0,.d (encX c)),(1,.d (.i .i64 a)),(2,.d (.i .i64 b)),(16,.d (encC l)),(84,.d (encX c)),(85,.d (.i .i64 c.length)),(86,.d (.i .i64 (y.1:Int)))] 47 3 y.2.length (flt encCl y.2)) (fun y=>c.length - y.1) (0,[]) ⟨Nat.zero_le _,rfl⟩ ?_ ?_
                  · simp only [List.length_nil,grS]
                    refine wk_l [] (by simp) ?_ ?_ <;> simp [-map_map,upd,inj1,Γ0,encX,blksOk,e0,encC_nil,sub_nil0]
                  · rintro ⟨i,out⟩ ⟨hi,ho⟩
                    simp only at hi ho ⊢
                    by_cases hgo:i<c.length
                    · have q1:(i:Int)<c.length:=by omega
                      have hx:c[i]? = some c[i]:=List.getElem?_eq_getElem hgo
                      have hw:IntKind.i64.wrap ((i:Int)+1)=(i:Int)+1:=wrap_i64 (by omega) (by omega)
                      have htk:=colC_take hgo a b
                      rw [ho] at htk
                      have hln:out.length≤i:=by rw [← ho]; exact Nat.le_trans (colC_len _ _ _) (by rw [List.length_take]; omega)
                      refine (show ∃ y,c[i]=y from ⟨_,rfl⟩).elim fun y hye=>?_
                      rw [hye] at hx htk
                      have hyc:encCl y=[D.i .i64 y.id,.i .i64 y.dim,encC y.b]:=rfl
                      have hm1:(1:Nat)≤maxLen:=le_maxLen (by decide)
                      by_cases h0:y.id=a
                      · have h0':((y.id != a):Bool)=false:=by simpa using h0
                        have hkp:keepC a b y=false:=by unfold keepC; simp [h0]
                        rw [hkp] at htk
                        simp only [Bool.false_eq_true,if_false,List.append_nil] at htk
                        have q3:(((a:Int) != (a:Int)):Bool)=false:=by simp
                        rcases hn:out.length with _ | m
                        · simp only [hn,grS]
                          simp (maxSteps:=1000000) [-map_map,-mapM_map,↓KW,encX,q1,hx,hyc,h0,h0',q3,hw,one_encM,cellsA_encM,inj1_encM,one_encC,cellsA_encC,inj1_encC]
                          refine nxt_intro (τ:=Nat × List Cl) (i+1,out) ⟨hgo,htk⟩ (Nat.sub_lt_sub_left hgo (Nat.lt_succ_self _)) ?_
                          simp only [hn,grS]
                          refine wk_l [] (by simp) ?_ ?_ <;> simp [-map_map,upd,inj1,Γ0,encX,blksOk]
                        · simp only [hn,grS]
                          simp (maxSteps:=1000000) [-map_map,-mapM_map,↓KW,encX,q1,hx,hyc,h0,h0',q3,hw,one_encM,cellsA_encM,inj1_encM,one_encC,cellsA_encC,inj1_encC]
                          refine nxt_intro (τ:=Nat × List Cl) (i+1,out) ⟨hgo,htk⟩ (Nat.sub_lt_sub_left hgo (Nat.lt_succ_self _)) ?_
                          simp only [hn,grS]
                          refine wk_l [1] (by simp) ?_ ?_ <;> simp [-map_map,upd,inj1,Γ0,encX,blksOk]
                      · have h0':((y.id != a):Bool)=true:=by simpa using h0
                        by_cases h1:y.id=b
                        · have h1':((y.id != b):Bool)=false:=by simpa using h1
                          have hkp:keepC a b y=false:=by unfold keepC; simp [h1]
                          rw [hkp] at htk
                          simp only [Bool.false_eq_true,if_false,List.append_nil] at htk
                          have q3:(((b:Int) != (b:Int)):Bool)=false:=by simp
                          rw [h1] at h0'
                          rcases hn:out.length with _ | m
                          · simp only [hn,grS]
                            simp (maxSteps:=1000000) [-map_map,-mapM_map,↓KW,encX,q1,hx,hyc,h1,h0',q3,hw,one_encM,cellsA_encM,inj1_encM,one_encC,cellsA_encC,inj1_encC]
                            refine nxt_intro (τ:=Nat × List Cl) (i+1,out) ⟨hgo,htk⟩ (Nat.sub_lt_sub_left hgo (Nat.lt_succ_self _)) ?_
                            simp only [hn,grS]
                            refine wk_l [] (by simp) ?_ ?_ <;> simp [-map_map,upd,inj1,Γ0,encX,blksOk]
                          · simp only [hn,grS]
                            simp (maxSteps:=1000000) [-map_map,-mapM_map,↓KW,encX,q1,hx,hyc,h1,h0',q3,hw,one_encM,cellsA_encM,inj1_encM,one_encC,cellsA_encC,inj1_encC]
                            refine nxt_intro (τ:=Nat × List Cl) (i+1,out) ⟨hgo,htk⟩ (Nat.sub_lt_sub_left hgo (Nat.lt_succ_self _)) ?_
                            simp only [hn,grS]
                            refine wk_l [1] (by simp) ?_ ?_ <;> simp [-map_map,upd,inj1,Γ0,encX,blksOk]
                        · have h1':((y.id != b):Bool)=true:=by simpa using h1
                          have hkp:keepC a b y=true:=by unfold keepC; simp [h0,h1]
                          rw [hkp,if_pos rfl] at htk
                          rcases hn:out.length with _ | m
                          · have e0:out=[]:=List.eq_nil_of_length_eq_zero hn
                            simp only [hn,grS]
                            simp (maxSteps:=1000000) [-map_map,-mapM_map,↓KW,encX,q1,hx,hyc,h0,h0',h1,h1',hw,hm1,one_encM,cellsA_encM,inj1_encM,one_encC,cellsA_encC,inj1_encC]
                            refine nxt_intro (τ:=Nat × List Cl) (i+1,out++[y]) ⟨hgo,htk⟩ (Nat.sub_lt_sub_left hgo (Nat.lt_succ_self _)) ?_
                            simp only [List.length_append,hn,List.length_singleton,grS]
                            refine wk_l [3] (by simp) ?_ ?_ <;> simp [-map_map,upd,inj1,Γ0,encX,encCl_eq,e0,flt_one]
                          · have hbb:=app_bounds (n:=m+1) (by omega)
                            have hcl:=flt_len encCl_len out
                            rw [hn] at hcl
                            have hal:=flt_all encCl_one out
                            simp only [hn,grS]
                            simp (maxSteps:=1000000) [-map_map,-mapM_map,↓KW,encX,q1,hx,hyc,h0,h0',h1,h1',hw,hm1,hbb,hcl,hal,le_maxLen,one_encM,cellsA_encM,inj1_encM,one_encC,cellsA_encC,inj1_encC]
                            refine nxt_intro (τ:=Nat × List Cl) (i+1,out++[y]) ⟨hgo,htk⟩ (Nat.sub_lt_sub_left hgo (Nat.lt_succ_self _)) ?_
                            simp only [List.length_append,hn,List.length_singleton,grS]
                            refine wk_l [4] (by simp) ?_ ?_ <;> simp [-map_map,upd,inj1,Γ0,encX,encCl_eq,flt_app,flt_one]
                    · have q1:¬ (i:Int)<c.length:=by omega
                      rw [List.take_of_length_le (by omega)] at ho
                      have hM:=makeS (l:=l) (e:=e+e) (by rw [← pw_mul]; exact hlb) hlk (by omega) he
                      refine (show ∃ r,addR [] l=r from ⟨_,rfl⟩).elim fun r hr=>?_
                      rw [hr] at hM
                      have hMp1:=mgMapping c [(a,[]),(b,r)] (encG [(a,[]),(b,r)]) rfl (lookG _) (by omega)
                      have hMp2:=mgMapping c [(b,r),(a,[])] (encG [(b,r),(a,[])]) rfl (lookG _) (by omega)
                      rw [mapX_swap hne] at hMp2
                      have hmp1:∀ v w:AV,mput [(a,v)] b w=[(a,v),(b,w)]:=fun v w=>mput2 hne v w
                      have hmp2:∀ v w:AV,mput [(b,v)] a w=[(b,v),(a,w)]:=fun v w=>mput2 (Ne.symm hne) v w
                      rw [hcol,hr,ho]
                      rcases hn:out.length with _ | m
                      · have e0:out=[]:=List.eq_nil_of_length_eq_zero hn
                        simp only [grS]
                        simp (maxSteps:=1000000) [-map_map,-mapM_map,↓KW,encX,q1]
                        refine awpt_tree _ _ rfl rfl ?_
                        simp only [opsL,opL,tree29,tail29,fillT,List.flatMap_cons,List.flatMap_nil,List.drop_succ_cons,List.drop_zero,List.take_succ_cons,List.take_zero,List.cons_append,List.nil_append]
                        simp (maxSteps:=1000000) [-map_map,-mapM_map,↓KW,encX,q1,↓treeP_eq,↓owto_two,↓owto_one,↓owto_leaf,↓awpt_nil,lookA_mp,mapW_mp]
                        refine ⟨?_,?_⟩
                        · refine callP_intro (ds:=[encC l]) (by rfl) hM ?_
                          simp (maxSteps:=1000000) [-map_map,-mapM_map,↓KW,encX,q1,↓treeP_eq,↓owto_two,↓owto_one,↓owto_leaf,↓awpt_nil,lookA_mp,mapW_mp,mput_nil,hmp1,hmp2,inj_encC,kills_encC]
                          refine callP_intro (ds:=[encX c,encG [(a,[]),(b,r)]]) (by rfl) hMp1 ?_
                          simp (maxSteps:=1000000) [-map_map,-mapM_map,↓KW,encX,q1,↓treeP_eq,↓owto_two,↓owto_one,↓owto_leaf,↓awpt_nil,lookA_mp,mapW_mp,mput_nil,hmp1,hmp2,e0,inj_encC,kills_encC,inj_encMp,kills_encMp,vis_mpA,resD_3,encR3,hin]
                        · refine callP_intro (ds:=[encC l]) (by rfl) hM ?_
                          simp (maxSteps:=1000000) [-map_map,-mapM_map,↓KW,encX,q1,↓treeP_eq,↓owto_two,↓owto_one,↓owto_leaf,↓awpt_nil,lookA_mp,mapW_mp,mput_nil,hmp1,hmp2,inj_encC,kills_encC]
                          refine ⟨?_,?_⟩
                          · refine callP_intro (ds:=[encX c,encG [(a,[]),(b,r)]]) (by rfl) hMp1 ?_
                            simp (maxSteps:=1000000) [-map_map,-mapM_map,↓KW,encX,q1,↓treeP_eq,↓owto_two,↓owto_one,↓owto_leaf,↓awpt_nil,lookA_mp,mapW_mp,mput_nil,hmp1,hmp2,e0,inj_encC,kills_encC,inj_encMp,kills_encMp,vis_mpA,resD_3,encR3,hin]
                          · refine callP_intro (ds:=[encX c,encG [(b,r),(a,[])]]) (by rfl) hMp2 ?_
                            simp (maxSteps:=1000000) [-map_map,-mapM_map,↓KW,encX,q1,↓treeP_eq,↓owto_two,↓owto_one,↓owto_leaf,↓awpt_nil,lookA_mp,mapW_mp,mput_nil,hmp1,hmp2,e0,inj_encC,kills_encC,inj_encMp,kills_encMp,vis_mpA,resD_3,encR3,hin]
                      · have e1:=flt_take encCl_len hn
                        have e2:=flt_chunk (by decide) encCl_len hn
                        have e3:=flt_len encCl_len out
                        rw [hn] at e3
                        simp only [grS]
                        simp (maxSteps:=1000000) [-map_map,-mapM_map,↓KW,encX,q1]
                        refine awpt_tree _ _ rfl rfl ?_
                        simp only [opsL,opL,tree29,tail29,fillT,List.flatMap_cons,List.flatMap_nil,List.drop_succ_cons,List.drop_zero,List.take_succ_cons,List.take_zero,List.cons_append,List.nil_append]
                        simp (maxSteps:=1000000) [-map_map,-mapM_map,↓KW,encX,q1,↓treeP_eq,↓owto_two,↓owto_one,↓owto_leaf,↓awpt_nil,lookA_mp,mapW_mp]
                        refine ⟨?_,?_⟩
                        · refine callP_intro (ds:=[encC l]) (by rfl) hM ?_
                          simp (maxSteps:=1000000) [-map_map,-mapM_map,↓KW,encX,q1,↓treeP_eq,↓owto_two,↓owto_one,↓owto_leaf,↓awpt_nil,lookA_mp,mapW_mp,mput_nil,hmp1,hmp2,inj_encC,kills_encC]
                          refine callP_intro (ds:=[encX c,encG [(a,[]),(b,r)]]) (by rfl) hMp1 ?_
                          simp (maxSteps:=1000000) [-map_map,-mapM_map,↓KW,encX,q1,↓treeP_eq,↓owto_two,↓owto_one,↓owto_leaf,↓awpt_nil,lookA_mp,mapW_mp,mput_nil,hmp1,hmp2,e1,e2,e3,inj_encC,kills_encC,inj_encMp,kills_encMp,vis_mpA,resD_3,encR3,hin]
                        · refine callP_intro (ds:=[encC l]) (by rfl) hM ?_
                          simp (maxSteps:=1000000) [-map_map,-mapM_map,↓KW,encX,q1,↓treeP_eq,↓owto_two,↓owto_one,↓owto_leaf,↓awpt_nil,lookA_mp,mapW_mp,mput_nil,hmp1,hmp2,inj_encC,kills_encC]
                          refine ⟨?_,?_⟩
                          · refine callP_intro (ds:=[encX c,encG [(a,[]),(b,r)]]) (by rfl) hMp1 ?_
                            simp (maxSteps:=1000000) [-map_map,-mapM_map,↓KW,encX,q1,↓treeP_eq,↓owto_two,↓owto_one,↓owto_leaf,↓awpt_nil,lookA_mp,mapW_mp,mput_nil,hmp1,hmp2,e1,e2,e3,inj_encC,kills_encC,inj_encMp,kills_encMp,vis_mpA,resD_3,encR3,hin]
                          · refine callP_intro (ds:=[encX c,encG [(b,r),(a,[])]]) (by rfl) hMp2 ?_
                            simp (maxSteps:=1000000) [-map_map,-mapM_map,↓KW,encX,q1,↓treeP_eq,↓owto_two,↓owto_one,↓owto_leaf,↓awpt_nil,lookA_mp,mapW_mp,mput_nil,hmp1,hmp2,e1,e2,e3,inj_encC,kills_encC,inj_encMp,kills_encMp,vis_mpA,resD_3,encR3,hin]
                · have hfz:∀ (H:Nat→Option HO) (ρ:Nat→Nat),H 2=some (.cells 89 ((flt encF l).map .d))→Sub H (blkF 1 []) ρ (.own 2 0 (k+1) 3) (.d (encC l)):=fun H ρ hH=>sub_own_encC hn hH
                  simp only [hn,grQ1]
                  simp (maxSteps:=1000000) [-map_map,-mapM_map,↓KW,encX,encC,q1,one_encC,cellsA_encC,inj1_encC,one_encM,cellsA_encM,inj1_encM,↓awpt_st]
                  refine loopP_inv (fun y:Nat × List Cl=>y.1≤c.length∧colC (c.take y.1) a b=y.2) (fun y=>grS 19 [(0,.d (encX c)),(1,.d (.i .i64 a)),(2,.d (.i .i64 b)),(16,.d (encC l)),(84,.d (encX c)),(85,.d (.i .i64 c.length)),(86,.d (.i .i64 (y.1:Int)))] 47 3 y.2.length (flt encCl y.2)) (fun y=>c.length - y.1) (0,[]) ⟨Nat.zero_le _,rfl⟩ ?_ ?_
                  · simp only [List.length_nil,grS]
                    refine wk_l [] (by simp) ?_ ?_ <;> simp [-map_map,upd,inj1,Γ0,encX,blksOk,hfz]
                  · rintro ⟨i,out⟩ ⟨hi,ho⟩
                    simp only at hi ho ⊢
                    by_cases hgo:i<c.length
                    · have q1:(i:Int)<c.length:=by omega
                      have hx:c[i]? = some c[i]:=List.getElem?_eq_getElem hgo
                      have hw:IntKind.i64.wrap ((i:Int)+1)=(i:Int)+1:=wrap_i64 (by omega) (by omega)
                      have htk:=colC_take hgo a b
                      rw [ho] at htk
                      have hln:out.length≤i:=by rw [← ho]; exact Nat.le_trans (colC_len _ _ _) (by rw [List.length_take]; omega)
                      refine (show ∃ y,c[i]=y from ⟨_,rfl⟩).elim fun y hye=>?_
                      rw [hye] at hx htk
                      have hyc:encCl y=[D.i .i64 y.id,.i .i64 y.dim,encC y.b]:=rfl
                      have hm1:(1:Nat)≤maxLen:=le_maxLen (by decide)
                      by_cases h0:y.id=a
                      · have h0':((y.id != a):Bool)=false:=by simpa using h0
                        have hkp:keepC a b y=false:=by unfold keepC; simp [h0]
                        rw [hkp] at htk
                        simp only [Bool.false_eq_true,if_false,List.append_nil] at htk
                        have q3:(((a:Int) != (a:Int)):Bool)=false:=by simp
                        rcases hn:out.length with _ | m
                        · simp only [hn,grS]
                          simp (maxSteps:=1000000) [-map_map,-mapM_map,↓KW,encX,q1,hx,hyc,h0,h0',q3,hw,one_encM,cellsA_encM,inj1_encM,one_encC,cellsA_encC,inj1_encC]
                          refine nxt_intro (τ:=Nat × List Cl) (i+1,out) ⟨hgo,htk⟩ (Nat.sub_lt_sub_left hgo (Nat.lt_succ_self _)) ?_
                          simp only [hn,grS]
                          refine wk_l [] (by simp) ?_ ?_ <;> simp [-map_map,upd,inj1,Γ0,encX,blksOk]
                        · simp only [hn,grS]
                          simp (maxSteps:=1000000) [-map_map,-mapM_map,↓KW,encX,q1,hx,hyc,h0,h0',q3,hw,one_encM,cellsA_encM,inj1_encM,one_encC,cellsA_encC,inj1_encC]
                          refine nxt_intro (τ:=Nat × List Cl) (i+1,out) ⟨hgo,htk⟩ (Nat.sub_lt_sub_left hgo (Nat.lt_succ_self _)) ?_
                          simp only [hn,grS]
                          refine wk_l [1] (by simp) ?_ ?_ <;> simp [-map_map,upd,inj1,Γ0,encX,blksOk]
                      · have h0':((y.id != a):Bool)=true:=by simpa using h0
                        by_cases h1:y.id=b
                        · have h1':((y.id != b):Bool)=false:=by simpa using h1
                          have hkp:keepC a b y=false:=by unfold keepC; simp [h1]
                          rw [hkp] at htk
                          simp only [Bool.false_eq_true,if_false,List.append_nil] at htk
                          have q3:(((b:Int) != (b:Int)):Bool)=false:=by simp
                          rw [h1] at h0'
                          rcases hn:out.length with _ | m
                          · simp only [hn,grS]
                            simp (maxSteps:=1000000) [-map_map,-mapM_map,↓KW,encX,q1,hx,hyc,h1,h0',q3,hw,one_encM,cellsA_encM,inj1_encM,one_encC,cellsA_encC,inj1_encC]
                            refine nxt_intro (τ:=Nat × List Cl) (i+1,out) ⟨hgo,htk⟩ (Nat.sub_lt_sub_left hgo (Nat.lt_succ_self _)) ?_
                            simp only [hn,grS]
                            refine wk_l [] (by simp) ?_ ?_ <;> simp [-map_map,upd,inj1,Γ0,encX,blksOk]
                          · simp only [hn,grS]
                            simp (maxSteps:=1000000) [-map_map,-mapM_map,↓KW,encX,q1,hx,hyc,h1,h0',q3,hw,one_encM,cellsA_encM,inj1_encM,one_encC,cellsA_encC,inj1_encC]
                            refine nxt_intro (τ:=Nat × List Cl) (i+1,out) ⟨hgo,htk⟩ (Nat.sub_lt_sub_left hgo (Nat.lt_succ_self _)) ?_
                            simp only [hn,grS]
                            refine wk_l [1] (by simp) ?_ ?_ <;> simp [-map_map,upd,inj1,Γ0,encX,blksOk]
                        · have h1':((y.id != b):Bool)=true:=by simpa using h1
                          have hkp:keepC a b y=true:=by unfold keepC; simp [h0,h1]
                          rw [hkp,if_pos rfl] at htk
                          rcases hn:out.length with _ | m
                          · have e0:out=[]:=List.eq_nil_of_length_eq_zero hn
                            simp only [hn,grS]
                            simp (maxSteps:=1000000) [-map_map,-mapM_map,↓KW,encX,q1,hx,hyc,h0,h0',h1,h1',hw,hm1,one_encM,cellsA_encM,inj1_encM,one_encC,cellsA_encC,inj1_encC]
                            refine nxt_intro (τ:=Nat × List Cl) (i+1,out++[y]) ⟨hgo,htk⟩ (Nat.sub_lt_sub_left hgo (Nat.lt_succ_self _)) ?_
                            simp only [List.length_append,hn,List.length_singleton,grS]
                            refine wk_l [3] (by simp) ?_ ?_ <;> simp [-map_map,upd,inj1,Γ0,encX,encCl_eq,e0,flt_one]
                          · have hbb:=app_bounds (n:=m+1) (by omega)
                            have hcl:=flt_len encCl_len out
                            rw [hn] at hcl
                            have hal:=flt_all encCl_one out
                            simp only [hn,grS]
                            simp (maxSteps:=1000000) [-map_map,-mapM_map,↓KW,encX,q1,hx,hyc,h0,h0',h1,h1',hw,hm1,hbb,hcl,hal,le_maxLen,one_encM,cellsA_encM,inj1_encM,one_encC,cellsA_encC,inj1_encC]
                            refine nxt_intro (τ:=Nat × List Cl) (i+1,out++[y]) ⟨hgo,htk⟩ (Nat.sub_lt_sub_left hgo (Nat.lt_succ_self _)) ?_
                            simp only [List.length_append,hn,List.length_singleton,grS]
                            refine wk_l [4] (by simp) ?_ ?_ <;> simp [-map_map,upd,inj1,Γ0,encX,encCl_eq,flt_app,flt_one]
                    · have q1:¬ (i:Int)<c.length:=by omega
                      rw [List.take_of_length_le (by omega)] at ho
                      have hM:=makeS (l:=l) (e:=e+e) (by rw [← pw_mul]; exact hlb) hlk (by omega) he
                      refine (show ∃ r,addR [] l=r from ⟨_,rfl⟩).elim fun r hr=>?_
                      rw [hr] at hM
                      have hMp1:=mgMapping c [(a,[]),(b,r)] (encG [(a,[]),(b,r)]) rfl (lookG _) (by omega)
                      have hMp2:=mgMapping c [(b,r),(a,[])] (encG [(b,r),(a,[])]) rfl (lookG _) (by omega)
                      rw [mapX_swap hne] at hMp2
                      have hmp1:∀ v w:AV,mput [(a,v)] b w=[(a,v),(b,w)]:=fun v w=>mput2 hne v w
                      have hmp2:∀ v w:AV,mput [(b,v)] a w=[(b,v),(a,w)]:=fun v w=>mput2 (Ne.symm hne) v w
                      rw [hcol,hr,ho]
                      rcases hn:out.length with _ | m
                      · have e0:out=[]:=List.eq_nil_of_length_eq_zero hn
                        simp only [grS]
                        simp (maxSteps:=1000000) [-map_map,-mapM_map,↓KW,encX,q1]
                        refine awpt_tree _ _ rfl rfl ?_
                        simp only [opsL,opL,tree29,tail29,fillT,List.flatMap_cons,List.flatMap_nil,List.drop_succ_cons,List.drop_zero,List.take_succ_cons,List.take_zero,List.cons_append,List.nil_append]
                        simp (maxSteps:=1000000) [-map_map,-mapM_map,↓KW,encX,q1,↓treeP_eq,↓owto_two,↓owto_one,↓owto_leaf,↓awpt_nil,lookA_mp,mapW_mp]
                        refine ⟨?_,?_⟩
                        · refine callP_intro (ds:=[encC l]) (by rfl) hM ?_
                          simp (maxSteps:=1000000) [-map_map,-mapM_map,↓KW,encX,q1,↓treeP_eq,↓owto_two,↓owto_one,↓owto_leaf,↓awpt_nil,lookA_mp,mapW_mp,mput_nil,hmp1,hmp2,inj_encC,kills_encC]
                          refine callP_intro (ds:=[encX c,encG [(a,[]),(b,r)]]) (by rfl) hMp1 ?_
                          simp (maxSteps:=1000000) [-map_map,-mapM_map,↓KW,encX,q1,↓treeP_eq,↓owto_two,↓owto_one,↓owto_leaf,↓awpt_nil,lookA_mp,mapW_mp,mput_nil,hmp1,hmp2,e0,inj_encC,kills_encC,inj_encMp,kills_encMp,vis_mpA,resD_3,encR3,hin]
                        · refine callP_intro (ds:=[encC l]) (by rfl) hM ?_
                          simp (maxSteps:=1000000) [-map_map,-mapM_map,↓KW,encX,q1,↓treeP_eq,↓owto_two,↓owto_one,↓owto_leaf,↓awpt_nil,lookA_mp,mapW_mp,mput_nil,hmp1,hmp2,inj_encC,kills_encC]
                          refine ⟨?_,?_⟩
                          · refine callP_intro (ds:=[encX c,encG [(a,[]),(b,r)]]) (by rfl) hMp1 ?_
                            simp (maxSteps:=1000000) [-map_map,-mapM_map,↓KW,encX,q1,↓treeP_eq,↓owto_two,↓owto_one,↓owto_leaf,↓awpt_nil,lookA_mp,mapW_mp,mput_nil,hmp1,hmp2,e0,inj_encC,kills_encC,inj_encMp,kills_encMp,vis_mpA,resD_3,encR3,hin]
                          · refine callP_intro (ds:=[encX c,encG [(b,r),(a,[])]]) (by rfl) hMp2 ?_
                            simp (maxSteps:=1000000) [-map_map,-mapM_map,↓KW,encX,q1,↓treeP_eq,↓owto_two,↓owto_one,↓owto_leaf,↓awpt_nil,lookA_mp,mapW_mp,mput_nil,hmp1,hmp2,e0,inj_encC,kills_encC,inj_encMp,kills_encMp,vis_mpA,resD_3,encR3,hin]
                      · have e1:=flt_take encCl_len hn
                        have e2:=flt_chunk (by decide) encCl_len hn
                        have e3:=flt_len encCl_len out
                        rw [hn] at e3
                        simp only [grS]
                        simp (maxSteps:=1000000) [-map_map,-mapM_map,↓KW,encX,q1]
                        refine awpt_tree _ _ rfl rfl ?_
                        simp only [opsL,opL,tree29,tail29,fillT,List.flatMap_cons,List.flatMap_nil,List.drop_succ_cons,List.drop_zero,List.take_succ_cons,List.take_zero,List.cons_append,List.nil_append]
                        simp (maxSteps:=1000000) [-map_map,-mapM_map,↓KW,encX,q1,↓treeP_eq,↓owto_two,↓owto_one,↓owto_leaf,↓awpt_nil,lookA_mp,mapW_mp]
                        refine ⟨?_,?_⟩
                        · refine callP_intro (ds:=[encC l]) (by rfl) hM ?_
                          simp (maxSteps:=1000000) [-map_map,-mapM_map,↓KW,encX,q1,↓treeP_eq,↓owto_two,↓owto_one,↓owto_leaf,↓awpt_nil,lookA_mp,mapW_mp,mput_nil,hmp1,hmp2,inj_encC,kills_encC]
                          refine callP_intro (ds:=[encX c,encG [(a,[]),(b,r)]]) (by rfl) hMp1 ?_
                          simp (maxSteps:=1000000) [-map_map,-mapM_map,↓KW,encX,q1,↓treeP_eq,↓owto_two,↓owto_one,↓owto_leaf,↓awpt_nil,lookA_mp,mapW_mp,mput_nil,hmp1,hmp2,e1,e2,e3,inj_encC,kills_encC,inj_encMp,kills_encMp,vis_mpA,resD_3,encR3,hin]
                        · refine callP_intro (ds:=[encC l]) (by rfl) hM ?_
                          simp (maxSteps:=1000000) [-map_map,-mapM_map,↓KW,encX,q1,↓treeP_eq,↓owto_two,↓owto_one,↓owto_leaf,↓awpt_nil,lookA_mp,mapW_mp,mput_nil,hmp1,hmp2,inj_encC,kills_encC]
                          refine ⟨?_,?_⟩
                          · refine callP_intro (ds:=[encX c,encG [(a,[]),(b,r)]]) (by rfl) hMp1 ?_
                            simp (maxSteps:=1000000) [-map_map,-mapM_map,↓KW,encX,q1,↓treeP_eq,↓owto_two,↓owto_one,↓owto_leaf,↓awpt_nil,lookA_mp,mapW_mp,mput_nil,hmp1,hmp2,e1,e2,e3,inj_encC,kills_encC,inj_encMp,kills_encMp,vis_mpA,resD_3,encR3,hin]
                          · refine callP_intro (ds:=[encX c,encG [(b,r),(a,[])]]) (by rfl) hMp2 ?_
                            simp (maxSteps:=1000000) [-map_map,-mapM_map,↓KW,encX,q1,↓treeP_eq,↓owto_two,↓owto_one,↓owto_leaf,↓awpt_nil,lookA_mp,mapW_mp,mput_nil,hmp1,hmp2,e1,e2,e3,inj_encC,kills_encC,inj_encMp,kills_encMp,vis_mpA,resD_3,encR3,hin]
end Go.Am
end

section
set_option linter.unusedVariables false
set_option linter.unusedSimpArgs false
namespace Go.Proofs
open Go.RowKit Go.Lib Go.Sort Go.Shelf
def Tryz.sortC_ren:Go.Shelf.Ren:=⟨fun | 14=>105 | 20=>130 | 21=>131 | 22=>132 | 23=>133 | 24=>134 | 25=>135 | 26=>136 | 27=>137 | 46=>155 | 47=>156 | 48=>157 | 49=>158 | 50=>159 | 15=>106 | 57=>179 | 28=>138 | 29=>139 | n=>n,fun | 24=>47 | 22=>26 | 3=>3 | 25=>110 | 4=>4 | 0=>0 | 46=>175 | 45=>174 | 50=>133 | 66=>194 | 39=>122 | 55=>119 | 70=>198 | 76=>221 | 77=>202 | 53=>121 | 5=>5 | 9=>9 | n=>n,fun n=>n⟩
theorem Tryz.sortC:Go.Proofs.SlLaysF0.n14 Tryz.prog Tryz.sortC_ren:={
  mixed:=by kernel_rfl,
  f14:=⟨Tryz.f105.name,by decide,Tryz.func105.trans (congrArg some (by kernel_rfl))⟩,
  f15:=Tryz.func106.trans (congrArg some (by kernel_rfl)),
  f20:=⟨Tryz.f130.name,by decide,Tryz.func130.trans (congrArg some (by kernel_rfl))⟩,
  f21:=⟨Tryz.f131.name,by decide,Tryz.func131.trans (congrArg some (by kernel_rfl))⟩,
  f22:=⟨Tryz.f132.name,by decide,Tryz.func132.trans (congrArg some (by kernel_rfl))⟩,
  f23:=⟨Tryz.f133.name,by decide,Tryz.func133.trans (congrArg some (by kernel_rfl))⟩,
  f24:=⟨Tryz.f134.name,by decide,Tryz.func134.trans (congrArg some (by kernel_rfl))⟩,
  f25:=⟨Tryz.f135.name,by decide,Tryz.func135.trans (congrArg some (by kernel_rfl))⟩,
  f26:=⟨Tryz.f136.name,by decide,Tryz.func136.trans (congrArg some (by kernel_rfl))⟩,
  f27:=⟨Tryz.f137.name,by decide,Tryz.func137.trans (congrArg some (by kernel_rfl))⟩,
  f28:=Tryz.func138.trans (congrArg some (by kernel_rfl)),
  f29:=Tryz.func139.trans (congrArg some (by kernel_rfl)),
  f46:=⟨Tryz.f155.name,by decide,Tryz.func155.trans (congrArg some (by kernel_rfl))⟩,
  f47:=Tryz.func156.trans (congrArg some (by kernel_rfl)),
  f48:=Tryz.func157.trans (congrArg some (by kernel_rfl)),
  f49:=⟨Tryz.f158.name,by decide,Tryz.func158.trans (congrArg some (by kernel_rfl))⟩,
  f50:=⟨Tryz.f159.name,by decide,Tryz.func159.trans (congrArg some (by kernel_rfl))⟩,
  f57:=⟨Tryz.f179.name,by decide,Tryz.func179.trans (congrArg some (by kernel_rfl))⟩,
  t0:=Tryz.underlying0,
  a0:=Tryz.isAgg0,
  z0:=Tryz.sizeOf0,
  v0:=Tryz.zeroValue0,
  t3:=Tryz.underlying3,
  a3:=Tryz.isAgg3,
  z3:=Tryz.sizeOf3,
  v3:=Tryz.zeroValue3,
  t4:=Tryz.underlying4,
  a4:=Tryz.isAgg4,
  z4:=Tryz.sizeOf4,
  v4:=Tryz.zeroValue4,
  t5:=Tryz.underlying5,
  a5:=Tryz.isAgg5,
  z5:=Tryz.sizeOf5,
  v5:=Tryz.zeroValue5,
  t9:=Tryz.underlying9,
  a9:=Tryz.isAgg9,
  z9:=Tryz.sizeOf9,
  v9:=Tryz.zeroValue9,
  t22:=Tryz.underlying26,
  a22:=Tryz.isAgg26,
  z22:=Tryz.sizeOf26,
  v22:=Tryz.zeroValue26,
  t25:=Tryz.underlying110,
  a25:=Tryz.isAgg110,
  z25:=Tryz.sizeOf110,
  v25:=Tryz.zeroValue110,
  t39:=Tryz.underlying122,
  a39:=Tryz.isAgg122,
  z39:=Tryz.sizeOf122,
  v39:=Tryz.zeroValue122,
  t45:=Tryz.underlying174,
  a45:=Tryz.isAgg174,
  z45:=Tryz.sizeOf174,
  v45:=Tryz.zeroValue174,
  t46:=Tryz.underlying175,
  a46:=Tryz.isAgg175,
  z46:=Tryz.sizeOf175,
  v46:=Tryz.zeroValue175,
  t50:=Tryz.underlying133,
  a50:=Tryz.isAgg133,
  z50:=Tryz.sizeOf133,
  v50:=Tryz.zeroValue133,
  t53:=Tryz.underlying121,
  a53:=Tryz.isAgg121,
  z53:=Tryz.sizeOf121,
  v53:=Tryz.zeroValue121,
  t55:=Tryz.underlying119,
  a55:=Tryz.isAgg119,
  z55:=Tryz.sizeOf119,
  v55:=Tryz.zeroValue119,
  t66:=Tryz.underlying194,
  a66:=Tryz.isAgg194,
  z66:=Tryz.sizeOf194,
  v66:=Tryz.zeroValue194,
  t70:=Tryz.underlying198,
  a70:=Tryz.isAgg198,
  z70:=Tryz.sizeOf198,
  v70:=Tryz.zeroValue198,
  t76:=Tryz.underlying221,
  a76:=Tryz.isAgg221,
  z76:=Tryz.sizeOf221,
  v76:=Tryz.zeroValue221,
  t77:=Tryz.underlying202,
  a77:=Tryz.isAgg202,
  z77:=Tryz.sizeOf202,
  v77:=Tryz.zeroValue202 }
section
variable {α:Type} [Inhabited α]
set_option maxHeartbeats 4000000 in
set_option maxRecDepth 100000 in
theorem Tryz.sortFuncC (enc:α→List Value) (hk:∀ x,(enc x).length=3) (h1:∀ x,∀ v∈enc x,v.oneCell'=true) (cf:α→α→Int) (hO:SWO (ltOf cf)) (g:Nat) (cb:Array Value) (blk off cap:Nat) (d:Array α) (w:World)
    (eg:∀ args w,(callFunc g args).run Tryz.prog w=.ok (.enter g args) w) (hcmp:CmpLays Tryz.prog g cb enc 3 cf blk off d.size w) (hH:HoldsK enc 3 w blk off d) (hblk:blk<w.heap.size) (hsz:d.size<4611686018427387904) :
    Calls Tryz.prog 68 #[.slice (some ⟨blk,off,none⟩) d.size cap,.func (.func g) #[] cb] w fun e w' =>
      e=.returned (.tuple #[])∧∃ n os,w'=sortWorldK enc 3 w blk off n (pdq (ltOf cf) d 0 d.size (Lib.bitLen d.size) true true) os:=by
  have e14:∀ args w,(callFunc 105 args).run Tryz.prog w=.ok (.enter 105 args) w:=enters_of Tryz.func105 (by kernel_rfl) rfl
  have e15:∀ args w,(callFunc 106 args).run Tryz.prog w=.ok (.enter 106 args) w:=enters_of Tryz.func106 (by kernel_rfl) rfl
  have hlim:Lib.bitLen d.size<4611686018427387904:=Nat.lt_of_le_of_lt (Lib.bitLen_le d.size 62 (by omega) (by omega)) (by omega)
  have hp:=AnyQ.pdqsortCmpFunc_all Tryz.sortC 3 Tryz.isAgg47 Tryz.sizeOf47 enc cf g cb hO blk off cap d w eg hcmp ⟨hk,h1,hH,hblk⟩ (d.size+1) 0 d.size (Lib.bitLen d.size) d w (by omega) rfl (SWK.start hH) (Nat.zero_le _) (Nat.le_refl _) hsz hlim (Or.inl rfl)
  have hl:Calls Tryz.prog 106 #[.int .u64 (d.size:Int)] w fun e w'=>e=.returned (.int .i64 (Lib.bitLen d.size:Nat))∧w'=w:=by
    have h:=Any.bits_Len (SlLaysF0.n15.bits (P:=Tryz.prog) (ρ:=Tryz.sortC_ren) { Tryz.sortC with }) (d.size:Int) w (by omega) (by omega)
    rwa [Int.toNat_natCast] at h
  change Calls Tryz.prog 105 _ _ _ at hp
  have wr:IntKind.u64.wrap (d.size:Int)=d.size:=by simp [IntKind.wrap,IntKind.bits,IntKind.signed]; omega
  clear hH hcmp hk h1
  go_enter Tryz.func68,Tryz.ntmps68
  go_wp2_with (first | (go_at_call 106; refine hl.mono ?_; rintro e w' ⟨rfl,rfl⟩) | (go_at_call 105; refine hp.mono ?_; rintro e w' ⟨rfl,n,os,rfl⟩))
  go_end0
  exact ⟨rfl,n,os,rfl⟩
end
end Go.Proofs
end

section
set_option linter.unusedVariables false
set_option linter.unusedSimpArgs false
open Go Go.Am
namespace Go.Proofs
open Go.RowKit Go.Lib Go.Sort Go.Shelf
def Tryz.cmpC_ren:Go.Shelf.Ren:=⟨fun | 5=>70 | 7=>107 | n=>n,fun | 22=>3 | 3=>3 | 4=>4 | n=>n,fun | n=>n⟩
theorem Tryz.cmpC:Go.Proofs.SlLaysC2.n5 Tryz.prog Tryz.cmpC_ren:={
  mixed:=by kernel_rfl,
  f5:=⟨"cmp.Compare[int]",by decide,Tryz.func70.trans (congrArg some (by kernel_rfl))⟩,
  f7:=⟨"cmp.isNaN[int]",by decide,Tryz.func107.trans (congrArg some (by kernel_rfl))⟩,
  t3:=Tryz.underlying3,
  a3:=Tryz.isAgg3,
  z3:=Tryz.sizeOf3,
  v3:=Tryz.zeroValue3,
  t4:=Tryz.underlying4,
  a4:=Tryz.isAgg4,
  z4:=Tryz.sizeOf4,
  v4:=Tryz.zeroValue4,
  t22:=Tryz.underlying3,
  a22:=Tryz.isAgg3,
  z22:=Tryz.sizeOf3,
  v22:=Tryz.zeroValue3 }
structure Cv where
  id:Int
  dim:Int
  v:Value
  h1:v.oneCell'=true
instance : Inhabited Cv := ⟨⟨0, 0, .bool false, rfl⟩⟩
def mkCv (x:Cl) (v:Value):Cv:=if h:v.oneCell'=true then ⟨x.id,x.dim,v,h⟩ else ⟨x.id,x.dim,.bool false,rfl⟩
def encCv (x:Cv):List Value:=[.int .i64 x.id,.int .i64 x.dim,x.v]
def cfC (x y:Cv):Int:=Lib.compareInt x.id y.id
theorem ltC (x y:Cv):ltOf cfC x y=decide (x.id<y.id):=by
  unfold ltOf cfC Lib.compareInt
  by_cases h1:x.id<y.id
  · simp [h1]
  · by_cases h2:y.id<x.id <;> simp [h1,h2]
theorem swoC:SWO (ltOf cfC) where
  irrefl x:=by rw [ltC]; simp
  trans x y z h1 h2:=by rw [ltC] at *; simp at *; omega
  ntrans x y z h1 h2:=by rw [ltC] at *; simp at *; omega
set_option maxHeartbeats 1000000 in
theorem Tryz.closC (x y:Cv) (W:World):Calls Tryz.prog 69 #[.agg #[.int .i64 x.id,.int .i64 x.dim,x.v],.agg #[.int .i64 y.id,.int .i64 y.dim,y.v]] W fun e w'=>e=.returned (.int .i64 (Lib.compareInt x.id y.id))∧∃ q os',w'=grow (W.drewN q) os':=by
  have hcon:=fun W'=>AnyG.cmp_Compare_int Tryz.cmpC x.id y.id W'
  change ∀ W',Calls Tryz.prog 70 _ _ _ at hcon
  generalize Lib.compareInt x.id y.id=r at hcon ⊢
  obtain ⟨xi,xd,xv,xh⟩:=x
  obtain ⟨yi,yd,yv,yh⟩:=y
  simp only at hcon ⊢
  go_enter Tryz.func69,Tryz.ntmps69
  go_wp2_with (go_at_call 70; refine (hcon _).mono ?_; rintro e w' ⟨rfl,rfl⟩)
  go_ret
  exact ⟨rfl,0,_,by rw [alloc_eq_grow,alloc_eq_grow,grow_grow]; rfl⟩
theorem perm_map_inv {α β:Type} (f:α→β) {l' l:List β} (h:l'.Perm l):∀ {M:List α},M.map f=l→∃ M':List α,M'.Perm M∧l'=M'.map f:=by
  induction h with
  | nil=>intro M hM; exact ⟨M,.refl _,by rw [hM]⟩
  | cons x p ih =>
    intro M hM
    cases M with
    | nil=>cases hM
    | cons a M =>
      injection hM with h1 h2
      obtain ⟨M',h3,h4⟩:=ih h2
      exact ⟨a::M',h3.cons a,by rw [List.map_cons,h1,h4]⟩
  | swap x y l =>
    intro M hM
    match M,hM with
    | a::c::M,hM =>
      injection hM with h1 h2
      injection h2 with h2 h3
      exact ⟨c::a::M,.swap ..,by simp [h1,h2,h3]⟩
  | trans h1 h2 ih1 ih2 =>
    intro M hM
    obtain ⟨M2,h3,h4⟩:=ih2 hM
    obtain ⟨M1,h5,h6⟩:=ih1 h4.symm
    exact ⟨M1,h5.trans h3,h6⟩
theorem inc_perm_eq {L' L:List Cl} (hs:Inc L) (hp:L'.Perm L) (hw:L'.Pairwise fun x y=>x.id≤y.id):L'=L:=by
  induction L generalizing L' with
  | nil=>exact hp.eq_nil
  | cons a L ih =>
    obtain ⟨h1,h2⟩:=List.pairwise_cons.1 hs
    cases L' with
    | nil=>exact absurd hp.symm.eq_nil (by simp)
    | cons a' L' =>
      obtain ⟨h3,h4⟩:=List.pairwise_cons.1 hw
      have e:a'=a:=by
        rcases List.mem_cons.1 (hp.mem_iff.1 (List.mem_cons_self ..)) with h | h
        · exact h
        · rcases List.mem_cons.1 (hp.mem_iff.2 (List.mem_cons_self ..)) with h' | h'
          · exact h'.symm
          · have:=h1 _ h; have:=h3 _ h'; omega
      subst e
      rw [ih h2 (List.Perm.cons_inv hp) h4]
theorem flt_get {α:Type} {f:α→List D} {k:Nat} (h:∀ x,(f x).length=k):∀ (l:List α) (j c:Nat) (x:α),l[j]? = some x→c<k→(flt f l)[j * k+c]? = (f x)[c]?
  | [],j,c,x,hx,_=>by simp at hx
  | y::l,0,c,x,hx,hc=>by
    simp at hx; subst hx
    rw [Nat.zero_mul,Nat.zero_add,show flt f (y::l)=f y++flt f l from by simp [flt],List.getElem?_append_left (by rw [h]; exact hc)]
  | y::l,j+1,c,x,hx,hc=>by
    rw [show flt f (y::l)=f y++flt f l from by simp [flt],List.getElem?_append_right (by rw [h,Nat.add_mul]; omega),h,show (j+1) * k+c - k=j * k+c by rw [Nat.add_mul]; omega]
    exact flt_get h l j c x (by simpa using hx) hc
theorem slice_one {els:List (List D)} {A:Nat→Prop} {W:World} {v:Value} (h:VD A W (.sl els) v):v.oneCell'=true:=by
  obtain ⟨ad,c,rfl,_⟩:=VD_slice h; rfl
set_option maxHeartbeats 1000000 in
theorem Tryz.sortO {L L':List Cl} (hp:L'.Perm L) (hs:Inc L') (hl:L.length<4611686018427387904) :
    OSpec Tryz.prog 68 (.own 0 0 L.length 3) (.cells 47 ((flt encCl L).map .d)) [.lit (.func (.func 69) #[] #[])] (.cells 47 ((flt encCl L').map .d)) (.tp []):=by
  intro A W vs b hA hnb hb hob hlen hv0 hds
  obtain ⟨ob,hob,hcr⟩:=hob
  obtain ⟨v0,hv0,hV0⟩:=hv0
  have hsz:vs.size=2:=by simpa using hlen.symm
  obtain ⟨v1,hv1⟩:∃ v1,vs[1]? = some v1:=⟨vs[1],Array.getElem?_eq_getElem (by omega)⟩
  have hvs:vs=#[v0,v1]:=by
    apply Array.ext_getElem?
    intro k
    match k with
    | 0=>simpa using hv0
    | 1=>simpa using hv1
    | k+2=>rw [Array.getElem?_eq_none (by omega)]; simp
  have h1:=hds 0 _ v1 rfl hv1
  cases h1
  cases hV0 with
  | own _ _ _ _ b' cap cur e hι hb' hcap hlc hm =>
  have hbb:b'=b:=by
    unfold ι1 at hι; simp at hι; exact hι.symm
  subst hbb
  rw [hob] at hb'
  injection hb' with hb'
  subst hb'
  subst hvs
  generalize hn:L.length=n at hlc hcap hl
  have hent:∀ w,(callFunc 68 #[.slice (some ⟨b',0 * 3,none⟩) n cap,.func (.func 69) #[] #[]]).run Tryz.prog w=.ok (.enter 68 #[.slice (some ⟨b',0 * 3,none⟩) n cap,.func (.func 69) #[] #[]]) w:=enters_of Tryz.func68 (by kernel_rfl) rfl _
  refine ⟨hent,?_⟩
  cases hcr with
  | cells _ _ _ hle hcell =>
  have hat:∀ (j c:Nat) (x:Cl),L[j]? = some x→c<3→∃ y u,(encCl x)[c]? = some y∧cur[j * 3+c]? = some u∧VD A W y u:=by
    intro j c x hx hc
    have h2:=flt_get encCl_len L j c x hx hc
    obtain ⟨y,hy⟩:∃ y,(encCl x)[c]? = some y:=⟨_,List.getElem?_eq_getElem (by rw [encCl_len]; exact hc)⟩
    obtain ⟨u,hu,hV⟩:=hcell (j * 3+c) (.d y) (by rw [List.getElem?_map,h2,hy]; rfl)
    cases hV with
    | d _ _ h=>exact ⟨y,u,hy,hu,h⟩
  let M:List (Cl × Value):=L.mapIdx fun j x=>(x,(cur[j * 3+2]?).getD default)
  have hMl:M.length=n:=by simp [M,hn]
  have hMj:∀ j x,L[j]? = some x→M[j]? = some (x,(cur[j * 3+2]?).getD default):=fun j x hx=>by simp [M,List.getElem?_mapIdx,hx]
  have hM1:M.map Prod.fst=L:=by
    apply List.ext_getElem?
    intro j
    rw [List.getElem?_map]
    cases hx:L[j]? with
    | none=>simp [M,List.getElem?_mapIdx,hx]
    | some x=>rw [hMj j x hx]; rfl
  have hM2:∀ p∈M,VD A W (encC p.1.b) p.2:=by
    intro p hpm
    obtain ⟨j,hj⟩:=List.getElem?_of_mem hpm
    have hjl:j<L.length:=by rw [hn,← hMl]; exact (List.getElem?_eq_some_iff.1 hj).1
    have hx:L[j]? = some L[j]:=List.getElem?_eq_getElem hjl
    rw [hMj j _ hx] at hj
    injection hj with hj
    obtain ⟨y,u,hy,hu,hV⟩:=hat j 2 _ hx (by omega)
    subst hj
    simp only [encCl] at hy
    simp at hy
    subst hy
    rw [hu]; exact hV
  have hM3:∀ p∈M,p.2.oneCell'=true:=fun p hpm=>slice_one (hM2 p hpm)
  let d:Array Cv:=(M.map fun p=>mkCv p.1 p.2).toArray
  have hds:d.size=n:=by simp [d,hMl]
  have hmk:∀ p∈M,encCv (mkCv p.1 p.2)=[.int .i64 p.1.id,.int .i64 p.1.dim,p.2]:=fun p hpm=>by
    unfold mkCv; rw [dif_pos (hM3 p hpm)]; rfl
  have hH:HoldsK encCv 3 W b' 0 d:=by
    intro t ht
    rw [size_flatK,hds] at ht
    have hj:t / 3<L.length:=by rw [hn]; omega
    have hx:L[t / 3]? = some L[t / 3]:=List.getElem?_eq_getElem hj
    have hd:d[t / 3]! = mkCv L[t / 3] ((cur[t / 3 * 3+2]?).getD default):=by
      rw [getElem!_pos d (t / 3) (by rw [hds,← hn]; exact hj)]
      have:=hMj _ _ hx
      have h3:=(List.getElem?_eq_some_iff.1 this).2
      simp only [d,List.getElem_toArray,List.getElem_map,h3]
    have hmem:(L[t / 3],(cur[t / 3 * 3+2]?).getD default)∈M:=List.mem_of_getElem? (hMj _ _ hx)
    rw [get_flatK _ _ _ _ (by rw [hds]; exact ht),hd,hmk _ hmem]
    constructor
    · simp only [World.cell?,hob,Nat.zero_add,id]
      obtain ⟨y,u,hy,hu,hV⟩:=hat (t / 3) (t % 3) _ hx (Nat.mod_lt _ (by omega))
      rw [Nat.div_add_mod' t 3] at hu
      simp only [Option.isSome_none,Bool.false_eq_true,if_false,hu]
      rcases (by omega:t % 3=0∨t % 3=1∨t % 3=2) with hc | hc | hc
      · rw [hc] at hy ⊢; simp [encCl] at hy; subst hy; cases hV; rfl
      · rw [hc] at hy ⊢; simp [encCl] at hy; subst hy; cases hV; rfl
      · have:t / 3 * 3+2=t:=by omega
        rw [hc,this,hu]; rfl
    · simp only [World.frozen?,hob]; simp
  have eg:∀ args w,(callFunc 69 args).run Tryz.prog w=.ok (.enter 69 args) w:=enters_of Tryz.func69 (by kernel_rfl) rfl
  have hcall:=Tryz.sortFuncC encCv (fun _=>rfl) (fun x v hv=>by simp [encCv] at hv; rcases hv with rfl | rfl | rfl; rfl; rfl; exact x.h1) cfC swoC 69 #[] b' 0 cap d W eg (fun _ _ _ _ x y=>Tryz.closC x y _) hH hb (by rw [hds]; exact hl)
  rw [hds] at hcall
  refine hcall.mono ?_
  rintro e' w' ⟨rfl,q,os,rfl⟩
  have hpd:=pdq_sorts (ltOf cfC) swoC d 0 n (Lib.bitLen n) true true (Nat.zero_le _) (by rw [hds]; exact Nat.le_refl _) (Or.inl rfl)
  generalize pdq (ltOf cfC) d 0 n (Lib.bitLen n) true true=d' at hpd ⊢
  obtain ⟨⟨hd1,_,hd2⟩,hso⟩:=hpd
  rw [hds] at hd1
  have hdp:d'.toList.Perm d.toList:=by
    have e1:d'.extract 0 n=d':=by rw [← hd1]; simp
    have e2:d.extract 0 n=d:=by rw [← hds]; simp
    rwa [e1,e2] at hd2
  obtain ⟨M',hM',hdM⟩:=perm_map_inv (fun p:Cl × Value=>mkCv p.1 p.2) hdp (M:=M) (by simp [d])
  have hlM:M'.length=n:=by rw [hM'.length_eq,hMl]
  have hidk:∀ p:Cl × Value,(mkCv p.1 p.2).id=p.1.id:=fun p=>by unfold mkCv; split <;> rfl
  have hdj:∀ j (h:j<M'.length),d'[j]! = mkCv M'[j].1 M'[j].2:=fun j h=>by
    rw [getElem!_pos d' j (by rw [hd1,← hlM]; exact h),← Array.getElem_toList]
    simp only [hdM,List.getElem_map]
  have hLM:M'.map Prod.fst=L':=by
    refine inc_perm_eq hs (((hM'.map Prod.fst).trans (by rw [hM1])).trans hp.symm) ?_
    rw [List.pairwise_iff_getElem]
    intro i j hi hj hij
    rw [List.length_map] at hi hj
    have:=hso i j (Nat.zero_le _) hij (by rw [← hlM]; exact hj)
    rw [hdj j hj,hdj i hi,ltC,hidk,hidk] at this
    simp at this
    simpa using this
  have hM2':∀ p∈M',VD A W (encC p.1.b) p.2∧encCv (mkCv p.1 p.2)=[.int .i64 p.1.id,.int .i64 p.1.dim,p.2]:=fun p hpm=>⟨hM2 p (hM'.mem_iff.1 hpm),hmk p (hM'.mem_iff.1 hpm)⟩
  have hw:(sortWorldK encCv 3 W b' 0 q d' os).heap=W.heap.modify b' (onCells (putCells id 0 (flatK encCv 3 d')))++os:=rfl
  have hblk:∀ k,k<W.heap.size→k≠b'→(sortWorldK encCv 3 W b' 0 q d' os).heap[k]? = W.heap[k]? := fun k hk hkb=>by
    rw [hw,Array.getElem?_append_left (by simpa using hk),Array.getElem?_modify,if_neg (Ne.symm hkb)]
  have hbl:(sortWorldK encCv 3 W b' 0 q d' os).heap[b']? = some (.cells (putCells id 0 (flatK encCv 3 d') cur) 47 (0,0)):=by
    rw [hw,Array.getElem?_append_left (by simpa using hb),Array.getElem?_modify,if_pos rfl,hob]; rfl
  have hszc:(putCells id 0 (flatK encCv 3 d') cur).size=cur.size:=by simp [putCells]
  refine ⟨_,_,rfl,⟨rfl,rfl,rfl,by rw [hw]; simp,fun k hk hkb=>hblk k hk hkb,fun k c e hk hc=>?_⟩,hbl,fun c e hc=>?_,?_,.tp _ _ rfl (fun k c v hk=>by simp at hk)⟩
  · by_cases hkb:k=b'
    · subst hkb
      rw [hob] at hc; injection hc with hc; injection hc with hc1 hc2; subst hc1; subst hc2
      exact ⟨_,hbl,hszc⟩
    · exact ⟨c,(hblk k hk hkb).trans hc,rfl⟩
  · rw [hob] at hc; injection hc with hc; injection hc with hc1 hc2; subst hc1; subst hc2
    exact ⟨_,rfl,hszc⟩
  · have hLl:L'.length=n:=by rw [← hLM,List.length_map,hlM]
    refine .cells _ _ _ (by rw [List.length_map,flt_len encCl_len,hLl,hszc]; rw [List.length_map,flt_len encCl_len,hn] at hle; exact hle) ?_
    intro k c hk
    have hkl:k<n * 3:=by
      have:=(List.getElem?_eq_some_iff.1 hk).1
      rw [List.length_map,flt_len encCl_len,hLl] at this; exact this
    have hj:k / 3<M'.length:=by rw [hlM]; omega
    have hx:L'[k / 3]? = some M'[k / 3].1:=by
      rw [← hLM,List.getElem?_map,List.getElem?_eq_getElem hj]; rfl
    have h2:=flt_get encCl_len L' (k / 3) (k % 3) _ hx (Nat.mod_lt _ (by omega))
    rw [Nat.div_add_mod' k 3] at h2
    have hcs:k<cur.size:=by
      rw [List.length_map,flt_len encCl_len,hn] at hle; omega
    obtain ⟨hv1,hv2⟩:=hM2' _ (List.getElem_mem hj)
    have hcell':(putCells id 0 (flatK encCv 3 d') cur)[k]? = some (encCv (mkCv M'[k / 3].1 M'[k / 3].2))[k % 3]! := by
      simp only [putCells,Array.getElem?_mapIdx,Array.getElem?_eq_getElem hcs,Option.map_some,size_flatK,hd1]
      rw [if_pos ⟨Nat.zero_le _,by omega⟩,Nat.sub_zero,get_flatK _ _ _ _ (by rw [hd1]; exact hkl),hdj _ hj]; rfl
    rw [hv2] at hcell'
    refine ⟨_,hcell',?_⟩
    rw [List.getElem?_map,h2] at hk
    rcases (by omega:k % 3=0∨k % 3=1∨k % 3=2) with hc | hc | hc
    · rw [hc] at hk ⊢; simp [encCl] at hk; subst hk; exact .d _ _ (.i ..)
    · rw [hc] at hk ⊢; simp [encCl] at hk; subst hk; exact .d _ _ (.i ..)
    · rw [hc] at hk ⊢; simp [encCl] at hk; subst hk
      exact .d _ _ (hv1.step (fun x hx=>.inl hx) fun x hx=>hblk x (hA x hx) fun h=>hnb (h ▸ hx))
end Go.Proofs
end

section
set_option linter.unusedVariables false
set_option linter.unusedSimpArgs false
open List (map_map mapM_map)
open Go Go.Am Go.Proofs
namespace Go.Am
theorem encF_len' (x:Int × Int):(encF x).length=3:=rfl
theorem encF_one' (x:Int × Int):((encF x).map AV.d).all one=true:=rfl
set_option maxHeartbeats 4000000 in
theorem cloneS1 {l:Ch} (h0:l≠[]) (hl:l.length≤1000000):Spec Tryz.prog 67 [encC l] (encC l):=by
  refine spec_of (N:=8) follows_mixed Tryz.func67 rfl rfl rfl (by kernel_rfl) (by kernel_rfl) (by simp) ?_
  obtain ⟨x,r,rfl⟩:=List.exists_cons_of_ne_nil h0
  obtain ⟨a,t,hE,hcond,hval,hlen⟩:∃ a t,encC (x::r)=.sl (a::t)∧(a.length=3∧(∀ x,x∈a→one (AV.d x)=true)∧∀ x,x∈t→∀ y,y∈x→one (AV.d y)=true)∧List.map AV.d a++(t.map (List.map AV.d)).flatten=(flt encF (x::r)).map .d∧t.length+1=(x::r).length:=by
    have h1:∀ x:Int × Int,∀ y∈encF x,one (AV.d y)=true:=fun x y hy=>by
      have:=List.all_eq_true.1 (encF_one' x) (.d y) (List.mem_map.2 ⟨y,hy,rfl⟩)
      exact this
    refine ⟨encF x,r.map encF,rfl,⟨rfl,h1 x,fun z hz y hy=>?_⟩,?_,by simp⟩
    · obtain ⟨w,_,rfl⟩:=List.mem_map.1 hz
      exact h1 w y hy
    · simp [flt,List.map_flatten]
  have hall:∀ y,y∈flt encF (x::r)→one (AV.d y)=true:=fun y hy=>List.all_eq_true.1 (flt_all encF_one' (x::r)) (.d y) (List.mem_map.2 ⟨y,hy,rfl⟩)
  have e1:=flt_len encF_len' (x::r)
  have e2:((flt encF (x::r)).map AV.d).take ((x::r).length * 3)=(flt encF (x::r)).map AV.d:=flt_take encF_len' rfl
  have e3:chunk 3 (x::r).length (flt encF (x::r))=(x::r).map encF:=flt_chunk (by decide) encF_len' rfl
  generalize hL:x::r=l at *
  have hall':=eq_true hall
  have hbb:l.length * 40≤140737488355328∧l.length≤maxLen:=⟨by omega,le_maxLen (by omega)⟩
  rw [hE]
  simp (maxSteps:=1000000) [-map_map,-mapM_map,↓KW,hcond,hval,hlen,hbb,appC,hall']
  rw [e2]
  exact ⟨Nat.le_of_eq e1.symm,_,mapM_d _ 6 _,e3.trans (by injection hE)⟩
set_option maxHeartbeats 4000000 in
theorem cloneS0:Spec Tryz.prog 67 [encC []] (encC []):=by
  refine spec_of (N:=8) follows_mixed Tryz.func67 rfl rfl rfl (by kernel_rfl) (by kernel_rfl) (by simp) ?_
  simp (maxSteps:=1000000) [-map_map,-mapM_map,↓KW,encC]
end Go.Am
end

section
set_option linter.unusedVariables false
set_option linter.unusedSimpArgs false
open Go Go.Am Go.Proofs
namespace Go.Am
def eqL {α:Type} (f:α→α→Bool):List α→List α→Bool
  | [],[]=>true
  | x::a,y::b=>f x y && eqL f a b
  | _,_=>false
theorem eqL_ok {α:Type} {f:α→α→Bool} (h:∀ x y,f x y=true→x=y):∀ (a b:List α),eqL f a b=true→a=b
  | [],[],_=>rfl
  | x::a,y::b,e=>by
    simp only [eqL,Bool.and_eq_true] at e
    rw [h _ _ e.1,eqL_ok h _ _ e.2]
  | [],_::_,e=>by cases e
  | _::_,[],e=>by cases e
def eqD:Nat→D→D→Bool
  | 0,_,_=>false
  | n+1,x,y=>match x,y with
    | .b p,.b q=>p == q
    | .i k a,.i l b=>decide (k=l) && decide (a=b)
    | .sl a,.sl b=>eqL (eqL (eqD n)) a b
    | .ag a,.ag b=>eqL (eqD n) a b
    | _,_=>false
theorem eqD_ok:∀ (n:Nat) (x y:D),eqD n x y=true→x=y
  | 0,_,_,h=>by cases h
  | n+1,x,y,h=>by
    have ih:=eqD_ok n
    unfold eqD at h
    split at h
    · simp only [beq_iff_eq] at h; rw [h]
    · simp only [Bool.and_eq_true,decide_eq_true_eq] at h; rw [h.1,h.2]
    · rw [eqL_ok (eqL_ok ih) _ _ h]
    · rw [eqL_ok ih _ _ h]
    · cases h
/-! Data with coefficients of one digit, as it stands -/
def encF1 (f:Int × Int):List D:=[.i .i64 f.1,.b (decide (f.2<0)),.sl [[.i .u32 (f.2.natAbs:Int)]]]
def encC1 (l:Ch):D:=.sl (l.map encF1)
def encX1 (c:List Cl):D:=.sl (c.map fun x=>[.i .i64 x.id,.i .i64 x.dim,encC1 x.b])
def dg (f:Int × Int):Bool:=decide (0<f.2.natAbs) && decide (f.2.natAbs<4294967296)
theorem encF1_eq {f:Int × Int} (h:dg f=true):encF f=encF1 f:=by
  simp only [dg,Bool.and_eq_true,decide_eq_true_eq] at h
  simp [encF,encF1,encM,digs_one h.1 h.2]
theorem encC1_eq {l:Ch} (h:l.all dg=true):encC l=encC1 l:=by
  unfold encC encC1
  congr 1
  exact List.map_congr_left fun f hf=>encF1_eq (List.all_eq_true.1 h f hf)
theorem encX1_eq {c:List Cl} (h:(c.all fun x=>x.b.all dg)=true):encX c=encX1 c:=by
  unfold encX encX1
  congr 1
  refine List.map_congr_left fun x hx=>?_
  rw [← encC1_eq (List.all_eq_true.1 h x hx)]; rfl
theorem ospec_in {P:Program} {f:FuncId} {h:AV} {o o1 o':HO} {ds:List D} {r:D} (hcr:∀ A W ι ob,CR A W ι o1 ob→CR A W ι o ob) (hs:OSpec P f h o ds o' r):OSpec P f h o1 ds o' r :=
  fun A W vs b hA hnb hb ⟨ob,hob,hc⟩ hl hv hd=>hs A W vs b hA hnb hb ⟨ob,hob,hcr _ _ _ _ hc⟩ hl hv hd
def leA:AV→AV→Bool
  | .d x,.d y=>eqD 8 x y
  | .nil,.d (.sl [])=>true
  | _,_=>false
theorem leA_V {x y:AV} {F:Nat→Prop} {w:World} {ι:Nat→Option Nat} {v:Value} (h:leA x y=true) (hv:V F w ι x v):V F w ι y v:=by
  unfold leA at h
  split at h
  · rw [← eqD_ok _ _ _ h]; exact hv
  · cases hv; exact .d _ _ (.sl0 none 0)
  · cases h
theorem leL_at {x y:List AV} (h:eqL leA x y=true):x.length=y.length∧∀ (k:Nat) b,y[k]? = some b→∃ a,x[k]? = some a∧leA a b=true:=by
  induction x generalizing y with
  | nil=>cases y with
    | nil=>exact ⟨rfl,fun k b h=>by simp at h⟩
    | cons=>cases h
  | cons a x ih=>cases y with
    | nil=>cases h
    | cons b y =>
      simp only [eqL,Bool.and_eq_true] at h
      obtain ⟨h1,h2⟩:=ih h.2
      refine ⟨by simp [h1],fun k c hc=>?_⟩
      cases k with
      | zero=>simp at hc; subst hc; exact ⟨a,rfl,h.1⟩
      | succ k=>exact h2 k c (by simpa using hc)
def leO:HO→HO→Bool
  | .cells e a,.cells e' b=>decide (e=e') && eqL leA a b
  | _,_=>false
theorem leO_CR {o1 o:HO} (h:leO o1 o=true) (A:Nat→Prop) (W:World) (ι:Nat→Option Nat) (ob:Obj) (hc:CR A W ι o1 ob):CR A W ι o ob:=by
  unfold leO at h
  split at h
  · simp only [Bool.and_eq_true,decide_eq_true_eq] at h
    obtain ⟨rfl,h⟩:=h
    obtain ⟨h1,h2⟩:=leL_at h
    cases hc with
    | cells _ _ cur hl hh =>
      refine .cells _ _ cur (by omega) fun k c hk=>?_
      obtain ⟨a,ha,hle⟩:=h2 k c hk
      obtain ⟨u,hu,hV⟩:=hh k a ha
      exact ⟨u,hu,leA_V hle hV⟩
  · cases h
def litS:List D→Bool
  | [.lit (.func (.func g) a b)]=>g == 69 && a.isEmpty && b.isEmpty
  | _=>false
def ownS (n:Nat):AV→Bool
  | .own 0 0 m 3=>m == n
  | _=>false
def E31 (T:List (FuncId × List D × D)) (n:Nat) (o o':HO):Kn:={ E0 with
  call:=fun f ds=>match T.find? (fun p=>p.1 == f && eqL (eqD 8) ds p.2.1) with
      | some p=>some p.2.2
      | none=>E0.call f ds
  ocall:=fun f h o1 ds=>if f=68∧ownS n h=true∧leO o1 o=true∧litS ds=true then some (o',.tp []) else none
  recs:=fun g=>E0.recs g || [43,79,54,65].contains g }
theorem rec54:RecSpec Tryz.prog 54:=by
  refine ⟨fun w=>enters_of Tryz.func54 (by kernel_rfl) rfl _ w,fun w=>?_⟩
  refine callsD_of_wpS Tryz.func54 rfl fun c₀ cs hu=>?_
  apply wpS_region
  simp [wpOpsS,go_sem,recoverD,hu,Tryz.ntmps54,bodyPostS,results,Tryz.results54]
  cases c₀; simp only at hu; subst hu; rfl
theorem rec65:RecSpec Tryz.prog 65:=by
  refine ⟨fun w=>enters_of Tryz.func65 (by kernel_rfl) rfl _ w,fun w=>?_⟩
  refine callsD_of_wpS Tryz.func65 rfl fun c₀ cs hu=>?_
  apply wpS_region
  simp [wpOpsS,go_sem,recoverD,hu,Tryz.ntmps65,bodyPostS,results,Tryz.results65]
  cases c₀; simp only at hu; subst hu; rfl
theorem E31_ok {T:List (FuncId × List D × D)} {n:Nat} {o o':HO} (hT:∀ p∈T,Spec Tryz.prog p.1 p.2.1 p.2.2)
    (hS:OSpec Tryz.prog 68 (.own 0 0 n 3) o [.lit (.func (.func 69) #[] #[])] o' (.tp [])):KnOk Tryz.prog (E31 T n o o'):=by
  have h0:=E0_ok
  refine ⟨fun f ds r hc=>?_,fun f h o1 ds o2 r hc=>?_,h0.keys,h0.sorted,fun g hg=>?_⟩
  · simp only [E31] at hc
    split at hc
    · rename_i p hp
      injection hc with hc; subst hc
      have h1:=List.find?_some hp
      simp only [Bool.and_eq_true,beq_iff_eq] at h1
      rw [← h1.1,eqL_ok (eqD_ok 8) _ _ h1.2]
      exact hT p (List.mem_of_find?_eq_some hp)
    · exact h0.call _ _ _ hc
  · simp only [E31] at hc
    split at hc
    · rename_i hh
      obtain ⟨rfl,h1,h2,h3⟩:=hh
      injection hc with hc; injection hc with hc1 hc2; subst hc1; subst hc2
      have e1:h=.own 0 0 n 3:=by
        unfold ownS at h1
        split at h1
        · simp only [beq_iff_eq] at h1; rw [h1]
        · cases h1
      have e2:ds=[.lit (.func (.func 69) #[] #[])]:=by
        unfold litS at h3
        split at h3
        · simp only [Bool.and_eq_true,beq_iff_eq,Array.isEmpty_iff] at h3
          obtain ⟨⟨h3,h4⟩,h5⟩:=h3
          rw [h3,h4,h5]
        · cases h3
      rw [e1,e2]
      exact ospec_in (leO_CR h2) hS
    · cases hc
  · simp only [E31,Bool.or_eq_true,List.contains_eq_mem,decide_eq_true_eq,List.mem_cons,List.mem_nil_iff,or_false] at hg
    rcases hg with hg | rfl | rfl | rfl | rfl
    · exact h0.recs g hg
    · exact rec43
    · exact rec79
    · exact rec54
    · exact rec65
def seg31:List Cl:=[⟨1,0,[]⟩,⟨2,0,[]⟩,⟨3,1,[(1,-1),(2,1)]⟩]
def lp31:List Cl:=[⟨1,0,[]⟩,⟨2,1,[(1,2)]⟩]
def sU31:List Cl:=[⟨7,0,[]⟩,⟨8,1,[(2,1),(7,-1)]⟩,⟨1,0,[]⟩,⟨2,0,[]⟩,⟨3,1,[(1,-1),(7,1)]⟩]
def sS31:List Cl:=[⟨1,0,[]⟩,⟨2,0,[]⟩,⟨3,1,[(1,-1),(7,1)]⟩,⟨7,0,[]⟩,⟨8,1,[(2,1),(7,-1)]⟩]
def encCl1 (x:Cl):List D:=[.i .i64 x.id,.i .i64 x.dim,encC1 x.b]
theorem flt1_eq {c:List Cl} (h:(c.all fun x=>x.b.all dg)=true):flt encCl c=flt encCl1 c:=by
  unfold flt
  congr 1
  refine List.map_congr_left fun x hx=>?_
  unfold encCl encCl1
  rw [encC1_eq (List.all_eq_true.1 h x hx)]
def encMp1 (m:List (Int × Ch)):D:=.sl (m.map fun p=>[.i .i64 p.1,encC1 p.2])
def encR31 (r:List Cl × List (Int × Ch) × Int):D:=.tp [encX1 r.1,encMp1 r.2.1,.i .i64 r.2.2]
theorem encMp1_eq {m:List (Int × Ch)} (h:(m.all fun x=>x.2.all dg)=true):encMp m=encMp1 m:=by
  unfold encMp encMp1
  congr 1
  refine List.map_congr_left fun x hx=>?_
  rw [← encC1_eq (List.all_eq_true.1 h x hx)]; rfl
def dgX (c:List Cl):Bool:=c.all fun x=>x.b.all dg
def smX (c:List Cl):Bool:=c.all fun x=>decide (x.b.length≤100) && x.b.all fun f=>decide (f.2.natAbs≤2) && inr f.1
theorem smX_sz {c:List Cl} (hl:c.length≤100) (h2:smX c=true):SzX 1 c∧∀ x∈c,Keys x.b:=by
  refine ⟨⟨hl,fun x hx=>?_,fun x hx f hf=>?_⟩,fun x hx f hf=>?_⟩
  all_goals
    have:=List.all_eq_true.1 h2 x hx
    simp only [Bool.and_eq_true,decide_eq_true_eq] at this
  · exact this.1
  · have h3:=List.all_eq_true.1 this.2 f hf
    simp only [Bool.and_eq_true,decide_eq_true_eq] at h3
    exact h3.1
  · have h3:=List.all_eq_true.1 this.2 f hf
    simp only [Bool.and_eq_true,decide_eq_true_eq] at h3
    exact h3.2
theorem free31 {c:List Cl} {l:List (Int × Int)} (h1:dgX c=true) (hl:c.length≤100) (h2:smX c=true) (hf:freeX c=l):Spec Tryz.prog 22 [encX1 c] (encPrs l):=by
  rw [← encX1_eq h1,← hf]
  exact mgFree (e:=1) (smX_sz hl h2).1 (by omega)
theorem col31 {c:List Cl} {a b:Int} {r:List Cl × List (Int × Ch) × Int} (h1:dgX c=true) (hl:c.length≤100) (h2:smX c=true) (hc:Inc c) (hr:colX c a b=r) (h3:dgX r.1=true) (h4:(r.2.1.all fun x=>x.2.all dg)=true) :
    Spec Tryz.prog 29 [encX1 c,.i .i64 a,.i .i64 b] (encR31 r):=by
  have h:=mgCollapse (e:=1) a b hc (smX_sz hl h2).1 (smX_sz hl h2).2 (by omega)
  rw [hr,encX1_eq h1] at h
  unfold encR3 at h
  rw [encX1_eq h3,encMp1_eq h4] at h
  exact h
def T31:List (FuncId × List D × D):=[(22,[encX1 seg31],encPrs [(3,1),(3,2)]),(22,[encX1 [⟨2,0,[]⟩]],encPrs []),(22,[encX1 []],encPrs []),
  (67,[encC1 []],encC1 []),(67,[encC1 [(1,-1),(2,1)]],encC1 [(1,-1),(2,1)]),
  (29,[encX1 seg31,.i .i64 3,.i .i64 2],encR31 ([⟨1,0,[]⟩],[(1,[(1,1)]),(2,[(1,1)]),(3,[])],0)),(29,[encX1 seg31,.i .i64 3,.i .i64 1],encR31 ([⟨2,0,[]⟩],[(1,[(2,1)]),(2,[(2,1)]),(3,[])],0)),
  (29,[encX1 lp31,.i .i64 2,.i .i64 1],encR31 ([],[],310)),(29,[encX1 seg31,.i .i64 3,.i .i64 9],encR31 ([],[],250))]
theorem T31_ok:∀ p∈T31,Spec Tryz.prog p.1 p.2.1 p.2.2:=by
  intro p hp
  simp only [T31,List.mem_cons,List.mem_nil_iff,or_false] at hp
  rcases hp with rfl | rfl | rfl | rfl | rfl | rfl | rfl | rfl | rfl
  · exact free31 (by decide) (by decide) (by decide) (by decide)
  · exact free31 (by decide) (by decide) (by decide) (by decide)
  · exact free31 (by decide) (by decide) (by decide) (by decide)
  · have:=cloneS0; rwa [encC1_eq (by decide)] at this
  · have:=cloneS1 (l:=[(1,-1),(2,1)]) (by simp) (by simp); rwa [encC1_eq (by decide)] at this
  · exact col31 (by decide) (by decide) (by decide) (by unfold Inc seg31; decide) (by decide) (by decide) (by decide)
  · exact col31 (by decide) (by decide) (by decide) (by unfold Inc seg31; decide) (by decide) (by decide) (by decide)
  · exact col31 (by decide) (by decide) (by decide) (by unfold Inc lp31; decide) (by decide) (by decide) (by decide)
  · exact col31 (by decide) (by decide) (by decide) (by unfold Inc seg31; decide) (by decide) (by decide) (by decide)
theorem S31:OSpec Tryz.prog 68 (.own 0 0 5 3) (.cells 47 ((flt encCl1 sU31).map .d)) [.lit (.func (.func 69) #[] #[])] (.cells 47 ((flt encCl1 sS31).map .d)) (.tp []):=by
  have:=Tryz.sortO (L:=sU31) (L':=sS31) (by decide) (by unfold Inc sS31; decide) (by decide)
  rwa [flt1_eq (by decide),flt1_eq (by decide)] at this
def K31:Kn:=E31 T31 5 (.cells 47 ((flt encCl1 sU31).map .d)) (.cells 47 ((flt encCl1 sS31).map .d))
theorem K31_ok:KnOk Tryz.prog K31:=E31_ok T31_ok S31
end Go.Am
end

section
set_option linter.unusedVariables false
set_option linter.unusedSimpArgs false
open Go Go.Am Go.Proofs
namespace Go.Am
theorem sanity31:Spec Tryz.prog 8 [] (.b true) :=
  (runK_ok (fuel:=100) follows_mixed K31_ok 20).call 8 [] (.b true) (by kernel_rfl)
end Go.Am
end
