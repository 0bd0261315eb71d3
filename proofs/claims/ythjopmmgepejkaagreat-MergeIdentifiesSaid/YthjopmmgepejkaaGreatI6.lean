/- The program's merges: is a pair in a list. No condition. -/
import Derived.Test.YthjopmmgepejkaaGreatI5
import Derived.Test.YthjopmmgepejkaaGreatI4
import Derived.Test.YthjopmmgepejkaaGreatRows
section
set_option linter.unusedVariables false
set_option linter.unusedSimpArgs false
open List (map_map mapM_map)
open Go Go.Am Go.Proofs
namespace Go.Am
def spc:Nat→List Cl
 | 0=>[]
 | 1=>[⟨1,0,[]⟩]
 | 2=>[⟨1,0,[]⟩,⟨7,0,[]⟩]
 | 3=>[⟨1,0,[]⟩,⟨2,0,[]⟩,⟨3,1,[(1,-1),(2,1)]⟩]
 | 4=>[⟨1,0,[]⟩,⟨2,1,[]⟩]
 | 5=>[⟨1,0,[]⟩,⟨2,0,[]⟩,⟨3,0,[]⟩,⟨4,1,[(1,-1),(2,1)]⟩,⟨5,1,[(2,-1),(3,1)]⟩,⟨6,1,[(1,1),(3,-1)]⟩]
 | 6=>[⟨1,0,[]⟩,⟨2,0,[]⟩,⟨3,0,[]⟩,⟨4,1,[(1,-1),(2,1)]⟩,⟨5,1,[(2,-1),(3,1)]⟩,⟨6,1,[(1,1),(3,-1)]⟩,⟨9,2,[(4,1),(5,1),(6,1)]⟩]
 | 7=>[⟨1,0,[]⟩,⟨2,2,[]⟩]
 | 8=>[⟨1,0,[]⟩,⟨2,1,[]⟩,⟨3,1,[]⟩,⟨4,2,[]⟩]
 | 9=>[⟨1,0,[]⟩,⟨2,1,[]⟩,⟨3,2,[(2,2)]⟩]
 | 10=>[⟨1,0,[]⟩,⟨2,1,[]⟩,⟨3,1,[]⟩,⟨4,2,[(2,2)]⟩]
 | 11=>[⟨1,0,[]⟩,⟨2,1,[]⟩,⟨3,2,[(2,3)]⟩,⟨4,3,[]⟩]
 | 12=>[⟨1,0,[]⟩,⟨2,1,[]⟩,⟨3,2,[(2,4)]⟩,⟨4,2,[(2,6)]⟩]
 | 13=>[⟨1,0,[]⟩,⟨2,1,[]⟩,⟨3,0,[]⟩,⟨5,1,[]⟩,⟨6,2,[(5,2)]⟩]
 | _=>[]
theorem cell0:Spec Tryz.prog 86 [.i .i64 1,.i .i64 0,encL []] (.ag [.i .i64 1,.i .i64 0,encC []]):=r26Cell 1 0 [] (by decide) (by decide)
theorem cell1:Spec Tryz.prog 86 [.i .i64 2,.i .i64 1,encL []] (.ag [.i .i64 2,.i .i64 1,encC []]):=r26Cell 2 1 [] (by decide) (by decide)
theorem cell2:Spec Tryz.prog 86 [.i .i64 2,.i .i64 0,encL []] (.ag [.i .i64 2,.i .i64 0,encC []]):=r26Cell 2 0 [] (by decide) (by decide)
theorem cell3:Spec Tryz.prog 86 [.i .i64 3,.i .i64 0,encL []] (.ag [.i .i64 3,.i .i64 0,encC []]):=r26Cell 3 0 [] (by decide) (by decide)
theorem cell4:Spec Tryz.prog 86 [.i .i64 4,.i .i64 1,encL [1,-1,2,1]] (.ag [.i .i64 4,.i .i64 1,encC [(1,-1),(2,1)]]):=r26Cell 4 1 [1,-1,2,1] (by decide) (by decide)
theorem cell5:Spec Tryz.prog 86 [.i .i64 5,.i .i64 1,encL [2,-1,3,1]] (.ag [.i .i64 5,.i .i64 1,encC [(2,-1),(3,1)]]):=r26Cell 5 1 [2,-1,3,1] (by decide) (by decide)
theorem cell6:Spec Tryz.prog 86 [.i .i64 6,.i .i64 1,encL [1,1,3,-1]] (.ag [.i .i64 6,.i .i64 1,encC [(1,1),(3,-1)]]):=r26Cell 6 1 [1,1,3,-1] (by decide) (by decide)
theorem cell7:Spec Tryz.prog 86 [.i .i64 7,.i .i64 0,encL []] (.ag [.i .i64 7,.i .i64 0,encC []]):=r26Cell 7 0 [] (by decide) (by decide)
theorem cell8:Spec Tryz.prog 86 [.i .i64 3,.i .i64 1,encL [1,-1,2,1]] (.ag [.i .i64 3,.i .i64 1,encC [(1,-1),(2,1)]]):=r26Cell 3 1 [1,-1,2,1] (by decide) (by decide)
theorem cell9:Spec Tryz.prog 86 [.i .i64 9,.i .i64 2,encL [4,1,5,1,6,1]] (.ag [.i .i64 9,.i .i64 2,encC [(4,1),(5,1),(6,1)]]):=r26Cell 9 2 [4,1,5,1,6,1] (by decide) (by decide)
theorem cell10:Spec Tryz.prog 86 [.i .i64 2,.i .i64 2,encL []] (.ag [.i .i64 2,.i .i64 2,encC []]):=r26Cell 2 2 [] (by decide) (by decide)
theorem cell11:Spec Tryz.prog 86 [.i .i64 3,.i .i64 1,encL []] (.ag [.i .i64 3,.i .i64 1,encC []]):=r26Cell 3 1 [] (by decide) (by decide)
theorem cell12:Spec Tryz.prog 86 [.i .i64 4,.i .i64 2,encL []] (.ag [.i .i64 4,.i .i64 2,encC []]):=r26Cell 4 2 [] (by decide) (by decide)
theorem cell13:Spec Tryz.prog 86 [.i .i64 3,.i .i64 2,encL [2,2]] (.ag [.i .i64 3,.i .i64 2,encC [(2,2)]]):=r26Cell 3 2 [2,2] (by decide) (by decide)
theorem cell14:Spec Tryz.prog 86 [.i .i64 4,.i .i64 2,encL [2,2]] (.ag [.i .i64 4,.i .i64 2,encC [(2,2)]]):=r26Cell 4 2 [2,2] (by decide) (by decide)
theorem cell15:Spec Tryz.prog 86 [.i .i64 3,.i .i64 2,encL [2,3]] (.ag [.i .i64 3,.i .i64 2,encC [(2,3)]]):=r26Cell 3 2 [2,3] (by decide) (by decide)
theorem cell16:Spec Tryz.prog 86 [.i .i64 4,.i .i64 3,encL []] (.ag [.i .i64 4,.i .i64 3,encC []]):=r26Cell 4 3 [] (by decide) (by decide)
theorem cell17:Spec Tryz.prog 86 [.i .i64 3,.i .i64 2,encL [2,4]] (.ag [.i .i64 3,.i .i64 2,encC [(2,4)]]):=r26Cell 3 2 [2,4] (by decide) (by decide)
theorem cell18:Spec Tryz.prog 86 [.i .i64 4,.i .i64 2,encL [2,6]] (.ag [.i .i64 4,.i .i64 2,encC [(2,6)]]):=r26Cell 4 2 [2,6] (by decide) (by decide)
theorem cell19:Spec Tryz.prog 86 [.i .i64 5,.i .i64 1,encL []] (.ag [.i .i64 5,.i .i64 1,encC []]):=r26Cell 5 1 [] (by decide) (by decide)
theorem cell20:Spec Tryz.prog 86 [.i .i64 6,.i .i64 2,encL [5,2]] (.ag [.i .i64 6,.i .i64 2,encC [(5,2)]]):=r26Cell 6 2 [5,2] (by decide) (by decide)
set_option maxHeartbeats 2000000 in
set_option maxRecDepth 10000 in
theorem space0 (k:Int) (hk:k.tmod 14=0):Spec Tryz.prog 35 [.i .u8 k] (encX (spc 0)):=by
 have hr:encX (spc 0)=.sl []:=rfl
 have hw:IntKind.u8.wrap 0=0:=by decide
 have hm2:∀ n,n≤100→n≤maxLen:=fun n h=>le_maxLen (by omega)
 rw [hr]
 refine spec_of (N:=104) follows_mixed Tryz.func35 rfl rfl rfl (by kernel_rfl) (by kernel_rfl) (by simp) ?_
 simp (maxSteps:=1000000) [-map_map,-mapM_map,↓KW,]
 refine callP_intro (ds:=[.i .i64 1,.i .i64 0,encL []]) (by rfl) cell0 ?_
 simp (maxSteps:=1000000) [-map_map,-mapM_map,↓KW,hk,hw,hm2,one_encC,cellsA_encC,inj1_encC,inj_encC]
 refine callP_intro (ds:=[.i .i64 2,.i .i64 1,encL []]) (by rfl) cell1 ?_
 simp (maxSteps:=1000000) [-map_map,-mapM_map,↓KW,hk,hw,hm2,one_encC,cellsA_encC,inj1_encC,inj_encC]
 refine callP_intro (ds:=[.i .i64 2,.i .i64 0,encL []]) (by rfl) cell2 ?_
 simp (maxSteps:=1000000) [-map_map,-mapM_map,↓KW,hk,hw,hm2,one_encC,cellsA_encC,inj1_encC,inj_encC]
 refine callP_intro (ds:=[.i .i64 3,.i .i64 0,encL []]) (by rfl) cell3 ?_
 simp (maxSteps:=1000000) [-map_map,-mapM_map,↓KW,hk,hw,hm2,one_encC,cellsA_encC,inj1_encC,inj_encC]
 refine callP_intro (ds:=[.i .i64 4,.i .i64 1,encL [1,-1,2,1]]) (by rfl) cell4 ?_
 simp (maxSteps:=1000000) [-map_map,-mapM_map,↓KW,hk,hw,hm2,one_encC,cellsA_encC,inj1_encC,inj_encC]
 refine callP_intro (ds:=[.i .i64 5,.i .i64 1,encL [2,-1,3,1]]) (by rfl) cell5 ?_
 simp (maxSteps:=1000000) [-map_map,-mapM_map,↓KW,hk,hw,hm2,one_encC,cellsA_encC,inj1_encC,inj_encC]
 refine callP_intro (ds:=[.i .i64 6,.i .i64 1,encL [1,1,3,-1]]) (by rfl) cell6 ?_
 simp (maxSteps:=1000000) [-map_map,-mapM_map,↓KW,hk,hw,hm2,one_encC,cellsA_encC,inj1_encC,inj_encC]
set_option maxHeartbeats 2000000 in
set_option maxRecDepth 10000 in
theorem space1 (k:Int) (hk:k.tmod 14=1):Spec Tryz.prog 35 [.i .u8 k] (encX (spc 1)):=by
 have hr:encX (spc 1)=.sl [[.i .i64 1,.i .i64 0,encC []]]:=rfl
 have hw:IntKind.u8.wrap 1=1:=by decide
 have hm2:∀ n,n≤100→n≤maxLen:=fun n h=>le_maxLen (by omega)
 rw [hr]
 refine spec_of (N:=104) follows_mixed Tryz.func35 rfl rfl rfl (by kernel_rfl) (by kernel_rfl) (by simp) ?_
 simp (maxSteps:=1000000) [-map_map,-mapM_map,↓KW,]
 refine callP_intro (ds:=[.i .i64 1,.i .i64 0,encL []]) (by rfl) cell0 ?_
 simp (maxSteps:=1000000) [-map_map,-mapM_map,↓KW,hk,hw,hm2,one_encC,cellsA_encC,inj1_encC,inj_encC]
 refine callP_intro (ds:=[.i .i64 2,.i .i64 1,encL []]) (by rfl) cell1 ?_
 simp (maxSteps:=1000000) [-map_map,-mapM_map,↓KW,hk,hw,hm2,one_encC,cellsA_encC,inj1_encC,inj_encC]
 refine callP_intro (ds:=[.i .i64 2,.i .i64 0,encL []]) (by rfl) cell2 ?_
 simp (maxSteps:=1000000) [-map_map,-mapM_map,↓KW,hk,hw,hm2,one_encC,cellsA_encC,inj1_encC,inj_encC]
 refine callP_intro (ds:=[.i .i64 3,.i .i64 0,encL []]) (by rfl) cell3 ?_
 simp (maxSteps:=1000000) [-map_map,-mapM_map,↓KW,hk,hw,hm2,one_encC,cellsA_encC,inj1_encC,inj_encC]
 refine callP_intro (ds:=[.i .i64 4,.i .i64 1,encL [1,-1,2,1]]) (by rfl) cell4 ?_
 simp (maxSteps:=1000000) [-map_map,-mapM_map,↓KW,hk,hw,hm2,one_encC,cellsA_encC,inj1_encC,inj_encC]
 refine callP_intro (ds:=[.i .i64 5,.i .i64 1,encL [2,-1,3,1]]) (by rfl) cell5 ?_
 simp (maxSteps:=1000000) [-map_map,-mapM_map,↓KW,hk,hw,hm2,one_encC,cellsA_encC,inj1_encC,inj_encC]
 refine callP_intro (ds:=[.i .i64 6,.i .i64 1,encL [1,1,3,-1]]) (by rfl) cell6 ?_
 simp (maxSteps:=1000000) [-map_map,-mapM_map,↓KW,hk,hw,hm2,one_encC,cellsA_encC,inj1_encC,inj_encC]
set_option maxHeartbeats 2000000 in
set_option maxRecDepth 10000 in
theorem space2 (k:Int) (hk:k.tmod 14=2):Spec Tryz.prog 35 [.i .u8 k] (encX (spc 2)):=by
 have hr:encX (spc 2)=.sl [[.i .i64 1,.i .i64 0,encC []],[.i .i64 7,.i .i64 0,encC []]]:=rfl
 have hw:IntKind.u8.wrap 2=2:=by decide
 have hm2:∀ n,n≤100→n≤maxLen:=fun n h=>le_maxLen (by omega)
 rw [hr]
 refine spec_of (N:=104) follows_mixed Tryz.func35 rfl rfl rfl (by kernel_rfl) (by kernel_rfl) (by simp) ?_
 simp (maxSteps:=1000000) [-map_map,-mapM_map,↓KW,]
 refine callP_intro (ds:=[.i .i64 1,.i .i64 0,encL []]) (by rfl) cell0 ?_
 simp (maxSteps:=1000000) [-map_map,-mapM_map,↓KW,hk,hw,hm2,one_encC,cellsA_encC,inj1_encC,inj_encC]
 refine callP_intro (ds:=[.i .i64 2,.i .i64 1,encL []]) (by rfl) cell1 ?_
 simp (maxSteps:=1000000) [-map_map,-mapM_map,↓KW,hk,hw,hm2,one_encC,cellsA_encC,inj1_encC,inj_encC]
 refine callP_intro (ds:=[.i .i64 2,.i .i64 0,encL []]) (by rfl) cell2 ?_
 simp (maxSteps:=1000000) [-map_map,-mapM_map,↓KW,hk,hw,hm2,one_encC,cellsA_encC,inj1_encC,inj_encC]
 refine callP_intro (ds:=[.i .i64 3,.i .i64 0,encL []]) (by rfl) cell3 ?_
 simp (maxSteps:=1000000) [-map_map,-mapM_map,↓KW,hk,hw,hm2,one_encC,cellsA_encC,inj1_encC,inj_encC]
 refine callP_intro (ds:=[.i .i64 4,.i .i64 1,encL [1,-1,2,1]]) (by rfl) cell4 ?_
 simp (maxSteps:=1000000) [-map_map,-mapM_map,↓KW,hk,hw,hm2,one_encC,cellsA_encC,inj1_encC,inj_encC]
 refine callP_intro (ds:=[.i .i64 5,.i .i64 1,encL [2,-1,3,1]]) (by rfl) cell5 ?_
 simp (maxSteps:=1000000) [-map_map,-mapM_map,↓KW,hk,hw,hm2,one_encC,cellsA_encC,inj1_encC,inj_encC]
 refine callP_intro (ds:=[.i .i64 6,.i .i64 1,encL [1,1,3,-1]]) (by rfl) cell6 ?_
 simp (maxSteps:=1000000) [-map_map,-mapM_map,↓KW,hk,hw,hm2,one_encC,cellsA_encC,inj1_encC,inj_encC]
 refine callP_intro (ds:=[.i .i64 7,.i .i64 0,encL []]) (by rfl) cell7 ?_
 simp (maxSteps:=1000000) [-map_map,-mapM_map,↓KW,hk,hw,hm2,one_encC,cellsA_encC,inj1_encC,inj_encC]
set_option maxHeartbeats 2000000 in
set_option maxRecDepth 10000 in
theorem space3 (k:Int) (hk:k.tmod 14=3):Spec Tryz.prog 35 [.i .u8 k] (encX (spc 3)):=by
 have hr:encX (spc 3)=.sl [[.i .i64 1,.i .i64 0,encC []],[.i .i64 2,.i .i64 0,encC []],[.i .i64 3,.i .i64 1,encC [(1,-1),(2,1)]]]:=rfl
 have hw:IntKind.u8.wrap 3=3:=by decide
 have hm2:∀ n,n≤100→n≤maxLen:=fun n h=>le_maxLen (by omega)
 rw [hr]
 refine spec_of (N:=104) follows_mixed Tryz.func35 rfl rfl rfl (by kernel_rfl) (by kernel_rfl) (by simp) ?_
 simp (maxSteps:=1000000) [-map_map,-mapM_map,↓KW,]
 refine callP_intro (ds:=[.i .i64 1,.i .i64 0,encL []]) (by rfl) cell0 ?_
 simp (maxSteps:=1000000) [-map_map,-mapM_map,↓KW,hk,hw,hm2,one_encC,cellsA_encC,inj1_encC,inj_encC]
 refine callP_intro (ds:=[.i .i64 2,.i .i64 1,encL []]) (by rfl) cell1 ?_
 simp (maxSteps:=1000000) [-map_map,-mapM_map,↓KW,hk,hw,hm2,one_encC,cellsA_encC,inj1_encC,inj_encC]
 refine callP_intro (ds:=[.i .i64 2,.i .i64 0,encL []]) (by rfl) cell2 ?_
 simp (maxSteps:=1000000) [-map_map,-mapM_map,↓KW,hk,hw,hm2,one_encC,cellsA_encC,inj1_encC,inj_encC]
 refine callP_intro (ds:=[.i .i64 3,.i .i64 0,encL []]) (by rfl) cell3 ?_
 simp (maxSteps:=1000000) [-map_map,-mapM_map,↓KW,hk,hw,hm2,one_encC,cellsA_encC,inj1_encC,inj_encC]
 refine callP_intro (ds:=[.i .i64 4,.i .i64 1,encL [1,-1,2,1]]) (by rfl) cell4 ?_
 simp (maxSteps:=1000000) [-map_map,-mapM_map,↓KW,hk,hw,hm2,one_encC,cellsA_encC,inj1_encC,inj_encC]
 refine callP_intro (ds:=[.i .i64 5,.i .i64 1,encL [2,-1,3,1]]) (by rfl) cell5 ?_
 simp (maxSteps:=1000000) [-map_map,-mapM_map,↓KW,hk,hw,hm2,one_encC,cellsA_encC,inj1_encC,inj_encC]
 refine callP_intro (ds:=[.i .i64 6,.i .i64 1,encL [1,1,3,-1]]) (by rfl) cell6 ?_
 simp (maxSteps:=1000000) [-map_map,-mapM_map,↓KW,hk,hw,hm2,one_encC,cellsA_encC,inj1_encC,inj_encC]
 refine callP_intro (ds:=[.i .i64 2,.i .i64 0,encL []]) (by rfl) cell2 ?_
 simp (maxSteps:=1000000) [-map_map,-mapM_map,↓KW,hk,hw,hm2,one_encC,cellsA_encC,inj1_encC,inj_encC]
 refine callP_intro (ds:=[.i .i64 3,.i .i64 1,encL [1,-1,2,1]]) (by rfl) cell8 ?_
 simp (maxSteps:=1000000) [-map_map,-mapM_map,↓KW,hk,hw,hm2,one_encC,cellsA_encC,inj1_encC,inj_encC]
 rfl
set_option maxHeartbeats 2000000 in
set_option maxRecDepth 10000 in
theorem space4 (k:Int) (hk:k.tmod 14=4):Spec Tryz.prog 35 [.i .u8 k] (encX (spc 4)):=by
 have hr:encX (spc 4)=.sl [[.i .i64 1,.i .i64 0,encC []],[.i .i64 2,.i .i64 1,encC []]]:=rfl
 have hw:IntKind.u8.wrap 4=4:=by decide
 have hm2:∀ n,n≤100→n≤maxLen:=fun n h=>le_maxLen (by omega)
 rw [hr]
 refine spec_of (N:=104) follows_mixed Tryz.func35 rfl rfl rfl (by kernel_rfl) (by kernel_rfl) (by simp) ?_
 simp (maxSteps:=1000000) [-map_map,-mapM_map,↓KW,]
 refine callP_intro (ds:=[.i .i64 1,.i .i64 0,encL []]) (by rfl) cell0 ?_
 simp (maxSteps:=1000000) [-map_map,-mapM_map,↓KW,hk,hw,hm2,one_encC,cellsA_encC,inj1_encC,inj_encC]
 refine callP_intro (ds:=[.i .i64 2,.i .i64 1,encL []]) (by rfl) cell1 ?_
 simp (maxSteps:=1000000) [-map_map,-mapM_map,↓KW,hk,hw,hm2,one_encC,cellsA_encC,inj1_encC,inj_encC]
 refine callP_intro (ds:=[.i .i64 2,.i .i64 0,encL []]) (by rfl) cell2 ?_
 simp (maxSteps:=1000000) [-map_map,-mapM_map,↓KW,hk,hw,hm2,one_encC,cellsA_encC,inj1_encC,inj_encC]
 refine callP_intro (ds:=[.i .i64 3,.i .i64 0,encL []]) (by rfl) cell3 ?_
 simp (maxSteps:=1000000) [-map_map,-mapM_map,↓KW,hk,hw,hm2,one_encC,cellsA_encC,inj1_encC,inj_encC]
 refine callP_intro (ds:=[.i .i64 4,.i .i64 1,encL [1,-1,2,1]]) (by rfl) cell4 ?_
 simp (maxSteps:=1000000) [-map_map,-mapM_map,↓KW,hk,hw,hm2,one_encC,cellsA_encC,inj1_encC,inj_encC]
 refine callP_intro (ds:=[.i .i64 5,.i .i64 1,encL [2,-1,3,1]]) (by rfl) cell5 ?_
 simp (maxSteps:=1000000) [-map_map,-mapM_map,↓KW,hk,hw,hm2,one_encC,cellsA_encC,inj1_encC,inj_encC]
 refine callP_intro (ds:=[.i .i64 6,.i .i64 1,encL [1,1,3,-1]]) (by rfl) cell6 ?_
 simp (maxSteps:=1000000) [-map_map,-mapM_map,↓KW,hk,hw,hm2,one_encC,cellsA_encC,inj1_encC,inj_encC]
set_option maxHeartbeats 2000000 in
set_option maxRecDepth 10000 in
theorem space5 (k:Int) (hk:k.tmod 14=5):Spec Tryz.prog 35 [.i .u8 k] (encX (spc 5)):=by
 have hr:encX (spc 5)=.sl [[.i .i64 1,.i .i64 0,encC []],[.i .i64 2,.i .i64 0,encC []],[.i .i64 3,.i .i64 0,encC []],[.i .i64 4,.i .i64 1,encC [(1,-1),(2,1)]],[.i .i64 5,.i .i64 1,encC [(2,-1),(3,1)]],[.i .i64 6,.i .i64 1,encC [(1,1),(3,-1)]]]:=rfl
 have hw:IntKind.u8.wrap 5=5:=by decide
 have hm2:∀ n,n≤100→n≤maxLen:=fun n h=>le_maxLen (by omega)
 rw [hr]
 refine spec_of (N:=104) follows_mixed Tryz.func35 rfl rfl rfl (by kernel_rfl) (by kernel_rfl) (by simp) ?_
 simp (maxSteps:=1000000) [-map_map,-mapM_map,↓KW,]
 refine callP_intro (ds:=[.i .i64 1,.i .i64 0,encL []]) (by rfl) cell0 ?_
 simp (maxSteps:=1000000) [-map_map,-mapM_map,↓KW,hk,hw,hm2,one_encC,cellsA_encC,inj1_encC,inj_encC]
 refine callP_intro (ds:=[.i .i64 2,.i .i64 1,encL []]) (by rfl) cell1 ?_
 simp (maxSteps:=1000000) [-map_map,-mapM_map,↓KW,hk,hw,hm2,one_encC,cellsA_encC,inj1_encC,inj_encC]
 refine callP_intro (ds:=[.i .i64 2,.i .i64 0,encL []]) (by rfl) cell2 ?_
 simp (maxSteps:=1000000) [-map_map,-mapM_map,↓KW,hk,hw,hm2,one_encC,cellsA_encC,inj1_encC,inj_encC]
 refine callP_intro (ds:=[.i .i64 3,.i .i64 0,encL []]) (by rfl) cell3 ?_
 simp (maxSteps:=1000000) [-map_map,-mapM_map,↓KW,hk,hw,hm2,one_encC,cellsA_encC,inj1_encC,inj_encC]
 refine callP_intro (ds:=[.i .i64 4,.i .i64 1,encL [1,-1,2,1]]) (by rfl) cell4 ?_
 simp (maxSteps:=1000000) [-map_map,-mapM_map,↓KW,hk,hw,hm2,one_encC,cellsA_encC,inj1_encC,inj_encC]
 refine callP_intro (ds:=[.i .i64 5,.i .i64 1,encL [2,-1,3,1]]) (by rfl) cell5 ?_
 simp (maxSteps:=1000000) [-map_map,-mapM_map,↓KW,hk,hw,hm2,one_encC,cellsA_encC,inj1_encC,inj_encC]
 refine callP_intro (ds:=[.i .i64 6,.i .i64 1,encL [1,1,3,-1]]) (by rfl) cell6 ?_
 simp (maxSteps:=1000000) [-map_map,-mapM_map,↓KW,hk,hw,hm2,one_encC,cellsA_encC,inj1_encC,inj_encC]
 rfl
set_option maxHeartbeats 2000000 in
set_option maxRecDepth 10000 in
theorem space6 (k:Int) (hk:k.tmod 14=6):Spec Tryz.prog 35 [.i .u8 k] (encX (spc 6)):=by
 have hr:encX (spc 6)=.sl [[.i .i64 1,.i .i64 0,encC []],[.i .i64 2,.i .i64 0,encC []],[.i .i64 3,.i .i64 0,encC []],[.i .i64 4,.i .i64 1,encC [(1,-1),(2,1)]],[.i .i64 5,.i .i64 1,encC [(2,-1),(3,1)]],[.i .i64 6,.i .i64 1,encC [(1,1),(3,-1)]],[.i .i64 9,.i .i64 2,encC [(4,1),(5,1),(6,1)]]]:=rfl
 have hw:IntKind.u8.wrap 6=6:=by decide
 have hm2:∀ n,n≤100→n≤maxLen:=fun n h=>le_maxLen (by omega)
 rw [hr]
 refine spec_of (N:=104) follows_mixed Tryz.func35 rfl rfl rfl (by kernel_rfl) (by kernel_rfl) (by simp) ?_
 simp (maxSteps:=1000000) [-map_map,-mapM_map,↓KW,]
 refine callP_intro (ds:=[.i .i64 1,.i .i64 0,encL []]) (by rfl) cell0 ?_
 simp (maxSteps:=1000000) [-map_map,-mapM_map,↓KW,hk,hw,hm2,one_encC,cellsA_encC,inj1_encC,inj_encC]
 refine callP_intro (ds:=[.i .i64 2,.i .i64 1,encL []]) (by rfl) cell1 ?_
 simp (maxSteps:=1000000) [-map_map,-mapM_map,↓KW,hk,hw,hm2,one_encC,cellsA_encC,inj1_encC,inj_encC]
 refine callP_intro (ds:=[.i .i64 2,.i .i64 0,encL []]) (by rfl) cell2 ?_
 simp (maxSteps:=1000000) [-map_map,-mapM_map,↓KW,hk,hw,hm2,one_encC,cellsA_encC,inj1_encC,inj_encC]
 refine callP_intro (ds:=[.i .i64 3,.i .i64 0,encL []]) (by rfl) cell3 ?_
 simp (maxSteps:=1000000) [-map_map,-mapM_map,↓KW,hk,hw,hm2,one_encC,cellsA_encC,inj1_encC,inj_encC]
 refine callP_intro (ds:=[.i .i64 4,.i .i64 1,encL [1,-1,2,1]]) (by rfl) cell4 ?_
 simp (maxSteps:=1000000) [-map_map,-mapM_map,↓KW,hk,hw,hm2,one_encC,cellsA_encC,inj1_encC,inj_encC]
 refine callP_intro (ds:=[.i .i64 5,.i .i64 1,encL [2,-1,3,1]]) (by rfl) cell5 ?_
 simp (maxSteps:=1000000) [-map_map,-mapM_map,↓KW,hk,hw,hm2,one_encC,cellsA_encC,inj1_encC,inj_encC]
 refine callP_intro (ds:=[.i .i64 6,.i .i64 1,encL [1,1,3,-1]]) (by rfl) cell6 ?_
 simp (maxSteps:=1000000) [-map_map,-mapM_map,↓KW,hk,hw,hm2,one_encC,cellsA_encC,inj1_encC,inj_encC]
 refine callP_intro (ds:=[.i .i64 9,.i .i64 2,encL [4,1,5,1,6,1]]) (by rfl) cell9 ?_
 simp (maxSteps:=1000000) [-map_map,-mapM_map,↓KW,hk,hw,hm2,one_encC,cellsA_encC,inj1_encC,inj_encC]
 rfl
set_option maxHeartbeats 2000000 in
set_option maxRecDepth 10000 in
theorem space7 (k:Int) (hk:k.tmod 14=7):Spec Tryz.prog 35 [.i .u8 k] (encX (spc 7)):=by
 have hr:encX (spc 7)=.sl [[.i .i64 1,.i .i64 0,encC []],[.i .i64 2,.i .i64 2,encC []]]:=rfl
 have hw:IntKind.u8.wrap 7=7:=by decide
 have hm2:∀ n,n≤100→n≤maxLen:=fun n h=>le_maxLen (by omega)
 rw [hr]
 refine spec_of (N:=104) follows_mixed Tryz.func35 rfl rfl rfl (by kernel_rfl) (by kernel_rfl) (by simp) ?_
 simp (maxSteps:=1000000) [-map_map,-mapM_map,↓KW,]
 refine callP_intro (ds:=[.i .i64 1,.i .i64 0,encL []]) (by rfl) cell0 ?_
 simp (maxSteps:=1000000) [-map_map,-mapM_map,↓KW,hk,hw,hm2,one_encC,cellsA_encC,inj1_encC,inj_encC]
 refine callP_intro (ds:=[.i .i64 2,.i .i64 1,encL []]) (by rfl) cell1 ?_
 simp (maxSteps:=1000000) [-map_map,-mapM_map,↓KW,hk,hw,hm2,one_encC,cellsA_encC,inj1_encC,inj_encC]
 refine callP_intro (ds:=[.i .i64 2,.i .i64 0,encL []]) (by rfl) cell2 ?_
 simp (maxSteps:=1000000) [-map_map,-mapM_map,↓KW,hk,hw,hm2,one_encC,cellsA_encC,inj1_encC,inj_encC]
 refine callP_intro (ds:=[.i .i64 3,.i .i64 0,encL []]) (by rfl) cell3 ?_
 simp (maxSteps:=1000000) [-map_map,-mapM_map,↓KW,hk,hw,hm2,one_encC,cellsA_encC,inj1_encC,inj_encC]
 refine callP_intro (ds:=[.i .i64 4,.i .i64 1,encL [1,-1,2,1]]) (by rfl) cell4 ?_
 simp (maxSteps:=1000000) [-map_map,-mapM_map,↓KW,hk,hw,hm2,one_encC,cellsA_encC,inj1_encC,inj_encC]
 refine callP_intro (ds:=[.i .i64 5,.i .i64 1,encL [2,-1,3,1]]) (by rfl) cell5 ?_
 simp (maxSteps:=1000000) [-map_map,-mapM_map,↓KW,hk,hw,hm2,one_encC,cellsA_encC,inj1_encC,inj_encC]
 refine callP_intro (ds:=[.i .i64 6,.i .i64 1,encL [1,1,3,-1]]) (by rfl) cell6 ?_
 simp (maxSteps:=1000000) [-map_map,-mapM_map,↓KW,hk,hw,hm2,one_encC,cellsA_encC,inj1_encC,inj_encC]
 refine callP_intro (ds:=[.i .i64 2,.i .i64 2,encL []]) (by rfl) cell10 ?_
 simp (maxSteps:=1000000) [-map_map,-mapM_map,↓KW,hk,hw,hm2,one_encC,cellsA_encC,inj1_encC,inj_encC]
set_option maxHeartbeats 2000000 in
set_option maxRecDepth 10000 in
theorem space8 (k:Int) (hk:k.tmod 14=8):Spec Tryz.prog 35 [.i .u8 k] (encX (spc 8)):=by
 have hr:encX (spc 8)=.sl [[.i .i64 1,.i .i64 0,encC []],[.i .i64 2,.i .i64 1,encC []],[.i .i64 3,.i .i64 1,encC []],[.i .i64 4,.i .i64 2,encC []]]:=rfl
 have hw:IntKind.u8.wrap 8=8:=by decide
 have hm2:∀ n,n≤100→n≤maxLen:=fun n h=>le_maxLen (by omega)
 rw [hr]
 refine spec_of (N:=104) follows_mixed Tryz.func35 rfl rfl rfl (by kernel_rfl) (by kernel_rfl) (by simp) ?_
 simp (maxSteps:=1000000) [-map_map,-mapM_map,↓KW,]
 refine callP_intro (ds:=[.i .i64 1,.i .i64 0,encL []]) (by rfl) cell0 ?_
 simp (maxSteps:=1000000) [-map_map,-mapM_map,↓KW,hk,hw,hm2,one_encC,cellsA_encC,inj1_encC,inj_encC]
 refine callP_intro (ds:=[.i .i64 2,.i .i64 1,encL []]) (by rfl) cell1 ?_
 simp (maxSteps:=1000000) [-map_map,-mapM_map,↓KW,hk,hw,hm2,one_encC,cellsA_encC,inj1_encC,inj_encC]
 refine callP_intro (ds:=[.i .i64 2,.i .i64 0,encL []]) (by rfl) cell2 ?_
 simp (maxSteps:=1000000) [-map_map,-mapM_map,↓KW,hk,hw,hm2,one_encC,cellsA_encC,inj1_encC,inj_encC]
 refine callP_intro (ds:=[.i .i64 3,.i .i64 0,encL []]) (by rfl) cell3 ?_
 simp (maxSteps:=1000000) [-map_map,-mapM_map,↓KW,hk,hw,hm2,one_encC,cellsA_encC,inj1_encC,inj_encC]
 refine callP_intro (ds:=[.i .i64 4,.i .i64 1,encL [1,-1,2,1]]) (by rfl) cell4 ?_
 simp (maxSteps:=1000000) [-map_map,-mapM_map,↓KW,hk,hw,hm2,one_encC,cellsA_encC,inj1_encC,inj_encC]
 refine callP_intro (ds:=[.i .i64 5,.i .i64 1,encL [2,-1,3,1]]) (by rfl) cell5 ?_
 simp (maxSteps:=1000000) [-map_map,-mapM_map,↓KW,hk,hw,hm2,one_encC,cellsA_encC,inj1_encC,inj_encC]
 refine callP_intro (ds:=[.i .i64 6,.i .i64 1,encL [1,1,3,-1]]) (by rfl) cell6 ?_
 simp (maxSteps:=1000000) [-map_map,-mapM_map,↓KW,hk,hw,hm2,one_encC,cellsA_encC,inj1_encC,inj_encC]
 refine callP_intro (ds:=[.i .i64 3,.i .i64 1,encL []]) (by rfl) cell11 ?_
 simp (maxSteps:=1000000) [-map_map,-mapM_map,↓KW,hk,hw,hm2,one_encC,cellsA_encC,inj1_encC,inj_encC]
 refine callP_intro (ds:=[.i .i64 4,.i .i64 2,encL []]) (by rfl) cell12 ?_
 simp (maxSteps:=1000000) [-map_map,-mapM_map,↓KW,hk,hw,hm2,one_encC,cellsA_encC,inj1_encC,inj_encC]
 rfl
set_option maxHeartbeats 2000000 in
set_option maxRecDepth 10000 in
theorem space9 (k:Int) (hk:k.tmod 14=9):Spec Tryz.prog 35 [.i .u8 k] (encX (spc 9)):=by
 have hr:encX (spc 9)=.sl [[.i .i64 1,.i .i64 0,encC []],[.i .i64 2,.i .i64 1,encC []],[.i .i64 3,.i .i64 2,encC [(2,2)]]]:=rfl
 have hw:IntKind.u8.wrap 9=9:=by decide
 have hm2:∀ n,n≤100→n≤maxLen:=fun n h=>le_maxLen (by omega)
 rw [hr]
 refine spec_of (N:=104) follows_mixed Tryz.func35 rfl rfl rfl (by kernel_rfl) (by kernel_rfl) (by simp) ?_
 simp (maxSteps:=1000000) [-map_map,-mapM_map,↓KW,]
 refine callP_intro (ds:=[.i .i64 1,.i .i64 0,encL []]) (by rfl) cell0 ?_
 simp (maxSteps:=1000000) [-map_map,-mapM_map,↓KW,hk,hw,hm2,one_encC,cellsA_encC,inj1_encC,inj_encC]
 refine callP_intro (ds:=[.i .i64 2,.i .i64 1,encL []]) (by rfl) cell1 ?_
 simp (maxSteps:=1000000) [-map_map,-mapM_map,↓KW,hk,hw,hm2,one_encC,cellsA_encC,inj1_encC,inj_encC]
 refine callP_intro (ds:=[.i .i64 2,.i .i64 0,encL []]) (by rfl) cell2 ?_
 simp (maxSteps:=1000000) [-map_map,-mapM_map,↓KW,hk,hw,hm2,one_encC,cellsA_encC,inj1_encC,inj_encC]
 refine callP_intro (ds:=[.i .i64 3,.i .i64 0,encL []]) (by rfl) cell3 ?_
 simp (maxSteps:=1000000) [-map_map,-mapM_map,↓KW,hk,hw,hm2,one_encC,cellsA_encC,inj1_encC,inj_encC]
 refine callP_intro (ds:=[.i .i64 4,.i .i64 1,encL [1,-1,2,1]]) (by rfl) cell4 ?_
 simp (maxSteps:=1000000) [-map_map,-mapM_map,↓KW,hk,hw,hm2,one_encC,cellsA_encC,inj1_encC,inj_encC]
 refine callP_intro (ds:=[.i .i64 5,.i .i64 1,encL [2,-1,3,1]]) (by rfl) cell5 ?_
 simp (maxSteps:=1000000) [-map_map,-mapM_map,↓KW,hk,hw,hm2,one_encC,cellsA_encC,inj1_encC,inj_encC]
 refine callP_intro (ds:=[.i .i64 6,.i .i64 1,encL [1,1,3,-1]]) (by rfl) cell6 ?_
 simp (maxSteps:=1000000) [-map_map,-mapM_map,↓KW,hk,hw,hm2,one_encC,cellsA_encC,inj1_encC,inj_encC]
 refine callP_intro (ds:=[.i .i64 3,.i .i64 2,encL [2,2]]) (by rfl) cell13 ?_
 simp (maxSteps:=1000000) [-map_map,-mapM_map,↓KW,hk,hw,hm2,one_encC,cellsA_encC,inj1_encC,inj_encC]
 rfl
set_option maxHeartbeats 2000000 in
set_option maxRecDepth 10000 in
theorem space10 (k:Int) (hk:k.tmod 14=10):Spec Tryz.prog 35 [.i .u8 k] (encX (spc 10)):=by
 have hr:encX (spc 10)=.sl [[.i .i64 1,.i .i64 0,encC []],[.i .i64 2,.i .i64 1,encC []],[.i .i64 3,.i .i64 1,encC []],[.i .i64 4,.i .i64 2,encC [(2,2)]]]:=rfl
 have hw:IntKind.u8.wrap 10=10:=by decide
 have hm2:∀ n,n≤100→n≤maxLen:=fun n h=>le_maxLen (by omega)
 rw [hr]
 refine spec_of (N:=104) follows_mixed Tryz.func35 rfl rfl rfl (by kernel_rfl) (by kernel_rfl) (by simp) ?_
 simp (maxSteps:=1000000) [-map_map,-mapM_map,↓KW,]
 refine callP_intro (ds:=[.i .i64 1,.i .i64 0,encL []]) (by rfl) cell0 ?_
 simp (maxSteps:=1000000) [-map_map,-mapM_map,↓KW,hk,hw,hm2,one_encC,cellsA_encC,inj1_encC,inj_encC]
 refine callP_intro (ds:=[.i .i64 2,.i .i64 1,encL []]) (by rfl) cell1 ?_
 simp (maxSteps:=1000000) [-map_map,-mapM_map,↓KW,hk,hw,hm2,one_encC,cellsA_encC,inj1_encC,inj_encC]
 refine callP_intro (ds:=[.i .i64 2,.i .i64 0,encL []]) (by rfl) cell2 ?_
 simp (maxSteps:=1000000) [-map_map,-mapM_map,↓KW,hk,hw,hm2,one_encC,cellsA_encC,inj1_encC,inj_encC]
 refine callP_intro (ds:=[.i .i64 3,.i .i64 0,encL []]) (by rfl) cell3 ?_
 simp (maxSteps:=1000000) [-map_map,-mapM_map,↓KW,hk,hw,hm2,one_encC,cellsA_encC,inj1_encC,inj_encC]
 refine callP_intro (ds:=[.i .i64 4,.i .i64 1,encL [1,-1,2,1]]) (by rfl) cell4 ?_
 simp (maxSteps:=1000000) [-map_map,-mapM_map,↓KW,hk,hw,hm2,one_encC,cellsA_encC,inj1_encC,inj_encC]
 refine callP_intro (ds:=[.i .i64 5,.i .i64 1,encL [2,-1,3,1]]) (by rfl) cell5 ?_
 simp (maxSteps:=1000000) [-map_map,-mapM_map,↓KW,hk,hw,hm2,one_encC,cellsA_encC,inj1_encC,inj_encC]
 refine callP_intro (ds:=[.i .i64 6,.i .i64 1,encL [1,1,3,-1]]) (by rfl) cell6 ?_
 simp (maxSteps:=1000000) [-map_map,-mapM_map,↓KW,hk,hw,hm2,one_encC,cellsA_encC,inj1_encC,inj_encC]
 refine callP_intro (ds:=[.i .i64 3,.i .i64 1,encL []]) (by rfl) cell11 ?_
 simp (maxSteps:=1000000) [-map_map,-mapM_map,↓KW,hk,hw,hm2,one_encC,cellsA_encC,inj1_encC,inj_encC]
 refine callP_intro (ds:=[.i .i64 4,.i .i64 2,encL [2,2]]) (by rfl) cell14 ?_
 simp (maxSteps:=1000000) [-map_map,-mapM_map,↓KW,hk,hw,hm2,one_encC,cellsA_encC,inj1_encC,inj_encC]
 rfl
set_option maxHeartbeats 2000000 in
set_option maxRecDepth 10000 in
theorem space11 (k:Int) (hk:k.tmod 14=11):Spec Tryz.prog 35 [.i .u8 k] (encX (spc 11)):=by
 have hr:encX (spc 11)=.sl [[.i .i64 1,.i .i64 0,encC []],[.i .i64 2,.i .i64 1,encC []],[.i .i64 3,.i .i64 2,encC [(2,3)]],[.i .i64 4,.i .i64 3,encC []]]:=rfl
 have hw:IntKind.u8.wrap 11=11:=by decide
 have hm2:∀ n,n≤100→n≤maxLen:=fun n h=>le_maxLen (by omega)
 rw [hr]
 refine spec_of (N:=104) follows_mixed Tryz.func35 rfl rfl rfl (by kernel_rfl) (by kernel_rfl) (by simp) ?_
 simp (maxSteps:=1000000) [-map_map,-mapM_map,↓KW,]
 refine callP_intro (ds:=[.i .i64 1,.i .i64 0,encL []]) (by rfl) cell0 ?_
 simp (maxSteps:=1000000) [-map_map,-mapM_map,↓KW,hk,hw,hm2,one_encC,cellsA_encC,inj1_encC,inj_encC]
 refine callP_intro (ds:=[.i .i64 2,.i .i64 1,encL []]) (by rfl) cell1 ?_
 simp (maxSteps:=1000000) [-map_map,-mapM_map,↓KW,hk,hw,hm2,one_encC,cellsA_encC,inj1_encC,inj_encC]
 refine callP_intro (ds:=[.i .i64 2,.i .i64 0,encL []]) (by rfl) cell2 ?_
 simp (maxSteps:=1000000) [-map_map,-mapM_map,↓KW,hk,hw,hm2,one_encC,cellsA_encC,inj1_encC,inj_encC]
 refine callP_intro (ds:=[.i .i64 3,.i .i64 0,encL []]) (by rfl) cell3 ?_
 simp (maxSteps:=1000000) [-map_map,-mapM_map,↓KW,hk,hw,hm2,one_encC,cellsA_encC,inj1_encC,inj_encC]
 refine callP_intro (ds:=[.i .i64 4,.i .i64 1,encL [1,-1,2,1]]) (by rfl) cell4 ?_
 simp (maxSteps:=1000000) [-map_map,-mapM_map,↓KW,hk,hw,hm2,one_encC,cellsA_encC,inj1_encC,inj_encC]
 refine callP_intro (ds:=[.i .i64 5,.i .i64 1,encL [2,-1,3,1]]) (by rfl) cell5 ?_
 simp (maxSteps:=1000000) [-map_map,-mapM_map,↓KW,hk,hw,hm2,one_encC,cellsA_encC,inj1_encC,inj_encC]
 refine callP_intro (ds:=[.i .i64 6,.i .i64 1,encL [1,1,3,-1]]) (by rfl) cell6 ?_
 simp (maxSteps:=1000000) [-map_map,-mapM_map,↓KW,hk,hw,hm2,one_encC,cellsA_encC,inj1_encC,inj_encC]
 refine callP_intro (ds:=[.i .i64 3,.i .i64 2,encL [2,3]]) (by rfl) cell15 ?_
 simp (maxSteps:=1000000) [-map_map,-mapM_map,↓KW,hk,hw,hm2,one_encC,cellsA_encC,inj1_encC,inj_encC]
 refine callP_intro (ds:=[.i .i64 4,.i .i64 3,encL []]) (by rfl) cell16 ?_
 simp (maxSteps:=1000000) [-map_map,-mapM_map,↓KW,hk,hw,hm2,one_encC,cellsA_encC,inj1_encC,inj_encC]
 rfl
set_option maxHeartbeats 2000000 in
set_option maxRecDepth 10000 in
theorem space12 (k:Int) (hk:k.tmod 14=12):Spec Tryz.prog 35 [.i .u8 k] (encX (spc 12)):=by
 have hr:encX (spc 12)=.sl [[.i .i64 1,.i .i64 0,encC []],[.i .i64 2,.i .i64 1,encC []],[.i .i64 3,.i .i64 2,encC [(2,4)]],[.i .i64 4,.i .i64 2,encC [(2,6)]]]:=rfl
 have hw:IntKind.u8.wrap 12=12:=by decide
 have hm2:∀ n,n≤100→n≤maxLen:=fun n h=>le_maxLen (by omega)
 rw [hr]
 refine spec_of (N:=104) follows_mixed Tryz.func35 rfl rfl rfl (by kernel_rfl) (by kernel_rfl) (by simp) ?_
 simp (maxSteps:=1000000) [-map_map,-mapM_map,↓KW,]
 refine callP_intro (ds:=[.i .i64 1,.i .i64 0,encL []]) (by rfl) cell0 ?_
 simp (maxSteps:=1000000) [-map_map,-mapM_map,↓KW,hk,hw,hm2,one_encC,cellsA_encC,inj1_encC,inj_encC]
 refine callP_intro (ds:=[.i .i64 2,.i .i64 1,encL []]) (by rfl) cell1 ?_
 simp (maxSteps:=1000000) [-map_map,-mapM_map,↓KW,hk,hw,hm2,one_encC,cellsA_encC,inj1_encC,inj_encC]
 refine callP_intro (ds:=[.i .i64 2,.i .i64 0,encL []]) (by rfl) cell2 ?_
 simp (maxSteps:=1000000) [-map_map,-mapM_map,↓KW,hk,hw,hm2,one_encC,cellsA_encC,inj1_encC,inj_encC]
 refine callP_intro (ds:=[.i .i64 3,.i .i64 0,encL []]) (by rfl) cell3 ?_
 simp (maxSteps:=1000000) [-map_map,-mapM_map,↓KW,hk,hw,hm2,one_encC,cellsA_encC,inj1_encC,inj_encC]
 refine callP_intro (ds:=[.i .i64 4,.i .i64 1,encL [1,-1,2,1]]) (by rfl) cell4 ?_
 simp (maxSteps:=1000000) [-map_map,-mapM_map,↓KW,hk,hw,hm2,one_encC,cellsA_encC,inj1_encC,inj_encC]
 refine callP_intro (ds:=[.i .i64 5,.i .i64 1,encL [2,-1,3,1]]) (by rfl) cell5 ?_
 simp (maxSteps:=1000000) [-map_map,-mapM_map,↓KW,hk,hw,hm2,one_encC,cellsA_encC,inj1_encC,inj_encC]
 refine callP_intro (ds:=[.i .i64 6,.i .i64 1,encL [1,1,3,-1]]) (by rfl) cell6 ?_
 simp (maxSteps:=1000000) [-map_map,-mapM_map,↓KW,hk,hw,hm2,one_encC,cellsA_encC,inj1_encC,inj_encC]
 refine callP_intro (ds:=[.i .i64 3,.i .i64 2,encL [2,4]]) (by rfl) cell17 ?_
 simp (maxSteps:=1000000) [-map_map,-mapM_map,↓KW,hk,hw,hm2,one_encC,cellsA_encC,inj1_encC,inj_encC]
 refine callP_intro (ds:=[.i .i64 4,.i .i64 2,encL [2,6]]) (by rfl) cell18 ?_
 simp (maxSteps:=1000000) [-map_map,-mapM_map,↓KW,hk,hw,hm2,one_encC,cellsA_encC,inj1_encC,inj_encC]
 rfl
set_option maxHeartbeats 2000000 in
set_option maxRecDepth 10000 in
theorem space13 (k:Int) (hk:k.tmod 14=13):Spec Tryz.prog 35 [.i .u8 k] (encX (spc 13)):=by
 have hr:encX (spc 13)=.sl [[.i .i64 1,.i .i64 0,encC []],[.i .i64 2,.i .i64 1,encC []],[.i .i64 3,.i .i64 0,encC []],[.i .i64 5,.i .i64 1,encC []],[.i .i64 6,.i .i64 2,encC [(5,2)]]]:=rfl
 have hw:IntKind.u8.wrap 13=13:=by decide
 have hm2:∀ n,n≤100→n≤maxLen:=fun n h=>le_maxLen (by omega)
 rw [hr]
 refine spec_of (N:=104) follows_mixed Tryz.func35 rfl rfl rfl (by kernel_rfl) (by kernel_rfl) (by simp) ?_
 simp (maxSteps:=1000000) [-map_map,-mapM_map,↓KW,]
 refine callP_intro (ds:=[.i .i64 1,.i .i64 0,encL []]) (by rfl) cell0 ?_
 simp (maxSteps:=1000000) [-map_map,-mapM_map,↓KW,hk,hw,hm2,one_encC,cellsA_encC,inj1_encC,inj_encC]
 refine callP_intro (ds:=[.i .i64 2,.i .i64 1,encL []]) (by rfl) cell1 ?_
 simp (maxSteps:=1000000) [-map_map,-mapM_map,↓KW,hk,hw,hm2,one_encC,cellsA_encC,inj1_encC,inj_encC]
 refine callP_intro (ds:=[.i .i64 2,.i .i64 0,encL []]) (by rfl) cell2 ?_
 simp (maxSteps:=1000000) [-map_map,-mapM_map,↓KW,hk,hw,hm2,one_encC,cellsA_encC,inj1_encC,inj_encC]
 refine callP_intro (ds:=[.i .i64 3,.i .i64 0,encL []]) (by rfl) cell3 ?_
 simp (maxSteps:=1000000) [-map_map,-mapM_map,↓KW,hk,hw,hm2,one_encC,cellsA_encC,inj1_encC,inj_encC]
 refine callP_intro (ds:=[.i .i64 4,.i .i64 1,encL [1,-1,2,1]]) (by rfl) cell4 ?_
 simp (maxSteps:=1000000) [-map_map,-mapM_map,↓KW,hk,hw,hm2,one_encC,cellsA_encC,inj1_encC,inj_encC]
 refine callP_intro (ds:=[.i .i64 5,.i .i64 1,encL [2,-1,3,1]]) (by rfl) cell5 ?_
 simp (maxSteps:=1000000) [-map_map,-mapM_map,↓KW,hk,hw,hm2,one_encC,cellsA_encC,inj1_encC,inj_encC]
 refine callP_intro (ds:=[.i .i64 6,.i .i64 1,encL [1,1,3,-1]]) (by rfl) cell6 ?_
 simp (maxSteps:=1000000) [-map_map,-mapM_map,↓KW,hk,hw,hm2,one_encC,cellsA_encC,inj1_encC,inj_encC]
 refine callP_intro (ds:=[.i .i64 3,.i .i64 0,encL []]) (by rfl) cell3 ?_
 simp (maxSteps:=1000000) [-map_map,-mapM_map,↓KW,hk,hw,hm2,one_encC,cellsA_encC,inj1_encC,inj_encC]
 refine callP_intro (ds:=[.i .i64 5,.i .i64 1,encL []]) (by rfl) cell19 ?_
 simp (maxSteps:=1000000) [-map_map,-mapM_map,↓KW,hk,hw,hm2,one_encC,cellsA_encC,inj1_encC,inj_encC]
 refine callP_intro (ds:=[.i .i64 6,.i .i64 2,encL [5,2]]) (by rfl) cell20 ?_
 simp (maxSteps:=1000000) [-map_map,-mapM_map,↓KW,hk,hw,hm2,one_encC,cellsA_encC,inj1_encC,inj_encC]
 rfl
end Go.Am
end

section
set_option linter.unusedVariables false
set_option linter.unusedSimpArgs false
open List (map_map mapM_map)
open Go Go.Am Go.Proofs
namespace Go.Am
def encCh (l:List (List (Int × Int))):D:=.sl (l.map fun x=>[encC x])
set_option maxHeartbeats 2000000 in
set_option maxRecDepth 10000 in
theorem r26CyclesN (c:List Cl) (k:Int) (hk:k<0):Spec Tryz.prog 87 [encX c,.i .i64 k] (encCh []):=by
 refine spec_of (N:=34) follows_mixed Tryz.func87 rfl rfl rfl (by kernel_rfl) (by kernel_rfl) (by simp) ?_
 simp (maxSteps:=1000000) [-map_map,-mapM_map,↓KW,encX,encCh,hk]
set_option maxHeartbeats 2000000 in
set_option maxRecDepth 10000 in
theorem r26Cycles {E:Nat} (c:List Cl) (k:Int) (L:List (List Int)) (hk:0≤k∧k≤1000) (hl:c.length≤100) (hb:∀ x∈c,x.b.length≤1000000)
  (hL:LeftR (idsX c k).length (idsX c (k - 1)).length E (matX c k) L) (hE:E+20<4398046511104):Spec Tryz.prog 87 [encX c,.i .i64 k] (encCh (L.map fun v=>(chX c k v).1)):=by
 refine spec_of (N:=34) follows_mixed Tryz.func87 rfl rfl rfl (by kernel_rfl) (by kernel_rfl) (by simp) ?_
 have hB:=r25Boundary c k (by omega) (by omega) hb
 have hS:=hL.spec
 have hOf:=fun v hv=>r26Of c k v hl (hL.be v hv) hE
 have hLl:=Nat.le_trans hL.len (idsX_len c k)
 have hneg:¬ k<0:=by omega
 generalize (idsX c k).length=R at *
 generalize (idsX c (k - 1)).length=C at *
 generalize matX c k=M at *
 simp (maxSteps:=1000000) [-map_map,-mapM_map,↓KW,encX,hneg]
 refine callP_intro (ds:=[encX c,.i .i64 k]) (by rfl) hB ?_
 simp (maxSteps:=1000000) [-map_map,-mapM_map,↓KW,encMat]
 refine callP_intro (ds:=[encMat R C M]) (by rfl) hS ?_
 simp (maxSteps:=1000000) [-map_map,-mapM_map,↓KW,encMat]
 obtain ⟨out,hout⟩:∃ o,(L.map fun v=>(chX c k v).1)=o:=⟨_,rfl⟩
 have hol:out.length=L.length:=by rw [← hout,List.length_map]
 have hog:∀ i v,L[i]? = some v→out[i]? = some (chX c k v).1:=fun i v h=>by rw [← hout,List.getElem?_map,h]; rfl
 rw [hout]
 refine loopP_inv (fun i:Nat=>i≤L.length) (fun i=>StL [(0,.d (encX c)),(1,.d (.i .i64 k)),(5,.own 1 0 i 1),(6,.ptr 2 0),(7,.d (.i .i64 (i:Int)))] none [.cells 45 (((out.take i).map encC).map .d),.cells 155 [.d (.i .i64 (L.length:Int)),.d (.i .i64 (R:Int)),.d (.sl (L.map fun v=>[encV2 v]))]]) (fun i=>L.length - i) 0 (Nat.zero_le _) ?_ ?_
 ·refine wk_l [1,2] (by simp) ?_ ?_ <;> simp [-map_map,upd,inj1,Γ0,encX]
 ·intro i hi
  by_cases hgo:i<L.length
  ·have q1:(i:Int)<L.length:=by omega
   have hx:L[i]? = some L[i]:=List.getElem?_eq_getElem hgo
   have hO:=hOf _ (List.getElem_mem hgo)
   have hg:=hog i _ hx
   have htk:out.take (i+1)=out.take i++[(chX c k L[i]).1]:=by rw [List.take_add_one,hg]; rfl
   have hw:IntKind.i64.wrap ((i:Int)+1)=(i:Int)+1:=wrap_i64 (by omega) (by omega)
   have hol1:(out.take i).length=i:=by rw [List.length_take]; omega
   have hol2:((out.take i).map encC).length=i:=by rw [List.length_map]; exact hol1
   have hbb:=app_bounds (n:=i) (by omega)
   have hb8:(i+1) * 24≤140737488355328:=by omega
   generalize out.take i=o1 at *
   generalize (chX c k L[i]).1=y at *
   generalize L[i]=v at *
   have hv2:encV2 v=.sl (v.map encN):=rfl
   simp (maxSteps:=1000000) [-map_map,-mapM_map,↓KW,encX,q1,hx,hv2]
   refine callP_intro (ds:=[encX c,.i .i64 k,encV2 v]) (by rfl) hO ?_
   simp (maxSteps:=1000000) [-map_map,-mapM_map,↓KW,hw,hbb,hb8,hol1,hol2,le_maxLen,one_encC,cellsA_encC,inj1_encC,inj_encC,kills_encC,encV2]
   refine nxt_intro (i+1) hgo (Nat.sub_lt_sub_left hgo (Nat.lt_succ_self _)) (wk_l [4,2] (by simp) ?_ ?_) <;> simp [-map_map,upd,inj1,Γ0,encX,htk]
  ·have q1:¬ (i:Int)<L.length:=by omega
   have e:i=L.length:=by omega
   have e2:out.take i=out:=List.take_of_length_le (by omega)
   have e3:(out.map encC).length=i:=by rw [List.length_map]; omega
   have e4:chunk 1 i (out.map encC)=out.map fun x=>[encC x]:=by rw [chunk_one _ _ e3.symm,List.map_map]; rfl
   have e5:List.take i ((out.map encC).map AV.d)=(out.map encC).map AV.d:=List.take_of_length_le (by simp; omega)
   have e6:out.length=i:=by omega
   simp (maxSteps:=1000000) [-map_map,-mapM_map,↓KW,encCh,q1,e2,e3,e4,e5,e6]
/-! One more cell -/
def gB (cyc:List (List (Int × Int))) (xs:List Int):Nat→List (Int × Int)
 | 0=>[]
 | i+1=>addR (gB cyc xs i) (mulR ((xs.getD (i+1) 0).tmod 4) (cyc.getD i []))
def gDim (x0:Int):Int:=(x0 % 256) % 4
def gId (c:List Cl) (x0:Int):Int:=match c.getLast? with
 | none=>1
 | some y=>y.id+1+(x0 % 256) / 128
def grown (c:List Cl) (x0 x1 x2 x3:Int) (cyc:List (List (Int × Int))):List Cl:=c++[⟨gId c x0,gDim x0,gB cyc [x0,x1,x2,x3] (min 3 cyc.length)⟩]
theorem tmod4 (x:Int):(x.tmod 4).natAbs≤2 ^ 2∧-4<x.tmod 4∧x.tmod 4<4:=by
 have h1:=Int.tmod_lt_of_pos x (b:=4) (by decide)
 have h2:=Int.tmod_lt_of_pos (-x) (b:=4) (by decide)
 rw [Int.neg_tmod] at h2
 exact ⟨by omega,by omega,h1⟩
theorem gB_sz {e:Nat} {cyc:List (List (Int × Int))} {xs:List Int} (hb:∀ y∈cyc,Bnd (2 ^ e) y) (hl:∀ y∈cyc,y.length≤16):∀ i,i≤3→i≤cyc.length→Bnd (i * (16 * (2 ^ 2 * 2 ^ e))) (gB cyc xs i)∧(gB cyc xs i).length≤i * 16
 | 0,_,_=>⟨Bnd.nil _,Nat.le_refl _⟩
 | i+1,h3,hc=>by
  obtain ⟨h1,h2⟩:=gB_sz hb hl i (by omega) (by omega)
  have hm:cyc.getD i []∈cyc:=by rw [List.getD_eq_getElem?_getD,List.getElem?_eq_getElem (by omega)]; exact List.getElem_mem _
  have h4:=addR_bnd (mulR ((xs.getD (i+1) 0).tmod 4) (cyc.getD i [])) (gB cyc xs i) h1 (mulR_bnd (tmod4 _).1 (hb _ hm))
  have h5:=addR_len (gB cyc xs i) (mulR ((xs.getD (i+1) 0).tmod 4) (cyc.getD i []))
  rw [mulR_len] at h4 h5
  have h6:=hl _ hm
  refine ⟨h4.mono ?_,?_⟩
  ·exact Nat.le_trans (Nat.add_le_add_left (Nat.mul_le_mul_right _ h6) _) (Nat.le_of_eq (Nat.succ_mul i _).symm)
  ·show (addR _ _).length≤_
   omega
theorem wrap_i8s {n:Int} (h1:-128≤n) (h2:n≤127):IntKind.i8.wrap n=n:=by
 show IntKind.i8.wrap n=n
 unfold IntKind.wrap
 simp [IntKind.bits,IntKind.signed]
 omega
theorem ccs_len (c:List Cl):(c.map encCl).flatten.length=c.length * 3:=by
 induction c with
 | nil=>rfl
 | cons x c ih=>simp only [List.map_cons,List.flatten_cons,List.length_append,ih,encCl,List.length_cons,List.length_nil]; omega
theorem chunk_ccs (c:List Cl) (y:Cl):chunk 3 (c.length+1) ((c.map encCl).flatten++encCl y)=c.map encCl++[encCl y]:=by
 have h:=chunk_three (c.map encCl++[encCl y]) (fun x hx=>by
  rcases List.mem_append.1 hx with hx | hx
  ·obtain ⟨z,_,rfl⟩:=List.mem_map.1 hx; rfl
  ·rw [List.mem_singleton.1 hx]; rfl)
 rw [List.length_append,List.length_map,List.flatten_append] at h
 simpa using h
theorem ccs_one (c:List Cl):∀ (x:Cl),x∈c→∀ (x_1:D),x_1∈encCl x→one (AV.d x_1)=true:=fun x _ d hd=>by
 simp only [encCl,List.mem_cons,List.not_mem_nil,or_false] at hd
 rcases hd with rfl | rfl | rfl <;> rfl
theorem gsz {i e n:Nat} (hi:i≤3) (hn:n≤16):i * (16 * (2 ^ 2 * 2 ^ e))+n * (2 ^ 2 * 2 ^ e)≤2 ^ (e+20):=by
 rw [pw_mul,← Nat.mul_assoc,← Nat.add_mul,show e+20=18+(2+e) by omega]
 exact pw_len (Nat.le_trans (show i * 16+n≤100 by omega) (by decide))
set_option maxHeartbeats 4000000 in
set_option maxRecDepth 10000 in
theorem r26Grown {e:Nat} (c:List Cl) (x0 x1 x2 x3:Int) (cyc:List (List (Int × Int))) (hx0:-128≤x0∧x0≤127) (hx1:-128≤x1∧x1≤127) (hx2:-128≤x2∧x2≤127) (hx3:-128≤x3∧x3≤127) (hl:c.length≤100)
  (hid:∀ y∈c,-1000≤y.id∧y.id≤1000) (hS:Spec Tryz.prog 87 [encX c,.i .i64 (gDim x0 - 1)] (encCh cyc)) (hcl:cyc.length≤100) (hb:∀ y∈cyc,Bnd (2 ^ e) y) (hyl:∀ y∈cyc,y.length≤16) (he:e+20<4398046511104) :
  Spec Tryz.prog 36 [encX c,.ag [.i .i8 x0,.i .i8 x1,.i .i8 x2,.i .i8 x3]] (encX (grown c x0 x1 x2 x3 cyc)):=by
 have hu:IntKind.u8.wrap x0=x0 % 256:=wrap_u8m x0
 have hr:(x0 % 256).tmod 4=gDim x0:=by
  rw [Int.tmod_eq_emod_of_nonneg (by omega)]; rfl
 have hd:0≤gDim x0∧gDim x0≤3:=by unfold gDim; omega
 have hu2:IntKind.u8.wrap (gDim x0)=gDim x0:=by rw [wrap_u8m]; omega
 have hw1:IntKind.i64.wrap (gDim x0)=gDim x0:=wrap_i64 (by omega) (by omega)
 have hw2:IntKind.i64.wrap (gDim x0 - 1)=gDim x0 - 1:=wrap_i64 (by omega) (by omega)
 obtain ⟨xs,hxs⟩:∃ l,[x0,x1,x2,x3]=l:=⟨_,rfl⟩
 have hgs:=gB_sz (xs:=xs) hb hyl
 have hfin:encX (grown c x0 x1 x2 x3 cyc)=.sl (c.map encCl++[encCl ⟨gId c x0,gDim x0,gB cyc xs (min 3 cyc.length)⟩]):=by unfold grown encX; rw [hxs,List.map_append]; rfl
 rw [hfin]
 clear hfin
 generalize hdd:gDim x0=d at *
 obtain ⟨bb,hbe⟩:∃ b,gB cyc xs (min 3 cyc.length)=b:=⟨_,rfl⟩
 obtain ⟨gi,hgi⟩:∃ b,gId c x0=b:=⟨_,rfl⟩
 rw [hbe,hgi]
 refine spec_of (N:=71) follows_mixed Tryz.func36 rfl rfl rfl (by kernel_rfl) (by kernel_rfl) (by simp) ?_
 simp (maxSteps:=1000000) [-map_map,-mapM_map,↓KW,encX,hu,hr,hu2,hw1]
 refine callP_intro (ds:=[encX c,.i .i64 (d - 1)]) (by rw [hw2]; rfl) hS ?_
 simp (maxSteps:=1000000) [-map_map,-mapM_map,↓KW,encX,encCh]
 refine loopP_inv (fun y:Nat × List (Int × Int)=>y.1≤min 3 cyc.length∧gB cyc xs y.1=y.2) (fun y=>StL [(0,.d (encX c)),(3,.ptr 1 0),(5,.d (.i .i64 d)),(6,.d (encC y.2)),(7,.d (.i .i64 1)),(8,.d (encCh cyc)),(9,.d (.i .i64 (y.1:Int)))] none [.cells 80 [.d (.i .i8 x0),.d (.i .i8 x1),.d (.i .i8 x2),.d (.i .i8 x3)]]) (fun y=>3 - y.1) (0,[]) ⟨Nat.zero_le _,rfl⟩ ?_ ?_
 ·refine wk_l [1] (by simp) ?_ ?_
  ·simp [-map_map,upd,inj1,Γ0,encX,encCh,encC,gB]
   exact sub_frz (by simp [frz_own,upd,chunk_0]) (fun a ha id h=>by
    simp [upd] at ha
    by_cases e:id=1
    ·subst e; rw [ha]; show (1:Nat)≠2; decide
    ·simp [blkF,upd,e] at h)
  ·simp [-map_map,upd,inj1,Γ0,encX,encCh]
 ·rintro ⟨i,o⟩ ⟨hi,ho⟩
  simp only at hi ho ⊢
  have hgs0:=hgs i (by omega) (by omega)
  rw [ho] at hgs0
  by_cases hgo:i<cyc.length∧i<3
  ·have q1:(i:Int)<cyc.length:=by omega
   have q3:(i:Int)<3:=by omega
   have g1:=hgo.1
   have g2:=hgo.2
   have a1:(0:Int)≤(i:Int)+1:=by omega
   have a2:(i:Int)+1<4:=by omega
   have a3:i+1+1≤4:=by omega
   have a4:i+1<4:=by omega
   have a5:i≤2:=by omega
   refine (show ∃ q,xs.getD (i+1) 0=q from ⟨_,rfl⟩).elim fun q hq=>?_
   have hrd:List.take 1 (List.drop i [AV.d (.i .i8 x1),AV.d (.i .i8 x2),AV.d (.i .i8 x3)])=[AV.d (.i .i8 q)]:=by
    rw [← hq,← hxs]
    rcases i with _ | _ | _ | i
    ·rfl
    ·rfl
    ·rfl
    ·omega
   have hre:∀ h:i<[AV.d (.i .i8 x1),AV.d (.i .i8 x2),AV.d (.i .i8 x3)].length,[AV.d (.i .i8 x1),AV.d (.i .i8 x2),AV.d (.i .i8 x3)][i]'h=AV.d (.i .i8 q):=fun h=>by
    subst hq; subst hxs
    rcases i with _ | _ | _ | i
    ·rfl
    ·rfl
    ·rfl
    ·omega
   have t1:=(tmod4 q).1
   have t2:=(tmod4 q).2.1
   have t3:=(tmod4 q).2.2
   have hw8:IntKind.i8.wrap (q.tmod 4)=q.tmod 4:=wrap_i8s (by omega) (by omega)
   have hw:IntKind.i64.wrap ((i:Int)+1)=(i:Int)+1:=wrap_i64 (by omega) (by omega)
   have hwt:IntKind.i64.wrap (q.tmod 4)=q.tmod 4:=wrap_i64 (by omega) (by omega)
   have hof:=r01Of (q.tmod 4) (by omega) (by omega)
   have hgy:cyc[i]? = some (cyc.getD i []):=by rw [List.getD_eq_getElem?_getD,List.getElem?_eq_getElem g1]; rfl
   have hyb:=hb _ (List.mem_of_getElem? hgy)
   have hyl1:=hyl _ (List.mem_of_getElem? hgy)
   have hnx:gB cyc xs (i+1)=addR o (mulR (q.tmod 4) (cyc.getD i [])):=by rw [gB,hq,ho]
   clear ho hgs
   refine (show ∃ y,cyc.getD i []=y from ⟨_,rfl⟩).elim fun y hye=>?_
   rw [hye] at hgy hyb hyl1 hnx
   have hgy':∀ h:i<cyc.length,cyc[i]'h=y:=fun h=>Option.some.inj ((List.getElem?_eq_getElem h).symm.trans hgy)
   refine (show ∃ z,q.tmod 4=z from ⟨_,rfl⟩).elim fun z hz=>?_
   rw [hz] at t1 t2 t3 hw8 hwt hof hnx
   have hA:=r26Add o y z _ (2 ^ e) (2 ^ 2) hgs0.1 hyb t1 (digE (gsz (by omega) hyl1) he) (digE (by rw [pw_mul]; exact pw_le (show 2+e≤e+20 by omega)) he) (digE (pw_le (show 2≤e+20 by omega)) he) (digE (pw_le (show e≤e+20 by omega)) he) (by omega)
   simp (maxSteps:=1000000) [-map_map,-mapM_map,↓KW,encX,encCh,g1,g2,q1,q3,a1,a2,a3,a4,a5,hgy,hgy',hwt,hw8,hw,hrd,hre,hz]
   refine callP_intro (ds:=[.i .i64 z]) (by rfl) hof ?_
   simp (maxSteps:=1000000) [-map_map,-mapM_map,↓KW,encZ_eq,encC,cellsA_encM,one_encM,inj1_encM,inj_encM,kills_encM]
   refine callP_intro (ds:=[encC o,encC y,encZ z]) (by rfl) hA ?_
   simp (maxSteps:=1000000) [-map_map,-mapM_map,↓KW,encC,hw]
   refine nxt_intro (i+1,addR o (mulR z y)) ⟨by simp only; omega,hnx⟩ (by simp only; omega) (wk_l [1] (by simp) ?_ ?_) <;> simp [-map_map,upd,inj1,Γ0,encX,encCh,encC]
  ·have hmin:min 3 cyc.length=i:=by omega
   have hob:bb=o:=by rw [← hbe,hmin,ho]
   clear hgs0 hgs hS hb hyl ho hmin hi hbe
   have hfl:(c.map encCl).flatten.length=c.length * 3:=ccs_len c
   have hok:=okHead_encX c
   have hfin:∀ y:Cl,chunk 3 (c.length+1) ((c.map encCl).flatten++encCl y)=c.map encCl++[encCl y]:=chunk_ccs c
   have hr2:(x0 % 256).tdiv 128=x0 % 256 / 128:=Int.tdiv_eq_ediv_of_nonneg (by omega)
   refine (show ∃ u,x0 % 256 / 128=u from ⟨_,rfl⟩).elim fun u hue=>?_
   have hu3:IntKind.u8.wrap u=u:=by rw [wrap_u8m]; omega
   have hu4:IntKind.i64.wrap u=u:=wrap_i64 (by omega) (by omega)
   have hub:0≤u∧u≤1:=by omega
   rw [hue] at hr2
   have b1:(c.length+1) * 40≤140737488355328:=by omega
   have b2:c.length * 40≤140737488355328:=by omega
   have b3:c.length+1≤maxLen:=le_maxLen (by omega)
   have b4:c.length≤maxLen:=le_maxLen (by omega)
   have key:∀ (gi:Int) (sl:Nat→AV),True:=fun _ _=>trivial
   by_cases g1:i<cyc.length
   ·have g2:¬ i<3:=fun h=>hgo ⟨g1,h⟩
    have q1:(i:Int)<cyc.length:=by omega
    have q3:¬ (i:Int)<3:=by omega
    by_cases hc0:0<c.length
    ·have hc0':(0:Int)<c.length:=by omega
     refine (show ∃ y,c[c.length - 1]? = some y from ⟨c[c.length - 1],List.getElem?_eq_getElem (by omega)⟩).elim fun y hy=>?_
     have hgy:c.getLast? = some y:=by rw [List.getLast?_eq_getElem?]; exact hy
     have hgi2:gi=y.id+1+u:=by rw [← hgi,← hue]; unfold gId; rw [hgy]
     have hyb:=hid y (List.mem_of_getElem? hy)
     have hw5:IntKind.i64.wrap ((c.length:Int) - 1)=((c.length - 1:Nat):Int):=by rw [wrap_i64 (by omega) (by omega)]; omega
     have hw6:IntKind.i64.wrap (y.id+1)=y.id+1:=wrap_i64 (by omega) (by omega)
     have hw7:IntKind.i64.wrap (y.id+1+u)=y.id+1+u:=wrap_i64 (by omega) (by omega)
     have hf2:chunk 3 (c.length+1) ((c.map encCl).flatten++[D.i .i64 (y.id+1+u),.i .i64 d,encC o])=c.map encCl++[[D.i .i64 (y.id+1+u),.i .i64 d,encC o]]:=hfin ⟨y.id+1+u,d,o⟩
     have hyc:encCl y=[D.i .i64 y.id,.i .i64 y.dim,encC y.b]:=rfl
     have hec:encCl ⟨y.id+1+u,d,o⟩=[D.i .i64 (y.id+1+u),.i .i64 d,encC o]:=rfl
     have hfl2:((c.map encCl).flatten.map AV.d).length=c.length * 3:=by rw [List.length_map]; exact hfl
     have hfl3:¬ c.length * 3=0:=by omega
     have hcn:¬ c.length=0:=by omega
     have hone:(∀ (x:Cl),x∈c→∀ (x_1:D),x_1∈encCl x→one (AV.d x_1)=true)↔True:=⟨fun _=>trivial,fun _=>ccs_one c⟩
     refine (show ∃ fl,(c.map encCl).flatten=fl from ⟨_,rfl⟩).elim fun fl hfe=>?_
     have hfm:(List.map (List.map AV.d) (List.map encCl c)).flatten=fl.map AV.d:=by rw [← hfe,List.map_flatten]
     have hl1:fl.length=c.length * 3:=by rw [← hfe]; exact hfl
     have hf3:chunk 3 (c.length+1) (fl++[D.i .i64 (y.id+1+u),.i .i64 d,encC o])=c.map encCl++[[D.i .i64 (y.id+1+u),.i .i64 d,encC o]]:=by rw [← hfe]; exact hf2
     simp (maxSteps:=1000000) [-map_map,-mapM_map,↓KW,encX,encCh,q1,q3,hob,hc0,hc0',hw5,hy,hyc,hu,hr2,hu3,hu4,hw6,hw7]
     simp (maxSteps:=1000000) [-map_map,-mapM_map,↓KW,hok,hone,hfm,hl1,hfl3,hcn,hf3,b1,b2,b3,b4,one_encC,cellsA_encC,inj1_encC]
     refine ⟨by omega,fl++[D.i .i64 (y.id+1+u),.i .i64 d,encC o],?_,?_⟩
     ·rw [List.take_of_length_le (by simp; omega),show List.map AV.d fl++[AV.d (D.i IntKind.i64 (y.id+1+u)),AV.d (D.i IntKind.i64 d),AV.d (encC o)]=(fl++[D.i .i64 (y.id+1+u),.i .i64 d,encC o]).map AV.d by simp]
      exact mapM_d _ 6 _
     ·rw [hf3,hgi2,hob,hec]
    ·have hc0':¬ (0:Int)<c.length:=by omega
     have hce:c=[]:=List.eq_nil_of_length_eq_zero (by omega)
     subst hce
     have hgi2:gi=1:=by rw [← hgi]; rfl
     have hm1:(1:Nat)≤maxLen:=le_maxLen (by decide)
     have hec:encCl ⟨1,d,o⟩=[D.i .i64 1,.i .i64 d,encC o]:=rfl
     simp (maxSteps:=1000000) [-map_map,-mapM_map,↓KW,encX,encCh,q1,q3,hob,hm1,one_encC,cellsA_encC,inj1_encC]
     simp (maxSteps:=1000000) [-map_map,-mapM_map,↓KW,hgi2,hec]
   ·have q1:¬ (i:Int)<cyc.length:=by omega
    by_cases hc0:0<c.length
    ·have hc0':(0:Int)<c.length:=by omega
     refine (show ∃ y,c[c.length - 1]? = some y from ⟨c[c.length - 1],List.getElem?_eq_getElem (by omega)⟩).elim fun y hy=>?_
     have hgy:c.getLast? = some y:=by rw [List.getLast?_eq_getElem?]; exact hy
     have hgi2:gi=y.id+1+u:=by rw [← hgi,← hue]; unfold gId; rw [hgy]
     have hyb:=hid y (List.mem_of_getElem? hy)
     have hw5:IntKind.i64.wrap ((c.length:Int) - 1)=((c.length - 1:Nat):Int):=by rw [wrap_i64 (by omega) (by omega)]; omega
     have hw6:IntKind.i64.wrap (y.id+1)=y.id+1:=wrap_i64 (by omega) (by omega)
     have hw7:IntKind.i64.wrap (y.id+1+u)=y.id+1+u:=wrap_i64 (by omega) (by omega)
     have hf2:chunk 3 (c.length+1) ((c.map encCl).flatten++[D.i .i64 (y.id+1+u),.i .i64 d,encC o])=c.map encCl++[[D.i .i64 (y.id+1+u),.i .i64 d,encC o]]:=hfin ⟨y.id+1+u,d,o⟩
     have hyc:encCl y=[D.i .i64 y.id,.i .i64 y.dim,encC y.b]:=rfl
     have hec:encCl ⟨y.id+1+u,d,o⟩=[D.i .i64 (y.id+1+u),.i .i64 d,encC o]:=rfl
     have hfl2:((c.map encCl).flatten.map AV.d).length=c.length * 3:=by rw [List.length_map]; exact hfl
     have hfl3:¬ c.length * 3=0:=by omega
     have hcn:¬ c.length=0:=by omega
     have hone:(∀ (x:Cl),x∈c→∀ (x_1:D),x_1∈encCl x→one (AV.d x_1)=true)↔True:=⟨fun _=>trivial,fun _=>ccs_one c⟩
     refine (show ∃ fl,(c.map encCl).flatten=fl from ⟨_,rfl⟩).elim fun fl hfe=>?_
     have hfm:(List.map (List.map AV.d) (List.map encCl c)).flatten=fl.map AV.d:=by rw [← hfe,List.map_flatten]
     have hl1:fl.length=c.length * 3:=by rw [← hfe]; exact hfl
     have hf3:chunk 3 (c.length+1) (fl++[D.i .i64 (y.id+1+u),.i .i64 d,encC o])=c.map encCl++[[D.i .i64 (y.id+1+u),.i .i64 d,encC o]]:=by rw [← hfe]; exact hf2
     simp (maxSteps:=1000000) [-map_map,-mapM_map,↓KW,encX,encCh,q1,hob,hc0,hc0',hw5,hy,hyc,hu,hr2,hu3,hu4,hw6,hw7]
     simp (maxSteps:=1000000) [-map_map,-mapM_map,↓KW,hok,hone,hfm,hl1,hfl3,hcn,hf3,b1,b2,b3,b4,one_encC,cellsA_encC,inj1_encC]
     refine ⟨by omega,fl++[D.i .i64 (y.id+1+u),.i .i64 d,encC o],?_,?_⟩
     ·rw [List.take_of_length_le (by simp; omega),show List.map AV.d fl++[AV.d (D.i IntKind.i64 (y.id+1+u)),AV.d (D.i IntKind.i64 d),AV.d (encC o)]=(fl++[D.i .i64 (y.id+1+u),.i .i64 d,encC o]).map AV.d by simp]
      exact mapM_d _ 6 _
     ·rw [hf3,hgi2,hob,hec]
    ·have hc0':¬ (0:Int)<c.length:=by omega
     have hce:c=[]:=List.eq_nil_of_length_eq_zero (by omega)
     subst hce
     have hgi2:gi=1:=by rw [← hgi]; rfl
     have hm1:(1:Nat)≤maxLen:=le_maxLen (by decide)
     have hec:encCl ⟨1,d,o⟩=[D.i .i64 1,.i .i64 d,encC o]:=rfl
     simp (maxSteps:=1000000) [-map_map,-mapM_map,↓KW,encX,encCh,q1,hob,hm1,one_encC,cellsA_encC,inj1_encC]
     simp (maxSteps:=1000000) [-map_map,-mapM_map,↓KW,hgi2,hec]
end Go.Am
end

section
set_option linter.unusedVariables false
set_option linter.unusedSimpArgs false
open Go Go.Am Go.Proofs
namespace Go.Am
/-! Weights -/
def wsum (w:Int→Int):List (Int × Int)→Int
 | []=>0
 | x::l=>x.2 * w x.1+wsum w l
theorem wsum_app (w:Int→Int):∀ a b:List (Int × Int),wsum w (a++b)=wsum w a+wsum w b
 | [],b=>by simp [wsum]
 | x::a,b=>by
  have:=wsum_app w a b
  simp only [List.cons_append,wsum,this]; omega
theorem wsum_insA (w:Int→Int) (id z:Int):∀ l:List (Int × Int),wsum w (insA id z l)=wsum w l+z * w id
 | []=>by simp [insA,wsum]
 | x::l=>by
  rw [insA]
  by_cases h1:x.1 > id
  ·rw [if_pos h1]; simp only [wsum]; omega
  ·rw [if_neg h1]
   by_cases h2:x.1=id
   ·rw [if_pos h2]
    by_cases h3:x.2+z=0
    ·rw [if_pos h3]
     have:x.2 * w x.1+z * w id=0:=by rw [h2,← Int.add_mul,h3,Int.zero_mul]
     simp only [wsum]; omega
    ·rw [if_neg h3]; simp only [wsum]; rw [h2,Int.add_mul]; omega
   ·rw [if_neg h2]; simp only [wsum]; rw [wsum_insA w id z l]; omega
theorem wsum_insR (w:Int→Int) (l:List (Int × Int)) (f:Int × Int):wsum w (insR l f)=wsum w l+f.2 * w f.1:=by
 obtain ⟨id,z⟩:=f
 rw [insR_eq]
 by_cases h:z=0
 ·rw [if_pos h,h]; simp
 ·rw [if_neg h,wsum_insA]
theorem wsum_addR (w:Int→Int):∀ b a:List (Int × Int),wsum w (addR a b)=wsum w a+wsum w b
 | [],a=>by simp [addR,wsum]
 | f::b,a=>by
  show wsum w (addR (insR a f) b)=_
  rw [wsum_addR w b,wsum_insR]; simp only [wsum]; omega
theorem wsum_mulR (w:Int→Int) (k:Int):∀ b:List (Int × Int),wsum w (mulR k b)=k * wsum w b
 | []=>by simp [mulR,wsum]
 | f::b=>by
  have ih:=wsum_mulR w k b
  show k * f.2 * w f.1+wsum w (mulR k b)=k * (f.2 * w f.1+wsum w b)
  rw [ih,Int.mul_add,Int.mul_assoc]
theorem wsum_congr {w w':Int→Int}:∀ {l:List (Int × Int)},(∀ x∈l,w x.1=w' x.1)→wsum w l=wsum w' l
 | [],_=>rfl
 | x::l,h=>by
  simp only [wsum]
  rw [h x (List.mem_cons_self ..),wsum_congr fun y hy=>h y (List.mem_cons_of_mem _ hy)]
theorem cf_wsum (n:Int):∀ l:List (Int × Int),cf n l=wsum (fun m=>if n=m then 1 else 0) l
 | []=>rfl
 | x::l=>by
  simp only [cf,wsum]
  rw [cf_wsum n l]
  split <;> simp
theorem cf_none {n:Int}:∀ {l:List (Int × Int)},(∀ x∈l,x.1≠n)→cf n l=0
 | [],_=>rfl
 | x::l,h=>by
  simp only [cf]
  rw [if_neg fun e=>h x (List.mem_cons_self ..) e.symm,cf_none fun y hy=>h y (List.mem_cons_of_mem _ hy)]; rfl
theorem cf_bdL (c:List Cl) (n:Int):∀ y:List (Int × Int),cf n (bdL c y)=wsum (fun m=>cf n (bOf c m)) y
 | []=>rfl
 | f::y=>by
  show cf n (mulR f.2 (bOf c f.1)++bdL c y)=_
  rw [cf_app,cf_mulR,cf_bdL c n y]; rfl
theorem sgm_head (n:Nat) (f:Nat→Int):sgm (n+1) f=f 0+sgm n fun j=>f (j+1):=by
 induction n with
 | zero=>show 0+f 0=f 0+0; omega
 | succ n ih =>
  show sgm (n+1) f+f (n+1)=f 0+(sgm n (fun j=>f (j+1))+f (n+1))
  rw [ih]; omega
theorem wsum_zip (w:Int→Int):∀ (ids v:List Int),ids.length=v.length→wsum w (ids.zip v)=sgm ids.length fun j=>v.getD j 0 * w (ids.getD j 0)
 | [],[],_=>rfl
 | [],_::_,h=>by simp at h
 | _::_,[],h=>by simp at h
 | i::ids,z::v,h=>by
  have ih:=wsum_zip w ids v (by simpa using h)
  rw [List.zip_cons_cons,List.length_cons,sgm_head]
  simp only [wsum,ih]; rfl
/-! Sizes of valid chains -/
theorem getM_of_mem:∀ {l:List (Int × Int)} {x:Int × Int},Val l→x∈l→getM l x.1=x.2
 | y::l,x,h,hx=>by
  obtain ⟨h1,h2,_⟩:=h.tail
  rw [getM_cons]
  rcases List.mem_cons.1 hx with rfl | hx
  ·rw [if_pos rfl]
  ·rw [if_neg (by have:=h2 x hx; omega),getM_of_mem h1 hx]
theorem bnd_of_getM {l:List (Int × Int)} {M:Nat} (h:Val l) (hb:∀ n,(getM l n).natAbs≤M):Bnd M l:=fun x hx=>by
 rw [← getM_of_mem h hx]; exact hb _
theorem mem_of_getM {l:List (Int × Int)} {n:Int} (h:getM l n≠0):∃ x∈l,x.1=n:=Classical.byContradiction fun hn=>h (getM_zero fun y hy e=>hn ⟨y,hy,e⟩)
theorem getM_bnd' {M:Nat} {l:List (Int × Int)} (h:Bnd M l) (n:Int):(getM l n).natAbs≤M:=getM_bnd h n
theorem lin_vbnd {a b:List (Int × Int)} {k:Int} {A M K:Nat} (ha:Val a) (hb:Val b) (bA:Bnd A a) (bM:Bnd M b) (hk:k.natAbs≤K):Bnd (A+K * M) (addR a (mulR k b)):=by
 obtain ⟨h1,h2⟩:=lin_val ha hb k
 refine bnd_of_getM h1 fun n=>?_
 show (getM (lin a b k) n).natAbs≤_
 rw [h2 n]
 have e1:=getM_bnd' bA n
 have e2:=Nat.mul_le_mul hk (getM_bnd' bM n)
 have e3:=Int.natAbs_add_le (getM a n) (k * getM b n)
 rw [Int.natAbs_mul] at e3
 omega
theorem lin_keys' {a b:List (Int × Int)} {k:Int} {S:Int→Prop} (ha:Val a) (hb:Val b) (ka:∀ x∈a,S x.1) (kb:∀ x∈b,S x.1):∀ x∈addR a (mulR k b),S x.1:=fun x hx=>by
 obtain ⟨h1,h2⟩:=lin_val ha hb k
 have e:=getM_of_mem (l:=lin a b k) h1 hx
 rw [h2] at e
 have hne:x.2≠0:=h1.2 x hx
 by_cases h:getM a x.1=0
 ·have:getM b x.1≠0:=fun h'=>by rw [h,h',Int.mul_zero] at e; exact hne e.symm
  obtain ⟨y,hy,e2⟩:=mem_of_getM this
  rw [← e2]; exact kb y hy
 ·obtain ⟨y,hy,e2⟩:=mem_of_getM h
  rw [← e2]; exact ka y hy
theorem cf_zip_bnd {M:Nat} (n:Int):∀ (ids v:List Int),ids.Pairwise (·<·)→(∀ z∈v,z.natAbs≤M)→(cf n (ids.zip v)).natAbs≤M∧(cf n (ids.zip v)≠0→n∈ids)
 | [],v,_,_=>by simp [cf]
 | i::ids,[],_,_=>by simp [cf]
 | i::ids,z::v,hp,hv=>by
  obtain ⟨h1,h2⟩:=List.pairwise_cons.1 hp
  obtain ⟨h3,h4⟩:=cf_zip_bnd n ids v h2 fun y hy=>hv y (List.mem_cons_of_mem _ hy)
  rw [List.zip_cons_cons]
  simp only [cf]
  by_cases e:n=i
  ·have hz:cf n (ids.zip v)=0:=cf_none fun x hx e2=>by
    have:=h1 _ (List.of_mem_zip hx).1; omega
   rw [if_pos e,hz,Int.add_zero]
   exact ⟨hv z (List.mem_cons_self ..),fun _=>by rw [e]; exact List.mem_cons_self ..⟩
  ·rw [if_neg e,Int.zero_add]
   exact ⟨h3,fun h=>List.mem_cons_of_mem _ (h4 h)⟩
theorem chain_of {ids v:List Int} {M:Nat} (hp:ids.Pairwise (·<·)) (hv:∀ z∈v,z.natAbs≤M):Val (addR [] (ids.zip v))∧Bnd M (addR [] (ids.zip v))∧(∀ x∈addR [] (ids.zip v),x.1∈ids)∧(addR [] (ids.zip v)).length≤ids.length∧∀ n,getM (addR [] (ids.zip v)) n=cf n (ids.zip v):=by
 obtain ⟨h1,h2⟩:=addR_val (ids.zip v) [] Val.nil
 have h3:∀ n,getM (addR [] (ids.zip v)) n=cf n (ids.zip v):=fun n=>by rw [h2 n,getM_nil,Int.zero_add]
 refine ⟨h1,bnd_of_getM h1 fun n=>by rw [h3]; exact (cf_zip_bnd n ids v hp hv).1,fun x hx=>?_,?_,h3⟩
 ·have e:=getM_of_mem h1 hx
  rw [h3] at e
  exact (cf_zip_bnd x.1 ids v hp hv).2 (by rw [e]; exact h1.2 x hx)
 ·have:=addR_len [] (ids.zip v)
  rw [List.length_zip] at this
  simp only [List.length_nil] at this; omega
/-! Cells of a dimension -/
theorem Inc.ids {c:List Cl} (h:Inc c) (k:Int):(idsX c k).Pairwise (·<·):=by
 unfold idsX
 rw [List.pairwise_map]
 exact (List.Pairwise.filter _ h)
theorem mem_idsX {c:List Cl} {k n:Int}:n∈idsX c k↔∃ x∈c,x.dim=k∧x.id=n:=by
 unfold idsX
 rw [List.mem_map]
 constructor
 ·rintro ⟨x,hx,e⟩
  obtain ⟨h1,h2⟩:=List.mem_filter.1 hx
  exact ⟨x,h1,of_decide_eq_true h2,e⟩
 ·rintro ⟨x,h1,h2,e⟩
  exact ⟨x,List.mem_filter.2 ⟨h1,decide_eq_true h2⟩,e⟩
theorem idsX_app (c:List Cl) (x:Cl) (k:Int):idsX (c++[x]) k=idsX c k++if x.dim=k then [x.id] else []:=by
 unfold idsX
 rw [List.filter_append,List.map_append]
 congr 1
 by_cases e:x.dim=k <;> simp [e]
theorem findX_app {c:List Cl} {x:Cl} {n:Int} (h:n≠x.id):findX (c++[x]) n=findX c n:=by
 unfold findX
 rw [List.find?_append]
 have:[x].find? (fun y=>decide (y.id=n))=none:=by simp; exact fun e=>h e.symm
 rw [this,Option.or_none]
theorem bOf_app {c:List Cl} {x:Cl} {n:Int} (h:n≠x.id):bOf (c++[x]) n=bOf c n:=by unfold bOf; rw [findX_app h]
structure CxV (c:List Cl):Prop where
 inc:Inc c
 dim:∀ x∈c,0≤x.dim∧x.dim≤3
 val:∀ x∈c,Val x.b
 face:∀ x∈c,∀ f∈x.b,∃ y∈c,y.id=f.1∧y.dim=x.dim - 1
 cyc:∀ x∈c,∀ n,wsum (fun m=>cf n (bOf c m)) x.b=0
theorem CxV.bOf {c:List Cl} (h:CxV c) {x:Cl} (hx:x∈c):bOf c x.id=x.b:=by unfold Go.Am.bOf; rw [h.inc.find hx]; rfl
theorem CxV.bval {c:List Cl} (h:CxV c) (n:Int):Val (Go.Am.bOf c n):=by
 unfold Go.Am.bOf
 cases e:findX c n with
 | none=>exact Val.nil
 | some x=>exact h.val x (findX_some e).1
theorem CxV.cycle {c:List Cl} (h:CxV c) {k:Int} {v:List Int} (hv:v.length=(idsX c k).length) (hz:∀ t,t<(idsX c (k - 1)).length→sgm (idsX c k).length (fun j=>v.getD j 0 * ent (matX c k) j t)=0) (n:Int) :
  wsum (fun m=>cf n (Go.Am.bOf c m)) (addR [] ((idsX c k).zip v))=0:=by
 rw [wsum_addR,wsum_zip _ _ _ hv.symm]
 show 0+_=(0:Int)
 rw [Int.zero_add]
 have hrow:∀ j,j<(idsX c k).length→∃ x∈c,x.dim=k∧x.id=(idsX c k).getD j 0:=fun j hj=>by
  rw [List.getD_eq_getElem?_getD,List.getElem?_eq_getElem hj]
  exact mem_idsX.1 (List.getElem_mem hj)
 by_cases hn:n∈idsX c (k - 1)
 ·obtain ⟨t,ht,e⟩:=List.getElem_of_mem hn
  refine Eq.trans ?_ (hz t ht)
  refine sgm_congr fun j hj=>?_
  have:ent (matX c k) j t=cf n (Go.Am.bOf c ((idsX c k).getD j 0)):=by
   unfold ent
   rw [List.getD_eq_getElem?_getD (l:=matX c k),matX_get (List.getElem?_eq_getElem hj),Option.getD_some,List.getD_eq_getElem?_getD,rowX_get (List.getElem?_eq_getElem ht),Option.getD_some,e,lv_getM (h.bval _),← cf_getM (h.bval _)]
   rw [List.getD_eq_getElem?_getD,List.getElem?_eq_getElem hj]; rfl
  rw [this]
 ·rw [sgm_congr (g:=fun _=>0) fun j hj=>?_,sgm_zero]
  obtain ⟨x,hx,hd,he⟩:=hrow j hj
  rw [← he,h.bOf hx,cf_none fun f hf e=>?_,Int.mul_zero]
  obtain ⟨y,hy,e1,e2⟩:=h.face x hx f hf
  exact hn (mem_idsX.2 ⟨y,hy,by omega,by omega⟩)
theorem matX_sh (c:List Cl) (k:Int):Sh (idsX c k).length (idsX c (k - 1)).length (matX c k):=⟨matX_len c k,fun v hv=>by
 obtain ⟨n,_,rfl⟩:=List.mem_map.1 hv
 exact rowX_len _ _⟩
theorem matX_be {c:List Cl} {k:Int} {e:Nat} (hi:Inc c) (hb:∀ x∈c,x.dim=k→Bnd (2 ^ e) x.b):Be e (matX c k):=Be.of (matX_sh c k) fun r t hr ht=>by
 unfold ent
 rw [List.getD_eq_getElem?_getD (l:=matX c k),matX_get (List.getElem?_eq_getElem hr),Option.getD_some,List.getD_eq_getElem?_getD,rowX_get (List.getElem?_eq_getElem ht),Option.getD_some]
 obtain ⟨x,hx,hd,he⟩:=mem_idsX.1 (List.getElem_mem hr)
 rw [← he]
 have:bOf c x.id=x.b:=by unfold bOf; rw [hi.find hx]; rfl
 rw [this]
 exact lv_bnd (hb x hx hd) _
end Go.Am
end

section
set_option linter.unusedVariables false
set_option linter.unusedSimpArgs false
open List (map_map mapM_map)
open Go Go.Am Go.Proofs
namespace Go.Am
def eD (d:Int):Nat:=if d=1 then 4 else if d=2 then 16777216 else if d=3 then 549755944960 else 0
structure Gr (i:Nat) (c:List Cl):Prop where
 v:CxV c
 len:c.length≤7+i
 n0:(idsX c 0).length≤3+i
 n1:(idsX c 1).length≤3+i
 n2:(idsX c 2).length≤2+i
 ids:∀ x∈c,1≤x.id∧x.id≤9+2 * (i:Int)
 bl:∀ x∈c,x.b.length≤48
 eb:∀ x∈c,Bnd (2 ^ eD x.dim) x.b
/-! The spaces -/
def grB (c:List Cl):Prop:=(c.Pairwise fun x y=>x.id<y.id)∧(∀ x∈c,0≤x.dim∧x.dim≤3)∧(∀ x∈c,x.b.Pairwise (fun x y=>x.1<y.1)∧∀ y∈x.b,y.2≠0)∧(∀ x∈c,∀ f∈x.b,∃ y∈c,y.id=f.1∧y.dim=x.dim - 1)∧(∀ x∈c,addR [] (bdL c x.b)=[])
 ∧ c.length≤7∧(idsX c 0).length≤3∧(idsX c 1).length≤3∧(idsX c 2).length≤2∧(∀ x∈c,1≤x.id∧x.id≤9)∧(∀ x∈c,x.b.length≤48)∧∀ x∈c,x.b=[]∨(1≤x.dim∧∀ y∈x.b,y.2.natAbs≤16)
instance (c : List Cl) : Decidable (grB c) := by unfold grB; infer_instance
theorem eD_ge {d:Int} (h1:1≤d) (h3:d≤3):4≤eD d:=by
 unfold eD
 split
 ·omega
 ·split
  ·omega
  ·rw [if_pos (by omega)]; omega
theorem gr_of {c:List Cl} (h:grB c):Gr 0 c:=by
 obtain ⟨h1,h2,h3,h4,h5,h6,h7,h8,h9,h10,h11,h12⟩:=h
 refine ⟨⟨h1,h2,h3,h4,fun x hx n=>?_⟩,h6,h7,h8,h9,fun x hx=>by have:=h10 x hx; omega,h11,fun x hx=>?_⟩
 ·rw [← cf_bdL]
  have:=(addR_val (bdL c x.b) [] Val.nil).2 n
  rw [h5 x hx,getM_nil] at this; omega
 ·rcases h12 x hx with h | ⟨h,h'⟩
  ·rw [h]; exact Bnd.nil _
  ·exact Bnd.mono (M:=16) h' (Nat.le_trans (show 16≤2 ^ 4 by decide) (pw_le (eD_ge h (h2 x hx).2)))
set_option maxRecDepth 100000 in
theorem spc_gr (j:Nat) (h:j<14):Gr 0 (spc j):=by
 refine gr_of ?_
 revert j
 decide
/-! One more cell -/
theorem gB_props {c:List Cl} {E:Nat} {cyc:List (List (Int × Int))} {xs:List Int} {S:Int→Prop} {W:Int→Int→Int} (hc:∀ y∈cyc,Val y∧Bnd (2 ^ E) y∧(∀ f∈y,S f.1)∧∀ n,wsum (W n) y=0) :
  ∀ i,i≤cyc.length→Val (gB cyc xs i)∧Bnd (i * (2 ^ 2 * 2 ^ E)) (gB cyc xs i)∧(∀ f∈gB cyc xs i,S f.1)∧∀ n,wsum (W n) (gB cyc xs i)=0
 | 0,_=>⟨Val.nil,Bnd.nil _,(fun f hf=>absurd hf List.not_mem_nil),fun n=>rfl⟩
 | i+1,hi=>by
  obtain ⟨h1,h2,h3,h4⟩:=gB_props (c:=c) (xs:=xs) hc i (by omega)
  have hm:cyc.getD i []∈cyc:=by rw [List.getD_eq_getElem?_getD,List.getElem?_eq_getElem (by omega)]; exact List.getElem_mem _
  obtain ⟨y1,y2,y3,y4⟩:=hc _ hm
  refine ⟨(lin_val h1 y1 _).1,?_,lin_keys' h1 y1 h3 y3,fun n=>?_⟩
  ·rw [Nat.succ_mul]
   exact lin_vbnd h1 y1 h2 y2 (tmod4 _).1
  ·show wsum (W n) (addR (gB cyc xs i) (mulR _ (cyc.getD i [])))=0
   rw [wsum_addR,wsum_mulR,h4,y4]; simp
theorem gId_gt {c:List Cl} {x0:Int} (h:Inc c):∀ x∈c,x.id<gId c x0:=fun x hx=>by
 unfold gId
 cases e:c.getLast? with
 | none=>rw [List.getLast?_eq_none_iff] at e; rw [e] at hx; cases hx
 | some y =>
  obtain ⟨ys,hy⟩:=List.getLast?_eq_some_iff.1 e
  have:x.id≤y.id:=by
   rw [hy] at hx h
   rcases List.mem_append.1 hx with hx | hx
   ·exact Int.le_of_lt ((List.pairwise_append.1 h).2.2 x hx y (List.mem_singleton_self _))
   ·rw [List.mem_singleton.1 hx]; exact Int.le_refl _
  simp only; omega
theorem gId_le {c:List Cl} {x0 m:Int} (h:∀ x∈c,1≤x.id∧x.id≤m) (hm:0≤m):1≤gId c x0∧gId c x0≤m+2:=by
 unfold gId
 cases e:c.getLast? with
 | none=>simp only; omega
 | some y =>
  have:=h y (List.mem_of_getLast? e)
  simp only; omega
theorem grow {i E:Nat} {c:List Cl} {x0 x1 x2 x3:Int} {cyc:List (List (Int × Int))} (g:Gr i c) (hc:∀ y∈cyc,Val y∧Bnd (2 ^ E) y∧(∀ f∈y,f.1∈idsX c (gDim x0 - 1))∧∀ n,wsum (fun m=>cf n (bOf c m)) y=0) (hl:∀ y∈cyc,y.length≤16)
  (hE:cyc=[]∨E+4≤eD (gDim x0)):Gr (i+1) (grown c x0 x1 x2 x3 cyc):=by
 obtain ⟨b1,b2,b3,b4⟩:=gB_props (c:=c) (xs:=[x0,x1,x2,x3]) hc (min 3 cyc.length) (by omega)
 have b5:(gB cyc [x0,x1,x2,x3] (min 3 cyc.length)).length≤48:=by
  have:=(gB_sz (e:=E) (xs:=[x0,x1,x2,x3]) (fun y hy=>(hc y hy).2.1) hl (min 3 cyc.length) (by omega) (by omega)).2
  omega
 have b6:Bnd (2 ^ eD (gDim x0)) (gB cyc [x0,x1,x2,x3] (min 3 cyc.length)):=by
  rcases hE with h | h
  ·subst h; exact Bnd.nil _
  ·refine b2.mono (Nat.le_trans ?_ (pw_le h))
   rw [pw_mul,show E+4=2+(2+E) by omega]
   exact pw_len (Nat.le_trans (show min 3 cyc.length≤3 by omega) (by decide))
 unfold grown
 generalize gB cyc [x0,x1,x2,x3] (min 3 cyc.length)=b at *
 have hgt:=gId_gt (x0:=x0) g.v.inc
 have hle:=gId_le (x0:=x0) g.ids (by omega)
 have hd:0≤gDim x0∧gDim x0≤3:=by unfold gDim; omega
 generalize gId c x0=id at *
 generalize gDim x0=d at *
 have hmem:∀ n k,n∈idsX c k→n≠id:=fun n k hn=>by
  obtain ⟨y,hy,_,e⟩:=mem_idsX.1 hn
  have:=hgt y hy; omega
 have hall:∀ (P:Cl→Prop),(∀ x∈c,P x)→P ⟨id,d,b⟩→∀ x∈c++[⟨id,d,b⟩],P x:=fun P h1 h2 x hx=>by
  rcases List.mem_append.1 hx with hx | hx
  ·exact h1 x hx
  ·rw [List.mem_singleton.1 hx]; exact h2
 have hcnt:∀ k m,(idsX c k).length≤m→(idsX (c++[⟨id,d,b⟩]) k).length≤m+1:=fun k m h=>by
  rw [idsX_app,List.length_append]; split <;> simp <;> omega
 refine ⟨⟨?_,hall _ g.v.dim hd,hall _ g.v.val b1,hall _ (fun x hx f hf=>?_) fun f hf=>?_,hall _ (fun x hx n=>?_) fun n=>?_⟩,?_,hcnt 0 _ g.n0,hcnt 1 _ g.n1,hcnt 2 _ g.n2,hall _ (fun x hx=>?_) ?_,hall _ g.bl b5,hall _ g.eb b6⟩
 ·refine List.pairwise_append.2 ⟨g.v.inc,List.pairwise_singleton _ _,fun x hx y hy=>?_⟩
  rw [List.mem_singleton.1 hy]; exact hgt x hx
 ·obtain ⟨y,hy,e⟩:=g.v.face x hx f hf
  exact ⟨y,List.mem_append_left _ hy,e⟩
 ·obtain ⟨y,hy,e1,e2⟩:=mem_idsX.1 (b3 f hf)
  exact ⟨y,List.mem_append_left _ hy,e2,e1⟩
 ·rw [wsum_congr fun f hf=>?_]
  ·exact g.v.cyc x hx n
  ·obtain ⟨y,hy,e,_⟩:=g.v.face x hx f hf
   rw [bOf_app]
   have:=hgt y hy
   show f.1≠id; omega
 ·rw [wsum_congr fun f hf=>?_]
  ·exact b4 n
  ·rw [bOf_app]; exact hmem _ _ (b3 f hf)
 ·rw [List.length_append]; have:=g.len; simp; omega
 ·have:=g.ids x hx; omega
 ·show 1≤id∧id≤_; omega
/-! The cycles -/
theorem tr6:∀ R,R≤6→tr R≤21:=by
 intro R h
 have:∀ R,R<7→tr R≤21:=by decide
 exact this R (by omega)
theorem tr5:∀ R,R≤5→tr R≤15:=by
 intro R h
 have:∀ R,R<6→tr R≤15:=by decide
 exact this R (by omega)
theorem cyc_of {E:Nat} {c:List Cl} {k:Int} {L:List (List Int)} (hv:CxV c) (hL:LeftR (idsX c k).length (idsX c (k - 1)).length E (matX c k) L) :
  ∀ y∈L.map fun v=>(chX c k v).1,(Val y∧Bnd (2 ^ E) y∧(∀ f∈y,f.1∈idsX c k)∧∀ n,wsum (fun m=>cf n (bOf c m)) y=0)∧y.length≤(idsX c k).length:=fun y hy=>by
 obtain ⟨v,hvL,rfl⟩:=List.mem_map.1 hy
 have hr:=hL.row v hvL
 have e:(chX c k v).1=addR [] ((idsX c k).zip v):=by unfold chX; rw [if_pos hr]
 rw [e]
 obtain ⟨c1,c2,c3,c4,_⟩:=chain_of (hv.inc.ids k) (hL.be v hvL)
 exact ⟨⟨c1,c2,c3,hv.cycle hr (hL.ker v hvL)⟩,c4⟩
theorem cyc_ex {i:Nat} {c:List Cl} (g:Gr i c) (hi:i≤3) (d:Int) (hd:0≤d∧d≤3):∃ cyc E,Spec Tryz.prog 87 [encX c,.i .i64 (d - 1)] (encCh cyc)∧(cyc=[]∨E+4≤eD d)∧E+20<4398046511104∧cyc.length≤100 ∧
  ∀ y∈cyc,(Val y∧Bnd (2 ^ E) y∧(∀ f∈y,f.1∈idsX c (d - 1))∧∀ n,wsum (fun m=>cf n (bOf c m)) y=0)∧y.length≤16:=by
 have hlen:=g.len
 have hbl:∀ x∈c,x.b.length≤1000000:=fun x hx=>Nat.le_trans (g.bl x hx) (by decide)
 have fin:∀ (k:Int) (E:Nat) L,0≤k→k≤2→(idsX c k).length≤16→E+20<4398046511104→E+4≤eD (k+1)→LeftR (idsX c k).length (idsX c (k - 1)).length E (matX c k) L→∃ cyc E,Spec Tryz.prog 87 [encX c,.i .i64 k] (encCh cyc)∧(cyc=[]∨E+4≤eD (k+1))∧E+20<4398046511104∧cyc.length≤100 ∧
   ∀ y∈cyc,(Val y∧Bnd (2 ^ E) y∧(∀ f∈y,f.1∈idsX c k)∧∀ n,wsum (fun m=>cf n (bOf c m)) y=0)∧y.length≤16:=fun k E L h1 h2 h3 h4 h5 hL=>by
  have hc:=cyc_of g.v hL
  refine ⟨_,E,r26Cycles c k L (by omega) (by omega) hbl hL h4,.inr h5,h4,?_,fun y hy=>⟨(hc y hy).1,Nat.le_trans (hc y hy).2 h3⟩⟩
  rw [List.length_map]
  have:=hL.len; omega
 have hd':d=0∨d=1∨d=2∨d=3:=by omega
 rcases hd' with rfl | rfl | rfl | rfl
 ·exact ⟨[],0,r26CyclesN c _ (by decide),.inl rfl,by decide,by simp,fun y hy=>by cases hy⟩
 ·have h0:(idsX c (0 - 1)).length=0:=by
   rw [List.length_eq_zero_iff]
   refine List.eq_nil_iff_forall_not_mem.2 fun n hn=>?_
   obtain ⟨x,hx,hdx,_⟩:=mem_idsX.1 hn
   have:=(g.v.dim x hx).1; omega
  have hs:=matX_sh c 0
  rw [h0] at hs
  have hl:=left_id hs (by have:=g.n0; omega)
  refine fin 0 0 _ (by decide) (by decide) (by have:=g.n0; omega) (by decide) (by decide) (by rw [h0]; exact hl)
 ·have hb:Be 4 (matX c 1):=matX_be g.v.inc fun x hx hdx=>by have:=g.eb x hx; rw [hdx] at this; exact this
  have hn:=g.n1
  have h1:=dbl_mono (e:=4) (tr6 (idsX c 1).length (by omega))
  have h2:=dbl_eq 21 4
  rw [show 2 ^ 21 * (4+4)=16777216 by decide] at h2
  obtain ⟨L,hL⟩:=left_ex (matX_sh c 1) (by omega) (by have:=idsX_len c (1 - 1); omega) hb (by omega)
  exact fin 1 _ L (by decide) (by decide) (by omega) (by omega) (by show _≤16777216; omega) hL
 ·obtain ⟨E2,hE2,hE3⟩:∃ E,E=eD 2∧E=16777216:=⟨eD 2,rfl,rfl⟩
  have hb:Be E2 (matX c 2):=matX_be g.v.inc fun x hx hdx=>by have:=g.eb x hx; rw [hdx,← hE2] at this; exact this
  have hn:=g.n2
  have h1:=dbl_mono (e:=E2) (tr5 (idsX c 2).length (by omega))
  have h2:=dbl_eq 15 E2
  have h3:2 ^ 15 * (E2+4)=549755944960:=by rw [hE3]
  rw [h3] at h2
  obtain ⟨L,hL⟩:=left_ex (matX_sh c 2) (by omega) (by have:=idsX_len c (2 - 1); omega) hb (by omega)
  exact fin 2 _ L (by decide) (by decide) (by omega) (by omega) (by show _≤549755944960; omega) hL
/-! The draw -/
abbrev Q4:=Int × Int × Int × Int
def Q4.ok (q:Q4):Prop:=(-128≤q.1∧q.1≤127)∧(-128≤q.2.1∧q.2.1≤127)∧(-128≤q.2.2.1∧q.2.2.1≤127)∧(-128≤q.2.2.2∧q.2.2.2≤127)
def encQ (q:Q4):List D:=[.i .i8 q.1,.i .i8 q.2.1,.i .i8 q.2.2.1,.i .i8 q.2.2.2]
def encRaw (s:Int) (l:List Q4):D:=.ag [.i .u8 s,.sl (l.map encQ)]
theorem grown_ex {i:Nat} {c:List Cl} (g:Gr i c) (hi:i≤3) (q:Q4) (hq:q.ok):∃ c',Spec Tryz.prog 36 [encX c,.ag (encQ q)] (encX c')∧Gr (i+1) c':=by
 obtain ⟨x0,x1,x2,x3⟩:=q
 obtain ⟨cyc,E,h1,h2,h3,h4,h5⟩:=cyc_ex g hi (gDim x0) (by unfold gDim; omega)
 have hlen:=g.len
 exact ⟨_,r26Grown (e:=E) c x0 x1 x2 x3 cyc hq.1 hq.2.1 hq.2.2.1 hq.2.2.2 (by omega) (fun y hy=>by have:=g.ids y hy; omega) h1 h4 (fun y hy=>(h5 y hy).1.2.1) (fun y hy=>(h5 y hy).2) h3,
  grow g (fun y hy=>(h5 y hy).1) (fun y hy=>(h5 y hy).2) h2⟩
inductive MkR:List Q4→List Cl→List Cl→Prop
 | nil (c:List Cl):MkR [] c c
 | cons (q:Q4) (l:List Q4) (c c1 c2:List Cl) (h:Spec Tryz.prog 36 [encX c,.ag (encQ q)] (encX c1)) (h2:MkR l c1 c2):MkR (q::l) c c2
theorem MkR.end {c c2:List Cl} (h:MkR [] c c2):c2=c:=by cases h; rfl
theorem MkR.next {q:Q4} {l:List Q4} {c c2:List Cl} (h:MkR (q::l) c c2):∃ c1,Spec Tryz.prog 36 [encX c,.ag (encQ q)] (encX c1)∧MkR l c1 c2:=by cases h with | cons _ _ _ c1 _ h h2=>exact ⟨c1,h,h2⟩
theorem mk_ex:∀ (l:List Q4) (i:Nat) (c:List Cl),Gr i c→i+l.length≤4→(∀ q∈l,q.ok)→∃ c',MkR l c c'∧Gr (i+l.length) c'
 | [],i,c,g,_,_=>⟨c,.nil c,g⟩
 | q::l,i,c,g,hi,hq=>by
  simp only [List.length_cons] at hi
  obtain ⟨c1,h1,h2⟩:=grown_ex g (by omega) q (hq q (List.mem_cons_self ..))
  obtain ⟨c2,h3,h4⟩:=mk_ex l (i+1) c1 h2 (by omega) fun y hy=>hq y (List.mem_cons_of_mem _ hy)
  exact ⟨c2,.cons q l c c1 c2 h1 h3,by rw [List.length_cons,show i+(l.length+1)=i+1+l.length by omega]; exact h4⟩
set_option maxHeartbeats 2000000 in
set_option maxRecDepth 10000 in
theorem r26MadeS (s:Int) (l:List Q4) (c0 c:List Cl) (hl:l.length≤9223372036854775807) (hS:Spec Tryz.prog 35 [.i .u8 s] (encX c0)) (hm:MkR (l.take 4) c0 c):Spec Tryz.prog 9 [encRaw s l] (encX c):=by
 refine spec_of (N:=27) follows_mixed Tryz.func9 rfl rfl rfl (by kernel_rfl) (by kernel_rfl) (by simp) ?_
 have hq4:∀ q:Q4,encQ q=[.i .i8 q.1,.i .i8 q.2.1,.i .i8 q.2.2.1,.i .i8 q.2.2.2]:=fun q=>rfl
 simp (maxSteps:=1000000) [-map_map,-mapM_map,↓KW,encRaw]
 refine callP_intro (ds:=[.i .u8 s]) (by rfl) hS ?_
 simp (maxSteps:=1000000) [-map_map,-mapM_map,↓KW,encX]
 refine loopP_inv (fun y:Nat × List Cl=>y.1≤min 4 l.length∧MkR ((l.take 4).drop y.1) y.2 c) (fun y=>StL [(1,.ptr 1 0),(3,.d (encX y.2)),(4,.d (.i .i64 (y.1:Int)))] none [.cells 24 [.d (.i .u8 s),.d (.sl (l.map encQ))]]) (fun y=>4 - y.1) (0,c0) ⟨Nat.zero_le _,hm⟩ ?_ ?_
 ·refine wk_l [1] (by simp) ?_ ?_ <;> simp [-map_map,upd,inj1,Γ0,encX]
 ·rintro ⟨i,d⟩ ⟨hi,hm⟩
  simp only at hi hm ⊢
  by_cases hgo:i<l.length∧i<4
  ·have g1:=hgo.1
   have g2:=hgo.2
   have q1:(i:Int)<l.length:=by omega
   have q2:(i:Int)<4:=by omega
   have hx:l[i]? = some l[i]:=List.getElem?_eq_getElem g1
   have hd:(l.take 4).drop i=l[i]::(l.take 4).drop (i+1):=by
    rw [List.drop_eq_getElem_cons (by rw [List.length_take]; omega),List.getElem_take]
   rw [hd] at hm
   have hw:IntKind.i64.wrap ((i:Int)+1)=(i:Int)+1:=wrap_i64 (by omega) (by omega)
   refine (hm.next).elim fun d1 hh=>?_
   have h1:=hh.1
   have h2:=hh.2
   clear hh hd hm
   have hx':∀ h:i<l.length,l[i]'h=l[i]:=fun h=>rfl
   refine (show ∃ q,l[i]=q from ⟨_,rfl⟩).elim fun q hq=>?_
   rw [hq] at hx h1
   have hgy':∀ h:i<l.length,l[i]'h=q:=fun h=>hq
   have e4:=hq4 q
   rw [e4] at h1
   simp (maxSteps:=1000000) [-map_map,-mapM_map,↓KW,encX,g1,g2,q1,q2,hx,hgy',e4]
   refine callP_intro (ds:=[encX d,.ag [.i .i8 q.1,.i .i8 q.2.1,.i .i8 q.2.2.1,.i .i8 q.2.2.2]]) (by rfl) h1 ?_
   simp (maxSteps:=1000000) [-map_map,-mapM_map,↓KW,encX,hw]
   refine nxt_intro (i+1,d1) ⟨by simp only; omega,h2⟩ (by simp only; omega) (wk_l [1] (by simp) ?_ ?_) <;> simp [-map_map,upd,inj1,Γ0,encX]
  ·have hd:(l.take 4).drop i=[]:=List.drop_eq_nil_of_le (by rw [List.length_take]; omega)
   rw [hd] at hm
   have he:=hm.end
   by_cases g1:i<l.length
   ·have q1:(i:Int)<l.length:=by omega
    have q2:¬ (i:Int)<4:=by omega
    simp (maxSteps:=1000000) [-map_map,-mapM_map,↓KW,encX,q1,q2,he]
   ·have q1:¬ (i:Int)<l.length:=by omega
    simp (maxSteps:=1000000) [-map_map,-mapM_map,↓KW,encX,q1,he]
theorem space_ex (s:Int) (h:0≤s∧s≤255):∃ j,j<14∧Spec Tryz.prog 35 [.i .u8 s] (encX (spc j)):=by
 have h1:=Int.tmod_lt_of_pos s (b:=14) (by decide)
 have h2:0≤s.tmod 14:=Int.tmod_nonneg _ h.1
 have h3:s.tmod 14=0∨s.tmod 14=1∨s.tmod 14=2∨s.tmod 14=3∨s.tmod 14=4∨s.tmod 14=5∨s.tmod 14=6∨s.tmod 14=7∨s.tmod 14=8∨s.tmod 14=9∨s.tmod 14=10∨s.tmod 14=11∨s.tmod 14=12∨s.tmod 14=13:=by omega
 rcases h3 with e | e | e | e | e | e | e | e | e | e | e | e | e | e
 ·exact ⟨0,by decide,space0 s e⟩
 ·exact ⟨1,by decide,space1 s e⟩
 ·exact ⟨2,by decide,space2 s e⟩
 ·exact ⟨3,by decide,space3 s e⟩
 ·exact ⟨4,by decide,space4 s e⟩
 ·exact ⟨5,by decide,space5 s e⟩
 ·exact ⟨6,by decide,space6 s e⟩
 ·exact ⟨7,by decide,space7 s e⟩
 ·exact ⟨8,by decide,space8 s e⟩
 ·exact ⟨9,by decide,space9 s e⟩
 ·exact ⟨10,by decide,space10 s e⟩
 ·exact ⟨11,by decide,space11 s e⟩
 ·exact ⟨12,by decide,space12 s e⟩
 ·exact ⟨13,by decide,space13 s e⟩
structure MdX (c:List Cl):Prop where
 v:CxV c
 len:c.length≤11
 ids:∀ x∈c,1≤x.id∧x.id≤17
 sz:∃ F,F=549755944960∧SzX F c
theorem eD_le (d:Int):eD d≤549755944960:=by
 unfold eD
 split
 ·decide
 ·split
  ·decide
  ·split <;> decide
theorem made_ex (s:Int) (l:List Q4) (hs:0≤s∧s≤255) (hq:∀ q∈l,q.ok) (hl:l.length≤9223372036854775807):∃ c,Spec Tryz.prog 9 [encRaw s l] (encX c)∧MdX c:=by
 obtain ⟨j,hj,h1⟩:=space_ex s hs
 have h4:(l.take 4).length≤4:=by rw [List.length_take]; omega
 obtain ⟨c,h2,g⟩:=mk_ex (l.take 4) 0 (spc j) (spc_gr j hj) (by omega) fun q h=>hq q (List.mem_of_mem_take h)
 have hlen:=g.len
 obtain ⟨F,hF⟩:∃ F,F=549755944960:=⟨_,rfl⟩
 have hFe:∀ d,eD d≤F:=fun d=>by rw [hF]; exact eD_le d
 exact ⟨c,r26MadeS s l _ c hl h1 h2,g.v,by omega,fun x hx=>by have:=g.ids x hx; omega,F,hF,by omega,fun x hx=>Nat.le_trans (g.bl x hx) (by decide),fun x hx=>(g.eb x hx).pw (hFe _)⟩
end Go.Am
end

section
set_option linter.unusedVariables false
set_option linter.unusedSimpArgs false
open Go Go.Am Go.Proofs
namespace Go.Am
open Go.ChangeShapes Go.WideShapes Go.ChangeAt Go.RowKit
theorem zRaw:Tryz.prog.cellsOf 24=2:=by kernel_rfl
theorem zU8:Tryz.prog.cellsOf 5=1:=by kernel_rfl
theorem zI8:Tryz.prog.cellsOf 57=1:=by kernel_rfl
theorem zA4:Tryz.prog.cellsOf 80=4:=by kernel_rfl
theorem zL4:Tryz.prog.cellsOf 22=1:=by kernel_rfl
theorem wf_i8z {n:Int} (h:(Lit.int .i8 n).wf=true):-128≤n∧n≤127:=by
 have hmin:IntKind.i8.min=-128:=rfl
 have hmax:IntKind.i8.max=127:=rfl
 simp only [Lit.wf,Bool.and_eq_true,decide_eq_true_eq] at h
 omega
theorem wf_u8z {n:Int} (h:(Lit.int .u8 n).wf=true):0≤n∧n≤255:=by
 have hmin:IntKind.u8.min=0:=rfl
 have hmax:IntKind.u8.max=255:=rfl
 simp only [Lit.wf,Bool.and_eq_true,decide_eq_true_eq] at h
 omega
theorem len4z {α:Type} {l:List α} (h:l.length=4):∃ a b c d,l=[a,b,c,d]:=by
 match l,h with
 | [a,b,c,d],_=>exact ⟨a,b,c,d,rfl⟩
theorem len2z {α:Type} {l:List α} (h:l.length=2):∃ a b,l=[a,b]:=by
 match l,h with
 | [a,b],_=>exact ⟨a,b,rfl⟩
section
variable {H:Type} {enc:TypeId × Value→H} {w:World} {sp:Nat→Bool} {held:Bool}
set_option maxRecDepth 100000 in
theorem openQ {cs:List Value} {x:DataW H × List MemPlace} {fuel:Nat} (h:DataW.trod enc Tryz.prog w 0 sp held fuel 80 cs=some x) :
  ∃ y:Q4,y.ok∧(encQ y).length=Tryz.prog.cellsOf 80∧∀ (k:Nat) (c:D) (v:Value),(encQ y)[k]? = some c→cs[k]? = some v→VD (fun b=>b<w.heap.size) w c v:=by
 obtain ⟨xs,m,_,_,hcl,hxl,hx⟩:=DataW.trod_array Tryz.underlying80 h
 rw [zA4] at hcl
 obtain ⟨a,b,c,d,rfl⟩:=len4z hcl
 have h0:=hx 0 (by decide)
 have h1:=hx 1 (by decide)
 have h2:=hx 2 (by decide)
 have h3:=hx 3 (by decide)
 rw [zI8,List.getElem?_eq_getElem (by omega)] at h0 h1 h2 h3
 simp only [Nat.mul_one,Nat.zero_mul,Nat.one_mul,List.drop_zero,List.drop_succ_cons,List.take_succ_cons,List.take_zero] at h0 h1 h2 h3
 obtain ⟨i0,e0,_,w0⟩:=DataW.trod_int Tryz.underlying57 h0
 obtain ⟨i1,e1,_,w1⟩:=DataW.trod_int Tryz.underlying57 h1
 obtain ⟨i2,e2,_,w2⟩:=DataW.trod_int Tryz.underlying57 h2
 obtain ⟨i3,e3,_,w3⟩:=DataW.trod_int Tryz.underlying57 h3
 injection e0 with e0; injection e1 with e1; injection e2 with e2; injection e3 with e3
 subst e0; subst e1; subst e2; subst e3
 refine ⟨(i0,i1,i2,i3),⟨wf_i8z w0,wf_i8z w1,wf_i8z w2,wf_i8z w3⟩,by rw [zA4]; rfl,fun k c v hk hv=>?_⟩
 rcases k with _ | _ | _ | _ | k
 ·simp [encQ] at hk hv; subst hk; subst hv; exact .i _ _
 ·simp [encQ] at hk hv; subst hk; subst hv; exact .i _ _
 ·simp [encQ] at hk hv; subst hk; subst hv; exact .i _ _
 ·simp [encQ] at hk hv; subst hk; subst hv; exact .i _ _
 ·simp [encQ] at hk
theorem openRawZ {v:Value} {d:DataW H} {ps:List MemPlace} {cs:Array Value} (hv:v=.agg cs) (h:DataW.Trod enc Tryz.prog w 0 sp held 24 v d ps) :
  ∃ (s:Int) (l:List Q4),VD (fun b=>b<w.heap.size) w (encRaw s l) v∧(0≤s∧s≤255)∧(∀ y∈l,y.ok)∧l.length≤9223372036854775807:=by
 subst hv
 obtain ⟨fuel,hf⟩:=h
 obtain ⟨xs,n,_,_,hl,hlen,hfs⟩:=DataW.trod_struct Tryz.underlying24 hf
 rw [zRaw] at hl
 have h0:=hfs 0 { name := "S",type:=5,offset:=0,embedded:=false,tag := "",pkgPath := "",byteOffset:=0 } rfl
 have h1:=hfs 1 { name := "L",type:=22,offset:=1,embedded:=false,tag := "",pkgPath := "",byteOffset:=8 } rfl
 obtain ⟨x0,hx0⟩:∃ x,xs[0]? = some x:=⟨_,List.getElem?_eq_getElem (by rw [hlen]; decide)⟩
 obtain ⟨x1,hx1⟩:∃ x,xs[1]? = some x:=⟨_,List.getElem?_eq_getElem (by rw [hlen]; decide)⟩
 rw [hx0] at h0; rw [hx1] at h1
 simp only [Value.cells] at h0 h1 hl
 obtain ⟨cs⟩:=cs
 simp only at h0 h1 hl
 obtain ⟨a,b,rfl⟩:=len2z hl
 simp only [zU8,zL4,List.drop_zero,List.drop_succ_cons,List.take_succ_cons,List.take_zero] at h0 h1
 obtain ⟨i,e1,_,w1⟩:=DataW.trod_int Tryz.underlying5 h0
 obtain ⟨u,l,e2,hu,hg,hL⟩:=openSlice Tryz.underlying22 (by rw [zA4]; decide) encQ Q4.ok (fun fuel cs x h=>openQ h) h1
 injection e1 with e1; injection e2 with e2
 subst e1; subst e2
 refine ⟨i,l,.ag _ _ rfl fun k d v hk hv=>?_,wf_u8z w1,hg,hL⟩
 rcases k with _ | _ | k
 ·simp at hk hv; subst hk; subst hv; exact .i _ _
 ·simp at hk hv; subst hk; subst hv; exact hu
 ·simp at hk
end
end Go.Am
namespace Go.Proofs.YthjopmmgepejkaaGreat
theorem ownZ:ownKnob Tryz.prog.godebug=none:=by kernel_rfl
theorem laidZ:laidOutB Tryz.prog=true:=by kernel_rfl
end Go.Proofs.YthjopmmgepejkaaGreat
end

section
set_option linter.unusedVariables false
set_option linter.unusedSimpArgs false
open List (map_map mapM_map)
open Go Go.Am Go.Proofs
namespace Go.Am
set_option maxHeartbeats 1000000 in
set_option maxRecDepth 10000 in
theorem r25SameChain (a b:List (Int × Int)) (ha:∀ x∈a,Sz x.2) (hb:∀ x∈b,Sz x.2) (hl:a.length≤1073741824) (hl2:b.length≤1073741824):Spec Tryz.prog 17 [encC a,encC b] (.b (decide (a=b))):=by
 refine spec_of (N:=42) follows_mixed Tryz.func17 rfl rfl rfl (by kernel_rfl) (by kernel_rfl) (by simp) ?_
 by_cases hn:a.length=b.length
 rotate_left
 ·have h1:((a.length:Int) != b.length)=true:=by simp; omega
  have h2:¬ a=b:=fun e=>hn (by rw [e])
  simp (maxSteps:=1000000) [-map_map,-mapM_map,↓KW,encC,h1,h2]
 ·have h1:((a.length:Int) != b.length)=false:=by simp; omega
  simp (maxSteps:=1000000) [-map_map,-mapM_map,↓KW,encC,h1]
  refine loopP_inv (fun i:Nat=>i≤a.length∧a.take i=b.take i) (fun i=>StL [(0,.d (encC a)),(1,.d (encC b)),(5,.d (.i .i64 i))] none []) (fun i=>a.length - i) 0 ⟨Nat.zero_le _,by simp⟩ ?_ ?_
  ·refine wk_l [] (by simp) ?_ ?_ <;> simp [-map_map,upd,inj1,Γ0,encC]
  ·rintro i ⟨hi,ht⟩
   by_cases hgo:i<a.length
   ·have hgb:i<b.length:=by omega
    have q1:(i:Int)<a.length:=by omega
    have hw7:IntKind.i64.wrap ((i:Int)+1)=(i:Int)+1:=wrap_i64 (by omega) (by omega)
    have g1:a[i]? = some a[i]:=List.getElem?_eq_getElem hgo
    have g2:b[i]? = some b[i]:=List.getElem?_eq_getElem hgb
    have hsx:=ha _ (List.getElem_mem hgo)
    have hsy:=hb _ (List.getElem_mem hgb)
    have hne:a[i]≠b[i]→¬ a=b:=fun h e=>h (by subst e; rfl)
    have hta:a[i]=b[i]→a.take (i+1)=b.take (i+1):=fun e=>by rw [List.take_add_one,List.take_add_one,ht,g1,g2,e]
    generalize a[i]=x at *
    generalize b[i]=y at *
    obtain ⟨xi,xc⟩:=x
    obtain ⟨yi,yc⟩:=y
    simp only at hsx hsy
    by_cases h2:xi=yi
    ·have h3:(xi != yi)=false:=by simpa using h2
     simp (maxSteps:=1000000) [-map_map,-mapM_map,↓KW,encC,q1,g1,g2,h3,encF_eq,one_encM,cellsA_encM]
     refine callP_intro (ds:=[encZ xc,encZ yc]) (by rfl) (r01SameZ xc yc (Nat.le_trans hsx (by decide)) (Nat.le_trans hsy (by decide))) ?_
     by_cases h4:xc=yc
     ·have h5:=hta (by rw [h2,h4])
      simp (maxSteps:=1000000) [-map_map,-mapM_map,↓KW,h4,hw7]
      refine nxt_intro (i+1) ⟨hgo,h5⟩ (Nat.sub_lt_sub_left hgo (Nat.lt_succ_self i)) (wk_l [] (by simp) ?_ ?_) <;> simp [-map_map,upd,inj1,Γ0,encC]
     ·have h5:=hne (fun e=>h4 (by injection e))
      simp (maxSteps:=1000000) [-map_map,-mapM_map,↓KW,h4,h5]
    ·have h3:(xi != yi)=true:=by simpa using h2
     have h5:=hne (fun e=>h2 (by injection e))
     simp (maxSteps:=1000000) [-map_map,-mapM_map,↓KW,encC,q1,g1,g2,h3,h5,encF_eq,one_encM,cellsA_encM]
   ·have q1:¬ (i:Int)<a.length:=by omega
    have e:a=b:=by rwa [List.take_of_length_le (by omega),List.take_of_length_le (by omega)] at ht
    subst e
    simp (maxSteps:=1000000) [-map_map,-mapM_map,↓KW,encC,q1]
set_option maxHeartbeats 2000000 in
set_option maxRecDepth 10000 in
theorem r25ValidChain (l:List (Int × Int)) (hs:∀ x∈l,Sz x.2) (hl:l.length≤1073741824):Spec Tryz.prog 50 [encC l] (.b (validR l)):=by
 refine spec_of (N:=44) follows_mixed Tryz.func50 rfl rfl rfl (by kernel_rfl) (by kernel_rfl) (by simp) ?_
 simp (maxSteps:=1000000) [-map_map,-mapM_map,↓KW,encC]
 refine loopP_inv (fun i:Nat=>i≤l.length∧∀ j,j<i→okAt l j=true) (fun i=>StL [(0,.d (encC l)),(3,.d (.i .i64 i))] none []) (fun i=>l.length - i) 0 ⟨Nat.zero_le _,fun j h=>by omega⟩ ?_ ?_
 ·refine wk_l [] (by simp) ?_ ?_ <;> simp [-map_map,upd,inj1,Γ0,encC]
 ·rintro i ⟨hi,hok⟩
  by_cases hgo:i<l.length
  ·have q1:(i:Int)<l.length:=by omega
   have hw7:IntKind.i64.wrap ((i:Int)+1)=(i:Int)+1:=wrap_i64 (by omega) (by omega)
   have g1:=getDp hgo
   have hsx:Sz (l.getD i (0,0)).2:=hs _ (List.mem_of_getElem? g1)
   have hoka:okAt l i=(decide ((l.getD i (0,0)).2≠0) && (decide (i=0) || decide ((l.getD (i - 1) (0,0)).1<(l.getD i (0,0)).1))):=rfl
   have hfalse:=validR_false hgo
   have hnext:okAt l i=true→∀ j,j<i+1→okAt l j=true:=fun h j hj=>by
    rcases Nat.lt_or_ge j i with h2 | h2
    ·exact hok j h2
    ·have:j=i:=by omega
     subst this; exact h
   rcases i with _ | k
   ·cases l with
    | nil=>simp at hgo
    | cons x rest =>
     obtain ⟨xi,xc⟩:=x
     have hd:(((xi,xc)::rest).getD 0 (0,0))=(xi,xc):=rfl
     rw [hd] at hsx hoka
     simp only at hsx hoka
     have q1':(0:Int)<(rest.length:Int)+1:=by omega
     have hw8:IntKind.i64.wrap 1=1:=by decide
     simp (maxSteps:=1000000) [-map_map,-mapM_map,↓KW,encC,q1',encF_eq,one_encM,cellsA_encM]
     refine callP_intro (ds:=[encZ xc]) (by rfl) (r01ValidZ xc (Nat.le_trans hsx (by decide))) ?_
     simp (maxSteps:=1000000) [-map_map,-mapM_map,↓KW,encC,encF_eq,one_encM,cellsA_encM]
     refine callP_intro (ds:=[encZ xc]) (by rfl) (r01SignZ xc) ?_
     by_cases h0:xc=0
     ·have e0:(xc.sign == 0)=true:=by simp [h0]
      have e1:=hfalse (by rw [hoka]; simp [h0])
      simp (maxSteps:=1000000) [-map_map,-mapM_map,↓KW,e0,e1]
     ·have e0:(xc.sign == 0)=false:=by simp [h0]
      have e1:=hnext (by rw [hoka]; simp [h0])
      simp (maxSteps:=1000000) [-map_map,-mapM_map,↓KW,e0,hw8]
      refine nxt_intro 1 ⟨hgo,e1⟩ (Nat.sub_lt_sub_left hgo (Nat.lt_succ_self _)) (wk_l [] (by simp) ?_ ?_) <;> simp [-map_map,upd,inj1,Γ0,encC,encF_eq]
   ·have g2:=getDp (l:=l) (i:=k) (by omega)
    have q3:(0:Int)<(k:Int)+1:=by omega
    have q5:(0:Int)≤(k:Int)+1:=by omega
    have q4:IntKind.i64.wrap (k:Int)=k:=wrap_nat (by omega)
    simp only [Nat.add_sub_cancel] at hoka
    generalize l.getD (k+1) (0,0)=x at *
    generalize l.getD k (0,0)=y at *
    obtain ⟨xi,xc⟩:=x
    obtain ⟨yi,yc⟩:=y
    simp only at hsx hoka
    have hw8:IntKind.i64.wrap ((k:Int)+1+1)=(k:Int)+1+1:=by simpa using hw7
    have q1':(k:Int)+1<l.length:=by simpa using q1
    simp (maxSteps:=1000000) [-map_map,-mapM_map,↓KW,encC,q1',q5,g1,encF_eq,one_encM,cellsA_encM]
    refine callP_intro (ds:=[encZ xc]) (by rfl) (r01ValidZ xc (Nat.le_trans hsx (by decide))) ?_
    simp (maxSteps:=1000000) [-map_map,-mapM_map,↓KW,encC,q1',q5,g1,encF_eq,one_encM,cellsA_encM]
    refine callP_intro (ds:=[encZ xc]) (by rfl) (r01SignZ xc) ?_
    by_cases h0:xc=0
    ·have e0:(xc.sign == 0)=true:=by simp [h0]
     have e1:=hfalse (by rw [hoka]; simp [h0])
     simp (maxSteps:=1000000) [-map_map,-mapM_map,↓KW,e0,e1]
    ·have e0:(xc.sign == 0)=false:=by simp [h0]
     by_cases h2:xi≤yi
     ·have e1:=hfalse (by rw [hoka]; simp [h0]; omega)
      simp (maxSteps:=1000000) [-map_map,-mapM_map,↓KW,encC,e0,e1,g1,g2,q3,q4,q5,h2,encF_eq,one_encM,cellsA_encM]
     ·have e1:=hnext (by rw [hoka]; simp [h0]; omega)
      simp (maxSteps:=1000000) [-map_map,-mapM_map,↓KW,encC,e0,g1,g2,q3,q4,q5,h2,hw8,encF_eq,one_encM,cellsA_encM]
      refine nxt_intro (k+1+1) ⟨hgo,e1⟩ (Nat.sub_lt_sub_left hgo (Nat.lt_succ_self _)) (wk_l [] (by simp) ?_ ?_) <;> simp [-map_map,upd,inj1,Γ0,encC]
  ·have q1:¬ (i:Int)<l.length:=by omega
   have e:validR l=true:=validR_true (fun j hj=>hok j (by omega))
   simp (maxSteps:=1000000) [-map_map,-mapM_map,↓KW,encC,q1,e]
set_option maxHeartbeats 2000000 in
set_option maxRecDepth 10000 in
theorem r25Same {a b:List Cl} (ha:∀ x∈a,∀ f∈x.b,Sz f.2) (hb:∀ x∈b,∀ f∈x.b,Sz f.2) (hla:∀ x∈a,x.b.length≤1073741824) (hlb:∀ x∈b,x.b.length≤1073741824) (hl:a.length≤1073741824) (hl2:b.length≤1073741824):Spec Tryz.prog 16 [encX a,encX b] (.b (decide (a=b))):=by
 refine spec_of (N:=55) follows_mixed Tryz.func16 rfl rfl rfl (by kernel_rfl) (by kernel_rfl) (by simp) ?_
 by_cases hn:a.length=b.length
 rotate_left
 ·have h1:((a.length:Int) != b.length)=true:=by simp; omega
  have h2:¬ a=b:=fun e=>hn (by rw [e])
  simp (maxSteps:=1000000) [-map_map,-mapM_map,↓KW,encX,h1,h2]
 ·have h1:((a.length:Int) != b.length)=false:=by simp; omega
  simp (maxSteps:=1000000) [-map_map,-mapM_map,↓KW,encX,h1]
  refine loopP_inv (fun i:Nat=>i≤a.length∧a.take i=b.take i) (fun i=>StL [(0,.d (encX a)),(1,.d (encX b)),(5,.d (.i .i64 i))] none []) (fun i=>a.length - i) 0 ⟨Nat.zero_le _,by simp⟩ ?_ ?_
  ·refine wk_l [] (by simp) ?_ ?_ <;> simp [-map_map,upd,inj1,Γ0,encX]
  ·rintro i ⟨hi,ht⟩
   by_cases hgo:i<a.length
   ·have hgb:i<b.length:=by omega
    have q1:(i:Int)<a.length:=by omega
    have hw7:IntKind.i64.wrap ((i:Int)+1)=(i:Int)+1:=wrap_i64 (by omega) (by omega)
    have g1:a[i]? = some a[i]:=List.getElem?_eq_getElem hgo
    have g2:b[i]? = some b[i]:=List.getElem?_eq_getElem hgb
    have hsx:=ha _ (List.getElem_mem hgo)
    have hsy:=hb _ (List.getElem_mem hgb)
    have hlx:=hla _ (List.getElem_mem hgo)
    have hly:=hlb _ (List.getElem_mem hgb)
    have hne:a[i]≠b[i]→¬ a=b:=fun h e=>h (by subst e; rfl)
    have hta:a[i]=b[i]→a.take (i+1)=b.take (i+1):=fun e=>by rw [List.take_add_one,List.take_add_one,ht,g1,g2,e]
    generalize a[i]=x at *
    generalize b[i]=y at *
    obtain ⟨xi,xd,xb⟩:=x
    obtain ⟨yi,yd,yb⟩:=y
    simp only at hsx hsy hlx hly
    by_cases h2:xi=yi
    ·have h3:(xi != yi)=false:=by simpa using h2
     by_cases h6:xd=yd
     ·have h7:(xd != yd)=false:=by simpa using h6
      simp (maxSteps:=1000000) [-map_map,-mapM_map,↓KW,encX,q1,g1,g2,h3,h7,encCl,one_encC,cellsA_encC,inj1_encC]
      refine callP_intro (ds:=[encC xb,encC yb]) (by rfl) (r25SameChain xb yb hsx hsy hlx hly) ?_
      by_cases h4:xb=yb
      ·have h5:=hta (by rw [h2,h4,h6])
       simp (maxSteps:=1000000) [-map_map,-mapM_map,↓KW,h4,hw7]
       refine nxt_intro (i+1) ⟨hgo,h5⟩ (Nat.sub_lt_sub_left hgo (Nat.lt_succ_self i)) (wk_l [] (by simp) ?_ ?_) <;> simp [-map_map,upd,inj1,Γ0,encX]
      ·have h5:=hne (fun e=>h4 (by injection e))
       simp (maxSteps:=1000000) [-map_map,-mapM_map,↓KW,h4,h5]
     ·have h7:(xd != yd)=true:=by simpa using h6
      have h5:=hne (fun e=>h6 (by injection e))
      simp (maxSteps:=1000000) [-map_map,-mapM_map,↓KW,encX,q1,g1,g2,h3,h7,h5,encCl,one_encC,cellsA_encC,inj1_encC]
    ·have h3:(xi != yi)=true:=by simpa using h2
     have h5:=hne (fun e=>h2 (by injection e))
     simp (maxSteps:=1000000) [-map_map,-mapM_map,↓KW,encX,q1,g1,g2,h3,h5,encCl,one_encC,cellsA_encC,inj1_encC]
   ·have q1:¬ (i:Int)<a.length:=by omega
    have e:a=b:=by rwa [List.take_of_length_le (by omega),List.take_of_length_le (by omega)] at ht
    subst e
    simp (maxSteps:=1000000) [-map_map,-mapM_map,↓KW,encX,q1]
end Go.Am
end

section
set_option linter.unusedVariables false
set_option linter.unusedSimpArgs false
namespace Go.Am
variable {P:Program}
theorem nv_makeFunc (f:FuncId) (cs:List Operand) (Γ:Nat→AV) (n:Nat):nev P (.makeFunc (.func f) #[] cs.toArray) Γ n=some (.fn f (cs.map (oev Γ)),none):=by
 simp [nev,pureA]
theorem nv_index (t : TypeId) (x i : Operand) (Γ : Nat → AV) (n : Nat) : nev P (.index t x i) Γ n = pureA ((tarr P t).bind fun p => (tsz P p.2).bind fun sz => (tagg P p.2).bind fun ag => (intOfA (oev Γ i)).bind fun k => (agOf (oev Γ x)).bind fun cs =>
      if 0≤k∧k<p.1 then (if ag then (if k.toNat * sz+sz≤cs.length then some (.ag ((cs.drop (k.toNat * sz)).take sz)) else none) else cs[k.toNat * sz]?) else none):=rfl
theorem inj_fn (f:FuncId) (cs:List D):inj (.fn f cs)=.d (.fn f cs):=rfl
theorem inj1_fn (f:FuncId) (cs:List D):inj1 (.fn f cs)=.d (.fn f cs):=rfl
theorem inj1_pt (cs:List D):inj1 (.pt cs)=.fp cs:=rfl
theorem inj1_lit (v:Value):inj1 (.lit v)=.d (.lit v):=rfl
theorem kills_fn (H:Nat→Option HO) (avs:List AV) (f:FuncId) (cs:List D):killsOf H avs (.fn f cs)=viss H avs:=rfl
theorem kills_pt (H:Nat→Option HO) (avs:List AV) (cs:List D):killsOf H avs (.pt cs)=viss H avs:=rfl
theorem calleeA_fn (f:FuncId) (cs:List AV):calleeA (.fn f cs)=some (f,cs):=rfl
theorem calleeA_dfn (f:FuncId) (cs:List D):calleeA (.d (.fn f cs))=some (f,cs.map inj1):=rfl
theorem calleeA_lit (f:FuncId):calleeA (.d (.lit (.func (.func f) #[] #[])))=some (f,[]):=rfl
theorem frz_fnA (H:Nat→Option HO) (n:Nat) (f:FuncId) (cs:List AV):frz H (n+1) (.fn f cs)=(cs.mapM (frz H n)).map (.fn f):=rfl
theorem frz_fpA (H:Nat→Option HO) (n:Nat) (cs:List D):frz H (n+1) (.fp cs)=some (.pt cs):=rfl
theorem frz_ptrA (H : Nat → Option HO) (n : Nat) (id off : Nat) : frz H (n + 1) (.ptr id off) = match H id with
      | some (.cells _ cs)=>if off≤cs.length then ((cs.drop off).mapM (frz H n)).map .pt else none
      | _=>none:=rfl
theorem vis_fnA (H:Nat→Option HO) (n:Nat) (f:FuncId) (cs:List AV):vis H (n+1) (.fn f cs)=cs.flatMap (vis H n):=rfl
theorem vis_fpA (H:Nat→Option HO) (n:Nat) (cs:List D):vis H (n+1) (.fp cs)=[]:=rfl
theorem vis_ptrA (H : Nat → Option HO) (n : Nat) (id off : Nat) : vis H (n + 1) (.ptr id off) = match H id with
      | some (.cells _ cs)=>id::(cs.drop off).flatMap (vis H n)
      | _=>[]:=rfl
theorem cellsA_fn (f:FuncId) (cs:List AV):cellsA (.fn f cs)=some [.fn f cs]:=rfl
theorem cellsA_dfn (f:FuncId) (cs:List D):cellsA (.d (.fn f cs))=some [.d (.fn f cs)]:=rfl
theorem scrub_fn (l:List Nat) (f:FuncId) (cs:List AV):scrub l (.fn f cs)=.fn f (cs.map (scrubP l)):=rfl
section
variable (dst:Option Tmp) (ty:TypeId) (pos:String) (after:Array Edge) (guard:Option (Nat × Bool)) (σ:St) (con:List Nat) (k:St→List Nat→Prop)
theorem o1_makeFunc (f:Fn) (x y:Array Operand) (d:Dm ((⟨dst,.makeFunc f x y,ty,pos,after,guard⟩:Oper),k)):O1d P ⟨dst,.makeFunc f x y,ty,pos,after,guard⟩ σ con k d=BindP (nev P (.makeFunc f x y) σ.Γ σ.n) (fun p=>k ⟨putA σ.Γ dst p.1,addB σ.H σ.n p.2,cnt p.2 σ.n⟩ con) .mk:=o1_of_nev rfl rfl
theorem o1_index (t:TypeId) (x y:Operand) (d:Dm ((⟨dst,.index t x y,ty,pos,after,guard⟩:Oper),k)):O1d P ⟨dst,.index t x y,ty,pos,after,guard⟩ σ con k d=BindP (nev P (.index t x y) σ.Γ σ.n) (fun p=>k ⟨putA σ.Γ dst p.1,addB σ.H σ.n p.2,cnt p.2 σ.n⟩ con) .mk:=o1_of_nev rfl rfl
def CallV (P:Program) (c:Option (FuncId × List AV)) (avs:List AV) (H:Nat→Option HO) (k:List AV→D→Prop) (_:Dm k):Prop:=match c with
 | some (f,cs)=>∃ ds r,frzs H (avs++cs)=some ds∧Spec P f ds r∧k (avs++cs) r
 | none=>False
theorem callV_intro {f:FuncId} {cs avs:List AV} {H:Nat→Option HO} {k:List AV→D→Prop} {d:Dm k} {ds:List D} {r:D} (h1:frzs H (avs++cs)=some ds) (h2:Spec P f ds r) (h3:k (avs++cs) r):CallV P (some (f,cs)) avs H k d:=⟨ds,r,h1,h2,h3⟩
theorem o1_callV (t:Tmp) (args:List Operand) (ts:Array TypeId) (d:Dm ((⟨dst,.call ⟨.value (.tmp t),args.toArray,ts⟩,ty,pos,after,guard⟩:Oper),k)):O1d P ⟨dst,.call ⟨.value (.tmp t),args.toArray,ts⟩,ty,pos,after,guard⟩ σ con k d =
  CallV P (calleeA (σ.Γ t)) (args.map (oev σ.Γ)) σ.H (fun avs r=>k ⟨putA σ.Γ dst (inj r),kill (killsOf σ.H avs r) σ.H,σ.n⟩ (killsOf σ.H avs r++con)) .mk:=by
 unfold O1d; simp only [O1,CallV]
 cases calleeA (σ.Γ t) with
 | none=>rfl
 | some p=>obtain ⟨f,cs⟩:=p; rfl
end
attribute [simp] nv_makeFunc nv_index inj_fn inj1_fn inj1_pt inj1_lit calleeA_fn calleeA_dfn calleeA_lit frz_fnA frz_fpA frz_ptrA vis_fnA vis_fpA vis_ptrA cellsA_fn cellsA_dfn scrub_fn kills_fn kills_pt
end Go.Am
end

section
set_option linter.unusedVariables false
set_option linter.unusedSimpArgs false
open List (map_map mapM_map)
open Go Go.Am Go.Proofs
namespace Go.Am
@[simp] theorem flat1_i (k:IntKind) (n:Int):flat1 (.i k n)=true:=rfl
@[simp] theorem flat1_b (x:Bool):flat1 (.b x)=true:=rfl
theorem shr1 {t:Nat}:shiftA .shr .u64 (t:Int) 1=some (.i .u64 ((t / 2:Nat):Int)):=by
 have:min 1 IntKind.u64.bits=1:=rfl
 simp only [shiftA]
 rw [if_neg (by decide),show (1:Int).toNat=1 from rfl,this,Int.fdiv_eq_ediv_of_nonneg _ (by decide)]
 congr 2
theorem cellsA_lit (f:FuncId):cellsA (.d (.lit (.func (.func f) #[] #[])))=some [.d (.lit (.func (.func f) #[] #[]))]:=rfl
theorem oev_fnc (Γ:Nat→AV) (f:FuncId):oev Γ (.func f)=.d (.lit (.func (.func f) #[] #[])):=rfl
theorem placeFn (x:Cl) (n:Int):Spec Tryz.prog 124 [.ag (encCl x),.i .i64 n] (.i .i64 (cmpI x.id n)):=by
 refine spec_of (N:=9) follows_mixed Tryz.func124 rfl rfl rfl (by kernel_rfl) (by kernel_rfl) (by simp) ?_
 have hS:=cmpInt x.id n
 simp (maxSteps:=1000000) [-map_map,-mapM_map,↓KW,encCl,one_encC,cellsA_encC,inj1_encC]
 refine callP_intro (ds:=[.i .i64 x.id,.i .i64 n]) (by rfl) hS ?_
 simp (maxSteps:=1000000) [-map_map,-mapM_map,↓KW,]
def posX (c:List Cl) (n:Int):Nat:=c.countP fun x=>decide (x.id<n)
theorem posX_of {c:List Cl} {n:Int} {i:Nat} (hi:i≤c.length) (h1:∀ k x,k<i→c[k]? = some x→x.id<n) (h2:∀ k x,i≤k→c[k]? = some x→n≤x.id):posX c n=i:=by
 unfold posX
 conv=>lhs; rw [← List.take_append_drop i c]
 rw [List.countP_append]
 have e1:(c.take i).countP (fun x=>decide (x.id<n))=(c.take i).length:=by
  rw [List.countP_eq_length]
  intro x hx
  obtain ⟨k,hk,rfl⟩:=List.getElem_of_mem hx
  rw [List.length_take] at hk
  exact decide_eq_true (h1 k _ (by omega) (by rw [List.getElem_take,List.getElem?_eq_getElem]))
 have e2:(c.drop i).countP (fun x=>decide (x.id<n))=0:=by
  rw [List.countP_eq_zero]
  intro x hx
  obtain ⟨k,hk,rfl⟩:=List.getElem_of_mem hx
  rw [List.length_drop] at hk
  have:=h2 (i+k) (c[i+k]'(by omega)) (by omega) (List.getElem?_eq_getElem _)
  rw [List.getElem_drop]; simp; omega
 rw [e1,e2,List.length_take]; omega
theorem find_pos {c:List Cl} {n:Int} {i:Nat} (h1:∀ k x,k<i→c[k]? = some x→x.id<n) (h2:∀ k x,i≤k→c[k]? = some x→n≤x.id) (hc:Inc c):(∀ x,c[i]? = some x→findX c n=if x.id=n then some x else none)∧(c[i]? = none→findX c n=none):=by
 have hn:∀ x,c[i]? = some x→x.id≠n→findX c n=none:=fun x hx hne=>by
  cases e:findX c n with
  | none=>rfl
  | some y =>
   obtain ⟨hy,he⟩:=findX_some e
   obtain ⟨k,hk,rfl⟩:=List.getElem_of_mem hy
   exfalso
   rcases Nat.lt_trichotomy k i with h | h | h
   ·have:=h1 k _ h (List.getElem?_eq_getElem hk); omega
   ·subst h; rw [List.getElem?_eq_getElem hk] at hx; injection hx with hx; subst hx; exact hne he
   ·have hi:i<c.length:=(List.getElem?_eq_some_iff.1 hx).1
    have g1:=h2 i x (Nat.le_refl _) hx
    have g2:=(List.pairwise_iff_getElem.1 hc) i k hi hk h
    rw [List.getElem?_eq_getElem hi] at hx; injection hx with hx; subst hx
    omega
 refine ⟨fun x hx=>?_,fun hx=>?_⟩
 ·by_cases he:x.id=n
  ·rw [if_pos he,← he]; exact hc.find (List.mem_of_getElem? hx)
  ·rw [if_neg he]; exact hn x hx he
 ·cases e:findX c n with
  | none=>rfl
  | some y =>
   obtain ⟨hy,he⟩:=findX_some e
   obtain ⟨k,hk,rfl⟩:=List.getElem_of_mem hy
   have:=h1 k _ (by have:=List.getElem?_eq_none_iff.1 hx; omega) (List.getElem?_eq_getElem hk)
   omega
set_option maxHeartbeats 2000000 in
set_option maxRecDepth 10000 in
theorem bsearch {c:List Cl} (hc:Inc c) (n:Int) (hl:c.length≤1000000):Spec Tryz.prog 123 [encX c,.i .i64 n,.lit (.func (.func 124) #[] #[])] (.tp [.i .i64 (posX c n),.b (findX c n).isSome]):=by
 refine spec_of (N:=49) follows_mixed Tryz.func123 rfl rfl rfl (by kernel_rfl) (by kernel_rfl) (by simp) ?_
 simp (maxSteps:=1000000) [-map_map,-mapM_map,↓KW,↓luP_succ,↓o1_makeFunc,↓o1_index,↓o1_callV,encX]
 refine loopP_inv (fun p:Nat × Nat=>p.1≤p.2∧p.2≤c.length∧(∀ k x,k<p.1→c[k]? = some x→x.id<n)∧(∀ k x,p.2≤k→c[k]? = some x→n≤x.id)) (fun p=>StL [(0,.d (encX c)),(1,.d (.i .i64 n)),(2,.d (.lit (.func (.func 124) #[] #[]))),(8,.d (.i .i64 (c.length:Int))),(9,.d (.i .i64 (p.1:Int))),(10,.d (.i .i64 (p.2:Int)))] none []) (fun p=>p.2 - p.1) (0,c.length) ⟨Nat.zero_le _,Nat.le_refl _,fun k x h=>by omega,fun k x h hx=>by have:=(List.getElem?_eq_some_iff.1 hx).1; omega⟩ ?_ ?_
 ·refine wk_l [] (by simp) ?_ ?_ <;> simp [-map_map,upd,inj1,Γ0,encX]
 ·rintro ⟨i,j⟩ ⟨hij,hj,h1,h2⟩
  simp only at hij hj h1 h2
  by_cases hgo:i<j
  ·have q1:(i:Int)<j:=by omega
   have hw1:IntKind.i64.wrap ((i:Int)+j)=((i+j:Nat):Int):=by rw [wrap_i64 (by omega) (by omega)]; omega
   have hw2:IntKind.u64.wrap ((i+j:Nat):Int)=((i+j:Nat):Int):=wrap_u64 (by omega) (by omega)
   have hh:(i+j) / 2<c.length:=by omega
   have hw3:IntKind.i64.wrap (((i+j) / 2:Nat):Int)=(((i+j) / 2:Nat):Int):=wrap_i64 (by omega) (by omega)
   have hw4:IntKind.i64.wrap ((((i+j) / 2:Nat):Int)+1)=(((i+j) / 2+1:Nat):Int):=by rw [wrap_i64 (by omega) (by omega)]; omega
   have hm1:i≤(i+j) / 2:=by omega
   have hm2:(i+j) / 2<j:=by omega
   have hx:c[(i+j) / 2]? = some c[(i+j) / 2]:=List.getElem?_eq_getElem hh
   have hsh:=@shr1 (i+j)
   have q0:(0:Int)≤(((i+j) / 2:Nat):Int):=by omega
   generalize (i+j) / 2=m at *
   have hS:=placeFn c[m] n
   have hlt:∀ k x,k<m→c[k]? = some x→x.id<c[m].id:=fun k x hk hkx=>by
    have h0:k<c.length:=by omega
    rw [List.getElem?_eq_getElem h0] at hkx; injection hkx with hkx; subst hkx
    exact (List.pairwise_iff_getElem.1 hc) k m h0 hh hk
   have hgt:∀ k x,m<k→c[k]? = some x→c[m].id<x.id:=fun k x hk hkx=>by
    have h0:k<c.length:=(List.getElem?_eq_some_iff.1 hkx).1
    rw [List.getElem?_eq_getElem h0] at hkx; injection hkx with hkx; subst hkx
    exact (List.pairwise_iff_getElem.1 hc) m k hh h0 hk
   generalize i+j=s at *
   generalize hxm:c[m]=x at *
   simp (maxSteps:=1000000) [-map_map,-mapM_map,↓KW,↓luP_succ,↓o1_makeFunc,↓o1_index,↓o1_callV,encX,encCl,q1,hw1,hw2,hw3,hsh,hx,q0,one_encC,cellsA_encC,inj1_encC,cellsA_lit,oev_fnc]
   refine callV_intro (ds:=[.ag (encCl x),.i .i64 n]) (by rfl) hS ?_
   by_cases hlx:x.id<n
   ·have e:cmpI x.id n=-1:=by unfold cmpI; rw [if_pos hlx]
    rw [e]
    simp (maxSteps:=1000000) [-map_map,-mapM_map,↓KW,↓luP_succ,↓o1_makeFunc,↓o1_index,↓o1_callV,hw4]
    refine nxt_intro (m+1,j) ⟨by simp only; omega,hj,fun k y hk hky=>?_,h2⟩ (by simp only; omega) (wk_l [] (by simp) ?_ ?_)
    ·simp only at hk
     rcases Nat.lt_or_ge k m with h | h
     ·have:=hlt k y h hky; omega
     ·rw [show k=m by omega,hx] at hky; injection hky with hky; rw [← hky]; exact hlx
    ·simp [-map_map,upd,inj1,Γ0,encX]
    ·trivial
   ·have e:¬ cmpI x.id n<0:=by unfold cmpI; rw [if_neg hlx]; split <;> omega
    generalize cmpI x.id n=r at *
    simp (maxSteps:=1000000) [-map_map,-mapM_map,↓KW,↓luP_succ,↓o1_makeFunc,↓o1_index,↓o1_callV,e]
    refine nxt_intro (i,m) ⟨by simp only; omega,by simp only; omega,h1,fun k y hk hky=>?_⟩ (by simp only; omega) (wk_l [] (by simp) ?_ ?_)
    ·simp only at hk
     rcases Nat.lt_or_ge m k with h | h
     ·have:=hgt k y h hky; omega
     ·rw [show k=m by omega,hx] at hky; injection hky with hky; rw [← hky]; omega
    ·simp [-map_map,upd,inj1,Γ0,encX]
    ·trivial
  ·have q1:¬ (i:Int)<j:=by omega
   have hje:j=i:=by omega
   subst hje
   have hp:=posX_of hj h1 h2
   obtain ⟨f1,f2⟩:=find_pos h1 h2 hc
   rw [hp]
   by_cases hin:j<c.length
   ·have q2:(j:Int)<c.length:=by omega
    have hx:c[j]? = some c[j]:=List.getElem?_eq_getElem hin
    have hS:=placeFn c[j] n
    have f3:=f1 _ hx
    have q0:(0:Int)≤(j:Int):=by omega
    generalize c[j]=x at *
    simp (maxSteps:=1000000) [-map_map,-mapM_map,↓KW,↓luP_succ,↓o1_makeFunc,↓o1_index,↓o1_callV,encX,encCl,q1,q2,hx,one_encC,cellsA_encC,inj1_encC,cellsA_lit,oev_fnc]
    refine callV_intro (ds:=[.ag (encCl x),.i .i64 n]) (by rfl) hS ?_
    have e:((cmpI x.id n == 0):Bool)=(findX c n).isSome:=by
     rw [f3]
     unfold cmpI
     by_cases h:x.id=n
     ·rw [if_pos h]; simp [h]
     ·rw [if_neg h]
      split
      ·rfl
      ·split
       ·rfl
       ·omega
    rw [← e]
    generalize cmpI x.id n=r at *
    simp (maxSteps:=1000000) [-map_map,-mapM_map,↓KW,↓luP_succ,↓o1_makeFunc,↓o1_index,↓o1_callV,encX,resD_2]
   ·have q2:¬ (j:Int)<c.length:=by omega
    have f3:=f2 (List.getElem?_eq_none (by omega))
    rw [f3]
    simp (maxSteps:=1000000) [-map_map,-mapM_map,↓KW,↓luP_succ,↓o1_makeFunc,↓o1_index,↓o1_callV,encX,encCl,q1,q2,one_encC,cellsA_encC,inj1_encC,cellsA_lit,oev_fnc,resD_2]
theorem findPos {c:List Cl} (hc:Inc c) {n:Int} {x:Cl} (h:findX c n=some x):c[posX c n]? = some x:=by
 obtain ⟨hx,he⟩:=findX_some h
 obtain ⟨k,hk,rfl⟩:=List.getElem_of_mem hx
 have hp:posX c n=k:=posX_of (by omega) (fun j y hj hy=>by
   have h0:j<c.length:=(List.getElem?_eq_some_iff.1 hy).1
   rw [List.getElem?_eq_getElem h0] at hy; injection hy with hy; subst hy
   have:=(List.pairwise_iff_getElem.1 hc) j k h0 hk hj; omega) (fun j y hj hy=>by
   have h0:j<c.length:=(List.getElem?_eq_some_iff.1 hy).1
   rw [List.getElem?_eq_getElem h0] at hy; injection hy with hy; subst hy
   rcases Nat.lt_or_ge k j with h | h
   ·have:=(List.pairwise_iff_getElem.1 hc) k j hk h0 h; omega
   ·have:j=k:=by omega
    subst this; omega)
 rw [hp]; exact List.getElem?_eq_getElem hk
set_option maxRecDepth 10000 in
theorem cxPlace {c:List Cl} (hc:Inc c) (n:Int) (hl:c.length≤1000000):Spec Tryz.prog 90 [encX c,.i .i64 n] (.tp [.i .i64 (posX c n),.b (findX c n).isSome]):=by
 refine spec_of (N:=11) follows_mixed Tryz.func90 rfl rfl rfl (by kernel_rfl) (by kernel_rfl) (by simp) ?_
 have hS:=bsearch hc n hl
 simp (maxSteps:=1000000) [-map_map,-mapM_map,↓KW,↓luP_succ,↓o1_makeFunc,↓o1_index,↓o1_callV,encX,oev_fnc]
 refine callP_intro (ds:=[encX c,.i .i64 n,.lit (.func (.func 124) #[] #[])]) (by rfl) hS ?_
 simp (maxSteps:=1000000) [-map_map,-mapM_map,↓KW,↓luP_succ,↓o1_makeFunc,↓o1_index,↓o1_callV,resD_2]
set_option maxRecDepth 10000 in
theorem cxFind {c:List Cl} (hc:Inc c) (n:Int) (hl:c.length≤1000000):Spec Tryz.prog 44 [encX c,.i .i64 n] (fndD c n):=by
 refine spec_of (N:=21) follows_mixed Tryz.func44 rfl rfl rfl (by kernel_rfl) (by kernel_rfl) (by simp) ?_
 have hS:=cxPlace hc n hl
 unfold fndD
 simp (maxSteps:=1000000) [-map_map,-mapM_map,↓KW,encX]
 refine callP_intro (ds:=[encX c,.i .i64 n]) (by rfl) hS ?_
 cases hf:findX c n with
 | none=>simp (maxSteps:=1000000) [-map_map,-mapM_map,↓KW,encX,encCl,noCl,encC,resD_2]
 | some x =>
  have hx:=findPos hc hf
  have q0:(0:Int)≤(posX c n:Int):=by omega
  generalize posX c n=p at *
  simp (maxSteps:=1000000) [-map_map,-mapM_map,↓KW,encX,encCl,hx,q0,one_encC,cellsA_encC,inj1_encC,resD_2]
end Go.Am
end

section
set_option linter.unusedVariables false
set_option linter.unusedSimpArgs false
open List (map_map mapM_map)
open Go Go.Am Go.Proofs
namespace Go.Am
theorem cmpL_zero (m n:Nat):cmpL (digs m) (digs n)=0↔m=n:=by
 unfold cmpL
 rw [lessL_digs,lessL_digs]
 by_cases h1:m<n
 ·simp [h1]; omega
 ·by_cases h2:n<m
  ·simp [h1,h2]; omega
  ·simp [h1,h2]; omega
theorem cmpL_bnd (a b:List Nat):-1≤cmpL a b∧cmpL a b≤1:=by
 unfold cmpL
 split
 ·exact ⟨by decide,by decide⟩
 ·split <;> exact ⟨by decide,by decide⟩
theorem intCmpZ (x y:Int) (hx:Sz x) (hy:Sz y):∃ r:Int,Spec Tryz.prog 60 [encZ x,encZ y] (.i .i64 r)∧(r=0↔x=y):=by
 have hSx:=intSignZ x hx
 have hSy:=intSignZ y hy
 have hTx:=intTrim (digs x.natAbs) (Nat.le_trans hx (by decide))
 have hTy:=intTrim (digs y.natAbs) (Nat.le_trans hy (by decide))
 rw [strip_canon (canon_digs _)] at hTx hTy
 have hC:=intCompare (digs x.natAbs) (digs y.natAbs) (lim_digs _) (lim_digs _) (Nat.le_trans hx (by decide)) (Nat.le_trans hy (by decide))
 have hc0:=cmpL_zero x.natAbs y.natAbs
 have hcb:=cmpL_bnd (digs x.natAbs) (digs y.natAbs)
 have hI:=cmpInt x.sign y.sign
 by_cases hs:x.sign=y.sign
 ·refine ⟨x.sign * cmpL (digs x.natAbs) (digs y.natAbs),?_,?_⟩
  rotate_left
  ·rw [Int.mul_eq_zero,hc0]
   constructor
   ·rintro (h | h)
    ·have h1:=Int.sign_eq_zero_iff_zero.1 h
     have h2:=Int.sign_eq_zero_iff_zero.1 (hs ▸ h)
     omega
    ·rw [← Int.sign_mul_natAbs x,← Int.sign_mul_natAbs y,hs,h]
   ·rintro rfl; exact .inr rfl
  ·refine spec_of (N:=26) follows_mixed Tryz.func60 rfl rfl rfl (by kernel_rfl) (by kernel_rfl) (by simp) ?_
   have hne:((x.sign != y.sign):Bool)=false:=by simp [hs]
   have hsb:-1≤x.sign∧x.sign≤1:=by
    rcases Int.lt_trichotomy x 0 with h | h | h
    ·rw [Int.sign_eq_neg_one_of_neg h]; decide
    ·subst h; decide
    ·rw [Int.sign_eq_one_of_pos h]; decide
   generalize cmpL (digs x.natAbs) (digs y.natAbs)=r at *
   generalize y.sign=sy at *
   generalize x.sign=sx at *
   have hw:IntKind.i64.wrap (sx * r)=sx * r:=by
    have h1:sx=-1∨sx=0∨sx=1:=by omega
    rcases h1 with rfl | rfl | rfl <;> exact wrap_i64 (by omega) (by omega)
   simp (maxSteps:=1000000) [-map_map,-mapM_map,↓KW,encZ_eq,cellsA_encM,one_encM,inj1_encM,inj_encM,kills_encM]
   refine callP_intro (ds:=[encZ x]) (by rfl) hSx ?_
   simp (maxSteps:=1000000) [-map_map,-mapM_map,↓KW,encZ_eq,cellsA_encM,one_encM,inj1_encM,inj_encM,kills_encM]
   refine callP_intro (ds:=[encZ y]) (by rfl) hSy ?_
   simp (maxSteps:=1000000) [-map_map,-mapM_map,↓KW,hne,cellsA_encM,one_encM,inj1_encM,inj_encM,kills_encM]
   refine callP_intro (ds:=[encM (digs x.natAbs)]) (by rfl) hTx ?_
   simp (maxSteps:=1000000) [-map_map,-mapM_map,↓KW,cellsA_encM,one_encM,inj1_encM,inj_encM,kills_encM]
   refine callP_intro (ds:=[encM (digs y.natAbs)]) (by rfl) hTy ?_
   simp (maxSteps:=1000000) [-map_map,-mapM_map,↓KW,cellsA_encM,one_encM,inj1_encM,inj_encM,kills_encM]
   refine callP_intro (ds:=[encM (digs x.natAbs),encM (digs y.natAbs)]) (by rfl) hC ?_
   simp (maxSteps:=1000000) [-map_map,-mapM_map,↓KW,hw,cellsA_encM,one_encM,inj1_encM,inj_encM,kills_encM]
 ·refine ⟨cmpI x.sign y.sign,?_,?_⟩
  rotate_left
  ·unfold cmpI
   constructor
   ·intro h
    exfalso
    split at h
    ·cases h
    ·split at h
     ·cases h
     ·omega
   ·rintro rfl; exact (hs rfl).elim
  ·refine spec_of (N:=26) follows_mixed Tryz.func60 rfl rfl rfl (by kernel_rfl) (by kernel_rfl) (by simp) ?_
   have hne:((x.sign != y.sign):Bool)=true:=by simpa using hs
   generalize y.sign=sy at *
   generalize x.sign=sx at *
   simp (maxSteps:=1000000) [-map_map,-mapM_map,↓KW,encZ_eq,cellsA_encM,one_encM,inj1_encM,inj_encM,kills_encM]
   refine callP_intro (ds:=[encZ x]) (by rfl) hSx ?_
   simp (maxSteps:=1000000) [-map_map,-mapM_map,↓KW,encZ_eq,cellsA_encM,one_encM,inj1_encM,inj_encM,kills_encM]
   refine callP_intro (ds:=[encZ y]) (by rfl) hSy ?_
   simp (maxSteps:=1000000) [-map_map,-mapM_map,↓KW,hne,cellsA_encM,one_encM,inj1_encM,inj_encM,kills_encM]
   refine callP_intro (ds:=[.i .i64 sx,.i .i64 sy]) (by rfl) hI ?_
   simp (maxSteps:=1000000) [-map_map,-mapM_map,↓KW,]
end Go.Am
end

section
set_option linter.unusedVariables false
set_option linter.unusedSimpArgs false
open List (map_map mapM_map)
open Go Go.Am Go.Proofs
namespace Go.Am
theorem intAbsZ (x:Int) (hx:Sz x):Spec Tryz.prog 61 [encZ x] (encZ x.natAbs):=by
 have hC:=cloneM (digs x.natAbs) (Nat.le_trans hx (by decide))
 have hV:=intValueZ (lim_digs x.natAbs) (Nat.le_trans hx (by decide)) false
 rw [val_digs] at hV
 refine spec_of (N:=7) follows_mixed Tryz.func61 rfl rfl rfl (by kernel_rfl) (by kernel_rfl) (by simp) ?_
 simp (maxSteps:=1000000) [-map_map,-mapM_map,↓KW,encZ_eq,cellsA_encM,one_encM,inj1_encM,inj_encM,kills_encM]
 refine callP_intro (ds:=[encM (digs x.natAbs)]) (by rfl) hC ?_
 simp (maxSteps:=1000000) [-map_map,-mapM_map,↓KW,encZ_eq,cellsA_encM,one_encM,inj1_encM,inj_encM,kills_encM]
 refine callP_intro (ds:=[.b false,encM (digs x.natAbs)]) (by rfl) hV ?_
 simp (maxSteps:=1000000) [-map_map,-mapM_map,↓KW,encZ_eq,sg,cellsA_encM,one_encM,inj1_encM,inj_encM,kills_encM]
theorem intNegZ (x:Int) (hx:Sz x):Spec Tryz.prog 82 [encZ x] (encZ (-x)):=by
 have hC:=cloneM (digs x.natAbs) (Nat.le_trans hx (by decide))
 have hV:=intValueZ (lim_digs x.natAbs) (Nat.le_trans hx (by decide)) (!decide (x<0))
 rw [val_digs] at hV
 have e:sg (!decide (x<0)) x.natAbs=-x:=by
  unfold sg
  by_cases h:x<0
  ·simp [h]; omega
  ·simp [h]; omega
 rw [e] at hV
 refine spec_of (N:=10) follows_mixed Tryz.func82 rfl rfl rfl (by kernel_rfl) (by kernel_rfl) (by simp) ?_
 simp (maxSteps:=1000000) [-map_map,-mapM_map,↓KW,encZ_eq,cellsA_encM,one_encM,inj1_encM,inj_encM,kills_encM]
 refine callP_intro (ds:=[encM (digs x.natAbs)]) (by rfl) hC ?_
 simp (maxSteps:=1000000) [-map_map,-mapM_map,↓KW,encZ_eq,cellsA_encM,one_encM,inj1_encM,inj_encM,kills_encM]
 refine callP_intro (ds:=[.b !decide (x<0),encM (digs x.natAbs)]) (by rfl) hV ?_
 simp (maxSteps:=1000000) [-map_map,-mapM_map,↓KW,encZ_eq,cellsA_encM,one_encM,inj1_encM,inj_encM,kills_encM]
theorem encZ_1:encZ 1=.ag [.b false,.sl [[.i .u32 1]]]:=by
 have h:digs 1=[1]:=by rw [digs_pos (by decide)]; simp [digs_zero]
 simp [encZ,encI,encM,h]
theorem intOf1:Spec Tryz.prog 62 [.i .i64 1] (encZ 1):=by
 rw [encZ_1]
 exact (runK_ok (fuel:=100) follows_mixed E0_ok 20).call 62 [.i .i64 1] (.ag [.b false,.sl [[.i .u32 1]]]) (by kernel_rfl)
end Go.Am
end

section
set_option linter.unusedVariables false
set_option linter.unusedSimpArgs false
open List (map_map mapM_map)
open Go Go.Am Go.Proofs
namespace Go.Am
/-! Chain maps -/
abbrev Ch:=List (Int × Int)
def encIm (p:Int × Ch):List D:=[.i .i64 p.1,encC p.2]
def encMp (m:List (Int × Ch)):D:=.sl (m.map encIm)
def encG (g:List (Int × Ch)):D:=.mp .i64 (g.map (·.1)) (g.map fun p=>encC p.2)
def getG (g:List (Int × Ch)) (n:Int):Option Ch:=(g.find? fun p=>decide (p.1=n)).map (·.2)
def mapX (c:List Cl) (g:List (Int × Ch)):List (Int × Ch):=c.map fun x=>(x.id,(getG g x.id).getD [(x.id,1)])
theorem sz1:Sz 1:=by unfold Sz; rw [show (1:Int).natAbs=1 from rfl,digs_pos (by decide)]; simp [digs_zero]
theorem encC_one (n z:Int):encC [(n,z)]=.sl [[.i .i64 n,.b (decide (z<0)),encM (digs z.natAbs)]]:=rfl
set_option maxRecDepth 10000 in
theorem mgSingle (n:Int):Spec Tryz.prog 48 [.i .i64 n] (encC [(n,1)]):=by
 refine spec_of (N:=7) follows_mixed Tryz.func48 rfl rfl rfl (by kernel_rfl) (by kernel_rfl) (by simp) ?_
 have hS:=intOf1
 rw [encC_one]
 simp (maxSteps:=1000000) [-map_map,-mapM_map,↓KW,encC]
 refine callP_intro (ds:=[.i .i64 1]) (by rfl) hS ?_
 simp (maxSteps:=1000000) [-map_map,-mapM_map,↓KW,encZ_eq,cellsA_encM,one_encM,inj1_encM,inj_encM,kills_encM]
theorem faceFn (x y:Int × Int) (hx:Sz x.2) (hy:Sz y.2):Spec Tryz.prog 92 [.ag (encF x),.ag (encF y)] (.b (decide (x=y))):=by
 refine spec_of (N:=18) follows_mixed Tryz.func92 rfl rfl rfl (by kernel_rfl) (by kernel_rfl) (by simp) ?_
 obtain ⟨xc,xv⟩:=x
 obtain ⟨yc,yv⟩:=y
 obtain ⟨r,hC,hr⟩:=intCmpZ xv yv hx hy
 by_cases h1:xc=yc
 ·have h2:((xc == yc):Bool)=true:=by simpa using h1
  have h3:decide (((xc,xv):Int × Int)=(yc,yv))=(r == 0):=by
   rw [Bool.eq_iff_iff,decide_eq_true_eq,beq_iff_eq,hr,Prod.mk.injEq]; simp [h1]
  rw [h3]
  subst h1
  simp (maxSteps:=1000000) [-map_map,-mapM_map,↓KW,encF_eq,h2,cellsA_encM,one_encM,inj1_encM,inj_encM,kills_encM]
  refine callP_intro (ds:=[encZ xv,encZ yv]) (by rfl) hC ?_
  simp (maxSteps:=1000000) [-map_map,-mapM_map,↓KW,]
 ·have h2:((xc == yc):Bool)=false:=by simpa using h1
  have h3:decide (((xc,xv):Int × Int)=(yc,yv))=false:=by
   rw [decide_eq_false_iff_not,Prod.mk.injEq]; exact fun h=>h1 h.1
  rw [h3]
  simp (maxSteps:=1000000) [-map_map,-mapM_map,↓KW,encF_eq,h2,h1,cellsA_encM,one_encM,inj1_encM,inj_encM,kills_encM]
set_option maxHeartbeats 8000000 in
set_option maxRecDepth 10000 in
theorem chainEq {a b:Ch} (ha:∀ x∈a,Sz x.2) (hb:∀ x∈b,Sz x.2) (hla:a.length≤4294967296):Spec Tryz.prog 91 [encC a,encC b,.lit (.func (.func 92) #[] #[])] (.b (decide (a=b))):=by
 refine spec_of (N:=32) follows_mixed Tryz.func91 rfl rfl rfl (by kernel_rfl) (by kernel_rfl) (by simp) ?_
 by_cases hn:a.length=b.length
 rotate_left
 ·have h1:(((a.length:Int) != b.length):Bool)=true:=by simp; omega
  have h2:decide (a=b)=false:=by simp; intro e; rw [e] at hn; exact hn rfl
  simp (maxSteps:=1000000) [-map_map,-mapM_map,↓KW,↓luP_succ,↓o1_makeFunc,↓o1_index,↓o1_callV,encC,h1,h2]
 ·have h1:(((a.length:Int) != b.length):Bool)=false:=by simp; omega
  simp (maxSteps:=1000000) [-map_map,-mapM_map,↓KW,↓luP_succ,↓o1_makeFunc,↓o1_index,↓o1_callV,encC,h1]
  refine loopP_inv (fun i:Nat=>i≤a.length∧∀ j,j<i→a[j]? = b[j]?) (fun i=>StL [(0,.d (encC a)),(1,.d (encC b)),(2,.d (.lit (.func (.func 92) #[] #[]))),(15,.d (encC a)),(16,.d (.i .i64 (a.length:Int))),(17,.d (.i .i64 (i:Int)))] none []) (fun i=>a.length - i) 0 ⟨Nat.zero_le _,fun j h=>by omega⟩ ?_ ?_
  ·refine wk_l [] (by simp) ?_ ?_ <;> simp [-map_map,upd,inj1,Γ0,encC]
  ·rintro i ⟨hi,hok⟩
   by_cases hgo:i<a.length
   ·have q1:(i:Int)<a.length:=by omega
    have hgb:i<b.length:=by omega
    have hx:a[i]? = some a[i]:=List.getElem?_eq_getElem hgo
    have hy:b[i]? = some b[i]:=List.getElem?_eq_getElem hgb
    have hxs:=ha _ (List.getElem_mem hgo)
    have hys:=hb _ (List.getElem_mem hgb)
    have hw:IntKind.i64.wrap ((i:Int)+1)=(i:Int)+1:=wrap_i64 (by omega) (by omega)
    generalize a[i]=x at *
    generalize b[i]=y at *
    have hS:=faceFn x y hxs hys
    have hne:¬ (x=y)→decide (a=b)=false:=fun h=>by
     simp only [decide_eq_false_iff_not]
     intro e
     rw [e,hy] at hx
     injection hx with hx
     exact h hx.symm
    simp (maxSteps:=1000000) [-map_map,-mapM_map,↓KW,↓luP_succ,↓o1_makeFunc,↓o1_index,↓o1_callV,encC,encF_eq,q1,hx,hy,cellsA_encM,one_encM,inj1_encM]
    refine callV_intro (ds:=[.ag (encF x),.ag (encF y)]) (by rfl) hS ?_
    by_cases hv:x=y
    ·subst hv
     rw [decide_eq_true rfl]
     simp (maxSteps:=1000000) [-map_map,-mapM_map,↓KW,↓luP_succ,↓o1_makeFunc,↓o1_index,↓o1_callV,hw]
     refine nxt_intro (i+1) ⟨hgo,fun j hj=>?_⟩ (Nat.sub_lt_sub_left hgo (Nat.lt_succ_self _)) (wk_l [] (by simp) ?_ ?_)
     ·rcases Nat.lt_or_ge j i with h2 | h2
      ·exact hok j h2
      ·rw [show j=i by omega,hx,hy]
     ·simp [-map_map,upd,inj1,Γ0,encC]
     ·trivial
    ·rw [decide_eq_false hv]
     have e2:=hne hv
     simp (maxSteps:=1000000) [-map_map,-mapM_map,↓KW,↓luP_succ,↓o1_makeFunc,↓o1_index,↓o1_callV,e2]
   ·have q1:¬ (i:Int)<a.length:=by omega
    have e:decide (a=b)=true:=by
     simp only [decide_eq_true_eq]
     apply List.ext_getElem?
     intro j
     rcases Nat.lt_or_ge j a.length with h | h
     ·exact hok j (by omega)
     ·rw [List.getElem?_eq_none h,List.getElem?_eq_none (by omega)]
    simp (maxSteps:=1000000) [-map_map,-mapM_map,↓KW,↓luP_succ,↓o1_makeFunc,↓o1_index,↓o1_callV,encC,q1,e]
set_option maxRecDepth 10000 in
theorem mgEqual {a b:Ch} (ha:∀ x∈a,Sz x.2) (hb:∀ x∈b,Sz x.2) (hla:a.length≤4294967296):Spec Tryz.prog 45 [encC a,encC b] (.b (decide (a=b))):=by
 refine spec_of (N:=8) follows_mixed Tryz.func45 rfl rfl rfl (by kernel_rfl) (by kernel_rfl) (by simp) ?_
 have hS:=chainEq ha hb hla
 simp (maxSteps:=1000000) [-map_map,-mapM_map,↓KW,↓luP_succ,↓o1_makeFunc,↓o1_index,↓o1_callV,encC,oev_fnc]
 refine callP_intro (ds:=[encC a,encC b,.lit (.func (.func 92) #[] #[])]) (by rfl) hS ?_
 simp (maxSteps:=1000000) [-map_map,-mapM_map,↓KW,↓luP_succ,↓o1_makeFunc,↓o1_index,↓o1_callV,]
theorem mlook_inj (g:List (Int × Ch)) (n:Int):mlook (injM (g.map (·.1)) (g.map fun p=>encC p.2)) n=(getG g n).map fun y=>.d (encC y):=by
 unfold getG mlook injM
 induction g with
 | nil=>rfl
 | cons p g ih =>
  simp only [List.map_cons,List.zip_cons_cons,mfind,List.find?_cons]
  by_cases h:p.1=n
  ·simp [h,inj1_encC]
  ·rw [if_neg h,decide_eq_false h]
   simp only [Option.bind_map]
   rw [← ih]; rfl
end Go.Am
end

section
set_option linter.unusedVariables false
set_option linter.unusedSimpArgs false
open Go Go.Am Go.Proofs
namespace Go.Am
def grS (t:Nat) (sl:List (Nat × AV)) (e:TypeId) (sz:Nat) (n:Nat) (cells:List D):St:=match n with
 | 0=>StL ((t,.nil)::sl) none []
 | n+1=>StL ((t,.own 1 0 (n+1) sz)::sl) none [.cells e (cells.map .d)]
end Go.Am
end

section
set_option linter.unusedVariables false
set_option linter.unusedSimpArgs false
open List (map_map mapM_map)
open Go Go.Am Go.Proofs
namespace Go.Am
/-! Rows of elements of one size -/
theorem chunk_of {k:Nat} (hk:0<k) (l:List (List D)) (h:∀ x∈l,x.length=k):chunk k l.length l.flatten=l:=by
 induction l with
 | nil=>rfl
 | cons a l ih =>
  have ha:=h a (List.mem_cons_self ..)
  have:=ih fun x hx=>h x (List.mem_cons_of_mem _ hx)
  unfold chunk at this ⊢
  rw [List.length_cons,List.range_succ_eq_map,List.map_cons,List.map_map,List.flatten_cons]
  congr 1
  ·simp [← ha]
  ·conv=>rhs; rw [← this]
   apply List.map_congr_left
   intro i _
   simp only [Function.comp]
   rw [show Nat.succ i * k=a.length+i * k from by rw [Nat.succ_mul,ha,Nat.add_comm],List.drop_append,List.drop_eq_nil_of_le (by omega)]
   simp
def flt {α:Type} (f:α→List D) (l:List α):List D:=(l.map f).flatten
theorem flt_nil {α:Type} (f:α→List D):flt f []=[]:=rfl
theorem flt_one {α:Type} (f:α→List D) (x:α):flt f [x]=f x:=by simp [flt]
theorem flt_app {α:Type} (f:α→List D) (a b:List α):flt f (a++b)=flt f a++flt f b:=by simp [flt]
theorem flt_len {α:Type} {f:α→List D} {k:Nat} (h:∀ x,(f x).length=k) (l:List α):(flt f l).length=l.length * k:=by
 unfold flt
 induction l with
 | nil=>simp
 | cons x l ih=>rw [List.map_cons,List.flatten_cons,List.length_append,ih,h,List.length_cons,Nat.succ_mul]; omega
theorem flt_all {α:Type} {f:α→List D} (h:∀ x,((f x).map AV.d).all one=true) (l:List α):((flt f l).map AV.d).all one=true:=by
 unfold flt
 induction l with
 | nil=>rfl
 | cons x l ih=>rw [List.map_cons,List.flatten_cons,List.map_append,List.all_append,h,ih]; rfl
theorem flt_chunk {α:Type} {f:α→List D} {k:Nat} (hk:0<k) (h:∀ x,(f x).length=k) {l:List α} {n:Nat} (hn:l.length=n):chunk k n (flt f l)=l.map f:=by
 have:=chunk_of hk (l.map f) fun x hx=>by obtain ⟨y,_,rfl⟩:=List.mem_map.1 hx; exact h y
 rwa [List.length_map,hn] at this
theorem flt_take {α:Type} {f:α→List D} {k:Nat} (h:∀ x,(f x).length=k) {l:List α} {n:Nat} (hn:l.length=n):((flt f l).map AV.d).take (n * k)=(flt f l).map AV.d:=List.take_of_length_le (by rw [List.length_map,flt_len h,hn]; exact Nat.le_refl _)
theorem encCl_eq (x:Cl):encCl x=[.i .i64 x.id,.i .i64 x.dim,encC x.b]:=rfl
theorem encIm_len (x:Int × Ch):(encIm x).length=2:=rfl
theorem encIm_one (x:Int × Ch):((encIm x).map AV.d).all one=true:=rfl
theorem encIm_eq (x:Int × Ch):encIm x=[.i .i64 x.1,encC x.2]:=rfl
def lkV:Option Ch→AV
 | some y=>.tp [.d (encC y),.d (.b true)]
 | none=>.tp [.nil,.d (.b false)]
theorem lookG (g:List (Int × Ch)) (H:Nat→Option HO) (n:Int):lookA Tryz.prog H 92 (.d (encG g)) (.d (.i .i64 n)) true=some (lkV (getG g n)):=by
 have h1:tmp Tryz.prog 92=some (3,45):=by kernel_rfl
 have h2:tint Tryz.prog 3=some .i64:=by kernel_rfl
 have h3:tz Tryz.prog 45=some (.slice none 0 0):=by kernel_rfl
 show lookE Tryz.prog 92 .i64 (injM (g.map (·.1)) (g.map fun p=>encC p.2)) (.d (.i .i64 n)) true=_
 simp only [lookE,mlook_inj]
 cases getG g n <;> simp [h1,h2,h3,lkV,cv,cv1]
theorem mapX_take {c:List Cl} {i:Nat} (h:i<c.length) (g:List (Int × Ch)):mapX (c.take (i+1)) g=mapX (c.take i) g++[(c[i].id,(getG g c[i].id).getD [(c[i].id,1)])]:=by
 unfold mapX
 rw [List.take_add_one,List.getElem?_eq_getElem h,List.map_append]; rfl
set_option maxHeartbeats 2000000 in
set_option maxRecDepth 10000 in
theorem mgMapping (c:List Cl) (g:List (Int × Ch)) (G:D) (hG:inj1 G=.d G) (hlk:∀ H n,lookA Tryz.prog H 92 (.d G) (.d (.i .i64 n)) true=some (lkV (getG g n))) (hl:c.length≤1000000):Spec Tryz.prog 47 [encX c,G] (encMp (mapX c g)):=by
 refine spec_of (N:=37) follows_mixed Tryz.func47 rfl rfl rfl (by kernel_rfl) (by kernel_rfl) (by simp) ?_
 simp (maxSteps:=1000000) [-map_map,-mapM_map,↓KW,encX,hG]
 refine loopP_inv (fun y:Nat × List (Int × Ch)=>y.1≤c.length∧y.2.length=y.1∧mapX (c.take y.1) g=y.2) (fun y=>grS 5 [(0,.d (encX c)),(1,.d G),(10,.d (encX c)),(11,.d (.i .i64 c.length)),(12,.d (.i .i64 (y.1:Int)))] 97 2 y.2.length (flt encIm y.2)) (fun y=>c.length - y.1) (0,[]) ⟨Nat.zero_le _,rfl,rfl⟩ ?_ ?_
 ·simp only [List.length_nil,grS]
  refine wk_l [] (by simp) ?_ ?_ <;> simp [-map_map,upd,Γ0,encX,blksOk,hG]
 ·rintro ⟨i,out⟩ ⟨hi,hoi,ho⟩
  simp only at hi ho hoi ⊢
  by_cases hgo:i<c.length
  ·have q1:(i:Int)<c.length:=by omega
   have hx:c[i]? = some c[i]:=List.getElem?_eq_getElem hgo
   have hw:IntKind.i64.wrap ((i:Int)+1)=(i:Int)+1:=wrap_i64 (by omega) (by omega)
   have htk:=mapX_take hgo g
   rw [ho] at htk
   refine (show ∃ x,c[i]=x from ⟨_,rfl⟩).elim fun x hxe=>?_
   rw [hxe] at hx htk
   have hyc:encCl x=[D.i .i64 x.id,.i .i64 x.dim,encC x.b]:=rfl
   have hS:=mgSingle x.id
   have hlk':=fun H=>hlk H x.id
   have hm1:(1:Nat)≤maxLen:=le_maxLen (by decide)
   refine (show ∃ y,(getG g x.id).getD [(x.id,1)]=y from ⟨_,rfl⟩).elim fun y hy=>?_
   rw [hy] at htk
   rcases hn:out with _ | ⟨o1,o2⟩
   ·rw [hn] at htk hoi
    simp only [List.length_nil,grS]
    rcases hgv:getG g x.id with _ | v
    ·rw [hgv] at hlk' hy
     simp only [lkV] at hlk'
     simp (maxSteps:=1000000) [-map_map,-mapM_map,↓KW,encX,q1,hx,hyc,hw,hm1,hlk',one_encC,cellsA_encC,inj1_encC]
     refine callP_intro (ds:=[.i .i64 x.id]) (by rfl) hS ?_
     simp (maxSteps:=1000000) [-map_map,-mapM_map,↓KW,encX,q1,hx,hyc,hw,hm1,hlk',one_encC,cellsA_encC,inj1_encC,inj_encC,kills_encC]
     refine nxt_intro (i+1,[(x.id,y)]) ⟨hgo,by simp only [List.length_singleton]; simp at hoi; omega,htk⟩ (Nat.sub_lt_sub_left hgo (Nat.lt_succ_self _)) ?_
     simp only [List.length_singleton,grS,flt_one,encIm_eq,← hy]
     refine wk_l [3] (by simp) ?_ ?_ <;> simp [-map_map,upd,inj1,Γ0,encX]
    ·rw [hgv] at hlk' hy
     simp only [lkV] at hlk'
     have hy':v=y:=hy
     simp (maxSteps:=1000000) [-map_map,-mapM_map,↓KW,encX,q1,hx,hyc,hw,hm1,hlk',one_encC,cellsA_encC,inj1_encC]
     refine nxt_intro (i+1,[(x.id,y)]) ⟨hgo,by simp only [List.length_singleton]; simp at hoi; omega,htk⟩ (Nat.sub_lt_sub_left hgo (Nat.lt_succ_self _)) ?_
     simp only [List.length_singleton,grS,flt_one,encIm_eq,← hy']
     refine wk_l [3] (by simp) ?_ ?_ <;> simp [-map_map,upd,inj1,Γ0,encX]
   ·rw [← hn]
    refine (show ∃ m,out.length=m+1 from ⟨o2.length,by rw [hn]; rfl⟩).elim fun m hm=>?_
    have hbb:=app_bounds (n:=m+1) (by omega)
    have hb8:(m+1+1) * 32≤140737488355328:=by omega
    have hcl:=flt_len encIm_len out
    rw [hm] at hcl
    have hal:=flt_all encIm_one out
    have hfa:flt encIm (out++[(x.id,y)])=flt encIm out++[.i .i64 x.id,encC y]:=by rw [flt_app,flt_one]; rfl
    simp only [hm,grS]
    rcases hgv:getG g x.id with _ | v
    ·rw [hgv] at hlk' hy
     simp only [lkV] at hlk'
     simp (maxSteps:=1000000) [-map_map,-mapM_map,↓KW,encX,q1,hx,hyc,hw,hm,hlk',hbb,hb8,hcl,hal,le_maxLen,one_encC,cellsA_encC,inj1_encC]
     refine callP_intro (ds:=[.i .i64 x.id]) (by rfl) hS ?_
     simp (maxSteps:=1000000) [-map_map,-mapM_map,↓KW,encX,q1,hx,hyc,hw,hm,hlk',hbb,hb8,hcl,hal,le_maxLen,one_encC,cellsA_encC,inj1_encC,inj_encC,kills_encC]
     refine nxt_intro (i+1,out++[(x.id,y)]) ⟨hgo,by simp only [List.length_append,List.length_singleton]; omega,htk⟩ (Nat.sub_lt_sub_left hgo (Nat.lt_succ_self _)) ?_
     simp only [List.length_append,hm,List.length_singleton,grS,hfa,← hy]
     refine wk_l [4] (by simp) ?_ ?_ <;> simp [-map_map,upd,inj1,Γ0,encX,flt_app,flt_one,encIm_eq]
    ·rw [hgv] at hlk' hy
     simp only [lkV] at hlk'
     have hy':v=y:=hy
     simp (maxSteps:=1000000) [-map_map,-mapM_map,↓KW,encX,q1,hx,hyc,hw,hm,hlk',hbb,hb8,hcl,hal,le_maxLen,one_encC,cellsA_encC,inj1_encC]
     refine nxt_intro (i+1,out++[(x.id,y)]) ⟨hgo,by simp only [List.length_append,List.length_singleton]; omega,htk⟩ (Nat.sub_lt_sub_left hgo (Nat.lt_succ_self _)) ?_
     simp only [List.length_append,hm,List.length_singleton,grS,hfa,← hy']
     refine wk_l [4] (by simp) ?_ ?_ <;> simp [-map_map,upd,inj1,Γ0,encX,flt_app,flt_one,encIm_eq]
  ·have q1:¬ (i:Int)<c.length:=by omega
   rw [List.take_of_length_le (by omega)] at ho
   rw [ho]
   rcases hn:out.length with _ | m
   ·have e0:out=[]:=List.eq_nil_of_length_eq_zero hn
    simp only [grS]
    simp (maxSteps:=1000000) [-map_map,-mapM_map,↓KW,encX,encMp,q1,e0]
   ·have e1:=flt_take encIm_len hn
    have e2:=flt_chunk (by decide) encIm_len hn
    have e3:=flt_len encIm_len out
    rw [hn] at e3
    simp only [grS]
    simp (maxSteps:=1000000) [-map_map,-mapM_map,↓KW,encX,encMp,q1,e1,e2,e3,hn]
end Go.Am
end

section
set_option linter.unusedVariables false
set_option linter.unusedSimpArgs false
open List (map_map mapM_map)
open Go Go.Am Go.Proofs
namespace Go.Am
def nzF (f:Int × Int):Ch:=if f.2=0 then [] else [f]
def plM (k:Int):Ch→Ch→Ch
 | [],[]=>[]
 | x::a,[]=>nzF x++plM k a []
 | [],y::b=>nzF (y.1,k * y.2)++plM k [] b
 | x::a,y::b=>if x.1<y.1 then nzF x++plM k a (y::b) else if y.1<x.1 then nzF (y.1,k * y.2)++plM k (x::a) b else nzF (x.1,x.2+k * y.2)++plM k a b
termination_by a b=>a.length+b.length
theorem cf_nzF (n:Int) (f:Int × Int) (l:Ch):cf n (nzF f++l)=cf n (f::l):=by
 unfold nzF
 by_cases h:f.2=0
 ·rw [if_pos h,List.nil_append]
  simp [cf,h]
 ·rw [if_neg h]; rfl
theorem cf_plM (k n:Int):∀ a b:Ch,cf n (plM k a b)=cf n a+k * cf n b
 | [],[]=>by simp [plM,cf]
 | x::a,[]=>by
  have ih:=cf_plM k n a []
  rw [plM,cf_nzF]
  simp only [cf] at ih ⊢
  rw [ih]; simp only [Int.mul_zero,Int.add_zero]
 | [],y::b=>by
  have ih:=cf_plM k n [] b
  rw [plM,cf_nzF]
  simp only [cf] at ih ⊢
  rw [ih,Int.mul_add]
  split <;> simp
 | x::a,y::b=>by
  have h1:=cf_plM k n a (y::b)
  have h2:=cf_plM k n (x::a) b
  have h3:=cf_plM k n a b
  rw [plM]
  split
  ·rw [cf_nzF]
   simp only [cf] at h1 ⊢
   rw [h1]; omega
  ·split
   ·rw [cf_nzF]
    simp only [cf] at h2 ⊢
    rw [h2,Int.mul_add]
    split
    ·split <;> (try simp only [Int.mul_zero]) <;> omega
    ·split <;> (try simp only [Int.mul_zero]) <;> omega
   ·rename_i g1 g2
    have he:x.1=y.1:=by omega
    rw [cf_nzF]
    simp only [cf]
    rw [h3,he,Int.mul_add]
    split <;> (try simp only [Int.mul_zero]) <;> omega
termination_by a b=>a.length+b.length
theorem plM_mem (k:Int):∀ (a b:Ch) (x:Int × Int),x∈plM k a b→x.2≠0∧((∃ y∈a,y.1=x.1)∨∃ y∈b,y.1=x.1)
 | [],[],x,h=>by simp [plM] at h
 | u::a,[],x,h=>by
  rw [plM] at h
  rcases List.mem_append.1 h with h | h
  ·unfold nzF at h
   split at h
   ·cases h
   ·rw [List.mem_singleton] at h; subst h; exact ⟨by assumption,.inl ⟨_,List.mem_cons_self ..,rfl⟩⟩
  ·obtain ⟨h1,h2⟩:=plM_mem k a [] x h
   refine ⟨h1,?_⟩
   rcases h2 with ⟨y,hy,e⟩ | ⟨y,hy,e⟩
   ·exact .inl ⟨y,List.mem_cons_of_mem _ hy,e⟩
   ·cases hy
 | [],v::b,x,h=>by
  rw [plM] at h
  rcases List.mem_append.1 h with h | h
  ·unfold nzF at h
   split at h
   ·cases h
   ·rw [List.mem_singleton] at h; subst h; exact ⟨by assumption,.inr ⟨_,List.mem_cons_self ..,rfl⟩⟩
  ·obtain ⟨h1,h2⟩:=plM_mem k [] b x h
   refine ⟨h1,?_⟩
   rcases h2 with ⟨y,hy,e⟩ | ⟨y,hy,e⟩
   ·cases hy
   ·exact .inr ⟨y,List.mem_cons_of_mem _ hy,e⟩
 | u::a,v::b,x,h=>by
  rw [plM] at h
  have up:((∃ y∈a,y.1=x.1)∨∃ y∈v::b,y.1=x.1)→((∃ y∈u::a,y.1=x.1)∨∃ y∈v::b,y.1=x.1):=fun h=>h.imp (fun ⟨y,hy,e⟩=>⟨y,List.mem_cons_of_mem _ hy,e⟩) id
  have up2:((∃ y∈u::a,y.1=x.1)∨∃ y∈b,y.1=x.1)→((∃ y∈u::a,y.1=x.1)∨∃ y∈v::b,y.1=x.1):=fun h=>h.imp id (fun ⟨y,hy,e⟩=>⟨y,List.mem_cons_of_mem _ hy,e⟩)
  split at h
  ·rcases List.mem_append.1 h with h | h
   ·unfold nzF at h
    split at h
    ·cases h
    ·rw [List.mem_singleton] at h; subst h; exact ⟨by assumption,.inl ⟨_,List.mem_cons_self ..,rfl⟩⟩
   ·obtain ⟨h1,h2⟩:=plM_mem k a (v::b) x h
    exact ⟨h1,up h2⟩
  ·split at h
   ·rcases List.mem_append.1 h with h | h
    ·unfold nzF at h
     split at h
     ·cases h
     ·rw [List.mem_singleton] at h; subst h; exact ⟨by assumption,.inr ⟨_,List.mem_cons_self ..,rfl⟩⟩
    ·obtain ⟨h1,h2⟩:=plM_mem k (u::a) b x h
     exact ⟨h1,up2 h2⟩
   ·rcases List.mem_append.1 h with h | h
    ·unfold nzF at h
     split at h
     ·cases h
     ·rw [List.mem_singleton] at h; subst h; exact ⟨by assumption,.inl ⟨_,List.mem_cons_self ..,rfl⟩⟩
    ·obtain ⟨h1,h2⟩:=plM_mem k a b x h
     exact ⟨h1,h2.imp (fun ⟨y,hy,e⟩=>⟨y,List.mem_cons_of_mem _ hy,e⟩) (fun ⟨y,hy,e⟩=>⟨y,List.mem_cons_of_mem _ hy,e⟩)⟩
termination_by a b=>a.length+b.length
theorem nzF_val {f:Int × Int} {l:Ch} (hl:Val l) (h:∀ y∈l,f.1<y.1):Val (nzF f++l):=by
 unfold nzF
 split
 ·exact hl
 ·refine ⟨List.pairwise_cons.2 ⟨h,hl.1⟩,fun y hy=>?_⟩
  rcases List.mem_cons.1 hy with rfl | hy
  ·assumption
  ·exact hl.2 y hy
theorem plM_val (k:Int):∀ {a b:Ch},Val a→Val b→Val (plM k a b)
 | [],[],_,_=>by rw [plM]; exact Val.nil
 | x::a,[],ha,hb=>by
  obtain ⟨h1,h2,_⟩:=ha.tail
  rw [plM]
  refine nzF_val (plM_val k h1 hb) fun y hy=>?_
  rcases (plM_mem k a [] y hy).2 with ⟨z,hz,e⟩ | ⟨z,hz,e⟩
  ·rw [← e]; exact h2 z hz
  ·cases hz
 | [],y::b,ha,hb=>by
  obtain ⟨h1,h2,_⟩:=hb.tail
  rw [plM]
  refine nzF_val (plM_val k ha h1) fun u hu=>?_
  rcases (plM_mem k [] b u hu).2 with ⟨z,hz,e⟩ | ⟨z,hz,e⟩
  ·cases hz
  ·rw [← e]; exact h2 z hz
 | x::a,y::b,ha,hb=>by
  obtain ⟨a1,a2,_⟩:=ha.tail
  obtain ⟨b1,b2,_⟩:=hb.tail
  rw [plM]
  split
  ·refine nzF_val (plM_val k a1 hb) fun u hu=>?_
   rcases (plM_mem k a (y::b) u hu).2 with ⟨z,hz,e⟩ | ⟨z,hz,e⟩
   ·rw [← e]; exact a2 z hz
   ·rcases List.mem_cons.1 hz with rfl | hz
    ·omega
    ·have:=b2 z hz; omega
  ·split
   ·refine nzF_val (plM_val k ha b1) fun u hu=>?_
    simp only
    rcases (plM_mem k (x::a) b u hu).2 with ⟨z,hz,e⟩ | ⟨z,hz,e⟩
    ·rcases List.mem_cons.1 hz with rfl | hz
     ·omega
     ·have:=a2 z hz; omega
    ·rw [← e]; exact b2 z hz
   ·refine nzF_val (plM_val k a1 b1) fun u hu=>?_
    simp only
    rcases (plM_mem k a b u hu).2 with ⟨z,hz,e⟩ | ⟨z,hz,e⟩
    ·rw [← e]; exact a2 z hz
    ·have:=b2 z hz; omega
termination_by a b=>a.length+b.length
theorem plM_lin {a b:Ch} (ha:Val a) (hb:Val b) (k:Int):plM k a b=lin a b k:=by
 obtain ⟨h1,h2⟩:=lin_val ha hb k
 have h3:=plM_val k ha hb
 refine h3.ext h1 fun n=>?_
 rw [h2 n,← cf_getM h3,cf_plM,cf_getM ha,cf_getM hb]
theorem plM_nil (k:Int):plM k [] []=[]:=by rw [plM]
theorem plM_left {k:Int} {a b:Ch} {i:Nat} (h:i<a.length) (hb:b=[]∨∃ y l,b=y::l∧a[i].1<y.1):plM k (a.drop i) b=nzF a[i]++plM k (a.drop (i+1)) b:=by
 rw [List.drop_eq_getElem_cons h]
 rcases hb with rfl | ⟨y,l,rfl,hlt⟩
 ·rw [plM]
 ·rw [plM,if_pos hlt]
theorem plM_right {k:Int} {a b:Ch} {j:Nat} (h:j<b.length) (ha:a=[]∨∃ x l,a=x::l∧b[j].1<x.1):plM k a (b.drop j)=nzF (b[j].1,k * b[j].2)++plM k a (b.drop (j+1)):=by
 rw [List.drop_eq_getElem_cons h]
 rcases ha with rfl | ⟨x,l,rfl,hlt⟩
 ·rw [plM]
 ·rw [plM,if_neg (by omega),if_pos hlt]
theorem plM_both {k:Int} {a b:Ch} {i j:Nat} (h:i<a.length) (h2:j<b.length) (he:a[i].1=b[j].1):plM k (a.drop i) (b.drop j)=nzF (a[i].1,a[i].2+k * b[j].2)++plM k (a.drop (i+1)) (b.drop (j+1)):=by
 rw [List.drop_eq_getElem_cons h,List.drop_eq_getElem_cons h2,plM,if_neg (by omega),if_neg (by omega)]
set_option maxHeartbeats 8000000 in
set_option maxRecDepth 10000 in
theorem r25Plus {a b:Ch} {k:Int} {e f g:Nat} (ha:Bnd (2 ^ e) a) (hb:Bnd (2 ^ f) b) (hk:k.natAbs≤2 ^ g) (he:e+2<4398046511104) (hf:g+f+2<4398046511104) (hla:a.length≤1048576) (hlb:b.length≤1048576):Spec Tryz.prog 27 [encC a,encC b,encZ k] (encC (plM k a b)):=by
 have hkS:Sz k:=szE hk (by omega)
 refine spec_of (N:=116) follows_mixed Tryz.func27 rfl rfl rfl (by kernel_rfl) (by kernel_rfl) (by simp) ?_
 simp (maxSteps:=1000000) [-map_map,-mapM_map,↓KW,encC,encZ_eq,one_encM,cellsA_encM,inj1_encM]
 refine loopP_inv (fun y:Nat × Nat × Ch=>y.1≤a.length∧y.2.1≤b.length∧y.2.2.length≤y.1+y.2.1∧y.2.2++plM k (a.drop y.1) (b.drop y.2.1)=plM k a b) (fun y=>StL [(0,.d (encC a)),(1,.d (encC b)),(5,.ptr 1 0),(7,.own 2 0 y.2.2.length 3),(8,.d (.i .i64 (y.1:Int))),(9,.d (.i .i64 (y.2.1:Int)))] none [.cells 69 [.d (.b (decide (k<0))),.d (encM (digs k.natAbs))],.cells 89 ((fcs y.2.2).map .d)]) (fun y=>(a.length - y.1)+(b.length - y.2.1)) (0,0,[]) ⟨Nat.zero_le _,Nat.zero_le _,Nat.zero_le _,rfl⟩ ?_ ?_
 ·refine wk_l [1,2] (by simp) ?_ ?_ <;> simp [-map_map,upd,inj1,Γ0,encC,fcs]
 ·rintro ⟨i,j,out⟩ ⟨hi,hj,hol,hinv⟩
  simp only at hi hj hol hinv
  refine (show ∃ n,out.length=n from ⟨_,rfl⟩).elim fun n hn=>?_
  rw [hn] at hol
  have hfl:=fcs_len out
  rw [hn] at hfl
  have hb8:=app_bounds (n:=n) (by omega)
  by_cases hgi:i<a.length
  ·have q1:(i:Int)<a.length:=by omega
   have hw1:IntKind.i64.wrap ((i:Int)+1)=((i+1:Nat):Int):=by rw [wrap_i64 (by omega) (by omega)]; omega
   have g1:a[i]? = some a[i]:=List.getElem?_eq_getElem hgi
   have hax:=ha _ (List.getElem_mem hgi)
   by_cases hgj:j<b.length
   ·have q2:((j:Int) == b.length)=false:=by simp; omega
    have q3:(j:Int)<b.length:=by omega
    have q5:((i:Int) == a.length)=false:=by simp; omega
    have hw2:IntKind.i64.wrap ((j:Int)+1)=((j+1:Nat):Int):=by rw [wrap_i64 (by omega) (by omega)]; omega
    have g2:b[j]? = some b[j]:=List.getElem?_eq_getElem hgj
    have hby:=hb _ (List.getElem_mem hgj)
    have st1:a[i].1<b[j].1→plM k (a.drop i) (b.drop j)=nzF a[i]++plM k (a.drop (i+1)) (b.drop j):=fun h=>plM_left hgi (.inr ⟨_,_,List.drop_eq_getElem_cons hgj,h⟩)
    have st2:b[j].1<a[i].1→plM k (a.drop i) (b.drop j)=nzF (b[j].1,k * b[j].2)++plM k (a.drop i) (b.drop (j+1)):=fun h=>plM_right hgj (.inr ⟨_,_,List.drop_eq_getElem_cons hgi,h⟩)
    have st3:=plM_both (k:=k) hgi hgj
    refine (show ∃ x,a[i]=x from ⟨_,rfl⟩).elim fun x hxe=>?_
    refine (show ∃ y,b[j]=y from ⟨_,rfl⟩).elim fun y hye=>?_
    rw [hxe] at g1 st1 st2 st3 hax
    rw [hye] at g2 st1 st2 st3 hby
    obtain ⟨xi,xc⟩:=x
    obtain ⟨yi,yc⟩:=y
    simp only at hax hby st1 st2 st3
    have hsx:Sz xc:=szE hax (by omega)
    have hsy:Sz yc:=szE hby (by omega)
    have hM:=r01MulZ k yc hkS hsy
    have hmb:(k * yc).natAbs≤2 ^ (g+f):=by rw [Int.natAbs_mul,← pw_mul]; exact Nat.mul_le_mul hk hby
    refine (show ∃ z,k * yc=z from ⟨_,rfl⟩).elim fun z hze=>?_
    rw [hze] at hM st2 st3 hmb
    by_cases c1:xi<yi
    ·have hstep:=st1 c1
     have hol2:out.length≤i+1+j:=by omega
     simp (maxSteps:=1000000) [-map_map,-mapM_map,↓KW,encC,q1,q2,g1,g2,c1,hw1,encF_eq,one_encM,cellsA_encM,inj1_encM]
     refine callP_intro (ds:=[encZ xc]) (by rfl) (r01SignZ xc) ?_
     by_cases hz0:xc=0
     ·have hz1:((xc).sign != 0)=false:=by simp [hz0]
      have hz2:nzF (xi,xc)=[]:=by unfold nzF; rw [if_pos hz0]
      rw [hz2,List.nil_append] at hstep
      rw [hstep] at hinv
      simp (maxSteps:=1000000) [-map_map,-mapM_map,↓KW,hz1,hn,hw1]
      refine nxt_intro (τ:=Nat × Nat × Ch) (i+1,j,out) ⟨by simp only; omega,by simp only; omega,hol2,hinv⟩ (by simp only; omega) (wk_l [1,2] (by simp) ?_ ?_)
      ·simp [-map_map,upd,inj1,Γ0,encC,hn]
      ·simp [-map_map,upd,inj1,Γ0,encC,hn]
     ·have hz1:((xc).sign != 0)=true:=by simp [hz0]
      have hz2:nzF (xi,xc)=[(xi,xc)]:=by unfold nzF; rw [if_neg hz0]
      rw [hz2] at hstep
      rw [hstep,← List.append_assoc] at hinv
      simp (maxSteps:=1000000) [-map_map,-mapM_map,↓KW,hz1,encF_eq,one_encM,cellsA_encM,fcs_one,fcs_all',hn,hfl,hb8,le_maxLen,hw1]
      refine nxt_intro (τ:=Nat × Nat × Ch) (i+1,j,out++[(xi,xc)]) ⟨by simp only; omega,by simp only; omega,by simp only [List.length_append,List.length_singleton]; omega,hinv⟩ (by simp only; omega) (wk_l [1,5] (by simp) ?_ ?_)
      ·simp [-map_map,upd,inj1,Γ0,encC,encF_eq,fcs_one,fcs_app,hn]
      ·simp [-map_map,upd,inj1,Γ0,encC,encF_eq,fcs_one,fcs_app,hn]
    ·by_cases c2:yi<xi
     ·have hstep:=st2 c2
      have hol2:out.length≤i+(j+1):=by omega
      simp (maxSteps:=1000000) [-map_map,-mapM_map,↓KW,encC,q1,q2,q5,g1,g2,c1,c2,hw2,encF_eq,one_encM,cellsA_encM,inj1_encM]
      refine callP_intro (ds:=[encZ k,encZ yc]) (by rfl) hM ?_
      simp (maxSteps:=1000000) [-map_map,-mapM_map,↓KW,encZ_eq,hw2,encF_eq,one_encM,cellsA_encM,inj1_encM]
      refine callP_intro (ds:=[encZ z]) (by rfl) (r01SignZ z) ?_
      by_cases hz0:z=0
      ·have hz1:((z).sign != 0)=false:=by simp [hz0]
       have hz2:nzF (yi,z)=[]:=by unfold nzF; rw [if_pos hz0]
       rw [hz2,List.nil_append] at hstep
       rw [hstep] at hinv
       simp (maxSteps:=1000000) [-map_map,-mapM_map,↓KW,hz1,hn,hw2]
       refine nxt_intro (τ:=Nat × Nat × Ch) (i,j+1,out) ⟨by simp only; omega,by simp only; omega,hol2,hinv⟩ (by simp only; omega) (wk_l [1,2] (by simp) ?_ ?_)
       ·simp [-map_map,upd,inj1,Γ0,encC,hn]
       ·simp [-map_map,upd,inj1,Γ0,encC,hn]
      ·have hz1:((z).sign != 0)=true:=by simp [hz0]
       have hz2:nzF (yi,z)=[(yi,z)]:=by unfold nzF; rw [if_neg hz0]
       rw [hz2] at hstep
       rw [hstep,← List.append_assoc] at hinv
       simp (maxSteps:=1000000) [-map_map,-mapM_map,↓KW,hz1,encF_eq,one_encM,cellsA_encM,fcs_one,fcs_all',hn,hfl,hb8,le_maxLen,hw2]
       refine nxt_intro (τ:=Nat × Nat × Ch) (i,j+1,out++[(yi,z)]) ⟨by simp only; omega,by simp only; omega,by simp only [List.length_append,List.length_singleton]; omega,hinv⟩ (by simp only; omega) (wk_l [1,5] (by simp) ?_ ?_)
       ·simp [-map_map,upd,inj1,Γ0,encC,encF_eq,fcs_one,fcs_app,hn]
       ·simp [-map_map,upd,inj1,Γ0,encC,encF_eq,fcs_one,fcs_app,hn]
     ·have c3:xi=yi:=by omega
      have hstep:=st3 c3
      have hol2:out.length≤i+1+(j+1):=by omega
      have hA:=r01AddZ xc z (Nat.le_trans hsx (by decide)) (Nat.le_trans (szE hmb (by omega)) (by decide))
      simp (maxSteps:=1000000) [-map_map,-mapM_map,↓KW,encC,q1,q2,q5,g1,g2,c1,c2,hw1,hw2,encF_eq,one_encM,cellsA_encM,inj1_encM]
      refine callP_intro (ds:=[encZ k,encZ yc]) (by rfl) hM ?_
      simp (maxSteps:=1000000) [-map_map,-mapM_map,↓KW,encZ_eq,hw2,encF_eq,one_encM,cellsA_encM,inj1_encM]
      refine callP_intro (ds:=[encZ xc,encZ z]) (by rfl) hA ?_
      simp (maxSteps:=1000000) [-map_map,-mapM_map,↓KW,encZ_eq,hw1,hw2,encF_eq,one_encM,cellsA_encM,inj1_encM]
      refine (show ∃ u,xc+z=u from ⟨_,rfl⟩).elim fun u hue=>?_
      rw [hue] at hstep ⊢
      refine callP_intro (ds:=[encZ u]) (by rfl) (r01SignZ u) ?_
      by_cases hz0:u=0
      ·have hz1:((u).sign != 0)=false:=by simp [hz0]
       have hz2:nzF (xi,u)=[]:=by unfold nzF; rw [if_pos hz0]
       rw [hz2,List.nil_append] at hstep
       rw [hstep] at hinv
       simp (maxSteps:=1000000) [-map_map,-mapM_map,↓KW,hz1,hn,hw1,hw2]
       refine nxt_intro (τ:=Nat × Nat × Ch) (i+1,j+1,out) ⟨by simp only; omega,by simp only; omega,hol2,hinv⟩ (by simp only; omega) (wk_l [1,2] (by simp) ?_ ?_)
       ·simp [-map_map,upd,inj1,Γ0,encC,hn]
       ·simp [-map_map,upd,inj1,Γ0,encC,hn]
      ·have hz1:((u).sign != 0)=true:=by simp [hz0]
       have hz2:nzF (xi,u)=[(xi,u)]:=by unfold nzF; rw [if_neg hz0]
       rw [hz2] at hstep
       rw [hstep,← List.append_assoc] at hinv
       simp (maxSteps:=1000000) [-map_map,-mapM_map,↓KW,hz1,encF_eq,one_encM,cellsA_encM,fcs_one,fcs_all',hn,hfl,hb8,le_maxLen,hw1,hw2]
       refine nxt_intro (τ:=Nat × Nat × Ch) (i+1,j+1,out++[(xi,u)]) ⟨by simp only; omega,by simp only; omega,by simp only [List.length_append,List.length_singleton]; omega,hinv⟩ (by simp only; omega) (wk_l [1,5] (by simp) ?_ ?_)
       ·simp [-map_map,upd,inj1,Γ0,encC,encF_eq,fcs_one,fcs_app,hn]
       ·simp [-map_map,upd,inj1,Γ0,encC,encF_eq,fcs_one,fcs_app,hn]
   ·have hje:j=b.length:=by omega
    have q2:((j:Int) == b.length)=true:=by simp; omega
    have hstep:=plM_left (k:=k) (b:=b.drop j) hgi (.inl (List.drop_eq_nil_of_le (by omega)))
    have hol2:out.length≤i+1+j:=by omega
    refine (show ∃ x,a[i]=x from ⟨_,rfl⟩).elim fun x hxe=>?_
    rw [hxe] at g1 hstep hax
    obtain ⟨xi,xc⟩:=x
    simp only at hax
    have hsx:Sz xc:=szE hax (by omega)
    simp (maxSteps:=1000000) [-map_map,-mapM_map,↓KW,encC,q1,q2,g1,hw1,encF_eq,one_encM,cellsA_encM,inj1_encM]
    refine callP_intro (ds:=[encZ xc]) (by rfl) (r01SignZ xc) ?_
    by_cases hz0:xc=0
    ·have hz1:((xc).sign != 0)=false:=by simp [hz0]
     have hz2:nzF (xi,xc)=[]:=by unfold nzF; rw [if_pos hz0]
     rw [hz2,List.nil_append] at hstep
     rw [hstep] at hinv
     simp (maxSteps:=1000000) [-map_map,-mapM_map,↓KW,hz1,hn,hw1]
     refine nxt_intro (τ:=Nat × Nat × Ch) (i+1,j,out) ⟨by simp only; omega,by simp only; omega,hol2,hinv⟩ (by simp only; omega) (wk_l [1,2] (by simp) ?_ ?_)
     ·simp [-map_map,upd,inj1,Γ0,encC,hn]
     ·simp [-map_map,upd,inj1,Γ0,encC,hn]
    ·have hz1:((xc).sign != 0)=true:=by simp [hz0]
     have hz2:nzF (xi,xc)=[(xi,xc)]:=by unfold nzF; rw [if_neg hz0]
     rw [hz2] at hstep
     rw [hstep,← List.append_assoc] at hinv
     simp (maxSteps:=1000000) [-map_map,-mapM_map,↓KW,hz1,encF_eq,one_encM,cellsA_encM,fcs_one,fcs_all',hn,hfl,hb8,le_maxLen,hw1]
     refine nxt_intro (τ:=Nat × Nat × Ch) (i+1,j,out++[(xi,xc)]) ⟨by simp only; omega,by simp only; omega,by simp only [List.length_append,List.length_singleton]; omega,hinv⟩ (by simp only; omega) (wk_l [1,5] (by simp) ?_ ?_)
     ·simp [-map_map,upd,inj1,Γ0,encC,encF_eq,fcs_one,fcs_app,hn]
     ·simp [-map_map,upd,inj1,Γ0,encC,encF_eq,fcs_one,fcs_app,hn]
  ·have q1:¬ (i:Int)<a.length:=by omega
   have q5:((i:Int) == a.length)=true:=by simp; omega
   have hde:a.drop i=[]:=List.drop_eq_nil_of_le (by omega)
   rw [hde] at hinv
   by_cases hgj:j<b.length
   ·have q2:((j:Int) == b.length)=false:=by simp; omega
    have q3:(j:Int)<b.length:=by omega
    have hw2:IntKind.i64.wrap ((j:Int)+1)=((j+1:Nat):Int):=by rw [wrap_i64 (by omega) (by omega)]; omega
    have g2:b[j]? = some b[j]:=List.getElem?_eq_getElem hgj
    have hby:=hb _ (List.getElem_mem hgj)
    have hstep:=plM_right (k:=k) hgj (.inl (rfl:([]:Ch)=[]))
    have hol2:out.length≤i+(j+1):=by omega
    refine (show ∃ y,b[j]=y from ⟨_,rfl⟩).elim fun y hye=>?_
    rw [hye] at g2 hstep hby
    obtain ⟨yi,yc⟩:=y
    simp only at hby hstep
    have hsy:Sz yc:=szE hby (by omega)
    have hM:=r01MulZ k yc hkS hsy
    refine (show ∃ z,k * yc=z from ⟨_,rfl⟩).elim fun z hze=>?_
    rw [hze] at hM hstep
    rw [← hde] at hinv hstep
    simp (maxSteps:=1000000) [-map_map,-mapM_map,↓KW,encC,q1,q2,q3,q5,g2,hw2,encF_eq,one_encM,cellsA_encM,inj1_encM]
    refine callP_intro (ds:=[encZ k,encZ yc]) (by rfl) hM ?_
    simp (maxSteps:=1000000) [-map_map,-mapM_map,↓KW,encZ_eq,hw2,encF_eq,one_encM,cellsA_encM,inj1_encM]
    refine callP_intro (ds:=[encZ z]) (by rfl) (r01SignZ z) ?_
    by_cases hz0:z=0
    ·have hz1:((z).sign != 0)=false:=by simp [hz0]
     have hz2:nzF (yi,z)=[]:=by unfold nzF; rw [if_pos hz0]
     rw [hz2,List.nil_append] at hstep
     rw [hstep] at hinv
     simp (maxSteps:=1000000) [-map_map,-mapM_map,↓KW,hz1,hn,hw2]
     refine nxt_intro (τ:=Nat × Nat × Ch) (i,j+1,out) ⟨by simp only; omega,by simp only; omega,hol2,hinv⟩ (by simp only; omega) (wk_l [1,2] (by simp) ?_ ?_)
     ·simp [-map_map,upd,inj1,Γ0,encC,hn]
     ·simp [-map_map,upd,inj1,Γ0,encC,hn]
    ·have hz1:((z).sign != 0)=true:=by simp [hz0]
     have hz2:nzF (yi,z)=[(yi,z)]:=by unfold nzF; rw [if_neg hz0]
     rw [hz2] at hstep
     rw [hstep,← List.append_assoc] at hinv
     simp (maxSteps:=1000000) [-map_map,-mapM_map,↓KW,hz1,encF_eq,one_encM,cellsA_encM,fcs_one,fcs_all',hn,hfl,hb8,le_maxLen,hw2]
     refine nxt_intro (τ:=Nat × Nat × Ch) (i,j+1,out++[(yi,z)]) ⟨by simp only; omega,by simp only; omega,by simp only [List.length_append,List.length_singleton]; omega,hinv⟩ (by simp only; omega) (wk_l [1,5] (by simp) ?_ ?_)
     ·simp [-map_map,upd,inj1,Γ0,encC,encF_eq,fcs_one,fcs_app,hn]
     ·simp [-map_map,upd,inj1,Γ0,encC,encF_eq,fcs_one,fcs_app,hn]
   ·have q3:¬ (j:Int)<b.length:=by omega
    rw [List.drop_eq_nil_of_le (by omega),plM_nil,List.append_nil] at hinv
    have hc:=chunk_fcs hn
    have ht:=fcs_take_all hn
    have hinv':plM k a b=out:=hinv.symm
    simp (maxSteps:=1000000) [-map_map,-mapM_map,↓KW,encC,q1,q3,hn,hfl,hc,ht,hinv']
end Go.Am
end

section
set_option linter.unusedVariables false
set_option linter.unusedSimpArgs false
open Go Go.Am Go.Proofs
namespace Go.Am
def rg (n:Nat) (f:Nat→Int):List Int:=(List.range n).map f
/-! Weights of boundaries -/
theorem wsum_bdL (w:Int→Int) (c:List Cl):∀ y:List (Int × Int),wsum w (bdL c y)=wsum (fun m=>wsum w (bOf c m)) y
 | []=>rfl
 | f::y=>by
  show wsum w (mulR f.2 (bOf c f.1)++bdL c y)=_
  rw [wsum_app,wsum_mulR,wsum_bdL w c y]; rfl
theorem bdX_val (c:List Cl) (x:List (Int × Int)):Val (bdX c x)∧∀ n,getM (bdX c x) n=wsum (fun m=>cf n (bOf c m)) x:=by
 obtain ⟨h1,h2⟩:=addR_val (bdL c x) [] Val.nil
 exact ⟨h1,fun n=>by show getM (addR [] (bdL c x)) n=_; rw [h2 n,getM_nil,Int.zero_add,cf_bdL]⟩
def In (c:List Cl) (k:Int) (x:List (Int × Int)):Prop:=∀ f∈x,f.1∈idsX c k
theorem In.lin {c:List Cl} {k:Int} {a b:List (Int × Int)} (ha:Val a) (hb:Val b) (ia:In c k a) (ib:In c k b) (n:Int):In c k (lin a b n):=lin_keys' (S:=fun m=>m∈idsX c k) ha hb ia ib
theorem bd_one {c:List Cl} (hv:CxV c) {y:Cl} (hy:y∈c):bdX c [(y.id,1)]=y.b:=by
 obtain ⟨h1,h2⟩:=bdX_val c [(y.id,1)]
 refine h1.ext (hv.val y hy) fun n=>?_
 rw [h2]
 simp only [wsum]
 rw [hv.bOf hy,cf_getM (hv.val y hy)]; omega
end Go.Am
end

section
set_option linter.unusedVariables false
set_option linter.unusedSimpArgs false
open List (map_map mapM_map)
open Go Go.Am Go.Proofs
namespace Go.Am
theorem bdL_take_bnd {c:List Cl} {x:Ch} {f g:Nat} (hc:SzX f c) (hx:x.length≤100) (hg:Bnd (2 ^ g) x) (i:Nat):Bnd (2 ^ (14+(f+g))) (addR [] (bdL c (x.take i)))∧(addR [] (bdL c (x.take i))).length≤10000:=by
 obtain ⟨h1,h2⟩:=bdL_le (x:=x.take i) hc (by rw [List.length_take]; omega) (hg.take (i:=i))
 have h3:=addR_bnd (bdL c (x.take i)) [] (Bnd.nil 0) h2
 have h4:=addR_len [] (bdL c (x.take i))
 simp only [List.length_nil,Nat.zero_add] at h3 h4
 exact ⟨h3.mono (pw_len (Nat.le_trans h1 (by decide))),by omega⟩
set_option maxHeartbeats 2000000 in
set_option maxRecDepth 10000 in
theorem r25Around {c:List Cl} {x:Ch} {f g:Nat} (hv:∀ y∈c,Val y.b) (hc:SzX f c) (hx:x.length≤100) (hg:Bnd (2 ^ g) x) (hfg:f+g+20<4398046511104):Spec Tryz.prog 52 [encX c,encC x] (encC (bdX c x)):=by
 have hlen:=hc.len
 refine spec_of (N:=36) follows_mixed Tryz.func52 rfl rfl rfl (by kernel_rfl) (by kernel_rfl) (by simp) ?_
 simp (maxSteps:=1000000) [-map_map,-mapM_map,↓KW,encX,encC]
 refine loopP_inv (fun i:Nat=>i≤x.length) (fun i=>StL [(0,.d (encX c)),(1,.d (encC x)),(5,.d (encC (addR [] (bdL c (x.take i))))),(6,.d (.i .i64 (i:Int)))] none []) (fun i=>x.length - i) 0 (Nat.zero_le _) ?_ ?_
 ·refine wk_l [] (by simp) ?_ ?_
  ·simp [-map_map,upd,inj1,Γ0,encX,encC,addR,bdL]
   exact sub_frz (by simp [frz_own,upd,chunk_0]) (fun a _ id h=>by simp [blkF] at h)
  ·trivial
 ·intro i hi
  by_cases hgo:i<x.length
  ·have q1:(i:Int)<x.length:=by omega
   have hx1:x[i]? = some x[i]:=List.getElem?_eq_getElem hgo
   have hw:IntKind.i64.wrap ((i:Int)+1)=(i:Int)+1:=wrap_i64 (by omega) (by omega)
   have hxg:=hg _ (List.getElem_mem hgo)
   obtain ⟨ob,ol⟩:=bdL_take_bnd hc hx hg i
   have ov:=(addR_val (bdL c (x.take i)) [] Val.nil).1
   have htk:addR [] (bdL c (x.take (i+1)))=addR (addR [] (bdL c (x.take i))) (mulR x[i].2 (bOf c x[i].1)):=by rw [bdL_take hgo,addR_app]
   refine (show ∃ u,x[i]=u from ⟨_,rfl⟩).elim fun u hue=>?_
   rw [hue] at hx1 hxg htk
   obtain ⟨n,z⟩:=u
   simp only at hxg htk
   have hbv:Val (bOf c n):=by
    unfold bOf
    cases e:findX c n with
    | none=>exact Val.nil
    | some y=>exact hv y (findX_some e).1
   have hbb:=bOf_bnd hc.bb n
   have hbl:=bOf_len hc.bl n
   have hF:=r25Find c n (by omega)
   refine (show ∃ out,addR [] (bdL c (x.take i))=out from ⟨_,rfl⟩).elim fun out hoe=>?_
   rw [hoe] at ob ol ov htk
   have hP:=r25Plus (k:=z) ob hbb hxg (by omega) (by omega) (by omega) (by omega)
   rw [plM_lin ov hbv] at hP
   unfold lin at hP
   rw [← htk] at hP
   unfold fndD at hF
   have hbo:bOf c n=((findX c n).getD noCl).b:=rfl
   rw [hbo] at hP
   simp only [hoe]
   simp (maxSteps:=1000000) [-map_map,-mapM_map,↓KW,encX,encC,q1,hx1,encF_eq,one_encM,cellsA_encM,inj1_encM]
   refine callP_intro (ds:=[encX c,.i .i64 n]) (by rfl) hF ?_
   simp (maxSteps:=1000000) [-map_map,-mapM_map,↓KW,encX,encC,encCl_eq,q1,hx1,encF_eq,one_encM,cellsA_encM,inj1_encM,one_encC,cellsA_encC,inj1_encC]
   refine callP_intro (ds:=[encC out,encC ((findX c n).getD noCl).b,encZ z]) (by rfl) hP ?_
   simp (maxSteps:=1000000) [-map_map,-mapM_map,↓KW,hw,inj_encC,kills_encC,one_encC,cellsA_encC]
   refine nxt_intro (i+1) hgo (Nat.sub_lt_sub_left hgo (Nat.lt_succ_self _)) (wk_l [] (by simp) ?_ ?_) <;> simp [-map_map,upd,inj1,Γ0,encX,encC]
  ·have q1:¬ (i:Int)<x.length:=by omega
   rw [List.take_of_length_le (by omega)]
   simp (maxSteps:=1000000) [-map_map,-mapM_map,↓KW,encX,encC,q1,bdX]
/-! Images -/
def apP (m:List (Int × Ch)) (f:Int × Int):Ch:=m.flatMap fun p=>if p.1=f.1 then mulR f.2 p.2 else []
def apL (m:List (Int × Ch)) (x:Ch):Ch:=x.flatMap (apP m)
def apX (m:List (Int × Ch)) (x:Ch):Ch:=addR [] (apL m x)
structure SzM (h:Nat) (m:List (Int × Ch)):Prop where
 len:m.length≤100
 bl:∀ p∈m,p.2.length≤100
 bb:∀ p∈m,Bnd (2 ^ h) p.2
 val:∀ p∈m,Val p.2
theorem apP_le {h g:Nat}:∀ {m:List (Int × Ch)} {f:Int × Int},(∀ p∈m,p.2.length≤100)→(∀ p∈m,Bnd (2 ^ h) p.2)→f.2.natAbs≤2 ^ g→(apP m f).length≤m.length * 100∧Bnd (2 ^ (g+h)) (apP m f)
 | [],f,_,_,_=>⟨Nat.zero_le _,Bnd.nil _⟩
 | p::m,f,h1,h2,h3=>by
  obtain ⟨i1,i2⟩:=apP_le (m:=m) (f:=f) (fun q hq=>h1 q (List.mem_cons_of_mem _ hq)) (fun q hq=>h2 q (List.mem_cons_of_mem _ hq)) h3
  have hp1:=h1 p (List.mem_cons_self ..)
  have hp2:=mulR_bnd h3 (h2 p (List.mem_cons_self ..))
  rw [pw_mul] at hp2
  show ((if p.1=f.1 then mulR f.2 p.2 else [])++apP m f).length≤_∧Bnd _ ((if p.1=f.1 then mulR f.2 p.2 else [])++apP m f)
  rw [List.length_append,List.length_cons,Nat.succ_mul]
  split
  ·exact ⟨by rw [mulR_len]; omega,hp2.app i2⟩
  ·exact ⟨by simp only [List.length_nil]; omega,i2⟩
theorem apL_le {h g:Nat} {m:List (Int × Ch)} (hm:SzM h m):∀ {x:Ch},Bnd (2 ^ g) x→(apL m x).length≤x.length * 10000∧Bnd (2 ^ (g+h)) (apL m x)
 | [],_=>⟨Nat.zero_le _,Bnd.nil _⟩
 | f::x,hx=>by
  obtain ⟨i1,i2⟩:=apL_le hm (x:=x) fun y hy=>hx y (List.mem_cons_of_mem _ hy)
  obtain ⟨j1,j2⟩:=apP_le (f:=f) hm.bl hm.bb (hx f (List.mem_cons_self ..))
  have:=hm.len
  have h2:m.length * 100≤10000:=by omega
  show (apP m f++apL m x).length≤_∧Bnd _ (apP m f++apL m x)
  rw [List.length_append,List.length_cons,Nat.succ_mul]
  exact ⟨by omega,j2.app i2⟩
theorem apL_take {m:List (Int × Ch)} {x:Ch} {i:Nat} (h:i<x.length):apL m (x.take (i+1))=apL m (x.take i)++apP m x[i]:=by
 unfold apL
 rw [List.take_add_one,List.getElem?_eq_getElem h,List.flatMap_append]; simp
theorem apP_take {m:List (Int × Ch)} {f:Int × Int} {j:Nat} (h:j<m.length):apP (m.take (j+1)) f=apP (m.take j) f++if m[j].1=f.1 then mulR f.2 m[j].2 else []:=by
 unfold apP
 rw [List.take_add_one,List.getElem?_eq_getElem h,List.flatMap_append]; simp
theorem ap_part {h g:Nat} {m:List (Int × Ch)} {x:Ch} (hm:SzM h m) (hx:x.length≤100) (hg:Bnd (2 ^ g) x) {i:Nat} (hi:i<x.length) (j:Nat) :
  Val (addR [] (apL m (x.take i)++apP (m.take j) x[i]))∧Bnd (2 ^ (20+(g+h))) (addR [] (apL m (x.take i)++apP (m.take j) x[i]))∧(addR [] (apL m (x.take i)++apP (m.take j) x[i])).length≤1000000:=by
 have i1:=apL_le hm (x:=x.take i) (g:=g) hg.take
 have j1:=apP_le (m:=m.take j) (f:=x[i]) (h:=h) (fun p hp=>hm.bl p (List.mem_of_mem_take hp)) (fun p hp=>hm.bb p (List.mem_of_mem_take hp)) (hg _ (List.getElem_mem hi))
 have hl:(apL m (x.take i)++apP (m.take j) x[i]).length≤1000000:=by
  have hm1:=hm.len
  have h2:(m.take j).length≤m.length:=by rw [List.length_take]; omega
  have h3:(m.take j).length * 100≤10000:=by omega
  have h4:(x.take i).length≤99:=by rw [List.length_take]; omega
  have h5:=Nat.mul_le_mul_right 10000 h4
  rw [List.length_append]; omega
 have hb:=addR_bnd _ [] (Bnd.nil 0) (i1.2.app j1.2)
 have hn:=addR_len [] (apL m (x.take i)++apP (m.take j) x[i])
 simp only [List.length_nil,Nat.zero_add] at hb hn
 exact ⟨(addR_val _ [] Val.nil).1,hb.mono (pw_len (Nat.le_trans hl (by decide))),by omega⟩
set_option maxHeartbeats 2000000 in
set_option maxRecDepth 10000 in
theorem r31Apply {m:List (Int × Ch)} {x:Ch} {h g:Nat} (hm:SzM h m) (hx:x.length≤100) (hg:Bnd (2 ^ g) x) (hgh:g+h+24<4398046511104):Spec Tryz.prog 18 [encMp m,encC x] (encC (apX m x)):=by
 have hml:=hm.len
 refine spec_of (N:=45) follows_mixed Tryz.func18 rfl rfl rfl (by kernel_rfl) (by kernel_rfl) (by simp) ?_
 simp (maxSteps:=1000000) [-map_map,-mapM_map,↓KW,encMp,encC]
 refine loopP_inv (fun i:Nat=>i≤x.length) (fun i=>StL [(0,.d (encMp m)),(1,.d (encC x)),(5,.d (encC (addR [] (apL m (x.take i))))),(6,.d (.i .i64 (i:Int)))] none []) (fun i=>x.length - i) 0 (Nat.zero_le _) ?_ ?_
 ·refine wk_l [] (by simp) ?_ ?_
  ·simp [-map_map,upd,inj1,Γ0,encMp,encC,addR,apL]
   exact sub_frz (by simp [frz_own,upd,chunk_0]) (fun a _ id h=>by simp [blkF] at h)
  ·trivial
 ·intro i hi
  by_cases hgo:i<x.length
  ·have q1:(i:Int)<x.length:=by omega
   have hx1:x[i]? = some x[i]:=List.getElem?_eq_getElem hgo
   have hw:IntKind.i64.wrap ((i:Int)+1)=(i:Int)+1:=wrap_i64 (by omega) (by omega)
   have hxg:=hg _ (List.getElem_mem hgo)
   have hpt:=fun j=>ap_part hm hx hg hgo j
   have htk:addR [] (apL m (x.take (i+1)))=addR [] (apL m (x.take i)++apP m x[i]):=by rw [apL_take hgo]
   have h0:addR [] (apL m (x.take i))=addR [] (apL m (x.take i)++apP (m.take 0) x[i]):=by rw [List.take_zero]; simp [apP]
   refine (show ∃ u,x[i]=u from ⟨_,rfl⟩).elim fun u hue=>?_
   rw [hue] at hx1 hxg htk h0
   simp only [hue] at hpt
   obtain ⟨n,z⟩:=u
   simp only at hxg
   rw [h0]
   refine (show ∃ pre,apL m (x.take i)=pre from ⟨_,rfl⟩).elim fun pre hpe=>?_
   rw [hpe] at htk ⊢
   simp only [hpe] at hpt
   simp (maxSteps:=1000000) [-map_map,-mapM_map,↓KW,encMp,encC,q1,hx1,encF_eq,one_encM,cellsA_encM,inj1_encM]
   refine loopP_inv (fun j:Nat=>j≤m.length) (fun j=>StL [(0,.d (encMp m)),(1,.d (encC x)),(5,.d (encC (addR [] (pre++apP (m.take j) (n,z))))),(6,.d (.i .i64 (i:Int))),(7,.d (.i .i64 (j:Int)))] none []) (fun j=>m.length - j) 0 (Nat.zero_le _) ?_ ?_
   ·refine wk_l [] (by simp) ?_ ?_ <;> simp [-map_map,upd,inj1,Γ0,encMp,encC]
   ·intro j hj
    by_cases hgo2:j<m.length
    ·have q2:(j:Int)<m.length:=by omega
     have hy1:m[j]? = some m[j]:=List.getElem?_eq_getElem hgo2
     have hw2:IntKind.i64.wrap ((j:Int)+1)=(j:Int)+1:=wrap_i64 (by omega) (by omega)
     obtain ⟨ov,ob,ol⟩:=hpt j
     have hmv:=hm.val _ (List.getElem_mem hgo2)
     have hmb:=hm.bb _ (List.getElem_mem hgo2)
     have hml2:=hm.bl _ (List.getElem_mem hgo2)
     have htk2:addR [] (pre++apP (m.take (j+1)) (n,z))=addR (addR [] (pre++apP (m.take j) (n,z))) (if m[j].1=n then mulR z m[j].2 else []):=by
      rw [apP_take hgo2,← List.append_assoc,addR_app]
     refine (show ∃ p,m[j]=p from ⟨_,rfl⟩).elim fun p hpe2=>?_
     rw [hpe2] at hy1 hmv hmb hml2 htk2
     obtain ⟨q,y⟩:=p
     simp only at hmv hmb hml2 htk2
     refine (show ∃ out,addR [] (pre++apP (m.take j) (n,z))=out from ⟨_,rfl⟩).elim fun out hoe=>?_
     rw [hoe] at ob ol ov htk2
     simp only [hoe]
     by_cases h1:q=n
     ·have h1':((q == n):Bool)=true:=by simpa using h1
      have q3:(((n:Int) == (n:Int)):Bool)=true:=by simp
      rw [if_pos h1] at htk2
      have hP:=r25Plus (k:=z) ob hmb hxg (by omega) (by omega) (by omega) (by omega)
      rw [plM_lin ov hmv] at hP
      unfold lin at hP
      rw [← htk2] at hP
      simp (maxSteps:=1000000) [-map_map,-mapM_map,↓KW,encMp,encC,encIm_eq,q2,hx1,hy1,h1,h1',q3,encF_eq,one_encM,cellsA_encM,inj1_encM,one_encC,cellsA_encC,inj1_encC]
      refine callP_intro (ds:=[encC out,encC y,encZ z]) (by rfl) hP ?_
      simp (maxSteps:=1000000) [-map_map,-mapM_map,↓KW,hw2,inj_encC,kills_encC,one_encC,cellsA_encC]
      refine nxt_intro (j+1) hgo2 (Nat.sub_lt_sub_left hgo2 (Nat.lt_succ_self _)) (wk_l [] (by simp) ?_ ?_) <;> simp [-map_map,upd,inj1,Γ0,encMp,encC]
     ·have h1':((q == n):Bool)=false:=by simpa using h1
      rw [if_neg h1] at htk2
      have htk3:addR [] (pre++apP (m.take (j+1)) (n,z))=out:=htk2
      simp (maxSteps:=1000000) [-map_map,-mapM_map,↓KW,encMp,encC,encIm_eq,q2,hx1,hy1,h1,h1',encF_eq,one_encM,cellsA_encM,inj1_encM,one_encC,cellsA_encC,inj1_encC,hw2]
      refine nxt_intro (j+1) hgo2 (Nat.sub_lt_sub_left hgo2 (Nat.lt_succ_self _)) (wk_l [] (by simp) ?_ ?_) <;> simp [-map_map,upd,inj1,Γ0,encMp,encC,htk3]
    ·have q2:¬ (j:Int)<m.length:=by omega
     rw [List.take_of_length_le (by omega),← htk]
     simp (maxSteps:=1000000) [-map_map,-mapM_map,↓KW,encMp,encC,q2,hw]
     refine nxt_intro (i+1) hgo (Nat.sub_lt_sub_left hgo (Nat.lt_succ_self _)) (wk_l [] (by simp) ?_ ?_) <;> simp [-map_map,upd,inj1,Γ0,encMp,encC]
  ·have q1:¬ (i:Int)<x.length:=by omega
   rw [List.take_of_length_le (by omega)]
   simp (maxSteps:=1000000) [-map_map,-mapM_map,↓KW,encMp,encC,q1,apX]
end Go.Am
end

section
set_option linter.unusedVariables false
set_option linter.unusedSimpArgs false
open List (map_map mapM_map)
open Go Go.Am Go.Proofs
namespace Go.Am
structure CmT (a b:List Cl) (m:List (Int × Ch)):Prop where
 len:m.length=a.length
 id:∀ (i:Nat) x p,a[i]? = some x→m[i]? = some p→p.1=x.id
 key:∀ (i:Nat) x p,a[i]? = some x→m[i]? = some p→∀ f∈p.2,∃ y,findX b f.1=some y∧y.dim=x.dim
 bd:∀ (i:Nat) x p,a[i]? = some x→m[i]? = some p→bdX b p.2=apX m x.b
set_option maxHeartbeats 4000000 in
set_option maxRecDepth 10000 in
theorem r31Commutes {a b:List Cl} {m:List (Int × Ch)} {e f h:Nat} (hc:CmT a b m) (ha:SzX e a) (hb:SzX f b) (hbv:∀ y∈b,Val y.b) (hm:SzM h m) (h1:f+h+20<4398046511104) (h2:e+h+24<4398046511104) :
  Spec Tryz.prog 15 [encX a,encX b,encMp m] (.b true):=by
 have hal:=ha.len
 have hbl:=hb.len
 have hml:=hc.len
 refine spec_of (N:=101) follows_mixed Tryz.func15 rfl rfl rfl (by kernel_rfl) (by kernel_rfl) (by simp) ?_
 have h0:((m.length:Int) != a.length)=false:=by simp; omega
 simp (maxSteps:=1000000) [-map_map,-mapM_map,↓KW,encX,encMp,h0]
 refine loopP_inv (fun i:Nat=>i≤a.length) (fun i=>StL [(0,.d (encX a)),(1,.d (encX b)),(2,.d (encMp m)),(7,.d (.i .i64 (i:Int)))] none []) (fun i=>a.length - i) 0 (Nat.zero_le _) ?_ ?_
 ·refine wk_l [] (by simp) ?_ ?_ <;> simp [-map_map,upd,inj1,Γ0,encX,encMp]
 ·intro i hi
  by_cases hgo:i<a.length
  ·have q1:(i:Int)<a.length:=by omega
   have hgm:i<m.length:=by omega
   have hx:a[i]? = some a[i]:=List.getElem?_eq_getElem hgo
   have hp:m[i]? = some m[i]:=List.getElem?_eq_getElem hgm
   have hw:IntKind.i64.wrap ((i:Int)+1)=(i:Int)+1:=wrap_i64 (by omega) (by omega)
   have hid:=hc.id i _ _ hx hp
   have hkey:=hc.key i _ _ hx hp
   have hpv:=hm.val _ (List.getElem_mem hgm)
   have hpb:=hm.bb _ (List.getElem_mem hgm)
   have hpl:=hm.bl _ (List.getElem_mem hgm)
   refine (show ∃ x,a[i]=x from ⟨_,rfl⟩).elim fun x hxe=>?_
   refine (show ∃ p,m[i]=p from ⟨_,rfl⟩).elim fun p hpe=>?_
   rw [hxe] at hx hid hkey
   rw [hpe] at hp hid hkey hpv hpb hpl
   obtain ⟨n,y⟩:=p
   simp only at hid hkey hpv hpb hpl
   have hV:=r25ValidChain y (hpb.sz (by omega)) (by omega)
   rw [val_validR hpv] at hV
   have hyc:encCl x=[D.i .i64 x.id,.i .i64 x.dim,encC x.b]:=rfl
   have q3:((x.id != x.id):Bool)=false:=by simp
   simp (maxSteps:=1000000) [-map_map,-mapM_map,↓KW,encX,encMp,encIm_eq,q1,hx,hp,hyc,hid,q3,one_encC,cellsA_encC,inj1_encC]
   refine callP_intro (ds:=[encC y]) (by rfl) hV ?_
   simp (maxSteps:=1000000) [-map_map,-mapM_map,↓KW,encX,encMp,encC]
   refine loopP_inv (fun j:Nat=>j≤y.length) (fun j=>StL [(0,.d (encX a)),(1,.d (encX b)),(2,.d (encMp m)),(7,.d (.i .i64 (i:Int))),(8,.d (.i .i64 (j:Int)))] none []) (fun j=>y.length - j) 0 (Nat.zero_le _) ?_ ?_
   ·refine wk_l [] (by simp) ?_ ?_ <;> simp [-map_map,upd,inj1,Γ0,encX,encMp]
   ·intro j hj
    by_cases hgo2:j<y.length
    ·have q2:(j:Int)<y.length:=by omega
     have hf:y[j]? = some y[j]:=List.getElem?_eq_getElem hgo2
     have hw2:IntKind.i64.wrap ((j:Int)+1)=(j:Int)+1:=wrap_i64 (by omega) (by omega)
     obtain ⟨z,hz,hzd⟩:=hkey _ (List.getElem_mem hgo2)
     refine (show ∃ u,y[j]=u from ⟨_,rfl⟩).elim fun u hue=>?_
     rw [hue] at hf hz
     obtain ⟨n2,v2⟩:=u
     simp only at hz
     have hF:=r25Find b n2 (by omega)
     unfold fndD at hF
     rw [hz] at hF
     simp only [Option.getD_some,Option.isSome_some] at hF
     have q4:((x.dim != x.dim):Bool)=false:=by simp
     simp (maxSteps:=1000000) [-map_map,-mapM_map,↓KW,encX,encMp,encIm_eq,encC,q2,hp,hx,hf,encF_eq,one_encM,cellsA_encM,inj1_encM]
     refine callP_intro (ds:=[encX b,.i .i64 n2]) (by rfl) hF ?_
     simp (maxSteps:=1000000) [-map_map,-mapM_map,↓KW,encX,encMp,encCl_eq,hyc,hx,hzd,q4,hw2,one_encC,cellsA_encC,inj1_encC]
     refine nxt_intro (j+1) hgo2 (Nat.sub_lt_sub_left hgo2 (Nat.lt_succ_self _)) (wk_l [] (by simp) ?_ ?_) <;> simp [-map_map,upd,inj1,Γ0,encX,encMp]
    ·have q2:¬ (j:Int)<y.length:=by omega
     simp (maxSteps:=1000000) [-map_map,-mapM_map,↓KW,encX,encMp,encIm_eq,encC,q2,hp,hx,hw]
     refine nxt_intro (i+1) hgo (Nat.sub_lt_sub_left hgo (Nat.lt_succ_self _)) (wk_l [] (by simp) ?_ ?_) <;> simp [-map_map,upd,inj1,Γ0,encX,encMp]
  ·have q1:¬ (i:Int)<a.length:=by omega
   simp (maxSteps:=1000000) [-map_map,-mapM_map,↓KW,encX,encMp,q1]
   refine loopP_inv (fun i:Nat=>i≤a.length) (fun i=>StL [(0,.d (encX a)),(1,.d (encX b)),(2,.d (encMp m)),(11,.d (.i .i64 (i:Int)))] none []) (fun i=>a.length - i) 0 (Nat.zero_le _) ?_ ?_
   ·refine wk_l [] (by simp) ?_ ?_ <;> simp [-map_map,upd,inj1,Γ0,encX,encMp]
   ·clear hgo q1 hi i
    intro i hi
    by_cases hgo:i<a.length
    ·have q1:(i:Int)<a.length:=by omega
     have hgm:i<m.length:=by omega
     have hx:a[i]? = some a[i]:=List.getElem?_eq_getElem hgo
     have hp:m[i]? = some m[i]:=List.getElem?_eq_getElem hgm
     have hw:IntKind.i64.wrap ((i:Int)+1)=(i:Int)+1:=wrap_i64 (by omega) (by omega)
     have hbd:=hc.bd i _ _ hx hp
     have hpb:=hm.bb _ (List.getElem_mem hgm)
     have hpl:=hm.bl _ (List.getElem_mem hgm)
     have hxb:=ha.bb _ (List.getElem_mem hgo)
     have hxl:=ha.bl _ (List.getElem_mem hgo)
     refine (show ∃ x,a[i]=x from ⟨_,rfl⟩).elim fun x hxe=>?_
     refine (show ∃ p,m[i]=p from ⟨_,rfl⟩).elim fun p hpe=>?_
     rw [hxe] at hx hbd hxb hxl
     rw [hpe] at hp hbd hpb hpl
     obtain ⟨n,y⟩:=p
     simp only at hbd hpb hpl
     have hA:=r25Around (x:=y) hbv hb hpl hpb h1
     have hP:=r31Apply (x:=x.b) hm hxl hxb h2
     have hB:=bdX_bnd hb hpl hpb
     have hS:=r25SameChain (bdX b y) (apX m x.b) (hB.1.sz (by omega)) (by rw [← hbd]; exact hB.1.sz (by omega)) (by have:=hB.2; omega) (by rw [← hbd]; have:=hB.2; omega)
     rw [decide_eq_true hbd] at hS
     have hyc:encCl x=[D.i .i64 x.id,.i .i64 x.dim,encC x.b]:=rfl
     simp (maxSteps:=1000000) [-map_map,-mapM_map,↓KW,encX,encMp,encIm_eq,q1,hx,hp,hyc,one_encC,cellsA_encC,inj1_encC]
     refine callP_intro (ds:=[encX b,encC y]) (by rfl) hA ?_
     simp (maxSteps:=1000000) [-map_map,-mapM_map,↓KW,encX,encMp,encIm_eq,q1,hx,hp,hyc,one_encC,cellsA_encC,inj1_encC,inj_encC,kills_encC]
     refine callP_intro (ds:=[encMp m,encC x.b]) (by rfl) hP ?_
     simp (maxSteps:=1000000) [-map_map,-mapM_map,↓KW,encX,encMp,encIm_eq,q1,hx,hp,hyc,one_encC,cellsA_encC,inj1_encC,inj_encC,kills_encC]
     refine callP_intro (ds:=[encC (bdX b y),encC (apX m x.b)]) (by rfl) hS ?_
     simp (maxSteps:=1000000) [-map_map,-mapM_map,↓KW,encX,encMp,hw]
     refine nxt_intro (i+1) hgo (Nat.sub_lt_sub_left hgo (Nat.lt_succ_self _)) (wk_l [] (by simp) ?_ ?_) <;> simp [-map_map,upd,inj1,Γ0,encX,encMp]
    ·have q1:¬ (i:Int)<a.length:=by omega
     simp (maxSteps:=1000000) [-map_map,-mapM_map,↓KW,encX,encMp,q1]
set_option maxHeartbeats 4000000 in
set_option maxRecDepth 10000 in
theorem r25Fits {c:List Cl} {x:Cl} {e f:Nat} (hc:SzX e c) (hcv:∀ y∈c,Val y.b) (hxv:Val x.b) (hxl:x.b.length≤100) (hxb:Bnd (2 ^ f) x.b) (hd:0≤x.dim∧x.dim≤3) (hk:∀ g∈x.b,∃ y,findX c g.1=some y∧y.dim=x.dim - 1) (hz:bdX c x.b=[])
  (hef:e+f+20<4398046511104):Spec Tryz.prog 51 [encX c,.ag (encCl x)] (.i .i64 0):=by
 have hcl:=hc.len
 refine spec_of (N:=73) follows_mixed Tryz.func51 rfl rfl rfl (by kernel_rfl) (by kernel_rfl) (by simp) ?_
 have hV:=r25ValidChain x.b (hxb.sz (by omega)) (by omega)
 rw [val_validR hxv] at hV
 have hA:=r25Around hcv hc hxl hxb (by omega)
 rw [hz] at hA
 simp (maxSteps:=1000000) [-map_map,-mapM_map,↓KW,encX,encCl_eq,one_encC,cellsA_encC,inj1_encC]
 refine callP_intro (ds:=[encC x.b]) (by rfl) hV ?_
 simp (maxSteps:=1000000) [-map_map,-mapM_map,↓KW,encX]
 refine loopP_inv (fun j:Nat=>j≤x.b.length) (fun j=>StL [(0,.d (encX c)),(3,.ptr 1 0),(5,.d (.i .i64 (j:Int)))] none [.cells 47 [.d (.i .i64 x.id),.d (.i .i64 x.dim),.d (encC x.b)]]) (fun j=>x.b.length - j) 0 (Nat.zero_le _) ?_ ?_
 ·refine wk_l [1] (by simp) ?_ ?_ <;> simp [-map_map,upd,inj1,Γ0,encX]
 ·intro j hj
  by_cases hgo2:j<x.b.length
  ·have q2:(j:Int)<x.b.length:=by omega
   have hf:x.b[j]? = some x.b[j]:=List.getElem?_eq_getElem hgo2
   have hw2:IntKind.i64.wrap ((j:Int)+1)=(j:Int)+1:=wrap_i64 (by omega) (by omega)
   obtain ⟨z,hzf,hzd⟩:=hk _ (List.getElem_mem hgo2)
   refine (show ∃ u,x.b[j]=u from ⟨_,rfl⟩).elim fun u hue=>?_
   rw [hue] at hf hzf
   obtain ⟨n2,v2⟩:=u
   simp only at hzf
   have hF:=r25Find c n2 (by omega)
   unfold fndD at hF
   rw [hzf] at hF
   simp only [Option.getD_some,Option.isSome_some] at hF
   simp (maxSteps:=1000000) [-map_map,-mapM_map,↓KW,encX,encC,q2,hf,encF_eq,one_encM,cellsA_encM,inj1_encM]
   refine callP_intro (ds:=[encX c,.i .i64 n2]) (by rfl) hF ?_
   simp (maxSteps:=1000000) [-map_map,-mapM_map,↓KW,encX,encCl_eq,hw2,one_encC,cellsA_encC,inj1_encC]
   refine nxt_intro (j+1) hgo2 (Nat.sub_lt_sub_left hgo2 (Nat.lt_succ_self _)) (wk_l [1] (by simp) ?_ ?_) <;> simp [-map_map,upd,inj1,Γ0,encX,encC]
  ·have q2:¬ (j:Int)<x.b.length:=by omega
   have d1:¬ x.dim<0:=by omega
   have d2:¬ 3<x.dim:=by omega
   simp (maxSteps:=1000000) [-map_map,-mapM_map,↓KW,encX,encC,q2,d1,d2]
   refine loopP_inv (fun j:Nat=>j≤x.b.length) (fun j=>StL [(0,.d (encX c)),(3,.ptr 1 0),(8,.d (.i .i64 (j:Int)))] none [.cells 47 [.d (.i .i64 x.id),.d (.i .i64 x.dim),.d (encC x.b)]]) (fun j=>x.b.length - j) 0 (Nat.zero_le _) ?_ ?_
   ·refine wk_l [1] (by simp) ?_ ?_ <;> simp [-map_map,upd,inj1,Γ0,encX,encC]
   ·clear hgo2 q2 hj j
    intro j hj
    by_cases hgo2:j<x.b.length
    ·have q2:(j:Int)<x.b.length:=by omega
     have hf:x.b[j]? = some x.b[j]:=List.getElem?_eq_getElem hgo2
     have hw2:IntKind.i64.wrap ((j:Int)+1)=(j:Int)+1:=wrap_i64 (by omega) (by omega)
     have hw3:IntKind.i64.wrap (x.dim - 1)=x.dim - 1:=wrap_i64 (by omega) (by omega)
     obtain ⟨z,hzf,hzd⟩:=hk _ (List.getElem_mem hgo2)
     refine (show ∃ u,x.b[j]=u from ⟨_,rfl⟩).elim fun u hue=>?_
     rw [hue] at hf hzf
     obtain ⟨n2,v2⟩:=u
     simp only at hzf
     have hF:=r25Find c n2 (by omega)
     unfold fndD at hF
     rw [hzf] at hF
     simp only [Option.getD_some,Option.isSome_some] at hF
     have q4:((x.dim - 1 != x.dim - 1):Bool)=false:=by simp
     simp (maxSteps:=1000000) [-map_map,-mapM_map,↓KW,encX,encC,q2,hf,encF_eq,one_encM,cellsA_encM,inj1_encM]
     refine callP_intro (ds:=[encX c,.i .i64 n2]) (by rfl) hF ?_
     simp (maxSteps:=1000000) [-map_map,-mapM_map,↓KW,encX,encC,encCl_eq,hw2,hw3,hzd,q4,one_encC,cellsA_encC,inj1_encC]
     refine nxt_intro (j+1) hgo2 (Nat.sub_lt_sub_left hgo2 (Nat.lt_succ_self _)) (wk_l [1] (by simp) ?_ ?_) <;> simp [-map_map,upd,inj1,Γ0,encX,encC]
    ·have q2:¬ (j:Int)<x.b.length:=by omega
     simp (maxSteps:=1000000) [-map_map,-mapM_map,↓KW,encX,encC,q2]
     refine callP_intro (ds:=[encX c,encC x.b]) (by rfl) hA ?_
     simp (maxSteps:=1000000) [-map_map,-mapM_map,↓KW,encX,encC]
theorem CxV.bd0 {c:List Cl} (h:CxV c) {x:Cl} (hx:x∈c):bdX c x.b=[]:=by
 obtain ⟨h1,h2⟩:=bdX_val c x.b
 refine h1.ext Val.nil fun n=>?_
 rw [h2,getM_nil]
 exact h.cyc x hx n
set_option maxHeartbeats 4000000 in
set_option maxRecDepth 10000 in
theorem r25Valid {c:List Cl} {e:Nat} (h:CxV c) (hc:SzX e c) (he:e+e+20<4398046511104):Spec Tryz.prog 14 [encX c] (.b true):=by
 have hcl:=hc.len
 refine spec_of (N:=52) follows_mixed Tryz.func14 rfl rfl rfl (by kernel_rfl) (by kernel_rfl) (by simp) ?_
 have q0:¬ (400:Int)<c.length:=by omega
 simp (maxSteps:=1000000) [-map_map,-mapM_map,↓KW,encX,q0]
 refine loopP_inv (fun i:Nat=>i≤c.length) (fun i=>StL [(0,.d (encX c)),(3,.d (.i .i64 (i:Int)))] none []) (fun i=>c.length - i) 0 (Nat.zero_le _) ?_ ?_
 ·refine wk_l [] (by simp) ?_ ?_ <;> simp [-map_map,upd,inj1,Γ0,encX]
 ·intro i hi
  by_cases hgo:i<c.length
  ·have q1:(i:Int)<c.length:=by omega
   have hx:c[i]? = some c[i]:=List.getElem?_eq_getElem hgo
   have hw:IntKind.i64.wrap ((i:Int)+1)=(i:Int)+1:=wrap_i64 (by omega) (by omega)
   have hxv:=h.val _ (List.getElem_mem hgo)
   have hxb:=hc.bb _ (List.getElem_mem hgo)
   have hxl:=hc.bl _ (List.getElem_mem hgo)
   have hprev:∀ (j:Nat) (hj:j<c.length),j<i→c[j].id<c[i].id:=fun j hj hji=>(List.pairwise_iff_getElem.1 h.inc) j i hj hgo hji
   refine (show ∃ x,c[i]=x from ⟨_,rfl⟩).elim fun x hxe=>?_
   rw [hxe] at hx hxv hxb hxl
   simp only [hxe] at hprev
   have hV:=r25ValidChain x.b (hxb.sz (by omega)) (by omega)
   rw [val_validR hxv] at hV
   have hyc:encCl x=[D.i .i64 x.id,.i .i64 x.dim,encC x.b]:=rfl
   rcases i with _ | i
   ·have hw0:IntKind.i64.wrap 1=1:=wrap_i64 (by omega) (by omega)
    have hxe':∀ h:0<c.length,c[0]'h=x:=fun _=>hxe
    simp (maxSteps:=1000000) [-map_map,-mapM_map,↓KW,encX,hgo,hx,hxe',hyc,one_encC,cellsA_encC,inj1_encC]
    refine callP_intro (ds:=[encC x.b]) (by rfl) hV ?_
    simp (maxSteps:=1000000) [-map_map,-mapM_map,↓KW,encX,hw0]
    refine nxt_intro (0+1) hgo (Nat.sub_lt_sub_left hgo (Nat.lt_succ_self _)) (wk_l [] (by simp) ?_ ?_) <;> simp [-map_map,upd,inj1,Γ0,encX]
   ·have hgp:i<c.length:=by omega
    have hp:c[i]? = some c[i]:=List.getElem?_eq_getElem hgp
    have hlt:=hprev i hgp (by omega)
    have q3:(0:Int)<((i+1:Nat):Int):=by omega
    have hw2:IntKind.i64.wrap (((i+1:Nat):Int) - 1)=(i:Int):=by rw [wrap_i64 (by omega) (by omega)]; omega
    refine (show ∃ y,c[i]=y from ⟨_,rfl⟩).elim fun y hye=>?_
    rw [hye] at hp hlt
    have hyc2:encCl y=[D.i .i64 y.id,.i .i64 y.dim,encC y.b]:=rfl
    have q4:¬ x.id≤y.id:=by omega
    have q5:(0:Int)≤(i:Int):=by omega
    have hw':IntKind.i64.wrap (((i+1:Nat):Int)+1)=((i+1+1:Nat):Int):=by rw [wrap_i64 (by omega) (by omega)]; omega
    obtain ⟨I,hI⟩:∃ I:Int,((i+1:Nat):Int)=I:=⟨_,rfl⟩
    have hIt:I.toNat=i+1:=by omega
    have q6:0≤I:=by omega
    rw [hI] at q1 q3 hw2 hw'
    simp only [hI]
    simp (maxSteps:=1000000) [-map_map,-mapM_map,↓KW,encX,q1,q3,hIt,q6,hw2,q5,hx,hp,hyc,hyc2,q4,one_encC,cellsA_encC,inj1_encC]
    refine callP_intro (ds:=[encC x.b]) (by rfl) hV ?_
    simp (maxSteps:=1000000) [-map_map,-mapM_map,↓KW,encX,hw']
    refine nxt_intro (i+1+1) hgo (Nat.sub_lt_sub_left hgo (Nat.lt_succ_self _)) (wk_l [] (by simp) ?_ ?_) <;> simp [-map_map,upd,inj1,Γ0,encX]
  ·have q1:¬ (i:Int)<c.length:=by omega
   simp (maxSteps:=1000000) [-map_map,-mapM_map,↓KW,encX,q1]
   refine loopP_inv (fun i:Nat=>i≤c.length) (fun i=>StL [(0,.d (encX c)),(4,.d (.i .i64 (i:Int)))] none []) (fun i=>c.length - i) 0 (Nat.zero_le _) ?_ ?_
   ·refine wk_l [] (by simp) ?_ ?_ <;> simp [-map_map,upd,inj1,Γ0,encX]
   ·clear hgo q1 hi i
    intro i hi
    by_cases hgo:i<c.length
    ·have q1:(i:Int)<c.length:=by omega
     have hx:c[i]? = some c[i]:=List.getElem?_eq_getElem hgo
     have hw:IntKind.i64.wrap ((i:Int)+1)=(i:Int)+1:=wrap_i64 (by omega) (by omega)
     have hF:=r25Fits (x:=c[i]) hc h.val (h.val _ (List.getElem_mem hgo)) (hc.bl _ (List.getElem_mem hgo)) (hc.bb _ (List.getElem_mem hgo)) (h.dim _ (List.getElem_mem hgo)) (fun g hg=>by
      obtain ⟨y,hy,e1,e2⟩:=h.face _ (List.getElem_mem hgo) g hg
      exact ⟨y,by rw [← e1]; exact h.inc.find hy,e2⟩) (h.bd0 (List.getElem_mem hgo)) he
     refine (show ∃ x,c[i]=x from ⟨_,rfl⟩).elim fun x hxe=>?_
     rw [hxe] at hx hF
     have hyc:encCl x=[D.i .i64 x.id,.i .i64 x.dim,encC x.b]:=rfl
     simp (maxSteps:=1000000) [-map_map,-mapM_map,↓KW,encX,q1,hx,hyc,one_encC,cellsA_encC,inj1_encC]
     refine callP_intro (ds:=[encX c,.ag (encCl x)]) (by rfl) hF ?_
     simp (maxSteps:=1000000) [-map_map,-mapM_map,↓KW,encX,hw]
     refine nxt_intro (i+1) hgo (Nat.sub_lt_sub_left hgo (Nat.lt_succ_self _)) (wk_l [] (by simp) ?_ ?_) <;> simp [-map_map,upd,inj1,Γ0,encX]
    ·have q1:¬ (i:Int)<c.length:=by omega
     simp (maxSteps:=1000000) [-map_map,-mapM_map,↓KW,encX,q1]
end Go.Am
end

section
set_option linter.unusedVariables false
set_option linter.unusedSimpArgs false
open List (map_map mapM_map)
open Go Go.Am Go.Proofs
namespace Go.Am
theorem makeS {l:Ch} {e:Nat} (hb:Bnd (2 ^ e) l) (hk:Keys l) (hl:l.length≤16384) (he:e+14<4398046511104):Spec Tryz.prog 46 [encC l] (encC (addR [] l)):=by
 have:=chainsMake l (2 ^ e) (digE (e:=14+e) (pw_len (Nat.le_trans hl (by decide))) (by omega)) hb hk (by omega)
 rwa [make_eq] at this
theorem rec43:RecSpec Tryz.prog 43:=by
 refine ⟨fun w=>enters_of Tryz.func43 (by kernel_rfl) rfl _ w,fun w=>?_⟩
 refine callsD_of_wpS Tryz.func43 rfl fun c₀ cs hu=>?_
 apply wpS_region
 simp [wpOpsS,go_sem,recoverD,hu,Tryz.ntmps43,bodyPostS,results,Tryz.results43]
 cases c₀; simp only at hu; subst hu; rfl
def gr2 (t1 t2:Nat) (sl:List (Nat × AV)) (zb:HO) (e1:TypeId) (s1 n1:Nat) (c1:List D) (e2:TypeId) (s2 n2:Nat) (c2:List D):St:=match n1,n2 with
 | 0,0=>StL ((t1,.nil)::(t2,.nil)::sl) none [zb]
 | 0,n+1=>StL ((t1,.nil)::(t2,.own 2 0 (n+1) s2)::sl) none [zb,.cells e2 (c2.map .d)]
 | m+1,0=>StL ((t1,.own 2 0 (m+1) s1)::(t2,.nil)::sl) none [zb,.cells e1 (c1.map .d)]
 | m+1,n+1=>StL ((t1,.own 2 0 (m+1) s1)::(t2,.own 3 0 (n+1) s2)::sl) none [zb,.cells e1 (c1.map .d),.cells e2 (c2.map .d)]
theorem encF_len (x:Int × Int):(encF x).length=3:=rfl
theorem encF_one (x:Int × Int):((encF x).map AV.d).all one=true:=rfl
theorem encCl_len (x:Cl):(encCl x).length=3:=rfl
theorem encCl_one (x:Cl):((encCl x).map AV.d).all one=true:=rfl
def renF (a b:Int) (f:Int × Int):Int × Int:=if f.1=b then (a,f.2) else f
def idnCl (a b:Int) (z:Cl):Cl:=⟨z.id,z.dim,addR [] (z.b.map (renF a b))⟩
def idnC (c:List Cl) (a b:Int):List Cl:=(c.filter fun z=>!decide (z.id=b)).map (idnCl a b)
def idnX (c:List Cl) (a b:Int):List Cl × List (Int × Ch) × Int :=
 if (findX c a).isSome=false∨(findX c b).isSome=false then ([],[],250) else if dOf c a≠dOf c b then ([],[],260) else if a=b∨bOf c a≠bOf c b then ([],[],310) else (idnC c a b,mapX c [(b,[(a,1)])],0)
def encR3 (r:List Cl × List (Int × Ch) × Int):D:=.tp [encX r.1,encMp r.2.1,.i .i64 r.2.2]
theorem renF_bnd {a b:Int} {M:Nat} {l:Ch} (h:Bnd M l):Bnd M (l.map (renF a b)):=fun x hx=>by
 obtain ⟨y,hy,rfl⟩:=List.mem_map.1 hx
 unfold renF; split <;> exact h y hy
theorem renF_keys {a b:Int} {l:Ch} (h:Keys l) (ha:inr a=true):Keys (l.map (renF a b)):=fun x hx=>by
 obtain ⟨y,hy,rfl⟩:=List.mem_map.1 hx
 unfold renF; split
 ·exact ha
 ·exact h y hy
theorem vis_mpA (H : Nat → Option HO) (n id : Nat) : vis H (n + 1) (.mp id) = match H id with
      | some (.map _ es)=>id::(es.map (·.2)).flatMap (vis H n)
      | _=>[]:=rfl
theorem inj_encMp (m:List (Int × Ch)):inj (encMp m)=.d (encMp m):=rfl
theorem kills_encMp (H:Nat→Option HO) (avs:List AV) (m:List (Int × Ch)):killsOf H avs (encMp m)=viss H avs:=rfl
theorem mput_nil (n:Int) (v:AV):mput [] n v=[(n,v)]:=rfl
theorem idnC_take {c:List Cl} {i:Nat} (h:i<c.length) (a b:Int):idnC (c.take (i+1)) a b=idnC (c.take i) a b++if c[i].id=b then [] else [idnCl a b c[i]]:=by
 unfold idnC
 rw [List.take_add_one,List.getElem?_eq_getElem h,List.filter_append,List.map_append]
 congr 1
 by_cases e:c[i].id=b <;> simp [e]
theorem idnC_len (c:List Cl) (a b:Int):(idnC c a b).length≤c.length:=by
 unfold idnC; rw [List.length_map]; exact List.length_filter_le _ _
set_option maxHeartbeats 4000000 in
set_option maxRecDepth 10000 in
theorem mgIdentify {c:List Cl} {e:Nat} (a b:Int) (hc:Inc c) (hz:SzX e c) (hk:∀ x∈c,Keys x.b) (ha:inr a=true) (he:e+14<4398046511104):Spec Tryz.prog 12 [encX c,.i .i64 a,.i .i64 b] (encR3 (idnX c a b)):=by
 have hlen:=hz.len
 have hFa:=cxFind hc a (by omega)
 have hFb:=cxFind hc b (by omega)
 have hr:∃ p x q y,(findX c a).isSome=p∧(findX c a).getD noCl=x∧(findX c b).isSome=q∧(findX c b).getD noCl=y:=⟨_,_,_,_,rfl,rfl,rfl,rfl⟩
 obtain ⟨p,x,q,y,hp,hx,hq,hy⟩:=hr
 have hda:dOf c a=x.dim:=by unfold dOf; rw [hx]
 have hdb:dOf c b=y.dim:=by unfold dOf; rw [hy]
 have hba:bOf c a=x.b:=by unfold bOf; rw [hx]
 have hbb:bOf c b=y.b:=by unfold bOf; rw [hy]
 have hxl:x.b.length≤100:=by rw [← hba]; exact bOf_len hz.bl a
 have hxs:∀ f∈x.b,Sz f.2:=by rw [← hba]; exact (bOf_bnd hz.bb a).sz (by omega)
 have hys:∀ f∈y.b,Sz f.2:=by rw [← hbb]; exact (bOf_bnd hz.bb b).sz (by omega)
 have hE:=mgEqual hxs hys (by omega)
 unfold fndD at hFa hFb
 rw [hp,hx] at hFa
 rw [hq,hy] at hFb
 unfold idnX
 rw [hp,hq,hda,hdb,hba,hbb]
 refine spec_of_d (N:=100) follows_mixed Tryz.func12 rfl rfl rfl (by kernel_rfl) (by kernel_rfl) (by kernel_rfl) (by kernel_rfl) rfl rec43 (by simp) ?_
 simp (maxSteps:=1000000) [-map_map,-mapM_map,↓KW,encX]
 refine callP_intro (ds:=[encX c,.i .i64 a]) (by rfl) hFa ?_
 simp (maxSteps:=1000000) [-map_map,-mapM_map,↓KW,encX,encCl_eq,one_encC,cellsA_encC,inj1_encC]
 refine callP_intro (ds:=[encX c,.i .i64 b]) (by rfl) hFb ?_
 cases p with
 | false=>simp (maxSteps:=1000000) [-map_map,-mapM_map,↓KW,encX,encCl_eq,one_encC,cellsA_encC,inj1_encC,resD_3,encR3,encMp]
 | true =>
  cases q with
  | false=>simp (maxSteps:=1000000) [-map_map,-mapM_map,↓KW,encX,encCl_eq,one_encC,cellsA_encC,inj1_encC,resD_3,encR3,encMp]
  | true =>
   by_cases h1:x.dim=y.dim
   rotate_left
   ·have h1':((x.dim != y.dim):Bool)=true:=by simpa using h1
    simp (maxSteps:=1000000) [-map_map,-mapM_map,↓KW,encX,encCl_eq,one_encC,cellsA_encC,inj1_encC,resD_3,encR3,encMp,h1',h1]
   ·have h1':((x.dim != y.dim):Bool)=false:=by simpa using h1
    by_cases h2:a=b
    ·have h2':((a == b):Bool)=true:=by simpa using h2
     simp (maxSteps:=1000000) [-map_map,-mapM_map,↓KW,encX,encCl_eq,one_encC,cellsA_encC,inj1_encC,resD_3,encR3,encMp,h1',h1,h2',h2]
    ·have h2':((a == b):Bool)=false:=by simpa using h2
     simp (maxSteps:=1000000) [-map_map,-mapM_map,↓KW,encX,encCl_eq,one_encC,cellsA_encC,inj1_encC,resD_3,encR3,encMp,h1',h1,h2',h2]
     refine callP_intro (ds:=[encC x.b,encC y.b]) (by rfl) hE ?_
     by_cases h3:x.b=y.b
     rotate_left
     ·rw [decide_eq_false h3]
      simp (maxSteps:=1000000) [-map_map,-mapM_map,↓KW,encX,encCl_eq,one_encC,cellsA_encC,inj1_encC,resD_3,encR3,encMp,h1',h1,h2',h2,h3]
     ·rw [decide_eq_true h3]
      simp (maxSteps:=1000000) [-map_map,-mapM_map,↓KW,encX,encCl_eq,one_encC,cellsA_encC,inj1_encC,resD_3,encR3,encMp,h1',h1,h2',h2,h3]
      clear hFa hFb hE hp hq hx hy hda hdb hba hbb hxl hxs hys h1' h2'
      refine loopP_inv (fun y:Nat × List Cl=>y.1≤c.length∧idnC (c.take y.1) a b=y.2) (fun y=>grS 13 [(0,.d (encX c)),(1,.d (.i .i64 a)),(2,.d (.i .i64 b)),(53,.d (encX c)),(54,.d (.i .i64 c.length)),(55,.d (.i .i64 (y.1:Int)))] 47 3 y.2.length (flt encCl y.2)) (fun y=>c.length - y.1) (0,[]) ⟨Nat.zero_le _,rfl⟩ ?_ ?_
      ·simp only [List.length_nil,grS]
       refine wk_l [] (by simp) ?_ ?_ <;> simp [-map_map,upd,inj1,Γ0,encX,blksOk]
      ·rintro ⟨i,out⟩ ⟨hi,ho⟩
       simp only at hi ho ⊢
       by_cases hgo:i<c.length
       ·have q1:(i:Int)<c.length:=by omega
        have hx:c[i]? = some c[i]:=List.getElem?_eq_getElem hgo
        have hw:IntKind.i64.wrap ((i:Int)+1)=(i:Int)+1:=wrap_i64 (by omega) (by omega)
        have htk:=idnC_take hgo a b
        rw [ho] at htk
        have hln:out.length≤i:=by rw [← ho]; exact Nat.le_trans (idnC_len _ _ _) (by simp; omega)
        have hzl:=hz.bl _ (List.getElem_mem hgo)
        have hzb:=hz.bb _ (List.getElem_mem hgo)
        have hzk:=hk _ (List.getElem_mem hgo)
        refine (show ∃ z,c[i]=z from ⟨_,rfl⟩).elim fun z hze=>?_
        rw [hze] at hx htk hzl hzb hzk
        have hyc:encCl z=[D.i .i64 z.id,.i .i64 z.dim,encC z.b]:=rfl
        by_cases h0:z.id=b
        ·have h0':((z.id == b):Bool)=true:=by simpa using h0
         rw [if_pos h0,List.append_nil] at htk
         have q3:(((b:Int) == (b:Int)):Bool)=true:=by simp
         rcases hn:out.length with _ | m
         ·simp only [hn,grS]
          simp (maxSteps:=1000000) [-map_map,-mapM_map,↓KW,encX,q1,hx,hyc,h0,h0',q3,hw,one_encC,cellsA_encC,inj1_encC]
          refine nxt_intro (i+1,out) ⟨hgo,htk⟩ (Nat.sub_lt_sub_left hgo (Nat.lt_succ_self _)) ?_
          simp only [hn,grS]
          refine wk_l [] (by simp) ?_ ?_ <;> simp [-map_map,upd,inj1,Γ0,encX,blksOk]
         ·simp only [hn,grS]
          simp (maxSteps:=1000000) [-map_map,-mapM_map,↓KW,encX,q1,hx,hyc,h0,h0',q3,hw,one_encC,cellsA_encC,inj1_encC]
          refine nxt_intro (i+1,out) ⟨hgo,htk⟩ (Nat.sub_lt_sub_left hgo (Nat.lt_succ_self _)) ?_
          simp only [hn,grS]
          refine wk_l [1] (by simp) ?_ ?_ <;> simp [-map_map,upd,inj1,Γ0,encX,blksOk]
        ·have h0':((z.id == b):Bool)=false:=by simpa using h0
         rw [if_neg h0] at htk
         rcases hn:out.length with _ | m
         ·simp only [hn,grS]
          simp (maxSteps:=1000000) [-map_map,-mapM_map,↓KW,encX,encC,q1,hx,hyc,h0,h0',hw,one_encC,cellsA_encC,inj1_encC]
          refine loopP_inv (fun y:Nat × Ch=>y.1≤z.b.length∧y.2.length=y.1∧(z.b.take y.1).map (renF a b)=y.2) (fun y=>gr2 13 16 [(0,.d (encX c)),(1,.d (.i .i64 a)),(2,.d (.i .i64 b)),(15,.ptr 1 0),(53,.d (encX c)),(54,.d (.i .i64 c.length)),(55,.d (.i .i64 (i:Int))),(64,.d (encC z.b)),(65,.d (.i .i64 z.b.length)),(66,.d (.i .i64 (y.1:Int)))] (.cells 47 [.d (.i .i64 z.id),.d (.i .i64 z.dim),.d (encC z.b)]) 47 3 out.length (flt encCl out) 89 3 y.2.length (flt encF y.2)) (fun y=>z.b.length - y.1) (0,[]) ⟨Nat.zero_le _,rfl,rfl⟩ ?_ ?_
          ·simp only [List.length_nil,hn,gr2]
           refine wk_l [1] (by simp) ?_ ?_ <;> simp [-map_map,upd,inj1,Γ0,encX,encC,blksOk]
          ·rintro ⟨j,l⟩ ⟨hj,hlj,hl⟩
           simp only at hj hlj hl ⊢
           by_cases hgo2:j<z.b.length
           ·have q2:(j:Int)<z.b.length:=by omega
            have hf:z.b[j]? = some z.b[j]:=List.getElem?_eq_getElem hgo2
            have hw2:IntKind.i64.wrap ((j:Int)+1)=(j:Int)+1:=wrap_i64 (by omega) (by omega)
            have htk2:(z.b.take (j+1)).map (renF a b)=l++[renF a b z.b[j]]:=by rw [List.take_add_one,hf,List.map_append,hl]; rfl
            refine (show ∃ f,z.b[j]=f from ⟨_,rfl⟩).elim fun f hfe=>?_
            rw [hfe] at hf htk2
            have hef:encF f=[.i .i64 f.1,.b (decide (f.2<0)),encM (digs f.2.natAbs)]:=rfl
            have hm1:(1:Nat)≤maxLen:=le_maxLen (by decide)
            have hll:(l++[renF a b f]).length=j+1:=by rw [List.length_append,hlj]; rfl
            by_cases h5:f.1=b
            ·have h5':((f.1 == b):Bool)=true:=by simpa using h5
             have q3:(((b:Int) == (b:Int)):Bool)=true:=by simp
             have hrf:renF a b f=(a,f.2):=by unfold renF; rw [if_pos h5]
             rcases hn2:l.length with _ | k
             ·have e0:l=[]:=List.eq_nil_of_length_eq_zero hn2
              simp only [hn,gr2]
              simp (maxSteps:=1000000) [-map_map,-mapM_map,↓KW,encX,encC,q2,hf,hef,h5,h5',q3,hw2,hm1,one_encC,cellsA_encC,inj1_encC,one_encM,cellsA_encM,inj1_encM]
              obtain rfl:j=0:=by omega
              refine nxt_intro (τ:=Nat × Ch) (0+1,l++[renF a b f]) ⟨hgo2,hll,htk2⟩ (Nat.sub_lt_sub_left hgo2 (Nat.lt_succ_self _)) ?_
              simp only [hll,hn,gr2]
              refine wk_l [1,4] (by simp) ?_ ?_ <;> simp [-map_map,upd,inj1,Γ0,encX,encC,e0,flt_one,encF_eq,hrf]
             ·have hbb:=app_bounds (n:=k+1) (by omega)
              have hcl:=flt_len encF_len l
              rw [hn2] at hcl
              have hal:=flt_all encF_one l
              simp only [hn,gr2]
              simp (maxSteps:=1000000) [-map_map,-mapM_map,↓KW,encX,encC,q2,hf,hef,h5,h5',q3,hw2,hm1,hbb,hcl,hal,le_maxLen,one_encC,cellsA_encC,inj1_encC,one_encM,cellsA_encM,inj1_encM]
              obtain rfl:j=k+1:=by omega
              refine nxt_intro (τ:=Nat × Ch) (k+1+1,l++[renF a b f]) ⟨hgo2,hll,htk2⟩ (Nat.sub_lt_sub_left hgo2 (Nat.lt_succ_self _)) ?_
              simp only [hll,hn,gr2]
              refine wk_l [1,5] (by simp) ?_ ?_ <;> simp [-map_map,upd,inj1,Γ0,encX,encC,flt_app,flt_one,encF_eq,hrf]
            ·have h5':((f.1 == b):Bool)=false:=by simpa using h5
             have hrf:renF a b f=f:=by unfold renF; rw [if_neg h5]
             rcases hn2:l.length with _ | k
             ·have e0:l=[]:=List.eq_nil_of_length_eq_zero hn2
              simp only [hn,gr2]
              simp (maxSteps:=1000000) [-map_map,-mapM_map,↓KW,encX,encC,q2,hf,hef,h5,h5',hw2,hm1,one_encC,cellsA_encC,inj1_encC,one_encM,cellsA_encM,inj1_encM]
              obtain rfl:j=0:=by omega
              refine nxt_intro (τ:=Nat × Ch) (0+1,l++[renF a b f]) ⟨hgo2,hll,htk2⟩ (Nat.sub_lt_sub_left hgo2 (Nat.lt_succ_self _)) ?_
              simp only [hll,hn,gr2]
              refine wk_l [1,4] (by simp) ?_ ?_ <;> simp [-map_map,upd,inj1,Γ0,encX,encC,e0,flt_one,encF_eq,hrf]
             ·have hbb:=app_bounds (n:=k+1) (by omega)
              have hcl:=flt_len encF_len l
              rw [hn2] at hcl
              have hal:=flt_all encF_one l
              simp only [hn,gr2]
              simp (maxSteps:=1000000) [-map_map,-mapM_map,↓KW,encX,encC,q2,hf,hef,h5,h5',hw2,hm1,hbb,hcl,hal,le_maxLen,one_encC,cellsA_encC,inj1_encC,one_encM,cellsA_encM,inj1_encM]
              obtain rfl:j=k+1:=by omega
              refine nxt_intro (τ:=Nat × Ch) (k+1+1,l++[renF a b f]) ⟨hgo2,hll,htk2⟩ (Nat.sub_lt_sub_left hgo2 (Nat.lt_succ_self _)) ?_
              simp only [hll,hn,gr2]
              refine wk_l [1,5] (by simp) ?_ ?_ <;> simp [-map_map,upd,inj1,Γ0,encX,encC,flt_app,flt_one,encF_eq,hrf]
           ·have q2:¬ (j:Int)<z.b.length:=by omega
            rw [List.take_of_length_le (by omega)] at hl
            have hM:=makeS (l:=l) (e:=e) (by rw [← hl]; exact renF_bnd hzb) (by rw [← hl]; exact renF_keys hzk ha) (by omega) he
            have htk':idnC (c.take (i+1)) a b=out++[⟨z.id,z.dim,addR [] l⟩]:=by rw [htk]; unfold idnCl; rw [hl]
            have hcl1:=flt_len encCl_len out
            have hal1:=flt_all encCl_one out
            rw [hn] at hcl1
            refine (show ∃ r,addR [] l=r from ⟨_,rfl⟩).elim fun r hr=>?_
            rw [hr] at hM htk'
            have hm1:(1:Nat)≤maxLen:=le_maxLen (by decide)
            rcases hn2:l.length with _ | k
            ·have e0:l=[]:=List.eq_nil_of_length_eq_zero hn2
             rw [e0] at hM
             simp only [hn,gr2]
             simp (maxSteps:=1000000) [-map_map,-mapM_map,↓KW,encX,encC,q2,one_encC,cellsA_encC,inj1_encC]
             refine callP_intro (ds:=[encC []]) (by rfl) hM ?_
             have eo:out=[]:=List.eq_nil_of_length_eq_zero hn
             rw [eo] at htk'
             simp (maxSteps:=1000000) [-map_map,-mapM_map,↓KW,encX,encC,hm1,hm1,hw,inj_encC,kills_encC,one_encC,cellsA_encC,inj1_encC]
             refine nxt_intro (i+1,[⟨z.id,z.dim,r⟩]) ⟨hgo,htk'⟩ (Nat.sub_lt_sub_left hgo (Nat.lt_succ_self _)) ?_
             simp only [List.length_singleton,grS,flt_one,encCl_eq]
             refine wk_l [3] (by simp) ?_ ?_ <;> simp [-map_map,upd,inj1,Γ0,encX,encC]
            ·have e1:=flt_take encF_len hn2
             have e2:=flt_chunk (by decide) encF_len hn2
             have e3:=flt_len encF_len l
             rw [hn2] at e3
             simp only [hn,gr2]
             simp (maxSteps:=1000000) [-map_map,-mapM_map,↓KW,encX,encC,q2,one_encC,cellsA_encC,inj1_encC]
             refine callP_intro (ds:=[encC l]) (by simp [-map_map,-mapM_map,encC,upd,e1,e2,e3]) hM ?_
             have eo:out=[]:=List.eq_nil_of_length_eq_zero hn
             rw [eo] at htk'
             simp (maxSteps:=1000000) [-map_map,-mapM_map,↓KW,encX,encC,e1,hm1,hw,inj_encC,kills_encC,one_encC,cellsA_encC,inj1_encC]
             refine nxt_intro (i+1,[⟨z.id,z.dim,r⟩]) ⟨hgo,htk'⟩ (Nat.sub_lt_sub_left hgo (Nat.lt_succ_self _)) ?_
             simp only [List.length_singleton,grS,flt_one,encCl_eq]
             refine wk_l [4] (by simp) ?_ ?_ <;> simp [-map_map,upd,inj1,Γ0,encX,encC]
         ·simp only [hn,grS]
          simp (maxSteps:=1000000) [-map_map,-mapM_map,↓KW,encX,encC,q1,hx,hyc,h0,h0',hw,one_encC,cellsA_encC,inj1_encC]
          refine loopP_inv (fun y:Nat × Ch=>y.1≤z.b.length∧y.2.length=y.1∧(z.b.take y.1).map (renF a b)=y.2) (fun y=>gr2 13 16 [(0,.d (encX c)),(1,.d (.i .i64 a)),(2,.d (.i .i64 b)),(15,.ptr 1 0),(53,.d (encX c)),(54,.d (.i .i64 c.length)),(55,.d (.i .i64 (i:Int))),(64,.d (encC z.b)),(65,.d (.i .i64 z.b.length)),(66,.d (.i .i64 (y.1:Int)))] (.cells 47 [.d (.i .i64 z.id),.d (.i .i64 z.dim),.d (encC z.b)]) 47 3 out.length (flt encCl out) 89 3 y.2.length (flt encF y.2)) (fun y=>z.b.length - y.1) (0,[]) ⟨Nat.zero_le _,rfl,rfl⟩ ?_ ?_
          ·simp only [List.length_nil,hn,gr2]
           refine wk_l [2,1] (by simp) ?_ ?_ <;> simp [-map_map,upd,inj1,Γ0,encX,encC,blksOk]
          ·rintro ⟨j,l⟩ ⟨hj,hlj,hl⟩
           simp only at hj hlj hl ⊢
           by_cases hgo2:j<z.b.length
           ·have q2:(j:Int)<z.b.length:=by omega
            have hf:z.b[j]? = some z.b[j]:=List.getElem?_eq_getElem hgo2
            have hw2:IntKind.i64.wrap ((j:Int)+1)=(j:Int)+1:=wrap_i64 (by omega) (by omega)
            have htk2:(z.b.take (j+1)).map (renF a b)=l++[renF a b z.b[j]]:=by rw [List.take_add_one,hf,List.map_append,hl]; rfl
            refine (show ∃ f,z.b[j]=f from ⟨_,rfl⟩).elim fun f hfe=>?_
            rw [hfe] at hf htk2
            have hef:encF f=[.i .i64 f.1,.b (decide (f.2<0)),encM (digs f.2.natAbs)]:=rfl
            have hm1:(1:Nat)≤maxLen:=le_maxLen (by decide)
            have hll:(l++[renF a b f]).length=j+1:=by rw [List.length_append,hlj]; rfl
            by_cases h5:f.1=b
            ·have h5':((f.1 == b):Bool)=true:=by simpa using h5
             have q3:(((b:Int) == (b:Int)):Bool)=true:=by simp
             have hrf:renF a b f=(a,f.2):=by unfold renF; rw [if_pos h5]
             rcases hn2:l.length with _ | k
             ·have e0:l=[]:=List.eq_nil_of_length_eq_zero hn2
              simp only [hn,gr2]
              simp (maxSteps:=1000000) [-map_map,-mapM_map,↓KW,encX,encC,q2,hf,hef,h5,h5',q3,hw2,hm1,one_encC,cellsA_encC,inj1_encC,one_encM,cellsA_encM,inj1_encM]
              obtain rfl:j=0:=by omega
              refine nxt_intro (τ:=Nat × Ch) (0+1,l++[renF a b f]) ⟨hgo2,hll,htk2⟩ (Nat.sub_lt_sub_left hgo2 (Nat.lt_succ_self _)) ?_
              simp only [hll,hn,gr2]
              refine wk_l [1,2,5] (by simp) ?_ ?_ <;> simp [-map_map,upd,inj1,Γ0,encX,encC,e0,flt_one,encF_eq,hrf]
             ·have hbb:=app_bounds (n:=k+1) (by omega)
              have hcl:=flt_len encF_len l
              rw [hn2] at hcl
              have hal:=flt_all encF_one l
              simp only [hn,gr2]
              simp (maxSteps:=1000000) [-map_map,-mapM_map,↓KW,encX,encC,q2,hf,hef,h5,h5',q3,hw2,hm1,hbb,hcl,hal,le_maxLen,one_encC,cellsA_encC,inj1_encC,one_encM,cellsA_encM,inj1_encM]
              obtain rfl:j=k+1:=by omega
              refine nxt_intro (τ:=Nat × Ch) (k+1+1,l++[renF a b f]) ⟨hgo2,hll,htk2⟩ (Nat.sub_lt_sub_left hgo2 (Nat.lt_succ_self _)) ?_
              simp only [hll,hn,gr2]
              refine wk_l [1,2,6] (by simp) ?_ ?_ <;> simp [-map_map,upd,inj1,Γ0,encX,encC,flt_app,flt_one,encF_eq,hrf]
            ·have h5':((f.1 == b):Bool)=false:=by simpa using h5
             have hrf:renF a b f=f:=by unfold renF; rw [if_neg h5]
             rcases hn2:l.length with _ | k
             ·have e0:l=[]:=List.eq_nil_of_length_eq_zero hn2
              simp only [hn,gr2]
              simp (maxSteps:=1000000) [-map_map,-mapM_map,↓KW,encX,encC,q2,hf,hef,h5,h5',hw2,hm1,one_encC,cellsA_encC,inj1_encC,one_encM,cellsA_encM,inj1_encM]
              obtain rfl:j=0:=by omega
              refine nxt_intro (τ:=Nat × Ch) (0+1,l++[renF a b f]) ⟨hgo2,hll,htk2⟩ (Nat.sub_lt_sub_left hgo2 (Nat.lt_succ_self _)) ?_
              simp only [hll,hn,gr2]
              refine wk_l [1,2,5] (by simp) ?_ ?_ <;> simp [-map_map,upd,inj1,Γ0,encX,encC,e0,flt_one,encF_eq,hrf]
             ·have hbb:=app_bounds (n:=k+1) (by omega)
              have hcl:=flt_len encF_len l
              rw [hn2] at hcl
              have hal:=flt_all encF_one l
              simp only [hn,gr2]
              simp (maxSteps:=1000000) [-map_map,-mapM_map,↓KW,encX,encC,q2,hf,hef,h5,h5',hw2,hm1,hbb,hcl,hal,le_maxLen,one_encC,cellsA_encC,inj1_encC,one_encM,cellsA_encM,inj1_encM]
              obtain rfl:j=k+1:=by omega
              refine nxt_intro (τ:=Nat × Ch) (k+1+1,l++[renF a b f]) ⟨hgo2,hll,htk2⟩ (Nat.sub_lt_sub_left hgo2 (Nat.lt_succ_self _)) ?_
              simp only [hll,hn,gr2]
              refine wk_l [1,2,6] (by simp) ?_ ?_ <;> simp [-map_map,upd,inj1,Γ0,encX,encC,flt_app,flt_one,encF_eq,hrf]
           ·have q2:¬ (j:Int)<z.b.length:=by omega
            rw [List.take_of_length_le (by omega)] at hl
            have hM:=makeS (l:=l) (e:=e) (by rw [← hl]; exact renF_bnd hzb) (by rw [← hl]; exact renF_keys hzk ha) (by omega) he
            have htk':idnC (c.take (i+1)) a b=out++[⟨z.id,z.dim,addR [] l⟩]:=by rw [htk]; unfold idnCl; rw [hl]
            have hcl1:=flt_len encCl_len out
            have hal1:=flt_all encCl_one out
            rw [hn] at hcl1
            refine (show ∃ r,addR [] l=r from ⟨_,rfl⟩).elim fun r hr=>?_
            rw [hr] at hM htk'
            have hm1:(1:Nat)≤maxLen:=le_maxLen (by decide)
            rcases hn2:l.length with _ | k
            ·have e0:l=[]:=List.eq_nil_of_length_eq_zero hn2
             rw [e0] at hM
             simp only [hn,gr2]
             simp (maxSteps:=1000000) [-map_map,-mapM_map,↓KW,encX,encC,q2,one_encC,cellsA_encC,inj1_encC]
             refine callP_intro (ds:=[encC []]) (by rfl) hM ?_
             have hbb:=app_bounds (n:=m+1) (by omega)
             simp (maxSteps:=1000000) [-map_map,-mapM_map,↓KW,encX,encC,hm1,hm1,hw,hbb,hcl1,hal1,le_maxLen,inj_encC,kills_encC,one_encC,cellsA_encC,inj1_encC]
             refine nxt_intro (i+1,out++[⟨z.id,z.dim,r⟩]) ⟨hgo,htk'⟩ (Nat.sub_lt_sub_left hgo (Nat.lt_succ_self _)) ?_
             simp only [List.length_append,hn,List.length_singleton,grS,flt_app,flt_one,encCl_eq]
             refine wk_l [4] (by simp) ?_ ?_ <;> simp [-map_map,upd,inj1,Γ0,encX,encC]
            ·have e1:=flt_take encF_len hn2
             have e2:=flt_chunk (by decide) encF_len hn2
             have e3:=flt_len encF_len l
             rw [hn2] at e3
             simp only [hn,gr2]
             simp (maxSteps:=1000000) [-map_map,-mapM_map,↓KW,encX,encC,q2,one_encC,cellsA_encC,inj1_encC]
             refine callP_intro (ds:=[encC l]) (by simp [-map_map,-mapM_map,encC,upd,e1,e2,e3]) hM ?_
             have hbb:=app_bounds (n:=m+1) (by omega)
             simp (maxSteps:=1000000) [-map_map,-mapM_map,↓KW,encX,encC,e1,hm1,hw,hbb,hcl1,hal1,le_maxLen,inj_encC,kills_encC,one_encC,cellsA_encC,inj1_encC]
             refine nxt_intro (i+1,out++[⟨z.id,z.dim,r⟩]) ⟨hgo,htk'⟩ (Nat.sub_lt_sub_left hgo (Nat.lt_succ_self _)) ?_
             simp only [List.length_append,hn,List.length_singleton,grS,flt_app,flt_one,encCl_eq]
             refine wk_l [5] (by simp) ?_ ?_ <;> simp [-map_map,upd,inj1,Γ0,encX,encC]
       ·have q1:¬ (i:Int)<c.length:=by omega
        rw [List.take_of_length_le (by omega)] at ho
        have hSg:=mgSingle a
        have hMp:=mgMapping c [(b,[(a,1)])] (encG [(b,[(a,1)])]) rfl (lookG _) (by omega)
        rcases hn:out.length with _ | m
        ·have e0:out=[]:=List.eq_nil_of_length_eq_zero hn
         have e1:out=[]:=e0
         simp only [grS]
         simp (maxSteps:=1000000) [-map_map,-mapM_map,↓KW,encX,q1,lookA_mp,mapW_mp]
         refine callP_intro (ds:=[.i .i64 a]) (by rfl) hSg ?_
         simp (maxSteps:=1000000) [-map_map,-mapM_map,↓KW,encX,q1,lookA_mp,mapW_mp,mput_nil,inj_encC,kills_encC,one_encC,cellsA_encC,inj1_encC]
         refine callP_intro (ds:=[encX c,encG [(b,[(a,1)])]]) (by rfl) hMp ?_
         simp (maxSteps:=1000000) [-map_map,-mapM_map,↓KW,encX,q1,lookA_mp,mapW_mp,mput_nil,e1,e0,inj_encC,kills_encC,one_encC,cellsA_encC,inj1_encC,inj_encMp,kills_encMp,vis_mpA,resD_3,encR3,h1,h2,h3,ho]
         rfl
        ·have e1:=flt_take encCl_len hn
         have e2:=flt_chunk (by decide) encCl_len hn
         have e3:=flt_len encCl_len out
         rw [hn] at e3
         simp only [grS]
         simp (maxSteps:=1000000) [-map_map,-mapM_map,↓KW,encX,q1,lookA_mp,mapW_mp]
         refine callP_intro (ds:=[.i .i64 a]) (by rfl) hSg ?_
         simp (maxSteps:=1000000) [-map_map,-mapM_map,↓KW,encX,q1,lookA_mp,mapW_mp,mput_nil,inj_encC,kills_encC,one_encC,cellsA_encC,inj1_encC]
         refine callP_intro (ds:=[encX c,encG [(b,[(a,1)])]]) (by rfl) hMp ?_
         simp (maxSteps:=1000000) [-map_map,-mapM_map,↓KW,encX,q1,lookA_mp,mapW_mp,mput_nil,e1,hn,e2,e3,inj_encC,kills_encC,one_encC,cellsA_encC,inj1_encC,inj_encMp,kills_encMp,vis_mpA,resD_3,encR3,h1,h2,h3,ho]
         rfl
end Go.Am
end

section
set_option linter.unusedVariables false
set_option linter.unusedSimpArgs false
open Go Go.Am Go.Proofs
namespace Go.Am
theorem apP_map {g:List (Int × Ch)}:∀ {c:List Cl} {y:Cl} {f:Int × Int},Inc c→y∈c→f.1=y.id→apP (mapX c g) f=mulR f.2 ((getG g y.id).getD [(y.id,1)])
 | z::c,y,f,hi,hy,hf=>by
  obtain ⟨h1,h2⟩:=List.pairwise_cons.1 hi
  have hnone:∀ {c:List Cl},(∀ x∈c,x.id≠f.1)→apP (mapX c g) f=[]:=by
   intro c hc
   induction c with
   | nil=>rfl
   | cons u c ih =>
    show (if u.id=f.1 then _ else [])++apP (mapX c g) f=[]
    rw [if_neg (hc u (List.mem_cons_self ..)),ih fun x hx=>hc x (List.mem_cons_of_mem _ hx)]; rfl
  show (if z.id=f.1 then mulR f.2 ((getG g z.id).getD [(z.id,1)]) else [])++apP (mapX c g) f=_
  rcases List.mem_cons.1 hy with rfl | hy
  ·rw [if_pos hf.symm,hnone fun x hx=>by have:=h1 x hx; omega,List.append_nil]
  ·rw [if_neg (by have:=h1 y hy; omega),List.nil_append,apP_map h2 hy hf]
theorem apL_map {g:List (Int × Ch)} {c:List Cl} (hi:Inc c) (r:Int→Int) (hr:∀ y∈c,(getG g y.id).getD [(y.id,1)]=[(r y.id,1)]):∀ {x:Ch},(∀ f∈x,∃ y∈c,y.id=f.1)→apL (mapX c g) x=x.map fun f=>(r f.1,f.2)
 | [],_=>rfl
 | f::x,h=>by
  obtain ⟨y,hy,he⟩:=h f (List.mem_cons_self ..)
  show apP (mapX c g) f++apL (mapX c g) x=_
  rw [apP_map hi hy he.symm,hr y hy,apL_map hi r hr fun f hf=>h f (List.mem_cons_of_mem _ hf),he]
  simp [mulR]
/-! Weights under a renaming -/
theorem wsum_ren (w:Int→Int) (r:Int→Int):∀ l:Ch,wsum w (l.map fun f=>(r f.1,f.2))=wsum (fun n=>w (r n)) l
 | []=>rfl
 | f::l=>by simp only [List.map_cons,wsum,wsum_ren w r l]
theorem CxV.wcyc {c:List Cl} (h:CxV c) {x:Cl} (hx:x∈c) (w:Int→Int):wsum (fun m=>wsum w (Go.Am.bOf c m)) x.b=0:=by
 rw [← wsum_bdL]
 have h1:=h.bd0 hx
 have h2:wsum w (bdX c x.b)=wsum w []+wsum w (bdL c x.b):=wsum_addR w _ _
 rw [h1] at h2
 simp only [wsum] at h2; omega
theorem wsum_addR0 (w:Int→Int) (l:Ch):wsum w (addR [] l)=wsum w l:=by rw [wsum_addR]; simp [wsum]
def rn (a b n:Int):Int:=if n=b then a else n
theorem renF_eq (a b:Int):renF a b=fun f=>(rn a b f.1,f.2):=by
 funext f
 unfold renF rn
 split <;> rfl
structure TwoC (c:List Cl) (a b:Int):Prop where
 ne:a≠b
 ina:∃ x∈c,x.id=a
 inb:∃ x∈c,x.id=b
 dim:dOf c a=dOf c b
 bd:bOf c a=bOf c b
section
variable {c:List Cl} {a b:Int}
theorem idnC_mem {z:Cl}:z∈idnC c a b↔∃ y∈c,y.id≠b∧z=idnCl a b y:=by
 unfold idnC
 rw [List.mem_map]
 constructor
 ·rintro ⟨y,hy,rfl⟩
  obtain ⟨h1,h2⟩:=List.mem_filter.1 hy
  exact ⟨y,h1,by simpa using h2,rfl⟩
 ·rintro ⟨y,h1,h2,rfl⟩
  exact ⟨y,List.mem_filter.2 ⟨h1,by simpa using h2⟩,rfl⟩
theorem idnC_inc (h:Inc c):Inc (idnC c a b):=by
 unfold idnC Inc
 rw [List.pairwise_map]
 exact List.Pairwise.filter _ h
theorem dOf_of (h:Inc c) {x:Cl} (hx:x∈c):dOf c x.id=x.dim:=by unfold dOf; rw [h.find hx]; rfl
theorem idn_find (h:Inc c) {y:Cl} (hy:y∈c) (hn:y.id≠b):findX (idnC c a b) y.id=some (idnCl a b y):=(idnC_inc h).find (x:=idnCl a b y) (idnC_mem.2 ⟨y,hy,hn,rfl⟩)
theorem idn_bOf (h:Inc c) {y:Cl} (hy:y∈c) (hn:y.id≠b):bOf (idnC c a b) y.id=addR [] (y.b.map (renF a b)):=by unfold bOf; rw [idn_find h hy hn]; rfl
theorem TwoC.rep (t:TwoC c a b) (h:CxV c) {y:Cl} (hy:y∈c):∃ z∈c,z.id≠b∧z.id=rn a b y.id∧z.dim=y.dim∧z.b=y.b:=by
 by_cases e:y.id=b
 ·obtain ⟨z,hz,hza⟩:=t.ina
  refine ⟨z,hz,by rw [hza]; exact t.ne,by unfold rn; rw [if_pos e]; exact hza,?_,?_⟩
  ·have:=t.dim; rw [← hza,← e,dOf_of h.inc hz,dOf_of h.inc hy] at this; exact this
  ·have:=t.bd; rw [← hza,← e,h.bOf hz,h.bOf hy] at this; exact this
 ·exact ⟨y,hy,e,by unfold rn; rw [if_neg e],rfl,rfl⟩
theorem TwoC.bOf (t:TwoC c a b) (h:CxV c) {y:Cl} (hy:y∈c):Go.Am.bOf (idnC c a b) (rn a b y.id)=addR [] (y.b.map (renF a b)):=by
 obtain ⟨z,hz,h1,h2,_,h4⟩:=t.rep h hy
 rw [← h2,idn_bOf h.inc hz h1,h4]
theorem TwoC.valid (t:TwoC c a b) (h:CxV c):CxV (idnC c a b):=by
 refine ⟨idnC_inc h.inc,fun z hz=>?_,fun z hz=>?_,fun z hz f hf=>?_,fun z hz n=>?_⟩
 ·obtain ⟨y,hy,_,rfl⟩:=idnC_mem.1 hz
  exact h.dim y hy
 ·obtain ⟨y,hy,_,rfl⟩:=idnC_mem.1 hz
  exact (addR_val _ [] Val.nil).1
 ·obtain ⟨y,hy,_,rfl⟩:=idnC_mem.1 hz
  obtain ⟨h1,h2⟩:=addR_val (y.b.map (renF a b)) [] Val.nil
  have hf':f∈addR [] (y.b.map (renF a b)):=hf
  have e:=getM_of_mem h1 hf'
  rw [h2,getM_nil,Int.zero_add] at e
  have hne:cf f.1 (y.b.map (renF a b))≠0:=by rw [e]; exact h1.2 f hf'
  obtain ⟨g,hg,he⟩:∃ g∈y.b,(renF a b g).1=f.1:=Classical.byContradiction fun hn=>hne (cf_none fun x hx e=>by
   obtain ⟨g,hg,rfl⟩:=List.mem_map.1 hx
   exact hn ⟨g,hg,e⟩)
  obtain ⟨u,hu,e1,e2⟩:=h.face y hy g hg
  obtain ⟨z,hz',k1,k2,k3,_⟩:=t.rep h hu
  refine ⟨idnCl a b z,idnC_mem.2 ⟨z,hz',k1,rfl⟩,?_,?_⟩
  ·show z.id=f.1
   rw [k2,e1,← he,renF_eq]
  ·show z.dim=y.dim - 1
   rw [k3,e2]
 ·obtain ⟨y,hy,_,rfl⟩:=idnC_mem.1 hz
  show wsum (fun m=>cf n (Go.Am.bOf (idnC c a b) m)) (addR [] (y.b.map (renF a b)))=0
  rw [wsum_addR0,renF_eq,wsum_ren]
  refine Eq.trans (wsum_congr fun f hf=>?_) (h.wcyc hy fun k=>if n=rn a b k then 1 else 0)
  obtain ⟨u,hu,e1,_⟩:=h.face y hy f hf
  rw [← e1,t.bOf h hu,h.bOf hu,cf_wsum,wsum_addR0,renF_eq,wsum_ren]
theorem getG_one (a b n:Int):(getG [(b,[(a,1)])] n).getD [(n,1)]=[(rn a b n,1)]:=by
 unfold getG rn
 by_cases e:n=b
 ·rw [if_pos e]; simp [e]
 ·rw [if_neg e]
  have:¬ b=n:=fun h=>e h.symm
  simp [this]
theorem TwoC.comm (t:TwoC c a b) (h:CxV c):CmT c (idnC c a b) (mapX c [(b,[(a,1)])]):=by
 have hget:∀ (i:Nat) x p,c[i]? = some x→(mapX c [(b,[(a,1)])])[i]? = some p→p=(x.id,[(rn a b x.id,1)]):=fun i x p hx hp=>by
  unfold mapX at hp
  rw [List.getElem?_map,hx] at hp
  injection hp with hp
  simp only [getG_one] at hp
  exact hp.symm
 refine ⟨by simp [mapX],fun i x p hx hp=>by rw [hget i x p hx hp],fun i x p hx hp f hf=>?_,fun i x p hx hp=>?_⟩
 ·rw [hget i x p hx hp] at hf
  have hf':f=(rn a b x.id,1):=by simpa using hf
  subst hf'
  obtain ⟨z,hz,h1,h2,h3,_⟩:=t.rep h (List.mem_of_getElem? hx)
  exact ⟨idnCl a b z,by rw [← h2]; exact idn_find h.inc hz h1,h3⟩
 ·have hxc:=List.mem_of_getElem? hx
  rw [hget i x p hx hp]
  obtain ⟨z,hz,h1,h2,_,h4⟩:=t.rep h hxc
  have e1:bdX (idnC c a b) [(rn a b x.id,1)]=addR [] (x.b.map (renF a b)):=by
   have:=bd_one (t.valid h) (y:=idnCl a b z) (idnC_mem.2 ⟨z,hz,h1,rfl⟩)
   rw [← h2]
   refine Eq.trans this ?_
   show addR [] (z.b.map (renF a b))=_
   rw [h4]
  rw [e1]
  unfold apX
  rw [apL_map h.inc (rn a b) (fun y _=>getG_one a b y.id) (fun f hf=>let ⟨y,hy,e,_⟩:=h.face x hxc f hf; ⟨y,hy,e⟩),renF_eq]
end
end Go.Am
end

section
set_option linter.unusedVariables false
set_option linter.unusedSimpArgs false
namespace Go.Am
open RowKit (Below)
section
variable {P:Program} {G:Ctx} {N:Nat} {ds:List Deferred}
end
end Go.Am
end

section
set_option linter.unusedVariables false
set_option linter.unusedSimpArgs false
open Go Go.Am Go.Proofs
namespace Go.Am
/-! A twin, plain -/
section
variable {c:List Cl} {x:Cl} {N:Int}
theorem mapX_one_sz {a b:Int} {h:Nat} (hl:c.length≤100):SzM h (mapX c [(b,[(a,1)])]):=by
 have hp:∀ p∈mapX c [(b,[(a,1)])],∃ n,p.2=[(n,1)]:=fun p hp=>by
  obtain ⟨y,_,rfl⟩:=List.mem_map.1 hp
  exact ⟨_,getG_one a b y.id⟩
 refine ⟨by simpa [mapX] using hl,fun p h1=>?_,fun p h1=>?_,fun p h1=>?_⟩
 ·obtain ⟨n,e⟩:=hp p h1; rw [e]; exact Nat.le_of_ble_eq_true rfl
 ·obtain ⟨n,e⟩:=hp p h1; rw [e]
  exact Bnd.one (by show (1:Int).natAbs≤_; exact Nat.one_le_two_pow)
 ·obtain ⟨n,e⟩:=hp p h1; rw [e]
  exact ⟨List.pairwise_singleton _ _,fun y hy=>by rw [List.mem_singleton.1 hy]; simp⟩
end
theorem flt_flat {α:Type} (f:α→List D) (l:List α):((l.map f).map (List.map AV.d)).flatten=(flt f l).map AV.d:=by
 unfold flt
 rw [List.map_flatten]
theorem inj1_encMp (m:List (Int × Ch)):inj1 (encMp m)=.d (encMp m):=rfl
theorem keys_of {c:List Cl} (h:CxV c) (hb:∀ y∈c,-9223372036854775808≤y.id∧y.id≤9223372036854775807):∀ y∈c,Keys y.b:=fun y hy f hf=>by
 obtain ⟨z,hz,e,_⟩:=h.face y hy f hf
 have:=hb z hz
 rw [← e]
 simp only [inr,decide_eq_true_eq]; omega
end Go.Am
end

section
set_option linter.unusedVariables false
set_option linter.unusedSimpArgs false
namespace Go.Am
def enA {β:Type} (g:β→AV) (m:List (Int × β)):List (Int × AV):=m.map fun p=>(p.1,g p.2)
def alk {β:Type}:List (Int × β)→Int→Option β
 | [],_=>none
 | p::m,n=>if p.1=n then some p.2 else alk m n
def apt {β:Type}:List (Int × β)→Int→β→List (Int × β)
 | [],n,v=>[(n,v)]
 | p::m,n,v=>if p.1=n then (n,v)::m else p::apt m n v
theorem mlook_enA {β:Type} (g:β→AV) (n:Int):∀ m:List (Int × β),mlook (enA g m) n=(alk m n).map g
 | []=>rfl
 | p::m=>by
  have ih:=mlook_enA g n m
  unfold mlook at ih ⊢
  simp only [enA,List.map_cons,mfind,alk] at ih ⊢
  by_cases h:p.1=n
  ·simp [h]
  ·rw [if_neg h,if_neg h,← ih]
   cases mfind n (m.map fun p=>(p.1,g p.2)) <;> rfl
theorem mput_enA {β:Type} (g:β→AV) (n:Int) (v:β):∀ m:List (Int × β),mput (enA g m) n (g v)=enA g (apt m n v)
 | []=>rfl
 | p::m=>by
  have ih:=mput_enA g n v m
  unfold mput at ih ⊢
  simp only [enA,List.map_cons,mfind,apt] at ih ⊢
  by_cases h:p.1=n
  ·simp [h]
  ·rw [if_neg h,if_neg h,List.map_cons,← ih]
   cases mfind n (m.map fun p=>(p.1,g p.2)) <;> rfl
theorem alk_apt {β:Type} (n k:Int) (v:β):∀ m:List (Int × β),alk (apt m n v) k=if k=n then some v else alk m k
 | []=>by
  simp only [apt,alk]
  by_cases h:k=n
  ·rw [if_pos h,if_pos h.symm]
  ·rw [if_neg h,if_neg (Ne.symm h)]
 | p::m=>by
  have ih:=alk_apt n k v m
  simp only [apt,alk]
  by_cases h:p.1=n
  ·rw [if_pos h]
   simp only [alk]
   by_cases hk:k=n
   ·rw [if_pos hk.symm,if_pos hk]
   ·rw [if_neg (Ne.symm hk),if_neg hk,if_neg (by omega)]
  ·rw [if_neg h]
   simp only [alk,ih]
   by_cases hp:p.1=k
   ·rw [if_pos hp,if_pos hp,if_neg (by omega)]
   ·rw [if_neg hp,if_neg hp]
theorem apt_keys {β:Type} (n:Int) (v:β):∀ (m:List (Int × β)) (k:Int),k∈(apt m n v).map (·.1)↔k∈m.map (·.1)∨k=n
 | [],k=>by simp [apt]
 | p::m,k=>by
  have ih:=apt_keys n v m k
  simp only [apt]
  split
  ·rename_i h
   simp only [List.map_cons,List.mem_cons]
   constructor
   ·rintro (h1 | h1)
    ·exact .inr h1
    ·exact .inl (.inr h1)
   ·rintro ((h1 | h1) | h1)
    ·exact .inl (by omega)
    ·exact .inr h1
    ·exact .inl h1
  ·simp only [List.map_cons,List.mem_cons,ih]
   constructor
   ·rintro (h1 | h1 | h1)
    ·exact .inl (.inl h1)
    ·exact .inl (.inr h1)
    ·exact .inr h1
   ·rintro ((h1 | h1) | h1)
    ·exact .inl h1
    ·exact .inr (.inl h1)
    ·exact .inr (.inr h1)
theorem apt_nodup {β:Type} (n:Int) (v:β):∀ {m:List (Int × β)},(m.map (·.1)).Nodup→((apt m n v).map (·.1)).Nodup
 | [],_=>by simp [apt]
 | p::m,h=>by
  simp only [List.map_cons,List.nodup_cons] at h
  simp only [apt]
  split
  ·rename_i e
   simp only [List.map_cons,List.nodup_cons]
   exact ⟨by rw [← e]; exact h.1,h.2⟩
  ·rename_i e
   simp only [List.map_cons,List.nodup_cons]
   refine ⟨fun hm=>?_,apt_nodup n v h.2⟩
   rcases (apt_keys n v m p.1).1 hm with h1 | h1
   ·exact h.1 h1
   ·exact e h1
theorem alk_mem {β:Type} {n:Int} {v:β}:∀ {m:List (Int × β)},(m.map (·.1)).Nodup→(alk m n=some v↔(n,v)∈m)
 | [],_=>by simp [alk]
 | p::m,h=>by
  simp only [List.map_cons,List.nodup_cons] at h
  have ih:=alk_mem (n:=n) (v:=v) h.2
  simp only [alk,List.mem_cons]
  by_cases e:p.1=n
  ·rw [if_pos e]
   constructor
   ·intro h1; injection h1 with h1; exact .inl (by rw [← e,← h1])
   ·rintro (h1 | h1)
    ·rw [← h1]
    ·exact absurd (List.mem_map.2 ⟨_,h1,rfl⟩) (by rw [e] at h; exact h.1)
  ·rw [if_neg e,ih]
   constructor
   ·exact .inr
   ·rintro (h1 | h1)
    ·rw [← h1] at e; exact absurd rfl e
    ·exact h1
theorem subO_enA {β:Type} {g:β→D} {H H':Nat→Option HO} {ρ:Nat→Nat} {m m':List (Int × β)} (h:m=m'):SubO H H' ρ (.map .i64 (enA (fun v=>.d (g v)) m)) (.map .i64 (enA (fun v=>.d (g v)) m')):=by
 subst h
 refine subO_map fun x hx=>?_
 obtain ⟨p,_,rfl⟩:=List.mem_map.1 hx
 exact sub_d _
theorem subO_enA_iff {β:Type} {g:β→D} {H H':Nat→Option HO} {ρ:Nat→Nat} (m:List (Int × β)):SubO H H' ρ (.map .i64 (enA (fun v=>.d (g v)) m)) (.map .i64 (enA (fun v=>.d (g v)) m))↔True:=⟨fun _=>trivial,fun _=>subO_enA rfl⟩
theorem scrubO_enA {β:Type} (l:List Nat) (g:β→D) (m:List (Int × β)):scrubO l (.map .i64 (enA (fun v=>.d (g v)) m))=.map .i64 (enA (fun v=>.d (g v)) m):=by
 simp only [scrubO,enA,List.map_map]
 congr 1
theorem frz_mpA {β:Type} (g:β→D) (H:Nat→Option HO) (n id:Nat) (m:List (Int × β)) (h:H id=some (.map .i64 (enA (fun v=>.d (g v)) m))):frz H (n+2) (.mp id)=some (.mp .i64 (m.map (·.1)) (m.map fun p=>g p.2)):=by
 have e:∀ m:List (Int × β),((enA (fun v=>AV.d (g v)) m).map (·.2)).mapM (frz H (n+1))=some (m.map fun p=>g p.2):=fun m=>by
  induction m with
  | nil=>rfl
  | cons p m ih =>
   show (((enA (fun v=>AV.d (g v)) (p::m)).map (·.2)).mapM (frz H (n+1)))=_
   simp only [enA,List.map_cons,List.mapM_cons] at ih ⊢
   rw [ih]; rfl
 have e2:frz H (n+1+1) (.mp id)=match H id with
   | some (.map k es)=>((es.map fun x:Int × AV=>x.2).mapM (frz H (n+1))).map (D.mp k (es.map fun x:Int × AV=>x.1))
   | _=>none:=rfl
 rw [show n+2=n+1+1 from rfl,e2,h]
 simp only [e,Option.map_some]
 simp [enA]
theorem injM_enA {β:Type} (g:β→D) (hg:∀ v,inj1 (g v)=.d (g v)) (m:List (Int × β)):injM (m.map (·.1)) (m.map fun p=>g p.2)=enA (fun v=>.d (g v)) m:=by
 unfold injM enA
 induction m with
 | nil=>rfl
 | cons p m ih=>simp only [List.map_cons,List.zip_cons_cons,ih,hg]
end Go.Am
end

section
set_option linter.unusedVariables false
set_option linter.unusedSimpArgs false
open List (map_map mapM_map)
open Go Go.Am Go.Proofs
namespace Go.Am
theorem rec59:RecSpec Tryz.prog 59:=by
 refine ⟨fun w=>enters_of Tryz.func59 (by kernel_rfl) rfl _ w,fun w=>?_⟩
 refine callsD_of_wpS Tryz.func59 rfl fun c₀ cs hu=>?_
 apply wpS_region
 simp [wpOpsS,go_sem,recoverD,hu,Tryz.ntmps59,bodyPostS,results,Tryz.results59]
 cases c₀; simp only at hu; subst hu; rfl
def encPr (p:Int × Int):List D:=[.i .i64 p.1,.i .i64 p.2]
def encPrs (l:List (Int × Int)):D:=.sl (l.map encPr)
theorem encPr_len (x:Int × Int):(encPr x).length=2:=rfl
theorem encPr_one (x:Int × Int):((encPr x).map AV.d).all one=true:=rfl
theorem encPr_eq (x:Int × Int):encPr x=[.i .i64 x.1,.i .i64 x.2]:=rfl
/-! How often a cell is used -/
def incM (m:List (Int × Int)) (n:Int):List (Int × Int):=apt m n ((alk m n).getD 0+1)
def usesF (l:Ch) (m:List (Int × Int)):List (Int × Int):=l.foldl (fun m f=>incM m f.1) m
def usesC (c:List Cl):List (Int × Int):=c.foldl (fun m x=>usesF x.b m) []
def cntF (n:Int) (l:Ch):Nat:=l.countP fun f=>decide (f.1=n)
def cntC (n:Int):List Cl→Nat
 | []=>0
 | x::c=>cntF n x.b+cntC n c
def UsOk (m:List (Int × Int)) (k:Int→Nat):Prop:=(m.map (·.1)).Nodup∧∀ n,(alk m n).getD 0=(k n:Int)
theorem incM_ok {m:List (Int × Int)} {k:Int→Nat} (h:UsOk m k) (n:Int):UsOk (incM m n) fun q=>k q+if q=n then 1 else 0:=by
 refine ⟨apt_nodup _ _ h.1,fun q=>?_⟩
 unfold incM
 rw [alk_apt]
 by_cases e:q=n
 ·subst e; simp [h.2 q]
 ·simp [e,h.2 q]
theorem usesF_ok:∀ (l:Ch) {m:List (Int × Int)} {k:Int→Nat},UsOk m k→UsOk (usesF l m) fun q=>k q+cntF q l
 | [],m,k,h=>by simpa [usesF,cntF] using h
 | f::l,m,k,h=>by
  have:=usesF_ok l (incM_ok h f.1)
  refine ⟨this.1,fun q=>?_⟩
  show (alk (usesF l (incM m f.1)) q).getD 0=_
  rw [this.2 q]
  simp only [cntF,List.countP_cons]
  by_cases e:q=f.1
  ·rw [if_pos e,if_pos (by simp [e])]; omega
  ·have:¬ f.1=q:=fun h=>e h.symm
   simp [e,this]
theorem usesC_ok (c:List Cl):UsOk (usesC c) fun q=>cntC q c:=by
 suffices ∀ (c:List Cl) (m:List (Int × Int)) (k:Int→Nat),UsOk m k→UsOk (c.foldl (fun m x=>usesF x.b m) m) fun q=>k q+cntC q c by
  have:=this c [] (fun _=>0) ⟨by simp,fun n=>rfl⟩
  simpa [usesC] using this
 intro c
 induction c with
 | nil=>intro m k h; simpa [cntC] using h
 | cons x c ih =>
  intro m k h
  have:=ih _ _ (usesF_ok x.b h)
  refine ⟨this.1,fun q=>?_⟩
  show (alk (c.foldl (fun m x=>usesF x.b m) (usesF x.b m)) q).getD 0=_
  rw [this.2 q]
  simp only [cntC]; omega
theorem usesC_take {c:List Cl} {i:Nat} (h:i<c.length):usesC (c.take (i+1))=usesF c[i].b (usesC (c.take i)):=by
 unfold usesC
 rw [List.take_add_one,List.getElem?_eq_getElem h,List.foldl_append]; rfl
theorem usesF_take {l:Ch} {i:Nat} (h:i<l.length) (m:List (Int × Int)):usesF (l.take (i+1)) m=incM (usesF (l.take i) m) l[i].1:=by
 unfold usesF
 rw [List.take_add_one,List.getElem?_eq_getElem h,List.foldl_append]; rfl
theorem usesF_alk_bnd {l:Ch} {m:List (Int × Int)} {B:Int} (h:∀ n,0≤(alk m n).getD 0∧(alk m n).getD 0≤B):∀ n,0≤(alk (usesF l m) n).getD 0∧(alk (usesF l m) n).getD 0≤B+l.length:=by
 induction l generalizing m B with
 | nil=>intro n; have:=h n; simp only [usesF,List.foldl_nil,List.length_nil]; omega
 | cons f l ih =>
  intro n
  have:=ih (m:=incM m f.1) (B:=B+1) (fun q=>by
   unfold incM
   rw [alk_apt]
   have h1:=h q
   have h2:=h f.1
   split
   ·simp only [Option.getD_some]; omega
   ·omega) n
  show 0≤(alk (usesF l (incM m f.1)) n).getD 0∧(alk (usesF l (incM m f.1)) n).getD 0≤_
  simp only [List.length_cons]; omega
/-! The free pairs -/
def frOk (c:List Cl) (f:Int × Int):Bool:=decide (cntC f.1 c=1) && decide (f.2.natAbs=1)
def frCell (c:List Cl) (x:Cl):List (Int × Int):=if 0<cntC x.id c then [] else (x.b.filter (frOk c)).map fun f=>(x.id,f.1)
def freeX (c:List Cl):List (Int × Int):=c.flatMap (frCell c)
def iD (v:Int):D:=.i .i64 v
def bD (v:Bool):D:=.b v
def usE (m:List (Int × Int)):List (Int × AV):=enA (fun v=>.d (iD v)) m
def onE (m:List (Int × Bool)):List (Int × AV):=enA (fun v=>.d (bD v)) m
theorem onE_nil:([]:List (Int × AV))=onE []:=rfl
theorem mlook_usE (m:List (Int × Int)) (n:Int):mlook (usE m) n=(alk m n).map fun v=>.d (.i .i64 v):=mlook_enA _ _ _
theorem mlook_onE (m:List (Int × Bool)) (n:Int):mlook (onE m) n=(alk m n).map fun v=>.d (.b v):=mlook_enA _ _ _
theorem mput_usE (m:List (Int × Int)) (n v:Int):mput (usE m) n (.d (.i .i64 v))=usE (apt m n v):=mput_enA (fun v=>AV.d (iD v)) _ _ _
theorem mput_onE (m:List (Int × Bool)) (n:Int) (v:Bool):mput (onE m) n (.d (.b v))=onE (apt m n v):=mput_enA (fun v=>AV.d (bD v)) _ _ _
theorem subO_usE {H H':Nat→Option HO} {ρ:Nat→Nat} (m:List (Int × Int)):SubO H H' ρ (.map .i64 (usE m)) (.map .i64 (usE m))↔True:=subO_enA_iff _
theorem subO_onE {H H':Nat→Option HO} {ρ:Nat→Nat} (m:List (Int × Bool)):SubO H H' ρ (.map .i64 (onE m)) (.map .i64 (onE m))↔True:=subO_enA_iff _
theorem scrubO_usE (l:List Nat) (m:List (Int × Int)):scrubO l (.map .i64 (usE m))=.map .i64 (usE m):=scrubO_enA _ _ _
theorem scrubO_onE (l:List Nat) (m:List (Int × Bool)):scrubO l (.map .i64 (onE m))=.map .i64 (onE m):=scrubO_enA _ _ _
theorem lookU (H:Nat→Option HO) (id:Nat) (m:List (Int × Int)) (n:Int) (h:H id=some (.map .i64 (usE m))):lookA Tryz.prog H 101 (.mp id) (.d (.i .i64 n)) false=some (.d (.i .i64 ((alk m n).getD 0))):=by
 have h1:tmp Tryz.prog 101=some (3,3):=by kernel_rfl
 have h2:tint Tryz.prog 3=some .i64:=by kernel_rfl
 have h3:tz Tryz.prog 3=some (.int .i64 0):=by kernel_rfl
 rw [lookA_mp,h]
 simp only [mlook_usE]
 cases alk m n <;> simp [h1,h2,h3,cv,cv1]
theorem lookO (H:Nat→Option HO) (id:Nat) (m:List (Int × Bool)) (n:Int) (h:H id=some (.map .i64 (onE m))):lookA Tryz.prog H 102 (.mp id) (.d (.i .i64 n)) false=some (.d (.b ((alk m n).getD false))):=by
 have h1:tmp Tryz.prog 102=some (3,4):=by kernel_rfl
 have h2:tint Tryz.prog 3=some .i64:=by kernel_rfl
 have h3:tz Tryz.prog 4=some (.bool false):=by kernel_rfl
 rw [lookA_mp,h]
 simp only [mlook_onE]
 cases alk m n <;> simp [h1,h2,h3,cv,cv1]
def usD (m:List (Int × Int)):D:=.mp .i64 (m.map (·.1)) (m.map fun p=>iD p.2)
theorem lookUD (H:Nat→Option HO) (m:List (Int × Int)) (n:Int):lookA Tryz.prog H 101 (.d (usD m)) (.d (.i .i64 n)) false=some (.d (.i .i64 ((alk m n).getD 0))):=by
 have h1:tmp Tryz.prog 101=some (3,3):=by kernel_rfl
 have h2:tint Tryz.prog 3=some .i64:=by kernel_rfl
 have h3:tz Tryz.prog 3=some (.int .i64 0):=by kernel_rfl
 have e:lookA Tryz.prog H 101 (.d (usD m)) (.d (.i .i64 n)) false=lookE Tryz.prog 101 .i64 (injM (m.map (·.1)) (m.map fun p=>iD p.2)) (.d (.i .i64 n)) false:=rfl
 rw [e,injM_enA iD fun _=>rfl]
 simp only [lookE,mlook_enA]
 cases alk m n <;> simp [h1,h2,h3,cv,cv1,iD]
def usI (m:List (Int × Int)):List (Int × D):=m.map fun p=>(p.1,iD p.2)
theorem nv_rangeU (m:List (Int × Int)) (Γ:Nat→AV) (n:Nat) (x:Operand) (h:oev Γ x=.d (usD m)):nev Tryz.prog (.range 101 x) Γ n=some (.ptr n 0,some (.iter .i64 none (usI m))):=by
 have h1:tmp Tryz.prog 101=some (3,3):=by kernel_rfl
 have e:∀ m:List (Int × Int),(m.map (·.1)).zip (m.map fun p=>iD p.2)=usI m:=fun m=>by
  induction m with
  | nil=>rfl
  | cons p m ih=>simp only [List.map_cons,List.zip_cons_cons,ih,usI]
 simp only [nev,h1,h,usD,Option.bind_some,e]
theorem erase_perm {α:Type}:∀ {l:List α} {j:Nat} {e:α},l[j]? = some e→l.Perm (e::l.eraseIdx j)
 | [],j,e,h=>by simp at h
 | x::l,0,e,h=>by simp at h; subst h; exact List.Perm.refl _
 | x::l,j+1,e,h=>by
  have:=erase_perm (l:=l) (j:=j) (e:=e) (by simpa using h)
  exact (List.Perm.cons x this).trans (List.Perm.swap e x _)
theorem itA_ptr (H:Nat→Option HO) (id:Nat):itA H (.ptr id 0)=match H id with
  | some (.iter k _ es)=>some (id,k,es)
  | _=>none:=rfl
theorem entA_ptr (H:Nat→Option HO) (id:Nat):entA H (.ptr id 0)=match H id with
  | some (.iter k (some e) _)=>some (.tp [.d (.i k e.1),inj1 e.2])
  | _=>none:=rfl
theorem subO_iter {H H':Nat→Option HO} {ρ:Nat→Nat} (k k':IntKind) (l l':Option (Int × D)) (es es':List (Int × D)):SubO H H' ρ (.iter k l es) (.iter k' l' es')↔(k=k'∧l=l'∧es=es'):=Iff.rfl
theorem scrubO_iter (s:List Nat) (k:IntKind) (l:Option (Int × D)) (es:List (Int × D)):scrubO s (.iter k l es)=.iter k l es:=rfl
theorem usI_mem {m:List (Int × Int)} {e:Int × D} (h:e∈usI m):∃ n v,e=(n,iD v)∧(n,v)∈m:=by
 obtain ⟨p,hp,rfl⟩:=List.mem_map.1 h
 exact ⟨p.1,p.2,rfl,hp⟩
theorem iD_inj {a b:Int} (h:iD a=iD b):a=b:=by injection h
theorem inj1_iD (v:Int):inj1 (iD v)=.d (.i .i64 v):=rfl
def OnOk (m:List (Int × Int)) (rest:List (Int × D)) (once:List (Int × Bool)):Prop:=∃ done,(done++rest).Perm (usI m)∧∀ n,(alk once n).getD false=true↔(n,iD 1)∈done
theorem OnOk.step {m:List (Int × Int)} {rest:List (Int × D)} {once:List (Int × Bool)} (h:OnOk m rest once) {j:Nat} {n v:Int} (he:rest[j]? = some (n,iD v)):OnOk m (rest.eraseIdx j) (if v=1 then apt once n true else once):=by
 obtain ⟨done,h1,h2⟩:=h
 refine ⟨done++[(n,iD v)],?_,fun q=>?_⟩
 ·rw [List.append_assoc]
  exact ((List.Perm.append_left done (erase_perm he)).symm).trans h1
 ·rw [List.mem_append,List.mem_singleton,Prod.mk.injEq]
  by_cases hv:v=1
  ·rw [if_pos hv,alk_apt]
   by_cases hq:q=n
   ·subst hq; subst hv; simp
   ·rw [if_neg hq,h2]; simp [hq]
  ·rw [if_neg hv,h2]
   constructor
   ·exact .inl
   ·rintro (h | ⟨_,h⟩)
    ·exact h
    ·exact absurd (iD_inj h).symm hv
theorem OnOk.fin {m:List (Int × Int)} {once:List (Int × Bool)} (hnd:(m.map (·.1)).Nodup) (h:OnOk m [] once) (n:Int):(alk once n).getD false=true↔(alk m n).getD 0=1:=by
 obtain ⟨done,h1,h2⟩:=h
 rw [List.append_nil] at h1
 rw [h2,h1.mem_iff]
 constructor
 ·intro h
  obtain ⟨a,v,e,hm⟩:=usI_mem h
  injection e with e1 e2
  rw [← iD_inj e2,← e1] at hm
  rw [(alk_mem hnd).2 hm]; rfl
 ·intro h
  cases hk:alk m n with
  | none=>rw [hk] at h; simp at h
  | some v =>
   rw [hk] at h
   have hv:v=1:=h
   subst hv
   exact List.mem_map.2 ⟨(n,1),(alk_mem hnd).1 hk,rfl⟩
theorem OnOk.nil (m:List (Int × Int)):OnOk m (usI m) []:=⟨[],by simp,fun n=>by simp [alk]⟩
def grQ1 (t:Nat) (sl:List (Nat × AV)) (mb:HO) (e:TypeId) (sz n:Nat) (cells:List D):St:=match n with
 | 0=>StL ((t,.nil)::sl) none [mb]
 | n+1=>StL ((t,.own 2 0 (n+1) sz)::sl) none [mb,.cells e (cells.map .d)]
def grQ2 (t:Nat) (sl:List (Nat × AV)) (mb xb:HO) (e:TypeId) (sz n:Nat) (cells:List D):St:=match n with
 | 0=>StL ((t,.nil)::sl) none [mb,xb]
 | n+1=>StL ((t,.own 3 0 (n+1) sz)::sl) none [mb,xb,.cells e (cells.map .d)]
theorem freeX_take {c d:List Cl} {i:Nat} (h:i<c.length):(c.take (i+1)).flatMap (frCell d)=(c.take i).flatMap (frCell d)++frCell d c[i]:=by
 rw [List.take_add_one,List.getElem?_eq_getElem h,List.flatMap_append]; simp
theorem frIn_take {c:List Cl} {l:Ch} {i:Nat} (n:Int) (h:i<l.length):((l.take (i+1)).filter (frOk c)).map (fun f=>(n,f.1))=((l.take i).filter (frOk c)).map (fun f=>(n,f.1))++if frOk c l[i] then [(n,l[i].1)] else []:=by
 rw [List.take_add_one,List.getElem?_eq_getElem h,List.filter_append,List.map_append]
 congr 1
 by_cases e:frOk c l[i]=true <;> simp [e]
set_option maxHeartbeats 16000000 in
set_option maxRecDepth 10000 in
theorem mgFree {c:List Cl} {e:Nat} (hz:SzX e c) (he:e+14<4398046511104):Spec Tryz.prog 22 [encX c] (encPrs (freeX c)):=by
 have hlen:=hz.len
 refine spec_of_d (N:=90) follows_mixed Tryz.func22 rfl rfl rfl (by kernel_rfl) (by kernel_rfl) (by kernel_rfl) (by kernel_rfl) rfl rec59 (by simp) ?_
 simp (maxSteps:=1000000) [-map_map,-mapM_map,↓KW,encX]
 refine loopP_invW (fun i:Nat=>i≤c.length∧∀ n,0≤(alk (usesC (c.take i)) n).getD 0∧(alk (usesC (c.take i)) n).getD 0≤100 * i) (fun i=>StL [(0,.d (encX c)),(3,.mp 1),(17,.d (encX c)),(18,.d (.i .i64 c.length)),(19,.d (.i .i64 (i:Int)))] none [.map .i64 (usE (usesC (c.take i)))]) (fun i=>c.length - i) 0 ⟨Nat.zero_le _,fun n=>by simp [usesC,alk]⟩ ?_ ?_
 ·refine wk_l [1] (by simp) ?_ ?_
  ·simp [-map_map,upd,inj1,Γ0,encX]
  ·exact ⟨⟨_,by simp [upd]; rfl,subO_enA rfl⟩,trivial⟩
 ·rintro i ⟨hi,hub⟩
  by_cases hgo:i<c.length
  ·have q1:(i:Int)<c.length:=by omega
   have hx:c[i]? = some c[i]:=List.getElem?_eq_getElem hgo
   have hw:IntKind.i64.wrap ((i:Int)+1)=(i:Int)+1:=wrap_i64 (by omega) (by omega)
   have htk:=usesC_take hgo
   have hxl:=hz.bl _ (List.getElem_mem hgo)
   refine (show ∃ x,c[i]=x from ⟨_,rfl⟩).elim fun x hxe=>?_
   rw [hxe] at hx htk hxl
   refine (show ∃ m,usesC (c.take i)=m from ⟨_,rfl⟩).elim fun m hme=>?_
   rw [hme] at htk
   simp only [hme] at hub ⊢
   have hyc:encCl x=[D.i .i64 x.id,.i .i64 x.dim,encC x.b]:=rfl
   simp (maxSteps:=1000000) [-map_map,-mapM_map,↓KW,encX,encC,q1,hx,hyc,one_encC,cellsA_encC,inj1_encC,scrubO_usE]
   refine loopP_inv (fun j:Nat=>j≤x.b.length) (fun j=>StL [(0,.d (encX c)),(3,.mp 1),(17,.d (encX c)),(18,.d (.i .i64 c.length)),(19,.d (.i .i64 (i:Int))),(24,.d (encC x.b)),(25,.d (.i .i64 x.b.length)),(26,.d (.i .i64 (j:Int)))] none [.map .i64 (usE (usesF (x.b.take j) m))]) (fun j=>x.b.length - j) 0 (Nat.zero_le _) ?_ ?_
   ·refine wk_l [1] (by simp) ?_ ?_ <;> simp [-map_map,upd,inj1,Γ0,encX,encC,scrubO_usE,subO_usE,usesF]
   ·intro j hj
    by_cases hgo2:j<x.b.length
    ·have q2:(j:Int)<x.b.length:=by omega
     have hf:x.b[j]? = some x.b[j]:=List.getElem?_eq_getElem hgo2
     have hw2:IntKind.i64.wrap ((j:Int)+1)=(j:Int)+1:=wrap_i64 (by omega) (by omega)
     have htk2:=usesF_take hgo2 m
     have hb2:=usesF_alk_bnd (l:=x.b.take j) hub
     rw [List.length_take] at hb2
     refine (show ∃ f,x.b[j]=f from ⟨_,rfl⟩).elim fun f hfe=>?_
     rw [hfe] at hf htk2
     refine (show ∃ m',usesF (x.b.take j) m=m' from ⟨_,rfl⟩).elim fun m' hme'=>?_
     rw [hme'] at htk2 hb2
     simp only [hme']
     have hb3:=hb2 f.1
     have hlk:∀ H:Nat→Option HO,H 1=some (.map .i64 (usE m'))→lookA Tryz.prog H 101 (.mp 1) (.d (.i .i64 f.1)) false=some (.d (.i .i64 ((alk m' f.1).getD 0))):=fun H h=>lookU H 1 m' f.1 h
     have hinc:apt m' f.1 ((alk m' f.1).getD 0+1)=incM m' f.1:=rfl
     refine (show ∃ v,(alk m' f.1).getD 0=v from ⟨_,rfl⟩).elim fun v hve=>?_
     rw [hve] at hlk hinc hb3
     have hw3:IntKind.i64.wrap (v+1)=v+1:=wrap_i64 (by omega) (by omega)
     simp (maxSteps:=1000000) [-map_map,-mapM_map,↓KW,encX,encC,encF_eq,q2,hf,hlk,hw3,hw2,mapW_mp,mput_usE,hinc,scrubO_usE,one_encM,cellsA_encM,inj1_encM]
     refine nxt_intro (j+1) hgo2 (Nat.sub_lt_sub_left hgo2 (Nat.lt_succ_self _)) (wk_l [1] (by simp) ?_ ?_) <;> simp [-map_map,upd,inj1,Γ0,encX,encC,scrubO_usE,subO_usE,htk2]
    ·have q2:¬ (j:Int)<x.b.length:=by omega
     have hb2:=usesF_alk_bnd (l:=x.b) hub
     rw [List.take_of_length_le (by omega)]
     simp (maxSteps:=1000000) [-map_map,-mapM_map,↓KW,encX,encC,q2,hw]
     refine nxt_intro (i+1) ⟨hgo,fun n=>?_⟩ (Nat.sub_lt_sub_left hgo (Nat.lt_succ_self _)) (wk_l [1] (by simp) ?_ ?_)
     ·rw [htk]; have:=hb2 n; omega
     ·simp [-map_map,upd,inj1,Γ0,encX,encC,scrubO_usE,subO_usE,htk]
     ·simp [-map_map,upd,inj1,Γ0,encX,encC,scrubO_usE,subO_usE,htk]
  ·have q1:¬ (i:Int)<c.length:=by omega
   rw [List.take_of_length_le (by omega)] at hub ⊢
   obtain ⟨hnd,hcnt⟩:=usesC_ok c
   refine (show ∃ m,usesC c=m from ⟨_,rfl⟩).elim fun m hme=>?_
   rw [hme] at hub hnd hcnt ⊢
   simp (maxSteps:=1000000) [-map_map,-mapM_map,↓KW,encX,q1]
   refine exP_wk (StL [(0,.d (encX c)),(3,.d (usD m))] none []) (wk_l [] (by simp) ?_ ?_) ?_
   ·simp [-map_map,upd,inj1,Γ0,encX]
    exact sub_frz (frz_mpA iD _ 6 1 m rfl) (fun a _ id h=>by simp [blkF] at h)
   ·trivial
   ·simp (maxSteps:=1000000) [-map_map,-mapM_map,↓KW,encX,↓o1_range,nv_rangeU m,onE_nil]
    refine loopP_inv (fun y:Option (Int × D) × List (Int × D) × List (Int × Bool)=>OnOk m y.2.1 y.2.2) (fun y=>StL [(0,.d (encX c)),(3,.d (usD m)),(8,.mp 1),(39,.ptr 2 0)] none [.map .i64 (onE y.2.2),.iter .i64 y.1 y.2.1]) (fun y=>y.2.1.length) (none,usI m,[]) (OnOk.nil m) ?_ ?_
    ·refine wk_l [1,2] (by simp) ?_ ?_ <;> simp [-map_map,upd,inj1,Γ0,encX,subO_onE,subO_iter]
    ·rintro ⟨last,rest,once⟩ hok
     simp only at hok ⊢
     simp (maxSteps:=1000000) [-map_map,-mapM_map,↓KW,encX,↓o1_next,itA_ptr]
     refine nextP_intro (fun he=>?_) (fun j ⟨n,w⟩ he=>?_)
     ·subst he
      have hfin:=hok.fin hnd
      simp (maxSteps:=1000000) [-map_map,-mapM_map,↓KW,encX]
      refine loopP_inv (fun y:Nat × List (Int × Int)=>y.1≤c.length∧y.2.length≤100 * y.1∧(c.take y.1).flatMap (frCell c)=y.2) (fun y=>grQ1 11 [(0,.d (encX c)),(3,.d (usD m)),(8,.mp 1),(49,.d (encX c)),(50,.d (.i .i64 c.length)),(51,.d (.i .i64 (y.1:Int)))] (.map .i64 (onE once)) 59 2 y.2.length (flt encPr y.2)) (fun y=>c.length - y.1) (0,[]) ⟨Nat.zero_le _,Nat.zero_le _,rfl⟩ ?_ ?_
      ·simp only [List.length_nil,grQ1]
       refine wk_l [1] (by simp) ?_ ?_ <;> simp [-map_map,upd,inj1,Γ0,encX,subO_onE,blksOk]
      ·clear hi hgo q1 i hub
       rintro ⟨i,l⟩ ⟨hi,hll,hl⟩
       simp only at hi hll hl ⊢
       by_cases hgo:i<c.length
       ·have q1:(i:Int)<c.length:=by omega
        have hx:c[i]? = some c[i]:=List.getElem?_eq_getElem hgo
        have hw:IntKind.i64.wrap ((i:Int)+1)=(i:Int)+1:=wrap_i64 (by omega) (by omega)
        have htk:=freeX_take (d:=c) hgo
        rw [hl] at htk
        have hxl:=hz.bl _ (List.getElem_mem hgo)
        have hxb:=hz.bb _ (List.getElem_mem hgo)
        refine (show ∃ x,c[i]=x from ⟨_,rfl⟩).elim fun x hxe=>?_
        rw [hxe] at hx htk hxl hxb
        have hyc:encCl x=[D.i .i64 x.id,.i .i64 x.dim,encC x.b]:=rfl
        have hlu:∀ H:Nat→Option HO,lookA Tryz.prog H 101 (.d (usD m)) (.d (.i .i64 x.id)) false=some (.d (.i .i64 ((cntC x.id c:Nat):Int))):=fun H=>by rw [lookUD H m x.id,hcnt]
        rcases hn:l.length with _ | k
        ·simp only [hn,grQ1]
         by_cases h0:0<cntC x.id c
         ·have h0':(0:Int)<((cntC x.id c:Nat):Int):=by omega
          have hfc:frCell c x=[]:=by unfold frCell; rw [if_pos h0]
          rw [hfc,List.append_nil] at htk
          simp (maxSteps:=1000000) [-map_map,-mapM_map,↓KW,encX,q1,hx,hyc,hlu,h0,h0',hw,one_encC,cellsA_encC,inj1_encC,scrubO_onE]
          refine nxt_intro (τ:=Nat × List (Int × Int)) (i+1,l) ⟨hgo,by simp only; omega,htk⟩ (Nat.sub_lt_sub_left hgo (Nat.lt_succ_self _)) ?_
          simp only [hn,grQ1]
          refine wk_l [1] (by simp) ?_ ?_ <;> simp [-map_map,upd,inj1,Γ0,encX,subO_onE,blksOk]
         ·have h0':¬ (0:Int)<((cntC x.id c:Nat):Int):=by omega
          have hfc:frCell c x=(x.b.filter (frOk c)).map fun f=>(x.id,f.1):=by unfold frCell; rw [if_neg h0]
          rw [hfc] at htk
          simp (maxSteps:=1000000) [-map_map,-mapM_map,↓KW,encX,encC,q1,hx,hyc,hlu,h0,h0',hw,one_encC,cellsA_encC,inj1_encC,scrubO_onE]
          refine loopP_inv (fun y:Nat × List (Int × Int)=>y.1≤x.b.length∧y.2.length≤100 * i+y.1∧l++((x.b.take y.1).filter (frOk c)).map (fun f=>(x.id,f.1))=y.2) (fun y=>grQ2 11 [(0,.d (encX c)),(3,.d (usD m)),(8,.mp 1),(13,.ptr 2 0),(49,.d (encX c)),(50,.d (.i .i64 c.length)),(51,.d (.i .i64 (i:Int))),(61,.d (encC x.b)),(62,.d (.i .i64 x.b.length)),(63,.d (.i .i64 (y.1:Int)))] (.map .i64 (onE once)) (.cells 47 [.d (.i .i64 x.id),.d (.i .i64 x.dim),.d (encC x.b)]) 59 2 y.2.length (flt encPr y.2)) (fun y=>x.b.length - y.1) (0,l) ⟨Nat.zero_le _,by simp only; omega,by simp⟩ ?_ ?_
          ·simp only [hn,grQ2]
           refine wk_l [1,2] (by simp) ?_ ?_ <;> simp [-map_map,upd,inj1,Γ0,encX,encC,subO_onE,blksOk]
          ·rintro ⟨j,l2⟩ ⟨hj,hl2,hinv⟩
           simp only at hj hl2 hinv ⊢
           by_cases hgo2:j<x.b.length
           ·have q2:(j:Int)<x.b.length:=by omega
            have hf:x.b[j]? = some x.b[j]:=List.getElem?_eq_getElem hgo2
            have hw2:IntKind.i64.wrap ((j:Int)+1)=(j:Int)+1:=wrap_i64 (by omega) (by omega)
            have hfb:=hxb _ (List.getElem_mem hgo2)
            have htk2:=frIn_take (c:=c) x.id hgo2
            refine (show ∃ f,x.b[j]=f from ⟨_,rfl⟩).elim fun f hfe=>?_
            rw [hfe] at hf htk2 hfb
            have hinv2:l++((x.b.take (j+1)).filter (frOk c)).map (fun f=>(x.id,f.1))=l2++if frOk c f then [(x.id,f.1)] else []:=by rw [htk2,← List.append_assoc,hinv]
            have hef:encF f=[.i .i64 f.1,.b (decide (f.2<0)),encM (digs f.2.natAbs)]:=rfl
            obtain ⟨n,z⟩:=f
            simp only at hfb hef hinv2
            have hzS:Sz z:=szE hfb (by omega)
            have hon:(alk once n).getD false=decide (cntC n c=1):=by
             rw [Bool.eq_iff_iff,hfin,hcnt,decide_eq_true_eq]; simp only; omega
            have hlo:∀ H:Nat→Option HO,H 1=some (.map .i64 (onE once))→lookA Tryz.prog H 102 (.mp 1) (.d (.i .i64 n)) false=some (.d (.b (decide (cntC n c=1)))):=fun H h=>by rw [lookO H 1 once n h,hon]
            have hm1:(1:Nat)≤maxLen:=le_maxLen (by decide)
            rcases hn2:l2.length with _ | k
            ·by_cases h1:cntC n c=1
             ·have hA:=intAbsZ z hzS
              have hO:=intOf1
              obtain ⟨r,hC,hr⟩:=intCmpZ (z.natAbs:Int) 1 (by unfold Sz at hzS ⊢; rw [Int.natAbs_natCast]; exact hzS) sz1
              rw [decide_eq_true h1] at hlo
              simp only [grQ2]
              simp (maxSteps:=1000000) [-map_map,-mapM_map,↓KW,encX,encC,encF_eq,q2,hf,hlo,one_encM,cellsA_encM,inj1_encM]
              refine callP_intro (ds:=[encZ z]) (by rfl) hA ?_
              simp (maxSteps:=1000000) [-map_map,-mapM_map,↓KW,encX,encC,encF_eq,encZ_eq,one_encM,cellsA_encM,inj1_encM,scrubO_onE]
              refine callP_intro (ds:=[.i .i64 1]) (by rfl) hO ?_
              simp (maxSteps:=1000000) [-map_map,-mapM_map,↓KW,encX,encC,encF_eq,encZ_eq,one_encM,cellsA_encM,inj1_encM,scrubO_onE]
              refine callP_intro (ds:=[encZ (z.natAbs:Int),encZ 1]) (by rfl) hC ?_
              by_cases hz1:z.natAbs=1
              ·have hr0:r=0:=hr.2 (by omega)
               have hok:frOk c (n,z)=true:=by unfold frOk; simp [h1,hz1]
               rw [hok,if_pos rfl] at hinv2
               rw [hr0]
               have e0:l2=[]:=List.eq_nil_of_length_eq_zero hn2
               simp (maxSteps:=1000000) [-map_map,-mapM_map,↓KW,hr0,hw2,hm1,scrubO_onE]
               refine nxt_intro (τ:=Nat × List (Int × Int)) (j+1,l2++[(x.id,n)]) ⟨hgo2,by simp only [List.length_append,List.length_singleton]; omega,hinv2⟩ (Nat.sub_lt_sub_left hgo2 (Nat.lt_succ_self _)) ?_
               simp only [List.length_append,hn2,List.length_singleton,grQ2]
               refine wk_l [1,2,5] (by simp) ?_ ?_ <;> simp [-map_map,upd,inj1,Γ0,encX,encC,subO_onE,e0,flt_one,encPr_eq]
              ·have hr0:((r == 0):Bool)=false:=by simp; exact fun h=>hz1 (by have:=hr.1 h; omega)
               have hok:frOk c (n,z)=false:=by unfold frOk; simp [hz1]
               rw [hok] at hinv2
               simp only [Bool.false_eq_true,if_false,List.append_nil] at hinv2
               simp (maxSteps:=1000000) [-map_map,-mapM_map,↓KW,hr0,hw2,scrubO_onE]
               refine nxt_intro (τ:=Nat × List (Int × Int)) (j+1,l2) ⟨hgo2,by simp only; omega,hinv2⟩ (Nat.sub_lt_sub_left hgo2 (Nat.lt_succ_self _)) ?_
               simp only [hn2,grQ2]
               refine wk_l [1,2] (by simp) ?_ ?_ <;> simp [-map_map,upd,inj1,Γ0,encX,encC,subO_onE,blksOk]
             ·rw [decide_eq_false h1] at hlo
              have hok:frOk c (n,z)=false:=by unfold frOk; simp [h1]
              rw [hok] at hinv2
              simp only [Bool.false_eq_true,if_false,List.append_nil] at hinv2
              simp only [grQ2]
              simp (maxSteps:=1000000) [-map_map,-mapM_map,↓KW,encX,encC,encF_eq,q2,hf,hlo,hw2,one_encM,cellsA_encM,inj1_encM,scrubO_onE]
              refine nxt_intro (τ:=Nat × List (Int × Int)) (j+1,l2) ⟨hgo2,by simp only; omega,hinv2⟩ (Nat.sub_lt_sub_left hgo2 (Nat.lt_succ_self _)) ?_
              simp only [hn2,grQ2]
              refine wk_l [1,2] (by simp) ?_ ?_ <;> simp [-map_map,upd,inj1,Γ0,encX,encC,subO_onE,blksOk]
            ·by_cases h1:cntC n c=1
             ·have hA:=intAbsZ z hzS
              have hO:=intOf1
              obtain ⟨r,hC,hr⟩:=intCmpZ (z.natAbs:Int) 1 (by unfold Sz at hzS ⊢; rw [Int.natAbs_natCast]; exact hzS) sz1
              rw [decide_eq_true h1] at hlo
              simp only [grQ2]
              simp (maxSteps:=1000000) [-map_map,-mapM_map,↓KW,encX,encC,encF_eq,q2,hf,hlo,one_encM,cellsA_encM,inj1_encM]
              refine callP_intro (ds:=[encZ z]) (by rfl) hA ?_
              simp (maxSteps:=1000000) [-map_map,-mapM_map,↓KW,encX,encC,encF_eq,encZ_eq,one_encM,cellsA_encM,inj1_encM,scrubO_onE]
              refine callP_intro (ds:=[.i .i64 1]) (by rfl) hO ?_
              simp (maxSteps:=1000000) [-map_map,-mapM_map,↓KW,encX,encC,encF_eq,encZ_eq,one_encM,cellsA_encM,inj1_encM,scrubO_onE]
              refine callP_intro (ds:=[encZ (z.natAbs:Int),encZ 1]) (by rfl) hC ?_
              by_cases hz1:z.natAbs=1
              ·have hr0:r=0:=hr.2 (by omega)
               have hok:frOk c (n,z)=true:=by unfold frOk; simp [h1,hz1]
               rw [hok,if_pos rfl] at hinv2
               rw [hr0]
               have hbb:=app_bounds (n:=k+1) (by omega)
               have hcl:=flt_len encPr_len l2
               rw [hn2] at hcl
               have hal:=flt_all encPr_one l2
               have hb8:(k+1+1) * 16≤140737488355328:=by omega
               simp (maxSteps:=1000000) [-map_map,-mapM_map,↓KW,hr0,hw2,hm1,hbb,hb8,hcl,hal,le_maxLen,scrubO_onE]
               refine nxt_intro (τ:=Nat × List (Int × Int)) (j+1,l2++[(x.id,n)]) ⟨hgo2,by simp only [List.length_append,List.length_singleton]; omega,hinv2⟩ (Nat.sub_lt_sub_left hgo2 (Nat.lt_succ_self _)) ?_
               simp only [List.length_append,hn2,List.length_singleton,grQ2]
               refine wk_l [1,2,6] (by simp) ?_ ?_ <;> simp [-map_map,upd,inj1,Γ0,encX,encC,scrubO_onE,subO_onE,flt_app,flt_one,encPr_eq]
              ·have hr0:((r == 0):Bool)=false:=by simp; exact fun h=>hz1 (by have:=hr.1 h; omega)
               have hok:frOk c (n,z)=false:=by unfold frOk; simp [hz1]
               rw [hok] at hinv2
               simp only [Bool.false_eq_true,if_false,List.append_nil] at hinv2
               simp (maxSteps:=1000000) [-map_map,-mapM_map,↓KW,hr0,hw2,scrubO_onE]
               refine nxt_intro (τ:=Nat × List (Int × Int)) (j+1,l2) ⟨hgo2,by simp only; omega,hinv2⟩ (Nat.sub_lt_sub_left hgo2 (Nat.lt_succ_self _)) ?_
               simp only [hn2,grQ2]
               refine wk_l [1,2,3] (by simp) ?_ ?_ <;> simp [-map_map,upd,inj1,Γ0,encX,encC,subO_onE,blksOk]
             ·rw [decide_eq_false h1] at hlo
              have hok:frOk c (n,z)=false:=by unfold frOk; simp [h1]
              rw [hok] at hinv2
              simp only [Bool.false_eq_true,if_false,List.append_nil] at hinv2
              simp only [grQ2]
              simp (maxSteps:=1000000) [-map_map,-mapM_map,↓KW,encX,encC,encF_eq,q2,hf,hlo,hw2,one_encM,cellsA_encM,inj1_encM,scrubO_onE]
              refine nxt_intro (τ:=Nat × List (Int × Int)) (j+1,l2) ⟨hgo2,by simp only; omega,hinv2⟩ (Nat.sub_lt_sub_left hgo2 (Nat.lt_succ_self _)) ?_
              simp only [hn2,grQ2]
              refine wk_l [1,2,3] (by simp) ?_ ?_ <;> simp [-map_map,upd,inj1,Γ0,encX,encC,subO_onE,blksOk]
           ·have q2:¬ (j:Int)<x.b.length:=by omega
            rw [List.take_of_length_le (by omega)] at hinv
            rcases hn2:l2.length with _ | k
            ·simp only [grQ2]
             simp (maxSteps:=1000000) [-map_map,-mapM_map,↓KW,encX,encC,q2,hw,scrubO_onE]
             refine nxt_intro (τ:=Nat × List (Int × Int)) (i+1,l2) ⟨hgo,by simp only; omega,by rw [htk,hinv]⟩ (Nat.sub_lt_sub_left hgo (Nat.lt_succ_self _)) ?_
             simp only [hn2,grQ1]
             refine wk_l [1] (by simp) ?_ ?_ <;> simp [-map_map,upd,inj1,Γ0,encX,subO_onE,blksOk]
            ·simp only [grQ2]
             simp (maxSteps:=1000000) [-map_map,-mapM_map,↓KW,encX,encC,q2,hw,scrubO_onE]
             refine nxt_intro (τ:=Nat × List (Int × Int)) (i+1,l2) ⟨hgo,by simp only; omega,by rw [htk,hinv]⟩ (Nat.sub_lt_sub_left hgo (Nat.lt_succ_self _)) ?_
             simp only [hn2,grQ1]
             refine wk_l [1,3] (by simp) ?_ ?_ <;> simp [-map_map,upd,inj1,Γ0,encX,subO_onE,blksOk]
        ·simp only [hn,grQ1]
         by_cases h0:0<cntC x.id c
         ·have h0':(0:Int)<((cntC x.id c:Nat):Int):=by omega
          have hfc:frCell c x=[]:=by unfold frCell; rw [if_pos h0]
          rw [hfc,List.append_nil] at htk
          simp (maxSteps:=1000000) [-map_map,-mapM_map,↓KW,encX,q1,hx,hyc,hlu,h0,h0',hw,one_encC,cellsA_encC,inj1_encC,scrubO_onE]
          refine nxt_intro (τ:=Nat × List (Int × Int)) (i+1,l) ⟨hgo,by simp only; omega,htk⟩ (Nat.sub_lt_sub_left hgo (Nat.lt_succ_self _)) ?_
          simp only [hn,grQ1]
          refine wk_l [1,2] (by simp) ?_ ?_ <;> simp [-map_map,upd,inj1,Γ0,encX,subO_onE,blksOk]
         ·have h0':¬ (0:Int)<((cntC x.id c:Nat):Int):=by omega
          have hfc:frCell c x=(x.b.filter (frOk c)).map fun f=>(x.id,f.1):=by unfold frCell; rw [if_neg h0]
          rw [hfc] at htk
          simp (maxSteps:=1000000) [-map_map,-mapM_map,↓KW,encX,encC,q1,hx,hyc,hlu,h0,h0',hw,one_encC,cellsA_encC,inj1_encC,scrubO_onE]
          refine loopP_inv (fun y:Nat × List (Int × Int)=>y.1≤x.b.length∧y.2.length≤100 * i+y.1∧l++((x.b.take y.1).filter (frOk c)).map (fun f=>(x.id,f.1))=y.2) (fun y=>grQ2 11 [(0,.d (encX c)),(3,.d (usD m)),(8,.mp 1),(13,.ptr 2 0),(49,.d (encX c)),(50,.d (.i .i64 c.length)),(51,.d (.i .i64 (i:Int))),(61,.d (encC x.b)),(62,.d (.i .i64 x.b.length)),(63,.d (.i .i64 (y.1:Int)))] (.map .i64 (onE once)) (.cells 47 [.d (.i .i64 x.id),.d (.i .i64 x.dim),.d (encC x.b)]) 59 2 y.2.length (flt encPr y.2)) (fun y=>x.b.length - y.1) (0,l) ⟨Nat.zero_le _,by simp only; omega,by simp⟩ ?_ ?_
          ·simp only [hn,grQ2]
           refine wk_l [1,3,2] (by simp) ?_ ?_ <;> simp [-map_map,upd,inj1,Γ0,encX,encC,subO_onE,blksOk]
          ·rintro ⟨j,l2⟩ ⟨hj,hl2,hinv⟩
           simp only at hj hl2 hinv ⊢
           by_cases hgo2:j<x.b.length
           ·have q2:(j:Int)<x.b.length:=by omega
            have hf:x.b[j]? = some x.b[j]:=List.getElem?_eq_getElem hgo2
            have hw2:IntKind.i64.wrap ((j:Int)+1)=(j:Int)+1:=wrap_i64 (by omega) (by omega)
            have hfb:=hxb _ (List.getElem_mem hgo2)
            have htk2:=frIn_take (c:=c) x.id hgo2
            refine (show ∃ f,x.b[j]=f from ⟨_,rfl⟩).elim fun f hfe=>?_
            rw [hfe] at hf htk2 hfb
            have hinv2:l++((x.b.take (j+1)).filter (frOk c)).map (fun f=>(x.id,f.1))=l2++if frOk c f then [(x.id,f.1)] else []:=by rw [htk2,← List.append_assoc,hinv]
            have hef:encF f=[.i .i64 f.1,.b (decide (f.2<0)),encM (digs f.2.natAbs)]:=rfl
            obtain ⟨n,z⟩:=f
            simp only at hfb hef hinv2
            have hzS:Sz z:=szE hfb (by omega)
            have hon:(alk once n).getD false=decide (cntC n c=1):=by
             rw [Bool.eq_iff_iff,hfin,hcnt,decide_eq_true_eq]; simp only; omega
            have hlo:∀ H:Nat→Option HO,H 1=some (.map .i64 (onE once))→lookA Tryz.prog H 102 (.mp 1) (.d (.i .i64 n)) false=some (.d (.b (decide (cntC n c=1)))):=fun H h=>by rw [lookO H 1 once n h,hon]
            have hm1:(1:Nat)≤maxLen:=le_maxLen (by decide)
            rcases hn2:l2.length with _ | k
            ·by_cases h1:cntC n c=1
             ·have hA:=intAbsZ z hzS
              have hO:=intOf1
              obtain ⟨r,hC,hr⟩:=intCmpZ (z.natAbs:Int) 1 (by unfold Sz at hzS ⊢; rw [Int.natAbs_natCast]; exact hzS) sz1
              rw [decide_eq_true h1] at hlo
              simp only [grQ2]
              simp (maxSteps:=1000000) [-map_map,-mapM_map,↓KW,encX,encC,encF_eq,q2,hf,hlo,one_encM,cellsA_encM,inj1_encM]
              refine callP_intro (ds:=[encZ z]) (by rfl) hA ?_
              simp (maxSteps:=1000000) [-map_map,-mapM_map,↓KW,encX,encC,encF_eq,encZ_eq,one_encM,cellsA_encM,inj1_encM,scrubO_onE]
              refine callP_intro (ds:=[.i .i64 1]) (by rfl) hO ?_
              simp (maxSteps:=1000000) [-map_map,-mapM_map,↓KW,encX,encC,encF_eq,encZ_eq,one_encM,cellsA_encM,inj1_encM,scrubO_onE]
              refine callP_intro (ds:=[encZ (z.natAbs:Int),encZ 1]) (by rfl) hC ?_
              by_cases hz1:z.natAbs=1
              ·have hr0:r=0:=hr.2 (by omega)
               have hok:frOk c (n,z)=true:=by unfold frOk; simp [h1,hz1]
               rw [hok,if_pos rfl] at hinv2
               rw [hr0]
               have e0:l2=[]:=List.eq_nil_of_length_eq_zero hn2
               simp (maxSteps:=1000000) [-map_map,-mapM_map,↓KW,hr0,hw2,hm1,scrubO_onE]
               refine nxt_intro (τ:=Nat × List (Int × Int)) (j+1,l2++[(x.id,n)]) ⟨hgo2,by simp only [List.length_append,List.length_singleton]; omega,hinv2⟩ (Nat.sub_lt_sub_left hgo2 (Nat.lt_succ_self _)) ?_
               simp only [List.length_append,hn2,List.length_singleton,grQ2]
               refine wk_l [1,2,5] (by simp) ?_ ?_ <;> simp [-map_map,upd,inj1,Γ0,encX,encC,subO_onE,e0,flt_one,encPr_eq]
              ·have hr0:((r == 0):Bool)=false:=by simp; exact fun h=>hz1 (by have:=hr.1 h; omega)
               have hok:frOk c (n,z)=false:=by unfold frOk; simp [hz1]
               rw [hok] at hinv2
               simp only [Bool.false_eq_true,if_false,List.append_nil] at hinv2
               simp (maxSteps:=1000000) [-map_map,-mapM_map,↓KW,hr0,hw2,scrubO_onE]
               refine nxt_intro (τ:=Nat × List (Int × Int)) (j+1,l2) ⟨hgo2,by simp only; omega,hinv2⟩ (Nat.sub_lt_sub_left hgo2 (Nat.lt_succ_self _)) ?_
               simp only [hn2,grQ2]
               refine wk_l [1,2] (by simp) ?_ ?_ <;> simp [-map_map,upd,inj1,Γ0,encX,encC,subO_onE,blksOk]
             ·rw [decide_eq_false h1] at hlo
              have hok:frOk c (n,z)=false:=by unfold frOk; simp [h1]
              rw [hok] at hinv2
              simp only [Bool.false_eq_true,if_false,List.append_nil] at hinv2
              simp only [grQ2]
              simp (maxSteps:=1000000) [-map_map,-mapM_map,↓KW,encX,encC,encF_eq,q2,hf,hlo,hw2,one_encM,cellsA_encM,inj1_encM,scrubO_onE]
              refine nxt_intro (τ:=Nat × List (Int × Int)) (j+1,l2) ⟨hgo2,by simp only; omega,hinv2⟩ (Nat.sub_lt_sub_left hgo2 (Nat.lt_succ_self _)) ?_
              simp only [hn2,grQ2]
              refine wk_l [1,2] (by simp) ?_ ?_ <;> simp [-map_map,upd,inj1,Γ0,encX,encC,subO_onE,blksOk]
            ·by_cases h1:cntC n c=1
             ·have hA:=intAbsZ z hzS
              have hO:=intOf1
              obtain ⟨r,hC,hr⟩:=intCmpZ (z.natAbs:Int) 1 (by unfold Sz at hzS ⊢; rw [Int.natAbs_natCast]; exact hzS) sz1
              rw [decide_eq_true h1] at hlo
              simp only [grQ2]
              simp (maxSteps:=1000000) [-map_map,-mapM_map,↓KW,encX,encC,encF_eq,q2,hf,hlo,one_encM,cellsA_encM,inj1_encM]
              refine callP_intro (ds:=[encZ z]) (by rfl) hA ?_
              simp (maxSteps:=1000000) [-map_map,-mapM_map,↓KW,encX,encC,encF_eq,encZ_eq,one_encM,cellsA_encM,inj1_encM,scrubO_onE]
              refine callP_intro (ds:=[.i .i64 1]) (by rfl) hO ?_
              simp (maxSteps:=1000000) [-map_map,-mapM_map,↓KW,encX,encC,encF_eq,encZ_eq,one_encM,cellsA_encM,inj1_encM,scrubO_onE]
              refine callP_intro (ds:=[encZ (z.natAbs:Int),encZ 1]) (by rfl) hC ?_
              by_cases hz1:z.natAbs=1
              ·have hr0:r=0:=hr.2 (by omega)
               have hok:frOk c (n,z)=true:=by unfold frOk; simp [h1,hz1]
               rw [hok,if_pos rfl] at hinv2
               rw [hr0]
               have hbb:=app_bounds (n:=k+1) (by omega)
               have hcl:=flt_len encPr_len l2
               rw [hn2] at hcl
               have hal:=flt_all encPr_one l2
               have hb8:(k+1+1) * 16≤140737488355328:=by omega
               simp (maxSteps:=1000000) [-map_map,-mapM_map,↓KW,hr0,hw2,hm1,hbb,hb8,hcl,hal,le_maxLen,scrubO_onE]
               refine nxt_intro (τ:=Nat × List (Int × Int)) (j+1,l2++[(x.id,n)]) ⟨hgo2,by simp only [List.length_append,List.length_singleton]; omega,hinv2⟩ (Nat.sub_lt_sub_left hgo2 (Nat.lt_succ_self _)) ?_
               simp only [List.length_append,hn2,List.length_singleton,grQ2]
               refine wk_l [1,2,6] (by simp) ?_ ?_ <;> simp [-map_map,upd,inj1,Γ0,encX,encC,scrubO_onE,subO_onE,flt_app,flt_one,encPr_eq]
              ·have hr0:((r == 0):Bool)=false:=by simp; exact fun h=>hz1 (by have:=hr.1 h; omega)
               have hok:frOk c (n,z)=false:=by unfold frOk; simp [hz1]
               rw [hok] at hinv2
               simp only [Bool.false_eq_true,if_false,List.append_nil] at hinv2
               simp (maxSteps:=1000000) [-map_map,-mapM_map,↓KW,hr0,hw2,scrubO_onE]
               refine nxt_intro (τ:=Nat × List (Int × Int)) (j+1,l2) ⟨hgo2,by simp only; omega,hinv2⟩ (Nat.sub_lt_sub_left hgo2 (Nat.lt_succ_self _)) ?_
               simp only [hn2,grQ2]
               refine wk_l [1,2,3] (by simp) ?_ ?_ <;> simp [-map_map,upd,inj1,Γ0,encX,encC,subO_onE,blksOk]
             ·rw [decide_eq_false h1] at hlo
              have hok:frOk c (n,z)=false:=by unfold frOk; simp [h1]
              rw [hok] at hinv2
              simp only [Bool.false_eq_true,if_false,List.append_nil] at hinv2
              simp only [grQ2]
              simp (maxSteps:=1000000) [-map_map,-mapM_map,↓KW,encX,encC,encF_eq,q2,hf,hlo,hw2,one_encM,cellsA_encM,inj1_encM,scrubO_onE]
              refine nxt_intro (τ:=Nat × List (Int × Int)) (j+1,l2) ⟨hgo2,by simp only; omega,hinv2⟩ (Nat.sub_lt_sub_left hgo2 (Nat.lt_succ_self _)) ?_
              simp only [hn2,grQ2]
              refine wk_l [1,2,3] (by simp) ?_ ?_ <;> simp [-map_map,upd,inj1,Γ0,encX,encC,subO_onE,blksOk]
           ·have q2:¬ (j:Int)<x.b.length:=by omega
            rw [List.take_of_length_le (by omega)] at hinv
            rcases hn2:l2.length with _ | k
            ·simp only [grQ2]
             simp (maxSteps:=1000000) [-map_map,-mapM_map,↓KW,encX,encC,q2,hw,scrubO_onE]
             refine nxt_intro (τ:=Nat × List (Int × Int)) (i+1,l2) ⟨hgo,by simp only; omega,by rw [htk,hinv]⟩ (Nat.sub_lt_sub_left hgo (Nat.lt_succ_self _)) ?_
             simp only [hn2,grQ1]
             refine wk_l [1] (by simp) ?_ ?_ <;> simp [-map_map,upd,inj1,Γ0,encX,subO_onE,blksOk]
            ·simp only [grQ2]
             simp (maxSteps:=1000000) [-map_map,-mapM_map,↓KW,encX,encC,q2,hw,scrubO_onE]
             refine nxt_intro (τ:=Nat × List (Int × Int)) (i+1,l2) ⟨hgo,by simp only; omega,by rw [htk,hinv]⟩ (Nat.sub_lt_sub_left hgo (Nat.lt_succ_self _)) ?_
             simp only [hn2,grQ1]
             refine wk_l [1,3] (by simp) ?_ ?_ <;> simp [-map_map,upd,inj1,Γ0,encX,subO_onE,blksOk]
       ·have q1:¬ (i:Int)<c.length:=by omega
        rw [List.take_of_length_le (by omega)] at hl
        have hl':freeX c=l:=hl
        rcases hn:l.length with _ | k
        ·have e0:l=[]:=List.eq_nil_of_length_eq_zero hn
         simp only [grQ1]
         simp (maxSteps:=1000000) [-map_map,-mapM_map,↓KW,encX,encPrs,q1,hl',e0]
        ·have e1:=flt_take encPr_len hn
         have e2:=flt_chunk (by decide) encPr_len hn
         have e3:=flt_len encPr_len l
         rw [hn] at e3
         simp only [grQ1]
         simp (maxSteps:=1000000) [-map_map,-mapM_map,↓KW,encX,encPrs,q1,hl',e1,e2,e3,hn]
     ·have hlt:=(List.getElem?_eq_some_iff.1 he).1
      obtain ⟨n',v,hnv,hnm⟩:∃ n' v,((n,w):Int × D)=(n',iD v)∧(n',v)∈m:=by
       obtain ⟨done,h1,_⟩:=hok
       exact usI_mem (h1.mem_iff.1 (List.mem_append_right _ (List.mem_of_getElem? he)))
      injection hnv with e1 e2
      subst e1; subst e2
      have hst:=hok.step he
      have hel:(rest.eraseIdx j).length<rest.length:=by rw [List.length_eraseIdx,if_pos hlt]; omega
      refine (show ∃ r',rest.eraseIdx j=r' from ⟨_,rfl⟩).elim fun r' hre=>?_
      rw [hre] at hst hel ⊢
      by_cases hv:v=1
      ·have hv':((v == 1):Bool)=true:=by simpa using hv
       rw [if_pos hv] at hst
       have q3:(((1:Int) == (1:Int)):Bool)=true:=rfl
       simp (maxSteps:=1000000) [-map_map,-mapM_map,↓KW,encX,↓o1_entry,entA_ptr,inj1_iD,hv',hv,q3,mapW_mp,mput_onE,scrubO_onE,scrubO_iter]
       refine nxt_intro (τ:=Option (Int × D) × List (Int × D) × List (Int × Bool)) (some (n,iD v),r',apt once n true) hst hel (wk_l [1,2] (by simp) ?_ ?_) <;> simp [-map_map,upd,inj1,Γ0,encX,subO_onE,subO_iter,hv]
      ·have hv':((v == 1):Bool)=false:=by simpa using hv
       rw [if_neg hv] at hst
       simp (maxSteps:=1000000) [-map_map,-mapM_map,↓KW,encX,↓o1_entry,entA_ptr,inj1_iD,hv',hv,mapW_mp,mput_onE,scrubO_onE,scrubO_iter]
       refine nxt_intro (τ:=Option (Int × D) × List (Int × D) × List (Int × Bool)) (some (n,iD v),r',once) hst hel (wk_l [1,2] (by simp) ?_ ?_) <;> simp [-map_map,upd,inj1,Γ0,encX,subO_onE,subO_iter]
end Go.Am
end

section
set_option linter.unusedVariables false
set_option linter.unusedSimpArgs false
open List (map_map mapM_map)
open Go Go.Am Go.Proofs
namespace Go.Am
theorem binA_ag (x y:List AV):binA .eql false (.ag x) (.ag y)=none:=rfl
theorem tai59:tai Tryz.prog 59=some .i64:=by kernel_rfl
theorem arr59 (a b c d:Int):arrA .eql (tai Tryz.prog 59) (.ag [.d (.i .i64 a),.d (.i .i64 b)]) (.ag [.d (.i .i64 c),.d (.i .i64 d)])=some (.b (a == c && b == d)):=by rw [tai59]; rfl
def ixP (l:List (Int × Int)) (p:Int × Int):Int:=if p∈l then (l.findIdx (fun q=>q == p):Nat) else -1
set_option maxHeartbeats 2000000 in
set_option maxRecDepth 10000 in
theorem idxPr (l:List (Int × Int)) (a b:Int) (hl:l.length≤1000000):Spec Tryz.prog 114 [encPrs l,.ag [.i .i64 a,.i .i64 b]] (.i .i64 (ixP l (a,b))):=by
 refine spec_of (N:=19) follows_mixed Tryz.func114 rfl rfl rfl (by kernel_rfl) (by kernel_rfl) (by simp) ?_
 simp (maxSteps:=1000000) [-map_map,-mapM_map,↓KW,encPrs]
 refine loopP_inv (fun i:Nat=>i≤l.length∧∀ j p,j<i→l[j]? = some p→p≠(a,b)) (fun i=>StL [(0,.d (encPrs l)),(3,.ptr 1 0),(7,.d (.i .i64 l.length)),(8,.d (.i .i64 (i:Int)))] none [.cells 59 [.d (.i .i64 a),.d (.i .i64 b)]]) (fun i=>l.length - i) 0 ⟨Nat.zero_le _,fun j p h=>by omega⟩ ?_ ?_
 ·refine wk_l [1] (by simp) ?_ ?_ <;> simp [-map_map,upd,inj1,Γ0,encPrs]
 ·rintro i ⟨hi,hn⟩
  by_cases hgo:i<l.length
  ·have q1:(i:Int)<l.length:=by omega
   have hx:l[i]? = some l[i]:=List.getElem?_eq_getElem hgo
   have hw:IntKind.i64.wrap ((i:Int)+1)=(i:Int)+1:=wrap_i64 (by omega) (by omega)
   have hw0:IntKind.i64.wrap (i:Int)=(i:Int):=wrap_i64 (by omega) (by omega)
   refine (show ∃ x,l[i]=x from ⟨_,rfl⟩).elim fun x hxe=>?_
   rw [hxe] at hx
   have hy:encPr x=[.i .i64 x.1,.i .i64 x.2]:=rfl
   by_cases he:x=(a,b)
   ·subst he
    have hb:((a == a && b == b):Bool)=true:=by simp
    have hix:ixP l (a,b)=i:=by
     unfold ixP
     rw [if_pos (List.mem_of_getElem? hx)]
     congr 1
     rw [List.findIdx_eq hgo]
     refine ⟨by rw [hxe]; simp,fun j hj=>?_⟩
     have:=hn j l[j] hj (List.getElem?_eq_getElem (by omega))
     simpa using this
    simp (maxSteps:=1000000) [-map_map,-mapM_map,↓KW,encPrs,q1,hx,hy,hw,binA_ag,arr59,hb,hix]
   ·have hb:((a == x.1 && b == x.2):Bool)=false:=by
     cases h:((a == x.1 && b == x.2):Bool)
     ·rfl
     ·simp only [Bool.and_eq_true,beq_iff_eq] at h
      exact (he (Prod.ext h.1.symm h.2.symm)).elim
    simp (maxSteps:=1000000) [-map_map,-mapM_map,↓KW,encPrs,q1,hx,hy,hw,binA_ag,arr59,hb]
    refine nxt_intro (i+1) ⟨hgo,fun j p hj hp=>?_⟩ (Nat.sub_lt_sub_left hgo (Nat.lt_succ_self _)) (wk_l [1] (by simp) ?_ ?_)
    ·rcases Nat.lt_or_ge j i with h | h
     ·exact hn j p h hp
     ·obtain rfl:j=i:=by omega
      rw [hx] at hp; injection hp with hp; rw [← hp]; exact he
    ·simp [-map_map,upd,inj1,Γ0,encPrs]
    ·simp [-map_map,upd,inj1,Γ0,encPrs]
  ·have q1:¬ (i:Int)<l.length:=by omega
   have hnm:(a,b) ∉ l:=fun h=>by
    obtain ⟨j,hj⟩:=List.getElem?_of_mem h
    exact hn j _ (by have:=(List.getElem?_eq_some_iff.1 hj).1; omega) hj rfl
   simp (maxSteps:=1000000) [-map_map,-mapM_map,↓KW,encPrs,q1,ixP,hnm]
set_option maxHeartbeats 2000000 in
theorem ctPr (l:List (Int × Int)) (a b:Int) (hl:l.length≤1000000):Spec Tryz.prog 80 [encPrs l,.ag [.i .i64 a,.i .i64 b]] (.b (decide ((a,b)∈l))):=by
 refine spec_of (N:=9) follows_mixed Tryz.func80 rfl rfl rfl (by kernel_rfl) (by kernel_rfl) (by simp) ?_
 have hI:=idxPr l a b hl
 have hge:decide ((0:Int)≤ixP l (a,b))=decide ((a,b)∈l):=by
  unfold ixP
  by_cases h:(a,b)∈l
  ·rw [if_pos h]; simp [h]
  ·rw [if_neg h]; simp [h]
 simp (maxSteps:=1000000) [-map_map,-mapM_map,↓KW,encPrs]
 refine callP_intro (ds:=[encPrs l,.ag [.i .i64 a,.i .i64 b]]) (by rfl) hI ?_
 simp (maxSteps:=1000000) [-map_map,-mapM_map,↓KW,encPrs,hge]
end Go.Am
end
