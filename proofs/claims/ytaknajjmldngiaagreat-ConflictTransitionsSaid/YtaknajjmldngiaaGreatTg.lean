/-
  Steps towards the claim of this seat (B19).
-/
import Derived.Test.YtaknajjmldngiaaGreatTf
import Derived.Test.YtaknajjmldngiaaGreatTe
set_option linter.unusedVariables false
set_option linter.unusedSimpArgs false
namespace Go.Proofs.YtaknajjmldngiaaGreat.Ab
open Go
def P8:Hints:=⟨[],[(3,[5,18,19,20],[3,8,12,14])],[]⟩
def P9:Hints:=⟨[],[],[]⟩
def Qa:Hints:=⟨[(6,0),(6,3),(6,4),(8,0),(8,1)],[(3,[3,6,7,8],[])],[]⟩
def Qb:Hints:=⟨[(3,2),(3,3)],[],[]⟩
def Qc:Hints:=⟨[(6,2),(11,0),(11,7),(11,8),(13,0),(13,1),(15,11),(21,0),(21,8),(21,9),(23,0),(23,1)],[(9,[3,5,33,34,35],[1,4,17,19,24,27,32,50,54,58,60,62,65,70,74,79,83,91,94]),(19,[8,84,85,86],[1,4,17,19,24,27,32,42,50,54,58,60,62,65,70,74,79,83])],[]⟩
def Qd:Hints:=⟨[],[],[]⟩
def Qe:Hints:=⟨[],[],[]⟩
theorem Zi(C:aP)(x0 x1:SV)(K:SV→Prop):body Go.Proofs.Tryz.prog gl C P8 113 [x0,x1] K=(bq [x0,x1] (ab (ax (aa x1)) fun r0=>(List.length r0)=6∧ab (ag false 1 2 r0) fun r1=>ab (bw .not (aa (aa r1))) fun r2=>ai (aa r2) (ab (ag false 1 0 r0) fun r3=>ab (ag false 1 1 r0) fun r4=>aB C 114 [(aa (aa (aa r3))),(aa (aa (aa r4)))] fun r5=>ab (aD (aa (aa x0))) fun r6=>bE (fun eg jW I9=>ab (ah none .lss (aa (ae eg 3)) (aa (ae eg 2))) fun aI=>ai aI (ab (aL 6 (aa (ae eg 1)) (aa (ae eg 3))) fun aS=>ab (az true 6 (aa aS)) fun aR=>ab (ax (aa aR)) fun aG=>(List.length aG)=6∧6≤6∧ab (ag false 1 0 (setAt eo 0 aG)) fun aU=>aB C 122 [(aa (aa (aa aU)))] fun bm=>ab (ag false 1 0 (ak jW 0)) fun bf=>aB C 122 [(aa (aa (aa bf)))] fun bg=>ab (ah (some (false,[.int])) .neq (aa bm) (aa bg)) fun bQ=>ai (aa bQ) (ab (ah none .add (aa (ae eg 3)) (.d (.int .i64 1))) fun bB=>(I9 [(ae eg 0),(ae eg 1),(ae eg 2),(aa bB)] [(af.ar (af.cells (ak jW 0)))])) (ab (ag false 1 1 (setAt eo 0 aG)) fun bC=>ab (ag false 1 1 (ak jW 0)) fun bK=>ab (ah (some (false,[.str])) .neq (aa (aa bC)) (aa (aa bK))) fun b8=>ai (aa b8) (ab (ah none .add (aa (ae eg 3)) (.d (.int .i64 1))) fun cd=>(I9 [(ae eg 0),(ae eg 1),(ae eg 2),(aa cd)] [(af.ar (af.cells (ak jW 0)))])) (ab (ag false 1 0 (setAt eo 0 aG)) fun cn=>ab (ag false 1 0 (ak jW 0)) fun b7=>ab (ah (some (false,[.int])) .neq (aa (aa cn)) (aa (aa b7))) fun b6=>ai b6 ((SV.aj (.d (.int .i64 13)))=true∧(K (.d (.int .i64 13)))) (ai (aa (aa (ae eg 0))) (ab (ah none .add (aa (ae eg 3)) (.d (.int .i64 1))) fun bV=>(I9 [(.d (.bool true)),(ae eg 1),(ae eg 2),(aa bV)] [(af.ar (af.cells (ak jW 0)))])) (ab (ag false 1 2 (ak jW 0)) fun cr=>ab (bw .not (aa (aa cr))) fun bR=>ai (aa bR) (ab (ag false 1 2 (setAt eo 0 aG)) fun cV=>ab (bw .not (aa (aa cV))) fun cY=>ab (ah none .add (aa (ae eg 3)) (.d (.int .i64 1))) fun dp=>(I9 [(aa (aa (aa cY))),(ae eg 1),(ae eg 2),(aa dp)] [(af.ar (af.cells (ak jW 0)))])) (ab (ah none .add (aa (ae eg 3)) (.d (.int .i64 1))) fun cF=>(I9 [(.d (.bool false)),(ae eg 1),(ae eg 2),(aa cF)] [(af.ar (af.cells (ak jW 0)))]))))))) (ai (aa (ae eg 0)) ((SV.aj (.d (.int .i64 12)))=true∧(K (.d (.int .i64 12)))) ((SV.aj (.d (.int .i64 0)))=true∧(K (.d (.int .i64 0)))))) [(aa (aa r5)),(aa x0),r6,(.d (.int .i64 0))] [(af.ar (af.cells r0))]) (ab (aD (aa (aa x0))) fun dP=>bE (fun eI jq uG=>ab (ah none .lss (aa (ae eI 3)) (aa (ae eI 2))) fun dA=>ai dA (ab (aL 6 (aa (ae eI 1)) (aa (ae eI 3))) fun dr=>ab (az true 6 (aa dr)) fun dB=>ab (ax (aa dB)) fun dG=>(List.length dG)=6∧6≤6∧ab (ag false 1 0 (setAt eo 0 dG)) fun dL=>aB C 122 [(aa (aa (aa dL)))] fun dt=>ab (ag false 1 0 (ak jq 0)) fun eh=>aB C 122 [(aa (aa (aa eh)))] fun ep=>ab (ah (some (false,[.int])) .neq (aa dt) (aa ep)) fun er=>ai (aa er) (ab (ah none .add (aa (ae eI 3)) (.d (.int .i64 1))) fun eO=>(uG [(ae eI 0),(ae eI 1),(ae eI 2),(aa eO)] [(af.ar (af.cells (ak jq 0)))])) (ab (ag false 1 1 (setAt eo 0 dG)) fun eY=>ab (ag false 1 1 (ak jq 0)) fun eA=>ab (ah (some (false,[.str])) .neq (aa (aa eY)) (aa (aa eA))) fun eG=>ai (aa eG) (ab (ah none .add (aa (ae eI 3)) (.d (.int .i64 1))) fun fa=>(uG [(ae eI 0),(ae eI 1),(ae eI 2),(aa fa)] [(af.ar (af.cells (ak jq 0)))])) (ab (ag false 1 0 (setAt eo 0 dG)) fun fJ=>ab (ag false 1 0 (ak jq 0)) fun fK=>ab (ah (some (false,[.int])) .neq (aa (aa fJ)) (aa (aa fK))) fun e9=>ai e9 ((SV.aj (.d (.int .i64 13)))=true∧(K (.d (.int .i64 13)))) (ai (aa (aa (ae eI 0))) (ab (ah none .add (aa (ae eI 3)) (.d (.int .i64 1))) fun eC=>(uG [(.d (.bool true)),(ae eI 1),(ae eI 2),(aa eC)] [(af.ar (af.cells (ak jq 0)))])) (ab (ag false 1 2 (ak jq 0)) fun eM=>ab (bw .not (aa (aa eM))) fun eS=>ai (aa eS) (ab (ag false 1 2 (setAt eo 0 dG)) fun eT=>ab (bw .not (aa (aa eT))) fun eZ=>ab (ah none .add (aa (ae eI 3)) (.d (.int .i64 1))) fun ff=>(uG [(aa (aa (aa eZ))),(ae eI 1),(ae eI 2),(aa ff)] [(af.ar (af.cells (ak jq 0)))])) (ab (ah none .add (aa (ae eI 3)) (.d (.int .i64 1))) fun fB=>(uG [(.d (.bool false)),(ae eI 1),(ae eI 2),(aa fB)] [(af.ar (af.cells (ak jq 0)))]))))))) (ai (aa (ae eI 0)) ((SV.aj (.d (.int .i64 12)))=true∧(K (.d (.int .i64 12)))) ((SV.aj (.d (.int .i64 0)))=true∧(K (.d (.int .i64 0)))))) [(.d (.bool false)),(aa x0),dP,(.d (.int .i64 0))] [(af.ar (af.cells r0))]))):=by kernel_rfl
theorem Zj(C:aP)(x0 x1:SV)(K:SV→Prop):body Go.Proofs.Tryz.prog gl C P9 114 [x0,x1] K=(bq [x0,x1] (ab (ah (some (false,[.int])) .eql (aa (aa x0)) (.d (.int .i64 4))) fun r0=>ai (aa r0) (ab (ah (some (false,[.str])) .eql (aa (aa x1)) (.d (.str [111,98,106,101,99,116,95,114]))) fun r1=>(SV.aj (aa (aa r1)))=true∧(K (aa (aa r1)))) ((SV.aj (.d (.bool false)))=true∧(K (.d (.bool false)))))):=by kernel_rfl
theorem Zk(C:aP)(x0:SV)(K:SV→Prop):body Go.Proofs.Tryz.prog gl C Qa 115 [x0] K=(bq [x0] (ab (aD (aa (aa x0))) fun r0=>bE (fun aH dZ I3=>ab (ah none .lss (aa (ae aH 3)) (aa (ae aH 2))) fun r4=>ai r4 (ab (aL 1 (aa (ae aH 1)) (aa (ae aH 3))) fun r5=>ab (az false 1 (aa r5)) fun r6=>aB C 103 [(aa (aa (aa (ae aH 0)))),(aa (aa (aa (aa r6))))] fun r7=>ab (bw .not (aa r7)) fun r8=>ai r8 (ab (aM [(0,(.v (aa (aa (aa r6)))))]) fun r9=>(bY 1 1 r9)=true∧cm 1 16 (ae aH 0) (.full 1 (bW (cf false [(.str [])]) r9 1 0)) fun aI=>ab (ah none .add (aa (ae aH 3)) (.d (.int .i64 1))) fun aS=>(I3 [aI,(ae aH 1),(ae aH 2),(aa aS)] [])) (ab (ah none .add (aa (ae aH 3)) (.d (.int .i64 1))) fun aR=>(I3 [(ae aH 0),(ae aH 1),(ae aH 2),(aa aR)] []))) ((SV.aj (ae aH 0))=true∧(K (ae aH 0)))) [(.d (.sl .nil 0 [])),(aa x0),r0,(.d (.int .i64 0))] [])):=by kernel_rfl
theorem Zl(C:aP)(x0:SV)(K:SV→Prop):body Go.Proofs.Tryz.prog gl C Qb 116 [x0] K=(bq [x0] (ab (ah (some (false,[])) .eql (aa (aa x0)) (.d (.sl .nil 0 []))) fun r0=>ai r0 ((SV.aj (.d (.sl .nil 0 [])))=true∧(K (.d (.sl .nil 0 [])))) (ab (aM []) fun r1=>(bY 1 0 r1)=true∧cm 1 16 (.full 1 (bW (cf false [(.str [])]) r1 0 0)) (aa (aa x0)) fun r2=>(SV.aj r2)=true∧(K r2)))):=by kernel_rfl
theorem Zm(C:aP)(x0:SV)(K:SV→Prop):body Go.Proofs.Tryz.prog gl C Qc 121 [x0] K=(bq [x0] (ab (ax (aa x0)) fun r0=>(List.length r0)=55∧ab (ag true 55 0 r0) fun r1=>aB C 123 [(aa (aa (aa r1)))] fun r2=>ab (ah (some (false,[.int])) .neq (aa (aa (aa r2))) (.d (.int .i64 0))) fun r3=>ai (aa r3) (ab (ag false 1 4 r0) fun r4=>ab (ag true 2 2 r0) fun r5=>ab (aM [(0,(.v (aa (aa (aa r2))))),(1,(.v (aa (aa r4)))),(4,(.v (aa (aa r5))))]) fun r6=>ab (bZ Proofs.Tryz.prog 135 r6) fun r7=>ab (ax (.d r7)) fun r8=>(List.length r8)=6∧6≤6∧ab (ah (some (false,[.int])) .eql (aa (aa (aa r2))) (.d (.int .i64 1))) fun r9=>ai r9 (ab (ag false 1 7 r0) fun aI=>aB C 115 [(aa (aa (aa aI)))] fun aS=>ab (ax (aa aS)) fun aR=>(List.length aR)=1∧4≤(List.length (setAt eo 0 r8))∧ab (ag true 6 0 (setAt (setAt eo 0 r8) 3 aR)) fun aG=>ab (aM [(0,(.v (aa (aa aG))))]) fun aU=>(bY 6 1 aU)=true∧ab (ah (some (false,[.int])) .eql (aa (aa (aa r2))) (.d (.int .i64 2))) fun bm=>ai bm (ab (ag false 1 8 r0) fun bf=>ab (aD (aa (aa bf))) fun bg=>bE (fun fA iF Cq=>ab (ah none .lss (aa (ae fA 4)) (aa (ae fA 3))) fun bK=>ai bK (ab (aL 1 (aa (ae fA 2)) (aa (ae fA 4))) fun b8=>ab (az false 1 (aa b8)) fun cd=>ab (ag true 2 2 (ak iF 0)) fun cn=>ab (aM [(0,(.v (aa (aa (ae fA 0))))),(1,(.v (aa (aa (aa cd))))),(4,(.v (aa (aa cn))))]) fun b7=>ab (bZ Proofs.Tryz.prog 135 b7) fun b6=>ab (aM [(0,(.v (.d b6)))]) fun bV=>(bY 6 1 bV)=true∧cm 6 72 (ae fA 1) (.full 6 (bW (cf true oB) bV 1 0)) fun cr=>ab (ah none .add (aa (ae fA 4)) (.d (.int .i64 1))) fun bR=>(Cq [(ae fA 0),cr,(ae fA 2),(ae fA 3),(aa bR)] [(af.ar (af.cells (ak iF 0))),(af.ar (af.cells (ak iF 1)))])) ((SV.aj (ae fA 1))=true∧(K (ae fA 1)))) [(aa r2),(.full 6 (bW (cf true oB) aU 1 0)),(aa bf),bg,(.d (.int .i64 0))] [(af.ar (af.cells r0)),(af.ar (af.cells (setAt (setAt eo 0 r8) 3 aR)))]) ((SV.aj (.full 6 (bW (cf true oB) aU 1 0)))=true∧(K (.full 6 (bW (cf true oB) aU 1 0))))) (ab (ag true 6 0 (setAt eo 0 r8)) fun cV=>ab (aM [(0,(.v (aa (aa cV))))]) fun cY=>(bY 6 1 cY)=true∧ab (ah (some (false,[.int])) .eql (aa (aa (aa r2))) (.d (.int .i64 2))) fun dp=>ai dp (ab (ag false 1 8 r0) fun cF=>ab (aD (aa (aa cF))) fun dP=>bE (fun eI jq uG=>ab (ah none .lss (aa (ae eI 4)) (aa (ae eI 3))) fun dA=>ai dA (ab (aL 1 (aa (ae eI 2)) (aa (ae eI 4))) fun dr=>ab (az false 1 (aa dr)) fun dB=>ab (ag true 2 2 (ak jq 0)) fun dG=>ab (aM [(0,(.v (aa (aa (ae eI 0))))),(1,(.v (aa (aa (aa dB))))),(4,(.v (aa (aa dG))))]) fun dL=>ab (bZ Proofs.Tryz.prog 135 dL) fun dt=>ab (aM [(0,(.v (.d dt)))]) fun eh=>(bY 6 1 eh)=true∧cm 6 72 (ae eI 1) (.full 6 (bW (cf true oB) eh 1 0)) fun ep=>ab (ah none .add (aa (ae eI 4)) (.d (.int .i64 1))) fun er=>(uG [(ae eI 0),ep,(ae eI 2),(ae eI 3),(aa er)] [(af.ar (af.cells (ak jq 0))),(af.ar (af.cells (ak jq 1)))])) ((SV.aj (ae eI 1))=true∧(K (ae eI 1)))) [(aa r2),(.full 6 (bW (cf true oB) cY 1 0)),(aa cF),dP,(.d (.int .i64 0))] [(af.ar (af.cells r0)),(af.ar (af.cells (setAt eo 0 r8)))]) ((SV.aj (.full 6 (bW (cf true oB) cY 1 0)))=true∧(K (.full 6 (bW (cf true oB) cY 1 0)))))) (ab (ag false 1 0 r0) fun eO=>ab (ah (some (false,[.int])) .eql (aa (aa eO)) (.d (.int .i64 19))) fun eY=>ai (aa eY) (ab (ag false 1 1 r0) fun eA=>ab (ah (some (false,[.int])) .eql (aa (aa eA)) (.d (.int .i64 1))) fun eG=>ai (aa (aa eG)) (ab (ag false 1 1 r0) fun fa=>ab (ag false 1 4 r0) fun fJ=>ab (ag false 1 7 r0) fun fK=>aB C 115 [(aa (aa (aa fK)))] fun e9=>ab (ag true 2 2 r0) fun eC=>ab (aM [(0,(.v (aa (aa fa)))),(1,(.v (aa (aa fJ)))),(2,(.v (.d (.bool true)))),(3,(.v (aa e9))),(4,(.v (aa (aa eC))))]) fun eM=>ab (bZ Proofs.Tryz.prog 135 eM) fun eS=>ab (aM [(0,(.v (.d eS)))]) fun eT=>(bY 6 1 eT)=true∧(SV.aj (.full 6 (bW (cf true oB) eT 1 0)))=true∧(K (.full 6 (bW (cf true oB) eT 1 0)))) (ab (ag false 1 0 r0) fun eZ=>ab (ah (some (false,[.int])) .eql (aa (aa eZ)) (.d (.int .i64 19))) fun ff=>ai (aa ff) (ab (ag false 1 1 r0) fun fB=>ab (ah none .gtr (aa (aa fB)) (.d (.int .i64 1))) fun hP=>ai (aa (aa hP)) (ab (ag false 1 1 r0) fun eU=>ab (ah none .leq (aa (aa eU)) (.d (.int .i64 8))) fun fY=>ai (aa (aa fY)) (ab (ag false 1 7 r0) fun gm=>ab (aD (aa (aa gm))) fun iL=>bE (fun sq Jr I69=>ab (ah none .lss (aa (ae sq 3)) (aa (ae sq 2))) fun iO=>ai iO (ab (aL 1 (aa (ae sq 1)) (aa (ae sq 3))) fun hY=>ab (az false 1 (aa hY)) fun iN=>ab (ag false 1 1 (ak Jr 0)) fun iv=>ab (ag true 2 2 (ak Jr 0)) fun ji=>ab (aM [(0,(.v (aa (aa iv)))),(1,(.v (aa (aa (aa iN))))),(2,(.v (.d (.bool true)))),(4,(.v (aa (aa ji))))]) fun jD=>ab (bZ Proofs.Tryz.prog 135 jD) fun iw=>ab (aM [(0,(.v (.d iw)))]) fun jX=>(bY 6 1 jX)=true∧cm 6 72 (ae sq 0) (.full 6 (bW (cf true oB) jX 1 0)) fun ko=>ab (ah none .add (aa (ae sq 3)) (.d (.int .i64 1))) fun jY=>(I69 [ko,(ae sq 1),(ae sq 2),(aa jY)] [(af.ar (af.cells (ak Jr 0)))])) ((SV.aj (ae sq 0))=true∧(K (ae sq 0)))) [(.d (.sl .nil 0 [])),(aa gm),iL,(.d (.int .i64 0))] [(af.ar (af.cells r0))]) ((SV.aj (.d (.sl .nil 0 [])))=true∧(K (.d (.sl .nil 0 []))))) ((SV.aj (.d (.sl .nil 0 [])))=true∧(K (.d (.sl .nil 0 []))))) ((SV.aj (.d (.sl .nil 0 [])))=true∧(K (.d (.sl .nil 0 [])))))) (ab (ag false 1 0 r0) fun kp=>ab (ah (some (false,[.int])) .eql (aa (aa kp)) (.d (.int .i64 19))) fun na=>ai (aa na) (ab (ag false 1 1 r0) fun kq=>ab (ah none .gtr (aa (aa kq)) (.d (.int .i64 1))) fun lH=>ai (aa (aa lH)) (ab (ag false 1 1 r0) fun mf=>ab (ah none .leq (aa (aa mf)) (.d (.int .i64 8))) fun nd=>ai (aa (aa nd)) (ab (ag false 1 7 r0) fun pS=>ab (aD (aa (aa pS))) fun uz=>bE (fun sr Jt I90=>ab (ah none .lss (aa (ae sr 3)) (aa (ae sr 2))) fun uC=>ai uC (ab (aL 1 (aa (ae sr 1)) (aa (ae sr 3))) fun rj=>ab (az false 1 (aa rj)) fun uD=>ab (ag false 1 1 (ak Jt 0)) fun uE=>ab (ag true 2 2 (ak Jt 0)) fun sU=>ab (aM [(0,(.v (aa (aa uE)))),(1,(.v (aa (aa (aa uD))))),(2,(.v (.d (.bool true)))),(4,(.v (aa (aa sU))))]) fun uF=>ab (bZ Proofs.Tryz.prog 135 uF) fun xM=>ab (aM [(0,(.v (.d xM)))]) fun sV=>(bY 6 1 sV)=true∧cm 6 72 (ae sr 0) (.full 6 (bW (cf true oB) sV 1 0)) fun zZ=>ab (ah none .add (aa (ae sr 3)) (.d (.int .i64 1))) fun w8=>(I90 [zZ,(ae sr 1),(ae sr 2),(aa w8)] [(af.ar (af.cells (ak Jt 0)))])) ((SV.aj (ae sr 0))=true∧(K (ae sr 0)))) [(.d (.sl .nil 0 [])),(aa pS),uz,(.d (.int .i64 0))] [(af.ar (af.cells r0))]) ((SV.aj (.d (.sl .nil 0 [])))=true∧(K (.d (.sl .nil 0 []))))) ((SV.aj (.d (.sl .nil 0 [])))=true∧(K (.d (.sl .nil 0 []))))) ((SV.aj (.d (.sl .nil 0 [])))=true∧(K (.d (.sl .nil 0 [])))))))):=by kernel_rfl
theorem Zn(C:aP)(x0:SV)(K:SV→Prop):body Go.Proofs.Tryz.prog gl C Qd 122 [x0] K=(bq [x0] (ab (ah (some (false,[.int])) .eql (aa (aa x0)) (.d (.int .i64 3))) fun r0=>ai (aa r0) ((SV.aj (.d (.int .i64 2)))=true∧(K (.d (.int .i64 2)))) (ab (ah (some (false,[.int])) .eql (aa (aa x0)) (.d (.int .i64 0))) fun r1=>ai (aa r1) ((SV.aj (.d (.int .i64 2)))=true∧(K (.d (.int .i64 2)))) ((SV.aj (aa (aa x0)))=true∧(K (aa (aa x0))))))):=by kernel_rfl
theorem Zo(C:aP)(x0:SV)(K:SV→Prop):body Go.Proofs.Tryz.prog gl C Qe 123 [x0] K=(bq [x0] (ab (ax (aa x0)) fun r0=>(List.length r0)=55∧ab (ag false 1 0 r0) fun r1=>ab (ah (some (false,[.int])) .eql (aa (aa r1)) (.d (.int .i64 1))) fun r2=>ai (aa r2) ((SV.aj (.d (.int .i64 1)))=true∧(K (.d (.int .i64 1)))) (ab (ah (some (false,[.int])) .eql (aa (aa r1)) (.d (.int .i64 2))) fun r3=>ai (aa r3) ((SV.aj (.d (.int .i64 2)))=true∧(K (.d (.int .i64 2)))) (ab (ah (some (false,[.int])) .eql (aa (aa r1)) (.d (.int .i64 3))) fun r4=>ai (aa r4) ((SV.aj (.d (.int .i64 3)))=true∧(K (.d (.int .i64 3)))) (ab (ah (some (false,[.int])) .eql (aa (aa r1)) (.d (.int .i64 5))) fun r5=>ai (aa r5) ((SV.aj (.d (.int .i64 4)))=true∧(K (.d (.int .i64 4)))) (ab (ah (some (false,[.int])) .eql (aa (aa r1)) (.d (.int .i64 8))) fun r6=>ai (aa r6) ((SV.aj (.d (.int .i64 5)))=true∧(K (.d (.int .i64 5)))) (ab (ah (some (false,[.int])) .eql (aa (aa r1)) (.d (.int .i64 9))) fun r7=>ai (aa r7) ((SV.aj (.d (.int .i64 6)))=true∧(K (.d (.int .i64 6)))) (ab (ah (some (false,[.int])) .eql (aa (aa r1)) (.d (.int .i64 10))) fun r8=>ai (aa r8) ((SV.aj (.d (.int .i64 7)))=true∧(K (.d (.int .i64 7)))) (ab (ah (some (false,[.int])) .eql (aa (aa r1)) (.d (.int .i64 11))) fun r9=>ai (aa r9) ((SV.aj (.d (.int .i64 8)))=true∧(K (.d (.int .i64 8)))) ((SV.aj (.d (.int .i64 0)))=true∧(K (.d (.int .i64 0))))))))))))):=by kernel_rfl
end Go.Proofs.YtaknajjmldngiaaGreat.Ab
namespace Go.Proofs.YtaknajjmldngiaaGreat.Ab
open Go
theorem aT:(Tryz.prog).follows .mixedOrders =true:=by kernel_rfl
def nN(w:Nat→BitVec 64)(n:Int):Bool:=decide (0≤n)&&decide (n<256)&&ik w n.toNat
def wO(w:Nat→BitVec 64)(n:Int):Nat→BitVec 64:=if 0≤n∧n<256 then zU w (n.toNat / 64) (w (n.toNat / 64)|||1#64<<<(n.toNat % 64))else w
theorem e61:gH Tryz.prog 61:=bp (fn:=Tryz.f61) (by kernel_rfl) (by kernel_rfl) (by kernel_rfl)
theorem Vu(w v:Nat→BitVec 64):aF Tryz.prog gl 61 [.d (bP w),.d (bP v)] (.d (bP fun k=>w k&&& v k)):=by
 refine cG aT e61 (h:=R7) ?_
 rw[abH]
 intro aW
 simp only[sZ,dk,iR,dj,gV,true_and,yu,af.ar]
 refine de (fun i=>[.d (.int .i64 ((i:Nat):Int))]) (fun i=>[gL (fun k=>if k<i then w k&&& v k else w k),gL v,gL fun _=>0]) 4 (fun i hi I hI=>?_) (fun I=>?_)
 ·simp only[ae,ak,List.getD_cons_zero,List.getD_cons_succ,dk,mo,dj,mn]
  refine⟨fun _=>?_,fun h=>absurd h (by simp;omega)⟩
  rw[kU hi]
  simp only[dj,Nat.zero_add,Nat.mul_one]
  rw[td _ hi,td _ hi]
  simp only[dj,dk,Dx,Aj,List.length_singleton,true_and,gV]
  refine⟨by omega,?_⟩
  rw[add_one (by omega),Av _ hi]
  simp only[dj,dk,Nat.lt_irrefl,↓reduceIte]
  rw[HO w v i (fun a b=>a&&& b)]
  exact hI
 ·simp only[ae,ak,List.getD_cons_zero,List.getD_cons_succ,dk,mo,dj,mn]
  refine⟨fun h=>absurd h (by simp),fun _=>?_⟩
  simp only[kV,dj,dk,iR,gV,true_and,rK,n9,Nat.le_refl]
  rfl
theorem e63:gH Tryz.prog 63:=bp (fn:=Tryz.f63) (by kernel_rfl) (by kernel_rfl) (by kernel_rfl)
theorem UE(w v:Nat→BitVec 64):aF Tryz.prog gl 63 [.d (bP w),.d (bP v)] (.d (bP fun k=>w k&&& v k)):=by
 refine cG aT e63 (h:=R9) ?_
 rw[abJ]
 intro aW
 simp only[sZ,dk,iR,dj,gV,true_and,yu,af.ar]
 refine de (fun i=>[.d (.int .i64 ((i:Nat):Int))]) (fun i=>[gL (fun k=>if k<i then w k&&& v k else w k),gL v,gL fun _=>0]) 4 (fun i hi I hI=>?_) (fun I=>?_)
 ·simp only[ae,ak,List.getD_cons_zero,List.getD_cons_succ,dk,mo,dj,mn]
  refine⟨fun _=>?_,fun h=>absurd h (by simp;omega)⟩
  rw[kU hi]
  simp only[dj,Nat.zero_add,Nat.mul_one]
  rw[td _ hi,td _ hi]
  simp only[dj,dk,Dx,Aj,List.length_singleton,true_and,gV]
  refine⟨by omega,?_⟩
  rw[add_one (by omega),Av _ hi]
  simp only[dj,dk,Nat.lt_irrefl,↓reduceIte]
  rw[HO w v i (fun a b=>a&&& b)]
  exact hI
 ·simp only[ae,ak,List.getD_cons_zero,List.getD_cons_succ,dk,mo,dj,mn]
  refine⟨fun h=>absurd h (by simp),fun _=>?_⟩
  simp only[kV,dj,dk,iR,gV,true_and,rK,n9,Nat.le_refl]
  rfl
theorem e92:gH Tryz.prog 92:=bp (fn:=Tryz.f92) (by kernel_rfl) (by kernel_rfl) (by kernel_rfl)
theorem T6(w v:Nat→BitVec 64):aF Tryz.prog gl 92 [.d (bP w),.d (bP v)] (.d (bP fun k=>w k&&& ~~~ v k)):=by
 refine cG aT e92 (h:=SD) ?_
 rw[abV]
 intro aW
 simp only[sZ,dk,iR,dj,gV,true_and,yu,af.ar]
 refine de (fun i=>[.d (.int .i64 ((i:Nat):Int))]) (fun i=>[gL (fun k=>if k<i then w k&&& ~~~ v k else w k),gL v,gL fun _=>0]) 4 (fun i hi I hI=>?_) (fun I=>?_)
 ·simp only[ae,ak,List.getD_cons_zero,List.getD_cons_succ,dk,mo,dj,mn]
  refine⟨fun _=>?_,fun h=>absurd h (by simp;omega)⟩
  rw[kU hi]
  simp only[dj,Nat.zero_add,Nat.mul_one]
  rw[td _ hi,td _ hi]
  simp only[dj,dk,Gm,Aj,List.length_singleton,true_and,gV]
  refine⟨by omega,?_⟩
  rw[add_one (by omega),Av _ hi]
  simp only[dj,dk,Nat.lt_irrefl,↓reduceIte]
  rw[HO w v i (fun a b=>a&&& ~~~ b)]
  exact hI
 ·simp only[ae,ak,List.getD_cons_zero,List.getD_cons_succ,dk,mo,dj,mn]
  refine⟨fun h=>absurd h (by simp),fun _=>?_⟩
  simp only[kV,dj,dk,iR,gV,true_and,rK,n9,Nat.le_refl]
  rfl
def Ax(w:Nat→BitVec 64)(n:Int):Nat→BitVec 64:=if 0≤n∧n<256 then zU w (n.toNat / 64) (w (n.toNat / 64)&&& ~~~(1#64<<<(n.toNat % 64)))else w
theorem e65:gH Tryz.prog 65:=bp (fn:=Tryz.f65) (by kernel_rfl) (by kernel_rfl) (by kernel_rfl)
theorem GC(m:Nat):aF Tryz.prog gl 65 [.d (.int .i64 (m:Int))] (.d (dW (1#64<<<(m % 64)))):=by
 refine cG aT e65 (h:=Sb) ?_
 rw[abL]
 intro aW
 simp only[sZ,dk,adH,dj,Xn,YH,n9,true_and]
 rfl
theorem e84:gH Tryz.prog 84:=bp (fn:=Tryz.f84) (by kernel_rfl) (by kernel_rfl) (by kernel_rfl)
theorem UF(w:Nat→BitVec 64)(n:Int):aF Tryz.prog gl 84 [.d (bP w),.d (dI n)] (.d (bP (wO w n))):=by
 refine cG aT e84 (h:=Sv) ?_
 rw[abP]
 intro aW
 simp only[sZ,dk,iR,dj,gV,true_and,yu,rK,kV,n9,Nat.le_refl,dI,Hl,mo,mn]
 have dH:¬(0≤n∧n<256)→SV.d (bP w)=.d (bP (wO w n)):=fun h=>by rw[wO,if_neg h]
 refine⟨fun h0=>⟨fun h1=>?_,fun h1=>dH (by simp at h1;omega)⟩,fun h0=>dH (by simp at h0;omega)⟩
 have h:0≤n∧n<256:=⟨by simpa using h0,by simpa using h1⟩
 obtain⟨m,rfl⟩:=Int.eq_ofNat_of_zero_le h.1
 have hm:m<256:=by omega
 rw[Im (by omega)]
 simp only[dj,dk]
 rw[kU (show m / 64<4 by omega)]
 simp only[dj,Nat.zero_add,Nat.mul_one]
 rw[td w (show m / 64<4 by omega)]
 simp only[dj,dk]
 refine aO (GC m) ?_
 simp only[sZ,dk,OJ,dj,Aj,List.length_singleton,true_and]
 refine⟨by omega,?_⟩
 rw[Av w (show m / 64<4 by omega)]
 simp only[kV,dj,dk,iR,gV,true_and,rK,n9,Nat.le_refl]
 rw[wO,if_pos h]
 rfl
theorem e93:gH Tryz.prog 93:=bp (fn:=Tryz.f93) (by kernel_rfl) (by kernel_rfl) (by kernel_rfl)
theorem Tt(w:Nat→BitVec 64)(n:Int):aF Tryz.prog gl 93 [.d (bP w),.d (dI n)] (.d (bP (Ax w n))):=by
 refine cG aT e93 (h:=SE) ?_
 rw[abW]
 intro aW
 simp only[sZ,dk,iR,dj,gV,true_and,yu,rK,kV,n9,Nat.le_refl,dI,Hl,mo,mn]
 have dH:¬(0≤n∧n<256)→SV.d (bP w)=.d (bP (Ax w n)):=fun h=>by rw[Ax,if_neg h]
 refine⟨fun h0=>⟨fun h1=>?_,fun h1=>dH (by simp at h1;omega)⟩,fun h0=>dH (by simp at h0;omega)⟩
 have h:0≤n∧n<256:=⟨by simpa using h0,by simpa using h1⟩
 obtain⟨m,rfl⟩:=Int.eq_ofNat_of_zero_le h.1
 have hm:m<256:=by omega
 rw[Im (by omega)]
 simp only[dj,dk]
 rw[kU (show m / 64<4 by omega)]
 simp only[dj,Nat.zero_add,Nat.mul_one]
 rw[td w (show m / 64<4 by omega)]
 simp only[dj,dk]
 refine aO (GC m) ?_
 simp only[sZ,dk,Gm,dj,Aj,List.length_singleton,true_and]
 refine⟨by omega,?_⟩
 rw[Av w (show m / 64<4 by omega)]
 simp only[kV,dj,dk,iR,gV,true_and,rK,n9,Nat.le_refl]
 rw[Ax,if_pos h]
 rfl
theorem Zp(x:BitVec 64)(n:Nat)(h:n<64):((x&&& 1#64<<<n) != 0)=x.getLsbD n:=by
 rw[Bool.eq_iff_iff,bne_iff_ne]
 constructor
 ·intro ck
  cases hb:x.getLsbD n with
  |true=>rfl
  |false=>
   exfalso
   apply ck
   apply BitVec.eq_of_getLsbD_eq
   intro i hi
   by_cases pK:i=n
   ·subst pK;simp[hb]
   ·have:(1#64<<<n).getLsbD i=false:=by
     simp only[BitVec.getLsbD_shiftLeft,BitVec.getLsbD_one]
     rcases Nat.lt_or_ge i n with h1|h1
     ·simp[h1]
     ·have:i-n≠0:=by omega
      simp[this]
    simp[this]
 ·intro hb h0
  have:=congrArg (fun z=>z.getLsbD n) h0
  rw[BitVec.getLsbD_eq_getElem h]at hb
  simp[h]at this
  rw[hb]at this
  cases this
theorem e41:gH Tryz.prog 41:=bp (fn:=Tryz.f41) (by kernel_rfl) (by kernel_rfl) (by kernel_rfl)
theorem oV(w:Nat→BitVec 64)(n:Int):aF Tryz.prog gl 41 [.d (bP w),.d (dI n)] (.d (.bool (nN w n))):=by
 refine cG aT e41 (h:=RQ) ?_
 rw[abD]
 intro aW
 simp only[sZ,dk,iR,dj,gV,true_and,n9,dI,Hl,mo,mn]
 have dH:¬(0≤n∧n<256)→SV.d (.bool false)=.d (.bool (nN w n)):=fun h=>by
  have:nN w n=false:=by
   unfold nN
   rcases Int.lt_or_le n 0 with h1|h1
   ·simp[show ¬0≤n by omega]
   ·simp[show ¬n<256 by omega]
  rw[this]
 refine⟨fun h0=>⟨fun h1=>?_,fun h1=>dH (by simp at h1;omega)⟩,fun h0=>dH (by simp at h0;omega)⟩
 have h:0≤n∧n<256:=⟨by simpa using h0,by simpa using h1⟩
 obtain⟨m,rfl⟩:=Int.eq_ofNat_of_zero_le h.1
 have hm:m<256:=by omega
 rw[Im (by omega)]
 simp only[dj,dk]
 rw[kU (show m / 64<4 by omega)]
 simp only[dj,Nat.zero_add,Nat.mul_one]
 rw[td w (show m / 64<4 by omega)]
 simp only[dj,dk]
 refine aO (GC m) ?_
 simp only[sZ,dk,Dx,dj,Wd,GX,n9,true_and]
 have e:nN w (m:Int)=((w (m / 64)&&& 1#64<<<(m % 64)) != 0):=by
  rw[Zp _ _ (by omega)]
  simp only[nN,ik,Int.toNat_natCast,decide_eq_true h.1,decide_eq_true h.2,Bool.true_and]
 rw[e]
theorem MU:bZ Tryz.prog 48 []=some (bP fun _=>0):=by kernel_rfl
theorem Mc:aM []=some []:=rfl
def js:Nat→Nat→BitVec 64
 |0=>fun _=>0
 |i+1=>wO (js i) i
def clip(n:Int):Nat:=(min (max n 0) 256).toNat
theorem Zq(n:Int):clip n≤256:=by unfold clip;omega
theorem e70:gH Tryz.prog 70:=bp (fn:=Tryz.f70) (by kernel_rfl) (by kernel_rfl) (by kernel_rfl)
theorem Gp(n:Int):aF Tryz.prog gl 70 [.d (dI n)] (.d (bP (js (clip n)))):=by
 refine cG aT e70 (h:=Sg) ?_
 rw[abM]
 intro aW
 simp only[sZ,dk,dI,Mc,MU,dj,yu,iR,gV,true_and,Nat.le_refl,rK,af.ar]
 have hc:=Zq n
 refine de (fun i=>[.d (.int .i64 n),.d (.int .i64 ((i:Nat):Int))]) (fun i=>[gL fun _=>0,gL (js i)]) (clip n) (fun i hi I hI=>?_) (fun I=>?_)
 ·simp only[ae,ak,List.getD_cons_zero,List.getD_cons_succ,dk,mo,dj,mn]
  have h1:(i:Int)<n:=by unfold clip at hi;omega
  have h2:(i:Int)<256:=by omega
  refine⟨fun _=>⟨fun _=>?_,fun h=>absurd h (by simpa using h2)⟩,fun h=>absurd h (by simpa using h1)⟩
  simp only[kV,dj,dk]
  refine aO (UF (js i) i) ?_
  simp only[sZ,dk,iR,dj,gV,true_and,rK,Nat.le_refl]
  rw[add_one (by omega)]
  exact hI
 ·simp only[ae,ak,List.getD_cons_zero,List.getD_cons_succ,dk,mo,dj,mn,kV,iR,gV,true_and,rK,n9,Nat.le_refl]
  refine⟨fun h=>⟨fun h'=>?_,fun _=>?_⟩,fun _=>?_⟩
  ·exfalso
   have h3:((clip n:Nat):Int)<n:=by simpa using h
   have h4:((clip n:Nat):Int)<256:=by simpa using h'
   unfold clip at h3 h4;omega
  ·trivial
  ·trivial
def dIs(l:List Int):D:=.sl .ro 1 (l.map dI)
inductive tn(l:List Int):SV→Prop
 |nil (sz:Nat) (h:l=[]):tn l (.d (.sl .nil sz []))
 |ro:tn l (.d (dIs l))
 |full:tn l (.full 1 (l.map dI))
theorem tn.elems{l:List Int}{x:SV}(h:tn l x):elems 1 x=some (l.map dI)∧yq x=some (l.map dI)∧aa x=x:=by
 cases h with
 |nil sz h=>subst h;exact⟨rfl,rfl,rfl⟩
 |ro=>exact⟨rfl,rfl,rfl⟩
 |full=>exact⟨rfl,rfl,rfl⟩
theorem tn.len{l:List Int}{x:SV}(h:tn l x):aD x=some (.d (.int .i64 (l.length:Int))):=by
 simp[aD,h.elems.2.1]
theorem tn.at{l:List Int}{x:SV}(h:tn l x){i:Nat}(hi:i<l.length):aL 1 x (.d (.int .i64 (i:Int)))=some (.aA (dI l[i]) 0):=by
 unfold aL
 rw[h.elems.1]
 simp only[List.length_map]
 rw[kU hi]
 simp[hi]
def qD(l:List Int):SV:=match l with
 |[]=>.d (.sl .nil 0 [])
 |l=>.own 1 (l.map dI)
theorem XK(l:List Int)(n:Int)(k:SV→Prop)(hb:(l.length+1)*8≤140737488355328)(hk:k (qD (l++[n]))):cm 1 8 (qD l) (.full 1 [dI n]) k:=by
 unfold cm
 have:kH 1 (qD l) (.full 1 [dI n])=some (qD (l++[n]),l.length+1):=by
  cases l with
  |nil=>rfl
  |cons a l=>simp[qD,kH,elems]
 rw[this]
 exact⟨hb,hk⟩
theorem Vv(l:List Int):(qD l).aj =true:=by cases l<;>rfl
def kF(w:Nat→BitVec 64):Nat→List Int
 |0=>[]
 |i+1=>kF w i++(if ik w i then [(i:Int)]else [])
theorem MV(w:Nat→BitVec 64):∀i,(kF w i).length ≤i
 |0=>Nat.le_refl _
 |i+1=>by
  have:=MV w i
  simp only[kF,List.length_append]
  split<;>simp<;>omega
theorem Ay(w:Nat→BitVec 64){i:Nat}(h:i<256):nN w (i:Int)=ik w i:=by
 simp[nN,show(i:Int)<256 by omega]
theorem e89:gH Tryz.prog 89:=bp (fn:=Tryz.f89) (by kernel_rfl) (by kernel_rfl) (by kernel_rfl)
theorem UG(w:Nat→BitVec 64):aF Tryz.prog gl 89 [.d (bP w)] (qD (kF w 256)):=by
 refine cG aT e89 (h:=SA) ?_
 rw[abU]
 intro aW
 simp only[sZ,dk,iR,dj,gV,true_and,af.ar]
 refine de (fun i=>[qD (kF w i),.d (.int .i64 ((i:Nat):Int))]) (fun i=>[gL w]) 256 (fun i hi I hI=>?_) (fun I=>?_)
 ·simp only[ae,ak,List.getD_cons_zero,List.getD_cons_succ,dk,mo,dj,mn]
  refine⟨fun _=>?_,fun h=>absurd h (by simp;omega)⟩
  simp only[kV,dj,dk]
  refine aO (oV w i) ?_
  rw[Ay w hi,add_one (by omega)]
  simp only[mn,dj,dk]
  have hlen:=MV w i
  refine⟨fun h=>?_,fun h=>?_⟩
  ·have e:kF w (i+1)=kF w i++[(i:Int)]:=by simp[kF,h]
   rw[e]at hI
   exact⟨rfl,XK _ _ _ (by omega) hI⟩
  ·have e:kF w (i+1)=kF w i:=by simp[kF,h]
   rw[e]at hI
   exact hI
 ·simp only[ae,ak,List.getD_cons_zero,List.getD_cons_succ,dk,mo,dj,mn]
  refine⟨fun h=>absurd h (by simp),fun _=>⟨Vv _,?_⟩⟩
  trivial
theorem e71:gH Tryz.prog 71:=bp (fn:=Tryz.f71) (by kernel_rfl) (by kernel_rfl) (by kernel_rfl)
theorem FQ(w v:Nat→BitVec 64):aF Tryz.prog gl 71 [.d (bP w),.d (bP v)] (.d (.bool (g9 (fun k=>w k&&& ~~~ v k) fun _=>0))):=by
 refine cG aT e71 (h:=Sh) ?_
 rw[abN]
 intro aW
 simp only[sZ,dk,iR,dj,gV,true_and,kV]
 refine aO (T6 w v) ?_
 simp only[sZ,dk,Mc,MU,N3,dj,n9,true_and]
end Go.Proofs.YtaknajjmldngiaaGreat.Ab
