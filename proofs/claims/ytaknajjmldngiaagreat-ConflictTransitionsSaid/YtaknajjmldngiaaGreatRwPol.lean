/-
  THE ARGUMENTS: policies.
-/
import Derived.Test.YtaknajjmldngiaaGreatTe
import Derived.Test.YtaknajjmldngiaaGreatRw0
set_option linter.unusedVariables false
set_option linter.unusedSimpArgs false
namespace Go.Proofs.YtaknajjmldngiaaGreat.Ab
open Go
theorem Ov{xs:List D}(h:Is Tryz.prog 111 xs):∃x:BitVec 32,xs=[dU x]:=by
 obtain⟨n,rfl,hn⟩:=h.o8 Tryz.underlying111
 rw[CH]at hn
 have h0:0≤n:=hn.1
 have h1:n≤4294967295:=hn.2
 obtain⟨m,rfl⟩:=Int.eq_ofNat_of_zero_le h0
 refine⟨BitVec.ofNat 32 m,?_⟩
 have:(BitVec.ofNat 32 m).toNat =m:=by
  rw[BitVec.toNat_ofNat]
  exact Nat.mod_eq_of_lt (by omega)
 rw[dU,this]
theorem Ds{xs:List D}(h:Is Tryz.prog 28 xs):∃(l:List (List UInt8)) (x:D),xs=[x]∧cw 1 (bT l) x∧l.length≤maxLen:=by
 rcases h.k9 Tryz.underlying28 Pv with rfl|⟨L,rfl,hm,hL⟩
 ·exact⟨[],_,rfl,.nil 0 rfl,by simp⟩
 ·obtain⟨l,hl,hn⟩:=kC (b:=false) (f:=D.str) (fun x hx=>by obtain⟨s,rfl⟩:=pf hx;exact⟨s,rfl⟩) L hL
  refine⟨l,_,rfl,?_,by omega⟩
  rw[hl,Ot]
  exact .ro
theorem O4{xs:List D}(h:Is Tryz.prog 73 xs):∃t:gF,xs=(lF t.e.op t.e.a t.e.rel t.e.b t.nm t.e.w t.kd):=by
 obtain⟨e,he⟩:=aex h
 have Tb:fW e (.agg xs):=he
 obtain⟨nm,kd,L,hx,_⟩:=Tb.inv
 cases hx
 exact⟨⟨e,nm,kd,Tb⟩,rfl⟩
theorem ada{xs:List D}(h:Is Tryz.prog 116 xs):∃t:cL,pack true xs=t.enc:=by
 obtain⟨parts,rfl,hl,hp⟩:=h.ku Tryz.underlying116
 match parts,hl,hp with
 |[q0,q1],_,hp=>
  obtain⟨s0,rfl⟩:=pf (hp 0 _ _ rfl rfl)
  obtain⟨l1,x1,rfl,h1,m1⟩:=Ds (hp 1 _ _ rfl rfl)
  exact⟨⟨s0,l1,x1,h1,m1⟩,rfl⟩
theorem ZW:dh Tryz.prog 116=some true:=by kernel_rfl
theorem ZX:Tryz.prog.cellsOf 116=2:=by kernel_rfl
theorem ZY{xs:List D}(h:Is Tryz.prog 22 xs):∃(l:List cL) (x:D),xs=[x]∧cw 2 (l.map cL.enc) x∧l.length≤maxLen:=by
 rcases h.k9 Tryz.underlying22 ZW with rfl|⟨L,rfl,hm,hL⟩
 ·exact⟨[],_,rfl,.nil 0 rfl,by simp⟩
 ·obtain⟨l,hl,hn⟩:=kC (fun x hx=>ada hx) L hL
  refine⟨l,_,rfl,?_,by omega⟩
  rw[hl,ZX]
  exact .ro
theorem adb{xs:List D}(h:Is Tryz.prog 109 xs):∃t:cg,pack true xs=t.enc:=by
 obtain⟨parts,rfl,hl,hp⟩:=h.ku Tryz.underlying109
 match parts,hl,hp with
 |[q0,q1,q2],_,hp=>
  obtain⟨s0,rfl⟩:=pf (hp 0 _ _ rfl rfl)
  obtain⟨l1,x1,rfl,h1,m1⟩:=Ds (hp 1 _ _ rfl rfl)
  obtain⟨b2,rfl⟩:=DE (hp 2 _ _ rfl rfl)
  exact⟨⟨s0,l1,x1,h1,m1,b2⟩,rfl⟩
theorem ZZ:dh Tryz.prog 109=some true:=by kernel_rfl
theorem Z0:Tryz.prog.cellsOf 109=3:=by kernel_rfl
theorem Z1{xs:List D}(h:Is Tryz.prog 23 xs):∃(l:List cg) (x:D),xs=[x]∧cw 3 (l.map cg.enc) x∧l.length≤maxLen:=by
 rcases h.k9 Tryz.underlying23 ZZ with rfl|⟨L,rfl,hm,hL⟩
 ·exact⟨[],_,rfl,.nil 0 rfl,by simp⟩
 ·obtain⟨l,hl,hn⟩:=kC (fun x hx=>adb hx) L hL
  refine⟨l,_,rfl,?_,by omega⟩
  rw[hl,Z0]
  exact .ro
theorem ade{xs:List D}(h:Is Tryz.prog 119 xs):∃t:cM,pack true xs=t.enc:=by
 obtain⟨parts,rfl,hl,hp⟩:=h.ku Tryz.underlying119
 match parts,hl,hp with
 |[q0,q1],_,hp=>
  obtain⟨s0,rfl⟩:=pf (hp 0 _ _ rfl rfl)
  obtain⟨w1,rfl⟩:=mw (hp 1 _ _ rfl rfl)
  exact⟨⟨s0,w1⟩,rfl⟩
theorem Z2:dh Tryz.prog 119=some true:=by kernel_rfl
theorem Z3:Tryz.prog.cellsOf 119=5:=by kernel_rfl
theorem Z4{xs:List D}(h:Is Tryz.prog 24 xs):∃(l:List cM) (x:D),xs=[x]∧cw 5 (l.map cM.enc) x∧l.length≤maxLen:=by
 rcases h.k9 Tryz.underlying24 Z2 with rfl|⟨L,rfl,hm,hL⟩
 ·exact⟨[],_,rfl,.nil 0 rfl,by simp⟩
 ·obtain⟨l,hl,hn⟩:=kC (fun x hx=>ade hx) L hL
  refine⟨l,_,rfl,?_,by omega⟩
  rw[hl,Z3]
  exact .ro
theorem adf{xs:List D}(h:Is Tryz.prog 121 xs):∃t:bX,pack true xs=t.enc:=by
 obtain⟨parts,rfl,hl,hp⟩:=h.ku Tryz.underlying121
 match parts,hl,hp with
 |[q0,q1,q2],_,hp=>
  obtain⟨s0,rfl⟩:=pf (hp 0 _ _ rfl rfl)
  obtain⟨w1,rfl⟩:=mw (hp 1 _ _ rfl rfl)
  obtain⟨w2,rfl⟩:=mw (hp 2 _ _ rfl rfl)
  exact⟨⟨s0,w1,w2⟩,rfl⟩
theorem Z5:dh Tryz.prog 121=some true:=by kernel_rfl
theorem Z6:Tryz.prog.cellsOf 121=9:=by kernel_rfl
theorem Z7{xs:List D}(h:Is Tryz.prog 25 xs):∃(l:List bX) (x:D),xs=[x]∧cw 9 (l.map bX.enc) x∧l.length≤maxLen:=by
 rcases h.k9 Tryz.underlying25 Z5 with rfl|⟨L,rfl,hm,hL⟩
 ·exact⟨[],_,rfl,.nil 0 rfl,by simp⟩
 ·obtain⟨l,hl,hn⟩:=kC (fun x hx=>adf hx) L hL
  refine⟨l,_,rfl,?_,by omega⟩
  rw[hl,Z6]
  exact .ro
theorem adg{xs:List D}(h:Is Tryz.prog 123 xs):∃t:bD,pack true xs=t.enc:=by
 obtain⟨parts,rfl,hl,hp⟩:=h.ku Tryz.underlying123
 match parts,hl,hp with
 |[q0,q1,q2,q3],_,hp=>
  obtain⟨s0,rfl⟩:=pf (hp 0 _ _ rfl rfl)
  obtain⟨w1,rfl⟩:=mw (hp 1 _ _ rfl rfl)
  obtain⟨s2,c2,rfl⟩:=H4 (hp 2 _ _ rfl rfl)
  obtain⟨s3,c3,z3,d3,rfl⟩:=H5 (hp 3 _ _ rfl rfl)
  exact⟨⟨s0,w1,(s2,c2),((s3,c3),(z3,d3))⟩,rfl⟩
theorem Z8:dh Tryz.prog 123=some true:=by kernel_rfl
theorem Z9:Tryz.prog.cellsOf 123=11:=by kernel_rfl
theorem aaa{xs:List D}(h:Is Tryz.prog 26 xs):∃(l:List bD) (x:D),xs=[x]∧cw 11 (l.map bD.enc) x∧l.length≤maxLen:=by
 rcases h.k9 Tryz.underlying26 Z8 with rfl|⟨L,rfl,hm,hL⟩
 ·exact⟨[],_,rfl,.nil 0 rfl,by simp⟩
 ·obtain⟨l,hl,hn⟩:=kC (fun x hx=>adg hx) L hL
  refine⟨l,_,rfl,?_,by omega⟩
  rw[hl,Z9]
  exact .ro
theorem adh{xs:List D}(h:Is Tryz.prog 125 xs):∃t:cT,pack true xs=t.enc:=by
 obtain⟨parts,rfl,hl,hp⟩:=h.ku Tryz.underlying125
 match parts,hl,hp with
 |[q0,q1],_,hp=>
  obtain⟨s0,rfl⟩:=pf (hp 0 _ _ rfl rfl)
  obtain⟨b1,rfl⟩:=DE (hp 1 _ _ rfl rfl)
  exact⟨⟨s0,b1⟩,rfl⟩
theorem aab:dh Tryz.prog 125=some true:=by kernel_rfl
theorem aac:Tryz.prog.cellsOf 125=2:=by kernel_rfl
theorem aad{xs:List D}(h:Is Tryz.prog 27 xs):∃(l:List cT) (x:D),xs=[x]∧cw 2 (l.map cT.enc) x∧l.length≤maxLen:=by
 rcases h.k9 Tryz.underlying27 aab with rfl|⟨L,rfl,hm,hL⟩
 ·exact⟨[],_,rfl,.nil 0 rfl,by simp⟩
 ·obtain⟨l,hl,hn⟩:=kC (fun x hx=>adh hx) L hL
  refine⟨l,_,rfl,?_,by omega⟩
  rw[hl,aac]
  exact .ro
theorem adi{xs:List D}(h:Is Tryz.prog 127 xs):∃t:bh,pack true xs=t.enc:=by
 obtain⟨parts,rfl,hl,hp⟩:=h.ku Tryz.underlying127
 match parts,hl,hp with
 |[q0,q1,q2,q3,q4,q5,q6],_,hp=>
  obtain⟨n0,rfl⟩:=jl (hp 0 _ _ rfl rfl)
  obtain⟨w1,rfl⟩:=mw (hp 1 _ _ rfl rfl)
  obtain⟨w2,rfl⟩:=mw (hp 2 _ _ rfl rfl)
  obtain⟨b3,rfl⟩:=DE (hp 3 _ _ rfl rfl)
  obtain⟨n4,rfl⟩:=jl (hp 4 _ _ rfl rfl)
  obtain⟨u5,rfl⟩:=Ov (hp 5 _ _ rfl rfl)
  obtain⟨n6,rfl⟩:=jl (hp 6 _ _ rfl rfl)
  exact⟨⟨n0,w1,w2,b3,n4,u5,n6⟩,rfl⟩
theorem aae:dh Tryz.prog 127=some true:=by kernel_rfl
theorem aaf:Tryz.prog.cellsOf 127=13:=by kernel_rfl
theorem aag{xs:List D}(h:Is Tryz.prog 30 xs):∃(l:List bh) (x:D),xs=[x]∧cw 13 (l.map bh.enc) x∧l.length≤maxLen:=by
 rcases h.k9 Tryz.underlying30 aae with rfl|⟨L,rfl,hm,hL⟩
 ·exact⟨[],_,rfl,.nil 0 rfl,by simp⟩
 ·obtain⟨l,hl,hn⟩:=kC (fun x hx=>adi hx) L hL
  refine⟨l,_,rfl,?_,by omega⟩
  rw[hl,aaf]
  exact .ro
theorem adj{xs:List D}(h:Is Tryz.prog 50 xs):∃t:aN,pack true xs=t.enc:=by
 obtain⟨parts,rfl,hl,hp⟩:=h.ku Tryz.underlying50
 match parts,hl,hp with
 |[q0,q1,q2,q3,q4,q5,q6],_,hp=>
  obtain⟨n0,rfl⟩:=jl (hp 0 _ _ rfl rfl)
  obtain⟨w1,rfl⟩:=mw (hp 1 _ _ rfl rfl)
  obtain⟨w2,rfl⟩:=mw (hp 2 _ _ rfl rfl)
  obtain⟨n3,rfl⟩:=jl (hp 3 _ _ rfl rfl)
  obtain⟨s4,rfl⟩:=pf (hp 4 _ _ rfl rfl)
  obtain⟨n5,rfl⟩:=jl (hp 5 _ _ rfl rfl)
  obtain⟨n6,rfl⟩:=jl (hp 6 _ _ rfl rfl)
  exact⟨⟨n0,w1,w2,n3,s4,n5,n6⟩,rfl⟩
theorem aah:dh Tryz.prog 50=some true:=by kernel_rfl
theorem aai:Tryz.prog.cellsOf 50=13:=by kernel_rfl
theorem aaj{xs:List D}(h:Is Tryz.prog 31 xs):∃(l:List aN) (x:D),xs=[x]∧cw 13 (l.map aN.enc) x∧l.length≤maxLen:=by
 rcases h.k9 Tryz.underlying31 aah with rfl|⟨L,rfl,hm,hL⟩
 ·exact⟨[],_,rfl,.nil 0 rfl,by simp⟩
 ·obtain⟨l,hl,hn⟩:=kC (fun x hx=>adj hx) L hL
  refine⟨l,_,rfl,?_,by omega⟩
  rw[hl,aai]
  exact .ro
theorem adk{xs:List D}(h:Is Tryz.prog 58 xs):∃t:bU,pack true xs=t.enc:=by
 obtain⟨parts,rfl,hl,hp⟩:=h.ku Tryz.underlying58
 match parts,hl,hp with
 |[q0,q1,q2,q3],_,hp=>
  obtain⟨w0,rfl⟩:=mw (hp 0 _ _ rfl rfl)
  obtain⟨w1,rfl⟩:=mw (hp 1 _ _ rfl rfl)
  obtain⟨n2,rfl⟩:=jl (hp 2 _ _ rfl rfl)
  obtain⟨n3,rfl⟩:=jl (hp 3 _ _ rfl rfl)
  exact⟨⟨w0,w1,n2,n3⟩,rfl⟩
theorem aak:dh Tryz.prog 58=some true:=by kernel_rfl
theorem aal:Tryz.prog.cellsOf 58=10:=by kernel_rfl
theorem aam{xs:List D}(h:Is Tryz.prog 32 xs):∃(l:List bU) (x:D),xs=[x]∧cw 10 (l.map bU.enc) x∧l.length≤maxLen:=by
 rcases h.k9 Tryz.underlying32 aak with rfl|⟨L,rfl,hm,hL⟩
 ·exact⟨[],_,rfl,.nil 0 rfl,by simp⟩
 ·obtain⟨l,hl,hn⟩:=kC (fun x hx=>adk hx) L hL
  refine⟨l,_,rfl,?_,by omega⟩
  rw[hl,aal]
  exact .ro
theorem adl{xs:List D}(h:Is Tryz.prog 64 xs):∃t:bA,pack true xs=t.enc:=by
 obtain⟨parts,rfl,hl,hp⟩:=h.ku Tryz.underlying64
 match parts,hl,hp with
 |[q0,q1,q2,q3],_,hp=>
  obtain⟨w0,rfl⟩:=mw (hp 0 _ _ rfl rfl)
  obtain⟨w1,rfl⟩:=mw (hp 1 _ _ rfl rfl)
  obtain⟨n2,rfl⟩:=jl (hp 2 _ _ rfl rfl)
  obtain⟨s3,c3,z3,d3,rfl⟩:=H5 (hp 3 _ _ rfl rfl)
  exact⟨⟨w0,w1,n2,((s3,c3),(z3,d3))⟩,rfl⟩
theorem aan:dh Tryz.prog 64=some true:=by kernel_rfl
theorem aao:Tryz.prog.cellsOf 64=13:=by kernel_rfl
theorem aap{xs:List D}(h:Is Tryz.prog 33 xs):∃(l:List bA) (x:D),xs=[x]∧cw 13 (l.map bA.enc) x∧l.length≤maxLen:=by
 rcases h.k9 Tryz.underlying33 aan with rfl|⟨L,rfl,hm,hL⟩
 ·exact⟨[],_,rfl,.nil 0 rfl,by simp⟩
 ·obtain⟨l,hl,hn⟩:=kC (fun x hx=>adl hx) L hL
  refine⟨l,_,rfl,?_,by omega⟩
  rw[hl,aao]
  exact .ro
theorem adm{xs:List D}(h:Is Tryz.prog 113 xs):∃t:bN,pack true xs=t.enc:=by
 obtain⟨parts,rfl,hl,hp⟩:=h.ku Tryz.underlying113
 match parts,hl,hp with
 |[q0,q1,q2,q3],_,hp=>
  obtain⟨n0,rfl⟩:=jl (hp 0 _ _ rfl rfl)
  obtain⟨u1,rfl⟩:=Ov (hp 1 _ _ rfl rfl)
  obtain⟨b2,rfl⟩:=DE (hp 2 _ _ rfl rfl)
  obtain⟨t3,rfl⟩:=O4 (hp 3 _ _ rfl rfl)
  exact⟨⟨n0,u1,b2,t3.e,t3.nm,t3.kd,t3.h⟩,rfl⟩
theorem aaq:dh Tryz.prog 113=some true:=by kernel_rfl
theorem aar:Tryz.prog.cellsOf 113=13:=by kernel_rfl
theorem aas{xs:List D}(h:Is Tryz.prog 34 xs):∃(l:List bN) (x:D),xs=[x]∧cw 13 (l.map bN.enc) x∧l.length≤maxLen:=by
 rcases h.k9 Tryz.underlying34 aaq with rfl|⟨L,rfl,hm,hL⟩
 ·exact⟨[],_,rfl,.nil 0 rfl,by simp⟩
 ·obtain⟨l,hl,hn⟩:=kC (fun x hx=>adm hx) L hL
  refine⟨l,_,rfl,?_,by omega⟩
  rw[hl,aar]
  exact .ro
theorem adn{xs:List D}(h:Is Tryz.prog 130 xs):∃t:cj,pack true xs=t.enc:=by
 obtain⟨parts,rfl,hl,hp⟩:=h.ku Tryz.underlying130
 match parts,hl,hp with
 |[q0,q1],_,hp=>
  obtain⟨s0,rfl⟩:=pf (hp 0 _ _ rfl rfl)
  obtain⟨c1,rfl⟩:=O3 (hp 1 _ _ rfl rfl)
  exact⟨⟨s0,c1⟩,rfl⟩
theorem aat:dh Tryz.prog 130=some true:=by kernel_rfl
theorem aau:Tryz.prog.cellsOf 130=8:=by kernel_rfl
theorem aav{xs:List D}(h:Is Tryz.prog 35 xs):∃(l:List cj) (x:D),xs=[x]∧cw 8 (l.map cj.enc) x∧l.length≤maxLen:=by
 rcases h.k9 Tryz.underlying35 aat with rfl|⟨L,rfl,hm,hL⟩
 ·exact⟨[],_,rfl,.nil 0 rfl,by simp⟩
 ·obtain⟨l,hl,hn⟩:=kC (fun x hx=>adn hx) L hL
  refine⟨l,_,rfl,?_,by omega⟩
  rw[hl,aau]
  exact .ro
theorem ado{xs:List D}(h:Is Tryz.prog 68 xs):∃t:bO,pack true xs=t.enc:=by
 obtain⟨parts,rfl,hl,hp⟩:=h.ku Tryz.underlying68
 match parts,hl,hp with
 |[q0,q1,q2],_,hp=>
  obtain⟨s0,rfl⟩:=pf (hp 0 _ _ rfl rfl)
  obtain⟨n1,rfl⟩:=jl (hp 1 _ _ rfl rfl)
  obtain⟨c2,rfl⟩:=O3 (hp 2 _ _ rfl rfl)
  exact⟨⟨s0,n1,c2⟩,rfl⟩
theorem aaw:dh Tryz.prog 68=some true:=by kernel_rfl
theorem aax:Tryz.prog.cellsOf 68=9:=by kernel_rfl
theorem aay{xs:List D}(h:Is Tryz.prog 36 xs):∃(l:List bO) (x:D),xs=[x]∧cw 9 (l.map bO.enc) x∧l.length≤maxLen:=by
 rcases h.k9 Tryz.underlying36 aaw with rfl|⟨L,rfl,hm,hL⟩
 ·exact⟨[],_,rfl,.nil 0 rfl,by simp⟩
 ·obtain⟨l,hl,hn⟩:=kC (fun x hx=>ado hx) L hL
  refine⟨l,_,rfl,?_,by omega⟩
  rw[hl,aax]
  exact .ro
theorem adp{xs:List D}(h:Is Tryz.prog 168 xs):∃t:b5,pack true xs=t.enc:=by
 obtain⟨parts,rfl,hl,hp⟩:=h.ku Tryz.underlying168
 match parts,hl,hp with
 |[q0,q1,q2,q3],_,hp=>
  obtain⟨s0,rfl⟩:=pf (hp 0 _ _ rfl rfl)
  obtain⟨n1,rfl⟩:=jl (hp 1 _ _ rfl rfl)
  obtain⟨w2,rfl⟩:=mw (hp 2 _ _ rfl rfl)
  obtain⟨w3,rfl⟩:=mw (hp 3 _ _ rfl rfl)
  exact⟨⟨s0,n1,w2,w3⟩,rfl⟩
theorem aaz:dh Tryz.prog 168=some true:=by kernel_rfl
theorem aaA:Tryz.prog.cellsOf 168=10:=by kernel_rfl
theorem aaB{xs:List D}(h:Is Tryz.prog 37 xs):∃(l:List b5) (x:D),xs=[x]∧cw 10 (l.map b5.enc) x∧l.length≤maxLen:=by
 rcases h.k9 Tryz.underlying37 aaz with rfl|⟨L,rfl,hm,hL⟩
 ·exact⟨[],_,rfl,.nil 0 rfl,by simp⟩
 ·obtain⟨l,hl,hn⟩:=kC (fun x hx=>adp hx) L hL
  refine⟨l,_,rfl,?_,by omega⟩
  rw[hl,aaA]
  exact .ro
theorem aaC{xs:List D}(h:Is Tryz.prog 29 xs):∃(l:List gF) (x:D),xs=[x]∧cw 10 (l.map gF.enc) x∧l.length≤maxLen:=by
 rcases h.k9 Tryz.underlying29 O0 with rfl|⟨L,rfl,hm,hL⟩
 ·exact⟨[],_,rfl,.nil 0 rfl,by simp⟩
 ·obtain⟨l,hl,hn⟩:=kC (b:=true) (f:=gF.enc) (fun x hx=>by obtain⟨t,rfl⟩:=O4 hx;exact⟨t,rfl⟩) L hL
  refine⟨l,_,rfl,?_,by omega⟩
  rw[hl,Ou]
  exact .ro
theorem AR:dh Tryz.prog 39=some true:=by kernel_rfl
set_option maxRecDepth 4000 in
theorem A1{xs:List D}(h:Is Tryz.prog 39 xs):∃p:aq,pack true xs=dv p:=by
 obtain⟨parts,rfl,hl,hp⟩:=h.ku Tryz.underlying39
 match parts,hl,hp with
 |[q0,q1,q2,q3,q4,q5,q6,q7,q8,q9,SQ,SR,SS,SU,SW,SX,SY],_,hp=>
  obtain⟨l0,x0,rfl,h0,m0⟩:=ZY (hp 0 _ _ rfl rfl)
  obtain⟨l1,x1,rfl,h1,m1⟩:=Z1 (hp 1 _ _ rfl rfl)
  obtain⟨l2,x2,rfl,h2,m2⟩:=Z4 (hp 2 _ _ rfl rfl)
  obtain⟨l3,x3,rfl,h3,m3⟩:=Z7 (hp 3 _ _ rfl rfl)
  obtain⟨l4,x4,rfl,h4,m4⟩:=aaa (hp 4 _ _ rfl rfl)
  obtain⟨l5,x5,rfl,h5,m5⟩:=aad (hp 5 _ _ rfl rfl)
  obtain⟨l6,x6,rfl,h6,m6⟩:=Ds (hp 6 _ _ rfl rfl)
  obtain⟨l7,x7,rfl,h7,m7⟩:=Ds (hp 7 _ _ rfl rfl)
  obtain⟨l8,x8,rfl,h8,m8⟩:=aaC (hp 8 _ _ rfl rfl)
  obtain⟨l9,x9,rfl,h9,m9⟩:=aag (hp 9 _ _ rfl rfl)
  obtain⟨l10,x10,rfl,xi,m10⟩:=aaj (hp 10 _ _ rfl rfl)
  obtain⟨l11,x11,rfl,BW,m11⟩:=aam (hp 11 _ _ rfl rfl)
  obtain⟨l12,x12,rfl,Fi,m12⟩:=aap (hp 12 _ _ rfl rfl)
  obtain⟨l13,x13,rfl,Fj,m13⟩:=aas (hp 13 _ _ rfl rfl)
  obtain⟨l14,x14,rfl,Fk,m14⟩:=aav (hp 14 _ _ rfl rfl)
  obtain⟨l15,x15,rfl,Fl,m15⟩:=aay (hp 15 _ _ rfl rfl)
  obtain⟨uH,x16,rfl,Fm,m16⟩:=aaB (hp 16 _ _ rfl rfl)
  exact⟨⟨l0,x0,h0,m0,l1,x1,h1,m1,l2,x2,h2,m2,l3,x3,h3,m3,l4,x4,h4,m4,l5,x5,h5,m5,l6,x6,h6,m6,l7,x7,h7,m7,l8,x8,h8,m8,l9,x9,h9,m9,l10,x10,xi,m10,l11,x11,BW,m11,l12,x12,Fi,m12,l13,x13,Fj,m13,l14,x14,Fk,m14,l15,x15,Fl,m15,uH,x16,Fm,m16⟩,rfl⟩
end Go.Proofs.YtaknajjmldngiaaGreat.Ab
