/-
  Parts: Functions of the seat as trees, and that the program computes them. Printed by a program of our own. Plain reasoning about functions from trees: what they come to. Own work. Plain facts: numbers that wrap, lists by index, comparisons. Own work. Plain law: how values, rows and deltas are compared. Own work. The kept part of a plain-law text (strip.py). Own work. The kept part of a plain-law text (strip.py). Own work. Plain law: the stable sort of the library: insertion sort, exchanging and rotating parts. Own work. Plain law: the stable sort of the library: merging in place, and the whole. Own work. Plain law: merging in place sorts; the stable sort sorts. Own work. Plain law: the stable sort of the library sorts. Own work.
-/
import Derived.Test.YtjefblkdnolgaaaGreatDoorMf
import Derived.Sort.LotA
import Derived.Lib.Bytealg
set_option maxHeartbeats 4000000
namespace Go.PL
open Go Go.Proofs IntKind
set_option linter.unusedVariables false
set_option maxRecDepth 20000
noncomputable section
def Lb(a1:Int):(LD×Int×Int)->TP ((LD×Int×Int)⊕((LD×Int)⊕LD))
 | (v1,v2,v3)=>.ite 3 (decide (v3<=a1)) (.ch 4 [] (Ld v2 v3 v1) fun r6=>.ret 6 (.inl (r6,v3,i64.wrap (v3+20)))) (.ret 0 (.inr (.inl (v1,v2))))
def Kn(a1:Int)(v9:Int):(LD×Int×Int)->TP ((LD×Int×Int)⊕((LD×Int)⊕((LD×Int)⊕((LD)⊕LD))))
 | (v11,v12,v13)=>.ite 3 (decide (v13<=a1)) (.ch 7 [] (Kc v12 (i64.wrap (v12+v9)) v13 v11) fun r16=>.ret 7 (.inl (r16,v13,i64.wrap (v13+(i64.wrap (2*v9)))))) (.ret 0 (.inr (.inl (v11,v12))))
def Lq(a1:Int):(LD×Int)->TP ((LD×Int)⊕((LD)⊕LD))
 | (v8,v9)=>.ite 3 (decide (v9<a1)) (.lp 4 (fun (v11,v12,v13)=>⟨[(0,.own 30000),(1,tI a1),(2,.fn (.func 183) 0 []),(6,tI v9),(7,tI v12),(8,tI v13)],[(30000,aD v11)]⟩) (fun (b14,b15)=>⟨[(0,.own 30000),(1,tI a1),(2,.fn (.func 183) 0 []),(6,tI v9),(7,tI b15)],[(30000,aD b14)]⟩) 4 (v8,0,i64.wrap (2*v9)) (Kn a1 v9) fun (b14,b15)=>.jn 7 0 (fun j17=>⟨[(0,.own 30000),(1,tI a1),(2,.fn (.func 183) 0 []),(6,tI v9)],[(30000,aD j17)]⟩) (.ite 0 (decide ((i64.wrap (b15+v9))<a1)) (.ch 5 [] (Kc b15 (i64.wrap (b15+v9)) a1 b14) fun r18=>.ret 0 r18) (.ret 0 b14)) fun j17=>.ret 3 (.inl (j17,i64.wrap (v9*2)))) (.ret 0 (.inr (.inl v8)))
def Vr(a1:Int)(qul:LD):TP LD:=.lp 4 (fun (v1,v2,v3)=>⟨[(0,.own 30000),(1,tI a1),(2,.fn (.func 183) 0 []),(6,tI 20),(7,tI v2),(8,tI v3)],[(30000,aD v1)]⟩) (fun (b4,b5)=>⟨[(0,.own 30000),(1,tI a1),(2,.fn (.func 183) 0 []),(6,tI 20),(7,tI b5)],[(30000,aD b4)]⟩) 0 (qul,0,20) (Lb a1) fun (b4,b5)=>.ch 4 [] (Ld b5 a1 b4) fun r7=>.lp 0 (fun (v8,v9)=>⟨[(0,.own 30000),(1,tI a1),(2,.fn (.func 183) 0 []),(6,tI v9)],[(30000,aD v8)]⟩) (fun b10=>⟨[],[(30000,aD b10)]⟩) 2 (r7,20) (Lq a1) fun b10=>.ret 0 b10
def Vg(a1:Int)(qul:LD):=(Vr a1 qul).den
theorem aER(G:Int)(D:LD):eT Tryz.prog 214 [.own 30000,tI G,.fn (.func 183) 0 []] [(30000,aD D)] [30000] (Vg G D) (fun y=>.tup []) (fun y=>[(30000,aD y)]):=lR Tryz.func214 aZ (Vr G D)
def aKO(qul:LD):TP LD:=.ch 4 [] (aER (qul.length:Int) qul) fun r1=>.ret 0 r1
def aKZ(qul:LD):=(aKO qul).den
theorem aHT(D:LD):eT Tryz.prog 153 [.own 30000,.fn (.func 183) 0 []] [(30000,aD D)] [30000] (aKZ D) (fun y=>.tup []) (fun y=>[(30000,aD y)]):=lR Tryz.func153 aZ (aKO D)
def aHA(a0:List aE):TP (List aE):=.jn 2 0 (fun j1=>⟨[(0,tV a0),(4,tB j1)],[]⟩) (.ndb 0 a0.length (.ret 0 true) (.ret 0 false)) fun j1=>.ite 0 j1 (.cv 1 [.th 2 40000 67 3 (eF aR ([]:List aE))] <| .ret 0 ([]:List aE)) (.bs 0 true aR ([]:List aE) <| .grd 2 ((([]:List aE).length+a0.length)*32<=140737488355328) <| .cv 0 [.ap 7 aR ([]:List aE) a0] <| .cv 1 [.rn 7 40000] <| .ret 0 (([]:List aE)++a0))
def aBT(a0:List aE):Option (List aE):=Det (aHA a0)
theorem aKA(D:List aE):eT Tryz.prog 154 [tV D] [] [] (aBT D) (fun y=>.own 40000) (fun y=>[(40000,.arr 67 3 (y.length) (eF aR y))]):=aVT Tryz.func154 aZ (aHA D)
def aYS(a0:aB):TP Bool:=.ret 6 (a0.N==0)
def bDB(a0:aB):=(aYS a0).den
theorem aBD(D:aB):Con Tryz.prog 184 [.t (cH D)] (bDB D) tB:=con Tryz.func184 aZ (aYS D)
def Lo(qul:LD):Int->TP ((Int)⊕((Unit)⊕Int))
 | v1=>.ite 1 (decide (v1<qul.length)) (.grd 6 (0<=v1/\v1<qul.length) <| .grd 1 ((v1).toNat<qul.length) <| .ca 0 (aBD (qul.getD v1.toNat default)) fun r2=>.ite 0 r2 (.ret 2 (.inr (.inr v1))) (.ret 2 (.inl (i64.wrap (v1+1))))) (.ret 0 (.inr (.inl ())))
def Uw(qul:LD):TP Int:=.lp 4 (fun v1=>⟨[(0,.own 30000),(1,.fn (.func 184) 0 []),(7,tI (qul.length:Int)),(8,tI v1)],[(30000,aD qul)]⟩) (fun _=>⟨[],[(30000,aD qul)]⟩) 0 0 (Lo qul) fun _=>.ret 1 (-1)
def Wh(qul:LD):=(Uw qul).den
theorem aDM(D:LD):eT Tryz.prog 165 [.own 30000,.fn (.func 184) 0 []] [(30000,aD D)] [30000] (Wh D) tI (fun y=>[(30000,aD D)]):=lR Tryz.func165 aZ (Uw D)
def Ul:(LD×Int×Int)->TP ((LD×Int×Int)⊕((LD×Int)⊕LD))
 | (v2,v3,v4)=>.ite 4 (decide (v4<v2.length)) (.grd 3 (0<=v4/\v4<v2.length) <| .grd 1 ((v4).toNat<v2.length) <| .ca 4 (aBD (v2.getD v4.toNat default)) fun r7=>.jn 1 0 (fun (j8,j9)=>⟨[(0,.own 0),(1,.fn (.func 184) 0 []),(5,tI j9),(6,tI v4)],[(0,aD j8)]⟩) (.ite 0 (!r7) (.grd 4 (0<=v3/\v3<v2.length) <| .grd 1 ((v3).toNat<v2.length) <| .sto 0 0 aH v2 [((v3).toNat,v2.getD v4.toNat default)] <| .ret 3 (v2.set v3.toNat (v2.getD v4.toNat default),i64.wrap (v3+1))) (.ret 0 (v2,v3))) fun (j8,j9)=>.ret 3 (.inl (j8,j9,i64.wrap (v4+1)))) (.ret 0 (.inr (.inl (v2,v3))))
def aMQ(qul:LD):TP LD:=.ch 3 [] (aDM qul) fun r1=>.ite 3 (r1==(-1)) (.cv 2 [.fr 30000 (eL aH qul)] <| .ret 0 qul) (.cv 3 [.rn 30000 0] <| .lp 0 (fun (v2,v3,v4)=>⟨[(0,.own 0),(1,.fn (.func 184) 0 []),(5,tI v3),(6,tI v4)],[(0,aD v2)]⟩) (fun (b5,b6)=>⟨[(0,.own 0),(5,tI b6)],[(0,aD b5)]⟩) 0 (qul,r1,i64.wrap (r1+1)) Ul fun (b5,b6)=>.clr 2 aH b5 b6 <| .cut 2 aH (b5.take b6.toNat++List.replicate (b5.length-b6.toNat) default) b6 <| .cv 1 [.fr 41 (eL aH ((b5.take b6.toNat++List.replicate (b5.length-b6.toNat) default).take b6.toNat))] <| .ret 0 ((b5.take b6.toNat++List.replicate (b5.length-b6.toNat) default).take b6.toNat))
def aIH(qul:LD):=(aMQ qul).den
theorem aMJ(D:LD):eT Tryz.prog 74 [.own 30000,.fn (.func 184) 0 []] [(30000,aD D)] [] (aIH D) tD (fun y=>[]):=lR Tryz.func74 aZ (aMQ D)
def aHP(a0:LD):TP LD:=.jn 2 0 (fun j1=>⟨[(0,tD a0),(4,tB j1)],[]⟩) (.ndb 0 a0.length (.ret 0 true) (.ret 0 false)) fun j1=>.ite 0 j1 (.cv 1 [.th 2 40000 50 3 (eF aH ([]:LD))] <| .ret 0 ([]:LD)) (.bs 0 true aH ([]:LD) <| .grd 2 ((([]:LD).length+a0.length)*40<=140737488355328) <| .cv 0 [.ap 7 aH ([]:LD) a0] <| .cv 1 [.rn 7 40000] <| .ret 0 (([]:LD)++a0))
def aGM(a0:LD):Option LD:=Det (aHP a0)
theorem aIL(D:LD):eT Tryz.prog 75 [tD D] [] [] (aGM D) (fun y=>.own 40000) (fun y=>[(40000,aD y)]):=aVT Tryz.func75 aZ (aHP D)
def Mw(r2:LD):(LD×LD×Int)->TP ((LD×LD×Int)⊕((LD)⊕LD))
 | (v3,v4,v5)=>.ite 1 (decide (v5<r2.length)) (.jn 0 2 (fun (j7,j8)=>⟨[(3,.own 3),(11,.own 11),(12,tI (r2.length:Int)),(13,tI v5)],[(3,aD j7),(11,aD j8)]⟩) (.grd 1 (0<=v5/\v5<v4.length) <| .grd 1 ((v5).toNat<v4.length) <| .jn 5 0 (fun (j9,j10,j11)=>⟨[(3,.own 3),(5,.ptr 5 0),(6,tI (v3.length:Int)),(11,.own 11),(12,tI (r2.length:Int)),(13,tI v5),(30,tB j11)],[(3,aD j9),(5,.box ((aH (v4.getD v5.toNat default)).map .t)),(11,aD j10)]⟩) (.dl 2 (decide ((v3.length:Int)>0)) (.dg 6 (0<=(i64.wrap ((v3.length:Int)-1))/\(i64.wrap ((v3.length:Int)-1))<v3.length) <| .dg 7 ((i64.wrap ((v3.length:Int)-1)).toNat<v3.length) <| .dc 9 [.t (cH (v3.getD (i64.wrap ((v3.length:Int)-1)).toNat default)),.t (cH (v4.getD v5.toNat default))] (yH (v3.getD (i64.wrap ((v3.length:Int)-1)).toNat default) (v4.getD v5.toNat default)) fun r12=>.dr 0 0 [(3,false,[]),(5,false,[]),(11,false,[])] [3,5,6,11,12,13,14,15,16,17,18] <| .ret 0 (v3,v4,r12==0)) (.dr 0 0 [(3,false,[]),(5,false,[]),(11,false,[])] [3,5,6,11,12,13,14,15,16,17,18] <| .ret 0 (v3,v4,false))) fun (j9,j10,j11)=>.ite 0 j11 (.dg 3 (0<=(i64.wrap ((v3.length:Int)-1))/\(i64.wrap ((v3.length:Int)-1))<j9.length) <| .dg 5 ((i64.wrap ((v3.length:Int)-1)).toNat<j9.length) <| .dg 9 (0<=(i64.wrap ((v3.length:Int)-1))/\(i64.wrap ((v3.length:Int)-1))<j9.length) <| .dg 11 ((i64.wrap ((v3.length:Int)-1)).toNat<j9.length) <| .dr 0 0 [(3,false,[11]),(5,false,[]),(11,false,[])] [3,5,6,11,12,13,30] <| .sto 0 3 aH j9 [((i64.wrap ((v3.length:Int)-1)).toNat,(aB.mk ((j9.getD (i64.wrap ((v3.length:Int)-1)).toNat default).Time) ((j9.getD (i64.wrap ((v3.length:Int)-1)).toNat default).Row) (i64.wrap (((j9.getD (i64.wrap ((v3.length:Int)-1)).toNat default).N)+((v4.getD v5.toNat default).N)))))] <| .ret 0 (j9.set (i64.wrap ((v3.length:Int)-1)).toNat (aB.mk ((j9.getD (i64.wrap ((v3.length:Int)-1)).toNat default).Time) ((j9.getD (i64.wrap ((v3.length:Int)-1)).toNat default).Row) (i64.wrap (((j9.getD (i64.wrap ((v3.length:Int)-1)).toNat default).N)+((v4.getD v5.toNat default).N)))),j10)) (.ch 2 [40000] (aKA ((v4.getD v5.toNat default).Row)) fun r13=>.cv 0 [.rn 40000 44] <| .cv 3 [.fr 44 (eL aR r13)] <| .bs 1 true aH [(aB.mk ((v4.getD v5.toNat default).Time) r13 ((v4.getD v5.toNat default).N))] <| .grd 1 ((j9.length+[(aB.mk ((v4.getD v5.toNat default).Time) r13 ((v4.getD v5.toNat default).N))].length)*40<=140737488355328) <| .cv 0 [.ap 49 aH j9 [(aB.mk ((v4.getD v5.toNat default).Time) r13 ((v4.getD v5.toNat default).N))]] <| .cv 1 [.rn 49 3] <| .ret 0 (j9++[(aB.mk ((v4.getD v5.toNat default).Time) r13 ((v4.getD v5.toNat default).N))],j10))) fun (j7,j8)=>.ret 2 (.inl (j7,j8,i64.wrap (v5+1)))) (.ret 0 (.inr (.inl v3)))
def aWI(a0:LD):TP LD:=.ch 2 [40000] (aIL a0) fun r1=>.cv 0 [.rn 40000 8] <| .cv 2 [.rn 8 30000] <| .ch 0 [] (aHT r1) fun r2=>.cv 4 [.rn 30000 11,.th 3 3 50 3 (eF aH ([]:LD))] <| .lp 0 (fun (v3,v4,v5)=>⟨[(3,.own 3),(11,.own 11),(12,tI (r2.length:Int)),(13,tI v5)],[(3,aD v3),(11,aD v4)]⟩) (fun b6=>⟨[(3,.own 3)],[(3,aD b6)]⟩) 0 (([]:LD),r2,0) (Mw r2) fun b6=>.cv 1 [.rn 3 30000] <| .ch 0 [] (aMJ b6) fun r14=>.ret 1 r14
def aYM(a0:LD):=(aWI a0).den
theorem aNX(D:LD):Con Tryz.prog 92 [tD D] (aYM D) tD:=con Tryz.func92 aZ (aWI D)
def En(a0:List aS)(a1:aG)(a2:List LD):(LD×Int)->TP ((LD×Int)⊕((LD)⊕LD))
 | (v2,v3)=>.ite 1 (decide (v3<((a2.getD (0:Int).toNat default).length:Int))) (.grd 1 (0<=v3/\v3<((a2.getD (0:Int).toNat default).length:Int)) <| .dg 3 (0<=(0:Int)/\(0:Int)<a1.Exprs.length) <| .dc 9 [.t (eL aW a0),.t (cJ (a1.Exprs.getD (0:Int).toNat default)),tI (((a2.getD (0:Int).toNat default).getD v3.toNat default).Time),tV (((a2.getD (0:Int).toNat default).getD v3.toNat default).Row)] (Ph a0 (a1.Exprs.getD (0:Int).toNat default) (((a2.getD (0:Int).toNat default).getD v3.toNat default).Time) (((a2.getD (0:Int).toNat default).getD v3.toNat default).Row)) fun r5=>.dc 10 [tB true] (Yb true) fun r6=>.dr 3 0 [(4,false,[]),(7,false,[]),(9,false,[])] [0,4,7,9,18,19,20,21,22,23] <| .jn 0 0 (fun j7=>⟨[(0,.t (eL aW a0)),(4,.ptr 4 0),(7,.own 7),(18,tD (a2.getD (0:Int).toNat default)),(19,tI ((a2.getD (0:Int).toNat default).length:Int)),(20,tI v3)],[(4,bN a1),(7,aD j7)]⟩) (.ite 0 ((r5.Kind==r6.Kind)&&((r5.N==r6.N)&&((r5.S.toList==r6.S.toList)&&true))) (.bs 2 false aH ([(a2.getD (0:Int).toNat default).getD v3.toNat default]:LD) <| .grd 1 ((v2.length+([(a2.getD (0:Int).toNat default).getD v3.toNat default]:LD).length)*40<=140737488355328) <| .cv 0 [.ap 39 aH v2 ([(a2.getD (0:Int).toNat default).getD v3.toNat default]:LD)] <| .cv 1 [.rn 39 7] <| .ret 0 (v2++([(a2.getD (0:Int).toNat default).getD v3.toNat default]:LD))) (.ret 0 v2)) fun j7=>.ret 2 (.inl (j7,i64.wrap (v3+1)))) (.ret 0 (.inr (.inl v2)))
def Ey(a0:List aS)(a1:aG)(r21:(List LD)):(LD×Int)->TP ((LD×Int)⊕((LD)⊕LD))
 | (v22,v23)=>.ite 1 (decide (v23<r21.length)) (.grd 1 (0<=v23/\v23<r21.length) <| .ca 6 (aSQ a0 a1 (r21.getD v23.toNat default)) fun r25=>.grd 1 ((v22.length+r25.length)*40<=140737488355328) <| .cv 0 [.ap 112 aH v22 r25] <| .cv 3 [.rn 112 7] <| .ret 0 (.inl (v22++r25,i64.wrap (v23+1)))) (.ret 0 (.inr (.inl v22)))
def Jk(a0:List aS)(a1:aG)(a2:List LD):TP LD:=.jn 7 0 (fun j1=>⟨[(7,tD j1)],[]⟩) (.ite 0 (a1.Op==1) (.grd 2 (0<=(0:Int)/\(0:Int)<a2.length) <| .cv 3 [.th 7 7 50 3 (eF aH ([]:LD))] <| .lp 0 (fun (v2,v3)=>⟨[(0,.t (eL aW a0)),(4,.ptr 4 0),(7,.own 7),(18,tD (a2.getD (0:Int).toNat default)),(19,tI ((a2.getD (0:Int).toNat default).length:Int)),(20,tI v3)],[(4,bN a1),(7,aD v2)]⟩) (fun b4=>⟨[(7,.own 7)],[(7,aD b4)]⟩) 1 (([]:LD),0) (En a0 a1 a2) fun b4=>.cv 0 [.fr 7 (eL aH b4)] <| .ret 0 b4) (.jn 2 0 (fun j8=>⟨[(7,tD j8)],[]⟩) (.ite 0 (a1.Op==2) (.dg 4 (0<=(0:Int)/\(0:Int)<a2.length) <| .dc 6 [.t (eL aW a0),.t (.lz (.exprs (a1.Exprs))),tD (a2.getD (0:Int).toNat default)] (aOZ a0 a1.Exprs (a2.getD (0:Int).toNat default)) fun r9=>.dr 0 0 [(4,false,[])] [0,1,2,4,6,12,13,14,15,41,42] <| .ret 0 r9) (.jn 2 0 (fun j10=>⟨[(7,tD j10)],[]⟩) (.ite 0 (a1.Op==3) (.dg 1 (0<=(0:Int)/\(0:Int)<a2.length) <| .dg 4 (0<=(1:Int)/\(1:Int)<a2.length) <| .dc 7 [.t (.sl 2 (jM [eL aH (a2.getD (0:Int).toNat default),eL aH (a2.getD (1:Int).toNat default)] 1))] (aWM ([a2.getD (0:Int).toNat default,a2.getD (1:Int).toNat default]:List LD)) fun r11=>.dr 0 0 [(4,false,[])] [0,1,2,4,6,12,13,14,15,41,42,50,51] <| .ret 0 r11) (.jn 2 0 (fun j12=>⟨[(7,tD j12)],[]⟩) (.ite 0 (a1.Op==4) (.dg 2 (0<=(0:Int)/\(0:Int)<a2.length) <| .dc 4 [.t (dD a1),tD (a2.getD (0:Int).toNat default)] (aOP a1 (a2.getD (0:Int).toNat default)) fun r13=>.dr 0 0 [(4,false,[])] [0,1,2,4,6,12,13,14,15,41,42,50,51,60,61] <| .ret 0 r13) (.jn 2 0 (fun j14=>⟨[(7,tD j14)],[]⟩) (.ite 0 (a1.Op==5) (.dg 2 (0<=(0:Int)/\(0:Int)<a2.length) <| .dc 4 [.t (dD a1),tD (a2.getD (0:Int).toNat default)] (aNT a1 (a2.getD (0:Int).toNat default)) fun r15=>.dr 0 0 [(4,false,[])] [0,1,2,4,6,12,13,14,15,41,42,50,51,60,61,67,68] <| .ret 0 r15) (.jn 2 0 (fun j16=>⟨[(7,tD j16)],[]⟩) (.ite 0 (a1.Op==6) (.dg 2 (0<=(0:Int)/\(0:Int)<a2.length) <| .dg 5 (0<=(1:Int)/\(1:Int)<a2.length) <| .dc 7 [.t (dD a1),tD (a2.getD (0:Int).toNat default),tD (a2.getD (1:Int).toNat default)] (aSV a1 (a2.getD (0:Int).toNat default) (a2.getD (1:Int).toNat default)) fun r17=>.dr 0 0 [(4,false,[])] [0,1,2,4,6,12,13,14,15,41,42,50,51,60,61,67,68,74,75] <| .ret 0 r17) (.jn 2 0 (fun j18=>⟨[(7,tD j18)],[]⟩) (.ite 0 (a1.Op==7) (.dg 2 (0<=(0:Int)/\(0:Int)<a2.length) <| .dg 5 (0<=(1:Int)/\(1:Int)<a2.length) <| .dc 7 [.t (dD a1),tD (a2.getD (0:Int).toNat default),tD (a2.getD (1:Int).toNat default)] (aRZ a1 (a2.getD (0:Int).toNat default) (a2.getD (1:Int).toNat default)) fun r19=>.dr 0 0 [(4,false,[])] [0,1,2,4,6,12,13,14,15,41,42,50,51,60,61,67,68,74,75,84,85] <| .ret 0 r19) (.jn 2 0 (fun j20=>⟨[(7,.own 7)],[(7,aD j20)]⟩) (.ite 0 (a1.Op==8) (.dg 1 (0<=(0:Int)/\(0:Int)<a2.length) <| .dc 5 [tD (a2.getD (0:Int).toNat default),.t (eL bI (a1.Key))] (aAZ (a2.getD (0:Int).toNat default) a1.Key) fun r21=>.dr 0 0 [(4,false,[])] [0,1,2,4,6,7,12,13,14,15,41,42,50,51,60,61,67,68,74,75,84,85,94,95] <| .cv 0 [.th 7 7 50 3 (eF aH ([]:LD))] <| .lp 0 (fun (v22,v23)=>⟨[(0,.t (eL aW a0)),(4,.ptr 4 0),(7,.own 7),(101,.t (eL aU r21)),(102,tI (r21.length:Int)),(103,tI v23)],[(4,bN a1),(7,aD v22)]⟩) (fun b24=>⟨[(7,.own 7)],[(7,aD b24)]⟩) 3 (([]:LD),0) (Ey a0 a1 r21) fun b24=>.ret 0 b24) (.cv 0 [.th 7 7 50 3 (eF aH ([]:LD))] <| .ret 0 ([]:LD))) fun j20=>.cv 0 [.fr 7 (eL aH j20)] <| .ret 0 j20)) fun j18=>.ret 0 j18)) fun j16=>.ret 0 j16)) fun j14=>.ret 0 j14)) fun j12=>.ret 0 j12)) fun j10=>.ret 0 j10)) fun j8=>.ret 0 j8)) fun j1=>.ca 1 (aNX j1) fun r26=>.ret 1 r26
def oO(a0:List aS)(a1:aG)(a2:List LD):=(Jk a0 a1 a2).den
theorem Ec(G:List aS)(D:aG)(a2:List LD):Con Tryz.prog 34 [.t (eL aW G),.t (dD D),.t (eL aU a2)] (oO G D a2) tD:=con Tryz.func34 aZ (Jk G D a2)
def aYT(a0:aE)(a1:aE):TP Int:=.ite 8 (decide (a0.Kind<a1.Kind)) (.ret 1 (-1)) (.ite 5 (decide (a0.Kind>a1.Kind)) (.ret 1 1) (.ite 5 (decide (a0.N<a1.N)) (.ret 1 (-1)) (.ite 5 (decide (a0.N>a1.N)) (.ret 1 1) (.ite 5 (Op.bytesLess (a0.S:ByteArray).toList (a1.S:ByteArray).toList) (.ret 1 (-1)) (.ite 5 (!(Op.bytesLess (a0.S:ByteArray).toList (a1.S:ByteArray).toList || (a0.S:ByteArray).toList==(a1.S:ByteArray).toList)) (.ret 1 1) (.ret 1 0))))))
def aYY(a0:aE)(a1:aE):=(aYT a0 a1).den
theorem Nt(G:aE)(D:aE):Con Tryz.prog 77 [.t (bZ G),.t (bZ D)] (aYY G D) tI:=con Tryz.func77 aZ (aYT G D)
def aAP(a0:List aE)(a1:List aE):Int->TP ((Int)⊕((Unit)⊕Int))
 | v1=>.jn 5 0 (fun j2=>⟨[(0,tV a0),(1,tV a1),(5,tI v1),(16,tB j2)],[]⟩) (.ite 0 (decide (v1<a0.length)) (.ret 5 (decide (v1<a1.length))) (.ret 5 false)) fun j2=>.ite 0 j2 (.dg 2 (0<=v1/\v1<a0.length) <| .dg 6 (0<=v1/\v1<a1.length) <| .dc 8 [.t (bZ (a0.getD v1.toNat default)),.t (bZ (a1.getD v1.toNat default))] (Nt (a0.getD v1.toNat default) (a1.getD v1.toNat default)) fun r3=>.dr 0 0 [] [0,1,5,16] <| .ite 2 (r3 != 0) (.ret 2 (.inr (.inr r3))) (.ret 3 (.inl (i64.wrap (v1+1))))) (.ret 0 (.inr (.inl ())))
def aWO(a0:List aE)(a1:List aE):TP Int:=.lp 2 (fun v1=>⟨[(0,tV a0),(1,tV a1),(5,tI v1)],[]⟩) (fun _=>⟨[(0,tV a0),(1,tV a1)],[]⟩) 0 0 (aAP a0 a1) fun _=>.ite 5 (decide ((a0.length:Int)<a1.length)) (.ret 1 (-1)) (.ite 5 (decide ((a0.length:Int)>(a1.length:Int))) (.ret 1 1) (.ret 1 0))
def bCS(a0:List aE)(a1:List aE):=(aWO a0 a1).den
theorem aBS(G:List aE)(D:List aE):Con Tryz.prog 102 [tV G,tV D] (bCS G D) tI:=con Tryz.func102 aZ (aWO G D)
def bAC(a0:List aE)(a1:List aE):TP Bool:=.ca 3 (aBS a0 a1) fun r1=>.ret 2 (r1==0)
def Oz(a0:List aE)(a1:List aE):=(bAC a0 a1).den
theorem oB(G:List aE)(D:List aE):Con Tryz.prog 40 [tV G,tV D] (Oz G D) tB:=con Tryz.func40 aZ (bAC G D)
def bDV(a0:Int)(a1:Int):TP (List aE):=.bs 5 false aR [(aE.mk 0 a0 (⟨#[]⟩)),(aE.mk 0 a1 (⟨#[]⟩))] <| .ret 1 [(aE.mk 0 a0 (⟨#[]⟩)),(aE.mk 0 a1 (⟨#[]⟩))]
def bET(a0:Int)(a1:Int):=(bDV a0 a1).den
theorem nK(G:Int)(D:Int):Con Tryz.prog 80 [tI G,tI D] (bET G D) (fun y=>tV y):=con Tryz.func80 aZ (bDV G D)
def aKH(a0:Int)(a1:Int):TP (List aE):=.bs 5 true aR [(aE.mk 0 a0 (⟨#[]⟩)),(aE.mk 0 a1 (⟨#[]⟩))] <| .cv 1 [.rn 9 40000] <| .ret 0 [(aE.mk 0 a0 (⟨#[]⟩)),(aE.mk 0 a1 (⟨#[]⟩))]
def aGZ(a0:Int)(a1:Int):=(aKH a0 a1).den
theorem tY(G:Int)(D:Int):eT Tryz.prog 80 [tI G,tI D] [] [] (aGZ G D) (fun y=>.own 40000) (fun y=>[(40000,.arr 67 3 (y.length) (eF aR y))]):=lR Tryz.func80 aZ (aKH G D)
def aZS:TP Bool:=.ca 1 (nK 7 5) fun r1=>.ca 1 (nK 7 6) fun r2=>.ca 1 (nK 7 1) fun r3=>.bs 1 false aH [(aB.mk 3 r1 1),(aB.mk 8 r2 1),(aB.mk 12 r3 1)] <| .bs 3 false gU [(gO.mk 0 0 (⟨#[110]⟩)),(gO.mk 1 1 (⟨#[115]⟩))] <| .bs 1 false bI ([0]:List Int) <| .bs 3 false aU ([([(aB.mk 3 r1 1),(aB.mk 8 r2 1),(aB.mk 12 r3 1)]:LD)]:List LD) <| .cv 0 [.sl 20 (dD (aG.mk 4 ([]:List Int) (⟨#[]⟩) 0 ([]:List bF) 0 10 0 ([0]:List Int) ([]:List Int) 0 0 0 [(gO.mk 0 0 (⟨#[110]⟩)),(gO.mk 1 1 (⟨#[115]⟩))] ([]:List oH) ([]:List Jb)))] <| .ca 0 (Ec ([]:List aS) (aG.mk 4 ([]:List Int) (⟨#[]⟩) 0 ([]:List bF) 0 10 0 ([0]:List Int) ([]:List Int) 0 0 0 [(gO.mk 0 0 (⟨#[110]⟩)),(gO.mk 1 1 (⟨#[115]⟩))] ([]:List oH) ([]:List Jb)) ([([(aB.mk 3 r1 1),(aB.mk 8 r2 1),(aB.mk 12 r3 1)]:LD)]:List LD)) fun r4=>.bs 1 false bI ([0]:List Int) <| .bs 3 false aU ([([(aB.mk 3 r1 1),(aB.mk 8 r2 1),(aB.mk 12 r3 1)]:LD)]:List LD) <| .cv 0 [.sl 26 (dD (aG.mk 4 ([]:List Int) (⟨#[]⟩) 0 ([]:List bF) 2 100 5 ([0]:List Int) ([]:List Int) 0 0 0 [(gO.mk 0 0 (⟨#[110]⟩)),(gO.mk 1 1 (⟨#[115]⟩))] ([]:List oH) ([]:List Jb)))] <| .ca 0 (Ec ([]:List aS) (aG.mk 4 ([]:List Int) (⟨#[]⟩) 0 ([]:List bF) 2 100 5 ([0]:List Int) ([]:List Int) 0 0 0 [(gO.mk 0 0 (⟨#[110]⟩)),(gO.mk 1 1 (⟨#[115]⟩))] ([]:List oH) ([]:List Jb)) ([([(aB.mk 3 r1 1),(aB.mk 8 r2 1),(aB.mk 12 r3 1)]:LD)]:List LD)) fun r5=>.slc 4 32 aH [(aB.mk 3 r1 1),(aB.mk 8 r2 1),(aB.mk 12 r3 1)] (0:Int) (2:Int) <| .bs 0 false aU ([(([(aB.mk 3 r1 1),(aB.mk 8 r2 1),(aB.mk 12 r3 1)]:LD).drop (0:Int).toNat).take ((2:Int)-(0:Int)).toNat]:List LD) <| .cv 0 [.sl 30 (dD (aG.mk 5 ([]:List Int) (⟨#[]⟩) 0 ([]:List bF) 0 10 1 ([]:List Int) ([]:List Int) 0 0 1 ([]:List gO) ([]:List oH) ([]:List Jb)))] <| .ca 0 (Ec ([]:List aS) (aG.mk 5 ([]:List Int) (⟨#[]⟩) 0 ([]:List bF) 0 10 1 ([]:List Int) ([]:List Int) 0 0 1 ([]:List gO) ([]:List oH) ([]:List Jb)) ([(([(aB.mk 3 r1 1),(aB.mk 8 r2 1),(aB.mk 12 r3 1)]:LD).drop (0:Int).toNat).take ((2:Int)-(0:Int)).toNat]:List LD)) fun r6=>.jn 5 0 (fun j7=>⟨[(3,tD r4),(4,tD r5),(5,tD r6),(47,tB j7)],[]⟩) (.ite 0 ((r4.length:Int) != 2) (.ret 9 true) (.ite 5 ((r5.length:Int) != 2) (.ret 4 true) (.ret 4 ((r6.length:Int) != 1)))) fun j7=>.ite 0 j7 (.ret 1 false) (.jn 0 0 (fun j8=>⟨[(4,tD r5),(5,tD r6),(6,tB j8)],[]⟩) (.dg 1 (0<=(0:Int)/\(0:Int)<r4.length) <| .dl 5 (((r4.getD (0:Int).toNat default).Time)==9) (.dg 7 (0<=(0:Int)/\(0:Int)<r4.length) <| .dcn 10 58 [tI 7,tI 0] (tY 7 0) fun r9=>.dc 11 [tI 2,tI 11] (nK 2 11) fun r10=>.dap 12 (Mq aR r9 r10 r10.length (eF aR r10) rfl (by kernel_rfl)) <| .dg 12 ((r9.length+r10.length)*32<=140737488355328) <| .dc 13 [tV ((r4.getD (0:Int).toNat default).Row),tV (r9++r10)] (oB ((r4.getD (0:Int).toNat default).Row) (r9++r10)) fun r11=>.dl 15 r11 (.dg 17 (0<=(1:Int)/\(1:Int)<r4.length) <| .dl 22 (((r4.getD (1:Int).toNat default).Time)==19) (.dg 24 (0<=(1:Int)/\(1:Int)<r4.length) <| .dcn 27 75 [tI 7,tI 10] (tY 7 10) fun r12=>.dc 28 [tI 1,tI 1] (nK 1 1) fun r13=>.dap 29 (Mq aR r12 r13 r13.length (eF aR r13) rfl (by kernel_rfl)) <| .dg 29 ((r12.length+r13.length)*32<=140737488355328) <| .dc 30 [tV ((r4.getD (1:Int).toNat default).Row),tV (r12++r13)] (oB ((r4.getD (1:Int).toNat default).Row) (r12++r13)) fun r14=>.dr 0 0 [(58,true,[10,12]),(60,true,[12]),(75,true,[27,29]),(77,true,[29])] [3,4,5,47] <| .ret 0 r14) (.dr 0 0 [(58,true,[10,12]),(60,true,[12])] [3,4,5,47] <| .ret 0 false)) (.dr 0 0 [(58,true,[10,12]),(60,true,[12])] [3,4,5,47] <| .ret 0 false)) (.dr 0 0 [] [3,4,5,47] <| .ret 0 false)) fun j8=>.jn 0 0 (fun j15=>⟨[(5,tD r6),(6,tB j8),(7,tB j15)],[]⟩) (.dg 1 (0<=(0:Int)/\(0:Int)<r5.length) <| .dl 5 (((r5.getD (0:Int).toNat default).Time)==7) (.dg 7 (0<=(0:Int)/\(0:Int)<r5.length) <| .dcn 10 90 [tI 7,tI 3] (tY 7 3) fun r16=>.dc 11 [tI 1,tI 5] (nK 1 5) fun r17=>.dap 12 (Mq aR r16 r17 r17.length (eF aR r17) rfl (by kernel_rfl)) <| .dg 12 ((r16.length+r17.length)*32<=140737488355328) <| .dc 13 [tV ((r5.getD (0:Int).toNat default).Row),tV (r16++r17)] (oB ((r5.getD (0:Int).toNat default).Row) (r16++r17)) fun r18=>.dl 15 r18 (.dg 17 (0<=(1:Int)/\(1:Int)<r5.length) <| .dl 22 (((r5.getD (1:Int).toNat default).Time)==16) (.dg 24 (0<=(1:Int)/\(1:Int)<r5.length) <| .dcn 27 107 [tI 7,tI 8] (tY 7 8) fun r19=>.dc 28 [tI 2,tI 7] (nK 2 7) fun r20=>.dap 29 (Mq aR r19 r20 r20.length (eF aR r20) rfl (by kernel_rfl)) <| .dg 29 ((r19.length+r20.length)*32<=140737488355328) <| .dc 30 [tV ((r5.getD (1:Int).toNat default).Row),tV (r19++r20)] (oB ((r5.getD (1:Int).toNat default).Row) (r19++r20)) fun r21=>.dr 0 0 [(90,true,[10,12]),(92,true,[12]),(107,true,[27,29]),(109,true,[29])] [4,5,6] <| .ret 0 r21) (.dr 0 0 [(90,true,[10,12]),(92,true,[12])] [4,5,6] <| .ret 0 false)) (.dr 0 0 [(90,true,[10,12]),(92,true,[12])] [4,5,6] <| .ret 0 false)) (.dr 0 0 [] [4,5,6] <| .ret 0 false)) fun j15=>.jn 0 0 (fun j22=>⟨[(0,tB j22)],[]⟩) (.dl 1 j8 (.dl 4 j15 (.dg 6 (0<=(0:Int)/\(0:Int)<r6.length) <| .dl 11 (((r6.getD (0:Int).toNat default).Time)==9) (.dg 13 (0<=(0:Int)/\(0:Int)<r6.length) <| .dc 16 [tI 7,tI 6] (nK 7 6) fun r23=>.dc 17 [tV ((r6.getD (0:Int).toNat default).Row),tV r23] (oB ((r6.getD (0:Int).toNat default).Row) r23) fun r24=>.dr 0 0 [] [5,6,7] <| .ret 0 r24) (.dr 0 0 [] [5,6,7] <| .ret 0 false)) (.dr 0 0 [] [5,6,7] <| .ret 0 false)) (.dr 0 0 [] [5,6,7] <| .ret 0 false)) fun j22=>.ret 0 j22)
def bDK:=aZS.den
theorem aRT:Con Tryz.prog 31 [] bDK tB:=con Tryz.func31 aZ (aZS)
def bCR(a0:aE):TP Bool:=.ite 5 (a0.Kind==0) (.ret 4 ((a0.S:ByteArray).toList==(⟨#[]⟩:ByteArray).toList)) (.ite 3 (a0.Kind==1) (.jn 4 0 (fun j1=>⟨[(2,tB j1)],[]⟩) (.ite 0 (a0.N==0) (.ret 6 (decide (((a0.S:ByteArray).size:Int)<=200))) (.ret 6 false)) fun j1=>.ret 0 j1) (.jn 4 0 (fun j2=>⟨[(2,tB j2)],[]⟩) (.ite 0 (a0.Kind==2) (.ite 4 (a0.N==0) (.ret 11 ((a0.S:ByteArray).toList==(⟨#[]⟩:ByteArray).toList)) (.ite 6 (a0.N==1) (.ret 5 ((a0.S:ByteArray).toList==(⟨#[]⟩:ByteArray).toList)) (.ret 5 false))) (.ret 15 false)) fun j2=>.ret 0 j2))
def bAG(a0:aE):=(bCR a0).den
theorem aTI(D:aE):Con Tryz.prog 101 [.t (bZ D)] (bAG D) tB:=con Tryz.func101 aZ (bCR D)
def Yz(a0:List aE):Int->TP ((Int)⊕((Unit)⊕Bool))
 | v1=>.ite 4 (decide (v1<a0.length)) (.grd 3 (0<=v1/\v1<a0.length) <| .ca 1 (aTI (a0.getD v1.toNat default)) fun r2=>.ite 1 (!r2) (.ret 1 (.inr (.inr false))) (.ret 3 (.inl (i64.wrap (v1+1))))) (.ret 0 (.inr (.inl ())))
def aWN(a0:List aE):TP Bool:=.lp 2 (fun v1=>⟨[(0,tV a0),(3,tI v1)],[]⟩) (fun _=>⟨[],[]⟩) 0 0 (Yz a0) fun _=>.ret 1 true
def aWV(a0:List aE):=(aWN a0).den
theorem aOM(D:List aE):Con Tryz.prog 39 [tV D] (aWV D) tB:=con Tryz.func39 aZ (aWN D)
def T78(a0:List aE):TP Bool:=.jn 5 0 (fun j1=>⟨[(2,tB j1)],[]⟩) (.ite 0 (decide ((a0.length:Int)<=12)) (.ca 1 (aOM a0) fun r2=>.ret 2 r2) (.ret 4 false)) fun j1=>.ret 0 j1
def G78(a0:List aE):=(T78 a0).den
theorem bBS(D:List aE):Con Tryz.prog 99 [tV D] (G78 D) tB:=con Tryz.func99 aZ (T78 D)
def aKS(a0:LD)(a1:List Int)(v1:Int):Int->TP ((Int)⊕((Unit)⊕((Int)⊕((Unit)⊕Bool))))
 | v5=>.ite 4 (decide (v5<a1.length)) (.dg 2 (0<=v1/\v1<a0.length) <| .dg 6 (0<=v5/\v5<(((a0.getD v1.toNat default).Row).length:Int)) <| .dg 11 (0<=v5/\v5<a1.length) <| .dr 0 0 [] [0,1,2,7,8,70,71,72,73] <| .ite 0 (((((a0.getD v1.toNat default).Row).getD v5.toNat default).Kind) != (a1.getD v5.toNat default)) (.ret 1 (.inr (.inr (.inr (.inr false))))) (.ret 3 (.inl (i64.wrap (v5+1))))) (.ret 0 (.inr (.inl ())))
def aHQ(a0:LD)(a1:List Int)(a2:Int):Int->TP ((Int)⊕((Unit)⊕Bool))
 | v1=>.jn 5 0 (fun j2=>⟨[(0,tD a0),(1,.t (eL bI a1)),(2,tI a2),(7,tI v1),(17,tB j2)],[]⟩) (.ite 0 (decide (v1<a0.length)) (.ret 4 (decide (v1<=a2))) (.ret 4 false)) fun j2=>.ite 0 j2 (.grd 3 (0<=v1/\v1<a0.length) <| .jn 4 0 (fun j3=>⟨[(0,tD a0),(1,.t (eL bI a1)),(2,tI a2),(7,tI v1),(69,tB j3)],[]⟩) (.ite 0 (decide (((a0.getD v1.toNat default).Time)<0)) (.ret 43 true) (.grd 3 (0<=v1/\v1<a0.length) <| .ite 5 (decide (((a0.getD v1.toNat default).Time)>2199023255552)) (.ret 35 true) (.grd 3 (0<=v1/\v1<a0.length) <| .ite 5 (decide (((a0.getD v1.toNat default).N)<1)) (.ret 27 true) (.grd 3 (0<=v1/\v1<a0.length) <| .ite 5 (decide (((a0.getD v1.toNat default).N)>5)) (.ret 19 true) (.grd 3 (0<=v1/\v1<a0.length) <| .ite 8 ((((a0.getD v1.toNat default).Row).length:Int) != (a1.length:Int)) (.ret 8 true) (.grd 3 (0<=v1/\v1<a0.length) <| .ca 2 (bBS ((a0.getD v1.toNat default).Row)) fun r4=>.ret 2 (!r4))))))) fun j3=>.ite 0 j3 (.ret 1 (.inr (.inr false))) (.lp 1 (fun v5=>⟨[(0,tD a0),(1,.t (eL bI a1)),(2,tI a2),(7,tI v1),(8,tI v5)],[]⟩) (fun _=>⟨[(0,tD a0),(1,.t (eL bI a1)),(2,tI a2),(7,tI v1)],[]⟩) 2 0 (aKS a0 a1 v1) fun _=>.ret 3 (.inl (i64.wrap (v1+1))))) (.ret 0 (.inr (.inl ())))
def T30(a0:LD)(a1:List Int)(a2:Int):TP Bool:=.lp 2 (fun v1=>⟨[(0,tD a0),(1,.t (eL bI a1)),(2,tI a2),(7,tI v1)],[]⟩) (fun _=>⟨[(0,tD a0),(2,tI a2)],[]⟩) 0 0 (aHQ a0 a1 a2) fun _=>.ret 5 (decide ((a0.length:Int)<=a2))
def G30(a0:LD)(a1:List Int)(a2:Int):=(T30 a0 a1 a2).den
theorem aMI(G:LD)(D:List Int)(a2:Int):Con Tryz.prog 36 [tD G,.t (eL bI D),tI a2] (G30 G D a2) tB:=con Tryz.func36 aZ (T30 G D a2)
def aZX(a0:aB)(a1:aB):TP Int:=.ite 8 (decide (a0.Time<a1.Time)) (.ret 1 (-1)) (.ite 5 (decide (a0.Time>a1.Time)) (.ret 1 1) (.ca 4 (aBS a0.Row a1.Row) fun r1=>.ret 1 r1))
def bBG(a0:aB)(a1:aB):=(aZX a0 a1).den
theorem Zr(G:aB)(D:aB):Con Tryz.prog 82 [.t (cH G),.t (cH D)] (bBG G D) tI:=con Tryz.func82 aZ (aZX G D)
abbrev bFI:={f:LD->Option LD // ∀ a:LD,Con Tryz.prog 37 [tD a] (f a) tD}
def Ng(r2:LD)(r3:LD):(LD×Int×Int)->TP ((LD×Int×Int)⊕((LD)⊕LD))
 | (v4,v5,v6)=>.jn 5 0 (fun (j8,j9)=>⟨[(3,tD r2),(4,tD r3),(5,.own 5),(6,tI v5),(7,tI v6),(65,tB j9)],[(5,aD j8)]⟩) (.ite 0 (decide (v5<r2.length)) (.ret 5 (v4,true)) (.ret 5 (v4,decide (v6<r3.length)))) fun (j8,j9)=>.ite 0 j9 (.jn 0 2 (fun (j10,j11,j12)=>⟨[(3,tD r2),(4,tD r3),(5,.own 5),(6,tI j11),(7,tI j12)],[(5,aD j10)]⟩) (.jn 5 0 (fun (j13,j14)=>⟨[(3,tD r2),(4,tD r3),(5,.own 5),(6,tI v5),(7,tI v6),(8,tI j14)],[(5,aD j13)]⟩) (.ite 0 (decide (v5>=(r2.length:Int))) (.ret 1 (j8,1)) (.jn 4 0 (fun (j15,j16)=>⟨[(3,tD r2),(4,tD r3),(5,.own 5),(6,tI v5),(7,tI v6),(8,tI j16)],[(5,aD j15)]⟩) (.ite 0 (decide (v6>=(r3.length:Int))) (.ret 1 (j8,(-1))) (.dg 2 (0<=v5/\v5<r2.length) <| .dg 6 (0<=v6/\v6<r3.length) <| .dc 8 [.t (cH (r2.getD v5.toNat default)),.t (cH (r3.getD v6.toNat default))] (Zr (r2.getD v5.toNat default) (r3.getD v6.toNat default)) fun r17=>.dr 0 0 [(5,false,[])] [3,4,5,6,7,65,66,67,68,69,70,71,72,73] <| .ret 0 (j8,r17))) fun (j15,j16)=>.ret 0 (j15,j16))) fun (j13,j14)=>.ite 2 (decide (j14<0)) (.grd 4 (0<=v5/\v5<r2.length) <| .bs 1 false aH [r2.getD v5.toNat default] <| .grd 1 ((j13.length+[r2.getD v5.toNat default].length)*40<=140737488355328) <| .cv 0 [.ap 91 aH j13 [r2.getD v5.toNat default]] <| .cv 4 [.rn 91 5] <| .ret 0 (j13++[r2.getD v5.toNat default],i64.wrap (v5+1),v6)) (.grd 7 (0<=(if (i64.wrap ((r3.length:Int)-1))<v6 then (i64.wrap ((r3.length:Int)-1)) else v6)/\(if (i64.wrap ((r3.length:Int)-1))<v6 then (i64.wrap ((r3.length:Int)-1)) else v6)<r3.length) <| .jn 8 0 (fun (j18,j19,j20)=>⟨[(3,tD r2),(4,tD r3),(5,.own 5),(6,tI j20),(7,tI (i64.wrap (v6+1))),(9,.ptr 9 0)],[(5,aD j19),(9,.box [tI ((r3.getD (if (i64.wrap ((r3.length:Int)-1))<v6 then (i64.wrap ((r3.length:Int)-1)) else v6).toNat default).Time),tV ((r3.getD (if (i64.wrap ((r3.length:Int)-1))<v6 then (i64.wrap ((r3.length:Int)-1)) else v6).toNat default).Row),tI j18])]⟩) (.ite 0 (j14==0) (.dg 4 (0<=v5/\v5<r2.length) <| .dr 0 0 [(5,false,[]),(9,false,[9])] [3,4,5,6,7,8,9,83,84,94,95,96,97,98,99,100,101,102,103,104,105] <| .ret 3 (i64.wrap (((r3.getD (if (i64.wrap ((r3.length:Int)-1))<v6 then (i64.wrap ((r3.length:Int)-1)) else v6).toNat default).N)+((r2.getD v5.toNat default).N)),j13,i64.wrap (v5+1))) (.ret 0 ((r3.getD (if (i64.wrap ((r3.length:Int)-1))<v6 then (i64.wrap ((r3.length:Int)-1)) else v6).toNat default).N,j13,v5))) fun (j18,j19,j20)=>.jn 3 0 (fun j21=>⟨[(3,tD r2),(4,tD r3),(5,.own 5),(6,tI j20),(7,tI (i64.wrap (v6+1)))],[(5,aD j21)]⟩) (.ite 0 (j18 != 0) (.bs 2 false aH ([(aB.mk ((r3.getD (if (i64.wrap ((r3.length:Int)-1))<v6 then (i64.wrap ((r3.length:Int)-1)) else v6).toNat default).Time) ((r3.getD (if (i64.wrap ((r3.length:Int)-1))<v6 then (i64.wrap ((r3.length:Int)-1)) else v6).toNat default).Row) j18)]:LD) <| .grd 1 ((j19.length+([(aB.mk ((r3.getD (if (i64.wrap ((r3.length:Int)-1))<v6 then (i64.wrap ((r3.length:Int)-1)) else v6).toNat default).Time) ((r3.getD (if (i64.wrap ((r3.length:Int)-1))<v6 then (i64.wrap ((r3.length:Int)-1)) else v6).toNat default).Row) j18)]:LD).length)*40<=140737488355328) <| .cv 0 [.ap 123 aH j19 ([(aB.mk ((r3.getD (if (i64.wrap ((r3.length:Int)-1))<v6 then (i64.wrap ((r3.length:Int)-1)) else v6).toNat default).Time) ((r3.getD (if (i64.wrap ((r3.length:Int)-1))<v6 then (i64.wrap ((r3.length:Int)-1)) else v6).toNat default).Row) j18)]:LD)] <| .cv 1 [.rn 123 5] <| .ret 0 (j19++([(aB.mk ((r3.getD (if (i64.wrap ((r3.length:Int)-1))<v6 then (i64.wrap ((r3.length:Int)-1)) else v6).toNat default).Time) ((r3.getD (if (i64.wrap ((r3.length:Int)-1))<v6 then (i64.wrap ((r3.length:Int)-1)) else v6).toNat default).Row) j18)]:LD))) (.ret 0 j19)) fun j21=>.ret 0 (j21,j20,i64.wrap (v6+1)))) fun (j10,j11,j12)=>.ret 0 (.inl (j10,j11,j12))) (.ret 0 (.inr (.inl j8)))
def aGN(rec:bFI)(a0:LD):TP LD:=.jn 5 0 (fun j1=>⟨[(0,tD a0),(24,tB j1)],[]⟩) (.ite 0 ((a0.length:Int)==0) (.ret 11 true) (.ite 4 ((a0.length:Int)==1) (.grd 2 (0<=(0:Int)/\(0:Int)<a0.length) <| .ret 5 (((a0.getD (0:Int).toNat default).N)==0)) (.ret 7 false))) fun j1=>.ite 0 j1 (.cv 1 [.sl 2 (eL aH ([]:LD))] <| .ret 0 ([]:LD)) (.ite 3 ((a0.length:Int)==1) (.dg 1 (0<=(0:Int)/\(0:Int)<a0.length) <| .dg 6 (0<=(0:Int)/\(0:Int)<a0.length) <| .dg 9 ((0+((a0.getD (0:Int).toNat default).Row).length)*32<=140737488355328) <| .dg 11 (0<=(0:Int)/\(0:Int)<a0.length) <| .dr 0 3 [(32,true,[4,9]),(37,true,[9])] [0,24,25,26,27] <| .cv 0 [.fr 37 (eL aR ((a0.getD (0:Int).toNat default).Row))] <| .bs 1 false aH ([a0.getD (0:Int).toNat default]:LD) <| .ret 1 ([a0.getD (0:Int).toNat default]:LD)) (.gd 4 ((2:Int)≠0) (by decide) <| .slc 1 48 aH a0 (0:Int) (i64.wrap (Int.tdiv (a0.length:Int) 2)) <| .ca 0 (rec.2 ((a0.drop (0:Int).toNat).take ((i64.wrap (Int.tdiv (a0.length:Int) 2))-(0:Int)).toNat)) fun r2=>.gd 5 ((2:Int)≠0) (by decide) <| .slc 1 54 aH a0 (i64.wrap (Int.tdiv (a0.length:Int) 2):Int) (a0.length:Int) <| .ca 0 (rec.2 ((a0.drop (i64.wrap (Int.tdiv (a0.length:Int) 2):Int).toNat).take ((a0.length:Int)-(i64.wrap (Int.tdiv (a0.length:Int) 2):Int)).toNat)) fun r3=>.cv 4 [.th 5 5 50 3 (eF aH ([]:LD))] <| .lp 0 (fun (v4,v5,v6)=>⟨[(3,tD r2),(4,tD r3),(5,.own 5),(6,tI v5),(7,tI v6)],[(5,aD v4)]⟩) (fun b7=>⟨[(5,.own 5)],[(5,aD b7)]⟩) 0 (([]:LD),0,0) (Ng r2 r3) fun b7=>.cv 2 [.fr 5 (eL aH b7)] <| .ret 0 b7))
theorem Yf(D:bFI)(G:LD):Con Tryz.prog 37 [tD G] (aGN D G).den tD:=con Tryz.func37 aZ (aGN D G)
def bEO(a:LD):Option LD:=rT (C:=fun (a:LD) (x:Option LD)=>Con Tryz.prog 37 [tD a] x tD) (fun a=>⟨bM Tryz.func37 (by kernel_rfl),fun _ h=>nomatch h⟩) (fun rec a=>aGN rec a) (fun rec a=>Yf rec a) a
theorem aPJ(a:LD):Con Tryz.prog 37 [tD a] (bEO a) tD:=lZ (C:=fun (a:LD) (x:Option LD)=>Con Tryz.prog 37 [tD a] x tD) _ _ _ a
def bDX(a0:LD):Option LD:=bEO a0
theorem Qf(D:LD):Con Tryz.prog 37 [tD D] (bDX D) tD:=aPJ D
abbrev R79:={f:bF->Option Int // ∀ a:bF,Con Tryz.prog 129 [.t (cJ a)] (f a) tI}
def aKE(rec:R79)(a0:bF):(Int×Int)->TP ((Int×Int)⊕((Int)⊕Int))
 | (v1,v2)=>.ite 5 (decide (v2<a0.Args.length)) (.grd 5 (0<=v2/\v2<a0.Args.length) <| .ca 1 (rec.2 (a0.Args.getD v2.toNat default)) fun r4=>.ret 5 (.inl (i64.wrap (v1+r4),i64.wrap (v2+1)))) (.ret 0 (.inr (.inl v1)))
def T79(rec:R79)(a0:bF):TP Int:=.lp 4 (fun (v1,v2)=>⟨[(1,.ptr 1 0),(3,tI v1),(4,tI v2)],[(1,.box ((cT a0).map .t))]⟩) (fun b3=>⟨[(3,tI b3)],[]⟩) 0 (1,0) (aKE rec a0) fun b3=>.ret 2 b3
theorem aMH(D:R79)(G:bF):Con Tryz.prog 129 [.t (cJ G)] (T79 D G).den tI:=con Tryz.func129 aZ (T79 D G)
def H79(a:bF):Option Int:=rT (C:=fun (a:bF) (x:Option Int)=>Con Tryz.prog 129 [.t (cJ a)] x tI) (fun a=>⟨bM Tryz.func129 (by kernel_rfl),fun _ h=>nomatch h⟩) (fun rec a=>T79 rec a) (fun rec a=>aMH rec a) a
theorem bBT(a:bF):Con Tryz.prog 129 [.t (cJ a)] (H79 a) tI:=lZ (C:=fun (a:bF) (x:Option Int)=>Con Tryz.prog 129 [.t (cJ a)] x tI) _ _ _ a
def G79(a0:bF):Option Int:=H79 a0
theorem Xv(D:bF):Con Tryz.prog 129 [.t (cJ D)] (G79 D) tI:=bBT D
abbrev R80:={f:bF->Option Int // ∀ a:bF,Con Tryz.prog 130 [.t (cJ a)] (f a) tI}
def Vn(rec:R80)(a0:bF):(Int×Int)->TP ((Int×Int)⊕((Int)⊕Int))
 | (v1,v2)=>.ite 5 (decide (v2<a0.Args.length)) (.grd 5 (0<=v2/\v2<a0.Args.length) <| .ca 1 (rec.2 (a0.Args.getD v2.toNat default)) fun r4=>.ret 5 (.inl (if r4>v1 then r4 else v1,i64.wrap (v2+1)))) (.ret 0 (.inr (.inl v1)))
def T80(rec:R80)(a0:bF):TP Int:=.lp 4 (fun (v1,v2)=>⟨[(1,.ptr 1 0),(3,tI v1),(4,tI v2)],[(1,.box ((cT a0).map .t))]⟩) (fun b3=>⟨[(3,tI b3)],[]⟩) 0 (0,0) (Vn rec a0) fun b3=>.ret 3 (i64.wrap (b3+1))
theorem Xj(D:R80)(G:bF):Con Tryz.prog 130 [.t (cJ G)] (T80 D G).den tI:=con Tryz.func130 aZ (T80 D G)
def H80(a:bF):Option Int:=rT (C:=fun (a:bF) (x:Option Int)=>Con Tryz.prog 130 [.t (cJ a)] x tI) (fun a=>⟨bM Tryz.func130 (by kernel_rfl),fun _ h=>nomatch h⟩) (fun rec a=>T80 rec a) (fun rec a=>Xj rec a) a
theorem bDU(a:bF):Con Tryz.prog 130 [.t (cJ a)] (H80 a) tI:=lZ (C:=fun (a:bF) (x:Option Int)=>Con Tryz.prog 130 [.t (cJ a)] x tI) _ _ _ a
def G80(a0:bF):Option Int:=H80 a0
theorem Vw(D:bF):Con Tryz.prog 130 [.t (cJ D)] (G80 D) tI:=bDU D
abbrev bAI:={f:((List Int)×bF)->Option Int // ∀ a:(List Int)×bF,Con Tryz.prog 211 [.t (eL bI (a.1)),.t (cJ a.2)] (f a) tI}
def aBB(rec:bAI)(a0:List Int)(a1:bF):((List Int)×Int)->TP (((List Int)×Int)⊕((List Int)⊕Int))
 | (v1,v2)=>.ite 5 (decide (v2<a1.Args.length)) (.grd 6 (0<=v2/\v2<a1.Args.length) <| .ca 1 (rec.2 (a0,a1.Args.getD v2.toNat default)) fun r4=>.bs 0 false bI [r4] <| .grd 1 ((v1.length+[r4].length)*8<=140737488355328) <| .cv 0 [.ap 25 bI v1 [r4]] <| .cv 4 [.rn 25 6] <| .ret 0 (.inl (v1++[r4],i64.wrap (v2+1)))) (.ret 0 (.inr (.inl v1)))
def Ml:(Int×(List Int)×Int)->TP ((Int×(List Int)×Int)⊕((Int)⊕Int))
 | (v7,v8,v9)=>.ite 4 (decide (v9<v8.length)) (.grd 4 (0<=v9/\v9<v8.length) <| .grd 1 ((v9).toNat<v8.length) <| .ret 6 (.inl (if (1099511627776:Int)<(i64.wrap (v7+(v8.getD v9.toNat default))) then (1099511627776:Int) else (i64.wrap (v7+(v8.getD v9.toNat default))),v8,i64.wrap (v9+1)))) (.ret 0 (.inr (.inl v7)))
def aKU(rec:bAI)(a0:List Int)(a1:bF):TP Int:=.cv 5 [.th 6 6 3 1 (eF bI ([]:List Int))] <| .lp 0 (fun (v1,v2)=>⟨[(0,.t (eL bI a0)),(3,.ptr 3 0),(5,tI 1),(6,.own 6),(7,tI v2)],[(3,.box ((cT a1).map .t)),(6,.arr 3 1 (v1.length) (eF bI v1))]⟩) (fun b3=>⟨[(0,.t (eL bI a0)),(3,.ptr 3 0),(5,tI 1),(6,.own 6)],[(3,.box ((cT a1).map .t)),(6,.arr 3 1 (b3.length) (eF bI b3))]⟩) 0 (([]:List Int),0) (aBB rec a0 a1) fun b3=>.jn 4 0 (fun (j5,j6)=>⟨[(0,.t (eL bI a0)),(3,.ptr 3 0),(5,tI 1),(6,.own 6),(33,tB j6)],[(3,.box ((cT a1).map .t)),(6,.arr 3 1 (j5.length) (eF bI j5))]⟩) (.ite 0 (a1.Op==21) (.ret 4 (b3,(b3.length:Int)==3)) (.ret 4 (b3,false))) fun (j5,j6)=>.ite 0 j6 (.dg 1 (0<=(0:Int)/\(0:Int)<j5.length) <| .dg 2 ((0:Int).toNat<j5.length) <| .dg 5 (0<=(1:Int)/\(1:Int)<j5.length) <| .dg 6 ((1:Int).toNat<j5.length) <| .dg 8 (0<=(2:Int)/\(2:Int)<j5.length) <| .dg 9 ((2:Int).toNat<j5.length) <| .dr 0 0 [(3,false,[]),(6,false,[])] [0,3,5,6,33] <| .ret 0 (if (1099511627776:Int)<(i64.wrap ((i64.wrap (1+(j5.getD (0:Int).toNat default)))+(if (j5.getD (2:Int).toNat default)>(j5.getD (1:Int).toNat default) then (j5.getD (2:Int).toNat default) else (j5.getD (1:Int).toNat default)))) then (1099511627776:Int) else (i64.wrap ((i64.wrap (1+(j5.getD (0:Int).toNat default)))+(if (j5.getD (2:Int).toNat default)>(j5.getD (1:Int).toNat default) then (j5.getD (2:Int).toNat default) else (j5.getD (1:Int).toNat default)))))) (.lp 1 (fun (v7,v8,v9)=>⟨[(0,.t (eL bI a0)),(3,.ptr 3 0),(5,tI v7),(6,.own 6),(8,tI v9)],[(3,.box ((cT a1).map .t)),(6,.arr 3 1 (v8.length) (eF bI v8))]⟩) (fun b10=>⟨[(0,.t (eL bI a0)),(3,.ptr 3 0),(5,tI b10)],[(3,.box ((cT a1).map .t))]⟩) 2 (1,j5,0) Ml fun b10=>.jn 4 0 (fun j11=>⟨[(0,.t (eL bI a0)),(3,.ptr 3 0),(5,tI b10),(74,tB j11)],[(3,.box ((cT a1).map .t))]⟩) (.ite 0 (a1.Op==22) (.ite 5 (decide (a1.N>=0)) (.ret 6 (decide (a1.N<a0.length))) (.ret 6 false)) (.ret 11 false)) fun j11=>.jn 0 0 (fun j12=>⟨[(5,tI j12)],[]⟩) (.ite 0 j11 (.grd 5 (0<=a1.N/\a1.N<a0.length) <| .ret 4 (if (1099511627776:Int)<(i64.wrap (b10+(a0.getD (a1.N).toNat default))) then (1099511627776:Int) else (i64.wrap (b10+(a0.getD (a1.N).toNat default))))) (.ret 0 b10)) fun j12=>.ret 2 j12)
theorem aBY(D:bAI)(J:List Int)(G:bF):Con Tryz.prog 211 [.t (eL bI J),.t (cJ G)] (aKU D J G).den tI:=con Tryz.func211 aZ (aKU D J G)
def bEM(a:(List Int)×bF):Option Int:=rT (C:=fun (a:(List Int)×bF) (x:Option Int)=>Con Tryz.prog 211 [.t (eL bI (a.1)),.t (cJ a.2)] x tI) (fun a=>⟨bM Tryz.func211 (by kernel_rfl),fun _ h=>nomatch h⟩) (fun rec a=>aKU rec a.1 a.2) (fun rec a=>aBY rec a.1 a.2) a
theorem aOH(a:(List Int)×bF):Con Tryz.prog 211 [.t (eL bI (a.1)),.t (cJ a.2)] (bEM a) tI:=lZ (C:=fun (a:(List Int)×bF) (x:Option Int)=>Con Tryz.prog 211 [.t (eL bI (a.1)),.t (cJ a.2)] x tI) _ _ _ a
def bFO(a0:List Int)(a1:bF):Option Int:=bEM (a0,a1)
theorem Zj(G:List Int)(D:bF):Con Tryz.prog 211 [.t (eL bI G),.t (cJ D)] (bFO G D) tI:=aOH (G,D)
def aMM(a0:List aS):((List Int)×Int)->TP (((List Int)×Int)⊕((List Int)⊕Int))
 | (v1,v2)=>.ite 4 (decide (v2<a0.length)) (.grd 5 (0<=v2/\v2<a0.length) <| .ca 2 (Zj v1 ((a0.getD v2.toNat default).Body)) fun r4=>.bs 0 false bI [r4] <| .grd 1 ((v1.length+[r4].length)*8<=140737488355328) <| .cv 0 [.ap 22 bI v1 [r4]] <| .cv 4 [.rn 22 5] <| .ret 0 (.inl (v1++[r4],i64.wrap (v2+1)))) (.ret 0 (.inr (.inl v1)))
def T81(a0:List aS)(a1:bF):TP Int:=.cv 4 [.th 5 5 3 1 (eF bI ([]:List Int))] <| .lp 0 (fun (v1,v2)=>⟨[(0,.t (eL aW a0)),(3,.ptr 3 0),(5,.own 5),(6,tI v2)],[(3,.box ((cT a1).map .t)),(5,.arr 3 1 (v1.length) (eF bI v1))]⟩) (fun b3=>⟨[(3,.ptr 3 0),(5,.own 5)],[(3,.box ((cT a1).map .t)),(5,.arr 3 1 (b3.length) (eF bI b3))]⟩) 0 (([]:List Int),0) (aMM a0) fun b3=>.ca 2 (Zj b3 a1) fun r5=>.ret 1 r5
def G81(a0:List aS)(a1:bF):=(T81 a0 a1).den
theorem aGF(G:List aS)(D:bF):Con Tryz.prog 131 [.t (eL aW G),.t (cJ D)] (G81 G D) tI:=con Tryz.func131 aZ (T81 G D)
def aIK(a0:List aS)(a1:aG):Int->TP ((Int)⊕((Unit)⊕Bool))
 | v1=>.jn 5 0 (fun j2=>⟨[(0,.t (eL aW a0)),(3,.ptr 3 0),(5,tI v1),(15,tB j2)],[(3,bN a1)]⟩) (.ite 0 (decide (v1<a0.length)) (.ret 3 (decide (v1<6))) (.ret 3 false)) fun j2=>.ite 0 j2 (.grd 3 (0<=v1/\v1<a0.length) <| .ca 2 (Xv ((a0.getD v1.toNat default).Body)) fun r3=>.jn 2 0 (fun j4=>⟨[(0,.t (eL aW a0)),(3,.ptr 3 0),(5,tI v1),(33,tB j4)],[(3,bN a1)]⟩) (.ite 0 (decide (r3>100)) (.ret 8 true) (.grd 3 (0<=v1/\v1<a0.length) <| .ret 5 (decide ((((a0.getD v1.toNat default).Params).length:Int)>10)))) fun j4=>.ite 0 j4 (.ret 1 (.inr (.inr false))) (.ret 3 (.inl (i64.wrap (v1+1))))) (.ret 0 (.inr (.inl ())))
def aMC(a0:List aS)(a1:aG):Int->TP ((Int)⊕((Unit)⊕Bool))
 | v5=>.jn 6 0 (fun j6=>⟨[(0,.t (eL aW a0)),(3,.ptr 3 0),(6,tI v5),(42,tB j6)],[(3,bN a1)]⟩) (.ite 0 (decide (v5<a1.Exprs.length)) (.ret 3 (decide (v5<13))) (.ret 3 false)) fun j6=>.ite 0 j6 (.grd 4 (0<=v5/\v5<a1.Exprs.length) <| .ca 1 (Xv (a1.Exprs.getD v5.toNat default)) fun r7=>.jn 2 0 (fun j8=>⟨[(0,.t (eL aW a0)),(3,.ptr 3 0),(6,tI v5),(70,tB j8)],[(3,bN a1)]⟩) (.ite 0 (decide (r7>200)) (.ret 18 true) (.grd 4 (0<=v5/\v5<a1.Exprs.length) <| .ca 1 (Vw (a1.Exprs.getD v5.toNat default)) fun r9=>.ite 3 (decide (r9>12)) (.ret 9 true) (.grd 5 (0<=v5/\v5<a1.Exprs.length) <| .ca 1 (aGF a0 (a1.Exprs.getD v5.toNat default)) fun r10=>.ret 2 (decide (r10>1000))))) fun j8=>.ite 0 j8 (.ret 1 (.inr (.inr false))) (.ret 3 (.inl (i64.wrap (v5+1))))) (.ret 0 (.inr (.inl ())))
def aLA(a0:List aS)(a1:aG):Int->TP ((Int)⊕((Unit)⊕Bool))
 | v11=>.jn 6 0 (fun j12=>⟨[(0,.t (eL aW a0)),(3,.ptr 3 0),(7,tI v11),(79,tB j12)],[(3,bN a1)]⟩) (.ite 0 (decide (v11<a1.Seq.length)) (.ret 3 (decide (v11<9))) (.ret 3 false)) fun j12=>.ite 0 j12 (.grd 4 (0<=v11/\v11<a1.Seq.length) <| .ca 2 (Xv ((a1.Seq.getD v11.toNat default).Pred)) fun r13=>.jn 2 0 (fun j14=>⟨[(0,.t (eL aW a0)),(3,.ptr 3 0),(7,tI v11),(110,tB j14)],[(3,bN a1)]⟩) (.ite 0 (decide (r13>200)) (.ret 20 true) (.grd 4 (0<=v11/\v11<a1.Seq.length) <| .ca 2 (Vw ((a1.Seq.getD v11.toNat default).Pred)) fun r15=>.ite 3 (decide (r15>12)) (.ret 10 true) (.grd 5 (0<=v11/\v11<a1.Seq.length) <| .ca 2 (aGF a0 ((a1.Seq.getD v11.toNat default).Pred)) fun r16=>.ret 2 (decide (r16>1000))))) fun j14=>.ite 0 j14 (.ret 1 (.inr (.inr false))) (.ret 3 (.inl (i64.wrap (v11+1))))) (.ret 0 (.inr (.inl ())))
def T33(a0:List aS)(a1:aG):TP Bool:=.lp 3 (fun v1=>⟨[(0,.t (eL aW a0)),(3,.ptr 3 0),(5,tI v1)],[(3,bN a1)]⟩) (fun _=>⟨[(0,.t (eL aW a0)),(3,.ptr 3 0)],[(3,bN a1)]⟩) 0 0 (aIK a0 a1) fun _=>.lp 1 (fun v5=>⟨[(0,.t (eL aW a0)),(3,.ptr 3 0),(6,tI v5)],[(3,bN a1)]⟩) (fun _=>⟨[(0,.t (eL aW a0)),(3,.ptr 3 0)],[(3,bN a1)]⟩) 2 0 (aMC a0 a1) fun _=>.lp 1 (fun v11=>⟨[(0,.t (eL aW a0)),(3,.ptr 3 0),(7,tI v11)],[(3,bN a1)]⟩) (fun _=>⟨[(0,.t (eL aW a0)),(3,.ptr 3 0)],[(3,bN a1)]⟩) 4 0 (aLA a0 a1) fun _=>.jn 4 0 (fun j17=>⟨[(4,tB j17)],[]⟩) (.ite 0 (decide ((a0.length:Int)<=5)) (.ite 6 (decide ((a1.Exprs.length:Int)<=12)) (.ite 6 (decide ((a1.Seq.length:Int)<=8)) (.ite 6 (decide ((a1.Key.length:Int)<=20)) (.ite 6 (decide ((a1.Key2.length:Int)<=20)) (.ret 6 (decide ((a1.Aggs.length:Int)<=20))) (.ret 6 false)) (.ret 12 false)) (.ret 18 false)) (.ret 24 false)) (.ret 30 false)) fun j17=>.ret 0 j17
def G33(a0:List aS)(a1:aG):=(T33 a0 a1).den
theorem aXJ(G:List aS)(D:aG):Con Tryz.prog 59 [.t (eL aW G),.t (dD D)] (G33 G D) tB:=con Tryz.func59 aZ (T33 G D)
def Oy(a0:List aS)(a1:Int)(a2:List Int):Int->TP ((Int)⊕((Unit)⊕(Int×Bool)))
 | v2=>.ite 4 (decide (v2<a2.length)) (.dg 2 (0<=v2/\v2<a2.length) <| .dg 7 (0<=v2/\v2<(((a0.getD a1.toNat default).Params).length:Int)) <| .dr 0 0 [(8,false,[])] [2,8,9,28,29,30,31] <| .ite 0 ((a2.getD v2.toNat default) != (((a0.getD a1.toNat default).Params).getD v2.toNat default)) (.ret 2 (.inr (.inr (0,false)))) (.ret 3 (.inl (i64.wrap (v2+1))))) (.ret 0 (.inr (.inl ())))
def aNQ(a0:List aS)(a1:Int)(a2:List Int):TP (Int×Bool):=.jn 5 0 (fun j1=>⟨[(0,.t (eL aW a0)),(1,tI a1),(2,.t (eL bI a2)),(17,tB j1)],[]⟩) (.ite 0 (decide (a1<0)) (.ret 5 true) (.ret 5 (decide (a1>=(a0.length:Int))))) fun j1=>.ite 0 j1 (.ret 2 (0,false)) (.grd 3 (0<=a1/\a1<a0.length) <| .ite 9 ((((a0.getD a1.toNat default).Params).length:Int) != (a2.length:Int)) (.ret 2 (0,false)) (.lp 1 (fun v2=>⟨[(2,.t (eL bI a2)),(8,.ptr 8 0),(9,tI v2)],[(8,.box ((aW (a0.getD a1.toNat default)).map .t))]⟩) (fun _=>⟨[(8,.ptr 8 0)],[(8,.box ((aW (a0.getD a1.toNat default)).map .t))]⟩) 0 0 (Oy a0 a1 a2) fun _=>.ret 4 ((a0.getD a1.toNat default).Result,true)))
def aHG(a0:List aS)(a1:Int)(a2:List Int):=(aNQ a0 a1 a2).den
theorem aNI(G:List aS)(D:Int)(a2:List Int):Con Tryz.prog 268 [.t (eL aW G),tI D,.t (eL bI a2)] (aHG G D a2) (fun y=>.tup [tI y.1,tB y.2]):=con Tryz.func268 aZ (aNQ G D a2)
def bDS(a0:Int):TP Int:=.jn 4 0 (fun j1=>⟨[(0,tI a0),(3,tI a0),(4,tB j1)],[]⟩) (.ite 0 (a0==0) (.ret 0 (a0==0)) (.jn 2 0 (fun j2=>⟨[(0,tI a0),(3,tI a0),(4,tB j2)],[]⟩) (.ite 0 (a0==1) (.ret 0 (a0==1)) (.jn 2 0 (fun j3=>⟨[(0,tI a0),(3,tI a0),(4,tB j3)],[]⟩) (.ite 0 (a0==2) (.ret 0 (a0==2)) (.jn 2 0 (fun j4=>⟨[(0,tI a0),(3,tI a0),(4,tB j4)],[]⟩) (.ite 0 (a0==3) (.ret 0 (a0==3)) (.jn 2 0 (fun j5=>⟨[(0,tI a0),(3,tI a0),(4,tB j5)],[]⟩) (.ite 0 (a0==4) (.ret 0 (a0==4)) (.ret 2 (a0==5))) fun j5=>.ret 0 j5)) fun j4=>.ret 0 j4)) fun j3=>.ret 0 j3)) fun j2=>.ret 0 j2)) fun j1=>.ite 0 j1 (.ret 1 0) (.jn 2 0 (fun j6=>⟨[(0,tI a0),(3,tI a0),(11,tB j6)],[]⟩) (.ite 0 (a0==6) (.ret 0 (a0==6)) (.jn 2 0 (fun j7=>⟨[(0,tI a0),(3,tI a0),(11,tB j7)],[]⟩) (.ite 0 (a0==7) (.ret 0 (a0==7)) (.ret 2 (a0==20))) fun j7=>.ret 0 j7)) fun j6=>.ite 0 j6 (.ret 1 1) (.ite 2 (a0==21) (.ret 1 3) (.ite 2 (a0==22) (.ret 1 (-1)) (.jn 3 0 (fun j8=>⟨[(24,tB j8)],[]⟩) (.ite 0 (decide (a0>5)) (.ret 3 (decide (a0<21))) (.ret 3 false)) fun j8=>.ite 0 j8 (.ret 1 2) (.ret 1 (-1))))))
def bDE(a0:Int):=(bDS a0).den
theorem aSS(D:Int):Con Tryz.prog 269 [tI D] (bDE D) tI:=con Tryz.func269 aZ (bDS D)
def aQE(a0:Int):TP Bool:=.jn 4 0 (fun j1=>⟨[(2,tB j1)],[]⟩) (.ite 0 (decide (a0>=0)) (.ret 4 (decide (a0<3))) (.ret 4 false)) fun j1=>.ret 0 j1
def aUJ(a0:Int):=(aQE a0).den
theorem Yh(D:Int):Con Tryz.prog 132 [tI D] (aUJ D) tB:=con Tryz.func132 aZ (aQE D)
def aPM(a0:List Int)(a1:Int):TP (Int×Bool):=.jn 5 0 (fun j1=>⟨[(0,.t (eL bI a0)),(1,tI a1),(13,tB j1)],[]⟩) (.ite 0 (decide (a1<0)) (.ret 5 true) (.ret 5 (decide (a1>=(a0.length:Int))))) fun j1=>.ite 0 j1 (.ret 2 (0,false)) (.dg 2 (0<=a1/\a1<a0.length) <| .dg 6 (0<=a1/\a1<a0.length) <| .dc 8 [tI (a0.getD a1.toNat default)] (Yh (a0.getD a1.toNat default)) fun r2=>.dr 0 0 [] [0,1,13] <| .ret 0 (a0.getD a1.toNat default,r2))
def aJE(a0:List Int)(a1:Int):=(aPM a0 a1).den
theorem aAM(G:List Int)(D:Int):Con Tryz.prog 270 [.t (eL bI G),tI D] (aJE G D) (fun y=>.tup [tI y.1,tB y.2]):=con Tryz.func270 aZ (aPM G D)
abbrev bDO:={f:((List aS)×(List Int)×(List Int)×bF)->Option (Int×Bool) // ∀ a:(List aS)×(List Int)×(List Int)×bF,Con Tryz.prog 212 [.t (eL aW (a.1)),.t (eL bI (a.2.1)),.t (eL bI (a.2.2.1)),.t (cJ a.2.2.2)] (f a) (fun (y:Int×Bool)=>.tup [tI y.1,tB y.2])}
def Pp(rec:bDO)(a0:List aS)(a1:List Int)(a2:List Int)(a3:bF):((List Int)×Int)->TP (((List Int)×Int)⊕((List Int)⊕(Int×Bool)))
 | (v1,v2)=>.ite 5 (decide (v2<a3.Args.length)) (.grd 7 (0<=v2/\v2<a3.Args.length) <| .ca 1 (rec.2 (a0,a1,a2,a3.Args.getD v2.toNat default)) fun r4=>.ite 7 (!r4.2) (.ret 2 (.inr (.inr (0,false)))) (.bs 2 false bI [r4.1] <| .grd 1 ((v1.length+[r4.1].length)*8<=140737488355328) <| .cv 0 [.ap 38 bI v1 [r4.1]] <| .cv 4 [.rn 38 10] <| .ret 0 (.inl (v1++[r4.1],i64.wrap (v2+1))))) (.ret 0 (.inr (.inl v1)))
def Xl(rec:bDO)(a0:List aS)(a1:List Int)(a2:List Int)(a3:bF):TP (Int×Bool):=.cv 5 [.th 10 10 3 1 (eF bI ([]:List Int))] <| .lp 0 (fun (v1,v2)=>⟨[(0,.t (eL aW a0)),(1,.t (eL bI a1)),(2,.t (eL bI a2)),(7,.ptr 7 0),(10,.own 10),(11,tI v2)],[(7,.box ((cT a3).map .t)),(10,.arr 3 1 (v1.length) (eF bI v1))]⟩) (fun b3=>⟨[(0,.t (eL aW a0)),(1,.t (eL bI a1)),(2,.t (eL bI a2)),(7,.ptr 7 0),(10,.own 10)],[(7,.box ((cT a3).map .t)),(10,.arr 3 1 (b3.length) (eF bI b3))]⟩) 0 (([]:List Int),0) (Pp rec a0 a1 a2 a3) fun b3=>.jn 4 0 (fun (j5,j6)=>⟨[(0,.t (eL aW a0)),(1,.t (eL bI a1)),(2,.t (eL bI a2)),(7,.ptr 7 0),(10,.own 10),(46,tB j6)],[(7,.box ((cT a3).map .t)),(10,.arr 3 1 (j5.length) (eF bI j5))]⟩) (.ite 0 (!((a3.S:ByteArray).toList==(⟨#[]⟩:ByteArray).toList)) (.ret 4 (b3,a3.Op != 1)) (.ret 4 (b3,false))) fun (j5,j6)=>.ite 0 j6 (.ret 2 (0,false)) (.ite 3 (a3.Op==22) (.ca 4 (aNI a0 a3.N j5) fun r7=>.ret 4 (r7.1,r7.2)) (.ca 2 (aSS a3.Op) fun r8=>.ite 3 (r8 != (j5.length:Int)) (.ret 2 (0,false)) (.ite 4 (a3.Op==0) (.ret 2 (0,true)) (.ite 2 (a3.Op==2) (.jn 0 0 (fun j9=>⟨[(8,tI 2),(9,tB j9)],[]⟩) (.dl 3 (a3.N==0) (.dr 0 0 [(7,false,[]),(10,false,[])] [0,1,2,7,10,46,47,48,49,57,58,59,60,61,62,63,64,65,66,67,68] <| .ret 0 true) (.dr 0 0 [(7,false,[]),(10,false,[])] [0,1,2,7,10,46,47,48,49,57,58,59,60,61,62,63,64,65,66,67,68] <| .ret 0 (a3.N==1))) fun j9=>.ret 0 (2,j9)) (.ite 2 (a3.Op==3) (.ca 3 (aAM a1 a3.N) fun r10=>.ret 4 (r10.1,r10.2)) (.ite 2 (a3.Op==4) (.ca 3 (aAM a2 a3.N) fun r11=>.ret 4 (r11.1,r11.2)) (.ite 3 (a3.N != 0) (.ret 2 (0,false)) (.ite 4 (a3.Op==1) (.dr 0 0 [(7,false,[]),(10,false,[])] [0,1,2,7,10,46,47,48,49,57,58,59,60,61,62,63,64,65,66,67,68,77,78,85,86,93,94,95,96,97,98,99] <| .ret 0 (1,decide (((a3.S:ByteArray).size:Int)<=200))) (.ite 2 (a3.Op==5) (.ret 2 (0,true)) (.ite 2 (a3.Op==6) (.dg 1 (0<=(0:Int)/\(0:Int)<j5.length) <| .dg 2 ((0:Int).toNat<j5.length) <| .dr 0 0 [(7,false,[]),(10,false,[])] [0,1,2,7,10,46,47,48,49,57,58,59,60,61,62,63,64,65,66,67,68,77,78,85,86,93,94,95,96,97,98,99,104,105,106,107] <| .ret 0 (2,(j5.getD (0:Int).toNat default)==2)) (.ite 2 (a3.Op==7) (.dg 1 (0<=(0:Int)/\(0:Int)<j5.length) <| .dg 2 ((0:Int).toNat<j5.length) <| .dr 0 0 [(7,false,[]),(10,false,[])] [0,1,2,7,10,46,47,48,49,57,58,59,60,61,62,63,64,65,66,67,68,77,78,85,86,93,94,95,96,97,98,99,104,105,106,107,112,113] <| .ret 0 (0,(j5.getD (0:Int).toNat default)==0)) (.ite 2 (a3.Op==20) (.dg 1 (0<=(0:Int)/\(0:Int)<j5.length) <| .dg 2 ((0:Int).toNat<j5.length) <| .dr 0 0 [(7,false,[]),(10,false,[])] [0,1,2,7,10,46,47,48,49,57,58,59,60,61,62,63,64,65,66,67,68,77,78,85,86,93,94,95,96,97,98,99,104,105,106,107,112,113,118,119] <| .ret 0 (0,(j5.getD (0:Int).toNat default)==1)) (.jn 2 0 (fun (j12,j13)=>⟨[(10,.own 10),(97,tI a3.Op),(124,tB j13)],[(10,.arr 3 1 (j12.length) (eF bI j12))]⟩) (.ite 0 (a3.Op==8) (.ret 0 (j5,a3.Op==8)) (.jn 2 0 (fun (j14,j15)=>⟨[(10,.own 10),(97,tI a3.Op),(124,tB j15)],[(10,.arr 3 1 (j14.length) (eF bI j14))]⟩) (.ite 0 (a3.Op==9) (.ret 0 (j5,a3.Op==9)) (.jn 2 0 (fun (j16,j17)=>⟨[(10,.own 10),(97,tI a3.Op),(124,tB j17)],[(10,.arr 3 1 (j16.length) (eF bI j16))]⟩) (.ite 0 (a3.Op==10) (.ret 0 (j5,a3.Op==10)) (.jn 2 0 (fun (j18,j19)=>⟨[(10,.own 10),(97,tI a3.Op),(124,tB j19)],[(10,.arr 3 1 (j18.length) (eF bI j18))]⟩) (.ite 0 (a3.Op==11) (.ret 0 (j5,a3.Op==11)) (.ret 2 (j5,a3.Op==12))) fun (j18,j19)=>.ret 0 (j18,j19))) fun (j16,j17)=>.ret 0 (j16,j17))) fun (j14,j15)=>.ret 0 (j14,j15))) fun (j12,j13)=>.ite 0 j13 (.jn 0 0 (fun j20=>⟨[(8,tI 0),(9,tB j20)],[]⟩) (.dg 1 (0<=(0:Int)/\(0:Int)<j12.length) <| .dg 2 ((0:Int).toNat<j12.length) <| .dl 4 ((j12.getD (0:Int).toNat default)==0) (.dg 6 (0<=(1:Int)/\(1:Int)<j12.length) <| .dg 7 ((1:Int).toNat<j12.length) <| .dr 0 0 [(10,false,[])] [10,97,124] <| .ret 0 ((j12.getD (1:Int).toNat default)==0)) (.dr 0 0 [(10,false,[])] [10,97,124] <| .ret 0 false)) fun j20=>.ret 0 (0,j20)) (.jn 2 0 (fun (j21,j22)=>⟨[(10,.own 10),(97,tI a3.Op),(140,tB j22)],[(10,.arr 3 1 (j21.length) (eF bI j21))]⟩) (.ite 0 (a3.Op==13) (.ret 0 (j12,a3.Op==13)) (.jn 2 0 (fun (j23,j24)=>⟨[(10,.own 10),(97,tI a3.Op),(140,tB j24)],[(10,.arr 3 1 (j23.length) (eF bI j23))]⟩) (.ite 0 (a3.Op==14) (.ret 0 (j12,a3.Op==14)) (.jn 2 0 (fun (j25,j26)=>⟨[(10,.own 10),(97,tI a3.Op),(140,tB j26)],[(10,.arr 3 1 (j25.length) (eF bI j25))]⟩) (.ite 0 (a3.Op==15) (.ret 0 (j12,a3.Op==15)) (.ret 2 (j12,a3.Op==16))) fun (j25,j26)=>.ret 0 (j25,j26))) fun (j23,j24)=>.ret 0 (j23,j24))) fun (j21,j22)=>.ite 0 j22 (.dg 1 (0<=(0:Int)/\(0:Int)<j21.length) <| .dg 2 ((0:Int).toNat<j21.length) <| .dg 4 (0<=(1:Int)/\(1:Int)<j21.length) <| .dg 5 ((1:Int).toNat<j21.length) <| .dr 0 0 [(10,false,[])] [10,97,140] <| .ret 0 (2,(j21.getD (0:Int).toNat default)==(j21.getD (1:Int).toNat default))) (.jn 2 0 (fun (j27,j28)=>⟨[(10,.own 10),(97,tI a3.Op),(152,tB j28)],[(10,.arr 3 1 (j27.length) (eF bI j27))]⟩) (.ite 0 (a3.Op==17) (.ret 0 (j21,a3.Op==17)) (.ret 2 (j21,a3.Op==18))) fun (j27,j28)=>.ite 0 j28 (.jn 0 0 (fun j29=>⟨[(8,tI 2),(9,tB j29)],[]⟩) (.dg 1 (0<=(0:Int)/\(0:Int)<j27.length) <| .dg 2 ((0:Int).toNat<j27.length) <| .dl 4 ((j27.getD (0:Int).toNat default)==2) (.dg 6 (0<=(1:Int)/\(1:Int)<j27.length) <| .dg 7 ((1:Int).toNat<j27.length) <| .dr 0 0 [(10,false,[])] [10,97,152] <| .ret 0 ((j27.getD (1:Int).toNat default)==2)) (.dr 0 0 [(10,false,[])] [10,97,152] <| .ret 0 false)) fun j29=>.ret 0 (2,j29)) (.ite 2 (a3.Op==19) (.jn 0 0 (fun j30=>⟨[(8,tI 1),(9,tB j30)],[]⟩) (.dg 1 (0<=(0:Int)/\(0:Int)<j27.length) <| .dg 2 ((0:Int).toNat<j27.length) <| .dl 4 ((j27.getD (0:Int).toNat default)==1) (.dg 6 (0<=(1:Int)/\(1:Int)<j27.length) <| .dg 7 ((1:Int).toNat<j27.length) <| .dr 0 0 [(10,false,[])] [10,97,152,165,166] <| .ret 0 ((j27.getD (1:Int).toNat default)==1)) (.dr 0 0 [(10,false,[])] [10,97,152,165,166] <| .ret 0 false)) fun j30=>.ret 0 (1,j30)) (.jn 0 0 (fun j31=>⟨[(8,tI (j27.getD (1:Int).toNat default)),(9,tB j31)],[]⟩) (.dg 1 (0<=(1:Int)/\(1:Int)<j27.length) <| .dg 2 ((1:Int).toNat<j27.length) <| .dg 4 (0<=(0:Int)/\(0:Int)<j27.length) <| .dg 5 ((0:Int).toNat<j27.length) <| .dl 7 ((j27.getD (0:Int).toNat default)==2) (.dg 9 (0<=(1:Int)/\(1:Int)<j27.length) <| .dg 10 ((1:Int).toNat<j27.length) <| .dg 12 (0<=(2:Int)/\(2:Int)<j27.length) <| .dg 13 ((2:Int).toNat<j27.length) <| .dr 0 0 [(10,false,[])] [10,97,152,165,166] <| .ret 0 ((j27.getD (1:Int).toNat default)==(j27.getD (2:Int).toNat default))) (.dr 0 0 [(10,false,[])] [10,97,152,165,166] <| .ret 0 false)) fun j31=>.ret 0 (j27.getD (1:Int).toNat default,j31))))))))))))))))))
theorem Nm(D:bDO)(M:List aS)(J:List Int)(a2:List Int)(G:bF):Con Tryz.prog 212 [.t (eL aW M),.t (eL bI J),.t (eL bI a2),.t (cJ G)] (Xl D M J a2 G).den (fun (y:Int×Bool)=>.tup [tI y.1,tB y.2]):=con Tryz.func212 aZ (Xl D M J a2 G)
def bEU(a:(List aS)×(List Int)×(List Int)×bF):Option (Int×Bool):=rT (C:=fun (a:(List aS)×(List Int)×(List Int)×bF) (x:Option (Int×Bool))=>Con Tryz.prog 212 [.t (eL aW (a.1)),.t (eL bI (a.2.1)),.t (eL bI (a.2.2.1)),.t (cJ a.2.2.2)] x (fun (y:Int×Bool)=>.tup [tI y.1,tB y.2])) (fun a=>⟨bM Tryz.func212 (by kernel_rfl),fun _ h=>nomatch h⟩) (fun rec a=>Xl rec a.1 a.2.1 a.2.2.1 a.2.2.2) (fun rec a=>Nm rec a.1 a.2.1 a.2.2.1 a.2.2.2) a
theorem aRW(a:(List aS)×(List Int)×(List Int)×bF):Con Tryz.prog 212 [.t (eL aW (a.1)),.t (eL bI (a.2.1)),.t (eL bI (a.2.2.1)),.t (cJ a.2.2.2)] (bEU a) (fun (y:Int×Bool)=>.tup [tI y.1,tB y.2]):=lZ (C:=fun (a:(List aS)×(List Int)×(List Int)×bF) (x:Option (Int×Bool))=>Con Tryz.prog 212 [.t (eL aW (a.1)),.t (eL bI (a.2.1)),.t (eL bI (a.2.2.1)),.t (cJ a.2.2.2)] x (fun (y:Int×Bool)=>.tup [tI y.1,tB y.2])) _ _ _ a
def aZU(a0:List aS)(a1:List Int)(a2:List Int)(a3:bF):Option (Int×Bool):=bEU (a0,a1,a2,a3)
theorem aUA(J:List aS)(G:List Int)(a2:List Int)(D:bF):Con Tryz.prog 212 [.t (eL aW J),.t (eL bI G),.t (eL bI a2),.t (cJ D)] (aZU J G a2 D) (fun y=>.tup [tI y.1,tB y.2]):=aRW (J,G,a2,D)
def aOL(a0:List aS)(a1:List Int)(a2:List Int)(a3:bF):TP (Int×Bool):=.ca 4 (Vw a3) fun r1=>.ite 1 (decide (r1>12)) (.ret 2 (0,false)) (.ca 4 (aUA a0 a1 a2 a3) fun r2=>.ite 7 (!r2.2) (.ret 2 (0,false)) (.ret 3 (r2.1,true)))
def nJ(a0:List aS)(a1:List Int)(a2:List Int)(a3:bF):=(aOL a0 a1 a2 a3).den
theorem aCE(J:List aS)(G:List Int)(a2:List Int)(D:bF):Con Tryz.prog 133 [.t (eL aW J),.t (eL bI G),.t (eL bI a2),.t (cJ D)] (nJ J G a2 D) (fun y=>.tup [tI y.1,tB y.2]):=con Tryz.func133 aZ (aOL J G a2 D)
def Uu(a0:List aS)(v1:Int):Int->TP ((Int)⊕((Unit)⊕((Int)⊕((Unit)⊕Bool))))
 | v3=>.ite 5 (decide (v3<(((a0.getD v1.toNat default).Params).length:Int))) (.grd 4 (0<=v3/\v3<(((a0.getD v1.toNat default).Params).length:Int)) <| .ca 1 (Yh (((a0.getD v1.toNat default).Params).getD v3.toNat default)) fun r4=>.ite 1 (!r4) (.ret 1 (.inr (.inr (.inr (.inr false))))) (.ret 3 (.inl (i64.wrap (v3+1))))) (.ret 0 (.inr (.inl ())))
def Uy(a0:List aS):Int->TP ((Int)⊕((Unit)⊕Bool))
 | v1=>.jn 5 0 (fun j2=>⟨[(0,.t (eL aW a0)),(3,tI v1),(15,tB j2)],[]⟩) (.ite 0 (decide (v1<a0.length)) (.ret 3 (decide (v1<=20))) (.ret 3 false)) fun j2=>.ite 0 j2 (.grd 3 (0<=v1/\v1<a0.length) <| .lp 4 (fun v3=>⟨[(0,.t (eL aW a0)),(3,tI v1),(4,.ptr 4 0),(5,tI v3)],[(4,.box ((aW (a0.getD v1.toNat default)).map .t))]⟩) (fun _=>⟨[(0,.t (eL aW a0)),(3,tI v1),(4,.ptr 4 0)],[(4,.box ((aW (a0.getD v1.toNat default)).map .t))]⟩) 2 0 (Uu a0 v1) fun _=>.dg 2 (0<=(0:Int)/\(0:Int)<=v1/\v1<=(a0.length:Int)) <| .dc 7 [.t (.sl (v1-(0:Int)).toNat (fun k=>eF aW a0 ((0:Int).toNat+k))),.nil,.t (eL bI ((a0.getD v1.toNat default).Params)),.t (cJ ((a0.getD v1.toNat default).Body))] (bFY [] aW a0 (0:Int) v1 [.t (eL bI ([]:List Int)),.t (eL bI ((a0.getD v1.toNat default).Params)),.t (cJ ((a0.getD v1.toNat default).Body))] (aCE ((a0.drop (0:Int).toNat).take (v1-(0:Int)).toNat) ([]:List Int) ((a0.getD v1.toNat default).Params) ((a0.getD v1.toNat default).Body))) fun r5=>.dr 0 0 [(4,false,[])] [0,3,4] <| .jn 3 0 (fun j6=>⟨[(0,.t (eL aW a0)),(3,tI v1),(60,tB j6)],[]⟩) (.ite 0 (!r5.2) (.ret 11 true) (.ite 6 (r5.1 != ((a0.getD v1.toNat default).Result)) (.ret 5 true) (.ret 5 (decide ((((a0.getD v1.toNat default).Params).length:Int)>6))))) fun j6=>.ite 0 j6 (.ret 1 (.inr (.inr false))) (.ret 3 (.inl (i64.wrap (v1+1))))) (.ret 0 (.inr (.inl ())))
def T82(a0:List aS):TP Bool:=.lp 2 (fun v1=>⟨[(0,.t (eL aW a0)),(3,tI v1)],[]⟩) (fun _=>⟨[(0,.t (eL aW a0))],[]⟩) 0 0 (Uy a0) fun _=>.ret 4 (decide ((a0.length:Int)<=20))
def G82(a0:List aS):=(T82 a0).den
theorem aHD(D:List aS):Con Tryz.prog 60 [.t (eL aW D)] (G82 D) tB:=con Tryz.func60 aZ (T82 D)
def T86(a0:List aS)(a1:List Int)(a2:List Int)(a3:bF):TP (Int×Bool):=.ca 4 (aHD a0) fun r1=>.ite 1 (!r1) (.ret 2 (0,false)) (.ca 4 (aCE a0 a1 a2 a3) fun r2=>.ret 4 (r2.1,r2.2))
def G86(a0:List aS)(a1:List Int)(a2:List Int)(a3:bF):=(T86 a0 a1 a2 a3).den
theorem aML(J:List aS)(G:List Int)(a2:List Int)(D:bF):Con Tryz.prog 100 [.t (eL aW J),.t (eL bI G),.t (eL bI a2),.t (cJ D)] (G86 J G a2 D) (fun y=>.tup [tI y.1,tB y.2]):=con Tryz.func100 aZ (T86 J G a2 D)
def aXQ(a0:Int)(a1:Int)(a2:Int):TP Bool:=.jn 5 0 (fun j1=>⟨[(6,tB j1)],[]⟩) (.ite 0 (decide (a0>=a1)) (.ret 5 (decide (a0<=a2))) (.ret 5 false)) fun j1=>.ret 0 j1
def bDN(a0:Int)(a1:Int)(a2:Int):=(aXQ a0 a1 a2).den
theorem kX(G:Int)(D:Int)(a2:Int):Con Tryz.prog 213 [tI G,tI D,tI a2] (bDN G D a2) tB:=con Tryz.func213 aZ (aXQ G D a2)
def T83(a0:aG):TP Bool:=.ite 6 (a0.Op==4) (.ca 2 (kX a0.Size 1 10000) fun r1=>.ite 1 (!r1) (.ret 1 false) (.ite 4 (a0.Kind==0) (.ret 1 true) (.ite 2 (a0.Kind==1) (.ite 3 (decide (a0.Step<1)) (.ret 1 false) (.grd 5 (a0.Step≠0) <| .ret 2 ((Int.tmod a0.Size a0.Step)==0))) (.ite 2 (a0.Kind==2) (.ca 4 (kX a0.Step 1 a0.Size) fun r2=>.ret 1 r2) (.ret 1 false))))) (.ite 2 (a0.Op==5) (.ca 2 (kX a0.Size 1 10000) fun r3=>.jn 1 0 (fun j4=>⟨[(2,tB j4)],[]⟩) (.ite 0 r3 (.ca 2 (kX a0.Keep 1 100) fun r5=>.ret 2 r5) (.ret 5 false)) fun j4=>.ret 0 j4) (.ite 2 (a0.Op==6) (.ca 2 (kX a0.Before 0 10000) fun r6=>.jn 1 0 (fun j7=>⟨[(2,tB j7)],[]⟩) (.ite 0 r6 (.ca 2 (kX a0.After 0 10000) fun r8=>.ret 2 r8) (.ret 5 false)) fun j7=>.ret 0 j7) (.ite 2 (a0.Op==7) (.ca 2 (kX a0.Keep 1 10000) fun r9=>.ret 1 r9) (.ite 2 (a0.Op==8) (.ca 2 (kX a0.Size 1 10000) fun r10=>.jn 1 0 (fun j11=>⟨[(2,tB j11)],[]⟩) (.ite 0 r10 (.ca 3 (kX (a0.Seq.length:Int) 1 8) fun r12=>.ret 2 r12) (.ret 6 false)) fun j11=>.ret 0 j11) (.ca 2 (kX a0.Op 0 8) fun r13=>.ret 1 r13)))))
def G83(a0:aG):=(T83 a0).den
theorem aWP(D:aG):Con Tryz.prog 134 [.t (dD D)] (G83 D) tB:=con Tryz.func134 aZ (T83 D)
def T85(a0:List aS)(a1:bF)(a2:List Int):TP Bool:=.ca 5 (aML a0 a2 ([]:List Int) a1) fun r1=>.jn 7 0 (fun j2=>⟨[(6,tB j2)],[]⟩) (.ite 0 (r1.2) (.ret 4 (r1.1==2)) (.ret 4 false)) fun j2=>.ret 0 j2
def G85(a0:List aS)(a1:bF)(a2:List Int):=(T85 a0 a1 a2).den
theorem aJA(G:List aS)(D:bF)(a2:List Int):Con Tryz.prog 135 [.t (eL aW G),.t (cJ D),.t (eL bI a2)] (G85 G D a2) tB:=con Tryz.func135 aZ (T85 G D a2)
def aGE(a0:List Int)(a1:List Int):Int->TP ((Int)⊕((Unit)⊕Bool))
 | v1=>.ite 4 (decide (v1<a0.length)) (.dg 2 (0<=v1/\v1<a0.length) <| .dg 6 (0<=v1/\v1<a1.length) <| .dr 0 0 [] [0,1,5,11,12,13,14] <| .ite 0 ((a0.getD v1.toNat default) != (a1.getD v1.toNat default)) (.ret 1 (.inr (.inr false))) (.ret 3 (.inl (i64.wrap (v1+1))))) (.ret 0 (.inr (.inl ())))
def T87(a0:List Int)(a1:List Int):TP Bool:=.ite 6 ((a0.length:Int) != (a1.length:Int)) (.ret 1 false) (.lp 1 (fun v1=>⟨[(0,.t (eL bI a0)),(1,.t (eL bI a1)),(5,tI v1)],[]⟩) (fun _=>⟨[],[]⟩) 0 0 (aGE a0 a1) fun _=>.ret 1 true)
def G87(a0:List Int)(a1:List Int):=(T87 a0 a1).den
theorem bBZ(G:List Int)(D:List Int):Con Tryz.prog 136 [.t (eL bI G),.t (eL bI D)] (G87 G D) tB:=con Tryz.func136 aZ (T87 G D)
def aJL(a0:List Int)(a1:List Int):Int->TP ((Int)⊕((Unit)⊕Bool))
 | v1=>.ite 4 (decide (v1<a0.length)) (.grd 3 (0<=v1/\v1<a0.length) <| .jn 3 0 (fun j2=>⟨[(0,.t (eL bI a0)),(1,.t (eL bI a1)),(5,tI v1),(25,tB j2)],[]⟩) (.ite 0 (decide ((a0.getD v1.toNat default)<0)) (.ret 8 true) (.grd 3 (0<=v1/\v1<a0.length) <| .ret 5 (decide ((a0.getD v1.toNat default)>=(a1.length:Int))))) fun j2=>.ite 0 j2 (.ret 1 (.inr (.inr false))) (.ret 3 (.inl (i64.wrap (v1+1))))) (.ret 0 (.inr (.inl ())))
def T88(a0:List Int)(a1:List Int):TP Bool:=.lp 2 (fun v1=>⟨[(0,.t (eL bI a0)),(1,.t (eL bI a1)),(5,tI v1)],[]⟩) (fun _=>⟨[],[]⟩) 0 0 (aJL a0 a1) fun _=>.ret 1 true
def G88(a0:List Int)(a1:List Int):=(T88 a0 a1).den
theorem Bb(G:List Int)(D:List Int):Con Tryz.prog 137 [.t (eL bI G),.t (eL bI D)] (G88 G D) tB:=con Tryz.func137 aZ (T88 G D)
def aKJ(a0:List gO)(a1:List Int):Int->TP ((Int)⊕((Unit)⊕Bool))
 | v1=>.ite 4 (decide (v1<a0.length)) (.grd 3 (0<=v1/\v1<a0.length) <| .jn 7 0 (fun j2=>⟨[(0,.t (eL gU a0)),(1,.t (eL bI a1)),(5,tI v1),(6,.ptr 6 0),(24,tB j2)],[(6,.box ((gU (a0.getD v1.toNat default)).map .t))]⟩) (.ite 0 (decide (((a0.getD v1.toNat default).Kind)<0)) (.ret 4 true) (.ret 4 (decide (((a0.getD v1.toNat default).Kind)>=4)))) fun j2=>.ite 0 j2 (.ret 1 (.inr (.inr false))) (.jn 4 0 (fun j3=>⟨[(0,.t (eL gU a0)),(1,.t (eL bI a1)),(5,tI v1),(6,.ptr 6 0),(39,tB j3)],[(6,.box ((gU (a0.getD v1.toNat default)).map .t))]⟩) (.ite 0 (((a0.getD v1.toNat default).Kind) != 0) (.ite 4 (decide (((a0.getD v1.toNat default).Col)<0)) (.ret 7 true) (.ret 7 (decide (((a0.getD v1.toNat default).Col)>=(a1.length:Int))))) (.ret 11 false)) fun j3=>.ite 0 j3 (.ret 1 (.inr (.inr false))) (.jn 4 0 (fun j4=>⟨[(0,.t (eL gU a0)),(1,.t (eL bI a1)),(5,tI v1),(55,tB j4)],[]⟩) (.ite 0 (((a0.getD v1.toNat default).Kind)==1) (.grd 9 (0<=(if (i64.wrap ((a1.length:Int)-1))<(if (0:Int)>((a0.getD v1.toNat default).Col) then (0:Int) else ((a0.getD v1.toNat default).Col)) then (i64.wrap ((a1.length:Int)-1)) else (if (0:Int)>((a0.getD v1.toNat default).Col) then (0:Int) else ((a0.getD v1.toNat default).Col)))/\(if (i64.wrap ((a1.length:Int)-1))<(if (0:Int)>((a0.getD v1.toNat default).Col) then (0:Int) else ((a0.getD v1.toNat default).Col)) then (i64.wrap ((a1.length:Int)-1)) else (if (0:Int)>((a0.getD v1.toNat default).Col) then (0:Int) else ((a0.getD v1.toNat default).Col)))<a1.length) <| .ret 3 ((a1.getD (if (i64.wrap ((a1.length:Int)-1))<(if (0:Int)>((a0.getD v1.toNat default).Col) then (0:Int) else ((a0.getD v1.toNat default).Col)) then (i64.wrap ((a1.length:Int)-1)) else (if (0:Int)>((a0.getD v1.toNat default).Col) then (0:Int) else ((a0.getD v1.toNat default).Col))).toNat default) != 0)) (.ret 12 false)) fun j4=>.ite 0 j4 (.ret 1 (.inr (.inr false))) (.ret 3 (.inl (i64.wrap (v1+1))))))) (.ret 0 (.inr (.inl ())))
def T89(a0:List gO)(a1:List Int):TP Bool:=.lp 2 (fun v1=>⟨[(0,.t (eL gU a0)),(1,.t (eL bI a1)),(5,tI v1)],[]⟩) (fun _=>⟨[],[]⟩) 0 0 (aKJ a0 a1) fun _=>.ret 1 true
def G89(a0:List gO)(a1:List Int):=(T89 a0 a1).den
theorem aWK(G:List gO)(D:List Int):Con Tryz.prog 138 [.t (eL gU G),.t (eL bI D)] (G89 G D) tB:=con Tryz.func138 aZ (T89 G D)
def aKX(a0:aG)(a1:List Int)(a2:List Int):Int->TP ((Int)⊕((Unit)⊕Bool))
 | v1=>.ite 5 (decide (v1<a0.Key.length)) (.dg 4 (0<=v1/\v1<a0.Key.length) <| .dg 6 (0<=(a0.Key.getD v1.toNat default)/\(a0.Key.getD v1.toNat default)<a1.length) <| .dg 12 (0<=v1/\v1<a0.Key2.length) <| .dg 14 (0<=(a0.Key2.getD v1.toNat default)/\(a0.Key2.getD v1.toNat default)<a2.length) <| .dr 0 0 [(3,false,[])] [1,2,3,7,15,16,17,18,19] <| .ite 0 ((a1.getD (a0.Key.getD v1.toNat default).toNat default) != (a2.getD (a0.Key2.getD v1.toNat default).toNat default)) (.ret 1 (.inr (.inr false))) (.ret 3 (.inl (i64.wrap (v1+1))))) (.ret 0 (.inr (.inl ())))
def T90(a0:aG)(a1:List Int)(a2:List Int):TP Bool:=.ite 9 ((a0.Key.length:Int) != (a0.Key2.length:Int)) (.ret 1 false) (.lp 1 (fun v1=>⟨[(1,.t (eL bI a1)),(2,.t (eL bI a2)),(3,.ptr 3 0),(7,tI v1)],[(3,bN a0)]⟩) (fun _=>⟨[],[]⟩) 0 0 (aKX a0 a1 a2) fun _=>.ret 1 true)
def G90(a0:aG)(a1:List Int)(a2:List Int):=(T90 a0 a1 a2).den
theorem bCJ(G:aG)(D:List Int)(a2:List Int):Con Tryz.prog 139 [.t (dD G),.t (eL bI D),.t (eL bI a2)] (G90 G D a2) tB:=con Tryz.func139 aZ (T90 G D a2)
def T84(a0:aG):TP Int:=.ite 6 (a0.Op==0) (.ret 1 0) (.jn 2 0 (fun j1=>⟨[(7,tB j1)],[]⟩) (.ite 0 (a0.Op==3) (.ret 0 (a0.Op==3)) (.jn 2 0 (fun j2=>⟨[(7,tB j2)],[]⟩) (.ite 0 (a0.Op==6) (.ret 0 (a0.Op==6)) (.ret 2 (a0.Op==7))) fun j2=>.ret 0 j2)) fun j1=>.ite 0 j1 (.ret 1 2) (.ret 1 1))
def G84(a0:aG):=(T84 a0).den
theorem aFH(D:aG):Con Tryz.prog 81 [.t (dD D)] (G84 D) tI:=con Tryz.func81 aZ (T84 D)
def aFS(a0:List aS)(a1:aG)(a2:List (List Int)):Int->TP ((Int)⊕((Unit)⊕Bool))
 | v8=>.ite 5 (decide (v8<a1.Exprs.length)) (.grd 6 (0<=v8/\v8<a1.Exprs.length) <| .ca 1 (aML a0 (a2.getD (0:Int).toNat default) ([]:List Int) (a1.Exprs.getD v8.toNat default)) fun r9=>.ite 7 (!r9.2) (.ret 1 (.inr (.inr false))) (.ret 3 (.inl (i64.wrap (v8+1))))) (.ret 0 (.inr (.inl ())))
def aLT(a0:List aS)(a1:aG)(a2:List (List Int)):Int->TP ((Int)⊕((Unit)⊕Bool))
 | v23=>.ite 5 (decide (v23<a1.Seq.length)) (.grd 5 (0<=v23/\v23<a1.Seq.length) <| .ca 3 (aJA a0 ((a1.Seq.getD v23.toNat default).Pred) (a2.getD (0:Int).toNat default)) fun r24=>.jn 2 0 (fun j25=>⟨[(0,.t (eL aW a0)),(4,.ptr 4 0),(7,.t (eL bI (a2.getD (0:Int).toNat default))),(12,tI v23),(212,tB j25)],[(4,bN a1)]⟩) (.ite 0 (!r24) (.ret 17 true) (.grd 4 (0<=v23/\v23<a1.Seq.length) <| .ite 5 (decide (((a1.Seq.getD v23.toNat default).Rep)<0)) (.ret 8 true) (.grd 4 (0<=v23/\v23<a1.Seq.length) <| .ret 4 (decide (((a1.Seq.getD v23.toNat default).Rep)>=3))))) fun j25=>.ite 0 j25 (.ret 1 (.inr (.inr false))) (.ret 3 (.inl (i64.wrap (v23+1))))) (.ret 0 (.inr (.inl ())))
def T34(a0:List aS)(a1:aG)(a2:List (List Int)):TP Bool:=.ca 3 (aHD a0) fun r1=>.jn 2 0 (fun j2=>⟨[(0,.t (eL aW a0)),(2,.t (eL nW a2)),(4,.ptr 4 0),(32,tB j2)],[(4,bN a1)]⟩) (.ite 0 (!r1) (.ret 16 true) (.ca 1 (aWP a1) fun r3=>.ite 3 (!r3) (.ret 11 true) (.ca 3 (aFH a1) fun r4=>.ite 3 ((a2.length:Int) != r4) (.ret 4 true) (.ret 4 ((a2.length:Int)==0))))) fun j2=>.ite 0 j2 (.ret 1 false) (.grd 2 (0<=(0:Int)/\(0:Int)<a2.length) <| .grd 7 (0<=(i64.wrap ((a2.length:Int)-1))/\(i64.wrap ((a2.length:Int)-1))<a2.length) <| .jn 6 0 (fun j5=>⟨[(0,.t (eL aW a0)),(4,.ptr 4 0),(7,.t (eL bI (a2.getD (0:Int).toNat default))),(8,.t (eL bI (a2.getD (i64.wrap ((a2.length:Int)-1)).toNat default))),(59,tB j5)],[(4,bN a1)]⟩) (.ite 0 (((a2.getD (0:Int).toNat default).length:Int)==0) (.ret 14 true) (.ite 5 (decide (((a2.getD (0:Int).toNat default).length:Int)>12)) (.ret 9 true) (.ite 5 (((a2.getD (i64.wrap ((a2.length:Int)-1)).toNat default).length:Int)==0) (.ret 4 true) (.ret 4 (decide (((a2.getD (i64.wrap ((a2.length:Int)-1)).toNat default).length:Int)>12)))))) fun j5=>.ite 0 j5 (.ret 1 false) (.ite 4 (a1.Op==1) (.jn 5 0 (fun j6=>⟨[(6,tB j6)],[]⟩) (.ite 0 ((a1.Exprs.length:Int)==1) (.grd 4 (0<=(0:Int)/\(0:Int)<a1.Exprs.length) <| .ca 2 (aJA a0 (a1.Exprs.getD (0:Int).toNat default) (a2.getD (0:Int).toNat default)) fun r7=>.ret 2 r7) (.ret 9 false)) fun j6=>.ret 0 j6) (.ite 2 (a1.Op==2) (.lp 1 (fun v8=>⟨[(0,.t (eL aW a0)),(4,.ptr 4 0),(7,.t (eL bI (a2.getD (0:Int).toNat default))),(9,tI v8)],[(4,bN a1)]⟩) (fun _=>⟨[(4,.ptr 4 0)],[(4,bN a1)]⟩) 1 0 (aFS a0 a1 a2) fun _=>.jn 5 0 (fun j10=>⟨[(6,tB j10)],[]⟩) (.ite 0 (decide ((a1.Exprs.length:Int)>=1)) (.ret 6 (decide ((a1.Exprs.length:Int)<=12))) (.ret 6 false)) fun j10=>.ret 0 j10) (.ite 2 (a1.Op==3) (.ca 2 (bBZ (a2.getD (0:Int).toNat default) (a2.getD (i64.wrap ((a2.length:Int)-1)).toNat default)) fun r11=>.ret 1 r11) (.ite 2 (a1.Op==4) (.ca 3 (Bb a1.Key (a2.getD (0:Int).toNat default)) fun r12=>.jn 1 0 (fun j13=>⟨[(6,tB j13)],[]⟩) (.ite 0 r12 (.ca 3 (aWK a1.Aggs (a2.getD (0:Int).toNat default)) fun r14=>.ite 2 r14 (.ret 10 (decide ((i64.wrap ((a1.Key.length:Int)+(a1.Aggs.length:Int)))<12))) (.ret 10 false)) (.ret 16 false)) fun j13=>.ret 0 j13) (.ite 2 (a1.Op==5) (.ca 3 (Bb a1.Key (a2.getD (0:Int).toNat default)) fun r15=>.jn 1 0 (fun j16=>⟨[(6,tB j16)],[]⟩) (.ite 0 r15 (.bs 2 false bI [a1.Step] <| .ca 1 (Bb [a1.Step] (a2.getD (0:Int).toNat default)) fun r17=>.ret 2 r17) (.ret 7 false)) fun j16=>.ret 0 j16) (.jn 2 0 (fun j18=>⟨[(0,.t (eL aW a0)),(4,.ptr 4 0),(7,.t (eL bI (a2.getD (0:Int).toNat default))),(8,.t (eL bI (a2.getD (i64.wrap ((a2.length:Int)-1)).toNat default))),(61,tI a1.Op),(149,tB j18)],[(4,bN a1)]⟩) (.ite 0 (a1.Op==6) (.ret 0 (a1.Op==6)) (.ret 2 (a1.Op==7))) fun j18=>.ite 0 j18 (.ca 3 (Bb a1.Key (a2.getD (0:Int).toNat default)) fun r19=>.jn 1 0 (fun j20=>⟨[(6,tB j20)],[]⟩) (.ite 0 r19 (.ca 3 (Bb a1.Key2 (a2.getD (i64.wrap ((a2.length:Int)-1)).toNat default)) fun r21=>.ite 2 r21 (.ca 3 (bCJ a1 (a2.getD (0:Int).toNat default) (a2.getD (i64.wrap ((a2.length:Int)-1)).toNat default)) fun r22=>.ite 2 r22 (.ret 8 (decide ((i64.wrap (((a2.getD (0:Int).toNat default).length:Int)+((a2.getD (i64.wrap ((a2.length:Int)-1)).toNat default).length:Int)))<=12))) (.ret 8 false)) (.ret 14 false)) (.ret 20 false)) fun j20=>.ret 0 j20) (.ite 2 (a1.Op==8) (.lp 1 (fun v23=>⟨[(0,.t (eL aW a0)),(4,.ptr 4 0),(7,.t (eL bI (a2.getD (0:Int).toNat default))),(12,tI v23)],[(4,bN a1)]⟩) (fun _=>⟨[(4,.ptr 4 0),(7,.t (eL bI (a2.getD (0:Int).toNat default)))],[(4,bN a1)]⟩) 3 0 (aLT a0 a1 a2) fun _=>.ca 3 (Bb a1.Key (a2.getD (0:Int).toNat default)) fun r26=>.jn 1 0 (fun j27=>⟨[(6,tB j27)],[]⟩) (.ite 0 r26 (.ret 6 (decide ((a1.Key.length:Int)<=10))) (.ret 6 false)) fun j27=>.ret 0 j27) (.ret 1 false)))))))))
def G34(a0:List aS)(a1:aG)(a2:List (List Int)):=(T34 a0 a1 a2).den
theorem bAV(G:List aS)(D:aG)(a2:List (List Int)):Con Tryz.prog 61 [.t (eL aW G),.t (dD D),.t (eL nW a2)] (G34 G D a2) tB:=con Tryz.func61 aZ (T34 G D a2)
def aWX(a0:List aS)(a1:aG)(a2:LD)(a3:LD)(a4:List (List Int))(a5:Int):TP ((List LD)×Bool):=.ca 5 (aXJ a0 a1) fun r1=>.jn 2 0 (fun j2=>⟨[(2,tD a2),(3,tD a3),(4,.t (eL nW a4)),(5,tI a5),(7,.ptr 7 0),(37,tB j2)],[(7,bN a1)]⟩) (.ite 0 (!r1) (.ret 18 true) (.ca 3 (aFH a1) fun r3=>.ite 3 ((a4.length:Int) != r3) (.ret 11 true) (.ca 3 (bAV a0 a1 a4) fun r4=>.ite 3 (!r4) (.ret 4 true) (.ret 4 ((a4.length:Int)==0))))) fun j2=>.ite 0 j2 (.cv 2 [.sl 12 (eL aU ([]:List LD))] <| .ret 0 (([]:List LD),false)) (.grd 3 (0<=(0:Int)/\(0:Int)<a4.length) <| .ca 2 (aMI a2 (a4.getD (0:Int).toNat default) a5) fun r5=>.ite 1 (!r5) (.cv 2 [.sl 12 (eL aU ([]:List LD))] <| .ret 0 (([]:List LD),false)) (.ca 1 (Qf a2) fun r6=>.bs 0 true aU [r6] <| .pc 4 0 (fun (j7:(List LD))=>⟨[(7,.ptr 7 0),(14,.own 14)],[(7,bN a1),(14,.arr 37 1 (j7.length) (eF aU j7))]⟩) (.ite 0 ((a4.length:Int)==2) (.grd 3 (0<=(1:Int)/\(1:Int)<a4.length) <| .ca 2 (aMI a3 (a4.getD (1:Int).toNat default) a5) fun r8=>.ite 1 (!r8) (.cv 2 [.sl 12 (eL aU ([]:List LD))] <| .ret 0 (.inr (([]:List LD),false))) (.ca 2 (Qf a3) fun r9=>.bs 0 true aU [r9] <| .grd 1 (([r6].length+[r9].length)*24<=140737488355328) <| .cv 0 [.ap 62 aU [r6] [r9]] <| .cv 1 [.rn 62 14] <| .ret 0 (.inl ([r6]++[r9])))) (.cv 0 [.rn 47 14] <| .ret 0 (.inl [r6]))) fun j7=>.jn 0 0 (fun (j10,j11)=>⟨[(12,.own 12),(13,tB j11)],[(12,.arr 37 1 (j10.length) (eF aU j10))]⟩) (.dl 8 (decide (a1.Size<=(i64.wrap (400*(if (1:Int)>a1.Step then (1:Int) else a1.Step))))) (.dr 0 0 [(7,false,[]),(14,false,[])] [7,14] <| .cv 0 [.rn 14 12] <| .ret 0 (j7,true)) (.dl 13 (a1.Kind != 1) (.dr 0 0 [(7,false,[]),(14,false,[])] [7,14] <| .cv 0 [.rn 14 12] <| .ret 0 (j7,true)) (.dr 0 0 [(7,false,[]),(14,false,[])] [7,14] <| .cv 0 [.rn 14 12] <| .ret 0 (j7,a1.Op != 4)))) fun (j10,j11)=>.cv 0 [.fr 12 (eL aU j10)] <| .ret 0 (j10,j11)))
def aXC(a0:List aS)(a1:aG)(a2:LD)(a3:LD)(a4:List (List Int))(a5:Int):=(aWX a0 a1 a2 a3 a4 a5).den
theorem aSE(Q:List aS)(M:aG)(a2:LD)(J:LD)(G:List (List Int))(D:Int):Con Tryz.prog 32 [.t (eL aW Q),.t (dD M),tD a2,tD J,.t (eL nW G),tI D] (aXC Q M a2 J G D) (fun y=>.tup [.t (eL aU (y.1)),tB y.2]):=con Tryz.func32 aZ (aWX Q M a2 J G D)
def Dd(a0:LD)(a1:LD):Int->TP ((Int)⊕((Unit)⊕Bool))
 | v1=>.ite 4 (decide (v1<a0.length)) (.jn 0 0 (fun j2=>⟨[(0,tD a0),(1,tD a1),(5,tI v1),(39,tB j2)],[]⟩) (.dg 2 (0<=v1/\v1<a0.length) <| .dg 6 (0<=v1/\v1<a1.length) <| .dc 8 [.t (cH (a0.getD v1.toNat default)),.t (cH (a1.getD v1.toNat default))] (Zr (a0.getD v1.toNat default) (a1.getD v1.toNat default)) fun r3=>.dl 10 (r3 != 0) (.dr 0 0 [] [0,1,5,11,12,13,14] <| .ret 0 true) (.dg 13 (0<=v1/\v1<a0.length) <| .dg 18 (0<=v1/\v1<a1.length) <| .dr 0 0 [] [0,1,5,11,12,13,14] <| .ret 0 (((a0.getD v1.toNat default).N) != ((a1.getD v1.toNat default).N)))) fun j2=>.ite 0 j2 (.ret 1 (.inr (.inr false))) (.ret 3 (.inl (i64.wrap (v1+1))))) (.ret 0 (.inr (.inl ())))
def aXZ(a0:LD)(a1:LD):TP Bool:=.ite 6 ((a0.length:Int) != (a1.length:Int)) (.ret 1 false) (.lp 1 (fun v1=>⟨[(0,tD a0),(1,tD a1),(5,tI v1)],[]⟩) (fun _=>⟨[],[]⟩) 0 0 (Dd a0 a1) fun _=>.ret 1 true)
def aXA(a0:LD)(a1:LD):=(aXZ a0 a1).den
theorem aNS(G:LD)(D:LD):Con Tryz.prog 33 [tD G,tD D] (aXA G D) tB:=con Tryz.func33 aZ (aXZ G D)
def aYB(a0:Bool):TP aE:=.ite 2 a0 (.ret 2 (aE.mk 2 1 (⟨#[]⟩))) (.ret 2 (aE.mk 2 0 (⟨#[]⟩)))
def aZB(a0:Bool):=(aYB a0).den
theorem kY(D:Bool):Con Tryz.prog 285 [tB D] (aZB D) (fun y=>.t (bZ y)):=con Tryz.func285 aZ (aYB D)
def bAZ(a0:aE)(a1:aE):TP Bool:=.ite 6 (a0.Kind==1) (.ret 6 (Op.bytesLess (a0.S:ByteArray).toList (a1.S:ByteArray).toList)) (.ret 6 (decide (a0.N<a1.N)))
def bAF(a0:aE)(a1:aE):=(bAZ a0 a1).den
theorem Za(G:aE)(D:aE):Con Tryz.prog 286 [.t (bZ G),.t (bZ D)] (bAF G D) tB:=con Tryz.func286 aZ (bAZ G D)
def aZN(a0:bF)(a1:List aE):TP aE:=.ite 6 (a0.Op==0) (.ret 4 (aE.mk 0 a0.N (⟨#[]⟩))) (.ite 2 (a0.Op==1) (.ret 4 (aE.mk 1 0 a0.S)) (.ite 2 (a0.Op==2) (.ca 3 (kY (a0.N==1)) fun r1=>.ret 1 r1) (.ite 2 (a0.Op==6) (.grd 2 (0<=(0:Int)/\(0:Int)<a1.length) <| .ca 3 (kY (((a1.getD (0:Int).toNat default).N)==0)) fun r2=>.ret 1 r2) (.ite 2 (a0.Op==7) (.grd 2 (0<=(0:Int)/\(0:Int)<a1.length) <| .ret 5 (aE.mk 0 (i64.wrap (0-((a1.getD (0:Int).toNat default).N))) (⟨#[]⟩))) (.ite 2 (a0.Op==20) (.grd 2 (0<=(0:Int)/\(0:Int)<a1.length) <| .ret 5 (aE.mk 0 (((a1.getD (0:Int).toNat default).S:ByteArray).size:Int) (⟨#[]⟩))) (.grd 2 (0<=(0:Int)/\(0:Int)<a1.length) <| .grd 5 (0<=(1:Int)/\(1:Int)<a1.length) <| .ite 7 (a0.Op==8) (.ret 7 (aE.mk 0 (i64.wrap (((a1.getD (0:Int).toNat default).N)+((a1.getD (1:Int).toNat default).N))) (⟨#[]⟩))) (.ite 2 (a0.Op==9) (.ret 7 (aE.mk 0 (i64.wrap (((a1.getD (0:Int).toNat default).N)-((a1.getD (1:Int).toNat default).N))) (⟨#[]⟩))) (.ite 2 (a0.Op==10) (.ret 7 (aE.mk 0 (i64.wrap (((a1.getD (0:Int).toNat default).N)*((a1.getD (1:Int).toNat default).N))) (⟨#[]⟩))) (.ite 2 (a0.Op==11) (.ite 3 (((a1.getD (1:Int).toNat default).N)==0) (.ret 2 (aE.mk 0 0 (⟨#[]⟩))) (.grd 5 (((a1.getD (1:Int).toNat default).N)≠0) <| .ret 2 (aE.mk 0 (i64.wrap (Int.tdiv ((a1.getD (0:Int).toNat default).N) ((a1.getD (1:Int).toNat default).N))) (⟨#[]⟩)))) (.ite 2 (a0.Op==12) (.ite 3 (((a1.getD (1:Int).toNat default).N)==0) (.ret 2 (aE.mk 0 0 (⟨#[]⟩))) (.grd 5 (((a1.getD (1:Int).toNat default).N)≠0) <| .ret 2 (aE.mk 0 (Int.tmod ((a1.getD (0:Int).toNat default).N) ((a1.getD (1:Int).toNat default).N)) (⟨#[]⟩)))) (.ite 2 (a0.Op==13) (.ca 3 (kY ((((a1.getD (0:Int).toNat default).Kind)==((a1.getD (1:Int).toNat default).Kind))&&((((a1.getD (0:Int).toNat default).N)==((a1.getD (1:Int).toNat default).N))&&((((a1.getD (0:Int).toNat default).S).toList==((a1.getD (1:Int).toNat default).S).toList)&&true)))) fun r3=>.ret 1 r3) (.ite 2 (a0.Op==14) (.ca 3 (kY (!((((a1.getD (0:Int).toNat default).Kind)==((a1.getD (1:Int).toNat default).Kind))&&((((a1.getD (0:Int).toNat default).N)==((a1.getD (1:Int).toNat default).N))&&((((a1.getD (0:Int).toNat default).S).toList==((a1.getD (1:Int).toNat default).S).toList)&&true))))) fun r4=>.ret 1 r4) (.ite 2 (a0.Op==15) (.ca 2 (Za (a1.getD (0:Int).toNat default) (a1.getD (1:Int).toNat default)) fun r5=>.ca 0 (kY r5) fun r6=>.ret 1 r6) (.ite 2 (a0.Op==16) (.ca 2 (Za (a1.getD (1:Int).toNat default) (a1.getD (0:Int).toNat default)) fun r7=>.ca 1 (kY (!r7)) fun r8=>.ret 1 r8) (.ite 2 (a0.Op==17) (.jn 4 0 (fun (j9,j10,j11)=>⟨[(4,.ptr 4 0)],[(4,.box [tI j9,tI j10,.t (.str j11)])]⟩) (.ite 0 (((a1.getD (0:Int).toNat default).N)==1) (.ca 4 (kY (((a1.getD (1:Int).toNat default).N)==1)) fun r12=>.ret 1 (r12.Kind,r12.N,r12.S)) (.ca 4 (kY false) fun r13=>.ret 1 (r13.Kind,r13.N,r13.S))) fun (j9,j10,j11)=>.ret 0 (aE.mk j9 j10 j11)) (.ite 2 (a0.Op==18) (.jn 4 0 (fun (j14,j15,j16)=>⟨[(4,.ptr 4 0)],[(4,.box [tI j14,tI j15,.t (.str j16)])]⟩) (.ite 0 (((a1.getD (0:Int).toNat default).N)==1) (.ca 4 (kY true) fun r17=>.ret 1 (r17.Kind,r17.N,r17.S)) (.ca 4 (kY (((a1.getD (1:Int).toNat default).N)==1)) fun r18=>.ret 1 (r18.Kind,r18.N,r18.S))) fun (j14,j15,j16)=>.ret 0 (aE.mk j14 j15 j16)) (.grd 5 (((((a1.getD (0:Int).toNat default).S).size+((a1.getD (1:Int).toNat default).S).size:Nat):Int)<=9223372036854775807) <| .grd 6 (0<=(0:Int)/\(0:Int)<=(if (200:Int)<((((a1.getD (0:Int).toNat default).S)++((a1.getD (1:Int).toNat default).S):ByteArray).size:Int) then (200:Int) else ((((a1.getD (0:Int).toNat default).S)++((a1.getD (1:Int).toNat default).S):ByteArray).size:Int))/\(if (200:Int)<((((a1.getD (0:Int).toNat default).S)++((a1.getD (1:Int).toNat default).S):ByteArray).size:Int) then (200:Int) else ((((a1.getD (0:Int).toNat default).S)++((a1.getD (1:Int).toNat default).S):ByteArray).size:Int))<=((((a1.getD (0:Int).toNat default).S)++((a1.getD (1:Int).toNat default).S)).size:Int)) <| .ret 2 (aE.mk 1 0 ((((a1.getD (0:Int).toNat default).S)++((a1.getD (1:Int).toNat default).S)).extract (0:Int).toNat (if (200:Int)<((((a1.getD (0:Int).toNat default).S)++((a1.getD (1:Int).toNat default).S):ByteArray).size:Int) then (200:Int) else ((((a1.getD (0:Int).toNat default).S)++((a1.getD (1:Int).toNat default).S):ByteArray).size:Int)).toNat)))))))))))))))))))
def aXT(a0:bF)(a1:List aE):=(aZN a0 a1).den
theorem aQP(G:bF)(D:List aE):Con Tryz.prog 245 [.t (cJ G),tV D] (aXT G D) (fun y=>.t (bZ y)):=con Tryz.func245 aZ (aZN G D)
abbrev aZC:={f:((List aS)×bF×Int×(List aE)×(List aE))->Option fD // ∀ a:(List aS)×bF×Int×(List aE)×(List aE),Con Tryz.prog 185 [.t (eL aW (a.1)),.t (cJ a.2.1),tI a.2.2.1,tV a.2.2.2.1,tV a.2.2.2.2] (f a) (fun (y:fD)=>.t (qU y))}
def aBM(rec:aZC)(a0:List aS)(a1:bF)(a2:Int)(a3:List aE)(a4:List aE):(Int×(List aE)×Int)->TP ((Int×(List aE)×Int)⊕((Int×(List aE))⊕fD))
 | (v4,v5,v6)=>.ite 5 (decide (v6<a1.Args.length)) (.grd 5 (0<=v6/\v6<a1.Args.length) <| .ca 4 (rec.2 (a0,a1.Args.getD v6.toNat default,a2,a3,a4)) fun r9=>.bs 5 false aR [r9.V] <| .grd 1 ((v5.length+[r9.V].length)*32<=140737488355328) <| .cv 0 [.ap 75 aR v5 [r9.V]] <| .cv 9 [.rn 75 15] <| .ret 0 (.inl (i64.wrap (v4+r9.N),v5++[r9.V],i64.wrap (v6+1)))) (.ret 0 (.inr (.inl (v4,v5))))
def aID(rec:aZC)(a0:List aS)(a1:bF)(a2:Int)(a3:List aE)(a4:List aE):TP fD:=.ite 5 (a1.Op==21) (.grd 4 (0<=(0:Int)/\(0:Int)<a1.Args.length) <| .ca 4 (rec.2 (a0,a1.Args.getD (0:Int).toNat default,a2,a3,a4)) fun r1=>.jn 7 0 (fun j2=>⟨[(0,.t (eL aW a0)),(2,tI a2),(3,tV a3),(4,tV a4),(6,.ptr 6 0),(10,.ptr 10 0),(11,.ptr 11 0),(12,tI j2)],[(6,.box ((cT a1).map .t)),(10,.box [tI 0,tI 0,.t (.str (⟨#[]⟩)),tI 0]),(11,.box ((aAB r1).map .t))]⟩) (.ite 0 (r1.V.N==1) (.ret 1 1) (.ret 0 2)) fun j2=>.grd 5 (0<=j2/\j2<a1.Args.length) <| .ca 4 (rec.2 (a0,a1.Args.getD j2.toNat default,a2,a3,a4)) fun r3=>.ret 12 (fD.mk r3.V (i64.wrap ((i64.wrap (1+r1.N))+r3.N)))) (.cv 3 [.th 15 15 67 3 (eF aR ([]:List aE))] <| .lp 0 (fun (v4,v5,v6)=>⟨[(0,.t (eL aW a0)),(2,tI a2),(3,tV a3),(4,tV a4),(6,.ptr 6 0),(10,.ptr 10 0),(14,tI v4),(15,.own 15),(16,tI v6)],[(6,.box ((cT a1).map .t)),(10,.box [tI 0,tI 0,.t (.str (⟨#[]⟩)),tI 0]),(15,.arr 67 3 (v5.length) (eF aR v5))]⟩) (fun (b7,b8)=>⟨[(0,.t (eL aW a0)),(2,tI a2),(3,tV a3),(4,tV a4),(6,.ptr 6 0),(10,.ptr 10 0),(14,tI b7),(15,.own 15)],[(6,.box ((cT a1).map .t)),(10,.box [tI 0,tI 0,.t (.str (⟨#[]⟩)),tI 0]),(15,.arr 67 3 (b8.length) (eF aR b8))]⟩) 0 (1,([]:List aE),0) (aBM rec a0 a1 a2 a3 a4) fun (b7,b8)=>.ite 4 (a1.Op==3) (.grd 4 (0<=a1.N/\a1.N<a3.length) <| .ret 4 (fD.mk (a3.getD (a1.N).toNat default) b7)) (.ite 2 (a1.Op==4) (.grd 4 (0<=a1.N/\a1.N<a4.length) <| .ret 4 (fD.mk (a4.getD (a1.N).toNat default) b7)) (.ite 2 (a1.Op==5) (.ret 5 (fD.mk (aE.mk 0 a2 (⟨#[]⟩)) b7)) (.ite 2 (a1.Op==22) (.grd 5 (0<=a1.N/\a1.N<a0.length) <| .cv 4 [.fr 15 (eL aR b8)] <| .ca 0 (rec.2 (a0,(a0.getD (a1.N).toNat default).Body,a2,([]:List aE),b8)) fun r10=>.ret 10 (fD.mk r10.V (i64.wrap (b7+r10.N)))) (.cv 2 [.fr 15 (eL aR b8)] <| .ca 0 (aQP a1 b8) fun r11=>.ret 3 (fD.mk r11 b7))))))
theorem Yr(D:aZC)(Q:List aS)(M:bF)(a2:Int)(J:List aE)(G:List aE):Con Tryz.prog 185 [.t (eL aW Q),.t (cJ M),tI a2,tV J,tV G] (aID D Q M a2 J G).den (fun (y:fD)=>.t (qU y)):=con Tryz.func185 aZ (aID D Q M a2 J G)
def bFG(a:(List aS)×bF×Int×(List aE)×(List aE)):Option fD:=rT (C:=fun (a:(List aS)×bF×Int×(List aE)×(List aE)) (x:Option fD)=>Con Tryz.prog 185 [.t (eL aW (a.1)),.t (cJ a.2.1),tI a.2.2.1,tV a.2.2.2.1,tV a.2.2.2.2] x (fun (y:fD)=>.t (qU y))) (fun a=>⟨bM Tryz.func185 (by kernel_rfl),fun _ h=>nomatch h⟩) (fun rec a=>aID rec a.1 a.2.1 a.2.2.1 a.2.2.2.1 a.2.2.2.2) (fun rec a=>Yr rec a.1 a.2.1 a.2.2.1 a.2.2.2.1 a.2.2.2.2) a
theorem aRA(a:(List aS)×bF×Int×(List aE)×(List aE)):Con Tryz.prog 185 [.t (eL aW (a.1)),.t (cJ a.2.1),tI a.2.2.1,tV a.2.2.2.1,tV a.2.2.2.2] (bFG a) (fun (y:fD)=>.t (qU y)):=lZ (C:=fun (a:(List aS)×bF×Int×(List aE)×(List aE)) (x:Option fD)=>Con Tryz.prog 185 [.t (eL aW (a.1)),.t (cJ a.2.1),tI a.2.2.1,tV a.2.2.2.1,tV a.2.2.2.2] x (fun (y:fD)=>.t (qU y))) _ _ _ a
def aXY(a0:List aS)(a1:bF)(a2:Int)(a3:List aE)(a4:List aE):Option fD:=bFG (a0,a1,a2,a3,a4)
theorem aSY(M:List aS)(J:bF)(a2:Int)(G:List aE)(D:List aE):Con Tryz.prog 185 [.t (eL aW M),.t (cJ J),tI a2,tV G,tV D] (aXY M J a2 G D) (fun y=>.t (qU y)):=aRA (M,J,a2,G,D)
def bBV(a0:List aS)(a1:bF)(a2:Int)(a3:List aE):TP aE:=.ca 6 (aSY a0 a1 a2 a3 ([]:List aE)) fun r1=>.ret 2 r1.V
def aOC(a0:List aS)(a1:bF)(a2:Int)(a3:List aE):=(bBV a0 a1 a2 a3).den
theorem Qb(J:List aS)(G:bF)(a2:Int)(D:List aE):Con Tryz.prog 93 [.t (eL aW J),.t (cJ G),tI a2,tV D] (aOC J G a2 D) (fun y=>.t (bZ y)):=con Tryz.func93 aZ (bBV J G a2 D)
def Ej(a0:List aE)(a1:List Int):((List aE)×Int)->TP (((List aE)×Int)⊕((List aE)⊕(List aE)))
 | (v1,v2)=>.ite 4 (decide (v2<a1.length)) (.grd 5 (0<=v2/\v2<a1.length) <| .grd 2 (0<=(a1.getD v2.toNat default)/\(a1.getD v2.toNat default)<a0.length) <| .bs 1 false aR [a0.getD (a1.getD v2.toNat default).toNat default] <| .grd 1 ((v1.length+[a0.getD (a1.getD v2.toNat default).toNat default].length)*32<=140737488355328) <| .cv 0 [.ap 22 aR v1 [a0.getD (a1.getD v2.toNat default).toNat default]] <| .cv 4 [.rn 22 5] <| .ret 0 (.inl (v1++[a0.getD (a1.getD v2.toNat default).toNat default],i64.wrap (v2+1)))) (.ret 0 (.inr (.inl v1)))
def bDR(a0:List aE)(a1:List Int):TP (List aE):=.cv 3 [.th 5 5 67 3 (eF aR ([]:List aE))] <| .lp 0 (fun (v1,v2)=>⟨[(0,tV a0),(1,.t (eL bI a1)),(5,.own 5),(6,tI v2)],[(5,.arr 67 3 (v1.length) (eF aR v1))]⟩) (fun b3=>⟨[(5,.own 5)],[(5,.arr 67 3 (b3.length) (eF aR b3))]⟩) 0 (([]:List aE),0) (Ej a0 a1) fun b3=>.cv 2 [.fr 5 (eL aR b3)] <| .ret 0 b3
def aRM(a0:List aE)(a1:List Int):=(bDR a0 a1).den
theorem qF(G:List aE)(D:List Int):Con Tryz.prog 189 [tV G,.t (eL bI D)] (aRM G D) (fun y=>tV y):=con Tryz.func189 aZ (bDR G D)
def aYE(a0:Int)(a1:Int):TP Int:=.grd 4 (a1≠0) <| .grd 4 (a1≠0) <| .jn 1 0 (fun j1=>⟨[(5,tI j1)],[]⟩) (.ite 0 (decide ((Int.tmod a0 a1)<0)) (.ret 3 (i64.wrap ((i64.wrap (Int.tdiv a0 a1))-1))) (.ret 0 (i64.wrap (Int.tdiv a0 a1)))) fun j1=>.ret 2 j1
def bAU(a0:Int)(a1:Int):=(aYE a0 a1).den
theorem aBF(G:Int)(D:Int):Con Tryz.prog 246 [tI G,tI D] (bAU G D) tI:=con Tryz.func246 aZ (aYE G D)
def Js(a1:List aE)(a2:Int)(a3:Int)(a4:aB):((List aT)×Int)->TP (((List aT)×Int)⊕((List aT)⊕(List aT)))
 | (v1,v2)=>.ite 4 (decide (v2<v1.length)) (.grd 3 (0<=v2/\v2<v1.length) <| .grd 2 ((v2).toNat<v1.length/\True) <| .jn 3 0 (fun (j4,j5)=>⟨[(0,.own 0),(1,tV a1),(2,tI a2),(3,tI a3),(9,.ptr 9 0),(11,tI v2),(42,tB j5)],[(0,.arm 209 4 j4.length (eJ cP j4) none),(9,.box ((aH a4).map .t))]⟩) (.ite 0 (((v1.getD v2.toNat default).begin_)==a2) (.grd 3 (0<=v2/\v2<v1.length) <| .grd 2 ((v2).toNat<v1.length/\True) <| .ite 4 (((v1.getD v2.toNat default).end_)==a3) (.grd 3 (0<=v2/\v2<v1.length) <| .grd 2 ((v2).toNat<v1.length/\True) <| .ca 1 (oB ((v1.getD v2.toNat default).key_) a1) fun r6=>.ret 1 (v1,r6)) (.ret 8 (v1,false))) (.ret 17 (v1,false))) fun (j4,j5)=>.ite 0 j5 (.foc 0 0 20003 ((v2).toNat) 3 cP j4 <| .dg 4 (0<=v2/\v2<j4.length) <| .dg 6 ((v2).toNat<j4.length/\v2.toNat=v2.toNat/\True) <| .dg 9 ((((j4.getD v2.toNat default).l_).length+1)*40<=140737488355328) <| .dg 10 (0<=v2/\v2<j4.length) <| .dg 12 ((v2).toNat<j4.length) <| .dr 0 0 [(52,true,[9]),(0,false,[12]),(9,false,[]),(20003,false,[9])] [0,1,2,3,9,11,42] <| .cv 0 [.apl 52 aH ((j4.getD v2.toNat default).l_) [a4]] <| .cv 2 [.mg 0 52,.upr 0 cP j4 ((v2).toNat) (aT.mk ((j4.getD v2.toNat default).key_) ((j4.getD v2.toNat default).begin_) ((j4.getD v2.toNat default).end_) (((j4.getD v2.toNat default).l_)++[a4])) [(3,.any),(3,.any),(3,.row 50 3 (((j4.getD v2.toNat default).l_)++[a4]).length (eF aH (((j4.getD v2.toNat default).l_)++[a4])))],.rn 0 40000] <| .ret 0 (.inr (.inr (j4.set ((v2).toNat) (aT.mk ((j4.getD v2.toNat default).key_) ((j4.getD v2.toNat default).begin_) ((j4.getD v2.toNat default).end_) (((j4.getD v2.toNat default).l_)++[a4])))))) (.ret 3 (.inl (j4,i64.wrap (v2+1))))) (.ret 0 (.inr (.inl v1)))
def Xs(a1:List aE)(a2:Int)(a3:Int)(a4:aB)(qul:List aT):TP (List aT):=.cv 3 [.rn 30000 0] <| .lp 0 (fun (v1,v2)=>⟨[(0,.own 0),(1,tV a1),(2,tI a2),(3,tI a3),(9,.ptr 9 0),(11,tI v2)],[(0,.arm 209 4 v1.length (eJ cP v1) none),(9,.box ((aH a4).map .t))]⟩) (fun b3=>⟨[(0,.own 0),(1,tV a1),(2,tI a2),(3,tI a3),(9,.ptr 9 0)],[(0,.arm 209 4 b3.length (eJ cP b3) none),(9,.box ((aH a4).map .t))]⟩) 0 (qul,0) (Js a1 a2 a3 a4) fun b3=>.bs 5 true aH [a4] <| .cv 2 [.mg 63 61,.la 63 cP ([(aT.mk a1 a2 a3 ([a4]:LD))]:List aT)] <| .grd 1 ((b3.length+([(aT.mk a1 a2 a3 ([a4]:LD))]:List aT).length)*64<=140737488355328) <| .cv 0 [.apr 64 cP b3 ([(aT.mk a1 a2 a3 ([a4]:LD))]:List aT)] <| .cv 1 [.rn 64 40000] <| .ret 0 (b3++([(aT.mk a1 a2 a3 ([a4]:LD))]:List aT))
def Vt(a1:List aE)(a2:Int)(a3:Int)(a4:aB)(qul:List aT):=(Xs a1 a2 a3 a4 qul).den
theorem As(M:List aE)(a2:Int)(J:Int)(G:aB)(D:List aT):eT Tryz.prog 191 [.own 30000,tV M,tI a2,tI J,.t (cH G)] [(30000,.arm 209 4 D.length (eJ cP D) none)] [] (Vt M a2 J G D) (fun y=>.own 40000) (fun y=>[(40000,.arm 209 4 y.length (eJ cP y) none)]):=lR Tryz.func191 aZ (Xs M a2 J G D)
def Ez(a0:aG)(a1:LD):((List aT)×Int)->TP (((List aT)×Int)⊕((List aT)⊕(List aT)))
 | (v1,v2)=>.ite 4 (decide (v2<a1.length)) (.dg 2 (0<=v2/\v2<a1.length) <| .dc 7 [tI ((a1.getD v2.toNat default).Time),tI a0.Size] (aBF ((a1.getD v2.toNat default).Time) a0.Size) fun r4=>.dr 0 0 [(2,false,[]),(5,false,[])] [1,2,5,6,8,9,10,11] <| .dg 3 (0<=v2/\v2<a1.length) <| .dc 8 [tV ((a1.getD v2.toNat default).Row),.t (eL bI (a0.Key))] (qF ((a1.getD v2.toNat default).Row) a0.Key) fun r5=>.dg 16 (0<=v2/\v2<a1.length) <| .dr 0 2 [(2,false,[]),(5,false,[])] [1,2,5,6,7,8,9,10,11,14,15,16,17,18,19,20,21,22,23,24] <| .cv 0 [.rn 5 30000] <| .ch 0 [40000] (As r5 (i64.wrap (r4*a0.Size)) (i64.wrap ((i64.wrap (r4*a0.Size))+a0.Size)) (a1.getD v2.toNat default) v1) fun r6=>.cv 0 [.rn 40000 43] <| .cv 4 [.rn 43 5] <| .ret 0 (.inl (r6,i64.wrap (v2+1)))) (.ret 0 (.inr (.inl v1)))
def bCP(a0:aG)(a1:LD):TP (List aT):=.cv 4 [.tha 5 5 209 4 (eJ cP ([]:List aT))] <| .lp 0 (fun (v1,v2)=>⟨[(1,tD a1),(2,.ptr 2 0),(5,.own 5),(6,tI v2)],[(2,bN a0),(5,.arm 209 4 v1.length (eJ cP v1) none)]⟩) (fun b3=>⟨[(5,.own 5)],[(5,.arm 209 4 b3.length (eJ cP b3) none)]⟩) 0 (([]:List aT),0) (Ez a0 a1) fun b3=>.cv 2 [.fza 5 cP cB b3] <| .ret 0 b3
def aZW(a0:aG)(a1:LD):=(bCP a0 a1).den
theorem Yd(G:aG)(D:LD):Con Tryz.prog 188 [.t (dD G),tD D] (aZW G D) (fun y=>.t (eL cB y)):=con Tryz.func188 aZ (bCP G D)
def Er(a0:aG)(a1:aT):((List aT)×Int)->TP (((List aT)×Int)⊕((List aT)⊕(List aT)))
 | (v1,v2)=>.ite 5 (decide (v2<a1.l_.length)) (.grd 4 (0<=v2/\v2<a1.l_.length) <| .jn 12 0 (fun (j4,j5)=>⟨[(2,.ptr 2 0),(3,.ptr 3 0),(5,.own 5),(6,tI v2),(7,.ptr 7 0),(8,tI (if a1.end_<(i64.wrap (((a1.l_.getD v2.toNat default).Time)+a0.Step)) then a1.end_ else (i64.wrap (((a1.l_.getD v2.toNat default).Time)+a0.Step)))),(47,tB j5)],[(2,bN a0),(3,.box ((cB a1).map .t)),(5,.arm 209 4 j4.length (eJ cP j4) none),(7,.box ((aH (a1.l_.getD v2.toNat default)).map .t))]⟩) (.dl 2 (decide (v2>0)) (.dg 10 (0<=(if (0:Int)>(i64.wrap (v2-1)) then (0:Int) else (i64.wrap (v2-1)))/\(if (0:Int)>(i64.wrap (v2-1)) then (0:Int) else (i64.wrap (v2-1)))<a1.l_.length) <| .dr 0 0 [(2,false,[]),(3,false,[]),(5,false,[]),(7,false,[])] [2,3,5,6,7,8,10,11,12,13,14,17,18,19,20,21,22,23,24,25,26,27,28,29] <| .ret 0 (v1,decide ((i64.wrap (((a1.l_.getD v2.toNat default).Time)-((a1.l_.getD (if (0:Int)>(i64.wrap (v2-1)) then (0:Int) else (i64.wrap (v2-1))).toNat default).Time)))<a0.Step))) (.dr 0 0 [(2,false,[]),(3,false,[]),(5,false,[]),(7,false,[])] [2,3,5,6,7,8,10,11,12,13,14,17,18,19,20,21,22,23,24,25,26,27,28,29] <| .ret 0 (v1,false))) fun (j4,j5)=>.jn 0 0 (fun j6=>⟨[(2,.ptr 2 0),(3,.ptr 3 0),(5,.own 5),(6,tI v2)],[(2,bN a0),(3,.box ((cB a1).map .t)),(5,.arm 209 4 j6.length (eJ cP j6) none)]⟩) (.ite 0 j5 (.foc 4 5 20053 ((i64.wrap ((j4.length:Int)-1)).toNat) 3 cP j4 <| .dg 4 (0<=(i64.wrap ((j4.length:Int)-1))/\(i64.wrap ((j4.length:Int)-1))<j4.length) <| .dg 6 ((i64.wrap ((j4.length:Int)-1)).toNat<j4.length/\(i64.wrap ((j4.length:Int)-1)).toNat=(i64.wrap ((j4.length:Int)-1)).toNat/\True) <| .dg 9 ((((j4.getD (i64.wrap ((j4.length:Int)-1)).toNat default).l_).length+1)*40<=140737488355328) <| .dg 10 (0<=(i64.wrap ((j4.length:Int)-1))/\(i64.wrap ((j4.length:Int)-1))<j4.length) <| .dg 12 ((i64.wrap ((j4.length:Int)-1)).toNat<j4.length) <| .dr 0 0 [(60,true,[9]),(2,false,[]),(3,false,[]),(5,false,[12]),(7,false,[]),(20053,false,[9])] [2,3,5,6,7,8,9,47,48,49,50] <| .cv 0 [.apl 60 aH ((j4.getD (i64.wrap ((j4.length:Int)-1)).toNat default).l_) [a1.l_.getD v2.toNat default]] <| .grd 4 (0<=(i64.wrap ((j4.length:Int)-1))/\(i64.wrap ((j4.length:Int)-1))<j4.length) <| .grd 2 ((i64.wrap ((j4.length:Int)-1)).toNat<j4.length) <| .cv 0 [.mg 5 60,.upr 5 cP j4 ((i64.wrap ((j4.length:Int)-1)).toNat) (aT.mk ((j4.getD (i64.wrap ((j4.length:Int)-1)).toNat default).key_) ((j4.getD (i64.wrap ((j4.length:Int)-1)).toNat default).begin_) (if a1.end_<(i64.wrap (((a1.l_.getD v2.toNat default).Time)+a0.Step)) then a1.end_ else (i64.wrap (((a1.l_.getD v2.toNat default).Time)+a0.Step))) (((j4.getD (i64.wrap ((j4.length:Int)-1)).toNat default).l_)++[a1.l_.getD v2.toNat default])) [(3,.any),(3,.any),(2,.d (.int .i64 (if a1.end_<(i64.wrap (((a1.l_.getD v2.toNat default).Time)+a0.Step)) then a1.end_ else (i64.wrap (((a1.l_.getD v2.toNat default).Time)+a0.Step))))),(3,.row 50 3 (((j4.getD (i64.wrap ((j4.length:Int)-1)).toNat default).l_)++[a1.l_.getD v2.toNat default]).length (eF aH (((j4.getD (i64.wrap ((j4.length:Int)-1)).toNat default).l_)++[a1.l_.getD v2.toNat default])))]] <| .ret 0 (j4.set ((i64.wrap ((j4.length:Int)-1)).toNat) (aT.mk ((j4.getD (i64.wrap ((j4.length:Int)-1)).toNat default).key_) ((j4.getD (i64.wrap ((j4.length:Int)-1)).toNat default).begin_) (if a1.end_<(i64.wrap (((a1.l_.getD v2.toNat default).Time)+a0.Step)) then a1.end_ else (i64.wrap (((a1.l_.getD v2.toNat default).Time)+a0.Step))) (((j4.getD (i64.wrap ((j4.length:Int)-1)).toNat default).l_)++[a1.l_.getD v2.toNat default])))) (.bs 7 true aH [a1.l_.getD v2.toNat default] <| .cv 2 [.mg 77 75,.la 77 cP ([(aT.mk a1.key_ ((a1.l_.getD v2.toNat default).Time) (if a1.end_<(i64.wrap (((a1.l_.getD v2.toNat default).Time)+a0.Step)) then a1.end_ else (i64.wrap (((a1.l_.getD v2.toNat default).Time)+a0.Step))) ([a1.l_.getD v2.toNat default]:LD))]:List aT)] <| .grd 1 ((j4.length+([(aT.mk a1.key_ ((a1.l_.getD v2.toNat default).Time) (if a1.end_<(i64.wrap (((a1.l_.getD v2.toNat default).Time)+a0.Step)) then a1.end_ else (i64.wrap (((a1.l_.getD v2.toNat default).Time)+a0.Step))) ([a1.l_.getD v2.toNat default]:LD))]:List aT).length)*64<=140737488355328) <| .cv 0 [.apr 78 cP j4 ([(aT.mk a1.key_ ((a1.l_.getD v2.toNat default).Time) (if a1.end_<(i64.wrap (((a1.l_.getD v2.toNat default).Time)+a0.Step)) then a1.end_ else (i64.wrap (((a1.l_.getD v2.toNat default).Time)+a0.Step))) ([a1.l_.getD v2.toNat default]:LD))]:List aT)] <| .cv 1 [.rn 78 5] <| .ret 0 (j4++([(aT.mk a1.key_ ((a1.l_.getD v2.toNat default).Time) (if a1.end_<(i64.wrap (((a1.l_.getD v2.toNat default).Time)+a0.Step)) then a1.end_ else (i64.wrap (((a1.l_.getD v2.toNat default).Time)+a0.Step))) ([a1.l_.getD v2.toNat default]:LD))]:List aT)))) fun j6=>.ret 3 (.inl (j6,i64.wrap (v2+1)))) (.ret 0 (.inr (.inl v1)))
def aWE(a0:aG)(a1:aT):TP (List aT):=.cv 5 [.tha 5 5 209 4 (eJ cP ([]:List aT))] <| .lp 0 (fun (v1,v2)=>⟨[(2,.ptr 2 0),(3,.ptr 3 0),(5,.own 5),(6,tI v2)],[(2,bN a0),(3,.box ((cB a1).map .t)),(5,.arm 209 4 v1.length (eJ cP v1) none)]⟩) (fun b3=>⟨[(5,.own 5)],[(5,.arm 209 4 b3.length (eJ cP b3) none)]⟩) 0 (([]:List aT),0) (Er a0 a1) fun b3=>.cv 2 [.fza 5 cP cB b3] <| .ret 0 b3
def aZL(a0:aG)(a1:aT):=(aWE a0 a1).den
theorem aRX(G:aG)(D:aT):Con Tryz.prog 247 [.t (dD G),.t (Dh D)] (aZL G D) (fun y=>.t (eL cB y)):=con Tryz.func247 aZ (aWE G D)
def zT(a0:aG)(a1:LD)(v2:Int):((List aT)×Int)->TP (((List aT)×Int)⊕((List aT)⊕(((List aT)×Int)⊕((List aT)⊕(List aT)))))
 | (v5,v6)=>.dg 9 (0<=v2/\v2<a1.length) <| .dr 0 0 [(2,false,[]),(5,false,[])] [1,2,5,6,7] <| .ite 0 (decide ((i64.wrap ((i64.wrap (v6*a0.Step))+a0.Size))>((a1.getD v2.toNat default).Time))) (.dg 3 (0<=v2/\v2<a1.length) <| .dc 8 [tV ((a1.getD v2.toNat default).Row),.t (eL bI (a0.Key))] (qF ((a1.getD v2.toNat default).Row) a0.Key) fun r8=>.dg 22 (0<=v2/\v2<a1.length) <| .dr 0 2 [(2,false,[]),(5,false,[])] [1,2,5,6,7,27,28,29,30,31,32,33,34,35,36,37,38,39] <| .cv 0 [.rn 5 30000] <| .ch 0 [40000] (As r8 (i64.wrap (v6*a0.Step)) (i64.wrap ((i64.wrap (v6*a0.Step))+a0.Size)) (a1.getD v2.toNat default) v5) fun r9=>.cv 0 [.rn 40000 64] <| .cv 4 [.rn 64 5] <| .ret 0 (.inl (r9,i64.wrap (v6-1)))) (.ret 0 (.inr (.inl v5)))
def Ee(a0:aG)(a1:LD):((List aT)×Int)->TP (((List aT)×Int)⊕((List aT)⊕(List aT)))
 | (v1,v2)=>.ite 4 (decide (v2<a1.length)) (.dg 2 (0<=v2/\v2<a1.length) <| .dc 7 [tI ((a1.getD v2.toNat default).Time),tI a0.Step] (aBF ((a1.getD v2.toNat default).Time) a0.Step) fun r4=>.dr 0 0 [(2,false,[]),(5,false,[])] [1,2,5,6,13,14,15,16] <| .lp 0 (fun (v5,v6)=>⟨[(1,tD a1),(2,.ptr 2 0),(5,.own 5),(6,tI v2),(7,tI v6)],[(2,bN a0),(5,.arm 209 4 v5.length (eJ cP v5) none)]⟩) (fun b7=>⟨[(1,tD a1),(2,.ptr 2 0),(5,.own 5),(6,tI v2)],[(2,bN a0),(5,.arm 209 4 b7.length (eJ cP b7) none)]⟩) 2 (v1,r4) (zT a0 a1 v2) fun b7=>.ret 3 (.inl (b7,i64.wrap (v2+1)))) (.ret 0 (.inr (.inl v1)))
def Dy(a0:aG)(r10:(List aT)):((List aT)×Int)->TP (((List aT)×Int)⊕((List aT)⊕(List aT)))
 | (v11,v12)=>.ite 4 (decide (v12<r10.length)) (.dg 4 (0<=v12/\v12<r10.length) <| .dc 6 [.t (dD a0),.t (Dh (r10.getD v12.toNat default))] (aRX a0 (r10.getD v12.toNat default)) fun r14=>.dg 7 ((v11.length+r14.length)*64<=140737488355328) <| .dr 0 0 [(88,true,[7]),(2,false,[]),(5,false,[7])] [2,5,8,9,75,76,77,78] <| .cv 0 [.ap 88 cB v11 r14] <| .cv 3 [.rn 88 5] <| .ret 0 (.inl (v11++r14,i64.wrap (v12+1)))) (.ret 0 (.inr (.inl v11)))
def bAM(a0:aG)(a1:LD):TP (List aT):=.ite 6 (a0.Kind==1) (.cv 1 [.tha 5 5 209 4 (eJ cP ([]:List aT))] <| .lp 0 (fun (v1,v2)=>⟨[(1,tD a1),(2,.ptr 2 0),(5,.own 5),(6,tI v2)],[(2,bN a0),(5,.arm 209 4 v1.length (eJ cP v1) none)]⟩) (fun b3=>⟨[(5,.own 5)],[(5,.arm 209 4 b3.length (eJ cP b3) none)]⟩) 0 (([]:List aT),0) (Ee a0 a1) fun b3=>.cv 2 [.fza 5 cP cB b3] <| .ret 0 b3) (.ca 2 (Yd a0 a1) fun r10=>.ite 4 (a0.Kind==0) (.ret 2 r10) (.cv 1 [.th 5 5 209 4 (eF cB ([]:List aT))] <| .lp 0 (fun (v11,v12)=>⟨[(2,.ptr 2 0),(5,.own 5),(8,.t (eL cB r10)),(9,tI v12)],[(2,bN a0),(5,.arr 209 4 (v11.length) (eF cB v11))]⟩) (fun b13=>⟨[(5,.own 5)],[(5,.arr 209 4 (b13.length) (eF cB b13))]⟩) 4 (([]:List aT),0) (Dy a0 r10) fun b13=>.cv 2 [.fr 5 (eL cB b13)] <| .ret 0 b13))
def bBK(a0:aG)(a1:LD):=(bAM a0 a1).den
theorem aNJ(G:aG)(D:LD):Con Tryz.prog 186 [.t (dD G),tD D] (bBK G D) (fun y=>.t (eL cB y)):=con Tryz.func186 aZ (bAM G D)
def Du(a0:gO)(a1:LD):(Int×Int×ByteArray×Int×Int)->TP ((Int×Int×ByteArray×Int×Int)⊕((Int×Int×ByteArray×Int)⊕aE))
 | (v1,v2,v3,v4,v5)=>.ite 4 (decide (v5<a1.length)) (.jn 0 3 (fun (j10,j11,j12,j13)=>⟨[(1,tD a1),(2,.ptr 2 0),(4,.ptr 4 0),(5,tI j13),(6,.ptr 6 0),(7,tI v5)],[(2,.box ((gU a0).map .t)),(4,.box [tI 0,tI 0,.t (.str (⟨#[]⟩))]),(6,.box [tI j10,tI j11,.t (.str j12)])]⟩) (.ite 3 (a0.Kind==0) (.grd 4 (0<=v5/\v5<a1.length) <| .ret 4 (v1,v2,v3,i64.wrap (v4+((a1.getD v5.toNat default).N)))) (.dg 2 (0<=v5/\v5<a1.length) <| .dg 7 (0<=a0.Col/\a0.Col<(((a1.getD v5.toNat default).Row).length:Int)) <| .dr 0 0 [(8,true,[9,10]),(2,false,[]),(4,false,[]),(6,false,[])] [1,2,4,5,6,7,10,11,12,13,16,17,18] <| .ite 3 (a0.Kind==1) (.dg 3 (0<=v5/\v5<a1.length) <| .dr 0 0 [(2,false,[]),(4,false,[]),(6,false,[]),(8,false,[])] [1,2,4,5,6,7,8,10,11,12,13,16,17,18,26,27,28,29,30,31,32,33,34,35,36,37] <| .ret 0 (v1,v2,v3,i64.wrap (v4+(i64.wrap (((a1.getD v5.toNat default).N)*((((a1.getD v5.toNat default).Row).getD (a0.Col).toNat default).N)))))) (.ca 2 (Nt (((a1.getD v5.toNat default).Row).getD (a0.Col).toNat default) (aE.mk v1 v2 v3)) fun r14=>.jn 4 0 (fun j15=>⟨[(1,tD a1),(2,.ptr 2 0),(4,.ptr 4 0),(5,tI v4),(6,.ptr 6 0),(7,tI v5),(8,.ptr 8 0),(70,tB j15)],[(2,.box ((gU a0).map .t)),(4,.box [tI 0,tI 0,.t (.str (⟨#[]⟩))]),(6,.box [tI v1,tI v2,.t (.str v3)]),(8,.box ((aR (((a1.getD v5.toNat default).Row).getD (a0.Col).toNat default)).map .t))]⟩) (.ite 0 (v5==0) (.ret 17 true) (.ite 4 (a0.Kind==2) (.ite 5 (decide (r14<0)) (.ret 8 true) (.ite 4 (a0.Kind==3) (.ret 4 (decide (r14>0))) (.ret 4 false))) (.ite 9 (a0.Kind==3) (.ret 4 (decide (r14>0))) (.ret 4 false)))) fun j15=>.jn 0 0 (fun (j16,j17,j18)=>⟨[(1,tD a1),(2,.ptr 2 0),(4,.ptr 4 0),(5,tI v4),(6,.ptr 6 0),(7,tI v5)],[(2,.box ((gU a0).map .t)),(4,.box [tI 0,tI 0,.t (.str (⟨#[]⟩))]),(6,.box [tI j16,tI j17,.t (.str j18)])]⟩) (.ite 0 j15 (.ret 2 ((((a1.getD v5.toNat default).Row).getD (a0.Col).toNat default).Kind,(((a1.getD v5.toNat default).Row).getD (a0.Col).toNat default).N,(((a1.getD v5.toNat default).Row).getD (a0.Col).toNat default).S)) (.ret 0 (v1,v2,v3))) fun (j16,j17,j18)=>.ret 0 (j16,j17,j18,v4)))) fun (j10,j11,j12,j13)=>.ret 3 (.inl (j10,j11,j12,j13,i64.wrap (v5+1)))) (.ret 0 (.inr (.inl (v1,v2,v3,v4))))
def aYF(a0:gO)(a1:LD):TP aE:=.lp 5 (fun (v1,v2,v3,v4,v5)=>⟨[(1,tD a1),(2,.ptr 2 0),(4,.ptr 4 0),(5,tI v4),(6,.ptr 6 0),(7,tI v5)],[(2,.box ((gU a0).map .t)),(4,.box [tI 0,tI 0,.t (.str (⟨#[]⟩))]),(6,.box [tI v1,tI v2,.t (.str v3)])]⟩) (fun (b6,b7,b8,b9)=>⟨[(2,.ptr 2 0),(4,.ptr 4 0),(5,tI b9),(6,.ptr 6 0)],[(2,.box ((gU a0).map .t)),(4,.box [tI 0,tI 0,.t (.str (⟨#[]⟩))]),(6,.box [tI b6,tI b7,.t (.str b8)])]⟩) 0 (0,0,⟨#[]⟩,0,0) (Du a0 a1) fun (b6,b7,b8,b9)=>.jn 4 0 (fun j19=>⟨[(4,.ptr 4 0),(5,tI b9),(6,.ptr 6 0),(79,tB j19)],[(4,.box [tI 0,tI 0,.t (.str (⟨#[]⟩))]),(6,.box [tI b6,tI b7,.t (.str b8)])]⟩) (.ite 0 (a0.Kind==0) (.ret 4 true) (.ret 4 (a0.Kind==1))) fun j19=>.ite 0 j19 (.ret 3 (aE.mk 0 b9 (⟨#[]⟩))) (.ret 2 (aE.mk b6 b7 b8))
def aWY(a0:gO)(a1:LD):=(aYF a0 a1).den
theorem aTC(G:gO)(D:LD):Con Tryz.prog 187 [.t (aFL G),tD D] (aWY G D) (fun y=>.t (bZ y)):=con Tryz.func187 aZ (aYF G D)
def xL(a0:aG)(r1:(List aT))(v3:Int):(LD×(List aE)×Int)->TP ((LD×(List aE)×Int)⊕((LD×(List aE))⊕((LD×Int)⊕((LD)⊕LD))))
 | (v5,v6,v7)=>.ite 5 (decide (v7<a0.Aggs.length)) (.dg 4 (0<=v7/\v7<a0.Aggs.length) <| .dc 8 [.t (aFL (a0.Aggs.getD v7.toNat default)),tD ((r1.getD v3.toNat default).l_)] (aTC (a0.Aggs.getD v7.toNat default) ((r1.getD v3.toNat default).l_)) fun r10=>.dg 10 ((v6.length+1)*32<=140737488355328) <| .dr 0 0 [(50,true,[10]),(2,false,[]),(5,false,[]),(8,false,[]),(9,false,[10])] [2,5,6,7,8,9,10,33,34,35,36,37] <| .cv 0 [.apl 50 aR v6 [r10]] <| .cv 3 [.rn 50 9] <| .ret 0 (.inl (v5,v6++[r10],i64.wrap (v7+1)))) (.ret 0 (.inr (.inl (v5,v6))))
def Dg(a0:aG)(r1:(List aT)):(LD×Int)->TP ((LD×Int)⊕((LD)⊕LD))
 | (v2,v3)=>.ite 4 (decide (v3<r1.length)) (.grd 3 (0<=v3/\v3<r1.length) <| .dg 3 ((0+((r1.getD v3.toNat default).key_).length)*32<=140737488355328) <| .dg 8 ((((r1.getD v3.toNat default).key_).length+1)*32<=140737488355328) <| .dr 3 0 [(24,true,[0,3]),(27,true,[3,8]),(32,true,[8]),(2,false,[]),(5,false,[]),(8,false,[])] [2,5,6,7,8,14,15,16,17,20,21,22,23] <| .cv 0 [.apl 32 aR ((r1.getD v3.toNat default).key_) [(aE.mk 0 ((r1.getD v3.toNat default).begin_) (⟨#[]⟩))]] <| .cv 1 [.rn 32 9] <| .lp 0 (fun (v5,v6,v7)=>⟨[(2,.ptr 2 0),(5,.own 5),(6,.t (eL cB r1)),(7,tI v3),(8,.ptr 8 0),(9,.own 9),(10,tI v7)],[(2,bN a0),(5,aD v5),(8,.box ((cB (r1.getD v3.toNat default)).map .t)),(9,.arr 67 3 (v6.length) (eF aR v6))]⟩) (fun (b8,b9)=>⟨[(2,.ptr 2 0),(5,.own 5),(6,.t (eL cB r1)),(7,tI v3),(8,.ptr 8 0),(9,.own 9)],[(2,bN a0),(5,aD b8),(8,.box ((cB (r1.getD v3.toNat default)).map .t)),(9,.arr 67 3 (b9.length) (eF aR b9))]⟩) 2 (v2,((r1.getD v3.toNat default).key_)++[(aE.mk 0 ((r1.getD v3.toNat default).begin_) (⟨#[]⟩))],0) (xL a0 r1 v3) fun (b8,b9)=>.cv 5 [.fr 9 (eL aR b9)] <| .bs 1 false aH [(aB.mk (i64.wrap (((r1.getD v3.toNat default).end_)-1)) b9 1)] <| .grd 1 ((b8.length+[(aB.mk (i64.wrap (((r1.getD v3.toNat default).end_)-1)) b9 1)].length)*40<=140737488355328) <| .cv 0 [.ap 58 aH b8 [(aB.mk (i64.wrap (((r1.getD v3.toNat default).end_)-1)) b9 1)]] <| .cv 4 [.rn 58 5] <| .ret 0 (.inl (b8++[(aB.mk (i64.wrap (((r1.getD v3.toNat default).end_)-1)) b9 1)],i64.wrap (v3+1)))) (.ret 0 (.inr (.inl v2)))
def aYA(a0:aG)(a1:LD):TP LD:=.ca 5 (aNJ a0 a1) fun r1=>.cv 2 [.th 5 5 50 3 (eF aH ([]:LD))] <| .lp 0 (fun (v2,v3)=>⟨[(2,.ptr 2 0),(5,.own 5),(6,.t (eL cB r1)),(7,tI v3)],[(2,bN a0),(5,aD v2)]⟩) (fun b4=>⟨[(5,.own 5)],[(5,aD b4)]⟩) 0 (([]:LD),0) (Dg a0 r1) fun b4=>.cv 2 [.fr 5 (eL aH b4)] <| .ret 0 b4
def bCX(a0:aG)(a1:LD):=(aYA a0 a1).den
theorem aUQ(G:aG)(D:LD):Con Tryz.prog 94 [.t (dD G),tD D] (bCX G D) tD:=con Tryz.func94 aZ (aYA G D)
def xK(a0:aG)(r1:(List aT))(v3:Int)(v6:Int)(v7:LD):(LD×Int×Int)->TP ((LD×Int×Int)⊕((LD×Int)⊕((LD×Int×LD)⊕((LD)⊕((LD×Int)⊕((LD)⊕LD))))))
 | (v11,v12,v13)=>.ite 4 (decide (v13<v7.length)) (.dg 2 (0<=v13/\v13<v7.length) <| .dg 7 (0<=a0.Step/\a0.Step<(((v7.getD v13.toNat default).Row).length:Int)) <| .dg 11 (0<=v12/\v12<v7.length) <| .dg 16 (0<=a0.Step/\a0.Step<(((v7.getD v12.toNat default).Row).length:Int)) <| .dc 18 [.t (bZ (((v7.getD v13.toNat default).Row).getD (a0.Step).toNat default)),.t (bZ (((v7.getD v12.toNat default).Row).getD (a0.Step).toNat default))] (Nt (((v7.getD v13.toNat default).Row).getD (a0.Step).toNat default) (((v7.getD v12.toNat default).Row).getD (a0.Step).toNat default)) fun r16=>.dr 0 0 [(2,false,[]),(5,false,[])] [2,5,6,7,8,9,10,11,38,39,40,41] <| .jn 0 0 (fun (j17,j18)=>⟨[(2,.ptr 2 0),(5,.own 5),(6,.t (eL cB r1)),(7,tI v3),(8,tI v6),(9,tD v7),(10,tI j18),(11,tI v13)],[(2,bN a0),(5,aD j17)]⟩) (.ite 0 (decide (r16>0)) (.ret 2 (v11,v13)) (.ret 0 (v11,v12))) fun (j17,j18)=>.ret 3 (.inl (j17,j18,i64.wrap (v13+1)))) (.ret 0 (.inr (.inl (v11,v12))))
def tQ(a0:aG)(r1:(List aT))(v3:Int):(LD×Int×LD)->TP ((LD×Int×LD)⊕((LD)⊕((LD×Int)⊕((LD)⊕LD))))
 | (v5,v6,v7)=>.jn 3 0 (fun (j9,j10)=>⟨[(2,.ptr 2 0),(5,.own 5),(6,.t (eL cB r1)),(7,tI v3),(8,tI v6),(9,tD v7),(37,tB j10)],[(2,bN a0),(5,aD j9)]⟩) (.ite 0 (decide (v6>0)) (.ret 4 (v5,decide ((v7.length:Int)>0))) (.ret 4 (v5,false))) fun (j9,j10)=>.ite 0 j10 (.lp 2 (fun (v11,v12,v13)=>⟨[(2,.ptr 2 0),(5,.own 5),(6,.t (eL cB r1)),(7,tI v3),(8,tI v6),(9,tD v7),(10,tI v12),(11,tI v13)],[(2,bN a0),(5,aD v11)]⟩) (fun (b14,b15)=>⟨[(2,.ptr 2 0),(5,.own 5),(6,.t (eL cB r1)),(7,tI v3),(8,tI v6),(9,tD v7),(10,tI b15)],[(2,bN a0),(5,aD b14)]⟩) 4 (j9,0,1) (xK a0 r1 v3 v6 v7) fun (b14,b15)=>.grd 3 (0<=b15/\b15<v7.length) <| .dg 3 (0<=v3/\v3<r1.length) <| .dg 15 ((b14.length+1)*40<=140737488355328) <| .dr 3 0 [(84,true,[15]),(2,false,[]),(5,false,[15]),(12,false,[])] [2,5,6,7,8,9,10,12,65,66,67,68] <| .cv 0 [.apl 84 aH b14 [(aB.mk (i64.wrap (((r1.getD v3.toNat default).end_)-1)) ((v7.getD b15.toNat default).Row) (if v6<((v7.getD b15.toNat default).N) then v6 else ((v7.getD b15.toNat default).N)))]] <| .dg 3 (0<=(0:Int)/\(0:Int)<=b15/\b15<=(v7.length:Int)) <| .dg 4 ((0+(b15-(0:Int)).toNat)*40<=140737488355328) <| .dg 8 (0<=(i64.wrap (b15+1):Int)/\(i64.wrap (b15+1):Int)<=(v7.length:Int)/\(v7.length:Int)<=(v7.length:Int)) <| .dg 9 (((b15-(0:Int)).toNat+((v7.length:Int)-(i64.wrap (b15+1):Int)).toNat)*40<=140737488355328) <| .dr 7 0 [(91,true,[0,4]),(95,true,[4,9]),(100,true,[9]),(2,false,[]),(12,false,[]),(84,false,[])] [2,5,6,7,8,9,10,12,65,66,67,68,70,71,72,73,74,75,76,77,78,79,80,81,82,83,84,85,86,87,88,89,90] <| .cv 0 [.sg 100 aH (.pt v7 ((0:Int).toNat) ((b15-(0:Int)).toNat)) [.pt v7 ((i64.wrap (b15+1):Int).toNat) (((v7.length:Int)-(i64.wrap (b15+1):Int)).toNat)]] <| .cv 0 [.rn 84 5,.fr 100 (eL aH ((part v7 ((0:Int).toNat) ((b15-(0:Int)).toNat))++(part v7 ((i64.wrap (b15+1):Int).toNat) (((v7.length:Int)-(i64.wrap (b15+1):Int)).toNat))))] <| .ret 0 (.inl (b14++[(aB.mk (i64.wrap (((r1.getD v3.toNat default).end_)-1)) ((v7.getD b15.toNat default).Row) (if v6<((v7.getD b15.toNat default).N) then v6 else ((v7.getD b15.toNat default).N)))],i64.wrap (v6-(if v6<((v7.getD b15.toNat default).N) then v6 else ((v7.getD b15.toNat default).N))),(part v7 ((0:Int).toNat) ((b15-(0:Int)).toNat))++(part v7 ((i64.wrap (b15+1):Int).toNat) (((v7.length:Int)-(i64.wrap (b15+1):Int)).toNat))))) (.ret 0 (.inr (.inl j9)))
def Dn(a0:aG)(r1:(List aT)):(LD×Int)->TP ((LD×Int)⊕((LD)⊕LD))
 | (v2,v3)=>.ite 4 (decide (v3<r1.length)) (.bs 3 true aH ([]:LD) <| .grd 3 (0<=v3/\v3<r1.length) <| .grd 3 ((([]:LD).length+((r1.getD v3.toNat default).l_).length)*40<=140737488355328) <| .cv 0 [.ap 30 aH ([]:LD) ((r1.getD v3.toNat default).l_)] <| .cv 1 [.fr 30 (eL aH (([]:LD)++((r1.getD v3.toNat default).l_)))] <| .lp 0 (fun (v5,v6,v7)=>⟨[(2,.ptr 2 0),(5,.own 5),(6,.t (eL cB r1)),(7,tI v3),(8,tI v6),(9,tD v7)],[(2,bN a0),(5,aD v5)]⟩) (fun b8=>⟨[(2,.ptr 2 0),(5,.own 5),(6,.t (eL cB r1)),(7,tI v3)],[(2,bN a0),(5,aD b8)]⟩) 2 (v2,a0.Keep,([]:LD)++((r1.getD v3.toNat default).l_)) (tQ a0 r1 v3) fun b8=>.ret 3 (.inl (b8,i64.wrap (v3+1)))) (.ret 0 (.inr (.inl v2)))
def aYX(a0:aG)(a1:LD):TP LD:=.ca 5 (Yd a0 a1) fun r1=>.cv 2 [.th 5 5 50 3 (eF aH ([]:LD))] <| .lp 0 (fun (v2,v3)=>⟨[(2,.ptr 2 0),(5,.own 5),(6,.t (eL cB r1)),(7,tI v3)],[(2,bN a0),(5,aD v2)]⟩) (fun b4=>⟨[(5,.own 5)],[(5,aD b4)]⟩) 0 (([]:LD),0) (Dn a0 r1) fun b4=>.cv 2 [.fr 5 (eL aH b4)] <| .ret 0 b4
def aWC(a0:aG)(a1:LD):=(aYX a0 a1).den
theorem aQK(G:aG)(D:LD):Con Tryz.prog 95 [.t (dD G),tD D] (aWC G D) tD:=con Tryz.func95 aZ (aYX G D)
def bBI(a0:aB)(a1:aB)(a2:Int)(a3:Int):TP aB:=.dg 4 ((0+a0.Row.length)*32<=140737488355328) <| .dg 7 ((a0.Row.length+a1.Row.length)*32<=140737488355328) <| .dr 3 0 [(10,true,[1,4]),(13,true,[4,7]),(16,true,[7]),(4,false,[]),(5,false,[]),(8,false,[10])] [0,1,2,3,4,5,8] <| .cv 0 [.ap 16 aR a0.Row a1.Row] <| .cv 0 [.fr 16 (eL aR (a0.Row++a1.Row))] <| .ret 0 (aB.mk a2 (a0.Row++a1.Row) a3)
def aUM(a0:aB)(a1:aB)(a2:Int)(a3:Int):=(bBI a0 a1 a2 a3).den
theorem aAO(J:aB)(G:aB)(a2:Int)(D:Int):Con Tryz.prog 190 [.t (cH J),.t (cH G),tI a2,tI D] (aUM J G a2 D) (fun y=>.t (cH y)):=con Tryz.func190 aZ (bBI J G a2 D)
def xO(a0:aG)(a1:LD)(a2:LD)(v2:Int):(LD×Int)->TP ((LD×Int)⊕((LD)⊕((LD×Int)⊕((LD)⊕LD))))
 | (v4,v5)=>.ite 4 (decide (v5<a2.length)) (.jn 0 0 (fun (j7,j8)=>⟨[(1,tD a1),(2,tD a2),(3,.ptr 3 0),(7,.own 7),(8,tI v2),(9,tI v5),(70,tB j8)],[(3,bN a0),(7,aD j7)]⟩) (.dg 2 (0<=v2/\v2<a1.length) <| .dc 7 [tV ((a1.getD v2.toNat default).Row),.t (eL bI (a0.Key))] (qF ((a1.getD v2.toNat default).Row) a0.Key) fun r9=>.dg 10 (0<=v5/\v5<a2.length) <| .dc 15 [tV ((a2.getD v5.toNat default).Row),.t (eL bI (a0.Key2))] (qF ((a2.getD v5.toNat default).Row) a0.Key2) fun r10=>.dc 16 [tV r9,tV r10] (oB r9 r10) fun r11=>.dl 17 r11 (.dg 20 (0<=v2/\v2<a1.length) <| .dg 28 (0<=v5/\v5<a2.length) <| .dl 33 (decide ((i64.wrap (((a1.getD v2.toNat default).Time)-a0.Before))<=((a2.getD v5.toNat default).Time))) (.dg 36 (0<=v5/\v5<a2.length) <| .dg 41 (0<=v2/\v2<a1.length) <| .dr 0 0 [(3,false,[]),(7,false,[])] [1,2,3,7,8,9,16,17,18,19] <| .ret 0 (v4,decide (((a2.getD v5.toNat default).Time)<=(i64.wrap (((a1.getD v2.toNat default).Time)+a0.After))))) (.dr 0 0 [(3,false,[]),(7,false,[])] [1,2,3,7,8,9,16,17,18,19] <| .ret 0 (v4,false))) (.dr 0 0 [(3,false,[]),(7,false,[])] [1,2,3,7,8,9,16,17,18,19] <| .ret 0 (v4,false))) fun (j7,j8)=>.jn 0 0 (fun j12=>⟨[(1,tD a1),(2,tD a2),(3,.ptr 3 0),(7,.own 7),(8,tI v2),(9,tI v5)],[(3,bN a0),(7,aD j12)]⟩) (.ite 0 j8 (.dg 3 (0<=v2/\v2<a1.length) <| .dg 7 (0<=v5/\v5<a2.length) <| .dg 11 (0<=v2/\v2<a1.length) <| .dg 16 (0<=v5/\v5<a2.length) <| .dg 22 (0<=v2/\v2<a1.length) <| .dg 27 (0<=v5/\v5<a2.length) <| .dc 31 [.t (cH (a1.getD v2.toNat default)),.t (cH (a2.getD v5.toNat default)),tI (if ((a2.getD v5.toNat default).Time)>((a1.getD v2.toNat default).Time) then ((a2.getD v5.toNat default).Time) else ((a1.getD v2.toNat default).Time)),tI (i64.wrap (((a1.getD v2.toNat default).N)*((a2.getD v5.toNat default).N)))] (aAO (a1.getD v2.toNat default) (a2.getD v5.toNat default) (if ((a2.getD v5.toNat default).Time)>((a1.getD v2.toNat default).Time) then ((a2.getD v5.toNat default).Time) else ((a1.getD v2.toNat default).Time)) (i64.wrap (((a1.getD v2.toNat default).N)*((a2.getD v5.toNat default).N)))) fun r13=>.dg 33 ((j7.length+1)*40<=140737488355328) <| .dr 0 0 [(104,true,[33]),(3,false,[]),(7,false,[33])] [1,2,3,7,8,9,70] <| .cv 0 [.apl 104 aH j7 [r13]] <| .cv 0 [.rn 104 7] <| .ret 0 (j7++[r13])) (.ret 0 j7)) fun j12=>.ret 3 (.inl (j12,i64.wrap (v5+1)))) (.ret 0 (.inr (.inl v4)))
def Em(a0:aG)(a1:LD)(a2:LD):(LD×Int)->TP ((LD×Int)⊕((LD)⊕LD))
 | (v1,v2)=>.ite 4 (decide (v2<a1.length)) (.lp 1 (fun (v4,v5)=>⟨[(1,tD a1),(2,tD a2),(3,.ptr 3 0),(7,.own 7),(8,tI v2),(9,tI v5)],[(3,bN a0),(7,aD v4)]⟩) (fun b6=>⟨[(1,tD a1),(2,tD a2),(3,.ptr 3 0),(7,.own 7),(8,tI v2)],[(3,bN a0),(7,aD b6)]⟩) 2 (v1,0) (xO a0 a1 a2 v2) fun b6=>.ret 3 (.inl (b6,i64.wrap (v2+1)))) (.ret 0 (.inr (.inl v1)))
def aWB(a0:aG)(a1:LD)(a2:LD):TP LD:=.cv 4 [.th 7 7 50 3 (eF aH ([]:LD))] <| .lp 0 (fun (v1,v2)=>⟨[(1,tD a1),(2,tD a2),(3,.ptr 3 0),(7,.own 7),(8,tI v2)],[(3,bN a0),(7,aD v1)]⟩) (fun b3=>⟨[(7,.own 7)],[(7,aD b3)]⟩) 0 (([]:LD),0) (Em a0 a1 a2) fun b3=>.cv 2 [.fr 7 (eL aH b3)] <| .ret 0 b3
def bAQ(a0:aG)(a1:LD)(a2:LD):=(aWB a0 a1 a2).den
theorem aVA(G:aG)(D:LD)(a2:LD):Con Tryz.prog 96 [.t (dD G),tD D,tD a2] (bAQ G D a2) tD:=con Tryz.func96 aZ (aWB G D a2)
def zC(a0:aG)(a1:LD)(a2:LD)(v2:Int):(LD×Int×Int)->TP ((LD×Int×Int)⊕((LD×Int)⊕((LD×Int)⊕((LD)⊕LD))))
 | (v4,v5,v6)=>.ite 4 (decide (v6<a2.length)) (.jn 0 0 (fun (j9,j10)=>⟨[(1,tD a1),(2,tD a2),(3,.ptr 3 0),(7,.own 7),(8,tI v2),(9,tI v5),(10,tI v6),(68,tB j10)],[(3,bN a0),(7,aD j9)]⟩) (.dg 2 (0<=v2/\v2<a1.length) <| .dc 7 [tV ((a1.getD v2.toNat default).Row),.t (eL bI (a0.Key))] (qF ((a1.getD v2.toNat default).Row) a0.Key) fun r11=>.dg 10 (0<=v6/\v6<a2.length) <| .dc 15 [tV ((a2.getD v6.toNat default).Row),.t (eL bI (a0.Key2))] (qF ((a2.getD v6.toNat default).Row) a0.Key2) fun r12=>.dc 16 [tV r11,tV r12] (oB r11 r12) fun r13=>.dl 17 r13 (.dg 20 (0<=v2/\v2<a1.length) <| .dg 28 (0<=v6/\v6<a2.length) <| .dl 33 (decide ((i64.wrap (((a1.getD v2.toNat default).Time)-a0.Keep))<((a2.getD v6.toNat default).Time))) (.dg 36 (0<=v6/\v6<a2.length) <| .dg 41 (0<=v2/\v2<a1.length) <| .dr 0 0 [(3,false,[]),(7,false,[])] [1,2,3,7,8,9,10,17,18,19,20] <| .ret 0 (v4,decide (((a2.getD v6.toNat default).Time)<=((a1.getD v2.toNat default).Time)))) (.dr 0 0 [(3,false,[]),(7,false,[])] [1,2,3,7,8,9,10,17,18,19,20] <| .ret 0 (v4,false))) (.dr 0 0 [(3,false,[]),(7,false,[])] [1,2,3,7,8,9,10,17,18,19,20] <| .ret 0 (v4,false))) fun (j9,j10)=>.jn 0 0 (fun (j14,j15)=>⟨[(1,tD a1),(2,tD a2),(3,.ptr 3 0),(7,.own 7),(8,tI v2),(9,tI j15),(10,tI v6)],[(3,bN a0),(7,aD j14)]⟩) (.ite 0 j10 (.ret 2 (j9,v6)) (.ret 0 (j9,v5))) fun (j14,j15)=>.ret 3 (.inl (j14,j15,i64.wrap (v6+1)))) (.ret 0 (.inr (.inl (v4,v5))))
def Dp(a0:aG)(a1:LD)(a2:LD):(LD×Int)->TP ((LD×Int)⊕((LD)⊕LD))
 | (v1,v2)=>.ite 4 (decide (v2<a1.length)) (.lp 2 (fun (v4,v5,v6)=>⟨[(1,tD a1),(2,tD a2),(3,.ptr 3 0),(7,.own 7),(8,tI v2),(9,tI v5),(10,tI v6)],[(3,bN a0),(7,aD v4)]⟩) (fun (b7,b8)=>⟨[(1,tD a1),(2,tD a2),(3,.ptr 3 0),(7,.own 7),(8,tI v2),(9,tI b8)],[(3,bN a0),(7,aD b7)]⟩) 2 (v1,(-1),0) (zC a0 a1 a2 v2) fun (b7,b8)=>.jn 2 0 (fun j16=>⟨[(1,tD a1),(2,tD a2),(3,.ptr 3 0),(7,.own 7),(8,tI v2)],[(3,bN a0),(7,aD j16)]⟩) (.ite 0 (decide (b8>=0)) (.dg 3 (0<=v2/\v2<a1.length) <| .dg 7 (0<=b8/\b8<a2.length) <| .dg 11 (0<=v2/\v2<a1.length) <| .dg 16 (0<=v2/\v2<a1.length) <| .dc 19 [.t (cH (a1.getD v2.toNat default)),.t (cH (a2.getD b8.toNat default)),tI ((a1.getD v2.toNat default).Time),tI ((a1.getD v2.toNat default).N)] (aAO (a1.getD v2.toNat default) (a2.getD b8.toNat default) ((a1.getD v2.toNat default).Time) ((a1.getD v2.toNat default).N)) fun r17=>.dg 21 ((b7.length+1)*40<=140737488355328) <| .dr 0 0 [(93,true,[21]),(3,false,[]),(7,false,[21])] [1,2,3,7,8,9,70,71] <| .cv 0 [.apl 93 aH b7 [r17]] <| .cv 0 [.rn 93 7] <| .ret 0 (b7++[r17])) (.ret 0 b7)) fun j16=>.ret 3 (.inl (j16,i64.wrap (v2+1)))) (.ret 0 (.inr (.inl v1)))
def bCV(a0:aG)(a1:LD)(a2:LD):TP LD:=.cv 4 [.th 7 7 50 3 (eF aH ([]:LD))] <| .lp 0 (fun (v1,v2)=>⟨[(1,tD a1),(2,tD a2),(3,.ptr 3 0),(7,.own 7),(8,tI v2)],[(3,bN a0),(7,aD v1)]⟩) (fun b3=>⟨[(7,.own 7)],[(7,aD b3)]⟩) 0 (([]:LD),0) (Dp a0 a1 a2) fun b3=>.cv 2 [.fr 7 (eL aH b3)] <| .ret 0 b3
def aXE(a0:aG)(a1:LD)(a2:LD):=(bCV a0 a1 a2).den
theorem aTN(G:aG)(D:LD)(a2:LD):Con Tryz.prog 97 [.t (dD G),tD D,tD a2] (aXE G D a2) tD:=con Tryz.func97 aZ (bCV G D a2)
def Lx(a0:List oH):((List Bool)×Int)->TP (((List Bool)×Int)⊕((List Bool)⊕(List Bool)))
 | (v1,v2)=>.ite 4 (decide (v2<a0.length)) (.grd 3 (0<=v2/\v2<v1.length) <| .grd 1 ((v2).toNat<v1.length) <| .jn 1 0 (fun (j4,j5)=>⟨[(0,.t (eL lW a0)),(1,.own 1),(5,tI v2),(23,tB j5)],[(1,.arr 4 1 (j4.length) (eF cD j4))]⟩) (.ite 0 (v1.getD v2.toNat default) (.grd 3 (0<=v2/\v2<a0.length) <| .ret 4 (v1,((a0.getD v2.toNat default).Rep)==2)) (.ret 7 (v1,false))) fun (j4,j5)=>.jn 0 0 (fun j6=>⟨[(0,.t (eL lW a0)),(1,.own 1),(5,tI v2)],[(1,.arr 4 1 (j6.length) (eF cD j6))]⟩) (.ite 0 j5 (.grd 4 (0<=(i64.wrap (v2+1))/\(i64.wrap (v2+1))<j4.length) <| .grd 1 ((i64.wrap (v2+1)).toNat<j4.length) <| .sto 0 1 cD j4 [((i64.wrap (v2+1)).toNat,true)] <| .ret 0 (j4.set (i64.wrap (v2+1)).toNat true)) (.ret 0 j4)) fun j6=>.ret 3 (.inl (j6,i64.wrap (v2+1)))) (.ret 0 (.inr (.inl v1)))
def Us(a0:List oH)(qul:List Bool):TP (List Bool):=.cv 2 [.rn 30000 1] <| .lp 0 (fun (v1,v2)=>⟨[(0,.t (eL lW a0)),(1,.own 1),(5,tI v2)],[(1,.arr 4 1 (v1.length) (eF cD v1))]⟩) (fun b3=>⟨[(1,.own 1)],[(1,.arr 4 1 (b3.length) (eF cD b3))]⟩) 0 (qul,0) (Lx a0) fun b3=>.cv 2 [.rn 1 40000] <| .ret 0 b3
def Wy(a0:List oH)(qul:List Bool):=(Us a0 qul).den
theorem Kt(G:List oH)(D:List Bool):eT Tryz.prog 248 [.t (eL lW G),.own 30000] [(30000,.arr 4 1 (D.length) (eF cD D))] [] (Wy G D) (fun y=>.own 40000) (fun y=>[(40000,.arr 4 1 (y.length) (eF cD y))]):=lR Tryz.func248 aZ (Us G D)
def Yi(a0:List oH)(a1:List Bool)(a2:List Bool):((List Bool)×Int)->TP (((List Bool)×Int)⊕((List Bool)⊕(List Bool)))
 | (v1,v2)=>.ite 4 (decide (v2<a0.length)) (.grd 3 (0<=v2/\v2<a1.length) <| .jn 2 0 (fun (j4,j5)=>⟨[(0,.t (eL lW a0)),(1,.t (eL cD a1)),(2,.t (eL cD a2)),(7,.own 7),(8,tI v2),(28,tB j5)],[(7,.arr 4 1 (j4.length) (eF cD j4))]⟩) (.ite 0 (a1.getD v2.toNat default) (.grd 3 (0<=v2/\v2<a2.length) <| .ret 2 (v1,a2.getD v2.toNat default)) (.ret 5 (v1,false))) fun (j4,j5)=>.jn 0 0 (fun j6=>⟨[(0,.t (eL lW a0)),(1,.t (eL cD a1)),(2,.t (eL cD a2)),(7,.own 7),(8,tI v2)],[(7,.arr 4 1 (j6.length) (eF cD j6))]⟩) (.ite 0 j5 (.grd 4 (0<=(i64.wrap (v2+1))/\(i64.wrap (v2+1))<j4.length) <| .grd 1 ((i64.wrap (v2+1)).toNat<j4.length) <| .sto 0 7 cD j4 [((i64.wrap (v2+1)).toNat,true)] <| .grd 3 (0<=v2/\v2<a0.length) <| .jn 3 0 (fun j7=>⟨[(0,.t (eL lW a0)),(1,.t (eL cD a1)),(2,.t (eL cD a2)),(7,.own 7),(8,tI v2)],[(7,.arr 4 1 (j7.length) (eF cD j7))]⟩) (.ite 0 (((a0.getD v2.toNat default).Rep)==1) (.grd 3 (0<=v2/\v2<(((j4.set (i64.wrap (v2+1)).toNat true).length):Int)) <| .grd 1 ((v2).toNat<(j4.set (i64.wrap (v2+1)).toNat true).length) <| .sto 0 7 cD (j4.set (i64.wrap (v2+1)).toNat true) [((v2).toNat,true)] <| .ret 0 ((j4.set (i64.wrap (v2+1)).toNat true).set v2.toNat true)) (.ret 0 (j4.set (i64.wrap (v2+1)).toNat true))) fun j7=>.ret 0 j7) (.ret 0 j4)) fun j6=>.ret 3 (.inl (j6,i64.wrap (v2+1)))) (.ret 0 (.inr (.inl v1)))
def aYP(a0:List oH)(a1:List Bool)(a2:List Bool):TP (List Bool):=.mks 4 cD 1 (i64.wrap ((a0.length:Int)+1)) (i64.wrap ((a0.length:Int)+1)) <| .cv 2 [.rn 12 7] <| .lp 0 (fun (v1,v2)=>⟨[(0,.t (eL lW a0)),(1,.t (eL cD a1)),(2,.t (eL cD a2)),(7,.own 7),(8,tI v2)],[(7,.arr 4 1 (v1.length) (eF cD v1))]⟩) (fun b3=>⟨[(0,.t (eL lW a0)),(7,.own 7)],[(7,.arr 4 1 (b3.length) (eF cD b3))]⟩) 0 (List.replicate (i64.wrap ((a0.length:Int)+1)).toNat (default:Bool),0) (Yi a0 a1 a2) fun b3=>.cv 2 [.rn 7 30000] <| .ch 0 [40000] (Kt a0 b3) fun r8=>.cv 0 [.rn 40000 44] <| .cv 1 [.fr 44 (eL cD r8)] <| .ret 0 r8
def aYW(a0:List oH)(a1:List Bool)(a2:List Bool):=(aYP a0 a1 a2).den
theorem aRD(G:List oH)(D:List Bool)(a2:List Bool):Con Tryz.prog 249 [.t (eL lW G),.t (eL cD D),.t (eL cD a2)] (aYW G D a2) (fun y=>.t (eL cD y)):=con Tryz.func249 aZ (aYP G D a2)
def Pe(a0:List aS)(a1:aG)(a2:aT)(v3:Int):(LD×(List (List Bool))×(List Bool)×Int)->TP ((LD×(List (List Bool))×(List Bool)×Int)⊕((LD×(List (List Bool))×(List Bool))⊕((LD×(List (List Bool))×Int)⊕((LD×(List (List Bool)))⊕LD))))
 | (v6,v7,v8,v9)=>.ite 5 (decide (v9<a1.Seq.length)) (.dg 6 (0<=v9/\v9<a1.Seq.length) <| .dg 12 (0<=v3/\v3<a2.l_.length) <| .dg 18 (0<=v3/\v3<a2.l_.length) <| .dc 21 [.t (eL aW a0),.t (cJ ((a1.Seq.getD v9.toNat default).Pred)),tI ((a2.l_.getD v3.toNat default).Time),tV ((a2.l_.getD v3.toNat default).Row)] (Qb a0 ((a1.Seq.getD v9.toNat default).Pred) ((a2.l_.getD v3.toNat default).Time) ((a2.l_.getD v3.toNat default).Row)) fun r13=>.dg 24 (0<=v9/\v9<v8.length) <| .dg 25 ((v9).toNat<v8.length) <| .dr 0 0 [(4,false,[]),(5,false,[]),(8,false,[]),(9,false,[]),(11,false,[25])] [0,4,5,7,8,9,10,11,12,31,32,33,34,35] <| .sto 0 11 cD v8 [((v9).toNat,r13.N==1)] <| .ret 3 (.inl (v6,v7,v8.set v9.toNat (r13.N==1),i64.wrap (v9+1)))) (.ret 0 (.inr (.inl (v6,v7,v8))))
def yW(a2:aT)(v3:Int):(LD×(List (List Bool))×(List Bool)×Int)->TP ((LD×(List (List Bool))×(List Bool)×Int)⊕((LD×(List (List Bool)))⊕((LD×(List (List Bool))×Int)⊕((LD×(List (List Bool)))⊕LD))))
 | (v14,v15,v16,v17)=>.grd 5 (0<=v3/\v3<a2.l_.length) <| .ite 3 (decide (v17<((a2.l_.getD v3.toNat default).N))) (.grd 5 (0<=v3/\v3<a2.l_.length) <| .bs 1 false aH [a2.l_.getD v3.toNat default] <| .grd 1 ((v14.length+[a2.l_.getD v3.toNat default].length)*40<=140737488355328) <| .cv 0 [.ap 80 aH v14 [a2.l_.getD v3.toNat default]] <| .bs 3 false bX [v16] <| .grd 1 ((v15.length+[v16].length)*24<=140737488355328) <| .cv 0 [.ap 84 bX v15 [v16]] <| .cv 4 [.rn 80 8,.rn 84 9] <| .ret 0 (.inl (v14++[a2.l_.getD v3.toNat default],v15++[v16],v16,i64.wrap (v17+1)))) (.ret 0 (.inr (.inl (v14,v15))))
def Mh(a0:List aS)(a1:aG)(a2:aT):(LD×(List (List Bool))×Int)->TP ((LD×(List (List Bool))×Int)⊕((LD×(List (List Bool)))⊕LD))
 | (v1,v2,v3)=>.ite 5 (decide (v3<a2.l_.length)) (.mks 3 cD 1 (a1.Seq.length:Int) (a1.Seq.length:Int) <| .cv 2 [.rn 30 11] <| .lp 0 (fun (v6,v7,v8,v9)=>⟨[(0,.t (eL aW a0)),(4,.ptr 4 0),(5,.ptr 5 0),(7,.nil),(8,.own 8),(9,.own 9),(10,tI v3),(11,.own 11),(12,tI v9)],[(4,bN a1),(5,.box ((cB a2).map .t)),(8,aD v6),(9,.arr 201 1 (v7.length) (eF bX v7)),(11,.arr 4 1 (v8.length) (eF cD v8))]⟩) (fun (b10,b11,b12)=>⟨[(0,.t (eL aW a0)),(4,.ptr 4 0),(5,.ptr 5 0),(7,.nil),(8,.own 8),(9,.own 9),(10,tI v3),(11,.own 11)],[(4,bN a1),(5,.box ((cB a2).map .t)),(8,aD b10),(9,.arr 201 1 (b11.length) (eF bX b11)),(11,.arr 4 1 (b12.length) (eF cD b12))]⟩) 2 (v1,v2,List.replicate (a1.Seq.length:Int).toNat (default:Bool),0) (Pe a0 a1 a2 v3) fun (b10,b11,b12)=>.cv 1 [.fr 11 (eL cD b12)] <| .lp 0 (fun (v14,v15,v16,v17)=>⟨[(0,.t (eL aW a0)),(4,.ptr 4 0),(5,.ptr 5 0),(7,.nil),(8,.own 8),(9,.own 9),(10,tI v3),(11,.t (eL cD v16)),(13,tI v17)],[(4,bN a1),(5,.box ((cB a2).map .t)),(8,aD v14),(9,.arr 201 1 (v15.length) (eF bX v15))]⟩) (fun (b18,b19)=>⟨[(0,.t (eL aW a0)),(4,.ptr 4 0),(5,.ptr 5 0),(7,.nil),(8,.own 8),(9,.own 9),(10,tI v3)],[(4,bN a1),(5,.box ((cB a2).map .t)),(8,aD b18),(9,.arr 201 1 (b19.length) (eF bX b19))]⟩) 4 (b10,b11,b12,0) (yW a2 v3) fun (b18,b19)=>.ret 3 (.inl (b18,b19,i64.wrap (v3+1)))) (.ret 0 (.inr (.inl (v1,v2))))
def Ms(a1:aG)(a2:aT)(v23:Int):(LD×(List (List Bool))×(List Int)×(List Bool)×Int)->TP ((LD×(List (List Bool))×(List Int)×(List Bool)×Int)⊕((LD×(List (List Bool))×(List Int))⊕((LD×(List (List Bool))×(List Int)×Int)⊕((LD×(List Int))⊕LD))))
 | (v27,v28,v29,v30,v31)=>.jn 0 0 (fun (j35,j36,j37,j38)=>⟨[(4,.ptr 4 0),(5,.ptr 5 0),(7,.nil),(8,.own 8),(9,.own 9),(14,.own 14),(15,tI v23),(16,.t (eL cD v30)),(17,tI v31),(126,tB j38)],[(4,bN a1),(5,.box ((cB a2).map .t)),(8,aD j35),(9,.arr 201 1 (j36.length) (eF bX j36)),(14,.arr 3 1 (j37.length) (eF bI j37))]⟩) (.dl 4 (decide (v31<v27.length)) (.dg 7 (0<=v31/\v31<v27.length) <| .dg 9 ((v31).toNat<v27.length) <| .dg 12 (0<=v23/\v23<v27.length) <| .dg 14 ((v23).toNat<v27.length) <| .dr 0 0 [(4,false,[]),(5,false,[]),(8,false,[]),(9,false,[]),(14,false,[])] [4,5,7,8,9,14,15,16,17] <| .ret 0 (v27,v28,v29,decide ((i64.wrap (((v27.getD v31.toNat default).Time)-((v27.getD v23.toNat default).Time)))<a1.Size))) (.dr 0 0 [(4,false,[]),(5,false,[]),(8,false,[]),(9,false,[]),(14,false,[])] [4,5,7,8,9,14,15,16,17] <| .ret 0 (v27,v28,v29,false))) fun (j35,j36,j37,j38)=>.ite 0 j38 (.dg 5 (0<=v31/\v31<j36.length) <| .dg 6 ((v31).toNat<j36.length) <| .dc 7 [.t (eL lW (a1.Seq)),.t (eL cD v30),.t (eL cD (j36.getD v31.toNat default))] (aRD a1.Seq v30 (j36.getD v31.toNat default)) fun r39=>.dr 0 0 [(4,false,[]),(5,false,[]),(8,false,[]),(9,false,[]),(14,false,[])] [4,5,7,8,9,14,15,16,17,126] <| .grd 5 (0<=(a1.Seq.length:Int)/\(a1.Seq.length:Int)<r39.length) <| .jn 1 0 (fun (j40,j41,j42)=>⟨[(4,.ptr 4 0),(5,.ptr 5 0),(7,.nil),(8,.own 8),(9,.own 9),(14,.own 14),(15,tI v23),(16,.t (eL cD r39)),(17,tI v31)],[(4,bN a1),(5,.box ((cB a2).map .t)),(8,aD j40),(9,.arr 201 1 (j41.length) (eF bX j41)),(14,.arr 3 1 (j42.length) (eF bI j42))]⟩) (.ite 0 (r39.getD (a1.Seq.length:Int).toNat default) (.grd 7 (0<=v31/\v31<j37.length) <| .grd 1 ((v31).toNat<j37.length) <| .sto 0 14 bI j37 [((v31).toNat,i64.wrap ((i64.wrap (v31-v23))+1))] <| .ret 0 (j35,j36,j37.set v31.toNat (i64.wrap ((i64.wrap (v31-v23))+1)))) (.ret 0 (j35,j36,j37))) fun (j40,j41,j42)=>.ret 3 (.inl (j40,j41,j42,r39,i64.wrap (v31+1)))) (.ret 0 (.inr (.inl (j35,j36,j37))))
def Px(a1:aG)(a2:aT):(LD×(List (List Bool))×(List Int)×Int)->TP ((LD×(List (List Bool))×(List Int)×Int)⊕((LD×(List Int))⊕LD))
 | (v20,v21,v22,v23)=>.ite 2 (decide (v23>=0)) (.mks 4 cD 1 (i64.wrap ((a1.Seq.length:Int)+1)) (i64.wrap ((a1.Seq.length:Int)+1)) <| .grd 3 (0<=(0:Int)/\(0:Int)<(((List.replicate (i64.wrap ((a1.Seq.length:Int)+1)).toNat (default:Bool)).length):Int)) <| .grd 1 ((0:Int).toNat<(List.replicate (i64.wrap ((a1.Seq.length:Int)+1)).toNat (default:Bool)).length) <| .sto 0 99 cD (List.replicate (i64.wrap ((a1.Seq.length:Int)+1)).toNat (default:Bool)) [((0:Int).toNat,true)] <| .cv 3 [.rn 99 30000] <| .ch 0 [40000] (Kt a1.Seq ((List.replicate (i64.wrap ((a1.Seq.length:Int)+1)).toNat (default:Bool)).set (0:Int).toNat true)) fun r26=>.cv 0 [.rn 40000 105] <| .cv 3 [.fr 105 (eL cD r26)] <| .lp 0 (fun (v27,v28,v29,v30,v31)=>⟨[(4,.ptr 4 0),(5,.ptr 5 0),(7,.nil),(8,.own 8),(9,.own 9),(14,.own 14),(15,tI v23),(16,.t (eL cD v30)),(17,tI v31)],[(4,bN a1),(5,.box ((cB a2).map .t)),(8,aD v27),(9,.arr 201 1 (v28.length) (eF bX v28)),(14,.arr 3 1 (v29.length) (eF bI v29))]⟩) (fun (b32,b33,b34)=>⟨[(4,.ptr 4 0),(5,.ptr 5 0),(7,.nil),(8,.own 8),(9,.own 9),(14,.own 14),(15,tI v23)],[(4,bN a1),(5,.box ((cB a2).map .t)),(8,aD b32),(9,.arr 201 1 (b33.length) (eF bX b33)),(14,.arr 3 1 (b34.length) (eF bI b34))]⟩) 8 (v20,v21,v22,r26,v23) (Ms a1 a2 v23) fun (b32,b33,b34)=>.ret 3 (.inl (b32,b33,b34,i64.wrap (v23-1)))) (.ret 0 (.inr (.inl (v20,v22))))
def Dl(a2:aT):(LD×LD×(List Int)×Int)->TP ((LD×LD×(List Int)×Int)⊕((LD)⊕LD))
 | (v43,v44,v45,v46)=>.ite 4 (decide (v46<v44.length)) (.grd 3 (0<=v46/\v46<v45.length) <| .grd 1 ((v46).toNat<v45.length) <| .jn 1 0 (fun (j48,j49,j50)=>⟨[(5,.ptr 5 0),(7,.own 7),(8,.own 8),(14,.own 14),(18,tI v46)],[(5,.box ((cB a2).map .t)),(7,aD j48),(8,aD j49),(14,.arr 3 1 (j50.length) (eF bI j50))]⟩) (.ite 0 (decide ((v45.getD v46.toNat default)>0)) (.dg 3 ((0+a2.key_.length)*32<=140737488355328) <| .dg 9 (0<=v46/\v46<v45.length) <| .dg 10 ((v46).toNat<v45.length) <| .dg 12 (0<=(i64.wrap ((i64.wrap (v46+1))-(v45.getD v46.toNat default)))/\(i64.wrap ((i64.wrap (v46+1))-(v45.getD v46.toNat default)))<v44.length) <| .dg 14 ((i64.wrap ((i64.wrap (v46+1))-(v45.getD v46.toNat default))).toNat<v44.length) <| .dg 18 (0<=v46/\v46<v45.length) <| .dg 19 ((v46).toNat<v45.length) <| .dg 22 ((a2.key_.length+2)*32<=140737488355328) <| .dr 0 0 [(161,true,[0,3]),(164,true,[3,22]),(183,true,[22]),(5,false,[]),(7,false,[]),(8,false,[]),(14,false,[])] [5,7,8,14,18,150,151,152,153,156,157,158,159,160] <| .cv 0 [.apl 183 aR a2.key_ [(aE.mk 0 ((v44.getD (i64.wrap ((i64.wrap (v46+1))-(v45.getD v46.toNat default))).toNat default).Time) (⟨#[]⟩)),(aE.mk 0 (v45.getD v46.toNat default) (⟨#[]⟩))]] <| .grd 4 (0<=v46/\v46<v44.length) <| .grd 2 ((v46).toNat<v44.length) <| .cv 1 [.fr 183 (eL aR (a2.key_++[(aE.mk 0 ((v44.getD (i64.wrap ((i64.wrap (v46+1))-(v45.getD v46.toNat default))).toNat default).Time) (⟨#[]⟩)),(aE.mk 0 (v45.getD v46.toNat default) (⟨#[]⟩))]))] <| .bs 1 false aH ([(aB.mk ((v44.getD v46.toNat default).Time) (a2.key_++[(aE.mk 0 ((v44.getD (i64.wrap ((i64.wrap (v46+1))-(v45.getD v46.toNat default))).toNat default).Time) (⟨#[]⟩)),(aE.mk 0 (v45.getD v46.toNat default) (⟨#[]⟩))]) 1)]:LD) <| .grd 1 ((v43.length+([(aB.mk ((v44.getD v46.toNat default).Time) (a2.key_++[(aE.mk 0 ((v44.getD (i64.wrap ((i64.wrap (v46+1))-(v45.getD v46.toNat default))).toNat default).Time) (⟨#[]⟩)),(aE.mk 0 (v45.getD v46.toNat default) (⟨#[]⟩))]) 1)]:LD).length)*40<=140737488355328) <| .cv 0 [.ap 193 aH v43 ([(aB.mk ((v44.getD v46.toNat default).Time) (a2.key_++[(aE.mk 0 ((v44.getD (i64.wrap ((i64.wrap (v46+1))-(v45.getD v46.toNat default))).toNat default).Time) (⟨#[]⟩)),(aE.mk 0 (v45.getD v46.toNat default) (⟨#[]⟩))]) 1)]:LD)] <| .cv 1 [.rn 193 7] <| .ret 0 (v43++([(aB.mk ((v44.getD v46.toNat default).Time) (a2.key_++[(aE.mk 0 ((v44.getD (i64.wrap ((i64.wrap (v46+1))-(v45.getD v46.toNat default))).toNat default).Time) (⟨#[]⟩)),(aE.mk 0 (v45.getD v46.toNat default) (⟨#[]⟩))]) 1)]:LD),v44,v45)) (.ret 0 (v43,v44,v45))) fun (j48,j49,j50)=>.ret 3 (.inl (j48,j49,j50,i64.wrap (v46+1)))) (.ret 0 (.inr (.inl v43)))
def aWF(a0:List aS)(a1:aG)(a2:aT):TP LD:=.cv 7 [.th 8 8 50 3 (eF aH ([]:LD)),.th 9 9 201 1 (eF bX ([]:List (List Bool)))] <| .lp 0 (fun (v1,v2,v3)=>⟨[(0,.t (eL aW a0)),(4,.ptr 4 0),(5,.ptr 5 0),(7,.nil),(8,.own 8),(9,.own 9),(10,tI v3)],[(4,bN a1),(5,.box ((cB a2).map .t)),(8,aD v1),(9,.arr 201 1 (v2.length) (eF bX v2))]⟩) (fun (b4,b5)=>⟨[(4,.ptr 4 0),(5,.ptr 5 0),(7,.nil),(8,.own 8),(9,.own 9)],[(4,bN a1),(5,.box ((cB a2).map .t)),(8,aD b4),(9,.arr 201 1 (b5.length) (eF bX b5))]⟩) 0 (([]:LD),([]:List (List Bool)),0) (Mh a0 a1 a2) fun (b4,b5)=>.mks 2 bI 8 (b4.length:Int) (b4.length:Int) <| .cv 5 [.rn 87 14] <| .lp 0 (fun (v20,v21,v22,v23)=>⟨[(4,.ptr 4 0),(5,.ptr 5 0),(7,.nil),(8,.own 8),(9,.own 9),(14,.own 14),(15,tI v23)],[(4,bN a1),(5,.box ((cB a2).map .t)),(8,aD v20),(9,.arr 201 1 (v21.length) (eF bX v21)),(14,.arr 3 1 (v22.length) (eF bI v22))]⟩) (fun (b24,b25)=>⟨[(5,.ptr 5 0),(7,.nil),(8,.own 8),(14,.own 14)],[(5,.box ((cB a2).map .t)),(8,aD b24),(14,.arr 3 1 (b25.length) (eF bI b25))]⟩) 6 (b4,b5,List.replicate (b4.length:Int).toNat (default:Int),i64.wrap ((b4.length:Int)-1)) (Px a1 a2) fun (b24,b25)=>.cv 1 [.th 7 7 50 3 (eF aH ([]:LD))] <| .lp 0 (fun (v43,v44,v45,v46)=>⟨[(5,.ptr 5 0),(7,.own 7),(8,.own 8),(14,.own 14),(18,tI v46)],[(5,.box ((cB a2).map .t)),(7,aD v43),(8,aD v44),(14,.arr 3 1 (v45.length) (eF bI v45))]⟩) (fun b47=>⟨[(7,.own 7)],[(7,aD b47)]⟩) 10 (([]:LD),b24,b25,0) (Dl a2) fun b47=>.cv 2 [.fr 7 (eL aH b47)] <| .ret 0 b47
def aME(a0:List aS)(a1:aG)(a2:aT):=(aWF a0 a1 a2).den
theorem aOS(G:List aS)(D:aG)(a2:aT):Con Tryz.prog 192 [.t (eL aW G),.t (dD D),.t (Dh a2)] (aME G D a2) tD:=con Tryz.func192 aZ (aWF G D a2)
def Dr(a1:aG)(a2:LD):((List aT)×Int)->TP (((List aT)×Int)⊕((List aT)⊕LD))
 | (v1,v2)=>.ite 4 (decide (v2<a2.length)) (.dg 3 (0<=v2/\v2<a2.length) <| .dc 8 [tV ((a2.getD v2.toNat default).Row),.t (eL bI (a1.Key))] (qF ((a2.getD v2.toNat default).Row) a1.Key) fun r4=>.dg 11 (0<=v2/\v2<a2.length) <| .dr 0 2 [(4,false,[]),(7,false,[])] [0,2,4,7,8,11,12,13,14] <| .cv 0 [.rn 7 30000] <| .ch 0 [40000] (As r4 0 0 (a2.getD v2.toNat default) v1) fun r5=>.cv 0 [.rn 40000 30] <| .cv 4 [.rn 30 7] <| .ret 0 (.inl (r5,i64.wrap (v2+1)))) (.ret 0 (.inr (.inl v1)))
def Do(a0:List aS)(a1:aG)(b3:List aT):(LD×Int)->TP ((LD×Int)⊕((LD)⊕LD))
 | (v6,v7)=>.ite 4 (decide (v7<b3.length)) (.dg 5 (0<=v7/\v7<b3.length) <| .dc 7 [.t (eL aW a0),.t (dD a1),.t (Dh (b3.getD v7.toNat default))] (aOS a0 a1 (b3.getD v7.toNat default)) fun r9=>.dg 8 ((v6.length+r9.length)*40<=140737488355328) <| .dr 0 0 [(45,true,[8]),(4,false,[]),(9,false,[8])] [0,4,7,9,10,31,32,33,34] <| .cv 0 [.ap 45 aH v6 r9] <| .cv 3 [.rn 45 9] <| .ret 0 (.inl (v6++r9,i64.wrap (v7+1)))) (.ret 0 (.inr (.inl v6)))
def aZT(a0:List aS)(a1:aG)(a2:LD):TP LD:=.cv 4 [.tha 7 7 209 4 (eJ cP ([]:List aT))] <| .lp 0 (fun (v1,v2)=>⟨[(0,.t (eL aW a0)),(2,tD a2),(4,.ptr 4 0),(7,.own 7),(8,tI v2)],[(4,bN a1),(7,.arm 209 4 v1.length (eJ cP v1) none)]⟩) (fun b3=>⟨[(0,.t (eL aW a0)),(4,.ptr 4 0),(7,.own 7)],[(4,bN a1),(7,.arm 209 4 b3.length (eJ cP b3) none)]⟩) 0 (([]:List aT),0) (Dr a1 a2) fun b3=>.cv 2 [.fza 7 cP cB b3] <| .cv 0 [.th 9 9 50 3 (eF aH ([]:LD))] <| .lp 0 (fun (v6,v7)=>⟨[(0,.t (eL aW a0)),(4,.ptr 4 0),(7,.t (eL cB b3)),(9,.own 9),(10,tI v7)],[(4,bN a1),(9,aD v6)]⟩) (fun b8=>⟨[(9,.own 9)],[(9,aD b8)]⟩) 2 (([]:LD),0) (Do a0 a1 b3) fun b8=>.cv 2 [.fr 9 (eL aH b8)] <| .ret 0 b8
def bCI(a0:List aS)(a1:aG)(a2:LD):=(aZT a0 a1 a2).den
theorem aTE(G:List aS)(D:aG)(a2:LD):Con Tryz.prog 98 [.t (eL aW G),.t (dD D),tD a2] (bCI G D a2) tD:=con Tryz.func98 aZ (aZT G D a2)
def Nb(a0:List aS)(a1:aG)(j1:LD):(LD×Int)->TP ((LD×Int)⊕((LD)⊕LD))
 | (v4,v5)=>.ite 4 (decide (v5<j1.length)) (.dg 3 (0<=(0:Int)/\(0:Int)<a1.Exprs.length) <| .dg 7 (0<=v5/\v5<j1.length) <| .dg 12 (0<=v5/\v5<j1.length) <| .dc 15 [.t (eL aW a0),.t (cJ (a1.Exprs.getD (0:Int).toNat default)),tI ((j1.getD v5.toNat default).Time),tV ((j1.getD v5.toNat default).Row)] (Qb a0 (a1.Exprs.getD (0:Int).toNat default) ((j1.getD v5.toNat default).Time) ((j1.getD v5.toNat default).Row)) fun r7=>.dr 0 0 [(4,false,[]),(9,false,[])] [0,4,7,9,10,30,31,32,33] <| .jn 0 0 (fun j8=>⟨[(0,.t (eL aW a0)),(4,.ptr 4 0),(7,tD j1),(9,.own 9),(10,tI v5)],[(4,bN a1),(9,aD j8)]⟩) (.ite 0 (r7.N==1) (.grd 4 (0<=v5/\v5<j1.length) <| .bs 1 false aH [j1.getD v5.toNat default] <| .grd 1 ((v4.length+[j1.getD v5.toNat default].length)*40<=140737488355328) <| .cv 0 [.ap 60 aH v4 [j1.getD v5.toNat default]] <| .cv 1 [.rn 60 9] <| .ret 0 (v4++[j1.getD v5.toNat default])) (.ret 0 v4)) fun j8=>.ret 3 (.inl (j8,i64.wrap (v5+1)))) (.ret 0 (.inr (.inl v4)))
def Oh(a0:List aS)(a1:aG)(j1:LD)(v11:Int):(LD×(List aE)×Int)->TP ((LD×(List aE)×Int)⊕((LD×(List aE))⊕((LD×Int)⊕((LD)⊕LD))))
 | (v13,v14,v15)=>.ite 5 (decide (v15<a1.Exprs.length)) (.dg 5 (0<=v15/\v15<a1.Exprs.length) <| .dg 9 (0<=v11/\v11<j1.length) <| .dg 14 (0<=v11/\v11<j1.length) <| .dc 17 [.t (eL aW a0),.t (cJ (a1.Exprs.getD v15.toNat default)),tI ((j1.getD v11.toNat default).Time),tV ((j1.getD v11.toNat default).Row)] (Qb a0 (a1.Exprs.getD v15.toNat default) ((j1.getD v11.toNat default).Time) ((j1.getD v11.toNat default).Row)) fun r18=>.dg 19 ((v14.length+1)*32<=140737488355328) <| .dr 0 0 [(95,true,[19]),(4,false,[]),(9,false,[]),(12,false,[19])] [0,4,7,9,11,12,13,69,70,71,72,73] <| .cv 0 [.apl 95 aR v14 [r18]] <| .cv 3 [.rn 95 12] <| .ret 0 (.inl (v13,v14++[r18],i64.wrap (v15+1)))) (.ret 0 (.inr (.inl (v13,v14))))
def Py(a0:List aS)(a1:aG)(j1:LD):(LD×Int)->TP ((LD×Int)⊕((LD)⊕LD))
 | (v10,v11)=>.ite 4 (decide (v11<j1.length)) (.cv 2 [.th 12 12 67 3 (eF aR ([]:List aE))] <| .lp 0 (fun (v13,v14,v15)=>⟨[(0,.t (eL aW a0)),(4,.ptr 4 0),(7,tD j1),(9,.own 9),(11,tI v11),(12,.own 12),(13,tI v15)],[(4,bN a1),(9,aD v13),(12,.arr 67 3 (v14.length) (eF aR v14))]⟩) (fun (b16,b17)=>⟨[(0,.t (eL aW a0)),(4,.ptr 4 0),(7,tD j1),(9,.own 9),(11,tI v11),(12,.own 12)],[(4,bN a1),(9,aD b16),(12,.arr 67 3 (b17.length) (eF aR b17))]⟩) 5 (v10,([]:List aE),0) (Oh a0 a1 j1 v11) fun (b16,b17)=>.cv 0 [.fr 12 (eL aR b17)] <| .dg 3 (0<=v11/\v11<j1.length) <| .dg 9 (0<=v11/\v11<j1.length) <| .dg 14 ((b16.length+1)*40<=140737488355328) <| .dr 0 0 [(110,true,[14]),(4,false,[]),(9,false,[14])] [0,4,7,9,11,12] <| .cv 0 [.apl 110 aH b16 [(aB.mk ((j1.getD v11.toNat default).Time) b17 ((j1.getD v11.toNat default).N))]] <| .cv 3 [.rn 110 9] <| .ret 0 (.inl (b16++[(aB.mk ((j1.getD v11.toNat default).Time) b17 ((j1.getD v11.toNat default).N))],i64.wrap (v11+1)))) (.ret 0 (.inr (.inl v10)))
def T46(a0:List aS)(a1:aG)(a2:List LD):TP LD:=.jn 7 0 (fun j1=>⟨[(0,.t (eL aW a0)),(2,.t (eL aU a2)),(4,.ptr 4 0),(7,tD j1),(8,.nil)],[(4,bN a1)]⟩) (.ite 0 (decide ((a2.length:Int)>0)) (.grd 2 (0<=(0:Int)/\(0:Int)<a2.length) <| .ret 2 (a2.getD (0:Int).toNat default)) (.cv 0 [.sl 7 (eL aH ([]:LD))] <| .ret 0 ([]:LD))) fun j1=>.jn 3 0 (fun j2=>⟨[(0,.t (eL aW a0)),(4,.ptr 4 0),(7,tD j1),(8,tD j2)],[(4,bN a1)]⟩) (.ite 0 (decide ((a2.length:Int)>1)) (.grd 2 (0<=(1:Int)/\(1:Int)<a2.length) <| .ret 2 (a2.getD (1:Int).toNat default)) (.cv 0 [.sl 8 (eL aH ([]:LD))] <| .ret 0 ([]:LD))) fun j2=>.jn 5 0 (fun j3=>⟨[(9,tD j3)],[]⟩) (.ite 0 (a1.Op==1) (.cv 1 [.th 9 9 50 3 (eF aH ([]:LD))] <| .lp 0 (fun (v4,v5)=>⟨[(0,.t (eL aW a0)),(4,.ptr 4 0),(7,tD j1),(9,.own 9),(10,tI v5)],[(4,bN a1),(9,aD v4)]⟩) (fun b6=>⟨[(9,.own 9)],[(9,aD b6)]⟩) 1 (([]:LD),0) (Nb a0 a1 j1) fun b6=>.cv 0 [.fr 9 (eL aH b6)] <| .ret 0 b6) (.jn 2 0 (fun j9=>⟨[(9,tD j9)],[]⟩) (.ite 0 (a1.Op==2) (.cv 1 [.th 9 9 50 3 (eF aH ([]:LD))] <| .lp 0 (fun (v10,v11)=>⟨[(0,.t (eL aW a0)),(4,.ptr 4 0),(7,tD j1),(9,.own 9),(11,tI v11)],[(4,bN a1),(9,aD v10)]⟩) (fun b12=>⟨[(9,.own 9)],[(9,aD b12)]⟩) 3 (([]:LD),0) (Py a0 a1 j1) fun b12=>.cv 0 [.fr 9 (eL aH b12)] <| .ret 0 b12) (.jn 2 0 (fun j19=>⟨[(9,tD j19)],[]⟩) (.ite 0 (a1.Op==3) (.bs 0 true aH ([]:LD) <| .grd 2 ((([]:LD).length+j1.length)*40<=140737488355328) <| .cv 0 [.ap 115 aH ([]:LD) j1] <| .grd 2 (((([]:LD)++j1).length+j2.length)*40<=140737488355328) <| .cv 0 [.ap 117 aH (([]:LD)++j1) j2] <| .cv 1 [.fr 117 (eL aH ((([]:LD)++j1)++j2))] <| .ret 0 ((([]:LD)++j1)++j2)) (.jn 2 0 (fun j20=>⟨[(9,tD j20)],[]⟩) (.ite 0 (a1.Op==4) (.ca 2 (aUQ a1 j1) fun r21=>.ret 1 r21) (.jn 2 0 (fun j22=>⟨[(9,tD j22)],[]⟩) (.ite 0 (a1.Op==5) (.ca 2 (aQK a1 j1) fun r23=>.ret 1 r23) (.jn 2 0 (fun j24=>⟨[(9,tD j24)],[]⟩) (.ite 0 (a1.Op==6) (.ca 3 (aVA a1 j1 j2) fun r25=>.ret 1 r25) (.jn 2 0 (fun j26=>⟨[(9,tD j26)],[]⟩) (.ite 0 (a1.Op==7) (.ca 3 (aTN a1 j1 j2) fun r27=>.ret 1 r27) (.jn 2 0 (fun j28=>⟨[(9,tD j28)],[]⟩) (.ite 0 (a1.Op==8) (.ca 3 (aTE a0 a1 j1) fun r29=>.ret 1 r29) (.cv 0 [.sl 9 (eL aH ([]:LD))] <| .ret 0 ([]:LD))) fun j28=>.ret 0 j28)) fun j26=>.ret 0 j26)) fun j24=>.ret 0 j24)) fun j22=>.ret 0 j22)) fun j20=>.ret 0 j20)) fun j19=>.ret 0 j19)) fun j9=>.ret 0 j9)) fun j3=>.ca 1 (Qf j3) fun r30=>.ret 1 r30
def G46(a0:List aS)(a1:aG)(a2:List LD):=(T46 a0 a1 a2).den
theorem aXH(G:List aS)(D:aG)(a2:List LD):Con Tryz.prog 35 [.t (eL aW G),.t (dD D),.t (eL aU a2)] (G46 G D a2) tD:=con Tryz.func35 aZ (T46 G D a2)
def bDF(a0:List aS)(a1:aG)(a2:LD)(a3:LD)(a4:List (List Int)):TP Bool:=.ca 2 aRT fun r1=>.ca 6 (aSE a0 a1 a2 a3 a4 40) fun r2=>.ite 7 (!r2.2) (.ret 2 r1) (.jn 0 0 (fun j3=>⟨[(10,tB j3)],[]⟩) (.dl 1 r1 (.dc 5 [.t (eL aW a0),.t (dD a1),.t (eL aU (r2.1))] (Ec a0 a1 r2.1) fun r4=>.dc 9 [.t (eL aW a0),.t (dD a1),.t (eL aU (r2.1))] (aXH a0 a1 r2.1) fun r5=>.dc 10 [tD r4,tD r5] (aNS r4 r5) fun r6=>.dr 0 0 [(6,false,[])] [0,1,2,3,4,6,11,12,13,14,15,16,17,18,19,20,21,22,23,24,25] <| .ret 0 r6) (.dr 0 0 [(6,false,[])] [0,1,2,3,4,6,11,12,13,14,15,16,17,18,19,20,21,22,23,24,25] <| .ret 0 false)) fun j3=>.ret 0 j3)
def aCP(a0:List aS)(a1:aG)(a2:LD)(a3:LD)(a4:List (List Int)):=(bDF a0 a1 a2 a3 a4).den
theorem aUC(M:List aS)(J:aG)(a2:LD)(G:LD)(D:List (List Int)):Con Tryz.prog 6 [.t (eL aW M),.t (dD J),tD a2,tD G,.t (eL nW D)] (aCP M J a2 G D) tB:=con Tryz.func6 aZ (bDF M J a2 G D)
end
end Go.PL
namespace Go.PL
open Go
variable {a:Int} {i j k n:Nat} {l:List aB} {x:aB}
def Sq{α:Type}(b:Bool)(x:Option α)(Q:α->Prop):Prop:=(∀ y,x=some y->Q y)/\(b=true->x.isSome=true)
abbrev Sp {α:Type}(x:Option α)(Q:α->Prop):Prop:=Sq true x Q
section
variable {α β:Type} {b:Bool}
theorem aC{y:α}{Q:α->Prop}:Sq b (some y) Q↔Q y:=⟨fun h=>h.1 y rfl,fun h=>⟨fun z D=>by simp_all,fun _=>rfl⟩⟩
theorem uV{Q:α->Prop}:Sq b (none:Option α) Q↔b=false:=⟨fun h=>by cases b with | false=>rfl | true=>exact absurd (h.2 rfl) (by simp),fun h=>⟨fun _ D=>(by cases D),fun hb=>(by simp_all)⟩⟩
theorem bR{x:Option α}{f:α->Option β}{Q:β->Prop}:Sq b (x.bind f) Q↔Sq b x (fun r=>Sq b (f r) Q):=by
 cases x with
 | none=>exact uV.trans uV.symm
 | some r=>exact(aC (Q:=fun r=>Sq b (f r) Q)).symm
theorem oN{c:Prop}[Decidable c]{x:Option α}{Q:α->Prop}(hc:c)(h:Sq b x Q):Sq b (if c then x else none) Q:=by simp_all
theorem Sq.imp{x:Option α}{P Q:α->Prop}(h:Sq b x P)(D:∀ y,P y->Q y):Sq b x Q:=⟨fun y hy=>D y (h.1 y hy),h.2⟩
theorem Sq.of_eq{x:Option α}{y:α}{Q:α->Prop}(h:x=some y)(D:Q y):Sq b x Q:=by rw[h]; exact aC.2 D
theorem Sp.get{x:Option α}{Q:α->Prop}(h:Sp x Q):∃ y,x=some y/\Q y:=by obtain⟨y,hy⟩:=Cc.1 (h.2 rfl);exact⟨y,hy,h.1 y hy⟩
theorem Sp.eq{x:Option α}{y:α}(h:Sp x (fun z=>z=y)):x=some y:=by obtain⟨z,h1,rfl⟩:=h.get; exact h1
theorem Sq.bind{x:Option α}{f:α->Option β}{Q:β->Prop}(P:α->Prop)(h:Sq b x P)(D:∀ y,P y->Sq b (f y) Q):Sq b (x.bind f) Q:=bR.2 (h.imp D)
theorem bK{c:Bool}{x y:Option α}{Q:α->Prop}(h:c=true->Sq b x Q)(D:c=false->Sq b y Q):Sq b (if c=true then x else y) Q:=by grind
end
theorem Sh{b:Int}(h:a=b):¬ ((a != b)=true):=by simp[h]
theorem So{b:Int}(h:a≠b):(a != b)=true:=by simpa using h
theorem dJ{b:Int}(h:a≠b:=by omega):¬ ((a==b)=true):=by simpa using h
theorem fA{b:Int}(h:a=b:=by omega):(a==b)=true:=by simpa using h
theorem bQ{p:Prop}[Decidable p](h:¬p:=by omega):¬ (decide p=true):=by simpa using h
theorem bL{p:Prop}[Decidable p](h:p:=by omega):decide p=true:=by simpa using h
section
variable {S R:Type} {b:Bool} {bd:S->Option (S⊕R)}
theorem Sq.while(I:S->Prop)(μ:S->Nat){Q:R->Prop}(h:∀ s,I s->Sq b (bd s) (sel (fun s'=>I s'/\μ s' < μ s) Q)){s:S}(hs:I s):Sq b (bW bd s) Q:=by
 have:∀ (k:Nat) (s:S),μ s<=k->I s->Sq b (bW bd s) Q:=by
  intro k
  induction k with
  | zero=>
   intro s hk hs;have h1:=h s hs;rw[pK];cases hb:bd s with
   | none=>rw[hb]at h1; exact uV.2 (uV.1 h1)
   | some z=>
    rw[hb]at h1;have h2:=aC.1 h1;cases z with
    | inl s'=>exact absurd h2.2 (by omega)
    | inr r=>exact aC.2 h2
  | succ k ih=>
   intro s hk hs;have h1:=h s hs;rw[pK];cases hb:bd s with
   | none=>rw[hb]at h1; exact uV.2 (uV.1 h1)
   | some z=>
    rw[hb]at h1;have h2:=aC.1 h1;cases z with
    | inl s'=>exact ih s' (by have:=h2.2; omega) h2.1
    | inr r=>exact aC.2 h2
 exact this (μ s) s (cM _) hs
theorem aP(f:Nat->S)(n:Nat){r:R}(h:∀ i,i<n->bd (f i)=some (.inl (f (i+1))))(D:bd (f n)=some (.inr r)):bW bd (f 0)=some r:=by
 have:∀ k,k<=n->bW bd (f (n-k))=some r:=by
  intro k
  induction k with
  | zero=>intro _; exact fQ D
  | succ k ih=>intro hk;rw[lJ (h (n-(k+1)) (by omega)),show n-(k+1)+1=n-k by omega];grind
 simpa using this n (cM n)
end
section
variable {P:Program} {A R:Type}
theorem aPB{C:A->Option R->Prop}(G:∀ a,C a none)(B:{f:A->Option R // ∀ a,C a (f a)}->A->Tr P R)(ok:∀ f a,C a (B f a).den)(I:A->Prop)(μ:A->Nat)(Q:A->R->Prop)
  (h:∀ b f a,I a->(∀ a',I a'->μ a' < μ a->Sq b (f.1 a') (Q a'))->Sq b (B f a).den (Q a)):∀ n a,I a->Sq (decide (μ a<n)) ((aMR G B ok n).1 a) (Q a):=by
 intro n
 induction n with
 | zero=>intro a ha; exact⟨fun y hy=>(by cases hy),fun hb=>by simp at hb⟩
 | succ n ih=>intro a ha;refine h _ _ a ha fun a' D hm=>?_;have h1:=ih a' D;exact⟨h1.1,fun hb=>h1.2 (by grind)⟩
theorem lX{C:A->Option R->Prop}(G:∀ a,C a none)(B:{f:A->Option R // ∀ a,C a (f a)}->A->Tr P R)(ok:∀ f a,C a (B f a).den)(I:A->Prop)(μ:A->Nat)(Q:A->R->Prop)
  (h:∀ b f a,I a->(∀ a',I a'->μ a' < μ a->Sq b (f.1 a') (Q a'))->Sq b (B f a).den (Q a))(b:Bool)(a:A)(ha:I a):Sq b (rT G B ok a) (Q a):=by
 have h1:=aPB G B ok I μ Q h;unfold rT Lim;split
 ·rename_i D;obtain⟨n,hn⟩:=D.choose_spec;exact aC.2 ((h1 n a ha).1 _ hn)
 ·rename_i D;exfalso;have h2:=h1 (μ a+1) a ha;obtain⟨y,hy⟩:=Cc.1 (h2.2 (by simp));simp_all
end
theorem xM(n:Int):IntKind.i64.wrap n=(n+9223372036854775808) % 18446744073709551616-9223372036854775808:=by simp only[IntKind.wrap,IntKind.bits,IntKind.signed];grind
theorem aV{n:Int}(h1:-9223372036854775808<=n:=by omega)(h2:n<=9223372036854775807:=by omega):IntKind.i64.wrap n=n:=by rw[xM]; omega
theorem Nw(n:Int):-9223372036854775808<=IntKind.i64.wrap n/\IntKind.i64.wrap n<=9223372036854775807:=by rw[xM]; omega
theorem aEY(n:Int):IntKind.i64.wrap (IntKind.i64.wrap n)=IntKind.i64.wrap n:=aV (Nw n).1 (Nw n).2
theorem Ag(a c:Int):IntKind.i64.wrap (IntKind.i64.wrap a+c)=IntKind.i64.wrap (a+c):=by simp only[xM]; omega
theorem Kj(a c:Int):IntKind.i64.wrap (a+IntKind.i64.wrap c)=IntKind.i64.wrap (a+c):=by simp only[xM]; omega
theorem tL(h:n<=9223372036854775807):IntKind.i64.wrap (n:Int)=n:=aV
theorem aK(h:n<9223372036854775807:=by omega):IntKind.i64.wrap ((n:Int)+1)=((n+1:Nat):Int):=by rw[aV] <;> omega
theorem sO(h:n<9223372036854775807):IntKind.i64.wrap (((n+1:Nat):Int)-1)=(n:Int):=by rw[aV] <;> omega
theorem eN{m:Nat}(h:m<=n:=by omega)(hn:n<=9223372036854775807:=by omega):IntKind.i64.wrap ((n:Int)-(m:Int))=((n-m:Nat):Int):=by rw[aV] <;> omega
theorem dM{m:Nat}(h:n+m<=9223372036854775807):IntKind.i64.wrap ((n:Int)+(m:Int))=((n+m:Nat):Int):=by rw[aV] <;> omega
theorem aIU{n:Int}(h1:0<=n)(h2:n<=9223372036854775807):IntKind.u64.wrap n=n:=by simp only[IntKind.wrap,IntKind.bits,IntKind.signed];grind
theorem oX(h:i+j<=9223372036854775807):IntKind.i64.wrap (bV .u64 (IntKind.u64.wrap (IntKind.i64.wrap ((i:Int)+(j:Int)))) 1)=(((i+j) / 2:Nat):Int):=by
 rw[dM h,aIU (by omega) (by omega)];have:bV .u64 (((i+j:Nat):Int)) 1=(((i+j) / 2:Nat):Int):=by simp only[bV,IntKind.bits];rw[Int.fdiv_eq_ediv_of_nonneg _ (by decide)];simp
 rw[this,tL (by omega)]
section
variable {α:Type} [Inhabited α]
theorem cE(l r:List α)(k:Nat):(l++r).getD k default=if k<l.length then l.getD k default else r.getD (k-l.length) default:=by simp only[dV,List.getElem?_append];split <;> rfl
theorem bU{l:List α}(h:k<l.length):l.getD k default=l[k]:=by simp_all
theorem aM{l:List α}(h:k<l.length):l.getD k default∈l:=by simp_all
theorem pX(l:List α)(k:Nat):l.toArray[k]! = l.getD k default:=by simp[getElem!_def]; cases l[k]? <;> rfl
theorem Im{l r:List α}(h:l.length=r.length)(D:∀ k,k<l.length->l.getD k default=r.getD k default):l=r:=by
 apply Rr h;intro k h1 h2;have:=D k h1
 rwa [bU h1,bU h2]at this
theorem aJ{l:List α}(h:k<l.length):l.take (k+1)=l.take k++[l.getD k default]:=by rw[bU h,List.take_succ_eq_append_getElem h]
theorem dF{l:List α}(h:k<l.length):l.drop k=l.getD k default::l.drop (k+1):=by rw[bU h,List.drop_eq_getElem_cons h]
theorem iW(l:List α)(i k:Nat)(x:α):(l.set i x).getD k default=if k=i/\i<l.length then x else l.getD k default:=by grind
def pG(l:List α)(i j:Nat):List α:=(l.set i (l.getD j default)).set j (l.getD i default)
theorem sN(l:List α)(i j:Nat):(pG l i j).toArray=Sort.swp l.toArray i j:=by unfold pG Sort.swp;rw[pX,pX,List.setIfInBounds_toArray,List.setIfInBounds_toArray]
theorem sS(l:List α)(i j:Nat):(pG l i j).length=l.length:=by simp[pG]
theorem Ip(p:List α)(x:α)(m:List α)(y:α)(q:List α):pG (p++x::(m++y::q)) p.length (p.length+1+m.length)=p++y::(m++x::q):=by
 have G:(p++x::(m++y::q)).getD p.length default=x:=by simp_all
 have D:(p++x::(m++y::q)).getD (p.length+1+m.length) default=y:=by grind
 unfold pG;grind
theorem aEA(p:List α)(x:α)(m:List α)(y:α)(q:List α):pG (p++x::(m++y::q)) (p.length+1+m.length) p.length=p++y::(m++x::q):=by
 rw[<-Ip p x m y q];apply Im
 ·simp[pG]
 ·intro k hk;simp only[pG,iW,List.length_set];grind
theorem uB(l:List α)(hi:i<l.length)(D:j<l.length):(pG l i j).Perm l:=by unfold pG;rw[bU hi,bU D];exact Sort.perm_set_set l i j hi D
end
structure TO {α:Type}(c:α->α->Int):Prop where
 eq:∀ a b,c a b=0↔a=b
 sw:∀ a b,c a b<0↔0<c b a
 tr:∀ a b d,c a b<0->c b d<0->c a d<0
def pE(a b:Int):Int:=if a<b then -1 else if b<a then 1 else 0
theorem TO.int:TO pE:=by
 constructor
 ·intro a b; unfold pE; split <;> (try split) <;> omega
 ·intro a b; unfold pE; split <;> (try split) <;> (try split) <;> omega
 ·intro a b d; unfold pE; split <;> (try split) <;> (try split) <;> (try split) <;> (try split) <;> omega
def eR(a b:Int):Int:=if a=0 then b else a
theorem TO.lex{α β γ:Type}{c:β->β->Int}{d:γ->γ->Int}(hc:TO c)(D:TO d){f:α->β}{g:α->γ}(inj:∀ x y,f x=f y->g x=g y->x=y):TO (fun x y=>eR (c (f x) (f y)) (d (g x) (g y))):=by
 constructor
 ·intro x y;unfold eR;constructor
  ·intro h;split at h
   ·rename_i h1; exact inj x y ((hc.eq _ _).1 h1) ((D.eq _ _).1 h)
   omega
  ·rintro rfl;rw[aA ((hc.eq _ _).2 rfl)]; exact(D.eq _ _).2 rfl
 ·intro x y;unfold eR;by_cases h1:c (f x) (f y)=0
  ·have h2:=(hc.eq _ _).1 h1;rw[aA h1,aA ((hc.eq _ _).2 h2.symm)];exact D.sw _ _
  ·rw[aF h1,aF (fun h=>h1 ((hc.eq _ _).2 ((hc.eq _ _).1 h).symm))];exact hc.sw _ _
 ·intro x y z;unfold eR;by_cases h1:c (f x) (f y)=0
  ·have h2:=(hc.eq _ _).1 h1;rw[aA h1,h2];by_cases h3:c (f y) (f z)=0
   ·rw[aA h3,aA h3]; exact D.tr _ _ _
   omega
  ·rw[aF h1];by_cases h3:c (f y) (f z)=0
   ·have h4:=(hc.eq _ _).1 h3;simp_all
   ·rw[aF h3];intro J G;have M:=hc.tr _ _ _ J G;omega
def rJ{α:Type}(c:α->α->Int):List α->List α->Int
 | [],[]=>0
 | [],_::_=>-1
 | _::_,[]=>1
 | a::l,b::r=>eR (c a b) (rJ c l r)
theorem TO.list{α:Type}{c:α->α->Int}(hc:TO c):TO (rJ c):=by
 constructor
 ·intro l
  induction l with
  | nil=>intro r; cases r <;> simp[rJ]
  | cons a l ih=>
   intro r;cases r with
   | nil=>simp[rJ]
   | cons b r=>
    simp only[rJ,eR];constructor
    ·intro h;split at h
     ·rename_i h1; rw[(hc.eq _ _).1 h1,(ih r).1 h]
     omega
    ·intro h;injection h with h1 h2;rw[aA ((hc.eq _ _).2 h1)]; simp_all
 ·intro l
  induction l with
  | nil=>intro r; cases r <;> simp[rJ]
  | cons a l ih=>
   intro r;cases r with
   | nil=>rfl
   | cons b r=>
    simp only[rJ,eR];by_cases h1:c a b=0
    ·have h2:=(hc.eq _ _).1 h1;simp_all
    ·rw[aF h1,aF (fun h=>h1 ((hc.eq _ _).2 ((hc.eq _ _).1 h).symm))]; exact hc.sw _ _
 ·intro l
  induction l with
  | nil=>intro r s; cases r <;> cases s <;> simp[rJ]
  | cons a l ih=>
   intro r s;cases r with
   | nil=>simp[rJ]
   | cons b r=>
    cases s with
    | nil=>simp[rJ]
    | cons d s=>
     simp only[rJ,eR];by_cases h1:c a b=0
     ·have h2:=(hc.eq _ _).1 h1;grind
     ·rw[aF h1];by_cases h3:c b d=0
      ·have h4:=(hc.eq _ _).1 h3;simp_all
      ·rw[aF h3];intro G D;have J:=hc.tr _ _ _ G D;omega
theorem qP:∀ (a b:List UInt8),Lib.compareBytes a b=rJ (fun x y:UInt8=>pE (x.toNat:Int) (y.toNat:Int)) a b
 | [],[]=>rfl
 | [],_::_=>rfl
 | _::_,[]=>rfl
 | a::l,b::m=>by
  rw[Lib.compareBytes,rJ,qP l m];have e1:(a<b)↔((a.toNat:Int)<(b.toNat:Int)):=by rw[UInt8.lt_iff_toNat_lt]; omega
  have e2:(b<a)↔((b.toNat:Int)<(a.toNat:Int)):=by rw[UInt8.lt_iff_toNat_lt]; omega
  generalize rJ (fun x y:UInt8=>pE (x.toNat:Int) (y.toNat:Int)) l m=r;show _=eR (if (a.toNat:Int)<(b.toNat:Int) then -1 else if (b.toNat:Int)<(a.toNat:Int) then 1 else 0) r;by_cases h1:(a.toNat:Int)<b.toNat
  ·rw[aA (e1.2 h1),aA h1]; rfl
  ·rw[aF (fun h=>h1 (e1.1 h)),aF h1];by_cases h2:(b.toNat:Int)<a.toNat
   ·rw[aA (e2.2 h2),aA h2]; rfl
   ·rw[aF (fun h=>h2 (e2.1 h)),aF h2]; rfl
theorem TO.u8:TO (fun x y:UInt8=>pE (x.toNat:Int) (y.toNat:Int)):=by
 constructor
 ·intro a b;rw[TO.int.eq];exact⟨fun h=>UInt8.toNat_inj.1 (by omega),fun h=>by rw[h]⟩
 ·intro a b; exact TO.int.sw _ _
 ·intro a b d; exact TO.int.tr _ _ _
def zA(a b:ByteArray):Int:=Lib.compareBytes a.data.toList b.data.toList
theorem TO.str:TO zA:=by
 have h:=TO.list TO.u8;unfold zA;constructor
 ·intro a b;rw[qP,h.eq];constructor
  ·intro h; cases a; simp_all
  simp_all
 ·intro a b; rw[qP,qP]; exact h.sw _ _
 ·intro a b d; rw[qP,qP,qP]; exact h.tr _ _ _
def gC(a b:aE):Int:=eR (pE a.Kind b.Kind) (eR (pE a.N b.N) (zA a.S b.S))
abbrev yE:List aE->List aE->Int:=rJ gC
def dC(a b:aB):Int:=eR (pE a.Time b.Time) (yE a.Row b.Row)
theorem TO.val:TO gC:=by have h:=TO.lex (f:=fun x:ByteArray×Int=>x.2) (g:=fun x=>x.1) TO.int TO.str (fun x y h1 h2=>Prod.ext h2 h1);exact TO.lex (f:=fun x:aE=>x.Kind) (g:=fun x=>(x.S,x.N)) TO.int h (fun x y h1 h2=>by cases x; simp_all)
theorem TO.row:TO yE:=TO.val.list
def pl(d:aB):Int×List aE:=(d.Time,d.Row)
def Ux(a b:Int×List aE):Int:=eR (pE a.1 b.1) (yE a.2 b.2)
theorem TO.place:TO Ux:=TO.lex (f:=fun x:Int×List aE=>x.1) (g:=fun x=>x.2) TO.int TO.row (fun _ _ h1 h2=>Prod.ext h1 h2)
theorem qI(a b:aB):dC a b=Ux (pl a) (pl b):=rfl
theorem Iz(a:Int):eR a 0=a:=by unfold eR; split <;> simp_all
theorem aSM(a:Int):aZY a=some false:=by unfold aZY bDH; simp[Tr.den]
theorem Yy(a b:Int):bBF a b=some (pE a b):=by unfold bBF bBU;simp only[Tr.den,aSM,aI,eO,eH,jX,pE,gt_iff_lt];split <;> (try split) <;> rfl
theorem aPD(a b:ByteArray):bEQ a b=some (zA a b):=rfl
theorem aBR(l:List Int)(h:l.length<=1000):aYH l=some (l.foldr eR 0):=by
 refine Sp.eq ?_;unfold aYH bAS;simp only[Tr.den,bR];refine Sq.while (fun k:Int=>0<=k/\k<=l.length/\(l.drop k.toNat).foldr eR 0=l.foldr eR 0) (fun k=>l.length-k.toNat) (fun k hk=>?_) ⟨by omega,by omega,by simp⟩;obtain⟨J,h1,h2⟩:=hk;unfold Zz;simp only[Tr.den,jX];by_cases hk:k<l.length
 ·have G:k.toNat<l.length:=by omega
  rw[aA hk,aA ⟨J,hk⟩];rw[dF G]at h2;simp only[List.foldr_cons]at h2;by_cases D:l.getD k.toNat default=0
  ·rw[aF (Sh D)];rw[aV];refine aC.2 ⟨⟨by omega,by omega,?_⟩,by omega⟩;rw[show (k+1).toNat=k.toNat+1 by omega,<-h2]; simp only[eR,D,gT]
  ·rw[aA (So D)];refine aC.2 (aC.2 ?_);rw[<-h2]; unfold eR; rw[aF D]
 ·rw[aF hk];refine aC.2 (aC.2 ?_);have:l.drop k.toNat=[]:=kO (by omega);grind
theorem wX(a b:aE):aZF a b=some (gC a b):=by unfold aZF aZQ;simp only[Tr.den,Yy,aPD,aI];rw[aBR _ (by simp)];simp[Iz,gC]
theorem aEJ(a b:List aE)(ha:a.length<=1073741824)(hb:b.length<=1073741824):Xi a b=some (yE a b):=by
 refine Sp.eq ?_;unfold Xi Vj;simp only[Tr.den,bR];refine Sq.while (fun k:Int=>0<=k/\k<=a.length/\k<=b.length/\yE (a.drop k.toNat) (b.drop k.toNat)=yE a b) (fun k=>a.length-k.toNat) (fun k hk=>?_) ⟨by omega,by omega,by omega,by simp⟩;obtain⟨Q,h1,h2,h3⟩:=hk;unfold Kp;simp only[Tr.den,jX,wX,aI];by_cases hk:k<a.length
 ·have J:k.toNat<a.length:=by omega
  rw[aA hk,aA ⟨Q,hk⟩];rw[dF J]at h3;by_cases D:k>=b.length
  ·rw[aA D];refine aC.2 (aC.2 ?_);have:b.drop k.toNat=[]:=kO (by omega);rw[this]at h3;simpa[rJ] using h3
  ·have M:k.toNat<b.length:=by omega
   rw[dF M]at h3;simp only[rJ]at h3;rw[aF D,aA ⟨Q,by omega⟩];by_cases G:gC (a.getD k.toNat default) (b.getD k.toNat default)=0
   ·rw[aF (Sh G),aV];refine aC.2 ⟨⟨by omega,by omega,by omega,?_⟩,by omega⟩;rw[show (k+1).toNat=k.toNat+1 by omega]; refine Eq.trans ?_ h3; simp only[eR,G,gT]
   ·rw[aA (So G)];refine aC.2 (aC.2 ?_);refine Eq.trans ?_ h3; simp only[eR,aF G]
 ·rw[aF hk];refine aC.2 ?_;have e:a.drop k.toNat=[]:=kO (by omega);rw[e]at h3;simp only[sel];by_cases hl:(a.length:Int)<b.length
  ·rw[aA hl];refine aC.2 ?_;rw[dF (show k.toNat<b.length by omega)]at h3;exact h3
  ·rw[aF hl];refine aC.2 ?_;rw[kO (show b.length<=k.toNat by omega)]at h3;exact h3
theorem aUX(a b:List aE)(ha:a.length<=1073741824)(hb:b.length<=1073741824):bAW a b=some (yE a b):=by unfold bAW bBC;simp only[Tr.den,aEJ a b ha hb,aI]
def okR(d:aB):Prop:=d.Row.length<=1073741824
theorem uN(a b:aB)(ha:okR a)(hb:okR b):bAY a b=some (dC a b):=by unfold bAY bBW;simp only[Tr.den,Yy,aUX _ _ ha hb,aI];rw[aBR _ (by simp)];simp[Iz,dC]
def ltD(a b:aB):Bool:=decide (dC a b<0)
theorem zR{y z:aB}:dC x y<0->dC y z<0->dC x z<0:=fun h1 h2=>TO.place.tr (pl x) (pl y) (pl z) h1 h2
theorem iP:Sort.SWO ltD:=by
 constructor
 ·intro x; simp[ltD,(TO.place.eq (pl x) (pl x)).2 rfl,qI]
 ·intro x y z h1 h2;simp only[ltD,jX]at *
  exact zR h1 h2
 ·intro x y z h1 h2;simp only[ltD,qI]at h1 h2 ⊢;have h1:=vY h1;have h2:=vY h2;refine kU fun h3=>?_;have s1:=TO.place.sw (pl x) (pl y);have Z:=TO.place.sw (pl y) (pl z);have Q:=TO.place.sw (pl y) (pl x);have M:=TO.place.sw (pl z) (pl y);have J:=TO.place.sw (pl x) (pl z);have G:=TO.place.sw (pl z) (pl x);by_cases h4:Ux (pl x) (pl y)=0
  ·rw[(TO.place.eq _ _).1 h4]at h3; omega
  ·by_cases D:Ux (pl y) (pl z)=0
   ·rw[<-(TO.place.eq _ _).1 D]at h3; omega
   ·have:=TO.place.tr (pl z) (pl y) (pl x) (by omega) (by omega);omega
theorem zZ{y:aB}(h:ltD x y=true):ltD y x=false:=by
 cases hh:ltD y x with
 | false=>rfl
 | true=>have:=iP.trans _ _ _ h hh;rw[iP.irrefl]at this; cases this
set_option maxRecDepth 20000
def vI(n:Int):aE:=⟨0,n,⟨#[]⟩⟩
def vB(b:Bool):aE:=⟨2,if b then 1 else 0,⟨#[]⟩⟩
def vT(s:ByteArray):aE:=⟨1,0,s⟩
theorem fO(n:Int):bAE n=some (vI n):=by simp[bAE,aWZ,Tr.den,vI]
theorem Np(n:Int):bEY n=some (vI n):=by rfl
theorem gZ(b:Bool):aZD b=some (vB b):=by cases b <;> simp[aZD,bDL,Tr.den,vB]
def bop(op:Int)(a b:aE):aE:=
 if op=8 then vI (IntKind.i64.wrap (a.N+b.N)) else if op=9 then vI (IntKind.i64.wrap (a.N-b.N)) else if op=10 then vI (IntKind.i64.wrap (a.N*b.N))
 else if op=11 then (if b.N=0 then vI 0 else vI (IntKind.i64.wrap (Int.tdiv a.N b.N))) else if op=12 then (if b.N=0 then vI 0 else vI (Int.tmod a.N b.N))
 else if op=13 then vB ((a.Kind==b.Kind)&&((a.N==b.N)&&(a.S.toList==b.S.toList))) else if op=14 then vB (!((a.Kind==b.Kind)&&((a.N==b.N)&&(a.S.toList==b.S.toList))))
 else if op=15 then vB (decide (gC a b<0)) else if op=16 then vB (decide (gC a b<=0))
 else if op=17 then vB (a.N==1&&b.N==1) else if op=18 then vB (a.N==1 || b.N==1)
 else vT ((a.S++b.S).extract 0 (min 200 (a.S.size+b.S.size)))
theorem Om(p:bY):aWR p=some (bop 8 p.a_ p.b_):=by simp[aWR,aYI,Tr.den,fO,bop]
theorem Nv(p:bY):bEB p=some (bop 9 p.a_ p.b_):=by rfl
theorem Nd(p:bY):bEV p=some (bop 10 p.a_ p.b_):=by rfl
theorem Pz(p:bY):aVG p=some (bop 11 p.a_ p.b_):=by
 by_cases h:p.b_.N=0
 ·simp[aVG,aNL,Tr.den,fO,bop,h]
 ·simp[aVG,aNL,Tr.den,fO,bop,h]
theorem Ql(p:bY):aQS p=some (bop 12 p.a_ p.b_):=by
 by_cases h:p.b_.N=0
 ·simp[aQS,aOX,Tr.den,fO,bop,h]
 ·simp[aQS,aOX,Tr.den,fO,bop,h]
theorem Na(p:bY):bCA p=some (bop 13 p.a_ p.b_):=by simp[bCA,bAP,Tr.den,gZ,bop]
theorem Oq(p:bY):aYN p=some (bop 14 p.a_ p.b_):=by simp[aYN,bAO,Tr.den,gZ,bop]
theorem Qd(p:bY):aYO p=some (bop 15 p.a_ p.b_):=by simp[aYO,aXG,Tr.den,wX,gZ,bop]
theorem Pv(p:bY):bBM p=some (bop 16 p.a_ p.b_):=by simp[bBM,bCL,Tr.den,wX,gZ,bop]
theorem Ok(p:bY):aPY p=some (bop 17 p.a_ p.b_):=by
 by_cases h:p.a_.N=1
 ·simp[aPY,aUB,Tr.den,gZ,bop,h]
 ·have e:(p.a_.N==1)=false:=by grind
  simp[aPY,aUB,Tr.den,gZ,bop,e]
theorem Ot(p:bY):aRH p=some (bop 18 p.a_ p.b_):=by
 by_cases h:p.a_.N=1
 ·simp[aRH,aUR,Tr.den,gZ,bop,h]
 ·have e:(p.a_.N==1)=false:=by grind
  simp[aRH,aUR,Tr.den,gZ,bop,e]
theorem No(p:bY)(h:p.a_.S.size+p.b_.S.size<=9223372036854775807):Sc p=some (bop 19 p.a_ p.b_):=by
 have hs:(p.a_.S++p.b_.S).size=p.a_.S.size+p.b_.S.size:=rE;have h1:((p.a_.S.size+p.b_.S.size:Nat):Int)<=9223372036854775807:=by omega
 by_cases hc:(200:Int)<((p.a_.S.size+p.b_.S.size:Nat):Int)
 ·have e:min 200 (p.a_.S.size+p.b_.S.size)=200:=by omega
  simp only[Sc,aFA,Tr.den,bop,hs,aA hc,aA h1,e];simp[vT]; omega
 ·have e:min 200 (p.a_.S.size+p.b_.S.size)=p.a_.S.size+p.b_.S.size:=by omega
  simp only[Sc,aFA,Tr.den,bop,hs,aF hc,aA h1,e];simp[vT];grind
set_option linter.unusedVariables false
section
variable {α:Type} [Inhabited α] (tm:α->Int) (nx:Int->α->Int) (hit:Int->Bool) (sz:Int)
end
def jQ(l:List aB):Prop:=∀ x,x∈l->okR x
theorem aRF:okR default:=by show ([]:List aE).length<=_; simp
theorem jQ.get(h:jQ l)(k:Nat):okR (l.getD k default):=by
 by_cases hk:k<l.length
 ·exact h _ (aM hk)
 ·rw[dV,Bf (by omega)]; exact aRF
theorem jQ.perm{r:List aB}(h:jQ l)(hp:l.Perm r):jQ r:=fun x hx=>h x (hp.mem_iff.2 hx)
theorem aMN(a a2 v2:Int)(D:Nat)(ha:a=D):∀ (j:Nat) (l:List aB),jQ l->j<l.length->l.length<=1000000000000000 ->
  bW (fun s=>(mH a a2 v2 s).den) (l,(j:Int))=some (.inl (Sort.insInner ltD D j l.toArray).toList):=by
 intro j
 induction j with
 | zero=>intro l hl G hn;refine fQ ?_;unfold mH;simp only[Tr.den];rw[aF (by simp; omega)];simp[Sort.insInner]
 | succ j ih=>
  intro l hl G hn;have J:IntKind.i64.wrap (((j+1:Nat):Int)-1)=(j:Int):=sO (by omega);by_cases hc:D<j+1
  ·have hlt:ltD (l.getD (j+1) default) (l.getD j default)=decide (dC (l.getD (j+1) default) (l.getD j default)<0):=rfl;cases hd:ltD (l.getD (j+1) default) (l.getD j default) with
   | false=>refine fQ ?_;unfold mH;simp only[Tr.den];rw[J];rw[aA (by simp; omega),aA,aA,aA,aA];simp only[aL];rw[uN _ _ (hl.get _) (hl.get _)];simp only[aI];rw[<-hlt,hd];simp only[eO,eH];unfold Sort.insInner;grind
   | true=>
    rw[lJ (s':=(pG l (j+1) j,(j:Int)))]
    ·have h2:=ih (pG l (j+1) j) (hl.perm (uB l G (by omega)).symm) (by rw[sS]; omega) (by rw[sS]; exact hn);rw[h2,sN]
     conv=>rhs; unfold Sort.insInner
     simp_all
    ·unfold mH;simp only[Tr.den];rw[J];rw[aA (by simp; omega),aA,aA,aA,aA];simp only[aL];rw[uN _ _ (hl.get _) (hl.get _)];simp only[aI];rw[<-hlt,hd];simp only[gT];rw[aA,aA,aA,aA,aA,aA,aA,aA,aA (by simp; omega)];rfl
  ·refine fQ ?_;unfold mH;simp only[Tr.den];rw[aF (by simp; omega)];simp only[aI,eO,eH];unfold Sort.insInner;simp[hc]
theorem Xa(a b:Nat)(n:Nat):∀ (i:Nat) (l:List aB),b-i=n->a<i->b<=l.length->l.length<=1000000000000000->jQ l ->
  bW (fun s=>(tX (a:Int) (b:Int) s).den) (l,(i:Int))=some (.inl (Sort.insOuter ltD a b i l.toArray).toList):=by
 induction n with
 | zero=>intro i l hi ha hb hn hl;refine fQ ?_;unfold tX;simp only[Tr.den];rw[aF (by simp; omega),Sort.insOuter,aF]
 | succ n ih=>
  intro i l hi ha hb hn hl;have h1:=aMN (a:Int) (b:Int) (i:Int) a rfl i l hl (by omega) hn;have hp:=(Sort.insInner_spec iP Sort.swp_permIn Sort.permIn_refl Sort.permIn_trans 0 b i (by omega));have G:(Sort.insInner ltD a i l.toArray).size=l.length:=by
   have:∀ (j:Nat) (d:Array aB),(Sort.insInner ltD a j d).size=d.size:=by
    intro j
    induction j with
    | zero=>intro d; rfl
    | succ j ih=>intro d; unfold Sort.insInner; split <;> simp[ih,Sort.swp_size]
   simp_all
  have D:(Sort.insInner ltD a i l.toArray).toList.Perm l:=by
   have:∀ (j:Nat) (d:Array aB),j<d.size->(Sort.insInner ltD a j d).toList.Perm d.toList:=by
    intro j
    induction j with
    | zero=>intro d _; rfl
    | succ j ih=>
     intro d J;unfold Sort.insInner;split
     ·refine(ih _ (by rw[Sort.swp_size]; omega)).trans ?_;have e:=sN d.toList (j+1) j;rw[nH]at e;rw[<-e];exact uB d.toList (i:=j+1) (j:=j) (by omega) (by simp; omega)
     rfl
   grind
  rw[lJ (s':=((Sort.insInner ltD a i l.toArray).toList,((i+1:Nat):Int)))]
  ·rw[ih (i+1) _ (by omega) (by omega) (by simp_all) (by simp_all) (hl.perm D.symm)]
   conv=>rhs; rw[Sort.insOuter,aA]
  ·unfold tX;simp only[Tr.den];rw[aA (by simp; omega),h1];simp only[aI,sel];rw[aK]
theorem aDF(a b:Nat)(l:List aB)(hb:b<=l.length)(D:a<=b)(hn:l.length<=1000000000000000)(hl:jQ l):Nz (a:Int) (b:Int) l=some (Sort.insertionSort ltD l.toArray a b).toList:=by unfold Nz Wu;simp only[Tr.den];rw[aK,Xa a b _ (a+1) l rfl (by omega) hb hn hl];rfl
theorem aWQ(P X M Y Q:List aB)(n:Nat)(hx:X.length=n)(hy:Y.length=n)(i:Nat)(hi:i<n):
  pG (P++(Y.take i++(X.drop i++(M++(X.take i++(Y.drop i++Q)))))) (P.length+i) (P.length+n+M.length+i)=P++(Y.take (i+1)++(X.drop (i+1)++(M++(X.take (i+1)++(Y.drop (i+1)++Q))))):=by
 have h:=Ip (P++Y.take i) (X.getD i default) (X.drop (i+1)++(M++X.take i)) (Y.getD i default) (Y.drop (i+1)++Q);have G:(P++Y.take i).length=P.length+i:=by simp; omega
 have D:(P++Y.take i).length+1+(X.drop (i+1)++(M++X.take i)).length=P.length+n+M.length+i:=by simp; omega
 rw[D,G]at h;rw[dF (show i<X.length by omega),dF (show i<Y.length by omega),aJ (show i<X.length by omega),aJ (show i<Y.length by omega)];simpa using h
theorem Bo(P X M Y Q:List aB)(n:Nat)(hx:X.length=n)(hy:Y.length=n)(a b c:Int)(ha:a=P.length)(hb:b=((P.length+n+M.length:Nat):Int))(hc:c=n)(hn:(P++(X++(M++(Y++Q)))).length<=1000000000000000):
  Wq a b c (P++(X++(M++(Y++Q))))=some (P++(Y++(M++(X++Q)))):=by
 subst ha hb hc;simp only[dR]at hn;unfold Wq Vp;simp only[Tr.den];have h:=aP (bd:=fun s=>(tO (P.length:Int) ((P.length+n+M.length:Nat):Int) (n:Int) s).den) (fun i=>(P++(Y.take i++(X.drop i++(M++(X.take i++(Y.drop i++Q))))),(i:Int))) n (r:=.inl (P++(Y++(M++(X++Q))))) (fun i hi=>?_) ?_
 ·simp only[List.take_zero,Hf,kK]at h;refine(congrArg (fun x=>Option.bind x _) h).trans ?_;rfl
 ·have D:(P++(Y.take i++(X.drop i++(M++(X.take i++(Y.drop i++Q)))))).length=P.length+n+M.length+n+Q.length:=by simp; omega
  unfold tO;simp only[Tr.den];rw[dM (by omega),dM (by omega)];simp only[aL];rw[D];rw[aA (by simp; omega),aA,aA,aA,aA,aA,aA,aA,aA,aA (by simp; omega),aK];rw[<-aWQ P X M Y Q n hx hy i hi];rfl
 ·unfold tO;simp only[Tr.den];rw[aF (by simp)];rw[iU (by omega),iU (by omega),Zt (by omega),Zt (by omega)];simp
theorem Mb(b:Bool)(P U V Q:List aB)(D:U≠[])(hv:V≠[])(a1 a2 a3:Int)(h1:a1=P.length)(h2:a2=((P.length+U.length:Nat):Int))(h3:a3=((P.length+U.length+V.length:Nat):Int))(hn:(P++(U++(V++Q))).length<=1000000000000000):
  Sq b (zV a1 a2 a3 (P++(U++(V++Q)))) (fun d=>d=P++(V++(U++Q))):=by
 subst h1 h2 h3;unfold zV Wj;simp only[Tr.den,bR];generalize hm:P.length+U.length=m;generalize G:P++(V++(U++Q))=T;have J:(P++(U++(V++Q))).length=T.length:=by grind
 rw[eN (by omega) (by grind),eN (by omega) (by grind)];refine Sq.while (fun s:List aB×Int×Int=>∃ P U V Q:List aB,s.1=P++(U++(V++Q))/\P.length+U.length=m/\s.2.1=U.length/\s.2.2=V.length/\U≠[]/\V≠[]/\P++(V++(U++Q))=T)
  (fun s=>(s.2.1+s.2.2).toNat) (fun s hs=>?_) ⟨P,U,V,Q,rfl,hm,by grind,by simp_all,D,hv,G⟩
 clear D hv G hm;obtain⟨l,i,j⟩:=s;obtain⟨P,U,V,Q,rfl,hm,hi,Z,D,hv,G⟩:=hs;simp only at hi Z;subst hi Z;have hTl:T.length=P.length+U.length+V.length+Q.length:=by grind
 rw[J]at hn;have hu0:0<U.length:=fM.2 D;have hv0:0<V.length:=fM.2 hv;unfold Jq;simp only[Tr.den];by_cases M:U.length=V.length
 ·rw[aF (by simp; omega)];refine aC.2 ?_;simp only[sel];have h:=Bo P U [] V Q U.length rfl M.symm (IntKind.i64.wrap ((m:Int)-(U.length:Int))) (m:Int) (U.length:Int) (by rw[eN]; omega) (by simp; omega) rfl (by simp; omega);simp only[kK]at h;rw[h];simp only[aI];exact aC.2 G
 ·rw[aA (by simp; omega)];by_cases hgt:U.length>V.length
  ·rw[aA (by simp; omega)];have hU:U=U.take V.length++U.drop V.length:=(gV _ _).symm;have h:=Bo P (U.take V.length) (U.drop V.length) V Q V.length (by simp; omega) rfl (IntKind.i64.wrap ((m:Int)-(U.length:Int))) (m:Int) (V.length:Int) (by rw[eN]; omega) (by simp; omega) rfl (by simp; omega);rw[<-cR (U.take V.length),<-hU]at h;rw[h];simp only[aI];rw[eN];refine aC.2 ⟨⟨P++V,U.drop V.length,U.take V.length,Q,by grind,by grind,by grind,by grind,?_,?_,?_⟩,by grind⟩
   all_goals grind
  ·rw[aF (by simp; omega)];have hV:V=V.take (V.length-U.length)++V.drop (V.length-U.length):=(gV _ _).symm;have h:=Bo P U (V.take (V.length-U.length)) (V.drop (V.length-U.length)) Q U.length rfl (by simp; omega) (IntKind.i64.wrap ((m:Int)-(U.length:Int))) (IntKind.i64.wrap (IntKind.i64.wrap ((m:Int)+(V.length:Int))-(U.length:Int))) (U.length:Int) (by rw[eN]; omega) (by rw[dM (by omega),eN]; simp; omega) rfl (by simp; omega);rw[<-cR (V.take (V.length-U.length)),<-hV]at h;rw[h];simp only[aI];rw[eN];refine aC.2 ⟨⟨P,V.drop (V.length-U.length),V.take (V.length-U.length),U++Q,by simp,by simp; omega,by simp; omega,by simp,?_,?_,?_⟩,by simp only; omega⟩
   all_goals grind
def Srt(l:List aB):Prop:=l.Pairwise (fun x y=>ltD y x=false)
theorem Srt.app{r:List aB}:Srt (l++r)↔Srt l/\Srt r/\∀ x,x∈l->∀ y,y∈r->ltD y x=false:=by unfold Srt; rw[wN]
theorem Srt.get(h:Srt l)(D:i<=j)(G:j<l.length):ltD (l.getD j default) (l.getD i default)=false:=by
 rcases Nat.lt_or_eq_of_le D with h1 | h1
 ·rw[bU G,bU (show i<l.length by omega)];exact Bu.1 h i j (by omega) G h1
 ·subst h1; exact iP.irrefl _
theorem qJ(h:∀ i j,i<j->j<l.length->ltD (l.getD j default) (l.getD i default)=false):Srt l:=by
 unfold Srt;rw[Bu];intro i j hi G D;have:=h i j D G
 rwa [bU G,bU hi]at this
theorem Km{R':Type}(b:Bool)(bd:Int×Int->Option ((Int×Int)⊕(Int⊕R')))(p:Nat->Bool)(i0 j0:Nat)(Q:i0<=j0)
  (G:∀ i j:Nat,i0<=i->i<j->j<=j0->bd ((i:Int),(j:Int))=some (.inl (if p ((i+j) / 2)=true then ((((i+j) / 2+1:Nat):Int),(j:Int)) else ((i:Int),(((i+j) / 2:Nat):Int)))))
  (D:∀ i:Nat,i0<=i->i<=j0->bd ((i:Int),(i:Int))=some (.inr (.inl (i:Int))))(mono:∀ h k,i0<=k->k<=h->h<j0->p h=true->p k=true):
  Sq b (bW bd ((i0:Int),(j0:Int))) (sel (fun r:Int=>∃ n:Nat,r=n/\i0<=n/\n<=j0/\(∀ k,i0<=k->k<n->p k=true)/\(∀ k,n<=k->k<j0->p k=false)) (fun _=>False)):=by
 refine Sq.while (fun s=>∃ i j:Nat,s=((i:Int),(j:Int))/\i0<=i/\i<=j/\j<=j0/\(∀ k,i0<=k->k<i->p k=true)/\(∀ k,j<=k->k<j0->p k=false)) (fun s=>(s.2-s.1).toNat) (fun s hs=>?_)
  ⟨i0,j0,rfl,cM _,Q,cM _,fun k h1 h2=>by omega,fun k h1 h2=>by omega⟩
 obtain⟨i,j,rfl,h1,h2,h3,h4,Z⟩:=hs;by_cases hlt:i<j
 ·rw[G i j h1 hlt h3];refine aC.2 ?_;by_cases hp:p ((i+j) / 2)=true
  ·rw[aA hp];refine⟨⟨(i+j) / 2+1,j,rfl,by omega,by omega,h3,fun k M J=>?_,Z⟩,by omega⟩;grind
  ·rw[aF hp];refine⟨⟨i,(i+j) / 2,rfl,h1,by omega,by omega,h4,fun k M J=>?_⟩,by omega⟩;grind
 ·have:i=j:=by omega
  subst this;rw[D i h1 h3];exact aC.2 ⟨i,rfl,h1,h3,h4,Z⟩
section
variable (P A B Q:List aB)
theorem aHZ(P B R:List aB)(x:aB)(e:Int)(he:e=((P.length+B.length+1:Nat):Int))(hn:(P++x::(B++R)).length<=1000000000000000):
  bW (fun s=>(mC e s).den) (P++x::(B++R),(P.length:Int))=some (.inl (P++(B++x::R))):=by
 subst he;simp only[dR,fX]at hn;have h:=aP (bd:=fun s=>(mC ((P.length+B.length+1:Nat):Int) s).den) (fun t=>(P++(B.take t++x::(B.drop t++R)),((P.length+t:Nat):Int))) B.length (r:=.inl (P++(B++x::R))) (fun t D=>?_) ?_
 ·simpa using h
 ·have G:(P++(B.take t++x::(B.drop t++R))).length=P.length+B.length+1+R.length:=by simp; omega
  unfold mC;simp only[Tr.den];rw[sO (by omega),aK];simp only[aL];rw[G];rw[aA (by simp; omega),aA,aA,aA,aA,aA,aA,aA,aA,aA (by simp; omega)];have h2:=Ip (P++B.take t) x [] (B.getD t default) (B.drop (t+1)++R);rw[aJ D,dF D];rw[show (P++B.take t).length=P.length+t by simp; omega]at h2;simp only[rV,yV,kK,cR,vM]at h2 ⊢;rw[<-h2];rfl
 ·unfold mC;simp only[Tr.den];rw[sO (by omega),aF (by simp)];simp
theorem Sa(P A R:List aB)(y:aB)(e k:Int)(he:e=(P.length:Int))(hk:k=((P.length+A.length:Nat):Int))(hn:(P++(A++y::R)).length<=1000000000000000):
  bW (fun s=>(mG e s).den) (P++(A++y::R),k)=some (.inl (P++y::(A++R))):=by
 subst he hk;simp only[dR,fX]at hn;have h:=aP (bd:=fun s=>(mG (P.length:Int) s).den) (fun t=>(P++(A.take (A.length-t)++y::(A.drop (A.length-t)++R)),((P.length+(A.length-t):Nat):Int))) A.length (r:=.inl (P++y::(A++R))) (fun t M=>?_) ?_
 ·simpa using h
 ·have G:(P++(A.take (A.length-t)++y::(A.drop (A.length-t)++R))).length=P.length+A.length+1+R.length:=by simp; omega
  unfold mG;simp only[Tr.den];obtain⟨u,J⟩:∃ u,A.length-t=u+1:=⟨A.length-t-1,by omega⟩;have D:A.length-(t+1)=u:=by omega
  rw[J]at G ⊢;rw[D];rw[<-Gf,sO (by omega)];simp only[aL];rw[G];rw[aA (by simp; omega),aA,aA,aA,aA,aA,aA,aA,aA,aA (by simp; omega)];have h2:=aEA (P++A.take u) (A.getD u default) [] y (A.drop (u+1)++R);rw[aJ (show u<A.length by omega),dF (show u<A.length by omega)];rw[show (P++A.take u).length=P.length+u by simp; omega]at h2;simp only[rV,yV,kK,cR,vM]at h2 ⊢;rw[<-h2];rfl
 ·unfold mG;simp only[Tr.den];rw[aF (by simp)];simp
end
def gI(P A B Q:List aB):Int×Int×Int×List aB:=((P.length:Int),((P.length+A.length:Nat):Int),((P.length+A.length+B.length:Nat):Int),P++(A++(B++Q)))
def aXI(a:Int×Int×Int×List aB):Prop:=∃ P A B Q,a=gI P A B Q/\A≠[]/\B≠[]/\Srt A/\Srt B/\jQ (P++(A++(B++Q)))/\(P++(A++(B++Q))).length<=1000000000000000
def aYZ(a:Int×Int×Int×List aB)(d:List aB):Prop:=∀ P A B Q,a=gI P A B Q->∃ C,d=P++(C++Q)/\C.Perm (A++B)/\Srt C
theorem Bk{P A B Q D J G Q':List aB}(h:gI P A B Q=gI D J G Q'):P=D/\A=J/\B=G/\Q=Q':=by unfold gI at h;simp only[gE]at h;obtain⟨h1,h2,h3,h4⟩:=h;obtain⟨e1,Z⟩:=List.append_inj h4 (by omega);obtain⟨e2,M⟩:=List.append_inj Z (by omega);obtain⟨e3,e4⟩:=List.append_inj M (by omega);simp_all
theorem Ve{A:List aB}(h:Srt A){D:Nat}(hk:k<=D)(G:D < A.length)(x:aB)(hp:ltD (A.getD D default) x=true):ltD (A.getD k default) x=true:=by
 have:=h.get hk G;cases hc:ltD (A.getD k default) x with
 | true=>rfl
 | false=>rw[<-hp];exact(iP.ntrans _ _ _ this hc).symm
theorem Nc{A:List aB}(h:Srt A){D:Nat}(hk:k<=D)(G:D < A.length)(x:aB)(hp:ltD x (A.getD D default)=false):ltD x (A.getD k default)=false:=by exact iP.ntrans _ _ _ hp (h.get hk G)
section
variable (b:Bool) (P A B Q:List aB)
theorem Hu(x:aB)(Z:Srt B)(ho:jQ (P++x::(B++Q)))(hn:(P++x::(B++Q)).length<=1000000000000000):
  Sq b (bW (fun s=>(uE (P.length:Int) (P++x::(B++Q)) s).den) (((P.length+1:Nat):Int),((P.length+1+B.length:Nat):Int)))
   (sel (fun r:Int=>∃ n:Nat,r=((P.length+1+n:Nat):Int)/\n<=B.length/\(∀ k,k<n->ltD (B.getD k default) x=true)/\(∀ k,n<=k->k<B.length->ltD (B.getD k default) x=false)) (fun _=>False)):=by
 simp only[dR,fX]at hn;have M:(P++x::(B++Q)).length=P.length+1+B.length+Q.length:=by simp; omega
 have e1:(P++x::(B++Q)).getD P.length default=x:=by grind
 have e2:∀ k,k<B.length->(P++x::(B++Q)).getD (P.length+1+k) default=B.getD k default:=by intro k hk;rw[cE,aF,show P.length+1+k-P.length=k+1 by omega,List.getD_cons_succ,cE,aA hk]
 refine(Km b _ (fun h=>ltD ((P++x::(B++Q)).getD h default) x) (P.length+1) (P.length+1+B.length) (by omega) (fun i j h1 h2 h3=>?_) (fun i h1 h2=>?_) (fun h k h1 h2 h3 h4=>?_)).imp ?_
 ·unfold uE;simp only[Tr.den];rw[oX (by omega)];simp only[aL];rw[M];rw[aA (by simp; omega),aA,aA,aA,aA];rw[uN _ _ (ho.get _) (ho.get _),e1];simp only[aI];rw[show decide (dC ((P++x::(B++Q)).getD ((i+j) / 2) default) x<0)=ltD ((P++x::(B++Q)).getD ((i+j) / 2) default) x from rfl];cases ltD ((P++x::(B++Q)).getD ((i+j) / 2) default) x with
  | true=>simp only[gT,aI]; rw[aK]
  | false=>rfl
 ·unfold uE;simp only[Tr.den];rw[aF (by simp)]
 ·obtain⟨D,rfl⟩:∃ D,k=P.length+1+D:=⟨k-(P.length+1),by omega⟩;obtain⟨J,rfl⟩:∃ J,h=P.length+1+J:=⟨h-(P.length+1),by omega⟩;rw[e2 _ (by omega)]at h4 ⊢;exact Ve Z (by omega) (by omega) x h4
 ·intro z G;cases z with
  | inr z=>exact G
  | inl z=>
   obtain⟨n,rfl,h1,h2,h3,h4⟩:=G;refine⟨n-(P.length+1),by omega,by omega,fun k hk=>?_,fun k hk1 hk2=>?_⟩
   all_goals grind
theorem Az(y:aB)(hA:Srt A)(ho:jQ (P++(A++y::Q)))(hn:(P++(A++y::Q)).length<=1000000000000000):
  Sq b (bW (fun s=>(uD ((P.length+A.length:Nat):Int) (P++(A++y::Q)) s).den) ((P.length:Int),((P.length+A.length:Nat):Int)))
   (sel (fun r:Int=>∃ n:Nat,r=((P.length+n:Nat):Int)/\n<=A.length/\(∀ k,k<n->ltD y (A.getD k default)=false)/\(∀ k,n<=k->k<A.length->ltD y (A.getD k default)=true)) (fun _=>False)):=by
 simp only[dR,fX]at hn;have M:(P++(A++y::Q)).length=P.length+A.length+1+Q.length:=by simp; omega
 have e1:(P++(A++y::Q)).getD (P.length+A.length) default=y:=by grind
 have Z:∀ k,k<A.length->(P++(A++y::Q)).getD (P.length+k) default=A.getD k default:=by intro k hk;rw[cE,aF,show P.length+k-P.length=k by omega,cE,aA hk]
 refine(Km b _ (fun h=>!ltD y ((P++(A++y::Q)).getD h default)) P.length (P.length+A.length) (by omega) (fun i j h1 h2 h3=>?_) (fun i h1 h2=>?_) (fun h k h1 h2 h3 h4=>?_)).imp ?_
 ·unfold uD;simp only[Tr.den];rw[oX (by omega)];simp only[aL];rw[M];rw[aA (by simp; omega),aA,aA,aA,aA];rw[uN _ _ (ho.get _) (ho.get _),e1];simp only[aI];rw[show decide (dC y ((P++(A++y::Q)).getD ((i+j) / 2) default)<0)=ltD y ((P++(A++y::Q)).getD ((i+j) / 2) default) from rfl];cases ltD y ((P++(A++y::Q)).getD ((i+j) / 2) default) with
  | true=>simp
  | false=>simp; rw[aV] <;> omega
 ·unfold uD;simp only[Tr.den];rw[aF (by simp)]
 ·obtain⟨D,rfl⟩:∃ D,k=P.length+D:=⟨k-P.length,by omega⟩;obtain⟨J,rfl⟩:∃ J,h=P.length+J:=⟨h-P.length,by omega⟩;rw[Z _ (by omega)]at h4 ⊢;simp only[mT]at h4 ⊢;exact Nc hA (by omega) (by omega) y h4
 ·intro z G;cases z with
  | inr z=>exact G
  | inl z=>
   obtain⟨n,rfl,h1,h2,h3,h4⟩:=G;refine⟨n-P.length,by omega,by omega,fun k hk=>?_,fun k hk1 hk2=>?_⟩
   all_goals grind
end
theorem nT(p q:Prop)[Decidable p][Decidable q]:(if decide p=true then some (decide q) else some false)=some (decide (p/\q)):=by by_cases hp:p <;> simp[hp]
theorem dQ(h:x∈l.take n):∃ k,k<n/\k<l.length/\x=l.getD k default:=by obtain⟨k,hk,rfl⟩:=Cq.1 h;simp only[dU]at hk;exact⟨k,by omega,by omega,by grind⟩
theorem dI(h:x∈l.drop n):∃ k,n<=k/\k<l.length/\x=l.getD k default:=by obtain⟨k,hk,rfl⟩:=Cq.1 h;simp only[vN]at hk;exact⟨n+k,by omega,by omega,by grind⟩
theorem Srt.take{l:List aB}(h:Srt l)(n:Nat):Srt (l.take n):=Hj (List.take_sublist _ _) h
theorem Srt.drop{l:List aB}(h:Srt l)(n:Nat):Srt (l.drop n):=Hj (List.drop_sublist _ _) h
theorem yQ(h:Srt l)(h1:∀ k,k<n->k<l.length->ltD x (l.getD k default)=false)(h2:∀ k,n<=k->k<l.length->ltD (l.getD k default) x=false):Srt (l.take n++x::l.drop n):=by
 rw[show x::l.drop n=[x]++l.drop n from rfl,Srt.app,Srt.app];refine⟨h.take n,⟨sZ _ _,h.drop n,fun a ha y hy=>?_⟩,fun a ha y hy=>?_⟩
 ·simp only[cZ]at ha;subst ha;obtain⟨k,h3,h4,rfl⟩:=dI hy;simp_all
 ·obtain⟨k,h3,h4,rfl⟩:=dQ ha;simp only[dW,cZ]at hy;rcases hy with rfl | hy
  ·simp_all
  ·obtain⟨G,J,D,rfl⟩:=dI hy;exact h.get (by omega) D
theorem aMT{A B:List aB}(hA:Srt A)(M:Srt B){u v:Nat}(hu:u<=A.length)(hv:v<=B.length)
  (h1:0<u->v<B.length->ltD (B.getD v default) (A.getD (u-1) default)=false)(h2:0<v->u<A.length->ltD (A.getD u default) (B.getD (v-1) default)=false)
  {C D:List aB}(Z:C.Perm (A.take u++B.take v))(Q:D.Perm (A.drop u++B.drop v))(sC:Srt C)(sD:Srt D):Srt (C++D)/\(C++D).Perm (A++B):=by
 constructor
 ·rw[Srt.app];refine⟨sC,sD,fun x hx y hy=>?_⟩;have hx:=Z.mem_iff.1 hx;have hy:=Q.mem_iff.1 hy;rw[dW]at hx hy;rcases hx with hx | hx
  ·obtain⟨i,i1,i2,rfl⟩:=dQ hx;rcases hy with hy | hy
   ·obtain⟨j,J,G,rfl⟩:=dI hy;exact hA.get (by omega) G
   ·obtain⟨j,J,G,rfl⟩:=dI hy;exact iP.ntrans _ _ _ (M.get J G) (iP.ntrans _ _ _ (h1 (by omega) (by omega)) (hA.get (i:=i) (j:=u-1) (by omega) (by omega)))
  ·obtain⟨i,i1,i2,rfl⟩:=dQ hx;rcases hy with hy | hy
   ·obtain⟨j,J,G,rfl⟩:=dI hy;exact iP.ntrans _ _ _ (hA.get J G) (iP.ntrans _ _ _ (h2 (by omega) (by omega)) (M.get (i:=i) (j:=v-1) (by omega) (by omega)))
   ·obtain⟨j,J,G,rfl⟩:=dI hy;exact M.get (by omega) G
 ·refine(Z.append Q).trans ?_;have e:(A++B).Perm (A.take u++(A.drop u++(B.take v++B.drop v))):=by rw[gV,<-cR,gV]
  refine List.Perm.trans ?_ e.symm;rw[cR];refine Bh _ ?_;rw[<-cR,<-cR];exact List.Perm.append_right _ Sy
section
variable (b:Bool) (P A B Q:List aB)
theorem Ic(hA:Srt A)(hB:Srt B)(ho:jQ (P++(A++(B++Q))))(hn:(P++(A++(B++Q))).length<=1000000000000000)(i0 j0:Nat)(D:Nat)(G:D=(P.length+(P.length+A.length+B.length)) / 2)
  (h1:P.length<=i0)(h2:i0<=j0)(h3:j0<=P.length+A.length)(h4:j0<=D)(h5:D<=B.length+i0):
  Sq b (bW (fun s=>(pT (P.length:Int) ((P.length+A.length:Nat):Int) ((P.length+A.length+B.length:Nat):Int) (P++(A++(B++Q))) s).den) ((i0:Int),(j0:Int)))
   (sel (fun r:Int=>∃ n:Nat,r=(n:Int)/\i0<=n/\n<=j0/\(∀ c,i0<=c->c<n->ltD (B.getD (D-1-c) default) (A.getD (c-P.length) default)=false)/\(∀ c,n<=c->c<j0->ltD (B.getD (D-1-c) default) (A.getD (c-P.length) default)=true)) (fun _=>False)):=by
 simp only[dR]at hn;have hL:(P++(A++(B++Q))).length=P.length+A.length+B.length+Q.length:=by simp; omega
 have e1:∀ k,P.length<=k->k<P.length+A.length->(P++(A++(B++Q))).getD k default=A.getD (k-P.length) default:=by intro k k1 k2;rw[cE,aF,cE,aA]
 have e2:∀ k,P.length+A.length<=k->k<P.length+A.length+B.length->(P++(A++(B++Q))).getD k default=B.getD (k-(P.length+A.length)) default:=by grind
 refine(Km b _ (fun c=>!ltD (B.getD (D-1-c) default) (A.getD (c-P.length) default)) i0 j0 h2 (fun i j Z M q3=>?_) (fun i Z M=>?_) (fun h k Z M q3 J=>?_)).imp ?_
 ·unfold pT;simp only[Tr.den];rw[oX (i:=P.length) (j:=P.length+A.length+B.length) (by omega),<-G,oX (i:=i) (j:=j) (by omega)];have w1:IntKind.i64.wrap (IntKind.i64.wrap (IntKind.i64.wrap ((D:Int)+((P.length+A.length:Nat):Int))-1)-(((i+j) / 2:Nat):Int))=((D+(P.length+A.length)-1-(i+j) / 2:Nat):Int):=by rw[dM (by omega),aV (n:=((D+(P.length+A.length):Nat):Int)-1),aV];omega
  rw[w1];simp only[aL];rw[hL];rw[aA (by simp; omega),aA,aA,aA,aA];rw[uN _ _ (ho.get _) (ho.get _)];simp only[aI];rw[e1 ((i+j) / 2) (by omega) (by omega),e2 (D+(P.length+A.length)-1-(i+j) / 2) (by omega) (by omega),show D+(P.length+A.length)-1-(i+j) / 2-(P.length+A.length)=D-1-(i+j) / 2 by omega];rw[show decide (dC (B.getD (D-1-(i+j) / 2) default) (A.getD ((i+j) / 2-P.length) default)<0)=ltD (B.getD (D-1-(i+j) / 2) default) (A.getD ((i+j) / 2-P.length) default) from rfl];cases ltD (B.getD (D-1-(i+j) / 2) default) (A.getD ((i+j) / 2-P.length) default) with
  | true=>simp
  | false=>simp; rw[aV] <;> omega
 ·unfold pT;simp only[Tr.den];rw[aF (by simp)]
 ·simp only[mT]at J ⊢;exact iP.ntrans _ _ _ (hB.get (i:=D-1-h) (j:=D-1-k) (by omega) (by omega)) (iP.ntrans _ _ _ J (hA.get (i:=k-P.length) (j:=h-P.length) (by omega) (by omega)))
 simp_all
end
theorem aXN(b:Bool)(f:Uv)(P A B Q:List aB)(hA0:A≠[])(hB0:B≠[])(hA:Srt A)(hB:Srt B)(ho:jQ (P++(A++(B++Q))))(hn:(P++(A++(B++Q))).length<=1000000000000000)
  (hrec:∀ P' A' B' Q',A'≠[]->B'≠[]->Srt A'->Srt B'->jQ (P'++(A'++(B'++Q')))->(P'++(A'++(B'++Q'))).length<=1000000000000000->A'.length+B'.length<A.length+B.length ->
   Sq b (f.1 (gI P' A' B' Q')) (fun d=>∃ C,d=P'++(C++Q')/\C.Perm (A'++B')/\Srt C)):
  Sq b (Aw f (P.length:Int) ((P.length+A.length:Nat):Int) ((P.length+A.length+B.length:Nat):Int) (P++(A++(B++Q)))).den (fun d=>∃ C,d=P++(C++Q)/\C.Perm (A++B)/\Srt C):=by
 have hA1:0<A.length:=fM.2 hA0;have hB1:0<B.length:=fM.2 hB0;have G:=hn;simp only[dR]at hn;have hL:(P++(A++(B++Q))).length=P.length+A.length+B.length+Q.length:=by simp; omega
 unfold Aw;simp only[Tr.den];rw[eN (n:=P.length+A.length) (m:=P.length) (by omega) (by omega),eN (n:=P.length+A.length+B.length) (m:=P.length+A.length) (by omega) (by omega)];by_cases c1:A.length=1
 ·obtain⟨x,rfl⟩:=Kw.1 c1;rw[aA (by simp)];simp only[List.singleton_append,oA]at *
  refine Sq.bind _ (Hu b P B Q x hB ho G) (fun z Z=>?_);cases z with
  | inr z=>exact Z.elim
  | inl z=>
   obtain⟨n,rfl,h1,h2,h3⟩:=Z;simp only[sel];have hb:B++Q=B.take n++(B.drop n++Q):=by rw[<-cR,gV]
   rw[hb,aHZ P (B.take n) (B.drop n++Q) x _ (by simp; omega) (by simp_all)];simp only[aI,sel];refine aC.2 ⟨B.take n++x::B.drop n,by simp,?_,yQ hB (fun k k1 k2=>zZ (h2 k k1)) h3⟩;rw[List.perm_middle.congr_left,gV]
 ·rw[aF (by simp; omega)];by_cases c2:B.length=1
  ·obtain⟨y,rfl⟩:=Kw.1 c2;rw[aA (fA (by simp))];simp only[List.singleton_append,oA]at *
   refine Sq.bind _ (Az b P A Q y hA ho G) (fun z Z=>?_);cases z with
   | inr z=>exact Z.elim
   | inl z=>
    obtain⟨n,rfl,h1,h2,h3⟩:=Z;simp only[sel];have hb:P++(A++y::Q)=(P++A.take n)++(A.drop n++y::Q):=by rw[cR,<-cR (A.take n),gV]
    rw[hb,Sa (P++A.take n) (A.drop n) Q y _ _ (by simp; omega) (by simp; omega) (by simp_all)];simp only[aI,sel];refine aC.2 ⟨A.take n++y::A.drop n,by simp,?_,yQ hA (fun k k1 k2=>h2 k k1) (fun k k1 k2=>zZ (h3 k k1 k2))⟩;refine List.perm_middle.trans ?_;rw[gV];exact(List.perm_append_singleton y A).symm
  ·rw[aF (by simp; omega)];rw[oX (i:=P.length) (j:=P.length+A.length+B.length) (by omega)];generalize hmid:(P.length+(P.length+A.length+B.length)) / 2=mid;have key:∀ (M J:Nat),P.length<=M->M<=J->J<=P.length+A.length->J<=mid->mid<=B.length+M->(M=P.length\/mid=B.length+M)->(J=P.length+A.length\/J=mid) ->
     ∀ K:Int->Option (List aB),(∀ u v:Nat,u<=A.length->v<=B.length->u+v+P.length=mid->(0<u->v<B.length->ltD (B.getD v default) (A.getD (u-1) default)=false)->(0<v->u<A.length->ltD (A.getD u default) (B.getD (v-1) default)=false) ->
      Sq b (K ((P.length+u:Nat):Int)) (fun d=>∃ C,d=P++(C++Q)/\C.Perm (A++B)/\Srt C)) ->
     Sq b ((bW (fun s=>(pT (P.length:Int) ((P.length+A.length:Nat):Int) ((P.length+A.length+B.length:Nat):Int) (P++(A++(B++Q))) s).den) ((M:Int),(J:Int))).bind (sel K some)) (fun d=>∃ C,d=P++(C++Q)/\C.Perm (A++B)/\Srt C):=by
    intro M J h1 h2 h3 h4 h5 h6 h7 K hK;refine Sq.bind _ (Ic b P A B Q hA hB ho G M J mid hmid.symm h1 h2 h3 h4 h5) (fun z Z=>?_);cases z with
    | inr z=>exact Z.elim
    | inl z=>
     obtain⟨n,rfl,q1,q2,q3,q4⟩:=Z;simp only[sel];have:=hK (n-P.length) (mid-n) (by omega) (by omega) (by omega) (fun u1 u2=>?_) (fun u1 u2=>?_)
     ·rwa [show P.length+(n-P.length)=n by omega]at this
     ·have:=q3 (n-1) (by omega) (by omega)
      rwa [show mid-1-(n-1)=mid-n by omega,show n-1-P.length=n-P.length-1 by omega]at this
     ·have:=q4 n (by omega) (by omega);rw[show mid-1-n=mid-n-1 by omega]at this;exact zZ this
   have body:∀ u v:Nat,u<=A.length->v<=B.length->u+v+P.length=mid->(0<u->v<B.length->ltD (B.getD v default) (A.getD (u-1) default)=false)->(0<v->u<A.length->ltD (A.getD u default) (B.getD (v-1) default)=false) ->
     Sq b ((if decide (((P.length+u:Nat):Int)<((P.length+A.length:Nat):Int))=true then some (decide (((P.length+A.length:Nat):Int)<IntKind.i64.wrap (IntKind.i64.wrap ((mid:Int)+((P.length+A.length:Nat):Int))-((P.length+u:Nat):Int)))) else some false).bind fun j27=>
      (if j27=true then (zV ((P.length+u:Nat):Int) ((P.length+A.length:Nat):Int) (IntKind.i64.wrap (IntKind.i64.wrap ((mid:Int)+((P.length+A.length:Nat):Int))-((P.length+u:Nat):Int))) (P++(A++(B++Q)))).bind (fun r=>some r) else some (P++(A++(B++Q)))).bind fun j28=>
      (if decide ((P.length:Int)<((P.length+u:Nat):Int))=true then some (decide (((P.length+u:Nat):Int)<(mid:Int))) else some false).bind fun j30=>
      (if j30=true then (f.1 ((P.length:Int),((P.length+u:Nat):Int),(mid:Int),j28)).bind (fun r=>some r) else some j28).bind fun j31=>
      (if decide ((mid:Int)<IntKind.i64.wrap (IntKind.i64.wrap ((mid:Int)+((P.length+A.length:Nat):Int))-((P.length+u:Nat):Int)))=true then some (decide (IntKind.i64.wrap (IntKind.i64.wrap ((mid:Int)+((P.length+A.length:Nat):Int))-((P.length+u:Nat):Int))<((P.length+A.length+B.length:Nat):Int))) else some false).bind fun j33=>
      (if j33=true then (f.1 ((mid:Int),IntKind.i64.wrap (IntKind.i64.wrap ((mid:Int)+((P.length+A.length:Nat):Int))-((P.length+u:Nat):Int)),((P.length+A.length+B.length:Nat):Int),j31)).bind (fun r=>some r) else some j31).bind fun j34=>some j34)
      (fun d=>∃ C,d=P++(C++Q)/\C.Perm (A++B)/\Srt C):=by
    intro u v hu hv huv f1 f2;have w2:IntKind.i64.wrap (IntKind.i64.wrap ((mid:Int)+((P.length+A.length:Nat):Int))-((P.length+u:Nat):Int))=((P.length+A.length+v:Nat):Int):=by rw[dM (by omega),eN]; omega
    rw[w2];simp only[nT,aI];have eA:=gV u A;have eB:=gV v B;have lA1:(A.take u).length=u:=by simp; omega
    have lB1:(B.take v).length=v:=by simp; omega
    have lA2:(A.drop u).length=A.length-u:=by simp
    have lB2:(B.drop v).length=B.length-v:=by simp
    have hs:P++(A++(B++Q))=(P++A.take u)++(A.drop u++(B.take v++(B.drop v++Q))):=by grind
    refine Sq.bind (fun d=>d=P++(A.take u++(B.take v++(A.drop u++(B.drop v++Q))))) ?_ (fun j28 h28=>?_)
    ·by_cases hc:(((P.length+u:Nat):Int)<((P.length+A.length:Nat):Int))/\(((P.length+A.length:Nat):Int)<((P.length+A.length+v:Nat):Int))
     ·rw[aA (by simpa using hc)];rw[hs]at G ⊢;have h:=Mb b (P++A.take u) (A.drop u) (B.take v) (B.drop v++Q) (fun h0=>by have:=congrArg List.length h0; simp only[vN,rV]at this; omega) (fun h0=>by grind)
       ((P.length+u:Nat):Int) ((P.length+A.length:Nat):Int) ((P.length+A.length+v:Nat):Int) (by simp; omega) (by simp; omega) (by simp; omega) G
      refine Sq.bind _ h (fun d hd=>aC.2 ?_);grind
     ·rw[aF (by simpa using hc)];refine aC.2 ?_;rw[hs];by_cases hu':u=A.length
      ·grind
      ·have:v=0:=by omega
       grind
    subst h28;have oD:jQ (P++(A.take u++(B.take v++(A.drop u++(B.drop v++Q))))):=by refine ho.perm ?_;rw[hs];simp only[cR];exact Bh _ (Bh _ (List.perm_append_comm_assoc _ _ _))
    refine Sq.bind (fun d=>∃ C,d=P++(C++(A.drop u++(B.drop v++Q)))/\C.Perm (A.take u++B.take v)/\Srt C) ?_ (fun j31 h31=>?_)
    ·by_cases hc:((P.length:Int)<((P.length+u:Nat):Int))/\(((P.length+u:Nat):Int)<(mid:Int))
     ·rw[aA (by simpa using hc)];have e:((P.length:Int),((P.length+u:Nat):Int),(mid:Int),P++(A.take u++(B.take v++(A.drop u++(B.drop v++Q)))))=gI P (A.take u) (B.take v) (A.drop u++(B.drop v++Q)):=by unfold gI; rw[lA1,lB1,<-huv]; simp; omega
      rw[e];refine Sq.bind _ (hrec _ _ _ _ (fun h0=>by grind) (fun h0=>by grind) (hA.take u) (hB.take v) oD (by simp; omega) (by omega)) (fun d hd=>aC.2 hd)
     ·rw[aF (by simpa using hc)];refine aC.2 ⟨A.take u++B.take v,by simp,.refl _,?_⟩;by_cases hu':u=0
      ·subst hu'; simpa using hB.take v
      ·have:v=0:=by omega
       subst this; simpa using hA.take u
    obtain⟨C,rfl,pC,sC⟩:=h31;have lC:C.length=u+v:=by rw[pC.length_eq]; simp; omega
    have fin:∀ D:List aB,D.Perm (A.drop u++B.drop v)->Srt D->Srt (C++D)/\(C++D).Perm (A++B):=fun D pD sD=>aMT hA hB hu hv f1 f2 pC pD sC sD;refine Sq.bind (fun d=>∃ C,d=P++(C++Q)/\C.Perm (A++B)/\Srt C) ?_ (fun j34 h34=>aC.2 h34);by_cases hc:((mid:Int)<((P.length+A.length+v:Nat):Int))/\(((P.length+A.length+v:Nat):Int)<((P.length+A.length+B.length:Nat):Int))
    ·rw[aA (by simpa using hc)];have e:((mid:Int),((P.length+A.length+v:Nat):Int),((P.length+A.length+B.length:Nat):Int),P++(C++(A.drop u++(B.drop v++Q))))=gI (P++C) (A.drop u) (B.drop v) Q:=by unfold gI; rw[lA2,lB2,<-huv]; simp; omega
     rw[e];refine Sq.bind _ (hrec _ _ _ _ (fun h0=>by grind) (fun h0=>by grind) (hA.drop u) (hB.drop v) ?_ (by simp; omega) (by omega)) (fun d hd=>?_)
     ·refine oD.perm ?_;rw[cR];refine Bh _ ?_;rw[<-cR];exact List.Perm.append_right _ pC.symm
     ·obtain⟨D,rfl,pD,sD⟩:=hd;exact aC.2 ⟨C++D,by simp,(fin D pD sD).2,(fin D pD sD).1⟩
    ·rw[aF (by simpa using hc)];have:=fin (A.drop u++B.drop v) (.refl _) (by
      by_cases hu':u=A.length
      ·have:A.drop u=[]:=by grind
       rw[this]; simpa using hB.drop v
      ·have:B.drop v=[]:=by rw[show v=B.length by omega]; simp
       rw[this]; simpa using hA.drop u)
     exact aC.2 ⟨C++(A.drop u++B.drop v),by simp,this.2,this.1⟩
   by_cases hm:mid<P.length+A.length
   ·rw[aA (by simp; omega)];simp only[aI];rw[dM (n:=mid) (m:=P.length+A.length) (by omega),eN (n:=mid+(P.length+A.length)),<-dM (n:=mid) (m:=P.length+A.length) (by omega)];exact key (mid+(P.length+A.length)-(P.length+A.length+B.length)) mid (by omega) (by omega) (by omega) (by omega) (by omega) (by omega) (by omega) _ body
   ·rw[aF (by simp; omega)];simp only[aI];exact key P.length (P.length+A.length) (by omega) (by omega) (by omega) (by omega) (by omega) (by omega) (by omega) _ body
theorem Ol(P A B Q:List aB)(J:A≠[])(G:B≠[])(hA:Srt A)(hB:Srt B)(ho:jQ (P++(A++(B++Q))))(hn:(P++(A++(B++Q))).length<=1000000000000000):
  Sp (Vb (P.length:Int) ((P.length+A.length:Nat):Int) ((P.length+A.length+B.length:Nat):Int) (P++(A++(B++Q)))) (fun d=>∃ C,d=P++(C++Q)/\C.Perm (A++B)/\Srt C):=by
 have h:=lX (C:=fun (a:Int×Int×Int×List aB) (x:Option (List aB))=>eT Proofs.Tryz.prog 272 [.own 30000,.t (.int .i64 (a.1)),.t (.int .i64 (a.2.1)),.t (.int .i64 (a.2.2.1)),.fn (.func 183) 0 []] [(30000,.arr 50 3 (a.2.2.2.length) (eF aH a.2.2.2))] [30000] x (fun (y:List aB)=>.tup []) (fun (y:List aB)=>[(30000,.arr 50 3 (y.length) (eF aH y))]))
  (fun a=>⟨bM Proofs.Tryz.func272 (by kernel_rfl),fun _ h=>nomatch h⟩) (fun D a=>Aw D a.1 a.2.1 a.2.2.1 a.2.2.2) (fun D a=>Jr D a.1 a.2.1 a.2.2.1 a.2.2.2)
  aXI (fun a=>(a.2.2.1-a.1).toNat) aYZ (fun b f a ha Z=>?_) true (gI P A B Q) ⟨P,A,B,Q,rfl,J,G,hA,hB,ho,hn⟩
 ·exact h.imp fun d M=>M P A B Q rfl
 ·obtain⟨P,A,B,Q,rfl,J,G,hA,hB,ho,hn⟩:=ha;refine(aXN b f P A B Q J G hA hB ho hn (fun P' A' B' Q' a1 a2 a3 a4 a5 a6 a7=>?_)).imp fun d M P' A' B' Q' he=>?_
  ·exact(Z (gI P' A' B' Q') ⟨P',A',B',Q',rfl,a1,a2,a3,a4,a5,a6⟩ (by simp only[gI]; omega)).imp fun d M=>M P' A' B' Q' rfl
  ·obtain⟨rfl,rfl,rfl,rfl⟩:=Bk he;exact M
def eU(a b:Nat)(l:List aB):Prop:=∀ i j,a<=i->i<j->j<b->ltD (l.getD j default) (l.getD i default)=false
structure PI (a b:Nat)(l d:List aB):Prop where
 len:d.length=l.length
 out:∀ k,k<a\/b<=k->d.getD k default=l.getD k default
 perm:d.Perm l
theorem eU.congr{a b:Nat}{d:List aB}(h:eU a b l)(he:∀ k,a<=k->k<b->d.getD k default=l.getD k default):eU a b d:=by intro i j h1 h2 h3;rw[he i h1 (by omega),he j (by omega) h3];exact h i j h1 h2 h3
theorem eU.sub{a b G D:Nat}(h:eU a b l)(h1:a<=G)(h2:D<=b):eU G D l:=fun i j Q J M=>h i j (by omega) J (by omega)
theorem sM(a m b:Nat)(l:List aB)(h1:a<m)(h2:m<b)(h3:b<=l.length)(ha:eU a m l)(hb:eU m b l)(ho:jQ l)(hn:l.length<=1000000000000000):
  Sp (Vb (a:Int) (m:Int) (b:Int) l) (fun d=>PI a b l d/\eU a b d):=by
 have e:l=l.take a++((l.drop a).take (m-a)++((l.drop m).take (b-m)++l.drop b)):=by
  have e1:l.drop m=(l.drop m).take (b-m)++l.drop b:=by
   conv=>lhs; rw[<-gV (b-m) (l.drop m)]
   rw[wG,show m+(b-m)=b by omega]
  have e2:l.drop a=(l.drop a).take (m-a)++l.drop m:=by
   conv=>lhs; rw[<-gV (m-a) (l.drop a)]
   rw[wG,show a+(m-a)=m by omega]
  rw[<-e1,<-e2,gV]
 have J:(l.take a).length=a:=by simp; omega
 have Q:((l.drop a).take (m-a)).length=m-a:=by simp; omega
 have M:((l.drop m).take (b-m)).length=b-m:=by simp; omega
 have gA:∀ k,k<m-a->((l.drop a).take (m-a)).getD k default=l.getD (a+k) default:=by grind
 have Z:∀ k,k<b-m->((l.drop m).take (b-m)).getD k default=l.getD (m+k) default:=by grind
 have h:=Ol (l.take a) ((l.drop a).take (m-a)) ((l.drop m).take (b-m)) (l.drop b) (fun h0=>by grind) (fun h0=>by grind)
  (qJ fun i j D hj=>by rw[gA i (by omega),gA j (by omega)]; exact ha _ _ (by omega) (by omega) (by omega))
  (qJ fun i j D hj=>by rw[Z i (by omega),Z j (by omega)]; exact hb _ _ (by omega) (by omega) (by omega)) (by grind) (by grind)
 rw[J,Q,M,<-e,show a+(m-a)=m by omega,show m+(b-m)=b by omega]at h;refine h.imp fun d hd=>?_;obtain⟨C,rfl,G,sC⟩:=hd;have lC:C.length=b-a:=by rw[G.length_eq,dR,Q,M]; omega
 have lD:(l.drop b).length=l.length-b:=by simp
 refine⟨⟨by grind,fun k hk=>?_,?_⟩,?_⟩
 ·rcases hk with hk | hk
  ·grind
  ·rw[cE,aF,cE,aF,J,lC];by_cases hl:k<l.length
   ·rw[bU (by omega),bU hl]; simp; congr 1; omega
   ·rw[dV,Bf (by omega),dV,Bf (by omega)]
 ·conv=>rhs; rw[e]
  refine Bh _ ?_;rw[<-cR];exact List.Perm.append_right _ G
 ·intro i j q1 q2 q3;rw[cE,aF,cE,aA,cE,aF,cE,aA];exact sC.get (by omega) (by omega)
theorem xW(a b:Nat)(l:List aB)(D:a<=b)(hb:b<=l.length)(ho:jQ l)(hn:l.length<=1000000000000000):Sp (Nz (a:Int) (b:Int) l) (fun d=>PI a b l d/\eU a b d):=by
 refine Sq.of_eq (aDF a b l hb D hn ho) ?_;have h:=Sort.insertionSort_holds iP l.toArray a b D (by omega);obtain⟨⟨h1,h2,h3⟩,h4⟩:=h;have g:∀ (k:Nat),(Sort.insertionSort ltD l.toArray a b).toList.getD k default=(Sort.insertionSort ltD l.toArray a b)[k]!:=fun k=>by rw[<-pX]
 refine⟨⟨by omega,fun k hk=>by rw[g,h2 k hk,pX],?_⟩,fun i j Q M J=>by rw[g,g]; exact h4 i j Q M J⟩;have Z:=Sort.permIn_mono _ _ a b 0 l.length (by omega) (by omega) (by simp) (show Sort.PermIn a b l.toArray (Sort.insertionSort ltD l.toArray a b) from ⟨h1,h2,h3⟩);have G:=Z.2.2;rw[show l.length=l.toArray.size by simp]at G;rw[show (Sort.insertionSort ltD l.toArray a b).extract 0 l.toArray.size=Sort.insertionSort ltD l.toArray a b by simp_all]at G;simp_all
theorem lG{w a c:Nat}(ha:w∣a)(hc:w∣c)(h:c<a):c+w<=a:=by have:=Nat.le_of_dvd (by omega) (Nat.dvd_sub ha hc);omega
theorem aEU(l:List aB)(ho:jQ l)(hn:l.length<=100000000000000):Sp (Vg (l.length:Int) l) (fun d=>d.Perm l/\Srt d):=by
 unfold Vg Vr;simp only[Tr.den,bR];refine Sq.while (fun s:List aB×Int×Int=>∃ a:Nat,s.2.1=a/\s.2.2=((a+20:Nat):Int)/\20∣a/\a<=l.length/\s.1.Perm l/\∀ c,20∣c->c+20<=a->eU c (c+20) s.1) (fun s=>(l.length-s.2.1).toNat) (fun s hs=>?_)
  ⟨0,rfl,rfl,by simp,by omega,.refl _,fun c h1 h2=>by omega⟩
 obtain⟨d,i,j⟩:=s;obtain⟨a,h1,h2,h3,h4,h5,h6⟩:=hs;simp only at h1 h2 h5 h6;subst h1 h2;have hlen:=h5.length_eq;unfold Lb;simp only[Tr.den];by_cases hc:a+20<=l.length
 ·rw[aA (by simp; omega)];refine bR.2 ((xW a (a+20) d (by omega) (by omega) (ho.perm h5.symm) (by omega)).imp fun d' D=>?_);rw[aV];refine aC.2 ⟨⟨a+20,rfl,by simp,?_,hc,D.1.perm.trans h5,fun c J q2=>?_⟩,by grind⟩
  ·omega
  ·by_cases G:c<a
   ·exact(h6 c J (lG h3 J G)).congr fun k k1 k2=>D.1.out k (.inl (by omega))
   grind
 ·rw[aF (by simp; omega)];refine aC.2 ?_;simp only[sel];refine bR.2 ((xW a l.length d h4 (by omega) (ho.perm h5.symm) (by omega)).imp fun d2 hd2=>?_);obtain⟨p2,s2⟩:=hd2;have hp2:d2.Perm l:=p2.perm.trans h5;have b2:∀ c,20∣c->eU c (min (c+20) l.length) d2:=by
   intro c M;by_cases G:c<a
   ·have:=lG h3 M G;exact((h6 c M this).congr fun k k1 k2=>p2.out k (.inl (by omega))).sub (by omega) (by omega)
   ·exact s2.sub (by omega) (by omega)
  clear h6 p2 s2;refine bR.2 ?_;refine Sq.while (fun s:List aB×Int=>∃ w:Nat,s.2=w/\0<w/\w<=400000000000000/\s.1.Perm l/\∀ c,w∣c->eU c (min (c+w) l.length) s.1) (fun s=>(l.length-s.2).toNat) (fun s hs=>?_) ⟨20,rfl,by omega,by omega,hp2,b2⟩;obtain⟨d,i⟩:=s;obtain⟨w,k1,k2,k3,k4,k5⟩:=hs;simp only at k1 k4 k5;subst k1;unfold Lq;simp only[Tr.den];by_cases hw:w<l.length
  ·rw[aA (by simp; omega)];have e2w:IntKind.i64.wrap (2*(w:Int))=((2*w:Nat):Int):=by rw[aV] <;> omega
   rw[e2w];refine bR.2 ?_;refine Sq.while (fun s:List aB×Int×Int=>∃ a:Nat,s.2.1=a/\s.2.2=((a+2*w:Nat):Int)/\(2*w)∣a/\a<=l.length/\s.1.Perm l/\(∀ c,(2*w)∣c->c+2*w<=a->eU c (c+2*w) s.1)/\∀ c,w∣c->a<=c->eU c (min (c+w) l.length) s.1) (fun s=>(l.length-s.2.1).toNat) (fun s hs=>?_)
    ⟨0,rfl,by simp,by simp,by omega,k4,fun c J q2=>by omega,fun c J q2=>k5 c J⟩
   obtain⟨d,i,j⟩:=s;obtain⟨a,g1,g2,g3,g4,Z,g6,Q⟩:=hs;simp only at g1 g2 Z g6 Q;subst g1 g2;have hlen:=Z.length_eq;have gw:w∣a:=Nat.dvd_trans ⟨2,by omega⟩ g3;have gw':w∣a+w:=Nat.dvd_add gw (Nat.dvd_refl w);unfold Kn;simp only[Tr.den];by_cases hb:a+2*w<=l.length
   ·rw[aA (by simp; omega),dM (by omega),e2w,dM (by omega)];refine bR.2 ((sM a (a+w) (a+2*w) d (by omega) (by omega) (by omega) ((Q a gw (by omega)).sub (by omega) (by omega)) ((Q (a+w) gw' (by omega)).sub (by omega) (by omega)) (ho.perm Z.symm) (by omega)).imp fun d' D=>?_);refine aC.2 ⟨⟨a+2*w,rfl,rfl,Nat.dvd_add g3 (Nat.dvd_refl _),hb,D.1.perm.trans Z,fun c J q2=>?_,fun c J q2=>?_⟩,by grind⟩
    ·by_cases G:c<a
     ·have:=lG g3 J G;exact(g6 c J this).congr fun k k1 k2=>D.1.out k (.inl (by omega))
     grind
    ·exact(Q c J (by omega)).congr fun k k1 k2=>D.1.out k (.inr (by omega))
   ·rw[aF (by simp; omega)];refine aC.2 ?_;simp only[sel];rw[dM (by omega)];refine Sq.bind (fun d'=>d'.Perm l/\eU a l.length d'/\∀ k,k<a->d'.getD k default=d.getD k default) ?_ (fun d' D=>?_)
    ·by_cases hm:a+w<l.length
     ·rw[aA (by simp; omega)];refine bR.2 ((sM a (a+w) l.length d (by omega) (by omega) (by omega) ((Q a gw (by omega)).sub (by omega) (by omega)) ((Q (a+w) gw' (by omega)).sub (by omega) (by omega)) (ho.perm Z.symm) (by omega)).imp fun d' D=>?_);exact aC.2 ⟨D.1.perm.trans Z,D.2,fun k hk=>D.1.out k (.inl hk)⟩
     ·rw[aF (by simp; omega)];exact aC.2 ⟨Z,(Q a gw (by omega)).sub (by omega) (by omega),fun _ _=>rfl⟩
    ·obtain⟨J,q2,q3⟩:=D;rw[show IntKind.i64.wrap ((w:Int)*2)=((2*w:Nat):Int) by rw[aV] <;> omega];refine aC.2 ⟨⟨2*w,rfl,by omega,by omega,J,fun c M=>?_⟩,by omega⟩;by_cases G:c<a
     ·have:=lG g3 M G;exact((g6 c M this).congr fun k k1 k2=>q3 k (by omega)).sub (by omega) (by omega)
     ·exact q2.sub (by omega) (by omega)
  ·rw[aF (by simp; omega)];refine aC.2 ?_;simp only[sel];refine aC.2 ⟨k4,qJ fun i j hij hj=>?_⟩;have:=k5 0 (by simp);rw[k4.length_eq]at hj;exact this i j (by omega) hij (by omega)
theorem aGS(l:List aB)(ho:jQ l)(hn:l.length<=100000000000000):Sp (aKZ l) (fun d=>d.Perm l/\Srt d):=by unfold aKZ aKO;simp only[Tr.den,bR];exact(aEU l ho hn).imp fun d D=>aC.2 D
end Go.PL
