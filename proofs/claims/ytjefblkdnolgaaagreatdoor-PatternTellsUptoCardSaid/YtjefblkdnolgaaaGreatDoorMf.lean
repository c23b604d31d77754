/-
  Parts: Functions of the seat as trees, and that the program computes them. Printed by a program of our own. Plain reasoning about functions from trees: what they come to. Own work. Plain facts: numbers that wrap, lists by index, comparisons. Own work. Plain law: how values, rows and deltas are compared. Own work. Plain law: the stable sort of the library: insertion sort, exchanging and rotating parts. Own work. Plain law: the stable sort of the library: merging in place, and the whole. Own work. Plain law: merging in place sorts; the stable sort sorts. Own work. Plain law: the stable sort of the library sorts. Own work. The kept part of a plain-law text (strip.py). Own work. The kept part of a plain-law text (strip.py). Own work. The kept part of a plain-law text (strip.py). Own work. The kept part of a plain-law text (strip.py). Own work. The kept part of a plain-law text (strip.py). Own work. The kept part of a plain-law text (strip.py). Own work.
-/
import Derived.Test.YtjefblkdnolgaaaGreatDoorMe
import Derived.Sort.LotA
import Derived.Lib.Bytealg
import Derived.Lib.Strings
import Derived.Lib.ItoaLen
set_option maxHeartbeats 4000000
namespace Go.PL
open Go Go.Proofs IntKind
set_option linter.unusedVariables false
set_option maxRecDepth 20000
noncomputable section
def aVE(a0:List aI)(a1:List Int)(a2:List Int)(a3:bB):TP (Int×Bool):=.ca 4 (Xb a3) fun r1=>.ite 1 (decide (r1>12)) (.ret 2 (0,false)) (.ca 4 (aXH a0 a1 a2 a3) fun r2=>.ite 7 (!r2.2) (.ret 2 (0,false)) (.ret 3 (r2.1,true)))
def De(a0:List aI)(a1:List Int)(a2:List Int)(a3:bB):=(aVE a0 a1 a2 a3).den
theorem aFL(a0:List aI)(a1:List Int)(a2:List Int)(a3:bB):Con Tryz.prog 133 [.t (eL aV a0),.t (eL bK a1),.t (eL bK a2),.t (cQ a3)] (De a0 a1 a2 a3) (fun y=>.tup [tI y.1,tB y.2]):=con Tryz.func133 aR (aVE a0 a1 a2 a3)
def Zz(a0:List aI)(v1:Int):Int->TP ((Int)⊕((Unit)⊕((Int)⊕((Unit)⊕Bool))))
 | v3=>.ite 5 (decide (v3<(((a0.getD v1.toNat default).Params).length:Int))) (.grd 4 (0<=v3/\v3<(((a0.getD v1.toNat default).Params).length:Int)) <| .ca 1 (aDX (((a0.getD v1.toNat default).Params).getD v3.toNat default)) fun r4=>.ite 1 (!r4) (.ret 1 (.inr (.inr (.inr (.inr false))))) (.ret 3 (.inl (i64.wrap (v3+1))))) (.ret 0 (.inr (.inl ())))
def Zf(a0:List aI):Int->TP ((Int)⊕((Unit)⊕Bool))
 | v1=>.jn 5 0 (fun j2=>⟨[(0,.t (eL aV a0)),(3,tI v1),(15,tB j2)],[]⟩) (.ite 0 (decide (v1<a0.length)) (.ret 3 (decide (v1<=20))) (.ret 3 false)) fun j2=>.ite 0 j2 (.grd 3 (0<=v1/\v1<a0.length) <| .lp 4 (fun v3=>⟨[(0,.t (eL aV a0)),(3,tI v1),(4,.ptr 4 0),(5,tI v3)],[(4,.box ((aV (a0.getD v1.toNat default)).map .t))]⟩) (fun _=>⟨[(0,.t (eL aV a0)),(3,tI v1),(4,.ptr 4 0)],[(4,.box ((aV (a0.getD v1.toNat default)).map .t))]⟩) 2 0 (Zz a0 v1) fun _=>.dg 2 (0<=(0:Int)/\(0:Int)<=v1/\v1<=(a0.length:Int)) <| .dc 7 [.t (.sl (v1-(0:Int)).toNat (fun k=>eF aV a0 ((0:Int).toNat+k))),.nil,.t (eL bK ((a0.getD v1.toNat default).Params)),.t (cQ ((a0.getD v1.toNat default).Body))] (bLE [] aV a0 (0:Int) v1 [.t (eL bK ([]:List Int)),.t (eL bK ((a0.getD v1.toNat default).Params)),.t (cQ ((a0.getD v1.toNat default).Body))] (aFL ((a0.drop (0:Int).toNat).take (v1-(0:Int)).toNat) ([]:List Int) ((a0.getD v1.toNat default).Params) ((a0.getD v1.toNat default).Body))) fun r5=>.dr 0 0 [(4,false,[])] [0,3,4] <| .jn 3 0 (fun j6=>⟨[(0,.t (eL aV a0)),(3,tI v1),(60,tB j6)],[]⟩) (.ite 0 (!r5.2) (.ret 11 true) (.ite 6 (r5.1 != ((a0.getD v1.toNat default).Result)) (.ret 5 true) (.ret 5 (decide ((((a0.getD v1.toNat default).Params).length:Int)>6))))) fun j6=>.ite 0 j6 (.ret 1 (.inr (.inr false))) (.ret 3 (.inl (i64.wrap (v1+1))))) (.ret 0 (.inr (.inl ())))
def T82(a0:List aI):TP Bool:=.lp 2 (fun v1=>⟨[(0,.t (eL aV a0)),(3,tI v1)],[]⟩) (fun _=>⟨[(0,.t (eL aV a0))],[]⟩) 0 0 (Zf a0) fun _=>.ret 4 (decide ((a0.length:Int)<=20))
def G82(a0:List aI):=(T82 a0).den
theorem aAL(a0:List aI):Con Tryz.prog 60 [.t (eL aV a0)] (G82 a0) tB:=con Tryz.func60 aR (T82 a0)
def T86(a0:List aI)(a1:List Int)(a2:List Int)(a3:bB):TP (Int×Bool):=.ca 4 (aAL a0) fun r1=>.ite 1 (!r1) (.ret 2 (0,false)) (.ca 4 (aFL a0 a1 a2 a3) fun r2=>.ret 4 (r2.1,r2.2))
def G86(a0:List aI)(a1:List Int)(a2:List Int)(a3:bB):=(T86 a0 a1 a2 a3).den
theorem aRP(a0:List aI)(a1:List Int)(a2:List Int)(a3:bB):Con Tryz.prog 100 [.t (eL aV a0),.t (eL bK a1),.t (eL bK a2),.t (cQ a3)] (G86 a0 a1 a2 a3) (fun y=>.tup [tI y.1,tB y.2]):=con Tryz.func100 aR (T86 a0 a1 a2 a3)
def bDX(a0:Int)(a1:Int)(a2:Int):TP Bool:=.jn 5 0 (fun j1=>⟨[(6,tB j1)],[]⟩) (.ite 0 (decide (a0>=a1)) (.ret 5 (decide (a0<=a2))) (.ret 5 false)) fun j1=>.ret 0 j1
def bHF(a0:Int)(a1:Int)(a2:Int):=(bDX a0 a1 a2).den
theorem lY(a0:Int)(a1:Int)(a2:Int):Con Tryz.prog 213 [tI a0,tI a1,tI a2] (bHF a0 a1 a2) tB:=con Tryz.func213 aR (bDX a0 a1 a2)
def T83(a0:aG):TP Bool:=.ite 6 (a0.Op==4) (.ca 2 (lY a0.Size 1 10000) fun r1=>.ite 1 (!r1) (.ret 1 false) (.ite 4 (a0.Kind==0) (.ret 1 true) (.ite 2 (a0.Kind==1) (.ite 3 (decide (a0.Step<1)) (.ret 1 false) (.grd 5 (a0.Step≠0) <| .ret 2 ((Int.tmod a0.Size a0.Step)==0))) (.ite 2 (a0.Kind==2) (.ca 4 (lY a0.Step 1 a0.Size) fun r2=>.ret 1 r2) (.ret 1 false))))) (.ite 2 (a0.Op==5) (.ca 2 (lY a0.Size 1 10000) fun r3=>.jn 1 0 (fun j4=>⟨[(2,tB j4)],[]⟩) (.ite 0 r3 (.ca 2 (lY a0.Keep 1 100) fun r5=>.ret 2 r5) (.ret 5 false)) fun j4=>.ret 0 j4) (.ite 2 (a0.Op==6) (.ca 2 (lY a0.Before 0 10000) fun r6=>.jn 1 0 (fun j7=>⟨[(2,tB j7)],[]⟩) (.ite 0 r6 (.ca 2 (lY a0.After 0 10000) fun r8=>.ret 2 r8) (.ret 5 false)) fun j7=>.ret 0 j7) (.ite 2 (a0.Op==7) (.ca 2 (lY a0.Keep 1 10000) fun r9=>.ret 1 r9) (.ite 2 (a0.Op==8) (.ca 2 (lY a0.Size 1 10000) fun r10=>.jn 1 0 (fun j11=>⟨[(2,tB j11)],[]⟩) (.ite 0 r10 (.ca 3 (lY (a0.Seq.length:Int) 1 8) fun r12=>.ret 2 r12) (.ret 6 false)) fun j11=>.ret 0 j11) (.ca 2 (lY a0.Op 0 8) fun r13=>.ret 1 r13)))))
def G83(a0:aG):=(T83 a0).den
theorem aMD(a0:aG):Con Tryz.prog 134 [.t (fM a0)] (G83 a0) tB:=con Tryz.func134 aR (T83 a0)
def T85(a0:List aI)(a1:bB)(a2:List Int):TP Bool:=.ca 5 (aRP a0 a2 ([]:List Int) a1) fun r1=>.jn 7 0 (fun j2=>⟨[(6,tB j2)],[]⟩) (.ite 0 (r1.2) (.ret 4 (r1.1==2)) (.ret 4 false)) fun j2=>.ret 0 j2
def G85(a0:List aI)(a1:bB)(a2:List Int):=(T85 a0 a1 a2).den
theorem aLT(a0:List aI)(a1:bB)(a2:List Int):Con Tryz.prog 135 [.t (eL aV a0),.t (cQ a1),.t (eL bK a2)] (G85 a0 a1 a2) tB:=con Tryz.func135 aR (T85 a0 a1 a2)
def aSL(a0:List Int)(a1:List Int):Int->TP ((Int)⊕((Unit)⊕Bool))
 | v1=>.ite 4 (decide (v1<a0.length)) (.grd 3 (0<=v1/\v1<a0.length) <| .jn 3 0 (fun j2=>⟨[(0,.t (eL bK a0)),(1,.t (eL bK a1)),(5,tI v1),(25,tB j2)],[]⟩) (.ite 0 (decide ((a0.getD v1.toNat default)<0)) (.ret 8 true) (.grd 3 (0<=v1/\v1<a0.length) <| .ret 5 (decide ((a0.getD v1.toNat default)>=(a1.length:Int))))) fun j2=>.ite 0 j2 (.ret 1 (.inr (.inr false))) (.ret 3 (.inl (i64.wrap (v1+1))))) (.ret 0 (.inr (.inl ())))
def T88(a0:List Int)(a1:List Int):TP Bool:=.lp 2 (fun v1=>⟨[(0,.t (eL bK a0)),(1,.t (eL bK a1)),(5,tI v1)],[]⟩) (fun _=>⟨[],[]⟩) 0 0 (aSL a0 a1) fun _=>.ret 1 true
def G88(a0:List Int)(a1:List Int):=(T88 a0 a1).den
theorem Bn(a0:List Int)(a1:List Int):Con Tryz.prog 137 [.t (eL bK a0),.t (eL bK a1)] (G88 a0 a1) tB:=con Tryz.func137 aR (T88 a0 a1)
def T84(a0:aG):TP Int:=.ite 6 (a0.Op==0) (.ret 1 0) (.jn 2 0 (fun j1=>⟨[(7,tB j1)],[]⟩) (.ite 0 (a0.Op==3) (.ret 0 (a0.Op==3)) (.jn 2 0 (fun j2=>⟨[(7,tB j2)],[]⟩) (.ite 0 (a0.Op==6) (.ret 0 (a0.Op==6)) (.ret 2 (a0.Op==7))) fun j2=>.ret 0 j2)) fun j1=>.ite 0 j1 (.ret 1 2) (.ret 1 1))
def G84(a0:aG):=(T84 a0).den
theorem bET(a0:aG):Con Tryz.prog 81 [.t (fM a0)] (G84 a0) tI:=con Tryz.func81 aR (T84 a0)
def bGM(a0:List aI)(a1:aG)(a2:List (List Int)):Int->TP ((Int)⊕((Unit)⊕Bool))
 | v8=>.ite 5 (decide (v8<a1.Exprs.length)) (.grd 6 (0<=v8/\v8<a1.Exprs.length) <| .ca 1 (aRP a0 (a2.getD (0:Int).toNat default) ([]:List Int) (a1.Exprs.getD v8.toNat default)) fun r9=>.ite 7 (!r9.2) (.ret 1 (.inr (.inr false))) (.ret 3 (.inl (i64.wrap (v8+1))))) (.ret 0 (.inr (.inl ())))
def aLK(a0:List aI)(a1:aG)(a2:List (List Int)):Int->TP ((Int)⊕((Unit)⊕Bool))
 | v18=>.ite 5 (decide (v18<a1.Seq.length)) (.grd 5 (0<=v18/\v18<a1.Seq.length) <| .ca 3 (aLT a0 ((a1.Seq.getD v18.toNat default).Pred) (a2.getD (0:Int).toNat default)) fun r19=>.jn 2 0 (fun j20=>⟨[(0,.t (eL aV a0)),(4,.ptr 4 0),(7,.t (eL bK (a2.getD (0:Int).toNat default))),(12,tI v18),(212,tB j20)],[(4,bN a1)]⟩) (.ite 0 (!r19) (.ret 17 true) (.grd 4 (0<=v18/\v18<a1.Seq.length) <| .ite 5 (decide (((a1.Seq.getD v18.toNat default).Rep)<0)) (.ret 8 true) (.grd 4 (0<=v18/\v18<a1.Seq.length) <| .ret 4 (decide (((a1.Seq.getD v18.toNat default).Rep)>=3))))) fun j20=>.ite 0 j20 (.ret 1 (.inr (.inr false))) (.ret 3 (.inl (i64.wrap (v18+1))))) (.ret 0 (.inr (.inl ())))
def T34(a0:List aI)(a1:aG)(a2:List (List Int)):TP Bool:=.ca 3 (aAL a0) fun r1=>.jn 2 0 (fun j2=>⟨[(0,.t (eL aV a0)),(2,.t (eL Pn a2)),(4,.ptr 4 0),(32,tB j2)],[(4,bN a1)]⟩) (.ite 0 (!r1) (.ret 16 true) (.ca 1 (aMD a1) fun r3=>.ite 3 (!r3) (.ret 11 true) (.ca 3 (bET a1) fun r4=>.ite 3 ((a2.length:Int) != r4) (.ret 4 true) (.ret 4 ((a2.length:Int)==0))))) fun j2=>.ite 0 j2 (.ret 1 false) (.grd 2 (0<=(0:Int)/\(0:Int)<a2.length) <| .grd 7 (0<=(i64.wrap ((a2.length:Int)-1))/\(i64.wrap ((a2.length:Int)-1))<a2.length) <| .jn 6 0 (fun j5=>⟨[(0,.t (eL aV a0)),(4,.ptr 4 0),(7,.t (eL bK (a2.getD (0:Int).toNat default))),(8,.t (eL bK (a2.getD (i64.wrap ((a2.length:Int)-1)).toNat default))),(59,tB j5)],[(4,bN a1)]⟩) (.ite 0 (((a2.getD (0:Int).toNat default).length:Int)==0) (.ret 14 true) (.ite 5 (decide (((a2.getD (0:Int).toNat default).length:Int)>12)) (.ret 9 true) (.ite 5 (((a2.getD (i64.wrap ((a2.length:Int)-1)).toNat default).length:Int)==0) (.ret 4 true) (.ret 4 (decide (((a2.getD (i64.wrap ((a2.length:Int)-1)).toNat default).length:Int)>12)))))) fun j5=>.ite 0 j5 (.ret 1 false) (.ite 4 (a1.Op==1) (.jn 5 0 (fun j6=>⟨[(6,tB j6)],[]⟩) (.ite 0 ((a1.Exprs.length:Int)==1) (.grd 4 (0<=(0:Int)/\(0:Int)<a1.Exprs.length) <| .ca 2 (aLT a0 (a1.Exprs.getD (0:Int).toNat default) (a2.getD (0:Int).toNat default)) fun r7=>.ret 2 r7) (.ret 9 false)) fun j6=>.ret 0 j6) (.ite 2 (a1.Op==2) (.lp 1 (fun v8=>⟨[(0,.t (eL aV a0)),(4,.ptr 4 0),(7,.t (eL bK (a2.getD (0:Int).toNat default))),(9,tI v8)],[(4,bN a1)]⟩) (fun _=>⟨[(4,.ptr 4 0)],[(4,bN a1)]⟩) 1 0 (bGM a0 a1 a2) fun _=>.jn 5 0 (fun j10=>⟨[(6,tB j10)],[]⟩) (.ite 0 (decide ((a1.Exprs.length:Int)>=1)) (.ret 6 (decide ((a1.Exprs.length:Int)<=12))) (.ret 6 false)) fun j10=>.ret 0 j10) (.ite 2 (a1.Op==3) (.no) (.ite 2 (a1.Op==4) (.ca 3 (Bn a1.Key (a2.getD (0:Int).toNat default)) fun r11=>.ite 1 r11 (.no) (.ret 16 false)) (.ite 2 (a1.Op==5) (.ca 3 (Bn a1.Key (a2.getD (0:Int).toNat default)) fun r12=>.jn 1 0 (fun j13=>⟨[(6,tB j13)],[]⟩) (.ite 0 r12 (.bs 2 false bK [a1.Step] <| .ca 1 (Bn [a1.Step] (a2.getD (0:Int).toNat default)) fun r14=>.ret 2 r14) (.ret 7 false)) fun j13=>.ret 0 j13) (.jn 2 0 (fun j15=>⟨[(0,.t (eL aV a0)),(4,.ptr 4 0),(7,.t (eL bK (a2.getD (0:Int).toNat default))),(8,.t (eL bK (a2.getD (i64.wrap ((a2.length:Int)-1)).toNat default))),(61,tI a1.Op),(149,tB j15)],[(4,bN a1)]⟩) (.ite 0 (a1.Op==6) (.ret 0 (a1.Op==6)) (.ret 2 (a1.Op==7))) fun j15=>.ite 0 j15 (.ca 3 (Bn a1.Key (a2.getD (0:Int).toNat default)) fun r16=>.jn 1 0 (fun _=>⟨[(6,tB false)],[]⟩) (.ite 0 r16 (.ca 3 (Bn a1.Key2 (a2.getD (i64.wrap ((a2.length:Int)-1)).toNat default)) fun r17=>.ite 2 r17 (.no) (.ret 14 ())) (.ret 20 ())) fun _=>.ret 0 false) (.ite 2 (a1.Op==8) (.lp 1 (fun v18=>⟨[(0,.t (eL aV a0)),(4,.ptr 4 0),(7,.t (eL bK (a2.getD (0:Int).toNat default))),(12,tI v18)],[(4,bN a1)]⟩) (fun _=>⟨[(4,.ptr 4 0),(7,.t (eL bK (a2.getD (0:Int).toNat default)))],[(4,bN a1)]⟩) 3 0 (aLK a0 a1 a2) fun _=>.ca 3 (Bn a1.Key (a2.getD (0:Int).toNat default)) fun r21=>.jn 1 0 (fun j22=>⟨[(6,tB j22)],[]⟩) (.ite 0 r21 (.ret 6 (decide ((a1.Key.length:Int)<=10))) (.ret 6 false)) fun j22=>.ret 0 j22) (.ret 1 false)))))))))
def G34(a0:List aI)(a1:aG)(a2:List (List Int)):=(T34 a0 a1 a2).den
theorem bCT(a0:List aI)(a1:aG)(a2:List (List Int)):Con Tryz.prog 61 [.t (eL aV a0),.t (fM a1),.t (eL Pn a2)] (G34 a0 a1 a2) tB:=con Tryz.func61 aR (T34 a0 a1 a2)
def aWZ(a0:aE):TP Bool:=.ite 5 (a0.Kind==0) (.ret 4 ((a0.S:ByteArray).toList==(⟨#[]⟩:ByteArray).toList)) (.ite 3 (a0.Kind==1) (.jn 4 0 (fun j1=>⟨[(2,tB j1)],[]⟩) (.ite 0 (a0.N==0) (.ret 6 (decide (((a0.S:ByteArray).size:Int)<=200))) (.ret 6 false)) fun j1=>.ret 0 j1) (.jn 4 0 (fun j2=>⟨[(2,tB j2)],[]⟩) (.ite 0 (a0.Kind==2) (.ite 4 (a0.N==0) (.ret 11 ((a0.S:ByteArray).toList==(⟨#[]⟩:ByteArray).toList)) (.ite 6 (a0.N==1) (.ret 5 ((a0.S:ByteArray).toList==(⟨#[]⟩:ByteArray).toList)) (.ret 5 false))) (.ret 15 false)) fun j2=>.ret 0 j2))
def aSK(a0:aE):=(aWZ a0).den
theorem bBC(a0:aE):Con Tryz.prog 101 [.t (cH a0)] (aSK a0) tB:=con Tryz.func101 aR (aWZ a0)
def Nn(a0:List aE):Int->TP ((Int)⊕((Unit)⊕Bool))
 | v1=>.ite 4 (decide (v1<a0.length)) (.grd 3 (0<=v1/\v1<a0.length) <| .ca 1 (bBC (a0.getD v1.toNat default)) fun r2=>.ite 1 (!r2) (.ret 1 (.inr (.inr false))) (.ret 3 (.inl (i64.wrap (v1+1))))) (.ret 0 (.inr (.inl ())))
def bAU(a0:List aE):TP Bool:=.lp 2 (fun v1=>⟨[(0,tV a0),(3,tI v1)],[]⟩) (fun _=>⟨[],[]⟩) 0 0 (Nn a0) fun _=>.ret 1 true
def aLP(a0:List aE):=(bAU a0).den
theorem aTP(a0:List aE):Con Tryz.prog 39 [tV a0] (aLP a0) tB:=con Tryz.func39 aR (bAU a0)
def T78(a0:List aE):TP Bool:=.jn 5 0 (fun j1=>⟨[(2,tB j1)],[]⟩) (.ite 0 (decide ((a0.length:Int)<=12)) (.ca 1 (aTP a0) fun r2=>.ret 2 r2) (.ret 4 false)) fun j1=>.ret 0 j1
def G78(a0:List aE):=(T78 a0).den
theorem bDY(a0:List aE):Con Tryz.prog 99 [tV a0] (G78 a0) tB:=con Tryz.func99 aR (T78 a0)
def Ie(a0:LD)(a1:List Int)(v1:Int):Int->TP ((Int)⊕((Unit)⊕((Int)⊕((Unit)⊕Bool))))
 | v5=>.ite 4 (decide (v5<a1.length)) (.dg 2 (0<=v1/\v1<a0.length) <| .dg 6 (0<=v5/\v5<(((a0.getD v1.toNat default).Row).length:Int)) <| .dg 11 (0<=v5/\v5<a1.length) <| .dr 0 0 [] [0,1,2,7,8,70,71,72,73] <| .ite 0 (((((a0.getD v1.toNat default).Row).getD v5.toNat default).Kind) != (a1.getD v5.toNat default)) (.ret 1 (.inr (.inr (.inr (.inr false))))) (.ret 3 (.inl (i64.wrap (v5+1))))) (.ret 0 (.inr (.inl ())))
def Sa(a0:LD)(a1:List Int)(a2:Int):Int->TP ((Int)⊕((Unit)⊕Bool))
 | v1=>.jn 5 0 (fun j2=>⟨[(0,tD a0),(1,.t (eL bK a1)),(2,tI a2),(7,tI v1),(17,tB j2)],[]⟩) (.ite 0 (decide (v1<a0.length)) (.ret 4 (decide (v1<=a2))) (.ret 4 false)) fun j2=>.ite 0 j2 (.grd 3 (0<=v1/\v1<a0.length) <| .jn 4 0 (fun j3=>⟨[(0,tD a0),(1,.t (eL bK a1)),(2,tI a2),(7,tI v1),(69,tB j3)],[]⟩) (.ite 0 (decide (((a0.getD v1.toNat default).Time)<0)) (.ret 43 true) (.grd 3 (0<=v1/\v1<a0.length) <| .ite 5 (decide (((a0.getD v1.toNat default).Time)>2199023255552)) (.ret 35 true) (.grd 3 (0<=v1/\v1<a0.length) <| .ite 5 (decide (((a0.getD v1.toNat default).N)<1)) (.ret 27 true) (.grd 3 (0<=v1/\v1<a0.length) <| .ite 5 (decide (((a0.getD v1.toNat default).N)>5)) (.ret 19 true) (.grd 3 (0<=v1/\v1<a0.length) <| .ite 8 ((((a0.getD v1.toNat default).Row).length:Int) != (a1.length:Int)) (.ret 8 true) (.grd 3 (0<=v1/\v1<a0.length) <| .ca 2 (bDY ((a0.getD v1.toNat default).Row)) fun r4=>.ret 2 (!r4))))))) fun j3=>.ite 0 j3 (.ret 1 (.inr (.inr false))) (.lp 1 (fun v5=>⟨[(0,tD a0),(1,.t (eL bK a1)),(2,tI a2),(7,tI v1),(8,tI v5)],[]⟩) (fun _=>⟨[(0,tD a0),(1,.t (eL bK a1)),(2,tI a2),(7,tI v1)],[]⟩) 2 0 (Ie a0 a1 v1) fun _=>.ret 3 (.inl (i64.wrap (v1+1))))) (.ret 0 (.inr (.inl ())))
def T30(a0:LD)(a1:List Int)(a2:Int):TP Bool:=.lp 2 (fun v1=>⟨[(0,tD a0),(1,.t (eL bK a1)),(2,tI a2),(7,tI v1)],[]⟩) (fun _=>⟨[(0,tD a0),(2,tI a2)],[]⟩) 0 0 (Sa a0 a1 a2) fun _=>.ret 5 (decide ((a0.length:Int)<=a2))
def G30(a0:LD)(a1:List Int)(a2:Int):=(T30 a0 a1 a2).den
theorem aOF(a0:LD)(a1:List Int)(a2:Int):Con Tryz.prog 36 [tD a0,.t (eL bK a1),tI a2] (G30 a0 a1 a2) tB:=con Tryz.func36 aR (T30 a0 a1 a2)
def bIS(a0:aC)(a1:aC):TP Int:=.ite 8 (decide (a0.Time<a1.Time)) (.ret 1 (-1)) (.ite 5 (decide (a0.Time>a1.Time)) (.ret 1 1) (.ca 4 (Qm a0.Row a1.Row) fun r1=>.ret 1 r1))
def bCF(a0:aC)(a1:aC):=(bIS a0 a1).den
theorem aTI(a0:aC)(a1:aC):Con Tryz.prog 82 [.t (cO a0),.t (cO a1)] (bCF a0 a1) tI:=con Tryz.func82 aR (bIS a0 a1)
abbrev bKC:={f:LD->Option LD // ∀ a:LD,Con Tryz.prog 37 [tD a] (f a) tD}
def Qy(r2:LD)(r3:LD):(LD×Int×Int)->TP ((LD×Int×Int)⊕((LD)⊕LD))
 | (v4,v5,v6)=>.jn 5 0 (fun (j8,j9)=>⟨[(3,tD r2),(4,tD r3),(5,.own 5),(6,tI v5),(7,tI v6),(65,tB j9)],[(5,aD j8)]⟩) (.ite 0 (decide (v5<r2.length)) (.ret 5 (v4,true)) (.ret 5 (v4,decide (v6<r3.length)))) fun (j8,j9)=>.ite 0 j9 (.jn 0 2 (fun (j10,j11,j12)=>⟨[(3,tD r2),(4,tD r3),(5,.own 5),(6,tI j11),(7,tI j12)],[(5,aD j10)]⟩) (.jn 5 0 (fun (j13,j14)=>⟨[(3,tD r2),(4,tD r3),(5,.own 5),(6,tI v5),(7,tI v6),(8,tI j14)],[(5,aD j13)]⟩) (.ite 0 (decide (v5>=(r2.length:Int))) (.ret 1 (j8,1)) (.jn 4 0 (fun (j15,j16)=>⟨[(3,tD r2),(4,tD r3),(5,.own 5),(6,tI v5),(7,tI v6),(8,tI j16)],[(5,aD j15)]⟩) (.ite 0 (decide (v6>=(r3.length:Int))) (.ret 1 (j8,(-1))) (.dg 2 (0<=v5/\v5<r2.length) <| .dg 6 (0<=v6/\v6<r3.length) <| .dc 8 [.t (cO (r2.getD v5.toNat default)),.t (cO (r3.getD v6.toNat default))] (aTI (r2.getD v5.toNat default) (r3.getD v6.toNat default)) fun r17=>.dr 0 0 [(5,false,[])] [3,4,5,6,7,65,66,67,68,69,70,71,72,73] <| .ret 0 (j8,r17))) fun (j15,j16)=>.ret 0 (j15,j16))) fun (j13,j14)=>.ite 2 (decide (j14<0)) (.grd 4 (0<=v5/\v5<r2.length) <| .bs 1 false aK [r2.getD v5.toNat default] <| .grd 1 ((j13.length+[r2.getD v5.toNat default].length)*40<=140737488355328) <| .cv 0 [.ap 91 aK j13 [r2.getD v5.toNat default]] <| .cv 4 [.rn 91 5] <| .ret 0 (j13++[r2.getD v5.toNat default],i64.wrap (v5+1),v6)) (.grd 7 (0<=(if (i64.wrap ((r3.length:Int)-1))<v6 then (i64.wrap ((r3.length:Int)-1)) else v6)/\(if (i64.wrap ((r3.length:Int)-1))<v6 then (i64.wrap ((r3.length:Int)-1)) else v6)<r3.length) <| .jn 8 0 (fun (j18,j19,j20)=>⟨[(3,tD r2),(4,tD r3),(5,.own 5),(6,tI j20),(7,tI (i64.wrap (v6+1))),(9,.ptr 9 0)],[(5,aD j19),(9,.box [tI ((r3.getD (if (i64.wrap ((r3.length:Int)-1))<v6 then (i64.wrap ((r3.length:Int)-1)) else v6).toNat default).Time),tV ((r3.getD (if (i64.wrap ((r3.length:Int)-1))<v6 then (i64.wrap ((r3.length:Int)-1)) else v6).toNat default).Row),tI j18])]⟩) (.ite 0 (j14==0) (.dg 4 (0<=v5/\v5<r2.length) <| .dr 0 0 [(5,false,[]),(9,false,[9])] [3,4,5,6,7,8,9,83,84,94,95,96,97,98,99,100,101,102,103,104,105] <| .ret 3 (i64.wrap (((r3.getD (if (i64.wrap ((r3.length:Int)-1))<v6 then (i64.wrap ((r3.length:Int)-1)) else v6).toNat default).N)+((r2.getD v5.toNat default).N)),j13,i64.wrap (v5+1))) (.ret 0 ((r3.getD (if (i64.wrap ((r3.length:Int)-1))<v6 then (i64.wrap ((r3.length:Int)-1)) else v6).toNat default).N,j13,v5))) fun (j18,j19,j20)=>.jn 3 0 (fun j21=>⟨[(3,tD r2),(4,tD r3),(5,.own 5),(6,tI j20),(7,tI (i64.wrap (v6+1)))],[(5,aD j21)]⟩) (.ite 0 (j18 != 0) (.bs 2 false aK ([(aC.mk ((r3.getD (if (i64.wrap ((r3.length:Int)-1))<v6 then (i64.wrap ((r3.length:Int)-1)) else v6).toNat default).Time) ((r3.getD (if (i64.wrap ((r3.length:Int)-1))<v6 then (i64.wrap ((r3.length:Int)-1)) else v6).toNat default).Row) j18)]:LD) <| .grd 1 ((j19.length+([(aC.mk ((r3.getD (if (i64.wrap ((r3.length:Int)-1))<v6 then (i64.wrap ((r3.length:Int)-1)) else v6).toNat default).Time) ((r3.getD (if (i64.wrap ((r3.length:Int)-1))<v6 then (i64.wrap ((r3.length:Int)-1)) else v6).toNat default).Row) j18)]:LD).length)*40<=140737488355328) <| .cv 0 [.ap 123 aK j19 ([(aC.mk ((r3.getD (if (i64.wrap ((r3.length:Int)-1))<v6 then (i64.wrap ((r3.length:Int)-1)) else v6).toNat default).Time) ((r3.getD (if (i64.wrap ((r3.length:Int)-1))<v6 then (i64.wrap ((r3.length:Int)-1)) else v6).toNat default).Row) j18)]:LD)] <| .cv 1 [.rn 123 5] <| .ret 0 (j19++([(aC.mk ((r3.getD (if (i64.wrap ((r3.length:Int)-1))<v6 then (i64.wrap ((r3.length:Int)-1)) else v6).toNat default).Time) ((r3.getD (if (i64.wrap ((r3.length:Int)-1))<v6 then (i64.wrap ((r3.length:Int)-1)) else v6).toNat default).Row) j18)]:LD))) (.ret 0 j19)) fun j21=>.ret 0 (j21,j20,i64.wrap (v6+1)))) fun (j10,j11,j12)=>.ret 0 (.inl (j10,j11,j12))) (.ret 0 (.inr (.inl j8)))
def aNV(rec:bKC)(a0:LD):TP LD:=.jn 5 0 (fun j1=>⟨[(0,tD a0),(24,tB j1)],[]⟩) (.ite 0 ((a0.length:Int)==0) (.ret 11 true) (.ite 4 ((a0.length:Int)==1) (.grd 2 (0<=(0:Int)/\(0:Int)<a0.length) <| .ret 5 (((a0.getD (0:Int).toNat default).N)==0)) (.ret 7 false))) fun j1=>.ite 0 j1 (.cv 1 [.sl 2 (eL aK ([]:LD))] <| .ret 0 ([]:LD)) (.ite 3 ((a0.length:Int)==1) (.dg 1 (0<=(0:Int)/\(0:Int)<a0.length) <| .dg 6 (0<=(0:Int)/\(0:Int)<a0.length) <| .dg 9 ((0+((a0.getD (0:Int).toNat default).Row).length)*32<=140737488355328) <| .dg 11 (0<=(0:Int)/\(0:Int)<a0.length) <| .dr 0 3 [(32,true,[4,9]),(37,true,[9])] [0,24,25,26,27] <| .cv 0 [.fr 37 (eL bA ((a0.getD (0:Int).toNat default).Row))] <| .bs 1 false aK ([a0.getD (0:Int).toNat default]:LD) <| .ret 1 ([a0.getD (0:Int).toNat default]:LD)) (.gd 4 ((2:Int)≠0) (by decide) <| .slc 1 48 aK a0 (0:Int) (i64.wrap (Int.tdiv (a0.length:Int) 2)) <| .ca 0 (rec.2 ((a0.drop (0:Int).toNat).take ((i64.wrap (Int.tdiv (a0.length:Int) 2))-(0:Int)).toNat)) fun r2=>.gd 5 ((2:Int)≠0) (by decide) <| .slc 1 54 aK a0 (i64.wrap (Int.tdiv (a0.length:Int) 2):Int) (a0.length:Int) <| .ca 0 (rec.2 ((a0.drop (i64.wrap (Int.tdiv (a0.length:Int) 2):Int).toNat).take ((a0.length:Int)-(i64.wrap (Int.tdiv (a0.length:Int) 2):Int)).toNat)) fun r3=>.cv 4 [.th 5 5 50 3 (eF aK ([]:LD))] <| .lp 0 (fun (v4,v5,v6)=>⟨[(3,tD r2),(4,tD r3),(5,.own 5),(6,tI v5),(7,tI v6)],[(5,aD v4)]⟩) (fun b7=>⟨[(5,.own 5)],[(5,aD b7)]⟩) 0 (([]:LD),0,0) (Qy r2 r3) fun b7=>.cv 2 [.fr 5 (eL aK b7)] <| .ret 0 b7))
theorem aCI(rec:bKC)(a0:LD):Con Tryz.prog 37 [tD a0] (aNV rec a0).den tD:=con Tryz.func37 aR (aNV rec a0)
def bKZ(a:LD):Option LD:=sG (C:=fun (a:LD) (x:Option LD)=>Con Tryz.prog 37 [tD a] x tD) (fun a=>⟨bL Tryz.func37 (by kernel_rfl),fun _ h=>nomatch h⟩) (fun rec a=>aNV rec a) (fun rec a=>aCI rec a) a
theorem aXZ(a:LD):Con Tryz.prog 37 [tD a] (bKZ a) tD:=lX (C:=fun (a:LD) (x:Option LD)=>Con Tryz.prog 37 [tD a] x tD) _ _ _ a
def bJT(a0:LD):Option LD:=bKZ a0
theorem aFO(a0:LD):Con Tryz.prog 37 [tD a0] (bJT a0) tD:=aXZ a0
def Rm(a1:List Int)(a2:List aW)(v1:LD)(v2:Int)(v3:Int):Int->TP ((Int)⊕((Unit)⊕((LD×Int)⊕((LD×Int×Int)⊕((Unit)⊕Bool)))))
 | v6=>.grd 4 (0<=v3/\v3<a2.length) <| .ite 4 (decide (v6<(((a2.getD v3.toNat default).L).length:Int))) (.grd 3 (0<=v3/\v3<a2.length) <| .grd 4 (0<=v6/\v6<(((a2.getD v3.toNat default).L).length:Int)) <| .jn 8 0 (fun j7=>⟨[(1,.t (eL bK a1)),(2,.t (eL bO a2)),(9,tD v1),(10,tI v2),(11,tI v3),(12,tI v6),(13,.ptr 13 0),(83,tB j7)],[(13,.box ((aK (((a2.getD v3.toNat default).L).getD v6.toNat default)).map .t))]⟩) (.ite 0 (decide (((((a2.getD v3.toNat default).L).getD v6.toNat default).Time)<=v2)) (.ret 9 true) (.ite 5 (decide (((((a2.getD v3.toNat default).L).getD v6.toNat default).N)<(-3))) (.ret 4 true) (.ret 4 (decide (((((a2.getD v3.toNat default).L).getD v6.toNat default).N)>3))))) fun j7=>.ite 0 j7 (.ret 1 (.inr (.inr (.inr (.inr (.inr false)))))) (.bs 3 false aK [(aC.mk ((((a2.getD v3.toNat default).L).getD v6.toNat default).Time) ((((a2.getD v3.toNat default).L).getD v6.toNat default).Row) 1)] <| .ca 1 (aOF [(aC.mk ((((a2.getD v3.toNat default).L).getD v6.toNat default).Time) ((((a2.getD v3.toNat default).L).getD v6.toNat default).Row) 1)] a1 1) fun r8=>.ite 1 (!r8) (.ret 1 (.inr (.inr (.inr (.inr (.inr false)))))) (.ret 3 (.inl (i64.wrap (v6+1)))))) (.ret 0 (.inr (.inl ())))
def Qs(a1:List Int)(a2:List aW)(v2:Int)(v3:Int)(r9:LD):Int->TP ((Int)⊕((Unit)⊕((LD×Int)⊕((LD×Int×Int)⊕((Unit)⊕Bool)))))
 | v10=>.ite 4 (decide (v10<r9.length)) (.grd 3 (0<=v10/\v10<r9.length) <| .jn 4 0 (fun j11=>⟨[(1,.t (eL bK a1)),(2,.t (eL bO a2)),(9,tD r9),(10,tI v2),(11,tI v3),(14,tI v10),(119,tB j11)],[]⟩) (.ite 0 (decide (((r9.getD v10.toNat default).N)<1)) (.ret 7 true) (.grd 3 (0<=v10/\v10<r9.length) <| .ret 4 (decide (((r9.getD v10.toNat default).N)>20)))) fun j11=>.ite 0 j11 (.ret 1 (.inr (.inr (.inr (.inr (.inr false)))))) (.ret 3 (.inl (i64.wrap (v10+1))))) (.ret 0 (.inr (.inl ())))
def aFD(a1:List Int)(a2:List aW):(LD×Int×Int)->TP ((LD×Int×Int)⊕((Unit)⊕Bool))
 | (v1,v2,v3)=>.ite 4 (decide (v3<a2.length)) (.pc 0 3 (fun ((j4,j5):LD×Int)=>⟨[(1,.t (eL bK a1)),(2,.t (eL bO a2)),(9,tD j4),(10,tI j5),(11,tI v3)],[]⟩) (.grd 3 (0<=v3/\v3<a2.length) <| .ite 4 ((lG .i64 ((a2.getD v3.toNat default).Do) 1)==1) (.grd 3 (0<=v3/\v3<a2.length) <| .ite 3 (decide (((a2.getD v3.toNat default).C)>2199023255552)) (.ret 1 (.inr (.inr (.inr false)))) (.grd 4 (0<=v3/\v3<a2.length) <| .ret 4 (.inl (v1,if ((a2.getD v3.toNat default).C)>v2 then ((a2.getD v3.toNat default).C) else v2)))) (.grd 3 (0<=v3/\v3<a2.length) <| .ite 4 (decide ((((a2.getD v3.toNat default).L).length:Int)>8)) (.ret 1 (.inr (.inr (.inr false)))) (.lp 1 (fun v6=>⟨[(1,.t (eL bK a1)),(2,.t (eL bO a2)),(9,tD v1),(10,tI v2),(11,tI v3),(12,tI v6)],[]⟩) (fun _=>⟨[(1,.t (eL bK a1)),(2,.t (eL bO a2)),(9,tD v1),(10,tI v2),(11,tI v3)],[]⟩) 2 0 (Rm a1 a2 v1 v2 v3) fun _=>.dg 2 ((0+v1.length)*40<=140737488355328) <| .dg 5 (0<=v3/\v3<a2.length) <| .dap 8 (aJW aK v1 ((a2.getD v3.toNat default).L) (((a2.getD v3.toNat default).L).length) (eF aK ((a2.getD v3.toNat default).L)) rfl (by kernel_rfl)) <| .dg 8 ((v1.length+((a2.getD v3.toNat default).L).length)*40<=140737488355328) <| .dc 9 [tD (v1++((a2.getD v3.toNat default).L))] (aFO (v1++((a2.getD v3.toNat default).L))) fun r9=>.dr 0 0 [(90,true,[0,2]),(92,true,[2,8]),(98,true,[8])] [1,2,9,10,11] <| .lp 1 (fun v10=>⟨[(1,.t (eL bK a1)),(2,.t (eL bO a2)),(9,tD r9),(10,tI v2),(11,tI v3),(14,tI v10)],[]⟩) (fun _=>⟨[(1,.t (eL bK a1)),(2,.t (eL bO a2)),(9,tD r9),(10,tI v2),(11,tI v3)],[]⟩) 4 0 (Qs a1 a2 v2 v3 r9) fun _=>.ret 0 (.inl (r9,v2))))) fun (j4,j5)=>.ret 3 (.inl (j4,j5,i64.wrap (v3+1)))) (.ret 0 (.inr (.inl ())))
def bGV(a0:aG)(a1:List Int)(a2:List aW)(a3:Int):TP Bool:=.ite 6 (decide ((a2.length:Int)>a3)) (.ret 1 false) (.cv 3 [.sl 9 (eL aK ([]:LD))] <| .lp 0 (fun (v1,v2,v3)=>⟨[(1,.t (eL bK a1)),(2,.t (eL bO a2)),(9,tD v1),(10,tI v2),(11,tI v3)],[]⟩) (fun _=>⟨[],[]⟩) 0 (([]:LD),(-1),0) (aFD a1 a2) fun _=>.ret 1 true)
def bID(a0:aG)(a1:List Int)(a2:List aW)(a3:Int):=(bGV a0 a1 a2 a3).den
theorem aZP(a0:aG)(a1:List Int)(a2:List aW)(a3:Int):Con Tryz.prog 62 [.t (fM a0),.t (eL bK a1),.t (eL bO a2),tI a3] (bID a0 a1 a2 a3) tB:=con Tryz.func62 aR (bGV a0 a1 a2 a3)
def bHM(a0:List aI)(a1:aG)(a2:List Int)(a3:List aW)(a4:Int):TP Bool:=.jn 6 0 (fun j1=>⟨[(0,.t (eL aV a0)),(2,.t (eL bK a2)),(3,.t (eL bO a3)),(4,tI a4),(6,.ptr 6 0),(24,tB j1)],[(6,bN a1)]⟩) (.ite 0 (a1.Op != 8) (.ret 10 true) (.ite 5 (decide ((a2.length:Int)>12)) (.ret 5 true) (.ca 2 (bGR a0 a1) fun r2=>.ret 2 (!r2)))) fun j1=>.ite 0 j1 (.ret 1 false) (.ca 1 (aAL a0) fun r3=>.jn 1 0 (fun j4=>⟨[(10,tB j4)],[]⟩) (.ite 0 r3 (.bs 3 false Pn [a2] <| .ca 0 (bCT a0 a1 [a2]) fun r5=>.ite 2 r5 (.ca 4 (aZP a1 a2 a3 a4) fun r6=>.ret 2 r6) (.ret 7 false)) (.ret 14 false)) fun j4=>.ret 0 j4)
def bGJ(a0:List aI)(a1:aG)(a2:List Int)(a3:List aW)(a4:Int):=(bHM a0 a1 a2 a3 a4).den
theorem aZE(a0:List aI)(a1:aG)(a2:List Int)(a3:List aW)(a4:Int):Con Tryz.prog 15 [.t (eL aV a0),.t (fM a1),.t (eL bK a2),.t (eL bO a3),tI a4] (bGJ a0 a1 a2 a3 a4) tB:=con Tryz.func15 aR (bHM a0 a1 a2 a3 a4)
def Qu(a0:LD):(Int×Int)->TP ((Int×Int)⊕((Int)⊕Int))
 | (v1,v2)=>.ite 4 (decide (v2<a0.length)) (.grd 4 (0<=v2/\v2<a0.length) <| .ret 7 (.inl (i64.wrap (v1+((a0.getD v2.toNat default).N)),i64.wrap (v2+1)))) (.ret 0 (.inr (.inl v1)))
def T50(a0:LD):TP Int:=.lp 3 (fun (v1,v2)=>⟨[(0,tD a0),(3,tI v1),(4,tI v2)],[]⟩) (fun b3=>⟨[(3,tI b3)],[]⟩) 0 (0,0) (Qu a0) fun b3=>.ret 2 b3
def G50(a0:LD):=(T50 a0).den
theorem bIT(a0:LD):Con Tryz.prog 46 [tD a0] (G50 a0) tI:=con Tryz.func46 aR (T50 a0)
def xK(r1:LD):(ByteArray×Int)->TP ((ByteArray×Int)⊕((ByteArray)⊕ByteArray))
 | (v3,v4)=>.ite 1 (decide (v4<r1.length)) (.grd 1 (0<=v4/\v4<r1.length) <| .dc 2 [tI ((r1.getD v4.toNat default).Time)] (xT ((r1.getD v4.toNat default).Time)) fun r6=>.dc 5 [tV ((r1.getD v4.toNat default).Row)] (Nh ((r1.getD v4.toNat default).Row)) fun r7=>.dc 6 [.t (.str r7)] (aKL r7) fun r8=>.dg 7 (((r6.size+r8.size:Nat):Int)<=9223372036854775807) <| .dc 10 [tI ((r1.getD v4.toNat default).N)] (xT ((r1.getD v4.toNat default).N)) fun r9=>.dg 11 ((((r6++r8).size+r9.size:Nat):Int)<=9223372036854775807) <| .dch 12 [.ptr 30000 0,.t (.str ((r6++r8)++r9))] (On v3 ((r6++r8)++r9)) (fun _=>some (30000,.bld 177 5 (v3++((r6++r8)++r9)))) fun _=>.dr 3 0 [(6,false,[]),(30000,false,[12])] [4,6,13,14,15,16,17,18] <| .ret 2 (.inl (v3++((r6++r8)++r9),i64.wrap (v4+1)))) (.ret 0 (.inr (.inl v3)))
def T53(a0:LD):TP ByteArray:=.ca 2 (Br a0) fun r1=>.abl 1 5 <| .ca 2 (aBK (r1.length:Int)) fun r2=>.cv 0 [.rn 4 30000] <| .ch 0 [] (On (⟨#[]⟩:ByteArray) r2) fun _=>.lp 3 (fun (v3,v4)=>⟨[(4,.ptr 30000 0),(13,tD r1),(14,tI (r1.length:Int)),(15,tI v4)],[(30000,.bld 177 5 v3)]⟩) (fun b5=>⟨[(4,.ptr 30000 0)],[(30000,.bld 177 5 b5)]⟩) 0 ((⟨#[]⟩:ByteArray)++r2,0) (xK r1) fun b5=>.ch 0 [] (aNR b5) fun r10=>.ret 1 r10
def G53(a0:LD):=(T53 a0).den
theorem aQU(a0:LD):Con Tryz.prog 79 [tD a0] (G53 a0) (fun y=>.t (.str y)):=con Tryz.func79 aR (T53 a0)
def Xl(qu0:List aI)(qu1:aG)(qu2:Int)(qum:LM):TP (ByteArray×LM):=.ca 5 (xT qu2) fun r1=>.ch 1 [] (Ms qu0 qu1 qu2 qum) fun r2=>.ca 0 (aQU r2.1) fun r3=>.grd 1 (((r1.size+r3.size:Nat):Int)<=9223372036854775807) <| .ret 1 (r1++r3,r2.2)
def Nu(qu0:List aI)(qu1:aG)(qu2:Int)(qum:LM):=(Xl qu0 qu1 qu2 qum).den
theorem Jk(qu0:List aI)(qu1:aG)(qu2:Int)(qum:LM):dD Tryz.prog 28 [.ptr 30000 0] [(30000,bP qu0 qu1 30001 qu2),(30001,pD qum)] [30000,30001] (Nu qu0 qu1 qu2 qum) (fun y=>.t (.str (y.1))) (fun y=>[(30000,bP qu0 qu1 30001 qu2),(30001,.mp none (eM mD (y.2:LM)) none)]):=eC Tryz.func28 aR (Xl qu0 qu1 qu2 qum)
def aAQ(a0:List aI)(a1:aG):TP bU:=.bs 2 true bK ([]:List Int) <| .grd 3 ((([]:List Int).length+a1.Key.length)*8<=140737488355328) <| .cv 0 [.ap 8 bK ([]:List Int) a1.Key] <| .bs 2 true fN ([]:List jZ) <| .grd 3 ((([]:List jZ).length+a1.Seq.length)*64<=140737488355328) <| .cv 0 [.ap 13 fN ([]:List jZ) a1.Seq] <| .cv 2 [.fr 8 (eL bK (([]:List Int)++a1.Key)),.fr 13 (eL fN (([]:List jZ)++a1.Seq))] <| .dg 2 ((0+a0.length)*104<=140737488355328) <| .dr 0 2 [(15,true,[0,2]),(17,true,[2]),(3,false,[])] [0,1,3,6,7,8,9,11,12,13,14] <| .cv 2 [.fr 17 (eL aV a0),.bx 20 [eL aV a0,.int .i64 (a1.Op),eL bK (a1.In),.str (a1.Source),.int .i64 (a1.Schema),.lz (.exprs (a1.Exprs)),.int .i64 (a1.Kind),.int .i64 (a1.Size),.int .i64 (a1.Step),eL bK (([]:List Int)++a1.Key),eL bK (a1.Key2),.int .i64 (a1.Before),.int .i64 (a1.After),.int .i64 (a1.Keep),eL Hf (a1.Aggs),eL fN (([]:List jZ)++a1.Seq),eL Ik (a1.Cols),eL aK ([]:LD),.int .i64 (-1)],.rn 20 40000] <| .ret 0 (bU.mk a0 (aG.mk a1.Op a1.In a1.Source a1.Schema a1.Exprs a1.Kind a1.Size a1.Step (([]:List Int)++a1.Key) a1.Key2 a1.Before a1.After a1.Keep a1.Aggs (([]:List jZ)++a1.Seq) a1.Cols) ([]:LD) (-1))
def Zh(a0:List aI)(a1:aG):=(aAQ a0 a1).den
theorem Kc(a0:List aI)(a1:aG):dD Tryz.prog 42 [.t (eL aV a0),.t (fM a1)] [] [] (Zh a0 a1) (fun y=>.ptr 40000 0) (fun y=>[(40000,.box ((eG y).map .t))]):=eC Tryz.func42 aR (aAQ a0 a1)
def T44(a0:aG):TP (Int×Int):=.ca 4 (aMD a0) fun r1=>.ite 1 (!r1) (.ret 2 (0,0)) (.ite 4 (a0.Op==4) (.ite 3 (a0.Kind==2) (.dr 0 0 [(1,false,[])] [0,1,4,5,6,7,8,9,10,11,12,13] <| .ret 0 (i64.wrap (a0.Size-1),i64.wrap (a0.Step-1))) (.dr 0 0 [(1,false,[])] [0,1,4,5,6,7,8,9,10,11,12,13] <| .ret 0 (i64.wrap (a0.Size-1),i64.wrap (a0.Size-1)))) (.ite 2 (a0.Op==5) (.dr 0 0 [(1,false,[])] [0,1,4,5,6,7,8,9,10,26,27] <| .ret 0 (i64.wrap (a0.Size-1),i64.wrap (a0.Size-1))) (.ite 2 (a0.Op==6) (.ret 7 (if a0.After>a0.Before then a0.After else a0.Before,0)) (.ite 2 (a0.Op==7) (.ret 5 (i64.wrap (a0.Keep-1),0)) (.ite 2 (a0.Op==8) (.ret 5 (i64.wrap (a0.Size-1),0)) (.ret 2 (0,0)))))))
def G44(a0:aG):=(T44 a0).den
theorem aLA(a0:aG):Con Tryz.prog 103 [.t (fM a0)] (G44 a0) (fun y=>.tup [tI y.1,tI y.2]):=con Tryz.func103 aR (T44 a0)
def bEH(a0:aC)(a1:Int):TP aC:=.dg 5 ((0+a0.Row.length)*32<=140737488355328) <| .dr 2 0 [(7,true,[2,5]),(10,true,[5]),(2,false,[]),(4,false,[8])] [0,1,2,4] <| .cv 0 [.fr 10 (eL bA (a0.Row))] <| .ret 0 (aC.mk a0.Time a0.Row a1)
def bDZ(a0:aC)(a1:Int):=(bEH a0 a1).den
theorem aFF(a0:aC)(a1:Int):Con Tryz.prog 194 [.t (cO a0),tI a1] (bDZ a0 a1) (fun y=>.t (cO y)):=con Tryz.func194 aR (bEH a0 a1)
abbrev bJC:={f:LD->Option LD // ∀ a:LD,Con Tryz.prog 250 [tD a] (f a) tD}
def Qk(r1:LD)(r2:LD):(LD×Int×Int)->TP ((LD×Int×Int)⊕((LD)⊕LD))
 | (v3,v4,v5)=>.jn 5 0 (fun (j7,j8)=>⟨[(3,tD r1),(4,tD r2),(5,.own 5),(6,tI v4),(7,tI v5),(34,tB j8)],[(5,aD j7)]⟩) (.ite 0 (decide (v4<r1.length)) (.ret 5 (v3,true)) (.ret 5 (v3,decide (v5<r2.length)))) fun (j7,j8)=>.ite 0 j8 (.jn 10 0 (fun (j9,j10)=>⟨[(3,tD r1),(4,tD r2),(5,.own 5),(6,tI v4),(7,tI v5),(8,tB (decide (v5>=(r2.length:Int)))),(48,tB j10)],[(5,aD j9)]⟩) (.ite 0 (decide (v4<r1.length)) (.ret 5 (j7,decide (v5<r2.length))) (.ret 5 (j7,false))) fun (j9,j10)=>.jn 0 0 (fun (j11,j12)=>⟨[(3,tD r1),(4,tD r2),(5,.own 5),(6,tI v4),(7,tI v5),(8,tB j12)],[(5,aD j11)]⟩) (.ite 0 j10 (.dg 2 (0<=v4/\v4<r1.length) <| .dg 6 (0<=v5/\v5<r2.length) <| .dc 8 [.t (cO (r1.getD v4.toNat default)),.t (cO (r2.getD v5.toNat default))] (Pf (r1.getD v4.toNat default) (r2.getD v5.toNat default)) fun r13=>.dr 0 0 [(5,false,[])] [3,4,5,6,7,48] <| .ret 0 (j9,decide (r13<=0))) (.ret 0 (j9,decide (v5>=(r2.length:Int))))) fun (j11,j12)=>.jn 1 0 (fun (j14,j15,j16)=>⟨[(3,tD r1),(4,tD r2),(5,.own 5),(6,tI j15),(7,tI j16)],[(5,aD j14)]⟩) (.ite 0 j12 (.grd 4 (0<=v4/\v4<r1.length) <| .bs 1 false aK [r1.getD v4.toNat default] <| .grd 1 ((j11.length+[r1.getD v4.toNat default].length)*40<=140737488355328) <| .cv 0 [.ap 66 aK j11 [r1.getD v4.toNat default]] <| .cv 4 [.rn 66 5] <| .ret 0 (j11++[r1.getD v4.toNat default],i64.wrap (v4+1),v5)) (.grd 4 (0<=v5/\v5<r2.length) <| .bs 1 false aK [r2.getD v5.toNat default] <| .grd 1 ((j11.length+[r2.getD v5.toNat default].length)*40<=140737488355328) <| .cv 0 [.ap 75 aK j11 [r2.getD v5.toNat default]] <| .cv 4 [.rn 75 5] <| .ret 0 (j11++[r2.getD v5.toNat default],v4,i64.wrap (v5+1)))) fun (j14,j15,j16)=>.ret 0 (.inl (j14,j15,j16))) (.ret 0 (.inr (.inl j7)))
def aRV(rec:bJC)(a0:LD):TP LD:=.ite 4 (decide ((a0.length:Int)<2)) (.ret 2 a0) (.gd 4 ((2:Int)≠0) (by decide) <| .slc 1 17 aK a0 (0:Int) (i64.wrap (Int.tdiv (a0.length:Int) 2)) <| .ca 0 (rec.2 ((a0.drop (0:Int).toNat).take ((i64.wrap (Int.tdiv (a0.length:Int) 2))-(0:Int)).toNat)) fun r1=>.gd 5 ((2:Int)≠0) (by decide) <| .slc 1 23 aK a0 (i64.wrap (Int.tdiv (a0.length:Int) 2):Int) (a0.length:Int) <| .ca 0 (rec.2 ((a0.drop (i64.wrap (Int.tdiv (a0.length:Int) 2):Int).toNat).take ((a0.length:Int)-(i64.wrap (Int.tdiv (a0.length:Int) 2):Int)).toNat)) fun r2=>.cv 4 [.th 5 5 50 3 (eF aK ([]:LD))] <| .lp 0 (fun (v3,v4,v5)=>⟨[(3,tD r1),(4,tD r2),(5,.own 5),(6,tI v4),(7,tI v5)],[(5,aD v3)]⟩) (fun b6=>⟨[(5,.own 5)],[(5,aD b6)]⟩) 0 (([]:LD),0,0) (Qk r1 r2) fun b6=>.cv 2 [.fr 5 (eL aK b6)] <| .ret 0 b6)
theorem aDQ(rec:bJC)(a0:LD):Con Tryz.prog 250 [tD a0] (aRV rec a0).den tD:=con Tryz.func250 aR (aRV rec a0)
def bKX(a:LD):Option LD:=sG (C:=fun (a:LD) (x:Option LD)=>Con Tryz.prog 250 [tD a] x tD) (fun a=>⟨bL Tryz.func250 (by kernel_rfl),fun _ h=>nomatch h⟩) (fun rec a=>aRV rec a) (fun rec a=>aDQ rec a) a
theorem aTR(a:LD):Con Tryz.prog 250 [tD a] (bKX a) tD:=lX (C:=fun (a:LD) (x:Option LD)=>Con Tryz.prog 250 [tD a] x tD) _ _ _ a
def bLG(a0:LD):Option LD:=bKX a0
theorem aUZ(a0:LD):Con Tryz.prog 250 [tD a0] (bLG a0) tD:=aTR a0
def Qf(r1:LD)(v3:Int):(LD×Int×Int)->TP ((LD×Int×Int)⊕((LD×Int×Int)⊕((LD×Int)⊕((LD)⊕LD))))
 | (v5,v6,v7)=>.jn 0 0 (fun (j11,j12)=>⟨[(3,tD r1),(4,.own 4),(5,tI v3),(6,tI v6),(7,tI v7),(34,tB j12)],[(4,aD j11)]⟩) (.dl 4 (decide (v7<r1.length)) (.dg 7 (0<=v3/\v3<r1.length) <| .dg 15 (0<=(if (i64.wrap ((r1.length:Int)-1))<v7 then (i64.wrap ((r1.length:Int)-1)) else v7)/\(if (i64.wrap ((r1.length:Int)-1))<v7 then (i64.wrap ((r1.length:Int)-1)) else v7)<r1.length) <| .dc 17 [.t (cO (r1.getD v3.toNat default)),.t (cO (r1.getD (if (i64.wrap ((r1.length:Int)-1))<v7 then (i64.wrap ((r1.length:Int)-1)) else v7).toNat default))] (Pf (r1.getD v3.toNat default) (r1.getD (if (i64.wrap ((r1.length:Int)-1))<v7 then (i64.wrap ((r1.length:Int)-1)) else v7).toNat default)) fun r13=>.dr 0 0 [(4,false,[])] [3,4,5,6,7] <| .ret 0 (v5,r13==0)) (.dr 0 0 [(4,false,[])] [3,4,5,6,7] <| .ret 0 (v5,false))) fun (j11,j12)=>.ite 0 j12 (.grd 4 (0<=v7/\v7<r1.length) <| .ret 7 (.inl (j11,i64.wrap (v6+((r1.getD v7.toNat default).N)),i64.wrap (v7+1)))) (.ret 0 (.inr (.inl (j11,v6,v7))))
def Ov(r1:LD):(LD×Int)->TP ((LD×Int)⊕((LD)⊕LD))
 | (v2,v3)=>.ite 4 (decide (v3<r1.length)) (.lp 3 (fun (v5,v6,v7)=>⟨[(3,tD r1),(4,.own 4),(5,tI v3),(6,tI v6),(7,tI v7)],[(4,aD v5)]⟩) (fun (b8,b9,b10)=>⟨[(3,tD r1),(4,.own 4),(5,tI v3),(6,tI b9),(7,tI b10)],[(4,aD b8)]⟩) 2 (v2,0,v3) (Qf r1 v3) fun (b8,b9,b10)=>.jn 2 0 (fun j14=>⟨[(3,tD r1),(4,.own 4),(7,tI b10)],[(4,aD j14)]⟩) (.ite 0 (b9 != 0) (.grd 4 (0<=v3/\v3<r1.length) <| .ca 2 (aFF (r1.getD v3.toNat default) b9) fun r15=>.bs 0 false aK [r15] <| .grd 1 ((b8.length+[r15].length)*40<=140737488355328) <| .cv 0 [.ap 54 aK b8 [r15]] <| .cv 1 [.rn 54 4] <| .ret 0 (b8++[r15])) (.ret 0 b8)) fun j14=>.ret 2 (.inl (j14,b10))) (.ret 0 (.inr (.inl v2)))
def bEM(a0:LD):TP LD:=.ca 2 (aUZ a0) fun r1=>.cv 3 [.th 4 4 50 3 (eF aK ([]:LD))] <| .lp 0 (fun (v2,v3)=>⟨[(3,tD r1),(4,.own 4),(5,tI v3)],[(4,aD v2)]⟩) (fun b4=>⟨[(4,.own 4)],[(4,aD b4)]⟩) 0 (([]:LD),0) (Ov r1) fun b4=>.cv 2 [.fr 4 (eL aK b4)] <| .ret 0 b4
def bHA(a0:LD):=(bEM a0).den
theorem xX(a0:LD):Con Tryz.prog 193 [tD a0] (bHA a0) tD:=con Tryz.func193 aR (bEM a0)
def Nr(a0:LD)(a1:Int):(LD×Int)->TP ((LD×Int)⊕((LD)⊕LD))
 | (v1,v2)=>.ite 4 (decide (v2<a0.length)) (.grd 3 (0<=v2/\v2<a0.length) <| .jn 4 0 (fun j4=>⟨[(0,tD a0),(1,tI a1),(5,.own 5),(6,tI v2)],[(5,aD j4)]⟩) (.ite 0 (decide (((a0.getD v2.toNat default).Time)>a1)) (.grd 4 (0<=v2/\v2<a0.length) <| .bs 1 false aK [a0.getD v2.toNat default] <| .grd 1 ((v1.length+[a0.getD v2.toNat default].length)*40<=140737488355328) <| .cv 0 [.ap 26 aK v1 [a0.getD v2.toNat default]] <| .cv 1 [.rn 26 5] <| .ret 0 (v1++[a0.getD v2.toNat default])) (.ret 0 v1)) fun j4=>.ret 3 (.inl (j4,i64.wrap (v2+1)))) (.ret 0 (.inr (.inl v1)))
def T45(a0:LD)(a1:Int):TP LD:=.cv 3 [.th 5 5 50 3 (eF aK ([]:LD))] <| .lp 0 (fun (v1,v2)=>⟨[(0,tD a0),(1,tI a1),(5,.own 5),(6,tI v2)],[(5,aD v1)]⟩) (fun b3=>⟨[(5,.own 5)],[(5,aD b3)]⟩) 0 (([]:LD),0) (Nr a0 a1) fun b3=>.cv 1 [.fr 5 (eL aK b3)] <| .ca 0 (xX b3) fun r5=>.ret 1 r5
def G45(a0:LD)(a1:Int):=(T45 a0 a1).den
theorem bEY(a0:LD)(a1:Int):Con Tryz.prog 104 [tD a0,tI a1] (G45 a0 a1) tD:=con Tryz.func104 aR (T45 a0 a1)
def Ou(a1:Int)(qw0:bU):TP (LD×Int):=.ite 6 (decide (a1<=qw0.Closed)) (.ret 0 (qw0.L,qw0.Closed)) (.ca 4 (aLA qw0.N) fun r1=>.ca 18 (bEY qw0.L (i64.wrap (a1-r1.1))) fun r2=>.ret 3 (r2,a1))
def Az(a1:Int)(qw0:bU):=(Ou a1 qw0).den
theorem aIK(a1:Int)(qw0:bU):dD Tryz.prog 43 [.ptr 30002 0,tI a1] [(30002,.box ((eG qw0).map .t))] [30002] (Az a1 qw0) (fun y=>.tup []) (fun y=>[(30002,bQ qw0 y.1 y.2)]):=eC Tryz.func43 aR (Ou a1 qw0)
def T47(a0:LD)(a1:LD):TP LD:=.bs 1 true aK ([]:LD) <| .grd 2 ((([]:LD).length+a0.length)*40<=140737488355328) <| .cv 0 [.ap 7 aK ([]:LD) a0] <| .grd 2 (((([]:LD)++a0).length+a1.length)*40<=140737488355328) <| .cv 0 [.ap 9 aK (([]:LD)++a0) a1] <| .cv 0 [.fr 9 (eL aK ((([]:LD)++a0)++a1))] <| .ca 0 (xX ((([]:LD)++a0)++a1)) fun r1=>.ret 1 r1
def G47(a0:LD)(a1:LD):=(T47 a0 a1).den
theorem bEJ(a0:LD)(a1:LD):Con Tryz.prog 106 [tD a0,tD a1] (G47 a0 a1) tD:=con Tryz.func106 aR (T47 a0 a1)
def Rj(a1:LD):(LD×Int)->TP ((LD×Int)⊕((LD)⊕LD))
 | (v1,v2)=>.ite 4 (decide (v2<a1.length)) (.dg 3 (0<=v2/\v2<a1.length) <| .dg 7 (0<=v2/\v2<a1.length) <| .dc 11 [.t (cO (a1.getD v2.toNat default)),tI (i64.wrap (0-((a1.getD v2.toNat default).N)))] (aFF (a1.getD v2.toNat default) (i64.wrap (0-((a1.getD v2.toNat default).N)))) fun r4=>.dg 13 ((v1.length+1)*40<=140737488355328) <| .dr 0 0 [(29,true,[13]),(5,false,[13])] [1,5,6,10,11,12,13] <| .cv 0 [.apl 29 aK v1 [r4]] <| .cv 3 [.rn 29 5] <| .ret 0 (.inl (v1++[r4],i64.wrap (v2+1)))) (.ret 0 (.inr (.inl v1)))
def T48(a0:LD)(a1:LD):TP LD:=.bs 1 true aK ([]:LD) <| .grd 2 ((([]:LD).length+a0.length)*40<=140737488355328) <| .cv 0 [.ap 9 aK ([]:LD) a0] <| .cv 2 [.rn 9 5] <| .lp 0 (fun (v1,v2)=>⟨[(1,tD a1),(5,.own 5),(6,tI v2)],[(5,aD v1)]⟩) (fun b3=>⟨[(5,.own 5)],[(5,aD b3)]⟩) 0 (([]:LD)++a0,0) (Rj a1) fun b3=>.cv 1 [.fr 5 (eL aK b3)] <| .ca 0 (xX b3) fun r5=>.ret 1 r5
def G48(a0:LD)(a1:LD):=(T48 a0 a1).den
theorem bIK(a0:LD)(a1:LD):Con Tryz.prog 107 [tD a0,tD a1] (G48 a0 a1) tD:=con Tryz.func107 aR (T48 a0 a1)
def Dw(a0:List aE)(a1:List Int):((List aE)×Int)->TP (((List aE)×Int)⊕((List aE)⊕(List aE)))
 | (v1,v2)=>.ite 4 (decide (v2<a1.length)) (.grd 5 (0<=v2/\v2<a1.length) <| .grd 2 (0<=(a1.getD v2.toNat default)/\(a1.getD v2.toNat default)<a0.length) <| .bs 1 false bA [a0.getD (a1.getD v2.toNat default).toNat default] <| .grd 1 ((v1.length+[a0.getD (a1.getD v2.toNat default).toNat default].length)*32<=140737488355328) <| .cv 0 [.ap 22 bA v1 [a0.getD (a1.getD v2.toNat default).toNat default]] <| .cv 4 [.rn 22 5] <| .ret 0 (.inl (v1++[a0.getD (a1.getD v2.toNat default).toNat default],i64.wrap (v2+1)))) (.ret 0 (.inr (.inl v1)))
def bCV(a0:List aE)(a1:List Int):TP (List aE):=.cv 3 [.th 5 5 67 3 (eF bA ([]:List aE))] <| .lp 0 (fun (v1,v2)=>⟨[(0,tV a0),(1,.t (eL bK a1)),(5,.own 5),(6,tI v2)],[(5,.arr 67 3 (v1.length) (eF bA v1))]⟩) (fun b3=>⟨[(5,.own 5)],[(5,.arr 67 3 (b3.length) (eF bA b3))]⟩) 0 (([]:List aE),0) (Dw a0 a1) fun b3=>.cv 2 [.fr 5 (eL bA b3)] <| .ret 0 b3
def bCN(a0:List aE)(a1:List Int):=(bCV a0 a1).den
theorem bBA(a0:List aE)(a1:List Int):Con Tryz.prog 189 [tV a0,.t (eL bK a1)] (bCN a0 a1) (fun y=>tV y):=con Tryz.func189 aR (bCV a0 a1)
def Ju(a0:List jZ):((List Bool)×Int)->TP (((List Bool)×Int)⊕((List Bool)⊕(List Bool)))
 | (v1,v2)=>.ite 4 (decide (v2<a0.length)) (.grd 3 (0<=v2/\v2<v1.length) <| .grd 1 ((v2).toNat<v1.length) <| .jn 1 0 (fun (j4,j5)=>⟨[(0,.t (eL fN a0)),(1,.own 1),(5,tI v2),(23,tB j5)],[(1,.arr 4 1 (j4.length) (eF dX j4))]⟩) (.ite 0 (v1.getD v2.toNat default) (.grd 3 (0<=v2/\v2<a0.length) <| .ret 4 (v1,((a0.getD v2.toNat default).Rep)==2)) (.ret 7 (v1,false))) fun (j4,j5)=>.jn 0 0 (fun j6=>⟨[(0,.t (eL fN a0)),(1,.own 1),(5,tI v2)],[(1,.arr 4 1 (j6.length) (eF dX j6))]⟩) (.ite 0 j5 (.grd 4 (0<=(i64.wrap (v2+1))/\(i64.wrap (v2+1))<j4.length) <| .grd 1 ((i64.wrap (v2+1)).toNat<j4.length) <| .sto 0 1 dX j4 [((i64.wrap (v2+1)).toNat,true)] <| .ret 0 (j4.set (i64.wrap (v2+1)).toNat true)) (.ret 0 j4)) fun j6=>.ret 3 (.inl (j6,i64.wrap (v2+1)))) (.ret 0 (.inr (.inl v1)))
def aAD(a0:List jZ)(qul:List Bool):TP (List Bool):=.cv 2 [.rn 30000 1] <| .lp 0 (fun (v1,v2)=>⟨[(0,.t (eL fN a0)),(1,.own 1),(5,tI v2)],[(1,.arr 4 1 (v1.length) (eF dX v1))]⟩) (fun b3=>⟨[(1,.own 1)],[(1,.arr 4 1 (b3.length) (eF dX b3))]⟩) 0 (qul,0) (Ju a0) fun b3=>.cv 2 [.rn 1 40000] <| .ret 0 b3
def Yh(a0:List jZ)(qul:List Bool):=(aAD a0 qul).den
theorem Jy(a0:List jZ)(qul:List Bool):dD Tryz.prog 248 [.t (eL fN a0),.own 30000] [(30000,.arr 4 1 (qul.length) (eF dX qul))] [] (Yh a0 qul) (fun y=>.own 40000) (fun y=>[(40000,.arr 4 1 (y.length) (eF dX y))]):=eC Tryz.func248 aR (aAD a0 qul)
def aEU(a0:List jZ)(a1:List Bool)(a2:List Bool):((List Bool)×Int)->TP (((List Bool)×Int)⊕((List Bool)⊕(List Bool)))
 | (v1,v2)=>.ite 4 (decide (v2<a0.length)) (.grd 3 (0<=v2/\v2<a1.length) <| .jn 2 0 (fun (j4,j5)=>⟨[(0,.t (eL fN a0)),(1,.t (eL dX a1)),(2,.t (eL dX a2)),(7,.own 7),(8,tI v2),(28,tB j5)],[(7,.arr 4 1 (j4.length) (eF dX j4))]⟩) (.ite 0 (a1.getD v2.toNat default) (.grd 3 (0<=v2/\v2<a2.length) <| .ret 2 (v1,a2.getD v2.toNat default)) (.ret 5 (v1,false))) fun (j4,j5)=>.jn 0 0 (fun j6=>⟨[(0,.t (eL fN a0)),(1,.t (eL dX a1)),(2,.t (eL dX a2)),(7,.own 7),(8,tI v2)],[(7,.arr 4 1 (j6.length) (eF dX j6))]⟩) (.ite 0 j5 (.grd 4 (0<=(i64.wrap (v2+1))/\(i64.wrap (v2+1))<j4.length) <| .grd 1 ((i64.wrap (v2+1)).toNat<j4.length) <| .sto 0 7 dX j4 [((i64.wrap (v2+1)).toNat,true)] <| .grd 3 (0<=v2/\v2<a0.length) <| .jn 3 0 (fun j7=>⟨[(0,.t (eL fN a0)),(1,.t (eL dX a1)),(2,.t (eL dX a2)),(7,.own 7),(8,tI v2)],[(7,.arr 4 1 (j7.length) (eF dX j7))]⟩) (.ite 0 (((a0.getD v2.toNat default).Rep)==1) (.grd 3 (0<=v2/\v2<(((j4.set (i64.wrap (v2+1)).toNat true).length):Int)) <| .grd 1 ((v2).toNat<(j4.set (i64.wrap (v2+1)).toNat true).length) <| .sto 0 7 dX (j4.set (i64.wrap (v2+1)).toNat true) [((v2).toNat,true)] <| .ret 0 ((j4.set (i64.wrap (v2+1)).toNat true).set v2.toNat true)) (.ret 0 (j4.set (i64.wrap (v2+1)).toNat true))) fun j7=>.ret 0 j7) (.ret 0 j4)) fun j6=>.ret 3 (.inl (j6,i64.wrap (v2+1)))) (.ret 0 (.inr (.inl v1)))
def bFF(a0:List jZ)(a1:List Bool)(a2:List Bool):TP (List Bool):=.mks 4 dX 1 (i64.wrap ((a0.length:Int)+1)) (i64.wrap ((a0.length:Int)+1)) <| .cv 2 [.rn 12 7] <| .lp 0 (fun (v1,v2)=>⟨[(0,.t (eL fN a0)),(1,.t (eL dX a1)),(2,.t (eL dX a2)),(7,.own 7),(8,tI v2)],[(7,.arr 4 1 (v1.length) (eF dX v1))]⟩) (fun b3=>⟨[(0,.t (eL fN a0)),(7,.own 7)],[(7,.arr 4 1 (b3.length) (eF dX b3))]⟩) 0 (List.replicate (i64.wrap ((a0.length:Int)+1)).toNat (default:Bool),0) (aEU a0 a1 a2) fun b3=>.cv 2 [.rn 7 30000] <| .ch 0 [40000] (Jy a0 b3) fun r8=>.cv 0 [.rn 40000 44] <| .cv 1 [.fr 44 (eL dX r8)] <| .ret 0 r8
def bEG(a0:List jZ)(a1:List Bool)(a2:List Bool):=(bFF a0 a1 a2).den
theorem aVG(a0:List jZ)(a1:List Bool)(a2:List Bool):Con Tryz.prog 249 [.t (eL fN a0),.t (eL dX a1),.t (eL dX a2)] (bEG a0 a1 a2) (fun y=>.t (eL dX y)):=con Tryz.func249 aR (bFF a0 a1 a2)
def bIO(a0:Bool):TP aE:=.ite 2 a0 (.ret 2 (aE.mk 2 1 (⟨#[]⟩))) (.ret 2 (aE.mk 2 0 (⟨#[]⟩)))
def bIL(a0:Bool):=(bIO a0).den
theorem lZ(a0:Bool):Con Tryz.prog 285 [tB a0] (bIL a0) (fun y=>.t (cH y)):=con Tryz.func285 aR (bIO a0)
def bCD(a0:aE)(a1:aE):TP Bool:=.ite 6 (a0.Kind==1) (.ret 6 (Op.bytesLess (a0.S:ByteArray).toList (a1.S:ByteArray).toList)) (.ret 6 (decide (a0.N<a1.N)))
def bEO(a0:aE)(a1:aE):=(bCD a0 a1).den
theorem aCB(a0:aE)(a1:aE):Con Tryz.prog 286 [.t (cH a0),.t (cH a1)] (bEO a0 a1) tB:=con Tryz.func286 aR (bCD a0 a1)
def bFS(a0:bB)(a1:List aE):TP aE:=.ite 6 (a0.Op==0) (.ret 4 (aE.mk 0 a0.N (⟨#[]⟩))) (.ite 2 (a0.Op==1) (.ret 4 (aE.mk 1 0 a0.S)) (.ite 2 (a0.Op==2) (.ca 3 (lZ (a0.N==1)) fun r1=>.ret 1 r1) (.ite 2 (a0.Op==6) (.grd 2 (0<=(0:Int)/\(0:Int)<a1.length) <| .ca 3 (lZ (((a1.getD (0:Int).toNat default).N)==0)) fun r2=>.ret 1 r2) (.ite 2 (a0.Op==7) (.grd 2 (0<=(0:Int)/\(0:Int)<a1.length) <| .ret 5 (aE.mk 0 (i64.wrap (0-((a1.getD (0:Int).toNat default).N))) (⟨#[]⟩))) (.ite 2 (a0.Op==20) (.grd 2 (0<=(0:Int)/\(0:Int)<a1.length) <| .ret 5 (aE.mk 0 (((a1.getD (0:Int).toNat default).S:ByteArray).size:Int) (⟨#[]⟩))) (.grd 2 (0<=(0:Int)/\(0:Int)<a1.length) <| .grd 5 (0<=(1:Int)/\(1:Int)<a1.length) <| .ite 7 (a0.Op==8) (.ret 7 (aE.mk 0 (i64.wrap (((a1.getD (0:Int).toNat default).N)+((a1.getD (1:Int).toNat default).N))) (⟨#[]⟩))) (.ite 2 (a0.Op==9) (.ret 7 (aE.mk 0 (i64.wrap (((a1.getD (0:Int).toNat default).N)-((a1.getD (1:Int).toNat default).N))) (⟨#[]⟩))) (.ite 2 (a0.Op==10) (.ret 7 (aE.mk 0 (i64.wrap (((a1.getD (0:Int).toNat default).N)*((a1.getD (1:Int).toNat default).N))) (⟨#[]⟩))) (.ite 2 (a0.Op==11) (.ite 3 (((a1.getD (1:Int).toNat default).N)==0) (.ret 2 (aE.mk 0 0 (⟨#[]⟩))) (.grd 5 (((a1.getD (1:Int).toNat default).N)≠0) <| .ret 2 (aE.mk 0 (i64.wrap (Int.tdiv ((a1.getD (0:Int).toNat default).N) ((a1.getD (1:Int).toNat default).N))) (⟨#[]⟩)))) (.ite 2 (a0.Op==12) (.ite 3 (((a1.getD (1:Int).toNat default).N)==0) (.ret 2 (aE.mk 0 0 (⟨#[]⟩))) (.grd 5 (((a1.getD (1:Int).toNat default).N)≠0) <| .ret 2 (aE.mk 0 (Int.tmod ((a1.getD (0:Int).toNat default).N) ((a1.getD (1:Int).toNat default).N)) (⟨#[]⟩)))) (.ite 2 (a0.Op==13) (.ca 3 (lZ ((((a1.getD (0:Int).toNat default).Kind)==((a1.getD (1:Int).toNat default).Kind))&&((((a1.getD (0:Int).toNat default).N)==((a1.getD (1:Int).toNat default).N))&&((((a1.getD (0:Int).toNat default).S).toList==((a1.getD (1:Int).toNat default).S).toList)&&true)))) fun r3=>.ret 1 r3) (.ite 2 (a0.Op==14) (.ca 3 (lZ (!((((a1.getD (0:Int).toNat default).Kind)==((a1.getD (1:Int).toNat default).Kind))&&((((a1.getD (0:Int).toNat default).N)==((a1.getD (1:Int).toNat default).N))&&((((a1.getD (0:Int).toNat default).S).toList==((a1.getD (1:Int).toNat default).S).toList)&&true))))) fun r4=>.ret 1 r4) (.ite 2 (a0.Op==15) (.ca 2 (aCB (a1.getD (0:Int).toNat default) (a1.getD (1:Int).toNat default)) fun r5=>.ca 0 (lZ r5) fun r6=>.ret 1 r6) (.ite 2 (a0.Op==16) (.ca 2 (aCB (a1.getD (1:Int).toNat default) (a1.getD (0:Int).toNat default)) fun r7=>.ca 1 (lZ (!r7)) fun r8=>.ret 1 r8) (.ite 2 (a0.Op==17) (.jn 4 0 (fun (j9,j10,j11)=>⟨[(4,.ptr 4 0)],[(4,.box [tI j9,tI j10,.t (.str j11)])]⟩) (.ite 0 (((a1.getD (0:Int).toNat default).N)==1) (.ca 4 (lZ (((a1.getD (1:Int).toNat default).N)==1)) fun r12=>.ret 1 (r12.Kind,r12.N,r12.S)) (.ca 4 (lZ false) fun r13=>.ret 1 (r13.Kind,r13.N,r13.S))) fun (j9,j10,j11)=>.ret 0 (aE.mk j9 j10 j11)) (.ite 2 (a0.Op==18) (.jn 4 0 (fun (j14,j15,j16)=>⟨[(4,.ptr 4 0)],[(4,.box [tI j14,tI j15,.t (.str j16)])]⟩) (.ite 0 (((a1.getD (0:Int).toNat default).N)==1) (.ca 4 (lZ true) fun r17=>.ret 1 (r17.Kind,r17.N,r17.S)) (.ca 4 (lZ (((a1.getD (1:Int).toNat default).N)==1)) fun r18=>.ret 1 (r18.Kind,r18.N,r18.S))) fun (j14,j15,j16)=>.ret 0 (aE.mk j14 j15 j16)) (.grd 5 (((((a1.getD (0:Int).toNat default).S).size+((a1.getD (1:Int).toNat default).S).size:Nat):Int)<=9223372036854775807) <| .grd 6 (0<=(0:Int)/\(0:Int)<=(if (200:Int)<((((a1.getD (0:Int).toNat default).S)++((a1.getD (1:Int).toNat default).S):ByteArray).size:Int) then (200:Int) else ((((a1.getD (0:Int).toNat default).S)++((a1.getD (1:Int).toNat default).S):ByteArray).size:Int))/\(if (200:Int)<((((a1.getD (0:Int).toNat default).S)++((a1.getD (1:Int).toNat default).S):ByteArray).size:Int) then (200:Int) else ((((a1.getD (0:Int).toNat default).S)++((a1.getD (1:Int).toNat default).S):ByteArray).size:Int))<=((((a1.getD (0:Int).toNat default).S)++((a1.getD (1:Int).toNat default).S)).size:Int)) <| .ret 2 (aE.mk 1 0 ((((a1.getD (0:Int).toNat default).S)++((a1.getD (1:Int).toNat default).S)).extract (0:Int).toNat (if (200:Int)<((((a1.getD (0:Int).toNat default).S)++((a1.getD (1:Int).toNat default).S):ByteArray).size:Int) then (200:Int) else ((((a1.getD (0:Int).toNat default).S)++((a1.getD (1:Int).toNat default).S):ByteArray).size:Int)).toNat)))))))))))))))))))
def bFR(a0:bB)(a1:List aE):=(bFS a0 a1).den
theorem aZF(a0:bB)(a1:List aE):Con Tryz.prog 245 [.t (cQ a0),tV a1] (bFR a0 a1) (fun y=>.t (cH y)):=con Tryz.func245 aR (bFS a0 a1)
abbrev bDK:={f:((List aI)×bB×Int×(List aE)×(List aE))->Option fQ // ∀ a:(List aI)×bB×Int×(List aE)×(List aE),Con Tryz.prog 185 [.t (eL aV (a.1)),.t (cQ a.2.1),tI a.2.2.1,tV a.2.2.2.1,tV a.2.2.2.2] (f a) (fun (y:fQ)=>.t (rQ y))}
def aEC(rec:bDK)(a0:List aI)(a1:bB)(a2:Int)(a3:List aE)(a4:List aE):(Int×(List aE)×Int)->TP ((Int×(List aE)×Int)⊕((Int×(List aE))⊕fQ))
 | (v4,v5,v6)=>.ite 5 (decide (v6<a1.Args.length)) (.grd 5 (0<=v6/\v6<a1.Args.length) <| .ca 4 (rec.2 (a0,a1.Args.getD v6.toNat default,a2,a3,a4)) fun r9=>.bs 5 false bA [r9.V] <| .grd 1 ((v5.length+[r9.V].length)*32<=140737488355328) <| .cv 0 [.ap 75 bA v5 [r9.V]] <| .cv 9 [.rn 75 15] <| .ret 0 (.inl (i64.wrap (v4+r9.N),v5++[r9.V],i64.wrap (v6+1)))) (.ret 0 (.inr (.inl (v4,v5))))
def aOH(rec:bDK)(a0:List aI)(a1:bB)(a2:Int)(a3:List aE)(a4:List aE):TP fQ:=.ite 5 (a1.Op==21) (.grd 4 (0<=(0:Int)/\(0:Int)<a1.Args.length) <| .ca 4 (rec.2 (a0,a1.Args.getD (0:Int).toNat default,a2,a3,a4)) fun r1=>.jn 7 0 (fun j2=>⟨[(0,.t (eL aV a0)),(2,tI a2),(3,tV a3),(4,tV a4),(6,.ptr 6 0),(10,.ptr 10 0),(11,.ptr 11 0),(12,tI j2)],[(6,.box ((dA a1).map .t)),(10,.box [tI 0,tI 0,.t (.str (⟨#[]⟩)),tI 0]),(11,.box ((aEQ r1).map .t))]⟩) (.ite 0 (r1.V.N==1) (.ret 1 1) (.ret 0 2)) fun j2=>.grd 5 (0<=j2/\j2<a1.Args.length) <| .ca 4 (rec.2 (a0,a1.Args.getD j2.toNat default,a2,a3,a4)) fun r3=>.ret 12 (fQ.mk r3.V (i64.wrap ((i64.wrap (1+r1.N))+r3.N)))) (.cv 3 [.th 15 15 67 3 (eF bA ([]:List aE))] <| .lp 0 (fun (v4,v5,v6)=>⟨[(0,.t (eL aV a0)),(2,tI a2),(3,tV a3),(4,tV a4),(6,.ptr 6 0),(10,.ptr 10 0),(14,tI v4),(15,.own 15),(16,tI v6)],[(6,.box ((dA a1).map .t)),(10,.box [tI 0,tI 0,.t (.str (⟨#[]⟩)),tI 0]),(15,.arr 67 3 (v5.length) (eF bA v5))]⟩) (fun (b7,b8)=>⟨[(0,.t (eL aV a0)),(2,tI a2),(3,tV a3),(4,tV a4),(6,.ptr 6 0),(10,.ptr 10 0),(14,tI b7),(15,.own 15)],[(6,.box ((dA a1).map .t)),(10,.box [tI 0,tI 0,.t (.str (⟨#[]⟩)),tI 0]),(15,.arr 67 3 (b8.length) (eF bA b8))]⟩) 0 (1,([]:List aE),0) (aEC rec a0 a1 a2 a3 a4) fun (b7,b8)=>.ite 4 (a1.Op==3) (.grd 4 (0<=a1.N/\a1.N<a3.length) <| .ret 4 (fQ.mk (a3.getD (a1.N).toNat default) b7)) (.ite 2 (a1.Op==4) (.grd 4 (0<=a1.N/\a1.N<a4.length) <| .ret 4 (fQ.mk (a4.getD (a1.N).toNat default) b7)) (.ite 2 (a1.Op==5) (.ret 5 (fQ.mk (aE.mk 0 a2 (⟨#[]⟩)) b7)) (.ite 2 (a1.Op==22) (.grd 5 (0<=a1.N/\a1.N<a0.length) <| .cv 4 [.fr 15 (eL bA b8)] <| .ca 0 (rec.2 (a0,(a0.getD (a1.N).toNat default).Body,a2,([]:List aE),b8)) fun r10=>.ret 10 (fQ.mk r10.V (i64.wrap (b7+r10.N)))) (.cv 2 [.fr 15 (eL bA b8)] <| .ca 0 (aZF a1 b8) fun r11=>.ret 3 (fQ.mk r11 b7))))))
theorem aFG(rec:bDK)(a0:List aI)(a1:bB)(a2:Int)(a3:List aE)(a4:List aE):Con Tryz.prog 185 [.t (eL aV a0),.t (cQ a1),tI a2,tV a3,tV a4] (aOH rec a0 a1 a2 a3 a4).den (fun (y:fQ)=>.t (rQ y)):=con Tryz.func185 aR (aOH rec a0 a1 a2 a3 a4)
def bKL(a:(List aI)×bB×Int×(List aE)×(List aE)):Option fQ:=sG (C:=fun (a:(List aI)×bB×Int×(List aE)×(List aE)) (x:Option fQ)=>Con Tryz.prog 185 [.t (eL aV (a.1)),.t (cQ a.2.1),tI a.2.2.1,tV a.2.2.2.1,tV a.2.2.2.2] x (fun (y:fQ)=>.t (rQ y))) (fun a=>⟨bL Tryz.func185 (by kernel_rfl),fun _ h=>nomatch h⟩) (fun rec a=>aOH rec a.1 a.2.1 a.2.2.1 a.2.2.2.1 a.2.2.2.2) (fun rec a=>aFG rec a.1 a.2.1 a.2.2.1 a.2.2.2.1 a.2.2.2.2) a
theorem aWV(a:(List aI)×bB×Int×(List aE)×(List aE)):Con Tryz.prog 185 [.t (eL aV (a.1)),.t (cQ a.2.1),tI a.2.2.1,tV a.2.2.2.1,tV a.2.2.2.2] (bKL a) (fun (y:fQ)=>.t (rQ y)):=lX (C:=fun (a:(List aI)×bB×Int×(List aE)×(List aE)) (x:Option fQ)=>Con Tryz.prog 185 [.t (eL aV (a.1)),.t (cQ a.2.1),tI a.2.2.1,tV a.2.2.2.1,tV a.2.2.2.2] x (fun (y:fQ)=>.t (rQ y))) _ _ _ a
def bGT(a0:List aI)(a1:bB)(a2:Int)(a3:List aE)(a4:List aE):Option fQ:=bKL (a0,a1,a2,a3,a4)
theorem bAL(a0:List aI)(a1:bB)(a2:Int)(a3:List aE)(a4:List aE):Con Tryz.prog 185 [.t (eL aV a0),.t (cQ a1),tI a2,tV a3,tV a4] (bGT a0 a1 a2 a3 a4) (fun y=>.t (rQ y)):=aWV (a0,a1,a2,a3,a4)
def bHN(a0:List aI)(a1:bB)(a2:Int)(a3:List aE):TP aE:=.ca 6 (bAL a0 a1 a2 a3 ([]:List aE)) fun r1=>.ret 2 r1.V
def aZK(a0:List aI)(a1:bB)(a2:Int)(a3:List aE):=(bHN a0 a1 a2 a3).den
theorem aTQ(a0:List aI)(a1:bB)(a2:Int)(a3:List aE):Con Tryz.prog 93 [.t (eL aV a0),.t (cQ a1),tI a2,tV a3] (aZK a0 a1 a2 a3) (fun y=>.t (cH y)):=con Tryz.func93 aR (bHN a0 a1 a2 a3)
def Pj(a0:List aI)(a1:aG)(a2:cS)(v3:Int):(LD×(List (List Bool))×(List Bool)×Int)->TP ((LD×(List (List Bool))×(List Bool)×Int)⊕((LD×(List (List Bool))×(List Bool))⊕((LD×(List (List Bool))×Int)⊕((LD×(List (List Bool)))⊕LD))))
 | (v6,v7,v8,v9)=>.ite 5 (decide (v9<a1.Seq.length)) (.dg 6 (0<=v9/\v9<a1.Seq.length) <| .dg 12 (0<=v3/\v3<a2.l_.length) <| .dg 18 (0<=v3/\v3<a2.l_.length) <| .dc 21 [.t (eL aV a0),.t (cQ ((a1.Seq.getD v9.toNat default).Pred)),tI ((a2.l_.getD v3.toNat default).Time),tV ((a2.l_.getD v3.toNat default).Row)] (aTQ a0 ((a1.Seq.getD v9.toNat default).Pred) ((a2.l_.getD v3.toNat default).Time) ((a2.l_.getD v3.toNat default).Row)) fun r13=>.dg 24 (0<=v9/\v9<v8.length) <| .dg 25 ((v9).toNat<v8.length) <| .dr 0 0 [(4,false,[]),(5,false,[]),(8,false,[]),(9,false,[]),(11,false,[25])] [0,4,5,7,8,9,10,11,12,31,32,33,34,35] <| .sto 0 11 dX v8 [((v9).toNat,r13.N==1)] <| .ret 3 (.inl (v6,v7,v8.set v9.toNat (r13.N==1),i64.wrap (v9+1)))) (.ret 0 (.inr (.inl (v6,v7,v8))))
def yO(a2:cS)(v3:Int):(LD×(List (List Bool))×(List Bool)×Int)->TP ((LD×(List (List Bool))×(List Bool)×Int)⊕((LD×(List (List Bool)))⊕((LD×(List (List Bool))×Int)⊕((LD×(List (List Bool)))⊕LD))))
 | (v14,v15,v16,v17)=>.grd 5 (0<=v3/\v3<a2.l_.length) <| .ite 3 (decide (v17<((a2.l_.getD v3.toNat default).N))) (.grd 5 (0<=v3/\v3<a2.l_.length) <| .bs 1 false aK [a2.l_.getD v3.toNat default] <| .grd 1 ((v14.length+[a2.l_.getD v3.toNat default].length)*40<=140737488355328) <| .cv 0 [.ap 80 aK v14 [a2.l_.getD v3.toNat default]] <| .bs 3 false gI [v16] <| .grd 1 ((v15.length+[v16].length)*24<=140737488355328) <| .cv 0 [.ap 84 gI v15 [v16]] <| .cv 4 [.rn 80 8,.rn 84 9] <| .ret 0 (.inl (v14++[a2.l_.getD v3.toNat default],v15++[v16],v16,i64.wrap (v17+1)))) (.ret 0 (.inr (.inl (v14,v15))))
def Ro(a0:List aI)(a1:aG)(a2:cS):(LD×(List (List Bool))×Int)->TP ((LD×(List (List Bool))×Int)⊕((LD×(List (List Bool)))⊕LD))
 | (v1,v2,v3)=>.ite 5 (decide (v3<a2.l_.length)) (.mks 3 dX 1 (a1.Seq.length:Int) (a1.Seq.length:Int) <| .cv 2 [.rn 30 11] <| .lp 0 (fun (v6,v7,v8,v9)=>⟨[(0,.t (eL aV a0)),(4,.ptr 4 0),(5,.ptr 5 0),(7,.nil),(8,.own 8),(9,.own 9),(10,tI v3),(11,.own 11),(12,tI v9)],[(4,bN a1),(5,.box ((gF a2).map .t)),(8,aD v6),(9,.arr 201 1 (v7.length) (eF gI v7)),(11,.arr 4 1 (v8.length) (eF dX v8))]⟩) (fun (b10,b11,b12)=>⟨[(0,.t (eL aV a0)),(4,.ptr 4 0),(5,.ptr 5 0),(7,.nil),(8,.own 8),(9,.own 9),(10,tI v3),(11,.own 11)],[(4,bN a1),(5,.box ((gF a2).map .t)),(8,aD b10),(9,.arr 201 1 (b11.length) (eF gI b11)),(11,.arr 4 1 (b12.length) (eF dX b12))]⟩) 2 (v1,v2,List.replicate (a1.Seq.length:Int).toNat (default:Bool),0) (Pj a0 a1 a2 v3) fun (b10,b11,b12)=>.cv 1 [.fr 11 (eL dX b12)] <| .lp 0 (fun (v14,v15,v16,v17)=>⟨[(0,.t (eL aV a0)),(4,.ptr 4 0),(5,.ptr 5 0),(7,.nil),(8,.own 8),(9,.own 9),(10,tI v3),(11,.t (eL dX v16)),(13,tI v17)],[(4,bN a1),(5,.box ((gF a2).map .t)),(8,aD v14),(9,.arr 201 1 (v15.length) (eF gI v15))]⟩) (fun (b18,b19)=>⟨[(0,.t (eL aV a0)),(4,.ptr 4 0),(5,.ptr 5 0),(7,.nil),(8,.own 8),(9,.own 9),(10,tI v3)],[(4,bN a1),(5,.box ((gF a2).map .t)),(8,aD b18),(9,.arr 201 1 (b19.length) (eF gI b19))]⟩) 4 (b10,b11,b12,0) (yO a2 v3) fun (b18,b19)=>.ret 3 (.inl (b18,b19,i64.wrap (v3+1)))) (.ret 0 (.inr (.inl (v1,v2))))
def Rt(a1:aG)(a2:cS)(v23:Int):(LD×(List (List Bool))×(List Int)×(List Bool)×Int)->TP ((LD×(List (List Bool))×(List Int)×(List Bool)×Int)⊕((LD×(List (List Bool))×(List Int))⊕((LD×(List (List Bool))×(List Int)×Int)⊕((LD×(List Int))⊕LD))))
 | (v27,v28,v29,v30,v31)=>.jn 0 0 (fun (j35,j36,j37,j38)=>⟨[(4,.ptr 4 0),(5,.ptr 5 0),(7,.nil),(8,.own 8),(9,.own 9),(14,.own 14),(15,tI v23),(16,.t (eL dX v30)),(17,tI v31),(126,tB j38)],[(4,bN a1),(5,.box ((gF a2).map .t)),(8,aD j35),(9,.arr 201 1 (j36.length) (eF gI j36)),(14,.arr 3 1 (j37.length) (eF bK j37))]⟩) (.dl 4 (decide (v31<v27.length)) (.dg 7 (0<=v31/\v31<v27.length) <| .dg 9 ((v31).toNat<v27.length) <| .dg 12 (0<=v23/\v23<v27.length) <| .dg 14 ((v23).toNat<v27.length) <| .dr 0 0 [(4,false,[]),(5,false,[]),(8,false,[]),(9,false,[]),(14,false,[])] [4,5,7,8,9,14,15,16,17] <| .ret 0 (v27,v28,v29,decide ((i64.wrap (((v27.getD v31.toNat default).Time)-((v27.getD v23.toNat default).Time)))<a1.Size))) (.dr 0 0 [(4,false,[]),(5,false,[]),(8,false,[]),(9,false,[]),(14,false,[])] [4,5,7,8,9,14,15,16,17] <| .ret 0 (v27,v28,v29,false))) fun (j35,j36,j37,j38)=>.ite 0 j38 (.dg 5 (0<=v31/\v31<j36.length) <| .dg 6 ((v31).toNat<j36.length) <| .dc 7 [.t (eL fN (a1.Seq)),.t (eL dX v30),.t (eL dX (j36.getD v31.toNat default))] (aVG a1.Seq v30 (j36.getD v31.toNat default)) fun r39=>.dr 0 0 [(4,false,[]),(5,false,[]),(8,false,[]),(9,false,[]),(14,false,[])] [4,5,7,8,9,14,15,16,17,126] <| .grd 5 (0<=(a1.Seq.length:Int)/\(a1.Seq.length:Int)<r39.length) <| .jn 1 0 (fun (j40,j41,j42)=>⟨[(4,.ptr 4 0),(5,.ptr 5 0),(7,.nil),(8,.own 8),(9,.own 9),(14,.own 14),(15,tI v23),(16,.t (eL dX r39)),(17,tI v31)],[(4,bN a1),(5,.box ((gF a2).map .t)),(8,aD j40),(9,.arr 201 1 (j41.length) (eF gI j41)),(14,.arr 3 1 (j42.length) (eF bK j42))]⟩) (.ite 0 (r39.getD (a1.Seq.length:Int).toNat default) (.grd 7 (0<=v31/\v31<j37.length) <| .grd 1 ((v31).toNat<j37.length) <| .sto 0 14 bK j37 [((v31).toNat,i64.wrap ((i64.wrap (v31-v23))+1))] <| .ret 0 (j35,j36,j37.set v31.toNat (i64.wrap ((i64.wrap (v31-v23))+1)))) (.ret 0 (j35,j36,j37))) fun (j40,j41,j42)=>.ret 3 (.inl (j40,j41,j42,r39,i64.wrap (v31+1)))) (.ret 0 (.inr (.inl (j35,j36,j37))))
def Nz(a1:aG)(a2:cS):(LD×(List (List Bool))×(List Int)×Int)->TP ((LD×(List (List Bool))×(List Int)×Int)⊕((LD×(List Int))⊕LD))
 | (v20,v21,v22,v23)=>.ite 2 (decide (v23>=0)) (.mks 4 dX 1 (i64.wrap ((a1.Seq.length:Int)+1)) (i64.wrap ((a1.Seq.length:Int)+1)) <| .grd 3 (0<=(0:Int)/\(0:Int)<(((List.replicate (i64.wrap ((a1.Seq.length:Int)+1)).toNat (default:Bool)).length):Int)) <| .grd 1 ((0:Int).toNat<(List.replicate (i64.wrap ((a1.Seq.length:Int)+1)).toNat (default:Bool)).length) <| .sto 0 99 dX (List.replicate (i64.wrap ((a1.Seq.length:Int)+1)).toNat (default:Bool)) [((0:Int).toNat,true)] <| .cv 3 [.rn 99 30000] <| .ch 0 [40000] (Jy a1.Seq ((List.replicate (i64.wrap ((a1.Seq.length:Int)+1)).toNat (default:Bool)).set (0:Int).toNat true)) fun r26=>.cv 0 [.rn 40000 105] <| .cv 3 [.fr 105 (eL dX r26)] <| .lp 0 (fun (v27,v28,v29,v30,v31)=>⟨[(4,.ptr 4 0),(5,.ptr 5 0),(7,.nil),(8,.own 8),(9,.own 9),(14,.own 14),(15,tI v23),(16,.t (eL dX v30)),(17,tI v31)],[(4,bN a1),(5,.box ((gF a2).map .t)),(8,aD v27),(9,.arr 201 1 (v28.length) (eF gI v28)),(14,.arr 3 1 (v29.length) (eF bK v29))]⟩) (fun (b32,b33,b34)=>⟨[(4,.ptr 4 0),(5,.ptr 5 0),(7,.nil),(8,.own 8),(9,.own 9),(14,.own 14),(15,tI v23)],[(4,bN a1),(5,.box ((gF a2).map .t)),(8,aD b32),(9,.arr 201 1 (b33.length) (eF gI b33)),(14,.arr 3 1 (b34.length) (eF bK b34))]⟩) 8 (v20,v21,v22,r26,v23) (Rt a1 a2 v23) fun (b32,b33,b34)=>.ret 3 (.inl (b32,b33,b34,i64.wrap (v23-1)))) (.ret 0 (.inr (.inl (v20,v22))))
def Dj(a2:cS):(LD×LD×(List Int)×Int)->TP ((LD×LD×(List Int)×Int)⊕((LD)⊕LD))
 | (v43,v44,v45,v46)=>.ite 4 (decide (v46<v44.length)) (.grd 3 (0<=v46/\v46<v45.length) <| .grd 1 ((v46).toNat<v45.length) <| .jn 1 0 (fun (j48,j49,j50)=>⟨[(5,.ptr 5 0),(7,.own 7),(8,.own 8),(14,.own 14),(18,tI v46)],[(5,.box ((gF a2).map .t)),(7,aD j48),(8,aD j49),(14,.arr 3 1 (j50.length) (eF bK j50))]⟩) (.ite 0 (decide ((v45.getD v46.toNat default)>0)) (.dg 3 ((0+a2.key_.length)*32<=140737488355328) <| .dg 9 (0<=v46/\v46<v45.length) <| .dg 10 ((v46).toNat<v45.length) <| .dg 12 (0<=(i64.wrap ((i64.wrap (v46+1))-(v45.getD v46.toNat default)))/\(i64.wrap ((i64.wrap (v46+1))-(v45.getD v46.toNat default)))<v44.length) <| .dg 14 ((i64.wrap ((i64.wrap (v46+1))-(v45.getD v46.toNat default))).toNat<v44.length) <| .dg 18 (0<=v46/\v46<v45.length) <| .dg 19 ((v46).toNat<v45.length) <| .dg 22 ((a2.key_.length+2)*32<=140737488355328) <| .dr 0 0 [(161,true,[0,3]),(164,true,[3,22]),(183,true,[22]),(5,false,[]),(7,false,[]),(8,false,[]),(14,false,[])] [5,7,8,14,18,150,151,152,153,156,157,158,159,160] <| .cv 0 [.apl 183 bA a2.key_ [(aE.mk 0 ((v44.getD (i64.wrap ((i64.wrap (v46+1))-(v45.getD v46.toNat default))).toNat default).Time) (⟨#[]⟩)),(aE.mk 0 (v45.getD v46.toNat default) (⟨#[]⟩))]] <| .grd 4 (0<=v46/\v46<v44.length) <| .grd 2 ((v46).toNat<v44.length) <| .cv 1 [.fr 183 (eL bA (a2.key_++[(aE.mk 0 ((v44.getD (i64.wrap ((i64.wrap (v46+1))-(v45.getD v46.toNat default))).toNat default).Time) (⟨#[]⟩)),(aE.mk 0 (v45.getD v46.toNat default) (⟨#[]⟩))]))] <| .bs 1 false aK ([(aC.mk ((v44.getD v46.toNat default).Time) (a2.key_++[(aE.mk 0 ((v44.getD (i64.wrap ((i64.wrap (v46+1))-(v45.getD v46.toNat default))).toNat default).Time) (⟨#[]⟩)),(aE.mk 0 (v45.getD v46.toNat default) (⟨#[]⟩))]) 1)]:LD) <| .grd 1 ((v43.length+([(aC.mk ((v44.getD v46.toNat default).Time) (a2.key_++[(aE.mk 0 ((v44.getD (i64.wrap ((i64.wrap (v46+1))-(v45.getD v46.toNat default))).toNat default).Time) (⟨#[]⟩)),(aE.mk 0 (v45.getD v46.toNat default) (⟨#[]⟩))]) 1)]:LD).length)*40<=140737488355328) <| .cv 0 [.ap 193 aK v43 ([(aC.mk ((v44.getD v46.toNat default).Time) (a2.key_++[(aE.mk 0 ((v44.getD (i64.wrap ((i64.wrap (v46+1))-(v45.getD v46.toNat default))).toNat default).Time) (⟨#[]⟩)),(aE.mk 0 (v45.getD v46.toNat default) (⟨#[]⟩))]) 1)]:LD)] <| .cv 1 [.rn 193 7] <| .ret 0 (v43++([(aC.mk ((v44.getD v46.toNat default).Time) (a2.key_++[(aE.mk 0 ((v44.getD (i64.wrap ((i64.wrap (v46+1))-(v45.getD v46.toNat default))).toNat default).Time) (⟨#[]⟩)),(aE.mk 0 (v45.getD v46.toNat default) (⟨#[]⟩))]) 1)]:LD),v44,v45)) (.ret 0 (v43,v44,v45))) fun (j48,j49,j50)=>.ret 3 (.inl (j48,j49,j50,i64.wrap (v46+1)))) (.ret 0 (.inr (.inl v43)))
def bEB(a0:List aI)(a1:aG)(a2:cS):TP LD:=.cv 7 [.th 8 8 50 3 (eF aK ([]:LD)),.th 9 9 201 1 (eF gI ([]:List (List Bool)))] <| .lp 0 (fun (v1,v2,v3)=>⟨[(0,.t (eL aV a0)),(4,.ptr 4 0),(5,.ptr 5 0),(7,.nil),(8,.own 8),(9,.own 9),(10,tI v3)],[(4,bN a1),(5,.box ((gF a2).map .t)),(8,aD v1),(9,.arr 201 1 (v2.length) (eF gI v2))]⟩) (fun (b4,b5)=>⟨[(4,.ptr 4 0),(5,.ptr 5 0),(7,.nil),(8,.own 8),(9,.own 9)],[(4,bN a1),(5,.box ((gF a2).map .t)),(8,aD b4),(9,.arr 201 1 (b5.length) (eF gI b5))]⟩) 0 (([]:LD),([]:List (List Bool)),0) (Ro a0 a1 a2) fun (b4,b5)=>.mks 2 bK 8 (b4.length:Int) (b4.length:Int) <| .cv 5 [.rn 87 14] <| .lp 0 (fun (v20,v21,v22,v23)=>⟨[(4,.ptr 4 0),(5,.ptr 5 0),(7,.nil),(8,.own 8),(9,.own 9),(14,.own 14),(15,tI v23)],[(4,bN a1),(5,.box ((gF a2).map .t)),(8,aD v20),(9,.arr 201 1 (v21.length) (eF gI v21)),(14,.arr 3 1 (v22.length) (eF bK v22))]⟩) (fun (b24,b25)=>⟨[(5,.ptr 5 0),(7,.nil),(8,.own 8),(14,.own 14)],[(5,.box ((gF a2).map .t)),(8,aD b24),(14,.arr 3 1 (b25.length) (eF bK b25))]⟩) 6 (b4,b5,List.replicate (b4.length:Int).toNat (default:Int),i64.wrap ((b4.length:Int)-1)) (Nz a1 a2) fun (b24,b25)=>.cv 1 [.th 7 7 50 3 (eF aK ([]:LD))] <| .lp 0 (fun (v43,v44,v45,v46)=>⟨[(5,.ptr 5 0),(7,.own 7),(8,.own 8),(14,.own 14),(18,tI v46)],[(5,.box ((gF a2).map .t)),(7,aD v43),(8,aD v44),(14,.arr 3 1 (v45.length) (eF bK v45))]⟩) (fun b47=>⟨[(7,.own 7)],[(7,aD b47)]⟩) 10 (([]:LD),b24,b25,0) (Dj a2) fun b47=>.cv 2 [.fr 7 (eL aK b47)] <| .ret 0 b47
def aUN(a0:List aI)(a1:aG)(a2:cS):=(bEB a0 a1 a2).den
theorem aXD(a0:List aI)(a1:aG)(a2:cS):Con Tryz.prog 192 [.t (eL aV a0),.t (fM a1),.t (aCT a2)] (aUN a0 a1 a2) tD:=con Tryz.func192 aR (bEB a0 a1 a2)
def bHI(a0:List aE)(a1:List aE):TP Bool:=.ca 3 (Qm a0 a1) fun r1=>.ret 2 (r1==0)
def bFQ(a0:List aE)(a1:List aE):=(bHI a0 a1).den
theorem bAT(a0:List aE)(a1:List aE):Con Tryz.prog 40 [tV a0,tV a1] (bFQ a0 a1) tB:=con Tryz.func40 aR (bHI a0 a1)
def Kj(a1:List aE)(a2:Int)(a3:Int)(a4:aC):((List cS)×Int)->TP (((List cS)×Int)⊕((List cS)⊕(List cS)))
 | (v1,v2)=>.ite 4 (decide (v2<v1.length)) (.grd 3 (0<=v2/\v2<v1.length) <| .grd 2 ((v2).toNat<v1.length/\True) <| .jn 3 0 (fun (j4,j5)=>⟨[(0,.own 0),(1,tV a1),(2,tI a2),(3,tI a3),(9,.ptr 9 0),(11,tI v2),(42,tB j5)],[(0,.arm 209 4 j4.length (mV jH j4) none),(9,.box ((aK a4).map .t))]⟩) (.ite 0 (((v1.getD v2.toNat default).begin_)==a2) (.grd 3 (0<=v2/\v2<v1.length) <| .grd 2 ((v2).toNat<v1.length/\True) <| .ite 4 (((v1.getD v2.toNat default).end_)==a3) (.grd 3 (0<=v2/\v2<v1.length) <| .grd 2 ((v2).toNat<v1.length/\True) <| .ca 1 (bAT ((v1.getD v2.toNat default).key_) a1) fun r6=>.ret 1 (v1,r6)) (.ret 8 (v1,false))) (.ret 17 (v1,false))) fun (j4,j5)=>.ite 0 j5 (.foc 0 0 20003 ((v2).toNat) 3 jH j4 <| .dg 4 (0<=v2/\v2<j4.length) <| .dg 6 ((v2).toNat<j4.length/\v2.toNat=v2.toNat/\True) <| .dg 9 ((((j4.getD v2.toNat default).l_).length+1)*40<=140737488355328) <| .dg 10 (0<=v2/\v2<j4.length) <| .dg 12 ((v2).toNat<j4.length) <| .dr 0 0 [(52,true,[9]),(0,false,[12]),(9,false,[]),(20003,false,[9])] [0,1,2,3,9,11,42] <| .cv 0 [.apl 52 aK ((j4.getD v2.toNat default).l_) [a4]] <| .cv 2 [.mg 0 52,.upr 0 jH j4 ((v2).toNat) (cS.mk ((j4.getD v2.toNat default).key_) ((j4.getD v2.toNat default).begin_) ((j4.getD v2.toNat default).end_) (((j4.getD v2.toNat default).l_)++[a4])) [(3,.any),(3,.any),(3,.row 50 3 (((j4.getD v2.toNat default).l_)++[a4]).length (eF aK (((j4.getD v2.toNat default).l_)++[a4])))],.rn 0 40000] <| .ret 0 (.inr (.inr (j4.set ((v2).toNat) (cS.mk ((j4.getD v2.toNat default).key_) ((j4.getD v2.toNat default).begin_) ((j4.getD v2.toNat default).end_) (((j4.getD v2.toNat default).l_)++[a4])))))) (.ret 3 (.inl (j4,i64.wrap (v2+1))))) (.ret 0 (.inr (.inl v1)))
def Zw(a1:List aE)(a2:Int)(a3:Int)(a4:aC)(qul:List cS):TP (List cS):=.cv 3 [.rn 30000 0] <| .lp 0 (fun (v1,v2)=>⟨[(0,.own 0),(1,tV a1),(2,tI a2),(3,tI a3),(9,.ptr 9 0),(11,tI v2)],[(0,.arm 209 4 v1.length (mV jH v1) none),(9,.box ((aK a4).map .t))]⟩) (fun b3=>⟨[(0,.own 0),(1,tV a1),(2,tI a2),(3,tI a3),(9,.ptr 9 0)],[(0,.arm 209 4 b3.length (mV jH b3) none),(9,.box ((aK a4).map .t))]⟩) 0 (qul,0) (Kj a1 a2 a3 a4) fun b3=>.bs 5 true aK [a4] <| .cv 2 [.mg 63 61,.la 63 jH ([(cS.mk a1 a2 a3 ([a4]:LD))]:List cS)] <| .grd 1 ((b3.length+([(cS.mk a1 a2 a3 ([a4]:LD))]:List cS).length)*64<=140737488355328) <| .cv 0 [.apr 64 jH b3 ([(cS.mk a1 a2 a3 ([a4]:LD))]:List cS)] <| .cv 1 [.rn 64 40000] <| .ret 0 (b3++([(cS.mk a1 a2 a3 ([a4]:LD))]:List cS))
def Wt(a1:List aE)(a2:Int)(a3:Int)(a4:aC)(qul:List cS):=(Zw a1 a2 a3 a4 qul).den
theorem aFU(a1:List aE)(a2:Int)(a3:Int)(a4:aC)(qul:List cS):dD Tryz.prog 191 [.own 30000,tV a1,tI a2,tI a3,.t (cO a4)] [(30000,.arm 209 4 qul.length (mV jH qul) none)] [] (Wt a1 a2 a3 a4 qul) (fun y=>.own 40000) (fun y=>[(40000,.arm 209 4 y.length (mV jH y) none)]):=eC Tryz.func191 aR (Zw a1 a2 a3 a4 qul)
def aCW(a1:aG)(a2:LD):((List cS)×Int)->TP (((List cS)×Int)⊕((List cS)⊕LD))
 | (v1,v2)=>.ite 4 (decide (v2<a2.length)) (.dg 3 (0<=v2/\v2<a2.length) <| .dc 8 [tV ((a2.getD v2.toNat default).Row),.t (eL bK (a1.Key))] (bBA ((a2.getD v2.toNat default).Row) a1.Key) fun r4=>.dg 11 (0<=v2/\v2<a2.length) <| .dr 0 2 [(4,false,[]),(7,false,[])] [0,2,4,7,8,11,12,13,14] <| .cv 0 [.rn 7 30000] <| .ch 0 [40000] (aFU r4 0 0 (a2.getD v2.toNat default) v1) fun r5=>.cv 0 [.rn 40000 30] <| .cv 4 [.rn 30 7] <| .ret 0 (.inl (r5,i64.wrap (v2+1)))) (.ret 0 (.inr (.inl v1)))
def Dp(a0:List aI)(a1:aG)(b3:List cS):(LD×Int)->TP ((LD×Int)⊕((LD)⊕LD))
 | (v6,v7)=>.ite 4 (decide (v7<b3.length)) (.dg 5 (0<=v7/\v7<b3.length) <| .dc 7 [.t (eL aV a0),.t (fM a1),.t (aCT (b3.getD v7.toNat default))] (aXD a0 a1 (b3.getD v7.toNat default)) fun r9=>.dg 8 ((v6.length+r9.length)*40<=140737488355328) <| .dr 0 0 [(45,true,[8]),(4,false,[]),(9,false,[8])] [0,4,7,9,10,31,32,33,34] <| .cv 0 [.ap 45 aK v6 r9] <| .cv 3 [.rn 45 9] <| .ret 0 (.inl (v6++r9,i64.wrap (v7+1)))) (.ret 0 (.inr (.inl v6)))
def bGN(a0:List aI)(a1:aG)(a2:LD):TP LD:=.cv 4 [.tha 7 7 209 4 (mV jH ([]:List cS))] <| .lp 0 (fun (v1,v2)=>⟨[(0,.t (eL aV a0)),(2,tD a2),(4,.ptr 4 0),(7,.own 7),(8,tI v2)],[(4,bN a1),(7,.arm 209 4 v1.length (mV jH v1) none)]⟩) (fun b3=>⟨[(0,.t (eL aV a0)),(4,.ptr 4 0),(7,.own 7)],[(4,bN a1),(7,.arm 209 4 b3.length (mV jH b3) none)]⟩) 0 (([]:List cS),0) (aCW a1 a2) fun b3=>.cv 2 [.fza 7 jH gF b3] <| .cv 0 [.th 9 9 50 3 (eF aK ([]:LD))] <| .lp 0 (fun (v6,v7)=>⟨[(0,.t (eL aV a0)),(4,.ptr 4 0),(7,.t (eL gF b3)),(9,.own 9),(10,tI v7)],[(4,bN a1),(9,aD v6)]⟩) (fun b8=>⟨[(9,.own 9)],[(9,aD b8)]⟩) 2 (([]:LD),0) (Dp a0 a1 b3) fun b8=>.cv 2 [.fr 9 (eL aK b8)] <| .ret 0 b8
def bHH(a0:List aI)(a1:aG)(a2:LD):=(bGN a0 a1 a2).den
theorem bAS(a0:List aI)(a1:aG)(a2:LD):Con Tryz.prog 98 [.t (eL aV a0),.t (fM a1),tD a2] (bHH a0 a1 a2) tD:=con Tryz.func98 aR (bGN a0 a1 a2)
def T46(a0:List aI)(a1:aG)(a2:List LD):TP LD:=.jn 7 0 (fun j1=>⟨[(0,.t (eL aV a0)),(2,.t (eL jE a2)),(4,.ptr 4 0),(7,tD j1),(8,.nil)],[(4,bN a1)]⟩) (.ite 0 (decide ((a2.length:Int)>0)) (.grd 2 (0<=(0:Int)/\(0:Int)<a2.length) <| .ret 2 (a2.getD (0:Int).toNat default)) (.cv 0 [.sl 7 (eL aK ([]:LD))] <| .ret 0 ([]:LD))) fun j1=>.jn 3 0 (fun j2=>⟨[(0,.t (eL aV a0)),(4,.ptr 4 0),(7,tD j1),(8,tD j2)],[(4,bN a1)]⟩) (.ite 0 (decide ((a2.length:Int)>1)) (.grd 2 (0<=(1:Int)/\(1:Int)<a2.length) <| .ret 2 (a2.getD (1:Int).toNat default)) (.cv 0 [.sl 8 (eL aK ([]:LD))] <| .ret 0 ([]:LD))) fun j2=>.ite 5 (a1.Op==1) (.no) (.ite 2 (a1.Op==2) (.no) (.jn 2 0 (fun j3=>⟨[(9,tD j3)],[]⟩) (.ite 0 (a1.Op==3) (.bs 0 true aK ([]:LD) <| .grd 2 ((([]:LD).length+j1.length)*40<=140737488355328) <| .cv 0 [.ap 115 aK ([]:LD) j1] <| .grd 2 (((([]:LD)++j1).length+j2.length)*40<=140737488355328) <| .cv 0 [.ap 117 aK (([]:LD)++j1) j2] <| .cv 1 [.fr 117 (eL aK ((([]:LD)++j1)++j2))] <| .ret 0 ((([]:LD)++j1)++j2)) (.ite 2 (a1.Op==4) (.no) (.ite 2 (a1.Op==5) (.no) (.ite 2 (a1.Op==6) (.no) (.ite 2 (a1.Op==7) (.no) (.jn 2 0 (fun j4=>⟨[(9,tD j4)],[]⟩) (.ite 0 (a1.Op==8) (.ca 3 (bAS a0 a1 j1) fun r5=>.ret 1 r5) (.cv 0 [.sl 9 (eL aK ([]:LD))] <| .ret 0 ([]:LD))) fun j4=>.ret 0 j4)))))) fun j3=>.ca 1 (aFO j3) fun r6=>.ret 1 r6))
def G46(a0:List aI)(a1:aG)(a2:List LD):=(T46 a0 a1 a2).den
theorem aNO(a0:List aI)(a1:aG)(a2:List LD):Con Tryz.prog 35 [.t (eL aV a0),.t (fM a1),.t (eL jE a2)] (G46 a0 a1 a2) tD:=con Tryz.func35 aR (T46 a0 a1 a2)
def Xg(a1:LD)(qw0:bU):TP (LD×LD):=.ca 6 (bEJ qw0.L a1) fun r1=>.dc 13 [.t (eL aV (qw0.Funcs)),.t (fM qw0.N),.t (.sl 1 (jJ [eL aK (qw0.L)] 1))] (aNO qw0.Funcs qw0.N [qw0.L]) fun r2=>.dr 1 0 [(30002,false,[])] [0,1,4,5,8,9,10,11,12,13] <| .dc 10 [.t (eL aV (qw0.Funcs)),.t (fM qw0.N),.t (.sl 1 (jJ [eL aK r1] 1))] (aNO qw0.Funcs qw0.N [r1]) fun r3=>.dr 0 0 [(30002,false,[])] [0,1,4,5,6,8,9,10,11,12,13,14,15,16,17,18,19,20,21,22,23,24,25,26,27] <| .ca 7 (bIK r3 r2) fun r4=>.ret 1 (r4,r1)
def Nc(a1:LD)(qw0:bU):=(Xg a1 qw0).den
theorem aHO(a1:LD)(qw0:bU):dD Tryz.prog 45 [.ptr 30002 0,tD a1] [(30002,.box ((eG qw0).map .t))] [30002] (Nc a1 qw0) (fun y=>tD y.1) (fun y=>[(30002,bQ qw0 y.2 qw0.Closed)]):=eC Tryz.func45 aR (Xg a1 qw0)
abbrev bKJ:={f:Int->Option ByteArray // ∀ a:Int,Con Tryz.prog 195 [tI a] (f a) (fun (y:ByteArray)=>.t (.str y))}
def aMB(rec:bKJ)(a0:Int):TP ByteArray:=.gd 3 ((10:Int)≠0) (by decide) <| .bs 2 false cU8 [IntKind.u8.wrap (i64.wrap (48-(Int.tmod a0 10)))] <| .gd 1 (∀ i,i<[IntKind.u8.wrap (i64.wrap (48-(Int.tmod a0 10)))].length->aKG ((eF cU8 [IntKind.u8.wrap (i64.wrap (48-(Int.tmod a0 10)))]) i)=true) (fun _ _=>rfl) <| .ite 3 (decide (a0>(-10))) (.ret 2 (aHP ([IntKind.u8.wrap (i64.wrap (48-(Int.tmod a0 10)))].length) (eF cU8 [IntKind.u8.wrap (i64.wrap (48-(Int.tmod a0 10)))]))) (.gd 2 ((10:Int)≠0) (by decide) <| .ca 0 (rec.2 (i64.wrap (Int.tdiv a0 10))) fun r1=>.grd 2 (((r1.size+(aHP ([IntKind.u8.wrap (i64.wrap (48-(Int.tmod a0 10)))].length) (eF cU8 [IntKind.u8.wrap (i64.wrap (48-(Int.tmod a0 10)))])).size:Nat):Int)<=9223372036854775807) <| .ret 1 (r1++(aHP ([IntKind.u8.wrap (i64.wrap (48-(Int.tmod a0 10)))].length) (eF cU8 [IntKind.u8.wrap (i64.wrap (48-(Int.tmod a0 10)))]))))
theorem aBB(rec:bKJ)(a0:Int):Con Tryz.prog 195 [tI a0] (aMB rec a0).den (fun (y:ByteArray)=>.t (.str y)):=con Tryz.func195 aR (aMB rec a0)
def bLR(a:Int):Option ByteArray:=sG (C:=fun (a:Int) (x:Option ByteArray)=>Con Tryz.prog 195 [tI a] x (fun (y:ByteArray)=>.t (.str y))) (fun a=>⟨bL Tryz.func195 (by kernel_rfl),fun _ h=>nomatch h⟩) (fun rec a=>aMB rec a) (fun rec a=>aBB rec a) a
theorem bAX(a:Int):Con Tryz.prog 195 [tI a] (bLR a) (fun (y:ByteArray)=>.t (.str y)):=lX (C:=fun (a:Int) (x:Option ByteArray)=>Con Tryz.prog 195 [tI a] x (fun (y:ByteArray)=>.t (.str y))) _ _ _ a
def aYS(a0:Int):Option ByteArray:=bLR a0
theorem Qe(a0:Int):Con Tryz.prog 195 [tI a0] (aYS a0) (fun y=>.t (.str y)):=bAX a0
def T55(a0:Int):TP ByteArray:=.ite 3 (decide (a0<0)) (.ca 1 (Qe a0) fun r1=>.grd 1 (((((⟨#[45]⟩):ByteArray).size+r1.size:Nat):Int)<=9223372036854775807) <| .grd 1 (((((((⟨#[45]⟩):ByteArray)++r1):ByteArray).size+((⟨#[59]⟩):ByteArray).size:Nat):Int)<=9223372036854775807) <| .ret 1 (((((⟨#[45]⟩):ByteArray)++r1):ByteArray)++((⟨#[59]⟩):ByteArray))) (.ca 2 (Qe (i64.wrap (0-a0))) fun r2=>.grd 1 (((r2.size+((⟨#[59]⟩):ByteArray).size:Nat):Int)<=9223372036854775807) <| .ret 1 (r2++((⟨#[59]⟩):ByteArray)))
def G55(a0:Int):=(T55 a0).den
theorem sL(a0:Int):Con Tryz.prog 108 [tI a0] (G55 a0) (fun y=>.t (.str y)):=con Tryz.func108 aR (T55 a0)
def bDI(a0:Int):TP ByteArray:=.ite 3 (decide (a0<0)) (.ret 1 (⟨#[]⟩)) (.ca 1 (sL a0) fun r1=>.ret 1 r1)
def bHP(a0:Int):=(bDI a0).den
theorem aBL(a0:Int):Con Tryz.prog 196 [tI a0] (bHP a0) (fun y=>.t (.str y)):=con Tryz.func196 aR (bDI a0)
def T56(a0:ByteArray):TP ByteArray:=.ca 4 (Qe (i64.wrap (0-((a0:ByteArray).size:Int)))) fun r1=>.grd 1 (((r1.size+((⟨#[58]⟩):ByteArray).size:Nat):Int)<=9223372036854775807) <| .grd 2 (((((r1++((⟨#[58]⟩):ByteArray)):ByteArray).size+a0.size:Nat):Int)<=9223372036854775807) <| .grd 1 (((((((r1++((⟨#[58]⟩):ByteArray)):ByteArray)++a0):ByteArray).size+((⟨#[44]⟩):ByteArray).size:Nat):Int)<=9223372036854775807) <| .ret 1 (((((r1++((⟨#[58]⟩):ByteArray)):ByteArray)++a0):ByteArray)++((⟨#[44]⟩):ByteArray))
def G56(a0:ByteArray):=(T56 a0).den
theorem aQX(a0:ByteArray):Con Tryz.prog 197 [.t (.str a0)] (G56 a0) (fun y=>.t (.str y)):=con Tryz.func197 aR (T56 a0)
def bHO(a0:aE):TP ByteArray:=.dc 2 [tI a0.Kind] (sL a0.Kind) fun r1=>.dc 5 [tI a0.N] (sL a0.N) fun r2=>.dg 6 (((r1.size+r2.size:Nat):Int)<=9223372036854775807) <| .dc 9 [.t (.str (a0.S))] (aQX a0.S) fun r3=>.dg 10 ((((r1++r2).size+r3.size:Nat):Int)<=9223372036854775807) <| .dr 2 0 [(1,false,[])] [0,1] <| .ret 0 ((r1++r2)++r3)
def bIN(a0:aE):=(bHO a0).den
theorem aZQ(a0:aE):Con Tryz.prog 251 [.t (cH a0)] (bIN a0) (fun y=>.t (.str y)):=con Tryz.func251 aR (bHO a0)
def Eb(a0:List aE):(ByteArray×Int)->TP ((ByteArray×Int)⊕((ByteArray)⊕ByteArray))
 | (v2,v3)=>.ite 4 (decide (v3<a0.length)) (.grd 4 (0<=v3/\v3<a0.length) <| .ca 1 (aZQ (a0.getD v3.toNat default)) fun r5=>.grd 1 (((v2.size+r5.size:Nat):Int)<=9223372036854775807) <| .ret 4 (.inl (v2++r5,i64.wrap (v3+1)))) (.ret 0 (.inr (.inl v2)))
def bFI(a0:List aE):TP ByteArray:=.ca 3 (aBL (a0.length:Int)) fun r1=>.lp 2 (fun (v2,v3)=>⟨[(0,tV a0),(3,.t (.str v2)),(4,tI v3)],[]⟩) (fun b4=>⟨[(3,.t (.str b4))],[]⟩) 0 (r1,0) (Eb a0) fun b4=>.ret 2 b4
def bIR(a0:List aE):=(bFI a0).den
theorem aXE(a0:List aE):Con Tryz.prog 198 [tV a0] (bIR a0) (fun y=>.t (.str y)):=con Tryz.func198 aR (bFI a0)
def wQ(r1:LD):(ByteArray×Int)->TP ((ByteArray×Int)⊕((ByteArray)⊕ByteArray))
 | (v3,v4)=>.ite 4 (decide (v4<r1.length)) (.dg 3 (0<=v4/\v4<r1.length) <| .dc 6 [tI ((r1.getD v4.toNat default).Time)] (sL ((r1.getD v4.toNat default).Time)) fun r6=>.dg 7 (((v3.size+r6.size:Nat):Int)<=9223372036854775807) <| .dg 10 (0<=v4/\v4<r1.length) <| .dc 13 [tV ((r1.getD v4.toNat default).Row)] (aXE ((r1.getD v4.toNat default).Row)) fun r7=>.dc 14 [.t (.str r7)] (aQX r7) fun r8=>.dg 15 ((((v3++r6).size+r8.size:Nat):Int)<=9223372036854775807) <| .dg 18 (0<=v4/\v4<r1.length) <| .dc 21 [tI ((r1.getD v4.toNat default).N)] (sL ((r1.getD v4.toNat default).N)) fun r9=>.dg 22 (((((v3++r6)++r8).size+r9.size:Nat):Int)<=9223372036854775807) <| .dr 0 0 [] [3,4,5,11,12,13,14] <| .ret 3 (.inl (((v3++r6)++r8)++r9,i64.wrap (v4+1)))) (.ret 0 (.inr (.inl v3)))
def T57(a0:LD):TP ByteArray:=.ca 2 (xX a0) fun r1=>.ca 3 (aBL (r1.length:Int)) fun r2=>.lp 2 (fun (v3,v4)=>⟨[(3,tD r1),(4,.t (.str v3)),(5,tI v4)],[]⟩) (fun b5=>⟨[(4,.t (.str b5))],[]⟩) 0 (r2,0) (wQ r1) fun b5=>.ret 2 b5
def G57(a0:LD):=(T57 a0).den
theorem aOS(a0:LD):Con Tryz.prog 109 [tD a0] (G57 a0) (fun y=>.t (.str y)):=con Tryz.func109 aR (T57 a0)
def aAN(qw0:bU):TP ByteArray:=.dc 4 [tI qw0.Closed] (sL qw0.Closed) fun r1=>.dc 9 [tD qw0.L] (aOS qw0.L) fun r2=>.dg 10 (((r1.size+r2.size:Nat):Int)<=9223372036854775807) <| .dr 1 0 [(30002,false,[])] [0] <| .ret 0 (r1++r2)
def Rr(qw0:bU):=(aAN qw0).den
theorem Lv(qw0:bU):dD Tryz.prog 47 [.ptr 30002 0] [(30002,.box ((eG qw0).map .t))] [30002] (Rr qw0) (fun y=>.t (.str y)) (fun y=>[(30002,.box ((eG qw0).map .t))]):=eC Tryz.func47 aR (aAN qw0)
def bBR(a0:ByteArray):TP aJ:=.cv 5 [.rn 5 40000] <| .ret 0 (aJ.mk a0 false)
def Ig(a0:ByteArray):=(bBR a0).den
theorem Gd(a0:ByteArray):dD Tryz.prog 110 [.t (.str a0)] [] [] (Ig a0) (fun y=>.ptr 40000 0) (fun y=>[(40000,.box ((bT y).map .t))]):=eC Tryz.func110 aR (bBR a0)
def uI(a0:ByteArray)(j2:Int):(Int×Int)->TP ((Int×Int)⊕((Int)⊕(Int×Bool)))
 | (v3,v4)=>.ite 4 (decide (v4<(a0:ByteArray).size)) (.grd 3 (0<=v4/\v4<a0.size) <| .jn 2 0 (fun j6=>⟨[(0,.t (.str a0)),(4,tI j2),(5,tI v3),(6,tI v4),(35,tB j6)],[]⟩) (.ite 0 (decide (((a0[v4.toNat]?.getD 0).toNat:Int)<48)) (.ret 9 true) (.grd 3 (0<=v4/\v4<a0.size) <| .ite 3 (decide (((a0[v4.toNat]?.getD 0).toNat:Int)>57)) (.ret 3 true) (.ret 3 (decide (v4>20))))) fun j6=>.ite 0 j6 (.ret 2 (.inr (.inr (0,false)))) (.grd 5 (0<=v4/\v4<a0.size) <| .ret 7 (.inl (i64.wrap ((i64.wrap (10*v3))-(i64.wrap (IntKind.u8.wrap (((a0[v4.toNat]?.getD 0).toNat:Int)-48)))),i64.wrap (v4+1))))) (.ret 0 (.inr (.inl v3)))
def aUE(a0:ByteArray):TP (Int×Bool):=.jn 7 0 (fun j1=>⟨[(0,.t (.str a0)),(4,tI 0),(14,tB j1)],[]⟩) (.ite 0 (decide (((a0:ByteArray).size:Int)>0)) (.grd 2 (0<=(0:Int)/\(0:Int)<a0.size) <| .ret 2 (((a0[(0:Int).toNat]?.getD 0).toNat:Int)==45)) (.ret 4 false)) fun j1=>.jn 0 0 (fun j2=>⟨[(0,.t (.str a0)),(4,tI j2)],[]⟩) (.ite 0 j1 (.ret 1 1) (.ret 0 0)) fun j2=>.lp 3 (fun (v3,v4)=>⟨[(0,.t (.str a0)),(4,tI j2),(5,tI v3),(6,tI v4)],[]⟩) (fun b5=>⟨[(0,.t (.str a0)),(4,tI j2),(5,tI b5)],[]⟩) 0 (0,j2) (uI a0 j2) fun b5=>.jn 2 0 (fun j7=>⟨[(0,.t (.str a0)),(5,tI j7)],[]⟩) (.ite 0 (j2==0) (.ret 3 (i64.wrap (0-b5))) (.ret 0 b5)) fun j7=>.ca 2 (sL j7) fun r8=>.grd 2 (((a0.size+((⟨#[59]⟩):ByteArray).size:Nat):Int)<=9223372036854775807) <| .ret 3 (j7,(r8:ByteArray).toList==(a0++((⟨#[59]⟩):ByteArray):ByteArray).toList)
def aMO(a0:ByteArray):=(aUE a0).den
theorem aUF(a0:ByteArray):Con Tryz.prog 253 [.t (.str a0)] (aMO a0) (fun y=>.tup [tI y.1,tB y.2]):=con Tryz.func253 aR (aUE a0)
def aQG(qu0:aJ):TP (Int×ByteArray×Bool):=.ret 10 (0,⟨#[]⟩,true)
def Hx(qu0:aJ):=(aQG qu0).den
theorem lH(qu0:aJ):dD Tryz.prog 252 [.ptr 30000 0] [(30000,.box ((bT qu0).map .t))] [30000] (Hx qu0) (fun y=>tI y.1) (fun y=>[(30000,.box [.t (.str (y.2.1)),tB y.2.2])]):=eC Tryz.func252 aR (aQG qu0)
def pI(a1:Int)(qu0:aJ):Int->TP ((Int)⊕((Int)⊕(Int×ByteArray×Bool)))
 | v1=>.jn 8 0 (fun j3=>⟨[(0,.ptr 30000 0),(1,.t (.int .u8 a1)),(5,tI v1),(28,tB j3)],[(30000,.box ((bT qu0).map .t))]⟩) (.ite 0 (decide (v1<(qu0.Rest:ByteArray).size)) (.ite 4 (decide (v1<21)) (.grd 6 (0<=v1/\v1<qu0.Rest.size) <| .ret 3 (((qu0.Rest[v1.toNat]?.getD 0).toNat:Int) != a1)) (.ret 9 false)) (.ret 13 false)) fun j3=>.ite 0 j3 (.ret 3 (.inl (i64.wrap (v1+1)))) (.ret 0 (.inr (.inl v1)))
def Ni(a1:Int)(qu0:aJ):TP (Int×ByteArray×Bool):=.lp 2 (fun v1=>⟨[(0,.ptr 30000 0),(1,.t (.int .u8 a1)),(5,tI v1)],[(30000,.box ((bT qu0).map .t))]⟩) (fun b2=>⟨[(0,.ptr 30000 0),(1,.t (.int .u8 a1)),(5,tI b2)],[(30000,.box ((bT qu0).map .t))]⟩) 0 0 (pI a1 qu0) fun b2=>.ite 7 (decide (b2>=((qu0.Rest:ByteArray).size:Int))) (.ch 1 [] (lH qu0) fun r4=>.ret 1 (r4.1,r4.2.1,r4.2.2)) (.grd 6 (0<=b2/\b2<qu0.Rest.size) <| .ite 2 (((qu0.Rest[b2.toNat]?.getD 0).toNat:Int) != a1) (.ch 1 [] (lH qu0) fun r5=>.ret 1 (r5.1,r5.2.1,r5.2.2)) (.grd 6 (0<=(0:Int)/\(0:Int)<=b2/\b2<=(qu0.Rest.size:Int)) <| .ca 0 (aUF (qu0.Rest.extract (0:Int).toNat b2.toNat)) fun r6=>.ite 7 (!r6.2) (.ch 1 [] (lH qu0) fun r7=>.ret 1 (r7.1,r7.2.1,r7.2.2)) (.grd 8 (0<=(i64.wrap (b2+1):Int)/\(i64.wrap (b2+1):Int)<=(qu0.Rest.size:Int)/\(qu0.Rest.size:Int)<=(qu0.Rest.size:Int)) <| .ret 5 (r6.1,qu0.Rest.extract (i64.wrap (b2+1):Int).toNat (qu0.Rest.size:Int).toNat,qu0.Bad))))
def Fu(a1:Int)(qu0:aJ):=(Ni a1 qu0).den
theorem Jx(a1:Int)(qu0:aJ):dD Tryz.prog 199 [.ptr 30000 0,.t (.int .u8 a1)] [(30000,.box ((bT qu0).map .t))] [30000] (Fu a1 qu0) (fun y=>tI y.1) (fun y=>[(30000,.box [.t (.str (y.2.1)),tB y.2.2])]):=eC Tryz.func199 aR (Ni a1 qu0)
def aBF(qu0:aJ):TP (Int×ByteArray×Bool):=.ch 2 [] (Jx 59 qu0) fun r1=>.ret 1 (r1.1,r1.2.1,r1.2.2)
def Te(qu0:aJ):=(aBF qu0).den
theorem uD(qu0:aJ):dD Tryz.prog 111 [.ptr 30000 0] [(30000,.box ((bT qu0).map .t))] [30000] (Te qu0) (fun y=>tI y.1) (fun y=>[(30000,.box [.t (.str (y.2.1)),tB y.2.2])]):=eC Tryz.func111 aR (aBF qu0)
def Rf(a1:Int)(qu0:aJ):TP (Int×ByteArray×Bool):=.ch 3 [] (Jx a1 qu0) fun r1=>.ite 3 (decide (r1.1<0)) (.ch 1 [] (lH (aJ.mk r1.2.1 r1.2.2)) fun r2=>.ret 1 (r2.1,r2.2.1,r2.2.2)) (.ret 2 (r1.1,r1.2.1,r1.2.2))
def Gy(a1:Int)(qu0:aJ):=(Rf a1 qu0).den
theorem Lk(a1:Int)(qu0:aJ):dD Tryz.prog 254 [.ptr 30000 0,.t (.int .u8 a1)] [(30000,.box ((bT qu0).map .t))] [30000] (Gy a1 qu0) (fun y=>tI y.1) (fun y=>[(30000,.box [.t (.str (y.2.1)),tB y.2.2])]):=eC Tryz.func254 aR (Rf a1 qu0)
def Nb(qu0:aJ):TP (Int×ByteArray×Bool):=.ch 2 [] (Lk 59 qu0) fun r1=>.ret 1 (r1.1,r1.2.1,r1.2.2)
def Eh(qu0:aJ):=(Nb qu0).den
theorem Lt(qu0:aJ):dD Tryz.prog 200 [.ptr 30000 0] [(30000,.box ((bT qu0).map .t))] [30000] (Eh qu0) (fun y=>tI y.1) (fun y=>[(30000,.box [.t (.str (y.2.1)),tB y.2.2])]):=eC Tryz.func200 aR (Nb qu0)
def Rk(a1:Int)(qu0:aJ):TP (Bool×ByteArray×Bool):=.ite 7 (((qu0.Rest:ByteArray).size:Int)==0) (.ch 1 [] (lH qu0) fun r1=>.ret 1 (false,r1.2.1,r1.2.2)) (.grd 5 (0<=(0:Int)/\(0:Int)<qu0.Rest.size) <| .ite 2 (((qu0.Rest[(0:Int).toNat]?.getD 0).toNat:Int) != a1) (.ch 1 [] (lH qu0) fun r2=>.ret 1 (false,r2.2.1,r2.2.2)) (.grd 6 (0<=(1:Int)/\(1:Int)<=(qu0.Rest.size:Int)/\(qu0.Rest.size:Int)<=(qu0.Rest.size:Int)) <| .ret 4 (true,qu0.Rest.extract (1:Int).toNat (qu0.Rest.size:Int).toNat,qu0.Bad)))
def Gp(a1:Int)(qu0:aJ):=(Rk a1 qu0).den
theorem aGU(a1:Int)(qu0:aJ):dD Tryz.prog 256 [.ptr 30000 0,.t (.int .u8 a1)] [(30000,.box ((bT qu0).map .t))] [30000] (Gp a1 qu0) (fun y=>tB y.1) (fun y=>[(30000,.box [.t (.str (y.2.1)),tB y.2.2])]):=eC Tryz.func256 aR (Rk a1 qu0)
def aFH(qu0:aJ):TP (ByteArray×ByteArray×Bool):=.ch 2 [] (Lk 58 qu0) fun r1=>.jn 6 0 (fun j2=>⟨[(0,.ptr 30000 0),(3,tI r1.1),(19,tB j2)],[(30000,.box [.t (.str (r1.2.1)),tB r1.2.2])]⟩) (.ite 0 (r1.2.2) (.ret 8 true) (.ret 8 (decide (r1.1>=((r1.2.1:ByteArray).size:Int))))) fun j2=>.ite 0 j2 (.ch 1 [] (lH (aJ.mk r1.2.1 r1.2.2)) fun r3=>.ret 1 (⟨#[]⟩,r3.2.1,r3.2.2)) (.grd 6 (0<=(0:Int)/\(0:Int)<=r1.1/\r1.1<=(r1.2.1.size:Int)) <| .grd 8 (0<=(r1.1:Int)/\(r1.1:Int)<=(r1.2.1.size:Int)/\(r1.2.1.size:Int)<=(r1.2.1.size:Int)) <| .ch 4 [] (aGU 44 (aJ.mk (r1.2.1.extract (r1.1:Int).toNat (r1.2.1.size:Int).toNat) r1.2.2)) fun r4=>.ite 1 (!r4.1) (.ret 1 (⟨#[]⟩,r4.2.1,r4.2.2)) (.ret 2 (r1.2.1.extract (0:Int).toNat (r1.1).toNat,r4.2.1,r4.2.2)))
def Wa(qu0:aJ):=(aFH qu0).den
theorem Uy(qu0:aJ):dD Tryz.prog 202 [.ptr 30000 0] [(30000,.box ((bT qu0).map .t))] [30000] (Wa qu0) (fun y=>.t (.str (y.1))) (fun y=>[(30000,.box [.t (.str (y.2.1)),tB y.2.2])]):=eC Tryz.func202 aR (aFH qu0)
def aCD(qu0:aJ):TP Bool:=.jn 7 0 (fun j1=>⟨[(2,tB j1)],[(30000,.box ((bT qu0).map .t))]⟩) (.ite 0 (!qu0.Bad) (.ret 7 ((qu0.Rest:ByteArray).toList==(⟨#[]⟩:ByteArray).toList)) (.ret 7 false)) fun j1=>.ret 0 j1
def Vl(qu0:aJ):=(aCD qu0).den
theorem aKP(qu0:aJ):dD Tryz.prog 255 [.ptr 30000 0] [(30000,.box ((bT qu0).map .t))] [30000] (Vl qu0) tB (fun y=>[(30000,.box ((bT qu0).map .t))]):=eC Tryz.func255 aR (aCD qu0)
def zB(a0:ByteArray)(r2:Int×ByteArray×Bool):(ByteArray×Bool×(List aE)×Int)->TP ((ByteArray×Bool×(List aE)×Int)⊕((ByteArray×Bool×(List aE))⊕((List aE)×Bool)))
 | (v3,v4,v5,v6)=>.jn 4 0 (fun (j10,j11)=>⟨[(0,.t (.str a0)),(4,.ptr 30000 0),(5,tI r2.1),(6,.own 6),(7,tI v6),(21,tB j11)],[(6,.arr 67 3 (j10.length) (eF bA j10)),(30000,.box [.t (.str v3),tB v4])]⟩) (.ite 0 (decide (v6<r2.1)) (.ret 5 (v5,decide (v6<(a0:ByteArray).size))) (.ret 5 (v5,false))) fun (j10,j11)=>.ite 0 j11 (.ch 4 [] (uD (aJ.mk v3 v4)) fun r12=>.ch 3 [] (uD (aJ.mk r12.2.1 r12.2.2)) fun r13=>.ch 3 [] (Uy (aJ.mk r13.2.1 r13.2.2)) fun r14=>.bs 4 false bA [(aE.mk r12.1 r13.1 r14.1)] <| .grd 1 ((j10.length+[(aE.mk r12.1 r13.1 r14.1)].length)*32<=140737488355328) <| .cv 0 [.ap 37 bA j10 [(aE.mk r12.1 r13.1 r14.1)]] <| .cv 4 [.rn 37 6] <| .ret 0 (.inl (r14.2.1,r14.2.2,j10++[(aE.mk r12.1 r13.1 r14.1)],i64.wrap (v6+1)))) (.ret 0 (.inr (.inl (v3,v4,j10))))
def aWX(a0:ByteArray):TP ((List aE)×Bool):=.ch 3 [40000] (Gd a0) fun r1=>.cv 0 [.rn 40000 10] <| .cv 2 [.rn 10 30000] <| .ch 0 [] (Lt r1) fun r2=>.cv 3 [.th 6 6 67 3 (eF bA ([]:List aE))] <| .lp 0 (fun (v3,v4,v5,v6)=>⟨[(0,.t (.str a0)),(4,.ptr 30000 0),(5,tI r2.1),(6,.own 6),(7,tI v6)],[(6,.arr 67 3 (v5.length) (eF bA v5)),(30000,.box [.t (.str v3),tB v4])]⟩) (fun (b7,b8,b9)=>⟨[(4,.ptr 30000 0),(5,tI r2.1),(6,.own 6)],[(6,.arr 67 3 (b9.length) (eF bA b9)),(30000,.box [.t (.str b7),tB b8])]⟩) 0 (r2.2.1,r2.2.2,([]:List aE),0) (zB a0 r2) fun (b7,b8,b9)=>.ch 1 [] (aKP (aJ.mk b7 b8)) fun r15=>.jn 2 0 (fun (j16,j17)=>⟨[(6,.own 6),(46,tB j17)],[(6,.arr 67 3 (j16.length) (eF bA j16))]⟩) (.ite 0 (!r15) (.ret 5 (b9,true)) (.ret 5 (b9,(b9.length:Int) != r2.1))) fun (j16,j17)=>.ite 0 j17 (.cv 2 [.sl 2 (eL bA ([]:List aE))] <| .ret 0 (([]:List aE),false)) (.cv 3 [.fr 6 (eL bA j16)] <| .ret 0 (j16,true))
def aSJ(a0:ByteArray):=(aWX a0).den
theorem aVF(a0:ByteArray):Con Tryz.prog 201 [.t (.str a0)] (aSJ a0) (fun y=>.tup [tV y.1,tB y.2]):=con Tryz.func201 aR (aWX a0)
def yW(a0:LD):Int->TP ((Int)⊕((Unit)⊕Bool))
 | v1=>.ite 4 (decide (v1<a0.length)) (.jn 0 0 (fun j2=>⟨[(0,tD a0),(3,tI v1),(33,tB j2)],[]⟩) (.dg 2 (0<=v1/\v1<a0.length) <| .dl 6 (((a0.getD v1.toNat default).N)==0) (.dr 0 0 [] [0,3,4,5,6,7] <| .ret 0 true) (.dl 9 (decide (v1>0)) (.dg 14 (0<=(if (0:Int)>(i64.wrap (v1-1)) then (0:Int) else (i64.wrap (v1-1)))/\(if (0:Int)>(i64.wrap (v1-1)) then (0:Int) else (i64.wrap (v1-1)))<a0.length) <| .dg 18 (0<=v1/\v1<a0.length) <| .dc 20 [.t (cO (a0.getD (if (0:Int)>(i64.wrap (v1-1)) then (0:Int) else (i64.wrap (v1-1))).toNat default)),.t (cO (a0.getD v1.toNat default))] (Pf (a0.getD (if (0:Int)>(i64.wrap (v1-1)) then (0:Int) else (i64.wrap (v1-1))).toNat default) (a0.getD v1.toNat default)) fun r3=>.dr 0 0 [] [0,3,4,5,6,7] <| .ret 0 (decide (r3>=0))) (.dr 0 0 [] [0,3,4,5,6,7] <| .ret 0 false))) fun j2=>.ite 0 j2 (.ret 1 (.inr (.inr false))) (.ret 3 (.inl (i64.wrap (v1+1))))) (.ret 0 (.inr (.inl ())))
def aTD(a0:LD):TP Bool:=.lp 2 (fun v1=>⟨[(0,tD a0),(3,tI v1)],[]⟩) (fun _=>⟨[],[]⟩) 0 0 (yW a0) fun _=>.ret 1 true
def aOT(a0:LD):=(aTD a0).den
theorem aYY(a0:LD):Con Tryz.prog 203 [tD a0] (aOT a0) tB:=con Tryz.func203 aR (aTD a0)
def Bu(a0:ByteArray)(r2:Int×ByteArray×Bool):(ByteArray×Bool×LD×Int)->TP ((ByteArray×Bool×LD×Int)⊕((LD)⊕(LD×Bool)))
 | (v3,v4,v5,v6)=>.jn 4 0 (fun (j8,j9)=>⟨[(0,.t (.str a0)),(4,.ptr 30000 0),(5,tI r2.1),(6,.own 6),(7,tI v6),(23,tB j9)],[(6,aD j8),(30000,.box [.t (.str v3),tB v4])]⟩) (.ite 0 (decide (v6<r2.1)) (.ret 5 (v5,decide (v6<=((a0:ByteArray).size:Int)))) (.ret 5 (v5,false))) fun (j8,j9)=>.ite 0 j9 (.ch 1 [] (uD (aJ.mk v3 v4)) fun r10=>.ch 4 [] (Uy (aJ.mk r10.2.1 r10.2.2)) fun r11=>.ca 0 (aVF r11.1) fun r12=>.ite 7 (!r12.2) (.cv 2 [.sl 2 (eL aK ([]:LD))] <| .ret 0 (.inr (.inr (([]:LD),false)))) (.ch 4 [] (uD (aJ.mk r11.2.1 r11.2.2)) fun r13=>.bs 4 false aK [(aC.mk r10.1 r12.1 r13.1)] <| .grd 1 ((j8.length+[(aC.mk r10.1 r12.1 r13.1)].length)*40<=140737488355328) <| .cv 0 [.ap 45 aK j8 [(aC.mk r10.1 r12.1 r13.1)]] <| .cv 4 [.rn 45 6] <| .ret 0 (.inl (r13.2.1,r13.2.2,j8++[(aC.mk r10.1 r12.1 r13.1)],i64.wrap (v6+1))))) (.ret 0 (.inr (.inl j8)))
def T74(a0:ByteArray):TP (LD×Bool):=.ch 3 [40000] (Gd a0) fun r1=>.cv 0 [.rn 40000 12] <| .cv 2 [.rn 12 30000] <| .ch 0 [] (Lt r1) fun r2=>.cv 3 [.th 6 6 50 3 (eF aK ([]:LD))] <| .lp 0 (fun (v3,v4,v5,v6)=>⟨[(0,.t (.str a0)),(4,.ptr 30000 0),(5,tI r2.1),(6,.own 6),(7,tI v6)],[(6,aD v5),(30000,.box [.t (.str v3),tB v4])]⟩) (fun b7=>⟨[(0,.t (.str a0)),(6,.own 6)],[(6,aD b7)]⟩) 0 (r2.2.1,r2.2.2,([]:LD),0) (Bu a0 r2) fun b7=>.ca 1 (aYY b7) fun r14=>.jn 2 0 (fun (j15,j16)=>⟨[(6,.own 6),(54,tB j16)],[(6,aD j15)]⟩) (.ite 0 (!r14) (.ret 5 (b7,true)) (.ca 1 (aOS b7) fun r17=>.ret 3 (b7,!((r17:ByteArray).toList==(a0:ByteArray).toList)))) fun (j15,j16)=>.ite 0 j16 (.cv 2 [.sl 2 (eL aK ([]:LD))] <| .ret 0 (([]:LD),false)) (.cv 3 [.fr 6 (eL aK j15)] <| .ret 0 (j15,true))
def G74(a0:ByteArray):=(T74 a0).den
theorem bGE(a0:ByteArray):Con Tryz.prog 113 [.t (.str a0)] (G74 a0) (fun y=>.tup [tD y.1,tB y.2]):=con Tryz.func113 aR (T74 a0)
def Hk(r1:LD):Int->TP ((Int)⊕((Unit)⊕Bool))
 | v2=>.ite 4 (decide (v2<r1.length)) (.grd 3 (0<=v2/\v2<r1.length) <| .ite 3 (decide (((r1.getD v2.toNat default).N)<0)) (.ret 1 (.inr (.inr false))) (.ret 3 (.inl (i64.wrap (v2+1))))) (.ret 0 (.inr (.inl ())))
def T77(a0:LD):TP Bool:=.ca 2 (xX a0) fun r1=>.lp 2 (fun v2=>⟨[(3,tD r1),(4,tI v2)],[]⟩) (fun _=>⟨[],[]⟩) 0 0 (Hk r1) fun _=>.ret 1 true
def G77(a0:LD):=(T77 a0).den
theorem bDT(a0:LD):Con Tryz.prog 114 [tD a0] (G77 a0) tB:=con Tryz.func114 aR (T77 a0)
def aPQ(qu0:aJ):TP (ByteArray×ByteArray):=.ret 12 (qu0.Rest,⟨#[]⟩)
def Yo(qu0:aJ):=(aPQ qu0).den
theorem aHS(qu0:aJ):dD Tryz.prog 112 [.ptr 30000 0] [(30000,.box ((bT qu0).map .t))] [30000] (Yo qu0) (fun y=>.t (.str (y.1))) (fun y=>[(30000,.box [.t (.str (y.2)),tB qu0.Bad])]):=eC Tryz.func112 aR (aPQ qu0)
def qE(a0:List aI)(a1:aG)(r2:Int×ByteArray×Bool)(r4:LD×Bool)(r8:Int×Int):Int->TP ((Int)⊕((Unit)⊕((Unit)⊕bU)))
 | v9=>.ite 4 (decide (v9<r4.1.length)) (.grd 3 (0<=v9/\v9<r4.1.length) <| .jn 4 0 (fun j10=>⟨[(0,.t (eL aV a0)),(4,.ptr 4 0),(9,tI r2.1),(11,tD r4.1),(13,tI r8.1),(15,tI v9),(90,tB j10)],[(4,bN a1)]⟩) (.ite 0 (decide (((r4.1.getD v9.toNat default).Time)<0)) (.ret 22 true) (.grd 3 (0<=v9/\v9<r4.1.length) <| .ite 5 (decide (((r4.1.getD v9.toNat default).Time)>2199023255552)) (.ret 14 true) (.ite 3 (decide (r2.1>=0)) (.grd 3 (0<=v9/\v9<r4.1.length) <| .ret 8 (decide (((r4.1.getD v9.toNat default).Time)<=(i64.wrap (r2.1-r8.1))))) (.ret 11 false)))) fun j10=>.ite 0 j10 (.ret 2 (.inr (.inr (.inl ())))) (.ret 3 (.inl (i64.wrap (v9+1))))) (.ret 0 (.inr (.inl ())))
def Qd(a0:List aI)(a1:aG)(a2:ByteArray):TP ((Unit)⊕bU):=.ch 4 [40000] (Gd a2) fun r1=>.cv 0 [.rn 40000 18] <| .cv 2 [.rn 18 30000] <| .ch 0 [] (uD r1) fun r2=>.ch 2 [] (aHS (aJ.mk r2.2.1 r2.2.2)) fun r3=>.ca 2 (bGE r3.1) fun r4=>.jn 8 0 (fun j5=>⟨[(0,.t (eL aV a0)),(4,.ptr 4 0),(9,tI r2.1),(11,tD r4.1),(50,tB j5)],[(4,bN a1)]⟩) (.ite 0 (!r4.2) (.ret 20 true) (.ite 4 (decide (r2.1<(-1))) (.ret 16 true) (.ite 4 (decide (r2.1>4398046511104)) (.ret 12 true) (.ca 1 (bDT r4.1) fun r6=>.ite 3 (!r6) (.ret 7 true) (.ca 1 (sL r2.1) fun r7=>.grd 2 (((r7.size+r3.1.size:Nat):Int)<=9223372036854775807) <| .ret 3 (!((r7++r3.1:ByteArray).toList==(a2:ByteArray).toList))))))) fun j5=>.ite 0 j5 (.ret 2 (.inl ())) (.ca 1 (aLA a1) fun r8=>.lp 6 (fun v9=>⟨[(0,.t (eL aV a0)),(4,.ptr 4 0),(9,tI r2.1),(11,tD r4.1),(13,tI r8.1),(15,tI v9)],[(4,bN a1)]⟩) (fun _=>⟨[(0,.t (eL aV a0)),(4,.ptr 4 0),(9,tI r2.1),(11,tD r4.1)],[(4,bN a1)]⟩) 0 0 (qE a0 a1 r2 r4 r8) fun _=>.ch 2 [40000] (Kc a0 a1) fun r11=>.cv 0 [.rn 40000 93] <| .cv 14 [.rn 93 40000] <| .ret 0 (.inr (bU.mk r11.Funcs r11.N r4.1 r2.1)))
def Gu(a0:List aI)(a1:aG)(a2:ByteArray):=(Qd a0 a1 a2).den
theorem aIR(a0:List aI)(a1:aG)(a2:ByteArray):dD Tryz.prog 48 [.t (eL aV a0),.t (fM a1),.t (.str a2)] [] [] (Gu a0 a1 a2) (sel (fun y=>.tup [.np,tB false]) (fun y=>.tup [.ptr 40000 0,tB true])) (sel (fun y=>[]) (fun y=>[(40000,.box ((eG y).map .t))])):=eC Tryz.func48 aR (Qd a0 a1 a2)
def bBQ(a0:ByteArray):TP bW:=.cv 5 [.rn 5 40000] <| .ret 0 (bW.mk a0 false)
def Gx(a0:ByteArray):=(bBQ a0).den
theorem Ia(a0:ByteArray):dD Tryz.prog 115 [.t (.str a0)] [] [] (Gx a0) (fun y=>.ptr 40000 0) (fun y=>[(40000,.box ((fX y).map .t))]):=eC Tryz.func115 aR (bBQ a0)
def aLU(qu0:bW):TP (ByteArray×Bool):=.ret 8 (⟨#[]⟩,true)
def aRQ(qu0:bW):=(aLU qu0).den
theorem pJ(qu0:bW):dD Tryz.prog 258 [.ptr 30000 0] [(30000,.box ((fX qu0).map .t))] [30000] (aRQ qu0) (fun y=>.tup []) (fun y=>[(30000,.box [.t (.str (y.1)),tB y.2])]):=eC Tryz.func258 aR (aLU qu0)
def Rn(a1:Int)(a2:Int)(qu0:bW):TP (Int×ByteArray×Bool):=.dg 10 (0<=(0:Int)/\(0:Int)<=(if (21:Int)<(qu0.rest_:ByteArray).size then (21:Int) else ((qu0.rest_:ByteArray).size:Int))/\(if (21:Int)<(qu0.rest_:ByteArray).size then (21:Int) else ((qu0.rest_:ByteArray).size:Int))<=(qu0.rest_.size:Int)) <| .dr 1 0 [(30000,false,[])] [0,1,2,6] <| .ca 2 (aXM (qu0.rest_.extract (0:Int).toNat (if (21:Int)<(qu0.rest_:ByteArray).size then (21:Int) else ((qu0.rest_:ByteArray).size:Int)).toNat) a1) fun r1=>.ite 3 (decide (r1<0)) (.ch 1 [] (pJ qu0) fun r2=>.ret 1 (0,r2.1,r2.2)) (.grd 3 (0<=(0:Int)/\(0:Int)<=r1/\r1<=((qu0.rest_.extract (0:Int).toNat (if (21:Int)<(qu0.rest_:ByteArray).size then (21:Int) else ((qu0.rest_:ByteArray).size:Int)).toNat).size:Int)) <| .ch 0 [] (bEU ((qu0.rest_.extract (0:Int).toNat (if (21:Int)<(qu0.rest_:ByteArray).size then (21:Int) else ((qu0.rest_:ByteArray).size:Int)).toNat).extract (0:Int).toNat r1.toNat)) (sel (fun r3=>.jn 5 0 (fun j5=>⟨[(0,.ptr 30000 0),(8,tI r1),(9,tI r3),(50,tB j5)],[(30000,.box ((fX qu0).map .t))]⟩) (.dc 4 [tI r3] (Nm r3) fun r6=>.dg 7 (0<=(0:Int)/\(0:Int)<=r1/\r1<=((qu0.rest_.extract (0:Int).toNat (if (21:Int)<(qu0.rest_:ByteArray).size then (21:Int) else ((qu0.rest_:ByteArray).size:Int)).toNat).size:Int)) <| .dl 10 (!((r6:ByteArray).toList==((qu0.rest_.extract (0:Int).toNat (if (21:Int)<(qu0.rest_:ByteArray).size then (21:Int) else ((qu0.rest_:ByteArray).size:Int)).toNat).extract (0:Int).toNat r1.toNat:ByteArray).toList)) (.dr 0 0 [(30000,false,[])] [0,1,2,6,7,8,9,10,11,12,13,14,15,16,17,18,19,20,21,22,23,24,25,26,29,30,31,32,33,34,35] <| .ret 0 true) (.dr 0 0 [(30000,false,[])] [0,1,2,6,7,8,9,10,11,12,13,14,15,16,17,18,19,20,21,22,23,24,25,26,29,30,31,32,33,34,35] <| .ret 0 (decide (r3<a2)))) fun j5=>.ite 0 j5 (.ch 1 [] (pJ qu0) fun r7=>.ret 1 (0,r7.1,r7.2)) (.grd 8 (0<=(i64.wrap (r1+1):Int)/\(i64.wrap (r1+1):Int)<=(qu0.rest_.size:Int)/\(qu0.rest_.size:Int)<=(qu0.rest_.size:Int)) <| .ret 5 (r3,qu0.rest_.extract (i64.wrap (r1+1):Int).toNat (qu0.rest_.size:Int).toNat,qu0.bad_))) (fun r4=>.dr 5 0 [(30000,false,[])] [0,1,2,6,7,8,9,10,11,12,13,14,15,16,17,18,19,20,21,22,23,24,25,26,29,30,31,32,33,34,35] <| .ch 2 [] (pJ qu0) fun r8=>.ret 1 (0,r8.1,r8.2))))
def Ef(a1:Int)(a2:Int)(qu0:bW):=(Rn a1 a2 qu0).den
theorem Aj(a1:Int)(a2:Int)(qu0:bW):dD Tryz.prog 204 [.ptr 30000 0,.t (.int .u8 a1),tI a2] [(30000,.box ((fX qu0).map .t))] [30000] (Ef a1 a2 qu0) (fun y=>tI y.1) (fun y=>[(30000,.box [.t (.str (y.2.1)),tB y.2.2])]):=eC Tryz.func204 aR (Rn a1 a2 qu0)
def Po(qu0:bW):TP (Int×ByteArray×Bool):=.ch 2 [] (Aj 59 0 qu0) fun r1=>.ret 1 (r1.1,r1.2.1,r1.2.2)
def Fh(qu0:bW):=(Po qu0).den
theorem Kd(qu0:bW):dD Tryz.prog 205 [.ptr 30000 0] [(30000,.box ((fX qu0).map .t))] [30000] (Fh qu0) (fun y=>tI y.1) (fun y=>[(30000,.box [.t (.str (y.2.1)),tB y.2.2])]):=eC Tryz.func205 aR (Po qu0)
def aKF(qu0:bW):TP Int:=.ret 7 ((qu0.rest_:ByteArray).size:Int)
def aAX(qu0:bW):=(aKF qu0).den
theorem aGF(qu0:bW):dD Tryz.prog 260 [.ptr 30000 0] [(30000,.box ((fX qu0).map .t))] [30000] (aAX qu0) tI (fun y=>[(30000,.box ((fX qu0).map .t))]):=eC Tryz.func260 aR (aKF qu0)
def aEH(qu0:bW):TP (Int×ByteArray×Bool):=.ch 2 [] (Aj 59 (-9223372036854775808) qu0) fun r1=>.ret 1 (r1.1,r1.2.1,r1.2.2)
def Wg(qu0:bW):=(aEH qu0).den
theorem tC(qu0:bW):dD Tryz.prog 116 [.ptr 30000 0] [(30000,.box ((fX qu0).map .t))] [30000] (Wg qu0) (fun y=>tI y.1) (fun y=>[(30000,.box [.t (.str (y.2.1)),tB y.2.2])]):=eC Tryz.func116 aR (aEH qu0)
def aTT(a0:ByteArray)(a1:ByteArray):TP Bool:=.jn 7 0 (fun j1=>⟨[(4,tB j1)],[]⟩) (.ite 0 (decide (((a0:ByteArray).size:Int)>=((a1:ByteArray).size:Int))) (.grd 4 (0<=(0:Int)/\(0:Int)<=((a1:ByteArray).size:Int)/\((a1:ByteArray).size:Int)<=(a0.size:Int)) <| .ret 4 ((a0.extract (0:Int).toNat ((a1:ByteArray).size:Int).toNat:ByteArray).toList==(a1:ByteArray).toList)) (.ret 8 false)) fun j1=>.ret 0 j1
def aQY(a0:ByteArray)(a1:ByteArray):=(aTT a0 a1).den
theorem aZV(a0:ByteArray)(a1:ByteArray):Con Tryz.prog 343 [.t (.str a0),.t (.str a1)] (aQY a0 a1) tB:=con Tryz.func343 aR (aTT a0 a1)
def aZI(a0:ByteArray)(a1:ByteArray):TP (ByteArray×Bool):=.ca 4 (aZV a0 a1) fun r1=>.ite 1 (!r1) (.ret 3 (a0,false)) (.grd 4 (0<=(((a1:ByteArray).size:Int):Int)/\(((a1:ByteArray).size:Int):Int)<=(a0.size:Int)/\(a0.size:Int)<=(a0.size:Int)) <| .ret 2 (a0.extract (((a1:ByteArray).size:Int):Int).toNat (a0.size:Int).toNat,true))
def aZM(a0:ByteArray)(a1:ByteArray):=(aZI a0 a1).den
theorem aWJ(a0:ByteArray)(a1:ByteArray):Con Tryz.prog 319 [.t (.str a0),.t (.str a1)] (aZM a0 a1) (fun y=>.tup [.t (.str (y.1)),tB y.2]):=con Tryz.func319 aR (aZI a0 a1)
def aTJ(a0:ByteArray)(a1:ByteArray):TP (ByteArray×Bool):=.ca 4 (aWJ a0 a1) fun r1=>.ret 4 (r1.1,r1.2)
def aQW(a0:ByteArray)(a1:ByteArray):=(aTJ a0 a1).den
theorem aZL(a0:ByteArray)(a1:ByteArray):Con Tryz.prog 290 [.t (.str a0),.t (.str a1)] (aQW a0 a1) (fun y=>.tup [.t (.str (y.1)),tB y.2]):=con Tryz.func290 aR (aTJ a0 a1)
def Py(a1:ByteArray)(qu0:bW):TP (ByteArray×Bool):=.ca 5 (aZL qu0.rest_ a1) fun r1=>.jn 12 0 (fun (j2,j3)=>⟨[],[(30000,.box [.t (.str j2),tB j3])]⟩) (.ite 0 (!r1.2) (.ch 1 [] (pJ (bW.mk r1.1 qu0.bad_)) fun r4=>.ret 0 (r4.1,r4.2)) (.ret 0 (r1.1,qu0.bad_))) fun (j2,j3)=>.ret 0 (j2,j3)
def Fe(a1:ByteArray)(qu0:bW):=(Py a1 qu0).den
theorem aHK(a1:ByteArray)(qu0:bW):dD Tryz.prog 263 [.ptr 30000 0,.t (.str a1)] [(30000,.box ((fX qu0).map .t))] [30000] (Fe a1 qu0) (fun y=>.tup []) (fun y=>[(30000,.box [.t (.str (y.1)),tB y.2])]):=eC Tryz.func263 aR (Py a1 qu0)
def aES(qu0:bW):TP (ByteArray×ByteArray×Bool):=.ch 2 [] (Aj 58 0 qu0) fun r1=>.ite 8 (decide (r1.1>((r1.2.1:ByteArray).size:Int))) (.ch 1 [] (pJ (bW.mk r1.2.1 r1.2.2)) fun r2=>.ret 1 (⟨#[]⟩,r2.1,r2.2)) (.grd 6 (0<=(0:Int)/\(0:Int)<=r1.1/\r1.1<=(r1.2.1.size:Int)) <| .grd 8 (0<=(r1.1:Int)/\(r1.1:Int)<=(r1.2.1.size:Int)/\(r1.2.1.size:Int)<=(r1.2.1.size:Int)) <| .ch 4 [] (aHK (⟨#[44]⟩) (bW.mk (r1.2.1.extract (r1.1:Int).toNat (r1.2.1.size:Int).toNat) r1.2.2)) fun r3=>.ite 4 (r3.2) (.ret 1 (⟨#[]⟩,r3.1,r3.2)) (.ret 2 (r1.2.1.extract (0:Int).toNat (r1.1).toNat,r3.1,r3.2)))
def Td(qu0:bW):=(aES qu0).den
theorem Un(qu0:bW):dD Tryz.prog 207 [.ptr 30000 0] [(30000,.box ((fX qu0).map .t))] [30000] (Td qu0) (fun y=>.t (.str (y.1))) (fun y=>[(30000,.box [.t (.str (y.2.1)),tB y.2.2])]):=eC Tryz.func207 aR (aES qu0)
def Qt(qu0:bW):TP (aE×ByteArray×Bool):=.ch 2 [] (tC qu0) fun r1=>.ch 1 [] (tC (bW.mk r1.2.1 r1.2.2)) fun r2=>.ch 4 [] (Un (bW.mk r2.2.1 r2.2.2)) fun r3=>.ret 4 ((aE.mk r1.1 r2.1 r3.1),r3.2.1,r3.2.2)
def Fc(qu0:bW):=(Qt qu0).den
theorem aGO(qu0:bW):dD Tryz.prog 261 [.ptr 30000 0] [(30000,.box ((fX qu0).map .t))] [30000] (Fc qu0) (fun y=>.t (cH y.1)) (fun y=>[(30000,.box [.t (.str (y.2.1)),tB y.2.2])]):=eC Tryz.func261 aR (Qt qu0)
def aCY(qu0:bW):TP Bool:=.jn 7 0 (fun j1=>⟨[(2,tB j1)],[(30000,.box ((fX qu0).map .t))]⟩) (.ite 0 (!qu0.bad_) (.ret 7 ((qu0.rest_:ByteArray).toList==(⟨#[]⟩:ByteArray).toList)) (.ret 7 false)) fun j1=>.ret 0 j1
def aBP(qu0:bW):=(aCY qu0).den
theorem aNU(qu0:bW):dD Tryz.prog 262 [.ptr 30000 0] [(30000,.box ((fX qu0).map .t))] [30000] (aBP qu0) tB (fun y=>[(30000,.box ((fX qu0).map .t))]):=eC Tryz.func262 aR (aCY qu0)
def vL:(ByteArray×Bool×(List aE)×Int)->TP ((ByteArray×Bool×(List aE)×Int)⊕((ByteArray×Bool×(List aE))⊕((List aE)×Bool)))
 | (v3,v4,v5,v6)=>.ite 2 (decide (v6>0)) (.ch 1 [] (aGF (bW.mk v3 v4)) fun r10=>.ite 1 (r10==0) (.cv 2 [.sl 2 (eL bA ([]:List aE))] <| .ret 0 (.inr (.inr (([]:List aE),false)))) (.ch 2 [] (aGO (bW.mk v3 v4)) fun r11=>.bs 0 false bA [r11.1] <| .grd 1 ((v5.length+[r11.1].length)*32<=140737488355328) <| .cv 0 [.ap 22 bA v5 [r11.1]] <| .cv 4 [.rn 22 5] <| .ret 0 (.inl (r11.2.1,r11.2.2,v5++[r11.1],i64.wrap (v6-1))))) (.ret 0 (.inr (.inl (v3,v4,v5))))
def aSU(a0:ByteArray):TP ((List aE)×Bool):=.ch 3 [40000] (Ia a0) fun r1=>.cv 0 [.rn 40000 8] <| .cv 3 [.rn 8 30000] <| .ch 0 [] (Kd r1) fun r2=>.cv 1 [.th 5 5 67 3 (eF bA ([]:List aE))] <| .lp 0 (fun (v3,v4,v5,v6)=>⟨[(4,.ptr 30000 0),(5,.own 5),(6,tI v6)],[(5,.arr 67 3 (v5.length) (eF bA v5)),(30000,.box [.t (.str v3),tB v4])]⟩) (fun (b7,b8,b9)=>⟨[(4,.ptr 30000 0),(5,.own 5)],[(5,.arr 67 3 (b9.length) (eF bA b9)),(30000,.box [.t (.str b7),tB b8])]⟩) 0 (r2.2.1,r2.2.2,([]:List aE),r2.1) vL fun (b7,b8,b9)=>.ch 1 [] (aNU (bW.mk b7 b8)) fun r12=>.ite 1 (!r12) (.cv 2 [.sl 2 (eL bA ([]:List aE))] <| .ret 0 (([]:List aE),false)) (.cv 3 [.fr 5 (eL bA b9)] <| .ret 0 (b9,true))
def aLV(a0:ByteArray):=(aSU a0).den
theorem aWQ(a0:ByteArray):Con Tryz.prog 206 [.t (.str a0)] (aLV a0) (fun y=>.tup [tV y.1,tB y.2]):=con Tryz.func206 aR (aSU a0)
def zA(a0:LD):Int->TP ((Int)⊕((Unit)⊕Bool))
 | v1=>.ite 1 (decide (v1<a0.length)) (.grd 2 (0<=v1/\v1<a0.length) <| .jn 4 0 (fun j2=>⟨[(0,tD a0),(5,tD a0),(6,tI (a0.length:Int)),(7,tI v1),(28,tB j2)],[]⟩) (.dl 3 (((a0.getD v1.toNat default).N)==0) (.dr 0 0 [(4,false,[])] [0,3,4,5,6,7,8,9,10,11] <| .ret 0 true) (.dl 6 (decide (v1>0)) (.dg 10 (0<=(i64.wrap (v1-1))/\(i64.wrap (v1-1))<a0.length) <| .dc 13 [.t (cO (a0.getD (i64.wrap (v1-1)).toNat default)),.t (cO (a0.getD v1.toNat default))] (wR (a0.getD (i64.wrap (v1-1)).toNat default) (a0.getD v1.toNat default)) fun r3=>.dr 0 0 [(4,false,[])] [0,3,4,5,6,7,8,9,10,11] <| .ret 0 (decide (r3>=0))) (.dr 0 0 [(4,false,[])] [0,3,4,5,6,7,8,9,10,11] <| .ret 0 false))) fun j2=>.ite 0 j2 (.ret 1 (.inr (.inr false))) (.ret 2 (.inl (i64.wrap (v1+1))))) (.ret 0 (.inr (.inl ())))
def aTK(a0:LD):TP Bool:=.lp 4 (fun v1=>⟨[(0,tD a0),(5,tD a0),(6,tI (a0.length:Int)),(7,tI v1)],[]⟩) (fun _=>⟨[],[]⟩) 0 0 (zA a0) fun _=>.ret 1 true
def aME(a0:LD):=(aTK a0).den
theorem aVT(a0:LD):Con Tryz.prog 54 [tD a0] (aME a0) tB:=con Tryz.func54 aR (aTK a0)
def Bj(a0:ByteArray)(r2:Int×ByteArray×Bool):(ByteArray×Bool×LD×Int)->TP ((ByteArray×Bool×LD×Int)⊕((LD)⊕(LD×Bool)))
 | (v3,v4,v5,v6)=>.ite 1 (decide (v6<(if ((a0:ByteArray).size:Int)<r2.1 then ((a0:ByteArray).size:Int) else r2.1))) (.ch 1 [] (tC (bW.mk v3 v4)) fun r8=>.ch 5 [] (Un (bW.mk r8.2.1 r8.2.2)) fun r9=>.ca 0 (aWQ r9.1) fun r10=>.ite 8 (!r10.2) (.cv 2 [.sl 2 (eL aK ([]:LD))] <| .ret 0 (.inr (.inr (([]:LD),false)))) (.ch 1 [] (tC (bW.mk r9.2.1 r9.2.2)) fun r11=>.bs 4 false aK [(aC.mk r8.1 r10.1 r11.1)] <| .grd 1 ((v5.length+[(aC.mk r8.1 r10.1 r11.1)].length)*40<=140737488355328) <| .cv 0 [.ap 35 aK v5 [(aC.mk r8.1 r10.1 r11.1)]] <| .cv 3 [.rn 35 5] <| .ret 0 (.inl (r11.2.1,r11.2.2,v5++[(aC.mk r8.1 r10.1 r11.1)],i64.wrap (v6+1))))) (.ret 0 (.inr (.inl v5)))
def T67(a0:ByteArray):TP (LD×Bool):=.ch 3 [40000] (Ia a0) fun r1=>.cv 0 [.rn 40000 9] <| .cv 3 [.rn 9 30000] <| .ch 0 [] (Kd r1) fun r2=>.cv 4 [.th 5 5 50 3 (eF aK ([]:LD))] <| .lp 0 (fun (v3,v4,v5,v6)=>⟨[(0,.t (.str a0)),(4,.ptr 30000 0),(5,.own 5),(14,tI (if ((a0:ByteArray).size:Int)<r2.1 then ((a0:ByteArray).size:Int) else r2.1)),(15,tI v6)],[(5,aD v5),(30000,.box [.t (.str v3),tB v4])]⟩) (fun b7=>⟨[(0,.t (.str a0)),(5,.own 5)],[(5,aD b7)]⟩) 0 (r2.2.1,r2.2.2,([]:LD),0) (Bj a0 r2) fun b7=>.ca 1 (aVT b7) fun r12=>.jn 2 0 (fun (j13,j14)=>⟨[(5,.own 5),(45,tB j14)],[(5,aD j13)]⟩) (.ite 0 (!r12) (.ret 5 (b7,true)) (.ca 1 (aQU b7) fun r15=>.ret 3 (b7,!((r15:ByteArray).toList==(a0:ByteArray).toList)))) fun (j13,j14)=>.ite 0 j14 (.cv 2 [.sl 2 (eL aK ([]:LD))] <| .ret 0 (([]:LD),false)) (.cv 3 [.fr 5 (eL aK j13)] <| .ret 0 (j13,true))
def G67(a0:ByteArray):=(T67 a0).den
theorem bCE(a0:ByteArray):Con Tryz.prog 118 [.t (.str a0)] (G67 a0) (fun y=>.tup [tD y.1,tB y.2]):=con Tryz.func118 aR (T67 a0)
def bJV(a0:aC):TP Bool:=.ret 6 (decide (a0.N<0))
def bJL(a0:aC):=(bJV a0).den
theorem aWT(a0:aC):Con Tryz.prog 208 [.t (cO a0)] (bJL a0) tB:=con Tryz.func208 aR (bJV a0)
def Lp(a0:LD):Int->TP ((Int)⊕((Unit)⊕Int))
 | v1=>.ite 1 (decide (v1<a0.length)) (.grd 6 (0<=v1/\v1<a0.length) <| .ca 1 (aWT (a0.getD v1.toNat default)) fun r2=>.ite 0 r2 (.ret 2 (.inr (.inr v1))) (.ret 2 (.inl (i64.wrap (v1+1))))) (.ret 0 (.inr (.inl ())))
def Yy(a0:LD):TP Int:=.lp 4 (fun v1=>⟨[(0,tD a0),(1,.fn (.func 208) 0 []),(7,tI (a0.length:Int)),(8,tI v1)],[]⟩) (fun _=>⟨[],[]⟩) 0 0 (Lp a0) fun _=>.ret 1 (-1)
def Zg(a0:LD):=(Yy a0).den
theorem aHV(a0:LD):dD Tryz.prog 165 [tD a0,.fn (.func 208) 0 []] [] [] (Zg a0) tI (fun y=>[]):=eC Tryz.func165 aR (Yy a0)
def Wn(a0:LD):TP Bool:=.ch 3 [] (aHV a0) fun r1=>.ret 2 (decide (r1>=0))
def aKH(a0:LD):=(Wn a0).den
theorem aFW(a0:LD):dD Tryz.prog 120 [tD a0,.fn (.func 208) 0 []] [] [] (aKH a0) tB (fun y=>[]):=eC Tryz.func120 aR (Wn a0)
def T69(a0:LD):TP Bool:=.ca 2 (Br a0) fun r1=>.ch 0 [] (aFW r1) fun r2=>.ret 2 (!r2)
def G69(a0:LD):=(T69 a0).den
theorem bDU(a0:LD):Con Tryz.prog 119 [tD a0] (G69 a0) tB:=con Tryz.func119 aR (T69 a0)
def aML(qu0:bW):TP (ByteArray×ByteArray):=.ret 12 (qu0.rest_,⟨#[]⟩)
def Yj(qu0:bW):=(aML qu0).den
theorem aHU(qu0:bW):dD Tryz.prog 117 [.ptr 30000 0] [(30000,.box ((fX qu0).map .t))] [30000] (Yj qu0) (fun y=>.t (.str (y.1))) (fun y=>[(30000,.box [.t (.str (y.2)),tB qu0.bad_])]):=eC Tryz.func117 aR (aML qu0)
def Of(a0:aC)(qv0:Int)(qw0:List aI)(qw1:aG)(qw2:Int)(qwm:LM):TP Bool:=.jn 2 0 (fun j1=>⟨[(4,tB j1)],[(30000,.box [.ptr 30002 0]),(30001,.box (([.int .i64 qv0]).map .t)),(30002,bP qw0 qw1 30003 qw2),(30003,pD qwm)]⟩) (.dl 3 (decide (a0.Time<0)) (.dr 0 0 [(3,false,[]),(30000,false,[]),(30001,false,[]),(30002,false,[]),(30003,false,[])] [0,1,2,3] <| .ret 0 true) (.dl 8 (decide (a0.Time>2199023255552)) (.dr 0 0 [(3,false,[]),(30000,false,[]),(30001,false,[]),(30002,false,[]),(30003,false,[])] [0,1,2,3] <| .ret 0 true) (.dl 14 (decide (qw2>=0)) (.dr 0 0 [(3,false,[]),(30000,false,[]),(30001,false,[]),(30002,false,[]),(30003,false,[])] [0,1,2,3] <| .ret 0 (decide (a0.Time<=(i64.wrap (qw2-qv0))))) (.dr 0 0 [(3,false,[]),(30000,false,[]),(30001,false,[]),(30002,false,[]),(30003,false,[])] [0,1,2,3] <| .ret 0 false)))) fun j1=>.ret 0 j1
def Fv(a0:aC)(qv0:Int)(qw0:List aI)(qw1:aG)(qw2:Int)(qwm:LM):=(Of a0 qv0 qw0 qw1 qw2 qwm).den
theorem aJL(a0:aC)(qv0:Int)(qw0:List aI)(qw1:aG)(qw2:Int)(qwm:LM):dD Tryz.prog 121 [.t (cO a0),.ptr 30000 0,.ptr 30001 0] [(30000,.box [.ptr 30002 0]),(30001,.box (([.int .i64 qv0]).map .t)),(30002,bP qw0 qw1 30003 qw2),(30003,pD qwm)] [30000,30001,30002,30003] (Fv a0 qv0 qw0 qw1 qw2 qwm) tB (fun y=>[(30000,.box [.ptr 30002 0]),(30001,.box (([.int .i64 qv0]).map .t)),(30002,bP qw0 qw1 30003 qw2),(30003,pD qwm)]):=eC Tryz.func121 aR (Of a0 qv0 qw0 qw1 qw2 qwm)
def qC(a0:LD)(qv0:Int)(qw0:List aI)(qw1:aG)(qw2:Int)(qwm:LM):Int->TP ((Int)⊕((Unit)⊕Int))
 | v1=>.ite 1 (decide (v1<a0.length)) (.grd 6 (0<=v1/\v1<a0.length) <| .ch 1 [] (aJL (a0.getD v1.toNat default) qv0 qw0 qw1 qw2 qwm) fun r2=>.ite 0 r2 (.ret 2 (.inr (.inr v1))) (.ret 2 (.inl (i64.wrap (v1+1))))) (.ret 0 (.inr (.inl ())))
def Sb(a0:LD)(qv0:Int)(qw0:List aI)(qw1:aG)(qw2:Int)(qwm:LM):TP Int:=.lp 4 (fun v1=>⟨[(0,tD a0),(1,.fn (.func 121) 0 [.ptr 30000 0,.ptr 30001 0]),(7,tI (a0.length:Int)),(8,tI v1)],[(30000,.box [.ptr 30002 0]),(30001,.box (([.int .i64 qv0]).map .t)),(30002,bP qw0 qw1 30003 qw2),(30003,pD qwm)]⟩) (fun _=>⟨[],[(30000,.box [.ptr 30002 0]),(30001,.box (([.int .i64 qv0]).map .t)),(30002,bP qw0 qw1 30003 qw2),(30003,pD qwm)]⟩) 0 0 (qC a0 qv0 qw0 qw1 qw2 qwm) fun _=>.ret 1 (-1)
def Qw(a0:LD)(qv0:Int)(qw0:List aI)(qw1:aG)(qw2:Int)(qwm:LM):=(Sb a0 qv0 qw0 qw1 qw2 qwm).den
theorem aIB(a0:LD)(qv0:Int)(qw0:List aI)(qw1:aG)(qw2:Int)(qwm:LM):dD Tryz.prog 165 [tD a0,.fn (.func 121) 0 [.ptr 30000 0,.ptr 30001 0]] [(30000,.box [.ptr 30002 0]),(30001,.box (([.int .i64 qv0]).map .t)),(30002,bP qw0 qw1 30003 qw2),(30003,pD qwm)] [30000,30001,30002,30003] (Qw a0 qv0 qw0 qw1 qw2 qwm) tI (fun y=>[(30000,.box [.ptr 30002 0]),(30001,.box (([.int .i64 qv0]).map .t)),(30002,bP qw0 qw1 30003 qw2),(30003,pD qwm)]):=eC Tryz.func165 aR (Sb a0 qv0 qw0 qw1 qw2 qwm)
def Ox(a0:LD)(qv0:Int)(qw0:List aI)(qw1:aG)(qw2:Int)(qwm:LM):TP Bool:=.ch 3 [] (aIB a0 qv0 qw0 qw1 qw2 qwm) fun r1=>.ret 2 (decide (r1>=0))
def Ev(a0:LD)(qv0:Int)(qw0:List aI)(qw1:aG)(qw2:Int)(qwm:LM):=(Ox a0 qv0 qw0 qw1 qw2 qwm).den
theorem aIY(a0:LD)(qv0:Int)(qw0:List aI)(qw1:aG)(qw2:Int)(qwm:LM):dD Tryz.prog 120 [tD a0,.fn (.func 121) 0 [.ptr 30000 0,.ptr 30001 0]] [(30000,.box [.ptr 30002 0]),(30001,.box (([.int .i64 qv0]).map .t)),(30002,bP qw0 qw1 30003 qw2),(30003,pD qwm)] [30000,30001,30002,30003] (Ev a0 qv0 qw0 qw1 qw2 qwm) tB (fun y=>[(30000,.box [.ptr 30002 0]),(30001,.box (([.int .i64 qv0]).map .t)),(30002,bP qw0 qw1 30003 qw2),(30003,pD qwm)]):=eC Tryz.func120 aR (Ox a0 qv0 qw0 qw1 qw2 qwm)
def aJN(a1:List aE)(qw1:aG):((List aE)×Int)->TP (((List aE)×Int)⊕((List aE)⊕(List aE)))
 | (v1,v2)=>.ite 1 (decide (v2<qw1.Key.length)) (.grd 1 (0<=v2/\v2<qw1.Key.length) <| .grd 6 (0<=(qw1.Key.getD v2.toNat default)/\(qw1.Key.getD v2.toNat default)<a1.length) <| .bs 1 false bA [a1.getD (qw1.Key.getD v2.toNat default).toNat default] <| .grd 1 ((v1.length+[a1.getD (qw1.Key.getD v2.toNat default).toNat default].length)*32<=140737488355328) <| .cv 0 [.ap 32 bA v1 [a1.getD (qw1.Key.getD v2.toNat default).toNat default]] <| .cv 3 [.rn 32 5] <| .ret 0 (.inl (v1++[a1.getD (qw1.Key.getD v2.toNat default).toNat default],i64.wrap (v2+1)))) (.ret 0 (.inr (.inl v1)))
def aNC(a1:List aE)(qw0:List aI)(qw1:aG)(qw2:Int)(qwm:LM):TP (List aE):=.mks 8 bA 32 (0:Int) (i64.wrap ((qw1.Key.length:Int)+2)) <| .cv 8 [.rn 15 5] <| .lp 0 (fun (v1,v2)=>⟨[(1,tV a1),(5,.own 5),(20,.t (eL bK (qw1.Key))),(21,tI (qw1.Key.length:Int)),(22,tI v2)],[(5,.arr 67 3 (v1.length) (eF bA v1)),(30002,bP qw0 qw1 30003 qw2),(30003,pD qwm)]⟩) (fun b3=>⟨[(5,.own 5)],[(5,.arr 67 3 (b3.length) (eF bA b3)),(30002,bP qw0 qw1 30003 qw2),(30003,pD qwm)]⟩) 0 (([]:List aE),0) (aJN a1 qw1) fun b3=>.cv 2 [.fr 5 (eL bA b3)] <| .ret 0 b3
def bEV(a1:List aE)(qw0:List aI)(qw1:aG)(qw2:Int)(qwm:LM):=(aNC a1 qw0 qw1 qw2 qwm).den
theorem aGB(a1:List aE)(qw0:List aI)(qw1:aG)(qw2:Int)(qwm:LM):dD Tryz.prog 160 [.ptr 30002 0,tV a1] [(30002,bP qw0 qw1 30003 qw2),(30003,pD qwm)] [30002,30003] (bEV a1 qw0 qw1 qw2 qwm) (fun y=>tV y) (fun y=>[(30002,bP qw0 qw1 30003 qw2),(30003,pD qwm)]):=eC Tryz.func160 aR (aNC a1 qw0 qw1 qw2 qwm)
def Kl(a1:LD)(qw0:List aI)(qw1:aG)(qw2:Int)(qwm:LM):(LM×Int)->TP ((LM×Int)⊕((LM)⊕LM))
 | (v1,v2)=>.ite 1 (decide (v2<a1.length)) (.grd 1 (0<=v2/\v2<a1.length) <| .ch 6 [] (aGB ((a1.getD v2.toNat default).Row) qw0 qw1 qw2 qwm) fun r4=>.ca 0 (Nh r4) fun r5=>.lkr 5 50 3 (fun c:LD=>c.length) (fun c:LD=>eF aK c) ([]:LD) (v1:LM) r5 <| .bs 1 false aK [a1.getD v2.toNat default] <| .grd 1 ((((cB (v1:LM) r5).getD ([]:LD)).length+[a1.getD v2.toNat default].length)*40<=140737488355328) <| .cv 0 [.ap 28 aK ((cB (v1:LM) r5).getD ([]:LD)) [a1.getD v2.toNat default]] <| .upd 0 mR (mdel v1 r5:LM) r5 <| .cv 2 [.fw 9 28 50 3 (fun c:LD=>c.length) (fun c:LD=>eF aK c) (v1:LM) r5 (((cB (v1:LM) r5).getD ([]:LD))++[a1.getD v2.toNat default]:LD)] <| .ret 0 (.inl (mput v1 r5 (((cB (v1:LM) r5).getD ([]:LD))++[a1.getD v2.toNat default]:LD),i64.wrap (v2+1)))) (.ret 0 (.inr (.inl v1)))
def aPN(a1:LD)(qw0:List aI)(qw1:aG)(qw2:Int)(qwm:LM):TP LM:=.mk (K:=ByteArray) 1 mR <| .lp 4 (fun (v1,v2)=>⟨[(0,.ptr 30002 0),(5,.map 9),(10,tD a1),(11,tI (a1.length:Int)),(12,tI v2)],[(9,pR v1),(30002,bP qw0 qw1 30003 qw2),(30003,pD qwm)]⟩) (fun b3=>⟨[(5,.map 9)],[(9,pR b3),(30002,bP qw0 qw1 30003 qw2),(30003,pD qwm)]⟩) 0 (([]:LM),0) (Kl a1 qw0 qw1 qw2 qwm) fun b3=>.cv 2 [.rn 9 40000] <| .ret 0 b3
def aLX(a1:LD)(qw0:List aI)(qw1:aG)(qw2:Int)(qwm:LM):=(aPN a1 qw0 qw1 qw2 qwm).den
theorem aID(a1:LD)(qw0:List aI)(qw1:aG)(qw2:Int)(qwm:LM):dD Tryz.prog 71 [.ptr 30002 0,tD a1] [(30002,bP qw0 qw1 30003 qw2),(30003,pD qwm)] [30002,30003] (aLX a1 qw0 qw1 qw2 qwm) (fun y=>.map 40000) (fun y=>[(30002,bP qw0 qw1 30003 qw2),(30003,pD qwm),(40000,pR y)]):=eC Tryz.func71 aR (aPN a1 qw0 qw1 qw2 qwm)
def Pg(a0:List aI)(a1:aG)(a2:ByteArray):TP ((Unit)⊕((List aI)×aG×Int×LM)):=.ch 5 [40000,41001] (Bc a0 a1) fun r1=>.cv 0 [.rn 40000 17,.rn 41001 16701,.fz 16701 50 3 (fun c:LD=>c.length) (fun c:LD=>eF aK c) vD (r1.2.2.2:LM)] <| .ch 3 [40000] (Ia a2) fun r2=>.cv 0 [.rn 40000 19] <| .cv 1 [.rn 19 30000] <| .dch 2 [.ptr 30000 0] (tC r2) (fun r3=>some (30000,.box [.t (.str (r3.2.1)),tB r3.2.2])) fun r3=>.dr 0 0 [(4,false,[]),(8,false,[]),(17,false,[5]),(16701,false,[]),(30000,false,[2])] [0,1,2,4,6,7,8,9,15,16,17,18,19] <| .ch 1 [] (aHU (bW.mk r3.2.1 r3.2.2)) fun r4=>.ca 2 (bCE r4.1) fun r5=>.jn 8 0 (fun j6=>⟨[(4,.ptr 4 0),(8,.ptr 8 0),(11,tD r5.1),(63,tB j6)],[(4,bN a1),(8,.box [.ptr 17 0]),(17,bP r1.1 r1.2.1 16701 r3.1),(16701,.mp none (eM mD (r1.2.2.2:LM)) none)]⟩) (.ite 0 (!r5.2) (.ret 29 true) (.ca 4 (xT r3.1) fun r7=>.grd 2 (((r7.size+r4.1.size:Nat):Int)<=9223372036854775807) <| .ite 4 (!((r7++r4.1:ByteArray).toList==(a2:ByteArray).toList)) (.ret 18 true) (.ite 7 (decide (r3.1<(-1))) (.ret 11 true) (.ite 7 (decide (r3.1>4398046511104)) (.ret 4 true) (.ca 1 (bDU r5.1) fun r8=>.ret 2 (!r8)))))) fun j6=>.ite 0 j6 (.ret 2 (.inl ())) (.ca 1 (aSM a1) fun r9=>.cv 8 [.rn 8 30000] <| .cv 0 [.rn 13 30001] <| .cv 0 [.rn 17 30002] <| .cv 0 [.rn 16701 30003] <| .ch 0 [] (aIY r5.1 r9.1 r1.1 r1.2.1 r3.1 r1.2.2.2) fun r10=>.ite 0 r10 (.ret 2 (.inl ())) (.dcm 3 75 [.ptr 30002 0,tD r5.1] (aID r5.1 r1.1 r1.2.1 r3.1 r1.2.2.2) fun r11=>.dr 0 0 [(75,true,[3]),(4,false,[]),(30000,false,[]),(30001,false,[]),(30002,false,[6]),(30003,false,[])] [4,8,11,13,14,63,64,65,66,67,68,69,70,71] <| .cv 3 [.rn 30002 40000,.rn 75 41001] <| .ret 0 (.inr (r1.1,r1.2.1,r3.1,r11))))
def Hq(a0:List aI)(a1:aG)(a2:ByteArray):=(Pg a0 a1 a2).den
theorem Kg(a0:List aI)(a1:aG)(a2:ByteArray):dD Tryz.prog 49 [.t (eL aV a0),.t (fM a1),.t (.str a2)] [] [] (Hq a0 a1 a2) (sel (fun y=>.tup [.np,tB false]) (fun y=>.tup [.ptr 40000 0,tB true])) (sel (fun y=>[]) (fun y=>[(40000,bP y.1 y.2.1 41001 y.2.2.1),(41001,.mp none (eM mR (y.2.2.2:LM)) none)])):=eC Tryz.func49 aR (Pg a0 a1 a2)
def aCN(a0:List aI)(a1:aG)(a2:List Int)(a3:List aW)(a4:ByteArray)(r1:Bool)(r4:(List aI)×aG×Int×LM)(r5:bU):(LM×Int×LD×Int×Int)->TP ((LM×Int×LD×Int×Int)⊕((Unit)⊕Bool))
 | (v6,v7,v8,v9,v10)=>.ite 4 (decide (v10<a3.length)) (.grd 3 (0<=v10/\v10<a3.length) <| .pc 4 0 (fun ((j11,j12,j13,j14):LM×Int×LD×Int)=>⟨[(0,.t (eL aV a0)),(2,.t (eL bK a2)),(3,.t (eL bO a3)),(4,.t (.str a4)),(6,.ptr 6 0),(11,tB r1),(12,.ptr 30000 0),(13,.ptr 30002 0),(14,tI v10)],[(6,bN a1),(30000,bP r4.1 r4.2.1 30001 j12),(30001,pD j11),(30002,bQ r5 j13 j14)]⟩) (.ite 0 ((lG .i64 ((a3.getD v10.toNat default).Do) 1)==1) (.grd 4 (0<=v10/\v10<a3.length) <| .cv 2 [.rn 34 30000] <| .cv 0 [.rn 18401 30001] <| .ch 0 [] (Ld ((a3.getD v10.toNat default).C) r4.1 r4.2.1 v7 v6) fun r15=>.grd 4 (0<=v10/\v10<a3.length) <| .cv 2 [.rn 37 30002] <| .ch 0 [] (aIK ((a3.getD v10.toNat default).C) (bU.mk r5.Funcs r5.N v8 v9)) fun r16=>.ret 0 (.inl (r15.1,r15.2,r16.1,r16.2))) (.cv 0 [.rn 34 30000] <| .cv 0 [.rn 18401 30001] <| .cv 0 [.rn 37 30002] <| .dg 3 (0<=v10/\v10<a3.length) <| .dg 8 (0<=v10/\v10<a3.length) <| .dch 11 [.ptr 30000 0,tI ((a3.getD v10.toNat default).C),tD ((a3.getD v10.toNat default).L)] (uO ((a3.getD v10.toNat default).C) ((a3.getD v10.toNat default).L) r4.1 r4.2.1 v7 v6) (fun r18=>some (30001,.mp none (eM mD (r18.2:LM)) none)) fun r18=>.dg 15 (0<=v10/\v10<a3.length) <| .dch 18 [.ptr 30002 0,tD ((a3.getD v10.toNat default).L)] (aHO ((a3.getD v10.toNat default).L) (bU.mk r5.Funcs r5.N v8 v9)) (fun r19=>some (30002,bQ r5 r19.2 v9)) fun r19=>.dc 19 [tD r18.1,tD r19.1] (Wz r18.1 r19.1) fun r20=>.dr 0 0 [(6,false,[]),(30000,false,[]),(30001,false,[11]),(30002,false,[18])] [0,2,3,4,6,11,12,13,14,40,41,42,43,46,47,48,49,50,51,52] <| .ite 0 (!r20) (.ret 1 (.inr (.inr (.inr false)))) (.ret 0 (.inl (r18.2,v7,r19.2,v9))))) fun (j11,j12,j13,j14)=>.jn 0 0 (fun (j21,j22)=>⟨[(0,.t (eL aV a0)),(2,.t (eL bK a2)),(3,.t (eL bO a3)),(4,.t (.str a4)),(6,.ptr 6 0),(11,tB r1),(12,.ptr 30000 0),(13,.ptr 30002 0),(14,tI v10),(113,tB j22)],[(6,bN a1),(30000,bP r4.1 r4.2.1 30001 j12),(30001,pD j21),(30002,bQ r5 j13 j14)]⟩) (.dch 1 [.ptr 30000 0] (Bf r4.1 r4.2.1 j12 j11) (fun r23=>some (30001,.mp none (eM mD (r23.2:LM)) none)) fun r23=>.dc 6 [tD j13] (bIT j13) fun r24=>.dl 8 (r23.1 != r24) (.dr 0 0 [(6,false,[]),(30000,false,[]),(30001,false,[1]),(30002,false,[])] [0,2,3,4,6,11,12,13,14] <| .ret 0 (r23.2,true)) (.dch 10 [.ptr 30000 0] (Ka r4.1 r4.2.1 j12 r23.2) (fun _=>none) fun r25=>.dl 19 (!(r25==((j13.length:Int)==0))) (.dr 0 0 [(6,false,[]),(30000,false,[]),(30001,false,[1]),(30002,false,[])] [0,2,3,4,6,11,12,13,14] <| .ret 0 (r23.2,true)) (.dch 21 [.ptr 30000 0] (Jk r4.1 r4.2.1 j12 r23.2) (fun r26=>some (30001,.mp none (eM mD (r26.2:LM)) none)) fun r26=>.dch 23 [.ptr 30002 0] (Lv (bU.mk r5.Funcs r5.N j13 j14)) (fun _=>none) fun r27=>.dr 0 0 [(6,false,[]),(30000,false,[]),(30001,false,[1,21]),(30002,false,[])] [0,2,3,4,6,11,12,13,14] <| .ret 0 (r26.2,!((r26.1:ByteArray).toList==(r27:ByteArray).toList))))) fun (j21,j22)=>.ite 0 j22 (.ret 1 (.inr (.inr false))) (.cv 3 [.rn 30000 34,.rn 30001 18401,.rn 30002 37] <| .ret 0 (.inl (j21,j12,j13,j14,i64.wrap (v10+1))))) (.ret 0 (.inr (.inl ())))
def bDM(a0:List aI)(a1:aG)(a2:List Int)(a3:List aW)(a4:ByteArray):TP Bool:=.ca 2 aZR fun r1=>.ca 5 (aZE a0 a1 a2 a3 25) fun r2=>.jn 2 0 (fun j3=>⟨[(0,.t (eL aV a0)),(2,.t (eL bK a2)),(3,.t (eL bO a3)),(4,.t (.str a4)),(6,.ptr 6 0),(11,tB r1),(30,tB j3)],[(6,bN a1)]⟩) (.ite 0 (!r2) (.ret 4 true) (.ret 4 (decide (((a4:ByteArray).size:Int)>800)))) fun j3=>.ite 0 j3 (.ret 2 r1) (.ch 2 [40000,41001] (Bc a0 a1) fun r4=>.cv 0 [.rn 40000 34,.rn 41001 18401,.fz 18401 50 3 (fun c:LD=>c.length) (fun c:LD=>eF aK c) vD (r4.2.2.2:LM)] <| .ch 3 [40000] (Kc a0 a1) fun r5=>.cv 0 [.rn 40000 37] <| .lp 5 (fun (v6,v7,v8,v9,v10)=>⟨[(0,.t (eL aV a0)),(2,.t (eL bK a2)),(3,.t (eL bO a3)),(4,.t (.str a4)),(6,.ptr 6 0),(11,tB r1),(12,.ptr 34 0),(13,.ptr 37 0),(14,tI v10)],[(6,bN a1),(34,bP r4.1 r4.2.1 18401 v7),(37,bQ r5 v8 v9),(18401,pD v6)]⟩) (fun _=>⟨[(0,.t (eL aV a0)),(2,.t (eL bK a2)),(4,.t (.str a4)),(6,.ptr 6 0),(11,tB r1)],[(6,bN a1)]⟩) 0 (r4.2.2.2,r4.2.2.1,r5.L,r5.Closed,0) (aCN a0 a1 a2 a3 a4 r1 r4 r5) fun _=>.ch 3 [40000] (aIR a0 a1 a4) (sel (fun r28=>.ch 10 [40000,41001] (Kg a0 a1 a4) (sel (fun r29=>.jn 9 0 (fun j30=>⟨[(11,tB r1),(15,.np),(17,.np),(145,tB j30)],[]⟩) (.ite 0 (!(false==false)) (.ret 5 true) (.ret 5 (!(false==false)))) fun j30=>.ite 0 j30 (.ret 1 false) (.ret 9 r1)) (fun r31=>.cv 0 [.rn 40000 13340,.rn 41001 28401,.fz 28401 50 3 (fun c:LD=>c.length) (fun c:LD=>eF aK c) vD (r31.2.2.2:LM)] <| .jn 9 0 (fun j32=>⟨[(11,tB r1),(15,.np),(17,.ptr 13340 0),(145,tB j32)],[(13340,bP r31.1 r31.2.1 28401 r31.2.2.1),(28401,.mp none (eM mD (r31.2.2.2:LM)) none)]⟩) (.ite 0 (!(true==false)) (.ret 5 true) (.ret 5 (!(true==true)))) fun j32=>.ite 0 j32 (.ret 1 false) (.ret 9 r1)))) (fun r33=>.cv 0 [.rn 40000 13180] <| .ca 12 (aOF r33.L a2 1000) fun r34=>.ite 1 (!r34) (.ret 2 r1) (.ch 3 [40000,41001] (Kg a0 a1 a4) (sel (fun r35=>.jn 9 0 (fun j36=>⟨[(11,tB r1),(15,.ptr 13180 0),(17,.np),(145,tB j36)],[(13180,.box ((eG r33).map .t))]⟩) (.ite 0 (!(false==true)) (.ret 5 true) (.ret 5 (!(false==false)))) fun j36=>.ite 0 j36 (.ret 1 false) (.ret 9 r1)) (fun r37=>.cv 0 [.rn 40000 13340,.rn 41001 28401,.fz 28401 50 3 (fun c:LD=>c.length) (fun c:LD=>eF aK c) vD (r37.2.2.2:LM)] <| .jn 9 0 (fun j38=>⟨[(11,tB r1),(15,.ptr 13180 0),(17,.ptr 13340 0),(145,tB j38)],[(13180,.box ((eG r33).map .t)),(13340,bP r37.1 r37.2.1 28401 r37.2.2.1),(28401,.mp none (eM mD (r37.2.2.2:LM)) none)]⟩) (.ite 0 (!(true==true)) (.ret 5 true) (.ret 5 (!(true==true)))) fun j38=>.ite 0 j38 (.ret 1 false) (.jn 9 0 (fun j39=>⟨[(10,tB j39)],[]⟩) (.ite 0 r1 (.cv 1 [.rn 13340 30000] <| .cv 0 [.rn 28401 30001] <| .ch 0 [] (Jk r37.1 r37.2.1 r37.2.2.1 r37.2.2.2) fun r40=>.cv 1 [.rn 13180 30002] <| .ch 0 [] (Lv r33) fun r41=>.ret 3 ((r40.1:ByteArray).toList==(r41:ByteArray).toList)) (.ret 7 false)) fun j39=>.ret 0 j39)))))))
def aFS(a0:List aI)(a1:aG)(a2:List Int)(a3:List aW)(a4:ByteArray):=(bDM a0 a1 a2 a3 a4).den
theorem aYU(a0:List aI)(a1:aG)(a2:List Int)(a3:List aW)(a4:ByteArray):Con Tryz.prog 10 [.t (eL aV a0),.t (fM a1),.t (eL bK a2),.t (eL bO a3),.t (.str a4)] (aFS a0 a1 a2 a3 a4) tB:=con Tryz.func10 aR (bDM a0 a1 a2 a3 a4)
end
end Go.PL
namespace Go.PL
open Go
variable {a:Int} {i j k n:Nat} {l r:List aC} {p:Prop} {x y:aC}
def Sq{α:Type}(b:Bool)(x:Option α)(Q:α->Prop):Prop:=(∀ y,x=some y->Q y)/\(b=true->x.isSome=true)
abbrev Sp {α:Type}(x:Option α)(Q:α->Prop):Prop:=Sq true x Q
section
variable {α β:Type} {b:Bool}
theorem aA{y:α}{Q:α->Prop}:Sq b (some y) Q↔Q y:=⟨fun h=>h.1 y rfl,fun h=>⟨fun z hz=>by simp_all,fun _=>rfl⟩⟩
theorem uS{Q:α->Prop}:Sq b (none:Option α) Q↔b=false:=⟨fun h=>by cases b with | false=>rfl | true=>exact absurd (h.2 rfl) (by simp),fun h=>⟨fun _ hz=>(by cases hz),fun hb=>(by simp_all)⟩⟩
theorem cD{x:Option α}{f:α->Option β}{Q:β->Prop}:Sq b (x.bind f) Q↔Sq b x (fun r=>Sq b (f r) Q):=by
 cases x with
 | none=>exact uS.trans uS.symm
 | some r=>exact(aA (Q:=fun r=>Sq b (f r) Q)).symm
theorem tR{c:Prop}[Decidable c]{x:Option α}{Q:α->Prop}(hc:c)(h:Sq b x Q):Sq b (if c then x else none) Q:=by simp_all
theorem Sq.imp{x:Option α}{P Q:α->Prop}(h:Sq b x P)(hq:∀ y,P y->Q y):Sq b x Q:=⟨fun y hy=>hq y (h.1 y hy),h.2⟩
theorem Sq.of_eq{x:Option α}{y:α}{Q:α->Prop}(h:x=some y)(hq:Q y):Sq b x Q:=by rw[h]; exact aA.2 hq
theorem Sp.get{x:Option α}{Q:α->Prop}(h:Sp x Q):∃ y,x=some y/\Q y:=by obtain⟨y,hy⟩:=Ck.1 (h.2 rfl);exact⟨y,hy,h.1 y hy⟩
theorem Sp.eq{x:Option α}{y:α}(h:Sp x (fun z=>z=y)):x=some y:=by obtain⟨z,h1,rfl⟩:=h.get; exact h1
theorem Sq.bind{x:Option α}{f:α->Option β}{Q:β->Prop}(P:α->Prop)(h:Sq b x P)(h':∀ y,P y->Sq b (f y) Q):Sq b (x.bind f) Q:=cD.2 (h.imp h')
theorem aO{c:Bool}{x y:Option α}{Q:α->Prop}(h:c=true->Sq b x Q)(h':c=false->Sq b y Q):Sq b (if c=true then x else y) Q:=by grind
end
theorem Bi{b:Int}(h:a=b):¬ ((a != b)=true):=by simp[h]
theorem Iv{b:Int}(h:a≠b):(a != b)=true:=by simpa using h
theorem kF{b:Int}(h:a≠b):¬ ((a==b)=true):=by simpa using h
theorem wW{b:Int}(h:a=b):(a==b)=true:=by simpa using h
theorem bJ[Decidable p](h:¬ p):¬ (decide p=true):=by simpa using h
theorem bI[Decidable p](h:p):decide p=true:=by simpa using h
section
variable {S R:Type} {b:Bool} {bd:S->Option (S⊕R)}
theorem Sq.while(I:S->Prop)(μ:S->Nat){Q:R->Prop}(h:∀ s,I s->Sq b (bd s) (sel (fun s'=>I s'/\μ s' < μ s) Q)){s:S}(hs:I s):Sq b (cK bd s) Q:=by
 have:∀ (k:Nat) (s:S),μ s<=k->I s->Sq b (cK bd s) Q:=by
  intro k
  induction k with
  | zero=>
   intro s hk hs;have h1:=h s hs;rw[vF];cases hb:bd s with
   | none=>rw[hb]at h1; exact uS.2 (uS.1 h1)
   | some z=>
    rw[hb]at h1;have h2:=aA.1 h1;cases z with
    | inl s'=>exact absurd h2.2 (by omega)
    | inr r=>exact aA.2 h2
  | succ k ih=>
   intro s hk hs;have h1:=h s hs;rw[vF];cases hb:bd s with
   | none=>rw[hb]at h1; exact uS.2 (uS.1 h1)
   | some z=>
    rw[hb]at h1;have h2:=aA.1 h1;cases z with
    | inl s'=>exact ih s' (by have:=h2.2; omega) h2.1
    | inr r=>exact aA.2 h2
 exact this (μ s) s (dL _) hs
theorem bE(f:Nat->S)(n:Nat){r:R}(h:∀ i,i<n->bd (f i)=some (.inl (f (i+1))))(h':bd (f n)=some (.inr r)):cK bd (f 0)=some r:=by
 have:∀ k,k<=n->cK bd (f (n-k))=some r:=by
  intro k
  induction k with
  | zero=>intro _; exact jB h'
  | succ k ih=>intro hk;rw[tT (h (n-(k+1)) (by omega)),show n-(k+1)+1=n-k by omega];grind
 simpa using this n (dL n)
theorem aIW{t:S->(S⊕R->Prop)->Prop}(ht:∀ s {Q Q':S⊕R->Prop},(∀ z,Q z->Q' z)->t s Q->t s Q')(I:S->Prop)(μ:S->Nat){Q:R->Prop}(h:∀ s,I s->t s (sel (fun s'=>I s'/\μ s' < μ s) Q)){s:S}(hs:I s):Tr.LoopT t Q s:=by
 intro X hX;have:∀ (k:Nat) (s:S),μ s<=k->I s->X s:=by
  intro k
  induction k with
  | zero=>
   intro s hk hs;refine hX s (ht s (fun z hz=>?_) (h s hs));cases z with
   | inl s'=>exact absurd hz.2 (by omega)
   | inr r=>exact hz
  | succ k ih=>
   intro s hk hs;refine hX s (ht s (fun z hz=>?_) (h s hs));cases z with
   | inl s'=>exact ih s' (by have:=hz.2; omega) hz.1
   | inr r=>exact hz
 exact this (μ s) s (dL _) hs
end
section
variable {P:Program} {A R:Type}
theorem aYQ{C:A->Option R->Prop}(c0:∀ a,C a none)(B:{f:A->Option R // ∀ a,C a (f a)}->A->Tr P R)(ok:∀ f a,C a (B f a).den)(I:A->Prop)(μ:A->Nat)(Q:A->R->Prop)
  (h:∀ b f a,I a->(∀ a',I a'->μ a' < μ a->Sq b (f.1 a') (Q a'))->Sq b (B f a).den (Q a)):∀ n a,I a->Sq (decide (μ a<n)) ((aPD c0 B ok n).1 a) (Q a):=by
 intro n
 induction n with
 | zero=>intro a ha; exact⟨fun y hy=>(by cases hy),fun hb=>by simp at hb⟩
 | succ n ih=>intro a ha;refine h _ _ a ha fun a' ha' hm=>?_;have h1:=ih a' ha';exact⟨h1.1,fun hb=>h1.2 (by grind)⟩
theorem mB{C:A->Option R->Prop}(c0:∀ a,C a none)(B:{f:A->Option R // ∀ a,C a (f a)}->A->Tr P R)(ok:∀ f a,C a (B f a).den)(I:A->Prop)(μ:A->Nat)(Q:A->R->Prop)
  (h:∀ b f a,I a->(∀ a',I a'->μ a' < μ a->Sq b (f.1 a') (Q a'))->Sq b (B f a).den (Q a))(b:Bool)(a:A)(ha:I a):Sq b (sG c0 B ok a) (Q a):=by
 have h1:=aYQ c0 B ok I μ Q h;unfold sG Lim;split
 ·rename_i hh;obtain⟨n,hn⟩:=hh.choose_spec;exact aA.2 ((h1 n a ha).1 _ hn)
 ·rename_i hh;exfalso;have h2:=h1 (μ a+1) a ha;obtain⟨y,hy⟩:=Ck.1 (h2.2 (by simp));simp_all
end
theorem qG(n:Int):IntKind.i64.wrap n=(n+9223372036854775808) % 18446744073709551616-9223372036854775808:=by simp only[IntKind.wrap,IntKind.bits,IntKind.signed];grind
theorem bS{n:Int}(h1:-9223372036854775808<=n)(h2:n<=9223372036854775807):IntKind.i64.wrap n=n:=by rw[qG]; omega
theorem qZ(n:Int):-9223372036854775808<=IntKind.i64.wrap n/\IntKind.i64.wrap n<=9223372036854775807:=by rw[qG]; omega
theorem Al(n:Int):IntKind.i64.wrap (IntKind.i64.wrap n)=IntKind.i64.wrap n:=bS (qZ n).1 (qZ n).2
theorem lJ(a c:Int):IntKind.i64.wrap (IntKind.i64.wrap a+c)=IntKind.i64.wrap (a+c):=by simp only[qG]; omega
theorem Ln(a c:Int):IntKind.i64.wrap (a+IntKind.i64.wrap c)=IntKind.i64.wrap (a+c):=by simp only[qG]; omega
theorem qM(h:n<=9223372036854775807):IntKind.i64.wrap (n:Int)=n:=bS (by omega) (by omega)
theorem aL(h:n<9223372036854775807):IntKind.i64.wrap ((n:Int)+1)=((n+1:Nat):Int):=by rw[bS] <;> omega
theorem yG(h:n<9223372036854775807):IntKind.i64.wrap (((n+1:Nat):Int)-1)=(n:Int):=by rw[bS] <;> omega
theorem fH{m:Nat}(h:m<=n)(hn:n<=9223372036854775807):IntKind.i64.wrap ((n:Int)-(m:Int))=((n-m:Nat):Int):=by rw[bS] <;> omega
theorem gS{m:Nat}(h:n+m<=9223372036854775807):IntKind.i64.wrap ((n:Int)+(m:Int))=((n+m:Nat):Int):=by rw[bS] <;> omega
theorem aOQ{n:Int}(h1:0<=n)(h2:n<=9223372036854775807):IntKind.u64.wrap n=n:=by simp only[IntKind.wrap,IntKind.bits,IntKind.signed];grind
theorem Ir(h:i+j<=9223372036854775807):IntKind.i64.wrap (dO .u64 (IntKind.u64.wrap (IntKind.i64.wrap ((i:Int)+(j:Int)))) 1)=(((i+j) / 2:Nat):Int):=by
 rw[gS h,aOQ (by omega) (by omega)];have:dO .u64 (((i+j:Nat):Int)) 1=(((i+j) / 2:Nat):Int):=by simp only[dO,IntKind.bits];rw[Int.fdiv_eq_ediv_of_nonneg _ (by decide)];simp
 rw[this,qM (by omega)]
section
variable {α:Type} [Inhabited α]
theorem eW(l r:List α)(k:Nat):(l++r).getD k default=if k<l.length then l.getD k default else r.getD (k-l.length) default:=by simp only[eU,List.getElem?_append];split <;> rfl
theorem dF{l:List α}(h:k<l.length):l.getD k default=l[k]:=by simp_all
theorem aT{l:List α}(h:k<l.length):l.getD k default∈l:=by simp_all
theorem yS(l:List α)(k:Nat):l.toArray[k]! = l.getD k default:=by simp[eU,getElem!_def]; cases l[k]? <;> rfl
theorem Tk{l r:List α}(h:l.length=r.length)(h':∀ k,k<l.length->l.getD k default=r.getD k default):l=r:=by
 apply List.ext_getElem h;intro k h1 h2;have:=h' k h1
 rwa [dF h1,dF h2]at this
theorem aQ{l:List α}(h:k<l.length):l.take (k+1)=l.take k++[l.getD k default]:=by rw[dF h,List.take_succ_eq_append_getElem h]
theorem cP{l:List α}(h:k<l.length):l.drop k=l.getD k default::l.drop (k+1):=by rw[dF h,Ys h]
theorem qB(l:List α)(i k:Nat)(x:α):(l.set i x).getD k default=if k=i/\i<l.length then x else l.getD k default:=by grind
def zF(l:List α)(i j:Nat):List α:=(l.set i (l.getD j default)).set j (l.getD i default)
theorem Tc(l:List α)(i j:Nat):(zF l i j).toArray=Sort.swp l.toArray i j:=by unfold zF Sort.swp;rw[yS,yS,List.setIfInBounds_toArray,List.setIfInBounds_toArray]
theorem Ul(l:List α)(i j:Nat):(zF l i j).length=l.length:=by simp[zF]
theorem Gb(p:List α)(x:α)(m:List α)(y:α)(q:List α):zF (p++x::(m++y::q)) p.length (p.length+1+m.length)=p++y::(m++x::q):=by
 have e1:(p++x::(m++y::q)).getD p.length default=x:=by simp_all
 have e2:(p++x::(m++y::q)).getD (p.length+1+m.length) default=y:=by grind
 unfold zF;grind
theorem aJU(p:List α)(x:α)(m:List α)(y:α)(q:List α):zF (p++x::(m++y::q)) (p.length+1+m.length) p.length=p++y::(m++x::q):=by
 rw[<-Gb p x m y q];apply Tk
 ·simp[zF]
 ·intro k hk;simp only[zF,qB,List.length_set];grind
theorem Jp(l:List α)(hi:i<l.length)(hj:j<l.length):(zF l i j).Perm l:=by unfold zF;rw[dF hi,dF hj];exact Sort.perm_set_set l i j hi hj
end
structure TO {α:Type}(c:α->α->Int):Prop where
 eq:∀ a b,c a b=0↔a=b
 sw:∀ a b,c a b<0↔0<c b a
 tr:∀ a b d,c a b<0->c b d<0->c a d<0
def oQ(a b:Int):Int:=if a<b then -1 else if b<a then 1 else 0
theorem TO.int:TO oQ:=by
 constructor
 ·intro a b; unfold oQ; split <;> (try split) <;> omega
 ·intro a b; unfold oQ; split <;> (try split) <;> (try split) <;> omega
 ·intro a b d; unfold oQ; split <;> (try split) <;> (try split) <;> (try split) <;> (try split) <;> omega
def fU(a b:Int):Int:=if a=0 then b else a
theorem TO.lex{α β γ:Type}{c:β->β->Int}{d:γ->γ->Int}(hc:TO c)(hd:TO d){f:α->β}{g:α->γ}(inj:∀ x y,f x=f y->g x=g y->x=y):TO (fun x y=>fU (c (f x) (f y)) (d (g x) (g y))):=by
 constructor
 ·intro x y;unfold fU;constructor
  ·intro h;split at h
   ·rename_i h1; exact inj x y ((hc.eq _ _).1 h1) ((hd.eq _ _).1 h)
   omega
  ·rintro rfl;rw[aB ((hc.eq _ _).2 rfl)]; exact(hd.eq _ _).2 rfl
 ·intro x y;unfold fU;by_cases h1:c (f x) (f y)=0
  ·have h2:=(hc.eq _ _).1 h1;rw[aB h1,aB ((hc.eq _ _).2 h2.symm)];exact hd.sw _ _
  ·rw[aF h1,aF (fun h=>h1 ((hc.eq _ _).2 ((hc.eq _ _).1 h).symm))];exact hc.sw _ _
 ·intro x y z;unfold fU;by_cases h1:c (f x) (f y)=0
  ·have h2:=(hc.eq _ _).1 h1;rw[aB h1,h2];by_cases h3:c (f y) (f z)=0
   ·rw[aB h3,aB h3]; exact hd.tr _ _ _
   omega
  ·rw[aF h1];by_cases h3:c (f y) (f z)=0
   ·have h4:=(hc.eq _ _).1 h3;simp_all
   ·rw[aF h3];intro h5 h6;have h7:=hc.tr _ _ _ h5 h6;omega
def rZ{α:Type}(c:α->α->Int):List α->List α->Int
 | [],[]=>0
 | [],_::_=>-1
 | _::_,[]=>1
 | a::l,b::r=>fU (c a b) (rZ c l r)
theorem TO.list{α:Type}{c:α->α->Int}(hc:TO c):TO (rZ c):=by
 constructor
 ·intro l
  induction l with
  | nil=>intro r; cases r <;> simp[rZ]
  | cons a l ih=>
   intro r;cases r with
   | nil=>simp[rZ]
   | cons b r=>
    simp only[rZ,fU];constructor
    ·intro h;split at h
     ·rename_i h1; rw[(hc.eq _ _).1 h1,(ih r).1 h]
     omega
    ·intro h;injection h with h1 h2;rw[aB ((hc.eq _ _).2 h1)]; simp_all
 ·intro l
  induction l with
  | nil=>intro r; cases r <;> simp[rZ]
  | cons a l ih=>
   intro r;cases r with
   | nil=>rfl
   | cons b r=>
    simp only[rZ,fU];by_cases h1:c a b=0
    ·have h2:=(hc.eq _ _).1 h1;simp_all
    ·rw[aF h1,aF (fun h=>h1 ((hc.eq _ _).2 ((hc.eq _ _).1 h).symm))]; exact hc.sw _ _
 ·intro l
  induction l with
  | nil=>intro r s; cases r <;> cases s <;> simp[rZ]
  | cons a l ih=>
   intro r s;cases r with
   | nil=>simp[rZ]
   | cons b r=>
    cases s with
    | nil=>simp[rZ]
    | cons d s=>
     simp only[rZ,fU];by_cases h1:c a b=0
     ·have h2:=(hc.eq _ _).1 h1;grind
     ·rw[aF h1];by_cases h3:c b d=0
      ·have h4:=(hc.eq _ _).1 h3;simp_all
      ·rw[aF h3];intro h5 h6;have h7:=hc.tr _ _ _ h5 h6;omega
theorem qV:∀ (a b:List UInt8),Lib.compareBytes a b=rZ (fun x y:UInt8=>oQ (x.toNat:Int) (y.toNat:Int)) a b
 | [],[]=>rfl
 | [],_::_=>rfl
 | _::_,[]=>rfl
 | a::l,b::m=>by
  rw[Lib.compareBytes,rZ,qV l m];have e1:(a<b)↔((a.toNat:Int)<(b.toNat:Int)):=by rw[UInt8.lt_iff_toNat_lt]; omega
  have e2:(b<a)↔((b.toNat:Int)<(a.toNat:Int)):=by rw[UInt8.lt_iff_toNat_lt]; omega
  generalize rZ (fun x y:UInt8=>oQ (x.toNat:Int) (y.toNat:Int)) l m=r;show _=fU (if (a.toNat:Int)<(b.toNat:Int) then -1 else if (b.toNat:Int)<(a.toNat:Int) then 1 else 0) r;by_cases h1:(a.toNat:Int)<b.toNat
  ·rw[aB (e1.2 h1),aB h1]; rfl
  ·rw[aF (fun h=>h1 (e1.1 h)),aF h1];by_cases h2:(b.toNat:Int)<a.toNat
   ·rw[aB (e2.2 h2),aB h2]; rfl
   ·rw[aF (fun h=>h2 (e2.1 h)),aF h2]; rfl
theorem TO.u8:TO (fun x y:UInt8=>oQ (x.toNat:Int) (y.toNat:Int)):=by
 constructor
 ·intro a b;rw[TO.int.eq];exact⟨fun h=>UInt8.toNat_inj.1 (by omega),fun h=>by rw[h]⟩
 ·intro a b; exact TO.int.sw _ _
 ·intro a b d; exact TO.int.tr _ _ _
def yI(a b:ByteArray):Int:=Lib.compareBytes a.data.toList b.data.toList
theorem TO.str:TO yI:=by
 have h:=TO.list TO.u8;unfold yI;constructor
 ·intro a b;rw[qV,h.eq];constructor
  ·intro h; cases a; simp_all
  simp_all
 ·intro a b; rw[qV,qV]; exact h.sw _ _
 ·intro a b d; rw[qV,qV,qV]; exact h.tr _ _ _
def zL(a b:aE):Int:=fU (oQ a.Kind b.Kind) (fU (oQ a.N b.N) (yI a.S b.S))
abbrev Ax:List aE->List aE->Int:=rZ zL
def dJ(a b:aC):Int:=fU (oQ a.Time b.Time) (Ax a.Row b.Row)
theorem TO.val:TO zL:=by have h:=TO.lex (f:=fun x:ByteArray×Int=>x.2) (g:=fun x=>x.1) TO.int TO.str (fun x y h1 h2=>Prod.ext h2 h1);exact TO.lex (f:=fun x:aE=>x.Kind) (g:=fun x=>(x.S,x.N)) TO.int h (fun x y h1 h2=>by cases x; simp_all)
theorem TO.row:TO Ax:=TO.val.list
def pl(d:aC):Int×List aE:=(d.Time,d.Row)
def aMU(a b:Int×List aE):Int:=fU (oQ a.1 b.1) (Ax a.2 b.2)
theorem TO.place:TO aMU:=TO.lex (f:=fun x:Int×List aE=>x.1) (g:=fun x=>x.2) TO.int TO.row (fun _ _ h1 h2=>Prod.ext h1 h2)
theorem yM(a b:aC):dJ a b=aMU (pl a) (pl b):=rfl
theorem Ee(a:Int):fU a 0=a:=by unfold fU; split <;> simp_all
theorem aVN(a:Int):bCL a=some false:=by unfold bCL bDH; simp[Tr.den]
theorem aDO(a b:Int):bDE a b=some (oQ a b):=by unfold bDE bIE;simp only[Tr.den,aVN,aH,cM,cI,kW,oQ,gt_iff_lt];split <;> (try split) <;> rfl
theorem aZS(a b:ByteArray):bJO a b=some (yI a b):=rfl
theorem aEJ(l:List Int)(h:l.length<=1000):bFW l=some (l.foldr fU 0):=by
 refine Sp.eq ?_;unfold bFW bEI;simp only[Tr.den,cD];refine Sq.while (fun k:Int=>0<=k/\k<=l.length/\(l.drop k.toNat).foldr fU 0=l.foldr fU 0) (fun k=>l.length-k.toNat) (fun k hk=>?_) ⟨by omega,by omega,by simp⟩;obtain⟨h0,h1,h2⟩:=hk;unfold aBO;simp only[Tr.den,kW];by_cases hk:k<l.length
 ·have hkn:k.toNat<l.length:=by omega
  rw[aB hk,aB ⟨h0,hk⟩];rw[cP hkn]at h2;simp only[List.foldr_cons]at h2;by_cases hz:l.getD k.toNat default=0
  ·rw[aF (Bi hz)];rw[bS (by omega) (by omega)];refine aA.2 ⟨⟨by omega,by omega,?_⟩,by omega⟩;rw[show (k+1).toNat=k.toNat+1 by omega,<-h2]; simp only[fU,hz,fZ]
  ·rw[aB (Iv hz)];refine aA.2 (aA.2 ?_);rw[<-h2]; unfold fU; rw[aF hz]
 ·rw[aF hk];refine aA.2 (aA.2 ?_);have:l.drop k.toNat=[]:=gY (by omega);grind
theorem Ry(a b:aE):bFK a b=some (zL a b):=by unfold bFK bFZ;simp only[Tr.den,aDO,aZS,aH];rw[aEJ _ (by simp)];simp[Ee,zL]
theorem aGS(a b:List aE)(ha:a.length<=1073741824)(hb:b.length<=1073741824):Ww a b=some (Ax a b):=by
 refine Sp.eq ?_;unfold Ww aAM;simp only[Tr.den,cD];refine Sq.while (fun k:Int=>0<=k/\k<=a.length/\k<=b.length/\Ax (a.drop k.toNat) (b.drop k.toNat)=Ax a b) (fun k=>a.length-k.toNat) (fun k hk=>?_) ⟨by omega,by omega,by omega,by simp⟩;obtain⟨h0,h1,h2,h3⟩:=hk;unfold Lb;simp only[Tr.den,kW,Ry,aH];by_cases hk:k<a.length
 ·have hkn:k.toNat<a.length:=by omega
  rw[aB hk,aB ⟨h0,hk⟩];rw[cP hkn]at h3;by_cases hk':k>=b.length
  ·rw[aB hk'];refine aA.2 (aA.2 ?_);have:b.drop k.toNat=[]:=gY (by omega);rw[this]at h3;simpa[rZ] using h3
  ·have hkb:k.toNat<b.length:=by omega
   rw[cP hkb]at h3;simp only[rZ]at h3;rw[aF hk',aB ⟨h0,by omega⟩];by_cases hz:zL (a.getD k.toNat default) (b.getD k.toNat default)=0
   ·rw[aF (Bi hz),bS (by omega) (by omega)];refine aA.2 ⟨⟨by omega,by omega,by omega,?_⟩,by omega⟩;rw[show (k+1).toNat=k.toNat+1 by omega]; refine Eq.trans ?_ h3; simp only[fU,hz,fZ]
   ·rw[aB (Iv hz)];refine aA.2 (aA.2 ?_);refine Eq.trans ?_ h3; simp only[fU,aF hz]
 ·rw[aF hk];refine aA.2 ?_;have e:a.drop k.toNat=[]:=gY (by omega);rw[e]at h3;simp only[sel];by_cases hl:(a.length:Int)<b.length
  ·rw[aB hl];refine aA.2 ?_;rw[cP (show k.toNat<b.length by omega)]at h3;exact h3
  ·rw[aF hl];refine aA.2 ?_;rw[gY (show b.length<=k.toNat by omega)]at h3;exact h3
theorem aYV(a b:List aE)(ha:a.length<=1073741824)(hb:b.length<=1073741824):bIC a b=some (Ax a b):=by unfold bIC bIW;simp only[Tr.den,aGS a b ha hb,aH]
def okR(d:aC):Prop:=d.Row.length<=1073741824
theorem sO(a b:aC)(ha:okR a)(hb:okR b):G61 a b=some (dJ a b):=by unfold G61 T61;simp only[Tr.den,aDO,aYV _ _ ha hb,aH];rw[aEJ _ (by simp)];simp[Ee,dJ]
def ltD(a b:aC):Bool:=decide (dJ a b<0)
theorem rB{z:aC}:dJ x y<0->dJ y z<0->dJ x z<0:=fun h1 h2=>TO.place.tr (pl x) (pl y) (pl z) h1 h2
theorem gH:Sort.SWO ltD:=by
 constructor
 ·intro x; simp[ltD,(TO.place.eq (pl x) (pl x)).2 rfl,yM]
 ·intro x y z h1 h2;simp only[ltD,kW]at *
  exact rB h1 h2
 ·intro x y z h1 h2;simp only[ltD,yM]at h1 h2 ⊢;have h1:=fE h1;have h2:=fE h2;refine kN fun h3=>?_;have s1:=TO.place.sw (pl x) (pl y);have s2:=TO.place.sw (pl y) (pl z);have s3:=TO.place.sw (pl y) (pl x);have s4:=TO.place.sw (pl z) (pl y);have s5:=TO.place.sw (pl x) (pl z);have s6:=TO.place.sw (pl z) (pl x);by_cases h4:aMU (pl x) (pl y)=0
  ·rw[(TO.place.eq _ _).1 h4]at h3; omega
  ·by_cases h5:aMU (pl y) (pl z)=0
   ·rw[<-(TO.place.eq _ _).1 h5]at h3; omega
   ·have:=TO.place.tr (pl z) (pl y) (pl x) (by omega) (by omega);omega
theorem Bg(h:ltD x y=true):ltD y x=false:=by
 cases hh:ltD y x with
 | false=>rfl
 | true=>have:=gH.trans _ _ _ h hh;rw[gH.irrefl]at this; cases this
set_option linter.unusedVariables false
def gV(l:List aC):Prop:=∀ x,x∈l->okR x
theorem aZG:okR default:=by show ([]:List aE).length<=_; simp
theorem gV.get(h:gV l)(k:Nat):okR (l.getD k default):=by
 by_cases hk:k<l.length
 ·exact h _ (aT hk)
 ·rw[eU,Ao (by omega)]; exact aZG
theorem gV.perm(h:gV l)(hp:l.Perm r):gV r:=fun x hx=>h x (hp.mem_iff.2 hx)
theorem bJW(a a2 v2:Int)(an:Nat)(ha:a=an):∀ (j:Nat) (l:List aC),gV l->j<l.length->l.length<=1000000000000000 ->
  cK (fun s=>(mZ a a2 v2 s).den) (l,(j:Int))=some (.inl (Sort.insInner ltD an j l.toArray).toList):=by
 intro j
 induction j with
 | zero=>intro l hl hj hn;refine jB ?_;unfold mZ;simp only[Tr.den];rw[aF (by simp; omega)];rfl
 | succ j ih=>
  intro l hl hj hn;have e1:IntKind.i64.wrap (((j+1:Nat):Int)-1)=(j:Int):=yG (by omega);by_cases hc:an<j+1
  ·have hlt:ltD (l.getD (j+1) default) (l.getD j default)=decide (dJ (l.getD (j+1) default) (l.getD j default)<0):=rfl;cases hd:ltD (l.getD (j+1) default) (l.getD j default) with
   | false=>refine jB ?_;unfold mZ;simp only[Tr.den];rw[e1];rw[aB (by simp; omega),aB (by omega),aB (by omega),aB (by omega),aB (by omega)];simp only[aS];rw[sO _ _ (hl.get _) (hl.get _)];simp only[aH];rw[<-hlt,hd];simp only[cM,cI];unfold Sort.insInner;grind
   | true=>
    rw[tT (s':=(zF l (j+1) j,(j:Int)))]
    ·have h2:=ih (zF l (j+1) j) (hl.perm (Jp l hj (by omega)).symm) (by rw[Ul]; omega) (by rw[Ul]; exact hn);rw[h2,Tc]
     conv=>rhs; unfold Sort.insInner
     simp_all
    ·unfold mZ;simp only[Tr.den];rw[e1];rw[aB (by simp; omega),aB (by omega),aB (by omega),aB (by omega),aB (by omega)];simp only[aS];rw[sO _ _ (hl.get _) (hl.get _)];simp only[aH];rw[<-hlt,hd];simp only[fZ];rw[aB (by omega),aB (by omega),aB (by omega),aB (by omega),aB (by omega),aB (by omega),aB (by omega),aB (by omega),aB (by simp; omega)];rfl
  ·refine jB ?_;unfold mZ;simp only[Tr.den];rw[aF (by simp; omega)];simp only[aH,cM,cI];unfold Sort.insInner;simp[hc]
theorem bFV(a b:Nat)(n:Nat):∀ (i:Nat) (l:List aC),b-i=n->a<i->b<=l.length->l.length<=1000000000000000->gV l ->
  cK (fun s=>(uW (a:Int) (b:Int) s).den) (l,(i:Int))=some (.inl (Sort.insOuter ltD a b i l.toArray).toList):=by
 induction n with
 | zero=>intro i l hi ha hb hn hl;refine jB ?_;unfold uW;simp only[Tr.den];rw[aF (by simp; omega),Sort.insOuter,aF (by omega)]
 | succ n ih=>
  intro i l hi ha hb hn hl;have h1:=bJW (a:Int) (b:Int) (i:Int) a rfl i l hl (by omega) hn;have hp:=(Sort.insInner_spec gH Sort.swp_permIn Sort.permIn_refl Sort.permIn_trans 0 b i (by omega));have hlen:(Sort.insInner ltD a i l.toArray).size=l.length:=by
   have:∀ (j:Nat) (d:Array aC),(Sort.insInner ltD a j d).size=d.size:=by
    intro j
    induction j with
    | zero=>intro d; rfl
    | succ j ih=>intro d; unfold Sort.insInner; split <;> simp[ih,Sort.swp_size]
   simp_all
  have hperm:(Sort.insInner ltD a i l.toArray).toList.Perm l:=by
   have:∀ (j:Nat) (d:Array aC),j<d.size->(Sort.insInner ltD a j d).toList.Perm d.toList:=by
    intro j
    induction j with
    | zero=>intro d _; rfl
    | succ j ih=>
     intro d hd;unfold Sort.insInner;split
     ·refine(ih _ (by rw[Sort.swp_size]; omega)).trans ?_;have e:=Tc d.toList (j+1) j;rw[nQ]at e;rw[<-e];exact Jp d.toList (i:=j+1) (j:=j) (by omega) (by simp; omega)
     rfl
   grind
  rw[tT (s':=((Sort.insInner ltD a i l.toArray).toList,((i+1:Nat):Int)))]
  ·rw[ih (i+1) _ (by omega) (by omega) (by simp_all) (by simp_all) (hl.perm hperm.symm)]
   conv=>rhs; rw[Sort.insOuter,aB (by omega)]
  ·unfold uW;simp only[Tr.den];rw[aB (by simp; omega),h1];simp only[aH,sel];rw[aL (by omega)]
theorem aHT(a b:Nat)(l:List aC)(hb:b<=l.length)(hab:a<=b)(hn:l.length<=1000000000000000)(hl:gV l):Nf (a:Int) (b:Int) l=some (Sort.insertionSort ltD l.toArray a b).toList:=by unfold Nf Ya;simp only[Tr.den];rw[aL (by omega),bFV a b _ (a+1) l rfl (by omega) hb hn hl];rfl
theorem bHB(P X M Y Q:List aC)(n:Nat)(hx:X.length=n)(hy:Y.length=n)(i:Nat)(hi:i<n):
  zF (P++(Y.take i++(X.drop i++(M++(X.take i++(Y.drop i++Q)))))) (P.length+i) (P.length+n+M.length+i)=P++(Y.take (i+1)++(X.drop (i+1)++(M++(X.take (i+1)++(Y.drop (i+1)++Q))))):=by
 have h:=Gb (P++Y.take i) (X.getD i default) (X.drop (i+1)++(M++X.take i)) (Y.getD i default) (Y.drop (i+1)++Q);have e1:(P++Y.take i).length=P.length+i:=by simp; omega
 have e2:(P++Y.take i).length+1+(X.drop (i+1)++(M++X.take i)).length=P.length+n+M.length+i:=by simp; omega
 rw[e2,e1]at h;rw[cP (show i<X.length by omega),cP (show i<Y.length by omega),aQ (show i<X.length by omega),aQ (show i<Y.length by omega)];simpa using h
theorem Ai(P X M Y Q:List aC)(n:Nat)(hx:X.length=n)(hy:Y.length=n)(a b c:Int)(ha:a=P.length)(hb:b=((P.length+n+M.length:Nat):Int))(hc:c=n)(hn:(P++(X++(M++(Y++Q)))).length<=1000000000000000):
  Xq a b c (P++(X++(M++(Y++Q))))=some (P++(Y++(M++(X++Q)))):=by
 subst ha hb hc;simp only[cE]at hn;unfold Xq Zp;simp only[Tr.den];have h:=bE (bd:=fun s=>(uG (P.length:Int) ((P.length+n+M.length:Nat):Int) (n:Int) s).den) (fun i=>(P++(Y.take i++(X.drop i++(M++(X.take i++(Y.drop i++Q))))),(i:Int))) n (r:=.inl (P++(Y++(M++(X++Q))))) (fun i hi=>?_) ?_
 ·simp only[List.take_zero,xL,kS]at h;refine(congrArg (fun x=>Option.bind x _) h).trans ?_;rfl
 ·have hL:(P++(Y.take i++(X.drop i++(M++(X.take i++(Y.drop i++Q)))))).length=P.length+n+M.length+n+Q.length:=by simp; omega
  unfold uG;simp only[Tr.den];rw[gS (by omega),gS (by omega)];simp only[aS];rw[hL];rw[aB (by simp; omega),aB (by omega),aB (by omega),aB (by omega),aB (by omega),aB (by omega),aB (by omega),aB (by omega),aB (by omega),aB (by simp; omega),aL (by omega)];rw[<-bHB P X M Y Q n hx hy i hi];rfl
 ·unfold uG;simp only[Tr.den];grind
theorem aHI(b:Bool)(P U V Q:List aC)(hu:U≠[])(hv:V≠[])(a1 a2 a3:Int)(h1:a1=P.length)(h2:a2=((P.length+U.length:Nat):Int))(h3:a3=((P.length+U.length+V.length:Nat):Int))(hn:(P++(U++(V++Q))).length<=1000000000000000):
  Sq b (Pa a1 a2 a3 (P++(U++(V++Q)))) (fun d=>d=P++(V++(U++Q))):=by
 subst h1 h2 h3;unfold Pa Zi;simp only[Tr.den,cD];generalize hm:P.length+U.length=m;generalize hT:P++(V++(U++Q))=T;have hl0:(P++(U++(V++Q))).length=T.length:=by grind
 rw[fH (by omega) (by grind),fH (by omega) (by grind)];refine Sq.while (fun s:List aC×Int×Int=>∃ P U V Q:List aC,s.1=P++(U++(V++Q))/\P.length+U.length=m/\s.2.1=U.length/\s.2.2=V.length/\U≠[]/\V≠[]/\P++(V++(U++Q))=T)
  (fun s=>(s.2.1+s.2.2).toNat) (fun s hs=>?_) ⟨P,U,V,Q,rfl,hm,by grind,by simp_all,hu,hv,hT⟩
 clear hu hv hT hm;obtain⟨l,i,j⟩:=s;obtain⟨P,U,V,Q,rfl,hm,hi,hj,hu,hv,hT⟩:=hs;simp only at hi hj;subst hi hj;have hTl:T.length=P.length+U.length+V.length+Q.length:=by grind
 rw[hl0]at hn;have hu0:0<U.length:=gU.2 hu;have hv0:0<V.length:=gU.2 hv;unfold Js;simp only[Tr.den];by_cases hij:U.length=V.length
 ·rw[aF (by simp; omega)];refine aA.2 ?_;simp only[sel];have h:=Ai P U [] V Q U.length rfl hij.symm (IntKind.i64.wrap ((m:Int)-(U.length:Int))) (m:Int) (U.length:Int) (by rw[fH (by omega) (by omega)]; omega) (by simp; omega) rfl (by simp; omega);simp only[kS]at h;rw[h];simp only[aH];exact aA.2 hT
 ·rw[aB (by simp; omega)];by_cases hgt:U.length>V.length
  ·rw[aB (by simp; omega)];have hU:U=U.take V.length++U.drop V.length:=(gG _ _).symm;have h:=Ai P (U.take V.length) (U.drop V.length) V Q V.length (by simp; omega) rfl (IntKind.i64.wrap ((m:Int)-(U.length:Int))) (m:Int) (V.length:Int) (by rw[fH (by omega) (by omega)]; omega) (by simp; omega) rfl (by simp; omega);rw[<-cT (U.take V.length),<-hU]at h;rw[h];simp only[aH];rw[fH (by omega) (by omega)];refine aA.2 ⟨⟨P++V,U.drop V.length,U.take V.length,Q,by grind,by grind,by grind,by grind,?_,?_,?_⟩,by grind⟩
   all_goals grind
  ·rw[aF (by simp; omega)];have hV:V=V.take (V.length-U.length)++V.drop (V.length-U.length):=(gG _ _).symm;have h:=Ai P U (V.take (V.length-U.length)) (V.drop (V.length-U.length)) Q U.length rfl (by simp; omega) (IntKind.i64.wrap ((m:Int)-(U.length:Int))) (IntKind.i64.wrap (IntKind.i64.wrap ((m:Int)+(V.length:Int))-(U.length:Int))) (U.length:Int) (by rw[fH (by omega) (by omega)]; omega) (by rw[gS (by omega),fH (by omega) (by omega)]; simp; omega) rfl (by simp; omega);rw[<-cT (V.take (V.length-U.length)),<-hV]at h;rw[h];simp only[aH];rw[fH (by omega) (by omega)];refine aA.2 ⟨⟨P,V.drop (V.length-U.length),V.take (V.length-U.length),U++Q,by simp,by simp; omega,by simp; omega,by simp,?_,?_,?_⟩,by simp only; omega⟩
   all_goals grind
def Srt(l:List aC):Prop:=l.Pairwise (fun x y=>ltD y x=false)
theorem Srt.app:Srt (l++r)↔Srt l/\Srt r/\∀ x,x∈l->∀ y,y∈r->ltD y x=false:=by unfold Srt; rw[Bk]
theorem Srt.get(h:Srt l)(hij:i<=j)(hj:j<l.length):ltD (l.getD j default) (l.getD i default)=false:=by
 rcases Nat.lt_or_eq_of_le hij with h1 | h1
 ·rw[dF hj,dF (show i<l.length by omega)];exact yH.1 h i j (by omega) hj h1
 ·subst h1; exact gH.irrefl _
theorem Rv(h:∀ i j,i<j->j<l.length->ltD (l.getD j default) (l.getD i default)=false):Srt l:=by
 unfold Srt;rw[yH];intro i j hi hj hij;have:=h i j hij hj
 rwa [dF hj,dF hi]at this
theorem aKR{R':Type}(b:Bool)(bd:Int×Int->Option ((Int×Int)⊕(Int⊕R')))(p:Nat->Bool)(i0 j0:Nat)(hij:i0<=j0)
  (hstep:∀ i j:Nat,i0<=i->i<j->j<=j0->bd ((i:Int),(j:Int))=some (.inl (if p ((i+j) / 2)=true then ((((i+j) / 2+1:Nat):Int),(j:Int)) else ((i:Int),(((i+j) / 2:Nat):Int)))))
  (hstop:∀ i:Nat,i0<=i->i<=j0->bd ((i:Int),(i:Int))=some (.inr (.inl (i:Int))))(mono:∀ h k,i0<=k->k<=h->h<j0->p h=true->p k=true):
  Sq b (cK bd ((i0:Int),(j0:Int))) (sel (fun r:Int=>∃ n:Nat,r=n/\i0<=n/\n<=j0/\(∀ k,i0<=k->k<n->p k=true)/\(∀ k,n<=k->k<j0->p k=false)) (fun _=>False)):=by
 refine Sq.while (fun s=>∃ i j:Nat,s=((i:Int),(j:Int))/\i0<=i/\i<=j/\j<=j0/\(∀ k,i0<=k->k<i->p k=true)/\(∀ k,j<=k->k<j0->p k=false)) (fun s=>(s.2-s.1).toNat) (fun s hs=>?_)
  ⟨i0,j0,rfl,dL _,hij,dL _,fun k h1 h2=>by omega,fun k h1 h2=>by omega⟩
 obtain⟨i,j,rfl,h1,h2,h3,h4,h5⟩:=hs;by_cases hlt:i<j
 ·rw[hstep i j h1 hlt h3];refine aA.2 ?_;by_cases hp:p ((i+j) / 2)=true
  ·rw[aB hp];refine⟨⟨(i+j) / 2+1,j,rfl,by omega,by omega,h3,fun k hk1 hk2=>?_,h5⟩,by omega⟩;grind
  ·rw[aF hp];refine⟨⟨i,(i+j) / 2,rfl,h1,by omega,by omega,h4,fun k hk1 hk2=>?_⟩,by omega⟩;grind
 ·have:i=j:=by omega
  subst this;rw[hstop i h1 h3];exact aA.2 ⟨i,rfl,h1,h3,h4,h5⟩
section
variable (P A B Q:List aC)
theorem bCG(P B R:List aC)(x:aC)(e:Int)(he:e=((P.length+B.length+1:Nat):Int))(hn:(P++x::(B++R)).length<=1000000000000000):
  cK (fun s=>(pL e s).den) (P++x::(B++R),(P.length:Int))=some (.inl (P++(B++x::R))):=by
 subst he;simp only[cE,fB]at hn;have h:=bE (bd:=fun s=>(pL ((P.length+B.length+1:Nat):Int) s).den) (fun t=>(P++(B.take t++x::(B.drop t++R)),((P.length+t:Nat):Int))) B.length (r:=.inl (P++(B++x::R))) (fun t ht=>?_) ?_
 ·simpa using h
 ·have hL:(P++(B.take t++x::(B.drop t++R))).length=P.length+B.length+1+R.length:=by simp; omega
  unfold pL;simp only[Tr.den];rw[yG (by omega),aL (by omega)];simp only[aS];rw[hL];rw[aB (by simp; omega),aB (by omega),aB (by omega),aB (by omega),aB (by omega),aB (by omega),aB (by omega),aB (by omega),aB (by omega),aB (by simp; omega)];have h2:=Gb (P++B.take t) x [] (B.getD t default) (B.drop (t+1)++R);rw[aQ ht,cP ht];rw[show (P++B.take t).length=P.length+t by simp; omega]at h2;simp only[Ep,Cg,kS,cT,rV]at h2 ⊢;rw[<-h2];rfl
 ·unfold pL;simp only[Tr.den];rw[yG (by omega),aF (by simp)];simp
theorem aRU(P A R:List aC)(y:aC)(e k:Int)(he:e=(P.length:Int))(hk:k=((P.length+A.length:Nat):Int))(hn:(P++(A++y::R)).length<=1000000000000000):
  cK (fun s=>(pO e s).den) (P++(A++y::R),k)=some (.inl (P++y::(A++R))):=by
 subst he hk;simp only[cE,fB]at hn;have h:=bE (bd:=fun s=>(pO (P.length:Int) s).den) (fun t=>(P++(A.take (A.length-t)++y::(A.drop (A.length-t)++R)),((P.length+(A.length-t):Nat):Int))) A.length (r:=.inl (P++y::(A++R))) (fun t ht=>?_) ?_
 ·simpa using h
 ·have hL:(P++(A.take (A.length-t)++y::(A.drop (A.length-t)++R))).length=P.length+A.length+1+R.length:=by simp; omega
  unfold pO;simp only[Tr.den];obtain⟨u,hu⟩:∃ u,A.length-t=u+1:=⟨A.length-t-1,by omega⟩;have hu':A.length-(t+1)=u:=by omega
  rw[hu]at hL ⊢;rw[hu'];rw[<-Ge,yG (by omega)];simp only[aS];rw[hL];rw[aB (by simp; omega),aB (by omega),aB (by omega),aB (by omega),aB (by omega),aB (by omega),aB (by omega),aB (by omega),aB (by omega),aB (by simp; omega)];have h2:=aJU (P++A.take u) (A.getD u default) [] y (A.drop (u+1)++R);rw[aQ (show u<A.length by omega),cP (show u<A.length by omega)];rw[show (P++A.take u).length=P.length+u by simp; omega]at h2;simp only[Ep,Cg,kS,cT,rV]at h2 ⊢;rw[<-h2];rfl
 ·unfold pO;simp only[Tr.den];simp_all
end
def pU(P A B Q:List aC):Int×Int×Int×List aC:=((P.length:Int),((P.length+A.length:Nat):Int),((P.length+A.length+B.length:Nat):Int),P++(A++(B++Q)))
def bMC(a:Int×Int×Int×List aC):Prop:=∃ P A B Q,a=pU P A B Q/\A≠[]/\B≠[]/\Srt A/\Srt B/\gV (P++(A++(B++Q)))/\(P++(A++(B++Q))).length<=1000000000000000
def bLW(a:Int×Int×Int×List aC)(d:List aC):Prop:=∀ P A B Q,a=pU P A B Q->∃ C,d=P++(C++Q)/\C.Perm (A++B)/\Srt C
theorem aGE{P A B Q P' A' B' Q':List aC}(h:pU P A B Q=pU P' A' B' Q'):P=P'/\A=A'/\B=B'/\Q=Q':=by unfold pU at h;simp only[gJ]at h;obtain⟨h1,h2,h3,h4⟩:=h;obtain⟨e1,h5⟩:=List.append_inj h4 (by omega);obtain⟨e2,h6⟩:=List.append_inj h5 (by omega);obtain⟨e3,e4⟩:=List.append_inj h6 (by omega);simp_all
theorem bHX{A:List aC}(h:Srt A){h':Nat}(hk:k<=h')(hh:h' < A.length)(x:aC)(hp:ltD (A.getD h' default) x=true):ltD (A.getD k default) x=true:=by
 have:=h.get hk hh;cases hc:ltD (A.getD k default) x with
 | true=>rfl
 | false=>rw[<-hp];exact(gH.ntrans _ _ _ this hc).symm
theorem aTS{A:List aC}(h:Srt A){h':Nat}(hk:k<=h')(hh:h' < A.length)(x:aC)(hp:ltD x (A.getD h' default)=false):ltD x (A.getD k default)=false:=by exact gH.ntrans _ _ _ hp (h.get hk hh)
section
variable (b:Bool) (P A B Q:List aC)
theorem aOI(x:aC)(hB:Srt B)(ho:gV (P++x::(B++Q)))(hn:(P++x::(B++Q)).length<=1000000000000000):
  Sq b (cK (fun s=>(vQ (P.length:Int) (P++x::(B++Q)) s).den) (((P.length+1:Nat):Int),((P.length+1+B.length:Nat):Int)))
   (sel (fun r:Int=>∃ n:Nat,r=((P.length+1+n:Nat):Int)/\n<=B.length/\(∀ k,k<n->ltD (B.getD k default) x=true)/\(∀ k,n<=k->k<B.length->ltD (B.getD k default) x=false)) (fun _=>False)):=by
 simp only[cE,fB]at hn;have hL:(P++x::(B++Q)).length=P.length+1+B.length+Q.length:=by simp; omega
 have e1:(P++x::(B++Q)).getD P.length default=x:=by grind
 have e2:∀ k,k<B.length->(P++x::(B++Q)).getD (P.length+1+k) default=B.getD k default:=by intro k hk;rw[eW,aF (by omega),show P.length+1+k-P.length=k+1 by omega,List.getD_cons_succ,eW,aB hk]
 refine(aKR b _ (fun h=>ltD ((P++x::(B++Q)).getD h default) x) (P.length+1) (P.length+1+B.length) (by omega) (fun i j h1 h2 h3=>?_) (fun i h1 h2=>?_) (fun h k h1 h2 h3 h4=>?_)).imp ?_
 ·unfold vQ;simp only[Tr.den];rw[Ir (by omega)];simp only[aS];rw[hL];rw[aB (by simp; omega),aB (by omega),aB (by omega),aB (by omega),aB (by omega)];rw[sO _ _ (ho.get _) (ho.get _),e1];simp only[aH];rw[show decide (dJ ((P++x::(B++Q)).getD ((i+j) / 2) default) x<0)=ltD ((P++x::(B++Q)).getD ((i+j) / 2) default) x from rfl];cases ltD ((P++x::(B++Q)).getD ((i+j) / 2) default) x with
  | true=>simp only[fZ,aH]; rw[aL (by omega)]
  | false=>rfl
 ·unfold vQ;simp only[Tr.den];rw[aF (by simp)]
 ·obtain⟨k',rfl⟩:∃ k',k=P.length+1+k':=⟨k-(P.length+1),by omega⟩;obtain⟨h',rfl⟩:∃ h',h=P.length+1+h':=⟨h-(P.length+1),by omega⟩;rw[e2 _ (by omega)]at h4 ⊢;exact bHX hB (by omega) (by omega) x h4
 ·intro z hz;cases z with
  | inr z=>exact hz
  | inl z=>
   obtain⟨n,rfl,h1,h2,h3,h4⟩:=hz;refine⟨n-(P.length+1),by omega,by omega,fun k hk=>?_,fun k hk1 hk2=>?_⟩
   all_goals grind
theorem aJB(y:aC)(hA:Srt A)(ho:gV (P++(A++y::Q)))(hn:(P++(A++y::Q)).length<=1000000000000000):
  Sq b (cK (fun s=>(vS ((P.length+A.length:Nat):Int) (P++(A++y::Q)) s).den) ((P.length:Int),((P.length+A.length:Nat):Int)))
   (sel (fun r:Int=>∃ n:Nat,r=((P.length+n:Nat):Int)/\n<=A.length/\(∀ k,k<n->ltD y (A.getD k default)=false)/\(∀ k,n<=k->k<A.length->ltD y (A.getD k default)=true)) (fun _=>False)):=by
 simp only[cE,fB]at hn;have hL:(P++(A++y::Q)).length=P.length+A.length+1+Q.length:=by simp; omega
 have e1:(P++(A++y::Q)).getD (P.length+A.length) default=y:=by grind
 have e2:∀ k,k<A.length->(P++(A++y::Q)).getD (P.length+k) default=A.getD k default:=by intro k hk;rw[eW,aF (by omega),show P.length+k-P.length=k by omega,eW,aB hk]
 refine(aKR b _ (fun h=>!ltD y ((P++(A++y::Q)).getD h default)) P.length (P.length+A.length) (by omega) (fun i j h1 h2 h3=>?_) (fun i h1 h2=>?_) (fun h k h1 h2 h3 h4=>?_)).imp ?_
 ·unfold vS;simp only[Tr.den];rw[Ir (by omega)];simp only[aS];rw[hL];rw[aB (by simp; omega),aB (by omega),aB (by omega),aB (by omega),aB (by omega)];rw[sO _ _ (ho.get _) (ho.get _),e1];simp only[aH];rw[show decide (dJ y ((P++(A++y::Q)).getD ((i+j) / 2) default)<0)=ltD y ((P++(A++y::Q)).getD ((i+j) / 2) default) from rfl];cases ltD y ((P++(A++y::Q)).getD ((i+j) / 2) default) with
  | true=>simp
  | false=>simp; rw[bS] <;> omega
 ·unfold vS;simp only[Tr.den];rw[aF (by simp)]
 ·obtain⟨k',rfl⟩:∃ k',k=P.length+k':=⟨k-P.length,by omega⟩;obtain⟨h',rfl⟩:∃ h',h=P.length+h':=⟨h-P.length,by omega⟩;rw[e2 _ (by omega)]at h4 ⊢;simp only[mC]at h4 ⊢;exact aTS hA (by omega) (by omega) y h4
 ·intro z hz;cases z with
  | inr z=>exact hz
  | inl z=>
   obtain⟨n,rfl,h1,h2,h3,h4⟩:=hz;refine⟨n-P.length,by omega,by omega,fun k hk=>?_,fun k hk1 hk2=>?_⟩
   all_goals grind
end
theorem oF(p q:Prop)[Decidable p][Decidable q]:(if decide p=true then some (decide q) else some false)=some (decide (p/\q)):=by by_cases hp:p <;> simp[hp]
theorem oV(h:x∈l.take n):∃ k,k<n/\k<l.length/\x=l.getD k default:=by obtain⟨k,hk,rfl⟩:=sS.1 h;simp only[gO]at hk;exact⟨k,by omega,by omega,by grind⟩
theorem dS(h:x∈l.drop n):∃ k,n<=k/\k<l.length/\x=l.getD k default:=by obtain⟨k,hk,rfl⟩:=sS.1 h;simp only[nV]at hk;exact⟨n+k,by omega,by omega,by grind⟩
theorem Srt.take{l:List aC}(h:Srt l)(n:Nat):Srt (l.take n):=List.Pairwise.sublist (List.take_sublist _ _) h
theorem Srt.drop{l:List aC}(h:Srt l)(n:Nat):Srt (l.drop n):=List.Pairwise.sublist (List.drop_sublist _ _) h
theorem Srt.nil:Srt []:=List.Pairwise.nil
theorem aBD(h:Srt l)(h1:∀ k,k<n->k<l.length->ltD x (l.getD k default)=false)(h2:∀ k,n<=k->k<l.length->ltD (l.getD k default) x=false):Srt (l.take n++x::l.drop n):=by
 rw[show x::l.drop n=[x]++l.drop n from rfl,Srt.app,Srt.app];refine⟨h.take n,⟨oT _ _,h.drop n,fun a ha y hy=>?_⟩,fun a ha y hy=>?_⟩
 ·simp only[cR]at ha;subst ha;obtain⟨k,h3,h4,rfl⟩:=dS hy;simp_all
 ·obtain⟨k,h3,h4,rfl⟩:=oV ha;simp only[dC,cR]at hy;rcases hy with rfl | hy
  ·simp_all
  ·obtain⟨k',h5,h6,rfl⟩:=dS hy;exact h.get (by omega) h6
theorem bLA{A B:List aC}(hA:Srt A)(hB:Srt B){u v:Nat}(hu:u<=A.length)(hv:v<=B.length)
  (h1:0<u->v<B.length->ltD (B.getD v default) (A.getD (u-1) default)=false)(h2:0<v->u<A.length->ltD (A.getD u default) (B.getD (v-1) default)=false)
  {C D:List aC}(hC:C.Perm (A.take u++B.take v))(hD:D.Perm (A.drop u++B.drop v))(sC:Srt C)(sD:Srt D):Srt (C++D)/\(C++D).Perm (A++B):=by
 constructor
 ·rw[Srt.app];refine⟨sC,sD,fun x hx y hy=>?_⟩;have hx:=hC.mem_iff.1 hx;have hy:=hD.mem_iff.1 hy;rw[dC]at hx hy;rcases hx with hx | hx
  ·obtain⟨i,i1,i2,rfl⟩:=oV hx;rcases hy with hy | hy
   ·obtain⟨j,j1,j2,rfl⟩:=dS hy;exact hA.get (by omega) j2
   ·obtain⟨j,j1,j2,rfl⟩:=dS hy;exact gH.ntrans _ _ _ (hB.get j1 j2) (gH.ntrans _ _ _ (h1 (by omega) (by omega)) (hA.get (i:=i) (j:=u-1) (by omega) (by omega)))
  ·obtain⟨i,i1,i2,rfl⟩:=oV hx;rcases hy with hy | hy
   ·obtain⟨j,j1,j2,rfl⟩:=dS hy;exact gH.ntrans _ _ _ (hA.get j1 j2) (gH.ntrans _ _ _ (h2 (by omega) (by omega)) (hB.get (i:=i) (j:=v-1) (by omega) (by omega)))
   ·obtain⟨j,j1,j2,rfl⟩:=dS hy;exact hB.get (by omega) j2
 ·refine(hC.append hD).trans ?_;have e:(A++B).Perm (A.take u++(A.drop u++(B.take v++B.drop v))):=by rw[gG,<-cT,gG]
  refine List.Perm.trans ?_ e.symm;rw[cT];refine oP _ ?_;rw[<-cT,<-cT];exact Pk _ Jq
section
variable (b:Bool) (P A B Q:List aC)
theorem aLY(hA:Srt A)(hB:Srt B)(ho:gV (P++(A++(B++Q))))(hn:(P++(A++(B++Q))).length<=1000000000000000)(i0 j0:Nat)(mid:Nat)(hmid:mid=(P.length+(P.length+A.length+B.length)) / 2)
  (h1:P.length<=i0)(h2:i0<=j0)(h3:j0<=P.length+A.length)(h4:j0<=mid)(h5:mid<=B.length+i0):
  Sq b (cK (fun s=>(qD (P.length:Int) ((P.length+A.length:Nat):Int) ((P.length+A.length+B.length:Nat):Int) (P++(A++(B++Q))) s).den) ((i0:Int),(j0:Int)))
   (sel (fun r:Int=>∃ n:Nat,r=(n:Int)/\i0<=n/\n<=j0/\(∀ c,i0<=c->c<n->ltD (B.getD (mid-1-c) default) (A.getD (c-P.length) default)=false)/\(∀ c,n<=c->c<j0->ltD (B.getD (mid-1-c) default) (A.getD (c-P.length) default)=true)) (fun _=>False)):=by
 simp only[cE]at hn;have hL:(P++(A++(B++Q))).length=P.length+A.length+B.length+Q.length:=by simp; omega
 have e1:∀ k,P.length<=k->k<P.length+A.length->(P++(A++(B++Q))).getD k default=A.getD (k-P.length) default:=by intro k k1 k2;rw[eW,aF (by omega),eW,aB (by omega)]
 have e2:∀ k,P.length+A.length<=k->k<P.length+A.length+B.length->(P++(A++(B++Q))).getD k default=B.getD (k-(P.length+A.length)) default:=by grind
 refine(aKR b _ (fun c=>!ltD (B.getD (mid-1-c) default) (A.getD (c-P.length) default)) i0 j0 h2 (fun i j q1 q2 q3=>?_) (fun i q1 q2=>?_) (fun h k q1 q2 q3 q4=>?_)).imp ?_
 ·unfold qD;simp only[Tr.den];rw[Ir (i:=P.length) (j:=P.length+A.length+B.length) (by omega),<-hmid,Ir (i:=i) (j:=j) (by omega)];have w1:IntKind.i64.wrap (IntKind.i64.wrap (IntKind.i64.wrap ((mid:Int)+((P.length+A.length:Nat):Int))-1)-(((i+j) / 2:Nat):Int))=((mid+(P.length+A.length)-1-(i+j) / 2:Nat):Int):=by rw[gS (by omega),bS (n:=((mid+(P.length+A.length):Nat):Int)-1) (by omega) (by omega),bS (by omega) (by omega)];omega
  rw[w1];simp only[aS];rw[hL];rw[aB (by simp; omega),aB (by omega),aB (by omega),aB (by omega),aB (by omega)];rw[sO _ _ (ho.get _) (ho.get _)];simp only[aH];rw[e1 ((i+j) / 2) (by omega) (by omega),e2 (mid+(P.length+A.length)-1-(i+j) / 2) (by omega) (by omega),show mid+(P.length+A.length)-1-(i+j) / 2-(P.length+A.length)=mid-1-(i+j) / 2 by omega];rw[show decide (dJ (B.getD (mid-1-(i+j) / 2) default) (A.getD ((i+j) / 2-P.length) default)<0)=ltD (B.getD (mid-1-(i+j) / 2) default) (A.getD ((i+j) / 2-P.length) default) from rfl];cases ltD (B.getD (mid-1-(i+j) / 2) default) (A.getD ((i+j) / 2-P.length) default) with
  | true=>simp
  | false=>simp; rw[bS] <;> omega
 ·unfold qD;simp only[Tr.den];rw[aF (by simp)]
 ·simp only[mC]at q4 ⊢;exact gH.ntrans _ _ _ (hB.get (i:=mid-1-h) (j:=mid-1-k) (by omega) (by omega)) (gH.ntrans _ _ _ q4 (hA.get (i:=k-P.length) (j:=h-P.length) (by omega) (by omega)))
 simp_all
end
theorem bMA(b:Bool)(f:aAI)(P A B Q:List aC)(hA0:A≠[])(hB0:B≠[])(hA:Srt A)(hB:Srt B)(ho:gV (P++(A++(B++Q))))(hn:(P++(A++(B++Q))).length<=1000000000000000)
  (hrec:∀ P' A' B' Q',A'≠[]->B'≠[]->Srt A'->Srt B'->gV (P'++(A'++(B'++Q')))->(P'++(A'++(B'++Q'))).length<=1000000000000000->A'.length+B'.length<A.length+B.length ->
   Sq b (f.1 (pU P' A' B' Q')) (fun d=>∃ C,d=P'++(C++Q')/\C.Perm (A'++B')/\Srt C)):
  Sq b (Bv f (P.length:Int) ((P.length+A.length:Nat):Int) ((P.length+A.length+B.length:Nat):Int) (P++(A++(B++Q)))).den (fun d=>∃ C,d=P++(C++Q)/\C.Perm (A++B)/\Srt C):=by
 have hA1:0<A.length:=gU.2 hA0;have hB1:0<B.length:=gU.2 hB0;have hn':=hn;simp only[cE]at hn;have hL:(P++(A++(B++Q))).length=P.length+A.length+B.length+Q.length:=by simp; omega
 unfold Bv;simp only[Tr.den];rw[fH (n:=P.length+A.length) (m:=P.length) (by omega) (by omega),fH (n:=P.length+A.length+B.length) (m:=P.length+A.length) (by omega) (by omega)];by_cases c1:A.length=1
 ·obtain⟨x,rfl⟩:=Sv.1 c1;rw[aB (by simp)];simp only[List.singleton_append,wH]at *
  refine Sq.bind _ (aOI b P B Q x hB ho hn') (fun z hz=>?_);cases z with
  | inr z=>exact hz.elim
  | inl z=>
   obtain⟨n,rfl,h1,h2,h3⟩:=hz;simp only[sel];have hb:B++Q=B.take n++(B.drop n++Q):=by rw[<-cT,gG]
   rw[hb,bCG P (B.take n) (B.drop n++Q) x _ (by simp; omega) (by simp_all)];simp only[aH,sel];refine aA.2 ⟨B.take n++x::B.drop n,by simp,?_,aBD hB (fun k k1 k2=>Bg (h2 k k1)) h3⟩;rw[List.perm_middle.congr_left,gG]
 ·rw[aF (by simp; omega)];by_cases c2:B.length=1
  ·obtain⟨y,rfl⟩:=Sv.1 c2;rw[aB (wW (by simp))];simp only[List.singleton_append,wH]at *
   refine Sq.bind _ (aJB b P A Q y hA ho hn') (fun z hz=>?_);cases z with
   | inr z=>exact hz.elim
   | inl z=>
    obtain⟨n,rfl,h1,h2,h3⟩:=hz;simp only[sel];have hb:P++(A++y::Q)=(P++A.take n)++(A.drop n++y::Q):=by rw[cT,<-cT (A.take n),gG]
    rw[hb,aRU (P++A.take n) (A.drop n) Q y _ _ (by simp; omega) (by simp; omega) (by simp_all)];simp only[aH,sel];refine aA.2 ⟨A.take n++y::A.drop n,by simp,?_,aBD hA (fun k k1 k2=>h2 k k1) (fun k k1 k2=>Bg (h3 k k1 k2))⟩;refine List.perm_middle.trans ?_;rw[gG];exact(List.perm_append_singleton y A).symm
  ·rw[aF (by simp; omega)];rw[Ir (i:=P.length) (j:=P.length+A.length+B.length) (by omega)];generalize hmid:(P.length+(P.length+A.length+B.length)) / 2=mid;have key:∀ (i0 j0:Nat),P.length<=i0->i0<=j0->j0<=P.length+A.length->j0<=mid->mid<=B.length+i0->(i0=P.length\/mid=B.length+i0)->(j0=P.length+A.length\/j0=mid) ->
     ∀ K:Int->Option (List aC),(∀ u v:Nat,u<=A.length->v<=B.length->u+v+P.length=mid->(0<u->v<B.length->ltD (B.getD v default) (A.getD (u-1) default)=false)->(0<v->u<A.length->ltD (A.getD u default) (B.getD (v-1) default)=false) ->
      Sq b (K ((P.length+u:Nat):Int)) (fun d=>∃ C,d=P++(C++Q)/\C.Perm (A++B)/\Srt C)) ->
     Sq b ((cK (fun s=>(qD (P.length:Int) ((P.length+A.length:Nat):Int) ((P.length+A.length+B.length:Nat):Int) (P++(A++(B++Q))) s).den) ((i0:Int),(j0:Int))).bind (sel K some)) (fun d=>∃ C,d=P++(C++Q)/\C.Perm (A++B)/\Srt C):=by
    intro i0 j0 h1 h2 h3 h4 h5 h6 h7 K hK;refine Sq.bind _ (aLY b P A B Q hA hB ho hn' i0 j0 mid hmid.symm h1 h2 h3 h4 h5) (fun z hz=>?_);cases z with
    | inr z=>exact hz.elim
    | inl z=>
     obtain⟨n,rfl,q1,q2,q3,q4⟩:=hz;simp only[sel];have:=hK (n-P.length) (mid-n) (by omega) (by omega) (by omega) (fun u1 u2=>?_) (fun u1 u2=>?_)
     ·rwa [show P.length+(n-P.length)=n by omega]at this
     ·have:=q3 (n-1) (by omega) (by omega)
      rwa [show mid-1-(n-1)=mid-n by omega,show n-1-P.length=n-P.length-1 by omega]at this
     ·have:=q4 n (by omega) (by omega);rw[show mid-1-n=mid-n-1 by omega]at this;exact Bg this
   have body:∀ u v:Nat,u<=A.length->v<=B.length->u+v+P.length=mid->(0<u->v<B.length->ltD (B.getD v default) (A.getD (u-1) default)=false)->(0<v->u<A.length->ltD (A.getD u default) (B.getD (v-1) default)=false) ->
     Sq b ((if decide (((P.length+u:Nat):Int)<((P.length+A.length:Nat):Int))=true then some (decide (((P.length+A.length:Nat):Int)<IntKind.i64.wrap (IntKind.i64.wrap ((mid:Int)+((P.length+A.length:Nat):Int))-((P.length+u:Nat):Int)))) else some false).bind fun j27=>
      (if j27=true then (Pa ((P.length+u:Nat):Int) ((P.length+A.length:Nat):Int) (IntKind.i64.wrap (IntKind.i64.wrap ((mid:Int)+((P.length+A.length:Nat):Int))-((P.length+u:Nat):Int))) (P++(A++(B++Q)))).bind (fun r=>some r) else some (P++(A++(B++Q)))).bind fun j28=>
      (if decide ((P.length:Int)<((P.length+u:Nat):Int))=true then some (decide (((P.length+u:Nat):Int)<(mid:Int))) else some false).bind fun j30=>
      (if j30=true then (f.1 ((P.length:Int),((P.length+u:Nat):Int),(mid:Int),j28)).bind (fun r=>some r) else some j28).bind fun j31=>
      (if decide ((mid:Int)<IntKind.i64.wrap (IntKind.i64.wrap ((mid:Int)+((P.length+A.length:Nat):Int))-((P.length+u:Nat):Int)))=true then some (decide (IntKind.i64.wrap (IntKind.i64.wrap ((mid:Int)+((P.length+A.length:Nat):Int))-((P.length+u:Nat):Int))<((P.length+A.length+B.length:Nat):Int))) else some false).bind fun j33=>
      (if j33=true then (f.1 ((mid:Int),IntKind.i64.wrap (IntKind.i64.wrap ((mid:Int)+((P.length+A.length:Nat):Int))-((P.length+u:Nat):Int)),((P.length+A.length+B.length:Nat):Int),j31)).bind (fun r=>some r) else some j31).bind fun j34=>some j34)
      (fun d=>∃ C,d=P++(C++Q)/\C.Perm (A++B)/\Srt C):=by
    intro u v hu hv huv f1 f2;have w2:IntKind.i64.wrap (IntKind.i64.wrap ((mid:Int)+((P.length+A.length:Nat):Int))-((P.length+u:Nat):Int))=((P.length+A.length+v:Nat):Int):=by rw[gS (by omega),fH (by omega) (by omega)]; omega
    rw[w2];simp only[oF,aH];have eA:=gG u A;have eB:=gG v B;have lA1:(A.take u).length=u:=by simp; omega
    have lB1:(B.take v).length=v:=by simp; omega
    have lA2:(A.drop u).length=A.length-u:=by simp
    have lB2:(B.drop v).length=B.length-v:=by simp
    have hs:P++(A++(B++Q))=(P++A.take u)++(A.drop u++(B.take v++(B.drop v++Q))):=by grind
    refine Sq.bind (fun d=>d=P++(A.take u++(B.take v++(A.drop u++(B.drop v++Q))))) ?_ (fun j28 h28=>?_)
    ·by_cases hc:(((P.length+u:Nat):Int)<((P.length+A.length:Nat):Int))/\(((P.length+A.length:Nat):Int)<((P.length+A.length+v:Nat):Int))
     ·rw[aB (by simpa using hc)];rw[hs]at hn' ⊢;have h:=aHI b (P++A.take u) (A.drop u) (B.take v) (B.drop v++Q) (fun h0=>by grind) (fun h0=>by grind)
       ((P.length+u:Nat):Int) ((P.length+A.length:Nat):Int) ((P.length+A.length+v:Nat):Int) (by simp; omega) (by simp; omega) (by simp; omega) hn'
      refine Sq.bind _ h (fun d hd=>aA.2 ?_);grind
     ·rw[aF (by simpa using hc)];refine aA.2 ?_;rw[hs];by_cases hu':u=A.length
      ·grind
      ·have:v=0:=by omega
       grind
    subst h28;have oD:gV (P++(A.take u++(B.take v++(A.drop u++(B.drop v++Q))))):=by refine ho.perm ?_;rw[hs];simp only[cT];exact oP _ (oP _ (List.perm_append_comm_assoc _ _ _))
    refine Sq.bind (fun d=>∃ C,d=P++(C++(A.drop u++(B.drop v++Q)))/\C.Perm (A.take u++B.take v)/\Srt C) ?_ (fun j31 h31=>?_)
    ·by_cases hc:((P.length:Int)<((P.length+u:Nat):Int))/\(((P.length+u:Nat):Int)<(mid:Int))
     ·rw[aB (by simpa using hc)];have e:((P.length:Int),((P.length+u:Nat):Int),(mid:Int),P++(A.take u++(B.take v++(A.drop u++(B.drop v++Q)))))=pU P (A.take u) (B.take v) (A.drop u++(B.drop v++Q)):=by unfold pU; rw[lA1,lB1,<-huv]; simp; omega
      rw[e];refine Sq.bind _ (hrec _ _ _ _ (fun h0=>by grind) (fun h0=>by grind) (hA.take u) (hB.take v) oD (by simp; omega) (by omega)) (fun d hd=>aA.2 hd)
     ·rw[aF (by simpa using hc)];refine aA.2 ⟨A.take u++B.take v,by simp,.refl _,?_⟩;by_cases hu':u=0
      ·subst hu'; simpa using hB.take v
      ·have:v=0:=by omega
       subst this; simpa using hA.take u
    obtain⟨C,rfl,pC,sC⟩:=h31;have lC:C.length=u+v:=by rw[pC.length_eq]; simp; omega
    have fin:∀ D:List aC,D.Perm (A.drop u++B.drop v)->Srt D->Srt (C++D)/\(C++D).Perm (A++B):=fun D pD sD=>bLA hA hB hu hv f1 f2 pC pD sC sD;refine Sq.bind (fun d=>∃ C,d=P++(C++Q)/\C.Perm (A++B)/\Srt C) ?_ (fun j34 h34=>aA.2 h34);by_cases hc:((mid:Int)<((P.length+A.length+v:Nat):Int))/\(((P.length+A.length+v:Nat):Int)<((P.length+A.length+B.length:Nat):Int))
    ·rw[aB (by simpa using hc)];have e:((mid:Int),((P.length+A.length+v:Nat):Int),((P.length+A.length+B.length:Nat):Int),P++(C++(A.drop u++(B.drop v++Q))))=pU (P++C) (A.drop u) (B.drop v) Q:=by unfold pU; rw[lA2,lB2,<-huv]; simp; omega
     rw[e];refine Sq.bind _ (hrec _ _ _ _ (fun h0=>by grind) (fun h0=>by grind) (hA.drop u) (hB.drop v) ?_ (by simp; omega) (by omega)) (fun d hd=>?_)
     ·refine oD.perm ?_;rw[cT];refine oP _ ?_;rw[<-cT];exact Pk _ pC.symm
     ·obtain⟨D,rfl,pD,sD⟩:=hd;exact aA.2 ⟨C++D,by simp,(fin D pD sD).2,(fin D pD sD).1⟩
    ·rw[aF (by simpa using hc)];have:=fin (A.drop u++B.drop v) (.refl _) (by
      by_cases hu':u=A.length
      ·have:A.drop u=[]:=by grind
       rw[this]; simpa using hB.drop v
      ·have:B.drop v=[]:=by rw[show v=B.length by omega]; simp
       rw[this]; simpa using hA.drop u)
     exact aA.2 ⟨C++(A.drop u++B.drop v),by simp,this.2,this.1⟩
   by_cases hm:mid<P.length+A.length
   ·rw[aB (by simp; omega)];simp only[aH];rw[gS (n:=mid) (m:=P.length+A.length) (by omega),fH (n:=mid+(P.length+A.length)) (by omega) (by omega),<-gS (n:=mid) (m:=P.length+A.length) (by omega)];exact key (mid+(P.length+A.length)-(P.length+A.length+B.length)) mid (by omega) (by omega) (by omega) (by omega) (by omega) (by omega) (by omega) _ body
   ·rw[aF (by simp; omega)];simp only[aH];exact key P.length (P.length+A.length) (by omega) (by omega) (by omega) (by omega) (by omega) (by omega) (by omega) _ body
theorem aZN(P A B Q:List aC)(hA0:A≠[])(hB0:B≠[])(hA:Srt A)(hB:Srt B)(ho:gV (P++(A++(B++Q))))(hn:(P++(A++(B++Q))).length<=1000000000000000):
  Sp (Xf (P.length:Int) ((P.length+A.length:Nat):Int) ((P.length+A.length+B.length:Nat):Int) (P++(A++(B++Q)))) (fun d=>∃ C,d=P++(C++Q)/\C.Perm (A++B)/\Srt C):=by
 have h:=mB (C:=fun (a:Int×Int×Int×List aC) (x:Option (List aC))=>dD Proofs.Tryz.prog 272 [.own 30000,.t (.int .i64 (a.1)),.t (.int .i64 (a.2.1)),.t (.int .i64 (a.2.2.1)),.fn (.func 69) 0 []] [(30000,.arr 50 3 (a.2.2.2.length) (eF aK a.2.2.2))] [30000] x (fun (y:List aC)=>.tup []) (fun (y:List aC)=>[(30000,.arr 50 3 (y.length) (eF aK y))]))
  (fun a=>⟨bL Proofs.Tryz.func272 (by rfl),fun _ h=>nomatch h⟩) (fun rec a=>Bv rec a.1 a.2.1 a.2.2.1 a.2.2.2) (fun rec a=>Mb rec a.1 a.2.1 a.2.2.1 a.2.2.2)
  bMC (fun a=>(a.2.2.1-a.1).toNat) bLW (fun b f a ha hrec=>?_) true (pU P A B Q) ⟨P,A,B,Q,rfl,hA0,hB0,hA,hB,ho,hn⟩
 ·exact h.imp fun d hd=>hd P A B Q rfl
 ·obtain⟨P,A,B,Q,rfl,hA0,hB0,hA,hB,ho,hn⟩:=ha;refine(bMA b f P A B Q hA0 hB0 hA hB ho hn (fun P' A' B' Q' a1 a2 a3 a4 a5 a6 a7=>?_)).imp fun d hd P' A' B' Q' he=>?_
  ·exact(hrec (pU P' A' B' Q') ⟨P',A',B',Q',rfl,a1,a2,a3,a4,a5,a6⟩ (by simp only[pU]; omega)).imp fun d hd=>hd P' A' B' Q' rfl
  ·obtain⟨rfl,rfl,rfl,rfl⟩:=aGE he;exact hd
def mO(a b:Nat)(l:List aC):Prop:=∀ i j,a<=i->i<j->j<b->ltD (l.getD j default) (l.getD i default)=false
structure PI (a b:Nat)(l d:List aC):Prop where
 len:d.length=l.length
 out:∀ k,k<a\/b<=k->d.getD k default=l.getD k default
 perm:d.Perm l
theorem mO.congr{a b:Nat}{d:List aC}(h:mO a b l)(he:∀ k,a<=k->k<b->d.getD k default=l.getD k default):mO a b d:=by intro i j h1 h2 h3;rw[he i h1 (by omega),he j (by omega) h3];exact h i j h1 h2 h3
theorem mO.sub{a b a' b':Nat}(h:mO a b l)(h1:a<=a')(h2:b'<=b):mO a' b' l:=fun i j q1 q2 q3=>h i j (by omega) q2 (by omega)
theorem Su(a m b:Nat)(l:List aC)(h1:a<m)(h2:m<b)(h3:b<=l.length)(ha:mO a m l)(hb:mO m b l)(ho:gV l)(hn:l.length<=1000000000000000):
  Sp (Xf (a:Int) (m:Int) (b:Int) l) (fun d=>PI a b l d/\mO a b d):=by
 have e:l=l.take a++((l.drop a).take (m-a)++((l.drop m).take (b-m)++l.drop b)):=by
  have e1:l.drop m=(l.drop m).take (b-m)++l.drop b:=by
   conv=>lhs; rw[<-gG (b-m) (l.drop m)]
   rw[sZ,show m+(b-m)=b by omega]
  have e2:l.drop a=(l.drop a).take (m-a)++l.drop m:=by
   conv=>lhs; rw[<-gG (m-a) (l.drop a)]
   rw[sZ,show a+(m-a)=m by omega]
  rw[<-e1,<-e2,gG]
 have lP:(l.take a).length=a:=by simp; omega
 have lA:((l.drop a).take (m-a)).length=m-a:=by simp; omega
 have lB:((l.drop m).take (b-m)).length=b-m:=by simp; omega
 have gA:∀ k,k<m-a->((l.drop a).take (m-a)).getD k default=l.getD (a+k) default:=by grind
 have gB:∀ k,k<b-m->((l.drop m).take (b-m)).getD k default=l.getD (m+k) default:=by grind
 have h:=aZN (l.take a) ((l.drop a).take (m-a)) ((l.drop m).take (b-m)) (l.drop b) (fun h0=>by grind) (fun h0=>by grind)
  (Rv fun i j hij hj=>by rw[gA i (by omega),gA j (by omega)]; exact ha _ _ (by omega) (by omega) (by omega))
  (Rv fun i j hij hj=>by rw[gB i (by omega),gB j (by omega)]; exact hb _ _ (by omega) (by omega) (by omega)) (by grind) (by grind)
 rw[lP,lA,lB,<-e,show a+(m-a)=m by omega,show m+(b-m)=b by omega]at h;refine h.imp fun d hd=>?_;obtain⟨C,rfl,pC,sC⟩:=hd;have lC:C.length=b-a:=by rw[pC.length_eq,cE,lA,lB]; omega
 have lD:(l.drop b).length=l.length-b:=by simp
 refine⟨⟨by grind,fun k hk=>?_,?_⟩,?_⟩
 ·rcases hk with hk | hk
  ·grind
  ·rw[eW,aF (by omega),eW,aF (by omega),lP,lC];by_cases hl:k<l.length
   ·rw[dF (by omega),dF hl]; simp; congr 1; omega
   ·rw[eU,Ao (by omega),eU,Ao (by omega)]
 ·conv=>rhs; rw[e]
  refine oP _ ?_;rw[<-cT];exact Pk _ pC
 ·intro i j q1 q2 q3;rw[eW,aF (by omega),eW,aB (by omega),eW,aF (by omega),eW,aB (by omega)];exact sC.get (by omega) (by omega)
theorem aFC(a b:Nat)(l:List aC)(hab:a<=b)(hb:b<=l.length)(ho:gV l)(hn:l.length<=1000000000000000):Sp (Nf (a:Int) (b:Int) l) (fun d=>PI a b l d/\mO a b d):=by
 refine Sq.of_eq (aHT a b l hb hab hn ho) ?_;have h:=Sort.insertionSort_holds gH l.toArray a b hab (by omega);obtain⟨⟨h1,h2,h3⟩,h4⟩:=h;have g:∀ (k:Nat),(Sort.insertionSort ltD l.toArray a b).toList.getD k default=(Sort.insertionSort ltD l.toArray a b)[k]!:=fun k=>by rw[<-yS]
 refine⟨⟨by omega,fun k hk=>by rw[g,h2 k hk,yS],?_⟩,fun i j q1 q2 q3=>by rw[g,g]; exact h4 i j q1 q2 q3⟩;have h5:=Sort.permIn_mono _ _ a b 0 l.length (by omega) (by omega) (by simp) (show Sort.PermIn a b l.toArray (Sort.insertionSort ltD l.toArray a b) from ⟨h1,h2,h3⟩);have h6:=h5.2.2;rw[show l.length=l.toArray.size by simp]at h6;rw[show (Sort.insertionSort ltD l.toArray a b).extract 0 l.toArray.size=Sort.insertionSort ltD l.toArray a b by simp_all]at h6;simp_all
theorem zC{w a c:Nat}(ha:w∣a)(hc:w∣c)(h:c<a):c+w<=a:=by have:=Nat.le_of_dvd (by omega) (Nat.dvd_sub ha hc);omega
theorem aHJ(l:List aC)(ho:gV l)(hn:l.length<=100000000000000):Sp (aAS (l.length:Int) l) (fun d=>d.Perm l/\Srt d):=by
 unfold aAS Yq;simp only[Tr.den,cD];refine Sq.while (fun s:List aC×Int×Int=>∃ a:Nat,s.2.1=a/\s.2.2=((a+20:Nat):Int)/\20∣a/\a<=l.length/\s.1.Perm l/\∀ c,20∣c->c+20<=a->mO c (c+20) s.1) (fun s=>(l.length-s.2.1).toNat) (fun s hs=>?_)
  ⟨0,rfl,rfl,by simp,by omega,.refl _,fun c h1 h2=>by omega⟩
 obtain⟨d,i,j⟩:=s;obtain⟨a,h1,h2,h3,h4,h5,h6⟩:=hs;simp only at h1 h2 h5 h6;subst h1 h2;have hlen:=h5.length_eq;unfold Kx;simp only[Tr.den];by_cases hc:a+20<=l.length
 ·rw[aB (by simp; omega)];refine cD.2 ((aFC a (a+20) d (by omega) (by omega) (ho.perm h5.symm) (by omega)).imp fun d' hd'=>?_);rw[bS (by omega) (by omega)];refine aA.2 ⟨⟨a+20,rfl,by simp,?_,hc,hd'.1.perm.trans h5,fun c q1 q2=>?_⟩,by grind⟩
  ·omega
  ·by_cases hca:c<a
   ·exact(h6 c q1 (zC h3 q1 hca)).congr fun k k1 k2=>hd'.1.out k (.inl (by omega))
   grind
 ·rw[aF (by simp; omega)];refine aA.2 ?_;simp only[sel];refine cD.2 ((aFC a l.length d h4 (by omega) (ho.perm h5.symm) (by omega)).imp fun d2 hd2=>?_);obtain⟨p2,s2⟩:=hd2;have hp2:d2.Perm l:=p2.perm.trans h5;have b2:∀ c,20∣c->mO c (min (c+20) l.length) d2:=by
   intro c hc';by_cases hca:c<a
   ·have:=zC h3 hc' hca;exact((h6 c hc' this).congr fun k k1 k2=>p2.out k (.inl (by omega))).sub (by omega) (by omega)
   ·exact s2.sub (by omega) (by omega)
  clear h6 p2 s2;refine cD.2 ?_;refine Sq.while (fun s:List aC×Int=>∃ w:Nat,s.2=w/\0<w/\w<=400000000000000/\s.1.Perm l/\∀ c,w∣c->mO c (min (c+w) l.length) s.1) (fun s=>(l.length-s.2).toNat) (fun s hs=>?_) ⟨20,rfl,by omega,by omega,hp2,b2⟩;obtain⟨d,i⟩:=s;obtain⟨w,k1,k2,k3,k4,k5⟩:=hs;simp only at k1 k4 k5;subst k1;unfold Kh;simp only[Tr.den];by_cases hw:w<l.length
  ·rw[aB (by simp; omega)];have e2w:IntKind.i64.wrap (2*(w:Int))=((2*w:Nat):Int):=by rw[bS] <;> omega
   rw[e2w];refine cD.2 ?_;refine Sq.while (fun s:List aC×Int×Int=>∃ a:Nat,s.2.1=a/\s.2.2=((a+2*w:Nat):Int)/\(2*w)∣a/\a<=l.length/\s.1.Perm l/\(∀ c,(2*w)∣c->c+2*w<=a->mO c (c+2*w) s.1)/\∀ c,w∣c->a<=c->mO c (min (c+w) l.length) s.1) (fun s=>(l.length-s.2.1).toNat) (fun s hs=>?_)
    ⟨0,rfl,by simp,by simp,by omega,k4,fun c q1 q2=>by omega,fun c q1 q2=>k5 c q1⟩
   obtain⟨d,i,j⟩:=s;obtain⟨a,g1,g2,g3,g4,g5,g6,g7⟩:=hs;simp only at g1 g2 g5 g6 g7;subst g1 g2;have hlen:=g5.length_eq;have gw:w∣a:=Nat.dvd_trans ⟨2,by omega⟩ g3;have gw':w∣a+w:=Nat.dvd_add gw (Nat.dvd_refl w);unfold Jn;simp only[Tr.den];by_cases hb:a+2*w<=l.length
   ·rw[aB (by simp; omega),gS (by omega),e2w,gS (by omega)];refine cD.2 ((Su a (a+w) (a+2*w) d (by omega) (by omega) (by omega) ((g7 a gw (by omega)).sub (by omega) (by omega)) ((g7 (a+w) gw' (by omega)).sub (by omega) (by omega)) (ho.perm g5.symm) (by omega)).imp fun d' hd'=>?_);refine aA.2 ⟨⟨a+2*w,rfl,rfl,Nat.dvd_add g3 (Nat.dvd_refl _),hb,hd'.1.perm.trans g5,fun c q1 q2=>?_,fun c q1 q2=>?_⟩,by grind⟩
    ·by_cases hca:c<a
     ·have:=zC g3 q1 hca;exact(g6 c q1 this).congr fun k k1 k2=>hd'.1.out k (.inl (by omega))
     grind
    ·exact(g7 c q1 (by omega)).congr fun k k1 k2=>hd'.1.out k (.inr (by omega))
   ·rw[aF (by simp; omega)];refine aA.2 ?_;simp only[sel];rw[gS (by omega)];refine Sq.bind (fun d'=>d'.Perm l/\mO a l.length d'/\∀ k,k<a->d'.getD k default=d.getD k default) ?_ (fun d' hd'=>?_)
    ·by_cases hm:a+w<l.length
     ·rw[aB (by simp; omega)];refine cD.2 ((Su a (a+w) l.length d (by omega) (by omega) (by omega) ((g7 a gw (by omega)).sub (by omega) (by omega)) ((g7 (a+w) gw' (by omega)).sub (by omega) (by omega)) (ho.perm g5.symm) (by omega)).imp fun d' hd'=>?_);exact aA.2 ⟨hd'.1.perm.trans g5,hd'.2,fun k hk=>hd'.1.out k (.inl hk)⟩
     ·rw[aF (by simp; omega)];exact aA.2 ⟨g5,(g7 a gw (by omega)).sub (by omega) (by omega),fun _ _=>rfl⟩
    ·obtain⟨q1,q2,q3⟩:=hd';rw[show IntKind.i64.wrap ((w:Int)*2)=((2*w:Nat):Int) by rw[bS] <;> omega];refine aA.2 ⟨⟨2*w,rfl,by omega,by omega,q1,fun c hc'=>?_⟩,by omega⟩;by_cases hca:c<a
     ·have:=zC g3 hc' hca;exact((g6 c hc' this).congr fun k k1 k2=>q3 k (by omega)).sub (by omega) (by omega)
     ·exact q2.sub (by omega) (by omega)
  ·rw[aF (by simp; omega)];refine aA.2 ?_;simp only[sel];refine aA.2 ⟨k4,Rv fun i j hij hj=>?_⟩;have:=k5 0 (by simp);rw[k4.length_eq]at hj;exact this i j (by omega) hij (by omega)
theorem aMF(l:List aC)(ho:gV l)(hn:l.length<=100000000000000):Sp (aPM l) (fun d=>d.Perm l/\Srt d):=by unfold aPM aKX;simp only[Tr.den,cD];exact(aHJ l ho hn).imp fun d hd=>aA.2 hd
abbrev Pl:=Int×List aE
def wt(p:Pl->Bool):List aC->Int
 | []=>0
 | x::l=>(if p (pl x)=true then x.N else 0)+wt p l
theorem eT(p:Pl->Bool)(l r:List aC):wt p (l++r)=wt p l+wt p r:=by
 induction l with
 | nil=>simp[wt]
 | cons x l ih=>simp only[rV,wt,ih]; omega
theorem aVH(p:Pl->Bool)(h:l.Perm r):wt p l=wt p r:=by
 induction h with
 | nil=>rfl
 | cons x _ ih=>simp only[wt,ih]
 | swap x y l=>simp only[wt]; omega
 | trans _ _ h1 h2=>omega
abbrev W (n:Int):Int:=IntKind.i64.wrap n
def gP(l r:List aC):Prop:=∀ p,W (wt p l)=W (wt p r)
theorem mG{b c d:Int}(h:W a=W c)(h':W b=W d):W (a+b)=W (c+d):=by
 have e1:W (a+b)=W (W a+W b):=by show IntKind.i64.wrap _=IntKind.i64.wrap _; rw[lJ,Ln]
 have e2:W (c+d)=W (W c+W d):=by show IntKind.i64.wrap _=IntKind.i64.wrap _; rw[lJ,Ln]
 rw[e1,e2,h,h']
theorem gP.refl(l:List aC):gP l l:=fun _=>rfl
theorem gP.symm{l r:List aC}(h:gP l r):gP r l:=fun p=>(h p).symm
theorem gP.trans{l r s:List aC}(h:gP l r)(h':gP r s):gP l s:=fun p=>(h p).trans (h' p)
theorem gP.app{l' r':List aC}(h:gP l r)(h':gP l' r'):gP (l++l') (r++r'):=fun p=>by rw[eT,eT]; exact mG (h p) (h' p)
theorem gP.of_perm(h:l.Perm r):gP l r:=fun p=>by rw[aVH p h]
def fF(n:Int):Prop:=-9223372036854775808<=n/\n<=9223372036854775807
theorem aXK{n:Int}(h:fF n):W n=n:=bS h.1 h.2
theorem aFZ(n:Int):fF (W n):=qZ n
structure Can (l:List aC):Prop where
 lt:l.Pairwise (fun x y=>dJ x y<0)
 nz:∀ x,x∈l->x.N≠0
 n64:∀ x,x∈l->fF x.N
theorem Can.nil:Can []:=⟨.nil,by simp,by simp⟩
theorem Can.tail(h:Can (x::l)):Can l:=⟨(iZ.1 h.lt).2,fun y hy=>h.nz y (cZ _ hy),fun y hy=>h.n64 y (cZ _ hy)⟩
theorem Can.head(h:Can (x::l)):∀ y,y∈l->dJ x y<0:=(iZ.1 h.lt).1
theorem aBQ{p:Pl->Bool}(h:∀ y,y∈l->p (pl y)=false):wt p l=0:=by
 induction l with
 | nil=>rfl
 | cons x l ih=>simp only[wt,h x (dB),ih fun y hy=>h y (cZ _ hy)]; rfl
theorem Oa(h:dJ x y<0):pl x≠pl y:=by intro he;rw[yM,he,(TO.place.eq _ _).2 rfl]at h;omega
theorem gZ:dJ x y=0↔pl x=pl y:=TO.place.eq (pl x) (pl y)
theorem uT:0<dJ x y↔dJ y x<0:=(TO.place.sw (pl y) (pl x)).symm
def at1(q:Pl):Pl->Bool:=fun r=>aMU q r==0
theorem aCK{q r:Pl}:at1 q r=true↔q=r:=by unfold at1; rw[jI]; exact TO.place.eq _ _
theorem aRN(q:Pl):at1 q q=true:=aCK.2 rfl
theorem Wv{q r:Pl}(h:q≠r):at1 q r=false:=by
 cases hc:at1 q r with
 | false=>rfl
 | true=>exact absurd (aCK.1 hc) h
theorem Can.wt_mem(h:Can l)(hx:x∈l):wt (at1 (pl x)) l=x.N:=by
 induction l with
 | nil=>simp at hx
 | cons y l ih=>
  simp only[wt];rcases bH.1 hx with rfl | hx'
  ·rw[aB (aRN _),aBQ fun z hz=>Wv (Oa (h.head z hz))]; omega
  ·rw[ih h.tail hx',aF (by rw[Wv (Ne.symm (Oa (h.head x hx')))]; simp)]; omega
theorem Can.wt_not{q:Pl}(hx:∀ y,y∈l->pl y≠q):wt (at1 q) l=0:=aBQ fun y hy=>Wv (Ne.symm (hx y hy))
theorem bHW(h:pl x=pl y)(hn:x.N=y.N):x=y:=by cases x; cases y;simp only[pl,gJ]at h hn;simp_all
theorem Can.ext:∀ {l r:List aC},Can l->Can r->gP l r->l=r:=by
 have key:∀ {x:aC} {l r:List aC},Can (x::l)->gP (x::l) r->(∀ y,y∈r->dJ x y<0)->False:=by intro x l r hl hs hy;have h1:=hs (at1 (pl x));rw[hl.wt_mem dB,Can.wt_not (fun y h=>Ne.symm (Oa (hy y h)))]at h1;rw[aXK (hl.n64 x dB)]at h1;exact hl.nz x dB h1
 intro l
 induction l with
 | nil=>
  intro r _ hr hs;cases r with
  | nil=>rfl
  | cons y r=>exact(key hr hs.symm (by simp)).elim
 | cons x l ih=>
  intro r hl hr hs;cases r with
  | nil=>grind
  | cons y r=>
   by_cases h1:dJ x y<0
   ·exact(key hl hs fun z hz=>by
     rcases bH.1 hz with rfl | hz
     ·exact h1
     ·exact rB h1 (hr.head z hz)).elim
   ·by_cases h2:dJ y x<0
    ·exact(key hr hs.symm fun z hz=>by
      rcases bH.1 hz with rfl | hz
      ·exact h2
      ·exact rB h2 (hl.head z hz)).elim
    ·have h3:dJ x y=0:=by have:=uT (x:=x) (y:=y);omega
     have hp:=gZ.1 h3;have hn:x.N=y.N:=by have h4:=hs (at1 (pl x));rw[hl.wt_mem dB,hp,hr.wt_mem dB,aXK (hl.n64 x dB),aXK (hr.n64 y dB)]at h4;exact h4
     have hxy:=bHW hp hn;subst hxy;rw[ih hl.tail hr.tail fun p=>?_];have h5:=hs p;simp only[wt]at h5;have h6:=mG (a:=-(if p (pl x)=true then x.N else 0)) (c:=-(if p (pl x)=true then x.N else 0)) rfl h5
     rwa [Int.neg_add_cancel_left,Int.neg_add_cancel_left]at h6
def sB(d:aC):List aC->List aC
 | []=>if d.N=0 then [] else [d]
 | x::l=>if dJ d x<0 then (if d.N=0 then x::l else d::x::l) else if dJ d x=0 then (if W (x.N+d.N)=0 then l else ⟨x.Time,x.Row,W (x.N+d.N)⟩::l) else x::sB d l
def cons(l:List aC):List aC:=l.foldr sB []
theorem aEZ(d:aC)(p:Pl->Bool):∀ l,W (wt p (sB d l))=W (wt p (d::l))
 | []=>by
  simp only[sB,wt];by_cases h:d.N=0
  ·rw[aB h,h]; simp[wt]
  ·rw[aF h]; rfl
 | x::l=>by
  simp only[sB];by_cases h1:dJ d x<0
  ·rw[aB h1];by_cases h:d.N=0
   ·rw[aB h]; simp only[wt,h]; congr 1; split <;> omega
   simp_all
  ·rw[aF h1];by_cases h2:dJ d x=0
   ·rw[aB h2];have hp:=gZ.1 h2;have e:wt p (d::x::l)=(if p (pl x)=true then x.N+d.N else 0)+wt p l:=by simp only[wt,hp]; split <;> omega
    rw[e];by_cases h3:W (x.N+d.N)=0
    ·rw[aB h3];by_cases hpx:p (pl x)=true
     ·rw[aB hpx];have h0:W (x.N+d.N)=W 0:=by rw[h3]; rfl
      have:=mG h0 (rfl:W (wt p l)=W (wt p l));simp_all
     simp_all
    ·rw[aF h3];simp only[wt];rw[show pl (⟨x.Time,x.Row,W (x.N+d.N)⟩:aC)=pl x from rfl];by_cases hpx:p (pl x)=true
     ·rw[aB hpx,aB hpx]; exact lJ _ _
     simp_all
   ·rw[aF h2];have ih:=aEZ d p l;have:W (wt p (x::sB d l))=W (wt p (x::d::l)):=by simp only[wt]at ih ⊢;exact mG rfl ih
    rw[this];simp only[wt]; grind
theorem Gm{d:aC}:∀ {l:List aC} {y:aC},y∈sB d l->pl y=pl d\/∃ z,z∈l/\pl y=pl z
 | [],y,h=>by simp only[sB]at h;simp_all
 | x::l,y,h=>by
  simp only[sB]at h;split at h
  ·grind
  ·split at h
   ·rename_i h2;split at h
    ·grind
    ·rcases bH.1 h with rfl | h
     ·exact .inr ⟨x,dB,rfl⟩
     grind
   ·rcases bH.1 h with rfl | h
    ·simp_all
    ·rcases Gm h with h | ⟨z,hz,he⟩
     all_goals grind
theorem xM{x' y':aC}(h:pl x=pl x')(h':pl y=pl y'):dJ x y=dJ x' y':=by rw[yM,yM,h,h']
theorem Ta{d:aC}(hd:fF d.N):∀ {l:List aC},Can l->Can (sB d l)
 | [],_=>by
  simp only[sB];split
  ·omega
  ·rename_i h;exact⟨oT _ _,fun x hx=>by simp_all,fun x hx=>by simp_all⟩
 | x::l,h=>by
  simp only[sB];split
  ·rename_i h1;split
   ·exact h
   ·rename_i h2;refine⟨iZ.2 ⟨fun y hy=>?_,h.lt⟩,fun y hy=>?_,fun y hy=>?_⟩
    ·rcases bH.1 hy with rfl | hy
     ·exact h1
     ·exact rB h1 (h.head y hy)
    ·rcases bH.1 hy with rfl | hy
     ·exact h2
     ·exact h.nz y hy
    ·rcases bH.1 hy with rfl | hy
     ·exact hd
     ·exact h.n64 y hy
  ·rename_i h1;split
   ·split
    ·exact h.tail
    ·rename_i h3;refine⟨iZ.2 ⟨fun y hy=>h.head y hy,h.tail.lt⟩,fun y hy=>?_,fun y hy=>?_⟩
     ·rcases bH.1 hy with rfl | hy
      ·exact h3
      ·exact h.tail.nz y hy
     ·rcases bH.1 hy with rfl | hy
      ·exact aFZ _
      ·exact h.tail.n64 y hy
   ·rename_i h2;have ih:=Ta hd h.tail;have hxd:dJ x d<0:=by have:=uT (x:=d) (y:=x); omega
    refine⟨iZ.2 ⟨fun y hy=>?_,ih.lt⟩,fun y hy=>?_,fun y hy=>?_⟩
    ·rcases Gm hy with he | ⟨z,hz,he⟩
     ·rw[xM rfl he]; exact hxd
     ·rw[xM rfl he]; exact h.head z hz
    ·rcases bH.1 hy with rfl | hy
     ·exact h.nz y dB
     ·exact ih.nz y hy
    ·rcases bH.1 hy with rfl | hy
     ·exact h.n64 y dB
     ·exact ih.n64 y hy
def okN(l:List aC):Prop:=∀ x,x∈l->fF x.N
theorem eO(h:okN l):Can (cons l):=by
 induction l with
 | nil=>exact .nil
 | cons x l ih=>exact Ta (h x dB) (ih fun y hy=>h y (cZ _ hy))
theorem eY(l:List aC):gP (cons l) l:=by
 induction l with
 | nil=>exact .refl _
 | cons x l ih=>intro p;rw[show cons (x::l)=sB x (cons l) from rfl,aEZ];simp only[wt];exact mG rfl (ih p)
theorem oI(h:Can r)(hl:okN l)(hs:gP r l):cons l=r:=(eO hl).ext h ((eY l).trans hs.symm)
theorem jD:∀ {y:aC},y∈cons l->∃ z,z∈l/\pl y=pl z:=by
 induction l with
 | nil=>intro y hy; simp[cons]at hy
 | cons x l ih=>
  intro y hy;rcases Gm (show y∈sB x (cons l) from hy) with h | ⟨z,hz,h⟩
  all_goals simp_all
theorem Vp(d:aC):∀ l:List aC,(sB d l).length<=l.length+1
 | []=>by simp only[sB]; split <;> simp
 | x::l=>by have:=Vp d l;simp only[sB];grind
theorem fG(l:List aC):(cons l).length<=l.length:=by
 induction l with
 | nil=>simp[cons]
 | cons x l ih=>have:=Vp x (cons l);show (sB x (cons l)).length<=_;grind
theorem jS(h:Can l):cons l=l:=oI h h.n64 (.refl _)
theorem Can.filter{l:List aC}(h:Can l)(p:aC->Bool):Can (l.filter p):=⟨h.lt.filter p,fun x hx=>h.nz x (iB.1 hx).1,fun x hx=>h.n64 x (iB.1 hx).1⟩
theorem Lx(p q:Pl->Bool)(l:List aC):wt p (l.filter fun d=>q (pl d))=wt (fun r=>p r&&q r) l:=by
 induction l with
 | nil=>rfl
 | cons x l ih=>
  simp only[Il,wt];by_cases hq:q (pl x)=true
  ·rw[aB hq]; simp only[wt,ih,hq,Bool.and_true]
  simp_all
theorem gP.filter{l r:List aC}(h:gP l r)(q:Pl->Bool):gP (l.filter fun d=>q (pl d)) (r.filter fun d=>q (pl d)):=fun p=>by rw[Lx,Lx]; exact h _
theorem Fm(l:List aC)(h:l.length<=1000000000000):aQR l=some l:=by unfold aQR;refine Det.eq ?_;unfold aPF;simp only[Tr.wpT];grind
theorem Ts(l:List aE)(h:l.length<=1000000000000):aNB l=some l:=by unfold aNB;refine Det.eq ?_;unfold aRD;simp only[Tr.wpT];grind
def fC:Pl->Bool:=fun _=>true
theorem aBE{q:Pl}(h:∀ x,x∈l->pl x=q)(p:Pl->Bool):wt p l=if p q=true then wt fC l else 0:=by
 induction l with
 | nil=>simp[wt]
 | cons x l ih=>simp only[wt,h x dB,ih fun y hy=>h y (cZ _ hy),fC];by_cases hp:p q=true <;> simp[hp]
theorem aTY(v3 v4:List aC)(h0:0<v3.length)(ho:gV v3)(hN:okN v3)(hn:v3.length<=1000000000000):
  Sp (cK (fun s=>(Xy v3 s).den) ((v3.getD 0 default).N,v4,1))
   (sel (fun r:Int×List aC×Int=>∃ k:Nat,r=(W (wt fC (v3.take k)),v4,(k:Int))/\1<=k/\k<=v3.length/\(∀ x,x∈v3.take k->pl x=pl (v3.getD 0 default))/\(k<v3.length->pl (v3.getD k default)≠pl (v3.getD 0 default))) (fun _=>False)):=by
 refine Sq.while (fun s:Int×List aC×Int=>∃ k:Nat,s=(W (wt fC (v3.take k)),v4,(k:Int))/\1<=k/\k<=v3.length/\(∀ x,x∈v3.take k->pl x=pl (v3.getD 0 default))) (fun s=>(v3.length-s.2.2).toNat) (fun s hs=>?_) ⟨1,?_,by omega,by omega,?_⟩
 ·obtain⟨k,rfl,h1,h2,h3⟩:=hs;unfold Xy;simp only[Tr.den,aS,Jt];by_cases hk:k<v3.length
  ·rw[aB (bI (by omega)),aB (by omega)];rw[sO (⟨(v3.getD 0 default).Time,(v3.getD 0 default).Row,W (wt fC (v3.take k))⟩:aC) _ (show okR _ from ho.get 0) (ho.get k)];simp only[aH];have e:dJ (⟨(v3.getD 0 default).Time,(v3.getD 0 default).Row,W (wt fC (v3.take k))⟩:aC) (v3.getD k default)=dJ (v3.getD 0 default) (v3.getD k default):=rfl;rw[e];by_cases hc:dJ (v3.getD 0 default) (v3.getD k default)=0
   ·rw[aB (wW hc),aB (by omega)];have hp:=gZ.1 hc;have e2:W (W (wt fC (v3.take k))+(v3.getD k default).N)=W (wt fC (v3.take (k+1))):=by rw[aQ hk,eT];simp only[wt,fC];refine(lJ _ _).trans ?_;simp
    rw[show IntKind.i64.wrap (W (wt fC (v3.take k))+(v3.getD k default).N)=_ from e2,aL (by omega)];refine aA.2 ⟨⟨k+1,rfl,by omega,by omega,fun x hx=>?_⟩,by grind⟩;rw[aQ hk,dC,cR]at hx;grind
   ·rw[aF (kF hc)];refine aA.2 ⟨k,rfl,h1,h2,h3,fun _ he=>hc (gZ.2 he.symm)⟩
  ·rw[aF (bJ (by omega))];simp only[aH,cM,cI];exact aA.2 ⟨k,rfl,h1,h2,h3,fun h=>absurd h hk⟩
 ·rw[aQ h0];simp only[List.take_zero,kS,wt,fC,fZ,Int.add_zero];rw[aXK (hN _ (aT h0))]; rfl
 ·intro x hx;rw[aQ h0]at hx;simp only[List.take_zero,kS,cR]at hx;rw[hx]
theorem mY(h:ltD x y=false):¬ dJ x y<0:=fE h
theorem bFY(l d:List aC)(hd:d.Perm l)(hs:Srt d)(ho:gV l)(hN:okN l)(hn:l.length<=1000000000000):
  Sp (cK (fun s=>(Zu s).den) (d,([]:List aC))) (sel (fun r=>r=cons l) (fun _=>False)):=by
 refine Sq.while (fun s:List aC×List aC=>Srt s.1/\gV s.1/\okN s.1/\Can s.2/\(∀ x,x∈s.2->∀ y,y∈s.1->dJ x y<0)/\gP (s.2++s.1) l/\s.2.length+s.1.length<=l.length) (fun s=>s.1.length) (fun s hs=>?_)
  ⟨hs,ho.perm hd.symm,fun x hx=>hN x (hd.mem_iff.1 hx),.nil,by simp,.of_perm hd,by simp[hd.length_eq]⟩
 obtain⟨v3,v4⟩:=s;obtain⟨h1,h2,h3,h4,h5,h6,h7⟩:=hs;simp only at h1 h2 h3 h4 h5 h6 h7;unfold Zu;simp only[Tr.den,Jt];by_cases h0:0<v3.length
 ·rw[aB (bI (by omega)),aB (by omega)];refine Sq.bind _ (aTY v3 v4 h0 h2 h3 (by omega)) (fun z hz=>?_);cases z with
  | inr z=>exact hz.elim
  | inl z=>
   obtain⟨k,rfl,k1,k2,k3,k4⟩:=hz;simp only[sel];have hsp:v3=v3.take k++v3.drop k:=(gG k v3).symm;have hd0:v3.getD 0 default∈v3:=aT h0;have hgt:∀ y,y∈v3.drop k->dJ (v3.getD 0 default) y<0:=by
    intro y hy;obtain⟨j,j1,j2,rfl⟩:=dS hy;have hk:k<v3.length:=by omega
    have a1:=mY (h1.get (i:=0) (j:=k) (by omega) hk);have a2:dJ (v3.getD 0 default) (v3.getD k default)<0:=by have b1:dJ (v3.getD 0 default) (v3.getD k default)≠0:=fun he=>k4 hk (gZ.1 he).symm;have b2:=uT (x:=v3.getD 0 default) (y:=v3.getD k default);omega
    have a3:=mY (h1.get (i:=k) (j:=j) j1 j2);by_cases hc:dJ (v3.getD 0 default) (v3.getD j default)<0
    ·exact hc
    ·have:=gH.ntrans (v3.getD 0 default) (v3.getD j default) (v3.getD k default) (kN hc) (kN a3);exact absurd a2 (mY this)
   have hw:∀ p,W (wt p (v4++v3))=W (wt p v4+(if p (pl (v3.getD 0 default))=true then W (wt fC (v3.take k)) else 0)+wt p (v3.drop k)):=by
    intro p
    conv=>lhs; rw[hsp]
    rw[eT,eT,aBE k3 p,<-Int.add_assoc];refine mG ?_ rfl;refine mG rfl ?_;split
    ·exact(Al _).symm
    ·rfl
   have hbind:∀ v5:List aC,Can v5->(∀ x,x∈v5->∀ y,y∈v3.drop k->dJ x y<0)->(∀ p,W (wt p v5)=W (wt p v4+(if p (pl (v3.getD 0 default))=true then W (wt fC (v3.take k)) else 0)))->v5.length<=v4.length+1 ->
     Sp (if 0<=(k:Int)/\(k:Int)<=(v3.length:Int)/\(v3.length:Int)<=(v3.length:Int) then some (Sum.inl ((v3.drop (k:Int).toNat).take ((v3.length:Int)-(k:Int)).toNat,v5)) else none)
      (sel (fun s':List aC×List aC=>(Srt s'.1/\gV s'.1/\okN s'.1/\Can s'.2/\(∀ x,x∈s'.2->∀ y,y∈s'.1->dJ x y<0)/\gP (s'.2++s'.1) l/\s'.2.length+s'.1.length<=l.length)/\s'.1.length<v3.length) (sel (fun r=>r=cons l) (fun _:List aC=>False))):=by
    intro v5 c1 c2 c3 c4;rw[aB (by omega)];have e:(v3.drop (k:Int).toNat).take ((v3.length:Int)-(k:Int)).toNat=v3.drop k:=by rw[aS]; exact fT (by grind)
    rw[e];refine aA.2 ⟨⟨h1.drop k,fun x hx=>h2 x (tJ hx),fun x hx=>h3 x (tJ hx),c1,c2,fun p=>?_,by simp; omega⟩,by simp; omega⟩;rw[<-h6 p,hw p,eT];exact mG (c3 p) rfl
   by_cases hz:W (wt fC (v3.take k))=0
   ·rw[aF (Bi hz)];simp only[aH];refine hbind v4 h4 (fun x hx y hy=>h5 x hx y (tJ hy)) (fun p=>?_) (by omega);rw[hz]; simp
   ·rw[aB (Iv hz)];rw[Ts _ (by have:=h2 _ hd0; unfold okR at this; omega)];simp only[aH,wH];rw[aB (by omega)];simp only[aH];refine hbind (v4++[⟨(v3.getD 0 default).Time,(v3.getD 0 default).Row,W (wt fC (v3.take k))⟩]) ⟨?_,?_,?_⟩ ?_ (fun p=>?_) (by simp)
    ·refine Bk.2 ⟨h4.lt,oT _ _,fun x hx y hy=>?_⟩;rw[cR.1 hy];exact h5 x hx (v3.getD 0 default) hd0
    ·intro x hx;rcases dC.1 hx with hx | hx
     ·exact h4.nz x hx
     grind
    ·intro x hx;rcases dC.1 hx with hx | hx
     ·exact h4.n64 x hx
     ·rw[cR.1 hx]; exact aFZ _
    ·intro x hx y hy;rcases dC.1 hx with hx | hx
     ·grind
     ·rw[cR.1 hx]; exact hgt y hy
    ·rw[eT];simp only[wt,Int.add_zero];rfl
 ·rw[aF (bJ (by omega))];refine aA.2 ?_;have:v3=[]:=yK (by omega);subst this;rw[eN]at h6;exact(oI h4 hN h6).symm
theorem sV(l:List aC)(ho:gV l)(hN:okN l)(hn:l.length<=1000000000000):G27 l=some (cons l):=by
 refine Sp.eq ?_;unfold G27 T27;simp only[Tr.den];rw[Fm l hn];simp only[aH];refine Sq.bind _ (aMF l ho (by omega)) (fun d hd=>?_);refine Sq.bind _ (bFY l d hd.1 hd.2 ho hN hn) (fun z hz=>?_);cases z with
 | inr z=>exact hz.elim
 | inl z=>exact aA.2 hz
theorem aHB(l:List aC):aPX l=G27 l:=by rfl
theorem Vz(l:List aC)(ho:gV l)(hN:okN l)(hn:l.length<=1000000000000):aPX l=some (cons l):=(aHB l).trans (sV l ho hN hn)
theorem aFT(n:Nat)(h:n<=1000000000000):Xk (n:Int)=some []:=by unfold Xk Xr;simp only[Tr.den];rw[aF (bJ (by omega)),show IntKind.i64.wrap ((n:Int)-0)=(n:Int) by rw[bS] <;> omega];grind
theorem uP{α:Type}[Inhabited α](ls:List (List α))(i:Nat)(hi:i<ls.length):(ls.take (i+1)).flatten=(ls.take i).flatten++ls.getD i default:=by rw[aQ hi]; simp
theorem aCL{α:Type}[Inhabited α](ls:List (List α))(i:Nat):(ls.take i).flatten.length<=ls.flatten.length:=by
 have:ls.flatten=(ls.take i).flatten++(ls.drop i).flatten:=by rw[<-List.flatten_append,gG]
 simp_all
theorem bGC(ls:List (List aC))(h:ls.flatten.length<=1000000000000)(hl:ls.length<=1000000000000):G39 ls=some ls.flatten:=by
 unfold G39 T39;simp only[Tr.den];have h1:=bE (bd:=fun s=>(Oq ls s).den) (fun i=>(((ls.take i).flatten.length:Int),(i:Int))) ls.length (r:=.inl (ls.flatten.length:Int)) (fun i hi=>?_) ?_
 ·refine(congrArg (fun x=>Option.bind x _) h1).trans ?_;simp only[aH,sel];rw[aFT _ h];simp only[aH];have h2:=bE (bd:=fun s=>(Pc ls s).den) (fun i=>((ls.take i).flatten,(i:Int))) ls.length (r:=.inl ls.flatten) (fun i hi=>?_) ?_
  ·refine(congrArg (fun x=>Option.bind x _) h2).trans ?_;rfl
  ·unfold Pc;simp only[Tr.den,aS];have:=aCL ls (i+1);rw[uP ls i hi,cE]at this;rw[aB (bI (by omega)),aB (by omega),aB (by omega),aL (by omega),uP ls i hi]
  ·unfold Pc;simp only[Tr.den];rw[aF (bJ (by omega)),fW]
 ·unfold Oq;simp only[Tr.den,aS];have:=aCL ls (i+1);rw[uP ls i hi,cE]at this;rw[aB (bI (by omega)),aB (by omega),aF (bJ (by rw[gS (by omega)]; omega)),gS (by omega),aL (by omega),uP ls i hi,cE]
 ·unfold Oq;simp only[Tr.den];rw[aF (bJ (by omega)),fW]
structure okD (l:List aC):Prop where
 r:gV l
 n:okN l
theorem okD.app(h:okD l)(h':okD r):okD (l++r):=
 ⟨fun x hx=>(dC.1 hx).elim (h.r x) (h'.r x),fun x hx=>(dC.1 hx).elim (h.n x) (h'.n x)⟩
theorem okD.nil:okD []:=⟨fun _ h=>by simp at h,fun _ h=>by simp at h⟩
theorem okD.sub(h:okD l)(hs:∀ x,x∈r->x∈l):okD r:=⟨fun x hx=>h.r x (hs x hx),fun x hx=>h.n x (hs x hx)⟩
theorem okD.cons{l:List aC}(h:okD l):okD (cons l):=⟨fun x hx=>by
 obtain⟨z,hz,he⟩:=jD hx;have:=h.r z hz;unfold okR at this ⊢
 rwa [show x.Row=z.Row from congrArg (·.2) he],(eO h.n).n64⟩
theorem bCB(a b:List aC)(ha:okD a)(hb:okD b)(hn:a.length+b.length<=1000000000000):G12 a b=some (cons (a++b)):=by unfold G12 T12;simp only[Tr.den];rw[bGC [a,b] (by simp; omega) (by simp)];simp only[aH,List.flatten_cons,List.flatten_nil,eN];rw[sV _ (ha.app hb).r (ha.app hb).n (by simp; omega)];rfl
theorem bCH(l:List aC)(hn:l.length<=1000000000000):G13 l=some (W (wt fC l)):=by
 unfold G13 T13;simp only[Tr.den];have h1:=bE (bd:=fun s=>(Np l s).den) (fun i=>(W (wt fC (l.take i)),(i:Int))) l.length (r:=.inl (W (wt fC l))) (fun i hi=>?_) ?_
 ·refine(congrArg (fun x=>Option.bind x _) h1).trans ?_;rfl
 ·unfold Np;simp only[Tr.den,aS];rw[aB (bI (by omega)),aB (by omega),aL (by omega),aQ hi,eT,show wt fC [l.getD i default]=(l.getD i default).N by simp[wt,fC]];rw[show IntKind.i64.wrap (W (wt fC (l.take i))+(l.getD i default).N)=W (wt fC (l.take i)+(l.getD i default).N) from lJ _ _]
 ·unfold Np;simp only[Tr.den];rw[aF (bJ (by omega)),fW]
def aft(t:Int)(d:aC):Bool:=decide (t<d.Time)
theorem Tp(x:aC)(t:Int):aOV x t=some (!aft t x):=by
 unfold aOV aMJ aft;simp only[Tr.den]
 congr 1
 grind
theorem aHC(l:List aC)(t:Int)(hn:l.length<=1000000000000):
  Sp (Zn l t) (fun r=>(r = -1/\∀ x,x∈l->aft t x=true)\/∃ k:Nat,r=k/\k<l.length/\(∀ x,x∈l.take k->aft t x=true)/\aft t (l.getD k default)=false):=by
 unfold Zn Wq;simp only[Tr.den,cD];refine Sq.while (fun s:Int=>∃ k:Nat,s=k/\k<=l.length/\∀ x,x∈l.take k->aft t x=true) (fun s=>(l.length-s).toNat) (fun s hs=>?_) ⟨0,rfl,by omega,by simp⟩;obtain⟨k,rfl,h1,h2⟩:=hs;unfold Kz;simp only[Tr.den,aS];by_cases hk:k<l.length
 ·rw[aB (bI (by omega)),aB (by omega),aB hk,Tp];simp only[aH];cases ha:aft t (l.getD k default) with
  | true=>rw[aF (by simp),aL (by omega)];refine aA.2 ⟨⟨k+1,rfl,by omega,fun x hx=>?_⟩,by omega⟩;rw[aQ hk,dC,cR]at hx;grind
  | false=>rw[aB (by simp)];exact aA.2 (aA.2 (.inr ⟨k,rfl,hk,h2,ha⟩))
 ·rw[aF (bJ (by omega))];refine aA.2 (aA.2 (.inl ⟨rfl,?_⟩))
  rwa [fT (by omega)]at h2
theorem aKI(l:List aC)(t:Int)(hn:l.length<=1000000000000):Sp (aNF l t) (fun d=>d=l.filter (aft t)):=by
 unfold aNF aQM;simp only[Tr.den];refine Sq.bind _ (aHC l t hn) (fun r hr=>?_);rcases hr with⟨rfl,h⟩ | ⟨k,rfl,h1,h2,h3⟩
 ·rw[aB (wW rfl)];refine aA.2 ?_;exact(rW.2 h).symm
 ·rw[aF (kF (by omega)),aL (by omega)];simp only[cD];refine Sq.while (fun s:List aC×Int×Int=>∃ i j:Nat,s.2.1=i/\s.2.2=j/\i<j/\j<=l.length/\s.1.length=l.length/\s.1.take i=(l.take j).filter (aft t)/\s.1.drop j=l.drop j) (fun s=>(l.length-s.2.2).toNat) (fun s hs=>?_)
   ⟨k,k+1,rfl,rfl,by omega,by omega,rfl,?_,rfl⟩
  ·obtain⟨d,i,j⟩:=s;obtain⟨i,j,e1,e2,q1,q2,q3,q4,q5⟩:=hs;simp only at e1 e2 q3 q4 q5;subst e1 e2;unfold Uu;simp only[Tr.den,aS];by_cases hj:j<l.length
   ·have gj:d.getD j default=l.getD j default:=by have:=congrArg (fun x:List aC=>x.getD 0 default) q5;grind
    rw[aB (bI (by omega)),aB (by omega),aB (by omega),gj,Tp];simp only[aH,Bool.not_not];cases ha:aft t (l.getD j default) with
    | true=>
     rw[aB rfl,aB (by omega),aB (by omega)];refine cD.2 (tR (by simp; omega) (aA.2 ?_));rw[aL (by omega),aL (by omega)];refine aA.2 ⟨⟨i+1,j+1,rfl,rfl,by omega,by omega,by simp; omega,?_,?_⟩,by grind⟩
     ·rw[aQ (show i<(d.set i (l.getD j default)).length by simp; omega),aQ hj,qP,qB,aB ⟨rfl,by omega⟩];rw[List.take_set_of_le (dL i),q4,Tm ha,List.filter_nil]
     ·rw[List.drop_set_of_lt (by omega)];have:=congrArg (List.drop 1) q5;rw[sZ,sZ]at this;omega
    | false=>
     rw[aF (by simp)];simp only[aH];rw[aL (by omega)];refine aA.2 ⟨⟨i,j+1,rfl,rfl,by omega,by omega,q3,?_,?_⟩,by grind⟩
     ·rw[aQ hj,qP,q4,Qo (by rw[ha]; simp),List.filter_nil,eN]
     ·have:=congrArg (List.drop 1) q5;rw[sZ,sZ]at this;omega
   ·rw[aF (bJ (by omega))];refine aA.2 ?_;simp only[sel,aS];have e:(d.take i++List.replicate (d.length-i) default).take i=d.take i:=by rw[aDL (by simp; omega),List.take_take,Nat.min_self]
    rw[aB (by omega),aB (by simp; omega),e,q4,fT (by omega)];exact aA.2 rfl
  ·rw[aQ h1,qP,rW.2 h2,Qo (by rw[h3]; simp),List.filter_nil,eN]
theorem bDB(l:List aC)(t:Int)(ho:okD l)(hn:l.length<=1000000000000):G14 l t=some (cons (l.filter (aft t))):=by refine Sp.eq ?_;unfold G14 T14;simp only[Tr.den];rw[Fm l hn];simp only[aH];refine Sq.bind _ (aKI l t hn) (fun d hd=>?_);subst hd;have h2:okD (l.filter (aft t)):=ho.sub fun x hx=>(iB.1 hx).1;rw[Vz _ h2.r h2.n (by grind)];exact aA.2 rfl
theorem aSV(l:List aC)(t:Int)(ho:okD l)(hc:Can l)(hn:l.length<=1000000000000):G14 l t=some (l.filter (aft t)):=by rw[bDB l t ho hn,jS (hc.filter _)]
def neg(d:aC):aC:=⟨d.Time,d.Row,W (0-d.N)⟩
theorem aYF(a b:List aC)(ha:okD a)(hb:okD b)(hn:a.length+b.length<=1000000000000):bGX a b=some (cons (a++b.map neg)):=by
 unfold bGX bEL;simp only[Tr.den];rw[Fm a (by omega)];simp only[aH];have h1:=bE (bd:=fun s=>(Dk b s).den) (fun i=>(a++(b.take i).map neg,(i:Int))) b.length (r:=.inl (a++b.map neg)) (fun i hi=>?_) ?_
 ·rw[show (a++(b.take 0).map neg,((0:Nat):Int))=(a,0) by simp]at h1;rw[h1];simp only[aH,sel];have ok:okD (a++b.map neg):=ha.app ⟨fun x hx=>by
   obtain⟨y,hy,rfl⟩:=dZ.1 hx;exact hb.r y hy,fun x hx=>by
   obtain⟨y,hy,rfl⟩:=dZ.1 hx;exact aFZ _⟩
  rw[Vz _ ok.r ok.n (by simp; omega)];rfl
 ·unfold Dk;simp only[Tr.den,aS];rw[aB (bI (by omega)),aB (by omega),aB (by simp; omega),aL (by omega),aQ hi,rN,<-cT];rfl
 ·unfold Dk;simp only[Tr.den];rw[aF (bJ (by omega)),fW]
structure LO (K:Type)[MKey K]:Prop where
 irr:∀ a:K,MKey.lt a a=false
 tr:∀ a b c:K,MKey.lt a b=true->MKey.lt b c=true->MKey.lt a c=true
 tot:∀ a b:K,a≠b->MKey.lt a b=true\/MKey.lt b a=true
theorem jP:∀ (x y:List UInt8),Op.bytesLess x y=decide (Lib.compareBytes x y<0)
 | [],[]=>by rfl
 | _::_,[]=>by rfl
 | [],_::_=>by rfl
 | a::x,b::y=>by rw[Op.bytesLess,jP x y,Lib.compareBytes];grind
theorem LO.bytes:LO ByteArray:=by
 have e:∀ a b:ByteArray,MKey.lt a b=decide (yI a b<0):=fun a b=>by show Op.bytesLess a.toList b.toList=_;rw[jP,Lib.toList_data,Lib.toList_data]; rfl
 constructor
 ·intro a;rw[e,(TO.str.eq a a).2 rfl]; rfl
 ·intro a b c h1 h2;rw[e]at h1 h2 ⊢;exact bI (TO.str.tr a b c (lO h1) (lO h2))
 ·intro a b h;rw[e,e];have h1:=TO.str.eq a b;have h2:=TO.str.sw b a;grind
section
variable {K V:Type} [MKey K]
def MC(v:List (K×V)):Prop:=v.Pairwise fun p q=>MKey.lt p.1 q.1=true
theorem wZ(v:List (K×V))(k k':K):cB (mdel v k) k'=if k=k' then none else cB v k':=by
 induction v with
 | nil=>simp[mdel,cB]
 | cons p v ih=>
  simp only[mdel,Il]at ih ⊢;by_cases hp:p.1=k
  ·rw[aF (by simp_all),ih];simp only[cB,hp];by_cases hk:k=k' <;> simp[hk]
  ·rw[aB (by simp_all)];simp only[cB,ih];grind
theorem Gn(k:K)(c:V)(k':K):∀ v:List (K×V),cB v k=none->cB (mins k c v) k'=if k=k' then some c else cB v k'
 | [],_=>by rfl
 | p::v,h=>by
  simp only[cB]at h;by_cases hp:p.1=k
  ·simp_all
  ·rw[aF hp]at h;simp only[mins];split
   ·rfl
   ·simp only[cB,Gn k c k' v h];grind
theorem qQ(v:List (K×V))(k:K)(c:V)(k':K):cB (mput v k c) k'=if k=k' then some c else cB v k':=by unfold mput;rw[Gn k c k' _ (by rw[wZ]; simp),wZ];by_cases h:k=k' <;> simp[h]
theorem MC.mdel{v:List (K×V)}(h:MC v)(k:K):MC (mdel v k):=List.Pairwise.filter _ h
theorem aLD{k:K}{c:V}{q:K×V}:∀ {v:List (K×V)},q∈mins k c v->q=(k,c)\/q∈v
 | v,h=>by have:=(zX k c v).mem_iff.1 h;simp_all
theorem MC.mins(hK:LO K){k:K}{c:V}:∀ {v:List (K×V)},MC v->k∉cU v->MC (mins k c v)
 | [],_,_=>oT _ _
 | p::v,h,hk=>by
  have h1:=iZ.1 h;simp only[PL.mins];split
  ·rename_i hlt;refine iZ.2 ⟨fun q hq=>?_,h⟩;rcases bH.1 hq with rfl | hq
   ·exact hlt
   ·exact hK.tr _ _ _ hlt (h1.1 q hq)
  ·rename_i hlt;simp only[cU,kL,bH,not_or]at hk;refine iZ.2 ⟨fun q hq=>?_,MC.mins hK h1.2 hk.2⟩;rcases aLD hq with rfl | hq
   ·rcases hK.tot k p.1 hk.1 with h2 | h2
    all_goals simp_all
   grind
theorem MC.mput(hK:LO K){v:List (K×V)}(h:MC v)(k:K)(c:V):MC (mput v k c):=(h.mdel k).mins hK (aLB v k)
theorem aPK:MC ([]:List (K×V)):=List.Pairwise.nil
theorem Ky{v:List (K×V)}{k:K}{c:V}(h:cB v k=some c):(k,c)∈v:=by
 induction v with
 | nil=>cases h
 | cons p v ih=>simp only[cB]at h;grind
theorem nF{v:List (K×V)}{k:K}:k∈cU v↔∃ c,cB v k=some c:=by
 constructor
 ·intro h;cases hc:cB v k with
  | none=>exact absurd h (lL hc)
  | some c=>simp_all
 ·rintro⟨c,hc⟩;exact dZ.2 ⟨_,Ky hc,rfl⟩
theorem MC.nodup(hK:LO K){v:List (K×V)}(h:MC v):(cU v).Nodup:=by unfold cU List.Nodup;rw[List.pairwise_map];refine h.imp fun {p q} hpq he=>?_;rw[he,hK.irr]at hpq;cases hpq
theorem MC.ext(hK:LO K):∀ {v w:List (K×V)},MC v->MC w->(∀ k,cB v k=cB w k)->v=w:=by
 have none_of:∀ {v:List (K×V)} {k:K},(∀ p,p∈v->MKey.lt k p.1=true)->cB v k=none:=by
  intro v k h;cases hc:cB v k with
  | none=>rfl
  | some c=>have:=h _ (Ky hc);rw[hK.irr]at this; cases this
 intro v
 induction v with
 | nil=>
  intro w _ _ h;cases w with
  | nil=>rfl
  | cons q w=>have:=h q.1; simp[cB]at this
 | cons p v ih=>
  intro w hv hw h;cases w with
  | nil=>have:=h p.1; simp[cB]at this
  | cons q w=>
   have hv1:=iZ.1 hv;have hw1:=iZ.1 hw;have hk:p.1=q.1:=by
    refine zG fun hne=>?_;rcases hK.tot _ _ hne with h1 | h1
    ·have h2:=h p.1;rw[none_of (v:=q::w) (k:=p.1) (fun r hr=>by
      rcases bH.1 hr with rfl | hr
      ·exact h1
      ·exact hK.tr _ _ _ h1 (hw1.1 r hr))]at h2
     simp[cB]at h2
    ·have h2:=h q.1;rw[none_of (v:=p::v) (k:=q.1) (fun r hr=>by
      rcases bH.1 hr with rfl | hr
      ·exact h1
      ·exact hK.tr _ _ _ h1 (hv1.1 r hr))]at h2
     simp[cB]at h2
   have hc:p.2=q.2:=by have h2:=h p.1;simpa[cB,hk] using h2
   have hpq:p=q:=Prod.ext hk hc;subst hpq;rw[ih hv1.2 hw1.2 fun k=>?_];by_cases hk:p.1=k
   ·subst hk;rw[none_of hv1.1,none_of hw1.1]
   ·have:=h k;simpa[cB,hk] using this
theorem Ba(hK:LO K){v:List (K×V)}(h:MC v){k:K}{c:V}(hc:cB v k=some c):mput v k c=v:=by refine(h.mput hK k c).ext hK h fun k'=>?_;rw[qQ];grind
def iW(f:K->Int):List K->Int
 | []=>0
 | k::l=>f k+iW f l
omit [MKey K] in
theorem aGK(f:K->Int){l r:List K}(h:l.Perm r):iW f l=iW f r:=by
 induction h with
 | nil=>rfl
 | cons x _ ih=>simp only[iW,ih]
 | swap x y l=>simp only[iW]; omega
 | trans _ _ h1 h2=>omega
theorem sN{l:List K}{k:K}(h:k∈l):l.Perm (k::jL l k):=List.perm_cons_erase h
theorem qW{l:List K}(hn:l.Nodup){k k':K}:k'∈jL l k↔k'≠k/\k'∈l:=by unfold jL; grind
theorem zM{l:List K}(hn:l.Nodup)(k:K):(jL l k).Nodup:=by unfold jL; grind
theorem xB{l:List K}{k:K}(h:k∈l):(jL l k).length<l.length:=by have:=(sN h).length_eq;simp_all
theorem qO{α β:Type}(f:α->List β){l r:List α}(h:l.Perm r):(l.flatMap f).Perm (r.flatMap f):=by
 induction h with
 | nil=>rfl
 | cons x _ ih=>simp only[jM]; exact ih.append_left _
 | swap x y l=>simp only[jM]; exact List.perm_append_comm_assoc _ _ _
 | trans _ _ h1 h2=>exact h1.trans h2
end
set_option maxRecDepth 20000
theorem Fw{P:Program}{Y R:Type}{bps:List PV}{x:Option R}{ret:R->PV}{h:Con P k bps x ret}{B:R->Tr P Y}{r:R}(hx:x=some r):(Tr.ca n h B).den=(B r).den:=by subst hx; rfl
theorem jR{P:Program}{Y:Type}[Decidable p]{t:Tr P Y}(hp:p):(Tr.grd n p t).den=t.den:=aB hp
def kE(n:Int):ByteArray:=⟨(Lib.itoa n).toArray⟩
theorem jX{n:Int}(h:fF n):(kE n).size<=21:=by have:=Lib.itoa_length_le n h.1 h.2;unfold kE;show (Lib.itoa n).toArray.size<=21;omega
theorem zT{n:Int}(h:fF n):aIM n=some (kE n):=by unfold aIM; rw[aB (show -9223372036854775808<=n/\n<=9223372036854775807 from h)]; rfl
theorem sz1(x:UInt8):(⟨#[x]⟩:ByteArray).size=1:=rfl
def dU(n:Int):ByteArray:=kE n++⟨#[59]⟩
theorem Yp(n:Int):(dU n).size=(kE n).size+1:=eX
theorem bY{n:Int}(h:fF n):(dU n).size<=22:=by have h1:=jX h;rw[Yp];omega
theorem oX{n:Int}(h:fF n):G51 n=some (dU n):=by unfold G51 T51;have:=jX h;simp -implicitDefEqProofs only[Tr.den,zT h,aH];rw[aB (by rw[sz1]; omega)];rfl
theorem Pm(n:Nat)(h:n<=1000000000000):bEW (n:Int)=some (dU (n:Int)):=by unfold bEW bFG;simp only[Tr.den];rw[aF (bJ (by omega)),oX (n:=(n:Int)) ⟨by omega,by omega⟩];rfl
def nN(s:ByteArray):ByteArray:=((kE s.size++⟨#[58]⟩)++s)++⟨#[44]⟩
theorem vV{s:ByteArray}(h:s.size<=1073741824):(nN s).size<=s.size+23:=by have:=jX (n:=(s.size:Int)) ⟨by omega,by omega⟩;unfold nN;rw[eX,eX,eX,sz1,sz1];omega
theorem bIX{s:ByteArray}(h:s.size<=1073741824):G52 s=some (nN s):=by
 have h1:=jX (n:=(s.size:Int)) ⟨by omega,by omega⟩;have h2:aIM (s.size:Int)=some (kE s.size):=zT ⟨by omega,by omega⟩;generalize hi:kE (s.size:Int)=z at h1 h2;have e1:(z++(⟨#[58]⟩:ByteArray)).size=z.size+1:=eX;have e2:((z++(⟨#[58]⟩:ByteArray))++s).size=z.size+1+s.size:=by rw[eX,e1]
 unfold G52 T52;refine(Fw h2).trans ?_;refine(jR ?_).trans ((jR ?_).trans ((jR ?_).trans ?_))
 ·grind
 ·omega
 ·rw[e2,sz1]; omega
 ·unfold nN;rw[hi];rfl
structure okV (v:aE):Prop where
 k:fF v.Kind
 n:fF v.N
 s:v.S.size<=1073741824
theorem aXA:okV default:=⟨⟨by decide,by decide⟩,⟨by decide,by decide⟩,by decide⟩
def iH(v:aE):ByteArray:=(dU v.Kind++dU v.N)++nN v.S
theorem An{v:aE}(h:okV v):(iH v).size<=1073742000:=by have h1:=bY h.k;have h2:=bY h.n;have h3:=vV h.s;have h4:=h.s;unfold iH;grind
theorem bAG{v:aE}(h:okV v):bHC v=some (iH v):=by have h1:=bY h.k;have h2:=bY h.n;have h3:=vV h.s;have h4:=h.s;unfold bHC bDA;simp only[Tr.den,oX h.k,oX h.n,bIX h.s,aH];rw[aB (by omega),eX,aB (by omega)];rfl
def Dd(r:List aE):Prop:=∀ v,v∈r->okV v
theorem Dd.get{r:List aE}(h:Dd r)(k:Nat):okV (r.getD k default):=by
 by_cases hk:k<r.length
 ·exact h _ (aT hk)
 ·rw[eU,Ao (by omega)]; exact aXA
def iA(r:List aE):ByteArray:=r.foldl (fun b v=>b++iH v) ((⟨#[]⟩:ByteArray)++dU (r.length:Int))
theorem xE(b:ByteArray):∀ (r:List aE),Dd r->(r.foldl (fun b v=>b++iH v) b).size<=b.size+r.length*1073742000
 | [],_=>by simp
 | v::r,h=>by have h1:=xE (b++iH v) r fun x hx=>h x (cZ _ hx);have h2:=An (h v dB);grind
theorem Qq(r:List aE)(h:Dd r)(hn:r.length<=1000):bGU r=some (iA r):=by
 have hs:=bY (n:=(r.length:Int)) ⟨by omega,by omega⟩;unfold bGU bDV;simp only[Tr.den];rw[Pm r.length (by omega)];simp only[aH];rw[aB (by show 0+_<=_; omega)];simp only[aH];have h1:=bE (bd:=fun s=>(Dz r s).den) (fun i=>((r.take i).foldl (fun b v=>b++iH v) ((⟨#[]⟩:ByteArray)++dU (r.length:Int)),(i:Int))) r.length (r:=.inl (iA r)) (fun i hi=>?_) ?_
 ·refine(congrArg (fun x=>Option.bind x _) h1).trans ?_;rfl
 ·unfold Dz;simp only[Tr.den,aS];have h2:=xE ((⟨#[]⟩:ByteArray)++dU (r.length:Int)) (r.take i) fun v hv=>h v (xG hv);have h3:=An (h.get i);rw[eX,show (⟨#[]⟩:ByteArray).size=0 from rfl]at h2;simp only[gO]at h2;rw[aB (bI (by omega)),aB (by omega),bAG (h.get i)];simp only[aH];rw[aB (by omega)];simp only[aH];rw[aL (by omega),aQ hi,lI];rfl
 ·unfold Dz;simp only[Tr.den];rw[aF (bJ (by omega)),fW];rfl
def aMP(n:aG)(i:Int):List Int:=if i=0 then n.Key else n.Key2
def aVJ(n:aG)(i:Int)(row:List aE):ByteArray:=iA ((aMP n i).map fun c=>row.getD c.toNat default)
def Pw(cols:List Int)(row:List aE):Prop:=∀ c,c∈cols->0<=c/\c<row.length
structure okI (n:aG)(i:Int)(l:List aC):Prop where
 v:∀ d,d∈l->Dd d.Row
 c:∀ d,d∈l->Pw (aMP n i) d.Row
 r:∀ d,d∈l->d.Row.length<=1000
 t:∀ d,d∈l->0<=d.Time/\d.Time<=2199023255552
 n:okN l
theorem okI.okD{n:aG}{i:Int}{l:List aC}(h:okI n i l):okD l:=⟨fun d hd=>by have:=h.r d hd; unfold okR; omega,h.n⟩
theorem okI.sub{n:aG}{i:Int}(h:okI n i l)(hs:∀ x,x∈r->x∈l):okI n i r:=
 ⟨fun d hd=>h.v d (hs d hd),fun d hd=>h.c d (hs d hd),fun d hd=>h.r d (hs d hd),fun d hd=>h.t d (hs d hd),fun d hd=>h.n d (hs d hd)⟩
theorem okI.app{n:aG}{i:Int}(h:okI n i l)(h':okI n i r):okI n i (l++r):=
 ⟨fun d hd=>(dC.1 hd).elim (h.v d) (h'.v d),fun d hd=>(dC.1 hd).elim (h.c d) (h'.c d),fun d hd=>(dC.1 hd).elim (h.r d) (h'.r d),fun d hd=>(dC.1 hd).elim (h.t d) (h'.t d),fun d hd=>(dC.1 hd).elim (h.n d) (h'.n d)⟩
theorem okI.nil{n:aG}{i:Int}:okI n i []:=⟨by simp,by simp,by simp,by simp,fun d hd=>by simp at hd⟩
theorem okI.cons{n:aG}{i:Int}{l:List aC}(h:okI n i l):okI n i (cons l):=by
 have e:∀ d,d∈PL.cons l->∃ z,z∈l/\d.Time=z.Time/\d.Row=z.Row:=fun d hd=>by obtain⟨z,hz,he⟩:=jD hd;exact⟨z,hz,congrArg (·.1) he,congrArg (·.2) he⟩
 refine⟨fun d hd=>?_,fun d hd=>?_,fun d hd=>?_,fun d hd=>?_,(eO h.n).n64⟩ <;> obtain⟨z,hz,h1,h2⟩:=e d hd
 ·rw[h2]; exact h.v z hz
 ·rw[h2]; exact h.c z hz
 ·rw[h2]; exact h.r z hz
 ·rw[h1]; exact h.t z hz
abbrev kd (n:aG)(i:Int)(d:aC):ByteArray:=aVJ n i d.Row
def dM(n:aG)(i:Int)(l:List aC):List (ByteArray×List aC):=l.foldl (fun m d=>mput m (kd n i d) ((cB m (kd n i d)).getD []++[d])) []
theorem qH(n:aG)(i:Int)(l:List aC):MC (dM n i l):=by
 unfold dM;have:∀ (l:List aC) (m:List (ByteArray×List aC)),MC m->MC (l.foldl (fun m d=>mput m (kd n i d) ((cB m (kd n i d)).getD []++[d])) m):=by
  intro l
  induction l with
  | nil=>simp_all
  | cons d l ih=>exact fun m h=>ih _ (h.mput LO.bytes _ _)
 exact this l [] aPK
def ofK(n:aG)(i:Int)(k:ByteArray)(l:List aC):List aC:=l.filter fun d=>decide (kd n i d=k)
theorem mE(n:aG)(i:Int)(k:ByteArray)(l:List aC):cB (dM n i l) k=if ofK n i k l=[] then none else some (ofK n i k l):=by
 have:∀ (l:List aC) (m:List (ByteArray×List aC)),cB (l.foldl (fun m d=>mput m (kd n i d) ((cB m (kd n i d)).getD []++[d])) m) k=if ofK n i k l=[] then cB m k else some ((cB m k).getD []++ofK n i k l):=by
  intro l
  induction l with
  | nil=>intro m; rfl
  | cons d l ih=>
   intro m;rw[kD,ih];unfold ofK;by_cases hk:kd n i d=k
   ·rw[Tm (p:=fun d=>decide (kd n i d=k)) (bI hk),qQ,aB hk,hk];simp_all
   ·rw[Qo (p:=fun d=>decide (kd n i d=k)) (bJ hk),qQ,aF hk]
 have:=this l [];simpa[cB,dM] using this
theorem uM(n:aG)(i:Int)(k:ByteArray)(l:List aC):(ofK n i k l).length<=l.length:=qX _ _
theorem wP(n:aG)(i:Int)(k:ByteArray)(l:List aC):(cB (dM n i l) k).getD []=ofK n i k l:=by rw[mE]; split <;> simp_all
def TS(l:List aC):Prop:=l.Pairwise fun x y=>x.Time<=y.Time
theorem aIT(h:dJ x y<0):x.Time<=y.Time:=by
 by_cases h1:y.Time<x.Time
 ·have:dJ x y=1:=by unfold dJ fU oQ;omega
  omega
 ·omega
theorem Can.ts(h:Can l):TS l:=h.lt.imp fun h=>aIT h
theorem TS.get(h:TS l)(hij:i<=j)(hj:j<l.length):(l.getD i default).Time<=(l.getD j default).Time:=by
 rcases Nat.lt_or_eq_of_le hij with h1 | h1
 ·rw[dF hj,dF (show i<l.length by omega)];exact yH.1 h i j (by omega) hj h1
 simp_all
def sW(l:List aC):Prop:=∀ d,d∈l->0<=d.Time/\d.Time<=2199023255552
theorem sW.get(h:sW l)(k:Nat):0<=(l.getD k default).Time/\(l.getD k default).Time<=2199023255552:=by
 by_cases hk:k<l.length
 ·exact h _ (aT hk)
 ·rw[eU,Ao (by omega)]; exact⟨by decide,by decide⟩
end Go.PL
