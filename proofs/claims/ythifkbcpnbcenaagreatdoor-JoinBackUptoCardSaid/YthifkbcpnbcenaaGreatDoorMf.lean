/-
  Parts: Functions of the seat as trees, and that the program computes them. Printed by a program of our own. Plain reasoning about functions from trees: what they come to. Own work. Plain facts: numbers that wrap, lists by index, comparisons. Own work. Plain law: how values, rows and deltas are compared. Own work. Plain law: the stable sort of the library: insertion sort, exchanging and rotating parts. Own work. Plain law: the stable sort of the library: merging in place, and the whole. Own work. Plain law: merging in place sorts; the stable sort sorts. Own work. Plain law: the stable sort of the library sorts. Own work. The kept part of a plain-law text (strip.py). Own work. The kept part of a plain-law text (strip.py). Own work. The kept part of a plain-law text (strip.py). Own work. The kept part of a plain-law text (strip.py). Own work. The kept part of a plain-law text (strip.py). Own work. The kept part of a plain-law text (strip.py). Own work.
-/
import Derived.Test.YthifkbcpnbcenaaGreatDoorMe
import Derived.Sort.LotA
import Derived.Lib.Bytealg
import Derived.Lib.Strings
import Derived.Lib.ItoaLen
namespace Go.PL
open Go Go.Proofs IntKind
set_option linter.unusedVariables false
set_option maxRecDepth 20000
noncomputable section
abbrev R154:={f:LD→Option LD // ∀ a:LD,Con Tryz.prog 135 [tD a] (f a) tD}
def T154_L0(r1:LD)(r2:LD):(LD×Int×Int)→TP ((LD×Int×Int)⊕((LD)⊕LD))
 | (v3,v4,v5)=>.jn 5 0 (fun ((j7,j8):LD×Bool)=>⟨[(3,tD r1),(4,tD r2),(5,.own 5),(6,tI v4),(7,tI v5),(34,tB j8)],[(5,aD j7)]⟩) (.ite 0 (decide (v4<(r1.length:Int))) (.ret 5 (v3,true)) (.ret 5 (v3,decide (v5<(r2.length:Int))))) fun (j7,j8)=>.ite 0 j8 (.jn 10 0 (fun ((j9,j10):LD×Bool)=>⟨[(3,tD r1),(4,tD r2),(5,.own 5),(6,tI v4),(7,tI v5),(8,tB (decide (v5≥(r2.length:Int)))),(48,tB j10)],[(5,aD j9)]⟩) (.ite 0 (decide (v4<(r1.length:Int))) (.ret 5 (j7,decide (v5<(r2.length:Int)))) (.ret 5 (j7,false))) fun (j9,j10)=>.jn 0 0 (fun ((j11,j12):LD×Bool)=>⟨[(3,tD r1),(4,tD r2),(5,.own 5),(6,tI v4),(7,tI v5),(8,tB j12)],[(5,aD j11)]⟩) (.ite 0 j10 (.dg 2 (0≤v4∧v4<(r1.length:Int)) <| .dg 6 (0≤v5∧v5<(r2.length:Int)) <| .dc 8 [.t (eGDelta (r1.getD v4.toNat default)),.t (eGDelta (r2.getD v5.toNat default))] (G49_ok (r1.getD v4.toNat default) (r2.getD v5.toNat default)) fun r13=>.dr 0 0 [(5,false,[])] [3,4,5,6,7,48] <| .ret 0 (j9,decide (r13≤0))) (.ret 0 (j9,decide (v5≥(r2.length:Int))))) fun (j11,j12)=>.jn 1 0 (fun ((j14,j15,j16):LD×Int×Int)=>⟨[(3,tD r1),(4,tD r2),(5,.own 5),(6,tI j15),(7,tI j16)],[(5,aD j14)]⟩) (.ite 0 j12 (.grd 4 (0≤v4∧v4<(r1.length:Int)) <| .bs 1 false cGDelta ([r1.getD v4.toNat default]:LD) <| .grd 1 ((j11.length+([r1.getD v4.toNat default]:LD).length)*40≤140737488355328) <| .cv 0 [.ap 66 cGDelta j11 ([r1.getD v4.toNat default]:LD)] <| .cv 4 [.rn 66 5] <| .ret 0 (j11++([r1.getD v4.toNat default]:LD),i64.wrap (v4+1),v5)) (.grd 4 (0≤v5∧v5<(r2.length:Int)) <| .bs 1 false cGDelta ([r2.getD v5.toNat default]:LD) <| .grd 1 ((j11.length+([r2.getD v5.toNat default]:LD).length)*40≤140737488355328) <| .cv 0 [.ap 75 cGDelta j11 ([r2.getD v5.toNat default]:LD)] <| .cv 4 [.rn 75 5] <| .ret 0 (j11++([r2.getD v5.toNat default]:LD),v4,i64.wrap (v5+1)))) fun (j14,j15,j16)=>.ret 0 (.inl (j14,j15,j16))) (.ret 0 (.inr (.inl j7)))
def T154(rec:R154)(a0:LD):TP LD:=.ite 4 (decide ((a0.length:Int)<2)) (.ret 2 a0) (.gd 4 ((2:Int)≠0) (by decide) <| .slc 1 17 cGDelta a0 (0:Int) (i64.wrap (Int.tdiv (a0.length:Int) 2)) <| .ca 0 (rec.2 ((a0.drop (0:Int).toNat).take ((i64.wrap (Int.tdiv (a0.length:Int) 2))-(0:Int)).toNat)) fun r1=>.gd 5 ((2:Int)≠0) (by decide) <| .slc 1 23 cGDelta a0 (i64.wrap (Int.tdiv (a0.length:Int) 2):Int) (a0.length:Int) <| .ca 0 (rec.2 ((a0.drop (i64.wrap (Int.tdiv (a0.length:Int) 2):Int).toNat).take ((a0.length:Int)-(i64.wrap (Int.tdiv (a0.length:Int) 2):Int)).toNat)) fun r2=>.cv 4 [.th 5 5 52 3 (eF cGDelta ([]:LD))] <| .lp 0 (fun ((v3,v4,v5):LD×Int×Int)=>⟨[(3,tD r1),(4,tD r2),(5,.own 5),(6,tI v4),(7,tI v5)],[(5,aD v3)]⟩) (fun (b6:LD)=>⟨[(5,.own 5)],[(5,aD b6)]⟩) 0 (([]:LD),0,0) (T154_L0 r1 r2) fun b6=>.cv 2 [.fr 5 (eL cGDelta b6)] <| .ret 0 b6)
theorem T154_ok(rec:R154)(a0:LD):Con Tryz.prog 135 [tD a0] (T154 rec a0).den tD:=con Tryz.func135 ti_ok (T154 rec a0)
def H154(a:LD):Option LD:=fixF (C:=fun (a:LD) (x:Option LD)=>Con Tryz.prog 135 [tD a] x tD) (fun a=>⟨callable_of Tryz.func135 (by kernel_rfl),fun _ h=>nomatch h⟩) (fun rec a=>T154 rec a) (fun rec a=>T154_ok rec a) a
theorem H154_ok(a:LD):Con Tryz.prog 135 [tD a] (H154 a) tD:=fixF_ok (C:=fun (a:LD) (x:Option LD)=>Con Tryz.prog 135 [tD a] x tD) _ _ _ a
def G154(a0:LD):Option LD:=H154 a0
theorem G154_ok(a0:LD):Con Tryz.prog 135 [tD a0] (G154 a0) tD:=H154_ok a0
def T115(a0:GDelta)(a1:Int):TP GDelta:=.dg 5 ((0+a0.Row.length)*32≤140737488355328) <| .dr 2 0 [(7,true,[2,5]),(10,true,[5]),(2,false,[]),(4,false,[8])] [0,1,2,4] <| .cv 0 [.fr 10 (eL cGValue (a0.Row))] <| .ret 0 (GDelta.mk a0.Time a0.Row a1)
def G115(a0:GDelta)(a1:Int):Option GDelta:=(T115 a0 a1).den
theorem G115_ok(a0:GDelta)(a1:Int):Con Tryz.prog 136 [.t (eGDelta a0),tI a1] (G115 a0 a1) (fun (y:GDelta)=>.t (eGDelta y)):=con Tryz.func136 ti_ok (T115 a0 a1)
def T107_L1(r1:LD)(v3:Int):(LD×Int×Int)→TP ((LD×Int×Int)⊕((LD×Int×Int)⊕((LD×Int)⊕((LD)⊕LD))))
 | (v5,v6,v7)=>.jn 0 0 (fun ((j11,j12):LD×Bool)=>⟨[(3,tD r1),(4,.own 4),(5,tI v3),(6,tI v6),(7,tI v7),(34,tB j12)],[(4,aD j11)]⟩) (.dl 4 (decide (v7<(r1.length:Int))) (.dg 7 (0≤v3∧v3<(r1.length:Int)) <| .dg 15 (0≤(if (i64.wrap ((r1.length:Int)-1))<v7 then (i64.wrap ((r1.length:Int)-1)) else v7)∧(if (i64.wrap ((r1.length:Int)-1))<v7 then (i64.wrap ((r1.length:Int)-1)) else v7)<(r1.length:Int)) <| .dc 17 [.t (eGDelta (r1.getD v3.toNat default)),.t (eGDelta (r1.getD (if (i64.wrap ((r1.length:Int)-1))<v7 then (i64.wrap ((r1.length:Int)-1)) else v7).toNat default))] (G49_ok (r1.getD v3.toNat default) (r1.getD (if (i64.wrap ((r1.length:Int)-1))<v7 then (i64.wrap ((r1.length:Int)-1)) else v7).toNat default)) fun r13=>.dr 0 0 [(4,false,[])] [3,4,5,6,7] <| .ret 0 (v5,r13==0)) (.dr 0 0 [(4,false,[])] [3,4,5,6,7] <| .ret 0 (v5,false))) fun (j11,j12)=>.ite 0 j12 (.grd 4 (0≤v7∧v7<(r1.length:Int)) <| .ret 7 (.inl (j11,i64.wrap (v6+((r1.getD v7.toNat default).N)),i64.wrap (v7+1)))) (.ret 0 (.inr (.inl (j11,v6,v7))))
def T107_L0(r1:LD):(LD×Int)→TP ((LD×Int)⊕((LD)⊕LD))
 | (v2,v3)=>.ite 4 (decide (v3<(r1.length:Int))) (.lp 3 (fun ((v5,v6,v7):LD×Int×Int)=>⟨[(3,tD r1),(4,.own 4),(5,tI v3),(6,tI v6),(7,tI v7)],[(4,aD v5)]⟩) (fun ((b8,b9,b10):LD×Int×Int)=>⟨[(3,tD r1),(4,.own 4),(5,tI v3),(6,tI b9),(7,tI b10)],[(4,aD b8)]⟩) 2 (v2,0,v3) (T107_L1 r1 v3) fun (b8,b9,b10)=>.jn 2 0 (fun (j14:LD)=>⟨[(3,tD r1),(4,.own 4),(7,tI b10)],[(4,aD j14)]⟩) (.ite 0 (b9 != 0) (.grd 4 (0≤v3∧v3<(r1.length:Int)) <| .ca 2 (G115_ok (r1.getD v3.toNat default) b9) fun r15=>.bs 0 false cGDelta ([r15]:LD) <| .grd 1 ((b8.length+([r15]:LD).length)*40≤140737488355328) <| .cv 0 [.ap 54 cGDelta b8 ([r15]:LD)] <| .cv 1 [.rn 54 4] <| .ret 0 (b8++([r15]:LD))) (.ret 0 b8)) fun j14=>.ret 2 (.inl (j14,b10))) (.ret 0 (.inr (.inl v2)))
def T107(a0:LD):TP LD:=.ca 2 (G154_ok a0) fun r1=>.cv 3 [.th 4 4 52 3 (eF cGDelta ([]:LD))] <| .lp 0 (fun ((v2,v3):LD×Int)=>⟨[(3,tD r1),(4,.own 4),(5,tI v3)],[(4,aD v2)]⟩) (fun (b4:LD)=>⟨[(4,.own 4)],[(4,aD b4)]⟩) 0 (([]:LD),0) (T107_L0 r1) fun b4=>.cv 2 [.fr 4 (eL cGDelta b4)] <| .ret 0 b4
def G107(a0:LD):Option LD:=(T107 a0).den
theorem G107_ok(a0:LD):Con Tryz.prog 89 [tD a0] (G107 a0) tD:=con Tryz.func89 ti_ok (T107 a0)
def T47(a0:LD)(a1:LD):TP LD:=.bs 1 true cGDelta ([]:LD) <| .grd 2 ((([]:LD).length+a0.length)*40≤140737488355328) <| .cv 0 [.ap 7 cGDelta ([]:LD) a0] <| .grd 2 (((([]:LD)++a0).length+a1.length)*40≤140737488355328) <| .cv 0 [.ap 9 cGDelta (([]:LD)++a0) a1] <| .cv 0 [.fr 9 (eL cGDelta ((([]:LD)++a0)++a1))] <| .ca 0 (G107_ok ((([]:LD)++a0)++a1)) fun r1=>.ret 1 r1
def G47(a0:LD)(a1:LD):Option LD:=(T47 a0 a1).den
theorem G47_ok(a0:LD)(a1:LD):Con Tryz.prog 62 [tD a0,tD a1] (G47 a0 a1) tD:=con Tryz.func62 ti_ok (T47 a0 a1)
def T35_L1(a0:List (List Int))(a1:List GAct)(v3:Int)(v4:Int):((List LD)×Int)→TP (((List LD)×Int)⊕((List LD)⊕(((List LD)×Int)⊕(((List LD)×Int×Int)⊕((Unit)⊕Bool)))))
 | (v7,v8)=>.grd 4 (0≤v4∧v4<(a1.length:Int)) <| .ite 4 (decide (v8<(((a1.getD v4.toNat default).L).length:Int))) (.grd 3 (0≤v4∧v4<(a1.length:Int)) <| .grd 4 (0≤v8∧v8<(((a1.getD v4.toNat default).L).length:Int)) <| .jn 8 0 (fun ((j10,j11):(List LD)×Bool)=>⟨[(0,.t (eL cL_cInt a0)),(1,.t (eL cGAct a1)),(7,.own 7),(8,tI v3),(9,tI v4),(10,tI (bitA .i64 ((a1.getD v4.toNat default).Do) 1)),(11,tI v8),(12,.ptr 12 0),(94,tB j11)],[(7,.arr 38 1 (j10.length) (eF cL_cGDelta j10)),(12,.box ((cGDelta (((a1.getD v4.toNat default).L).getD v8.toNat default)).map .t))]⟩) (.ite 0 (decide (((((a1.getD v4.toNat default).L).getD v8.toNat default).Time)≤v3)) (.ret 9 (v7,true)) (.ite 5 (decide (((((a1.getD v4.toNat default).L).getD v8.toNat default).N)<(-3))) (.ret 4 (v7,true)) (.ret 4 (v7,decide (((((a1.getD v4.toNat default).L).getD v8.toNat default).N)>3))))) fun (j10,j11)=>.ite 0 j11 (.ret 1 (.inr (.inr (.inr (.inr (.inr false)))))) (.dg 4 (0≤(bitA .i64 ((a1.getD v4.toNat default).Do) 1)∧(bitA .i64 ((a1.getD v4.toNat default).Do) 1)<(a0.length:Int)) <| .dc 6 [.t (.sl 1 (arrOf [.int .i64 ((((a1.getD v4.toNat default).L).getD v8.toNat default).Time),eL cGValue ((((a1.getD v4.toNat default).L).getD v8.toNat default).Row),.int .i64 1] 3)),.t (eL cInt (a0.getD (bitA .i64 ((a1.getD v4.toNat default).Do) 1).toNat default)),tI 1] (G30_ok ([(GDelta.mk ((((a1.getD v4.toNat default).L).getD v8.toNat default).Time) ((((a1.getD v4.toNat default).L).getD v8.toNat default).Row) 1)]:LD) (a0.getD (bitA .i64 ((a1.getD v4.toNat default).Do) 1).toNat default) 1) fun r12=>.dr 2 0 [(7,false,[]),(12,false,[])] [0,1,7,8,9,10,11,12,94,95] <| .ite 0 (!r12) (.ret 1 (.inr (.inr (.inr (.inr (.inr false)))))) (.ret 3 (.inl (j10,i64.wrap (v8+1)))))) (.ret 0 (.inr (.inl v7)))
def T35_L2(a0:List (List Int))(a1:List GAct)(v3:Int)(v4:Int):((List LD)×Int)→TP (((List LD)×Int)⊕((List LD)⊕(((List LD)×Int)⊕(((List LD)×Int×Int)⊕((Unit)⊕Bool)))))
 | (v14,v15)=>.grd 4 (0≤(bitA .i64 ((a1.getD v4.toNat default).Do) 1)∧(bitA .i64 ((a1.getD v4.toNat default).Do) 1)<(v14.length:Int)) <| .grd 1 ((bitA .i64 ((a1.getD v4.toNat default).Do) 1).toNat<v14.length) <| .ite 2 (decide (v15<((v14.getD (bitA .i64 ((a1.getD v4.toNat default).Do) 1).toNat default).length:Int))) (.grd 3 (0≤(bitA .i64 ((a1.getD v4.toNat default).Do) 1)∧(bitA .i64 ((a1.getD v4.toNat default).Do) 1)<(v14.length:Int)) <| .grd 1 ((bitA .i64 ((a1.getD v4.toNat default).Do) 1).toNat<v14.length) <| .grd 2 (0≤v15∧v15<((v14.getD (bitA .i64 ((a1.getD v4.toNat default).Do) 1).toNat default).length:Int)) <| .jn 4 0 (fun ((j17,j18):(List LD)×Bool)=>⟨[(0,.t (eL cL_cInt a0)),(1,.t (eL cGAct a1)),(7,.own 7),(8,tI v3),(9,tI v4),(10,tI (bitA .i64 ((a1.getD v4.toNat default).Do) 1)),(13,tI v15),(145,tB j18)],[(7,.arr 38 1 (j17.length) (eF cL_cGDelta j17))]⟩) (.ite 0 (decide ((((v14.getD (bitA .i64 ((a1.getD v4.toNat default).Do) 1).toNat default).getD v15.toNat default).N)<1)) (.ret 10 (v14,true)) (.grd 3 (0≤(bitA .i64 ((a1.getD v4.toNat default).Do) 1)∧(bitA .i64 ((a1.getD v4.toNat default).Do) 1)<(v14.length:Int)) <| .grd 1 ((bitA .i64 ((a1.getD v4.toNat default).Do) 1).toNat<v14.length) <| .grd 2 (0≤v15∧v15<((v14.getD (bitA .i64 ((a1.getD v4.toNat default).Do) 1).toNat default).length:Int)) <| .ret 4 (v14,decide ((((v14.getD (bitA .i64 ((a1.getD v4.toNat default).Do) 1).toNat default).getD v15.toNat default).N)>20)))) fun (j17,j18)=>.ite 0 j18 (.ret 1 (.inr (.inr (.inr (.inr (.inr false)))))) (.ret 3 (.inl (j17,i64.wrap (v15+1))))) (.ret 0 (.inr (.inl v14)))
def T35_L0(a0:List (List Int))(a1:List GAct):((List LD)×Int×Int)→TP (((List LD)×Int×Int)⊕((Unit)⊕Bool))
 | (v2,v3,v4)=>.ite 4 (decide (v4<(a1.length:Int))) (.pc 0 3 (fun ((j5,j6):(List LD)×Int)=>⟨[(0,.t (eL cL_cInt a0)),(1,.t (eL cGAct a1)),(7,.own 7),(8,tI j6),(9,tI v4)],[(7,.arr 38 1 (j5.length) (eF cL_cGDelta j5))]⟩) (.grd 3 (0≤v4∧v4<(a1.length:Int)) <| .ite 4 ((bitA .i64 ((a1.getD v4.toNat default).Do) 3)==3) (.grd 3 (0≤v4∧v4<(a1.length:Int)) <| .ite 3 (decide (((a1.getD v4.toNat default).C)>2199023255552)) (.ret 1 (.inr (.inr (.inr false)))) (.grd 4 (0≤v4∧v4<(a1.length:Int)) <| .ret 4 (.inl (v2,if ((a1.getD v4.toNat default).C)>v3 then ((a1.getD v4.toNat default).C) else v3)))) (.grd 3 (0≤v4∧v4<(a1.length:Int)) <| .grd 7 (0≤v4∧v4<(a1.length:Int)) <| .ite 4 (decide ((((a1.getD v4.toNat default).L).length:Int)>8)) (.ret 1 (.inr (.inr (.inr false)))) (.lp 1 (fun ((v7,v8):(List LD)×Int)=>⟨[(0,.t (eL cL_cInt a0)),(1,.t (eL cGAct a1)),(7,.own 7),(8,tI v3),(9,tI v4),(10,tI (bitA .i64 ((a1.getD v4.toNat default).Do) 1)),(11,tI v8)],[(7,.arr 38 1 (v7.length) (eF cL_cGDelta v7))]⟩) (fun (b9:(List LD))=>⟨[(0,.t (eL cL_cInt a0)),(1,.t (eL cGAct a1)),(7,.own 7),(8,tI v3),(9,tI v4),(10,tI (bitA .i64 ((a1.getD v4.toNat default).Do) 1))],[(7,.arr 38 1 (b9.length) (eF cL_cGDelta b9))]⟩) 2 (v2,0) (T35_L1 a0 a1 v3 v4) fun b9=>.dg 4 (0≤(bitA .i64 ((a1.getD v4.toNat default).Do) 1)∧(bitA .i64 ((a1.getD v4.toNat default).Do) 1)<(b9.length:Int)) <| .dg 5 ((bitA .i64 ((a1.getD v4.toNat default).Do) 1).toNat<b9.length) <| .dg 8 (0≤v4∧v4<(a1.length:Int)) <| .dc 11 [tD (b9.getD (bitA .i64 ((a1.getD v4.toNat default).Do) 1).toNat default),tD ((a1.getD v4.toNat default).L)] (G47_ok (b9.getD (bitA .i64 ((a1.getD v4.toNat default).Do) 1).toNat default) ((a1.getD v4.toNat default).L)) fun r13=>.dg 12 (0≤(bitA .i64 ((a1.getD v4.toNat default).Do) 1)∧(bitA .i64 ((a1.getD v4.toNat default).Do) 1)<(b9.length:Int)) <| .dg 13 ((bitA .i64 ((a1.getD v4.toNat default).Do) 1).toNat<b9.length) <| .dr 0 0 [(7,false,[13])] [0,1,7,8,9,10] <| .sto 0 7 cL_cGDelta b9 [((bitA .i64 ((a1.getD v4.toNat default).Do) 1).toNat,r13)] <| .lp 1 (fun ((v14,v15):(List LD)×Int)=>⟨[(0,.t (eL cL_cInt a0)),(1,.t (eL cGAct a1)),(7,.own 7),(8,tI v3),(9,tI v4),(10,tI (bitA .i64 ((a1.getD v4.toNat default).Do) 1)),(13,tI v15)],[(7,.arr 38 1 (v14.length) (eF cL_cGDelta v14))]⟩) (fun (b16:(List LD))=>⟨[(0,.t (eL cL_cInt a0)),(1,.t (eL cGAct a1)),(7,.own 7),(8,tI v3),(9,tI v4)],[(7,.arr 38 1 (b16.length) (eF cL_cGDelta b16))]⟩) 4 (b9.set (bitA .i64 ((a1.getD v4.toNat default).Do) 1).toNat r13,0) (T35_L2 a0 a1 v3 v4) fun b16=>.ret 0 (.inl (b16,v3))))) fun (j5,j6)=>.ret 3 (.inl (j5,j6,i64.wrap (v4+1)))) (.ret 0 (.inr (.inl ())))
def T35(a0:List (List Int))(a1:List GAct)(a2:Int):TP Bool:=.jn 6 0 (fun (j1:Bool)=>⟨[(0,.t (eL cL_cInt a0)),(1,.t (eL cGAct a1)),(22,tB j1)],[]⟩) (.ite 0 (decide ((a1.length:Int)>a2)) (.ret 4 true) (.ret 4 ((a0.length:Int) != 2))) fun j1=>.ite 0 j1 (.ret 1 false) (.bs 0 true cL_cGDelta ([([]:LD),([]:LD)]:List LD) <| .cv 3 [.rn 23 7] <| .lp 0 (fun ((v2,v3,v4):(List LD)×Int×Int)=>⟨[(0,.t (eL cL_cInt a0)),(1,.t (eL cGAct a1)),(7,.own 7),(8,tI v3),(9,tI v4)],[(7,.arr 38 1 (v2.length) (eF cL_cGDelta v2))]⟩) (fun (_:Unit)=>⟨[],[]⟩) 0 (([([]:LD),([]:LD)]:List LD),(-1),0) (T35_L0 a0 a1) fun _=>.ret 1 true)
def G35(a0:List (List Int))(a1:List GAct)(a2:Int):Option Bool:=(T35 a0 a1 a2).den
theorem G35_ok(a0:List (List Int))(a1:List GAct)(a2:Int):Con Tryz.prog 20 [.t (eL cL_cInt a0),.t (eL cGAct a1),tI a2] (G35 a0 a1 a2) tB:=con Tryz.func20 ti_ok (T35 a0 a1 a2)
def T8(a0:GNode)(a1:List (List Int))(a2:List GAct)(a3:Int):TP Bool:=.jn 6 0 (fun (j1:Bool)=>⟨[(1,.t (eL cL_cInt a1)),(2,.t (eL cGAct a2)),(3,tI a3),(4,.ptr 4 0),(26,tB j1)],[(4,bN a0)]⟩) (.ite 0 (a0.Op != 6) (.ite 5 (a0.Op != 7) (.ret 9 true) (.ite 5 ((a1.length:Int) != 2) (.ret 4 true) (.ca 1 (G33_ok ([]:List GFunc) a0) fun r2=>.ret 2 (!r2)))) (.ite 10 ((a1.length:Int) != 2) (.ret 4 true) (.ca 1 (G33_ok ([]:List GFunc) a0) fun r3=>.ret 2 (!r3)))) fun j1=>.ite 0 j1 (.ret 1 false) (.ca 2 (G34_ok ([]:List GFunc) a0 a1) fun r4=>.jn 1 0 (fun (j5:Bool)=>⟨[(8,tB j5)],[]⟩) (.ite 0 r4 (.ca 3 (G35_ok a1 a2 a3) fun r6=>.ret 2 r6) (.ret 6 false)) fun j5=>.ret 0 j5)
def G8(a0:GNode)(a1:List (List Int))(a2:List GAct)(a3:Int):Option Bool:=(T8 a0 a1 a2 a3).den
theorem G8_ok(a0:GNode)(a1:List (List Int))(a2:List GAct)(a3:Int):Con Tryz.prog 5 [.t (eGNode a0),.t (eL cL_cInt a1),.t (eL cGAct a2),tI a3] (G8 a0 a1 a2 a3) tB:=con Tryz.func5 ti_ok (T8 a0 a1 a2 a3)
def T72s0(a0:ByteArray):TP GReader_errataref01:=.cv 5 [.rn 5 40000] <| .ret 0 (GReader_errataref01.mk a0 false)
def G72s0(a0:ByteArray):Option GReader_errataref01:=(T72s0 a0).den
theorem G72s0_ok(a0:ByteArray):ConH Tryz.prog 37 [.t (.str a0)] [] [] (G72s0 a0) (fun (y:GReader_errataref01)=>.ptr 40000 0) (fun (y:GReader_errataref01)=>[(40000,.box ((cGReader_errataref01 y).map .t))]):=conH Tryz.func37 ti_ok (T72s0 a0)
abbrev R122:={f:Int→Option ByteArray // ∀ a:Int,Con Tryz.prog 153 [tI a] (f a) (fun (y:ByteArray)=>.t (.str y))}
def T122(rec:R122)(a0:Int):TP ByteArray:=.gd 3 ((10:Int)≠0) (by decide) <| .bs 2 false cU8 ([IntKind.u8.wrap (i64.wrap (48-(Int.tmod a0 10)))]:List Int) <| .gd 1 (∀ i,i<([IntKind.u8.wrap (i64.wrap (48-(Int.tmod a0 10)))]:List Int).length→isU8 ((eF cU8 ([IntKind.u8.wrap (i64.wrap (48-(Int.tmod a0 10)))]:List Int)) i)=true) (fun _ _=>rfl) <| .ite 3 (decide (a0>(-10))) (.ret 2 (bstr (([IntKind.u8.wrap (i64.wrap (48-(Int.tmod a0 10)))]:List Int).length) (eF cU8 ([IntKind.u8.wrap (i64.wrap (48-(Int.tmod a0 10)))]:List Int)))) (.gd 2 ((10:Int)≠0) (by decide) <| .ca 0 (rec.2 (i64.wrap (Int.tdiv a0 10))) fun r1=>.grd 2 (((r1.size+(bstr (([IntKind.u8.wrap (i64.wrap (48-(Int.tmod a0 10)))]:List Int).length) (eF cU8 ([IntKind.u8.wrap (i64.wrap (48-(Int.tmod a0 10)))]:List Int))).size:Nat):Int)≤9223372036854775807) <| .ret 1 (r1++(bstr (([IntKind.u8.wrap (i64.wrap (48-(Int.tmod a0 10)))]:List Int).length) (eF cU8 ([IntKind.u8.wrap (i64.wrap (48-(Int.tmod a0 10)))]:List Int)))))
theorem T122_ok(rec:R122)(a0:Int):Con Tryz.prog 153 [tI a0] (T122 rec a0).den (fun (y:ByteArray)=>.t (.str y)):=con Tryz.func153 ti_ok (T122 rec a0)
def H122(a:Int):Option ByteArray:=fixF (C:=fun (a:Int) (x:Option ByteArray)=>Con Tryz.prog 153 [tI a] x (fun (y:ByteArray)=>.t (.str y))) (fun a=>⟨callable_of Tryz.func153 (by kernel_rfl),fun _ h=>nomatch h⟩) (fun rec a=>T122 rec a) (fun rec a=>T122_ok rec a) a
theorem H122_ok(a:Int):Con Tryz.prog 153 [tI a] (H122 a) (fun (y:ByteArray)=>.t (.str y)):=fixF_ok (C:=fun (a:Int) (x:Option ByteArray)=>Con Tryz.prog 153 [tI a] x (fun (y:ByteArray)=>.t (.str y))) _ _ _ a
def G122(a0:Int):Option ByteArray:=H122 a0
theorem G122_ok(a0:Int):Con Tryz.prog 153 [tI a0] (G122 a0) (fun (y:ByteArray)=>.t (.str y)):=H122_ok a0
def T55(a0:Int):TP ByteArray:=.ite 3 (decide (a0<0)) (.ca 1 (G122_ok a0) fun r1=>.grd 1 (((((⟨#[45]⟩):ByteArray).size+r1.size:Nat):Int)≤9223372036854775807) <| .grd 1 (((((((⟨#[45]⟩):ByteArray)++r1):ByteArray).size+((⟨#[59]⟩):ByteArray).size:Nat):Int)≤9223372036854775807) <| .ret 1 (((((⟨#[45]⟩):ByteArray)++r1):ByteArray)++((⟨#[59]⟩):ByteArray))) (.ca 2 (G122_ok (i64.wrap (0-a0))) fun r2=>.grd 1 (((r2.size+((⟨#[59]⟩):ByteArray).size:Nat):Int)≤9223372036854775807) <| .ret 1 (r2++((⟨#[59]⟩):ByteArray)))
def G55(a0:Int):Option ByteArray:=(T55 a0).den
theorem G55_ok(a0:Int):Con Tryz.prog 132 [tI a0] (G55 a0) (fun (y:ByteArray)=>.t (.str y)):=con Tryz.func132 ti_ok (T55 a0)
def T183_L0(a0:ByteArray)(j2:Int):(Int×Int)→TP ((Int×Int)⊕((Int)⊕(Int×Bool)))
 | (v3,v4)=>.ite 4 (decide (v4<((a0:ByteArray).size:Int))) (.grd 3 (0≤v4∧v4<(a0.size:Int)) <| .jn 2 0 (fun (j6:Bool)=>⟨[(0,.t (.str a0)),(4,tI j2),(5,tI v3),(6,tI v4),(35,tB j6)],[]⟩) (.ite 0 (decide (((a0[v4.toNat]?.getD 0).toNat:Int)<48)) (.ret 9 true) (.grd 3 (0≤v4∧v4<(a0.size:Int)) <| .ite 3 (decide (((a0[v4.toNat]?.getD 0).toNat:Int)>57)) (.ret 3 true) (.ret 3 (decide (v4>20))))) fun j6=>.ite 0 j6 (.ret 2 (.inr (.inr (0,false)))) (.grd 5 (0≤v4∧v4<(a0.size:Int)) <| .ret 7 (.inl (i64.wrap ((i64.wrap (10*v3))-(i64.wrap (IntKind.u8.wrap (((a0[v4.toNat]?.getD 0).toNat:Int)-48)))),i64.wrap (v4+1))))) (.ret 0 (.inr (.inl v3)))
def T183(a0:ByteArray):TP (Int×Bool):=.jn 7 0 (fun (j1:Bool)=>⟨[(0,.t (.str a0)),(4,tI 0),(14,tB j1)],[]⟩) (.ite 0 (decide (((a0:ByteArray).size:Int)>0)) (.grd 2 (0≤(0:Int)∧(0:Int)<(a0.size:Int)) <| .ret 2 (((a0[(0:Int).toNat]?.getD 0).toNat:Int)==45)) (.ret 4 false)) fun j1=>.jn 0 0 (fun (j2:Int)=>⟨[(0,.t (.str a0)),(4,tI j2)],[]⟩) (.ite 0 j1 (.ret 1 1) (.ret 0 0)) fun j2=>.lp 3 (fun ((v3,v4):Int×Int)=>⟨[(0,.t (.str a0)),(4,tI j2),(5,tI v3),(6,tI v4)],[]⟩) (fun (b5:Int)=>⟨[(0,.t (.str a0)),(4,tI j2),(5,tI b5)],[]⟩) 0 (0,j2) (T183_L0 a0 j2) fun b5=>.jn 2 0 (fun (j7:Int)=>⟨[(0,.t (.str a0)),(5,tI j7)],[]⟩) (.ite 0 (j2==0) (.ret 3 (i64.wrap (0-b5))) (.ret 0 b5)) fun j7=>.ca 2 (G55_ok j7) fun r8=>.grd 2 (((a0.size+((⟨#[59]⟩):ByteArray).size:Nat):Int)≤9223372036854775807) <| .ret 3 (j7,(r8:ByteArray).toList==(a0++((⟨#[59]⟩):ByteArray):ByteArray).toList)
def G183(a0:ByteArray):Option (Int×Bool):=(T183 a0).den
theorem G183_ok(a0:ByteArray):Con Tryz.prog 130 [.t (.str a0)] (G183 a0) (fun (y:Int×Bool)=>.tup [tI y.1,tB y.2]):=con Tryz.func130 ti_ok (T183 a0)
def T147s0(qu0:GReader_errataref01):TP (Int×ByteArray×Bool):=.ret 10 (0,⟨#[]⟩,true)
def G147s0(qu0:GReader_errataref01):Option (Int×ByteArray×Bool):=(T147s0 qu0).den
theorem G147s0_ok(qu0:GReader_errataref01):ConH Tryz.prog 87 [.ptr 30000 0] [(30000,.box ((cGReader_errataref01 qu0).map .t))] [30000] (G147s0 qu0) (fun (y:Int×ByteArray×Bool)=>tI y.1) (fun (y:Int×ByteArray×Bool)=>[(30000,.box [.t (.str (y.2.1)),tB y.2.2])]):=conH Tryz.func87 ti_ok (T147s0 qu0)
def T142s0_L0(a1:Int)(qu0:GReader_errataref01):Int→TP ((Int)⊕((Int)⊕(Int×ByteArray×Bool)))
 | v1=>.jn 8 0 (fun (j3:Bool)=>⟨[(0,.ptr 30000 0),(1,.t (.int .u8 a1)),(5,tI v1),(28,tB j3)],[(30000,.box ((cGReader_errataref01 qu0).map .t))]⟩) (.ite 0 (decide (v1<((qu0.Rest:ByteArray).size:Int))) (.ite 4 (decide (v1<21)) (.grd 6 (0≤v1∧v1<(qu0.Rest.size:Int)) <| .ret 3 (((qu0.Rest[v1.toNat]?.getD 0).toNat:Int) != a1)) (.ret 9 false)) (.ret 13 false)) fun j3=>.ite 0 j3 (.ret 3 (.inl (i64.wrap (v1+1)))) (.ret 0 (.inr (.inl v1)))
def T142s0(a1:Int)(qu0:GReader_errataref01):TP (Int×ByteArray×Bool):=.lp 2 (fun (v1:Int)=>⟨[(0,.ptr 30000 0),(1,.t (.int .u8 a1)),(5,tI v1)],[(30000,.box ((cGReader_errataref01 qu0).map .t))]⟩) (fun (b2:Int)=>⟨[(0,.ptr 30000 0),(1,.t (.int .u8 a1)),(5,tI b2)],[(30000,.box ((cGReader_errataref01 qu0).map .t))]⟩) 0 0 (T142s0_L0 a1 qu0) fun b2=>.ite 7 (decide (b2≥((qu0.Rest:ByteArray).size:Int))) (.ch 1 [] (G147s0_ok qu0) fun r4=>.ret 1 (r4.1,r4.2.1,r4.2.2)) (.grd 6 (0≤b2∧b2<(qu0.Rest.size:Int)) <| .ite 2 (((qu0.Rest[b2.toNat]?.getD 0).toNat:Int) != a1) (.ch 1 [] (G147s0_ok qu0) fun r5=>.ret 1 (r5.1,r5.2.1,r5.2.2)) (.grd 6 (0≤(0:Int)∧(0:Int)≤b2∧b2≤(qu0.Rest.size:Int)) <| .ca 0 (G183_ok (qu0.Rest.extract (0:Int).toNat b2.toNat)) fun r6=>.ite 7 (!r6.2) (.ch 1 [] (G147s0_ok qu0) fun r7=>.ret 1 (r7.1,r7.2.1,r7.2.2)) (.grd 8 (0≤(i64.wrap (b2+1):Int)∧(i64.wrap (b2+1):Int)≤(qu0.Rest.size:Int)∧(qu0.Rest.size:Int)≤(qu0.Rest.size:Int)) <| .ret 5 (r6.1,qu0.Rest.extract (i64.wrap (b2+1):Int).toNat (qu0.Rest.size:Int).toNat,qu0.Bad))))
def G142s0(a1:Int)(qu0:GReader_errataref01):Option (Int×ByteArray×Bool):=(T142s0 a1 qu0).den
theorem G142s0_ok(a1:Int)(qu0:GReader_errataref01):ConH Tryz.prog 81 [.ptr 30000 0,.t (.int .u8 a1)] [(30000,.box ((cGReader_errataref01 qu0).map .t))] [30000] (G142s0 a1 qu0) (fun (y:Int×ByteArray×Bool)=>tI y.1) (fun (y:Int×ByteArray×Bool)=>[(30000,.box [.t (.str (y.2.1)),tB y.2.2])]):=conH Tryz.func81 ti_ok (T142s0 a1 qu0)
def T73s0(qu0:GReader_errataref01):TP (Int×ByteArray×Bool):=.ch 2 [] (G142s0_ok 59 qu0) fun r1=>.ret 1 (r1.1,r1.2.1,r1.2.2)
def G73s0(qu0:GReader_errataref01):Option (Int×ByteArray×Bool):=(T73s0 qu0).den
theorem G73s0_ok(qu0:GReader_errataref01):ConH Tryz.prog 39 [.ptr 30000 0] [(30000,.box ((cGReader_errataref01 qu0).map .t))] [30000] (G73s0 qu0) (fun (y:Int×ByteArray×Bool)=>tI y.1) (fun (y:Int×ByteArray×Bool)=>[(30000,.box [.t (.str (y.2.1)),tB y.2.2])]):=conH Tryz.func39 ti_ok (T73s0 qu0)
def T146s0(a1:Int)(qu0:GReader_errataref01):TP (Int×ByteArray×Bool):=.ch 3 [] (G142s0_ok a1 qu0) fun r1=>.ite 3 (decide (r1.1<0)) (.ch 1 [] (G147s0_ok (GReader_errataref01.mk r1.2.1 r1.2.2)) fun r2=>.ret 1 (r2.1,r2.2.1,r2.2.2)) (.ret 2 (r1.1,r1.2.1,r1.2.2))
def G146s0(a1:Int)(qu0:GReader_errataref01):Option (Int×ByteArray×Bool):=(T146s0 a1 qu0).den
theorem G146s0_ok(a1:Int)(qu0:GReader_errataref01):ConH Tryz.prog 86 [.ptr 30000 0,.t (.int .u8 a1)] [(30000,.box ((cGReader_errataref01 qu0).map .t))] [30000] (G146s0 a1 qu0) (fun (y:Int×ByteArray×Bool)=>tI y.1) (fun (y:Int×ByteArray×Bool)=>[(30000,.box [.t (.str (y.2.1)),tB y.2.2])]):=conH Tryz.func86 ti_ok (T146s0 a1 qu0)
def T148s0(a1:Int)(qu0:GReader_errataref01):TP (Bool×ByteArray×Bool):=.ite 7 (((qu0.Rest:ByteArray).size:Int)==0) (.ch 1 [] (G147s0_ok qu0) fun r1=>.ret 1 (false,r1.2.1,r1.2.2)) (.grd 5 (0≤(0:Int)∧(0:Int)<(qu0.Rest.size:Int)) <| .ite 2 (((qu0.Rest[(0:Int).toNat]?.getD 0).toNat:Int) != a1) (.ch 1 [] (G147s0_ok qu0) fun r2=>.ret 1 (false,r2.2.1,r2.2.2)) (.grd 6 (0≤(1:Int)∧(1:Int)≤(qu0.Rest.size:Int)∧(qu0.Rest.size:Int)≤(qu0.Rest.size:Int)) <| .ret 4 (true,qu0.Rest.extract (1:Int).toNat (qu0.Rest.size:Int).toNat,qu0.Bad)))
def G148s0(a1:Int)(qu0:GReader_errataref01):Option (Bool×ByteArray×Bool):=(T148s0 a1 qu0).den
theorem G148s0_ok(a1:Int)(qu0:GReader_errataref01):ConH Tryz.prog 88 [.ptr 30000 0,.t (.int .u8 a1)] [(30000,.box ((cGReader_errataref01 qu0).map .t))] [30000] (G148s0 a1 qu0) (fun (y:Bool×ByteArray×Bool)=>tB y.1) (fun (y:Bool×ByteArray×Bool)=>[(30000,.box [.t (.str (y.2.1)),tB y.2.2])]):=conH Tryz.func88 ti_ok (T148s0 a1 qu0)
def T75s0(qu0:GReader_errataref01):TP (ByteArray×ByteArray×Bool):=.ch 2 [] (G146s0_ok 58 qu0) fun r1=>.jn 6 0 (fun (j2:Bool)=>⟨[(0,.ptr 30000 0),(3,tI r1.1),(19,tB j2)],[(30000,.box [.t (.str (r1.2.1)),tB r1.2.2])]⟩) (.ite 0 (r1.2.2) (.ret 8 true) (.ret 8 (decide (r1.1≥((r1.2.1:ByteArray).size:Int))))) fun j2=>.ite 0 j2 (.ch 1 [] (G147s0_ok (GReader_errataref01.mk r1.2.1 r1.2.2)) fun r3=>.ret 1 (⟨#[]⟩,r3.2.1,r3.2.2)) (.grd 6 (0≤(0:Int)∧(0:Int)≤r1.1∧r1.1≤(r1.2.1.size:Int)) <| .grd 8 (0≤(r1.1:Int)∧(r1.1:Int)≤(r1.2.1.size:Int)∧(r1.2.1.size:Int)≤(r1.2.1.size:Int)) <| .ch 4 [] (G148s0_ok 44 (GReader_errataref01.mk (r1.2.1.extract (r1.1:Int).toNat (r1.2.1.size:Int).toNat) r1.2.2)) fun r4=>.ite 1 (!r4.1) (.ret 1 (⟨#[]⟩,r4.2.1,r4.2.2)) (.ret 2 (r1.2.1.extract (0:Int).toNat (r1.1).toNat,r4.2.1,r4.2.2)))
def G75s0(qu0:GReader_errataref01):Option (ByteArray×ByteArray×Bool):=(T75s0 qu0).den
theorem G75s0_ok(qu0:GReader_errataref01):ConH Tryz.prog 41 [.ptr 30000 0] [(30000,.box ((cGReader_errataref01 qu0).map .t))] [30000] (G75s0 qu0) (fun (y:ByteArray×ByteArray×Bool)=>.t (.str (y.1))) (fun (y:ByteArray×ByteArray×Bool)=>[(30000,.box [.t (.str (y.2.1)),tB y.2.2])]):=conH Tryz.func41 ti_ok (T75s0 qu0)
def T76s0(qu0:GReader_errataref01):TP Bool:=.jn 7 0 (fun (j1:Bool)=>⟨[(2,tB j1)],[(30000,.box ((cGReader_errataref01 qu0).map .t))]⟩) (.ite 0 (!qu0.Bad) (.ret 7 ((qu0.Rest:ByteArray).toList==(⟨#[]⟩:ByteArray).toList)) (.ret 7 false)) fun j1=>.ret 0 j1
def G76s0(qu0:GReader_errataref01):Option Bool:=(T76s0 qu0).den
theorem G76s0_ok(qu0:GReader_errataref01):ConH Tryz.prog 42 [.ptr 30000 0] [(30000,.box ((cGReader_errataref01 qu0).map .t))] [30000] (G76s0 qu0) tB (fun (y:Bool)=>[(30000,.box ((cGReader_errataref01 qu0).map .t))]):=conH Tryz.func42 ti_ok (T76s0 qu0)
def T143s0(qu0:GReader_errataref01):TP (Int×ByteArray×Bool):=.ch 2 [] (G146s0_ok 59 qu0) fun r1=>.ret 1 (r1.1,r1.2.1,r1.2.2)
def G143s0(qu0:GReader_errataref01):Option (Int×ByteArray×Bool):=(T143s0 qu0).den
theorem G143s0_ok(qu0:GReader_errataref01):ConH Tryz.prog 82 [.ptr 30000 0] [(30000,.box ((cGReader_errataref01 qu0).map .t))] [30000] (G143s0 qu0) (fun (y:Int×ByteArray×Bool)=>tI y.1) (fun (y:Int×ByteArray×Bool)=>[(30000,.box [.t (.str (y.2.1)),tB y.2.2])]):=conH Tryz.func82 ti_ok (T143s0 qu0)
def T144_L0(a0:ByteArray)(r2:Int×ByteArray×Bool):(ByteArray×Bool×(List GValue)×Int)→TP ((ByteArray×Bool×(List GValue)×Int)⊕((ByteArray×Bool×(List GValue))⊕((List GValue)×Bool)))
 | (v3,v4,v5,v6)=>.jn 4 0 (fun ((j10,j11):(List GValue)×Bool)=>⟨[(0,.t (.str a0)),(4,.ptr 30000 0),(5,tI r2.1),(6,.own 6),(7,tI v6),(21,tB j11)],[(6,.arr 90 3 (j10.length) (eF cGValue j10)),(30000,.box [.t (.str v3),tB v4])]⟩) (.ite 0 (decide (v6<r2.1)) (.ret 5 (v5,decide (v6<((a0:ByteArray).size:Int)))) (.ret 5 (v5,false))) fun (j10,j11)=>.ite 0 j11 (.ch 4 [] (G73s0_ok (GReader_errataref01.mk v3 v4)) fun r12=>.ch 3 [] (G73s0_ok (GReader_errataref01.mk r12.2.1 r12.2.2)) fun r13=>.ch 3 [] (G75s0_ok (GReader_errataref01.mk r13.2.1 r13.2.2)) fun r14=>.bs 4 false cGValue ([(GValue.mk r12.1 r13.1 r14.1)]:List GValue) <| .grd 1 ((j10.length+([(GValue.mk r12.1 r13.1 r14.1)]:List GValue).length)*32≤140737488355328) <| .cv 0 [.ap 37 cGValue j10 ([(GValue.mk r12.1 r13.1 r14.1)]:List GValue)] <| .cv 4 [.rn 37 6] <| .ret 0 (.inl (r14.2.1,r14.2.2,j10++([(GValue.mk r12.1 r13.1 r14.1)]:List GValue),i64.wrap (v6+1)))) (.ret 0 (.inr (.inl (v3,v4,j10))))
def T144(a0:ByteArray):TP ((List GValue)×Bool):=.ch 3 [40000] (G72s0_ok a0) fun r1=>.cv 0 [.rn 40000 10] <| .cv 2 [.rn 10 30000] <| .ch 0 [] (G143s0_ok r1) fun r2=>.cv 3 [.th 6 6 90 3 (eF cGValue ([]:List GValue))] <| .lp 0 (fun ((v3,v4,v5,v6):ByteArray×Bool×(List GValue)×Int)=>⟨[(0,.t (.str a0)),(4,.ptr 30000 0),(5,tI r2.1),(6,.own 6),(7,tI v6)],[(6,.arr 90 3 (v5.length) (eF cGValue v5)),(30000,.box [.t (.str v3),tB v4])]⟩) (fun ((b7,b8,b9):ByteArray×Bool×(List GValue))=>⟨[(4,.ptr 30000 0),(5,tI r2.1),(6,.own 6)],[(6,.arr 90 3 (b9.length) (eF cGValue b9)),(30000,.box [.t (.str b7),tB b8])]⟩) 0 (r2.2.1,r2.2.2,([]:List GValue),0) (T144_L0 a0 r2) fun (b7,b8,b9)=>.ch 1 [] (G76s0_ok (GReader_errataref01.mk b7 b8)) fun r15=>.jn 2 0 (fun ((j16,j17):(List GValue)×Bool)=>⟨[(6,.own 6),(46,tB j17)],[(6,.arr 90 3 (j16.length) (eF cGValue j16))]⟩) (.ite 0 (!r15) (.ret 5 (b9,true)) (.ret 5 (b9,(b9.length:Int) != r2.1))) fun (j16,j17)=>.ite 0 j17 (.cv 2 [.sl 2 (eL cGValue ([]:List GValue))] <| .ret 0 (([]:List GValue),false)) (.cv 3 [.fr 6 (eL cGValue j16)] <| .ret 0 (j16,true))
def G144(a0:ByteArray):Option ((List GValue)×Bool):=(T144 a0).den
theorem G144_ok(a0:ByteArray):Con Tryz.prog 83 [.t (.str a0)] (G144 a0) (fun (y:(List GValue)×Bool)=>.tup [tV y.1,tB y.2]):=con Tryz.func83 ti_ok (T144 a0)
def T145_L0(a0:LD):Int→TP ((Int)⊕((Unit)⊕Bool))
 | v1=>.ite 4 (decide (v1<(a0.length:Int))) (.jn 0 0 (fun (j2:Bool)=>⟨[(0,tD a0),(3,tI v1),(33,tB j2)],[]⟩) (.dg 2 (0≤v1∧v1<(a0.length:Int)) <| .dl 6 (((a0.getD v1.toNat default).N)==0) (.dr 0 0 [] [0,3,4,5,6,7] <| .ret 0 true) (.dl 9 (decide (v1>0)) (.dg 14 (0≤(if (0:Int)>(i64.wrap (v1-1)) then (0:Int) else (i64.wrap (v1-1)))∧(if (0:Int)>(i64.wrap (v1-1)) then (0:Int) else (i64.wrap (v1-1)))<(a0.length:Int)) <| .dg 18 (0≤v1∧v1<(a0.length:Int)) <| .dc 20 [.t (eGDelta (a0.getD (if (0:Int)>(i64.wrap (v1-1)) then (0:Int) else (i64.wrap (v1-1))).toNat default)),.t (eGDelta (a0.getD v1.toNat default))] (G49_ok (a0.getD (if (0:Int)>(i64.wrap (v1-1)) then (0:Int) else (i64.wrap (v1-1))).toNat default) (a0.getD v1.toNat default)) fun r3=>.dr 0 0 [] [0,3,4,5,6,7] <| .ret 0 (decide (r3≥0))) (.dr 0 0 [] [0,3,4,5,6,7] <| .ret 0 false))) fun j2=>.ite 0 j2 (.ret 1 (.inr (.inr false))) (.ret 3 (.inl (i64.wrap (v1+1))))) (.ret 0 (.inr (.inl ())))
def T145(a0:LD):TP Bool:=.lp 2 (fun (v1:Int)=>⟨[(0,tD a0),(3,tI v1)],[]⟩) (fun (_:Unit)=>⟨[],[]⟩) 0 0 (T145_L0 a0) fun _=>.ret 1 true
def G145(a0:LD):Option Bool:=(T145 a0).den
theorem G145_ok(a0:LD):Con Tryz.prog 84 [tD a0] (G145 a0) tB:=con Tryz.func84 ti_ok (T145 a0)
def T123(a0:Int):TP ByteArray:=.ite 3 (decide (a0<0)) (.ret 1 (⟨#[]⟩)) (.ca 1 (G55_ok a0) fun r1=>.ret 1 r1)
def G123(a0:Int):Option ByteArray:=(T123 a0).den
theorem G123_ok(a0:Int):Con Tryz.prog 131 [tI a0] (G123 a0) (fun (y:ByteArray)=>.t (.str y)):=con Tryz.func131 ti_ok (T123 a0)
def T56(a0:ByteArray):TP ByteArray:=.ca 4 (G122_ok (i64.wrap (0-((a0:ByteArray).size:Int)))) fun r1=>.grd 1 (((r1.size+((⟨#[58]⟩):ByteArray).size:Nat):Int)≤9223372036854775807) <| .grd 2 (((((r1++((⟨#[58]⟩):ByteArray)):ByteArray).size+a0.size:Nat):Int)≤9223372036854775807) <| .grd 1 (((((((r1++((⟨#[58]⟩):ByteArray)):ByteArray)++a0):ByteArray).size+((⟨#[44]⟩):ByteArray).size:Nat):Int)≤9223372036854775807) <| .ret 1 (((((r1++((⟨#[58]⟩):ByteArray)):ByteArray)++a0):ByteArray)++((⟨#[44]⟩):ByteArray))
def G56(a0:ByteArray):Option ByteArray:=(T56 a0).den
theorem G56_ok(a0:ByteArray):Con Tryz.prog 133 [.t (.str a0)] (G56 a0) (fun (y:ByteArray)=>.t (.str y)):=con Tryz.func133 ti_ok (T56 a0)
def T169(a0:GValue):TP ByteArray:=.dc 2 [tI a0.Kind] (G55_ok a0.Kind) fun r1=>.dc 5 [tI a0.N] (G55_ok a0.N) fun r2=>.dg 6 (((r1.size+r2.size:Nat):Int)≤9223372036854775807) <| .dc 9 [.t (.str (a0.S))] (G56_ok a0.S) fun r3=>.dg 10 ((((r1++r2).size+r3.size:Nat):Int)≤9223372036854775807) <| .dr 2 0 [(1,false,[])] [0,1] <| .ret 0 ((r1++r2)++r3)
def G169(a0:GValue):Option ByteArray:=(T169 a0).den
theorem G169_ok(a0:GValue):Con Tryz.prog 154 [.t (eGValue a0)] (G169 a0) (fun (y:ByteArray)=>.t (.str y)):=con Tryz.func154 ti_ok (T169 a0)
def T124_L0(a0:List GValue):(ByteArray×Int)→TP ((ByteArray×Int)⊕((ByteArray)⊕ByteArray))
 | (v2,v3)=>.ite 4 (decide (v3<(a0.length:Int))) (.grd 4 (0≤v3∧v3<(a0.length:Int)) <| .ca 1 (G169_ok (a0.getD v3.toNat default)) fun r5=>.grd 1 (((v2.size+r5.size:Nat):Int)≤9223372036854775807) <| .ret 4 (.inl (v2++r5,i64.wrap (v3+1)))) (.ret 0 (.inr (.inl v2)))
def T124(a0:List GValue):TP ByteArray:=.ca 3 (G123_ok (a0.length:Int)) fun r1=>.lp 2 (fun ((v2,v3):ByteArray×Int)=>⟨[(0,tV a0),(3,.t (.str v2)),(4,tI v3)],[]⟩) (fun (b4:ByteArray)=>⟨[(3,.t (.str b4))],[]⟩) 0 (r1,0) (T124_L0 a0) fun b4=>.ret 2 b4
def G124(a0:List GValue):Option ByteArray:=(T124 a0).den
theorem G124_ok(a0:List GValue):Con Tryz.prog 134 [tV a0] (G124 a0) (fun (y:ByteArray)=>.t (.str y)):=con Tryz.func134 ti_ok (T124 a0)
def T57_L0(r1:LD):(ByteArray×Int)→TP ((ByteArray×Int)⊕((ByteArray)⊕ByteArray))
 | (v3,v4)=>.ite 4 (decide (v4<(r1.length:Int))) (.dg 3 (0≤v4∧v4<(r1.length:Int)) <| .dc 6 [tI ((r1.getD v4.toNat default).Time)] (G55_ok ((r1.getD v4.toNat default).Time)) fun r6=>.dg 7 (((v3.size+r6.size:Nat):Int)≤9223372036854775807) <| .dg 10 (0≤v4∧v4<(r1.length:Int)) <| .dc 13 [tV ((r1.getD v4.toNat default).Row)] (G124_ok ((r1.getD v4.toNat default).Row)) fun r7=>.dc 14 [.t (.str r7)] (G56_ok r7) fun r8=>.dg 15 ((((v3++r6).size+r8.size:Nat):Int)≤9223372036854775807) <| .dg 18 (0≤v4∧v4<(r1.length:Int)) <| .dc 21 [tI ((r1.getD v4.toNat default).N)] (G55_ok ((r1.getD v4.toNat default).N)) fun r9=>.dg 22 (((((v3++r6)++r8).size+r9.size:Nat):Int)≤9223372036854775807) <| .dr 0 0 [] [3,4,5,11,12,13,14] <| .ret 3 (.inl (((v3++r6)++r8)++r9,i64.wrap (v4+1)))) (.ret 0 (.inr (.inl v3)))
def T57(a0:LD):TP ByteArray:=.ca 2 (G107_ok a0) fun r1=>.ca 3 (G123_ok (r1.length:Int)) fun r2=>.lp 2 (fun ((v3,v4):ByteArray×Int)=>⟨[(3,tD r1),(4,.t (.str v3)),(5,tI v4)],[]⟩) (fun (b5:ByteArray)=>⟨[(4,.t (.str b5))],[]⟩) 0 (r2,0) (T57_L0 r1) fun b5=>.ret 2 b5
def G57(a0:LD):Option ByteArray:=(T57 a0).den
theorem G57_ok(a0:LD):Con Tryz.prog 85 [tD a0] (G57 a0) (fun (y:ByteArray)=>.t (.str y)):=con Tryz.func85 ti_ok (T57 a0)
def T74_L0(a0:ByteArray)(r2:Int×ByteArray×Bool):(ByteArray×Bool×LD×Int)→TP ((ByteArray×Bool×LD×Int)⊕((LD)⊕(LD×Bool)))
 | (v3,v4,v5,v6)=>.jn 4 0 (fun ((j8,j9):LD×Bool)=>⟨[(0,.t (.str a0)),(4,.ptr 30000 0),(5,tI r2.1),(6,.own 6),(7,tI v6),(23,tB j9)],[(6,aD j8),(30000,.box [.t (.str v3),tB v4])]⟩) (.ite 0 (decide (v6<r2.1)) (.ret 5 (v5,decide (v6≤((a0:ByteArray).size:Int)))) (.ret 5 (v5,false))) fun (j8,j9)=>.ite 0 j9 (.ch 1 [] (G73s0_ok (GReader_errataref01.mk v3 v4)) fun r10=>.ch 4 [] (G75s0_ok (GReader_errataref01.mk r10.2.1 r10.2.2)) fun r11=>.ca 0 (G144_ok r11.1) fun r12=>.ite 7 (!r12.2) (.cv 2 [.sl 2 (eL cGDelta ([]:LD))] <| .ret 0 (.inr (.inr (([]:LD),false)))) (.ch 4 [] (G73s0_ok (GReader_errataref01.mk r11.2.1 r11.2.2)) fun r13=>.bs 4 false cGDelta ([(GDelta.mk r10.1 r12.1 r13.1)]:LD) <| .grd 1 ((j8.length+([(GDelta.mk r10.1 r12.1 r13.1)]:LD).length)*40≤140737488355328) <| .cv 0 [.ap 45 cGDelta j8 ([(GDelta.mk r10.1 r12.1 r13.1)]:LD)] <| .cv 4 [.rn 45 6] <| .ret 0 (.inl (r13.2.1,r13.2.2,j8++([(GDelta.mk r10.1 r12.1 r13.1)]:LD),i64.wrap (v6+1))))) (.ret 0 (.inr (.inl j8)))
def T74(a0:ByteArray):TP (LD×Bool):=.ch 3 [40000] (G72s0_ok a0) fun r1=>.cv 0 [.rn 40000 12] <| .cv 2 [.rn 12 30000] <| .ch 0 [] (G143s0_ok r1) fun r2=>.cv 3 [.th 6 6 52 3 (eF cGDelta ([]:LD))] <| .lp 0 (fun ((v3,v4,v5,v6):ByteArray×Bool×LD×Int)=>⟨[(0,.t (.str a0)),(4,.ptr 30000 0),(5,tI r2.1),(6,.own 6),(7,tI v6)],[(6,aD v5),(30000,.box [.t (.str v3),tB v4])]⟩) (fun (b7:LD)=>⟨[(0,.t (.str a0)),(6,.own 6)],[(6,aD b7)]⟩) 0 (r2.2.1,r2.2.2,([]:LD),0) (T74_L0 a0 r2) fun b7=>.ca 1 (G145_ok b7) fun r14=>.jn 2 0 (fun ((j15,j16):LD×Bool)=>⟨[(6,.own 6),(54,tB j16)],[(6,aD j15)]⟩) (.ite 0 (!r14) (.ret 5 (b7,true)) (.ca 1 (G57_ok b7) fun r17=>.ret 3 (b7,!((r17:ByteArray).toList==(a0:ByteArray).toList)))) fun (j15,j16)=>.ite 0 j16 (.cv 2 [.sl 2 (eL cGDelta ([]:LD))] <| .ret 0 (([]:LD),false)) (.cv 3 [.fr 6 (eL cGDelta j15)] <| .ret 0 (j15,true))
def G74(a0:ByteArray):Option (LD×Bool):=(T74 a0).den
theorem G74_ok(a0:ByteArray):Con Tryz.prog 40 [.t (.str a0)] (G74 a0) (fun (y:LD×Bool)=>.tup [tD y.1,tB y.2]):=con Tryz.func40 ti_ok (T74 a0)
def T77_L0(r1:LD):Int→TP ((Int)⊕((Unit)⊕Bool))
 | v2=>.ite 4 (decide (v2<(r1.length:Int))) (.grd 3 (0≤v2∧v2<(r1.length:Int)) <| .ite 3 (decide (((r1.getD v2.toNat default).N)<0)) (.ret 1 (.inr (.inr false))) (.ret 3 (.inl (i64.wrap (v2+1))))) (.ret 0 (.inr (.inl ())))
def T77(a0:LD):TP Bool:=.ca 2 (G107_ok a0) fun r1=>.lp 2 (fun (v2:Int)=>⟨[(3,tD r1),(4,tI v2)],[]⟩) (fun (_:Unit)=>⟨[],[]⟩) 0 0 (T77_L0 r1) fun _=>.ret 1 true
def G77(a0:LD):Option Bool:=(T77 a0).den
theorem G77_ok(a0:LD):Con Tryz.prog 43 [tD a0] (G77 a0) tB:=con Tryz.func43 ti_ok (T77 a0)
def T44(a0:GNode):TP (Int×Int):=.ca 4 (G83_ok a0) fun r1=>.ite 1 (!r1) (.ret 2 (0,0)) (.ite 4 (a0.Op==4) (.ite 3 (a0.Kind==2) (.dr 0 0 [(1,false,[])] [0,1,4,5,6,7,8,9,10,11,12,13] <| .ret 0 (i64.wrap (a0.Size-1),i64.wrap (a0.Step-1))) (.dr 0 0 [(1,false,[])] [0,1,4,5,6,7,8,9,10,11,12,13] <| .ret 0 (i64.wrap (a0.Size-1),i64.wrap (a0.Size-1)))) (.ite 2 (a0.Op==5) (.dr 0 0 [(1,false,[])] [0,1,4,5,6,7,8,9,10,26,27] <| .ret 0 (i64.wrap (a0.Size-1),i64.wrap (a0.Size-1))) (.ite 2 (a0.Op==6) (.ret 7 (if a0.After>a0.Before then a0.After else a0.Before,0)) (.ite 2 (a0.Op==7) (.ret 5 (i64.wrap (a0.Keep-1),0)) (.ite 2 (a0.Op==8) (.ret 5 (i64.wrap (a0.Size-1),0)) (.ret 2 (0,0)))))))
def G44(a0:GNode):Option (Int×Int):=(T44 a0).den
theorem G44_ok(a0:GNode):Con Tryz.prog 44 [.t (eGNode a0)] (G44 a0) (fun (y:Int×Int)=>.tup [tI y.1,tI y.2]):=con Tryz.func44 ti_ok (T44 a0)
abbrev R106:={f:Expr→Option Expr // ∀ a:Expr,Con Tryz.prog 129 [.t (eExpr a)] (f a) (fun (y:Expr)=>.t (eExpr y))}
def T106_L0(rec:R106)(a0:Expr):((List Expr)×Int)→TP (((List Expr)×Int)⊕((List Expr)⊕Expr))
 | (v1,v2)=>.ite 5 (decide (v2<(a0.Args.length:Int))) (.dg 5 (0≤v2∧v2<(a0.Args.length:Int)) <| .dc 7 [.t (eExpr (a0.Args.getD v2.toNat default))] (rec.2 (a0.Args.getD v2.toNat default)) fun r4=>.dg 9 ((v1.length+1)*56≤140737488355328) <| .dr 0 0 [(28,true,[9]),(1,false,[]),(2,false,[]),(3,false,[11]),(10303,false,[9])] [1,2,3,4,12,13,14,15,16] <| .cv 0 [.apl 28 exprCells v1 ([r4]:List Expr)] <| .cv 3 [.rn 28 10303] <| .ret 0 (.inl (v1++([r4]:List Expr),i64.wrap (v2+1)))) (.ret 0 (.inr (.inl v1)))
def T106(rec:R106)(a0:Expr):TP Expr:=.cv 12 [.thc 3 3 10303 98 4 (eF exprCells ([]:List Expr))] <| .lp 0 (fun ((v1,v2):(List Expr)×Int)=>⟨[(1,.ptr 1 0),(2,.ptr 2 0),(3,.ptr 3 0),(4,tI v2)],[(1,.box ((exprCells a0).map .t)),(2,.box [tI 0,tI 0,.t (.str (⟨#[]⟩)),.nil]),(3,.box [tI a0.Op,tI a0.N,.t (.str (a0.S)),.own 10303]),(10303,.arr 98 4 (v1.length) (eF exprCells v1))]⟩) (fun (b3:(List Expr))=>⟨[(2,.ptr 2 0),(3,.ptr 3 0)],[(2,.box [tI 0,tI 0,.t (.str (⟨#[]⟩)),.nil]),(3,.box [tI a0.Op,tI a0.N,.t (.str (a0.S)),.own 10303]),(10303,.arr 98 4 (b3.length) (eF exprCells b3))]⟩) 0 (([]:List Expr),0) (T106_L0 rec a0) fun b3=>.cv 0 [.fr 10303 (.lz (.exprs b3))] <| .ret 2 (Expr.mk a0.Op a0.N a0.S b3)
theorem T106_ok(rec:R106)(a0:Expr):Con Tryz.prog 129 [.t (eExpr a0)] (T106 rec a0).den (fun (y:Expr)=>.t (eExpr y)):=con Tryz.func129 ti_ok (T106 rec a0)
def H106(a:Expr):Option Expr:=fixF (C:=fun (a:Expr) (x:Option Expr)=>Con Tryz.prog 129 [.t (eExpr a)] x (fun (y:Expr)=>.t (eExpr y))) (fun a=>⟨callable_of Tryz.func129 (by kernel_rfl),fun _ h=>nomatch h⟩) (fun rec a=>T106 rec a) (fun rec a=>T106_ok rec a) a
theorem H106_ok(a:Expr):Con Tryz.prog 129 [.t (eExpr a)] (H106 a) (fun (y:Expr)=>.t (eExpr y)):=fixF_ok (C:=fun (a:Expr) (x:Option Expr)=>Con Tryz.prog 129 [.t (eExpr a)] x (fun (y:Expr)=>.t (eExpr y))) _ _ _ a
def G106(a0:Expr):Option Expr:=H106 a0
theorem G106_ok(a0:Expr):Con Tryz.prog 129 [.t (eExpr a0)] (G106 a0) (fun (y:Expr)=>.t (eExpr y)):=H106_ok a0
def T43_L0(a0:GNode):((List Int)×(List Expr)×Int)→TP (((List Int)×(List Expr)×Int)⊕(((List Int)×(List Expr))⊕GNode))
 | (v1,v2,v3)=>.ite 5 (decide (v3<(a0.Exprs.length:Int))) (.dg 5 (0≤v3∧v3<(a0.Exprs.length:Int)) <| .dc 7 [.t (eExpr (a0.Exprs.getD v3.toNat default))] (G106_ok (a0.Exprs.getD v3.toNat default)) fun r6=>.dg 9 ((v2.length+1)*56≤140737488355328) <| .dr 0 0 [(29,true,[9]),(1,false,[]),(2,false,[]),(3,false,[11]),(10301,false,[]),(10304,false,[9])] [1,2,3,4,13,14,15,16,17] <| .cv 0 [.apl 29 exprCells v2 ([r6]:List Expr)] <| .cv 3 [.rn 29 10304] <| .ret 0 (.inl (v1,v2++([r6]:List Expr),i64.wrap (v3+1)))) (.ret 0 (.inr (.inl (v1,v2))))
def T43_L1(a0:GNode):((List Int)×(List Expr)×(List Int)×(List Int)×(List GAgg)×(List GPat)×Int)→TP (((List Int)×(List Expr)×(List Int)×(List Int)×(List GAgg)×(List GPat)×Int)⊕(((List Int)×(List Expr)×(List Int)×(List Int)×(List GAgg)×(List GPat))⊕GNode))
 | (v7,v8,v9,v10,v11,v12,v13)=>.ite 5 (decide (v13<(a0.Seq.length:Int))) (.dg 5 (0≤v13∧v13<(a0.Seq.length:Int)) <| .dc 8 [.t (eExpr ((a0.Seq.getD v13.toNat default).Pred))] (G106_ok ((a0.Seq.getD v13.toNat default).Pred)) fun r20=>.dg 12 (0≤v13∧v13<(a0.Seq.length:Int)) <| .dg 17 ((v12.length+1)*64≤140737488355328) <| .dr 0 0 [(71,true,[17]),(1,false,[]),(2,false,[]),(3,false,[19]),(10301,false,[]),(10304,false,[]),(10308,false,[]),(10309,false,[]),(10313,false,[]),(10314,false,[17])] [1,2,3,5,47,48,49,50,51] <| .cv 0 [.apl 71 cGPat v12 ([(GPat.mk r20 ((a0.Seq.getD v13.toNat default).Rep))]:List GPat)] <| .cv 3 [.rn 71 10314] <| .ret 0 (.inl (v7,v8,v9,v10,v11,v12++([(GPat.mk r20 ((a0.Seq.getD v13.toNat default).Rep))]:List GPat),i64.wrap (v13+1)))) (.ret 0 (.inr (.inl (v7,v8,v9,v10,v11,v12))))
def T43(a0:GNode):TP GNode:=.bs 5 true cInt ([]:List Int) <| .grd 3 ((([]:List Int).length+a0.In.length)*8≤140737488355328) <| .cv 0 [.ap 10 cInt ([]:List Int) a0.In] <| .cv 5 [.rn 10 10301,.thc 3 4 10304 98 4 (eF exprCells ([]:List Expr))] <| .lp 0 (fun ((v1,v2,v3):(List Int)×(List Expr)×Int)=>⟨[(1,.ptr 1 0),(2,.ptr 2 0),(3,.ptr 3 0),(4,tI v3)],[(1,bN a0),(2,.box [tI 0,.nil,.t (.str (⟨#[]⟩)),tI 0,.nil,tI 0,tI 0,tI 0,.nil,.nil,tI 0,tI 0,tI 0,.nil,.nil,.nil]),(3,.box [tI a0.Op,.own 10301,.t (.str (a0.Source)),tI a0.Schema,.own 10304,tI a0.Kind,tI a0.Size,tI a0.Step,.t (eL cInt (a0.Key)),.t (eL cInt (a0.Key2)),tI a0.Before,tI a0.After,tI a0.Keep,.t (eL cGAgg (a0.Aggs)),.t (eL cGPat (a0.Seq)),.t (eL cGCol (a0.Cols))]),(10301,.arr 3 1 (v1.length) (eF cInt v1)),(10304,.arr 98 4 (v2.length) (eF exprCells v2))]⟩) (fun ((b4,b5):(List Int)×(List Expr))=>⟨[(1,.ptr 1 0),(2,.ptr 2 0),(3,.ptr 3 0)],[(1,bN a0),(2,.box [tI 0,.nil,.t (.str (⟨#[]⟩)),tI 0,.nil,tI 0,tI 0,tI 0,.nil,.nil,tI 0,tI 0,tI 0,.nil,.nil,.nil]),(3,.box [tI a0.Op,.own 10301,.t (.str (a0.Source)),tI a0.Schema,.own 10304,tI a0.Kind,tI a0.Size,tI a0.Step,.t (eL cInt (a0.Key)),.t (eL cInt (a0.Key2)),tI a0.Before,tI a0.After,tI a0.Keep,.t (eL cGAgg (a0.Aggs)),.t (eL cGPat (a0.Seq)),.t (eL cGCol (a0.Cols))]),(10301,.arr 3 1 (b4.length) (eF cInt b4)),(10304,.arr 98 4 (b5.length) (eF exprCells b5))]⟩) 0 (([]:List Int)++a0.In,([]:List Expr),0) (T43_L0 a0) fun (b4,b5)=>.bs 0 true cInt ([]:List Int) <| .grd 3 ((([]:List Int).length+a0.Key.length)*8≤140737488355328) <| .cv 0 [.ap 34 cInt ([]:List Int) a0.Key] <| .bs 2 true cInt ([]:List Int) <| .grd 3 ((([]:List Int).length+a0.Key2.length)*8≤140737488355328) <| .cv 0 [.ap 39 cInt ([]:List Int) a0.Key2] <| .bs 2 true cGAgg ([]:List GAgg) <| .grd 3 ((([]:List GAgg).length+a0.Aggs.length)*32≤140737488355328) <| .cv 0 [.ap 44 cGAgg ([]:List GAgg) a0.Aggs] <| .cv 5 [.rn 34 10308,.rn 39 10309,.rn 44 10313,.thc 3 14 10314 103 5 (eF cGPat ([]:List GPat))] <| .lp 0 (fun ((v7,v8,v9,v10,v11,v12,v13):(List Int)×(List Expr)×(List Int)×(List Int)×(List GAgg)×(List GPat)×Int)=>⟨[(1,.ptr 1 0),(2,.ptr 2 0),(3,.ptr 3 0),(5,tI v13)],[(1,bN a0),(2,.box [tI 0,.nil,.t (.str (⟨#[]⟩)),tI 0,.nil,tI 0,tI 0,tI 0,.nil,.nil,tI 0,tI 0,tI 0,.nil,.nil,.nil]),(3,.box [tI a0.Op,.own 10301,.t (.str (a0.Source)),tI a0.Schema,.own 10304,tI a0.Kind,tI a0.Size,tI a0.Step,.own 10308,.own 10309,tI a0.Before,tI a0.After,tI a0.Keep,.own 10313,.own 10314,.t (eL cGCol (a0.Cols))]),(10301,.arr 3 1 (v7.length) (eF cInt v7)),(10304,.arr 98 4 (v8.length) (eF exprCells v8)),(10308,.arr 3 1 (v9.length) (eF cInt v9)),(10309,.arr 3 1 (v10.length) (eF cInt v10)),(10313,.arr 152 3 (v11.length) (eF cGAgg v11)),(10314,.arr 103 5 (v12.length) (eF cGPat v12))]⟩) (fun ((b14,b15,b16,b17,b18,b19):(List Int)×(List Expr)×(List Int)×(List Int)×(List GAgg)×(List GPat))=>⟨[(1,.ptr 1 0),(2,.ptr 2 0),(3,.ptr 3 0)],[(1,bN a0),(2,.box [tI 0,.nil,.t (.str (⟨#[]⟩)),tI 0,.nil,tI 0,tI 0,tI 0,.nil,.nil,tI 0,tI 0,tI 0,.nil,.nil,.nil]),(3,.box [tI a0.Op,.own 10301,.t (.str (a0.Source)),tI a0.Schema,.own 10304,tI a0.Kind,tI a0.Size,tI a0.Step,.own 10308,.own 10309,tI a0.Before,tI a0.After,tI a0.Keep,.own 10313,.own 10314,.t (eL cGCol (a0.Cols))]),(10301,.arr 3 1 (b14.length) (eF cInt b14)),(10304,.arr 98 4 (b15.length) (eF exprCells b15)),(10308,.arr 3 1 (b16.length) (eF cInt b16)),(10309,.arr 3 1 (b17.length) (eF cInt b17)),(10313,.arr 152 3 (b18.length) (eF cGAgg b18)),(10314,.arr 103 5 (b19.length) (eF cGPat b19))]⟩) 2 (b4,b5,([]:List Int)++a0.Key,([]:List Int)++a0.Key2,([]:List GAgg)++a0.Aggs,([]:List GPat),0) (T43_L1 a0) fun (b14,b15,b16,b17,b18,b19)=>.bs 0 true cGCol ([]:List GCol) <| .grd 3 ((([]:List GCol).length+a0.Cols.length)*40≤140737488355328) <| .cv 0 [.ap 76 cGCol ([]:List GCol) a0.Cols] <| .cv 2 [.fr 10301 (eL cInt b14),.fr 10304 (.lz (.exprs b15)),.fr 10308 (eL cInt b16),.fr 10309 (eL cInt b17),.fr 10313 (eL cGAgg b18),.fr 10314 (eL cGPat b19),.fr 76 (eL cGCol (([]:List GCol)++a0.Cols))] <| .ret 2 (GNode.mk a0.Op b14 a0.Source a0.Schema b15 a0.Kind a0.Size a0.Step b16 b17 a0.Before a0.After a0.Keep b18 b19 (([]:List GCol)++a0.Cols))
def G43(a0:GNode):Option GNode:=(T43 a0).den
theorem G43_ok(a0:GNode):Con Tryz.prog 80 [.t (eGNode a0)] (G43 a0) (fun (y:GNode)=>.t (eGNode y)):=con Tryz.func80 ti_ok (T43 a0)
def T17s0(a0:GNode):TP GOp:=.ca 3 (G43_ok a0) fun r1=>.bs 0 false cL_cGDelta ([([]:LD),([]:LD)]:List LD) <| .cv 3 [.rn 7 40000] <| .ret 0 (GOp.mk r1 ([([]:LD),([]:LD)]:List LD) (-1))
def G17s0(a0:GNode):Option GOp:=(T17s0 a0).den
theorem G17s0_ok(a0:GNode):ConH Tryz.prog 38 [.t (eGNode a0)] [] [] (G17s0 a0) (fun (y:GOp)=>.ptr 40000 0) (fun (y:GOp)=>[(40000,.box ((cGOp y).map .t))]):=conH Tryz.func38 ti_ok (T17s0 a0)
def T29s0_L0(r2:GOp)(r3:Int×ByteArray×Bool)(r5:LD×Bool)(r7:LD×Bool)(r12:Int×Int):(LD×Int)→TP ((LD×Int)⊕((Unit)⊕((Unit)⊕GOp)))
 | (v13,v14)=>.ite 4 (decide (v14<(v13.length:Int))) (.jn 0 0 (fun ((j15,j16):LD×Bool)=>⟨[(7,.ptr 19 0),(8,tD r5.1),(10,tD r7.1),(12,tI r12.1),(14,.own 14),(15,tI v14),(122,tB j16)],[(14,aD j15),(19,.box [tI r2.N.Op,.t (eL cInt (r2.N.In)),.t (.str (r2.N.Source)),tI r2.N.Schema,.t (.lz (.exprs (r2.N.Exprs))),tI r2.N.Kind,tI r2.N.Size,tI r2.N.Step,.t (eL cInt (r2.N.Key)),.t (eL cInt (r2.N.Key2)),tI r2.N.Before,tI r2.N.After,tI r2.N.Keep,.t (eL cGAgg (r2.N.Aggs)),.t (eL cGPat (r2.N.Seq)),.t (eL cGCol (r2.N.Cols)),.t (eL cL_cGDelta (r2.L)),tI r3.1])]⟩) (.dg 2 (0≤v14∧v14<(v13.length:Int)) <| .dg 4 ((v14).toNat<v13.length) <| .dl 6 (decide (((v13.getD v14.toNat default).Time)<0)) (.dr 0 0 [(14,false,[]),(19,false,[])] [7,8,10,12,14,15,82,83,84,85] <| .ret 0 (v13,true)) (.dg 9 (0≤v14∧v14<(v13.length:Int)) <| .dg 11 ((v14).toNat<v13.length) <| .dl 14 (decide (((v13.getD v14.toNat default).Time)>2199023255552)) (.dr 0 0 [(14,false,[]),(19,false,[])] [7,8,10,12,14,15,82,83,84,85] <| .ret 0 (v13,true)) (.dl 20 (decide (r3.1≥0)) (.dg 23 (0≤v14∧v14<(v13.length:Int)) <| .dg 25 ((v14).toNat<v13.length) <| .dr 0 0 [(14,false,[]),(19,false,[])] [7,8,10,12,14,15,82,83,84,85] <| .ret 0 (v13,decide (((v13.getD v14.toNat default).Time)≤(i64.wrap (r3.1-r12.1))))) (.dr 0 0 [(14,false,[]),(19,false,[])] [7,8,10,12,14,15,82,83,84,85] <| .ret 0 (v13,false))))) fun (j15,j16)=>.ite 0 j16 (.ret 2 (.inr (.inr (.inl ())))) (.ret 3 (.inl (j15,i64.wrap (v14+1))))) (.ret 0 (.inr (.inl ())))
def T29s0(a0:GNode)(a1:ByteArray):TP ((Unit)⊕GOp):=.ch 4 [40000] (G72s0_ok a1) fun r1=>.cv 0 [.rn 40000 17] <| .ch 2 [40000] (G17s0_ok a0) fun r2=>.cv 0 [.rn 40000 19] <| .cv 3 [.rn 17 30000] <| .ch 0 [] (G73s0_ok r1) fun r3=>.ch 4 [] (G75s0_ok (GReader_errataref01.mk r3.2.1 r3.2.2)) fun r4=>.ca 0 (G74_ok r4.1) fun r5=>.ch 6 [] (G75s0_ok (GReader_errataref01.mk r4.2.1 r4.2.2)) fun r6=>.ca 0 (G74_ok r6.1) fun r7=>.ch 6 [] (G76s0_ok (GReader_errataref01.mk r6.2.1 r6.2.2)) fun r8=>.jn 2 0 (fun (j9:Bool)=>⟨[(2,.ptr 2 0),(7,.ptr 19 0),(8,tD r5.1),(10,tD r7.1),(71,tB j9)],[(2,bN a0),(19,.box [tI r2.N.Op,.t (eL cInt (r2.N.In)),.t (.str (r2.N.Source)),tI r2.N.Schema,.t (.lz (.exprs (r2.N.Exprs))),tI r2.N.Kind,tI r2.N.Size,tI r2.N.Step,.t (eL cInt (r2.N.Key)),.t (eL cInt (r2.N.Key2)),tI r2.N.Before,tI r2.N.After,tI r2.N.Keep,.t (eL cGAgg (r2.N.Aggs)),.t (eL cGPat (r2.N.Seq)),.t (eL cGCol (r2.N.Cols)),.t (eL cL_cGDelta (r2.L)),tI r3.1])]⟩) (.ite 0 (!r8) (.ret 31 true) (.ite 4 (!r5.2) (.ret 27 true) (.ite 4 (!r7.2) (.ret 23 true) (.ite 7 (decide (r3.1<(-1))) (.ret 16 true) (.ite 7 (decide (r3.1>4398046511104)) (.ret 9 true) (.ca 1 (G77_ok r5.1) fun r10=>.ite 3 (!r10) (.ret 4 true) (.ca 1 (G77_ok r7.1) fun r11=>.ret 2 (!r11)))))))) fun j9=>.ite 0 j9 (.ret 2 (.inl ())) (.ca 1 (G44_ok a0) fun r12=>.bs 5 true cGDelta ([]:LD) <| .grd 2 ((([]:LD).length+r5.1.length)*40≤140737488355328) <| .cv 0 [.ap 79 cGDelta ([]:LD) r5.1] <| .grd 2 (((([]:LD)++r5.1).length+r7.1.length)*40≤140737488355328) <| .cv 0 [.ap 81 cGDelta (([]:LD)++r5.1) r7.1] <| .cv 2 [.rn 81 14] <| .lp 0 (fun ((v13,v14):LD×Int)=>⟨[(7,.ptr 19 0),(8,tD r5.1),(10,tD r7.1),(12,tI r12.1),(14,.own 14),(15,tI v14)],[(14,aD v13),(19,.box [tI r2.N.Op,.t (eL cInt (r2.N.In)),.t (.str (r2.N.Source)),tI r2.N.Schema,.t (.lz (.exprs (r2.N.Exprs))),tI r2.N.Kind,tI r2.N.Size,tI r2.N.Step,.t (eL cInt (r2.N.Key)),.t (eL cInt (r2.N.Key2)),tI r2.N.Before,tI r2.N.After,tI r2.N.Keep,.t (eL cGAgg (r2.N.Aggs)),.t (eL cGPat (r2.N.Seq)),.t (eL cGCol (r2.N.Cols)),.t (eL cL_cGDelta (r2.L)),tI r3.1])]⟩) (fun (_:Unit)=>⟨[(7,.ptr 19 0),(8,tD r5.1),(10,tD r7.1)],[(19,.box [tI r2.N.Op,.t (eL cInt (r2.N.In)),.t (.str (r2.N.Source)),tI r2.N.Schema,.t (.lz (.exprs (r2.N.Exprs))),tI r2.N.Kind,tI r2.N.Size,tI r2.N.Step,.t (eL cInt (r2.N.Key)),.t (eL cInt (r2.N.Key2)),tI r2.N.Before,tI r2.N.After,tI r2.N.Keep,.t (eL cGAgg (r2.N.Aggs)),.t (eL cGPat (r2.N.Seq)),.t (eL cGCol (r2.N.Cols)),.t (eL cL_cGDelta (r2.L)),tI r3.1])]⟩) 0 ((([]:LD)++r5.1)++r7.1,0) (T29s0_L0 r2 r3 r5 r7 r12) fun _=>.bs 3 false cL_cGDelta ([r5.1,r7.1]:List LD) <| .cv 6 [.rn 19 40000] <| .ret 0 (.inr (GOp.mk r2.N ([r5.1,r7.1]:List LD) r3.1)))
def G29s0(a0:GNode)(a1:ByteArray):Option ((Unit)⊕GOp):=(T29s0 a0 a1).den
theorem G29s0_ok(a0:GNode)(a1:ByteArray):ConH Tryz.prog 12 [.t (eGNode a0),.t (.str a1)] [] [] (G29s0 a0 a1) (sel (fun (y:Unit)=>.tup [.np,tB false]) (fun (y:GOp)=>.tup [.ptr 40000 0,tB true])) (sel (fun (y:Unit)=>[]) (fun (y:GOp)=>[(40000,.box ((cGOp y).map .t))])):=conH Tryz.func12 ti_ok (T29s0 a0 a1)
def T53_L0(r1:LD):(ByteArray×Int)→TP ((ByteArray×Int)⊕((ByteArray)⊕ByteArray))
 | (v3,v4)=>.ite 1 (decide (v4<(r1.length:Int))) (.grd 1 (0≤v4∧v4<(r1.length:Int)) <| .dc 2 [tI ((r1.getD v4.toNat default).Time)] (G51_ok ((r1.getD v4.toNat default).Time)) fun r6=>.dc 5 [tV ((r1.getD v4.toNat default).Row)] (G120_ok ((r1.getD v4.toNat default).Row)) fun r7=>.dc 6 [.t (.str r7)] (G52_ok r7) fun r8=>.dg 7 (((r6.size+r8.size:Nat):Int)≤9223372036854775807) <| .dc 10 [tI ((r1.getD v4.toNat default).N)] (G51_ok ((r1.getD v4.toNat default).N)) fun r9=>.dg 11 ((((r6++r8).size+r9.size:Nat):Int)≤9223372036854775807) <| .dch 12 [.ptr 30000 0,.t (.str ((r6++r8)++r9))] (con118 v3 ((r6++r8)++r9)) (fun _=>some (30000,.bld 130 5 (v3++((r6++r8)++r9)))) fun _=>.dr 3 0 [(6,false,[]),(30000,false,[12])] [4,6,13,14,15,16,17,18] <| .ret 2 (.inl (v3++((r6++r8)++r9),i64.wrap (v4+1)))) (.ret 0 (.inr (.inl v3)))
def T53(a0:LD):TP ByteArray:=.ca 2 (G27_ok a0) fun r1=>.abl 1 5 <| .ca 2 (G119_ok (r1.length:Int)) fun r2=>.cv 0 [.rn 4 30000] <| .ch 0 [] (con118 (⟨#[]⟩:ByteArray) r2) fun _=>.lp 3 (fun ((v3,v4):ByteArray×Int)=>⟨[(4,.ptr 30000 0),(13,tD r1),(14,tI (r1.length:Int)),(15,tI v4)],[(30000,.bld 130 5 v3)]⟩) (fun (b5:ByteArray)=>⟨[(4,.ptr 30000 0)],[(30000,.bld 130 5 b5)]⟩) 0 ((⟨#[]⟩:ByteArray)++r2,0) (T53_L0 r1) fun b5=>.ch 0 [] (con121 b5) fun r10=>.ret 1 r10
def G53(a0:LD):Option ByteArray:=(T53 a0).den
theorem G53_ok(a0:LD):Con Tryz.prog 33 [tD a0] (G53 a0) (fun (y:ByteArray)=>.t (.str y)):=con Tryz.func33 ti_ok (T53 a0)
def T180s0(qu0:GReader):TP Int:=.ret 7 ((qu0.rest_:ByteArray).size:Int)
def G180s0(qu0:GReader):Option Int:=(T180s0 qu0).den
theorem G180s0_ok(qu0:GReader):ConH Tryz.prog 121 [.ptr 30000 0] [(30000,.box ((cGReader qu0).map .t))] [30000] (G180s0 qu0) tI (fun (y:Int)=>[(30000,.box ((cGReader qu0).map .t))]):=conH Tryz.func121 ti_ok (T180s0 qu0)
def T134s0(a1:Int)(a2:Int)(qu0:GReader):TP (Int×ByteArray):=.dg 10 (0≤(0:Int)∧(0:Int)≤(if (21:Int)<((qu0.rest_:ByteArray).size:Int) then (21:Int) else ((qu0.rest_:ByteArray).size:Int))∧(if (21:Int)<((qu0.rest_:ByteArray).size:Int) then (21:Int) else ((qu0.rest_:ByteArray).size:Int))≤(qu0.rest_.size:Int)) <| .dr 1 0 [(30000,false,[])] [0,1,2,6] <| .ca 2 (G178_ok (qu0.rest_.extract (0:Int).toNat (if (21:Int)<((qu0.rest_:ByteArray).size:Int) then (21:Int) else ((qu0.rest_:ByteArray).size:Int)).toNat) a1) fun r1=>.ite 3 (decide (r1<0)) (.no) (.grd 3 (0≤(0:Int)∧(0:Int)≤r1∧r1≤((qu0.rest_.extract (0:Int).toNat (if (21:Int)<((qu0.rest_:ByteArray).size:Int) then (21:Int) else ((qu0.rest_:ByteArray).size:Int)).toNat).size:Int)) <| .ca 0 (con179 ((qu0.rest_.extract (0:Int).toNat (if (21:Int)<((qu0.rest_:ByteArray).size:Int) then (21:Int) else ((qu0.rest_:ByteArray).size:Int)).toNat).extract (0:Int).toNat r1.toNat)) fun r2=>.jn 5 0 (fun (j3:Bool)=>⟨[(0,.ptr 30000 0),(8,tI r1),(9,tI r2),(50,tB j3)],[(30000,.box ((cGReader qu0).map .t))]⟩) (.dc 4 [tI r2] (G117_ok r2) fun r4=>.dg 7 (0≤(0:Int)∧(0:Int)≤r1∧r1≤((qu0.rest_.extract (0:Int).toNat (if (21:Int)<((qu0.rest_:ByteArray).size:Int) then (21:Int) else ((qu0.rest_:ByteArray).size:Int)).toNat).size:Int)) <| .dl 10 (!((r4:ByteArray).toList==((qu0.rest_.extract (0:Int).toNat (if (21:Int)<((qu0.rest_:ByteArray).size:Int) then (21:Int) else ((qu0.rest_:ByteArray).size:Int)).toNat).extract (0:Int).toNat r1.toNat:ByteArray).toList)) (.dr 0 0 [(30000,false,[])] [0,1,2,6,7,8,9,10,11,12,13,14,15,16,17,18,19,20,21,22,23,24,25,26,29,30,31,32,33,34,35] <| .ret 0 true) (.dr 0 0 [(30000,false,[])] [0,1,2,6,7,8,9,10,11,12,13,14,15,16,17,18,19,20,21,22,23,24,25,26,29,30,31,32,33,34,35] <| .ret 0 (decide (r2<a2)))) fun j3=>.ite 0 j3 (.no) (.grd 8 (0≤(i64.wrap (r1+1):Int)∧(i64.wrap (r1+1):Int)≤(qu0.rest_.size:Int)∧(qu0.rest_.size:Int)≤(qu0.rest_.size:Int)) <| .ret 5 (r2,qu0.rest_.extract (i64.wrap (r1+1):Int).toNat (qu0.rest_.size:Int).toNat)))
def G134s0(a1:Int)(a2:Int)(qu0:GReader):Option (Int×ByteArray):=(T134s0 a1 a2 qu0).den
theorem G134s0_ok(a1:Int)(a2:Int)(qu0:GReader):ConH Tryz.prog 63 [.ptr 30000 0,.t (.int .u8 a1),tI a2] [(30000,.box ((cGReader qu0).map .t))] [30000] (G134s0 a1 a2 qu0) (fun (y:Int×ByteArray)=>tI y.1) (fun (y:Int×ByteArray)=>[(30000,.box [.t (.str (y.2)),tB qu0.bad_])]):=conH Tryz.func63 ti_ok (T134s0 a1 a2 qu0)
def T66s0(qu0:GReader):TP (Int×ByteArray):=.ch 2 [] (G134s0_ok 59 (-9223372036854775808) qu0) fun r1=>.ret 1 (r1.1,r1.2)
def G66s0(qu0:GReader):Option (Int×ByteArray):=(T66s0 qu0).den
theorem G66s0_ok(qu0:GReader):ConH Tryz.prog 23 [.ptr 30000 0] [(30000,.box ((cGReader qu0).map .t))] [30000] (G66s0 qu0) (fun (y:Int×ByteArray)=>tI y.1) (fun (y:Int×ByteArray)=>[(30000,.box [.t (.str (y.2)),tB qu0.bad_])]):=conH Tryz.func23 ti_ok (T66s0 qu0)
def T218(a0:ByteArray)(a1:ByteArray):TP Bool:=.jn 7 0 (fun (j1:Bool)=>⟨[(4,tB j1)],[]⟩) (.ite 0 (decide (((a0:ByteArray).size:Int)≥((a1:ByteArray).size:Int))) (.grd 4 (0≤(0:Int)∧(0:Int)≤((a1:ByteArray).size:Int)∧((a1:ByteArray).size:Int)≤(a0.size:Int)) <| .ret 4 ((a0.extract (0:Int).toNat ((a1:ByteArray).size:Int).toNat:ByteArray).toList==(a1:ByteArray).toList)) (.ret 8 false)) fun j1=>.ret 0 j1
def G218(a0:ByteArray)(a1:ByteArray):Option Bool:=(T218 a0 a1).den
theorem G218_ok(a0:ByteArray)(a1:ByteArray):Con Tryz.prog 170 [.t (.str a0),.t (.str a1)] (G218 a0 a1) tB:=con Tryz.func170 ti_ok (T218 a0 a1)
def T199(a0:ByteArray)(a1:ByteArray):TP (ByteArray×Bool):=.ca 4 (G218_ok a0 a1) fun r1=>.ite 1 (!r1) (.ret 3 (a0,false)) (.grd 4 (0≤(((a1:ByteArray).size:Int):Int)∧(((a1:ByteArray).size:Int):Int)≤(a0.size:Int)∧(a0.size:Int)≤(a0.size:Int)) <| .ret 2 (a0.extract (((a1:ByteArray).size:Int):Int).toNat (a0.size:Int).toNat,true))
def G199(a0:ByteArray)(a1:ByteArray):Option (ByteArray×Bool):=(T199 a0 a1).den
theorem G199_ok(a0:ByteArray)(a1:ByteArray):Con Tryz.prog 150 [.t (.str a0),.t (.str a1)] (G199 a0 a1) (fun (y:ByteArray×Bool)=>.tup [.t (.str (y.1)),tB y.2]):=con Tryz.func150 ti_ok (T199 a0 a1)
def T182(a0:ByteArray)(a1:ByteArray):TP (ByteArray×Bool):=.ca 4 (G199_ok a0 a1) fun r1=>.ret 4 (r1.1,r1.2)
def G182(a0:ByteArray)(a1:ByteArray):Option (ByteArray×Bool):=(T182 a0 a1).den
theorem G182_ok(a0:ByteArray)(a1:ByteArray):Con Tryz.prog 123 [.t (.str a0),.t (.str a1)] (G182 a0 a1) (fun (y:ByteArray×Bool)=>.tup [.t (.str (y.1)),tB y.2]):=con Tryz.func123 ti_ok (T182 a0 a1)
def T139s0(a1:ByteArray)(qu0:GReader):TP ByteArray:=.ca 5 (G182_ok qu0.rest_ a1) fun r1=>.ite 12 (!r1.2) (.no) (.ret 0 r1.1)
def G139s0(a1:ByteArray)(qu0:GReader):Option ByteArray:=(T139s0 a1 qu0).den
theorem G139s0_ok(a1:ByteArray)(qu0:GReader):ConH Tryz.prog 70 [.ptr 30000 0,.t (.str a1)] [(30000,.box ((cGReader qu0).map .t))] [30000] (G139s0 a1 qu0) (fun (y:ByteArray)=>.tup []) (fun (y:ByteArray)=>[(30000,.box [.t (.str y),tB qu0.bad_])]):=conH Tryz.func70 ti_ok (T139s0 a1 qu0)
def T68s0(qu0:GReader):TP (ByteArray×ByteArray):=.ch 2 [] (G134s0_ok 58 0 qu0) fun r1=>.ite 8 (decide (r1.1>((r1.2:ByteArray).size:Int))) (.no) (.grd 6 (0≤(0:Int)∧(0:Int)≤r1.1∧r1.1≤(r1.2.size:Int)) <| .grd 8 (0≤(r1.1:Int)∧(r1.1:Int)≤(r1.2.size:Int)∧(r1.2.size:Int)≤(r1.2.size:Int)) <| .ch 4 [] (G139s0_ok (⟨#[44]⟩) (GReader.mk (r1.2.extract (r1.1:Int).toNat (r1.2.size:Int).toNat) qu0.bad_)) fun r2=>.ite 4 (qu0.bad_) (.ret 1 (⟨#[]⟩,r2)) (.ret 2 (r1.2.extract (0:Int).toNat (r1.1).toNat,r2)))
def G68s0(qu0:GReader):Option (ByteArray×ByteArray):=(T68s0 qu0).den
theorem G68s0_ok(qu0:GReader):ConH Tryz.prog 26 [.ptr 30000 0] [(30000,.box ((cGReader qu0).map .t))] [30000] (G68s0 qu0) (fun (y:ByteArray×ByteArray)=>.t (.str (y.1))) (fun (y:ByteArray×ByteArray)=>[(30000,.box [.t (.str (y.2)),tB qu0.bad_])]):=conH Tryz.func26 ti_ok (T68s0 qu0)
def T181s0(qu0:GReader):TP (GValue×ByteArray):=.ch 2 [] (G66s0_ok qu0) fun r1=>.ch 1 [] (G66s0_ok (GReader.mk r1.2 qu0.bad_)) fun r2=>.ch 4 [] (G68s0_ok (GReader.mk r2.2 qu0.bad_)) fun r3=>.ret 4 ((GValue.mk r1.1 r2.1 r3.1),r3.2)
def G181s0(qu0:GReader):Option (GValue×ByteArray):=(T181s0 qu0).den
theorem G181s0_ok(qu0:GReader):ConH Tryz.prog 122 [.ptr 30000 0] [(30000,.box ((cGReader qu0).map .t))] [30000] (G181s0 qu0) (fun (y:GValue×ByteArray)=>.t (eGValue y.1)) (fun (y:GValue×ByteArray)=>[(30000,.box [.t (.str (y.2)),tB qu0.bad_])]):=conH Tryz.func122 ti_ok (T181s0 qu0)
def T65s0(a0:ByteArray):TP GReader:=.cv 5 [.rn 5 40000] <| .ret 0 (GReader.mk a0 false)
def G65s0(a0:ByteArray):Option GReader:=(T65s0 a0).den
theorem G65s0_ok(a0:ByteArray):ConH Tryz.prog 22 [.t (.str a0)] [] [] (G65s0 a0) (fun (y:GReader)=>.ptr 40000 0) (fun (y:GReader)=>[(40000,.box ((cGReader y).map .t))]):=conH Tryz.func22 ti_ok (T65s0 a0)
def T71s0(qu0:GReader):TP Bool:=.jn 7 0 (fun (j1:Bool)=>⟨[(2,tB j1)],[(30000,.box ((cGReader qu0).map .t))]⟩) (.ite 0 (!qu0.bad_) (.ret 7 ((qu0.rest_:ByteArray).toList==(⟨#[]⟩:ByteArray).toList)) (.ret 7 false)) fun j1=>.ret 0 j1
def G71s0(qu0:GReader):Option Bool:=(T71s0 qu0).den
theorem G71s0_ok(qu0:GReader):ConH Tryz.prog 30 [.ptr 30000 0] [(30000,.box ((cGReader qu0).map .t))] [30000] (G71s0 qu0) tB (fun (y:Bool)=>[(30000,.box ((cGReader qu0).map .t))]):=conH Tryz.func30 ti_ok (T71s0 qu0)
def T135s0(qu0:GReader):TP (Int×ByteArray):=.ch 2 [] (G134s0_ok 59 0 qu0) fun r1=>.ret 1 (r1.1,r1.2)
def G135s0(qu0:GReader):Option (Int×ByteArray):=(T135s0 qu0).den
theorem G135s0_ok(qu0:GReader):ConH Tryz.prog 66 [.ptr 30000 0] [(30000,.box ((cGReader qu0).map .t))] [30000] (G135s0 qu0) (fun (y:Int×ByteArray)=>tI y.1) (fun (y:Int×ByteArray)=>[(30000,.box [.t (.str (y.2)),tB qu0.bad_])]):=conH Tryz.func66 ti_ok (T135s0 qu0)
def T136_L0(r1:GReader):(ByteArray×(List GValue)×Int)→TP ((ByteArray×(List GValue)×Int)⊕((ByteArray×(List GValue))⊕((List GValue)×Bool)))
 | (v3,v4,v5)=>.ite 2 (decide (v5>0)) (.ch 1 [] (G180s0_ok (GReader.mk v3 r1.bad_)) fun r8=>.ite 1 (r8==0) (.cv 2 [.sl 2 (eL cGValue ([]:List GValue))] <| .ret 0 (.inr (.inr (([]:List GValue),false)))) (.ch 2 [] (G181s0_ok (GReader.mk v3 r1.bad_)) fun r9=>.bs 0 false cGValue ([r9.1]:List GValue) <| .grd 1 ((v4.length+([r9.1]:List GValue).length)*32≤140737488355328) <| .cv 0 [.ap 22 cGValue v4 ([r9.1]:List GValue)] <| .cv 4 [.rn 22 5] <| .ret 0 (.inl (r9.2,v4++([r9.1]:List GValue),i64.wrap (v5-1))))) (.ret 0 (.inr (.inl (v3,v4))))
def T136(a0:ByteArray):TP ((List GValue)×Bool):=.ch 3 [40000] (G65s0_ok a0) fun r1=>.cv 0 [.rn 40000 8] <| .cv 3 [.rn 8 30000] <| .ch 0 [] (G135s0_ok r1) fun r2=>.cv 1 [.th 5 5 90 3 (eF cGValue ([]:List GValue))] <| .lp 0 (fun ((v3,v4,v5):ByteArray×(List GValue)×Int)=>⟨[(4,.ptr 30000 0),(5,.own 5),(6,tI v5)],[(5,.arr 90 3 (v4.length) (eF cGValue v4)),(30000,.box [.t (.str v3),tB r1.bad_])]⟩) (fun ((b6,b7):ByteArray×(List GValue))=>⟨[(4,.ptr 30000 0),(5,.own 5)],[(5,.arr 90 3 (b7.length) (eF cGValue b7)),(30000,.box [.t (.str b6),tB r1.bad_])]⟩) 0 (r2.2,([]:List GValue),r2.1) (T136_L0 r1) fun (b6,b7)=>.ch 1 [] (G71s0_ok (GReader.mk b6 r1.bad_)) fun r10=>.ite 1 (!r10) (.cv 2 [.sl 2 (eL cGValue ([]:List GValue))] <| .ret 0 (([]:List GValue),false)) (.cv 3 [.fr 5 (eL cGValue b7)] <| .ret 0 (b7,true))
def G136(a0:ByteArray):Option ((List GValue)×Bool):=(T136 a0).den
theorem G136_ok(a0:ByteArray):Con Tryz.prog 67 [.t (.str a0)] (G136 a0) (fun (y:(List GValue)×Bool)=>.tup [tV y.1,tB y.2]):=con Tryz.func67 ti_ok (T136 a0)
def T137_L0(a0:LD):Int→TP ((Int)⊕((Unit)⊕Bool))
 | v1=>.ite 1 (decide (v1<(a0.length:Int))) (.grd 2 (0≤v1∧v1<(a0.length:Int)) <| .jn 4 0 (fun (j2:Bool)=>⟨[(0,tD a0),(5,tD a0),(6,tI (a0.length:Int)),(7,tI v1),(28,tB j2)],[]⟩) (.dl 3 (((a0.getD v1.toNat default).N)==0) (.dr 0 0 [(4,false,[])] [0,3,4,5,6,7,8,9,10,11] <| .ret 0 true) (.dl 6 (decide (v1>0)) (.dg 10 (0≤(i64.wrap (v1-1))∧(i64.wrap (v1-1))<(a0.length:Int)) <| .dc 13 [.t (eGDelta (a0.getD (i64.wrap (v1-1)).toNat default)),.t (eGDelta (a0.getD v1.toNat default))] (G61_ok (a0.getD (i64.wrap (v1-1)).toNat default) (a0.getD v1.toNat default)) fun r3=>.dr 0 0 [(4,false,[])] [0,3,4,5,6,7,8,9,10,11] <| .ret 0 (decide (r3≥0))) (.dr 0 0 [(4,false,[])] [0,3,4,5,6,7,8,9,10,11] <| .ret 0 false))) fun j2=>.ite 0 j2 (.ret 1 (.inr (.inr false))) (.ret 2 (.inl (i64.wrap (v1+1))))) (.ret 0 (.inr (.inl ())))
def T137(a0:LD):TP Bool:=.lp 4 (fun (v1:Int)=>⟨[(0,tD a0),(5,tD a0),(6,tI (a0.length:Int)),(7,tI v1)],[]⟩) (fun (_:Unit)=>⟨[],[]⟩) 0 0 (T137_L0 a0) fun _=>.ret 1 true
def G137(a0:LD):Option Bool:=(T137 a0).den
theorem G137_ok(a0:LD):Con Tryz.prog 68 [tD a0] (G137 a0) tB:=con Tryz.func68 ti_ok (T137 a0)
def T67_L0(a0:ByteArray)(r1:GReader)(r2:Int×ByteArray):(ByteArray×LD×Int)→TP ((ByteArray×LD×Int)⊕((LD)⊕(LD×Bool)))
 | (v3,v4,v5)=>.ite 1 (decide (v5<(if ((a0:ByteArray).size:Int)<r2.1 then ((a0:ByteArray).size:Int) else r2.1))) (.ch 1 [] (G66s0_ok (GReader.mk v3 r1.bad_)) fun r7=>.ch 5 [] (G68s0_ok (GReader.mk r7.2 r1.bad_)) fun r8=>.ca 0 (G136_ok r8.1) fun r9=>.ite 8 (!r9.2) (.cv 2 [.sl 2 (eL cGDelta ([]:LD))] <| .ret 0 (.inr (.inr (([]:LD),false)))) (.ch 1 [] (G66s0_ok (GReader.mk r8.2 r1.bad_)) fun r10=>.bs 4 false cGDelta ([(GDelta.mk r7.1 r9.1 r10.1)]:LD) <| .grd 1 ((v4.length+([(GDelta.mk r7.1 r9.1 r10.1)]:LD).length)*40≤140737488355328) <| .cv 0 [.ap 35 cGDelta v4 ([(GDelta.mk r7.1 r9.1 r10.1)]:LD)] <| .cv 3 [.rn 35 5] <| .ret 0 (.inl (r10.2,v4++([(GDelta.mk r7.1 r9.1 r10.1)]:LD),i64.wrap (v5+1))))) (.ret 0 (.inr (.inl v4)))
def T67(a0:ByteArray):TP (LD×Bool):=.ch 3 [40000] (G65s0_ok a0) fun r1=>.cv 0 [.rn 40000 9] <| .cv 3 [.rn 9 30000] <| .ch 0 [] (G135s0_ok r1) fun r2=>.cv 4 [.th 5 5 52 3 (eF cGDelta ([]:LD))] <| .lp 0 (fun ((v3,v4,v5):ByteArray×LD×Int)=>⟨[(0,.t (.str a0)),(4,.ptr 30000 0),(5,.own 5),(14,tI (if ((a0:ByteArray).size:Int)<r2.1 then ((a0:ByteArray).size:Int) else r2.1)),(15,tI v5)],[(5,aD v4),(30000,.box [.t (.str v3),tB r1.bad_])]⟩) (fun (b6:LD)=>⟨[(0,.t (.str a0)),(5,.own 5)],[(5,aD b6)]⟩) 0 (r2.2,([]:LD),0) (T67_L0 a0 r1 r2) fun b6=>.ca 1 (G137_ok b6) fun r11=>.jn 2 0 (fun ((j12,j13):LD×Bool)=>⟨[(5,.own 5),(45,tB j13)],[(5,aD j12)]⟩) (.ite 0 (!r11) (.ret 5 (b6,true)) (.ca 1 (G53_ok b6) fun r14=>.ret 3 (b6,!((r14:ByteArray).toList==(a0:ByteArray).toList)))) fun (j12,j13)=>.ite 0 j13 (.cv 2 [.sl 2 (eL cGDelta ([]:LD))] <| .ret 0 (([]:LD),false)) (.cv 3 [.fr 5 (eL cGDelta j12)] <| .ret 0 (j12,true))
def G67(a0:ByteArray):Option (LD×Bool):=(T67 a0).den
theorem G67_ok(a0:ByteArray):Con Tryz.prog 25 [.t (.str a0)] (G67 a0) (fun (y:LD×Bool)=>.tup [tD y.1,tB y.2]):=con Tryz.func25 ti_ok (T67 a0)
def T141(a0:GDelta):TP Bool:=.ret 6 (decide (a0.N<0))
def G141(a0:GDelta):Option Bool:=(T141 a0).den
theorem G141_ok(a0:GDelta):Con Tryz.prog 72 [.t (eGDelta a0)] (G141 a0) tB:=con Tryz.func72 ti_ok (T141 a0)
def T105s0_L0(a0:LD):Int→TP ((Int)⊕((Unit)⊕Int))
 | v1=>.ite 1 (decide (v1<(a0.length:Int))) (.grd 6 (0≤v1∧v1<(a0.length:Int)) <| .ca 1 (G141_ok (a0.getD v1.toNat default)) fun r2=>.ite 0 r2 (.ret 2 (.inr (.inr v1))) (.ret 2 (.inl (i64.wrap (v1+1))))) (.ret 0 (.inr (.inl ())))
def T105s0(a0:LD):TP Int:=.lp 4 (fun (v1:Int)=>⟨[(0,tD a0),(1,.fn (.func 72) 0 []),(7,tI (a0.length:Int)),(8,tI v1)],[]⟩) (fun (_:Unit)=>⟨[],[]⟩) 0 0 (T105s0_L0 a0) fun _=>.ret 1 (-1)
def G105s0(a0:LD):Option Int:=(T105s0 a0).den
theorem G105s0_ok(a0:LD):ConH Tryz.prog 124 [tD a0,.fn (.func 72) 0 []] [] [] (G105s0 a0) tI (fun (y:Int)=>[]):=conH Tryz.func124 ti_ok (T105s0 a0)
def T140s0(a0:LD):TP Bool:=.ch 3 [] (G105s0_ok a0) fun r1=>.ret 2 (decide (r1≥0))
def G140s0(a0:LD):Option Bool:=(T140s0 a0).den
theorem G140s0_ok(a0:LD):ConH Tryz.prog 71 [tD a0,.fn (.func 72) 0 []] [] [] (G140s0 a0) tB (fun (y:Bool)=>[]):=conH Tryz.func71 ti_ok (T140s0 a0)
def T69(a0:LD):TP Bool:=.ca 2 (G27_ok a0) fun r1=>.ch 0 [] (G140s0_ok r1) fun r2=>.ret 2 (!r2)
def G69(a0:LD):Option Bool:=(T69 a0).den
theorem G69_ok(a0:LD):Con Tryz.prog 27 [tD a0] (G69 a0) tB:=con Tryz.func27 ti_ok (T69 a0)
def T70_L0(a0:GNode):(Int×Int)→TP ((Int×Int)⊕((Int)⊕Int))
 | (v1,v2)=>.ite 1 (decide (v2<(a0.Key.length:Int))) (.grd 1 (0≤v2∧v2<(a0.Key.length:Int)) <| .ret 9 (.inl (if (i64.wrap ((a0.Key.getD v2.toNat default)+1))>v1 then (i64.wrap ((a0.Key.getD v2.toNat default)+1)) else v1,i64.wrap (v2+1)))) (.ret 0 (.inr (.inl v1)))
def T70_L1(a0:GNode):(Int×Int)→TP ((Int×Int)⊕((Int)⊕Int))
 | (v4,v5)=>.ite 1 (decide (v5<(a0.Key2.length:Int))) (.grd 1 (0≤v5∧v5<(a0.Key2.length:Int)) <| .ret 9 (.inl (if (i64.wrap ((a0.Key2.getD v5.toNat default)+1))>v4 then (i64.wrap ((a0.Key2.getD v5.toNat default)+1)) else v4,i64.wrap (v5+1)))) (.ret 0 (.inr (.inl v4)))
def T70(a0:GNode)(a1:Int):TP Int:=.sp 9 13 a1 0 (.gd 1 (0≤(0:Int)∧(0:Int)<(2:Int)) (by decide) <| .lp 2 (fun ((v1,v2):Int×Int)=>⟨[(5,tI v1),(14,.t (eL cInt (a0.Key))),(15,tI (a0.Key.length:Int)),(16,tI v2)],[]⟩) (fun (b3:Int)=>⟨[(5,tI b3)],[]⟩) 0 (0,0) (T70_L0 a0) fun b3=>.ret 2 b3) (.sp 0 13 a1 1 (.gd 1 (0≤(1:Int)∧(1:Int)<(2:Int)) (by decide) <| .lp 2 (fun ((v4,v5):Int×Int)=>⟨[(5,tI v4),(14,.t (eL cInt (a0.Key2))),(15,tI (a0.Key2.length:Int)),(16,tI v5)],[]⟩) (fun (b6:Int)=>⟨[(5,tI b6)],[]⟩) 0 (0,0) (T70_L1 a0) fun b6=>.ret 2 b6) (.no))
def G70(a0:GNode)(a1:Int):Option Int:=(T70 a0 a1).den
theorem G70_ok(a0:GNode)(a1:Int):Con Tryz.prog 28 [.t (eGNode a0),tI a1] (G70 a0 a1) tI:=con Tryz.func28 ti_ok (T70 a0 a1)
def T125s0_L0(a2:List GValue)(j1:List Int)(j2:Int):((List GValue)×Int)→TP (((List GValue)×Int)⊕((List GValue)⊕ByteArray))
 | (v3,v4)=>.ite 1 (decide (v4<j2)) (.grd 1 (0≤v4∧v4<(j1.length:Int)) <| .grd 6 (0≤(j1.getD v4.toNat default)∧(j1.getD v4.toNat default)<(a2.length:Int)) <| .bs 1 false cGValue ([a2.getD (j1.getD v4.toNat default).toNat default]:List GValue) <| .grd 1 ((v3.length+([a2.getD (j1.getD v4.toNat default).toNat default]:List GValue).length)*32≤140737488355328) <| .cv 0 [.ap 34 cGValue v3 ([a2.getD (j1.getD v4.toNat default).toNat default]:List GValue)] <| .cv 3 [.rn 34 7] <| .ret 0 (.inl (v3++([a2.getD (j1.getD v4.toNat default).toNat default]:List GValue),i64.wrap (v4+1)))) (.ret 0 (.inr (.inl v3)))
def T125s0(a1:Int)(a2:List GValue)(qv0:GNode)(qv1:Int)(qwl:LS):TP ByteArray:=.jn 2 0 (fun ((j1,j2):(List Int)×Int)=>⟨[(2,tV a2),(7,.nil),(22,.t (eL cInt j1)),(23,tI j2),(24,tI 0)],[(30001,bOp qv0 30002 qv1),(30002,mM (qwl:LS))]⟩) (.sp 0 1 a1 0 (.dg 12 (0≤(0:Int)∧(0:Int)<(2:Int)) <| .dr 0 0 [(30001,false,[]),(30002,false,[])] [0,1,2,6,7] <| .ret 0 (qv0.Key,(qv0.Key.length:Int))) (.sp 0 1 a1 1 (.dg 12 (0≤(1:Int)∧(1:Int)<(2:Int)) <| .dr 0 0 [(30001,false,[]),(30002,false,[])] [0,1,2,6,7] <| .ret 0 (qv0.Key2,(qv0.Key2.length:Int))) (.no))) fun (j1,j2)=>.cv 0 [.th 7 7 90 3 (eF cGValue ([]:List GValue))] <| .lp 0 (fun ((v3,v4):(List GValue)×Int)=>⟨[(2,tV a2),(7,.own 7),(22,.t (eL cInt j1)),(23,tI j2),(24,tI v4)],[(7,.arr 90 3 (v3.length) (eF cGValue v3)),(30001,bOp qv0 30002 qv1),(30002,mM (qwl:LS))]⟩) (fun (b5:(List GValue))=>⟨[(7,.own 7)],[(7,.arr 90 3 (b5.length) (eF cGValue b5)),(30001,bOp qv0 30002 qv1),(30002,mM (qwl:LS))]⟩) 0 (([]:List GValue),0) (T125s0_L0 a2 j1 j2) fun b5=>.ca 1 (G120_ok b5) fun r6=>.ret 1 r6
def G125s0(a1:Int)(a2:List GValue)(qv0:GNode)(qv1:Int)(qwl:LS):Option ByteArray:=(T125s0 a1 a2 qv0 qv1 qwl).den
theorem G125s0_ok(a1:Int)(a2:List GValue)(qv0:GNode)(qv1:Int)(qwl:LS):ConH Tryz.prog 73 [.ptr 30001 0,tI a1,tV a2] [(30001,bOp qv0 30002 qv1),(30002,mM (qwl:LS))] [30001,30002] (G125s0 a1 a2 qv0 qv1 qwl) (fun (y:ByteArray)=>.t (.str y)) (fun (y:ByteArray)=>[(30001,bOp qv0 30002 qv1),(30002,mM (qwl:LS))]):=conH Tryz.func73 ti_ok (T125s0 a1 a2 qv0 qv1 qwl)
def T58s0_L0(a1:Int)(qv0:GNode)(qv1:Int)(qwl:LS)(r1:LD):(LM×Int)→TP ((LM×Int)⊕((LM)⊕LM))
 | (v2,v3)=>.ite 1 (decide (v3<(r1.length:Int))) (.grd 1 (0≤v3∧v3<(r1.length:Int)) <| .ch 7 [] (G125s0_ok a1 ((r1.getD v3.toNat default).Row) qv0 qv1 qwl) fun r5=>.lkr 5 52 3 (fun c:LD=>c.length) (fun c:LD=>eF cGDelta c) ([]:LD) (v2:LM) r5 <| .bs 1 false cGDelta ([r1.getD v3.toNat default]:LD) <| .grd 1 ((((mlook (v2:LM) r5).getD ([]:LD)).length+([r1.getD v3.toNat default]:LD).length)*40≤140737488355328) <| .cv 0 [.ap 31 cGDelta ((mlook (v2:LM) r5).getD ([]:LD)) ([r1.getD v3.toNat default]:LD)] <| .upd 0 mR (mdel v2 r5:LM) r5 <| .cv 2 [.fw 11 31 52 3 (fun c:LD=>c.length) (fun c:LD=>eF cGDelta c) (v2:LM) r5 (((mlook (v2:LM) r5).getD ([]:LD))++([r1.getD v3.toNat default]:LD):LD)] <| .ret 0 (.inl (mput v2 r5 (((mlook (v2:LM) r5).getD ([]:LD))++([r1.getD v3.toNat default]:LD):LD),i64.wrap (v3+1)))) (.ret 0 (.inr (.inl v2)))
def T58s0(a1:Int)(a2:LD)(qv0:GNode)(qv1:Int)(qwl:LS):TP LM:=.mk (K:=ByteArray) 1 mR <| .ca 2 (G27_ok a2) fun r1=>.lp 2 (fun ((v2,v3):LM×Int)=>⟨[(0,.ptr 30001 0),(1,tI a1),(7,.map 11),(13,tD r1),(14,tI (r1.length:Int)),(15,tI v3)],[(11,pR v2),(30001,bOp qv0 30002 qv1),(30002,mM (qwl:LS))]⟩) (fun (b4:LM)=>⟨[(7,.map 11)],[(11,pR b4),(30001,bOp qv0 30002 qv1),(30002,mM (qwl:LS))]⟩) 0 (([]:LM),0) (T58s0_L0 a1 qv0 qv1 qwl r1) fun b4=>.cv 2 [.rn 11 40000] <| .ret 0 b4
def G58s0(a1:Int)(a2:LD)(qv0:GNode)(qv1:Int)(qwl:LS):Option LM:=(T58s0 a1 a2 qv0 qv1 qwl).den
theorem G58s0_ok(a1:Int)(a2:LD)(qv0:GNode)(qv1:Int)(qwl:LS):ConH Tryz.prog 29 [.ptr 30001 0,tI a1,tD a2] [(30001,bOp qv0 30002 qv1),(30002,mM (qwl:LS))] [30001,30002] (G58s0 a1 a2 qv0 qv1 qwl) (fun (y:LM)=>.map 40000) (fun (y:LM)=>[(30001,bOp qv0 30002 qv1),(30002,mM (qwl:LS)),(40000,pR y)]):=conH Tryz.func29 ti_ok (T58s0 a1 a2 qv0 qv1 qwl)
def T28s0_L1(a0:GNode)(r1:GReader)(r2:GNode×Int×LS)(r3:Int×ByteArray)(r4:Int×Int)(v5:LS)(v7:Int)(r10:ByteArray×ByteArray)(r11:LD×Bool):Int→TP ((Int)⊕((Unit)⊕(((LS)×ByteArray×Int)⊕(((LS)×ByteArray)⊕(GNode×Int×LS×Bool)))))
 | v14=>.ite 1 (decide (v14<(r11.1.length:Int))) (.grd 1 (0≤v14∧v14<(r11.1.length:Int)) <| .dc 5 [.t (eGNode a0),tI v7] (G70_ok a0 v7) fun r15=>.dr 3 0 [(2,false,[]),(15,false,[]),(21,false,[]),(17101,false,[]),(30000,false,[])] [2,6,7,8,9,11,12,15,29,45,46,47,48,49,50] <| .ite 0 (decide ((((r11.1.getD v14.toNat default).Row).length:Int)<r15)) (.no) (.jn 4 0 (fun (j16:Bool)=>⟨[(2,.ptr 2 0),(6,.ptr 30000 0),(7,.ptr 21 0),(8,tI r3.1),(9,tI r4.1),(11,tI v7),(12,tD r11.1),(29,tI v7),(45,tD r11.1),(46,tI (r11.1.length:Int)),(47,tI v14),(77,tB j16)],[(2,bN a0),(21,bOp r2.1 17101 r2.2.1),(17101,mM (v5:LS)),(30000,.box [.t (.str (r10.2)),tB r1.bad_])]⟩) (.ite 0 (decide (((r11.1.getD v14.toNat default).Time)<0)) (.ret 16 true) (.ite 5 (decide (((r11.1.getD v14.toNat default).Time)>2199023255552)) (.ret 11 true) (.ite 3 (decide (r3.1≥0)) (.ret 8 (decide (((r11.1.getD v14.toNat default).Time)≤(i64.wrap (r3.1-r4.1))))) (.ret 8 false)))) fun j16=>.ite 0 j16 (.no) (.ret 2 (.inl (i64.wrap (v14+1)))))) (.ret 0 (.inr (.inl ())))
def T28s0_L2(v7:Int):((List ByteArray)×LM×LS)→TP (((List ByteArray)×LM×LS)⊕((LS)⊕(((LS)×ByteArray×Int)⊕(((LS)×ByteArray)⊕(GNode×Int×LS×Bool)))))
 | (v18,v19,v20)=>.nxd 0 vD (v19:LM) (v18:List ByteArray) (.ret 2 (.inr (.inl v20))) fun k22 c23=>.gd 3 ((.str k22:T) = .str k22) rfl <| .lkb 9 cGSide (v20:LS) k22 (.cv 9 [.gp 30002 mS (v20:LS) k22] <| .upd 0 mS (mdel v20 k22:LS) k22 <| .cv 5 [.bx 102 [eL cGDelta ([]:LD),eL cGDelta ([]:LD)],.fb 30002 102 cGSide (v20:LS) k22 (GSide.mk (A2_ListGDelta.mk ([]:LD) ([]:LD)))] <| .lkb 0 cGSide (mput v20 k22 ((GSide.mk (A2_ListGDelta.mk ([]:LD) ([]:LD))):GSide):LS) k22 (.no) fun c25=>.sp 4 109 v7 0 (.gd 1 (0≤(0:Int)∧(0:Int)<(2:Int)) (by decide) <| .cv 1 [.fd 82 vD (v19:LM) k22 (c23:LD),.nc 82,.fb 30002 108 cGSide (mput v20 k22 ((GSide.mk (A2_ListGDelta.mk ([]:LD) ([]:LD))):GSide):LS) k22 (GSide.mk (A2_ListGDelta.mk c23 c25.rows_.e1))] <| .ret 0 (.inl (kerase v18 k22,mput v19 k22 (c23:LD),mput (mput v20 k22 ((GSide.mk (A2_ListGDelta.mk ([]:LD) ([]:LD))):GSide)) k22 ((GSide.mk (A2_ListGDelta.mk c23 c25.rows_.e1)):GSide)))) (.sp 0 109 v7 1 (.gd 1 (0≤(1:Int)∧(1:Int)<(2:Int)) (by decide) <| .cv 1 [.fd 82 vD (v19:LM) k22 (c23:LD),.nc 82,.fb 30002 108 cGSide (mput v20 k22 ((GSide.mk (A2_ListGDelta.mk ([]:LD) ([]:LD))):GSide):LS) k22 (GSide.mk (A2_ListGDelta.mk c25.rows_.e0 c23))] <| .ret 0 (.inl (kerase v18 k22,mput v19 k22 (c23:LD),mput (mput v20 k22 ((GSide.mk (A2_ListGDelta.mk ([]:LD) ([]:LD))):GSide)) k22 ((GSide.mk (A2_ListGDelta.mk c25.rows_.e0 c23)):GSide)))) (.no))) fun c24=>.cv 7 [.fb 30002 94 cGSide (v20:LS) k22 c24] <| .lkb 0 cGSide (mput v20 k22 (c24:GSide):LS) k22 (.no) fun c26=>.sp 4 109 v7 0 (.gd 1 (0≤(0:Int)∧(0:Int)<(2:Int)) (by decide) <| .cv 1 [.fd 82 vD (v19:LM) k22 (c23:LD),.nc 82,.fb 30002 108 cGSide (mput v20 k22 (c24:GSide):LS) k22 (GSide.mk (A2_ListGDelta.mk c23 c26.rows_.e1))] <| .ret 0 (.inl (kerase v18 k22,mput v19 k22 (c23:LD),mput (mput v20 k22 (c24:GSide)) k22 ((GSide.mk (A2_ListGDelta.mk c23 c26.rows_.e1)):GSide)))) (.sp 0 109 v7 1 (.gd 1 (0≤(1:Int)∧(1:Int)<(2:Int)) (by decide) <| .cv 1 [.fd 82 vD (v19:LM) k22 (c23:LD),.nc 82,.fb 30002 108 cGSide (mput v20 k22 (c24:GSide):LS) k22 (GSide.mk (A2_ListGDelta.mk c26.rows_.e0 c23))] <| .ret 0 (.inl (kerase v18 k22,mput v19 k22 (c23:LD),mput (mput v20 k22 (c24:GSide)) k22 ((GSide.mk (A2_ListGDelta.mk c26.rows_.e0 c23)):GSide)))) (.no))
def T28s0_L0(a0:GNode)(r1:GReader)(r2:GNode×Int×LS)(r3:Int×ByteArray)(r4:Int×Int):((LS)×ByteArray×Int)→TP (((LS)×ByteArray×Int)⊕(((LS)×ByteArray)⊕(GNode×Int×LS×Bool)))
 | (v5,v6,v7)=>.ite 1 (decide (v7<2)) (.ch 3 [] (G68s0_ok (GReader.mk v6 r1.bad_)) fun r10=>.ca 0 (G67_ok r10.1) fun r11=>.jn 8 0 (fun (j12:Bool)=>⟨[(2,.ptr 2 0),(6,.ptr 30000 0),(7,.ptr 21 0),(8,tI r3.1),(9,tI r4.1),(11,tI v7),(12,tD r11.1),(29,tI v7),(44,tB j12)],[(2,bN a0),(21,bOp r2.1 17101 r2.2.1),(17101,mM (v5:LS)),(30000,.box [.t (.str (r10.2)),tB r1.bad_])]⟩) (.ite 0 (!r11.2) (.ret 4 true) (.ca 1 (G69_ok r11.1) fun r13=>.ret 2 (!r13))) fun j12=>.ite 0 j12 (.no) (.lp 3 (fun (v14:Int)=>⟨[(2,.ptr 2 0),(6,.ptr 30000 0),(7,.ptr 21 0),(8,tI r3.1),(9,tI r4.1),(11,tI v7),(12,tD r11.1),(29,tI v7),(45,tD r11.1),(46,tI (r11.1.length:Int)),(47,tI v14)],[(2,bN a0),(21,bOp r2.1 17101 r2.2.1),(17101,mM (v5:LS)),(30000,.box [.t (.str (r10.2)),tB r1.bad_])]⟩) (fun (_:Unit)=>⟨[(2,.ptr 2 0),(6,.ptr 30000 0),(7,.ptr 21 0),(8,tI r3.1),(9,tI r4.1),(11,tI v7),(12,tD r11.1),(29,tI v7)],[(2,bN a0),(21,bOp r2.1 17101 r2.2.1),(17101,mM (v5:LS)),(30000,.box [.t (.str (r10.2)),tB r1.bad_])]⟩) 2 0 (T28s0_L1 a0 r1 r2 r3 r4 v5 v7 r10 r11) fun _=>.cv 3 [.rn 21 30001] <| .cv 0 [.rn 17101 30002] <| .ch 0 [40000] (G58s0_ok v7 r11.1 r2.1 r2.2.1 v5) fun r17=>.cv 0 [.rn 40000 82] <| .cv 0 [.fz 82 52 3 (fun c:LD=>c.length) (fun c:LD=>eF cGDelta c) vD (r17:LM)] <| .rng 0 mD (r17:LM) <| .lp 0 (fun ((v18,v19,v20):(List ByteArray)×LM×LS)=>⟨[(2,.ptr 2 0),(6,.ptr 30000 0),(7,.ptr 30001 0),(8,tI r3.1),(9,tI r4.1),(11,tI v7),(29,tI v7),(83,.ptr 83 0)],[(2,bN a0),(82,.mp (some ⟨83,kTs (v18:List ByteArray),none⟩) (eM mD (v19:LM)) none),(30000,.box [.t (.str (r10.2)),tB r1.bad_]),(30001,bOp r2.1 30002 r2.2.1),(30002,mM (v20:LS))]⟩) (fun (b21:LS)=>⟨[(2,.ptr 2 0),(6,.ptr 30000 0),(7,.ptr 30001 0),(8,tI r3.1),(9,tI r4.1),(29,tI v7)],[(2,bN a0),(30000,.box [.t (.str (r10.2)),tB r1.bad_]),(30001,bOp r2.1 30002 r2.2.1),(30002,mM (b21:LS))]⟩) 4 (mkeys r17,r17,v5) (T28s0_L2 v7) fun b21=>.cv 2 [.rn 30001 21,.rn 30002 17101] <| .ret 0 (.inl (b21,r10.2,i64.wrap (v7+1))))) (.ret 0 (.inr (.inl (v5,v6))))
def T28s0(a0:GNode)(a1:ByteArray):TP (GNode×Int×LS×Bool):=.ch 4 [40000] (G65s0_ok a1) fun r1=>.cv 0 [.rn 40000 19] <| .ch 2 [40000,41001] (G9s0_ok a0) fun r2=>.cv 0 [.rn 40000 21,.rn 41001 17101] <| .cv 2 [.rn 19 30000] <| .ch 0 [] (G66s0_ok r1) fun r3=>.ca 2 (G10_ok a0) fun r4=>.lp 6 (fun ((v5,v6,v7):LS×ByteArray×Int)=>⟨[(2,.ptr 2 0),(6,.ptr 30000 0),(7,.ptr 21 0),(8,tI r3.1),(9,tI r4.1),(29,tI v7)],[(2,bN a0),(21,bOp r2.1 17101 r2.2.1),(17101,mM (v5:LS)),(30000,.box [.t (.str v6),tB r1.bad_])]⟩) (fun ((b8,b9):LS×ByteArray)=>⟨[(6,.ptr 30000 0),(7,.ptr 21 0),(8,tI r3.1)],[(21,bOp r2.1 17101 r2.2.1),(17101,mM (b8:LS)),(30000,.box [.t (.str b9),tB r1.bad_])]⟩) 0 (r2.2.2,r3.2,0) (T28s0_L0 a0 r1 r2 r3 r4) fun (b8,b9)=>.ch 1 [] (G71s0_ok (GReader.mk b9 r1.bad_)) fun r27=>.jn 2 0 (fun (j28:Bool)=>⟨[(7,.ptr 21 0),(8,tI r3.1),(125,tB j28)],[(21,bOp r2.1 17101 r2.2.1),(17101,mM (b8:LS))]⟩) (.ite 0 (!r27) (.ret 7 true) (.ite 4 (decide (r3.1<(-1))) (.ret 3 true) (.ret 3 (decide (r3.1>4398046511104))))) fun j28=>.ite 0 j28 (.no) (.cv 8 [.rn 21 40000,.rn 17101 41001] <| .ret 0 (r2.1,r3.1,b8,true))
def G28s0(a0:GNode)(a1:ByteArray):Option (GNode×Int×LS×Bool):=Det (T28s0 a0 a1)
theorem G28s0_ok(a0:GNode)(a1:ByteArray):ConH Tryz.prog 7 [.t (eGNode a0),.t (.str a1)] [] [] (G28s0 a0 a1) (fun (y:GNode×Int×LS×Bool)=>.tup [.ptr 40000 0,tB y.2.2.2]) (fun (y:GNode×Int×LS×Bool)=>[(40000,bOp y.1 41001 y.2.1),(41001,mM (y.2.2.1:LS))]):=conHD Tryz.func7 ti_ok (T28s0 a0 a1)
def T54s0_L0(a1:Int):((List ByteArray)×LS×LD)→TP (((List ByteArray)×LS×LD)⊕(((List ByteArray)×LS×LD)⊕(LD×LS)))
 | (v1,v2,v3)=>.nxb 0 cGSide (v2:LS) (v1:List ByteArray) (.ret 2 (.inr (.inl (v1,v2,v3)))) fun k7 c8=>.gd 3 ((.str k7:T) = .str k7) rfl <| .sp 7 19 a1 0 (.gd 1 (0≤(0:Int)∧(0:Int)<(2:Int)) (by decide) <| .grd 2 ((v3.length+c8.rows_.e0.length)*40≤140737488355328) <| .cv 0 [.ap 24 cGDelta v3 c8.rows_.e0] <| .cv 1 [.rn 24 5,.fb 30001 13 cGSide (v2:LS) k7 c8,.nc 30001] <| .ret 0 (.inl (kerase v1 k7,mput v2 k7 (c8:GSide),v3++c8.rows_.e0))) (.sp 0 19 a1 1 (.gd 1 (0≤(1:Int)∧(1:Int)<(2:Int)) (by decide) <| .grd 2 ((v3.length+c8.rows_.e1.length)*40≤140737488355328) <| .cv 0 [.ap 24 cGDelta v3 c8.rows_.e1] <| .cv 1 [.rn 24 5,.fb 30001 13 cGSide (v2:LS) k7 c8,.nc 30001] <| .ret 0 (.inl (kerase v1 k7,mput v2 k7 (c8:GSide),v3++c8.rows_.e1))) (.no))
def T54s0(a1:Int)(qu0:GNode)(qu1:Int)(qum:LS):TP (LD×LS):=.rng 6 mS (qum:LS) <| .cv 0 [.th 5 5 52 3 (eF cGDelta ([]:LD))] <| .lp 0 (fun ((v1,v2,v3):(List ByteArray)×LS×LD)=>⟨[(1,tI a1),(5,.own 5),(12,.ptr 12 0)],[(5,aD v3),(30000,bOp qu0 30001 qu1),(30001,.mp (some ⟨12,kTs (v1:List ByteArray),none⟩) (eM mS (v2:LS)) none)]⟩) (fun ((b4,b5,b6):(List ByteArray)×LS×LD)=>⟨[(5,.own 5)],[(5,aD b6),(30000,bOp qu0 30001 qu1),(30001,.mp (some ⟨12,kTs (b4:List ByteArray),none⟩) (eM mS (b5:LS)) none)]⟩) 0 (mkeys qum,qum,([]:LD)) (T54s0_L0 a1) fun (b4,b5,b6)=>.cv 1 [.fr 5 (eL cGDelta b6)] <| .ca 0 (G27_ok b6) fun r9=>.cv 1 [.ni 30001] <| .ret 0 (r9,b5)
def G54s0(a1:Int)(qu0:GNode)(qu1:Int)(qum:LS):Option (LD×LS):=Det (T54s0 a1 qu0 qu1 qum)
theorem G54s0_ok(a1:Int)(qu0:GNode)(qu1:Int)(qum:LS):ConH Tryz.prog 34 [.ptr 30000 0,tI a1] [(30000,bOp qu0 30001 qu1),(30001,mM (qum:LS))] [30000,30001] (G54s0 a1 qu0 qu1 qum) (fun (y:LD×LS)=>tD y.1) (fun (y:LD×LS)=>[(30000,bOp qu0 30001 qu1),(30001,mM (y.2:LS))]):=conHD Tryz.func34 ti_ok (T54s0 a1 qu0 qu1 qum)
def T22s0(qu0:GNode)(qu1:Int)(qum:LS):TP (ByteArray×LS):=.ca 5 (G51_ok qu1) fun r1=>.ch 1 [] (G54s0_ok 0 qu0 qu1 qum) fun r2=>.ca 0 (G53_ok r2.1) fun r3=>.ca 0 (G52_ok r3) fun r4=>.grd 1 (((r1.size+r4.size:Nat):Int)≤9223372036854775807) <| .ch 1 [] (G54s0_ok 1 qu0 qu1 r2.2) fun r5=>.ca 0 (G53_ok r5.1) fun r6=>.ca 0 (G52_ok r6) fun r7=>.grd 1 ((((r1++r4).size+r7.size:Nat):Int)≤9223372036854775807) <| .ret 1 ((r1++r4)++r7,r5.2)
def G22s0(qu0:GNode)(qu1:Int)(qum:LS):Option (ByteArray×LS):=(T22s0 qu0 qu1 qum).den
theorem G22s0_ok(qu0:GNode)(qu1:Int)(qum:LS):ConH Tryz.prog 8 [.ptr 30000 0] [(30000,bOp qu0 30001 qu1),(30001,mM (qum:LS))] [30000,30001] (G22s0 qu0 qu1 qum) (fun (y:ByteArray×LS)=>.t (.str (y.1))) (fun (y:ByteArray×LS)=>[(30000,bOp qu0 30001 qu1),(30001,mM (y.2:LS))]):=conH Tryz.func8 ti_ok (T22s0 qu0 qu1 qum)
def T54s1_L0(a1:Int):((List ByteArray)×LS×LD)→TP (((List ByteArray)×LS×LD)⊕(((List ByteArray)×LS×LD)⊕(LD×LS)))
 | (v1,v2,v3)=>.nxb 0 cGSide (v2:LS) (v1:List ByteArray) (.ret 2 (.inr (.inl (v1,v2,v3)))) fun k7 c8=>.gd 3 ((.str k7:T) = .str k7) rfl <| .sp 7 19 a1 0 (.gd 1 (0≤(0:Int)∧(0:Int)<(2:Int)) (by decide) <| .grd 2 ((v3.length+c8.rows_.e0.length)*40≤140737488355328) <| .cv 0 [.ap 24 cGDelta v3 c8.rows_.e0] <| .cv 1 [.rn 24 5,.fb 30002 13 cGSide (v2:LS) k7 c8,.nc 30002] <| .ret 0 (.inl (kerase v1 k7,mput v2 k7 (c8:GSide),v3++c8.rows_.e0))) (.sp 0 19 a1 1 (.gd 1 (0≤(1:Int)∧(1:Int)<(2:Int)) (by decide) <| .grd 2 ((v3.length+c8.rows_.e1.length)*40≤140737488355328) <| .cv 0 [.ap 24 cGDelta v3 c8.rows_.e1] <| .cv 1 [.rn 24 5,.fb 30002 13 cGSide (v2:LS) k7 c8,.nc 30002] <| .ret 0 (.inl (kerase v1 k7,mput v2 k7 (c8:GSide),v3++c8.rows_.e1))) (.no))
def T54s1(a1:Int)(qwl:LS)(h30004_0:GNode)(h30004_1:Int):TP (LD×LS):=.rng 6 mS (qwl:LS) <| .cv 0 [.th 5 5 52 3 (eF cGDelta ([]:LD))] <| .lp 0 (fun ((v1,v2,v3):(List ByteArray)×LS×LD)=>⟨[(1,tI a1),(5,.own 5),(12,.ptr 12 0)],[(5,aD v3),(30002,.mp (some ⟨12,kTs (v1:List ByteArray),none⟩) (eM mS (v2:LS)) none),(30004,bOp h30004_0 30002 h30004_1)]⟩) (fun ((b4,b5,b6):(List ByteArray)×LS×LD)=>⟨[(5,.own 5)],[(5,aD b6),(30002,.mp (some ⟨12,kTs (b4:List ByteArray),none⟩) (eM mS (b5:LS)) none),(30004,bOp h30004_0 30002 h30004_1)]⟩) 0 (mkeys qwl,qwl,([]:LD)) (T54s1_L0 a1) fun (b4,b5,b6)=>.cv 1 [.fr 5 (eL cGDelta b6)] <| .ca 0 (G27_ok b6) fun r9=>.cv 1 [.ni 30002] <| .ret 0 (r9,b5)
def G54s1(a1:Int)(qwl:LS)(h30004_0:GNode)(h30004_1:Int):Option (LD×LS):=Det (T54s1 a1 qwl h30004_0 h30004_1)
theorem G54s1_ok(a1:Int)(qwl:LS)(h30004_0:GNode)(h30004_1:Int):ConH Tryz.prog 34 [.ptr 30004 0,tI a1] [(30002,mM (qwl:LS)),(30004,bOp h30004_0 30002 h30004_1)] [30002,30004] (G54s1 a1 qwl h30004_0 h30004_1) (fun (y:LD×LS)=>tD y.1) (fun (y:LD×LS)=>[(30002,mM (y.2:LS)),(30004,bOp h30004_0 30002 h30004_1)]):=conHD Tryz.func34 ti_ok (T54s1 a1 qwl h30004_0 h30004_1)
def T22s1(qwl:LS)(h30004_0:GNode)(h30004_1:Int):TP (ByteArray×LS):=.ca 5 (G51_ok h30004_1) fun r1=>.ch 1 [] (G54s1_ok 0 qwl h30004_0 h30004_1) fun r2=>.ca 0 (G53_ok r2.1) fun r3=>.ca 0 (G52_ok r3) fun r4=>.grd 1 (((r1.size+r4.size:Nat):Int)≤9223372036854775807) <| .ch 1 [] (G54s1_ok 1 r2.2 h30004_0 h30004_1) fun r5=>.ca 0 (G53_ok r5.1) fun r6=>.ca 0 (G52_ok r6) fun r7=>.grd 1 ((((r1++r4).size+r7.size:Nat):Int)≤9223372036854775807) <| .ret 1 ((r1++r4)++r7,r5.2)
def G22s1(qwl:LS)(h30004_0:GNode)(h30004_1:Int):Option (ByteArray×LS):=(T22s1 qwl h30004_0 h30004_1).den
theorem G22s1_ok(qwl:LS)(h30004_0:GNode)(h30004_1:Int):ConH Tryz.prog 8 [.ptr 30004 0] [(30002,mM (qwl:LS)),(30004,bOp h30004_0 30002 h30004_1)] [30002,30004] (G22s1 qwl h30004_0 h30004_1) (fun (y:ByteArray×LS)=>.t (.str (y.1))) (fun (y:ByteArray×LS)=>[(30002,mM (y.2:LS)),(30004,bOp h30004_0 30002 h30004_1)]):=conH Tryz.func8 ti_ok (T22s1 qwl h30004_0 h30004_1)
def T11s0(a1:GAct)(qu0:GNode)(qu1:Int)(qum:LS):TP (LD×LS×Int):=.ite 6 ((bitA .i64 a1.Do 3)==3) (.ch 3 [] (G32s0_ok a1.C qu0 qu1 qum) fun r1=>.cv 1 [.sl 4 (eL cGDelta ([]:LD))] <| .ret 0 (([]:LD),r1.1,r1.2)) (.ch 6 [] (G25s0_ok (bitA .i64 a1.Do 1) a1.L qu0 qu1 qum) fun r2=>.ret 1 (r2.1,r2.2,qu1))
def G11s0(a1:GAct)(qu0:GNode)(qu1:Int)(qum:LS):Option (LD×LS×Int):=(T11s0 a1 qu0 qu1 qum).den
theorem G11s0_ok(a1:GAct)(qu0:GNode)(qu1:Int)(qum:LS):ConH Tryz.prog 9 [.ptr 30000 0,.t (eGAct a1)] [(30000,bOp qu0 30001 qu1),(30001,mM (qum:LS))] [30000,30001] (G11s0 a1 qu0 qu1 qum) (fun (y:LD×LS×Int)=>tD y.1) (fun (y:LD×LS×Int)=>[(30000,bOp qu0 30001 y.2.2),(30001,mM (y.2.1:LS))]):=conH Tryz.func9 ti_ok (T11s0 a1 qu0 qu1 qum)
def T6_L0(a0:GNode)(a1:List (List Int))(a2:List GAct)(a3:Int)(a4:ByteArray)(r1:Bool)(r4:GNode×Int×LS):(((LS)×Int×Int)⊕((LS)×LS×Int×(List Int)×ByteArray×Int×(List Expr)×Int×Int×Int×(List Int)×(List Int)×Int×Int×Int×(List GAgg)×(List GPat)×(List GCol)×Int×Int×Int))→TP ((((LS)×Int×Int)⊕((LS)×LS×Int×(List Int)×ByteArray×Int×(List Expr)×Int×Int×Int×(List Int)×(List Int)×Int×Int×Int×(List GAgg)×(List GPat)×(List GCol)×Int×Int×Int))⊕((Unit)⊕Bool))
 | .inl (v5,v6,v7)=>.ite 4 (decide (v7<(a2.length:Int))) (.ite 3 (v7==a3) (.cv 0 [.rn 39 30000] <| .cv 0 [.rn 18901 30001] <| .dch 2 [.ptr 30000 0] (G22s0_ok r4.1 v6 v5) (fun r29=>some (30001,mM (r29.2:LS))) fun r29=>.dr 0 6 [(5,false,[]),(30000,false,[]),(30001,false,[2])] [1,2,3,4,5,11,12,13,14,43,44,45,46,49,50,51] <| .ch 0 [40000,41001] (G28s0_ok a0 r29.1) fun r30=>.cv 0 [.rn 40000 12560,.rn 41001 20601] <| .jn 8 0 (fun (j31:Bool)=>⟨[(1,.t (eL cL_cInt a1)),(2,.t (eL cGAct a2)),(3,tI a3),(4,.t (.str a4)),(5,.ptr 5 0),(11,tB r1),(12,.ptr 30000 0),(14,tI v7),(15,.ptr 12560 0),(64,tB j31)],[(5,bN a0),(12560,bOp r30.1 20601 r30.2.1),(20601,mM (r30.2.2.1:LS)),(30000,bOp r4.1 30001 v6),(30001,mM (r29.2:LS))]⟩) (.ite 0 (!r30.2.2.2) (.ret 3 true) (.ret 3 false)) fun j31=>.ite 0 j31 (.ret 1 (.inr (.inr false))) (.grd 6 (0≤v7∧v7<(a2.length:Int)) <| .ch 1 [] (G11s0_ok (a2.getD v7.toNat default) r4.1 v6 r29.2) fun r32=>.grd 9 (0≤v7∧v7<(a2.length:Int)) <| .cv 1 [.rn 12560 30002] <| .cv 0 [.rn 20601 30003] <| .cv 0 [.rn 30000 30004,.rn 30002 30000,.rn 30001 30002,.rn 30003 30001] <| .ch 0 [] (G11s0_ok (a2.getD v7.toNat default) r30.1 r30.2.1 r30.2.2.1) fun r33=>.ca 3 (G20_ok r32.1 r33.1) fun r34=>.jn 2 0 (fun ((j35,j36,j37):LS×LS×Bool)=>⟨[(1,.t (eL cL_cInt a1)),(2,.t (eL cGAct a2)),(3,tI a3),(4,.t (.str a4)),(5,.ptr 5 0),(11,tB r1),(12,.ptr 30004 0),(13,.ptr 30000 0),(14,tI v7),(98,tB j37)],[(5,bN a0),(30000,bOp r30.1 30001 r33.2.2),(30001,mM (j35:LS)),(30002,mM (j36:LS)),(30004,bOp r4.1 30002 r32.2.2)]⟩) (.ite 0 (!r34) (.ret 13 (r33.2.1,r32.2.1,true)) (.ch 1 [] (G22s0_ok r30.1 r33.2.2 r33.2.1) fun r38=>.ch 1 [] (G22s1_ok r32.2.1 r4.1 r32.2.2) fun r39=>.ite 3 (!((r38.1:ByteArray).toList==(r39.1:ByteArray).toList)) (.ret 6 (r38.2,r39.2,true)) (.ch 1 [] (G15s0_ok r30.1 r33.2.2 r38.2) fun r40=>.cv 1 [.rn 30000 30003,.rn 30004 30000,.rn 30001 30004,.rn 30002 30001] <| .ch 0 [] (G15s0_ok r4.1 r32.2.2 r39.2) fun r41=>.cv 2 [.rn 30000 50000,.rn 30004 50001,.rn 50000 30004,.rn 30001 30002,.rn 30003 30000,.rn 50001 30001] <| .ret 0 (r40.2,r41.2,r40.1 != r41.1)))) fun (j35,j36,j37)=>.ite 0 j37 (.ret 1 (.inr (.inr false))) (.ret 3 (.inl (.inr (j35,j36,r30.1.Op,r30.1.In,r30.1.Source,r30.1.Schema,r30.1.Exprs,r30.1.Kind,r30.1.Size,r30.1.Step,r30.1.Key,r30.1.Key2,r30.1.Before,r30.1.After,r30.1.Keep,r30.1.Aggs,r30.1.Seq,r30.1.Cols,r33.2.2,r32.2.2,i64.wrap (v7+1))))))) (.grd 4 (0≤v7∧v7<(a2.length:Int)) <| .cv 1 [.rn 39 30000] <| .cv 0 [.rn 18901 30001] <| .ch 0 [] (G11s0_ok (a2.getD v7.toNat default) r4.1 v6 v5) fun r42=>.cv 8 [.rn 30000 39,.rn 30001 18901] <| .ret 0 (.inl (.inl (r42.2.1,r42.2.2,i64.wrap (v7+1)))))) (.ret 0 (.inr (.inl ())))
 | .inr (v8,v9,v10,v11,v12,v13,v14,v15,v16,v17,v18,v19,v20,v21,v22,v23,v24,v25,v26,v27,v28)=>.ite 4 (decide (v28<(a2.length:Int))) (.pc 3 0 (fun ((j43,j44,j45,j46,j47,j48,j49,j50,j51,j52,j53,j54,j55,j56,j57,j58,j59,j60,j61):LS×LS×Int×(List Int)×ByteArray×Int×(List Expr)×Int×Int×Int×(List Int)×(List Int)×Int×Int×Int×(List GAgg)×(List GPat)×(List GCol)×Int)=>⟨[(1,.t (eL cL_cInt a1)),(2,.t (eL cGAct a2)),(3,tI a3),(4,.t (.str a4)),(5,.ptr 5 0),(11,tB r1),(12,.ptr 30004 0),(13,.ptr 12560 0),(14,tI v28)],[(5,bN a0),(12560,.box [tI j45,.t (eL cInt j46),.t (.str j47),tI j48,.t (.lz (.exprs j49)),tI j50,tI j51,tI j52,.t (eL cInt j53),.t (eL cInt j54),tI j55,tI j56,tI j57,.t (eL cGAgg j58),.t (eL cGPat j59),.t (eL cGCol j60),.map 20601,tI j61]),(20601,mM (j43:LS)),(30002,mM (j44:LS)),(30004,bOp r4.1 30002 v27)]⟩) (.ite 0 (v28==a3) (.dch 2 [.ptr 30004 0] (G22s1_ok v9 r4.1 v27) (fun r62=>some (30002,mM (r62.2:LS))) fun r62=>.dr 0 6 [(5,false,[]),(30000,false,[]),(30001,false,[]),(30002,false,[2]),(30004,false,[])] [1,2,3,4,5,11,12,13,14,43,44,45,46,49,50,51] <| .ch 0 [40000,41001] (G28s0_ok a0 r62.1) fun r63=>.cv 0 [.rn 40000 12560,.rn 41001 20601] <| .jn 8 0 (fun (j64:Bool)=>⟨[(1,.t (eL cL_cInt a1)),(2,.t (eL cGAct a2)),(3,tI a3),(4,.t (.str a4)),(5,.ptr 5 0),(11,tB r1),(12,.ptr 30004 0),(14,tI v28),(15,.ptr 12560 0),(64,tB j64)],[(5,bN a0),(12560,bOp r63.1 20601 r63.2.1),(20601,mM (r63.2.2.1:LS)),(30002,mM (r62.2:LS)),(30004,bOp r4.1 30002 v27)]⟩) (.ite 0 (!r63.2.2.2) (.ret 3 true) (.ret 3 false)) fun j64=>.ite 0 j64 (.ret 1 (.inr (.inr (.inr false)))) (.ret 2 (.inl (r63.2.2.1,r62.2,r63.1.Op,r63.1.In,r63.1.Source,r63.1.Schema,r63.1.Exprs,r63.1.Kind,r63.1.Size,r63.1.Step,r63.1.Key,r63.1.Key2,r63.1.Before,r63.1.After,r63.1.Keep,r63.1.Aggs,r63.1.Seq,r63.1.Cols,r63.2.1)))) (.cv 0 [.rn 30000 12560,.rn 30001 20601] <| .ret 0 (.inl (v8,v9,v10,v11,v12,v13,v14,v15,v16,v17,v18,v19,v20,v21,v22,v23,v24,v25,v26)))) fun (j43,j44,j45,j46,j47,j48,j49,j50,j51,j52,j53,j54,j55,j56,j57,j58,j59,j60,j61)=>.grd 4 (0≤v28∧v28<(a2.length:Int)) <| .cv 1 [.rn 30004 30000,.rn 30002 30001] <| .ch 0 [] (G11s0_ok (a2.getD v28.toNat default) r4.1 v27 j44) fun r65=>.grd 9 (0≤v28∧v28<(a2.length:Int)) <| .cv 1 [.rn 12560 30002] <| .cv 0 [.rn 20601 30003] <| .cv 0 [.rn 30000 30004,.rn 30002 30000,.rn 30001 30002,.rn 30003 30001] <| .ch 0 [] (G11s0_ok (a2.getD v28.toNat default) (GNode.mk j45 j46 j47 j48 j49 j50 j51 j52 j53 j54 j55 j56 j57 j58 j59 j60) j61 j43) fun r66=>.ca 3 (G20_ok r65.1 r66.1) fun r67=>.jn 2 0 (fun ((j68,j69,j70):LS×LS×Bool)=>⟨[(1,.t (eL cL_cInt a1)),(2,.t (eL cGAct a2)),(3,tI a3),(4,.t (.str a4)),(5,.ptr 5 0),(11,tB r1),(12,.ptr 30004 0),(13,.ptr 30000 0),(14,tI v28),(98,tB j70)],[(5,bN a0),(30000,.box [tI j45,.t (eL cInt j46),.t (.str j47),tI j48,.t (.lz (.exprs j49)),tI j50,tI j51,tI j52,.t (eL cInt j53),.t (eL cInt j54),tI j55,tI j56,tI j57,.t (eL cGAgg j58),.t (eL cGPat j59),.t (eL cGCol j60),.map 30001,tI r66.2.2]),(30001,mM (j68:LS)),(30002,mM (j69:LS)),(30004,bOp r4.1 30002 r65.2.2)]⟩) (.ite 0 (!r67) (.ret 13 (r66.2.1,r65.2.1,true)) (.ch 1 [] (G22s0_ok (GNode.mk j45 j46 j47 j48 j49 j50 j51 j52 j53 j54 j55 j56 j57 j58 j59 j60) r66.2.2 r66.2.1) fun r71=>.ch 1 [] (G22s1_ok r65.2.1 r4.1 r65.2.2) fun r72=>.ite 3 (!((r71.1:ByteArray).toList==(r72.1:ByteArray).toList)) (.ret 6 (r71.2,r72.2,true)) (.ch 1 [] (G15s0_ok (GNode.mk j45 j46 j47 j48 j49 j50 j51 j52 j53 j54 j55 j56 j57 j58 j59 j60) r66.2.2 r71.2) fun r73=>.cv 1 [.rn 30000 30003,.rn 30004 30000,.rn 30001 30004,.rn 30002 30001] <| .ch 0 [] (G15s0_ok r4.1 r65.2.2 r72.2) fun r74=>.cv 2 [.rn 30000 50000,.rn 30004 50001,.rn 50000 30004,.rn 30001 30002,.rn 30003 30000,.rn 50001 30001] <| .ret 0 (r73.2,r74.2,r73.1 != r74.1)))) fun (j68,j69,j70)=>.ite 0 j70 (.ret 1 (.inr (.inr false))) (.ret 3 (.inl (.inr (j68,j69,j45,j46,j47,j48,j49,j50,j51,j52,j53,j54,j55,j56,j57,j58,j59,j60,r66.2.2,r65.2.2,i64.wrap (v28+1)))))) (.ret 0 (.inr (.inl ())))
def T6_L2(a1:List (List Int))(r1:Bool)(r79:GOp)(v80:Int):Int→TP ((Int)⊕((Unit)⊕((Int)⊕((Unit)⊕Bool))))
 | v81=>.grd 7 (0≤v80∧v80<(r79.L.length:Int)) <| .ite 3 (decide (v81<((r79.L.getD v80.toNat default).length:Int))) (.grd 6 (0≤v80∧v80<(r79.L.length:Int)) <| .grd 3 (0≤v81∧v81<((r79.L.getD v80.toNat default).length:Int)) <| .dg 4 (0≤v80∧v80<(a1.length:Int)) <| .dc 6 [.t (.sl 1 (arrOf [.int .i64 (((r79.L.getD v80.toNat default).getD v81.toNat default).Time),eL cGValue (((r79.L.getD v80.toNat default).getD v81.toNat default).Row),.int .i64 1] 3)),.t (eL cInt (a1.getD v80.toNat default)),tI 1] (G30_ok ([(GDelta.mk (((r79.L.getD v80.toNat default).getD v81.toNat default).Time) (((r79.L.getD v80.toNat default).getD v81.toNat default).Row) 1)]:LD) (a1.getD v80.toNat default) 1) fun r82=>.dr 5 0 [(5,false,[]),(23,false,[]),(13020,false,[])] [1,4,5,11,19,20,21,22,23,110,111,112,113,114,115,116,117,118,119,122,123,124,125,126,127,128,129,130,131,132] <| .ite 0 (!r82) (.ret 2 (.inr (.inr (.inr (.inr r1))))) (.ret 3 (.inl (i64.wrap (v81+1))))) (.ret 0 (.inr (.inl ())))
def T6_L1(a0:GNode)(a1:List (List Int))(a4:ByteArray)(r1:Bool)(r79:GOp):Int→TP ((Int)⊕((Unit)⊕Bool))
 | v80=>.ite 2 (decide (v80<2)) (.lp 1 (fun (v81:Int)=>⟨[(1,.t (eL cL_cInt a1)),(4,.t (.str a4)),(5,.ptr 5 0),(11,tB r1),(19,.ptr 13020 0),(20,tB true),(21,tI v80),(22,tI v81)],[(5,bN a0),(13020,.box ((cGOp r79).map .t))]⟩) (fun (_:Unit)=>⟨[(1,.t (eL cL_cInt a1)),(4,.t (.str a4)),(5,.ptr 5 0),(11,tB r1),(19,.ptr 13020 0),(20,tB true),(21,tI v80)],[(5,bN a0),(13020,.box ((cGOp r79).map .t))]⟩) 4 0 (T6_L2 a1 r1 r79 v80) fun _=>.ret 3 (.inl (i64.wrap (v80+1)))) (.ret 0 (.inr (.inl ())))
def T6(a0:GNode)(a1:List (List Int))(a2:List GAct)(a3:Int)(a4:ByteArray):TP Bool:=.ca 2 G7_ok fun r1=>.ca 4 (G8_ok a0 a1 a2 25) fun r2=>.jn 2 0 (fun (j3:Bool)=>⟨[(1,.t (eL cL_cInt a1)),(2,.t (eL cGAct a2)),(3,tI a3),(4,.t (.str a4)),(5,.ptr 5 0),(11,tB r1),(36,tB j3)],[(5,bN a0)]⟩) (.ite 0 (!r2) (.ret 4 true) (.ret 4 (decide (((a4:ByteArray).size:Int)>600)))) fun j3=>.ite 0 j3 (.ret 2 r1) (.ch 1 [40000,41001] (G9s0_ok a0) fun r4=>.cv 0 [.rn 40000 39,.rn 41001 18901] <| .lp 7 (sel (fun ((v5,v6,v7):LS×Int×Int)=>⟨[(1,.t (eL cL_cInt a1)),(2,.t (eL cGAct a2)),(3,tI a3),(4,.t (.str a4)),(5,.ptr 5 0),(11,tB r1),(12,.ptr 39 0),(13,.ptr 39 0),(14,tI v7)],[(5,bN a0),(39,bOp r4.1 18901 v6),(18901,mM (v5:LS))]⟩) (fun ((v8,v9,v10,v11,v12,v13,v14,v15,v16,v17,v18,v19,v20,v21,v22,v23,v24,v25,v26,v27,v28):LS×LS×Int×(List Int)×ByteArray×Int×(List Expr)×Int×Int×Int×(List Int)×(List Int)×Int×Int×Int×(List GAgg)×(List GPat)×(List GCol)×Int×Int×Int)=>⟨[(1,.t (eL cL_cInt a1)),(2,.t (eL cGAct a2)),(3,tI a3),(4,.t (.str a4)),(5,.ptr 5 0),(11,tB r1),(12,.ptr 30004 0),(13,.ptr 30000 0),(14,tI v28)],[(5,bN a0),(30000,.box [tI v10,.t (eL cInt v11),.t (.str v12),tI v13,.t (.lz (.exprs v14)),tI v15,tI v16,tI v17,.t (eL cInt v18),.t (eL cInt v19),tI v20,tI v21,tI v22,.t (eL cGAgg v23),.t (eL cGPat v24),.t (eL cGCol v25),.map 30001,tI v26]),(30001,mM (v8:LS)),(30002,mM (v9:LS)),(30004,bOp r4.1 30002 v27)]⟩)) (fun (_:Unit)=>⟨[(1,.t (eL cL_cInt a1)),(4,.t (.str a4)),(5,.ptr 5 0),(11,tB r1)],[(5,bN a0)]⟩) 0 (.inl (r4.2.2,r4.2.1,0)) (T6_L0 a0 a1 a2 a3 a4 r1 r4) fun _=>.ch 2 [40000] (G29s0_ok a0 a4) (sel (fun r75=>.ite 9 (!false) (.ret 2 r1) (.ch 2 [40000,41001] (G28s0_ok a0 a4) fun r76=>.cv 0 [.rn 40000 13480,.rn 41001 29801] <| .jn 7 0 (fun (j77:Bool)=>⟨[(10,tB j77)],[]⟩) (.ite 0 r1 (.ite 3 (r76.2.2.2) (.cv 5 [.rn 13480 30000] <| .cv 0 [.rn 29801 30001] <| .ch 0 [] (G22s0_ok r76.1 r76.2.1 r76.2.2.1) fun r78=>.ret 4 ((r78.1:ByteArray).toList==(a4:ByteArray).toList)) (.ret 10 false)) (.ret 13 false)) fun j77=>.ret 0 j77)) (fun r79=>.cv 0 [.rn 40000 13020] <| .lp 8 (fun (v80:Int)=>⟨[(1,.t (eL cL_cInt a1)),(4,.t (.str a4)),(5,.ptr 5 0),(11,tB r1),(19,.ptr 13020 0),(20,tB true),(21,tI v80)],[(5,bN a0),(13020,.box ((cGOp r79).map .t))]⟩) (fun (_:Unit)=>⟨[(4,.t (.str a4)),(5,.ptr 5 0),(11,tB r1),(20,tB true)],[(5,bN a0)]⟩) 2 0 (T6_L1 a0 a1 a4 r1 r79) fun _=>.ite 2 (!true) (.ret 2 r1) (.ch 2 [40000,41001] (G28s0_ok a0 a4) fun r83=>.cv 0 [.rn 40000 13480,.rn 41001 29801] <| .jn 7 0 (fun (j84:Bool)=>⟨[(10,tB j84)],[]⟩) (.ite 0 r1 (.ite 3 (r83.2.2.2) (.cv 5 [.rn 13480 30000] <| .cv 0 [.rn 29801 30001] <| .ch 0 [] (G22s0_ok r83.1 r83.2.1 r83.2.2.1) fun r85=>.ret 4 ((r85.1:ByteArray).toList==(a4:ByteArray).toList)) (.ret 10 false)) (.ret 13 false)) fun j84=>.ret 0 j84))))
def G6(a0:GNode)(a1:List (List Int))(a2:List GAct)(a3:Int)(a4:ByteArray):Option Bool:=(T6 a0 a1 a2 a3 a4).den
theorem G6_ok(a0:GNode)(a1:List (List Int))(a2:List GAct)(a3:Int)(a4:ByteArray):Con Tryz.prog 3 [.t (eGNode a0),.t (eL cL_cInt a1),.t (eL cGAct a2),tI a3,.t (.str a4)] (G6 a0 a1 a2 a3 a4) tB:=con Tryz.func3 ti_ok (T6 a0 a1 a2 a3 a4)
end
end Go.PL
namespace Go.PL
open Go
def Sq{α:Type}(b:Bool)(x:Option α)(Q:α→Prop):Prop:=(∀ y,x=some y→Q y)∧(b=true→x.isSome=true)
abbrev Sp {α:Type}(x:Option α)(Q:α→Prop):Prop:=Sq true x Q
section
variable {α β:Type} {b:Bool}
theorem sq_some{y:α}{Q:α→Prop}:Sq b (some y) Q↔Q y:=⟨fun h=>h.1 y rfl,fun h=>⟨fun z hz=>by cases hz; exact h,fun _=>rfl⟩⟩
theorem sq_none{Q:α→Prop}:Sq b (none:Option α) Q↔b=false:=⟨fun h=>by cases b with | false=>rfl | true=>exact absurd (h.2 rfl) (by simp),fun h=>⟨fun _ hz=>(by cases hz),fun hb=>(by rw[h]at hb; cases hb)⟩⟩
theorem sq_bind{x:Option α}{f:α→Option β}{Q:β→Prop}:Sq b (x.bind f) Q↔Sq b x (fun r=>Sq b (f r) Q):=by
 cases x with
 | none=>exact sq_none.trans sq_none.symm
 | some r=>exact(sq_some (Q:=fun r=>Sq b (f r) Q)).symm
theorem sq_grd{c:Prop}[Decidable c]{x:Option α}{Q:α→Prop}(hc:c)(h:Sq b x Q):Sq b (if c then x else none) Q:=by rw[if_pos hc]; exact h
theorem Sq.imp{x:Option α}{P Q:α→Prop}(h:Sq b x P)(hq:∀ y,P y→Q y):Sq b x Q:=⟨fun y hy=>hq y (h.1 y hy),h.2⟩
theorem Sq.of_eq{x:Option α}{y:α}{Q:α→Prop}(h:x=some y)(hq:Q y):Sq b x Q:=by rw[h]; exact sq_some.2 hq
theorem Sp.get{x:Option α}{Q:α→Prop}(h:Sp x Q):∃ y,x=some y∧Q y:=by
 obtain⟨y,hy⟩:=Option.isSome_iff_exists.1 (h.2 rfl)
 exact⟨y,hy,h.1 y hy⟩
theorem Sp.of{x:Option α}{Q:α→Prop}(h:∃ y,x=some y∧Q y):Sq b x Q:=by obtain⟨y,h1,h2⟩:=h; exact .of_eq h1 h2
theorem Sp.eq{x:Option α}{y:α}(h:Sp x (fun z=>z=y)):x=some y:=by obtain⟨z,h1,rfl⟩:=h.get; exact h1
theorem Sq.bind{x:Option α}{f:α→Option β}{Q:β→Prop}(P:α→Prop)(h:Sq b x P)(h':∀ y,P y→Sq b (f y) Q):Sq b (x.bind f) Q:=sq_bind.2 (h.imp h')
theorem sq_iteB{c:Bool}{x y:Option α}{Q:α→Prop}(h:c=true→Sq b x Q)(h':c=false→Sq b y Q):Sq b (if c=true then x else y) Q:=by
 cases c with
 | true=>exact h rfl
 | false=>exact h' rfl
end
theorem bneF{a b:Int}(h:a=b):¬ ((a != b)=true):=by simp[h]
theorem bneT{a b:Int}(h:a≠b):(a != b)=true:=by simpa using h
theorem beqF{a b:Int}(h:a≠b):¬ ((a==b)=true):=by simpa using h
theorem beqT{a b:Int}(h:a=b):(a==b)=true:=by simpa using h
theorem decF{p:Prop}[Decidable p](h:¬ p):¬ (decide p=true):=by simpa using h
theorem decT{p:Prop}[Decidable p](h:p):decide p=true:=by simpa using h
section
variable {S R:Type} {b:Bool} {bd:S→Option (S⊕R)}
theorem Sq.while(I:S→Prop)(μ:S→Nat){Q:R→Prop}(h:∀ s,I s→Sq b (bd s) (sel (fun s'=>I s'∧μ s' < μ s) Q)){s:S}(hs:I s):Sq b (whileM bd s) Q:=by
 have:∀ (k:Nat) (s:S),μ s≤k→I s→Sq b (whileM bd s) Q:=by
  intro k
  induction k with
  | zero=>
   intro s hk hs
   have h1:=h s hs
   rw[whileM_eq]
   cases hb:bd s with
   | none=>rw[hb]at h1; exact sq_none.2 (sq_none.1 h1)
   | some z=>
    rw[hb]at h1
    have h2:=sq_some.1 h1
    cases z with
    | inl s'=>exact absurd h2.2 (by omega)
    | inr r=>exact sq_some.2 h2
  | succ k ih=>
   intro s hk hs
   have h1:=h s hs
   rw[whileM_eq]
   cases hb:bd s with
   | none=>rw[hb]at h1; exact sq_none.2 (sq_none.1 h1)
   | some z=>
    rw[hb]at h1
    have h2:=sq_some.1 h1
    cases z with
    | inl s'=>exact ih s' (by have:=h2.2; omega) h2.1
    | inr r=>exact sq_some.2 h2
 exact this (μ s) s (Nat.le_refl _) hs
theorem while_trace(f:Nat→S)(n:Nat){r:R}(h:∀ i,i<n→bd (f i)=some (.inl (f (i+1))))(h':bd (f n)=some (.inr r)):whileM bd (f 0)=some r:=by
 have:∀ k,k≤n→whileM bd (f (n-k))=some r:=by
  intro k
  induction k with
  | zero=>intro _; exact whileM_stop h'
  | succ k ih=>
   intro hk
   rw[whileM_next (h (n-(k+1)) (by omega)),show n-(k+1)+1=n-k by omega]
   exact ih (by omega)
 simpa using this n (Nat.le_refl n)
theorem LoopT_ind{t:S→(S⊕R→Prop)→Prop}(ht:∀ s {Q Q':S⊕R→Prop},(∀ z,Q z→Q' z)→t s Q→t s Q')(I:S→Prop)(μ:S→Nat){Q:R→Prop}(h:∀ s,I s→t s (sel (fun s'=>I s'∧μ s' < μ s) Q)){s:S}(hs:I s):Tr.LoopT t Q s:=by
 intro X hX
 have:∀ (k:Nat) (s:S),μ s≤k→I s→X s:=by
  intro k
  induction k with
  | zero=>
   intro s hk hs
   refine hX s (ht s (fun z hz=>?_) (h s hs))
   cases z with
   | inl s'=>exact absurd hz.2 (by omega)
   | inr r=>exact hz
  | succ k ih=>
   intro s hk hs
   refine hX s (ht s (fun z hz=>?_) (h s hs))
   cases z with
   | inl s'=>exact ih s' (by have:=hz.2; omega) hz.1
   | inr r=>exact hz
 exact this (μ s) s (Nat.le_refl _) hs
end
section
variable {P:Program} {A R:Type}
theorem fixN_sq{C:A→Option R→Prop}(c0:∀ a,C a none)(B:{f:A→Option R // ∀ a,C a (f a)}→A→Tr P R)(ok:∀ f a,C a (B f a).den)(I:A→Prop)(μ:A→Nat)(Q:A→R→Prop)
  (h:∀ b f a,I a→(∀ a',I a'→μ a' < μ a→Sq b (f.1 a') (Q a'))→Sq b (B f a).den (Q a)):∀ n a,I a→Sq (decide (μ a<n)) ((fixN c0 B ok n).1 a) (Q a):=by
 intro n
 induction n with
 | zero=>intro a ha; exact⟨fun y hy=>(by cases hy),fun hb=>by simp at hb⟩
 | succ n ih=>
  intro a ha
  refine h _ _ a ha fun a' ha' hm=>?_
  have h1:=ih a' ha'
  exact⟨h1.1,fun hb=>h1.2 (by simp at hb ⊢; omega)⟩
theorem fixF_sq{C:A→Option R→Prop}(c0:∀ a,C a none)(B:{f:A→Option R // ∀ a,C a (f a)}→A→Tr P R)(ok:∀ f a,C a (B f a).den)(I:A→Prop)(μ:A→Nat)(Q:A→R→Prop)
  (h:∀ b f a,I a→(∀ a',I a'→μ a' < μ a→Sq b (f.1 a') (Q a'))→Sq b (B f a).den (Q a))(b:Bool)(a:A)(ha:I a):Sq b (fixF c0 B ok a) (Q a):=by
 have h1:=fixN_sq c0 B ok I μ Q h
 unfold fixF Lim
 split
 ·rename_i hh
  obtain⟨n,hn⟩:=hh.choose_spec
  exact sq_some.2 ((h1 n a ha).1 _ hn)
 ·rename_i hh
  exfalso
  have h2:=h1 (μ a+1) a ha
  obtain⟨y,hy⟩:=Option.isSome_iff_exists.1 (h2.2 (by simp))
  exact hh ⟨y,_,hy⟩
end
theorem wrap_def(n:Int):IntKind.i64.wrap n=(n+9223372036854775808) % 18446744073709551616-9223372036854775808:=by
 simp only[IntKind.wrap,IntKind.bits,IntKind.signed]
 simp
 omega
theorem wrap_id{n:Int}(h1:-9223372036854775808≤n)(h2:n≤9223372036854775807):IntKind.i64.wrap n=n:=by
 rw[wrap_def]; omega
theorem wrap_in(n:Int):-9223372036854775808≤IntKind.i64.wrap n∧IntKind.i64.wrap n≤9223372036854775807:=by
 rw[wrap_def]; omega
theorem wrap_wrap(n:Int):IntKind.i64.wrap (IntKind.i64.wrap n)=IntKind.i64.wrap n:=wrap_id (wrap_in n).1 (wrap_in n).2
theorem wrap_addL(a c:Int):IntKind.i64.wrap (IntKind.i64.wrap a+c)=IntKind.i64.wrap (a+c):=by simp only[wrap_def]; omega
theorem wrap_addR(a c:Int):IntKind.i64.wrap (a+IntKind.i64.wrap c)=IntKind.i64.wrap (a+c):=by simp only[wrap_def]; omega
theorem wrap_nat{n:Nat}(h:n≤9223372036854775807):IntKind.i64.wrap (n:Int)=n:=wrap_id (by omega) (by omega)
theorem wrap_inc{n:Nat}(h:n<9223372036854775807):IntKind.i64.wrap ((n:Int)+1)=((n+1:Nat):Int):=by rw[wrap_id] <;> omega
theorem wrap_dec{n:Nat}(h:n<9223372036854775807):IntKind.i64.wrap (((n+1:Nat):Int)-1)=(n:Int):=by rw[wrap_id] <;> omega
theorem wrap_sub{n m:Nat}(h:m≤n)(hn:n≤9223372036854775807):IntKind.i64.wrap ((n:Int)-(m:Int))=((n-m:Nat):Int):=by rw[wrap_id] <;> omega
theorem wrap_add{n m:Nat}(h:n+m≤9223372036854775807):IntKind.i64.wrap ((n:Int)+(m:Int))=((n+m:Nat):Int):=by rw[wrap_id] <;> omega
theorem uwrap_id{n:Int}(h1:0≤n)(h2:n≤9223372036854775807):IntKind.u64.wrap n=n:=by
 simp only[IntKind.wrap,IntKind.bits,IntKind.signed]
 simp
 omega
theorem mid_eq{i j:Nat}(h:i+j≤9223372036854775807):IntKind.i64.wrap (shrI .u64 (IntKind.u64.wrap (IntKind.i64.wrap ((i:Int)+(j:Int)))) 1)=(((i+j) / 2:Nat):Int):=by
 rw[wrap_add h,uwrap_id (by omega) (by omega)]
 have:shrI .u64 (((i+j:Nat):Int)) 1=(((i+j) / 2:Nat):Int):=by
  simp only[shrI,IntKind.bits]
  rw[Int.fdiv_eq_ediv_of_nonneg _ (by decide)]
  simp
 rw[this,wrap_nat (by omega)]
section
variable {α:Type} [Inhabited α]
theorem getD_app(l r:List α)(k:Nat):(l++r).getD k default=if k<l.length then l.getD k default else r.getD (k-l.length) default:=by
 simp only[List.getD_eq_getElem?_getD,List.getElem?_append]
 split <;> rfl
theorem getD_lt{l:List α}{k:Nat}(h:k<l.length):l.getD k default=l[k]:=by simp[List.getD_eq_getElem?_getD,h]
theorem getD_mem{l:List α}{k:Nat}(h:k<l.length):l.getD k default∈l:=by rw[getD_lt h]; exact List.getElem_mem h
theorem getD_arr(l:List α)(k:Nat):l.toArray[k]! = l.getD k default:=by simp[List.getD_eq_getElem?_getD,getElem!_def]; cases l[k]? <;> rfl
theorem ext_getD{l r:List α}(h:l.length=r.length)(h':∀ k,k<l.length→l.getD k default=r.getD k default):l=r:=by
 apply List.ext_getElem h
 intro k h1 h2
 have:=h' k h1
 rwa [getD_lt h1,getD_lt h2]at this
theorem take_succ_getD{l:List α}{k:Nat}(h:k<l.length):l.take (k+1)=l.take k++[l.getD k default]:=by
 rw[getD_lt h,List.take_succ_eq_append_getElem h]
theorem drop_getD{l:List α}{k:Nat}(h:k<l.length):l.drop k=l.getD k default::l.drop (k+1):=by
 rw[getD_lt h,List.drop_eq_getElem_cons h]
theorem getD_set(l:List α)(i k:Nat)(x:α):(l.set i x).getD k default=if k=i∧i<l.length then x else l.getD k default:=by
 simp only[List.getD_eq_getElem?_getD,List.getElem?_set]
 by_cases h1:i=k
 ·subst h1
  by_cases h2:i<l.length <;> simp[h2]
 ·rw[if_neg h1,if_neg (by omega)]
def swpL(l:List α)(i j:Nat):List α:=(l.set i (l.getD j default)).set j (l.getD i default)
theorem swpL_arr(l:List α)(i j:Nat):(swpL l i j).toArray=Sort.swp l.toArray i j:=by
 unfold swpL Sort.swp
 rw[getD_arr,getD_arr,List.setIfInBounds_toArray,List.setIfInBounds_toArray]
theorem swpL_len(l:List α)(i j:Nat):(swpL l i j).length=l.length:=by simp[swpL]
theorem swpL_mid(p:List α)(x:α)(m:List α)(y:α)(q:List α):swpL (p++x::(m++y::q)) p.length (p.length+1+m.length)=p++y::(m++x::q):=by
 have e1:(p++x::(m++y::q)).getD p.length default=x:=by rw[getD_app,if_neg (by omega)]; simp
 have e2:(p++x::(m++y::q)).getD (p.length+1+m.length) default=y:=by
  rw[getD_app,if_neg (by omega),show p.length+1+m.length-p.length=m.length+1 by omega,List.getD_cons_succ,getD_app,if_neg (by omega)]
  simp
 unfold swpL
 rw[e1,e2]
 rw[List.set_append_right _ _ (by omega)]
 simp only[Nat.sub_self,List.set_cons_zero]
 rw[List.set_append_right _ _ (by omega),show p.length+1+m.length-p.length=m.length+1 by omega,List.set_cons_succ,List.set_append_right _ _ (by omega)]
 simp
theorem swpL_mid'(p:List α)(x:α)(m:List α)(y:α)(q:List α):swpL (p++x::(m++y::q)) (p.length+1+m.length) p.length=p++y::(m++x::q):=by
 rw[←swpL_mid p x m y q]
 apply ext_getD
 ·simp[swpL]
 ·intro k hk
  simp only[swpL,getD_set,List.length_set]
  have h1:p.length<(p++x::(m++y::q)).length:=by simp only[List.length_append,List.length_cons]; omega
  have h2:p.length+1+m.length<(p++x::(m++y::q)).length:=by simp only[List.length_append,List.length_cons]; omega
  by_cases h3:k=p.length
  ·rw[if_pos ⟨h3,h1⟩,if_neg (by omega),if_pos ⟨h3,h1⟩]
  ·by_cases h4:k=p.length+1+m.length
   ·rw[if_neg (by omega),if_pos ⟨h4,h2⟩,if_pos ⟨h4,h2⟩]
   ·rw[if_neg (by omega),if_neg (by omega),if_neg (by omega),if_neg (by omega)]
theorem swpL_perm(l:List α){i j:Nat}(hi:i<l.length)(hj:j<l.length):(swpL l i j).Perm l:=by
 unfold swpL
 rw[getD_lt hi,getD_lt hj]
 exact Sort.perm_set_set l i j hi hj
end
structure TO {α:Type}(c:α→α→Int):Prop where
 eq:∀ a b,c a b=0↔a=b
 sw:∀ a b,c a b<0↔0<c b a
 tr:∀ a b d,c a b<0→c b d<0→c a d<0
def cmpI(a b:Int):Int:=if a<b then -1 else if b<a then 1 else 0
theorem TO.int:TO cmpI:=by
 constructor
 ·intro a b; unfold cmpI; split <;> (try split) <;> omega
 ·intro a b; unfold cmpI; split <;> (try split) <;> (try split) <;> omega
 ·intro a b d; unfold cmpI; split <;> (try split) <;> (try split) <;> (try split) <;> (try split) <;> omega
def thenC(a b:Int):Int:=if a=0 then b else a
theorem TO.lex{α β γ:Type}{c:β→β→Int}{d:γ→γ→Int}(hc:TO c)(hd:TO d){f:α→β}{g:α→γ}(inj:∀ x y,f x=f y→g x=g y→x=y):TO (fun x y=>thenC (c (f x) (f y)) (d (g x) (g y))):=by
 constructor
 ·intro x y
  unfold thenC
  constructor
  ·intro h
   split at h
   ·rename_i h1; exact inj x y ((hc.eq _ _).1 h1) ((hd.eq _ _).1 h)
   ·rename_i h1; exact absurd h h1
  ·rintro rfl
   rw[if_pos ((hc.eq _ _).2 rfl)]; exact(hd.eq _ _).2 rfl
 ·intro x y
  unfold thenC
  by_cases h1:c (f x) (f y)=0
  ·have h2:=(hc.eq _ _).1 h1
   rw[if_pos h1,if_pos ((hc.eq _ _).2 h2.symm)]
   exact hd.sw _ _
  ·rw[if_neg h1,if_neg (fun h=>h1 ((hc.eq _ _).2 ((hc.eq _ _).1 h).symm))]
   exact hc.sw _ _
 ·intro x y z
  unfold thenC
  by_cases h1:c (f x) (f y)=0
  ·have h2:=(hc.eq _ _).1 h1
   rw[if_pos h1,h2]
   by_cases h3:c (f y) (f z)=0
   ·rw[if_pos h3,if_pos h3]; exact hd.tr _ _ _
   ·rw[if_neg h3,if_neg h3]; exact fun _ h=>h
  ·rw[if_neg h1]
   by_cases h3:c (f y) (f z)=0
   ·have h4:=(hc.eq _ _).1 h3
    rw[if_pos h3,←h4,if_neg h1]; exact fun h _=>h
   ·rw[if_neg h3]
    intro h5 h6
    have h7:=hc.tr _ _ _ h5 h6
    rw[if_neg (by omega)]; exact h7
def cmpL{α:Type}(c:α→α→Int):List α→List α→Int
 | [],[]=>0
 | [],_::_=>-1
 | _::_,[]=>1
 | a::l,b::r=>thenC (c a b) (cmpL c l r)
theorem TO.list{α:Type}{c:α→α→Int}(hc:TO c):TO (cmpL c):=by
 constructor
 ·intro l
  induction l with
  | nil=>intro r; cases r <;> simp[cmpL]
  | cons a l ih=>
   intro r
   cases r with
   | nil=>simp[cmpL]
   | cons b r=>
    simp only[cmpL,thenC]
    constructor
    ·intro h
     split at h
     ·rename_i h1; rw[(hc.eq _ _).1 h1,(ih r).1 h]
     ·rename_i h1; exact absurd h h1
    ·intro h
     injection h with h1 h2
     rw[if_pos ((hc.eq _ _).2 h1)]; exact(ih r).2 h2
 ·intro l
  induction l with
  | nil=>intro r; cases r <;> simp[cmpL]
  | cons a l ih=>
   intro r
   cases r with
   | nil=>simp[cmpL]
   | cons b r=>
    simp only[cmpL,thenC]
    by_cases h1:c a b=0
    ·have h2:=(hc.eq _ _).1 h1
     rw[if_pos h1,if_pos ((hc.eq _ _).2 h2.symm)]; exact ih r
    ·rw[if_neg h1,if_neg (fun h=>h1 ((hc.eq _ _).2 ((hc.eq _ _).1 h).symm))]; exact hc.sw _ _
 ·intro l
  induction l with
  | nil=>intro r s; cases r <;> cases s <;> simp[cmpL]
  | cons a l ih=>
   intro r s
   cases r with
   | nil=>simp[cmpL]
   | cons b r=>
    cases s with
    | nil=>simp[cmpL]
    | cons d s=>
     simp only[cmpL,thenC]
     by_cases h1:c a b=0
     ·have h2:=(hc.eq _ _).1 h1
      rw[if_pos h1,h2]
      by_cases h3:c b d=0
      ·rw[if_pos h3,if_pos h3]; exact ih r s
      ·rw[if_neg h3,if_neg h3]; exact fun _ h=>h
     ·rw[if_neg h1]
      by_cases h3:c b d=0
      ·have h4:=(hc.eq _ _).1 h3
       rw[if_pos h3,←h4,if_neg h1]; exact fun h _=>h
      ·rw[if_neg h3]
       intro h5 h6
       have h7:=hc.tr _ _ _ h5 h6
       rw[if_neg (by omega)]; exact h7
theorem cmpB_eq:∀ (a b:List UInt8),Lib.compareBytes a b=cmpL (fun x y:UInt8=>cmpI (x.toNat:Int) (y.toNat:Int)) a b
 | [],[]=>rfl
 | [],_::_=>rfl
 | _::_,[]=>rfl
 | a::l,b::m=>by
  rw[Lib.compareBytes,cmpL,cmpB_eq l m]
  have e1:(a<b)↔((a.toNat:Int)<(b.toNat:Int)):=by rw[UInt8.lt_iff_toNat_lt]; omega
  have e2:(b<a)↔((b.toNat:Int)<(a.toNat:Int)):=by rw[UInt8.lt_iff_toNat_lt]; omega
  generalize cmpL (fun x y:UInt8=>cmpI (x.toNat:Int) (y.toNat:Int)) l m=r
  show _=thenC (if (a.toNat:Int)<(b.toNat:Int) then -1 else if (b.toNat:Int)<(a.toNat:Int) then 1 else 0) r
  by_cases h1:(a.toNat:Int)<b.toNat
  ·rw[if_pos (e1.2 h1),if_pos h1]; rfl
  ·rw[if_neg (fun h=>h1 (e1.1 h)),if_neg h1]
   by_cases h2:(b.toNat:Int)<a.toNat
   ·rw[if_pos (e2.2 h2),if_pos h2]; rfl
   ·rw[if_neg (fun h=>h2 (e2.1 h)),if_neg h2]; rfl
theorem TO.u8:TO (fun x y:UInt8=>cmpI (x.toNat:Int) (y.toNat:Int)):=by
 constructor
 ·intro a b
  rw[TO.int.eq]
  exact⟨fun h=>UInt8.toNat_inj.1 (by omega),fun h=>by rw[h]⟩
 ·intro a b; exact TO.int.sw _ _
 ·intro a b d; exact TO.int.tr _ _ _
def cmpS(a b:ByteArray):Int:=Lib.compareBytes a.data.toList b.data.toList
theorem TO.str:TO cmpS:=by
 have h:=TO.list TO.u8
 unfold cmpS
 constructor
 ·intro a b
  rw[cmpB_eq,h.eq]
  constructor
  ·intro h; cases a; cases b; simp at h; simp[h]
  ·rintro rfl; rfl
 ·intro a b; rw[cmpB_eq,cmpB_eq]; exact h.sw _ _
 ·intro a b d; rw[cmpB_eq,cmpB_eq,cmpB_eq]; exact h.tr _ _ _
def cmpV(a b:GValue):Int:=thenC (cmpI a.Kind b.Kind) (thenC (cmpI a.N b.N) (cmpS a.S b.S))
abbrev cmpR:List GValue→List GValue→Int:=cmpL cmpV
def cmpD(a b:GDelta):Int:=thenC (cmpI a.Time b.Time) (cmpR a.Row b.Row)
theorem TO.val:TO cmpV:=by
 have h:=TO.lex (f:=fun x:ByteArray×Int=>x.2) (g:=fun x=>x.1) TO.int TO.str (fun x y h1 h2=>Prod.ext h2 h1)
 exact TO.lex (f:=fun x:GValue=>x.Kind) (g:=fun x=>(x.S,x.N)) TO.int h (fun x y h1 h2=>by cases x; cases y; simp_all)
theorem TO.row:TO cmpR:=TO.val.list
def pl(d:GDelta):Int×List GValue:=(d.Time,d.Row)
def cmpP(a b:Int×List GValue):Int:=thenC (cmpI a.1 b.1) (cmpR a.2 b.2)
theorem TO.place:TO cmpP:=TO.lex (f:=fun x:Int×List GValue=>x.1) (g:=fun x=>x.2) TO.int TO.row (fun _ _ h1 h2=>Prod.ext h1 h2)
theorem cmpD_eq(a b:GDelta):cmpD a b=cmpP (pl a) (pl b):=rfl
theorem thenC_zero(a:Int):thenC a 0=a:=by unfold thenC; split <;> simp_all
theorem G173_eq(a:Int):G173 a=some false:=by unfold G173 T173; simp[Tr.den]
theorem G131_eq(a b:Int):G131 a b=some (cmpI a b):=by
 unfold G131 T131
 simp only[Tr.den,G173_eq,Option.bind_some,Bool.false_eq_true,if_false,decide_eq_true_eq,cmpI,gt_iff_lt]
 split <;> (try split) <;> rfl
theorem G194_eq(a b:ByteArray):G194 a b=some (cmpS a b):=rfl
theorem G130_eq(l:List Int)(h:l.length≤1000):G130 l=some (l.foldr thenC 0):=by
 refine Sp.eq ?_
 unfold G130 T130
 simp only[Tr.den,sq_bind]
 refine Sq.while (fun k:Int=>0≤k∧k≤l.length∧(l.drop k.toNat).foldr thenC 0=l.foldr thenC 0) (fun k=>l.length-k.toNat) (fun k hk=>?_) ⟨by omega,by omega,by simp⟩
 obtain⟨h0,h1,h2⟩:=hk
 unfold T130_L0
 simp only[Tr.den,decide_eq_true_eq]
 by_cases hk:k<l.length
 ·have hkn:k.toNat<l.length:=by omega
  rw[if_pos hk,if_pos ⟨h0,hk⟩]
  rw[drop_getD hkn]at h2
  simp only[List.foldr_cons]at h2
  by_cases hz:l.getD k.toNat default=0
  ·rw[if_neg (bneF hz)]
   rw[wrap_id (by omega) (by omega)]
   refine sq_some.2 ⟨⟨by omega,by omega,?_⟩,by omega⟩
   rw[show (k+1).toNat=k.toNat+1 by omega,←h2]; simp only[thenC,hz,if_true]
  ·rw[if_pos (bneT hz)]
   refine sq_some.2 (sq_some.2 ?_)
   rw[←h2]; unfold thenC; rw[if_neg hz]
 ·rw[if_neg hk]
  refine sq_some.2 (sq_some.2 ?_)
  have:l.drop k.toNat=[]:=List.drop_eq_nil_of_le (by omega)
  rw[this]at h2
  exact h2
theorem G175_eq(a b:GValue):G175 a b=some (cmpV a b):=by
 unfold G175 T175
 simp only[Tr.den,G131_eq,G194_eq,Option.bind_some]
 rw[G130_eq _ (by simp)]
 simp[thenC_zero,cmpV]
theorem G174s0_eq(a b:List GValue)(ha:a.length≤1073741824)(hb:b.length≤1073741824):G174s0 a b=some (cmpR a b):=by
 refine Sp.eq ?_
 unfold G174s0 T174s0
 simp only[Tr.den,sq_bind]
 refine Sq.while (fun k:Int=>0≤k∧k≤a.length∧k≤b.length∧cmpR (a.drop k.toNat) (b.drop k.toNat)=cmpR a b) (fun k=>a.length-k.toNat) (fun k hk=>?_) ⟨by omega,by omega,by omega,by simp⟩
 obtain⟨h0,h1,h2,h3⟩:=hk
 unfold T174s0_L0
 simp only[Tr.den,decide_eq_true_eq,G175_eq,Option.bind_some]
 by_cases hk:k<a.length
 ·have hkn:k.toNat<a.length:=by omega
  rw[if_pos hk,if_pos ⟨h0,hk⟩]
  rw[drop_getD hkn]at h3
  by_cases hk':k≥b.length
  ·rw[if_pos hk']
   refine sq_some.2 (sq_some.2 ?_)
   have:b.drop k.toNat=[]:=List.drop_eq_nil_of_le (by omega)
   rw[this]at h3
   simpa[cmpL] using h3
  ·have hkb:k.toNat<b.length:=by omega
   rw[drop_getD hkb]at h3
   simp only[cmpL]at h3
   rw[if_neg hk',if_pos ⟨h0,by omega⟩]
   by_cases hz:cmpV (a.getD k.toNat default) (b.getD k.toNat default)=0
   ·rw[if_neg (bneF hz),wrap_id (by omega) (by omega)]
    refine sq_some.2 ⟨⟨by omega,by omega,by omega,?_⟩,by omega⟩
    rw[show (k+1).toNat=k.toNat+1 by omega]; refine Eq.trans ?_ h3; simp only[thenC,hz,if_true]
   ·rw[if_pos (bneT hz)]
    refine sq_some.2 (sq_some.2 ?_)
    refine Eq.trans ?_ h3; simp only[thenC,if_neg hz]
 ·rw[if_neg hk]
  refine sq_some.2 ?_
  have e:a.drop k.toNat=[]:=List.drop_eq_nil_of_le (by omega)
  rw[e]at h3
  simp only[sel]
  by_cases hl:(a.length:Int)<b.length
  ·rw[if_pos hl]
   refine sq_some.2 ?_
   rw[drop_getD (show k.toNat<b.length by omega)]at h3
   exact h3
  ·rw[if_neg hl]
   refine sq_some.2 ?_
   rw[List.drop_eq_nil_of_le (show b.length≤k.toNat by omega)]at h3
   exact h3
theorem G132_eq(a b:List GValue)(ha:a.length≤1073741824)(hb:b.length≤1073741824):G132 a b=some (cmpR a b):=by
 unfold G132 T132
 simp only[Tr.den,G174s0_eq a b ha hb,Option.bind_some]
def okR(d:GDelta):Prop:=d.Row.length≤1073741824
theorem G61_eq(a b:GDelta)(ha:okR a)(hb:okR b):G61 a b=some (cmpD a b):=by
 unfold G61 T61
 simp only[Tr.den,G131_eq,G132_eq _ _ ha hb,Option.bind_some]
 rw[G130_eq _ (by simp)]
 simp[thenC_zero,cmpD]
def ltD(a b:GDelta):Bool:=decide (cmpD a b<0)
theorem cmpD_tr{x y z:GDelta}:cmpD x y<0→cmpD y z<0→cmpD x z<0:=fun h1 h2=>TO.place.tr (pl x) (pl y) (pl z) h1 h2
theorem swo_ltD:Sort.SWO ltD:=by
 constructor
 ·intro x; simp[ltD,(TO.place.eq (pl x) (pl x)).2 rfl,cmpD_eq]
 ·intro x y z h1 h2
  simp only[ltD,decide_eq_true_eq]at *
  exact cmpD_tr h1 h2
 ·intro x y z h1 h2
  simp only[ltD,cmpD_eq]at h1 h2 ⊢
  have h1:=of_decide_eq_false h1
  have h2:=of_decide_eq_false h2
  refine decide_eq_false fun h3=>?_
  have s1:=TO.place.sw (pl x) (pl y)
  have s2:=TO.place.sw (pl y) (pl z)
  have s3:=TO.place.sw (pl y) (pl x)
  have s4:=TO.place.sw (pl z) (pl y)
  have s5:=TO.place.sw (pl x) (pl z)
  have s6:=TO.place.sw (pl z) (pl x)
  by_cases h4:cmpP (pl x) (pl y)=0
  ·rw[(TO.place.eq _ _).1 h4]at h3; exact h2 h3
  ·by_cases h5:cmpP (pl y) (pl z)=0
   ·rw[←(TO.place.eq _ _).1 h5]at h3; exact h1 h3
   ·have:=TO.place.tr (pl z) (pl y) (pl x) (by omega) (by omega)
    omega
theorem ltD_asymm{x y:GDelta}(h:ltD x y=true):ltD y x=false:=by
 cases hh:ltD y x with
 | false=>rfl
 | true=>
  have:=swo_ltD.trans _ _ _ h hh
  rw[swo_ltD.irrefl]at this; cases this
set_option linter.unusedVariables false
def okRs(l:List GDelta):Prop:=∀ x,x∈l→okR x
theorem okR_def:okR default:=by show ([]:List GValue).length≤_; simp
theorem okRs.get{l:List GDelta}(h:okRs l)(k:Nat):okR (l.getD k default):=by
 by_cases hk:k<l.length
 ·exact h _ (getD_mem hk)
 ·rw[List.getD_eq_getElem?_getD,List.getElem?_eq_none (by omega)]; exact okR_def
theorem okRs.perm{l r:List GDelta}(h:okRs l)(hp:l.Perm r):okRs r:=fun x hx=>h x (hp.mem_iff.2 hx)
theorem insIn(a a2 v2:Int)(an:Nat)(ha:a=an):∀ (j:Nat) (l:List GDelta),okRs l→j<l.length→l.length≤1000000000000000 →
  whileM (fun s=>(T176s1_L1 a a2 v2 s).den) (l,(j:Int))=some (.inl (Sort.insInner ltD an j l.toArray).toList):=by
 intro j
 induction j with
 | zero=>
  intro l hl hj hn
  refine whileM_stop ?_
  unfold T176s1_L1
  simp only[Tr.den]
  rw[if_neg (by simp; omega)]
  simp[Sort.insInner]
 | succ j ih=>
  intro l hl hj hn
  have e1:IntKind.i64.wrap (((j+1:Nat):Int)-1)=(j:Int):=wrap_dec (by omega)
  by_cases hc:an<j+1
  ·have hlt:ltD (l.getD (j+1) default) (l.getD j default)=decide (cmpD (l.getD (j+1) default) (l.getD j default)<0):=rfl
   cases hd:ltD (l.getD (j+1) default) (l.getD j default) with
   | false=>
    refine whileM_stop ?_
    unfold T176s1_L1
    simp only[Tr.den]
    rw[e1]
    rw[if_pos (by simp; omega),if_pos (by omega),if_pos (by simpa using hj),if_pos (by omega),if_pos (by simp; omega)]
    simp only[Int.toNat_natCast]
    rw[G61_eq _ _ (hl.get _) (hl.get _)]
    simp only[Option.bind_some]
    rw[←hlt,hd]
    simp only[Bool.false_eq_true,if_false]
    unfold Sort.insInner
    rw[getD_arr,getD_arr,hd]
    simp
   | true=>
    rw[whileM_next (s':=(swpL l (j+1) j,(j:Int)))]
    ·have h2:=ih (swpL l (j+1) j) (hl.perm (swpL_perm l hj (by omega)).symm) (by rw[swpL_len]; omega) (by rw[swpL_len]; exact hn)
     rw[h2,swpL_arr]
     conv=>rhs; unfold Sort.insInner
     rw[getD_arr,getD_arr,hd]
     simp[hc]
    ·unfold T176s1_L1
     simp only[Tr.den]
     rw[e1]
     rw[if_pos (by simp; omega),if_pos (by omega),if_pos (by simpa using hj),if_pos (by omega),if_pos (by simp; omega)]
     simp only[Int.toNat_natCast]
     rw[G61_eq _ _ (hl.get _) (hl.get _)]
     simp only[Option.bind_some]
     rw[←hlt,hd]
     simp only[if_true]
     rw[if_pos (by omega),if_pos (by omega),if_pos (by omega),if_pos (by omega),if_pos (by omega),if_pos (by omega),if_pos (by omega),if_pos (by omega),if_pos (by simp; omega)]
     rfl
  ·refine whileM_stop ?_
   unfold T176s1_L1
   simp only[Tr.den]
   rw[if_neg (by simp; omega)]
   simp only[Option.bind_some,Bool.false_eq_true,if_false]
   unfold Sort.insInner
   simp[hc]
theorem insOut(a b:Nat)(n:Nat):∀ (i:Nat) (l:List GDelta),b-i=n→a<i→b≤l.length→l.length≤1000000000000000→okRs l →
  whileM (fun s=>(T176s1_L0 (a:Int) (b:Int) s).den) (l,(i:Int))=some (.inl (Sort.insOuter ltD a b i l.toArray).toList):=by
 induction n with
 | zero=>
  intro i l hi ha hb hn hl
  refine whileM_stop ?_
  unfold T176s1_L0
  simp only[Tr.den]
  rw[if_neg (by simp; omega),Sort.insOuter,if_neg (by omega)]
 | succ n ih=>
  intro i l hi ha hb hn hl
  have h1:=insIn (a:Int) (b:Int) (i:Int) a rfl i l hl (by omega) hn
  have hp:=(Sort.insInner_spec swo_ltD Sort.swp_permIn Sort.permIn_refl Sort.permIn_trans 0 b i (by omega))
  have hlen:(Sort.insInner ltD a i l.toArray).size=l.length:=by
   have:∀ (j:Nat) (d:Array GDelta),(Sort.insInner ltD a j d).size=d.size:=by
    intro j
    induction j with
    | zero=>intro d; rfl
    | succ j ih=>intro d; unfold Sort.insInner; split <;> simp[ih,Sort.swp_size]
   rw[this]; simp
  have hperm:(Sort.insInner ltD a i l.toArray).toList.Perm l:=by
   have:∀ (j:Nat) (d:Array GDelta),j<d.size→(Sort.insInner ltD a j d).toList.Perm d.toList:=by
    intro j
    induction j with
    | zero=>intro d _; exact .refl _
    | succ j ih=>
     intro d hd
     unfold Sort.insInner
     split
     ·refine(ih _ (by rw[Sort.swp_size]; omega)).trans ?_
      have e:=swpL_arr d.toList (j+1) j
      rw[Array.toArray_toList]at e
      rw[←e]
      exact swpL_perm d.toList (i:=j+1) (j:=j) (by simpa using hd) (by simp; omega)
     ·exact .refl _
   simpa using this i l.toArray (by simp; omega)
  rw[whileM_next (s':=((Sort.insInner ltD a i l.toArray).toList,((i+1:Nat):Int)))]
  ·rw[ih (i+1) _ (by omega) (by omega) (by simp[hlen]; omega) (by simp[hlen]; omega) (hl.perm hperm.symm)]
   conv=>rhs; rw[Sort.insOuter,if_pos (by omega)]
  ·unfold T176s1_L0
   simp only[Tr.den]
   rw[if_pos (by simp; omega),h1]
   simp only[Option.bind_some,sel]
   rw[wrap_inc (by omega)]
theorem G176s1_eq(a b:Nat)(l:List GDelta)(hb:b≤l.length)(hab:a≤b)(hn:l.length≤1000000000000000)(hl:okRs l):G176s1 (a:Int) (b:Int) l=some (Sort.insertionSort ltD l.toArray a b).toList:=by
 unfold G176s1 T176s1
 simp only[Tr.den]
 rw[wrap_inc (by omega),insOut a b _ (a+1) l rfl (by omega) hb hn hl]
 rfl
theorem swapTr(P X M Y Q:List GDelta)(n:Nat)(hx:X.length=n)(hy:Y.length=n)(i:Nat)(hi:i<n):
  swpL (P++(Y.take i++(X.drop i++(M++(X.take i++(Y.drop i++Q)))))) (P.length+i) (P.length+n+M.length+i)=P++(Y.take (i+1)++(X.drop (i+1)++(M++(X.take (i+1)++(Y.drop (i+1)++Q))))):=by
 have h:=swpL_mid (P++Y.take i) (X.getD i default) (X.drop (i+1)++(M++X.take i)) (Y.getD i default) (Y.drop (i+1)++Q)
 have e1:(P++Y.take i).length=P.length+i:=by simp; omega
 have e2:(P++Y.take i).length+1+(X.drop (i+1)++(M++X.take i)).length=P.length+n+M.length+i:=by simp; omega
 rw[e2,e1]at h
 rw[drop_getD (show i<X.length by omega),drop_getD (show i<Y.length by omega),take_succ_getD (show i<X.length by omega),take_succ_getD (show i<Y.length by omega)]
 simpa using h
theorem G211s0_eq(P X M Y Q:List GDelta)(n:Nat)(hx:X.length=n)(hy:Y.length=n)(a b c:Int)(ha:a=P.length)(hb:b=((P.length+n+M.length:Nat):Int))(hc:c=n)(hn:(P++(X++(M++(Y++Q)))).length≤1000000000000000):
  G211s0 a b c (P++(X++(M++(Y++Q))))=some (P++(Y++(M++(X++Q)))):=by
 subst ha hb hc
 simp only[List.length_append]at hn
 unfold G211s0 T211s0
 simp only[Tr.den]
 have h:=while_trace (bd:=fun s=>(T211s0_L0 (P.length:Int) ((P.length+n+M.length:Nat):Int) (n:Int) s).den) (fun i=>(P++(Y.take i++(X.drop i++(M++(X.take i++(Y.drop i++Q))))),(i:Int))) n (r:=.inl (P++(Y++(M++(X++Q))))) (fun i hi=>?_) ?_
 ·simp only[List.take_zero,List.drop_zero,List.nil_append]at h
  refine(congrArg (fun x=>Option.bind x _) h).trans ?_
  rfl
 ·have hL:(P++(Y.take i++(X.drop i++(M++(X.take i++(Y.drop i++Q)))))).length=P.length+n+M.length+n+Q.length:=by simp; omega
  unfold T211s0_L0
  simp only[Tr.den]
  rw[wrap_add (by omega),wrap_add (by omega)]
  simp only[Int.toNat_natCast]
  rw[hL]
  rw[if_pos (by simp; omega),if_pos (by omega),if_pos (by omega),if_pos (by omega),if_pos (by omega),if_pos (by omega),if_pos (by omega),if_pos (by omega),if_pos (by omega),if_pos (by simp; omega),wrap_inc (by omega)]
  rw[←swapTr P X M Y Q n hx hy i hi]
  rfl
 ·unfold T211s0_L0
  simp only[Tr.den]
  rw[if_neg (by simp)]
  rw[List.take_of_length_le (by omega),List.take_of_length_le (by omega),List.drop_of_length_le (by omega),List.drop_of_length_le (by omega)]
  simp
theorem G195s0_sp(b:Bool)(P U V Q:List GDelta)(hu:U≠[])(hv:V≠[])(a1 a2 a3:Int)(h1:a1=P.length)(h2:a2=((P.length+U.length:Nat):Int))(h3:a3=((P.length+U.length+V.length:Nat):Int))(hn:(P++(U++(V++Q))).length≤1000000000000000):
  Sq b (G195s0 a1 a2 a3 (P++(U++(V++Q)))) (fun d=>d=P++(V++(U++Q))):=by
 subst h1 h2 h3
 unfold G195s0 T195s0
 simp only[Tr.den,sq_bind]
 generalize hm:P.length+U.length=m
 generalize hT:P++(V++(U++Q))=T
 have hl0:(P++(U++(V++Q))).length=T.length:=by rw[←hT]; simp; omega
 rw[wrap_sub (by omega) (by simp at hn; omega),wrap_sub (by omega) (by simp at hn; omega)]
 refine Sq.while (fun s:List GDelta×Int×Int=>∃ P U V Q:List GDelta,s.1=P++(U++(V++Q))∧P.length+U.length=m∧s.2.1=U.length∧s.2.2=V.length∧U≠[]∧V≠[]∧P++(V++(U++Q))=T)
  (fun s=>(s.2.1+s.2.2).toNat) (fun s hs=>?_) ⟨P,U,V,Q,rfl,hm,by simp only; omega,by simp only; omega,hu,hv,hT⟩
 clear hu hv hT hm
 obtain⟨l,i,j⟩:=s
 obtain⟨P,U,V,Q,rfl,hm,hi,hj,hu,hv,hT⟩:=hs
 simp only at hi hj
 subst hi hj
 have hTl:T.length=P.length+U.length+V.length+Q.length:=by rw[←hT]; simp; omega
 rw[hl0]at hn
 have hu0:0<U.length:=List.length_pos_iff.2 hu
 have hv0:0<V.length:=List.length_pos_iff.2 hv
 unfold T195s0_L0
 simp only[Tr.den]
 by_cases hij:U.length=V.length
 ·rw[if_neg (by simp; omega)]
  refine sq_some.2 ?_
  simp only[sel]
  have h:=G211s0_eq P U [] V Q U.length rfl hij.symm (IntKind.i64.wrap ((m:Int)-(U.length:Int))) (m:Int) (U.length:Int) (by rw[wrap_sub (by omega) (by omega)]; omega) (by simp; omega) rfl (by simp; omega)
  simp only[List.nil_append]at h
  rw[h]
  simp only[Option.bind_some]
  exact sq_some.2 hT
 ·rw[if_pos (by simp; omega)]
  by_cases hgt:U.length>V.length
  ·rw[if_pos (by simp; omega)]
   have hU:U=U.take V.length++U.drop V.length:=(List.take_append_drop _ _).symm
   have h:=G211s0_eq P (U.take V.length) (U.drop V.length) V Q V.length (by simp; omega) rfl (IntKind.i64.wrap ((m:Int)-(U.length:Int))) (m:Int) (V.length:Int) (by rw[wrap_sub (by omega) (by omega)]; omega) (by simp; omega) rfl (by simp; omega)
   rw[←List.append_assoc (U.take V.length),←hU]at h
   rw[h]
   simp only[Option.bind_some]
   rw[wrap_sub (by omega) (by omega)]
   refine sq_some.2 ⟨⟨P++V,U.drop V.length,U.take V.length,Q,by simp only[List.append_assoc],by simp only[List.length_append,List.length_drop]; omega,by simp only[List.length_drop],by simp only[List.length_take]; omega,?_,?_,?_⟩,by simp only; omega⟩
   ·intro h0; have:=congrArg List.length h0; simp only[List.length_drop,List.length_nil]at this; omega
   ·intro h0; have:=congrArg List.length h0; simp only[List.length_take,List.length_nil]at this; omega
   ·rw[←hT]
    conv=>rhs; rw[hU]
    simp only[List.append_assoc]
  ·rw[if_neg (by simp; omega)]
   have hV:V=V.take (V.length-U.length)++V.drop (V.length-U.length):=(List.take_append_drop _ _).symm
   have h:=G211s0_eq P U (V.take (V.length-U.length)) (V.drop (V.length-U.length)) Q U.length rfl (by simp; omega) (IntKind.i64.wrap ((m:Int)-(U.length:Int))) (IntKind.i64.wrap (IntKind.i64.wrap ((m:Int)+(V.length:Int))-(U.length:Int))) (U.length:Int) (by rw[wrap_sub (by omega) (by omega)]; omega) (by rw[wrap_add (by omega),wrap_sub (by omega) (by omega)]; simp; omega) rfl (by simp; omega)
   rw[←List.append_assoc (V.take (V.length-U.length)),←hV]at h
   rw[h]
   simp only[Option.bind_some]
   rw[wrap_sub (by omega) (by omega)]
   refine sq_some.2 ⟨⟨P,V.drop (V.length-U.length),V.take (V.length-U.length),U++Q,by simp,by simp; omega,by simp; omega,by simp,?_,?_,?_⟩,by simp only; omega⟩
   ·intro h0; have:=congrArg List.length h0; simp only[List.length_drop,List.length_nil]at this; omega
   ·intro h0; have:=congrArg List.length h0; simp only[List.length_take,List.length_nil]at this; omega
   ·rw[←hT]
    conv=>rhs; rw[hV]
    simp only[List.append_assoc]
def Srt(l:List GDelta):Prop:=l.Pairwise (fun x y=>ltD y x=false)
theorem Srt.app{l r:List GDelta}:Srt (l++r)↔Srt l∧Srt r∧∀ x,x∈l→∀ y,y∈r→ltD y x=false:=by
 unfold Srt; rw[List.pairwise_append]
theorem Srt.get{l:List GDelta}(h:Srt l){i j:Nat}(hij:i≤j)(hj:j<l.length):ltD (l.getD j default) (l.getD i default)=false:=by
 rcases Nat.lt_or_eq_of_le hij with h1 | h1
 ·rw[getD_lt hj,getD_lt (show i<l.length by omega)]
  exact List.pairwise_iff_getElem.1 h i j (by omega) hj h1
 ·subst h1; exact swo_ltD.irrefl _
theorem srt_get{l:List GDelta}(h:∀ i j,i<j→j<l.length→ltD (l.getD j default) (l.getD i default)=false):Srt l:=by
 unfold Srt
 rw[List.pairwise_iff_getElem]
 intro i j hi hj hij
 have:=h i j hij hj
 rwa [getD_lt hj,getD_lt hi]at this
theorem bs_sq{R':Type}(b:Bool)(bd:Int×Int→Option ((Int×Int)⊕(Int⊕R')))(p:Nat→Bool)(i0 j0:Nat)(hij:i0≤j0)
  (hstep:∀ i j:Nat,i0≤i→i<j→j≤j0→bd ((i:Int),(j:Int))=some (.inl (if p ((i+j) / 2)=true then ((((i+j) / 2+1:Nat):Int),(j:Int)) else ((i:Int),(((i+j) / 2:Nat):Int)))))
  (hstop:∀ i:Nat,i0≤i→i≤j0→bd ((i:Int),(i:Int))=some (.inr (.inl (i:Int))))(mono:∀ h k,i0≤k→k≤h→h<j0→p h=true→p k=true):
  Sq b (whileM bd ((i0:Int),(j0:Int))) (sel (fun r:Int=>∃ n:Nat,r=n∧i0≤n∧n≤j0∧(∀ k,i0≤k→k<n→p k=true)∧(∀ k,n≤k→k<j0→p k=false)) (fun _=>False)):=by
 refine Sq.while (fun s=>∃ i j:Nat,s=((i:Int),(j:Int))∧i0≤i∧i≤j∧j≤j0∧(∀ k,i0≤k→k<i→p k=true)∧(∀ k,j≤k→k<j0→p k=false)) (fun s=>(s.2-s.1).toNat) (fun s hs=>?_)
  ⟨i0,j0,rfl,Nat.le_refl _,hij,Nat.le_refl _,fun k h1 h2=>by omega,fun k h1 h2=>by omega⟩
 obtain⟨i,j,rfl,h1,h2,h3,h4,h5⟩:=hs
 by_cases hlt:i<j
 ·rw[hstep i j h1 hlt h3]
  refine sq_some.2 ?_
  by_cases hp:p ((i+j) / 2)=true
  ·rw[if_pos hp]
   refine⟨⟨(i+j) / 2+1,j,rfl,by omega,by omega,h3,fun k hk1 hk2=>?_,h5⟩,by simp only; omega⟩
   exact mono ((i+j) / 2) k hk1 (by omega) (by omega) hp
  ·rw[if_neg hp]
   refine⟨⟨i,(i+j) / 2,rfl,h1,by omega,by omega,h4,fun k hk1 hk2=>?_⟩,by simp only; omega⟩
   cases hpk:p k with
   | false=>rfl
   | true=>exact absurd (mono k ((i+j) / 2) (by omega) hk1 hk2 hpk) hp
 ·have:i=j:=by omega
  subst this
  rw[hstop i h1 h3]
  exact sq_some.2 ⟨i,rfl,h1,h3,h4,h5⟩
section
variable (P A B Q:List GDelta)
theorem moveOn(P B R:List GDelta)(x:GDelta)(e:Int)(he:e=((P.length+B.length+1:Nat):Int))(hn:(P++x::(B++R)).length≤1000000000000000):
  whileM (fun s=>(T177s0_L1 e s).den) (P++x::(B++R),(P.length:Int))=some (.inl (P++(B++x::R))):=by
 subst he
 simp only[List.length_append,List.length_cons]at hn
 have h:=while_trace (bd:=fun s=>(T177s0_L1 ((P.length+B.length+1:Nat):Int) s).den) (fun t=>(P++(B.take t++x::(B.drop t++R)),((P.length+t:Nat):Int))) B.length (r:=.inl (P++(B++x::R))) (fun t ht=>?_) ?_
 ·simpa using h
 ·have hL:(P++(B.take t++x::(B.drop t++R))).length=P.length+B.length+1+R.length:=by simp; omega
  unfold T177s0_L1
  simp only[Tr.den]
  rw[wrap_dec (by omega),wrap_inc (by omega)]
  simp only[Int.toNat_natCast]
  rw[hL]
  rw[if_pos (by simp; omega),if_pos (by omega),if_pos (by omega),if_pos (by omega),if_pos (by omega),if_pos (by omega),if_pos (by omega),if_pos (by omega),if_pos (by omega),if_pos (by simp; omega)]
  have h2:=swpL_mid (P++B.take t) x [] (B.getD t default) (B.drop (t+1)++R)
  rw[take_succ_getD ht,drop_getD ht]
  rw[show (P++B.take t).length=P.length+t by simp; omega]at h2
  simp only[List.length_nil,Nat.add_zero,List.nil_append,List.append_assoc,List.cons_append]at h2 ⊢
  rw[←h2]
  rfl
 ·unfold T177s0_L1
  simp only[Tr.den]
  rw[wrap_dec (by omega),if_neg (by simp)]
  simp
theorem moveBack(P A R:List GDelta)(y:GDelta)(e k:Int)(he:e=(P.length:Int))(hk:k=((P.length+A.length:Nat):Int))(hn:(P++(A++y::R)).length≤1000000000000000):
  whileM (fun s=>(T177s0_L3 e s).den) (P++(A++y::R),k)=some (.inl (P++y::(A++R))):=by
 subst he hk
 simp only[List.length_append,List.length_cons]at hn
 have h:=while_trace (bd:=fun s=>(T177s0_L3 (P.length:Int) s).den) (fun t=>(P++(A.take (A.length-t)++y::(A.drop (A.length-t)++R)),((P.length+(A.length-t):Nat):Int))) A.length (r:=.inl (P++y::(A++R))) (fun t ht=>?_) ?_
 ·simpa using h
 ·have hL:(P++(A.take (A.length-t)++y::(A.drop (A.length-t)++R))).length=P.length+A.length+1+R.length:=by simp; omega
  unfold T177s0_L3
  simp only[Tr.den]
  obtain⟨u,hu⟩:∃ u,A.length-t=u+1:=⟨A.length-t-1,by omega⟩
  have hu':A.length-(t+1)=u:=by omega
  rw[hu]at hL ⊢
  rw[hu']
  rw[←Nat.add_assoc,wrap_dec (by omega)]
  simp only[Int.toNat_natCast]
  rw[hL]
  rw[if_pos (by simp; omega),if_pos (by omega),if_pos (by omega),if_pos (by omega),if_pos (by omega),if_pos (by omega),if_pos (by omega),if_pos (by omega),if_pos (by omega),if_pos (by simp; omega)]
  have h2:=swpL_mid' (P++A.take u) (A.getD u default) [] y (A.drop (u+1)++R)
  rw[take_succ_getD (show u<A.length by omega),drop_getD (show u<A.length by omega)]
  rw[show (P++A.take u).length=P.length+u by simp; omega]at h2
  simp only[List.length_nil,Nat.add_zero,List.nil_append,List.append_assoc,List.cons_append]at h2 ⊢
  rw[←h2]
  rfl
 ·unfold T177s0_L3
  simp only[Tr.den]
  rw[if_neg (by simp)]
  simp
end
def In177(P A B Q:List GDelta):Int×Int×Int×List GDelta:=((P.length:Int),((P.length+A.length:Nat):Int),((P.length+A.length+B.length:Nat):Int),P++(A++(B++Q)))
def I177(a:Int×Int×Int×List GDelta):Prop:=∃ P A B Q,a=In177 P A B Q∧A≠[]∧B≠[]∧Srt A∧Srt B∧okRs (P++(A++(B++Q)))∧(P++(A++(B++Q))).length≤1000000000000000
def Q177(a:Int×Int×Int×List GDelta)(d:List GDelta):Prop:=∀ P A B Q,a=In177 P A B Q→∃ C,d=P++(C++Q)∧C.Perm (A++B)∧Srt C
theorem In177_inj{P A B Q P' A' B' Q':List GDelta}(h:In177 P A B Q=In177 P' A' B' Q'):P=P'∧A=A'∧B=B'∧Q=Q':=by
 unfold In177 at h
 simp only[Prod.mk.injEq]at h
 obtain⟨h1,h2,h3,h4⟩:=h
 obtain⟨e1,h5⟩:=List.append_inj h4 (by omega)
 obtain⟨e2,h6⟩:=List.append_inj h5 (by omega)
 obtain⟨e3,e4⟩:=List.append_inj h6 (by omega)
 exact⟨e1,e2,e3,e4⟩
theorem bs_ord{A:List GDelta}(h:Srt A){h' k:Nat}(hk:k≤h')(hh:h' < A.length)(x:GDelta)(hp:ltD (A.getD h' default) x=true):ltD (A.getD k default) x=true:=by
 have:=h.get hk hh
 cases hc:ltD (A.getD k default) x with
 | true=>rfl
 | false=>
  rw[←hp]
  exact(swo_ltD.ntrans _ _ _ this hc).symm
theorem bs_ord'{A:List GDelta}(h:Srt A){h' k:Nat}(hk:k≤h')(hh:h' < A.length)(x:GDelta)(hp:ltD x (A.getD h' default)=false):ltD x (A.getD k default)=false:=by
 exact swo_ltD.ntrans _ _ _ hp (h.get hk hh)
section
variable (b:Bool) (P A B Q:List GDelta)
theorem G177_one(x:GDelta)(hB:Srt B)(ho:okRs (P++x::(B++Q)))(hn:(P++x::(B++Q)).length≤1000000000000000):
  Sq b (whileM (fun s=>(T177s0_L0 (P.length:Int) (P++x::(B++Q)) s).den) (((P.length+1:Nat):Int),((P.length+1+B.length:Nat):Int)))
   (sel (fun r:Int=>∃ n:Nat,r=((P.length+1+n:Nat):Int)∧n≤B.length∧(∀ k,k<n→ltD (B.getD k default) x=true)∧(∀ k,n≤k→k<B.length→ltD (B.getD k default) x=false)) (fun _=>False)):=by
 simp only[List.length_append,List.length_cons]at hn
 have hL:(P++x::(B++Q)).length=P.length+1+B.length+Q.length:=by simp; omega
 have e1:(P++x::(B++Q)).getD P.length default=x:=by rw[getD_app,if_neg (by omega)]; simp
 have e2:∀ k,k<B.length→(P++x::(B++Q)).getD (P.length+1+k) default=B.getD k default:=by
  intro k hk
  rw[getD_app,if_neg (by omega),show P.length+1+k-P.length=k+1 by omega,List.getD_cons_succ,getD_app,if_pos hk]
 refine(bs_sq b _ (fun h=>ltD ((P++x::(B++Q)).getD h default) x) (P.length+1) (P.length+1+B.length) (by omega) (fun i j h1 h2 h3=>?_) (fun i h1 h2=>?_) (fun h k h1 h2 h3 h4=>?_)).imp ?_
 ·unfold T177s0_L0
  simp only[Tr.den]
  rw[mid_eq (by omega)]
  simp only[Int.toNat_natCast]
  rw[hL]
  rw[if_pos (by simp; omega),if_pos (by omega),if_pos (by omega),if_pos (by omega),if_pos (by omega)]
  rw[G61_eq _ _ (ho.get _) (ho.get _),e1]
  simp only[Option.bind_some]
  rw[show decide (cmpD ((P++x::(B++Q)).getD ((i+j) / 2) default) x<0)=ltD ((P++x::(B++Q)).getD ((i+j) / 2) default) x from rfl]
  cases ltD ((P++x::(B++Q)).getD ((i+j) / 2) default) x with
  | true=>simp only[if_true,Option.bind_some]; rw[wrap_inc (by omega)]
  | false=>simp only[Bool.false_eq_true,if_false,Option.bind_some]
 ·unfold T177s0_L0
  simp only[Tr.den]
  rw[if_neg (by simp)]
 ·obtain⟨k',rfl⟩:∃ k',k=P.length+1+k':=⟨k-(P.length+1),by omega⟩
  obtain⟨h',rfl⟩:∃ h',h=P.length+1+h':=⟨h-(P.length+1),by omega⟩
  rw[e2 _ (by omega)]at h4 ⊢
  exact bs_ord hB (by omega) (by omega) x h4
 ·intro z hz
  cases z with
  | inr z=>exact hz
  | inl z=>
   obtain⟨n,rfl,h1,h2,h3,h4⟩:=hz
   refine⟨n-(P.length+1),by omega,by omega,fun k hk=>?_,fun k hk1 hk2=>?_⟩
   ·rw[←e2 k (by omega)]; exact h3 _ (by omega) (by omega)
   ·rw[←e2 k hk2]; exact h4 _ (by omega) (by omega)
theorem G177_last(y:GDelta)(hA:Srt A)(ho:okRs (P++(A++y::Q)))(hn:(P++(A++y::Q)).length≤1000000000000000):
  Sq b (whileM (fun s=>(T177s0_L2 ((P.length+A.length:Nat):Int) (P++(A++y::Q)) s).den) ((P.length:Int),((P.length+A.length:Nat):Int)))
   (sel (fun r:Int=>∃ n:Nat,r=((P.length+n:Nat):Int)∧n≤A.length∧(∀ k,k<n→ltD y (A.getD k default)=false)∧(∀ k,n≤k→k<A.length→ltD y (A.getD k default)=true)) (fun _=>False)):=by
 simp only[List.length_append,List.length_cons]at hn
 have hL:(P++(A++y::Q)).length=P.length+A.length+1+Q.length:=by simp; omega
 have e1:(P++(A++y::Q)).getD (P.length+A.length) default=y:=by
  rw[getD_app,if_neg (by omega),getD_app,if_neg (by omega)]; simp
 have e2:∀ k,k<A.length→(P++(A++y::Q)).getD (P.length+k) default=A.getD k default:=by
  intro k hk
  rw[getD_app,if_neg (by omega),show P.length+k-P.length=k by omega,getD_app,if_pos hk]
 refine(bs_sq b _ (fun h=>!ltD y ((P++(A++y::Q)).getD h default)) P.length (P.length+A.length) (by omega) (fun i j h1 h2 h3=>?_) (fun i h1 h2=>?_) (fun h k h1 h2 h3 h4=>?_)).imp ?_
 ·unfold T177s0_L2
  simp only[Tr.den]
  rw[mid_eq (by omega)]
  simp only[Int.toNat_natCast]
  rw[hL]
  rw[if_pos (by simp; omega),if_pos (by omega),if_pos (by omega),if_pos (by omega),if_pos (by omega)]
  rw[G61_eq _ _ (ho.get _) (ho.get _),e1]
  simp only[Option.bind_some]
  rw[show decide (cmpD y ((P++(A++y::Q)).getD ((i+j) / 2) default)<0)=ltD y ((P++(A++y::Q)).getD ((i+j) / 2) default) from rfl]
  cases ltD y ((P++(A++y::Q)).getD ((i+j) / 2) default) with
  | true=>simp
  | false=>simp; rw[wrap_id] <;> omega
 ·unfold T177s0_L2
  simp only[Tr.den]
  rw[if_neg (by simp)]
 ·obtain⟨k',rfl⟩:∃ k',k=P.length+k':=⟨k-P.length,by omega⟩
  obtain⟨h',rfl⟩:∃ h',h=P.length+h':=⟨h-P.length,by omega⟩
  rw[e2 _ (by omega)]at h4 ⊢
  simp only[Bool.not_eq_true']at h4 ⊢
  exact bs_ord' hA (by omega) (by omega) y h4
 ·intro z hz
  cases z with
  | inr z=>exact hz
  | inl z=>
   obtain⟨n,rfl,h1,h2,h3,h4⟩:=hz
   refine⟨n-P.length,by omega,by omega,fun k hk=>?_,fun k hk1 hk2=>?_⟩
   ·have:=h3 (P.length+k) (by omega) (by omega)
    rw[e2 k (by omega)]at this; simpa using this
   ·have:=h4 (P.length+k) (by omega) (by omega)
    rw[e2 k hk2]at this; simpa using this
end
theorem dec_and(p q:Prop)[Decidable p][Decidable q]:(if decide p=true then some (decide q) else some false)=some (decide (p∧q)):=by
 by_cases hp:p <;> simp[hp]
theorem mem_take_getD{l:List GDelta}{n:Nat}{x:GDelta}(h:x∈l.take n):∃ k,k<n∧k<l.length∧x=l.getD k default:=by
 obtain⟨k,hk,rfl⟩:=List.mem_iff_getElem.1 h
 simp only[List.length_take]at hk
 exact⟨k,by omega,by omega,by rw[getD_lt (by omega)]; simp⟩
theorem mem_drop_getD{l:List GDelta}{n:Nat}{x:GDelta}(h:x∈l.drop n):∃ k,n≤k∧k<l.length∧x=l.getD k default:=by
 obtain⟨k,hk,rfl⟩:=List.mem_iff_getElem.1 h
 simp only[List.length_drop]at hk
 exact⟨n+k,by omega,by omega,by rw[getD_lt (by omega)]; simp⟩
theorem Srt.take{l:List GDelta}(h:Srt l)(n:Nat):Srt (l.take n):=List.Pairwise.sublist (List.take_sublist _ _) h
theorem Srt.drop{l:List GDelta}(h:Srt l)(n:Nat):Srt (l.drop n):=List.Pairwise.sublist (List.drop_sublist _ _) h
theorem Srt.nil:Srt []:=List.Pairwise.nil
theorem srt_ins{l:List GDelta}{x:GDelta}{n:Nat}(h:Srt l)(h1:∀ k,k<n→k<l.length→ltD x (l.getD k default)=false)(h2:∀ k,n≤k→k<l.length→ltD (l.getD k default) x=false):Srt (l.take n++x::l.drop n):=by
 rw[show x::l.drop n=[x]++l.drop n from rfl,Srt.app,Srt.app]
 refine⟨h.take n,⟨List.pairwise_singleton _ _,h.drop n,fun a ha y hy=>?_⟩,fun a ha y hy=>?_⟩
 ·simp only[List.mem_singleton]at ha
  subst ha
  obtain⟨k,h3,h4,rfl⟩:=mem_drop_getD hy
  exact h2 k h3 h4
 ·obtain⟨k,h3,h4,rfl⟩:=mem_take_getD ha
  simp only[List.mem_append,List.mem_singleton]at hy
  rcases hy with rfl | hy
  ·exact h1 k h3 h4
  ·obtain⟨k',h5,h6,rfl⟩:=mem_drop_getD hy
   exact h.get (by omega) h6
theorem cutOk{A B:List GDelta}(hA:Srt A)(hB:Srt B){u v:Nat}(hu:u≤A.length)(hv:v≤B.length)
  (h1:0<u→v<B.length→ltD (B.getD v default) (A.getD (u-1) default)=false)(h2:0<v→u<A.length→ltD (A.getD u default) (B.getD (v-1) default)=false)
  {C D:List GDelta}(hC:C.Perm (A.take u++B.take v))(hD:D.Perm (A.drop u++B.drop v))(sC:Srt C)(sD:Srt D):Srt (C++D)∧(C++D).Perm (A++B):=by
 constructor
 ·rw[Srt.app]
  refine⟨sC,sD,fun x hx y hy=>?_⟩
  have hx:=hC.mem_iff.1 hx
  have hy:=hD.mem_iff.1 hy
  rw[List.mem_append]at hx hy
  rcases hx with hx | hx
  ·obtain⟨i,i1,i2,rfl⟩:=mem_take_getD hx
   rcases hy with hy | hy
   ·obtain⟨j,j1,j2,rfl⟩:=mem_drop_getD hy
    exact hA.get (by omega) j2
   ·obtain⟨j,j1,j2,rfl⟩:=mem_drop_getD hy
    exact swo_ltD.ntrans _ _ _ (hB.get j1 j2) (swo_ltD.ntrans _ _ _ (h1 (by omega) (by omega)) (hA.get (i:=i) (j:=u-1) (by omega) (by omega)))
  ·obtain⟨i,i1,i2,rfl⟩:=mem_take_getD hx
   rcases hy with hy | hy
   ·obtain⟨j,j1,j2,rfl⟩:=mem_drop_getD hy
    exact swo_ltD.ntrans _ _ _ (hA.get j1 j2) (swo_ltD.ntrans _ _ _ (h2 (by omega) (by omega)) (hB.get (i:=i) (j:=v-1) (by omega) (by omega)))
   ·obtain⟨j,j1,j2,rfl⟩:=mem_drop_getD hy
    exact hB.get (by omega) j2
 ·refine(hC.append hD).trans ?_
  have e:(A++B).Perm (A.take u++(A.drop u++(B.take v++B.drop v))):=by
   rw[List.take_append_drop,←List.append_assoc,List.take_append_drop]
  refine List.Perm.trans ?_ e.symm
  rw[List.append_assoc]
  refine List.Perm.append_left _ ?_
  rw[←List.append_assoc,←List.append_assoc]
  exact List.Perm.append_right _ List.perm_append_comm
section
variable (b:Bool) (P A B Q:List GDelta)
theorem G177_cut(hA:Srt A)(hB:Srt B)(ho:okRs (P++(A++(B++Q))))(hn:(P++(A++(B++Q))).length≤1000000000000000)(i0 j0:Nat)(mid:Nat)(hmid:mid=(P.length+(P.length+A.length+B.length)) / 2)
  (h1:P.length≤i0)(h2:i0≤j0)(h3:j0≤P.length+A.length)(h4:j0≤mid)(h5:mid≤B.length+i0):
  Sq b (whileM (fun s=>(T177s0_L4 (P.length:Int) ((P.length+A.length:Nat):Int) ((P.length+A.length+B.length:Nat):Int) (P++(A++(B++Q))) s).den) ((i0:Int),(j0:Int)))
   (sel (fun r:Int=>∃ n:Nat,r=(n:Int)∧i0≤n∧n≤j0∧(∀ c,i0≤c→c<n→ltD (B.getD (mid-1-c) default) (A.getD (c-P.length) default)=false)∧(∀ c,n≤c→c<j0→ltD (B.getD (mid-1-c) default) (A.getD (c-P.length) default)=true)) (fun _=>False)):=by
 simp only[List.length_append]at hn
 have hL:(P++(A++(B++Q))).length=P.length+A.length+B.length+Q.length:=by simp; omega
 have e1:∀ k,P.length≤k→k<P.length+A.length→(P++(A++(B++Q))).getD k default=A.getD (k-P.length) default:=by
  intro k k1 k2
  rw[getD_app,if_neg (by omega),getD_app,if_pos (by omega)]
 have e2:∀ k,P.length+A.length≤k→k<P.length+A.length+B.length→(P++(A++(B++Q))).getD k default=B.getD (k-(P.length+A.length)) default:=by
  intro k k1 k2
  rw[getD_app,if_neg (by omega),getD_app,if_neg (by omega),getD_app,if_pos (by omega)]
  congr 1; omega
 refine(bs_sq b _ (fun c=>!ltD (B.getD (mid-1-c) default) (A.getD (c-P.length) default)) i0 j0 h2 (fun i j q1 q2 q3=>?_) (fun i q1 q2=>?_) (fun h k q1 q2 q3 q4=>?_)).imp ?_
 ·unfold T177s0_L4
  simp only[Tr.den]
  rw[mid_eq (i:=P.length) (j:=P.length+A.length+B.length) (by omega),←hmid,mid_eq (i:=i) (j:=j) (by omega)]
  have w1:IntKind.i64.wrap (IntKind.i64.wrap (IntKind.i64.wrap ((mid:Int)+((P.length+A.length:Nat):Int))-1)-(((i+j) / 2:Nat):Int))=((mid+(P.length+A.length)-1-(i+j) / 2:Nat):Int):=by
   rw[wrap_add (by omega),wrap_id (n:=((mid+(P.length+A.length):Nat):Int)-1) (by omega) (by omega),wrap_id (by omega) (by omega)]
   omega
  rw[w1]
  simp only[Int.toNat_natCast]
  rw[hL]
  rw[if_pos (by simp; omega),if_pos (by omega),if_pos (by omega),if_pos (by omega),if_pos (by omega)]
  rw[G61_eq _ _ (ho.get _) (ho.get _)]
  simp only[Option.bind_some]
  rw[e1 ((i+j) / 2) (by omega) (by omega),e2 (mid+(P.length+A.length)-1-(i+j) / 2) (by omega) (by omega),show mid+(P.length+A.length)-1-(i+j) / 2-(P.length+A.length)=mid-1-(i+j) / 2 by omega]
  rw[show decide (cmpD (B.getD (mid-1-(i+j) / 2) default) (A.getD ((i+j) / 2-P.length) default)<0)=ltD (B.getD (mid-1-(i+j) / 2) default) (A.getD ((i+j) / 2-P.length) default) from rfl]
  cases ltD (B.getD (mid-1-(i+j) / 2) default) (A.getD ((i+j) / 2-P.length) default) with
  | true=>simp
  | false=>simp; rw[wrap_id] <;> omega
 ·unfold T177s0_L4
  simp only[Tr.den]
  rw[if_neg (by simp)]
 ·simp only[Bool.not_eq_true']at q4 ⊢
  exact swo_ltD.ntrans _ _ _ (hB.get (i:=mid-1-h) (j:=mid-1-k) (by omega) (by omega)) (swo_ltD.ntrans _ _ _ q4 (hA.get (i:=k-P.length) (j:=h-P.length) (by omega) (by omega)))
 ·intro z hz
  cases z with
  | inr z=>exact hz
  | inl z=>
   obtain⟨n,rfl,q1,q2,q3,q4⟩:=hz
   refine⟨n,rfl,q1,q2,fun c c1 c2=>by simpa using q3 c c1 c2,fun c c1 c2=>by simpa using q4 c c1 c2⟩
end
theorem symM(b:Bool)(f:R177s0)(P A B Q:List GDelta)(hA0:A≠[])(hB0:B≠[])(hA:Srt A)(hB:Srt B)(ho:okRs (P++(A++(B++Q))))(hn:(P++(A++(B++Q))).length≤1000000000000000)
  (hrec:∀ P' A' B' Q',A'≠[]→B'≠[]→Srt A'→Srt B'→okRs (P'++(A'++(B'++Q')))→(P'++(A'++(B'++Q'))).length≤1000000000000000→A'.length+B'.length<A.length+B.length →
   Sq b (f.1 (In177 P' A' B' Q')) (fun d=>∃ C,d=P'++(C++Q')∧C.Perm (A'++B')∧Srt C)):
  Sq b (T177s0 f (P.length:Int) ((P.length+A.length:Nat):Int) ((P.length+A.length+B.length:Nat):Int) (P++(A++(B++Q)))).den (fun d=>∃ C,d=P++(C++Q)∧C.Perm (A++B)∧Srt C):=by
 have hA1:0<A.length:=List.length_pos_iff.2 hA0
 have hB1:0<B.length:=List.length_pos_iff.2 hB0
 have hn':=hn
 simp only[List.length_append]at hn
 have hL:(P++(A++(B++Q))).length=P.length+A.length+B.length+Q.length:=by simp; omega
 unfold T177s0
 simp only[Tr.den]
 rw[wrap_sub (n:=P.length+A.length) (m:=P.length) (by omega) (by omega),wrap_sub (n:=P.length+A.length+B.length) (m:=P.length+A.length) (by omega) (by omega)]
 by_cases c1:A.length=1
 ·obtain⟨x,rfl⟩:=List.length_eq_one_iff.1 c1
  rw[if_pos (by simp)]
  simp only[List.singleton_append,List.length_singleton]at *
  refine Sq.bind _ (G177_one b P B Q x hB ho hn') (fun z hz=>?_)
  cases z with
  | inr z=>exact hz.elim
  | inl z=>
   obtain⟨n,rfl,h1,h2,h3⟩:=hz
   simp only[sel]
   have hb:B++Q=B.take n++(B.drop n++Q):=by rw[←List.append_assoc,List.take_append_drop]
   rw[hb,moveOn P (B.take n) (B.drop n++Q) x _ (by simp; omega) (by rw[←hb]; exact hn')]
   simp only[Option.bind_some,sel]
   refine sq_some.2 ⟨B.take n++x::B.drop n,by simp,?_,srt_ins hB (fun k k1 k2=>ltD_asymm (h2 k k1)) h3⟩
   rw[List.perm_middle.congr_left,List.take_append_drop]
 ·rw[if_neg (by simp; omega)]
  by_cases c2:B.length=1
  ·obtain⟨y,rfl⟩:=List.length_eq_one_iff.1 c2
   rw[if_pos (beqT (by simp))]
   simp only[List.singleton_append,List.length_singleton]at *
   refine Sq.bind _ (G177_last b P A Q y hA ho hn') (fun z hz=>?_)
   cases z with
   | inr z=>exact hz.elim
   | inl z=>
    obtain⟨n,rfl,h1,h2,h3⟩:=hz
    simp only[sel]
    have hb:P++(A++y::Q)=(P++A.take n)++(A.drop n++y::Q):=by
     rw[List.append_assoc,←List.append_assoc (A.take n),List.take_append_drop]
    rw[hb,moveBack (P++A.take n) (A.drop n) Q y _ _ (by simp; omega) (by simp; omega) (by rw[←hb]; exact hn')]
    simp only[Option.bind_some,sel]
    refine sq_some.2 ⟨A.take n++y::A.drop n,by simp,?_,srt_ins hA (fun k k1 k2=>h2 k k1) (fun k k1 k2=>ltD_asymm (h3 k k1 k2))⟩
    refine List.perm_middle.trans ?_
    rw[List.take_append_drop]
    exact(List.perm_append_singleton y A).symm
  ·rw[if_neg (by simp; omega)]
   rw[mid_eq (i:=P.length) (j:=P.length+A.length+B.length) (by omega)]
   generalize hmid:(P.length+(P.length+A.length+B.length)) / 2=mid
   have key:∀ (i0 j0:Nat),P.length≤i0→i0≤j0→j0≤P.length+A.length→j0≤mid→mid≤B.length+i0→(i0=P.length∨mid=B.length+i0)→(j0=P.length+A.length∨j0=mid) →
     ∀ K:Int→Option (List GDelta),(∀ u v:Nat,u≤A.length→v≤B.length→u+v+P.length=mid→(0<u→v<B.length→ltD (B.getD v default) (A.getD (u-1) default)=false)→(0<v→u<A.length→ltD (A.getD u default) (B.getD (v-1) default)=false) →
      Sq b (K ((P.length+u:Nat):Int)) (fun d=>∃ C,d=P++(C++Q)∧C.Perm (A++B)∧Srt C)) →
     Sq b ((whileM (fun s=>(T177s0_L4 (P.length:Int) ((P.length+A.length:Nat):Int) ((P.length+A.length+B.length:Nat):Int) (P++(A++(B++Q))) s).den) ((i0:Int),(j0:Int))).bind (sel K some)) (fun d=>∃ C,d=P++(C++Q)∧C.Perm (A++B)∧Srt C):=by
    intro i0 j0 h1 h2 h3 h4 h5 h6 h7 K hK
    refine Sq.bind _ (G177_cut b P A B Q hA hB ho hn' i0 j0 mid hmid.symm h1 h2 h3 h4 h5) (fun z hz=>?_)
    cases z with
    | inr z=>exact hz.elim
    | inl z=>
     obtain⟨n,rfl,q1,q2,q3,q4⟩:=hz
     simp only[sel]
     have:=hK (n-P.length) (mid-n) (by omega) (by omega) (by omega) (fun u1 u2=>?_) (fun u1 u2=>?_)
     ·rwa [show P.length+(n-P.length)=n by omega]at this
     ·have:=q3 (n-1) (by omega) (by omega)
      rwa [show mid-1-(n-1)=mid-n by omega,show n-1-P.length=n-P.length-1 by omega]at this
     ·have:=q4 n (by omega) (by omega)
      rw[show mid-1-n=mid-n-1 by omega]at this
      exact ltD_asymm this
   have body:∀ u v:Nat,u≤A.length→v≤B.length→u+v+P.length=mid→(0<u→v<B.length→ltD (B.getD v default) (A.getD (u-1) default)=false)→(0<v→u<A.length→ltD (A.getD u default) (B.getD (v-1) default)=false) →
     Sq b ((if decide (((P.length+u:Nat):Int)<((P.length+A.length:Nat):Int))=true then some (decide (((P.length+A.length:Nat):Int)<IntKind.i64.wrap (IntKind.i64.wrap ((mid:Int)+((P.length+A.length:Nat):Int))-((P.length+u:Nat):Int)))) else some false).bind fun j27=>
      (if j27=true then (G195s0 ((P.length+u:Nat):Int) ((P.length+A.length:Nat):Int) (IntKind.i64.wrap (IntKind.i64.wrap ((mid:Int)+((P.length+A.length:Nat):Int))-((P.length+u:Nat):Int))) (P++(A++(B++Q)))).bind (fun r=>some r) else some (P++(A++(B++Q)))).bind fun j28=>
      (if decide ((P.length:Int)<((P.length+u:Nat):Int))=true then some (decide (((P.length+u:Nat):Int)<(mid:Int))) else some false).bind fun j30=>
      (if j30=true then (f.1 ((P.length:Int),((P.length+u:Nat):Int),(mid:Int),j28)).bind (fun r=>some r) else some j28).bind fun j31=>
      (if decide ((mid:Int)<IntKind.i64.wrap (IntKind.i64.wrap ((mid:Int)+((P.length+A.length:Nat):Int))-((P.length+u:Nat):Int)))=true then some (decide (IntKind.i64.wrap (IntKind.i64.wrap ((mid:Int)+((P.length+A.length:Nat):Int))-((P.length+u:Nat):Int))<((P.length+A.length+B.length:Nat):Int))) else some false).bind fun j33=>
      (if j33=true then (f.1 ((mid:Int),IntKind.i64.wrap (IntKind.i64.wrap ((mid:Int)+((P.length+A.length:Nat):Int))-((P.length+u:Nat):Int)),((P.length+A.length+B.length:Nat):Int),j31)).bind (fun r=>some r) else some j31).bind fun j34=>some j34)
      (fun d=>∃ C,d=P++(C++Q)∧C.Perm (A++B)∧Srt C):=by
    intro u v hu hv huv f1 f2
    have w2:IntKind.i64.wrap (IntKind.i64.wrap ((mid:Int)+((P.length+A.length:Nat):Int))-((P.length+u:Nat):Int))=((P.length+A.length+v:Nat):Int):=by
     rw[wrap_add (by omega),wrap_sub (by omega) (by omega)]; congr 1; omega
    rw[w2]
    simp only[dec_and,Option.bind_some]
    have eA:=List.take_append_drop u A
    have eB:=List.take_append_drop v B
    have lA1:(A.take u).length=u:=by simp; omega
    have lB1:(B.take v).length=v:=by simp; omega
    have lA2:(A.drop u).length=A.length-u:=by simp
    have lB2:(B.drop v).length=B.length-v:=by simp
    have hs:P++(A++(B++Q))=(P++A.take u)++(A.drop u++(B.take v++(B.drop v++Q))):=by
     conv=>lhs; rw[←eA,←eB]
     simp only[List.append_assoc]
    refine Sq.bind (fun d=>d=P++(A.take u++(B.take v++(A.drop u++(B.drop v++Q))))) ?_ (fun j28 h28=>?_)
    ·by_cases hc:(((P.length+u:Nat):Int)<((P.length+A.length:Nat):Int))∧(((P.length+A.length:Nat):Int)<((P.length+A.length+v:Nat):Int))
     ·rw[if_pos (by simpa using hc)]
      rw[hs]at hn' ⊢
      have h:=G195s0_sp b (P++A.take u) (A.drop u) (B.take v) (B.drop v++Q) (fun h0=>by have:=congrArg List.length h0; simp only[List.length_drop,List.length_nil]at this; omega) (fun h0=>by have:=congrArg List.length h0; simp only[List.length_take,List.length_nil]at this; omega)
       ((P.length+u:Nat):Int) ((P.length+A.length:Nat):Int) ((P.length+A.length+v:Nat):Int) (by simp; omega) (by simp; omega) (by simp; omega) hn'
      refine Sq.bind _ h (fun d hd=>sq_some.2 ?_)
      rw[hd]; simp only[List.append_assoc]
     ·rw[if_neg (by simpa using hc)]
      refine sq_some.2 ?_
      rw[hs]
      by_cases hu':u=A.length
      ·have:A.drop u=[]:=by subst hu'; simp
       rw[this]; simp
      ·have:v=0:=by omega
       subst this; simp
    subst h28
    have oD:okRs (P++(A.take u++(B.take v++(A.drop u++(B.drop v++Q))))):=by
     refine ho.perm ?_
     rw[hs]
     simp only[List.append_assoc]
     exact List.Perm.append_left _ (List.Perm.append_left _ (List.perm_append_comm_assoc _ _ _))
    refine Sq.bind (fun d=>∃ C,d=P++(C++(A.drop u++(B.drop v++Q)))∧C.Perm (A.take u++B.take v)∧Srt C) ?_ (fun j31 h31=>?_)
    ·by_cases hc:((P.length:Int)<((P.length+u:Nat):Int))∧(((P.length+u:Nat):Int)<(mid:Int))
     ·rw[if_pos (by simpa using hc)]
      have e:((P.length:Int),((P.length+u:Nat):Int),(mid:Int),P++(A.take u++(B.take v++(A.drop u++(B.drop v++Q)))))=In177 P (A.take u) (B.take v) (A.drop u++(B.drop v++Q)):=by
       unfold In177; rw[lA1,lB1,←huv]; simp; omega
      rw[e]
      refine Sq.bind _ (hrec _ _ _ _ (fun h0=>by have:=congrArg List.length h0; simp only[List.length_take,List.length_nil]at this; omega) (fun h0=>by have:=congrArg List.length h0; simp only[List.length_take,List.length_nil]at this; omega) (hA.take u) (hB.take v) oD (by simp; omega) (by omega)) (fun d hd=>sq_some.2 hd)
     ·rw[if_neg (by simpa using hc)]
      refine sq_some.2 ⟨A.take u++B.take v,by simp,.refl _,?_⟩
      by_cases hu':u=0
      ·subst hu'; simpa using hB.take v
      ·have:v=0:=by omega
       subst this; simpa using hA.take u
    obtain⟨C,rfl,pC,sC⟩:=h31
    have lC:C.length=u+v:=by rw[pC.length_eq]; simp; omega
    have fin:∀ D:List GDelta,D.Perm (A.drop u++B.drop v)→Srt D→Srt (C++D)∧(C++D).Perm (A++B):=fun D pD sD=>cutOk hA hB hu hv f1 f2 pC pD sC sD
    refine Sq.bind (fun d=>∃ C,d=P++(C++Q)∧C.Perm (A++B)∧Srt C) ?_ (fun j34 h34=>sq_some.2 h34)
    by_cases hc:((mid:Int)<((P.length+A.length+v:Nat):Int))∧(((P.length+A.length+v:Nat):Int)<((P.length+A.length+B.length:Nat):Int))
    ·rw[if_pos (by simpa using hc)]
     have e:((mid:Int),((P.length+A.length+v:Nat):Int),((P.length+A.length+B.length:Nat):Int),P++(C++(A.drop u++(B.drop v++Q))))=In177 (P++C) (A.drop u) (B.drop v) Q:=by
      unfold In177; rw[lA2,lB2,←huv]; simp; omega
     rw[e]
     refine Sq.bind _ (hrec _ _ _ _ (fun h0=>by have:=congrArg List.length h0; simp only[List.length_drop,List.length_nil]at this; omega) (fun h0=>by have:=congrArg List.length h0; simp only[List.length_drop,List.length_nil]at this; omega) (hA.drop u) (hB.drop v) ?_ (by simp; omega) (by omega)) (fun d hd=>?_)
     ·refine oD.perm ?_
      rw[List.append_assoc]
      refine List.Perm.append_left _ ?_
      rw[←List.append_assoc]
      exact List.Perm.append_right _ pC.symm
     ·obtain⟨D,rfl,pD,sD⟩:=hd
      exact sq_some.2 ⟨C++D,by simp,(fin D pD sD).2,(fin D pD sD).1⟩
    ·rw[if_neg (by simpa using hc)]
     have:=fin (A.drop u++B.drop v) (.refl _) (by
      by_cases hu':u=A.length
      ·have:A.drop u=[]:=by subst hu'; simp
       rw[this]; simpa using hB.drop v
      ·have:B.drop v=[]:=by rw[show v=B.length by omega]; simp
       rw[this]; simpa using hA.drop u)
     exact sq_some.2 ⟨C++(A.drop u++B.drop v),by simp,this.2,this.1⟩
   by_cases hm:mid<P.length+A.length
   ·rw[if_pos (by simp; omega)]
    simp only[Option.bind_some]
    rw[wrap_add (n:=mid) (m:=P.length+A.length) (by omega),wrap_sub (n:=mid+(P.length+A.length)) (by omega) (by omega),←wrap_add (n:=mid) (m:=P.length+A.length) (by omega)]
    exact key (mid+(P.length+A.length)-(P.length+A.length+B.length)) mid (by omega) (by omega) (by omega) (by omega) (by omega) (by omega) (by omega) _ body
   ·rw[if_neg (by simp; omega)]
    simp only[Option.bind_some]
    exact key P.length (P.length+A.length) (by omega) (by omega) (by omega) (by omega) (by omega) (by omega) (by omega) _ body
theorem G177_in(P A B Q:List GDelta)(hA0:A≠[])(hB0:B≠[])(hA:Srt A)(hB:Srt B)(ho:okRs (P++(A++(B++Q))))(hn:(P++(A++(B++Q))).length≤1000000000000000):
  Sp (G177s0 (P.length:Int) ((P.length+A.length:Nat):Int) ((P.length+A.length+B.length:Nat):Int) (P++(A++(B++Q)))) (fun d=>∃ C,d=P++(C++Q)∧C.Perm (A++B)∧Srt C):=by
 have h:=fixF_sq (C:=fun (a:Int×Int×Int×List GDelta) (x:Option (List GDelta))=>ConH Proofs.Tryz.prog 157 [.own 30000,.t (.int .i64 (a.1)),.t (.int .i64 (a.2.1)),.t (.int .i64 (a.2.2.1)),.fn (.func 98) 0 []] [(30000,.arr 52 3 (a.2.2.2.length) (eF cGDelta a.2.2.2))] [30000] x (fun (y:List GDelta)=>.tup []) (fun (y:List GDelta)=>[(30000,.arr 52 3 (y.length) (eF cGDelta y))]))
  (fun a=>⟨callable_of Proofs.Tryz.func157 (by kernel_rfl),fun _ h=>nomatch h⟩) (fun rec a=>T177s0 rec a.1 a.2.1 a.2.2.1 a.2.2.2) (fun rec a=>T177s0_ok rec a.1 a.2.1 a.2.2.1 a.2.2.2)
  I177 (fun a=>(a.2.2.1-a.1).toNat) Q177 (fun b f a ha hrec=>?_) true (In177 P A B Q) ⟨P,A,B,Q,rfl,hA0,hB0,hA,hB,ho,hn⟩
 ·exact h.imp fun d hd=>hd P A B Q rfl
 ·obtain⟨P,A,B,Q,rfl,hA0,hB0,hA,hB,ho,hn⟩:=ha
  refine(symM b f P A B Q hA0 hB0 hA hB ho hn (fun P' A' B' Q' a1 a2 a3 a4 a5 a6 a7=>?_)).imp fun d hd P' A' B' Q' he=>?_
  ·exact(hrec (In177 P' A' B' Q') ⟨P',A',B',Q',rfl,a1,a2,a3,a4,a5,a6⟩ (by simp only[In177]; omega)).imp fun d hd=>hd P' A' B' Q' rfl
  ·obtain⟨rfl,rfl,rfl,rfl⟩:=In177_inj he
   exact hd
def SrtIn(a b:Nat)(l:List GDelta):Prop:=∀ i j,a≤i→i<j→j<b→ltD (l.getD j default) (l.getD i default)=false
structure PI (a b:Nat)(l d:List GDelta):Prop where
 len:d.length=l.length
 out:∀ k,k<a∨b≤k→d.getD k default=l.getD k default
 perm:d.Perm l
theorem SrtIn.congr{a b:Nat}{l d:List GDelta}(h:SrtIn a b l)(he:∀ k,a≤k→k<b→d.getD k default=l.getD k default):SrtIn a b d:=by
 intro i j h1 h2 h3
 rw[he i h1 (by omega),he j (by omega) h3]
 exact h i j h1 h2 h3
theorem SrtIn.sub{a b a' b':Nat}{l:List GDelta}(h:SrtIn a b l)(h1:a≤a')(h2:b'≤b):SrtIn a' b' l:=fun i j q1 q2 q3=>h i j (by omega) q2 (by omega)
theorem G177_pos(a m b:Nat)(l:List GDelta)(h1:a<m)(h2:m<b)(h3:b≤l.length)(ha:SrtIn a m l)(hb:SrtIn m b l)(ho:okRs l)(hn:l.length≤1000000000000000):
  Sp (G177s0 (a:Int) (m:Int) (b:Int) l) (fun d=>PI a b l d∧SrtIn a b d):=by
 have e:l=l.take a++((l.drop a).take (m-a)++((l.drop m).take (b-m)++l.drop b)):=by
  have e1:l.drop m=(l.drop m).take (b-m)++l.drop b:=by
   conv=>lhs; rw[←List.take_append_drop (b-m) (l.drop m)]
   rw[List.drop_drop,show m+(b-m)=b by omega]
  have e2:l.drop a=(l.drop a).take (m-a)++l.drop m:=by
   conv=>lhs; rw[←List.take_append_drop (m-a) (l.drop a)]
   rw[List.drop_drop,show a+(m-a)=m by omega]
  rw[←e1,←e2,List.take_append_drop]
 have lP:(l.take a).length=a:=by simp; omega
 have lA:((l.drop a).take (m-a)).length=m-a:=by simp; omega
 have lB:((l.drop m).take (b-m)).length=b-m:=by simp; omega
 have gA:∀ k,k<m-a→((l.drop a).take (m-a)).getD k default=l.getD (a+k) default:=by
  intro k hk
  rw[getD_lt (by omega),getD_lt (by omega)]; simp
 have gB:∀ k,k<b-m→((l.drop m).take (b-m)).getD k default=l.getD (m+k) default:=by
  intro k hk
  rw[getD_lt (by omega),getD_lt (by omega)]; simp
 have h:=G177_in (l.take a) ((l.drop a).take (m-a)) ((l.drop m).take (b-m)) (l.drop b) (fun h0=>by rw[h0]at lA; simp at lA; omega) (fun h0=>by rw[h0]at lB; simp at lB; omega)
  (srt_get fun i j hij hj=>by rw[gA i (by omega),gA j (by omega)]; exact ha _ _ (by omega) (by omega) (by omega))
  (srt_get fun i j hij hj=>by rw[gB i (by omega),gB j (by omega)]; exact hb _ _ (by omega) (by omega) (by omega)) (by rw[←e]; exact ho) (by rw[←e]; exact hn)
 rw[lP,lA,lB,←e,show a+(m-a)=m by omega,show m+(b-m)=b by omega]at h
 refine h.imp fun d hd=>?_
 obtain⟨C,rfl,pC,sC⟩:=hd
 have lC:C.length=b-a:=by rw[pC.length_eq,List.length_append,lA,lB]; omega
 have lD:(l.drop b).length=l.length-b:=by simp
 refine⟨⟨by rw[List.length_append,List.length_append,lP,lC,lD]; omega,fun k hk=>?_,?_⟩,?_⟩
 ·rcases hk with hk | hk
  ·rw[getD_app,if_pos (by omega),getD_lt (by omega)]
   by_cases hl:k<l.length
   ·rw[getD_lt hl]; simp
   ·omega
  ·rw[getD_app,if_neg (by omega),getD_app,if_neg (by omega),lP,lC]
   by_cases hl:k<l.length
   ·rw[getD_lt (by omega),getD_lt hl]; simp; congr 1; omega
   ·rw[List.getD_eq_getElem?_getD,List.getElem?_eq_none (by omega),List.getD_eq_getElem?_getD,List.getElem?_eq_none (by omega)]
 ·conv=>rhs; rw[e]
  refine List.Perm.append_left _ ?_
  rw[←List.append_assoc]
  exact List.Perm.append_right _ pC
 ·intro i j q1 q2 q3
  rw[getD_app,if_neg (by omega),getD_app,if_pos (by omega),getD_app,if_neg (by omega),getD_app,if_pos (by omega)]
  exact sC.get (by omega) (by omega)
theorem ins_pos(a b:Nat)(l:List GDelta)(hab:a≤b)(hb:b≤l.length)(ho:okRs l)(hn:l.length≤1000000000000000):Sp (G176s1 (a:Int) (b:Int) l) (fun d=>PI a b l d∧SrtIn a b d):=by
 refine Sq.of_eq (G176s1_eq a b l hb hab hn ho) ?_
 have h:=Sort.insertionSort_holds swo_ltD l.toArray a b hab (by simpa using hb)
 obtain⟨⟨h1,h2,h3⟩,h4⟩:=h
 have g:∀ (k:Nat),(Sort.insertionSort ltD l.toArray a b).toList.getD k default=(Sort.insertionSort ltD l.toArray a b)[k]!:=fun k=>by rw[←getD_arr]
 refine⟨⟨by simpa using h1,fun k hk=>by rw[g,h2 k hk,getD_arr],?_⟩,fun i j q1 q2 q3=>by rw[g,g]; exact h4 i j q1 q2 q3⟩
 have h5:=Sort.permIn_mono _ _ a b 0 l.length (by omega) (by omega) (by simp) (show Sort.PermIn a b l.toArray (Sort.insertionSort ltD l.toArray a b) from ⟨h1,h2,h3⟩)
 have h6:=h5.2.2
 rw[show l.length=l.toArray.size by simp]at h6
 rw[show (Sort.insertionSort ltD l.toArray a b).extract 0 l.toArray.size=Sort.insertionSort ltD l.toArray a b by rw[←h1]; simp]at h6
 simpa using h6
theorem dvd_step{w a c:Nat}(ha:w∣a)(hc:w∣c)(h:c<a):c+w≤a:=by
 have:=Nat.le_of_dvd (by omega) (Nat.dvd_sub ha hc)
 omega
theorem G133s1_sp(l:List GDelta)(ho:okRs l)(hn:l.length≤100000000000000):Sp (G133s1 (l.length:Int) l) (fun d=>d.Perm l∧Srt d):=by
 unfold G133s1 T133s1
 simp only[Tr.den,sq_bind]
 refine Sq.while (fun s:List GDelta×Int×Int=>∃ a:Nat,s.2.1=a∧s.2.2=((a+20:Nat):Int)∧20∣a∧a≤l.length∧s.1.Perm l∧∀ c,20∣c→c+20≤a→SrtIn c (c+20) s.1) (fun s=>(l.length-s.2.1).toNat) (fun s hs=>?_)
  ⟨0,rfl,rfl,by simp,by omega,.refl _,fun c h1 h2=>by omega⟩
 obtain⟨d,i,j⟩:=s
 obtain⟨a,h1,h2,h3,h4,h5,h6⟩:=hs
 simp only at h1 h2 h5 h6
 subst h1 h2
 have hlen:=h5.length_eq
 unfold T133s1_L0
 simp only[Tr.den]
 by_cases hc:a+20≤l.length
 ·rw[if_pos (by simp; omega)]
  refine sq_bind.2 ((ins_pos a (a+20) d (by omega) (by omega) (ho.perm h5.symm) (by omega)).imp fun d' hd'=>?_)
  rw[wrap_id (by omega) (by omega)]
  refine sq_some.2 ⟨⟨a+20,rfl,by simp,?_,hc,hd'.1.perm.trans h5,fun c q1 q2=>?_⟩,by simp only; omega⟩
  ·omega
  ·by_cases hca:c<a
   ·exact(h6 c q1 (dvd_step h3 q1 hca)).congr fun k k1 k2=>hd'.1.out k (.inl (by have:=dvd_step h3 q1 hca; omega))
   ·have:c=a:=by omega
    subst this; exact hd'.2
 ·rw[if_neg (by simp; omega)]
  refine sq_some.2 ?_
  simp only[sel]
  refine sq_bind.2 ((ins_pos a l.length d h4 (by omega) (ho.perm h5.symm) (by omega)).imp fun d2 hd2=>?_)
  obtain⟨p2,s2⟩:=hd2
  have hp2:d2.Perm l:=p2.perm.trans h5
  have b2:∀ c,20∣c→SrtIn c (min (c+20) l.length) d2:=by
   intro c hc'
   by_cases hca:c<a
   ·have:=dvd_step h3 hc' hca
    exact((h6 c hc' this).congr fun k k1 k2=>p2.out k (.inl (by omega))).sub (by omega) (by omega)
   ·exact s2.sub (by omega) (by omega)
  clear h6 p2 s2
  refine sq_bind.2 ?_
  refine Sq.while (fun s:List GDelta×Int=>∃ w:Nat,s.2=w∧0<w∧w≤400000000000000∧s.1.Perm l∧∀ c,w∣c→SrtIn c (min (c+w) l.length) s.1) (fun s=>(l.length-s.2).toNat) (fun s hs=>?_) ⟨20,rfl,by omega,by omega,hp2,b2⟩
  obtain⟨d,i⟩:=s
  obtain⟨w,k1,k2,k3,k4,k5⟩:=hs
  simp only at k1 k4 k5
  subst k1
  unfold T133s1_L1
  simp only[Tr.den]
  by_cases hw:w<l.length
  ·rw[if_pos (by simp; omega)]
   have e2w:IntKind.i64.wrap (2*(w:Int))=((2*w:Nat):Int):=by rw[wrap_id] <;> omega
   rw[e2w]
   refine sq_bind.2 ?_
   refine Sq.while (fun s:List GDelta×Int×Int=>∃ a:Nat,s.2.1=a∧s.2.2=((a+2*w:Nat):Int)∧(2*w)∣a∧a≤l.length∧s.1.Perm l∧(∀ c,(2*w)∣c→c+2*w≤a→SrtIn c (c+2*w) s.1)∧∀ c,w∣c→a≤c→SrtIn c (min (c+w) l.length) s.1) (fun s=>(l.length-s.2.1).toNat) (fun s hs=>?_)
    ⟨0,rfl,by simp,by simp,by omega,k4,fun c q1 q2=>by omega,fun c q1 q2=>k5 c q1⟩
   obtain⟨d,i,j⟩:=s
   obtain⟨a,g1,g2,g3,g4,g5,g6,g7⟩:=hs
   simp only at g1 g2 g5 g6 g7
   subst g1 g2
   have hlen:=g5.length_eq
   have gw:w∣a:=Nat.dvd_trans ⟨2,by omega⟩ g3
   have gw':w∣a+w:=Nat.dvd_add gw (Nat.dvd_refl w)
   unfold T133s1_L2
   simp only[Tr.den]
   by_cases hb:a+2*w≤l.length
   ·rw[if_pos (by simp; omega),wrap_add (by omega),e2w,wrap_add (by omega)]
    refine sq_bind.2 ((G177_pos a (a+w) (a+2*w) d (by omega) (by omega) (by omega) ((g7 a gw (by omega)).sub (by omega) (by omega)) ((g7 (a+w) gw' (by omega)).sub (by omega) (by omega)) (ho.perm g5.symm) (by omega)).imp fun d' hd'=>?_)
    refine sq_some.2 ⟨⟨a+2*w,rfl,rfl,Nat.dvd_add g3 (Nat.dvd_refl _),hb,hd'.1.perm.trans g5,fun c q1 q2=>?_,fun c q1 q2=>?_⟩,by simp only; omega⟩
    ·by_cases hca:c<a
     ·have:=dvd_step g3 q1 hca
      exact(g6 c q1 this).congr fun k k1 k2=>hd'.1.out k (.inl (by omega))
     ·have:c=a:=by omega
      subst this; exact hd'.2
    ·exact(g7 c q1 (by omega)).congr fun k k1 k2=>hd'.1.out k (.inr (by omega))
   ·rw[if_neg (by simp; omega)]
    refine sq_some.2 ?_
    simp only[sel]
    rw[wrap_add (by omega)]
    refine Sq.bind (fun d'=>d'.Perm l∧SrtIn a l.length d'∧∀ k,k<a→d'.getD k default=d.getD k default) ?_ (fun d' hd'=>?_)
    ·by_cases hm:a+w<l.length
     ·rw[if_pos (by simp; omega)]
      refine sq_bind.2 ((G177_pos a (a+w) l.length d (by omega) (by omega) (by omega) ((g7 a gw (by omega)).sub (by omega) (by omega)) ((g7 (a+w) gw' (by omega)).sub (by omega) (by omega)) (ho.perm g5.symm) (by omega)).imp fun d' hd'=>?_)
      exact sq_some.2 ⟨hd'.1.perm.trans g5,hd'.2,fun k hk=>hd'.1.out k (.inl hk)⟩
     ·rw[if_neg (by simp; omega)]
      exact sq_some.2 ⟨g5,(g7 a gw (by omega)).sub (by omega) (by omega),fun _ _=>rfl⟩
    ·obtain⟨q1,q2,q3⟩:=hd'
     rw[show IntKind.i64.wrap ((w:Int)*2)=((2*w:Nat):Int) by rw[wrap_id] <;> omega]
     refine sq_some.2 ⟨⟨2*w,rfl,by omega,by omega,q1,fun c hc'=>?_⟩,by simp only; omega⟩
     by_cases hca:c<a
     ·have:=dvd_step g3 hc' hca
      exact((g6 c hc' this).congr fun k k1 k2=>q3 k (by omega)).sub (by omega) (by omega)
     ·exact q2.sub (by omega) (by omega)
  ·rw[if_neg (by simp; omega)]
   refine sq_some.2 ?_
   simp only[sel]
   refine sq_some.2 ⟨k4,srt_get fun i j hij hj=>?_⟩
   have:=k5 0 (by simp)
   rw[k4.length_eq]at hj
   exact this i j (by omega) hij (by omega)
theorem G63s1_sp(l:List GDelta)(ho:okRs l)(hn:l.length≤100000000000000):Sp (G63s1 l) (fun d=>d.Perm l∧Srt d):=by
 unfold G63s1 T63s1
 simp only[Tr.den,sq_bind]
 exact(G133s1_sp l ho hn).imp fun d hd=>sq_some.2 hd
abbrev Pl:=Int×List GValue
def wt(p:Pl→Bool):List GDelta→Int
 | []=>0
 | x::l=>(if p (pl x)=true then x.N else 0)+wt p l
theorem wt_app(p:Pl→Bool)(l r:List GDelta):wt p (l++r)=wt p l+wt p r:=by
 induction l with
 | nil=>simp[wt]
 | cons x l ih=>simp only[List.cons_append,wt,ih]; omega
theorem wt_perm(p:Pl→Bool){l r:List GDelta}(h:l.Perm r):wt p l=wt p r:=by
 induction h with
 | nil=>rfl
 | cons x _ ih=>simp only[wt,ih]
 | swap x y l=>simp only[wt]; omega
 | trans _ _ h1 h2=>exact h1.trans h2
abbrev W (n:Int):Int:=IntKind.i64.wrap n
def Same(l r:List GDelta):Prop:=∀ p,W (wt p l)=W (wt p r)
theorem W_add{a b c d:Int}(h:W a=W c)(h':W b=W d):W (a+b)=W (c+d):=by
 have e1:W (a+b)=W (W a+W b):=by show IntKind.i64.wrap _=IntKind.i64.wrap _; rw[wrap_addL,wrap_addR]
 have e2:W (c+d)=W (W c+W d):=by show IntKind.i64.wrap _=IntKind.i64.wrap _; rw[wrap_addL,wrap_addR]
 rw[e1,e2,h,h']
theorem Same.refl(l:List GDelta):Same l l:=fun _=>rfl
theorem Same.symm{l r:List GDelta}(h:Same l r):Same r l:=fun p=>(h p).symm
theorem Same.trans{l r s:List GDelta}(h:Same l r)(h':Same r s):Same l s:=fun p=>(h p).trans (h' p)
theorem Same.app{l r l' r':List GDelta}(h:Same l r)(h':Same l' r'):Same (l++l') (r++r'):=fun p=>by
 rw[wt_app,wt_app]; exact W_add (h p) (h' p)
theorem Same.of_perm{l r:List GDelta}(h:l.Perm r):Same l r:=fun p=>by rw[wt_perm p h]
def in64(n:Int):Prop:=-9223372036854775808≤n∧n≤9223372036854775807
theorem W_id{n:Int}(h:in64 n):W n=n:=wrap_id h.1 h.2
theorem W_in(n:Int):in64 (W n):=wrap_in n
structure Can (l:List GDelta):Prop where
 lt:l.Pairwise (fun x y=>cmpD x y<0)
 nz:∀ x,x∈l→x.N≠0
 n64:∀ x,x∈l→in64 x.N
theorem Can.nil:Can []:=⟨.nil,by simp,by simp⟩
theorem Can.tail{x:GDelta}{l:List GDelta}(h:Can (x::l)):Can l:=⟨(List.pairwise_cons.1 h.lt).2,fun y hy=>h.nz y (List.mem_cons_of_mem _ hy),fun y hy=>h.n64 y (List.mem_cons_of_mem _ hy)⟩
theorem Can.head{x:GDelta}{l:List GDelta}(h:Can (x::l)):∀ y,y∈l→cmpD x y<0:=(List.pairwise_cons.1 h.lt).1
theorem wt_none{p:Pl→Bool}{l:List GDelta}(h:∀ y,y∈l→p (pl y)=false):wt p l=0:=by
 induction l with
 | nil=>rfl
 | cons x l ih=>simp only[wt,h x (List.mem_cons_self),ih fun y hy=>h y (List.mem_cons_of_mem _ hy)]; rfl
theorem cmpD_ne{x y:GDelta}(h:cmpD x y<0):pl x≠pl y:=by
 intro he
 rw[cmpD_eq,he,(TO.place.eq _ _).2 rfl]at h
 omega
theorem cmpD_zero{x y:GDelta}:cmpD x y=0↔pl x=pl y:=TO.place.eq (pl x) (pl y)
theorem cmpD_gt{x y:GDelta}:0<cmpD x y↔cmpD y x<0:=(TO.place.sw (pl y) (pl x)).symm
def at1(q:Pl):Pl→Bool:=fun r=>cmpP q r==0
theorem at1_iff{q r:Pl}:at1 q r=true↔q=r:=by unfold at1; rw[beq_iff_eq]; exact TO.place.eq _ _
theorem at1_self(q:Pl):at1 q q=true:=at1_iff.2 rfl
theorem at1_ne{q r:Pl}(h:q≠r):at1 q r=false:=by
 cases hc:at1 q r with
 | false=>rfl
 | true=>exact absurd (at1_iff.1 hc) h
theorem Can.wt_mem{l:List GDelta}(h:Can l){x:GDelta}(hx:x∈l):wt (at1 (pl x)) l=x.N:=by
 induction l with
 | nil=>simp at hx
 | cons y l ih=>
  simp only[wt]
  rcases List.mem_cons.1 hx with rfl | hx'
  ·rw[if_pos (at1_self _),wt_none fun z hz=>at1_ne (cmpD_ne (h.head z hz))]; omega
  ·rw[ih h.tail hx',if_neg (by rw[at1_ne (Ne.symm (cmpD_ne (h.head x hx')))]; simp)]; omega
theorem Can.wt_not{l:List GDelta}{q:Pl}(hx:∀ y,y∈l→pl y≠q):wt (at1 q) l=0:=wt_none fun y hy=>at1_ne (Ne.symm (hx y hy))
theorem pl_ext{x y:GDelta}(h:pl x=pl y)(hn:x.N=y.N):x=y:=by
 cases x; cases y
 simp only[pl,Prod.mk.injEq]at h hn
 obtain⟨rfl,rfl⟩:=h
 subst hn; rfl
theorem Can.ext:∀ {l r:List GDelta},Can l→Can r→Same l r→l=r:=by
 have key:∀ {x:GDelta} {l r:List GDelta},Can (x::l)→Same (x::l) r→(∀ y,y∈r→cmpD x y<0)→False:=by
  intro x l r hl hs hy
  have h1:=hs (at1 (pl x))
  rw[hl.wt_mem List.mem_cons_self,Can.wt_not (fun y h=>Ne.symm (cmpD_ne (hy y h)))]at h1
  rw[W_id (hl.n64 x List.mem_cons_self)]at h1
  exact hl.nz x List.mem_cons_self h1
 intro l
 induction l with
 | nil=>
  intro r _ hr hs
  cases r with
  | nil=>rfl
  | cons y r=>exact(key hr hs.symm (by simp)).elim
 | cons x l ih=>
  intro r hl hr hs
  cases r with
  | nil=>exact(key hl hs (by simp)).elim
  | cons y r=>
   by_cases h1:cmpD x y<0
   ·exact(key hl hs fun z hz=>by
     rcases List.mem_cons.1 hz with rfl | hz
     ·exact h1
     ·exact cmpD_tr h1 (hr.head z hz)).elim
   ·by_cases h2:cmpD y x<0
    ·exact(key hr hs.symm fun z hz=>by
      rcases List.mem_cons.1 hz with rfl | hz
      ·exact h2
      ·exact cmpD_tr h2 (hl.head z hz)).elim
    ·have h3:cmpD x y=0:=by
      have:=cmpD_gt (x:=x) (y:=y)
      omega
     have hp:=cmpD_zero.1 h3
     have hn:x.N=y.N:=by
      have h4:=hs (at1 (pl x))
      rw[hl.wt_mem List.mem_cons_self,hp,hr.wt_mem List.mem_cons_self,W_id (hl.n64 x List.mem_cons_self),W_id (hr.n64 y List.mem_cons_self)]at h4
      exact h4
     have hxy:=pl_ext hp hn
     subst hxy
     rw[ih hl.tail hr.tail fun p=>?_]
     have h5:=hs p
     simp only[wt]at h5
     have h6:=W_add (a:=-(if p (pl x)=true then x.N else 0)) (c:=-(if p (pl x)=true then x.N else 0)) rfl h5
     rwa [Int.neg_add_cancel_left,Int.neg_add_cancel_left]at h6
def insD(d:GDelta):List GDelta→List GDelta
 | []=>if d.N=0 then [] else [d]
 | x::l=>if cmpD d x<0 then (if d.N=0 then x::l else d::x::l) else if cmpD d x=0 then (if W (x.N+d.N)=0 then l else ⟨x.Time,x.Row,W (x.N+d.N)⟩::l) else x::insD d l
def cons(l:List GDelta):List GDelta:=l.foldr insD []
theorem insD_wt(d:GDelta)(p:Pl→Bool):∀ l,W (wt p (insD d l))=W (wt p (d::l))
 | []=>by
  simp only[insD,wt]
  by_cases h:d.N=0
  ·rw[if_pos h,h]; simp[wt]
  ·rw[if_neg h]; rfl
 | x::l=>by
  simp only[insD]
  by_cases h1:cmpD d x<0
  ·rw[if_pos h1]
   by_cases h:d.N=0
   ·rw[if_pos h]; simp only[wt,h]; congr 1; split <;> omega
   ·rw[if_neg h]
  ·rw[if_neg h1]
   by_cases h2:cmpD d x=0
   ·rw[if_pos h2]
    have hp:=cmpD_zero.1 h2
    have e:wt p (d::x::l)=(if p (pl x)=true then x.N+d.N else 0)+wt p l:=by
     simp only[wt,hp]; split <;> omega
    rw[e]
    by_cases h3:W (x.N+d.N)=0
    ·rw[if_pos h3]
     by_cases hpx:p (pl x)=true
     ·rw[if_pos hpx]
      have h0:W (x.N+d.N)=W 0:=by rw[h3]; rfl
      have:=W_add h0 (rfl:W (wt p l)=W (wt p l))
      rw[this]; simp
     ·rw[if_neg hpx]; simp
    ·rw[if_neg h3]
     simp only[wt]
     rw[show pl (⟨x.Time,x.Row,W (x.N+d.N)⟩:GDelta)=pl x from rfl]
     by_cases hpx:p (pl x)=true
     ·rw[if_pos hpx,if_pos hpx]; exact wrap_addL _ _
     ·rw[if_neg hpx,if_neg hpx]
   ·rw[if_neg h2]
    have ih:=insD_wt d p l
    have:W (wt p (x::insD d l))=W (wt p (x::d::l)):=by
     simp only[wt]at ih ⊢
     exact W_add rfl ih
    rw[this]
    simp only[wt]; congr 1; omega
theorem insD_mem{d:GDelta}:∀ {l:List GDelta} {y:GDelta},y∈insD d l→pl y=pl d∨∃ z,z∈l∧pl y=pl z
 | [],y,h=>by
  simp only[insD]at h
  split at h
  ·simp at h
  ·simp at h; exact .inl (by rw[h])
 | x::l,y,h=>by
  simp only[insD]at h
  split at h
  ·split at h
   ·exact .inr ⟨y,h,rfl⟩
   ·rcases List.mem_cons.1 h with rfl | h
    ·exact .inl rfl
    ·exact .inr ⟨y,h,rfl⟩
  ·split at h
   ·rename_i h2
    split at h
    ·exact .inr ⟨y,List.mem_cons_of_mem _ h,rfl⟩
    ·rcases List.mem_cons.1 h with rfl | h
     ·exact .inr ⟨x,List.mem_cons_self,rfl⟩
     ·exact .inr ⟨y,List.mem_cons_of_mem _ h,rfl⟩
   ·rcases List.mem_cons.1 h with rfl | h
    ·exact .inr ⟨y,List.mem_cons_self,rfl⟩
    ·rcases insD_mem h with h | ⟨z,hz,he⟩
     ·exact .inl h
     ·exact .inr ⟨z,List.mem_cons_of_mem _ hz,he⟩
theorem cmpD_congr{x y x' y':GDelta}(h:pl x=pl x')(h':pl y=pl y'):cmpD x y=cmpD x' y':=by rw[cmpD_eq,cmpD_eq,h,h']
theorem insD_can{d:GDelta}(hd:in64 d.N):∀ {l:List GDelta},Can l→Can (insD d l)
 | [],_=>by
  simp only[insD]
  split
  ·exact .nil
  ·rename_i h
   exact⟨List.pairwise_singleton _ _,fun x hx=>by rw[List.mem_singleton.1 hx]; exact h,fun x hx=>by rw[List.mem_singleton.1 hx]; exact hd⟩
 | x::l,h=>by
  simp only[insD]
  split
  ·rename_i h1
   split
   ·exact h
   ·rename_i h2
    refine⟨List.pairwise_cons.2 ⟨fun y hy=>?_,h.lt⟩,fun y hy=>?_,fun y hy=>?_⟩
    ·rcases List.mem_cons.1 hy with rfl | hy
     ·exact h1
     ·exact cmpD_tr h1 (h.head y hy)
    ·rcases List.mem_cons.1 hy with rfl | hy
     ·exact h2
     ·exact h.nz y hy
    ·rcases List.mem_cons.1 hy with rfl | hy
     ·exact hd
     ·exact h.n64 y hy
  ·rename_i h1
   split
   ·split
    ·exact h.tail
    ·rename_i h3
     refine⟨List.pairwise_cons.2 ⟨fun y hy=>h.head y hy,h.tail.lt⟩,fun y hy=>?_,fun y hy=>?_⟩
     ·rcases List.mem_cons.1 hy with rfl | hy
      ·exact h3
      ·exact h.tail.nz y hy
     ·rcases List.mem_cons.1 hy with rfl | hy
      ·exact W_in _
      ·exact h.tail.n64 y hy
   ·rename_i h2
    have ih:=insD_can hd h.tail
    have hxd:cmpD x d<0:=by have:=cmpD_gt (x:=d) (y:=x); omega
    refine⟨List.pairwise_cons.2 ⟨fun y hy=>?_,ih.lt⟩,fun y hy=>?_,fun y hy=>?_⟩
    ·rcases insD_mem hy with he | ⟨z,hz,he⟩
     ·rw[cmpD_congr rfl he]; exact hxd
     ·rw[cmpD_congr rfl he]; exact h.head z hz
    ·rcases List.mem_cons.1 hy with rfl | hy
     ·exact h.nz y List.mem_cons_self
     ·exact ih.nz y hy
    ·rcases List.mem_cons.1 hy with rfl | hy
     ·exact h.n64 y List.mem_cons_self
     ·exact ih.n64 y hy
def okN(l:List GDelta):Prop:=∀ x,x∈l→in64 x.N
theorem cons_can{l:List GDelta}(h:okN l):Can (cons l):=by
 induction l with
 | nil=>exact .nil
 | cons x l ih=>exact insD_can (h x List.mem_cons_self) (ih fun y hy=>h y (List.mem_cons_of_mem _ hy))
theorem cons_same(l:List GDelta):Same (cons l) l:=by
 induction l with
 | nil=>exact .refl _
 | cons x l ih=>
  intro p
  rw[show cons (x::l)=insD x (cons l) from rfl,insD_wt]
  simp only[wt]
  exact W_add rfl (ih p)
theorem cons_eq{l r:List GDelta}(h:Can r)(hl:okN l)(hs:Same r l):cons l=r:=(cons_can hl).ext h ((cons_same l).trans hs.symm)
theorem cons_mem{l:List GDelta}:∀ {y:GDelta},y∈cons l→∃ z,z∈l∧pl y=pl z:=by
 induction l with
 | nil=>intro y hy; simp[cons]at hy
 | cons x l ih=>
  intro y hy
  rcases insD_mem (show y∈insD x (cons l) from hy) with h | ⟨z,hz,h⟩
  ·exact⟨x,List.mem_cons_self,h⟩
  ·obtain⟨u,hu,h'⟩:=ih hz
   exact⟨u,List.mem_cons_of_mem _ hu,h.trans h'⟩
theorem insD_len(d:GDelta):∀ l:List GDelta,(insD d l).length≤l.length+1
 | []=>by simp only[insD]; split <;> simp
 | x::l=>by
  have:=insD_len d l
  simp only[insD]
  split
  ·split <;> simp
  ·split
   ·split
    ·simp; omega
    ·simp
   ·simp; omega
theorem cons_len(l:List GDelta):(cons l).length≤l.length:=by
 induction l with
 | nil=>simp[cons]
 | cons x l ih=>
  have:=insD_len x (cons l)
  show (insD x (cons l)).length≤_
  simp only[List.length_cons]
  omega
theorem cons_id{l:List GDelta}(h:Can l):cons l=l:=cons_eq h h.n64 (.refl _)
theorem Can.filter{l:List GDelta}(h:Can l)(p:GDelta→Bool):Can (l.filter p):=⟨h.lt.filter p,fun x hx=>h.nz x (List.mem_filter.1 hx).1,fun x hx=>h.n64 x (List.mem_filter.1 hx).1⟩
theorem wt_filter(p q:Pl→Bool)(l:List GDelta):wt p (l.filter fun d=>q (pl d))=wt (fun r=>p r&&q r) l:=by
 induction l with
 | nil=>rfl
 | cons x l ih=>
  simp only[List.filter_cons,wt]
  by_cases hq:q (pl x)=true
  ·rw[if_pos hq]; simp only[wt,ih,hq,Bool.and_true]
  ·rw[if_neg hq]
   have hq':q (pl x)=false:=by simpa using hq
   simp[ih,hq']
theorem Same.filter{l r:List GDelta}(h:Same l r)(q:Pl→Bool):Same (l.filter fun d=>q (pl d)) (r.filter fun d=>q (pl d)):=fun p=>by rw[wt_filter,wt_filter]; exact h _
theorem G42s0_eq(l:List GDelta)(h:l.length≤1000000000000):G42s0 l=some l:=by
 unfold G42s0
 refine Det.eq ?_
 unfold T42s0
 simp only[Tr.wpT]
 refine⟨fun h0=>?_,?_⟩
 ·rw[if_pos trivial]; exact(List.eq_nil_of_length_eq_zero h0).symm
 ·rw[if_neg (by simp)]
  refine⟨by simp only[List.length_nil]; omega,rfl⟩
theorem G64s0_eq(l:List GValue)(h:l.length≤1000000000000):G64s0 l=some l:=by
 unfold G64s0
 refine Det.eq ?_
 unfold T64s0
 simp only[Tr.wpT]
 refine⟨fun h0=>?_,?_⟩
 ·rw[if_pos trivial]; exact(List.eq_nil_of_length_eq_zero h0).symm
 ·rw[if_neg (by simp)]
  refine⟨by simp only[List.length_nil]; omega,rfl⟩
theorem G36_eq(l:List Int)(h:l.length≤1000000000000):G36 l=some l:=by
 unfold G36
 refine Det.eq ?_
 unfold T36
 simp only[Tr.wpT]
 refine⟨fun h0=>?_,?_⟩
 ·rw[if_pos trivial]; exact(List.eq_nil_of_length_eq_zero h0).symm
 ·rw[if_neg (by simp)]
  refine⟨by simp only[List.length_nil]; omega,rfl⟩
def all1:Pl→Bool:=fun _=>true
theorem wt_same{l:List GDelta}{q:Pl}(h:∀ x,x∈l→pl x=q)(p:Pl→Bool):wt p l=if p q=true then wt all1 l else 0:=by
 induction l with
 | nil=>simp[wt]
 | cons x l ih=>
  simp only[wt,h x List.mem_cons_self,ih fun y hy=>h y (List.mem_cons_of_mem _ hy),all1]
  by_cases hp:p q=true <;> simp[hp]
theorem inner27(v3 v4:List GDelta)(h0:0<v3.length)(ho:okRs v3)(hN:okN v3)(hn:v3.length≤1000000000000):
  Sp (whileM (fun s=>(T27_L1 v3 s).den) ((v3.getD 0 default).N,v4,1))
   (sel (fun r:Int×List GDelta×Int=>∃ k:Nat,r=(W (wt all1 (v3.take k)),v4,(k:Int))∧1≤k∧k≤v3.length∧(∀ x,x∈v3.take k→pl x=pl (v3.getD 0 default))∧(k<v3.length→pl (v3.getD k default)≠pl (v3.getD 0 default))) (fun _=>False)):=by
 refine Sq.while (fun s:Int×List GDelta×Int=>∃ k:Nat,s=(W (wt all1 (v3.take k)),v4,(k:Int))∧1≤k∧k≤v3.length∧(∀ x,x∈v3.take k→pl x=pl (v3.getD 0 default))) (fun s=>(v3.length-s.2.2).toNat) (fun s hs=>?_) ⟨1,?_,by omega,by omega,?_⟩
 ·obtain⟨k,rfl,h1,h2,h3⟩:=hs
  unfold T27_L1
  simp only[Tr.den,Int.toNat_natCast,Int.toNat_zero]
  by_cases hk:k<v3.length
  ·rw[if_pos (decT (by omega)),if_pos (by omega)]
   rw[G61_eq (⟨(v3.getD 0 default).Time,(v3.getD 0 default).Row,W (wt all1 (v3.take k))⟩:GDelta) _ (show okR _ from ho.get 0) (ho.get k)]
   simp only[Option.bind_some]
   have e:cmpD (⟨(v3.getD 0 default).Time,(v3.getD 0 default).Row,W (wt all1 (v3.take k))⟩:GDelta) (v3.getD k default)=cmpD (v3.getD 0 default) (v3.getD k default):=rfl
   rw[e]
   by_cases hc:cmpD (v3.getD 0 default) (v3.getD k default)=0
   ·rw[if_pos (beqT hc),if_pos (by omega)]
    have hp:=cmpD_zero.1 hc
    have e2:W (W (wt all1 (v3.take k))+(v3.getD k default).N)=W (wt all1 (v3.take (k+1))):=by
     rw[take_succ_getD hk,wt_app]
     simp only[wt,all1]
     refine(wrap_addL _ _).trans ?_
     simp
    rw[show IntKind.i64.wrap (W (wt all1 (v3.take k))+(v3.getD k default).N)=_ from e2,wrap_inc (by omega)]
    refine sq_some.2 ⟨⟨k+1,rfl,by omega,by omega,fun x hx=>?_⟩,by simp only; omega⟩
    rw[take_succ_getD hk,List.mem_append,List.mem_singleton]at hx
    rcases hx with hx | rfl
    ·exact h3 x hx
    ·exact hp.symm
   ·rw[if_neg (beqF hc)]
    refine sq_some.2 ⟨k,rfl,h1,h2,h3,fun _ he=>hc (cmpD_zero.2 he.symm)⟩
  ·rw[if_neg (decF (by omega))]
   simp only[Option.bind_some,Bool.false_eq_true,if_false]
   exact sq_some.2 ⟨k,rfl,h1,h2,h3,fun h=>absurd h hk⟩
 ·rw[take_succ_getD h0]
  simp only[List.take_zero,List.nil_append,wt,all1,if_true,Int.add_zero]
  rw[W_id (hN _ (getD_mem h0))]; rfl
 ·intro x hx
  rw[take_succ_getD h0]at hx
  simp only[List.take_zero,List.nil_append,List.mem_singleton]at hx
  rw[hx]
theorem ltD_false{x y:GDelta}(h:ltD x y=false):¬ cmpD x y<0:=of_decide_eq_false h
theorem loop27(l d:List GDelta)(hd:d.Perm l)(hs:Srt d)(ho:okRs l)(hN:okN l)(hn:l.length≤1000000000000):
  Sp (whileM (fun s=>(T27_L0 s).den) (d,([]:List GDelta))) (sel (fun r=>r=cons l) (fun _=>False)):=by
 refine Sq.while (fun s:List GDelta×List GDelta=>Srt s.1∧okRs s.1∧okN s.1∧Can s.2∧(∀ x,x∈s.2→∀ y,y∈s.1→cmpD x y<0)∧Same (s.2++s.1) l∧s.2.length+s.1.length≤l.length) (fun s=>s.1.length) (fun s hs=>?_)
  ⟨hs,ho.perm hd.symm,fun x hx=>hN x (hd.mem_iff.1 hx),.nil,by simp,.of_perm hd,by simp[hd.length_eq]⟩
 obtain⟨v3,v4⟩:=s
 obtain⟨h1,h2,h3,h4,h5,h6,h7⟩:=hs
 simp only at h1 h2 h3 h4 h5 h6 h7
 unfold T27_L0
 simp only[Tr.den,Int.toNat_zero]
 by_cases h0:0<v3.length
 ·rw[if_pos (decT (by omega)),if_pos (by omega)]
  refine Sq.bind _ (inner27 v3 v4 h0 h2 h3 (by omega)) (fun z hz=>?_)
  cases z with
  | inr z=>exact hz.elim
  | inl z=>
   obtain⟨k,rfl,k1,k2,k3,k4⟩:=hz
   simp only[sel]
   have hsp:v3=v3.take k++v3.drop k:=(List.take_append_drop k v3).symm
   have hd0:v3.getD 0 default∈v3:=getD_mem h0
   have hgt:∀ y,y∈v3.drop k→cmpD (v3.getD 0 default) y<0:=by
    intro y hy
    obtain⟨j,j1,j2,rfl⟩:=mem_drop_getD hy
    have hk:k<v3.length:=by omega
    have a1:=ltD_false (h1.get (i:=0) (j:=k) (by omega) hk)
    have a2:cmpD (v3.getD 0 default) (v3.getD k default)<0:=by
     have b1:cmpD (v3.getD 0 default) (v3.getD k default)≠0:=fun he=>k4 hk (cmpD_zero.1 he).symm
     have b2:=cmpD_gt (x:=v3.getD 0 default) (y:=v3.getD k default)
     omega
    have a3:=ltD_false (h1.get (i:=k) (j:=j) j1 j2)
    by_cases hc:cmpD (v3.getD 0 default) (v3.getD j default)<0
    ·exact hc
    ·have:=swo_ltD.ntrans (v3.getD 0 default) (v3.getD j default) (v3.getD k default) (decide_eq_false hc) (decide_eq_false a3)
     exact absurd a2 (ltD_false this)
   have hw:∀ p,W (wt p (v4++v3))=W (wt p v4+(if p (pl (v3.getD 0 default))=true then W (wt all1 (v3.take k)) else 0)+wt p (v3.drop k)):=by
    intro p
    conv=>lhs; rw[hsp]
    rw[wt_app,wt_app,wt_same k3 p,←Int.add_assoc]
    refine W_add ?_ rfl
    refine W_add rfl ?_
    split
    ·exact(wrap_wrap _).symm
    ·rfl
   have hbind:∀ v5:List GDelta,Can v5→(∀ x,x∈v5→∀ y,y∈v3.drop k→cmpD x y<0)→(∀ p,W (wt p v5)=W (wt p v4+(if p (pl (v3.getD 0 default))=true then W (wt all1 (v3.take k)) else 0)))→v5.length≤v4.length+1 →
     Sp (if 0≤(k:Int)∧(k:Int)≤(v3.length:Int)∧(v3.length:Int)≤(v3.length:Int) then some (Sum.inl ((v3.drop (k:Int).toNat).take ((v3.length:Int)-(k:Int)).toNat,v5)) else none)
      (sel (fun s':List GDelta×List GDelta=>(Srt s'.1∧okRs s'.1∧okN s'.1∧Can s'.2∧(∀ x,x∈s'.2→∀ y,y∈s'.1→cmpD x y<0)∧Same (s'.2++s'.1) l∧s'.2.length+s'.1.length≤l.length)∧s'.1.length<v3.length) (sel (fun r=>r=cons l) (fun _:List GDelta=>False))):=by
    intro v5 c1 c2 c3 c4
    rw[if_pos (by omega)]
    have e:(v3.drop (k:Int).toNat).take ((v3.length:Int)-(k:Int)).toNat=v3.drop k:=by
     rw[Int.toNat_natCast]; exact List.take_of_length_le (by simp only[List.length_drop]; omega)
    rw[e]
    refine sq_some.2 ⟨⟨h1.drop k,fun x hx=>h2 x (List.mem_of_mem_drop hx),fun x hx=>h3 x (List.mem_of_mem_drop hx),c1,c2,fun p=>?_,by simp; omega⟩,by simp; omega⟩
    rw[←h6 p,hw p,wt_app]
    exact W_add (c3 p) rfl
   by_cases hz:W (wt all1 (v3.take k))=0
   ·rw[if_neg (bneF hz)]
    simp only[Option.bind_some]
    refine hbind v4 h4 (fun x hx y hy=>h5 x hx y (List.mem_of_mem_drop hy)) (fun p=>?_) (by omega)
    rw[hz]; simp
   ·rw[if_pos (bneT hz)]
    rw[G64s0_eq _ (by have:=h2 _ hd0; unfold okR at this; omega)]
    simp only[Option.bind_some,List.length_singleton]
    rw[if_pos (by omega)]
    simp only[Option.bind_some]
    refine hbind (v4++[⟨(v3.getD 0 default).Time,(v3.getD 0 default).Row,W (wt all1 (v3.take k))⟩]) ⟨?_,?_,?_⟩ ?_ (fun p=>?_) (by simp)
    ·refine List.pairwise_append.2 ⟨h4.lt,List.pairwise_singleton _ _,fun x hx y hy=>?_⟩
     rw[List.mem_singleton.1 hy]
     exact h5 x hx (v3.getD 0 default) hd0
    ·intro x hx
     rcases List.mem_append.1 hx with hx | hx
     ·exact h4.nz x hx
     ·rw[List.mem_singleton.1 hx]; exact hz
    ·intro x hx
     rcases List.mem_append.1 hx with hx | hx
     ·exact h4.n64 x hx
     ·rw[List.mem_singleton.1 hx]; exact W_in _
    ·intro x hx y hy
     rcases List.mem_append.1 hx with hx | hx
     ·exact h5 x hx y (List.mem_of_mem_drop hy)
     ·rw[List.mem_singleton.1 hx]; exact hgt y hy
    ·rw[wt_app]
     simp only[wt,Int.add_zero]
     rfl
 ·rw[if_neg (decF (by omega))]
  refine sq_some.2 ?_
  have:v3=[]:=List.eq_nil_of_length_eq_zero (by omega)
  subst this
  rw[List.append_nil]at h6
  exact(cons_eq h4 hN h6).symm
theorem G27_eq(l:List GDelta)(ho:okRs l)(hN:okN l)(hn:l.length≤1000000000000):G27 l=some (cons l):=by
 refine Sp.eq ?_
 unfold G27 T27
 simp only[Tr.den]
 rw[G42s0_eq l hn]
 simp only[Option.bind_some]
 refine Sq.bind _ (G63s1_sp l ho (by omega)) (fun d hd=>?_)
 refine Sq.bind _ (loop27 l d hd.1 hd.2 ho hN hn) (fun z hz=>?_)
 cases z with
 | inr z=>exact hz.elim
 | inl z=>exact sq_some.2 hz
theorem T27s0_L0_eq:T27s0_L0=T27_L0:=rfl
theorem G27s0_eq'(l:List GDelta):G27s0 l=G27 l:=by
 unfold G27s0 G27 T27s0 T27
 simp only[Tr.den,T27s0_L0_eq]
theorem G27s0_eq(l:List GDelta)(ho:okRs l)(hN:okN l)(hn:l.length≤1000000000000):G27s0 l=some (cons l):=(G27s0_eq' l).trans (G27_eq l ho hN hn)
theorem G104s0_eq(n:Nat)(h:n≤1000000000000):G104s0 (n:Int)=some []:=by
 unfold G104s0 T104s0
 simp only[Tr.den]
 rw[if_neg (decF (by omega)),show IntKind.i64.wrap ((n:Int)-0)=(n:Int) by rw[wrap_id] <;> omega]
 by_cases h0:(n:Int)>0
 ·rw[if_pos (decT h0),if_pos (by simp; omega),if_pos (by simp)]
  rfl
 ·rw[if_neg (decF h0)]; rfl
theorem G209s0_eq(n:Nat)(h:n≤1000000000000):G209s0 (n:Int)=some []:=by
 unfold G209s0 T209s0
 simp only[Tr.den]
 rw[if_neg (decF (by omega)),show IntKind.i64.wrap ((n:Int)-0)=(n:Int) by rw[wrap_id] <;> omega]
 by_cases h0:(n:Int)>0
 ·rw[if_pos (decT h0),if_pos (by simp; omega),if_pos (by simp)]
  rfl
 ·rw[if_neg (decF h0)]; rfl
theorem flat_take{α:Type}[Inhabited α](ls:List (List α))(i:Nat)(hi:i<ls.length):(ls.take (i+1)).flatten=(ls.take i).flatten++ls.getD i default:=by
 rw[take_succ_getD hi]; simp
theorem flat_le{α:Type}[Inhabited α](ls:List (List α))(i:Nat):(ls.take i).flatten.length≤ls.flatten.length:=by
 have:ls.flatten=(ls.take i).flatten++(ls.drop i).flatten:=by rw[←List.flatten_append,List.take_append_drop]
 rw[this,List.length_append]; omega
theorem G39_eq(ls:List (List GDelta))(h:ls.flatten.length≤1000000000000)(hl:ls.length≤1000000000000):G39 ls=some ls.flatten:=by
 unfold G39 T39
 simp only[Tr.den]
 have h1:=while_trace (bd:=fun s=>(T39_L0 ls s).den) (fun i=>(((ls.take i).flatten.length:Int),(i:Int))) ls.length (r:=.inl (ls.flatten.length:Int)) (fun i hi=>?_) ?_
 ·refine(congrArg (fun x=>Option.bind x _) h1).trans ?_
  simp only[Option.bind_some,sel]
  rw[G104s0_eq _ h]
  simp only[Option.bind_some]
  have h2:=while_trace (bd:=fun s=>(T39_L1 ls s).den) (fun i=>((ls.take i).flatten,(i:Int))) ls.length (r:=.inl ls.flatten) (fun i hi=>?_) ?_
  ·refine(congrArg (fun x=>Option.bind x _) h2).trans ?_
   rfl
  ·unfold T39_L1
   simp only[Tr.den,Int.toNat_natCast]
   have:=flat_le ls (i+1)
   rw[flat_take ls i hi,List.length_append]at this
   rw[if_pos (decT (by omega)),if_pos (by omega),if_pos (by omega),wrap_inc (by omega),flat_take ls i hi]
  ·unfold T39_L1
   simp only[Tr.den]
   rw[if_neg (decF (by omega)),List.take_length]
 ·unfold T39_L0
  simp only[Tr.den,Int.toNat_natCast]
  have:=flat_le ls (i+1)
  rw[flat_take ls i hi,List.length_append]at this
  rw[if_pos (decT (by omega)),if_pos (by omega),if_neg (decF (by rw[wrap_add (by omega)]; omega)),wrap_add (by omega),wrap_inc (by omega),flat_take ls i hi,List.length_append]
 ·unfold T39_L0
  simp only[Tr.den]
  rw[if_neg (decF (by omega)),List.take_length]
theorem G193_eq(ls:List (List GValue))(h:ls.flatten.length≤1000000000000)(hl:ls.length≤1000000000000):G193 ls=some ls.flatten:=by
 unfold G193 T193
 simp only[Tr.den]
 have h1:=while_trace (bd:=fun s=>(T193_L0 ls s).den) (fun i=>(((ls.take i).flatten.length:Int),(i:Int))) ls.length (r:=.inl (ls.flatten.length:Int)) (fun i hi=>?_) ?_
 ·refine(congrArg (fun x=>Option.bind x _) h1).trans ?_
  simp only[Option.bind_some,sel]
  rw[G209s0_eq _ h]
  simp only[Option.bind_some]
  have h2:=while_trace (bd:=fun s=>(T193_L1 ls s).den) (fun i=>((ls.take i).flatten,(i:Int))) ls.length (r:=.inl ls.flatten) (fun i hi=>?_) ?_
  ·refine(congrArg (fun x=>Option.bind x _) h2).trans ?_
   rfl
  ·unfold T193_L1
   simp only[Tr.den,Int.toNat_natCast]
   have:=flat_le ls (i+1)
   rw[flat_take ls i hi,List.length_append]at this
   rw[if_pos (decT (by omega)),if_pos (by omega),if_pos (by omega),wrap_inc (by omega),flat_take ls i hi]
  ·unfold T193_L1
   simp only[Tr.den]
   rw[if_neg (decF (by omega)),List.take_length]
 ·unfold T193_L0
  simp only[Tr.den,Int.toNat_natCast]
  have:=flat_le ls (i+1)
  rw[flat_take ls i hi,List.length_append]at this
  rw[if_pos (decT (by omega)),if_pos (by omega),if_neg (decF (by rw[wrap_add (by omega)]; omega)),wrap_add (by omega),wrap_inc (by omega),flat_take ls i hi,List.length_append]
 ·unfold T193_L0
  simp only[Tr.den]
  rw[if_neg (decF (by omega)),List.take_length]
structure okD (l:List GDelta):Prop where
 r:okRs l
 n:okN l
theorem okD.app{l r:List GDelta}(h:okD l)(h':okD r):okD (l++r):=
 ⟨fun x hx=>(List.mem_append.1 hx).elim (h.r x) (h'.r x),fun x hx=>(List.mem_append.1 hx).elim (h.n x) (h'.n x)⟩
theorem okD.nil:okD []:=⟨fun _ h=>by simp at h,fun _ h=>by simp at h⟩
theorem okD.sub{l r:List GDelta}(h:okD l)(hs:∀ x,x∈r→x∈l):okD r:=⟨fun x hx=>h.r x (hs x hx),fun x hx=>h.n x (hs x hx)⟩
theorem okD.cons{l:List GDelta}(h:okD l):okD (cons l):=⟨fun x hx=>by
 obtain⟨z,hz,he⟩:=cons_mem hx
 have:=h.r z hz
 unfold okR at this ⊢
 rwa [show x.Row=z.Row from congrArg (·.2) he],(cons_can h.n).n64⟩
theorem G12_eq(a b:List GDelta)(ha:okD a)(hb:okD b)(hn:a.length+b.length≤1000000000000):G12 a b=some (cons (a++b)):=by
 unfold G12 T12
 simp only[Tr.den]
 rw[G39_eq [a,b] (by simp; omega) (by simp)]
 simp only[Option.bind_some,List.flatten_cons,List.flatten_nil,List.append_nil]
 rw[G27_eq _ (ha.app hb).r (ha.app hb).n (by simp; omega)]
 rfl
theorem G13_eq(l:List GDelta)(hn:l.length≤1000000000000):G13 l=some (W (wt all1 l)):=by
 unfold G13 T13
 simp only[Tr.den]
 have h1:=while_trace (bd:=fun s=>(T13_L0 l s).den) (fun i=>(W (wt all1 (l.take i)),(i:Int))) l.length (r:=.inl (W (wt all1 l))) (fun i hi=>?_) ?_
 ·refine(congrArg (fun x=>Option.bind x _) h1).trans ?_
  rfl
 ·unfold T13_L0
  simp only[Tr.den,Int.toNat_natCast]
  rw[if_pos (decT (by omega)),if_pos (by omega),wrap_inc (by omega),take_succ_getD hi,wt_app,show wt all1 [l.getD i default]=(l.getD i default).N by simp[wt,all1]]
  rw[show IntKind.i64.wrap (W (wt all1 (l.take i))+(l.getD i default).N)=W (wt all1 (l.take i)+(l.getD i default).N) from wrap_addL _ _]
 ·unfold T13_L0
  simp only[Tr.den]
  rw[if_neg (decF (by omega)),List.take_length]
def aft(t:Int)(d:GDelta):Bool:=decide (t<d.Time)
theorem G40s1_eq(x:GDelta)(t:Int):G40s1 x t=some (!aft t x):=by
 unfold G40s1 T40s1 aft
 simp only[Tr.den]
 congr 1
 by_cases h:x.Time≤t
 ·simp[h]
 ·simp[h]; omega
theorem G105s1_sp(l:List GDelta)(t:Int)(hn:l.length≤1000000000000):
  Sp (G105s1 l t) (fun r=>(r = -1∧∀ x,x∈l→aft t x=true)∨∃ k:Nat,r=k∧k<l.length∧(∀ x,x∈l.take k→aft t x=true)∧aft t (l.getD k default)=false):=by
 unfold G105s1 T105s1
 simp only[Tr.den,sq_bind]
 refine Sq.while (fun s:Int=>∃ k:Nat,s=k∧k≤l.length∧∀ x,x∈l.take k→aft t x=true) (fun s=>(l.length-s).toNat) (fun s hs=>?_) ⟨0,rfl,by omega,by simp⟩
 obtain⟨k,rfl,h1,h2⟩:=hs
 unfold T105s1_L0
 simp only[Tr.den,Int.toNat_natCast]
 by_cases hk:k<l.length
 ·rw[if_pos (decT (by omega)),if_pos (by omega),if_pos hk,G40s1_eq]
  simp only[Option.bind_some]
  cases ha:aft t (l.getD k default) with
  | true=>
   rw[if_neg (by simp),wrap_inc (by omega)]
   refine sq_some.2 ⟨⟨k+1,rfl,by omega,fun x hx=>?_⟩,by omega⟩
   rw[take_succ_getD hk,List.mem_append,List.mem_singleton]at hx
   rcases hx with hx | rfl
   ·exact h2 x hx
   ·exact ha
  | false=>
   rw[if_pos (by simp)]
   exact sq_some.2 (sq_some.2 (.inr ⟨k,rfl,hk,h2,ha⟩))
 ·rw[if_neg (decF (by omega))]
  refine sq_some.2 (sq_some.2 (.inl ⟨rfl,?_⟩))
  rwa [List.take_of_length_le (by omega)]at h2
theorem G41s2_sp(l:List GDelta)(t:Int)(hn:l.length≤1000000000000):Sp (G41s2 l t) (fun d=>d=l.filter (aft t)):=by
 unfold G41s2 T41s2
 simp only[Tr.den]
 refine Sq.bind _ (G105s1_sp l t hn) (fun r hr=>?_)
 rcases hr with⟨rfl,h⟩ | ⟨k,rfl,h1,h2,h3⟩
 ·rw[if_pos (beqT rfl)]
  refine sq_some.2 ?_
  exact(List.filter_eq_self.2 h).symm
 ·rw[if_neg (beqF (by omega)),wrap_inc (by omega)]
  simp only[sq_bind]
  refine Sq.while (fun s:List GDelta×Int×Int=>∃ i j:Nat,s.2.1=i∧s.2.2=j∧i<j∧j≤l.length∧s.1.length=l.length∧s.1.take i=(l.take j).filter (aft t)∧s.1.drop j=l.drop j) (fun s=>(l.length-s.2.2).toNat) (fun s hs=>?_)
   ⟨k,k+1,rfl,rfl,by omega,by omega,rfl,?_,rfl⟩
  ·obtain⟨d,i,j⟩:=s
   obtain⟨i,j,e1,e2,q1,q2,q3,q4,q5⟩:=hs
   simp only at e1 e2 q3 q4 q5
   subst e1 e2
   unfold T41s2_L0
   simp only[Tr.den,Int.toNat_natCast]
   by_cases hj:j<l.length
   ·have gj:d.getD j default=l.getD j default:=by
     have:=congrArg (fun x:List GDelta=>x.getD 0 default) q5
     rw[drop_getD (show j<d.length by omega),drop_getD hj]at this
     simpa using this
    rw[if_pos (decT (by omega)),if_pos (by omega),if_pos (by omega),gj,G40s1_eq]
    simp only[Option.bind_some,Bool.not_not]
    cases ha:aft t (l.getD j default) with
    | true=>
     rw[if_pos rfl,if_pos (by omega),if_pos (by omega)]
     refine sq_bind.2 (sq_grd (by simp; omega) (sq_some.2 ?_))
     rw[wrap_inc (by omega),wrap_inc (by omega)]
     refine sq_some.2 ⟨⟨i+1,j+1,rfl,rfl,by omega,by omega,by simp; omega,?_,?_⟩,by simp only; omega⟩
     ·rw[take_succ_getD (show i<(d.set i (l.getD j default)).length by simp; omega),take_succ_getD hj,List.filter_append,getD_set,if_pos ⟨rfl,by omega⟩]
      rw[List.take_set_of_le (Nat.le_refl i),q4,List.filter_cons_of_pos ha,List.filter_nil]
     ·rw[List.drop_set_of_lt (by omega)]
      have:=congrArg (List.drop 1) q5
      rw[List.drop_drop,List.drop_drop]at this
      exact this
    | false=>
     rw[if_neg (by simp)]
     simp only[Option.bind_some]
     rw[wrap_inc (by omega)]
     refine sq_some.2 ⟨⟨i,j+1,rfl,rfl,by omega,by omega,q3,?_,?_⟩,by simp only; omega⟩
     ·rw[take_succ_getD hj,List.filter_append,q4,List.filter_cons_of_neg (by rw[ha]; simp),List.filter_nil,List.append_nil]
     ·have:=congrArg (List.drop 1) q5
      rw[List.drop_drop,List.drop_drop]at this
      exact this
   ·rw[if_neg (decF (by omega))]
    refine sq_some.2 ?_
    simp only[sel,Int.toNat_natCast]
    have e:(d.take i++List.replicate (d.length-i) default).take i=d.take i:=by
     rw[List.take_append_of_le_length (by simp; omega),List.take_take,Nat.min_self]
    rw[if_pos (by omega),if_pos (by simp; omega),e,q4,List.take_of_length_le (by omega)]
    exact sq_some.2 rfl
  ·rw[take_succ_getD h1,List.filter_append,List.filter_eq_self.2 h2,List.filter_cons_of_neg (by rw[h3]; simp),List.filter_nil,List.append_nil]
theorem G14_eq(l:List GDelta)(t:Int)(ho:okD l)(hn:l.length≤1000000000000):G14 l t=some (cons (l.filter (aft t))):=by
 refine Sp.eq ?_
 unfold G14 T14
 simp only[Tr.den]
 rw[G42s0_eq l hn]
 simp only[Option.bind_some]
 refine Sq.bind _ (G41s2_sp l t hn) (fun d hd=>?_)
 subst hd
 have h2:okD (l.filter (aft t)):=ho.sub fun x hx=>(List.mem_filter.1 hx).1
 rw[G27s0_eq _ h2.r h2.n (by have:=List.length_filter_le (aft t) l; omega)]
 exact sq_some.2 rfl
theorem G14_can(l:List GDelta)(t:Int)(ho:okD l)(hc:Can l)(hn:l.length≤1000000000000):G14 l t=some (l.filter (aft t)):=by
 rw[G14_eq l t ho hn,cons_id (hc.filter _)]
def neg(d:GDelta):GDelta:=⟨d.Time,d.Row,W (0-d.N)⟩
theorem G129_eq(a b:List GDelta)(ha:okD a)(hb:okD b)(hn:a.length+b.length≤1000000000000):G129 a b=some (cons (a++b.map neg)):=by
 unfold G129 T129
 simp only[Tr.den]
 rw[G42s0_eq a (by omega)]
 simp only[Option.bind_some]
 have h1:=while_trace (bd:=fun s=>(T129_L0 b s).den) (fun i=>(a++(b.take i).map neg,(i:Int))) b.length (r:=.inl (a++b.map neg)) (fun i hi=>?_) ?_
 ·rw[show (a++(b.take 0).map neg,((0:Nat):Int))=(a,0) by simp]at h1
  rw[h1]
  simp only[Option.bind_some,sel]
  have ok:okD (a++b.map neg):=ha.app ⟨fun x hx=>by
   obtain⟨y,hy,rfl⟩:=List.mem_map.1 hx
   exact hb.r y hy,fun x hx=>by
   obtain⟨y,hy,rfl⟩:=List.mem_map.1 hx
   exact W_in _⟩
  rw[G27s0_eq _ ok.r ok.n (by simp; omega)]
  rfl
 ·unfold T129_L0
  simp only[Tr.den,Int.toNat_natCast]
  rw[if_pos (decT (by omega)),if_pos (by omega),if_pos (by simp; omega),wrap_inc (by omega),take_succ_getD hi,List.map_append,←List.append_assoc]
  rfl
 ·unfold T129_L0
  simp only[Tr.den]
  rw[if_neg (decF (by omega)),List.take_length]
structure LO (K:Type)[MKey K]:Prop where
 irr:∀ a:K,MKey.lt a a=false
 tr:∀ a b c:K,MKey.lt a b=true→MKey.lt b c=true→MKey.lt a c=true
 tot:∀ a b:K,a≠b→MKey.lt a b=true∨MKey.lt b a=true
theorem bytesLess_cmp:∀ (x y:List UInt8),Op.bytesLess x y=decide (Lib.compareBytes x y<0)
 | [],[]=>by simp[Op.bytesLess,Lib.compareBytes]
 | _::_,[]=>by simp[Op.bytesLess,Lib.compareBytes]
 | [],_::_=>by simp[Op.bytesLess,Lib.compareBytes]
 | a::x,b::y=>by
  rw[Op.bytesLess,bytesLess_cmp x y,Lib.compareBytes]
  by_cases h1:a<b
  ·simp[h1]
  ·by_cases h2:b<a
   ·have h3:¬ a=b:=fun h=>by subst h; exact absurd h2 h1
    simp[h1,h2,h3]
   ·have h3:a=b:=UInt8.le_antisymm (UInt8.not_lt.1 h2) (UInt8.not_lt.1 h1)
    simp[h3]
theorem LO.bytes:LO ByteArray:=by
 have e:∀ a b:ByteArray,MKey.lt a b=decide (cmpS a b<0):=fun a b=>by
  show Op.bytesLess a.toList b.toList=_
  rw[bytesLess_cmp,Lib.toList_data,Lib.toList_data]; rfl
 constructor
 ·intro a
  rw[e,(TO.str.eq a a).2 rfl]; rfl
 ·intro a b c h1 h2
  rw[e]at h1 h2 ⊢
  exact decT (TO.str.tr a b c (of_decide_eq_true h1) (of_decide_eq_true h2))
 ·intro a b h
  rw[e,e]
  have h1:=TO.str.eq a b
  have h2:=TO.str.sw b a
  by_cases h3:cmpS a b<0
  ·exact .inl (decT h3)
  ·refine .inr (decT ?_)
   by_cases h4:cmpS a b=0
   ·exact absurd (h1.1 h4) h
   ·omega
section
variable {K V:Type} [MKey K]
def MC(v:List (K×V)):Prop:=v.Pairwise fun p q=>MKey.lt p.1 q.1=true
theorem mlook_mdel(v:List (K×V))(k k':K):mlook (mdel v k) k'=if k=k' then none else mlook v k':=by
 induction v with
 | nil=>simp[mdel,mlook]
 | cons p v ih=>
  simp only[mdel,List.filter_cons]at ih ⊢
  by_cases hp:p.1=k
  ·rw[if_neg (by simpa using hp),ih]
   simp only[mlook,hp]
   by_cases hk:k=k' <;> simp[hk]
  ·rw[if_pos (by simpa using hp)]
   simp only[mlook,ih]
   by_cases hk:k=k'
   ·subst hk; simp[hp]
   ·simp[hk]
theorem mlook_mins(k:K)(c:V)(k':K):∀ v:List (K×V),mlook v k=none→mlook (mins k c v) k'=if k=k' then some c else mlook v k'
 | [],_=>by simp[mins,mlook]
 | p::v,h=>by
  simp only[mlook]at h
  by_cases hp:p.1=k
  ·rw[if_pos hp]at h; cases h
  ·rw[if_neg hp]at h
   simp only[mins]
   split
   ·simp only[mlook]
   ·simp only[mlook,mlook_mins k c k' v h]
    by_cases hk:k=k'
    ·subst hk; simp[hp]
    ·simp[hk]
theorem mlook_mput(v:List (K×V))(k:K)(c:V)(k':K):mlook (mput v k c) k'=if k=k' then some c else mlook v k':=by
 unfold mput
 rw[mlook_mins k c k' _ (by rw[mlook_mdel]; simp),mlook_mdel]
 by_cases h:k=k' <;> simp[h]
theorem MC.mdel{v:List (K×V)}(h:MC v)(k:K):MC (mdel v k):=List.Pairwise.filter _ h
theorem mins_mem{k:K}{c:V}{q:K×V}:∀ {v:List (K×V)},q∈mins k c v→q=(k,c)∨q∈v
 | v,h=>by
  have:=(mins_perm k c v).mem_iff.1 h
  simpa using this
theorem MC.mins(hK:LO K){k:K}{c:V}:∀ {v:List (K×V)},MC v→k∉mkeys v→MC (mins k c v)
 | [],_,_=>List.pairwise_singleton _ _
 | p::v,h,hk=>by
  have h1:=List.pairwise_cons.1 h
  simp only[PL.mins]
  split
  ·rename_i hlt
   refine List.pairwise_cons.2 ⟨fun q hq=>?_,h⟩
   rcases List.mem_cons.1 hq with rfl | hq
   ·exact hlt
   ·exact hK.tr _ _ _ hlt (h1.1 q hq)
  ·rename_i hlt
   simp only[mkeys,List.map_cons,List.mem_cons,not_or]at hk
   refine List.pairwise_cons.2 ⟨fun q hq=>?_,MC.mins hK h1.2 hk.2⟩
   rcases mins_mem hq with rfl | hq
   ·rcases hK.tot k p.1 hk.1 with h2 | h2
    ·rw[h2]at hlt; cases hlt
    ·exact h2
   ·exact h1.1 q hq
theorem MC.mput(hK:LO K){v:List (K×V)}(h:MC v)(k:K)(c:V):MC (mput v k c):=(h.mdel k).mins hK (mdel_not v k)
theorem MC_nil:MC ([]:List (K×V)):=List.Pairwise.nil
theorem mlook_mem{v:List (K×V)}{k:K}{c:V}(h:mlook v k=some c):(k,c)∈v:=by
 induction v with
 | nil=>cases h
 | cons p v ih=>
  simp only[mlook]at h
  split at h
  ·rename_i hp
   cases h
   rw[←hp]; exact List.mem_cons_self
  ·exact List.mem_cons_of_mem _ (ih h)
theorem mkeys_look{v:List (K×V)}{k:K}:k∈mkeys v↔∃ c,mlook v k=some c:=by
 constructor
 ·intro h
  cases hc:mlook v k with
  | none=>exact absurd h (mlook_none hc)
  | some c=>exact⟨c,rfl⟩
 ·rintro⟨c,hc⟩
  exact List.mem_map.2 ⟨_,mlook_mem hc,rfl⟩
theorem MC.nodup(hK:LO K){v:List (K×V)}(h:MC v):(mkeys v).Nodup:=by
 unfold mkeys List.Nodup
 rw[List.pairwise_map]
 refine h.imp fun {p q} hpq he=>?_
 rw[he,hK.irr]at hpq
 cases hpq
theorem MC.ext(hK:LO K):∀ {v w:List (K×V)},MC v→MC w→(∀ k,mlook v k=mlook w k)→v=w:=by
 have none_of:∀ {v:List (K×V)} {k:K},(∀ p,p∈v→MKey.lt k p.1=true)→mlook v k=none:=by
  intro v k h
  cases hc:mlook v k with
  | none=>rfl
  | some c=>
   have:=h _ (mlook_mem hc)
   rw[hK.irr]at this; cases this
 intro v
 induction v with
 | nil=>
  intro w _ _ h
  cases w with
  | nil=>rfl
  | cons q w=>have:=h q.1; simp[mlook]at this
 | cons p v ih=>
  intro w hv hw h
  cases w with
  | nil=>have:=h p.1; simp[mlook]at this
  | cons q w=>
   have hv1:=List.pairwise_cons.1 hv
   have hw1:=List.pairwise_cons.1 hw
   have hk:p.1=q.1:=by
    refine Classical.byContradiction fun hne=>?_
    rcases hK.tot _ _ hne with h1 | h1
    ·have h2:=h p.1
     rw[none_of (v:=q::w) (k:=p.1) (fun r hr=>by
      rcases List.mem_cons.1 hr with rfl | hr
      ·exact h1
      ·exact hK.tr _ _ _ h1 (hw1.1 r hr))]at h2
     simp[mlook]at h2
    ·have h2:=h q.1
     rw[none_of (v:=p::v) (k:=q.1) (fun r hr=>by
      rcases List.mem_cons.1 hr with rfl | hr
      ·exact h1
      ·exact hK.tr _ _ _ h1 (hv1.1 r hr))]at h2
     simp[mlook]at h2
   have hc:p.2=q.2:=by
    have h2:=h p.1
    simpa[mlook,hk] using h2
   have hpq:p=q:=Prod.ext hk hc
   subst hpq
   rw[ih hv1.2 hw1.2 fun k=>?_]
   by_cases hk:p.1=k
   ·subst hk
    rw[none_of hv1.1,none_of hw1.1]
   ·have:=h k
    simpa[mlook,hk] using this
theorem mput_self(hK:LO K){v:List (K×V)}(h:MC v){k:K}{c:V}(hc:mlook v k=some c):mput v k c=v:=by
 refine(h.mput hK k c).ext hK h fun k'=>?_
 rw[mlook_mput]
 by_cases hk:k=k'
 ·subst hk; rw[if_pos rfl,hc]
 ·rw[if_neg hk]
def sumK(f:K→Int):List K→Int
 | []=>0
 | k::l=>f k+sumK f l
omit [MKey K] in
theorem sumK_perm(f:K→Int){l r:List K}(h:l.Perm r):sumK f l=sumK f r:=by
 induction h with
 | nil=>rfl
 | cons x _ ih=>simp only[sumK,ih]
 | swap x y l=>simp only[sumK]; omega
 | trans _ _ h1 h2=>exact h1.trans h2
theorem kerase_perm{l:List K}{k:K}(h:k∈l):l.Perm (k::kerase l k):=List.perm_cons_erase h
theorem kerase_mem{l:List K}(hn:l.Nodup){k k':K}:k'∈kerase l k↔k'≠k∧k'∈l:=by
 unfold kerase; exact hn.mem_erase_iff
theorem kerase_nodup{l:List K}(hn:l.Nodup)(k:K):(kerase l k).Nodup:=by unfold kerase; exact hn.erase k
theorem kerase_len{l:List K}{k:K}(h:k∈l):(kerase l k).length<l.length:=by
 have:=(kerase_perm h).length_eq
 simp at this; omega
theorem flatMap_perm{α β:Type}(f:α→List β){l r:List α}(h:l.Perm r):(l.flatMap f).Perm (r.flatMap f):=by
 induction h with
 | nil=>exact .refl _
 | cons x _ ih=>simp only[List.flatMap_cons]; exact ih.append_left _
 | swap x y l=>simp only[List.flatMap_cons]; exact List.perm_append_comm_assoc _ _ _
 | trans _ _ h1 h2=>exact h1.trans h2
end
set_option maxRecDepth 20000
theorem den_ca{P:Program}{Y R:Type}{n k:Nat}{bps:List PV}{x:Option R}{ret:R→PV}{h:Con P k bps x ret}{B:R→Tr P Y}{r:R}(hx:x=some r):(Tr.ca n h B).den=(B r).den:=by
 subst hx; rfl
theorem den_grd{P:Program}{Y:Type}{n:Nat}{p:Prop}[Decidable p]{t:Tr P Y}(hp:p):(Tr.grd n p t).den=t.den:=if_pos hp
def itoaB(n:Int):ByteArray:=⟨(Lib.itoa n).toArray⟩
theorem itoaB_size{n:Int}(h:in64 n):(itoaB n).size≤21:=by
 have:=Lib.itoa_length_le n h.1 h.2
 unfold itoaB
 show (Lib.itoa n).toArray.size≤21
 simpa using this
theorem G117_eq{n:Int}(h:in64 n):G117 n=some (itoaB n):=by unfold G117; rw[if_pos (show -9223372036854775808≤n∧n≤9223372036854775807 from h)]; rfl
theorem sz1(x:UInt8):(⟨#[x]⟩:ByteArray).size=1:=rfl
def numB(n:Int):ByteArray:=itoaB n++⟨#[59]⟩
theorem numB_size'(n:Int):(numB n).size=(itoaB n).size+1:=ByteArray.size_append
theorem numB_size{n:Int}(h:in64 n):(numB n).size≤22:=by
 have h1:=itoaB_size h
 rw[numB_size']
 exact Nat.succ_le_succ h1
theorem G51_eq{n:Int}(h:in64 n):G51 n=some (numB n):=by
 unfold G51 T51
 have:=itoaB_size h
 simp -implicitDefEqProofs only[Tr.den,G117_eq h,Option.bind_some]
 rw[if_pos (by rw[sz1]; omega)]
 rfl
theorem G119_eq(n:Nat)(h:n≤1000000000000):G119 (n:Int)=some (numB (n:Int)):=by
 unfold G119 T119
 simp only[Tr.den]
 rw[if_neg (decF (by omega)),G51_eq (n:=(n:Int)) ⟨by omega,by omega⟩]
 rfl
def txtB(s:ByteArray):ByteArray:=((itoaB s.size++⟨#[58]⟩)++s)++⟨#[44]⟩
theorem txtB_size{s:ByteArray}(h:s.size≤1073741824):(txtB s).size≤s.size+23:=by
 have:=itoaB_size (n:=(s.size:Int)) ⟨by omega,by omega⟩
 unfold txtB
 rw[ByteArray.size_append,ByteArray.size_append,ByteArray.size_append,sz1,sz1]
 omega
theorem G52_eq{s:ByteArray}(h:s.size≤1073741824):G52 s=some (txtB s):=by
 have h1:=itoaB_size (n:=(s.size:Int)) ⟨by omega,by omega⟩
 have h2:G117 (s.size:Int)=some (itoaB s.size):=G117_eq ⟨by omega,by omega⟩
 generalize hi:itoaB (s.size:Int)=z at h1 h2
 have e1:(z++(⟨#[58]⟩:ByteArray)).size=z.size+1:=ByteArray.size_append
 have e2:((z++(⟨#[58]⟩:ByteArray))++s).size=z.size+1+s.size:=by rw[ByteArray.size_append,e1]
 unfold G52 T52
 refine(den_ca h2).trans ?_
 refine(den_grd ?_).trans ((den_grd ?_).trans ((den_grd ?_).trans ?_))
 ·rw[sz1]; omega
 ·rw[e1]; omega
 ·rw[e2,sz1]; omega
 ·unfold txtB
  rw[hi]
  rfl
structure okV (v:GValue):Prop where
 k:in64 v.Kind
 n:in64 v.N
 s:v.S.size≤1073741824
theorem okV_def:okV default:=⟨⟨by decide,by decide⟩,⟨by decide,by decide⟩,by decide⟩
def valB(v:GValue):ByteArray:=(numB v.Kind++numB v.N)++txtB v.S
theorem valB_size{v:GValue}(h:okV v):(valB v).size≤1073742000:=by
 have h1:=numB_size h.k
 have h2:=numB_size h.n
 have h3:=txtB_size h.s
 have h4:=h.s
 unfold valB
 rw[ByteArray.size_append,ByteArray.size_append]
 omega
theorem G168_eq{v:GValue}(h:okV v):G168 v=some (valB v):=by
 have h1:=numB_size h.k
 have h2:=numB_size h.n
 have h3:=txtB_size h.s
 have h4:=h.s
 unfold G168 T168
 simp only[Tr.den,G51_eq h.k,G51_eq h.n,G52_eq h.s,Option.bind_some]
 rw[if_pos (by omega),ByteArray.size_append,if_pos (by omega)]
 rfl
def okVs(r:List GValue):Prop:=∀ v,v∈r→okV v
theorem okVs.get{r:List GValue}(h:okVs r)(k:Nat):okV (r.getD k default):=by
 by_cases hk:k<r.length
 ·exact h _ (getD_mem hk)
 ·rw[List.getD_eq_getElem?_getD,List.getElem?_eq_none (by omega)]; exact okV_def
def rowB(r:List GValue):ByteArray:=r.foldl (fun b v=>b++valB v) ((⟨#[]⟩:ByteArray)++numB (r.length:Int))
theorem foldB_size(b:ByteArray):∀ (r:List GValue),okVs r→(r.foldl (fun b v=>b++valB v) b).size≤b.size+r.length*1073742000
 | [],_=>by simp
 | v::r,h=>by
  have h1:=foldB_size (b++valB v) r fun x hx=>h x (List.mem_cons_of_mem _ hx)
  have h2:=valB_size (h v List.mem_cons_self)
  rw[ByteArray.size_append]at h1
  simp only[List.foldl_cons,List.length_cons]
  omega
theorem G120_eq(r:List GValue)(h:okVs r)(hn:r.length≤1000):G120 r=some (rowB r):=by
 have hs:=numB_size (n:=(r.length:Int)) ⟨by omega,by omega⟩
 unfold G120 T120
 simp only[Tr.den]
 rw[G119_eq r.length (by omega)]
 simp only[Option.bind_some]
 rw[if_pos (by show 0+_≤_; omega)]
 simp only[Option.bind_some]
 have h1:=while_trace (bd:=fun s=>(T120_L0 r s).den) (fun i=>((r.take i).foldl (fun b v=>b++valB v) ((⟨#[]⟩:ByteArray)++numB (r.length:Int)),(i:Int))) r.length (r:=.inl (rowB r)) (fun i hi=>?_) ?_
 ·refine(congrArg (fun x=>Option.bind x _) h1).trans ?_
  rfl
 ·unfold T120_L0
  simp only[Tr.den,Int.toNat_natCast]
  have h2:=foldB_size ((⟨#[]⟩:ByteArray)++numB (r.length:Int)) (r.take i) fun v hv=>h v (List.mem_of_mem_take hv)
  have h3:=valB_size (h.get i)
  rw[ByteArray.size_append,show (⟨#[]⟩:ByteArray).size=0 from rfl]at h2
  simp only[List.length_take]at h2
  rw[if_pos (decT (by omega)),if_pos (by omega),G168_eq (h.get i)]
  simp only[Option.bind_some]
  rw[if_pos (by
   have:min i r.length*1073742000≤1000*1073742000:=Nat.mul_le_mul (by omega) (Nat.le_refl _)
   omega)]
  simp only[Option.bind_some]
  rw[wrap_inc (by omega),take_succ_getD hi,List.foldl_append]
  rfl
 ·unfold T120_L0
  simp only[Tr.den]
  rw[if_neg (decF (by omega)),List.take_length]
  rfl
def colsOf(n:GNode)(i:Int):List Int:=if i=0 then n.Key else n.Key2
def keyB(n:GNode)(i:Int)(row:List GValue):ByteArray:=rowB ((colsOf n i).map fun c=>row.getD c.toNat default)
def okCols(cols:List Int)(row:List GValue):Prop:=∀ c,c∈cols→0≤c∧c<row.length
theorem G125s0_eq(i:Int)(row:List GValue)(n:GNode)(cl:Int)(m:List (ByteArray×GSide))(hi:i=0∨i=1)(hr:okVs row)(hc:okCols (colsOf n i) row)(hl:(colsOf n i).length≤1000):G125s0 i row n cl m=some (keyB n i row):=by
 unfold G125s0 T125s0
 simp only[Tr.den]
 have step:∀ cols:List Int,okCols cols row→cols.length≤1000 →
   ((whileM (fun s=>(T125s0_L0 row cols (cols.length:Int) s).den) (([]:List GValue),0)).bind (sel (fun b5=>(G120 b5).bind fun r6=>some r6) some))=some (rowB (cols.map fun c=>row.getD c.toNat default)):=by
  intro cols hc hl
  have h1:=while_trace (bd:=fun s=>(T125s0_L0 row cols (cols.length:Int) s).den) (fun k=>((cols.take k).map fun c=>row.getD c.toNat default,(k:Int))) cols.length (r:=.inl (cols.map fun c=>row.getD c.toNat default)) (fun k hk=>?_) ?_
  ·refine(congrArg (fun x=>Option.bind x _) h1).trans ?_
   simp only[Option.bind_some,sel]
   rw[G120_eq _ (fun v hv=>by
    obtain⟨c,hcm,rfl⟩:=List.mem_map.1 hv
    exact hr.get _) (by simpa using hl)]
   rfl
  ·unfold T125s0_L0
   simp only[Tr.den,Int.toNat_natCast]
   have h2:=hc _ (getD_mem hk)
   rw[if_pos (decT (by omega)),if_pos (by omega),if_pos h2,if_pos (by simp; omega),wrap_inc (by omega),take_succ_getD hk,List.map_append]
   rfl
  ·unfold T125s0_L0
   simp only[Tr.den]
   rw[if_neg (decF (by omega)),List.take_length]
 rcases hi with rfl | rfl
 ·rw[if_pos rfl]
  simp only[Option.bind_some,if_pos (show (0:Int)≤0∧(0:Int)<2 by omega)]
  exact step n.Key hc hl
 ·rw[if_neg (by omega),if_pos rfl]
  simp only[Option.bind_some,if_pos (show (0:Int)≤1∧(1:Int)<2 by omega)]
  exact step n.Key2 hc hl
structure okI (n:GNode)(i:Int)(l:List GDelta):Prop where
 v:∀ d,d∈l→okVs d.Row
 c:∀ d,d∈l→okCols (colsOf n i) d.Row
 r:∀ d,d∈l→d.Row.length≤1000
 t:∀ d,d∈l→0≤d.Time∧d.Time≤2199023255552
 n:okN l
theorem okI.okD{n:GNode}{i:Int}{l:List GDelta}(h:okI n i l):okD l:=⟨fun d hd=>by have:=h.r d hd; unfold okR; omega,h.n⟩
theorem okI.sub{n:GNode}{i:Int}{l r:List GDelta}(h:okI n i l)(hs:∀ x,x∈r→x∈l):okI n i r:=
 ⟨fun d hd=>h.v d (hs d hd),fun d hd=>h.c d (hs d hd),fun d hd=>h.r d (hs d hd),fun d hd=>h.t d (hs d hd),fun d hd=>h.n d (hs d hd)⟩
theorem okI.app{n:GNode}{i:Int}{l r:List GDelta}(h:okI n i l)(h':okI n i r):okI n i (l++r):=
 ⟨fun d hd=>(List.mem_append.1 hd).elim (h.v d) (h'.v d),fun d hd=>(List.mem_append.1 hd).elim (h.c d) (h'.c d),fun d hd=>(List.mem_append.1 hd).elim (h.r d) (h'.r d),fun d hd=>(List.mem_append.1 hd).elim (h.t d) (h'.t d),fun d hd=>(List.mem_append.1 hd).elim (h.n d) (h'.n d)⟩
theorem okI.nil{n:GNode}{i:Int}:okI n i []:=⟨by simp,by simp,by simp,by simp,fun d hd=>by simp at hd⟩
theorem okI.cons{n:GNode}{i:Int}{l:List GDelta}(h:okI n i l):okI n i (cons l):=by
 have e:∀ d,d∈PL.cons l→∃ z,z∈l∧d.Time=z.Time∧d.Row=z.Row:=fun d hd=>by
  obtain⟨z,hz,he⟩:=cons_mem hd
  exact⟨z,hz,congrArg (·.1) he,congrArg (·.2) he⟩
 refine⟨fun d hd=>?_,fun d hd=>?_,fun d hd=>?_,fun d hd=>?_,(cons_can h.n).n64⟩ <;> obtain⟨z,hz,h1,h2⟩:=e d hd
 ·rw[h2]; exact h.v z hz
 ·rw[h2]; exact h.c z hz
 ·rw[h2]; exact h.r z hz
 ·rw[h1]; exact h.t z hz
abbrev kd (n:GNode)(i:Int)(d:GDelta):ByteArray:=keyB n i d.Row
def groupM(n:GNode)(i:Int)(l:List GDelta):List (ByteArray×List GDelta):=l.foldl (fun m d=>mput m (kd n i d) ((mlook m (kd n i d)).getD []++[d])) []
theorem groupM_mc(n:GNode)(i:Int)(l:List GDelta):MC (groupM n i l):=by
 unfold groupM
 have:∀ (l:List GDelta) (m:List (ByteArray×List GDelta)),MC m→MC (l.foldl (fun m d=>mput m (kd n i d) ((mlook m (kd n i d)).getD []++[d])) m):=by
  intro l
  induction l with
  | nil=>exact fun m h=>h
  | cons d l ih=>exact fun m h=>ih _ (h.mput LO.bytes _ _)
 exact this l [] MC_nil
def ofK(n:GNode)(i:Int)(k:ByteArray)(l:List GDelta):List GDelta:=l.filter fun d=>decide (kd n i d=k)
theorem groupM_look(n:GNode)(i:Int)(k:ByteArray)(l:List GDelta):mlook (groupM n i l) k=if ofK n i k l=[] then none else some (ofK n i k l):=by
 have:∀ (l:List GDelta) (m:List (ByteArray×List GDelta)),mlook (l.foldl (fun m d=>mput m (kd n i d) ((mlook m (kd n i d)).getD []++[d])) m) k=if ofK n i k l=[] then mlook m k else some ((mlook m k).getD []++ofK n i k l):=by
  intro l
  induction l with
  | nil=>intro m; simp[ofK]
  | cons d l ih=>
   intro m
   rw[List.foldl_cons,ih]
   unfold ofK
   by_cases hk:kd n i d=k
   ·rw[List.filter_cons_of_pos (p:=fun d=>decide (kd n i d=k)) (decT hk),mlook_mput,if_pos hk,hk]
    by_cases h:l.filter (fun d=>decide (kd n i d=k))=[]
    ·rw[if_pos h,if_neg (by simp),h]
    ·rw[if_neg h,if_neg (by simp)]; simp
   ·rw[List.filter_cons_of_neg (p:=fun d=>decide (kd n i d=k)) (decF hk),mlook_mput,if_neg hk]
 have:=this l []
 simpa[mlook,groupM] using this
theorem ofK_len(n:GNode)(i:Int)(k:ByteArray)(l:List GDelta):(ofK n i k l).length≤l.length:=List.length_filter_le _ _
theorem groupM_get(n:GNode)(i:Int)(k:ByteArray)(l:List GDelta):(mlook (groupM n i l) k).getD []=ofK n i k l:=by
 rw[groupM_look]; split <;> simp_all
theorem G58s0_eq(i:Int)(l:List GDelta)(n:GNode)(cl:Int)(m:List (ByteArray×GSide))(hi:i=0∨i=1)(h:okI n i l)(hc:(colsOf n i).length≤1000)(hn:l.length≤1000000000000):G58s0 i l n cl m=some (groupM n i (cons l)):=by
 unfold G58s0 T58s0
 simp only[Tr.den]
 rw[G27_eq l h.okD.r h.n hn]
 simp only[Option.bind_some]
 have hlen:=cons_len l
 have hk:=h.cons
 generalize cons l=r at hlen hk
 have h1:=while_trace (bd:=fun s=>(T58s0_L0 i n cl m r s).den) (fun k=>(groupM n i (r.take k),(k:Int))) r.length (r:=.inl (groupM n i r)) (fun k hk'=>?_) ?_
 ·refine(congrArg (fun x=>Option.bind x _) h1).trans ?_
  rfl
 ·unfold T58s0_L0
  simp only[Tr.den,Int.toNat_natCast]
  have hm:=getD_mem hk'
  rw[if_pos (decT (by omega)),if_pos (by omega),G125s0_eq i _ n cl m hi (hk.v _ hm) (hk.c _ hm) hc]
  simp only[Option.bind_some]
  have h2:=ofK_len n i (keyB n i (r.getD k default).Row) (r.take k)
  simp only[List.length_take]at h2
  rw[if_pos (by rw[groupM_get]; simp only[List.length_cons,List.length_nil]; omega),wrap_inc (by omega)]
  congr 3
  unfold groupM
  rw[take_succ_getD hk',List.foldl_append]
  rfl
 ·unfold T58s0_L0
  simp only[Tr.den]
  rw[if_neg (decF (by omega)),List.take_length]
def TS(l:List GDelta):Prop:=l.Pairwise fun x y=>x.Time≤y.Time
theorem cmpD_time{x y:GDelta}(h:cmpD x y<0):x.Time≤y.Time:=by
 by_cases h1:y.Time<x.Time
 ·have:cmpD x y=1:=by
   unfold cmpD thenC cmpI
   rw[if_neg (show ¬ x.Time<y.Time by omega),if_pos h1]
   rfl
  omega
 ·omega
theorem Can.ts{l:List GDelta}(h:Can l):TS l:=h.lt.imp fun h=>cmpD_time h
theorem TS.get{l:List GDelta}(h:TS l){i j:Nat}(hij:i≤j)(hj:j<l.length):(l.getD i default).Time≤(l.getD j default).Time:=by
 rcases Nat.lt_or_eq_of_le hij with h1 | h1
 ·rw[getD_lt hj,getD_lt (show i<l.length by omega)]
  exact List.pairwise_iff_getElem.1 h i j (by omega) hj h1
 ·subst h1; exact Int.le_refl _
def okTm(l:List GDelta):Prop:=∀ d,d∈l→0≤d.Time∧d.Time≤2199023255552
def nearF(l:List GDelta)(a b:Int):List GDelta:=l.filter fun d=>decide (a≤d.Time)&&decide (d.Time≤b)
theorem nearF_len(l:List GDelta)(a b:Int):(nearF l a b).length≤l.length:=List.length_filter_le _ _
theorem nearF_mem{l:List GDelta}{a b:Int}{d:GDelta}(h:d∈nearF l a b):d∈l:=(List.mem_filter.1 h).1
theorem near_cut{l:List GDelta}(h:TS l)(a b:Int)(n k:Nat)(hnk:n≤k)(hk:k≤l.length)(h1:∀ j,j<n→(l.getD j default).Time<a)(h2:∀ j,n≤j→j<l.length→a≤(l.getD j default).Time)(h3:∀ j,n≤j→j<k→(l.getD j default).Time≤b)
  (h4:k<l.length→b<(l.getD k default).Time):(l.drop n).take (k-n)=nearF l a b:=by
 have e:l=l.take n++((l.drop n).take (k-n)++l.drop k):=by
  have:l.drop n=(l.drop n).take (k-n)++l.drop k:=by
   conv=>lhs; rw[←List.take_append_drop (k-n) (l.drop n)]
   rw[List.drop_drop,show n+(k-n)=k by omega]
  rw[←this,List.take_append_drop]
 unfold nearF
 conv=>rhs; rw[e]
 rw[List.filter_append,List.filter_append]
 have f1:(l.take n).filter (fun d=>decide (a≤d.Time)&&decide (d.Time≤b))=[]:=by
  refine List.filter_eq_nil_iff.2 fun x hx=>?_
  obtain⟨j,j1,j2,rfl⟩:=mem_take_getD hx
  have:=h1 j j1
  simp only[Bool.and_eq_true,decide_eq_true_eq,not_and]; omega
 have f2:((l.drop n).take (k-n)).filter (fun d=>decide (a≤d.Time)&&decide (d.Time≤b))=(l.drop n).take (k-n):=by
  refine List.filter_eq_self.2 fun x hx=>?_
  obtain⟨j,j1,j2,rfl⟩:=mem_take_getD hx
  rw[List.length_drop]at j2
  have e2:(l.drop n).getD j default=l.getD (n+j) default:=by
   rw[getD_lt (by simp; omega),getD_lt (by omega)]; simp
  rw[e2]
  have q1:=h2 (n+j) (by omega) (by omega)
  have q2:=h3 (n+j) (by omega) (by omega)
  simp only[Bool.and_eq_true,decide_eq_true_eq]; omega
 have f3:(l.drop k).filter (fun d=>decide (a≤d.Time)&&decide (d.Time≤b))=[]:=by
  refine List.filter_eq_nil_iff.2 fun x hx=>?_
  obtain⟨j,j1,j2,rfl⟩:=mem_drop_getD hx
  have q1:=h4 (by omega)
  have q2:=h.get (i:=k) (j:=j) j1 j2
  simp only[Bool.and_eq_true,decide_eq_true_eq,not_and]; omega
 rw[f1,f2,f3]; simp
theorem G172_eq(d:GDelta)(t:Int)(h1:0≤d.Time)(h2:d.Time≤2199023255552)(h3:-4398046511104≤t)(h4:t≤4398046511104):G172 d t=some (d.Time-t):=by
 unfold G172 T172
 simp only[Tr.den]
 rw[wrap_id (by omega) (by omega)]
theorem okTm.get{l:List GDelta}(h:okTm l)(k:Nat):0≤(l.getD k default).Time∧(l.getD k default).Time≤2199023255552:=by
 by_cases hk:k<l.length
 ·exact h _ (getD_mem hk)
 ·rw[List.getD_eq_getElem?_getD,List.getElem?_eq_none (by omega)]; exact⟨by decide,by decide⟩
theorem G171s0_sp(l:List GDelta)(t:Int)(hs:TS l)(ht:okTm l)(h3:-4398046511104≤t)(h4:t≤4398046511104)(hn:l.length≤1000000000000):
  Sp (G171s0 l t) (fun r=>∃ n:Nat,r.1=n∧n≤l.length∧(∀ j,j<n→(l.getD j default).Time<t)∧∀ j,n≤j→j<l.length→t≤(l.getD j default).Time):=by
 unfold G171s0 T171s0
 simp only[Tr.den]
 have hb:=bs_sq true (fun s=>(T171s0_L0 l t s).den) (fun k=>decide ((l.getD k default).Time<t)) 0 l.length (by omega) (fun i j q1 q2 q3=>?_) (fun i q1 q2=>?_) (fun h k q1 q2 q3 q4=>?_)
 ·refine Sq.bind _ hb (fun z hz=>?_)
  cases z with
  | inr z=>exact hz.elim
  | inl z=>
   obtain⟨n,rfl,q1,q2,q3,q4⟩:=hz
   simp only[sel]
   have hq:∃ n':Nat,(n:Int)=n'∧n'≤l.length∧(∀ j,j<n'→(l.getD j default).Time<t)∧∀ j,n'≤j→j<l.length→t≤(l.getD j default).Time:=
    ⟨n,rfl,q2,fun j hj=>of_decide_eq_true (q3 j (by omega) hj),fun j j1 j2=>by have:=of_decide_eq_false (q4 j j1 j2); omega⟩
   by_cases hl:n<l.length
   ·rw[if_pos (decT (by omega)),if_pos (by omega),G172_eq _ t (ht.get _).1 (ht.get _).2 h3 h4]
    simp only[Option.bind_some]
    exact sq_some.2 hq
   ·rw[if_neg (decF (by omega))]
    simp only[Option.bind_some]
    exact sq_some.2 hq
 ·unfold T171s0_L0
  simp only[Tr.den]
  rw[mid_eq (by omega)]
  simp only[Int.toNat_natCast]
  rw[if_pos (decT (by omega)),if_pos (by omega),G172_eq _ t (ht.get _).1 (ht.get _).2 h3 h4]
  simp only[Option.bind_some]
  by_cases hc:(l.getD ((i+j) / 2) default).Time<t
  ·rw[if_pos (decT (by omega)),if_pos (decT hc),wrap_inc (by omega)]; rfl
  ·rw[if_neg (decF (by omega)),if_neg (decF hc)]; rfl
 ·unfold T171s0_L0
  simp only[Tr.den]
  rw[if_neg (decF (by omega))]
 ·have:=hs.get q2 q3
  have:=of_decide_eq_true q4
  exact decT (by omega)
theorem G128_eq(l:List GDelta)(a b:Int)(hs:TS l)(ht:okTm l)(h3:-4398046511104≤a)(h4:a≤4398046511104)(hn:l.length≤1000000000000):G128 l a b=some (nearF l a b):=by
 refine Sp.eq ?_
 unfold G128 T128
 simp only[Tr.den]
 refine Sq.bind _ (G171s0_sp l a hs ht h3 h4 hn) (fun r hr=>?_)
 obtain⟨n,hr,h1,h2,h5⟩:=hr
 rw[hr]
 simp only[sq_bind]
 refine Sq.while (fun s:Int=>∃ k:Nat,s=k∧n≤k∧k≤l.length∧∀ j,n≤j→j<k→(l.getD j default).Time≤b) (fun s=>(l.length-s).toNat) (fun s hs'=>?_) ⟨n,rfl,by omega,h1,fun j _ _=>by omega⟩
 obtain⟨k,rfl,q1,q2,q3⟩:=hs'
 unfold T128_L0
 simp only[Tr.den,Int.toNat_natCast]
 have stop:(k<l.length→b<(l.getD k default).Time)→Sp (if 0≤(n:Int)∧(n:Int)≤(k:Int)∧(k:Int)≤(l.length:Int) then some ((l.drop n).take ((k:Int)-(n:Int)).toNat) else none) (fun z=>z=nearF l a b):=by
  intro hk
  rw[if_pos (by omega),show ((k:Int)-(n:Int)).toNat=k-n by omega,near_cut hs a b n k q1 q2 h2 h5 q3 hk]
  exact sq_some.2 rfl
 by_cases hk:k<l.length
 ·rw[if_pos (decT (by omega)),if_pos (by omega)]
  simp only[Option.bind_some]
  by_cases hc:(l.getD k default).Time≤b
  ·rw[if_pos (decT hc),wrap_inc (by omega)]
   refine sq_some.2 ⟨⟨k+1,rfl,by omega,by omega,fun j j1 j2=>?_⟩,by omega⟩
   by_cases hj:j<k
   ·exact q3 j j1 hj
   ·have:j=k:=by omega
    subst this; exact hc
  ·rw[if_neg (decF hc)]
   refine sq_some.2 ?_
   simp only[sel]
   exact stop fun _=>by omega
 ·rw[if_neg (decF (by omega))]
  simp only[Option.bind_some,Bool.false_eq_true,if_false]
  refine sq_some.2 ?_
  simp only[sel]
  exact stop fun h=>absurd h hk
def pairF(a b:GDelta)(t n:Int):GDelta:=⟨t,a.Row++b.Row,n⟩
def okW(l:List GDelta):Prop:=∀ d,d∈l→d.Row.length≤1000
theorem okW.get{l:List GDelta}(h:okW l)(k:Nat):(l.getD k default).Row.length≤1000:=by
 by_cases hk:k<l.length
 ·exact h _ (getD_mem hk)
 ·rw[List.getD_eq_getElem?_getD,List.getElem?_eq_none (by omega)]; decide
theorem G170_eq(a b:GDelta)(t n:Int)(ha:a.Row.length≤1000)(hb:b.Row.length≤1000):G170 a b t n=some (pairF a b t n):=by
 unfold G170 T170
 simp only[Tr.den]
 rw[G193_eq [a.Row,b.Row] (by simp; omega) (by simp)]
 simp[pairF]
def joinP(i:Int)(a b:GDelta):GDelta:=if i=1 then pairF b a (if b.Time>a.Time then b.Time else a.Time) (W (a.N*b.N)) else pairF a b (if b.Time>a.Time then b.Time else a.Time) (W (a.N*b.N))
def joinA(n:GNode)(i:Int)(other:List GDelta)(a:GDelta):List GDelta:=
 (nearF other (if i=1 then a.Time-n.After else a.Time-n.Before) (if i=1 then a.Time+n.Before else a.Time+n.After)).map (joinP i a)
def joinF(n:GNode)(i:Int)(l other:List GDelta):List GDelta:=l.flatMap (joinA n i other)
theorem joinA_len(n:GNode)(i:Int)(other:List GDelta)(a:GDelta):(joinA n i other a).length≤other.length:=by
 unfold joinA; rw[List.length_map]; exact nearF_len _ _ _
theorem flatMap_len{f:GDelta→List GDelta}{c:Nat}(h:∀ a,(f a).length≤c)(l:List GDelta):(l.flatMap f).length≤l.length*c:=by
 induction l with
 | nil=>simp
 | cons a l ih=>
  rw[List.flatMap_cons,List.length_append,List.length_cons,Nat.add_mul]
  have:=h a
  omega
structure okB (n:GNode):Prop where
 b:0≤n.Before∧n.Before≤10000
 a:0≤n.After∧n.After≤10000
theorem G126s0_eq(i:Int)(l other:List GDelta)(n:GNode)(cl:Int)(m:List (ByteArray×GSide))(k:ByteArray)(s:GSide)(hi:i=0∨i=1)(hB:okB n)(hs:TS other)(ht:okTm l)(ht':okTm other)(hw:okW l)(hw':okW other)
  (hl:l.length≤1000000)(ho:other.length≤1000000):G126s0 i l other n cl m k s=some (joinF n i l other):=by
 unfold G126s0 T126s0
 simp only[Tr.den]
 have hb:=hB.b
 have ha:=hB.a
 have h1:=while_trace (bd:=fun z=>(T126s0_L0 i l other n cl m k s z).den) (fun q=>((l.take q).flatMap (joinA n i other),(q:Int))) l.length (r:=.inl (joinF n i l other)) (fun q hq=>?_) ?_
 ·refine(congrArg (fun x=>Option.bind x _) h1).trans ?_
  rfl
 ·unfold T126s0_L0
  simp only[Tr.den,Int.toNat_natCast]
  have tq:=ht.get q
  have w1:IntKind.i64.wrap ((l.getD q default).Time-n.After)=(l.getD q default).Time-n.After:=wrap_id (by omega) (by omega)
  have w2:IntKind.i64.wrap ((l.getD q default).Time+n.Before)=(l.getD q default).Time+n.Before:=wrap_id (by omega) (by omega)
  have w3:IntKind.i64.wrap ((l.getD q default).Time-n.Before)=(l.getD q default).Time-n.Before:=wrap_id (by omega) (by omega)
  have w4:IntKind.i64.wrap ((l.getD q default).Time+n.After)=(l.getD q default).Time+n.After:=wrap_id (by omega) (by omega)
  rw[if_pos (decT (by omega)),if_pos (by omega),w1,w2,w3,w4]
  have hlen0:((l.take q).flatMap (joinA n i other)).length≤1000000*1000000:=by
   refine Nat.le_trans (flatMap_len (joinA_len n i other) _) (Nat.mul_le_mul ?_ ho)
   simp; omega
  have inner:∀ (r7:List GDelta),r7.length≤1000000→okW r7→(whileM (fun z=>(T126s0_L1 i l other n cl m k s (q:Int) r7 z).den) ((l.take q).flatMap (joinA n i other),0))=some (.inl ((l.take q).flatMap (joinA n i other)++r7.map (joinP i (l.getD q default)))):=by
   intro r7 hr7 hw7
   have h2:=while_trace (bd:=fun z=>(T126s0_L1 i l other n cl m k s (q:Int) r7 z).den) (fun p=>((l.take q).flatMap (joinA n i other)++(r7.take p).map (joinP i (l.getD q default)),(p:Int))) r7.length (r:=.inl ((l.take q).flatMap (joinA n i other)++r7.map (joinP i (l.getD q default)))) (fun p hp=>?_) ?_
   ·rw[←h2]; simp
   ·unfold T126s0_L1
    simp only[Tr.den,Int.toNat_natCast]
    rw[if_pos (decT (by omega)),if_pos (by omega)]
    have fin:∀ (x:GDelta),x=joinP i (l.getD q default) (r7.getD p default) →
      (if ((List.flatMap (joinA n i other) (List.take q l)++List.map (joinP i (l.getD q default)) (List.take p r7)).length+[x].length)*40≤140737488355328 then
       some (Sum.inl (List.flatMap (joinA n i other) (List.take q l)++List.map (joinP i (l.getD q default)) (List.take p r7)++[x],IntKind.i64.wrap ((p:Int)+1))) else none) =
      (some (.inl (List.flatMap (joinA n i other) (List.take q l)++List.map (joinP i (l.getD q default)) (List.take (p+1) r7),((p+1:Nat):Int))):Option (((List GDelta)×Int)⊕(((List GDelta))⊕(((List GDelta)×Int)⊕(((List GDelta))⊕((List GDelta))))))):=by
     rintro x rfl
     rw[if_pos (by simp only[List.length_append,List.length_map,List.length_take,List.length_cons,List.length_nil]; omega),wrap_inc (by omega),take_succ_getD hp,List.map_append,List.append_assoc]
     rfl
    rcases hi with rfl | rfl
    ·rw[if_neg (beqF (by omega))]
     simp only[Option.bind_some]
     rw[G170_eq _ _ _ _ (by exact hw.get q) (by exact hw7.get p)]
     simp only[Option.bind_some]
     exact fin _ (by unfold joinP; rw[if_neg (show ¬ (0:Int)=1 by omega)])
    ·rw[if_pos (beqT rfl)]
     simp only[Option.bind_some]
     rw[G170_eq _ _ _ _ (by exact hw7.get p) (by exact hw.get q)]
     simp only[Option.bind_some]
     exact fin _ (by unfold joinP; rw[if_pos (show (1:Int)=1 from rfl)])
   ·unfold T126s0_L1
    simp only[Tr.den]
    rw[if_neg (decF (by omega)),List.take_length]
  have wr:∀ a b,okW (nearF other a b):=fun a b d hd=>hw' d (nearF_mem hd)
  rcases hi with rfl | rfl
  ·rw[if_neg (beqF (by omega))]
   simp only[Option.bind_some]
   rw[G128_eq other _ _ hs ht' (by omega) (by omega) (by omega)]
   simp only[Option.bind_some]
   rw[inner _ (Nat.le_trans (nearF_len _ _ _) ho) (wr _ _)]
   simp only[Option.bind_some,sel]
   rw[wrap_inc (by omega),take_succ_getD hq,List.flatMap_append]
   simp[joinA]
  ·rw[if_pos (beqT rfl)]
   simp only[Option.bind_some]
   rw[G128_eq other _ _ hs ht' (by omega) (by omega) (by omega)]
   simp only[Option.bind_some]
   rw[inner _ (Nat.le_trans (nearF_len _ _ _) ho) (wr _ _)]
   simp only[Option.bind_some,sel]
   rw[wrap_inc (by omega),take_succ_getD hq,List.flatMap_append]
   simp[joinA]
 ·unfold T126s0_L0
  simp only[Tr.den]
  rw[if_neg (decF (by omega)),List.take_length]
  rfl
def asofA(n:GNode)(right:List GDelta)(a:GDelta):List GDelta:=
 if nearF right (a.Time-n.Keep+1) a.Time=[] then [] else [pairF a ((nearF right (a.Time-n.Keep+1) a.Time).getD ((nearF right (a.Time-n.Keep+1) a.Time).length-1) default) a.Time a.N]
def asofF(n:GNode)(l right:List GDelta):List GDelta:=l.flatMap (asofA n right)
theorem asofA_len(n:GNode)(right:List GDelta)(a:GDelta):(asofA n right a).length≤1:=by unfold asofA; split <;> simp
theorem G127s0_eq(l right:List GDelta)(n:GNode)(cl:Int)(m:List (ByteArray×GSide))(k:ByteArray)(s:GSide)(hK:1≤n.Keep∧n.Keep≤10000)(hs:TS right)(ht:okTm l)(ht':okTm right)(hw:okW l)(hw':okW right)
  (hl:l.length≤1000000)(ho:right.length≤1000000):G127s0 l right n cl m k s=some (asofF n l right):=by
 unfold G127s0 T127s0
 simp only[Tr.den]
 have h1:=while_trace (bd:=fun z=>(T127s0_L0 l right n cl m k s z).den) (fun q=>((l.take q).flatMap (asofA n right),(q:Int))) l.length (r:=.inl (asofF n l right)) (fun q hq=>?_) ?_
 ·refine(congrArg (fun x=>Option.bind x _) h1).trans ?_
  rfl
 ·unfold T127s0_L0
  simp only[Tr.den,Int.toNat_natCast]
  have tq:=ht.get q
  have w1:IntKind.i64.wrap (IntKind.i64.wrap ((l.getD q default).Time-n.Keep)+1)=(l.getD q default).Time-n.Keep+1:=by rw[wrap_id (n:=(l.getD q default).Time-n.Keep) (by omega) (by omega),wrap_id (by omega) (by omega)]
  rw[if_pos (decT (by omega)),if_pos (by omega),w1,G128_eq right _ _ hs ht' (by omega) (by omega) (by omega)]
  simp only[Option.bind_some]
  have hlen0:((l.take q).flatMap (asofA n right)).length≤1000000:=by
   have:=flatMap_len (asofA_len n right) (l.take q)
   rw[List.length_take]at this; omega
  have hnl:=nearF_len right ((l.getD q default).Time-n.Keep+1) (l.getD q default).Time
  have hA:asofA n right (l.getD q default)=if nearF right ((l.getD q default).Time-n.Keep+1) (l.getD q default).Time=[] then [] else [pairF (l.getD q default) ((nearF right ((l.getD q default).Time-n.Keep+1) (l.getD q default).Time).getD ((nearF right ((l.getD q default).Time-n.Keep+1) (l.getD q default).Time).length-1) default) (l.getD q default).Time (l.getD q default).N]:=rfl
  have wr:okW (nearF right ((l.getD q default).Time-n.Keep+1) (l.getD q default).Time):=fun d hd=>hw' d (nearF_mem hd)
  generalize nearF right ((l.getD q default).Time-n.Keep+1) (l.getD q default).Time=r at *
  by_cases hr:r=[]
  ·rw[if_neg (decF (by rw[hr]; simp))]
   simp only[Option.bind_some]
   rw[wrap_inc (by omega),take_succ_getD hq,List.flatMap_append]
   simp only[List.flatMap_cons,List.flatMap_nil,hA,if_pos hr,List.append_nil]
  ·have hr0:=List.length_pos_iff.2 hr
   have w2:IntKind.i64.wrap ((r.length:Int)-1)=((r.length-1:Nat):Int):=by rw[wrap_id] <;> omega
   rw[if_pos (decT (by omega)),w2]
   simp only[Int.toNat_natCast]
   rw[if_pos (by omega),G170_eq _ _ _ _ (hw.get q) (wr.get _)]
   simp only[Option.bind_some]
   rw[if_pos (by omega)]
   simp only[Option.bind_some]
   rw[wrap_inc (by omega),take_succ_getD hq,List.flatMap_append]
   simp only[List.flatMap_cons,List.flatMap_nil,hA,if_neg hr,List.append_nil]
 ·unfold T127s0_L0
  simp only[Tr.den]
  rw[if_neg (decF (by omega)),List.take_length]
  rfl
end Go.PL
