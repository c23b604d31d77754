/-
  MeaningLinear: for all arguments of bulk at most 1048576 the law returns true and leaves its arguments as they were; the listed tables are tied to the program's text. Own work.
  Parts ahead of it: The kept part of a plain-law text (strip.py). Own work. The kept part of a plain-law text (strip.py). Own work. The kept part of a plain-law text (strip.py). Own work. The kept part of a plain-law text (strip.py). Own work. The kept part of a plain-law text (strip.py). Own work. Plain law of the meaning of patterns: rows by their keys. Own work. Plain law of the meanings: windows of fixed length. Own work. Plain law of the meanings: the walk of windows of fixed length. Own work. Plain law of the meanings: the walk of sessions and aggregates. Own work. Plain law of the meanings: the walk of windows. Own work. Plain law of the meanings: weights of what windows yield. Own work. Plain law of the meanings: the walk of tops. Own work. Plain law of the meanings: the stable sort of the library with the order of tops: values descending, what came first ahead. Own work. The kept part of a plain-law text (strip.py). Own work. The kept part of a plain-law text (strip.py). Own work. The kept part of a plain-law text (strip.py). Own work. The kept part of a plain-law text (strip.py). Own work. Plain law of the meanings: what tops sort; the node's windows and tops; the examples hold. Own work. Plain law of the meanings: inputs; filters, maps, unions, joins. Own work. The kept part of a plain-law text (strip.py). Own work. Plain law of the meanings: MeaningLinear. Own work.
-/
import Derived.Test.YtjefblkdnolgaaaGreatDoorMh
set_option maxHeartbeats 4000000
namespace Go.PL
open Go
set_option linter.unusedVariables false
set_option maxRecDepth 20000
variable {b e t:Int} {c k:Nat} {l:List aC}
section
variable {α:Type} (K:Nat) (rep:Nat->Int) (ok:α->Nat->Prop)
variable {K rep ok}
variable (K rep ok)
end
theorem aIF(row:List aF)(n:aI)(hc:xY n.Key row)(hl:n.Key.length<=1000):Vx row n.Key=some (Bz n row):=by
 unfold Vx aIU;simp only[Tr.den];rw[aA ⟨⟨by omega,by rw[bT (by omega) (by omega)]; omega⟩,by rw[bT (by omega) (by omega)]; omega⟩];have h1:=bG (bd:=fun s=>(pX row n.Key s).den) (fun k=>((n.Key.take k).map fun c=>row.getD c.toNat default,(k:Int))) n.Key.length (r:=.inl (Bz n row)) (fun k hk=>?_) ?_
 ·exact(congrArg (fun x=>Option.bind x _) h1).trans rfl
 ·unfold pX;simp only[Tr.den,aX];have hm:=hc _ (aT hk);rw[aA (bV (by omega)),aA (by omega),aA (by omega),aA (by simp only[bY,cG,eI]; omega),aP (by omega),aO hk,oM];rfl
 ·unfold pX;simp only[Tr.den];rw[aE (cD (by omega)),dL]; rfl
theorem Vr(row:List aF)(n:aI)(hc:xY n.Key row)(hl:n.Key.length<=1000):Pk row n.Key=some (Bz n row):=by
 unfold Pk Mc;simp only[Tr.den];rw[aA ⟨⟨by omega,by rw[bT (by omega) (by omega)]; omega⟩,by rw[bT (by omega) (by omega)]; omega⟩];have h1:=bG (bd:=fun s=>(sJ row n.Key s).den) (fun k=>((n.Key.take k).map fun c=>row.getD c.toNat default,(k:Int))) n.Key.length (r:=.inl (Bz n row)) (fun k hk=>?_) ?_
 ·exact(congrArg (fun x=>Option.bind x _) h1).trans rfl
 ·unfold sJ;simp only[Tr.den,aX];have hm:=hc _ (aT hk);rw[aA (bV (by omega)),aA (by omega),aA (by omega),aA (by simp only[bY,cG,eI]; omega),aP (by omega),aO hk,oM];rfl
 ·unfold sJ;simp only[Tr.den];rw[aE (cD (by omega)),dL]; rfl
theorem aIG(b:Bool):aMU b=some (vB b):=by cases b <;> simp[aMU,aNS,Tr.den,vB]
theorem Vm{r:List aF}(h:Dm r)(hl:r.length<=1000):(Vj r).size<=1000+r.length*1073742000:=by have h1:=uG ((⟨#[]⟩:ByteArray)++Ej (r.length:Int)) r h;have h2:=lE (n:=(r.length:Int)) ⟨by omega,by omega⟩;rw[jG,show (⟨#[]⟩:ByteArray).size=0 from rfl]at h1;unfold Vj;omega
theorem Jb{n:aI}(h:okI n 0 l)(hk:n.Key.length<=20)(hl:l.length<=1000000):Xe (bF (cQ n 0 l))=true:=by
 unfold Xe;have h1:=lW n 0 l;rw[cP,kN,eV];refine⟨by unfold bF; rw[bY]; omega,fun k hk'=>bV ?_⟩;have hne:=uN.1 hk';obtain⟨hd,e⟩:=tE.1 (aT (iZ.2 hne));rw[<-e];refine iQ (Vm (r:=Bz n _) (fun v hv=>?_) (by unfold Bz; rw[bY]; omega)) ?_
 ·obtain⟨c,_,rfl⟩:=dG.1 hv;exact Dm.get (h.v _ hd) _
 ·unfold Bz; rw[bY]; omega
theorem Rl{n:aI}(h:okI n 0 l)(hk:n.Key.length<=20)(hl:l.length<=1000000):aEF l n.Key=some ((eW (bF (cQ n 0 l))).map fun k=>ofK n 0 k l):=by
 unfold aEF aLD;simp only[Tr.den];have h1:=bG (bd:=fun s=>(As l n.Key s).den) (fun k=>(cQ n 0 (l.take k),(k:Int))) l.length (r:=.inl (cQ n 0 l)) (fun k hk'=>?_) ?_
 ·refine(congrArg (fun x=>Option.bind x _) h1).trans ?_;simp only[aK,sel];rw[aA (Jb h hk hl)];simp only[aK];have hml:=lW n 0 l;have hsl:=lH (bF (cQ n 0 l));have hml':(bF (cQ n 0 l)).length=(cQ n 0 l).length:=bY _;generalize hks:eW (bF (cQ n 0 l))=ks at hsl ⊢;have h2:=bG (bd:=fun s=>(Ag (cQ n 0 l) ks s).den) (fun k=>((ks.take k).map fun k=>ofK n 0 k l,ks,(k:Int))) ks.length (r:=.inl (ks.map fun k=>ofK n 0 k l)) (fun k hk'=>?_) ?_
  ·exact(congrArg (fun x=>Option.bind x _) h2).trans rfl
  ·unfold Ag;simp only[Tr.den,aX];have e:∀ c,ofK n 0 (ks.getD k default) l=c->(ks.take (k+1)).map (fun k=>ofK n 0 k l)=(ks.take k).map (fun k=>ofK n 0 k l)++[c]:=fun c hc=>by rw[aO hk',oM,<-hc]; rfl
   rw[aA (bV (by omega)),aA (by omega),aA (by omega),aP (by omega)];have hL:=rI n 0 (ks.getD k default) l;cases hc:bC (cQ n 0 l) (ks.getD k default) with
   | none=>
    rw[hc]at hL;have h0:ofK n 0 (ks.getD k default) l=[]:=Kj fun h0=>by rw[aE h0]at hL; cases hL
    simp only;rw[aA (by simp only[bY,cG,eI]; omega),e _ h0];rfl
   | some c=>
    rw[hc]at hL;have h0:ofK n 0 (ks.getD k default) l=c:=by
     by_cases h0:ofK n 0 (ks.getD k default) l=[]
     ·rw[aA h0]at hL; cases hL
     ·rw[aE h0]at hL; injection hL with hL; exact hL.symm
    simp only;rw[aA (by simp only[bY,cG,eI]; omega),e _ h0];rfl
  ·unfold Ag;simp only[Tr.den];rw[aE (cD (by omega)),dL]
 ·unfold As;simp only[Tr.den,aX];have hm:=aT hk';have hcl:xY n.Key (l.getD k default).Row:=h.c _ hm;rw[aA (bV (by omega)),aA (by omega),aIF _ n hcl (by omega)];simp only[aK];rw[Px _ (fun v hv=>by obtain⟨c,hcm,rfl⟩:=dG.1 hv;exact Dm.get (h.v _ hm) _) (by unfold Bz; rw[bY]; omega)];simp only[aK];have h2:=kS n 0 (Lp n 0 (l.getD k default).Row) (l.take k);simp only[cG]at h2;have hkey:Vj (Bz n (l.getD k default).Row)=Lp n 0 (l.getD k default).Row:=rfl;rw[hkey,aA (by rw[uH]; simp only[dO,eS]; omega),aP (by omega)]
  congr 3
  unfold cQ;rw[aO hk',List.foldl_append];rfl
 ·unfold As;simp only[Tr.den];rw[aE (cD (by omega)),dL]
theorem uF(ks:List ByteArray):(eW ks).Perm ks:=by
 unfold eW;have h:=(List.mergeSort_perm (ks.map fun k=>k.data.toList) (fun x y=>decide (x<=y))).map fun l:List UInt8=>(⟨l.toArray⟩:ByteArray);refine h.trans ?_;rw[rJ];have e:((fun l:List UInt8=>(⟨l.toArray⟩:ByteArray)) ∘ fun k:ByteArray=>k.data.toList)=id:=by funext k; rfl
 rw[e,List.map_id]
theorem LO.int:LO Int:=by
 have e:∀ a b:Int,MKey.lt a b=decide (a<b):=fun a b=>rfl;refine⟨fun a=>by rw[e]; simp,fun a b c h1 h2=>?_,fun a b h=>?_⟩
 ·rw[e]at h1 h2 ⊢;have h1:=dW h1;have h2:=dW h2;exact bV (by omega)
 ·rw[e,e];rcases Int.lt_or_gt_of_ne h with h | h
  ·exact .inl (bV h)
  ·exact .inr (bV h)
def Iy(len step t:Int):Nat:=((t / step*step+len-t+step-1) / step).toNat
def mL(len step t:Int):List Int:=(List.range (Iy len step t)).map fun i:Nat=>t / step*step-(i:Int)*step
theorem wE{len step:Int}(hs:0<step)(i:Nat):i<Iy len step t↔t<t / step*step-(i:Int)*step+len:=by
 unfold Iy;have h1:i<((t / step*step+len-t+step-1) / step).toNat↔(i:Int)+1<=(t / step*step+len-t+step-1) / step:=by omega
 rw[h1,Int.le_ediv_iff_mul_le hs,Int.add_mul];generalize (i:Int)*step=z;generalize t / step*step=y;omega
theorem aBJ{len step:Int}(hs:0<step):b∈mL len step t↔step∣b/\b<=t/\t<b+len:=by
 unfold mL;rw[dG];have h0:t / step*step<=t:=Int.ediv_mul_le t (by omega);constructor
 ·rintro⟨i,hi,rfl⟩;have h1:=(wE hs i).1 (zK.1 hi);refine⟨⟨t / step-i,by rw[rP step,Int.sub_mul]⟩,?_,h1⟩;have:0<=(i:Int)*step:=Int.mul_nonneg (by omega) (by omega);omega
 ·rintro⟨⟨k,rfl⟩,h1,h2⟩;have h3:k<=t / step:=(Int.le_ediv_iff_mul_le hs).2 (by rw[rP]; exact h1);have e:t / step*step-((t / step-k).toNat:Int)*step=step*k:=by rw[show ((t / step-k).toNat:Int)=t / step-k by omega,Int.sub_mul,rP step]; omega
  refine⟨(t / step-k).toNat,zK.2 ((wE hs _).2 ?_),e⟩;rw[e]; exact h2
theorem Bu{len step:Int}(hs:0<step):(mL len step t).Nodup:=by
 unfold mL;unfold List.Nodup;rw[uD];refine List.nodup_range.imp fun {i j} hij h=>hij ?_;have h1:(i:Int)*step=(j:Int)*step:=by omega
 have:=Int.eq_of_mul_eq_mul_right (by omega) h1;omega
theorem Tb{len step:Int}(hs:0<step)(h:len<=step*c)(ht:0<=t):Iy len step t<=c:=by
 rcases mG c (Iy len step t) with h1 | h1
 ·exfalso;have h2:=(wE hs c).1 h1;have h0:t / step*step<=t:=Int.ediv_mul_le t (by omega);rw[rP]at h;omega
 ·exact h1
abbrev ZP:=List (Int×List aC)
def pA(d:aC)(bs:List Int)(m:ZP):ZP:=bs.foldl (fun m b=>mput m b ((bC m b).getD []++[d])) m
def rQ(len step:Int)(l:List aC):ZP:=l.foldl (fun m d=>pA d (mL len step d.Time) m) []
def inB(len step b:Int)(l:List aC):List aC:=l.filter fun d=>decide (b∈mL len step d.Time)
theorem Sa(d:aC):∀ (bs:List Int) {m:ZP},MC m->MC (pA d bs m)
 | [],_,h=>h
 | b::bs,_,h=>Sa d bs (h.mput LO.int _ _)
theorem xA(d:aC)(b:Int):∀ (bs:List Int) (m:ZP),bs.Nodup->bC (pA d bs m) b=if b∈bs then some ((bC m b).getD []++[d]) else bC m b
 | [],m,_=>by simp[pA]
 | c::bs,m,h=>by
  have h1:=pU.1 h;have e:pA d (c::bs) m=pA d bs (mput m c ((bC m c).getD []++[d])):=rfl;rw[e,xA d b bs _ h1.2,pS];by_cases hc:c=b
  ·subst hc;rw[aE h1.1,aA rfl,aA cH]
  ·rw[aE hc];have:(b∈c::bs)↔b∈bs:=by rw[aS];exact⟨fun h=>h.elim (fun h=>absurd h.symm hc) id,.inr⟩
   by_cases hb:b∈bs
   ·rw[aA hb,aA (this.2 hb)]
   ·rw[aE hb,aE (fun h=>hb (this.1 h))]
theorem aIW(len step:Int)(l:List aC):MC (rQ len step l):=by
 unfold rQ;have:∀ (l:List aC) (m:ZP),MC m->MC (l.foldl (fun m d=>pA d (mL len step d.Time) m) m):=by
  intro l
  induction l with
  | nil=>exact fun m h=>h
  | cons d l ih=>exact fun m h=>ih _ (Sa d _ h)
 exact this l [] Zi
theorem yF{len step:Int}(hs:0<step)(b:Int)(l:List aC):bC (rQ len step l) b=if inB len step b l=[] then none else some (inB len step b l):=by
 have:∀ (l:List aC) (m:ZP),bC (l.foldl (fun m d=>pA d (mL len step d.Time) m) m) b=if inB len step b l=[] then bC m b else some ((bC m b).getD []++inB len step b l):=by
  intro l
  induction l with
  | nil=>intro m; simp[inB]
  | cons d l ih=>
   intro m;rw[tS,ih,xA _ _ _ _ (Bu hs)];unfold inB;by_cases hk:b∈mL len step d.Time
   ·rw[uP,aA (bV hk),aA hk];by_cases h:l.filter (fun d=>decide (b∈mL len step d.Time))=[]
    ·rw[aA h,aE (by simp),h]
    ·rw[aE h,aE (by simp)]; simp
   ·rw[uP,aE (cD hk),aE hk]
 have:=this l [];simpa[bC,rQ] using this
theorem Zz{len step:Int}(hs:0<step)(b:Int)(l:List aC):(bC (rQ len step l) b).getD []=inB len step b l:=by rw[yF hs]; split <;> simp_all
theorem Kh{len step:Int}(hs:0<step):b∈bF (rQ len step l)↔inB len step b l≠[]:=by
 rw[Bx,yF hs];constructor
 ·rintro⟨c,hc⟩ h;rw[aA h]at hc; cases hc
 ·intro h;exact⟨_,aE h⟩
theorem Yv{V:Type}(m:List (Int×V))(k:Int)(c:V):(mput m k c).length<=m.length+1:=by have h:=(xE m k c).length_eq;have h2:(mdel m k).length<=m.length:=qR _ _;rw[dO]at h;omega
theorem Lk(d:aC):∀ (bs:List Int) (m:ZP),(pA d bs m).length<=m.length+bs.length
 | [],m=>eE _
 | b::bs,m=>by have h:=Lk d bs (mput m b ((bC m b).getD []++[d]));have h2:=Yv m b ((bC m b).getD []++[d]);have e:pA d (b::bs) m=pA d bs (mput m b ((bC m b).getD []++[d])):=rfl;rw[e,dO]; omega
theorem Lt(len step t:Int):(mL len step t).length=Iy len step t:=by unfold mL; rw[bY,List.length_range]
theorem Jr{len step:Int}(hs:0<step)(hc:len<=step*c)(ht:kP l):(rQ len step l).length<=l.length*c:=by
 unfold rQ;have:∀ (l:List aC) (m:ZP),kP l->(l.foldl (fun m d=>pA d (mL len step d.Time) m) m).length<=m.length+l.length*c:=by
  intro l
  induction l with
  | nil=>intro m _; simp
  | cons d l ih=>intro m h;rw[tS];have h1:=ih (pA d (mL len step d.Time) m) fun x hx=>h x (cI _ hx);have h2:=Lk d (mL len step d.Time) m;rw[Lt]at h2;have h3:=Tb (t:=d.Time) hs hc (h d cH).1;rw[dO,fZ];omega
 have:=this l [] ht;simpa using this
theorem oV(ks:List Int):(jN ks).Perm ks:=List.mergeSort_perm _ _
def kD(len step:Int)(l:List aC):List Int:=jN (bF (rQ len step l))
theorem rD{len step:Int}(hs:0<step):b∈kD len step l↔inB len step b l≠[]:=by unfold kD; rw[(oV _).mem_iff,Kh hs]
theorem Ou(len step:Int)(l:List aC):(kD len step l).Nodup:=(oV _).nodup_iff.2 ((aIW len step l).nodup LO.int)
theorem nZ{len step:Int}(hs:0<step)(hc:len<=step*c)(ht:kP l):(kD len step l).length<=l.length*c:=by unfold kD;rw[(oV _).length_eq];unfold bF;rw[bY];exact Jr hs hc ht
theorem aHE{a:Int}(ha:0<=a)(hb:0<b)(h:a<=9223372036854775807):aMN a b=some (a / b):=by unfold aMN aNG;simp only[Tr.den];have h1:0<=a / b:=Int.ediv_nonneg ha (by omega);have h2:a / b<=a:=Int.ediv_le_self b ha;rw[aE (cD (by omega)),aA (by omega),Int.tdiv_eq_ediv_of_nonneg ha,bT (by omega) (by omega)]
theorem pW{α β:Type}[Inhabited α](f:β->α->β)(b:β)(l:List α)(hk:k<l.length):(l.take (k+1)).foldl f b=f ((l.take k).foldl f b) (l.getD k default):=by rw[aO hk,List.foldl_append]; rfl
def aDY(ks:List Int)(m:ZP):List (Int×Option (List aC)):=ks.foldl (fun m b=>mput m b none) (m.map fun p=>(p.1,some p.2))
theorem Vv(m:ZP)(b:Int):bC (m.map fun p=>(p.1,some p.2)) b=(bC m b).map some:=by
 induction m with
 | nil=>rfl
 | cons p m ih=>simp only[gH,bC,ih];split <;> rfl
theorem Eu(m:ZP):bF (m.map fun p=>(p.1,some p.2))=bF m:=by unfold bF;rw[rJ]; rfl
theorem Wr(b:Int):∀ (ks:List Int) (m:ZP),bC (aDY ks m) b=if b∈ks then some none else (bC m b).map some:=by
 have:∀ (ks:List Int) (m:List (Int×Option (List aC))),bC (ks.foldl (fun m b=>mput m b none) m) b=if b∈ks then some none else bC m b:=by
  intro ks
  induction ks with
  | nil=>intro m; simp
  | cons c ks ih=>
   intro m;rw[tS,ih,pS];by_cases h:b∈ks
   ·rw[aA h,aA (cI _ h)]
   ·rw[aE h];by_cases hc:c=b
    ·subst hc; rw[aA rfl,aA cH]
    ·rw[aE hc,aE (fun h'=>(aS.1 h').elim (fun e=>hc e.symm) h)]
 intro ks m;unfold aDY;rw[this,Vv]
def Hf(len step:Int)(l:List aC):List aN:=(kD len step l).map fun b=>⟨b,b+len,inB len step b l⟩
theorem oT(len step b:Int)(l:List aC):(inB len step b l).length<=l.length:=qR _ _
theorem Pa{len step:Int}(hl:1<=len/\len<=10000)(hs:1<=step/\step<=10000)(ht:0<=t):Iy len step t<=10000:=by refine Tb (by omega) ?_ ht;have:1*10000<=step*10000:=Mz hs.1 (by omega);omega
theorem aJM(l:List aC)(len step:Int)(k:Nat)(hk:k<l.length)(m:ZP)(hl:1<=len/\len<=10000)(hs:1<=step/\step<=10000)(ht:0<=(l.getD k default).Time/\(l.getD k default).Time<=2199023255552)(hm:∀ b,((bC m b).getD []).length<=1000000):
  cO (fun s=>(vG l len step (k:Int) s).den) (m,(l.getD k default).Time / step*step)=some (.inl (pA (l.getD k default) (mL len step (l.getD k default).Time) m)):=by
 have hn:=Lt len step (l.getD k default).Time;have hb:=Bu (len:=len) (t:=(l.getD k default).Time) (show 0<step by omega);have h10:=Pa hl hs ht.1;have hc:=fun i=>wE (len:=len) (t:=(l.getD k default).Time) (show 0<step by omega) i;have h0:(l.getD k default).Time / step*step<=(l.getD k default).Time:=Int.ediv_mul_le _ (by omega);have h00:0<=(l.getD k default).Time / step*step:=Int.mul_nonneg (Int.ediv_nonneg ht.1 (by omega)) (by omega);have ei:∀ i,i<(mL len step (l.getD k default).Time).length->(mL len step (l.getD k default).Time).getD i default=(l.getD k default).Time / step*step-(i:Int)*step:=fun i hi=>by rw[bR hi]; simp[mL]
 have hmul:∀ i:Nat,i<=10000->0<=(i:Int)*step/\(i:Int)*step<=10000*10000:=fun i hi=>
  ⟨Int.mul_nonneg (by omega) (by omega),Int.mul_le_mul (by omega) hs.2 (by omega) (by omega)⟩
 have h1:=bG (bd:=fun s=>(vG l len step (k:Int) s).den) (fun i=>(pA (l.getD k default) ((mL len step (l.getD k default).Time).take i) m,(l.getD k default).Time / step*step-(i:Int)*step)) (Iy len step (l.getD k default).Time) (r:=.inl (pA (l.getD k default) (mL len step (l.getD k default).Time) m)) (fun i hi=>?_) ?_
 ·rw[<-h1];simp[pA]
 ·have g1:=hmul i (by omega);unfold vG;simp only[Tr.den,aX];rw[bT (by omega) (by omega),aA (bV ((hc i).1 hi))];have hlk:((bC (pA (l.getD k default) ((mL len step (l.getD k default).Time).take i) m) ((l.getD k default).Time / step*step-(i:Int)*step)).getD []).length<=1000001:=by
   rw[xA _ _ _ _ (hb.sublist (List.take_sublist _ _))];have:=hm ((l.getD k default).Time / step*step-(i:Int)*step);split
   ·simp only[tP,bU,eI]; omega
   ·omega
  rw[aA (by simp only[eI]; omega),bT (by omega) (by omega)]
  congr 3
  ·unfold pA;rw[pW _ _ _ (by omega),ei i (by omega)]
  ·rw[show ((i+1:Nat):Int)*step=(i:Int)*step+step by rw[Int.natCast_add,Int.add_mul]; omega]; omega
 ·have g1:=hmul (Iy len step (l.getD k default).Time) h10;unfold vG;simp only[Tr.den,aX];rw[bT (by omega) (by omega),aE (cD (show ¬ (_>_) from fun h=>absurd ((hc _).2 h) (Nat.lt_irrefl _))),<-hn,dL]
theorem jX{len step:Int}(hs:0<step)(ht:kP l)(hb:inB len step b l≠[]):-len<b/\b<=2199023255552:=by obtain⟨d,hd⟩:=List.exists_mem_of_ne_nil _ hb;obtain⟨h1,h2⟩:=jR.1 hd;obtain⟨h3,h4,h5⟩:=(aBJ hs).1 (dW h2);have:=ht d h1;omega
theorem zV{len step:Int}(hl:1<=len/\len<=10000)(hs:1<=step/\step<=10000)(ht:kP l)(hn:l.length<=1000):Wo l len step=some (Hf len step l):=by
 have hs0:0<step:=by omega
 have hln:len<=step*(10000:Nat):=by have:1*10000<=step*10000:=Mz hs.1 (by omega);omega
 have hML:=Jr hs0 hln ht;have hWL:=nZ hs0 hln ht;unfold Wo aND;simp only[Tr.den];have h1:=bG (bd:=fun s=>(Ap l len step s).den) (fun k=>(rQ len step (l.take k),(k:Int))) l.length (r:=.inl (rQ len step l)) (fun k hk'=>?_) ?_
 ·refine(congrArg (fun x=>Option.bind x _) h1).trans ?_;simp only[aK,sel];have hz:Yf (bF ((rQ len step l).map fun p=>(p.1,some p.2)))=true:=by rw[Eu];unfold Yf;rw[cP,kN,eV];refine⟨by unfold bF; rw[bY]; omega,fun k hk=>bV ?_⟩;have:=jX hs0 ht ((Kh hs0).1 hk);omega
  rw[aA hz];simp only[aK];rw[Eu];have hnd:=Ou len step l;have hwm:∀ b,b∈kD len step l->bC (rQ len step l) b=some (inB len step b l) /\ -len<b/\b<=2199023255552:=fun b hb=>by have h0:=(rD hs0).1 hb;exact⟨by rw[yF hs0,aE h0],jX hs0 ht h0⟩
  unfold Hf;change (cO (fun s=>(wK len (kD len step l) s).den) ((rQ len step l).map fun p=>(p.1,some p.2),[],kD len step l,0)).bind _=_;generalize kD len step l=ks at hnd hwm hWL ⊢;have h2:=bG (bd:=fun s=>(wK len ks s).den) (fun k=>(aDY (ks.take k) (rQ len step l),(ks.take k).map fun b=>(⟨b,b+len,inB len step b l⟩:aN),ks,(k:Int))) ks.length (r:=.inl (ks.map fun b=>(⟨b,b+len,inB len step b l⟩:aN))) (fun k hk'=>?_) ?_
  ·exact(congrArg (fun x=>Option.bind x _) h2).trans rfl
  ·have hm:=hwm _ (aT hk');have hni:ks.getD k default∉ks.take k:=fun h=>by have h3:=hnd;rw[<-iI k ks,cV hk',vK]at h3;exact h3.2.2 _ h _ cH rfl
   unfold wK;simp only[Tr.den,aX];rw[aA (bV (by omega)),aA (by omega),aA hk',Wr,aE hni,hm.1];simp only[oI];rw[aA (by simp only[bY,cG,eI]; omega),aP (by omega),bT (by omega) (by omega)]
   congr 3
   ·unfold aDY;rw[pW _ _ _ hk']
   ·rw[aO hk',oM]; rfl
  ·unfold wK;simp only[Tr.den];rw[aE (cD (by omega)),dL]
 ·have hm:=aT hk';have htd:=ht _ hm;unfold Ap;simp only[Tr.den,aX];rw[aA (bV (by omega)),aA (by omega),aHE htd.1 hs0 (by omega)];simp only[aK];have hw:IntKind.i64.wrap ((l.getD k default).Time / step*step)=(l.getD k default).Time / step*step:=by have h0:(l.getD k default).Time / step*step<=(l.getD k default).Time:=Int.ediv_mul_le _ (by omega);have h00:0<=(l.getD k default).Time / step*step:=Int.mul_nonneg (Int.ediv_nonneg htd.1 (by omega)) (by omega);exact bT (by omega) (by omega)
  rw[hw,aJM l len step k hk' _ hl hs htd fun b=>by rw[Zz hs0]; have:=oT len step b (l.take k); rw[cG]at this; omega];simp only[aK,sel];rw[aP (by omega)]
  congr 3
  unfold rQ;rw[pW _ _ _ hk']
 ·unfold Ap;simp only[Tr.den];rw[aE (cD (by omega)),dL]
theorem Ox:aAB=Wo:=rfl
def mN(a b:Int):Int:=if b<a then b else a
def Ef(step e:Int)(s:List aN)(last:Int)(x:aC):List aN:=
 if s=[]\/x.Time-last>=step then s++[⟨x.Time,mN (x.Time+step) e,[x]⟩]
 else s.set (s.length-1) ⟨(s.getD (s.length-1) default).begin_,mN (x.Time+step) e,(s.getD (s.length-1) default).rows_++[x]⟩
def kI(step e:Int)(l:List aC):List aN×Int:=l.foldl (fun p x=>(Ef step e p.1 p.2 x,x.Time)) ([],-step)
def ses(step e:Int)(l:List aC):List aN:=(kI step e l).1
theorem aJR{step:Int}{s:List aN}{last:Int}{x:aC}:Ef step e s last x≠[]:=by
 unfold Ef;split
 ·simp
 ·rename_i h;intro h0;have:=congrArg List.length h0;simp only[List.length_set,eS]at this;exact h (.inl (rN this))
theorem kX{step:Int}(hk:k<l.length):kI step e (l.take (k+1))=(Ef step e (kI step e (l.take k)).1 (kI step e (l.take k)).2 (l.getD k default),(l.getD k default).Time):=by unfold kI; rw[pW _ _ _ hk]
theorem aJE{step:Int}(hk:k<l.length):(kI step e (l.take (k+1))).1≠[]:=by rw[kX hk]; exact aJR
theorem Yt{step:Int}{s:List aN}{last:Int}{x:aC}:(Ef step e s last x).length<=s.length+1:=by
 unfold Ef;split
 ·rw[bU]; exact eE _
 ·rw[List.length_set]; omega
theorem Hl(step e:Int)(l:List aC):(ses step e l).length<=l.length:=by
 have:∀ k,k<=l.length->(ses step e (l.take k)).length<=k:=by
  intro k
  induction k with
  | zero=>intro _; simp[ses,kI]
  | succ k ih=>intro hk;have h1:=ih (by omega);unfold ses at h1 ⊢;rw[kX (by omega)];have:=Yt (step:=step) (e:=e) (s:=(kI step e (l.take k)).1) (last:=(kI step e (l.take k)).2) (x:=l.getD k default);simp only; omega
 have h:=this l.length (eE _)
 rwa [dL]at h
theorem Kk(step e:Int)(l:List aC):∀ k,k<=l.length->∀ w,w∈ses step e (l.take k)->w.rows_.length<=k:=by
 intro k
 induction k with
 | zero=>intro _ w hw; simp[ses,kI]at hw
 | succ k ih=>
  intro hk w hw;have h1:=ih (by omega);unfold ses at h1 hw;rw[kX (by omega)]at hw;simp only at hw;unfold Ef at hw;split at hw
  ·rcases dA.1 hw with hw | hw
   ·have:=h1 w hw; omega
   ·rw[bW.1 hw]; simp
  ·rename_i hne;rcases Qu hw with hw | hw
   ·have:=h1 w hw; omega
   ·subst hw;have h0:0<(kI step e (l.take k)).1.length:=iZ.2 fun h=>hne (.inl h);have:=h1 _ (aT (show (kI step e (l.take k)).1.length-1<(kI step e (l.take k)).1.length by omega));simp only[bU,eI]; omega
theorem Je{α:Type}(O s:List α)(w:α)(h:s≠[]):(O++s).set ((O++s).length-1) w=O++s.set (s.length-1) w:=by
 have h0:0<s.length:=iZ.2 h;rw[List.set_append,aE (by rw[bU]; omega)]
 congr 2
 rw[bU]; omega
theorem pM{α:Type}[Inhabited α](O s:List α)(h:s≠[]):(O++s).getD ((O++s).length-1) default=s.getD (s.length-1) default:=by
 have h0:0<s.length:=iZ.2 h;rw[bI,aE (by rw[bU]; omega)]
 congr 1
 rw[bU]; omega
theorem aJJ(n:aI)(r1:List aN)(k:Nat)(O:List aN)(hs:1<=n.Step/\n.Step<=10000)(ht:kP (r1.getD k default).rows_)(hl:(r1.getD k default).rows_.length<=1000)(hO:O.length<=1000000000)(he:-10000<=(r1.getD k default).end_/\(r1.getD k default).end_<=4398046511104):
  cO (fun s=>(vS n r1 (k:Int) s).den) (O,-n.Step,0)=some (.inl (O++ses n.Step (r1.getD k default).end_ (r1.getD k default).rows_)):=by
 generalize hR:(r1.getD k default).rows_=R at ht hl;generalize hE:(r1.getD k default).end_=E at he;have h1:=bG (bd:=fun s=>(vS n r1 (k:Int) s).den) (fun i=>(O++(kI n.Step E (R.take i)).1,(kI n.Step E (R.take i)).2,(i:Int))) R.length (r:=.inl (O++ses n.Step E R)) (fun i hi=>?_) ?_
 ·rw[<-h1];simp[kI]
 ·have hm:=ht _ (aT hi);have hr:=Kk n.Step E R i (by omega);have hsl:=Hl n.Step E (R.take i);rw[cG]at hsl;have hlast:-10000<=(kI n.Step E (R.take i)).2/\(kI n.Step E (R.take i)).2<=2199023255552:=by
   cases i with
   | zero=>simp only[List.take_zero,kI,List.foldl_nil]; omega
   | succ i=>rw[kX (by omega)]; have:=ht _ (aT (show i<R.length by omega)); simp only; omega
  have hne:i=0\/(kI n.Step E (R.take i)).1≠[]:=by
   cases i with
   | zero=>exact .inl rfl
   | succ i=>exact .inr (aJE (by omega))
  have he0:i=0->(kI n.Step E (R.take i)).1=[]:=by rintro rfl; rfl
  unfold ses at hr hsl;rw[kX hi];generalize hF:kI n.Step E (R.take i)=F at hr hsl hlast hne he0 ⊢;obtain⟨s,last⟩:=F;simp only at hr hsl hlast hne he0 ⊢;unfold vS;simp only[Tr.den,aX,hR,hE];rw[aA (bV (by omega)),aA (by omega)];rw[bT (n:=(R.getD i default).Time-last) (by omega) (by omega),bT (n:=(R.getD i default).Time+n.Step) (by omega) (by omega),aP (by omega)];generalize R.getD i default=x at hm ⊢;have hmin:(if E<x.Time+n.Step then E else x.Time+n.Step)=mN (x.Time+n.Step) E:=rfl;have fin:∀ j:List aN,j≠[]->j.length<=1000001000->(j.getD (j.length-1) default).rows_.length<=1000 ->
    (if 0<=IntKind.i64.wrap ((j.length:Int)-1)/\IntKind.i64.wrap ((j.length:Int)-1)<(j.length:Int) then if (IntKind.i64.wrap ((j.length:Int)-1)).toNat<j.length then if (IntKind.i64.wrap ((j.length:Int)-1)).toNat<j.length/\True/\True then
     if ((j.getD (IntKind.i64.wrap ((j.length:Int)-1)).toNat default).rows_.length+1)*40<=140737488355328 then if (IntKind.i64.wrap ((j.length:Int)-1)).toNat<j.length then if (IntKind.i64.wrap ((j.length:Int)-1)).toNat<j.length then
      some (Sum.inl (α:=List aN×Int×Int) (β:=List aN⊕((List aN×Int)⊕(List aN⊕List aN))) (j.set (IntKind.i64.wrap ((j.length:Int)-1)).toNat ⟨(j.getD (IntKind.i64.wrap ((j.length:Int)-1)).toNat default).begin_,if E<x.Time+n.Step then E else x.Time+n.Step,(j.getD (IntKind.i64.wrap ((j.length:Int)-1)).toNat default).rows_++[x]⟩,x.Time,((i+1:Nat):Int))) else none else none else none else none else none else none) =
    some (.inl (j.set (j.length-1) ⟨(j.getD (j.length-1) default).begin_,mN (x.Time+n.Step) E,(j.getD (j.length-1) default).rows_++[x]⟩,x.Time,((i+1:Nat):Int))):=fun j hj hj1 hj2=>by
   have h0:0<j.length:=iZ.2 hj;have w:IntKind.i64.wrap ((j.length:Int)-1)=((j.length-1:Nat):Int):=by rw[bT (by omega) (by omega)]; omega
   rw[w,aX,aA (by omega),aA (by omega),aA ⟨by omega,trivial,trivial⟩,aA (by omega),aA (by omega),aA (by omega)];rfl
  have hcond:((if ((i:Int)==0)=true then some (O++s,true) else some (O++s,decide (x.Time-last>=n.Step))):Option (List aN×Bool))=some (O++s,decide (s=[]\/x.Time-last>=n.Step)):=by
   by_cases h:i=0
   ·rw[aA (fL (by omega))]
    congr 2
    exact(bV (.inl (he0 h))).symm
   ·rw[aE (eG (by omega))]
    congr 2
    have h2:=hne.resolve_left h;by_cases h3:x.Time-last>=n.Step
    ·rw[bV h3,bV (.inr h3)]
    ·rw[gN h3,gN (fun h'=>h'.elim h2 h3)]
  rw[hcond];simp only[aK];by_cases hc:s=[]\/x.Time-last>=n.Step
  ·rw[bV hc];simp only[gK];rw[aA (by simp only[bU,eI]; omega)];simp only[aK];have hj:O++s++[(⟨x.Time,0,[]⟩:aN)]≠[]:=by simp
   rw[fin _ hj (by simp only[bU,eI]; omega) (by rw[pM _ _ (by simp)]; simp)];rw[Je _ _ _ (by simp),pM _ _ (by simp)];unfold Ef;rw[aA hc,dC];rfl
  ·rw[gN hc];simp only[dS,dQ,aK];have hs0:s≠[]:=fun h=>hc (.inl h);have h0:0<s.length:=iZ.2 hs0;have hrr:=hr _ (aT (show s.length-1<s.length by omega));rw[fin _ (by simp[hs0]) (by simp only[bU]; omega) (by rw[pM _ _ hs0]; omega)];rw[Je _ _ _ hs0,pM _ _ hs0];unfold Ef;rw[aE hc]
 ·unfold vS;simp only[Tr.den,aX,hR];rw[aE (cD (by omega)),dL];rfl
def Kt(n:aI)(l:List aC):List aN:=(kD n.Size n.Size l).flatMap fun b=>ses n.Step (b+n.Size) (inB n.Size n.Size b l)
theorem aFG{n:aI}(hz:1<=n.Size/\n.Size<=10000)(hs:1<=n.Step/\n.Step<=10000)(ht:kP l)(hn:l.length<=1000):aIP n l=some (Kt n l):=by
 unfold aIP aMZ;simp only[Tr.den];rw[zV hz hz ht hn];simp only[aK];have hz0:0<n.Size:=by omega
 have hWL:=nZ (len:=n.Size) (step:=n.Size) (c:=1) hz0 (by omega) ht;have hwm:∀ b,b∈kD n.Size n.Size l -> -n.Size<b/\b<=2199023255552:=fun b hb=>jX hz0 ht ((rD hz0).1 hb);unfold Hf Kt;generalize kD n.Size n.Size l=ks at hWL hwm ⊢;have hFl:∀ r:List Int,(r.flatMap fun b=>ses n.Step (b+n.Size) (inB n.Size n.Size b l)).length<=r.length*1000:=fun r=>by
  induction r with
  | nil=>simp
  | cons b r ih=>have h1:=Hl n.Step (b+n.Size) (inB n.Size n.Size b l);have h2:=oT n.Size n.Size b l;rw[oR,bU,dO]; omega
 have h1:=bG (bd:=fun s=>(An n (ks.map fun b=>(⟨b,b+n.Size,inB n.Size n.Size b l⟩:aN)) s).den) (fun k=>((ks.take k).flatMap fun b=>ses n.Step (b+n.Size) (inB n.Size n.Size b l),(k:Int))) ks.length (r:=.inl (ks.flatMap fun b=>ses n.Step (b+n.Size) (inB n.Size n.Size b l))) (fun k hk=>?_) ?_
 ·exact(congrArg (fun x=>Option.bind x _) h1).trans rfl
 ·unfold An;simp only[Tr.den,bY];have e0:(ks.map fun b=>(⟨b,b+n.Size,inB n.Size n.Size b l⟩:aN)).getD k default=⟨ks.getD k default,ks.getD k default+n.Size,inB n.Size n.Size (ks.getD k default) l⟩:=by rw[bR (by rw[bY]; exact hk),List.getElem_map,<-bR hk]
  have hb:=hwm _ (aT hk);have h2:=oT n.Size n.Size (ks.getD k default) l;have h3:=hFl (ks.take k);rw[cG]at h3;rw[aA (bV (by omega)),aA (by omega),show IntKind.i64.wrap (0-n.Step) = -n.Step by rw[bT] <;> omega];rw[aJJ n _ k _ hs (by rw[e0]; exact fun d hd=>ht d (jR.1 hd).1) (by rw[e0]; simp only; omega) (by omega) (by rw[e0]; simp only; omega),e0];simp only[aK,sel];rw[aP (by omega),aO hk,Bt,nK]
 ·unfold An;simp only[Tr.den,bY];rw[aE (cD (by omega)),dL]
def mI(g:iX)(l:List aC):Nat->aF×Int
 | 0=>(⟨0,0,⟨#[]⟩⟩,0)
 | k+1=>
  if g.Kind=0 then ((mI g l k).1,W ((mI g l k).2+(l.getD k default).N))
  else (if k=0\/(g.Kind=2/\kK ((l.getD k default).Row.getD g.Col.toNat default) (mI g l k).1<0)\/(g.Kind=3/\kK ((l.getD k default).Row.getD g.Col.toNat default) (mI g l k).1>0) then (l.getD k default).Row.getD g.Col.toNat default else (mI g l k).1,
   W ((mI g l k).2+W ((l.getD k default).N*((l.getD k default).Row.getD g.Col.toNat default).N)))
def Wh(g:iX)(l:List aC):aF:=if g.Kind=0\/g.Kind=1 then vI (mI g l l.length).2 else (mI g l l.length).1
theorem aJZ{g:iX}(hc:g.Kind=0\/∀ d,d∈l->0<=g.Col/\g.Col<d.Row.length)(hn:l.length<=1000000):aLG g l=some (Wh g l):=by
 unfold aLG aPB;simp only[Tr.den];have h1:=bG (bd:=fun s=>(Ae g l s).den) (fun k=>((mI g l k).1.Kind,(mI g l k).1.N,(mI g l k).1.S,(mI g l k).2,(k:Int))) l.length (r:=.inl ((mI g l l.length).1.Kind,(mI g l l.length).1.N,(mI g l l.length).1.S,(mI g l l.length).2)) (fun k hk=>?_) ?_
 ·refine(congrArg (fun x=>Option.bind x _) h1).trans ?_;simp only[aK,sel];unfold Wh;by_cases h0:g.Kind=0
  ·rw[aA (fL h0),aA (.inl h0)];simp only[aK,gK,Gv]
  ·rw[aE (eG h0)];simp only[aK];by_cases h2:g.Kind=1
   ·rw[aA (fL h2),aA (.inr h2)];simp only[Gv,aK]
   ·rw[aE (eG h2),aE (fun h=>h.elim h0 h2)]
 ·unfold Ae;simp only[Tr.den,aX];rw[aA (bV (by omega)),aA (by omega),aP (by omega)];by_cases h0:g.Kind=0
  ·rw[aA (fL h0)];simp only[aK];rw[show mI g l (k+1)=((mI g l k).1,W ((mI g l k).2+(l.getD k default).N)) by rw[mI,aA h0]]
  ·rw[aE (eG h0),aA ((hc.resolve_left h0) _ (aT hk)),wO];simp only[aK];have eP:=show mI g l (k+1)=_ by rw[mI,aE h0]
   rw[eP];generalize mI g l k=p at *
   generalize (l.getD k default).Row.getD g.Col.toNat default=v at *
   obtain⟨⟨b1,b2,b3⟩,nn⟩:=p;simp only;have hcond:((if ((k:Int)==0)=true then some true else if (g.Kind==2)=true then if decide (kK v ⟨b1,b2,b3⟩<0)=true then some true else if (g.Kind==3)=true then some (decide (kK v ⟨b1,b2,b3⟩>0)) else some false else if (g.Kind==3)=true then some (decide (kK v ⟨b1,b2,b3⟩>0)) else some false):Option Bool) =
     some (decide (k=0\/(g.Kind=2/\kK v ⟨b1,b2,b3⟩<0)\/(g.Kind=3/\kK v ⟨b1,b2,b3⟩>0))):=by
    by_cases q0:k=0
    ·rw[aA (fL (by omega)),bV (.inl q0)]
    ·rw[aE (eG (by omega))];by_cases q2:g.Kind=2
     ·rw[aA (fL q2),aE (eG (show g.Kind≠3 by omega))];by_cases q3:kK v ⟨b1,b2,b3⟩<0
      ·rw[aA (bV q3),bV (.inr (.inl ⟨q2,q3⟩))]
      ·rw[aE (cD q3),gN (fun h=>by omega)]
     ·rw[aE (eG q2)];by_cases q3:g.Kind=3
      ·rw[aA (fL q3)];by_cases q4:kK v ⟨b1,b2,b3⟩>0
       ·rw[bV q4,bV (.inr (.inr ⟨q3,q4⟩))]
       ·rw[gN q4,gN (fun h=>by omega)]
      ·rw[aE (eG q3),gN (fun h=>by omega)]
   rw[hcond];simp only[aK];by_cases q:k=0\/(g.Kind=2/\kK v ⟨b1,b2,b3⟩<0)\/(g.Kind=3/\kK v ⟨b1,b2,b3⟩>0)
   ·rw[bV q,aA q];simp only[gK,aK]
   ·rw[gN q,aE q];simp only[dS,dQ,aK]
 ·unfold Ae;simp only[Tr.den];rw[aE (cD (by omega))]
structure Lo (n:aI):Prop where
 size:1<=n.Size/\n.Size<=10000
 kind:n.Kind=0\/(n.Kind=1/\1<=n.Step/\n.Step<=10000)\/(n.Kind=2/\1<=n.Step/\n.Step<=10000)
 key:n.Key.length<=20
 aggs:n.Aggs.length<=20
def Ju(n:aI)(l:List aC):Prop:=∀ g,g∈n.Aggs->g.Kind=0\/∀ d,d∈l->0<=g.Col/\g.Col<d.Row.length
theorem Ju.sub{n:aI}{r:List aC}(h:Ju n l)(hs:∀ x,x∈r->x∈l):Ju n r:=fun g hg=>(h g hg).imp id fun h d hd=>h d (hs d hd)
def oX(n:aI)(l:List aC):List aN:=if n.Kind=0 then Hf n.Size n.Size l else if n.Kind=1 then Hf n.Size n.Step l else Kt n l
def Ki(n:aI)(l:List aC)(w:aN):aC:=⟨w.end_-1,(Bz n (l.getD 0 default).Row++[vI w.begin_])++n.Aggs.map fun g=>Wh g w.rows_,1⟩
def kR(n:aI)(ks:List ByteArray)(l:List aC):List aC:=ks.flatMap fun k=>(oX n (ofK n 0 k l)).map (Ki n (ofK n 0 k l))
structure aLC (l:List aC)(w:aN):Prop where
 sub:∀ d,d∈w.rows_->d∈l
 len:w.rows_.length<=l.length
 e:-10000<=w.end_/\w.end_<=4398046511104
theorem Qr{len step:Int}(hl:1<=len/\len<=10000)(hs:0<step)(ht:kP l):∀ w,w∈Hf len step l->aLC l w:=fun w hw=>by obtain⟨b,hb,rfl⟩:=dG.1 hw;have:=jX hs ht ((rD hs).1 hb);exact⟨fun d hd=>(jR.1 hd).1,oT _ _ _ _,by simp only; omega,by simp only; omega⟩
theorem aQW{step:Int}(hs:1<=step/\step<=10000)(ht:kP l)(he:-10000<=e/\e<=4398046511104):∀ k,k<=l.length->∀ w,w∈ses step e (l.take k)->(∀ d,d∈w.rows_->d∈l) /\ -10000<=w.end_/\w.end_<=4398046511104:=by
 intro k
 induction k with
 | zero=>intro _ w hw; simp[ses,kI]at hw
 | succ k ih=>
  intro hk w hw;have h1:=ih (by omega);have hm:=aT (show k<l.length by omega);have htm:=ht _ hm;have hmin:-10000<=mN ((l.getD k default).Time+step) e/\mN ((l.getD k default).Time+step) e<=4398046511104:=by unfold mN; split <;> omega
  unfold ses at h1 hw;rw[kX (by omega)]at hw;simp only at hw;unfold Ef at hw;split at hw
  ·rcases dA.1 hw with hw | hw
   ·exact h1 w hw
   ·rw[bW.1 hw];exact⟨fun d hd=>by rw[bW.1 hd]; exact hm,hmin⟩
  ·rename_i hne;rcases Qu hw with hw | hw
   ·exact h1 w hw
   ·subst hw;have h0:0<(kI step e (l.take k)).1.length:=iZ.2 fun h=>hne (.inl h);have:=h1 _ (aT (show (kI step e (l.take k)).1.length-1<(kI step e (l.take k)).1.length by omega));exact⟨fun d hd=>(dA.1 hd).elim (this.1 d) fun h=>by rw[bW.1 h]; exact hm,hmin⟩
theorem aKI{n:aI}(hz:1<=n.Size/\n.Size<=10000)(hs:1<=n.Step/\n.Step<=10000)(ht:kP l):∀ w,w∈Kt n l->aLC l w:=fun w hw=>by obtain⟨b,hb,hw⟩:=uO.1 hw;have hr:=jX (show 0<n.Size by omega) ht ((rD (show 0<n.Size by omega)).1 hb);have hsub:∀ d,d∈inB n.Size n.Size b l->d∈l:=fun d hd=>(jR.1 hd).1;have h1:=aQW (l:=inB n.Size n.Size b l) (e:=b+n.Size) hs (fun d hd=>ht d (hsub d hd)) (by omega) _ (eE _) w (by rw[dL]; exact hw);have h2:=Kk n.Step (b+n.Size) (inB n.Size n.Size b l) _ (eE _) w (by rw[dL]; exact hw);have h3:=oT n.Size n.Size b l;exact⟨fun d hd=>hsub d (h1.1 d hd),by omega,h1.2⟩
theorem Jy{len step:Int}(hl:1<=len/\len<=10000)(hs:1<=step/\step<=10000)(ht:kP l):(Hf len step l).length<=l.length*10000:=by unfold Hf;rw[bY];refine nZ (by omega) ?_ ht;have:1*10000<=step*10000:=Mz hs.1 (by omega);omega
theorem Yz{n:aI}(hz:1<=n.Size/\n.Size<=10000)(ht:kP l)(hn:l.length<=1000):(Kt n l).length<=l.length*1000:=by
 have hWL:=nZ (len:=n.Size) (step:=n.Size) (c:=1) (show 0<n.Size by omega) (by omega) ht;unfold Kt;generalize kD n.Size n.Size l=ks at hWL;have:∀ r:List Int,(r.flatMap fun b=>ses n.Step (b+n.Size) (inB n.Size n.Size b l)).length<=r.length*1000:=fun r=>by
  induction r with
  | nil=>simp
  | cons b r ih=>have h1:=Hl n.Step (b+n.Size) (inB n.Size n.Size b l);have h2:=oT n.Size n.Size b l;rw[oR,bU,dO]; omega
 have h:=this ks;omega
theorem Vo{n:aI}(hn:Lo n)(ht:kP l):∀ w,w∈oX n l->aLC l w:=by
 have hz:=hn.size;unfold oX;rcases hn.kind with h | ⟨h,hs⟩ | ⟨h,hs⟩
 ·rw[aA h]; exact Qr hz (by omega) ht
 ·rw[aE (by omega),aA h]; exact Qr hz (by omega) ht
 ·rw[aE (by omega),aE (by omega)]; exact aKI hz hs ht
theorem uS{n:aI}(hn:Lo n)(ht:kP l)(hl:l.length<=1000):(oX n l).length<=10000000:=by
 have hz:=hn.size;unfold oX;rcases hn.kind with h | ⟨h,hs⟩ | ⟨h,hs⟩
 ·rw[aA h]; have:=Jy hz hz ht; omega
 ·rw[aE (by omega),aA h]; have:=Jy hz hs ht; omega
 ·rw[aE (by omega),aE (by omega)]; have:=Yz hz ht hl; omega
theorem aEK(n:aI)(j6:List aN)(k:Nat)(v:List aC)(row:List aF)(ha:n.Aggs.length<=20)(hr:row.length<=1000)(hw:(j6.getD k default).rows_.length<=1000000)(hc:Ju n (j6.getD k default).rows_):
  cO (fun s=>(vF n j6 (k:Int) s).den) (v,row,0)=some (.inl (v,row++n.Aggs.map fun g=>Wh g (j6.getD k default).rows_)):=by
 have h1:=bG (bd:=fun s=>(vF n j6 (k:Int) s).den) (fun i=>(v,row++(n.Aggs.take i).map fun g=>Wh g (j6.getD k default).rows_,(i:Int))) n.Aggs.length (r:=.inl (v,row++n.Aggs.map fun g=>Wh g (j6.getD k default).rows_)) (fun i hi=>?_) ?_
 ·rw[<-h1]; simp
 ·unfold vF;simp only[Tr.den,aX];rw[aA (bV (by omega)),aA (by omega),aJZ (hc _ (aT hi)) hw];simp only[aK];rw[aA (by simp only[bU,bY,cG,eI]; omega),aP (by omega),aO hi,oM,<-dC];rfl
 ·unfold vF;simp only[Tr.den];rw[aE (cD (by omega)),dL]
theorem aDN{n:aI}(hn:Lo n)(h:okI n 0 l)(ha:Ju n l)(hl:l.length<=1000):aQF n l=some (kR n (eW (bF (cQ n 0 l))) l):=by
 have hz:=hn.size;have hkl:=hn.key;have hml:=lW n 0 l;have hks:(eW (bF (cQ n 0 l))).length<=1000:=by rw[lH]; unfold bF; rw[bY]; omega
 have hne:∀ k,k∈eW (bF (cQ n 0 l))->ofK n 0 k l≠[]:=fun k hk=>uN.1 ((uF _).mem_iff.1 hk);have hsub:∀ k,∀ x,x∈ofK n 0 k l->x∈l:=fun k x hx=>(tE.1 hx).1;have hkt:∀ k,kP (ofK n 0 k l):=fun k d hd=>h.t d (hsub k d hd);have hkn:∀ k,(ofK n 0 k l).length<=1000:=fun k=>by have:=kS n 0 k l; omega
 unfold aQF aNX;simp only[Tr.den];rw[Rl h hkl (by omega)];simp only[aK];generalize hKS:eW (bF (cQ n 0 l))=ks at hks hne ⊢;have hFl:∀ r:List ByteArray,(kR n r l).length<=r.length*10000000:=fun r=>by
  induction r with
  | nil=>simp[kR]
  | cons k r ih=>have h1:=uS hn (hkt k) (hkn k);unfold kR at ih ⊢;rw[oR,bU,bY,dO]; omega
 have h1:=bG (bd:=fun s=>(zZ n (ks.map fun k=>ofK n 0 k l) s).den) (fun k=>(kR n (ks.take k) l,(k:Int))) ks.length (r:=.inl (kR n ks l)) (fun k hk=>?_) ?_
 ·exact(congrArg (fun x=>Option.bind x _) h1).trans rfl
 ·unfold zZ;simp only[Tr.den,aX,bY];have e0:(ks.map fun k=>ofK n 0 k l).getD k default=ofK n 0 (ks.getD k default) l:=by rw[bR (by rw[bY]; exact hk),List.getElem_map,<-bR hk]
  have h3:=hFl (ks.take k);rw[cG]at h3;have hR:=hne _ (aT hk);rw[aA (bV (by omega)),aA (by omega)];have hW:((if (n.Kind==0)=true then (Wo ((ks.map fun k=>ofK n 0 k l).getD k default) n.Size n.Size).bind fun r=>some (kR n (ks.take k) l,r) else
    (if (n.Kind==1)=true then (Wo ((ks.map fun k=>ofK n 0 k l).getD k default) n.Size n.Step).bind fun r=>some (kR n (ks.take k) l,r) else
     (if (n.Kind==2)=true then (aIP n ((ks.map fun k=>ofK n 0 k l).getD k default)).bind fun r=>some (kR n (ks.take k) l,r) else some (kR n (ks.take k) l,[])).bind fun v=>some (v.1,v.2)).bind fun v=>some (v.1,v.2)):Option (List aC×List aN))=some (kR n (ks.take k) l,oX n (ofK n 0 (ks.getD k default) l)):=by
   rw[e0];unfold oX;rcases hn.kind with h | ⟨h,hs⟩ | ⟨h,hs⟩
   ·rw[aA (fL h),aA h,zV hz hz (hkt _) (hkn _)]; rfl
   ·rw[aE (eG (by omega)),aA (fL h),aE (by omega),aA h,zV hz hs (hkt _) (hkn _)]; rfl
   ·rw[aE (eG (by omega)),aE (eG (by omega)),aA (fL h),aE (by omega),aE (by omega),aFG hz hs (hkt _) (hkn _)]; rfl
  refine(congrArg (fun x=>Option.bind x _) hW).trans ?_;simp only[aK];have hok:=Vo hn (hkt (ks.getD k default));have hwl:=uS hn (hkt (ks.getD k default)) (hkn _);have e1:kR n (ks.take (k+1)) l=kR n (ks.take k) l++(oX n (ofK n 0 (ks.getD k default) l)).map (Ki n (ofK n 0 (ks.getD k default) l)):=by unfold kR;rw[aO hk,Bt,nK]
  rw[e1];generalize kR n (ks.take k) l=out at h3 ⊢;generalize hw:oX n (ofK n 0 (ks.getD k default) l)=ws at hok hwl ⊢;have h2:=bG (bd:=fun s=>(Av n (ks.map fun k=>ofK n 0 k l) (k:Int) ws s).den) (fun i=>(out++(ws.take i).map (Ki n (ofK n 0 (ks.getD k default) l)),(i:Int))) ws.length (r:=.inl (out++ws.map (Ki n (ofK n 0 (ks.getD k default) l)))) (fun i hi=>?_) ?_
  ·rw[show (out,(0:Int))=(out++(ws.take 0).map (Ki n (ofK n 0 (ks.getD k default) l)),((0:Nat):Int)) by simp,h2];simp only[aK,sel];rw[aP (by omega)]
  ·unfold Av;simp only[Tr.den,aX];have hm:=aT hi;have h0:0<(ofK n 0 (ks.getD k default) l).length:=iZ.2 hR;have hr0:=aT h0;have hol:=hok _ hm;have holl:=hol.len;have hkk:=hkn (ks.getD k default);rw[aA (bV (by omega)),aA (by omega),aA (by rw[e0]; omega),e0];rw[show (0:Int).toNat=0 from rfl,Vr _ n (h.c _ (hsub _ _ hr0)) (by omega)];simp only[aK,Gv];have hkp:=Kg n ((ofK n 0 (ks.getD k default) l).getD 0 default).Row;rw[aA (by omega)];rw[aEK n ws i _ _ hn.aggs (by simp only[bU,eI]; omega) (by omega) (ha.sub fun d hd=>hsub _ d (hol.sub d hd))];simp only[aK,sel];have hoe:=hol.e;rw[aA (by simp only[bU,bY,cG,eI]; omega),aP (by omega),bT (by omega) (by omega),aO hi,oM,<-dC];rfl
  ·unfold Av;simp only[Tr.den];rw[aE (cD (by omega)),dL]
 ·unfold zZ;simp only[Tr.den,bY];rw[aE (cD (by omega)),dL]
section
variable (n:aI) (len step:Int) (g:Int->List aC->List aC)
def Lx(ks:List ByteArray)(l:List aC):List aC:=ks.flatMap fun k=>(kD len step (ofK n 0 k l)).flatMap fun b=>g b (inB len step b (ofK n 0 k l))
variable {n len step g}
end
theorem Mw:aBX=aEF:=rfl
def tH(tm:Int):Int->List aC->List aC
 | _,[]=>[]
 | left,x::l=>⟨tm,x.Row,mN left x.N⟩::tH tm (left-mN left x.N) l
def qG:Int->List aC->Int
 | left,[]=>left
 | left,x::l=>qG (left-mN left x.N) l
theorem Kw(tm:Int):∀ (l r:List aC) (left:Int),tH tm left (l++r)=tH tm left l++tH tm (qG left l) r
 | [],_,_=>rfl
 | x::l,r,left=>by rw[wR,tH,tH,Kw tm l r]; rfl
theorem Kc:∀ (l r:List aC) (left:Int),qG left (l++r)=qG (qG left l) r
 | [],_,_=>rfl
 | x::l,r,left=>by rw[wR,qG,qG,Kc l r]
theorem vC(tm:Int):∀ (l:List aC) (left:Int),(tH tm left l).length=l.length
 | [],_=>rfl
 | x::l,left=>by rw[tH,dO,vC tm l,dO]
theorem Tp:∀ (l:List aC) (left:Int),(∀ d,d∈l->0<=d.N)->0<=left->0<=qG left l/\qG left l<=left
 | [],left,_,h=>⟨h,Int.le_refl _⟩
 | x::l,left,h,h0=>by
  have hx:=h x cH;have hm:0<=mN left x.N/\mN left x.N<=left:=by unfold mN; split <;> omega
  have:=Tp l (left-mN left x.N) (fun d hd=>h d (cI _ hd)) (by omega);rw[qG]; omega
structure aEM (n:aI):Prop where
 size:1<=n.Size/\n.Size<=10000
 keep:1<=n.Keep/\n.Keep<=100
 key:n.Key.length<=20
def Iv(n:aI)(S:List aC->List aC)(b:Int)(l:List aC):List aC:=tH (b+n.Size-1) n.Keep (S l)
def qW(n:aI)(S:List aC->List aC)(ks:List ByteArray)(l:List aC):List aC:=Lx n n.Size n.Size (Iv n S) ks l
theorem aGM(v9:List aN)(i:Nat)(hi:i<v9.length)(r out:List aC)(v8:List (List aC))(keep:Int)(hk:1<=keep/\keep<=100)(hN:∀ d,d∈r->0<=d.N/\d.N<=1000)(hr:r.length<=1000)(ho:out.length<=10000000000)(he:-10000<=(v9.getD i default).end_/\(v9.getD i default).end_<=4398046511104):
  cO (fun s=>(uY v9 (i:Int) r s).den) (out,keep,v8,0)=some (.inl (out++tH ((v9.getD i default).end_-1) keep r,v8,v9.set i ⟨(v9.getD i default).begin_,(v9.getD i default).end_,r⟩)):=by
 have h1:=bG (bd:=fun s=>(uY v9 (i:Int) r s).den) (fun k=>(out++tH ((v9.getD i default).end_-1) keep (r.take k),qG keep (r.take k),v8,(k:Int))) r.length (r:=.inl (out++tH ((v9.getD i default).end_-1) keep r,v8,v9.set i ⟨(v9.getD i default).begin_,(v9.getD i default).end_,r⟩)) (fun k hk'=>?_) ?_
 ·rw[<-h1]; simp[tH,qG]
 ·have hs:=Tp (r.take k) keep (fun d hd=>(hN d (Hu hd)).1) (by omega);have hx:=hN _ (aT hk');have hm:0<=mN (qG keep (r.take k)) (r.getD k default).N/\mN (qG keep (r.take k)) (r.getD k default).N<=qG keep (r.take k):=by unfold mN; split <;> omega
  unfold uY;simp only[Tr.den,aX];rw[aA (bV (by omega)),aA (by omega),aA hk',bT (n:=(v9.getD i default).end_-1) (by omega) (by omega)];rw[aA (by simp only[bU,vC,cG,eI]; omega),aP (by omega)];change some (Sum.inl (_,IntKind.i64.wrap (qG keep (r.take k)-mN (qG keep (r.take k)) (r.getD k default).N),_,_))=_;rw[bT (by omega) (by omega),aO hk',Kw,Kc,<-dC];rfl
 ·unfold uY;simp only[Tr.den,aX];rw[aE (cD (by omega)),dL]
theorem aFV{n:aI}(hn:aEM n)(h:okI n 0 l)(hN:∀ d,d∈l->0<=d.N/\d.N<=1000)(hl:l.length<=1000){S:List aC->List aC}(hS:∀ r,r.Sublist l->Br r n=some (S r)/\(S r).Perm r):
  aRB n l=some (qW n S (eW (bF (cQ n 0 l))) l):=by
 have hz:=hn.size;have hz0:0<n.Size:=by omega
 have hkp:=hn.keep;have hkl:=hn.key;have hml:=lW n 0 l;have hks:(eW (bF (cQ n 0 l))).length<=1000:=by rw[lH]; unfold bF; rw[bY]; omega
 have hsl:∀ k,(ofK n 0 k l).Sublist l:=fun k=>uU;have hsub:∀ k,∀ x,x∈ofK n 0 k l->x∈l:=fun k x hx=>(hsl k).subset hx;have hkt:∀ k,kP (ofK n 0 k l):=fun k d hd=>h.t d (hsub k d hd);have hkn:∀ k,(ofK n 0 k l).length<=1000:=fun k=>by have:=kS n 0 k l; omega
 have hSl:∀ r,r.Sublist l->(S r).length<=1000:=fun r hr=>by rw[(hS r hr).2.length_eq]; have:=hr.length_le; omega
 have hwb:∀ k,(kD n.Size n.Size (ofK n 0 k l)).length<=1000:=fun k=>by have:=nZ (len:=n.Size) (step:=n.Size) (c:=1) hz0 (by omega) (hkt k);have:=hkn k;omega
 unfold aRB aOK;simp only[Tr.den];rw[Mw,Rl h hkl (by omega)];simp only[aK];generalize hKS:eW (bF (cQ n 0 l))=ks at hks ⊢;have hil:∀ k b,(inB n.Size n.Size b (ofK n 0 k l)).Sublist l:=fun k b=>List.Sublist.trans uU (hsl k);have hFk:∀ k (r:List Int),(r.flatMap fun b=>Iv n S b (inB n.Size n.Size b (ofK n 0 k l))).length<=r.length*1000:=fun k r=>by
  induction r with
  | nil=>simp
  | cons b r ih=>have:=hSl _ (hil k b);unfold Iv at ih ⊢;rw[oR,bU,vC,dO]; omega
 have hFl:∀ r:List ByteArray,(qW n S r l).length<=r.length*1000000:=fun r=>by
  induction r with
  | nil=>simp[qW,Lx]
  | cons k r ih=>have h1:=hFk k (kD n.Size n.Size (ofK n 0 k l));have h2:=hwb k;unfold qW Lx at ih ⊢;rw[oR,bU,dO]; omega
 have h1:=bG (bd:=fun s=>(Aw n (ks.map fun k=>ofK n 0 k l) s).den) (fun k=>(qW n S (ks.take k) l,ks.map fun k=>ofK n 0 k l,(k:Int))) ks.length (r:=.inl (qW n S ks l)) (fun k hk=>?_) ?_
 ·exact(congrArg (fun x=>Option.bind x _) h1).trans rfl
 ·unfold Aw;simp only[Tr.den,aX,bY];have e0:(ks.map fun k=>ofK n 0 k l).getD k default=ofK n 0 (ks.getD k default) l:=by rw[bR (by rw[bY]; exact hk),List.getElem_map,<-bR hk]
  have h3:=hFl (ks.take k);rw[cG]at h3;rw[aA (bV (by omega)),aA (by omega),aA hk,e0,Ox,zV hz hz (hkt _) (hkn _)];simp only[aK];have e1:qW n S (ks.take (k+1)) l=qW n S (ks.take k) l++(kD n.Size n.Size (ofK n 0 (ks.getD k default) l)).flatMap fun b=>Iv n S b (inB n.Size n.Size b (ofK n 0 (ks.getD k default) l)):=by unfold qW Lx;rw[aO hk,Bt,nK]
  have hF2:=hFk (ks.getD k default);have hil2:=hil (ks.getD k default);have hwm:∀ b,b∈kD n.Size n.Size (ofK n 0 (ks.getD k default) l) -> -n.Size<b/\b<=2199023255552:=fun b hb=>jX hz0 (hkt _) ((rD hz0).1 hb);have hb2:=hwb (ks.getD k default);rw[e1];unfold Hf;generalize qW n S (ks.take k) l=out at h3 ⊢;generalize kD n.Size n.Size (ofK n 0 (ks.getD k default) l)=bs at hwm hb2 ⊢;generalize ofK n 0 (ks.getD k default) l=L at hF2 hil2 ⊢;have h2:=bG (bd:=fun s=>(At n (ks.map fun k=>ofK n 0 k l) (k:Int) (bs.map fun b=>(⟨b,b+n.Size,inB n.Size n.Size b L⟩:aN)) s).den)
   (fun i=>(out++(bs.take i).flatMap (fun b=>Iv n S b (inB n.Size n.Size b L)),ks.map fun k=>ofK n 0 k l,(bs.take i).map (fun b=>(⟨b,b+n.Size,S (inB n.Size n.Size b L)⟩:aN))++(bs.drop i).map (fun b=>(⟨b,b+n.Size,inB n.Size n.Size b L⟩:aN)),(i:Int))) bs.length
   (r:=.inl (out++bs.flatMap (fun b=>Iv n S b (inB n.Size n.Size b L)),ks.map fun k=>ofK n 0 k l)) (fun i hi=>?_) ?_
  ·simp only[List.take_zero,List.flatMap_nil,gU,xB,nL,List.drop_zero]at h2;refine(congrArg (fun x=>Option.bind x _) h2).trans ?_;simp only[aK,sel];rw[aP (by omega)]
  ·have hm:=hwm _ (aT hi);have hSi:=hS _ (hil2 (bs.getD i default));have hSl2:=hSl _ (hil2 (bs.getD i default));have hFi:=hF2 (bs.take i);rw[cG]at hFi;have hla:((bs.take i).map (fun b=>(⟨b,b+n.Size,S (inB n.Size n.Size b L)⟩:aN))).length=i:=by rw[bY,cG]; omega
   have hlb:((bs.take i).map (fun b=>(⟨b,b+n.Size,S (inB n.Size n.Size b L)⟩:aN))++(bs.drop i).map (fun b=>(⟨b,b+n.Size,inB n.Size n.Size b L⟩:aN))).length=bs.length:=by rw[bU,hla,bY,fA]; omega
   have hg:((bs.take i).map (fun b=>(⟨b,b+n.Size,S (inB n.Size n.Size b L)⟩:aN))++(bs.drop i).map (fun b=>(⟨b,b+n.Size,inB n.Size n.Size b L⟩:aN))).getD i default=⟨bs.getD i default,bs.getD i default+n.Size,inB n.Size n.Size (bs.getD i default) L⟩:=by rw[bI,aE (by omega),hla,qQ,cV hi]; rfl
   unfold At;simp only[Tr.den,aX,bY];rw[aA (bV (by omega)),aA (by omega),aA (by omega),aA ⟨by omega,by simp⟩,hg,hSi.1];simp only[aK];rw[aGM _ i (by omega) _ _ _ _ hkp (fun d hd=>hN d ((hil2 _).subset (hSi.2.mem_iff.1 hd))) hSl2 (by rw[bU]; omega) (by rw[hg]; simp only; omega)];simp only[aK,sel];rw[aP (by omega),hg]
   congr 3
   ·rw[aO hi,Bt,nK,<-dC]; rfl
   ·congr 2
    rw[List.set_append,aE (by omega),hla,qQ,cV hi,gH,List.set_cons_zero,aO hi,oM,dC];rfl
  ·unfold At;simp only[Tr.den,bY];rw[aE (cD (by omega)),dL]
 ·unfold Aw;simp only[Tr.den,bY];rw[aE (cD (by omega)),dL]
end Go.PL
namespace Go.PL.St
open Go Go.PL
set_option linter.unusedVariables false
set_option maxRecDepth 20000
variable {a i j k w:Nat} {l:List aC}
def vT(nd:aI)(d:aC):aF:=d.Row.getD nd.Step.toNat default
abbrev kT (nd:aI)(d:aC):aF×Pl:=(vT nd d,pl d)
def aBP(a b:aF×Pl):Int:=fQ (kK b.1 a.1) (Pf a.2 b.2)
theorem TO.flip{α:Type}{c:α->α->Int}(h:TO c):TO (fun x y=>c y x):=⟨fun a b=>by rw[h.eq]; exact eq_comm,fun a b=>h.sw b a,fun a b d h1 h2=>h.tr d b a h2 h1⟩
theorem TO.key:TO aBP:=TO.lex (f:=fun x:aF×Pl=>x.1) (g:=fun x=>x.2) (TO.flip TO.val) TO.place (fun _ _ h1 h2=>Prod.ext h1 h2)
def ltL(nd:aI)(a b:aC):Bool:=decide (aBP (kT nd a) (kT nd b)<0)
theorem iC(nd:aI):Sort.SWO (ltL nd):=by
 constructor
 ·intro x; simp[ltL,(TO.key.eq (kT nd x) (kT nd x)).2 rfl]
 ·intro x y z h1 h2;simp only[ltL,decide_eq_true_eq]at *
  exact TO.key.tr _ _ _ h1 h2
 ·intro x y z h1 h2;simp only[ltL]at h1 h2 ⊢;have h1:=of_decide_eq_false h1;have h2:=of_decide_eq_false h2;refine decide_eq_false fun h3=>?_;have s1:=TO.key.sw (kT nd x) (kT nd y);have s2:=TO.key.sw (kT nd y) (kT nd z);have s3:=TO.key.sw (kT nd y) (kT nd x);have s4:=TO.key.sw (kT nd z) (kT nd y);have s5:=TO.key.sw (kT nd x) (kT nd z);have s6:=TO.key.sw (kT nd z) (kT nd x);by_cases h4:aBP (kT nd x) (kT nd y)=0
  ·rw[(TO.key.eq _ _).1 h4]at h3; exact h2 h3
  ·by_cases h5:aBP (kT nd y) (kT nd z)=0
   ·rw[<-(TO.key.eq _ _).1 h5]at h3; exact h1 h3
   ·have:=TO.key.tr (kT nd z) (kT nd y) (kT nd x) (by omega) (by omega);omega
theorem xN{nd:aI}{x y:aC}(h:ltL nd x y=true):ltL nd y x=false:=by
 cases hh:ltL nd y x with
 | false=>rfl
 | true=>have:=(iC nd).trans _ _ _ h hh;rw[(iC nd).irrefl]at this; cases this
theorem Jt{nd:aI}{a b:aC}(h:dD b a<0):decide (kK (vT nd b) (vT nd a)<0)=ltL nd a b:=by
 unfold ltL aBP fQ;by_cases h0:kK (vT nd b) (vT nd a)=0
 ·rw[if_pos h0,h0];have h1:0<Pf (kT nd a).2 (kT nd b).2:=by
   have:=wH.2 h
   rwa [sT]at this
  rw[decide_eq_false (by omega),decide_eq_false (by omega)]
 ·rw[if_neg h0]
abbrev okT (nd:aI)(d:aC):Prop:=0<=nd.Step/\nd.Step<d.Row.length
def okTs(nd:aI)(l:List aC):Prop:=∀ x,x∈l->okT nd x
theorem okTs.get{nd:aI}(h:okTs nd l)(hk:k<l.length):okT nd (l.getD k default):=h _ (aT hk)
theorem okTs.perm{nd:aI}{r:List aC}(h:okTs nd l)(hp:l.Perm r):okTs nd r:=fun x hx=>h x (hp.mem_iff.2 hx)
theorem nX{a b:aC}{nd:aI}(ha:okT nd a)(hb:okT nd b):Nx a b nd=some (kK (vT nd b) (vT nd a)):=by unfold Nx Mt;simp only[Tr.den];rw[if_pos hb,if_pos ha,wO]; rfl
def Bef(A B:List aC):Prop:=∀ x,x∈A->∀ y,y∈B->dD x y<0
section
variable {nd:aI}
theorem Wv(nd:aI)(a a2 v2:Int)(an:Nat)(ha:a=an):∀ (j:Nat) (l:List aC),okTs nd l->(∀ k,an<=k->k<j->dD (l.getD k default) (l.getD j default)<0)->j<l.length->l.length<=1000000000000000 ->
  cO (fun s=>(kY a a2 nd v2 s).den) (l,(j:Int))=some (.inl (Sort.insInner (ltL nd) an j l.toArray).toList):=by
 intro j
 induction j with
 | zero=>intro l hl hD hj hn;refine fI ?_;unfold kY;simp only[Tr.den];rw[if_neg (by simp; omega)];simp[Sort.insInner]
 | succ j ih=>
  intro l hl hD hj hn;have e1:IntKind.i64.wrap (((j+1:Nat):Int)-1)=(j:Int):=qL (by omega);by_cases hc:an<j+1
  ·have hDj:=hD j (by omega) (by omega);cases hd:(ltL nd) (l.getD (j+1) default) (l.getD j default) with
   | false=>refine fI ?_;unfold kY;simp only[Tr.den];rw[e1];rw[if_pos (by simp; omega),if_pos (by omega),if_pos (by simpa using hj),if_pos (by omega),if_pos (by simp; omega)];simp only[Int.toNat_natCast];rw[nX (hl.get (k:=j+1) hj) (hl.get (k:=j) (by omega))];simp only[Option.bind_some];rw[Jt hDj,hd];simp only[Bool.false_eq_true,if_false];unfold Sort.insInner;rw[fM,fM,hd];simp
   | true=>
    rw[kH (s':=(nY l (j+1) j,(j:Int)))]
    ·have h2:=ih (nY l (j+1) j) (hl.perm (sO l hj (by omega)).symm) (fun k k1 k2=>by have h4:=hD k k1 (by omega);unfold nY;rw[mB,if_neg (by omega),mB,if_neg (by omega),mB,if_pos ⟨rfl,by simp; omega⟩];exact h4) (by rw[rL]; omega) (by rw[rL]; exact hn);rw[h2,qH]
     conv=>rhs; unfold Sort.insInner
     rw[fM,fM,hd];simp[hc]
    ·unfold kY;simp only[Tr.den];rw[e1];rw[if_pos (by simp; omega),if_pos (by omega),if_pos (by simpa using hj),if_pos (by omega),if_pos (by simp; omega)];simp only[Int.toNat_natCast];rw[nX (hl.get (k:=j+1) hj) (hl.get (k:=j) (by omega))];simp only[Option.bind_some];rw[Jt hDj,hd];simp only[if_true];rw[if_pos (by omega),if_pos (by omega),if_pos (by omega),if_pos (by omega),if_pos (by omega),if_pos (by omega),if_pos (by omega),if_pos (by omega),if_pos (by simp; omega)];rfl
  ·refine fI ?_;unfold kY;simp only[Tr.den];rw[if_neg (by simp; omega)];simp only[Option.bind_some,Bool.false_eq_true,if_false];unfold Sort.insInner;simp[hc]
theorem aMP(nd:aI)(a:Nat):∀ (j:Nat) (l:List aC),j<l.length->∀ k,(j<k\/k<a->(Sort.insInner (ltL nd) a j l.toArray).toList.getD k default=l.getD k default) /\
  (a<=k->k<=j->∃ k',a<=k'/\k'<=j/\(Sort.insInner (ltL nd) a j l.toArray).toList.getD k default=l.getD k' default):=by
 intro j
 induction j with
 | zero=>intro l _ k; exact⟨fun _=>rfl,fun h1 h2=>⟨k,h1,h2,rfl⟩⟩
 | succ j ih=>
  intro l hj k;unfold Sort.insInner;split
  ·rename_i hc;simp only[Bool.and_eq_true,decide_eq_true_eq]at hc;rw[<-qH];obtain⟨h1,h2⟩:=ih (nY l (j+1) j) (by rw[rL]; omega) k;have g:∀ q,(nY l (j+1) j).getD q default=if q=j then l.getD (j+1) default else if q=j+1 then l.getD j default else l.getD q default:=fun q=>by
    unfold nY;rw[mB];by_cases q1:q=j
    ·subst q1; rw[if_pos ⟨rfl,by simp; omega⟩,if_pos rfl]
    ·rw[if_neg (by omega),if_neg q1,mB];by_cases q2:q=j+1
     ·subst q2; rw[if_pos ⟨rfl,by omega⟩,if_pos rfl]
     ·rw[if_neg (by omega),if_neg q2]
   refine⟨fun h=>?_,fun q1 q2=>?_⟩
   ·rw[h1 (by omega),g,if_neg (by omega),if_neg (by omega)]
   ·by_cases q3:k=j+1
    ·subst q3;exact⟨j,by omega,by omega,by rw[h1 (by omega),g,if_neg (by omega),if_pos rfl]⟩
    ·obtain⟨k',r1,r2,r3⟩:=h2 q1 (by omega);rw[g]at r3;by_cases q4:k'=j
     ·rw[if_pos q4]at r3; exact⟨j+1,by omega,by omega,r3⟩
     ·rw[if_neg q4,if_neg (by omega)]at r3; exact⟨k',r1,by omega,r3⟩
  ·exact⟨fun _=>rfl,fun h1 h2=>⟨k,h1,h2,rfl⟩⟩
theorem Mk(nd:aI)(a b:Nat)(n:Nat):∀ (i:Nat) (l:List aC),b-i=n->a<i->b<=l.length->l.length<=1000000000000000->okTs nd l->(∀ k m,a<=k->k<m->i<=m->m<b->dD (l.getD k default) (l.getD m default)<0) ->
  cO (fun s=>(sW (a:Int) (b:Int) nd s).den) (l,(i:Int))=some (.inl (Sort.insOuter (ltL nd) a b i l.toArray).toList):=by
 induction n with
 | zero=>intro i l hi ha hb hn hl hD;refine fI ?_;unfold sW;simp only[Tr.den];rw[if_neg (by simp; omega),Sort.insOuter,if_neg (by omega)]
 | succ n ih=>
  intro i l hi ha hb hn hl hD;have h1:=Wv nd (a:Int) (b:Int) (i:Int) a rfl i l hl (fun k k1 k2=>hD k i k1 k2 (Nat.le_refl _) (by omega)) (by omega) hn;have hp:=(Sort.insInner_spec (iC nd) Sort.swp_permIn Sort.permIn_refl Sort.permIn_trans 0 b i (by omega));have hlen:(Sort.insInner (ltL nd) a i l.toArray).size=l.length:=by
   have:∀ (j:Nat) (d:Array aC),(Sort.insInner (ltL nd) a j d).size=d.size:=by
    intro j
    induction j with
    | zero=>intro d; rfl
    | succ j ih=>intro d; unfold Sort.insInner; split <;> simp[ih,Sort.swp_size]
   rw[this]; simp
  have hperm:(Sort.insInner (ltL nd) a i l.toArray).toList.Perm l:=by
   have:∀ (j:Nat) (d:Array aC),j<d.size->(Sort.insInner (ltL nd) a j d).toList.Perm d.toList:=by
    intro j
    induction j with
    | zero=>intro d _; exact .refl _
    | succ j ih=>
     intro d hd;unfold Sort.insInner;split
     ·refine(ih _ (by rw[Sort.swp_size]; omega)).trans ?_;have e:=qH d.toList (j+1) j;rw[Array.toArray_toList]at e;rw[<-e];exact sO d.toList (i:=j+1) (j:=j) (by simpa using hd) (by simp; omega)
     ·exact .refl _
   simpa using this i l.toArray (by simp; omega)
  rw[kH (s':=((Sort.insInner (ltL nd) a i l.toArray).toList,((i+1:Nat):Int)))]
  ·rw[ih (i+1) _ (by omega) (by omega) (by simp[hlen]; omega) (by simp[hlen]; omega) (hl.perm hperm.symm) (fun k m m1 m2 m3 m4=>by
    have hm:=fun q=>aMP nd a i l (by omega) q;rw[(hm m).1 (.inl (by omega))];by_cases q1:k<=i
    ·obtain⟨k',r1,r2,r3⟩:=(hm k).2 m1 q1;rw[r3]; exact hD k' m r1 (by omega) (by omega) m4
    ·rw[(hm k).1 (.inl (by omega))]; exact hD k m m1 m2 (by omega) m4)]
   conv=>rhs; rw[Sort.insOuter,if_pos (by omega)]
  ·unfold sW;simp only[Tr.den];rw[if_pos (by simp; omega),h1];simp only[Option.bind_some,sel];rw[aP (by omega)]
theorem Va(nd:aI)(a b:Nat)(l:List aC)(hb:b<=l.length)(hab:a<=b)(hn:l.length<=1000000000000000)(hl:okTs nd l)(hD:∀ k m,a<=k->k<m->m<b->dD (l.getD k default) (l.getD m default)<0):Hz (a:Int) (b:Int) l nd=some (Sort.insertionSort (ltL nd) l.toArray a b).toList:=by unfold Hz Pi;simp only[Tr.den];rw[aP (by omega),Mk nd a b _ (a+1) l rfl (by omega) hb hn hl (fun k m k1 k2 _ k4=>hD k m k1 k2 k4)];rfl
theorem aLO(a1 a2 a3:Int)(s:List aC×Int):(xG a1 a2 a3 s).den=(kZ a1 a2 a3 s).den:=by obtain⟨x,y⟩:=s;unfold kZ xG;simp only[Tr.den]
theorem Pz(nd:aI)(a1 a2 a3:Int)(l:List aC):Po a1 a2 a3 l nd=Bq a1 a2 a3 l:=by unfold Bq Po Ir Pn;simp only[Tr.den,aLO]
theorem aMT(nd:aI)(a2:Int)(s:List aC×Int×Int):(wW a2 nd s).den=(sN a2 s).den:=by obtain⟨x,y,z⟩:=s;unfold sN wW;simp only[Tr.den,Pz]
theorem aGV(nd:aI)(a1 a2 a3:Int)(l:List aC):Nm a1 a2 a3 l nd=uW a1 a2 a3 l:=by unfold uW Nm Ha Nf;simp only[Tr.den,aMT,Pz]
theorem aNM(b:Int)(s:List aC×Int):(xX b s).den=(jQ b s).den:=by obtain⟨x,y⟩:=s;unfold jQ xX;simp only[Tr.den]
theorem aQQ(b:Int)(s:List aC×Int):(wY b s).den=(jS b s).den:=by obtain⟨x,y⟩:=s;unfold jS wY;simp only[Tr.den]
def Srt(nd:aI)(l:List aC):Prop:=l.Pairwise (fun x y=>(ltL nd) y x=false)
theorem Srt.app{r:List aC}:Srt nd (l++r)↔Srt nd l/\Srt nd r/\∀ x,x∈l->∀ y,y∈r->(ltL nd) y x=false:=by unfold Srt; rw[List.pairwise_append]
theorem Srt.get(h:Srt nd l)(hij:i<=j)(hj:j<l.length):(ltL nd) (l.getD j default) (l.getD i default)=false:=by
 rcases Nat.lt_or_eq_of_le hij with h1 | h1
 ·rw[bR hj,bR (show i<l.length by omega)];exact List.pairwise_iff_getElem.1 h i j (by omega) hj h1
 ·subst h1; exact(iC nd).irrefl _
theorem oW(h:∀ i j,i<j->j<l.length->(ltL nd) (l.getD j default) (l.getD i default)=false):Srt nd l:=by
 unfold Srt;rw[List.pairwise_iff_getElem];intro i j hi hj hij;have:=h i j hij hj
 rwa [bR hj,bR hi]at this
def fW(nd:aI)(P A B Q:List aC):Int×Int×Int×List aC×aI:=((P.length:Int),((P.length+A.length:Nat):Int),((P.length+A.length+B.length:Nat):Int),P++(A++(B++Q)),nd)
def aMB(nd:aI)(a:Int×Int×Int×List aC×aI):Prop:=∃ P A B Q,a=fW nd P A B Q/\Bef A B/\A≠[]/\B≠[]/\Srt nd A/\Srt nd B/\okTs nd (P++(A++(B++Q)))/\(P++(A++(B++Q))).length<=1000000000000000
def aMV(nd:aI)(a:Int×Int×Int×List aC×aI)(d:List aC):Prop:=∀ P A B Q,a=fW nd P A B Q->∃ C,d=P++(C++Q)/\C.Perm (A++B)/\Srt nd C
theorem xH{P A B Q P' A' B' Q':List aC}(h:fW nd P A B Q=fW nd P' A' B' Q'):P=P'/\A=A'/\B=B'/\Q=Q':=by unfold fW at h;simp only[Prod.mk.injEq]at h;obtain⟨h1,h2,h3,h4,_⟩:=h;obtain⟨e1,h5⟩:=List.append_inj h4 (by omega);obtain⟨e2,h6⟩:=List.append_inj h5 (by omega);obtain⟨e3,e4⟩:=List.append_inj h6 (by omega);exact⟨e1,e2,e3,e4⟩
theorem Ma{A:List aC}(h:Srt nd A){h':Nat}(hk:k<=h')(hh:h' < A.length)(x:aC)(hp:(ltL nd) (A.getD h' default) x=true):(ltL nd) (A.getD k default) x=true:=by
 have:=h.get hk hh;cases hc:(ltL nd) (A.getD k default) x with
 | true=>rfl
 | false=>rw[<-hp];exact((iC nd).ntrans _ _ _ this hc).symm
theorem Gm{A:List aC}(h:Srt nd A){h':Nat}(hk:k<=h')(hh:h' < A.length)(x:aC)(hp:(ltL nd) x (A.getD h' default)=false):(ltL nd) x (A.getD k default)=false:=by exact(iC nd).ntrans _ _ _ hp (h.get hk hh)
section
variable (b:Bool) (P A B Q:List aC)
theorem Dg(x:aC)(hb:Bef [x] B)(hB:Srt nd B)(ho:okTs nd (P++x::(B++Q)))(hn:(P++x::(B++Q)).length<=1000000000000000):
  Sq b (cO (fun s=>(rT (P.length:Int) (P++x::(B++Q)) nd s).den) (((P.length+1:Nat):Int),((P.length+1+B.length:Nat):Int)))
   (sel (fun r:Int=>∃ n:Nat,r=((P.length+1+n:Nat):Int)/\n<=B.length/\(∀ k,k<n->(ltL nd) (B.getD k default) x=true)/\(∀ k,n<=k->k<B.length->(ltL nd) (B.getD k default) x=false)) (fun _=>False)):=by
 simp only[List.length_append,List.length_cons]at hn;have hL:(P++x::(B++Q)).length=P.length+1+B.length+Q.length:=by simp; omega
 have e1:(P++x::(B++Q)).getD P.length default=x:=by rw[bI,if_neg (by omega)]; simp
 have e2:∀ k,k<B.length->(P++x::(B++Q)).getD (P.length+1+k) default=B.getD k default:=by intro k hk;rw[bI,if_neg (by omega),show P.length+1+k-P.length=k+1 by omega,List.getD_cons_succ,bI,if_pos hk]
 refine(Fi b _ (fun h=>(ltL nd) ((P++x::(B++Q)).getD h default) x) (P.length+1) (P.length+1+B.length) (by omega) (fun i j h1 h2 h3=>?_) (fun i h1 h2=>?_) (fun h k h1 h2 h3 h4=>?_)).imp ?_
 ·unfold rT;simp only[Tr.den];rw[nQ (by omega)];simp only[Int.toNat_natCast];rw[hL];rw[if_pos (by simp; omega),if_pos (by omega),if_pos (by omega),if_pos (by omega),if_pos (by omega)];rw[nX (ho.get (k:=(i+j) / 2) (by omega)) (ho.get (k:=P.length) (by omega)),e1];simp only[Option.bind_some];rw[Jt (nd:=nd) (a:=(P++x::(B++Q)).getD ((i+j) / 2) default) (b:=x) (by rw[show (i+j) / 2=P.length+1+((i+j) / 2-(P.length+1)) by omega,e2 _ (by omega)];exact hb x (by simp) _ (aT (by omega)))];cases (ltL nd) ((P++x::(B++Q)).getD ((i+j) / 2) default) x with
  | true=>simp only[if_true,Option.bind_some]; rw[aP (by omega)]
  | false=>simp only[Bool.false_eq_true,if_false,Option.bind_some]
 ·unfold rT;simp only[Tr.den];rw[if_neg (by simp)]
 ·obtain⟨k',rfl⟩:∃ k',k=P.length+1+k':=⟨k-(P.length+1),by omega⟩;obtain⟨h',rfl⟩:∃ h',h=P.length+1+h':=⟨h-(P.length+1),by omega⟩;rw[e2 _ (by omega)]at h4 ⊢;exact Ma hB (by omega) (by omega) x h4
 ·intro z hz;cases z with
  | inr z=>exact hz
  | inl z=>
   obtain⟨n,rfl,h1,h2,h3,h4⟩:=hz;refine⟨n-(P.length+1),by omega,by omega,fun k hk=>?_,fun k hk1 hk2=>?_⟩
   ·rw[<-e2 k (by omega)]; exact h3 _ (by omega) (by omega)
   ·rw[<-e2 k hk2]; exact h4 _ (by omega) (by omega)
theorem xW(y:aC)(hb:Bef A [y])(hA:Srt nd A)(ho:okTs nd (P++(A++y::Q)))(hn:(P++(A++y::Q)).length<=1000000000000000):
  Sq b (cO (fun s=>(sE ((P.length+A.length:Nat):Int) (P++(A++y::Q)) nd s).den) ((P.length:Int),((P.length+A.length:Nat):Int)))
   (sel (fun r:Int=>∃ n:Nat,r=((P.length+n:Nat):Int)/\n<=A.length/\(∀ k,k<n->(ltL nd) y (A.getD k default)=false)/\(∀ k,n<=k->k<A.length->(ltL nd) y (A.getD k default)=true)) (fun _=>False)):=by
 simp only[List.length_append,List.length_cons]at hn;have hL:(P++(A++y::Q)).length=P.length+A.length+1+Q.length:=by simp; omega
 have e1:(P++(A++y::Q)).getD (P.length+A.length) default=y:=by rw[bI,if_neg (by omega),bI,if_neg (by omega)]; simp
 have e2:∀ k,k<A.length->(P++(A++y::Q)).getD (P.length+k) default=A.getD k default:=by intro k hk;rw[bI,if_neg (by omega),show P.length+k-P.length=k by omega,bI,if_pos hk]
 refine(Fi b _ (fun h=>!(ltL nd) y ((P++(A++y::Q)).getD h default)) P.length (P.length+A.length) (by omega) (fun i j h1 h2 h3=>?_) (fun i h1 h2=>?_) (fun h k h1 h2 h3 h4=>?_)).imp ?_
 ·unfold sE;simp only[Tr.den];rw[nQ (by omega)];simp only[Int.toNat_natCast];rw[hL];rw[if_pos (by simp; omega),if_pos (by omega),if_pos (by omega),if_pos (by omega),if_pos (by omega)];rw[nX (ho.get (k:=P.length+A.length) (by omega)) (ho.get (k:=(i+j) / 2) (by omega)),e1];simp only[Option.bind_some];rw[Jt (nd:=nd) (a:=y) (b:=(P++(A++y::Q)).getD ((i+j) / 2) default) (by rw[show (i+j) / 2=P.length+((i+j) / 2-P.length) by omega,e2 _ (by omega)];exact hb _ (aT (by omega)) y (by simp))];cases (ltL nd) y ((P++(A++y::Q)).getD ((i+j) / 2) default) with
  | true=>simp
  | false=>simp; rw[bT] <;> omega
 ·unfold sE;simp only[Tr.den];rw[if_neg (by simp)]
 ·obtain⟨k',rfl⟩:∃ k',k=P.length+k':=⟨k-P.length,by omega⟩;obtain⟨h',rfl⟩:∃ h',h=P.length+h':=⟨h-P.length,by omega⟩;rw[e2 _ (by omega)]at h4 ⊢;simp only[Bool.not_eq_true']at h4 ⊢;exact Gm hA (by omega) (by omega) y h4
 ·intro z hz;cases z with
  | inr z=>exact hz
  | inl z=>
   obtain⟨n,rfl,h1,h2,h3,h4⟩:=hz;refine⟨n-P.length,by omega,by omega,fun k hk=>?_,fun k hk1 hk2=>?_⟩
   ·have:=h3 (P.length+k) (by omega) (by omega);rw[e2 k (by omega)]at this; simpa using this
   ·have:=h4 (P.length+k) (by omega) (by omega);rw[e2 k hk2]at this; simpa using this
end
theorem Srt.take{l:List aC}(h:Srt nd l)(n:Nat):Srt nd (l.take n):=List.Pairwise.sublist (List.take_sublist _ _) h
theorem Srt.drop{l:List aC}(h:Srt nd l)(n:Nat):Srt nd (l.drop n):=List.Pairwise.sublist (List.drop_sublist _ _) h
theorem wC{x:aC}{n:Nat}(h:Srt nd l)(h1:∀ k,k<n->k<l.length->(ltL nd) x (l.getD k default)=false)(h2:∀ k,n<=k->k<l.length->(ltL nd) (l.getD k default) x=false):Srt nd (l.take n++x::l.drop n):=by
 rw[show x::l.drop n=[x]++l.drop n from rfl,Srt.app,Srt.app];refine⟨h.take n,⟨List.pairwise_singleton _ _,h.drop n,fun a ha y hy=>?_⟩,fun a ha y hy=>?_⟩
 ·simp only[List.mem_singleton]at ha;subst ha;obtain⟨k,h3,h4,rfl⟩:=dH hy;exact h2 k h3 h4
 ·obtain⟨k,h3,h4,rfl⟩:=dM ha;simp only[List.mem_append,List.mem_singleton]at hy;rcases hy with rfl | hy
  ·exact h1 k h3 h4
  ·obtain⟨k',h5,h6,rfl⟩:=dH hy;exact h.get (by omega) h6
theorem aCA{A B:List aC}(hA:Srt nd A)(hB:Srt nd B){u v:Nat}(hu:u<=A.length)(hv:v<=B.length)
  (h1:0<u->v<B.length->(ltL nd) (B.getD v default) (A.getD (u-1) default)=false)(h2:0<v->u<A.length->(ltL nd) (A.getD u default) (B.getD (v-1) default)=false)
  {C D:List aC}(hC:C.Perm (A.take u++B.take v))(hD:D.Perm (A.drop u++B.drop v))(sC:Srt nd C)(sD:Srt nd D):Srt nd (C++D)/\(C++D).Perm (A++B):=by
 constructor
 ·rw[Srt.app];refine⟨sC,sD,fun x hx y hy=>?_⟩;have hx:=hC.mem_iff.1 hx;have hy:=hD.mem_iff.1 hy;rw[List.mem_append]at hx hy;rcases hx with hx | hx
  ·obtain⟨i,i1,i2,rfl⟩:=dM hx;rcases hy with hy | hy
   ·obtain⟨j,j1,j2,rfl⟩:=dH hy;exact hA.get (by omega) j2
   ·obtain⟨j,j1,j2,rfl⟩:=dH hy;exact(iC nd).ntrans _ _ _ (hB.get j1 j2) ((iC nd).ntrans _ _ _ (h1 (by omega) (by omega)) (hA.get (i:=i) (j:=u-1) (by omega) (by omega)))
  ·obtain⟨i,i1,i2,rfl⟩:=dM hx;rcases hy with hy | hy
   ·obtain⟨j,j1,j2,rfl⟩:=dH hy;exact(iC nd).ntrans _ _ _ (hA.get j1 j2) ((iC nd).ntrans _ _ _ (h2 (by omega) (by omega)) (hB.get (i:=i) (j:=v-1) (by omega) (by omega)))
   ·obtain⟨j,j1,j2,rfl⟩:=dH hy;exact hB.get (by omega) j2
 ·refine(hC.append hD).trans ?_;have e:(A++B).Perm (A.take u++(A.drop u++(B.take v++B.drop v))):=by rw[List.take_append_drop,<-List.append_assoc,List.take_append_drop]
  refine List.Perm.trans ?_ e.symm;rw[List.append_assoc];refine List.Perm.append_left _ ?_;rw[<-List.append_assoc,<-List.append_assoc];exact List.Perm.append_right _ List.perm_append_comm
section
variable (b:Bool) (P A B Q:List aC)
theorem Bn(hAB:Bef A B)(hA:Srt nd A)(hB:Srt nd B)(ho:okTs nd (P++(A++(B++Q))))(hn:(P++(A++(B++Q))).length<=1000000000000000)(i0 j0:Nat)(mid:Nat)(hmid:mid=(P.length+(P.length+A.length+B.length)) / 2)
  (h1:P.length<=i0)(h2:i0<=j0)(h3:j0<=P.length+A.length)(h4:j0<=mid)(h5:mid<=B.length+i0):
  Sq b (cO (fun s=>(oC (P.length:Int) ((P.length+A.length:Nat):Int) ((P.length+A.length+B.length:Nat):Int) (P++(A++(B++Q))) nd s).den) ((i0:Int),(j0:Int)))
   (sel (fun r:Int=>∃ n:Nat,r=(n:Int)/\i0<=n/\n<=j0/\(∀ c,i0<=c->c<n->(ltL nd) (B.getD (mid-1-c) default) (A.getD (c-P.length) default)=false)/\(∀ c,n<=c->c<j0->(ltL nd) (B.getD (mid-1-c) default) (A.getD (c-P.length) default)=true)) (fun _=>False)):=by
 simp only[List.length_append]at hn;have hL:(P++(A++(B++Q))).length=P.length+A.length+B.length+Q.length:=by simp; omega
 have e1:∀ k,P.length<=k->k<P.length+A.length->(P++(A++(B++Q))).getD k default=A.getD (k-P.length) default:=by intro k k1 k2;rw[bI,if_neg (by omega),bI,if_pos (by omega)]
 have e2:∀ k,P.length+A.length<=k->k<P.length+A.length+B.length->(P++(A++(B++Q))).getD k default=B.getD (k-(P.length+A.length)) default:=by
  intro k k1 k2;rw[bI,if_neg (by omega),bI,if_neg (by omega),bI,if_pos (by omega)]
  congr 1; omega
 refine(Fi b _ (fun c=>!(ltL nd) (B.getD (mid-1-c) default) (A.getD (c-P.length) default)) i0 j0 h2 (fun i j q1 q2 q3=>?_) (fun i q1 q2=>?_) (fun h k q1 q2 q3 q4=>?_)).imp ?_
 ·unfold oC;simp only[Tr.den];rw[nQ (i:=P.length) (j:=P.length+A.length+B.length) (by omega),<-hmid,nQ (i:=i) (j:=j) (by omega)];have w1:IntKind.i64.wrap (IntKind.i64.wrap (IntKind.i64.wrap ((mid:Int)+((P.length+A.length:Nat):Int))-1)-(((i+j) / 2:Nat):Int))=((mid+(P.length+A.length)-1-(i+j) / 2:Nat):Int):=by rw[dI (by omega),bT (n:=((mid+(P.length+A.length):Nat):Int)-1) (by omega) (by omega),bT (by omega) (by omega)];omega
  rw[w1];simp only[Int.toNat_natCast];rw[hL];rw[if_pos (by simp; omega),if_pos (by omega),if_pos (by omega),if_pos (by omega),if_pos (by omega)];rw[nX (ho.get (k:=mid+(P.length+A.length)-1-(i+j) / 2) (by omega)) (ho.get (k:=(i+j) / 2) (by omega))];simp only[Option.bind_some];rw[e1 ((i+j) / 2) (by omega) (by omega),e2 (mid+(P.length+A.length)-1-(i+j) / 2) (by omega) (by omega),show mid+(P.length+A.length)-1-(i+j) / 2-(P.length+A.length)=mid-1-(i+j) / 2 by omega];rw[Jt (nd:=nd) (a:=B.getD (mid-1-(i+j) / 2) default) (b:=A.getD ((i+j) / 2-P.length) default) (hAB _ (aT (by omega)) _ (aT (by omega)))];cases (ltL nd) (B.getD (mid-1-(i+j) / 2) default) (A.getD ((i+j) / 2-P.length) default) with
  | true=>simp
  | false=>simp; rw[bT] <;> omega
 ·unfold oC;simp only[Tr.den];rw[if_neg (by simp)]
 ·simp only[Bool.not_eq_true']at q4 ⊢;exact(iC nd).ntrans _ _ _ (hB.get (i:=mid-1-h) (j:=mid-1-k) (by omega) (by omega)) ((iC nd).ntrans _ _ _ q4 (hA.get (i:=k-P.length) (j:=h-P.length) (by omega) (by omega)))
 ·intro z hz;cases z with
  | inr z=>exact hz
  | inl z=>obtain⟨n,rfl,q1,q2,q3,q4⟩:=hz;refine⟨n,rfl,q1,q2,fun c c1 c2=>by simpa using q3 c c1 c2,fun c c1 c2=>by simpa using q4 c c1 c2⟩
end
theorem aPG(b:Bool)(f:Nh)(P A B Q:List aC)(hAB:Bef A B)(hA0:A≠[])(hB0:B≠[])(hA:Srt nd A)(hB:Srt nd B)(ho:okTs nd (P++(A++(B++Q))))(hn:(P++(A++(B++Q))).length<=1000000000000000)
  (hrec:∀ P' A' B' Q',Bef A' B'->A'≠[]->B'≠[]->Srt nd A'->Srt nd B'->okTs nd (P'++(A'++(B'++Q')))->(P'++(A'++(B'++Q'))).length<=1000000000000000->A'.length+B'.length<A.length+B.length ->
   Sq b (f.1 (fW nd P' A' B' Q')) (fun d=>∃ C,d=P'++(C++Q')/\C.Perm (A'++B')/\Srt nd C)):
  Sq b (wV f (P.length:Int) ((P.length+A.length:Nat):Int) ((P.length+A.length+B.length:Nat):Int) (P++(A++(B++Q))) nd).den (fun d=>∃ C,d=P++(C++Q)/\C.Perm (A++B)/\Srt nd C):=by
 have hA1:0<A.length:=List.length_pos_iff.2 hA0;have hB1:0<B.length:=List.length_pos_iff.2 hB0;have hn':=hn;simp only[List.length_append]at hn;have hL:(P++(A++(B++Q))).length=P.length+A.length+B.length+Q.length:=by simp; omega
 unfold wV;simp only[Tr.den,aNM,aQQ,aGV];rw[dZ (n:=P.length+A.length) (m:=P.length) (by omega) (by omega),dZ (n:=P.length+A.length+B.length) (m:=P.length+A.length) (by omega) (by omega)];by_cases c1:A.length=1
 ·obtain⟨x,rfl⟩:=List.length_eq_one_iff.1 c1;rw[if_pos (by simp)];simp only[List.singleton_append,List.length_singleton]at *
  refine Sq.bind _ (Dg b P B Q x hAB hB ho hn') (fun z hz=>?_);cases z with
  | inr z=>exact hz.elim
  | inl z=>
   obtain⟨n,rfl,h1,h2,h3⟩:=hz;simp only[sel];have hb:B++Q=B.take n++(B.drop n++Q):=by rw[<-List.append_assoc,List.take_append_drop]
   rw[hb,Xy P (B.take n) (B.drop n++Q) x _ (by simp; omega) (by rw[<-hb]; exact hn')];simp only[Option.bind_some,sel];refine aB.2 ⟨B.take n++x::B.drop n,by simp,?_,wC hB (fun k k1 k2=>xN (h2 k k1)) h3⟩;rw[List.perm_middle.congr_left,List.take_append_drop]
 ·rw[if_neg (by simp; omega)];by_cases c2:B.length=1
  ·obtain⟨y,rfl⟩:=List.length_eq_one_iff.1 c2;rw[if_pos (fL (by simp))];simp only[List.singleton_append,List.length_singleton]at *
   refine Sq.bind _ (xW b P A Q y hAB hA ho hn') (fun z hz=>?_);cases z with
   | inr z=>exact hz.elim
   | inl z=>
    obtain⟨n,rfl,h1,h2,h3⟩:=hz;simp only[sel];have hb:P++(A++y::Q)=(P++A.take n)++(A.drop n++y::Q):=by rw[List.append_assoc,<-List.append_assoc (A.take n),List.take_append_drop]
    rw[hb,Jz (P++A.take n) (A.drop n) Q y _ _ (by simp; omega) (by simp; omega) (by rw[<-hb]; exact hn')];simp only[Option.bind_some,sel];refine aB.2 ⟨A.take n++y::A.drop n,by simp,?_,wC hA (fun k k1 k2=>h2 k k1) (fun k k1 k2=>xN (h3 k k1 k2))⟩;refine List.perm_middle.trans ?_;rw[List.take_append_drop];exact(List.perm_append_singleton y A).symm
  ·rw[if_neg (by simp; omega)];rw[nQ (i:=P.length) (j:=P.length+A.length+B.length) (by omega)];generalize hmid:(P.length+(P.length+A.length+B.length)) / 2=mid;have key:∀ (i0 j0:Nat),P.length<=i0->i0<=j0->j0<=P.length+A.length->j0<=mid->mid<=B.length+i0->(i0=P.length\/mid=B.length+i0)->(j0=P.length+A.length\/j0=mid) ->
     ∀ K:Int->Option (List aC),(∀ u v:Nat,u<=A.length->v<=B.length->u+v+P.length=mid->(0<u->v<B.length->(ltL nd) (B.getD v default) (A.getD (u-1) default)=false)->(0<v->u<A.length->(ltL nd) (A.getD u default) (B.getD (v-1) default)=false) ->
      Sq b (K ((P.length+u:Nat):Int)) (fun d=>∃ C,d=P++(C++Q)/\C.Perm (A++B)/\Srt nd C)) ->
     Sq b ((cO (fun s=>(oC (P.length:Int) ((P.length+A.length:Nat):Int) ((P.length+A.length+B.length:Nat):Int) (P++(A++(B++Q))) nd s).den) ((i0:Int),(j0:Int))).bind (sel K some)) (fun d=>∃ C,d=P++(C++Q)/\C.Perm (A++B)/\Srt nd C):=by
    intro i0 j0 h1 h2 h3 h4 h5 h6 h7 K hK;refine Sq.bind _ (Bn b P A B Q hAB hA hB ho hn' i0 j0 mid hmid.symm h1 h2 h3 h4 h5) (fun z hz=>?_);cases z with
    | inr z=>exact hz.elim
    | inl z=>
     obtain⟨n,rfl,q1,q2,q3,q4⟩:=hz;simp only[sel];have:=hK (n-P.length) (mid-n) (by omega) (by omega) (by omega) (fun u1 u2=>?_) (fun u1 u2=>?_)
     ·rwa [show P.length+(n-P.length)=n by omega]at this
     ·have:=q3 (n-1) (by omega) (by omega)
      rwa [show mid-1-(n-1)=mid-n by omega,show n-1-P.length=n-P.length-1 by omega]at this
     ·have:=q4 n (by omega) (by omega);rw[show mid-1-n=mid-n-1 by omega]at this;exact xN this
   have body:∀ u v:Nat,u<=A.length->v<=B.length->u+v+P.length=mid->(0<u->v<B.length->(ltL nd) (B.getD v default) (A.getD (u-1) default)=false)->(0<v->u<A.length->(ltL nd) (A.getD u default) (B.getD (v-1) default)=false) ->
     Sq b ((if decide (((P.length+u:Nat):Int)<((P.length+A.length:Nat):Int))=true then some (decide (((P.length+A.length:Nat):Int)<IntKind.i64.wrap (IntKind.i64.wrap ((mid:Int)+((P.length+A.length:Nat):Int))-((P.length+u:Nat):Int)))) else some false).bind fun j27=>
      (if j27=true then (uW ((P.length+u:Nat):Int) ((P.length+A.length:Nat):Int) (IntKind.i64.wrap (IntKind.i64.wrap ((mid:Int)+((P.length+A.length:Nat):Int))-((P.length+u:Nat):Int))) (P++(A++(B++Q)))).bind (fun r=>some r) else some (P++(A++(B++Q)))).bind fun j28=>
      (if decide ((P.length:Int)<((P.length+u:Nat):Int))=true then some (decide (((P.length+u:Nat):Int)<(mid:Int))) else some false).bind fun j30=>
      (if j30=true then (f.1 ((P.length:Int),((P.length+u:Nat):Int),(mid:Int),j28,nd)).bind (fun r=>some r) else some j28).bind fun j31=>
      (if decide ((mid:Int)<IntKind.i64.wrap (IntKind.i64.wrap ((mid:Int)+((P.length+A.length:Nat):Int))-((P.length+u:Nat):Int)))=true then some (decide (IntKind.i64.wrap (IntKind.i64.wrap ((mid:Int)+((P.length+A.length:Nat):Int))-((P.length+u:Nat):Int))<((P.length+A.length+B.length:Nat):Int))) else some false).bind fun j33=>
      (if j33=true then (f.1 ((mid:Int),IntKind.i64.wrap (IntKind.i64.wrap ((mid:Int)+((P.length+A.length:Nat):Int))-((P.length+u:Nat):Int)),((P.length+A.length+B.length:Nat):Int),j31,nd)).bind (fun r=>some r) else some j31).bind fun j34=>some j34)
      (fun d=>∃ C,d=P++(C++Q)/\C.Perm (A++B)/\Srt nd C):=by
    intro u v hu hv huv f1 f2;have w2:IntKind.i64.wrap (IntKind.i64.wrap ((mid:Int)+((P.length+A.length:Nat):Int))-((P.length+u:Nat):Int))=((P.length+A.length+v:Nat):Int):=by rw[dI (by omega),dZ (by omega) (by omega)]; congr 1; omega
    rw[w2];simp only[nC,Option.bind_some];have eA:=List.take_append_drop u A;have eB:=List.take_append_drop v B;have lA1:(A.take u).length=u:=by simp; omega
    have lB1:(B.take v).length=v:=by simp; omega
    have lA2:(A.drop u).length=A.length-u:=by simp
    have lB2:(B.drop v).length=B.length-v:=by simp
    have hs:P++(A++(B++Q))=(P++A.take u)++(A.drop u++(B.take v++(B.drop v++Q))):=by
     conv=>lhs; rw[<-eA,<-eB]
     simp only[List.append_assoc]
    refine Sq.bind (fun d=>d=P++(A.take u++(B.take v++(A.drop u++(B.drop v++Q))))) ?_ (fun j28 h28=>?_)
    ·by_cases hc:(((P.length+u:Nat):Int)<((P.length+A.length:Nat):Int))/\(((P.length+A.length:Nat):Int)<((P.length+A.length+v:Nat):Int))
     ·rw[if_pos (by simpa using hc)];rw[hs]at hn' ⊢;have h:=Fv b (P++A.take u) (A.drop u) (B.take v) (B.drop v++Q) (fun h0=>by have:=congrArg List.length h0; simp only[List.length_drop,List.length_nil]at this; omega) (fun h0=>by have:=congrArg List.length h0; simp only[List.length_take,List.length_nil]at this; omega)
       ((P.length+u:Nat):Int) ((P.length+A.length:Nat):Int) ((P.length+A.length+v:Nat):Int) (by simp; omega) (by simp; omega) (by simp; omega) hn'
      refine Sq.bind _ h (fun d hd=>aB.2 ?_);rw[hd]; simp only[List.append_assoc]
     ·rw[if_neg (by simpa using hc)];refine aB.2 ?_;rw[hs];by_cases hu':u=A.length
      ·have:A.drop u=[]:=by subst hu'; simp
       rw[this]; simp
      ·have:v=0:=by omega
       subst this; simp
    subst h28;have oD:okTs nd (P++(A.take u++(B.take v++(A.drop u++(B.drop v++Q))))):=by refine ho.perm ?_;rw[hs];simp only[List.append_assoc];exact List.Perm.append_left _ (List.Perm.append_left _ (List.perm_append_comm_assoc _ _ _))
    refine Sq.bind (fun d=>∃ C,d=P++(C++(A.drop u++(B.drop v++Q)))/\C.Perm (A.take u++B.take v)/\Srt nd C) ?_ (fun j31 h31=>?_)
    ·by_cases hc:((P.length:Int)<((P.length+u:Nat):Int))/\(((P.length+u:Nat):Int)<(mid:Int))
     ·rw[if_pos (by simpa using hc)];have e:((P.length:Int),((P.length+u:Nat):Int),(mid:Int),P++(A.take u++(B.take v++(A.drop u++(B.drop v++Q)))),nd)=fW nd P (A.take u) (B.take v) (A.drop u++(B.drop v++Q)):=by unfold fW; rw[lA1,lB1,<-huv]; simp; omega
      rw[e];refine Sq.bind _ (hrec _ _ _ _ (fun x hx y hy=>hAB x (List.mem_of_mem_take hx) y (List.mem_of_mem_take hy)) (fun h0=>by have:=congrArg List.length h0; simp only[List.length_take,List.length_nil]at this; omega) (fun h0=>by have:=congrArg List.length h0; simp only[List.length_take,List.length_nil]at this; omega) (hA.take u) (hB.take v) oD (by simp; omega) (by omega)) (fun d hd=>aB.2 hd)
     ·rw[if_neg (by simpa using hc)];refine aB.2 ⟨A.take u++B.take v,by simp,.refl _,?_⟩;by_cases hu':u=0
      ·subst hu'; simpa using hB.take v
      ·have:v=0:=by omega
       subst this; simpa using hA.take u
    obtain⟨C,rfl,pC,sC⟩:=h31;have lC:C.length=u+v:=by rw[pC.length_eq]; simp; omega
    have fin:∀ D:List aC,D.Perm (A.drop u++B.drop v)->Srt nd D->Srt nd (C++D)/\(C++D).Perm (A++B):=fun D pD sD=>aCA hA hB hu hv f1 f2 pC pD sC sD;refine Sq.bind (fun d=>∃ C,d=P++(C++Q)/\C.Perm (A++B)/\Srt nd C) ?_ (fun j34 h34=>aB.2 h34);by_cases hc:((mid:Int)<((P.length+A.length+v:Nat):Int))/\(((P.length+A.length+v:Nat):Int)<((P.length+A.length+B.length:Nat):Int))
    ·rw[if_pos (by simpa using hc)];have e:((mid:Int),((P.length+A.length+v:Nat):Int),((P.length+A.length+B.length:Nat):Int),P++(C++(A.drop u++(B.drop v++Q))),nd)=fW nd (P++C) (A.drop u) (B.drop v) Q:=by unfold fW; rw[lA2,lB2,<-huv]; simp; omega
     rw[e];refine Sq.bind _ (hrec _ _ _ _ (fun x hx y hy=>hAB x (List.mem_of_mem_drop hx) y (List.mem_of_mem_drop hy)) (fun h0=>by have:=congrArg List.length h0; simp only[List.length_drop,List.length_nil]at this; omega) (fun h0=>by have:=congrArg List.length h0; simp only[List.length_drop,List.length_nil]at this; omega) (hA.drop u) (hB.drop v) ?_ (by simp; omega) (by omega)) (fun d hd=>?_)
     ·refine oD.perm ?_;rw[List.append_assoc];refine List.Perm.append_left _ ?_;rw[<-List.append_assoc];exact List.Perm.append_right _ pC.symm
     ·obtain⟨D,rfl,pD,sD⟩:=hd;exact aB.2 ⟨C++D,by simp,(fin D pD sD).2,(fin D pD sD).1⟩
    ·rw[if_neg (by simpa using hc)];have:=fin (A.drop u++B.drop v) (.refl _) (by
      by_cases hu':u=A.length
      ·have:A.drop u=[]:=by subst hu'; simp
       rw[this]; simpa using hB.drop v
      ·have:B.drop v=[]:=by rw[show v=B.length by omega]; simp
       rw[this]; simpa using hA.drop u)
     exact aB.2 ⟨C++(A.drop u++B.drop v),by simp,this.2,this.1⟩
   by_cases hm:mid<P.length+A.length
   ·rw[if_pos (by simp; omega)];simp only[Option.bind_some];rw[dI (n:=mid) (m:=P.length+A.length) (by omega),dZ (n:=mid+(P.length+A.length)) (by omega) (by omega),<-dI (n:=mid) (m:=P.length+A.length) (by omega)];exact key (mid+(P.length+A.length)-(P.length+A.length+B.length)) mid (by omega) (by omega) (by omega) (by omega) (by omega) (by omega) (by omega) _ body
   ·rw[if_neg (by simp; omega)];simp only[Option.bind_some];exact key P.length (P.length+A.length) (by omega) (by omega) (by omega) (by omega) (by omega) (by omega) (by omega) _ body
theorem Im(nd:aI)(P A B Q:List aC)(hAB:Bef A B)(hA0:A≠[])(hB0:B≠[])(hA:Srt nd A)(hB:Srt nd B)(ho:okTs nd (P++(A++(B++Q))))(hn:(P++(A++(B++Q))).length<=1000000000000000):
  Sp (Mg (P.length:Int) ((P.length+A.length:Nat):Int) ((P.length+A.length+B.length:Nat):Int) (P++(A++(B++Q))) nd) (fun d=>∃ C,d=P++(C++Q)/\C.Perm (A++B)/\Srt nd C):=by
 have h:=kV (C:=fun (a:Int×Int×Int×List aC×aI) (x:Option (List aC))=>eT Proofs.Tryz.prog 272 [.own 30000,.t (.int .i64 (a.1)),.t (.int .i64 (a.2.1)),.t (.int .i64 (a.2.2.1)),.fn (.func 176) 0 [.ptr 30001 0]] [(30000,.arr 50 3 (a.2.2.2.1.length) (eF aG a.2.2.2.1)),(30001,bN a.2.2.2.2)] [30000,30001] x (fun (y:List aC)=>.tup []) (fun (y:List aC)=>[(30000,aD y),(30001,bN a.2.2.2.2)]))
  (fun a=>⟨bO Proofs.Tryz.func272 (by kernel_rfl),fun _ h=>nomatch h⟩) (fun rec a=>wV rec a.1 a.2.1 a.2.2.1 a.2.2.2.1 a.2.2.2.2) (fun rec a=>Eo rec a.1 a.2.1 a.2.2.1 a.2.2.2.1 a.2.2.2.2)
  (aMB nd) (fun a=>(a.2.2.1-a.1).toNat) (aMV nd) (fun b f a ha hrec=>?_) true (fW nd P A B Q) ⟨P,A,B,Q,rfl,hAB,hA0,hB0,hA,hB,ho,hn⟩
 ·exact h.imp fun d hd=>hd P A B Q rfl
 ·obtain⟨P,A,B,Q,rfl,hAB,hA0,hB0,hA,hB,ho,hn⟩:=ha;refine(aPG b f P A B Q hAB hA0 hB0 hA hB ho hn (fun P' A' B' Q' a0 a1 a2 a3 a4 a5 a6 a7=>?_)).imp fun d hd P' A' B' Q' he=>?_
  ·exact(hrec (fW nd P' A' B' Q') ⟨P',A',B',Q',rfl,a0,a1,a2,a3,a4,a5,a6⟩ (by simp only[fW]; omega)).imp fun d hd=>hd P' A' B' Q' rfl
  ·obtain⟨rfl,rfl,rfl,rfl⟩:=xH he;exact hd
def eK(nd:aI)(a b:Nat)(l:List aC):Prop:=∀ i j,a<=i->i<j->j<b->(ltL nd) (l.getD j default) (l.getD i default)=false
structure PI (a b:Nat)(l d:List aC):Prop where
 len:d.length=l.length
 out:∀ k,k<a\/b<=k->d.getD k default=l.getD k default
 perm:d.Perm l
 mem:∀ k,a<=k->k<b->∃ k',a<=k'/\k' < b/\d.getD k default=l.getD k' default
theorem eK.congr{b:Nat}{d:List aC}(h:eK nd a b l)(he:∀ k,a<=k->k<b->d.getD k default=l.getD k default):eK nd a b d:=by intro i j h1 h2 h3;rw[he i h1 (by omega),he j (by omega) h3];exact h i j h1 h2 h3
theorem eK.sub{b a' b':Nat}(h:eK nd a b l)(h1:a<=a')(h2:b'<=b):eK nd a' b' l:=fun i j q1 q2 q3=>h i j (by omega) q2 (by omega)
theorem rM(nd:aI)(a m b:Nat)(l:List aC)(h1:a<m)(h2:m<b)(h3:b<=l.length)(ha:eK nd a m l)(hb:eK nd m b l)(hD:∀ i j,a<=i->i<m->m<=j->j<b->dD (l.getD i default) (l.getD j default)<0)(ho:okTs nd l)(hn:l.length<=1000000000000000):
  Sp (Mg (a:Int) (m:Int) (b:Int) l nd) (fun d=>PI a b l d/\eK nd a b d):=by
 have e:l=l.take a++((l.drop a).take (m-a)++((l.drop m).take (b-m)++l.drop b)):=by
  have e1:l.drop m=(l.drop m).take (b-m)++l.drop b:=by
   conv=>lhs; rw[<-List.take_append_drop (b-m) (l.drop m)]
   rw[List.drop_drop,show m+(b-m)=b by omega]
  have e2:l.drop a=(l.drop a).take (m-a)++l.drop m:=by
   conv=>lhs; rw[<-List.take_append_drop (m-a) (l.drop a)]
   rw[List.drop_drop,show a+(m-a)=m by omega]
  rw[<-e1,<-e2,List.take_append_drop]
 have lP:(l.take a).length=a:=by simp; omega
 have lA:((l.drop a).take (m-a)).length=m-a:=by simp; omega
 have lB:((l.drop m).take (b-m)).length=b-m:=by simp; omega
 have gA:∀ k,k<m-a->((l.drop a).take (m-a)).getD k default=l.getD (a+k) default:=by intro k hk;rw[bR (by omega),bR (by omega)]; simp
 have gB:∀ k,k<b-m->((l.drop m).take (b-m)).getD k default=l.getD (m+k) default:=by intro k hk;rw[bR (by omega),bR (by omega)]; simp
 have hBef:Bef ((l.drop a).take (m-a)) ((l.drop m).take (b-m)):=fun x hx y hy=>by obtain⟨i,i1,i2,rfl⟩:=dM hx;obtain⟨j,j1,j2,rfl⟩:=dM hy;have e3:=gA i i1;have e4:=gB j j1;rw[bR (by omega),List.getElem_take,<-bR i2]at e3;rw[bR (by omega),List.getElem_take,<-bR j2]at e4;rw[e3,e4];exact hD _ _ (by omega) (by omega) (by omega) (by omega)
 have h:=Im nd (l.take a) ((l.drop a).take (m-a)) ((l.drop m).take (b-m)) (l.drop b) hBef (fun h0=>by rw[h0]at lA; simp at lA; omega) (fun h0=>by rw[h0]at lB; simp at lB; omega)
  (oW fun i j hij hj=>by rw[gA i (by omega),gA j (by omega)]; exact ha _ _ (by omega) (by omega) (by omega))
  (oW fun i j hij hj=>by rw[gB i (by omega),gB j (by omega)]; exact hb _ _ (by omega) (by omega) (by omega)) (by rw[<-e]; exact ho) (by rw[<-e]; exact hn)
 rw[lP,lA,lB,<-e,show a+(m-a)=m by omega,show m+(b-m)=b by omega]at h;refine h.imp fun d hd=>?_;obtain⟨C,rfl,pC,sC⟩:=hd;have lC:C.length=b-a:=by rw[pC.length_eq,List.length_append,lA,lB]; omega
 have lD:(l.drop b).length=l.length-b:=by simp
 refine⟨⟨by rw[List.length_append,List.length_append,lP,lC,lD]; omega,fun k hk=>?_,?_,?_⟩,?_⟩
 ·rcases hk with hk | hk
  ·rw[bI,if_pos (by omega),bR (by omega)];by_cases hl:k<l.length
   ·rw[bR hl]; simp
   ·omega
  ·rw[bI,if_neg (by omega),bI,if_neg (by omega),lP,lC];by_cases hl:k<l.length
   ·rw[bR (by omega),bR hl]; simp; congr 1; omega
   ·rw[List.getD_eq_getElem?_getD,List.getElem?_eq_none (by omega),List.getD_eq_getElem?_getD,List.getElem?_eq_none (by omega)]
 ·conv=>rhs; rw[e]
  refine List.Perm.append_left _ ?_;rw[<-List.append_assoc];exact List.Perm.append_right _ pC
 ·intro k k1 k2;rw[bI,if_neg (by omega),bI,if_pos (by omega),lP];rcases List.mem_append.1 (pC.mem_iff.1 (aT (show k-a<C.length by omega))) with hx | hx
  ·obtain⟨i,i1,i2,h5⟩:=dM hx;rw[h5];have e3:=gA i i1;rw[bR (by omega),List.getElem_take,<-bR i2]at e3;exact⟨a+i,by omega,by omega,e3⟩
  ·obtain⟨j,j1,j2,h5⟩:=dM hx;rw[h5];have e4:=gB j j1;rw[bR (by omega),List.getElem_take,<-bR j2]at e4;exact⟨m+j,by omega,by omega,e4⟩
 ·intro i j q1 q2 q3;rw[bI,if_neg (by omega),bI,if_pos (by omega),bI,if_neg (by omega),bI,if_pos (by omega)];exact sC.get (by omega) (by omega)
theorem vO(nd:aI)(a b:Nat)(l:List aC)(hab:a<=b)(hb:b<=l.length)(hD:∀ k m,a<=k->k<m->m<b->dD (l.getD k default) (l.getD m default)<0)(ho:okTs nd l)(hn:l.length<=1000000000000000):Sp (Hz (a:Int) (b:Int) l nd) (fun d=>PI a b l d/\eK nd a b d):=by
 refine Sq.of_eq (Va nd a b l hb hab hn ho hD) ?_;have h:=Sort.insertionSort_holds (iC nd) l.toArray a b hab (by simpa using hb);obtain⟨⟨h1,h2,h3⟩,h4⟩:=h;have g:∀ (k:Nat),(Sort.insertionSort (ltL nd) l.toArray a b).toList.getD k default=(Sort.insertionSort (ltL nd) l.toArray a b)[k]!:=fun k=>by rw[<-fM]
 refine⟨⟨by simpa using h1,fun k hk=>by rw[g,h2 k hk,fM],?_,fun k k1 k2=>?_⟩,fun i j q1 q2 q3=>by rw[g,g]; exact h4 i j q1 q2 q3⟩;have h5:=Sort.permIn_mono _ _ a b 0 l.length (by omega) (by omega) (by simp) (show Sort.PermIn a b l.toArray (Sort.insertionSort (ltL nd) l.toArray a b) from ⟨h1,h2,h3⟩);have h6:=h5.2.2;rw[show l.length=l.toArray.size by simp]at h6;rw[show (Sort.insertionSort (ltL nd) l.toArray a b).extract 0 l.toArray.size=Sort.insertionSort (ltL nd) l.toArray a b by rw[<-h1]; simp]at h6;simpa using h6;have hm:(Sort.insertionSort (ltL nd) l.toArray a b)[k]! ∈ ((Sort.insertionSort (ltL nd) l.toArray a b).extract a b).toList:=by
  have hs:k<(Sort.insertionSort (ltL nd) l.toArray a b).size:=by rw[h1]; simp; omega
  rw[getElem!_pos (Sort.insertionSort (ltL nd) l.toArray a b) k hs];rw[Array.toList_extract];rw[List.extract_eq_take_drop];refine List.mem_iff_getElem.2 ⟨k-a,by simp; omega,?_⟩;simp[show a+(k-a)=k by omega]
 have hm2:=h3.mem_iff.1 hm;rw[Array.toList_extract,List.extract_eq_take_drop]at hm2;obtain⟨j,j1,j2,h7⟩:=dM hm2;simp only[List.length_drop]at j2;refine⟨a+j,by omega,by omega,?_⟩;rw[g,h7];rw[bR (by simp; omega),bR (by omega)];simp
theorem Zs(hw:0<w)(h:i / (2*w)<j / (2*w)):i / w<j / w:=by refine Nat.lt_of_not_le fun h1=>?_;rw[Nat.mul_comm,<-Nat.div_div_eq_div_mul,<-Nat.div_div_eq_div_mul]at h;have:=Nat.div_le_div_right (c:=2) h1;omega
theorem Vi(hw:0<w)(ha:w∣a)(h1:a<=i)(h2:i<a+w)(h3:a+w<=j):i / w<j / w:=by obtain⟨c,rfl⟩:=ha;have e1:i / w=c:=Nat.div_eq_of_lt_le (by rw[Nat.mul_comm]; exact h1) (by rw[Nat.add_mul,Nat.mul_comm c w]; omega);have e2:c+1<=j / w:=(Nat.le_div_iff_mul_le hw).2 (by rw[Nat.add_mul,Nat.mul_comm c w]; omega);omega
theorem Kl(hw:0<w)(ha:w∣a)(h1:a<=i)(h2:i<a+w)(h3:a<=j)(h4:j<a+w):i / w=j / w:=by obtain⟨c,rfl⟩:=ha;have e:∀ q,w*c<=q->q<w*c+w->q / w=c:=fun q q1 q2=>Nat.div_eq_of_lt_le (by rw[Nat.mul_comm]; exact q1) (by rw[Nat.add_mul,Nat.mul_comm c w]; omega);rw[e i h1 h2,e j h3 h4]
theorem aKP{n:Nat}{d d':List aC}(ha:w∣a)(hn:a+w<=n)(hp:PI a (a+w) d d')(h:∀ i j,j<n->i / w<j / w->dD (d.getD i default) (d.getD j default)<0):∀ i j,j<n->i / w<j / w->dD (d'.getD i default) (d'.getD j default)<0:=by
 intro i j j1 j2;by_cases hw:w=0
 ·subst hw; simp at j2
 have src:∀ q,q<n->∃ q',q' < n/\q' / w=q / w/\d'.getD q default=d.getD q' default:=fun q hq=>by
  by_cases r0:a<=q/\q<a+w
  ·obtain⟨q',r1,r2,r3⟩:=hp.mem q r0.1 r0.2;exact⟨q',by omega,Kl (by omega) ha r1 r2 r0.1 r0.2,r3⟩
  ·exact⟨q,hq,rfl,hp.out q (by omega)⟩
 have hij:i<j:=Nat.lt_of_not_le fun h=>by have:=Nat.div_le_div_right (c:=w) h; omega
 obtain⟨i',i1,i2,i3⟩:=src i (by omega);obtain⟨j',m1,m2,m3⟩:=src j j1;rw[i3,m3];exact h i' j' m1 (by rw[i2,m2]; exact j2)
theorem Wb(nd:aI)(l:List aC)(hP:l.Pairwise (fun x y=>dD x y<0))(ho:okTs nd l)(hn:l.length<=100000000000000):Sp (Pb (l.length:Int) l nd) (fun d=>d.Perm l/\Srt nd d):=by
 have hL:∀ i j,i<j->j<l.length->dD (l.getD i default) (l.getD j default)<0:=fun i j h1 h2=>by rw[bR h2,bR (show i<l.length by omega)];exact List.pairwise_iff_getElem.1 hP i j (by omega) h2 h1
 unfold Pb Of;simp only[Tr.den,bQ];refine Sq.while (fun s:List aC×Int×Int=>∃ a:Nat,s.2.1=a/\s.2.2=((a+20:Nat):Int)/\20∣a/\a<=l.length/\s.1.Perm l/\(∀ c,20∣c->c+20<=a->eK nd c (c+20) s.1)/\(∀ k,a<=k->s.1.getD k default=l.getD k default)/\∀ i j,j<l.length->i / 20<j / 20->dD (s.1.getD i default) (s.1.getD j default)<0) (fun s=>(l.length-s.2.1).toNat) (fun s hs=>?_)
  ⟨0,rfl,rfl,by simp,by omega,.refl _,fun c h1 h2=>by omega,fun _ _=>rfl,fun i j h1 h2=>hL i j (by omega) h1⟩
 obtain⟨d,i,j⟩:=s;obtain⟨a,h1,h2,h3,h4,h5,h6,h7,h8⟩:=hs;simp only at h1 h2 h5 h6 h7 h8;subst h1 h2;have hlen:=h5.length_eq;unfold Gc;simp only[Tr.den];by_cases hc:a+20<=l.length
 ·rw[if_pos (by simp; omega)];refine bQ.2 ((vO nd a (a+20) d (by omega) (by omega) (fun k m k1 k2 k3=>by rw[h7 k k1,h7 m (by omega)]; exact hL k m k2 (by omega)) (ho.perm h5.symm) (by omega)).imp fun d' hd'=>?_);rw[bT (by omega) (by omega)];refine aB.2 ⟨⟨a+20,rfl,by simp,?_,hc,hd'.1.perm.trans h5,fun c q1 q2=>?_,fun k hk=>by rw[hd'.1.out k (.inr (by omega))]; exact h7 k (by omega),aKP h3 (by omega) hd'.1 h8⟩,by simp only; omega⟩
  ·omega
  ·by_cases hca:c<a
   ·exact(h6 c q1 (iJ h3 q1 hca)).congr fun k k1 k2=>hd'.1.out k (.inl (by have:=iJ h3 q1 hca; omega))
   ·have:c=a:=by omega
    subst this; exact hd'.2
 ·rw[if_neg (by simp; omega)];refine aB.2 ?_;simp only[sel];refine bQ.2 ((vO nd a l.length d h4 (by omega) (fun k m k1 k2 k3=>by rw[h7 k k1,h7 m (by omega)]; exact hL k m k2 k3) (ho.perm h5.symm) (by omega)).imp fun d2 hd2=>?_);obtain⟨p2,s2⟩:=hd2;have hp2:d2.Perm l:=p2.perm.trans h5;have b2:∀ c,20∣c->eK nd c (min (c+20) l.length) d2:=by
   intro c hc';by_cases hca:c<a
   ·have:=iJ h3 hc' hca;exact((h6 c hc' this).congr fun k k1 k2=>p2.out k (.inl (by omega))).sub (by omega) (by omega)
   ·exact s2.sub (by omega) (by omega)
  have x2:∀ i j,j<l.length->i / 20<j / 20->dD (d2.getD i default) (d2.getD j default)<0:=fun i j j1 j2=>by
   obtain⟨a',rfl⟩:=h3;have src:∀ q,q<l.length->∃ q',q' < l.length/\q' / 20=q / 20/\d2.getD q default=d.getD q' default:=fun q hq=>by
    by_cases q1:q<20*a'
    ·exact⟨q,hq,rfl,p2.out q (.inl q1)⟩
    ·obtain⟨q',r1,r2,r3⟩:=p2.mem q (by omega) hq;exact⟨q',r2,by omega,r3⟩
   obtain⟨i',i1,i2,i3⟩:=src i (by omega);obtain⟨j',k1,k2,k3⟩:=src j j1;rw[i3,k3];exact h8 i' j' k1 (by omega)
  clear h6 p2 s2 h7 h8;refine bQ.2 ?_;refine Sq.while (fun s:List aC×Int=>∃ w:Nat,s.2=w/\0<w/\w<=400000000000000/\s.1.Perm l/\(∀ c,w∣c->eK nd c (min (c+w) l.length) s.1)/\∀ i j,j<l.length->i / w<j / w->dD (s.1.getD i default) (s.1.getD j default)<0) (fun s=>(l.length-s.2).toNat) (fun s hs=>?_) ⟨20,rfl,by omega,by omega,hp2,b2,x2⟩;obtain⟨d,i⟩:=s;obtain⟨w,k1,k2,k3,k4,k5,k6⟩:=hs;simp only at k1 k4 k5 k6;subst k1;unfold Fz;simp only[Tr.den];by_cases hw:w<l.length
  ·rw[if_pos (by simp; omega)];have e2w:IntKind.i64.wrap (2*(w:Int))=((2*w:Nat):Int):=by rw[bT] <;> omega
   rw[e2w];refine bQ.2 ?_;refine Sq.while (fun s:List aC×Int×Int=>∃ a:Nat,s.2.1=a/\s.2.2=((a+2*w:Nat):Int)/\(2*w)∣a/\a<=l.length/\s.1.Perm l/\(∀ c,(2*w)∣c->c+2*w<=a->eK nd c (c+2*w) s.1)/\(∀ c,w∣c->a<=c->eK nd c (min (c+w) l.length) s.1)/\(∀ k,a<=k->s.1.getD k default=d.getD k default)/\∀ i j,j<l.length->i / (2*w)<j / (2*w)->dD (s.1.getD i default) (s.1.getD j default)<0) (fun s=>(l.length-s.2.1).toNat) (fun s hs=>?_)
    ⟨0,rfl,by simp,by simp,by omega,k4,fun c q1 q2=>by omega,fun c q1 q2=>k5 c q1,fun _ _=>rfl,fun i j j1 j2=>k6 i j j1 (Zs k2 j2)⟩
   have hd0:=k4.length_eq;obtain⟨d1,i,j⟩:=s;obtain⟨a,g1,g2,g3,g4,g5,g6,g7,g8,g9⟩:=hs;simp only at g1 g2 g5 g6 g7 g8 g9;have cross:∀ i j,a<=i->i<a+w->a+w<=j->j<l.length->dD (d1.getD i default) (d1.getD j default)<0:=fun i j i1 i2 j1 j2=>by rw[g8 i i1,g8 j (by omega)];exact k6 i j j2 (Vi k2 (Nat.dvd_trans ⟨2,by omega⟩ g3) i1 i2 j1)
   subst g1 g2;have hlen:=g5.length_eq;have gw:w∣a:=Nat.dvd_trans ⟨2,by omega⟩ g3;have gw':w∣a+w:=Nat.dvd_add gw (Nat.dvd_refl w);unfold Fl;simp only[Tr.den];by_cases hb:a+2*w<=l.length
   ·rw[if_pos (by simp; omega),dI (by omega),e2w,dI (by omega)];refine bQ.2 ((rM nd a (a+w) (a+2*w) d1 (by omega) (by omega) (by omega) ((g7 a gw (by omega)).sub (by omega) (by omega)) ((g7 (a+w) gw' (by omega)).sub (by omega) (by omega)) (fun i j i1 i2 j1 j2=>cross i j i1 i2 j1 (by omega)) (ho.perm g5.symm) (by omega)).imp fun d' hd'=>?_);refine aB.2 ⟨⟨a+2*w,rfl,rfl,Nat.dvd_add g3 (Nat.dvd_refl _),hb,hd'.1.perm.trans g5,fun c q1 q2=>?_,fun c q1 q2=>?_,fun k hk=>?_,?_⟩,by simp only; omega⟩
    ·by_cases hca:c<a
     ·have:=iJ g3 q1 hca;exact(g6 c q1 this).congr fun k k1 k2=>hd'.1.out k (.inl (by omega))
     ·have:c=a:=by omega
      subst this; exact hd'.2
    ·exact(g7 c q1 (by omega)).congr fun k k1 k2=>hd'.1.out k (.inr (by omega))
    ·rw[hd'.1.out k (.inr (by omega))]; exact g8 k (by omega)
    ·exact aKP g3 (by omega) hd'.1 g9
   ·rw[if_neg (by simp; omega)];refine aB.2 ?_;simp only[sel];rw[dI (by omega)];refine Sq.bind (fun d'=>d'.Perm l/\eK nd a l.length d'/\(∀ k,k<a->d'.getD k default=d1.getD k default)/\∀ k,a<=k->k<l.length->∃ k',a<=k'/\k' < l.length/\d'.getD k default=d1.getD k' default) ?_ (fun d' hd'=>?_)
    ·by_cases hm:a+w<l.length
     ·rw[if_pos (by simp; omega)];refine bQ.2 ((rM nd a (a+w) l.length d1 (by omega) (by omega) (by omega) ((g7 a gw (by omega)).sub (by omega) (by omega)) ((g7 (a+w) gw' (by omega)).sub (by omega) (by omega)) (fun i j i1 i2 j1 j2=>cross i j i1 i2 j1 (by omega)) (ho.perm g5.symm) (by omega)).imp fun d' hd'=>?_);exact aB.2 ⟨hd'.1.perm.trans g5,hd'.2,fun k hk=>hd'.1.out k (.inl hk),hd'.1.mem⟩
     ·rw[if_neg (by simp; omega)];exact aB.2 ⟨g5,(g7 a gw (by omega)).sub (by omega) (by omega),fun _ _=>rfl,fun k k1 k2=>⟨k,k1,k2,rfl⟩⟩
    ·obtain⟨q1,q2,q3,q4⟩:=hd';rw[show IntKind.i64.wrap ((w:Int)*2)=((2*w:Nat):Int) by rw[bT] <;> omega];refine aB.2 ⟨⟨2*w,rfl,by omega,by omega,q1,fun c hc'=>?_,fun i j j1 j2=>?_⟩,by simp only; omega⟩;by_cases hca:c<a
     ·have:=iJ g3 hc' hca;exact((g6 c hc' this).congr fun k k1 k2=>q3 k (by omega)).sub (by omega) (by omega)
     ·exact q2.sub (by omega) (by omega)
     ·have src:∀ q,q<l.length->∃ q',q' < l.length/\q' / (2*w)=q / (2*w)/\d'.getD q default=d1.getD q' default:=fun q hq=>by
       by_cases r0:q<a
       ·exact⟨q,hq,rfl,q3 q r0⟩
       ·obtain⟨q',r1,r2,r3⟩:=q4 q (by omega) hq;exact⟨q',r2,Kl (by omega) g3 r1 (by omega) (by omega) (by omega),r3⟩
      have hij:i<j:=Nat.lt_of_not_le fun h=>by have:=Nat.div_le_div_right (c:=2*w) h; omega
      obtain⟨i',i1,i2,i3⟩:=src i (by omega);obtain⟨j',m1,m2,m3⟩:=src j j1;rw[i3,m3];exact g9 i' j' m1 (by rw[i2,m2]; exact j2)
  ·rw[if_neg (by simp; omega)];refine aB.2 ?_;simp only[sel];refine aB.2 ⟨k4,oW fun i j hij hj=>?_⟩;have:=k5 0 (by simp);rw[k4.length_eq]at hj;exact this i j (by omega) hij (by omega)
theorem G63s1_sp(nd:aI)(l:List aC)(hP:l.Pairwise (fun x y=>dD x y<0))(ho:okTs nd l)(hn:l.length<=100000000000000):Sp (Br l nd) (fun d=>d.Perm l/\Srt nd d):=by unfold Br aBW;simp only[Tr.den,bQ];exact(Wb nd l hP ho hn).imp fun d hd=>aB.2 hd
end
end Go.PL.St
namespace Go.PL
open Go
set_option linter.unusedVariables false
set_option maxRecDepth 20000
variable {A B X a l r x y:List aC} {d:aC} {fs:List bE} {n:aI} {ta ts:List Int}
theorem aIJ{R:List aC}(hw:okW R){a:aC}(ha:a.Row.length<=1000)(hn:qC a.N):okD (wL n R a):=by
 unfold wL;split
 ·have:=aBO (n:=n) (i:=0) (l:=[a]) (r:=R) (fun d hd=>by rw[bW.1 hd]; exact ha) hw;simpa[aKX] using this
 ·have:=Yb (n:=n) (l:=[a]) (r:=R) (fun d hd=>by rw[bW.1 hd]; exact ha) hw (fun d hd=>by rw[bW.1 hd]; exact hn);simpa[aKR] using this
theorem Km(n:aI)(R:List aC)(a:aC):(wL n R a).length<=R.length+1:=by
 unfold wL;split
 ·exact iQ (Tv n 0 R a) (by omega)
 ·exact iQ (Vq n R a) (by omega)
theorem Rr(hA:okI n 0 A)(hB:okI n 1 B):okD (xD n A B):=by unfold xD;refine Cn fun a ha=>aIJ (fun d hd=>hB.r d (tE.1 hd).1) (hA.r a ha) (hA.n a ha)
theorem Ji{c:Nat}(hB:B.length<=c):(xD n A B).length<=A.length*(c+1):=by unfold xD;refine yN (fun a=>?_) A;have h1:=Km n (ofK n 1 (kd n 0 a) B) a;have h2:=kS n 1 (kd n 0 a) B;omega
def nz(d:aC):Bool:=!(d.N==0)
theorem Si(d:aC):aML d=some (!nz d):=by unfold aML aPK nz;simp only[Tr.den,Bool.not_not]
theorem Uv(l:List aC)(hn:l.length<=1000000000000):
  Sp (Nu l) (fun r=>(r = -1/\∀ x,x∈l->nz x=true)\/∃ k:Nat,r=k/\k<l.length/\(∀ x,x∈l.take k->nz x=true)/\nz (l.getD k default)=false):=by
 unfold Nu Pd;simp only[Tr.den,bQ];refine Sq.while (fun s:Int=>∃ k:Nat,s=k/\k<=l.length/\∀ x,x∈l.take k->nz x=true) (fun s=>(l.length-s).toNat) (fun s hs=>?_) ⟨0,rfl,by omega,by simp⟩;obtain⟨k,rfl,h1,h2⟩:=hs;unfold Ev;simp only[Tr.den,aX];by_cases hk:k<l.length
 ·rw[aA (bV (by omega)),aA (by omega),aA hk,Si];simp only[aK];cases ha:nz (l.getD k default) with
  | true=>
   rw[aE (by simp),aP (by omega)];refine aB.2 ⟨⟨k+1,rfl,by omega,fun x hx=>?_⟩,by omega⟩;rw[aO hk,dA,bW]at hx;rcases hx with hx | rfl
   ·exact h2 x hx
   ·exact ha
  | false=>rw[aA (by simp)];exact aB.2 (aB.2 (.inr ⟨k,rfl,hk,h2,ha⟩))
 ·rw[aE (cD (by omega))];refine aB.2 (aB.2 (.inl ⟨rfl,?_⟩))
  rwa [lL (by omega)]at h2
theorem aAW(l:List aC)(hn:l.length<=1000000000000):Sp (Xs l) (fun d=>d=l.filter nz):=by
 unfold Xs Zy;simp only[Tr.den];refine Sq.bind _ (Uv l hn) (fun r hr=>?_);rcases hr with⟨rfl,h⟩ | ⟨k,rfl,h1,h2,h3⟩
 ·rw[aA (fL rfl)];refine aB.2 ?_;exact(Lq.2 h).symm
 ·rw[aE (eG (by omega)),aP (by omega)];simp only[bQ];refine Sq.while (fun s:List aC×Int×Int=>∃ i j:Nat,s.2.1=i/\s.2.2=j/\i<j/\j<=l.length/\s.1.length=l.length/\s.1.take i=(l.take j).filter nz/\s.1.drop j=l.drop j) (fun s=>(l.length-s.2.2).toNat) (fun s hs=>?_)
   ⟨k,k+1,rfl,rfl,by omega,by omega,rfl,?_,rfl⟩
  ·obtain⟨d,i,j⟩:=s;obtain⟨i,j,e1,e2,q1,q2,q3,q4,q5⟩:=hs;simp only at e1 e2 q3 q4 q5;subst e1 e2;unfold Ku;simp only[Tr.den,aX];by_cases hj:j<l.length
   ·have gj:d.getD j default=l.getD j default:=by have:=congrArg (fun x:List aC=>x.getD 0 default) q5;rw[cV (show j<d.length by omega),cV hj]at this;simpa using this
    rw[aA (bV (by omega)),aA (by omega),aA (by omega),gj,Si];simp only[aK,Bool.not_not];cases ha:nz (l.getD j default) with
    | true=>
     rw[aA rfl,aA (by omega),aA (by omega)];refine bQ.2 (nP (by simp; omega) (aB.2 ?_));rw[aP (by omega),aP (by omega)];refine aB.2 ⟨⟨i+1,j+1,rfl,rfl,by omega,by omega,by simp; omega,?_,?_⟩,by simp only; omega⟩
     ·rw[aO (show i<(d.set i (l.getD j default)).length by simp; omega),aO hj,Dl,mB,aA ⟨rfl,by omega⟩];rw[List.take_set_of_le (eE i),q4,Gj ha,yI]
     ·rw[List.drop_set_of_lt (by omega)];have:=congrArg (List.drop 1) q5;rw[uI,uI]at this;exact this
    | false=>
     rw[aE (by simp)];simp only[aK];rw[aP (by omega)];refine aB.2 ⟨⟨i,j+1,rfl,rfl,by omega,by omega,q3,?_,?_⟩,by simp only; omega⟩
     ·rw[aO hj,Dl,q4,Cg (by rw[ha]; simp),yI,gU]
     ·have:=congrArg (List.drop 1) q5;rw[uI,uI]at this;exact this
   ·rw[aE (cD (by omega))];refine aB.2 ?_;simp only[sel,aX];have e:(d.take i++List.replicate (d.length-i) default).take i=d.take i:=by rw[It (by simp; omega),List.take_take,Nat.min_self]
    rw[aA (by omega),aA (by simp; omega),e,q4,lL (by omega)];exact aB.2 rfl
  ·rw[aO h1,Dl,Lq.2 h2,Cg (by rw[h3]; simp),yI,gU]
structure By (d out:List aC)(k:Nat):Prop where
 lt:out.Pairwise (fun x y=>dD x y<0)
 n64:∀ x,x∈out->qC x.N
 ok:iY out
 len:out.length<=k
 last:0<k->out≠[]/\pl (out.getD (out.length-1) default)=pl (d.getD (k-1) default)
 wt:∀ p,W (wt p out)=W (wt p (d.take k))
theorem Fq{α:Type}[Inhabited α]{l:List α}(h:l≠[]):∃ r x,l=r++[x]/\l.getD (l.length-1) default=x/\r.length=l.length-1:=by refine⟨l.dropLast,l.getLast h,(List.dropLast_concat_getLast h).symm,?_,by simp⟩;have h0:0<l.length:=iZ.2 h;rw[bR (by omega),List.getLast_eq_getElem]
theorem aOY{out:List aC}(h1:out.Pairwise (fun x y=>dD x y<0))(h2:∀ x,x∈out->qC x.N):Can (out.filter nz) where
 lt:=Gl uU h1
 nz:=fun x hx=>by have:=(jR.1 hx).2;unfold nz at this;intro h0;rw[h0]at this;cases this
 n64:=fun x hx=>h2 x (jR.1 hx).1
theorem aKO(p:Pl->Bool):∀ l:List aC,wt p (l.filter nz)=wt p l
 | []=>rfl
 | x::l=>by
  have ih:=aKO p l;by_cases h:x.N=0
  ·rw[Cg (by unfold nz; rw[h]; simp),ih];simp only[wt,h];split <;> omega
  ·rw[Gj (by unfold nz; rw[kE]; exact Bool.eq_false_iff.2 (eG h))];simp only[wt,ih]
theorem aFH{d out:List aC}{k:Nat}(hk:k<d.length)(hs:Srt d)(ho:iY d)(hN:okN d)(h:By d out k):
  (0<k->pl (out.getD (out.length-1) default)=pl (d.getD k default)->By d (out.set (out.length-1) ⟨(out.getD (out.length-1) default).Time,(out.getD (out.length-1) default).Row,W ((out.getD (out.length-1) default).N+(d.getD k default).N)⟩) (k+1)) /\
  ((k=0\/pl (out.getD (out.length-1) default)≠pl (d.getD k default))->By d (out++[⟨(d.getD k default).Time,(d.getD k default).Row,(d.getD k default).N⟩]) (k+1)):=by
 have hmem:=aT hk;constructor
 ·intro h0 he;obtain⟨hne,hl⟩:=h.last h0;obtain⟨r,x,e1,e2,e3⟩:=Fq hne;rw[e2]at he hl ⊢;have hset:out.set (out.length-1) ⟨x.Time,x.Row,W (x.N+(d.getD k default).N)⟩=r++[⟨x.Time,x.Row,W (x.N+(d.getD k default).N)⟩]:=by rw[<-e3,e1];simp
  have e4:pl (⟨x.Time,x.Row,W (x.N+(d.getD k default).N)⟩:aC)=pl x:=rfl;have hp:=h.lt;rw[e1]at hp;obtain⟨p1,_,p3⟩:=yC.1 hp;rw[hset];have hlen:=h.len;have hrl:r.length+1=out.length:=by rw[e1]; simp
  refine⟨yC.2 ⟨p1,qZ _ _,fun a ha b hb=>?_⟩,fun y hy=>?_,fun y hy=>?_,by simp; omega,fun _=>⟨by simp,?_⟩,fun p=>?_⟩
  ·rw[bW.1 hb,lS (x':=a) (y':=x) rfl e4];exact p3 a ha x (bW.2 rfl)
  ·rcases dA.1 hy with hy | hy
   ·exact h.n64 y (by rw[e1]; exact tU _ hy)
   ·rw[bW.1 hy]; exact aDQ _
  ·rcases dA.1 hy with hy | hy
   ·exact h.ok y (by rw[e1]; exact tU _ hy)
   ·rw[bW.1 hy]; exact h.ok x (by rw[e1]; simp)
  ·rw[bI,aE (by simp)];simp only[bU,eI,Nat.add_sub_cancel,qQ];exact e4.trans he
  ·have hw:=h.wt p;rw[e1,gQ]at hw;rw[gQ,aO hk,gQ];have hw':W (wt p r+wt p [x]+wt p [d.getD k default])=W (wt p (d.take k)+wt p [d.getD k default]):=iH hw rfl;rw[<-hw'];simp only[wt,e4,he];split
   ·have:=iH (a:=wt p r) (c:=wt p r) (b:=W (x.N+(d.getD k default).N)) (d:=x.N+(d.getD k default).N) rfl (W_W _);rw[Int.add_zero,this]
    congr 1; omega
   ·congr 1; omega
 ·intro hc;have hgt:∀ a,a∈out->dD a (d.getD k default)<0:=by
   intro a ha;have hk0:0<k:=by refine Nat.pos_of_ne_zero fun h0=>?_;have:=h.len;have:out=[]:=rN (by omega);rw[this]at ha; cases ha
   obtain⟨hne,hl⟩:=h.last hk0;have hc':=hc.resolve_left (by omega);obtain⟨r,x,e1,e2,e3⟩:=Fq hne;rw[e2]at hl hc';have hx:dD x (d.getD k default)<0:=by
    have hle:=hs.get (i:=k-1) (j:=k) (by omega) hk;have h1:¬ dD (d.getD k default) x<0:=by rw[lS (x':=d.getD k default) (y':=d.getD (k-1) default) rfl hl];exact Vs hle
    have h2:dD x (d.getD k default)≠0:=fun h0=>hc' (iS.1 h0);have h3:¬ 0<dD x (d.getD k default):=fun h0=>h1 (wH.1 h0);omega
   rw[e1]at ha;rcases dA.1 ha with ha | ha
   ·have hp:=h.lt;rw[e1]at hp;exact TO.place.tr (pl a) (pl x) (pl _) ((yC.1 hp).2.2 a ha x (bW.2 rfl)) hx
   ·rw[bW.1 ha]; exact hx
  have hlen:=h.len;refine⟨yC.2 ⟨h.lt,qZ _ _,fun a ha b hb=>?_⟩,fun y hy=>?_,fun y hy=>?_,by simp; omega,fun _=>⟨by simp,?_⟩,fun p=>?_⟩
  ·rw[bW.1 hb]; exact hgt a ha
  ·rcases dA.1 hy with hy | hy
   ·exact h.n64 y hy
   ·rw[bW.1 hy]; exact hN _ hmem
  ·rcases dA.1 hy with hy | hy
   ·exact h.ok y hy
   ·rw[bW.1 hy]; exact ho _ hmem
  ·rw[bI,aE (by simp)];simp only[bU,eI,Nat.add_sub_cancel,qQ];rfl
  ·rw[gQ,aO hk,gQ];exact iH (h.wt p) rfl
theorem aFO(l d:List aC)(hd:d.Perm l)(hs:Srt d)(ho:iY l)(hN:okN l)(hn:l.length<=1000000000000):
  Sp (cO (fun s=>(Gp d s).den) (([]:List aC),d,0)) (sel (fun r=>By d r d.length) (fun _=>False)):=by
 have ho':iY d:=fun x hx=>ho x (hd.mem_iff.1 hx);have hN':okN d:=fun x hx=>hN x (hd.mem_iff.1 hx);have hlen:=hd.length_eq;refine dV (fun s:List aC×List aC×Int=>s.2.2) d.length (by omega) (fun s=>s.2.1=d/\By d s.1 s.2.2.toNat) (fun s k hI hk hkN=>?_) ⟨rfl,⟨List.Pairwise.nil,(fun x h=>by simp at h),(fun x h=>by simp at h),eE _,fun h=>absurd h (Nat.lt_irrefl 0),fun p=>rfl⟩⟩ rfl;obtain⟨out,v,i⟩:=s;obtain⟨h1,h2⟩:=hI;simp only at hk h1 h2;subst hk h1;rw[aX]at h2;unfold Gp;simp only[Tr.den,aX];by_cases hcnt:k<v.length
 ·obtain⟨q1,q2⟩:=aFH hcnt hs ho' hN' h2;have hol:=h2.len;have hmem:=aT hcnt;rw[aA (bV (by omega)),aA (by omega),aA hcnt];have fin:∀ o:List aC,By v o (k+1)->Sp (some (Sum.inl (o,v,IntKind.i64.wrap ((k:Int)+1))):Option ((List aC×List aC×Int)⊕(List aC⊕List aC)))
    (sel (fun s':List aC×List aC×Int=>s'.2.2=IntKind.i64.wrap ((k:Int)+1)/\k<v.length/\s'.2.1=v/\By v s'.1 s'.2.2.toNat) (sel (fun r=>By v r v.length) (fun _:List aC=>False))):=by
   intro o ho;refine aB.2 ⟨rfl,hcnt,rfl,?_⟩;simp only;rw[show (IntKind.i64.wrap ((k:Int)+1)).toNat=k+1 by rw[aP (by omega),aX]];exact ho
  have app:(k=0\/pl (out.getD (out.length-1) default)≠pl (v.getD k default)) ->
    Sp (((Su (v.getD k default).Row).bind fun r13=>if (out.length+([(⟨(v.getD k default).Time,r13,(v.getD k default).N⟩:aC)]:List aC).length)*40<=140737488355328 then some (out++[⟨(v.getD k default).Time,r13,(v.getD k default).N⟩],v) else none).bind fun r=>some (Sum.inl (r.1,r.2,IntKind.i64.wrap ((k:Int)+1))):Option ((List aC×List aC×Int)⊕(List aC⊕List aC)))
     (sel (fun s':List aC×List aC×Int=>s'.2.2=IntKind.i64.wrap ((k:Int)+1)/\k<v.length/\s'.2.1=v/\By v s'.1 s'.2.2.toNat) (sel (fun r=>By v r v.length) (fun _:List aC=>False))):=by
   intro hc;rw[aCQ _ (by have:=ho' _ hmem; unfold okR at this; omega)];simp only[aK,eI];rw[aA (by omega)];exact fin _ (q2 hc)
  by_cases hk0:k=0
  ·have hout:out=[]:=rN (by omega);rw[aE (cD (by rw[hout]; simp))];simp only[aK,dS,dQ];exact app (.inl hk0)
  ·obtain⟨hne,hl⟩:=h2.last (by omega);have hpos:=iZ.2 hne;have e1:IntKind.i64.wrap ((out.length:Int)-1)=((out.length-1:Nat):Int):=by have:=dZ (n:=out.length) (m:=1) (by omega) (by omega);simpa using this
   rw[e1];simp only[aX];rw[aA (bV (by omega)),aA (by omega),aA (by omega),sM _ _ (h2.ok _ (aT (by omega))) (ho' _ hmem)];simp only[aK];by_cases he:pl (out.getD (out.length-1) default)=pl (v.getD k default)
   ·rw[aA (fL (iS.2 he)),aA (by omega),aA (by omega),aA (by omega),aA (by omega)];rw[aA (by simp; omega)];simp only[aK];exact fin _ (q1 (by omega) he)
   ·rw[aE (eG fun h0=>he (iS.1 h0))];exact app (.inr he)
 ·rw[aE (cD (by omega))];refine aB.2 ?_;have:k=v.length:=by omega
  subst this;exact h2
theorem rY(l:List aC)(ho:iY l)(hN:okN l)(hn:l.length<=1000000000000):aQD l=some (PL.cons l):=by
 refine Sp.eq ?_;unfold aQD aQL;simp only[Tr.den];rw[Ya l hn];simp only[aK];refine Sq.bind _ (aBH l ho (by omega)) (fun d hd=>?_);refine Sq.bind _ (aFO l d hd.1 hd.2 ho hN hn) (fun z hz=>?_);cases z with
 | inr z=>exact hz.elim
 | inl z=>have hz':By d z d.length:=hz;have h1:=hz'.len;have h2:=hd.1.length_eq;simp only[sel];refine Sq.bind _ (aAW z (by omega)) (fun r hr=>?_);subst hr;refine aB.2 (Sc (aOY hz'.lt hz'.n64) hN fun p=>?_).symm;rw[aKO,hz'.wt p,dL,Rx p hd.1]
theorem aBA(row:List aF)(cols:List Int)(hc:xY cols row)(hl:cols.length<=1000):Vx row cols=some (cols.map fun c=>row.getD c.toNat default):=by
 have w:IntKind.i64.wrap ((cols.length:Int)+2)=((cols.length+2:Nat):Int):=bT (by omega) (by omega);unfold Vx aIU;simp only[Tr.den];rw[w,aX,aA (by omega)];have h1:=bG (bd:=fun s=>(pX row cols s).den) (fun k=>((cols.take k).map fun c=>row.getD c.toNat default,(k:Int))) cols.length (r:=.inl (cols.map fun c=>row.getD c.toNat default)) (fun k hk=>?_) ?_
 ·refine(congrArg (fun x=>Option.bind x _) h1).trans ?_;rfl
 ·unfold pX;simp only[Tr.den,aX];have h2:=hc _ (aT hk);rw[aA (bV (by omega)),aA (by omega),aA h2,aA (by simp; omega),aP (by omega),aO hk,oM];rfl
 ·unfold pX;simp only[Tr.den];rw[aE (cD (by omega)),dL]
theorem Lh{i:Int}{row:List aF}(hv:Dm row)(hc:xY (iF n i) row)(hl:(iF n i).length<=1000):(Vx row (iF n i)).bind aHO=some (Lp n i row):=by rw[aBA row _ hc hl,aK,Px _ (fun v hv'=>by obtain⟨c,_,rfl⟩:=dG.1 hv';exact hv.get _) (by rw[bY]; exact hl)];rfl
theorem Ur(n:aI)(l:List aC)(hk:okI n 1 l)(hc:(iF n 1).length<=1000)(hn:l.length<=1000000000000):Om l n.Key2=some (cQ n 1 l):=by
 unfold Om Pg;simp only[Tr.den];have h1:=bG (bd:=fun s=>(sS l n.Key2 s).den) (fun k=>(cQ n 1 (l.take k),(k:Int))) l.length (r:=.inl (cQ n 1 l)) (fun k hk'=>?_) ?_
 ·refine(congrArg (fun x=>Option.bind x _) h1).trans ?_;rfl
 ·unfold sS;simp only[Tr.den,aX];have hm:=aT hk';have hkey:=Lh (n:=n) (i:=1) (hk.v _ hm) (hk.c _ hm) hc;rw[aA (bV (by omega)),aA (by omega),<-Option.bind_assoc,show n.Key2=iF n 1 from rfl];refine(congrArg (fun x=>Option.bind x _) hkey).trans ?_;simp only[aK];have h2:=kS n 1 (Lp n 1 (l.getD k default).Row) (l.take k);simp only[cG]at h2;rw[aA (by rw[uH]; simp only[dO,eS]; omega),aP (by omega)]
  congr 3
  unfold cQ;rw[aO hk',List.foldl_append];rfl
 ·unfold sS;simp only[Tr.den];rw[aE (cD (by omega)),dL]
theorem aJO(a b:aC)(t n:Int)(ha:a.Row.length<=1000)(hb:b.Row.length<=1000):aLH a b t n=some (mZ a b t n):=by unfold aLH aQR;simp only[Tr.den];rw[aDW [a.Row,b.Row] (by simp; omega) (by simp)];simp[mZ]
theorem aGE(a b:aC):iK 0 a b=mZ a b (if b.Time>a.Time then b.Time else a.Time) (W (a.N*b.N)):=by unfold iK;rw[aE (by decide)]
theorem Ov{p:Nat}(hp:p<l.length)(a b:Int):fV (l.take (p+1)) a b=fV (l.take p) a b++(if (decide (a<=(l.getD p default).Time)&&decide ((l.getD p default).Time<=b))=true then [l.getD p default] else []):=by unfold fV;rw[aO hp,Dl,uP,yI]
theorem aGI(hN:Ph n)(h6:n.Op=6)(hB:okB n)(hA:okI n 0 A)(hBB:okI n 1 B)(lA:A.length<=100000)(lB:B.length<=100000):aLS n A B=some (xD n A B):=by
 have hb:=hB.b;have ha:=hB.a;have tA:=hA.tm;have tB:=hBB.tm;have wA:=hA.w;have wB:=hBB.w;have len0:∀ l,(l:List aC).length<=100000->(l.flatMap fun a=>wL n (ofK n 1 (kd n 0 a) B) a).length<=100000*100001:=fun l hl=>
  iQ (yN (c:=100001) (fun a=>iQ (Km _ _ _) (by have:=kS n 1 (kd n 0 a) B; omega)) l) (Nat.mul_le_mul hl (eE _))
 unfold aLS aNT;simp only[Tr.den];rw[Ur n B hBB (hN.cols 1) (by omega)];simp only[aK];have h1:=bG (bd:=fun z=>(Ak n A (cQ n 1 B) z).den) (fun q=>((A.take q).flatMap fun a=>wL n (ofK n 1 (kd n 0 a) B) a,(q:Int))) A.length (r:=.inl (xD n A B)) (fun q hq=>?_) ?_
 ·refine(congrArg (fun x=>Option.bind x _) h1).trans ?_;rfl
 ·have hm:=aT hq;have tq:=tA.get q;have hl0:=len0 (A.take q) (by rw[cG]; omega);have hkey:=Lh (n:=n) (i:=0) (hA.v _ hm) (hA.c _ hm) (hN.cols 0);unfold Ak;simp only[Tr.den,aX];rw[aA (bV (by omega)),aA (by omega),<-Option.bind_assoc,show n.Key=iF n 0 from rfl];refine(congrArg (fun x=>Option.bind x _) hkey).trans ?_;simp only[aK];have hmo:=uH n 1 (Lp n 0 (A.getD q default).Row) B;have hcl:=kS n 1 (kd n 0 (A.getD q default)) B;have tc:kP (ofK n 1 (kd n 0 (A.getD q default)) B):=fun d hd=>tB d (jR.1 hd).1;have wc':okW (ofK n 1 (kd n 0 (A.getD q default)) B):=fun d hd=>wB d (jR.1 hd).1;have hrow:wL n (ofK n 1 (kd n 0 (A.getD q default)) B) (A.getD q default)=qN n 0 (ofK n 1 (kd n 0 (A.getD q default)) B) (A.getD q default):=by unfold wL; rw[aA h6]
  rw[aO hq,Bt,nK,hrow];generalize (A.take q).flatMap (fun a=>wL n (ofK n 1 (kd n 0 a) B) a)=out at *
  change _=ofK n 1 (kd n 0 (A.getD q default)) B at hmo;generalize ofK n 1 (kd n 0 (A.getD q default)) B=c at *
  have w1:IntKind.i64.wrap ((A.getD q default).Time-n.Before)=(A.getD q default).Time-n.Before:=bT (by omega) (by omega);have w2:IntKind.i64.wrap ((A.getD q default).Time+n.After)=(A.getD q default).Time+n.After:=bT (by omega) (by omega);have e0:qN n 0 c (A.getD q default)=(fV c ((A.getD q default).Time-n.Before) ((A.getD q default).Time+n.After)).map (iK 0 (A.getD q default)):=by unfold qN;rw[aE (by decide),aE (by decide)]
  rw[e0];have inner:cO (fun z=>(wP n A (cQ n 1 B) (q:Int) c (c.length:Int) z).den) (out,0)=some (.inl (out++(fV c ((A.getD q default).Time-n.Before) ((A.getD q default).Time+n.After)).map (iK 0 (A.getD q default)))):=by
   have h2:=bG (bd:=fun z=>(wP n A (cQ n 1 B) (q:Int) c (c.length:Int) z).den) (fun p=>(out++(fV (c.take p) ((A.getD q default).Time-n.Before) ((A.getD q default).Time+n.After)).map (iK 0 (A.getD q default)),(p:Int))) c.length (r:=.inl (out++(fV c ((A.getD q default).Time-n.Before) ((A.getD q default).Time+n.After)).map (iK 0 (A.getD q default)))) (fun p hp=>?_) ?_
   ·rw[<-h2]; simp[fV]
   ·have tp:=tc.get p;have f1:=Ez (c.take p) ((A.getD q default).Time-n.Before) ((A.getD q default).Time+n.After);rw[cG]at f1;unfold wP;simp only[Tr.den,aX];rw[aA (bV (by omega)),aA (by omega)];simp only[w1,w2];rw[Ov hp,oM,<-dC,aP (by omega)];have f2:(out++(fV (c.take p) ((A.getD q default).Time-n.Before) ((A.getD q default).Time+n.After)).map (iK 0 (A.getD q default))).length<=100000*100001+100000:=by rw[bU,bY]; omega
    generalize out++(fV (c.take p) ((A.getD q default).Time-n.Before) ((A.getD q default).Time+n.After)).map (iK 0 (A.getD q default))=o at *
    by_cases c1:(A.getD q default).Time-n.Before<=(c.getD p default).Time
    ·rw[aA (bV c1)];simp only[aK];by_cases c2:(c.getD p default).Time<=(A.getD q default).Time+n.After
     ·rw[bV c1,bV c2];simp only[gK,Bool.and_self];rw[aJO _ _ _ _ (wA.get q) (wc'.get p)];simp only[aK,eI];rw[aA (by omega)];simp only[aK,gH,xB];rw[aGE]
     ·rw[bV c1,gN c2];simp only[Bool.and_false,dS,dQ,aK,xB,gU]
    ·rw[aE (cD c1)];simp only[aK];rw[gN c1];simp only[Bool.false_and,dS,dQ,aK,xB,gU]
   ·unfold wP;simp only[Tr.den];rw[aE (cD (by omega)),dL]
  generalize bC (cQ n 1 B) (Lp n 0 (A.getD q default).Row)=o at *
  cases o with
  | none=>simp only[Option.getD_none]at hmo;subst hmo;refine(congrArg (fun x=>Option.bind x _) inner).trans ?_;simp only[aK,sel];rw[aP (by omega)]
  | some o=>simp only[tP]at hmo;subst hmo;refine(congrArg (fun x=>Option.bind x _) inner).trans ?_;simp only[aK,sel];rw[aP (by omega)]
 ·unfold Ak;simp only[Tr.den];rw[aE (cD (by omega)),dL];rfl
noncomputable def Ch (n:aI)(l:List aC):List aC:=(Br l n).getD []
abbrev DS (l:List aC):Prop:=l.Pairwise (fun x y=>dD x y<0)
theorem So(hD:DS l)(ho:St.okTs n l)(hl:l.length<=1000000):Br l n=some (Ch n l)/\(Ch n l).Perm l/\St.Srt n (Ch n l):=by obtain⟨d,h1,h2⟩:=(St.G63s1_sp n l hD ho (by omega)).get;unfold Ch;rw[h1];exact⟨rfl,h2⟩
theorem aHK{x y:aC}(h1:St.ltL n x y=false)(h2:St.ltL n y x=false):pl x=pl y:=by have h1:=gP h1;have h2:=gP h2;have s:=St.TO.key.sw (St.kT n y) (St.kT n x);have:=(St.TO.key.eq (St.kT n x) (St.kT n y)).1 (by omega);exact congrArg Prod.snd this
theorem aDS{d:List aC}(hD:DS l)(hp:d.Perm l)(hs:St.Srt n d){e:List aC}(hp':e.Perm l)(hs':St.Srt n e):d=e:=by
 have inj:∀ x,x∈l->∀ y,y∈l->pl x=pl y->x=y:=by
  intro x hx y hy h;obtain⟨i,hi,rfl⟩:=Ea.1 hx;obtain⟨j,hj,rfl⟩:=Ea.1 hy;rcases Nat.lt_trichotomy i j with h1 | h1 | h1
  ·exact absurd h (wJ (xM.1 hD i j hi hj h1))
  ·subst h1; rfl
  ·exact absurd h.symm (wJ (xM.1 hD j i hj hi h1))
 refine List.Perm.eq_of_pairwise (le:=fun x y=>St.ltL n y x=false) (fun a b ha hb h1 h2=>inj a (hp.mem_iff.1 ha) b (hp'.mem_iff.1 hb) (aHK h2 h1)) hs hs' (hp.trans hp'.symm)
theorem Wf(h:l.Perm r)(hn:okN l):cons l=cons r:=by have hn':okN r:=fun x hx=>hn x (h.mem_iff.2 hx);exact(gJ hn).ext (gJ hn') ((eU l).trans ((jV.of_perm h).trans (eU r).symm))
theorem Ln(hn:Lo n)(ks:List ByteArray)(l:List aC):okD (kR n ks l):=⟨fun x hx=>by
  obtain⟨k,hk,hx⟩:=uO.1 hx;obtain⟨w,hw,rfl⟩:=dG.1 hx;have:=hn.key;have:=hn.aggs;unfold okR Ki;simp only[bU,Kg,bY,eI]; omega,fun x hx=>by
  obtain⟨k,hk,hx⟩:=uO.1 hx;obtain⟨w,hw,rfl⟩:=dG.1 hx;exact⟨by show -9223372036854775808<=(1:Int); decide,by show (1:Int)<=9223372036854775807; decide⟩⟩
theorem Ko{n:aI}(hn:Lo n){l:List aC}(ht:kP l)(hl:l.length<=1000):∀ ks:List ByteArray,(kR n ks l).length<=ks.length*10000000
 | []=>by simp[kR]
 | k::ks=>by have h1:=uS hn (l:=ofK n 0 k l) (fun d hd=>ht d (tE.1 hd).1) (by have:=kS n 0 k l; omega);have h2:=Ko hn ht hl ks;unfold kR at h2 ⊢;rw[oR,bU,bY,dO]; omega
theorem aKQ(n:aI)(hl:l.length<=1000):(eW (bF (cQ n 0 l))).length<=1000:=by have:=lW n 0 l;rw[lH]; unfold bF; rw[bY]; omega
theorem Zw(h4:n.Op=4)(hn:Lo n)(h:okI n 0 l)(ha:Ju n l)(hl:l.length<=1000)(r:List (List aC)):mK fs n (l::r)=some (cons (kR n (eW (bF (cQ n 0 l))) l)):=by have z0:(l::r).getD (0:Int).toNat default=l:=rfl;have hd:=Ln hn (eW (bF (cQ n 0 l))) l;have h1:=Ko hn h.t hl (eW (bF (cQ n 0 l)));have h2:=aKQ n hl;unfold mK Jh;simp only[Tr.den,z0];rw[aE (eG (by omega)),aE (eG (by omega)),aE (eG (by omega)),aA (fL h4),aA (by simp),aDN hn h ha hl];simp only[aK];rw[rY _ hd.r hd.n (by omega)]; rfl
theorem aAC{S:List aC->List aC}{ks:List ByteArray}(hN:∀ d,d∈l->0<=d.N)(hk:0<=n.Keep)(hS:∀ r,r.Sublist l->(S r).Perm r):∀ x,x∈qW n S ks l->(∃ d,d∈l/\x.Row=d.Row)/\0<=x.N/\x.N<=n.Keep:=fun x hx=>by
 obtain⟨k,hk',hx⟩:=uO.1 hx;obtain⟨b,hb,hx⟩:=uO.1 hx;have hsub:(inB n.Size n.Size b (ofK n 0 k l)).Sublist l:=List.Sublist.trans uU uU;have hp:=hS _ hsub;have:∀ (tm left:Int) (r:List aC),(∀ d,d∈r->0<=d.N)->0<=left->∀ x,x∈tH tm left r->(∃ d,d∈r/\x.Row=d.Row)/\0<=x.N/\x.N<=left:=by
  intro tm left r
  induction r generalizing left with
  | nil=>intro _ _ x hx; cases hx
  | cons d r ih=>
   intro hr hl x hx;have hm:0<=mN left d.N/\mN left d.N<=left:=by unfold mN; have:=hr d cH; split <;> omega
   rw[tH]at hx;rcases aS.1 hx with rfl | hx
   ·exact⟨⟨d,cH,rfl⟩,hm⟩
   ·obtain⟨⟨e,he,h1⟩,h2,h3⟩:=ih (left-mN left d.N) (fun d hd=>hr d (cI _ hd)) (by omega) x hx;exact⟨⟨e,cI _ he,h1⟩,h2,by omega⟩
 obtain⟨⟨d,hd,h1⟩,h2⟩:=this _ _ _ (fun d hd=>hN d (hsub.subset (hp.mem_iff.1 hd))) hk x hx;exact⟨⟨d,hsub.subset (hp.mem_iff.1 hd),h1⟩,h2⟩
theorem Kr{n:aI}(hn:aEM n){S:List aC->List aC}{l:List aC}(ht:kP l)(hl:l.length<=1000)(hS:∀ r,r.Sublist l->(S r).Perm r):∀ ks:List ByteArray,(qW n S ks l).length<=ks.length*1000000
 | []=>by simp[qW,Lx]
 | k::ks=>by
  have hz:=hn.size;have h0:=kS n 0 k l;have hwb:(kD n.Size n.Size (ofK n 0 k l)).length<=1000:=by have:=nZ (len:=n.Size) (step:=n.Size) (c:=1) (show 0<n.Size by omega) (by omega) (l:=ofK n 0 k l) (fun d hd=>ht d (tE.1 hd).1);omega
  have hF:∀ r:List Int,(r.flatMap fun b=>Iv n S b (inB n.Size n.Size b (ofK n 0 k l))).length<=r.length*1000:=fun r=>by
   induction r with
   | nil=>simp
   | cons b r ih=>have:=(hS (inB n.Size n.Size b (ofK n 0 k l)) (List.Sublist.trans uU uU)).length_eq;have h3:=oT n.Size n.Size b (ofK n 0 k l);unfold Iv at ih ⊢;rw[oR,bU,vC,dO]; omega
  have h1:=hF (kD n.Size n.Size (ofK n 0 k l));have h2:=Kr hn ht hl hS ks;unfold qW Lx at h2 ⊢;rw[oR,bU,dO]; omega
theorem aFD(hc:DS l)(ho:St.okTs n l)(hl:l.length<=1000):∀ r,r.Sublist l->Br r n=some (Ch n r)/\(Ch n r).Perm r:=fun r hr=>by have:=So (n:=n) (l:=r) (Gl hr hc) (fun x hx=>ho x (hr.subset hx)) (by have:=hr.length_le; omega);exact⟨this.1,this.2.1⟩
theorem aOW(h5:n.Op=5)(hn:aEM n)(h:okI n 0 l)(hN:∀ d,d∈l->0<=d.N/\d.N<=1000)(hc:DS l)(ho:St.okTs n l)(hl:l.length<=1000)(r:List (List aC)):
  mK fs n (l::r)=some (cons (qW n (Ch n) (eW (bF (cQ n 0 l))) l)):=by
 have z0:(l::r).getD (0:Int).toNat default=l:=rfl;have hS:=aFD hc ho hl;have hS2:∀ r,r.Sublist l->(Ch n r).Perm r:=fun r hr=>(hS r hr).2;have hkp:=hn.keep;have hm:=aAC (n:=n) (S:=Ch n) (ks:=eW (bF (cQ n 0 l))) (fun d hd=>(hN d hd).1) (by omega) hS2;have h1:=Kr hn h.t hl hS2 (eW (bF (cQ n 0 l)));have h2:=aKQ n hl;unfold mK Jh;simp only[Tr.den,z0];rw[aE (eG (by omega)),aE (eG (by omega)),aE (eG (by omega)),aE (eG (by omega)),aA (fL h5),aA (by simp),aFV hn h hN hl hS];simp only[aK];rw[rY _ (fun x hx=>by
  obtain⟨⟨d,hd,e⟩,_⟩:=hm x hx;have:=h.r d hd;unfold okR; rw[e]; omega) (fun x hx=>by
  have:=(hm x hx).2;exact⟨by omega,by omega⟩) (by omega)]; rfl
def sR(a b:Int):List aF:=[vI a,vI b]
def sL:List aC:=[⟨3,sR 7 5,1⟩,⟨8,sR 7 6,1⟩,⟨12,sR 7 1,1⟩]
def sAg:List iX:=[⟨0,0,⟨#[110]⟩⟩,⟨1,1,⟨#[115]⟩⟩]
def sA:aI:=⟨4,[],⟨#[]⟩,0,[],0,10,0,[0],[],0,0,0,sAg,[],[]⟩
def sB:aI:=⟨4,[],⟨#[]⟩,0,[],2,100,5,[0],[],0,0,0,sAg,[],[]⟩
def sC:aI:=⟨5,[],⟨#[]⟩,0,[],0,10,1,[],[],0,0,1,[],[],[]⟩
theorem aKW{x:Int}(h:qC x):okV (vI x):=⟨⟨by show -9223372036854775808<=(0:Int); decide,by show (0:Int)<=9223372036854775807; decide⟩,h,Nat.zero_le _⟩
theorem aSU{a b:Int}(ha:qC a)(hb:qC b):Dm (sR a b):=fun v hv=>by
 rcases aS.1 hv with rfl | hv
 ·exact aKW ha
 ·rw[bW.1 hv]; exact aKW hb
theorem qU(h:d∈sL):d=⟨3,sR 7 5,1⟩\/d=⟨8,sR 7 6,1⟩\/d=⟨12,sR 7 1,1⟩:=by unfold sL at h;simpa using h
theorem aBU(n:aI)(hk:∀ c,c∈iF n 0->0<=c/\c<2)(hl:∀ d,d∈l->d∈sL):okI n 0 l:=by
 refine⟨fun d hd=>?_,fun d hd=>?_,fun d hd=>?_,fun d hd=>?_,fun d hd=>?_⟩ <;> rcases qU (hl d hd) with rfl | rfl | rfl
 all_goals first
  | exact aSU ⟨by decide,by decide⟩ ⟨by decide,by decide⟩
  | exact fun c hc=>hk c hc
  | (simp only[sR,dO,eS]; omega)
  | exact⟨by decide,by decide⟩
theorem aRL(h:n.Key=[0]):∀ c,c∈iF n 0->0<=c/\c<2:=by intro c hc;have h1:iF n 0=[0]:=h;rw[h1,bW]at hc;subst hc; decide
theorem ks1{k0:ByteArray}(h:∀ d,d∈l->kd n 0 d=k0)(h0:l≠[]):eW (bF (cQ n 0 l))=[k0]/\ofK n 0 k0 l=l:=by
 have e:ofK n 0 k0 l=l:=Lq.2 fun d hd=>bV (h d hd);refine⟨List.perm_singleton.1 ((List.perm_ext_iff_of_nodup ((uF _).nodup_iff.2 ((Wq n 0 l).nodup LO.bytes)) (by simp)).2 fun k=>?_),e⟩;rw[(uF _).mem_iff,uN,bW];constructor
 ·intro hk;obtain⟨d,hd⟩:=List.exists_mem_of_ne_nil _ hk;obtain⟨h1,h2⟩:=tE.1 hd;rw[<-h2]; exact h d h1
 ·rintro rfl;rw[e]; exact h0
theorem xF{len step:Int}{bs:List Int}(h:bF (rQ len step l)=bs):(kD len step l).Perm bs:=by unfold kD; rw[h]; exact oV _
theorem aSW:mK [] sA [sL]=some [⟨9,[vI 7,vI 0,vI 2,vI 11],1⟩,⟨19,[vI 7,vI 10,vI 1,vI 1],1⟩]:=by
 have hn:Lo sA:=⟨by decide,.inl rfl,by decide,by decide⟩;have hI:okI sA 0 sL:=aBU sA (aRL (n:=sA) rfl) fun d hd=>hd;have hag:Ju sA sL:=fun g hg=>by
  rcases aS.1 hg with rfl | hg
  ·exact .inl rfl
  ·rw[bW.1 hg];exact .inr fun d hd=>by rcases qU hd with rfl | rfl | rfl <;> exact⟨by decide,by decide⟩
 rw[Zw rfl hn hI hag (by decide)];obtain⟨e1,e2⟩:=ks1 (n:=sA) (l:=sL) (k0:=kd sA 0 ⟨3,sR 7 5,1⟩) (fun d hd=>by rcases qU hd with rfl | rfl | rfl <;> rfl) (by decide);rw[e1];have hp:=xF (len:=10) (step:=10) (l:=sL) (bs:=[0,10]) (by kernel_rfl);have hw:(kR sA [kd sA 0 ⟨3,sR 7 5,1⟩] sL).Perm (([0,10].map fun b=>(⟨b,b+10,inB 10 10 b sL⟩:aN)).map (Ki sA sL)):=by unfold kR;rw[nK,e2];exact(hp.map _).map _
 rw[Wf hw (Ln hn _ _).n];exact congrArg some (by kernel_rfl)
theorem aTC:mK [] sB [sL]=some [⟨7,[vI 7,vI 3,vI 1,vI 5],1⟩,⟨16,[vI 7,vI 8,vI 2,vI 7],1⟩]:=by
 have hn:Lo sB:=⟨by decide,.inr (.inr ⟨rfl,by decide⟩),by decide,by decide⟩;have hI:okI sB 0 sL:=aBU sB (aRL (n:=sB) rfl) fun d hd=>hd;have hag:Ju sB sL:=fun g hg=>by
  rcases aS.1 hg with rfl | hg
  ·exact .inl rfl
  ·rw[bW.1 hg];exact .inr fun d hd=>by rcases qU hd with rfl | rfl | rfl <;> exact⟨by decide,by decide⟩
 rw[Zw rfl hn hI hag (by decide)];obtain⟨e1,e2⟩:=ks1 (n:=sB) (l:=sL) (k0:=kd sB 0 ⟨3,sR 7 5,1⟩) (fun d hd=>by rcases qU hd with rfl | rfl | rfl <;> rfl) (by decide);rw[e1];have hp:=xF (len:=100) (step:=100) (l:=sL) (bs:=[0]) (by kernel_rfl);have hw:kR sB [kd sB 0 ⟨3,sR 7 5,1⟩] sL=(ses 5 (0+100) (inB 100 100 0 sL)).map (Ki sB sL):=by unfold kR;rw[nK,e2];show (Kt sB sL).map _=_;unfold Kt;rw[show kD sB.Size sB.Size sL=[0] from List.perm_singleton.1 hp,nK];rfl
 rw[hw];exact congrArg some (by kernel_rfl)
theorem aSV:mK [] sC [sL.take 2]=some [⟨9,sR 7 6,1⟩]:=by
 have hn:aEM sC:=⟨by decide,by decide,by decide⟩;have hsub:∀ d,d∈sL.take 2->d∈sL:=fun d hd=>Hu hd;have hI:okI sC 0 (sL.take 2):=aBU sC (fun c hc=>by simp[iF,sC]at hc) hsub;have hD:DS (sL.take 2):=by have:sL.take 2=[⟨3,sR 7 5,1⟩,⟨8,sR 7 6,1⟩]:=rfl;rw[this];exact nN.2 ⟨fun y hy=>by rw[bW.1 hy]; decide,qZ _ _⟩
 have ho:St.okTs sC (sL.take 2):=fun d hd=>by rcases qU (hsub d hd) with rfl | rfl | rfl <;> exact⟨by decide,by decide⟩
 rw[aOW rfl hn hI (fun d hd=>by rcases qU (hsub d hd) with rfl | rfl | rfl <;> exact⟨by decide,by decide⟩) hD ho (by decide)];obtain⟨e1,e2⟩:=ks1 (n:=sC) (l:=sL.take 2) (k0:=kd sC 0 ⟨3,sR 7 5,1⟩) (fun d hd=>by rcases qU (hsub d hd) with rfl | rfl | rfl <;> rfl) (by decide);rw[e1];have hp:=xF (len:=10) (step:=10) (l:=sL.take 2) (bs:=[0]) (by kernel_rfl);have hs:Ch sC (sL.take 2)=[⟨8,sR 7 6,1⟩,⟨3,sR 7 5,1⟩]:=by obtain⟨_,h2,h3⟩:=So hD ho (by decide);refine aDS hD h2 h3 (List.Perm.swap _ _ _) ?_;exact nN.2 ⟨fun y hy=>by rw[bW.1 hy]; kernel_rfl,qZ _ _⟩
 have hw:qW sC (Ch sC) [kd sC 0 ⟨3,sR 7 5,1⟩] (sL.take 2)=tH 9 1 [⟨8,sR 7 6,1⟩,⟨3,sR 7 5,1⟩]:=by unfold qW Lx;rw[nK,e2,show kD sC.Size sC.Size (sL.take 2)=[0] from List.perm_singleton.1 hp,nK];unfold Iv;rw[show inB sC.Size sC.Size 0 (sL.take 2)=sL.take 2 from by kernel_rfl,hs];rfl
 rw[hw];exact congrArg some (by kernel_rfl)
theorem aKL:aQU=some true:=by
 have g:∀ a b,aSQ a b=some (sR a b):=fun a b=>rfl;have g1:∀ a b,aCX a b=some (sR a b):=fun a b=>rfl;have hR:∀ a b,(sR a b).length=2:=fun a b=>rfl;unfold aQU aPX;simp only[Tr.den,g,aK];refine(congrArg (fun x=>Option.bind x _) aSW).trans ?_;simp only[aK];refine(congrArg (fun x=>Option.bind x _) aTC).trans ?_;simp only[aK];rw[aA (by decide)];refine(congrArg (fun x=>Option.bind x _) aSV).trans ?_;have s1:Lr [vI 7,vI 0,vI 2,vI 11] (sR 7 0++sR 2 11)=some true:=by rw[vN _ _ (by decide) (by decide)]; kernel_rfl
 have s2:Lr [vI 7,vI 10,vI 1,vI 1] (sR 7 10++sR 1 1)=some true:=by rw[vN _ _ (by decide) (by decide)]; kernel_rfl
 have s3:Lr [vI 7,vI 3,vI 1,vI 5] (sR 7 3++sR 1 5)=some true:=by rw[vN _ _ (by decide) (by decide)]; kernel_rfl
 have s4:Lr [vI 7,vI 8,vI 2,vI 7] (sR 7 8++sR 2 7)=some true:=by rw[vN _ _ (by decide) (by decide)]; kernel_rfl
 have s5:Lr (sR 7 6) (sR 7 6)=some true:=by rw[vN _ _ (by decide) (by decide)]; kernel_rfl
 simp[g1,s1,s2,s3,s4,s5,hR]
structure NIn (ts:List Int)(A:List aC):Prop where
 can:Can A
 len:A.length<=200
 v:∀ d,d∈A->Dm d.Row
 t:kP A
 row:∀ d,d∈A->d.Row.length=ts.length/\TyR ts d.Row
 n:∀ d,d∈A->1<=d.N/\d.N<=1000
theorem aSS(h:∀ d,d∈a->1<=d.N/\d.N<=5)(p:Pl->Bool):0<=wt p a/\wt p a<=5*a.length:=by
 induction a with
 | nil=>exact⟨Int.le_refl _,by simp[wt]⟩
 | cons x a ih=>have h1:=h x cH;have h2:=ih fun d hd=>h d (cI _ hd);simp only[wt,dO];split <;> omega
theorem aJD(h:∀ d,d∈a->1<=d.N/\d.N<=5)(hl:a.length<=200):∀ x,x∈cons a->1<=x.N/\x.N<=1000:=fun x hx=>by
 have hn:okN a:=fun d hd=>by have:=h d hd; exact⟨by omega,by omega⟩
 have hc:=gJ hn;have h1:=eU a (at1 (pl x));rw[hc.wt_mem hx,aAL (hc.n64 x hx)]at h1;have h2:=aSS h (at1 (pl x));rw[aAL ⟨by omega,by omega⟩]at h1;have:=hc.nz x hx;omega
theorem aSZ{v:aF}(h:vU v):okV v:=⟨h.1,h.2.1,by have:v.S.size<=1048576:=h.2.2; omega⟩
theorem wU.nin{m:Nat}(h:wU ts a m)(hm:m<=200)(ho:okL 40 cM a):NIn ts (cons a):=by
 have hl:=h.len;have e:∀ d,d∈PL.cons a->∃ z,z∈a/\d.Time=z.Time/\d.Row=z.Row:=fun d hd=>by obtain⟨z,hz,he⟩:=Kx hd;exact⟨z,hz,congrArg (·.1) he,congrArg (·.2) he⟩
 refine⟨gJ (cM.okd ho).n,by have:=kF a; omega,fun d hd=>?_,fun d hd=>?_,fun d hd=>?_,aJD h.n (by omega)⟩ <;> obtain⟨z,hz,h1,h2⟩:=e d hd
 ·rw[h2]; exact fun v hv=>aSZ ((ho.2 z hz).2.1.2 v hv)
 ·rw[h1]; exact h.t z hz
 ·rw[h2]; exact h.r z hz
theorem NIn.okD{ts:List Int}{A:List aC}(h:NIn ts A)(ht:ts.length<=12):okD A:=⟨fun d hd=>by have:=(h.row d hd).1; unfold okR; omega,h.can.n64⟩
theorem NIn.okI{ts:List Int}{A:List aC}(h:NIn ts A)(ht:ts.length<=12){n:aI}{i:Int}(hk:okC (iF n i) ts.length):okI n i A:=
 ⟨h.v,fun d hd c hc=>by rw[(h.row d hd).1]; exact hk c hc,fun d hd=>by have:=(h.row d hd).1; omega,h.t,h.can.n64⟩
theorem NIn.sm(h:NIn ts A)(hd:d∈A):∀ v,v∈d.Row->Sm v:=fun v hv=>(h.v d hd v hv).s
theorem NIn.nil(ts:List Int):NIn ts []:=⟨.nil,by simp,by simp,by simp[kP],by simp,by simp⟩
theorem evE(hl:okL 104 eO fs)(hf:G82 fs=some true)(h:NIn ts A){e:bL}(he:dK e){t:Int}(ht:pB fs ts [] e=some (t,true))(hd:d∈A):
  Ek fs e d.Time d.Row=some (evV fs e d)/\TyV t (evV fs e d)/\Sm (evV fs e d):=by
 obtain⟨v,h1,h2⟩:=(aFK hl hf he ht d.Time (h.row d hd).1 (h.sm hd)).get;have e:evV fs e d=v:=by unfold evV; rw[h1]; rfl
 rw[e];exact⟨h1,aFU hl hf he ht d.Time (h.row d hd).2 h1,h2⟩
noncomputable def Gk (fs:List bE)(n:aI)(r:Pl):Bool:=((evV fs (n.Exprs.getD 0 default) ⟨r.1,r.2,0⟩).Kind==(vB true).Kind)&&(((evV fs (n.Exprs.getD 0 default) ⟨r.1,r.2,0⟩).N==(vB true).N)&&(((evV fs (n.Exprs.getD 0 default) ⟨r.1,r.2,0⟩).S.toList==(vB true).S.toList)&&true))
theorem aOI(h1:n.Op=1)(hl:okL 104 eO fs)(hf:G82 fs=some true)(he:okL 56 dK n.Exprs)(hx:n.Exprs.length=1/\pB fs ta [] (n.Exprs.getD 0 default)=some (2,true))(hla:ta.length<=12)(h:NIn ta A)(r:List (List aC)):
  mK fs n (A::r)=some (cons (A.filter fun d=>Gk fs n (pl d))):=by
 have z0:(A::r).getD (0:Int).toNat default=A:=rfl;have hal:=h.len;have ho:okD (A.filter fun d=>Gk fs n (pl d)):=(h.okD hla).sub fun x hx=>(jR.1 hx).1;have hfl:=qR (fun d=>Gk fs n (pl d)) A;unfold mK Jh;simp only[Tr.den];rw[aA (fL h1),aA (by simp)];have h2:=bG (bd:=fun s=>(Ar fs n (A::r) s).den) (fun k=>((A.take k).filter fun d=>Gk fs n (pl d),(k:Int))) A.length (r:=.inl (A.filter fun d=>Gk fs n (pl d))) (fun k hk=>?_) ?_
 ·rw[show (([]:List aC),(0:Int))=(fun k:Nat=>((A.take k).filter fun d=>Gk fs n (pl d),(k:Int))) 0 from rfl,h2];simp only[aK,sel];rw[rY _ ho.r ho.n (by omega)]; rfl
 ·have hm:=aT hk;have hv:=(evE hl hf h (okEs.get he (show 0<n.Exprs.length by omega)) hx.2 hm).1;have hf2:=qR (fun d=>Gk fs n (pl d)) (A.take k);rw[cG]at hf2;unfold Ar;simp only[Tr.den,aX];rw[aA (by rw[z0]; exact bV (by omega)),aA (by rw[z0]; omega),aA (by omega),z0,show (0:Int).toNat=0 from rfl,hv];simp only[aK];rw[aIG];simp only[aK];rw[aO hk,Dl,aP (by omega)];have hc:(((evV fs (n.Exprs.getD 0 default) (A.getD k default)).Kind==(vB true).Kind)&&(((evV fs (n.Exprs.getD 0 default) (A.getD k default)).N==(vB true).N)&&(((evV fs (n.Exprs.getD 0 default) (A.getD k default)).S.toList==(vB true).S.toList)&&true)))=Gk fs n (pl (A.getD k default)):=rfl;rw[hc];cases hq:Gk fs n (pl (A.getD k default)) with
  | true=>rw[aA rfl,aA (by simp only[eI]; omega),uP,aA hq,yI];rfl
  | false=>rw[aE (by simp),uP,aE (by rw[hq]; simp),yI,gU];rfl
 ·unfold Ar;simp only[Tr.den];rw[aE (by rw[z0]; exact cD (by omega)),dL]
noncomputable def Mr (fs:List bE)(n:aI)(r:Pl):List aF:=n.Exprs.map fun e=>evV fs e ⟨r.1,r.2,0⟩
noncomputable def Ei (fs:List bE)(n:aI)(d:aC):aC:=⟨d.Time,Mr fs n (pl d),d.N⟩
theorem aDZ(k:Nat)(hk:k<A.length)(v:List aC)(he:n.Exprs.length<=12)(hv:∀ i,i<n.Exprs.length->Ek fs (n.Exprs.getD i default) (A.getD k default).Time (A.getD k default).Row=some (evV fs (n.Exprs.getD i default) (A.getD k default))):
  cO (fun s=>(uX fs n.Exprs A (k:Int) s).den) (v,List.replicate n.Exprs.length (default:aF),0)=some (.inl (v,Mr fs n (pl (A.getD k default)))):=by
 have h2:=bG (bd:=fun s=>(uX fs n.Exprs A (k:Int) s).den) (fun i=>(v,((n.Exprs.take i).map fun e=>evV fs e (A.getD k default))++List.replicate (n.Exprs.length-i) (default:aF),(i:Int))) n.Exprs.length (r:=.inl (v,Mr fs n (pl (A.getD k default)))) (fun i hi=>?_) ?_
 ·rw[<-h2]; simp
 ·have hlen:(((n.Exprs.take i).map fun e=>evV fs e (A.getD k default))++List.replicate (n.Exprs.length-i) (default:aF)).length=n.Exprs.length:=by simp only[bU,bY,cG,List.length_replicate]; omega
  have hl1:((n.Exprs.take i).map fun e=>evV fs e (A.getD k default)).length=i:=by rw[bY,cG]; omega
  unfold uX;simp only[Tr.den,aX];rw[aA (bV (by omega)),aA (by omega),hv i hi];simp only[aK];rw[aA (by omega),aA (by omega),aA (by simp only[List.all_cons,List.all_nil,Bool.and_true]; exact bV (by omega)),aP (by omega)]
  congr 4
  rw[List.set_append,aE (by omega),hl1,qQ,show n.Exprs.length-i=(n.Exprs.length-(i+1))+1 by omega,List.replicate_succ,List.set_cons_zero,aO hi,oM,dC];rfl
 ·unfold uX;simp only[Tr.den];rw[aE (cD (by omega)),dL,qQ];simp[Mr,evV,pl]
theorem aFA(he:n.Exprs.length<=12)(hA:A.length<=1000)(hv:∀ d,d∈A->∀ i,i<n.Exprs.length->Ek fs (n.Exprs.getD i default) d.Time d.Row=some (evV fs (n.Exprs.getD i default) d)):aPO fs n.Exprs A=some (A.map (Ei fs n)):=by
 unfold aPO aLX;simp only[Tr.den];have h2:=bG (bd:=fun s=>(Au fs n.Exprs A s).den) (fun k=>((A.take k).map (Ei fs n),(k:Int))) A.length (r:=.inl (A.map (Ei fs n))) (fun k hk=>?_) ?_
 ·exact(congrArg (fun x=>Option.bind x _) h2).trans rfl
 ·unfold Au;simp only[Tr.den,aX];rw[aA (bV (by omega)),aA (by omega),aA ⟨⟨by omega,by omega⟩,by omega⟩,aDZ k hk _ he (hv _ (aT hk))];simp only[aK,sel];rw[aA (by simp only[bY,cG,eI]; omega),aP (by omega),aO hk,oM];rfl
 ·unfold Au;simp only[Tr.den];rw[aE (cD (by omega)),dL]
theorem aMX(h2:n.Op=2)(hl:okL 104 eO fs)(hf:G82 fs=some true)(he:okL 56 dK n.Exprs)(hx:(1<=n.Exprs.length/\n.Exprs.length<=12)/\∀ i,i<n.Exprs.length->∃ t,pB fs ta [] (n.Exprs.getD i default)=some (t,true))(h:NIn ta A)(r:List (List aC)):
  mK fs n (A::r)=some (cons (A.map (Ei fs n))):=by
 have z0:(A::r).getD (0:Int).toNat default=A:=rfl;have hal:=h.len;have ho:okD (A.map (Ei fs n)):=⟨fun x hx'=>by
  obtain⟨d,hd,rfl⟩:=dG.1 hx';unfold okR Ei Mr;simp only[bY]; omega,fun x hx'=>by
  obtain⟨d,hd,rfl⟩:=dG.1 hx';exact h.can.n64 d hd⟩
 unfold mK Jh;simp only[Tr.den];rw[aE (eG (by omega)),aA (fL h2),aA (by simp),z0,aFA hx.1.2 (by omega) fun d hd i hi=>by obtain⟨t,ht⟩:=hx.2 i hi;exact(evE hl hf h (okEs.get he hi) ht hd).1];simp only[aK];rw[rY _ ho.r ho.n (by rw[bY]; omega)]; rfl
theorem zX(fs:List bE)(n:aI)(p:Pl->Bool):∀ A:List aC,wt p (A.map (Ei fs n))=wt (fun r=>p (r.1,Mr fs n r)) A
 | []=>rfl
 | d::A=>by simp only[gH,wt,zX fs n p A];rfl
theorem aLK(h3:n.Op=3)(hla:ta.length<=12)(h:NIn ta A)(h':NIn ta B):mK fs n [A,B]=some (cons (A++B)):=by have hal:=h.len;have hbl:=h'.len;have ho:=(h.okD hla).app (h'.okD hla);unfold mK Jh;simp only[Tr.den];rw[aE (eG (by omega)),aE (eG (by omega)),aA (fL h3),aA (by simp),aA (by simp)];rw[show ([A,B]:List (List aC)).getD (0:Int).toNat default=A from rfl,show ([A,B]:List (List aC)).getD (1:Int).toNat default=B from rfl,aME [A,B] (by simp; omega) (by simp)];simp only[aK,List.flatten_cons,List.flatten_nil,gU];rw[rY _ ho.r ho.n (by rw[bU]; omega)]; rfl
theorem aQY{tb:List Int}(h6:n.Op=6)(hB:okB n)(hk:n.Key.length<=20/\n.Key2.length<=20)(hla:ta.length<=12)(hlb:tb.length<=12)(hka:okC n.Key ta.length)(hkb:okC n.Key2 tb.length)(h:NIn ta A)(h':NIn tb B):
  mK fs n [A,B]=some (cons (xD n A B)):=by
 have hal:=h.len;have hbl:=h'.len;have iA:okI n 0 A:=h.okI hla hka;have iB:okI n 1 B:=h'.okI hlb hkb;have ho:=Rr iA iB;have hlen:(xD n A B).length<=200*201:=iQ (Ji (c:=200) hbl) (Nat.mul_le_mul hal (eE _));unfold mK Jh;simp only[Tr.den];rw[aE (eG (by omega)),aE (eG (by omega)),aE (eG (by omega)),aE (eG (by omega)),aE (eG (by omega)),aA (fL h6),aA (by simp),aA (by simp)];rw[show ([A,B]:List (List aC)).getD (0:Int).toNat default=A from rfl,show ([A,B]:List (List aC)).getD (1:Int).toNat default=B from rfl,aGI ⟨.inl ⟨h6,hB⟩,by omega,by omega⟩ h6 hB iA iB (by omega) (by omega)];simp only[aK];rw[rY _ ho.r ho.n (by omega)]; rfl
theorem Uo(X:List aC)(ho:iY X)(hl:X.length<=1000000000000):aCC X X=some true:=by
 unfold aCC aMO;simp only[Tr.den];rw[aE (Ml rfl)];have h2:=bG (bd:=fun s=>(Af X X s).den) (fun k=>(k:Int)) X.length (r:=.inl ()) (fun k hk=>?_) ?_
 ·exact(congrArg (fun x=>Option.bind x _) h2).trans rfl
 ·have hd:=ho _ (aT hk);unfold Af;simp only[Tr.den,aX];rw[aA (bV (by omega)),aA (by omega),aA (by omega),Qm _ _ hd hd,(iS (x:=X.getD k default) (y:=X.getD k default)).2 rfl];simp only[aK,bne_self_eq_false,dS,dQ];rw[aA (by omega),aA (by omega)];simp only[aK,dS,dQ];rw[aP (by omega)]
 ·unfold Af;simp only[Tr.den];rw[aE (cD (by omega))]
def cR(n:aI)(B:List aC)(p:Pl->Bool)(q:Pl):Int:=wt p (wL n (ofK n 1 (Lp n 0 q.2) B) ⟨q.1,q.2,1⟩)
theorem aJW(n:aI)(B:List aC)(p:Pl->Bool)(a:aC):W (wt p (wL n (ofK n 1 (kd n 0 a) B) a))=W (a.N*cR n B p (pl a)):=by
 unfold cR wL;by_cases h6:n.Op=6
 ·rw[aA h6,aA h6,aCR]; rfl
 ·rw[aE h6,aE h6,Xo]; rfl
theorem Aq(n:aI)(B:List aC)(p:Pl->Bool):∀ A:List aC,W (wt p (xD n A B))=W (wc (cR n B p) A)
 | []=>rfl
 | a::A=>by rw[show xD n (a::A) B=wL n (ofK n 1 (kd n 0 a) B) a++xD n A B from rfl,gQ];exact iH (aJW n B p a) (Aq n B p A)
theorem aOU(hX:okN X)(hx:okN x)(hy:okN y)(h:∀ p,W (wt p X)=W (wt p x+wt p y)):cons X=cons (cons x++cons y):=by have hn:okN (cons x++cons y):=fun d hd=>(dA.1 hd).elim ((gJ hx).n64 d) ((gJ hy).n64 d);refine(gJ hX).ext (gJ hn) fun p=>?_;rw[eU X p,eU _ p,gQ,h p];exact(iH (eU x p) (eU y p)).symm
theorem Yg(p:Pl->Bool):W (wt p (cons (l++r)))=W (wt p (cons l)+wt p (cons r)):=by rw[eU _ p,gQ];exact(iH (eU l p) (eU r p)).symm
theorem Ld(c:Pl->Int):W (wc c (cons (l++r)))=W (wc c (cons l)+wc c (cons r)):=by rw[Hy,aQO];exact(iH (Hy c l) (Hy c r)).symm
theorem Bi(r2:List (List aC)×Bool)(l:List (List aC))(h:r2.1=l)(hl:l.length<=2):cO (fun s=>(vY r2 s).den) ([],[],0)=some (.inl (l,l)):=by
 subst h;have h2:=bG (bd:=fun s=>(vY r2 s).den) (fun k=>(r2.1.take k,r2.1.take k,(k:Int))) r2.1.length (r:=.inl (r2.1,r2.1)) (fun k hk=>?_) ?_
 ·rw[<-h2]; rfl
 ·unfold vY;simp only[Tr.den,aX];rw[aA (bV (by omega)),aA (by omega),aA (by simp only[cG,eI]; omega),aA (by omega),aA (by simp only[cG,eI]; omega),aP (by omega),aO hk]
 ·unfold vY;simp only[Tr.den];rw[aE (cD (by omega)),dL]
theorem wU.app{c:List aC}{m k:Nat}(h:wU ts a m)(h':wU ts c k):wU ts (a++c) (m+k):=
 ⟨by rw[bU]; have:=h.len; have:=h'.len; omega,fun d hd=>(dA.1 hd).elim (h.t d) (h'.t d),fun d hd=>(dA.1 hd).elim (h.n d) (h'.n d),fun d hd=>(dA.1 hd).elim (h.r d) (h'.r d)⟩
theorem aFF{c:List aC}(h:okL 40 cM a)(h':okL 40 cM c)(hl:a.length+c.length<=1000):okL 40 cM (a++c):=
 ⟨by rw[bU]; omega,fun d hd=>(dA.1 hd).elim (h.2 d) (h'.2 d)⟩
theorem aHX(hX:okD X)(hx:okD x)(hy:okD y)(lx:x.length<=1000000)(ly:y.length<=1000000)(lX:X.length<=1000000)(h:∀ p,W (wt p X)=W (wt p x+wt p y)):(aIS (([]++cons x)++cons y)).bind (fun r=>(aCC (cons X) r).bind fun r=>some r)=some true:=by have l1:=kF x;have l2:=kF y;have l3:=kF X;have ho:=hx.cons.app hy.cons;rw[nL,oS _ ho (by rw[bU]; omega)];simp only[aK];rw[<-aOU hX.n hx.n hy.n h,Uo _ hX.cons.r (by omega)]; rfl
theorem vJ{l1 l2 l3:List (List aC)}(g1:mK fs n l3=some (cons X))(g2:mK fs n l1=some (cons x))(g3:mK fs n l2=some (cons y))(hX:okD X)(hx:okD x)(hy:okD y)(lx:x.length<=1000000)(ly:y.length<=1000000)(lX:X.length<=1000000)(h:∀ p,W (wt p X)=W (wt p x+wt p y)):
  Sp ((mK fs n l1).bind fun r=>(mK fs n l2).bind fun r_1=>(if True then (mK fs n l3).bind fun r_2=>if (([]:List aC).length+r.length)*40<=140737488355328 then if (([]++r).length+r_1.length)*40<=140737488355328 then (aIS ([]++r++r_1)).bind fun r=>(aCC r_2 r).bind fun r=>some r else none else none else some false).bind fun r=>some r) (fun z=>z=true):=by
 have k1:=kF x;have k2:=kF y;rw[g2,g3];simp only[aK,gK];rw[g1];simp only[aK];rw[aA (by simp only[eS]; omega),aA (by simp only[nL]; omega)];exact Sq.of_eq ((congrArg (fun z=>Option.bind z fun v=>some v) (aHX hX hx hy lx ly lX h)).trans rfl) rfl
theorem aCU{tb:List Int}(hla:ta.length<=12)(hlb:tb.length<=12)(hka:okC n.Key ta.length)(hkb:okC n.Key2 tb.length)(h:NIn ta A)(h':NIn tb B):okD (xD n A B)/\(xD n A B).length<=1000000:=by have ho:=Rr (h.okI hla (n:=n) (i:=0) hka) (h'.okI hlb (n:=n) (i:=1) hkb);exact⟨ho,iQ (iQ (Ji (c:=200) h'.len) (Nat.mul_le_mul h.len (eE _))) (by omega)⟩
theorem rX(hla:ta.length<=12)(h:NIn ta A)(q:aC->Bool):okD (A.filter q)/\(A.filter q).length<=1000000:=
 ⟨(h.okD hla).sub fun x hx=>(jR.1 hx).1,by have:=qR q A; have:=h.len; omega⟩
theorem aEO(he:n.Exprs.length<=12)(h:NIn ta A):okD (A.map (Ei fs n))/\(A.map (Ei fs n)).length<=1000000:=
 ⟨⟨fun x hx'=>by
  obtain⟨d,hd,rfl⟩:=dG.1 hx';unfold okR Ei Mr;simp only[bY]; omega,fun x hx'=>by
  obtain⟨d,hd,rfl⟩:=dG.1 hx';exact h.can.n64 d hd⟩,by have:=h.len; rw[bY]; omega⟩
theorem Uj(fs:List bE)(n:aI)(a b c:List aC)(ts:List (List Int))(hl:okL 104 eO fs)(hn:mX n)(ha:okL 40 cM a)(hb:okL 40 cM b)(hc:okL 40 cM c)(ht:okL 24 (okL 8 eR) ts):Wd fs n a b c ts=some true:=by
 unfold Wd aMH;simp only[Tr.den];rw[aKL];simp only[aK];refine Sp.eq ?_;refine Sq.bind _ (aGP fs n a b ts 30 (by omega) hl hn ha hb ht.1 fun t h=>(ht.2 t h).1) fun r2 hr=>?_;refine Sq.bind (fun j:Bool=>j=false->r2.2=true/\(n.Op=1\/n.Op=2\/n.Op=3\/n.Op=6)) ?_ fun j hj=>?_
 ·refine bK (fun _=>aB.2 fun h=>by cases h) fun q=>?_;have q:r2.2=true:=by simpa using q
  refine bK (fun _=>bK (fun _=>bK (fun _=>aB.2 fun h=>⟨q,.inr (.inr (.inr (by simpa using h)))⟩) fun h=>aB.2 fun _=>⟨q,.inr (.inr (.inl (by simpa using h)))⟩) fun h=>aB.2 fun _=>⟨q,.inr (.inl (by simpa using h))⟩) fun h=>aB.2 fun _=>⟨q,.inl (by simpa using h)⟩
 ·cases j with
  | true=>exact aB.2 rfl
  | false=>
   obtain⟨q,hop⟩:=hj rfl;obtain⟨ta,tb,hR,hk20,hF,_,hcase⟩:=hr q;simp only[dS,dQ];have h0:ts.getD 0 default=ta/\1<=ts.length:=by rcases hcase with⟨e,_⟩ | ⟨e,_⟩ <;> subst e <;> exact⟨rfl,by simp⟩
   have hla:=hR.la;have hlb:=hR.lb;rw[aA (by omega),show (0:Int).toNat=0 from rfl,h0.1];refine Sq.bind _ (Gs c ta 30 (by omega) hc (by omega)) fun r4 h4=>?_;cases r4 with
   | false=>exact aB.2 rfl
   | true=>
    have hFc:=h4 rfl;simp only[Bool.not_true,dS,dQ];have hal:=hF.len;have hcl:=hFc.len;have hac:=aFF ha hc (by omega);have NA:=hF.nin (by omega) ha;have NC:=hFc.nin (by omega) hc;have NAC:=(hF.app hFc).nin (by omega) hac;have oac:okD (a++c):=(cM.okd ha).app (cM.okd hc);obtain⟨_,_,_,_,hE,_⟩:=hn;have oc:=cM.okd hc;have e11:([]:List aC)++a++c=a++c:=by simp
    have lhd:(a++c).length<=1000:=by rw[bU]; omega
    rcases hcase with⟨e,hab,hin,hr1⟩ | ⟨e,hin,hFb,hr1⟩
    ·subst hab;have hop12:n.Op=1\/n.Op=2:=by
      unfold nIn at hin;rcases hop with h | h | h | h
      ·exact .inl h
      ·exact .inr h
      ·rw[h]at hin; simp at hin
      ·rw[h]at hin; simp at hin
     rw[Bi r2 _ hr1 (by simp)];simp only[aK,sel];rw[oS c oc (by omega)];simp only[aK];rw[aA (by simp),aA (by simp),aA (by simp),aA (by simp only[eS]; omega),aA (by simp only[nL]; omega),e11,oS _ oac (by omega)];simp only[aK];rw[aA (by simp),aA (by simp),aA (by simp),aE (eG (by omega)),hr1];simp only[aK];have hla':=hla.2;rcases hop12 with h1 | h1
     ·have g:=fun {A:List aC} (h:NIn ta A)=>aOI h1 hl hR.fr hE (hR.f h1) hla' h [];exact vJ (g NAC) (g NA) (g NC) (rX hla' NAC _).1 (rX hla' NA _).1 (rX hla' NC _).1 (rX hla' NA _).2 (rX hla' NC _).2 (rX hla' NAC _).2 fun p=>by rw[yH,yH,yH]; exact Yg _
     ·have hm:=hR.m h1;have g:=fun {A:List aC} (h:NIn ta A)=>aMX h1 hl hR.fr hE hm h [];have o:=fun {A:List aC} (h:NIn ta A)=>aEO (fs:=fs) (n:=n) hm.1.2 h;exact vJ (g NAC) (g NA) (g NC) (o NAC).1 (o NA).1 (o NC).1 (o NA).2 (o NC).2 (o NAC).2 fun p=>by rw[zX,zX,zX]; exact Yg _
    ·have hop36:n.Op=3\/n.Op=6:=by
      unfold nIn at hin;rcases hop with h | h | h | h
      ·rw[h]at hin; simp at hin
      ·rw[h]at hin; simp at hin
      ·exact .inl h
      ·exact .inr h
     have NB:=hFb.nin (by omega) hb;have hla':=hla.2;have hlb':=hlb.2;rw[Bi r2 _ hr1 (by simp)];simp only[aK,sel];rw[oS c oc (by omega)];simp only[aK];rw[aA (by simp),aA (by simp),aA (by simp),aA (by simp only[eS]; omega),aA (by simp only[nL]; omega),e11,oS _ oac (by omega)];simp only[aK];rw[aA (by simp),aA (by simp),aA (by simp),hr1];rcases hop36 with h1 | h1
     ·rw[aA (fL h1),aA (by simp),aA (by simp),aA (by simp)];simp only[aK];have hab:=hR.u h1;subst hab;have g:=fun {A B:List aC} (h:NIn ta A) (h':NIn ta B)=>aLK (fs:=fs) h1 hla' h h';have o:=fun {A B:List aC} (h:NIn ta A) (h':NIn ta B)=>(h.okD hla').app (h'.okD hla');have l:=fun {A B:List aC} (h:NIn ta A) (h':NIn ta B)=>show (A++B).length<=1000000 by have:=h.len; have:=h'.len; rw[bU]; omega
      exact vJ (g NAC NB) (g NA NB) (g NC (.nil ta)) (o NAC NB) (o NA NB) (o NC (.nil ta)) (l NA NB) (l NC (.nil ta)) (l NAC NB) fun p=>by
       rw[gQ,gQ,gU];refine(iH (Yg p) rfl).trans ?_
       congr 1; omega
     ·rw[aE (eG (by omega))];simp only[aK];obtain⟨j1,j2,j3,_⟩:=hR.j (.inl h1);have g:=fun {A:List aC} (h:NIn ta A)=>aQY (fs:=fs) h1 (hR.b.j h1) ⟨hk20,by omega⟩ hla' hlb' j1 j2 h NB;have o:=fun {A:List aC} (h:NIn ta A)=>aCU (n:=n) hla' hlb' j1 j2 h NB;exact vJ (g NAC) (g NA) (g NC) (o NAC).1 (o NA).1 (o NC).1 (o NA).2 (o NC).2 (o NAC).2 fun p=>
       ((Aq n _ p _).trans (Ld _)).trans (iH (Aq n _ p _) (Aq n _ p _)).symm
end Go.PL
namespace Go.Proofs.YtjefblkdnolgaaaGreatDoor
theorem meaningLinear_holds:Rows.MeaningLinearUptoCardSaid:=tX fun f n a b c t h0 h1 h2 h3 h4 h5=>PL.Uj f n a b c t h0 h1 h2 h3 h4 h5
#print axioms meaningLinear_holds
end Go.Proofs.YtjefblkdnolgaaaGreatDoor
