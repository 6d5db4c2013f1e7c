/- ProfileAdds: texts that its proof stands on, part 5. -/
import Derived.Maps.RangeRun
import Derived.Test.YtpjfmjemmphheabGreatDoorX4
open Array renaming getD_eq_getD_getElem?->jc,getElem?_setIfInBounds_ne->qx,getElem?_setIfInBounds_self_of_lt->ot,size->ef,toList->so
open Bool renaming false->aa,true->au
open Go renaming Code->gy,MapEntry->ez,Oper->gg,Program->cq,Value->af,World->dh
open Go.Hx.ExD renaming leaves->px,split->fo
open Go.Hx.FnEx renaming frame->ve,ofE->ip
open Go.Hx.HObj renaming fmap->iq,row->cu,srow->rh
open Go.IntKind renaming i64->ag,wrap->ah
open Go.IntWalk renaming i64_in->cm
open Go.Proofs.PA.Eff renaming nw->oo,st->ue,ws->tc
open Go.Proofs.PA.KX renaming g->kj
open Go.Proofs.PA.OX renaming g->fb,rs->tw
open Go.Proofs.Tryz renaming f17->ol,f34->ll,func17->tx,prog->ad
open Go.Result renaming andThen->qt
open Go.Value renaming agg->bw,bool->al,cells->dx,int->ao,map->jb,slice->cd,tuple->gr
open Int renaming le_refl->pz,toNat->az,toNat_natCast->gn
open List renaming append_nil->fh,drop->dq,drop_eq_getElem_cons->ph,drop_left->qi,getElem?_append_left->dt,getElem?_eq_getElem->fk,getElem?_eq_none->ei,getElem?_eq_some_iff->ik,getElem?_map->iw,length->aw,length_append->cg,length_cons->jy,length_drop->ko,length_map->fa,length_nil->mj,length_singleton->kb,length_take->ir,map->ai,map_append->jr,map_drop->ub,mem_append->eu,mem_cons->ci,mem_map->fi,mem_singleton->fg,not_mem_nil->fe,replicate->fp,take->dr,take_append_drop->gu,take_of_length_le->gc
open Nat renaming add_le_add_right->jx,beq->bx,le_of_ble_eq_true->gt,le_refl->cw,le_succ_of_le->ju,le_trans->ej,lt_or_ge->ey,zero_add->fu,zero_le->li
open Option renaming isSome->ud,isSome_iff_exists->js,none->av,some->ae
open Prod renaming fst->cf,snd->ce
open _root_ renaming Array->df,Bool->cz,ByteArray->bq,Int->br,List->ab,Nat->aq,absurd->cp,if_neg->eh,if_pos->fc
set_option linter.all false
set_option maxRecDepth 100000
set_option maxHeartbeats 4000000
namespace Go.Proofs.PA
open Go Go.Hx Go.RowKit Go.Proofs
def r39:bB:=dG ad 39 []
def kLo:aS:=orK (iR [(39,⟨[],[],r39,[]⟩),(40,⟨[],[],r40,[]⟩)]) (kZ 0)
theorem J3:aR ad kLo:=iI dS (cR 0)
def p7:Value:=.pointer (ae ⟨7,0,av⟩)
abbrev frI(a:br)(fs:ab af)(i:br):HF:=mkF [(2,p6),(3,.int .i64 0),(6,p0),(23,frz fs),(24,.int .i64 a),(25,.int .i64 i)] 143
def uN(fs:ab af)(l:ab In)(s:br)(en fr:ab aq)(cs:ab (aq×aq))(vs:ab af)(hi mo:br):St:=aH [(0,.row aa (gR fs 1 l.length s en.length fr.length 2 cs.length vs hi mo 3 0) 123),(1,.srow (aA l) 44),(2,.srow (aG cs) 132),(3,.srow [] 254),(4,.srow (aO en) 3),(5,.srow (aO fr) 3),(6,.row aa [.slice av 0 0,.int .i64 0,.int .i64 0] 34)] 7 0
def aEM(fs Q):=sg aC J3 ((pcs ad 20).take 6) (stN [] []) (bX [.agg ⟨[frz fs]⟩] 143) 0 0 143 Q<|xb λi1 e1=>rn r39 [.agg ⟨[frz fs]⟩] [] (.tuple ⟨[I i1,I e1]⟩) []<|tq (!e1==0) (lS 3 4227 [128] [] [2,3] 1 .ret [(0,.row aa [SN0,I 0,I 0] 34)] [(2,p0),(3,I 1)]) (lS 2 4227 [256,140] [] [2,3,6,23,24,25] 7 .normal [(0,.row aa [frz fs,SN0,I 0,SN0,SN0,SN0,SN0,I 0,I 0,SN0] 123),(6,.row aa [SN0,I 0,I 0] 34)] [(2,p6),(3,I 0),(6,p0),(23,frz fs),(24,I ↑fs.length),(25,I 0)])
def W8(fs l s)(en fr:ab aq)(cs:ab (aq×aq))(vs hi mo a i Q):=sg aC J3 (aU (aJ (nth (pcs ad 20) 6))) (uN fs l s en fr cs vs hi mo) (frI a fs i) 0 0 143 Q<|tq (decide (i<a)) (xc λn2 ps2 b2=>nt (0<=i/\fs[az i]? =ae (fnC n2 ps2 b2)) [[fnC n2 ps2 b2]]<|xa λvs4=>rn r40 [fnC n2 ps2 b2] [] (frz (aN vs4)) []<|xf λn6 l6 s6 hi6 mo6 c6=>xc λvs6 ne6 nf6=>rn r41 [p0] [gR fs 1 l.length s en.length fr.length 2 cs.length (aN vs4) 0 0 3 0,aA l] (I n6) [gR fs 6 l6.length s6 ne6 nf6 2 c6 vs6 hi6 mo6 3 0,aA l6]<|pn (sv 4 ne6=sv 4 en.length)<|pn (sv 4 ne6=sv 4 en.length)<|pn (sv 4 ne6=sv 4 en.length)<|yab (en.length+1) 8 <|pn (en.length*1=(aO en).length)<|xf λl13 s13 cs13 hi13 mo13 vs13=>xb λne13 nf13=>rn (r42 0) [p0,frz b2] [gR fs 1 l6.length s6 (en.length+1) nf6 2 c6 vs6 hi6 mo6 3 0,aA l6,aG cs,[]] U [gR fs 6 l13.length s13 ne13 nf13 7 cs13.length vs13 hi13 mo13 8 0,aA l13,aG cs13,[]]<|xf λn15 l15 s15 hi15 mo15 c15=>xc λvs15 ne15 nf15=>rn r43 [p0,I 1,I 0,I 0,I 0,I 0] [gR fs 1 l13.length s13 ne13 nf13 2 cs13.length vs13 hi13 mo13 3 0,aA l13] (I n15) [gR fs 6 l15.length s15 ne15 nf15 2 c15 vs15 hi15 mo15 3 0,aA l15]<|xf λn17 l17 s17 hi17 mo17 c17=>xc λvs17 ne17 nf17=>rn r43 [p0,I 14,I 0,I 0,I 0,I 0] [gR fs 1 l15.length s15 ne15 nf15 2 c15 vs15 hi15 mo15 3 0,aA l15] (I n17) [gR fs 6 l17.length s17 ne17 nf17 2 c17 vs17 hi17 mo17 3 0,aA l17]<|yab (nf17+1) 8 <|pn (nf17*1=(aO fr).length)<|hv (rx (sv 4 en.length))<|lS 35 5232854777077805376376663184271 [0,1923,1541,1671,1289,2187,780] [] [2,3,6,23,24,25] 7 .normal [(0,.row aa (gR fs 1 l17.length s17 ne17 (nf17+1) 2 c17 vs17 hi17 mo17 3 0) 123),(1,.srow (aA l17) 44),(2,.srow (aG cs13) 132),(3,.srow [] 254),(4,.srow (aO en++[I n6]) 3),(5,.srow (aO fr++[I (ah .i64 (↑vs17.length+mo17))]) 3),(6,.row aa [SN0,I 0,I 0] 34)] [(2,p6),(3,I 0),(6,p0),(23,frz fs),(24,I a),(25,I (ah .i64 (i+1)))]) (lS 2 66 [0,131,261,391,521,651,780] [] [2,3,6,23,24,25] 7 (.exit 0) [(0,.row aa (gR fs 1 l.length s en.length fr.length 2 cs.length vs hi mo 3 0) 123),(1,.srow (aA l) 44),(2,.srow (aG cs) 132),(3,.srow [] 254),(4,.srow (aO en) 3),(5,.srow (aO fr) 3),(6,.row aa [SN0,I 0,I 0] 34)] [(2,p6),(3,I 0),(6,p0),(23,frz fs),(24,I a),(25,I i)])
def CM(fs:ab af)(l:ab In)(s:br)(en fr:ab aq)(cs:ab (aq×aq))(vs:ab af)(hi mo:br):St:=aH [(0,.row aa (gR fs 1 l.length s en.length fr.length 2 cs.length vs hi mo 3 0) 123),(1,.srow (aA l) 44),(2,.srow (aG cs) 132),(3,.srow [] 254),(4,.row au (aO en) 3),(5,.row au (aO fr) 3),(6,.row aa [.slice av 0 0,.int .i64 0,.int .i64 0] 34)] 7 0
abbrev sc(i n:aq):Value:=.slice (ae ⟨i,0,av⟩) n (UNK+2)
def frJ(n:aq)(i:br):HF:=mkF [(2,p6),(3,.int .i64 0),(6,p0),(82,sc 2 n),(83,.int .i64 n),(84,.int .i64 i)] 143
def aEL(fs l s)(en fr:ab aq)(cs:ab (aq×aq))(vs hi mo a i Q):=sg aC aK (((pcs ad 20).drop 7).take 1) (uN fs l s en fr cs vs hi mo) (frI a fs i) 0 0 143 Q<|lS 1 1 [0,131,261,391,520,650,780] [] [2,3,6,82,83,84] 7 .normal [(0,.row aa (gR fs 1 l.length s en.length fr.length 2 cs.length vs hi mo 3 0) 123),(1,.srow (aA l) 44),(2,.srow (aG cs) 132),(3,.srow [] 254),(4,.srow (aO en) 3),(5,.srow (aO fr) 3),(6,.row aa [SN0,I 0,I 0] 34)] [(2,p6),(3,I 0),(6,p0),(82,SL 2 cs.length (un 2)),(83,I ↑cs.length),(84,I 0)]
def W6(fs l s)(en fr:ab aq)(cs:ab (aq×aq))(vs hi mo i Q):=sg aC aK (aU (aJ (nth (pcs ad 20) 8))) (CM fs l s en fr cs vs hi mo) (frJ cs.length i) 0 0 143 Q<|tq (decide (i<↑cs.length)) (ycd i cs.length <|xb λx3 y3=>nt (0+az i*2+2<=(aG cs).length/\dr 2 (dq (0+az i*2) (aG cs))=[I x3,I y3]) [[I x3,I y3]]<|ycd y3 en.length <|ycs y3 en λx6=>ycd x3 l.length <|pn (aA l≠[])<|pn (0+az x3*5+4+1<=(aA l).length)<|ycd y3 fr.length <|ycs y3 fr λx12=>ycd x3 l.length <|pn (dr (0+az x3*5+4) (aA l)++[I x6]++dq (0+az x3*5+4+1) (aA l)≠[])<|pn (0+az x3*5+3+1<=aw (dr (0+az x3*5+4) (aA l)++[I x6]++dq (0+az x3*5+4+1) (aA l)))<|lS 9 311902252276487849558862 [0,131,261,391,520,650,780] [] [2,3,6,82,83,84] 7 .normal [(0,.row aa (gR fs 1 l.length s en.length fr.length 2 cs.length vs hi mo 3 0) 123),(1,.srow (dr (0+az x3*5+3) (dr (0+az x3*5+4) (aA l)++[I x6]++dq (0+az x3*5+4+1) (aA l))++[I x12]++dq (0+az x3*5+3+1) (dr (0+az x3*5+4) (aA l)++[I x6]++dq (0+az x3*5+4+1) (aA l))) 44),(2,.srow (aG cs) 132),(3,.srow [] 254),(4,.row au (aO en) 3),(5,.row au (aO fr) 3),(6,.row aa [SN0,I 0,I 0] 34)] [(2,p6),(3,I 0),(6,p0),(82,SL 2 cs.length (un 2)),(83,I ↑cs.length),(84,I (ah .i64 (i+1)))]) (lS 2 66 [0,131,261,391,520,650,780] [] [2,3,6,82,83,84] 7 (.exit 2) [(0,.row aa (gR fs 1 l.length s en.length fr.length 2 cs.length vs hi mo 3 0) 123),(1,.srow (aA l) 44),(2,.srow (aG cs) 132),(3,.srow [] 254),(4,.row au (aO en) 3),(5,.row au (aO fr) 3),(6,.row aa [SN0,I 0,I 0] 34)] [(2,p6),(3,I 0),(6,p0),(82,SL 2 cs.length (un 2)),(83,I ↑cs.length),(84,I i)])
def aEK(fs l s)(en fr:ab aq)(cs:ab (aq×aq))(vs hi mo i Q):=fx aC aK Tryz.f20 ((pcs ad 20).drop 9) (CM fs l s en fr cs vs hi mo) (frJ cs.length i) 0 0 Q<|tq (decide ((l.length:br)>2048)) (lZ 3 66 [] [] 0 (.tuple ⟨[.agg ⟨[frz [],I 0,I 0]⟩,I 3]⟩) []) (pn ((decide ((0:br)<=0)&&decide (0<(fr.length:br)))=au)<|xa λx3=>nt (1<=(aO fr).length/\dr 1 (dq 0 (aO fr))=[I x3]) [[I x3]]<|pn (aA l=aA l/\(∀(v:af),v∈ai aP l->ef (dx v)=5)/\0<5)<|pn (l.length=(ai aP l).length)<|lZ 4 1175724228 [] [(1,5,ai aP l)] 0 (.tuple ⟨[.agg ⟨[frz (ai aP l),I x3,I s]⟩,I 0]⟩) [])
inductive FitF(l:ab In)(i:aq):In->Prop
 |e (x:In) (h:EI 64 x):FitF l i x
 |store (n:br) (hn:0<=n/\n<3):FitF l i ⟨6,1,0,0,n⟩
 |setv (r:br) (hr:0<=r/\r<2) (n:aq) (hn:n<64):FitF l i ⟨9,r,0,0,n⟩
 |red (b:br) (hb:b=1\/b=6\/b=9) (n:aq) (hn:n<64):FitF l i ⟨10,0,b,0,n⟩
 |jump (k:aq) (h1:k<l.length) (h2:bM l k≠ae 20) (h3:i<k\/bM l k=ae 21):FitF l i ⟨11,0,0,0,k⟩
 |unl (k:aq) (h1:k<l.length) (h2:bM l k≠ae 20) (h3:i<k\/bM l k=ae 21):FitF l i ⟨12,0,0,0,k⟩
 |call (b c:br) (n:aq) (hb:0<=b/\b<=4) (hc:b<=c/\c<=64) (hn:bM l n=ae 21) (hm:bM l (i+1)=ae 21):FitF l i ⟨13,0,b,c,n⟩
 |reg (k:br) (hk:k=14\/k=15\/k=16\/k=18\/k=19):FitF l i ⟨k,0,0,0,0⟩
 |hand (n:aq) (h:n=0\/bM l n=ae 21):FitF l i ⟨17,0,0,0,n⟩
 |ask (n:aq) (hn:n<64) (j:aq) (hj:i=j+1) (hm:bM l j=ae 21):FitF l i ⟨20,0,0,0,n⟩
 |mark:FitF l i ⟨21,0,0,0,mkc (l.take i)⟩
structure dX(l:ab In)(V S:aq):Prop where
 fit:∀ i x,l[i]? =ae x->FitF l i x
 cnt:mkc l=S
 hd:bM l 0=ae 21
 last:bM l (l.length-1)=ae 14
 len:l.length<=2048
 vars:V<=64
def B7(l:ab In)(V S:aq):Value:=.agg ⟨[frz (l.map aP),.int .i64 V,.int .i64 S]⟩
def NT(l:ab In):Prop:=∀(i:aq)(x:In),l[i]? =ae x->(x.op=11\/x.op=12)->x.n<l.length
theorem NH{l:ab In}{s:aq}{cs:ab (aq×aq)}(h:Inv aa l s cs)(x:In)(hx:x.op≠11/\x.op≠12):NT (l++[x]):=by
 intro i y hy ho;rcases ey i l.length with hi|hi
 ·rw[dt hi] at hy;have hf:=h.fit i y hy;simp only[cg,kb];cases hf with
  |jump n ht=>obtain⟨k,rfl,h2,_⟩:=ht;show(k:br)<_;omega|unl n ht=>obtain⟨k,rfl,h2,_⟩:=ht;show(k:br)<_;omega|e x hh=>cases hh<;>simp at ho|reg k hk=>rcases hk with rfl|rfl|rfl|rfl|rfl<;>simp at ho
  |_=>simp at ho
 ·obtain⟨hl,he⟩:=ik.1 hy;have:i=l.length:=by simp at hl;omega
  subst this;have:x=y:=by simpa using he
  subst this;exact cp ho (by simp[hx.1,hx.2])
def gD:ab In->aq->br->br->ab In
 |[],_,_,_=>[]|x::l,0,n,c=>{x with n:=n,c:=c}::l|x::l,i+1,n,c=>x::gD l i n c
theorem pS:∀(l:ab In)(i:aq)(n c:br),(gD l i n c).length=l.length
 |[],_,_,_=>rfl|_::_,0,_,_=>rfl|x::l,i+1,n,c=>by simp[gD,pS l i n c]
theorem pT:∀(l:ab In)(i:aq)(n c:br)(j:aq),(gD l i n c)[j]? =if j=i then(l[j]?).map (λx=>{x with n:=n,c:=c}) else l[j]?
 |[],i,n,c,j=>by simp[gD]
 |x::l,0,n,c,j=>by cases j<;>simp[gD]
 |x::l,i+1,n,c,j=>by cases j with|zero=>simp[gD]|succ j=>simp[gD,pT l i n c j]
theorem rU:∀(l:ab In)(i:aq)(n c:br),i<l.length->aA (gD l i n c)=dr (i*5+3) (dr (i*5+4) (aA l)++[.int .i64 n]++dq (i*5+4+1) (aA l))++[.int .i64 c]++dq (i*5+3+1) (dr (i*5+4) (aA l)++[.int .i64 n]++dq (i*5+4+1) (aA l))
 |[],_,_,_,h=>by simp at h
 |x::l,0,n,c,_=>by show aA ({x with n:=n,c:=c}::l)=_;rw[eE,eE];rfl
 |x::l,i+1,n,c,h=>by show aA (x::gD l i n c)=_;rw[eE,eE,rU l i n c (by simpa using h)];have e1:(i+1)*5+4=i*5+4+5:=qO;have e2:(i+1)*5+3=i*5+3+5:=qO;rw[e1,e2];rfl
structure Pt(en fr:ab aq)(l0 l:ab In)(pre:ab (aq×aq)):Prop where
 len:l.length=l0.length
 get:∀(i:aq)(x0:In),l0[i]? =ae x0->∃x:In,l[i]? =ae x/\x.op=x0.op/\x.a=x0.a/\x.b=x0.b/\(x0.op≠13->x=x0)/\∀ c∈pre,c.1=i->∃(e f:aq),en[c.2]? =ae e/\fr[c.2]? =ae f/\x.n=e/\x.c=f
theorem LK{f g:aq}{b:br}(h:yC f b)(k:yC g b):f=g:=by rcases h with⟨rfl,rfl⟩|⟨rfl,rfl⟩<;>rcases k with⟨rfl,h⟩|⟨rfl,h⟩<;>first|rfl|cases h
theorem Pt.step{en fr:ab aq}{l0 l:ab In}{pre:ab (aq×aq)}(h:Pt en fr l0 l pre)(hcl:∀ c∈pre,opB l0 c.1 c.2)(at' fn e f:aq)(hb:opB l0 at' fn)(he:en[fn]? =ae e)(hf:fr[fn]? =ae f):Pt en fr l0 (gD l at' e f) (pre++[(at',fn)]):=by
 refine⟨by rw[pS];exact h.len,λi x0 hx0=>?_⟩;obtain⟨x,h1,h2,h3,h4,h5,h6⟩:=h.get i x0 hx0;by_cases hi:i=at'
 ·subst hi;obtain⟨y,b1,b2,b3⟩:=hb;rw[hx0] at b1;cases b1;refine⟨{x with n:=e,c:=f},by rw[pT,fc rfl,h1];rfl,h2,h3,h4,λhne=>cp b2 hne,λc hc hci=>?_⟩;have hfn:c.2=fn:=by
   rcases eu.1 hc with hc|hc
   ·obtain⟨z,z1,z2,z3⟩:=hcl c hc;rw[hci,hx0] at z1;cases z1;exact LK z3 b3
   ·rw[fg.1 hc]
  rw[hfn];exact⟨e,f,he,hf,rfl,rfl⟩
 ·refine⟨x,by rw[pT,eh hi];exact h1,h2,h3,h4,h5,λc hc hci=>?_⟩;rcases eu.1 hc with hc|hc
  ·exact h6 c hc hci
  ·rw[fg.1 hc] at hci;exact cp hci.symm hi
theorem Pt.refl(en fr:ab aq)(l:ab In):Pt en fr l l []:=⟨rfl,λi x hx=>⟨x,hx,rfl,rfl,rfl,λ_=>rfl,λc hc=>by cases hc⟩⟩
theorem Pt.op{en fr:ab aq}{l0 l:ab In}{pre:ab (aq×aq)}(h:Pt en fr l0 l pre)(i:aq):bM l i=bM l0 i:=by
 rcases ey i l0.length with hi|hi
 ·obtain⟨x,h1,h2,_⟩:=h.get i l0[i] (fk hi);rw[eU h1,eU (fk hi),h2]
 ·rw[sL (by rw[h.len];exact hi),sL hi]
theorem SK{l l0:ab In}(hl:l.length=l0.length)(h:∀ i,bM l i=bM l0 i)(k:aq):mkc (l.take k)=mkc (l0.take k):=by
 induction k generalizing l l0 with
 |zero=>rfl
 |succ k ih=>
  cases l with
  |nil=>cases l0 with|nil=>rfl|cons _ _=>simp at hl
  |cons x l=>cases l0 with
   |nil=>simp at hl
   |cons y l0=>
    have h0:=h 0;have hxy:x.op=y.op:=by simpa[bM] using h0
    have ht:∀ i,bM l i=bM l0 i:=λi=>by have:=h (i+1);simpa[bM] using this
    have:=ih (by simpa using hl) ht;unfold mkc at this ⊢;simp only[List.take_succ_cons,List.countP_cons,this];have:isM x=isM y:=by unfold isM;rw[hxy]
    rw[this]
theorem K9{l0 l:ab In}{s:aq}{cs:ab (aq×aq)}{en fr:ab aq}(hI:Inv aa l0 s cs)(hnt:NT l0)(hP:Pt en fr l0 l cs)(hen:∀ k e:aq,en[k]? =ae e->bM l0 e=ae 21)(hfr:∀ k f:aq,fr[k]? =ae f->2<=f/\f<=64)(hne:l0≠[])(hlast:bM l0 (l0.length-1)=ae 14)(hlen:l0.length<=2048)(V:aq)(hV:V<=64):dX l V s:=by
 have hop:=hP.op;have hmk:=SK hP.len hop;refine⟨λi x hx=>?_,?_,by rw[hop];exact hI.hd.resolve_left hne,by rw[hop,hP.len];exact hlast,by rw[hP.len];exact hlen,hV⟩
 ·have hi:i<l0.length:=by rw[<-hP.len];exact dP (eU hx)
  obtain⟨x',h1,h2,h3,h4,h5,h6⟩:=hP.get i l0[i] (fk hi);rw[hx] at h1;cases h1;have hf:=hI.fit i l0[i] (fk hi);have hnt':=hnt i l0[i] (fk hi);generalize l0[i]=x0 at hf h2 h3 h4 h5 h6 hnt';have tg:∀{n:br},Tgt l0 i n->n<l0.length->∃k:aq,n=k/\k<l.length/\bM l k≠ae 20/\(i<k\/bM l k=ae 21):=λ⟨k,a1,a2,a3,a4⟩ hlt=>by subst a1;exact⟨k,rfl,by rw[hP.len];omega,by rw[hop];exact a3,by rw[hop];exact a4⟩
  cases hf with
  |e x1 h=>have this:=h5 (by cases h<;>simp);subst this;exact .e _ h|store n hn=>have:=h5 qS;subst this;exact .store n hn|setv r hr n hn=>have:=h5 qS;subst this;exact .setv r hr n hn|red b hb n hn=>have:=h5 qS;subst this;exact .red b hb n hn|jump n h=>have:=h5 qS;subst this;obtain⟨k,rfl,a1,a2,a3⟩:=tg h (hnt' qS);exact .jump k a1 a2 a3|unl n h=>have:=h5 qS;subst this;obtain⟨k,rfl,a1,a2,a3⟩:=tg h (hnt' qS);exact .unl k a1 a2 a3
  |call b fn hm hc ha=>
   obtain⟨e,f,e1,e2,e3,e4⟩:=h6 _ hc rfl;obtain⟨xo,xa,xb,xc,xn⟩:=x;simp only at h2 h3 h4 e3 e4;subst h2;subst h3;subst h4;subst e3;subst e4;have hfb:=hfr _ _ e2;refine .call xb f e ?_ ?_ (by rw[hop];exact hen _ _ e1) (by rw[hop];exact hm)
   ·rcases ha with⟨_,rfl⟩|⟨_,rfl⟩<;>omega
   ·rcases ha with⟨_,rfl⟩|⟨_,rfl⟩<;>omega
  |reg k hk=>have:=h5 (by rcases hk with rfl|rfl|rfl|rfl|rfl<;>simp);subst this;exact .reg k hk|hand n h=>have:=h5 qS;subst this;exact .hand n (h.elim .inl λh=>.inr (by rw[hop];exact h.elim id λh=>by cases h.1))|ask n hn j hj hm=>have:=h5 qS;subst this;exact .ask n hn j hj (by rw[hop];exact hm)|mark=>have:=h5 qS;subst this;rw[<-hmk i];exact .mark
 ·have:=hmk (max l.length l0.length);rw[gc qO,gc qO] at this;rw[this,hI.cnt]
theorem yA(b:ab aq)(j:aq):aO (b++[j])=aO b++[.int .i64 (j:br)]:=by simp[aO]
theorem yX(mb m r:ab af)(k:aq)(hk:k<3)(name:bq)(ps b:ab af)(hx:(fsC mb m r)[k]? =ae (fnC name ps b)){L:ab bq}(hL:r40 [fnC name ps b] [] (frz (aN L)) [])(hL1:2<=L.length/\L.length<=16){N n:aq}(w:WL N 3 n b)(hn:n<=100)(l:ab In)(s:aq)(en fr:ab aq)(cs:ab (aq×aq))(vs:ab af)(hi mo:br)(hI:Inv aa l s cs)(hl:l.length<=10000)(hcs:cs.length<=l.length)(hen:en.length=k)(hfr:fr.length=k):∃(l':ab In)(s':aq)(cs':ab (aq×aq))(mo':aq),Inv aa l' s' cs'/\Ext l l'/\l'.length<=l.length+26*n+3/\cs'.length<=l'.length/\l'≠[]/\bM l' (l'.length-1)=ae 14/\NT l'/\bM l' l.length=ae 21/\mo'<=4/\ExD ad 0 (aU (aJ (nth (pcs ad 20) 6))) (uN (fsC mb m r) l s en fr cs vs hi mo) (frI 3 (fsC mb m r) k) .normal (uN (fsC mb m r) l' s' (en++[l.length]) (fr++[L.length+mo']) cs' (aN L) 0 mo') (frI 3 (fsC mb m r) ((k+1:aq):br)):=by
 have hs:=hI.s_le;have hv:AC (aN L):=⟨λv hv=>by obtain⟨x,_,rfl⟩:=fi.1 hv;exact⟨x,rfl⟩,by rw[cW];omega,by rw[cW];omega⟩;let l1:=l++[eV s];have n1:l1.length=l.length+1:=by simp[l1]
 have i1:Inv aa l1 (s+1) cs:=hI.mark;have ne1:l1≠[]:=by simp[l1]
 have a1:=lL (fsC mb m r) l s en.length fr.length cs.length (aN L) 0 0 0 qO qO;have p1:PreG l1 (s+1) cs (aN L) 0 [] n:=⟨hv,i1,ne1,qO,qO,qS,λj hj=>by cases hj⟩;obtain⟨l2,s2,cs2,mo2,b2,g2,r2⟩:=NN 0 qO w qO mb m r l1 (s+1) (en.length+1) fr.length cs (aN L) 0 0 [] p1 qO;have y2:=g2.gp.len;have z2:=g2.gp.csl;have w2:=g2.m2;have ne2:l2≠[]:=qC g2.gp.ext ne1;have e2:=g2.gp.ext.len;let l3:=l2++[(⟨1,0,0,0,0⟩:In)];have n3:l3.length=l2.length+1:=by simp[l3]
 have i3:Inv aa l3 s2 cs2:=g2.gp.inv.snoc _ (.e _ (.set 0 qO 0)) qS qS ne2;have a3:=bH (fsC mb m r) l2 s2 (en.length+1) fr.length cs2.length (aN L) 0 mo2 0 ⟨1,0,0,0,0⟩ qO;let l4:=l3++[(⟨14,0,0,0,0⟩:In)];have n4:l4.length=l2.length+2:=by simp[l4,n3]
 have i4:Inv aa l4 s2 cs2:=i3.snoc _ (.reg 14 qO) qS qS (bE ne2 _);have a4:=bH (fsC mb m r) l3 s2 (en.length+1) fr.length cs2.length (aN L) 0 mo2 0 ⟨14,0,0,0,0⟩ qO;have x24:Ext l2 l4:=(Ext.app l2 _).trans (Ext.app l3 _);have hel:=fW en;have hfl:=fW fr;refine⟨l4,s2,cs2,mo2,i4,((Ext.app l _).trans g2.gp.ext).trans x24,qO,qO,bE (bE ne2 _) _,?_,NH i3 _ qS,x24 _ _ (g2.gp.ext _ _ dA),qO,?_⟩
 ·have:l4.length-1=l3.length:=by omega
  rw[this];exact dA
 have wl:ah ag (((aN L).length:br)+(mo2:br))=((L.length+mo2:aq):br):=by rw[cW,cm _ qO];simp
 have wk:ah ag ((k:br)+1)=((k+1:aq):br):=by rw[cm _ qO];simp
 obtain⟨x,s',f',⟨rfl,rfl,rfl⟩,hk⟩:=W8 (fsC mb m r) l s en fr cs vs hi mo 3 k (λx t f=>x=.normal/\t=uN (fsC mb m r) l4 s2 (en++[l.length]) (fr++[L.length+mo2]) cs2 (aN L) 0 mo2/\f=frI 3 (fsC mb m r) ((k+1:aq):br)) ⟨λ_=>by
   refine⟨_,_,_,⟨qO,by simpa using hx⟩,L,hL,_,_,_,_,_,_,_,_,_,a1,rfl,rfl,rfl,cP qO qO,qO,_,_,_,_,_,_,_,_,r2,_,_,_,_,_,_,_,_,_,a3,_,_,_,_,_,_,_,_,_,a4,cP qO qO,qO,rfl,?_,by rw[wk]⟩;unfold uN;rw[yA,yA,show(en++[l.length]).length=en.length+1 by simp,show(fr++[L.length+mo2]).length=fr.length+1 by simp,wl],λc=>cp (dF c) qO⟩
 exact hk
theorem W7:(pcs ad 20).drop 6=.block 0 (.loop (aJ (nth (pcs ad 20) 6)))::(pcs ad 20).drop 7:=by kernel_rfl
theorem W5:((pcs ad 20).drop 7).drop 1=.block 2 (.loop (aJ (nth (pcs ad 20) 8)))::(pcs ad 20).drop 9:=by kernel_rfl
theorem J1(fs:ab af)(l0:ab In)(s:aq)(en fr:ab aq)(cs:ab (aq×aq))(vs:ab af)(hi mo:br)(hI:Inv aa l0 s cs)(hl0:l0.length<=100000)(hcs:cs.length<=100000)(hen:en.length=3)(hfr:fr.length=3):∀(suf pre:ab (aq×aq)),cs=pre++suf->∀(l:ab In),Pt en fr l0 l pre->∃(mm:aq)(l':ab In),Pt en fr l0 l' cs/\Lp ad 0 (aJ (nth (pcs ad 20) 8)) mm (CM fs l s en fr cs vs hi mo) (frJ cs.length pre.length) (.exit 2) (CM fs l' s en fr cs vs hi mo) (frJ cs.length cs.length):=by
 intro suf;induction suf with
 |nil=>intro pre he l hP;rw[fh] at he;subst he;obtain⟨x,s',f',⟨rfl,rfl,rfl⟩,hk⟩:=W6 fs l s en fr cs vs hi mo cs.length (λx t f=>x=.exit 2/\t=CM fs l s en fr cs vs hi mo/\f=frJ cs.length cs.length) ⟨λc=>cp (dT c) qO,λ_=>⟨rfl,rfl,rfl⟩⟩;exact⟨0,l,hP,.stop hk qS⟩
 |cons c suf ih=>
  intro pre he l hP;obtain⟨at',fn⟩:=c;have hlen:cs.length=pre.length+(suf.length+1):=by rw[he];simp
  have hb:=hI.cl (at',fn) (by rw[he];simp);have hb':=hb;obtain⟨x0,b1,b2,b3⟩:=hb';have hfn:fn<3:=by rcases b3 with⟨rfl,_⟩|⟨rfl,_⟩<;>omega
  have hat:at'<l.length:=by rw[hP.len];exact dP (eU b1)
  have he1:en[fn]? =ae en[fn]:=fk qO;have hf1:fr[fn]? =ae fr[fn]:=fk qO;generalize en[fn]=e at he1;generalize fr[fn]=f at hf1;have hP2:=hP.step (λc hc=>hI.cl c (by rw[he];simp[hc])) at' fn e f hb he1 hf1;obtain⟨mm,l',hP',hL⟩:=ih (pre++[(at',fn)]) (by rw[he];simp) (gD l at' e f) hP2;have hcl:=oZ cs;have hll:=oV l;have hel:=fW en;have hfl:=fW fr;have hll2:(dr (0+az (at':br)*5+4) (aA l)++[ao ag (e:br)]++dq (0+az (at':br)*5+4+1) (aA l)).length=l.length*5:=by simp only[cg,ir,ko,kb,hll];simp;omega
  have atN:∀(q:ab aq)(j x:aq),q[j]? =ae x->dr 1 (dq (0+az (j:br)*1) (aO q))=[ao ag (x:br)]:=λq j x hq=>by
   have hj:j<q.length:=by
    rcases ey j q.length with h|h
    ·exact h
    ·rw[ei h] at hq;cases hq
   rw[show 0+az (j:br)*1=j by simp,ph (by rw[fW];exact hj)];have:(aO q)[j]'(by rw[fW];exact hj)=ao ag (x:br):=by unfold aO;rw[List.getElem_map];have:=ik.1 hq;obtain⟨_,h2⟩:=this;rw[h2]
   rw[this];rfl
  obtain⟨x,s',f',⟨rfl,rfl,rfl⟩,hk⟩:=W6 fs l s en fr cs vs hi mo pre.length (λx t g=>x=.normal/\t=CM fs (gD l at' e f) s en fr cs vs hi mo/\g=frJ cs.length ((pre++[(at',fn)]).length)) ⟨λ_=>by
    refine⟨by simp;omega,at',fn,⟨by rw[hcl];simp;omega,?_⟩,by simp;omega,e,⟨by rw[hel];simp;omega,atN en fn e he1⟩,by simp;omega,λh=>by rw[h] at hll;simp at hll;omega,by rw[hll];simp;omega,by simp;omega,f,⟨by rw[hfl];simp;omega,atN fr fn f hf1⟩,by simp;omega,λh=>by rw[h] at hll2;simp at hll2;omega,by rw[hll2];simp;omega,rfl,?_,?_⟩
    ·have e0:aG cs=aG pre++([.int .i64 (at':br),.int .i64 (fn:br)]++aG suf):=by rw[he];unfold aG;rw[jr,bW];rfl
     rw[e0,show 0+az (pre.length:br)*2=(aG pre).length by rw[oZ];simp,qi];rfl
    ·unfold CM;rw[rU l at' e f hat,pS];simp only[gn,fu]
    ·rw[cm _ qO,cg];rfl,λc=>cp (dF c) qO⟩
  exact⟨mm+1,l',hP',.more hk hL⟩
def r20:bB:=dG ad 20 []
theorem J2(fs:ab af){Q:HX->St->HF->Prop}{cs:ab gy}(h:Ex ad 0 cs (uN fs [] 0 [] [] [] [] 0 0) (frI fs.length fs ((0:aq):br)) Q):Ex ad 0 cs (aH [(0,cu aa [frz fs,cd av 0 0,ao ag 0,cd av 0 0,cd av 0 0,cd av 0 0,cd av 0 0,ao ag 0,ao ag 0,cd av 0 0] 123),(6,cu aa [cd av 0 0,ao ag 0,ao ag 0] 34)] 7 0) (mkF [(2,p6),(3,ao ag 0),(6,p0),(23,frz fs),(24,ao ag (fs.length:br)),(25,ao ag 0)] 143) Q:=by
 have hr:uR (.row aa [frz fs,cd av 0 0,ao ag 0,cd av 0 0,cd av 0 0,cd av 0 0,cd av 0 0,ao ag 0,ao ag 0,cd av 0 0] 123)
   (.row aa [frz fs,.slice (ae ⟨7,0,av⟩) 0 (UNK+5),ao ag 0,sv 10 0,sv 11 0,sc 8 0,cd av 0 0,ao ag 0,ao ag 0,sv 9 0] 123):=by
  refine .inr ⟨_,_,123,rfl,rfl,rfl,λj v' hj=>?_⟩
  have hj9:j<10:=by
   rcases ey j 10 with h|h
   ·exact h
   ·rw[ei (by simpa using h)] at hj;cases hj
  rcases(show j=0\/j=1\/j=2\/j=3\/j=4\/j=5\/j=6\/j=7\/j=8\/j=9 by omega) with rfl|rfl|rfl|rfl|rfl|rfl|rfl|rfl|rfl|rfl<;>cases hj
  ·exact⟨_,rfl,.inl rfl⟩
  ·exact⟨_,rfl,.inr ⟨rfl,_,5,rfl⟩⟩
  ·exact⟨_,rfl,.inl rfl⟩
  ·exact⟨_,rfl,.inr ⟨rfl,_,1,rfl⟩⟩
  ·exact⟨_,rfl,.inr ⟨rfl,_,1,rfl⟩⟩
  ·exact⟨_,rfl,.inr ⟨rfl,_,2,rfl⟩⟩
  ·exact⟨_,rfl,.inl rfl⟩
  ·exact⟨_,rfl,.inl rfl⟩
  ·exact⟨_,rfl,.inl rfl⟩
  ·exact⟨_,rfl,.inr ⟨rfl,_,1,rfl⟩⟩
 refine Ex.nils [44,132,254,3,3] (aH [(0,cu aa [frz fs,cd av 0 0,ao ag 0,cd av 0 0,cd av 0 0,cd av 0 0,cd av 0 0,ao ag 0,ao ag 0,cd av 0 0] 123),(6,cu aa [cd av 0 0,ao ag 0,ao ag 0] 34),(7,.srow [] 44),(8,.srow [] 132),(9,.srow [] 254),(10,.srow [] 3),(11,.srow [] 3)] 12 0) qK (jL (t:=.lf) (t':=.lf) (l:=[(0,cu aa [frz fs,cd av 0 0,ao ag 0,cd av 0 0,cd av 0 0,cd av 0 0,cd av 0 0,ao ag 0,ao ag 0,cd av 0 0] 123),(6,cu aa [cd av 0 0,ao ag 0,ao ag 0] 34),(7,.srow [] 44),(8,.srow [] 132),(9,.srow [] 254),(10,.srow [] 3),(11,.srow [] 3)]) (l':=[(0,.row aa [frz fs,.slice (ae ⟨7,0,av⟩) 0 (UNK+5),ao ag 0,sv 10 0,sv 11 0,sc 8 0,cd av 0 0,ao ag 0,ao ag 0,sv 9 0] 123),(6,cu aa [cd av 0 0,ao ag 0,ao ag 0] 34),(7,.srow [] 44),(8,.srow [] 132),(9,.srow [] 254),(10,.srow [] 3),(11,.srow [] 3)]) ⟨rfl,hr,rfl,.inl rfl,rfl,.inl rfl,rfl,.inl rfl,rfl,.inl rfl,rfl,.inl rfl,rfl,.inl rfl,trivial⟩ trivial) rfl rfl (os2:=[(0,.row aa [frz fs,.slice (ae ⟨7,0,av⟩) 0 (UNK+5),ao ag 0,sv 10 0,sv 11 0,sc 8 0,cd av 0 0,ao ag 0,ao ag 0,sv 9 0] 123),(6,cu aa [cd av 0 0,ao ag 0,ao ag 0] 34),(7,.srow [] 44),(8,.srow [] 132),(9,.srow [] 254),(10,.srow [] 3),(11,.srow [] 3)]) (next2:=12) (sl2:=[(2,p6),(3,ao ag 0),(6,p0),(23,frz fs),(24,ao ag (fs.length:br)),(25,ao ag 0)]) ⟨rfl,.inl rfl,rfl,.inl rfl,rfl,.inl rfl,rfl,.inl rfl,rfl,.inl rfl,rfl,.inl rfl,trivial⟩ ?_;refine Ex.weak (os2:=[(0,.row aa [frz fs,.slice (ae ⟨7,0,av⟩) 0 (UNK+5),ao ag 0,sv 10 0,sv 11 0,sc 8 0,frz [],ao ag 0,ao ag 0,sv 9 0] 123),(6,cu aa [cd av 0 0,ao ag 0,ao ag 0] 34),(7,.srow [] 44),(8,.srow [] 132),(9,.srow [] 254),(10,.srow [] 3),(11,.srow [] 3)]) ⟨rfl,.less _ _ 123 (.cons (.refl _) (.cons (.refl _) (.cons (.refl _) (.cons (.refl _) (.cons (.refl _) (.cons (.refl _) (.cons .nil (.cons (.refl _) (.cons (.refl _) (.cons (.refl _) .nil)))))))))),rfl,.refl _,rfl,.refl _,rfl,.refl _,rfl,.refl _,rfl,.refl _,rfl,.refl _,trivial⟩ ?_;exact Ex.stepN aC aK (lf:=40) 0 143 0 7 (n0:=0) (π:=[]) (ω:=[]) (C:=⟨[(0,0,aa),(7,1,aa),(8,2,aa),(9,3,aa),(10,4,aa),(11,5,aa),(6,6,aa)],[],[2,3,6,23,24,25],7,0,aa⟩) (x:=.normal) (os:=[(0,.row aa [frz fs,.slice (ae ⟨1,0,av⟩) 0 (UNK+5),ao ag 0,sv 4 0,sv 5 0,sc 2 0,frz [],ao ag 0,ao ag 0,sv 3 0] 123),(1,.srow [] 44),(2,.srow [] 132),(3,.srow [] 254),(4,.srow [] 3),(5,.srow [] 3),(6,cu aa [cd av 0 0,ao ag 0,ao ag 0] 34)]) (sl:=[(2,p6),(3,ao ag 0),(6,p0),(23,frz fs),(24,ao ag (fs.length:br)),(25,ao ag 0)]) (ps:=[]) qK qK .nil h
theorem J0{mb m r:ab af}{n1 n2 n3:aq}(hm:MadeC mb m r n1 n2 n3)(ic:br)(hc:r39 [.agg ⟨[frz (fsC mb m r)]⟩] [] (.tuple ⟨[.int .i64 ic,.int .i64 0]⟩) []):∃(l:ab In)(V S:aq),dX l V S/\r20 [.agg ⟨[frz (fsC mb m r)]⟩] [] (.tuple ⟨[B7 l V S,.int .i64 0]⟩) []:=by
 let fs:=fsC mb m r;obtain⟨x,s',f',⟨rfl,rfl,rfl⟩,ha⟩:=aEM fs (λx t f=>x=.normal/\t=aH [(0,cu aa [frz fs,cd av 0 0,ao ag 0,cd av 0 0,cd av 0 0,cd av 0 0,cd av 0 0,ao ag 0,ao ag 0,cd av 0 0] 123),(6,cu aa [cd av 0 0,ao ag 0,ao ag 0] 34)] 7 0/\f=mkF [(2,p6),(3,ao ag 0),(6,p0),(23,frz fs),(24,ao ag (fs.length:br)),(25,ao ag 0)] 143) ⟨_,_,hc,λc=>by simp at c,λ_=>⟨rfl,rfl,rfl⟩⟩;have k1:=hm.w1.len;have k2:=hm.w2.len;have k3:=hm.w3.len;have h1:=hm.h1;have h2:=hm.h2;have h3:=hm.h3;have v1:r40 [fnC (nmB 9) [] mb] [] (frz (aN L8)) []:=oA (nmB 9) [] mb L8 qS qO hm.v1;have v2:r40 [fnC (nmB 10) [.string (nmB 3),.string (nmB 8)] m] [] (frz (aN L9)) []:=oA (nmB 10) [nmB 3,nmB 8] m L9 qS qO hm.v2;have v3:r40 [fnC (nmB 11) [.string (nmB 4)] r] [] (frz (aN L8')) []:=oA (nmB 11) [nmB 4] r L8' qS qO hm.v3;have i0:Inv aa [] 0 []:=⟨λi x h=>by simp at h,rfl,.inl rfl,λc hc=>by cases hc⟩;obtain⟨la,sa,ca,ma,a1,a2,a3,a4,a5,a6,a7,a8,a9,a10⟩:=yX mb m r 0 qO (nmB 9) [] mb rfl v1 qD hm.w1 qO [] 0 [] [] [] [] 0 0 i0 qS qS rfl rfl;simp only[mj,fu] at a3;obtain⟨lb,sb,cb,mb',b1,b2,b3,b4,b5,b6,b7,b8,b9,b10⟩:=yX mb m r 1 qO (nmB 10) [.string (nmB 3),.string (nmB 8)] m rfl v2 qD hm.w2 qO la sa [0] [8+ma] ca (aN L8) 0 ma a1 qO a4 rfl rfl;obtain⟨lc,sc',cc,mc,c1,c2,c3,c4,c5,c6,c7,c8,c9,c10⟩:=yX mb m r 2 qO (nmB 11) [.string (nmB 4)] r rfl v3 qD hm.w3 qO lb sb [0,la.length] [8+ma,9+mb'] cb (aN L9) 0 mb' b1 qO b4 rfl rfl;let en:=[0,la.length,lb.length];let fr:=[8+ma,9+mb',8+mc];obtain⟨x,s',f',⟨rfl,rfl,rfl⟩,hE⟩:=W8 fs lc sc' en fr cc (aN L8') 0 mc 3 ((3:aq):br) (λx t f=>x=.exit 0/\t=uN fs lc sc' en fr cc (aN L8') 0 mc/\f=frI 3 fs ((3:aq):br)) ⟨λc=>cp (dT c) qO,λ_=>⟨rfl,rfl,rfl⟩⟩;have hL:Lp ad 0 (aJ (nth (pcs ad 20) 6)) 3 (uN fs [] 0 [] [] [] [] 0 0) (frI fs.length fs ((0:aq):br)) (.exit 0) (uN fs lc sc' en fr cc (aN L8') 0 mc) (frI 3 fs ((3:aq):br)):=.more a10 (.more b10 (.more c10 (.stop hE qS)));obtain⟨x,s',f',⟨rfl,rfl,rfl⟩,hC⟩:=aEL fs lc sc' en fr cc (aN L8') 0 mc 3 ((3:aq):br) (λx t f=>x=.normal/\t=uN fs lc sc' en fr cc (aN L8') 0 mc/\f=frJ cc.length (([]:ab (aq×aq)).length)) ⟨rfl,rfl,rfl⟩;obtain⟨mm,lz,hP,hD⟩:=J1 fs lc sc' en fr cc (aN L8') 0 mc c1 qO qO rfl rfl cc [] rfl lc (Pt.refl en fr lc);have hz:=hP.len;have hok:dX lz (8+ma) sc':=by
  refine K9 c1 c7 hP (λk e hk=>?_) (λk f hk=>?_) c5 c6 qO _ qO
  ·have hk3:k<3:=by
    rcases ey k 3 with h|h
    ·exact h
    ·rw[ei h] at hk;cases hk
   rcases(show k=0\/k=1\/k=2 by omega) with rfl|rfl|rfl<;>cases hk
   ·exact c2 _ _ (b2 _ _ a8)
   ·exact c2 _ _ b8
   ·exact c8
  ·have hk3:k<3:=by
    rcases ey k 3 with h|h
    ·exact h
    ·rw[ei h] at hk;cases hk
   rcases(show k=0\/k=1\/k=2 by omega) with rfl|rfl|rfl<;>cases hk<;>omega
 refine⟨lz,8+ma,sc',hok,?_⟩;have hlen:¬((lz.length:br)>2048):=by have:=hok.len;omega
 obtain⟨v,t,⟨rfl,rfl⟩,hF⟩:=aEK fs lz sc' en fr cc (aN L8') 0 mc cc.length (λv t=>v=.tuple ⟨[B7 lz (8+ma) sc',.int .i64 0]⟩/\t=stN [] []) ⟨λc=>cp (dT c) hlen,λ_=>⟨rfl,_,⟨by show 1<=3;omega,rfl⟩,⟨rfl,wH lz,qO⟩,(fa ..).symm,rfl,rfl⟩⟩;refine ip (fn:=Tryz.f20) Tryz.func20 rfl rfl 0 rfl ?_;refine fo 6 ha (J2 fs ?_);rw[W7];refine hL.ex (outQ.exit (fo 1 hC ?_));rw[W5];refine Ex.weak (os2:=[(0,.row aa (gR fs 1 lc.length sc' en.length fr.length 2 cc.length (aN L8') 0 mc 3 0) 123),(1,.srow (aA lc) 44),(2,.srow (aG cc) 132),(3,.srow [] 254),(4,.row au (aO en) 3),(5,.row au (aO fr) 3),(6,.row aa [.slice av 0 0,.int .i64 0,.int .i64 0] 34)]) ⟨rfl,.refl _,rfl,.refl _,rfl,.refl _,rfl,.refl _,rfl,.hard _ _ (by simp[aO,en]),rfl,.hard _ _ (by simp[aO,fr]),rfl,.refl _,trivial⟩ ?_;exact hD.ex (outQ.exit hF)
noncomputable def ouR:ab Code:=aU (aJ (nth (pcs ad 104) 5))
theorem rl0:(pcs ad 104).drop 5=.block 0 (.loop (aJ (nth (pcs ad 104) 5)))::(pcs ad 104).drop 6:=by kernel_rfl
theorem rl1:ouR.drop 2=[.block 1 (iS (nth ouR 2))]++ouR.drop 3:=by kernel_rfl
theorem rl2:inR.drop 2=[.block 2 (.loop (aJ (nth inR 2)))]:=by kernel_rfl
theorem ul0:(pcs ad 76).drop 2=.block 0 (.loop (aJ (nth (pcs ad 76) 2)))::(pcs ad 76).drop 3:=by kernel_rfl
theorem ul1:bdS.drop 2=[.block 1 (iS (nth bdS 2))]++bdS.drop 3:=by kernel_rfl
theorem ul2:inS.drop 2=[.block 2 (.loop (aJ (nth inS 2)))]++inS.drop 3:=by kernel_rfl
theorem ul3:bdE.drop 2=[.block 3 (iS (nth bdE 2))]++bdE.drop 3:=by kernel_rfl
theorem ul4:inE.drop 2=[.block 4 (.loop (aJ (nth inE 2)))]:=by kernel_rfl
theorem MR(es:ab af)(i:br)(ns:ab bq)(hn:ns.length<=1000):∀(suf pre o:ab bq),ns=pre++suf->o.length+suf.length<=1000->∃mm,Lp ad 0 (aJ (nth inR 2)) mm (lD o) (wY es o i ns pre.length) (.exit 2) (lD (fM o suf)) (wY es (fM o suf) i ns ns.length):=by
 intro suf;induction suf with
 |nil=>intro pre o he hl;rw[fh] at he;subst he;obtain⟨x,s',f',⟨rfl,rfl,rfl⟩,hk⟩:=VI es o i ns ns.length (λx t f=>x=.exit 2/\t=lD o/\f=wY es o i ns ns.length) ⟨λc=>cp (dT c) qO,λ_=>⟨rfl,rfl,rfl⟩⟩;exact⟨0,.stop hk qS⟩
 |cons y suf ih=>
  intro pre o he hl;have hlen:ns.length=pre.length+(suf.length+1):=by rw[he];simp
  have hal:=wO o y;simp only[jy] at hl;obtain⟨mm,hL⟩:=ih (pre++[y]) (gA o y) (by rw[he];simp) qO;have hol:=cW o;obtain⟨x,s',f',⟨rfl,rfl,rfl⟩,hk⟩:=VI es o i ns pre.length (λx t f=>x=.normal/\t=lD (gA o y)/\f=wY es (gA o y) i ns ((pre++[y]).length)) ⟨λ_=>by
    refine⟨y,⟨qO,by rw[gn,he];exact uE pre y suf⟩,iA o y,FK o y qO,λc=>?_,λc=>?_⟩
    ·have c:iA o y=false:=by simpa using c
     have e:gA o y=o++[y]:=by unfold gA;rw[eh (by simp[c])]
     rw[e];refine⟨by simp;omega,qO,rfl,?_,?_⟩
     ·unfold lD aN;rw[jr];rfl
     ·rw[cm _ qO];unfold wY;rw[cg,cg];rfl
    ·have c:iA o y=true:=by simpa using c
     have e:gA o y=o:=by unfold gA;rw[fc c]
     rw[e];exact⟨rfl,rfl,by rw[cm _ qO,cg];rfl⟩,λc=>cp (dF c) qO⟩
  exact⟨mm+1,.more hk hL⟩
inductive Rds:af->ab bq->Prop
 |mk {k n:br} {u:bq} {o:br} {e:ab af} {ns:ab bq} (h:ns.length<=100) (hr:G6 [exV k n u o e] [] (frz (aN ns)) []):Rds (exV k n u o e) ns
inductive RdL:ab bq->ab af->ab bq->Prop
 |nil (o:ab bq):RdL o [] o
 |cons {o o' ns:ab bq} {e:af} {es:ab af} (h:Rds e ns) (ho:o.length<=500) (t:RdL (fM o ns) es o'):RdL o (e::es) o'
theorem MP(es:ab af)(hn:es.length<=1000):∀(suf pre:ab af)(o o':ab bq),es=pre++suf->RdL o suf o'->∃mm,Lp ad 0 (aJ (nth (pcs ad 104) 5)) mm (lD o) (wZ es o pre.length) (.exit 0) (lD o') (wZ es o' es.length):=by
 intro suf;induction suf with
 |nil=>intro pre o o' he hr;cases hr;rw[fh] at he;subst he;obtain⟨x,s',f',⟨rfl,rfl,rfl⟩,hk⟩:=VT es o es.length (λx t f=>x=.exit 0/\t=lD o/\f=wZ es o es.length) ⟨λc=>cp (dT c) qO,λ_=>⟨rfl,rfl,rfl⟩⟩;refine⟨0,.stop ?_ qS⟩;have:=hk.stop (ds:=ouR.drop 2) qS;show ExD ad 0 ouR _ _ _ _ _;rw[<-gu 2 ouR];exact this
 |cons e suf ih=>
  intro pre o o' he hr;cases hr with|@cons _ _ ns _ _ h ho t=>
  have hlen:es.length=pre.length+(suf.length+1):=by rw[he];simp
  obtain⟨mm,hL⟩:=ih (pre++[e]) (fM o ns) o' (by rw[he];simp) t;cases h with|@mk k n u o2 e2 _ h hr=>
  have hx:es[az (pre.length:br)]? =ae (exV k n u o2 e2):=by rw[gn,he];simp
  obtain⟨x,s',f',⟨rfl,rfl,rfl⟩,h1⟩:=VT es o pre.length (λx t f=>x=.normal/\t=lD o/\f=wZ es o pre.length) ⟨λ_=>⟨rfl,rfl,rfl⟩,λc=>cp (dF c) qO⟩;obtain⟨x,s',f',⟨rfl,rfl,rfl⟩,h2⟩:=aCP es o pre.length (λx t f=>x=.normal/\t=lD o/\f=wY es o pre.length ns (([]:ab bq).length)) ⟨k,n,u,o2,e2,⟨qO,hx⟩,ns,hr,rfl,rfl,by unfold wY;rw[cW];rfl⟩;obtain⟨m2,h3⟩:=MR es pre.length ns qO ns [] o rfl qO;obtain⟨x,s',f',⟨rfl,rfl,rfl⟩,h4⟩:=aCG es (fM o ns) pre.length ns ns.length (λx t f=>x=.normal/\t=lD (fM o ns)/\f=wZ es (fM o ns) ((pre++[exV k n u o2 e2]).length)) ⟨rfl,rfl,by rw[cm _ qO,cg];rfl⟩;have hin:ExD ad 0 inR (lD o) (wZ es o pre.length) .normal (lD (fM o ns)) (wY es (fM o ns) pre.length ns ns.length):=by refine fo 2 h2 ?_;rw[rl2];exact h3.exD
  refine⟨mm+1,.more (s1:=lD (fM o ns)) (f1:=wZ es (fM o ns) ((pre++[exV k n u o2 e2]).length)) ?_ hL⟩;show ExD ad 0 ouR _ _ _ _ _;refine fo 2 h1 ?_;rw[rl1];exact(ExD.block (id:=1) hin).then h4
theorem E4{k n:br}{y:bq}{p:br}{es:ab af}{o:ab bq}(hk:k≠3)(he:es.length<=1000)(h:RdL [] es o):G6 [exV k n y p es] [] (frz (aN o)) []:=by obtain⟨x,s',f',⟨rfl,rfl,rfl⟩,ha⟩:=aCT k n y p es (λx t f=>x=.normal/\t=aH [] 0 0/\f=mkF [(3,.slice av 0 0),(17,frz es),(18,.int .i64 es.length),(19,.int .i64 (([]:ab af).length))] 41) ⟨λc=>cp (eT c) hk,λ_=>⟨rfl,rfl,rfl⟩⟩;obtain⟨mm,hL⟩:=MP es he es [] [] o rfl h;obtain⟨v,t,⟨rfl,rfl⟩,hf⟩:=aCE es o es.length k n y p (λv t=>v=frz (aN o)/\t=stN [] []) ⟨⟨x9 _,wG _,qO⟩,(cW _).symm,rfl,rfl⟩;refine ip (fn:=Tryz.f104) Tryz.func104 rfl rfl 0 rfl ?_;refine fo 5 ha ?_;rw[rl0];refine Ex.nilS [9] (os2:=[(0,.srow [] 9)]) (next2:=1) (sl2:=[(3,sv 0 0),(17,frz es),(18,.int .i64 es.length),(19,.int .i64 (([]:ab af).length))]) qK ⟨rfl,.inr ⟨rfl,_,1,rfl⟩,rfl,.inl rfl,rfl,.inl rfl,rfl,.inl rfl,trivial⟩ ?_;exact hL.ex (outQ.exit hf)
def NsOK(N:aq)(ns:ab bq):Prop:=∀ y∈ns,∃k,k<N/\y=nmB k
theorem NsOK.nil{N:aq}:NsOK N []:=λy hy=>by cases hy
theorem NsOK.par{N:aq}:∀{ns o:ab bq},NsOK N o->NsOK N ns->NsOK N (fM o ns)
 |[],o,h,_=>h
 |y::ns,o,h,k=>by
  refine NsOK.par (ns:=ns) (o:=gA o y) ?_ (λz hz=>k z (List.mem_cons_of_mem _ hz));unfold gA;split
  ·exact h
  ·intro z hz;rcases eu.1 hz with hz|hz
   ·exact h z hz
   ·rw[fg] at hz;subst hz;exact k _ (List.mem_cons_self ..)
theorem qR:∀(ns o:ab bq),(fM o ns).length<=o.length+ns.length
 |[],o=>by simp[fM]
 |y::ns,o=>by have:=qR ns (gA o y);have:=wO o y;simp only[fM,jy];omega
theorem VJ{N d:aq}{v:af}(h:WX N d v)(hd:d<=3):∃ns,NsOK N ns/\ns.length<=2 ^ d/\Rds v ns:=by induction h with|num d n=>obtain⟨v,t,⟨rfl,rfl⟩,h⟩:=VS n (λv t=>v=frz []/\t=stN [] []) ⟨rfl,rfl⟩;exact⟨[],NsOK.nil,qS,.mk qS h⟩|var d k hk=>obtain⟨v,t,⟨rfl,rfl⟩,h⟩:=VQ (nmB k) (λv t=>v=frz [.string (nmB k)]/\t=stN [] []) ⟨rfl,rfl⟩;exact⟨[nmB k],λy hy=>⟨k,hk,by simpa using hy⟩,Nat.one_le_two_pow,.mk qS h⟩|new d n hn=>obtain⟨v,t,⟨rfl,rfl⟩,h⟩:=VP n (λv t=>v=frz []/\t=stN [] []) ⟨rfl,rfl⟩;exact⟨[],NsOK.nil,qS,.mk qS h⟩|@fld d n hn e he ih=>obtain⟨ns,h1,h2,h3⟩:=ih qO;have hd3:d<=3:=qO;have hl:=qR ns [];have hp:2 ^ d<=8:=Nat.pow_le_pow_right (show 0<2 by omega) hd3;simp only[mj] at hl;refine⟨fM [] ns,NsOK.par NsOK.nil h1,by rw[Nat.pow_succ];omega,.mk qO (E4 qD qS (.cons h3 qS (.nil _)))⟩|@bin d o ho a b ha hb iha ihb=>obtain⟨ns,h1,h2,h3⟩:=iha qO;have hd3:d<=3:=qO;obtain⟨ms,g1,g2,g3⟩:=ihb qO;have hl:=qR ns [];have hl2:=qR ms (fM [] ns);have hp:2 ^ d<=8:=Nat.pow_le_pow_right (show 0<2 by omega) hd3;simp only[mj] at hl;refine⟨fM (fM [] ns) ms,NsOK.par (NsOK.par NsOK.nil h1) g1,by rw[Nat.pow_succ];omega,.mk qO (E4 qD qS (.cons h3 qS (.cons g3 qO (.nil _))))⟩
section
variable(fs:ab af)(vs:ab bq)
theorem MD(hv:vs.length<=1000)(k:br)(y f:bq)(n o:br)(es bs els ls:ab af)(i j:br)(ns:ab bq)(hn:ns.length<=1000)(hh:∀ y∈ns,iA vs y=au):∀(suf pre:ab bq),ns=pre++suf->∃mm,Lp ad 0 (aJ (nth inE 2)) mm (kY fs k y f n o es bs els) (zM vs ls i es j ns pre.length) (.exit 4) (kY fs k y f n o es bs els) (zM vs ls i es j ns ns.length):=by
 intro suf;induction suf with
 |nil=>intro pre he;rw[fh] at he;subst he;obtain⟨x,s',f',⟨rfl,rfl,rfl⟩,hk⟩:=UO fs k y f n o es bs els vs ls i j ns ns.length (λx t g=>x=.exit 4/\t=kY fs k y f n o es bs els/\g=zM vs ls i es j ns ns.length) ⟨λc=>cp (dT c) qO,λ_=>⟨rfl,rfl,rfl⟩⟩;exact⟨0,.stop hk qS⟩
 |cons z suf ih=>
  intro pre he;have hlen:ns.length=pre.length+(suf.length+1):=by rw[he];simp
  obtain⟨mm,hL⟩:=ih (pre++[z]) (by rw[he];simp);obtain⟨x,s',f',⟨rfl,rfl,rfl⟩,hk⟩:=UO fs k y f n o es bs els vs ls i j ns pre.length (λx t g=>x=.normal/\t=kY fs k y f n o es bs els/\g=zM vs ls i es j ns ((pre++[z]).length)) ⟨λ_=>⟨z,⟨qO,by rw[gn,he];exact uE pre z suf⟩,by have:=uA vs z qO;rwa [hh z (by rw[he];simp)] at this,rfl,rfl,by rw[cm _ qO,cg];rfl⟩,λc=>cp (dF c) qO⟩;exact⟨mm+1,.more hk hL⟩
def LU(es:ab af):Prop:=∀ e∈es,∃ns,Rds e ns/\∀ y∈ns,iA vs y=au
theorem ME(hv:vs.length<=1000)(k:br)(y f:bq)(n o:br)(es bs els ls:ab af)(i:br)(hn:es.length<=1000)(hh:LU vs es):∀(suf pre:ab af),es=pre++suf->∃mm,Lp ad 0 (aJ (nth inS 2)) mm (kY fs k y f n o es bs els) (wD vs ls i es pre.length) (.exit 2) (kY fs k y f n o es bs els) (wD vs ls i es es.length):=by
 intro suf;induction suf with
 |nil=>intro pre he;rw[fh] at he;subst he;obtain⟨x,s',f',⟨rfl,rfl,rfl⟩,hk⟩:=UP fs k y f n o es bs els vs ls i es.length (λx t g=>x=.exit 2/\t=kY fs k y f n o es bs els/\g=wD vs ls i es es.length) ⟨λc=>cp (dT c) qO,λ_=>⟨rfl,rfl,rfl⟩⟩;refine⟨0,.stop ?_ qS⟩;show ExD ad 0 bdE _ _ _ _ _;rw[<-gu 2 bdE];exact hk.stop qS
 |cons e suf ih=>
  intro pre he;have hlen:es.length=pre.length+(suf.length+1):=by rw[he];simp
  obtain⟨mm,hL⟩:=ih (pre++[e]) (by rw[he];simp);obtain⟨ns,hr,hns⟩:=hh e (by rw[he];simp);cases hr with|@mk k2 n2 u2 o2 e2 _ h hr=>
  have hx:es[az (pre.length:br)]? =ae (exV k2 n2 u2 o2 e2):=by rw[gn,he];simp
  obtain⟨x,s',f',⟨rfl,rfl,rfl⟩,h1⟩:=UP fs k y f n o es bs els vs ls i pre.length (λx t g=>x=.normal/\t=kY fs k y f n o es bs els/\g=wD vs ls i es pre.length) ⟨λ_=>⟨rfl,rfl,rfl⟩,λc=>cp (dF c) qO⟩;obtain⟨x,s',f',⟨rfl,rfl,rfl⟩,h2⟩:=aAU fs k y f n o es bs els vs ls i pre.length (λx t g=>x=.normal/\t=kY fs k y f n o es bs els/\g=zM vs ls i es pre.length ns (([]:ab bq).length)) ⟨k2,n2,u2,o2,e2,⟨qO,hx⟩,ns,hr,rfl,rfl,by unfold zM;rw[cW];rfl⟩;obtain⟨m2,h3⟩:=MD fs vs hv k y f n o es bs els ls i pre.length ns qO hns ns [] rfl;obtain⟨x,s',f',⟨rfl,rfl,rfl⟩,h4⟩:=aAT fs k y f n o es bs els vs ls i pre.length ns ns.length (λx t g=>x=.normal/\t=kY fs k y f n o es bs els/\g=wD vs ls i es ((pre++[exV k2 n2 u2 o2 e2]).length)) ⟨rfl,rfl,by rw[cm _ qO,cg];rfl⟩;have hin:ExD ad 0 inE (kY fs k y f n o es bs els) (wD vs ls i es pre.length) .normal (kY fs k y f n o es bs els) (zM vs ls i es pre.length ns ns.length):=by refine fo 2 h2 ?_;rw[ul4];exact h3.exD
  refine⟨mm+1,.more (s1:=kY fs k y f n o es bs els) (f1:=wD vs ls i es ((pre++[exV k2 n2 u2 o2 e2]).length)) ?_ hL⟩;show ExD ad 0 bdE _ _ _ _ _;refine fo 2 h1 ?_;rw[ul3];exact(ExD.block (id:=3) hin).then h4
end
inductive ChOK(fs:ab af)(vs:ab bq):af->Prop
 |mk {k:br} {y f:bq} {n o:br} {es bs els:ab af} (h1:es.length<=1000) (h2:LU vs es) (h3:k=3->∃(i:aq)(nm:bq)(ps b:ab af),r74 [.agg ⟨[frz fs]⟩,.string f] [] (.int .i64 i) []/\fs[i]? =ae (fnC nm ps b)/\ps.length=es.length) (h4:k=12->r97 [.int .i64 o] [] (.bool au) []) (h5:r76 [.agg ⟨[frz fs]⟩,frz (aN vs),frz bs] [] (.int .i64 0) []) (h6:r76 [.agg ⟨[frz fs]⟩,frz (aN vs),frz els] [] (.int .i64 0) []):ChOK fs vs (stV k y f n o es bs els)
theorem MC(fs:ab af)(vs:ab bq)(hv:vs.length<=1000)(ls:ab af)(hl:ls.length<=1000)(hh:∀ v∈ls,ChOK fs vs v):∀(suf pre:ab af),ls=pre++suf->∃mm,Lp ad 0 (aJ (nth (pcs ad 76) 2)) mm (qL fs) (rQ vs ls pre.length) (.exit 0) (qL fs) (rQ vs ls ls.length):=by
 intro suf;induction suf with
 |nil=>intro pre he;rw[fh] at he;subst he;obtain⟨x,s',f',⟨rfl,rfl,rfl⟩,hk⟩:=UQ fs vs ls ls.length (λx t g=>x=.exit 0/\t=qL fs/\g=rQ vs ls ls.length) ⟨λc=>cp (dT c) qO,λ_=>⟨rfl,rfl,rfl⟩⟩;refine⟨0,.stop ?_ qS⟩;show ExD ad 0 bdS _ _ _ _ _;rw[<-gu 2 bdS];exact hk.stop qS
 |cons v suf ih=>
  intro pre he;have hlen:ls.length=pre.length+(suf.length+1):=by rw[he];simp
  obtain⟨mm,hL⟩:=ih (pre++[v]) (by rw[he];simp);have hst:=hh v (by rw[he];simp);cases hst with|@mk k y f n o es bs els h1 h2 h3 h4 h5 h6=>
  have hx:ls[az (pre.length:br)]? =ae (stV k y f n o es bs els):=by rw[gn,he];simp
  obtain⟨x,s',f',⟨rfl,rfl,rfl⟩,g1⟩:=UQ fs vs ls pre.length (λx t g=>x=.normal/\t=qL fs/\g=rQ vs ls pre.length) ⟨λ_=>⟨rfl,rfl,rfl⟩,λc=>cp (dF c) qO⟩;obtain⟨x,s',f',⟨rfl,rfl,rfl⟩,g2⟩:=aAV fs vs ls pre.length (λx t g=>x=.normal/\t=kY fs k y f n o es bs els/\g=wD vs ls pre.length es (([]:ab af).length)) ⟨k,y,f,n,o,es,bs,els,⟨qO,hx⟩,rfl,rfl,rfl⟩;obtain⟨m2,g3⟩:=ME fs vs hv k y f n o es bs els ls pre.length h1 h2 es [] rfl;obtain⟨x,s',f',⟨rfl,rfl,rfl⟩,g4⟩:=aAS fs k y f n o es bs els vs ls pre.length es.length (λx t g=>x=.normal/\t=qL fs/\g=rQ vs ls pre.length) ⟨λc=>by
    obtain⟨i,nm,ps,b,q1,q2,q3⟩:=h3 (eT c);refine⟨i,q1,λc=>cp (dT c) qO,λ_=>⟨nm,ps,b,⟨qO,by rw[gn];exact q2⟩,λc=>?_,λ_=>⟨λc=>⟨h4 (eT (by simpa using c)),h5,h6,rfl,rfl,rfl⟩,λ_=>⟨h5,h6,rfl,rfl,rfl⟩⟩⟩⟩;rw[q3] at c;simp at c,λc=>⟨λc=>⟨h4 (eT (by simpa using c)),h5,h6,rfl,rfl,rfl⟩,λ_=>⟨h5,h6,rfl,rfl,rfl⟩⟩⟩
  obtain⟨x,s',f',⟨rfl,rfl,rfl⟩,g5⟩:=aAR fs vs ls pre.length (λx t g=>x=.normal/\t=qL fs/\g=rQ vs ls ((pre++[stV k y f n o es bs els]).length)) ⟨rfl,rfl,by rw[cm _ qO,cg];rfl⟩;have hin:ExD ad 0 inS (qL fs) (rQ vs ls pre.length) .normal (qL fs) (rQ vs ls pre.length):=by refine fo 2 g2 ?_;rw[ul2];exact g3.exD.then g4
  refine⟨mm+1,.more (s1:=qL fs) (f1:=rQ vs ls ((pre++[stV k y f n o es bs els]).length)) ?_ hL⟩;show ExD ad 0 bdS _ _ _ _ _;refine fo 2 g1 ?_;rw[ul1];exact(ExD.block (id:=1) hin).then g5
theorem mT{fs:ab af}{vs:ab bq}(hv:vs.length<=1000){ls:ab af}(hl:ls.length<=1000)(hh:∀ v∈ls,ChOK fs vs v):r76 [.agg ⟨[frz fs]⟩,frz (aN vs),frz ls] [] (.int .i64 0) []:=by obtain⟨x,s',f',⟨rfl,rfl,rfl⟩,ha⟩:=aAW fs vs ls (λx t f=>x=.normal/\t=qL fs/\f=rQ vs ls (([]:ab af).length)) ⟨rfl,rfl,rfl⟩;obtain⟨mm,hL⟩:=MC fs vs hv ls hl hh ls [] rfl;obtain⟨v,t,⟨rfl,rfl⟩,hf⟩:=aAQ fs vs ls ls.length (λv t=>v=.int .i64 0/\t=stN [] []) ⟨rfl,rfl⟩;refine ip (fn:=Tryz.f76) Tryz.func76 rfl rfl 0 rfl ?_;refine fo 2 ha ?_;rw[ul0];exact hL.ex (outQ.exit hf)
theorem D8{N:aq}{vs:ab bq}(hc:Cov N vs){e:af}(h:WX N 2 e):∃ns,Rds e ns/\∀ y∈ns,iA vs y=true:=by obtain⟨ns,h1,_,h3⟩:=VJ h qO;exact⟨ns,h3,λy hy=>by obtain⟨k,hk,rfl⟩:=h1 y hy;exact hc.2 k hk⟩
theorem es1{N:aq}{vs:ab bq}(hc:Cov N vs){e:af}(h:WX N 2 e):LU vs [e]:=λx hx=>by rw[fg] at hx;subst hx;exact D8 hc h
theorem es2{N:aq}{vs:ab bq}(hc:Cov N vs){e1 e2:af}(h1:WX N 2 e1)(h2:WX N 2 e2):LU vs [e1,e2]:=λx hx=>by
 rcases ci.1 hx with rfl|hx
 ·exact D8 hc h1
 ·rw[fg] at hx;subst hx;exact D8 hc h2
theorem es0{vs:ab bq}:LU vs []:=λx hx=>by cases hx
theorem eN{fs:ab af}{vs:ab bq}(hv:vs.length<=1000):r76 [.agg ⟨[frz fs]⟩,frz (aN vs),frz []] [] (.int .i64 0) []:=mT hv qS (λv hv=>by cases hv)
inductive ChL(fs:ab af)(vs:ab bq):ab af->Prop
 |nil:ChL fs vs []
 |cons {v:af} {l:ab af} (h:ChOK fs vs v) (t:ChL fs vs l):ChL fs vs (v::l)
theorem ChL.all{fs:ab af}{vs:ab bq}{l:ab af}(h:ChL fs vs l):∀ v∈l,ChOK fs vs v:=by
 induction h with
 |nil=>intro v hv;cases hv
 |cons h _ ih=>
  intro v hv;rcases ci.1 hv with rfl|hv
  ·exact h
  ·exact ih v hv
mutual
theorem WS.us{N:aq}{mb m r:ab af}{vs:ab bq}(hc:Cov N vs):∀{d n:aq}{v:af},WS N d n v->n<=1000->ChOK (fsC mb m r) vs v
 |_,_,_,.asg d k hk he,hn=>.mk qS (es1 hc he) qS qS (eN hc.1) (eN hc.1)|_,_,_,.store d n hn' h1 h2,hn=>.mk qS (es2 hc h1 h2) qS qS (eN hc.1) (eN hc.1)|_,_,_,.callf d k hk h1 h2,hn=>.mk qS (es2 hc h1 h2) (λ_=>⟨1,_,_,_,vO mb m r 1 qO,rfl,rfl⟩) qS (eN hc.1) (eN hc.1)|_,_,_,.callg d k hk he,hn=>.mk qS (es1 hc he) (λ_=>⟨2,_,_,_,vO mb m r 2 qO,rfl,rfl⟩) qS (eN hc.1) (eN hc.1)|_,_,_,.red d k hk o ho he,hn=>.mk qS (es1 hc he) qS (λ_=>LJ o ho) (eN hc.1) (eN hc.1)|_,_,_,.out d k hk he,hn=>.mk qS (es1 hc he) qO qO (eN hc.1) (eN hc.1)|_,_,_,.ask d k hk he,hn=>.mk qS (es1 hc he) qS qS (eN hc.1) (eN hc.1)|_,_,_,.ite d he hb hl,hn=>.mk qS (es1 hc he) qS qS (mT hc.1 (by have:=hb.len;omega) (WL.us hc hb qO).all) (mT hc.1 (by have:=hl.len;omega) (WL.us hc hl qO).all)|_,_,_,.tri d k hk hb hl,hn=>.mk qS es0 qS qS (mT hc.1 (by have:=hb.len;omega) (WL.us hc hb qO).all) (mT hc.1 (by have:=hl.len;omega) (WL.us hc hl qO).all)|_,_,_,.loop d k hk h1 h2 hb,hn=>.mk qS (es2 hc h1 h2) qS qS (mT hc.1 (by have:=hb.len;omega) (WL.us hc hb qO).all) (eN hc.1)|_,_,_,.whl d he hb,hn=>.mk qS (es1 hc he) qS qS (mT hc.1 (by have:=hb.len;omega) (WL.us hc hb qO).all) (eN hc.1)
theorem WL.us{N:aq}{mb m r:ab af}{vs:ab bq}(hc:Cov N vs):∀{d n:aq}{ls:ab af},WL N d n ls->n<=1000->ChL (fsC mb m r) vs ls
 |_,_,_,.nil d,_=>.nil|_,_,_,.cons h t,hn=>.cons (WS.us hc h qO) (WL.us hc t qO)
end
theorem H6{N d n:aq}{mb m r:ab af}{vs:ab bq}{ls:ab af}(hc:Cov N vs)(h:WL N d n ls)(hn:n<=1000):r76 [.agg ⟨[frz (fsC mb m r)]⟩,frz (aN vs),frz ls] [] (.int .i64 0) []:=mT hc.1 (by have:=h.len;omega) (WL.us hc h hn).all
theorem LE{mb m r:ab af}{n1 n2 n3:aq}(h:MadeC mb m r n1 n2 n3):r39 [.agg ⟨[frz (fsC mb m r)]⟩] [] (.tuple ⟨[.int .i64 0,.int .i64 0]⟩) []:=by
 have h1:=h.h1;have h2:=h.h2;have h3:=h.h3;have hw1:=h.w1.len;have hw2:=h.w2.len;have hw3:=h.w3.len;have i1:=vO mb m r 0 qO;have i2:=vO mb m r 1 qO;have i3:=vO mb m r 2 qO;have v1:=oA (nmB 9) [] mb L8 qS qO h.v1;have v2:=oA (nmB 10) [nmB 3,nmB 8] m L9 qS qO h.v2;have v3:=oA (nmB 11) [nmB 4] r L8' qS qO h.v3;have e1:ah ag (0+1)=1:=qD;have e2:ah ag (1+1)=2:=qD;obtain⟨v,t,⟨rfl,rfl⟩,hh⟩:=aFW mb m r (λv t=>v=.tuple ⟨[.int .i64 0,.int .i64 0]⟩/\t=stN [] []) (by
  rw[e1,e2];have hs:∀(l:ab bq)(v:af),v∈aN l->ef (dx v)=1:=wG;refine⟨U9 h,_,i1,λc=>cp (dT c) qD,λ_=>⟨L8,v1,λc=>cp (dT c) qD,λ_=>⟨H6 X9 h.w1 qO,_,i2,λ_=>⟨⟨rfl,.inr (hs [nmB 3,nmB 8])⟩,uA [] (nmB 3) qS,_,i2,λ_=>⟨⟨rfl,.inr (hs [nmB 3,nmB 8])⟩,?_,_,i2,λc=>cp (dT c) qD,λ_=>⟨L9,v2,λc=>cp (dT c) qD,λ_=>⟨H6 TV h.w2 qO,_,i3,λ_=>⟨⟨rfl,.inr (hs [nmB 4])⟩,uA [] (nmB 4) qS,_,i3,λc=>cp (dT c) qD,λ_=>⟨L8',v3,λc=>cp (dT c) qD,λ_=>⟨H6 P5 h.w3 qO,rfl,rfl⟩⟩⟩,λc=>cp c qD⟩⟩⟩,λc=>cp c qD⟩,λc=>cp c qD⟩⟩⟩;have:=uA [nmB 3] (nmB 8) qS
  rwa [show iA [nmB 3] (nmB 8)=aa by kernel_rfl] at this)
 exact hh
theorem dW(r:br)(h:0<=r/\r<16):rG [.int .i64 r,.bool au] [] (.bool au) []:=by obtain⟨v,t,⟨rfl,rfl⟩,hk⟩:=VG r au (λv t=>v=.bool au/\t=stN [] []) ⟨λc=>⟨λ_=>⟨λ_=>⟨by simp;omega,rfl⟩,λc2=>cp (show r>0 by have:=eF (T2 c);omega) (by simpa using c2)⟩,λc2=>by simp at c2⟩,λ_=>⟨rfl,rfl⟩⟩;exact hk
theorem bT:rG [.int .i64 0,.bool aa] [] (.bool au) []:=by obtain⟨v,t,⟨rfl,rfl⟩,hk⟩:=VG 0 aa (λv t=>v=.bool au/\t=stN [] []) ⟨λc=>by simp at c,λ_=>⟨rfl,rfl⟩⟩;exact hk
theorem AX(l:ab In)(V S:aq){k:aq}{o:br}(h:bM l k=ae o):rO [cdV l V S,.int .i64 (k:br)] [] (.int .i64 o) []:=by have hlt:=dP h;obtain⟨x,hx,hxo⟩:=yQ h;obtain⟨v,t,⟨rfl,rfl⟩,hk⟩:=aDK l V S k (λv t=>v=.int .i64 o/\t=stN [] []) ⟨λ_=>⟨λc=>cp (dT c) (by simp;omega),λ_=>⟨x.op,x.a,x.b,x.c,x.n,⟨qO,by simp[hx];rfl⟩,by rw[hxo],rfl⟩⟩,λc=>by simp at c;omega⟩;exact hk
theorem GE:rS [] [] (frz shL) []:=by obtain⟨v,t,⟨rfl,rfl⟩,hk⟩:=aBO () (λv t=>v=frz shL/\t=stN [] []) ⟨rfl,rfl⟩;exact hk
theorem T3(b:br)(h:b=1\/b=6\/b=9):rA [.int .i64 b] [] (.bool au) []:=by obtain⟨v,t,⟨rfl,rfl⟩,hk⟩:=aGA b (λv t=>v=.bool au/\t=stN [] []) (by rcases h with rfl|rfl|rfl<;>simp<;>rfl);exact hk
theorem O1{l:ab In}{V S:aq}(hC:dX l V S)(i:aq)(x:In)(hx:l[i]? =ae x):rF [cdV l V S,.int .i64 (i:br),frz shL] [] (.bool au) []:=by
 have hi:i<l.length:=by
  rcases ey i l.length with h|h
  ·exact h
  ·rw[ei h] at hx;cases hx
 have hl:=hC.len;have at':∀ y:In,l[i]? =ae y->(0:br)<=(i:br)/\(l.map aP)[az (i:br)]? =ae (aP y):=λy hy=>⟨qO,by simp[hy]⟩;have key:∀{a:ab af},(∃v t,(v=.bool au/\t=stN [] [])/\FnEx ad 61 a (stN [] []) (λu s'=>u=v/\s'=t))->rF a [] (.bool au) []:=λ⟨v,t,⟨e1,e2⟩,hk⟩=>by subst e1;subst e2;exact hk
 have hf:=hC.fit i x hx;have hT:∀(k:aq),k<l.length->bM l k≠ae 20->(i<k\/bM l k=ae 21)->∃o:br,rO [cdV l V S,.int .i64 (k:br)] [] (.int .i64 o) []/\0<=o/\o≠20/\(i<k\/o=21):=λk h1 h2 h3=>by
  obtain⟨y,hy⟩:∃y,l[k]? =ae y:=⟨l[k],fk h1⟩;have ho:=eU hy;refine⟨y.op,AX l V S ho,?_,λe=>h2 (by rw[ho,e]),h3.imp id λh=>by rw[ho] at h;exact Option.some.inj h⟩;have hf:=hC.fit k y hy;cases hf with
  |e x h=>cases h<;>simp|reg k hk=>rcases hk with rfl|rfl|rfl|rfl|rfl<;>simp
  |_=>simp
 have o21:∀{k:aq}{o:br},(i<k\/o=21)->(decide ((k:br)>(i:br))==aa)=au->.bool (o==21)=(al au):=λh c=>by
  rcases h with h|h
  ·simp at c;omega
  ·simp[h]
 cases hf with
 |e x h=>cases h with|set r h n=>exact key (TF l V S i r n _ ⟨at' _ hx,dW r h,bT,bT,rfl,rfl⟩)|bin r q h h' o ho=>obtain⟨u,b,hb,hr⟩:=AY o;rw[hb ⟨ho.1,ho.2⟩] at hr;exact key (TN l V S i r q o _ ⟨at' _ hx,dW r h,dW r h,dW q h',u,hr,λ_=>⟨by simp;omega,rfl⟩,λc=>by simp at c;omega⟩)|load r h n hn=>exact key (OR l V S i r n _ ⟨at' _ hx,dW r h,dW r h,bT,λ_=>⟨by simp;omega,rfl⟩,λc=>by simp at c;omega⟩)|new r h n hn=>exact key (TM l V S i r n _ ⟨at' _ hx,dW r h,bT,bT,λ_=>⟨by simp;omega,rfl⟩,λc=>by simp at c;omega⟩)|var r h n hn=>exact key (TD l V S i r n _ ⟨at' _ hx,dW r h,bT,bT,λ_=>⟨rfl,rfl⟩,λc=>by simp at c;omega⟩)
 |store n hn=>exact key (KR l V S i n _ ⟨at' _ hx,dW 1 qO,dW 0 qO,bT,λ_=>⟨by simp;omega,rfl⟩,λc=>by simp at c;omega⟩)|setv r hr n hn=>exact key (OP l V S i r n _ ⟨at' _ hx,dW r qO,bT,bT,λ_=>⟨rfl,rfl⟩,λc=>by simp at c;omega⟩)|red b hb n hn=>exact key (TG l V S i b n _ ⟨at' _ hx,dW 0 qO,bT,T3 b hb,λ_=>⟨rfl,rfl⟩,λc=>by simp at c;omega⟩)|jump k h1 h2 h3=>obtain⟨o,ho,o1,o2,o3⟩:=hT k h1 h2 h3;exact key (OS l V S i k _ ⟨at' _ hx,bT,bT,bT,o,ho,λ_=>⟨o,ho,λ_=>⟨λc=>⟨o,ho,o21 o3 c,rfl⟩,λ_=>⟨rfl,rfl⟩⟩,λc=>by simp at c;omega⟩,λc=>by simp at c;omega⟩)|unl k h1 h2 h3=>obtain⟨o,ho,o1,o2,o3⟩:=hT k h1 h2 h3;exact key (TE l V S i k _ ⟨at' _ hx,dW 0 qO,bT,bT,o,ho,λ_=>⟨o,ho,λ_=>⟨λc=>⟨o,ho,o21 o3 c,rfl⟩,λ_=>⟨rfl,rfl⟩⟩,λc=>by simp at c;omega⟩,λc=>by simp at c;omega⟩)
 |call b c n hb hc hn hm=>
  have e:ah .i64 ((i:br)+1)=((i+1:aq):br):=by rw[cm _ qO];simp
  exact key (OU l V S i b c n _ ⟨at' _ hx,bT,λ_=>⟨λ_=>⟨λ_=>⟨λ_=>⟨21,by rw[e];exact AX l V S hm,λ_=>⟨21,AX l V S hn,rfl,rfl⟩,λc=>by simp at c⟩,λc=>by simp at c;omega⟩,λc=>by simp at c;omega⟩,λc=>by simp at c;omega⟩,λc=>by simp at c;omega⟩)
 |reg k hk=>
  rcases hk with rfl|rfl|rfl|rfl|rfl
  ·exact key (TL l V S i _ ⟨at' _ hx,dW 0 qO,bT,bT,rfl,rfl⟩)
  ·exact key (TK l V S i _ ⟨at' _ hx,dW 0 qO,bT,bT,rfl,rfl⟩)
  ·exact key (TJ l V S i _ ⟨at' _ hx,dW 0 qO,bT,bT,rfl,rfl⟩)
  ·exact key (TI l V S i _ ⟨at' _ hx,dW 0 qO,bT,bT,rfl,rfl⟩)
  ·exact key (TH l V S i _ ⟨at' _ hx,dW 0 qO,bT,bT,rfl,rfl⟩)
 |hand n h=>exact key (OT l V S i n _ ⟨at' _ hx,bT,bT,bT,λc=>⟨21,AX l V S (h.resolve_left λe=>by simp[e] at c),rfl,rfl⟩,λ_=>⟨rfl,rfl⟩⟩)
 |ask n hn j hj hm=>
  have e:ah .i64 ((i:br)-1)=((j:aq):br):=by rw[cm _ qO];omega
  exact key (TO l V S i n _ ⟨at' _ hx,bT,bT,bT,λ_=>⟨21,by rw[e];exact AX l V S hm,rfl,rfl⟩,λc=>by simp at c;omega⟩)
 |mark=>exact key (OQ l V S i _ _ ⟨at' _ hx,bT,bT,bT,rfl,rfl⟩)
theorem aAJ:(pcs ad 28).drop 10=.block 0 (.loop (aJ (nth (pcs ad 28) 10)))::(pcs ad 28).drop 11:=by kernel_rfl
def r28:bB:=dG ad 28 []
theorem FitF.mk_n{l:ab In}{i:aq}{x:In}(h:FitF l i x)(ho:x.op=21):x.n=(mkc (l.take i):aq):=by
 cases h with
 |e x h=>cases h<;>simp at ho|reg k hk=>rcases hk with rfl|rfl|rfl|rfl|rfl<;>simp at ho
 |mark=>rfl|_=>simp at ho
theorem MA{l:ab In}{V S:aq}(hC:dX l V S):∀(suf pre:ab In),l=pre++suf->Lp ad 0 (aJ (nth (pcs ad 28) 10)) suf.length (CK l V S) (DY l pre.length (mkc pre:aq)) (.exit 0) (CK l V S) (DY l l.length (mkc l:aq)):=by
 have hl:=hC.len;intro suf;induction suf with
 |nil=>intro pre he;rw[fh] at he;subst he;obtain⟨x,s',f',⟨rfl,rfl,rfl⟩,hk⟩:=UM l V S l.length (mkc l:aq) (λx t f=>x=.exit 0/\t=CK l V S/\f=DY l l.length (mkc l:aq)) ⟨λc=>by simp at c,λ_=>⟨rfl,rfl,rfl⟩⟩;exact .stop hk qS
 |cons u suf ih=>
  intro pre he;have hlen:l.length=pre.length+(suf.length+1):=by rw[he];simp
  have hu:l[pre.length]? =ae u:=by rw[he];simp
  have hF:=O1 hC pre.length u hu;have ht:l.take pre.length=pre:=by rw[he];simp
  have hml:=vI pre;obtain⟨x,s',f',⟨rfl,rfl,rfl⟩,hk⟩:=UM l V S pre.length (mkc pre:aq) (λx t f=>x=.normal/\t=CK l V S/\f=DY l (pre++[u]).length (mkc (pre++[u]):aq)) ⟨λ_=>⟨u.op,u.a,u.b,u.c,u.n,⟨qO,by simp[hu];rfl⟩,hF,λc=>⟨λc2=>by
     have ho:u.op=21:=by simpa using c
     have:=(hC.fit _ u hu).mk_n ho;rw[ht] at this;simp at c2;omega,λ_=>⟨rfl,rfl,by
     have ho:u.op=21:=by simpa using c
     rw[cm _ qO,cm _ qO];have:mkc (pre++[u])=mkc pre+1:=by simp[mkc,isM,ho]
     rw[this,cg];rfl⟩⟩,λc=>⟨rfl,rfl,by
     have ho:u.op≠21:=by simpa using c
     rw[cm _ qO];have:mkc (pre++[u])=mkc pre:=by simp[mkc,isM,ho]
     rw[this,cg];rfl⟩⟩,λc=>by simp at c;omega⟩
  exact .more hk (ih (pre++[u]) (by rw[he];simp))
theorem qI{l:ab In}{V S:aq}(hC:dX l V S):r28 [cdV l V S] [] (.bool au) []:=by
 have hl:=hC.len;have h0:=dP hC.hd;have hV:=hC.vars;have hS:=hC.cnt;have hmc:=vI l;obtain⟨x0,e0,p0'⟩:=yQ hC.hd;obtain⟨xl,el,pl⟩:=yQ hC.last;have ew:ah .i64 ((l.length:br)-1)=((l.length-1:aq):br):=by rw[cm _ qO];omega
 obtain⟨x,s',f',⟨rfl,rfl,rfl⟩,ha⟩:=aAL l V S (λx t f=>x=.normal/\t=CK l V S/\f=DY l (([]:ab In).length) (mkc ([]:ab In):aq)) ⟨λ_=>⟨λ_=>⟨λ_=>⟨x0.op,x0.a,x0.b,x0.c,x0.n,⟨qO,by simp[e0];rfl⟩,λc=>by simp[p0'] at c,λ_=>⟨xl.op,xl.a,xl.b,xl.c,xl.n,⟨by rw[fa,ew];omega,by rw[fa,ew];simp[el];rfl⟩,λc=>by simp[pl] at c,λ_=>⟨GE,rfl,rfl,by rw[fa];rfl⟩⟩⟩,λc=>by simp at c;omega⟩,λc=>by simp at c;omega⟩,λc=>by simp at c;omega⟩;refine ip (fn:=Tryz.f28) Tryz.func28 rfl rfl 0 rfl ?_;refine fo 10 ha ?_;rw[aAJ];refine(MA hC l [] rfl).ex (outQ.exit ?_);obtain⟨v,t,⟨rfl,rfl⟩,hf⟩:=aAK l V S l.length (mkc l:aq) (λv t=>v=.bool au/\t=stN [] []) ⟨by simp[hS],rfl⟩;exact hf
theorem aF8{os:ab O}{id:br}(h:SmO os):r38 [bF os,.int .i64 id] [] (.int .i64 (atI os id 0)) []:=ve (d:=6) (d':=6) (P8 os id h) rfl rfl (stN [] [])
theorem aDR{o:O}(h:SmV o.2):r99 [aF o] [] (aF o) []:=ve (d:=6) (d':=6) (PT o h) rfl rfl (stN [] [])
theorem I9{os:ab O}{id f:br}(h:SmO os):r19 [bF os,.int .i64 id,.int .i64 f] [] (.tuple ⟨[aM ((rdI os id f).getD (aa,0)),.bool (rdI os id f).isSome]⟩) []:=ve (d:=6) (d':=6) (I8 os id f h) rfl rfl (stN [] [])
theorem g9{g:FuncId}{args:ab af}{PV:af->Prop}(h:∃v t,(PV v/\t=aH [] 0 0)/\FnEx ad g args (stN [] []) (λu s'=>u=v/\s'=t)):∃v,PV v/\bP ad g [] [] [] args [] v []:=by obtain⟨v,_,⟨h1,rfl⟩,h2⟩:=h;exact⟨v,h1,h2⟩
theorem aFD{os:ab O}{id:br}(h:SmO os):∃a o b,r62 [bF os,.int .i64 id] [] (.tuple ⟨[aF (a,o),.bool b]⟩) []:=by
 have:∃v,(∃a o b,v=.tuple ⟨[aF (a,o),.bool b]⟩)/\r62 [bF os,.int .i64 id] [] v []:=by refine g9 (aFC os id _ ⟨_,aF8 h,λhi=>?_,λ_=>⟨⟨0,[],aa,rfl⟩,rfl⟩⟩);have hi:=of_decide_eq_true hi;cases hf:nU os id with|none=>rw[rY os id 0 hf] at hi;omega|some o=>obtain⟨k,h1,h2,_⟩:=nZ os id 0 o hf;exact⟨o.1,o.2,⟨hi,by rw[h1,fu];exact lM h2⟩,o.1,o.2,aDR (h.2 o (List.mem_of_getElem? h2)),⟨o.1,o.2,au,rfl⟩,rfl⟩
 obtain⟨_,⟨a,o,b,rfl⟩,h2⟩:=this;exact⟨a,o,b,h2⟩
theorem gtE{os:ab O}{id:br}{R:br->ab V->cz->Prop}(h:SmO os)(hr:∀ a o b,R a o b):∃a o b,r62 [bF os,.int .i64 id] [] (.tuple ⟨[.agg ⟨[.int .i64 a,frz (o.map aM)]⟩,.bool b]⟩) []/\R a o b:=by obtain⟨a,o,b,h2⟩:=aFD (id:=id) h;exact⟨a,o,b,h2,hr a o b⟩
theorem SB(n:br):m9 [.int .i64 n] [] (aM (aa,n)) []:=by obtain⟨_,rfl,h⟩:=g9 (PV:=λv=>v=aM (aa,n)) (WM n _ ⟨rfl,rfl⟩);exact h
theorem aFG(b:cz):∃n,wS [.bool b] [] (aM (aa,n)) []:=by obtain⟨_,⟨n,rfl⟩,h⟩:=g9 (PV:=λv=>∃n,v=aM (aa,n)) (aFF b _ ⟨λhb=>⟨_,SB 1,⟨_,rfl⟩,rfl⟩,λhb=>⟨_,SB 0,⟨_,rfl⟩,rfl⟩⟩);exact⟨n,h⟩
theorem aAY(b:cz)(n:br):∃x,r68 [aM (b,n)] [] (.bool x) []:=by obtain⟨_,⟨n,rfl⟩,h⟩:=g9 (PV:=λv=>∃n,v=.bool n) (aAX b n _ ⟨⟨_,rfl⟩,rfl⟩);exact⟨n,h⟩
theorem aE1(l:ab In)(V S:aq)(n:br):∃x,r64 [cdV l V S,.int .i64 n] [] (.bool x) []:=by
 obtain⟨_,⟨n,rfl⟩,h⟩:=g9 (PV:=λv=>∃n,v=.bool n) (aE0 l V S n _ ⟨λh1=>⟨λh2=>by
   have h1:0<=n:=by simpa using h1
   have h2:n<l.length:=by simpa using h2
   have h3:n.toNat<l.length:=qO;have:l[n.toNat]? =ae l[n.toNat]:=by simp[h3]
   exact⟨_,_,_,_,_,⟨h1,by rw[iw,this];rfl⟩,⟨_,rfl⟩,rfl⟩,λ_=>⟨⟨_,rfl⟩,rfl⟩⟩,λ_=>⟨⟨_,rfl⟩,rfl⟩⟩)
 exact⟨n,h⟩
theorem aGQ(o:br)(ho:1<=o)(ho':o<=11)(a b:V):∃c n f,r66 [.int .i64 o,aM a,aM b] [] (.tuple ⟨[aM (c,n),.int .i64 f]⟩) []:=by
 obtain⟨a,n⟩:=a;obtain⟨b,m⟩:=b;suffices h:∃v,(∃c n f,v=.tuple ⟨[aM (c,n),.int .i64 f]⟩)/\r66 [.int .i64 o,aM (a,n),aM (b,m)] [] v [] by obtain⟨_,⟨c,n,f,rfl⟩,h⟩:=h;exact⟨c,n,f,h⟩
 have z:∀{c:cz}{n f:br},(∃c' n' f',gr ⟨[aM (c,n),.int .i64 f]⟩=.tuple ⟨[aM (c',n'),.int .i64 f']⟩)/\aH [] 0 0=aH [] 0 0:=⟨⟨_,_,_,rfl⟩,rfl⟩;have y:∀(b:cz)(R:br->Prop),(∀ n,R n)->∃n,wS [.bool b] [] (aM (aa,n)) []/\R n:=λb R h=>by obtain⟨n,h1⟩:=aFG b;exact⟨n,h1,h n⟩
 have x:∀(m:br)(R:br->Prop),(∀ n,R n)->∃n,m9 [.int .i64 m] [] (aM (aa,n)) []/\R n:=λm R h=>⟨m,SB m,h m⟩;rcases(show o=1\/o=2\/o=3\/o=4\/o=5\/o=6\/o=7\/o=8\/o=9\/o=10\/o=11 by omega) with rfl|rfl|rfl|rfl|rfl|rfl|rfl|rfl|rfl|rfl|rfl
 ·exact g9 (aGZ a n b m _ ⟨λ_=>⟨λ_=>z,λ_=>x _ _ λ_=>z⟩,λ_=>z⟩)
 ·exact g9 (aGY a n b m _ ⟨λ_=>⟨λ_=>z,λ_=>x _ _ λ_=>z⟩,λ_=>z⟩)
 ·exact g9 (aGX a n b m _ ⟨λ_=>⟨λ_=>z,λ_=>x _ _ λ_=>z⟩,λ_=>z⟩)
 ·exact g9 (aGW a n b m _ ⟨λ_=>⟨λ_=>z,λ_=>⟨λ_=>z,λh=>⟨λ_=>x _ _ λ_=>z,λ_=>⟨by rw[h];rfl,x _ _ λ_=>z⟩⟩⟩⟩,λ_=>z⟩)
 ·exact g9 (aGV a n b m _ ⟨λ_=>⟨λ_=>z,λ_=>x _ _ λ_=>z⟩,λ_=>z⟩)
 ·exact g9 (aGU a n b m _ ⟨λ_=>⟨λ_=>z,λ_=>x _ _ λ_=>z⟩,λ_=>z⟩)
 ·exact g9 (aGT a n b m _ ⟨λ_=>⟨λ_=>z,λ_=>x _ _ λ_=>z⟩,λ_=>z⟩)
 ·exact g9 (aGS a n b m _ ⟨λ_=>⟨λ_=>z,λ_=>x _ _ λ_=>z⟩,λ_=>z⟩)
 ·exact g9 (aGR a n b m _ ⟨λ_=>⟨λ_=>z,λ_=>x _ _ λ_=>z⟩,λ_=>z⟩)
 ·exact g9 (ZW a n b m _ ⟨λ_=>⟨λ_=>z,λ_=>y _ _ λ_=>z⟩,λ_=>z⟩)
 ·cases a<;>cases b
  ·exact g9 (ZV n m _ (y _ _ λ_=>z))
  ·exact g9 (ZU n m _ (y _ _ λ_=>z))
  ·exact g9 (ZT n m _ (y _ _ λ_=>z))
  ·exact g9 (ZS n m _ (y _ _ λ_=>z))
structure KOK(K:KX):Prop where
 os:SmO K.os
structure Iv(K:KX)(n:aq)(X:OX):Prop where
 rs:X.rs.length<=n
 ws:X.ws.length<=n
 nw:X.nw=[]
 ac:X.ac=[]
 kd:X.kd=0\/X.kd=2\/(X.kd=1/\0<=X.st/\X.st<=K.nS)
section
variable{K:KX}{n m:aq}{X Z:OX}
theorem Iv.mono(h:Iv K m X)(hm:m<=n):Iv K n X:=⟨ej h.rs hm,ej h.ws hm,h.nw,h.ac,h.kd⟩
theorem Iv.upd(h:Iv K m Z)(hm:m<=n){pc:br}{g:aq->V}{dl:ab af}{th:cz}{v:V}{bk:cz}:Iv K n ⟨Z.kd,pc,g,Z.rs,Z.ws,Z.nw,dl,Z.ac,Z.st,th,v,bk⟩:=⟨ej h.rs hm,ej h.ws hm,h.nw,h.ac,h.kd⟩
theorem Iv.upd2(h:Iv K m Z)(hm:m<=n){pc:br}{g:aq->V}{dl:ab af}{st:br}{th:cz}{v:V}{bk:cz}:Iv K n ⟨2,pc,g,Z.rs,Z.ws,Z.nw,dl,Z.ac,st,th,v,bk⟩:=⟨ej h.rs hm,ej h.ws hm,h.nw,h.ac,.inr (.inl rfl)⟩
theorem Iv.upd1(h:Iv K m Z)(hm:m<=n){pc:br}{g:aq->V}{dl:ab af}{th:cz}{v:V}{bk:cz}:Iv K n ⟨1,pc,g,Z.rs,Z.ws,Z.nw,dl,Z.ac,K.nS,th,v,bk⟩:=⟨ej h.rs hm,ej h.ws hm,h.nw,h.ac,.inr (.inr ⟨rfl,by show(0:br)<=K.nS;omega,pz _⟩)⟩
end
def oS(K:KX)(Y:OX):St:=aH [(0,.row aa (oY K Y) 105),(3,.srow (cC Y.rs) 76),(4,.srow (cC Y.ws) 76)] 5 0
theorem dB{g:FuncId}{args:ab af}{K:KX}{X:OX}{PV:af->OX->Prop}(h:∃v t,(∃Y,t=oS K Y/\PV v Y)/\FnEx ad g args (stM kO1 [oX K X,cC X.rs,cC X.ws]) (λu s'=>u=v/\s'=t)):∃v Y,PV v Y/\bP ad g kO1 kO2 nO args [oX K X,cC X.rs,cC X.ws] v [oY K Y,cC Y.rs,cC Y.ws]:=by obtain⟨v,_,⟨Y,rfl,h1⟩,h2⟩:=h;exact⟨v,Y,h1,h2⟩
theorem lfX{K:KX}{kd pc:br}{g:aq->V}{rs ws:ab C4}{nw:ab O}{dl:ab af}{ac:ab A3}{st:br}{th vb:cz}{vn:br}{bk:cz}{PV:OX->Prop}(h:PV ⟨kd,pc,g,rs,ws,nw,dl,ac,st,th,(vb,vn),bk⟩):∃Y,aH [(0,.row aa (xR K kd pc g 3 rs.length 4 ws.length nw dl ac st th vb vn bk) 105),(3,.srow (cC rs) 76),(4,.srow (cC ws) 76)] 5 0=oS K Y/\PV Y:=⟨⟨kd,pc,g,rs,ws,nw,dl,ac,st,th,(vb,vn),bk⟩,rfl,h⟩
theorem bL{p:Prop}(h:p:=by first|exact Iv.mono (by assumption) qO|exact Iv.upd (by assumption) qO|exact Iv.upd2 (by assumption) qO|exact Iv.upd1 (by assumption) qO):p:=h
theorem hZ{p:Prop}(h:p:=by first|rfl|exact⟨_,rfl⟩|exact⟨_,_,rfl⟩|exact⟨_,_,_,rfl⟩):p:=h
section
variable{K:KX}{n:aq}{X:OX}
theorem aCC(hK:KOK K)(h:Iv K n X):∃Y,Iv K n Y/\r29 [p0] [oX K X,cC X.rs,cC X.ws] (.tuple ⟨[]⟩) [oY K Y,cC Y.rs,cC Y.ws]:=by obtain⟨_,Y,⟨rfl,hY⟩,h2⟩:=dB (PV:=λv Y=>v=.tuple ⟨[]⟩/\Iv K n Y) (aCB K X _ (gtE hK.os λa o b=>⟨λ_=>⟨λ_=>lfX ⟨hZ,bL⟩,λ_=>lfX ⟨hZ,bL⟩⟩,λ_=>lfX ⟨hZ,bL⟩⟩));exact⟨Y,hY,h2⟩
theorem uH(l:ab C4)(id f:br)(b:cz)(k:br):cC l++[.int .i64 id,.int .i64 f,.bool b,.int .i64 k]=cC (l++[(id,f,b,k)]):=by simp[cC,aB,aL,List.flatMap_append];rfl
theorem hH(l:ab C4):(cC l).length=l.length*4:=by
 induction l with
 |nil=>rfl
 |cons x l ih=>
  have:cC (x::l)=(aL x).cells.toList++cC l:=by simp[cC,aB]
  rw[this,cg,ih,jy];show 4+_=_;omega
theorem UG(h:Iv K n X)(hn:n<=200)(id f:br)(b:cz)(k:br):∃Y,Iv K (n+1) Y/\r65 [p0,.int .i64 id,.int .i64 f,aM (b,k)] [oX K X,cC X.rs,cC X.ws] (.tuple ⟨[]⟩) [oY K Y,cC Y.rs,cC Y.ws]:=by
 obtain⟨_,Y,⟨rfl,hY⟩,h2⟩:=dB (PV:=λv Y=>v=.tuple ⟨[]⟩/\Iv K (n+1) Y) (ZZ K X id f b k _ ⟨cP (by have:=h.ws;omega) (by have:=h.ws;omega),(hH _).symm,⟨{X with ws:=X.ws++[(id,f,b,k)]},by
   rw[uH];show _=aH [(0,.row aa (xR K X.kd X.pc X.g 3 X.rs.length 4 (X.ws++[(id,f,b,k)]).length X.nw X.dl X.ac X.st X.th X.v.1 X.v.2 X.bk) 105),_,_] 5 0;rw[cg];rfl,rfl,⟨ju h.rs,by show(X.ws++[_]).length<=_;rw[cg];exact jx h.ws 1,h.nw,h.ac,h.kd⟩⟩⟩)
 exact⟨Y,hY,h2⟩
theorem wtE{R:OX->Prop}{id f:br}{b:cz}{k:br}(h:Iv K n X)(hn:n<=200)(hr:∀ Y,Iv K (n+1) Y->R Y):∃Y,r65 [p0,.int .i64 id,.int .i64 f,.agg ⟨[.bool b,.int .i64 k]⟩] [oX K X,cC X.rs,cC X.ws] (.tuple ⟨[]⟩) [oY K Y,cC Y.rs,cC Y.ws]/\R Y:=by obtain⟨Y,h1,h2⟩:=UG h hn id f b k;exact⟨Y,h2,hr Y h1⟩
theorem rtE{R:OX->Prop}(hK:KOK K)(h:Iv K n X)(hr:∀ Y,Iv K n Y->R Y):∃Y,r29 [p0] [oX K X,cC X.rs,cC X.ws] (.tuple ⟨[]⟩) [oY K Y,cC Y.rs,cC Y.ws]/\R Y:=by obtain⟨Y,h1,h2⟩:=aCC hK h;exact⟨Y,h2,hr Y h1⟩
end
def IM(K:KX)(Y:OX)(b:cz)(n:br):St:=aH [(0,.row aa (oY K Y) 105),(3,.srow (cC Y.rs) 76),(4,.srow (cC Y.ws) 76),(5,.row aa [.bool b,.int .i64 n] 55)] 6 0
theorem VL(K:KX)(Y:OX)(b:cz)(n:br):∃v t,(v=aM (b,n)/\t=oS K Y)/\∀ x:HX,xK x=au->FinQ ad Tryz.f31 3 (λu s'=>u=v/\s'=t) x (IM K Y b n) (mkF [(6,p5)] 65):=FinQ.endE (P:=ad) (fn:=Tryz.f31) (s:=IM K Y b n) (f:=mkF [(6,p5)] 65) [] ⟨[(0,0,aa),(3,3,aa),(4,4,aa)],[],[],5,3,au⟩ (n0:=3) (Q:=λv t=>v=aM (b,n)/\t=oS K Y) rfl .nil ⟨rfl,rfl⟩ qK
theorem T0(p q:ab C4):cC (p++q)=cC p++cC q:=by simp[cC,aB]
theorem P6(p:ab C4)(c:C4)(q:ab C4):dr 4 (dq (0+az (p.length:aq)*4) (cC (p++c::q)))=[.int .i64 c.1,.int .i64 c.2.1,.bool c.2.2.1,.int .i64 c.2.2.2]:=by rw[T0,gn,fu,<-hH,qi];rfl
theorem VK:(pcs ad 31).drop 5=.block 0 (.loop (aJ (nth (pcs ad 31) 5)))::(pcs ad 31).drop 6:=by kernel_rfl
section
variable{K:KX}{n:aq}{X:OX}
theorem M1(K:KX)(X:OX)(b:cz)(n id f:br)(hl:X.rs.length<=300):∀(suf pre:ab C4),X.rs=pre++suf->∃(mm:aq)(x:HX)(s':St)(f':HF),Lp ad 3 (aJ (nth (pcs ad 31) 5)) mm (CL K X b n) (DZ id f X.rs.length pre.length) x s' f'/\((x=.exit 0/\s'=CL K X b n/\f'=DZ id f X.rs.length X.rs.length)\/(x=.ret/\s'=IM K X b n/\f'=mkF [(6,p5)] 65)):=by
 intro suf;induction suf with
 |nil=>intro pre he;rw[fh] at he;obtain⟨x,s',f',⟨rfl,rfl,rfl⟩,hk⟩:=VN K X b n id f pre.length (λx t g=>x=.exit 0/\t=CL K X b n/\g=DZ id f X.rs.length pre.length) ⟨λc=>cp (dT c) (by rw[he];omega),λ_=>⟨rfl,rfl,rfl⟩⟩;exact⟨0,_,_,_,.stop hk qS,.inl ⟨rfl,rfl,by rw[he]⟩⟩
 |cons c suf ih=>
  intro pre he;have hlen:X.rs.length=pre.length+(suf.length+1):=by rw[he];simp
  have nx:ah ag ((pre.length:br)+1)=((pre++[c]).length:aq):=by rw[cm _ qO,cg];rfl
  obtain⟨x,s',f',hq,hk⟩:=VN K X b n id f pre.length (λx t g=>(x=.normal/\t=CL K X b n/\g=DZ id f X.rs.length ((pre++[c]).length:aq))\/(x=.ret/\t=IM K X b n/\g=mkF [(6,p5)] 65)) ⟨λ_=>⟨by simp;omega,c.1,c.2.1,c.2.2.1,c.2.2.2,⟨by rw[hH];omega,by rw[he];exact P6 pre c suf⟩,λ_=>⟨λ_=>.inr ⟨rfl,rfl,rfl⟩,λ_=>.inl ⟨rfl,rfl,by rw[nx];rfl⟩⟩,λ_=>.inl ⟨rfl,rfl,by rw[nx];rfl⟩⟩,λc=>cp (dF c) qO⟩;obtain⟨rfl,rfl,rfl⟩|⟨rfl,rfl,rfl⟩:=hq
  ·obtain⟨mm,x,s',f',h1,h2⟩:=ih (pre++[c]) (by rw[he];simp);exact⟨mm+1,x,s',f',.more hk h1,h2⟩
  ·exact⟨0,_,_,_,.stop hk qS,.inr ⟨rfl,rfl,rfl⟩⟩
theorem VM(hK:KOK K)(h:Iv K n X)(hn:n<=200)(id f:br):∃b k Y,Iv K (n+1) Y/\r31 [p0,.int .i64 id,.int .i64 f] [oX K X,cC X.rs,cC X.ws] (aM (b,k)) [oY K Y,cC Y.rs,cC Y.ws]:=by
 suffices H:∃v Y,((∃b k,v=aM (b,k))/\Iv K (n+1) Y)/\r31 [p0,.int .i64 id,.int .i64 f] [oX K X,cC X.rs,cC X.ws] v [oY K Y,cC Y.rs,cC Y.ws] by obtain⟨_,Y,⟨⟨b,k,rfl⟩,hY⟩,h2⟩:=H;exact⟨b,k,Y,hY,h2⟩
 have hrs:=h.rs;obtain⟨x,s',f',hq,ha⟩:=aCO K X id f (λx t g=>(x=.ret/\t=IM K {X with bk:=au} aa 0/\g=mkF [(6,p5)] 65)\/(x=.normal/\∃b k,t=CL K X b k/\g=DZ id f X.rs.length ([]:ab C4).length)) ⟨_,_,_,I9 hK.os,λ_=>.inl ⟨rfl,rfl,rfl⟩,λ_=>.inr ⟨rfl,_,_,rfl,rfl⟩⟩;rcases hq with⟨rfl,rfl,rfl⟩|⟨rfl,b,k,rfl,rfl⟩
 ·obtain⟨v,t,⟨rfl,rfl⟩,he⟩:=VL K {X with bk:=au} aa 0;refine⟨aM (aa,0),{X with bk:=au},⟨⟨aa,0,rfl⟩,Iv.upd h (Nat.le_succ n)⟩,?_⟩;refine ip (fn:=Tryz.f31) Tryz.func31 rfl rfl 3 rfl ?_;exact px 5 ha qS (he _ rfl)
 ·obtain⟨mm,x,s',f',h1,h2⟩:=M1 K X b k id f qO X.rs [] rfl;rcases h2 with⟨rfl,rfl,rfl⟩|⟨rfl,rfl,rfl⟩
  ·obtain⟨v,t,⟨rfl,rfl⟩,hf⟩:=aCN K X b k id f X.rs.length (λv t=>v=aM (b,k)/\t=oS K {X with rs:=X.rs++[(id,f,b,k)]}) ⟨cP qO qO,(hH _).symm,rfl,by
    rw[uH];show _=aH [(0,.row aa (xR K X.kd X.pc X.g 3 (X.rs++[(id,f,b,k)]).length 4 X.ws.length X.nw X.dl X.ac X.st X.th X.v.1 X.v.2 X.bk) 105),_,_] 5 0;rw[cg];rfl⟩
   refine⟨aM (b,k),{X with rs:=X.rs++[(id,f,b,k)]},⟨⟨b,k,rfl⟩,⟨by show(X.rs++[_]).length<=_;rw[cg];exact jx h.rs 1,ju h.ws,h.nw,h.ac,h.kd⟩⟩,?_⟩;refine ip (fn:=Tryz.f31) Tryz.func31 rfl rfl 3 rfl ?_;refine fo 5 ha ?_;rw[VK];exact h1.ex (outQ.exit hf)
  ·obtain⟨v,t,⟨rfl,rfl⟩,he⟩:=VL K X b k;refine⟨aM (b,k),X,⟨⟨b,k,rfl⟩,h.mono (Nat.le_succ n)⟩,?_⟩;refine ip (fn:=Tryz.f31) Tryz.func31 rfl rfl 3 rfl ?_;refine fo 5 ha ?_;rw[VK];exact h1.ex (he _ rfl)
theorem rdE{R:cz->br->OX->Prop}{id f:br}(hK:KOK K)(h:Iv K n X)(hn:n<=200)(hr:∀ b k Y,Iv K (n+1) Y->R b k Y):∃b k Y,r31 [p0,.int .i64 id,.int .i64 f] [oX K X,cC X.rs,cC X.ws] (.agg ⟨[.bool b,.int .i64 k]⟩) [oY K Y,cC Y.rs,cC Y.ws]/\R b k Y:=by obtain⟨b,k,Y,h1,h2⟩:=VM hK h hn id f;exact⟨b,k,Y,h2,hr b k Y h1⟩
theorem fmE{R:br->br->OX->Prop}(hK:KOK K)(h:Iv K n X)(hn:n<=200)(hr:∀ f m Y,Iv K (n+1) Y->R f m Y):∃f m Y,r63 [p0] [oX K X,cC X.rs,cC X.ws] (.tuple ⟨[.int .i64 f,.int .i64 m]⟩) [oY K Y,cC Y.rs,cC Y.ws]/\R f m Y:=by obtain⟨_,Y,⟨⟨f,m,rfl⟩,hY⟩,h2⟩:=dB (PV:=λv Y=>(∃f m,v=.tuple ⟨[.int .i64 f,.int .i64 m]⟩)/\Iv K (n+1) Y) (aFE K X _ (rtE hK h λY1 i1=>⟨λ_=>lfX ⟨hZ,bL⟩,λ_=>rdE hK i1 hn λb4 n4 Z4 i4=>gtE hK.os λa o b6=>⟨λ_=>⟨λ_=>⟨λ_=>lfX ⟨hZ,bL⟩,λ_=>lfX ⟨hZ,bL⟩⟩,λ_=>lfX ⟨hZ,bL⟩⟩,λ_=>lfX ⟨hZ,bL⟩⟩⟩));exact⟨f,m,Y,h2,hr f m Y hY⟩
theorem imE{R:cz->Prop}{l:ab In}{V S:aq}{k:br}(hr:∀ x,R x):∃x,r64 [.agg ⟨[frz (l.map aP),.int .i64 V,.int .i64 S]⟩,.int .i64 k] [] (.bool x) []/\R x:=by obtain⟨x,h⟩:=aE1 l V S k;exact⟨x,h,hr x⟩
theorem thE{R:OX->Prop}{b:cz}{k:br}(hK:KOK K)(h:Iv K n X)(hn:n<=190)(hr:∀ Y,Iv K (n+5) Y->R Y):∃Y,r30 [p0,.agg ⟨[.bool b,.int .i64 k]⟩] [oX K X,cC X.rs,cC X.ws] (.tuple ⟨[]⟩) [oY K Y,cC Y.rs,cC Y.ws]/\R Y:=by obtain⟨_,Y,⟨rfl,hY⟩,h2⟩:=dB (PV:=λv Y=>v=.tuple ⟨[]⟩/\Iv K (n+5) Y) (aAZ K X b k _ (fmE hK h qO λf1 m1 Y1 i1=>⟨λ_=>lfX ⟨hZ,bL⟩,λ_=>rdE hK i1 qO λb4 n4 Z4 i4=>⟨λ_=>⟨λ_=>imE λb8=>⟨λ_=>lfX ⟨hZ,bL⟩,λ_=>wtE i4 qO λY11 i11=>wtE i11 qO λY13 i13=>lfX ⟨hZ,bL⟩⟩,λ_=>rdE hK i4 qO λb8 n8 Z8 i8=>⟨λ_=>lfX ⟨hZ,bL⟩,λ_=>⟨λ_=>lfX ⟨hZ,bL⟩,λ_=>wtE i8 qO λY12 i12=>wtE i12 qO λY14 i14=>lfX ⟨hZ,bL⟩⟩⟩⟩,λ_=>lfX ⟨hZ,bL⟩⟩⟩));exact⟨Y,h2,hr Y hY⟩
theorem faE{R:OX->Prop}{k:br}(hK:KOK K)(h:Iv K n X)(hn:n<=190)(hr:∀ Y,Iv K (n+5) Y->R Y):∃Y,r67 [p0,.int .i64 k] [oX K X,cC X.rs,cC X.ws] (.tuple ⟨[]⟩) [oY K Y,cC Y.rs,cC Y.ws]/\R Y:=by obtain⟨_,Y,⟨rfl,hY⟩,h2⟩:=dB (PV:=λv Y=>v=.tuple ⟨[]⟩/\Iv K (n+5) Y) (aFJ K X k _ (thE hK h hn λY1 i1=>lfX ⟨hZ,bL⟩));exact⟨Y,h2,hr Y hY⟩
theorem vaE{R:br->br->cz->OX->Prop}{k:br}(hK:KOK K)(h:Iv K n X)(hn:n<=180)(hr:∀ f m b Y,Iv K (n+6) Y->R f m b Y):∃f m b Y,r69 [p0,.int .i64 k] [oX K X,cC X.rs,cC X.ws] (.tuple ⟨[.int .i64 f,.int .i64 m,.bool b]⟩) [oY K Y,cC Y.rs,cC Y.ws]/\R f m b Y:=by obtain⟨_,Y,⟨⟨f,m,b,rfl⟩,hY⟩,h2⟩:=dB (PV:=λv Y=>(∃f m b,v=.tuple ⟨[.int .i64 f,.int .i64 m,.bool b]⟩)/\Iv K (n+6) Y) (aAM K X k _ (fmE hK h qO λf1 m1 Y1 i1=>⟨λ_=>lfX ⟨hZ,bL⟩,λ_=>⟨λ_=>faE hK i1 qO λY5 i5=>lfX ⟨hZ,bL⟩,λ_=>lfX ⟨hZ,bL⟩⟩⟩));exact⟨f,m,b,Y,h2,hr f m b Y hY⟩
theorem obE{R:br->cz->OX->Prop}{b:cz}{k f:br}(hK:KOK K)(h:Iv K n X)(hn:n<=180)(hr:∀ f b Y,Iv K (n+5) Y->R f b Y):∃m x Y,r70 [p0,.agg ⟨[.bool b,.int .i64 k]⟩,.int .i64 f] [oX K X,cC X.rs,cC X.ws] (.tuple ⟨[.int .i64 m,.bool x]⟩) [oY K Y,cC Y.rs,cC Y.ws]/\R m x Y:=by obtain⟨_,Y,⟨⟨m,x,rfl⟩,hY⟩,h2⟩:=dB (PV:=λv Y=>(∃m x,v=.tuple ⟨[.int .i64 m,.bool x]⟩)/\Iv K (n+5) Y) (aDQ K X b k f _ ⟨λ_=>faE hK h qO λY2 i2=>lfX ⟨hZ,bL⟩,λ_=>⟨λ_=>faE hK h qO λY3 i3=>lfX ⟨hZ,bL⟩,λ_=>gtE hK.os λa o b3=>⟨λ_=>lfX ⟨hZ,bL⟩,λ_=>⟨λ_=>faE hK h qO λY7 i7=>lfX ⟨hZ,bL⟩,λ_=>lfX ⟨hZ,bL⟩⟩⟩⟩⟩);exact⟨m,x,Y,h2,hr m x Y hY⟩
end
theorem Q4{r:br}(h:0<=r/\r<16):r=0\/r=1\/r=2\/r=3\/r=4\/r=5\/r=6\/r=7\/r=8\/r=9\/r=10\/r=11\/r=12\/r=13\/r=14\/r=15:=qO
theorem rgE{R:cz->br->Prop}{r:br}{g:aq->V}(h:0<=r/\r<16)(hr:∀ b n,R b n):∃b n,(40<=40+az r*2/\40+az r*2+2<=72/\dr 2 (dq (40+az r*2-40) (rgL g))=[al b,ao ag n])/\R b n:=by refine⟨(g r.toNat).1,(g r.toNat).2,⟨qO,qO,?_⟩,hr _ _⟩;rcases Q4 h with rfl|rfl|rfl|rfl|rfl|rfl|rfl|rfl|rfl|rfl|rfl|rfl|rfl|rfl|rfl|rfl<;>kernel_rfl
theorem rkE{R:cz->br->Prop}{r:br}{g:aq->V}(h:0<=r/\r<16)(hr:∀ b n,R b n):∃b n,(4<=4+az r*2/\4+az r*2+2<=36/\dr 2 (dq (4+az r*2-4) (rgL g))=[al b,ao ag n])/\R b n:=by refine⟨(g r.toNat).1,(g r.toNat).2,⟨qO,qO,?_⟩,hr _ _⟩;rcases Q4 h with rfl|rfl|rfl|rfl|rfl|rfl|rfl|rfl|rfl|rfl|rfl|rfl|rfl|rfl|rfl|rfl<;>kernel_rfl
theorem rsE{R:(aq->V)->Prop}{r:br}{g:aq->V}{b:cz}{n:br}(h:0<=r/\r<16)(hr:∀ g,R g):∃g2,(40<=40+az r*2/\40+az r*2+2<=72/\dr (40+az r*2-40) (rgL g)++[al b,ao ag n]++dq (40+az r*2-40+2) (rgL g)=rgL g2)/\R g2:=by refine⟨λk=>bif bx k r.toNat then(b,n) else g k,⟨qO,qO,?_⟩,hr _⟩;rcases Q4 h with rfl|rfl|rfl|rfl|rfl|rfl|rfl|rfl|rfl|rfl|rfl|rfl|rfl|rfl|rfl|rfl<;>kernel_rfl
theorem rIn{r:br}(h:0<=r/\r<16):(decide (0<=r)&&decide (r<(↑16:br)))=true:=by simp;omega
structure Fv(K:KX)(n:aq)(X:OX):Prop where
 rs:X.rs.length<=n
 ws:X.ws.length<=n
 nw:X.nw.length<=1/\∀ o∈X.nw,o.2.length<=100
 ac:X.ac.length<=1
 kd:X.kd=0\/X.kd=2\/(X.kd=1/\0<=X.st/\X.st<=K.nS)\/(X.kd=3/\X.pc=K.pc)
theorem Iv.fv{K:KX}{n:aq}{X:OX}(h:Iv K n X):Fv K n X:=⟨h.rs,h.ws,by rw[h.nw];exact⟨li _,λo ho=>by cases ho⟩,by rw[h.ac];exact li _,h.kd.elim .inl λe=>.inr (e.elim .inl λe=>.inr (.inl e))⟩
inductive Kr:In->Prop
 |load (r:br) (h:0<=r/\r<16) (n:br):Kr ⟨5,r,r,0,n⟩
 |new (r:br) (h:0<=r/\r<16) (n:br) (hn:0<=n/\n<4):Kr ⟨7,r,0,0,n⟩
 |store (n:br):Kr ⟨6,1,0,0,n⟩
 |call (b c:br) (n:aq) (hb:0<=b/\b<=4) (hc:b<=c/\c<=64):Kr ⟨13,0,b,c,n⟩
 |r14:Kr ⟨14,0,0,0,0⟩
 |r15:Kr ⟨15,0,0,0,0⟩
 |r18:Kr ⟨18,0,0,0,0⟩
 |hand (n:aq):Kr ⟨17,0,0,0,n⟩
inductive Kv:In->Prop
 |r (x:In) (h:Kr x):Kv x
 |var (r:br) (h:0<=r/\r<16) (n:aq):Kv ⟨8,r,0,0,n⟩
 |setv (r:br) (h:0<=r/\r<16) (n:aq):Kv ⟨9,r,0,0,n⟩
 |red (c:br) (hc:1<=c/\c<=11) (n:aq):Kv ⟨10,0,c,0,n⟩
 |ask (n:aq):Kv ⟨20,0,0,0,n⟩
theorem a2E{R:cz->br->br->Prop}{o:br}{a b:cz}{n m:br}(ho:1<=o/\o<=11)(hr:∀ c k f,R c k f):∃c k f,r66 [.int .i64 o,.agg ⟨[.bool a,.int .i64 n]⟩,.agg ⟨[.bool b,.int .i64 m]⟩] [] (.tuple ⟨[.agg ⟨[.bool c,.int .i64 k]⟩,.int .i64 f]⟩) []/\R c k f:=by obtain⟨c,k,f,h⟩:=aGQ o ho.1 ho.2 (a,n) (b,m);exact⟨c,k,f,h,hr c k f⟩
theorem trE{R:cz->Prop}{a:cz}{n:br}(hr:∀ x,R x):∃x,r68 [.agg ⟨[.bool a,.int .i64 n]⟩] [] (.bool x) []/\R x:=by obtain⟨x,h⟩:=aAY a n;exact⟨x,h,hr x⟩
def PPl(K:KX)(n:aq)(x:In)(v:af)(Y:OX):Prop:=(v=.bool au/\Fv K n Y)\/(v=.bool aa/\Iv K n Y/\Kv x)
def PVr(K:KX)(n:aq)(x:In)(v:af)(Y:OX):Prop:=(v=.bool au/\Fv K n Y)\/(v=.bool aa/\Iv K n Y/\Kr x)
theorem SJ(l:ab In)(i:aq):mkc (l.take i)<=mkc l:=by unfold mkc;exact(List.take_sublist i l).countP_le
section
variable{K:KX}{n:aq}{X:OX}
theorem aDC(hK:KOK K)(h:Iv K n X)(hn:n<=100){l:ab In}{i:aq}{x:In}(fx:FitF l i x)(hS:mkc l=K.nS):∃v Y,PPl K (n+10) x v Y/\r32 [p0,aP x] [oX K X,cC X.rs,cC X.ws] v [oY K Y,cC Y.rs,cC Y.ws]:=by
 cases fx with
 |e _ h1=>cases h1 with|set r hr k=>exact dB (RO K X r k _ ⟨rIn hr,rsE hr λg=>lfX (.inl ⟨rfl,Iv.fv bL⟩)⟩)|bin r q hr hq o ho=>exact dB (RX K X r q o _ ⟨rIn hr,rgE hr λb2 n2=>⟨rIn hq,rgE hq λb5 n5=>a2E ⟨ho.1,qO⟩ λb7 n7 f7=>⟨λ_=>faE hK h qO λY i1=>lfX (.inl ⟨rfl,Iv.fv bL⟩),λ_=>⟨rIn hr,rsE hr λg=>lfX (.inl ⟨rfl,Iv.fv bL⟩)⟩⟩⟩⟩)|load r hr k hk=>exact dB (NA K X r k _ (lfX (.inr ⟨rfl,bL,.r _ (.load r hr k)⟩)))|new r hr k hk=>exact dB (RW K X r k _ (lfX (.inr ⟨rfl,bL,.r _ (.new r hr k hk)⟩)))|var r hr k hk=>exact dB (RM K X r k _ (lfX (.inr ⟨rfl,bL,.var r hr k⟩)))
 |store k hk=>exact dB (JP K X k _ (lfX (.inr ⟨rfl,bL,.r _ (.store k)⟩)))|setv r hr k hk=>exact dB (M8 K X r k _ (lfX (.inr ⟨rfl,bL,.setv r ⟨hr.1,qO⟩ k⟩)))|red b hb k hk=>exact dB (RP K X b k _ (lfX (.inr ⟨rfl,bL,.red b qO k⟩)))|jump k h1 h2 h3=>exact dB (NB K X k _ (lfX (.inl ⟨rfl,Iv.fv bL⟩)))|unl k h1 h2 h3=>exact dB (RN K X k _ ⟨⟨qD,qD,rfl⟩,trE λb=>⟨λ_=>lfX (.inl ⟨rfl,Iv.fv bL⟩),λ_=>lfX (.inl ⟨rfl,Iv.fv bL⟩)⟩⟩)|call b c k hb hc h1 h2=>exact dB (ND K X b c k _ (lfX (.inr ⟨rfl,bL,.r _ (.call b c k hb hc)⟩)))
 |reg k hk=>
  rcases hk with rfl|rfl|rfl|rfl|rfl
  ·exact dB (RV K X _ (lfX (.inr ⟨rfl,bL,.r _ .r14⟩)))
  ·exact dB (RU K X _ (lfX (.inr ⟨rfl,bL,.r _ .r15⟩)))
  ·exact dB (RS K X _ ⟨⟨qD,qD,rfl⟩,thE hK h qO λY i1=>lfX (.inl ⟨rfl,Iv.fv bL⟩)⟩)
  ·exact dB (RR K X _ (lfX (.inr ⟨rfl,bL,.r _ .r18⟩)))
  ·exact dB (RQ K X _ ⟨⟨qD,qD,rfl⟩,λ_=>faE hK h qO λY i1=>lfX (.inl ⟨rfl,Iv.fv bL⟩),λ_=>⟨⟨qD,qD,rfl⟩,lfX (.inl ⟨rfl,ej h.rs qO,ej h.ws qO,h.fv.nw,cw 1,h.fv.kd⟩)⟩⟩)
 |hand k hk=>exact dB (NC K X k _ (lfX (.inr ⟨rfl,bL,.r _ (.hand k)⟩)))|ask k hk j hj hm=>exact dB (RY K X k _ (lfX (.inr ⟨rfl,bL,.ask k⟩)))|mark=>exact dB (M9 K X _ _ (lfX (.inl ⟨rfl,ej h.rs qO,ej h.ws qO,h.fv.nw,h.fv.ac,.inr (.inr (.inl ⟨rfl,by show(0:br)<=(mkc (l.take i):aq);omega,by show((mkc (l.take i):aq):br)<=K.nS;have:=SJ l i;omega⟩))⟩)))
theorem aAI(hK:KOK K)(h:Iv K n X)(hn:n<=100){x:In}(fx:Kv x):∃v Y,PVr K (n+20) x v Y/\r33 [p0,aP x] [oX K X,cC X.rs,cC X.ws] v [oY K Y,cC Y.rs,cC Y.ws]:=by
 cases fx with
 |r _ h1=>cases h1 with|load r hr k=>exact dB (LZ K X r k _ (lfX (.inr ⟨rfl,bL,.load r hr k⟩)))|new r hr k hk=>exact dB (QJ K X r k _ (lfX (.inr ⟨rfl,bL,.new r hr k hk⟩)))|store k=>exact dB (H3 K X k _ (lfX (.inr ⟨rfl,bL,.store k⟩)))|call b c k hb hc=>exact dB (L5 K X b c k _ (lfX (.inr ⟨rfl,bL,.call b c k hb hc⟩)))|r14=>exact dB (QI K X _ (lfX (.inr ⟨rfl,bL,.r14⟩)))|r15=>exact dB (QH K X _ (lfX (.inr ⟨rfl,bL,.r15⟩)))|r18=>exact dB (QG K X _ (lfX (.inr ⟨rfl,bL,.r18⟩)))|hand k=>exact dB (L0 K X k _ (lfX (.inr ⟨rfl,bL,.hand k⟩)))
 |var r hr k=>exact dB (QE K X r k _ ⟨rIn hr,rkE hr λb2 n2=>vaE hK h qO λf4 k4 b4 Y4 i4=>⟨λ_=>lfX (.inl ⟨rfl,Iv.fv bL⟩),λ_=>rdE hK i4 qO λb7 n7 Z7 i7=>⟨rIn hr,rsE hr λg=>lfX (.inl ⟨rfl,Iv.fv bL⟩)⟩⟩⟩)|setv r hr k=>exact dB (LY K X r k _ ⟨rIn hr,rkE hr λb2 n2=>vaE hK h qO λf4 k4 b4 Y4 i4=>⟨λ_=>lfX (.inl ⟨rfl,Iv.fv bL⟩),λ_=>wtE i4 qO λY i5=>lfX (.inl ⟨rfl,Iv.fv bL⟩)⟩⟩)|red c hc k=>exact dB (QF K X c k _ ⟨⟨qD,qD,rfl⟩,vaE hK h qO λf2 k2 b2 Y2 i2=>⟨λ_=>lfX (.inl ⟨rfl,Iv.fv bL⟩),λ_=>rdE hK i2 qO λb5 n5 Z5 i5=>a2E hc λb7 n7 f7=>⟨λ_=>faE hK i5 qO λY10 i10=>lfX (.inl ⟨rfl,Iv.fv bL⟩),λ_=>wtE i5 qO λY10 i10=>lfX (.inl ⟨rfl,Iv.fv bL⟩)⟩⟩⟩)|ask k=>exact dB (QK K X k _ ⟨⟨qD,qD,rfl⟩,vaE hK h qO λf2 k2 b2 Y2 i2=>⟨λ_=>lfX (.inl ⟨rfl,Iv.fv bL⟩),λ_=>rdE hK i2 qO λb5 n5 Z5 i5=>⟨λ_=>faE hK i5 qO λY8 i8=>lfX (.inl ⟨rfl,Iv.fv bL⟩),λ_=>lfX (.inl ⟨rfl,ej i5.rs qO,ej i5.ws qO,i5.fv.nw,i5.fv.ac,.inr (.inr (.inr ⟨rfl,rfl⟩))⟩)⟩⟩⟩)
end
def st5(K:KX)(Y:OX)(i:br)(L:ab V):St:=aH [(0,.row aa (xRw K Y.kd Y.pc Y.g 3 Y.rs.length 4 Y.ws.length (.slice (ae ⟨5,0,av⟩) 1 1) Y.dl Y.ac Y.st Y.th Y.v.1 Y.v.2 Y.bk) 105),(3,.srow (cC Y.rs) 76),(4,.srow (cC Y.ws) 76),(5,.row aa [.int .i64 i,frz (L.map aM)] 80)] 6 0
def oSc(K:KX)(Y:OX)(i:br)(m c:aq)(o:HObj):St:=aH [(0,.row aa (xRw K Y.kd Y.pc Y.g 5 Y.rs.length 6 Y.ws.length (.slice (ae ⟨3,0,av⟩) 1 1) Y.dl Y.ac Y.st Y.th Y.v.1 Y.v.2 Y.bk) 105),(3,.row aa [.int .i64 i,.slice (ae ⟨4,0,av⟩) m c] 80),(4,o),(5,.srow (cC Y.rs) 76),(6,.srow (cC Y.ws) 76)] 7 0
theorem jX(K:KX)(X:OX)(i:br)(m c:aq)(o:HObj)(a:br)(f:br)(b:cz)(k:br):aH [(0,.row aa (xRw K X.kd X.pc X.g 5 X.rs.length 6 (X.ws.length+1) (.slice (ae ⟨3,0,av⟩) 1 1) X.dl X.ac X.st X.th X.v.1 X.v.2 X.bk) 105),(3,.row aa [.int .i64 i,.slice (ae ⟨4,0,av⟩) m c] 80),(4,o),(5,.srow (cC X.rs) 76),(6,.srow (cC X.ws++[.int .i64 a,.int .i64 f,.bool b,.int .i64 k]) 76)] 7 0=oSc K {X with ws:=X.ws++[(a,f,b,k)]} i m c o:=by unfold oSc;simp only[uH,cg,jy,mj,fu]
theorem aCH(K:KX)(Y:OX)(i:br)(L:ab V):∃v t,(v=.tuple ⟨[]⟩/\t=oS K {Y with nw:=[(i,L)]})/\∀ x:HX,xK x=au->FinQ ad ll 3 (λu s'=>u=v/\s'=t) x (st5 K Y i L) (mkF [] 281):=FinQ.endE (P:=ad) (fn:=ll) (s:=st5 K Y i L) (f:=mkF [] 281) [] ⟨[(0,0,aa),(3,3,aa),(4,4,aa)],[(5,2,[aF (i,L)])],[],5,3,au⟩ (n0:=3) (Q:=λv t=>v=.tuple ⟨[]⟩/\t=oS K {Y with nw:=[(i,L)]}) rfl (show allP [[ao .i64 i,frz (L.map aM)]=[ao .i64 i,frz (L.map aM)]/\(∀ v:af,v∈[aF (i,L)]->v.cells.size=2)/\0<2,(1:aq)=1,(1:aq)<=1] from .cons ⟨rfl,λv hv=>by rw[fg.1 hv];rfl,qD⟩ (.cons rfl (.cons (cw 1) .nil))) ⟨rfl,rfl⟩ qK
section
variable{K:KX}{n:aq}{X:OX}
theorem rR{args:ab af}{PV:af->OX->Prop}(ha:(iP 0 args .lf).isSome=au)(h:∃x s' f',(x=.normal/\f'=mkF [] 281/\∃Y i L,s'=st5 K Y i L/\PV (.tuple ⟨[]⟩) {Y with nw:=[(i,L)]})/\ExD ad 3 (pcs ad 34) (stM kO1 [oX K X,cC X.rs,cC X.ws]) (bX args ll.ntmps) x s' f'):∃v Y,PV v Y/\r34 args [oX K X,cC X.rs,cC X.ws] v [oY K Y,cC Y.rs,cC Y.ws]:=by obtain⟨x,s',f',⟨rfl,rfl,Y,i,L,rfl,hp⟩,hk⟩:=h;obtain⟨v,t,⟨rfl,rfl⟩,he⟩:=aCH K Y i L;refine⟨_,_,hp,ip (fn:=ll) Tryz.func34 rfl ha 3 rfl ?_⟩;exact Ex.mono hk λx s f ⟨e1,e2,e3⟩=>by subst e1;subst e2;subst e3;exact he _ rfl
theorem lfN{kd pc:br}{g:aq->V}{rs ws:ab C4}{dl:ab af}{ac:ab A3}{st:br}{th vb:cz}{vn:br}{bk:cz}{i:br}(L:ab V){PV:OX->Prop}(h:PV ⟨kd,pc,g,rs,ws,[(i,L)],dl,ac,st,th,(vb,vn),bk⟩):HX.normal=.normal/\mkF [] 281=mkF [] 281/\∃Y i' L',aH [(0,.row aa (xRw K kd pc g 3 rs.length 4 ws.length (.slice (ae ⟨5,0,av⟩) 1 1) dl ac st th vb vn bk) 105),(3,.srow (cC rs) 76),(4,.srow (cC ws) 76),(5,.row aa [.int .i64 i,frz (L.map aM)] 80)] 6 0=st5 K Y i' L'/\PV {Y with nw:=[(i',L')]}:=⟨rfl,rfl,⟨kd,pc,g,rs,ws,[],dl,ac,st,th,(vb,vn),bk⟩,i,L,rfl,h⟩
def PRe(K:KX)(n:aq)(v:af)(Y:OX):Prop:=v=.tuple ⟨[]⟩/\Fv K n Y
theorem Iv.nw1{m:aq}{Z:OX}(h:Iv K m Z)(hm:m<=n){pc:br}{g:aq->V}{dl:ab af}{th:cz}{v:V}{bk:cz}{i:br}{L:ab V}(hL:L.length<=100):Fv K n ⟨Z.kd,pc,g,Z.rs,Z.ws,[(i,L)],dl,Z.ac,Z.st,th,v,bk⟩:=⟨ej h.rs hm,ej h.ws hm,⟨cw 1,λo ho=>by rw[fg.1 ho];exact hL⟩,h.fv.ac,h.kd.elim .inl λe=>.inr (e.elim .inl λe=>.inr (.inl e))⟩
theorem oD(m:aq):rep m [.bool aa,.int .i64 0]=aB ((fp m ((aa,0):V)).map aM):=by induction m with|zero=>rfl|succ m ih=>show[al aa,.int .i64 0]++rep m [.bool aa,.int .i64 0]=_;rw[ih,List.replicate_succ];rfl
theorem wcE{R:OX->br->aq->ab V->Prop}{i:br}{m:aq}{cells:ab af}{L:ab V}(h:Iv K n X)(hn:n<=200)(hc:cells=aB (L.map aM))(hr:∀ Y,Iv K (n+1) Y->R Y i m L):∃Y i' m' L',uY [p0,.int .i64 1,.int .i64 0,.agg ⟨[.bool au,.int .i64 K.nx]⟩] [xRw K X.kd X.pc X.g 1 X.rs.length 2 X.ws.length (.slice (ae ⟨3,0,av⟩) 1 1) X.dl X.ac X.st X.th X.v.1 X.v.2 X.bk,cC X.rs,cC X.ws,[.int .i64 i,.slice (ae ⟨4,0,av⟩) m 9223372036854775810],cells] (.tuple ⟨[]⟩) [xRw K Y.kd Y.pc Y.g 5 Y.rs.length 6 Y.ws.length (.slice (ae ⟨3,0,av⟩) 1 1) Y.dl Y.ac Y.st Y.th Y.v.1 Y.v.2 Y.bk,[.int .i64 i',.slice (ae ⟨4,0,av⟩) m' 9223372036854775810],aB (L'.map aM),cC Y.rs,cC Y.ws]/\R Y i' m' L':=by subst hc;obtain⟨v,t,⟨rfl,Y,hY,rfl⟩,hk⟩:=Z0 K X 1 0 au K.nx i m 9223372036854775810 L (λv t=>v=.tuple ⟨[]⟩/\∃Y,Iv K (n+1) Y/\t=oSc K Y i m 9223372036854775810 (.srow (aB (L.map aM)) 55)) ⟨cP (by have:=h.ws;omega) (by have:=h.ws;omega),(hH _).symm,rfl,{X with ws:=X.ws++[(1,0,au,K.nx)]},⟨ju h.rs,by show(X.ws++[_]).length<=_;rw[cg];exact jx h.ws 1,h.nw,h.ac,h.kd⟩,jX K X i m 9223372036854775810 (.srow (aB (L.map aM)) 55) 1 0 au K.nx⟩;exact⟨Y,i,m,L,hk,hr Y hY⟩
theorem wz0{i:br}{b1:cz}{n1:br}{b2:cz}{n2:br}{b3:cz}{n3:br}(h:Iv K n X)(hn:n<=200):∃Y,Iv K (n+1) Y/\mW [p0,.int .i64 1,.int .i64 0,.agg ⟨[.bool au,.int .i64 K.nx]⟩] [xRw K X.kd X.pc X.g 1 X.rs.length 2 X.ws.length (.slice (ae ⟨3,0,av⟩) 1 1) X.dl X.ac X.st X.th X.v.1 X.v.2 X.bk,cC X.rs,cC X.ws,[.int .i64 i,.slice (ae ⟨4,0,av⟩) 3 3],[.bool b1,.int .i64 n1,.bool b2,.int .i64 n2,.bool b3,.int .i64 n3]] (.tuple ⟨[]⟩) [xRw K Y.kd Y.pc Y.g 5 Y.rs.length 6 Y.ws.length (.slice (ae ⟨3,0,av⟩) 1 1) Y.dl Y.ac Y.st Y.th Y.v.1 Y.v.2 Y.bk,[.int .i64 i,.slice (ae ⟨4,0,av⟩) 3 3],[.bool b1,.int .i64 n1,.bool b2,.int .i64 n2,.bool b3,.int .i64 n3],cC Y.rs,cC Y.ws]:=by obtain⟨v,t,⟨rfl,Y,hY,rfl⟩,hk⟩:=UF K X 1 0 au K.nx i 3 3 b1 n1 b2 n2 b3 n3 (λv t=>v=.tuple ⟨[]⟩/\∃Y,Iv K (n+1) Y/\t=oSc K Y i 3 3 (.row aa [.bool b1,.int .i64 n1,.bool b2,.int .i64 n2,.bool b3,.int .i64 n3] 55)) ⟨cP (by have:=h.ws;omega) (by have:=h.ws;omega),(hH _).symm,rfl,{X with ws:=X.ws++[(1,0,au,K.nx)]},⟨ju h.rs,by show(X.ws++[_]).length<=_;rw[cg];exact jx h.ws 1,h.nw,h.ac,h.kd⟩,jX K X i 3 3 (.row aa [.bool b1,.int .i64 n1,.bool b2,.int .i64 n2,.bool b3,.int .i64 n3] 55) 1 0 au K.nx⟩;exact⟨Y,hY,hk⟩
theorem wz1{i:br}{b1:cz}{n1:br}{b2:cz}{n2:br}{b3:cz}{n3:br}{b4:cz}{n4:br}(h:Iv K n X)(hn:n<=200):∃Y,Iv K (n+1) Y/\mW [p0,.int .i64 1,.int .i64 0,.agg ⟨[.bool au,.int .i64 K.nx]⟩] [xRw K X.kd X.pc X.g 1 X.rs.length 2 X.ws.length (.slice (ae ⟨3,0,av⟩) 1 1) X.dl X.ac X.st X.th X.v.1 X.v.2 X.bk,cC X.rs,cC X.ws,[.int .i64 i,.slice (ae ⟨4,0,av⟩) 4 9223372036854775810],[.bool b1,.int .i64 n1,.bool b2,.int .i64 n2,.bool b3,.int .i64 n3,.bool b4,.int .i64 n4]] (.tuple ⟨[]⟩) [xRw K Y.kd Y.pc Y.g 5 Y.rs.length 6 Y.ws.length (.slice (ae ⟨3,0,av⟩) 1 1) Y.dl Y.ac Y.st Y.th Y.v.1 Y.v.2 Y.bk,[.int .i64 i,.slice (ae ⟨4,0,av⟩) 4 9223372036854775810],[.bool b1,.int .i64 n1,.bool b2,.int .i64 n2,.bool b3,.int .i64 n3,.bool b4,.int .i64 n4],cC Y.rs,cC Y.ws]:=by obtain⟨v,t,⟨rfl,Y,hY,rfl⟩,hk⟩:=UE K X 1 0 au K.nx i 4 9223372036854775810 b1 n1 b2 n2 b3 n3 b4 n4 (λv t=>v=.tuple ⟨[]⟩/\∃Y,Iv K (n+1) Y/\t=oSc K Y i 4 9223372036854775810 (.row aa [.bool b1,.int .i64 n1,.bool b2,.int .i64 n2,.bool b3,.int .i64 n3,.bool b4,.int .i64 n4] 55)) ⟨cP (by have:=h.ws;omega) (by have:=h.ws;omega),(hH _).symm,rfl,{X with ws:=X.ws++[(1,0,au,K.nx)]},⟨ju h.rs,by show(X.ws++[_]).length<=_;rw[cg];exact jx h.ws 1,h.nw,h.ac,h.kd⟩,jX K X i 4 9223372036854775810 (.row aa [.bool b1,.int .i64 n1,.bool b2,.int .i64 n2,.bool b3,.int .i64 n3,.bool b4,.int .i64 n4] 55) 1 0 au K.nx⟩;exact⟨Y,hY,hk⟩
theorem wz2{i:br}{b1:cz}{n1:br}{b2:cz}{n2:br}{b3:cz}{n3:br}{b4:cz}{n4:br}{b5:cz}{n5:br}(h:Iv K n X)(hn:n<=200):∃Y,Iv K (n+1) Y/\mW [p0,.int .i64 1,.int .i64 0,.agg ⟨[.bool au,.int .i64 K.nx]⟩] [xRw K X.kd X.pc X.g 1 X.rs.length 2 X.ws.length (.slice (ae ⟨3,0,av⟩) 1 1) X.dl X.ac X.st X.th X.v.1 X.v.2 X.bk,cC X.rs,cC X.ws,[.int .i64 i,.slice (ae ⟨4,0,av⟩) 5 9223372036854775810],[.bool b1,.int .i64 n1,.bool b2,.int .i64 n2,.bool b3,.int .i64 n3,.bool b4,.int .i64 n4,.bool b5,.int .i64 n5]] (.tuple ⟨[]⟩) [xRw K Y.kd Y.pc Y.g 5 Y.rs.length 6 Y.ws.length (.slice (ae ⟨3,0,av⟩) 1 1) Y.dl Y.ac Y.st Y.th Y.v.1 Y.v.2 Y.bk,[.int .i64 i,.slice (ae ⟨4,0,av⟩) 5 9223372036854775810],[.bool b1,.int .i64 n1,.bool b2,.int .i64 n2,.bool b3,.int .i64 n3,.bool b4,.int .i64 n4,.bool b5,.int .i64 n5],cC Y.rs,cC Y.ws]:=by obtain⟨v,t,⟨rfl,Y,hY,rfl⟩,hk⟩:=UD K X 1 0 au K.nx i 5 9223372036854775810 b1 n1 b2 n2 b3 n3 b4 n4 b5 n5 (λv t=>v=.tuple ⟨[]⟩/\∃Y,Iv K (n+1) Y/\t=oSc K Y i 5 9223372036854775810 (.row aa [.bool b1,.int .i64 n1,.bool b2,.int .i64 n2,.bool b3,.int .i64 n3,.bool b4,.int .i64 n4,.bool b5,.int .i64 n5] 55)) ⟨cP (by have:=h.ws;omega) (by have:=h.ws;omega),(hH _).symm,rfl,{X with ws:=X.ws++[(1,0,au,K.nx)]},⟨ju h.rs,by show(X.ws++[_]).length<=_;rw[cg];exact jx h.ws 1,h.nw,h.ac,h.kd⟩,jX K X i 5 9223372036854775810 (.row aa [.bool b1,.int .i64 n1,.bool b2,.int .i64 n2,.bool b3,.int .i64 n3,.bool b4,.int .i64 n4,.bool b5,.int .i64 n5] 55) 1 0 au K.nx⟩;exact⟨Y,hY,hk⟩
theorem wz3{i:br}{b1:cz}{n1:br}{b2:cz}{n2:br}{b3:cz}{n3:br}{b4:cz}{n4:br}{b5:cz}{n5:br}{b6:cz}{n6:br}(h:Iv K n X)(hn:n<=200):∃Y,Iv K (n+1) Y/\mW [p0,.int .i64 1,.int .i64 0,.agg ⟨[.bool au,.int .i64 K.nx]⟩] [xRw K X.kd X.pc X.g 1 X.rs.length 2 X.ws.length (.slice (ae ⟨3,0,av⟩) 1 1) X.dl X.ac X.st X.th X.v.1 X.v.2 X.bk,cC X.rs,cC X.ws,[.int .i64 i,.slice (ae ⟨4,0,av⟩) 6 9223372036854775810],[.bool b1,.int .i64 n1,.bool b2,.int .i64 n2,.bool b3,.int .i64 n3,.bool b4,.int .i64 n4,.bool b5,.int .i64 n5,.bool b6,.int .i64 n6]] (.tuple ⟨[]⟩) [xRw K Y.kd Y.pc Y.g 5 Y.rs.length 6 Y.ws.length (.slice (ae ⟨3,0,av⟩) 1 1) Y.dl Y.ac Y.st Y.th Y.v.1 Y.v.2 Y.bk,[.int .i64 i,.slice (ae ⟨4,0,av⟩) 6 9223372036854775810],[.bool b1,.int .i64 n1,.bool b2,.int .i64 n2,.bool b3,.int .i64 n3,.bool b4,.int .i64 n4,.bool b5,.int .i64 n5,.bool b6,.int .i64 n6],cC Y.rs,cC Y.ws]:=by obtain⟨v,t,⟨rfl,Y,hY,rfl⟩,hk⟩:=UC K X 1 0 au K.nx i 6 9223372036854775810 b1 n1 b2 n2 b3 n3 b4 n4 b5 n5 b6 n6 (λv t=>v=.tuple ⟨[]⟩/\∃Y,Iv K (n+1) Y/\t=oSc K Y i 6 9223372036854775810 (.row aa [.bool b1,.int .i64 n1,.bool b2,.int .i64 n2,.bool b3,.int .i64 n3,.bool b4,.int .i64 n4,.bool b5,.int .i64 n5,.bool b6,.int .i64 n6] 55)) ⟨cP (by have:=h.ws;omega) (by have:=h.ws;omega),(hH _).symm,rfl,{X with ws:=X.ws++[(1,0,au,K.nx)]},⟨ju h.rs,by show(X.ws++[_]).length<=_;rw[cg];exact jx h.ws 1,h.nw,h.ac,h.kd⟩,jX K X i 6 9223372036854775810 (.row aa [.bool b1,.int .i64 n1,.bool b2,.int .i64 n2,.bool b3,.int .i64 n3,.bool b4,.int .i64 n4,.bool b5,.int .i64 n5,.bool b6,.int .i64 n6] 55) 1 0 au K.nx⟩;exact⟨Y,hY,hk⟩
theorem wz4{i:br}{b1:cz}{n1:br}{b2:cz}{n2:br}{b3:cz}{n3:br}{b4:cz}{n4:br}{b5:cz}{n5:br}{b6:cz}{n6:br}{b7:cz}{n7:br}(h:Iv K n X)(hn:n<=200):∃Y,Iv K (n+1) Y/\mW [p0,.int .i64 1,.int .i64 0,.agg ⟨[.bool au,.int .i64 K.nx]⟩] [xRw K X.kd X.pc X.g 1 X.rs.length 2 X.ws.length (.slice (ae ⟨3,0,av⟩) 1 1) X.dl X.ac X.st X.th X.v.1 X.v.2 X.bk,cC X.rs,cC X.ws,[.int .i64 i,.slice (ae ⟨4,0,av⟩) 7 9223372036854775810],[.bool b1,.int .i64 n1,.bool b2,.int .i64 n2,.bool b3,.int .i64 n3,.bool b4,.int .i64 n4,.bool b5,.int .i64 n5,.bool b6,.int .i64 n6,.bool b7,.int .i64 n7]] (.tuple ⟨[]⟩) [xRw K Y.kd Y.pc Y.g 5 Y.rs.length 6 Y.ws.length (.slice (ae ⟨3,0,av⟩) 1 1) Y.dl Y.ac Y.st Y.th Y.v.1 Y.v.2 Y.bk,[.int .i64 i,.slice (ae ⟨4,0,av⟩) 7 9223372036854775810],[.bool b1,.int .i64 n1,.bool b2,.int .i64 n2,.bool b3,.int .i64 n3,.bool b4,.int .i64 n4,.bool b5,.int .i64 n5,.bool b6,.int .i64 n6,.bool b7,.int .i64 n7],cC Y.rs,cC Y.ws]:=by obtain⟨v,t,⟨rfl,Y,hY,rfl⟩,hk⟩:=UB K X 1 0 au K.nx i 7 9223372036854775810 b1 n1 b2 n2 b3 n3 b4 n4 b5 n5 b6 n6 b7 n7 (λv t=>v=.tuple ⟨[]⟩/\∃Y,Iv K (n+1) Y/\t=oSc K Y i 7 9223372036854775810 (.row aa [.bool b1,.int .i64 n1,.bool b2,.int .i64 n2,.bool b3,.int .i64 n3,.bool b4,.int .i64 n4,.bool b5,.int .i64 n5,.bool b6,.int .i64 n6,.bool b7,.int .i64 n7] 55)) ⟨cP (by have:=h.ws;omega) (by have:=h.ws;omega),(hH _).symm,rfl,{X with ws:=X.ws++[(1,0,au,K.nx)]},⟨ju h.rs,by show(X.ws++[_]).length<=_;rw[cg];exact jx h.ws 1,h.nw,h.ac,h.kd⟩,jX K X i 7 9223372036854775810 (.row aa [.bool b1,.int .i64 n1,.bool b2,.int .i64 n2,.bool b3,.int .i64 n3,.bool b4,.int .i64 n4,.bool b5,.int .i64 n5,.bool b6,.int .i64 n6,.bool b7,.int .i64 n7] 55) 1 0 au K.nx⟩;exact⟨Y,hY,hk⟩
theorem JC(hK:KOK K)(h:Iv K n X)(hn:n<=100){r k:br}(hr:0<=r/\r<16)(hk:0<=k/\k<4):∃v Y,PRe K (n+20) v Y/\r34 [p0,aP ⟨7,r,0,0,k⟩] [oX K X,cC X.rs,cC X.ws] v [oY K Y,cC Y.rs,cC Y.ws]:=by
 rcases(show k=0\/k=1\/k=2\/k=3 by omega) with rfl|rfl|rfl|rfl
 ·exact rR rfl (MY K X r _ ⟨rIn hr,rkE hr λb2 n2=>⟨rIn hr,rsE hr λg=>⟨⟨rfl,(λv hv=>by cases hv),qD⟩,lfN [] ⟨rfl,h.nw1 qO qD⟩⟩⟩⟩)
 ·exact rR rfl (MX K X r _ ⟨rIn hr,rkE hr λb2 n2=>⟨rIn hr,rsE hr λg=>lfN [(aa,0)] ⟨rfl,h.nw1 qO qD⟩⟩⟩)
 ·exact rR rfl (MW K X r _ ⟨rIn hr,rkE hr λb2 n2=>⟨rIn hr,rsE hr λg=>lfN [(aa,0),(aa,0)] ⟨rfl,h.nw1 qO qD⟩⟩⟩)
 ·exact rR rfl (MV K X r _ ⟨rIn hr,rkE hr λb2 n2=>⟨rIn hr,rsE hr λg=>lfN [(aa,0),(aa,0),(aa,0)] ⟨rfl,h.nw1 qO qD⟩⟩⟩)
theorem GW(hK:KOK K)(h:Iv K n X)(hn:n<=100){b c:br}{k:aq}(hb:0<=b/\b<=4)(hc:b<=c/\c<=64):∃v Y,PRe K (n+20) v Y/\r34 [p0,aP ⟨13,0,b,c,k⟩] [oX K X,cC X.rs,cC X.ws] v [oY K Y,cC Y.rs,cC Y.ws]:=by
 have nt:∀{P:Prop},P->(4<=4/\6<=36/\P):=λp=>⟨qD,qD,p⟩;have wr:∀ z:br,0<=z->z<=64->ah ag z=z:=λz h1 h2=>cm _ qO;rcases(show b=0\/b=1\/b=2\/b=3\/b=4 by omega) with rfl|rfl|rfl|rfl|rfl
 ·by_cases e:c=0
  ·subst e;refine rR rfl (GV K X k _ ⟨nt rfl,fmE hK h qO λf2 m2 Y2 i2=>?_⟩);obtain⟨Y4,i4,h4⟩:=wz0 (i:=K.nx) (b1:=au) (n1:=f2) (b2:=aa) (n2:=ah .i64 (K.pc+1)) (b3:=aa) (n3:=0) i2 qO;exact⟨Y4,_,_,_,_,_,_,_,h4,lfN [(au,f2),(aa,ah .i64 (K.pc+1)),(aa,0)] ⟨rfl,i4.nw1 qO (gt rfl)⟩⟩
  ·have hw:=wr (c-0) qO qO;refine rR rfl (JH K X c k _ ⟨nt rfl,fmE hK h qO λf2 m2 Y2 i2=>⟨λhz=>cp (of_decide_eq_true hz) (by rw[hw];omega),λ_=>?_⟩⟩);have hm:az (ah ag (c-0))<=64:=by rw[hw];omega
   have h1:(decide (0<=ah ag (c-0))&&decide (ah ag (c-0)<=1000000000))=true:=by rw[hw];simp;omega
   have h2:0<az (ah ag (c-0)):=by rw[hw];omega
   generalize az (ah ag (c-0))=m at hm h2 ⊢;exact⟨λhz=>cp (gt hz) qO,λ_=>⟨h1,cP qO qO,wcE (L:=[(au,f2),(aa,ah .i64 (K.pc+1)),(aa,0)]++fp m (aa,0)) i2 qO (by rw[oD];rfl) λY7 i7=>⟨⟨rfl,cV _,qD⟩,by simp;omega,lfN _ ⟨rfl,i7.nw1 qO (by simp;omega)⟩⟩⟩⟩
 ·by_cases e:c=1
  ·subst e;refine rR rfl (GU K X k _ ⟨nt rfl,fmE hK h qO λf2 m2 Y2 i2=>?_⟩);obtain⟨Y4,i4,h4⟩:=wz1 (i:=K.nx) (b1:=au) (n1:=f2) (b2:=aa) (n2:=ah .i64 (K.pc+1)) (b3:=aa) (n3:=0) (b4:=(K.g 0).1) (n4:=(K.g 0).2) i2 qO;exact⟨Y4,_,_,_,_,_,_,_,_,_,h4,lfN [(au,f2),(aa,ah .i64 (K.pc+1)),(aa,0),((K.g 0).1,(K.g 0).2)] ⟨rfl,i4.nw1 qO (gt rfl)⟩⟩
  ·have hw:=wr (c-1) qO qO;refine rR rfl (JG K X c k _ ⟨nt rfl,fmE hK h qO λf2 m2 Y2 i2=>⟨λhz=>cp (of_decide_eq_true hz) (by rw[hw];omega),λ_=>?_⟩⟩);have hm:az (ah ag (c-1))<=64:=by rw[hw];omega
   have h1:(decide (0<=ah ag (c-1))&&decide (ah ag (c-1)<=1000000000))=true:=by rw[hw];simp;omega
   have h2:0<az (ah ag (c-1)):=by rw[hw];omega
   generalize az (ah ag (c-1))=m at hm h2 ⊢;exact⟨h1,cP qO qO,wcE (L:=[(au,f2),(aa,ah .i64 (K.pc+1)),(aa,0),((K.g 0).1,(K.g 0).2)]++fp m (aa,0)) i2 qO (by rw[oD];rfl) λY7 i7=>⟨⟨rfl,cV _,qD⟩,by simp;omega,lfN _ ⟨rfl,i7.nw1 qO (by simp;omega)⟩⟩⟩
 ·by_cases e:c=2
  ·subst e;refine rR rfl (GT K X k _ ⟨nt rfl,fmE hK h qO λf2 m2 Y2 i2=>?_⟩);obtain⟨Y4,i4,h4⟩:=wz2 (i:=K.nx) (b1:=au) (n1:=f2) (b2:=aa) (n2:=ah .i64 (K.pc+1)) (b3:=aa) (n3:=0) (b4:=(K.g 0).1) (n4:=(K.g 0).2) (b5:=(K.g 1).1) (n5:=(K.g 1).2) i2 qO;exact⟨Y4,_,_,_,_,_,_,_,_,_,_,_,h4,lfN [(au,f2),(aa,ah .i64 (K.pc+1)),(aa,0),((K.g 0).1,(K.g 0).2),((K.g 1).1,(K.g 1).2)] ⟨rfl,i4.nw1 qO (gt rfl)⟩⟩
  ·have hw:=wr (c-2) qO qO;refine rR rfl (JF K X c k _ ⟨nt rfl,fmE hK h qO λf2 m2 Y2 i2=>⟨λhz=>cp (of_decide_eq_true hz) (by rw[hw];omega),λ_=>?_⟩⟩);have hm:az (ah ag (c-2))<=64:=by rw[hw];omega
   have h1:(decide (0<=ah ag (c-2))&&decide (ah ag (c-2)<=1000000000))=true:=by rw[hw];simp;omega
   have h2:0<az (ah ag (c-2)):=by rw[hw];omega
   generalize az (ah ag (c-2))=m at hm h2 ⊢;exact⟨h1,cP qO qO,wcE (L:=[(au,f2),(aa,ah .i64 (K.pc+1)),(aa,0),((K.g 0).1,(K.g 0).2),((K.g 1).1,(K.g 1).2)]++fp m (aa,0)) i2 qO (by rw[oD];rfl) λY7 i7=>⟨⟨rfl,cV _,qD⟩,by simp;omega,lfN _ ⟨rfl,i7.nw1 qO (by simp;omega)⟩⟩⟩
 ·by_cases e:c=3
  ·subst e;refine rR rfl (GR K X k _ ⟨nt rfl,fmE hK h qO λf2 m2 Y2 i2=>?_⟩);obtain⟨Y4,i4,h4⟩:=wz3 (i:=K.nx) (b1:=au) (n1:=f2) (b2:=aa) (n2:=ah .i64 (K.pc+1)) (b3:=aa) (n3:=0) (b4:=(K.g 0).1) (n4:=(K.g 0).2) (b5:=(K.g 1).1) (n5:=(K.g 1).2) (b6:=(K.g 2).1) (n6:=(K.g 2).2) i2 qO;exact⟨Y4,_,_,_,_,_,_,_,_,_,_,_,_,_,h4,lfN [(au,f2),(aa,ah .i64 (K.pc+1)),(aa,0),((K.g 0).1,(K.g 0).2),((K.g 1).1,(K.g 1).2),((K.g 2).1,(K.g 2).2)] ⟨rfl,i4.nw1 qO (gt rfl)⟩⟩
  ·have hw:=wr (c-3) qO qO;refine rR rfl (JE K X c k _ ⟨nt rfl,fmE hK h qO λf2 m2 Y2 i2=>⟨λhz=>cp (of_decide_eq_true hz) (by rw[hw];omega),λ_=>?_⟩⟩);have hm:az (ah ag (c-3))<=64:=by rw[hw];omega
   have h1:(decide (0<=ah ag (c-3))&&decide (ah ag (c-3)<=1000000000))=true:=by rw[hw];simp;omega
   have h2:0<az (ah ag (c-3)):=by rw[hw];omega
   generalize az (ah ag (c-3))=m at hm h2 ⊢;exact⟨h1,cP qO qO,wcE (L:=[(au,f2),(aa,ah .i64 (K.pc+1)),(aa,0),((K.g 0).1,(K.g 0).2),((K.g 1).1,(K.g 1).2),((K.g 2).1,(K.g 2).2)]++fp m (aa,0)) i2 qO (by rw[oD];rfl) λY7 i7=>⟨⟨rfl,cV _,qD⟩,by simp;omega,lfN _ ⟨rfl,i7.nw1 qO (by simp;omega)⟩⟩⟩
 ·by_cases e:c=4
  ·subst e;refine rR rfl (GQ K X k _ ⟨nt rfl,fmE hK h qO λf2 m2 Y2 i2=>?_⟩);obtain⟨Y4,i4,h4⟩:=wz4 (i:=K.nx) (b1:=au) (n1:=f2) (b2:=aa) (n2:=ah .i64 (K.pc+1)) (b3:=aa) (n3:=0) (b4:=(K.g 0).1) (n4:=(K.g 0).2) (b5:=(K.g 1).1) (n5:=(K.g 1).2) (b6:=(K.g 2).1) (n6:=(K.g 2).2) (b7:=(K.g 3).1) (n7:=(K.g 3).2) i2 qO;exact⟨Y4,_,_,_,_,_,_,_,_,_,_,_,_,_,_,_,h4,lfN [(au,f2),(aa,ah .i64 (K.pc+1)),(aa,0),((K.g 0).1,(K.g 0).2),((K.g 1).1,(K.g 1).2),((K.g 2).1,(K.g 2).2),((K.g 3).1,(K.g 3).2)] ⟨rfl,i4.nw1 qO (gt rfl)⟩⟩
  ·have hw:=wr (c-4) qO qO;refine rR rfl (JD K X c k _ ⟨nt rfl,fmE hK h qO λf2 m2 Y2 i2=>⟨λhz=>cp (of_decide_eq_true hz) (by rw[hw];omega),λ_=>?_⟩⟩);have hm:az (ah ag (c-4))<=64:=by rw[hw];omega
   have h1:(decide (0<=ah ag (c-4))&&decide (ah ag (c-4)<=1000000000))=true:=by rw[hw];simp;omega
   have h2:0<az (ah ag (c-4)):=by rw[hw];omega
   generalize az (ah ag (c-4))=m at hm h2 ⊢;exact⟨h1,cP qO qO,wcE (L:=[(au,f2),(aa,ah .i64 (K.pc+1)),(aa,0),((K.g 0).1,(K.g 0).2),((K.g 1).1,(K.g 1).2),((K.g 2).1,(K.g 2).2),((K.g 3).1,(K.g 3).2)]++fp m (aa,0)) i2 qO (by rw[oD];rfl) λY7 i7=>⟨⟨rfl,cV _,qD⟩,by simp;omega,lfN _ ⟨rfl,i7.nw1 qO (by simp;omega)⟩⟩⟩
theorem JB(hK:KOK K)(h:Iv K n X)(hn:n<=100):∃v Y,PRe K (n+20) v Y/\r34 [p0,aP ⟨18,0,0,0,0⟩] [oX K X,cC X.rs,cC X.ws] v [oY K Y,cC Y.rs,cC Y.ws]:=by have nt:∀{P:Prop},P->(4<=4/\6<=36/\P):=λp=>⟨qD,qD,p⟩;exact dB (Q7 K X _ ⟨nt rfl,rtE hK h λY2 i2=>⟨λ_=>rdE hK i2 qO λb5 n5 Z5 i5=>⟨λk=>bif bx k 0 then(b5,n5) else Z5.g k,⟨qD,qD,rfl⟩,lfX ⟨rfl,Iv.fv bL⟩⟩,λ_=>lfX ⟨rfl,Iv.fv bL⟩⟩⟩)
theorem aCI(hK:KOK K)(h:Iv K n X)(hn:n<=100){x:In}(fx:Kr x):∃v Y,PRe K (n+20) v Y/\r34 [p0,aP x] [oX K X,cC X.rs,cC X.ws] v [oY K Y,cC Y.rs,cC Y.ws]:=by have nt:∀{P:Prop},P->(4<=4/\6<=36/\P):=λp=>⟨qD,qD,p⟩;cases fx with|load r hr k=>exact dB (MZ K X r k _ ⟨rIn hr,rkE hr λb2 n2=>⟨rIn hr,rkE hr λb5 n5=>obE hK h qO λf7 b7 Y7 i7=>⟨λ_=>rdE hK i7 qO λb10 n10 Z10 i10=>⟨rIn hr,rsE hr λg=>lfX ⟨rfl,Iv.fv bL⟩⟩,λ_=>lfX ⟨rfl,Iv.fv bL⟩⟩⟩⟩)|store k=>exact dB (JA K X k _ ⟨⟨qD,qD,rfl⟩,nt rfl,obE hK h qO λf3 b3 Y3 i3=>⟨λ_=>wtE i3 qO λY6 i6=>lfX ⟨rfl,Iv.fv bL⟩,λ_=>lfX ⟨rfl,Iv.fv bL⟩⟩⟩)|r14=>exact dB (Q9 K X _ ⟨nt rfl,fmE hK h qO λf2 m2 Y2 i2=>⟨λ_=>lfX ⟨rfl,Iv.fv bL⟩,λ_=>rdE hK i2 qO λb5 n5 Z5 i5=>⟨λ_=>⟨λ_=>lfX ⟨rfl,Iv.fv bL⟩,λ_=>rdE hK i5 qO λb9 n9 Z9 i9=>⟨λ_=>⟨λ_=>imE λb13=>⟨λ_=>lfX ⟨rfl,Iv.fv bL⟩,λ_=>wtE i9 qO λY16 i16=>wtE i16 qO λY18 i18=>lfX ⟨rfl,Iv.fv bL⟩⟩,λ_=>lfX ⟨rfl,Iv.fv bL⟩⟩,λ_=>lfX ⟨rfl,Iv.fv bL⟩⟩⟩,λ_=>rdE hK i5 qO λb9 n9 Z9 i9=>⟨λ_=>⟨λ_=>imE λb13=>⟨λ_=>lfX ⟨rfl,Iv.fv bL⟩,λ_=>wtE i9 qO λY16 i16=>wtE i16 qO λY18 i18=>lfX ⟨rfl,Iv.fv bL⟩⟩,λ_=>lfX ⟨rfl,Iv.fv bL⟩⟩,λ_=>lfX ⟨rfl,Iv.fv bL⟩⟩⟩⟩⟩)|r15=>exact dB (Q8 K X _ ⟨nt rfl,rtE hK h λY2 i2=>⟨λ_=>rdE hK i2 qO λb5 n5 Z5 i5=>⟨λk=>bif bx k 0 then(b5,n5) else Z5.g k,⟨qD,qD,rfl⟩,lfX ⟨rfl,Iv.fv bL⟩⟩,λ_=>lfX ⟨rfl,Iv.fv bL⟩⟩⟩)|r18=>exact JB hK h hn|hand k=>exact dB (M0 K X k _ ⟨nt rfl,fmE hK h qO λf2 m2 Y2 i2=>wtE i2 qO λY4 i4=>lfX ⟨rfl,Iv.fv bL⟩⟩)|new r hr k hk=>exact JC hK h hn hr hk|call b c k hb hc=>exact GW hK h hn hb hc
end
abbrev zR4:ab Value:=[I 4,I 0,.bool aa,I 0,.bool aa,I 0,.bool aa,I 0,.bool aa,I 0,.bool aa,I 0,.bool aa,I 0,.bool aa,I 0,.bool aa,I 0,.bool aa,I 0,.bool aa,I 0,.bool aa,I 0,.bool aa,I 0,.bool aa,I 0,.bool aa,I 0,.bool aa,I 0,.bool aa,I 0,frz [],frz [],frz [],frz [],frz [],I 0,.bool aa,.bool aa,I 0]
def B6(pc:br)(g:aq->V):Value:=.agg ⟨.int .i64 pc::rgL g⟩
def e0:ab Value:=gM ⟨0,0,λ_=>(aa,0),[],[],[],[],[],0,aa,(aa,0)⟩
def cdR(K:KX):ab Value:=[frz (K.l.map aP),.int .i64 K.nV,.int .i64 K.nS]
def GA(K:KX)(X:OX):St:=aH [(0,.row aa (oN K 4 5 X) 105),(1,.row aa (cdR K) 34),(2,.row aa (.int .i64 K.pc::rgL K.g) 58),(3,.row aa e0 70),(4,.srow (cC X.rs) 76),(5,.srow (cC X.ws) 76)] 6 0
def BY:HF:=mkF [(4,ptr 1),(5,ptr 2),(8,ptr 3),(9,p0)] 92
def aDP(K:KX)(Q):=sg aC aT ((pcs ad 17).take 4) (stN [] []) (bX [cdV K.l K.nV K.nS,B6 K.pc K.g,bF K.os,.int .i64 K.nx] ol.ntmps) 0 0 92 Q<|rn (bP ad 28 [] [] []) [.agg ⟨[frz (ai aP K.l),I (↑K.nV:br),I (↑K.nS:br)]⟩] [] (.bool au) []<|tf (decide (KX.pc K< -1)) (tq (decide (KX.pc K>=(↑(aw (ai aP K.l)):br))) (lT 7159 311676188164275131134213 [384] [] [8] 1 .ret [(0,.row aa zR4 70)] [(8,p0)]) (lS 5111 311676188164275131134213 [512,2,132,390] [] [4,5,8,9] 4 .normal [(0,.row aa [frz (ai aP K.l),I (↑K.nV:br),I (↑K.nS:br),I K.pc,.bool (cf (kj K 0)),I (ce (kj K 0)),.bool (cf (kj K 1)),I (ce (kj K 1)),.bool (cf (kj K 2)),I (ce (kj K 2)),.bool (cf (kj K 3)),I (ce (kj K 3)),.bool (cf (kj K 4)),I (ce (kj K 4)),.bool (cf (kj K 5)),I (ce (kj K 5)),.bool (cf (kj K 6)),I (ce (kj K 6)),.bool (cf (kj K 7)),I (ce (kj K 7)),.bool (cf (kj K 8)),I (ce (kj K 8)),.bool (cf (kj K 9)),I (ce (kj K 9)),.bool (cf (kj K 10)),I (ce (kj K 10)),.bool (cf (kj K 11)),I (ce (kj K 11)),.bool (cf (kj K 12)),I (ce (kj K 12)),.bool (cf (kj K 13)),I (ce (kj K 13)),.bool (cf (kj K 14)),I (ce (kj K 14)),.bool (cf (kj K 15)),I (ce (kj K 15)),frz (ai aF K.os),I K.nx,I 0,I 0,.bool aa,I 0,.bool aa,I 0,.bool aa,I 0,.bool aa,I 0,.bool aa,I 0,.bool aa,I 0,.bool aa,I 0,.bool aa,I 0,.bool aa,I 0,.bool aa,I 0,.bool aa,I 0,.bool aa,I 0,.bool aa,I 0,.bool aa,I 0,.bool aa,I 0,.bool aa,I 0,SN0,SN0,SN0,SN0,SN0,I 0,.bool aa,.bool aa,I 0,.bool aa] 105),(1,.row aa [frz (ai aP K.l),I (↑K.nV:br),I (↑K.nS:br)] 34),(2,.row aa [I K.pc,.bool (cf (kj K 0)),I (ce (kj K 0)),.bool (cf (kj K 1)),I (ce (kj K 1)),.bool (cf (kj K 2)),I (ce (kj K 2)),.bool (cf (kj K 3)),I (ce (kj K 3)),.bool (cf (kj K 4)),I (ce (kj K 4)),.bool (cf (kj K 5)),I (ce (kj K 5)),.bool (cf (kj K 6)),I (ce (kj K 6)),.bool (cf (kj K 7)),I (ce (kj K 7)),.bool (cf (kj K 8)),I (ce (kj K 8)),.bool (cf (kj K 9)),I (ce (kj K 9)),.bool (cf (kj K 10)),I (ce (kj K 10)),.bool (cf (kj K 11)),I (ce (kj K 11)),.bool (cf (kj K 12)),I (ce (kj K 12)),.bool (cf (kj K 13)),I (ce (kj K 13)),.bool (cf (kj K 14)),I (ce (kj K 14)),.bool (cf (kj K 15)),I (ce (kj K 15))] 58),(3,.row aa [I 0,I 0,.bool aa,I 0,.bool aa,I 0,.bool aa,I 0,.bool aa,I 0,.bool aa,I 0,.bool aa,I 0,.bool aa,I 0,.bool aa,I 0,.bool aa,I 0,.bool aa,I 0,.bool aa,I 0,.bool aa,I 0,.bool aa,I 0,.bool aa,I 0,.bool aa,I 0,.bool aa,I 0,SN0,SN0,SN0,SN0,SN0,I 0,.bool aa,.bool aa,I 0] 70)] [(4,p1),(5,p2),(8,p3),(9,p0)])) (lT 7175 311676188164275131134208 [384] [] [8] 1 .ret [(0,.row aa zR4 70)] [(8,p0)])
def yc2(a0 a1 a2 a3 a4)(a5:KX)(a6:OX)(a7)(a8:OX){G L O c}(x:W G _ _ c):=rn r32 [p0,.agg ⟨[I a0,I a1,I a2,I a3,I a4]⟩] [xR a5 a6.kd (ah .i64 (KX.pc a5+1)) a5.g 1 a6.rs.length 2 a6.ws.length a6.nw a6.dl a6.ac a6.st a6.th a6.v.1 a6.v.2 a6.bk,cC a6.rs,cC a6.ws] (.bool a7) [oY a5 a8,cC a8.rs,cC a8.ws] (L:=L) (O:=O) x
def ycy(a0:KX)(a1:OX)(a2:OX){G L O c}(x:W G _ _ c):=rn r29 [p0] [xR a0 a1.kd (ah .i64 (KX.pc a0+1)) a0.g 1 a1.rs.length 2 a1.ws.length a1.nw a1.dl a1.ac a1.st a1.th a1.v.1 a1.v.2 a1.bk,cC a1.rs,cC a1.ws] U [oY a0 a2,cC a2.rs,cC a2.ws] (L:=L) (O:=O) x
def ycu(a0:OX){G L O c}(x:W G _ O c):=pn (a0.ws.length=aw (ai aL a0.ws)) (L:=L) (O:=O) x
def yb0(a0:OX){G L O c}(x:W G _ O c):=pn (cC a0.ws=cC a0.ws/\(∀(v:af),v∈ai aL a0.ws->ef (dx v)=4)/\0<4) (L:=L) (O:=O) x
def ybz(a0:OX){G L O c}(x:W G _ O c):=pn (a0.rs.length=aw (ai aL a0.rs)) (L:=L) (O:=O) x
def yak(a0:OX){G L O c}(x:W G _ O c):=pn (cC a0.rs=cC a0.rs/\(∀(v:af),v∈ai aL a0.rs->ef (dx v)=4)/\0<4) (L:=L) (O:=O) x
def aDO(K:KX)(X:OX)(Q):=fx aC aT ol ((pcs ad 17).drop 4) (GA K X) BY 0 0 Q<|tq (KX.pc K==-1) (xa λ(Y2:OX)=>ycy K X Y2 <|tq (!OX.bk Y2) (xc λb5 n5 (Y5:OX)=>yaq 1 2 K Y2 b5 n5 Y5 <|xa λ(Y7:OX)=>ycm b5 n5 K Y5 Y7 <|tq (OX.bk Y7) (lZ 15 70918361479 [] [] 0 (.agg ⟨zR4⟩) []) (yak Y7 <|yb0 Y7 <|ybz Y7 <|ycu Y7 <|lZ 11 1353934772351553927 [] [(10,4,ai aL Y7.rs),(11,4,ai aL Y7.ws)] 0 (.agg ⟨[I Y7.kd,I Y7.pc,.bool (cf (fb Y7 0)),I (ce (fb Y7 0)),.bool (cf (fb Y7 1)),I (ce (fb Y7 1)),.bool (cf (fb Y7 2)),I (ce (fb Y7 2)),.bool (cf (fb Y7 3)),I (ce (fb Y7 3)),.bool (cf (fb Y7 4)),I (ce (fb Y7 4)),.bool (cf (fb Y7 5)),I (ce (fb Y7 5)),.bool (cf (fb Y7 6)),I (ce (fb Y7 6)),.bool (cf (fb Y7 7)),I (ce (fb Y7 7)),.bool (cf (fb Y7 8)),I (ce (fb Y7 8)),.bool (cf (fb Y7 9)),I (ce (fb Y7 9)),.bool (cf (fb Y7 10)),I (ce (fb Y7 10)),.bool (cf (fb Y7 11)),I (ce (fb Y7 11)),.bool (cf (fb Y7 12)),I (ce (fb Y7 12)),.bool (cf (fb Y7 13)),I (ce (fb Y7 13)),.bool (cf (fb Y7 14)),I (ce (fb Y7 14)),.bool (cf (fb Y7 15)),I (ce (fb Y7 15)),frz (ai aL Y7.rs),frz (ai aL Y7.ws),frz (ai aF Y7.nw),frz Y7.dl,frz (ai aQ Y7.ac),I Y7.st,.bool Y7.th,.bool Y7.v.1,I Y7.v.2]⟩) [])) (tq (OX.bk Y2) (lZ 13 17314053 [] [] 0 (.agg ⟨zR4⟩) []) (yak Y2 <|yb0 Y2 <|ybz Y2 <|ycu Y2 <|lZ 9 321614768517381 [] [(6,4,ai aL Y2.rs),(7,4,ai aL Y2.ws)] 0 (.agg ⟨[I Y2.kd,I Y2.pc,.bool (cf (fb Y2 0)),I (ce (fb Y2 0)),.bool (cf (fb Y2 1)),I (ce (fb Y2 1)),.bool (cf (fb Y2 2)),I (ce (fb Y2 2)),.bool (cf (fb Y2 3)),I (ce (fb Y2 3)),.bool (cf (fb Y2 4)),I (ce (fb Y2 4)),.bool (cf (fb Y2 5)),I (ce (fb Y2 5)),.bool (cf (fb Y2 6)),I (ce (fb Y2 6)),.bool (cf (fb Y2 7)),I (ce (fb Y2 7)),.bool (cf (fb Y2 8)),I (ce (fb Y2 8)),.bool (cf (fb Y2 9)),I (ce (fb Y2 9)),.bool (cf (fb Y2 10)),I (ce (fb Y2 10)),.bool (cf (fb Y2 11)),I (ce (fb Y2 11)),.bool (cf (fb Y2 12)),I (ce (fb Y2 12)),.bool (cf (fb Y2 13)),I (ce (fb Y2 13)),.bool (cf (fb Y2 14)),I (ce (fb Y2 14)),.bool (cf (fb Y2 15)),I (ce (fb Y2 15)),frz (ai aL Y2.rs),frz (ai aL Y2.ws),frz (ai aF Y2.nw),frz Y2.dl,frz (ai aQ Y2.ac),I Y2.st,.bool Y2.th,.bool Y2.v.1,I Y2.v.2]⟩) []))) (xe λop2 a2 b2 c2 n2=>nt (0<=KX.pc K/\(ai aP K.l)[az K.pc]? =ae (bw ⟨[I op2,I a2,I b2,I c2,I n2]⟩)) [[aP {op:=op2,a:=a2,b:=b2,c:=c2,n:=n2}]]<|xb λb4(Y4:OX)=>yc2 op2 a2 b2 c2 n2 K X b4 Y4 <|tu (!b4) (xb λb7(Y7:OX)=>rn r33 [p0,.agg ⟨[I op2,I a2,I b2,I c2,I n2]⟩] [oX K Y4,cC Y4.rs,cC Y4.ws] (.bool b7) [oY K Y7,cC Y7.rs,cC Y7.ws]<|tq (!b7) (xa λ(Y10:OX)=>rn r34 [p0,.agg ⟨[I op2,I a2,I b2,I c2,I n2]⟩] [oX K Y7,cC Y7.rs,cC Y7.ws] U [oY K Y10,cC Y10.rs,cC Y10.ws]<|tq (OX.bk Y10) (lZ 510 4873472687283495273034 [] [] 0 (.agg ⟨zR4⟩) []) (yak Y10 <|yb0 Y10 <|ybz Y10 <|ycu Y10 <|lZ 382 96814458509335864177942102602 [] [(11,4,ai aL Y10.rs),(12,4,ai aL Y10.ws)] 0 (.agg ⟨[I Y10.kd,I Y10.pc,.bool (cf (fb Y10 0)),I (ce (fb Y10 0)),.bool (cf (fb Y10 1)),I (ce (fb Y10 1)),.bool (cf (fb Y10 2)),I (ce (fb Y10 2)),.bool (cf (fb Y10 3)),I (ce (fb Y10 3)),.bool (cf (fb Y10 4)),I (ce (fb Y10 4)),.bool (cf (fb Y10 5)),I (ce (fb Y10 5)),.bool (cf (fb Y10 6)),I (ce (fb Y10 6)),.bool (cf (fb Y10 7)),I (ce (fb Y10 7)),.bool (cf (fb Y10 8)),I (ce (fb Y10 8)),.bool (cf (fb Y10 9)),I (ce (fb Y10 9)),.bool (cf (fb Y10 10)),I (ce (fb Y10 10)),.bool (cf (fb Y10 11)),I (ce (fb Y10 11)),.bool (cf (fb Y10 12)),I (ce (fb Y10 12)),.bool (cf (fb Y10 13)),I (ce (fb Y10 13)),.bool (cf (fb Y10 14)),I (ce (fb Y10 14)),.bool (cf (fb Y10 15)),I (ce (fb Y10 15)),frz (ai aL Y10.rs),frz (ai aL Y10.ws),frz (ai aF Y10.nw),frz Y10.dl,frz (ai aQ Y10.ac),I Y10.st,.bool Y10.th,.bool Y10.v.1,I Y10.v.2]⟩) [])) (tq (OX.bk Y7) (lZ 446 76148010738804613641 [] [] 0 (.agg ⟨zR4⟩) []) (yak Y7 <|yb0 Y7 <|ybz Y7 <|ycu Y7 <|lZ 318 1493076073486175989207949833 [] [(9,4,ai aL Y7.rs),(10,4,ai aL Y7.ws)] 0 (.agg ⟨[I Y7.kd,I Y7.pc,.bool (cf (fb Y7 0)),I (ce (fb Y7 0)),.bool (cf (fb Y7 1)),I (ce (fb Y7 1)),.bool (cf (fb Y7 2)),I (ce (fb Y7 2)),.bool (cf (fb Y7 3)),I (ce (fb Y7 3)),.bool (cf (fb Y7 4)),I (ce (fb Y7 4)),.bool (cf (fb Y7 5)),I (ce (fb Y7 5)),.bool (cf (fb Y7 6)),I (ce (fb Y7 6)),.bool (cf (fb Y7 7)),I (ce (fb Y7 7)),.bool (cf (fb Y7 8)),I (ce (fb Y7 8)),.bool (cf (fb Y7 9)),I (ce (fb Y7 9)),.bool (cf (fb Y7 10)),I (ce (fb Y7 10)),.bool (cf (fb Y7 11)),I (ce (fb Y7 11)),.bool (cf (fb Y7 12)),I (ce (fb Y7 12)),.bool (cf (fb Y7 13)),I (ce (fb Y7 13)),.bool (cf (fb Y7 14)),I (ce (fb Y7 14)),.bool (cf (fb Y7 15)),I (ce (fb Y7 15)),frz (ai aL Y7.rs),frz (ai aL Y7.ws),frz (ai aF Y7.nw),frz Y7.dl,frz (ai aQ Y7.ac),I Y7.st,.bool Y7.th,.bool Y7.v.1,I Y7.v.2]⟩) []))) (tq (OX.bk Y4) (lZ 384 1189812667793301575 [] [] 0 (.agg ⟨zR4⟩) []) (yak Y4 <|yb0 Y4 <|ybz Y4 <|ycu Y4 <|lZ 256 22715256125652847062966343 [] [(7,4,ai aL Y4.rs),(8,4,ai aL Y4.ws)] 0 (.agg ⟨[I Y4.kd,I Y4.pc,.bool (cf (fb Y4 0)),I (ce (fb Y4 0)),.bool (cf (fb Y4 1)),I (ce (fb Y4 1)),.bool (cf (fb Y4 2)),I (ce (fb Y4 2)),.bool (cf (fb Y4 3)),I (ce (fb Y4 3)),.bool (cf (fb Y4 4)),I (ce (fb Y4 4)),.bool (cf (fb Y4 5)),I (ce (fb Y4 5)),.bool (cf (fb Y4 6)),I (ce (fb Y4 6)),.bool (cf (fb Y4 7)),I (ce (fb Y4 7)),.bool (cf (fb Y4 8)),I (ce (fb Y4 8)),.bool (cf (fb Y4 9)),I (ce (fb Y4 9)),.bool (cf (fb Y4 10)),I (ce (fb Y4 10)),.bool (cf (fb Y4 11)),I (ce (fb Y4 11)),.bool (cf (fb Y4 12)),I (ce (fb Y4 12)),.bool (cf (fb Y4 13)),I (ce (fb Y4 13)),.bool (cf (fb Y4 14)),I (ce (fb Y4 14)),.bool (cf (fb Y4 15)),I (ce (fb Y4 15)),frz (ai aL Y4.rs),frz (ai aL Y4.ws),frz (ai aF Y4.nw),frz Y4.dl,frz (ai aQ Y4.ac),I Y4.st,.bool Y4.th,.bool Y4.v.1,I Y4.v.2]⟩) [])))
def r17:bB:=bP ad 17 [] [] []
structure EfOK(K:KX)(e:Eff):Prop where
 rd:∃rs:ab C4,e.rd=rs.map aL/\rs.length<=100
 ws:e.ws.length<=100
 nw:e.nw.length<=1/\∀ o∈e.nw,o.2.length<=100
 ac:∃ac:ab A3,e.ac=ac.map aQ/\ac.length<=1
 kd:e.kd=0\/e.kd=2\/e.kd=4\/(e.kd=1/\0<=e.st/\e.st<=K.nS)\/(e.kd=3/\e.pc=K.pc)
 ask:e.kd=3->0<=K.pc/\K.pc<K.l.length
theorem Iv.no3{K:KX}{n:aq}{X:OX}{P:Prop}(h:Iv K n X)(e:X.kd=3):P:=by
 rcases h.kd with k|k|k
 ·omega
 ·omega
 ·have:=k.1;omega
def POn(K:KX)(v:af):Prop:=∃e,v=zO e/\EfOK K e
theorem A0{K:KX}:POn K (.agg ⟨[ao ag 4,ao ag 0,al aa,ao ag 0,al aa,ao ag 0,al aa,ao ag 0,al aa,ao ag 0,al aa,ao ag 0,al aa,ao ag 0,al aa,ao ag 0,al aa,ao ag 0,al aa,ao ag 0,al aa,ao ag 0,al aa,ao ag 0,al aa,ao ag 0,al aa,ao ag 0,al aa,ao ag 0,al aa,ao ag 0,al aa,ao ag 0,frz [],frz [],frz [],frz [],frz [],ao ag 0,al aa,al aa,ao ag 0]⟩)/\aH [] 0 0=aH [] 0 0:=⟨⟨⟨4,0,λ_=>(aa,0),[],[],[],[],[],0,aa,(aa,0)⟩,by kernel_rfl,⟨[],rfl,qD⟩,qD,⟨qD,λo ho=>by cases ho⟩,⟨[],rfl,qD⟩,.inr (.inr (.inl rfl)),λh=>cp h (show ¬((4:br)=3) by decide)⟩,rfl⟩
theorem AZ{K:KX}{Y:OX}{n:aq}(h:Fv K n Y)(hn:n<=100)(ha:Y.kd=3->0<=K.pc/\K.pc<K.l.length):(cC (tw Y)=cC (tw Y)/\(∀(v:af),v∈ai aL (tw Y)->ef (dx v)=4)/\0<4)/\(cC (OX.ws Y)=cC (OX.ws Y)/\(∀(v:af),v∈ai aL (OX.ws Y)->ef (dx v)=4)/\0<4)/\aw (tw Y)=aw (ai aL (tw Y))/\aw (OX.ws Y)=aw (ai aL (OX.ws Y))/\POn K (.agg ⟨[ao ag (OX.kd Y),ao ag (OX.pc Y),al (cf (fb Y 0)),ao ag (ce (fb Y 0)),al (cf (fb Y 1)),ao ag (ce (fb Y 1)),al (cf (fb Y 2)),ao ag (ce (fb Y 2)),al (cf (fb Y 3)),ao ag (ce (fb Y 3)),al (cf (fb Y 4)),ao ag (ce (fb Y 4)),al (cf (fb Y 5)),ao ag (ce (fb Y 5)),al (cf (fb Y 6)),ao ag (ce (fb Y 6)),al (cf (fb Y 7)),ao ag (ce (fb Y 7)),al (cf (fb Y 8)),ao ag (ce (fb Y 8)),al (cf (fb Y 9)),ao ag (ce (fb Y 9)),al (cf (fb Y 10)),ao ag (ce (fb Y 10)),al (cf (fb Y 11)),ao ag (ce (fb Y 11)),al (cf (fb Y 12)),ao ag (ce (fb Y 12)),al (cf (fb Y 13)),ao ag (ce (fb Y 13)),al (cf (fb Y 14)),ao ag (ce (fb Y 14)),al (cf (fb Y 15)),ao ag (ce (fb Y 15)),frz (ai aL (tw Y)),frz (ai aL (OX.ws Y)),frz (ai aF (OX.nw Y)),frz (OX.dl Y),frz (ai aQ (OX.ac Y)),ao ag (OX.st Y),al (OX.th Y),al (cf (OX.v Y)),ao ag (ce (OX.v Y))]⟩)/\aH [] 0 0=aH [] 0 0:=by
 have sz:∀ l:ab C4,∀ v∈l.map aL,v.cells.size=4:=λl v hv=>by obtain⟨c,_,rfl⟩:=fi.1 hv;rfl
 exact⟨⟨rfl,sz _,qD⟩,⟨rfl,sz _,qD⟩,(fa ..).symm,(fa ..).symm,⟨⟨Y.kd,Y.pc,Y.g,Y.rs.map aL,Y.ws,Y.nw,Y.dl,Y.ac.map aQ,Y.st,Y.th,Y.v⟩,by kernel_rfl,⟨Y.rs,rfl,ej h.rs hn⟩,ej h.ws hn,h.nw,⟨Y.ac,rfl,h.ac⟩,h.kd.elim .inl λe=>.inr (e.elim .inl λe=>.inr (.inr e)),ha⟩,rfl⟩
def X1(K:KX):OX:=⟨0,ah ag (K.pc+1),K.g,[],[],[],[],[],0,aa,(aa,0),aa⟩
def X0:OX:=⟨0,0,λ_=>(aa,0),[],[],[],[],[],0,aa,(aa,0),aa⟩
theorem QA(K:KX):Iv K 0 (X1 K):=⟨cw 0,cw 0,rfl,rfl,.inl rfl⟩
section
variable{K:KX}{n:aq}{X:OX}
theorem plE{R:cz->OX->Prop}(hK:KOK K)(h:Iv K n X)(hn:n<=100){l:ab In}{i:aq}{x:In}(fx:FitF l i x)(hS:mkc l=K.nS)(h1:∀ Y,Fv K (n+10) Y->R au Y)(h2:∀ Y,Iv K (n+10) Y->Kv x->R aa Y):∃b Y,r32 [p0,aP x] [oX K X,cC X.rs,cC X.ws] (.bool b) [oY K Y,cC Y.rs,cC Y.ws]/\R b Y:=by
 obtain⟨v,Y,⟨rfl,hF⟩|⟨rfl,hI,hk⟩,hr⟩:=aDC hK h hn fx hS
 ·exact⟨au,Y,hr,h1 Y hF⟩
 ·exact⟨aa,Y,hr,h2 Y hI hk⟩
theorem vrE{R:cz->OX->Prop}(hK:KOK K)(h:Iv K n X)(hn:n<=100){x:In}(fx:Kv x)(h1:∀ Y,Fv K (n+20) Y->R au Y)(h2:∀ Y,Iv K (n+20) Y->Kr x->R aa Y):∃b Y,r33 [p0,aP x] [oX K X,cC X.rs,cC X.ws] (.bool b) [oY K Y,cC Y.rs,cC Y.ws]/\R b Y:=by
 obtain⟨v,Y,⟨rfl,hF⟩|⟨rfl,hI,hk⟩,hr⟩:=aAI hK h hn fx
 ·exact⟨au,Y,hr,h1 Y hF⟩
 ·exact⟨aa,Y,hr,h2 Y hI hk⟩
theorem reE{R:OX->Prop}(hK:KOK K)(h:Iv K n X)(hn:n<=100){x:In}(fx:Kr x)(h1:∀ Y,Fv K (n+20) Y->R Y):∃Y,r34 [p0,aP x] [oX K X,cC X.rs,cC X.ws] (.tuple ⟨[]⟩) [oY K Y,cC Y.rs,cC Y.ws]/\R Y:=by obtain⟨v,Y,⟨rfl,hF⟩,hr⟩:=aCI hK h hn fx;exact⟨Y,hr,h1 Y hF⟩
end
theorem NE(K:KX)(hC:dX K.l K.nV K.nS)(hK:KOK K)(h1:-1<=K.pc)(h2:K.pc<K.l.length):∃v t,(POn K v/\t=aH [] 0 0)/\ExE ad ol 0 ((pcs ad 17).drop 4) (GA K X0) BY v t:=by
 have i0:=QA K;refine aDO K X0 _ ⟨λ_=>?_,λhpc=>?_⟩
 ·exact rtE (X:=X1 K) hK i0 λY2 i2=>⟨λ_=>rdE hK i2 qO λb5 n5 Y5 i5=>thE hK i5 qO λY7 i7=>⟨λ_=>A0,λ_=>AZ i7.fv qO i7.no3⟩,λ_=>⟨λ_=>A0,λ_=>AZ i2.fv qO i2.no3⟩⟩
 ·have hne:¬K.pc=-1:=by simpa using hpc
  have h0:0<=K.pc:=qO;have hlt:K.pc.toNat<K.l.length:=qO;have hx:K.l[K.pc.toNat]? =ae K.l[K.pc.toNat]:=by simp[hlt]
  have fx:=hC.fit _ _ hx;have hS:=hC.cnt;generalize K.l[K.pc.toNat]=x at hx fx;obtain⟨op,a,b,c,k⟩:=x;refine⟨op,a,b,c,k,⟨h0,by rw[iw,hx];rfl⟩,?_⟩;exact plE (X:=X1 K) (x:=⟨op,a,b,c,k⟩) hK i0 qO fx hS (λY4 f4=>⟨λe=>(by cases e),λ_=>⟨λ_=>A0,λ_=>AZ f4 qO (λ_=>⟨h0,h2⟩)⟩⟩) (λY4 i4 k4=>⟨λ_=>vrE (x:=⟨op,a,b,c,k⟩) hK i4 qO k4 (λY7 f7=>⟨λe=>(by cases e),λ_=>⟨λ_=>A0,λ_=>AZ f7 qO (λ_=>⟨h0,h2⟩)⟩⟩) (λY7 i7 k7=>⟨λ_=>reE (x:=⟨op,a,b,c,k⟩) hK i7 qO k7 λY10 f10=>⟨λ_=>A0,λ_=>AZ f10 qO (λ_=>⟨h0,h2⟩)⟩,λe=>(by cases e)⟩),λe=>(by cases e)⟩)
theorem VF(p q:ab af)(e:TypeId)(i j z:aq):uR (.row aa (p++(.slice av 0 0::.slice av 0 0::q)) e) (.row aa (p++(.slice (ae ⟨i,0,av⟩) 0 (UNK+z)::.slice (ae ⟨j,0,av⟩) 0 (UNK+z)::q)) e):=by
 refine .inr ⟨_,_,e,rfl,rfl,qS,λk v' hk=>?_⟩;rcases ey k p.length with h|h
 ·rw[dt h] at hk ⊢;exact⟨v',hk,.inl rfl⟩
 ·rw[List.getElem?_append_right h] at hk ⊢;generalize k-p.length=m at hk
  match m,hk with|0,hk=>cases hk;exact⟨_,rfl,.inr ⟨rfl,_,z,rfl⟩⟩|1,hk=>cases hk;exact⟨_,rfl,.inr ⟨rfl,_,z,rfl⟩⟩|m+2,hk=>exact⟨v',hk,.inl rfl⟩
def g0:aq->V:=λ_=>(aa,0)
def aDL(K:KX):ab Value:=[frz (K.l.map aP),.int .i64 K.nV,.int .i64 K.nS,.int .i64 K.pc]++(rgL K.g++([cN K.os,.int .i64 K.nx,.int .i64 0,.int .i64 0]++rgL g0))
def nl:Value:=.slice av 0 0
def tl5:ab Value:=[.int .i64 0,.bool aa,.bool aa,.int .i64 0]
def osA(K:KX)(o e:ab af):ab (aq×HObj):=[(0,.row aa (aDL K++o) 105),(1,.row aa (cdR K) 34),(2,.row aa (.int .i64 K.pc::rgL K.g) 58),(3,.row aa ([.int .i64 0,.int .i64 0]++(rgL g0++e)) 70)]
def osB(K:KX)(o e:ab af):ab (aq×HObj):=osA K o e++[(4,.srow [] 76),(5,.srow [] 76)]
def o1:ab Value:=nl::nl::nl::nl::nl::(tl5++[.bool aa])
def o2:ab Value:=s4 4 0::s4 5 0::nl::nl::nl::(tl5++[.bool aa])
def o3:ab Value:=s4 4 0::s4 5 0::frz []::frz []::frz []::(tl5++[.bool aa])
def e1:ab Value:=nl::nl::nl::nl::nl::tl5
def e2:ab Value:=frz []::frz []::frz []::frz []::frz []::tl5
theorem gY:Less nl (frz []):=Less.nil
theorem lsr:∀ l:ab af,Lesss l l
 |[]=>.nil|v::l=>.cons (.refl v) (lsr l)
theorem lsa{a a2 b b2:ab af}(h:Lesss a a2)(k:Lesss b b2):Lesss (a++b) (a2++b2):=by induction h with|nil=>exact k|cons h _ ih=>exact .cons h ih
theorem vF(K:KX){Q:HX->St->HF->Prop}{cs:ab gy}(h:Ex ad 0 cs (GA K X0) BY Q):Ex ad 0 cs (aH (osA K o1 e1) 4 0) BY Q:=by
 refine Ex.nils [76,76] (aH (osB K o1 e1) 6 0) qK (jL (t:=.lf) (t':=.lf) (l:=osB K o1 e1) (l':=osB K o2 e1) ⟨rfl,VF _ _ _ 4 5 4,rfl,.inl rfl,rfl,.inl rfl,rfl,.inl rfl,rfl,.inl rfl,rfl,.inl rfl,trivial⟩ trivial) rfl rfl (os2:=osB K o2 e1) (next2:=6) (sl2:=[(4,ptr 1),(5,ptr 2),(8,ptr 3),(9,p0)]) ⟨rfl,.inl rfl,rfl,.inl rfl,rfl,.inl rfl,rfl,.inl rfl,trivial⟩ ?_;refine Ex.weak (os2:=osB K o3 e2) ⟨rfl,.less _ _ 105 (lsa (lsr _) (.cons (.refl _) (.cons (.refl _) (.cons gY (.cons gY (.cons gY (lsr _))))))),rfl,.refl _,rfl,.refl _,rfl,.less _ _ 70 (lsa (lsr _) (lsa (lsr _) (.cons gY (.cons gY (.cons gY (.cons gY (.cons gY (lsr _)))))))),rfl,.refl _,rfl,.refl _,trivial⟩ ?_;have e:aH (osB K o3 e2) 6 0=GA K X0:=by kernel_rfl
 rw[e];exact h
theorem C6(K:KX)(hC:dX K.l K.nV K.nS)(hK:KOK K):∃e,EfOK K e/\r17 [cdV K.l K.nV K.nS,B6 K.pc K.g,bF K.os,.int .i64 K.nx] [] (zO e) []:=by
 have hv:bP ad 28 [] [] [] [cdV K.l K.nV K.nS] [] (.bool au) []:=qI hC;obtain⟨x,s',f',hq,ha⟩:=aDP K (λx t g=>(x=.ret/\t=aH [(0,.row aa (gM ⟨4,0,g0,[],[],[],[],[],0,aa,(aa,0)⟩) 70)] 1 0/\g=mkF [(8,p0)] 92)\/(x=.normal/\t=aH (osA K o1 e1) 4 0/\g=BY/\-1<=K.pc/\K.pc<K.l.length)) ⟨hv,λc=>⟨λ_=>.inl ⟨rfl,by kernel_rfl,rfl⟩,λd=>.inr ⟨rfl,by kernel_rfl,rfl,by simpa using c,by simpa using d⟩⟩,λ_=>.inl ⟨rfl,by kernel_rfl,rfl⟩⟩;rcases hq with⟨rfl,rfl,rfl⟩|⟨rfl,rfl,rfl,h1,h2⟩
 ·refine⟨⟨4,0,g0,[],[],[],[],[],0,aa,(aa,0)⟩,⟨⟨[],rfl,qD⟩,qD,⟨qD,λo ho=>by cases ho⟩,⟨[],rfl,qD⟩,.inr (.inr (.inl rfl)),λh=>cp h (show ¬((4:br)=3) by decide)⟩,?_⟩;obtain⟨v,t,⟨rfl,rfl⟩,he⟩:=FinQ.endE (P:=ad) (fn:=ol) (s:=aH [(0,.row aa (gM ⟨4,0,g0,[],[],[],[],[],0,aa,(aa,0)⟩) 70)] 1 0) (f:=mkF [(8,p0)] 92) [] ⟨[],[],[],0,0,au⟩ (n0:=0) (Q:=λv t=>v=zO ⟨4,0,g0,[],[],[],[],[],0,aa,(aa,0)⟩/\t=aH [] 0 0) rfl .nil ⟨rfl,rfl⟩ qK;exact ip (fn:=ol) tx rfl rfl 0 rfl (px 4 ha qS (he _ rfl))
 ·obtain⟨v,t,⟨⟨e,rfl,hE⟩,rfl⟩,hm⟩:=NE K hC hK h1 h2;exact⟨e,hE,ip (fn:=ol) tx rfl rfl 0 rfl (fo 4 ha (vF K hm))⟩
def WH(K:KX)(Q):=sg aC aT ((pcs ad 17).take 4) (stN [] []) (bX [cdV K.l K.nV K.nS,B6 K.pc K.g,bF K.os,.int .i64 K.nx] ol.ntmps) 0 0 92 Q<|rn (bP ad 28 [] [] []) [.agg ⟨[frz (ai aP K.l),I (↑K.nV:br),I (↑K.nS:br)]⟩] [] (.bool au) []<|tf (decide (KX.pc K< -1)) (tq (decide (KX.pc K>=(↑(aw (ai aP K.l)):br))) (lS 7159 311676188164275131134213 [384] [] [8] 1 .ret [(0,.row aa ([I 4,I 0]++(rgL (λ_=>(aa,0))++[SN0,SN0,SN0,SN0,SN0,I 0,al aa,al aa,I 0])) 70)] [(8,p0)]) (lS 5111 311676188164275131134213 [512,2,132,390] [] [4,5,8,9] 4 .normal [(0,.row aa ([frz (ai aP K.l),I (↑K.nV:br),I (↑K.nS:br),I K.pc]++(rgL K.g++([frz (ai aF K.os),I K.nx,I 0,I 0]++(rgL (λ_=>(aa,0))++[SN0,SN0,SN0,SN0,SN0,I 0,al aa,al aa,I 0,al aa])))) 105),(1,.row aa [frz (ai aP K.l),I (↑K.nV:br),I (↑K.nS:br)] 34),(2,.row aa ([I K.pc]++(rgL K.g++[])) 58),(3,.row aa ([I 0,I 0]++(rgL (λ_=>(aa,0))++[SN0,SN0,SN0,SN0,SN0,I 0,al aa,al aa,I 0])) 70)] [(4,p1),(5,p2),(8,p3),(9,p0)])) (lS 7175 311676188164275131134208 [384] [] [8] 1 .ret [(0,.row aa ([I 4,I 0]++(rgL (λ_=>(aa,0))++[SN0,SN0,SN0,SN0,SN0,I 0,al aa,al aa,I 0])) 70)] [(8,p0)])
def aDN(K:KX)(X:OX)(Q):=fx aC aT ol ((pcs ad 17).drop 4) (GA K X) BY 0 0 Q<|tq (KX.pc K==-1) (xa λ(Y2:OX)=>ycy K X Y2 <|tq (!OX.bk Y2) (xc λb5 n5 (Y5:OX)=>yaq 1 2 K Y2 b5 n5 Y5 <|xa λ(Y7:OX)=>ycm b5 n5 K Y5 Y7 <|tq (OX.bk Y7) (yak Y7 <|lF 15 4950001209735 [1409] [(10,4,ai aL Y7.rs)] 1 (bw ⟨[I 4,I 0]++(rgL (λ_=>(aa,0))++[SN0,SN0,SN0,SN0,SN0,I 0,al aa,al aa,I 0])⟩) [(0,.srow (cC Y7.ws) 76)]) (yak Y7 <|ybz Y7 <|lF 11 321609350009223 [1409] [(10,4,ai aL Y7.rs)] 1 (bw ⟨[I Y7.kd,I Y7.pc]++(rgL Y7.g++[frz (ai aL Y7.rs),SL 0 Y7.ws.length (un 4),frz (ai aF Y7.nw),frz Y7.dl,frz (ai aQ Y7.ac),I Y7.st,al Y7.th,al Y7.v.1,I Y7.v.2])⟩) [(0,.srow (cC Y7.ws) 76)])) (tq (OX.bk Y2) (yak Y2 <|lF 13 1174941957 [897] [(6,4,ai aL Y2.rs)] 1 (bw ⟨[I 4,I 0]++(rgL (λ_=>(aa,0))++[SN0,SN0,SN0,SN0,SN0,I 0,al aa,al aa,I 0])⟩) [(0,.srow (cC Y2.ws) 76)]) (yak Y2 <|ybz Y2 <|lF 9 76336869637 [897] [(6,4,ai aL Y2.rs)] 1 (bw ⟨[I Y2.kd,I Y2.pc]++(rgL Y2.g++[frz (ai aL Y2.rs),SL 0 Y2.ws.length (un 4),frz (ai aF Y2.nw),frz Y2.dl,frz (ai aQ Y2.ac),I Y2.st,al Y2.th,al Y2.v.1,I Y2.v.2])⟩) [(0,.srow (cC Y2.ws) 76)]))) (xe λop2 a2 b2 c2 n2=>nt (0<=KX.pc K/\(ai aP K.l)[az K.pc]? =ae (bw ⟨[I op2,I a2,I b2,I c2,I n2]⟩)) [[aP {op:=op2,a:=a2,b:=b2,c:=c2,n:=n2}]]<|xb λb4(Y4:OX)=>yc2 op2 a2 b2 c2 n2 K X b4 Y4 <|tu (!b4) (xb λb7(Y7:OX)=>rn r33 [p0,.agg ⟨[I op2,I a2,I b2,I c2,I n2]⟩] [oX K Y4,cC Y4.rs,cC Y4.ws] (.bool b7) [oY K Y7,cC Y7.rs,cC Y7.ws]<|tq (!b7) (xa λ(Y10:OX)=>rn r34 [p0,.agg ⟨[I op2,I a2,I b2,I c2,I n2]⟩] [oX K Y7,cC Y7.rs,cC Y7.ws] U [oY K Y10,cC Y10.rs,cC Y10.ws]<|tq (OX.bk Y10) (yak Y10 <|lF 510 354328592419637241086538 [1537] [(11,4,ai aL Y10.rs)] 1 (bw ⟨[I 4,I 0]++(rgL (λ_=>(aa,0))++[SN0,SN0,SN0,SN0,SN0,I 0,al aa,al aa,I 0])⟩) [(0,.srow (cC Y10.ws) 76)]) (yak Y10 <|ybz Y10 <|lF 382 23021687710193934266827338 [1537] [(11,4,ai aL Y10.rs)] 1 (bw ⟨[I Y10.kd,I Y10.pc]++(rgL Y10.g++[frz (ai aL Y10.rs),SL 0 Y10.ws.length (un 4),frz (ai aF Y10.nw),frz Y10.dl,frz (ai aQ Y10.ac),I Y10.st,al Y10.th,al Y10.v.1,I Y10.v.2])⟩) [(0,.srow (cC Y10.ws) 76)])) (tq (OX.bk Y7) (yak Y7 <|lF 446 5462597280261993685513 [1281] [(9,4,ai aL Y7.rs)] 1 (bw ⟨[I 4,I 0]++(rgL (λ_=>(aa,0))++[SN0,SN0,SN0,SN0,SN0,I 0,al aa,al aa,I 0])⟩) [(0,.srow (cC Y7.ws) 76)]) (yak Y7 <|ybz Y7 <|lF 318 354917717012615739499017 [1281] [(9,4,ai aL Y7.rs)] 1 (bw ⟨[I Y7.kd,I Y7.pc]++(rgL Y7.g++[frz (ai aL Y7.rs),SL 0 Y7.ws.length (un 4),frz (ai aF Y7.nw),frz Y7.dl,frz (ai aQ Y7.ac),I Y7.st,al Y7.th,al Y7.v.1,I Y7.v.2])⟩) [(0,.srow (cC Y7.ws) 76)]))) (tq (OX.bk Y4) (yak Y4 <|lF 384 83047239494879436871 [1025] [(7,4,ai aL Y4.rs)] 1 (bw ⟨[I 4,I 0]++(rgL (λ_=>(aa,0))++[SN0,SN0,SN0,SN0,SN0,I 0,al aa,al aa,I 0])⟩) [(0,.srow (cC Y4.ws) 76)]) (yak Y4 <|ybz Y4 <|lF 256 5395709532723230302279 [1025] [(7,4,ai aL Y4.rs)] 1 (bw ⟨[I Y4.kd,I Y4.pc]++(rgL Y4.g++[frz (ai aL Y4.rs),SL 0 Y4.ws.length (un 4),frz (ai aF Y4.nw),frz Y4.dl,frz (ai aQ Y4.ac),I Y4.st,al Y4.th,al Y4.v.1,I Y4.v.2])⟩) [(0,.srow (cC Y4.ws) 76)])))
theorem FnEx.resL{P:cq}{g:FuncId}{args:ab af}{s T:St}{v v2:af}(h:FnEx P g args s (λu t=>u=v/\t=T))(hv:Less v v2):FnEx P g args s (λu t=>u=v2/\t=T):=λw0 μ w args' hR hV=>(h w0 μ w args' hR hV).mono λe w' ⟨u,t,v',ν,⟨e1,e2⟩,m1,m2,m3,m4⟩=>⟨v2,t,v',ν,⟨rfl,e2⟩,m1,m2,m3,hv ν v' (e1 ▸ m4)⟩
theorem FinQ.add{P:cq}{fn:Func}{n0:aq}{Q:af->St->Prop}{x:HX}{l:ab TypeId}{s s2:St}{f:HF}(hadd:H0 l s=ae s2)(h:FinQ P fn n0 Q x s2 f):FinQ P fn n0 Q x s f:=⟨h.1,λw0 μ w a hR hA=>by
 obtain⟨ν,k1,k2⟩:=LP l _ _ μ hR hadd;obtain⟨d,v,s',v',ν',q,r,l1,m1,m2⟩:=h.2 w0 ν w a k2 ⟨hA.size,λd hd hv=>(hA.vals d hd hv).mono k1,hA.ds.mono k1⟩;exact⟨d,v,s',v',ν',q,r,(k1.leN _).trans l1,m1,m2⟩⟩
theorem aD5{i n:aq}:Less nl (.slice (ae ⟨i,0,av⟩) 0 (UNK+n)):=λμ x h=>(show nilR nl (.slice (ae ⟨i,0,av⟩) 0 (UNK+n)) from .inr ⟨rfl,_,n,rfl⟩).vr h
def G1:bB:=bP ad 17 [] [] [.srw 76]
def B4(i:aq)(e:Eff):Value:=.agg ⟨[.int .i64 e.kd,.int .i64 e.pc]++(rgL e.rg++[frz e.rd,s4 i e.ws.length,cN e.nw,frz e.dl,frz e.ac,.int .i64 e.st,.bool e.th,.bool e.v.1,.int .i64 e.v.2])⟩
def eB:Eff:=⟨4,0,g0,[],[],[],[],[],0,aa,(aa,0)⟩
theorem X7(K:KX):EfOK K eB:=⟨⟨[],rfl,qD⟩,qD,⟨qD,λo ho=>by cases ho⟩,⟨[],rfl,qD⟩,.inr (.inr (.inl rfl)),λh=>cp h (show ¬((4:br)=3) by decide)⟩
def nB:Value:=.agg ⟨[.int .i64 4,.int .i64 0]++(rgL g0++[nl,nl,nl,nl,nl,.int .i64 0,.bool aa,.bool aa,.int .i64 0])⟩
theorem NL:Less nB (B4 0 eB):=Less.agg (lsa (lsr _) (lsa (lsr _) (.cons gY (.cons aD5 (.cons gY (.cons gY (.cons gY (lsr _))))))))
def oW(ws:ab C4):St:=aH [(0,.srow (cC ws) 76)] 1 0
def POk(K:KX)(v:af)(t:St):Prop:=(v=nB/\∃ws,t=oW ws)\/∃e,v=B4 0 e/\EfOK K e/\t=oW e.ws
theorem sz4(l:ab C4):∀ v:af,v∈l.map aL->ef (dx v)=4:=λv hv=>by obtain⟨c,_,rfl⟩:=fi.1 hv;rfl
theorem A6{K:KX}{Y:OX}:(cC (tw Y)=cC (tw Y)/\(∀(v:af),v∈ai aL (tw Y)->ef (dx v)=4)/\0<4)/\POk K (bw ⟨[ao ag 4,ao ag 0]++(rgL (λ_=>(aa,0))++[cd av 0 0,cd av 0 0,cd av 0 0,cd av 0 0,cd av 0 0,ao ag 0,al aa,al aa,ao ag 0])⟩) (aH [(0,rh (cC (OX.ws Y)) 76)] 1 0):=⟨⟨rfl,sz4 _,qD⟩,.inl ⟨rfl,Y.ws,rfl⟩⟩
theorem A5{K:KX}{Y:OX}{n:aq}(h:Fv K n Y)(hn:n<=100)(ha:Y.kd=3->0<=K.pc/\K.pc<K.l.length):(cC (tw Y)=cC (tw Y)/\(∀(v:af),v∈ai aL (tw Y)->ef (dx v)=4)/\0<4)/\aw (tw Y)=aw (ai aL (tw Y))/\POk K (bw ⟨[ao ag (OX.kd Y),ao ag (OX.pc Y)]++(rgL (fb Y)++[frz (ai aL (tw Y)),cd (ae {block:=0,off:=0}) (aw (OX.ws Y)) 9223372036854775812,frz (ai aF (OX.nw Y)),frz (OX.dl Y),frz (ai aQ (OX.ac Y)),ao ag (OX.st Y),al (OX.th Y),al (cf (OX.v Y)),ao ag (ce (OX.v Y))])⟩) (aH [(0,rh (cC (OX.ws Y)) 76)] 1 0):=⟨⟨rfl,sz4 _,qD⟩,(fa ..).symm,.inr ⟨⟨Y.kd,Y.pc,Y.g,Y.rs.map aL,Y.ws,Y.nw,Y.dl,Y.ac.map aQ,Y.st,Y.th,Y.v⟩,rfl,⟨⟨Y.rs,rfl,ej h.rs hn⟩,ej h.ws hn,h.nw,⟨Y.ac,rfl,h.ac⟩,h.kd.elim .inl λe=>.inr (e.elim .inl λe=>.inr (.inr e)),ha⟩,rfl⟩⟩
theorem JS(K:KX)(hC:dX K.l K.nV K.nS)(hK:KOK K)(h1:-1<=K.pc)(h2:K.pc<K.l.length):∃v t,POk K v t/\ExE ad ol 0 ((pcs ad 17).drop 4) (GA K X0) BY v t:=by
 have i0:=QA K;refine aDN K X0 _ ⟨λ_=>?_,λhpc=>?_⟩
 ·exact rtE (X:=X1 K) hK i0 λY2 i2=>⟨λ_=>rdE hK i2 qO λb5 n5 Y5 i5=>thE hK i5 qO λY7 i7=>⟨λ_=>A6,λ_=>A5 i7.fv qO i7.no3⟩,λ_=>⟨λ_=>A6,λ_=>A5 i2.fv qO i2.no3⟩⟩
 ·have hne:¬K.pc=-1:=by simpa using hpc
  have h0:0<=K.pc:=qO;have hlt:K.pc.toNat<K.l.length:=qO;have hx:K.l[K.pc.toNat]? =ae K.l[K.pc.toNat]:=by simp[hlt]
  have fx:=hC.fit _ _ hx;have hS:=hC.cnt;generalize K.l[K.pc.toNat]=x at hx fx;obtain⟨op,a,b,c,k⟩:=x;refine⟨op,a,b,c,k,⟨h0,by rw[iw,hx];rfl⟩,?_⟩;exact plE (X:=X1 K) (x:=⟨op,a,b,c,k⟩) hK i0 qO fx hS (λY4 f4=>⟨λe=>(by cases e),λ_=>⟨λ_=>A6,λ_=>A5 f4 qO (λ_=>⟨h0,h2⟩)⟩⟩) (λY4 i4 k4=>⟨λ_=>vrE (x:=⟨op,a,b,c,k⟩) hK i4 qO k4 (λY7 f7=>⟨λe=>(by cases e),λ_=>⟨λ_=>A6,λ_=>A5 f7 qO (λ_=>⟨h0,h2⟩)⟩⟩) (λY7 i7 k7=>⟨λ_=>reE (x:=⟨op,a,b,c,k⟩) hK i7 qO k7 λY10 f10=>⟨λ_=>A6,λ_=>A5 f10 qO (λ_=>⟨h0,h2⟩)⟩,λe=>(by cases e)⟩),λe=>(by cases e)⟩)
theorem R9(K:KX)(hC:dX K.l K.nV K.nS)(hK:KOK K):∃e,EfOK K e/\G1 [cdV K.l K.nV K.nS,B6 K.pc K.g,bF K.os,.int .i64 K.nx] [] (B4 0 e) [cC e.ws]:=by
 have hv:bP ad 28 [] [] [] [cdV K.l K.nV K.nS] [] (.bool au) []:=qI hC;have fin:∀ ws,FnEx ad 17 [cdV K.l K.nV K.nS,B6 K.pc K.g,bF K.os,.int .i64 K.nx] (stN [] []) (λu t=>u=nB/\t=oW ws)->∃e,EfOK K e/\G1 [cdV K.l K.nV K.nS,B6 K.pc K.g,bF K.os,.int .i64 K.nx] [] (B4 0 e) [cC e.ws]:=λws h=>⟨eB,X7 K,FnEx.resL (FnEx.weak (os2:=[(0,.srow [] 76)]) h ⟨rfl,.sno _ _,trivial⟩) NL⟩;obtain⟨x,s',f',hq,ha⟩:=WH K (λx t g=>(x=.ret/\t=aH [(0,.row aa ([.int .i64 4,.int .i64 0]++(rgL g0++[nl,nl,nl,nl,nl,.int .i64 0,.bool aa,.bool aa,.int .i64 0])) 70)] 1 0/\g=mkF [(8,p0)] 92)\/(x=.normal/\t=aH (osA K o1 e1) 4 0/\g=BY/\-1<=K.pc/\K.pc<K.l.length)) ⟨hv,λc=>⟨λ_=>.inl ⟨rfl,by kernel_rfl,rfl⟩,λd=>.inr ⟨rfl,by kernel_rfl,rfl,by simpa using c,by simpa using d⟩⟩,λ_=>.inl ⟨rfl,by kernel_rfl,rfl⟩⟩;rcases hq with⟨rfl,rfl,rfl⟩|⟨rfl,rfl,rfl,h1,h2⟩
 ·obtain⟨v,t,⟨rfl,rfl⟩,he⟩:=FinQ.endE (P:=ad) (fn:=ol) (s:=aH [(0,.row aa ([.int .i64 4,.int .i64 0]++(rgL g0++[nl,nl,nl,nl,nl,.int .i64 0,.bool aa,.bool aa,.int .i64 0])) 70),(1,.srow [] 76)] 2 0) (f:=mkF [(8,p0)] 92) [] ⟨[(1,0,aa)],[],[],1,0,aa⟩ (n0:=0) (Q:=λv t=>v=nB/\t=oW []) rfl .nil ⟨rfl,rfl⟩ qK;exact fin [] (ip (fn:=ol) tx rfl rfl 0 rfl (px 4 ha qS (FinQ.add (l:=[76]) qK (he _ rfl))))
 ·obtain⟨v,t,⟨rfl,ws,rfl⟩|⟨e,rfl,hE,rfl⟩,hm⟩:=JS K hC hK h1 h2
  ·exact fin ws (ip (fn:=ol) tx rfl rfl 0 rfl (fo 4 ha (vF K hm)))
  ·exact⟨e,hE,ip (fn:=ol) tx rfl rfl 0 rfl (fo 4 ha (vF K hm))⟩
structure SX where
 os:ab O
 pc:br
 g:aq->V
 nx:br
 ak:br
 ac:ab A3
 en:cz
 th:cz
 v:V
 sp:br
def nY(s:SX):ab Value:=cN s.os::.int .i64 s.pc::(rgL s.g++[.int .i64 s.nx,.int .i64 s.ak,frz (s.ac.map aQ),.bool s.en,.bool s.th,.bool s.v.1,.int .i64 s.v.2,.int .i64 s.sp])
def nW(s:SX):Value:=.agg ⟨nY s⟩
def w0V:Value:=.agg ⟨[frz []]⟩
def r72:bB:=bP ad 72 [] [] []
def r35:bB:=bP ad 35 [] [] []
def r36:bB:=bP ad 36 [] [] []
def r37:bB:=bP ad 37 [] [] []
def r16:bB:=bP ad 16 [] [] []
def r18:bB:=bP ad 18 [] [] []
def RC:bB:=bP ad 28 [] [] []
def kS1:aS:=eX [(28,⟨[],[],[],[],RC⟩),(19,⟨[],[],[],[],r19⟩),(72,⟨[],[],[],[],r72⟩),(17,⟨[],[],[],[],r17⟩),(35,⟨[],[],[],[],r35⟩),(36,⟨[],[],[],[],r36⟩),(37,⟨[],[],[],[],r37⟩),(16,⟨[],[],[],[],r16⟩),(18,⟨[],[],[],[],r18⟩)]
theorem y0:aR ad kS1:=cL
def aGL(n Q):=fw aC y0 Tryz.func36 [w0V,.int .i64 n] (stN [] []) 0 0 Q<|tu (decide (n>=0)) (tq (decide (n<(0:br))) nQ (lZ 191 4537667035332 [] [] 0 (I 0) [])) (lZ 128 4537667035329 [] [] 0 (I 0) [])
def aBQ l (nV nS:aq) (os:ab O) (pc a Q):=fw aC y0 Tryz.func37 [cdV l nV nS,bF os,.int .i64 pc,.int .i64 a] (stN [] []) 0 0 Q<|xc λb1 n1 o1=>rn r19 [bF os,I 1,I 0] [] (.tuple ⟨[.agg ⟨[.bool b1,I n1]⟩,.bool o1]⟩) []<|yb9 pc l λop3 a3 b3 c3 n3=>xb λos25 o5=>rn r72 [bF os,I n1,I (ah .i64 (3+n3)),.agg ⟨[.bool aa,I a]⟩] [] (.tuple ⟨[bF os25,.bool o5]⟩) []<|tq (!o5) (lZ 6 17314053 [] [] 0 (bF os) []) (lZ 4 17314053 [] [] 0 (bF os25) [])
def zS:ab Value:=nY ⟨[],0,λ_=>(aa,0),0,0,[],aa,aa,(aa,0),0⟩
def UZ(k:aq)(L:ab V):St:=aH [(0,.row aa zS 61),(1,.row aa [.int .i64 1,.slice (ae ⟨2,0,av⟩) 3 (UNK+2)] 80),(2,.srow [.bool au,.int .i64 2,.bool aa,.int .i64 0,.bool aa,.int .i64 0] 55),(3,.row aa [.int .i64 2,.slice (ae ⟨4,0,av⟩) k (UNK+2)] 80),(4,.srow ([.bool aa,.int .i64 0]++aB (L.map aM)) 55)] 5 0
def XY:HF:=mkF [(2,p0),(3,.int .i64 0),(4,ptr 1),(5,ptr 3)] 30
def ya4(a0 a1 a2){G L O c}(x:W G _ O c):=pn ((decide (0<=ah .i64 (a0+a1))&&decide (ah .i64 (a0+a1)<=ah .i64 (a0+a1))&&Nat.ble (a2*az (ah .i64 (a0+a1))) 281474976710656&&Nat.ble (az (ah .i64 (a0+a1))) 1000000000)=au) (L:=L) (O:=O) x
def aB0 l (nV nS:aq) (Q):=sg aC y0 ((pcs ad 16).take 6) (stN [] []) (bX [cdV l nV nS] Tryz.f16.ntmps) 0 0 30 Q<|rn RC [.agg ⟨[frz (ai aP l),I (nV:br),I (nS:br)]⟩] [] (.bool au) []<|ya4 3 (nV:br) 16 <|hv (show 2<=6 from qD)<|lT 14 70883737859 [128,386,261,646,521] [] [2,3,4,5] 5 .normal [(0,.row aa ([frz [],I 0]++(rgL (λ_=>(aa,0))++[I 0,I 0,frz [],al aa,al aa,al aa,I 0,I 0])) 61),(1,.row aa [I 1,SL 2 3 (un 2)] 80),(2,.srow [al au,I 2,al aa,I 0,al aa,I 0] 55),(3,.row aa [I 2,SL 4 (az (ah .i64 (3+(nV:br)))) (un 2)] 80),(4,.srow (rep (az (ah .i64 (3+(nV:br)))) [al aa,I 0]) 55)] [(2,p0),(3,I 0),(4,p1),(5,p3)]
def aBZ(k:aq)(L:ab V)(Q):=sg aC aK ((pcs ad 16).drop 6) (UZ k L) XY 0 0 30 Q<|pn ((decide ((0:br)<=0)&&decide (0<(k:br)))=au)<|pn ([al aa,I 0]++aB (ai aM L)≠[])<|pn (2<=aw ([al aa,I 0]++aB (ai aM L)))<|pn (aB ([bw ⟨[al au,I 0]⟩]++ai aM L)=[al au,I 0]++dq 2 ([al aa,I 0]++aB (ai aM L))/\(∀(v:af),v∈[bw ⟨[al au,I 0]⟩]++ai aM L->ef (dx v)=2)/\0<2)<|pn (k=([bw ⟨[al au,I 0]⟩]++ai aM L).length)<|ycp au 2 aa 0 aa 0 <|hv (show 3=3 from rfl)<|lT 1 4819039035588 [0,642] [(2,2,[bw ⟨[al au,I 2]⟩,bw ⟨[al aa,I 0]⟩,bw ⟨[al aa,I 0]⟩]),(4,2,[bw ⟨[al au,I 0]⟩]++ai aM L)] [2,3] 2 .ret [(0,.row aa ([SL 1 2 2,I 0]++(rgL (λ_=>(aa,0))++[I 3,I 0,frz [],al aa,al aa,al aa,I 0,I 0])) 61),(1,.row aa [I 1,frz [bw ⟨[al au,I 2]⟩,bw ⟨[al aa,I 0]⟩,bw ⟨[al aa,I 0]⟩],I 2,frz ([bw ⟨[al au,I 0]⟩]++ai aM L)] 80)] [(2,p0),(3,I 0)]
def ycz(a0){G L O}{c:_->Prop}(x:∀ v0,W G _ _ (c v0)):=xa (L:=L) (O:=O) λv0=>rn r36 [.agg ⟨[frz []]⟩,I (SX.ak a0)] [] (I v0) [] (x v0)
def ycr(a0 a1 a2 a3 a4 a5){G L O}{c:_->Prop}(x:∀ v0,W G _ _ (c v0)):=xa (L:=L) (O:=O) λv0=>rn r37 [.agg ⟨[frz (ai aP a0),I (a1:br),I (a2:br)]⟩,bF a3,I a4,I a5] [] (bF v0) [] (x v0)
def ycq(a0 a1){G L O c}(x:W G _ O c):=pn (aB (ai aQ (SX.ac a0)++ai aQ a1)=aB (ai aQ (SX.ac a0))++aB (ai aQ a1)/\(∀(v:af),v∈ai aQ (SX.ac a0)++ai aQ a1->ef (dx v)=3)/\0<3) (L:=L) (O:=O) x
def ych(a0 a1 a2){G L O c}(x:W G _ O c):=pn (aB (ai aQ a0++[bw ⟨[al au,I a1,I a2]⟩])=aB (ai aQ a0)++[al au,I a1,I a2]/\(∀(v:af),v∈ai aQ a0++[bw ⟨[al au,I a1,I a2]⟩]->ef (dx v)=3)/\0<3) (L:=L) (O:=O) x
def yb1(a0){G L O c}(x:W G _ O c):=pn (aB (ai aQ a0)=aB (ai aQ a0)/\(∀(v:af),v∈ai aQ a0->ef (dx v)=3)/\0<3) (L:=L) (O:=O) x
def UW l (nV nS:aq) (s:SX) (Q):=fw aC y0 Tryz.func18 [cdV l nV nS,w0V,nW s] (stN [] []) 0 0 Q<|rn RC [.agg ⟨[frz (ai aP l),I (nV:br),I (nS:br)]⟩] [] (.bool au) []<|tq (SX.en s) (lZ 6 270403 [] [] 0 (gr ⟨[bw ⟨[frz [],I 0]++(rgL (λ_=>(aa,0))++[I 0,I 0,frz [],al aa,al aa,al aa,I 0,I 0])⟩,I 7]⟩) []) (xf λkd4 pc4 g4 rd4 ws4 nw4=>xf λdl4 ac4 st4 th4 b4 n4=>rn r17 [bw ⟨[frz (ai aP l),I (nV:br),I (nS:br)]⟩,bw ⟨[I (SX.pc s)]++(rgL (SX.g s)++[])⟩,bw ⟨[frz (ai aF (SX.os s))]⟩,I (SX.nx s)] [] (bw ⟨[I kd4,I pc4]++(rgL g4++[frz rd4,frz (ai aL ws4),frz (ai aF nw4),frz dl4,frz (ai aQ ac4),I st4,al th4,al b4,I n4])⟩) []<|tq (kd4==4) (lZ 12 1107570949 [] [] 0 (gr ⟨[bw ⟨[frz [],I 0]++(rgL (λ_=>(aa,0))++[I 0,I 0,frz [],al aa,al aa,al aa,I 0,I 0])⟩,I 7]⟩) []) (xa λos27=>rn r35 [bw ⟨[frz (ai aF (SX.os s))]⟩,bw ⟨[I kd4,I pc4]++(rgL g4++[frz rd4,frz (ai aL ws4),frz (ai aF nw4),frz dl4,frz (ai aQ ac4),I st4,al th4,al b4,I n4])⟩] [] (bF os27) []<|tq (bx (aw (ai aQ (SX.ac s))) 0) (tq (bx ((ai aQ ac4).length) 0) (tq (kd4==2) (lZ 368 18581957048300041 [] [] 0 (gr ⟨[bw ⟨[frz (ai aF os27),I pc4]++(rgL g4++[I (ah .i64 (SX.nx s+((ai aF nw4).length:br))),I (SX.ak s),frz [],al au,al th4,al b4,I n4,I (ah .i64 (SX.sp s+1))])⟩,I 0]⟩) []) (tq (kd4==3) (ycz s λn13=>ycr l nV nS os27 pc4 n13 λos215=>hv (aX 3 [bw ⟨[al au,I n4,I n13]⟩] rfl rfl)<|hv (show 1=1 from rfl)<|lZ 688 96811389046080201585968595008 [] [(6,3,[.agg ⟨[.bool au,I n4,I n13]⟩])] 0 (gr ⟨[bw ⟨[frz (ai aF os215),I (ah .i64 (pc4+1))]++(rgL g4++[I (ah .i64 (SX.nx s+((ai aF nw4).length:br))),I (ah .i64 (SX.ak s+1)),frz [bw ⟨[al au,I n4,I n13]⟩],al (SX.en s),al (SX.th s),al (cf (SX.v s)),I (ce (SX.v s)),I (ah .i64 (SX.sp s+1))])⟩,I 0]⟩) []) (lZ 304 1189245251091202634 [] [] 0 (gr ⟨[bw ⟨[frz (ai aF os27),I pc4]++(rgL g4++[I (ah .i64 (SX.nx s+((ai aF nw4).length:br))),I (SX.ak s),frz [],al (SX.en s),al (SX.th s),al (cf (SX.v s)),I (ce (SX.v s)),I (ah .i64 (SX.sp s+1))])⟩,I 0]⟩) []))) (pn (∀(v:af),v∈ai aQ ac4->ef (dx v)=3)<|yab (0+(ai aQ ac4).length) 24 <|tq (kd4==2) (yb1 ac4 <|hv (show(ai aQ ac4).length=(ai aQ ac4).length from rfl)<|lZ 336 364509987616275738694283 [] [(5,3,ai aQ ac4)] 0 (gr ⟨[bw ⟨[frz (ai aF os27),I pc4]++(rgL g4++[I (ah .i64 (SX.nx s+((ai aF nw4).length:br))),I (SX.ak s),frz (ai aQ ac4),al au,al th4,al b4,I n4,I (ah .i64 (SX.sp s+1))])⟩,I 0]⟩) []) (tq (kd4==3) (ycz s λn15=>ycr l nV nS os27 pc4 n15 λos217=>yab ((ai aQ ac4).length+1) 24 <|pn ((ai aQ ac4).length*3=aw (aB (ai aQ ac4)))<|ych ac4 n4 n15 <|pn ((ai aQ ac4).length+1=(ai aQ ac4++[bw ⟨[al au,I n4,I n15]⟩]).length)<|lZ 656 26696881394333006942108722908369872 [] [(7,3,ai aQ ac4++[bw ⟨[al au,I n4,I n15]⟩])] 0 (gr ⟨[bw ⟨[frz (ai aF os217),I (ah .i64 (pc4+1))]++(rgL g4++[I (ah .i64 (SX.nx s+((ai aF nw4).length:br))),I (ah .i64 (SX.ak s+1)),frz (ai aQ ac4++[bw ⟨[al au,I n4,I n15]⟩]),al (SX.en s),al (SX.th s),al (cf (SX.v s)),I (ce (SX.v s)),I (ah .i64 (SX.sp s+1))])⟩,I 0]⟩) []) (yb1 ac4 <|hv (show(ai aQ ac4).length=(ai aQ ac4).length from rfl)<|lZ 272 23635593028828174215324364 [] [(5,3,ai aQ ac4)] 0 (gr ⟨[bw ⟨[frz (ai aF os27),I pc4]++(rgL g4++[I (ah .i64 (SX.nx s+((ai aF nw4).length:br))),I (SX.ak s),frz (ai aQ ac4),al (SX.en s),al (SX.th s),al (cf (SX.v s)),I (ce (SX.v s)),I (ah .i64 (SX.sp s+1))])⟩,I 0]⟩) [])))) (pn (∀(v:af),v∈ai aQ (SX.ac s)->ef (dx v)=3)<|yab (0+aw (ai aQ (SX.ac s))) 24 <|tq (bx ((ai aQ ac4).length) 0) (tq (kd4==2) (yb1 (SX.ac s) <|hv (show aw (ai aQ (SX.ac s))=aw (ai aQ (SX.ac s)) from rfl)<|lZ 352 364509987616275738694283 [] [(5,3,ai aQ (SX.ac s))] 0 (gr ⟨[bw ⟨[frz (ai aF os27),I pc4]++(rgL g4++[I (ah .i64 (SX.nx s+((ai aF nw4).length:br))),I (SX.ak s),frz (ai aQ (SX.ac s)),al au,al th4,al b4,I n4,I (ah .i64 (SX.sp s+1))])⟩,I 0]⟩) []) (tq (kd4==3) (ycz s λn15=>ycr l nV nS os27 pc4 n15 λos217=>yab (aw (ai aQ (SX.ac s))+1) 24 <|pn (aw (ai aQ (SX.ac s))*3=aw (aB (ai aQ (SX.ac s))))<|ych (SX.ac s) n4 n15 <|pn (aw (ai aQ (SX.ac s))+1=aw (ai aQ (SX.ac s)++[bw ⟨[al au,I n4,I n15]⟩]))<|lZ 672 26696881394333006942108722908369872 [] [(7,3,ai aQ (SX.ac s)++[bw ⟨[al au,I n4,I n15]⟩])] 0 (gr ⟨[bw ⟨[frz (ai aF os217),I (ah .i64 (pc4+1))]++(rgL g4++[I (ah .i64 (SX.nx s+((ai aF nw4).length:br))),I (ah .i64 (SX.ak s+1)),frz (ai aQ (SX.ac s)++[bw ⟨[al au,I n4,I n15]⟩]),al (SX.en s),al (SX.th s),al (cf (SX.v s)),I (ce (SX.v s)),I (ah .i64 (SX.sp s+1))])⟩,I 0]⟩) []) (yb1 (SX.ac s) <|hv (show aw (ai aQ (SX.ac s))=aw (ai aQ (SX.ac s)) from rfl)<|lZ 288 23635593028828174215324364 [] [(5,3,ai aQ (SX.ac s))] 0 (gr ⟨[bw ⟨[frz (ai aF os27),I pc4]++(rgL g4++[I (ah .i64 (SX.nx s+((ai aF nw4).length:br))),I (SX.ak s),frz (ai aQ (SX.ac s)),al (SX.en s),al (SX.th s),al (cf (SX.v s)),I (ce (SX.v s)),I (ah .i64 (SX.sp s+1))])⟩,I 0]⟩) []))) (pn (∀(v:af),v∈ai aQ ac4->ef (dx v)=3)<|yab (aw (ai aQ (SX.ac s))+(ai aQ ac4).length) 24 <|pn (aw (ai aQ (SX.ac s))*3=aw (aB (ai aQ (SX.ac s))))<|tq (kd4==2) (ycq s ac4 <|pn (aw (ai aQ (SX.ac s))+(ai aQ ac4).length=aw (ai aQ (SX.ac s)++ai aQ ac4))<|lZ 320 99325954750878630269357441870 [] [(6,3,ai aQ (SX.ac s)++ai aQ ac4)] 0 (gr ⟨[bw ⟨[frz (ai aF os27),I pc4]++(rgL g4++[I (ah .i64 (SX.nx s+((ai aF nw4).length:br))),I (SX.ak s),frz (ai aQ (SX.ac s)++ai aQ ac4),al au,al th4,al b4,I n4,I (ah .i64 (SX.sp s+1))])⟩,I 0]⟩) []) (tq (kd4==3) (ycz s λn18=>ycr l nV nS os27 pc4 n18 λos220=>yab (aw (ai aQ (SX.ac s))+(ai aQ ac4).length+1) 24 <|pn ((aw (ai aQ (SX.ac s))+(ai aQ ac4).length)*3=aw (aB (ai aQ (SX.ac s))++aB (ai aQ ac4)))<|pn (aB (ai aQ (SX.ac s)++ai aQ ac4++[bw ⟨[al au,I n4,I n18]⟩])=aB (ai aQ (SX.ac s))++aB (ai aQ ac4)++[al au,I n4,I n18]/\(∀(v:af),v∈ai aQ (SX.ac s)++ai aQ ac4++[bw ⟨[al au,I n4,I n18]⟩]->ef (dx v)=3)/\0<3)<|pn (aw (ai aQ (SX.ac s))+(ai aQ ac4).length+1=aw (ai aQ (SX.ac s)++ai aQ ac4++[bw ⟨[al au,I n4,I n18]⟩]))<|lZ 640 7257626735414090367048391434861428348051 [] [(8,3,ai aQ (SX.ac s)++ai aQ ac4++[bw ⟨[al au,I n4,I n18]⟩])] 0 (gr ⟨[bw ⟨[frz (ai aF os220),I (ah .i64 (pc4+1))]++(rgL g4++[I (ah .i64 (SX.nx s+((ai aF nw4).length:br))),I (ah .i64 (SX.ak s+1)),frz (ai aQ (SX.ac s)++ai aQ ac4++[bw ⟨[al au,I n4,I n18]⟩]),al (SX.en s),al (SX.th s),al (cf (SX.v s)),I (ce (SX.v s)),I (ah .i64 (SX.sp s+1))])⟩,I 0]⟩) []) (ycq s ac4 <|pn (aw (ai aQ (SX.ac s))+(ai aQ ac4).length=aw (ai aQ (SX.ac s)++ai aQ ac4))<|lZ 256 6437327206609782055107319354255 [] [(6,3,ai aQ (SX.ac s)++ai aQ ac4)] 0 (gr ⟨[bw ⟨[frz (ai aF os27),I pc4]++(rgL g4++[I (ah .i64 (SX.nx s+((ai aF nw4).length:br))),I (SX.ak s),frz (ai aQ (SX.ac s)++ai aQ ac4),al (SX.en s),al (SX.th s),al (cf (SX.v s)),I (ce (SX.v s)),I (ah .i64 (SX.sp s+1))])⟩,I 0]⟩) []))))))
theorem aGM(n:br):r36 [w0V,.int .i64 n] [] (.int .i64 0) []:=by
 obtain⟨_,rfl,h⟩:=g9 (PV:=λv=>v=.int .i64 0) (aGL n _ ⟨λh1=>⟨λh2=>by
   have h1:0<=n:=by simpa using h1
   have h2:n<0:=by simpa using h2
   omega,λ_=>⟨rfl,rfl⟩⟩,λ_=>⟨rfl,rfl⟩⟩)
 exact h
theorem SmB.of{n:aq}{os:ab O}(h:SmB n os)(hn:n<=100000):SmO os:=⟨ej h.1 hn,h.2⟩
theorem UH{os:ab O}{id f:br}{b:cz}{k:br}(h:SmO os):r72 [bF os,.int .i64 id,.int .i64 f,aM (b,k)] [] (.tuple ⟨[bF (if(rdI os id f).isSome then wrO os id f (b,k) else[]),.bool (rdI os id f).isSome]⟩) []:=ve (d:=6) (d':=6) (PF os id f (b,k) h) rfl rfl (stN [] [])
theorem YQ{os:ab O}{e:Eff}{n:aq}(hl:SmB n os)(hn:n+e.nw.length<=100000)(hnw:∀ o∈e.nw,SmV o.2)(hws:e.ws.length<=100000):r35 [bF os,zO e] [] (bF (apO os e)) []:=ve (d:=6) (d':=6) (YR os e n hl hn hnw hws) qK qK (stN [] [])
theorem BZ{n:aq}:∀(l:ab C4){os:ab O},SmB n os->SmB n (l.foldl wr1 os)
 |[],_,h=>h|c::l,_,h=>BZ l (ET h)
theorem xW:∀(l:ab O){n:aq}{os:ab O},SmB n os->(∀ o∈l,SmV o.2)->SmB (n+l.length) (l.foldl mQ os)
 |[],_,_,h,_=>h
 |o::l,n,os,h,hl=>by
  have:=xW l (AQ h (hl o qS)) (λx hx=>hl x (by simp[hx]));have e:n+1+l.length=n+(o::l).length:=by rw[jy];omega
  rw[e] at this;exact this
theorem T4{os:ab O}{e:Eff}{n:aq}(hl:SmB n os)(hnw:∀ o∈e.nw,SmV o.2):SmB (n+e.nw.length) (apO os e):=BZ _ (xW _ hl hnw)
theorem SmB.mono{n m:aq}{os:ab O}(h:SmB n os)(hm:n<=m):SmB m os:=⟨ej h.1 hm,h.2⟩
theorem aBR{l:ab In}{nV nS:aq}{os:ab O}{n:aq}{pc a:br}(h:SmB n os)(hn:n<=100000)(h0:0<=pc)(hp:pc<l.length):∃os',SmB n os'/\r37 [cdV l nV nS,bF os,.int .i64 pc,.int .i64 a] [] (bF os') []:=by
 have hlt:pc.toNat<l.length:=qO;have hx:l[pc.toNat]? =ae l[pc.toNat]:=by simp[hlt]
 generalize l[pc.toNat]=x at hx;obtain⟨op,a',b,c,k⟩:=x;obtain⟨_,⟨os',h1,rfl⟩,h2⟩:=g9 (PV:=λv=>∃os',SmB n os'/\v=bF os') (aBQ l nV nS os pc a _ ⟨_,_,_,I9 (h.of hn),op,a',b,c,k,⟨h0,by rw[iw,hx];rfl⟩,_,_,UH (h.of hn),λ_=>⟨⟨os,h,rfl⟩,rfl⟩,λhs=>by
  have hs:(rdI os ((rdI os 1 0).getD (aa,0)).2 (ah ag (3+k))).isSome=true:=by simpa using hs
  rw[fc hs];exact⟨⟨_,ES h,rfl⟩,rfl⟩⟩)
 exact⟨os',h1,h2⟩
structure SxOK(n m:aq)(s:SX):Prop where
 os:SmB n s.os
 ac:s.ac.length<=m
theorem aBY(L:ab V):∃v t,(v=.tuple ⟨[nW ⟨[(1,[(au,2),(aa,0),(aa,0)]),(2,(au,0)::L)],0,λ_=>(aa,0),3,0,[],aa,aa,(aa,0),0⟩,.int .i64 0]⟩/\t=aH [] 0 0)/\∀ x:HX,xK x=au->FinQ ad Tryz.f16 0 (λu s'=>u=v/\s'=t) x (aH [(0,.row aa (.slice (ae ⟨1,0,av⟩) 2 2::.int .i64 0::(rgL (λ_=>(aa,0))++[.int .i64 3,.int .i64 0,frz [],.bool aa,.bool aa,.bool aa,.int .i64 0,.int .i64 0])) 61),(1,.row aa [.int .i64 1,frz [.agg ⟨[.bool au,.int .i64 2]⟩,.agg ⟨[.bool aa,.int .i64 0]⟩,.agg ⟨[.bool aa,.int .i64 0]⟩],.int .i64 2,frz ([.agg ⟨[.bool au,.int .i64 0]⟩]++L.map aM)] 80)] 2 0) (mkF [(2,p0),(3,.int .i64 0)] 30):=FinQ.endE (P:=ad) (fn:=Tryz.f16) [] ⟨[],[(1,2,[aF (1,[(au,2),(aa,0),(aa,0)]),aF (2,(au,0)::L)])],[],0,0,au⟩ (n0:=0) (Q:=λv t=>v=.tuple ⟨[nW ⟨[(1,[(au,2),(aa,0),(aa,0)]),(2,(au,0)::L)],0,λ_=>(aa,0),3,0,[],aa,aa,(aa,0),0⟩,.int .i64 0]⟩/\t=aH [] 0 0) rfl (show allP [(aB [aF (1,[(au,2),(aa,0),(aa,0)]),aF (2,(au,0)::L)]=[.int .i64 1,frz [.agg ⟨[.bool au,.int .i64 2]⟩,.agg ⟨[.bool aa,.int .i64 0]⟩,.agg ⟨[.bool aa,.int .i64 0]⟩],.int .i64 2,frz ([.agg ⟨[.bool au,.int .i64 0]⟩]++L.map aM)])/\(∀ v:af,v∈[aF (1,[(au,2),(aa,0),(aa,0)]),aF (2,(au,0)::L)]->v.cells.size=2)/\0<2,(2:aq)=2,(2:aq)<=2] from
   .cons ⟨rfl,λv hv=>by
    simp only[ci,fe,or_false] at hv;rcases hv with rfl|rfl<;>rfl,qD⟩ (.cons rfl (.cons (cw 2) .nil))) ⟨rfl,rfl⟩ qK
theorem QN{l:ab In}{V S:aq}(hC:dX l V S):∃s,SxOK 2 0 s/\r16 [cdV l V S] [] (.tuple ⟨[nW s,.int .i64 0]⟩) []:=by
 have hV:=hC.vars;have hw:ah ag (3+(V:br))=((3+V:aq):br):=by rw[cm _ qO];omega
 have ht:az (ah ag (3+(V:br)))=3+V:=by rw[hw];rfl
 have hrep:rep (3+V) [al aa,.int .i64 0]=[al aa,.int .i64 0]++aB ((fp (2+V) ((aa,0):cz×br)).map aM):=by have e:3+V=(2+V)+1:=qO;rw[e,<-oD];rfl
 obtain⟨x,s',f',⟨rfl,rfl,rfl⟩,ha⟩:=aB0 l V S (λx t g=>x=.normal/\t=UZ (3+V) (fp (2+V) (aa,0))/\g=XY) ⟨qI hC,by
   rw[ht,hw];simp;omega,rfl,by rw[ht,hrep];rfl,rfl⟩
 obtain⟨x,s',f',⟨rfl,rfl,rfl⟩,hb⟩:=aBZ (3+V) (fp (2+V) (aa,0)) (λx t g=>x=.ret/\t=aH [(0,.row aa (.slice (ae ⟨1,0,av⟩) 2 2::.int .i64 0::(rgL (λ_=>(aa,0))++[.int .i64 3,.int .i64 0,frz [],.bool aa,.bool aa,.bool aa,.int .i64 0,.int .i64 0])) 61),(1,.row aa [.int .i64 1,frz [.agg ⟨[.bool au,.int .i64 2]⟩,.agg ⟨[.bool aa,.int .i64 0]⟩,.agg ⟨[.bool aa,.int .i64 0]⟩],.int .i64 2,frz ([.agg ⟨[.bool au,.int .i64 0]⟩]++(fp (2+V) ((aa,0):cz×br)).map aM)] 80)] 2 0/\g=mkF [(2,p0),(3,.int .i64 0)] 30) ⟨by simp;omega,qS,qS,⟨rfl,λv hv=>by
   rcases eu.1 hv with h|h
   ·rw[fg.1 h];rfl
   ·exact cV _ v h,qD⟩,by simp;omega,rfl,by kernel_rfl,rfl⟩
 obtain⟨v,t,⟨rfl,rfl⟩,he⟩:=aBY (fp (2+V) (aa,0));refine⟨⟨[(1,[(au,2),(aa,0),(aa,0)]),(2,(au,0)::fp (2+V) (aa,0))],0,λ_=>(aa,0),3,0,[],aa,aa,(aa,0),0⟩,⟨⟨cw 2,λo ho=>?_⟩,cw 0⟩,ip (fn:=Tryz.f16) Tryz.func16 rfl rfl 0 rfl (fo 6 ha (Ex.mono hb λx s f ⟨e1,e2,e3⟩=>by subst e1;subst e2;subst e3;exact he _ rfl))⟩;simp only[ci,fe,or_false] at ho;rcases ho with rfl|rfl
 ·show 3*16<=_;decide
 ·show((au,0)::fp (2+V) ((aa,0):cz×br)).length*16<=_;simp;omega
def PSt(n m:aq)(v:af):Prop:=∃s e,v=.tuple ⟨[nW s,.int .i64 e]⟩/\SxOK n m s
theorem lfS{n m:aq}(os:ab O){pc:br}{g:aq->V}{nx ak:br}{L:ab af}{en th b:cz}{k sp er:br}(ac:ab A3)(hL:L=ac.map aQ)(h1:SmB n os)(h2:ac.length<=m):PSt n m (.tuple ⟨[.agg ⟨[frz (ai aF os),.int .i64 pc]++(rgL g++[.int .i64 nx,.int .i64 ak,frz L,.bool en,.bool th,.bool b,.int .i64 k,.int .i64 sp])⟩,.int .i64 er]⟩)/\aH [] 0 0=aH [] 0 0:=by subst hL;exact⟨⟨⟨os,pc,g,nx,ak,ac,en,th,(b,k),sp⟩,er,by kernel_rfl,h1,h2⟩,rfl⟩
theorem sz3(l:ab A3):∀ v:af,v∈l.map aQ->ef (dx v)=3:=λv hv=>by obtain⟨c,_,rfl⟩:=fi.1 hv;rfl
theorem nt3{L cells:ab af}(ac:ab A3)(hL:L=ac.map aQ)(hc:aB L=cells):aB L=cells/\(∀ v:af,v∈L->ef (dx v)=3)/\0<3:=by subst hL;exact⟨hc,sz3 ac,qD⟩
theorem fl3(l:ab A3):l.length*3=(aB (l.map aQ)).length:=by
 induction l with
 |nil=>rfl
 |cons x l ih=>
  have:aB ((x::l).map aQ)=(aQ x).cells.toList++aB (l.map aQ):=by simp[aB]
  rw[this,cg,<-ih,jy];show _=3+_;omega
theorem W0(l:ab A3):(l.map aQ).length=l.length:=fa ..
section
variable{l:ab In}{V S:aq}
theorem O9{R:br->ab O->Prop}{os:ab O}{n:aq}{pc ak:br}(h:SmB n os)(hn:n<=100000)(h0:0<=pc/\pc<l.length)(hr:∀ os',SmB n os'->R 0 os'):∃k,r36 [.agg ⟨[frz []]⟩,.int .i64 ak] [] (.int .i64 k) []/\∃os',r37 [.agg ⟨[frz (l.map aP),.int .i64 V,.int .i64 S]⟩,bF os,.int .i64 pc,.int .i64 k] [] (bF os') []/\R k os':=by obtain⟨os',h1,h2⟩:=aBR (nV:=V) (nS:=S) (a:=0) h hn h0.1 h0.2;exact⟨0,aGM ak,os',h2,hr os' h1⟩
theorem UX(hC:dX l V S)(s:SX){n m:aq}(hs:SxOK n m s)(hn:n<=99000)(hm:m<=99000):∃s' e,SxOK (n+1) (m+2) s'/\r18 [cdV l V S,w0V,nW s] [] (.tuple ⟨[nW s',.int .i64 e]⟩) []:=by
 suffices H:∃v,PSt (n+1) (m+2) v/\r18 [cdV l V S,w0V,nW s] [] v [] by obtain⟨_,⟨s',e,rfl,h1⟩,h2⟩:=H;exact⟨s',e,h1,h2⟩
 have z:∀{er:br},PSt (n+1) (m+2) (.tuple ⟨[.agg ⟨[frz [],.int .i64 0]++(rgL (λ_=>(aa,0))++[.int .i64 0,.int .i64 0,frz [],.bool aa,.bool aa,.bool aa,.int .i64 0,.int .i64 0])⟩,.int .i64 er]⟩)/\aH [] 0 0=aH [] 0 0:=λ{er}=>lfS (n:=n+1) (m:=m+2) [] [] rfl ⟨li _,λo ho=>by cases ho⟩ (li _);refine g9 (UW l V S s _ ⟨qI hC,λ_=>z,λ_=>?_⟩);obtain⟨⟨kd,pc,g,rd,ws,nw,dl,ac',st,th,⟨b,k⟩⟩,hE,hr⟩:=C6 ⟨l,V,S,s.pc,s.g,s.os,s.nx⟩ hC ⟨hs.os.of qO⟩;obtain⟨ac,hac,hl1⟩:=hE.ac;have hac:ac'=ac.map aQ:=hac;subst hac;have hnw:=hE.nw;have hws:=hE.ws;have hask:=hE.ask;have hkd:=hE.kd;have hvs:∀ o∈nw,SmV o.2:=λo ho=>by have:=hnw.2 o ho;unfold SmV;omega
 have hnl:nw.length<=1:=hnw.1;have hA:=YQ (e:=⟨kd,pc,g,rd,ws,nw,dl,ac.map aQ,st,th,(b,k)⟩) hs.os (show n+nw.length<=100000 by omega) hvs (show ws.length<=100000 from ej hws qO);have hB:=(T4 (e:=⟨kd,pc,g,rd,ws,nw,dl,ac.map aQ,st,th,(b,k)⟩) hs.os hvs).mono (show n+nw.length<=n+1 by omega);generalize apO s.os ⟨kd,pc,g,rd,ws,nw,dl,ac.map aQ,st,th,(b,k)⟩=os2 at hA hB;have hr:r17 [.agg ⟨[frz (ai aP l),.int .i64 V,.int .i64 S]⟩,.agg ⟨[.int .i64 s.pc]++(rgL s.g++[])⟩,.agg ⟨[frz (ai aF s.os)]⟩,.int .i64 s.nx] [] (.agg ⟨[.int .i64 kd,.int .i64 pc]++(rgL g++[frz rd,frz (ai aL ws),frz (ai aF nw),frz dl,frz (ai aQ ac),.int .i64 st,.bool th,.bool b,.int .i64 k])⟩) []:=(show r17 [cdV l V S,B6 s.pc s.g,bF s.os,.int .i64 s.nx] [] (zO ⟨kd,pc,g,rd,ws,nw,dl,ac.map aQ,st,th,(b,k)⟩) []=_ from by kernel_rfl).mp hr;have hA:r35 [.agg ⟨[frz (ai aF s.os)]⟩,.agg ⟨[.int .i64 kd,.int .i64 pc]++(rgL g++[frz rd,frz (ai aL ws),frz (ai aF nw),frz dl,frz (ai aQ ac),.int .i64 st,.bool th,.bool b,.int .i64 k])⟩] [] (bF os2) []:=(show r35 [bF s.os,zO ⟨kd,pc,g,rd,ws,nw,dl,ac.map aQ,st,th,(b,k)⟩] [] (bF os2) []=_ from by kernel_rfl).mp hA;refine⟨kd,pc,g,rd,ws,nw,dl,ac,st,th,b,k,hr,λ_=>z,λ_=>⟨os2,hA,?_⟩⟩;have hpc:(kd==3)=au->0<=pc/\pc<l.length:=λh=>by
  have h3:kd=3:=by simpa using h
  have h4:pc=s.pc:=by
   rcases hkd with e|e|e|⟨e,_⟩|⟨_,e⟩
   ·have:kd=0:=e;omega
   ·have:kd=2:=e;omega
   ·have:kd=4:=e;omega
   ·have:kd=1:=e;omega
   ·exact e
  rw[h4];exact hask h3
 have hm1:=hs.ac;have e1:=W0 s.ac;have e2:=W0 ac;have f1:(ai aQ s.ac).length*3=(aB (ai aQ s.ac)).length:=by rw[e1];exact fl3 _
 have f2:(ai aQ ac).length*3=(aB (ai aQ ac)).length:=by rw[e2];exact fl3 _
 refine⟨λh1=>⟨λh2=>?_,λh2=>⟨sz3 ac,cP qO qO,?_⟩⟩,λh1=>⟨sz3 s.ac,cP qO qO,λh2=>?_,λh2=>⟨sz3 ac,cP qO qO,f1,?_⟩⟩⟩
 ·exact⟨λ_=>lfS os2 [] rfl hB (li _),λ_=>⟨λh3=>O9 hB qO (hpc h3) λos' ho=>lfS os' [(au,k,0)] rfl ho (show 1<=m+2 by omega),λ_=>lfS os2 [] rfl hB (li _)⟩⟩
 ·exact⟨λ_=>⟨nt3 ac rfl rfl,lfS os2 ac rfl hB qO⟩,λ_=>⟨λh3=>O9 hB qO (hpc h3) λos' ho=>⟨cP qO qO,f2,nt3 (ac++[(au,k,0)]) (by rw[jr];rfl) (by rw[fJ];rfl),qS,lfS os' (ac++[(au,k,0)]) (by rw[jr];rfl) ho (by rw[cg];show _+1<=_;omega)⟩,λ_=>⟨nt3 ac rfl rfl,lfS os2 ac rfl hB qO⟩⟩⟩
 ·exact⟨λ_=>⟨nt3 s.ac rfl rfl,lfS os2 s.ac rfl hB qO⟩,λ_=>⟨λh3=>O9 hB qO (hpc h3) λos' ho=>⟨cP qO qO,f1,nt3 (s.ac++[(au,k,0)]) (by rw[jr];rfl) (by rw[fJ];rfl),qS,lfS os' (s.ac++[(au,k,0)]) (by rw[jr];rfl) ho (by rw[cg];show _+1<=_;omega)⟩,λ_=>⟨nt3 s.ac rfl rfl,lfS os2 s.ac rfl hB qO⟩⟩⟩
 ·have g1:ai aQ s.ac++ai aQ ac=ai aQ (s.ac++ac):=(jr ..).symm;have g2:∀ x:A3,ai aQ s.ac++ai aQ ac++[aQ x]=ai aQ (s.ac++ac++[x]):=λx=>by rw[jr,jr];rfl
  have g3:(s.ac++ac).length<=m+1:=by rw[cg];omega
  exact⟨λ_=>⟨nt3 (s.ac++ac) g1 (fJ _ _),(cg ..).symm,lfS os2 (s.ac++ac) g1 hB qO⟩,λ_=>⟨λh3=>O9 hB qO (hpc h3) λos' ho=>⟨cP qO qO,by rw[cg,<-f1,<-f2];omega,nt3 (s.ac++ac++[(au,k,0)]) (g2 (au,k,0)) (by rw[fJ,fJ];rfl),by simp;omega,lfS os' (s.ac++ac++[(au,k,0)]) (g2 (au,k,0)) ho (by rw[cg];show _+1<=_;omega)⟩,λ_=>⟨nt3 (s.ac++ac) g1 (fJ _ _),(cg ..).symm,lfS os2 (s.ac++ac) g1 hB qO⟩⟩⟩
end
abbrev FM:=br->br->Option af
def iC(L:ab br):ab Value:=L.map λx=>.int .i64 x
def sI(i n:aq):Value:=.slice (ae ⟨i,0,av⟩) n (UNK+1)
def cdl(l:ab In)(nV nS:aq):ab Value:=[frz (l.map aP),.int .i64 nV,.int .i64 nS]
structure CX where
 s:SX
 L1:ab br
 L2:ab br
 L3:ab br
 f7:FM
 f9:FM
 f10:FM
 site:br
def obP(l:ab In)(nV nS n:aq)(X:CX):ab (aq×HObj):=[(0,.row aa (cdl l nV nS) 34),(1,.row aa [frz []] 40),(2,.row aa (nY X.s) 61),(3,.row aa [sI 4 n,sI 5 n,sI 6 n] 24)]
def obC(l:ab In)(nV nS n:aq)(X:CX):ab (aq×HObj):=[(0,.row aa (cdl l nV nS) 34),(1,.row aa [frz []] 40),(2,.row aa (nY X.s) 61),(3,.row aa [sI 4 n,sI 5 n,sI 6 n] 24),(4,.srow (iC X.L1) 3),(5,.srow (iC X.L2) 3),(6,.srow (iC X.L3) 3),(7,.fmap X.f7),(8,.row aa [.int .i64 X.site,.map (ae 9),.map (ae 10)] 66),(9,.fmap X.f9),(10,.fmap X.f10),(11,.row aa [frz [],frz [],frz []] 24)]
def slC(i st:br):ab (aq×af):=[(2,.int .i64 st),(3,ptr 0),(4,ptr 1),(6,ptr 11),(7,.int .i64 0),(8,ptr 2),(11,ptr 3),(12,.map (ae 7)),(13,ptr 8),(14,.int .i64 i)]
def kCo:aS:=eX [(16,⟨[],[],[],[],r16⟩),(18,⟨[],[],[],[],r18⟩),(19,⟨[],[],[],[],r19⟩),(17,⟨[],[],[],[.srw 76],G1⟩)]
theorem DO:aR ad kCo:=cL
def iS:gy->gy
 |.block _ c=>c|_=>.skip
noncomputable def bdC:ab Code:=aU (iS (nth (aU (aJ (nth (pcs ad 8) 9))) 2))
def aFV l (nV nS:aq) (st Q):=sg aC DO ((pcs ad 8).take 9) (stN [] []) (bX [cdV l nV nS,w0V,.int .i64 st] Tryz.f8.ntmps) 0 0 228 Q<|xf λpc1 g1 os1 nx1 ak1 ac1=>xf λen1 th1 b1 n1 sp1 e1=>rn r16 [.agg ⟨[frz (ai aP l),I (nV:br),I (nS:br)]⟩] [] (gr ⟨[bw ⟨[frz (ai aF os1),I pc1]++(rgL g1++[I nx1,I ak1,frz (ai aQ ac1),al en1,al th1,al b1,I n1,I sp1])⟩,I e1]⟩) []<|tq (!e1==0) (lT 3 4227 [256] [] [6,7] 1 .ret [(0,.row aa [frz [],frz [],frz []] 24)] [(6,ptr 0),(7,I 1)]) (ya4 (nS:br) 1 8 <|ya4 (nS:br) 1 8 <|ya4 (nS:br) 1 8 <|lT 60 1108099398 [0,130,388,902,777,651,525,1038,1424,1170,1300,278] [] [2,3,4,6,7,8,11,12,13,14] 12 .normal [(0,.row aa [frz (ai aP l),I (nV:br),I (nS:br)] 34),(1,.row aa [frz []] 40),(2,.row aa ([frz (ai aF os1),I pc1]++(rgL g1++[I nx1,I ak1,frz (ai aQ ac1),al en1,al th1,al b1,I n1,I sp1])) 61),(3,.row aa [SL 4 (az (ah .i64 ((nS:br)+1))) (un 1),SL 5 (az (ah .i64 ((nS:br)+1))) (un 1),SL 6 (az (ah .i64 ((nS:br)+1))) (un 1)] 24),(4,.srow (rep (az (ah .i64 ((nS:br)+1))) (so (dx (I 0)))) 3),(5,.srow (rep (az (ah .i64 ((nS:br)+1))) (so (dx (I 0)))) 3),(6,.srow (rep (az (ah .i64 ((nS:br)+1))) (so (dx (I 0)))) 3),(7,iq λx x_1=>av),(8,.row aa [I (-1),jb (ae 9),jb (ae 10)] 66),(9,iq λx x_1=>av),(10,iq λx x_1=>av),(11,.row aa [frz [],frz [],frz []] 24)] [(2,I st),(3,ptr 0),(4,ptr 1),(6,ptr 11),(7,I 0),(8,ptr 2),(11,ptr 3),(12,jb (ae 7)),(13,ptr 8),(14,I 0)])
def aFP l (nV nS n:aq) (X:CX) (i st Q):=sg aC DO ((aU (aJ (nth (pcs ad 8) 9))).take 2) (aH (obC l nV nS n X) 12 0) (mkF (slC i st) 228) 0 0 228 Q<|tu (decide (i<st)) (tu (decide (i<1048576)) (tq (!SX.en X.s) (lT 511 290411798085958 [0,130,260,390,521,651,781,910,1040,1170,1300,1430] [] [2,3,4,6,7,8,11,12,13,14] 12 .normal (obP l nV nS n X++[(4,.srow (ai (λx=>I x) X.L1) 3),(5,.srow (ai (λx=>I x) X.L2) 3),(6,.srow (ai (λx=>I x) X.L3) 3),(7,iq X.f7),(8,.row aa [I X.site,jb (ae 9),jb (ae 10)] 66),(9,iq X.f9),(10,iq X.f10),(11,.row aa [frz [],frz [],frz []] 24)]) (slC i st)) (lT 383 290411798085958 [0,130,260,390,521,651,781,910,1040,1170,1300,1430] [] [2,3,4,6,7,8,11,12,13,14] 12 (.exit 0) (obP l nV nS n X++[(4,.srow (ai (λx=>I x) X.L1) 3),(5,.srow (ai (λx=>I x) X.L2) 3),(6,.srow (ai (λx=>I x) X.L3) 3),(7,iq X.f7),(8,.row aa [I X.site,jb (ae 9),jb (ae 10)] 66),(9,iq X.f9),(10,iq X.f10),(11,.row aa [frz [],frz [],frz []] 24)]) (slC i st))) (lT 263 290411798085953 [0,130,260,390,521,651,781,910,1040,1170,1300,1430] [] [2,3,4,6,7,8,11,12,13,14] 12 (.exit 0) (obP l nV nS n X++[(4,.srow (ai (λx=>I x) X.L1) 3),(5,.srow (ai (λx=>I x) X.L2) 3),(6,.srow (ai (λx=>I x) X.L3) 3),(7,iq X.f7),(8,.row aa [I X.site,jb (ae 9),jb (ae 10)] 66),(9,iq X.f9),(10,iq X.f10),(11,.row aa [frz [],frz [],frz []] 24)]) (slC i st))) (lT 256 290411746955329 [0,130,260,390,521,651,781,910,1040,1170,1300,1430] [] [2,3,4,6,7,8,11,12,13,14] 12 (.exit 0) (obP l nV nS n X++[(4,.srow (ai (λx=>I x) X.L1) 3),(5,.srow (ai (λx=>I x) X.L2) 3),(6,.srow (ai (λx=>I x) X.L3) 3),(7,iq X.f7),(8,.row aa [I X.site,jb (ae 9),jb (ae 10)] 66),(9,iq X.f9),(10,iq X.f10),(11,.row aa [frz [],frz [],frz []] 24)]) (slC i st))
def aFU l (nV nS n:aq) (X:CX) (i st Q):=sg aC DO (bdC.take 7) (aH (obC l nV nS n X) 12 0) (mkF (slC i st) 228) 0 0 228 Q<|xf λkd1 pc1 g1 rs1 ws1 nw1=>xf λdl1 ac1 st1 th1 b1 n1=>rn G1 [bw ⟨[frz (ai aP l),I (nV:br),I (nS:br)]⟩,bw ⟨[I (SX.pc X.s)]++(rgL (SX.g X.s)++[])⟩,bw ⟨[frz (ai aF (SX.os X.s))]⟩,I (SX.nx X.s)] [] (bw ⟨[I kd1,I pc1]++(rgL g1++[frz (ai aL rs1),SL 0 ws1.length (un 4),frz (ai aF nw1),frz dl1,frz (ai aQ ac1),I st1,al th1,al b1,I n1])⟩) [aB (ai aL ws1)]<|xf λpc3 g3 os3 nx3 ak3 ac3=>xf λen3 th3 b3 n3 sp3 e3=>rn r18 [bw ⟨[frz (ai aP l),I (nV:br),I (nS:br)]⟩,bw ⟨[frz []]⟩,bw ⟨[frz (ai aF (SX.os X.s)),I (SX.pc X.s)]++(rgL (SX.g X.s)++[I (SX.nx X.s),I (SX.ak X.s),frz (ai aQ (SX.ac X.s)),al (SX.en X.s),al (SX.th X.s),al (cf (SX.v X.s)),I (ce (SX.v X.s)),I (SX.sp X.s)])⟩] [] (gr ⟨[bw ⟨[frz (ai aF os3),I pc3]++(rgL g3++[I nx3,I ak3,frz (ai aQ ac3),al en3,al th3,al b3,I n3,I sp3])⟩,I e3]⟩) []<|tq (!e3==0) (lT 3 270532 [0,130,260,390,521,651,781,910,1040,1170,1300,1430] [] [2,3,4,6,7,8,11,12,13,14] 12 (.exit 0) (obP l nV nS n X++[(4,.srow (ai (λx=>I x) X.L1) 3),(5,.srow (ai (λx=>I x) X.L2) 3),(6,.srow (ai (λx=>I x) X.L3) 3),(7,iq X.f7),(8,.row aa [I X.site,jb (ae 9),jb (ae 10)] 66),(9,iq X.f9),(10,iq X.f10),(11,.row aa [frz [],frz [],frz []] 24)]) (slC i st)) (tq (kd1==3) (xc λb7 n7 o7=>rn r19 [.agg ⟨[frz (ai aF (SX.os X.s))]⟩,I 1,I 0] [] (.tuple ⟨[.agg ⟨[.bool b7,I n7]⟩,.bool o7]⟩) []<|xe λop9 a9 b9 c9 n9=>nt (0<=SX.pc X.s/\(ai aP l)[az (SX.pc X.s)]? =ae (bw ⟨[I op9,I a9,I b9,I c9,I n9]⟩)) [[aP {op:=op9,a:=a9,b:=b9,c:=c9,n:=n9}]]<|yab (ws1.length+1) 32 <|pn (ws1.length*4=aw (aB (ai aL ws1)))<|lT 18 18590822951555593 [0,130,260,390,521,651,781,910,1040,1170,1300,1430,1688,1818,2205] [] [2,3,4,6,7,8,11,12,13,14,15,16,109,110,111] 15 .normal (obP l nV nS n X++[(4,.srow (ai (λx=>I x) X.L1) 3),(5,.srow (ai (λx=>I x) X.L2) 3),(6,.srow (ai (λx=>I x) X.L3) 3),(7,iq X.f7),(8,.row aa [I X.site,jb (ae 9),jb (ae 10)] 66),(9,iq X.f9),(10,iq X.f10),(11,.row aa [frz [],frz [],frz []] 24),(12,.row aa ([I kd1,I pc1]++(rgL g1++[frz (ai aL rs1),SL 14 (ws1.length+1) (un 4),frz (ai aF nw1),frz dl1,frz (ai aQ ac1),I st1,al th1,al b1,I n1])) 70),(13,.row aa ([frz (ai aF os3),I pc3]++(rgL g3++[I nx3,I ak3,frz (ai aQ ac3),al en3,al th3,al b3,I n3,I sp3])) 61),(14,.srow (aB (ai aL ws1)++[I n7,I (ah .i64 (3+n9)),al aa,I 0]) 76)]) (slC i st++[(15,ptr 12),(16,ptr 13),(109,frz (ai aL rs1)),(110,I ((ai aL rs1).length:br)),(111,I 0)])) (lT 4 17314053 [0,130,260,390,521,651,781,910,1040,1170,1300,1430,1688,1818,1565] [] [2,3,4,6,7,8,11,12,13,14,15,16,109,110,111] 15 .normal (obP l nV nS n X++[(4,.srow (ai (λx=>I x) X.L1) 3),(5,.srow (ai (λx=>I x) X.L2) 3),(6,.srow (ai (λx=>I x) X.L3) 3),(7,iq X.f7),(8,.row aa [I X.site,jb (ae 9),jb (ae 10)] 66),(9,iq X.f9),(10,iq X.f10),(11,.row aa [frz [],frz [],frz []] 24),(12,.row aa ([I kd1,I pc1]++(rgL g1++[frz (ai aL rs1),SL 14 ws1.length (un 4),frz (ai aF nw1),frz dl1,frz (ai aQ ac1),I st1,al th1,al b1,I n1])) 70),(13,.row aa ([frz (ai aF os3),I pc3]++(rgL g3++[I nx3,I ak3,frz (ai aQ ac3),al en3,al th3,al b3,I n3,I sp3])) 61),(14,.srow (aB (ai aL ws1)) 76)]) (slC i st++[(15,ptr 12),(16,ptr 13),(109,frz (ai aL rs1)),(110,I ((ai aL rs1).length:br)),(111,I 0)])))
def eR8(rs:ab C4)(e:Eff):ab Value:=[.int .i64 e.kd,.int .i64 e.pc]++(rgL e.rg++[frz (rs.map aL),s4 14 e.ws.length,cN e.nw,frz e.dl,frz e.ac,.int .i64 e.st,.bool e.th,.bool e.v.1,.int .i64 e.v.2])
def obI(l:ab In)(nV nS n:aq)(X:CX)(c1 c2 c3:ab af)(f7:FM)(site:br)(f9 f10:FM):ab (aq×HObj):=obP l nV nS n X++[(4,.srow c1 3),(5,.srow c2 3),(6,.srow c3 3),(7,.fmap f7),(8,.row aa [.int .i64 site,.map (ae 9),.map (ae 10)] 66),(9,.fmap f9),(10,.fmap f10),(11,.row aa [frz [],frz [],frz []] 24)]
def obF(rs:ab C4)(e:Eff)(t:SX):ab (aq×HObj):=[(12,.row aa (eR8 rs e) 70),(13,.row aa (nY t) 61),(14,.srow (cC e.ws) 76)]
def iU(l:ab In)(nV nS n:aq)(X:CX)(rs:ab C4)(e:Eff)(t:SX):ab (aq×HObj):=obC l nV nS n X++[(12,.row aa (eR8 rs e) 70),(13,.row aa (nY t) 61),(14,.srow (cC e.ws) 76)]
def bQ(i st:br)(L:ab (aq×af)):ab (aq×af):=slC i st++([(15,ptr 12),(16,ptr 13)]++L)
noncomputable def b4C:ab Code:=aU (aJ (nth bdC 9))
noncomputable def x5C:ab Code:=aU (iS (nth (aU (aJ (nth bdC 9))) 2))
noncomputable def mk8C:ab Code:=match nth bdC 15 with|.cond _ x _=>aU x|_=>[]
def yc1(a0:CX){G L O c}(x:W G _ O c):=pn (0+az a0.site*1+1<=aw (iC a0.L3)) (L:=L) (O:=O) x
def ybt(a0:CX)(a1){G L O}{c:_->Prop}(x:∀ v0,W G _ _ (c v0)):=xa (L:=L) (O:=O) λv0=>nt (0+az a0.site*1+1<=aw a1/\dr 1 (dq (0+az a0.site*1) a1)=[I v0]) [[I v0]] (x v0)
def ybm(a0:CX)(a1){G L O c}(x:W G _ O c):=pn ((decide (0<=CX.site a0)&&decide (CX.site a0<(a1:br)))=au) (L:=L) (O:=O) x
def aFR l (nV nS n:aq) (X:CX) (rs:ab C4) (e:Eff) (t:SX) (i st k Q):=sg aC aK (aU (aJ (nth bdC 7))) (aH (iU l nV nS n X rs e t) 15 0) (mkF (bQ i st [(109,frz (rs.map aL)),(110,.int .i64 rs.length),(111,.int .i64 k)]) 228) 0 0 228 Q<|tq (decide (k<(rs.length:br))) (xd λa2 f2 b2 m2=>nt (0<=k/\(ai aL rs)[az k]? =ae (bw ⟨[I a2,I f2,al b2,I m2]⟩)) [[.agg ⟨[I a2,I f2,.bool b2,I m2]⟩]]<|tu (decide (CX.site X>=0)) (tq (ud (CX.f7 X a2 f2)) (xa λb6=>nt (CX.f7 X a2 f2=ae (al b6)) [[.bool b6]]<|tu b6 (tq (ud (CX.f9 X a2 f2)) (xa λb10=>nt (CX.f9 X a2 f2=ae (al b10)) [[.bool b10]]<|tu (!b10) (tq (ud (CX.f10 X a2 f2)) (xa λb14=>nt (CX.f10 X a2 f2=ae (al b14)) [[.bool b14]]<|tq (!b14) (ybm X n <|ybt X (iC X.L3) λm18=>ybm X n <|pn (iC X.L3≠[])<|yc1 X <|lT 4194303 1581532215022286945773471880318077388843650037125297429 [0,130,260,390,521,651,781,910,1040,1170,1300,1430,1560,1690,1821] [] [2,3,4,6,7,8,11,12,13,14,15,16,109,110,111] 15 .normal (obI l nV nS n X (iC X.L1) (iC X.L2) (dr (0+az X.site*1) (iC X.L3)++[I (ah .i64 (m18+1))]++dq (0+az X.site*1+1) (iC X.L3)) X.f7 X.site X.f9 (iT X.f10 a2 f2 (al au))++obF rs e t) (bQ i st [(109,frz (ai aL rs)),(110,I (rs.length:br)),(111,I (ah .i64 (k+1)))])) (lT 3145727 1472916654331876845819383748171923112909914960 [0,130,260,390,521,651,781,910,1040,1170,1300,1430,1560,1690,1821] [] [2,3,4,6,7,8,11,12,13,14,15,16,109,110,111] 15 .normal (obI l nV nS n X (iC X.L1) (iC X.L2) (iC X.L3) X.f7 X.site X.f9 X.f10++obF rs e t) (bQ i st [(109,frz (ai aL rs)),(110,I (rs.length:br)),(111,I (ah .i64 (k+1)))]))) (ybm X n <|ybt X (iC X.L3) λm15=>ybm X n <|pn (iC X.L3≠[])<|yc1 X <|lT 4063231 24711440859723233527710498129969959200668892434338963 [0,130,260,390,521,651,781,910,1040,1170,1300,1430,1560,1690,1821] [] [2,3,4,6,7,8,11,12,13,14,15,16,109,110,111] 15 .normal (obI l nV nS n X (iC X.L1) (iC X.L2) (dr (0+az X.site*1) (iC X.L3)++[I (ah .i64 (m15+1))]++dq (0+az X.site*1+1) (iC X.L3)) X.f7 X.site X.f9 (iT X.f10 a2 f2 (al au))++obF rs e t) (bQ i st [(109,frz (ai aL rs)),(110,I (rs.length:br)),(111,I (ah .i64 (k+1)))]))) (lT 1056767 359598792561493370561372985393535916229441 [0,130,260,390,521,651,781,910,1040,1170,1300,1430,1560,1690,1821] [] [2,3,4,6,7,8,11,12,13,14,15,16,109,110,111] 15 .normal (obI l nV nS n X (iC X.L1) (iC X.L2) (iC X.L3) X.f7 X.site X.f9 X.f10++obF rs e t) (bQ i st [(109,frz (ai aL rs)),(110,I (rs.length:br)),(111,I (ah .i64 (k+1)))]))) (tq (ud (CX.f10 X a2 f2)) (xa λb11=>nt (CX.f10 X a2 f2=ae (al b11)) [[.bool b11]]<|tq (!b11) (ybm X n <|ybt X (iC X.L3) λm15=>ybm X n <|pn (iC X.L3≠[])<|yc1 X <|lT 4193279 24711440859723233527710494432715003669030185373336658 [0,130,260,390,521,651,781,910,1040,1170,1300,1430,1560,1690,1821] [] [2,3,4,6,7,8,11,12,13,14,15,16,109,110,111] 15 .normal (obI l nV nS n X (iC X.L1) (iC X.L2) (dr (0+az X.site*1) (iC X.L3)++[I (ah .i64 (m15+1))]++dq (0+az X.site*1+1) (iC X.L3)) X.f7 X.site X.f9 (iT X.f10 a2 f2 (al au))++obF rs e t) (bQ i st [(109,frz (ai aL rs)),(110,I (rs.length:br)),(111,I (ah .i64 (k+1)))])) (lT 3144703 23014322723935575715927867621849294443642893 [0,130,260,390,521,651,781,910,1040,1170,1300,1430,1560,1690,1821] [] [2,3,4,6,7,8,11,12,13,14,15,16,109,110,111] 15 .normal (obI l nV nS n X (iC X.L1) (iC X.L2) (iC X.L3) X.f7 X.site X.f9 X.f10++obF rs e t) (bQ i st [(109,frz (ai aL rs)),(110,I (rs.length:br)),(111,I (ah .i64 (k+1)))]))) (ybm X n <|ybt X (iC X.L3) λm12=>ybm X n <|pn (iC X.L3≠[])<|yc1 X <|lT 4062207 386116263433175523870476475511171932275820071281616 [0,130,260,390,521,651,781,910,1040,1170,1300,1430,1560,1690,1821] [] [2,3,4,6,7,8,11,12,13,14,15,16,109,110,111] 15 .normal (obI l nV nS n X (iC X.L1) (iC X.L2) (dr (0+az X.site*1) (iC X.L3)++[I (ah .i64 (m12+1))]++dq (0+az X.site*1+1) (iC X.L3)) X.f7 X.site X.f9 (iT X.f10 a2 f2 (al au))++obF rs e t) (bQ i st [(109,frz (ai aL rs)),(110,I (rs.length:br)),(111,I (ah .i64 (k+1)))])))) (lT 524351 87792673965208342422209629276233535553 [0,130,260,390,521,651,781,910,1040,1170,1300,1430,1560,1690,1821] [] [2,3,4,6,7,8,11,12,13,14,15,16,109,110,111] 15 .normal (obI l nV nS n X (iC X.L1) (iC X.L2) (iC X.L3) X.f7 X.site X.f9 X.f10++obF rs e t) (bQ i st [(109,frz (ai aL rs)),(110,I (rs.length:br)),(111,I (ah .i64 (k+1)))]))) (lT 524335 1371760530705756473263899617672826945 [0,130,260,390,521,651,781,910,1040,1170,1300,1430,1560,1690,1821] [] [2,3,4,6,7,8,11,12,13,14,15,16,109,110,111] 15 .normal (obI l nV nS n X (iC X.L1) (iC X.L2) (iC X.L3) X.f7 X.site X.f9 X.f10++obF rs e t) (bQ i st [(109,frz (ai aL rs)),(110,I (rs.length:br)),(111,I (ah .i64 (k+1)))]))) (lT 262145 21433758291956323973913295651606593 [0,130,260,390,521,651,781,910,1040,1170,1300,1430,1560,1690,1821] [] [2,3,4,6,7,8,11,12,13,14,15,16,109,110,111] 15 .normal (obI l nV nS n X (iC X.L1) (iC X.L2) (iC X.L3) X.f7 X.site X.f9 X.f10++obF rs e t) (bQ i st [(109,frz (ai aL rs)),(110,I (rs.length:br)),(111,I (ah .i64 (k+1)))]))) (lT 2 66 [0,130,260,390,521,651,781,910,1040,1170,1300,1430,1560,1690,1821] [] [2,3,4,6,7,8,11,12,13,14,15,16,109,110,111] 15 (.exit 2) (obI l nV nS n X (iC X.L1) (iC X.L2) (iC X.L3) X.f7 X.site X.f9 X.f10++obF rs e t) (bQ i st [(109,frz (ai aL rs)),(110,I (rs.length:br)),(111,I k)]))
def aFQ l (nV nS n:aq) (X:CX) (rs:ab C4) (e:Eff) (t:SX) (i st Q):=sg aC aK ((bdC.drop 8).take 1) (aH (iU l nV nS n X rs e t) 15 0) (mkF (bQ i st []) 228) 0 0 228 Q<|lT 1 1 [0,130,260,390,521,651,781,910,1040,1170,1300,1430,1560,1690,1821] [] [2,3,4,6,7,8,11,12,13,14,15,16,155,156,157] 15 .normal (obI l nV nS n X (iC X.L1) (iC X.L2) (iC X.L3) X.f7 X.site X.f9 X.f10++obF rs e t) (bQ i st [(155,frz (ai aF (oo e))),(156,I (↑(aw (ai aF (oo e))):br)),(157,I 0)])
def YH l (nV nS n:aq) (X:CX) (rs:ab C4) (e:Eff) (t:SX) (i st k Q):=sg aC aK (b4C.take 2) (aH (iU l nV nS n X rs e t) 15 0) (mkF (bQ i st [(155,cN e.nw),(156,.int .i64 e.nw.length),(157,.int .i64 k)]) 228) 0 0 228 Q<|tq (decide (k<((oo e).length:br))) (lT 3 66 [0,130,260,390,521,651,781,910,1040,1170,1300,1430,1560,1690,1821] [] [2,3,4,6,7,8,11,12,13,14,15,16,155,156,157] 15 .normal (obI l nV nS n X (iC X.L1) (iC X.L2) (iC X.L3) X.f7 X.site X.f9 X.f10++obF rs e t) (bQ i st [(155,frz (ai aF (oo e))),(156,I ((oo e).length:br)),(157,I k)])) (lT 2 66 [0,130,260,390,521,651,781,910,1040,1170,1300,1430,1560,1690,1821] [] [2,3,4,6,7,8,11,12,13,14,15,16,155,156,157] 15 (.exit 4) (obI l nV nS n X (iC X.L1) (iC X.L2) (iC X.L3) X.f7 X.site X.f9 X.f10++obF rs e t) (bQ i st [(155,frz (ai aF (oo e))),(156,I ((oo e).length:br)),(157,I k)]))
def YG l (nV nS n:aq) (X:CX) (rs:ab C4) (e:Eff) (t:SX) (i st k Q):=sg aC aK (x5C.take 2) (aH (iU l nV nS n X rs e t) 15 0) (mkF (bQ i st [(155,cN e.nw),(156,.int .i64 e.nw.length),(157,.int .i64 k)]) 228) 0 0 228 Q<|xb λa1 o1=>nt (0<=k/\(ai aF (oo e))[az k]? =ae (bw ⟨[I a1,frz (ai aM o1)]⟩)) [[aF (a1,o1)]]<|lT 1 66 [0,130,260,390,521,651,781,910,1040,1170,1300,1430,1560,1690,1821,1950] [] [2,3,4,6,7,8,11,12,13,14,15,16,24,155,156,157,162,163,164] 16 .normal (obI l nV nS n X (iC X.L1) (iC X.L2) (iC X.L3) X.f7 X.site X.f9 X.f10++obF rs e t++[(15,.row aa [I a1,frz (ai aM o1)] 80)]) (bQ i st [(24,ptr 15),(155,frz (ai aF (oo e))),(156,I ((oo e).length:br)),(157,I k),(162,frz (ai aM o1)),(163,I ((ai aM o1).length:br)),(164,I 0)])
def YF l (nV nS n:aq) (X:CX) (rs:ab C4) (e:Eff) (t:SX) (i st k id j) (o:ab V) (Q):=sg aC aK (aU (aJ (nth x5C 2))) (aH (iU l nV nS n X rs e t++[(15,.row aa [.int .i64 id,jE o] 80)]) 16 0) (mkF (bQ i st [(155,cN e.nw),(156,.int .i64 e.nw.length),(157,.int .i64 k),(24,ptr 15),(162,jE o),(163,.int .i64 o.length),(164,.int .i64 j)]) 228) 0 0 228 Q<|tq (decide (j<(o.length:br))) (lT 3 66 [0,130,260,390,521,651,781,910,1040,1170,1300,1430,1560,1690,1821,1950] [] [2,3,4,6,7,8,11,12,13,14,15,16,24,155,156,157,162,163,164] 16 .normal (obI l nV nS n X (iC X.L1) (iC X.L2) (iC X.L3) X.f7 X.site (iT X.f9 id j (al au)) X.f10++obF rs e t++[(15,.row aa [I id,frz (ai aM o)] 80)]) (bQ i st [(24,ptr 15),(155,frz (ai aF (oo e))),(156,I ((oo e).length:br)),(157,I k),(162,frz (ai aM o)),(163,I (o.length:br)),(164,I (ah .i64 (j+1)))])) (lT 2 66 [0,130,260,390,521,651,781,910,1040,1170,1300,1430,1560,1690,1821,1950] [] [2,3,4,6,7,8,11,12,13,14,15,16,24,155,156,157,162,163,164] 16 (.exit 6) (obI l nV nS n X (iC X.L1) (iC X.L2) (iC X.L3) X.f7 X.site X.f9 X.f10++obF rs e t++[(15,.row aa [I id,frz (ai aM o)] 80)]) (bQ i st [(24,ptr 15),(155,frz (ai aF (oo e))),(156,I ((oo e).length:br)),(157,I k),(162,frz (ai aM o)),(163,I (o.length:br)),(164,I j)]))
def YE l (nV nS n:aq) (X:CX) (rs:ab C4) (e:Eff) (t:SX) (i st k Q):=sg aC aK (b4C.drop 3) (aH (iU l nV nS n X rs e t) 15 0) (mkF (bQ i st [(155,cN e.nw),(156,.int .i64 e.nw.length),(157,.int .i64 k)]) 228) 0 0 228 Q<|lT 1 1 [0,130,260,390,521,651,781,910,1040,1170,1300,1430,1560,1690,1821] [] [2,3,4,6,7,8,11,12,13,14,15,16,155,156,157] 15 .normal (obI l nV nS n X (iC X.L1) (iC X.L2) (iC X.L3) X.f7 X.site X.f9 X.f10++obF rs e t) (bQ i st [(155,frz (ai aF (oo e))),(156,I ((oo e).length:br)),(157,I (ah .i64 (k+1)))])
def YB l (nV nS n:aq) (X:CX) (rs:ab C4) (e:Eff) (t:SX) (i st Q):=sg aC aK ((bdC.drop 10).take 1) (aH (iU l nV nS n X rs e t) 15 0) (mkF (bQ i st []) 228) 0 0 228 Q<|lT 1 1 [0,130,260,390,521,651,781,910,1040,1170,1300,1430,1560,1690,1821] [] [2,3,4,6,7,8,11,12,13,14,15,16,176,177,178] 15 .normal (obI l nV nS n X (iC X.L1) (iC X.L2) (iC X.L3) X.f7 X.site X.f9 X.f10++obF rs e t) (bQ i st [(176,SL 14 ((tc e).length) (un 4)),(177,I ((tc e).length:br)),(178,I 0)])
def aFM l (nV nS n:aq) (X:CX) (rs:ab C4) (e:Eff) (t:SX) (i st k Q):=sg aC aK (aU (aJ (nth bdC 11))) (aH (iU l nV nS n X rs e t) 15 0) (mkF (bQ i st [(176,s4 14 e.ws.length),(177,.int .i64 e.ws.length),(178,.int .i64 k)]) 228) 0 0 228 Q<|tq (decide (k<((tc e).length:br))) (pn ((decide (0<=k)&&decide (k<((tc e).length:br)))=au)<|xd λa3 f3 b3 m3=>nt (0+az k*4+4<=aw (cC (tc e))/\dr 4 (dq (0+az k*4) (cC (tc e)))=[I a3,I f3,al b3,I m3]) [[I a3,I f3,.bool b3,I m3]]<|lT 3 270532 [0,130,260,390,521,651,781,910,1040,1170,1300,1430,1560,1690,1821] [] [2,3,4,6,7,8,11,12,13,14,15,16,176,177,178] 15 .normal (obI l nV nS n X (iC X.L1) (iC X.L2) (iC X.L3) X.f7 X.site (iT X.f9 a3 f3 (al au)) X.f10++obF rs e t) (bQ i st [(176,SL 14 ((tc e).length) (un 4)),(177,I ((tc e).length:br)),(178,I (ah .i64 (k+1)))])) (lT 2 66 [0,130,260,390,521,651,781,910,1040,1170,1300,1430,1560,1690,1821] [] [2,3,4,6,7,8,11,12,13,14,15,16,176,177,178] 15 (.exit 8) (obI l nV nS n X (iC X.L1) (iC X.L2) (iC X.L3) X.f7 X.site X.f9 X.f10++obF rs e t) (bQ i st [(176,SL 14 ((tc e).length) (un 4)),(177,I ((tc e).length:br)),(178,I k)]))
def aFO l (nV nS n:aq) (X:CX) (rs:ab C4) (e:Eff) (t:SX) (i st Q):=sg aC aK ((bdC.drop 12).take 3) (aH (iU l nV nS n X rs e t) 15 0) (mkF (bQ i st []) 228) 0 0 228 Q<|tq (decide (CX.site X>=0)) (ybm X n <|ybt X (iC X.L2) λm3=>ybm X n <|pn (iC X.L2≠[])<|pn (0+az X.site*1+1<=aw (iC X.L2))<|lT 3 70918361479 [0,130,260,390,521,651,781,910,1040,1170,1300,1430,1560,1690,1821] [] [2,3,4,6,7,8,11,12,13,14,15,16,203] 15 .normal (obI l nV nS n X (iC X.L1) (dr (0+az X.site*1) (iC X.L2)++[I (ah .i64 (m3+1))]++dq (0+az X.site*1+1) (iC X.L2)) (iC X.L3) X.f7 X.site X.f9 X.f10++obF rs e t) (bQ i st [(203,.bool (Eff.kd e==1))])) (lT 2 66 [0,130,260,390,521,651,781,910,1040,1170,1300,1430,1560,1690,1821] [] [2,3,4,6,7,8,11,12,13,14,15,16,203] 15 .normal (obI l nV nS n X (iC X.L1) (iC X.L2) (iC X.L3) X.f7 X.site X.f9 X.f10++obF rs e t) (bQ i st [(203,.bool (Eff.kd e==1))]))
def aFS l (nV nS n:aq) (X:CX) (rs:ab C4) (e:Eff) (t:SX) (i st Q):=sg aC aK (bdC.drop 16) (aH (iU l nV nS n X rs e t) 15 0) (mkF (bQ i st []) 228) 0 0 228 Q<|lT 1 1 [0,130,260,390,521,651,781,910,1040,1170,1300,1430] [] [2,3,4,6,7,8,11,12,13,14] 12 .normal [(0,.row aa [frz (ai aP l),I (nV:br),I (nS:br)] 34),(1,.row aa [frz []] 40),(2,.row aa ([frz (ai aF (SX.os t)),I (SX.pc t)]++(rgL (SX.g t)++[I (SX.nx t),I (SX.ak t),frz (ai aQ (SX.ac t)),al (SX.en t),al (SX.th t),al (cf (SX.v t)),I (ce (SX.v t)),I (SX.sp t)])) 61),(3,.row aa [SL 4 n (un 1),SL 5 n (un 1),SL 6 n (un 1)] 24),(4,.srow (iC X.L1) 3),(5,.srow (iC X.L2) 3),(6,.srow (iC X.L3) 3),(7,iq X.f7),(8,.row aa [I X.site,jb (ae 9),jb (ae 10)] 66),(9,iq X.f9),(10,iq X.f10),(11,.row aa [frz [],frz [],frz []] 24)] (slC i st)
def aFL l (nV nS n:aq) (X:CX) (i st Q):=sg aC aK ((aU (aJ (nth (pcs ad 8) 9))).drop 3) (aH (obC l nV nS n X) 12 0) (mkF (slC i st) 228) 0 0 228 Q<|lT 1 1 [0,130,260,390,521,651,781,910,1040,1170,1300,1430] [] [2,3,4,6,7,8,11,12,13,14] 12 .normal (obI l nV nS n X (iC X.L1) (iC X.L2) (iC X.L3) X.f7 X.site X.f9 X.f10) [(2,I st),(3,ptr 0),(4,ptr 1),(6,ptr 11),(7,I 0),(8,ptr 2),(11,ptr 3),(12,jb (ae 7)),(13,ptr 8),(14,I (ah .i64 (i+1)))]
def aFT l (nV nS n:aq) (X:CX) (i st Q):=fx aC aK Tryz.f8 ((pcs ad 8).drop 10) (aH (obC l nV nS n X) 12 0) (mkF (slC i st) 228) 0 0 Q<|pn (aB (iC X.L1)=iC X.L1/\(∀(v:af),v∈iC X.L1->ef (dx v)=1)/\0<1)<|pn (aB (iC X.L2)=iC X.L2/\(∀(v:af),v∈iC X.L2->ef (dx v)=1)/\0<1)<|pn (aB (iC X.L3)=iC X.L3/\(∀(v:af),v∈iC X.L3->ef (dx v)=1)/\0<1)<|pn (n=aw (iC X.L1))<|pn (n=aw (iC X.L2))<|pn (n=aw (iC X.L3))<|lZ 1 76337660098 [] [(4,1,iC X.L1),(5,1,iC X.L2),(6,1,iC X.L3)] 0 (.tuple ⟨[.agg ⟨[frz (iC X.L1),frz (iC X.L2),frz (iC X.L3)]⟩,I 0]⟩) []
def obR(l:ab In)(nV nS n:aq)(X:CX)(f7:FM)(rs:ab C4)(e:Eff)(t:SX):ab (aq×HObj):=obP l nV nS n X++[(4,.srow (iC X.L1) 3),(5,.srow (iC X.L2) 3),(6,.srow (iC X.L3) 3),(7,.fmap f7),(8,.row aa [.int .i64 X.site,.map (ae 9),.map (ae 10)] 66),(10,.fmap X.f10),(11,.row aa [frz [],frz [],frz []] 24),(12,.row aa (eR8 rs e) 70),(13,.row aa (nY t) 61),(14,.srow (cC e.ws) 76)]
noncomputable def rgB:ab Code:=aU (aJ (nth mk8C 1))
noncomputable def rgX:ab Code:=aU (iS (nth rgB 2))
def aFN l (nV nS n:aq) (X:CX) (f7:FM) (rs:ab C4) (e:Eff) (t:SX) (i st Q):=sg aC aK (mk8C.drop 2) (aH (obR l nV nS n X f7 rs e t) 16 0) (mkF (bQ i st []) 228) 0 0 228 Q<|pn ((decide (0<=ue e)&&decide (ue e<(n:br)))=au)<|xa λm2=>nt (0+az (ue e)*1+1<=aw (iC X.L1)/\dr 1 (dq (0+az (ue e)*1) (iC X.L1))=[I m2]) [[I m2]]<|pn ((decide (0<=ue e)&&decide (ue e<(n:br)))=au)<|pn (iC X.L1≠[])<|pn (0+az (ue e)*1+1<=aw (iC X.L1))<|lT 1 1108099398 [0,130,260,390,521,651,781,910,1040,2066,2196,1430,1560,1690,1821] [] [2,3,4,6,7,8,11,12,13,14,15,16] 15 .normal (obI l nV nS n X (dr (0+az (ue e)*1) (iC X.L1)++[I (ah .i64 (m2+1))]++dq (0+az (ue e)*1+1) (iC X.L1)) (iC X.L2) (iC X.L3) f7 (ue e) (λx x_1=>av) (λx x_1=>av)++obF rs e t) (bQ i st [])
def aCD l (nV nS n:aq) (X:CX) (f7:FM) (rs:ab C4) (e:Eff) (t:SX) (i st a b Q):=sg aC aK (rgX.drop 1) (aH (obR l nV nS n X f7 rs e t++[(16,.row aa [.int .i64 a,.int .i64 b] 77)]) 17 0) (mkF (bQ i st [(206,ptr 15),(210,kyB a b),(28,ptr 16)]) 228) 16 0 228 Q<|lS 1 1 [0,130,260,390,521,651,781,910,1040,1170,1300,1430,1560,1690,1821,1950] [] [2,3,4,6,7,8,11,12,13,14,15,16,206] 16 .normal (obP l nV nS n X++[(4,.srow (iC X.L1) 3),(5,.srow (iC X.L2) 3),(6,.srow (iC X.L3) 3),(7,iq (iT f7 a b (al au))),(8,.row aa [I X.site,jb (ae 9),jb (ae 10)] 66),(10,iq X.f10),(11,.row aa [frz [],frz [],frz []] 24),(12,.row aa ([I (Eff.kd e),I (Eff.pc e)]++(rgL (Eff.rg e)++[frz (ai aL rs),SL 14 ((tc e).length) (un 4),frz (ai aF (oo e)),frz (Eff.dl e),frz (Eff.ac e),I (ue e),al (Eff.th e),al (cf (Eff.v e)),I (ce (Eff.v e))])) 70),(13,.row aa ([frz (ai aF (SX.os t)),I (SX.pc t)]++(rgL (SX.g t)++[I (SX.nx t),I (SX.ak t),frz (ai aQ (SX.ac t)),al (SX.en t),al (SX.th t),al (cf (SX.v t)),I (ce (SX.v t)),I (SX.sp t)])) 61),(14,.srow (cC (tc e)) 76)]) (bQ i st [(206,ptr 15)])
def YD l (nV nS n:aq) (X:CX) (rs:ab C4) (e:Eff) (t:SX) (i st k id j) (o:ab V) (Q):=sg aC aK (([]:ab gy)) (aH (iU l nV nS n X rs e t++[(15,.row aa [.int .i64 id,jE o] 80)]) 16 0) (mkF (bQ i st [(155,cN e.nw),(156,.int .i64 e.nw.length),(157,.int .i64 k),(24,ptr 15),(162,jE o),(163,.int .i64 o.length),(164,.int .i64 j)]) 228) 0 0 228 Q<|lT 1 1 [0,130,260,390,521,651,781,910,1040,1170,1300,1430,1560,1690,1821] [] [2,3,4,6,7,8,11,12,13,14,15,16,155,156,157] 15 .normal (obI l nV nS n X (iC X.L1) (iC X.L2) (iC X.L3) X.f7 X.site X.f9 X.f10++obF rs e t) (bQ i st [(155,frz (ai aF (oo e))),(156,I ((oo e).length:br)),(157,I k)])
end Go.Proofs.PA
namespace Go.Proofs.PA
open Go Go.Hx Go.RowKit Go.Proofs
open Go.ChangeMaps (setBlock)
section
variable{w0:Base}{μ:Mu}{s s':St}{w:dh}{f:HF}{a:Act}{P:cq}{ops:df gg}
theorem EX(hg:NoG P){call:aS}(hc:aR P call){o:gg}{rest:ab gg}{s1:St}{f1:HF}{Q:Exit->Act->dh->Prop}(h:R w0 μ s w)(ha:AR μ f a)(hs:jP P call ops.toList o s f=ae (s1,f1))(ok:s1.pc=[])(k:∀ a' w' μ',μ.le μ'->R w0 μ' s1 w'->AR μ' f1 a'->wpList P ops Q rest a' w'):wpList P ops Q (o::rest) a w:=wpList_step λK hK=>(rE hg hc h ha hs).2 (λp hp=>by rw[ok] at hp;cases hp) λa' w' μ' k1 k2 k3=>hK _ _ (k a' w' μ' k1 k2 k3)
theorem K4(h:R w0 μ s w)(hs:∀ j o,s'.h.get j=ae o->s.h.get j=ae o)(hn:s'.next=s.next)(hg:s'.ng=s.ng):R w0 μ s' w:=⟨h.below,λi hi=>h.fresh i (hn ▸ hi),λi o hi hd=>h.obj i o (hs i o hi) hd,λi j o o' p q hij hi hj=>h.dis i j o o' p q hij (hs _ _ hi) (hs _ _ hj),h.fz,λb O i o p hb hi=>h.fzd b O i o p hb (hs _ _ hi),h.fzo,λg hg'=>h.gl g (hg ▸ hg')⟩
theorem S9{i:aq}{fm:br->br->Option af}{p:Hx.Place}{O:Obj}(h:R w0 μ s w)(hi:s.h.get i=ae (.fmap fm))(hp:μ i=ae p)(hb:w.heap[p.blk]? =ae O)(hs:∀ j o,s'.h.get j=ae o->s.h.get j=ae o/\j≠i)(hn:s'.next=s.next)(hg:s'.ng=s.ng):R (w0.hx [(0,p.blk,O)]) μ s' w:=by
 have h2:=K4 h (λj o hj=>(hs j o hj).1) hn hg;have ne:∀ j o q g,s'.h.get j=ae o->μ j=ae q->own o q g->g≠p.blk:=λj o q g hj hq hg e=>h.dis j i o _ q p (hs j o hj).2 (hs j o hj).1 hi hq hp g hg e;exact⟨⟨h2.below,λx hx=>by rw[fg.1 hx];exact hb⟩,h2.fresh,λj o hj hd=>let⟨q,k1,k2,k3⟩:=h2.obj j o hj hd
  ⟨q,k1,k2.still (λ_ h=>h) (cw _) (λ_ _=>rfl),λg hg=>⟨k3 g hg,λx hx e=>ne j o q g hj k1 hg (by rw[fg.1 hx] at e;exact e.symm)⟩⟩,h2.dis,h2.fz,h2.fzd,
  λb O' hb'=>⟨h2.fzo b O' hb',λx hx e=>h.fzd b O' i _ p hb' hi hp (by rw[fg.1 hx] at e;exact e.symm)⟩,h2.gl⟩
theorem NG(w:dh)(r:aq)(O:Obj):Off r w (setBlock w r O):=⟨rfl,rfl,rfl,by simp[setBlock],λj hj=>by
 show(w.heap.setIfInBounds r O)[j]? =_;rw[qx (λe=>hj e.symm)]⟩
theorem RA{X:ab (aq×aq×Obj)}{k r:aq}{O O2:Obj}(h:R (w0.hx ((k,r,O)::X)) μ s w)(hr:w0.wr r)(hX:∀ x∈X,x.2.1≠r):R (w0.hx ((k,r,O2)::X)) μ s (setBlock w r O2):=by
 have hrl:r<w.heap.size:=cM (h.below.2 (k,r,O) qS);have off:=NG w r O2;have same:(setBlock w r O2).heap[r]? =ae O2:=by show(w.heap.setIfInBounds r O2)[r]? =_;rw[ot hrl]
 refine⟨⟨w0.upd _ _ r h.below.1 hr off,λx hx=>?_⟩,h.fresh,λi o hi hd=>?_,h.dis,λb O' hb=>?_,h.fzd,λb O' hb=>⟨(h.fzo b O' hb).1,λx hx=>?_⟩,h.gl⟩
 ·rcases ci.1 hx with rfl|hx
  ·exact same
  ·exact(off.block _ (hX x hx)).trans (h.below.2 x (by simp[hx]))
 ·obtain⟨p,k1,k2,k3⟩:=h.obj i o hi hd;refine⟨p,k1,k2.still (λ_ h=>h) (Nat.le_of_eq off.size.symm) (λg hg=>off.block g λe=>?_),λg hg=>⟨(k3 g hg).1,λx hx=>?_⟩⟩
  ·subst e;rcases hg with hg|hg
   ·exact(k3 g hg).2 _ (by simp:(k,g,O)∈_) rfl
   ·exact w0.lapart i g hg hr
  ·rcases ci.1 hx with rfl|hx
   ·exact(k3 g hg).2 (k,r,O) qS
   ·exact(k3 g hg).2 x (by simp[hx])
 ·exact(off.block b λe=>(h.fzo b O' hb).2 (k,r,O) qS e.symm).trans (h.fz b O' hb)
 ·rcases ci.1 hx with rfl|hx
  ·exact(h.fzo b O' hb).2 (k,r,O) qS
  ·exact(h.fzo b O' hb).2 x (by simp[hx])
theorem TT(h:R w0 μ s w):R w0 μ s w.drew:=h.garbage ((Below.refl _ _).drew)
theorem AR.putU{d:aq}{v:af}(h:AR μ f a)(hd:jN (f.get d)=au):AR μ f (a.put (ae d) v):=⟨by show(a.tmps.setIfInBounds d v).size=_;rw[Array.size_setIfInBounds];exact h.size,λd' hd' hv=>by
 have hne:d≠d':=λe=>by subst e;rw[hd] at hv;cases hv
 show VR μ _ ((a.tmps.setIfInBounds d v).getD d' undef);have:(a.tmps.setIfInBounds d v).getD d' undef=a.tmps.getD d' undef:=by rw[jc,jc,qx hne]
 rw[this];exact h.vals d' hd' hv,h.ds⟩
theorem gX{d:aq}{v:af}(h:d<a.tmps.size):(a.put (ae d) v).tmps.getD d undef=v:=by show(a.tmps.setIfInBounds d v).getD d undef=v;rw[jc,ot h];rfl
theorem SH(h:R w0 μ s w)(r:aq)(hset:(Tr.set 64 s.h s.next (.srow [] 3)).isSome=au)(hfree:s.h.get s.next=av)(hs:s'.h=s.h)(hn:s'.next=s.next+1)(hg:s'.ng=s.ng):∃ν,μ.le ν/\ν s.next=ae ⟨r,0,0,eJ⟩/\R w0 ν s' w:=by
 obtain⟨t,ht⟩:=js.1 hset;have h2:=h.add (p:=⟨r,0,0,eJ⟩) ht (λ_=>.inl ⟨rfl,rfl⟩) (λg hg=>(hg.1.elim (λh=>h rfl) (λh=>h rfl)).elim) (λi o' q _ _ _ g _ hg=>(hg.1.elim (λh=>h rfl) (λh=>h rfl)).elim)
  (λb O _ hg=>(hg.1.elim (λh=>h rfl) (λh=>h rfl)).elim)
 refine⟨_,Mu.put_le (h.fresh _ (cw _)),Mu.put_same _ _ _,K4 h2 (λj o hj=>?_) hn hg⟩;rw[hs] at hj;show t.get j=ae o;rw[Tr.get_set 64 s.h t s.next _ ht,eh (λe=>by subst e;rw[hfree] at hj;cases hj)];exact hj
theorem CP(w:dh)(r bm since:aq)(seen:df aq)(es:df ez)(clock:aq)(e:ez)(hr:w.heap[r]? =ae (.mapIter (ae bm) since (seen.push e.born) clock))(hb:w.heap[bm]? =ae (.map es clock))(he:e∈es.toList):∃e'∈es.toList,(Instr.entry (.pointer (ae ⟨r,0,av⟩))).run P w=.ok (.tuple #[e'.key,e'.val]) w:=by
 have:(es.find? (·.born==e.born)).isSome=true:=by rw[Array.find?_isSome];exact⟨e,Array.mem_toList_iff.1 he,qS⟩
 obtain⟨e',he'⟩:=js.1 this;refine⟨e',Array.mem_toList_iff.2 (Array.mem_of_find?_eq_some he'),?_⟩;simp only[Instr.entry,getObj,Sem.run_bind,Sem.run,hr,hb,qt,Array.back?_push,bne_self_eq_false,Bool.false_eq_true,if_false,he'];rfl
end
section
variable{a:Act}{w w':dh}{P:cq}{ops:df gg}{o:gg}{rest:ab gg}{Q:Exit->Act->dh->Prop}
theorem iF(hg:o.guard=av){v:af}(aW:(execOp a.eval o).run P w=.ok (.value v) w')(h:wpList P ops Q rest (a.put o.dst v) w'):wpList P ops Q (o::rest) a w:=wpList_plain hg λK hK=>by unfold Oper.wp;rw[aW];exact hK _ _ h
theorem zN{t k:aq}{l:ab af}{v:af}(hop:o.op=.extract (.tmp t) k)(he:a.tmps.getD t undef=.tuple ⟨l⟩)(hv:l[k]? =ae v):(execOp a.eval o).run P w=.ok (.value v) w:=by
 have:(Instr.extract (.tuple ⟨l⟩) k).run P w=.ok v w:=by simp[Instr.extract,hv]
 simp[execOp,hop,Act.eval,he,this,qt]
theorem FA{t:aq}{v it:af}(hop:o.op=.next (.tmp t) aa)(he:a.tmps.getD t undef=it)(hv:(Instr.next it aa o.type).run P w=.ok v w'):(execOp a.eval o).run P w=.ok (.value v) w':=by simp[execOp,hop,Act.eval,he,hv,qt]
theorem O4{t:aq}{v it:af}(hop:o.op=.entry (.tmp t))(he:a.tmps.getD t undef=it)(hv:(Instr.entry it).run P w=.ok v w'):(execOp a.eval o).run P w=.ok (.value v) w':=by simp[execOp,hop,Act.eval,he,hv,qt]
theorem MQ{t:aq}{ty:TypeId}{v it:af}(hop:o.op=.range ty (.tmp t))(he:a.tmps.getD t undef=it)(hv:(Instr.range ty it).run P w=.ok v w'):(execOp a.eval o).run P w=.ok (.value v) w':=by simp[execOp,hop,Act.eval,he,hv,qt]
end
def nA:gy->df gg
 |.region _ o _=>o|_=>#[]
def opn(c:gy)(k:aq):Oper:=((nA c).toList[k]?).getD default
theorem aEB:nth mk8C 0=.region 42 (nA (nth mk8C 0)) false:=by kernel_rfl
theorem aEA:nth mk8C 1=.block 10 (.loop (aJ (nth mk8C 1))):=by kernel_rfl
theorem aD9:mk8C=nth mk8C 0::nth mk8C 1::mk8C.drop 2:=by kernel_rfl
theorem l42:(nA (nth mk8C 0)).toList=[opn (nth mk8C 0) 0,opn (nth mk8C 0) 1,opn (nth mk8C 0) 2]:=by kernel_rfl
theorem aCQ:rgB=[nth rgB 0,nth rgB 1,nth rgB 2]:=by kernel_rfl
theorem aCS:nth rgB 0=.region 43 (nA (nth rgB 0)) false:=by kernel_rfl
theorem VU:nth rgB 1=.cond (.tmp 208) .skip (.exit 10):=by kernel_rfl
theorem aCR:nth rgB 2=.block 11 (iS (nth rgB 2)):=by kernel_rfl
theorem aB9:rgX=nth rgX 0::rgX.drop 1:=by kernel_rfl
theorem aCA:nth rgX 0=.region 44 (nA (nth rgX 0)) false:=by kernel_rfl
theorem l43:(nA (nth rgB 0)).toList=[opn (nth rgB 0) 0,opn (nth rgB 0) 1]:=by kernel_rfl
theorem l44:(nA (nth rgX 0)).toList=[opn (nth rgX 0) 0,opn (nth rgX 0) 1,opn (nth rgX 0) 2,opn (nth rgX 0) 3]:=by kernel_rfl
theorem o422:(opn (nth mk8C 0) 2).op=.range 64 (.tmp 205)/\(opn (nth mk8C 0) 2).guard=av/\(opn (nth mk8C 0) 2).dst=ae 206:=⟨by kernel_rfl,by kernel_rfl,by kernel_rfl⟩
theorem o430:(opn (nth rgB 0) 0).op=.next (.tmp 206) aa/\(opn (nth rgB 0) 0).guard=av/\(opn (nth rgB 0) 0).dst=ae 207:=⟨by kernel_rfl,by kernel_rfl,by kernel_rfl⟩
theorem o431:(opn (nth rgB 0) 1).op=.extract (.tmp 207) 0/\(opn (nth rgB 0) 1).guard=av/\(opn (nth rgB 0) 1).dst=ae 208:=⟨by kernel_rfl,by kernel_rfl,by kernel_rfl⟩
theorem o440:(opn (nth rgX 0) 0).op=.entry (.tmp 206)/\(opn (nth rgX 0) 0).guard=av/\(opn (nth rgX 0) 0).dst=ae 209:=⟨by kernel_rfl,by kernel_rfl,by kernel_rfl⟩
theorem o441:(opn (nth rgX 0) 1).op=.extract (.tmp 209) 0/\(opn (nth rgX 0) 1).guard=av/\(opn (nth rgX 0) 1).dst=ae 210:=⟨by kernel_rfl,by kernel_rfl,by kernel_rfl⟩
def FmB(f:FM):Prop:=∀ a b v,f a b=ae v->v=.bool au
theorem FmB.upd{f:FM}(h:FmB f)(a b:br):FmB (iT f a b (.bool au)):=λx y v hv=>by unfold iT at hv;cases hc:(x==a&&y==b) with|true=>rw[hc] at hv;cases hv;rfl|false=>rw[hc] at hv;exact h x y v hv
theorem FmB.nil:FmB (λ_ _=>av):=λa b v h=>by cases h
section
variable(l:ab In)(nV nS n:aq)(X:CX)(rs:ab C4)(e:Eff)(t:SX)(i st:br)
def sR(f7:FM):St:=aH (obR l nV nS n X f7 rs e t) 16 0
def tX:HF:=mkF (bQ i st [(206,ptr 15)]) 228
theorem aB6(b:cz):jP ad noK (nA (nth mk8C 0)).toList (opn (nth mk8C 0) 0) (aH (iU l nV nS n X rs e t) 15 0) (mkF (bQ i st [(203,.bool b)]) 228)=ae (aH (iU l nV nS n X rs e t) 15 0,mkF (bQ i st [(203,.bool b),(204,.pointer (ae ⟨8,1,av⟩))]) 228):=by kernel_rfl
theorem aB5(b:cz):jP ad noK (nA (nth mk8C 0)).toList (opn (nth mk8C 0) 1) (aH (iU l nV nS n X rs e t) 15 0) (mkF (bQ i st [(203,.bool b),(204,.pointer (ae ⟨8,1,av⟩))]) 228)=ae (aH (iU l nV nS n X rs e t) 15 0,mkF (bQ i st [(203,.bool b),(204,.pointer (ae ⟨8,1,av⟩)),(205,.map (ae 9))]) 228):=by kernel_rfl
theorem aB4(f7:FM)(x y:br):jP ad noK (nA (nth rgX 0)).toList (opn (nth rgX 0) 2) (sR l nV nS n X rs e t f7) (mkF (bQ i st [(206,ptr 15),(210,kyB x y)]) 228)=ae (aH (obR l nV nS n X f7 rs e t++[(16,.row aa [.int .i64 0,.int .i64 0] 77)]) 17 0,mkF (bQ i st [(206,ptr 15),(210,kyB x y),(28,ptr 16)]) 228):=by kernel_rfl
theorem aB3(f7:FM)(x y:br):jP ad noK (nA (nth rgX 0)).toList (opn (nth rgX 0) 3) (aH (obR l nV nS n X f7 rs e t++[(16,.row aa [.int .i64 0,.int .i64 0] 77)]) 17 0) (mkF (bQ i st [(206,ptr 15),(210,kyB x y),(28,ptr 16)]) 228)=ae (aH (obR l nV nS n X f7 rs e t++[(16,.row aa [.int .i64 x,.int .i64 y] 77)]) 17 0,mkF (bQ i st [(206,ptr 15),(210,kyB x y),(28,ptr 16)]) 228):=by kernel_rfl
end
theorem inB{Q:Exit->Act->dh->Prop}{a:Act}{w:dh}(h:Q .normal a w):Exit.inBlock 10 Q (.exit 10) a w:=by show(if(10:aq)=10 then Q .normal a w else Q (.exit 10) a w);rw[fc rfl];exact h
theorem leN.zero{n0:aq}{μ ν:Mu}(h:leN n0 μ ν):leN 0 μ ν:=⟨λi p hi _=>cp hi (Nat.not_lt_zero i),h.2⟩
theorem AR.mono'{μ ν:Mu}{f:HF}{a:Act}(h:AR μ f a)(k:μ.le ν):AR ν f a:=⟨h.size,λd hd hv=>(h.vals d hd hv).mono k,h.ds.mono k⟩
theorem AR.unput{μ:Mu}{f f':HF}{a:Act}{d:aq}{v:af}(h:AR μ f' a)(hp:f.put (ae d) v=ae f')(hd:jN (f.get d)=au):AR μ f a:=by
 simp only[HF.put] at hp;obtain⟨_,hp⟩:=aD hp;simp only[Option.map_eq_some_iff] at hp;obtain⟨t,ht,rfl⟩:=hp;refine⟨h.size,λd' hd' hv=>?_,h.ds⟩;have hne:d'≠d:=λe=>by subst e;rw[hd] at hv;cases hv
 have hg:({f with t:=t}:HF).get d'=f.get d':=by unfold HF.get;show(t.get d').getD _=_;rw[Tr.get_set 64 f.t t d _ ht,eh hne]
 have:=h.vals d' hd' (by rw[hg];exact hv);rw[hg] at this;exact this
section
variable(l:ab In)(nV nS n:aq)(X:CX)(rs:ab C4)(e:Eff)(t:SX)(i st:br)
theorem PY:jN ((tX i st).get 207)=true:=by kernel_rfl
theorem PX:jN ((tX i st).get 208)=true:=by kernel_rfl
theorem XR:jN ((tX i st).get 209)=true:=by kernel_rfl
theorem V8(x y:br):(tX i st).put (ae 210) (kyB x y)=ae (mkF (bQ i st [(206,ptr 15),(210,kyB x y)]) 228):=by kernel_rfl
theorem rg5(f7:FM)(x y:br):ExD ad 16 (rgX.drop 1) (aH (obR l nV nS n X f7 rs e t++[(16,.row aa [.int .i64 x,.int .i64 y] 77)]) 17 0) (mkF (bQ i st [(206,ptr 15),(210,kyB x y),(28,ptr 16)]) 228) .normal (sR l nV nS n X rs e t (iT f7 x y (.bool au))) (tX i st):=by obtain⟨_,_,_,⟨rfl,rfl,rfl⟩,h⟩:=aCD l nV nS n X f7 rs e t i st x y (λz s f=>z=.normal/\s=sR l nV nS n X rs e t (iT f7 x y (.bool au))/\f=tX i st) ⟨rfl,by kernel_rfl,by kernel_rfl⟩;exact h
theorem GJ(w0:Base){r bm clk:aq}{es:df ez}{ds:ab gy}{Q':Exit->Act->dh->Prop}(hwr:w0.wr r)(hne:bm≠r)(hold:∀ x∈es.toList,x.born<clk)(hkey:∀ x∈es.toList,(jM x.key).isSome=au)(μ0:Mu)(hexit:∀(f7:FM)(μ:Mu)(a:Act)(w:dh),FmB f7->leN 0 μ0 μ->R w0 μ (sR l nV nS n X rs e t f7) w->AR μ (tX i st) a->wpl ad ds Q' a w):∀(N:aq)(seen:df aq)(f7:FM)(μ:Mu)(a:Act)(w:dh),(leftOf es seen).size<N->FmB f7->leN 0 μ0 μ->R (w0.hx [(1,r,.mapIter (ae bm) clk seen clk),(0,bm,.map es clk)]) μ (sR l nV nS n X rs e t f7) w->AR μ (tX i st) a->(∃p,μ 15=ae p/\p.blk=r/\p.base=0)->Code.rounds ad (aJ (nth mk8C 1)) (Exit.inBlock 10 (Exit.then (wpl ad ds Q') Q')) N a w:=by
 intro N;induction N with
 |zero=>intro seen f7 μ a w h;omega
 |succ N ih=>
  intro seen f7 μ a w hN hF h00 hR hA ⟨p,hp,hpb,hp0⟩;rw[rounds_succ];refine d7 _ _ _ _ ?_;show wpl ad rgB _ a w;rw[aCQ];show(nth rgB 0).wp ad _ a w;rw[aCS];refine wp_region_list ?_;rw[l43];have hr:w.heap[r]? =ae (.mapIter (ae bm) clk seen clk):=hR.below.2 (1,r,.mapIter (ae bm) clk seen clk) qS;have hb:w.heap[bm]? =ae (.map es clk):=hR.below.2 (0,bm,.map es clk) qS;have hsz:a.tmps.size=228:=hA.size;have h206:a.tmps.getD 206 undef=.pointer (ae ⟨r,0,av⟩):=by
   have hv:=hA.vals 206 (show(206:aq)<228 by decide) qK;have hg:(tX i st).get 206=.pointer (ae ⟨15,0,av⟩):=by kernel_rfl
   rw[hg] at hv;generalize a.tmps.getD 206 undef=v at hv;cases hv with|ptr h=>rw[hp] at h;cases h;rw[hpb,hp0]
  rcases run_next_at (P:=ad) w (opn (nth rgB 0) 0).type r bm clk clk seen es clk hr hb hold (cw _) with⟨h0,aW⟩|⟨e1,he1,w1,hw1,aW⟩
  ·refine iF o430.2.1 (FA o430.1 h206 aW) ?_;rw[o430.2.2];have e7:(a.put (ae 207) (.tuple #[.bool aa])).tmps.getD 207 undef=.tuple #[.bool aa]:=gX (by rw[hsz];decide);have hA7:=AR.putU (v:=.tuple #[.bool aa]) hA (PY i st);refine iF o431.2.1 (zN (l:=[.bool aa]) o431.1 e7 rfl) ?_;rw[o431.2.2];have e8:((a.put (ae 207) (.tuple #[.bool aa])).put (ae 208) (.bool aa)).tmps.getD 208 undef=.bool false:=gX (by rw[hA7.size];exact(show(208:aq)<228 by decide));have hA8:=AR.putU (v:=.bool aa) hA7 (PX i st);show(nth rgB 1).wp ad _ _ _;rw[VU];refine wp_cond_false e8 (wp_exit ?_);exact inB (Q:=Exit.then (wpl ad ds Q') Q') (hexit f7 μ _ _ hF h00 (KE hR) hA8)
  ·have hR1:R (w0.hx [(1,r,.mapIter (ae bm) clk seen clk),(0,bm,.map es clk)]) μ (sR l nV nS n X rs e t f7) w1:=by
    rcases hw1 with rfl|rfl
    ·exact hR
    ·exact TT hR
   have hR2:=RA (O2:=.mapIter (ae bm) clk (seen.push e1.born) clk) hR1 hwr (λx hx=>by rw[fg.1 hx];exact hne);refine iF o430.2.1 (FA o430.1 h206 aW) ?_;rw[o430.2.2];have e7:(a.put (ae 207) (.tuple #[.bool au,e1.key,e1.val])).tmps.getD 207 undef=.tuple #[.bool au,e1.key,e1.val]:=gX (by rw[hsz];decide);have hA7:=AR.putU (v:=.tuple #[.bool au,e1.key,e1.val]) hA (PY i st);refine iF o431.2.1 (zN (l:=[.bool au,e1.key,e1.val]) o431.1 e7 rfl) ?_;rw[o431.2.2];have e8:((a.put (ae 207) (.tuple #[.bool au,e1.key,e1.val])).put (ae 208) (.bool au)).tmps.getD 208 undef=.bool true:=gX (by rw[hA7.size];exact(show(208:aq)<228 by decide));have hA8:=AR.putU (v:=.bool au) hA7 (PX i st);generalize (a.put (ae 207) (.tuple #[.bool au,e1.key,e1.val])).put (ae 208) (.bool au)=a8 at e8 hA8;show(nth rgB 1).wp ad _ _ _;rw[VU];refine wp_cond_true e8 (wp_skip ?_);show(nth rgB 2).wp ad _ _ _;rw[aCR];refine wp_block (d7 _ _ _ _ ?_);show wpl ad rgX _ _ _;rw[aB9];show(nth rgX 0).wp ad _ _ _;rw[aCA];refine wp_region_list ?_;rw[l44];generalize hw2:setBlock w1 r (.mapIter (ae bm) clk (seen.push e1.born) clk)=w2 at hR2;have hr2:w2.heap[r]? =ae (.mapIter (ae bm) clk (seen.push e1.born) clk):=hR2.below.2 (1,r,.mapIter (ae bm) clk (seen.push e1.born) clk) qS;have hb2:w2.heap[bm]? =ae (.map es clk):=hR2.below.2 (0,bm,.map es clk) qS;have g206:a8.tmps.getD 206 undef=.pointer (ae ⟨r,0,av⟩):=by
    have hv:=hA8.vals 206 (show(206:aq)<228 by decide) qK;have hg:(tX i st).get 206=.pointer (ae ⟨15,0,av⟩):=by kernel_rfl
    rw[hg] at hv;generalize a8.tmps.getD 206 undef=v at hv;cases hv with|ptr h=>rw[hp] at h;cases h;rw[hpb,hp0]
   obtain⟨e2,he2,hen⟩:=CP (P:=ad) w2 r bm clk seen es clk e1 hr2 hb2 (mem_left he1).1;obtain⟨⟨x,y⟩,hxy⟩:=js.1 (hkey e2 he2);have hk:e2.key=kyB x y:=t8 hxy;refine iF o440.2.1 (O4 o440.1 g206 hen) ?_;rw[o440.2.2];have hs8:a8.tmps.size=228:=hA8.size;have e9:(a8.put (ae 209) (.tuple #[e2.key,e2.val])).tmps.getD 209 undef=.tuple #[e2.key,e2.val]:=gX (by rw[hs8];decide);have hA9:=AR.putU (v:=.tuple #[e2.key,e2.val]) hA8 (XR i st);refine iF o441.2.1 (zN (l:=[e2.key,e2.val]) o441.1 e9 rfl) ?_;rw[o441.2.2];have hA10:=cS hA9 (show VR μ (kyB x y) e2.key by rw[hk];exact .agg (.cons (.int _ _) (.cons (.int _ _) .nil))) (V8 i st x y);refine EX aC aK hR2 hA10 (aB4 l nV nS n X rs e t i st f7 x y) qK λa11 w11 μ11 l11 R11 A11=>?_;refine EX aC aK R11 A11 (aB3 l nV nS n X rs e t i st f7 x y) qK λa12 w12 μ12 l12 R12 A12=>?_;show wpl ad (rgX.drop 1) _ a12 w12;refine cI (λex a' w' ⟨z,s',f',z1,⟨z2,z3,z4⟩,ν,z5,z6,z7⟩=>?_) _ _ _ (rg5 l nV nS n X rs e t i st f7 x y _ μ12 w12 a12 R12 A12);subst z1;subst z2;subst z3;subst z4;obtain⟨q,q1,q2⟩:=(Mu.le_trans l11 l12).pl 15 p hp;obtain⟨q',q3,q4⟩:=z5.pl 15 q qD q1;exact ih (seen.push e1.born) _ ν a' w' (by have:=left_shrinks es seen e1 he1;omega) (hF.upd x y) (h00.trans ((l11.leN 0).trans ((l12.leN 0).trans (leN.zero z5)))) z6 z7 ⟨q',q3,by rw[q4.blk,q2.blk,hpb],by rw[q4.base,q2.base,hp0]⟩
theorem VH(b:cz){ds:ab gy}{Q:HX->St->HF->Prop}(h7:FmB X.f7)(hk:∀ f7:FM,FmB f7->Ex ad 0 ds (sR l nV nS n X rs e t f7) (tX i st) Q):Ex ad 0 (nth mk8C 0::nth mk8C 1::ds) (aH (iU l nV nS n X rs e t) 15 0) (mkF (bQ i st [(203,.bool b)]) 228) Q:=by
 intro w0 μ w a hR hA;let Q':Exit->Act->dh->Prop:=λex a' w'=>∃x s' f',ex=x.ex/\Q x s' f'/\∃ν,leN 0 μ ν/\R w0 ν s' w'/\AR ν f' a';show(nth mk8C 0).wp ad (Exit.then (wpl ad (nth mk8C 1::ds) Q') Q') a w;rw[aEB];refine wp_region_list ?_;rw[l42];refine EX aC aK hR hA (aB6 l nV nS n X rs e t i st b) qK λa1 w1 μ1 l1 R1 A1=>?_;refine EX aC aK R1 A1 (aB5 l nV nS n X rs e t i st b) qK λa2 w2 μ2 l2 R2 A2=>?_;obtain⟨p,es,clk,hp,hb,hwr,hfm⟩:=R2.fmap 9 X.f9 qK;have h205:a2.tmps.getD 205 undef=.map (ae p.blk):=by
  have hv:=A2.vals 205 (show(205:aq)<228 by decide) qK;have hg:(mkF (bQ i st [(203,.bool b),(204,.pointer (ae ⟨8,1,av⟩)),(205,.map (ae 9))]) 228).get 205=.map (ae 9):=by kernel_rfl
  rw[hg] at hv;generalize a2.tmps.getD 205 undef=v at hv;cases hv with|map h=>rw[hp] at h;cases h;rfl
 have hu:ad.underlying 64=ae (.map 77 4):=by kernel_rfl
 refine iF o422.2.1 (MQ o422.1 h205 (run_range_map w2 64 77 4 p.blk es clk hu hb)) ?_;rw[o422.2.2];have ht:Tr.set 64 (aH (obR l nV nS n X X.f7 rs e t) 15 0).h 9 (.fmap X.f9)=ae (aH (iU l nV nS n X rs e t) 15 0).h:=by kernel_rfl
 have h9:(aH (obR l nV nS n X X.f7 rs e t) 15 0).h.get 9=none:=by kernel_rfl
 have R3:R (w0.hx [(0,p.blk,.map es clk)]) μ2 (aH (obR l nV nS n X X.f7 rs e t) 15 0) w2:=S9 R2 (i:=9) (fm:=X.f9) qK hp hb (λj o hj=>by
  have hg:=Tr.get_set 64 _ _ 9 _ ht j;by_cases hj9:j=9
  ·subst hj9;rw[h9] at hj;cases hj
  ·rw[eh hj9] at hg;exact⟨hg.trans hj,hj9⟩) rfl rfl
 have hne:p.blk≠w2.heap.size:=Nat.ne_of_lt (cM hb);have R4:=BG R3 1 (.mapIter (ae p.blk) clk #[] clk);obtain⟨ν,m1,m2,R5⟩:=SH (s':=sR l nV nS n X rs e t X.f7) R4 w2.heap.size qK qK qK rfl rfl;have hwr2:w0.wr w2.heap.size:=w0.fresh w2 _ R2.below (cw _);have A3:AR ν (mkF (bQ i st []) 228) a2:=AR.unput (f':=mkF (bQ i st [(203,.bool b)]) 228) (AR.unput (f':=mkF (bQ i st [(203,.bool b),(204,.pointer (ae ⟨8,1,av⟩))]) 228) (AR.unput (AR.mono' A2 m1) (d:=205) (v:=.map (ae 9)) qK qK) (d:=204) (v:=.pointer (ae ⟨8,1,av⟩)) qK qK) (d:=203) (v:=.bool b) qK qK;have A4:AR ν (tX i st) (a2.put (ae 206) (.pointer (ae ⟨w2.heap.size,0,av⟩))):=cS A3 (show VR ν (ptr 15) (.pointer (ae ⟨w2.heap.size,0,av⟩)) from .ptr (p:=⟨w2.heap.size,0,0,eJ⟩) m2) qK;show(nth mk8C 1).wp ad _ _ _;rw[aEA];have l0:leN 0 μ ν:=(l1.leN 0).trans ((l2.leN 0).trans (m1.leN 0));exact wp_block (wp_loop_rounds _ (GJ l nV nS n X rs e t i st w0 hwr2 hne (λx hx=>(hfm.1 x hx).2) (λx hx=>(hfm.1 x hx).1) μ (λf7 μ' a' w' hF hl hR' hA'=>by
  refine cI (λex a w ⟨x,s',f',e1,e2,ν',e3,e4⟩=>⟨x,s',f',e1,e2,ν',hl.trans e3,e4⟩) _ _ _ (hk f7 hF w0 μ' w' a' hR' hA')) _ #[] X.f7 ν _ _ (Nat.lt_succ_self _) h7 l0 R5 A4 ⟨_,m2,rfl,rfl⟩))
end
end Go.Proofs.PA
namespace Go.Proofs.PA
open Go Go.Hx Go.RowKit Go.Proofs
theorem Ex.unput{P:cq}{n0:aq}{cs:ab gy}{s:St}{f f':HF}{d:aq}{v:af}{Q:HX->St->HF->Prop}(h:Ex P n0 cs s f Q)(hp:f.put (ae d) v=ae f')(hd:jN (f.get d)=au):Ex P n0 cs s f' Q:=λw0 μ w a hR hA=>h w0 μ w a hR (AR.unput hA hp hd)
def blkQ(P:cq)(n0 id:aq)(ds:ab gy)(Q:HX->St->HF->Prop):HX->St->HF->Prop
 |.normal,s,f=>Ex P n0 ds s f Q|.exit j,s,f=>if j=id then Ex P n0 ds s f Q else Q (.exit j) s f
 |.ret,s,f=>Q .ret s f
theorem Ex.blk{P:cq}{n0 id:aq}{c:gy}{ds:ab gy}{s:St}{f:HF}{Q:HX->St->HF->Prop}(h:Ex P n0 (aU c) s f (blkQ P n0 id ds Q)):Ex P n0 (.block id c::ds) s f Q:=by
 intro w0 μ w a hR hA;show(Code.block id c).wp P _ a w;refine wp_block (wp_mono (d7 c _ _ _ (h w0 μ w a hR hA)) λe a' w' ⟨x,s',f',e1,e2,ν,e3,e4,e5⟩=>?_);subst e1;have go:Ex P n0 ds s' f' Q->wpl P ds (λe a' w'=>∃x s' f',e=x.ex/\Q x s' f'/\∃ν,leN n0 μ ν/\R w0 ν s' w'/\AR ν f' a') a' w':=λk=>cI (λe a w ⟨x,s',f',e1,e2,ν',e6,e7⟩=>⟨x,s',f',e1,e2,ν',e3.trans e6,e7⟩) _ _ _ (k w0 ν w' a' e4 e5);cases x with
 |normal=>exact go e2
 |exit j=>
  have e2:if j=id then Ex P n0 ds s' f' Q else Q (.exit j) s' f':=e2
  show(if j=id then _ else _);by_cases hj:j=id
  ·rw[fc hj] at e2 ⊢;exact go e2
  ·rw[eh hj] at e2 ⊢;exact⟨.exit j,s',f',rfl,e2,ν,e3,e4,e5⟩
 |ret=>exact⟨.ret,s',f',rfl,e2,ν,e3,e4,e5⟩
theorem ExD.ex{P:cq}{n0:aq}{cs:ab gy}{s s':St}{f f':HF}{x:HX}{Q:HX->St->HF->Prop}(h:ExD P n0 cs s f x s' f')(hq:Q x s' f'):Ex P n0 cs s f Q:=Ex.mono h λx s f ⟨e1,e2,e3⟩=>by subst e1;subst e2;subst e3;exact hq
structure CI(n:aq)(X:CX):Prop where
 n1:X.L1.length=n
 n2:X.L2.length=n
 n3:X.L3.length=n
 f7:FmB X.f7
 f9:FmB X.f9
 f10:FmB X.f10
 s0:-1<=X.site
 s1:X.site<n
theorem FmB.get{f:FM}(h:FmB f){a b:br}(hs:(f a b).isSome=au):f a b=ae (.bool au):=by obtain⟨v,hv⟩:=js.1 hs;rw[hv,h a b v hv]
theorem bY(L:ab br):(iC L).length=L.length:=fa ..
def N7(L:ab br)(j:aq)(v:br):ab Int:=L.take j++[v]++L.drop (j+1)
theorem J9{L:ab br}{n j:aq}(h:L.length=n)(hj:j<n)(v:br):(N7 L j v).length=n:=by simp only[N7,cg,ir,ko,kb];omega
theorem N6(L:ab br)(j:aq)(v:br):dr (0+j*1) (iC L)++[ao ag v]++dq (0+j*1+1) (iC L)=iC (N7 L j v):=by simp[iC,N7,List.map_take,ub]
theorem S4{L:ab br}{site:br}{n:aq}(hL:L.length=n)(h0:0<=site)(h1:site<n){R:ab af->Prop}(hr:∀ L',L'.length=n->R (iC L')):(decide (0<=site)&&decide (site<(↑n:br)))=au/\∃m,(0+az site*1+1<=aw (iC L)/\dr 1 (dq (0+az site*1) (iC L))=[ao ag m])/\(decide (0<=site)&&decide (site<(↑n:br)))=au/\iC L≠[]/\0+az site*1+1<=aw (iC L)/\R (dr (0+az site*1) (iC L)++[ao ag (ah ag (m+1))]++dq (0+az site*1+1) (iC L)):=by
 have hj:site.toNat<L.length:=qO;have hd:(decide (0<=site)&&decide (site<(↑n:br)))=true:=by simp;omega
 have hl:0+az site*1+1<=aw (iC L):=by rw[bY];omega
 refine⟨hd,L[site.toNat],⟨hl,?_⟩,hd,?_,hl,?_⟩
 ·rw[fu,Nat.mul_one];unfold iC;rw[<-ub,ph hj];rfl
 ·intro e;have:=congrArg aw e;rw[bY] at this;simp at this;rw[this] at hj;simp at hj
 ·rw[N6];exact hr _ (J9 hL qO _)
section
variable(l:ab In)(nV nS n:aq)(X:CX)(rs:ab C4)(e:Eff)(t:SX)(i st:br)
abbrev fL(k:br):HF:=mkF (bQ i st [(109,frz (rs.map aL)),(110,.int .i64 rs.length),(111,.int .i64 k)]) 228
def QL(k:br):HX->St->HF->Prop:=λx s f=>(x=.exit 2/\s=aH (iU l nV nS n X rs e t) 15 0/\f=fL rs i st k)\/(x=.normal/\k<rs.length/\∃X',CI n X'/\X'.s=X.s/\s=aH (iU l nV nS n X' rs e t) 15 0/\f=fL rs i st (ah .i64 (k+1)))
theorem YI(h:CI n X)(k:br)(hk:0<=k):∃x s' f',QL l nV nS n X rs e t i st k x s' f'/\ExD ad 0 (aU (aJ (nth bdC 7))) (aH (iU l nV nS n X rs e t) 15 0) (fL rs i st k) x s' f':=by
 refine aFR l nV nS n X rs e t i st k (QL l nV nS n X rs e t i st k) ⟨λhlt=>?_,λ_=>.inl ⟨rfl,by kernel_rfl,by kernel_rfl⟩⟩;have hlt:=dT hlt;have hkn:k.toNat<rs.length:=qO;have hx:rs[k.toNat]? =ae rs[k.toNat]:=by simp[hkn]
 generalize rs[k.toNat]=c at hx;obtain⟨a,f,b,m⟩:=c;have same:QL l nV nS n X rs e t i st k .normal (aH (obI l nV nS n X (iC X.L1) (iC X.L2) (iC X.L3) X.f7 X.site X.f9 X.f10++obF rs e t) 15 0) (fL rs i st (ah .i64 (k+1))):=.inr ⟨rfl,hlt,X,h,rfl,by kernel_rfl,rfl⟩;have inc:∀ L',L'.length=n->QL l nV nS n X rs e t i st k .normal (aH (obI l nV nS n X (iC X.L1) (iC X.L2) (iC L') X.f7 X.site X.f9 (iT X.f10 a f (.bool au))++obF rs e t) 15 0) (fL rs i st (ah .i64 (k+1))):=λL' hL=>.inr ⟨rfl,hlt,{X with L3:=L',f10:=iT X.f10 a f (.bool au)},⟨h.n1,h.n2,hL,h.f7,h.f9,h.f10.upd a f,h.s0,h.s1⟩,rfl,by kernel_rfl,rfl⟩;have incC:0<=X.site->_:=λh0=>S4 (R:=λc=>QL l nV nS n X rs e t i st k .normal (aH (obI l nV nS n X (iC X.L1) (iC X.L2) c X.f7 X.site X.f9 (iT X.f10 a f (.bool au))++obF rs e t) 15 0) (fL rs i st (ah .i64 (k+1)))) h.n3 h0 h.s1 (λL' hL=>inc L' hL);refine⟨a,f,b,m,⟨hk,by rw[iw,hx];rfl⟩,λhs=>?_,λ_=>same⟩;have h0:0<=X.site:=by simpa using hs
 have C:=incC h0;refine⟨λh7=>⟨au,h.f7.get h7,λ_=>⟨λh9=>⟨au,h.f9.get h9,λ_=>⟨λh10=>⟨au,h.f10.get h10,λ_=>C,λ_=>same⟩,λ_=>C⟩,λ_=>same⟩,λ_=>⟨λh10=>⟨au,h.f10.get h10,λ_=>C,λ_=>same⟩,λ_=>C⟩⟩,λ_=>same⟩,λ_=>same⟩
end
theorem Ex.skip{P:cq}{n0:aq}{ds:ab gy}{s:St}{f:HF}{Q:HX->St->HF->Prop}(h:Ex P n0 ds s f Q):Ex P n0 (.skip::ds) s f Q:=λw0 μ w a hR hA=>wp_skip (h w0 μ w a hR hA)
section
variable(l:ab In)(nV nS n:aq)(rs:ab C4)(e:Eff)(t:SX)(i st:br)
abbrev sE(X:CX):St:=aH (iU l nV nS n X rs e t) 15 0
abbrev f0:HF:=mkF (bQ i st []) 228
theorem un3{P:cq}{n0:aq}{cs:ab gy}{s:St}{Q:HX->St->HF->Prop}{a b c:aq}{u v w:af}{f1 f2 f3 f:HF}(h:Ex P n0 cs s f Q)(h1:f.put (ae a) u=ae f1)(h2:f1.put (ae b) v=ae f2)(h3:f2.put (ae c) w=ae f3)(d1:jN (f.get a)=au)(d2:jN (f1.get b)=au)(d3:jN (f2.get c)=au):Ex P n0 cs s f3 Q:=Ex.unput (Ex.unput (Ex.unput h h1 d1) h2 d2) h3 d3
theorem lpL(hrs:rs.length<=1000){X0:CX}(h0:CI n X0){ds:ab gy}{Q:HX->St->HF->Prop}(hk:∀ X,CI n X->X.s=X0.s->Ex ad 0 ds (sE l nV nS n rs e t X) (f0 i st) Q):Ex ad 0 (.block 2 (.loop (aJ (nth bdC 7)))::ds) (sE l nV nS n rs e t X0) (fL rs i st 0) Q:=by
 refine Ex.loop (λm s f=>∃X k,CI n X/\X.s=X0.s/\(0:br)<=k/\m=(rs.length-k:br).toNat/\s=sE l nV nS n rs e t X/\f=fL rs i st k) ?_ ⟨X0,0,h0,rfl,pz 0,rfl,rfl,rfl⟩;rintro m s f ⟨X,k,hX,hs,hk0,rfl,rfl,rfl⟩;obtain⟨x,s',f',hq,hd⟩:=YI l nV nS n X rs e t i st hX k hk0;refine ExD.ex hd ?_;rcases hq with⟨rfl,rfl,rfl⟩|⟨rfl,hlt,X',hX',hs',rfl,rfl⟩
 ·refine rndQ.out (id:=2) ?_;exact un3 (f1:=mkF (bQ i st [(109,frz (rs.map aL))]) 228) (f2:=mkF (bQ i st [(109,frz (rs.map aL)),(110,.int .i64 rs.length)]) 228) (hk X hX hs) (a:=109) (b:=110) (c:=111) (u:=frz (rs.map aL)) (v:=.int .i64 rs.length) (w:=.int .i64 k) qK qK qK qK qK qK
 ·rw[cm _ qO];exact⟨_,(by omega:(rs.length-(k+1):br).toNat<_),X',k+1,hX',hs'.trans hs,qO,rfl,rfl,rfl⟩
theorem lpW(hws:e.ws.length<=1000){X0:CX}(h0:CI n X0){ds:ab gy}{Q:HX->St->HF->Prop}(hk:∀ X,CI n X->X.s=X0.s->Ex ad 0 ds (sE l nV nS n rs e t X) (f0 i st) Q):Ex ad 0 (.block 8 (.loop (aJ (nth bdC 11)))::ds) (sE l nV nS n rs e t X0) (mkF (bQ i st [(176,s4 14 e.ws.length),(177,.int .i64 e.ws.length),(178,.int .i64 0)]) 228) Q:=by
 refine Ex.loop (λm s f=>∃X k,CI n X/\X.s=X0.s/\(0:br)<=k/\m=(e.ws.length-k:br).toNat/\s=sE l nV nS n rs e t X/\f=mkF (bQ i st [(176,s4 14 e.ws.length),(177,.int .i64 e.ws.length),(178,.int .i64 k)]) 228) ?_ ⟨X0,0,h0,rfl,pz 0,rfl,rfl,rfl⟩;rintro m s f ⟨X,k,hX,hs,hk0,rfl,rfl,rfl⟩;obtain⟨x,s',f',hq,hd⟩:=aFM l nV nS n X rs e t i st k (λx s f=>(x=.exit 8/\s=sE l nV nS n rs e t X/\f=mkF (bQ i st [(176,s4 14 e.ws.length),(177,.int .i64 e.ws.length),(178,.int .i64 k)]) 228)\/(x=.normal/\k<e.ws.length/\∃a b,s=sE l nV nS n rs e t {X with f9:=iT X.f9 a b (.bool au)}/\f=mkF (bQ i st [(176,s4 14 e.ws.length),(177,.int .i64 e.ws.length),(178,.int .i64 (ah .i64 (k+1)))]) 228)) ⟨λhlt=>by
   have hlt:=dT hlt;have hkn:k.toNat<e.ws.length:=qO;have hx:e.ws=e.ws.take k.toNat++e.ws[k.toNat]::e.ws.drop (k.toNat+1):=by rw[<-ph hkn,gu]
   have hc:=P6 (e.ws.take k.toNat) e.ws[k.toNat] (e.ws.drop (k.toNat+1));rw[<-hx,ir,Nat.min_eq_left (Nat.le_of_lt hkn)] at hc;exact⟨by simp;omega,_,_,_,_,⟨by rw[hH];omega,hc⟩,.inr ⟨rfl,hlt,e.ws[k.toNat].1,e.ws[k.toNat].2.1,by kernel_rfl,rfl⟩⟩,λ_=>.inl ⟨rfl,by kernel_rfl,rfl⟩⟩
 refine ExD.ex hd ?_;rcases hq with⟨rfl,rfl,rfl⟩|⟨rfl,hlt,a,b,rfl,rfl⟩
 ·refine rndQ.out (id:=8) ?_;exact un3 (f1:=mkF (bQ i st [(176,s4 14 e.ws.length)]) 228) (f2:=mkF (bQ i st [(176,s4 14 e.ws.length),(177,.int .i64 e.ws.length)]) 228) (hk X hX hs) (a:=176) (b:=177) (c:=178) (u:=s4 14 e.ws.length) (v:=.int .i64 e.ws.length) (w:=.int .i64 k) qK qK qK qK qK qK
 ·rw[cm _ qO];exact⟨_,(by omega:(e.ws.length-(k+1):br).toNat<_),{X with f9:=iT X.f9 a b (.bool au)},k+1,⟨hX.n1,hX.n2,hX.n3,hX.f7,hX.f9.upd a b,hX.f10,hX.s0,hX.s1⟩,hs,qO,rfl,rfl,rfl⟩
end
theorem aF2:b4C.drop 2=.block 5 (iS (nth (aU (aJ (nth bdC 9))) 2))::b4C.drop 3:=by kernel_rfl
theorem ZY:x5C.drop 2=[.block 6 (.loop (aJ (nth x5C 2)))]:=by kernel_rfl
section
variable(l:ab In)(nV nS n:aq)(rs:ab C4)(e:Eff)(t:SX)(i st:br)
abbrev sO(X:CX)(id:br)(o:ab V):St:=aH (iU l nV nS n X rs e t++[(15,.row aa [.int .i64 id,jE o] 80)]) 16 0
abbrev f6(k:br)(o:ab V)(j:br):HF:=mkF (bQ i st [(155,cN e.nw),(156,.int .i64 e.nw.length),(157,.int .i64 k),(24,ptr 15),(162,jE o),(163,.int .i64 o.length),(164,.int .i64 j)]) 228
abbrev f4(k:br):HF:=mkF (bQ i st [(155,cN e.nw),(156,.int .i64 e.nw.length),(157,.int .i64 k)]) 228
theorem lpF(k id:br)(o:ab V)(ho:o.length<=1000){X0:CX}(h0:CI n X0){Q:HX->St->HF->Prop}(hk:∀ X j,CI n X->X.s=X0.s->Q .normal (sO l nV nS n rs e t X id o) (f6 e i st k o j)):Ex ad 0 [.block 6 (.loop (aJ (nth x5C 2)))] (sO l nV nS n rs e t X0 id o) (f6 e i st k o 0) Q:=by
 refine Ex.loop (λm s f=>∃X j,CI n X/\X.s=X0.s/\(0:br)<=j/\m=(o.length-j:br).toNat/\s=sO l nV nS n rs e t X id o/\f=f6 e i st k o j) ?_ ⟨X0,0,h0,rfl,pz 0,rfl,rfl,rfl⟩;rintro m s f ⟨X,j,hX,hs,hj0,rfl,rfl,rfl⟩;obtain⟨x,s',f',hq,hd⟩:=YF l nV nS n X rs e t i st k id j o (λx s f=>(x=.exit 6/\s=sO l nV nS n rs e t X id o/\f=f6 e i st k o j)\/(x=.normal/\j<o.length/\s=sO l nV nS n rs e t {X with f9:=iT X.f9 id j (.bool au)} id o/\f=f6 e i st k o (ah .i64 (j+1)))) ⟨λhlt=>.inr ⟨rfl,dT hlt,by kernel_rfl,by kernel_rfl⟩,λ_=>.inl ⟨rfl,by kernel_rfl,by kernel_rfl⟩⟩;refine ExD.ex hd ?_;rcases hq with⟨rfl,rfl,rfl⟩|⟨rfl,hlt,rfl,rfl⟩
 ·exact rndQ.out (id:=6) (Ex.nil (hk X j hX hs))
 ·rw[cm _ qO];exact⟨_,(by omega:(o.length-(j+1):br).toNat<_),{X with f9:=iT X.f9 id j (.bool au)},j+1,⟨hX.n1,hX.n2,hX.n3,hX.f7,hX.f9.upd id j,hX.f10,hX.s0,hX.s1⟩,hs,qO,rfl,rfl,rfl⟩
theorem lpN(hnw:e.nw.length<=1000)(hof:∀ o∈e.nw,o.2.length<=1000){X0:CX}(h0:CI n X0){ds:ab gy}{Q:HX->St->HF->Prop}(hk:∀ X,CI n X->X.s=X0.s->Ex ad 0 ds (sE l nV nS n rs e t X) (f0 i st) Q):Ex ad 0 (.block 4 (.loop (aJ (nth bdC 9)))::ds) (sE l nV nS n rs e t X0) (f4 e i st 0) Q:=by
 refine Ex.loop (λm s f=>∃X k,CI n X/\X.s=X0.s/\(0:br)<=k/\m=(e.nw.length-k:br).toNat/\s=sE l nV nS n rs e t X/\f=f4 e i st k) ?_ ⟨X0,0,h0,rfl,pz 0,rfl,rfl,rfl⟩;rintro m s f ⟨X,k,hX,hs,hk0,rfl,rfl,rfl⟩;obtain⟨x,s',f',hq,hd⟩:=YH l nV nS n X rs e t i st k (λx s f=>(x=.exit 4/\s=sE l nV nS n rs e t X/\f=f4 e i st k)\/(x=.normal/\k<e.nw.length/\s=sE l nV nS n rs e t X/\f=f4 e i st k)) ⟨λhlt=>.inr ⟨rfl,dT hlt,by kernel_rfl,by kernel_rfl⟩,λ_=>.inl ⟨rfl,by kernel_rfl,by kernel_rfl⟩⟩;show Ex ad 0 b4C _ _ _;rcases hq with⟨rfl,rfl,rfl⟩|⟨rfl,hlt,rfl,rfl⟩
 ·refine px 2 hd qS (rndQ.out (id:=4) ?_);exact un3 (f1:=mkF (bQ i st [(155,cN e.nw)]) 228) (f2:=mkF (bQ i st [(155,cN e.nw),(156,.int .i64 e.nw.length)]) 228) (hk X hX hs) (a:=155) (b:=156) (c:=157) (u:=cN e.nw) (v:=.int .i64 e.nw.length) (w:=.int .i64 k) qK qK qK qK qK qK
 ·refine fo 2 hd ?_;rw[aF2];refine Ex.blk ?_;show Ex ad 0 x5C _ _ _;have hkn:k.toNat<e.nw.length:=qO;have hx:e.nw[k.toNat]? =ae e.nw[k.toNat]:=by simp[hkn]
  have hol:=hof _ (List.getElem_mem hkn);generalize e.nw[k.toNat]=c at hx hol;obtain⟨id,o⟩:=c;obtain⟨x,s',f',⟨rfl,rfl,rfl⟩,hd1⟩:=YG l nV nS n X rs e t i st k (λx s f=>x=.normal/\s=sO l nV nS n rs e t X id o/\f=f6 e i st k o 0) ⟨id,o,⟨hk0,by rw[iw,hx];rfl⟩,rfl,by kernel_rfl,by rw[fa];kernel_rfl⟩;refine fo 2 hd1 ?_;rw[ZY];refine lpF l nV nS n rs e t i st k id o hol hX (λX1 j h1 hs1=>?_);show Ex ad 0 (b4C.drop 3) _ _ _;obtain⟨x,s',f',⟨rfl,rfl,rfl⟩,hd4⟩:=YD l nV nS n X1 rs e t i st k id j o (λx s f=>x=.normal/\s=sE l nV nS n rs e t X1/\f=f4 e i st k) ⟨rfl,by kernel_rfl,by kernel_rfl⟩;refine ExD.then hd4 ?_;obtain⟨x,s',f',⟨rfl,rfl,rfl⟩,hd3⟩:=YE l nV nS n X1 rs e t i st k (λx s f=>x=.normal/\s=sE l nV nS n rs e t X1/\f=f4 e i st (ah .i64 (k+1))) ⟨rfl,by kernel_rfl,by kernel_rfl⟩;refine ExD.ex hd3 ?_;rw[cm _ qO];exact⟨_,(by omega:(e.nw.length-(k+1):br).toNat<_),X1,k+1,h1,hs1.trans hs,qO,rfl,rfl,rfl⟩
end
noncomputable abbrev bd8:ab Code:=aU (aJ (nth (pcs ad 8) 9))
theorem YO:bd8.drop 2=.block 1 (iS (nth (aU (aJ (nth (pcs ad 8) 9))) 2))::bd8.drop 3:=by kernel_rfl
theorem aF1:bdC.drop 7=.block 2 (.loop (aJ (nth bdC 7)))::bdC.drop 8:=by kernel_rfl
theorem aF0:(bdC.drop 8).drop 1=.block 4 (.loop (aJ (nth bdC 9)))::bdC.drop 10:=by kernel_rfl
theorem YN:(bdC.drop 10).drop 1=.block 8 (.loop (aJ (nth bdC 11)))::bdC.drop 12:=by kernel_rfl
def jG:gy->gy
 |.cond _ x _=>x|_=>.skip
theorem YM:(bdC.drop 12).drop 3=.cond (.tmp 203) (jG (nth bdC 15)) .skip::bdC.drop 16:=by kernel_rfl
theorem UU:aU (jG (nth bdC 15))=mk8C:=by kernel_rfl
section
variable(l:ab In)(nV nS n:aq)(rs:ab C4)(e:Eff)(t:SX)(i st:br)
def nxX(X:CX)(t:SX):CX:={X with s:=t}
theorem MG(hn:n=nS+1)(hkd:e.kd=1->0<=e.st/\e.st<=nS){X:CX}(hX:CI n X){Q:HX->St->HF->Prop}(hk:∀ X',CI n X'->X'.s=t->Q .normal (aH (obC l nV nS n X') 12 0) (mkF (slC i st) 228)):Ex ad 0 (bdC.drop 12) (sE l nV nS n rs e t X) (f0 i st) Q:=by
 have last:∀ X1,CI n X1->Ex ad 0 (bdC.drop 16) (sE l nV nS n rs e t X1) (f0 i st) Q:=λX1 h1=>by obtain⟨x,s',f',⟨rfl,rfl,rfl⟩,hd⟩:=aFS l nV nS n X1 rs e t i st (λx s f=>x=.normal/\s=aH (obC l nV nS n (nxX X1 t)) 12 0/\f=mkF (slC i st) 228) ⟨rfl,by kernel_rfl,by kernel_rfl⟩;exact ExD.ex hd (hk (nxX X1 t) ⟨h1.n1,h1.n2,h1.n3,h1.f7,h1.f9,h1.f10,h1.s0,h1.s1⟩ rfl)
 have mid:∀ X1,CI n X1->Ex ad 0 ((bdC.drop 12).drop 3) (sE l nV nS n rs e t X1) (mkF (bQ i st [(203,.bool (e.kd==1))]) 228) Q:=λX1 h1=>by
  rw[YM];have hev:(mkF (bQ i st [(203,.bool (e.kd==1))]) 228).ev (sE l nV nS n rs e t X1) (.tmp 203)=ae (.bool (e.kd==1)):=by kernel_rfl
  cases hb:(e.kd==1) with
  |true=>
   rw[hb] at hev;refine Ex.condT hev rfl ?_;rw[UU,aD9];show Ex ad 0 (nth mk8C 0::nth mk8C 1::(mk8C.drop 2++bdC.drop 16)) _ _ _;refine VH l nV nS n X1 rs e t i st au h1.f7 (λf7 hf7=>?_);refine Ex.unput (f:=f0 i st) (d:=206) (v:=ptr 15) ?_ qK qK;have hkd1:e.kd=1:=by simpa using hb
   obtain⟨k1,k2⟩:=hkd hkd1;obtain⟨x,s',f',⟨rfl,⟨X2,h2,rfl⟩,rfl⟩,hd⟩:=aFN l nV nS n X1 f7 rs e t i st (λx s f=>x=.normal/\(∃X2,CI n X2/\s=sE l nV nS n rs e t X2)/\f=f0 i st) (S4 (R:=λc=>HX.normal=.normal/\(∃X2,CI n X2/\aH (obI l nV nS n X1 c (iC X1.L2) (iC X1.L3) f7 e.st (λ_ _=>av) (λ_ _=>av)++obF rs e t) 15 0=sE l nV nS n rs e t X2)/\f0 i st=f0 i st) h1.n1 k1 qO (λL' hL=>⟨rfl,⟨{X1 with L1:=L',f7:=f7,site:=e.st,f9:=λ_ _=>av,f10:=λ_ _=>av},⟨hL,h1.n2,h1.n3,hf7,FmB.nil,FmB.nil,(by show -1<=e.st;omega),(by show e.st<n;omega)⟩,by kernel_rfl⟩,rfl⟩));exact ExD.then hd (last X2 h2)
  |false=>rw[hb] at hev;refine Ex.condF hev rfl ?_;show Ex ad 0 (.skip::bdC.drop 16) _ _ _;exact Ex.skip (Ex.unput (last X1 h1) (d:=203) (v:=.bool aa) qK qK)
 obtain⟨x,s',f',⟨rfl,⟨X1,h1,rfl⟩,rfl⟩,hd⟩:=aFO l nV nS n X rs e t i st (λx s f=>x=.normal/\(∃X1,CI n X1/\s=sE l nV nS n rs e t X1)/\f=mkF (bQ i st [(203,.bool (e.kd==1))]) 228) ⟨λhs=>by
   have h0:0<=X.site:=by simpa using hs
   exact S4 (R:=λc=>HX.normal=.normal/\(∃X2,CI n X2/\aH (obI l nV nS n X (iC X.L1) c (iC X.L3) X.f7 X.site X.f9 X.f10++obF rs e t) 15 0=sE l nV nS n rs e t X2)/\mkF (bQ i st [(203,.bool (e.kd==1))]) 228=mkF (bQ i st [(203,.bool (e.kd==1))]) 228) hX.n2 h0 hX.s1 (λL' hL=>⟨rfl,⟨{X with L2:=L'},⟨hX.n1,hL,hX.n3,hX.f7,hX.f9,hX.f10,hX.s0,hX.s1⟩,by kernel_rfl⟩,rfl⟩),λ_=>⟨rfl,⟨X,hX,by kernel_rfl⟩,rfl⟩⟩
 exact fo 3 hd (mid X1 h1)
theorem QO(hn:n=nS+1)(hkd:e.kd=1->0<=e.st/\e.st<=nS)(hrs:rs.length<=1000)(hws:e.ws.length<=1000)(hnw:e.nw.length<=1000)(hof:∀ o∈e.nw,o.2.length<=1000){X:CX}(hX:CI n X){Q:HX->St->HF->Prop}(hk:∀ X',CI n X'->X'.s=t->Q .normal (aH (obC l nV nS n X') 12 0) (mkF (slC i st) 228)):Ex ad 0 (bdC.drop 7) (sE l nV nS n rs e t X) (fL rs i st 0) Q:=by rw[aF1];refine lpL l nV nS n rs e t i st hrs hX (λX1 h1 _=>?_);obtain⟨x,s',f',⟨rfl,rfl,rfl⟩,hd⟩:=aFQ l nV nS n X1 rs e t i st (λx s f=>x=.normal/\s=sE l nV nS n rs e t X1/\f=f4 e i st 0) ⟨rfl,by kernel_rfl,by rw[fa];kernel_rfl⟩;refine fo 1 hd ?_;rw[aF0];refine lpN l nV nS n rs e t i st hnw hof h1 (λX2 h2 _=>?_);obtain⟨x,s',f',⟨rfl,rfl,rfl⟩,hd⟩:=YB l nV nS n X2 rs e t i st (λx s f=>x=.normal/\s=sE l nV nS n rs e t X2/\f=mkF (bQ i st [(176,s4 14 e.ws.length),(177,.int .i64 e.ws.length),(178,.int .i64 0)]) 228) ⟨rfl,by kernel_rfl,by kernel_rfl⟩;refine fo 1 hd ?_;rw[YN];exact lpW l nV nS n rs e t i st hws h2 (λX3 h3 _=>MG l nV nS n rs e t i st hn hkd h3 hk)
end
section
variable(l:ab In)(nV nS n:aq)
def eG(rs:ab C4)(e:Eff)(k:aq):ab Value:=[.int .i64 e.kd,.int .i64 e.pc]++(rgL e.rg++[frz (rs.map aL),s4 14 k,cN e.nw,frz e.dl,frz e.ac,.int .i64 e.st,.bool e.th,.bool e.v.1,.int .i64 e.v.2])
def sG(X:CX)(rs:ab C4)(e:Eff)(t:SX)(k:aq)(c:ab af):St:=aH (obC l nV nS n X++[(12,.row aa (eG rs e k) 70),(13,.row aa (nY t) 61),(14,.srow c 76)]) 15 0
theorem H8(hC:dX l nV nS){X:CX}{b m:aq}(hs:SxOK b m X.s)(hb:b<=99000)(hm:m<=99000)(i st:br):∃x s' f',((x=.exit 0/\s'=aH (obC l nV nS n X) 12 0/\f'=mkF (slC i st) 228)\/(x=.normal/\∃(rs:ab C4)(e:Eff)(t:SX),SxOK (b+1) (m+2) t/\rs.length<=100/\e.ws.length<=101/\(e.nw.length<=1/\∀ o∈e.nw,o.2.length<=100)/\(e.kd=1->0<=e.st/\e.st<=nS)/\s'=sE l nV nS n rs e t X/\f'=fL rs i st 0))/\ExD ad 0 (bdC.take 7) (aH (obC l nV nS n X) 12 0) (mkF (slC i st) 228) x s' f':=by
 obtain⟨⟨kd,pc,g,rd,ws,nw,dl,ac',sd,th,⟨vb,vn⟩⟩,hE,hr⟩:=R9 ⟨l,nV,nS,X.s.pc,X.s.g,X.s.os,X.s.nx⟩ hC ⟨hs.os.of qO⟩;obtain⟨ac,hac,_⟩:=hE.ac;obtain⟨rs,hrd,hrl⟩:=hE.rd;have hac:ac'=ac.map aQ:=hac;have hrd:rd=rs.map aL:=hrd;subst hac;subst hrd;obtain⟨⟨os3,pc3,g3,nx3,ak3,ac3,en3,th3,⟨b3,n3⟩,sp3⟩,e3,ht,hr2⟩:=UX hC X.s hs hb hm;have hws:ws.length<=100:=hE.ws;have hnw:nw.length<=1/\∀ o∈nw,o.2.length<=100:=hE.nw;have hst:kd=1->0<=sd/\sd<=nS:=λh=>by
  rcases hE.kd with k|k|k|k|k
  ·have:kd=0:=k;omega
  ·have:kd=2:=k;omega
  ·have:kd=4:=k;omega
  ·exact k.2
  ·have:kd=3:=k.1;omega
 have hask:kd=3->0<=X.s.pc/\X.s.pc<l.length:=hE.ask;have hr':G1 [.agg ⟨[frz (ai aP l),.int .i64 nV,.int .i64 nS]⟩,.agg ⟨[.int .i64 X.s.pc]++(rgL X.s.g++[])⟩,.agg ⟨[frz (ai aF X.s.os)]⟩,.int .i64 X.s.nx] [] (.agg ⟨[.int .i64 kd,.int .i64 pc]++(rgL g++[frz (ai aL rs),.slice (ae ⟨0,0,av⟩) ws.length 9223372036854775812,frz (ai aF nw),frz dl,frz (ai aQ ac),.int .i64 sd,.bool th,.bool vb,.int .i64 vn])⟩) [aB (ai aL ws)]:=(show G1 [cdV l nV nS,B6 X.s.pc X.s.g,bF X.s.os,.int .i64 X.s.nx] [] (B4 0 ⟨kd,pc,g,rs.map aL,ws,nw,dl,ac.map aQ,sd,th,(vb,vn)⟩) [cC ws]=_ from by kernel_rfl).mp hr;have hr2':r18 [.agg ⟨[frz (ai aP l),.int .i64 nV,.int .i64 nS]⟩,.agg ⟨[frz []]⟩,.agg ⟨[frz (ai aF X.s.os),.int .i64 X.s.pc]++(rgL X.s.g++[.int .i64 X.s.nx,.int .i64 X.s.ak,frz (ai aQ X.s.ac),.bool X.s.en,.bool X.s.th,.bool X.s.v.1,.int .i64 X.s.v.2,.int .i64 X.s.sp])⟩] [] (.tuple ⟨[.agg ⟨[frz (ai aF os3),.int .i64 pc3]++(rgL g3++[.int .i64 nx3,.int .i64 ak3,frz (ai aQ ac3),.bool en3,.bool th3,.bool b3,.int .i64 n3,.int .i64 sp3])⟩,.int .i64 e3]⟩) []:=(show r18 [cdV l nV nS,w0V,nW X.s] [] (.tuple ⟨[nW ⟨os3,pc3,g3,nx3,ak3,ac3,en3,th3,(b3,n3),sp3⟩,.int .i64 e3]⟩) []=_ from by kernel_rfl).mp hr2;have hlr:(rs.map aL).length=rs.length:=fa ..;refine aFU l nV nS n X i st _ ⟨kd,pc,g,rs,ws,nw,dl,ac,sd,th,vb,vn,hr',pc3,g3,os3,nx3,ak3,ac3,en3,th3,b3,n3,sp3,e3,hr2',λ_=>.inl ⟨rfl,by kernel_rfl,by kernel_rfl⟩,λ_=>⟨λh3=>?_,λ_=>?_⟩⟩
 ·obtain⟨h0,hp⟩:=hask (by simpa using h3);have hlt:X.s.pc.toNat<l.length:=qO;have hx:l[X.s.pc.toNat]? =ae l[X.s.pc.toNat]:=by simp[hlt]
  generalize l[X.s.pc.toNat]=x at hx;obtain⟨op,xa,xb,xc,xn⟩:=x;refine⟨_,_,_,I9 (hs.os.of qO),op,xa,xb,xc,xn,⟨h0,by rw[iw,hx];rfl⟩,cP qO qO,(hH ws).symm,.inr ⟨rfl,rs,⟨kd,pc,g,rs.map aL,ws++[(((rdI X.s.os 1 0).getD (aa,0)).2,ah ag (3+xn),aa,0)],nw,dl,ac.map aQ,sd,th,(vb,vn)⟩,⟨os3,pc3,g3,nx3,ak3,ac3,en3,th3,(b3,n3),sp3⟩,ht,hrl,?_,hnw,hst,?_,?_⟩⟩
  ·show(ws++[_]).length<=101;rw[cg];show ws.length+1<=101;omega
  ·refine(show _=sG l nV nS n X rs ⟨kd,pc,g,rs.map aL,ws,nw,dl,ac.map aQ,sd,th,(vb,vn)⟩ ⟨os3,pc3,g3,nx3,ak3,ac3,en3,th3,(b3,n3),sp3⟩ (ws.length+1) (cC ws++[.int .i64 ((rdI X.s.os 1 0).getD (aa,0)).2,.int .i64 (ah ag (3+xn)),.bool aa,.int .i64 0]) from by kernel_rfl).trans ?_;rw[uH,show ws.length+1=(ws++[(((rdI X.s.os 1 0).getD (aa,0)).2,ah ag (3+xn),aa,(0:br))]).length by simp];rfl
  ·rw[hlr];kernel_rfl
 ·exact .inr ⟨rfl,rs,⟨kd,pc,g,rs.map aL,ws,nw,dl,ac.map aQ,sd,th,(vb,vn)⟩,⟨os3,pc3,g3,nx3,ak3,ac3,en3,th3,(b3,n3),sp3⟩,ht,hrl,ju hws,hnw,hst,by kernel_rfl,by rw[hlr];kernel_rfl⟩
end
end Go.Proofs.PA
