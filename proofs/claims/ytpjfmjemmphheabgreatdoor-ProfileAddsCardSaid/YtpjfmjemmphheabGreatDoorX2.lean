/- ProfileAdds: texts that its proof stands on, part 2. -/
import GoSem.ClaimJoined
import Derived.Recover
import Derived.IntWalk
import Derived.Test.YtpjfmjemmphheabGreatDoorProg
import Derived.KernelRfl
import Derived.Test.YtpjfmjemmphheabGreatDoorX1
open Array renaming getElem?_setIfInBounds->oh,size->ef
open Bool renaming and_eq_true->bu,false->aa,not_eq_true'->gx,true->au
open Classical renaming byContradiction->gi
open Go renaming Code->gy,Frame->tv,Func->rl,FuncId->ia,MapEntry->ez,MemPlace->pq,Operand->im,Program->cq,TypeId->ct,Value->af,World->dh
open Go.DataW renaming trod->kz,weights->ua,weightsEach->tm
open Go.Exit renaming inBlock->og,thenS->ux
open Go.Hx renaming HObj->gh,frz->mq
open Go.Hx.HObj renaming row->cu
open Go.Hx.HX renaming normal->iu,ret->qn
open Go.Hx.Mu renaming le_refl->gk,le_trans->no
open Go.Hx.SOK renaming of_sub->gd
open Go.Hx.St renaming sub_trans->dy
open Go.Hx.Tr renaming get_set->jh,set->ki
open Go.IntKind renaming i64->ag,wrap->ah
open Go.IntWalk renaming i64_in->cm
open Go.Proofs.Tryz renaming prog->ad
open Go.Value renaming agg->bw,bool->al,cells->dx,int->ao,pointer->cr,slice->cd,string->an,tuple->gr
open Go.World renaming cell?->tp
open Int renaming toNat->az
open List renaming all_cons->mv,all_eq_true->fq,drop->dq,drop_append_of_le_length->rq,drop_drop->jo,drop_of_length_le->uy,drop_zero->lH,find?_some->rv,getElem?_append_left->dt,getElem?_append_right->eq,getElem?_eq_getElem->fk,getElem?_eq_none->ei,getElem?_eq_some_iff->ik,getElem?_map->iw,idxOf?_eq_some_iff->ui,length->aw,length_append->cg,length_eq_zero_iff->kp,length_map->fa,map->ai,mapM_cons->qk,mem_append->eu,mem_append_left->jk,mem_cons->ci,mem_cons_of_mem->ep,mem_cons_self->fd,mem_filterMap->sx,mem_iff_getElem?->mg,mem_map->fi,mem_nil_iff->uj,mem_of_find?_eq_some->kx,mem_of_getElem?->ge,mem_range->qj,mem_zipIdx_iff_getElem?->rz,nodup_append->ql,nodup_cons->ry,nodup_iff_pairwise_ne->gw,nodup_range->rf,pairwise_map->qm,range->mf,replicate->fp,take->dr,take_add->pm,take_append_drop->gu,take_of_length_le->gc
open Nat renaming add_mul->jz,add_zero->pe,beq->bx,ble->dg,ble_eq_true_of_le->gv,blt->em,le_of_eq->lu,le_refl->cw,le_trans->ej,lt_of_lt_of_le->pw,lt_or_ge->ey,zero_add->fu,zero_le->li,zero_mul->lx
open Option renaming bind_eq_bind->sf,bind_eq_some_iff->lq,bind_some->re,getD->je,getD_some->ni,isSome_iff_exists->js,map->ta,map_eq_some_iff->aj,none->av,some->ae
open Option.some renaming inj->gf,injEq->co
open Prod.mk renaming injEq->bn
open _root_ renaming Array->df,Bool->cz,ByteArray->bq,Int->br,List->ab,Nat->aq,Option->bp,absurd->cp,cond_false->ed,cond_true->de,if_neg->eh,if_pos->fc
set_option linter.all false
set_option maxRecDepth 100000
set_option maxHeartbeats 4000000
namespace Go.Hx
open Go Go.RowKit
def gZ{α:Type}:ab (aq×α)->Tr α->Tr α
 |[],t=>t|(i,x)::l,t=>match ki 64 t i x with|some t'=>gZ l t'|none=>.lf
def aH(objs:ab (aq×gh))(next ng:aq):St:=⟨gZ objs .lf,next,ng,au,[],[],[]⟩
def mkF(sl:ab (aq×af))(n:aq):HF:=⟨gZ sl .lf,n,[],hvc⟩
def St.ask(s:St)(pth:ab cz)(ora:ab (ab af)):St:={s with opn:=au,pth:=pth,ora:=ora,pc:=[]}
def St.shut(s:St):St:={s with opn:=aa,pth:=[],ora:=[],pc:=[]}
theorem qV{α:Type}:∀(l:ab (aq×α))(t:Tr α)(j:aq)(x:α),(gZ l t).get j=ae x->(j,x)∈l\/t.get j=ae x:=by
 intro l;induction l with
 |nil=>intro t j x h;exact .inr h
 |cons e l ih=>
  obtain⟨i,y⟩:=e;intro t j x h;simp only[gZ] at h;split at h
  ·rename_i t' ht;rcases ih t' j x h with h|h
   ·exact .inl (ep _ h)
   ·rw[jh 64 t t' i y ht] at h;by_cases hji:j=i
    ·rw[fc hji] at h;cases h;subst hji;exact .inl (fd ..)
    ·rw[eh hji] at h;exact .inr h
  ·cases h
inductive RT where
 |to (j:aq)
 |ice (es:ab af)
def hJ{α:Type}:ab (aq×α)->aq->bp α
 |[],_=>av|(i,x)::l,n=>bif bx i n then ae x else hJ l n
theorem fD{α:Type}{x:α}{n:aq}:∀{l:ab (aq×α)},hJ l n=ae x->(n,x)∈l
 |[],h=>by cases h
 |(i,y)::l,h=>by simp only[hJ] at h;cases hb:bx i n with|true=>rw[hb] at h;cases h;rw[(aI _ _).1 hb];exact fd ..|false=>rw[hb] at h;exact ep _ (fD h)
def pK(r:af->bp (af×ab Prop)):ab af->bp (ab af×ab Prop)
 |[]=>ae ([],[])
 |v::l=>match r v with
  |some (v',p)=>match pK r l with
   |some (l',q)=>ae (v'::l',p++q)|none=>av
  |none=>av
def dV(ρ:ab (aq×RT)):aq->af->bp (af×ab Prop)
 |_,.bool b=>ae (.bool b,[])|_,.int k n=>ae (.int k n,[])|_,.string s=>ae (.string s,[])|_,.pointer av=>ae (.pointer av,[])
 |_,.slice av n c=>match hJ ρ 1208925819614629174706176 with
  |some _=>bif bx n 0&&bx c 0 then ae (frz [],[]) else av
  |none=>ae (.slice av n c,[])
 |_,.map av=>ae (.map av,[])|_,.nilFunc=>ae (.nilFunc,[])|_,.nilIface=>ae (.nilIface,[])|_,.pointer (ae ⟨i,o,av⟩)=>match hJ ρ i with|some (.to j)=>ae (.pointer (ae ⟨j,o,av⟩),[])|_=>av
 |_,.slice (ae ⟨i,o,av⟩) n c=>match hJ ρ i with
  |some (.to j)=>ae (.slice (ae ⟨j,o,av⟩) n c,[])|some (.ice es)=>bif bx o 0 then ae (frz es,bif em c UNK then[n=es.length,n<=c] else[n=es.length]) else av
  |none=>av
 |_,.map (ae i)=>match hJ ρ i with|some (.to j)=>ae (.map (ae j),[])|_=>av
 |d+1,.func fn f c=>match pK (dV ρ d) f.toList,pK (dV ρ d) c.toList with|some (f',p),ae (c',q)=>ae (.func fn ⟨f'⟩ ⟨c'⟩,p++q)|_,_=>av
 |d+1,.iface t v=>bif em t TYM then(dV ρ d v).map λr=>(.iface t r.1,r.2) else ae (.iface t v,[])
 |d+1,.agg cs=>(pK (dV ρ d) cs.toList).map λr=>(.agg ⟨r.1⟩,r.2)
 |d+1,.tuple cs=>(pK (dV ρ d) cs.toList).map λr=>(.tuple ⟨r.1⟩,r.2)
 |_,_=>av
def allP(l:ab Prop):Prop:=∀ p∈l,p
theorem allP.nil:allP []:=λ_ h=>by cases h
theorem allP.cons{p:Prop}{l:ab Prop}(h:p)(t:allP l):allP (p::l):=λq hq=>by
 rcases ci.1 hq with rfl|hq
 ·exact h
 ·exact t q hq
theorem aV{a b:ab Prop}(h:allP (a++b)):allP a/\allP b:=⟨λp hp=>h p (by simp[hp]),λp hp=>h p (by simp[hp])⟩
def wP(ρ:ab (aq×RT))(μ ν:Mu):Prop:=∀ i r,hJ ρ i=ae r->match r with|.to j=>∀ p,μ i=ae p->ν j=ae p|.ice es=>∀ n c x,VR μ (.slice (ae ⟨i,0,av⟩) n c) x->n=es.length->(c<UNK->n<=c)->VR ν (frz es) x
section
variable{ρ:ab (aq×RT)}{μ ν:Mu}
theorem d9{r:af->bp (af×ab Prop)}(hr:∀ v v2 ps x,r v=ae (v2,ps)->allP ps->VR μ v x->VR ν v2 x):∀(l l2:ab af)(ps:ab Prop)(xs:ab af),pK r l=ae (l2,ps)->allP ps->VRs μ l xs->VRs ν l2 xs:=by
 intro l;induction l with
 |nil=>intro l2 ps xs h _ hx;cases h;cases hx;exact .nil
 |cons v l ih=>
  intro l2 ps xs h hp hx;simp only[pK] at h;split at h
  ·rename_i v' p hv;split at h
   ·rename_i l' q hl;cases h;obtain⟨h1,h2⟩:=aV hp;cases hx with|cons a b=>exact .cons (hr _ _ _ _ hv h1 a) (ih _ _ _ hl h2 b)
   ·cases h
  ·cases h
theorem cO(hρ:wP ρ μ ν)(hfz:∀ b O,μ.fz b=ae O->ν.fz b=ae O):∀(d:aq)(v v2:af)(ps:ab Prop)(x:af),dV ρ d v=ae (v2,ps)->allP ps->VR μ v x->VR ν v2 x:=by
 have ptr:∀{d:aq}{a:Addr}{v2:af}{ps:ab Prop}{x:af},dV ρ d (.pointer (ae a))=ae (v2,ps)->VR μ (.pointer (ae a)) x->VR ν v2 x:=by
  intro d a v2 ps x h hx;cases hx with
  |@ptr i o _ hp=>
   have h':(match hJ ρ i with
    |some (.to j)=>ae (.pointer (ae ⟨j,o,av⟩),[])
    |_=>av)=ae (v2,ps):=by cases d<;>exact h
   split at h'
   ·rename_i j hj;cases h';exact .ptr (hρ _ _ hj _ hp)
   ·cases h'
  |@ptrO i o z _ hp=>
   have h':(av:bp (af×ab Prop))=ae (v2,ps):=by cases d<;>exact h
   cases h'
 have map':∀{d:aq}{i:aq}{v2:af}{ps:ab Prop}{x:af},dV ρ d (.map (ae i))=ae (v2,ps)->VR μ (.map (ae i)) x->VR ν v2 x:=by
  intro d i v2 ps x h hx;cases hx with
  |map hp=>
   have h':(match hJ ρ i with
    |some (.to j)=>ae (.map (ae j),[])
    |_=>av)=ae (v2,ps):=by cases d<;>exact h
   split at h'
   ·rename_i j hj;cases h';exact .map (hρ _ _ hj _ hp)
   ·cases h'
 have nls:∀{d:aq}{n c:aq}{v2:af}{ps:ab Prop}{x:af},dV ρ d (.slice av n c)=ae (v2,ps)->VR μ (.slice av n c) x->VR ν v2 x:=by
  intro d n c v2 ps x h hx;have h':(match hJ ρ 1208925819614629174706176 with
   |some _=>bif bx n 0&&bx c 0 then ae (frz [],[]) else av
   |none=>ae (.slice av n c,[]))=ae (v2,ps):=by cases d<;>exact h
  split at h'
  ·obtain⟨_,h'⟩:=aD h';cases h';cases hx;exact .frz .frz0
  ·cases h';cases hx;exact .snil
 have slc:∀{d:aq}{a:Addr}{n c:aq}{v2:af}{ps:ab Prop}{x:af},dV ρ d (.slice (ae a) n c)=ae (v2,ps)->allP ps->VR μ (.slice (ae a) n c) x->VR ν v2 x:=by
  intro d a n c v2 ps x h hp hx;obtain⟨i,o,sp⟩:=a;cases sp with
  |some sp=>cases d<;>simp[dV] at h
  |none=>
   have h':(match hJ ρ i with
    |some (.to j)=>ae (.slice (ae ⟨j,o,av⟩) n c,[])|some (.ice es)=>bif bx o 0 then ae (frz es,bif em c UNK then[n=es.length,n<=c] else[n=es.length]) else av
    |none=>av)=ae (v2,ps):=by cases d<;>exact h
   split at h'
   ·rename_i j hj;cases h';cases hx with|sliceK hq hc=>exact .sliceK (hρ _ _ hj _ hq) hc|sliceU hq h1 h2 h3=>exact .sliceU (hρ _ _ hj _ hq) h1 h2 h3|sliceE=>exact .sliceE
   ·rename_i es hj;obtain⟨ho,h'⟩:=aD h';cases h';have:=(aI _ _).1 ho;subst this;refine hρ _ _ hj n c x hx ?_ λhc=>?_
    ·cases hb:em c UNK<;>rw[hb] at hp<;>exact hp _ qS
    ·rw[show em c UNK=au from gv hc] at hp;exact hp _ qS
   ·cases h'
 intro d;induction d with
 |zero=>
  intro v v2 ps x h hp hx;cases v with
  |bool b=>cases h;cases hx;exact .bool _|int k n=>cases h;cases hx;exact .int _ _|string s=>cases h;cases hx;exact .str _|pointer a=>cases a with|none=>cases h;cases hx;exact .pnil|some a=>exact ptr h hx
  |slice a n c=>cases a with|none=>exact nls h hx|some a=>exact slc h hp hx
  |map r=>cases r with|none=>cases h;cases hx;exact .mnil|some a=>exact map' h hx
  |nilFunc=>cases h;cases hx;exact .nfun|nilIface=>cases h;cases hx;exact .nifc|_=>simp[dV] at h
 |succ d ih=>
  intro v v2 ps x h hp hx;cases v with
  |bool b=>cases h;cases hx;exact .bool _|int k n=>cases h;cases hx;exact .int _ _|string s=>cases h;cases hx;exact .str _|pointer a=>cases a with|none=>cases h;cases hx;exact .pnil|some a=>exact ptr h hx
  |slice a n c=>cases a with|none=>exact nls h hx|some a=>exact slc h hp hx
  |map r=>cases r with|none=>cases h;cases hx;exact .mnil|some a=>exact map' h hx
  |nilFunc=>cases h;cases hx;exact .nfun|nilIface=>cases h;cases hx;exact .nifc
  |func fn f c=>
   simp only[dV] at h;split at h
   ·rename_i f' p c' q hf hc;cases h;obtain⟨h1,h2⟩:=aV hp;cases hx with|func a b=>exact .func (d9 ih _ _ _ _ hf h1 a) (d9 ih _ _ _ _ hc h2 b)
   ·cases h
  |iface t v=>
   simp only[dV] at h;cases hb:em t TYM with
   |true=>rw[hb] at h;simp only[de,aj,bn] at h;obtain⟨⟨r1,r2⟩,h1,rfl,rfl⟩:=h;have hb:=bN hb;cases hx with|iface ht a=>exact .iface ht (ih _ _ _ _ h1 hp a)|frz _=>exact cp hb (by simp[TYM])|fptr _ _ _=>exact cp hb (by simp[TYM])|szv=>exact cp hb (by simp[TYM])|frzU _=>exact cp hb (by simp[TYM])
   |false=>rw[hb] at h;simp only[ed,co,bn] at h;obtain⟨rfl,rfl⟩:=h;cases hx with|iface ht a=>exact cp (gv ht) (by rw[show dg (t+1) TYM=aa from hb];simp)|frz a=>exact .frz (a.mono hfz)|fptr a b c=>exact .fptr (hfz _ _ a) b (c.mono hfz)|szv=>exact .szv|frzU a=>exact .frzU (a.mono hfz)
  |agg cs=>simp only[dV,aj,bn] at h;obtain⟨⟨r1,r2⟩,h1,rfl,rfl⟩:=h;cases hx with|agg a=>exact .agg (d9 ih _ _ _ _ h1 hp a)
  |tuple cs=>simp only[dV,aj,bn] at h;obtain⟨⟨r1,r2⟩,h1,rfl,rfl⟩:=h;cases hx with|tuple a=>exact .tuple (d9 ih _ _ _ _ h1 hp a)
  |_=>simp[dV] at h
end
def E1(ρ:ab (aq×RT)):ab ez->bp (ab ez×ab Prop)
 |[]=>ae ([],[])
 |e::l=>match dV ρ 4 e.key,dV ρ 4 e.val with
  |some (k,p),ae (v,q)=>match E1 ρ l with
   |some (l',r)=>ae ({e with key:=k,val:=v}::l',p++q++r)|none=>av
  |_,_=>av
def fY(ρ:ab (aq×RT))(op:cz):gh->bp (gh×ab Prop)
 |.row au c e=>bif op then ae (.srow c e,[]) else ae (.row au c e,[])
 |.row aa c e=>bif op then(bif c.all (idf 0) then ae (.row au c e,[]) else av) else(pK (dV ρ 4) c).map λr=>(.row aa r.1 e,r.2)
 |.ro c=>(pK (dV ρ 4) c).map λr=>(.ro r.1,r.2)
 |.map es k=>(E1 ρ es).map λr=>(.map r.1 k,r.2)
 |.fmap f=>ae (.fmap f,[])|.srow c e=>ae (.srow c e,[])|_=>av
section
variable{ρ:ab (aq×RT)}{μ ν:Mu}{w0:Base}{w:dh}
theorem AJ(hρ:wP ρ μ ν)(hfz:∀ b O,μ.fz b=ae O->ν.fz b=ae O):∀(es es2:ab ez)(ps:ab Prop)(es':ab ez),E1 ρ es=ae (es2,ps)->allP ps->EsR μ es es'->EsR ν es2 es':=by
 intro es;induction es with
 |nil=>intro es2 ps es' h _ k;cases h;exact⟨k.1,λj e hj=>by simp at hj⟩
 |cons e es ih=>
  intro es2 ps es' h hp k;simp only[E1] at h;split at h
  ·rename_i k1 p v1 q hk hv;split at h
   ·rename_i l' r hl;cases h;obtain⟨h1,h3⟩:=aV hp;obtain⟨h1,h2⟩:=aV h1;cases es' with|nil=>have:=k.1;simp at this|cons e' es'=>have k2:=ih l' r es' hl h3 k.tail;obtain⟨e2,m1,m2,m3,m4⟩:=k.2 0 e rfl;simp at m1;subst m1;refine⟨by have:=k2.1;simp[this],λj x hj=>?_⟩;cases j with|zero=>simp at hj;subst hj;exact⟨e',rfl,cO hρ hfz _ _ _ _ _ hk h1 m2,cO hρ hfz _ _ _ _ _ hv h2 m3,m4⟩|succ j=>simpa using k2.2 j x (by simpa using hj)
   ·cases h
  ·cases h
theorem cT(hρ:wP ρ μ ν)(hfz:∀ b O,μ.fz b=ae O->ν.fz b=ae O){op:cz}{o o2:gh}{ps:ab Prop}{i j:aq}{p:Place}(h:fY ρ op o=ae (o2,ps))(hp:allP ps)(k:Hl w0 μ i o p w):Hl w0 ν j o2 p w/\(∀ g,own o2 p g->own o p g)/\o≠.dead:=by
 cases o with
 |row op0 c e=>
  cases op0 with
  |true=>
   obtain⟨cur,h1,h2,h3,h4⟩:=k;have hcs:CsR au ν c cur p.base:=λj v hj=>by obtain⟨v',k1,k2⟩:=h4 j v hj;exact⟨v',k1,FR.mono hfz k2⟩
   cases op with|true=>cases h;exact⟨.inr ⟨cur,h1,h2,h3,hcs⟩,λg hg=>hg.2,qS⟩|false=>cases h;exact⟨⟨cur,h1,h2,h3,hcs⟩,λg h=>h,qS⟩
  |false=>obtain⟨cur,h1,h2,h3,h4⟩:=k;simp only[fY] at h;cases op with|true=>simp only[de] at h;obtain⟨ha,h⟩:=aD h;cases h;refine⟨⟨cur,h1,h2,h3,qX (n:=c.length) (FRs.mono hfz (j2 ha (kE h4)))⟩,λg h=>h,qS⟩|false=>simp only[ed,aj,bn] at h;obtain⟨⟨r1,r2⟩,hr,rfl,rfl⟩:=h;have:=d9 (cO hρ hfz 4) _ _ _ _ hr hp (kE h4);refine⟨⟨cur,h1,h2,?_,qX (op:=aa) (n:=c.length) this⟩,λg h=>h,qS⟩;have:=this.length;rw[this,List.length_take];omega
 |ro c=>obtain⟨cur,e,fr,h1,h2⟩:=k;simp only[fY,aj,bn] at h;obtain⟨⟨r1,r2⟩,hr,rfl,rfl⟩:=h;exact⟨⟨cur,e,fr,hfz _ _ h1,qX (op:=aa) (n:=c.length) (d9 (cO hρ hfz 4) _ _ _ _ hr hp (kE h2))⟩,λg h=>h,qS⟩|map es c=>obtain⟨es',h1,h2⟩:=k;simp only[fY,aj,bn] at h;obtain⟨⟨r1,r2⟩,hr,rfl,rfl⟩:=h;exact⟨⟨es',h1,AJ hρ hfz _ _ _ _ hr hp h2⟩,λg h=>h,qS⟩|srow c e=>cases h;refine⟨k.imp id λ⟨cur,h1,h2,h3,h4⟩=>⟨cur,h1,h2,h3,λj v hj=>?_⟩,λg h=>h,qS⟩;obtain⟨v',k1,k2⟩:=h4 j v hj;exact⟨v',k1,FR.mono hfz k2⟩|fmap f=>cases h;obtain⟨es',c,h1,h2⟩:=k;exact⟨⟨es',c,h1,h2.mono hfz⟩,λg h=>h,qS⟩|_=>cases h
end
structure Cut where
 objs:ab (aq×aq×cz)
 ices:ab (aq×aq×ab af)
 slots:ab aq
 next:aq
 n0:aq
 nz:Bool:=aa
def Cut.ρ(C:Cut):ab (aq×RT):=(bif C.nz then[(1208925819614629174706176,.ice [])] else[])++(C.ices.map (λx=>(x.1,.ice x.2.2))++C.objs.map (λx=>(x.1,.to x.2.1)))
def iL(s:St):ab (aq×aq×ab af)->bp (St×ab Prop)
 |[]=>ae (s,[])
 |(i,z,es)::l=>match s.h.get i with
  |some (.row op c _)=>bif mF op au c then
    match ki 64 s.h i .dead with
    |some t=>match iL {s with h:=t} l with|some (s',ps)=>ae (s',(aB es=c/\(∀ v∈es,v.cells.size=z)/\0<z)::ps)|none=>av
    |none=>av
   else av
  |some (.srow c _)=>match ki 64 s.h i .dead with
    |some t=>match iL {s with h:=t} l with
     |some (s',ps)=>ae (s',(aB es=c/\(∀ v∈es,v.cells.size=z)/\0<z)::ps)|none=>av
    |none=>av
  |_=>av
def gO(ρ:ab (aq×RT))(s:St):ab (aq×aq×cz)->bp (ab (aq×gh)×ab Prop)
 |[]=>ae ([],[])
 |(i,j,op)::l=>match s.h.get i with
  |some o=>match fY ρ op o with
   |some (o',p)=>match gO ρ s l with
    |some (r,q)=>ae ((j,o')::r,p++q)|none=>av
   |none=>av
  |none=>gO ρ s l
def rV(ρ:ab (aq×RT))(f:HF):ab aq->bp (ab (aq×af)×ab Prop)
 |[]=>ae ([],[])
 |d::l=>bif em d f.n&&!jN (f.get d) then match dV ρ 6 (f.get d) with
   |some (v,p)=>match rV ρ f l with
    |some (r,q)=>ae ((d,v)::r,p++q)|none=>av
   |none=>av
  else av
def pW:ab aq->cz
 |[]=>au|x::l=>!(l.any (bx x))&&pW l
theorem fC:∀{l:ab aq},pW l=au->l.Nodup
 |[],_=>.nil|x::l,h=>by simp only[pW,bu,gx,List.any_eq_false] at h;refine ry.2 ⟨λhx=>?_,fC h.2⟩;exact h.1 x hx ((aI _ _).2 rfl)
def Cut.okB(C:Cut)(s:St):Bool:=pW (C.objs.map λx=>x.1)&&pW (C.objs.map λx=>x.2.1)&&C.objs.all (λx=>em x.2.1 C.next&&(bx x.1 x.2.1||!(em x.2.1 C.n0)))&& dg C.n0 C.next&&dg s.ng C.n0
def cut(C:Cut)(s:St)(f:HF):bp (ab (aq×gh)×ab (aq×af)×ab Prop):=bif C.okB s&&f.ds.isEmpty then
  match iL s C.ices with
  |some (s1,p1)=>match gO C.ρ s1 C.objs,rV C.ρ f C.slots with|some (os,p2),ae (sl,p3)=>ae (os,sl,p1++p2++p3)|_,_=>av
  |none=>av
 else av
structure leN(n0:aq)(μ ν:Mu):Prop where
 pl:∀ i p,i<n0->μ i=ae p->∃q,ν i=ae q/\p.sim q
 fz:∀ b O,μ.fz b=ae O->ν.fz b=ae O
theorem leN.refl(n0:aq)(μ:Mu):leN n0 μ μ:=⟨λ_ p _ h=>⟨p,h,p.sim_refl⟩,λ_ _ h=>h⟩
theorem leN.trans{n0:aq}{a b c:Mu}(h:leN n0 a b)(k:leN n0 b c):leN n0 a c:=⟨λi p hi hp=>let⟨q,h1,h2⟩:=h.pl i p hi hp;let⟨r,k1,k2⟩:=k.pl i q hi h1;⟨r,k1,h2.trans k2⟩,λb O hb=>k.fz b O (h.fz b O hb)⟩
theorem Mu.le.leN{a b:Mu}(h:a.le b)(n0:aq):leN n0 a b:=⟨λi p _ hp=>h.pl i p hp,h.fz⟩
theorem leN.le{a b:Mu}{n0:aq}(h:leN n0 a b)(hn:∀ i,n0<=i->a i=av):a.le b:=by
 refine⟨λi p hp=>?_,h.fz⟩;rcases ey i n0 with hi|hi
 ·exact h.pl i p hi hp
 ·rw[hn i hi] at hp;cases hp
theorem leN.mono{a b:Mu}{n0 n1:aq}(h:leN n1 a b)(hn:n0<=n1):leN n0 a b:=⟨λi p hi hp=>h.pl i p qO hp,h.fz⟩
section
variable{w0:Base}{μ:Mu}{s:St}{w:dh}
theorem KB(h:R w0 μ s w){i z:aq}{es:ab af}{c:ab af}{e:ct}{t:Tr gh}(hg:s.h.get i=ae (.srow c e))(ht:ki 64 s.h i .dead=ae t)(q1:aB es=c)(q2:∀ v∈es,v.cells.size=z)(q3:0<z):∃ν,μ.le ν/\ν.pl=μ.pl/\R w0 ν {s with h:=t} w/\∀ n c y,VR μ (.slice (ae ⟨i,0,av⟩) n c) y->n=es.length->(c<UNK->n<=c)->VR ν (frz es) y:=by
 obtain⟨p,hp,hl,_⟩:=h.obj i _ hg qS;by_cases hr:c=[]/\p.room=0
 ·refine⟨μ,gk _,rfl,h.kill ht,λn cc y hy hn _=>?_⟩;have hfl:c.length=es.length*z:=by rw[<-q1,cA q2]
  have he:es=[]:=by rw[hr.1] at hfl;cases es with|nil=>rfl|cons x l=>simp only[List.length_nil,List.length_cons] at hfl;have:=Nat.mul_pos (Nat.succ_pos l.length) q3;simp only[Nat.succ_eq_add_one] at this;omega
  subst he;have hn:n=0:=hn;subst hn;cases hy with|sliceK hq hc=>exact .frz .frz0|sliceU hq h1 h2 h3=>exact .frz .frz0|sliceE=>exact .frz .frz0
 ·have hl:=hl.resolve_left hr;obtain⟨t1,ht1⟩:=Tr.set_any ht (.row au c e);have hR:R w0 μ {s with h:=t1} w:=h.turn hg ht1 hp h.below (cw _) (λg hg=>⟨gi λhn=>hr ⟨gi λhc=>hn (.inl hc),gi λhc=>hn (.inr hc)⟩,hg⟩) (λ_=>hl) (λ_ _ _=>rfl);have hg1:({s with h:=t1}:St).h.get i=ae (.row au c e):=by simp only;rw[jh 64 s.h t1 i _ ht1];simp
  exact zD hR hg1 rfl (by rw[Tr.set_set 64 s.h t1 i _ _ ht1];exact ht) q1 q2 q3
theorem zE:∀(l:ab (aq×aq×ab af))(s s1:St)(ps:ab Prop)(μ:Mu),R w0 μ s w->iL s l=ae (s1,ps)->allP ps->∃ν,μ.le ν/\ν.pl=μ.pl/\R w0 ν s1 w/\∀ x∈l,∀ n c y,VR μ (.slice (ae ⟨x.1,0,av⟩) n c) y->n=x.2.2.length->(c<UNK->n<=c)->VR ν (frz x.2.2) y:=by
 intro l;induction l with
 |nil=>intro s s1 ps μ h hr _;cases hr;exact⟨μ,gk _,rfl,h,λx hx=>by cases hx⟩
 |cons x l ih=>
  obtain⟨i,z,es⟩:=x;intro s s1 ps μ h hr hp;have go:∀(t:Tr gh)(ps':ab Prop)(s':St),iL {s with h:=t} l=ae (s',ps')->allP ps'->(∃ν,μ.le ν/\ν.pl=μ.pl/\R w0 ν {s with h:=t} w/\∀ n c y,VR μ (.slice (ae ⟨i,0,av⟩) n c) y->n=es.length->(c<UNK->n<=c)->VR ν (frz es) y)->∃ν,μ.le ν/\ν.pl=μ.pl/\R w0 ν s' w/\∀ x∈(i,z,es)::l,∀ n c y,VR μ (.slice (ae ⟨x.1,0,av⟩) n c) y->n=x.2.2.length->(c<UNK->n<=c)->VR ν (frz x.2.2) y:=by
   rintro t ps' s' hl hp' ⟨ν1,k1,k2,k3,k4⟩;obtain⟨ν,m1,m2,m3,m4⟩:=ih _ _ _ _ k3 hl hp';refine⟨ν,no k1 m1,m2.trans k2,m3,λx hx n cc y hy hn hcn=>?_⟩;rcases ci.1 hx with rfl|hx
   ·exact(k4 n cc y hy hn hcn).mono m1
   ·exact m4 x hx n cc y (hy.mono k1) hn hcn
  simp only[iL] at hr;split at hr
  ·rename_i op c e hg;obtain⟨has,hr⟩:=aD hr;split at hr
   ·rename_i t ht;split at hr
    ·rename_i s' ps' hl;cases hr;obtain⟨q1,q2,q3⟩:=hp _ (fd ..);exact go t ps' _ hl (λp hp'=>hp p (ep _ hp')) (zD h hg has ht q1 q2 q3)
    ·cases hr
   ·cases hr
  ·rename_i c e hg;split at hr
   ·rename_i t ht;split at hr
    ·rename_i s' ps' hl;cases hr;obtain⟨q1,q2,q3⟩:=hp _ (fd ..);exact go t ps' _ hl (λp hp'=>hp p (ep _ hp')) (KB h hg ht q1 q2 q3)
    ·cases hr
   ·cases hr
  ·cases hr
theorem B5{ρ:ab (aq×RT)}{s:St}:∀{l:ab (aq×aq×cz)}{os:ab (aq×gh)}{ps:ab Prop},gO ρ s l=ae (os,ps)->allP ps->∀ j o',(j,o')∈os->∃i op o q,(i,j,op)∈l/\s.h.get i=ae o/\fY ρ op o=ae (o',q)/\allP q:=by
 intro l;induction l with
 |nil=>intro os ps h _ j o' hm;cases h;cases hm
 |cons x l ih=>
  obtain⟨i,j0,op⟩:=x;intro os ps h hp j o' hm;simp only[gO] at h;split at h
  ·rename_i o ho;split at h
   ·rename_i o1 q1 hr;split at h
    ·rename_i r q2 hl;cases h;obtain⟨h1,h2⟩:=aV hp;rcases ci.1 hm with hm|hm
     ·cases hm;exact⟨i,op,o,q1,fd ..,ho,hr,h1⟩
     ·obtain⟨i',op',o2,q,k1,k2⟩:=ih hl h2 j o' hm;exact⟨i',op',o2,q,ep _ k1,k2⟩
    ·cases h
   ·cases h
  ·obtain⟨i',op',o2,q,k1,k2⟩:=ih h hp j o' hm;exact⟨i',op',o2,q,ep _ k1,k2⟩
theorem zR{ρ:ab (aq×RT)}{f:HF}:∀{l:ab aq}{sl:ab (aq×af)}{ps:ab Prop},rV ρ f l=ae (sl,ps)->allP ps->∀ d v,(d,v)∈sl->∃q,d<f.n/\jN (f.get d)=aa/\dV ρ 6 (f.get d)=ae (v,q)/\allP q:=by
 intro l;induction l with
 |nil=>intro sl ps h _ d v hm;cases h;cases hm
 |cons x l ih=>
  intro sl ps h hp d v hm;simp only[rV] at h;obtain⟨hb,h⟩:=aD h;simp only[bu,gx] at hb;split at h
  ·rename_i v1 q1 hr;split at h
   ·rename_i r q2 hl;cases h;obtain⟨h1,h2⟩:=aV hp;rcases ci.1 hm with hm|hm
    ·cases hm;exact⟨q1,bN hb.1,hb.2,hr,h1⟩
    ·exact ih hl h2 d v hm
   ·cases h
  ·cases h
theorem sN{α:Type}{f:α->aq}:∀{l:ab α},(l.map f).Nodup->∀ x∈l,∀ y∈l,f x=f y->x=y
 |[],_,x,hx=>by cases hx
 |a::l,h,x,hx=>by
  simp only[List.map_cons,ry] at h;intro y hy he;cases hx with
  |head=>cases hy with|head=>rfl|tail _ hy'=>exact cp (fi.2 ⟨y,hy',he.symm⟩) h.1
  |tail _ hx'=>cases hy with|head=>exact cp (fi.2 ⟨x,hx',he⟩) h.1|tail _ hy'=>exact sN h.2 x hx' y hy' he
def Cut.mu(C:Cut)(pl:aq->bp Place)(fz:aq->bp Obj):Mu:=⟨λj=>if j<C.n0 then pl j else match C.objs.find? (λx=>x.2.1==j) with
  |some x=>pl x.1
  |none=>av,fz⟩
theorem uF{C:Cut}(hok:C.okB s=au)(h:R w0 μ s w){s1:St}{p1:ab Prop}(hi:iL s C.ices=ae (s1,p1))(hp:allP p1):∃ν1:Mu,μ.le ν1/\ν1.pl=μ.pl/\R w0 ν1 s1 w/\wP C.ρ ν1 (C.mu μ.pl ν1.fz)/\(∀ i j op,(i,j,op)∈C.objs->(C.mu μ.pl ν1.fz) j=μ i)/\leN C.n0 μ (C.mu μ.pl ν1.fz):=by
 obtain⟨ν1,m1,m2,m3,m4⟩:=zE C.ices s s1 p1 μ h hi hp;unfold Cut.okB at hok;simp only[bu,fq] at hok;obtain⟨⟨⟨⟨o1,o2⟩,o3⟩,o4⟩,o5⟩:=hok;have o2:=fC o2;have at':∀ i j op,(i,j,op)∈C.objs->(C.mu μ.pl ν1.fz) j=μ i:=by
  intro i j op hm;have hx:=o3 _ hm;simp only[Bool.or_eq_true,gx] at hx;show(if j<C.n0 then μ.pl j else _)=μ.pl i;by_cases hj:j<C.n0
  ·rw[fc hj];rcases hx.2 with hx|hx
   ·rw[(aI _ _).1 hx]
   ·rw[show em j C.n0=au from gv hj] at hx;cases hx
  ·rw[eh hj];cases hf:C.objs.find? (λx=>x.2.1==j) with|none=>have:=List.find?_eq_none.1 hf _ hm;simp at this|some x=>have hxm:=kx hf;have hxj:=rv hf;simp only[beq_iff_eq] at hxj;have:=sN o2 x hxm _ hm hxj;rw[this]
 refine⟨ν1,m1,m2,m3,λi r hr=>?_,at',⟨λi p hin hp=>⟨p,?_,p.sim_refl⟩,m1.fz⟩⟩
 ·have hm:=fD hr;unfold Cut.ρ at hm;rcases eu.1 hm with hm|hm
  ·cases hnz:C.nz with|false=>rw[hnz] at hm;cases hm|true=>rw[hnz] at hm;simp only[de,List.mem_singleton,bn] at hm;obtain⟨_,rfl⟩:=hm;intro n c y hy hn _;have hn:n=0:=hn;subst hn;cases hy with|sliceK=>exact .frz .frz0|sliceU=>exact .frz .frz0|sliceE=>exact .frz .frz0
  rcases eu.1 hm with hm|hm
  ·obtain⟨x,hx,he⟩:=fi.1 hm;cases he;intro n c y hy hn hc;have hy':VR μ (.slice (ae ⟨x.1,0,av⟩) n c) y:=by cases hy with|sliceK hq hc=>exact .sliceK (by rw[<-m2];exact hq) hc|sliceU hq a b d=>exact .sliceU (by rw[<-m2];exact hq) a b d|sliceE=>exact .sliceE
   have:=m4 x hx n c y hy' hn hc;cases this with|frz k=>exact .frz k|iface ht _=>exact cp ht (by simp[TYM])
  ·obtain⟨x,hx,he⟩:=fi.1 hm;cases he;intro p hp;rw[at' x.1 x.2.1 x.2.2 hx];show μ.pl x.1=ae p;rw[<-m2];exact hp
 ·show(if i<C.n0 then μ.pl i else _)=ae p;rw[fc hin];exact hp
theorem FW{C:Cut}(hok:C.okB s=au)(h:R w0 μ s w){s1:St}{ν1:Mu}(m2:ν1.pl=μ.pl)(m3:R w0 ν1 s1 w)(hren:wP C.ρ ν1 (C.mu μ.pl ν1.fz))(hat:∀ i j op,(i,j,op)∈C.objs->(C.mu μ.pl ν1.fz) j=μ i){os:ab (aq×gh)}{p2:ab Prop}(ho:gO C.ρ s1 C.objs=ae (os,p2))(hp:allP p2):R w0 (C.mu μ.pl ν1.fz) (aH os C.next s.ng) w:=by
 unfold Cut.okB at hok;simp only[bu,fq] at hok;obtain⟨⟨⟨⟨o1,o2⟩,o3⟩,o4⟩,o5⟩:=hok;have o1:=fC o1;have o2:=fC o2;have o4:=bK o4;have o5:=bK o5;have key:∀ j o',(aH os C.next s.ng).h.get j=ae o'->∃i op o p,(i,j,op)∈C.objs/\s1.h.get i=ae o/\o≠.dead/\μ i=ae p/\(C.mu μ.pl ν1.fz) j=ae p/\Hl w0 (C.mu μ.pl ν1.fz) j o' p w/\(∀ g,own o' p g->own o p g):=by
  intro j o' hj;have hj':(j,o')∈os:=by
   rcases qV os .lf j o' hj with h|h
   ·exact h
   ·rw[Tr.get_lf] at h;cases h
  obtain⟨i,op,o,q,k1,k2,k3,k4⟩:=B5 ho hp j o' hj';have hd:o≠.dead:=by intro e;subst e;cases k3
  obtain⟨p,r1,r2,r3⟩:=m3.obj i o k2 hd;obtain⟨n1,n2,_⟩:=cT (j:=j) hren (λ_ _ h=>h) k3 k4 r2;have hμ:μ i=ae p:=by show μ.pl i=ae p;rw[<-m2];exact r1
  exact⟨i,op,o,p,k1,k2,hd,hμ,(hat i j op k1).trans hμ,n1,n2⟩
 refine⟨h.below,λj hj=>?_,λj o' hj _=>?_,λj k x y a b hjk hj hk ha hb g hga hgb=>?_,m3.fz,λb O j x a hb hj ha hga=>?_,m3.fzo,λg hg=>?_⟩
 ·have hj:C.next<=j:=hj;show(if j<C.n0 then μ.pl j else _)=av;rw[eh qO];cases hf:C.objs.find? (λx=>x.2.1==j) with|none=>rfl|some x=>have hxm:=kx hf;have hxj:=rv hf;simp only[beq_iff_eq] at hxj;have:=bN (o3 x hxm).1;omega
 ·obtain⟨i,op,o,p,k1,k2,k3,k4,k5,k6,k7⟩:=key j o' hj;obtain⟨p',r1,r2,r3⟩:=m3.obj i o k2 k3;have:ν1.pl i=ae p:=by rw[m2];exact k4
  rw[this] at r1;cases r1;exact⟨p,k5,k6,λg hg=>r3 g (k7 g hg)⟩
 ·obtain⟨i1,op1,oa,p1,a1,a2,a3,a4,a5,a6,a7⟩:=key j x hj;obtain⟨i2,op2,ob,p2,b1,b2,b3,b4,b5,b6,b7⟩:=key k y hk;rw[a5] at ha;cases ha;rw[b5] at hb;cases hb;have hne:i1≠i2:=λe=>by subst e;have:=sN o1 _ a1 _ b1 rfl;cases this;exact hjk rfl
  have c1:ν1.pl i1=ae a:=by rw[m2];exact a4
  have c2:ν1.pl i2=ae b:=by rw[m2];exact b4
  exact m3.dis i1 i2 oa ob a b hne a2 b2 c1 c2 g (a7 g hga) (b7 g hgb)
 ·obtain⟨i1,op1,oa,p1,a1,a2,a3,a4,a5,a6,a7⟩:=key j x hj;rw[a5] at ha;cases ha;have c1:ν1.pl i1=ae a:=by rw[m2];exact a4
  exact m3.fzd b O i1 oa a hb a2 c1 (a7 b hga)
 ·have hg:g<s.ng:=hg;obtain⟨p,q1,q2⟩:=h.gl g hg;refine⟨p,?_,q2⟩;show(if g<C.n0 then μ.pl g else _)=ae p;rw[fc qO];exact q1
theorem HT{C:Cut}{f:HF}{a:Act}{os:ab (aq×gh)}{sl:ab (aq×af)}{ps:ab Prop}(h:R w0 μ s w)(ha:AR μ f a)(hc:cut C s f=ae (os,sl,ps))(hp:allP ps):∃ν,leN C.n0 μ ν/\R w0 ν (aH os C.next s.ng) w/\AR ν (mkF sl f.n) a:=by
 unfold cut at hc;obtain⟨hb,hc⟩:=aD hc;simp only[bu] at hb;split at hc
 ·rename_i s1 p1 hi;split at hc
  ·rename_i os' p2 sl' p3 ho hs;cases hc;obtain⟨h1,h3⟩:=aV hp;obtain⟨h1,h2⟩:=aV h1;obtain⟨ν1,m1,m2,m3,m4,m5,m6⟩:=uF hb.1 h hi h1;refine⟨_,m6,FW hb.1 h m2 m3 m4 m5 ho h2,ha.size,λd hd hv=>?_,?_⟩
   ·have hg:∃v,(mkF sl f.n).get d=v:=⟨_,rfl⟩;unfold HF.get at hv ⊢;cases hgd:(mkF sl f.n).t.get d with
    |none=>rw[hgd] at hv;cases hv
    |some v=>
     simp only[ni];have hm:(d,v)∈sl:=by
      rcases qV sl .lf d v hgd with h|h
      ·exact h
      ·rw[Tr.get_lf] at h;cases h
     obtain⟨q,k1,k2,k3,k4⟩:=zR hs h3 d v hm;exact cO m4 (λ_ _ h=>h) _ _ _ _ _ k3 k4 ((ha.vals d k1 k2).mono m1)
   ·have he:f.ds=[]:=by simpa using hb.2
    have:=ha.ds;rw[he] at this;generalize a.defers=l at this ⊢;cases this;exact .nil
  ·cases hc
 ·cases hc
end
def aU:gy->ab gy
 |.seq a b=>aU a++aU b|c=>[c]
section
variable{P:cq}
def wpl(P:cq):ab gy->(Exit->Act->dh->Prop)->Act->dh->Prop
 |[],Q,a,w=>Q .normal a w|c::cs,Q,a,w=>c.wp P (Exit.then (wpl P cs Q) Q) a w
theorem xC{N N':Act->dh->Prop}{Q Q':Exit->Act->dh->Prop}(hn:∀ a w,N a w->N' a w)(hq:∀ e a w,Q e a w->Q' e a w):∀ e a w,Exit.then N Q e a w->Exit.then N' Q' e a w:=λe a w h=>by cases e with|normal=>exact hn _ _ h|_=>exact hq _ _ _ h
theorem cI{Q Q':Exit->Act->dh->Prop}(hq:∀ e a w,Q e a w->Q' e a w):∀(cs:ab gy)(a:Act)(w:dh),wpl P cs Q a w->wpl P cs Q' a w
 |[],_,_,h=>hq _ _ _ h|_::cs,_,_,h=>wp_mono h (xC (cI hq cs) hq)
theorem uI{Q:Exit->Act->dh->Prop}(ds:ab gy):∀(cs:ab gy)(a:Act)(w:dh),wpl P cs (Exit.then (wpl P ds Q) Q) a w->wpl P (cs++ds) Q a w
 |[],_,_,h=>h|_::cs,_,_,h=>wp_mono h λe a w he=>by cases e with|normal=>exact uI ds cs a w he|_=>exact he
theorem iV{Q:Exit->Act->dh->Prop}(ds:ab gy):∀(cs:ab gy)(a:Act)(w:dh),wpl P (cs++ds) Q a w->wpl P cs (Exit.then (wpl P ds Q) Q) a w
 |[],_,_,h=>h|_::cs,_,_,h=>wp_mono h λe a w he=>by cases e with|normal=>exact iV ds cs a w he|_=>exact he
theorem d7:∀(c:gy)(Q:Exit->Act->dh->Prop)(a:Act)(w:dh),wpl P (aU c) Q a w->c.wp P Q a w:=by intro c;induction c with|seq x y ihx ihy=>intro Q a w h;refine wp_seq (ihx _ a w ?_);exact cI (xC (λa w h=>ihy Q a w h) (λ_ _ _ h=>h)) _ _ _ (iV _ _ _ _ h)|_=>intro Q a w h;refine wp_mono h λe a w he=>?_;cases e<;>exact he
def rH(P:cq)(call:aS)(lf:aq):ab gy->St->HF->bp (HX×St×HF)
 |[],s,f=>ae (.normal,s,f)|c::cs,s,f=>match eW P call lf c s f with|some (.normal,s',f')=>rH P call lf cs s' f'|r=>r
theorem xO{call:aS}(hc:aR P call)(lf:aq):∀ cs,sB (rH P call lf cs):=by
 intro cs;induction cs with
 |nil=>intro s s' f f' x h;cases h;exact s.sub_refl
 |cons c cs ih=>
  intro s s' f f' x h;simp only[rH] at h;split at h
  ·rename_i h1;exact dy (fG hc lf c _ _ _ _ _ h1) (ih _ _ _ _ _ h)
  ·exact fG hc lf c _ _ _ _ _ h
section
variable{w0:Base}{μ:Mu}{s:St}{f:HF}{a:Act}{w:dh}
theorem nG(hg:NoG P){call:aS}(hc:aR P call)(lf:aq):∀(cs:ab gy)(μ:Mu)(s s':St)(w:dh)(f f':HF)(a:Act)(x:HX),R w0 μ s w->AR μ f a->rH P call lf cs s f=ae (x,s',f')->SOK s'->wpl P cs (Post w0 μ x s' f') a w:=by
 intro cs;induction cs with
 |nil=>intro μ s s' w f f' a x h ha hr _;cases hr;exact⟨rfl,μ,gk _,h,ha⟩
 |cons c cs ih=>
  intro μ s s' w f f' a x h ha hr ok;simp only[rH] at hr;split at hr
  ·rename_i s1 f1 h1;refine wp_mono (jA hg hc lf c w0 μ s s1 w f f1 a .normal h ha h1 (gd (xO hc lf cs _ _ _ _ _ hr) ok)) λe a' w' ⟨he,μ',k1,k2,k3⟩=>?_;subst he;exact cI (λ_ _ _ hq=>Post.le k1 hq) _ _ _ (ih μ' s1 s' w' f1 f' a' x k2 k3 hr ok)
  ·rename_i hne;refine wp_mono (jA hg hc lf c w0 μ s s' w f f' a x h ha hr ok) λe a' w' hq=>?_;have he:=hq.1;cases x with|normal=>exact cp hr (hne s' f')|exit i=>subst he;exact hq|ret=>subst he;exact hq
end
def Ex(P:cq)(n0:aq)(cs:ab gy)(s:St)(f:HF)(Q:HX->St->HF->Prop):Prop:=∀(w0:Base)(μ:Mu)(w:dh)(a:Act),R w0 μ s w->AR μ f a->wpl P cs (λe a' w'=>∃x s' f',e=x.ex/\Q x s' f'/\∃ν,leN n0 μ ν/\R w0 ν s' w'/\AR ν f' a') a w
theorem Ex.nil{n0:aq}{s:St}{f:HF}{Q:HX->St->HF->Prop}(h:Q .normal s f):Ex P n0 [] s f Q:=λ_ μ _ _ hR hA=>⟨.normal,s,f,rfl,h,μ,leN.refl _ _,hR,hA⟩
theorem Ex.mono{n0:aq}{cs:ab gy}{s:St}{f:HF}{Q Q':HX->St->HF->Prop}(h:Ex P n0 cs s f Q)(hq:∀ x s f,Q x s f->Q' x s f):Ex P n0 cs s f Q':=λw0 μ w a hR hA=>cI (λ_ _ _ ⟨x,s',f',e1,e2,e3⟩=>⟨x,s',f',e1,hq _ _ _ e2,e3⟩) _ _ _ (h w0 μ w a hR hA)
def goOn(P:cq)(n0:aq)(ds:ab gy)(Q:HX->St->HF->Prop):HX->St->HF->Prop
 |.normal,s,f=>Ex P n0 ds s f Q|x,s,f=>Q x s f
theorem Ex.append{n0:aq}{cs ds:ab gy}{s:St}{f:HF}{Q Q':HX->St->HF->Prop}(h:Ex P n0 cs s f Q')(hq:∀ x s f,Q' x s f->goOn P n0 ds Q x s f):Ex P n0 (cs++ds) s f Q:=λw0 μ w a hR hA=>by refine uI ds cs a w (cI (λe a' w' ⟨x,s',f',e1,e2,ν,e3,e4,e5⟩=>?_) _ _ _ (h w0 μ w a hR hA));subst e1;have:=hq x s' f' e2;cases x with|normal=>exact cI (λe a w ⟨x,s',f',e1,e2,ν',e6,e7⟩=>⟨x,s',f',e1,e2,ν',e3.trans e6,e7⟩) _ _ _ (this w0 ν w' a' e4 e5)|exit i=>exact⟨_,s',f',rfl,this,ν,e3,e4,e5⟩|ret=>exact⟨_,s',f',rfl,this,ν,e3,e4,e5⟩
def aW(P:cq)(call:aS)(lf:aq)(cs:ab gy)(s:St)(f:HF)(π:ab cz)(ω:ab (ab af))(C:Cut):bp (HX×ab (aq×gh)×ab (aq×af)×ab Prop):=match rH P call lf cs (s.ask π ω) f with
 |some (x,s1,f1)=>match cut C s1 f1 with
  |some (os,sl,ps)=>bif bx s1.ng s.ng&&bx f1.n f.n then ae (x,os,sl,s1.pc++ps) else av
  |none=>av
 |none=>av
theorem CB{w0:Base}{μ:Mu}{s:St}{w:dh}{π:ab cz}{ω:ab (ab af)}(h:R w0 μ s w):R w0 μ (s.ask π ω) w:=h.same rfl rfl rfl
theorem Ex.run(hg:NoG P){call:aS}(hc:aR P call){lf:aq}{cs:ab gy}{s:St}{f:HF}{π:ab cz}{ω:ab (ab af)}{C:Cut}{x:HX}{os:ab (aq×gh)}{sl:ab (aq×af)}{ps:ab Prop}(hr:aW P call lf cs s f π ω C=ae (x,os,sl,ps))(hp:allP ps):Ex P C.n0 cs s f (λx' s' f'=>x'=x/\s'=aH os C.next s.ng/\f'=mkF sl f.n):=by
 intro w0 μ w a hR hA;unfold aW at hr;split at hr
 ·rename_i x1 s1 f1 hl;split at hr
  ·rename_i os' sl' ps' hcut;obtain⟨hb,hr⟩:=aD hr;cases hr;simp only[bu,aI] at hb;obtain⟨h1,h2⟩:=aV hp;refine cI (λe a' w' ⟨he,μ',k1,k2,k3⟩=>?_) _ _ _ (nG hg hc lf cs μ _ s1 w f f1 a x (CB hR) hA hl h1);obtain⟨ν,m1,m2,m3⟩:=HT k2 k3 hcut h2;exact⟨x,_,_,he,⟨rfl,by rw[hb.1],by rw[hb.2]⟩,ν,(k1.leN _).trans m1,m2,m3⟩
  ·cases hr
 ·cases hr
theorem Ex.stepN(hg:NoG P){call:aS}(hc:aR P call){lf:aq}(k:aq)(n ng next:aq){n0:aq}{l:ab gy}{s:St}{f:HF}{Q:HX->St->HF->Prop}{π:ab cz}{ω:ab (ab af)}{C:Cut}{x:HX}{os:ab (aq×gh)}{sl:ab (aq×af)}{ps:ab Prop}(hr:aW P call lf (l.take k) s f π ω C=ae (x,os,sl,ps))(hn:(bx C.n0 n0&&bx C.next next&&bx s.ng ng&&bx f.n n)=au)(hp:allP ps)(h:goOn P n0 (l.drop k) Q x (aH os next ng) (mkF sl n)):Ex P n0 l s f Q:=by simp only[bu,aI] at hn;obtain⟨⟨⟨rfl,rfl⟩,rfl⟩,rfl⟩:=hn;rw[<-gu k l];refine(Ex.run hg hc hr hp).append λx' s' f' ⟨e1,e2,e3⟩=>?_;subst e1;subst e2;subst e3;exact h
theorem Ex.step(hg:NoG P){call:aS}(hc:aR P call){lf:aq}(k:aq){n0:aq}{l:ab gy}{s:St}{f:HF}{Q:HX->St->HF->Prop}{π:ab cz}{ω:ab (ab af)}{C:Cut}{x:HX}{os:ab (aq×gh)}{sl:ab (aq×af)}{ps:ab Prop}(hr:aW P call lf (l.take k) s f π ω C=ae (x,os,sl,ps))(hn:C.n0=n0)(hp:allP ps)(h:goOn P n0 (l.drop k) Q x (aH os C.next s.ng) (mkF sl f.n)):Ex P n0 l s f Q:=by subst hn;rw[<-gu k l];refine(Ex.run hg hc hr hp).append λx' s' f' ⟨e1,e2,e3⟩=>?_;subst e1;subst e2;subst e3;exact h
theorem Ex.condT{n0:aq}{c:im}{x y:gy}{ds:ab gy}{s:St}{f:HF}{Q:HX->St->HF->Prop}{b:cz}(hev:f.ev s c=ae (.bool b))(hb:b=au)(h:Ex P n0 (aU x++ds) s f Q):Ex P n0 (.cond c x y::ds) s f Q:=by subst hb;intro w0 μ w a hR hA;show(Code.cond c x y).wp P _ a w;have hv:=eC hR hA _ _ hev;refine wp_cond_true (by generalize a.eval c=vc at hv ⊢;cases hv;rfl) (d7 x _ _ _ ?_);have:=iV _ _ _ _ (h w0 μ w a hR hA);exact this
theorem Ex.condF{n0:aq}{c:im}{x y:gy}{ds:ab gy}{s:St}{f:HF}{Q:HX->St->HF->Prop}{b:cz}(hev:f.ev s c=ae (.bool b))(hb:b=aa)(h:Ex P n0 (aU y++ds) s f Q):Ex P n0 (.cond c x y::ds) s f Q:=by subst hb;intro w0 μ w a hR hA;show(Code.cond c x y).wp P _ a w;have hv:=eC hR hA _ _ hev;refine wp_cond_false (by generalize a.eval c=vc at hv ⊢;cases hv;rfl) (d7 y _ _ _ ?_);have:=iV _ _ _ _ (h w0 μ w a hR hA);exact this
def rndQ(P:cq)(n0 id:aq)(ds:ab gy)(Q:HX->St->HF->Prop)(I:aq->St->HF->Prop)(m:aq):HX->St->HF->Prop
 |.normal,s,f=>∃m',m'<m/\I m' s f|.exit i,s,f=>if i=id then Ex P n0 ds s f Q else Q (.exit i) s f
 |.ret,s,f=>Q .ret s f
theorem rndQ.out{n0 id:aq}{ds:ab gy}{Q:HX->St->HF->Prop}{I:aq->St->HF->Prop}{m:aq}{s:St}{f:HF}(h:Ex P n0 ds s f Q):rndQ P n0 id ds Q I m (.exit id) s f:=by show(if id=id then _ else _);rw[fc (rfl:id=id)];exact h
theorem goOn.out{n0 id:aq}{ds l:ab gy}{Q:HX->St->HF->Prop}{I:aq->St->HF->Prop}{m:aq}{s:St}{f:HF}(h:Ex P n0 ds s f Q):goOn P n0 l (rndQ P n0 id ds Q I m) (.exit id) s f:=rndQ.out (I:=I) (m:=m) h
theorem Ex.loop{n0:aq}{id:aq}{c:gy}{ds:ab gy}{Q:HX->St->HF->Prop}(I:aq->St->HF->Prop)(step:∀ m s f,I m s f->Ex P n0 (aU c) s f (rndQ P n0 id ds Q I m)){m:aq}{s:St}{f:HF}(h0:I m s f):Ex P n0 (.block id (.loop c)::ds) s f Q:=by
 intro w0 μ w a hR hA;show(Code.block id (.loop c)).wp P _ a w;refine wp_block ?_;have key:∀(N m:aq)(s:St)(f:HF)(μ':Mu)(w:dh)(a:Act),m<N->I m s f->leN n0 μ μ'->R w0 μ' s w->AR μ' f a->Code.rounds P c (λe=>og id (Exit.then (wpl P ds λe a' w'=>∃x s' f',e=x.ex/\Q x s' f'/\∃ν,leN n0 μ ν/\R w0 ν s' w'/\AR ν f' a') λe a' w'=>∃x s' f',e=x.ex/\Q x s' f'/\∃ν,leN n0 μ ν/\R w0 ν s' w'/\AR ν f' a') e) N a w:=by
  intro N;induction N with
  |zero=>intro m s f μ' w a hm;omega
  |succ N ih=>
   intro m s f μ' w a hm hI hle hR hA;rw[rounds_succ];refine wp_mono (d7 c _ _ _ (step m s f hI w0 μ' w a hR hA)) λe a' w' ⟨x,s',f',e1,e2,ν,e3,e4,e5⟩=>?_;subst e1;cases x with
   |normal=>obtain⟨m',h1,h2⟩:=e2;exact ih m' s' f' ν w' a' qO h2 (hle.trans e3) e4 e5
   |exit i=>
    have e2:if i=id then Ex P n0 ds s' f' Q else Q (.exit i) s' f':=e2
    show og id _ (.exit i) a' w';simp only[og];by_cases hi:i=id
    ·rw[fc hi] at e2 ⊢;exact cI (λe a w ⟨x,s',f',e1,e2,ν',e6,e7⟩=>⟨x,s',f',e1,e2,ν',(hle.trans e3).trans e6,e7⟩) _ _ _ (e2 w0 ν w' a' e4 e5)
    ·rw[eh hi] at e2 ⊢;exact⟨.exit i,s',f',rfl,e2,ν,hle.trans e3,e4,e5⟩
   |ret=>exact⟨.ret,s',f',rfl,e2,ν,hle.trans e3,e4,e5⟩
 exact wp_loop_rounds (m+1) (key (m+1) m s f μ w a qO h0 (leN.refl _ _) hR hA)
def FnEx(P:cq)(g:ia)(args:ab af)(s:St)(Q:af->St->Prop):Prop:=∀(w0:Base)(μ:Mu)(w:dh)(args':ab af),R w0 μ s w->VRs μ args args'->Calls P g ⟨args'⟩ w λe w'=>∃v s' v' ν,Q v s'/\e=.returned v'/\μ.le ν/\R w0 ν s' w'/\VR ν v v'
def FinQ(P:cq)(fn:rl)(n0:aq)(Q:af->St->Prop)(x:HX)(s:St)(f:HF):Prop:=(x=.normal\/x=.ret)/\∀(w0:Base)(μ:Mu)(w:dh)(a:Act),R w0 μ s w->AR μ f a->a.defers=[]/\∃v s' v' ν,Q v s'/\(results fn a.tmps).run P w=.ok v' w/\leN n0 μ ν/\R w0 ν s' w/\VR ν v v'
def vS(P:cq)(fn:rl)(s:St)(f:HF)(ω:ab (ab af))(C:Cut):bp (af×ab (aq×gh)×ab Prop):=bif C.okB s&&f.ds.isEmpty then
  match pD P f fn.results.toList (s.ask [] ω) with
  |some (r,s1)=>match iL s1 C.ices with
   |some (s2,p1)=>match gO C.ρ s2 C.objs,dV C.ρ 6 (vU r) with
    |some (os,p2),ae (v,p3)=>ae (v,os,s1.pc++(p1++p2++p3))|_,_=>av
   |none=>av
  |none=>av
 else av
theorem FinQ.mk'{fn:rl}{s:St}{f:HF}{ω:ab (ab af)}{C:Cut}{v:af}{os:ab (aq×gh)}{ps:ab Prop}{n0:aq}{Q:af->St->Prop}{x:HX}(hx:x=.normal\/x=.ret)(hr:vS P fn s f ω C=ae (v,os,ps))(hn:C.n0=n0)(hp:allP ps)(hq:Q v (aH os C.next s.ng)):FinQ P fn n0 Q x s f:=by
 subst hn;refine⟨hx,λw0 μ w a hR hA=>?_⟩;unfold vS at hr;obtain⟨hb,hr⟩:=aD hr;simp only[bu] at hb;split at hr
 ·rename_i r s1 hres;split at hr
  ·rename_i s2 p1 hi;split at hr
   ·rename_i os' p2 v' p3 ho hv;cases hr;obtain⟨h1,h4⟩:=aV hp;obtain⟨h2,h3⟩:=aV h4;obtain⟨h2,h5⟩:=aV h2;have hlike:=gJ _ _ _ _ hres;obtain⟨u,k1,k2⟩:=gN (CB hR) hA hres h1;have hR1:R w0 μ s1 w:=(CB hR).like hlike;have hok:C.okB s1=true:=by have:=hb.1;unfold Cut.okB at this ⊢;rw[hlike.ng];exact this
    obtain⟨ν1,m1,m2,m3,m4,m5,m6⟩:=uF hok hR1 hi h2;have hcut:=FW hok hR1 m2 m3 m4 m5 ho h5;rw[hlike.ng] at hcut;refine⟨?_,v,_,u,_,hq,k1,m6,hcut,?_⟩
    ·have he:f.ds=[]:=by simpa using hb.2
     have:=hA.ds;rw[he] at this;generalize a.defers=l at this ⊢;cases this;rfl
    ·exact cO m4 (λ_ _ h=>h) _ _ _ _ _ hv h3 (k2.mono m1)
   ·cases hr
  ·cases hr
 ·cases hr
theorem FnEx.body{g:ia}{fn:rl}{c:gy}{args:ab af}{s:St}{t:Tr af}{Q:af->St->Prop}(hf:P.funcs[g]? =ae fn)(hb:fn.body=ae c)(ht:iP 0 args .lf=ae t)(h:Ex P s.next (aU c) s ⟨t,args.length+(fn.ntmps-args.length),[],undef⟩ (FinQ P fn s.next Q)):FnEx P g args s Q:=by intro w0 μ w args' hR hV;refine calls_of_wp_defers hf hb (d7 c _ _ _ (cI (λe a w ⟨x,s',f',e1,e2,ν,e3,e4,e5⟩=>?_) _ _ _ (h w0 μ w _ hR (rT hV ht fn.ntmps))));obtain⟨hx,hq⟩:=e2;obtain⟨hd,v,s'',v',ν',k1,k2,k3,k4,k5⟩:=hq w0 ν w a e4 e5;have hle:μ.le ν':=(e3.trans k3).le hR.fresh;subst e1;rcases hx with rfl|rfl<;>(show Leaves P fn a.tmps _ a.defers .returning w;rw[hd];exact⟨v',k2,v,s'',v',ν',k1,rfl,hle,k4,k5⟩)
def bX(args:ab af)(n:aq):HF:=match iP 0 args .lf with|some t=>⟨t,args.length+(n-args.length),[],undef⟩|none=>⟨.lf,0,[],undef⟩
theorem FnEx.enter{g:ia}{fn:rl}{c:gy}{args:ab af}{s:St}{Q:af->St->Prop}{n0:aq}(hf:P.funcs[g]? =ae fn)(hb:fn.body=ae c)(ht:(iP 0 args .lf).isSome=au)(hn:s.next=n0)(h:Ex P n0 (aU c) s (bX args fn.ntmps) (FinQ P fn n0 Q)):FnEx P g args s Q:=by subst hn;obtain⟨t,ht⟩:=js.1 ht;unfold bX at h;rw[ht] at h;exact FnEx.body hf hb ht h
theorem FnEx.mono{g:ia}{args:ab af}{s:St}{Q Q':af->St->Prop}(h:FnEx P g args s Q)(hq:∀ v s,Q v s->Q' v s):FnEx P g args s Q':=λw0 μ w args' hR hV=>(h w0 μ w args' hR hV).mono λ_ _ ⟨v,s',v',ν,e1,e2⟩=>⟨v,s',v',ν,hq _ _ e1,e2⟩
end
def idq:aq->af->cz
 |0,v=>idf 0 v|d+1,.agg cs=>cs.toList.all (idq d)|d+1,.tuple cs=>cs.toList.all (idq d)|_+1,.func _ ⟨[]⟩ ⟨[]⟩=>au|_+1,v=>idf 0 v
section
variable{P:cq}{w0:Base}{μ ν:Mu}{s:St}{w:dh}
theorem zB(hfz:∀ b O,μ.fz b=ae O->ν.fz b=ae O):∀(d:aq)(v x:af),idq d v=au->VR μ v x->VR ν v x:=by
 have leaf:∀(v x:af),idf 0 v=au->VR μ v x->VR ν v x:=λv x h k=>(FR.mono hfz (zC h k)).vr;intro d;induction d with
 |zero=>exact leaf
 |succ d ih=>
  have hs:∀(l xs:ab af),l.all (idq d)=au->VRs μ l xs->VRs ν l xs:=by intro l;induction l with|nil=>intro xs _ h;cases h;exact .nil|cons a l ihl=>intro xs hf h;simp only[mv,bu] at hf;cases h with|cons h t=>exact .cons (ih _ _ hf.1 h) (ihl _ hf.2 t)
  intro v x hi hv;cases v with
  |agg cs=>cases hv with|agg h=>exact .agg (hs _ _ hi h)
  |tuple cs=>cases hv with|tuple h=>exact .tuple (hs _ _ hi h)
  |func fn f c=>
   obtain⟨f⟩:=f;obtain⟨c⟩:=c;cases f with
   |nil=>cases c with
    |nil=>cases hv with|func a b=>cases a;cases b;exact .func .nil .nil
    |cons x l=>exact leaf _ _ hi hv
   |cons x l=>exact leaf _ _ hi hv
  |_=>exact leaf _ _ hi hv
theorem N9(hfz:∀ b O,μ.fz b=ae O->ν.fz b=ae O){d:aq}{l xs:ab af}(h:l.all (idq d)=au)(k:VRs μ l xs):VRs ν l xs:=by induction l generalizing xs with|nil=>cases k;exact .nil|cons a l ih=>simp only[mv,bu] at h;cases k with|cons a b=>exact .cons (zB hfz d _ _ h.1 a) (ih h.2 b)
def Base.only(w:dh)(fz:aq->bp Obj):Base where
 ok:=λw'=>Below w.heap.size w w'
 wr:=λg=>w.heap.size<=g
 lk:=λ_ _=>False
 fok:=λg=>(∃O,fz g=ae O)\/w.heap.size<=g
 wfok:=λ_ h=>.inr h
 garbage:=λa b h k=>h.trans (k.mono h.size)
 upd:=λa b g h hg k=>⟨k.os.trans h.os,k.tape.trans h.tape,k.output.trans h.output,ej h.size (lu k.size.symm),λi hi=>(k.block i qO).trans (h.block i hi)⟩
 fresh:=λa g h hg=>ej h.size hg
 lapart:=λ_ _ h=>h.elim
 lold:=λ_ _ _ _ h=>h.elim
 lkok:=λ_ _ _ _ _ _ h=>h.elim
def St0:St:=aH [] 0 0
theorem R8(h:R w0 μ s w):R (Base.only w μ.fz) ⟨λ_=>av,μ.fz⟩ St0 w where
 below:=Below.refl _ _
 fresh:=λ_ _=>rfl
 obj:=λi o hi _=>by rw[show St0.h=.lf from rfl,Tr.get_lf] at hi;cases hi
 dis:=λi j o o' p q _ hi=>by rw[show St0.h=.lf from rfl,Tr.get_lf] at hi;cases hi
 fz:=h.fz
 fzd:=λb O i o p _ hi=>by rw[show St0.h=.lf from rfl,Tr.get_lf] at hi;cases hi
 fzo:=λb O hb=>.inl ⟨O,hb⟩
 gl:=λg hg=>by cases hg
theorem LI(h:R w0 μ s w){s':St}{w':dh}(h':R (Base.only w μ.fz) ν s' w')(hfz:∀ b O,μ.fz b=ae O->ν.fz b=ae O):μ.le ⟨μ.pl,ν.fz⟩/\R w0 ⟨μ.pl,ν.fz⟩ s w':=by
 have hb:Below w.heap.size w w':=h'.below;have hle:μ.le ⟨μ.pl,ν.fz⟩:=⟨λi p hp=>⟨p,hp,p.sim_refl⟩,hfz⟩;have hg:=h.garbage hb;refine⟨hle,hg.below,hg.fresh,λi o hi hd=>?_,hg.dis,h'.fz,λb O i o p hbz hi hp ho=>?_,λb O hbz=>?_,hg.gl⟩
 ·obtain⟨p,k1,k2,k3⟩:=hg.obj i o hi hd;exact⟨p,k1,k2.mono hle,k3⟩
 ·have hlt:=h.own_lt hi hp ho;rcases h'.fzo b O hbz with⟨O',hO⟩|hge
  ·exact h.fzd b O' i o p hO hi hp ho
  ·have:w.heap.size<=b:=hge;omega
 ·rcases h'.fzo b O hbz with⟨O',hO⟩|hge
  ·exact h.fzo b O' hO
  ·exact w0.wfok b (w0.fresh w b h.below hge)
theorem FnEx.frame{g:ia}{args:ab af}{v:af}{d d':aq}(h:FnEx P g args St0 (λu _=>u=v))(ha:args.all (idq d)=au)(hv:idq d' v=au)(s:St):FnEx P g args s (λu t=>u=v/\t=s):=by intro w0 μ w args' hR hV;refine(h (Base.only w μ.fz) _ w args' (R8 hR) (N9 (μ:=μ) (ν:=⟨λ_=>av,μ.fz⟩) (λ_ _ h=>h) ha hV)).mono λe w' ⟨u,s',v',ν,k1,k2,k3,k4,k5⟩=>?_;subst k1;obtain⟨m1,m2⟩:=LI hR k4 k3.fz;exact⟨u,s,v',_,⟨rfl,rfl⟩,k2,m1,m2,zB (μ:=ν) (ν:=⟨μ.pl,ν.fz⟩) (λ_ _ h=>h) d' _ _ hv k5⟩
abbrev Rel:=ab af->af->Prop
def AF(l:ab (ia×Rel)):aS:=λg args s=>match hJ l g with
 |some rel=>bif args.all (idq 3) then match sJ s with
   |some ([v],s1)=>bif idq 3 v then(dK (rel args v) s1).map λs2=>(v,s2) else av
   |_=>av
  else av
 |none=>av
def T7(P:cq)(l:ab (ia×Rel)):Prop:=∀ g rel,(g,rel)∈l->∀ args v,rel args v->args.all (idq 3)=au->idq 3 v=au->FnEx P g args St0 (λu _=>u=v)
theorem uO{l:ab (ia×Rel)}(h:T7 P l):aR P (AF l):=by
 intro s s' g args v hc;unfold AF at hc;split at hc
 ·rename_i rel hrel;obtain⟨ha,hc⟩:=aD hc;split at hc
  ·rename_i v1 s1 hp;obtain⟨hv,hc⟩:=aD hc;simp only[aj,bn] at hc;obtain⟨s2,hn,rfl,rfl⟩:=hc;obtain⟨k1,k2⟩:=aY hn;have hl:=(cE hp).trans k1;refine⟨hl.sub,λok w0 μ w args' hR hV=>?_⟩;refine((h g rel (fD hrel) args v1 (k2 ok) ha hv).frame ha hv s w0 μ w args' hR hV).mono λe w' ⟨u,t,v',ν,k3,k4,k5,k6,k7⟩=>?_;obtain⟨rfl,rfl⟩:=k3;exact⟨v',ν,k4,k5,k6.like hl,k7⟩
  ·cases hc
 ·cases hc
def orK(a b:aS):aS:=λg args s=>match a g args s with|some r=>ae r|none=>b g args s
theorem iI{a b:aS}(h:aR P a)(k:aR P b):aR P (orK a b):=by
 intro s s' g args v hc;unfold orK at hc;split at hc
 ·rename_i r hr;cases hc;exact h _ _ _ _ _ hr
 ·exact k _ _ _ _ _ hc
end
def noG(P:cq):Bool:=P.funcs.toList.all λfn=>!fn.body.isSome||!(fn.name== "runtime.NumGoroutine")
theorem SD{P:cq}(h:noG P=au):NoG P:=by
 intro g fn hf hb;unfold noG at h;rw[fq] at h;have:=h fn (by
  have:=Array.mem_of_getElem? hf;simpa using this)
 rw[hb] at this;simpa using this
section
variable{μ:Mu}
end
section
variable{P:cq}{w0:Base}{μ:Mu}{s:St}{w:dh}
def aG0(s s2:St):Prop:=∀(w0:Base)(μ:Mu)(w:dh),R w0 μ s w->∃ν,μ.le ν/\R w0 ν s2 w
theorem Ex.turn{n0:aq}{cs:ab gy}{s s2:St}{f:HF}{Q:HX->St->HF->Prop}(ht:aG0 s s2)(h:Ex P n0 cs s2 f Q):Ex P n0 cs s f Q:=λw0 μ w a hR hA=>by obtain⟨ν,k1,k2⟩:=ht w0 μ w hR;exact cI (λe a' w' ⟨x,s',f',e1,e2,ν',e3,e4⟩=>⟨x,s',f',e1,e2,ν',(k1.leN n0).trans e3,e4⟩) _ _ _ (h w0 ν w a k2 (hA.mono k1))
end
inductive Kd where
 |b
 |i (k:IntKind)
 |s (t:ct)
def HI(P:cq)(rc:ct->bp (ab Kd)):aq->ab Field->bp (ab Kd)
 |_,[]=>ae []
 |o,f::fs=>bif bx f.offset o then match rc f.type with
   |some l=>bif bx (P.cellsOf f.type) l.length then(HI P rc (o+l.length) fs).map (l++·) else av
   |none=>av
  else av
def lP(P:cq):aq->ct->bp (ab Kd)
 |0,_=>av
 |d+1,t=>match P.underlying t with
  |some .bool=>ae [.b]|some (.int k)=>ae [.i k]|some (.slice _)=>ae [.s t]
  |some (.struct fs)=>match HI P (lP P d) 0 fs.toList with
   |some l=>bif bx (P.cellsOf t) l.length then ae l else av
   |none=>av
  |some (.array n e)=>match lP P d e with
   |some l=>bif bx (P.cellsOf e) l.length&&bx (P.cellsOf t) (n*l.length)&&em 0 l.length then ae (fp n l).flatten else av
   |none=>av
  |_=>av
section
variable{H:Type}{enc:ct×af->H}{P:cq}{W:dh}{base:aq}{sp:aq->cz}{held:cz}
def xD(P:cq)(t:ct)(d:DataW H):Prop:=∀ n∈d.weights P t,n<=reachBytes
def zV(enc:ct×af->H)(P:cq)(W:dh)(base:aq)(sp:aq->cz)(held:cz)(k:Kd)(u:af):Prop:=match k with|.b=>∃c,u=.bool c|.i k=>∃n,u=.int k n/\k.min<=n/\n<=k.max|.s t=>∃fuel d ps,kz enc P W base sp held fuel t [u]=ae (d,ps)/\xD P t d
theorem nE{α β:Type}{f:α->bp β}:∀{l:ab α}{r:ab β},l.mapM f=ae r->r.length=l.length/\∀(i:aq)(x:α),l[i]? =ae x->∃y,r[i]? =ae y/\f x=ae y:=by intro l;induction l with|nil=>intro r h;simp at h;subst h;exact⟨rfl,λi x hi=>by simp at hi⟩|cons a l ih=>intro r h;simp only[qk,sf,lq] at h;obtain⟨y,hy,r',hr',h⟩:=h;cases h;obtain⟨h1,h2⟩:=ih hr';refine⟨by simp[h1],λi x hi=>?_⟩;cases i with|zero=>simp at hi;subst hi;exact⟨y,rfl,hy⟩|succ i=>simpa using h2 i x (by simpa using hi)
def KdOK(enc:ct×af->H)(P:cq)(W:dh)(base:aq)(sp:aq->cz)(held:cz)(kd:ab Kd)(cs:ab af):Prop:=cs.length=kd.length/\∀(j:aq)(k:Kd)(u:af),kd[j]? =ae k->cs[j]? =ae u->zV enc P W base sp held k u
theorem KdOK.append{a b:ab Kd}{x y:ab af}(h1:KdOK enc P W base sp held a x)(h2:KdOK enc P W base sp held b y):KdOK enc P W base sp held (a++b) (x++y):=by
 refine⟨by simp[h1.1,h2.1],λj k u hk hu=>?_⟩;have:=h1.1;by_cases hj:j<a.length
 ·rw[dt hj] at hk;rw[dt qO] at hu;exact h1.2 j k u hk hu
 ·rw[eq qO] at hk;rw[eq qO,this] at hu;exact h2.2 _ k u hk hu
theorem A8{ts:ab ct}{ds:ab (DataW H)}{j:aq}{t:ct}{d:DataW H}(ht:ts[j]? =ae t)(hd:ds[j]? =ae d){n:aq}(hn:n∈d.weights P t):n∈tm P ts ds:=by induction ts generalizing ds j with|nil=>simp at ht|cons t0 ts ih=>cases ds with|nil=>simp at hd|cons d0 ds=>simp only[tm,eu];cases j with|zero=>simp at ht hd;subst ht;subst hd;exact .inl hn|succ j=>exact .inr (ih (by simpa using ht) (by simpa using hd))
theorem FG{e:ct}{ds:ab (DataW H)}{j:aq}{d:DataW H}(hd:ds[j]? =ae d){n:aq}(hn:n∈d.weights P e):n∈DataW.weightsAll P e ds:=by induction ds generalizing j with|nil=>simp at hd|cons d0 ds ih=>simp only[DataW.weightsAll,eu];cases j with|zero=>simp at hd;subst hd;exact .inl hn|succ j=>exact .inr (ih (by simpa using hd))
theorem N2{D fuel:aq}{cs:ab af}(ih:∀ (t:ct) (cs:ab af) (x:DataW H×ab pq) (kd:ab Kd),lP P D t=ae kd->kz enc P W base sp held fuel t cs=ae x->xD P t x.1->KdOK enc P W base sp held kd cs):∀(fs:ab Field)(o:aq)(l:ab Kd)(r:ab (DataW H×ab pq)),HI P (lP P D) o fs=ae l->fs.mapM (λf=>kz enc P W base sp held fuel f.type ((cs.drop f.offset).take (P.cellsOf f.type)))=ae r->(∀(i:aq)(f:Field)(y:DataW H×ab pq),fs[i]? =ae f->r[i]? =ae y->xD P f.type y.1)->KdOK enc P W base sp held l ((cs.drop o).take l.length):=by
 intro fs;induction fs with
 |nil=>intro o l r h _ _;cases h;exact⟨qS,λj k u hk=>by simp at hk⟩
 |cons f fs ihf=>
  intro o l r h hr hs;simp only[HI] at h;have h2:=aD h;clear h;obtain⟨ho,h⟩:=h2;rw[aI] at ho;subst ho;split at h
  ·rename_i lf hlf;have h2:=aD h;clear h;obtain⟨hc,h⟩:=h2;rw[aI] at hc;simp only[aj] at h;obtain⟨l',hl',rfl⟩:=h;simp only[qk,sf,lq] at hr;obtain⟨y,hy,r',hr',h⟩:=hr;cases h;have k1:=ih f.type _ y lf hlf hy (hs 0 f y rfl rfl);have k2:=ihf _ l' r' hl' hr' (λi g z hg hz=>hs (i+1) g z (by simpa using hg) (by simpa using hz));rw[hc] at k1;have e1:(cs.drop f.offset).take (lf++l').length=(cs.drop f.offset).take lf.length++(cs.drop (f.offset+lf.length)).take l'.length:=by rw[cg,pm,jo]
   rw[e1];exact k1.append k2
  ·cases h
theorem Q5{z:aq}{kd:ab Kd}(hz:kd.length=z){cs:ab af}:∀(m o:aq),(∀ i,i<m->KdOK enc P W base sp held kd ((cs.drop (o+i*z)).take z))->KdOK enc P W base sp held (fp m kd).flatten ((cs.drop o).take (m*z)):=by
 intro m;induction m with
 |zero=>intro o _;simp;exact⟨rfl,λj k u hk=>by simp at hk⟩
 |succ m ih=>
  intro o h;have k1:=h 0 qO;rw[lx,pe] at k1;have k2:=ih (o+z) (λi hi=>by
   have:=h (i+1) qO
   rwa [show o+(i+1)*z=o+z+i*z by rw[jz];omega] at this)
  have e1:(cs.drop o).take ((m+1)*z)=(cs.drop o).take z++(cs.drop (o+z)).take (m*z):=by rw[show(m+1)*z=z+m*z by rw[jz];omega,pm,jo]
  rw[e1,List.replicate_succ,List.flatten_cons];exact k1.append k2
theorem oB:∀(D fuel:aq)(t:ct)(cs:ab af)(x:DataW H×ab pq)(kd:ab Kd),lP P D t=ae kd->kz enc P W base sp held fuel t cs=ae x->xD P t x.1->KdOK enc P W base sp held kd cs:=by
 intro D;induction D with
 |zero=>intro fuel t cs x kd h;cases h
 |succ D ih=>
  intro fuel t cs x kd hk ht hs;cases fuel with|zero=>simp[kz] at ht|succ fuel=>
  have ht0:=ht;simp only[lP] at hk;unfold kz at ht;split at hk
  ·rename_i hu;cases hk;simp only[hu] at ht;split at ht<;>simp_all;exact⟨rfl,λj k u hk hu=>by
    cases j with
    |zero=>simp at hk hu;subst hk;subst hu;exact⟨_,rfl⟩
    |succ j=>simp at hk⟩
  ·rename_i hu;cases hk;simp only[hu] at ht;split at ht<;>simp_all;obtain⟨⟨e1,hwf⟩,_⟩:=ht;subst_vars;simp only[Lit.wf,bu,decide_eq_true_eq] at hwf;exact⟨rfl,λj k u hk hu=>by
    cases j with
    |zero=>simp at hk hu;subst hk;subst hu;exact⟨_,rfl,hwf⟩
    |succ j=>simp at hk⟩
  ·rename_i e hu;cases hk;have hlen:∃u,cs=[u]:=by simp only[hu] at ht;split at ht<;>simp_all
   obtain⟨u,rfl⟩:=hlen;exact⟨rfl,λj k u' hk hu'=>by
    cases j with
    |zero=>simp at hk hu';subst hk;subst hu';exact⟨_,_,_,ht0,hs⟩
    |succ j=>simp at hk⟩
  ·rename_i fs hu;split at hk
   ·rename_i l hl;have hk2:=aD hk;clear hk;obtain⟨hc,hk⟩:=hk2;rw[aI] at hc;cases hk;simp only[hu] at ht;split at ht
    ·rename_i hlen;simp only[aj] at ht;obtain⟨r,hr,rfl⟩:=ht;obtain⟨hrl,hrg⟩:=nE hr;have:=N2 (ih fuel) fs.toList 0 kd r hl hr (λi f y hf hy n hn=>hs n (by
      simp only[ua,hu];exact A8 (j:=i) (t:=f.type) (d:=y.1) (by simp[hf]) (by simp[hy]) hn))
     rw[lH,gc qO] at this;exact this
    ·cases ht
   ·cases hk
  ·rename_i n e hu;split at hk
   ·rename_i l hl;have hk2:=aD hk;clear hk;obtain⟨hc,hk⟩:=hk2;simp only[bu,aI] at hc;obtain⟨⟨hc1,hc2⟩,hc3⟩:=hc;cases hk;simp only[hu] at ht;split at ht
    ·rename_i hlen;simp only[aj] at ht;obtain⟨r,hr,rfl⟩:=ht;obtain⟨hrl,hrg⟩:=nE hr;rw[hc1] at hrg;have:=Q5 (enc:=enc) (P:=P) (W:=W) (base:=base) (sp:=sp) (held:=held) (z:=l.length) (kd:=l) rfl (cs:=cs) n 0 (λi hi=>by
      obtain⟨y,hy1,hy2⟩:=hrg i i (by simp[hi]);rw[fu];exact ih fuel e _ y l hl hy2 (λm hm=>hs m (by
       simp only[ua,hu];exact FG (j:=i) (d:=y.1) (by simp[hy1]) hm)))
     rw[lH,gc qO] at this;exact this
    ·cases ht
   ·cases hk
  ·cases hk
theorem PD(a:Addr)(m k:aq):(a.add m).add k=a.add (m+k):=by
 unfold Addr.add;by_cases hk:k=0
 ·subst hk;simp
 ·by_cases hm:m=0
  ·subst hm;simp[hk]
  ·simp[hk,hm,Nat.add_assoc]
theorem LF{W:dh}{a:Addr}{u:af}(h:W.cell? a=ae u):a=⟨a.block,a.off,av⟩/\∃cur e fr,W.heap[a.block]? =ae (.cells cur e fr)/\cur[a.off]? =ae u:=by
 unfold tp at h;split at h
 ·rename_i c e fr hb;split at h
  ·cases h
  ·rename_i hs;obtain⟨b,o,sp⟩:=a;simp at hs;subst hs;exact⟨rfl,c,e,fr,hb,h⟩
 ·cases h
theorem PC(b o j:aq):(⟨b,o,av⟩:Addr).add j=⟨b,o+j,av⟩:=by
 unfold Addr.add;by_cases hj:j=0
 ·subst hj;simp
 ·simp[hj]
theorem MF{D fuel:aq}{t e:ct}{v:af}{x:DataW H×ab pq}{kd:ab Kd}(hu:P.underlying t=ae (.slice e))(hk:lP P D e=ae kd)(hz:P.cellsOf e=kd.length)(hpos:0<kd.length)(ht:kz enc P W base sp held fuel t [v]=ae x)(hs:xD P t x.1):∃a len cap,v=.slice a len cap/\len<=cap/\len*P.bytesOf e<=reachBytes/\(len≠0->∃b o cur et fr,a=ae ⟨b,o,av⟩/\W.heap[b]? =ae (.cells cur et fr)/\o+len*kd.length<=cur.size/\∀ i,i<len->KdOK enc P W base sp held kd ((cur.toList.drop (o+i*kd.length)).take kd.length)):=by
 cases fuel with|zero=>simp[kz] at ht|succ fuel=>
 unfold kz at ht;simp only[hu] at ht;split at ht;all_goals try (exfalso;simp_all;done)
 ·rename_i h1 h2;simp at h2;subst h2;exact⟨av,0,0,rfl,cw _,qS,λh=>cp rfl h⟩
 ·rename_i e' a len cap he' h2;obtain rfl:e=e':=by simpa using he'
  simp only[List.cons.injEq,and_true] at h2;subst h2;split at ht
  ·rename_i hc;obtain⟨hc1,hc2,hc3⟩:=hc;simp only[lq,aj] at ht;obtain⟨r,hr,rest,hrest,rfl⟩:=ht;obtain⟨hrl,hrg⟩:=nE hr;simp only[List.length_range] at hrl;have hw0:(r.length+rest.length)*P.bytesOf e<=reachBytes:=hs _ (by simp[ua,hu]);have hel:∀ i,i<len->∃cs,W.cells? base (a.add (i*kd.length)) kd.length=ae cs/\KdOK enc P W base sp held kd cs:=λi hi=>by obtain⟨y,hy1,hy2⟩:=hrg i i (by simp[hi]);simp only[lq] at hy2;obtain⟨cs,hcs,hy3⟩:=hy2;rw[hz] at hcs;refine⟨cs,hcs,oB D fuel e cs y kd hk hy3 (λn hn=>hs n ?_)⟩;simp only[ua,hu,ci,eu];exact .inr (.inl (FG (j:=i) (d:=y.1) (by simp[hy1]) hn))
   have hcell:∀ i,i<len->∃cs,KdOK enc P W base sp held kd cs/\∀ k,k<kd.length->∃u,cs[k]? =ae u/\W.cell? (a.add (i*kd.length+k))=ae u:=λi hi=>by
    obtain⟨cs,h1,h2⟩:=hel i hi;unfold World.cells? at h1;split at h1
    ·obtain⟨hl,hg⟩:=nE h1;refine⟨cs,h2,λk hkk=>?_⟩;obtain⟨u,hu1,hu2⟩:=hg k k (by simp[hkk]);rw[PD] at hu2;exact⟨u,hu1,hu2⟩
    ·cases h1
   refine⟨ae a,len,cap,rfl,hc2,ej (Nat.mul_le_mul_right _ qO) hw0,λh0=>?_⟩;obtain⟨cs0,_,hc0⟩:=hcell 0 qO;obtain⟨u0,_,hu0⟩:=hc0 0 hpos;have ha0:a.add (0*kd.length+0)=a:=by simp[Addr.add]
   rw[ha0] at hu0;obtain⟨hap,cur,et,fr,hb,_⟩:=LF hu0;have hadd:∀ j,a.add j=⟨a.block,a.off+j,av⟩:=λj=>by rw[hap,PC]
   have hcur:∀ j u,W.cell? (a.add j)=ae u->cur[a.off+j]? =ae u:=λj u hj=>by rw[hadd] at hj;unfold tp at hj;simp only[hb] at hj;exact hj
   have hlast:a.off+len*kd.length<=cur.size:=by
    obtain⟨cs,_,hcs⟩:=hcell (len-1) qO;obtain⟨u,_,hu⟩:=hcs (kd.length-1) qO;have hlt:=(Array.getElem?_eq_some_iff.1 (hcur _ _ hu)).1;have h9:(len-1)*kd.length+kd.length=len*kd.length:=by have:=Nat.succ_mul (len-1) kd.length;rw[show(len-1).succ=len by omega] at this;omega
    omega
   refine⟨a.block,a.off,cur,et,fr,by rw[<-hap],hb,hlast,λi hi=>?_⟩;obtain⟨cs,hk1,hcs⟩:=hcell i hi;have:(cur.toList.drop (a.off+i*kd.length)).take kd.length=cs:=by
    refine List.ext_getElem? λk=>?_;by_cases hkk:k<kd.length
    ·obtain⟨u,hu1,hu2⟩:=hcs k hkk;have:=hcur _ _ hu2;rw[List.getElem?_take,fc hkk,List.getElem?_drop,hu1];rw[show a.off+i*kd.length+k=a.off+(i*kd.length+k) by omega];simpa using this
    ·rw[ei (by simp;omega),ei (by rw[hk1.1];omega)]
   rw[this];exact hk1
  ·cases ht
theorem wC{fz:aq->bp Obj}:∀{a b c d:ab af},FRs fz a b->FRs fz c d->FRs fz (a++c) (b++d)
 |[],_,_,_,h,k=>by cases h;exact k
 |_::_,_,_,_,h,k=>by cases h with|cons h t=>exact .cons h (wC t k)
theorem KT{fz:aq->bp Obj}{α:Type}{ec:α->af}{Good:α->Prop}{z:aq}{L:ab af}:∀(len o:aq),(∀ i,i<len->∃x,Good x/\FRs fz (ec x).cells.toList ((L.drop (o+i*z)).take z))->∃l:ab α,l.length=len/\(∀ x∈l,Good x)/\FRs fz (aB (l.map ec)) ((L.drop o).take (len*z))
 |0,o,_=>⟨[],rfl,λx hx=>(by cases hx),by rw[lx,List.take_zero];exact .nil⟩
 |len+1,o,h=>by
  obtain⟨x,h1,h2⟩:=h 0 qO;rw[lx,pe] at h2;obtain⟨l,k1,k2,k3⟩:=KT (z:=z) (L:=L) len (o+z) (λi hi=>by
   have:=h (i+1) qO
   rwa [show o+(i+1)*z=o+z+i*z by rw[jz];omega] at this)
  refine⟨x::l,by simp[k1],λy hy=>?_,?_⟩
  ·rcases ci.1 hy with rfl|hy
   ·exact h1
   ·exact k2 y hy
  ·have e1:(L.drop o).take ((len+1)*z)=(L.drop o).take z++(L.drop (o+z)).take (len*z):=by rw[show(len+1)*z=z+len*z by rw[jz];omega,pm,jo]
   rw[e1];exact wC h2 k3
def fzW(W:dh):aq->bp Obj:=λb=>W.heap[b]?
theorem PO{D:aq}{t e:ct}{v:af}{kd:ab Kd}(hu:P.underlying t=ae (.slice e))(hk:lP P D e=ae kd)(hz:P.cellsOf e=kd.length)(hpos:0<kd.length){α:Type}{ec:α->af}{Good:α->Prop}(hg:∀ x,Good x->(ec x).cells.size=kd.length)(conv:∀ cs,KdOK enc P W base sp held kd cs->∃x,Good x/\FRs (fzW W) (ec x).cells.toList cs)(h:zV enc P W base sp held (.s t) v):∃l:ab α,(∀ x∈l,Good x)/\FR (fzW W) (frz (l.map ec)) v/\l.length*P.bytesOf e<=reachBytes:=by
 obtain⟨fuel,d,ps,h1,h2⟩:=h;obtain⟨a,len,cap,rfl,h3,h4,h5⟩:=MF hu hk hz hpos h1 h2;by_cases h0:len=0
 ·subst h0;exact⟨[],λx hx=>(by cases hx),.frz0,qS⟩
 ·obtain⟨b,o,cur,et,fr,rfl,h6,h7,h8⟩:=h5 h0;obtain⟨l,k1,k2,k3⟩:=KT (fz:=fzW W) (ec:=ec) (Good:=Good) (z:=kd.length) (L:=cur.toList) len o (λi hi=>conv _ (h8 i hi));refine⟨l,k2,?_,by rw[k1];exact h4⟩;have hl:(l.map ec).length=len:=by rw[fa,k1]
  have:=FR.frz (fz:=fzW W) (es:=l.map ec) (b:=b) (o:=o) (z:=kd.length) (c:=cap) (cur:=cur) (e:=et) (fr:=fr) h6 hpos (λx hx=>by
   obtain⟨y,hy,rfl⟩:=fi.1 hx;exact hg y (k2 y hy)) (by rw[hl];exact h3) (by rw[hl];exact h7) (by rw[hl];exact k3)
  rw[hl] at this;exact this
end
section
variable{P:cq}{w0:Base}{μ ν:Mu}{s:St}{w:dh}
def Base.one(w:dh)(fz:aq->bp Obj)(b:aq)(hb:b<w.heap.size)(hz:fz b=av):Base where
 ok:=λw'=>w'.os=w.os/\w'.tape=w.tape/\w'.output=w.output/\w.heap.size<=w'.heap.size/\∀ i,i<w.heap.size->i≠b->w'.heap[i]? =w.heap[i]?
 wr:=λg=>g=b\/w.heap.size<=g
 lk:=λ_ _=>False
 fok:=λg=>(∃O,fz g=ae O)\/w.heap.size<=g\/g=b
 wfok:=λ_ h=>h.elim (λh=>.inr (.inr h)) (λh=>.inr (.inl h))
 garbage:=λa c h k=>⟨k.os.trans h.1,k.tape.trans h.2.1,k.output.trans h.2.2.1,ej h.2.2.2.1 k.size,λi hi hn=>(k.block i (pw hi h.2.2.2.1)).trans (h.2.2.2.2 i hi hn)⟩
 upd:=λa c g h hg k=>⟨k.os.trans h.1,k.tape.trans h.2.1,k.output.trans h.2.2.1,ej h.2.2.2.1 (lu k.size.symm),λi hi hn=>(k.block i (by
  rcases hg with rfl|hg
  ·exact hn
  ·omega)).trans (h.2.2.2.2 i hi hn)⟩
 fresh:=λa g h hg=>.inr (ej h.2.2.2.1 hg)
 lapart:=λ_ _ h=>h.elim
 lold:=λ_ _ _ _ h=>h.elim
 lkok:=λ_ _ _ _ _ _ h=>h.elim
theorem TU{c:ab af}(hc:c.all (idf 0)=au){cur:df af}{b:aq}(h:CsR aa μ c cur b)(hfz:∀ g O,μ.fz g=ae O->ν.fz g=ae O):CsR aa ν c cur b:=λj v hj=>by obtain⟨v',h1,h2⟩:=h j v hj;exact⟨v',h1,(FR.mono hfz (zC (fq.1 hc v (ge hj)) h2)).vr⟩
end
section
variable{P:cq}
def wQ(P:cq):ab gy->(Exit->Act->ab tv->dh->Prop)->Act->ab tv->dh->Prop
 |[],Q,a,cs,w=>Q .normal a cs w|c::l,Q,a,cs,w=>c.wpS P (ux (wQ P l Q) Q) a cs w
theorem qH{c:gy}{Q Q':Exit->Act->ab tv->dh->Prop}{a:Act}{cs:ab tv}{w:dh}(h:c.wpS P Q a cs w)(hq:∀ e a cs w,Q e a cs w->Q' e a cs w):c.wpS P Q' a cs w:=λb k hb hr=>let⟨e,a',cs',w',q,r⟩:=h b k hb hr;⟨e,a',cs',w',hq _ _ _ _ q,r⟩
theorem uK{N N':Act->ab tv->dh->Prop}{Q Q':Exit->Act->ab tv->dh->Prop}(hn:∀ a cs w,N a cs w->N' a cs w)(hq:∀ e a cs w,Q e a cs w->Q' e a cs w):∀ e a cs w,ux N Q e a cs w->ux N' Q' e a cs w:=λe a cs w h=>by cases e with|normal=>exact hn _ _ _ h|_=>exact hq _ _ _ _ h
theorem xB{Q Q':Exit->Act->ab tv->dh->Prop}(hq:∀ e a cs w,Q e a cs w->Q' e a cs w):∀(l:ab gy)(a:Act)(cs:ab tv)(w:dh),wQ P l Q a cs w->wQ P l Q' a cs w
 |[],_,_,_,h=>hq _ _ _ _ h|_::l,_,_,_,h=>qH h (uK (xB hq l) hq)
theorem qG{Q:Exit->Act->ab tv->dh->Prop}(ds:ab gy):∀(l:ab gy)(a:Act)(cs:ab tv)(w:dh),wQ P (l++ds) Q a cs w->wQ P l (ux (wQ P ds Q) Q) a cs w
 |[],_,_,_,h=>h|_::l,_,_,_,h=>qH h λe a cs w he=>by cases e with|normal=>exact qG ds l a cs w he|_=>exact he
theorem zX:∀(c:gy)(Q:Exit->Act->ab tv->dh->Prop)(a:Act)(cs:ab tv)(w:dh),wQ P (aU c) Q a cs w->c.wpS P Q a cs w:=by intro c;induction c with|seq x y ihx ihy=>intro Q a cs w h;refine wpS_seq (ihx _ a cs w ?_);exact xB (uK (λa cs w h=>ihy Q a cs w h) (λ_ _ _ _ h=>h)) _ _ _ _ (qG _ _ _ _ _ h)|_=>intro Q a cs w h;refine qH h λe a cs w he=>?_;cases e<;>exact he
theorem tB{Q:Exit->Act->ab tv->dh->Prop}{cs:ab tv}:∀(l:ab gy)(a:Act)(w:dh),wpl P l (λe a w=>Q e a cs w) a w->wQ P l Q a cs w
 |[],_,_,h=>h|c::l,a,w,h=>by refine qH (wpS_of_wp (cs:=cs) (Q:=λe a cs' w=>cs'=cs/\Exit.then (wpl P l λe a w=>Q e a cs w) (λe a w=>Q e a cs w) e a w) (wp_mono h λe a w he=>⟨rfl,he⟩)) ?_;intro e a cs' w ⟨hc,he⟩;subst hc;cases e with|normal=>exact tB l a w he|_=>exact he
def Q6(ops:df Oper):bp (bp Tmp):=match ops.toList with
 |[o]=>match o.op,o.guard with
  |.call c,av=>match c.callee,c.args.toList with
   |.builtin .recover,[]=>ae o.dst|_,_=>av
  |_,_=>av
 |_=>av
theorem I4{ops:df Oper}{d:bp Tmp}(h:Q6 ops=ae d):∃o,ops=#[o]/\o.dst=d/\o.guard=av/\∀(ρ:im->af)(w:dh),(execOp ρ o).run P w=.ok .recover w:=by
 unfold Q6 at h;split at h
 ·rename_i o ho;split at h
  ·rename_i c hop hg;split at h
   ·rename_i hc hargs;cases h;refine⟨o,by apply Array.ext';simpa using ho,rfl,hg,λρ w=>?_⟩;unfold execOp;rw[hop];simp only[resolve,hc,Sem.run_bind,Sem.run_pure,Result.andThen_ok,invoke];rfl
   ·cases h
  ·cases h
 ·cases h
def I6(P:cq)(call:aS)(lf:aq):mO:=λg args s=>match P.funcs[g]? with
 |none=>av
 |some fn=>match fn.body,iP 0 args .lf with
  |some c,ae t=>match aU c with
   |.region _ ops aa::rest=>match Q6 ops with
    |some d=>match(⟨t,args.length+(fn.ntmps-args.length),[],undef⟩:HF).put d .nilIface with
     |some f=>match rH P call lf rest s f with
      |some (.normal,s',f')=>bif f'.ds.isEmpty then(pD P f' fn.results.toList s').map (·.2) else av
      |some (.ret,s',f')=>bif f'.ds.isEmpty then(pD P f' fn.results.toList s').map (·.2) else av
      |_=>av
     |none=>av
    |none=>av
   |_=>av
  |_,_=>av
theorem I5(hg:NoG P){call:aS}(hc:aR P call)(lf:aq):DOK P (I6 P call lf):=by
 intro s s' g args hr;unfold I6 at hr;split at hr
 ·cases hr
 ·rename_i fn hfn;split at hr
  ·rename_i c t hb ht;split at hr
   ·rename_i id ops rest hfl;split at hr
    ·rename_i d hd;split at hr
     ·rename_i f hf;have main:∀(x:HX)(s1:St)(f1:HF)(r:ab af),(x=.normal\/x=.ret)->f1.ds=[]->pD P f1 fn.results.toList s1=ae (r,s')->rH P call lf rest s f=ae (x,s1,f1)->s.sub s'/\(SOK s'->∀(w0:Base)(μ:Mu)(w:dh)(args':ab af),R w0 μ s w->VRs μ args args'->CallsD P g ⟨args'⟩ .returning w λe u' w'=>∃v' μ',e=.returned v'/\u'=.returning/\μ.le μ'/\R w0 μ' s' w'):=by
       intro x s1 f1 r hx hds hres hl;have hlk:=gJ _ _ _ _ hres;refine⟨dy (xO hc lf rest _ _ _ _ _ hl) hlk.sub,λok w0 μ w args' h ha=>?_⟩;obtain⟨o,pC,hdst,hgd,aW⟩:=I4 (P:=P) hd;refine callsD_of_wpS hfn hb λc₀ cs hc0=>zX c _ _ _ _ ?_;rw[hfl];have har:=cS (rT ha ht fn.ntmps) .nifc hf;show(Code.region id ops aa).wpS P (ux (wQ P rest _) _) _ _ w;refine wpS_region ?_;subst pC;have e1:mf (#[o]:df Oper).size=[0]:=rfl;have hrc:recoverD (c₀::cs)=none:=by simp[recoverD,hc0]
       rw[e1];simp only[wpOpsS];rw[show(#[o]:df Oper)[0]? =ae o from rfl];simp only[show Region.wanted o=λ_=>au by funext y;unfold Region.wanted;rw[hgd],if_true,aW,hrc];show wQ P rest _ _ _ w;rw[hdst];refine tB rest _ _ (cI ?_ _ _ _ (nG hg hc lf rest μ s s1 w f f1 _ x h har hl (gd hlk.sub ok)));intro e a1 w1 ⟨he,μ1,m1,m2,m3⟩;have hdn:a1.defers=[]:=by have:=m3.ds;rw[hds] at this;generalize a1.defers=l at this;cases this;rfl
       obtain⟨v,q1,q2⟩:=gN m2 m3 hres ok;have hcc:({c₀ with mode:=.returning}:tv)=c₀:=by rw[<-hc0]
       subst he;rcases hx with rfl|rfl<;>exact⟨hdn,.returning,by rw[hcc],v,q1,v,μ1,rfl,rfl,m1,m2.like hlk⟩
      split at hr
      ·rename_i s1 f1 hl;obtain⟨hds,hr⟩:=aD hr;simp only[aj] at hr;obtain⟨⟨r,s2⟩,hres,rfl⟩:=hr;exact main .normal _ _ r (.inl rfl) (by simpa using hds) hres hl
      ·rename_i s1 f1 hl;obtain⟨hds,hr⟩:=aD hr;simp only[aj] at hr;obtain⟨⟨r,s2⟩,hres,rfl⟩:=hr;exact main .ret _ _ r (.inr rfl) (by simpa using hds) hres hl
      ·cases hr
     ·cases hr
    ·cases hr
   ·cases hr
  ·cases hr
variable{w0:Base}{μ ν:Mu}{s:St}{w:dh}
def BW(tb:ab af)(ng:aq):St:={aH [(0,.ro tb)] ng ng with opn:=aa}
theorem oT(tb:ab af)(ng:aq)(i:aq)(o:gh)(h:(BW tb ng).h.get i=ae o):i=0/\o=.ro tb:=by
 have h:(Tr.nd (ae (HObj.ro tb)) .lf .lf).get i=ae o:=h;rw[Tr.get_nd] at h;by_cases hi:i=0
 ·rw[fc hi] at h;cases h;exact⟨hi,rfl⟩
 ·rw[eh hi] at h;split at h<;>cases h
theorem TC(h:R w0 μ s w){tb:ab af}{ng:aq}(hi:s.h.get 0=ae (.ro tb))(hc:tb.all (idf 0)=au)(hn:s.ng=ng)(h0:0<ng):R (Base.only w μ.fz) ⟨λi=>if i<ng then μ i else av,μ.fz⟩ (BW tb ng) w where
 below:=Below.refl _ _
 fresh:=λi hi=>by have hi:ng<=i:=hi;show(if i<ng then μ i else av)=av;rw[eh qO]
 obj:=λi o hi' hd=>by obtain⟨rfl,rfl⟩:=oT tb ng i o hi';obtain⟨p,k1,⟨cur,e,fr,k2,k3⟩,_⟩:=h.obj 0 _ hi qS;exact⟨p,by show(if 0<ng then μ 0 else av)=ae p;rw[fc h0];exact k1,⟨cur,e,fr,k2,TU hc k3 (λ_ _ h=>h)⟩,λg hg=>hg.elim⟩
 dis:=λa b o o' p q hab ha hb=>cp ((oT tb ng a o ha).1.trans (oT tb ng b o' hb).1.symm) hab
 fz:=h.fz
 fzd:=λb O i o p _ hi'=>by obtain⟨rfl,rfl⟩:=oT tb ng i o hi';exact λ_ hg=>hg
 fzo:=λb O hb=>.inl ⟨O,hb⟩
 gl:=λg hg=>by have hg:g<ng:=hg;obtain⟨p,p1,p2⟩:=h.gl g qO;exact⟨p,by show(if g<ng then μ g else av)=ae p;rw[fc hg];exact p1,p2⟩
def MO(g:ia)(tb:ab af)(ng:aq)(v:af):aS:=λg' args s=>match bx g' g,args,s.h.get 0 with
 |true,[],ae (.ro tb')=>bif bx s.ng ng&&idq 1 v then(dK (tb'=tb) s).map λs'=>(v,s') else av
 |_,_,_=>av
theorem MN{g:ia}{tb:ab af}{ng:aq}{v:af}{call:aS}(hc:aR P call){s1:St}(hr:call g [] (BW tb ng)=ae (v,s1))(hok:s1.pc=[])(hp:0<ng)(htb:tb.all (idf 0)=au):aR P (MO g tb ng v):=by
 intro s s' g' args v' h;unfold MO at h;split at h
 ·rename_i tb' hg hi;obtain rfl:=(aI _ _).1 hg;obtain⟨hb,h⟩:=aD h;simp only[bu,aI] at hb;simp only[aj,bn] at h;obtain⟨s2,hn,rfl,rfl⟩:=h;obtain⟨k1,k2⟩:=aY hn;refine⟨k1.sub,λok w0 μ w args' hR hV=>?_⟩;obtain rfl:=k2 ok;cases hV;refine((hc _ _ _ _ _ hr).2 (λp hp=>by rw[hok] at hp;cases hp) _ _ w [] (TC hR hi htb hb.1 hp) .nil).mono λe w' ⟨u,ν,m1,m2,m3,m4⟩=>?_;obtain⟨n1,n2⟩:=LI hR m3 m2.fz;exact⟨u,_,m1,n1,n2.like k1,zB (μ:=ν) (ν:=⟨μ.pl,ν.fz⟩) (λ_ _ h=>h) 1 _ _ hb.2 m4⟩
 ·cases h
end
def zQ{H:Type}:aq->DataW H->ab af
 |0,_=>[]|_+1,.lit (.int k n)=>[.int k n]|_+1,.lit (.bool b)=>[.bool b]|d+1,.agg ps=>ps.flatMap (zQ d)|_+1,_=>[]
def pQ(kd:ab Kd):Bool:=kd.all λ|.s _=>aa|_=>au
section
variable{H:Type}{enc:ct×af->H}{P:cq}{W:dh}{base:aq}{sp:aq->cz}{held:cz}
theorem DK{D fuel:aq}{cs:ab af}(ih:∀ (t:ct) (cs:ab af) (x:DataW H×ab pq) (kd:ab Kd),lP P D t=ae kd->pQ kd=au->kz enc P W base sp held fuel t cs=ae x->cs=zQ D x.1):∀(fs:ab Field)(o:aq)(l:ab Kd)(r:ab (DataW H×ab pq)),HI P (lP P D) o fs=ae l->pQ l=au->fs.mapM (λf=>kz enc P W base sp held fuel f.type ((cs.drop f.offset).take (P.cellsOf f.type)))=ae r->o+l.length<=cs.length->(cs.drop o).take l.length=(r.map (·.1)).flatMap (zQ D):=by
 intro fs;induction fs with
 |nil=>intro o l r h _ hr _;cases h;simp at hr;subst hr;simp
 |cons f fs ihf=>
  intro o l r h hp hr ho;simp only[HI] at h;have h2:=aD h;clear h;obtain⟨hof,h⟩:=h2;rw[aI] at hof;subst hof;split at h
  ·rename_i lf hlf;have h2:=aD h;clear h;obtain⟨hc,h⟩:=h2;rw[aI] at hc;simp only[aj] at h;obtain⟨l',hl',rfl⟩:=h;simp only[pQ,List.all_append,bu] at hp;simp only[qk,sf,lq] at hr;obtain⟨y,hy,r',hr',h⟩:=hr;cases h;simp only[cg] at ho;have k1:=ih f.type _ y lf hlf hp.1 hy;have k2:=ihf _ l' r' hl' hp.2 hr' qO;rw[hc] at k1;rw[cg,pm,jo,k1,k2];simp
  ·cases h
theorem GM{z:aq}{cs:ab af}{D:aq}:∀(m o:aq)(r:ab (DataW H×ab pq)),r.length=m->(∀ i y,r[i]? =ae y->(cs.drop (o+i*z)).take z=zQ D y.1)->(cs.drop o).take (m*z)=(r.map (·.1)).flatMap (zQ D):=by
 intro m;induction m with
 |zero=>intro o r hr _;have:r=[]:=kp.1 hr;subst this;simp
 |succ m ih=>
  intro o r hr h;cases r with
  |nil=>simp at hr
  |cons y r=>
   have k1:=h 0 y rfl;rw[lx,pe] at k1;have k2:=ih (o+z) r (by simpa using hr) (λi x hx=>by
    have:=h (i+1) x (by simpa using hx)
    rwa [show o+(i+1)*z=o+z+i*z by rw[jz];omega] at this)
   rw[show(m+1)*z=z+m*z by rw[jz];omega,pm,jo,k1,k2];simp
theorem CG:∀(D fuel:aq)(t:ct)(cs:ab af)(x:DataW H×ab pq)(kd:ab Kd),lP P D t=ae kd->pQ kd=au->kz enc P W base sp held fuel t cs=ae x->cs=zQ D x.1:=by
 intro D;induction D with
 |zero=>intro fuel t cs x kd h;cases h
 |succ D ih=>
  intro fuel t cs x kd hk hp ht;cases fuel with|zero=>simp[kz] at ht|succ fuel=>
  simp only[lP] at hk;unfold kz at ht;split at hk
  ·rename_i hu;cases hk;simp only[hu] at ht;split at ht<;>simp_all;obtain⟨rfl,_⟩:=ht;rfl
  ·rename_i hu;cases hk;simp only[hu] at ht;split at ht<;>simp_all;obtain⟨⟨e1,_⟩,rfl⟩:=ht;subst_vars;rfl
  ·rename_i e hu;cases hk;cases hp
  ·rename_i fs hu;split at hk
   ·rename_i l hl;have hk2:=aD hk;clear hk;obtain⟨hc,hk⟩:=hk2;rw[aI] at hc;cases hk;simp only[hu] at ht;split at ht
    ·rename_i hlen;simp only[aj] at ht;obtain⟨r,hr,rfl⟩:=ht;have:=DK (ih fuel) fs.toList 0 kd r hl hp hr qO;rw[lH,gc qO] at this;exact this
    ·cases ht
   ·cases hk
  ·rename_i n e hu;split at hk
   ·rename_i l hl;have hk2:=aD hk;clear hk;obtain⟨hc,hk⟩:=hk2;simp only[bu,aI] at hc;obtain⟨⟨hc1,hc2⟩,hc3⟩:=hc;cases hk;simp only[hu] at ht;split at ht
    ·rename_i hlen;simp only[aj] at ht;obtain⟨r,hr,rfl⟩:=ht;obtain⟨hrl,hrg⟩:=nE hr;simp only[List.length_range] at hrl;rw[hc1] at hrg;by_cases hn:n=0
     ·subst hn;have hr0:r=[]:=kp.1 hrl;subst hr0;have:cs=[]:=kp.1 qO;subst this;rfl
     have hpl:pQ l=true:=by unfold pQ at hp ⊢;rw[fq] at hp ⊢;exact λk hk=>hp k (List.mem_flatten.2 ⟨l,by simp[hn],hk⟩)
     have:=GM (H:=H) (z:=l.length) (cs:=cs) (D:=D) n 0 r hrl (λi y hy=>by
      have hi:=(ik.1 hy).1;obtain⟨y',hy1,hy2⟩:=hrg i i (by rw[List.getElem?_range qO]);rw[hy] at hy1;cases hy1;rw[fu];exact ih fuel e _ y l hl hpl hy2)
     rw[lH,gc qO] at this;exact this
    ·cases ht
   ·cases hk
  ·cases hk
theorem DH{laid:ab (String×DataW Unit)}{ps:ab pq}(h:DataW.LaidVars P W laid ps){name:String}{dat:DataW Unit}(hm:(name,dat)∈laid){g:aq}{t:ct}(hg:P.globalNamed name=ae g)(ht:(P.globals[g]?).map (·.type)=ae t){D:aq}{kd:ab Kd}(hk:lP P D t=ae kd)(hp:pQ kd=au):∀(j:aq)(v:af),(zQ D dat)[j]? =ae v->W.cell? ⟨g,j,av⟩=ae v:=by
 induction laid generalizing ps with
 |nil=>cases hm
 |cons x laid ih=>
  obtain⟨n,d⟩:=x;obtain⟨g',t',cs,fuel,p,q,h1,h2,h3,h4,h5,_⟩:=h;rcases ci.1 hm with e|hm
  ·cases e;rw[hg] at h1;cases h1;rw[ht] at h2;cases h2;have hcs:=CG D fuel t cs.toList _ kd hk hp h4;intro j v hj;have hcs:cs.toList=zQ D dat:=hcs;rw[<-hcs] at hj;unfold World.var? at h3;rw[hg] at h3;simp only[re] at h3;split at h3
   ·rename_i cs' e' fr hb;cases h3;simp only[tp,hb];simpa using hj
   ·cases h3
  ·exact ih h5 hm
def nP(ng:aq):aq->bp Place:=λi=>if i<ng then ae ⟨i,0,0,eJ⟩ else av
theorem CJ{tb:ab af}{ng:aq}(hc:∀ (j:aq) (v:af),tb[j]? =ae v->W.cell? ⟨0,j,av⟩=ae v)(hne:0<tb.length)(hi:∀ v∈tb,∃k n,v=ao k n)(h0:0<ng):R (Base.of W) ⟨nP ng,fzW W⟩ (aH [(0,.ro tb)] ng ng) W:=by
 have one:∀(i:aq)(o:gh),(aH [(0,.ro tb)] ng ng).h.get i=ae o->i=0/\o=.ro tb:=λi o h=>by
  have h:(Tr.nd (ae (HObj.ro tb)) .lf .lf).get i=ae o:=h;rw[Tr.get_nd] at h;by_cases hi:i=0
  ·rw[fc hi] at h;cases h;exact⟨hi,rfl⟩
  ·rw[eh hi] at h;split at h<;>cases h
 have row:∃cur e fr,W.heap[0]? =ae (.cells cur e fr):=by
  have:=hc 0 tb[0] (fk hne);unfold tp at this;split at this
  ·rename_i c e fr hb;exact⟨c,e,fr,hb⟩
  ·cases this
 obtain⟨cur,e,fr,hrow⟩:=row;refine⟨Below.refl _ _,λi hi=>?_,λi o hio _=>?_,λi j o o' p q hij hio hjo=>cp ((one i o hio).1.trans (one j o' hjo).1.symm) hij,λ_ _ h=>h,λb O i o p _ hio _ hg=>?_,λ_ _ _=>trivial,λg hg=>?_⟩
 ·have hi:ng<=i:=hi;show(if i<ng then _ else av)=av;rw[eh qO]
 ·obtain⟨rfl,rfl⟩:=one i o hio;refine⟨⟨0,0,0,eJ⟩,by show(if 0<ng then _ else av)=_;rw[fc h0],⟨cur,e,fr,hrow,λj v hj=>?_⟩,λg hg=>hg.elim⟩;have:=hc j v hj;unfold tp at this;simp only[hrow] at this;obtain⟨k,n,rfl⟩:=hi v (ge hj);exact⟨_,by simpa using this,.int k n⟩
 ·obtain⟨rfl,rfl⟩:=one i o hio;exact hg
 ·have hg:g<ng:=hg;exact⟨⟨g,0,0,eJ⟩,by show(if g<ng then _ else av)=_;rw[fc hg],rfl,rfl⟩
end
section
variable{P:cq}{w0:Base}{μ ν:Mu}{s:St}{w:dh}
def Base.some(w:dh)(fz:aq->bp Obj)(B:aq->Prop):Base where
 ok:=λw'=>w'.os=w.os/\w'.tape=w.tape/\w'.output=w.output/\w.heap.size<=w'.heap.size/\∀ i,i<w.heap.size->¬B i->w'.heap[i]? =w.heap[i]?
 wr:=λg=>B g\/w.heap.size<=g
 lk:=λ_ _=>False
 fok:=λg=>(∃O,fz g=Option.some O)\/w.heap.size<=g\/B g
 wfok:=λ_ h=>h.elim (λh=>.inr (.inr h)) (λh=>.inr (.inl h))
 garbage:=λa c h k=>⟨k.os.trans h.1,k.tape.trans h.2.1,k.output.trans h.2.2.1,ej h.2.2.2.1 k.size,λi hi hn=>(k.block i (pw hi h.2.2.2.1)).trans (h.2.2.2.2 i hi hn)⟩
 upd:=λa c g h hg k=>⟨k.os.trans h.1,k.tape.trans h.2.1,k.output.trans h.2.2.1,ej h.2.2.2.1 (lu k.size.symm),λi hi hn=>(k.block i (by
  rcases hg with hg|hg
  ·exact λe=>hn (e ▸ hg)
  ·omega)).trans (h.2.2.2.2 i hi hn)⟩
 fresh:=λa g h hg=>.inr (ej h.2.2.2.1 hg)
 lapart:=λ_ _ h=>h.elim
 lold:=λ_ _ _ _ h=>h.elim
 lkok:=λ_ _ _ _ _ _ h=>h.elim
open Classical in
theorem Base.upds(β:Base)(w w':dh)(B:aq->Prop)(hB:∀ g,B g->β.wr g/\g<w.heap.size)(hsz:w.heap.size<=w'.heap.size)(hw:β.ok w):∀ l:ab aq,∃w1,β.ok w1/\w1.os=w.os/\w1.tape=w.tape/\w1.output=w.output/\w1.heap.size=w.heap.size/\∀ i,w1.heap[i]? =if i∈l/\B i then w'.heap[i]? else w.heap[i]?
 |[]=>⟨w,hw,rfl,rfl,rfl,rfl,λi=>qS⟩
 |g::l=>by
  obtain⟨w1,h1,h2,h3,h4,h5,h6⟩:=Base.upds β w w' B hB hsz hw l;by_cases hg:B g
  ·have hlt:=(hB g hg).2;obtain⟨O,hO⟩:∃O,w'.heap[g]? =Option.some O:=⟨_,Array.getElem?_eq_getElem qO⟩;refine⟨{w1 with heap:=w1.heap.setIfInBounds g O},β.upd w1 _ g h1 (hB g hg).1 ⟨rfl,rfl,rfl,qS,λk hk=>by simp[oh,Ne.symm hk]⟩,h2,h3,h4,by simpa using h5,λi=>?_⟩;by_cases hig:i=g
   ·subst hig;have:i<w1.heap.size:=by rw[h5];exact hlt
    simp[this,hg,hO]
   ·have h7:(w1.heap.setIfInBounds g O)[i]? =w1.heap[i]? :=by simp[oh,Ne.symm hig]
    show(w1.heap.setIfInBounds g O)[i]? =_;rw[h7,h6];simp[hig]
  ·refine⟨w1,h1,h2,h3,h4,h5,λi=>?_⟩;rw[h6];by_cases hig:i=g
   ·subst hig;simp[hg]
   ·simp[hig]
def mM:gh->cz
 |_=>au
theorem xX{o:gh}(h:mM o=au){p:Place}{g:aq}(hg:own o p g):g=p.blk:=by cases o with|row op c e=>exact hg|map es k=>exact hg|fmap f=>exact hg|ro c=>exact hg.elim|lk op c=>exact hg.elim|rm es c=>exact hg.elim|srow c e=>exact hg.2|dead=>exact hg.elim
def rIn(names:ab aq):ab (aq×RT):=names.zipIdx.map λx=>(x.1,.to x.2)
def uX(nm:ab aq):ab (aq×RT):=nm.zipIdx.map λx=>(x.2,.to x.1)
def yT(names:ab aq)(pl:aq->bp Place):aq->bp Place:=λj=>(names[j]?).bind pl
def cQ(nm:ab aq)(pl pl0:aq->bp Place):aq->bp Place:=λi=>match nm.idxOf? i with|some j=>pl0 j|none=>pl i
theorem jI(names:ab aq)(μ:Mu)(fz:aq->bp Obj):wP (rIn names) μ ⟨yT names μ.pl,fz⟩:=by intro i r hr;have hm:=fD hr;obtain⟨⟨a,b⟩,hx,he⟩:=fi.1 hm;simp only[bn] at he;obtain⟨rfl,rfl⟩:=he;intro p hp;have hab:names[b]? =ae a:=rz.1 hx;show(names[b]?).bind μ.pl=ae p;rw[hab];exact hp
theorem vQ{nm:ab aq}(hnd:nm.Nodup){j i:aq}(h:nm[j]? =ae i):nm.idxOf? i=ae j:=by obtain⟨hj,hi⟩:=ik.1 h;rw[ui];refine⟨hj,hi,λk hk he=>?_⟩;have h1:=List.pairwise_iff_getElem.1 (gw.1 hnd) k j qO hj hk;exact h1 (he.trans hi.symm)
theorem S5{nm:ab aq}{j i:aq}(h:nm.idxOf? i=ae j):nm[j]? =ae i:=by rw[ui] at h;obtain⟨h1,h2,_⟩:=h;rw[fk h1,h2]
theorem fS{nm:ab aq}(hnd:nm.Nodup){j i:aq}(h:nm[j]? =ae i)(pl pl0:aq->bp Place):cQ nm pl pl0 i=pl0 j:=by unfold cQ;rw[vQ hnd h]
theorem dU{nm:ab aq}{i:aq}(h:i∉nm)(pl pl0:aq->bp Place):cQ nm pl pl0 i=pl i:=by unfold cQ;cases hx:nm.idxOf? i with|none=>rfl|some j=>exact cp (ge (S5 hx)) h
theorem t5{nm:ab aq}(hnd:nm.Nodup)(pl:aq->bp Place)(ν0:Mu):wP (uX nm) ν0 ⟨cQ nm pl ν0.pl,ν0.fz⟩:=by intro i r hr;have hm:=fD hr;obtain⟨⟨a,b⟩,hx,he⟩:=fi.1 hm;simp only[bn] at he;obtain⟨rfl,rfl⟩:=he;intro p hp;show cQ nm pl ν0.pl a=ae p;rw[fS hnd (rz.1 hx)];exact hp
def NI:gh->cz
 |.lk _ _=>aa|.rm _ _=>aa|_=>au
theorem oE{ρ:ab (aq×RT)}{op:cz}{o o2:gh}{ps:ab Prop}(h:fY ρ op o=ae (o2,ps)):NI o2=true:=by
 cases o with
 |row op0 c e=>
  cases op0 with
  |true=>cases op with|true=>cases h;rfl|false=>cases h;rfl
  |false=>simp only[fY] at h;cases op with|true=>obtain⟨_,h⟩:=aD (show(bif c.all (idf 0) then ae (cu au c e,([]:ab Prop)) else av)=ae (o2,ps) from h);cases h;rfl|false=>simp only[ed,aj,bn] at h;obtain⟨r,_,rfl,_⟩:=h;rfl
 |ro c=>simp only[fY,aj,bn] at h;obtain⟨r,_,rfl,_⟩:=h;rfl|map es k=>simp only[fY,aj,bn] at h;obtain⟨r,_,rfl,_⟩:=h;rfl|fmap f=>cases h;rfl|srow c e=>cases h;rfl|_=>cases h
theorem Hl.base{β β':Base}{i:aq}{o:gh}{p:Place}(hn:NI o=au)(k:Hl β μ i o p w):Hl β' μ i o p w:=by cases o with|lk op c=>cases hn|rm es c=>cases hn|_=>exact k
theorem FnEx.frameN{g:ia}{names:ab aq}{a0 args:ab af}{v0 v:af}{s0 s1 s':St}(h:FnEx P g a0 s0 (λu t=>u=v0/\t=s1))(hnd:names.Nodup)(hk:s0.next=names.length)(hng0:s0.ng=0)(hlt:∀ i∈names,i<s.next)(h0:∀ j o,s0.h.get j=ae o->o≠.dead->∃i o',names[j]? =ae i/\s.h.get i=ae o'/\mM o'=au/\∃op ps,fY (rIn names) op o'=ae (o,ps)/\allP ps)(ha:∃ps,pK (dV (rIn names) 6) args=ae (a0,ps)/\allP ps){nm:ab aq}(hnm:nm=names++(mf (s1.next-names.length)).map (s.next+·))(h1:∀ i o',s'.h.get i=ae o'->o'≠.dead->(∃j o,nm[j]? =ae i/\s1.h.get j=ae o/\∃ps,fY (uX nm) aa o=ae (o',ps)/\allP ps)\/(i∉nm/\s.h.get i=ae o'))(e2:s'.next=s.next+(s1.next-names.length))(e3:s'.ng=s.ng)(hv:∃ps,dV (uX nm) 6 v0=ae (v,ps)/\allP ps):FnEx P g args s (λu t=>u=v/\t=s'):=by
 intro w0 μ w args' hR hV;have nodead:∀{ρ:ab (aq×RT)}{op:cz}{o o2:gh}{ps:ab Prop},fY ρ op o=ae (o2,ps)->o≠.dead:=λhh e=>by subst e;cases hh
 let B:aq->Prop:=λg=>∃(j i:aq)(o:gh)(p:Place),names[j]? =ae i/\s.h.get i=ae o/\mM o=au/\μ i=ae p/\own o p g;have hB:∀ g,B g->w0.wr g/\g<w.heap.size:=λg ⟨j,i,o,p,b1,b2,_,b4,b5⟩=>⟨hR.own_free b2 b4 b5,hR.own_lt b2 b4 b5⟩;have hBn:∀ i o p g,i∉names->s.h.get i=ae o->μ i=ae p->own o p g->¬B g:=λi o p g hi ho hp hg ⟨j,i',o',p',b1,b2,_,b4,b5⟩=>hR.dis i i' o o' p p' (λe=>hi (e ▸ ge b1)) ho b2 hp b4 g hg b5;have hmu0:∀ j q,(⟨yT names μ.pl,μ.fz⟩:Mu) j=ae q->∃i,names[j]? =ae i/\μ i=ae q:=λj q hj=>by have hj:(names[j]?).bind μ.pl=ae q:=hj;cases hx:names[j]? with|none=>rw[hx] at hj;cases hj|some i=>rw[hx] at hj;exact⟨i,rfl,hj⟩
 have inj:∀ j j' i,names[j]? =ae i->names[j']? =ae i->j=j':=λj j' i a b=>gf ((vQ hnd a).symm.trans (vQ hnd b));have R0:R (Base.some w μ.fz B) ⟨yT names μ.pl,μ.fz⟩ s0 w:=by
  refine⟨⟨rfl,rfl,rfl,cw _,λ_ _ _=>rfl⟩,λj hj=>?_,λj o hj hd=>?_,λa b o o' p q hab hao hbo hp hq g hga hgb=>?_,hR.fz,λb O j o q hO hj hq hg=>?_,λb O hO=>.inl ⟨O,hO⟩,λg hg=>by rw[hng0] at hg;cases hg⟩
  ·show(names[j]?).bind μ.pl=av;rw[ei qO];rfl
  ·obtain⟨i,o',b1,b2,b3,_,ps,b4,b5⟩:=h0 j o hj hd;obtain⟨p,p1,p2,p3⟩:=hR.obj i o' b2 (nodead b4);obtain⟨c1,c2,_⟩:=cT (j:=j) (jI names μ μ.fz) (λ_ _ h=>h) b4 b5 p2;refine⟨p,by show(names[j]?).bind μ.pl=ae p;rw[b1];exact p1,c1.base (oE b4),λg hg=>.inl ⟨j,i,o',p,b1,b2,b3,p1,c2 g hg⟩⟩
  ·have da:o≠.dead:=λe=>by subst e;exact hga
   have db:o'≠.dead:=λe=>by subst e;exact hgb
   obtain⟨i,oi,b1,b2,b3,_,ps,b4,b5⟩:=h0 a o hao da;obtain⟨i',oi',c1,c2,c3,_,ps',c4,c5⟩:=h0 b o' hbo db;obtain⟨x,x1,x2⟩:=hmu0 a p hp;rw[b1] at x1;cases x1;obtain⟨y,y1,y2⟩:=hmu0 b q hq;rw[c1] at y1;cases y1;obtain⟨p',p1,p2,_⟩:=hR.obj i oi b2 (nodead b4);rw[x2] at p1;cases p1;obtain⟨q',q1,q2,_⟩:=hR.obj i' oi' c2 (nodead c4);rw[y2] at q1;cases q1;have k1:=(cT (j:=a) (jI names μ μ.fz) (λ_ _ h=>h) b4 b5 p2).2.1 g;have k2:=(cT (j:=b) (jI names μ μ.fz) (λ_ _ h=>h) c4 c5 q2).2.1 g;exact hR.dis i i' oi oi' p q (λe=>hab (inj a b i b1 (e ▸ c1))) b2 c2 x2 y2 g (k1 hga) (k2 hgb)
  ·have dj:o≠.dead:=λe=>by subst e;exact hg
   obtain⟨i,oi,b1,b2,b3,_,ps,b4,b5⟩:=h0 j o hj dj;obtain⟨x,x1,x2⟩:=hmu0 j q hq;rw[b1] at x1;cases x1;obtain⟨p',p1,p2,_⟩:=hR.obj i oi b2 (nodead b4);rw[x2] at p1;cases p1;have k1:=(cT (j:=j) (jI names μ μ.fz) (λ_ _ h=>h) b4 b5 p2).2.1 b;exact hR.fzd b O i oi q hO b2 x2 (k1 hg)
 obtain⟨aps,ha1,ha2⟩:=ha;have hV0:VRs ⟨yT names μ.pl,μ.fz⟩ a0 args':=d9 (cO (jI names μ μ.fz) (λ_ _ h=>h) 6) _ _ _ _ ha1 ha2 hV;obtain⟨vps,hv1,hv2⟩:=hv;have nlen:nm.length=names.length+(s1.next-names.length):=by rw[hnm];simp
 have nmem:∀ i,i∈nm->i∈names\/(s.next<=i/\i<s.next+(s1.next-names.length)):=λi hi=>by
  rw[hnm,eu,fi] at hi;rcases hi with hi|⟨k,hk1,rfl⟩
  ·exact .inl hi
  ·rw[qj] at hk1;exact .inr ⟨qO,qO⟩
 have nnd:nm.Nodup:=by
  rw[hnm];refine ql.2 ⟨hnd,?_,λa ha b hb e=>?_⟩
  ·exact gw.2 (qm.2 ((gw.1 rf).imp λh e=>h qO))
  ·subst e;obtain⟨k,_,rfl⟩:=fi.1 hb;have:=hlt _ ha;omega
 have nat:∀ j i,nm[j]? =ae i->i<s.next->names[j]? =ae i:=λj i hj hi=>by
  rw[hnm] at hj;by_cases hjl:j<names.length
  ·rwa [dt hjl] at hj
  ·rw[eq qO,iw,aj] at hj;obtain⟨k,_,rfl⟩:=hj;omega
 refine(h (Base.some w μ.fz B) ⟨yT names μ.pl,μ.fz⟩ w args' R0 hV0).mono λe w' ⟨u,t,v',ν0,k1,k2,k3,k4,k5⟩=>?_;obtain⟨hu,ht⟩:=k1;rw[ht] at k4;rw[hu] at k5;obtain⟨b1,b2,b3,b4,b5⟩:=k4.below;have hlow:∀ i p,μ i=ae p->i<s.next:=λi p hp=>by
  rcases ey i s.next with h|h
  ·exact h
  ·rw[hR.fresh i h] at hp;cases hp
 have hle:μ.le ⟨cQ nm μ.pl ν0.pl,ν0.fz⟩:=by
  refine⟨λi p hp=>?_,k3.fz⟩;by_cases hi:i∈nm
  ·obtain⟨j,hj⟩:=mg.1 hi;have hjn:=nat j i hj (hlow i p hp);obtain⟨q,q1,q2⟩:=k3.pl j p (by show(names[j]?).bind μ.pl=ae p;rw[hjn];exact hp);exact⟨q,by show cQ nm μ.pl ν0.pl i=ae q;rw[fS nnd hj];exact q1,q2⟩
  ·exact⟨p,by show cQ nm μ.pl ν0.pl i=ae p;rw[dU hi];exact hp,p.sim_refl⟩
 have hok:w0.ok w':=by
  obtain⟨w1,c1,c2,c3,c4,c5,c6⟩:=Base.upds w0 w w' B hB b4 hR.below (names.filterMap λi=>(μ i).map (·.blk));refine w0.garbage w1 w' c1 ⟨b1.trans c2.symm,b2.trans c3.symm,b3.trans c4.symm,qO,λk hk=>?_⟩;rw[c6];by_cases hbk:B k
  ·obtain⟨j,i,o,p,x1,x2,x3,x4,x5⟩:=hbk;have hm:k∈names.filterMap λi=>(μ i).map (·.blk):=sx.2 ⟨i,ge x1,by rw[x4];simp[xX x3 x5]⟩;rw[fc ⟨hm,j,i,o,p,x1,x2,x3,x4,x5⟩]
  ·rw[eh λhh=>hbk hh.2];exact b5 k qO hbk
 have wrB:∀ g,(Base.some w μ.fz B).wr g->w0.wr g:=λg hg=>hg.elim (λhg=>(hB g hg).1) (λhg=>w0.fresh w g hR.below hg);have ren:∀ j o o' i q,(∃ps,fY (uX nm) aa o=ae (o',ps)/\allP ps)->s1.h.get j=ae o->ν0 j=ae q->Hl (Base.some w μ.fz B) ⟨cQ nm μ.pl ν0.pl,ν0.fz⟩ i o' q w'/\(∀ g,own o' q g->own o q g)/\NI o'=true:=λj o o' i q ⟨ps,x1,x2⟩ hj hq=>by obtain⟨q',y1,y2,_⟩:=k4.obj j o hj (nodead x1);rw[hq] at y1;cases y1;obtain⟨z1,z2,_⟩:=cT (j:=i) (t5 nnd μ.pl ν0) (λ_ _ h=>h) x1 x2 y2;exact⟨z1,z2,oE x1⟩
 refine⟨v,s',v',⟨cQ nm μ.pl ν0.pl,ν0.fz⟩,⟨rfl,rfl⟩,k2,hle,⟨hok,λi hi=>?_,λi o' hi hd=>?_,λa b o o' p q hab hao hbo hp hq g hga hgb=>?_,k4.fz,λb O i o' q hO hi hq hg=>?_,λb O hO=>?_,λg hg=>?_⟩,cO (t5 nnd μ.pl ν0) (λ_ _ h=>h) 6 _ _ _ _ hv1 hv2 k5⟩
 ·rw[e2] at hi;show cQ nm μ.pl ν0.pl i=av;rw[dU (λhm=>by
   rcases nmem i hm with hm|hm
   ·have:=hlt i hm;omega
   ·omega)]
  exact hR.fresh i qO
 ·rcases h1 i o' hi hd with⟨j,o,c1,c2,c3⟩|⟨c1,c2⟩
  ·obtain⟨q,q1,q2,q3⟩:=k4.obj j o c2 (by obtain⟨ps,x1,_⟩:=c3;exact nodead x1);obtain⟨z1,z2,z3⟩:=ren j o o' i q c3 c2 q1;exact⟨q,by show cQ nm μ.pl ν0.pl i=ae q;rw[fS nnd c1];exact q1,z1.base z3,λg hg=>wrB g (q3 g (z2 g hg))⟩
  ·obtain⟨p,p1,p2,p3⟩:=hR.obj i o' c2 hd;have hin:i∉names:=λhh=>c1 (by rw[hnm];exact jk _ hh);refine⟨p,by show cQ nm μ.pl ν0.pl i=ae p;rw[dU c1];exact p1,(p2.mono hle).still (λ_ h=>h) b4 (λg hg=>?_),p3⟩;rcases hg with hg|hg
   ·exact b5 g (hR.own_lt c2 p1 hg) (hBn i o' p g hin c2 p1 hg)
   ·exact b5 g (w0.lold _ _ _ hR.below hg) (λhh=>w0.lapart _ _ hg (hB g hh).1)
 ·have da:o≠.dead:=λe=>by subst e;exact hga
  have db:o'≠.dead:=λe=>by subst e;exact hgb
  have side:∀ i x r,s'.h.get i=ae x->x≠.dead->cQ nm μ.pl ν0.pl i=ae r->own x r g->(∃j y,nm[j]? =ae i/\s1.h.get j=ae y/\ν0 j=ae r/\own y r g/\(Base.some w μ.fz B).wr g)\/(i∉names/\s.h.get i=ae x/\μ i=ae r/\g<w.heap.size/\¬B g):=λi x r hi hd hr hg=>by
   rcases h1 i x hi hd with⟨j,y,c1,c2,c3⟩|⟨c1,c2⟩
   ·rw[fS nnd c1] at hr;obtain⟨z1,z2,_⟩:=ren j y x i r c3 c2 hr;have hy:=z2 g hg;exact .inl ⟨j,y,c1,c2,hr,hy,k4.own_free c2 hr hy⟩
   ·rw[dU c1] at hr;have hin:i∉names:=λhh=>c1 (by rw[hnm];exact jk _ hh);exact .inr ⟨hin,c2,hr,hR.own_lt c2 hr hg,hBn i x r g hin c2 hr hg⟩
  rcases side a o p hao da hp hga with⟨j,y,c1,c2,c3,c4,c5⟩|⟨c1,c2,c3,c4,c5⟩
  ·rcases side b o' q hbo db hq hgb with⟨j',y',d1,d2,d3,d4,d5⟩|⟨d1,d2,d3,d4,d5⟩
   ·refine k4.dis j j' y y' p q (λe=>hab ?_) c2 d2 c3 d3 g c4 d4;subst e;rw[c1] at d1;exact gf d1
   ·rcases c5 with c5|c5
    ·exact d5 c5
    ·omega
  ·rcases side b o' q hbo db hq hgb with⟨j',y',d1,d2,d3,d4,d5⟩|⟨d1,d2,d3,d4,d5⟩
   ·rcases d5 with d5|d5
    ·exact c5 d5
    ·omega
   ·exact hR.dis a b o o' p q hab c2 d2 c3 d3 g hga hgb
 ·have di:o'≠.dead:=λe=>by subst e;exact hg
  rcases h1 i o' hi di with⟨j,y,c1,c2,c3⟩|⟨c1,c2⟩
  ·have hq:cQ nm μ.pl ν0.pl i=ae q:=hq;rw[fS nnd c1] at hq;obtain⟨z1,z2,_⟩:=ren j y o' i q c3 c2 hq;exact k4.fzd b O j y q hO c2 hq (z2 b hg)
  ·have hq:cQ nm μ.pl ν0.pl i=ae q:=hq;rw[dU c1] at hq;have hin:i∉names:=λhh=>c1 (by rw[hnm];exact jk _ hh);have hlt':=hR.own_lt c2 hq hg;rcases k4.fzo b O hO with⟨O',hO'⟩|hge|hb'
   ·exact hR.fzd b O' i o' q hO' c2 hq hg
   ·have:w.heap.size<=b:=hge;omega
   ·exact hBn i o' q b hin c2 hq hg hb'
 ·rcases k4.fzo b O hO with⟨O',hO'⟩|hge|hb'
  ·exact hR.fzo b O' hO'
  ·exact w0.wfok b (w0.fresh w b hR.below hge)
  ·exact w0.wfok b (hB b hb').1
 ·rw[e3] at hg;obtain⟨p,p1,p2,p3⟩:=hR.gl g hg;obtain⟨q,q1,q2⟩:=hle.pl g p p1;exact⟨q,q1,by rw[q2.blk,p2],by rw[q2.base,p3]⟩
end
structure SpecN where
 names:ab aq
 a0:ab af
 s0:St
 v0:af
 s1:St
section
variable{P:cq}
end
section
variable{P:cq}
end
def nilR(v v':af):Prop:=v'=v\/(v=.slice av 0 0/\∃a z,v'=.slice (ae a) 0 (UNK+z))
theorem nilR.vr{μ:Mu}{v v' x:af}(h:nilR v v')(k:VR μ v x):VR μ v' x:=by
 rcases h with rfl|⟨rfl,a,z,rfl⟩
 ·exact k
 ·cases k;exact .sliceE
theorem nilR.hv{v v':af}(h:nilR v v'):jN v'=jN v:=by rcases h with rfl|⟨rfl,a,z,rfl⟩<;>rfl
def C5{α:Type}(r:α->α->Prop):bp α->bp α->Prop
 |none,av=>True|some x,ae y=>r x y|_,_=>False
def TrR{α:Type}(r:α->α->Prop):Tr α->Tr α->Prop
 |.lf,.lf=>True|.nd v a b,.nd v' a' b'=>C5 r v v'/\TrR r a a'/\TrR r b b'|_,_=>False
theorem TrR.get{α:Type}{r:α->α->Prop}:∀{t t':Tr α},TrR r t t'->∀ n,C5 r (t.get n) (t'.get n)
 |.lf,.lf,_,n=>by simp[Tr.get,C5]
 |.lf,.nd _ _ _,h,_=>h.elim|.nd _ _ _,.lf,h,_=>h.elim
 |.nd v a b,.nd v' a' b',h,n=>by
  rw[Tr.get_nd,Tr.get_nd];split
  ·exact h.1
  ·split
   ·exact TrR.get h.2.1 _
   ·exact TrR.get h.2.2 _
theorem TrR.set{α:Type}{r:α->α->Prop}:∀(d:aq){t t':Tr α}(n:aq){x x':α},TrR r t t'->r x x'->C5 (TrR r) (ki d t n x) (ki d t' n x'):=by
 intro d;induction d with
 |zero=>intro t t' n x x' _ _;simp[ki,C5]
 |succ d ih=>
  intro t t' n x x' h hx;have lift:∀{a b:bp (Tr α)}{g g':Tr α->Tr α},C5 (TrR r) a b->(∀ u u',TrR r u u'->TrR r (g u) (g' u'))->C5 (TrR r) (a.map g) (b.map g'):=by
   intro a b g g' hab hg;cases a with
   |none=>cases b with|none=>trivial|some b=>exact hab.elim
   |some a=>cases b with|none=>exact hab.elim|some b=>exact hg _ _ hab
  cases t with
  |lf=>cases t' with
   |nd v a b=>exact h.elim
   |lf=>
    simp only[ki];cases bx n 0 with
    |true=>exact⟨hx,trivial,trivial⟩
    |false=>
     simp only[ed];cases bx ((n-1) % 2) 0 with
     |true=>exact lift (ih (t:=.lf) (t':=.lf) _ trivial hx) λu u' hu=>⟨trivial,hu,trivial⟩
     |false=>exact lift (ih (t:=.lf) (t':=.lf) _ trivial hx) λu u' hu=>⟨trivial,trivial,hu⟩
  |nd v a b=>cases t' with
   |lf=>exact h.elim
   |nd v' a' b'=>
    simp only[ki];cases bx n 0 with
    |true=>exact⟨hx,h.2⟩
    |false=>
     simp only[ed];cases bx ((n-1) % 2) 0 with
     |true=>exact lift (ih _ h.2.1 hx) λu u' hu=>⟨h.1,hu,h.2.2⟩
     |false=>exact lift (ih _ h.2.2 hx) λu u' hu=>⟨h.1,h.2.1,hu⟩
def slR{α:Type}(r:α->α->Prop):ab (aq×α)->ab (aq×α)->Prop
 |[],[]=>True|(d,v)::l,(d',v')::l'=>d'=d/\r v v'/\slR r l l'|_,_=>False
theorem jL{α:Type}{r:α->α->Prop}:∀{l l':ab (aq×α)}{t t':Tr α},slR r l l'->TrR r t t'->TrR r (gZ l t) (gZ l' t')
 |[],[],_,_,_,h=>h|[],_::_,_,_,h,_=>h.elim|_::_,[],_,_,h,_=>h.elim
 |(d,v)::l,(d',v')::l',t,t',h,ht=>by
  obtain⟨rfl,h2,h3⟩:=h;have:=TrR.set 64 d' ht h2;simp only[gZ];cases h1:ki 64 t d' v with
  |none=>cases h4:ki 64 t' d' v' with|none=>trivial|some _=>rw[h1,h4] at this;exact this.elim
  |some u=>cases h4:ki 64 t' d' v' with|none=>rw[h1,h4] at this;exact this.elim|some u'=>rw[h1,h4] at this;exact jL h3 this
section
variable{P:cq}{w0:Base}{μ:Mu}{s:St}{w:dh}
def H0:ab ct->St->bp St
 |[],s=>ae s|e::l,s=>match ki 64 s.h s.next (.srow [] e) with|some t=>H0 l {s with h:=t,next:=s.next+1}|none=>av
theorem LP:∀(l:ab ct)(s s2:St)(μ:Mu),R w0 μ s w->H0 l s=ae s2->∃ν,μ.le ν/\R w0 ν s2 w:=by
 intro l;induction l with
 |nil=>intro s s2 μ h ha;cases ha;exact⟨μ,gk _,h⟩
 |cons e l ih=>
  intro s s2 μ h ha;simp only[H0] at ha;split at ha
  ·rename_i t ht;have h2:=h.add (p:=⟨0,0,0,eJ⟩) ht (λ_=>.inl ⟨rfl,rfl⟩) (λg hg=>(hg.1.elim (λh=>h rfl) (λh=>h rfl)).elim) (λi o' q _ _ _ g _ hg=>(hg.1.elim (λh=>h rfl) (λh=>h rfl)).elim)
    (λb O _ hg=>(hg.1.elim (λh=>h rfl) (λh=>h rfl)).elim)
   obtain⟨ν,k1,k2⟩:=ih _ _ _ h2 ha;exact⟨ν,no (Mu.put_le (h.fresh _ (cw _))) k1,k2⟩
  ·cases ha
def uR(o o':gh):Prop:=o'=o\/∃c c' e,o=.row aa c e/\o'=.row aa c' e/\aw c'=c.length/\∀(j:aq) v',c'[j]? =ae v'->∃v,c[j]? =ae v/\nilR v v'
theorem Q2{s2:St}(h:R w0 μ s w)(ht:TrR uR s.h s2.h)(e2:s2.next=s.next)(e3:s2.ng=s.ng):R w0 μ s2 w:=by
 have key:∀ i o',s2.h.get i=ae o'->∃o,s.h.get i=ae o/\uR o o':=λi o' hi=>by have:=ht.get i;rw[hi] at this;cases ho:s.h.get i with|none=>rw[ho] at this;exact this.elim|some o=>rw[ho] at this;exact⟨o,rfl,this⟩
 have hown:∀{o o':gh}{p:Place}{g:aq},uR o o'->own o' p g->own o p g:=by
  intro o o' p g hr hg;rcases hr with rfl|⟨c,c',e,rfl,rfl,_⟩
  ·exact hg
  ·exact hg
 refine⟨h.below,λi hi=>h.fresh i qO,λi o' hi hd=>?_,λi j x y p q hij hi hj hp hq g hg hg2=>?_,h.fz,λb O i x p hb hi hp hg=>?_,h.fzo,λg hg=>h.gl g qO⟩
 ·obtain⟨o,ho,hr⟩:=key i o' hi;have hdo:o≠.dead:=λe=>by
   rcases hr with rfl|⟨_,_,_,e1,_⟩
   ·exact hd e
   ·rw[e] at e1;cases e1
  obtain⟨p,h1,h2,h3⟩:=h.obj i o ho hdo;refine⟨p,h1,?_,λg hg=>h3 g (hown hr hg)⟩;rcases hr with rfl|⟨c,c',e,rfl,rfl,hl,hc⟩
  ·exact h2
  ·obtain⟨cur,k1,k2,k3,k4⟩:=h2;refine⟨cur,k1,k2,qO,λj v' hj=>?_⟩;obtain⟨v,m1,m2⟩:=hc j v' hj;obtain⟨u,m3,m4⟩:=k4 j v m1;exact⟨u,m3,m2.vr (show VR μ v u from m4)⟩
 ·obtain⟨o1,a1,a2⟩:=key i x hi;obtain⟨o2,b1,b2⟩:=key j y hj;exact h.dis i j o1 o2 p q hij a1 b1 hp hq g (hown a2 hg) (hown b2 hg2)
 ·obtain⟨o1,a1,a2⟩:=key i x hi;exact h.fzd b O i o1 p hb a1 hp (hown a2 hg)
theorem Ex.nils(l:ab ct){n0:aq}{cs:ab gy}{os os2:ab (aq×gh)}{next next2 ng:aq}{sl sl2:ab (aq×af)}{n:aq}{Q:HX->St->HF->Prop}(s1:St)(hadd:H0 l (aH os next ng)=ae s1)(hos:TrR uR s1.h (aH os2 next2 ng).h)(hn:s1.next=next2)(hg:s1.ng=ng)(hsl:slR nilR sl sl2)(h:Ex P n0 cs (aH os2 next2 ng) (mkF sl2 n) Q):Ex P n0 cs (aH os next ng) (mkF sl n) Q:=by
 intro w0 μ w a hR hA;obtain⟨ν,k1,k2⟩:=LP l _ _ μ hR hadd;have hR2:=Q2 k2 hos hn.symm hg.symm;have ht:=jL (t:=Tr.lf) (t':=Tr.lf) hsl trivial;have hA2:AR ν (mkF sl2 n) a:=by
  refine⟨hA.size,λd hd hv=>?_,hA.ds.mono k1⟩;have hget:=ht.get d;have hv1:=hA.vals d hd;unfold HF.get at hv hv1 ⊢;simp only[mkF] at hv hv1 ⊢;cases h1:(gZ sl .lf).get d with
  |none=>cases h2:(gZ sl2 .lf).get d with|none=>rw[h2] at hv;cases hv|some _=>rw[h1,h2] at hget;exact hget.elim
  |some x=>cases h2:(gZ sl2 .lf).get d with|none=>rw[h1,h2] at hget;exact hget.elim|some y=>rw[h1,h2] at hget;rw[h1] at hv1;rw[h2] at hv;simp only[ni] at hv hv1 ⊢;have hr:nilR x y:=hget;rw[hr.hv] at hv;exact hr.vr ((hv1 hv).mono k1)
 refine cI (λe a' w' hq=>?_) _ _ _ (h w0 ν w a hR2 hA2);obtain⟨x,s',f',q1,q2,ν',q3,q4⟩:=hq;exact⟨x,s',f',q1,q2,ν',(k1.leN n0).trans q3,q4⟩
end
inductive PA where
 |arg (i:aq)
 |argc (i c:aq)
 |cell (j c:aq)
inductive KD where
 |row (e:ct)
 |opn (e:ct)
 |srw (e:ct)
def KD.obj:KD->ab af->gh
 |.row e,c=>.row aa c e|.opn e,c=>.row au c e|.srw e,c=>.srow c e
def DB:af->bp aq
 |.pointer (ae ⟨i,0,av⟩)=>ae i|.slice (ae ⟨i,0,av⟩) _ _=>ae i|_=>av
def j9(args:ab af)(h:Tr gh):ab PA->ab aq->bp (ab aq)
 |[],ns=>ae ns
 |.arg i::l,ns=>match(args[i]?).bind DB with
  |some n=>j9 args h l (ns++[n])|none=>av
 |.argc i c::l,ns=>match args[i]? with
  |some (.agg cs)=>match(cs.toList[c]?).bind DB with
   |some n=>j9 args h l (ns++[n])|none=>av
  |_=>av
 |.cell j c::l,ns=>match(ns[j]?).bind h.get with
  |some (.row aa cs _)=>match(cs[c]?).bind DB with
   |some n=>j9 args h l (ns++[n])|none=>av
  |_=>av
abbrev bB:=ab af->ab (ab af)->af->ab (ab af)->Prop
structure CSpec where
 pas:ab PA
 kds:ab KD
 rel:bB
 nks:ab KD:=[]
def stO:ab KD->ab (ab af)->aq->ab (aq×gh)
 |k::ks,c::cs,i=>(i,k.obj c)::stO ks cs (i+1)|_,_,_=>[]
def stN(ks:ab KD)(cs:ab (ab af)):St:=aH (stO ks cs 0) ks.length 0
def xE(e e':ct)(c:ab af):bp (ab af×ab Prop):=bif bx e e' then ae (c,[]) else av
def AI(ρ:ab (aq×RT)):KD->gh->bp (ab af×ab Prop)
 |.row e,.row aa c e'=>bif bx e e' then pK (dV ρ 4) c else av
 |.opn e,.row au c e'=>xE e e' c|.opn e,.row aa c e'=>bif c.all (idf 0) then xE e e' c else av
 |.srw e,.row au c e'=>xE e e' c|.srw e,.srow c e'=>xE e e' c|_,_=>av
def yE(ρ:ab (aq×RT))(h:Tr gh):ab KD->ab aq->bp (ab (ab af)×ab Prop)
 |[],[]=>ae ([],[])
 |k::ks,n::ns=>match h.get n with
  |some o=>match AI ρ k o with
   |some (c,p)=>match yE ρ h ks ns with
    |some (cs,q)=>ae (c::cs,p++q)|none=>av
   |none=>av
  |none=>av
 |_,_=>av
def E6:ab KD->St->bp (ab (ab af)×St)
 |[],s=>ae ([],s)
 |_::l,s=>match sJ s with
  |some (c,s1)=>match E6 l s1 with
   |some (cs,s2)=>ae (c::cs,s2)|none=>av
  |none=>av
def uT(ρ:ab (aq×RT)):KD->ab af->bp (gh×ab Prop)
 |.row e,c=>(pK (dV ρ 4) c).map λr=>(.row aa r.1 e,r.2)
 |k,c=>ae (k.obj c,[])
def tZ(ρ:ab (aq×RT)):ab KD->ab (ab af)->ab aq->Tr gh->bp (Tr gh×ab Prop)
 |[],[],[],t=>ae (t,[])
 |k::ks,c::cs,n::ns,t=>match uT ρ k c with
  |some (o,p)=>match ki 64 t n o with
   |some t'=>match tZ ρ ks cs ns t' with
    |some (t2,q)=>ae (t2,p++q)|none=>av
   |none=>av
  |none=>av
 |_,_,_,_=>av
def JW(ps:ab Prop)(s:St):bp St:=match ps with|[]=>ae s|p::l=>dK (allP (p::l)) s
def nmO(names:ab aq)(next:aq)(nks:ab KD):ab Nat:=names++(mf nks.length).map (next+·)
def iR(l:ab (ia×CSpec)):aS:=λg args s=>match hJ l g with
 |some x=>match j9 args s.h x.pas [] with
  |some names=>bif pW names&&names.all (λi=>em i s.next)&&bx names.length x.kds.length&&dg (x.kds++x.nks).length 64 then
   match yE (rIn names) s.h x.kds names,pK (dV (rIn names) 6) args with
   |some (cs,p1),ae (a2,p2)=>match sJ s with
    |some ([v0],s1)=>match E6 (x.kds++x.nks) s1 with
     |some (cs',s2)=>match tZ (uX (nmO names s.next x.nks)) (x.kds++x.nks) cs' (nmO names s.next x.nks) s2.h,dV (uX (nmO names s.next x.nks)) 6 v0 with
      |some (t2,p3),ae (v,p4)=>match dK (x.rel a2 cs v0 cs') s2 with
       |some s3=>match JW (p1++(p2++(p3++p4))) s3 with
        |some s4=>ae (v,{s4 with h:=t2,next:=s.next+x.nks.length})|none=>av
       |none=>av
      |_,_=>av
     |none=>av
    |_=>av
   |_,_=>av
  else av
  |none=>av
 |none=>av
section
variable{P:cq}
theorem qN{e e':ct}{c d:ab af}{ps:ab Prop}(h:xE e e' c=ae (d,ps)):e=e'/\d=c/\ps=[]:=by unfold xE at h;obtain⟨hb,h⟩:=aD h;cases h;exact⟨(aI _ _).1 hb,rfl,rfl⟩
theorem xF{ρ:ab (aq×RT)}{k:KD}{o:gh}{c:ab af}{ps:ab Prop}(h:AI ρ k o=ae (c,ps)):∃op,fY ρ op o=ae (k.obj c,ps):=by
 unfold AI at h;split at h
 ·obtain⟨hb,h⟩:=aD h;rw[(aI _ _).1 hb];exact⟨aa,by simp only[fY,ed,h];rfl⟩
 ·obtain⟨rfl,rfl,rfl⟩:=qN h;exact⟨aa,rfl⟩
 ·obtain⟨hb,h⟩:=aD h;obtain⟨rfl,rfl,rfl⟩:=qN h;exact⟨au,by simp only[fY,hb,de];rfl⟩
 ·obtain⟨rfl,rfl,rfl⟩:=qN h;exact⟨au,rfl⟩
 ·obtain⟨rfl,rfl,rfl⟩:=qN h;exact⟨au,rfl⟩
 ·cases h
theorem uS{ρ:ab (aq×RT)}{k:KD}{c:ab af}{o:gh}{ps:ab Prop}(h:uT ρ k c=ae (o,ps)):fY ρ aa (k.obj c)=ae (o,ps):=by
 unfold uT at h;split at h
 ·exact h
 ·cases h;cases k with|row e=>rename_i hk;exact cp rfl (hk e)|opn e=>rfl|srw e=>rfl
theorem MH:∀(ks:ab KD)(cs:ab (ab af))(i j:aq)(o:gh),(j,o)∈stO ks cs i->∃n k c,j=i+n/\ks[n]? =ae k/\cs[n]? =ae c/\o=k.obj c:=by
 intro ks;induction ks with
 |nil=>intro cs i j o h;cases cs<;>cases h
 |cons k ks ih=>
  intro cs i j o h;cases cs with
  |nil=>cases h
  |cons c cs=>
   rcases ci.1 h with h|h
   ·cases h;exact⟨0,k,c,rfl,rfl,rfl,rfl⟩
   ·obtain⟨n,k',c',h1,h2,h3,h4⟩:=ih cs (i+1) j o h;exact⟨n+1,k',c',qO,h2,h3,h4⟩
theorem EY{ks:ab KD}{cs:ab (ab af)}{j:aq}{o:gh}(h:(stN ks cs).h.get j=ae o):∃k c,ks[j]? =ae k/\cs[j]? =ae c/\o=k.obj c:=by
 rcases qV _ _ _ _ (show(gZ (stO ks cs 0) .lf).get j=ae o from h) with h|h
 ·obtain⟨n,k,c,rfl,h2,h3,h4⟩:=MH _ _ _ _ _ h;rw[fu];exact⟨k,c,h2,h3,h4⟩
 ·cases h
theorem Tr.set_lt{α:Type}:∀(d:aq)(t:Tr α)(n:aq)(x:α),n<d->∃t',ki d t n x=ae t':=by
 intro d;induction d with
 |zero=>intro t n x h;omega
 |succ d ih=>
  intro t n x h;cases t with
  |lf=>
   rw[ki];by_cases hn:n=0
   ·subst hn;exact⟨_,rfl⟩
   ·have hb:bx n 0=false:=by cases hb:bx n 0 with|false=>rfl|true=>exact cp ((aI _ _).1 hb) hn
    obtain⟨t',ht⟩:=ih .lf ((n-1) / 2) x qO;rw[hb,ht];cases bx ((n-1) % 2) 0<;>exact⟨_,rfl⟩
  |nd v l r=>
   rw[ki];by_cases hn:n=0
   ·subst hn;exact⟨_,rfl⟩
   ·have hb:bx n 0=false:=by cases hb:bx n 0 with|false=>rfl|true=>exact cp ((aI _ _).1 hb) hn
    obtain⟨t1,h1⟩:=ih l ((n-1) / 2) x qO;obtain⟨t2,h2⟩:=ih r ((n-1) / 2) x qO;rw[hb,h1,h2];cases bx ((n-1) % 2) 0<;>exact⟨_,rfl⟩
theorem MI:∀(ks:ab KD)(cs:ab (ab af))(i:aq)(t:Tr gh),ks.length=cs.length->i+ks.length<=64->(∀ m,m<i->(gZ (stO ks cs i) t).get m=t.get m)/\∀(j:aq)(k:KD)(c:ab af),ks[j]? =ae k->cs[j]? =ae c->(gZ (stO ks cs i) t).get (i+j)=ae (k.obj c):=by
 intro ks;induction ks with
 |nil=>intro cs i t _ _;exact⟨λm _=>(by cases cs<;>rfl),λj k c hk=>by simp at hk⟩
 |cons k0 ks ih=>
  intro cs i t hl hi;cases cs with
  |nil=>simp at hl
  |cons c0 cs=>
   obtain⟨t',ht⟩:=Tr.set_lt 64 t i (k0.obj c0) (by simp at hi;omega);have e:gZ (stO (k0::ks) (c0::cs) i) t=gZ (stO ks cs (i+1)) t':=by simp only[stO,gZ,ht]
   obtain⟨a,b⟩:=ih cs (i+1) t' (by simpa using hl) (by simp at hi;omega);rw[e];refine⟨λm hm=>by rw[a m qO,jh _ _ _ _ _ ht,eh qO],λj k c hk hc=>?_⟩;cases j with|zero=>simp at hk hc;subst hk;subst hc;show(gZ (stO ks cs (i+1)) t').get i=_;rw[a i qO,jh _ _ _ _ _ ht,fc rfl]|succ j=>have:=b j k c (by simpa using hk) (by simpa using hc);rw[show i+(j+1)=i+1+j by omega];exact this
theorem QS{ks:ab KD}{cs:ab (ab af)}(hl:ks.length=cs.length)(h:ks.length<=64){j:aq}{k:KD}{c:ab af}(hk:ks[j]? =ae k)(hc:cs[j]? =ae c):(stN ks cs).h.get j=ae (k.obj c):=by
 have:=(MI ks cs 0 .lf hl qO).2 j k c hk hc
 rwa [fu] at this
theorem GH{ρ:ab (aq×RT)}{h:Tr gh}:∀{ks:ab KD}{ns:ab aq}{cs:ab (ab af)}{ps:ab Prop},yE ρ h ks ns=ae (cs,ps)->allP ps->∀(j:aq)(k:KD)(c:ab af),ks[j]? =ae k->cs[j]? =ae c->∃i o' op qs,ns[j]? =ae i/\h.get i=ae o'/\mM o'=au/\fY ρ op o'=ae (k.obj c,qs)/\allP qs:=by
 intro ks;induction ks with
 |nil=>intro ns cs ps _ _ j k c hk;simp at hk
 |cons k0 ks ih=>
  intro ns cs ps hh hp j k c hk hc;cases ns with
  |nil=>cases hh
  |cons n ns=>
   simp only[yE] at hh;split at hh
   ·rename_i o ho;split at hh
    ·rename_i c0 p0 hr;split at hh
     ·rename_i cs0 q0 hrest;cases hh;obtain⟨a,b⟩:=aV hp;cases j with
      |zero=>simp at hk hc;subst hk;subst hc;obtain⟨op,e⟩:=xF hr;refine⟨n,o,op,p0,rfl,ho,?_,e,a⟩;cases o<;>first|rfl|(cases k0<;>cases hr)
      |succ j=>exact ih hrest b j k c (by simpa using hk) (by simpa using hc)
     ·cases hh
    ·cases hh
   ·cases hh
theorem CQ{ρ:ab (aq×RT)}:∀{ks:ab KD}{cs:ab (ab af)}{ns:ab aq}{t t2:Tr gh}{ps:ab Prop},tZ ρ ks cs ns t=ae (t2,ps)->allP ps->ns.Nodup->ks.length=cs.length/\(∀ i,i∉ns->t2.get i=t.get i)/\∀(j i:aq),ns[j]? =ae i->∃k c o' qs,ks[j]? =ae k/\cs[j]? =ae c/\t2.get i=ae o'/\fY ρ aa (k.obj c)=ae (o',qs)/\allP qs:=by
 intro ks;induction ks with
 |nil=>
  intro cs ns t t2 ps hh _ _;cases cs with
  |nil=>cases ns with|nil=>cases hh;exact⟨rfl,λ_ _=>rfl,λj i hi=>by simp at hi⟩|cons _ _=>cases hh
  |cons _ _=>cases hh
 |cons k ks ih=>
  intro cs ns t t2 ps hh hp hnd;cases cs with
  |nil=>cases hh
  |cons c cs=>cases ns with
   |nil=>cases hh
   |cons n ns=>
    simp only[tZ] at hh;split at hh
    ·rename_i o p0 hr;split at hh
     ·rename_i t' ht;split at hh
      ·rename_i t3 q0 hrest;cases hh;obtain⟨a,b⟩:=aV hp;rw[ry] at hnd;obtain⟨e1,e2,e3⟩:=ih hrest b hnd.2;refine⟨by simp[e1],λi hi=>?_,λj i hj=>?_⟩
       ·rw[ci,not_or] at hi;rw[e2 i hi.2,jh _ _ _ _ _ ht,eh hi.1]
       ·cases j with|zero=>simp at hj;subst hj;exact⟨k,c,o,p0,rfl,rfl,by rw[e2 _ hnd.1,jh _ _ _ _ _ ht,fc rfl],uS hr,a⟩|succ j=>simpa using e3 j i (by simpa using hj)
      ·cases hh
     ·cases hh
    ·cases hh
theorem vA:∀{l:ab KD}{s s':St}{cs:ab (ab af)},E6 l s=ae (cs,s')->s.like s'/\cs.length=l.length
 |[],s,s',cs,h=>by cases h;exact⟨s.like_refl,rfl⟩
 |k::l,s,s',cs,h=>by
  simp only[E6] at h;split at h
  ·rename_i h1;split at h
   ·rename_i h2;cases h;obtain⟨a,b⟩:=vA h2;exact⟨(cE h1).trans a,by simp[b]⟩
   ·cases h
  ·cases h
theorem vH{ps:ab Prop}{s s':St}(h:JW ps s=ae s'):s.like s'/\(SOK s'->allP ps):=by cases ps with|nil=>cases h;exact⟨s.like_refl,λ_=>allP.nil⟩|cons p l=>exact aY h
def F4(P:cq)(g:ia)(x:CSpec):Prop:=∀ a cs v cs',x.rel a cs v cs'->FnEx P g a (stN x.kds cs) (λu t=>u=v/\t=stN (x.kds++x.nks) cs')
theorem LG{l:ab (ia×CSpec)}(h:∀ g x,(g,x)∈l->F4 P g x):aR P (iR l):=by
 intro s s' g args v hc;unfold iR at hc;split at hc
 ·rename_i x hx;split at hc
  ·rename_i names hnm;obtain⟨hb,hc⟩:=aD hc;simp only[bu,fq,aI] at hb;obtain⟨⟨⟨b1,b2⟩,b3⟩,b4⟩:=hb;split at hc
   ·rename_i cs p1 a2 p2 hri hra;split at hc
    ·rename_i v0 s1 hp;split at hc
     ·rename_i cs' s2 hps;split at hc
      ·rename_i t2 p3 v1 p4 hro hrv;split at hc
       ·rename_i s3 hn;split at hc
        ·rename_i s4 hl;cases hc;obtain⟨k1,k2⟩:=aY hn;obtain⟨k3,k4⟩:=vH hl;obtain⟨k5,k6⟩:=vA hps;have hlike:s.like s4:=((cE hp).trans k5).trans (k1.trans k3);refine⟨dy (b:=s4) hlike.sub ⟨[],rfl⟩,λok w0 μ w args' hR hV=>?_⟩;have ok4:SOK s4:=λp hp=>ok p hp;have hrel:=k2 (gd k3.sub ok4);obtain⟨q1,q'⟩:=aV (k4 ok4);obtain⟨q2,q'⟩:=aV q';obtain⟨q3,q4⟩:=aV q';have hnd0:=fC b1;have hlt:∀ i∈names,i<s.next:=λi hi=>by have:=b2 i hi;simp[em] at this;omega
         have hnd:(nmO names s.next x.nks).Nodup:=by
          unfold nmO;refine ql.2 ⟨hnd0,?_,λa ha b hb e=>?_⟩
          ·exact gw.2 (qm.2 ((gw.1 rf).imp λh e=>h qO))
          ·subst e;obtain⟨k,_,rfl⟩:=fi.1 hb;have:=hlt _ ha;omega
         obtain⟨r1,r2,r3⟩:=CQ hro q3 hnd;have e2h:s2.h=s.h:=k5.h.trans (cE hp).h;have hlen:(x.kds++x.nks).length-names.length=x.nks.length:=by rw[cg,b3];omega
         have:=FnEx.frameN (s:=s) (s':={s with h:=t2,next:=s.next+x.nks.length}) (nm:=nmO names s.next x.nks) (h g x (fD hx) _ _ _ _ hrel) hnd0 (by show x.kds.length=_;exact b3.symm) rfl
          hlt
          (λj o ho hd=>by
           obtain⟨k,c,e1,e2,rfl⟩:=EY ho;obtain⟨i,o',op,qs,f1,f2,f3,f4,f5⟩:=GH hri q1 j k c e1 e2;exact⟨i,o',f1,f2,f3,op,qs,f4,f5⟩)
          ⟨p2,hra,q2⟩ (by show nmO names s.next x.nks=names++(mf ((x.kds++x.nks).length-names.length)).map _;rw[hlen];rfl)
          (λi o' ho' hd=>by
           by_cases hi:i∈nmO names s.next x.nks
           ·obtain⟨j,hj⟩:=mg.1 hi;obtain⟨k,c,o2,qs,m1,m2,m3,m4,m5⟩:=r3 j i hj;have ho':t2.get i=ae o':=ho';rw[m3] at ho';cases ho';refine .inl ⟨j,k.obj c,hj,?_,qs,m4,m5⟩;exact QS r1 (bK b4) m1 m2
           ·have ho':t2.get i=ae o':=ho';rw[r2 i hi,e2h] at ho';exact .inr ⟨hi,ho'⟩)
          (by show s.next+x.nks.length=s.next+((x.kds++x.nks).length-names.length);rw[hlen]) rfl ⟨p4,hrv,q4⟩
         refine(this w0 μ w args' hR hV).mono λe w' ⟨u,t,v9,ν,m1,m2,m3,m4,m5⟩=>?_;obtain⟨rfl,rfl⟩:=m1;exact⟨v9,ν,m2,m3,m4.same rfl rfl hlike.ng,m5⟩
        ·cases hc
       ·cases hc
      ·cases hc
     ·cases hc
    ·cases hc
   ·cases hc
  ·cases hc
 ·cases hc
end
theorem dS{P:cq}{l:ab (ia×CSpec)}(h:∀ g x,(g,x)∈l->F4 P g x:=by
 intro g x hm;simp only[List.mem_cons,Prod.mk.injEq,List.not_mem_nil,or_false] at hm
 repeat(rcases hm with⟨rfl,rfl⟩|hm;exact λ_ _ _ _ h=>h)
 all_goals(obtain⟨rfl,rfl⟩:=hm;exact λ_ _ _ _ h=>h)):aR P (iR l):=LG h
def mD(P:cq)(g:aq):Code:=match P.funcs[g]? with|some fn=>fn.body.getD .skip|none=>.skip
def pcs(P:cq)(g:aq):ab Code:=aU (mD P g)
def nth(l:ab gy)(k:aq):Code:=l.getD k .skip
def aJ:gy->gy
 |.block _ (.loop c)=>c|_=>.skip
def TW:gy->im
 |.cond c _ _=>c|_=>.tmp 0
def TS:gy->gy
 |.cond _ _ b=>b|_=>.skip
def jG:gy->gy
 |.cond _ a _=>a|_=>.skip
def xK:HX->cz
 |.exit _=>aa|_=>au
def tK(P:cq)(call:aS)(lf:aq)(fn:rl)(cs:ab gy)(s:St)(f:HF)(π:ab cz)(ω:ab (ab af))(C:Cut):bp (af×ab (aq×gh)×ab Prop):=match rH P call lf cs (s.ask π ω) f with
 |some (x,s1,f1)=>bif xK x&&(f1.ds.isEmpty&&C.okB s1)&&bx s1.ng s.ng then
  match pD P f1 fn.results.toList s1 with
  |some (r,s2)=>match iL s2 C.ices with
   |some (s3,p1)=>match gO C.ρ s3 C.objs,dV C.ρ 6 (vU r) with
    |some (os,p2),ae (v,p3)=>ae (v,os,s2.pc++(p1++p2++p3))|_,_=>av
   |none=>av
  |none=>av
  else av
 |none=>av
section
variable{P:cq}
theorem FinQ.mk2{fn:rl}{s1 s2 s3:St}{f:HF}{C:Cut}{v:af}{rs:ab af}{os:ab (aq×gh)}{p1 p2 p3:ab Prop}{Q:af->St->Prop}{x:HX}(hx:xK x=au)(hd:f.ds.isEmpty=au)(hok:C.okB s1=au)(hr:pD P f fn.results.toList s1=ae (rs,s2))(hi:iL s2 C.ices=ae (s3,p1))(ho:gO C.ρ s3 C.objs=ae (os,p2))(hv:dV C.ρ 6 (vU rs)=ae (v,p3))(ok:SOK s2)(h1:allP p1)(h2:allP p2)(h3:allP p3)(hq:Q v (aH os C.next s1.ng)):FinQ P fn C.n0 Q x s1 f:=by
 refine⟨(match x,hx with|.normal,_=>.inl rfl|.ret,_=>.inr rfl),λw0 μ w a hR hA=>?_⟩;have hlike:=gJ _ _ _ _ hr;obtain⟨u,k1,k2⟩:=gN hR hA hr ok;have hR1:R w0 μ s2 w:=hR.like hlike;have hok2:C.okB s2=true:=by unfold Cut.okB at hok ⊢;rw[hlike.ng];exact hok
 obtain⟨ν1,m1,m2,m3,m4,m5,m6⟩:=uF hok2 hR1 hi h1;have hcut:=FW hok2 hR1 m2 m3 m4 m5 ho h2;rw[hlike.ng] at hcut;refine⟨?_,v,_,u,_,hq,k1,m6,hcut,cO m4 (λ_ _ h=>h) _ _ _ _ _ hv h3 (k2.mono m1)⟩;have he:f.ds=[]:=by simpa using hd
 have:=hA.ds;rw[he] at this;generalize a.defers=l at this ⊢;cases this;rfl
theorem Ex.leaf(hg:NoG P){call:aS}(hc:aR P call){fn:rl}{l:ab gy}{s:St}{f:HF}(π:ab cz)(ω:ab (ab af))(C:Cut){v:af}{os:ab (aq×gh)}{ps:ab Prop}{n0:aq}{Q:af->St->Prop}(hn:C.n0=n0)(hp:allP ps)(hq:Q v (aH os C.next s.ng))(hr:tK P call 40 fn l s f π ω C=ae (v,os,ps)):Ex P n0 l s f (FinQ P fn n0 Q):=by
 subst hn;intro w0 μ w a hR hA;unfold tK at hr;split at hr
 ·rename_i x s1 f1 hl;obtain⟨hb,hr⟩:=aD hr;simp only[bu,aI] at hb;obtain⟨⟨b1,b2,b3⟩,b4⟩:=hb;split at hr
  ·rename_i r s2 hres;split at hr
   ·rename_i s3 p1 hi;split at hr
    ·rename_i os' p2 v' p3 ho hv;cases hr;obtain⟨h1,h4⟩:=aV hp;obtain⟨h2,h3⟩:=aV h4;obtain⟨h2,h5⟩:=aV h2;have hlike:=gJ _ _ _ _ hres;have ok1:SOK s1:=gd hlike.sub h1;refine cI (λe a' w' ⟨he,μ',k1,k2,k3⟩=>?_) _ _ _ (nG hg hc 40 l μ _ s1 w f f1 a x (CB hR) hA hl ok1);exact⟨x,s1,f1,he,FinQ.mk2 b1 b2 b3 hres hi ho hv h1 h2 h5 h3 (by rw[b4];exact hq),μ',k1.leN _,k2,k3⟩
    ·cases hr
   ·cases hr
  ·cases hr
 ·cases hr
theorem FnEx.leaf(hg:NoG P){call:aS}(hc:aR P call){g:ia}{fn:rl}{args:ab af}{s:St}(π:ab cz)(ω:ab (ab af))(C:Cut){v:af}{os:ab (aq×gh)}{ps:ab Prop}{Q:af->St->Prop}(hf:P.funcs[g]? =ae fn)(hb:fn.body.isSome=au)(ht:(iP 0 args .lf).isSome=au)(hn:C.n0=s.next)(hp:allP ps)(hq:Q v (aH os C.next s.ng))(hr:tK P call 40 fn (pcs P g) s (bX args fn.ntmps) π ω C=ae (v,os,ps)):FnEx P g args s Q:=by
 obtain⟨c,hb⟩:=js.1 hb;have e:pcs P g=aU c:=by unfold pcs mD;rw[hf];simp[hb]
 rw[e] at hr;exact FnEx.enter hf hb ht rfl (Ex.leaf hg hc π ω C hn hp hq hr)
end
def aCF(P:cq)(g:ia)(kds nks:ab KD):bB:=λa cs v cs'=>FnEx P g a (stN kds cs) (λu t=>u=v/\t=stN (kds++nks) cs')
def dG(P:cq)(g:ia)(kds:ab KD):bB:=λa cs v cs'=>FnEx P g a (stN kds cs) (λu t=>u=v/\t=stN kds cs')
theorem uM{l:ab af}{z:aq}(h:l.all (λv=>bx v.cells.size z)=au):∀ v∈l,v.cells.size=z:=λv hv=>(aI _ _).1 (fq.1 h v hv)
theorem aX(z:aq)(es:ab af)(h:es.all (λv=>bx v.cells.size z)=au)(hz:em 0 z=au):aB es=aB es/\(∀ v∈es,v.cells.size=z)/\0<z:=⟨rfl,uM h,bN hz⟩
theorem T2{b:cz}(h:(b==aa)=au):b=false:=by cases b<;>simp_all
theorem YL{b:cz}(h:(b==aa)=aa):b=true:=by cases b<;>simp_all
theorem T1{b:cz}(h:(b==au)=au):b=true:=by cases b<;>simp_all
theorem YK{b:cz}(h:(b==au)=aa):b=false:=by cases b<;>simp_all
theorem tt:au=true:=rfl
theorem ff:aa=false:=rfl
theorem tst{b:cz}{A B G:Prop}(h:(b=au->A)/\(b=aa->B))(x:b=au->A->G)(y:b=aa->B->G):G:=by cases hb:b with|true=>exact x hb (h.1 hb)|false=>exact y hb (h.2 hb)
section
variable{P:cq}
def ExD(P:cq)(n0:aq)(cs:ab gy)(s:St)(f:HF)(x:HX)(s':St)(f':HF):Prop:=Ex P n0 cs s f (λx0 s0 f0=>x0=x/\s0=s'/\f0=f')
def ExE(P:cq)(fn:rl)(n0:aq)(cs:ab gy)(s:St)(f:HF)(v:af)(t:St):Prop:=Ex P n0 cs s f (FinQ P fn n0 (λu s'=>u=v/\s'=t))
theorem FnEx.leafE(hg:NoG P){call:aS}(hc:aR P call){g:ia}{fn:rl}{args:ab af}{s:St}(π:ab cz)(ω:ab (ab af))(C:Cut){v:af}{os:ab (aq×gh)}{ps:ab Prop}{Q:af->St->Prop}(hf:P.funcs[g]? =ae fn)(hb:fn.body.isSome=au)(ht:(iP 0 args .lf).isSome=au)(hn:C.n0=s.next)(hp:allP ps)(hq:Q v (aH os C.next s.ng))(hr:tK P call 40 fn (pcs P g) s (bX args fn.ntmps) π ω C=ae (v,os,ps)):∃v t,Q v t/\FnEx P g args s (λu s'=>u=v/\s'=t):=⟨_,_,hq,FnEx.leaf hg hc π ω C hf hb ht hn hp ⟨rfl,rfl⟩ hr⟩
theorem Ex.leafE(hg:NoG P){call:aS}(hc:aR P call){fn:rl}{l:ab gy}{s:St}{f:HF}(π:ab cz)(ω:ab (ab af))(C:Cut){v:af}{os:ab (aq×gh)}{ps:ab Prop}{n0:aq}{Q:af->St->Prop}(hn:C.n0=n0)(hp:allP ps)(hq:Q v (aH os C.next s.ng))(hr:tK P call 40 fn l s f π ω C=ae (v,os,ps)):∃v t,Q v t/\ExE P fn n0 l s f v t:=⟨_,_,hq,Ex.leaf hg hc π ω C hn hp ⟨rfl,rfl⟩ hr⟩
theorem Ex.segE(hg:NoG P){call:aS}(hc:aR P call){n0:aq}{l:ab gy}{s:St}{f:HF}{Q:HX->St->HF->Prop}(π:ab cz)(ω:ab (ab af))(C:Cut){x:HX}{os:ab (aq×gh)}{sl:ab (aq×af)}{ps:ab Prop}{next ng n:aq}(hn:(bx C.n0 n0&&bx C.next next&&bx s.ng ng&&bx f.n n)=au)(hp:allP ps)(h:Q x (aH os next ng) (mkF sl n))(hr:aW P call 40 l s f π ω C=ae (x,os,sl,ps)):∃x s' f',Q x s' f'/\ExD P n0 l s f x s' f':=by simp only[bu,aI] at hn;obtain⟨⟨⟨rfl,rfl⟩,rfl⟩,rfl⟩:=hn;exact⟨_,_,_,h,Ex.run hg hc hr hp⟩
theorem FinQ.endE{fn:rl}{s:St}{f:HF}(ω:ab (ab af))(C:Cut){v:af}{os:ab (aq×gh)}{ps:ab Prop}{n0:aq}{Q:af->St->Prop}(hn:C.n0=n0)(hp:allP ps)(hq:Q v (aH os C.next s.ng))(hr:vS P fn s f ω C=ae (v,os,ps)):∃v t,Q v t/\∀ x,xK x=au->FinQ P fn n0 (λu s'=>u=v/\s'=t) x s f:=⟨_,_,hq,λx hx=>FinQ.mk' (match x,hx with|.normal,_=>.inl rfl|.ret,_=>.inr rfl) hr hn hp ⟨rfl,rfl⟩⟩
theorem ExD.append{n0:aq}{cs ds:ab gy}{s s1 s2:St}{f f1 f2:HF}{x:HX}(h:ExD P n0 cs s f .normal s1 f1)(k:ExD P n0 ds s1 f1 x s2 f2):ExD P n0 (cs++ds) s f x s2 f2:=Ex.append h λy t g ⟨e1,e2,e3⟩=>by subst e1;subst e2;subst e3;exact k
theorem ExD.then{n0:aq}{cs ds:ab gy}{s s1:St}{f f1:HF}{Q:HX->St->HF->Prop}(h:ExD P n0 cs s f .normal s1 f1)(k:Ex P n0 ds s1 f1 Q):Ex P n0 (cs++ds) s f Q:=Ex.append h λy t g ⟨e1,e2,e3⟩=>by subst e1;subst e2;subst e3;exact k
theorem ExD.split{n0:aq}(k:aq){l:ab gy}{s s1:St}{f f1:HF}{Q:HX->St->HF->Prop}(h:ExD P n0 (l.take k) s f .normal s1 f1)(h2:Ex P n0 (l.drop k) s1 f1 Q):Ex P n0 l s f Q:=by rw[<-gu k l];exact h.then h2
theorem ExD.leaves{n0:aq}(k:aq){l:ab gy}{s s1:St}{f f1:HF}{x:HX}{Q:HX->St->HF->Prop}(h:ExD P n0 (l.take k) s f x s1 f1)(hx:x≠.normal)(hq:Q x s1 f1):Ex P n0 l s f Q:=by rw[<-gu k l];refine Ex.append h λy t g ⟨e1,e2,e3⟩=>?_;subst e1;subst e2;subst e3;cases y with|normal=>exact cp rfl hx|exit i=>exact hq|ret=>exact hq
inductive Lp(P:cq)(n0:aq)(c:gy):aq->St->HF->HX->St->HF->Prop
 |stop {s s':St} {f f':HF} {x:HX} (h:ExD P n0 (aU c) s f x s' f') (hx:x≠.normal):Lp P n0 c 0 s f x s' f'
 |more {s s1 s':St} {f f1 f':HF} {x:HX} {m:aq} (h:ExD P n0 (aU c) s f .normal s1 f1) (t:Lp P n0 c m s1 f1 x s' f'):Lp P n0 c (m+1) s f x s' f'
def outQ(P:cq)(n0 id:aq)(ds:ab gy)(Q:HX->St->HF->Prop):HX->St->HF->Prop
 |.normal,_,_=>False|.exit i,s,f=>if i=id then Ex P n0 ds s f Q else Q (.exit i) s f
 |.ret,s,f=>Q .ret s f
theorem Lp.ex{n0 id:aq}{c:gy}{ds:ab gy}{Q:HX->St->HF->Prop}{m:aq}{s s':St}{f f':HF}{x:HX}(h:Lp P n0 c m s f x s' f')(hq:outQ P n0 id ds Q x s' f'):Ex P n0 (.block id (.loop c)::ds) s f Q:=by
 refine Ex.loop (λm s f=>Lp P n0 c m s f x s' f') (λm s f hI=>?_) h;cases hI with
 |stop h hx=>refine Ex.mono h λy t g ⟨e1,e2,e3⟩=>?_;subst e1;subst e2;subst e3;cases y with|normal=>exact cp rfl hx|exit i=>exact hq|ret=>exact hq
 |more h t=>refine Ex.mono h λy t' g ⟨e1,e2,e3⟩=>?_;subst e1;subst e2;subst e3;exact⟨_,qO,t⟩
theorem FnEx.ofE{g:ia}{fn:rl}{args:ab af}{s:St}{v:af}{t:St}(hf:P.funcs[g]? =ae fn)(hb:fn.body.isSome=au)(ht:(iP 0 args .lf).isSome=au)(n0:aq)(hn:s.next=n0)(h:ExE P fn n0 (pcs P g) s (bX args fn.ntmps) v t):FnEx P g args s (λu s'=>u=v/\s'=t):=by
 obtain⟨c,hb⟩:=js.1 hb;have e:pcs P g=aU c:=by unfold pcs mD;rw[hf];simp[hb]
 rw[e] at h;exact FnEx.enter hf hb ht hn h
end
theorem TrR.refl{α:Type}{r:α->α->Prop}(h:∀ x,r x x):∀ t:Tr α,TrR r t t
 |.lf=>trivial|.nd v a b=>⟨by cases v with|none=>trivial|some x=>exact h x,TrR.refl h a,TrR.refl h b⟩
theorem Ex.nilS{P:cq}(l:ab ct){n0:aq}{cs:ab gy}{os os2:ab (aq×gh)}{next next2:aq}{sl sl2:ab (aq×af)}{n:aq}{Q:HX->St->HF->Prop}(hadd:H0 l (aH os next 0)=ae (aH os2 next2 0))(hsl:slR nilR sl sl2)(h:Ex P n0 cs (aH os2 next2 0) (mkF sl2 n) Q):Ex P n0 cs (aH os next 0) (mkF sl n) Q:=Ex.nils l _ hadd (TrR.refl (λx=>.inl rfl) _) rfl rfl hsl h
theorem FnEx.closed{P:cq}{call:aS}(hc:aR P call){g:ia}{args:ab af}{v:af}(hr:(call g args St0.shut).map (λr=>(r.1,r.2.pc.isEmpty))=ae (v,au))(hv:idq 5 v=au):FnEx P g args (stN [] []) (λu t=>u=v/\t=stN [] []):=by
 simp only[aj,bn] at hr;obtain⟨⟨v1,s1⟩,hr,rfl,hp⟩:=hr;have hp:s1.pc=[]:=by simpa using hp
 intro w0 μ w args' hR hV;have hn:∀ i,μ i=none:=λi=>hR.fresh i (li _);refine((hc _ _ _ _ _ hr).2 (λp h=>by rw[hp] at h;cases h) w0 μ w args' (hR.same rfl rfl rfl) hV).mono λe w' ⟨u,ν,m1,m2,m3,m4⟩=>?_;refine⟨v1,_,u,⟨λ_=>av,ν.fz⟩,⟨rfl,rfl⟩,m1,⟨λi p h=>(by rw[hn i] at h;cases h),m2.fz⟩,?_,zB (μ:=ν) (ν:=⟨λ_=>av,ν.fz⟩) (λ_ _ h=>h) 5 _ _ hv m4⟩;have hg:∀(i:aq)(o:gh),(stN [] []).h.get i=ae o->False:=λi o h=>by obtain⟨k,c,h1,_⟩:=EY h;simp at h1
 exact⟨m3.below,λ_ _=>rfl,λi o h=>(hg i o h).elim,λi j o o' p q _ h=>(hg i o h).elim,m3.fz,λb O i o p _ h=>(hg i o h).elim,m3.fzo,λg h=>(by cases h)⟩
section
variable{P:cq}
theorem FnEx.less{g:ia}{args args2:ab af}{s:St}{Q:af->St->Prop}(h:FnEx P g args2 s Q)(hv:∀ (μ:Mu) (a:ab af),VRs μ args a->VRs μ args2 a):FnEx P g args s Q:=λw0 μ w args' hR hV=>h w0 μ w args' hR (hv μ args' hV)
def Less(v v2:af):Prop:=∀(μ:Mu)(x:af),VR μ v x->VR μ v2 x
theorem Less.refl(v:af):Less v v:=λ_ _ h=>h
theorem Less.nil:Less (.slice av 0 0) (mq []):=λμ x h=>by cases h;exact .frz .frz0
inductive Lesss:ab af->ab af->Prop
 |nil:Lesss [] []
 |cons {v v2:af} {l l2:ab af} (h:Less v v2) (t:Lesss l l2):Lesss (v::l) (v2::l2)
theorem Lesss.vrs{μ:Mu}{l l2:ab af}(h:Lesss l l2):∀{a:ab af},VRs μ l a->VRs μ l2 a:=by induction h with|nil=>intro a h;exact h|cons h _ ih=>intro a k;cases k with|cons k1 k2=>exact .cons (h _ _ k1) (ih k2)
theorem Less.agg{l l2:ab af}(h:Lesss l l2):Less (.agg ⟨l⟩) (.agg ⟨l2⟩):=λμ x k=>by cases k with|agg k=>exact .agg (h.vrs k)
theorem FnEx.lesss{g:ia}{args args2:ab af}{s:St}{Q:af->St->Prop}(h:FnEx P g args2 s Q)(hv:Lesss args args2):FnEx P g args s Q:=h.less λ_ _ k=>hv.vrs k
end
section
variable{p:Prop}[Decidable p]{G:Prop}{x y:br}{b:cz}
theorem dT(h:decide p=au):p:=of_decide_eq_true h
theorem dF(h:decide p=aa):¬p:=of_decide_eq_false h
theorem eT(h:(x==y)=au):x=y:=by simpa using h
theorem eF(h:(x==y)=aa):x≠y:=by simpa using h
theorem dbT(h:(decide p==aa)=au):¬p:=of_decide_eq_false (T2 h)
theorem dbF(h:(decide p==aa)=aa):p:=of_decide_eq_true (YL h)
end
abbrev V:=cz×br
abbrev O:=br×ab V
def aM(v:V):Value:=.agg ⟨[.bool v.1,.int .i64 v.2]⟩
def jE(l:ab V):Value:=frz (l.map aM)
def aF(o:O):Value:=.agg ⟨[.int .i64 o.1,jE o.2]⟩
def cN(l:ab O):Value:=frz (l.map aF)
def bF(l:ab O):Value:=.agg ⟨[cN l]⟩
theorem lM{α:Type}{f:α->af}{l:ab α}{k:aq}{x:α}(h:l[k]? =ae x):(l.map f)[((k:aq):br).toNat]? =ae (f x):=by simp[h]
theorem rX{α:Type}(p:ab α)(x:α)(q:ab α):(p++x::q)[p.length]? =ae x:=qS
def atI:ab O->br->aq->br
 |[],_,_=>-1|o::l,id,i=>if o.1=id then(i:br) else atI l id (i+1)
def SmV(l:ab V):Prop:=l.length*16<=140737488355328
def SmO(l:ab O):Prop:=l.length<=100000/\∀ o∈l,SmV o.2
def nU(os:ab O)(id:br):bp O:=os.find? (λo=>decide (o.1=id))
def rdI(os:ab O)(id f:br):bp V:=(nU os id).bind λo=>if 0<=f then o.2[f.toNat]? else av
theorem rY:∀(os:ab O)(id:br)(i:aq),nU os id=av->atI os id i=-1
 |[],_,_,_=>rfl
 |o::l,id,i,h=>by
  unfold nU at h;rw[List.find?_cons] at h;by_cases ho:o.1=id
  ·simp[ho] at h
  ·simp only[ho,decide_false] at h;simp only[atI,eh ho];exact rY l id (i+1) h
theorem nZ:∀(os:ab O)(id:br)(i:aq)(o:O),nU os id=ae o->∃k:aq,atI os id i=((i+k:aq):br)/\os[k]? =ae o/\o.1=id
 |[],_,_,_,h=>by cases h
 |o'::l,id,i,o,h=>by
  unfold nU at h;rw[List.find?_cons] at h;by_cases ho:o'.1=id
  ·simp only[ho,decide_true,co] at h;subst h;exact⟨0,by simp[atI,ho],rfl,ho⟩
  ·simp only[ho,decide_false] at h;obtain⟨k,h1,h2,h3⟩:=nZ l id (i+1) o h;exact⟨k+1,by simp only[atI,eh ho,h1];congr 1;omega,by simpa using h2,h3⟩
theorem cV(l:ab V):∀ v∈l.map aM,v.cells.size=2:=by intro v hv;obtain⟨x,_,rfl⟩:=fi.1 hv;rfl
theorem dE(l:ab O):∀ v∈l.map aF,v.cells.size=2:=by intro v hv;obtain⟨x,_,rfl⟩:=fi.1 hv;rfl
theorem HZ{n:aq}(h:n≠0):bx n 0=false:=by cases hb:bx n 0 with|false=>rfl|true=>exact cp ((aI _ _).1 hb) h
theorem aFZ{n:aq}(h:n=0):bx n 0=true:=(aI _ _).2 h
theorem cP{a b c d:aq}(h:a<=b)(k:c<=d):(dg a b&&dg c d)=true:=by rw[gv h,gv k];rfl
theorem K3:bw {toList:=[al aa,ao ag 0]}=aM (aa,0):=rfl
theorem zT{l:ab Prop}(h:allP l:=by(repeat' refine allP.cons ?_ ?_)<;>first|exact allP.nil|assumption|rfl|(exact⟨qO,by assumption⟩)|(simp;done)|(simp;omega)|skip):allP l:=h
structure FSpec where
 fn:ab af->bp af
 rel:bB
def ON(l:ab (ia×FSpec)):aS:=λg args s=>match hJ l g with
 |some x=>match x.fn args with
  |some v=>bif args.all (idq 6)&&idq 6 v then(dK (x.rel args [] v []) s).map λs'=>(v,s') else av
  |none=>av
 |none=>av
theorem OM{P:cq}{l:ab (ia×FSpec)}(h:∀ g x,(g,x)∈l->∀ a v,x.rel a [] v []->FnEx P g a (stN [] []) (λu t=>u=v/\t=stN [] [])):aR P (ON l):=by
 intro s s' g args v hc;unfold ON at hc;split at hc
 ·rename_i x hx;split at hc
  ·rename_i v1 hv;obtain⟨hb,hc⟩:=aD hc;simp only[bu] at hb;simp only[aj,bn] at hc;obtain⟨s2,hn,rfl,rfl⟩:=hc;obtain⟨k1,k2⟩:=aY hn;refine⟨k1.sub,λok w0 μ w args' hR hV=>?_⟩;have hf:=FnEx.frame ((h g x (fD hx) _ _ (k2 ok)).mono λv s hh=>hh.1) hb.1 hb.2 s;refine(hf w0 μ w args' hR hV).mono λe w' ⟨u,t,v',ν,⟨m1,m2⟩,m3,m4,m5,m6⟩=>?_;subst m1;subst m2;exact⟨v',ν,m3,m4,m5.like k1,m6⟩
  ·cases hc
 ·cases hc
theorem OL{P:cq}{l:ab (ia×FSpec)}(h:∀ g x,(g,x)∈l->∀ a v,x.rel a [] v []->FnEx P g a (stN [] []) (λu t=>u=v/\t=stN [] []):=by
 intro g x hm;simp only[List.mem_cons,Prod.mk.injEq,List.not_mem_nil,or_false] at hm
 repeat(rcases hm with⟨rfl,rfl⟩|hm;exact λ_ _ h=>h)
 all_goals(obtain⟨rfl,rfl⟩:=hm;exact λ_ _ h=>h)):aR P (ON l):=OM h
section
variable{P:cq}{w0:Base}{μ ν:Mu}{s:St}{w:dh}
theorem yP{o:gh}(h:mM o=au){p q:Place}(hs:p.sim q){g:aq}(hg:own o q g):own o p g:=by cases o with|row op c e=>exact Eq.trans hg hs.blk|map es k=>exact Eq.trans hg hs.blk|fmap f=>exact Eq.trans hg hs.blk|srow c e=>exact⟨by rw[<-hs.room];exact hg.1,Eq.trans hg.2 hs.blk⟩|ro c=>exact hg.elim|lk op c=>exact hg.elim|rm es c=>exact hg.elim|dead=>exact hg.elim
theorem Hl.sim{β:Base}{i:aq}{o:gh}(h:mM o=au){p q:Place}(hs:p.sim q)(k:Hl β μ i o p w):Hl β μ i o q w:=by obtain⟨b,ba,r,ow⟩:=p;obtain⟨b',ba',r',ow'⟩:=q;obtain⟨e1,e2,e3⟩:=hs;simp only at e1 e2 e3;subst e1;subst e2;subst e3;cases o with|_=>exact k
theorem FnEx.frameM{g:ia}{names:ab aq}{a0 args:ab af}{v0 v:af}{s0 s1 s':St}(h:FnEx P g a0 s0 (λu t=>u=v0/\t=s1))(hnd:names.Nodup)(hk:s0.next=names.length)(hng0:s0.ng=0)(hlt:∀ i∈names,i<s.next)(h0:∀ j o,s0.h.get j=ae o->o≠.dead->∃i o',names[j]? =ae i/\s.h.get i=ae o'/\mM o'=au/\∃op ps,fY (rIn names) op o'=ae (o,ps)/\allP ps)(ha:∃ps,pK (dV (rIn names) 6) args=ae (a0,ps)/\allP ps){nm:ab aq}(hnm:nm=names++(mf (s1.next-names.length)).map (s.next+·))(h1:∀ i o',s'.h.get i=ae o'->o'≠.dead->(∃j o,nm[j]? =ae i/\s1.h.get j=ae o/\∃ps,fY (uX nm) aa o=ae (o',ps)/\allP ps)\/(i∉nm/\s.h.get i=ae o')\/(∃j,names[j]? =ae i/\(∀ o0,s0.h.get j=ae o0->o0=.dead)/\s.h.get i=ae o'/\mM o'=au))(e2:s'.next=s.next+(s1.next-names.length))(e3:s'.ng=s.ng)(hv:∃ps,dV (uX nm) 6 v0=ae (v,ps)/\allP ps):FnEx P g args s (λu t=>u=v/\t=s'):=by
 intro w0 μ w args' hR hV;have nodead:∀{ρ:ab (aq×RT)}{op:cz}{o o2:gh}{ps:ab Prop},fY ρ op o=ae (o2,ps)->o≠.dead:=λhh e=>by subst e;cases hh
 let B:aq->Prop:=λg=>∃(j i:aq)(o:gh)(p:Place)(o0:gh),names[j]? =ae i/\s.h.get i=ae o/\mM o=au/\μ i=ae p/\own o p g/\s0.h.get j=ae o0/\o0≠.dead;have hB:∀ g,B g->w0.wr g/\g<w.heap.size:=λg ⟨j,i,o,p,_,b1,b2,_,b4,b5,_⟩=>⟨hR.own_free b2 b4 b5,hR.own_lt b2 b4 b5⟩;have hBn:∀ i o p g,(∀ j o0,names[j]? =ae i->s0.h.get j=ae o0->o0=.dead)->s.h.get i=ae o->μ i=ae p->own o p g->¬B g:=λi o p g hi ho hp hg ⟨j,i',o',p',o0,b1,b2,_,b4,b5,b6,b7⟩=>hR.dis i i' o o' p p' (λe=>b7 (hi j o0 (e ▸ b1) b6)) ho b2 hp b4 g hg b5;have hnot:∀ i,i∉names->∀ j o0,names[j]? =ae i->s0.h.get j=ae o0->o0=.dead:=λi hi j o0 hj _=>cp (ge hj) hi;have hmu0:∀ j q,(⟨yT names μ.pl,μ.fz⟩:Mu) j=ae q->∃i,names[j]? =ae i/\μ i=ae q:=λj q hj=>by have hj:(names[j]?).bind μ.pl=ae q:=hj;cases hx:names[j]? with|none=>rw[hx] at hj;cases hj|some i=>rw[hx] at hj;exact⟨i,rfl,hj⟩
 have inj:∀ j j' i,names[j]? =ae i->names[j']? =ae i->j=j':=λj j' i a b=>gf ((vQ hnd a).symm.trans (vQ hnd b));have R0:R (Base.some w μ.fz B) ⟨yT names μ.pl,μ.fz⟩ s0 w:=by
  refine⟨⟨rfl,rfl,rfl,cw _,λ_ _ _=>rfl⟩,λj hj=>?_,λj o hj hd=>?_,λa b o o' p q hab hao hbo hp hq g hga hgb=>?_,hR.fz,λb O j o q hO hj hq hg=>?_,λb O hO=>.inl ⟨O,hO⟩,λg hg=>by rw[hng0] at hg;cases hg⟩
  ·show(names[j]?).bind μ.pl=av;rw[ei qO];rfl
  ·obtain⟨i,o',b1,b2,b3,_,ps,b4,b5⟩:=h0 j o hj hd;obtain⟨p,p1,p2,p3⟩:=hR.obj i o' b2 (nodead b4);obtain⟨c1,c2,_⟩:=cT (j:=j) (jI names μ μ.fz) (λ_ _ h=>h) b4 b5 p2;refine⟨p,by show(names[j]?).bind μ.pl=ae p;rw[b1];exact p1,c1.base (oE b4),λg hg=>.inl ⟨j,i,o',p,o,b1,b2,b3,p1,c2 g hg,hj,hd⟩⟩
  ·have da:o≠.dead:=λe=>by subst e;exact hga
   have db:o'≠.dead:=λe=>by subst e;exact hgb
   obtain⟨i,oi,b1,b2,b3,_,ps,b4,b5⟩:=h0 a o hao da;obtain⟨i',oi',c1,c2,c3,_,ps',c4,c5⟩:=h0 b o' hbo db;obtain⟨x,x1,x2⟩:=hmu0 a p hp;rw[b1] at x1;cases x1;obtain⟨y,y1,y2⟩:=hmu0 b q hq;rw[c1] at y1;cases y1;obtain⟨p',p1,p2,_⟩:=hR.obj i oi b2 (nodead b4);rw[x2] at p1;cases p1;obtain⟨q',q1,q2,_⟩:=hR.obj i' oi' c2 (nodead c4);rw[y2] at q1;cases q1;have k1:=(cT (j:=a) (jI names μ μ.fz) (λ_ _ h=>h) b4 b5 p2).2.1 g;have k2:=(cT (j:=b) (jI names μ μ.fz) (λ_ _ h=>h) c4 c5 q2).2.1 g;exact hR.dis i i' oi oi' p q (λe=>hab (inj a b i b1 (e ▸ c1))) b2 c2 x2 y2 g (k1 hga) (k2 hgb)
  ·have dj:o≠.dead:=λe=>by subst e;exact hg
   obtain⟨i,oi,b1,b2,b3,_,ps,b4,b5⟩:=h0 j o hj dj;obtain⟨x,x1,x2⟩:=hmu0 j q hq;rw[b1] at x1;cases x1;obtain⟨p',p1,p2,_⟩:=hR.obj i oi b2 (nodead b4);rw[x2] at p1;cases p1;have k1:=(cT (j:=j) (jI names μ μ.fz) (λ_ _ h=>h) b4 b5 p2).2.1 b;exact hR.fzd b O i oi q hO b2 x2 (k1 hg)
 obtain⟨aps,ha1,ha2⟩:=ha;have hV0:VRs ⟨yT names μ.pl,μ.fz⟩ a0 args':=d9 (cO (jI names μ μ.fz) (λ_ _ h=>h) 6) _ _ _ _ ha1 ha2 hV;obtain⟨vps,hv1,hv2⟩:=hv;have nlen:nm.length=names.length+(s1.next-names.length):=by rw[hnm];simp
 have nmem:∀ i,i∈nm->i∈names\/(s.next<=i/\i<s.next+(s1.next-names.length)):=λi hi=>by
  rw[hnm,eu,fi] at hi;rcases hi with hi|⟨k,hk1,rfl⟩
  ·exact .inl hi
  ·rw[qj] at hk1;exact .inr ⟨qO,qO⟩
 have nnd:nm.Nodup:=by
  rw[hnm];refine ql.2 ⟨hnd,?_,λa ha b hb e=>?_⟩
  ·exact gw.2 (qm.2 ((gw.1 rf).imp λh e=>h qO))
  ·subst e;obtain⟨k,_,rfl⟩:=fi.1 hb;have:=hlt _ ha;omega
 have nat:∀ j i,nm[j]? =ae i->i<s.next->names[j]? =ae i:=λj i hj hi=>by
  rw[hnm] at hj;by_cases hjl:j<names.length
  ·rwa [dt hjl] at hj
  ·rw[eq qO,iw,aj] at hj;obtain⟨k,_,rfl⟩:=hj;omega
 refine(h (Base.some w μ.fz B) ⟨yT names μ.pl,μ.fz⟩ w args' R0 hV0).mono λe w' ⟨u,t,v',ν0,k1,k2,k3,k4,k5⟩=>?_;obtain⟨hu,ht⟩:=k1;rw[ht] at k4;rw[hu] at k5;obtain⟨b1,b2,b3,b4,b5⟩:=k4.below;have hlow:∀ i p,μ i=ae p->i<s.next:=λi p hp=>by
  rcases ey i s.next with h|h
  ·exact h
  ·rw[hR.fresh i h] at hp;cases hp
 have hle:μ.le ⟨cQ nm μ.pl ν0.pl,ν0.fz⟩:=by
  refine⟨λi p hp=>?_,k3.fz⟩;by_cases hi:i∈nm
  ·obtain⟨j,hj⟩:=mg.1 hi;have hjn:=nat j i hj (hlow i p hp);obtain⟨q,q1,q2⟩:=k3.pl j p (by show(names[j]?).bind μ.pl=ae p;rw[hjn];exact hp);exact⟨q,by show cQ nm μ.pl ν0.pl i=ae q;rw[fS nnd hj];exact q1,q2⟩
  ·exact⟨p,by show cQ nm μ.pl ν0.pl i=ae p;rw[dU hi];exact hp,p.sim_refl⟩
 have hok:w0.ok w':=by
  obtain⟨w1,c1,c2,c3,c4,c5,c6⟩:=Base.upds w0 w w' B hB b4 hR.below (names.filterMap λi=>(μ i).map (·.blk));refine w0.garbage w1 w' c1 ⟨b1.trans c2.symm,b2.trans c3.symm,b3.trans c4.symm,qO,λk hk=>?_⟩;rw[c6];by_cases hbk:B k
  ·obtain⟨j,i,o,p,o0,x1,x2,x3,x4,x5,x6⟩:=hbk;have hm:k∈names.filterMap λi=>(μ i).map (·.blk):=sx.2 ⟨i,ge x1,by rw[x4];simp[xX x3 x5]⟩;rw[fc ⟨hm,j,i,o,p,o0,x1,x2,x3,x4,x5,x6⟩]
  ·rw[eh λhh=>hbk hh.2];exact b5 k qO hbk
 have wrB:∀ g,(Base.some w μ.fz B).wr g->w0.wr g:=λg hg=>hg.elim (λhg=>(hB g hg).1) (λhg=>w0.fresh w g hR.below hg);have kept:∀(j i:aq)(p:Place),names[j]? =ae i->μ i=ae p->∃q,(⟨cQ nm μ.pl ν0.pl,ν0.fz⟩:Mu) i=ae q/\p.sim q:=λj i p hj hp=>hle.pl i p hp;have bare:∀(j i:aq),names[j]? =ae i->(∀ o0,s0.h.get j=ae o0->o0=.dead)->∀ j' o0,names[j']? =ae i->s0.h.get j'=ae o0->o0=.dead:=λj i hj hh j' o0 hj' ho=>hh o0 (by rw[inj j j' i hj hj'];exact ho);have ren:∀ j o o' i q,(∃ps,fY (uX nm) aa o=ae (o',ps)/\allP ps)->s1.h.get j=ae o->ν0 j=ae q->Hl (Base.some w μ.fz B) ⟨cQ nm μ.pl ν0.pl,ν0.fz⟩ i o' q w'/\(∀ g,own o' q g->own o q g)/\NI o'=true:=λj o o' i q ⟨ps,x1,x2⟩ hj hq=>by obtain⟨q',y1,y2,_⟩:=k4.obj j o hj (nodead x1);rw[hq] at y1;cases y1;obtain⟨z1,z2,_⟩:=cT (j:=i) (t5 nnd μ.pl ν0) (λ_ _ h=>h) x1 x2 y2;exact⟨z1,z2,oE x1⟩
 refine⟨v,s',v',⟨cQ nm μ.pl ν0.pl,ν0.fz⟩,⟨rfl,rfl⟩,k2,hle,⟨hok,λi hi=>?_,λi o' hi hd=>?_,λa b o o' p q hab hao hbo hp hq g hga hgb=>?_,k4.fz,λb O i o' q hO hi hq hg=>?_,λb O hO=>?_,λg hg=>?_⟩,cO (t5 nnd μ.pl ν0) (λ_ _ h=>h) 6 _ _ _ _ hv1 hv2 k5⟩
 ·rw[e2] at hi;show cQ nm μ.pl ν0.pl i=av;rw[dU (λhm=>by
   rcases nmem i hm with hm|hm
   ·have:=hlt i hm;omega
   ·omega)]
  exact hR.fresh i qO
 ·rcases h1 i o' hi hd with⟨j,o,c1,c2,c3⟩|⟨c1,c2⟩|⟨j,c1,c2,c3,c4⟩
  ·obtain⟨q,q1,q2,q3⟩:=k4.obj j o c2 (by obtain⟨ps,x1,_⟩:=c3;exact nodead x1);obtain⟨z1,z2,z3⟩:=ren j o o' i q c3 c2 q1;exact⟨q,by show cQ nm μ.pl ν0.pl i=ae q;rw[fS nnd c1];exact q1,z1.base z3,λg hg=>wrB g (q3 g (z2 g hg))⟩
  ·obtain⟨p,p1,p2,p3⟩:=hR.obj i o' c2 hd;have hin:i∉names:=λhh=>c1 (by rw[hnm];exact jk _ hh);refine⟨p,by show cQ nm μ.pl ν0.pl i=ae p;rw[dU c1];exact p1,(p2.mono hle).still (λ_ h=>h) b4 (λg hg=>?_),p3⟩;rcases hg with hg|hg
   ·exact b5 g (hR.own_lt c2 p1 hg) (hBn i o' p g (hnot i hin) c2 p1 hg)
   ·exact b5 g (w0.lold _ _ _ hR.below hg) (λhh=>w0.lapart _ _ hg (hB g hh).1)
  ·obtain⟨p,p1,p2,p3⟩:=hR.obj i o' c3 hd;obtain⟨q,q1,q2⟩:=kept j i p c1 p1;have hbn:=bare j i c1 c2;refine⟨q,q1,Hl.sim c4 q2 ((p2.mono hle).still (λ_ h=>h) b4 (λg hg=>?_)),λg hg=>p3 g (yP c4 q2 hg)⟩;rcases hg with hg|hg
   ·exact b5 g (hR.own_lt c3 p1 hg) (hBn i o' p g hbn c3 p1 hg)
   ·exact b5 g (w0.lold _ _ _ hR.below hg) (λhh=>w0.lapart _ _ hg (hB g hh).1)
 ·have da:o≠.dead:=λe=>by subst e;exact hga
  have db:o'≠.dead:=λe=>by subst e;exact hgb
  have side:∀ i x r,s'.h.get i=ae x->x≠.dead->cQ nm μ.pl ν0.pl i=ae r->own x r g->(∃j y,nm[j]? =ae i/\s1.h.get j=ae y/\ν0 j=ae r/\own y r g/\(Base.some w μ.fz B).wr g)\/(∃p,s.h.get i=ae x/\μ i=ae p/\own x p g/\g<w.heap.size/\¬B g):=λi x r hi hd hr hg=>by
   rcases h1 i x hi hd with⟨j,y,c1,c2,c3⟩|⟨c1,c2⟩|⟨j,c1,c2,c3,c4⟩
   ·rw[fS nnd c1] at hr;obtain⟨z1,z2,_⟩:=ren j y x i r c3 c2 hr;have hy:=z2 g hg;exact .inl ⟨j,y,c1,c2,hr,hy,k4.own_free c2 hr hy⟩
   ·rw[dU c1] at hr;have hin:i∉names:=λhh=>c1 (by rw[hnm];exact jk _ hh);exact .inr ⟨r,c2,hr,hg,hR.own_lt c2 hr hg,hBn i x r g (hnot i hin) c2 hr hg⟩
   ·obtain⟨p,p1,_,_⟩:=hR.obj i x c3 hd;obtain⟨q,q1,q2⟩:=kept j i p c1 p1;have q1:cQ nm μ.pl ν0.pl i=ae q:=q1;rw[hr] at q1;cases q1;have hg':=yP c4 q2 hg;exact .inr ⟨p,c3,p1,hg',hR.own_lt c3 p1 hg',hBn i x p g (bare j i c1 c2) c3 p1 hg'⟩
  rcases side a o p hao da hp hga with⟨j,y,c1,c2,c3,c4,c5⟩|⟨p0,c1,c2,c3,c4,c5⟩
  ·rcases side b o' q hbo db hq hgb with⟨j',y',d1,d2,d3,d4,d5⟩|⟨q0,d1,d2,d3,d4,d5⟩
   ·refine k4.dis j j' y y' p q (λe=>hab ?_) c2 d2 c3 d3 g c4 d4;subst e;rw[c1] at d1;exact gf d1
   ·rcases c5 with c5|c5
    ·exact d5 c5
    ·have:w.heap.size<=g:=c5;omega
  ·rcases side b o' q hbo db hq hgb with⟨j',y',d1,d2,d3,d4,d5⟩|⟨q0,d1,d2,d3,d4,d5⟩
   ·rcases d5 with d5|d5
    ·exact c5 d5
    ·have:w.heap.size<=g:=d5;omega
   ·exact hR.dis a b o o' p0 q0 hab c1 d1 c2 d2 g c3 d3
 ·have di:o'≠.dead:=λe=>by subst e;exact hg
  have last:∀ p,s.h.get i=ae o'->μ i=ae p->own o' p b->(∀ j o0,names[j]? =ae i->s0.h.get j=ae o0->o0=.dead)->False:=λp c2 hq hg hn=>by
   have hlt':=hR.own_lt c2 hq hg;rcases k4.fzo b O hO with⟨O',hO'⟩|hge|hb'
   ·exact hR.fzd b O' i o' p hO' c2 hq hg
   ·have:w.heap.size<=b:=hge;omega
   ·exact hBn i o' p b hn c2 hq hg hb'
  rcases h1 i o' hi di with⟨j,y,c1,c2,c3⟩|⟨c1,c2⟩|⟨j,c1,c2,c3,c4⟩
  ·have hq:cQ nm μ.pl ν0.pl i=ae q:=hq;rw[fS nnd c1] at hq;obtain⟨z1,z2,_⟩:=ren j y o' i q c3 c2 hq;exact k4.fzd b O j y q hO c2 hq (z2 b hg)
  ·have hq:cQ nm μ.pl ν0.pl i=ae q:=hq;rw[dU c1] at hq;have hin:i∉names:=λhh=>c1 (by rw[hnm];exact jk _ hh);exact last q c2 hq hg (hnot i hin)
  ·obtain⟨p,p1,_,_⟩:=hR.obj i o' c3 di;obtain⟨q',q1,q2⟩:=kept j i p c1 p1;have q1:cQ nm μ.pl ν0.pl i=ae q':=q1;have hq:cQ nm μ.pl ν0.pl i=ae q:=hq;rw[hq] at q1;cases q1;exact last p c3 p1 (yP c4 q2 hg) (bare j i c1 c2)
 ·rcases k4.fzo b O hO with⟨O',hO'⟩|hge|hb'
  ·exact hR.fzo b O' hO'
  ·exact w0.wfok b (w0.fresh w b hR.below hge)
  ·exact w0.wfok b (hB b hb').1
 ·rw[e3] at hg;obtain⟨p,p1,p2,p3⟩:=hR.gl g hg;obtain⟨q,q1,q2⟩:=hle.pl g p p1;exact⟨q,q1,by rw[q2.blk,p2],by rw[q2.base,p3]⟩
end
inductive KM where
 |ob (k:KD)
 |non
structure MSpec where
 pas:ab PA
 kds:ab KM
 pks:ab KM
 nks:ab KD
 rel:bB
def cH:ab KM->ab (ab af)->ab (bp gh)
 |.ob k::ks,c::cs=>ae (k.obj c)::cH ks cs|.ob _::ks,[]=>av::cH ks []|.non::ks,cs=>av::cH ks cs|[],_=>[]
def spO:ab (bp gh)->aq->ab (aq×gh)
 |some o::l,i=>(i,o)::spO l (i+1)|none::l,i=>spO l (i+1)|[],_=>[]
def stM(ks:ab KM)(cs:ab (ab af)):St:=aH (spO (cH ks cs) 0) ks.length 0
def oC(ρ:ab (aq×RT))(h:Tr gh):ab KM->ab aq->bp (ab (ab af)×ab Prop)
 |[],[]=>ae ([],[])
 |.ob k::ks,n::ns=>match h.get n with
  |some o=>match AI ρ k o with
   |some (c,p)=>match oC ρ h ks ns with
    |some (cs,q)=>ae (c::cs,p++q)|none=>av
   |none=>av
  |none=>av
 |.non::ks,n::ns=>match h.get n with|some (.lk _ _)=>av|_=>oC ρ h ks ns
 |_,_=>av
def AU:ab KM->St->bp (ab (ab af)×St)
 |[],s=>ae ([],s)
 |.ob _::l,s=>match sJ s with
  |some (c,s1)=>match AU l s1 with
   |some (cs,s2)=>ae (c::cs,s2)|none=>av
  |none=>av
 |.non::l,s=>AU l s
def eQ(ρ:ab (aq×RT)):ab (cz×KM)->ab (ab af)->ab aq->Tr gh->bp (Tr gh×ab Prop)
 |[],[],[],t=>ae (t,[])
 |(_,.ob k)::ks,c::cs,n::ns,t=>match uT ρ k c with
  |some (o,p)=>match ki 64 t n o with
   |some t'=>match eQ ρ ks cs ns t' with
    |some (t2,q)=>ae (t2,p++q)|none=>av
   |none=>av
  |none=>av
 |(au,.non)::ks,cs,n::ns,t=>match ki 64 t n .dead with|some t'=>eQ ρ ks cs ns t'|none=>av
 |(aa,.non)::ks,cs,_::ns,t=>eQ ρ ks cs ns t|_,_,_,_=>av
def S0:KM->cz
 |.ob _=>au|.non=>aa
def MSpec.post(x:MSpec):ab KM:=x.pks++x.nks.map .ob
def MSpec.zips(x:MSpec):ab (cz×KM):=(x.kds.map S0++x.nks.map λ_=>au).zip x.post
def eX(l:ab (ia×MSpec)):aS:=λg args s=>match hJ l g with
 |some x=>match j9 args s.h x.pas [] with
  |some names=>bif pW names&&names.all (λi=>em i s.next)&&bx names.length x.kds.length&&bx x.pks.length x.kds.length&&dg x.post.length 64 then
   match oC (rIn names) s.h x.kds names,pK (dV (rIn names) 6) args with
   |some (cs,p1),ae (a2,p2)=>match sJ s with
    |some ([v0],s1)=>match AU x.post s1 with
     |some (cs',s2)=>match eQ (uX (nmO names s.next x.nks)) x.zips cs' (nmO names s.next x.nks) s2.h,dV (uX (nmO names s.next x.nks)) 6 v0 with
      |some (t2,p3),ae (v,p4)=>match dK (x.rel a2 cs v0 cs') s2 with
       |some s3=>match JW (p1++(p2++(p3++p4))) s3 with
        |some s4=>ae (v,{s4 with h:=t2,next:=s.next+x.nks.length})|none=>av
       |none=>av
      |_,_=>av
     |none=>av
    |_=>av
   |_,_=>av
  else av
  |none=>av
 |none=>av
section
variable{P:cq}
theorem MK:∀(l:ab (bp gh))(i j:aq)(o:gh),(j,o)∈spO l i->∃n,j=i+n/\l[n]? =ae (ae o):=by
 intro l;induction l with
 |nil=>intro i j o h;cases h
 |cons x l ih=>
  intro i j o h;cases x with
  |none=>obtain⟨n,h1,h2⟩:=ih (i+1) j o h;exact⟨n+1,qO,h2⟩
  |some o0=>
   rcases ci.1 h with h|h
   ·cases h;exact⟨0,rfl,rfl⟩
   ·obtain⟨n,h1,h2⟩:=ih (i+1) j o h;exact⟨n+1,qO,h2⟩
theorem EZ{ks:ab KM}{cs:ab (ab af)}{j:aq}{o:gh}(h:(stM ks cs).h.get j=ae o):(cH ks cs)[j]? =ae (ae o):=by
 rcases qV _ _ _ _ (show(gZ (spO (cH ks cs) 0) .lf).get j=ae o from h) with h|h
 ·obtain⟨n,rfl,h2⟩:=MK _ _ _ _ h;rw[fu];exact h2
 ·cases h
theorem lG:∀(ks:ab KM)(cs:ab (ab af)),(cH ks cs).length=ks.length
 |[],_=>rfl|.ob _::ks,_::cs=>by simp[cH,lG ks cs]
 |.ob _::ks,[]=>by simp[cH,lG ks []]
 |.non::ks,cs=>by simp[cH,lG ks cs]
theorem MJ:∀(l:ab (bp gh))(i:aq)(t:Tr gh),i+l.length<=64->(∀ m,m<i->(gZ (spO l i) t).get m=t.get m)/\∀(j:aq)(o:gh),l[j]? =ae (ae o)->(gZ (spO l i) t).get (i+j)=ae o:=by
 intro l;induction l with
 |nil=>intro i t _;exact⟨λm _=>rfl,λj o h=>by simp at h⟩
 |cons x l ih=>
  intro i t hi;cases x with
  |none=>obtain⟨a,b⟩:=ih (i+1) t (by simp at hi;omega);refine⟨λm hm=>a m qO,λj o h=>?_⟩;cases j with|zero=>simp at h|succ j=>have:=b j o (by simpa using h);rw[show i+(j+1)=i+1+j by omega];exact this
  |some o0=>
   obtain⟨t',ht⟩:=Tr.set_lt 64 t i o0 (by simp at hi;omega);have e:gZ (spO (ae o0::l) i) t=gZ (spO l (i+1)) t':=by simp only[spO,gZ,ht]
   obtain⟨a,b⟩:=ih (i+1) t' (by simp at hi;omega);rw[e];refine⟨λm hm=>by rw[a m qO,jh _ _ _ _ _ ht,eh qO],λj o h=>?_⟩;cases j with|zero=>simp at h;subst h;show(gZ (spO l (i+1)) t').get i=_;rw[a i qO,jh _ _ _ _ _ ht,fc rfl]|succ j=>have:=b j o (by simpa using h);rw[show i+(j+1)=i+1+j by omega];exact this
theorem QT{ks:ab KM}{cs:ab (ab af)}(h:ks.length<=64){j:aq}{o:gh}(hj:(cH ks cs)[j]? =ae (ae o)):(stM ks cs).h.get j=ae o:=by
 have:=(MJ (cH ks cs) 0 .lf (by rw[lG];omega)).2 j o hj
 rwa [fu] at this
theorem CT{ρ:ab (aq×RT)}{k:KD}{o:gh}{r:ab af×ab Prop}(h:AI ρ k o=ae r):mM o=true:=by cases o<;>first|rfl|(cases k<;>cases h)
theorem CS{ρ:ab (aq×RT)}{h:Tr gh}:∀{ks:ab KM}{ns:ab aq}{cs:ab (ab af)}{ps:ab Prop},oC ρ h ks ns=ae (cs,ps)->allP ps->ks.length=ns.length->(∀(j:aq)(o:gh),(cH ks cs)[j]? =ae (ae o)->∃i o' op qs,ns[j]? =ae i/\h.get i=ae o'/\mM o'=au/\fY ρ op o'=ae (o,qs)/\allP qs)/\(∀(j i:aq)(o':gh),ks[j]? =ae .non->ns[j]? =ae i->h.get i=ae o'->mM o'=au/\(cH ks cs)[j]? =ae av):=by
 intro ks;induction ks with
 |nil=>intro ns cs ps _ _ _;exact⟨λj o h=>by simp[cH] at h,λj i o' h=>by simp at h⟩
 |cons k0 ks ih=>
  intro ns cs ps hh hp hl;cases ns with
  |nil=>simp at hl
  |cons n ns=>
   cases k0 with
   |ob k0=>
    simp only[oC] at hh;split at hh
    ·rename_i o ho;split at hh
     ·rename_i c0 p0 hr;split at hh
      ·rename_i cs0 q0 hrest;cases hh;obtain⟨a,b⟩:=aV hp;obtain⟨e1,e2⟩:=ih hrest b (by simpa using hl);refine⟨λj o1 hj=>?_,λj i o' hk hn hg=>?_⟩
       ·cases j with|zero=>simp[cH] at hj;subst hj;obtain⟨op,e⟩:=xF hr;exact⟨n,o,op,p0,rfl,ho,CT hr,e,a⟩|succ j=>exact e1 j o1 (by simpa[cH] using hj)
       ·cases j with|zero=>simp at hk|succ j=>obtain⟨x,y⟩:=e2 j i o' (by simpa using hk) (by simpa using hn) hg;exact⟨x,by simpa[cH] using y⟩
      ·cases hh
     ·cases hh
    ·cases hh
   |non=>
    simp only[oC] at hh;split at hh
    ·cases hh
    ·rename_i hnd;obtain⟨e1,e2⟩:=ih hh hp (by simpa using hl);refine⟨λj o1 hj=>?_,λj i o' hk hn hg=>?_⟩
     ·cases j with|zero=>simp[cH] at hj|succ j=>exact e1 j o1 (by simpa[cH] using hj)
     ·cases j with
      |zero=>simp at hn;subst hn;refine⟨?_,by simp[cH]⟩;cases o'<;>first|rfl|exact cp hg (hnd _ _)
      |succ j=>obtain⟨x,y⟩:=e2 j i o' (by simpa using hk) (by simpa using hn) hg;exact⟨x,by simpa[cH] using y⟩
theorem AH{ρ:ab (aq×RT)}:∀{qs:ab (cz×KM)}{cs:ab (ab af)}{ns:ab aq}{t t2:Tr gh}{ps:ab Prop},eQ ρ qs cs ns t=ae (t2,ps)->allP ps->ns.Nodup->(∀ i,i∉ns->t2.get i=t.get i)/\∀(j i:aq),ns[j]? =ae i->∃b k,qs[j]? =ae (b,k)/\match b,k with
   |_,.ob _=>∃o o' qs',(cH (qs.map (·.2)) cs)[j]? =ae (ae o)/\t2.get i=ae o'/\fY ρ aa o=ae (o',qs')/\allP qs'
   |true,.non=>t2.get i=ae .dead
   |false,.non=>t2.get i=t.get i:=by
 intro qs
 induction qs with
 |nil=>
  intro cs ns t t2 ps hh _ _;cases cs with
  |nil=>cases ns with|nil=>cases hh;exact⟨λ_ _=>rfl,λj i hi=>by simp at hi⟩|cons _ _=>cases hh
  |cons _ _=>cases hh
 |cons x qs ih=>
  intro cs ns t t2 ps hh hp hnd;obtain⟨b,k⟩:=x;cases ns with
  |nil=>cases k<;>cases b<;>cases cs<;>cases hh
  |cons n ns=>
   rw[ry] at hnd;cases k with
   |ob k=>
    cases cs with
    |nil=>cases b<;>cases hh
    |cons c cs=>
     have hh:(match uT ρ k c with
      |some (o,p)=>match ki 64 t n o with
       |some t'=>match eQ ρ qs cs ns t' with
        |some (t2,q)=>ae (t2,p++q)|none=>av
       |none=>av
      |none=>av)=ae (t2,ps):=hh
     split at hh
     ·rename_i o p0 hr;split at hh
      ·rename_i t' ht;split at hh
       ·rename_i t3 q0 hrest;cases hh;obtain⟨a,a'⟩:=aV hp;obtain⟨e2,e3⟩:=ih hrest a' hnd.2;refine⟨λi hi=>?_,λj i hj=>?_⟩
        ·rw[ci,not_or] at hi;rw[e2 i hi.2,jh _ _ _ _ _ ht,eh hi.1]
        ·cases j with
         |zero=>simp at hj;subst hj;exact⟨b,.ob k,rfl,k.obj c,o,p0,by simp[cH],by rw[e2 _ hnd.1,jh _ _ _ _ _ ht,fc rfl],uS hr,a⟩
         |succ j=>
          have hj:ns[j]? =ae i:=by simpa using hj
          have hin:i≠n:=λe=>hnd.1 (e ▸ ge hj);obtain⟨b',k',f1,f2⟩:=e3 j i hj;refine⟨b',k',by simpa using f1,?_⟩;cases k' with|ob k'=>obtain⟨o1,o2,q2,g1,g2⟩:=f2;exact⟨o1,o2,q2,by simpa[cH] using g1,g2⟩|non=>cases b' with|true=>exact f2|false=>have f2:t2.get i=t'.get i:=f2;show t2.get i=t.get i;rw[f2,jh _ _ _ _ _ ht,eh hin]
       ·cases hh
      ·cases hh
     ·cases hh
   |non=>
    have step:∀ t',(∀ m,m≠n->t'.get m=t.get m)->eQ ρ qs cs ns t'=ae (t2,ps)->(∀ i,i∉n::ns->t2.get i=t.get i)/\t2.get n=t'.get n/\∀(j i:aq),ns[j]? =ae i->∃b k,qs[j]? =ae (b,k)/\match b,k with
      |_,.ob _=>∃o o' qs',(cH (qs.map (·.2)) cs)[j]? =ae (ae o)/\t2.get i=ae o'/\fY ρ aa o=ae (o',qs')/\allP qs'
      |true,.non=>t2.get i=ae .dead
      |false,.non=>t2.get i=t.get i:=λt' ht' hrest=>by
     obtain⟨e2,e3⟩:=ih hrest hp hnd.2
     refine⟨λi hi=>?_,e2 n hnd.1,λj i hj=>?_⟩
     ·rw[ci,not_or] at hi;rw[e2 i hi.2,ht' i hi.1]
     ·have hin:i≠n:=λe=>hnd.1 (e ▸ ge hj);obtain⟨b',k',f1,f2⟩:=e3 j i hj;refine⟨b',k',f1,?_⟩;cases k' with|ob k'=>exact f2|non=>cases b' with|true=>exact f2|false=>have f2:t2.get i=t'.get i:=f2;show t2.get i=t.get i;rw[f2,ht' i hin]
    have fin:∀ t',(∀ m,m≠n->t'.get m=t.get m)->eQ ρ qs cs ns t'=ae (t2,ps)->(match b with|true=>t'.get n=ae .dead|false=>t'.get n=t.get n)->_:=λt' ht' hrest hb=>by
     obtain⟨a1,a2,a3⟩:=step t' ht' hrest;refine(⟨a1,λj i hj=>?_⟩:(∀ i,i∉n::ns->t2.get i=t.get i)/\∀(j i:aq),(n::ns)[j]? =ae i->∃b' k,((b,KM.non)::qs)[j]? =ae (b',k)/\match b',k with
      |_,.ob _=>∃o o' qs',(cH (((b,KM.non)::qs).map (·.2)) cs)[j]? =ae (ae o)/\t2.get i=ae o'/\fY ρ aa o=ae (o',qs')/\allP qs'|true,.non=>t2.get i=ae .dead
      |false,.non=>t2.get i=t.get i)
     cases j with
     |zero=>simp at hj;subst hj;refine⟨b,.non,rfl,?_⟩;cases b with|true=>exact a2.trans hb|false=>exact a2.trans hb
     |succ j=>obtain⟨b',k',f1,f2⟩:=a3 j i (by simpa using hj);refine⟨b',k',by simpa using f1,?_⟩;cases k' with|ob k'=>obtain⟨o1,o2,q2,g1,g2⟩:=f2;exact⟨o1,o2,q2,by simpa[cH] using g1,g2⟩|non=>exact f2
    cases b with
    |true=>
     have hh:(match ki 64 t n .dead with
      |some t'=>eQ ρ qs cs ns t'
      |none=>av)=ae (t2,ps):=by cases cs<;>exact hh
     split at hh
     ·rename_i t' ht;exact fin t' (λm hm=>by rw[jh _ _ _ _ _ ht,eh hm]) hh (by show t'.get n=ae .dead;rw[jh _ _ _ _ _ ht,fc rfl])
     ·cases hh
    |false=>
     have hh:eQ ρ qs cs ns t=ae (t2,ps):=by cases cs<;>exact hh
     exact fin t (λ_ _=>rfl) hh rfl
theorem pN:∀{l:ab KM}{s s':St}{cs:ab (ab af)},AU l s=ae (cs,s')->s.like s'
 |[],s,s',cs,h=>by cases h;exact s.like_refl
 |.ob k::l,s,s',cs,h=>by
  simp only[AU] at h;split at h
  ·rename_i h1;split at h
   ·rename_i h2;cases h;exact(cE h1).trans (pN h2)
   ·cases h
  ·cases h
 |.non::l,s,s',cs,h=>pN (l:=l) h
def F3(P:cq)(g:ia)(x:MSpec):Prop:=∀ a cs v cs',x.rel a cs v cs'->FnEx P g a (stM x.kds cs) (λu t=>u=v/\t=stM x.post cs')
theorem B9{l:ab (ia×MSpec)}(h:∀ g x,(g,x)∈l->F3 P g x):aR P (eX l):=by
 intro s s' g args v hc;unfold eX at hc;split at hc
 ·rename_i x hx;split at hc
  ·rename_i names hnm;obtain⟨hb,hc⟩:=aD hc;simp only[bu,fq,aI] at hb;obtain⟨⟨⟨⟨b1,b2⟩,b3⟩,b5⟩,b4⟩:=hb;split at hc
   ·rename_i cs p1 a2 p2 hri hra;split at hc
    ·rename_i v0 s1 hp;split at hc
     ·rename_i cs' s2 hps;split at hc
      ·rename_i t2 p3 v1 p4 hro hrv;split at hc
       ·rename_i s3 hn;split at hc
        ·rename_i s4 hl;cases hc;obtain⟨k1,k2⟩:=aY hn;obtain⟨k3,k4⟩:=vH hl;have k5:=pN hps;have hlike:s.like s4:=((cE hp).trans k5).trans (k1.trans k3);refine⟨dy (b:=s4) hlike.sub ⟨[],rfl⟩,λok w0 μ w args' hR hV=>?_⟩;have ok4:SOK s4:=λp hp=>ok p hp;have hrel:=k2 (gd k3.sub ok4);obtain⟨q1,q'⟩:=aV (k4 ok4);obtain⟨q2,q'⟩:=aV q';obtain⟨q3,q4⟩:=aV q';have hnd0:=fC b1;have hlt:∀ i∈names,i<s.next:=λi hi=>by have:=b2 i hi;simp[em] at this;omega
         have hnd:(nmO names s.next x.nks).Nodup:=by
          unfold nmO;refine ql.2 ⟨hnd0,?_,λa ha b hb e=>?_⟩
          ·exact gw.2 (qm.2 ((gw.1 rf).imp λh e=>h qO))
          ·subst e;obtain⟨k,_,rfl⟩:=fi.1 hb;have:=hlt _ ha;omega
         obtain⟨i1,i2⟩:=CS hri q1 b3.symm;obtain⟨r2,r3⟩:=AH hro q3 hnd;have e2h:s2.h=s.h:=k5.h.trans (cE hp).h;have plen:x.post.length=names.length+x.nks.length:=by unfold MSpec.post;rw[cg,fa,b5,b3]
         have hlen:x.post.length-names.length=x.nks.length:=qO;have hzl:(x.kds.map S0++x.nks.map λ_=>au).length=x.post.length:=by rw[cg,fa,fa,plen,b3]
         have hz2:x.zips.map (·.2)=x.post:=by unfold MSpec.zips;exact List.map_snd_zip (lu hzl.symm)
         have:=FnEx.frameM (s:=s) (s':={s with h:=t2,next:=s.next+x.nks.length}) (nm:=nmO names s.next x.nks) (h g x (fD hx) _ _ _ _ hrel) hnd0 (by show x.kds.length=_;exact b3.symm) rfl
          hlt
          (λj o ho hd=>by
           obtain⟨i,o',op,qs,f1,f2,f3,f4,f5⟩:=i1 j o (EZ ho);exact⟨i,o',f1,f2,f3,op,qs,f4,f5⟩)
          ⟨p2,hra,q2⟩ (by show nmO names s.next x.nks=names++(mf (x.post.length-names.length)).map _;rw[hlen];rfl)
          (λi o' ho' hd=>by
           have ho':t2.get i=ae o':=ho';by_cases hi:i∈nmO names s.next x.nks
           ·obtain⟨j,hj⟩:=mg.1 hi;obtain⟨b,k,m1,m2⟩:=r3 j i hj;cases k with
            |ob k=>obtain⟨o,o2,qs,n1,n2,n3,n4⟩:=m2;rw[n2] at ho';cases ho';rw[hz2] at n1;exact .inl ⟨j,o,hj,QT (bK b4) n1,qs,n3,n4⟩
            |non=>cases b with
             |true=>have m2:t2.get i=ae .dead:=m2;rw[m2] at ho';cases ho';exact cp rfl hd
             |false=>
              have m2:t2.get i=s2.h.get i:=m2;rw[m2,e2h] at ho';have hz:=m1;unfold MSpec.zips at hz;rw[List.getElem?_zip_eq_some] at hz;have hjl:j<x.kds.length:=by
               rcases ey j x.kds.length with hh|hh
               ·exact hh
               ·have h1:=hz.1;rw[eq (by rw[fa];exact hh),iw] at h1;cases hq:x.nks[j-(x.kds.map S0).length]? with|none=>rw[hq] at h1;cases h1|some _=>rw[hq] at h1;cases h1
              have hkj:x.kds[j]? =ae .non:=by have h1:=hz.1;rw[dt (by rw[fa];exact hjl),iw] at h1;cases hq:x.kds[j]? with|none=>rw[hq] at h1;cases h1|some kk=>cases kk with|ob _=>rw[hq] at h1;cases h1|non=>rfl
              have hnj:names[j]? =ae i:=by
               unfold nmO at hj
               rwa [dt qO] at hj
              obtain⟨y1,y2⟩:=i2 j i o' hkj hnj ho';refine .inr (.inr ⟨j,hnj,λo0 h0=>?_,ho',y1⟩);have:=EZ h0;rw[y2] at this;cases this
           ·rw[r2 i hi,e2h] at ho';exact .inr (.inl ⟨hi,ho'⟩))
          (by show s.next+x.nks.length=s.next+(x.post.length-names.length);rw[hlen]) rfl ⟨p4,hrv,q4⟩
         refine(this w0 μ w args' hR hV).mono λe w' ⟨u,t,v9,ν,m1,m2,m3,m4,m5⟩=>?_;obtain⟨rfl,rfl⟩:=m1;exact⟨v9,ν,m2,m3,m4.same rfl rfl hlike.ng,m5⟩
        ·cases hc
       ·cases hc
      ·cases hc
     ·cases hc
    ·cases hc
   ·cases hc
  ·cases hc
 ·cases hc
theorem rx(v:af):v=v:=rfl
def bP(P:cq)(g:ia)(kds pks:ab KM)(nks:ab KD):bB:=λa cs v cs'=>FnEx P g a (stM kds cs) (λu t=>u=v/\t=stM (pks++nks.map .ob) cs')
end
theorem cL{P:cq}{l:ab (ia×MSpec)}(h:∀ g x,(g,x)∈l->F3 P g x:=by
 intro g x hm;simp only[List.mem_cons,Prod.mk.injEq,List.not_mem_nil,or_false] at hm
 repeat(rcases hm with⟨rfl,rfl⟩|hm;exact λ_ _ _ _ h=>h)
 all_goals(obtain⟨rfl,rfl⟩:=hm;exact λ_ _ _ _ h=>h)):aR P (eX l):=B9 h
section
variable{P:cq}
def PZ(call:aS)(g:ia)(args:ab af)(s:St)(ω:ab (ab af))(C:Cut):bp (af×ab (aq×gh)×ab Prop):=match call g args (s.ask [] ω) with
 |some (v,s1)=>bif C.okB s1&&bx s1.ng s.ng then
   match iL s1 C.ices with
   |some (s2,p1)=>match gO C.ρ s2 C.objs,dV C.ρ 6 v with|some (os,p2),ae (v',p3)=>ae (v',os,s1.pc++(p1++p2++p3))|_,_=>av
   |none=>av
  else av
 |none=>av
theorem FnEx.lift{call:aS}(hc:aR P call){g:ia}{args:ab af}{s:St}(ω:ab (ab af))(C:Cut){v:af}{os:ab (aq×gh)}{ps:ab Prop}{n0 next:aq}(hn:(bx C.n0 s.next&&bx C.next next)=au)(hp:allP ps)(h:PZ call g args s ω C=ae (v,os,ps)):FnEx P g args s (λu t=>u=v/\t=aH os next s.ng):=by
 simp only[bu,aI] at hn;obtain⟨hn,rfl⟩:=hn;intro w0 μ w args' hR hV;unfold PZ at h;split at h
 ·rename_i v1 s1 j5;obtain⟨hb,h⟩:=aD h;simp only[bu,aI] at hb;split at h
  ·rename_i s2 p1 hi;split at h
   ·rename_i os' p2 v' p3 ho hv;cases h;obtain⟨h1,h4⟩:=aV hp;obtain⟨h2,h3⟩:=aV h4;obtain⟨h2,h5⟩:=aV h2;refine((hc _ _ _ _ _ j5).2 h1 w0 μ w args' (CB hR) hV).mono λe w' ⟨u,ν,m1,m2,m3,m4⟩=>?_;obtain⟨ν1,q1,q2,q3,q4,q5,q6⟩:=uF hb.1 m3 hi h2;have hcut:=FW hb.1 m3 q2 q3 q4 q5 ho h5;refine⟨v,_,u,_,⟨rfl,rfl⟩,m1,?_,by rw[<-hb.2];exact hcut,cO q4 (λ_ _ h=>h) _ _ _ _ _ hv h3 (m4.mono q1)⟩;rw[hn] at q6;exact((m2.leN _).trans q6).le hR.fresh
   ·cases h
  ·cases h
 ·cases h
theorem X6(l:ab af)(k:aq)(v:af)(h:l[k]? =ae v):(0:br)<=(k:br)/\l[az (k:br)]? =ae v:=⟨qO,by simpa using h⟩
def iS:gy->gy
 |.block _ c=>c|c=>c
def JR(id:aq):HX->HX
 |.exit i=>if i=id then .normal else .exit i
 |x=>x
theorem ExD.block{n0 id:aq}{c:gy}{s s':St}{f f':HF}{x:HX}(h:ExD P n0 (aU c) s f x s' f'):ExD P n0 [.block id c] s f (JR id x) s' f':=by
 intro w0 μ w a hR hA;show(Code.block id c).wp P _ a w;refine wp_block (wp_mono (d7 c _ _ _ (h w0 μ w a hR hA)) λe a' w' ⟨x0,s0,f0,e1,⟨e2,e3,e4⟩,ν,e5,e6,e7⟩=>?_);subst e1;subst e2;subst e3;subst e4;cases x0 with
 |normal=>exact⟨.normal,s0,f0,rfl,⟨rfl,rfl,rfl⟩,ν,e5,e6,e7⟩|ret=>exact⟨.ret,s0,f0,rfl,⟨rfl,rfl,rfl⟩,ν,e5,e6,e7⟩
 |exit i=>
  show og id _ (.exit i) a' w';simp only[og];by_cases hi:i=id
  ·rw[fc hi];exact⟨.normal,s0,f0,rfl,⟨by simp[JR,hi],rfl,rfl⟩,ν,e5,e6,e7⟩
  ·rw[eh hi];exact⟨.exit i,s0,f0,rfl,⟨by simp[JR,hi],rfl,rfl⟩,ν,e5,e6,e7⟩
theorem Lp.exD{n0 id:aq}{c:gy}{m:aq}{s s':St}{f f':HF}(h:Lp P n0 c m s f (.exit id) s' f'):ExD P n0 [.block id (.loop c)] s f .normal s' f':=by refine h.ex (ds:=[]) ?_;show(if id=id then _ else _);rw[fc rfl];exact Ex.nil ⟨rfl,rfl,rfl⟩
theorem ExD.stop{n0:aq}{cs ds:ab gy}{s s':St}{f f':HF}{x:HX}(h:ExD P n0 cs s f x s' f')(hx:x≠.normal):ExD P n0 (cs++ds) s f x s' f':=Ex.append h λy t g ⟨e1,e2,e3⟩=>by subst e1;subst e2;subst e3;cases y with|normal=>exact cp rfl hx|exit i=>exact⟨rfl,rfl,rfl⟩|ret=>exact⟨rfl,rfl,rfl⟩
inductive WkO:gh->gh->Prop
 |refl (o:gh):WkO o o
 |pre (c d:ab af) (e:ct):WkO (.row aa (c++d) e) (.row aa c e)
 |opn (c:ab af) (e:ct):WkO (.row au c e) (.srow c e)
 |none (op:cz) (c:ab af) (e:ct):WkO (.row op c e) (.srow [] e)
 |hard (c:ab af) (e:ct) (h:c≠[]):WkO (.srow c e) (.row au c e)
 |less (c c':ab af) (e:ct) (h:Lesss c c'):WkO (.row aa c e) (.row aa c' e)
 |sno (c:ab af) (e:ct):WkO (.srow c e) (.srow [] e)
theorem Lesss.at{c c':ab af}(h:Lesss c c'):c.length=c'.length/\∀(j:aq)(v':af),c'[j]? =ae v'->∃v,c[j]? =ae v/\Less v v':=by induction h with|nil=>exact⟨rfl,λj v' hj=>by simp at hj⟩|cons h t ih=>refine⟨by simp[ih.1],λj v' hj=>?_⟩;cases j with|zero=>simp at hj;subst hj;exact⟨_,rfl,h⟩|succ j=>simpa using ih.2 j v' (by simpa using hj)
theorem F6{β:Base}{μ:Mu}{w:dh}{i:aq}{o o':gh}{p:Place}(h:WkO o o')(k:Hl β μ i o p w):Hl β μ i o' p w:=by
 cases h with
 |refl o=>exact k
 |pre c d e=>
  obtain⟨cur,k1,k2,k3,k4⟩:=k;refine⟨cur,k1,k2,by simp at k3;omega,λj v hj=>k4 j v ?_⟩;have hlt:j<c.length:=by
   rcases ey j c.length with h|h
   ·exact h
   ·rw[ei h] at hj;cases hj
  rw[dt hlt];exact hj
 |opn c e=>exact .inr k|none op c e=>obtain⟨cur,k1,k2,k3,k4⟩:=k;exact .inr ⟨cur,k1,k2,li _,λj v hj=>by simp at hj⟩|hard c e hne=>exact k.resolve_left λh=>hne h.1
 |sno c e=>
  rcases k with⟨_,k⟩|⟨cur,k1,k2,k3,k4⟩
  ·exact .inl ⟨rfl,k⟩
  ·exact .inr ⟨cur,k1,k2,li _,λj v hj=>by simp at hj⟩
 |less c c' e hl=>obtain⟨cur,k1,k2,k3,k4⟩:=k;obtain⟨l1,l2⟩:=hl.at;refine⟨cur,k1,k2,qO,λj v' hj=>?_⟩;obtain⟨v,hv,hlv⟩:=l2 j v' hj;obtain⟨x,hx,hr⟩:=k4 j v hv;exact⟨x,hx,hlv μ x hr⟩
theorem QD{w0:Base}{μ:Mu}{s s2:St}{w:dh}(h:R w0 μ s w)(ht:TrR WkO s.h s2.h)(e2:s2.next=s.next)(e3:s2.ng=s.ng):R w0 μ s2 w:=by
 have key:∀ i o',s2.h.get i=ae o'->∃o,s.h.get i=ae o/\WkO o o':=λi o' hi=>by have:=ht.get i;rw[hi] at this;cases ho:s.h.get i with|none=>rw[ho] at this;exact this.elim|some o=>rw[ho] at this;exact⟨o,rfl,this⟩
 have nd:∀{o o':gh},WkO o o'->o'≠.dead->o≠.dead:=λhw hd e=>by cases hw with|refl=>exact hd e|pre=>cases e|opn=>cases e|none=>cases e|hard=>cases e|less=>cases e|sno=>cases e
 have ow:∀{o o':gh}{p:Place}{g:aq},WkO o o'->own o' p g->own o p g:=λhw hg=>by cases hw with|refl=>exact hg|pre=>exact hg|opn=>exact hg.2|none=>exact hg.2|hard c e hne=>exact⟨.inl hne,hg⟩|less=>exact hg|sno c e=>exact⟨.inr (hg.1.resolve_left λh=>h rfl),hg.2⟩
 refine⟨h.below,λi hi=>h.fresh i (by rw[<-e2];exact hi),λi o' hi hd=>?_,λi j x y p q hij hi hj hp hq g hga hgb=>?_,h.fz,λb O i x p hb hi hp hg=>?_,h.fzo,λg hg=>h.gl g (by rw[<-e3];exact hg)⟩
 ·obtain⟨o,ho,hw⟩:=key i o' hi;obtain⟨p,p1,p2,p3⟩:=h.obj i o ho (nd hw hd);exact⟨p,p1,F6 hw p2,λg hg=>p3 g (ow hw hg)⟩
 ·obtain⟨o,ho,hw⟩:=key i x hi;obtain⟨o2,ho2,hw2⟩:=key j y hj;exact h.dis i j o o2 p q hij ho ho2 hp hq g (ow hw hga) (ow hw2 hgb)
 ·obtain⟨o,ho,hw⟩:=key i x hi;exact h.fzd b O i o p hb ho hp (ow hw hg)
theorem Ex.weak{n0:aq}{cs:ab gy}{os os2:ab (aq×gh)}{next:aq}{f:HF}{Q:HX->St->HF->Prop}(hw:slR WkO os os2)(h:Ex P n0 cs (aH os2 next 0) f Q):Ex P n0 cs (aH os next 0) f Q:=λw0 μ w a hR hA=>h w0 μ w a (QD (s2:=aH os2 next 0) hR (jL hw (TrR.refl (λo=>.refl o) .lf)) rfl rfl) hA
theorem FnEx.weak{g:ia}{args:ab af}{s:St}{v:af}{os os2:ab (aq×gh)}{next:aq}(h:FnEx P g args s (λu t=>u=v/\t=aH os next 0))(hw:slR WkO os os2):FnEx P g args s (λu t=>u=v/\t=aH os2 next 0):=λw0 μ w args' hR hV=>(h w0 μ w args' hR hV).mono λe w' ⟨u,t,v',ν,⟨e1,e2⟩,m1,m2,m3,m4⟩=>by subst e1;subst e2;exact⟨u,_,v',ν,⟨rfl,rfl⟩,m1,m2,QD (s2:=aH os2 next 0) m3 (jL hw (TrR.refl (λo=>.refl o) .lf)) rfl rfl,m4⟩
theorem FnEx.lessR{g:ia}{args:ab af}{s s':St}{v v2:af}(h:FnEx P g args s (λu t=>u=v/\t=s'))(hl:Less v v2):FnEx P g args s (λu t=>u=v2/\t=s'):=λw0 μ w args' hR hV=>(h w0 μ w args' hR hV).mono λe w' ⟨u,t,v',ν,⟨e1,e2⟩,m1,m2,m3,m4⟩=>by subst e1;subst e2;exact⟨v2,_,v',ν,⟨rfl,rfl⟩,m1,m2,m3,hl ν v' m4⟩
def FLe(v v2:af):Prop:=∀(fz:aq->bp Obj)(x:af),FR fz v x->FR fz v2 x
theorem FLe.refl(v:af):FLe v v:=λ_ _ h=>h
theorem FLe.nil:FLe (.slice av 0 0) (mq []):=λfz x h=>by cases h;exact .frz0
inductive FLes:ab af->ab af->Prop
 |nil:FLes [] []
 |cons {v v2:af} {l l2:ab af} (h:FLe v v2) (t:FLes l l2):FLes (v::l) (v2::l2)
theorem FLes.refl:∀ l:ab af,FLes l l
 |[]=>.nil|v::l=>.cons (.refl v) (FLes.refl l)
theorem FLes.append{a a2 b b2:ab af}(h:FLes a a2)(k:FLes b b2):FLes (a++b) (a2++b2):=by induction h with|nil=>exact k|cons h _ ih=>exact .cons h ih
theorem FLes.frs{fz:aq->bp Obj}{l l2 xs:ab af}(h:FLes l l2)(k:FRs fz l xs):FRs fz l2 xs:=by induction h generalizing xs with|nil=>exact k|cons h _ ih=>cases k with|cons k1 k2=>exact .cons (h _ _ k1) (ih k2)
def ElR(x x2:af):Prop:=x.cells.size=x2.cells.size/\FLes x.cells.toList x2.cells.toList
theorem ElR.refl(x:af):ElR x x:=⟨rfl,.refl _⟩
inductive ElRs:ab af->ab af->Prop
 |nil:ElRs [] []
 |cons {v v2:af} {l l2:ab af} (h:ElR v v2) (t:ElRs l l2):ElRs (v::l) (v2::l2)
theorem ElRs.refl:∀ l:ab af,ElRs l l
 |[]=>.nil|v::l=>.cons (.refl v) (ElRs.refl l)
theorem ElRs.append{a a2 b b2:ab af}(h:ElRs a a2)(k:ElRs b b2):ElRs (a++b) (a2++b2):=by induction h with|nil=>exact k|cons h _ ih=>exact .cons h ih
theorem ElRs.props{l l2:ab af}(h:ElRs l l2):l.length=l2.length/\FLes (aB l) (aB l2)/\∀ z,(∀ v∈l,v.cells.size=z)->∀ v∈l2,v.cells.size=z:=by
 induction h with
 |nil=>exact⟨rfl,.nil,λz h v hv=>by cases hv⟩
 |@cons v v2 l l2 h t ih=>
  refine⟨by simp[ih.1],?_,λz hz x hx=>?_⟩
  ·show FLes (v.cells.toList++aB l) (v2.cells.toList++aB l2);exact h.2.append ih.2.1
  ·rcases ci.1 hx with rfl|hx
   ·rw[<-h.1];exact hz v (fd ..)
   ·exact ih.2.2 z (λy hy=>hz y (ep _ hy)) x hx
theorem wB{es es2:ab af}(h:ElRs es es2):FLe (mq es) (mq es2):=by
 obtain⟨h1,h2,h3⟩:=h.props;intro fz x k;generalize he:mq es=w at k;cases k with
 |frz0=>
  have:es=[]:=by unfold mq at he;simpa using he
  subst this;cases h;exact .frz0
 |@frz es' b o z c cur e fr hb hz hes hc ho hr=>
  have:es=es':=by unfold mq at he;simpa using he
  subst this;rw[h1] at hc ho hr ⊢;exact .frz hb hz (h3 z hes) hc ho (h2.frs hr)
 |_=>unfold mq at he;cases he
theorem KV{es es2:ab af}(h:ElRs es es2):Less (mq es) (mq es2):=λμ x k=>by generalize he:mq es=w at k;cases k with|frz k=>rw[<-he] at k;exact .frz (wB h _ _ k)|iface ht k=>unfold mq at he;cases he;simp[TYM] at ht|_=>unfold mq at he;cases he
end
theorem qK{α:Type _}{a b:α}(h:a=b:=by kernel_rfl):a=b:=h
abbrev I(n:br):Value:=.int .i64 n
abbrev un(z:aq):Nat:=UNK+z
abbrev U:Value:=.tuple ⟨[]⟩
abbrev SL(i n c:aq):Value:=.slice (ae ⟨i,0,av⟩) n c
abbrev SN0:Value:=.slice av 0 0
def W(G:Prop)(L:ab Prop)(_:ab (ab (ab af)))(c:Prop):Prop:=allP L->c->G
def dgs:aq->aq->ab aq
 |0,_=>[]|k+1,n=>bif dg n 1 then[] else(n % 64)::dgs k (n / 64)
def nbs:aq->aq->ab cz
 |0,_=>[]|k+1,n=>bif dg n 1 then[] else bx (n % 2) 1::nbs k (n / 2)
def SC:ab Prop->aq->Prop
 |[],_=>True|p::_,0=>p|_::l,n+1=>SC l n
def pkl(L:ab Prop):ab aq->ab Prop
 |[]=>[]|i::l=>SC L i::pkl L l
def pk(n:aq)(L:ab Prop):ab Prop:=pkl L.reverse (dgs 600 n)
theorem FC:∀{L:ab Prop},allP L->∀ n,SC L n
 |[],_,_=>trivial|p::_,h,0=>h p (fd ..)|_::_,h,n+1=>FC (λq hq=>h q (ep _ hq)) n
theorem JQ{L:ab Prop}(h:allP L):∀ l,allP (pkl L l)
 |[]=>.nil|i::l=>.cons (FC h i) (JQ h l)
theorem E8(n:aq){L:ab Prop}(h:allP L):allP (pk n L):=JQ (λp hp=>h p (by simpa using hp)) _
def flO(O:ab (ab (ab af))):ab (ab af):=O.reverse.flatten
def tl(l:ab aq):ab (aq×aq×cz):=l.map λn=>(n / 128,n / 2 % 64,bx (n % 2) 1)
abbrev G0:ab Prop:=[aa=aa,au=au]
theorem g0:allP G0:=.cons rfl (.cons rfl .nil)
section
variable{G c d p:Prop}{L:ab Prop}{O:ab (ab (ab af))}
theorem tq(b:cz)(x:W G ((b=au)::L) O c)(y:W G ((b=aa)::L) O d):W G L O ((b=au->c)/\(b=aa->d)):=λh q=>by cases hb:b with|true=>exact x (.cons hb h) (q.1 hb)|false=>exact y (.cons hb h) (q.2 hb)
theorem tf(b:cz)(x:W G ((b=aa)::((b==aa)=au)::L) O c)(y:W G ((b=au)::((b==aa)=aa)::L) O d):W G L O (((b==aa)=au->c)/\((b==aa)=aa->d)):=λh q=>by cases hb:(b==aa) with|true=>exact x (.cons (T2 hb) (.cons hb h)) (q.1 hb)|false=>exact y (.cons (YL hb) (.cons hb h)) (q.2 hb)
theorem tu(b:cz)(x:W G ((b=au)::((b==au)=au)::L) O c)(y:W G ((b=aa)::((b==au)=aa)::L) O d):W G L O (((b==au)=au->c)/\((b==au)=aa->d)):=λh q=>by cases hb:(b==au) with|true=>exact x (.cons (T1 hb) (.cons hb h)) (q.1 hb)|false=>exact y (.cons (YK hb) (.cons hb h)) (q.2 hb)
section
variable{α β γ δ ε ζ:Type}
theorem xa{c:α->Prop}(x:∀ a,W G L O (c a)):W G L O (∃a,c a):=λh ⟨a,q⟩=>x a h q
theorem xb{c:α->β->Prop}(x:∀ a b,W G L O (c a b)):W G L O (∃a b,c a b):=λh ⟨a,b,q⟩=>x a b h q
theorem xc{k:α->β->γ->Prop}(x:∀ a b c,W G L O (k a b c)):W G L O (∃a b c,k a b c):=λh ⟨a,b,c,q⟩=>x a b c h q
theorem xd{k:α->β->γ->δ->Prop}(x:∀ a b c d,W G L O (k a b c d)):W G L O (∃a b c d,k a b c d):=λh ⟨a,b,c,d,q⟩=>x a b c d h q
theorem xe{k:α->β->γ->δ->ε->Prop}(x:∀ a b c d e,W G L O (k a b c d e)):W G L O (∃a b c d e,k a b c d e):=λh ⟨a,b,c,d,e,q⟩=>x a b c d e h q
theorem xf{k:α->β->γ->δ->ε->ζ->Prop}(x:∀ a b c d e f,W G L O (k a b c d e f)):W G L O (∃a b c d e f,k a b c d e f):=λh ⟨a,b,c,d,e,f,q⟩=>x a b c d e f h q
end
theorem nt(p:Prop)(vs:ab (ab af))(x:W G (p::L) (vs::O) c):W G L O (p/\c):=λh q=>x (.cons q.1 h) q.2
theorem pn(p:Prop)(x:W G (p::L) O c):W G L O (p/\c):=λh q=>x (.cons q.1 h) q.2
theorem rn(r:bB)(a:ab af)(cs:ab (ab af))(v:af)(cs':ab (ab af))(x:W G (r a cs v cs'::L) (([v]::cs')::O) c):W G L O (r a cs v cs'/\c):=λh q=>x (.cons q.1 h) q.2
theorem hv(z:p)(x:W G (p::L) O c):W G L O c:=λh q=>x (.cons z h) q
theorem nQ:W G L O False:=λ_=>False.elim
theorem el(l:ab af)(k:aq)(v:af)(x:W G ((0<=(k:br)/\l[az (k:br)]? =ae v)::L) ([[v]]::O) c)(h:l[k]? =some v:=by rfl):W G L O c:=λhL q=>x (.cons (X6 l k v h) hL) q
variable{P:cq}{call:aS}{fn:rl}{l:ab gy}{s:St}{f:HF}{n0 ng n:aq}
def GF(P:cq)(call:aS)(fn:rl)(l:ab gy)(s:St)(f:HF)(n0 ng:aq)(Q:af->St->Prop):Prop:=∃(π:ab cz)(ω:ab (ab af))(C:Cut)(v:af)(os:ab (aq×gh))(ps:ab Prop),tK P call 40 fn l s f π ω C=ae (v,os,ps)/\allP ps/\C.n0=n0/\Q v (aH os C.next ng)
def GS(P:cq)(call:aS)(l:ab gy)(s:St)(f:HF)(n0 ng n:aq)(Q:HX->St->HF->Prop):Prop:=∃(π:ab cz)(ω:ab (ab af))(C:Cut)(x:HX)(os:ab (aq×gh))(sl:ab (aq×af))(ps:ab Prop),aW P call 40 l s f π ω C=ae (x,os,sl,ps)/\allP ps/\C.n0=n0/\Q x (aH os C.next ng) (mkF sl n)
theorem lF{Q:af->St->Prop}(π ix:aq)(ob:ab aq)(ic:ab (aq×aq×ab af))(next:aq)(v:af)(os:ab (aq×gh))(h:tK P call 40 fn l s f (nbs 600 π) (flO O) ⟨tl ob,ic,[],next,n0,false⟩=some (v,os,pk ix L):=by kernel_rfl):W (GF P call fn l s f n0 ng Q) L O (Q v (aH os next ng)):=λhL q=>⟨_,_,_,v,os,_,h,E8 ix hL,rfl,q⟩
theorem lZ{Q:af->St->Prop}(π ix:aq)(ob:ab aq)(ic:ab (aq×aq×ab af))(next:aq)(v:af)(os:ab (aq×gh))(h:tK P call 40 fn l s f (nbs 600 π) (flO O) ⟨tl ob,ic,[],next,n0,true⟩=some (v,os,pk ix L):=by kernel_rfl):W (GF P call fn l s f n0 ng Q) L O (Q v (aH os next ng)):=λhL q=>⟨_,_,_,v,os,_,h,E8 ix hL,rfl,q⟩
theorem lS{Q:HX->St->HF->Prop}(π ix:aq)(ob:ab aq)(ic:ab (aq×aq×ab af))(ss:ab aq)(next:aq)(x:HX)(os:ab (aq×gh))(sl:ab (aq×af))(h:aW P call 40 l s f (nbs 600 π) (flO O) ⟨tl ob,ic,ss,next,n0,false⟩=some (x,os,sl,pk ix L):=by kernel_rfl):W (GS P call l s f n0 ng n Q) L O (Q x (aH os next ng) (mkF sl n)):=λhL q=>⟨_,_,_,x,os,sl,_,h,E8 ix hL,rfl,q⟩
theorem lT{Q:HX->St->HF->Prop}(π ix:aq)(ob:ab aq)(ic:ab (aq×aq×ab af))(ss:ab aq)(next:aq)(x:HX)(os:ab (aq×gh))(sl:ab (aq×af))(h:aW P call 40 l s f (nbs 600 π) (flO O) ⟨tl ob,ic,ss,next,n0,true⟩=some (x,os,sl,pk ix L):=by kernel_rfl):W (GS P call l s f n0 ng n Q) L O (Q x (aH os next ng) (mkF sl n)):=λhL q=>⟨_,_,_,x,os,sl,_,h,E8 ix hL,rfl,q⟩
theorem fw(hg:NoG P)(hc:aR P call){g:ia}(hf:P.funcs[g]? =ae fn)(args:ab af)(s:St)(n0 ng:aq)(Q:af->St->Prop){c:Prop}(w:W (GF P call fn (pcs P g) s (bX args fn.ntmps) n0 ng Q) G0 [] c)(hb:fn.body.isSome=true:=by rfl)(ht:(iP 0 args .lf).isSome=true:=by rfl)(hn:s.next=n0:=by rfl)(hm:s.ng=ng:=by rfl):c->∃v t,Q v t/\FnEx P g args s (λu s'=>u=v/\s'=t):=λq=>(λ⟨π,ω,C,v,os,ps,h1,h2,h3,h4⟩=>by
  subst hn;subst hm;exact FnEx.leafE hg hc π ω C hf hb ht h3 h2 h4 h1) (w g0 q)
theorem fx(hg:NoG P)(hc:aR P call)(fn:rl)(l:ab gy)(s:St)(f:HF)(n0 ng:aq)(Q:af->St->Prop){c:Prop}(w:W (GF P call fn l s f n0 ng Q) G0 [] c)(hm:s.ng=ng:=by rfl):c->∃v t,Q v t/\ExE P fn n0 l s f v t:=λq=>(λ⟨π,ω,C,v,os,ps,h1,h2,h3,h4⟩=>by
  subst hm;exact Ex.leafE hg hc π ω C h3 h2 h4 h1) (w g0 q)
theorem sg(hg:NoG P)(hc:aR P call)(l:ab gy)(s:St)(f:HF)(n0 ng n:aq)(Q:HX->St->HF->Prop){c:Prop}(w:W (GS P call l s f n0 ng n Q) G0 [] c)(hm:s.ng=ng:=by rfl)(hn:f.n=n:=by rfl):c->∃x s' f',Q x s' f'/\ExD P n0 l s f x s' f':=λq=>(λ⟨π,ω,C,x,os,sl,ps,h1,h2,h3,h4⟩=>by
  subst hm;subst hn;exact Ex.segE hg hc π ω C (by simp[h3]) h2 h4 h1) (w g0 q)
end
end Go.Hx
namespace Go.Proofs.PA
open Go Go.Hx Go.RowKit Go.Proofs
theorem aC:NoG ad:=SD qK
def wF(us:ab br):Value:=frz (us.map λn=>.int .u8 n)
def aE(us:ab br)(a:br):ab Value:=[wF us,.int .i64 a]
abbrev p0:Value:=.pointer (ae ⟨0,0,av⟩)
abbrev p1:Value:=.pointer (ae ⟨1,0,av⟩)
abbrev mt:ByteArray:=⟨#[]⟩
def nmB:aq->bq
 |0=>⟨#[97]⟩|1=>⟨#[98]⟩|2=>⟨#[115]⟩|3=>⟨#[112]⟩|4=>⟨#[113]⟩|5=>⟨#[105]⟩|6=>⟨#[106]⟩|7=>⟨#[107]⟩|8=>⟨#[110]⟩
 |9=>⟨#[109,97,105,110]⟩|10=>⟨#[102]⟩|11=>⟨#[103]⟩|_=>mt
def DA:ab Value:=[.string (nmB 0),.string (nmB 1),.string (nmB 2),.string (nmB 3),.string (nmB 4)]
def exV(k n:br)(s:bq)(o:br)(l:ab af):Value:=.agg ⟨[.int .i64 k,.int .i64 n,.string s,.int .i64 o,frz l]⟩
def stV(k:br)(s f:bq)(n o:br)(es bs ls:ab af):Value:=.agg ⟨[.int .i64 k,.string s,.string f,.int .i64 n,.int .i64 o,frz es,frz bs,frz ls]⟩
def mkC(l lo f:br):ab Value:=[p1,.int .i64 l,.int .i64 lo,.int .i64 f]
def kD:ab KD:=[.row 88]
def kM:ab KD:=[.row 135,.row 88]
def pM:ab PA:=[.arg 0,.cell 0 0]
def r45:bB:=dG ad 45 kD
def r44:bB:=aCF ad 44 kM [.srw 143]
def r46:bB:=dG ad 46 kM
def r80:bB:=dG ad 80 kM
def G4:bB:=dG ad 112 kM
def G3:bB:=dG ad 137 kM
def RD:bB:=dG ad 138 kM
def r81:bB:=dG ad 81 []
def r47:bB:=dG ad 47 []
def r48:bB:=dG ad 48 []
def r49:bB:=dG ad 49 []
def r50:bB:=dG ad 50 []
def r51:bB:=dG ad 51 []
def kT:aS:=iR [(45,⟨[.arg 0],kD,r45,[]⟩),(44,⟨pM,kM,r44,[.srw 143]⟩),(46,⟨pM,kM,r46,[]⟩),(80,⟨pM,kM,r80,[]⟩),(112,⟨pM,kM,G4,[]⟩),(137,⟨pM,kM,G3,[]⟩),(138,⟨pM,kM,RD,[]⟩),(81,⟨[],[],r81,[]⟩),(47,⟨[],[],r47,[]⟩),(48,⟨[],[],r48,[]⟩),(49,⟨[],[],r49,[]⟩),(50,⟨[],[],r50,[]⟩),(51,⟨[],[],r51,[]⟩)]
theorem tG:aR ad kT:=dS
def aDD(us a n Q):=fw aC aK Tryz.func45 [p0,.int .i64 n] (stN [.row 88] [aE us a]) 1 0 Q<|tq (decide (a>=↑(aw (ai (λn=>ao .u8 n) us)))) (lF 6 66 [0] [] 1 (I 0) [(0,.row aa [frz (ai (λn=>.int .u8 n) us),I a] 88)]) (xa λx2=>nt (0<=ah .i64 (ah .i64 (a+1)-1)/\(ai (λn=>ao .u8 n) us)[az (ah .i64 (ah .i64 (a+1)-1))]? =ae (ao .u8 x2)) [[.int .u8 x2]]<|pn ((!n==0)=au)<|lF 8 270532 [0] [] 1 (I (Int.tmod (ah .i64 x2) n)) [(0,.row aa [frz (ai (λn=>.int .u8 n) us),I (ah .i64 (a+1))] 88)])
def Dok(us:ab br):Prop:=us.length<=1000000/\∀ x∈us,0<=x/\x<256
theorem pk(us:ab br)(h:Dok us)(a:aq)(n:br)(hn:0<n):∃(r:br)(a':aq),(0<=r/\r<n)/\r45 [p0,.int .i64 n] [aE us a] (.int .i64 r) [[wF us,.int .i64 a']]:=by
 have hl:(ai (λn=>ao IntKind.u8 n) us).length=us.length:=fa ..;obtain⟨v,t,⟨r,a',h1,rfl,rfl⟩,k⟩:=aDD us a n (λv t=>∃(r:br)(a':aq),(0<=r/\r<n)/\v=.int .i64 r/\t=stN kD [[wF us,.int .i64 a']]) (by
  refine⟨λ_=>⟨0,a,⟨Int.le_refl _,hn⟩,rfl,rfl⟩,λhc=>?_⟩;rw[hl] at hc;have hlt:a<us.length:=by simpa using hc
  obtain⟨x,hx⟩:∃x,us[a]? =ae x:=⟨_,fk hlt⟩;have hr:=h.2 x (ge hx);have hw:ah .i64 x=x:=cm _ qO;have w1:ah ag ((a:br)+1)=((a+1:aq):br):=by rw[cm _ (by have:=h.1;omega)];simp
  have w2:ah ag (((a+1:aq):br)-1)=(a:br):=by rw[cm _ (by have:=h.1;omega)];omega
  refine⟨x,?_,?_,?_⟩
  ·rw[w1,w2];exact⟨qO,lM hx⟩
  ·simp;omega
  ·rw[w1,hw];exact⟨_,_,⟨Int.tmod_nonneg _ hr.1,Int.tmod_lt_of_pos _ hn⟩,rfl,rfl⟩)
 exact⟨r,a',h1,k⟩
def aD7(u:Unit)(Q):=fw aC aK Tryz.func81 [] (stN [] []) 0 0 Q<|hv (aX 1 [an {data:=#[97]},an {data:=#[98]},an {data:=#[115]},an {data:=#[112]},an {data:=#[113]}] rfl rfl)<|hv (show 5=5 from qD)<|hv (show 5<=5 from qD)<|lZ 1 278722 [] [(0,1,[.string {data:=#[97]},.string {data:=#[98]},.string {data:=#[115]},.string {data:=#[112]},.string {data:=#[113]}])] 0 (frz [.string {data:=#[97]},.string {data:=#[98]},.string {data:=#[115]},.string {data:=#[112]},.string {data:=#[113]}]) []
def aD1(n Q):=fw aC aK Tryz.func50 [.int .i64 n] (stN [] []) 0 0 Q<|lZ 1 1 [] [] 0 (exV 1 n mt 0 []) []
def aD4(s Q):=fw aC aK Tryz.func51 [.string s] (stN [] []) 0 0 Q<|lZ 1 1 [] [] 0 (exV 3 0 s 0 []) []
def aFY(o k1 n1 o1 k2 n2 o2 s1 s2 l1 l2 Q):=fw aC aK Tryz.func49 [.int .i64 o,exV k1 n1 s1 o1 l1,exV k2 n2 s2 o2 l2] (stN [] []) 0 0 Q<|hv (aX 5 [exV k1 n1 s1 o1 l1,exV k2 n2 s2 o2 l2] rfl rfl)<|hv (show 2=2 from rfl)<|hv (show 2<=2 from qD)<|lZ 1 278722 [] [(3,5,[exV k1 n1 s1 o1 l1,exV k2 n2 s2 o2 l2])] 0 (exV 5 0 mt o [exV k1 n1 s1 o1 l1,exV k2 n2 s2 o2 l2]) []
theorem na:r81 [] [] (frz DA) []:=by obtain⟨v,t,⟨rfl,rfl⟩,k⟩:=aD7 () (λv t=>v=frz DA/\t=stN [] []) ⟨rfl,rfl⟩;exact k
theorem nu(n:br):r50 [.int .i64 n] [] (exV 1 n mt 0 []) []:=by obtain⟨v,t,⟨rfl,rfl⟩,k⟩:=aD1 n (λv t=>v=exV 1 n mt 0 []/\t=stN [] []) ⟨rfl,rfl⟩;exact k
theorem nm(s:bq):r51 [.string s] [] (exV 3 0 s 0 []) []:=by obtain⟨v,t,⟨rfl,rfl⟩,k⟩:=aD4 s (λv t=>v=exV 3 0 s 0 []/\t=stN [] []) ⟨rfl,rfl⟩;exact k
theorem bi(o k1 n1 o1 k2 n2 o2:br)(s1 s2:bq)(l1 l2:ab af):r49 [.int .i64 o,exV k1 n1 s1 o1 l1,exV k2 n2 s2 o2 l2] [] (exV 5 0 mt o [exV k1 n1 s1 o1 l1,exV k2 n2 s2 o2 l2]) []:=by obtain⟨v,t,⟨rfl,rfl⟩,k⟩:=aFY o k1 n1 o1 k2 n2 o2 s1 s2 l1 l2 (λv t=>v=exV 5 0 mt o [exV k1 n1 s1 o1 l1,exV k2 n2 s2 o2 l2]/\t=stN [] []) ⟨rfl,rfl⟩;exact k
theorem nD{r:br}(h0:0<=r)(h1:r<5):DA[r.toNat]? =ae (.string (nmB r.toNat)):=by obtain⟨k,rfl⟩:=Int.eq_ofNat_of_zero_le h0;have:k=0\/k=1\/k=2\/k=3\/k=4:=qO;rcases this with rfl|rfl|rfl|rfl|rfl<;>rfl
theorem aF9(os:ab O)(id:br):aW ad noK 5 ((pcs ad 38).take 2) St0 (bX [bF os,.int .i64 id] 21) [] [] ⟨[],[],[1,8,9,10],0,0,aa⟩=ae (iu,[],[(1,ao ag id),(8,frz (ai aF os)),(9,ao ag ↑(aw (ai aF os))),(10,ao ag 0)],[]):=by kernel_rfl
theorem aF4(os:ab O)(id:br)(o:O)(k:br):aW ad noK 5 ((aU (aJ (nth (pcs ad 38) 2))).take 9) (aH [] 0 0) (mkF [(1,.int .i64 id),(8,cN os),(9,.int .i64 os.length),(10,.int .i64 k)] 21) [au,aa] [[aF o]] ⟨[],[],[1,8,9,10],0,0,aa⟩=ae (iu,[],[(1,ao ag id),(8,frz (ai aF os)),(9,ao ag ↑(aw os)),(10,ao ag (ah ag (k+1)))],[(o.fst==id)=aa,0<=k/\(ai aF os)[az k]? =ae (bw ⟨[ao ag o.fst,frz (ai aM o.snd)]⟩),decide (k<↑(aw os))=au]):=by kernel_rfl
theorem aF6(os:ab O)(id:br)(o:O)(k:br):aW ad noK 5 ((aU (aJ (nth (pcs ad 38) 2))).take 9) (aH [] 0 0) (mkF [(1,.int .i64 id),(8,cN os),(9,.int .i64 os.length),(10,.int .i64 k)] 21) [au,au] [[aF o]] ⟨[],[],[4],0,0,aa⟩=ae (qn,[],[(4,ao ag k)],[(o.fst==id)=au,0<=k/\(ai aF os)[az k]? =ae (bw ⟨[ao ag o.fst,frz (ai aM o.snd)]⟩),decide (k<↑(aw os))=au]):=by kernel_rfl
theorem aF3(os:ab O)(id:br)(k:br):aW ad noK 5 ((aU (aJ (nth (pcs ad 38) 2))).take 9) (aH [] 0 0) (mkF [(1,.int .i64 id),(8,cN os),(9,.int .i64 os.length),(10,.int .i64 k)] 21) [aa] [] ⟨[],[],[],0,0,aa⟩=ae (HX.exit 0,[],[],[decide (k<↑(aw os))=aa]):=by kernel_rfl
theorem aF7(u:Unit):aW ad noK 5 ((pcs ad 38).drop 3 |>.take 9) (aH [] 0 0) (mkF [] 21) [] [] ⟨[],[],[4],0,0,aa⟩=ae (qn,[],[(4,ao ag (-1))],[]):=by kernel_rfl
theorem YP(n:br):vS ad Tryz.f38 (aH [] 0 0) (mkF [(4,.int .i64 n)] 21) [] ⟨[],[],[],0,0,aa⟩=ae (ao ag n,[],[]):=by kernel_rfl
theorem aF5:(pcs ad 38).drop 2=.block 0 (.loop (aJ (nth (pcs ad 38) 2)))::(pcs ad 38).drop 3:=by kernel_rfl
theorem P8(os:ab O)(id:br)(hl:SmO os):FnEx ad 38 [bF os,.int .i64 id] St0 (λu _=>u=.int .i64 (atI os id 0)):=by
 have hl:=hl.1;refine FnEx.enter (n0:=0) (fn:=Tryz.f38) (c:=mD ad 38) Tryz.func38 qK rfl rfl ?_;refine Ex.stepN aC aK 2 21 0 0 (aF9 os id) rfl allP.nil ?_;show Ex _ _ ((pcs ad 38).drop 2) _ _ _;rw[aF5];refine Ex.loop (λm s f=>∃p q,os=p++q/\q.length=m/\atI os id 0=atI q id p.length/\s=aH [] 0 0/\f=mkF [(1,.int .i64 id),(8,cN os),(9,.int .i64 os.length),(10,.int .i64 p.length)] 21) ?_ ⟨[],os,rfl,rfl,rfl,rfl,by simp[cN,frz]⟩;rintro m s f ⟨p,q,hos,hm,hat,rfl,rfl⟩;cases q with
 |nil=>refine Ex.stepN aC aK 9 21 0 0 (aF3 os id p.length) rfl (.cons (by simp[hos]) .nil) ?_;refine goOn.out ?_;refine Ex.stepN aC aK 9 21 0 0 (aF7 ()) rfl allP.nil ?_;exact FinQ.mk' (.inr rfl) (YP (-1)) rfl allP.nil (by rw[hat];rfl)
 |cons o q=>
  have hk:os[p.length]? =ae o:=by rw[hos];exact rX p o q
  have hlt:p.length<os.length:=by rw[hos];simp
  by_cases ho:o.1=id
  ·refine Ex.stepN aC aK 9 21 0 0 (aF6 os id o p.length) rfl (.cons (by simp[ho]) (.cons ⟨qO,lM hk⟩ (.cons (by simp;omega) .nil))) ?_;refine FinQ.mk' (.inr rfl) (YP p.length) rfl allP.nil ?_;rw[hat];simp[atI,ho]
  ·refine Ex.stepN aC aK 9 21 0 0 (aF4 os id o p.length) rfl (.cons (by simpa using ho) (.cons ⟨qO,lM hk⟩ (.cons (by simp;omega) .nil))) ?_;refine Ex.nil ⟨m-1,by simp at hm;omega,p++[o],q,by simp[hos],by simp at hm;omega,by rw[hat];simp[atI,ho],rfl,?_⟩;have:ah ag ((p.length:br)+1)=((p++[o]).length:br):=by rw[cm _ qO];simp
   rw[this];rfl
def iW:Rel:=λargs v=>∃os id,SmO os/\args=[bF os,.int .i64 id]/\v=.int .i64 (atI os id 0)
theorem AM:∀ args v,iW args v->FnEx ad 38 args St0 (λu _=>u=v):=by rintro args v ⟨os,id,h,rfl,rfl⟩;exact P8 os id h
theorem aDT(o:O):aW ad noK 5 (pcs ad 99) St0 (bX [aF o] 8) [aa] [] ⟨[(1,0,aa),(2,1,aa)],[],[2],2,0,aa⟩=ae (qn,[(0,cu aa [ao ag o.fst,cd (ae {block:=1,off:=0}) (aw (ai aM o.snd)) 9223372036854775810] 80),(1,cu au (aB (ai aM o.snd)) 55)],[(2,cr (ae {block:=0,off:=0}))],[(dg ((0+aw (ai aM o.snd))*16) 140737488355328&&dg (0+aw (ai aM o.snd)) 4611686018427387904)=au,∀(v:af),v∈ai aM o.snd->ef (dx v)=2,bx (aw (ai aM o.snd)) 0=aa]):=by kernel_rfl
theorem aDS(o:O):aW ad noK 5 (pcs ad 99) St0 (bX [aF o] 8) [au] [] ⟨[(1,0,aa)],[],[2],1,0,aa⟩=ae (qn,[(0,cu aa [ao ag o.fst,cd av 0 0] 80)],[(2,cr (ae {block:=0,off:=0}))],[bx (aw (ai aM o.snd)) 0=au]):=by kernel_rfl
theorem WJ(o:O):vS ad Tryz.f99 (aH [(0,.row aa [.int .i64 o.1,.slice (ae ⟨1,0,av⟩) (o.2.map aM).length (UNK+2)] 80),(1,.row au (aB (o.2.map aM)) 55)] 2 0) (mkF [(2,.pointer (ae ⟨0,0,av⟩))] 8) [] ⟨[],[(1,2,o.2.map aM)],[],0,0,aa⟩=ae (bw ⟨[ao ag o.fst,frz (ai aM o.snd)]⟩,[],[aB (ai aM o.snd)=aB (ai aM o.snd)/\(∀(v:af),v∈ai aM o.snd->ef (dx v)=2)/\0<2,aw (ai aM o.snd)=aw (ai aM o.snd)]):=by kernel_rfl
theorem WI(o:O):vS ad Tryz.f99 (aH [(0,.row aa [.int .i64 o.1,.slice av 0 0] 80)] 1 0) (mkF [(2,.pointer (ae ⟨0,0,av⟩))] 8) [] ⟨[],[],[],0,0,au⟩=ae (bw ⟨[ao ag o.fst,frz []]⟩,[],[]):=by kernel_rfl
theorem PT(o:O)(h:SmV o.2):FnEx ad 99 [aF o] St0 (λu _=>u=aF o):=by
 unfold SmV at h;refine FnEx.enter (n0:=0) (fn:=Tryz.f99) (c:=mD ad 99) Tryz.func99 qK rfl rfl ?_;cases hfs:o.2 with
 |nil=>refine Ex.stepN aC aK 9 8 0 1 (aDS o) rfl (.cons (by simp[hfs]) .nil) ?_;exact FinQ.mk' (.inr rfl) (WI o) rfl allP.nil (by simp[aF,jE,frz,hfs])
 |cons v l=>
  refine Ex.stepN aC aK 9 8 0 2 (aDT o) rfl (.cons ?_ (.cons (cV _) (.cons (HZ (by simp[hfs])) .nil))) ?_
  ·refine cP (by simp;omega) (by simp;omega)
  ·exact FinQ.mk' (.inr rfl) (WJ o) rfl (.cons ⟨rfl,cV _,qO⟩ (.cons rfl .nil)) rfl
def AL:Rel:=λargs v=>∃o,SmV o.2/\args=[aF o]/\v=aF o
theorem I2:∀ args v,AL args v->FnEx ad 99 args St0 (λu _=>u=v):=by rintro args v ⟨o,h,rfl,rfl⟩;exact PT o h
def kAt:aS:=AF [(38,iW),(99,AL)]
theorem eP:aR ad kAt:=uO λg rel hm args v h _ _=>by
 simp only[ci,bn,uj,or_false] at hm;rcases hm with⟨rfl,rfl⟩|⟨rfl,rfl⟩
 ·exact AM args v h
 ·exact I2 args v h
theorem aCM(os:ab O)(id f:br):aW ad kAt 5 (pcs ad 19) St0 (bX [bF os,.int .i64 id,.int .i64 f] 39) ([aa,aa]++[au]++fp 9 aa++[au,au]) [[.int .i64 (-1)]] ⟨[(1,0,aa)],[],[6,7],1,0,aa⟩=ae (qn,[(0,cu aa [al aa,ao ag 0] 55)],[(6,cr (ae {block:=0,off:=0})),(7,al aa)],[au=au,au=au,(au==aa)=aa,(au==aa)=aa,(au==aa)=aa,(au==aa)=aa,(au==aa)=aa,(au==aa)=aa,(au==aa)=aa,(au==aa)=aa,(au==aa)=aa,decide (-1<0)=au,(decide (-1<0)==aa)=aa,(decide (-1<0)==aa)=aa,iW [bw ⟨[frz (ai aF os)]⟩,ao ag id] (ao ag (-1))]):=by kernel_rfl
theorem aCL(os:ab O)(id f:br)(j:br):aW ad kAt 5 (pcs ad 19) St0 (bX [bF os,.int .i64 id,.int .i64 f] 39) ([au,au]++[aa]++fp 9 aa++[au,au]) [[.int .i64 j]] ⟨[(1,0,aa)],[],[6,7],1,0,aa⟩=ae (qn,[(0,cu aa [al aa,ao ag 0] 55)],[(6,cr (ae {block:=0,off:=0})),(7,al aa)],[au=au,decide (f<0)=au,(decide (f<0)==aa)=aa,(decide (f<0)==aa)=aa,(decide (f<0)==aa)=aa,(decide (f<0)==aa)=aa,(decide (f<0)==aa)=aa,(decide (f<0)==aa)=aa,(decide (f<0)==aa)=aa,(decide (f<0)==aa)=aa,(decide (f<0)==aa)=aa,decide (j<0)=aa,(decide (j<0)==aa)=au,(decide (j<0)==aa)=au,iW [bw ⟨[frz (ai aF os)]⟩,ao ag id] (ao ag j)]):=by kernel_rfl
theorem aCK(os:ab O)(id f:br)(j:br)(o:O):aW ad kAt 5 (pcs ad 19) St0 (bX [bF os,.int .i64 id,.int .i64 f] 39) ([au,au]++[aa]++fp 9 au++[aa,au]) [[.int .i64 j],[aF o]] ⟨[(1,0,aa)],[],[6,7],1,0,aa⟩=ae (qn,[(0,cu aa [al aa,ao ag 0] 55)],[(6,cr (ae {block:=0,off:=0})),(7,al aa)],[decide (f>=↑(aw (ai aM o.snd)))=au,decide (f<0)=aa,(decide (f<0)==aa)=au,(decide (f<0)==aa)=au,(decide (f<0)==aa)=au,(decide (f<0)==aa)=au,0<=j/\(ai aF os)[az j]? =ae (bw ⟨[ao ag o.fst,frz (ai aM o.snd)]⟩),(decide (f<0)==aa)=au,(decide (f<0)==aa)=au,(decide (f<0)==aa)=au,(decide (f<0)==aa)=au,(decide (f<0)==aa)=au,decide (j<0)=aa,(decide (j<0)==aa)=au,(decide (j<0)==aa)=au,iW [bw ⟨[frz (ai aF os)]⟩,ao ag id] (ao ag j)]):=by kernel_rfl
theorem aCJ(os:ab O)(id f:br)(j:br)(o:O)(v:V):aW ad kAt 5 (pcs ad 19) St0 (bX [bF os,.int .i64 id,.int .i64 f] 39) ([au,au]++[aa]++fp 9 au++[aa,aa]) [[.int .i64 j],[aF o],[aF o],[aM v]] ⟨[(1,0,aa)],[],[6,7],1,0,aa⟩=ae (qn,[(0,cu aa [al v.fst,ao ag v.snd] 55)],[(6,cr (ae {block:=0,off:=0})),(7,al au)],[0<=f/\(ai aM o.snd)[az f]? =ae (bw ⟨[al v.fst,ao ag v.snd]⟩),0<=j/\(ai aF os)[az j]? =ae (bw ⟨[ao ag o.fst,frz (ai aM o.snd)]⟩),decide (f>=↑(aw (ai aM o.snd)))=aa,decide (f<0)=aa,(decide (f<0)==aa)=au,(decide (f<0)==aa)=au,(decide (f<0)==aa)=au,(decide (f<0)==aa)=au,0<=j/\(ai aF os)[az j]? =ae (bw ⟨[ao ag o.fst,frz (ai aM o.snd)]⟩),(decide (f<0)==aa)=au,(decide (f<0)==aa)=au,(decide (f<0)==aa)=au,(decide (f<0)==aa)=au,(decide (f<0)==aa)=au,decide (j<0)=aa,(decide (j<0)==aa)=au,(decide (j<0)==aa)=au,iW [bw ⟨[frz (ai aF os)]⟩,ao ag id] (ao ag j)]):=by kernel_rfl
theorem M3(v:V)(b:cz):vS ad Tryz.f19 (aH [(0,.row aa [.bool v.1,.int .i64 v.2] 55)] 1 0) (mkF [(6,.pointer (ae ⟨0,0,av⟩)),(7,.bool b)] 39) [] ⟨[],[],[],0,0,aa⟩=ae (gr {toList:=[bw ⟨[al v.fst,ao ag v.snd]⟩,al b]},[],[]):=by kernel_rfl
theorem I8(os:ab O)(id f:br)(hl:SmO os):FnEx ad 19 [bF os,.int .i64 id,.int .i64 f] St0 (λu _=>u=.tuple ⟨[aM ((rdI os id f).getD (aa,0)),.bool (rdI os id f).isSome]⟩):=by
 refine FnEx.enter (n0:=0) (fn:=Tryz.f19) (c:=mD ad 19) Tryz.func19 qK rfl rfl ?_;show Ex _ _ (pcs ad 19) _ _ _;cases hfo:nU os id with
 |none=>have hA:iW [bF os,.int .i64 id] (.int .i64 (-1)):=⟨os,id,hl,rfl,by rw[rY os id 0 hfo]⟩;refine Ex.stepN aC eP 99 39 0 1 (aCM os id f) rfl zT ?_;exact FinQ.mk' (.inr rfl) (M3 (aa,0) aa) rfl allP.nil (by simp[rdI,hfo,K3])
 |some o=>
  obtain⟨k,h1,h2,h3⟩:=nZ os id 0 o hfo;rw[fu] at h1;have hA:iW [bF os,.int .i64 id] (.int .i64 (k:br)):=⟨os,id,hl,rfl,by rw[h1]⟩;have hO:(os.map aF)[((k:aq):br).toNat]? =ae (aF o):=lM h2;by_cases hf0:f<0
  ·refine Ex.stepN aC eP 99 39 0 1 (aCL os id f k) rfl zT ?_;exact FinQ.mk' (.inr rfl) (M3 (aa,0) aa) rfl allP.nil (by
     have:¬(0<=f):=qO;simp[rdI,hfo,this,K3])
  ·have hf1:0<=f:=by omega
   by_cases hf2:f>=o.2.length
   ·refine Ex.stepN aC eP 99 39 0 1 (aCK os id f k o) rfl zT ?_;exact FinQ.mk' (.inr rfl) (M3 (aa,0) aa) rfl allP.nil (by
      have:o.2[f.toNat]? =none:=by simp;omega
      simp[rdI,hfo,this,K3])
   ·have hlt:f.toNat<o.2.length:=by omega
    have hv:o.2[f.toNat]? =ae o.2[f.toNat]:=by simp[hlt]
    have hV:(o.2.map aM)[f.toNat]? =ae (aM o.2[f.toNat]):=by simp[hv]
    refine Ex.stepN aC eP 99 39 0 1 (aCJ os id f k o o.2[f.toNat]) rfl zT ?_;exact FinQ.mk' (.inr rfl) (M3 o.2[f.toNat] au) rfl allP.nil (by simp[rdI,hfo,hf1,hv];rfl)
def AK:Rel:=λargs v=>∃os id f,SmO os/\args=[bF os,.int .i64 id,.int .i64 f]/\v=.tuple ⟨[aM ((rdI os id f).getD (aa,0)),.bool (rdI os id f).isSome]⟩
theorem I0:∀ args v,AK args v->FnEx ad 19 args St0 (λu _=>u=v):=by rintro args v ⟨os,id,f,h,rfl,rfl⟩;exact I8 os id f h
def yK(l:ab (aq×af)):HF:=mkF ([(2,.pointer (ae ⟨0,0,av⟩)),(3,.pointer (ae ⟨1,0,av⟩)),(4,.pointer (ae ⟨2,0,av⟩)),(5,.pointer (ae ⟨3,0,av⟩))]++l) 58
def yJ(os:ab O)(o:O):St:=aH [(0,.row aa [cN os] 53),(1,.row aa [.int .i64 o.1,jE o.2] 80),(2,.row aa [.slice av 0 0] 53),(3,.row aa [.slice av 0 0] 53)] 4 0
def CW(os:ab O)(cs:ab af)(n:aq):St:=aH [(0,.row aa [cN os] 53),(2,.row aa [.slice av 0 0] 53),(3,.row aa [.slice (ae ⟨4,0,av⟩) n (UNK+2)] 53),(4,.row au cs 80)] 5 0
theorem aC4(os:ab O)(o:O)(j:br):aW ad kAt 5 ((pcs ad 71).take 5) St0 (bX [bF os,aF o] 58) [] [[.int .i64 j]] ⟨[(0,0,aa),(1,1,aa),(2,2,aa),(3,3,aa)],[],[2,3,4,5,6,7,14],4,0,aa⟩=ae (iu,[(0,cu aa [frz (ai aF os)] 53),(1,cu aa [ao ag o.fst,frz (ai aM o.snd)] 80),(2,cu aa [cd av 0 0] 53),(3,cu aa [cd av 0 0] 53)],[(2,cr (ae {block:=0,off:=0})),(3,cr (ae {block:=1,off:=0})),(4,cr (ae {block:=2,off:=0})),(5,cr (ae {block:=3,off:=0})),(6,ao ag j),(7,ao ag j),(14,al (decide (j<0)))],[iW [bw ⟨[frz (ai aF os)]⟩,ao ag o.fst] (ao ag j)]):=by kernel_rfl
theorem V7(os:ab O)(o:O)(j:br):aW ad kAt 5 ((pcs ad 71).take 6) St0 (bX [bF os,aF o] 58) [aa] [[.int .i64 j]] ⟨[(0,0,aa),(1,1,aa),(2,2,aa),(3,3,aa)],[],[2,3,4,5,6,7],4,0,aa⟩=ae (iu,[(0,cu aa [frz (ai aF os)] 53),(1,cu aa [ao ag o.fst,frz (ai aM o.snd)] 80),(2,cu aa [cd av 0 0] 53),(3,cu aa [cd av 0 0] 53)],[(2,cr (ae {block:=0,off:=0})),(3,cr (ae {block:=1,off:=0})),(4,cr (ae {block:=2,off:=0})),(5,cr (ae {block:=3,off:=0})),(6,ao ag j),(7,ao ag j)],[decide (j<0)=aa,iW [bw ⟨[frz (ai aF os)]⟩,ao ag o.fst] (ao ag j)]):=by kernel_rfl
theorem aC3(os:ab O)(o:O)(j:br)(b:cz):aW ad kAt 5 ((aU (jG (nth (pcs ad 71) 5))).take 1) (yJ os o) (yK [(6,.int .i64 j),(7,.int .i64 j),(14,.bool b)]) [] [] ⟨[(0,0,aa),(1,1,aa),(2,2,aa),(3,3,aa)],[],[2,3,4,5,6,7],4,0,aa⟩=ae (iu,[(0,cu aa [frz (ai aF os)] 53),(1,cu aa [ao ag o.fst,frz (ai aM o.snd)] 80),(2,cu aa [cd av 0 0] 53),(3,cu aa [cd av 0 0] 53)],[(2,cr (ae {block:=0,off:=0})),(3,cr (ae {block:=1,off:=0})),(4,cr (ae {block:=2,off:=0})),(5,cr (ae {block:=3,off:=0})),(6,ao ag j),(7,ao ag 0)],[]):=by kernel_rfl
theorem aCZ(os:ab O)(o x:O)(j k:br):aW ad kAt 5 (aU (aJ (nth (aU (jG (nth (pcs ad 71) 5))) 1))) (yJ os o) (yK [(6,.int .i64 j),(7,.int .i64 k)]) (aa::fp 11 au) [[aF x]] ⟨[(0,0,aa),(1,1,aa),(2,2,aa),(3,3,aa)],[],[2,3,4,5,6,7],4,0,aa⟩=ae (iu,[(0,cu aa [frz (ai aF os)] 53),(1,cu aa [ao ag o.fst,frz (ai aM o.snd)] 80),(2,cu aa [cd av 0 0] 53),(3,cu aa [cd av 0 0] 53)],[(2,cr (ae {block:=0,off:=0})),(3,cr (ae {block:=1,off:=0})),(4,cr (ae {block:=2,off:=0})),(5,cr (ae {block:=3,off:=0})),(6,ao ag j),(7,ao ag (ah ag (k+1)))],[decide (x.fst<o.fst)=au,decide (k<↑(aw (ai aF os)))=au,(decide (k<↑(aw (ai aF os)))==au)=au,(decide (k<↑(aw (ai aF os)))==au)=au,(decide (k<↑(aw (ai aF os)))==au)=au,(decide (k<↑(aw (ai aF os)))==au)=au,(decide (k<↑(aw (ai aF os)))==au)=au,0<=k/\(ai aF os)[az k]? =ae (bw ⟨[ao ag x.fst,frz (ai aM x.snd)]⟩),(decide (k<↑(aw (ai aF os)))==au)=au,(decide (k<↑(aw (ai aF os)))==au)=au,(decide (k<↑(aw (ai aF os)))==au)=au,(decide (k<↑(aw (ai aF os)))==au)=au]):=by kernel_rfl
theorem aCY(os:ab O)(o x:O)(j k:br):aW ad kAt 5 (aU (aJ (nth (aU (jG (nth (pcs ad 71) 5))) 1))) (yJ os o) (yK [(6,.int .i64 j),(7,.int .i64 k)]) (aa::(fp 10 au++[aa])) [[aF x]] ⟨[(0,0,aa),(1,1,aa),(2,2,aa),(3,3,aa)],[],[2,3,4,5,6,7],4,0,aa⟩=ae (HX.exit 0,[(0,cu aa [frz (ai aF os)] 53),(1,cu aa [ao ag o.fst,frz (ai aM o.snd)] 80),(2,cu aa [cd av 0 0] 53),(3,cu aa [cd av 0 0] 53)],[(2,cr (ae {block:=0,off:=0})),(3,cr (ae {block:=1,off:=0})),(4,cr (ae {block:=2,off:=0})),(5,cr (ae {block:=3,off:=0})),(6,ao ag j),(7,ao ag k)],[decide (x.fst<o.fst)=aa,decide (k<↑(aw (ai aF os)))=au,(decide (k<↑(aw (ai aF os)))==au)=au,(decide (k<↑(aw (ai aF os)))==au)=au,(decide (k<↑(aw (ai aF os)))==au)=au,(decide (k<↑(aw (ai aF os)))==au)=au,(decide (k<↑(aw (ai aF os)))==au)=au,0<=k/\(ai aF os)[az k]? =ae (bw ⟨[ao ag x.fst,frz (ai aM x.snd)]⟩),(decide (k<↑(aw (ai aF os)))==au)=au,(decide (k<↑(aw (ai aF os)))==au)=au,(decide (k<↑(aw (ai aF os)))==au)=au,(decide (k<↑(aw (ai aF os)))==au)=au]):=by kernel_rfl
theorem aCW(os:ab O)(o:O)(j k:br):aW ad kAt 5 (aU (aJ (nth (aU (jG (nth (pcs ad 71) 5))) 1))) (yJ os o) (yK [(6,.int .i64 j),(7,.int .i64 k)]) (aa::fp 11 aa) [] ⟨[(0,0,aa),(1,1,aa),(2,2,aa),(3,3,aa)],[],[2,3,4,5,6,7],4,0,aa⟩=ae (HX.exit 0,[(0,cu aa [frz (ai aF os)] 53),(1,cu aa [ao ag o.fst,frz (ai aM o.snd)] 80),(2,cu aa [cd av 0 0] 53),(3,cu aa [cd av 0 0] 53)],[(2,cr (ae {block:=0,off:=0})),(3,cr (ae {block:=1,off:=0})),(4,cr (ae {block:=2,off:=0})),(5,cr (ae {block:=3,off:=0})),(6,ao ag j),(7,ao ag k)],[aa=aa,decide (k<↑(aw (ai aF os)))=aa,(decide (k<↑(aw (ai aF os)))==au)=aa,(decide (k<↑(aw (ai aF os)))==au)=aa,(decide (k<↑(aw (ai aF os)))==au)=aa,(decide (k<↑(aw (ai aF os)))==au)=aa,(decide (k<↑(aw (ai aF os)))==au)=aa,(decide (k<↑(aw (ai aF os)))==au)=aa,(decide (k<↑(aw (ai aF os)))==au)=aa,(decide (k<↑(aw (ai aF os)))==au)=aa,(decide (k<↑(aw (ai aF os)))==au)=aa]):=by kernel_rfl
theorem V6(os:ab O)(o:O)(j k:br):aW ad kAt 5 (((pcs ad 71).drop 6).take 1) (yJ os o) (yK [(6,.int .i64 j),(7,.int .i64 k)]) [aa,au,aa] [[aF o]] ⟨[(0,0,aa),(2,2,aa),(3,3,aa),(5,4,au)],[],[2,4,5,6,7],5,0,aa⟩=ae (iu,[(0,cu aa [frz (ai aF os)] 53),(2,cu aa [cd av 0 0] 53),(3,cu aa [cd (ae {block:=4,off:=0}) 1 9223372036854775810] 53),(4,cu au [ao ag o.fst,frz (ai aM o.snd)] 80)],[(2,cr (ae {block:=0,off:=0})),(4,cr (ae {block:=2,off:=0})),(5,cr (ae {block:=3,off:=0})),(6,ao ag j),(7,ao ag k)],[(dg 32 140737488355328&&dg 1 4611686018427387904)=au,bx 1 0=aa,AL [bw ⟨[ao ag o.fst,frz (ai aM o.snd)]⟩] (bw ⟨[ao ag o.fst,frz (ai aM o.snd)]⟩),bx (aw (dr (az k-0) (dq 0 (ai aF os)))) 0=au,(jU av&&decide (0<=k)&&(dg (az k) (aw (ai aF os))&&dg 0 (az k)))=au/\(ai aF os=[]\/∀(v:af),v∈ai aF os->ef (dx v)=2)]):=by kernel_rfl
theorem V5(os:ab O)(o:O)(j k:br):aW ad kAt 5 (((pcs ad 71).drop 6).take 1) (yJ os o) (yK [(6,.int .i64 j),(7,.int .i64 k)]) [aa,aa,aa] [[aF o]] ⟨[(0,0,aa),(2,2,aa),(3,3,aa),(6,4,aa)],[],[2,4,5,6,7],5,0,aa⟩=ae (iu,[(0,cu aa [frz (ai aF os)] 53),(2,cu aa [cd av 0 0] 53),(3,cu aa [cd (ae {block:=4,off:=0}) (aw (dr (az k-0) (dq 0 (ai aF os)))+1) 9223372036854775810] 53),(4,cu au (aB (dr (az k-0) (dq 0 (ai aF os)))++[ao ag o.fst,frz (ai aM o.snd)]) 80)],[(2,cr (ae {block:=0,off:=0})),(4,cr (ae {block:=2,off:=0})),(5,cr (ae {block:=3,off:=0})),(6,ao ag j),(7,ao ag k)],[aw (dr (az k-0) (dq 0 (ai aF os)))*2=aw (aB (dr (az k-0) (dq 0 (ai aF os)))),(dg ((aw (dr (az k-0) (dq 0 (ai aF os)))+1)*32) 140737488355328&&dg (aw (dr (az k-0) (dq 0 (ai aF os)))+1) 4611686018427387904)=au,bx 1 0=aa,AL [bw ⟨[ao ag o.fst,frz (ai aM o.snd)]⟩] (bw ⟨[ao ag o.fst,frz (ai aM o.snd)]⟩),(dg ((0+aw (dr (az k-0) (dq 0 (ai aF os))))*32) 140737488355328&&dg (0+aw (dr (az k-0) (dq 0 (ai aF os)))) 4611686018427387904)=au,∀(v:af),v∈dr (az k-0) (dq 0 (ai aF os))->ef (dx v)=2,bx (aw (dr (az k-0) (dq 0 (ai aF os)))) 0=aa,(jU av&&decide (0<=k)&&(dg (az k) (aw (ai aF os))&&dg 0 (az k)))=au/\(ai aF os=[]\/∀(v:af),v∈ai aF os->ef (dx v)=2)]):=by kernel_rfl
def G7(l:ab (aq×af)):HF:=mkF ([(2,.pointer (ae ⟨0,0,av⟩)),(4,.pointer (ae ⟨2,0,av⟩)),(5,.pointer (ae ⟨3,0,av⟩))]++l) 58
theorem V2(os:ab O)(cs:ab af)(n:aq)(j k:br):aW ad kAt 5 (((pcs ad 71).drop 7).take 2) (CW os cs n) (G7 [(6,.int .i64 j),(7,.int .i64 k)]) [au] [] ⟨[(0,0,aa),(2,2,aa),(3,3,aa),(4,4,aa)],[],[2,4,5,7],5,0,aa⟩=ae (iu,[(0,cu aa [frz (ai aF os)] 53),(2,cu aa [cd av 0 0] 53),(3,cu aa [cd (ae {block:=4,off:=0}) n 9223372036854775810] 53),(4,cu au cs 80)],[(2,cr (ae {block:=0,off:=0})),(4,cr (ae {block:=2,off:=0})),(5,cr (ae {block:=3,off:=0})),(7,ao ag (ah ag (k+1)))],[decide (j>=0)=au]):=by kernel_rfl
theorem V4(os:ab O)(cs:ab af)(n:aq)(j k:br):aW ad kAt 5 (((pcs ad 71).drop 7).take 2) (CW os cs n) (G7 [(6,.int .i64 j),(7,.int .i64 k)]) [aa] [] ⟨[(0,0,aa),(2,2,aa),(3,3,aa),(4,4,aa)],[],[2,4,5,7],5,0,aa⟩=ae (iu,[(0,cu aa [frz (ai aF os)] 53),(2,cu aa [cd av 0 0] 53),(3,cu aa [cd (ae {block:=4,off:=0}) n 9223372036854775810] 53),(4,cu au cs 80)],[(2,cr (ae {block:=0,off:=0})),(4,cr (ae {block:=2,off:=0})),(5,cr (ae {block:=3,off:=0})),(7,ao ag k)],[decide (j>=0)=aa]):=by kernel_rfl
theorem RL(os:ab O)(cs:ab af)(n:aq)(k:br):aW ad kAt 5 ((pcs ad 71).drop 9) (CW os cs n) (G7 [(7,.int .i64 k)]) [aa,au] [] ⟨[(2,0,aa),(4,1,aa)],[],[4],2,0,aa⟩=ae (qn,[(0,cu aa [cd (ae {block:=1,off:=0}) n 9223372036854775810] 53),(1,cu au cs 80)],[(4,cr (ae {block:=0,off:=0}))],[bx (aw (dr (aw (ai aF os)-je (ae (az k)) 0) (dq (je (ae (az k)) 0) (ai aF os)))) 0=au,(jU (ae k)&&dg (je (ta az (ae k)) 0) (aw (ai aF os)))=au/\(ai aF os=[]\/∀(v:af),v∈ai aF os->ef (dx v)=2)]):=by kernel_rfl
theorem RK(os:ab O)(cs:ab af)(n:aq)(k:br):aW ad kAt 5 ((pcs ad 71).drop 9) (CW os cs n) (G7 [(7,.int .i64 k)]) [aa,aa] [] ⟨[(2,0,aa),(5,1,aa)],[],[4],2,0,aa⟩=ae (qn,[(0,cu aa [cd (ae {block:=1,off:=0}) (n+aw (dr (aw (ai aF os)-je (ae (az k)) 0) (dq (je (ae (az k)) 0) (ai aF os)))) 9223372036854775810] 53),(1,cu au (cs++aB (dr (aw (ai aF os)-je (ta az (ae k)) 0) (dq (je (ta az (ae k)) 0) (ai aF os)))) 80)],[(4,cr (ae {block:=0,off:=0}))],[n*2=aw cs,(dg ((n+aw (dr (aw (ai aF os)-je (ae (az k)) 0) (dq (je (ae (az k)) 0) (ai aF os))))*32) 140737488355328&&dg (n+aw (dr (aw (ai aF os)-je (ae (az k)) 0) (dq (je (ae (az k)) 0) (ai aF os)))) 4611686018427387904)=au,∀(v:af),v∈dr (aw (ai aF os)-je (ae (az k)) 0) (dq (je (ae (az k)) 0) (ai aF os))->ef (dx v)=2,bx (aw (dr (aw (ai aF os)-je (ae (az k)) 0) (dq (je (ae (az k)) 0) (ai aF os)))) 0=aa,(jU (ae k)&&dg (je (ta az (ae k)) 0) (aw (ai aF os)))=au/\(ai aF os=[]\/∀(v:af),v∈ai aF os->ef (dx v)=2)]):=by kernel_rfl
theorem V0(os':ab O)(cs:ab af)(n:aq):vS ad Tryz.f71 (aH [(0,.row aa [.slice (ae ⟨1,0,av⟩) n (UNK+2)] 53),(1,.row au cs 80)] 2 0) (mkF [(4,.pointer (ae ⟨0,0,av⟩))] 58) [] ⟨[],[(1,2,os'.map aF)],[],0,0,aa⟩=ae (bw ⟨[frz (ai aF os')]⟩,[],[aB (ai aF os')=cs/\(∀(v:af),v∈ai aF os'->ef (dx v)=2)/\0<2,n=aw (ai aF os')]):=by kernel_rfl
theorem fJ(a b:ab af):aB (a++b)=aB a++aB b:=by simp[aB]
theorem nT(l:ab O):(aB (l.map aF)).length=l.length*2:=by induction l with|nil=>rfl|cons o l ih=>have:aB ((o::l).map aF)=[.int .i64 o.1,jE o.2]++aB (l.map aF):=rfl;rw[this,cg,ih];simp;omega
theorem VZ:(pcs ad 71).drop 5=.cond (TW (nth (pcs ad 71) 5)) (jG (nth (pcs ad 71) 5)) (TS (nth (pcs ad 71) 5))::(pcs ad 71).drop 6:=by kernel_rfl
theorem VY:(aU (jG (nth (pcs ad 71) 5))).drop 1=[.block 0 (.loop (aJ (nth (aU (jG (nth (pcs ad 71) 5))) 1)))]:=by kernel_rfl
theorem AP(os:ab O)(o:O)(j:br)(k:aq)(hk:k<=os.length)(hj:0<=j->k+1<=os.length)(hl:SmO os)(hv:SmV o.2):Ex ad 0 ((pcs ad 71).drop 6) (yJ os o) (yK [(6,.int .i64 j),(7,.int .i64 k)]) (FinQ ad Tryz.f71 0 (λu _=>u=bF (os.take k++o::os.drop (if 0<=j then k+1 else k)))):=by
 have hO:AL [aF o] (aF o):=⟨o,hv,rfl,rfl⟩;have hsz:=hl.1;have hl2:(os.take k).length=k:=by simp;omega
 have hall:∀ l:ab O,∀ v∈l.map aF,v.cells.size=2:=dE;have step2:Ex ad 0 ((pcs ad 71).drop 7) (CW os (aB ((os.take k++[o]).map aF)) (k+1)) (G7 [(6,.int .i64 j),(7,.int .i64 k)])
   (FinQ ad Tryz.f71 0 (λu _=>u=bF (os.take k++o::os.drop (if 0<=j then k+1 else k)))):=by
  have tail:∀ k':aq,k'<=os.length->Ex ad 0 ((pcs ad 71).drop 9) (CW os (aB ((os.take k++[o]).map aF)) (k+1)) (G7 [(7,.int .i64 k')])
    (FinQ ad Tryz.f71 0 (λu _=>u=bF (os.take k++o::os.drop k'))):=by
   intro k' hk'
   have e:dr (aw (ai aF os)-je (ae (az (k':br))) 0) (dq (je (ae (az (k':br))) 0) (ai aF os))=(os.drop k').map aF:=by simp[List.map_drop];rw[gc qS]
   have hp:(jU (ae (k':br))&&dg (je (ae (az (k':br))) 0) (aw (ai aF os)))=au/\(ai aF os=[]\/∀(v:af),v∈ai aF os->ef (dx v)=2):=by refine⟨?_,.inr (dE os)⟩;simp[jU,hk']
   by_cases hd:os.drop k'=[]
   ·refine Ex.stepN aC eP 99 58 0 2 (RL os (aB ((os.take k++[o]).map aF)) (k+1) k') rfl ?_ ?_
    ·rw[e];exact .cons (aFZ (by rw[hd];rfl)) (.cons hp .nil)
    ·exact FinQ.mk' (.inr rfl) (V0 (os.take k++[o]) _ _) rfl (.cons ⟨rfl,dE _,qO⟩ (.cons (by rw[fa,cg,hl2];rfl) .nil)) (by rw[hd];rfl)
   ·refine Ex.stepN aC eP 99 58 0 2 (RK os (aB ((os.take k++[o]).map aF)) (k+1) k') rfl ?_ ?_
    ·rw[e];refine .cons ?_ (.cons ?_ (.cons (hall _) (.cons (HZ ?_) (.cons hp .nil))))
     ·rw[nT,cg,hl2];rfl
     ·refine cP ?_ ?_<;>simp<;>omega
     ·intro h9;simp at h9;exact hd (List.drop_eq_nil_of_le qO)
    ·rw[e];exact FinQ.mk' (.inr rfl) (V0 (os.take k++o::os.drop k') _ _) rfl (.cons ⟨by rw[<-fJ];rw[show dr ((ai aF os).length-(ta az (ae (k':br))).getD 0) (dq ((ta az (ae (k':br))).getD 0) (ai aF os))=(os.drop k').map aF from e];simp,dE _,qO⟩ (.cons (by simp[hl2];omega) .nil)) rfl
  by_cases h0:0<=j
  ·rw[fc h0];refine Ex.stepN aC eP 2 58 0 5 (V2 os (aB ((os.take k++[o]).map aF)) (k+1) j k) rfl (.cons (by simpa using h0) .nil) ?_;have:ah ag ((k:br)+1)=((k+1:aq):br):=by rw[cm _ qO];simp
   rw[this];exact tail (k+1) (hj h0)
  ·rw[eh h0];refine Ex.stepN aC eP 2 58 0 5 (V4 os (aB ((os.take k++[o]).map aF)) (k+1) j k) rfl (.cons (by simpa using h0) .nil) ?_;exact tail k hk
 have e:dr (az (k:br)-0) (dq 0 (ai aF os))=(os.take k).map aF:=by simp[List.map_take]
 have hp:(jU av&&decide (0<=(k:br))&&(dg (az k) (aw (ai aF os))&&dg 0 (az k)))=au/\(ai aF os=[]\/∀(v:af),v∈ai aF os->ef (dx v)=2):=by refine⟨?_,.inr (dE os)⟩;simp[jU,hk]
 by_cases hk0:k=0
 ·subst hk0;refine Ex.stepN aC eP 1 58 0 5 (V6 os o j 0) rfl ?_ step2;refine .cons rfl (.cons rfl (.cons hO (.cons rfl (.cons hp .nil))))
 ·have r:=V5 os o j k;rw[e] at r;have hlm:((os.take k).map aF).length=k:=by rw[fa,hl2]
  refine Ex.stepN aC eP 1 58 0 5 r rfl ?_ ?_
  ·rw[hlm];refine .cons ?_ (.cons ?_ (.cons rfl (.cons hO (.cons ?_ (.cons (hall _) (.cons (HZ hk0) (.cons hp .nil)))))))
   ·rw[nT,hl2]
   ·refine cP ?_ ?_<;>omega
   ·refine cP ?_ ?_<;>omega
  ·rw[hlm];have h9:aB ((os.take k).map aF)++[ao ag o.1,jE o.2]=aB ((os.take k++[o]).map aF):=by rw[List.map_append,fJ];rfl
   show Ex _ _ _ (CW os (aB ((os.take k).map aF)++[ao ag o.1,jE o.2]) (k+1)) _ _;rw[h9];exact step2
def nF:ab O->br->aq
 |[],_=>0|x::l,id=>if x.1<id then nF l id+1 else 0
def mQ(os:ab O)(o:O):ab O:=if 0<=atI os o.1 0 then os.take (atI os o.1 0).toNat++o::os.drop ((atI os o.1 0).toNat+1) else os.take (nF os o.1)++o::os.drop (nF os o.1)
theorem VX(os:ab O)(o:O)(hl:SmO os)(hv:SmV o.2):FnEx ad 71 [bF os,aF o] St0 (λu _=>u=bF (mQ os o)):=by
 refine FnEx.enter (n0:=0) (fn:=Tryz.f71) (c:=mD ad 71) Tryz.func71 qK rfl rfl ?_;show Ex _ _ (pcs ad 71) _ _ _;have hA:iW [bF os,.int .i64 o.1] (.int .i64 (atI os o.1 0)):=⟨os,o.1,hl,rfl,rfl⟩;have hsz:=hl.1;unfold mQ;cases hfo:nU os o.1 with
 |some x=>
  obtain⟨k,h1,h2,h3⟩:=nZ os o.1 0 x hfo;rw[fu] at h1;have hlt:k<os.length:=by
   rcases ey k os.length with h|h
   ·exact h
   ·rw[ei h] at h2;cases h2
  rw[h1] at hA ⊢;rw[fc qO];refine Ex.stepN aC eP 6 58 0 4 (V7 os o k) rfl (.cons qS (.cons hA .nil)) ?_;have:=AP os o k k qO (λ_=>qO) hl hv;rw[fc qO] at this;exact this
 |none=>
  have h1:=rY os o.1 0 hfo;rw[h1] at hA ⊢;rw[eh qO];refine Ex.stepN aC eP 5 58 0 4 (aC4 os o (-1)) rfl (.cons hA .nil) ?_;rw[VZ];refine Ex.condT (b:=au) rfl rfl ?_;refine Ex.stepN aC eP 1 58 0 4 (aC3 os o (-1) au) rfl .nil ?_;rw[rq (by decide+kernel),VY];refine Ex.loop (λm s f=>∃p q,os=p++q/\q.length=m/\nF os o.1=p.length+nF q o.1/\s=yJ os o/\f=yK [(6,.int .i64 (-1)),(7,.int .i64 p.length)]) ?_ ⟨[],os,rfl,rfl,qS,rfl,rfl⟩;have out:∀(p q:ab O),os=p++q->nF os o.1=p.length->Ex ad 0 ((pcs ad 71).drop 6) (yJ os o) (yK [(6,.int .i64 (-1)),(7,.int .i64 p.length)]) (FinQ ad Tryz.f71 0 (λu _=>u=bF (os.take (nF os o.1)++o::os.drop (nF os o.1)))):=by intro p q hos hp;have:=AP os o (-1) p.length (by rw[hos];simp) (λh=>qO) hl hv;rw[eh qO] at this;rw[hp];exact this
  rintro m s f ⟨p,q,hos,hm,hld,rfl,rfl⟩;cases q with
  |nil=>
   refine Ex.stepN aC eP 9 58 0 4 (aCW os o (-1) p.length) rfl ?_ ?_
   ·have:os.length=p.length:=by rw[hos];simp
    have h9:decide ((p.length:br)<(((os.map aF).length:aq):br))=false:=by simp;omega
    (repeat' refine allP.cons ?_ ?_)<;>first|exact allP.nil|assumption|rfl|(exact⟨qO,by assumption⟩)|(simp;done)|(simp;omega)|skip
    all_goals (rw[h9];rfl)
   ·exact goOn.out (out p [] hos (by simpa[nF] using hld))
  |cons x q=>
   have hk:os[p.length]? =ae x:=by rw[hos];exact rX p x q
   have hO:(os.map aF)[((p.length:aq):br).toNat]? =ae (aF x):=lM hk;have hlt:p.length<os.length:=by rw[hos];simp
   have h9:decide ((p.length:br)<(((os.map aF).length:aq):br))=true:=by simp;omega
   by_cases hx:x.1<o.1
   ·refine Ex.stepN aC eP 9 58 0 4 (aCZ os o x (-1) p.length) rfl ?_ ?_
    ·(repeat' refine allP.cons ?_ ?_)<;>first|exact allP.nil|assumption|rfl|(exact⟨qO,by assumption⟩)|(simp;done)|(simp;omega)|skip
     all_goals (rw[h9];rfl)
    ·refine Ex.nil ⟨m-1,by simp at hm;omega,p++[x],q,by simp[hos],by simp at hm;omega,by rw[hld];simp[nF,hx];omega,rfl,?_⟩;have:ah ag ((p.length:br)+1)=((p++[x]).length:br):=by rw[cm _ qO];simp
     rw[this];rfl
   ·refine Ex.stepN aC eP 9 58 0 4 (aCY os o x (-1) p.length) rfl ?_ ?_
    ·(repeat' refine allP.cons ?_ ?_)<;>first|exact allP.nil|assumption|rfl|(exact⟨qO,by assumption⟩)|(simp;done)|(simp;omega)|skip
     all_goals (rw[h9];rfl)
    ·exact goOn.out (out p (x::q) hos (by rw[hld];simp[nF,hx]))
def E2:Rel:=λargs v=>∃os o,SmO os/\SmV o.2/\args=[bF os,aF o]/\v=bF (mQ os o)
theorem I1:∀ args v,E2 args v->FnEx ad 71 args St0 (λu _=>u=v):=by rintro args v ⟨os,o,h,h',rfl,rfl⟩;exact VX os o h h'
def XJ:aS:=AF [(38,iW),(19,AK)]
theorem N3:aR ad XJ:=uO λg rel hm args v h _ _=>by
 simp only[ci,bn,uj,or_false] at hm;rcases hm with⟨rfl,rfl⟩|⟨rfl,rfl⟩
 ·exact AM args v h
 ·exact I0 args v h
noncomputable def kWr:aS:=j5 ad 5 XJ noD 2
theorem vL:aR ad kWr:=fH aC 5 N3 vG 2
theorem aAB(os:ab O)(id f:br)(v w:V):aW ad kWr 5 (pcs ad 72) St0 (bX [bF os,.int .i64 id,.int .i64 f,aM v] 49) [au] [[.tuple ⟨[aM w,.bool aa]⟩]] ⟨[(2,0,aa)],[],[8,9],1,0,aa⟩=ae (qn,[(0,cu aa [cd av 0 0] 53)],[(8,cr (ae {block:=0,off:=0})),(9,al aa)],[(!aa)=au,AK [bw ⟨[frz (ai aF os)]⟩,ao ag id,ao ag f] (gr {toList:=[bw ⟨[al w.fst,ao ag w.snd]⟩,al aa]})]):=by kernel_rfl
theorem UI(u:Unit):vS ad Tryz.f72 (aH [(0,.row aa [.slice av 0 0] 53)] 1 0) (mkF [(8,.pointer (ae ⟨0,0,av⟩)),(9,.bool aa)] 49) [] ⟨[],[],[],0,0,au⟩=ae (gr {toList:=[bw ⟨[frz []]⟩,al aa]},[],[]):=by kernel_rfl
theorem aAA(os:ab O)(id f:br)(v w:V):aW ad kWr 5 ((pcs ad 72).take 5) St0 (bX [bF os,.int .i64 id,.int .i64 f,aM v] 49) [aa,aa] [[.tuple ⟨[aM w,.bool au]⟩]] ⟨[(0,0,aa),(1,1,aa),(2,2,aa),(4,3,aa),(5,4,aa)],[],[1,2,4,7,8,12],5,0,aa⟩=ae (iu,[(0,cu aa [frz (ai aF os)] 53),(1,cu aa [al v.fst,ao ag v.snd] 55),(2,cu aa [cd av 0 0] 53),(3,cu au (aB (ai aF os)) 80),(4,cu aa [cd (ae {block:=3,off:=0}) (aw (ai aF os)) 9223372036854775810] 53)],[(1,ao ag id),(2,ao ag f),(4,cr (ae {block:=0,off:=0})),(7,cr (ae {block:=1,off:=0})),(8,cr (ae {block:=2,off:=0})),(12,cr (ae {block:=4,off:=0}))],[(dg ((0+aw (ai aF os))*32) 140737488355328&&dg (0+aw (ai aF os)) 4611686018427387904)=au,∀(v:af),v∈ai aF os->ef (dx v)=2,bx (aw (ai aF os)) 0=aa,(!au)=aa,AK [bw ⟨[frz (ai aF os)]⟩,ao ag id,ao ag f] (gr {toList:=[bw ⟨[al w.fst,ao ag w.snd]⟩,al au]})]):=by kernel_rfl
def wrS(os:ab O)(v:V)(l:ab (aq×gh))(n:aq):St:=aH ([(0,.row aa [cN os] 53),(1,.row aa [.bool v.1,.int .i64 v.2] 55),(2,.row aa [.slice av 0 0] 53),(3,.row au (aB (os.map aF)) 80),(4,.row aa [.slice (ae ⟨3,0,av⟩) os.length (UNK+2)] 53)]++l) n 0
def wrF(id f:br)(l:ab (aq×af)):HF:=mkF ([(1,.int .i64 id),(2,.int .i64 f),(4,.pointer (ae ⟨0,0,av⟩)),(7,.pointer (ae ⟨1,0,av⟩)),(8,.pointer (ae ⟨2,0,av⟩)),(12,.pointer (ae ⟨4,0,av⟩))]++l) 49
theorem Z6(os:ab O)(o:O)(id f j:br)(v:V):aW ad kWr 5 (((pcs ad 72).drop 5).take 2) (wrS os v [] 5) (wrF id f []) [aa] [[.int .i64 j],[aF o]] ⟨[(0,0,aa),(1,1,aa),(2,2,aa),(3,3,aa),(4,4,aa),(7,5,aa),(8,6,aa)],[],[1,2,4,7,8,12,13,14],7,0,aa⟩=ae (iu,[(0,cu aa [frz (ai aF os)] 53),(1,cu aa [al v.fst,ao ag v.snd] 55),(2,cu aa [cd av 0 0] 53),(3,cu au (aB (ai aF os)) 80),(4,cu aa [cd (ae {block:=3,off:=0}) (aw os) 9223372036854775810] 53),(5,cu au (aB (ai aM o.snd)) 55),(6,cu aa [ao ag o.fst,cd (ae {block:=5,off:=0}) (aw (ai aM o.snd)) 9223372036854775810] 80)],[(1,ao ag id),(2,ao ag f),(4,cr (ae {block:=0,off:=0})),(7,cr (ae {block:=1,off:=0})),(8,cr (ae {block:=2,off:=0})),(12,cr (ae {block:=4,off:=0})),(13,ao ag j),(14,cr (ae {block:=6,off:=0}))],[(dg ((0+aw (ai aM o.snd))*16) 140737488355328&&dg (0+aw (ai aM o.snd)) 4611686018427387904)=au,∀(v:af),v∈ai aM o.snd->ef (dx v)=2,bx (aw (ai aM o.snd)) 0=aa,0<=j/\(ai aF os)[az j]? =ae (bw ⟨[ao ag o.fst,frz (ai aM o.snd)]⟩),iW [bw ⟨[frz (ai aF os)]⟩,ao ag id] (ao ag j)]):=by kernel_rfl
theorem Z3(os:ab O)(cs:ab af)(n:aq)(o:O)(id f j:br)(v:V)(fs:ab V):aW ad kWr 5 (((pcs ad 72).drop 7).take 1) (wrS os v [(5,.row au cs 55),(6,.row aa [.int .i64 o.1,.slice (ae ⟨5,0,av⟩) n (UNK+2)] 80)] 7) (wrF id f [(13,.int .i64 j),(14,.pointer (ae ⟨6,0,av⟩))]) [] [] ⟨[(0,0,aa),(1,1,aa),(2,2,aa),(3,3,aa),(4,4,aa),(6,5,aa)],[(5,2,fs.map aM)],[1,2,4,7,8,12,13,14],6,0,aa⟩=ae (iu,[(0,cu aa [frz (ai aF os)] 53),(1,cu aa [al v.fst,ao ag v.snd] 55),(2,cu aa [cd av 0 0] 53),(3,cu au (aB (ai aF os)) 80),(4,cu aa [cd (ae {block:=3,off:=0}) (aw os) 9223372036854775810] 53),(5,cu aa [ao ag o.fst,frz (ai aM fs)] 80)],[(1,ao ag id),(2,ao ag f),(4,cr (ae {block:=0,off:=0})),(7,cr (ae {block:=1,off:=0})),(8,cr (ae {block:=2,off:=0})),(12,cr (ae {block:=4,off:=0})),(13,ao ag j),(14,cr (ae {block:=5,off:=0}))],[0+az f*2+2<=aw cs,(decide (0<=f)&&decide (f<↑n))=au,aB (ai aM fs)=dr (0+az f*2) cs++[al v.fst,ao ag v.snd]++dq (0+az f*2+2) cs/\(∀(v:af),v∈ai aM fs->ef (dx v)=2)/\0<2,n=aw (ai aM fs)]):=by kernel_rfl
theorem Z2(os:ab O)(o:O)(id f j:br)(v:V):aW ad kWr 5 ((pcs ad 72).drop 8) (wrS os v [(5,.row aa [.int .i64 o.1,jE o.2] 80)] 6) (wrF id f [(13,.int .i64 j),(14,.pointer (ae ⟨5,0,av⟩))]) [] [] ⟨[(2,0,aa),(3,1,aa)],[],[8,9],2,0,aa⟩=ae (qn,[(0,cu aa [cd (ae {block:=1,off:=0}) (aw os) 9223372036854775810] 53),(1,cu au (dr (0+az j*2) (aB (ai aF os))++[ao ag o.fst,frz (ai aM o.snd)]++dq (0+az j*2+2) (aB (ai aF os))) 80)],[(8,cr (ae {block:=0,off:=0})),(9,al au)],[0+az j*2+2<=aw (aB (ai aF os)),(decide (0<=j)&&decide (j<↑(aw os)))=au]):=by kernel_rfl
theorem Z1(os:ab O)(cs:ab af)(n:aq):vS ad Tryz.f72 (aH [(0,.row aa [.slice (ae ⟨1,0,av⟩) n (UNK+2)] 53),(1,.row au cs 80)] 2 0) (mkF [(8,.pointer (ae ⟨0,0,av⟩)),(9,.bool au)] 49) [] ⟨[],[(1,2,os.map aF)],[],0,0,aa⟩=ae (gr {toList:=[bw ⟨[frz (ai aF os)]⟩,al au]},[],[aB (ai aF os)=cs/\(∀(v:af),v∈ai aF os->ef (dx v)=2)/\0<2,n=aw (ai aF os)]):=by kernel_rfl
theorem B1(l:ab V):(aB (l.map aM)).length=l.length*2:=by induction l with|nil=>rfl|cons o l ih=>have:aB ((o::l).map aM)=[.bool o.1,.int .i64 o.2]++aB (l.map aM):=rfl;rw[this,cg,ih];simp;omega
theorem sY:∀(l:ab af)(_:∀ v∈l,v.cells.size=2)(k:aq)(_:k<l.length)(x:af),aB (l.set k x)=(aB l).take (0+k*2)++x.cells.toList++(aB l).drop (0+k*2+2)
 |[],_,k,hk,_=>by simp at hk
 |y::l,h,0,_,x=>by
  have hy:y.cells.toList.length=2:=by simpa using h y qS
  have e1:aB (y::l)=y.cells.toList++aB l:=rfl;have e2:aB ((y::l).set 0 x)=x.cells.toList++aB l:=rfl;rw[e1,e2,rq qO,uy qO];simp
 |y::l,h,k+1,hk,x=>by
  have hy:y.cells.toList.length=2:=by simpa using h y qS
  have e1:aB (y::l)=y.cells.toList++aB l:=rfl;have e2:aB ((y::l).set (k+1) x)=y.cells.toList++aB (l.set k x):=rfl;have ih:=sY l (λv hv=>h v (by simp[hv])) k (by simpa using hk) x;have t1:dr (0+(k+1)*2) y.cells.toList=y.cells.toList:=gc qO;have t2:dq (0+(k+1)*2+2) y.cells.toList=[]:=uy qO;rw[e1,e2,ih,List.take_append,List.drop_append,hy,t1,t2];rw[show 0+(k+1)*2-2=0+k*2 by omega,show 0+(k+1)*2+2-2=0+k*2+2 by omega];simp
def wrO(os:ab O)(id f:br)(v:V):ab O:=match nU os id with|some o=>os.set (atI os id 0).toNat (o.1,o.2.set f.toNat v)|none=>os
def wrV(os:ab O)(id f:br)(v:V):Value:=.tuple ⟨[bF (if(rdI os id f).isSome then wrO os id f v else[]),.bool (rdI os id f).isSome]⟩
theorem PF(os:ab O)(id f:br)(v:V)(hl:SmO os):FnEx ad 72 [bF os,.int .i64 id,.int .i64 f,aM v] St0 (λu _=>u=wrV os id f v):=by
 refine FnEx.enter (n0:=0) (fn:=Tryz.f72) (c:=mD ad 72) Tryz.func72 qK rfl rfl ?_;show Ex _ _ (pcs ad 72) _ _ _;have hsz:=hl.1;have hR:AK [bF os,.int .i64 id,.int .i64 f] (.tuple ⟨[aM ((rdI os id f).getD (aa,0)),.bool (rdI os id f).isSome]⟩):=⟨os,id,f,hl,rfl,rfl⟩;unfold wrV;cases hr:rdI os id f with
 |none=>rw[hr] at hR;refine Ex.stepN aC vL 99 49 0 1 (aAB os id f v (aa,0)) rfl (.cons rfl (.cons hR .nil)) ?_;exact FinQ.mk' (.inr rfl) (UI ()) rfl .nil rfl
 |some w=>
  rw[hr] at hR;obtain⟨o,hfo,hf0,hf1⟩:∃o,nU os id=ae o/\0<=f/\o.2[f.toNat]? =ae w:=by
   unfold rdI at hr;cases hfo:nU os id with
   |none=>rw[hfo] at hr;cases hr
   |some o=>
    rw[hfo] at hr;simp only[re] at hr;by_cases h0:0<=f
    ·rw[fc h0] at hr;exact⟨o,rfl,h0,hr⟩
    ·rw[eh h0] at hr;cases hr
  obtain⟨k,h1,h2,h3⟩:=nZ os id 0 o hfo;rw[fu] at h1;have hA:iW [bF os,.int .i64 id] (.int .i64 (k:br)):=⟨os,id,hl,rfl,by rw[h1]⟩;have hlt:k<os.length:=by
   rcases ey k os.length with h|h
   ·exact h
   ·rw[ei h] at h2;cases h2
  have hfl:f.toNat<o.2.length:=by
   rcases ey f.toNat o.2.length with h|h
   ·exact h
   ·rw[ei h] at hf1;cases hf1
  have hmem:o∈os:=ge h2;have hov:o.2.length*16<=140737488355328:=hl.2 o hmem;have hO:(os.map aF)[((k:aq):br).toNat]? =ae (aF o):=lM h2;have hen:(ai aF os).length=os.length:=fa ..;have hfn:(ai aM o.2).length=o.2.length:=fa ..;refine Ex.stepN aC vL 5 49 0 5 (aAA os id f v w) rfl ?_ ?_
  ·rw[hen];exact .cons (cP qO qO) (.cons (dE os) (.cons (HZ qO) (.cons rfl (.cons hR .nil))))
  rw[hen];refine Ex.stepN aC vL 2 49 0 7 (Z6 os o id f k v) rfl ?_ ?_
  ·rw[hfn];exact .cons (cP qO qO) (.cons (cV o.2) (.cons (HZ qO) (.cons ⟨qO,hO⟩ (.cons hA .nil))))
  rw[hfn];have hset:aB ((o.2.set f.toNat v).map aM)=dr (0+az f*2) (aB (o.2.map aM))++[al v.1,ao ag v.2]++dq (0+az f*2+2) (aB (o.2.map aM)):=by rw[List.map_set];exact sY _ (cV _) _ (by simpa using hfl) _
  have flen:(aB (o.2.map aM)).length=o.2.length*2:=B1 _;refine Ex.stepN aC vL 1 49 0 6 (Z3 os (aB (o.2.map aM)) o.2.length o id f k v (o.2.set f.toNat v)) rfl ?_ ?_
  ·refine .cons ?_ (.cons ?_ (.cons ⟨hset,cV _,qO⟩ (.cons qS .nil)))
   ·rw[flen];show 0+f.toNat*2+2<=_;omega
   ·simp;omega
  refine Ex.stepN aC vL 99 49 0 2 (Z2 os (o.1,o.2.set f.toNat v) id f k v) rfl ?_ ?_
  ·refine .cons ?_ (.cons ?_ .nil)
   ·rw[nT];show 0+(k:br).toNat*2+2<=_;omega
   ·simp;omega
  have hset2:aB ((os.set k (o.1,o.2.set f.toNat v)).map aF)=dr (0+az (k:br)*2) (aB (os.map aF))++[ao ag o.1,jE (o.2.set f.toNat v)]++dq (0+az (k:br)*2+2) (aB (os.map aF)):=by rw[List.map_set];exact sY _ (dE _) _ (by simpa using hlt) _
  refine FinQ.mk' (.inr rfl) (Z1 (os.set k (o.1,o.2.set f.toNat v)) _ _) rfl (.cons ⟨hset2,dE _,qO⟩ (.cons qS .nil)) ?_;have:wrO os id f v=os.set k (o.1,o.2.set f.toNat v):=by unfold wrO;rw[hfo,h1];rfl
  show _=gr ⟨[bF (wrO os id f v),.bool au]⟩;rw[this];rfl
def xG:Rel:=λargs u=>∃os id f v,SmO os/\args=[bF os,.int .i64 id,.int .i64 f,aM v]/\u=wrV os id f v
theorem IZ:∀ args v,xG args v->FnEx ad 72 args St0 (λu _=>u=v):=by rintro args u ⟨os,id,f,v,h,rfl,rfl⟩;exact PF os id f v h
end Go.Proofs.PA
