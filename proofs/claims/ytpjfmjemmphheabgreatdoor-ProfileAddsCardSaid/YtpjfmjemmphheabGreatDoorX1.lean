/- ProfileAdds: texts that its proof stands on, part 1. -/
import Derived.Lib.AppendZerosOnto
import Derived.OrdersHeld
import Derived.StillTail
import Derived.LoopN
import Derived.Test.YtpjfmjemmphheabGreatDoorX0
open Array renaming ext'->jt,getD_eq_getD_getElem?->jc,getElem?_append_left->sw,getElem?_eq_getElem->mi,getElem?_eq_none->lw,getElem?_eq_some_iff->ft,length_toList->gq,range->ti,replicate->mn,size_setIfInBounds->pp
open Bool renaming and_eq_true->bu,false->aa,not_eq_true'->gx,or_eq_true->pu,true->au
open Classical renaming byContradiction->gi
open Go renaming Func->rl,FuncId->ia,IntKind->jl,MapEntry->ez,Oper->gg,Operand->im,Program->cq,TypeId->ct,TypeInfo->oy,Value->af,World->dh
open Go.Act renaming eval_put->uw
open Go.Builtin renaming append_->gm,len_->jm,zeroCells->fy
open Go.Hx renaming HObj->gh
open Go.Hx.Mu renaming le_refl->gk,le_trans->no
open Go.Hx.SOK renaming of_sub->gd
open Go.Hx.St renaming sub_trans->dy
open Go.Hx.Tr renaming get_set->jh,set->ki
open Go.Instr renaming buildSlice->mz,fill->ny,findNow->ja,sameNow->om
open Go.Oper renaming wp->uv
open Go.Region renaming binds->uu,noSelect->jp,ready->du,waitsFor->fj,waitsFor_spec->rp,wanted->ly
open Go.Result renaming andThen_ok->cj
open Go.Sem renaming run_bind->cv,run_pure->dw
open List renaming all_eq_true->fq,append_nil->fh,find?_some->rv,map->ai,mapM_cons->qk,mem_append->eu,mem_append_left->jk,mem_append_right->qz,mem_cons->ci,mem_cons_of_mem->ep,mem_cons_self->fd,mem_filter->jq,mem_iff_getElem->oz,mem_map->fi,mem_of_find?_eq_some->kx,not_mem_nil->fe,pairwise_iff_getElem->pg,range->mf
open List.cons renaming injEq->pt
open Nat renaming beq->bx,ble->dg,blt->em,le_refl->cw,lt_or_ge->ey,zero_mul->lx
open Ne renaming symm->lv
open Option renaming bind_some->re,map_eq_some_iff->aj,none->av,some->ae
open Option.some renaming inj->gf,injEq->co
open Prod.mk renaming injEq->bn
open _root_ renaming Array->df,Bool->cz,Int->br,List->ab,Nat->aq,Option->bp,absurd->cp,cond_false->ed,cond_true->de,if_neg->eh,if_pos->fc
set_option linter.all false
set_option maxRecDepth 100000
set_option maxHeartbeats 4000000
namespace Go.Hx
open Go Go.RowKit
section
variable{w0:Base}{μ:Mu}{s:St}{w:dh}{P:cq}
def nK(P:cq)(s:St)(t u:ct)(x:af)(n:br):bp (af×St):=match P.underlying t,P.underlying u with
 |some (.slice e),ae (.int _)=>match P.info? e,mG P e with
  |some f,ae z=>match mR (decide (0<=n)&&decide (n<=1000000000)) s with
   |some s=>match vB (decide (n=0)) s with
    |some (au,s)=>match x with
     |.slice _ k c=>bif em c UNK then(bif dg k c then ae (x,s) else av) else ae (x,s)
     |_=>av
    |some (aa,s)=>match G8 s with
     |some (op,s)=>match x with
      |.slice xa k c=>match mR (dg ((k+n.toNat)*f.bytes) 140737488355328&&dg (k+n.toNat) 4611686018427387904) s with
       |some s=>bif z.all (idf 0)&&bx z.length f.size&&em 0 f.size then xQ s e f.size xa k c n.toNat op (rep n.toNat z) else av
       |none=>av
      |_=>av
     |none=>av
    |none=>av
   |none=>av
  |_,_=>av
 |_,_=>av
theorem jF(z:df af)(n:aq):fy z n=(rep n z.toList).toArray:=by apply jt;have:=uV n z z.size rfl;simpa[fy] using this
theorem mP(t tn ty e:ct)(i:oy)(kq kn:jl)(ht:P.underlying t=ae (.slice e))(htn:P.underlying tn=ae (.int kn))(hi:P.info? e=ae i)(b:bp Addr)(k c:aq)(hkc:k<=c)(w:dh):(gm #[t,tn] ty #[.slice b k c,.int kq 0]).run P w=.ok (.slice b k c) w:=by
 have hw:IntKind.i64.wrap (0:br)=0:=by rw[IntKind.wrap_i64];omega
 cases b with|none=>simp[gm,run_underlying ht,run_underlying htn,sizeOf,typeInfo,hi,asInt,asIntOf,hw,hkc]|some b=>simp[gm,run_underlying ht,run_underlying htn,sizeOf,typeInfo,hi,asInt,asIntOf,hw,hkc,storeCells]
theorem lJ(t tn ty e e':ct)(i:oy)(z:af)(kq kn:jl)(ht:P.underlying t=ae (.slice e))(htn:P.underlying tn=ae (.int kn))(hi:P.info? e=ae i)(hz:i.zero=ae z)(g o sLen sCap:aq)(cur:df af)(hg:w.heap[g]? =ae (.cells cur e' (0,0)))(k:aq)(h0:0<k)(hs:0<i.size)(hsz:z.cells.size=i.size)(h63:(k:br)<=9223372036854775807)(h48:k*i.bytes<=281474976710656)(h1:∀ u∈rep k z.cells.toList,u.oneCell'=au)(hroom:sLen+k<=sCap)(hfit:o+sLen*i.size+(rep k z.cells.toList).length<=cur.size):(gm #[t,tn] ty #[.slice (ae ⟨g,o,av⟩) sLen sCap,.int kq k]).run P w=.ok (.slice (ae ⟨g,o,av⟩) (sLen+k) sCap) (w.setRow g (cur.toList.take (o+sLen*i.size)++rep k z.cells.toList++cur.toList.drop (o+sLen*i.size+(rep k z.cells.toList).length)).toArray):=by
 have hst:=run_storeCells_at P g (o+sLen*i.size) e' (rep k z.cells.toList) 0 cur w hg (by simpa using hfit) h1;simp only[Nat.add_zero] at hst;have hk:k≠0:=qO;have hw:IntKind.i64.wrap (k:br)=k:=by rw[IntKind.wrap_i64];omega
 have h48i:¬(281474976710656<(k:br)*(i.bytes:br)):=by rw[<-Int.natCast_mul];omega
 have hneg:¬((k:br)<0):=qO;have hns:¬(k*i.size=0):=Nat.mul_ne_zero hk qO;simp[gm,run_underlying ht,run_underlying htn,sizeOf,typeInfo,zeroValue,hi,hz,asInt,asIntOf,hw,hneg,hns,h48i,hroom,jF,bO,hst]
theorem qP(size k c:aq)(b:Addr)(olds:ab af)(hlo:olds.length=k*size)(holds:∀ j v,olds[j]? =ae v->w.cell? (b.add j)=ae v):(Builtin.firstCells size k (.slice (ae b) k c)).run P w.drew=.ok olds.toArray w.drew:=run_firstCells_some (P:=P) w.drew size k b k c olds hlo (by simpa using holds)
theorem EM{t tn ty e:ct}{f:oy}{z':af}{kq kn:jl}(hu:P.underlying t=ae (.slice e))(htn:P.underlying tn=ae (.int kn))(hf:P.info? e=ae f)(k2:f.zero=ae z')(hsz:z'.cells.size=f.size)(hs:0<f.size){m:aq}(hm:0<m)(hm2:m<=1000000000)(h48:m*f.bytes<=281474976710656)(h1:∀ u∈rep m z'.cells.toList,u.oneCell'=au):AppA P w e f z' m (rep m z'.cells.toList) (λx=>gm #[t,tn] ty #[x,.int kq m]):=⟨λh1 h2 h3=>by
  have:=Lib.run_append_nil_zeros (P:=P) w t tn ty e f z' kq kn hu htn hf k2 m h1 hs h2 h3;rw[jF z'.cells m] at this;exact this,
  λb sLen sCap olds h1 h2 h3 h4 h6 h5=>by
  have:=Lib.run_append_grow_zeros (P:=P) w t tn ty e f z' kq kn hu htn hf k2 (ae b) sLen sCap olds (qP f.size sLen sCap b olds h1 h2) m hm hs h3 h4 h6 h5;rw[jF z'.cells m] at this;exact this,
  λe' g o sLen sCap cur h2 h3 h4=>lJ t tn ty e e' f z' kq kn hu htn hf k2 g o sLen sCap cur h2 m hm hs hsz qO h48 h1 h3 h4⟩
theorem E0{p:af->cz}{l:ab af}(h:l.all p=au):∀ n,(rep n l).all p=au
 |0=>rfl|n+1=>by simp only[rep,List.all_append,h,E0 h n,Bool.and_self]
theorem OA{v:af}(h:idf 0 v=au):v.oneCell'=true:=by cases v<;>simp_all [idf,Value.oneCell']
theorem rN{s s':St}{t u:ct}{x v:af}{n:br}(h:nK P s t u x n=ae (v,s')):s.sub s':=by
 unfold nK at h;split at h
 ·split at h
  ·split at h
   ·rename_i hn;have q0:=(bA hn).1.sub;split at h
    ·rename_i hp;have q1:=(aZ hp).1.sub;split at h
     ·rename_i k c;cases hck:em c UNK with|true=>rw[hck] at h;simp only[de] at h;obtain⟨_,h⟩:=gW h;cases h;exact dy q0 q1|false=>rw[hck] at h;simp only[ed] at h;cases h;exact dy q0 q1
     ·cases h
    ·rename_i hp;have q1:=(aZ hp).1.sub;split at h
     ·rename_i hpt;have q2:=(cZ hpt).sub;split at h
      ·split at h
       ·rename_i hn2;have q3:=(bA hn2).1.sub;obtain⟨_,h⟩:=gW h;exact dy q0 (dy q1 (dy q2 (dy q3 (oO h))))
       ·cases h
      ·cases h
     ·cases h
    ·cases h
   ·cases h
  ·cases h
 ·cases h
theorem w9(h:R w0 μ s w){t u ty:ct}{x x' v:af}{n:br}{kq:jl}{s':St}(ha:nK P s t u x n=ae (v,s'))(hx:VR μ x x'):s.sub s'/\(SOK s'->∃v' w' μ',(gm #[t,u] ty #[x',.int kq n]).run P w=.ok v' w'/\μ.le μ'/\R w0 μ' s' w'/\VR μ' v v'):=by
 refine⟨rN ha,λok=>?_⟩;unfold nK at ha;split at ha
 case h_2=>cases ha
 rename_i e kn hu htn;split at ha
 case h_2=>cases ha
 rename_i f z hf hz;obtain⟨f',z',k1,k2,rfl,k3⟩:=dC hz;rw[hf] at k1;cases k1;split at ha
 case h_2=>cases ha
 rename_i s0 hn0;obtain⟨p1,p2⟩:=bA hn0;have hA:=h.like p1;split at ha
 ·rename_i s1 hpop;obtain⟨q1,q2⟩:=aZ hpop;have h1:=hA.like q1;split at ha
  ·rename_i xa k c;have fin:∀(b:bp Addr)(k c:aq),k<=c->SOK s1->(gm #[t,u] ty #[.slice b k c,.int kq n]).run P w=.ok (.slice b k c) w:=by
    intro b k c hkc ok;have hm0:n=0:=by simpa using q2 ok
    subst hm0;exact mP t u ty e f kq kn hu htn hf b k c hkc w
   cases hck:em c UNK with
   |true=>
    rw[hck] at ha;simp only[de] at ha;cases hnc:dg k c with
    |false=>rw[hnc] at ha;simp at ha
    |true=>
     rw[hnc] at ha;simp only[de,co,bn] at ha;obtain⟨rfl,rfl⟩:=ha;have hnc:=bK hnc;have hck:=bN hck;cases xa with
     |none=>cases hx;exact⟨_,w,μ,fin av 0 0 (cw _) ok,gk _,h1,.snil⟩
     |some ax=>
      rcases hx.slice_inv with⟨i,o,p,he,hp,hc,rfl⟩|⟨_,_,_,z,_,_,hcz,_⟩|⟨z,_,hcz,_⟩
      ·subst he;exact⟨_,w,μ,fin _ _ _ hnc ok,gk _,h1,.sliceK hp hc⟩
      ·exfalso;omega
      ·exfalso;omega
   |false=>
    rw[hck] at ha;simp only[ed,co,bn] at ha;obtain⟨rfl,rfl⟩:=ha;have hck':¬c<UNK:=λhlt=>by have:em c UNK=true:=Nat.ble_eq_true_of_le hlt;rw[this] at hck;cases hck
    cases xa with
    |none=>cases hx;exact cp (by simp only[UNK];omega) hck'
    |some ax=>
     have hx0:=hx;rcases hx.slice_inv with⟨_,_,_,_,_,hc,_⟩|⟨i,o,p,z,c',he,hcz,hp,hn,hm',hr,rfl⟩|⟨z,a'',hcz,hn0,rfl⟩
     ·exact cp hc hck'
     ·exact⟨_,w,μ,fin _ _ _ hn ok,gk _,h1,hx0⟩
     ·have hn00:k=0:=hn0;subst hn00;exact⟨_,w,μ,fin _ _ _ (cw _) ok,gk _,h1,hx0⟩
  ·cases ha
 ·rename_i s1 hpop;obtain⟨q1,q2⟩:=aZ hpop;have h1:=hA.like q1;split at ha
  case h_2=>cases ha
  rename_i op s2 hpt;have q3:=cZ hpt;have h2:=h1.like q3;split at ha
  ·rename_i xa k c;split at ha
   ·rename_i s3 hneed;obtain⟨q5,q6⟩:=bA hneed;have h3:=h2.like q5;cases hb:(z'.cells.toList.all (idf 0)&&bx z'.cells.toList.length f.size&&em 0 f.size) with
    |false=>rw[hb] at ha;simp at ha
    |true=>
     rw[hb] at ha;simp only[de] at ha;simp only[bu] at hb;have hsub:=oO ha;have ok3:=gd hsub ok;have ok2:=gd q5.sub ok3;have ok1:=gd q3.sub ok2;have ok0:=gd q1.sub ok1;have hb0:=p2 ok0;simp only[bu,decide_eq_true_eq] at hb0;have hn0:n≠0:=by simpa using q2 ok1
     have hbd:=q6 ok3;simp only[bu] at hbd;have hsz:z'.cells.size=f.size:=by simpa using(aI _ _).1 hb.1.2
     have hidr:=E0 hb.1.1 n.toNat;have hnv:CRs op μ (rep n.toNat z'.cells.toList) (rep n.toNat z'.cells.toList):=by have hfr:FRs μ.fz z'.cells.toList z'.cells.toList:=j2 hb.1.1 (dI k3);cases op with|true=>exact yH hfr n.toNat|false=>exact(yH hfr n.toNat).vrs
     have hb1:=bK hbd.1;have hmb:n.toNat*f.bytes<=281474976710656:=Nat.le_trans (Nat.mul_le_mul_right _ (by omega:n.toNat<=k+n.toNat)) qO;have key:=wA (A:=λx=>gm #[t,u] ty #[x,.int kq n.toNat]) h3 hu hf k2 hsz (bN hb.2) ha hx qO hnv (by rw[lK];simp[hsz])
      (EM hu htn hf k2 hsz (bN hb.2) qO qO hmb λv hv=>OA (fq.1 hidr v hv)) hb1 (bK hbd.2) ok
     rw[show((n.toNat:aq):br)=n by omega] at key;exact key
   ·cases ha
  ·cases ha
 ·cases ha
end
structure HF where
 t:Tr af
 n:aq
 ds:ab HDef
 dv:af
def HF.get(f:HF)(d:aq):Value:=(f.t.get d).getD f.dv
def hvc:Value:=.complex .f64 0 0
def jN:af->cz
 |.complex _ _ _=>au|_=>aa
def HF.ev(s:St)(f:HF):im->bp af
 |.tmp d=>bif em d f.n&&!jN (f.get d) then ae (f.get d) else av
 |.const v=>bif bD 4 v then ae v else av
 |.global g=>bif em g s.ng then ae (.pointer (ae ⟨g,0,av⟩)) else av
 |.func g=>ae (.func (.func g) #[] #[])
def HF.put(f:HF)(d:bp aq)(v:af):bp HF:=match d with|none=>ae f|some d=>bif em d f.n then(ki 64 f.t d v).map λt=>{f with t:=t} else av
inductive DsR(μ:Mu):ab HDef->ab Deferred->Prop
 |nil:DsR μ [] []
 |cons {fn:Fn} {cap args cap' args':ab af} {l:ab HDef} {l':ab Deferred} (h1:VRs μ cap cap') (h2:VRs μ args args') (t:DsR μ l l'):DsR μ (⟨fn,cap,args⟩::l) ({target:=.fn fn ⟨cap'⟩,args:=⟨args'⟩}::l')
theorem DsR.mono{μ ν:Mu}(hl:μ.le ν){l:ab HDef}{l':ab Deferred}(h:DsR μ l l'):DsR ν l l':=by induction h with|nil=>exact .nil|cons h1 h2 _ ih=>exact .cons (h1.mono hl) (h2.mono hl) ih
structure AR(μ:Mu)(f:HF)(a:Act):Prop where
 size:a.tmps.size=f.n
 vals:∀ d,d<f.n->jN (f.get d)=aa->VR μ (f.get d) (a.tmps.getD d undef)
 ds:DsR μ f.ds a.defers
def evs(ev:im->bp af):ab im->bp (ab af)
 |[]=>ae []|x::l=>match ev x,evs ev l with|some v,ae r=>ae (v::r)|_,_=>av
def evO(ev:im->bp af):bp im->bp (bp af)
 |none=>ae av|some x=>match ev x with|some v=>ae (ae v)|none=>av
def C7:af->cz
 |.pointer (ae _)=>au|.iface t _=>bx t 1208925819614629174706177||em t TYM
 |.func (.func _) _ _=>au|_=>aa
def rB:TypeDesc->cz
 |.interface _=>au|_=>aa
def oM(P:cq)(g:ia):Bool:=match P.funcs[g]? with|some fn=>fn.body.isSome|none=>aa
def FP(P:cq)(f:af)(args:ab af):bp (ia×ab af):=match f with
 |.func (.func g) first cap=>bif oM P g then ae (g,first.toList++args++cap.toList) else av
 |_=>av
def xL(P:cq)(s:St)(ev:im->bp af)(o:gg):bp (af×St):=match o.op with
 |.move x=>(ev x).map λv=>(v,s)
 |.assign x=>(ev x).map λv=>(v,s)
 |.pick c a b=>match ev c with
  |some (.bool t)=>match vB t s with
   |some (au,s')=>(ev a).map λv=>(v,s')
   |some (aa,s')=>(ev b).map λv=>(v,s')
   |none=>av
  |_=>av
 |.nilCheck x=>match ev x with
  |some v=>bif C7 v then ae (v,s) else av
  |none=>av
 |.binOp op t x y _=>match ev x,ev y with|some vx,ae vy=>KQ P op t x y vx vy s|_,_=>av
 |.unOp op _ x=>match ev x with
  |some v=>bif bD 6 v then(pF P (Op.unary op v)).map λv=>(v,s) else av
  |none=>av
 |.convert src dst x=>match ev x with
  |some v=>(KN P src dst v).map λv=>(v,s)
  |none=>av
 |.makeInterface t x=>match ev x,P.underlying t with
  |some v,ae d=>bif rB d||!(em t TYM) then av else ae (.iface t v,s)
  |_,_=>av
 |.makeFunc fn first cap=>match evs ev first.toList,evs ev cap.toList with|some f,ae c=>ae (.func fn ⟨f⟩ ⟨c⟩,s)|_,_=>av
 |.slice t x lo hi mx=>match ev x,evO ev lo,evO ev hi,evO ev mx with|some vx,ae l,ae h,ae m=>vW P t vx l h m s|_,_,_,_=>av
 |.fieldAddr t x f=>match ev x with
  |some v=>(qB P t v f).map λv=>(v,s)
  |none=>av
 |.field t x f=>match ev x with
  |some v=>(DU P t v f).map λv=>(v,s)
  |none=>av
 |.indexAddr t x i=>match ev x,ev i with|some vx,ae vi=>iO P t vx vi s|_,_=>av
 |.index t x i=>match ev x,ev i with|some vx,ae vi=>vY P t vx vi s|_,_=>av
 |.extract t k=>match ev t with
  |some (.tuple vs)=>(vs.toList[k]?).map λv=>(v,s)
  |_=>av
 |.call c=>match c.callee,c.argTypes.toList,evs ev c.args.toList with
  |.builtin .len,[t],ae [x]=>match P.underlying t with
   |some (.slice _)=>(zJ P s t x).map λv=>(v,s)
   |some (.array _ _)=>(zJ P s t x).map λv=>(v,s)
   |some .string=>(zJ P s t x).map λv=>(v,s)
   |_=>av
  |_,_,_=>av
 |_=>av
def nJ(P:cq)(s:St)(b:Builtin)(ts:ab ct)(ty:ct)(args:ab af):bp (af×St):=match b,ts,args with
 |.len,[t],[x]=>(zJ P s t x).map λv=>(v,s)
 |.append,[t,u],[x,y]=>bif bx t u then nM P s t x y else match y with|.int _ n=>nK P s t u x n|_=>av
 |.cap,[t],[.slice _ _ c]=>match P.underlying t with
  |some (.slice _)=>bif em c UNK then ae (.int .i64 c,s) else av
  |_=>av
 |.min,_,_=>bif args.all (bD 2) then(pF P (Builtin.min_ ts.toArray ty args.toArray)).map λv=>(v,s) else av
 |.max,_,_=>bif args.all (bD 2) then(pF P (Builtin.max_ ts.toArray ty args.toArray)).map λv=>(v,s) else av
 |_,_,_=>av
def hop(P:cq)(s:St)(ev:im->bp af)(o:gg):bp (HN×St):=match xL P s ev o with
 |some (v,s')=>ae (.val v,s')
 |none=>
 match o.op with
 |.alloc e=>(v7 P s e).map λ(v,s')=>(.val v,s')
 |.box e x=>match ev x with
  |some v=>(KO s e v).map λ(v,s')=>(.val v,s')
  |none=>av
 |.build t ps=>match pU ev ps.toList with
  |some l=>(DW P t l).map λv=>(.val v,s)
  |none=>av
 |.buildSlice t n ps=>match pU ev ps.toList with
  |some l=>(eA P s t n l).map λ(v,s')=>(.val v,s')
  |none=>av
 |.load t a=>match ev a with
  |some v=>(pE P s t v).map λ(v,s')=>(.val v,s')
  |none=>av
 |.store t a x=>match ev a,ev x with
  |some va,ae vx=>(vV P s t va vx).map λs'=>(.skip,s')
  |_,_=>av
 |.makeSlice t l c=>match ev l,ev c with
  |some vl,ae vc=>(iM P s t vl vc).map λ(v,s')=>(.val v,s')
  |_,_=>av
 |.makeMap t r=>match r with
  |none=>(rK P t s).map λ(v,s')=>(.val v,s')
  |some _=>av
 |.lookup t x i ok=>match ev x,ev i with
  |some vx,ae vi=>(jC P s t vx vi ok).map λ(v,s')=>(.val v,s')
  |_,_=>av
 |.mapUpdate t m k x=>match ev m,ev k,ev x with
  |some vm,ae vk,ae vx=>(gK P s t vm vk vx).map λs'=>(.skip,s')
  |_,_,_=>av
 |.insert t m k x=>match ev m,ev k,ev x with
  |some vm,ae vk,ae vx=>(gK P s t vm vk vx).map λs'=>(.skip,s')
  |_,_,_=>av
 |.call c=>match c.callee,evs ev c.args.toList with
  |.value f,ae args=>match ev f with
   |some vf=>(FP P vf args).map λ(g,l)=>(.enter g l,s)
   |none=>av
  |.invoke r name,ae args=>match ev r with
   |some vr=>match zI P name vr with
    |some (g,x)=>bif oM P g then ae (.enter g (x::args),s) else av
    |none=>av
   |none=>av
  |.builtin b,ae args=>(nJ P s b c.argTypes.toList o.type args).map λ(v,s')=>(.val v,s')
  |_,_=>av
 |.defer c=>match c.callee,evs ev c.args.toList with
  |.value f,ae args=>match ev f with
   |some (.func fn first cap)=>ae (.dfr ⟨fn,cap.toList,first.toList++args⟩,s)|_=>av
  |_,_=>av
 |_=>av
def Sim(w0:Base)(μ:Mu)(w:dh)(r:Result Next):HN×St->Prop
 |(.val v,s')=>∃v' w' μ',r=.ok (.value v') w'/\μ.le μ'/\R w0 μ' s' w'/\VR μ' v v'|(.skip,s')=>∃w' μ',r=.ok .skip w'/\μ.le μ'/\R w0 μ' s' w'|(.enter f args,s')=>∃args',r=.ok (.enter f ⟨args'⟩) w/\R w0 μ s' w/\VRs μ args args'|(.dfr d,s')=>∃cap' args',r=.ok (.defer {target:=.fn d.fn ⟨cap'⟩,args:=⟨args'⟩}) w/\R w0 μ s' w/\VRs μ d.cap cap'/\VRs μ d.args args'
section
variable{w0:Base}{μ:Mu}{s:St}{w:dh}{P:cq}{ev:im->bp af}{ρ:im->af}
theorem gL(he:∀ x v,ev x=ae v->VR μ v (ρ x)):∀(l:ab im)(r:ab af),evs ev l=ae r->VRs μ r (l.map ρ):=by
 intro l;induction l with
 |nil=>intro r h;simp[evs] at h;subst h;exact .nil
 |cons x l ih=>
  intro r h;simp only[evs] at h;split at h
  ·rename_i v r' hv hr;simp at h;subst h;exact .cons (he _ _ hv) (ih r' hr)
  ·cases h
theorem sZ(he:∀ x v,ev x=ae v->VR μ v (ρ x)){x:bp im}{r:bp af}(h:evO ev x=ae r):VRo μ r (x.map ρ):=by
 cases x with
 |none=>simp[evO] at h;subst h;exact .none
 |some x=>
  simp only[evO] at h;split at h
  ·rename_i v hv;simp at h;subst h;exact .some (he _ _ hv)
  ·cases h
def NoG(P:cq):Prop:=∀(g:ia)(fn:rl),P.funcs[g]? =ae fn->fn.body.isSome=au->(fn.name== "runtime.NumGoroutine")=aa
theorem lI(hg:NoG P){g:ia}(hb:oM P g=au)(args:df af)(w:dh):(callFunc g args).run P w=.ok (.enter g args) w:=by
 unfold oM at hb;cases hf:P.funcs[g]? with
 |none=>simp[hf] at hb
 |some fn=>
  simp only[hf] at hb;have hn:=hg g fn hf hb;have hb':fn.body.isNone=false:=by cases hx:fn.body<;>simp_all
  simp only[callFunc,cv,run_program,cj,hf,hn,hb',Bool.false_eq_true,if_false,dw]
theorem B0{l l':ab af}{d:aq}(hf:l.all (bD d)=au)(h:VRs μ l l'):l'=l:=by induction l generalizing l' with|nil=>cases h;rfl|cons a l ih=>simp only[List.all_cons,bu] at hf;cases h with|cons h t=>rw[ih hf.2 t,jD d _ _ hf.1 h]
theorem aD{α:Type}{c:cz}{x:bp α}{y:α}(h:(bif c then x else av)=ae y):c=au/\x=ae y:=by
 cases c
 ·cases h
 ·exact⟨rfl,h⟩
theorem yZ{t ty:ct}{x x' v:af}(hl:zJ P s t x=ae v)(hx:VR μ x x')(hk:(∃e,P.underlying t=ae (.slice e))\/(∃n e,P.underlying t=ae (.array n e))\/P.underlying t=ae .string):(∀ w,(jm #[t] ty #[x']).run P w=.ok v w)/\VR μ v v:=by
 unfold zJ at hl;rcases hk with⟨e,hu⟩|⟨n,e,hu⟩|hu
 ·simp only[hu] at hl;split at hl
  ·rename_i a n c;simp only[co] at hl;subst hl;refine⟨λw=>?_,.int _ _⟩;cases hx<;>simp[jm,run_underlying hu,goInt]
  ·rename_i t' kd n;cases ht:bx t' 1208925819614629174706178 with|false=>rw[ht] at hl;simp at hl|true=>rw[ht] at hl;simp only[de,co] at hl;subst hl;have:=(aI _ _).1 ht;subst this;refine⟨λw=>?_,.int _ _⟩;cases hx with|iface ht _=>exact cp ht (by simp[TYM])|szv=>simp[jm,run_underlying hu,goInt]
  ·simp only[aj] at hl;obtain⟨es,hes,rfl⟩:=hl;refine⟨λw=>?_,.int _ _⟩;rw[iK hes] at hx;cases hx with|iface ht _=>exact cp ht (by simp[TYM])|frz hx=>cases hx<;>simp[jm,run_underlying hu,goInt]
 ·simp only[hu,co] at hl;subst hl;exact⟨λw=>by simp[jm,run_underlying hu,goInt],.int _ _⟩
 ·simp only[hu] at hl;split at hl
  ·simp only[co] at hl;subst hl;refine⟨λw=>?_,.int _ _⟩;cases hx;simp[jm,run_underlying hu,goInt]
  ·cases hl
theorem tJ{s':St}(h:R w0 μ s w)(he:∀ x v,ev x=ae v->VR μ v (ρ x)){o:gg}{v:af}(ho:xL P s ev o=ae (v,s')):s.like s'/\(SOK s'->∃v',(∀ w,(execOp ρ o).run P w=.ok (.value v') w)/\VR μ v v'):=by
 unfold xL at ho;unfold execOp;split at ho
 ·rename_i x hop;simp only[aj,bn] at ho;obtain⟨v1,hv,rfl,rfl⟩:=ho;rw[hop];exact⟨s.like_refl,λ_=>⟨_,λw=>rfl,he _ _ hv⟩⟩
 ·rename_i x hop;simp only[aj,bn] at ho;obtain⟨v1,hv,rfl,rfl⟩:=ho;rw[hop];exact⟨s.like_refl,λ_=>⟨_,λw=>rfl,he _ _ hv⟩⟩
 ·rename_i c a b hop;rw[hop];split at ho
  ·rename_i t hc;have hvc:=he _ _ hc;split at ho
   ·rename_i s1 hp;obtain⟨k1,k2⟩:=aZ hp;simp only[aj,bn] at ho;obtain⟨v1,hv,rfl,rfl⟩:=ho;refine⟨k1,λok=>?_⟩;have:=k2 ok;subst this;dsimp only;generalize ρ c=vc at hvc ⊢;cases hvc;exact⟨_,λw=>rfl,he _ _ hv⟩
   ·rename_i s1 hp;obtain⟨k1,k2⟩:=aZ hp;simp only[aj,bn] at ho;obtain⟨v1,hv,rfl,rfl⟩:=ho;refine⟨k1,λok=>?_⟩;have:=k2 ok;subst this;dsimp only;generalize ρ c=vc at hvc ⊢;cases hvc;exact⟨_,λw=>rfl,he _ _ hv⟩
   ·cases ho
  ·cases ho
 ·rename_i x hop;rw[hop];split at ho
  ·rename_i v1 hv;cases hn:C7 v1 with
   |false=>rw[hn] at ho;simp at ho
   |true=>
    rw[hn] at ho;simp only[de,co,bn] at ho;obtain⟨rfl,rfl⟩:=ho;refine⟨s.like_refl,λ_=>?_⟩;have hvr:=he _ _ hv;refine⟨ρ x,λw=>?_,hvr⟩;dsimp only;generalize ρ x=vx at hvr ⊢;unfold C7 at hn;split at hn
    ·cases hvr<;>rfl
    ·rename_i t u;simp only[pu,aI] at hn;cases hvr with
     |iface _ _=>rfl|fptr _ _ _=>rfl
     |frz _=>
           exfalso;rcases hn with hn|hn
           ·simp at hn
           ·exact cp (bN hn) (by simp[TYM])
     |szv=>
          exfalso;rcases hn with hn|hn
          ·simp at hn
          ·exact cp (bN hn) (by simp[TYM])
     |frzU=>
          exfalso;rcases hn with hn|hn
          ·simp at hn
          ·exact cp (bN hn) (by simp[TYM])
    ·cases hvr;rfl
    ·cases hn
  ·cases ho
 ·rename_i op t x y yt hop;rw[hop];split at ho
  ·rename_i vx vy hvx hvy;obtain⟨k1,k2⟩:=HY (xo:=x) (yo:=y) ho (he _ _ hvx) (he _ _ hvy);refine⟨k1,λok=>?_⟩;obtain⟨v',k3,k4⟩:=k2 ok;exact⟨v',λw=>by have:=k3 w;simp only[cv] at this ⊢;rw[this];rfl,k4⟩
  ·cases ho
 ·rename_i op t x hop;rw[hop];split at ho
  ·rename_i vx hvx;cases hfl:bD 6 vx with|false=>rw[hfl] at ho;simp at ho|true=>rw[hfl] at ho;simp only[de,aj,bn] at ho;obtain⟨v1,hv,rfl,rfl⟩:=ho;have hfe:=jD 6 _ _ hfl (he _ _ hvx);exact⟨s.like_refl,λ_=>⟨_,λw=>by dsimp only;rw[<-hfe];simp only[cv,(bJ (μ:=μ) hv w).1,cj,dw],(bJ hv default).2⟩⟩
  ·cases ho
 ·rename_i src dst x hop;rw[hop];split at ho
  ·rename_i vx hvx;simp only[aj,bn] at ho;obtain⟨v1,hv,rfl,rfl⟩:=ho;obtain⟨v',k1,k2⟩:=EE hv (he _ _ hvx);exact⟨s.like_refl,λ_=>⟨v',λw=>by simp only[cv,k1 w,cj,dw],k2⟩⟩
  ·cases ho
 ·rename_i t x hop;rw[hop];split at ho
  ·rename_i v1 d hv hd;cases hi:(rB d||!(em t TYM)) with
   |true=>rw[hi] at ho;simp at ho
   |false=>
    rw[hi] at ho;simp only[ed,co,bn] at ho;obtain⟨rfl,rfl⟩:=ho;simp only[Bool.or_eq_false_iff,Bool.not_eq_false'] at hi;refine⟨s.like_refl,λ_=>⟨.iface t (ρ x),λw=>?_,.iface (bN hi.2) (he _ _ hv)⟩⟩;have:(Instr.makeInterface t (ρ x)).run P w=.ok (.iface t (ρ x)) w:=by simp only[Instr.makeInterface,cv,run_underlying hd,cj];have hi:=hi.1;cases d<;>first|(simp[rB] at hi;done)|rfl
    simp only[cv,this,cj,dw]
  ·cases ho
 ·rename_i fn first cap hop
  rw[hop];split at ho
  ·rename_i f c hf hc;simp only[co,bn] at ho;obtain⟨rfl,rfl⟩:=ho;have h1:=gL he _ _ hf;have h2:=gL he _ _ hc;refine⟨s.like_refl,λ_=>⟨.func fn (first.map ρ) (cap.map ρ),λw=>rfl,?_⟩⟩;have e1:first.map ρ=⟨first.toList.map ρ⟩:=by apply jt;simp
   have e2:cap.map ρ=⟨cap.toList.map ρ⟩:=by apply jt;simp
   rw[e1,e2];exact .func h1 h2
  ·cases ho
 ·rename_i t x lo hi mx hop;rw[hop];split at ho
  ·rename_i vx l hh m hvx hl hh2 hm;obtain⟨k1,k2⟩:=AG ho (he _ _ hvx) (sZ he hl) (sZ he hh2) (sZ he hm);refine⟨k1,λok=>?_⟩;obtain⟨v',k3,k4⟩:=k2 ok;exact⟨v',λw=>by simp only[cv,k3 w,cj,dw],k4⟩
  ·cases ho
 ·rename_i t x f hop;rw[hop];split at ho
  ·rename_i vx hvx;simp only[aj,bn] at ho;obtain⟨v1,hv,rfl,rfl⟩:=ho;obtain⟨v',k1,k2⟩:=tY hv (he _ _ hvx);exact⟨s.like_refl,λ_=>⟨v',λw=>by simp only[cv,k1 w,cj,dw],k2⟩⟩
  ·cases ho
 ·rename_i t x f hop;rw[hop];split at ho
  ·rename_i vx hvx;simp only[aj,bn] at ho;obtain⟨v1,hv,rfl,rfl⟩:=ho;obtain⟨v',k1,k2⟩:=B2 hv (he _ _ hvx);exact⟨s.like_refl,λ_=>⟨v',λw=>by simp only[cv,k1 w,cj,dw],k2⟩⟩
  ·cases ho
 ·rename_i t x i hop;rw[hop];split at ho
  ·rename_i vx vi hvx hvi;obtain⟨k1,k2⟩:=tU ho (he _ _ hvx) (he _ _ hvi);refine⟨k1,λok=>?_⟩;obtain⟨v',k3,k4⟩:=k2 ok;exact⟨v',λw=>by simp only[cv,k3 w,cj,dw],k4⟩
  ·cases ho
 ·rename_i t x i hop;rw[hop];split at ho
  ·rename_i vx vi hvx hvi;obtain⟨k1,k2⟩:=BD ho (he _ _ hvx) (he _ _ hvi);refine⟨k1,λok=>?_⟩;obtain⟨v',k3,k4⟩:=k2 ok;exact⟨v',λw=>by simp only[cv,k3 w,cj,dw],k4⟩
  ·cases ho
 ·rename_i t k hop;rw[hop];split at ho
  ·rename_i vs hvs;simp only[aj,bn] at ho;obtain⟨v1,hv,rfl,rfl⟩:=ho;have:=he _ _ hvs;refine⟨s.like_refl,λ_=>?_⟩;dsimp only;generalize ρ t=vt at this ⊢;cases this with|tuple hl=>obtain⟨v',k1,k2⟩:=hl.get k _ hv;refine⟨v',λw=>?_,k2⟩;simp[Instr.extract,k1]
  ·cases ho
 ·rename_i c hop;rw[hop];split at ho
  ·rename_i t x hc ht ha;have har:=gL he _ _ ha;have e1:c.args.map ρ=⟨c.args.toList.map ρ⟩:=by apply jt;simp
   generalize hl:c.args.toList.map ρ=l' at har e1;obtain⟨ts,hts⟩:∃ts,c.argTypes=⟨ts⟩:=⟨c.argTypes.toList,rfl⟩;rw[hts] at ht;simp only at ht;subst ht;cases har with
   |cons h1 h2=>
    cases h2;rename_i x';have aW:∀(v:af) w,(jm #[t] o.type #[x']).run P w=.ok v w->(do let d <-resolve ρ c o.type;invoke d.target d.args:Sem Next).run P w=.ok (.value v) w:=by intro v w k;simp only[resolve,hc,cv,dw,cj,invoke,e1,hts];simp[builtin,k]
    have fin:∀ v,zJ P s t x=ae v->(∀ w,(jm #[t] o.type #[x']).run P w=.ok v w)/\VR μ v v->s.like s/\(SOK s->∃v',(∀ w,(do let d <-resolve ρ c o.type;invoke d.target d.args:Sem Next).run P w=.ok (.value v') w)/\VR μ v v'):=λv _ k=>⟨s.like_refl,λ_=>⟨v,λw=>aW v w (k.1 w),k.2⟩⟩;split at ho
    ·rename_i e hu;simp only[aj,bn] at ho;obtain⟨v1,hv,rfl,rfl⟩:=ho;exact fin _ hv (yZ hv h1 (.inl ⟨e,hu⟩))
    ·rename_i n e hu;simp only[aj,bn] at ho;obtain⟨v1,hv,rfl,rfl⟩:=ho;exact fin _ hv (yZ hv h1 (.inr (.inl ⟨n,e,hu⟩)))
    ·rename_i hu;simp only[aj,bn] at ho;obtain⟨v1,hv,rfl,rfl⟩:=ho;exact fin _ hv (yZ hv h1 (.inr (.inr hu)))
    ·cases ho
  ·cases ho
 ·cases ho
theorem w8(h:R w0 μ s w){b:Builtin}{ts:df ct}{ty:ct}{args args':ab af}{cs:df cz}{v:af}{s':St}(hb:nJ P s b ts.toList ty args=ae (v,s'))(ha:VRs μ args args'):s.sub s'/\(SOK s'->∃v' w' μ',(builtin b ts ty cs ⟨args'⟩).run P w=.ok (.value v') w'/\μ.le μ'/\R w0 μ' s' w'/\VR μ' v v'):=by
 unfold nJ at hb;obtain⟨ts⟩:=ts;split at hb
 ·rename_i t x hts;simp only at hts;subst hts;simp only[aj,bn] at hb;obtain⟨u,hu,rfl,rfl⟩:=hb;cases ha with|cons h1 h2=>cases h2;obtain⟨k1,k2⟩:=HD (ty:=ty) h hu h1;exact⟨s.sub_refl,λ_=>⟨_,w,μ,by simp[builtin,k1],gk _,h,k2⟩⟩
 ·rename_i t u x y hts;simp only at hts;subst hts;cases htu:bx t u with
  |false=>
   rw[htu] at hb;simp only[ed] at hb;split at hb
   ·rename_i kk nn;cases ha with|cons h1 h2=>cases h2 with|cons h2 h3=>cases h3;cases h2;obtain⟨q1,q2⟩:=w9 (ty:=ty) (kq:=kk) h hb h1;refine⟨q1,λok=>?_⟩;obtain⟨v',w',μ',k1,k2,k3,k4⟩:=q2 ok;refine⟨v',w',μ',?_,k2,k3,k4⟩;simp[builtin,k1]
   ·cases hb
  |true=>rw[htu] at hb;simp only[de] at hb;have htu:=(aI _ _).1 htu;subst htu;cases ha with|cons h1 h2=>cases h2 with|cons h2 h3=>cases h3;obtain⟨q1,q2⟩:=xA (ty:=ty) h hb h1 h2;refine⟨q1,λok=>?_⟩;obtain⟨v',w',μ',k1,k2,k3,k4⟩:=q2 ok;refine⟨v',w',μ',?_,k2,k3,k4⟩;simp[builtin,k1]
 ·rename_i t xa n c hts;simp only at hts;subst hts;split at hb
  ·rename_i el hu;obtain⟨hc,hb⟩:=aD hb;cases hb;cases ha with|cons h1 h2=>cases h2;have hc:=bN hc;refine⟨s.sub_refl,λ_=>⟨.int .i64 c,w,μ,?_,gk _,h,.int _ _⟩⟩;cases h1 with|snil=>simp[builtin,Builtin.cap_,run_underlying hu,goInt]|sliceK _ _=>simp[builtin,Builtin.cap_,run_underlying hu,goInt]|sliceU=>exfalso;omega|sliceE=>exfalso;omega
  ·cases hb
 ·obtain⟨hfl,hb⟩:=aD hb;simp only[aj,bn] at hb;obtain⟨u,hu,rfl,rfl⟩:=hb;obtain rfl:=B0 hfl ha;obtain⟨k1,k2⟩:=bJ (μ:=μ) hu w;refine⟨s.sub_refl,λ_=>⟨_,w,μ,?_,gk _,h,k2⟩⟩;simp only[builtin,cv];rw[k1];rfl
 ·obtain⟨hfl,hb⟩:=aD hb;simp only[aj,bn] at hb;obtain⟨u,hu,rfl,rfl⟩:=hb;obtain rfl:=B0 hfl ha;obtain⟨k1,k2⟩:=bJ (μ:=μ) hu w;refine⟨s.sub_refl,λ_=>⟨_,w,μ,?_,gk _,h,k2⟩⟩;simp only[builtin,cv];rw[k1];rfl
 ·cases hb
theorem sT(hg:NoG P)(h:R w0 μ s w)(he:∀ x v,ev x=ae v->VR μ v (ρ x)){o:gg}{r:HN×St}(ho:hop P s ev o=ae r):s.sub r.2/\(SOK r.2->Sim w0 μ w ((execOp ρ o).run P w) r):=by
 unfold hop at ho;split at ho
 ·rename_i v s1 hp;cases ho;obtain⟨k1,k2⟩:=tJ h he hp;refine⟨k1.sub,λok=>?_⟩;obtain⟨v',k3,k4⟩:=k2 ok;exact⟨v',w,μ,k3 w,gk _,h.like k1,k4⟩
 ·unfold execOp;split at ho
  ·rename_i e hop;rw[hop];simp only[aj] at ho;obtain⟨⟨v,s'⟩,hv,rfl⟩:=ho;obtain⟨v',w',μ',k1,k2,k3,k4⟩:=CC h hv (.tuple #[]);exact⟨v6 hv,λ_=>⟨v',w',μ',by simp only[cv,k1,cj,dw],k2,k3,k4⟩⟩
  ·rename_i e x hop;rw[hop];split at ho
   ·rename_i vx hx;simp only[aj] at ho;obtain⟨⟨v,s'⟩,hv,rfl⟩:=ho;obtain⟨v',w',μ',k1,k2,k3,k4⟩:=HW (P:=P) h hv (he _ _ hx);exact⟨BT hv,λ_=>⟨v',w',μ',by simp only[cv,k1,cj,dw],k2,k3,k4⟩⟩
   ·cases ho
  ·rename_i t ps hop;rw[hop];split at ho
   ·rename_i l hl;simp only[aj] at ho;obtain⟨v,hv,rfl⟩:=ho;obtain⟨p1,p2⟩:=vC he _ _ hl;obtain⟨v',k1,k2⟩:=CA hv p1 p2 w;refine⟨s.sub_refl,λ_=>⟨v',w,μ,?_,gk _,h,k2⟩⟩;have e1:(ai (λx=>(x.1,ρ x.2)) ps.toList).toArray=ps.map λx=>(x.1,ρ x.2):=by apply jt;simp
    simp only[e1] at k1;simp only[cv,k1,cj,dw]
   ·cases ho
  ·rename_i t n ps hop;rw[hop];split at ho
   ·rename_i l hl;simp only[aj] at ho;obtain⟨⟨v,s'⟩,hv,rfl⟩:=ho;obtain⟨p1,p2⟩:=vC he _ _ hl;obtain⟨v',w',μ',k1,k2,k3,k4⟩:=tA h hv p1 p2;refine⟨mL hv,λ_=>⟨v',w',μ',?_,k2,k3,k4⟩⟩;have e1:(ai (λx=>(x.1,ρ x.2)) ps.toList).toArray=ps.map λx=>(x.1,ρ x.2):=by apply jt;simp
    simp only[e1] at k1;simp only[cv,k1,cj,dw]
   ·cases ho
  ·rename_i t a hop;rw[hop];split at ho
   ·rename_i va hva;simp only[aj] at ho;obtain⟨⟨v,s'⟩,hv,rfl⟩:=ho;obtain⟨q1,q2⟩:=DF h hv (he _ _ hva);refine⟨q1.sub,λok=>?_⟩;obtain⟨v',k1,k2⟩:=q2 ok;exact⟨v',w,μ,by simp only[cv,k1,cj,dw],gk _,h.like q1,k2⟩
   ·cases ho
  ·rename_i t a x hop;rw[hop];split at ho
   ·rename_i va vx hva hvx;simp only[aj] at ho;obtain⟨s',hv,rfl⟩:=ho;obtain⟨q1,q2⟩:=AD h hv (he _ _ hva) (he _ _ hvx);refine⟨q1,λok=>?_⟩;obtain⟨w',k1,k2⟩:=q2 ok;exact⟨w',μ,by simp only[cv,k1,cj,dw],gk _,k2⟩
   ·cases ho
  ·rename_i t l c hop;rw[hop];split at ho
   ·rename_i vl vc hvl hvc;simp only[aj] at ho;obtain⟨⟨v,s'⟩,hv,rfl⟩:=ho;obtain⟨q1,q2⟩:=tT h hv (he _ _ hvl) (he _ _ hvc);refine⟨q1,λok=>?_⟩;obtain⟨v',w',μ',k1,k2,k3,k4⟩:=q2 ok;exact⟨v',w',μ',by simp only[cv,k1,cj,dw],k2,k3,k4⟩
   ·cases ho
  ·rename_i t r hop;rw[hop];split at ho
   ·simp only[aj] at ho;obtain⟨⟨v,s'⟩,hv,rfl⟩:=ho;obtain⟨q1,v',w',μ',k1,k2,k3,k4⟩:=wU (P:=P) (t:=t) h hv;exact⟨q1,λ_=>⟨v',w',μ',by simp only[Option.map_none,cv,k1,cj,dw],k2,k3,k4⟩⟩
   ·cases ho
  ·rename_i t x i ok hop;rw[hop];split at ho
   ·rename_i vx vi hvx hvi;simp only[aj] at ho;obtain⟨⟨v,s'⟩,hv,rfl⟩:=ho;obtain⟨q1,q2⟩:=yW h hv (he _ _ hvx) (he _ _ hvi);refine⟨q1.sub,λok=>?_⟩;obtain⟨v',k1,k2⟩:=q2 ok;exact⟨v',w,μ,by simp only[cv,k1,cj,dw],gk _,h.like q1,k2⟩
   ·cases ho
  ·rename_i t m k x hop;rw[hop];split at ho
   ·rename_i vm vk vx hvm hvk hvx;simp only[aj] at ho;obtain⟨s',hv,rfl⟩:=ho;obtain⟨q1,q2⟩:=mI h hv (he _ _ hvm) (he _ _ hvk) (he _ _ hvx);refine⟨q1,λok=>?_⟩;obtain⟨w',μ',k1,k2,k3⟩:=q2 ok;exact⟨w',μ',by simp only[cv,k1,cj,dw],k2,k3⟩
   ·cases ho
  ·rename_i t m k x hop;rw[hop];split at ho
   ·rename_i vm vk vx hvm hvk hvx;simp only[aj] at ho;obtain⟨s',hv,rfl⟩:=ho;obtain⟨q1,q2⟩:=mI h hv (he _ _ hvm) (he _ _ hvk) (he _ _ hvx);refine⟨q1,λok=>?_⟩;obtain⟨w',μ',k1,k2,k3⟩:=q2 ok;exact⟨w',μ',by simp only[cv,k1,cj,dw],k2,k3⟩
   ·cases ho
  ·rename_i c hop;rw[hop];split at ho
   ·rename_i f args hc ha;split at ho
    ·rename_i vf hvf;simp only[aj] at ho;obtain⟨⟨g,l⟩,hgl,rfl⟩:=ho;have hvr:=he _ _ hvf;have har:=gL he _ _ ha;unfold FP at hgl;split at hgl
     ·rename_i g0 first cap
      cases hb:oM P g0 with|false=>rw[hb] at hgl;simp at hgl|true=>rw[hb] at hgl;simp only[de,co,bn] at hgl;obtain⟨rfl,rfl⟩:=hgl;generalize hρ:ρ f=vf' at hvr;cases hvr with|func h1 h2=>rename_i fl fl' cl cl';refine⟨s.sub_refl,λ_=>⟨fl'++c.args.toList.map ρ++cl',?_,h,(h1.append har).append h2⟩⟩;simp only[resolve,hc,hρ,Deferred.ofValue,cv,dw,cj,invoke,lI hg hb];congr 2;apply jt;simp
     ·cases hgl
    ·cases ho
   ·rename_i r name args hc ha;split at ho
    ·rename_i vr hvr;split at ho
     ·rename_i g x hm;obtain⟨hb,ho⟩:=aD ho;cases ho;have har:=gL he _ _ ha;obtain⟨x',k1,k2⟩:=yU (μ:=μ) hm (he _ _ hvr);refine⟨s.sub_refl,λ_=>⟨x'::c.args.toList.map ρ,?_,h,.cons k1 har⟩⟩;have e1:(#[ρ r]++c.args.map ρ)[0]? =ae (ρ r):=by rw[sw qS];rfl
      have e2:(#[ρ r]++c.args.map ρ).extract 1 (#[ρ r]++c.args.map ρ).size=c.args.map ρ:=by apply jt;simp;exact List.take_of_length_le qS
      simp only[resolve,hc,cv,dw,cj,invoke,e1,e2,k2,lI hg hb];congr 2;apply jt;simp
     ·cases ho
    ·cases ho
   ·rename_i b args hc ha;simp only[aj] at ho;obtain⟨⟨v,s'⟩,hv,rfl⟩:=ho;have har:=gL he _ _ ha;obtain⟨q1,q2⟩:=w8 (cs:=c.args.map λ|.const _=>au|_=>aa) h hv har;refine⟨q1,λok=>?_⟩;obtain⟨v',w',μ',k1,k2,k3,k4⟩:=q2 ok;refine⟨v',w',μ',?_,k2,k3,k4⟩;simp only[resolve,hc,cv,dw,cj,invoke];have e1:c.args.map ρ=⟨c.args.toList.map ρ⟩:=by apply jt;simp
    rw[e1];exact k1
   ·cases ho
  ·rename_i c hop;rw[hop];split at ho
   ·rename_i f args hc ha;split at ho
    ·rename_i fn first cap hvf
     simp only[co] at ho;subst ho;have hvr:=he _ _ hvf;have har:=gL he _ _ ha;generalize hρ:ρ f=vf' at hvr;cases hvr with|func h1 h2=>rename_i fl fl' cl cl';refine⟨s.sub_refl,λ_=>⟨cl',fl'++c.args.toList.map ρ,?_,h,h2,h1.append har⟩⟩;simp only[resolve,hc,hρ,Deferred.ofValue,cv,dw,cj];congr 3;apply jt;simp
    ·cases ho
   ·cases ho
  ·cases ho
end
section
variable{s s':St}{P:cq}
theorem bZ{α β:Type}{x:bp α}{g:α->β×St}{v:β}(h:x.map g=ae (v,s'))(k:∀ a,x=ae a->s.like (g a).2):s.like s':=by simp only[aj] at h;obtain⟨a,h1,h2⟩:=h;have:=k a h1;rw[h2] at this;exact this
theorem dZ{α β:Type}{x:bp α}{g:α->β×St}{v:β}(h:x.map g=ae (v,s'))(k:∀ a,x=ae a->s.sub (g a).2):s.sub s':=by simp only[aj] at h;obtain⟨a,h1,h2⟩:=h;have:=k a h1;rw[h2] at this;exact this
theorem cD{α β:Type}{x:bp α}{g:α->β}{v:β}(h:(x.map λa=>(g a,s))=ae (v,s')):s.like s':=bZ h λ_ _=>s.like_refl
theorem DX{op:BinOp}{t:ct}{xo yo:im}{x y v:af}(h:BU P op t xo yo x y s=ae (v,s')):s.like s':=by
 unfold BU at h;cases hd:J8 op with
 |false=>rw[hd] at h;exact cD h
 |true=>
  rw[hd] at h;simp only[de] at h;unfold TB at h;split at h
  ·split at h
   ·exact bZ h λa ha=>(bA ha).1
   ·cases h
  ·split at h
   ·exact bZ h λa ha=>(bA ha).1
   ·cases h
  ·cases h
theorem HO{op:BinOp}{t:ct}{xo yo:im}{x y v:af}(h:KQ P op t xo yo x y s=ae (v,s')):s.like s':=by
 unfold KQ at h;split at h
 ·split at h
  ·simp only[aj,bn] at h;obtain⟨s1,h1,_,rfl⟩:=h;exact(bA h1).1
  ·cases h
 ·exact DX h
theorem BQ{t:ct}{x i v:af}(h:vY P t x i s=ae (v,s')):s.like s':=by
 unfold vY at h;split at h
 ·split at h
  ·cases ho:s.opn with
   |true=>
    rw[ho] at h;simp only[de] at h;split at h
    ·rename_i hp;exact bZ h λa ha=>(cE hp).trans (aY ha).1
    ·cases h
   |false=>rw[ho] at h;simp only[ed] at h;obtain⟨_,h⟩:=aD h;exact cD h
  ·cases h
 ·obtain⟨_,h⟩:=aD h;exact cD h
theorem tW{t:ct}{x i v:af}(h:iO P t x i s=ae (v,s')):s.like s':=by
 unfold iO at h;split at h
 ·split at h
  ·split at h
   ·exact bZ h λa ha=>(oL (s':=a.2) (r:=a.1) ha).1
   ·split at h
    ·split at h
     ·rename_i hp;obtain⟨_,h⟩:=aD h;exact bZ h λa ha=>(cE hp).trans (aY ha).1
     ·cases h
    ·cases h
  ·cases h
 ·split at h
  ·split at h
   ·rename_i b o;cases hop:(dg 16 (_:aq)&&kJ s b) with
    |true=>rw[hop] at h;exact bZ h λa ha=>(bA ha).1
    |false=>rw[hop] at h;exact bZ h λa ha=>(oL (s':=a.2) (r:=a.1) ha).1
   ·split at h
    ·obtain⟨_,h⟩:=aD h;cases h;exact s.like_refl
    ·cases h
  ·cases h
 ·cases h
theorem BP{t:ct}{x v:af}{lo hi mx:bp af}(h:vW P t x lo hi mx s=ae (v,s')):s.like s':=by
 unfold vW at h;split at h
 ·split at h
  ·cases h
  ·split at h
   ·obtain⟨_,h⟩:=aD h;split at h
    ·exact bZ h λa ha=>(bA ha).1
    ·cases h
   ·rename_i i o n c;cases hck:em c UNK with
    |true=>
     rw[hck] at h;simp only[de] at h;split at h
     ·exact bZ h λa ha=>(bA ha).1
     ·cases h
    |false=>
     rw[hck] at h;simp only[ed] at h;obtain⟨_,h⟩:=aD h;split at h
     ·exact bZ h λa ha=>(bA ha).1
     ·exact bZ h λa ha=>(bA ha).1
     ·cases h
   ·split at h
    ·split at h
     ·exact bZ h λa ha=>(aY ha).1
     ·cases h
    ·cases h
 ·split at h
  ·split at h
   ·obtain⟨_,h⟩:=aD h;exact bZ h λa ha=>(bA ha).1
   ·cases h
  ·cases h
 ·split at h
  ·exact cD h
  ·cases h
 ·cases h
theorem M2{i o n:aq}{l:ab af}(h:rd s i o n=ae (l,s')):s.like s':=by
 unfold rd at h;split at h
 ·exact(cK h).1
 ·exact(cK h).1
 ·exact(cK h).1
 ·exact(cK (aD h).2).1
 ·cases h
theorem gU{t:ct}{r:aq->bp (ab af×St)}{v:af}(hq:∀ n l s',r n=ae (l,s')->s.like s')(h:iN P t r=ae (v,s')):s.like s':=by
 unfold iN at h;split at h
 ·cases h
 ·rename_i d _;cases hd:lU d with
  |true=>
   rw[hd] at h;simp only[de] at h;split at h
   ·exact bZ h λa ha=>hq _ _ _ ha
   ·cases h
  |false=>
   rw[hd] at h;simp only[ed] at h;split at h
   ·rename_i hx;cases h;exact hq _ _ _ hx
   ·cases h
theorem pZ{t:ct}{x v:af}(h:pE P s t x=ae (v,s')):s.like s':=by
 unfold pE at h;split at h
 ·exact gU (λn l s' hr=>M2 hr) h
 ·exact gU (λn l s' hr=>(AN hr).1) h
 ·split at h
  ·exact gU (λn l s' hr=>(cK (op:=aa) hr).1) h
  ·cases h
theorem DS{t:ct}{x v:af}(h:vV P s t x v=ae s'):s.sub s':=by
 unfold vV at h;split at h
 ·exact(rJ h).1
 ·split at h
  ·exact tL h
  ·exact jB h
 ·exact jB h
theorem vX{t:ct}{l c v:af}(h:iM P s t l c=ae (v,s')):s.sub s':=by
 unfold iM at h;split at h
 ·split at h
  ·obtain⟨_,h⟩:=aD h;split at h
   ·rename_i hn;have q1:=(bA hn).1.sub;split at h
    ·rename_i hp;have q2:=(cZ hp).sub;obtain⟨_,h⟩:=aD h;refine dy q1 (dy q2 (dZ h λa ha=>?_));unfold FN at ha;simp only[aj] at ha;obtain⟨t,_,rfl⟩:=ha;exact⟨[],rfl⟩
    ·rename_i hp;have q2:=(cZ hp).sub;exact dy q1 (dy q2 (dZ h λa ha=>qT ha))
    ·cases h
   ·cases h
  ·cases h
 ·cases h
theorem BV{t:ct}{x y v:af}(h:nM P s t x y=ae (v,s')):s.sub s':=by
 unfold nM at h;split at h
 ·rename_i r hr;cases h;exact mA hr
 ·split at h
  ·rename_i s1 h1;split at h
   ·rename_i s2 h2;exact dy (t9 h1).1.sub (dy (t9 h2).1.sub (mA h))
   ·cases h
  ·cases h
theorem lY{t:ct}{x k v:af}{ok:cz}(h:jC P s t x k ok=ae (v,s')):s.like s':=by
 have zr:∀{s1:St}{elem:ct},s.like s1->iD P elem ok s1=ae (v,s')->s.like s':=λq h=>by rw[eY h];exact q
 have cl:∀{kk:jl}{n:br}{es:ab ez}{elem:ct},(match qW kk n es 0 s with
   |some (ae (_,v),s')=>ae (zZ v ok,s')
   |some (av,s')=>iD P elem ok s'
   |none=>av)=ae (v,s')->s.like s':=λh=>by
  split at h
  ·rename_i hl;cases h;exact dQ _ _ _ _ _ hl
  ·rename_i hl;exact zr (dQ _ _ _ _ _ hl) h
  ·cases h
 unfold jC at h;split at h
 ·split at h
  ·split at h
   ·exact zr s.like_refl h
   ·dsimp only at h;split at h
    ·exact cl h
    ·cases h
   ·cases h
  ·cases h
 ·unfold rL at h;obtain⟨_,h⟩:=aD h;split at h
  ·split at h
   ·exact zr s.like_refl h
   ·split at h
    ·cases ho:s.opn with
     |true=>
      rw[ho] at h;simp only[de] at h;split at h
      ·rename_i hp;have q1:=(aZ hp).1;split at h
       ·rename_i ho;exact bZ h λa ha=>q1.trans ((cE ho).trans (aY ha).1)
       ·cases h
      ·rename_i hp;exact zr (aZ hp).1 h
      ·cases h
     |false=>
      rw[ho] at h;simp only[ed] at h;split at h
      ·cases h;exact s.like_refl
      ·exact zr s.like_refl h
    ·exact zr s.like_refl h
    ·cases h
   ·cases h
  ·cases h
 ·cases h
theorem nI{t:ct}{m k v:af}(h:gK P s t m k v=ae s'):s.sub s':=by
 unfold gK at h;split at h
 ·split at h
  ·split at h
   ·split at h
    ·rename_i hl;simp only[aj] at h;obtain⟨t,_,rfl⟩:=h;exact(dQ _ _ _ _ _ hl).sub
    ·rename_i hl;split at h
     ·simp only[aj] at h;obtain⟨t,_,rfl⟩:=h;exact(dQ _ _ _ _ _ hl).sub
     ·cases h
    ·cases h
   ·cases h
  ·cases h
 ·unfold FL at h;obtain⟨_,h⟩:=aD h;split at h
  ·split at h
   ·simp only[aj] at h;obtain⟨t,_,rfl⟩:=h;exact⟨[],rfl⟩
   ·cases h
  ·cases h
 ·cases h
theorem vR{ev:im->bp af}{o:gg}{v:af}(h:xL P s ev o=ae (v,s')):s.like s':=by
 unfold xL at h;split at h
 ·exact cD h
 ·exact cD h
 ·split at h
  ·split at h
   ·rename_i hp;exact bZ h λa ha=>(aZ hp).1
   ·rename_i hp;exact bZ h λa ha=>(aZ hp).1
   ·cases h
  ·cases h
 ·split at h
  ·obtain⟨_,h⟩:=aD h;cases h;exact s.like_refl
  ·cases h
 ·split at h
  ·exact HO h
  ·cases h
 ·split at h
  ·obtain⟨_,h⟩:=aD h;exact cD h
  ·cases h
 ·split at h
  ·exact cD h
  ·cases h
 ·split at h
  ·rename_i v1 d _ _;cases hi:(rB d||!(em _ TYM)) with|true=>rw[hi] at h;simp at h|false=>rw[hi] at h;simp only[ed,co,bn] at h;rw[<-h.2];exact s.like_refl
  ·cases h
 ·split at h
  ·cases h;exact s.like_refl
  ·cases h
 ·split at h
  ·exact BP h
  ·cases h
 ·split at h
  ·exact cD h
  ·cases h
 ·split at h
  ·exact cD h
  ·cases h
 ·split at h
  ·exact tW h
  ·cases h
 ·split at h
  ·exact BQ h
  ·cases h
 ·split at h
  ·exact cD h
  ·cases h
 ·split at h
  ·split at h
   ·exact cD h
   ·exact cD h
   ·exact cD h
   ·cases h
  ·cases h
 ·cases h
theorem zK{b:Builtin}{ts:ab ct}{ty:ct}{args:ab af}{v:af}(h:nJ P s b ts ty args=ae (v,s')):s.sub s':=by
 unfold nJ at h;split at h
 ·exact(cD h).sub
 ·rename_i t u x y;cases htu:bx t u with
  |true=>rw[htu] at h;exact BV h
  |false=>
   rw[htu] at h;simp only[ed] at h;split at h
   ·exact rN h
   ·cases h
 ·split at h
  ·obtain⟨_,h⟩:=aD h;cases h;exact s.sub_refl
  ·cases h
 ·obtain⟨_,h⟩:=aD h;exact(cD h).sub
 ·obtain⟨_,h⟩:=aD h;exact(cD h).sub
 ·cases h
theorem zG{ev:im->bp af}{o:gg}{r:HN}(h:hop P s ev o=ae (r,s')):s.sub s':=by
 unfold hop at h;split at h
 ·rename_i hp;cases h;exact(vR hp).sub
 ·split at h
  ·exact dZ h λa ha=>v6 ha
  ·split at h
   ·exact dZ h λa ha=>BT ha
   ·cases h
  ·split at h
   ·exact(cD h).sub
   ·cases h
  ·split at h
   ·exact dZ h λa ha=>mL ha
   ·cases h
  ·split at h
   ·exact dZ h λa ha=>(pZ ha).sub
   ·cases h
  ·split at h
   ·exact dZ h λa ha=>DS ha
   ·cases h
  ·split at h
   ·exact dZ h λa ha=>vX ha
   ·cases h
  ·split at h
   ·refine dZ h λa ha=>?_;unfold rK at ha;simp only[aj] at ha;obtain⟨t,_,rfl⟩:=ha;exact⟨[],rfl⟩
   ·cases h
  ·split at h
   ·exact dZ h λa ha=>(lY ha).sub
   ·cases h
  ·split at h
   ·exact dZ h λa ha=>nI ha
   ·cases h
  ·split at h
   ·exact dZ h λa ha=>nI ha
   ·cases h
  ·split at h
   ·split at h
    ·exact(cD h).sub
    ·cases h
   ·split at h
    ·split at h
     ·obtain⟨_,h⟩:=aD h;cases h;exact s.sub_refl
     ·cases h
    ·cases h
   ·exact dZ h λa ha=>zK ha
   ·cases h
  ·split at h
   ·split at h
    ·cases h;exact s.sub_refl
    ·cases h
   ·cases h
  ·cases h
end
def aE2:af->bp aq
 |.pointer (ae a)=>ae a.block|.map (ae i)=>ae i|_=>av
def jO(P:cq)(s:St)(ev:im->bp af)(o:gg):bp (af×bp (bp aq)×St):=match xL P s ev o with
 |some (v,s')=>ae (v,av,s')
 |none=>match o.op with
  |.load t a=>match ev a with
   |some v=>(pE P s t v).map λr=>(r.1,ae (aE2 v),r.2)
   |none=>av
  |.lookup t x i ok=>match ev x,ev i with
   |some (.map av),ae vi=>(jC P s t (.map av) vi ok).map λr=>(r.1,av,r.2)
   |some (.map (ae j)),ae vi=>(jC P s t (.map (ae j)) vi ok).map λr=>(r.1,ae (ae j),r.2)
   |_,_=>av
  |_=>av
section
variable{w0:Base}{μ:Mu}{s:St}{w:dh}{P:cq}{ev:im->bp af}{ρ:im->af}
def F5(μ:Mu)(w w':dh):bp (bp aq)->aq->Prop
 |none,_=>True|some av,b=>(∃O,μ.fz b=ae O)/\w'.heap[b]? =w.heap[b]?|some (ae i),b=>(∃p,μ i=ae p/\p.blk=b)/\w'.heap[b]? =w.heap[b]?
theorem sU{t:ct}{v r:af}{s':St}(h:pE P s t v=ae (r,s')):(∃a,v=.pointer (ae a))\/∃cs,v=fptr cs:=by
 unfold pE at h;split at h
 ·exact .inl ⟨_,rfl⟩
 ·exact .inl ⟨_,rfl⟩
 ·split at h
  ·rename_i cs hcs;exact .inr ⟨cs,oK hcs⟩
  ·cases h
theorem rD(h:R w0 μ s w)(he:∀ x v,ev x=ae v->VR μ v (ρ x)){o:gg}{v:af}{z:bp (bp aq)}{s':St}(ho:jO P s ev o=ae (v,z,s')):s.like s'/\(SOK s'->∃v' b,(∀ w',F5 μ w w' z b->(execOp ρ o).run P w'=.ok (.value v') w')/\VR μ v v'/\F5 μ w w z b):=by
 unfold jO at ho;split at ho
 ·rename_i v1 s1 hp;simp only[co,bn] at ho;obtain⟨rfl,rfl,rfl⟩:=ho;obtain⟨k1,k2⟩:=tJ h he hp;refine⟨k1,λok=>?_⟩;obtain⟨v',k3,k4⟩:=k2 ok;exact⟨v',0,λw' _=>k3 w',k4,trivial⟩
 ·split at ho
  ·rename_i t a hop;split at ho
   ·rename_i va hva;simp only[aj,bn] at ho;obtain⟨⟨r,s1⟩,hl,rfl,rfl,rfl⟩:=ho;have hvr:=he _ _ hva;obtain⟨k1,k2⟩:=pY h hl hvr;refine⟨k1,λok=>?_⟩;obtain⟨r',b,off,k3,k4,k5,k6⟩:=k2 ok;have aW:∀ w',w'.heap[b]? =w.heap[b]?->(execOp ρ o).run P w'=.ok (.value r') w':=λw' hw'=>by unfold execOp;rw[hop];simp only[cv,(k5 w' hw').1,cj,dw]
    refine⟨r',b,λw' hw'=>aW w' ?_,k4,?_⟩
    ·rcases sU hl with⟨a,rfl⟩|⟨cs,rfl⟩
     ·exact hw'.2
     ·exact hw'.2
    ·rcases k6 with⟨a,p,rfl,hp,hpb⟩|hz
     ·exact⟨⟨p,hp,hpb⟩,rfl⟩
     ·rcases sU hl with⟨a,rfl⟩|⟨cs,rfl⟩
      ·rw[k3] at hvr;cases hvr with|ptr hp=>exact⟨⟨_,hp,rfl⟩,rfl⟩|ptrO hp=>exact⟨⟨_,hp,rfl⟩,rfl⟩
      ·exact⟨hz,rfl⟩
   ·cases ho
  ·rename_i t x i ok' hop;split at ho
   ·rename_i vi hx hvi;simp only[aj,bn] at ho;obtain⟨⟨r,s1⟩,hl,rfl,rfl,rfl⟩:=ho;have hvr:=he _ _ hx;obtain⟨k1,k2⟩:=lN h hl hvr (he _ _ hvi);refine⟨k1,λok=>?_⟩;obtain⟨r',k3,k4⟩:=k2 ok;refine⟨r',0,λw' _=>?_,k4,trivial⟩;have:=k3 w' (λr hr=>by generalize ρ x=vx at hvr hr;cases hvr;cases hr);unfold execOp;rw[hop];simp only[cv,this,cj,dw]
   ·rename_i j vi hx hvi;simp only[aj,bn] at ho;obtain⟨⟨r,s1⟩,hl,rfl,rfl,rfl⟩:=ho;have hvr:=he _ _ hx;obtain⟨k1,k2⟩:=lN h hl hvr (he _ _ hvi);refine⟨k1,λok=>?_⟩;obtain⟨r',k3,k4⟩:=k2 ok;generalize hρx:ρ x=vx at hvr k3;cases hvr with|map hp=>rename_i p;refine⟨r',p.blk,λw' hw'=>?_,k4,⟨p,hp,rfl⟩,rfl⟩;have:=k3 w' (λr hr=>by cases hr;exact hw'.2);unfold execOp;rw[hop];simp only[hρx,cv,this,cj,dw]
   ·cases ho
  ·cases ho
end
def cnt:ab cz->aq
 |[]=>0|true::l=>cnt l+1|false::l=>cnt l
theorem EG:∀ l:ab cz,cnt l<=l.length
 |[]=>cw _|true::l=>Nat.succ_le_succ (EG l)|false::l=>Nat.le_succ_of_le (EG l)
theorem FX:∀(l:ab cz)(i:aq),l[i]? =ae aa->cnt (l.set i au)=cnt l+1
 |[],i,h=>by simp at h
 |b::l,0,h=>by simp at h;subst h;rfl
 |b::l,i+1,h=>by have:=FX l i (by simpa using h);cases b<;>simp[cnt,this]
theorem LD:∀(l:ab cz)(i:aq),l[i]? =ae aa->cnt l<l.length
 |[],i,h=>by simp at h
 |b::l,0,h=>by simp at h;subst h;have:=EG l;simp only[cnt,List.length_cons];omega
 |b::l,i+1,h=>by have:=LD l i (by simpa using h);cases b<;>simp[cnt]<;>omega
section
variable{P:cq}{ops:df gg}{Q:Exit->Act->dh->Prop}{md:Region.Mode}
def cJ(P:cq)(md:Region.Mode)(ops:df gg)(Q:Exit->Act->dh->Prop)(S:df cz->dh->Prop):aq->df cz->Act->dh->Prop
 |0,listed,a,w=>du md ops listed=[]/\Q .normal a w|fuel+1,listed,a,w=>(du md ops listed=[]->Q .normal a w)/\∀ i∈du md ops listed,wpOp P ops Q i (λa' w'=>S (listed.setIfInBounds i au) w'/\cJ P md ops Q S fuel (listed.setIfInBounds i au) a' w') a w
theorem uJ{S:df cz->dh->Prop}:∀(fuel:aq)(listed:df cz)(a:Act)(w:dh),cJ P md ops Q S fuel listed a w->wpAny P md ops Q fuel listed a w
 |0,_,_,_,h=>h|fuel+1,_,_,_,h=>⟨h.1,λi hi=>wpOp_mono (λa' w' h'=>uJ fuel _ a' w' h'.2) (h.2 i hi)⟩
theorem tC{S S':df cz->dh->Prop}{c:aq}(hS:∀ l w,l.getD c aa=au->S' l w->S l w):∀(fuel:aq)(listed:df cz)(a:Act)(w:dh),listed.getD c aa=au->cJ P md ops Q S' fuel listed a w->cJ P md ops Q S fuel listed a w
 |0,_,_,_,_,h=>h|fuel+1,_,_,_,hc,h=>⟨h.1,λi hi=>wpOp_mono (λ_ _ h'=>⟨hS _ _ (getD_set_true hc) h'.1,tC hS fuel _ _ _ (getD_set_true hc) h'.2⟩) (h.2 i hi)⟩
theorem mS{S S':df cz->dh->Prop}(hS:∀ l w,S' l w->S l w):∀(fuel:aq)(listed:df cz)(a:Act)(w:dh),cJ P md ops Q S' fuel listed a w->cJ P md ops Q S fuel listed a w
 |0,_,_,_,h=>h|fuel+1,_,_,_,h=>⟨h.1,λi hi=>wpOp_mono (λ_ _ h'=>⟨hS _ _ h'.1,mS hS fuel _ _ _ h'.2⟩) (h.2 i hi)⟩
def qF(md:Region.Mode)(ops:df gg)(st:aq->cz)(i:aq)(l:df cz):Prop:=∃c,st c=au/\l.getD c aa=au/\fj md ops c i=au
theorem wJ{st:aq->cz}{i j:aq}(hj:st j=aa)(l:df cz):qF md ops st i (l.setIfInBounds j au)↔qF md ops st i l:=by
 constructor
 ·rintro⟨c,h1,h2,h3⟩;have hne:j≠c:=λe=>by subst e;rw[hj] at h1;cases h1
  rw[getD_set_ne aa hne] at h2;exact⟨c,h1,h2,h3⟩
 ·rintro⟨c,h1,h2,h3⟩;exact⟨c,h1,getD_set_true h2,h3⟩
theorem HU{st:aq->cz}{i j:aq}{l:df cz}(h:qF md ops st i l):qF md ops st i (l.setIfInBounds j au):=by obtain⟨c,h1,h2,h3⟩:=h;exact⟨c,h1,getD_set_true h2,h3⟩
theorem yD{st:aq->cz}{i:aq}{oi:gg}{v:af}{T:dh->Prop}{S:df cz->dh->Prop}(hi:ops[i]? =ae oi)(hst:st i=aa)(hsel:∀(j:aq)(o:gg) cs b,ops[j]? =ae o->o.op≠.select cs b)(hQ:∀ c a w,Q (.panic c) (a.put oi.dst v) w->Q (.panic c) a w)(hS:∀ l w,S (l.setIfInBounds i au) w↔S l w):∀(fuel:aq)(listed:df cz)(a:Act)(w:dh),(∀ j oj,ops[j]? =ae oj->j≠i->listed.getD j au=aa->(∀ e∈oj.after,uu md e=au->e.on≠i)->oi.apart ops oj=au)->i∈du md ops listed->¬qF md ops st i listed->YieldsIf P ops T oi v a->T w->S listed w->cJ P md ops Q (λl w=>S l w/\(qF md ops st i l\/T w)) fuel (listed.setIfInBounds i au) (a.put oi.dst v) w->cJ P md ops Q S (fuel+1) listed a w:=by
 intro fuel;induction fuel with
 |zero=>
  intro listed a w _ hr hc hy hT hSw H;refine⟨λh=>(by rw[h] at hr;cases hr),λj hj=>?_⟩;by_cases hji:j=i
  ·subst hji;exact hy.wpOp hi hT ⟨(hS _ _).2 hSw,H⟩
  ·have:=ready_mono hj hji;rw[H.1] at this;cases this
 |succ fuel ih=>
  intro listed a w hfree hr hc hy hT hSw H;refine⟨λh=>(by rw[h] at hr;cases hr),λj hj=>?_⟩;by_cases hji:j=i
  ·subst hji;exact hy.wpOp hi hT ⟨(hS _ _).2 hSw,mS (λ_ _ h=>h.1) _ _ _ _ H⟩
  ·have h1:=H.2 j (ready_mono hj hji);obtain⟨hjun,oj,hoj,hall⟩:=mem_ready.1 hj;have hun:listed.getD i au=false:=(mem_ready.1 hr).1;have hnot:∀ e∈oj.after,uu md e=au->e.on≠i:=λe he hb heq=>by have h1:=hall e he hb;rw[heq,getD_both hun] at h1;cases h1
   have hnw:fj md ops j i=false:=by cases hw:fj md ops j i with|false=>rfl|true=>obtain⟨oj',hj',e,he,hb,heq⟩:=rp hw;rw[hoj] at hj';cases hj';exact cp heq (hnot e he hb)
   have hc':¬qF md ops st i (listed.setIfInBounds j au):=by
    rintro⟨c,k1,k2,k3⟩;by_cases hcj:j=c
    ·subst hcj;rw[hnw] at k3;cases k3
    ·rw[getD_set_ne aa hcj] at k2;exact hc ⟨c,k1,k2,k3⟩
   have h2:=wpOp_putIf hoj (hfree j oj hoj hji hjun hnot) (λcs b=>hsel i oi cs b hi) (λcs b=>hsel j oj cs b hoj) hQ hy h1;have hfree':∀ k ok,ops[k]? =ae ok->k≠i->(listed.setIfInBounds j au).getD k au=aa->(∀ e∈ok.after,uu md e=au->e.on≠i)->oi.apart ops ok=true:=λk ok hk hki hun hno=>by
    refine hfree k ok hk hki ?_ hno;by_cases hjk:j=k
    ·subst hjk;exact hjun
    ·rw[getD_set_ne au hjk] at hun;exact hun
   refine wpOp_mono (λa' w' h3=>?_) h2;obtain⟨hy',⟨hS',hT'⟩,hG⟩:=h3;rw[Array.setIfInBounds_comm _ _ (lv hji)] at hS' hT' hG;have hS'':=(hS _ _).1 hS';have hT'':T w':=by
    rcases hT' with hT'|hT'
    ·exact cp ((wJ hst _).1 hT') hc'
    ·exact hT'
   exact⟨hS'',ih (listed.setIfInBounds j au) a' w' hfree' (ready_mono hr (lv hji)) hc' hy' hT'' hS'' hG⟩
end
section
variable{w0:Base}{μ:Mu}{s:St}{w:dh}{P:cq}{f:HF}{a:Act}
theorem AR.mono{ν:Mu}(hl:μ.le ν)(h:AR μ f a):AR ν f a:=⟨h.size,λd hd hv=>(h.vals d hd hv).mono hl,h.ds.mono hl⟩
theorem jR:VR μ undef undef:=.tuple .nil
theorem eC(h:R w0 μ s w)(ha:AR μ f a):∀ x v,f.ev s x=ae v->VR μ v (a.eval x):=by intro x v hv;cases x with|tmp d=>simp only[HF.ev] at hv;obtain⟨hd,hv⟩:=aD hv;cases hv;simp only[bu,gx] at hd;exact ha.vals d (bN hd.1) hd.2|const u=>simp only[HF.ev] at hv;obtain⟨hd,hv⟩:=aD hv;cases hv;exact j8 4 _ hd|global g=>simp only[HF.ev] at hv;obtain⟨hd,hv⟩:=aD hv;cases hv;obtain⟨p,hp,h1,h2⟩:=h.gl g (bN hd);have:=VR.ptr (o:=0) hp;rw[h1,h2] at this;exact this|func g=>simp only[HF.ev,co] at hv;subst hv;exact .func .nil .nil
theorem cS(ha:AR μ f a){d:bp Tmp}{v v':af}(hv:VR μ v v'){f':HF}(hp:f.put d v=ae f'):AR μ f' (a.put d v'):=by
 cases d with
 |none=>simp only[HF.put,co] at hp;subst hp;exact ha
 |some d=>
  simp only[HF.put] at hp;obtain⟨hd,hp⟩:=aD hp;simp only[aj] at hp;obtain⟨t,ht,rfl⟩:=hp;have hd:=bN hd;have hg:=jh 64 f.t t d v ht;refine⟨by simp[Act.put,ha.size],λe hed=>?_,ha.ds⟩;have hsz:=ha.size;simp only[HF.get,hg];by_cases hde:e=d
  ·subst hde;simp[Act.put,hsz,hd];exact λ_=>hv
  ·rw[eh hde];have:=ha.vals e hed;have e1:(a.put (ae d) v').tmps.getD e undef=a.tmps.getD e undef:=by have hne:d≠e:=λh=>hde h.symm;simp[Act.put,jc,hne]
   rw[e1];exact this
def lX(f:HF)(ops:ab gg)(o:gg)(s:St):bp (cz×St):=match o.guard with
 |none=>ae (au,s)
 |some (j,b)=>match ops[j]? with
  |none=>ae (aa,s)
  |some x=>match x.dst with
   |none=>ae (aa,s)
   |some d=>bif em d f.n then(match f.get d with
     |.bool c=>vB (c==b) s|.tuple _=>ae (aa,s)
     |_=>av) else av
theorem eH(ha:AR μ f a){ops:df gg}{o:gg}{b:cz}{s':St}(h:lX f ops.toList o s=ae (b,s')):s.like s'/\(SOK s'->ly o (yielded ops a.tmps)=b):=by
 unfold lX at h;unfold ly;split at h
 ·rename_i hg;rw[hg];cases h;exact⟨s.like_refl,λ_=>rfl⟩
 ·rename_i j b' hg;rw[hg];dsimp only;unfold yielded;rw[<-Array.getElem?_toList];split at h
  ·rename_i hj;rw[hj];cases h;exact⟨s.like_refl,λ_=>rfl⟩
  ·rename_i x hj;rw[hj];split at h
   ·rename_i hd;simp only[re,hd,Option.bind_none];cases h;exact⟨s.like_refl,λ_=>rfl⟩
   ·rename_i d hd;obtain⟨hdn,h⟩:=aD h;have hdn:=bN hdn;have hv:=ha.vals d hdn;have hsz:d<a.tmps.size:=by rw[ha.size];exact hdn
    simp only[re,hd,mi hsz];have hgd:a.tmps.getD d undef=a.tmps[d]:=by simp[hsz]
    rw[hgd] at hv;generalize a.tmps[d]=u at hv ⊢;split at h
    ·rename_i c hc;rw[hc] at hv;have hv:=hv rfl;cases hv;obtain⟨k1,k2⟩:=aZ h;refine⟨k1,λok=>?_⟩;have:=k2 ok;subst this;cases c<;>cases b'<;>rfl
    ·rename_i l hc;rw[hc] at hv;have hv:=hv rfl;cases hv;cases h;exact⟨s.like_refl,λ_=>rfl⟩
    ·cases h
inductive HX where
 |normal
 |exit (id:aq)
 |ret
def HX.ex:HX->Exit
 |.normal=>.normal|.exit id=>.exit id|.ret=>.ret
def Post(w0:Base)(μ:Mu)(x:HX)(s:St)(f:HF):Exit->Act->dh->Prop:=λe a w=>e=x.ex/\∃μ',μ.le μ'/\R w0 μ' s w/\AR μ' f a
abbrev aS:=ia->ab af->St->bp (af×St)
def aR(P:cq)(call:aS):Prop:=∀(s s':St)(g:ia)(args:ab af)(v:af),call g args s=ae (v,s')->s.sub s'/\(SOK s'->∀(w0:Base)(μ:Mu)(w:dh)(args':ab af),R w0 μ s w->VRs μ args args'->Calls P g ⟨args'⟩ w λe w'=>∃v' μ',e=.returned v'/\μ.le μ'/\R w0 μ' s' w'/\VR μ' v v')
def BN(call:aS)(o:gg)(f:HF):HN×St->bp (St×HF)
 |(.val v,s')=>(f.put o.dst v).map λf'=>(s',f')
 |(.skip,s')=>(f.put o.dst undef).map λf'=>(s',f')
 |(.enter g args,s')=>match call g args s' with
  |some (v,s'')=>(f.put o.dst v).map λf'=>(s'',f')
  |none=>av
 |_=>av
def j4(P:cq)(call:aS)(ops:ab gg)(o:gg)(s:St)(f:HF):bp (St×HF):=match lX f ops o s with
 |none=>av|some (aa,s1)=>(f.put o.dst undef).map λf'=>(s1,f')
 |some (au,s1)=>match hop P s1 (f.ev s1) o with|some r=>BN call o f r|none=>av
theorem vT{call:aS}(hc:aR P call){o:gg}{s':St}{f':HF}{r:HN×St}(ha:AR μ f a)(hs:BN call o f r=ae (s',f')):r.2.sub s'/\(SOK s'->Sim w0 μ w ((execOp a.eval o).run P w) r->∀{K:Act->dh->Prop}{Q:Exit->Act->dh->Prop},(∀(v':af)(w':dh)(μ':Mu),μ.le μ'->R w0 μ' s' w'->AR μ' f' (a.put o.dst v')->K (a.put o.dst v') w')->o.wp P a w K Q):=by
 unfold BN at hs;split at hs
 ·rename_i v s2;simp only[aj,bn] at hs;obtain⟨f2,hf2,rfl,rfl⟩:=hs;refine⟨St.sub_refl _,λ_ hsim K Q hK=>?_⟩;obtain⟨v',w',μ',k1,k2,k3,k4⟩:=hsim;unfold uv;rw[k1,Oper.upon_value];exact hK _ _ _ k2 k3 (cS (ha.mono k2) k4 hf2)
 ·rename_i s2;simp only[aj,bn] at hs;obtain⟨f2,hf2,rfl,rfl⟩:=hs;refine⟨St.sub_refl _,λ_ hsim K Q hK=>?_⟩;obtain⟨w',μ',k1,k2,k3⟩:=hsim;unfold uv;rw[k1,Oper.upon_skip];exact hK _ _ _ k2 k3 (cS (ha.mono k2) jR hf2)
 ·rename_i g args s2;split at hs
  ·rename_i v s3 j5;simp only[aj,bn] at hs;obtain⟨f2,hf2,rfl,rfl⟩:=hs;obtain⟨c1,c2⟩:=hc _ _ _ _ _ j5;refine⟨c1,λok hsim K Q hK=>?_⟩;obtain⟨args',k1,k2,k3⟩:=hsim;unfold uv;rw[k1,Oper.upon_enter];refine(c2 ok w0 μ w args' k2 k3).mono λe w' ⟨v',μ',e1,e2,e3,e4⟩=>?_;subst e1;exact hK _ _ _ e2 e3 (cS (ha.mono e2) e4 hf2)
  ·cases hs
 ·cases hs
theorem BM{call:aS}(hc:aR P call){o:gg}{s':St}{f':HF}{r:HN×St}(hs:BN call o f r=ae (s',f')):r.2.sub s':=by
 unfold BN at hs;split at hs
 ·simp only[aj,bn] at hs;obtain⟨f2,hf2,rfl,rfl⟩:=hs;exact St.sub_refl _
 ·simp only[aj,bn] at hs;obtain⟨f2,hf2,rfl,rfl⟩:=hs;exact St.sub_refl _
 ·split at hs
  ·rename_i v s3 j5;simp only[aj,bn] at hs;obtain⟨f2,hf2,rfl,rfl⟩:=hs;exact(hc _ _ _ _ _ j5).1
  ·cases hs
 ·cases hs
theorem BH(hg:NoG P){call:aS}(hc:aR P call){ops:df gg}{o:gg}{s':St}{f':HF}(h:R w0 μ s w)(ha:AR μ f a)(hs:j4 P call ops.toList o s f=ae (s',f')):s.sub s'/\(SOK s'->∀{K:Act->dh->Prop}{Q:Exit->Act->dh->Prop},(∀(v':af)(w':dh)(μ':Mu),μ.le μ'->R w0 μ' s' w'->AR μ' f' (a.put o.dst v')->K (a.put o.dst v') w')->if ly o (yielded ops a.tmps) then o.wp P a w K Q else K (a.put o.dst undef) w):=by
 unfold j4 at hs;split at hs
 ·cases hs
 ·rename_i s1 hw;obtain⟨q1,q2⟩:=eH ha hw;simp only[aj,bn] at hs;obtain⟨f2,hf2,rfl,rfl⟩:=hs;refine⟨q1.sub,λok K Q hK=>?_⟩;rw[q2 ok,eh qS];exact hK _ _ _ (gk _) (h.like q1) (cS ha jR hf2)
 ·rename_i s1 hw;obtain⟨q1,q2⟩:=eH ha hw;split at hs
  ·rename_i r ho;obtain⟨p1,p2⟩:=sT hg (h.like q1) (eC (h.like q1) ha) ho;obtain⟨r1,r2⟩:=vT (w0:=w0) (w:=w) hc ha hs;refine⟨dy q1.sub (dy p1 r1),λok K Q hK=>?_⟩;have ok1:=gd r1 ok;rw[q2 (gd p1 ok1),fc rfl];exact r2 ok (p2 ok1) hK
  ·cases hs
def jP(P:cq)(call:aS)(ops:ab gg)(o:gg)(s:St)(f:HF):bp (St×HF):=match lX f ops o s with
 |none=>av|some (aa,s1)=>(f.put o.dst undef).map λf'=>(s1,f')
 |some (au,s1)=>match hop P s1 (f.ev s1) o with
  |some (.dfr d,s')=>(({f with ds:=d::f.ds}:HF).put o.dst undef).map λf'=>(s',f')
  |some r=>BN call o f r|none=>av
def pC(P:cq)(call:aS)(ops:ab gg):ab gg->St->HF->bp (St×HF)
 |[],s,f=>ae (s,f)|o::rest,s,f=>match jP P call ops o s f with|some (s',f')=>pC P call ops rest s' f'|none=>av
theorem rE(hg:NoG P){call:aS}(hc:aR P call){ops:df gg}{o:gg}{s':St}{f':HF}(h:R w0 μ s w)(ha:AR μ f a)(hs:jP P call ops.toList o s f=ae (s',f')):s.sub s'/\(SOK s'->∀{K:Act->dh->Prop}{Q:Exit->Act->dh->Prop},(∀(a':Act)(w':dh)(μ':Mu),μ.le μ'->R w0 μ' s' w'->AR μ' f' a'->K a' w')->if ly o (yielded ops a.tmps) then o.wp P a w K Q else K (a.put o.dst undef) w):=by
 unfold jP at hs;split at hs
 ·cases hs
 ·rename_i s1 hw;obtain⟨q1,q2⟩:=eH ha hw;simp only[aj,bn] at hs;obtain⟨f2,hf2,rfl,rfl⟩:=hs;refine⟨q1.sub,λok K Q hK=>?_⟩;rw[q2 ok,eh qS];exact hK _ _ _ (gk _) (h.like q1) (cS ha jR hf2)
 ·rename_i s1 hw;obtain⟨q1,q2⟩:=eH ha hw;split at hs
  ·rename_i d s2 ho;obtain⟨p1,p2⟩:=sT hg (h.like q1) (eC (h.like q1) ha) ho;simp only[aj,bn] at hs;obtain⟨f2,hf2,rfl,rfl⟩:=hs;refine⟨dy q1.sub p1,λok K Q hK=>?_⟩;rw[q2 (gd p1 ok),fc rfl];obtain⟨cap',args',k1,k2,k3,k4⟩:=p2 ok;unfold uv;rw[k1,Oper.upon_defer];have ha2:AR μ {f with ds:=d::f.ds} {a with defers:={target:=.fn d.fn ⟨cap'⟩,args:=⟨args'⟩}::a.defers}:=⟨ha.size,ha.vals,.cons k3 k4 ha.ds⟩;exact hK _ _ _ (gk _) k2 (cS ha2 jR hf2)
  ·rename_i r _ ho;obtain⟨p1,p2⟩:=sT hg (h.like q1) (eC (h.like q1) ha) ho;obtain⟨r1,r2⟩:=vT (w0:=w0) (w:=w) hc ha hs;refine⟨dy q1.sub (dy p1 r1),λok K Q hK=>?_⟩;have ok1:=gd r1 ok;rw[q2 (gd p1 ok1),fc rfl];exact r2 ok (p2 ok1) λv' w' μ'=>hK _ w' μ'
  ·cases hs
theorem dR{ops:ab gg}{o:gg}{b:cz}{s':St}(h:lX f ops o s=ae (b,s')):s.like s':=by
 unfold lX at h;split at h
 ·cases h;exact s.like_refl
 ·split at h
  ·cases h;exact s.like_refl
  ·split at h
   ·cases h;exact s.like_refl
   ·obtain⟨_,h⟩:=aD h;split at h
    ·exact(aZ h).1
    ·cases h;exact s.like_refl
    ·cases h
theorem vJ{s s':St}{x:bp HF}{f':HF}(h:(x.map λf=>(s,f))=ae (s',f')):s.sub s':=by simp only[aj,bn] at h;obtain⟨_,_,rfl,_⟩:=h;exact s.sub_refl
theorem HJ{call:aS}(hc:aR P call){ops:ab gg}{o:gg}{s':St}{f':HF}(hs:j4 P call ops o s f=ae (s',f')):s.sub s':=by
 unfold j4 at hs;split at hs
 ·cases hs
 ·rename_i s1 hw;exact dy (dR hw).sub (vJ hs)
 ·rename_i s1 hw;split at hs
  ·rename_i r ho;obtain⟨r1,r2⟩:=r;exact dy (dR hw).sub (dy (zG ho) (BM hc hs))
  ·cases hs
theorem DQ{call:aS}(hc:aR P call){ops:ab gg}{o:gg}{s':St}{f':HF}(hs:jP P call ops o s f=ae (s',f')):s.sub s':=by
 unfold jP at hs;split at hs
 ·cases hs
 ·rename_i s1 hw;exact dy (dR hw).sub (vJ hs)
 ·rename_i s1 hw;split at hs
  ·rename_i d s2 ho;exact dy (dR hw).sub (dy (zG ho) (vJ hs))
  ·rename_i r _ ho;obtain⟨r1,r2⟩:=r;exact dy (dR hw).sub (dy (zG ho) (BM hc hs))
  ·cases hs
theorem BI{call:aS}(hc:aR P call){ops:ab gg}:∀(l:ab gg)(s s':St)(f f':HF),pC P call ops l s f=ae (s',f')->s.sub s':=by
 intro l;induction l with
 |nil=>intro s s' f f' h;cases h;exact s.sub_refl
 |cons o rest ih=>
  intro s s' f f' h;simp only[pC] at h;split at h
  ·rename_i s1 f1 h1;exact dy (DQ hc h1) (ih _ _ _ _ h)
  ·cases h
theorem DR(hg:NoG P){call:aS}(hc:aR P call){ops:df gg}{μ0:Mu}:∀(l:ab gg)(μ:Mu)(s s':St)(w:dh)(f f':HF)(a:Act),μ0.le μ->R w0 μ s w->AR μ f a->pC P call ops.toList l s f=ae (s',f')->SOK s'->wpList P ops (Post w0 μ0 .normal s' f') l a w:=by
 intro l;induction l with
 |nil=>intro μ s s' w f f' a hμ h ha hr _;simp only[pC,co,bn] at hr;obtain⟨rfl,rfl⟩:=hr;exact⟨rfl,μ,hμ,h,ha⟩
 |cons o rest ih=>
  intro μ s s' w f f' a hμ h ha hr ok;simp only[pC] at hr;split at hr
  ·rename_i s1 f1 hs1;refine wpList_step λK hK=>?_;obtain⟨q1,q2⟩:=rE (w0:=w0) hg hc h ha hs1;exact q2 (gd (BI hc _ _ _ _ _ hr) ok) λa' w' μ' k1 k2 k3=>hK _ _ (ih μ' _ s' w' _ f' _ (no hμ k1) k2 k3 hr ok)
  ·cases hr
def eK(s:St):ab (aq×bp aq)->bp (St×ab (aq×gh))
 |[]=>ae (s,[])|(_,av)::l=>eK s l
 |(_,ae z)::l=>match s.h.get z with
  |some o=>match tF o with
   |some o'=>match ki 64 s.h z o' with
    |some t=>match eK {s with h:=t} l with
     |some (s',r)=>ae (s',(z,o)::r)|none=>av
    |none=>av
   |none=>match o with|.ro _=>eK s l|.lk _ _=>eK s l|.rm _ _=>eK s l|_=>av
  |none=>av
def fA(s:St):ab (aq×gh)->bp St
 |[]=>ae s
 |(z,o)::l=>match fA s l with
  |some s'=>match ki 64 s'.h z o with
   |some t=>ae {s' with h:=t}|none=>av
  |none=>av
theorem DE:∀(l:ab (aq×bp aq))(s s1:St)(r:ab (aq×gh)),eK s l=ae (s1,r)->s1.pc=s.pc:=by
 intro l;induction l with
 |nil=>intro s s1 r h;cases h;rfl
 |cons x l ih=>
  obtain⟨i,z⟩:=x;intro s s1 r h;cases z with
  |none=>exact ih _ _ _ h
  |some z=>
   simp only[eK] at h;split at h
   ·split at h
    ·split at h
     ·split at h
      ·rename_i hl;cases h;have:=ih _ _ _ hl;exact this
      ·cases h
     ·cases h
    ·split at h
     ·exact ih _ _ _ h
     ·exact ih _ _ _ h
     ·exact ih _ _ _ h
     ·cases h
   ·cases h
theorem qJ:∀(r:ab (aq×gh))(s s1:St),fA s r=ae s1->s1.pc=s.pc:=by
 intro r;induction r with
 |nil=>intro s s1 h;cases h;rfl
 |cons x r ih=>
  obtain⟨z,o⟩:=x;intro s s1 h;simp only[fA] at h;split at h
  ·rename_i s2 hl;split at h
   ·cases h;exact(ih s s2 hl)
   ·cases h
  ·cases h
theorem wV:∀(l:ab (aq×bp aq))(w0:Base)(s s1:St)(r:ab (aq×gh)),R w0 μ s w->eK s l=ae (s1,r)->∃w1:Base,R w1 μ s1 w/\(∀ w':dh,w1.ok w'->w0.ok w'/\∀ x∈l,∀ i p,x.2=ae i->μ i=ae p->(w'.heap[p.blk]? =w.heap[p.blk]?\/∃O,μ.fz p.blk=ae O))/\∀(μ':Mu)(s2 s3:St)(w':dh),μ.le μ'->R w1 μ' s2 w'->fA s2 r=ae s3->R w0 μ' s3 w':=by
 intro l;induction l with
 |nil=>intro w0 s s1 r h hr;cases hr;exact⟨w0,h,λw' hw=>⟨hw,λx hx=>by cases hx⟩,λμ' s2 s3 w' _ h' hu=>by cases hu;exact h'⟩
 |cons x l ih=>
  obtain⟨i,z⟩:=x;intro w0 s s1 r h hr;cases z with
  |none=>
   simp only[eK] at hr;obtain⟨w1,k1,k2,k3⟩:=ih w0 s s1 r h hr;refine⟨w1,k1,λw' hw=>?_,k3⟩;obtain⟨m1,m2⟩:=k2 w' hw;refine⟨m1,λx hx j q hj hq=>?_⟩;rcases ci.1 hx with rfl|hx
   ·cases hj
   ·exact m2 x hx j q hj hq
  |some z=>
  simp only[eK] at hr;split at hr
  ·rename_i o ho;split at hr
   ·rename_i o' ho';split at hr
    ·rename_i t ht;split at hr
     ·rename_i s' r' hl;cases hr;have hp:∃p,μ z=ae p:=by
       rcases gQ ho' with⟨op,c,e,rfl,rfl⟩|⟨es,k,rfl,rfl⟩
       ·obtain⟨p,_,h1,_⟩:=h.row z _ _ _ ho;exact⟨p,h1⟩
       ·obtain⟨p,_,h1,_⟩:=h.map z _ _ ho;exact⟨p,h1⟩
      obtain⟨p,hp⟩:=hp;have hb:=h.blk_lt ho ho' hp;have hL:=h.lock ho ho' ht hp hb;obtain⟨w1,k1,k2,k3⟩:=ih _ _ _ _ hL hl;refine⟨w1,k1,λw' hw=>?_,λμ' s2 s3 w' hle h' hu=>?_⟩
      ·obtain⟨m1,m2⟩:=k2 w' hw;refine⟨m1.1,λx hx j q hj hq=>?_⟩;rcases ci.1 hx with rfl|hx
       ·cases hj;rw[hp] at hq;cases hq;exact .inl m1.2.2
       ·exact m2 x hx j q hj hq
      ·simp only[fA] at hu;split at hu
       ·rename_i s4 hs4;split at hu
        ·rename_i t2 ht2;cases hu;exact h.unlock ho ho' hp hb (k3 μ' s2 s4 w' hle h' hs4) hle ht2
        ·cases hu
       ·cases hu
     ·cases hr
    ·cases hr
   ·have skip:∀(hh:eK s l=ae (s1,r))(hs:∀ w':dh,w0.ok w'->∀ p,μ z=ae p->(w'.heap[p.blk]? =w.heap[p.blk]?\/∃O,μ.fz p.blk=ae O)),∃w1:Base,R w1 μ s1 w/\(∀ w':dh,w1.ok w'->w0.ok w'/\∀ x∈(i,ae z)::l,∀ i p,x.2=ae i->μ i=ae p->(w'.heap[p.blk]? =w.heap[p.blk]?\/∃O,μ.fz p.blk=ae O))/\∀(μ':Mu)(s2 s3:St)(w':dh),μ.le μ'->R w1 μ' s2 w'->fA s2 r=ae s3->R w0 μ' s3 w':=by
     intro hh hs;obtain⟨w1,k1,k2,k3⟩:=ih _ _ _ _ h hh;refine⟨w1,k1,λw' hw=>?_,k3⟩;obtain⟨m1,m2⟩:=k2 w' hw;refine⟨m1,λx hx j q hj hq=>?_⟩;rcases ci.1 hx with rfl|hx
     ·cases hj;exact hs w' m1 q hq
     ·exact m2 x hx j q hj hq
    split at hr
    ·refine skip hr λw' hw p hp=>?_;obtain⟨q,cur,e,fr,h1,h2,_⟩:=h.ro z _ ho;rw[hp] at h1;cases h1;exact .inr ⟨_,h2⟩
    ·refine skip hr λw' hw p hp=>?_;obtain⟨q,cur,e,h1,h2,_⟩:=h.lk z _ _ ho;rw[hp] at h1;cases h1;exact .inl (w0.lkok _ _ _ _ h.below hw h2)
    ·refine skip hr λw' hw p hp=>?_;obtain⟨q,_,h1,h2,_⟩:=h.rm z _ _ ho;rw[hp] at h1;cases h1;exact .inl (w0.lkok _ _ _ _ h.below hw h2)
    ·cases hr
  ·cases hr
end
inductive PK where
 |pure
 |alloc
 |act
def R7:Op->PK
 |.move _=>.pure|.assign _=>.pure|.pick _ _ _=>.pure|.nilCheck _=>.pure|.load _ _=>.pure|.lookup _ _ _ _=>.pure|.binOp _ _ _ _ _=>.pure|.unOp _ _ _=>.pure|.convert _ _ _=>.pure|.fieldAddr _ _ _=>.pure|.field _ _ _=>.pure|.indexAddr _ _ _=>.pure|.index _ _ _=>.pure|.extract _ _=>.pure|.makeInterface _ _=>.pure|.makeFunc _ _ _=>.pure|.slice _ _ _ _ _=>.pure
 |.call c=>match c.callee with
  |.builtin .len=>.pure|_=>.act
 |.alloc _=>.alloc|.makeMap _ av=>.alloc|.buildSlice _ _ _=>.alloc|.makeSlice _ _ _=>.alloc|_=>.act
def SU(o:gg):PK:=match R7 o.op,o.guard with|.alloc,ae _=>.act|k,_=>k
def isK(ops:df gg)(i:aq)(k:PK->cz):Bool:=match ops[i]? with|some o=>k (SU o)|none=>aa
def eZ(ops:df gg)(i:aq):Bool:=isK ops i λ|.act=>au|_=>aa
def CY(ops:df gg)(i:aq):Bool:=isK ops i λ|.pure=>au|_=>aa
def PB(ops:df gg)(i:aq):Bool:=isK ops i λ|.alloc=>au|_=>aa
inductive PS where
 |take (i:aq)
 |st (c:aq)
 |flt (k:aq)
 |lit (a b c:aq)
 |com (k:aq)
 |fly (i:aq)
 |ext (k i:aq)
 |ml (a i j c d:aq)
inductive FV where
 |ptr
 |map
 |sl (n c:aq)
 |chain (d:aq) (v:af) (l:ab (aq×aq×af))
def FV.val:FV->aq->af
 |.chain _ _ _,_=>.pointer av|.ptr,i=>.pointer (ae ⟨i,0,av⟩)|.map,i=>.map (ae i)|.sl n c,i=>.slice (ae ⟨i,0,av⟩) n c
structure GK where
 k:aq
 o:gh
 v:FV
 lt:bp (aq×aq×af)
def GK.ops(g:GK):ab Nat:=match g.v with|.chain _ _ l=>g.k::l.map (·.1)|_=>match g.lt with|some (b,c,_)=>[g.k,b,c]|none=>[g.k]
def GK.last(g:GK):Nat:=match g.lt with|some (_,c,_)=>c|none=>g.k
def GK.ch(g:GK):ab (aq×aq×af):=match g.v with|.chain d v l=>(g.k,d,v)::l|_=>[]
def cG:ab GK->ab aq
 |[]=>[]|g::K=>g.ops++cG K
def bG(L:df cz):ab aq->df cz
 |[]=>L|i::l=>bG (L.setIfInBounds i au) l
def bV(ops:df gg)(i k:aq):Bool:=match ops[i]?,ops[k]? with|some oi,ae ok=>oi.apart ops ok|_,_=>aa
def gI(l:ab aq)(i:aq):Bool:=l.any (bx i)
theorem hasN_iff{l:ab aq}{i:aq}:gI l i=au↔i∈l:=by unfold gI;rw[List.any_eq_true];exact⟨λ⟨x,h1,h2⟩=>by rw[(aI _ _).1 h2];exact h1,λh=>⟨i,h,(aI _ _).2 rfl⟩⟩
def idxOf?(ops:df gg)(d:aq)(b:aq):Bool:=match ops[b]? with
 |some ob=>match ob.op,ob.guard with
  |.indexAddr _ (.tmp d') _,av=>bx d' d|_,_=>aa
 |none=>aa
def NP(ops:df gg)(d:aq)(c:aq):Bool:=match ops[c]? with
 |some oc=>match oc.op,oc.guard with
  |.load _ (.tmp d'),av=>bx d' d|_,_=>aa
 |none=>aa
def eM(ops:df gg)(i:aq):bp Nat:=match ops[i]? with|some o=>o.dst|none=>av
def W9(ops:df gg)(k:aq):bp (aq×aq):=match ops[k]? with
 |some ok=>match ok.op with
  |.buildSlice _ _ _=>match eM ops k with
   |some d=>match(mf ops.size).find? (idxOf? ops d) with
    |some b=>match eM ops b with
     |some db=>match(mf ops.size).find? (NP ops db) with
      |some c=>ae (b,c)|none=>av
     |none=>av
    |none=>av
   |none=>av
  |_=>av
 |none=>av
abbrev KS:=ab (aq×cz×ab aq)
def mJ(K:KS):ab Nat:=K.flatMap λx=>x.1::x.2.2
def PW(x:aq×cz×ab aq):Nat:=(x.2.2.getLast?).getD x.1
def SQ(ops:df gg)(L:df cz)(K:KS)(x:aq×cz×ab aq):bp (aq×aq×aq):=match x.2 with
 |(aa,[])=>match W9 ops x.1 with
  |some (b,c)=>bif (du .any ops (bG L [x.1])).contains b&&!gI (mJ K) b&&!gI (mJ K) c then ae (x.1,b,c) else av
  |none=>av
 |_=>av
def S2(o:gg):Bool:=match o.op with
 |.call c=>match c.callee with
  |.builtin _=>aa|_=>au
 |_=>aa
def aEZ(o:gg):Bool:=match o.op with|.load _ _=>au|.lookup _ _ _ _=>au|_=>aa
def H2(ops:df gg):aq->aq->aq->cz
 |0,_,_=>aa
 |n+1,c,i=>match ops[c]? with
  |some o=>o.after.any λe=>bx e.on i||H2 ops n e.on i
  |none=>aa
def P2(ops:df gg)(L:df cz)(i:aq):Bool:=match ops[i]? with
 |some o=>aEZ o&&o.guard.isNone&&o.dst.isSome&&(mf ops.size).any λc=>!(L.getD c aa)&&!(H2 ops 12 c i)&&match ops[c]? with
  |some oc=>S2 oc|none=>aa
 |none=>aa
def NJ(ops:df gg)(i:aq):Bool:=match ops[i]? with|some o=>o.guard.isNone&&o.dst.isSome|none=>aa
def TR(ops:df gg)(L:df cz)(K:KS)(x:aq×cz×ab aq):bp (aq×aq):=match x.2 with
 |(au,l)=>((du .any ops (bG L (x.1::l))).find? λi=>CY ops i&&NJ ops i&&!gI (mJ K) i&&!(du .any ops L).contains i&& (mJ K).all λj=>gI (x.1::l) j||(bV ops i j&&bV ops j i)).map λi=>(x.1,i)
 |_=>av
def FE(ops:df gg)(L:df cz)(a i j c d:aq):Bool:=let r:=λl=>du .any ops (bG L l)
 (r []).all (bx a)&&(r []).contains a&&(r [a]).all (gI [i,j])&&(r [a]).contains i&&(r [a,i]).all (bx j)&&(r [a,i]).contains j&&(r [a,j]).all (bx i)&&(r [a,j]).contains i&& (r [a,i,j]).all (bx c)&&(r [a,i,j]).contains c&&(r [a,i,j,c]).all (bx d)&&(r [a,i,j,c]).contains d&&!bx i j
def WY(ops:df gg)(L:df cz)(K:KS):bp (aq×aq×aq×aq×aq):=match K,du .any ops L with
 |[],[a]=>match ops[a]?,du .any ops (bG L [a]) with
  |some ⟨_,.makeMap _ av,_,_,_,_⟩,[i,j]=>match du .any ops (bG L [a,i,j]) with
   |[c]=>match du .any ops (bG L [a,i,j,c]) with
    |[d]=>bif FE ops L a i j c d then ae (a,i,j,c,d) else av
    |_=>av
   |_=>av
  |_,_=>av
 |_,_=>av
def PU(oa oi oj oc od:gg):bp (ct×aq×jl×br×af×br×af×aq×im×aq):=match oa.op,oi.op,oj.op,oc.op,od.op,oa.dst,oc.dst,od.dst with
 |.makeMap _ av,.insert t1 (.tmp m1) (.const (.int k1 n1)) (.const v1),.insert t2 (.tmp m2) (.const (.int k2 n2)) (.const v2),.move (.tmp m3),.lookup t3 (.tmp m4) key aa,ae da,ae dc,ae dd=>bif oa.guard.isNone&&oi.guard.isNone&&oj.guard.isNone&&oc.guard.isNone&&od.guard.isNone&&oi.dst.isNone&&oj.dst.isNone&&bx t2 t1&&bx t3 t1&&bx m1 da&&bx m2 da&&bx m3 da&&bx m4 dc&& decide (k2=k1)&&decide (n2≠n1) then ae (t1,da,k1,n1,v1,n2,v2,dc,key,dd) else av
 |_,_,_,_,_,_,_,_=>av
def dcl(ops:df gg):ab aq->ab aq->ab aq
 |acc,[]=>acc|acc,j::l=>dcl ops (bif acc.any (λa=>fj .any ops j a) then j::acc else acc) l
def yM(ops:df gg)(fl:cz):aq->df cz->KS->ab PS
 |0,_,_=>[]
 |n+1,L,K=>match(du .any ops L).find? (λi=>CY ops i&&Region.free .any ops L i&&!(fl&&P2 ops L i)&&!gI (mJ K) i&&(mJ K).all (bV ops i)) with
  |some i=>.take i::yM ops fl n (L.setIfInBounds i au) K
  |none=>match(du .any ops L).find? (λi=>fl&&CY ops i&&P2 ops L i&&!gI (mJ K) i&&(mJ K).all λj=>bV ops i j&&bV ops j i) with
   |some i=>.fly i::yM ops fl n L ((i,au,[])::K)
   |none=>match K.findSome? (TR ops L K) with
    |some (k,i)=>.ext k i::yM ops fl n L (K.map λx=>bif bx x.1 k then(k,au,x.2.2++[i]) else x)
    |none=>match WY ops L K with
     |some (a,i,j,c,d)=>.ml a i j c d::yM ops fl n (bG L [a,i,j,c,d]) K
     |none=>match(du .any ops L).find? (λi=>PB ops i&&!gI (mJ K) i) with
     |some k=>.flt k::yM ops fl n L ((k,aa,[])::K)
     |none=>match K.findSome? (SQ ops L K) with
      |some (a,b,c)=>.lit a b c::yM ops fl n L (K.map λx=>bif bx x.1 a then(a,aa,[b,c]) else x)
      |none=>match(du .any ops (bG L (mJ K))) with
       |[c]=>bif (du .any ops L).contains c then .st c::yM ops fl n (L.setIfInBounds c au) K else planC ops fl n L K
       |_=>planC ops fl n L K
 where planC (ops:df gg) (fl:cz):aq->df cz->KS->ab PS
 |0,_,_=>[]
 |n+1,L,K=>match K.find? (λx=>match x.2.1 with
   |true=>(x.1::x.2.2).all λe=>(du .any ops (bG L ((mJ K).filter λj=>!gI (dcl ops [e] (x.1::x.2.2)) j))).all (gI (x.1::x.2.2))
   |false=>(du .any ops (bG L ((mJ K).filter λj=>!bx j (PW x)))).all (bx (PW x))) with
   |some x=>.com x.1::yM ops fl n (bG L (x.1::x.2.2)) (K.filter λy=>!bx y.1 x.1)|none=>[]
def yR(ops:df gg)(K:ab GK)(L:df cz)(i:aq):Bool:=(du .any ops L).contains i&&Region.free .any ops L i&&!eZ ops i&&((mf ops.size).all λc=>!(eZ ops c&&L.getD c aa&&fj .any ops c i))&& !gI (cG K) i&&(cG K).all (bV ops i)
def SA(ops:df gg)(K:ab GK)(L:df cz)(c:aq):Bool:=eZ ops c&&(du .any ops L).contains c&&(du .any ops (bG L (cG K))).all (bx c)&&!gI (cG K) c&&(cG K).all (bV ops c)
def JU(ops:df gg)(K:ab GK)(L:df cz)(g:GK):Bool:=match g.v with
 |.chain _ _ _=>g.ops.all λe=>(du .any ops (bG L ((cG K).filter λj=>!gI (dcl ops [e] g.ops) j))).all (gI g.ops)
 |_=>(du .any ops (bG L ((cG K).filter λj=>!bx j g.last))).all (bx g.last)
def veq:af->af->cz
 |.bool a,.bool b=>a==b|.int k n,.int k' n'=>decide (k=k')&&n==n'|.pointer (ae ⟨i,o,av⟩),.pointer (ae ⟨i',o',av⟩)=>bx i i'&&bx o o'|.pointer av,.pointer av=>au|.slice (ae ⟨i,o,av⟩) n c,.slice (ae ⟨i',o',av⟩) n' c'=>bx i i'&&bx o o'&&bx n n'&&bx c c'|.slice av n c,.slice av n' c'=>bx n n'&&bx c c'|.map (ae i),.map (ae i')=>bx i i'|_,_=>aa
def IS(v v':af)(s:St):bp St:=bif s.opn then dK (v=v') s else bif veq v v' then ae s else av
def evC(ops:df gg)(s:St)(f:HF)(l:ab (aq×aq×af))(i:aq)(x:im):bp Value:=match f.ev s x with|some v=>ae v|none=>match x with|.tmp d=>(l.find? λy=>bx y.2.1 d&&fj .any ops i y.1).map (·.2.2)|_=>av
def MU(P:cq)(ops:df gg)(f:HF)(l:ab (aq×aq×af)):ab (aq×aq×af)->St->bp St
 |[],s=>ae s
 |y::r,s=>match ops[y.1]? with
  |some o=>match jO P s (evC ops s f l y.1) o with
   |some (v,_,s1)=>match IS v y.2.2 s1 with
    |some s2=>MU P ops f l r s2|none=>av
   |none=>av
  |none=>av
def E3(P:cq)(ops:df gg)(f:HF):ab GK->St->bp St
 |[],s=>ae s|g::K,s=>match MU P ops f g.ch g.ch s with|some s'=>E3 P ops f K s'|none=>av
def u6:ab (aq×aq×af)->HF->bp HF
 |[],f=>ae f|y::l,f=>match f.put (ae y.2.1) y.2.2 with|some f'=>u6 l f'|none=>av
def KH(s:St)(z:aq):Bool:=match s.h.get z with|some (.row _ _ _)=>au|some (.ro _)=>au|some (.lk _ _)=>au|some (.map _ _)=>au|some (.rm _ _)=>au|some (.fmap _)=>au|_=>aa
def XW(s:St):bp (bp aq)->cz
 |some (ae z)=>KH s z|_=>au
def V9(i:aq)(pend:ab (aq×bp aq)):bp (bp aq)->ab (aq×bp aq)
 |some z=>(i,z)::pend|none=>pend
def BR(P:cq)(s:St)(f:HF)(o:gg):bp (gh×FV×St):=match o.op with
 |.alloc e=>(mG P e).map λz=>(.row aa z e,.ptr,s)
 |.makeMap _ av=>ae (.map [] 0,.map,s)
 |.buildSlice t n ps=>match pU (f.ev s) ps.toList,P.underlying t with
  |some l,ae (.slice e)=>match P.info? e,mG P e with
   |some i,ae z=>bif dg (n*i.size) 16777216&&bx z.length i.size&&em 0 i.size&&em n UNK then
     (ny (λj=>ae (j*i.size,i.size)) ⟨rep n z⟩ l).map λcs=>(.row aa cs.toList e,.sl n n,s)
    else av
   |_,_=>av
  |_,_=>av
 |.makeSlice t l c=>match f.ev s l,f.ev s c,P.underlying t with
  |some (.int _ n),ae (.int _ k),ae (.slice e)=>match P.info? e,mG P e with
   |some i,ae z=>bif bx z.length i.size then
     match mR (decide (0<=n)&&decide (n<=k)&&dg (i.bytes*k.toNat) 281474976710656&&dg k.toNat 1000000000) s with
     |some s1=>match G8 s1 with
      |some (au,s2)=>bif z.all (idf 0) then ae (.row au (rep k.toNat z) e,.sl n.toNat (UNK+i.size),s2) else av
      |some (aa,s2)=>ae (.row aa (rep k.toNat z) e,.sl n.toNat k.toNat,s2)|none=>av
     |none=>av
    else av
   |_,_=>av
  |_,_,_=>av
 |_=>av
def isT(d:aq):im->cz
 |.tmp e=>bx e d|_=>aa
def KL(P:cq)(ops:df gg)(s:St)(f:HF)(d:aq)(g:GK)(b c:aq):bp (aq×aq×af×St):=match ops[b]?,ops[c]?,g.o,g.v with
 |some ob,ae oc,.row aa cs _,.sl len cap=>match ob.op,ob.guard,ob.dst,oc.op,oc.guard,oc.dst with
  |.indexAddr t (.tmp d') idx,av,ae db,.load tt (.tmp db'),av,ae dc=>match P.underlying t,f.ev s idx with
   |some (.slice e),ae (.int _ n)=>match P.info? e with
    |some i=>bif bx d' d&&bx db' db&&em cap UNK&&!(bx d db)&&!(bx d dc)&&!(bx db dc)&&!isT d idx&&!isT db idx&&!isT dc idx then
      match mR (decide (0<=n)&&decide (n.toNat<len)) s with
      |some s1=>match iN P tt λm=>rdX s1.opn cs (n.toNat*i.size) m s1 with
       |some (v0,s2)=>bif bD 6 v0 then ae (db,dc,v0,s2) else av
       |none=>av
      |none=>av
     else av
    |none=>av
   |_,_=>av
  |_,_,_,_,_,_=>av
 |_,_,_,_=>av
def hMl(P:cq)(ops:df gg)(s:St)(f:HF)(a i j c d:aq):bp HF:=match ops[a]?,ops[i]?,ops[j]?,ops[c]?,ops[d]? with
 |some oa,ae oi,ae oj,ae oc,ae od=>match PU oa oi oj oc od with
  |some (t,da,k1,n1,v1,n2,v2,dc,key,dd)=>match P.underlying t,f.ev s key with
   |some (.map kt _),ae (.int k3 n3)=>match P.underlying kt,(bif decide (n3=n1) then ae v1 else bif decide (n3=n2) then ae v2 else av:bp af) with
    |some (.int _),ae r=>match f.put (ae da) hvc with
     |some f1=>match f1.put (ae dc) hvc with
      |some f2=>bif decide (k3=k1)&&!(isT da key)&&!(isT dc key)&&!(bx da dc)&&bD 2 r&&em da f.n&&em dc f.n&&em dd f.n then f2.put (ae dd) r else av
      |none=>av
     |none=>av
    |_,_=>av
   |_,_=>av
  |none=>av
 |_,_,_,_,_=>av
def gT{α:Type}(P:cq)(ops:df gg)(K:ab GK)(f:HF)(s:St)(k:St->bp α):bp α:=match E3 P ops f K s with|some s'=>k s'|none=>av
def bU(P:cq)(call:aS)(ops:df gg):ab PS->df cz->ab GK->ab (aq×bp aq)->St->HF->bp (St×HF)
 |[],L,K,_,s,f=>bif (du .any ops L).isEmpty&&K.isEmpty then ae (s,f) else av
 |.take i::r,L,K,pend,s,f=>match ops[i]? with
  |none=>av
  |some o=>bif yR ops K L i then
    match lX f ops.toList o s with
    |none=>av
    |some (aa,s1)=>match f.put o.dst undef with
     |some f'=>gT P ops K f' s1 λs3=>bU P call ops r (L.setIfInBounds i au) K pend s3 f'
     |none=>av
    |some (au,s1)=>match jO P s1 (f.ev s1) o with
     |some (v,z,s2)=>match f.put o.dst v with
      |some f'=>bif XW s2 z then gT P ops K f' s2 λs3=>bU P call ops r (L.setIfInBounds i au) K (V9 i pend z) s3 f' else av
      |none=>av
     |none=>av
   else av
 |.st c::r,L,K,pend,s,f=>match ops[c]? with
  |none=>av
  |some o=>bif SA ops K L c then
    match eK s (pend.filter λx=>!fj .any ops c x.1) with
    |some (s1,rs)=>match j4 P call ops.toList o s1 f with
     |some (s2,f2)=>match fA s2 rs with
      |some s3=>gT P ops K f2 s3 λs4=>bU P call ops r (L.setIfInBounds c au) K (pend.filter λx=>!fj .any ops c x.1) s4 f2
      |none=>av
     |none=>av
    |none=>av
   else av
 |.flt k::r,L,K,pend,s,f=>match ops[k]? with
  |none=>av
  |some ok=>bif (du .any ops L).contains k&&!eZ ops k&&!gI (cG K) k&&(cG K).all (λj=>bV ops k j&&bV ops j k) then
    match ok.guard,ok.dst with
    |none,ae d=>match BR P s f ok,f.put (ae d) hvc with
     |some (o,v,s1),ae f1=>bif em d f.n then gT P ops (⟨k,o,v,av⟩::K) f1 s1 λs3=>bU P call ops r L (⟨k,o,v,av⟩::K) pend s3 f1 else av
     |_,_=>av
    |_,_=>av
   else av
 |.lit a b c::r,L,K,pend,s,f=>match K.find? (λg=>bx g.k a),eM ops a with
  |some g,ae d=>bif g.lt.isNone&&g.ch.isEmpty&&!gI (cG K) b&&!gI (cG K) c&&!(bx b c)&&!eZ ops b&&!eZ ops c&&!(L.getD b au)&&!(L.getD c au)&& (du .any ops (bG L [a])).contains b&&(du .any ops (bG L [a,b])).contains c&&fj .any ops b a&&fj .any ops c b&& (cG K).all (λj=>bx j a||(bV ops b j&&bV ops j b&&bV ops c j&&bV ops j c)) then
    match KL P ops s f d g b c with
    |some (db,dc,v0,s1)=>match f.put (ae db) hvc with
     |some f1=>match f1.put (ae dc) hvc with
      |some f2=>bif em db f.n&&em dc f.n then gT P ops ({g with lt:=ae (b,c,v0)}::K.filter λh=>!bx h.k a) f2 s1 λs3=>bU P call ops r L ({g with lt:=ae (b,c,v0)}::K.filter λh=>!bx h.k a) pend s3 f2 else av
      |none=>av
     |none=>av
    |none=>av
   else av
  |_,_=>av
 |.com k::r,L,K,pend,s,f=>match K.find? (λg=>bx g.k k) with
  |some g=>bif JU ops K L g then
    match g.v with
    |.chain _ _ _=>match u6 g.ch f with
     |some f1=>gT P ops (K.filter λh=>!bx h.k k) f1 s λs3=>bU P call ops r (bG L g.ops) (K.filter λh=>!bx h.k k) pend s3 f1
     |none=>av
    |_=>match g.lt with
     |none=>match eM ops k,ki 64 s.h s.next g.o with
      |some d,ae t=>match f.put (ae d) (g.v.val s.next) with
       |some f1=>gT P ops (K.filter λh=>!bx h.k k) f1 {s with h:=t,next:=s.next+1} λs3=>bU P call ops r (bG L g.ops) (K.filter λh=>!bx h.k k) pend s3 f1
       |none=>av
      |_,_=>av
     |some (_,c,v0)=>match eM ops c with
      |some d=>match f.put (ae d) v0 with
       |some f1=>gT P ops (K.filter λh=>!bx h.k k) f1 s λs3=>bU P call ops r (bG L g.ops) (K.filter λh=>!bx h.k k) pend s3 f1
       |none=>av
      |none=>av
   else av
  |none=>av
 |.fly i::r,L,K,pend,s,f=>match ops[i]? with
  |none=>av
  |some o=>bif (du .any ops L).contains i&&!eZ ops i&&!gI (cG K) i&&(cG K).all (λj=>bV ops i j&&bV ops j i) then
    match o.guard,o.dst with
    |none,ae d=>match jO P s (f.ev s) o,f.put (ae d) hvc with
     |some (v,_,s1),ae f1=>bif em d f.n then gT P ops (⟨i,.dead,.chain d v [],av⟩::K) f1 s1 λs3=>bU P call ops r L (⟨i,.dead,.chain d v [],av⟩::K) pend s3 f1 else av
     |_,_=>av
    |_,_=>av
   else av
 |.ext k i::r,L,K,pend,s,f=>match K.find? (λg=>bx g.k k),ops[i]? with
  |some g,ae o=>match g.v,o.guard,o.dst with
   |.chain d0 v0 l,av,ae d=>bif !eZ ops i&&!gI (cG K) i&&!(L.getD i au)&&(du .any ops (bG L g.ops)).contains i&&em d f.n&&g.ch.all (λy=>!bx y.2.1 d)&& (cG K).all (λj=>gI g.ops j||(bV ops i j&&bV ops j i)) then
     match jO P s (evC ops s f g.ch i) o,f.put (ae d) hvc with
     |some (v,_,s1),ae f1=>gT P ops ({g with v:=.chain d0 v0 (l++[(i,d,v)])}::K.filter λh=>!bx h.k k) f1 s1 λs3=>bU P call ops r L ({g with v:=.chain d0 v0 (l++[(i,d,v)])}::K.filter λh=>!bx h.k k) pend s3 f1
     |_,_=>av
    else av
   |_,_,_=>av
  |_,_=>av
 |.ml a i j c d::r,L,K,pend,s,f=>bif K.isEmpty&&FE ops L a i j c d then
   match hMl P ops s f a i j c d with
   |some f'=>gT P ops K f' s λs3=>bU P call ops r (bG L [a,i,j,c,d]) K pend s3 f'
   |none=>av
  else av
def Base.hx(β:Base)(X:ab (aq×aq×Obj)):Base where
 ok:=λw'=>β.ok w'/\∀ x∈X,w'.heap[x.2.1]? =ae x.2.2
 wr:=λg=>β.wr g/\∀ x∈X,x.2.1≠g
 lk:=β.lk
 fok:=λg=>β.fok g/\∀ x∈X,x.2.1≠g
 wfok:=λg h=>⟨β.wfok g h.1,h.2⟩
 garbage:=λa c h k=>⟨β.garbage a c h.1 k,λx hx=>(k.block _ (cM (h.2 x hx))).trans (h.2 x hx)⟩
 upd:=λa c g h hg k=>⟨β.upd a c g h.1 hg.1 k,λx hx=>(k.block _ (hg.2 x hx)).trans (h.2 x hx)⟩
 fresh:=λa g h hg=>⟨β.fresh a g h.1 hg,λx hx e=>by have:=cM (h.2 x hx);omega⟩
 lapart:=λi g h k=>β.lapart i g h k.1
 lold:=λa i g h k=>β.lold a i g h.1 k
 lkok:=λa c i g h k hg=>β.lkok a c i g h.1 k.1 hg
section
variable{w0:Base}{μ:Mu}{s:St}{w:dh}{P:cq}{ops:df gg}
theorem S8(h:R w0 μ s w):R (w0.hx []) μ s w:=⟨⟨h.below,λx hx=>by cases hx⟩,h.fresh,λi o hi hd=>let⟨p,h1,h2,h3⟩:=h.obj i o hi hd;⟨p,h1,h2.still (λ_ h=>h) (cw _) (λ_ _=>rfl),λg hg=>⟨h3 g hg,λx hx=>by cases hx⟩⟩,h.dis,h.fz,h.fzd,λb O hb=>⟨h.fzo b O hb,λx hx=>by cases hx⟩,h.gl⟩
theorem S7{X Y:ab (aq×aq×Obj)}(hXY:∀ x∈Y,x∈X)(h:R (w0.hx X) μ s w):R (w0.hx Y) μ s w:=⟨⟨h.below.1,λx hx=>h.below.2 x (hXY x hx)⟩,h.fresh,λi o hi hd=>let⟨p,h1,h2,h3⟩:=h.obj i o hi hd;⟨p,h1,h2.still (λ_ h=>h) (cw _) (λ_ _=>rfl),λg hg=>⟨(h3 g hg).1,λx hx=>(h3 g hg).2 x (hXY x hx)⟩⟩,h.dis,h.fz,h.fzd,λb O hb=>⟨(h.fzo b O hb).1,λx hx=>(h.fzo b O hb).2 x (hXY x hx)⟩,h.gl⟩
theorem KE{X:ab (aq×aq×Obj)}(h:R (w0.hx X) μ s w):R w0 μ s w:=⟨h.below.1,h.fresh,λi o hi hd=>let⟨p,h1,h2,h3⟩:=h.obj i o hi hd;⟨p,h1,h2.still (λ_ h=>h) (cw _) (λ_ _=>rfl),λg hg=>(h3 g hg).1⟩,h.dis,h.fz,h.fzd,λb O hb=>(h.fzo b O hb).1,h.gl⟩
theorem BG{X:ab (aq×aq×Obj)}(h:R (w0.hx X) μ s w)(k:aq)(O:Obj):R (w0.hx ((k,w.heap.size,O)::X)) μ s (w.alloc O):=by
 have hb:Below w.heap.size w (w.alloc O):=(Below.refl _ _).alloc (cw _) _;have h2:=h.garbage hb;have hne:∀ g,g<w.heap.size->∀ x∈(k,w.heap.size,O)::X,(∀ y∈X,y.2.1≠g)->x.2.1≠g:=λg hg x hx hy=>by
  rcases ci.1 hx with rfl|hx
  ·dsimp only;omega
  ·exact hy x hx
 refine⟨⟨h2.below.1,λx hx=>?_⟩,h2.fresh,λi o hi hd=>?_,h2.dis,h2.fz,h2.fzd,λb O' hb'=>⟨(h2.fzo b O' hb').1,λx hx=>hne b (h.fz_lt hb') x hx (h2.fzo b O' hb').2⟩,h2.gl⟩
 ·rcases ci.1 hx with rfl|hx
  ·exact heap_alloc_new w O
  ·exact h2.below.2 x hx
 ·obtain⟨p,h3,h4,h5⟩:=h2.obj i o hi hd;exact⟨p,h3,h4.still (λ_ h=>h) (cw _) (λ_ _=>rfl),λg hg=>⟨(h5 g hg).1,λx hx=>hne g (h.own_lt hi h3 hg) x hx (h5 g hg).2⟩⟩
def FRel(μ:Mu)(o:gh)(O:Obj)(room:aq):Prop:=(∃op c e cur,o=.row op c e/\O=.cells cur e (0,0)/\room=cur.size/\c.length<=cur.size/\CsR op μ c cur 0)\/(o=.map [] 0/\O=.map #[] 0)
theorem FRel.mono{ν:Mu}(hl:μ.le ν){o:gh}{O:Obj}{room:aq}(h:FRel μ o O room):FRel ν o O room:=by
 rcases h with⟨op,c,e,cur,h1,h2,h3,h4,h5⟩|h
 ·exact .inl ⟨op,c,e,cur,h1,h2,h3,h4,h5.mono hl⟩
 ·exact .inr h
theorem KF{X Y:ab (aq×aq×Obj)}{k b:aq}{O:Obj}(h:R (w0.hx X) μ s w)(hk:(k,b,O)∈X)(hY:∀ x∈Y,x∈X/\x.2.1≠b)(hwr:w0.wr b){o:gh}{room:aq}(ho:FRel μ o O room){t:Tr gh}(ht:ki 64 s.h s.next o=ae t):R (w0.hx Y) (μ.put s.next ⟨b,0,room,eJ⟩) {s with h:=t,next:=s.next+1} w:=by
 have hO:=h.below.2 _ hk;have h2:=S7 (λx hx=>(hY x hx).1) h;have hlep:μ.le (μ.put s.next ⟨b,0,room,eJ⟩):=Mu.put_le (h.fresh _ (cw _));have hown:∀{g:aq},own o ⟨b,0,room,eJ⟩ g->g=b:=by
  intro g hg;rcases ho with⟨op,c,e,cur,rfl,_⟩|⟨rfl,_⟩
  ·exact hg
  ·exact hg
 refine h2.add ht (λ_=>?_) (λg hg=>?_) (λi o' q hi ho' hq g hg hg2=>?_) (λc O' hc hg=>?_)
 ·rcases ho.mono hlep with⟨op,c,e,cur,rfl,rfl,h3,h4,h5⟩|⟨rfl,rfl⟩
  ·exact⟨cur,hO,by simp[h3],by simp[h3,h4],h5⟩
  ·exact⟨_,hO,rfl,λj e hj=>by simp at hj⟩
 ·rw[hown hg];exact⟨hwr,λx hx=>(hY x hx).2⟩
 ·have hd:o'≠.dead:=λe=>by subst e;exact hg
  obtain⟨q',h3,h4,h5⟩:=h.obj i o' ho' hd;rw[hq] at h3;cases h3;exact(h5 g hg).2 _ hk (hown hg2).symm
 ·exact(h.fzo c O' hc).2 _ hk (hown hg).symm
theorem wL{t e:ct}{len:aq}{f:oy}{z':af}{ps':ab (aq×af)}{cs':df af}(hu:P.underlying t=ae (.slice e))(hf:P.info? e=ae f)(h2:f.zero=ae z')(k1:ny (λi=>ae (i*f.size,f.size)) ⟨rep len z'.cells.toList⟩ ps'=ae cs')(hsz:z'.cells.size=f.size)(c1:len*f.size<=16777216)(c3:0<f.size)(w:dh):(mz t len ps'.toArray).run P w=.ok (.slice (ae ⟨w.heap.size,0,av⟩) len len) (w.alloc (.cells cs' e)):=by
 have hrep:(ti (len*f.size)).map (λi=>z'.cells[i % z'.cells.size]!)=⟨rep len z'.cells.toList⟩:=by apply jt;rw[uV len z'.cells f.size hsz.symm]
 by_cases h0:len*f.size=0
 ·have hl0:len=0:=by
   rcases Nat.mul_eq_zero.1 h0 with h|h
   ·exact h
   ·omega
  subst hl0;simp only[rep] at k1;have e0:(ti (0*f.size)).map (λi=>(#[]:df af)[i % (#[]:df af).size]!)=⟨[]⟩:=qS;simp only[mz,run_underlying hu,sizeOf,typeInfo,cv,dw,run_program,cj,hf,gt_iff_lt,show ¬(2 ^ 24<0) by omega,if_false,lx,if_true];simp only[lx] at e0;rw[e0];simp only[k1,newRow,cv,dw,run_newObj_alloc,cj]
 ·simp only[mz,run_underlying hu,sizeOf,typeInfo,cv,dw,run_program,cj,hf,gt_iff_lt,show ¬(2 ^ 24<len*f.size) by omega,if_false,h0,zeroValue,h2,hrep];simp only[k1,newRow,cv,dw,run_newObj_alloc,cj]
theorem xS{f:HF}{o:gg}{ho:gh}{v:FV}{s':St}(h:BR P s f o=ae (ho,v,s')):s.like s':=by
 unfold BR at h;split at h
 ·simp only[aj,bn] at h;obtain⟨_,_,_,_,rfl⟩:=h;exact s.like_refl
 ·cases h;exact s.like_refl
 ·split at h
  ·split at h
   ·obtain⟨_,h⟩:=aD h;simp only[aj,bn] at h;obtain⟨_,_,_,_,rfl⟩:=h;exact s.like_refl
   ·cases h
  ·cases h
 ·split at h
  ·split at h
   ·obtain⟨_,h⟩:=aD h;split at h
    ·rename_i s1 hn;split at h
     ·rename_i s2 hp;obtain⟨_,h⟩:=aD h;cases h;exact(bA hn).1.trans (cZ hp)
     ·rename_i s2 hp;cases h;exact(bA hn).1.trans (cZ hp)
     ·cases h
    ·cases h
   ·cases h
  ·cases h
 ·cases h
theorem VR.int_inv{k:jl}{n:br}{v':af}(h:VR μ (.int k n) v'):v'=.int k n:=by cases h;rfl
theorem DT(h:R w0 μ s w){f:HF}{a:Act}(ha:AR μ f a){o:gg}{ho:gh}{v:FV}{s':St}(hf:BR P s f o=ae (ho,v,s'))(ok:SOK s'):∃(O:Obj)(room:aq)(u:aq->af),(∀ w:dh,(execOp a.eval o).run P w=.ok (.value (u w.heap.size)) (w.alloc O))/\FRel μ ho O room/\∀(ν:Mu)(i b:aq),ν i=ae ⟨b,0,room,eJ⟩->VR ν (v.val i) (u b):=by
 have he:=eC h ha;unfold BR at hf;split at hf
 ·rename_i e hop;simp only[aj,bn] at hf;obtain⟨z,hz,rfl,rfl,rfl⟩:=hf;obtain⟨f',z',h1,h2,rfl,h3⟩:=dC hz;refine⟨.cells z'.cells e,z'.cells.size,λb=>.pointer (ae ⟨b,0,av⟩),λw=>?_,.inl ⟨_,_,_,_,rfl,rfl,rfl,qS,CsR.of_vrs (dI h3)⟩,λν i b hi=>?_⟩
  ·unfold execOp;rw[hop];simp[Instr.alloc,zeroValue,typeInfo,h1,h2,newVar,newRow]
  ·have:=VR.ptr (o:=0) hi;show VR ν (.pointer (ae ⟨i,0,av⟩)) _;simpa using this
 ·rename_i t hop;cases hf;refine⟨.map #[] 0,0,λb=>.map (ae b),λw=>?_,.inr ⟨rfl,rfl⟩,λν i b hi=>.map hi⟩;unfold execOp;rw[hop];rfl
 ·rename_i t n ps hop;split at hf
  ·rename_i l e hl hu;split at hf
   ·rename_i i z hi hz;obtain⟨hc,hf⟩:=aD hf;simp only[bu] at hc;obtain⟨⟨⟨c1,c2⟩,c3⟩,c4⟩:=hc;simp only[aj,bn] at hf;obtain⟨cs,hfl,rfl,rfl,rfl⟩:=hf;obtain⟨f',z',h1,h2,rfl,h3⟩:=dC hz;rw[hi] at h1;cases h1;obtain⟨p1,p2⟩:=vC he _ _ hl;have hn:eA P s t n l=(wX s cs.toList e).map λ(j,s')=>(.slice (ae ⟨j,0,av⟩) n n,s'):=by unfold eA;simp only[hu,hi,hz];rw[show(dg (n*i.size) 16777216&&bx z'.cells.toList.length i.size&&em 0 i.size&&em n UNK)=au by simp only[bu];exact⟨⟨⟨c1,c2⟩,c3⟩,c4⟩];simp only[de];rw[hfl]
    obtain⟨cs',k1,k2⟩:=uD _ _ _ _ p1 p2 (yG (dI h3) n) cs hfl;refine⟨.cells cs' e,cs'.size,λb=>.slice (ae ⟨b,0,av⟩) n n,λw=>?_,.inl ⟨_,_,_,_,rfl,rfl,rfl,?_,CsR.of_vrs k2⟩,λν j b hj=>?_⟩
    ·unfold execOp;rw[hop];have hps:(ps.map λx=>(x.1,a.eval x.2))=(ai (λx=>match x with|(i,x)=>(i,a.eval x)) ps.toList).toArray:=by apply jt;simp
     have aW:=wL (P:=P) hu hi h2 k1 (by simpa using(aI _ _).1 c2) (bK c1) (bN c3) w;rw[<-hps] at aW;simp[aW]
    ·have:=k2.length;simp only[gq] at this ⊢;omega
    ·have:=VR.sliceK (o:=0) (n:=n) hj (bN c4);show VR ν (.slice (ae ⟨j,0,av⟩) n n) _;simpa using this
   ·cases hf
  ·cases hf
 ·rename_i t l c hop;split at hf
  ·rename_i kl n kc k e hl hc hu;split at hf
   ·rename_i i z hi hz;obtain⟨b4,hf⟩:=aD hf;have b4:=(aI _ _).1 b4;obtain⟨f',z',k1,k2,rfl,k3⟩:=dC hz;rw[hi] at k1;cases k1;have hsz:z'.cells.size=i.size:=by simpa using b4
    have hl':=he _ _ hl;have hc':=he _ _ hc;split at hf
    ·rename_i s1 hs1;obtain⟨q1,q2⟩:=bA hs1;have run:SOK s1->∀ w:dh,(execOp a.eval o).run P w=.ok (.value (.slice (ae ⟨w.heap.size,0,av⟩) n.toNat k.toNat)) (w.alloc (.cells ⟨rep k.toNat z'.cells.toList⟩ e))/\k.toNat<=maxLen/\n.toNat<=k.toNat/\k.toNat<UNK:=λok w=>by
      have hb:=q2 ok;simp only[bu,decide_eq_true_eq] at hb;obtain⟨⟨⟨b0,b1⟩,b2⟩,b3⟩:=hb;have b2:=bK b2;have b3:=bK b3;have aW:=run_make (P:=P) (w:=w) t e i z' hu hi k2 kl kc n k qO qO (by
       have h:((i.bytes*k.toNat:aq):br)<=281474976710656:=qO
       rwa [Int.natCast_mul,Int.toNat_of_nonneg qO] at h) qO
      have:madeCells z'.cells (k.toNat*i.size)=⟨rep k.toNat z'.cells.toList⟩:=by apply jt;rw[<-uV k.toNat z'.cells i.size hsz.symm];rfl
      rw[this] at aW;refine⟨?_,by simp only[maxLen];omega,qO,by simp only[UNK];omega⟩;unfold execOp;rw[hop];simp only;rw[hl'.int_inv,hc'.int_inv];simp[aW]
     split at hf
     ·rename_i s2 hs2;obtain⟨hidf,hf⟩:=aD hf;cases hf;have ok1:SOK s1:=gd (cZ hs2).sub ok;have hfr:FRs μ.fz z'.cells.toList z'.cells.toList:=j2 hidf (dI k3);refine⟨_,_,λb=>.slice (ae ⟨b,0,av⟩) n.toNat k.toNat,λw=>(run ok1 w).1,.inl ⟨_,_,_,_,rfl,rfl,rfl,qS,λj x hj=>?_⟩,λν j b hj=>?_⟩
      ·obtain⟨x',y1,y2⟩:=(yH hfr k.toNat).get j x hj;exact⟨x',by simpa using y1,y2⟩
      ·obtain⟨_,r2,r3,_⟩:=run ok1 default;have:=VR.sliceU (o:=0) (n:=n.toNat) (z:=i.size) (c':=k.toNat) hj r3 r2 (by simp[lK,hsz]);show VR ν (.slice (ae ⟨j,0,av⟩) n.toNat (UNK+i.size)) _;simpa using this
     ·rename_i s2 hs2;cases hf;have ok1:SOK s1:=gd (cZ hs2).sub ok;refine⟨_,_,λb=>.slice (ae ⟨b,0,av⟩) n.toNat k.toNat,λw=>(run ok1 w).1,.inl ⟨_,_,_,_,rfl,rfl,rfl,qS,CsR.of_vrs (yG (dI k3) k.toNat)⟩,λν j b hj=>?_⟩;have:=VR.sliceK (o:=0) (n:=n.toNat) hj (run ok1 default).2.2.2;show VR ν (.slice (ae ⟨j,0,av⟩) n.toNat k.toNat) _;simpa using this
     ·cases hf
    ·cases hf
   ·cases hf
  ·cases hf
 ·cases hf
end
section
variable{w0:Base}{μ:Mu}{s:St}{w:dh}{P:cq}{ops:df gg}{Q:Exit->Act->dh->Prop}
def Sp(ops:df gg)(pc:ab (aq×aq×bp Obj))(l:df cz)(w:dh):Prop:=∀ y∈pc,qF .any ops (eZ ops) y.1 l\/w.heap[y.2.1]? =y.2.2
def BlkZ(μ:Mu):bp aq->aq->Prop
 |some z,b=>∃p,μ z=ae p/\p.blk=b|none,b=>∃O,μ.fz b=ae O
theorem BlkZ.mono{ν:Mu}(hl:μ.le ν){z:bp aq}{b:aq}(h:BlkZ μ z b):BlkZ ν z b:=by cases z with|none=>obtain⟨O,h⟩:=h;exact⟨O,hl.fz _ _ h⟩|some z=>obtain⟨p,h1,h2⟩:=h;obtain⟨q,k1,k2⟩:=hl.pl _ _ h1;exact⟨q,k1,k2.blk.trans h2⟩
inductive PCR(μ:Mu):ab (aq×bp aq)->ab (aq×aq×bp Obj)->Prop
 |nil:PCR μ [] []
 |cons {i:aq} {z:bp aq} {b:aq} {O:bp Obj} {l:ab (aq×bp aq)} {l':ab (aq×aq×bp Obj)} (h:BlkZ μ z b) (t:PCR μ l l'):PCR μ ((i,z)::l) ((i,b,O)::l')
theorem PCR.mono{ν:Mu}(hl:μ.le ν){l:ab (aq×bp aq)}{l':ab (aq×aq×bp Obj)}(h:PCR μ l l'):PCR ν l l':=by induction h with|nil=>exact .nil|cons h _ ih=>exact .cons (h.mono hl) ih
theorem PCR.filter(q:aq->cz){l:ab (aq×bp aq)}{l':ab (aq×aq×bp Obj)}(h:PCR μ l l'):PCR μ (l.filter λx=>q x.1) (l'.filter λx=>q x.1):=by
 induction h with
 |nil=>exact .nil
 |@cons i z p O l l' h t ih=>
  simp only[List.filter_cons];split
  ·exact .cons h ih
  ·exact ih
theorem PCR.mem{l:ab (aq×bp aq)}{l':ab (aq×aq×bp Obj)}(h:PCR μ l l'):∀ y∈l',∃x∈l,x.1=y.1/\BlkZ μ x.2 y.2.1:=by
 induction h with
 |nil=>intro y hy;cases hy
 |@cons i z p O l l' h t ih=>
  intro y hy;rcases ci.1 hy with rfl|hy
  ·exact⟨_,fd ..,rfl,h⟩
  ·obtain⟨x,h1,h2⟩:=ih y hy;exact⟨x,ep _ h1,h2⟩
theorem OJ(h:R w0 μ s w){z:aq}(hz:KH s z=au){p:Place}(hp:μ z=ae p):p.blk<w.heap.size:=by
 unfold KH at hz;split at hz
 ·rename_i ho;exact h.blk_lt ho rfl hp
 ·rename_i ho;obtain⟨q,cur,e,fr,h1,h2,h3,_⟩:=h.ro _ _ ho;rw[hp] at h1;cases h1;exact cM h3
 ·rename_i ho;obtain⟨q,cur,e,h1,h2,h3,_⟩:=h.lk _ _ _ ho;rw[hp] at h1;cases h1;exact cM h3
 ·rename_i ho;exact h.blk_lt ho rfl hp
 ·rename_i ho;obtain⟨q,_,h1,h2,h3,_⟩:=h.rm _ _ _ ho;rw[hp] at h1;cases h1;exact cM h3
 ·rename_i ho;obtain⟨q,_,_,h1,h2,_⟩:=h.fmap _ _ ho;rw[hp] at h1;cases h1;exact cM h2
 ·cases hz
theorem I7{L:df cz}{i:aq}(hs:L.size=ops.size)(hi:i∈du .any ops L):L.toList[i]? =ae false:=by
 obtain⟨h1,o,ho,_⟩:=mem_ready.1 hi;have hlt:i<L.size:=by rw[hs];exact(ft.1 ho).1
 simp[hlt] at h1;simp[hlt,h1]
theorem eL{L:df cz}{i fuel:aq}(hs:L.size=ops.size)(hi:i∈du .any ops L)(hf:ops.size<=fuel+cnt L.toList):∃f',fuel=f'+1/\ops.size<=f'+cnt (L.setIfInBounds i au).toList:=by
 have h1:=I7 hs hi;have h2:=LD _ _ h1;have h3:cnt (L.setIfInBounds i au).toList=cnt L.toList+1:=by rw[Array.toList_setIfInBounds];exact FX _ _ h1
 simp only[gq] at h2;exact⟨fuel-1,qO,by rw[h3];omega⟩
theorem EQ{pc:ab (aq×aq×bp Obj)}{i:aq}(hi:eZ ops i=aa)(l:df cz)(w:dh):Sp ops pc (l.setIfInBounds i au) w↔Sp ops pc l w:=⟨λh y hy=>(h y hy).imp (wJ hi l).1 id,λh y hy=>(h y hy).imp (wJ hi l).2 id⟩
theorem bS{L:df cz}{j:aq}(h:L.getD j au=aa):L.getD j aa=false:=by
 rcases ey j L.size with hj|hj
 ·simp[hj] at h ⊢;exact h
 ·simp[lw hj] at h
theorem zL{L:df cz}{j:aq}(h:L.getD j aa=au):j<L.size:=by
 rcases ey j L.size with hj|hj
 ·exact hj
 ·simp[lw hj] at h
theorem rP{L:df cz}{j:aq}(hj:j<L.size)(h:¬L.getD j aa=au):L.getD j au=false:=by simp[hj] at h ⊢;exact h
theorem getD_setT{L:df cz}{i j:aq}:(L.setIfInBounds i au).getD j aa=au↔L.getD j aa=au\/(j=i/\i<L.size):=by
 by_cases hij:i=j
 ·subst hij;constructor
  ·intro h;exact .inr ⟨rfl,by simpa using zL h⟩
  ·rintro(h|⟨_,h⟩)
   ·exact getD_set_true h
   ·simp[h]
 ·rw[getD_set_ne aa hij];exact⟨.inl,λh=>h.elim id λh=>cp h.1.symm hij⟩
theorem mU:∀(l:ab aq)(L:df cz),(bG L l).size=L.size
 |[],_=>rfl|i::l,L=>by simp[bG,mU l]
theorem dN:∀(l:ab aq)(L:df cz)(j:aq),(bG L l).getD j aa=au↔L.getD j aa=au\/(j∈l/\j<L.size)
 |[],_,_=>by simp[bG]
 |i::l,L,j=>by
  simp only[bG];rw[dN l,getD_setT];simp only[ci,pp];constructor
  ·rintro((h|⟨h,h2⟩)|⟨h,h2⟩)
   ·exact .inl h
   ·exact .inr ⟨.inl h,h ▸ h2⟩
   ·exact .inr ⟨.inr h,h2⟩
  ·rintro(h|⟨h|h,h2⟩)
   ·exact .inl (.inl h)
   ·exact .inl (.inr ⟨h,h ▸ h2⟩)
   ·exact .inr ⟨h,h2⟩
theorem GO{L L':df cz}{j:aq}(hL:∀ i,L.getD i aa=au->L'.getD i aa=au)(hj:j∈du .any ops L)(hu:L'.getD j au=aa):j∈du .any ops L':=by obtain⟨_,o,ho,hw⟩:=mem_ready.1 hj;exact mem_ready.2 ⟨hu,o,ho,λe he hb=>hL _ (hw e he hb)⟩
def wsat(ops:df gg)(LA:df cz)(ex:ab aq)(j:aq):Prop:=∀ oj,ops[j]? =ae oj->∀ e∈oj.after,uu .any e=au->LA.getD e.on aa=au\/e.on∈ex
theorem wsat.ready{LA:df cz}{ex:ab aq}{j:aq}(h:wsat ops LA ex j)(hex:∀ i∈ex,LA.getD i aa=au)(hj:j<ops.size)(hu:LA.getD j au=aa):j∈du .any ops LA:=mem_ready.2 ⟨hu,_,mi hj,λe he hb=>(h _ (mi hj) e he hb).elim id (hex _)⟩
theorem wsat.mono{LA LB:df cz}{ex:ab aq}{j:aq}(hL:∀ i,LA.getD i aa=au->LB.getD i aa=au)(h:wsat ops LA ex j):wsat ops LB ex j:=λo ho e he hb=>(h o ho e he hb).imp (hL _) id
theorem wsat.of_ready{L LA:df cz}{ex:ab aq}{j:aq}(hj:j∈du .any ops (bG L ex))(hL:∀ i,L.getD i aa=au->LA.getD i aa=au):wsat ops LA ex j:=λo ho e he hb=>by obtain⟨_,o',ho',hw⟩:=mem_ready.1 hj;rw[ho] at ho';cases ho';exact((dN _ _ _).1 (hw e he hb)).imp (hL _) λh=>h.1
def GIa(P:cq)(ops:df gg)(μ:Mu)(LA:df cz)(a:Act)(X:ab (aq×aq×Obj))(g:GK):Prop:=∃ok d,ops[g.k]? =ae ok/\ok.guard=av/\ok.dst=ae d/\d<a.tmps.size/\eZ ops g.k=aa/\((LA.getD g.k au=aa/\wsat ops LA [] g.k/\∃(O:Obj)(room:aq)(u:aq->af),(∀ w:dh,(execOp a.eval ok).run P w=.ok (.value (u w.heap.size)) (w.alloc O))/\FRel μ g.o O room/\∀(ν:Mu)(i b:aq),ν i=ae ⟨b,0,room,eJ⟩->VR ν (g.v.val i) (u b))\/(LA.getD g.k aa=au/\∃(b:aq)(O:Obj)(room:aq),(g.k,b,O)∈X/\FRel μ g.o O room/\∀(ν:Mu)(i:aq),ν i=ae ⟨b,0,room,eJ⟩->VR ν (g.v.val i) (a.tmps.getD d undef)))
structure LitF(P:cq)(ops:df gg)(a:Act)(g:GK)(b c:aq)(v0:af)(d db dc z:aq)(n:br)(cs:ab af)(e:ct)(tt:ct):Prop where
 dk:eM ops g.k=ae d
 ob:∃ob idx t kd e' i len cap,ops[b]? =ae ob/\ob.guard=av/\ob.dst=ae db/\ob.op=.indexAddr t (.tmp d) idx/\isT d idx=aa/\isT db idx=aa/\isT dc idx=aa/\a.eval idx=.int kd n/\P.underlying t=ae (.slice e')/\P.info? e'=ae i/\z=i.size/\g.v=.sl len cap/\cap<UNK/\0<=n/\n.toNat<len
 oc:∃oc,ops[c]? =ae oc/\oc.guard=av/\oc.dst=ae dc/\oc.op=.load tt (.tmp db)
 o:g.o=.row aa cs e
 ld:∃(s s2:St)(op:cz),iN P tt (λm=>rdX op cs (n.toNat*z) m s)=ae (v0,s2)/\SOK s2
 flat:bD 6 v0=au
 ne:d≠db/\d≠dc/\db≠dc
 lt:db<a.tmps.size/\dc<a.tmps.size
 st:eZ ops b=aa/\eZ ops c=aa
 wt:fj .any ops b g.k=au/\fj .any ops c b=au
def GIl(P:cq)(ops:df gg)(μ:Mu)(LA:df cz)(a:Act)(X:ab (aq×aq×Obj))(g:GK):Prop:=match g.lt with|none=>True|some (b,c,v0)=>∃d db dc z n cs e tt,LitF P ops a g b c v0 d db dc z n cs e tt/\((LA.getD b au=aa/\wsat ops LA [g.k] b)\/(LA.getD b aa=au/\LA.getD g.k aa=au/\∃(blk:aq)(O:Obj)(room:aq),(g.k,blk,O)∈X/\FRel μ g.o O room/\a.tmps.getD db undef=.pointer (ae ⟨blk,n.toNat*z,av⟩)))/\((LA.getD c au=aa/\wsat ops LA [g.k,b] c)\/(LA.getD c aa=au/\LA.getD b aa=au/\a.tmps.getD dc undef=v0))
def CE(ops:df gg)(μ:Mu)(LA:df cz)(a:Act)(p:ab (aq×aq×af))(y:aq×aq×af):Prop:=(∃o,ops[y.1]? =ae o/\o.guard=av/\o.dst=ae y.2.1/\y.2.1<a.tmps.size/\eZ ops y.1=aa)/\((LA.getD y.1 au=aa/\wsat ops LA (p.map (·.1)) y.1)\/(LA.getD y.1 aa=au/\wsat ops LA [] y.1/\VR μ y.2.2 (a.tmps.getD y.2.1 undef)))
def GIc(ops:df gg)(μ:Mu)(LA:df cz)(a:Act)(l:ab (aq×aq×af)):Prop:=(∀ p y q,l=p++y::q->CE ops μ LA a p y)/\l.Pairwise λx y=>x.1≠y.1/\x.2.1≠y.2.1
def GI(P:cq)(ops:df gg)(μ:Mu)(LA:df cz)(a:Act)(X:ab (aq×aq×Obj))(g:GK):Prop:=match g.v with|.chain _ _ _=>GIc ops μ LA a g.ch|_=>GIa P ops μ LA a X g/\GIl P ops μ LA a X g
def fU(g:GK):Bool:=match g.v with|.chain _ _ _=>au|_=>aa
theorem GI.alloc{P:cq}{LA:df cz}{a:Act}{X:ab (aq×aq×Obj)}{g:GK}(hc:fU g=aa):GI P ops μ LA a X g↔GIa P ops μ LA a X g/\GIl P ops μ LA a X g:=by
 unfold GI;unfold fU at hc;split
 ·rename_i h;rw[h] at hc;cases hc
 ·exact Iff.rfl
theorem GI.chain{P:cq}{LA:df cz}{a:Act}{X:ab (aq×aq×Obj)}{g:GK}(hc:fU g=au):GI P ops μ LA a X g↔GIc ops μ LA a g.ch:=by
 unfold GI;unfold fU at hc;split
 ·exact Iff.rfl
 ·rename_i h;split at hc
  ·rename_i d v l h2;exact(h d v l h2).elim
  ·cases hc
theorem GK.ops_alloc{g:GK}(hc:fU g=aa):g.ops=match g.lt with
  |some (b,c,_)=>[g.k,b,c]
  |none=>[g.k]:=by
 unfold GK.ops
 unfold fU at hc
 split
 ·rename_i h;rw[h] at hc;cases hc
 ·rfl
theorem GK.ops_chain{g:GK}(hc:fU g=au):g.ops=g.ch.map (·.1):=by
 unfold GK.ops GK.ch;unfold fU at hc;split
 ·rename_i h;simp
 ·rename_i h;split at hc
  ·rename_i d v l h2;exact(h d v l h2).elim
  ·cases hc
theorem GIc.mem{LA:df cz}{a:Act}{l:ab (aq×aq×af)}(h:GIc ops μ LA a l){y:aq×aq×af}(hy:y∈l):∃p,(∀ x∈p,x∈l)/\CE ops μ LA a p y:=by obtain⟨p,q,e⟩:=List.append_of_mem hy;exact⟨p,λx hx=>by rw[e];simp[hx],h.1 p y q e⟩
theorem mem_kops{K:ab GK}{j:aq}:j∈cG K↔∃g∈K,j∈g.ops:=by
 induction K with
 |nil=>simp[cG]
 |cons g K ih=>
  simp only[cG,eu,ih,ci];constructor
  ·rintro(h|⟨g',h1,h2⟩)
   ·exact⟨g,.inl rfl,h⟩
   ·exact⟨g',.inr h1,h2⟩
  ·rintro⟨g',rfl|h1,h2⟩
   ·exact .inl h2
   ·exact .inr ⟨g',h1,h2⟩
theorem GK.k_mem(g:GK):g.k∈g.ops:=by
 unfold GK.ops;split
 ·simp
 ·split<;>simp
theorem GK.last_mem{g:GK}(hc:fU g=aa):g.last∈g.ops:=by rw[GK.ops_alloc hc];unfold GK.last;split<;>simp_all
theorem GI.st{LA:df cz}{a:Act}{X:ab (aq×aq×Obj)}{g:GK}(h:GI P ops μ LA a X g):∀ j∈g.ops,eZ ops j=aa/\j<ops.size/\∃o,ops[j]? =ae o/\o.guard=none:=by
 intro j hj;cases hc:fU g with|true=>have h:=(GI.chain hc).1 h;rw[GK.ops_chain hc] at hj;obtain⟨y,hy,rfl⟩:=fi.1 hj;obtain⟨p,_,⟨o,h1,h2,h3,h4,h5⟩,_⟩:=h.mem hy;exact⟨h5,(ft.1 h1).1,o,h1,h2⟩|false=>
 obtain⟨⟨ok,d,h1,h2,h3,h4,h5,_⟩,hl⟩:=(GI.alloc hc).1 h;rw[GK.ops_alloc hc] at hj;unfold GIl at hl;split at hj
 ·rename_i b c v0 hlt;rw[hlt] at hl;obtain⟨d',db,dc,z,n,cs,e,tt,hf,_⟩:=hl;obtain⟨ob,idx,t,kd,e',i,len,cap,b1,b2,_⟩:=hf.ob;obtain⟨oc,c1,c2,_⟩:=hf.oc;simp only[ci,fe,or_false] at hj;rcases hj with rfl|rfl|rfl
  ·exact⟨h5,(ft.1 h1).1,_,h1,h2⟩
  ·exact⟨hf.st.1,(ft.1 b1).1,_,b1,b2⟩
  ·exact⟨hf.st.2,(ft.1 c1).1,_,c1,c2⟩
 ·simp only[ci,fe,or_false] at hj;subst hj;exact⟨h5,(ft.1 h1).1,_,h1,h2⟩
theorem GI.move(hsel:jp ops=au){ν:Mu}{LA LB:df cz}{a a':Act}{X Y:ab (aq×aq×Obj)}{g:GK}(h:GI P ops μ LA a X g)(hl:μ.le ν)(hX:∀ x∈X,x.1=g.k->x∈Y)(hL:∀ j,LA.getD j aa=au->LB.getD j aa=au)(hk:∀ k∈g.ops,LB.getD k au=LA.getD k au)(hsz:a'.tmps.size=a.tmps.size)(ha:∀ k∈g.ops,∀ o,ops[k]? =ae o->∀ x∈o.op.operands,a'.eval x=a.eval x)(hd:∀ k∈g.ops,∀ d,eM ops k=ae d->a'.tmps.getD d undef=a.tmps.getD d undef):GI P ops ν LB a' Y g:=by
 cases hc:fU g with
 |true=>
  rw[GI.chain hc] at h ⊢;rw[GK.ops_chain hc] at hk hd;refine⟨λp y q e=>?_,h.2⟩;obtain⟨⟨o,h1,h2,h3,h4,h5⟩,h6⟩:=h.1 p y q e;have hy:y.1∈g.ch.map (·.1):=fi.2 ⟨y,by rw[e];simp,rfl⟩;refine⟨⟨o,h1,h2,h3,by rw[hsz];exact h4,h5⟩,?_⟩;rcases h6 with⟨k1,k2⟩|⟨k1,k3,k2⟩
  ·exact .inl ⟨by rw[hk _ hy];exact k1,k2.mono hL⟩
  ·exact .inr ⟨hL _ k1,k3.mono hL,by rw[hd _ hy _ (by unfold eM;rw[h1];exact h3)];exact k2.mono hl⟩
 |false=>
 rw[GI.alloc hc] at h ⊢;obtain⟨⟨ok,d,h1,h2,h3,h4,h5,h6⟩,hg⟩:=h;have hdk:eM ops g.k=ae d:=by unfold eM;rw[h1];exact h3
 refine⟨⟨ok,d,h1,h2,h3,by rw[hsz];exact h4,h5,?_⟩,?_⟩
 ·rcases h6 with⟨k1,k2,O,room,u,k3,k4,k5⟩|⟨k1,b,O,room,k2,k3,k4⟩
  ·refine .inl ⟨by rw[hk _ g.k_mem];exact k1,k2.mono hL,O,room,u,λw=>?_,k4.mono hl,k5⟩;rw[execOp_congr ok (λcs b=>Region.noSelect_spec hsel _ ok cs b h1) (ha _ g.k_mem ok h1)];exact k3 w
  ·refine .inr ⟨hL _ k1,b,O,room,hX _ k2 rfl,k3.mono hl,?_⟩;rw[hd _ g.k_mem d hdk];exact k4
 ·unfold GIl at hg ⊢;split at hg
  ·trivial
  ·rename_i b c v0 hlt;have hbm:b∈g.ops:=by rw[GK.ops_alloc hc,hlt];simp
   have hcm:c∈g.ops:=by rw[GK.ops_alloc hc,hlt];simp
   obtain⟨d',db,dc,z,n,cs,e,tt,hf,g1,g2⟩:=hg;obtain⟨ob,idx,t,kd,e',i,len,cap,b1,b2,b3,b4,b5⟩:=hf.ob;obtain⟨oc,c1,c2,c3,c4⟩:=hf.oc;have hdb:eM ops b=ae db:=by unfold eM;rw[b1];exact b3
   have hdc:eM ops c=ae dc:=by unfold eM;rw[c1];exact c3
   have hidx:a'.eval idx=a.eval idx:=ha _ hbm ob b1 idx (by rw[b4];simp[Op.operands]);refine⟨d',db,dc,z,n,cs,e,tt,{hf with ob:=⟨ob,idx,t,kd,e',i,len,cap,b1,b2,b3,b4,by rw[hidx];exact b5⟩,lt:=by rw[hsz];exact hf.lt},?_,?_⟩
   ·rcases g1 with⟨k1,k2⟩|⟨k1,k2,blk,O,room,k3,k4,k5⟩
    ·exact .inl ⟨by rw[hk _ hbm];exact k1,k2.mono hL⟩
    ·exact .inr ⟨hL _ k1,hL _ k2,blk,O,room,hX _ k3 rfl,k4.mono hl,by rw[hd _ hbm db hdb];exact k5⟩
   ·rcases g2 with⟨k1,k2⟩|⟨k1,k2,k3⟩
    ·exact .inl ⟨by rw[hk _ hcm];exact k1,k2.mono hL⟩
    ·exact .inr ⟨hL _ k1,hL _ k2,by rw[hd _ hcm dc hdc];exact k3⟩
structure Mom(w0:Base)(P:cq)(ops:df gg)(L LA:df cz)(K:ab GK)(X:ab (aq×aq×Obj))(pend:ab (aq×bp aq))(s:St)(f:HF)(pc:ab (aq×aq×bp Obj))(μ:Mu)(a:Act)(w:dh)(fuel:aq):Prop where
 size:L.size=ops.size
 sizeA:LA.size=ops.size
 fuel:ops.size<=fuel+cnt LA.toList
 up:∀ j,L.getD j aa=au->LA.getD j aa=au
 dn:∀ j,LA.getD j aa=au->L.getD j aa=au\/j∈cG K
 kn:∀ g∈K,∀ g'∈K,g.k=g'.k->g=g'
 ap:∀ g∈K,∀ g'∈K,g≠g'->∀ i∈g.ops,∀ j∈g'.ops,i≠j/\bV ops i j=au
 hv:∀ j∈cG K,∀ d,eM ops j=ae d->jN (f.get d)=au
 pcr:PCR μ pend pc
 sp:Sp ops pc LA w
 r:R (w0.hx X) μ s w
 ar:AR μ f a
 ex:∀ y∈pc,y.2.2≠av
 xw:∀ x∈X,w0.wr x.2.1
 nd:∀ x∈X,∀ y∈X,x≠y->x.2.1≠y.2.1
 g:∀ g∈K,GI P ops μ LA a X g
end
section
variable{w0:Base}{μ:Mu}{s:St}{w:dh}{P:cq}{ops:df gg}{Q:Exit->Act->dh->Prop}
theorem dO{i k:aq}{oi ok:gg}(h:bV ops i k=au)(hi:ops[i]? =ae oi)(hk:ops[k]? =ae ok):(∀ d,oi.dst=ae d->d∉ok.looksAt ops)/\(∀ d,oi.dst=ae d->ok.dst≠ae d)/\(∀ d,ok.dst=ae d->d∉oi.looksAt ops):=by unfold bV at h;rw[hi,hk] at h;exact Oper.apart_spec h
theorem xZ{o:gg}{a:Act}{di:bp Tmp}{v:af}(h:∀ d,di=ae d->d∉o.looksAt ops):∀ x∈o.op.operands,(a.put di v).eval x=a.eval x:=λx hx=>uw λd hd he=>h d hd (jk _ (List.mem_filterMap.2 ⟨.tmp d,by subst he;simpa using hx,rfl⟩))
theorem jT{a:Act}{di:bp Tmp}{v:af}{d:aq}(h:di≠ae d):(a.put di v).tmps.getD d undef=a.tmps.getD d undef:=by cases di with|none=>rfl|some e=>have:e≠d:=λhe=>h (he ▸ rfl);simp[Act.put,jc,this]
theorem eR{a:Act}{di:bp Tmp}{v:af}:(a.put di v).tmps.size=a.tmps.size:=by cases di<;>simp[Act.put]
theorem gX{a:Act}{d:aq}{v:af}(h:d<a.tmps.size):(a.put (ae d) v).tmps.getD d undef=v:=by simp[Act.put,h]
theorem AR.put_hv{f:HF}{a:Act}(h:AR μ f a){d:aq}(hd:jN (f.get d)=au)(v:af):AR μ f (a.put (ae d) v):=by refine⟨by rw[eR];exact h.size,λe he hv=>?_,h.ds⟩;rw[jT (λhh=>by cases hh;rw[hd] at hv;cases hv)];exact h.vals e he hv
theorem cX{i:aq}{o:gg}(h:ops[i]? =ae o):eM ops i=o.dst:=by unfold eM;rw[h]
theorem Mom.ready_of{L LA:df cz}{K:ab GK}{X:ab (aq×aq×Obj)}{pend:ab (aq×bp aq)}{f:HF}{pc:ab (aq×aq×bp Obj)}{a:Act}{fuel:aq}(hm:Mom w0 P ops L LA K X pend s f pc μ a w fuel){i:aq}(hi:i∈du .any ops L)(hk:i∉cG K):i∈du .any ops LA:=by
 refine GO hm.up hi ?_;obtain⟨h1,o,ho,_⟩:=mem_ready.1 hi;refine rP (by rw[hm.sizeA];exact(ft.1 ho).1) λhh=>?_;rcases hm.dn i hh with h|h
 ·rw[bS h1] at h;cases h
 ·exact hk h
theorem Mom.ready_in{L LA:df cz}{K:ab GK}{X:ab (aq×aq×Obj)}{pend:ab (aq×bp aq)}{f:HF}{pc:ab (aq×aq×bp Obj)}{a:Act}{fuel:aq}(hm:Mom w0 P ops L LA K X pend s f pc μ a w fuel){i:aq}(hi:i∈du .any ops LA){l:ab aq}(hl:∀ j∈cG K,LA.getD j aa=au->j∈l)(hil:i∉l):i∈du .any ops (bG L l):=by
 obtain⟨h1,o,ho,hw⟩:=mem_ready.1 hi;have hlt:=(ft.1 ho).1;refine mem_ready.2 ⟨rP (by rw[mU,hm.size];exact hlt) λhh=>?_,o,ho,λe he hb=>?_⟩
 ·rcases(dN _ _ _).1 hh with h|h
  ·have:=hm.up _ h;rw[bS h1] at this;cases this
  ·exact hil h.1
 ·have:=hw e he hb;rcases hm.dn _ this with h|h
  ·exact(dN _ _ _).2 (.inl h)
  ·exact(dN _ _ _).2 (.inr ⟨hl _ h this,by rw[hm.size,<-hm.sizeA];exact zL this⟩)
theorem R6(hsel:jp ops=au){LA:df cz}{X X':ab (aq×aq×Obj)}{a:Act}{i:aq}{oi:gg}{v:af}(hoi:ops[i]? =ae oi)(hX:∀ x∈X,x∈X'){g':GK}(hg:GI P ops μ LA a X g')(hap:∀ j∈g'.ops,i≠j/\bV ops i j=au):GI P ops μ (LA.setIfInBounds i au) (a.put oi.dst v) X' g':=by
 refine hg.move hsel (gk _) (λx hx _=>hX x hx) (λj hj=>getD_set_true hj) (λk hk=>getD_set_ne au (hap k hk).1) eR (λk hk o ho=>?_) (λk hk d hd=>?_)
 ·exact xZ (dO (hap k hk).2 hoi ho).1
 ·obtain⟨_,_,o,ho,_⟩:=hg.st k hk;rw[cX ho] at hd;exact jT λhh=>(dO (hap k hk).2 hoi ho).2.1 d hh hd
theorem dM{LA:df cz}{i j:aq}(hr:i∈du .any ops LA)(hw:fj .any ops i j=au):LA.getD j aa=true:=by obtain⟨oj,hoj,e,he,hb,rfl⟩:=rp hw;obtain⟨_,o,ho,h⟩:=mem_ready.1 hr;rw[hoj] at ho;cases ho;exact h e he hb
def ChE(P:cq)(ops:df gg)(K:ab GK)(s:St)(f:HF):Prop:=∀ g∈K,∀ y∈g.ch,∃(o:gg)(sa sb:St)(z:bp (bp aq)),ops[y.1]? =ae o/\sa.h=s.h/\sa.next=s.next/\sa.ng=s.ng/\jO P sa (evC ops sa f g.ch y.1) o=ae (y.2.2,z,sb)/\SOK sb
theorem HR{LA:df cz}{a:Act}{l:ab (aq×aq×af)}{f:HF}{i:aq}(h:R w0 μ s w)(ha:AR μ f a)(hc:GIc ops μ LA a l)(hr:i∈du .any ops LA):∀ x v,evC ops s f l i x=ae v->VR μ v (a.eval x):=by
 intro x v hx;unfold evC at hx;split at hx
 ·rename_i u hu;cases hx;exact eC h ha _ _ hu
 ·split at hx
  ·rename_i d _;simp only[aj] at hx;obtain⟨y,hy,rfl⟩:=hx;have h1:=rv hy;simp only[bu,aI] at h1;obtain⟨p,_,_,h2⟩:=hc.mem (kx hy);have h3:=dM hr h1.2;obtain⟨_,_,h4⟩:=h2.resolve_left λhh=>by rw[bS hh.1] at h3;cases h3
   show VR μ _ (a.tmps.getD d undef);rw[<-h1.1];exact h4
  ·cases hx
theorem v8(hsel:jp ops=au){L LA:df cz}{K:ab GK}{X:ab (aq×aq×Obj)}{pend:ab (aq×bp aq)}{f:HF}{pc:ab (aq×aq×bp Obj)}{a:Act}{fuel f0:aq}(hm:Mom w0 P ops L LA K X pend s f pc μ a w fuel)(hE:ChE P ops K s f){g:GK}(hg:g∈K){i:aq}(hi:i∈g.ops)(hr:i∈du .any ops LA)(hf0:ops.size<=f0+cnt (LA.setIfInBounds i au).toList)(cont:∀ X' a' w',Mom w0 P ops L (LA.setIfInBounds i au) K X' pend s f pc μ a' w' f0->cJ P .any ops Q (Sp ops pc) f0 (LA.setIfInBounds i au) a' w'):wpOp P ops Q i (λa' w'=>Sp ops pc (LA.setIfInBounds i au) w'/\cJ P .any ops Q (Sp ops pc) f0 (LA.setIfInBounds i au) a' w') a w:=by
 have hG:=hm.g g hg;obtain⟨hst,hlt,oi,hoi,hgd⟩:=hG.st i hi;have hun:=(mem_ready.1 hr).1;have hik:i∈cG K:=mem_kops.2 ⟨g,hg,hi⟩;have after:∀(di:aq)(v:af)(X':ab (aq×aq×Obj))(w':dh),oi.dst=ae di->(execOp a.eval oi).run P w=.ok (.value v) w'->(∀ x∈X,x∈X')->R (w0.hx X') μ s w'->(∀ b,b<w.heap.size->w'.heap[b]? =w.heap[b]?)->(∀ x∈X',w0.wr x.2.1)->(∀ x∈X',∀ y∈X',x≠y->x.2.1≠y.2.1)->GI P ops μ (LA.setIfInBounds i au) (a.put oi.dst v) X' g->wpOp P ops Q i (λa' w'=>Sp ops pc (LA.setIfInBounds i au) w'/\cJ P .any ops Q (Sp ops pc) f0 (LA.setIfInBounds i au) a' w') a w:=by
  intro di v X' w' hdi aW hX hR hb hxw hnd hGI;have hsp:Sp ops pc (LA.setIfInBounds i au) w':=by
   refine(EQ hst _ _).2 λy hy=>?_;rcases hm.sp y hy with h|h
   ·exact .inl h
   ·have hex:=hm.ex y hy;cases hO:y.2.2 with|none=>exact cp hO hex|some O'=>rw[hO] at h;exact .inr ((hb _ (cM h)).trans h)
  have hdv:jN (f.get di)=true:=hm.hv i hik di (by rw[cX hoi];exact hdi);have hmom:Mom w0 P ops L (LA.setIfInBounds i au) K X' pend s f pc μ (a.put oi.dst v) w' f0:=
   {size:=hm.size,sizeA:=by simpa using hm.sizeA,fuel:=hf0,up:=λj hj=>getD_set_true (hm.up j hj),dn:=λj hj=>(getD_setT.1 hj).elim (hm.dn j) λh=>.inr (h.1 ▸ hik),kn:=hm.kn,ap:=hm.ap,hv:=hm.hv,pcr:=hm.pcr,sp:=hsp,r:=hR,ar:=by rw[hdi];exact hm.ar.put_hv hdv v,ex:=hm.ex,xw:=hxw,nd:=hnd,g:=λg' hg'=>by
     by_cases he:g=g'
     ·subst he;exact hGI
     ·exact R6 hsel hoi hX (hm.g g' hg') (hm.ap g hg g' hg' he i hi)}
  have:=cont X' _ _ hmom;unfold wpOp;simp only[hoi,ly,hgd,if_true];refine .inl ?_;unfold uv;rw[aW,Oper.upon_value];exact⟨hsp,this⟩
 cases hc:fU g with
 |true=>
  rw[GI.chain hc] at hG;rw[GK.ops_chain hc] at hi;obtain⟨y,hy,rfl⟩:=fi.1 hi;obtain⟨o2,sa,sb,z,e1,e2,e3,e4,e5,e6⟩:=hE g hg y hy;rw[hoi] at e1;cases e1;have hR:R (w0.hx X) μ sa w:=hm.r.same e2 e3 e4;obtain⟨v',b,q1,q2,q3⟩:=(rD hR (HR hR hm.ar hG hr) e5).2 e6;obtain⟨p,_,⟨o3,p1,p2,p3,p4,p5⟩,_⟩:=hG.mem hy;rw[hoi] at p1;cases p1;have hup:∀ j,LA.getD j aa=au->(LA.setIfInBounds y.1 au).getD j aa=true:=λj hj=>getD_set_true hj;refine after y.2.1 v' X w p3 (q1 w q3) (λx hx=>hx) hm.r (λ_ _=>rfl) hm.xw hm.nd ((GI.chain hc).2 ⟨λp x q e=>?_,hG.2⟩);obtain⟨⟨ox,x1,x2,x3,x4,x5⟩,x6⟩:=hG.1 p x q e;refine⟨⟨ox,x1,x2,x3,by rw[eR];exact x4,x5⟩,?_⟩;by_cases hxy:x.1=y.1
  ·have hxe:x=y:=by
    have hx:x∈g.ch:=by rw[e];simp
    by_cases he:x=y
    ·exact he
    ·exfalso;have:=hG.2;obtain⟨i1,hi1,hi1'⟩:=oz.1 hx;obtain⟨i2,hi2,hi2'⟩:=oz.1 hy;have hp:=pg.1 this;rcases Nat.lt_trichotomy i1 i2 with h|h|h
     ·exact(hp i1 i2 hi1 hi2 h).1 (by rw[hi1',hi2',hxy])
     ·subst h;exact he (hi1'.symm.trans hi2')
     ·exact(hp i2 i1 hi2 hi1 h).1 (by rw[hi1',hi2',hxy])
   subst hxe;exact .inr ⟨getD_setT.2 (.inr ⟨rfl,by rw[hm.sizeA];exact hlt⟩),λoj hoj e he hb=>by
    obtain⟨_,o4,ho4,hw4⟩:=mem_ready.1 hr;rw[hoj] at ho4;cases ho4;exact .inl (hup _ (hw4 e he hb)),by rw[p3,gX p4];exact q2⟩
  ·have hdd:x.2.1≠y.2.1:=by
    have hx:x∈g.ch:=by rw[e];simp
    have:=hG.2;obtain⟨i1,hi1,hi1'⟩:=oz.1 hx;obtain⟨i2,hi2,hi2'⟩:=oz.1 hy;have hp:=pg.1 this;rcases Nat.lt_trichotomy i1 i2 with h|h|h
    ·have:=(hp i1 i2 hi1 hi2 h).2;rwa [hi1',hi2'] at this
    ·subst h;exact cp (by rw[<-hi1',<-hi2']) hxy
    ·have:=(hp i2 i1 hi2 hi1 h).2;rw[hi1',hi2'] at this;exact lv this
   rcases x6 with⟨k1,k2⟩|⟨k1,k3,k2⟩
   ·exact .inl ⟨by rw[getD_set_ne au (lv hxy)];exact k1,k2.mono hup⟩
   ·exact .inr ⟨hup _ k1,k3.mono hup,by rw[p3,jT (λhh=>hdd (gf hh).symm)];exact k2⟩
 |false=>
 rw[GI.alloc hc] at hG;simp only[GI.alloc hc] at after;obtain⟨⟨ok,d,h1,h2,h3,h4,h5,h6⟩,hl⟩:=hG;have hdk:eM ops g.k=ae d:=(cX h1).trans h3;by_cases hk:i=g.k
 ·subst hk;rw[h1] at hoi;cases hoi;rcases h6 with⟨k1,k2,O,room,u,k3,k4,k5⟩|⟨k1,_⟩
  ·have hR:=BG hm.r g.k O;have hbl:∀ b,b<w.heap.size->(w.alloc O).heap[b]? =w.heap[b]? :=λb hb=>((Below.refl _ _).alloc (cw _) O).block b hb;have hwr:w0.wr w.heap.size:=w0.fresh w _ hm.r.below.1 (cw _);have hold:∀ x∈X,x.2.1<w.heap.size:=λx hx=>cM (hm.r.below.2 x hx);refine after d (u w.heap.size) ((g.k,w.heap.size,O)::X) _ h3 (k3 w) (λx hx=>ep _ hx) hR hbl (λx hx=>?_) (λx hx y hy hne=>?_) ⟨⟨_,d,h1,h2,h3,by rw[eR];exact h4,h5,.inr ⟨?_,w.heap.size,O,room,fd ..,k4,λν j hj=>?_⟩⟩,?_⟩
   ·rcases ci.1 hx with rfl|hx
    ·exact hwr
    ·exact hm.xw x hx
   ·rcases ci.1 hx with rfl|hx
    ·rcases ci.1 hy with rfl|hy
     ·exact cp rfl hne
     ·have:=hold y hy;dsimp only;omega
    ·rcases ci.1 hy with rfl|hy
     ·have:=hold x hx;dsimp only;omega
     ·exact hm.nd x hx y hy hne
   ·exact getD_setT.2 (.inr ⟨rfl,by rw[hm.sizeA];exact hlt⟩)
   ·rw[h3,gX h4];exact k5 ν j _ hj
   ·unfold GIl at hl ⊢;split at hl
    ·trivial
    ·rename_i b c v0 hlt';obtain⟨d',db,dc,z,n,cs,e,tt,hf,g1,g2⟩:=hl;obtain⟨ob,idx,t,kd,e',ii,len,cap,b1,b2,b3,b4,b5,b6,b7,b8,b9⟩:=hf.ob;have hdd:d'=d:=by have:=hf.dk;rw[hdk] at this;cases this;rfl
     subst hdd;have hbk:b≠g.k:=λhh=>by have:=hf.wt.1;rw[hh] at this;have:=dM hr this;rw[bS hun] at this;cases this
     have hu1:LA.getD b au=aa/\wsat ops LA [g.k] b:=g1.resolve_right λhh=>by rw[bS hun] at hh;exact cp hh.2.1 qS
     have hu2:LA.getD c au=aa/\wsat ops LA [g.k,b] c:=g2.resolve_right λhh=>by rw[bS hu1.1] at hh;exact cp hh.2.1 qS
     have hck:c≠g.k:=λhh=>by have:=hf.wt.2;rw[hh] at this;have:=dM hr this;rw[bS hu1.1] at this;cases this
     have hup:∀ j,LA.getD j aa=au->(LA.setIfInBounds g.k au).getD j aa=true:=λj hj=>getD_set_true hj;refine⟨d',db,dc,z,n,cs,e,tt,{hf with ob:=⟨ob,idx,t,kd,e',ii,len,cap,b1,b2,b3,b4,b5,b6,b7,?_,b9⟩,lt:=by rw[eR];exact hf.lt},.inl ⟨?_,hu1.2.mono hup⟩,.inl ⟨?_,hu2.2.mono hup⟩⟩
     ·rw[h3,uw]
      ·exact b8
      ·intro x hx hh;cases hx;rw[hh] at b5;simp[isT] at b5
     ·rw[getD_set_ne au (lv hbk)];exact hu1.1
     ·rw[getD_set_ne au (lv hck)];exact hu2.1
  ·rw[bS hun] at k1;cases k1
 ·rw[GK.ops_alloc hc] at hi;unfold GIl at hl;split at hi
  ·rename_i b c v0 hlt';rw[hlt'] at hl;obtain⟨d',db,dc,z,n,cs,e,tt,hf,g1,g2⟩:=hl;obtain⟨ob,idx,t,kd,e',ii,len,cap,b1,b2,b3,b4,b5,b6,b7,b8,b9,b10,b11,b12,b13,b14,b15⟩:=hf.ob;obtain⟨oc,c1,c2,c3,c4⟩:=hf.oc;have hdd:d'=d:=by have:=hf.dk;rw[hdk] at this;cases this;rfl
   subst hdd;have hup:∀ j,LA.getD j aa=au->(LA.setIfInBounds i au).getD j aa=true:=λj hj=>getD_set_true hj;have htop:(LA.setIfInBounds i au).getD i aa=true:=getD_setT.2 (.inr ⟨rfl,by rw[hm.sizeA];exact hlt⟩);simp only[ci,fe,or_false] at hi;have hi:=hi.resolve_left hk;have same:∀(v:af)(di:aq),oi.dst=ae di->di≠d'->GIa P ops μ (LA.setIfInBounds i au) (a.put oi.dst v) X g:=by
    intro v di hdi hne;refine⟨ok,d',h1,h2,h3,by rw[eR];exact h4,h5,?_⟩;rcases h6 with⟨k1,k2,_⟩|⟨k1,bb,O,room,k2,k3,k4⟩
    ·exfalso;rcases hi with rfl|rfl
     ·have:=dM hr hf.wt.1;rw[bS k1] at this;cases this
     ·have hb:=dM hr hf.wt.2;rcases g1 with⟨m1,_⟩|⟨_,m2,_⟩
      ·rw[bS m1] at hb;cases hb
      ·rw[bS k1] at m2;cases m2
    ·exact .inr ⟨hup _ k1,bb,O,room,k2,k3,by rw[hdi,jT (λhh=>hne (by cases hh;rfl))];exact k4⟩
   have hidx:∀(v:af)(di:aq),isT di idx=aa->(a.put (ae di) v).eval idx=.int kd n:=λv di hdi=>by
    rw[uw]
    ·exact b8
    ·intro x hx hh;cases hx;rw[hh] at hdi;simp only[isT,(aI _ _).2 rfl] at hdi;cases hdi
   rcases hi with rfl|rfl
   ·rw[b1] at hoi;cases hoi;have hkl:=dM hr hf.wt.1;obtain⟨_,bb,O,room,k2,k3,k4⟩:=h6.resolve_left λhh=>by rw[bS hh.1] at hkl;cases hkl
    have hu2:LA.getD c au=aa/\wsat ops LA [g.k,i] c:=g2.resolve_right λhh=>by rw[bS hun] at hh;exact cp hh.2.1 qS
    have hci:c≠i:=λhh=>by have:=hf.wt.2;rw[hh] at this;have:=dM hr this;rw[bS hun] at this;cases this
    have hval:a.tmps.getD d' undef=.slice (ae ⟨bb,0,av⟩) len cap:=by
     have:=k4 ⟨λ_=>ae ⟨bb,0,room,eJ⟩,λ_=>av⟩ 0 rfl;rw[b12] at this;have h7:VR ⟨λ_=>ae ⟨bb,0,room,eJ⟩,λ_=>av⟩ (.slice (ae ⟨0,0,av⟩) len cap) (a.tmps.getD d' undef):=this;generalize a.tmps.getD d' undef=y at h7;rcases h7.slice_inv with⟨i2,o2,p2,he,hp,_,rfl⟩|⟨_,_,_,z2,_,_,hcz,_⟩|⟨z2,_,hcz,_⟩
     ·cases he;cases hp;rfl
     ·exfalso;omega
     ·exfalso;omega
    have aW:(execOp a.eval oi).run P w=.ok (.value (.pointer (ae ⟨bb,n.toNat*z,av⟩))) w:=by unfold execOp;rw[b4];simp only;have e1:a.eval (.tmp d')=.slice (ae ⟨bb,0,av⟩) len cap:=hval;rw[e1,b8];have c3:n<(len:br):=qO;simp[Instr.indexAt,asIntOf,run_underlying b9,b14,c3,sizeOf,typeInfo,b10,bO,b11]
    refine after db _ X w b3 aW (λx hx=>hx) hm.r (λ_ _=>rfl) hm.xw hm.nd ⟨same _ db b3 (lv hf.ne.1),?_⟩;unfold GIl;rw[hlt'];refine⟨d',db,dc,z,n,cs,e,tt,{hf with ob:=⟨oi,idx,t,kd,e',ii,len,cap,b1,b2,b3,b4,b5,b6,b7,by rw[b3];exact hidx _ db b6,b9,b10,b11,b12,b13,b14,b15⟩,lt:=by rw[eR];exact hf.lt},.inr ⟨htop,hup _ hkl,bb,O,room,k2,k3,by rw[b3,gX hf.lt.1]⟩,.inl ⟨?_,hu2.2.mono hup⟩⟩;rw[getD_set_ne au (lv hci)];exact hu2.1
   ·rw[c1] at hoi;cases hoi;have hbl:=dM hr hf.wt.2;obtain⟨_,k1,blk,O,room,k2,k3,k4⟩:=g1.resolve_left λhh=>by rw[bS hh.1] at hbl;cases hbl
    obtain⟨s1,s2,opl,hld,hok⟩:=hf.ld;have hO:=hm.r.below.2 _ k2;dsimp only at hO;rw[hf.o] at k3;obtain⟨op,c',e2,cur,q1,q2,q3,q4,q5⟩:=k3.resolve_right λhh=>by cases hh.1
    cases q1;subst q2;have hrd:=iZ (P:=P) (Q:=λw'=>w'.heap[blk]? =w.heap[blk]?) (b:=blk) (o:=n.toNat*z) (μ:=μ) hld (λm l s3 hr3 ok3=>by
     obtain⟨hle,hr4⟩:=(cK hr3).2 ok3;obtain⟨p1,p2⟩:=qQ q5 hle;rw[Nat.zero_add] at p1 p2;refine⟨(cur.toList.drop (n.toNat*z)).take m,p1,?_,λw' hw'=>fX (hw'.trans hO)⟩;rw[<-hr4];exact VRs.of_get (by rw[p1];simp;omega) λj v v' hv hv'=>(p2 j v v' hv hv').vr) hok
    obtain⟨x',hx1,hx2⟩:=hrd;have hxx:=jD 6 _ _ hf.flat hx1;subst hxx;have aW:(execOp a.eval oi).run P w=.ok (.value v0) w:=by unfold execOp;rw[c4];simp only;have e1:a.eval (.tmp db)=.pointer (ae ⟨blk,n.toNat*z,av⟩):=k4;rw[e1];have:=hx2 w rfl;simp[Instr.loadAt,Instr.sureAddr,this]
    refine after dc _ X w c3 aW (λx hx=>hx) hm.r (λ_ _=>rfl) hm.xw hm.nd ⟨same _ dc c3 (lv hf.ne.2.1),?_⟩;unfold GIl;rw[hlt'];refine⟨d',db,dc,z,n,cs,e,tt,{hf with ob:=⟨ob,idx,t,kd,e',ii,len,cap,b1,b2,b3,b4,b5,b6,b7,by rw[c3];exact hidx _ dc b7,b9,b10,b11,b12,b13,b14,b15⟩,lt:=by rw[eR];exact hf.lt},.inr ⟨hup _ hbl,hup _ k1,blk,_,room,k2,by rw[hf.o];exact .inl ⟨_,_,_,_,rfl,rfl,q3,q4,q5⟩,by rw[c3,jT (λhh=>hf.ne.2.2 (by cases hh;rfl))];exact k4⟩,.inr ⟨htop,hup _ hbl,by rw[c3,gX hf.lt.2]⟩⟩
  ·simp only[ci,fe,or_false] at hi;exact cp hi hk
end
section
variable{w0:Base}{μ:Mu}{s:St}{w:dh}{P:cq}{ops:df gg}{Q:Exit->Act->dh->Prop}
theorem A7{K:ab GK}{L:df cz}{i:aq}(h:yR ops K L i=au):i∈du .any ops L/\Region.free .any ops L i=au/\eZ ops i=aa/\¬qF .any ops (eZ ops) i L/\i∉cG K/\∀ k∈cG K,bV ops i k=true:=by
 unfold yR at h;simp only[bu] at h;obtain⟨⟨⟨⟨⟨h1,h2⟩,h3⟩,h4⟩,h5⟩,h6⟩:=h;refine⟨by simpa using h1,h2,by simpa using h3,?_,λhk=>?_,by simpa using h6⟩
 ·rintro⟨c,k1,k2,k3⟩;rw[fq] at h4;have hc:c<ops.size:=by unfold eZ isK at k1;cases ho:ops[c]? with|none=>rw[ho] at k1;cases k1|some o=>exact(ft.1 ho).1
  have:=h4 c (List.mem_range.2 hc);rw[k1,k2,k3] at this;cases this
 ·rw[hasN_iff.2 hk] at h5;cases h5
theorem G9{K:ab GK}{L:df cz}{c:aq}(h:SA ops K L c=au):eZ ops c=au/\c∈du .any ops L/\(∀ j∈du .any ops (bG L (cG K)),j=c)/\c∉cG K/\∀ k∈cG K,bV ops c k=true:=by
 unfold SA at h;simp only[bu] at h;obtain⟨⟨⟨⟨h1,h2⟩,h3⟩,h4⟩,h5⟩:=h;refine⟨h1,by simpa using h2,λj hj=>?_,λhk=>?_,by simpa using h5⟩
 ·rw[fq] at h3;exact((aI _ _).1 (h3 j hj)).symm
 ·rw[hasN_iff.2 hk] at h4;cases h4
theorem fQ{f f':HF}{d:bp aq}{v:af}(h:f.put d v=ae f'){e:aq}(he:d≠ae e):f'.get e=f.get e:=by cases d with|none=>cases h;rfl|some d=>simp only[HF.put] at h;obtain⟨_,h⟩:=aD h;simp only[aj] at h;obtain⟨t,ht,rfl⟩:=h;unfold HF.get;simp only;rw[jh 64 f.t t d v ht,eh (λhh=>he (by rw[hh]))]
theorem put_same{f f':HF}{d:aq}{v:af}(h:f.put (ae d) v=ae f'):f'.get d=v:=by simp only[HF.put] at h;obtain⟨_,h⟩:=aD h;simp only[aj] at h;obtain⟨t,ht,rfl⟩:=h;unfold HF.get;simp only;rw[jh 64 f.t t d v ht,fc rfl];rfl
theorem PR{f f':HF}{d:bp aq}{v:af}(h:f.put d v=ae f'):f'.n=f.n/\f'.ds=f.ds:=by cases d with|none=>cases h;exact⟨rfl,rfl⟩|some d=>simp only[HF.put] at h;obtain⟨_,h⟩:=aD h;simp only[aj] at h;obtain⟨t,ht,rfl⟩:=h;exact⟨rfl,rfl⟩
theorem AR.forget{f f':HF}{a:Act}(h:AR μ f a){d:aq}(hf:f.put (ae d) hvc=ae f'):AR μ f' a:=by
 obtain⟨h1,h2⟩:=PR hf;refine⟨by rw[h1];exact h.size,λe he hv=>?_,by rw[h2];exact h.ds⟩;by_cases hed:d=e
 ·subst hed;rw[put_same hf] at hv;cases hv
 ·rw[fQ hf (λhh=>hed (by cases hh;rfl))] at hv ⊢;exact h.vals e (by rw[<-h1];exact he) hv
theorem AR.learn{f f':HF}{a:Act}(h:AR μ f a){d:aq}{v:af}(hf:f.put (ae d) v=ae f')(hv:VR μ v (a.tmps.getD d undef)):AR μ f' a:=by
 obtain⟨h1,h2⟩:=PR hf;refine⟨by rw[h1];exact h.size,λe he hv'=>?_,by rw[h2];exact h.ds⟩;by_cases hed:d=e
 ·subst hed;rw[put_same hf];exact hv
 ·rw[fQ hf (λhh=>hed (by cases hh;rfl))] at hv' ⊢;exact h.vals e (by rw[<-h1];exact he) hv'
theorem CD{S:df cz->dh->Prop}{L:df cz}{a:Act}(hr:du .any ops L=[])(h:Q .normal a w):∀ fuel,cJ P .any ops Q S fuel L a w
 |0=>⟨hr,h⟩|_+1=>⟨λ_=>h,by rw[hr];simp⟩
theorem O6{L LA:df cz}{K:ab GK}{X:ab (aq×aq×Obj)}{pend:ab (aq×bp aq)}{f:HF}{pc:ab (aq×aq×bp Obj)}{a:Act}{fuel:aq}(hm:Mom w0 P ops L LA K X pend s f pc μ a w fuel){i:aq}(h:qF .any ops (eZ ops) i LA):qF .any ops (eZ ops) i L:=by
 obtain⟨c,h1,h2,h3⟩:=h;rcases hm.dn c h2 with h|h
 ·exact⟨c,h1,h,h3⟩
 ·obtain⟨g,hg,hc⟩:=mem_kops.1 h;rw[((hm.g g hg).st c hc).1] at h1;cases h1
theorem Mom.list(hsel:jp ops=au){L LA:df cz}{K:ab GK}{X:ab (aq×aq×Obj)}{pend pend':ab (aq×bp aq)}{f f':HF}{pc pc':ab (aq×aq×bp Obj)}{a a':Act}{fuel f0:aq}{s':St}{μ':Mu}{w':dh}(hm:Mom w0 P ops L LA K X pend s f pc μ a w fuel){i:aq}{o:gg}(ho:ops[i]? =ae o)(hik:i∉cG K)(hap:∀ k∈cG K,bV ops i k=au)(hfu:ops.size<=f0+cnt (LA.setIfInBounds i au).toList)(hle:μ.le μ'){v:af}(ha:a'.tmps=(a.put o.dst v).tmps)(hf:∃u,f.put o.dst u=ae f')(hpcr:PCR μ' pend' pc')(hsp:Sp ops pc' (LA.setIfInBounds i au) w')(hr:R (w0.hx X) μ' s' w')(har:AR μ' f' a')(hex:∀ y∈pc',y.2.2≠av):Mom w0 P ops (L.setIfInBounds i au) (LA.setIfInBounds i au) K X pend' s' f' pc' μ' a' w' f0:=
 {size:=by simpa using hm.size,sizeA:=by simpa using hm.sizeA,fuel:=hfu,up:=λj hj=>getD_setT.2 ((getD_setT.1 hj).imp (hm.up j) λh=>⟨h.1,by rw[hm.sizeA,<-hm.size];exact h.2⟩),dn:=λj hj=>(getD_setT.1 hj).elim (λh=>(hm.dn j h).imp (λh=>getD_set_true h) id) λh=>.inl (getD_setT.2 (.inr ⟨h.1,by rw[hm.size,<-hm.sizeA];exact h.2⟩)),kn:=hm.kn,ap:=hm.ap,hv:=λj hj d hd=>by
   obtain⟨u,hu⟩:=hf
   obtain⟨g,hg,hjg⟩:=mem_kops.1 hj
   obtain⟨_,_,oj,hoj,_⟩:=(hm.g g hg).st j hjg
   have hd':oj.dst=ae d:=by rw[<-cX hoj];exact hd
   rw[fQ hu (λhh=>(dO (hap j hj) ho hoj).2.1 d hh hd')]
   exact hm.hv j hj d hd,
  pcr:=hpcr,sp:=hsp,r:=hr,ar:=har,ex:=hex,xw:=hm.xw,nd:=hm.nd,
  g:=λg hg=>(hm.g g hg).move hsel hle (λx hx _=>hx) (λj hj=>getD_set_true hj) (λk hk=>getD_set_ne au λhh=>hik (hh ▸ mem_kops.2 ⟨g,hg,hk⟩)) (by rw[ha,eR]) (λk hk ok hok x hx=>by
    have e1:a'.eval x=(a.put o.dst v).eval x:=by cases x<;>simp[Act.eval,ha]
    rw[e1]
    exact xZ (dO (hap k (mem_kops.2 ⟨g,hg,hk⟩)) ho hok).1 x hx)
   (λk hk d hd=>by
    obtain⟨_,_,ok,hok,_⟩:=(hm.g g hg).st k hk;have hd':ok.dst=ae d:=by rw[<-cX hok];exact hd
    rw[ha];exact jT λhh=>(dO (hap k (mem_kops.2 ⟨g,hg,hk⟩)) ho hok).2.1 d hh hd')}
theorem sC{L LA:df cz}{K:ab GK}{X:ab (aq×aq×Obj)}{i:aq}{o:gg}{pend:ab (aq×bp aq)}{f:HF}{pc:ab (aq×aq×bp Obj)}{a:Act}{fuel:aq}(hsel:jp ops=au)(hQ:∀ c a w,¬Q (.panic c) a w)(ho:ops[i]? =ae o)(hok:yR ops K L i=au)(hm:Mom w0 P ops L LA K X pend s f pc μ a w fuel){v:af}{T:dh->Prop}(hy:YieldsIf P ops T o v a)(hT:T w){pc':ab (aq×aq×bp Obj)}{pend':ab (aq×bp aq)}{f':HF}(hpc:PCR μ pend' pc')(hex:∀ y∈pc',y.2.2≠av)(hsp:∀ l w',(Sp ops pc l w'/\(qF .any ops (eZ ops) i l\/T w'))↔Sp ops pc' l w')(har:AR μ f' (a.put o.dst v))(hf:∃u,f.put o.dst u=ae f')(cont:∀ f0,f0<fuel->Mom w0 P ops (L.setIfInBounds i au) (LA.setIfInBounds i au) K X pend' s f' pc' μ (a.put o.dst v) w f0->cJ P .any ops Q (Sp ops pc') f0 (LA.setIfInBounds i au) (a.put o.dst v) w):cJ P .any ops Q (Sp ops pc) fuel LA a w:=by
 obtain⟨h1,h2,h3,h4,h5,h6⟩:=A7 hok;have hr:=hm.ready_of h1 h5;obtain⟨f0,rfl,hf0⟩:=eL hm.sizeA hr hm.fuel;have hc:¬qF .any ops (eZ ops) i LA:=λh=>h4 (O6 hm h);refine yD ho h3 (Region.noSelect_spec hsel) (λc a w h=>cp h (hQ _ _ _)) (λl w'=>EQ h3 l w') f0 LA a w ?_ hr hc hy hT hm.sp ?_
 ·intro j oj hj hji hun hno;refine Region.free_spec ho h2 j oj hj hji ?_ hno;refine rP (by rw[hm.size];exact(ft.1 hj).1) λhh=>?_;have:=hm.up j hh;rw[bS hun] at this;cases this
 ·have hsp':Sp ops pc' (LA.setIfInBounds i au) w:=(hsp _ _).1 ⟨(EQ h3 _ _).2 hm.sp,.inr hT⟩;have:=cont f0 qO (hm.list hsel ho h5 h6 hf0 (gk _) (v:=v) rfl hf hpc hsp' hm.r har hex);exact mS (λl w' h=>(hsp l w').2 h) _ _ _ _ this
theorem zY{pend:ab (aq×bp aq)}{pc:ab (aq×aq×bp Obj)}{c:aq}(hpc:PCR μ pend pc){y:aq×aq×bp Obj}(hy:y∈pc)(hw:fj .any ops c y.1=aa):∃x∈pend.filter (λx=>!fj .any ops c x.1),BlkZ μ x.2 y.2.1:=by obtain⟨x,h1,h2,h3⟩:=hpc.mem y hy;exact⟨x,jq.2 ⟨h1,by rw[h2,hw];rfl⟩,h3⟩
theorem F8(hg:NoG P){call:aS}(hc:aR P call)(hsel:jp ops=au){L LA:df cz}{K:ab GK}{X:ab (aq×aq×Obj)}{c:aq}{o:gg}{pend:ab (aq×bp aq)}{f f2:HF}{pc:ab (aq×aq×bp Obj)}{a:Act}{fuel f0:aq}{s1 s2 s3:St}{rs:ab (aq×gh)}(ho:ops[c]? =ae o)(hst:eZ ops c=au)(hck:c∉cG K)(hap:∀ k∈cG K,bV ops c k=au)(hm:Mom w0 P ops L LA K X pend s f pc μ a w fuel)(hl:eK s (pend.filter λx=>!fj .any ops c x.1)=ae (s1,rs))(hs:j4 P call ops.toList o s1 f=ae (s2,f2))(hf:∃u,f.put o.dst u=ae f2)(hu:fA s2 rs=ae s3)(ok:SOK s3)(hf0:ops.size<=f0+cnt (LA.setIfInBounds c au).toList)(cont:∀ μ' a' w' pc',μ.le μ'->Mom w0 P ops (L.setIfInBounds c au) (LA.setIfInBounds c au) K X (pend.filter λx=>!fj .any ops c x.1) s3 f2 pc' μ' a' w' f0->cJ P .any ops Q (Sp ops pc') f0 (LA.setIfInBounds c au) a' w'):wpOp P ops Q c (λa' w'=>Sp ops pc (LA.setIfInBounds c au) w'/\cJ P .any ops Q (Sp ops pc) f0 (LA.setIfInBounds c au) a' w') a w:=by
 obtain⟨w1,k1,k2,k3⟩:=wV _ _ s s1 rs hm.r hl;have hclt:c<LA.size:=by rw[hm.sizeA];exact(ft.1 ho).1
 have hcl:(LA.setIfInBounds c au).getD c aa=true:=getD_setT.2 (.inr ⟨rfl,hclt⟩);have hconf:∀ l:df cz,l.getD c aa=au->∀ i,fj .any ops c i=au->qF .any ops (eZ ops) i l:=λl hl i hi=>⟨c,hst,hl,hi⟩;have key:∀(v':af)(w':dh)(μ':Mu),μ.le μ'->R w1 μ' s2 w'->AR μ' f2 (a.put o.dst v')->Sp ops pc (LA.setIfInBounds c au) w'/\cJ P .any ops Q (Sp ops pc) f0 (LA.setIfInBounds c au) (a.put o.dst v') w':=by
  intro v' w' μ' hle hR hA;obtain⟨m1,m2⟩:=k2 w' hR.below;have hsp:Sp ops pc (LA.setIfInBounds c au) w':=by
   intro y hy;cases hw:fj .any ops c y.1 with
   |true=>exact .inl (hconf _ hcl _ hw)
   |false=>
    rcases hm.sp y hy with hcf|heq
    ·exact .inl (HU hcf)
    ·obtain⟨z,z1,z2⟩:=zY hm.pcr hy hw;have fzc:∀ O,μ.fz y.2.1=ae O->w'.heap[y.2.1]? =w.heap[y.2.1]? :=λO hO=>(hR.fz _ _ (hle.fz _ _ hO)).trans (hm.r.fz _ _ hO).symm;obtain⟨zi,zz⟩:=z;cases zz with
     |none=>obtain⟨O,hO⟩:=z2;exact .inr ((fzc O hO).trans heq)
     |some zz=>
      obtain⟨p,z3,z4⟩:=z2;have:=m2 _ z1 zz p rfl z3;rw[z4] at this;rcases this with this|⟨O,hO⟩
      ·exact .inr (this.trans heq)
      ·exact .inr ((fzc O hO).trans heq)
  refine⟨hsp,?_⟩;have hsp':Sp ops (pc.filter λy=>!fj .any ops c y.1) (LA.setIfInBounds c au) w':=λy hy=>hsp y (jq.1 hy).1;have:=cont μ' (a.put o.dst v') w' (pc.filter λy=>!fj .any ops c y.1) hle (hm.list hsel ho hck hap hf0 hle (v:=v') rfl hf ((hm.pcr.mono hle).filter (λj=>!fj .any ops c j)) hsp' (k3 μ' s2 s3 w' hle hR hu) hA (λy hy=>hm.ex y (jq.1 hy).1));refine tC (c:=c) (λl w'' hlc h y hy=>?_) f0 _ _ _ hcl this;cases hw:fj .any ops c y.1 with|true=>exact .inl (hconf _ hlc _ hw)|false=>exact h y (jq.2 ⟨hy,by rw[hw];rfl⟩)
 have ok2:SOK s2:=λp hp=>ok p (by rw[qJ _ _ _ hu];exact hp);have j4:=(BH (w0:=w1) hg hc k1 hm.ar hs).2 ok2 (Q:=Q) (K:=λa' w'=>Sp ops pc (LA.setIfInBounds c au) w'/\cJ P .any ops Q (Sp ops pc) f0 (LA.setIfInBounds c au) a' w') key;unfold wpOp;simp only[ho];split
 ·rename_i hw;rw[fc hw] at j4;exact .inl j4
 ·rename_i hw;rw[eh hw] at j4;exact j4
theorem KJ{call:aS}{o:gg}{s':St}{f f':HF}{r:HN×St}(hs:BN call o f r=ae (s',f')):∃u,f.put o.dst u=ae f':=by
 unfold BN at hs;split at hs
 ·simp only[aj,bn] at hs;obtain⟨f2,hf2,_,rfl⟩:=hs;exact⟨_,hf2⟩
 ·simp only[aj,bn] at hs;obtain⟨f2,hf2,_,rfl⟩:=hs;exact⟨_,hf2⟩
 ·split at hs
  ·simp only[aj,bn] at hs;obtain⟨f2,hf2,_,rfl⟩:=hs;exact⟨_,hf2⟩
  ·cases hs
 ·cases hs
theorem HK{call:aS}{l:ab gg}{o:gg}{s s':St}{f f':HF}(hs:j4 P call l o s f=ae (s',f')):∃u,f.put o.dst u=ae f':=by
 unfold j4 at hs;split at hs
 ·cases hs
 ·simp only[aj,bn] at hs;obtain⟨f2,hf2,_,rfl⟩:=hs;exact⟨_,hf2⟩
 ·split at hs
  ·exact KJ hs
  ·cases hs
end
section
variable{w0:Base}{μ:Mu}{s:St}{w:dh}{P:cq}{ops:df gg}{Q:Exit->Act->dh->Prop}{f:HF}{a:Act}
theorem fF{ev:im->bp af}{o:gg}{v:af}{z:bp (bp aq)}{s1 s2:St}(hv:jO P s1 ev o=ae (v,z,s2)):s1.like s2:=by
 unfold jO at hv;split at hv
 ·rename_i hp;cases hv;exact vR hp
 ·split at hv
  ·split at hv
   ·simp only[aj,bn] at hv;obtain⟨⟨r,s3⟩,hl,_,_,rfl⟩:=hv;exact pZ hl
   ·cases hv
  ·split at hv
   ·simp only[aj,bn] at hv;obtain⟨⟨r,s3⟩,hl,_,_,rfl⟩:=hv;exact lY hl
   ·simp only[aj,bn] at hv;obtain⟨⟨r,s3⟩,hl,_,_,rfl⟩:=hv;exact lY hl
   ·cases hv
  ·cases hv
theorem xP{d:aq}{g:GK}{b c db dc:aq}{v0:af}{s':St}(h:KL P ops s f d g b c=ae (db,dc,v0,s')):s.like s':=by
 unfold KL at h;split at h
 ·split at h
  ·split at h
   ·split at h
    ·obtain⟨_,h⟩:=aD h;split at h
     ·rename_i s1 hn;split at h
      ·rename_i v0' s2 hl;obtain⟨_,h⟩:=aD h;cases h;exact(bA hn).1.trans (gU (λn l s' hr=>(cK hr).1) hl)
      ·cases h
     ·cases h
    ·cases h
   ·cases h
  ·cases h
 ·cases h
theorem CO{v v':af}{s s':St}(h:IS v v' s=ae s'):s.like s'/\(SOK s'->v=v'):=by
 unfold IS at h;cases ho:s.opn with
 |true=>rw[ho] at h;exact aY h
 |false=>
  rw[ho] at h;obtain⟨hb,h⟩:=aD (show(bif veq v v' then ae s else av)=ae s' from h);cases h;refine⟨s.like_refl,λ_=>?_⟩;unfold veq at hb;split at hb
  ·simp only[beq_iff_eq] at hb;rw[hb]
  ·simp only[bu,decide_eq_true_eq,beq_iff_eq] at hb;rw[hb.1,hb.2]
  ·simp only[bu,aI] at hb;rw[hb.1,hb.2]
  ·rfl
  ·simp only[bu,aI] at hb;rw[hb.1.1.1,hb.1.1.2,hb.1.2,hb.2]
  ·simp only[bu,aI] at hb;rw[hb.1,hb.2]
  ·simp only[aI] at hb;rw[hb]
  ·cases hb
theorem GN{l:ab (aq×aq×af)}:∀{r:ab (aq×aq×af)}{s s':St},MU P ops f l r s=ae s'->s.like s'/\(SOK s'->∀ y∈r,∃(o:gg)(sa sb:St)(z:bp (bp aq)),ops[y.1]? =ae o/\sa.h=s'.h/\sa.next=s'.next/\sa.ng=s'.ng/\jO P sa (evC ops sa f l y.1) o=ae (y.2.2,z,sb)/\SOK sb):=by
 intro r;induction r with
 |nil=>intro s s' h;cases h;exact⟨s.like_refl,λ_ y hy=>by cases hy⟩
 |cons y r ih=>
  intro s s' h;simp only[MU] at h;split at h
  ·rename_i o ho;split at h
   ·rename_i v z s1 hv;split at h
    ·rename_i s2 hs;obtain⟨a1,a2⟩:=ih h;obtain⟨b1,b2⟩:=CO hs;have c1:=fF hv;have hall:=(c1.trans b1).trans a1;refine⟨hall,λok x hx=>?_⟩;rcases ci.1 hx with rfl|hx
     ·have ok2:=gd a1.sub ok;have e:=b2 ok2;subst e;exact⟨o,s,s1,z,ho,hall.h.symm,hall.next.symm,hall.ng.symm,hv,gd b1.sub ok2⟩
     ·exact a2 ok x hx
    ·cases h
   ·cases h
  ·cases h
theorem CV:∀{K:ab GK}{s s':St},E3 P ops f K s=ae s'->s.like s'/\(SOK s'->ChE P ops K s' f):=by
 intro K;induction K with
 |nil=>intro s s' h;cases h;exact⟨s.like_refl,λ_ g hg=>by cases hg⟩
 |cons g K ih=>
  intro s s' h;simp only[E3] at h;split at h
  ·rename_i s1 h1;obtain⟨a1,a2⟩:=GN h1;obtain⟨b1,b2⟩:=ih h;refine⟨a1.trans b1,λok g' hg' y hy=>?_⟩;rcases ci.1 hg' with rfl|hg'
   ·obtain⟨o,sa,sb,z,e1,e2,e3,e4,e5⟩:=a2 (gd b1.sub ok) y hy;exact⟨o,sa,sb,z,e1,e2.trans b1.h.symm,e3.trans b1.next.symm,e4.trans b1.ng.symm,e5⟩
   ·exact b2 ok g' hg' y hy
  ·cases h
theorem lW{α:Type}{K:ab GK}{s:St}{k:St->bp α}{x:α}(h:gT P ops K f s k=ae x):∃s',k s'=ae x/\s.like s'/\(SOK s'->ChE P ops K s' f):=by
 unfold gT at h;split at h
 ·rename_i s' hs;obtain⟨a,b⟩:=CV hs;exact⟨s',h,a,b⟩
 ·cases h
theorem lV{call:aS}(hc:aR P call):∀(l:ab PS)(L:df cz)(K:ab GK)(pend:ab (aq×bp aq))(s:St)(f:HF)(s':St)(f':HF),bU P call ops l L K pend s f=ae (s',f')->s.sub s':=by
 intro l;induction l with
 |nil=>intro L K pend s f s' f' h;simp only[bU] at h;obtain⟨_,h⟩:=aD h;cases h;exact s.sub_refl
 |cons st l ih=>
  intro L K pend s f s' f' h;have next:∀{L:df cz}{K K':ab GK}{pend:ab (aq×bp aq)}{s s2:St}{f f':HF},(gT P ops K' f s λs3=>bU P call ops l L K pend s3 f)=ae (s2,f')->s.sub s2:=λh=>by obtain⟨s3,h3,h4,_⟩:=lW h;exact dy h4.sub (ih _ _ _ _ _ _ _ h3)
  cases st with
  |take i=>
   simp only[bU] at h;split at h
   ·cases h
   ·obtain⟨_,h⟩:=aD h;split at h
    ·cases h
    ·rename_i hw;split at h
     ·exact dy (dR hw).sub (next h)
     ·cases h
    ·rename_i s1 hw;split at h
     ·rename_i v z s2 hv;split at h
      ·obtain⟨_,h⟩:=aD h;exact dy (dR hw).sub (dy (fF hv).sub (next h))
      ·cases h
     ·cases h
  |st c=>
   simp only[bU] at h;split at h
   ·cases h
   ·obtain⟨_,h⟩:=aD h;split at h
    ·rename_i s1 rs hl;split at h
     ·rename_i s2 f2 hs;split at h
      ·rename_i s3 hu;exact dy (St.sub_of (DE _ _ _ _ hl)) (dy (HJ hc hs) (dy (St.sub_of (qJ _ _ _ hu)) (next h)))
      ·cases h
     ·cases h
    ·cases h
  |flt k=>
   simp only[bU] at h;split at h
   ·cases h
   ·obtain⟨_,h⟩:=aD h;split at h
    ·split at h
     ·rename_i hf _;obtain⟨_,h⟩:=aD h;exact dy (xS hf).sub (next h)
     ·cases h
    ·cases h
  |lit a b c=>
   simp only[bU] at h;split at h
   ·obtain⟨_,h⟩:=aD h;split at h
    ·rename_i hl;split at h
     ·split at h
      ·obtain⟨_,h⟩:=aD h;exact dy (xP hl).sub (next h)
      ·cases h
     ·cases h
    ·cases h
   ·cases h
  |com k=>
   simp only[bU] at h;split at h
   ·obtain⟨_,h⟩:=aD h;split at h
    ·split at h
     ·exact next h
     ·cases h
    ·split at h
     ·split at h
      ·split at h
       ·rename_i t _ _ _ _;exact dy (b:={s with h:=_,next:=s.next+1}) ⟨[],rfl⟩ (next h)
       ·cases h
      ·cases h
     ·split at h
      ·split at h
       ·exact next h
       ·cases h
      ·cases h
   ·cases h
  |fly i=>
   simp only[bU] at h;split at h
   ·cases h
   ·obtain⟨_,h⟩:=aD h;split at h
    ·split at h
     ·rename_i hv _;obtain⟨_,h⟩:=aD h;exact dy (fF hv).sub (next h)
     ·cases h
    ·cases h
  |ext k i=>
   simp only[bU] at h;split at h
   ·split at h
    ·obtain⟨_,h⟩:=aD h;split at h
     ·rename_i hv _;exact dy (fF hv).sub (next h)
     ·cases h
    ·cases h
   ·cases h
  |ml a i j c d=>
   simp only[bU] at h;obtain⟨_,h⟩:=aD h;split at h
   ·exact next h
   ·cases h
theorem Mom.like{L LA:df cz}{K:ab GK}{X:ab (aq×aq×Obj)}{pend:ab (aq×bp aq)}{pc:ab (aq×aq×bp Obj)}{fuel:aq}{s':St}(hm:Mom w0 P ops L LA K X pend s f pc μ a w fuel)(h:s.like s'):Mom w0 P ops L LA K X pend s' f pc μ a w fuel:={hm with r:=hm.r.like h}
theorem OK{s s':St}{f:HF}{o:gg}{ho:gh}{v:FV}(h:BR P s f o=ae (ho,v,s'))(k:aq)(x:gh)(lt:bp (aq×aq×af)):fU ⟨k,x,v,lt⟩=false:=by
 unfold BR at h;split at h
 ·simp only[aj,bn] at h;obtain⟨_,_,_,rfl,_⟩:=h;rfl
 ·cases h;rfl
 ·split at h
  ·split at h
   ·obtain⟨_,h⟩:=aD h;simp only[aj,bn] at h;obtain⟨_,_,_,rfl,_⟩:=h;rfl
   ·cases h
  ·cases h
 ·split at h
  ·split at h
   ·obtain⟨_,h⟩:=aD h;split at h
    ·split at h
     ·obtain⟨_,h⟩:=aD h;cases h;rfl
     ·cases h;rfl
     ·cases h
    ·cases h
   ·cases h
  ·cases h
 ·cases h
theorem O0{L LA:df cz}{K:ab GK}{X:ab (aq×aq×Obj)}{pend:ab (aq×bp aq)}{pc:ab (aq×aq×bp Obj)}{fuel:aq}(hm:Mom w0 P ops L LA K X pend s f pc μ a w fuel){k d:aq}{ok:gg}{o:gh}{v:FV}{s1:St}{f1:HF}(hok:ops[k]? =ae ok)(hr:k∈du .any ops L)(hst:eZ ops k=aa)(hk:k∉cG K)(hap:∀ j∈cG K,bV ops k j=au/\bV ops j k=au)(hg:ok.guard=av)(hd:ok.dst=ae d)(hf:BR P s f ok=ae (o,v,s1))(hf1:f.put (ae d) hvc=ae f1)(hdn:d<f.n)(okS:SOK s1):Mom w0 P ops L LA (⟨k,o,v,av⟩::K) X pend s1 f1 pc μ a w fuel:=by
 have hrA:=hm.ready_of hr hk;have hlike:=xS hf;have hnc:=OK hf k o av;have pC:(⟨k,o,v,av⟩:GK).ops=[k]:=GK.ops_alloc hnc;have hk':∀ g∈K,g.k≠k:=λg hg hh=>hk (mem_kops.2 ⟨g,hg,hh ▸ g.k_mem⟩);refine {hm with dn:=λj hj=>(hm.dn j hj).imp id λh=>qz _ h,kn:=?_,ap:=?_,hv:=?_,r:=hm.r.like hlike,ar:=hm.ar.forget hf1,g:=?_}
 ·intro g hg g' hg' hh;rcases ci.1 hg with rfl|hg
  ·rcases ci.1 hg' with rfl|hg'
   ·rfl
   ·exact cp hh.symm (hk' g' hg')
  ·rcases ci.1 hg' with rfl|hg'
   ·exact cp hh (hk' g hg)
   ·exact hm.kn g hg g' hg' hh
 ·intro g hg g' hg' hne i hi j hj;rcases ci.1 hg with rfl|hgK
  ·rcases ci.1 hg' with rfl|hgK'
   ·exact cp rfl hne
   ·have hik:i=k:=by rw[pC] at hi;simpa using hi
    subst hik;have hjk:=(mem_kops (K:=K)).2 ⟨g',hgK',hj⟩;exact⟨λhh=>hk (hh ▸ hjk),(hap j hjk).1⟩
  ·rcases ci.1 hg' with rfl|hgK'
   ·have hjk:j=k:=by rw[pC] at hj;simpa using hj
    subst hjk;have hik:=(mem_kops (K:=K)).2 ⟨g,hgK,hi⟩;exact⟨λhh=>hk (hh ▸ hik),(hap i hik).2⟩
   ·exact hm.ap g hgK g' hgK' hne i hi j hj
 ·intro j hj e he;by_cases hde:d=e
  ·subst hde;rw[put_same hf1];rfl
  ·rw[fQ hf1 (λhh=>hde (by cases hh;rfl))];rcases eu.1 hj with hj|hj
   ·have hjk:j=k:=by rw[pC] at hj;simpa using hj
    subst hjk;rw[cX hok,hd] at he;cases he;exact cp rfl hde
   ·exact hm.hv j hj e he
 ·intro g hg';rcases ci.1 hg' with rfl|hg'
  ·obtain⟨O,room,u,m1,m2,m3⟩:=DT hm.r hm.ar hf okS;refine(GI.alloc hnc).2 ⟨⟨ok,d,hok,hg,hd,by rw[hm.ar.size];exact hdn,hst,.inl ⟨(mem_ready.1 hrA).1,λoj hoj e he hb=>?_,O,room,u,m1,m2,m3⟩⟩,trivial⟩;obtain⟨_,o2,ho2,hw⟩:=mem_ready.1 hrA;rw[hoj] at ho2;cases ho2;exact .inl (hw e he hb)
  ·exact hm.g g hg'
theorem NQ{L LA:df cz}{K:ab GK}{X:ab (aq×aq×Obj)}{pend:ab (aq×bp aq)}{pc:ab (aq×aq×bp Obj)}{fuel:aq}(hm:Mom w0 P ops L LA K X pend s f pc μ a w fuel){g:GK}{b c d db dc:aq}{v0:af}{s1:St}{f1 f2:HF}(hgK:g∈K)(hnc:fU g=aa)(hd:eM ops g.k=ae d)(hlt:g.lt=av)(hb:b∉cG K)(hc:c∉cG K)(hbc:b≠c)(hsb:eZ ops b=aa)(hsc:eZ ops c=aa)(hub:L.getD b au=aa)(huc:L.getD c au=aa)(hrb:b∈du .any ops (bG L [g.k]))(hrc:c∈du .any ops (bG L [g.k,b]))(hwb:fj .any ops b g.k=au)(hwc:fj .any ops c b=au)(hap:∀ j∈cG K,j=g.k\/(bV ops b j=au/\bV ops j b=au/\bV ops c j=au/\bV ops j c=au))(hl:KL P ops s f d g b c=ae (db,dc,v0,s1))(hf1:f.put (ae db) hvc=ae f1)(hf2:f1.put (ae dc) hvc=ae f2)(hdb:db<f.n)(hdc:dc<f.n)(okS:SOK s1):Mom w0 P ops L LA ({g with lt:=ae (b,c,v0)}::K.filter λh=>!bx h.k g.k) X pend s1 f2 pc μ a w fuel:=by
 have hlike:=xP hl;have hgops:g.ops=[g.k]:=by rw[GK.ops_alloc hnc,hlt]
 have hnc2:fU ({g with lt:=ae (b,c,v0)}:GK)=false:=hnc;have hops2:({g with lt:=ae (b,c,v0)}:GK).ops=[g.k,b,c]:=GK.ops_alloc hnc2;have hfil:∀ h,h∈K.filter (λh=>!bx h.k g.k)↔h∈K/\h.k≠g.k:=λh=>by
  rw[jq];constructor
  ·rintro⟨h1,h2⟩;exact⟨h1,λhh=>by rw[(aI _ _).2 hh] at h2;cases h2⟩
  ·rintro⟨h1,h2⟩;refine⟨h1,?_⟩;cases hx:bx h.k g.k with|false=>rfl|true=>exact cp ((aI _ _).1 hx) h2
 have hkk:∀ j,j∈cG ({g with lt:=ae (b,c,v0)}::K.filter λh=>!bx h.k g.k)↔j∈cG K\/j=b\/j=c:=λj=>by
  rw[mem_kops,mem_kops];constructor
  ·rintro⟨h,hh,hj⟩;rcases ci.1 hh with rfl|hh
   ·have hj':j=g.k\/j=b\/j=c:=by rw[hops2] at hj;simpa using hj
    exact hj'.imp (λh=>⟨g,hgK,by rw[h];exact g.k_mem⟩) id
   ·exact .inl ⟨h,((hfil h).1 hh).1,hj⟩
  ·rintro(⟨h,hh,hj⟩|hj)
   ·by_cases he:h.k=g.k
    ·have:=hm.kn h hh g hgK he;subst this;rw[hgops] at hj;exact⟨_,fd ..,by rw[hops2];simp only[ci,fe,or_false] at hj ⊢;exact .inl hj⟩
    ·exact⟨h,ep _ ((hfil h).2 ⟨hh,he⟩),hj⟩
   ·exact⟨_,fd ..,by rw[hops2];simp only[ci,fe,or_false];exact .inr hj⟩
 have hu:∀ i,i∉cG K->L.getD i au=aa->LA.getD i au=false:=λi hi h=>by
  have hlt:i<L.size:=by
   rcases ey i L.size with h'|h'
   ·exact h'
   ·simp[lw h'] at h
  refine rP (by rw[hm.sizeA,<-hm.size];exact hlt) λhh=>?_;rcases hm.dn i hh with h2|h2
  ·rw[bS h] at h2;cases h2
  ·exact hi h2
 have hLF:∃z n cs e tt,LitF P ops a {g with lt:=ae (b,c,v0)} b c v0 d db dc z n cs e tt:=by
  have he:=eC hm.r hm.ar;unfold KL at hl;split at hl
  ·rename_i ob oc cs e len cap hob hoc hgo hgv;split at hl
   ·rename_i t d' idx db' tt db'' dc' h1 h2 h3 h4 h5 h6;split at hl
    ·rename_i e' kd n hu1 hidx;split at hl
     ·rename_i i hi;obtain⟨hcond,hl2⟩:=aD hl;clear hl;simp only[bu,gx] at hcond;obtain⟨⟨⟨⟨⟨⟨⟨⟨c1,c2⟩,c3⟩,c4⟩,c5⟩,c6⟩,c7⟩,c8⟩,c9⟩:=hcond;have c1:=(aI _ _).1 c1;have c2:=(aI _ _).1 c2;subst c1 c2;split at hl2
      ·rename_i s2 hn;split at hl2
       ·rename_i v0' s3 hld;obtain⟨hfl,hl3⟩:=aD hl2;cases hl3;have ok2:SOK s2:=gd (gU (λn l s' hr=>(cK hr).1) hld).sub okS;have hn2:=(bA hn).2 ok2;simp only[bu,decide_eq_true_eq] at hn2;have ne:∀ x y:aq,bx x y=aa->x≠y:=λx y h hh=>by rw[(aI _ _).2 hh] at h;cases h
        exact⟨i.size,n,cs,e,tt,{dk:=hd,ob:=⟨ob,idx,t,kd,e',i,len,cap,hob,h2,h3,h1,c7,c8,c9,(he _ _ hidx).int_inv,hu1,hi,rfl,hgv,bN c3,hn2.1,hn2.2⟩,oc:=⟨oc,hoc,h5,h6,h4⟩,o:=hgo,ld:=⟨s2,s1,s2.opn,hld,okS⟩,flat:=hfl,ne:=⟨ne _ _ c4,ne _ _ c5,ne _ _ c6⟩,lt:=⟨(by rw[hm.ar.size];exact hdb),(by rw[hm.ar.size];exact hdc)⟩,st:=⟨hsb,hsc⟩,wt:=⟨hwb,hwc⟩}⟩
       ·cases hl2
      ·cases hl2
     ·cases hl
    ·cases hl
   ·cases hl
  ·cases hl
 obtain⟨z,n,cs,e,tt,hLF⟩:=hLF;refine {hm with dn:=λj hj=>(hm.dn j hj).imp id λh=>(hkk j).2 (.inl h),kn:=?_,ap:=?_,hv:=?_,r:=hm.r.like hlike,ar:=(hm.ar.forget hf1).forget hf2,g:=?_}
 ·intro x hx y hy hh;rcases ci.1 hx with rfl|hx
  ·rcases ci.1 hy with rfl|hy
   ·rfl
   ·exact cp hh.symm ((hfil y).1 hy).2
  ·rcases ci.1 hy with rfl|hy
   ·exact cp hh ((hfil x).1 hx).2
   ·exact hm.kn x ((hfil x).1 hx).1 y ((hfil y).1 hy).1 hh
 ·intro x hx y hy hne i hi j hj;rcases ci.1 hx with rfl|hx
  ·rcases ci.1 hy with rfl|hy
   ·exact cp rfl hne
   ·obtain⟨hyK,hyk⟩:=(hfil y).1 hy;have hjk:=mem_kops.2 ⟨y,hyK,hj⟩;have hga:=hm.ap g hgK y hyK (λhh=>hyk (by rw[hh])) g.k g.k_mem j hj;have h4:=(hap j hjk).resolve_left (lv hga.1);have hi':i=g.k\/i=b\/i=c:=by rw[hops2] at hi;simpa using hi
    rcases hi' with rfl|rfl|rfl
    ·exact hga
    ·exact⟨λhh=>hb (hh ▸ hjk),h4.1⟩
    ·exact⟨λhh=>hc (hh ▸ hjk),h4.2.2.1⟩
  ·obtain⟨hxK,hxk⟩:=(hfil x).1 hx;rcases ci.1 hy with rfl|hy
   ·have hik:=mem_kops.2 ⟨x,hxK,hi⟩;have hga:=hm.ap x hxK g hgK (λhh=>hxk (by rw[hh])) i hi g.k g.k_mem;have h4:=(hap i hik).resolve_left hga.1;have hj':j=g.k\/j=b\/j=c:=by rw[hops2] at hj;simpa using hj
    rcases hj' with rfl|rfl|rfl
    ·exact hga
    ·exact⟨λhh=>hb (hh ▸ hik),h4.2.1⟩
    ·exact⟨λhh=>hc (hh ▸ hik),h4.2.2.2⟩
   ·exact hm.ap x hxK y ((hfil y).1 hy).1 hne i hi j hj
 ·intro j hj e' he';by_cases h2:dc=e'
  ·subst h2;rw[put_same hf2];rfl
  ·rw[fQ hf2 (λhh=>h2 (by cases hh;rfl))];by_cases h1:db=e'
   ·subst h1;rw[put_same hf1];rfl
   ·rw[fQ hf1 (λhh=>h1 (by cases hh;rfl))];obtain⟨ob,_,_,_,_,_,_,_,b1,_,b3,_⟩:=hLF.ob;obtain⟨oc,c1,_,c3,_⟩:=hLF.oc;rcases(hkk j).1 hj with hj|rfl|rfl
    ·exact hm.hv j hj e' he'
    ·rw[cX b1,b3] at he';cases he';exact cp rfl h1
    ·rw[cX c1,c3] at he';cases he';exact cp rfl h2
 ·intro x hx;rcases ci.1 hx with rfl|hx
  ·refine(GI.alloc hnc2).2 ⟨((GI.alloc hnc).1 (hm.g g hgK)).1,d,db,dc,z,n,cs,e,tt,hLF,.inl ⟨hu b hb hub,wsat.of_ready hrb hm.up⟩,.inl ⟨hu c hc huc,wsat.of_ready hrc hm.up⟩⟩
  ·exact hm.g x ((hfil x).1 hx).1
theorem OZ{L LA:df cz}{K:ab GK}{X:ab (aq×aq×Obj)}{pend:ab (aq×bp aq)}{pc:ab (aq×aq×bp Obj)}{fuel:aq}(hm:Mom w0 P ops L LA K X pend s f pc μ a w fuel){k d:aq}{ok:gg}{v:af}{s1:St}{f1:HF}(hok:ops[k]? =ae ok)(hr:k∈du .any ops L)(hst:eZ ops k=aa)(hk:k∉cG K)(hap:∀ j∈cG K,bV ops k j=au/\bV ops j k=au)(hg:ok.guard=av)(hd:ok.dst=ae d)(hlike:s.like s1)(hf1:f.put (ae d) hvc=ae f1)(hdn:d<f.n):Mom w0 P ops L LA (⟨k,.dead,.chain d v [],av⟩::K) X pend s1 f1 pc μ a w fuel:=by
 have hrA:=hm.ready_of hr hk;have hk':∀ g∈K,g.k≠k:=λg hg hh=>hk (mem_kops.2 ⟨g,hg,hh ▸ g.k_mem⟩);refine {hm with dn:=λj hj=>(hm.dn j hj).imp id λh=>qz _ h,kn:=?_,ap:=?_,hv:=?_,r:=hm.r.like hlike,ar:=hm.ar.forget hf1,g:=?_}
 ·intro g hg g' hg' hh;rcases ci.1 hg with rfl|hg
  ·rcases ci.1 hg' with rfl|hg'
   ·rfl
   ·exact cp hh.symm (hk' g' hg')
  ·rcases ci.1 hg' with rfl|hg'
   ·exact cp hh (hk' g hg)
   ·exact hm.kn g hg g' hg' hh
 ·intro g hg g' hg' hne i hi j hj;rcases ci.1 hg with rfl|hgK
  ·rcases ci.1 hg' with rfl|hgK'
   ·exact cp rfl hne
   ·have hik:i=k:=by simpa[GK.ops] using hi
    subst hik;have hjk:=(mem_kops (K:=K)).2 ⟨g',hgK',hj⟩;exact⟨λhh=>hk (hh ▸ hjk),(hap j hjk).1⟩
  ·rcases ci.1 hg' with rfl|hgK'
   ·have hjk:j=k:=by simpa[GK.ops] using hj
    subst hjk;have hik:=(mem_kops (K:=K)).2 ⟨g,hgK,hi⟩;exact⟨λhh=>hk (hh ▸ hik),(hap i hik).2⟩
   ·exact hm.ap g hgK g' hgK' hne i hi j hj
 ·intro j hj e he;by_cases hde:d=e
  ·subst hde;rw[put_same hf1];rfl
  ·rw[fQ hf1 (λhh=>hde (by cases hh;rfl))];rcases eu.1 hj with hj|hj
   ·have hjk:j=k:=by simpa[GK.ops] using hj
    subst hjk;rw[cX hok,hd] at he;cases he;exact cp rfl hde
   ·exact hm.hv j hj e he
 ·intro g hg';rcases ci.1 hg' with rfl|hg'
  ·refine(GI.chain rfl).2 ⟨λp y q e=>?_,by simp[GK.ch]⟩;have e:[(k,d,v)]=p++y::q:=e;have hp:p=[]:=by cases p with|nil=>rfl|cons x p=>simp at e
   subst hp;simp at e;obtain⟨rfl,rfl⟩:=e;refine⟨⟨ok,hok,hg,hd,by rw[hm.ar.size];exact hdn,hst⟩,.inl ⟨(mem_ready.1 hrA).1,λoj hoj e he hb=>?_⟩⟩;obtain⟨_,o2,ho2,hw⟩:=mem_ready.1 hrA;rw[hoj] at ho2;cases ho2;exact .inl (hw e he hb)
  ·exact hm.g g hg'
theorem O3{L LA:df cz}{K:ab GK}{X:ab (aq×aq×Obj)}{pend:ab (aq×bp aq)}{pc:ab (aq×aq×bp Obj)}{fuel:aq}(hm:Mom w0 P ops L LA K X pend s f pc μ a w fuel){g:GK}{i d d0:aq}{v v0:af}{l:ab (aq×aq×af)}{o:gg}{s1:St}{f1:HF}(hgK:g∈K)(hgv:g.v=.chain d0 v0 l)(ho:ops[i]? =ae o)(hst:eZ ops i=aa)(hi:i∉cG K)(hu:L.getD i au=aa)(hr:i∈du .any ops (bG L g.ops))(hg:o.guard=av)(hd:o.dst=ae d)(hdn:d<f.n)(hds:∀ y∈g.ch,y.2.1≠d)(hap:∀ j∈cG K,j∈g.ops\/(bV ops i j=au/\bV ops j i=au))(hlike:s.like s1)(hf1:f.put (ae d) hvc=ae f1):Mom w0 P ops L LA ({g with v:=.chain d0 v0 (l++[(i,d,v)])}::K.filter λh=>!bx h.k g.k) X pend s1 f1 pc μ a w fuel:=by
 have hcg:fU g=true:=by unfold fU;rw[hgv]
 have hch2:({g with v:=.chain d0 v0 (l++[(i,d,v)])}:GK).ch=g.ch++[(i,d,v)]:=by unfold GK.ch;rw[hgv];rfl
 have hops2:({g with v:=.chain d0 v0 (l++[(i,d,v)])}:GK).ops=g.ops++[i]:=by rw[GK.ops_chain (g:=g) hcg,GK.ops_chain (g:={g with v:=.chain d0 v0 (l++[(i,d,v)])}) rfl,hch2];simp
 have hfil:∀ h,h∈K.filter (λh=>!bx h.k g.k)↔h∈K/\h.k≠g.k:=λh=>by
  rw[jq];constructor
  ·rintro⟨h1,h2⟩;exact⟨h1,λhh=>by rw[(aI _ _).2 hh] at h2;cases h2⟩
  ·rintro⟨h1,h2⟩;refine⟨h1,?_⟩;cases hx:bx h.k g.k with|false=>rfl|true=>exact cp ((aI _ _).1 hx) h2
 have hig:i∉g.ops:=λhh=>hi (mem_kops.2 ⟨g,hgK,hh⟩);have hkk:∀ j,j∈cG ({g with v:=.chain d0 v0 (l++[(i,d,v)])}::K.filter λh=>!bx h.k g.k)↔j∈cG K\/j=i:=λj=>by
  rw[mem_kops,mem_kops];constructor
  ·rintro⟨h,hh,hj⟩;rcases ci.1 hh with rfl|hh
   ·rw[hops2,eu] at hj;exact hj.imp (λh=>⟨g,hgK,h⟩) qS
   ·exact .inl ⟨h,((hfil h).1 hh).1,hj⟩
  ·rintro(⟨h,hh,hj⟩|rfl)
   ·by_cases he:h.k=g.k
    ·have:=hm.kn h hh g hgK he;subst this;exact⟨_,fd ..,by rw[hops2];exact jk _ hj⟩
    ·exact⟨h,ep _ ((hfil h).2 ⟨hh,he⟩),hj⟩
   ·exact⟨_,fd ..,by rw[hops2];simp⟩
 have huA:LA.getD i au=false:=by
  have hlt:i<L.size:=by
   rcases ey i L.size with h'|h'
   ·exact h'
   ·simp[lw h'] at hu
  refine rP (by rw[hm.sizeA,<-hm.size];exact hlt) λhh=>?_;rcases hm.dn i hh with h2|h2
  ·rw[bS hu] at h2;cases h2
  ·exact hi h2
 refine {hm with dn:=λj hj=>(hm.dn j hj).imp id λh=>(hkk j).2 (.inl h),kn:=?_,ap:=?_,hv:=?_,r:=hm.r.like hlike,ar:=hm.ar.forget hf1,g:=?_}
 ·intro x hx y hy hh;rcases ci.1 hx with rfl|hx
  ·rcases ci.1 hy with rfl|hy
   ·rfl
   ·exact cp hh.symm ((hfil y).1 hy).2
  ·rcases ci.1 hy with rfl|hy
   ·exact cp hh ((hfil x).1 hx).2
   ·exact hm.kn x ((hfil x).1 hx).1 y ((hfil y).1 hy).1 hh
 ·intro x hx y hy hne p hp q hq;rcases ci.1 hx with rfl|hx
  ·rcases ci.1 hy with rfl|hy
   ·exact cp rfl hne
   ·obtain⟨hyK,hyk⟩:=(hfil y).1 hy;have hgy:g≠y:=λhh=>hyk (by rw[hh]);rw[hops2,eu] at hp;rcases hp with hp|hp
    ·exact hm.ap g hgK y hyK hgy p hp q hq
    ·simp only[ci,fe,or_false] at hp;subst hp;have hqk:=mem_kops.2 ⟨y,hyK,hq⟩;refine⟨λhh=>hi (hh ▸ hqk),((hap q hqk).resolve_left λhh=>(hm.ap g hgK y hyK hgy q hh q hq).1 rfl).1⟩
  ·obtain⟨hxK,hxk⟩:=(hfil x).1 hx;rcases ci.1 hy with rfl|hy
   ·have hgx:x≠g:=λhh=>hxk (by rw[hh]);rw[hops2,eu] at hq;rcases hq with hq|hq
    ·exact hm.ap x hxK g hgK hgx p hp q hq
    ·simp only[ci,fe,or_false] at hq;subst hq;have hpk:=mem_kops.2 ⟨x,hxK,hp⟩;refine⟨λhh=>hi (hh ▸ hpk),((hap p hpk).resolve_left λhh=>(hm.ap x hxK g hgK hgx p hp p hh).1 rfl).2⟩
   ·exact hm.ap x hxK y ((hfil y).1 hy).1 hne p hp q hq
 ·intro j hj e he;by_cases hde:d=e
  ·subst hde;rw[put_same hf1];rfl
  ·rw[fQ hf1 (λhh=>hde (by cases hh;rfl))];rcases(hkk j).1 hj with hj|rfl
   ·exact hm.hv j hj e he
   ·rw[cX ho,hd] at he;cases he;exact cp rfl hde
 ·intro x hx;rcases ci.1 hx with rfl|hx
  ·refine(GI.chain rfl).2 ?_;rw[hch2];have hG:=(GI.chain hcg).1 (hm.g g hgK);have hids:∀ y∈g.ch,y.1≠i:=λy hy hh=>hig (by rw[GK.ops_chain hcg];exact fi.2 ⟨y,hy,hh⟩);refine⟨λp y q e=>?_,List.pairwise_append.2 ⟨hG.2,qS,λy hy z hz=>?_⟩⟩
   ·rcases List.append_eq_append_iff.1 e with⟨r,h1,h2⟩|⟨r,h1,h2⟩
    ·cases r with|nil=>simp only[List.nil_append,pt] at h2;obtain⟨rfl,rfl⟩:=h2;rw[fh] at h1;subst h1;refine⟨⟨o,ho,hg,hd,by rw[hm.ar.size];exact hdn,hst⟩,.inl ⟨huA,?_⟩⟩;rw[<-GK.ops_chain hcg];exact wsat.of_ready hr hm.up|cons z r=>simp at h2
    ·cases r with|nil=>simp only[List.nil_append,pt] at h2;obtain⟨h2,h3⟩:=h2;subst h2;rw[fh] at h1;subst h1;refine⟨⟨o,ho,hg,hd,by rw[hm.ar.size];exact hdn,hst⟩,.inl ⟨huA,?_⟩⟩;rw[<-GK.ops_chain hcg];exact wsat.of_ready hr hm.up|cons z r=>simp only[List.cons_append,pt] at h2;obtain⟨rfl,h2⟩:=h2;exact hG.1 p y r h1
   ·simp only[ci,fe,or_false] at hz;subst hz;exact⟨hids y hy,hds y hy⟩
  ·exact hm.g x ((hfil x).1 hx).1
end
section
variable{w0:Base}{μ:Mu}{s:St}{w:dh}{P:cq}{ops:df gg}{Q:Exit->Act->dh->Prop}{f:HF}{a:Act}
theorem mB{K:ab GK}{k:aq}(h:GK):h∈K.filter (λh=>!bx h.k k)↔h∈K/\h.k≠k:=by
 rw[jq];constructor
 ·rintro⟨h1,h2⟩;exact⟨h1,λhh=>by rw[(aI _ _).2 hh] at h2;cases h2⟩
 ·rintro⟨h1,h2⟩;refine⟨h1,?_⟩;cases hx:bx h.k k with|false=>rfl|true=>exact cp ((aI _ _).1 hx) h2
theorem wK(hsel:jp ops=au){L LA:df cz}{K:ab GK}{X X':ab (aq×aq×Obj)}{pend:ab (aq×bp aq)}{pc:ab (aq×aq×bp Obj)}{fuel:aq}(hm:Mom w0 P ops L LA K X pend s f pc μ a w fuel){g:GK}(hg:g∈K)(hup:∀ j∈g.ops,LA.getD j aa=au){μ':Mu}(hle:μ.le μ'){s':St}{f1:HF}(hX:∀ x∈X',x∈X)(hX2:∀ x∈X,x.1≠g.k->x∈X')(hr:R (w0.hx X') μ' s' w)(har:AR μ' f1 a)(hhv:∀ g'∈K,g'.k≠g.k->∀ j∈g'.ops,∀ d,eM ops j=ae d->jN (f1.get d)=au):Mom w0 P ops (bG L g.ops) LA (K.filter λh=>!bx h.k g.k) X' pend s' f1 pc μ' a w fuel:=
 {size:=by rw[mU];exact hm.size,sizeA:=hm.sizeA,fuel:=hm.fuel,up:=λj hj=>((dN _ _ _).1 hj).elim (hm.up j) λh=>hup j h.1,dn:=λj hj=>by
   rcases hm.dn j hj with h|h
   ·exact .inl ((dN _ _ _).2 (.inl h))
   ·obtain⟨g',hg',hjg⟩:=mem_kops.1 h;by_cases he:g'.k=g.k
    ·have:=hm.kn g' hg' g hg he;subst this;exact .inl ((dN _ _ _).2 (.inr ⟨hjg,by rw[hm.size,<-hm.sizeA];exact zL hj⟩))
    ·exact .inr (mem_kops.2 ⟨g',(mB g').2 ⟨hg',he⟩,hjg⟩),
  kn:=λx hx y hy hh=>hm.kn x ((mB x).1 hx).1 y ((mB y).1 hy).1 hh,
  ap:=λx hx y hy=>hm.ap x ((mB x).1 hx).1 y ((mB y).1 hy).1,
  hv:=λj hj d hd=>by obtain⟨g',hg',hjg⟩:=mem_kops.1 hj;obtain⟨h1,h2⟩:=(mB g').1 hg';exact hhv g' h1 h2 j hjg d hd,
  pcr:=hm.pcr.mono hle,sp:=hm.sp,r:=hr,ar:=har,ex:=hm.ex,xw:=λx hx=>hm.xw x (hX x hx),nd:=λx hx y hy=>hm.nd x (hX x hx) y (hX y hy),
  g:=λg' hg'=>by
   obtain⟨h1,h2⟩:=(mB g').1 hg';exact(hm.g g' h1).move hsel hle (λx hx hh=>hX2 x hx (by rw[hh];exact h2)) (λj hj=>hj) (λk hk=>rfl) rfl (λ_ _ _ _ _ _=>rfl) (λ_ _ _ _=>rfl)}
theorem K8(hsel:jp ops=au){L LA:df cz}{K:ab GK}{X:ab (aq×aq×Obj)}{pend:ab (aq×bp aq)}{pc:ab (aq×aq×bp Obj)}{fuel:aq}(hm:Mom w0 P ops L LA K X pend s f pc μ a w fuel){g:GK}(hg:g∈K)(hnc:fU g=aa)(hlt:g.lt=av)(hup:LA.getD g.k aa=au){d:aq}(hd:eM ops g.k=ae d){t:Tr gh}(ht:ki 64 s.h s.next g.o=ae t){f1:HF}(hf:f.put (ae d) (g.v.val s.next)=ae f1):∃X' μ',μ.le μ'/\Mom w0 P ops (bG L g.ops) LA (K.filter λh=>!bx h.k g.k) X' pend {s with h:=t,next:=s.next+1} f1 pc μ' a w fuel:=by
 obtain⟨ok,d',h1,h2,h3,h4,h5,h6⟩:=((GI.alloc hnc).1 (hm.g g hg)).1;have hdd:d'=d:=by rw[cX h1,h3] at hd;cases hd;rfl
 subst hdd;obtain⟨_,b,O,room,k2,k3,k4⟩:=h6.resolve_left λhh=>by rw[bS hh.1] at hup;cases hup
 have hle:μ.le (μ.put s.next ⟨b,0,room,eJ⟩):=Mu.put_le (hm.r.fresh _ (cw _));have hXm:∀ x,x∈X.filter (λx=>!bx x.1 g.k)↔x∈X/\x.1≠g.k:=λx=>by
  rw[jq];constructor
  ·rintro⟨a1,a2⟩;exact⟨a1,λhh=>by rw[(aI _ _).2 hh] at a2;cases a2⟩
  ·rintro⟨a1,a2⟩;refine⟨a1,?_⟩;cases hx:bx x.1 g.k with|false=>rfl|true=>exact cp ((aI _ _).1 hx) a2
 have hR:=KF (Y:=X.filter λx=>!bx x.1 g.k) hm.r k2 (λx hx=>⟨((hXm x).1 hx).1,λhh=>hm.nd x ((hXm x).1 hx).1 _ k2 (λe=>((hXm x).1 hx).2 (by rw[e])) hh⟩) (hm.xw _ k2) k3 ht;refine⟨_,_,hle,wK hsel hm hg (λj hj=>?_) hle (λx hx=>((hXm x).1 hx).1) (λx hx hh=>(hXm x).2 ⟨hx,hh⟩) hR ((hm.ar.mono hle).learn hf (k4 _ _ (Mu.put_same _ _ _))) (λg' hg' hne j hj e he=>?_)⟩
 ·have:j=g.k:=by rw[GK.ops_alloc hnc,hlt] at hj;simpa using hj
  subst this;exact hup
 ·obtain⟨_,_,oj,hoj,_⟩:=(hm.g g' hg').st j hj;have hap:=hm.ap g hg g' hg' (λhh=>hne (by rw[hh])) g.k g.k_mem j hj;rw[fQ hf (λhh=>(dO hap.2 h1 hoj).2.1 d' h3 (by rw[<-cX hoj,he];exact hh.symm))];exact hm.hv j (mem_kops.2 ⟨g',hg',hj⟩) e he
theorem K6(hsel:jp ops=au){L LA:df cz}{K:ab GK}{X:ab (aq×aq×Obj)}{pend:ab (aq×bp aq)}{pc:ab (aq×aq×bp Obj)}{fuel:aq}(hm:Mom w0 P ops L LA K X pend s f pc μ a w fuel){g:GK}(hg:g∈K)(hnc:fU g=aa){b c:aq}{v0:af}(hlt:g.lt=ae (b,c,v0))(hup:LA.getD c aa=au){d:aq}(hd:eM ops c=ae d){f1:HF}(hf:f.put (ae d) v0=ae f1):Mom w0 P ops (bG L g.ops) LA (K.filter λh=>!bx h.k g.k) X pend s f1 pc μ a w fuel:=by
 have hl:=((GI.alloc hnc).1 (hm.g g hg)).2;unfold GIl at hl;rw[hlt] at hl;obtain⟨d',db,dc,z,n,cs,e,tt,hF,g1,g2⟩:=hl;obtain⟨_,hbu,hval⟩:=g2.resolve_left λhh=>by rw[bS hh.1] at hup;cases hup
 obtain⟨_,hku,_⟩:=g1.resolve_left λhh=>by rw[bS hh.1] at hbu;cases hbu
 obtain⟨oc,c1,c2,c3,c4⟩:=hF.oc;have hdd:dc=d:=by rw[cX c1,c3] at hd;cases hd;rfl
 subst hdd;have pC:g.ops=[g.k,b,c]:=by rw[GK.ops_alloc hnc,hlt]
 refine wK hsel hm hg (λj hj=>?_) (gk _) (λx hx=>hx) (λx hx _=>hx) hm.r (hm.ar.learn hf (by rw[hval];exact j8 6 _ hF.flat)) (λg' hg' hne j hj e he=>?_)
 ·rw[pC] at hj;simp only[ci,fe,or_false] at hj;rcases hj with rfl|rfl|rfl
  ·exact hku
  ·exact hbu
  ·exact hup
 ·obtain⟨_,_,oj,hoj,_⟩:=(hm.g g' hg').st j hj;have hap:=hm.ap g hg g' hg' (λhh=>hne (by rw[hh])) c (by rw[pC];simp) j hj;rw[fQ hf (λhh=>(dO hap.2 c1 hoj).2.1 dc c3 (by rw[<-cX hoj,he];exact hh.symm))];exact hm.hv j (mem_kops.2 ⟨g',hg',hj⟩) e he
theorem AT:∀{l:ab (aq×aq×af)}{f f':HF},u6 l f=ae f'->AR μ f a->(∀ y∈l,VR μ y.2.2 (a.tmps.getD y.2.1 undef))->AR μ f' a/\∀ e,(∀ y∈l,y.2.1≠e)->f'.get e=f.get e:=by
 intro l;induction l with
 |nil=>intro f f' h ha _;cases h;exact⟨ha,λ_ _=>rfl⟩
 |cons y l ih=>
  intro f f' h ha hv;simp only[u6] at h;split at h
  ·rename_i f1 h1;obtain⟨a1,a2⟩:=ih h (ha.learn h1 (hv y fd)) λz hz=>hv z (ep _ hz);exact⟨a1,λe he=>(a2 e λz hz=>he z (ep _ hz)).trans (fQ h1 λhh=>he y fd (gf hh))⟩
  ·cases h
theorem K7(hsel:jp ops=au){L LA:df cz}{K:ab GK}{X:ab (aq×aq×Obj)}{pend:ab (aq×bp aq)}{pc:ab (aq×aq×bp Obj)}{fuel:aq}(hm:Mom w0 P ops L LA K X pend s f pc μ a w fuel){g:GK}(hg:g∈K)(hcg:fU g=au)(hup:∀ j∈g.ops,LA.getD j aa=au){f1:HF}(hf:u6 g.ch f=ae f1):Mom w0 P ops (bG L g.ops) LA (K.filter λh=>!bx h.k g.k) X pend s f1 pc μ a w fuel:=by
 have hG:=(GI.chain hcg).1 (hm.g g hg);obtain⟨h1,h2⟩:=AT hf hm.ar λy hy=>by obtain⟨p,_,_,h⟩:=hG.mem hy;have:=hup y.1 (by rw[GK.ops_chain hcg];exact fi.2 ⟨y,hy,rfl⟩);exact(h.resolve_left λhh=>by rw[bS hh.1] at this;cases this).2.2
 refine wK hsel hm hg hup (gk _) (λx hx=>hx) (λx hx _=>hx) hm.r h1 (λg' hg' hne j hj e he=>?_);obtain⟨_,_,oj,hoj,_⟩:=(hm.g g' hg').st j hj;rw[h2 e λy hy hh=>?_]
 ·exact hm.hv j (mem_kops.2 ⟨g',hg',hj⟩) e he
 ·obtain⟨p,_,⟨o,o1,o2,o3,_⟩,_⟩:=hG.mem hy;have hap:=hm.ap g hg g' hg' (λhh=>hne (by rw[hh])) y.1 (by rw[GK.ops_chain hcg];exact fi.2 ⟨y,hy,rfl⟩) j hj;exact(dO hap.2 o1 hoj).2.1 y.2.1 o3 (by rw[<-cX hoj,he,hh])
theorem O5{L LA:df cz}{K:ab GK}{X:ab (aq×aq×Obj)}{pend:ab (aq×bp aq)}{pc:ab (aq×aq×bp Obj)}{fuel:aq}(hm:Mom w0 P ops L LA K X pend s f pc μ a w fuel){g:GK}(hg:g∈K)(hcg:fU g=au):∀(l acc:ab aq),(∀ j∈l,j∈g.ops)->(∀ j∈acc,¬LA.getD j aa=au)->∀ j∈dcl ops acc l,¬LA.getD j aa=true:=by
 intro l;induction l with
 |nil=>intro acc _ h;exact h
 |cons i l ih=>
  intro acc hl hacc;simp only[dcl];refine ih _ (λj hj=>hl j (ep _ hj)) ?_;cases hb:acc.any (λa=>fj .any ops i a) with
  |false=>exact hacc
  |true=>
   intro j hj;rcases ci.1 hj with rfl|hj
   ·intro hup;have hG:=(GI.chain hcg).1 (hm.g g hg);have:=hl j fd;rw[GK.ops_chain hcg] at this;obtain⟨y,hy,rfl⟩:=fi.1 this;obtain⟨p,_,_,h⟩:=hG.mem hy;obtain⟨_,hw,_⟩:=h.resolve_left λhh=>by rw[bS hh.1] at hup;cases hup
    rw[List.any_eq_true] at hb;obtain⟨x,hx,hwx⟩:=hb;obtain⟨oj,hoj,e,he,hbd,rfl⟩:=rp hwx;rcases hw oj hoj e he hbd with h|h
    ·exact hacc _ hx h
    ·cases h
   ·exact hacc j hj
theorem EF{L LA:df cz}{K:ab GK}{X:ab (aq×aq×Obj)}{pend:ab (aq×bp aq)}{pc:ab (aq×aq×bp Obj)}{fuel:aq}(hm:Mom w0 P ops L LA K X pend s f pc μ a w fuel){g:GK}(hg:g∈K)(hcg:fU g=au)(hun:¬∀ j∈g.ops,LA.getD j aa=au):∃i∈g.ops,i∈du .any ops LA:=by
 have hst:=(hm.g g hg).st;have hG:=(GI.chain hcg).1 (hm.g g hg);rw[GK.ops_chain hcg] at hun hst ⊢;have key:∀(q p:ab (aq×aq×af)),g.ch=p++q->(∀ y∈p,LA.getD y.1 aa=au)->(∃i∈g.ch.map (·.1),i∈du .any ops LA)\/∀ y∈q,LA.getD y.1 aa=true:=by
  intro q;induction q with
  |nil=>intro p _ _;exact .inr λy hy=>by cases hy
  |cons y q ih=>
   intro p e hp;have hm':y.1∈g.ch.map (·.1):=fi.2 ⟨y,by rw[e];simp,rfl⟩;rcases(hG.1 p y q e).2 with⟨k1,k2⟩|⟨k1,_⟩
   ·refine .inl ⟨y.1,hm',k2.ready (λi hi=>?_) (hst _ hm').2.1 k1⟩;obtain⟨z,hz,rfl⟩:=fi.1 hi;exact hp z hz
   ·rcases ih (p++[y]) (by simp[e]) (λz hz=>by
     rcases eu.1 hz with hz|hz
     ·exact hp z hz
     ·simp only[ci,fe,or_false] at hz;rw[hz];exact k1) with h|h
    ·exact .inl h
    ·exact .inr λz hz=>(ci.1 hz).elim (λhh=>by rw[hh];exact k1) (h z)
 rcases key g.ch [] rfl (λy hy=>by cases hy) with h|h
 ·exact h
 ·refine cp (λj hj=>?_) hun;obtain⟨y,hy,rfl⟩:=fi.1 hj;exact h y hy
theorem HV{L LA:df cz}{K:ab GK}{X:ab (aq×aq×Obj)}{pend:ab (aq×bp aq)}{pc:ab (aq×aq×bp Obj)}{fuel:aq}(hm:Mom w0 P ops L LA K X pend s f pc μ a w fuel){g:GK}(hg:g∈K)(hnc:fU g=aa)(hun:¬LA.getD g.last aa=au):∃i∈g.ops,i∈du .any ops LA:=by
 have hG:=hm.g g hg;have hst:=hG.st;obtain⟨⟨ok,d,h1,h2,h3,h4,h5,h6⟩,hl⟩:=(GI.alloc hnc).1 hG;have hk:=hst g.k g.k_mem;by_cases hku:LA.getD g.k aa=au
 ·unfold GIl at hl;unfold GK.last at hun;split at hl
  ·rename_i hlt;rw[hlt] at hun;exact cp hku hun
  ·rename_i b c v0 hlt;rw[hlt] at hun;have hbm:b∈g.ops:=by rw[GK.ops_alloc hnc,hlt];simp
   have hcm:c∈g.ops:=by rw[GK.ops_alloc hnc,hlt];simp
   obtain⟨d',db,dc,z,n,cs,e,tt,hF,g1,g2⟩:=hl;rcases g1 with⟨k1,k2⟩|⟨k1,_⟩
   ·exact⟨b,hbm,k2.ready (λi hi=>by simp only[ci,fe,or_false] at hi;rw[hi];exact hku) (hst b hbm).2.1 k1⟩
   ·rcases g2 with⟨m1,m2⟩|⟨m1,_⟩
    ·exact⟨c,hcm,m2.ready (λi hi=>by
      simp only[ci,fe,or_false] at hi;rcases hi with rfl|rfl
      ·exact hku
      ·exact k1) (hst c hcm).2.1 m1⟩
    ·exact cp m1 hun
 ·rcases h6 with⟨k1,k2,_⟩|⟨k1,_⟩
  ·exact⟨g.k,g.k_mem,k2.ready (λi hi=>by simp at hi) hk.2.1 k1⟩
  ·exact cp k1 hku
end
section
variable{w0:Base}{μ:Mu}{s:St}{w:dh}{P:cq}{ops:df gg}{Q:Exit->Act->dh->Prop}{f:HF}{a:Act}
theorem vE{i:aq}{o:gg}{K:Act->dh->Prop}{v:af}{w':dh}(ho:ops[i]? =ae o)(hg:o.guard=av)(hr:(execOp a.eval o).run P w=.ok (.value v) w')(hk:K (a.put o.dst v) w'):wpOp P ops Q i K a w:=by unfold wpOp;simp only[ho,ly,hg,if_true];refine .inl ?_;unfold uv;rw[hr,Oper.upon_value];exact hk
theorem t6{i:aq}{o:gg}{K:Act->dh->Prop}{w':dh}(ho:ops[i]? =ae o)(hg:o.guard=av)(hd:o.dst=av)(hr:(execOp a.eval o).run P w=.ok .skip w')(hk:K a w'):wpOp P ops Q i K a w:=by unfold wpOp;simp only[ho,ly,hg,if_true];refine .inl ?_;unfold uv;rw[hr,Oper.upon_skip,hd];exact hk
theorem xV{S:df cz->dh->Prop}{L:df cz}{l:ab aq}{i0 fuel:aq}(hs:L.size=ops.size)(hf:ops.size<=fuel+cnt L.toList)(hin:i0∈du .any ops L)(hall:∀ j∈du .any ops L,j∈l)(h:∀ f0,fuel=f0+1->∀ i∈l,i∈du .any ops L->ops.size<=f0+cnt (L.setIfInBounds i au).toList->wpOp P ops Q i (λa' w'=>S (L.setIfInBounds i au) w'/\cJ P .any ops Q S f0 (L.setIfInBounds i au) a' w') a w):cJ P .any ops Q S fuel L a w:=by obtain⟨f0,rfl,_⟩:=eL hs hin hf;refine⟨λh0=>(by rw[h0] at hin;cases hin),λj hj=>?_⟩;obtain⟨f1,e,hf1⟩:=eL hs hj hf;cases e;exact h f0 rfl j (hall j hj) hj hf1
structure MlF(P:cq)(ops:df gg)(s:St)(f f':HF)(a i j c d:aq)(t da dc dd:aq)(k:jl)(n1 n2 n3:br)(v1 v2 r:af)(key:im)(kd:jl)(kt et:ct)(oa oi oj oc od:gg):Prop where
 ha:ops[a]? =ae oa
 hi:ops[i]? =ae oi
 hj:ops[j]? =ae oj
 hc:ops[c]? =ae oc
 hd:ops[d]? =ae od
 ga:oa.guard=av/\oi.guard=av/\oj.guard=av/\oc.guard=av/\od.guard=av
 dst:oa.dst=ae da/\oi.dst=av/\oj.dst=av/\oc.dst=ae dc/\od.dst=ae dd
 pa:∃t0,oa.op=.makeMap t0 av
 pi:oi.op=.insert t (.tmp da) (.const (.int k n1)) (.const v1)
 pj:oj.op=.insert t (.tmp da) (.const (.int k n2)) (.const v2)
 pc:oc.op=.move (.tmp da)
 pd:od.op=.lookup t (.tmp dc) key aa
 ne:n2≠n1
 ut:P.underlying t=ae (.map kt et)
 uk:P.underlying kt=ae (.int kd)
 ev:f.ev s key=ae (.int k n3)
 res:(n3=n1/\r=v1)\/(n3≠n1/\n3=n2/\r=v2)
 ka:isT da key=aa/\isT dc key=aa
 dn:da≠dc
 fl:bD 2 r=au
 lt:da<f.n/\dc<f.n/\dd<f.n
 f':∃f1 f2,f.put (ae da) hvc=ae f1/\f1.put (ae dc) hvc=ae f2/\f2.put (ae dd) r=ae f'
theorem gH{α:Type}{x:bp α}(h:x.isNone=au):x=none:=by cases x<;>simp_all
theorem KK{x i j c d:aq}{f':HF}(h:hMl P ops s f x i j c d=ae f'):∃t da dc dd k n1 n2 n3 v1 v2 r key kd kt et oa oi oj oc od,MlF P ops s f f' x i j c d t da dc dd k n1 n2 n3 v1 v2 r key kd kt et oa oi oj oc od:=by
 unfold hMl at h;split at h
 ·rename_i oa oi oj oc od ha hi hj hc hd;split at h
  ·rename_i t da k1 n1 v1 n2 v2 dc key dd hm;unfold PU at hm;split at hm
   ·rename_i t0 t1 m1 k1' n1' v1' t2 m2 k2' n2' v2' m3 t3 m4 key' da' dc' dd' p1 p2 p3 p4 p5 p6 p7 p8;obtain⟨hb,hm⟩:=aD hm;simp only[co,bn] at hm;obtain⟨rfl,rfl,rfl,rfl,rfl,rfl,rfl,rfl,rfl,rfl⟩:=hm;simp only[bu,aI,decide_eq_true_eq] at hb;obtain⟨⟨⟨⟨⟨⟨⟨⟨⟨⟨⟨⟨⟨⟨g1,g2⟩,g3⟩,g4⟩,g5⟩,g6⟩,g7⟩,b1⟩,b2⟩,b3⟩,b4⟩,b5⟩,b6⟩,b7⟩,b8⟩:=hb;subst b1;subst b2;subst b3;subst b4;subst b5;subst b6;subst b7;split at h
    ·rename_i kt et k3 n3 hu hev;split at h
     ·rename_i kd r huk hr;split at h
      ·rename_i f1 hf1;split at h
       ·rename_i f2 hf2;obtain⟨hb,hput⟩:=aD h;simp only[bu,gx,decide_eq_true_eq] at hb;obtain⟨⟨⟨⟨⟨⟨⟨c1,c2⟩,c3⟩,c4⟩,c5⟩,c6⟩,c7⟩,c8⟩:=hb;subst c1;refine⟨_,_,_,_,_,_,_,_,_,_,_,_,_,_,_,_,_,_,_,_,⟨ha,hi,hj,hc,hd,⟨gH g1,gH g2,gH g3,gH g4,gH g5⟩,⟨p6,gH g6,gH g7,p7,p8⟩,⟨_,p1⟩,p2,p3,p4,p5,b8,hu,huk,hev,?_,⟨c2,c3⟩,λe=>?_,c5,⟨bN c6,bN c7,bN c8⟩,⟨f1,f2,hf1,hf2,hput⟩⟩⟩
        ·by_cases e1:n3=n1'
         ·simp only[e1,decide_true,de,co] at hr;exact .inl ⟨e1,hr.symm⟩
         ·simp only[e1,decide_false,ed] at hr;by_cases e2:n3=n2'
          ·simp only[e2,decide_true,de,co] at hr;exact .inr ⟨e1,e2,hr.symm⟩
          ·simp only[e2,decide_false,ed] at hr;cases hr
        ·rw[(aI _ _).2 e] at c4;cases c4
       ·cases h
      ·cases h
     ·cases h
    ·cases h
   ·cases hm
  ·cases h
 ·cases h
theorem IP(d k:jl)(n m:br):om (.int d) (.int k n) (.int k m)=ae (n==m):=by simp[om]
theorem xY{d k:jl}{n:br}:∀(es:ab ez)(i:aq),(∀ e∈es,∃m,e.key=.int k m/\m≠n)->ja (.int d) (.int k n) es i=ae av
 |[],i,_=>rfl
 |e::es,i,h=>by
  obtain⟨m,hm,hne⟩:=h e (fd ..);have ih:=xY (d:=d) (n:=n) es (i+1) λx hx=>h x (ep _ hx);have e1:(n==m)=false:=by simpa using lv hne
  simp only[ja,hm,IP,e1];exact ih
theorem N5{t kt et:ct}{kd k:jl}{n:br}{v:af}{b cl:aq}{es:df ez}(hu:P.underlying t=ae (.map kt et))(hk:P.underlying kt=ae (.int kd))(hb:w.heap[b]? =ae (.map es cl))(hes:∀ e∈es.toList,∃m,e.key=.int k m/\m≠n):(Instr.mapUpdate t (.map (ae b)) (.int k n) v).run P w=.ok () {w with heap:=w.heap.setIfInBounds b (.map (es.push {key:=.int k n,val:=v,born:=cl}) (cl+1))}:=jH hu hk hb (r':=av) (xY es.toList 0 hes) v trivial
theorem SI{t kt et:ct}{kd k:jl}{n n1 n2:br}{v1 v2 r:af}{b cl:aq}{es:df ez}(hu:P.underlying t=ae (.map kt et))(hk:P.underlying kt=ae (.int kd))(hb:w.heap[b]? =ae (.map es cl))(hne:n2≠n1)(hes:(∃x y,es.toList=[⟨.int k n1,v1,x⟩,⟨.int k n2,v2,y⟩])\/(∃x y,es.toList=[⟨.int k n2,v2,x⟩,⟨.int k n1,v1,y⟩]))(hr:(n=n1/\r=v1)\/(n≠n1/\n=n2/\r=v2)):(Instr.lookup t (.map (ae b)) (.int k n) aa).run P w=.ok r w:=by
 have hf:∃j,ja (.int kd) (.int k n) es.toList 0=ae (ae (j,r)):=by
  have t1:∀ a:br,(a==a)=true:=λa=>qS;have t2:(n1==n2)=false:=by simpa using lv hne
  have t3:(n2==n1)=false:=by simpa using hne
  rcases hes with⟨x,y,h⟩|⟨x,y,h⟩<;>rcases hr with⟨rfl,rfl⟩|⟨h1,rfl,rfl⟩<;>rw[h]<;>simp only[ja,IP,t1,t2,t3]
  ·exact⟨0,rfl⟩
  ·exact⟨1,rfl⟩
  ·exact⟨1,rfl⟩
  ·exact⟨0,rfl⟩
 obtain⟨j,hf⟩:=hf;have:=pX (P:=P) (w:=w) (ok:=aa) hu hk (x':=.map (ae b)) (es':=es.toList) (.inr ⟨b,es,cl,rfl,hb,rfl⟩) (r':=ae (j,r)) hf w (λ_ _=>rfl);rw[this];rfl
theorem LL{l m:ab aq}(h:m.all (gI l)=au):∀ j∈m,j∈l:=λj hj=>hasN_iff.1 (fq.1 h j hj)
theorem sA{i:aq}{m:ab aq}(h:m.all (bx i)=au):∀ j∈m,j∈[i]:=λj hj=>by have:=(aI _ _).1 (fq.1 h j hj);simp[this]
theorem IQ{L:df cz}{i j:aq}:(L.setIfInBounds i au).setIfInBounds j au=(L.setIfInBounds j au).setIfInBounds i true:=by apply Array.ext_getElem?;intro k;simp only[Array.getElem?_setIfInBounds,pp];by_cases h1:i=k<;>by_cases h2:j=k<;>simp[h1,h2]
theorem JX{L:df cz}{X:ab (aq×aq×Obj)}{pend:ab (aq×bp aq)}{pc:ab (aq×aq×bp Obj)}{fuel x i j c d:aq}{f':HF}(hm:Mom w0 P ops L L [] X pend s f pc μ a w fuel)(hr:FE ops L x i j c d=au)(hM:hMl P ops s f x i j c d=ae f')(cont:∀ f0 a' w',f0<fuel->Mom w0 P ops (bG L [x,i,j,c,d]) (bG L [x,i,j,c,d]) [] X pend s f' pc μ a' w' f0->cJ P .any ops Q (Sp ops pc) f0 (bG L [x,i,j,c,d]) a' w'):cJ P .any ops Q (Sp ops pc) fuel L a w:=by
 obtain⟨t,da,dc,dd,k,n1,n2,n3,v1,v2,r,key,kd,kt,et,oa,oi,oj,oc,od,M⟩:=KK hM;simp only[FE,bu,List.contains_iff_mem,bG,gx] at hr;obtain⟨⟨⟨⟨⟨⟨⟨⟨⟨⟨⟨⟨r1,r1'⟩,r2⟩,r2'⟩,r3⟩,r3'⟩,r4⟩,r4'⟩,r5⟩,r5'⟩,r6⟩,r6'⟩,rij⟩:=hr;have hij:i≠j:=λe=>by rw[(aI _ _).2 e] at rij;cases rij
 let b:=w.heap.size;let w1:=w.alloc (.map #[] 0);have hw1b:w1.heap[b]? =ae (.map #[] 0):=by show(w.heap.push _)[w.heap.size]? =_;simp
 have hold1:∀ g,g<b->w1.heap[g]? =w.heap[g]? :=λg hg=>((Below.refl _ _).alloc (cw _) (.map #[] 0)).block g hg;have hpc:∀ y∈pc,qF .any ops (eZ ops) y.1 L\/y.2.1<b:=λy hy=>by
  rcases hm.sp y hy with h|h
  ·exact .inl h
  ·right;have hex:=hm.ex y hy;cases hO:y.2.2 with|none=>exact cp hO hex|some O=>rw[hO] at h;exact cM h
 have spk:∀(L':df cz)(w':dh),(∀ l,L.getD l aa=au->L'.getD l aa=au)->(∀ g,g<b->w'.heap[g]? =w.heap[g]?)->Sp ops pc L' w':=λL' w' h1 h2 y hy=>by
  rcases hm.sp y hy with h|h
  ·obtain⟨c0,k1,k2,k3⟩:=h;exact .inl ⟨c0,k1,h1 _ k2,k3⟩
  ·rcases hpc y hy with h'|h'
   ·obtain⟨c0,k1,k2,k3⟩:=h';exact .inl ⟨c0,k1,h1 _ k2,k3⟩
   ·exact .inr ((h2 _ h').trans h)
 have up1:∀(L':df cz)(i:aq),(∀ l,L.getD l aa=au->L'.getD l aa=au)->∀ l,L.getD l aa=au->(L'.setIfInBounds i au).getD l aa=true:=λL' i h l hl=>getD_set_true (h l hl);have u0:∀ l,L.getD l aa=au->L.getD l aa=true:=λ_ h=>h;have sz:∀(L':df cz)(i:aq),L'.size=ops.size->(L'.setIfInBounds i au).size=ops.size:=λL' i h=>by simpa using h
 obtain⟨t0,pa⟩:=M.pa;have hsz:=hm.ar.size;have hda:da<a.tmps.size:=by rw[hsz];exact M.lt.1
 have hdc:dc<a.tmps.size:=by rw[hsz];exact M.lt.2.1
 have hdd:dd<a.tmps.size:=by rw[hsz];exact M.lt.2.2
 refine xV hm.size hm.fuel r1' (sA r1) λf1 e1 y hy _ hf1=>?_;simp only[ci,fe,or_false] at hy;subst hy;refine vE (v:=.map (ae b)) (w':=w1) M.ha M.ga.1 (by unfold execOp;rw[pa];rfl) ?_;rw[M.dst.1];refine⟨spk _ _ (up1 _ _ u0) hold1,?_⟩;let a1:=a.put (ae da) (.map (ae b));have ea:a1.eval (.tmp da)=.map (ae b):=gX hda;have two:∀(p q np nq:aq->Prop),True:=λ_ _ _ _=>trivial;have tail:∀(f3:aq)(w3:dh)(es:df ez)(cl:aq),f3<fuel->ops.size<=f3+cnt (((L.setIfInBounds y au).setIfInBounds i au).setIfInBounds j au).toList->Below w.heap.size w w3->w3.heap[b]? =ae (.map es cl)->((∃x y,es.toList=[⟨.int k n1,v1,x⟩,⟨.int k n2,v2,y⟩])\/(∃x y,es.toList=[⟨.int k n2,v2,x⟩,⟨.int k n1,v1,y⟩]))->cJ P .any ops Q (Sp ops pc) f3 (((L.setIfInBounds y au).setIfInBounds i au).setIfInBounds j au) a1 w3:=by
  intro f3 w3 es cl hlt hf3 hB hb3 hes;refine xV (sz _ _ (sz _ _ (sz _ _ hm.size))) hf3 r5' (sA r5) λf4 e4 y4 hy4 _ hf4=>?_;simp only[ci,fe,or_false] at hy4;subst hy4;refine vE (v:=.map (ae b)) (w':=w3) M.hc M.ga.2.2.2.1 (by unfold execOp;rw[M.pc];simp only;rw[ea];rfl) ?_;rw[M.dst.2.2.2.1];refine⟨spk _ _ (up1 _ _ (up1 _ _ (up1 _ _ (up1 _ _ u0)))) hB.block,?_⟩;refine xV (sz _ _ (sz _ _ (sz _ _ (sz _ _ hm.size)))) hf4 r6' (sA r6) λf5 e5 y5 hy5 _ hf5=>?_;simp only[ci,fe,or_false] at hy5;subst hy5;have ec:(a1.put (ae dc) (.map (ae b))).eval (.tmp dc)=.map (ae b):=gX (by show dc<(a.put _ _).tmps.size;rw[eR];exact hdc);have ek:(a1.put (ae dc) (.map (ae b))).eval key=.int k n3:=by
   have h1:=eC hm.r hm.ar _ _ M.ev;have h2:a.eval key=.int k n3:=by generalize a.eval key=z at h1;cases h1;rfl
   have nt:∀(u:Act)(e:aq)(v:af),isT e key=aa->(u.put (ae e) v).eval key=u.eval key:=λu e v he=>uw λz hz hh=>by cases hz;rw[hh] at he;simp only[isT,(aI _ _).2 rfl] at he;cases he
   rw[nt _ _ _ M.ka.2,nt _ _ _ M.ka.1,h2]
  refine vE (v:=r) (w':=w3) M.hd M.ga.2.2.2.2 (by unfold execOp;rw[M.pd];simp only;rw[ec,ek];simp only[cv,SI M.ut M.uk hb3 M.ne hes M.res,cj,dw]) ?_;rw[M.dst.2.2.2.2];have hsp:=spk (((((L.setIfInBounds y au).setIfInBounds i au).setIfInBounds j au).setIfInBounds y4 au).setIfInBounds y5 au) w3 (up1 _ _ (up1 _ _ (up1 _ _ (up1 _ _ (up1 _ _ u0))))) hB.block;refine⟨hsp,?_⟩;obtain⟨g1,g2,hg1,hg2,hg3⟩:=M.f';refine cont f5 _ w3 qO ?_;refine {size:=by simp[bG,hm.size],sizeA:=by simp[bG,hm.size],fuel:=hf5,up:=λ_ h=>h,dn:=λ_ h=>.inl h,kn:=(λg hg=>by cases hg),ap:=(λg hg=>by cases hg),hv:=(λl hl=>by simp[cG] at hl),pcr:=hm.pcr,sp:=hsp,r:=hm.r.garbage hB,ar:=?_,ex:=hm.ex,xw:=hm.xw,nd:=hm.nd,g:=(λg hg=>by cases hg)};have q1:=(hm.ar.forget hg1).put_hv (a:=a) (d:=da) (by rw[put_same hg1];rfl) (.map (ae b));have q2:=(q1.forget hg2).put_hv (d:=dc) (by rw[put_same hg2];rfl) (.map (ae b));exact cS q2 (j8 2 r M.fl) hg3
 have hins:∀(u:aq)(o:gg)(n:br)(v:af)(es:df ez)(cl:aq)(w':dh),o.op=.insert t (.tmp da) (.const (.int k n)) (.const v)->w'.heap[b]? =ae (.map es cl)->(∀ e∈es.toList,∃m,e.key=.int k m/\m≠n)->(execOp a1.eval o).run P w'=.ok .skip {w' with heap:=w'.heap.setIfInBounds b (.map (es.push {key:=.int k n,val:=v,born:=cl}) (cl+1))}:=by intro u o n v es cl w' hop hb hes;unfold execOp;rw[hop];simp only;rw[ea];have:=N5 (v:=v) M.ut M.uk hb hes;simp only[cv,Act.eval,this,cj,dw]
 have hbel:∀(w':dh)(O:Obj),Below w.heap.size w w'->Below w.heap.size w {w' with heap:=w'.heap.setIfInBounds b O}:=λw' O h=>⟨h.os,h.tape,h.output,by simpa using h.size,λg hg=>(jZ (w:=w') (b:=b) (g:=g) (O':=O) qO).trans (h.block g hg)⟩;have hB1:Below w.heap.size w w1:=(Below.refl _ _).alloc (cw _) _;refine xV (sz _ _ hm.size) hf1 r2' (LL r2) λf2 e2 y2 hy2 _ hf2=>?_;simp only[ci,fe,or_false] at hy2;rcases hy2 with rfl|rfl
 ·refine t6 M.hi M.ga.2.1 M.dst.2.1 (hins y2 _ _ _ _ _ _ M.pi hw1b (λe he=>by simp at he)) ?_;have hb2:({w1 with heap:=w1.heap.setIfInBounds b (.map ((#[]:df ez).push {key:=.int k n1,val:=v1,born:=0}) (0+1))}:dh).heap[b]? =ae (.map ((#[]:df ez).push {key:=.int k n1,val:=v1,born:=0}) (0+1)):=gG hw1b;have hB2:=hbel w1 (.map ((#[]:df ez).push {key:=.int k n1,val:=v1,born:=0}) (0+1)) hB1;refine⟨spk _ _ (up1 _ _ (up1 _ _ u0)) hB2.block,?_⟩;refine xV (sz _ _ (sz _ _ hm.size)) hf2 r3' (sA r3) λf3 e3 y3 hy3 _ hf3=>?_;simp only[ci,fe,or_false] at hy3;subst hy3;refine t6 M.hj M.ga.2.2.1 M.dst.2.2.1 (hins y3 _ _ _ _ _ _ M.pj hb2 (λe he=>by
   simp at he;subst he;exact⟨n1,rfl,lv M.ne⟩)) ?_
  have hb3:=gG (O':=.map (((#[]:df ez).push {key:=.int k n1,val:=v1,born:=0}).push {key:=.int k n2,val:=v2,born:=0+1}) (0+1+1)) hb2;have hB3:=hbel _ (.map (((#[]:df ez).push {key:=.int k n1,val:=v1,born:=0}).push {key:=.int k n2,val:=v2,born:=0+1}) (0+1+1)) hB2;refine⟨spk _ _ (up1 _ _ (up1 _ _ (up1 _ _ u0))) hB3.block,?_⟩;exact tail f3 _ _ _ qO hf3 hB3 hb3 (.inl ⟨_,_,rfl⟩)
 ·refine t6 M.hj M.ga.2.2.1 M.dst.2.2.1 (hins y2 _ _ _ _ _ _ M.pj hw1b (λe he=>by simp at he)) ?_;have hb2:({w1 with heap:=w1.heap.setIfInBounds b (.map ((#[]:df ez).push {key:=.int k n2,val:=v2,born:=0}) (0+1))}:dh).heap[b]? =ae (.map ((#[]:df ez).push {key:=.int k n2,val:=v2,born:=0}) (0+1)):=gG hw1b;have hB2:=hbel w1 (.map ((#[]:df ez).push {key:=.int k n2,val:=v2,born:=0}) (0+1)) hB1;refine⟨spk _ _ (up1 _ _ (up1 _ _ u0)) hB2.block,?_⟩;refine xV (sz _ _ (sz _ _ hm.size)) hf2 r4' (sA r4) λf3 e3 y3 hy3 _ hf3=>?_;simp only[ci,fe,or_false] at hy3;subst hy3;refine t6 M.hi M.ga.2.1 M.dst.2.1 (hins y3 _ _ _ _ _ _ M.pi hb2 (λe he=>by
   simp at he;subst he;exact⟨n2,rfl,M.ne⟩)) ?_
  have hb3:=gG (O':=.map (((#[]:df ez).push {key:=.int k n2,val:=v2,born:=0}).push {key:=.int k n1,val:=v1,born:=0+1}) (0+1+1)) hb2;have hB3:=hbel _ (.map (((#[]:df ez).push {key:=.int k n2,val:=v2,born:=0}).push {key:=.int k n1,val:=v1,born:=0+1}) (0+1+1)) hB2;refine⟨spk _ _ (up1 _ _ (up1 _ _ (up1 _ _ u0))) hB3.block,?_⟩;rw[IQ (i:=y2)] at hf3 ⊢;exact tail f3 _ _ _ qO hf3 hB3 hb3 (.inr ⟨_,_,rfl⟩)
end
section
variable{w0:Base}{μ:Mu}{s:St}{w:dh}{P:cq}{ops:df gg}{Q:Exit->Act->dh->Prop}{f:HF}{a:Act}
theorem D7{K:ab GK}{k:aq}{g:GK}(h:K.find? (λg=>bx g.k k)=ae g):g∈K/\g.k=k:=⟨kx h,(aI _ _).1 (rv (p:=λ(g:GK)=>bx g.k k) h)⟩
theorem AV(hgo:NoG P){call:aS}(hc:aR P call)(hsel:jp ops=au)(hQ:∀ c a w,¬Q (.panic c) a w){w0:Base}{μ0:Mu}{s':St}{f':HF}(fin:∀ μ' a' w',μ0.le μ'->R w0 μ' s' w'->AR μ' f' a'->Q .normal a' w')(ok:SOK s'):∀(fuel:aq)(l:ab PS)(L LA:df cz)(K:ab GK)(X:ab (aq×aq×Obj))(pend:ab (aq×bp aq))(s:St)(f:HF)(μ:Mu)(a:Act)(w:dh)(pc:ab (aq×aq×bp Obj)),μ0.le μ->Mom w0 P ops L LA K X pend s f pc μ a w fuel->ChE P ops K s f->bU P call ops l L K pend s f=ae (s',f')->cJ P .any ops Q (Sp ops pc) fuel LA a w:=by
 intro fuel;induction fuel using Nat.strongRecOn with|_ fuel IH=>
 intro l;induction l with
 |nil=>
  intro L LA K X pend s f μ a w pc hμ hm hE hr;simp only[bU] at hr;obtain⟨hb,hr⟩:=aD hr;cases hr;simp only[bu,List.isEmpty_iff] at hb;obtain⟨hb1,rfl⟩:=hb;have he:LA=L:=by
   apply Array.ext
   ·rw[hm.size,hm.sizeA]
   ·intro i h1 h2;have a1:=hm.up i;have a2:=hm.dn i;simp only[cG,fe,or_false] at a2;have e1:LA.getD i aa=LA[i]:=by simp[h1]
    have e2:L.getD i aa=L[i]:=by simp[h2]
    rw[e1,e2] at a1 a2;cases h3:LA[i]<;>cases h4:L[i]<;>simp_all
  subst he;exact CD hb1 (fin _ _ _ hμ (KE hm.r) hm.ar) _
 |cons st r ih=>
  intro L LA K X pend s f μ a w pc hμ hm hE hr;have nsub:∀{L:df cz}{K K':ab GK}{pend:ab (aq×bp aq)}{s2:St}{f:HF},(gT P ops K' f s2 λs3=>bU P call ops r L K pend s3 f)=ae (s',f')->SOK s2:=λh=>by obtain⟨s3,h3,h4,_⟩:=lW h;exact gd (dy h4.sub (lV hc _ _ _ _ _ _ _ _ h3)) ok
  have next:∀{L LA:df cz}{K:ab GK}{X:ab (aq×aq×Obj)}{pend:ab (aq×bp aq)}{s2:St}{f:HF}{μ:Mu}{a:Act}{w:dh}{pc:ab (aq×aq×bp Obj)},μ0.le μ->Mom w0 P ops L LA K X pend s2 f pc μ a w fuel->(gT P ops K f s2 λs3=>bU P call ops r L K pend s3 f)=ae (s',f')->cJ P .any ops Q (Sp ops pc) fuel LA a w:=λhμ hm h=>by obtain⟨s3,h3,h4,h5⟩:=lW h;exact ih _ _ _ _ _ _ _ _ _ _ _ hμ (hm.like h4) (h5 (gd (lV hc _ _ _ _ _ _ _ _ h3) ok)) h3
  have nextF:∀{f0:aq}{L LA:df cz}{K:ab GK}{X:ab (aq×aq×Obj)}{pend:ab (aq×bp aq)}{s2:St}{f:HF}{μ:Mu}{a:Act}{w:dh}{pc:ab (aq×aq×bp Obj)},f0<fuel->μ0.le μ->Mom w0 P ops L LA K X pend s2 f pc μ a w f0->(gT P ops K f s2 λs3=>bU P call ops r L K pend s3 f)=ae (s',f')->cJ P .any ops Q (Sp ops pc) f0 LA a w:=λhlt hμ hm h=>by obtain⟨s3,h3,h4,h5⟩:=lW h;exact IH _ hlt _ _ _ _ _ _ _ _ _ _ _ _ hμ (hm.like h4) (h5 (gd (lV hc _ _ _ _ _ _ _ _ h3) ok)) h3
  cases st with
  |take i=>
   simp only[bU] at hr;split at hr
   ·cases hr
   ·rename_i o ho;obtain⟨hok,hr⟩:=aD hr;split at hr
    ·cases hr
    ·rename_i s1 hw;obtain⟨e1,e2⟩:=eH hm.ar hw;split at hr
     ·rename_i f1 hf1;have ok1:=nsub hr;refine sC (v:=undef) (T:=λ_=>True) (pc':=pc) hsel hQ ho hok (hm.like e1) (.inr ⟨e2 ok1,rfl⟩) trivial hm.pcr hm.ex (λl w'=>⟨λh=>h.1,λh=>⟨h,.inr trivial⟩⟩) (cS hm.ar jR hf1) ⟨_,hf1⟩ ?_;exact λf0 hlt hm'=>nextF hlt hμ hm' hr
     ·cases hr
    ·rename_i s1 hw;obtain⟨e1,e2⟩:=eH hm.ar hw;split at hr
     ·rename_i v z s2 hv;split at hr
      ·rename_i f1 hf1;obtain⟨hheld,hr⟩:=aD hr;have hr1:=hm.r.like e1;have he:=eC hr1 hm.ar;obtain⟨g1,g2⟩:=rD hr1 he hv;have ok2:=nsub hr;obtain⟨v',b,k1,k2,k3⟩:=g2 ok2;have hy:YieldsIf P ops (λw'=>F5 μ w w' z b) o v' a:=.inl ⟨e2 (gd g1.sub ok2),λw' hw'=>k1 w' hw'⟩;have hm1:=(hm.like e1).like g1;cases z with
       |none=>refine sC (pc':=pc) hsel hQ ho hok hm1 hy trivial hm.pcr hm.ex (λl w'=>⟨λh=>h.1,λh=>⟨h,.inr trivial⟩⟩) (cS hm.ar k2 hf1) ⟨_,hf1⟩ ?_;exact λf0 hlt hm'=>nextF hlt hμ hm' hr
       |some z=>
        have hbz:BlkZ μ z b:=by cases z with|none=>exact k3.1|some z=>exact k3.1
        have hne:w.heap[b]?≠none:=by cases z with|none=>obtain⟨O,hO⟩:=hbz;rw[hm.r.fz _ _ hO];simp|some z=>obtain⟨p,hp,rfl⟩:=hbz;have:=OJ hm1.r hheld hp;simp[this]
        have hT:∀ w',F5 μ w w' (ae z) b↔w'.heap[b]? =w.heap[b]? :=λw'=>by cases z with|none=>exact⟨λh=>h.2,λh=>⟨hbz,h⟩⟩|some z=>exact⟨λh=>h.2,λh=>⟨hbz,h⟩⟩
        refine sC (pc':=(i,b,w.heap[b]?)::pc) hsel hQ ho hok hm1 hy k3 (.cons hbz hm.pcr) (λy hy=>(ci.1 hy).elim (λe=>by subst e;exact hne) (hm.ex y)) (λl w'=>⟨λh y hy=>?_,λh=>⟨λy hy=>h y (ep _ hy),?_⟩⟩) (cS hm.ar k2 hf1) ⟨_,hf1⟩ ?_
        ·rcases ci.1 hy with rfl|hy
         ·exact h.2.imp id λhh=>(hT w').1 hh
         ·exact h.1 y hy
        ·exact(h _ (fd ..)).imp id λhh=>(hT w').2 hh
        ·exact λf0 hlt hm'=>nextF hlt hμ hm' hr
      ·cases hr
     ·cases hr
  |st c=>
   have hr0:=hr;simp only[bU] at hr;split at hr
   ·cases hr
   ·rename_i o ho;obtain⟨hok,hr⟩:=aD hr;obtain⟨q1,q2,q3,q4,q5⟩:=G9 hok;split at hr
    ·rename_i s1 rs hl;split at hr
     ·rename_i s2 f2 hs;split at hr
      ·rename_i s3 hu;have hrc:=hm.ready_of q2 q4;obtain⟨f0,rfl,_⟩:=eL hm.sizeA hrc hm.fuel;refine⟨λh0=>(by rw[h0] at hrc;cases hrc),λj hj=>?_⟩;obtain⟨f1,e,hf1⟩:=eL hm.sizeA hj hm.fuel;cases e;by_cases hjk:j∈cG K
       ·obtain⟨g,hg,hjg⟩:=mem_kops.1 hjk;exact v8 hsel hm hE hg hjg hj hf1 λX' a' w' hm'=>IH f0 qO _ _ _ _ _ _ _ _ _ _ _ _ hμ hm' hE hr0
       ·have:=q3 j (hm.ready_in hj (λi hi _=>hi) hjk);subst this;exact F8 hgo hc hsel ho q1 q4 q5 hm hl hs (HK hs) hu (nsub hr) hf1 λμ' a' w' pc' hle hm'=>nextF qO (no hμ hle) hm' hr
      ·cases hr
     ·cases hr
    ·cases hr
  |flt k=>
   simp only[bU] at hr;split at hr
   ·cases hr
   ·rename_i o ho;obtain⟨hcnd,hr⟩:=aD hr;simp only[bu,gx,fq] at hcnd;obtain⟨⟨⟨c1,c2⟩,c3⟩,c4⟩:=hcnd;split at hr
    ·rename_i d hg hd;split at hr
     ·rename_i ho' v s1 f1 hf hf1;obtain⟨hdn,hr⟩:=aD hr;have ok1:=nsub hr;exact next hμ (O0 hm ho (by simpa using c1) c2 (λhh=>by rw[hasN_iff.2 hh] at c3;cases c3) c4 hg hd hf hf1 (bN hdn) ok1) hr
     ·cases hr
    ·cases hr
  |lit x b c=>
   simp only[bU] at hr;split at hr
   ·rename_i g d hfd hd;obtain⟨hgK,rfl⟩:=D7 hfd;obtain⟨hcnd,hr⟩:=aD hr;simp only[bu,gx,fq,pu] at hcnd;obtain⟨⟨⟨⟨⟨⟨⟨⟨⟨⟨⟨⟨⟨c1,c0⟩,c2⟩,c3⟩,c4⟩,c5⟩,c6⟩,c7⟩,c8⟩,c9⟩,c10⟩,c11⟩,c12⟩,c13⟩:=hcnd;have hnc:fU g=false:=by
     cases hx:fU g with
     |false=>rfl
     |true=>
      unfold fU at hx;unfold GK.ch at c0;split at hx
      ·rename_i hv;rw[hv] at c0;cases c0
      ·cases hx
    split at hr
    ·rename_i db dc v0 s1 hl;split at hr
     ·rename_i f1 hf1;split at hr
      ·rename_i f2 hf2;obtain⟨hdn,hr⟩:=aD hr;simp only[bu] at hdn;have ok1:=nsub hr;have nn:∀{l:ab aq}{i:aq},gI l i=aa->i∉l:=λh hh=>by rw[hasN_iff.2 hh] at h;cases h
       exact next hμ (NQ hm hgK hnc hd (by simpa using c1) (nn c2) (nn c3) (λhh=>by rw[(aI _ _).2 hh] at c4;cases c4) c5 c6 c7 c8 (by simpa using c9) (by simpa using c10) c11 c12 (λj hj=>(c13 j hj).imp (λh=>(aI _ _).1 h) λh=>⟨h.1.1.1,h.1.1.2,h.1.2,h.2⟩) hl hf1 hf2 (bN hdn.1) (bN hdn.2) ok1) hr
      ·cases hr
     ·cases hr
    ·cases hr
   ·cases hr
  |com k=>
   have hr0:=hr;simp only[bU] at hr;split at hr
   ·rename_i g hfd;obtain⟨hgK,rfl⟩:=D7 hfd;obtain⟨hok,hr⟩:=aD hr;cases hcg:fU g with
    |true=>
     obtain⟨d0,v0,l0,hgv⟩:∃d v l,g.v=.chain d v l:=by
      unfold fU at hcg;split at hcg
      ·rename_i d v l h;exact⟨d,v,l,h⟩
      ·cases hcg
     rw[hgv] at hr;simp only at hr;by_cases hup:∀ j∈g.ops,LA.getD j aa=au
     ·split at hr
      ·rename_i f1 hf1;exact next hμ (K7 hsel hm hgK hcg hup hf1) hr
      ·cases hr
     ·obtain⟨i,hig,hir⟩:=EF hm hgK hcg hup;obtain⟨f0,rfl,_⟩:=eL hm.sizeA hir hm.fuel;refine⟨λh0=>(by rw[h0] at hir;cases hir),λj hj=>?_⟩;obtain⟨f1,e,hf1⟩:=eL hm.sizeA hj hm.fuel;cases e;have hjk:j∈cG K:=gi λhjk=>by
       have hiu:¬LA.getD i aa=true:=λhh=>by rw[bS (mem_ready.1 hir).1] at hh;cases hh
       have hdn:=O5 hm hgK hcg g.ops [i] (λj hj=>hj) (λj hj=>by simp only[ci,fe,or_false] at hj;rw[hj];exact hiu);have hjl:j∉(cG K).filter λj=>!gI (dcl ops [i] g.ops) j:=λhh=>hjk (jq.1 hh).1;have:=hm.ready_in hj (l:=(cG K).filter λj=>!gI (dcl ops [i] g.ops) j) (λk hk hlk=>jq.2 ⟨hk,by
        cases hx:gI (dcl ops [i] g.ops) k with
        |false=>rfl
        |true=>exact cp hlk (hdn k (hasN_iff.1 hx))⟩) hjl
       unfold JU at hok;rw[hgv] at hok;simp only[fq] at hok;have:=hok i hig j this;exact hjk (mem_kops.2 ⟨g,hgK,hasN_iff.1 this⟩)
      obtain⟨g',hg',hjg⟩:=mem_kops.1 hjk;exact v8 hsel hm hE hg' hjg hj hf1 λX' a' w' hm'=>IH f0 qO _ _ _ _ _ _ _ _ _ _ _ _ hμ hm' hE hr0
    |false=>
    have hgv:∀ d v l,g.v≠.chain d v l:=λd v l hh=>by unfold fU at hcg;rw[hh] at hcg;cases hcg
    by_cases hup:LA.getD g.last aa=au
    ·split at hr
     ·rename_i h;exact cp h (hgv _ _ _)
     ·split at hr
      ·rename_i hlt;split at hr
       ·rename_i d t hd ht;split at hr
        ·rename_i f1 hf1;obtain⟨X',μ',hle,hm'⟩:=K8 hsel hm hgK hcg hlt (by unfold GK.last at hup;rw[hlt] at hup;exact hup) hd ht hf1;exact next (no hμ hle) hm' hr
        ·cases hr
       ·cases hr
      ·rename_i b c v0 hlt;split at hr
       ·rename_i d hd;split at hr
        ·rename_i f1 hf1;exact next hμ (K6 hsel hm hgK hcg hlt (by unfold GK.last at hup;rw[hlt] at hup;exact hup) hd hf1) hr
        ·cases hr
       ·cases hr
    ·obtain⟨i,hig,hir⟩:=HV hm hgK hcg hup;obtain⟨f0,rfl,_⟩:=eL hm.sizeA hir hm.fuel;refine⟨λh0=>(by rw[h0] at hir;cases hir),λj hj=>?_⟩;obtain⟨f1,e,hf1⟩:=eL hm.sizeA hj hm.fuel;cases e;have hjk:j∈cG K:=gi λhjk=>by
      have hjl:j∉(cG K).filter λj=>!bx j g.last:=λhh=>hjk (jq.1 hh).1;have:=hm.ready_in hj (l:=(cG K).filter λj=>!bx j g.last) (λi hi hli=>jq.2 ⟨hi,by
       cases hx:bx i g.last with
       |false=>rfl
       |true=>rw[(aI _ _).1 hx] at hli;exact cp hli hup⟩) hjl
      unfold JU at hok;split at hok
      ·rename_i h;exact cp h (hgv _ _ _)
      ·rw[fq] at hok;have:=(aI _ _).1 (hok j this);exact hjk (this ▸ mem_kops.2 ⟨g,hgK,GK.last_mem hcg⟩)
     obtain⟨g',hg',hjg⟩:=mem_kops.1 hjk;exact v8 hsel hm hE hg' hjg hj hf1 λX' a' w' hm'=>IH f0 qO _ _ _ _ _ _ _ _ _ _ _ _ hμ hm' hE hr0
   ·cases hr
  |fly i=>
   simp only[bU] at hr;split at hr
   ·cases hr
   ·rename_i o ho;obtain⟨hcnd,hr⟩:=aD hr;simp only[bu,gx,fq] at hcnd;obtain⟨⟨⟨c1,c2⟩,c3⟩,c4⟩:=hcnd;split at hr
    ·rename_i d hg hd;split at hr
     ·rename_i v z s1 f1 hf hf1;obtain⟨hdn,hr⟩:=aD hr;exact next hμ (OZ hm ho (by simpa using c1) c2 (λhh=>by rw[hasN_iff.2 hh] at c3;cases c3) c4 hg hd (fF hf) hf1 (bN hdn)) hr
     ·cases hr
    ·cases hr
  |ml x i j c d=>
   simp only[bU] at hr;obtain⟨hb,hr⟩:=aD hr;simp only[bu,List.isEmpty_iff] at hb;obtain⟨rfl,hb2⟩:=hb;split at hr
   ·rename_i f1 hM;have he:LA=L:=by
     apply Array.ext
     ·rw[hm.size,hm.sizeA]
     ·intro i h1 h2;have a1:=hm.up i;have a2:=hm.dn i;simp only[cG,fe,or_false] at a2;have e1:LA.getD i aa=LA[i]:=by simp[h1]
      have e2:L.getD i aa=L[i]:=by simp[h2]
      rw[e1,e2] at a1 a2;cases h3:LA[i]<;>cases h4:L[i]<;>simp_all
    subst he;exact JX hm hb2 hM λf0 a' w' hlt hm'=>nextF hlt hμ hm' hr
   ·cases hr
  |ext k i=>
   simp only[bU] at hr;split at hr
   ·rename_i g o hfd ho;obtain⟨hgK,rfl⟩:=D7 hfd;split at hr
    ·rename_i d0 v0 l d hgv hg hd;obtain⟨hcnd,hr⟩:=aD hr;simp only[bu,gx,fq,pu] at hcnd;obtain⟨⟨⟨⟨⟨⟨c1,c2⟩,c3⟩,c4⟩,c5⟩,c6⟩,c7⟩:=hcnd;split at hr
     ·rename_i v z s1 f1 hf hf1;exact next hμ (O3 hm hgK hgv ho c1 (λhh=>by rw[hasN_iff.2 hh] at c2;cases c2) c3 (by simpa using c4) hg hd (bN c5) (λy hy hh=>by
       have:=c6 y hy;rw[(aI _ _).2 hh] at this;cases this) (λj hj=>(c7 j hj).imp (λh=>hasN_iff.1 h) λh=>h) (fF hf) hf1) hr
     ·cases hr
    ·cases hr
   ·cases hr
def BL(P:cq)(call:aS)(ops:df gg)(s:St)(f:HF):bp (St×HF):=bif P.follows .mixedOrders&&jp ops then match G8 s with
  |some (fl,s1)=>bU P call ops (yM ops fl (4*ops.size+4) (mn ops.size aa) []) (mn ops.size aa) [] [] s1 f
  |none=>av
 else av
theorem HL{call:aS}(hc:aR P call){s':St}{f':HF}(hr:BL P call ops s f=ae (s',f')):s.sub s':=by
 unfold BL at hr;obtain⟨_,hr⟩:=aD hr;split at hr
 ·rename_i hp;exact dy (cZ hp).sub (lV hc _ _ _ _ _ _ _ _ hr)
 ·cases hr
theorem BK(hg:NoG P){call:aS}(hc:aR P call){id:aq}{μ0:Mu}{s':St}{f':HF}(hμ:μ0.le μ)(h:R w0 μ s w)(ha:AR μ f a)(hr:BL P call ops s f=ae (s',f'))(ok':SOK s'):(Code.region id ops au).wp P (Post w0 μ0 .normal s' f') a w:=by
 unfold BL at hr;obtain⟨hb,hr⟩:=aD hr;simp only[bu] at hb;split at hr
 case h_2=>cases hr
 rename_i fl s1 hp;have h:=h.like (cZ hp);have hQ:∀ c a w,¬Post w0 μ0 .normal s' f' (.panic c) a w:=λc a w hh=>by cases hh.1
 have hdrew:R w0 μ s1 {w with drawn:=w.drawn+1}:=h.drew;have m0:Mom w0 P ops (mn ops.size aa) (mn ops.size aa) [] [] [] s1 f [] μ a {w with drawn:=w.drawn+1} ops.size:={size:=by simp,sizeA:=by simp,fuel:=Nat.le_add_right _ _,up:=λj hj=>hj,dn:=λj hj=>.inl hj,kn:=λg hg=>(by cases hg),ap:=λg hg=>(by cases hg),hv:=λj hj=>(by cases hj),pcr:=.nil,sp:=λy hy=>(by cases hy),r:=S8 hdrew,ar:=ha,ex:=λy hy=>(by cases hy),xw:=λx hx=>(by cases hx),nd:=λx hx=>(by cases hx),g:=λg hg=>(by cases hg)};refine wp_region_any hb.1 (uJ (S:=Sp ops []) _ _ _ _ ?_);exact AV hg hc hb.2 hQ (λμ' a' w' hle hR hA=>⟨rfl,μ',hle,hR,hA⟩) ok' _ _ _ _ _ _ _ _ _ _ _ _ _ hμ m0 (λg hg=>by cases hg) hr
end
section
variable{w0:Base}{μ:Mu}{s:St}{w:dh}{P:cq}{f:HF}{a:Act}
def xN(g:St->HF->bp (HX×St×HF)):aq->St->HF->bp (HX×St×HF)
 |0,_,_=>av|n+1,s,f=>match g s f with|some (.normal,s',f')=>xN g n s' f'|r=>r
def eW(P:cq)(call:aS)(lf:aq):Code->St->HF->bp (HX×St×HF)
 |.skip,s,f=>ae (.normal,s,f)|.label _,s,f=>ae (.normal,s,f)
 |.region _ ops au,s,f=>match BL P call ops s f with
  |some (s',f')=>ae (.normal,s',f')|none=>av
 |.region _ ops aa,s,f=>match pC P call ops.toList ops.toList s f with|some (s',f')=>ae (.normal,s',f')|none=>av
 |.seq x y,s,f=>match eW P call lf x s f with|some (.normal,s',f')=>eW P call lf y s' f'|r=>r
 |.cond c x y,s,f=>match f.ev s c with
  |some (.bool b)=>match vB b s with
   |some (au,s')=>eW P call lf x s' f|some (aa,s')=>eW P call lf y s' f|none=>av
  |_=>av
 |.block id x,s,f=>match eW P call lf x s f with
  |some (.exit i,s',f')=>bif bx i id then ae (.normal,s',f') else ae (.exit i,s',f')
  |r=>r
 |.loop x,s,f=>xN (eW P call lf x) lf s f|.exit id,s,f=>ae (.exit id,s,f)|.ret,s,f=>ae (.ret,s,f)|_,_,_=>av
theorem Post.le{x:HX}{s:St}{f:HF}{μ0 μ1:Mu}(h:μ0.le μ1){e:Exit}{a:Act}{w:dh}(k:Post w0 μ1 x s f e a w):Post w0 μ0 x s f e a w:=⟨k.1,let⟨μ',k1,k2,k3⟩:=k.2;⟨μ',no h k1,k2,k3⟩⟩
def sB(g:St->HF->bp (HX×St×HF)):Prop:=∀(s s':St)(f f':HF)(x:HX),g s f=ae (x,s',f')->s.sub s'
def dX(P:cq)(c:Code)(g:St->HF->bp (HX×St×HF)):Prop:=∀(w0:Base)(μ:Mu)(s s':St)(w:dh)(f f':HF)(a:Act)(x:HX),R w0 μ s w->AR μ f a->g s f=ae (x,s',f')->SOK s'->c.wp P (Post w0 μ x s' f') a w
theorem xM{g:St->HF->bp (HX×St×HF)}(hk:sB g):∀ n,sB (xN g n):=by
 intro n;induction n with
 |zero=>intro s s' f f' x h;cases h
 |succ n ih=>
  intro s s' f f' x h;simp only[xN] at h;split at h
  ·rename_i h1;exact dy (hk _ _ _ _ _ h1) (ih _ _ _ _ _ h)
  ·exact hk _ _ _ _ _ h
theorem fG{call:aS}(hc:aR P call)(lf:aq):∀ c:Code,sB (eW P call lf c):=by
 intro c;induction c with
 |skip=>intro s s' f f' x h;cases h;exact s.sub_refl|label l=>intro s s' f f' x h;cases h;exact s.sub_refl
 |region id ops draw=>
  intro s s' f f' x h;cases draw with
  |true=>
   simp only[eW] at h;split at h
   ·rename_i h1;cases h;exact HL hc h1
   ·cases h
  |false=>
   simp only[eW] at h;split at h
   ·rename_i h1;cases h;exact BI hc _ _ _ _ _ h1
   ·cases h
 |seq x y ihx ihy=>
  intro s s' f f' e h;simp only[eW] at h;split at h
  ·rename_i h1;exact dy (ihx _ _ _ _ _ h1) (ihy _ _ _ _ _ h)
  ·exact ihx _ _ _ _ _ h
 |cond c x y ihx ihy=>
  intro s s' f f' e h;simp only[eW] at h;split at h
  ·split at h
   ·rename_i hp;exact dy (aZ hp).1.sub (ihx _ _ _ _ _ h)
   ·rename_i hp;exact dy (aZ hp).1.sub (ihy _ _ _ _ _ h)
   ·cases h
  ·cases h
 |block id x ihx=>
  intro s s' f f' e h;simp only[eW] at h;split at h
  ·rename_i i s1 f1 h1;cases hb:bx i id with|true=>rw[hb] at h;cases h;exact ihx _ _ _ _ _ h1|false=>rw[hb] at h;cases h;exact ihx _ _ _ _ _ h1
  ·exact ihx _ _ _ _ _ h
 |loop x ihx=>intro s s' f f' e h;exact xM ihx lf _ _ _ _ _ h|exit id=>intro s s' f f' x h;cases h;exact s.sub_refl|ret=>intro s s' f f' x h;cases h;exact s.sub_refl|_=>intro s s' f f' x h;cases h
theorem BJ{c:Code}{g:St->HF->bp (HX×St×HF)}(hk:dX P c g)(hsub:sB g):∀(n:aq)(μ:Mu)(s s':St)(w:dh)(f f':HF)(a:Act)(x:HX),R w0 μ s w->AR μ f a->xN g n s f=ae (x,s',f')->SOK s'->Code.rounds P c (Post w0 μ x s' f') n a w:=by
 intro n;induction n with
 |zero=>intro μ s s' w f f' a x _ _ h;cases h
 |succ n ih=>
  intro μ s s' w f f' a x h ha hr ok;simp only[xN] at hr;rw[rounds_succ];split at hr
  ·rename_i s1 f1 h1;refine wp_mono (hk w0 μ s s1 w f f1 a .normal h ha h1 (gd (xM hsub n _ _ _ _ _ hr) ok)) λe a' w' ⟨he,μ',k1,k2,k3⟩=>?_;cases he;have:=ih μ' s1 s' w' f1 f' a' x k2 k3 hr ok;have mono:∀(n:aq)(a:Act)(w:dh),Code.rounds P c (Post w0 μ' x s' f') n a w->Code.rounds P c (Post w0 μ x s' f') n a w:=by intro n;induction n with|zero=>intro a w h;exact h|succ n ihn=>intro a w h;rw[rounds_succ] at h ⊢;refine wp_mono h λe a' w' hq=>?_;cases e<;>first|exact ihn _ _ hq|exact Post.le k1 hq
   exact mono n a' w' this
  ·rename_i hne;refine wp_mono (hk w0 μ s s' w f f' a x h ha hr ok) λe a' w' hq=>?_;have he:=hq.1;cases x with|normal=>exact cp hr (hne s' f')|exit i=>cases he;exact hq|ret=>cases he;exact hq
theorem jA(hg:NoG P){call:aS}(hc:aR P call)(lf:aq):∀ c:Code,dX P c (eW P call lf c):=by
 intro c;induction c with
 |skip=>intro w0 μ s s' w f f' a x h ha hr _;cases hr;exact wp_skip ⟨rfl,μ,gk _,h,ha⟩|label l=>intro w0 μ s s' w f f' a x h ha hr _;cases hr;exact wp_label ⟨rfl,μ,gk _,h,ha⟩
 |region id ops draw=>
  intro w0 μ s s' w f f' a x h ha hr ok;cases draw with
  |true=>
   simp only[eW] at hr;split at hr
   ·rename_i s1 f1 h1;cases hr;exact BK hg hc (gk _) h ha h1 ok
   ·cases hr
  |false=>
   simp only[eW] at hr;split at hr
   ·rename_i s1 f1 h1;cases hr;exact wp_region_list (DR hg hc _ μ _ _ _ _ _ _ (gk _) h ha h1 ok)
   ·cases hr
 |seq x y ihx ihy=>
  intro w0 μ s s' w f f' a e h ha hr ok;simp only[eW] at hr;refine wp_seq ?_;split at hr
  ·rename_i s1 f1 h1;refine wp_mono (ihx w0 μ s s1 w f f1 a .normal h ha h1 (gd (fG hc lf _ _ _ _ _ _ hr) ok)) λe1 a' w' ⟨he,μ',k1,k2,k3⟩=>?_;cases he;exact wp_mono (ihy w0 μ' s1 s' w' f1 f' a' e k2 k3 hr ok) λ_ _ _ hq=>Post.le k1 hq
  ·rename_i hne;refine wp_mono (ihx w0 μ s s' w f f' a e h ha hr ok) λe1 a' w' hq=>?_;have he:=hq.1;cases e with|normal=>exact cp hr (hne s' f')|exit i=>cases he;exact hq|ret=>cases he;exact hq
 |cond c x y ihx ihy=>
  intro w0 μ s s' w f f' a e h ha hr ok;simp only[eW] at hr;split at hr
  ·rename_i b hcv;have hvr:=eC h ha _ _ hcv;split at hr
   ·rename_i s1 hp;obtain⟨k1,k2⟩:=aZ hp;have:=k2 (gd (fG hc lf _ _ _ _ _ _ hr) ok);subst this;refine wp_cond_true ?_ (ihx w0 μ s1 s' w f f' a e (h.like k1) ha hr ok);generalize a.eval c=vc at hvr ⊢;cases hvr;rfl
   ·rename_i s1 hp;obtain⟨k1,k2⟩:=aZ hp;have:=k2 (gd (fG hc lf _ _ _ _ _ _ hr) ok);subst this;refine wp_cond_false ?_ (ihy w0 μ s1 s' w f f' a e (h.like k1) ha hr ok);generalize a.eval c=vc at hvr ⊢;cases hvr;rfl
   ·cases hr
  ·cases hr
 |block id x ihx=>
  intro w0 μ s s' w f f' a e h ha hr ok;simp only[eW] at hr;refine wp_block ?_;split at hr
  ·rename_i i s1 f1 h1;have ok1:SOK s1:=by cases hb:bx i id with|true=>rw[hb] at hr;cases hr;exact ok|false=>rw[hb] at hr;cases hr;exact ok
   refine wp_mono (ihx w0 μ s s1 w f f1 a (.exit i) h ha h1 ok1) λe1 a' w' hq=>?_;obtain⟨he,hq'⟩:=hq;cases he;simp only[Exit.inBlock,HX.ex];cases hb:bx i id with|true=>rw[hb] at hr;cases hr;rw[fc ((aI _ _).1 hb)];exact⟨rfl,hq'⟩|false=>rw[hb] at hr;cases hr;rw[eh (λe=>by rw[(aI _ _).2 e] at hb;cases hb)];exact⟨rfl,hq'⟩
  ·rename_i hne;refine wp_mono (ihx w0 μ s s' w f f' a e h ha hr ok) λe1 a' w' hq=>?_;have he:=hq.1;cases e with|normal=>cases he;exact hq|exit i=>exact cp hr (hne i s' f')|ret=>cases he;exact hq
 |loop x ihx=>intro w0 μ s s' w f f' a e h ha hr ok;simp only[eW] at hr;exact wp_loop_rounds lf (BJ ihx (fG hc lf x) lf μ s s' w f f' a e h ha hr ok)|exit id=>intro w0 μ s s' w f f' a x h ha hr _;cases hr;exact wp_exit ⟨rfl,μ,gk _,h,ha⟩|ret=>intro w0 μ s s' w f f' a x h ha hr _;cases hr;exact wp_ret ⟨rfl,μ,gk _,h,ha⟩|_=>intro w0 μ s s' w f f' a x h ha hr;cases hr
end
def iP:aq->ab af->Tr af->bp (Tr af)
 |_,[],t=>ae t|i,v::l,t=>match ki 64 t i v with|some t'=>iP (i+1) l t'|none=>av
theorem HP:∀(l:ab af)(i:aq)(t t':Tr af),iP i l t=ae t'->∀ d,t'.get d=if i<=d/\d<i+l.length then l[d-i]? else t.get d:=by
 intro l;induction l with
 |nil=>intro i t t' h d;simp only[iP,co] at h;subst h;rw[eh (by intro h;simp at h;omega)]
 |cons v l ih=>
  intro i t t' h d;simp only[iP] at h;split at h
  ·rename_i t1 h1;rw[ih _ _ _ h d,jh 64 t t1 i v h1];by_cases hd:d=i
   ·subst hd;rw[eh qO,fc rfl,fc qS];simp
   ·by_cases h2:i+1<=d/\d<i+1+l.length
    ·rw[fc h2,fc (by simp;omega)];have:d-i=(d-(i+1))+1:=qO;rw[this,List.getElem?_cons_succ]
    ·rw[eh h2,eh hd,eh (by simp;omega)]
  ·cases h
def pD(P:cq)(f:HF):ab ResultVar->St->bp (ab af×St)
 |[],s=>ae ([],s)|.tmp t::l,s=>bif em t f.n&&!jN (f.get t) then(pD P f l s).map λr=>(f.get t::r.1,r.2) else av
 |.cell a t::l,s=>bif em a f.n then(match pE P s t (f.get a) with
   |some (v,s1)=>(pD P f l s1).map λr=>(v::r.1,r.2)
   |none=>av) else av
def vU:ab af->af
 |[v]=>v|l=>.tuple ⟨l⟩
section
variable{w0:Base}{μ:Mu}{s:St}{w:dh}{P:cq}{f:HF}{a:Act}
theorem rT{args args':ab af}(h:VRs μ args args'){t:Tr af}(ht:iP 0 args .lf=ae t)(n:aq):AR μ ⟨t,args.length+(n-args.length),[],undef⟩ {tmps:=(⟨args'⟩:df af)++mn (n-(⟨args'⟩:df af).size) undef,defers:=[]}:=by
 have hlen:=h.length;have hg:=HP args 0 .lf t ht;refine⟨by simp[hlen],λd hd _=>?_,.nil⟩;simp only[HF.get,hg];by_cases hda:d<args.length
 ·rw[fc qO];have h1:args[d]? =ae (args[d]):=List.getElem?_eq_getElem hda;obtain⟨v',k1,k2⟩:=h.get d _ h1;simp only[Nat.sub_zero,h1,Option.getD_some];have:((⟨args'⟩:df af)++mn (n-(⟨args'⟩:df af).size) undef).getD d undef=v':=by rw[jc,sw (by simp;omega)];simp[k1]
  rw[this];exact k2
 ·rw[eh qO];have:((⟨args'⟩:df af)++mn (n-(⟨args'⟩:df af).size) undef).getD d undef=undef:=by rw[jc,Array.getElem?_append_right (by simp;omega),Array.getElem?_replicate];split<;>rfl
  rw[this];exact jR
def uU(tmps:df af):ResultVar->Sem af
 |.tmp t=>pure (tmps.getD t undef)|.cell b t=>do loadVar t (<-asAddr (tmps.getD b undef))
theorem CU(fn:rl)(tmps:df af):results fn tmps=(do let vs <-fn.results.mapM (uU tmps);pure (if h:vs.size=1 then vs[0] else .tuple vs)):=by unfold results;refine congrArg (λm=>(do let vs <-Array.mapM m fn.results;pure (if h:vs.size=1 then vs[0] else .tuple vs):Sem af)) ?_;funext x;cases x<;>rfl
theorem gJ:∀(l:ab ResultVar)(s s':St)(r:ab af),pD P f l s=ae (r,s')->s.like s':=by
 intro l;induction l with
 |nil=>intro s s' r h;cases h;exact s.like_refl
 |cons x l ih=>
  intro s s' r h;cases x with
  |tmp t=>simp only[pD] at h;obtain⟨_,h⟩:=aD h;exact bZ h λa ha=>ih _ _ _ ha
  |cell b t=>
   simp only[pD] at h;obtain⟨_,h⟩:=aD h;split at h
   ·rename_i hl;exact bZ h λa ha=>(pZ hl).trans (ih _ _ _ ha)
   ·cases h
theorem GL(ha:AR μ f a):∀(l:ab ResultVar)(r:ab af)(s s':St),R w0 μ s w->pD P f l s=ae (r,s')->SOK s'->∃r',(l.mapM (uU a.tmps)).run P w=.ok r' w/\VRs μ r r':=by
 intro l;induction l with
 |nil=>intro r s s' h hr _;cases hr;exact⟨[],rfl,.nil⟩
 |cons x l ih=>
  intro r s s' h hr ok;cases x with
  |tmp t=>simp only[pD] at hr;obtain⟨ht,hr⟩:=aD hr;simp only[bu,gx] at ht;simp only[aj,bn] at hr;obtain⟨⟨r1,s1⟩,h1,rfl,rfl⟩:=hr;obtain⟨r',k1,k2⟩:=ih r1 s s1 h h1 ok;refine⟨a.tmps.getD t undef::r',?_,.cons (ha.vals t (bN ht.1) ht.2) k2⟩;simp only[qk,uU,cv,dw,cj,k1]
  |cell b t=>
   simp only[pD] at hr;obtain⟨hb,hr⟩:=aD hr;split at hr
   ·rename_i v s1 hv;simp only[aj,bn] at hr;obtain⟨⟨r1,s2⟩,h1,rfl,rfl⟩:=hr;have hnh:jN (f.get b)=false:=by rcases sU hv with⟨_,e⟩|⟨_,e⟩<;>rw[e]<;>rfl
    have hbv:=ha.vals b (bN hb) hnh;obtain⟨q1,q2⟩:=pY h hv hbv;obtain⟨r',k1,k2⟩:=ih r1 s1 s2 (h.like q1) h1 ok;obtain⟨v',bb,off,k3,k4,k5,_⟩:=q2 (gd (gJ _ _ _ _ h1).sub ok);refine⟨v'::r',?_,.cons k4 k2⟩;have k7:(asAddr (a.tmps.getD b undef)).run P w=.ok ⟨bb,off,av⟩ w:=by rw[k3];rfl
    have k8:(uU a.tmps (.cell b t)).run P w=.ok v' w:=by simp only[uU,cv,k7,cj,(k5 w rfl).2]
    simp only[qk,cv,k8,dw,cj,k1]
   ·cases hr
theorem gN(h:R w0 μ s w)(ha:AR μ f a){fn:rl}{r:ab af}{s':St}(hr:pD P f fn.results.toList s=ae (r,s'))(ok:SOK s'):∃v',(results fn a.tmps).run P w=.ok v' w/\VR μ (vU r) v':=by obtain⟨r',k1,k2⟩:=GL ha _ _ _ _ h hr ok;rw[CU,cv,Array.mapM_eq_mapM_toList,map_eq_pure_bind,cv,k1];simp only[cj,dw];refine⟨_,rfl,?_⟩;cases k2 with|nil=>exact .tuple .nil|cons h1 h2=>cases h2 with|nil=>exact h1|cons h2 h3=>exact .tuple (.cons h1 (.cons h2 h3))
end
abbrev mO:=ia->ab af->St->bp St
def DOK(P:cq)(dk:mO):Prop:=∀(s s':St)(g:ia)(args:ab af),dk g args s=ae s'->s.sub s'/\(SOK s'->∀(w0:Base)(μ:Mu)(w:dh)(args':ab af),R w0 μ s w->VRs μ args args'->CallsD P g ⟨args'⟩ .returning w λe u' w'=>∃v' μ',e=.returned v'/\u'=.returning/\μ.le μ'/\R w0 μ' s' w')
def noD:mO:=λ_ _ _=>av
theorem vG{P:cq}:DOK P noD:=λ_ _ _ _ h=>by cases h
def oP(P:cq)(dk:mO):ab HDef->St->bp St
 |[],s=>ae s
 |d::l,s=>match d.fn with
  |.func g=>bif oM P g then(match dk g (d.args++d.cap) s with
   |some s'=>oP P dk l s'
   |none=>av) else av
  |_=>av
theorem tM{P:cq}{dk:mO}(hd:DOK P dk):∀(l:ab HDef)(s s':St),oP P dk l s=ae s'->s.sub s':=by
 intro l;induction l with
 |nil=>intro s s' h;cases h;exact s.sub_refl
 |cons d l ih=>
  intro s s' h;simp only[oP] at h;split at h
  ·obtain⟨_,h⟩:=aD h;split at h
   ·rename_i hs;exact dy (hd _ _ _ _ hs).1 (ih _ _ h)
   ·cases h
  ·cases h
def HM(P:cq)(dk:mO)(fn:rl)(s:St)(f:HF):bp (af×St):=match oP P dk f.ds s with
 |some s'=>(pD P f fn.results.toList s').map λr=>(vU r.1,r.2)
 |none=>av
def P0(P:cq)(lf:aq)(dk:mO)(call:aS)(fn:rl)(args:ab af)(s:St):bp (af×St):=match fn.body,iP 0 args .lf with
 |some c,ae t=>match eW P call lf c s ⟨t,args.length+(fn.ntmps-args.length),[],undef⟩ with|some (.normal,s',f')=>HM P dk fn s' f'|some (.ret,s',f')=>HM P dk fn s' f'|_=>av
 |_,_=>av
def j5(P:cq)(lf:aq)(hk:aS)(dk:mO):aq->aS
 |0,_,_,_=>av|n+1,g,args,s=>match hk g args s with|some r=>ae r|none=>match P.funcs[g]? with|some fn=>P0 P lf dk (j5 P lf hk dk n) fn args s|none=>av
def noK:aS:=λ_ _ _=>av
theorem aK{P:cq}:aR P noK:=λ_ _ _ _ _ h=>by cases h
section
variable{P:cq}
theorem zP(hg:NoG P){dk:mO}(hd:DOK P dk){fn:rl}{tmps:df af}{R':Ending->dh->Prop}{w0:Base}{μ0:Mu}{s':St}(ok:SOK s')(hend:∀(μ:Mu)(w:dh),μ0.le μ->R w0 μ s' w->∃v,(results fn tmps).run P w=.ok v w/\R' (.returned v) w):∀(ds:ab HDef)(ds':ab Deferred)(μ:Mu)(s:St)(w:dh),μ0.le μ->DsR μ ds ds'->R w0 μ s w->oP P dk ds s=ae s'->Leaves P fn tmps R' ds' .returning w:=by
 intro ds;induction ds with
 |nil=>intro ds' μ s w hμ hds hR hr;cases hds;cases hr;exact hend μ w hμ hR
 |cons d ds ih=>
  intro ds' μ s w hμ hds hR hr;cases hds with
  |cons h1 h2 t=>
   rename_i fv cap args cap' args' l';simp only[oP] at hr;split at hr
   ·rename_i g;obtain⟨hb,hr⟩:=aD hr;split at hr
    ·rename_i s1 hs1;have hinv:(invoke (.fn (.func g) ⟨cap'⟩) ⟨args'⟩).run P w=.ok (.enter g ⟨args'++cap'⟩) w:=by
      simp only[invoke];have:(⟨args'⟩:df af)++⟨cap'⟩=⟨args'++cap'⟩:=by apply jt;simp
      rw[this];exact lI hg hb _ _
     refine leaves_cons qS hinv (((hd s s1 g _ hs1).2 (gd (tM hd _ _ _ hr) ok) w0 μ w _ hR (h2.append h1)).mono λe u' w' ⟨v',μ',e1,e2,e3,e4⟩=>?_);subst e1 e2;exact ih _ μ' s1 w' (no hμ e3) (t.mono e3) e4 hr
    ·cases hr
   ·cases hr
theorem BS{dk:mO}(hd:DOK P dk){fn:rl}{s s':St}{f:HF}{v:af}(h:HM P dk fn s f=ae (v,s')):s.sub s':=by
 unfold HM at h;split at h
 ·rename_i hds;exact dZ h λa ha=>dy (tM hd _ _ _ hds) (gJ _ _ _ _ ha).sub
 ·cases h
theorem x8(hg:NoG P){dk:mO}(hd:DOK P dk){fn:rl}{s s':St}{f:HF}{v:af}(he:HM P dk fn s f=ae (v,s'))(ok:SOK s'){w0:Base}{μ μ1:Mu}{a1:Act}{w1:dh}(hl:μ.le μ1)(hR:R w0 μ1 s w1)(hA:AR μ1 f a1):Leaves P fn a1.tmps (λe w'=>∃v' μ',e=.returned v'/\μ.le μ'/\R w0 μ' s' w'/\VR μ' v v') a1.defers .returning w1:=by
 unfold HM at he;split at he
 ·rename_i s2 hds;simp only[aj,bn] at he;obtain⟨⟨r,s3⟩,hres,rfl,rfl⟩:=he;have hlike:=gJ _ _ _ _ hres;refine zP hg hd (μ0:=μ1) (s':=s2) (gd hlike.sub ok) (λμ2 w2 hle hR2=>?_) _ _ μ1 s w1 (gk _) hA.ds hR hds;obtain⟨u,k1,k2⟩:=gN hR2 (hA.mono hle) hres ok;exact⟨u,k1,u,μ2,rfl,no hl hle,hR2.like hlike,k2⟩
 ·cases he
theorem fH(hg:NoG P)(lf:aq){hk:aS}(hhk:aR P hk){dk:mO}(hdk:DOK P dk):∀ n,aR P (j5 P lf hk dk n):=by
 intro n;induction n with
 |zero=>intro s s' g args v hr;cases hr
 |succ n ih=>
  intro s s' g args v hr;simp only[j5] at hr;split at hr
  ·rename_i r hkr;cases hr;exact hhk s s' g args v hkr
  ·split at hr
   ·rename_i fn hfn;unfold P0 at hr;split at hr
    ·rename_i c t hb ht;split at hr
     ·rename_i s1 f1 hc;have hs2:=BS hdk hr;refine⟨dy (fG ih lf _ _ _ _ _ _ hc) hs2,λok w0 μ w args' h ha=>?_⟩;refine calls_of_wp_defers hfn hb ?_;refine wp_mono (jA hg ih lf c w0 μ _ _ w _ _ _ _ h (rT ha ht fn.ntmps) hc (gd hs2 ok)) λe a1 w1 ⟨he,μ1,k1,k2,k3⟩=>?_;cases he;exact x8 hg hdk hr ok k1 k2 k3
     ·rename_i s1 f1 hc;have hs2:=BS hdk hr;refine⟨dy (fG ih lf _ _ _ _ _ _ hc) hs2,λok w0 μ w args' h ha=>?_⟩;refine calls_of_wp_defers hfn hb ?_;refine wp_mono (jA hg ih lf c w0 μ _ _ w _ _ _ _ h (rT ha ht fn.ntmps) hc (gd hs2 ok)) λe a1 w1 ⟨he,μ1,k1,k2,k3⟩=>?_;cases he;exact x8 hg hdk hr ok k1 k2 k3
     ·cases hr
    ·cases hr
   ·cases hr
end
end Go.Hx
