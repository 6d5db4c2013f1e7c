/- ProfileAdds: texts that its proof stands on, part 0. -/
import Derived.WalkKit
import Derived.Deep.Quiet
open Array renaming ext'->jt,getElem?_toList->qy,length_toList->gq,range->ti,toList_push->tj
open Bool renaming and_eq_true->bu,false->aa,false_eq_true->jw,noConfusion->rb,not_eq_true'->gx,true->au
open Classical renaming byContradiction->gi
open Go renaming Addr->pv,BinOp->uf,IntKind->jl,MapEntry->ez,Operand->im,Program->cq,TypeId->ct,TypeInfo->oy,Value->af,World->dh
open Go.Addr.mk renaming inj->ov
open Go.Builtin renaming append_->gm,firstCells->su,len_->jm,nextslicecap->rk,zeroCells->fy
open Go.Instr renaming buildSlice->mz,checkKey->kv,fieldAt->tz,fill->ny,findKey->po,findNow->ja,indexAt->mw,keyThatStays->oe,loadAt->sk,lookup->jn,mapUpdate->kw,sameNow->om,slice->py,sliceAt->kf,sliceBounds->lp,sureAddr->ku
open Go.Op renaming equalIn->uq
open Go.Result renaming andThen_ok->cj
open Go.Sem renaming run->sm,run_bind->cv,run_pure->dw
open Go.Value renaming map->jb,oneCell'->me
open Int renaming toNat->az
open List renaming all_append->rt,all_cons->mv,append_assoc->dz,drop_drop->jo,drop_eq_nil_of_le->nv,drop_take->qd,drop_zero->lH,eq_nil_of_length_eq_zero->jj,exists_mem_of_ne_nil->td,flatMap_cons->te,getElem?_append_left->dt,getElem?_append_right->eq,getElem?_drop->ky,getElem?_eq_getElem->fk,getElem?_eq_none->ei,getElem?_take->iy,length_append->cg,length_cons->jy,length_drop->ko,length_nil->mj,length_take->ir,mem_of_getElem?->ge,mem_of_mem_drop->rj,mem_of_mem_take->mr,size_toArray->qg,take_append_drop->gu,take_of_length_le->gc,take_take->qe
open Nat renaming add_assoc->ji,add_mul->jz,add_zero->pe,beq->bx,ble->dg,ble_eq_true_of_le->gv,blt->em,eq_zero_or_pos->jv,le_of_ble_eq_true->gt,le_of_eq->lu,le_refl->cw,le_trans->ej,lt_of_lt_of_le->pw,lt_or_ge->ey,min_eq_left->lr,mul_le_mul_right->gj,sub_zero->ur,succ_mul->qh,zero_add->fu,zero_mul->lx
open Option renaming getD_some->ni,isSome_none->sr,map_eq_some_iff->aj,map_none->ru,map_some->pr,none->av,some->ae
open Option.some renaming inj->gf,injEq->co
open Prod.mk renaming injEq->bn
open Std.Legacy.Range renaming forIn_eq_forIn_range'->ou
open _root_ renaming Array->df,Bool->cz,Int->br,List->ab,Nat->aq,Option->bp,absurd->cp,cond_false->ed,cond_true->de,if_neg->eh,if_pos->fc
set_option linter.all false
set_option maxRecDepth 100000
set_option maxHeartbeats 4000000
namespace Go.Hx
open Go Go.RowKit
theorem qO{p:Prop}(h:p:=by omega):p:=h
theorem qS{p:Prop}(h:p:=by simp):p:=h
theorem qD{p:Prop}(h:p:=by decide):p:=h
inductive Tr(α:Type) where
 |lf
 |nd (v:bp α) (l r:Tr α)
def Tr.get{α:Type}:Tr α->aq->bp α
 |.lf,_=>av|.nd v l r,n=>bif bx n 0 then v else bif bx ((n-1) % 2) 0 then l.get ((n-1) / 2) else r.get ((n-1) / 2)
def Tr.set{α:Type}:aq->Tr α->aq->α->bp (Tr α)
 |0,_,_,_=>av|d+1,.lf,n,x=>bif bx n 0 then ae (.nd (ae x) .lf .lf) else bif bx ((n-1) % 2) 0 then(Tr.set d .lf ((n-1) / 2) x).map (λt=>.nd av t .lf) else(Tr.set d .lf ((n-1) / 2) x).map (λt=>.nd av .lf t)
 |d+1,.nd v l r,n,x=>bif bx n 0 then ae (.nd (ae x) l r) else bif bx ((n-1) % 2) 0 then(Tr.set d l ((n-1) / 2) x).map (λt=>.nd v t r) else(Tr.set d r ((n-1) / 2) x).map (λt=>.nd v l t)
theorem aI(a b:aq):bx a b=au↔a=b:=Nat.beq_eq ▸ Iff.rfl
theorem Tr.get_lf{α:Type}(n:aq):(Tr.lf:Tr α).get n=none:=rfl
theorem Tr.get_nd{α:Type}(v:bp α)(l r:Tr α)(n:aq):(Tr.nd v l r).get n=if n=0 then v else if(n-1) % 2=0 then l.get ((n-1) / 2) else r.get ((n-1) / 2):=by
 rw[Tr.get];by_cases h:n=0
 ·simp[h]
 ·have:bx n 0=false:=by cases hb:bx n 0 with|false=>rfl|true=>exact cp ((aI _ _).1 hb) h
  rw[this,eh h];by_cases h2:(n-1) % 2=0
  ·have h3:bx ((n-1) % 2) 0=true:=(aI _ _).2 h2;simp[h2]
  ·have h3:bx ((n-1) % 2) 0=false:=by cases hb:bx ((n-1) % 2) 0 with|false=>rfl|true=>exact cp ((aI _ _).1 hb) h2
   simp[h3,h2]
theorem Tr.get_set{α:Type}:∀(d:aq)(t t':Tr α)(n:aq)(x:α),Tr.set d t n x=ae t'->∀ m,t'.get m=if m=n then ae x else t.get m:=by
 intro d;induction d with
 |zero=>intro t t' n x h;simp[Tr.set] at h
 |succ d ih=>
  intro t t' n x h m;cases t with
  |lf=>
   rw[Tr.set] at h;by_cases hn:n=0
   ·subst hn;simp at h;subst h;rw[Tr.get_nd];by_cases hm:m=0
    ·simp[hm]
    ·simp[hm,Tr.get_lf]
   ·have hb:bx n 0=false:=by cases hb:bx n 0 with|false=>rfl|true=>exact cp ((aI _ _).1 hb) hn
    rw[hb] at h;by_cases h2:(n-1) % 2=0
    ·have h3:bx ((n-1) % 2) 0=true:=(aI _ _).2 h2;simp only[h3,de,ed,aj] at h;obtain⟨u,hu,rfl⟩:=h;rw[Tr.get_nd];by_cases hm:m=0
     ·have:¬(m=n):=by omega
      simp[hm,Tr.get_lf];omega
     ·rw[eh hm];by_cases h4:(m-1) % 2=0
      ·rw[fc h4,ih _ _ _ _ hu];by_cases h5:m=n
       ·simp[h5]
       ·have:¬((m-1) / 2=(n-1) / 2):=by omega
        simp[this,h5,Tr.get_lf]
      ·rw[eh h4];have:¬(m=n):=by intro e;subst e;exact h4 h2
       simp[this,Tr.get_lf]
    ·have h3:bx ((n-1) % 2) 0=false:=by cases hb:bx ((n-1) % 2) 0 with|false=>rfl|true=>exact cp ((aI _ _).1 hb) h2
     simp only[h3,ed,aj] at h;obtain⟨u,hu,rfl⟩:=h;rw[Tr.get_nd];by_cases hm:m=0
     ·have:¬(m=n):=by omega
      simp[hm,Tr.get_lf];omega
     ·rw[eh hm];by_cases h4:(m-1) % 2=0
      ·rw[fc h4];have:¬(m=n):=by intro e;subst e;exact h2 h4
       simp[this,Tr.get_lf]
      ·rw[eh h4,ih _ _ _ _ hu];by_cases h5:m=n
       ·simp[h5]
       ·have:¬((m-1) / 2=(n-1) / 2):=by omega
        simp[this,h5,Tr.get_lf]
  |nd v l r=>
   rw[Tr.set] at h;by_cases hn:n=0
   ·subst hn;simp at h;subst h;rw[Tr.get_nd,Tr.get_nd];by_cases hm:m=0
    ·simp[hm]
    ·simp[hm]
   ·have hb:bx n 0=false:=by cases hb:bx n 0 with|false=>rfl|true=>exact cp ((aI _ _).1 hb) hn
    rw[hb] at h;by_cases h2:(n-1) % 2=0
    ·have h3:bx ((n-1) % 2) 0=true:=(aI _ _).2 h2;simp only[h3,de,ed,aj] at h;obtain⟨u,hu,rfl⟩:=h;rw[Tr.get_nd,Tr.get_nd];by_cases hm:m=0
     ·simp[hm];omega
     ·rw[eh hm,eh hm];by_cases h4:(m-1) % 2=0
      ·rw[fc h4,fc h4,ih _ _ _ _ hu];by_cases h5:m=n
       ·simp[h5]
       ·have:¬((m-1) / 2=(n-1) / 2):=by omega
        simp[this,h5]
      ·rw[eh h4,eh h4];have:¬(m=n):=by intro e;subst e;exact h4 h2
       simp[this]
    ·have h3:bx ((n-1) % 2) 0=false:=by cases hb:bx ((n-1) % 2) 0 with|false=>rfl|true=>exact cp ((aI _ _).1 hb) h2
     simp only[h3,ed,aj] at h;obtain⟨u,hu,rfl⟩:=h;rw[Tr.get_nd,Tr.get_nd];by_cases hm:m=0
     ·simp[hm];omega
     ·rw[eh hm,eh hm];by_cases h4:(m-1) % 2=0
      ·rw[fc h4,fc h4];have:¬(m=n):=by intro e;subst e;exact h2 h4
       simp[this]
      ·rw[eh h4,eh h4,ih _ _ _ _ hu];by_cases h5:m=n
       ·simp[h5]
       ·have:¬((m-1) / 2=(n-1) / 2):=by omega
        simp[this,h5]
structure Place where
 blk:aq
 base:aq
 room:aq
 own:aq->Prop
def eJ:aq->Prop:=λ_=>False
structure Mu where
 pl:aq->bp Place
 fz:aq->bp Obj
instance:CoeFun Mu (λ_=>aq->bp Place):=⟨Mu.pl⟩
def UNK:Nat:=9223372036854775808
def TYM:Nat:=1208925819614629174706176
def frz(es:ab af):Value:=.iface 1208925819614629174706176 (.tuple ⟨es⟩)
def fptr(cs:ab af):Value:=.iface 1208925819614629174706177 (.tuple ⟨cs⟩)
def szv(n:aq):Value:=.iface 1208925819614629174706178 (.int .i64 n)
def frzU(n:aq):Value:=.iface 1208925819614629174706179 (.int .i64 n)
def aB(es:ab af):ab Value:=es.flatMap λx=>x.cells.toList
mutual
inductive FR(fz:aq->bp Obj):af->af->Prop
 |bool (b:cz):FR fz (.bool b) (.bool b)
 |int (k:jl) (n:br):FR fz (.int k n) (.int k n)
 |str (s:ByteArray):FR fz (.string s) (.string s)
 |pnil:FR fz (.pointer av) (.pointer av)
 |snil:FR fz (.slice av 0 0) (.slice av 0 0)
 |mnil:FR fz (.map av) (.map av)
 |nfun:FR fz .nilFunc .nilFunc
 |nifc:FR fz .nilIface .nilIface
 |frz0 {a:bp pv} {c:aq}:FR fz (frz []) (.slice a 0 c)
 |frz {es:ab af} {b o z c:aq} {cur:df af} {e:ct} {fr:aq×aq} (h:fz b=ae (.cells cur e fr)) (hz:0<z) (hes:∀ x∈es,x.cells.size=z) (hc:es.length<=c) (ho:o+es.length*z<=cur.size) (hr:FRs fz (aB es) ((cur.toList.drop o).take (es.length*z))):FR fz (frz es) (.slice (ae ⟨b,o,av⟩) es.length c)
inductive FRs(fz:aq->bp Obj):ab af->ab af->Prop
 |nil:FRs fz [] []
 |cons {v v':af} {l l':ab af} (h:FR fz v v') (t:FRs fz l l'):FRs fz (v::l) (v'::l')
end
mutual
inductive VR(μ:Mu):af->af->Prop
 |bool (b:cz):VR μ (.bool b) (.bool b)
 |int (k:jl) (n:br):VR μ (.int k n) (.int k n)
 |str (s:ByteArray):VR μ (.string s) (.string s)
 |pnil:VR μ (.pointer av) (.pointer av)
 |snil:VR μ (.slice av 0 0) (.slice av 0 0)
 |mnil:VR μ (.map av) (.map av)
 |nfun:VR μ .nilFunc .nilFunc
 |nifc:VR μ .nilIface .nilIface
 |ptr {i o:aq} {p:Place} (h:μ i=ae p):VR μ (.pointer (ae ⟨i,o,av⟩)) (.pointer (ae ⟨p.blk,p.base+o,av⟩))
 |ptrO {i o z:aq} {p:Place} (h:μ i=ae p):VR μ (.pointer (ae ⟨i,o,ae z⟩)) (.pointer (ae ⟨p.blk,p.base+o,av⟩))
 |sliceK {i o n c:aq} {p:Place} (h:μ i=ae p) (hc:c<UNK):VR μ (.slice (ae ⟨i,o,av⟩) n c) (.slice (ae ⟨p.blk,p.base+o,av⟩) n c)
 |sliceU {i o n z c':aq} {p:Place} (h:μ i=ae p) (hn:n<=c') (hm:c'<=maxLen) (hr:o+c'*z<=p.room):VR μ (.slice (ae ⟨i,o,av⟩) n (UNK+z)) (.slice (ae ⟨p.blk,p.base+o,av⟩) n c')
 |sliceE {a:pv} {a':bp pv} {z:aq}:VR μ (.slice (ae a) 0 (UNK+z)) (.slice a' 0 0)
 |map {i:aq} {p:Place} (h:μ i=ae p):VR μ (.map (ae i)) (.map (ae p.blk))
 |func {fn:Fn} {f f' c c':ab af} (hf:VRs μ f f') (hc:VRs μ c c'):VR μ (.func fn ⟨f⟩ ⟨c⟩) (.func fn ⟨f'⟩ ⟨c'⟩)
 |iface {t:ct} {v v':af} (ht:t<TYM) (h:VR μ v v'):VR μ (.iface t v) (.iface t v')
 |frz {es:ab af} {v':af} (h:FR μ.fz (frz es) v'):VR μ (frz es) v'
 |fptr {cs:ab af} {b o:aq} {cur:df af} {e:ct} {fr:aq×aq} (h:μ.fz b=ae (.cells cur e fr)) (ho:o+cs.length<=cur.size) (hr:FRs μ.fz cs ((cur.toList.drop o).take cs.length)):VR μ (fptr cs) (.pointer (ae ⟨b,o,av⟩))
 |szv {n c:aq} {a:bp pv}:VR μ (szv n) (.slice a n c)
 |frzU {ns:ab br} {v':af} (h:FR μ.fz (frz (ns.map λx=>.int .i64 x)) v'):VR μ (frzU ns.length) v'
 |agg {l l':ab af} (h:VRs μ l l'):VR μ (.agg ⟨l⟩) (.agg ⟨l'⟩)
 |tuple {l l':ab af} (h:VRs μ l l'):VR μ (.tuple ⟨l⟩) (.tuple ⟨l'⟩)
inductive VRs(μ:Mu):ab af->ab af->Prop
 |nil:VRs μ [] []
 |cons {v v':af} {l l':ab af} (h:VR μ v v') (t:VRs μ l l'):VRs μ (v::l) (v'::l')
end
structure Place.sim(p q:Place):Prop where
 blk:q.blk=p.blk
 base:q.base=p.base
 room:q.room=p.room
theorem Place.sim_refl(p:Place):p.sim p:=⟨rfl,rfl,rfl⟩
theorem Place.sim.trans{p q r:Place}(h:p.sim q)(k:q.sim r):p.sim r:=⟨k.blk.trans h.blk,k.base.trans h.base,k.room.trans h.room⟩
structure Mu.le(μ ν:Mu):Prop where
 pl:∀ i p,μ i=ae p->∃q,ν i=ae q/\p.sim q
 fz:∀ b O,μ.fz b=ae O->ν.fz b=ae O
theorem Mu.le_refl(μ:Mu):μ.le μ:=⟨λ_ p h=>⟨p,h,p.sim_refl⟩,λ_ _ h=>h⟩
theorem Mu.le_trans{a b c:Mu}(h:a.le b)(k:b.le c):a.le c:=⟨λi p hp=>let⟨q,h1,h2⟩:=h.pl i p hp;let⟨r,k1,k2⟩:=k.pl i q h1;⟨r,k1,h2.trans k2⟩,λi p hp=>k.fz i p (h.fz i p hp)⟩
mutual
theorem FR.mono{fz gz:aq->bp Obj}(hl:∀ b O,fz b=ae O->gz b=ae O){v v':af}:FR fz v v'->FR gz v v'
 |.bool b=>.bool b|.int k n=>.int k n|.str s=>.str s|.pnil=>.pnil|.snil=>.snil|.mnil=>.mnil|.nfun=>.nfun|.nifc=>.nifc|.frz0=>.frz0|.frz h hz hes hc ho hr=>.frz (hl _ _ h) hz hes hc ho (FRs.mono hl hr)
theorem FRs.mono{fz gz:aq->bp Obj}(hl:∀ b O,fz b=ae O->gz b=ae O){l l':ab af}:FRs fz l l'->FRs gz l l'
 |.nil=>.nil|.cons h t=>.cons (FR.mono hl h) (FRs.mono hl t)
end
theorem FR.vr{μ:Mu}{v v':af}(h:FR μ.fz v v'):VR μ v v':=by cases h with|bool b=>exact .bool b|int k n=>exact .int k n|str s=>exact .str s|pnil=>exact .pnil|snil=>exact .snil|mnil=>exact .mnil|nfun=>exact .nfun|nifc=>exact .nifc|frz0=>exact .frz .frz0|frz h hz hes hc ho hr=>exact .frz (.frz h hz hes hc ho hr)
theorem FRs.vrs{μ:Mu}{l l':ab af}(h:FRs μ.fz l l'):VRs μ l l':=by induction l generalizing l' with|nil=>cases h;exact .nil|cons a l ih=>cases h with|cons h t=>exact .cons h.vr (ih t)
mutual
theorem VR.mono{μ ν:Mu}(hl:μ.le ν){v v':af}:VR μ v v'->VR ν v v'
 |.bool b=>.bool b|.int k n=>.int k n|.str s=>.str s|.pnil=>.pnil|.snil=>.snil|.mnil=>.mnil|.nfun=>.nfun|.nifc=>.nifc|.ptr h=>by obtain⟨q,h1,h2⟩:=hl.pl _ _ h;rw[<-h2.blk,<-h2.base];exact .ptr h1
 |.ptrO h=>by obtain⟨q,h1,h2⟩:=hl.pl _ _ h;rw[<-h2.blk,<-h2.base];exact .ptrO h1
 |.sliceK h hc=>by obtain⟨q,h1,h2⟩:=hl.pl _ _ h;rw[<-h2.blk,<-h2.base];exact .sliceK h1 hc
 |.sliceU h hn hm hr=>by obtain⟨q,h1,h2⟩:=hl.pl _ _ h;rw[<-h2.blk,<-h2.base];exact .sliceU h1 hn hm (by rw[h2.room];exact hr)
 |.sliceE=>.sliceE|.map h=>by obtain⟨q,h1,h2⟩:=hl.pl _ _ h;rw[<-h2.blk];exact .map h1
 |.func hf hc=>.func (VRs.mono hl hf) (VRs.mono hl hc)|.iface ht h=>.iface ht (VR.mono hl h)|.frz h=>.frz (h.mono hl.fz)|.fptr h ho hr=>.fptr (hl.fz _ _ h) ho (hr.mono hl.fz)|.szv=>.szv|.frzU h=>.frzU (h.mono hl.fz)|.agg h=>.agg (VRs.mono hl h)|.tuple h=>.tuple (VRs.mono hl h)
theorem VRs.mono{μ ν:Mu}(hl:μ.le ν){l l':ab af}:VRs μ l l'->VRs ν l l'
 |.nil=>.nil|.cons h t=>.cons (VR.mono hl h) (VRs.mono hl t)
end
section
variable{fz:aq->bp Obj}
theorem FRs.length{l l':ab af}(h:FRs fz l l'):l.length=l'.length:=by induction l generalizing l' with|nil=>cases h;rfl|cons a l ih=>cases h with|cons _ t=>simp[ih t]
theorem FRs.get{l l':ab af}(h:FRs fz l l'):∀(j:aq)(v:af),l[j]? =ae v->∃v',l'[j]? =ae v'/\FR fz v v':=by induction l generalizing l' with|nil=>intro j v hj;simp at hj|cons a l ih=>cases h with|cons h t=>intro j v hj;cases j with|zero=>simp at hj;subst hj;exact⟨_,rfl,h⟩|succ j=>simpa using ih t j v (by simpa using hj)
theorem FRs.of_get{l l':ab af}(hl:l.length=l'.length)(h:∀ (j:aq) (v v':af),l[j]? =ae v->l'[j]? =ae v'->FR fz v v'):FRs fz l l':=by
 induction l generalizing l' with
 |nil=>cases l' with|nil=>exact .nil|cons _ _=>simp at hl
 |cons a l ih=>cases l' with|nil=>simp at hl|cons b l'=>exact .cons (h 0 a b rfl rfl) (ih (by simpa using hl) λj v v' hv hv'=>h (j+1) v v' (by simpa using hv) (by simpa using hv'))
theorem FRs.append{a a' b b':ab af}(h:FRs fz a a')(k:FRs fz b b'):FRs fz (a++b) (a'++b'):=by induction a generalizing a' with|nil=>cases h;simpa using k|cons x a ih=>cases h with|cons h t=>exact .cons h (ih t)
theorem FRs.take{a a':ab af}(h:FRs fz a a')(n:aq):FRs fz (a.take n) (a'.take n):=by induction n generalizing a a' with|zero=>simp;exact .nil|succ n ih=>cases h with|nil=>simp;exact .nil|cons h t=>simp;exact .cons h (ih t)
theorem FRs.drop{a a':ab af}(h:FRs fz a a')(n:aq):FRs fz (a.drop n) (a'.drop n):=by induction n generalizing a a' with|zero=>simpa using h|succ n ih=>cases h with|nil=>simp;exact .nil|cons h t=>simpa using ih t
end
section
variable{μ:Mu}
theorem VRs.length{l l':ab af}(h:VRs μ l l'):l.length=l'.length:=by induction l generalizing l' with|nil=>cases h;rfl|cons a l ih=>cases h with|cons _ t=>simp[ih t]
theorem VRs.get{l l':ab af}(h:VRs μ l l'):∀(j:aq)(v:af),l[j]? =ae v->∃v',l'[j]? =ae v'/\VR μ v v':=by induction l generalizing l' with|nil=>intro j v hj;simp at hj|cons a l ih=>cases h with|cons h t=>intro j v hj;cases j with|zero=>simp at hj;subst hj;exact⟨_,rfl,h⟩|succ j=>simpa using ih t j v (by simpa using hj)
theorem VRs.of_get{l l':ab af}(hl:l.length=l'.length)(h:∀ (j:aq) (v v':af),l[j]? =ae v->l'[j]? =ae v'->VR μ v v'):VRs μ l l':=by
 induction l generalizing l' with
 |nil=>cases l' with|nil=>exact .nil|cons _ _=>simp at hl
 |cons a l ih=>cases l' with|nil=>simp at hl|cons b l'=>exact .cons (h 0 a b rfl rfl) (ih (by simpa using hl) λj v v' hv hv'=>h (j+1) v v' (by simpa using hv) (by simpa using hv'))
theorem VRs.append{a a' b b':ab af}(h:VRs μ a a')(k:VRs μ b b'):VRs μ (a++b) (a'++b'):=by induction a generalizing a' with|nil=>cases h;simpa using k|cons x a ih=>cases h with|cons h t=>exact .cons h (ih t)
theorem VRs.take{a a':ab af}(h:VRs μ a a')(n:aq):VRs μ (a.take n) (a'.take n):=by induction n generalizing a a' with|zero=>simp;exact .nil|succ n ih=>cases h with|nil=>simp;exact .nil|cons h t=>simp;exact .cons h (ih t)
theorem VRs.drop{a a':ab af}(h:VRs μ a a')(n:aq):VRs μ (a.drop n) (a'.drop n):=by induction n generalizing a a' with|zero=>simpa using h|succ n ih=>cases h with|nil=>simp;exact .nil|cons h t=>simpa using ih t
theorem VRs.set{a a':ab af}(h:VRs μ a a')(n:aq){v v':af}(hv:VR μ v v'):VRs μ (a.set n v) (a'.set n v'):=by induction a generalizing a' n with|nil=>cases h;exact .nil|cons x a ih=>cases h with|cons h t=>cases n with|zero=>exact .cons hv t|succ n=>exact .cons h (ih t n)
end
def bD:aq->af->cz
 |_,.bool _=>au|_,.int _ _=>au|_,.string _=>au|_,.pointer a=>a.isNone|_,.slice a n c=>a.isNone&&bx n 0&&bx c 0|_,.map r=>r.isNone|_,.nilFunc=>au|_,.nilIface=>au|d+1,.func _ f c=>f.toList.all (bD d)&&c.toList.all (bD d)|d+1,.iface t v=>em t TYM&&bD d v|d+1,.agg cs=>cs.toList.all (bD d)|d+1,.tuple cs=>cs.toList.all (bD d)|_,_=>aa
theorem O7{a b:aq}(h:em a b=au):a<b:=gt h
theorem KU{es:ab af}{d:aq}:bD d (frz es)=false:=by cases d<;>simp[bD,frz,TYM,em]
theorem qFS{es:ab af}{d:aq}:bD d (fptr es)=false:=by cases d<;>simp[bD,fptr,TYM,em]
theorem H7{n d:aq}:bD d (szv n)=false:=by cases d with|zero=>rfl|succ d=>simp only[bD,szv,TYM,em];rw[show dg (Nat.succ 1208925819614629174706178) 1208925819614629174706176=aa from rfl];rfl
theorem FQ{n d:aq}:bD d (frzU n)=false:=by cases d with|zero=>rfl|succ d=>simp only[bD,frzU,TYM,em];rw[show dg (Nat.succ 1208925819614629174706179) 1208925819614629174706176=aa from rfl];rfl
theorem jD{μ:Mu}:∀(d:aq)(v v':af),bD d v=au->VR μ v v'->v=v':=by
 intro d;induction d with
 |zero=>intro v v' hf h;cases h with|frz h=>rw[KU] at hf;cases hf|fptr h=>rw[qFS] at hf;cases hf|szv=>rw[H7] at hf;cases hf|frzU h=>rw[FQ] at hf;cases hf|_=>simp[bD] at hf<;>rfl
 |succ d ih=>
  have hs:∀(l l':ab af),l.all (bD d)=au->VRs μ l l'->l=l':=by intro l;induction l with|nil=>intro l' _ h;cases h;rfl|cons a l ihl=>intro l' hf h;simp only[mv,bu] at hf;cases h with|cons h t=>rw[ih _ _ hf.1 h,ihl _ hf.2 t]
  intro v v' hf h;cases h with|bool b=>rfl|int k n=>rfl|str s=>rfl|pnil=>rfl|snil=>rfl|mnil=>rfl|nfun=>rfl|nifc=>rfl|ptr h=>simp[bD] at hf|ptrO h=>simp[bD] at hf|sliceK h hc=>simp[bD] at hf|sliceU h hn hm hr=>simp[bD] at hf|sliceE=>simp[bD] at hf|map h=>simp[bD] at hf|frz h=>rw[KU] at hf;cases hf|fptr h=>rw[qFS] at hf;cases hf|szv=>rw[H7] at hf;cases hf|frzU h=>rw[FQ] at hf;cases hf|func h1 h2=>simp only[bD,bu] at hf;rw[hs _ _ hf.1 h1,hs _ _ hf.2 h2]|iface ht h=>simp only[bD,bu] at hf;rw[ih _ _ hf.2 h]|agg h=>simp only[bD] at hf;rw[hs _ _ hf h]|tuple h=>simp only[bD] at hf;rw[hs _ _ hf h]
theorem j8{μ:Mu}:∀(d:aq)(v:af),bD d v=au->VR μ v v:=by
 intro d;induction d with
 |zero=>
  intro v hf;cases v with
  |bool b=>exact .bool b|int k n=>exact .int k n|string s=>exact .str s|pointer a=>cases a with|none=>exact .pnil|some a=>simp[bD] at hf
  |slice a n c=>simp only[bD,bu,aI] at hf;obtain⟨⟨h1,rfl⟩,rfl⟩:=hf;cases a with|none=>exact .snil|some a=>simp at h1
  |map r=>cases r with|none=>exact .mnil|some a=>simp[bD] at hf
  |nilFunc=>exact .nfun|nilIface=>exact .nifc|_=>simp[bD] at hf
 |succ d ih=>
  have hs:∀(l:ab af),l.all (bD d)=au->VRs μ l l:=by intro l;induction l with|nil=>intro _;exact .nil|cons a l ihl=>intro hf;simp only[mv,bu] at hf;exact .cons (ih _ hf.1) (ihl hf.2)
  intro v hf;cases v with
  |bool b=>exact .bool b|int k n=>exact .int k n|string s=>exact .str s|pointer a=>cases a with|none=>exact .pnil|some a=>simp[bD] at hf
  |slice a n c=>simp only[bD,bu,aI] at hf;obtain⟨⟨h1,rfl⟩,rfl⟩:=hf;cases a with|none=>exact .snil|some a=>simp at h1
  |map r=>cases r with|none=>exact .mnil|some a=>simp[bD] at hf
  |nilFunc=>exact .nfun|nilIface=>exact .nifc|func fn f c=>obtain⟨f⟩:=f;obtain⟨c⟩:=c;simp only[bD,bu] at hf;exact .func (hs _ hf.1) (hs _ hf.2)|iface t v=>simp only[bD,bu] at hf;exact .iface (O7 hf.1) (ih _ hf.2)|agg cs=>obtain⟨cs⟩:=cs;simp only[bD] at hf;exact .agg (hs _ hf)|tuple cs=>obtain⟨cs⟩:=cs;simp only[bD] at hf;exact .tuple (hs _ hf)|_=>simp[bD] at hf
inductive HObj where
 |row (op:cz) (c:ab af) (e:ct)
 |ro (c:ab af)
 |map (es:ab ez) (clock:aq)
 |rm (es:ab ez) (clock:aq)
 |fmap (f:br->br->bp af)
 |srow (c:ab af) (e:ct)
 |lk (op:cz) (c:ab af)
 |dead
structure St where
 h:Tr HObj
 next:aq
 ng:aq
 opn:cz
 pth:ab cz
 ora:ab (ab af)
 pc:ab Prop
def SOK(s:St):Prop:=∀ p∈s.pc,p
def St.sub(s s':St):Prop:=∃l,s'.pc=l++s.pc
theorem St.sub_refl(s:St):s.sub s:=⟨[],rfl⟩
theorem St.sub_trans{a b c:St}(h:a.sub b)(k:b.sub c):a.sub c:=by obtain⟨l,h⟩:=h;obtain⟨m,k⟩:=k;exact⟨m++l,by rw[k,h,dz]⟩
theorem St.sub_of{a b:St}(h:b.pc=a.pc):a.sub b:=⟨[],by simp[h]⟩
theorem SOK.of_sub{s s':St}(h:s.sub s')(k:SOK s'):SOK s:=λp hp=>by obtain⟨l,h⟩:=h;exact k p (by rw[h];simp[hp])
def CR(op:cz)(μ:Mu)(v v':af):Prop:=match op with|true=>FR μ.fz v v'|false=>VR μ v v'
theorem CR.vr{op:cz}{μ:Mu}{v v':af}(h:CR op μ v v'):VR μ v v':=by cases op with|true=>exact FR.vr h|false=>exact h
theorem CR.mono{op:cz}{μ ν:Mu}(hl:μ.le ν){v v':af}(h:CR op μ v v'):CR op ν v v':=by cases op with|true=>exact FR.mono hl.fz h|false=>exact VR.mono hl h
def EsR(μ:Mu)(es es':ab ez):Prop:=es.length=es'.length/\∀(j:aq)(e:ez),es[j]? =ae e->∃e',es'[j]? =ae e'/\VR μ e.key e'.key/\VR μ e.val e'.val/\e.born=e'.born
def CsR(op:cz)(μ:Mu)(c:ab af)(cur:df af)(base:aq):Prop:=∀(j:aq)(v:af),c[j]? =ae v->∃v',cur[base+j]? =ae v'/\CR op μ v v'
structure Off(g:aq)(w w':dh):Prop where
 os:w'.os=w.os
 tape:w'.tape=w.tape
 output:w'.output=w.output
 size:w'.heap.size=w.heap.size
 block:∀ k,k≠g->w'.heap[k]? =w.heap[k]?
structure Base where
 ok:dh->Prop
 wr:aq->Prop
 lk:aq->aq->Prop
 fok:aq->Prop
 wfok:∀ b,wr b->fok b
 garbage:∀ w w',ok w->Below w.heap.size w w'->ok w'
 upd:∀ w w' g,ok w->wr g->Off g w w'->ok w'
 fresh:∀ w g,ok w->w.heap.size<=g->wr g
 lapart:∀ i b,lk i b->¬wr b
 lold:∀ w i b,ok w->lk i b->b<w.heap.size
 lkok:∀ w w' i b,ok w->ok w'->lk i b->w'.heap[b]? =w.heap[b]?
def Base.of(w:dh):Base where
 ok:=λw'=>Below w.heap.size w w'
 wr:=λg=>w.heap.size<=g
 lk:=λ_ _=>False
 fok:=λ_=>True
 wfok:=λ_ _=>trivial
 garbage:=λa b h k=>h.trans (k.mono h.size)
 upd:=λa b g h hg k=>⟨k.os.trans h.os,k.tape.trans h.tape,k.output.trans h.output,ej h.size (lu k.size.symm),λi hi=>(k.block i qO).trans (h.block i hi)⟩
 fresh:=λa g h hg=>ej h.size hg
 lapart:=λ_ _ h=>h.elim
 lold:=λ_ _ _ _ h=>h.elim
 lkok:=λ_ _ _ _ _ _ h=>h.elim
def Base.lock(β:Base)(w:dh)(io:bp aq)(b:aq)(hb:b<w.heap.size):Base where
 ok:=λw'=>β.ok w'/\w.heap.size<=w'.heap.size/\w'.heap[b]? =w.heap[b]?
 wr:=λg=>β.wr g/\g≠b
 lk:=λi g=>β.lk i g\/(io=ae i/\g=b)
 fok:=λg=>β.fok g/\g≠b
 wfok:=λg h=>⟨β.wfok g h.1,h.2⟩
 garbage:=λa c h k=>⟨β.garbage a c h.1 k,ej h.2.1 k.size,(k.block b (pw hb h.2.1)).trans h.2.2⟩
 upd:=λa c g h hg k=>⟨β.upd a c g h.1 hg.1 k,ej h.2.1 (lu k.size.symm),(k.block b (Ne.symm hg.2)).trans h.2.2⟩
 fresh:=λa g h hg=>⟨β.fresh a g h.1 hg,λe=>by have:=h.2.1;omega⟩
 lapart:=λi g h k=>h.elim (λh=>β.lapart i g h k.1) (λh=>k.2 h.2)
 lold:=λa i g h k=>k.elim (β.lold a i g h.1) (λe=>by rw[e.2];exact pw hb h.2.1)
 lkok:=λa c i g h k hg=>hg.elim (β.lkok a c i g h.1 k.1) (λe=>by rw[e.2];exact k.2.2.trans h.2.2.symm)
def jM:af->bp (br×br)
 |.agg ⟨[.int .i64 a,.int .i64 b]⟩=>ae (a,b)|_=>av
def gV:ab ez->br->br->aq->bp (aq×af)
 |[],_,_,_=>av|e::es,a,b,i=>if jM e.key=ae (a,b) then ae (i,e.val) else gV es a b (i+1)
def FmR(μ:Mu)(f:br->br->bp af)(es':ab ez)(k:aq):Prop:=(∀ e∈es',(jM e.key).isSome=au/\e.born<k)/\∀ a b,match f a b with|none=>gV es' a b 0=av|some v=>∃j v',gV es' a b 0=ae (j,v')/\FR μ.fz v v'
def Hl(β:Base)(μ:Mu)(i:aq)(o:HObj)(p:Place)(w:dh):Prop:=match o with|.row op c e=>∃cur,w.heap[p.blk]? =ae (.cells cur e (0,0))/\p.base+p.room=cur.size/\c.length<=p.room/\CsR op μ c cur p.base|.ro c=>∃cur e fr,μ.fz p.blk=ae (.cells cur e fr)/\CsR aa μ c cur p.base|.lk op c=>∃cur e,β.lk i p.blk/\w.heap[p.blk]? =ae (.cells cur e (0,0))/\CsR op μ c cur p.base|.map es k=>∃es',w.heap[p.blk]? =ae (.map es' k)/\EsR μ es es'.toList|.rm es k=>∃es',β.lk i p.blk/\w.heap[p.blk]? =ae (.map es' k)/\EsR μ es es'.toList|.fmap f=>∃es' k,w.heap[p.blk]? =ae (.map es' k)/\FmR μ f es'.toList k|.srow c e=>(c=[]/\p.room=0)\/∃cur,w.heap[p.blk]? =ae (.cells cur e (0,0))/\p.base+p.room=cur.size/\c.length<=p.room/\CsR au μ c cur p.base|.dead=>True
def own(o:HObj)(p:Place)(g:aq):Prop:=match o with|.row _ _ _=>g=p.blk|.map _ _=>g=p.blk|.fmap _=>g=p.blk|.srow c _=>(c≠[]\/p.room≠0)/\g=p.blk|_=>False
structure R(w0:Base)(μ:Mu)(s:St)(w:dh):Prop where
 below:w0.ok w
 fresh:∀ i,s.next<=i->μ i=av
 obj:∀ i o,s.h.get i=ae o->o≠.dead->∃p,μ i=ae p/\Hl w0 μ i o p w/\∀ g,own o p g->w0.wr g
 dis:∀ i j o o' p q,i≠j->s.h.get i=ae o->s.h.get j=ae o'->μ i=ae p->μ j=ae q->∀ g,own o p g->¬own o' q g
 fz:∀ b O,μ.fz b=ae O->w.heap[b]? =ae O
 fzd:∀ b O i o p,μ.fz b=ae O->s.h.get i=ae o->μ i=ae p->¬own o p b
 fzo:∀ b O,μ.fz b=ae O->w0.fok b
 gl:∀ g,g<s.ng->∃p,μ g=ae p/\p.blk=g/\p.base=0
def Mu.put(μ:Mu)(i:aq)(p:Place):Mu:=⟨λj=>if j=i then ae p else μ j,μ.fz⟩
theorem Mu.put_eq{μ:Mu}{i:aq}{p:Place}(h:μ i=av):∀ j q,μ j=ae q->(μ.put i p) j=ae q:=λj q hj=>by
 show(if j=i then ae p else μ j)=ae q;by_cases hji:j=i
 ·subst hji;rw[h] at hj;cases hj
 ·rw[eh hji];exact hj
theorem Mu.put_le{μ:Mu}{i:aq}{p:Place}(h:μ i=av):μ.le (μ.put i p):=⟨λj q hj=>⟨q,Mu.put_eq h j q hj,q.sim_refl⟩,λ_ _ h=>h⟩
theorem Mu.put_same(μ:Mu)(i:aq)(p:Place):(μ.put i p) i=ae p:=by simp[Mu.put]
theorem Mu.put_other{μ:Mu}{i j:aq}{p:Place}(h:j≠i):(μ.put i p) j=μ j:=by simp[Mu.put,h]
theorem CsR.mono{op:cz}{μ ν:Mu}(h:μ.le ν){c:ab af}{cur:df af}{b:aq}(k:CsR op μ c cur b):CsR op ν c cur b:=λj v hj=>
 let⟨v',h1,h2⟩:=k j v hj
 ⟨v',h1,h2.mono h⟩
theorem EsR.mono{μ ν:Mu}(h:μ.le ν){es es':ab ez}(k:EsR μ es es'):EsR ν es es':=⟨k.1,λj e hj=>let⟨e',h1,h2,h3,h4⟩:=k.2 j e hj;⟨e',h1,h2.mono h,h3.mono h,h4⟩⟩
section
variable{w0:Base}{μ:Mu}{s:St}{w:dh}
theorem cM{w:dh}{g:aq}{o:Obj}(h:w.heap[g]? =ae o):g<w.heap.size:=by
 rcases ey g w.heap.size with h'|h'
 ·exact h'
 ·rw[Array.getElem?_eq_none h'] at h;cases h
theorem FmR.mono{μ ν:Mu}(h:∀ b O,μ.fz b=ae O->ν.fz b=ae O){f:br->br->bp af}{es':ab ez}{c:aq}(k:FmR μ f es' c):FmR ν f es' c:=⟨k.1,λa b=>by
  have:=k.2 a b;split at this
  ·exact this
  ·obtain⟨j,v',h1,h2⟩:=this;exact⟨j,v',h1,h2.mono h⟩⟩
theorem Hl.mono{ν:Mu}(h:μ.le ν){i:aq}{o:HObj}{p:Place}(k:Hl w0 μ i o p w):Hl w0 ν i o p w:=by
 cases o with
 |row op c e=>obtain⟨cur,h1,h2,h3,h4⟩:=k;exact⟨cur,h1,h2,h3,h4.mono h⟩|ro c=>obtain⟨cur,e,fr,h1,h2⟩:=k;exact⟨cur,e,fr,h.fz _ _ h1,h2.mono h⟩|lk op c=>obtain⟨cur,e,h1,h2,h3⟩:=k;exact⟨cur,e,h1,h2,h3.mono h⟩|map es c=>obtain⟨es',h1,h2⟩:=k;exact⟨es',h1,h2.mono h⟩|rm es c=>obtain⟨es',h1,h2,h3⟩:=k;exact⟨es',h1,h2,h3.mono h⟩|fmap f=>obtain⟨es',c,h1,h2⟩:=k;exact⟨es',c,h1,h2.mono h.fz⟩|srow c e=>exact k.imp id λ⟨cur,h1,h2,h3,h4⟩=>⟨cur,h1,h2,h3,h4.mono h⟩
 |dead=>trivial
theorem Hl.lt{i:aq}{o:HObj}{p:Place}(k:Hl w0 μ i o p w){g:aq}(hg:own o p g):g<w.heap.size:=by
 cases o with
 |row op c e=>obtain⟨cur,h1,_⟩:=k;cases hg;exact cM h1|map es c=>obtain⟨es',h1,_⟩:=k;cases hg;exact cM h1|fmap f=>obtain⟨es',c,h1,_⟩:=k;cases hg;exact cM h1|ro c=>exact hg.elim|lk op c=>exact hg.elim|rm es c=>exact hg.elim
 |srow c e=>
  rcases k with⟨k1,k2⟩|⟨cur,h1,_⟩
  ·exact(hg.1.elim (λh=>h k1) (λh=>h k2)).elim
  ·rw[hg.2];exact cM h1
 |dead=>exact hg.elim
theorem Hl.still{β:Base}{i:aq}{o:HObj}{p:Place}(hlk:∀ g,w0.lk i g->β.lk i g)(k:Hl w0 μ i o p w){w':dh}(hsz:w.heap.size<=w'.heap.size)(hb:∀ g,own o p g\/w0.lk i g->w'.heap[g]? =w.heap[g]?):Hl β μ i o p w':=by
 cases o with
 |row op c e=>obtain⟨cur,h1,h2,h3,h4⟩:=k;exact⟨cur,(hb _ (.inl rfl)).trans h1,h2,h3,h4⟩|ro c=>exact k|lk op c=>obtain⟨cur,e,h1,h2,h3⟩:=k;exact⟨cur,e,hlk _ h1,(hb _ (.inr h1)).trans h2,h3⟩|map es c=>obtain⟨es',h1,h2⟩:=k;exact⟨es',(hb _ (.inl rfl)).trans h1,h2⟩|rm es c=>obtain⟨es',h1,h2,h3⟩:=k;exact⟨es',hlk _ h1,(hb _ (.inr h1)).trans h2,h3⟩|fmap f=>obtain⟨es',c,h1,h2⟩:=k;exact⟨es',c,(hb _ (.inl rfl)).trans h1,h2⟩
 |srow c e=>
  by_cases hr:c=[]/\p.room=0
  ·exact .inl hr
  ·have ho:own (.srow c e) p p.blk:=⟨gi λhn=>hr ⟨gi λhc=>hn (.inl hc),gi λhc=>hn (.inr hc)⟩,rfl⟩;exact k.imp id λ⟨cur,h1,h2,h3,h4⟩=>⟨cur,(hb _ (.inl ho)).trans h1,h2,h3,h4⟩
 |dead=>trivial
theorem R.row(h:R w0 μ s w)(i:aq)(op:cz)(c:ab af)(e:ct)(hi:s.h.get i=ae (.row op c e)):∃p cur,μ i=ae p/\w.heap[p.blk]? =ae (.cells cur e (0,0))/\p.base+p.room=cur.size/\c.length<=p.room/\w0.wr p.blk/\CsR op μ c cur p.base:=by obtain⟨p,h1,⟨cur,h2,h3,h4,h5⟩,h6⟩:=h.obj i _ hi qS;exact⟨p,cur,h1,h2,h3,h4,h6 _ rfl,h5⟩
theorem R.ro(h:R w0 μ s w)(i:aq)(c:ab af)(hi:s.h.get i=ae (.ro c)):∃p cur e fr,μ i=ae p/\μ.fz p.blk=ae (.cells cur e fr)/\w.heap[p.blk]? =ae (.cells cur e fr)/\CsR aa μ c cur p.base:=by obtain⟨p,h1,⟨cur,e,fr,h2,h3⟩,_⟩:=h.obj i _ hi qS;exact⟨p,cur,e,fr,h1,h2,h.fz _ _ h2,h3⟩
theorem R.lk(h:R w0 μ s w)(i:aq)(op:cz)(c:ab af)(hi:s.h.get i=ae (.lk op c)):∃p cur e,μ i=ae p/\w0.lk i p.blk/\w.heap[p.blk]? =ae (.cells cur e (0,0))/\CsR op μ c cur p.base:=by obtain⟨p,h1,⟨cur,e,h2,h3,h4⟩,_⟩:=h.obj i _ hi qS;exact⟨p,cur,e,h1,h2,h3,h4⟩
theorem R.map(h:R w0 μ s w)(i:aq)(es:ab ez)(k:aq)(hi:s.h.get i=ae (.map es k)):∃p es',μ i=ae p/\w.heap[p.blk]? =ae (.map es' k)/\w0.wr p.blk/\EsR μ es es'.toList:=by obtain⟨p,h1,⟨es',h2,h3⟩,h4⟩:=h.obj i _ hi qS;exact⟨p,es',h1,h2,h4 _ rfl,h3⟩
theorem R.rm(h:R w0 μ s w)(i:aq)(es:ab ez)(k:aq)(hi:s.h.get i=ae (.rm es k)):∃p es',μ i=ae p/\w0.lk i p.blk/\w.heap[p.blk]? =ae (.map es' k)/\EsR μ es es'.toList:=by obtain⟨p,h1,⟨es',h2,h3,h4⟩,_⟩:=h.obj i _ hi qS;exact⟨p,es',h1,h2,h3,h4⟩
theorem held{β:Base}{w w':dh}(h:β.ok w)(h':β.ok w'){i g:aq}(hg:β.lk i g):w'.heap[g]? =w.heap[g]? :=β.lkok w w' i g h h' hg
theorem R.own_free(h:R w0 μ s w){i:aq}{o:HObj}(hi:s.h.get i=ae o){p:Place}(hp:μ i=ae p){g:aq}(hg:own o p g):w0.wr g:=by
 have hd:o≠.dead:=λe=>by subst e;exact hg
 obtain⟨q,h1,_,h3⟩:=h.obj i o hi hd;rw[hp] at h1;cases h1;exact h3 g hg
theorem R.fz_lt(h:R w0 μ s w){b:aq}{O:Obj}(hb:μ.fz b=ae O):b<w.heap.size:=cM (h.fz b O hb)
theorem R.garbage{w':dh}(h:R w0 μ s w)(hb:Below w.heap.size w w'):R w0 μ s w' where
 below:=w0.garbage _ _ h.below hb
 fresh:=h.fresh
 obj:=λi o hi hd=>by
  obtain⟨p,h1,h2,h3⟩:=h.obj i o hi hd;refine⟨p,h1,h2.still (λ_ h=>h) hb.size λg hg=>hb.block g ?_,h3⟩;rcases hg with hg|hg
  ·exact h2.lt hg
  ·exact w0.lold _ _ _ h.below hg
 dis:=h.dis
 fz:=λb O hO=>(hb.block b (h.fz_lt hO)).trans (h.fz b O hO)
 fzd:=h.fzd
 fzo:=h.fzo
 gl:=h.gl
theorem R.drew(h:R w0 μ s w):R w0 μ s w.drew:=h.garbage ((Below.refl _ _).drew)
theorem R.same{s':St}(h:R w0 μ s w)(e1:s'.h=s.h)(e2:s'.next=s.next)(e3:s'.ng=s.ng):R w0 μ s' w where
 below:=h.below
 fresh:=by rw[e2];exact h.fresh
 obj:=by rw[e1];exact h.obj
 dis:=by rw[e1];exact h.dis
 fz:=h.fz
 fzd:=by rw[e1];exact h.fzd
 fzo:=h.fzo
 gl:=by rw[e3];exact h.gl
theorem R.add(h:R w0 μ s w){t:Tr HObj}{d:aq}{o:HObj}(ht:Tr.set d s.h s.next o=ae t){p:Place}(hl:o≠.dead->Hl w0 (μ.put s.next p) s.next o p w)(hwr:∀ g,own o p g->w0.wr g)(hnew:∀ i o' q,i≠s.next->s.h.get i=ae o'->μ i=ae q->∀ g,own o' q g->¬own o p g)(hfz:∀ b O,μ.fz b=ae O->¬own o p b):R w0 (μ.put s.next p) {s with h:=t,next:=s.next+1} w:=by
 have hg:=Tr.get_set d s.h t s.next o ht;have hle:μ.le (μ.put s.next p):=Mu.put_le (h.fresh _ (cw _));have heq:=Mu.put_eq (μ:=μ) (p:=p) (h.fresh _ (cw _));have sub:∀ i x,t.get i=ae x->i≠s.next->s.h.get i=ae x:=λi x hi hne=>by rwa [hg,eh hne] at hi
 have at':∀ x,t.get s.next=ae x->x=o:=λx hx=>by rw[hg,fc rfl] at hx;exact(gf hx).symm
 have old:∀ i q,i≠s.next->(μ.put s.next p) i=ae q->μ i=ae q:=λi q hi hq=>by rwa [Mu.put_other hi] at hq
 have new:∀ q,(μ.put s.next p) s.next=ae q->q=p:=λq hq=>by rw[Mu.put_same] at hq;exact(gf hq).symm
 refine⟨h.below,λi hi=>?_,λi x hi hd=>?_,λi j x y a b hij hi hj ha hb' g hga=>?_,λb O hb=>h.fz b O hb,λb O i x a hb hi ha=>?_,h.fzo,λg hg'=>let⟨r,hr,hr2⟩:=h.gl g hg';⟨r,heq _ _ hr,hr2⟩⟩
 ·have:s.next+1<=i:=hi;rw[Mu.put_other qO];exact h.fresh i qO
 ·by_cases hin:i=s.next
  ·subst hin;have:=at' _ hi;subst this;exact⟨p,Mu.put_same _ _ _,hl hd,hwr⟩
  ·obtain⟨q,h1,h2,h3⟩:=h.obj i x (sub _ _ hi hin) hd;exact⟨q,heq _ _ h1,h2.mono hle,h3⟩
 ·by_cases hin:i=s.next
  ·subst hin;have:=at' _ hi;subst this;have:=new _ ha;subst this;have hjn:j≠s.next:=Ne.symm hij;exact λhgb=>hnew j y b hjn (sub _ _ hj hjn) (old _ _ hjn hb') g hgb hga
  ·by_cases hjn:j=s.next
   ·subst hjn;have:=at' _ hj;subst this;have:=new _ hb';subst this;exact hnew i x a hin (sub _ _ hi hin) (old _ _ hin ha) g hga
   ·exact h.dis i j x y a b hij (sub _ _ hi hin) (sub _ _ hj hjn) (old _ _ hin ha) (old _ _ hjn hb') g hga
 ·by_cases hin:i=s.next
  ·subst hin;have:=at' _ hi;subst this;have:=new _ ha;subst this;exact hfz b O hb
  ·exact h.fzd b O i x a hb (sub _ _ hi hin) (old _ _ hin ha)
theorem R.own_lt(h:R w0 μ s w){i:aq}{o:HObj}(hi:s.h.get i=ae o){p:Place}(hp:μ i=ae p){g:aq}(hg:own o p g):g<w.heap.size:=by
 have hd:o≠.dead:=λe=>by subst e;exact hg.elim
 obtain⟨q,h1,h2,_⟩:=h.obj i o hi hd;rw[hp] at h1;cases h1;exact h2.lt hg
theorem R.allocAny(h:R w0 μ s w){t:Tr HObj}{d:aq}(o:HObj)(O:Obj)(room:aq)(ht:Tr.set d s.h s.next o=ae t)(hl:Hl w0 (μ.put s.next ⟨w.heap.size,0,room,eJ⟩) s.next o ⟨w.heap.size,0,room,eJ⟩ (w.alloc O))(ho:(∃op c e,o=.row op c e)\/(∃es k,o=.map es k)\/(∃f,o=.fmap f)):R w0 (μ.put s.next ⟨w.heap.size,0,room,eJ⟩) {s with h:=t,next:=s.next+1} (w.alloc O):=by
 have hb:Below w.heap.size w (w.alloc O):=(Below.refl _ _).alloc (cw _) _;have hown:∀ g,own o ⟨w.heap.size,0,room,eJ⟩ g->g=w.heap.size:=λg hg=>by rcases ho with⟨op,c,e,rfl⟩|⟨es,k,rfl⟩|⟨f,rfl⟩<;>exact hg
 refine(h.garbage hb).add ht (λ_=>hl) (λg hg=>by rw[hown g hg];exact w0.fresh w _ h.below (cw _)) (λi o' q hin hi hq g hg hg'=>?_) (λb O hb hg=>?_)
 ·have:=h.own_lt hi hq hg;have:=hown g hg';omega
 ·have:=h.fz_lt hb;have:=hown b hg;omega
theorem R.alloc(h:R w0 μ s w){t:Tr HObj}{d:aq}{op:cz}(c:ab af)(e:ct)(ht:Tr.set d s.h s.next (.row op c e)=ae t)(cur:df af)(hc:c.length<=cur.size)(hcs:CsR op μ c cur 0):R w0 (μ.put s.next ⟨w.heap.size,0,cur.size,eJ⟩) {s with h:=t,next:=s.next+1} (w.alloc (.cells cur e)):=h.allocAny (.row op c e) (.cells cur e) cur.size ht ⟨cur,heap_alloc_new w _,qS,hc,hcs.mono (Mu.put_le (h.fresh _ (cw _)))⟩ (.inl ⟨_,_,_,rfl⟩)
theorem R.allocMap(h:R w0 μ s w){t:Tr HObj}{d:aq}{o:HObj}(ho:o=.map [] 0\/o=.fmap λ_ _=>av)(ht:Tr.set d s.h s.next o=ae t):R w0 (μ.put s.next ⟨w.heap.size,0,0,eJ⟩) {s with h:=t,next:=s.next+1} (w.alloc (.map #[] 0)):=by
 rcases ho with rfl|rfl
 ·exact h.allocAny (.map [] 0) (.map #[] 0) 0 ht ⟨#[],heap_alloc_new w _,rfl,λj e hj=>by simp at hj⟩ (.inr (.inl ⟨_,_,rfl⟩))
 ·exact h.allocAny (.fmap λ_ _=>av) (.map #[] 0) 0 ht ⟨#[],0,heap_alloc_new w _,λe he=>by simp at he,λa b=>rfl⟩ (.inr (.inr ⟨_,rfl⟩))
theorem R.turn(h:R w0 μ s w){t:Tr HObj}{d i:aq}{o o':HObj}(hi:s.h.get i=ae o)(ht:Tr.set d s.h i o'=ae t){p:Place}(hp:μ i=ae p){w':dh}(hw:w0.ok w')(hsz:w.heap.size<=w'.heap.size)(hsub:∀ g,own o' p g->own o p g)(hl:o'≠.dead->Hl w0 μ i o' p w')(hoth:∀ g,¬own o p g->g<w.heap.size->w'.heap[g]? =w.heap[g]?):R w0 μ {s with h:=t} w':=by
 have hg:=Tr.get_set d s.h t i o' ht;have sub:∀ j x,t.get j=ae x->j≠i->s.h.get j=ae x:=λj x hj hne=>by rwa [hg,eh hne] at hj
 have at':∀ x,t.get i=ae x->x=o':=λx hx=>by rw[hg,fc rfl] at hx;exact(gf hx).symm
 refine⟨hw,h.fresh,λj x hj hd=>?_,λj k x y a b hjk hj hk ha hb g hga=>?_,λb O hb=>?_,λb O j x a hb hj ha=>?_,h.fzo,h.gl⟩
 ·by_cases hji:j=i
  ·subst hji;have:=at' _ hj;subst this;exact⟨p,hp,hl hd,λg hg=>h.own_free hi hp (hsub g hg)⟩
  ·have hj':=sub _ _ hj hji;obtain⟨q,h1,h2,h3⟩:=h.obj j x hj' hd;refine⟨q,h1,h2.still (λ_ h=>h) hsz λg hg'=>?_,h3⟩;rcases hg' with hg'|hg'
   ·exact hoth g (h.dis j i x o q p hji hj' hi h1 hp g hg') (h2.lt hg')
   ·exact held h.below hw hg'
 ·by_cases hji:j=i
  ·subst hji;have:=at' _ hj;subst this;rw[hp] at ha;cases ha;exact h.dis j k o y p b hjk hi (sub _ _ hk (Ne.symm hjk)) hp hb g (hsub g hga)
  ·by_cases hki:k=i
   ·subst hki;have:=at' _ hk;subst this;rw[hp] at hb;cases hb;exact λhgb=>h.dis j k x o a p hjk (sub _ _ hj hji) hi ha hp g hga (hsub g hgb)
   ·exact h.dis j k x y a b hjk (sub _ _ hj hji) (sub _ _ hk hki) ha hb g hga
 ·exact(hoth b (h.fzd b O i o p hb hi hp) (h.fz_lt hb)).trans (h.fz b O hb)
 ·by_cases hji:j=i
  ·subst hji;have:=at' _ hj;subst this;rw[hp] at ha;cases ha;exact λhg=>h.fzd b O j o p hb hi hp (hsub b hg)
  ·exact h.fzd b O j x a hb (sub _ _ hj hji) ha
theorem R.updAny(h:R w0 μ s w){t:Tr HObj}{d i:aq}{o o':HObj}(hi:s.h.get i=ae o)(ht:Tr.set d s.h i o'=ae t){p:Place}{O O':Obj}(hp:μ i=ae p)(hcur:w.heap[p.blk]? =ae O)(hk:(∃op op' c c' e cur cur',o=.row op c e/\o'=.row op' c' e/\O=.cells cur e (0,0)/\O'=.cells cur' e (0,0)/\cur'.size=cur.size/\c'.length<=p.room/\CsR op' μ c' cur' p.base)\/(∃es k es' k' es2 es2',o=.map es k/\o'=.map es' k'/\O=.map es2 k/\O'=.map es2' k'/\EsR μ es' es2'.toList)){w':dh}(hw:w0.ok w')(hsz:w.heap.size<=w'.heap.size)(hblk:w'.heap[p.blk]? =ae O')(hoth:∀ g,g≠p.blk->w'.heap[g]? =w.heap[g]?):R w0 μ {s with h:=t} w':=by
 rcases hk with⟨op,op',c,c',e,cur,cur',rfl,rfl,rfl,rfl,e5,e6,e7⟩|⟨es,k,es',k',es2,es2',rfl,rfl,rfl,rfl,e5⟩
 ·refine h.turn hi ht hp hw hsz (λg hg=>hg) (λ_=>⟨cur',hblk,?_,e6,e7⟩) (λg hg _=>hoth g hg);obtain⟨q,cur1,h1,h2,h3,_⟩:=h.row i op c e hi;rw[hp] at h1;cases h1;rw[hcur] at h2;cases h2;rw[e5];exact h3
 ·exact h.turn hi ht hp hw hsz (λg hg=>hg) (λ_=>⟨es2',hblk,e5⟩) (λg hg _=>hoth g hg)
theorem R.write(h:R w0 μ s w){t:Tr HObj}{d:aq}{i:aq}{op op':cz}{c c':ab af}{e:ct}(hi:s.h.get i=ae (.row op c e))(ht:Tr.set d s.h i (.row op' c' e)=ae t){p:Place}{cur cur':df af}(hp:μ i=ae p)(hcur:w.heap[p.blk]? =ae (.cells cur e (0,0)))(hcz:cur'.size=cur.size)(hl:c'.length<=p.room)(hcs:CsR op' μ c' cur' p.base){w':dh}(hw:w0.ok w')(hsz:w.heap.size<=w'.heap.size)(hblk:w'.heap[p.blk]? =ae (.cells cur' e (0,0)))(hoth:∀ g,g≠p.blk->w'.heap[g]? =w.heap[g]?):R w0 μ {s with h:=t} w':=h.updAny hi ht hp hcur (.inl ⟨op,op',c,c',e,cur,cur',rfl,rfl,rfl,rfl,hcz,hl,hcs⟩) hw hsz hblk hoth
theorem R.move(h:R w0 μ s w){t u:Tr HObj}{d d':aq}{i:aq}{op op':cz}{c c':ab af}{e:ct}(hi:s.h.get i=ae (.row op c e))(_hin:i≠s.next)(ht:Tr.set d s.h i .dead=ae t)(hu:Tr.set d' t s.next (.row op' c' e)=ae u){p:Place}{cur cur':df af}(hp:μ i=ae p)(hcur:w.heap[p.blk]? =ae (.cells cur e (0,0)))(hcz:cur'.size=cur.size){o:aq}(ho:o<=p.room)(hl:c'.length<=p.room-o)(hcs:CsR op' μ c' cur' (p.base+o)){w':dh}(hw:w0.ok w')(hsz:w.heap.size<=w'.heap.size)(hblk:w'.heap[p.blk]? =ae (.cells cur' e (0,0)))(hoth:∀ g,g≠p.blk->w'.heap[g]? =w.heap[g]?):R w0 (μ.put s.next ⟨p.blk,p.base+o,p.room-o,eJ⟩) {s with h:=u,next:=s.next+1} w':=by
 have hg1:=Tr.get_set d s.h t i .dead ht;have hle:μ.le (μ.put s.next ⟨p.blk,p.base+o,p.room-o,eJ⟩):=Mu.put_le (h.fresh _ (cw _));have hT:R w0 μ {s with h:=t} w':=h.turn hi ht hp hw hsz (λg hg=>hg.elim) (λhd=>cp rfl hd) (λg hg _=>hoth g hg);obtain⟨p',cur1,k1,k2,k3,k4,k5,k6⟩:=h.row i op c e hi;rw[hp] at k1;cases k1;rw[hcur] at k2;cases k2;have sub:∀ j x,j≠s.next->t.get j=ae x->j=i/\x=.dead\/j≠i/\s.h.get j=ae x:=λj x hjn hj=>by
  rw[hg1] at hj;by_cases hji:j=i
  ·rw[fc hji] at hj;cases hj;exact .inl ⟨hji,rfl⟩
  ·rw[eh hji] at hj;exact .inr ⟨hji,hj⟩
 refine hT.add (p:=⟨p.blk,p.base+o,p.room-o,eJ⟩) hu (λ_=>⟨cur',hblk,by show p.base+o+(p.room-o)=_;rw[hcz];omega,hl,hcs.mono hle⟩) (λg hg=>by cases hg;exact k5) (λj x q hjn hj hq g hg hg'=>?_) (λb O hb hg=>?_)
 ·rcases sub j x hjn hj with⟨_,rfl⟩|⟨hji,hj⟩
  ·exact hg
  ·exact h.dis j i x _ q p hji hj hi hq hp g hg hg'
 ·exact h.fzd b O i _ p hb hi hp hg
theorem R.kill(h:R w0 μ s w){t:Tr HObj}{d i:aq}(ht:Tr.set d s.h i .dead=ae t):R w0 μ {s with h:=t} w:=by
 have hg:=Tr.get_set d s.h t i .dead ht;have sub:∀ j x,t.get j=ae x->x≠.dead->s.h.get j=ae x:=λj x hj hx=>by
  rw[hg] at hj;by_cases hji:j=i
  ·rw[fc hji] at hj;cases hj;exact cp rfl hx
  ·rwa [eh hji] at hj
 have nd:∀(x:HObj)(p:Place)(g:aq),own x p g->x≠.dead:=λx p g hg e=>by subst e;exact hg
 exact⟨h.below,h.fresh,λj x hj hd=>h.obj j x (sub j x hj hd) hd,λj k x y a b hjk hj hk ha hb g hga hgb=>h.dis j k x y a b hjk (sub _ _ hj (nd _ _ _ hga)) (sub _ _ hk (nd _ _ _ hgb)) ha hb g hga hgb,h.fz,λb O j x a hb hj ha hga=>h.fzd b O j x a hb (sub _ _ hj (nd _ _ _ hga)) ha hga,h.fzo,h.gl⟩
theorem R.srow_row(h:R w0 μ s w){t:Tr HObj}{d i:aq}{c:ab af}{e:ct}(hi:s.h.get i=ae (.srow c e))(hc:c≠[])(ht:Tr.set d s.h i (.row au c e)=ae t):R w0 μ {s with h:=t} w:=by
 obtain⟨p,hp,hl,_⟩:=h.obj i _ hi qS;refine h.turn hi ht hp h.below (cw _) (λg hg=>⟨.inl hc,hg⟩) (λ_=>?_) (λ_ _ _=>rfl);rcases hl with⟨h1,_⟩|h1
 ·exact cp h1 hc
 ·exact h1
theorem R.row_srow(h:R w0 μ s w){t:Tr HObj}{d i:aq}{c:ab af}{e:ct}(hi:s.h.get i=ae (.row au c e))(ht:Tr.set d s.h i (.srow c e)=ae t):R w0 μ {s with h:=t} w:=by obtain⟨p,hp,hl,_⟩:=h.obj i _ hi qS;exact h.turn hi ht hp h.below (cw _) (λg hg=>hg.2) (λ_=>.inr hl) (λ_ _ _=>rfl)
end
def tF:HObj->bp HObj
 |.row op c _=>ae (.lk op c)|.map es k=>ae (.rm es k)|_=>av
section
variable{w0:Base}{μ μ':Mu}{s s':St}{w w':dh}
theorem gQ{o o':HObj}(h:tF o=ae o'):(∃op c e,o=.row op c e/\o'=.lk op c)\/(∃es k,o=.map es k/\o'=.rm es k):=by cases o with|row op c e=>cases h;exact .inl ⟨op,c,e,rfl,rfl⟩|map es k=>cases h;exact .inr ⟨es,k,rfl,rfl⟩|_=>cases h
theorem fE{o o':HObj}(h:tF o=ae o'){p:Place}{g:aq}:own o p g↔g=p.blk:=by rcases gQ h with⟨op,c,e,rfl,_⟩|⟨es,k,rfl,_⟩<;>exact Iff.rfl
theorem lO{o o':HObj}(h:tF o=ae o'){p:Place}{g:aq}:¬own o' p g:=by rcases gQ h with⟨op,c,e,_,rfl⟩|⟨es,k,_,rfl⟩<;>exact id
theorem R.blk_lt(h:R w0 μ s w){i:aq}{o o':HObj}(hi:s.h.get i=ae o)(hk:tF o=ae o'){p:Place}(hp:μ i=ae p):p.blk<w.heap.size:=h.own_lt hi hp ((fE hk).2 rfl)
theorem NO{i:aq}{o o':HObj}{p:Place}{β:Base}(hk:tF o=ae o')(hl:Hl w0 μ i o p w)(hβ:β.lk i p.blk):Hl β μ i o' p w:=by
 rcases gQ hk with⟨op,c,e,rfl,rfl⟩|⟨es,k,rfl,rfl⟩
 ·obtain⟨cur,h1,h2,h3,h4⟩:=hl;exact⟨cur,e,hβ,h1,h4⟩
 ·obtain⟨es',h1,h2⟩:=hl;exact⟨es',hβ,h1,h2⟩
theorem R.free_ne{w1:dh}{b:aq}{io:bp aq}{hb:b<w1.heap.size}(h:R (w0.lock w1 io b hb) μ s w){j:aq}{x:HObj}{q:Place}(hj:s.h.get j=ae x)(hq:μ j=ae q){g:aq}(hg:own x q g):g≠b:=(h.own_free hj hq hg).2
theorem R.lock(h:R w0 μ s w){i d:aq}{o o':HObj}{t:Tr HObj}(hi:s.h.get i=ae o)(hk:tF o=ae o')(ht:Tr.set d s.h i o'=ae t){p:Place}(hp:μ i=ae p)(hb:p.blk<w.heap.size):R (w0.lock w (ae i) p.blk hb) μ {s with h:=t} w:=by
 have hg:=Tr.get_set d s.h t i o' ht;have sub:∀ j x,t.get j=ae x->j≠i->s.h.get j=ae x:=λj x hj hne=>by rwa [hg,eh hne] at hj
 have at':∀ x,t.get i=ae x->x=o':=λx hx=>by rw[hg,fc rfl] at hx;exact(gf hx).symm
 refine⟨⟨h.below,cw _,rfl⟩,h.fresh,λj x hj hd=>?_,λj k x y a b hjk hj hk' ha hb g hga=>?_,h.fz,λb O j x a hb hj ha=>?_,λb O hO=>⟨h.fzo b O hO,λe=>?_⟩,h.gl⟩
 ·by_cases hji:j=i
  ·subst hji;have:=at' _ hj;subst this;obtain⟨q,h1,h2,h3⟩:=h.obj j o hi (λe=>by subst e;cases hk);rw[hp] at h1;cases h1;exact⟨p,hp,NO hk h2 (.inr ⟨rfl,rfl⟩),λg hg'=>(lO hk hg').elim⟩
  ·have hj':=sub _ _ hj hji;obtain⟨q,h1,h2,h3⟩:=h.obj j x hj' hd;have hne:∀ g,own x q g->g≠p.blk:=λg hg' e=>h.dis j i x o q p hji hj' hi h1 hp g hg' ((fE hk).2 e);exact⟨q,h1,h2.still (w0:=w0) (β:=w0.lock w (ae i) p.blk hb) (λ_ h=>.inl h) (cw _) (λ_ _=>rfl),λg hg'=>⟨h3 g hg',hne g hg'⟩⟩
 ·by_cases hji:j=i
  ·subst hji;have:=at' _ hj;subst this;exact(lO hk hga).elim
  ·by_cases hki:k=i
   ·subst hki;have:=at' _ hk';subst this;exact λhgb=>(lO hk hgb).elim
   ·exact h.dis j k x y a b hjk (sub _ _ hj hji) (sub _ _ hk' hki) ha hb g hga
 ·by_cases hji:j=i
  ·subst hji;have:=at' _ hj;subst this;exact lO hk
  ·exact h.fzd b O j x a hb (sub _ _ hj hji) ha
 ·exact h.fzd b O i o p hO hi hp ((fE hk).2 e)
theorem R.unlock(h:R w0 μ s w){i d:aq}{o o':HObj}{t:Tr HObj}(hi:s.h.get i=ae o)(hk:tF o=ae o'){p:Place}(hp:μ i=ae p)(hb:p.blk<w.heap.size)(h':R (w0.lock w (ae i) p.blk hb) μ' s' w')(hl:μ.le μ')(ht:Tr.set d s'.h i o=ae t):R w0 μ' {s' with h:=t} w':=by
 have hg:=Tr.get_set d s'.h t i o ht;have sub:∀ j x,t.get j=ae x->j≠i->s'.h.get j=ae x:=λj x hj hji=>by rw[hg,eh hji] at hj;exact hj
 have at':∀ x,t.get i=ae x->x=o:=λx hx=>by rw[hg,fc rfl] at hx;exact(gf hx).symm
 obtain⟨p',hp',hsim⟩:=hl.pl _ _ hp;have hpb:=hsim.blk;have hblk:w'.heap[p.blk]? =w.heap[p.blk]? :=h'.below.2.2;obtain⟨q0,k1,k2,k3⟩:=h.obj i o hi (λe=>by subst e;cases hk);rw[hp] at k1;cases k1;have hoi:Hl w0 μ' i o p' w':=by
  rcases gQ hk with⟨op,c,e,rfl,rfl⟩|⟨es,k,rfl,rfl⟩
  ·obtain⟨cur,h1,h2,h3,h4⟩:=k2;exact⟨cur,by rw[hpb];exact hblk.trans h1,by rw[hsim.base,hsim.room];exact h2,by rw[hsim.room];exact h3,by rw[hsim.base];exact h4.mono hl⟩
  ·obtain⟨es',h1,h2⟩:=k2;exact⟨es',by rw[hpb];exact hblk.trans h1,h2.mono hl⟩
 have hown:∀ g,own o p' g->own o p g:=λg hg=>(fE hk).2 (((fE hk).1 hg).trans hpb);have ofree:∀ j x q,s'.h.get j=ae x->μ' j=ae q->∀ g,own x q g->g≠p.blk:=λj x q hj hq g hg'=>h'.free_ne hj hq hg';refine⟨h'.below.1,h'.fresh,λj x hj hd=>?_,λj k x y a b hjk hj hk' ha hb g hga hgb=>?_,h'.fz,λb O j x a hb hj ha hga=>?_,λb O hO=>(h'.fzo b O hO).1,h'.gl⟩
 ·by_cases hji:j=i
  ·subst hji;have:=at' _ hj;subst this;exact⟨p',hp',hoi,λg hg=>k3 g (hown g hg)⟩
  ·have hj':=sub _ _ hj hji;obtain⟨q,h1,h2,h3⟩:=h'.obj j x hj' hd;exact⟨q,h1,h2.still (w0:=w0.lock w (ae i) p.blk hb) (β:=w0) (λg h=>h.elim id (λe=>cp (gf e.1).symm hji)) (cw _) (λ_ _=>rfl),λg hg'=>(h3 g hg').1⟩
 ·by_cases hji:j=i
  ·subst hji;have:=at' _ hj;subst this;rw[hp'] at ha;cases ha;have hkj:k≠j:=Ne.symm hjk;exact ofree k y b (sub _ _ hk' hkj) hb g hgb ((fE hk).1 (hown _ hga))
  ·by_cases hki:k=i
   ·subst hki;have:=at' _ hk';subst this;rw[hp'] at hb;cases hb;exact ofree j x a (sub _ _ hj hji) ha g hga ((fE hk).1 (hown _ hgb))
   ·exact h'.dis j k x y a b hjk (sub _ _ hj hji) (sub _ _ hk' hki) ha hb g hga hgb
 ·by_cases hji:j=i
  ·subst hji;have:=at' _ hj;subst this;rw[hp'] at ha;cases ha;exact(h'.fzo b O hb).2 ((fE hk).1 (hown _ hga))
  ·exact h'.fzd b O j x a hb (sub _ _ hj hji) ha hga
def Mu.ice(μ:Mu)(b:aq)(O:Obj):Mu:=⟨μ.pl,λc=>if c=b then ae O else μ.fz c⟩
theorem Mu.ice_le{b:aq}{O:Obj}(h:μ.fz b=av):μ.le (μ.ice b O):=⟨λ_ p h=>⟨p,h,p.sim_refl⟩,λc P hc=>by
 show(if c=b then ae O else μ.fz c)=ae P;by_cases hcb:c=b
 ·subst hcb;rw[h] at hc;cases hc
 ·rw[eh hcb];exact hc⟩
theorem Mu.ice_same{b:aq}{O:Obj}:(μ.ice b O).fz b=ae O:=by simp[Mu.ice]
theorem R.freeze(h:R w0 μ s w){i d:aq}{op:cz}{c:ab af}{e:ct}{t:Tr HObj}(hi:s.h.get i=ae (.row op c e))(ht:Tr.set d s.h i .dead=ae t){p:Place}(hp:μ i=ae p){cur:df af}(hcur:w.heap[p.blk]? =ae (.cells cur e (0,0))):μ.le (μ.ice p.blk (.cells cur e (0,0)))/\R w0 (μ.ice p.blk (.cells cur e (0,0))) {s with h:=t} w:=by
 have hz:μ.fz p.blk=none:=by cases hz:μ.fz p.blk with|none=>rfl|some O=>exact cp rfl (h.fzd _ O i _ p hz hi hp)
 have hle:μ.le (μ.ice p.blk (.cells cur e (0,0))):=Mu.ice_le hz;have hk:=h.kill ht;have hg:=Tr.get_set d s.h t i .dead ht;refine⟨hle,hk.below,hk.fresh,λj o hj hd=>?_,hk.dis,λb O hO=>?_,λb O j o q hO hj hq=>?_,λb O hO=>?_,hk.gl⟩
 ·obtain⟨q,h1,h2,h3⟩:=hk.obj j o hj hd;exact⟨q,h1,h2.mono hle,h3⟩
 ·by_cases hb:b=p.blk
  ·subst hb;rw[Mu.ice_same] at hO;cases hO;exact hcur
  ·exact hk.fz b O (by have:(if b=p.blk then ae _ else μ.fz b)=ae O:=hO;rwa [eh hb] at this)
 ·by_cases hb:b=p.blk
  ·subst hb;intro ho;have hji:j≠i:=λe=>by subst e;rw[hg,fc rfl] at hj;cases hj;exact ho
   rw[show({s with h:=t}:St).h.get j=t.get j from rfl,hg,eh hji] at hj;exact h.dis j i o _ q p hji hj hi hq hp _ ho rfl
  ·exact hk.fzd b O j o q (by have:(if b=p.blk then ae _ else μ.fz b)=ae O:=hO;rwa [eh hb] at this) hj hq
 ·by_cases hb:b=p.blk
  ·subst hb;exact w0.wfok _ (h.own_free hi hp rfl)
  ·exact hk.fzo b O (by have:(if b=p.blk then ae _ else μ.fz b)=ae O:=hO;rwa [eh hb] at this)
end
structure St.like(s s':St):Prop where
 h:s'.h=s.h
 next:s'.next=s.next
 ng:s'.ng=s.ng
 sub:s.sub s'
theorem St.like_refl(s:St):s.like s:=⟨rfl,rfl,rfl,s.sub_refl⟩
theorem St.like.trans{a b c:St}(h:a.like b)(k:b.like c):a.like c:=⟨k.h.trans h.h,k.next.trans h.next,k.ng.trans h.ng,St.sub_trans h.sub k.sub⟩
def mR(b:cz)(s:St):bp St:=bif s.opn then ae {s with pc:=(b=au)::s.pc} else bif b then ae s else av
def dK(p:Prop)(s:St):bp St:=bif s.opn then ae {s with pc:=p::s.pc} else av
def sJ(s:St):bp (ab af×St):=match s.ora with|l::r=>ae (l,{s with ora:=r})|[]=>av
def vB(b:cz)(s:St):bp (cz×St):=bif s.opn then(match s.pth with
 |x::r=>ae (x,{s with pth:=r,pc:=(b=x)::s.pc})
 |[]=>av) else ae (b,s)
theorem bA{b:cz}{s s':St}(h:mR b s=ae s'):s.like s'/\(SOK s'->b=au):=by unfold mR at h;cases ho:s.opn with|true=>rw[ho] at h;simp only[de,co] at h;subst h;exact⟨⟨rfl,rfl,rfl,[b=au],rfl⟩,λk=>k _ qS⟩|false=>rw[ho] at h;cases b with|true=>simp only[ed,de,co] at h;subst h;exact⟨s.like_refl,λ_=>rfl⟩|false=>simp at h
theorem aY{p:Prop}{s s':St}(h:dK p s=ae s'):s.like s'/\(SOK s'->p):=by unfold dK at h;cases ho:s.opn with|true=>rw[ho] at h;simp only[de,co] at h;subst h;exact⟨⟨rfl,rfl,rfl,[p],rfl⟩,λk=>k _ qS⟩|false=>rw[ho] at h;simp at h
theorem cE{s s':St}{l:ab af}(h:sJ s=ae (l,s')):s.like s':=by
 unfold sJ at h;split at h
 ·simp only[co,bn] at h;obtain⟨_,rfl⟩:=h;exact⟨rfl,rfl,rfl,[],rfl⟩
 ·cases h
theorem aZ{b x:cz}{s s':St}(h:vB b s=ae (x,s')):s.like s'/\(SOK s'->b=x):=by
 unfold vB at h;cases ho:s.opn with
 |true=>
  rw[ho] at h;simp only[de] at h;split at h
  ·simp only[co,bn] at h;obtain⟨rfl,rfl⟩:=h;exact⟨⟨rfl,rfl,rfl,[b=_],rfl⟩,λk=>k _ qS⟩
  ·cases h
 |false=>rw[ho] at h;simp only[ed,co,bn] at h;obtain⟨rfl,rfl⟩:=h;exact⟨s.like_refl,λ_=>rfl⟩
section
variable{w0:Base}{μ:Mu}{s:St}{w:dh}{P:cq}
theorem R.like{s':St}(h:R w0 μ s w)(k:s.like s'):R w0 μ s' w:=h.same k.h k.next k.ng
theorem xT{fz:aq->bp Obj}{es:ab af}{v':af}(h:FR fz (Go.Hx.frz es) v'):∃a n c,v'=.slice a n c:=by generalize hq:Go.Hx.frz es=q at h;cases h with|frz0=>exact⟨_,_,_,rfl⟩|frz=>exact⟨_,_,_,rfl⟩|_=>unfold Go.Hx.frz at hq;cases hq
theorem VR.cells{v v':af}(h:VR μ v v'):VRs μ v.cells.toList v'.cells.toList:=by cases h with|agg h=>exact h|frz k=>have h':VR μ (Go.Hx.frz _) _:=.frz k;cases k<;>exact .cons h' .nil|fptr h ho hr=>exact .cons (.fptr h ho hr) .nil|szv=>exact .cons .szv .nil|frzU k=>obtain⟨a,n,c,rfl⟩:=xT k;exact .cons (.frzU k) .nil|bool b=>exact .cons (.bool b) .nil|int k n=>exact .cons (.int k n) .nil|str s=>exact .cons (.str s) .nil|pnil=>exact .cons .pnil .nil|snil=>exact .cons .snil .nil|mnil=>exact .cons .mnil .nil|nfun=>exact .cons .nfun .nil|nifc=>exact .cons .nifc .nil|ptr h=>exact .cons (.ptr h) .nil|ptrO h=>exact .cons (.ptrO h) .nil|sliceK h hc=>exact .cons (.sliceK h hc) .nil|sliceU h hn hm hr=>exact .cons (.sliceU h hn hm hr) .nil|sliceE=>exact .cons .sliceE .nil|map h=>exact .cons (.map h) .nil|func h1 h2=>exact .cons (.func h1 h2) .nil|iface ht h=>exact .cons (.iface ht h) .nil|tuple h=>exact .cons (.tuple h) .nil
theorem VR.oneCell{v v':af}(h:VR μ v v'):v'.oneCell'=v.oneCell':=by cases h with|frz k=>cases k<;>rfl|frzU k=>obtain⟨a,n,c,rfl⟩:=xT k;rfl|_=>rfl
theorem FR.oneCell{fz:aq->bp Obj}{v v':af}(h:FR fz v v'):v'.oneCell'=v.oneCell'/\v.oneCell'=true:=by cases h<;>exact⟨rfl,rfl⟩
theorem VRs.oneCell{l l':ab af}(h:VRs μ l l')(ho:l.all me=au):∀ v∈l',v.oneCell'=true:=by induction l generalizing l' with|nil=>cases h;intro v hv;cases hv|cons a l ih=>cases h with|cons h t=>simp only[mv,bu] at ho;intro v hv;cases hv with|head=>rw[h.oneCell];exact ho.1|tail _ hm=>exact ih t ho.2 v hm
theorem bO(b o j:aq):(⟨b,o,av⟩:pv).add j=⟨b,o+j,av⟩:=by unfold Addr.add;split<;>simp_all
theorem bK{a b:aq}(h:dg a b=au):a<=b:=gt h
def rdC(c:ab af)(o n:aq)(s:St):bp (ab af×St):=bif dg (o+n) c.length then ae ((c.drop o).take n,s) else av
def rdO(c:ab af)(o n:aq)(s:St):bp (ab af×St):=match sJ s with
 |some (l,s')=>bif bx l.length n then(dK (o+n<=c.length/\(c.drop o).take n=l) s').map λs''=>(l,s'') else av
 |none=>av
def rdX(op:cz)(c:ab af)(o n:aq)(s:St):bp (ab af×St):=match op with|true=>rdO c o n s|false=>rdC c o n s
def rd(s:St)(i o n:aq):bp (ab af×St):=match s.h.get i with
 |some (.row op c _)=>rdX op c o n s|some (.ro c)=>rdX aa c o n s|some (.lk op c)=>rdX op c o n s|some (.srow c _)=>bif em 0 n then rdX au c o n s else av
 |_=>av
theorem cK{op:cz}{c l:ab af}{o n:aq}{s':St}(h:rdX op c o n s=ae (l,s')):s.like s'/\(SOK s'->o+n<=c.length/\(c.drop o).take n=l):=by
 cases op with
 |true=>
  simp only[rdX,rdO] at h;split at h
  ·rename_i l1 s1 hp;cases hb:bx l1.length n with|false=>rw[hb] at h;simp at h|true=>rw[hb] at h;simp only[de,aj,bn] at h;obtain⟨s2,h2,rfl,rfl⟩:=h;obtain⟨k1,k2⟩:=aY h2;exact⟨(cE hp).trans k1,k2⟩
  ·cases h
 |false=>simp only[rdX,rdC] at h;cases hb:dg (o+n) c.length with|false=>rw[hb] at h;simp at h|true=>rw[hb] at h;simp only[de,co,bn] at h;obtain⟨rfl,rfl⟩:=h;exact⟨s.like_refl,λ_=>⟨bK hb,rfl⟩⟩
theorem yF(h:R w0 μ s w){i:aq}{op:cz}{c:ab af}(hi:(∃e,s.h.get i=ae (.row op c e))\/(op=aa/\s.h.get i=ae (.ro c))\/s.h.get i=ae (.lk op c)):∃p cur e fr,μ i=ae p/\w.heap[p.blk]? =ae (.cells cur e fr)/\CsR op μ c cur p.base:=by
 rcases hi with⟨e,hi⟩|⟨rfl,hi⟩|hi
 ·obtain⟨p,cur,h1,h2,h3,h4,h5,h6⟩:=h.row i op c e hi;exact⟨p,cur,e,_,h1,h2,h6⟩
 ·obtain⟨p,cur,e,fr,h1,h2,h3,h4⟩:=h.ro i c hi;exact⟨p,cur,e,fr,h1,h3,h4⟩
 ·obtain⟨p,cur,e,h1,h2,h3,h4⟩:=h.lk i op c hi;exact⟨p,cur,e,_,h1,h3,h4⟩
theorem qQ{op:cz}{c:ab af}{cur:df af}{b o n:aq}(h:CsR op μ c cur b)(hn:o+n<=c.length):((cur.toList.drop (b+o)).take n).length=n/\(∀(j:aq)(v v':af),((c.drop o).take n)[j]? =ae v->((cur.toList.drop (b+o)).take n)[j]? =ae v'->CR op μ v v'):=by
 constructor
 ·rcases jv n with h0|h0
  ·subst h0;simp
  ·obtain⟨v',h1,_⟩:=h (o+n-1) _ (fk qO);have:=(Array.getElem?_eq_some_iff.1 h1).1;simp only[ir,ko,gq];omega
 ·intro j v v' hv hv';have hj:j<n:=by
   rcases ey j n with h'|h'
   ·exact h'
   ·rw[iy,eh qO] at hv;cases hv
  rw[iy,fc hj,ky] at hv hv';obtain⟨u,h1,h2⟩:=h _ _ hv;rw[show b+(o+j)=b+o+j by omega] at h1;have e:cur.toList[b+o+j]? =ae u:=by simpa using h1
  rw[e] at hv';cases hv';exact h2
def rgn(c:ab af)(z:aq):ab Value:=(c.drop (z / 65536)).take (z % 65536)
def rdV(s:St)(i o z n:aq):bp (ab af×St):=match s.h.get i with
 |some (.row aa c _)=>match sJ s with
  |some (l,s')=>bif bx l.length n&&dg (z / 65536+z % 65536) c.length then(dK (z / 65536<=o/\o+n<=z / 65536+z % 65536/\((rgn c z).drop (o-z / 65536)).take n=l) s').map λs''=>(l,s'') else av
  |none=>av
 |_=>av
theorem Q3{c:ab af}{z o n:aq}(hc:z / 65536+z % 65536<=c.length)(h1:z / 65536<=o)(h2:o+n<=z / 65536+z % 65536):((rgn c z).drop (o-z / 65536)).take n=(c.drop o).take n:=by unfold rgn;rw[qd,qe,jo,show z / 65536+(o-z / 65536)=o by omega,lr qO]
theorem AN{i o z n:aq}{l:ab af}{s s':St}(h:rdV s i o z n=ae (l,s')):s.like s'/\∃c e,s.h.get i=ae (.row aa c e)/\(SOK s'->o+n<=c.length/\(c.drop o).take n=l):=by
 unfold rdV at h;split at h
 ·rename_i c e hg;split at h
  ·rename_i l1 s1 hp;cases hb:(bx l1.length n&&dg (z / 65536+z % 65536) c.length) with|false=>rw[hb] at h;simp at h|true=>rw[hb] at h;simp only[de,aj,bn] at h;obtain⟨s2,h2,rfl,rfl⟩:=h;obtain⟨k1,k2⟩:=aY h2;simp only[bu] at hb;have hc:=bK hb.2;refine⟨(cE hp).trans k1,c,e,hg,λok=>?_⟩;obtain⟨a1,a2,a3⟩:=k2 ok;rw[Q3 hc a1 a2] at a3;exact⟨qO,a3⟩
  ·cases h
 ·cases h
theorem uW(h:R w0 μ s w){i o n:aq}{l:ab af}{s':St}(hl:rd s i o n=ae (l,s')):s.like s'/\(SOK s'->∃p cur e fr l',μ i=ae p/\w.heap[p.blk]? =ae (.cells cur e fr)/\l'=(cur.toList.drop (p.base+o)).take n/\l.length=n/\l'.length=n/\VRs μ l l'):=by
 have key:∀(op:cz)(c:ab af),((∃e,s.h.get i=ae (.row op c e))\/(op=aa/\s.h.get i=ae (.ro c))\/s.h.get i=ae (.lk op c))->rdX op c o n s=ae (l,s')->s.like s'/\(SOK s'->∃p cur e fr l',μ i=ae p/\w.heap[p.blk]? =ae (.cells cur e fr)/\l'=(cur.toList.drop (p.base+o)).take n/\l.length=n/\l'.length=n/\VRs μ l l'):=by
  intro op c hc hr;obtain⟨k1,k2⟩:=cK hr;refine⟨k1,λok=>?_⟩;obtain⟨k3,rfl⟩:=k2 ok;obtain⟨p,cur,e,fr,h1,h2,h3⟩:=yF h hc;obtain⟨h4,h5⟩:=qQ h3 k3;have hlen:((c.drop o).take n).length=n:=by simp;omega
  exact⟨p,cur,e,fr,_,h1,h2,rfl,hlen,h4,VRs.of_get qO λj v v' hv hv'=>(h5 j v v' hv hv').vr⟩
 unfold rd at hl;split at hl
 ·rename_i op c e hg;exact key op c (.inl ⟨e,hg⟩) hl
 ·rename_i c hg;exact key aa c (.inr (.inl ⟨rfl,hg⟩)) hl
 ·rename_i op c hg;exact key op c (.inr (.inr hg)) hl
 ·rename_i c e hg;cases hn:em 0 n with
  |false=>rw[hn] at hl;cases hl
  |true=>
   simp only[hn,de] at hl;have hn:0<n:=gt hn;obtain⟨k1,k2⟩:=cK hl;refine⟨k1,λok=>?_⟩;obtain⟨k3,rfl⟩:=k2 ok;obtain⟨p,h1,h2,_⟩:=h.obj i _ hg qS;have hc:c≠[]:=λe=>by subst e;simp at k3;omega
   obtain⟨cur,g1,g2,g3,g4⟩:=h2.resolve_left λx=>hc x.1;obtain⟨h4,h5⟩:=qQ g4 k3;have hlen:((c.drop o).take n).length=n:=by simp;omega
   exact⟨p,cur,e,_,_,h1,g1,rfl,hlen,h4,VRs.of_get qO λj v v' hv hv'=>(h5 j v v' hv hv').vr⟩
 ·cases hl
theorem xH(h:R w0 μ s w){i o z n:aq}{l:ab af}{s':St}(hl:rdV s i o z n=ae (l,s')):s.like s'/\(SOK s'->∃p cur e fr l',μ i=ae p/\w.heap[p.blk]? =ae (.cells cur e fr)/\l'=(cur.toList.drop (p.base+o)).take n/\l.length=n/\l'.length=n/\VRs μ l l'):=by
 obtain⟨k1,c,e,hg,k2⟩:=AN hl;refine⟨k1,λok=>?_⟩;obtain⟨k3,rfl⟩:=k2 ok;obtain⟨p,cur,e,fr,h1,h2,h3⟩:=yF h (.inl ⟨e,hg⟩);obtain⟨h4,h5⟩:=qQ h3 k3;have hlen:((c.drop o).take n).length=n:=by simp;omega
 exact⟨p,cur,e,fr,_,h1,h2,rfl,hlen,h4,VRs.of_get qO λj v v' hv hv'=>(h5 j v v' hv hv').vr⟩
theorem fX{w:dh}{b o n:aq}{cur:df af}{e:ct}{fr:aq×aq}(h:w.heap[b]? =ae (.cells cur e fr)):∀(j:aq)(v:af),((cur.toList.drop o).take n)[j]? =ae v->w.cell? ((⟨b,o,av⟩:pv).add j)=ae v:=by
 intro j v hv;rcases ey j n with hj|hj
 ·rw[iy,fc hj,ky] at hv;rw[bO];exact(cell_of_row w b (o+j) cur e fr h).trans (by simpa using hv)
 ·rw[iy,eh qO] at hv;cases hv
def lU:TypeDesc->cz
 |.struct _|.array _ _=>au|_=>aa
def iN(P:cq)(t:ct)(r:aq->bp (ab af×St)):bp (af×St):=match P.underlying t with
 |none=>av
 |some d=>bif lU d then
   match P.info? t with
   |some f=>(r f.size).map λl=>(.agg ⟨l.1⟩,l.2)
   |none=>av
  else match r 1 with|some ([x],s')=>ae (x,s')|_=>av
def vP:af->bp (ab af)
 |.iface t (.tuple ⟨cs⟩)=>bif bx t 1208925819614629174706177 then ae cs else av
 |_=>av
theorem oK{v:af}{cs:ab af}(h:vP v=ae cs):v=fptr cs:=by
 unfold vP at h;split at h
 ·rename_i t cs';cases hb:bx t 1208925819614629174706177 with|false=>rw[hb] at h;cases h|true=>rw[hb] at h;cases h;rw[(aI _ _).1 hb];rfl
 ·cases h
def rC:af->bp (ab af)
 |.iface t (.tuple ⟨cs⟩)=>bif bx t 1208925819614629174706176 then ae cs else av
 |_=>av
theorem iK{v:af}{cs:ab af}(h:rC v=ae cs):v=frz cs:=by
 unfold rC at h;split at h
 ·rename_i t cs';cases hb:bx t 1208925819614629174706176 with|false=>rw[hb] at h;cases h|true=>rw[hb] at h;cases h;rw[(aI _ _).1 hb];rfl
 ·cases h
def pE(P:cq)(s:St)(t:ct)(v:af):bp (af×St):=match v with
 |.pointer (ae ⟨i,o,av⟩)=>iN P t (rd s i o)|.pointer (ae ⟨i,o,ae z⟩)=>iN P t (rdV s i o z)
 |_=>match vP v with
  |some cs=>iN P t λn=>rdC cs 0 n s
  |none=>av
theorem jS{t:ct}{d:TypeDesc}(h:P.underlying t=ae d)(w:dh):(isAgg t).run P w=.ok (lU d) w:=by unfold isAgg;rw[cv,run_underlying h w];cases d<;>rfl
theorem iZ{t:ct}{r:aq->bp (ab af×St)}{x:af}{s':St}(h:iN P t r=ae (x,s')){Q:dh->Prop}{b o:aq}(hr:∀ n l s',r n=ae (l,s')->SOK s'->∃l':ab af,l'.length=n/\VRs μ l l'/\∀ w,Q w->∀(j:aq)(v:af),l'[j]? =ae v->w.cell? ((⟨b,o,av⟩:pv).add j)=ae v)(ok:SOK s'):∃x',VR μ x x'/\∀ w,Q w->(loadVar t ⟨b,o,av⟩).run P w=.ok x' w:=by
 unfold iN at h;cases hu:P.underlying t with
 |none=>simp only[hu] at h;cases h
 |some d=>
  simp only[hu] at h;cases hd:lU d with
  |true=>simp only[hd,de] at h;cases hi:P.info? t with|none=>simp only[hi] at h;cases h|some f=>simp only[hi,aj] at h;obtain⟨⟨l,s1⟩,hl,he⟩:=h;cases he;obtain⟨l',h3,h4,h5⟩:=hr _ _ _ hl ok;refine⟨.agg l'.toArray,.agg h4,λw hw=>?_⟩;have aW:=run_loadCells_list (P:=P) w ⟨b,o,av⟩ l' (h5 w hw);rw[h3] at aW;simp[loadVar,jS hu,hd,sizeOf,typeInfo,hi,aW]
  |false=>
   simp only[hd,ed] at h;split at h
   ·rename_i x1 s1 hx;cases h;obtain⟨l',h3,h4,h5⟩:=hr _ _ _ hx ok;cases h4 with|cons h6 h7=>rename_i x' l'';refine⟨x',h6,λw hw=>?_⟩;have:=h5 w hw 0 x' rfl;rw[bO] at this;simp only[pe] at this;simp[loadVar,jS hu,hd,this]
   ·cases h
theorem pY(h:R w0 μ s w){t:ct}{v r v':af}{s':St}(hl:pE P s t v=ae (r,s'))(hv:VR μ v v'):s.like s'/\(SOK s'->∃r' b o,v'=.pointer (ae ⟨b,o,av⟩)/\VR μ r r'/\(∀ w',w'.heap[b]? =w.heap[b]?->(sk t v').run P w'=.ok r' w'/\(loadVar t ⟨b,o,av⟩).run P w'=.ok r' w')/\((∃a p,v=.pointer (ae a)/\μ a.block=ae p/\p.blk=b)\/∃O,μ.fz b=ae O)):=by
 have fin:∀(r':af)(b o:aq),(∀ w',w'.heap[b]? =w.heap[b]?->(loadVar t ⟨b,o,av⟩).run P w'=.ok r' w')->∀ w',w'.heap[b]? =w.heap[b]?->(sk t (.pointer (ae ⟨b,o,av⟩))).run P w'=.ok r' w'/\(loadVar t ⟨b,o,av⟩).run P w'=.ok r' w':=λr' b o k w' hw'=>by have:=k w' hw';exact⟨by simpa[sk,ku] using this,this⟩
 have hlike:∀{q:aq->bp (ab af×St)},(∀ n l s',q n=ae (l,s')->s.like s')->iN P t q=ae (r,s')->s.like s':=λhq hh=>by
  unfold iN at hh;split at hh
  ·cases hh
  ·rename_i d _;cases hd:lU d with
   |true=>
    rw[hd] at hh;simp only[de] at hh;split at hh
    ·simp only[aj] at hh;obtain⟨⟨l,s1⟩,h1,h2⟩:=hh;cases h2;exact hq _ _ _ h1
    ·cases hh
   |false=>
    rw[hd] at hh;simp only[ed] at hh;split at hh
    ·rename_i hx;cases hh;exact hq _ _ _ hx
    ·cases hh
 unfold pE at hl;split at hl
 ·rename_i i o;refine⟨hlike (λn l s' hr=>(uW h hr).1) hl,λok=>?_⟩;cases hv with
  |ptr hp=>
   rename_i p;obtain⟨x',h1,h2⟩:=iZ (P:=P) (Q:=λw'=>w'.heap[p.blk]? =w.heap[p.blk]?) (b:=p.blk) (o:=p.base+o) (μ:=μ) hl (λn l s' hr ok'=>by
    obtain⟨p',cur,e,fr,l',k1,k2,k3,k4,k5,k6⟩:=(uW h hr).2 ok';rw[hp] at k1;cases k1;exact⟨l',k5,k6,λw' hw'=>by rw[k3];exact fX (hw'.trans k2)⟩) ok
   exact⟨x',_,_,rfl,h1,fin x' _ _ h2,.inl ⟨_,p,rfl,hp,rfl⟩⟩
 ·rename_i i o z;refine⟨hlike (λn l s' hr=>(xH h hr).1) hl,λok=>?_⟩;cases hv with
  |ptrO hp=>
   rename_i p;obtain⟨x',h1,h2⟩:=iZ (P:=P) (Q:=λw'=>w'.heap[p.blk]? =w.heap[p.blk]?) (b:=p.blk) (o:=p.base+o) (μ:=μ) hl (λn l s' hr ok'=>by
    obtain⟨p',cur,e,fr,l',k1,k2,k3,k4,k5,k6⟩:=(xH h hr).2 ok';rw[hp] at k1;cases k1;exact⟨l',k5,k6,λw' hw'=>by rw[k3];exact fX (hw'.trans k2)⟩) ok
   exact⟨x',_,_,rfl,h1,fin x' _ _ h2,.inl ⟨_,p,rfl,hp,rfl⟩⟩
 ·split at hl
  ·rename_i cs hcs;have hq:∀ n l s',rdC cs 0 n s=ae (l,s')->s.like s'/\n<=cs.length/\l=cs.take n:=λn l s' hr=>by obtain⟨k1,k2⟩:=cK (op:=aa) hr;unfold rdC at hr;cases hb:dg (0+n) cs.length with|false=>rw[hb] at hr;simp at hr|true=>rw[hb] at hr;simp only[de,co,bn] at hr;exact⟨k1,by have:=bK hb;omega,by simpa using hr.1.symm⟩
   refine⟨hlike (λn l s' hr=>(hq n l s' hr).1) hl,λok=>?_⟩;rw[oK hcs] at hv;cases hv with
   |fptr hz ho hr=>
    rename_i b o cur e fr;obtain⟨x',h1,h2⟩:=iZ (P:=P) (Q:=λw'=>w'.heap[b]? =w.heap[b]?) (b:=b) (o:=o) (μ:=μ) hl (λn l s' hr' _=>by
     obtain⟨_,k2,k3⟩:=hq n l s' hr';refine⟨(cur.toList.drop o).take n,by simp;omega,?_,λw' hw'=>fX (hw'.trans (h.fz _ _ hz))⟩;have:=(hr.take n).vrs;rw[qe,lr k2] at this;rw[k3];exact this) ok
    exact⟨x',_,_,rfl,h1,fin x' _ _ h2,.inr ⟨_,hz⟩⟩
   |iface ht _=>exact cp ht (by simp[TYM])
  ·cases hl
theorem DF(h:R w0 μ s w){t:ct}{v r v':af}{s':St}(hl:pE P s t v=ae (r,s'))(hv:VR μ v v'):s.like s'/\(SOK s'->∃r',(sk t v').run P w=.ok r' w/\VR μ r r'):=by obtain⟨h1,h2⟩:=pY h hl hv;refine⟨h1,λok=>?_⟩;obtain⟨r',b,o,k1,k2,k3,_⟩:=h2 ok;exact⟨r',(k3 w rfl).1,k2⟩
def wX(s:St)(c:ab af)(e:ct):bp (aq×St):=(Tr.set 64 s.h s.next (.row aa c e)).map λt=>(s.next,{s with h:=t,next:=s.next+1})
theorem HB(h:R w0 μ s w){c:ab af}{e:ct}{i:aq}{s':St}(hn:wX s c e=ae (i,s')){cur:df af}(hc:c.length<=cur.size)(hcs:CsR aa μ c cur 0):∃μ',μ.le μ'/\R w0 μ' s' (w.alloc (.cells cur e))/\μ' i=ae ⟨w.heap.size,0,cur.size,eJ⟩:=by unfold wX at hn;simp only[aj,bn] at hn;obtain⟨t,ht,rfl,rfl⟩:=hn;exact⟨_,Mu.put_le (h.fresh _ (cw _)),h.alloc c e ht cur hc hcs,Mu.put_same _ _ _⟩
theorem qT{c:ab af}{e:ct}{i:aq}{s':St}(hn:wX s c e=ae (i,s')):s.sub s':=by unfold wX at hn;simp only[aj,bn] at hn;obtain⟨t,ht,rfl,rfl⟩:=hn;exact⟨[],rfl⟩
theorem CsR.of_vrs{l:ab af}{cur:df af}(h:VRs μ l cur.toList):CsR aa μ l cur 0:=λj v hj=>by obtain⟨v',h1,h2⟩:=h.get j v hj;exact⟨v',by simpa using h1,h2⟩
def idf:aq->af->cz
 |_,.bool _=>au|_,.int _ _=>au|_,.string _=>au|_,.pointer av=>au|_,.slice av n c=>bx n 0&&bx c 0|_,.map av=>au|_,.nilFunc=>au|_,.nilIface=>au
 |_,.iface t v=>bx t 1208925819614629174706176&&(match v with
  |.tuple _=>au
  |_=>aa)
 |_,_=>aa
theorem zC{d:aq}{v v':af}(h:idf d v=au)(hv:VR μ v v'):FR μ.fz v v':=by cases hv with|bool b=>exact .bool b|int k n=>exact .int k n|str s=>exact .str s|pnil=>exact .pnil|snil=>exact .snil|mnil=>exact .mnil|nfun=>exact .nfun|nifc=>exact .nifc|frz h=>exact h|iface ht _=>simp only[idf,bu,aI] at h;exact cp ht (by rw[h.1];simp[TYM])|_=>simp[idf,Go.Hx.fptr,Go.Hx.szv,Go.Hx.frzU] at h
theorem j2{d:aq}{l l':ab af}(h:l.all (idf d)=au)(hv:VRs μ l l'):FRs μ.fz l l':=by induction l generalizing l' with|nil=>cases hv;exact .nil|cons a l ih=>simp only[mv,bu] at h;cases hv with|cons h1 h2=>exact .cons (zC h.1 h1) (ih h.2 h2)
def AS(op:cz)(l:ab af):Bool:=match op with|true=>l.all (idf 0)|false=>au
def HQ(op:cz)(a b:aq)(s:St):bp St:=match op with|true=>dK (a<=b) s|false=>bif dg a b then ae s else av
theorem oU{op:cz}{a b:aq}{s s':St}(h:HQ op a b s=ae s'):s.like s'/\(SOK s'->a<=b):=by cases op with|true=>exact aY h|false=>simp only[HQ] at h;cases hb:dg a b with|false=>rw[hb] at h;simp at h|true=>rw[hb] at h;simp only[de,co] at h;subst h;exact⟨s.like_refl,λ_=>bK hb⟩
def iB(P:cq)(s:St)(t:ct)(a v:af):bp St:=match a with
 |.pointer (ae ⟨i,o,av⟩)=>match P.info? t with
  |none=>av
  |some f=>bif bx v.cells.toList.length f.size&&v.cells.toList.all me then
    match s.h.get i with
    |some (.row op c e)=>bif AS op v.cells.toList then
      match HQ op (o+v.cells.toList.length) c.length s with
      |some s1=>(Tr.set 64 s.h i (.row op (c.take o++v.cells.toList++c.drop (o+v.cells.toList.length)) e)).map λt=>{s1 with h:=t}
      |none=>av
     else av
    |_=>av
   else av
 |_=>av
theorem gF(w:dh)(g:aq)(cs:df af):Off g w (w.setRow g cs):=⟨rfl,rfl,rfl,by simp[World.setRow],λk hk=>setRow_other w g k cs hk⟩
theorem ER{op:cz}{c cs cs':ab af}{cur:df af}{b o:aq}(hcs:CsR op μ c cur b)(hl:cs.length=cs'.length)(hw:∀ (j:aq) (v:af),cs[j]? =ae v->∃v',cs'[j]? =ae v'/\CR op μ v v')(ho:o+cs.length<=c.length)(hb:b+c.length<=cur.size):CsR op μ (c.take o++cs++c.drop (o+cs.length)) (cur.toList.take (b+o)++cs'++cur.toList.drop (b+o+cs'.length)).toArray b:=by
 intro j v hj;have hto:(c.take o).length=o:=by simp;omega
 have htb:(cur.toList.take (b+o)).length=b+o:=by simp;omega
 simp only[List.getElem?_toArray];by_cases h1:j<o
 ·rw[dz,dt qO,iy,fc h1] at hj;obtain⟨v',h2,h3⟩:=hcs j v hj;refine⟨v',?_,h3⟩;rw[dz,dt qO,iy,fc qO];simpa using h2
 ·by_cases h2:j<o+cs.length
  ·rw[dz,eq qO,dt qO,hto] at hj;obtain⟨v',h3,h4⟩:=hw _ _ hj;refine⟨v',?_,h4⟩;rw[dz,eq qO,dt qO,htb];rw[show b+j-(b+o)=j-o by omega];exact h3
  ·rw[dz,eq qO,eq qO,hto,ky] at hj;rw[show o+cs.length+(j-o-cs.length)=j by omega] at hj;obtain⟨v',h3,h4⟩:=hcs j v hj;refine⟨v',?_,h4⟩;rw[dz,eq qO,eq qO,htb,ky];rw[show b+o+cs'.length+(b+j-(b+o)-cs'.length)=b+j by omega];simpa using h3
theorem RJ{op:cz}{l l':ab af}(hp:AS op l=au)(h:VRs μ l l'):∀(j:aq)(v:af),l[j]? =ae v->∃v',l'[j]? =ae v'/\CR op μ v v':=by cases op with|true=>exact(j2 hp h).get|false=>exact h.get
theorem hU(h:R w0 μ s w){t:ct}{a v a' v':af}{s':St}(hs:iB P s t a v=ae s')(ha:VR μ a a')(hv:VR μ v v'):s.sub s'/\(SOK s'->∃w',(Instr.storeAt t a' v').run P w=.ok () w'/\R w0 μ s' w'):=by
 unfold iB at hs;split at hs
 ·rename_i i o;cases hi:P.info? t with
  |none=>simp only[hi] at hs;cases hs
  |some f=>
   simp only[hi] at hs;cases hb:(bx v.cells.toList.length f.size&&v.cells.toList.all me) with
   |false=>simp only[hb,ed] at hs;cases hs
   |true=>
    simp only[hb,de] at hs;simp only[bu] at hb;obtain⟨hb1,hb2⟩:=hb;have hb1:=(aI _ _).1 hb1;split at hs
    ·rename_i op c e hg;cases hpo:AS op v.cells.toList with
     |false=>rw[hpo] at hs;simp at hs
     |true=>
      rw[hpo] at hs;simp only[de] at hs;split at hs
      ·rename_i s1 hfit;obtain⟨hlike,hfit⟩:=oU hfit;simp only[aj] at hs;obtain⟨tr,htr,rfl⟩:=hs;have hsub:s.sub {s1 with h:=tr}:=hlike.sub;refine⟨hsub,λok=>?_⟩;have hk:=hfit ok;cases ha with
       |ptr hp=>
        rename_i p;obtain⟨p',cur,h1,h2,h3,h4,h5,h6⟩:=h.row i op c e hg;rw[hp] at h1;cases h1;have hcv:=hv.cells;have hl:=hcv.length;have hone:=hcv.oneCell hb2;have aW:=run_storeCells_at (P:=P) p.blk (p.base+o) e v'.cells.toList 0 cur w h2 qO hone;simp only[pe] at aW;refine⟨_,?_,R.same (s:={s with h:=tr}) (h.write (p:=p) (cur':=(cur.toList.take (p.base+o)++v'.cells.toList++cur.toList.drop (p.base+o+v'.cells.toList.length)).toArray) hg htr hp h2 ?_ ?_ (ER h6 hl (RJ hpo hcv) hk qO) (w0.upd _ _ _ h.below h5 (gF _ _ _)) (lu (gF _ _ _).size.symm) (setRow_heap w p.blk cur _ e _ h2) (λg hne=>setRow_other w p.blk g _ hne)) rfl hlike.next hlike.ng⟩
        ·have hsz:v'.cells.size=f.size:=by rw[<-hb1,hl];simp
         simp only[Instr.storeAt,ku,storeVar,sizeOf,typeInfo,cv,dw,run_program,cj,hi,hsz,ne_eq,not_true_eq_false,if_false];exact aW
        ·have e1:(cur.toList.take (p.base+o)).length=p.base+o:=by rw[ir,gq];omega
         simp only[qg,cg,e1,ko,gq];simp only[gq] at hk hl ⊢;omega
        ·simp only[cg,ir,ko];omega
      ·cases hs
    ·cases hs
 ·cases hs
theorem jB{s s':St}{P:cq}{t:ct}{a v:af}(hs:iB P s t a v=ae s'):s.sub s':=by
 unfold iB at hs;split at hs
 ·split at hs
  ·cases hs
  ·rename_i f hf;cases hb:(bx v.cells.toList.length f.size&&v.cells.toList.all me) with
   |false=>simp only[hb,ed] at hs;cases hs
   |true=>
    simp only[hb,de] at hs;split at hs
    ·rename_i op c e hg;cases hpo:AS op v.cells.toList with
     |false=>rw[hpo] at hs;simp at hs
     |true=>
      rw[hpo] at hs;simp only[de] at hs;split at hs
      ·rename_i s1 hfit;simp only[aj] at hs;obtain⟨tr,htr,rfl⟩:=hs;exact(oU hfit).1.sub
      ·cases hs
    ·cases hs
 ·cases hs
def uB(P:cq)(s:St)(t:ct)(a v:af)(i:aq)(c:ab af)(e:ct):bp St:=match dK (c≠[]) s with
 |some s0=>match Tr.set 64 s0.h i (.row au c e) with
  |some t1=>match iB P {s0 with h:=t1} t a v with
   |some s2=>match s2.h.get i with
    |some (.row au c2 e2)=>(Tr.set 64 s2.h i (.srow c2 e2)).map λt2=>{s2 with h:=t2}
    |_=>av
   |none=>av
  |none=>av
 |none=>av
theorem wR(c:ab af)(m k:aq):(c.drop m).take k++c.drop (m+k)=c.drop m:=by rw[<-jo,gu]
def zH(P:cq)(s:St)(t:ct)(v:af)(i o z:aq):bp St:=match P.info? t with
 |none=>av
 |some f=>bif bx v.cells.toList.length f.size&&v.cells.toList.all me then
   match s.h.get i with
   |some (.row aa c e)=>match sJ s with
    |some (l,s1)=>bif dg (z / 65536+z % 65536) c.length then
      match dK (z / 65536<=o/\o+v.cells.toList.length<=z / 65536+z % 65536/\(rgn c z).take (o-z / 65536)++v.cells.toList++(rgn c z).drop (o-z / 65536+v.cells.toList.length)=l) s1 with
      |some s2=>(Tr.set 64 s.h i (.row aa (c.take (z / 65536)++l++c.drop (z / 65536+z % 65536)) e)).map λt=>{s2 with h:=t}
      |none=>av
     else av
    |none=>av
   |_=>av
  else av
theorem rJ{P:cq}{s s':St}{t:ct}{v:af}{i o z:aq}(h:zH P s t v i o z=ae s'):s.sub s'/\(SOK s'->∃s2,s.like s2/\s2.sub s'/\iB P s2 t (.pointer (ae ⟨i,o,av⟩)) v=ae s'):=by
 unfold zH at h;cases hi:P.info? t with
 |none=>simp only[hi] at h;cases h
 |some f=>
  simp only[hi] at h;cases hb:(bx v.cells.toList.length f.size&&v.cells.toList.all me) with
  |false=>simp only[hb,ed] at h;cases h
  |true=>
   simp only[hb,de] at h;split at h
   ·rename_i c e hg;split at h
    ·rename_i l s1 hp;cases hz:dg (z / 65536+z % 65536) c.length with
     |false=>rw[hz] at h;simp at h
     |true=>
      rw[hz] at h;simp only[de] at h;split at h
      ·rename_i s2 hn;simp only[aj] at h;obtain⟨tr,htr,rfl⟩:=h;obtain⟨k1,k2⟩:=aY hn;have hl:=(cE hp).trans k1;refine⟨St.sub_trans hl.sub ⟨[],rfl⟩,λok=>⟨s2,hl,?_,?_⟩⟩
       ·exact⟨[],rfl⟩
       ·obtain⟨a1,a2,a3⟩:=k2 ok;have hc:=bK hz;have e1:c.take (z / 65536)++l++c.drop (z / 65536+z % 65536)=c.take o++v.cells.toList++c.drop (o+v.cells.toList.length):=by
         have t1:c.take o=c.take (z / 65536)++((c.drop (z / 65536)).take (o-z / 65536)):=by rw[<-List.take_add,show z / 65536+(o-z / 65536)=o by omega]
         have t2:((c.drop (z / 65536)).take (z % 65536)).drop (o-z / 65536+v.cells.toList.length)++c.drop (z / 65536+z % 65536)=c.drop (o+v.cells.toList.length):=by rw[qd,jo,show z / 65536+(o-z / 65536+v.cells.toList.length)=o+v.cells.toList.length by omega];rw[show z / 65536+z % 65536=(o+v.cells.toList.length)+(z % 65536-(o-z / 65536+v.cells.toList.length)) by omega];exact wR _ _ _
         rw[<-a3,t1,<-t2];unfold rgn;rw[qe,lr qO];simp only[dz]
        unfold iB;simp only[hi,hb,de,hl.h,hg,AS];have hf:HQ aa (o+v.cells.toList.length) c.length s2=ae s2:=by unfold HQ;rw[show dg (o+v.cells.toList.length) c.length=au from gv qO];rfl
        simp only[hf,<-e1,htr,pr]
      ·cases h
    ·cases h
   ·cases h
def vV(P:cq)(s:St)(t:ct)(a v:af):bp St:=match a with
 |.pointer (ae ⟨i,o,ae z⟩)=>zH P s t v i o z|.pointer (ae ⟨i,_,av⟩)=>match s.h.get i with|some (.srow c e)=>uB P s t a v i c e|_=>iB P s t a v
 |_=>iB P s t a v
theorem tL{s s':St}{P:cq}{t:ct}{a v:af}{i:aq}{c:ab af}{e:ct}(hs:uB P s t a v i c e=ae s'):s.sub s':=by
 unfold uB at hs;split at hs
 ·rename_i s0 hn;split at hs
  ·rename_i t1 ht1;split at hs
   ·rename_i s2 hs2;split at hs
    ·simp only[aj] at hs;obtain⟨t2,ht2,rfl⟩:=hs;exact St.sub_trans (aY hn).1.sub (St.sub_trans (b:={s0 with h:=t1}) ⟨[],rfl⟩ (St.sub_trans (jB hs2) ⟨[],rfl⟩))
    ·cases hs
   ·cases hs
  ·cases hs
 ·cases hs
theorem AD(h:R w0 μ s w){t:ct}{a v a' v':af}{s':St}(hs:vV P s t a v=ae s')(ha:VR μ a a')(hv:VR μ v v'):s.sub s'/\(SOK s'->∃w',(Instr.storeAt t a' v').run P w=.ok () w'/\R w0 μ s' w'):=by
 unfold vV at hs;split at hs
 ·rename_i i o z;obtain⟨k1,k2⟩:=rJ hs;refine⟨k1,λok=>?_⟩;obtain⟨s2,g1,g2,g3⟩:=k2 ok;cases ha with|ptrO hp=>exact(hU (h.like g1) g3 (.ptr hp) hv).2 ok
 ·split at hs
  ·rename_i i o c e hg;refine⟨tL hs,λok=>?_⟩;unfold uB at hs;split at hs
   ·rename_i s0 hn;obtain⟨k1,k2⟩:=aY hn;split at hs
    ·rename_i t1 ht1;split at hs
     ·rename_i s2 hs2;split at hs
      ·rename_i c2 e2 hg2;simp only[aj] at hs;obtain⟨t2,ht2,rfl⟩:=hs;have ok2:SOK s2:=ok;have ok0:SOK s0:=SOK.of_sub (s:={s0 with h:=t1}) (jB hs2) ok2;have hR0:R w0 μ {s0 with h:=t1} w:=(h.like k1).srow_row (by rw[k1.h];exact hg) (k2 ok0) ht1;obtain⟨w',q1,q2⟩:=(hU (P:=P) hR0 hs2 ha hv).2 ok2;exact⟨w',q1,q2.row_srow hg2 ht2⟩
      ·cases hs
     ·cases hs
    ·cases hs
   ·cases hs
  ·exact hU h hs ha hv
 ·exact hU h hs ha hv
end
structure HDef where
 fn:Fn
 cap:ab af
 args:ab af
inductive HN where
 |val (v:af)
 |skip
 |enter (f:FuncId) (args:ab af)
 |dfr (d:HDef)
def oF{α:Type}(P:cq):Sem α->bp α
 |.pure a=>ae a|.program k=>oF P (k P)|_=>av
theorem wT{α:Type}{P:cq}{x:Sem α}{a:α}(h:oF P x=ae a)(w:dh):x.run P w=.ok a w:=by induction x with|pure b=>simp[oF] at h;subst h;rfl|program k ih=>simp only[oF] at h;simp only[sm];exact ih P h|_=>simp[oF] at h
def pF(P:cq)(x:Sem af):bp Value:=match oF P x with
 |some v=>bif bD 6 v then ae v else av
 |none=>av
section
variable{w0:Base}{μ:Mu}{s:St}{w:dh}{P:cq}
theorem bJ{x:Sem af}{v:af}(h:pF P x=ae v)(w:dh):x.run P w=.ok v w/\VR μ v v:=by
 unfold pF at h;split at h
 ·rename_i u hu;cases hf:bD 6 u with|false=>rw[hf] at h;simp at h|true=>rw[hf] at h;simp at h;subst h;exact⟨wT hu w,j8 6 _ hf⟩
 ·cases h
def hNe(P:cq)(t:ct)(x y:af):Bool:=match P.underlying t,x,y with|some (.pointer _),.pointer (ae _),.pointer av=>au|some (.pointer _),.pointer av,.pointer (ae _)=>au|some (.slice _),.slice (ae _) _ _,.slice av _ _=>au|some (.slice _),.slice av _ _,.slice (ae _) _ _=>au|some (.map _ _),.map (ae _),.map av=>au|some (.map _ _),.map av,.map (ae _)=>au|some (.func _ _ _),.func _ _ _,.nilFunc=>au|some (.func _ _ _),.nilFunc,.func _ _ _=>au|_,_,_=>aa
theorem mV{op:uf}{t:ct}{xo yo:im}{x y:af}(h:hNe P t x y=au)(w:dh):(eqGuard op t xo yo x y).run P w=.ok () w:=by unfold hNe at h;split at h<;>first|exact rb h|(cases op<;>rfl)
theorem D9{t:ct}{x y:af}(h:hNe P t x y=au)(d:aq)(w:dh):(uq (d+1) t x y).run P w=.ok aa w:=by
 unfold hNe at h;split at h;all_goals first
  |exact rb h
  |(rename_i hu;simp[uq,run_underlying hu])
theorem LH{t:ct}{x y:af}(h:hNe P t x y=au):binOp .eql t x y=(do pure (.bool (<-Op.equal t x y)):Sem af)/\binOp .neq t x y=(do pure (.bool (!(<-Op.equal t x y))):Sem af):=by unfold hNe at h;split at h<;>first|exact rb h|exact⟨rfl,rfl⟩
theorem IY{t:ct}{xo yo:im}{x y:af}(h:hNe P t x y=au)(w:dh):(do eqGuard .eql t xo yo x y;binOp .eql t x y:Sem af).run P w=.ok (.bool aa) w/\(do eqGuard .neq t xo yo x y;binOp .neq t x y:Sem af).run P w=.ok (.bool au) w:=by
 have he:=D9 h 9999 w;have hb:=LH h;refine⟨?_,?_⟩
 ·rw[cv,mV h,hb.1];simp[Op.equal,Op.maxDepth,he]
 ·rw[cv,mV h,hb.2];simp[Op.equal,Op.maxDepth,he]
def EJ:af->cz
 |.slice (ae _) _ c=>em c UNK|_=>au
theorem FZ{a:pv}{n z:aq}(h:EJ (.slice (ae a) n (UNK+z))=au):False:=by have:UNK+z<UNK:=gt h;omega
theorem TA{t:ct}{x y x' y':af}(h:hNe P t x y=au)(hx:VR μ x x')(hy:VR μ y y')(cx:EJ x=au)(cy:EJ y=au):hNe P t x' y'=true:=by
 unfold hNe at h;split at h;all_goals first
  |exact rb h
  |(rename_i hu;cases hx<;>cases hy<;>first|exact(FZ cx).elim|exact(FZ cy).elim|simp[hNe,hu])
def FO:uf->bp af
 |.eql=>ae (.bool aa)|.neq=>ae (.bool au)|_=>av
def j6(P:cq)(t:ct)(cs:ab af)(off:aq):bp Value:=match P.underlying t with
 |none=>av
 |some d=>bif lU d then
   match P.info? t with|some f=>ae (.agg ⟨(cs.drop off).take f.size⟩)|none=>av
  else cs[off]?
theorem gE{t:ct}{cs cs':ab af}{off:aq}{v:af}(h:j6 P t cs off=ae v)(hc:VRs μ cs cs'):∃v',(∀ w,(part t ⟨cs'⟩ off).run P w=.ok v' w)/\VR μ v v':=by
 unfold j6 at h;cases hu:P.underlying t with
 |none=>simp only[hu] at h;cases h
 |some d=>
  simp only[hu] at h;cases hd:lU d with
  |true=>simp only[hd,de] at h;cases hi:P.info? t with|none=>simp only[hi] at h;cases h|some f=>simp only[hi,co] at h;subst h;refine⟨_,λw=>?_,.agg ((hc.drop off).take f.size)⟩;simp[part,jS hu,hd,sizeOf,typeInfo,hi]
  |false=>simp only[hd,ed] at h;obtain⟨v',h1,h2⟩:=hc.get off v h;refine⟨v',λw=>?_,h2⟩;simp[part,jS hu,hd,h1]
def BC:af->cz
 |.bool _=>au|_=>aa
def bv:af->cz
 |.bool b=>b|_=>aa
def fT:af×af->cz
 |(.int _ a,.int _ b)=>a==b|(.string a,.string b)=>a==b|(x,y)=>bv x==bv y
abbrev LV:=ct->af->af->bp (ab (af×af))
def HS(P:cq)(rc:LV)(xs ys:ab af):ab Field->bp (ab (af×af))
 |[]=>ae []
 |f::fs=>if f.name≠ "_" then
   match j6 P f.type xs f.offset,j6 P f.type ys f.offset with
   |some a,ae b=>match rc f.type a b,HS P rc xs ys fs with|some l,ae r=>ae (l++r)|_,_=>av
   |_,_=>av
  else HS P rc xs ys fs
def K2(P:cq)(rc:LV)(e:ct)(z:aq)(xs ys:ab af):ab aq->bp (ab (af×af))
 |[]=>ae []
 |i::is=>match j6 P e xs (i*z),j6 P e ys (i*z) with
  |some a,ae b=>match rc e a b,K2 P rc e z xs ys is with
   |some l,ae r=>ae (l++r)|_,_=>av
  |_,_=>av
def eD(P:cq):aq->LV
 |0,_,_,_=>av
 |d+1,t,x,y=>match P.underlying t,x,y with
  |some .bool,_,_=>bif BC x&&BC y then ae [(x,y)] else av
  |some (.int _),.int k a,.int k' b=>if k=k' then ae [(.int k a,.int k b)] else av
  |some (.struct fs),.agg xs,.agg ys=>bif P.stoodInHeld t then av else HS P (eD P d) xs.toList ys.toList fs.toList
  |some (.array n e),.agg xs,.agg ys=>match P.info? e with
   |some f=>K2 P (eD P d) e f.size xs.toList ys.toList (List.range' 0 n 1)|none=>av
  |_,_,_=>av
theorem P7{v v':af}(hb:BC v=au)(h:VR μ v v'):v'=.bool (bv v):=by cases v with|bool b=>cases h;rfl|_=>simp[BC] at hb
theorem HE{x y:af}(hx:BC x=au):fT (x,y)=(bv x==bv y):=by cases x<;>simp[BC] at hx<;>rfl
def T9(P:cq)(μ:Mu)(d:aq):Prop:=∀(t:ct)(x y x' y':af)(l:ab (af×af)),eD P d t x y=ae l->VR μ x x'->VR μ y y'->∀(D:aq)(w:dh),d<=D->(uq D t x' y').run P w=.ok (l.all fT) w
theorem EA{d:aq}(hr:T9 P μ d){xs ys xs' ys':ab af}(hx:VRs μ xs xs')(hy:VRs μ ys ys'){D:aq}(hD:d<=D)(w:dh):∀(fs:ab Field)(l:ab (af×af)),HS P (eD P d) xs ys fs=ae l->(Op.eqFields D ⟨xs'⟩ ⟨ys'⟩ fs).run P w=.ok (l.all fT) w:=by
 intro fs;induction fs with
 |nil=>intro l h;cases h;rfl
 |cons f fs ih=>
  intro l h;simp only[HS] at h;unfold Op.eqFields;split at h
  ·rename_i hn;rw[fc hn];split at h
   ·rename_i a b ha hb;split at h
    ·rename_i l1 r1 hl hr1;cases h;obtain⟨a',k1,k2⟩:=gE ha hx;obtain⟨b',k3,k4⟩:=gE hb hy;have k5:=hr f.type a b a' b' l1 hl k2 k4 D w hD;have k6:=ih r1 hr1;simp only[cv,k1 w,k3 w,k5,cj,rt];cases l1.all fT with|false=>simp|true=>simp[k6]
    ·cases h
   ·cases h
  ·rename_i hn;rw[eh hn];exact ih l h
theorem EB{d:aq}(hr:T9 P μ d){xs ys xs' ys':ab af}(hx:VRs μ xs xs')(hy:VRs μ ys ys'){D:aq}(hD:d<=D){e:ct}{z:aq}(w:dh):∀(is:ab aq)(l:ab (af×af)),K2 P (eD P d) e z xs ys is=ae l->(do
    let s <-forIn (m:=Sem) is ((av,()):bp cz×Unit) λi _=>do
     let b <-uq D e (<-part e ⟨xs'⟩ (i*z)) (<-part e ⟨ys'⟩ (i*z))
     if(!b)=au then pure (ForInStep.done (ae aa,())) else pure (ForInStep.yield (av,()))
    match s.fst with
    |some r=>pure r
    |none=>pure au:Sem cz).run P w=.ok (l.all fT) w:=by
 intro is
 induction is with
 |nil=>intro l h;cases h;rfl
 |cons i is ih=>
  intro l h;simp only[K2] at h;split at h
  ·rename_i a b ha hb;split at h
   ·rename_i l1 r1 hl hr1;cases h;obtain⟨a',k1,k2⟩:=gE ha hx;obtain⟨b',k3,k4⟩:=gE hb hy;have k5:=hr e a b a' b' l1 hl k2 k4 D w hD;have k6:=ih r1 hr1;simp only[List.forIn_cons,cv,k1 w,k3 w,k5,cj,rt];cases l1.all fT with|false=>simp|true=>simp only[Bool.not_true,jw,if_false,dw,cj,Bool.true_and];simpa only[cv] using k6
   ·cases h
  ·cases h
theorem iQ:∀ d,T9 P μ d:=by
 intro d;induction d with
 |zero=>intro t x y x' y' l h;cases h
 |succ d ih=>
  intro t x y x' y' l h hx hy D w hD;obtain⟨D',rfl⟩:∃D',D=D'+1:=⟨D-1,qO⟩;simp only[eD] at h;split at h
  ·rename_i x y _ _ _ hu;cases hb:(BC x&&BC y) with|false=>rw[hb] at h;cases h|true=>rw[hb] at h;simp only[de,co] at h;subst h;simp only[bu] at hb;rw[P7 hb.1 hx,P7 hb.2 hy,run_equalIn_bool' w D' t _ _ hu];simp[HE hb.1]
  ·rename_i k0 k a k' b hu;split at h
   ·rename_i hk;subst hk;cases h;cases hx;cases hy;rw[run_equalIn_int w D' t k k0 _ _ hu];simp[fT]
   ·cases h
  ·rename_i fs xs ys hu;cases hs:P.stoodInHeld t with
   |true=>rw[hs] at h;cases h
   |false=>
    rw[hs] at h;simp only[ed] at h;cases hx with
    |agg hx=>
     cases hy with
     |agg hy=>
      have hf:P.fieldsOf t=fs:=by unfold Program.fieldsOf;rw[hu]
      rw[run_equalIn_struct w D' t _ _ (by rw[hf];exact hu) hs,hf];exact EA ih hx hy qO w _ _ h
  ·rename_i n e xs ys hu;split at h
   ·rename_i f hi;cases hx with|agg hx=>cases hy with|agg hy=>have k:=EB ih hx hy (D:=D') qO (e:=e) (z:=f.size) w _ _ h;simp only[uq,cv,run_underlying hu,cj,sizeOf,typeInfo,run_program,hi,dw];rw[ou];simp[Std.Legacy.Range.size];simp at k;refine Eq.trans ?_ k;congr;funext a w';obtain⟨_|_,_⟩:=a<;>rfl
   ·cases h
  ·cases h
def DV(P:cq)(op:uf)(t:ct)(x y:af):bp Value:=match op with
 |.eql=>bif P.eqGuardType P.depth t then av else(eD P 8 t x y).map λl=>.bool (l.all fT)
 |.neq=>bif P.eqGuardType P.depth t then av else(eD P 8 t x y).map λl=>.bool (!(l.all fT))
 |_=>av
theorem B3{op:uf}{t:ct}{xo yo:im}{xs ys:df af}{x' y' v:af}(h:DV P op t (.agg xs) (.agg ys)=ae v)(hx:VR μ (.agg xs) x')(hy:VR μ (.agg ys) y'):∃v',(∀ w,(do eqGuard op t xo yo x' y';binOp op t x' y':Sem af).run P w=.ok v' w)/\VR μ v v':=by
 unfold DV at h;split at h
 ·cases hg:P.eqGuardType P.depth t with|true=>rw[hg] at h;cases h|false=>rw[hg] at h;simp only[ed,aj] at h;obtain⟨l,hl,rfl⟩:=h;refine⟨.bool (l.all fT),λw=>?_,.bool _⟩;have k:=iQ 8 t _ _ _ _ l hl hx hy 10000 w qO;cases hx;cases hy;rw[cv,run_eqGuard_agg w .eql t xo yo _ _ hg,cj,run_eql_struct,k];rfl
 ·cases hg:P.eqGuardType P.depth t with|true=>rw[hg] at h;cases h|false=>rw[hg] at h;simp only[ed,aj] at h;obtain⟨l,hl,rfl⟩:=h;refine⟨.bool (!(l.all fT)),λw=>?_,.bool _⟩;have k:=iQ 8 t _ _ _ _ l hl hx hy 10000 w qO;cases hx;cases hy;rw[cv,run_eqGuard_agg w .neq t xo yo _ _ hg,cj,run_neq_struct,k];rfl
 ·cases h
def TB(op:uf)(x y:af)(s:St):bp (af×St):=match op,x,y with
 |.quo,.int k a,.int k' b=>if k=k' then(mR (!(b==0)) s).map λs'=>(.int k (k.wrap (a.tdiv b)),s') else av
 |.rem,.int k a,.int k' b=>if k=k' then(mR (!(b==0)) s).map λs'=>(.int k (a.tmod b),s') else av
 |_,_,_=>av
def KP(P:cq)(op:uf)(t:ct)(xo yo:im)(x y:af):bp Value:=match x,y with|.agg xs,.agg ys=>DV P op t (.agg xs) (.agg ys)|_,_=>bif bD 6 x&&bD 6 y then pF P (do eqGuard op t xo yo x y;binOp op t x y) else bif hNe P t x y&&(EJ x&&EJ y) then FO op else av
def J8:uf->cz
 |.quo=>au|.rem=>au|_=>aa
def BU(P:cq)(op:uf)(t:ct)(xo yo:im)(x y:af)(s:St):bp (af×St):=bif J8 op then TB op x y s else(KP P op t xo yo x y).map λv=>(v,s)
theorem EK{op:uf}{t:ct}{xo yo:im}{x y x' y' v:af}(h:KP P op t xo yo x y=ae v)(hx:VR μ x x')(hy:VR μ y y'):∃v',(∀ w,(do eqGuard op t xo yo x' y';binOp op t x' y':Sem af).run P w=.ok v' w)/\VR μ v v':=by
 unfold KP at h;split at h
 ·exact B3 h hx hy
 ·cases hb:(bD 6 x&&bD 6 y) with
  |true=>rw[hb] at h;simp only[de] at h;simp only[bu] at hb;obtain rfl:=jD 6 _ _ hb.1 hx;obtain rfl:=jD 6 _ _ hb.2 hy;exact⟨v,λw=>(bJ (μ:=μ) h w).1,(bJ h default).2⟩
  |false=>
   rw[hb] at h;simp only[ed] at h;cases hn:(hNe P t x y&&(EJ x&&EJ y)) with
   |true=>rw[hn] at h;simp only[de] at h;simp only[bu] at hn;have hn':=λw=>IY (xo:=xo) (yo:=yo) (TA hn.1 hx hy hn.2.1 hn.2.2) w;cases op<;>simp only[FO,co,reduceCtorEq] at h<;>first|(subst h;exact⟨_,λw=>(hn' w).1,.bool _⟩)|(subst h;exact⟨_,λw=>(hn' w).2,.bool _⟩)
   |false=>rw[hn] at h;simp at h
theorem EL{op:uf}{t:ct}{xo yo:im}{x y x' y' v:af}{s':St}(h:BU P op t xo yo x y s=ae (v,s'))(hx:VR μ x x')(hy:VR μ y y'):s.like s'/\(SOK s'->∃v',(∀ w,(do eqGuard op t xo yo x' y';binOp op t x' y':Sem af).run P w=.ok v' w)/\VR μ v v'):=by
 unfold BU at h;cases hd:J8 op with
 |false=>rw[hd] at h;simp only[ed,aj,bn] at h;obtain⟨v1,h1,rfl,rfl⟩:=h;exact⟨s.like_refl,λ_=>EK h1 hx hy⟩
 |true=>
  rw[hd] at h;simp only[de] at h;unfold TB at h;split at h
  ·rename_i k a k' b;split at h
   ·rename_i hk;subst hk;simp only[aj,bn] at h;obtain⟨s1,h1,rfl,rfl⟩:=h;obtain⟨h2,h3⟩:=bA h1;refine⟨h2,λok=>?_⟩;have h4:b≠0:=by have:=h3 ok;simpa using this
    cases hx;cases hy;refine⟨_,λw=>?_,.int k (k.wrap (a.tdiv b))⟩;rw[cv,show(eqGuard .quo t xo yo (.int k a) (.int k b)).run P w=.ok () w from rfl];simp[binOp,Op.intDiv,h4]
   ·cases h
  ·rename_i k a k' b;split at h
   ·rename_i hk;subst hk;simp only[aj,bn] at h;obtain⟨s1,h1,rfl,rfl⟩:=h;obtain⟨h2,h3⟩:=bA h1;refine⟨h2,λok=>?_⟩;have h4:b≠0:=by have:=h3 ok;simpa using this
    cases hx;cases hy;refine⟨_,λw=>?_,.int k (a.tmod b)⟩;rw[cv,show(eqGuard .rem t xo yo (.int k a) (.int k b)).run P w=.ok () w from rfl];simp[binOp,Op.intDiv,h4]
   ·cases h
  ·cases h
def KY(P:cq)(t:ct)(x y:af):bp Nat:=match rC x,y with
 |some es,.slice av _ _=>match P.underlying t with
  |some (.slice _)=>ae es.length|_=>av
 |_,_=>av
def KQ(P:cq)(op:uf)(t:ct)(xo yo:im)(x y:af)(s:St):bp (af×St):=match KY P t x y with
 |some n=>match FO op with
  |some v=>(mR (!(bx n 0)) s).map λs'=>(v,s')
  |none=>av
 |none=>BU P op t xo yo x y s
theorem HY{op:uf}{t:ct}{xo yo:im}{x y x' y' v:af}{s':St}(h:KQ P op t xo yo x y s=ae (v,s'))(hx:VR μ x x')(hy:VR μ y y'):s.like s'/\(SOK s'->∃v',(∀ w,(do eqGuard op t xo yo x' y';binOp op t x' y':Sem af).run P w=.ok v' w)/\VR μ v v'):=by
 unfold KQ at h;split at h
 ·rename_i n hn;split at h
  ·rename_i u hu;simp only[aj,bn] at h;obtain⟨s1,h1,rfl,rfl⟩:=h;obtain⟨h2,h3⟩:=bA h1;refine⟨h2,λok=>?_⟩;have h4:=h3 ok;unfold KY at hn;split at hn
   ·rename_i es n1 c1 he;split at hn
    ·rename_i e0 hut;cases hn;have hx':=iK he;subst hx';have hne:hNe P t x' y'=true:=by cases hy;cases hx with|iface ht _=>exact cp ht (by simp[TYM])|frz k=>cases k with|frz0=>simp at h4|frz=>unfold hNe;rw[hut]
     have hn':=λw=>IY (xo:=xo) (yo:=yo) hne w;cases op<;>simp only[FO,co,reduceCtorEq] at hu<;>first|(subst hu;exact⟨_,λw=>(hn' w).1,.bool _⟩)|(subst hu;exact⟨_,λw=>(hn' w).2,.bool _⟩)
    ·cases hn
   ·cases hn
  ·cases h
 ·exact EL h hx hy
def KN(P:cq)(src dst:ct)(x:af):bp Value:=bif bD 6 x then pF P (convert src dst x) else av
theorem EE{src dst:ct}{x x' v:af}(h:KN P src dst x=ae v)(hx:VR μ x x'):∃v',(∀ w,(convert src dst x').run P w=.ok v' w)/\VR μ v v':=by unfold KN at h;cases hb:bD 6 x with|true=>rw[hb] at h;simp only[de] at h;obtain rfl:=jD 6 _ _ hb hx;exact⟨v,λw=>(bJ (μ:=μ) h w).1,(bJ h default).2⟩|false=>rw[hb] at h;cases h
def DU(P:cq)(t:ct)(x:af)(f:aq):bp Value:=match P.underlying t,x with
 |some (.struct fs),.agg cs=>match fs[f]? with|some g=>j6 P g.type cs.toList g.offset|none=>av
 |_,_=>av
theorem B2{t:ct}{x x' v:af}{f:aq}(h:DU P t x f=ae v)(hx:VR μ x x'):∃v',(∀ w,(Instr.field t x' f).run P w=.ok v' w)/\VR μ v v':=by
 unfold DU at h;split at h
 ·rename_i fs cs hu;cases hg:fs[f]? with|none=>simp only[hg] at h;cases h|some g=>simp only[hg] at h;cases hx with|agg hc=>obtain⟨v',h1,h2⟩:=gE h hc;refine⟨v',λw=>?_,h2⟩;simp[Instr.field,run_underlying hu,hg,asAgg,h1]
 ·cases h
def vY(P:cq)(t:ct)(x i:af)(s:St):bp (af×St):=match P.underlying t,x,i with
 |some (.array n e),.agg cs,.int _ k=>match P.info? e with
  |some f=>bif s.opn then(match sJ s with
    |some ([v],s1)=>(dK ((0<=k/\k<n)/\j6 P e cs.toList (k.toNat*f.size)=ae v) s1).map λs2=>(v,s2)
    |_=>av)
   else bif decide (0<=k)&&decide (k<n) then(j6 P e cs.toList (k.toNat*f.size)).map λv=>(v,s) else av
  |none=>av
 |_,_,_=>bif bD 6 x&&bD 6 i then(pF P (Instr.index t x i)).map λv=>(v,s) else av
theorem BD{t:ct}{x x' i i' v:af}{s':St}(h:vY P t x i s=ae (v,s'))(hx:VR μ x x')(hi:VR μ i i'):s.like s'/\(SOK s'->∃v',(∀ w,(Instr.index t x' i').run P w=.ok v' w)/\VR μ v v'):=by
 unfold vY at h;split at h
 ·rename_i n e cs kd k hu;cases hf:P.info? e with
  |none=>simp only[hf] at h;cases h
  |some f=>
   simp only[hf] at h;have fin:∀ v,0<=k/\k<n->j6 P e cs.toList (k.toNat*f.size)=ae v->∃v',(∀ w,(Instr.index t x' i').run P w=.ok v' w)/\VR μ v v':=by intro v hk hp;cases hi with|int kd k=>cases hx with|agg hcs=>obtain⟨v',h1,h2⟩:=gE hp hcs;refine⟨v',λw=>?_,h2⟩;simp[Instr.index,asIntOf,run_underlying hu,hk.1,hk.2,sizeOf,typeInfo,hf,h1]
   cases ho:s.opn with
   |true=>
    rw[ho] at h;simp only[de] at h;split at h
    ·rename_i v1 s1 hp;simp only[aj,bn] at h;obtain⟨s2,h2,rfl,rfl⟩:=h;obtain⟨k1,k2⟩:=aY h2;exact⟨(cE hp).trans k1,λok=>fin _ (k2 ok).1 (k2 ok).2⟩
    ·cases h
   |false=>rw[ho] at h;simp only[ed] at h;cases hc:(decide (0<=k)&&decide (k<(n:br))) with|false=>rw[hc] at h;simp at h|true=>rw[hc] at h;simp only[de,aj,bn] at h;obtain⟨v1,h1,rfl,rfl⟩:=h;simp only[bu,decide_eq_true_eq] at hc;exact⟨s.like_refl,λ_=>fin _ hc h1⟩
 ·rename_i x i tt xx ii hh;cases hb:(bD 6 x&&bD 6 i) with|true=>rw[hb] at h;simp only[de,aj,bn] at h;obtain⟨v1,h1,rfl,rfl⟩:=h;simp only[bu] at hb;obtain rfl:=jD 6 _ _ hb.1 hx;obtain rfl:=jD 6 _ _ hb.2 hi;exact⟨s.like_refl,λ_=>⟨_,λw=>(bJ (μ:=μ) h1 w).1,(bJ h1 default).2⟩⟩|false=>rw[hb] at h;simp at h
def qB(P:cq)(t:ct)(x:af)(f:aq):bp Value:=match P.underlying t with
 |some (.struct fs)=>match fs[f]? with
  |some g=>match P.info? g.type with
   |some inf=>bif bx inf.size 0 then av else match x with
    |.pointer (ae ⟨i,o,av⟩)=>ae (.pointer (ae ⟨i,o+g.offset,av⟩))|.pointer (ae ⟨i,o,ae z⟩)=>ae (.pointer (ae ⟨i,o+g.offset,ae z⟩))
    |_=>match vP x with
     |some cs=>bif dg g.offset cs.length then ae (fptr (cs.drop g.offset)) else av
     |none=>av
   |none=>av
  |none=>av
 |_=>av
theorem xU{cs:ab af}{x':af}{n:aq}(h:VR μ (fptr cs) x')(hn:n<=cs.length):∃b o,x'=.pointer (ae ⟨b,o,av⟩)/\VR μ (fptr (cs.drop n)) (.pointer (ae ⟨b,o+n,av⟩)):=by cases h with|iface ht _=>exact cp ht (by simp[TYM])|fptr hz ho hr=>rename_i b o cur e fr;refine⟨b,o,rfl,.fptr hz (by simp;omega) ?_⟩;have:=hr.drop n;rw[qd,jo] at this;simpa using this
theorem tY{t:ct}{x x' v:af}{f:aq}(h:qB P t x f=ae v)(hx:VR μ x x'):∃v',(∀ w,(tz t x' f).run P w=.ok v' w)/\VR μ v v':=by
 unfold qB at h;split at h
 ·rename_i fs hu;cases hg:fs[f]? with
  |none=>simp only[hg] at h;cases h
  |some g=>
   simp only[hg] at h;cases hi:P.info? g.type with
   |none=>simp only[hi] at h;cases h
   |some inf=>
    simp only[hi] at h;cases hz:bx inf.size 0 with
    |true=>rw[hz] at h;simp at h
    |false=>
     rw[hz] at h;simp only[ed] at h;have hz':inf.size≠0:=λe=>by rw[(aI _ _).2 e] at hz;cases hz
     split at h
     ·cases h;cases hx with|ptr hp=>rename_i i o p;refine⟨_,λw=>?_,.ptr (o:=o+g.offset) hp⟩;simp[tz,run_underlying hu,hg,ku,fieldPlace,sizeOf,typeInfo,hi,hz',bO,ji]
     ·cases h;cases hx with|ptrO hp=>rename_i i o z p;refine⟨_,λw=>?_,.ptrO (o:=o+g.offset) hp⟩;simp[tz,run_underlying hu,hg,ku,fieldPlace,sizeOf,typeInfo,hi,hz',bO,ji]
     ·split at h
      ·rename_i cs hcs;cases hb:dg g.offset cs.length with|false=>rw[hb] at h;simp at h|true=>rw[hb] at h;simp only[de,co] at h;subst h;rw[oK hcs] at hx;obtain⟨b,o,rfl,k⟩:=xU hx (bK hb);refine⟨_,λw=>?_,k⟩;simp[tz,run_underlying hu,hg,ku,fieldPlace,sizeOf,typeInfo,hi,hz',bO]
      ·cases h
 ·cases h
def FY(k:br):aq->aq->St->bp (aq×St)
 |0,_,_=>av|1,j,s=>ae (j,s)|m+2,j,s=>match vB (k==(j:br)) s with|some (au,s1)=>ae (j,s1)|some (aa,s1)=>FY k (m+1) (j+1) s1|none=>av
def kJ(s:St)(b:aq):Bool:=match s.h.get b with|some (.row aa _ _)=>s.opn|some (.ro _)=>s.opn|some (.lk aa _)=>s.opn|_=>aa
def N8(s:St)(b:aq)(k:br)(n:aq):bp (aq×St):=match mR (decide (0<=k)&&decide (k<n)) s with
 |some s1=>bif kJ s b then FY k n 0 s1 else ae (k.toNat,s1)
 |none=>av
theorem EH{k:br}:∀(m j:aq)(s s':St)(r:aq),FY k m j s=ae (r,s')->s.like s'/\(SOK s'->(j:br)<=k->k<j+m->k=(r:br)):=by
 intro m;induction m with
 |zero=>intro j s s' r h;cases h
 |succ m ih=>
  intro j s s' r h;cases m with
  |zero=>cases h;exact⟨s.like_refl,λ_ h1 h2=>qO⟩
  |succ m=>
   simp only[FY] at h;split at h
   ·rename_i s1 hp;cases h;obtain⟨a,b⟩:=aZ hp;exact⟨a,λok _ _=>by simpa using b ok⟩
   ·rename_i s1 hp;obtain⟨a,b⟩:=ih _ _ _ _ h;obtain⟨c,d⟩:=aZ hp;refine⟨c.trans a,λok h1 h2=>b ok ?_ qO⟩;have:=d (SOK.of_sub a.sub ok);have hne:k≠(j:br):=by simpa using this
    omega
   ·cases h
theorem oL{s s':St}{b:aq}{k:br}{n r:aq}(h:N8 s b k n=ae (r,s')):s.like s'/\(SOK s'->0<=k/\k<n/\r=k.toNat):=by
 unfold N8 at h;split at h
 ·rename_i s1 hn;obtain⟨a1,a2⟩:=bA hn;cases hb:kJ s b with|true=>rw[hb] at h;obtain⟨b1,b2⟩:=EH _ _ _ _ _ h;refine⟨a1.trans b1,λok=>?_⟩;have h1:=a2 (SOK.of_sub b1.sub ok);simp only[bu,decide_eq_true_eq] at h1;have h2:=b2 ok h1.1 qO;exact⟨h1.1,h1.2,by rw[h2];rfl⟩|false=>rw[hb] at h;cases h;refine⟨a1,λok=>?_⟩;have h1:=a2 ok;simp only[bu,decide_eq_true_eq] at h1;exact⟨h1.1,h1.2,rfl⟩
 ·cases h
def iO(P:cq)(t:ct)(x i:af)(s:St):bp (af×St):=match P.underlying t,i with
 |some (.slice e),.int _ k=>match P.info? e with
  |some f=>match x with
   |.slice (ae ⟨b,o,av⟩) n _=>(N8 s b k n).map λr=>(.pointer (ae ⟨b,o+r.1*f.size,av⟩),r.2)
   |_=>match rC x with
    |some es=>match sJ s with
     |some ([v],s1)=>bif bx v.cells.toList.length f.size then(dK (0<=k/\es[k.toNat]? =ae v) s1).map λs2=>(fptr v.cells.toList,s2) else av
     |_=>av
    |none=>av
  |none=>av
 |some (.array n e),.int _ k=>match P.info? e with
  |some f=>match x with
   |.pointer (ae ⟨b,o,av⟩)=>bif dg 16 n&&kJ s b then(mR (decide (0<=k)&&decide (k<n)) s).map λs1=>(.pointer (ae ⟨b,o+k.toNat*f.size,ae (o*65536+n*f.size)⟩),s1) else(N8 s b k n).map λr=>(.pointer (ae ⟨b,o+r.1*f.size,av⟩),r.2)
   |_=>match vP x with
    |some cs=>bif decide (0<=k)&&decide (k<n)&&dg (k.toNat*f.size) cs.length then ae (fptr (cs.drop (k.toNat*f.size)),s) else av
    |none=>av
  |none=>av
 |_,_=>av
theorem TP{es:ab af}{v x':af}{k:aq}(h:VR μ (frz es) x')(hk:es[k]? =ae v):∃b o c,x'=.slice (ae ⟨b,o,av⟩) es.length c/\es.length<=c/\0<v.cells.toList.length/\VR μ (fptr v.cells.toList) (.pointer (ae ⟨b,o+k*v.cells.toList.length,av⟩))/\∃O,μ.fz b=ae O:=by
 cases h with
 |iface ht _=>exact cp ht (by simp[TYM])
 |frz h=>
  have hlt:k<es.length:=by
   rcases ey k es.length with h'|h'
   ·exact h'
   ·rw[ei h'] at hk;cases hk
  cases h with
  |frz0=>simp at hlt
  |frz h hz hes hc ho hr=>
   rename_i b o z c cur e fr;have hv:v∈es:=ge hk;have hvz:v.cells.toList.length=z:=by simpa using hes v hv
   refine⟨b,o,c,rfl,hc,qO,?_,_,h⟩;have hm:k*z+z<=es.length*z:=by have:=gj z (show k+1<=es.length from hlt);rw[qh] at this;exact this
   refine .fptr h (by rw[hvz];omega) ?_;have h1:=(hr.drop (k*z)).take z;rw[qd,qe,jo] at h1;have h2:((aB es).drop (k*z)).take z=v.cells.toList:=by
    clear hr h1 hlt hm ho hc hv;unfold aB;induction es generalizing k with
    |nil=>simp at hk
    |cons a es ih=>
     have ha:a.cells.toList.length=z:=by simpa using hes a qS
     cases k with|zero=>simp at hk;subst hk;simp only[lx,lH,te];rw[<-ha];simp|succ k=>simp only[te];rw[show(k+1)*z=a.cells.toList.length+k*z by rw[ha,qh];omega,List.drop_append,nv qO,List.nil_append,Nat.add_sub_cancel_left];exact ih (by simpa using hk) (λx hx=>hes x (by simp[hx]))
   rw[h2] at h1;rw[hvz]
   rwa [lr qO] at h1
theorem tU{t:ct}{x x' i i' v:af}{s':St}(h:iO P t x i s=ae (v,s'))(hx:VR μ x x')(hi:VR μ i i'):s.like s'/\(SOK s'->∃v',(∀ w,(mw t x' i').run P w=.ok v' w)/\VR μ v v'):=by
 unfold iO at h;split at h
 ·rename_i e kd k hu;cases hf:P.info? e with
  |none=>simp only[hf] at h;cases h
  |some f=>
   simp only[hf] at h;split at h
   ·rename_i b o n c;simp only[aj,bn] at h;obtain⟨⟨r,s1⟩,h1,rfl,rfl⟩:=h;obtain⟨k1,k2⟩:=oL h1;refine⟨k1,λok=>?_⟩;obtain⟨c2,c3,c4⟩:=k2 ok;simp only[c4];cases hi with|int kd k=>cases hx with|sliceK hp hcc=>refine⟨_,λw=>?_,.ptr (o:=o+k.toNat*f.size) hp⟩;simp[mw,asIntOf,run_underlying hu,c2,c3,sizeOf,typeInfo,hf,bO,ji]|sliceU hp h1 h2 h3=>refine⟨_,λw=>?_,.ptr (o:=o+k.toNat*f.size) hp⟩;simp[mw,asIntOf,run_underlying hu,c2,c3,sizeOf,typeInfo,hf,bO,ji]|sliceE=>exfalso;simp at c3;omega
   ·split at h
    ·rename_i es hes;split at h
     ·rename_i v1 s1 hp;cases hb:bx v1.cells.toList.length f.size with
      |false=>rw[hb] at h;simp at h
      |true=>
       rw[hb] at h;simp only[de,aj,bn] at h;obtain⟨s2,h2,rfl,rfl⟩:=h;obtain⟨k1,k2⟩:=aY h2;refine⟨(cE hp).trans k1,λok=>?_⟩;obtain⟨c2,c3⟩:=k2 ok;have hb:=(aI _ _).1 hb;rw[iK hes] at hx;obtain⟨b,o,c,rfl,_,_,k3,_⟩:=TP hx c3;have hlt:k<(es.length:br):=by
        rcases ey k.toNat es.length with h'|h'
        ·omega
        ·rw[ei h'] at c3;cases c3
       cases hi with|int kd k=>refine⟨_,λw=>?_,k3⟩;have hsz:f.size=v1.cells.toList.length:=hb.symm;simp only[mw,asIntOf,cv,run_underlying hu,cj];simp[c2,hlt,sizeOf,typeInfo,hf,bO,hsz]
     ·cases h
    ·cases h
 ·rename_i n e kd k hu;cases hf:P.info? e with
  |none=>simp only[hf] at h;cases h
  |some f=>
   simp only[hf] at h;split at h
   ·rename_i b o;cases hop:(dg 16 n&&kJ s b) with
    |true=>rw[hop] at h;simp only[de,aj,bn] at h;obtain⟨s1,h1,rfl,rfl⟩:=h;obtain⟨k1,k2⟩:=bA h1;refine⟨k1,λok=>?_⟩;have k3:=k2 ok;simp only[bu,decide_eq_true_eq] at k3;obtain⟨c2,c3⟩:=k3;cases hi with|int kd k=>cases hx with|ptr hp=>refine⟨_,λw=>?_,.ptrO (o:=o+k.toNat*f.size) hp⟩;simp[mw,asIntOf,run_underlying hu,ku,c2,c3,sizeOf,typeInfo,hf,bO,ji]
    |false=>
    rw[hop] at h;simp only[ed,aj,bn] at h;obtain⟨⟨r,s1⟩,h1,rfl,rfl⟩:=h;obtain⟨k1,k2⟩:=oL h1;refine⟨k1,λok=>?_⟩;obtain⟨c2,c3,c4⟩:=k2 ok;simp only[c4];cases hi with|int kd k=>cases hx with|ptr hp=>refine⟨_,λw=>?_,.ptr (o:=o+k.toNat*f.size) hp⟩;simp[mw,asIntOf,run_underlying hu,ku,c2,c3,sizeOf,typeInfo,hf,bO,ji]
   ·split at h
    ·rename_i cs hcs;cases hc:(decide (0<=k)&&decide (k<(n:br))&&dg (k.toNat*f.size) cs.length) with|false=>rw[hc] at h;simp at h|true=>rw[hc] at h;simp only[de,co,bn] at h;obtain⟨rfl,rfl⟩:=h;simp only[bu,decide_eq_true_eq] at hc;obtain⟨⟨c2,c3⟩,c4⟩:=hc;refine⟨s.like_refl,λ_=>?_⟩;rw[oK hcs] at hx;obtain⟨b,o,rfl,k1⟩:=xU hx (bK c4);cases hi with|int kd k=>refine⟨_,λw=>?_,k1⟩;simp[mw,asIntOf,run_underlying hu,ku,c2,c3,sizeOf,typeInfo,hf,bO]
    ·cases h
 ·cases h
end
section
variable{w0:Base}{μ:Mu}{s:St}{w:dh}{P:cq}
theorem D4{off:aq}:∀(l l':ab af)(k:aq)(cs cs':ab af),VRs μ l l'->VRs μ cs cs'->VRs μ ((l.zipIdx k).foldl (λ(cs:df af)(x:af×aq)=>cs.setIfInBounds (off+x.2) x.1) ⟨cs⟩).toList ((l'.zipIdx k).foldl (λ(cs:df af)(x:af×aq)=>cs.setIfInBounds (off+x.2) x.1) ⟨cs'⟩).toList:=by
 intro l;induction l with
 |nil=>intro l' k cs cs' h hc;cases h;exact hc
 |cons a l ih=>
  intro l' k cs cs' h hc;cases h with
  |cons h t=>
   simp only[List.zipIdx_cons,List.foldl_cons];have e:∀(c:ab af)(x:af),(⟨c⟩:df af).setIfInBounds (off+k) x=⟨c.set (off+k) x⟩:=λc x=>by apply jt;rw[Array.toList_setIfInBounds]
   rw[e,e];exact ih _ (k+1) _ _ t (hc.set (off+k) h)
theorem uD{place:aq->bp (aq×aq)}:∀(ps ps':ab (aq×af))(cs cs':ab af),(ps.map (·.1)=ps'.map (·.1))->VRs μ (ps.map (·.2)) (ps'.map (·.2))->VRs μ cs cs'->∀ r,ny place ⟨cs⟩ ps=ae r->∃r',ny place ⟨cs'⟩ ps'=ae r'/\VRs μ r.toList r'.toList:=by
 intro ps;induction ps with
 |nil=>intro ps' cs cs' hi hv hc r hr;cases ps' with|cons _ _=>simp at hi|nil=>simp only[ny,co] at hr ⊢;subst hr;exact⟨_,rfl,hc⟩
 |cons p ps ih=>
  intro ps' cs cs' hi hv hc r hr;cases ps' with
  |nil=>simp at hi
  |cons p' ps'=>
   obtain⟨i,v⟩:=p;obtain⟨i',v'⟩:=p';simp only[List.map_cons,List.cons.injEq] at hi hv;obtain⟨rfl,hi⟩:=hi;cases hv with
   |cons h t=>
    have hcv:=h.cells;have hl:=hcv.length;simp only[gq] at hl;have hcl:=hc.length;simp only[ny] at hr ⊢;cases hp:place i with
    |none=>simp[hp] at hr
    |some q=>
     obtain⟨off,size⟩:=q;simp only[hp] at hr ⊢;split at hr
     ·cases hr
     ·rename_i hno;have hno':¬(v'.cells.size≠size\/off+v'.cells.size>cs'.length):=by simp at hno ⊢;omega
      simp only[qg,ne_eq,gt_iff_lt,Bool.or_eq_true,decide_eq_true_eq] at hno hno' ⊢;rw[eh (by simpa using hno')];have:=D4 (off:=off) v.cells.toList v'.cells.toList 0 cs cs' hcv hc;have e1:∀(u:af)(c:ab af),u.cells.zipIdx.foldl (λ(cs:df af)(x:af×aq)=>cs.setIfInBounds (off+x.2) x.1) ⟨c⟩=(u.cells.toList.zipIdx 0).foldl (λ(cs:df af)(x:af×aq)=>cs.setIfInBounds (off+x.2) x.1) ⟨c⟩:=by intro u c;rw[<-Array.foldl_toList,Array.toList_zipIdx]
      have h2:=ih ps' _ _ hi t this r (by rw[<-hr];congr 1;exact(e1 v cs).symm);obtain⟨r',h3,h4⟩:=h2;refine⟨r',?_,h4⟩;rw[<-h3];congr 1;exact e1 v' cs'
def pU(ev:im->bp af):ab (aq×im)->bp (ab (aq×af))
 |[]=>ae []|(i,x)::l=>match ev x,pU ev l with|some v,ae r=>ae ((i,v)::r)|_,_=>av
theorem vC{ev:im->bp af}{ρ:im->af}(he:∀ x v,ev x=ae v->VR μ v (ρ x)):∀(l:ab (aq×im))(r:ab (aq×af)),pU ev l=ae r->r.map (·.1)=(l.map λ(i,x)=>(i,ρ x)).map (·.1)/\VRs μ (r.map (·.2)) ((l.map λ(i,x)=>(i,ρ x)).map (·.2)):=by
 intro l;induction l with
 |nil=>intro r h;simp[pU] at h;subst h;exact⟨rfl,.nil⟩
 |cons p l ih=>
  intro r h;obtain⟨i,x⟩:=p;simp only[pU] at h;split at h
  ·rename_i v r' hv hr;simp at h;subst h;obtain⟨h1,h2⟩:=ih r' hr;exact⟨by simp only[List.map_cons];rw[h1],.cons (he _ _ hv) h2⟩
  ·cases h
def mG(P:cq)(t:ct):bp (ab af):=match P.info? t with
 |some f=>match f.zero with
  |some z=>bif z.cells.toList.all (bD 2) then ae z.cells.toList else av
  |none=>av
 |none=>av
theorem dI{l:ab af}{d:aq}(h:l.all (bD d)=au):VRs μ l l:=by induction l with|nil=>exact .nil|cons a l ih=>simp only[mv,bu] at h;exact .cons (j8 d a h.1) (ih h.2)
theorem dC{t:ct}{l:ab af}(h:mG P t=ae l):∃f z,P.info? t=ae f/\f.zero=ae z/\l=z.cells.toList/\l.all (bD 2)=true:=by unfold mG at h;cases hi:P.info? t with|none=>simp[hi] at h|some f=>simp only[hi] at h;cases hz:f.zero with|none=>simp[hz] at h|some z=>simp only[hz] at h;cases ha:z.cells.toList.all (bD 2) with|false=>rw[ha] at h;simp at h|true=>rw[ha] at h;simp only[de,co] at h;subst h;exact⟨f,z,rfl,hz,rfl,ha⟩
def DW(P:cq)(t:ct)(ps:ab (aq×af)):bp Value:=match mG P t,P.underlying t with
 |some z,ae (.array _ e)=>match P.info? e with|some ie=>(ny (λi=>ae (i*ie.size,ie.size)) ⟨z⟩ ps).map .agg|none=>av
 |some z,ae (.struct fields)=>match fields.toList.mapM (λf=>(P.info? f.type).map λi=>(f.offset,i.size)) with|some places=>(ny (places.toArray[·]?) ⟨z⟩ ps).map .agg|none=>av
 |_,_=>av
theorem CA{t:ct}{ps ps':ab (aq×af)}{v:af}(h:DW P t ps=ae v)(hi:ps.map (·.1)=ps'.map (·.1))(hv:VRs μ (ps.map (·.2)) (ps'.map (·.2)))(w:dh):∃v',(Instr.build t ps'.toArray).run P w=.ok v' w/\VR μ v v':=by
 unfold DW at h;split at h
 ·rename_i z n e hz hu;obtain⟨f,z',h1,h2,rfl,h3⟩:=dC hz;cases hie:P.info? e with|none=>simp[hie] at h|some ie=>simp only[hie,aj] at h;obtain⟨r,hr,rfl⟩:=h;obtain⟨r',h4,h5⟩:=uD ps ps' _ _ hi hv (dI h3) r hr;refine⟨.agg r',run_build w t _ r' ?_,by obtain⟨r⟩:=r;obtain⟨r'⟩:=r';exact .agg h5⟩;simp only[Program.built,h1,hu,h2,hie];exact h4
 ·rename_i z fields hz hu;obtain⟨f,z',h1,h2,rfl,h3⟩:=dC hz;cases hp:fields.toList.mapM (λf=>(P.info? f.type).map λi=>(f.offset,i.size)) with|none=>simp[hp] at h|some places=>simp only[hp,aj] at h;obtain⟨r,hr,rfl⟩:=h;obtain⟨r',h4,h5⟩:=uD ps ps' _ _ hi hv (dI h3) r hr;refine⟨.agg r',run_build w t _ r' ?_,by obtain⟨r⟩:=r;obtain⟨r'⟩:=r';exact .agg h5⟩;simp only[Program.built,h1,hu,h2,hp];exact h4
 ·cases h
def v7(P:cq)(s:St)(e:ct):bp (af×St):=match mG P e with
 |some z=>(wX s z e).map λ(i,s')=>(.pointer (ae ⟨i,0,av⟩),s')
 |none=>av
theorem t7(h:R w0 μ s w){c c':ab af}{e:ct}{i:aq}{s':St}(hn:wX s c e=ae (i,s'))(hc:VRs μ c c'):∃μ',μ.le μ'/\R w0 μ' s' (w.alloc (.cells ⟨c'⟩ e))/\VR μ' (.pointer (ae ⟨i,0,av⟩)) (.pointer (ae ⟨w.heap.size,0,av⟩))/\μ' i=ae ⟨w.heap.size,0,c'.length,eJ⟩:=by obtain⟨μ',h1,h2,h3⟩:=HB h hn (cur:=⟨c'⟩) (by simp[hc.length]) (CsR.of_vrs hc);refine⟨μ',h1,h2,?_,by simpa using h3⟩;have:=VR.ptr (o:=0) h3;simpa using this
theorem CC(h:R w0 μ s w){e:ct}{v:af}{s':St}(ha:v7 P s e=ae (v,s'))(old:af):∃v' w' μ',(Instr.alloc e au old).run P w=.ok v' w'/\μ.le μ'/\R w0 μ' s' w'/\VR μ' v v':=by unfold v7 at ha;cases hz:mG P e with|none=>simp[hz] at ha|some z=>simp only[hz,aj,bn] at ha;obtain⟨⟨i,s1⟩,hn,rfl,rfl⟩:=ha;obtain⟨f,z',h1,h2,rfl,h3⟩:=dC hz;obtain⟨μ',k1,k2,k3,_⟩:=t7 h hn (dI h3);refine⟨_,_,μ',?_,k1,k2,k3⟩;simp[Instr.alloc,zeroValue,typeInfo,h1,h2,newVar,newRow]
def KO(s:St)(e:ct)(x:af):bp (af×St):=(wX s x.cells.toList e).map λ(i,s')=>(.pointer (ae ⟨i,0,av⟩),s')
theorem HW(h:R w0 μ s w){e:ct}{x x' v:af}{s':St}(hb:KO s e x=ae (v,s'))(hx:VR μ x x'):∃v' w' μ',(Instr.box e x').run P w=.ok v' w'/\μ.le μ'/\R w0 μ' s' w'/\VR μ' v v':=by unfold KO at hb;simp only[aj,bn] at hb;obtain⟨⟨i,s1⟩,hn,rfl,rfl⟩:=hb;obtain⟨μ',k1,k2,k3,_⟩:=t7 h hn hx.cells;refine⟨_,_,μ',?_,k1,k2,k3⟩;simp[Instr.box,newVar,newRow]
def rep(n:aq)(l:ab af):ab Value:=match n with|0=>[]|n+1=>l++rep n l
theorem lK(n:aq)(l:ab af):(rep n l).length=n*l.length:=by induction n with|zero=>simp[rep]|succ n ih=>simp[rep,ih,qh];omega
theorem MT(n:aq)(l:ab af):∀ j,j<n*l.length->(rep n l)[j]? =l[j % l.length]? :=by
 induction n with
 |zero=>intro j hj;simp at hj
 |succ n ih=>
  intro j hj;simp only[rep];by_cases h:j<l.length
  ·rw[dt h,Nat.mod_eq_of_lt h]
  ·have hl:0<l.length:=by
    rcases jv l.length with e|e
    ·rw[e] at hj;simp at hj
    ·exact e
   rw[eq qO,ih _ (by rw[qh] at hj;omega)];congr 1;rw[Nat.mod_eq_sub_mod (a:=j) qO]
theorem uV(n:aq)(z:df af)(k:aq)(hk:k=z.size):((ti (n*k)).map (λi=>z[i % z.size]!)).toList=rep n z.toList:=by
 subst hk;apply List.ext_getElem?;intro j;by_cases hj:j<n*z.size
 ·rw[MT n z.toList j (by simpa using hj)];have hz:0<z.size:=by
   rcases jv z.size with e|e
   ·rw[e] at hj;simp at hj
   ·exact e
  have hm:j % z.size<z.size:=Nat.mod_lt _ hz;simp only[Array.toList_map,Array.toList_range,List.getElem?_map,List.getElem?_range hj,pr,gq];rw[getElem!_pos z _ hm,fk (by simpa using hm)];simp
 ·rw[ei (by simp;omega),ei (by rw[lK];simp;omega)]
theorem yG{l l':ab af}(h:VRs μ l l')(n:aq):VRs μ (rep n l) (rep n l'):=by induction n with|zero=>exact .nil|succ n ih=>exact h.append ih
def eA(P:cq)(s:St)(t:ct)(len:aq)(ps:ab (aq×af)):bp (af×St):=match P.underlying t with
 |some (.slice e)=>match P.info? e,mG P e with
  |some f,ae z=>bif dg (len*f.size) 16777216&&bx z.length f.size&&em 0 f.size&&em len UNK then
    match ny (λi=>ae (i*f.size,f.size)) ⟨rep len z⟩ ps with
    |some cs=>(wX s cs.toList e).map λ(i,s')=>(.slice (ae ⟨i,0,av⟩) len len,s')
    |none=>av
   else av
  |_,_=>av
 |_=>av
theorem bN{a b:aq}(h:em a b=au):a<b:=gt h
theorem tA(h:R w0 μ s w){t:ct}{len:aq}{ps ps':ab (aq×af)}{v:af}{s':St}(hb:eA P s t len ps=ae (v,s'))(hi:ps.map (·.1)=ps'.map (·.1))(hv:VRs μ (ps.map (·.2)) (ps'.map (·.2))):∃v' w' μ',(mz t len ps'.toArray).run P w=.ok v' w'/\μ.le μ'/\R w0 μ' s' w'/\VR μ' v v':=by
 unfold eA at hb;split at hb
 ·rename_i e hu;split at hb
  ·rename_i f z hf hz;cases hc:(dg (len*f.size) 16777216&&bx z.length f.size&&em 0 f.size&&em len UNK) with
   |false=>rw[hc] at hb;simp at hb
   |true=>
    rw[hc] at hb;simp only[de] at hb;simp only[bu] at hc;obtain⟨⟨⟨c1,c2⟩,c3⟩,c4⟩:=hc;have c1:=bK c1;have c2:=(aI _ _).1 c2;have c3:=bN c3;have c4:=bN c4;obtain⟨f',z',h1,h2,rfl,h3⟩:=dC hz;rw[hf] at h1;cases h1;cases hfl:ny (λi=>ae (i*f.size,f.size)) ⟨rep len z'.cells.toList⟩ ps with
    |none=>rw[hfl] at hb;simp at hb
    |some cs=>
     rw[hfl] at hb;simp only[aj,bn] at hb;obtain⟨⟨i,s1⟩,hn,rfl,rfl⟩:=hb;obtain⟨cs',k1,k2⟩:=uD ps ps' _ _ hi hv (yG (dI h3) len) cs hfl;obtain⟨μ',m1,m2,_,m4⟩:=t7 h hn k2;refine⟨.slice (ae ⟨w.heap.size,0,av⟩) len len,w.alloc (.cells cs' e),μ',?_,m1,m2,?_⟩
     ·have hsz:z'.cells.size=f.size:=by simpa using c2
      have hrep:(ti (len*f.size)).map (λi=>z'.cells[i % z'.cells.size]!)=⟨rep len z'.cells.toList⟩:=by apply jt;rw[uV len z'.cells f.size hsz.symm]
      by_cases h0:len*f.size=0
      ·have hl0:len=0:=by
        rcases Nat.mul_eq_zero.1 h0 with h|h
        ·exact h
        ·omega
       subst hl0;simp only[rep] at k1;have e0:(ti (0*f.size)).map (λi=>(#[]:df af)[i % (#[]:df af).size]!)=⟨[]⟩:=qS;simp only[mz,run_underlying hu,sizeOf,typeInfo,cv,dw,run_program,cj,hf,gt_iff_lt,show ¬(2 ^ 24<0) by omega,if_false,lx,if_true];simp only[lx] at e0;rw[e0];simp only[k1,newRow,cv,dw,run_newObj_alloc,cj]
      ·simp only[mz,run_underlying hu,sizeOf,typeInfo,cv,dw,run_program,cj,hf,gt_iff_lt,show ¬(2 ^ 24<len*f.size) by omega,if_false,h0,zeroValue,h2,hrep];simp only[k1,newRow,cv,dw,run_newObj_alloc,cj]
     ·have:=VR.sliceK (o:=0) (n:=len) m4 c4;simpa using this
  ·cases hb
 ·cases hb
theorem v6{e:ct}{v:af}{s':St}(ha:v7 P s e=ae (v,s')):s.sub s':=by
 unfold v7 at ha;split at ha
 ·simp only[aj,bn] at ha;obtain⟨⟨i,s1⟩,hn,_,rfl⟩:=ha;exact qT hn
 ·cases ha
theorem BT{e:ct}{x v:af}{s':St}(ha:KO s e x=ae (v,s')):s.sub s':=by unfold KO at ha;simp only[aj,bn] at ha;obtain⟨⟨i,s1⟩,hn,_,rfl⟩:=ha;exact qT hn
theorem mL{t:ct}{len:aq}{ps:ab (aq×af)}{v:af}{s':St}(hb:eA P s t len ps=ae (v,s')):s.sub s':=by
 unfold eA at hb;split at hb
 ·split at hb
  ·rename_i f z hf hz;cases hc:(dg (len*f.size) 16777216&&bx z.length f.size&&em 0 f.size&&em len UNK) with
   |false=>rw[hc] at hb;simp at hb
   |true=>
    rw[hc] at hb;simp only[de] at hb;split at hb
    ·simp only[aj,bn] at hb;obtain⟨⟨i,s1⟩,hn,_,rfl⟩:=hb;exact qT hn
    ·cases hb
  ·cases hb
 ·cases hb
end
section
variable{w0:Base}{μ:Mu}{s:St}{w:dh}{P:cq}
def yY:bp af->bp (bp br)
 |none=>ae av|some (.int _ n)=>ae (ae n)|_=>av
inductive VRo(μ:Mu):bp af->bp af->Prop
 |none:VRo μ av av
 |some {v v':af} (h:VR μ v v'):VRo μ (ae v) (ae v')
def sQ:bp aq->bp af->Prop
 |none,v'=>v'=av|some k,v'=>∃kd,v'=ae (.int kd (k:br))
def jU:bp br->cz
 |none=>au|some n=>decide (0<=n)
theorem bI{v v':bp af}{r:bp br}(h:yY v=ae r)(hv:VRo μ v v')(hp:jU r=au):sQ (r.map az) v'/\v'=v:=by cases hv with|none=>simp[yY] at h;subst h;exact⟨rfl,rfl⟩|@some u u' hv=>cases u with|int kd n=>cases hv;simp only[yY,co] at h;subst h;simp only[jU,decide_eq_true_eq] at hp;exact⟨⟨kd,by congr 2;show n=((n.toNat:aq):br);omega⟩,rfl⟩|_=>simp[yY] at h
def wN(len cap:aq)(lo hi mx:bp aq):bp (aq×aq×aq):=match hi,mx with
 |none,ae _=>av|none,av=>bif dg (lo.getD 0) len then ae (lo.getD 0,len,cap) else av
 |some h,av=>bif dg h cap&&dg (lo.getD 0) h then ae (lo.getD 0,h,cap) else av
 |some h,ae m=>bif dg m cap&&dg h m&&dg (lo.getD 0) h then ae (lo.getD 0,h,m) else av
theorem pA{len cap:aq}{lo hi mx:bp aq}{l h m:aq}(hlc:len<=cap)(hb:wN len cap lo hi mx=ae (l,h,m)):l<=h/\h<=m/\m<=cap:=by
 unfold wN at hb;split at hb
 ·cases hb
 ·cases hc:dg (lo.getD 0) len with|false=>rw[hc] at hb;simp at hb|true=>rw[hc] at hb;simp only[de,co,bn] at hb;have:=bK hc;omega
 ·rename_i h';cases hc:(dg h' cap&&dg (lo.getD 0) h') with|false=>rw[hc] at hb;simp at hb|true=>rw[hc] at hb;simp only[de,co,bn] at hb;simp only[bu] at hc;have:=bK hc.1;have:=bK hc.2;omega
 ·rename_i h' m';cases hc:(dg m' cap&&dg h' m'&&dg (lo.getD 0) h') with|false=>rw[hc] at hb;simp at hb|true=>rw[hc] at hb;simp only[de,co,bn] at hb;simp only[bu] at hc;have:=bK hc.1.1;have:=bK hc.1.2;have:=bK hc.2;omega
def wM(len cap:aq)(lo hi mx:bp br):bp (cz×aq×aq×aq):=match hi,mx with|none,ae _=>av|none,av=>ae (jU lo&&dg ((lo.map az).getD 0) len,(lo.map az).getD 0,len,cap)|some h,av=>ae (jU lo&&decide (0<=h)&&(dg h.toNat cap&&dg ((lo.map az).getD 0) h.toNat),(lo.map az).getD 0,h.toNat,cap)|some h,ae m=>ae (jU lo&&decide (0<=h)&&decide (0<=m)&&(dg m.toNat cap&&dg h.toNat m.toNat&&dg ((lo.map az).getD 0) h.toNat),(lo.map az).getD 0,h.toNat,m.toNat)
theorem kK{len cap:aq}{lo hi mx:bp br}{b:cz}{l h m:aq}(hb:wM len cap lo hi mx=ae (b,l,h,m))(ok:b=au):wN len cap (lo.map az) (hi.map az) (mx.map az)=ae (l,h,m)/\jU lo=au/\jU hi=au/\jU mx=true:=by
 unfold wM at hb;split at hb
 ·cases hb
 ·simp only[co,bn] at hb;obtain⟨h1,rfl,rfl,rfl⟩:=hb;rw[ok] at h1;simp only[bu] at h1;have h0:=h1.1;simp[wN,h1.2];exact⟨h0,rfl⟩
 ·simp only[co,bn] at hb;obtain⟨h1,rfl,rfl,rfl⟩:=hb;rw[ok] at h1;simp only[bu] at h1;have h0:=h1.1.1;have h2:=h1.1.2;simp[wN,h1.2.1,h1.2.2];exact⟨h0,h2,rfl⟩
 ·simp only[co,bn] at hb;obtain⟨h1,rfl,rfl,rfl⟩:=hb;rw[ok] at h1;simp only[bu] at h1;obtain⟨⟨⟨a1,a2⟩,a3⟩,⟨a4,a5⟩,a6⟩:=h1;simp[wN,a4,a5,a6];exact⟨a1,a2,a3⟩
theorem iH{isSlice:cz}{len cap:aq}{lo hi mx:bp aq}{lo' hi' mx':bp af}{l h m:aq}(hb:wN len cap lo hi mx=ae (l,h,m))(h1:sQ lo lo')(h2:sQ hi hi')(h3:sQ mx mx')(w:dh):(lp isSlice len cap lo' hi' mx').run P w=.ok (l,h,m) w:=by
 have sb:∀(kd:jl)(k y:aq)(code:BoundsCode),k<=y->(Instr.sliceBound (.int kd (k:br)) y code).run P w=.ok k w:=by intro kd k y code hk;have:=run_sliceBound (P:=P) (w:=w) kd (k:br) y code qO qO;simpa using this
 unfold wN at hb;split at hb
 ·cases hb
 ·simp only[sQ] at h2 h3;subst h2;subst h3;cases hc:dg (lo.getD 0) len with|false=>rw[hc] at hb;simp at hb|true=>rw[hc] at hb;simp only[de,co,bn] at hb;obtain⟨rfl,rfl,rfl⟩:=hb;have hc:=bK hc;cases lo with|none=>simp only[sQ] at h1;subst h1;simp[lp]|some k=>simp only[sQ] at h1;obtain⟨kd,rfl⟩:=h1;simp only[ni] at hc;simp[lp,sb _ _ _ _ hc]
 ·rename_i h';simp only[sQ] at h2 h3;obtain⟨kh,rfl⟩:=h2;subst h3;cases hc:(dg h' cap&&dg (lo.getD 0) h') with|false=>rw[hc] at hb;simp at hb|true=>rw[hc] at hb;simp only[de,co,bn] at hb;obtain⟨rfl,rfl,rfl⟩:=hb;simp only[bu] at hc;have hc1:=bK hc.1;have hc2:=bK hc.2;cases lo with|none=>simp only[sQ] at h1;subst h1;simp[lp,sb _ _ _ _ hc1]|some k=>simp only[sQ] at h1;obtain⟨kd,rfl⟩:=h1;simp only[ni] at hc2;simp[lp,sb _ _ _ _ hc1,sb _ _ _ _ hc2]
 ·rename_i h' m';simp only[sQ] at h2 h3;obtain⟨kh,rfl⟩:=h2;obtain⟨km,rfl⟩:=h3;cases hc:(dg m' cap&&dg h' m'&&dg (lo.getD 0) h') with|false=>rw[hc] at hb;simp at hb|true=>rw[hc] at hb;simp only[de,co,bn] at hb;obtain⟨rfl,rfl,rfl⟩:=hb;simp only[bu] at hc;have hc0:=bK hc.1.1;have hc1:=bK hc.1.2;have hc2:=bK hc.2;cases lo with|none=>simp only[sQ] at h1;subst h1;simp[lp,sb _ _ _ _ hc0,sb _ _ _ _ hc1]|some k=>simp only[sQ] at h1;obtain⟨kd,rfl⟩:=h1;simp only[ni] at hc2;simp[lp,sb _ _ _ _ hc0,sb _ _ _ _ hc1,sb _ _ _ _ hc2]
def vW(P:cq)(t:ct)(x:af)(lo hi mx:bp af)(s:St):bp (af×St):=match yY lo,yY hi,yY mx,P.underlying t with
 |some l,ae h,ae m,ae (.slice e)=>match P.info? e with
  |none=>av
  |some f=>match x with
   |.slice av n c=>bif bx n 0&&bx c 0 then
     match wM 0 0 l h m with
     |some (b,_,_,_)=>(mR b s).map λs'=>(.slice av 0 0,s')
     |none=>av
    else av
   |.slice (ae ⟨i,o,av⟩) n c=>bif em c UNK then
     match wM n c l h m with
     |some (b,l,h,m)=>(mR (dg n c&&b) s).map λs'=>(.slice (ae (if m=l then⟨i,o,av⟩ else⟨i,o+l*f.size,av⟩)) (h-l) (m-l),s')
     |none=>av
    else bif bx (UNK+f.size) c then
     match wM n n l h m,m with
     |some (b,l,h,_),av=>(mR b s).map λs'=>(.slice (ae ⟨i,o+l*f.size,av⟩) (h-l) c,s')
     |some (b,l,h,m),ae _=>(mR (b&&em l m) s).map λs'=>(.slice (ae ⟨i,o+l*f.size,av⟩) (h-l) (m-l),s')
     |_,_=>av
    else av
   |_=>match rC x,m with
    |some es,av=>match wM es.length es.length l h av with
     |some (b,l,h,_)=>(dK (b=au/\(es=[]\/∀ v∈es,v.cells.size=f.size)) s).map λs'=>(frz ((es.drop l).take (h-l)),s')
     |none=>av
    |_,_=>av
 |some l,ae h,ae m,ae (.array n e)=>match x with
  |.pointer (ae ⟨i,o,av⟩)=>match P.info? e,wM n n l h m with
   |some f,ae (b,l,h,m)=>bif em n UNK then(mR b s).map λs'=>(.slice (ae (if m=l then⟨i,o,av⟩ else⟨i,o+l*f.size,av⟩)) (h-l) (m-l),s') else av
   |_,_=>av
  |_=>av
 |some _,ae _,ae _,ae .string=>match x with
  |.string b=>(pF P (kf t (.string b) lo hi mx)).map λv=>(v,s)
  |_=>av
 |_,_,_,_=>av
theorem rW{n c:aq}{lo hi mx:bp aq}{l h m:aq}(hnc:n<=c)(hb:wN n n lo hi mx=ae (l,h,m)):wN n c lo hi mx=ae (l,h,if mx.isSome then m else c):=by
 unfold wN at hb ⊢;split at hb
 ·cases hb
 ·cases hc:dg (lo.getD 0) n with|false=>rw[hc] at hb;simp at hb|true=>rw[hc] at hb;simp at hb;obtain⟨rfl,rfl,rfl⟩:=hb;simp
 ·rename_i h';cases hc:(dg h' n&&dg (lo.getD 0) h') with|false=>rw[hc] at hb;simp at hb|true=>rw[hc] at hb;simp at hb;obtain⟨rfl,rfl,rfl⟩:=hb;simp only[bu] at hc;have:=bK hc.1;have hb1:dg h' c=true:=gv qO;simp[hb1,hc.2]
 ·rename_i h' m';cases hc:(dg m' n&&dg h' m'&&dg (lo.getD 0) h') with|false=>rw[hc] at hb;simp at hb|true=>rw[hc] at hb;simp at hb;obtain⟨rfl,rfl,rfl⟩:=hb;simp only[bu] at hc;have:=bK hc.1.1;have hb1:dg m' c=true:=gv qO;simp[hb1,hc.2,hc.1.2]
theorem VR.slice_inv{a:pv}{n c:aq}{v':af}(h:VR μ (.slice (ae a) n c) v'):(∃i o p,a=⟨i,o,av⟩/\μ i=ae p/\c<UNK/\v'=.slice (ae ⟨p.blk,p.base+o,av⟩) n c)\/(∃i o p z c',a=⟨i,o,av⟩/\c=UNK+z/\μ i=ae p/\n<=c'/\c'<=maxLen/\o+c'*z<=p.room/\v'=.slice (ae ⟨p.blk,p.base+o,av⟩) n c')\/(∃z a',c=UNK+z/\n=0/\v'=.slice a' 0 0):=by cases h with|sliceK hp hc=>exact .inl ⟨_,_,_,rfl,hp,hc,rfl⟩|sliceU hp h1 h2 h3=>exact .inr (.inl ⟨_,_,_,_,_,rfl,rfl,hp,h1,h2,h3,rfl⟩)|sliceE=>exact .inr (.inr ⟨_,_,rfl,rfl,rfl⟩)
theorem wE{v v':bp af}{r:bp br}(h:yY v=ae r)(hv:VRo μ v v'):v'=v:=by cases hv with|none=>rfl|@some u u' hv=>cases u with|int kd n=>cases hv;rfl|_=>simp[yY] at h
theorem cA{es:ab af}{z:aq}(h:∀ x∈es,x.cells.size=z):(aB es).length=es.length*z:=by
 induction es with
 |nil=>simp[aB]
 |cons a es ih=>
  have:=ih λx hx=>h x (by simp[hx]);simp only[aB,te,cg,jy] at this ⊢;rw[this,qh];have:a.cells.toList.length=z:=by simpa using h a qS
  omega
theorem bW(a b:ab af):aB (a++b)=aB a++aB b:=by simp[aB]
theorem D6{es:ab af}{z:aq}(h:∀ x∈es,x.cells.size=z)(n:aq):aB (es.drop n)=(aB es).drop (n*z):=by
 rcases ey es.length n with hn|hn
 ·rw[nv qO,nv]
  ·rfl
  ·rw[cA h];exact gj _ qO
 ·have e:aB es=aB (es.take n)++aB (es.drop n):=by rw[<-bW,gu]
  have hl:(aB (es.take n)).length=n*z:=by rw[cA λx hx=>h x (mr hx),ir,lr hn]
  rw[e,<-hl,List.drop_left]
theorem D5{es:ab af}{z:aq}(h:∀ x∈es,x.cells.size=z)(n:aq):aB (es.take n)=(aB es).take (n*z):=by
 rcases ey es.length n with hn|hn
 ·rw[gc qO,gc];rw[cA h];exact gj _ qO
 ·have e:aB es=aB (es.take n)++aB (es.drop n):=by rw[<-bW,gu]
  have hl:(aB (es.take n)).length=n*z:=by rw[cA λx hx=>h x (mr hx),ir,lr hn]
  rw[e,<-hl,List.take_left]
theorem OV{es:ab af}{x':af}(h:VR μ (frz es) x'){l k z:aq}(hlk:l<=k)(hk:k<=es.length)(hz:es=[]\/∀ v∈es,v.cells.size=z):(∃a c,x'=.slice a es.length c/\es.length<=c/\∀ a',(c-l≠0->a'=a.map λ(a:pv)=>a.add (l*z))->VR μ (frz ((es.drop l).take (k-l))) (.slice a' (k-l) (c-l))):=by
 have hlen:((es.drop l).take (k-l)).length=k-l:=by simp;omega
 cases h with
 |iface ht _=>exact cp ht (by simp[TYM])
 |frz h=>
  cases h with
  |frz0=>rename_i a c;refine⟨a,c,rfl,qS,λa' _=>?_⟩;simp at hk;have e0:k-l=0:=qO;have:((([]:ab af).drop l).take (k-l))=[]:=qS;rw[this,e0];exact .frz .frz0
  |frz h hz' hes hc ho hr=>
   rename_i b o z' c cur e fr;refine⟨_,c,rfl,hc,λa' ha=>?_⟩;rcases jv (k-l) with h0|h0
   ·rw[h0];simp only[List.take_zero];exact .frz .frz0
   ·have hne:es≠[]:=λe=>by subst e;simp at hk;omega
    have hz2:∀ v∈es,v.cells.size=z:=hz.resolve_left hne;obtain⟨v0,hv0⟩:=td es hne;have hzz:z'=z:=(hes v0 hv0).symm.trans (hz2 v0 hv0);subst hzz;rw[ha qO];simp only[pr,bO];have h1:(k-l)*z'+l*z'=k*z':=by rw[<-jz];congr 1;omega
    have h2:k*z'<=es.length*z':=gj _ hk;have hr2:=(hr.drop (l*z')).take ((k-l)*z');rw[<-D6 hes,<-D5 (λx hx=>hes x (rj hx)),qd,qe,jo,lr qO] at hr2;have:=FR.frz (fz:=μ.fz) (es:=(es.drop l).take (k-l)) (o:=o+l*z') (c:=c-l) h hz' (λx hx=>hes x (rj (mr hx))) (by rw[hlen];omega) (by rw[hlen];omega) (by rw[hlen];exact hr2);rw[hlen] at this;exact .frz this
theorem AG{t:ct}{x x' v:af}{lo hi mx lo' hi' mx':bp af}{s':St}(hs:vW P t x lo hi mx s=ae (v,s'))(hx:VR μ x x')(h1:VRo μ lo lo')(h2:VRo μ hi hi')(h3:VRo μ mx mx'):s.like s'/\(SOK s'->∃v',(∀ w,(kf t x' lo' hi' mx').run P w=.ok v' w)/\VR μ v v'):=by
 unfold vW at hs;split at hs
 ·rename_i l h m e hl hh hm hu;cases hf:P.info? e with
  |none=>simp only[hf] at hs;cases hs
  |some f=>
   simp only[hf] at hs;split at hs
   ·rename_i n c;cases hc:(bx n 0&&bx c 0) with
    |false=>rw[hc] at hs;simp at hs
    |true=>
     rw[hc] at hs;simp only[de] at hs;split at hs
     ·rename_i b l2 h2' m2 hr;simp only[aj,bn] at hs;obtain⟨s1,hs1,rfl,rfl⟩:=hs;obtain⟨k1,k2⟩:=bA hs1;refine⟨k1,λok=>?_⟩;obtain⟨hb,p1,p2,p3⟩:=kK hr (k2 ok);cases hx;have hle:=pA (cw 0) hb;have aW:=λw=>iH (P:=P) (isSlice:=au) hb (bI hl h1 p1).1 (bI hh h2 p2).1 (bI hm h3 p3).1 w;refine⟨.slice av 0 0,λw=>?_,.snil⟩;have e1:l2=0:=qO;have e2:h2'=0:=qO;have e3:m2=0:=qO;subst e1;subst e2;subst e3;simp[kf,run_underlying hu,py,aW,sizeOf,typeInfo,hf]
     ·cases hs
   ·rename_i i o n c;cases hck:em c UNK with
    |true=>
     rw[hck] at hs;simp only[de] at hs;split at hs
     ·rename_i b l2 h2' m2 hr;simp only[aj,bn] at hs;obtain⟨s1,hs1,rfl,rfl⟩:=hs;obtain⟨k1,k2⟩:=bA hs1;refine⟨k1,λok=>?_⟩;have k3:=k2 ok;simp only[bu] at k3;have hnc:=bK k3.1;obtain⟨hb,p1,p2,p3⟩:=kK hr k3.2;have hck:=bN hck;have hle:=pA hnc hb;rcases hx.slice_inv with⟨i,o,p,he,hp,_,rfl⟩|⟨_,_,_,z,_,_,hcz,_⟩|⟨z,_,hcz,_⟩
      ·obtain⟨rfl,rfl,_⟩:=ov he;have aW:=λw=>iH (P:=P) (isSlice:=au) hb (bI hl h1 p1).1 (bI hh h2 p2).1 (bI hm h3 p3).1 w;refine⟨.slice (ae (if m2=l2 then⟨p.blk,p.base+o,av⟩ else(⟨p.blk,p.base+o,av⟩:pv).add (l2*f.size))) (h2'-l2) (m2-l2),λw=>?_,?_⟩
       ·simp[kf,run_underlying hu,py,aW,sizeOf,typeInfo,hf];split<;>rfl
       ·by_cases hml:m2=l2
        ·rw[fc hml,fc hml];exact .sliceK hp qO
        ·rw[eh hml,eh hml,bO,ji];exact .sliceK hp qO
      ·exfalso;omega
      ·exfalso;omega
     ·cases hs
    |false=>
     rw[hck] at hs;simp only[ed] at hs;cases hcz:bx (UNK+f.size) c with
     |false=>rw[hcz] at hs;simp at hs
     |true=>
      rw[hcz] at hs;simp only[de] at hs;have hcz:=(aI _ _).1 hcz;split at hs
      ·rename_i b l2 h2' m2 hr;simp only[aj,bn] at hs;obtain⟨s1,hs1,rfl,rfl⟩:=hs;obtain⟨k1,k2⟩:=bA hs1;refine⟨k1,λok=>?_⟩;obtain⟨hb,p1,p2,p3⟩:=kK hr (k2 ok);have hle:=pA (cw n) hb;have key:∀(a':pv)(c':aq),n<=c'->∀ w,(kf t (.slice (ae a') n c') lo' hi' mx').run P w=.ok (.slice (ae (if c'=l2 then a' else a'.add (l2*f.size))) (h2'-l2) (c'-l2)) w:=by intro a' c' hnc w;have aW:=iH (P:=P) (isSlice:=au) (rW hnc hb) (bI hl h1 p1).1 (bI hh h2 p2).1 (bI hm h3 p3).1 w;simp only[ru,sr,jw,if_false] at aW;simp[kf,run_underlying hu,py,aW,sizeOf,typeInfo,hf];split<;>rfl
       rcases hx.slice_inv with⟨_,_,_,_,_,hcc,_⟩|⟨i,o,p,z,c',he,hcz',hp,hn,hm',hr',rfl⟩|⟨z,a',hcz',rfl,rfl⟩
       ·exfalso;omega
       ·obtain⟨rfl,rfl,_⟩:=ov he;obtain rfl:z=f.size:=qO;rw[hcz'];refine⟨_,key _ c' hn,?_⟩;by_cases hcl:c'=l2
        ·rw[fc hcl];have e1:h2'-l2=0:=qO;have e2:c'-l2=0:=qO;rw[e1,e2];exact .sliceE
        ·rw[eh hcl,bO,ji];refine .sliceU hp qO qO ?_;have:(c'-l2)*f.size+l2*f.size<=c'*f.size:=by rw[<-jz];exact gj _ qO
         omega
       ·have e2:h2'-l2=0:=by omega
        cases a' with
        |some a'=>refine⟨_,key _ 0 (cw _),?_⟩;rw[e2,hcz'];simp only[Nat.zero_sub];exact .sliceE
        |none=>
         refine⟨.slice av 0 0,λw=>?_,?_⟩
         ·have aW:=iH (P:=P) (isSlice:=au) (rW (cw 0) hb) (bI hl h1 p1).1 (bI hh h2 p2).1 (bI hm h3 p3).1 w;simp only[ru,sr,jw,if_false] at aW;simp[kf,run_underlying hu,py,aW,sizeOf,typeInfo,hf,e2]
         ·rw[e2,hcz'];exact .sliceE
      ·rename_i b l2 h2' m2 k hr;simp only[aj,bn] at hs;obtain⟨s1,hs1,rfl,rfl⟩:=hs;obtain⟨k1,k2⟩:=bA hs1;refine⟨k1,λok=>?_⟩;have k3:=k2 ok;simp only[bu] at k3;obtain⟨hb,p1,p2,p3⟩:=kK hr k3.1;have hlm:=bN k3.2;have hle:=pA (cw n) hb;have key:∀(a':pv)(c':aq),n<=c'->∀ w,(kf t (.slice (ae a') n c') lo' hi' mx').run P w=.ok (.slice (ae (if m2=l2 then a' else a'.add (l2*f.size))) (h2'-l2) (m2-l2)) w:=by intro a' c' hnc w;have aW:=iH (P:=P) (isSlice:=au) (rW hnc hb) (bI hl h1 p1).1 (bI hh h2 p2).1 (bI hm h3 p3).1 w;simp only[pr,Option.isSome_some,if_true] at aW;simp[kf,run_underlying hu,py,aW,sizeOf,typeInfo,hf];split<;>rfl
       have hml':¬m2=l2:=qO;rcases hx.slice_inv with⟨_,_,_,_,_,hcc,_⟩|⟨i,o,p,z,c',he,hcz',hp,hn,hm',hr',rfl⟩|⟨z,a',hcz',rfl,rfl⟩
       ·exfalso;omega
       ·obtain⟨rfl,rfl,_⟩:=ov he;refine⟨_,key _ _ hn,?_⟩;rw[eh hml',bO,ji];refine .sliceK hp ?_;simp only[maxLen] at hm';simp only[UNK];omega
       ·exfalso;omega
      ·cases hs
   ·split at hs
    ·rename_i es hes;split at hs
     ·rename_i b l2 h2' m2 hr;simp only[aj,bn] at hs;obtain⟨s1,hs1,rfl,rfl⟩:=hs;obtain⟨k1,k2⟩:=aY hs1;refine⟨k1,λok=>?_⟩;obtain⟨k3,k4⟩:=k2 ok;obtain⟨hb,p1,p2,p3⟩:=kK hr k3;rw[iK hes] at hx;have hle:=pA (cw _) hb;obtain⟨a,c,rfl,hc,hcut⟩:=OV hx (l:=l2) (k:=h2') (z:=f.size) qO qO k4;have aW:=λw=>iH (P:=P) (isSlice:=au) (rW hc hb) (bI hl h1 p1).1 (bI hh h2 p2).1 (bI hm h3 rfl).1 w;simp only[ru,sr,jw,if_false] at aW;cases a with|none=>refine⟨_,λw=>?_,hcut av (λ_=>rfl)⟩;simp[kf,run_underlying hu,py,aW,sizeOf,typeInfo,hf]|some a=>refine⟨_,λw=>?_,hcut (ae (if c=l2 then a else a.add (l2*f.size))) (λhne=>by rw[eh qO];rfl)⟩;simp[kf,run_underlying hu,py,aW,sizeOf,typeInfo,hf];split<;>rfl
     ·cases hs
    ·cases hs
 ·rename_i l h m n e hl hh hm hu;split at hs
  ·rename_i i o;split at hs
   ·rename_i f b l2 h2' m2 hf hr;cases hnu:em n UNK with
    |false=>rw[hnu] at hs;simp at hs
    |true=>
     rw[hnu] at hs;simp only[de,aj,bn] at hs;obtain⟨s1,hs1,rfl,rfl⟩:=hs;obtain⟨k1,k2⟩:=bA hs1;refine⟨k1,λok=>?_⟩;obtain⟨hb,p1,p2,p3⟩:=kK hr (k2 ok);have hnu:=bN hnu;have hle:=pA (cw n) hb;cases hx with
     |ptr hp=>
      rename_i p;have aW:=λw=>iH (P:=P) (isSlice:=aa) hb (bI hl h1 p1).1 (bI hh h2 p2).1 (bI hm h3 p3).1 w;refine⟨.slice (ae (if m2=l2 then⟨p.blk,p.base+o,av⟩ else(⟨p.blk,p.base+o,av⟩:pv).add (l2*f.size))) (h2'-l2) (m2-l2),λw=>?_,?_⟩
      ·simp[kf,run_underlying hu,ku,aW,sizeOf,typeInfo,hf]
      ·by_cases hml:m2=l2
       ·rw[fc hml,fc hml];exact .sliceK hp qO
       ·rw[eh hml,eh hml,bO,ji];exact .sliceK hp qO
   ·cases hs
  ·cases hs
 ·rename_i l h m hl hh hm hu;split at hs
  ·rename_i b;simp only[aj,bn] at hs;obtain⟨v1,hs,rfl,rfl⟩:=hs;cases hx;obtain rfl:=wE hl h1;obtain rfl:=wE hh h2;obtain rfl:=wE hm h3;exact⟨s.like_refl,λ_=>⟨_,λw=>(bJ (μ:=μ) hs w).1,(bJ hs default).2⟩⟩
  ·cases hs
 ·cases hs
def G8(s:St):bp (cz×St):=bif s.opn then(match s.pth with
 |x::r=>ae (x,{s with pth:=r})
 |[]=>av) else ae (aa,s)
theorem cZ{x:cz}{s s':St}(h:G8 s=ae (x,s')):s.like s':=by
 unfold G8 at h;cases ho:s.opn with
 |true=>
  rw[ho] at h;simp only[de] at h;split at h
  ·simp only[co,bn] at h;obtain⟨rfl,rfl⟩:=h;exact⟨rfl,rfl,rfl,[],rfl⟩
  ·cases h
 |false=>rw[ho] at h;simp only[ed,co,bn] at h;obtain⟨rfl,rfl⟩:=h;exact s.like_refl
def FN(s:St)(c:ab af)(e:ct):bp (aq×St):=(Tr.set 64 s.h s.next (.row au c e)).map λt=>(s.next,{s with h:=t,next:=s.next+1})
theorem C9(h:R w0 μ s w){c c':ab af}{e:ct}{i:aq}{s':St}(hn:FN s c e=ae (i,s'))(hc:FRs μ.fz c c'):s.sub s'/\∃μ',μ.le μ'/\R w0 μ' s' (w.alloc (.cells ⟨c'⟩ e))/\μ' i=ae ⟨w.heap.size,0,c'.length,eJ⟩:=by unfold FN at hn;simp only[aj,bn] at hn;obtain⟨t,ht,rfl,rfl⟩:=hn;refine⟨⟨[],rfl⟩,_,Mu.put_le (h.fresh _ (cw _)),h.alloc c e ht ⟨c'⟩ (by simp[hc.length]) (λj v hj=>?_),Mu.put_same _ _ _⟩;obtain⟨v',h1,h2⟩:=hc.get j v hj;exact⟨v',by simpa using h1,h2⟩
theorem yH{l l':ab af}{fz:aq->bp Obj}(h:FRs fz l l')(n:aq):FRs fz (rep n l) (rep n l'):=by induction n with|zero=>exact .nil|succ n ih=>exact h.append ih
def iM(P:cq)(s:St)(t:ct)(l c:af):bp (af×St):=match l,c,P.underlying t with
 |.int _ n,.int _ k,ae (.slice e)=>match P.info? e,mG P e with
  |some f,ae z=>bif bx z.length f.size then
    match mR (decide (0<=n)&&decide (n<=k)&&dg (f.bytes*k.toNat) 281474976710656&&dg k.toNat 1000000000) s with
    |some s1=>match G8 s1 with
     |some (au,s2)=>bif z.all (idf 0) then(FN s2 (rep k.toNat z) e).map λ(i,s')=>(.slice (ae ⟨i,0,av⟩) n.toNat (UNK+f.size),s') else av
     |some (aa,s2)=>(wX s2 (rep k.toNat z) e).map λ(i,s')=>(.slice (ae ⟨i,0,av⟩) n.toNat k.toNat,s')
     |none=>av
    |none=>av
   else av
  |_,_=>av
 |_,_,_=>av
theorem tT(h:R w0 μ s w){t:ct}{l c l' c' v:af}{s':St}(hm:iM P s t l c=ae (v,s'))(hl:VR μ l l')(hc:VR μ c c'):s.sub s'/\(SOK s'->∃v' w' μ',(Instr.makeSlice t l' c').run P w=.ok v' w'/\μ.le μ'/\R w0 μ' s' w'/\VR μ' v v'):=by
 unfold iM at hm;split at hm
 ·rename_i kl n kc k e hu;split at hm
  ·rename_i f z hf hz;cases b4:bx z.length f.size with
   |false=>rw[b4] at hm;simp at hm
   |true=>
    rw[b4] at hm;simp only[de] at hm;have b4:=(aI _ _).1 b4;split at hm
    ·rename_i s1 hs1;obtain⟨q1,q2⟩:=bA hs1;obtain⟨f',z',k1,k2,rfl,k3⟩:=dC hz;rw[hf] at k1;cases k1;have hsz:z'.cells.size=f.size:=by simpa using b4
     cases hl;cases hc;have run:SOK s1->∀ w,(Instr.makeSlice t (.int kl n) (.int kc k)).run P w=.ok (.slice (ae ⟨w.heap.size,0,av⟩) n.toNat k.toNat) (w.alloc (.cells ⟨rep k.toNat z'.cells.toList⟩ e))/\k.toNat<=1000000000/\n.toNat<=k.toNat:=λok w=>by
      have hb:=q2 ok;simp only[bu,decide_eq_true_eq] at hb;obtain⟨⟨⟨b0,b1⟩,b2⟩,b3⟩:=hb;have b2:=bK b2;have b3:=bK b3;have aW:=run_make (P:=P) (w:=w) t e f z' hu hf k2 kl kc n k qO qO (by
       have h:((f.bytes*k.toNat:aq):br)<=281474976710656:=qO
       rwa [Int.natCast_mul,Int.toNat_of_nonneg qO] at h) qO
      have:madeCells z'.cells (k.toNat*f.size)=⟨rep k.toNat z'.cells.toList⟩:=by apply jt;rw[<-uV k.toNat z'.cells f.size hsz.symm];rfl
      rw[this] at aW;exact⟨aW,b3,qO⟩
     split at hm
     ·rename_i s2 hs2;have q3:=cZ hs2;cases hidf:z'.cells.toList.all (idf 0) with|false=>rw[hidf] at hm;simp at hm|true=>rw[hidf] at hm;simp only[de,aj,bn] at hm;obtain⟨⟨i,s3⟩,hn,rfl,rfl⟩:=hm;have hfr:FRs μ.fz z'.cells.toList z'.cells.toList:=j2 hidf (dI k3);obtain⟨m0,μ',m1,m2,m4⟩:=C9 ((h.like q1).like q3) hn (yH hfr k.toNat);refine⟨St.sub_trans q1.sub (St.sub_trans q3.sub m0),λok=>?_⟩;obtain⟨r1,r2,r3⟩:=run (SOK.of_sub q3.sub (SOK.of_sub m0 ok)) w;refine⟨_,_,μ',r1,m1,m2,?_⟩;have:=VR.sliceU (o:=0) (n:=n.toNat) (z:=f.size) (c':=k.toNat) m4 r3 (by simp only[maxLen];omega) (by rw[lK];simp[hsz]);simpa using this
     ·rename_i s2 hs2;have q3:=cZ hs2;simp only[aj,bn] at hm;obtain⟨⟨i,s3⟩,hn,rfl,rfl⟩:=hm;obtain⟨μ',m1,m2,_,m4⟩:=t7 ((h.like q1).like q3) hn (yG (dI k3) k.toNat);have m0:=qT hn;refine⟨St.sub_trans q1.sub (St.sub_trans q3.sub m0),λok=>?_⟩;obtain⟨r1,r2,r3⟩:=run (SOK.of_sub q3.sub (SOK.of_sub m0 ok)) w;refine⟨_,_,μ',r1,m1,m2,?_⟩;have:=VR.sliceK (o:=0) (n:=n.toNat) m4 (show k.toNat<UNK by simp only[UNK];omega);simpa using this
     ·cases hm
    ·cases hm
  ·cases hm
 ·cases hm
end
section
variable{w0:Base}{μ:Mu}{s:St}{w:dh}{P:cq}
theorem tR(t ty e:ct)(i:oy)(ht:P.underlying t=ae (.slice e))(hi:P.info? e=ae i)(b a:bp pv)(n c c':aq)(hnc:n<=c)(w:dh):(gm #[t,t] ty #[.slice b n c,.slice a 0 c']).run P w=.ok (.slice b n c) w:=by cases b with|none=>cases a<;>simp[gm,run_underlying ht,sizeOf,typeInfo,hi,Builtin.lenOf,hnc,su,loadCells,loadCellsFrom]|some b=>cases a<;>simp[gm,run_underlying ht,sizeOf,typeInfo,hi,Builtin.lenOf,hnc,su,loadCells,loadCellsFrom,storeCells]
theorem sF(t ty e e':ct)(i:oy)(ht:P.underlying t=ae (.slice e))(hi:P.info? e=ae i)(g o sLen sCap:aq)(cur:df af)(hg:w.heap[g]? =ae (.cells cur e' (0,0)))(a:pv)(m c:aq)(news:ab af)(hl:news.length=m*i.size)(hnews:∀(j:aq)(u:af),news[j]? =ae u->w.cell? (a.add j)=ae u)(h1:∀ u∈news,u.oneCell'=au)(hroom:sLen+m<=sCap)(hfit:o+sLen*i.size+news.length<=cur.size):(gm #[t,t] ty #[.slice (ae ⟨g,o,av⟩) sLen sCap,.slice (ae a) m c]).run P w=.ok (.slice (ae ⟨g,o,av⟩) (sLen+m) sCap) (w.setRow g (cur.toList.take (o+sLen*i.size)++news++cur.toList.drop (o+sLen*i.size+news.length)).toArray):=by have hf:=run_firstCells_some (P:=P) w i.size m a m c news hl hnews;have hst:=run_storeCells_at P g (o+sLen*i.size) e' news 0 cur w hg (by simpa using hfit) h1;simp only[pe] at hst;simp[gm,run_underlying ht,sizeOf,typeInfo,hi,Builtin.lenOf,hroom,hf,bO,hst]
structure AppA(P:cq)(w:dh)(e:ct)(f:oy)(z':af)(m:aq)(news:ab af)(A:af->Sem af):Prop where
 nil:0<m->(m:br)<=9223372036854775807->m*f.bytes<=281474976710656->(A (.slice av 0 0)).run P w=.ok (.slice (ae ⟨w.heap.size,0,av⟩) m (grownCap w m 0 e)) (w.drew.alloc (.cells (news.toArray++fy z'.cells (grownCap w m 0 e-m)) e))
 grow:∀(b:pv)(sLen sCap:aq)(olds:ab af),olds.length=sLen*f.size->(∀ j v,olds[j]? =ae v->w.cell? (b.add j)=ae v)->sCap<sLen+m->((sLen+m:aq):br)<=9223372036854775807->m*f.bytes<=281474976710656->rk (sLen+m) sCap*f.bytes<=281474976710656->(A (.slice (ae b) sLen sCap)).run P w=.ok (.slice (ae ⟨w.heap.size,0,av⟩) (sLen+m) (grownCap w (sLen+m) sCap e)) (w.drew.alloc (.cells (olds.toArray++news.toArray++fy z'.cells (grownCap w (sLen+m) sCap e-(sLen+m))) e))
 place:∀(e':ct)(g o sLen sCap:aq)(cur:df af),w.heap[g]? =ae (.cells cur e' (0,0))->sLen+m<=sCap->o+sLen*f.size+news.length<=cur.size->(A (.slice (ae ⟨g,o,av⟩) sLen sCap)).run P w=.ok (.slice (ae ⟨g,o,av⟩) (sLen+m) sCap) (w.setRow g (cur.toList.take (o+sLen*f.size)++news++cur.toList.drop (o+sLen*f.size+news.length)).toArray)
theorem EN{t ty e:ct}{f:oy}{z':af}(hu:P.underlying t=ae (.slice e))(hf:P.info? e=ae f)(k2:f.zero=ae z'){m:aq}{ay:pv}{cy:aq}{news:ab af}(hnl:news.length=m*f.size)(hnc:∀(j:aq)(u:af),news[j]? =ae u->w.cell? (ay.add j)=ae u)(hone:∀ v∈news,v.oneCell'=au):AppA P w e f z' m news (λx=>gm #[t,t] ty #[x,.slice (ae ay) m cy]):=⟨λh1 h2 h3=>run_append_nil (P:=P) w t ty e f z' hu hf k2 ay m cy news hnl hnc h1 h2 h3,λb sLen sCap olds h1 h2 h3 h4 _ h5=>run_append_grow (P:=P) w t ty e f z' hu hf k2 b sLen sCap olds h1 h2 ay m cy news hnl hnc h3 h4 h5,λe' g o sLen sCap cur h1 h2 h3=>sF (P:=P) (w:=w) t ty e e' f hu hf g o sLen sCap cur h1 ay m cy news hnl hnc hone h2 h3⟩
def IN(s:St)(z:aq)(y:af):bp (cz×ab af×St):=match y with
 |.slice (ae ⟨i,o,av⟩) m _=>match s.h.get i with
  |some (.row aa c _)=>(rdC c o (m*z) s).map λr=>(aa,r.1,r.2)
  |some (.ro c)=>(rdC c o (m*z) s).map λr=>(aa,r.1,r.2)
  |some (.lk aa c)=>(rdC c o (m*z) s).map λr=>(aa,r.1,r.2)
  |some (.row au c _)=>(dK (o+m*z<=c.length) s).map λs'=>(au,(c.drop o).take (m*z),s')
  |some (.lk au c)=>(dK (o+m*z<=c.length) s).map λs'=>(au,(c.drop o).take (m*z),s')
  |some (.srow c _)=>(dK (o+m*z<=c.length/\0<c.length) s).map λs'=>(au,(c.drop o).take (m*z),s')
  |_=>av
 |_=>match rC y with
  |some es=>(dK (∀ v∈es,v.cells.size=z) s).map λs'=>(au,aB es,s')
  |none=>av
def vK(y:af):bp Nat:=match y with|.slice _ m _=>ae m|_=>(rC y).map List.length
def CRs(op:cz)(μ:Mu)(l l':ab af):Prop:=match op with|true=>FRs μ.fz l l'|false=>VRs μ l l'
theorem CRs.vrs{op:cz}{l l':ab af}(h:CRs op μ l l'):VRs μ l l':=by cases op with|true=>exact FRs.vrs h|false=>exact h
theorem CRs.get{op:cz}{l l':ab af}(h:CRs op μ l l'):∀(j:aq)(v:af),l[j]? =ae v->∃v',l'[j]? =ae v'/\CR op μ v v':=by cases op with|true=>exact FRs.get h|false=>exact VRs.get h
theorem CRs.length{op:cz}{l l':ab af}(h:CRs op μ l l'):l.length=l'.length:=h.vrs.length
theorem CRs.append{op:cz}{a a' b b':ab af}(h:CRs op μ a a')(k:CRs op μ b b'):CRs op μ (a++b) (a'++b'):=by cases op with|true=>exact FRs.append h k|false=>exact VRs.append h k
def mF(op op':cz)(l:ab af):Bool:=match op,op' with|false,au=>l.all (idf 0)|_,_=>au
theorem yB{op op':cz}{l l':ab af}(h:mF op op' l=au)(k:CRs op μ l l'):CRs op' μ l l':=by
 cases op<;>cases op'
 ·exact k
 ·exact j2 h k
 ·exact FRs.vrs k
 ·exact k
theorem OW{fz:aq->bp Obj}{l l':ab af}(h:FRs fz l l'):∀ v∈l',v.oneCell'=true:=by induction l generalizing l' with|nil=>cases h;intro v hv;cases hv|cons a l ih=>cases h with|cons h t=>intro v hv;cases hv with|head=>rw[h.oneCell.1];exact h.oneCell.2|tail _ hm=>exact ih t v hm
def JT(op:cz)(l:ab af):Bool:=match op with|true=>au|false=>l.all me
theorem C6{op:cz}{l l':ab af}(h:JT op l=au)(k:CRs op μ l l'):∀ v∈l',v.oneCell'=true:=by cases op with|true=>exact OW k|false=>exact VRs.oneCell k h
theorem uG{op:cz}{c:ab af}{cur:df af}{b o n:aq}(h:CsR op μ c cur b)(hn:o+n<=c.length):((cur.toList.drop (b+o)).take n).length=n/\CRs op μ ((c.drop o).take n) ((cur.toList.drop (b+o)).take n):=by
 obtain⟨h1,h2⟩:=qQ h hn;have hl:((c.drop o).take n).length=n:=by simp;omega
 refine⟨h1,?_⟩;cases op with|true=>exact FRs.of_get qO h2|false=>exact VRs.of_get qO h2
theorem GC(h:R w0 μ s w){z:aq}{y y':af}{op:cz}{news:ab af}{s':St}{m:aq}(hs:IN s z y=ae (op,news,s'))(hl:vK y=ae m)(hy:VR μ y y'):s.like s'/\(SOK s'->m≠0->∃ay cy news',y'=.slice (ae ay) m cy/\CRs op μ news news'/\news'.length=m*z/\∀(j:aq)(u:af),news'[j]? =ae u->w.cell? (ay.add j)=ae u):=by
 have own:∀(i o n c:aq)(op:cz)(cs l:ab af)(s':St),(∃(p:Place)(cur:df af)(e:ct)(fr:aq×aq),μ i=ae p/\w.heap[p.blk]? =ae (.cells cur e fr)/\CsR op μ cs cur p.base)->VR μ (.slice (ae ⟨i,o,av⟩) n c) y'->o+n*z<=cs.length->l=(cs.drop o).take (n*z)->n≠0->∃ay cy news',y'=.slice (ae ay) n cy/\CRs op μ l news'/\news'.length=n*z/\∀(j:aq)(u:af),news'[j]? =ae u->w.cell? (ay.add j)=ae u:=by
  intro i o n c op cs l s' hi hv hn hl hn0;obtain⟨p,cur,e,fr,h1,h2,h3⟩:=hi;obtain⟨h4,h5⟩:=uG h3 hn;rcases hv.slice_inv with⟨i2,o2,p2,he,hp,hc,rfl⟩|⟨i2,o2,p2,z2,c',he,hcz,hp,hn',hm',hr,rfl⟩|⟨z2,a'',hcz,hn0',rfl⟩
  ·obtain⟨rfl,rfl,_⟩:=ov he;rw[hp] at h1;cases h1;exact⟨_,_,_,rfl,by rw[hl];exact h5,h4,fX h2⟩
  ·obtain⟨rfl,rfl,_⟩:=ov he;rw[hp] at h1;cases h1;exact⟨_,_,_,rfl,by rw[hl];exact h5,h4,fX h2⟩
  ·exact cp hn0' hn0
 have closed:∀(i o n c:aq)(cs:ab af),((∃e,s.h.get i=ae (.row aa cs e))\/(aa=aa/\s.h.get i=ae (.ro cs))\/s.h.get i=ae (.lk aa cs))->VR μ (.slice (ae ⟨i,o,av⟩) n c) y'->vK (.slice (ae ⟨i,o,av⟩) n c)=ae m->((rdC cs o (n*z) s).map λr=>(aa,r.1,r.2))=ae (op,news,s')->s.like s'/\(SOK s'->m≠0->∃ay cy news',y'=.slice (ae ay) m cy/\CRs op μ news news'/\news'.length=m*z/\∀(j:aq)(u:af),news'[j]? =ae u->w.cell? (ay.add j)=ae u):=by intro i o n c cs hi hv hl hr;simp only[vK,co] at hl;subst hl;simp only[aj,bn] at hr;obtain⟨⟨l,s1⟩,hr,rfl,rfl,rfl⟩:=hr;obtain⟨k1,k2⟩:=cK (op:=aa) hr;exact⟨k1,λok hm=>own i o n c aa cs _ s1 (yF h hi) hv (k2 ok).1 (k2 ok).2.symm hm⟩
 have open':∀(i o n c:aq)(cs:ab af),((∃e,s.h.get i=ae (.row au cs e))\/(au=aa/\s.h.get i=ae (.ro cs))\/s.h.get i=ae (.lk au cs))->VR μ (.slice (ae ⟨i,o,av⟩) n c) y'->vK (.slice (ae ⟨i,o,av⟩) n c)=ae m->((dK (o+n*z<=cs.length) s).map λs'=>(au,(cs.drop o).take (n*z),s'))=ae (op,news,s')->s.like s'/\(SOK s'->m≠0->∃ay cy news',y'=.slice (ae ay) m cy/\CRs op μ news news'/\news'.length=m*z/\∀(j:aq)(u:af),news'[j]? =ae u->w.cell? (ay.add j)=ae u):=by intro i o n c cs hi hv hl hr;simp only[vK,co] at hl;subst hl;simp only[aj,bn] at hr;obtain⟨s1,hr,rfl,rfl,rfl⟩:=hr;obtain⟨k1,k2⟩:=aY hr;exact⟨k1,λok hm=>own i o n c au cs _ s1 (yF h hi) hv (k2 ok) rfl hm⟩
 unfold IN at hs;split at hs
 ·rename_i i o n c;split at hs
  ·rename_i cs e hg;exact closed i o n c cs (.inl ⟨e,hg⟩) hy hl hs
  ·rename_i cs hg;exact closed i o n c cs (.inr (.inl ⟨rfl,hg⟩)) hy hl hs
  ·rename_i cs hg;exact closed i o n c cs (.inr (.inr hg)) hy hl hs
  ·rename_i cs e hg;exact open' i o n c cs (.inl ⟨e,hg⟩) hy hl hs
  ·rename_i cs hg;exact open' i o n c cs (.inr (.inr hg)) hy hl hs
  ·rename_i cs e hg;simp only[vK,co] at hl;subst hl;simp only[aj,bn] at hs;obtain⟨s1,hr,rfl,rfl,rfl⟩:=hs;obtain⟨k1,k2⟩:=aY hr;refine⟨k1,λok hm=>own i o n c au cs _ s1 ?_ hy (k2 ok).1 rfl hm⟩;obtain⟨p,hp,hl,_⟩:=h.obj i _ hg qS;rcases hl with⟨h1,_⟩|⟨cur,h1,_,_,h4⟩
   ·have:=(k2 ok).2;rw[h1] at this;simp at this
   ·exact⟨p,cur,e,_,hp,h1,h4⟩
  ·cases hs
 ·split at hs
  ·rename_i es hes;simp only[aj,bn] at hs;obtain⟨s1,hr,rfl,rfl,rfl⟩:=hs;obtain⟨k1,k2⟩:=aY hr;refine⟨k1,λok hm=>?_⟩;have hz:=k2 ok;have hye:=iK hes;subst hye;have hml:m=es.length:=by have e:vK (frz es)=ae es.length:=rfl;rw[e] at hl;exact(gf hl).symm
   subst hml;cases hy with|iface ht _=>exact cp ht (by simp[TYM])|frz hy=>cases hy with|frz0=>simp at hm|frz h1 h2 h3 h4 h5 h6=>rename_i b o z' c cur e fr;obtain⟨v0,hv0⟩:=td es (λe=>by subst e;simp at hm);have:z'=z:=(h3 v0 hv0).symm.trans (hz v0 hv0);subst this;exact⟨_,_,_,rfl,h6,by simp;omega,fX (h.fz _ _ h1)⟩
  ·cases hs
def nH(op:cz)(s:St)(c:ab af)(e:ct):bp (aq×St):=(Tr.set 64 s.h s.next (.row op c e)).map λt=>(s.next,{s with h:=t,next:=s.next+1})
theorem jY{op:cz}{c:ab af}{e:ct}{i:aq}{s':St}(hn:nH op s c e=ae (i,s')):s.sub s':=by unfold nH at hn;simp only[aj,bn] at hn;obtain⟨t,ht,rfl,rfl⟩:=hn;exact⟨[],rfl⟩
theorem C8(h:R w0 μ s w){op:cz}{c:ab af}{e:ct}{i:aq}{s':St}(hn:nH op s c e=ae (i,s')){cur:df af}(hc:c.length<=cur.size)(hcs:CsR op μ c cur 0):∃μ',μ.le μ'/\R w0 μ' s' (w.alloc (.cells cur e))/\μ' i=ae ⟨w.heap.size,0,cur.size,eJ⟩:=by unfold nH at hn;simp only[aj,bn] at hn;obtain⟨t,ht,rfl,rfl⟩:=hn;exact⟨_,Mu.put_le (h.fresh _ (cw _)),h.alloc c e ht cur hc hcs,Mu.put_same _ _ _⟩
def NF(op:cz)(c0:ab af)(o nz:aq)(s:St):bp (ab af×St):=match op with
 |true=>bif bx o 0 then(dK (nz=c0.length) s).map λs'=>(c0,s') else av
 |false=>bif dg (o+nz) c0.length then ae ((c0.drop o).take nz,s) else av
theorem sM{op:cz}{c0 l:ab af}{o nz:aq}{s':St}(h:NF op c0 o nz s=ae (l,s')):s.like s'/\(SOK s'->o+nz<=c0.length/\l=(c0.drop o).take nz):=by
 cases op with
 |true=>simp only[NF] at h;cases hb:bx o 0 with|false=>rw[hb] at h;simp at h|true=>rw[hb] at h;simp only[de,aj,bn] at h;obtain⟨s1,h1,rfl,rfl⟩:=h;obtain⟨k1,k2⟩:=aY h1;refine⟨k1,λok=>?_⟩;have:=k2 ok;have:=(aI _ _).1 hb;subst this;exact⟨qO,by rw[lH,gc qO]⟩
 |false=>simp only[NF] at h;cases hb:dg (o+nz) c0.length with|false=>rw[hb] at h;simp at h|true=>rw[hb] at h;simp only[de,co,bn] at h;obtain⟨rfl,rfl⟩:=h;exact⟨s.like_refl,λ_=>⟨bK hb,rfl⟩⟩
def XO:af->cz
 |.pointer (ae _)=>au|_=>aa
def uL(op0 op:cz)(news:ab af):Bool:=bif mF op (op0||op) news||!(news.any XO) then op0||op else op
def qA(s:St)(e:ct)(z i o n m:aq)(op:cz)(news:ab af)(op0:cz)(c0:ab af)(e0:ct):bp (af×St):=bif bx e0 e&&em i s.next then
  match NF op0 c0 o (n*z) s with
  |some (olds,s)=>bif mF op0 (uL op0 op news) olds&&mF op (uL op0 op news) news then
    match Tr.set 64 s.h i .dead with
    |some t=>(nH (uL op0 op news) {s with h:=t} (olds++news) e).map λ(k,s')=>(.slice (ae ⟨k,0,av⟩) (n+m) (UNK+z),s')
    |none=>av
   else av
  |none=>av
 else av
def xQ(s:St)(e:ct)(z:aq)(xa:bp pv)(n c m:aq)(op:cz)(news:ab af):bp (af×St):=match xa with
 |none=>(nH op s news e).map λ(k,s')=>(.slice (ae ⟨k,0,av⟩) m (UNK+z),s')
 |some ⟨i,o,av⟩=>bif em c UNK then
   match vB (dg (n+m) c) s with
   |some (au,s)=>match s.h.get i with
    |some (.row op0 c0 e0)=>bif mF op op0 news then
      match HQ op0 (o+n*z+news.length) c0.length s with
      |some s1=>(Tr.set 64 s.h i (.row op0 (c0.take (o+n*z)++news++c0.drop (o+n*z+news.length)) e0)).map λt=>(.slice xa (n+m) c,{s1 with h:=t})
      |none=>av
     else av
    |_=>av
   |some (aa,s)=>match rd s i o (n*z) with
    |some (olds,s)=>bif mF aa op olds then(nH op s (olds++news) e).map λ(k,s')=>(.slice (ae ⟨k,0,av⟩) (n+m) (UNK+z),s') else av
    |none=>av
   |none=>av
  else bif bx (UNK+z) c then
   match s.h.get i with
   |some (.row op0 c0 e0)=>qA s e z i o n m op news op0 c0 e0|some (.srow c0 e0)=>match Tr.set 64 s.h i (.row au c0 e0) with|some t=>qA {s with h:=t} e z i o n m op news au c0 e0|none=>av
   |_=>av
  else av
 |_=>av
def oQ(P:cq)(s:St)(t:ct)(x y:af):bp (af×St):=match P.underlying t,vK y with
 |some (.slice e),ae m=>match P.info? e,mG P e with
  |some f,ae z=>match vB (bx m 0) s with
   |some (au,s)=>match x with
    |.slice _ n c=>bif em c UNK then(bif dg n c then ae (x,s) else av) else ae (x,s)
    |_=>av
   |some (aa,s)=>match IN s f.size y with
    |none=>av
    |some (op,news,s)=>match x with
     |.slice xa n c=>match mR (dg ((n+m)*f.bytes) 140737488355328&&dg (n+m) 4611686018427387904) s with
      |some s=>bif JT op news&&bx z.length f.size&&em 0 f.size then xQ s e f.size xa n c m op news else av
      |none=>av
     |_=>av
   |none=>av
  |_,_=>av
 |_,_=>av
theorem fO(z:df af)(n:aq):(fy z n).size=n*z.size:=by simp[fy]
theorem j7{op:cz}{olds news olds' news':ab af}(hs:R w0 μ s w)(ho:CRs op μ olds olds')(hn:CRs op μ news news'){e:ct}{k:aq}{s':St}(hnew:nH op s (olds++news) e=ae (k,s'))(rest:df af):∃μ',μ.le μ'/\R w0 μ' s' (w.drew.alloc (.cells (olds'.toArray++news'.toArray++rest) e))/\μ' k=ae ⟨w.heap.size,0,olds'.length+news'.length+rest.size,eJ⟩:=by
 have hv:=ho.append hn;obtain⟨μ',h1,h2,h3⟩:=C8 hs.drew hnew (cur:=olds'.toArray++news'.toArray++rest) (by simp[ho.length,hn.length]) (λj v hj=>by
  obtain⟨v',h4,h5⟩:=hv.get j v hj;refine⟨v',?_,h5⟩;have hlt:j<(olds'++news').length:=by
   rcases ey j (olds'++news').length with h'|h'
   ·exact h'
   ·rw[ei h'] at h4;cases h4
  simp only[fu,List.append_toArray];rw[<-qy,Array.toList_append,dt (by simpa using hlt)];simpa using h4)
 refine⟨μ',h1,h2,?_⟩;rw[h3];simp[ji]
theorem O8{α:Type}{c:cz}{x:bp α}{y:α}(h:(bif c then x else av)=ae y):x=ae y:=by cases c with|true=>exact h|false=>cases h
theorem vZ{e:ct}{z i o n m:aq}{op:cz}{news:ab af}{op0:cz}{c0:ab af}{e0:ct}{v:af}{s':St}(ha:qA s e z i o n m op news op0 c0 e0=ae (v,s')):s.sub s':=by
 unfold qA at ha;cases hb:(bx e0 e&&em i s.next) with
 |false=>rw[hb] at ha;simp at ha
 |true=>
  rw[hb] at ha;simp only[de] at ha;split at ha
  ·rename_i olds s1 hold;cases has:(mF op0 (uL op0 op news) olds&&mF op (uL op0 op news) news) with
   |false=>rw[has] at ha;simp at ha
   |true=>
    rw[has] at ha;simp only[de] at ha;split at ha
    ·rename_i t ht;simp only[aj,bn] at ha;obtain⟨⟨k,s3⟩,hnw,_,rfl⟩:=ha;have q2:s1.sub {s1 with h:=t}:=⟨[],rfl⟩;exact St.sub_trans (sM hold).1.sub (St.sub_trans q2 (jY hnw))
    ·cases ha
  ·cases ha
theorem oO{e:ct}{z:aq}{xa:bp pv}{n c m:aq}{op:cz}{news:ab af}{v:af}{s':St}(ha:xQ s e z xa n c m op news=ae (v,s')):s.sub s':=by
 unfold xQ at ha;split at ha
 ·simp only[aj,bn] at ha;obtain⟨⟨k,s1⟩,hnw,_,rfl⟩:=ha;exact jY hnw
 ·rename_i i o;cases hcu:em c UNK with
  |true=>
   rw[hcu] at ha;simp only[de] at ha;split at ha
   ·rename_i s1 hp;have q1:=(aZ hp).1.sub;split at ha
    ·rename_i op0 c0 e0 hg;cases has:mF op op0 news with
     |false=>rw[has] at ha;simp at ha
     |true=>
      rw[has] at ha;simp only[de] at ha;split at ha
      ·rename_i s2 hf;simp only[aj,bn] at ha;obtain⟨t,_,_,rfl⟩:=ha;exact St.sub_trans q1 (oU hf).1.sub
      ·cases ha
    ·cases ha
   ·rename_i s1 hp;have q1:=(aZ hp).1.sub;split at ha
    ·rename_i olds s2 hr;cases has:mF aa op olds with
     |false=>rw[has] at ha;simp at ha
     |true=>
      rw[has] at ha;simp only[de,aj,bn] at ha;obtain⟨⟨k,s3⟩,hnw,_,rfl⟩:=ha;have q2:s1.sub s2:=by
       unfold rd at hr;split at hr
       ·exact(cK hr).1.sub
       ·exact(cK hr).1.sub
       ·exact(cK hr).1.sub
       ·exact(cK (O8 hr)).1.sub
       ·cases hr
      exact St.sub_trans q1 (St.sub_trans q2 (jY hnw))
    ·cases ha
   ·cases ha
  |false=>
   rw[hcu] at ha;simp only[ed] at ha;cases hcz:bx (UNK+z) c with
   |false=>rw[hcz] at ha;simp at ha
   |true=>
    rw[hcz] at ha;simp only[de] at ha;split at ha
    ·exact vZ ha
    ·split at ha
     ·rename_i t1 _;exact St.sub_trans (b:={s with h:=t1}) ⟨[],rfl⟩ (vZ ha)
     ·cases ha
    ·cases ha
 ·cases ha
theorem mN(h:R w0 μ s w){t e:ct}{f:oy}{z':af}(hu:P.underlying t=ae (.slice e))(hf:P.info? e=ae f)(k2:f.zero=ae z')(b4:z'.cells.size=f.size){m k:aq}{op:cz}{olds news:ab af}{s':St}{news':ab af}{A:af->Sem af}(hol:CRs op μ olds [])(hnv:CRs op μ news news')(hnl:news'.length=m*f.size)(hA:AppA P w e f z' m news' A)(b2:(0+m)*f.bytes<=140737488355328)(b3:0+m<=4611686018427387904)(hm0:m≠0)(hnw:nH op s (olds++news) e=ae (k,s')):∃v' w' μ',(A (.slice av 0 0)).run P w=.ok v' w'/\μ.le μ'/\R w0 μ' s' w'/\VR μ' (.slice (ae ⟨k,0,av⟩) (0+m) (UNK+f.size)) v':=by
 have hzc:∀ k,(fy z'.cells k).size=k*f.size:=λk=>by rw[fO,b4]
 have b2':m*f.bytes<=281474976710656:=by have h2:=b2;rw[fu] at h2;omega
 have aW:=hA.nil qO qO b2';obtain⟨μ',m1,m2,m3⟩:=j7 (op:=op) (olds:=olds) (olds':=[]) h hol hnv hnw (fy z'.cells (grownCap w m 0 e-m));refine⟨_,_,μ',aW,m1,?_,?_⟩
 ·have e1:(([]:ab af).toArray++news'.toArray++fy z'.cells (grownCap w m 0 e-m))=news'.toArray++fy z'.cells (grownCap w m 0 e-m):=by simp
  rw[e1] at m2;exact m2
 ·have h1:=grownCap_ge w m 0 e;have h2:=grownCap_le_maxLen w m 0 e (by simp only[maxLen];omega);have:=VR.sliceU (μ:=μ') (i:=k) (o:=0) (n:=m) (z:=f.size) (c':=grownCap w m 0 e) m3 h1 h2 (by simp only[mj,hnl,hzc,fu];rw[<-jz];exact gj _ qO);simpa using this
theorem kN(h:R w0 μ s w){t e:ct}{f:oy}{z':af}(hu:P.underlying t=ae (.slice e))(hf:P.info? e=ae f)(k2:f.zero=ae z')(b4:z'.cells.size=f.size){m k:aq}{op:cz}{olds news:ab af}{s':St}{news':ab af}{A:af->Sem af}(hol:CRs op μ olds [])(hnv:CRs op μ news news')(hnl:news'.length=m*f.size)(hA:AppA P w e f z' m news' A)(b2:(0+m)*f.bytes<=140737488355328)(b3:0+m<=4611686018427387904)(hm0:m≠0)(hnw:nH op s (olds++news) e=ae (k,s'))(a':pv):∃v' w' μ',(A (.slice (ae a') 0 0)).run P w=.ok v' w'/\μ.le μ'/\R w0 μ' s' w'/\VR μ' (.slice (ae ⟨k,0,av⟩) (0+m) (UNK+f.size)) v':=by
 have hzc:∀ k,(fy z'.cells k).size=k*f.size:=λk=>by rw[fO,b4]
 have aW:=hA.grow a' 0 0 [] qS (λj u hj=>by simp at hj) qO qO (by rw[fu] at b2;omega) (growslice_fits qO b2);obtain⟨μ',m1,m2,m3⟩:=j7 (op:=op) (olds:=olds) (olds':=[]) h hol hnv hnw (fy z'.cells (grownCap w (0+m) 0 e-(0+m)));refine⟨_,_,μ',aW,m1,m2,?_⟩;have h1:=grownCap_ge w (0+m) 0 e;have h2:=grownCap_le_maxLen w (0+m) 0 e (by simp only[maxLen];omega);have:=VR.sliceU (μ:=μ') (i:=k) (o:=0) (n:=0+m) (z:=f.size) (c':=grownCap w (0+m) 0 e) m3 h1 h2 (by simp only[mj,hnl,hzc];simp only[fu];rw[<-jz];exact gj _ qO);simpa using this
theorem Tr.set_any{α:Type}:∀{d:aq}{t t1:Tr α}{n:aq}{x:α},Tr.set d t n x=ae t1->∀ y,∃t2,Tr.set d t n y=ae t2:=by
 intro d;induction d with
 |zero=>intro t t1 n x h;simp[Tr.set] at h
 |succ d ih=>
  intro t t1 n x h y;cases t with
  |lf=>simp only[Tr.set] at h ⊢;cases h0:bx n 0 with|true=>exact⟨_,rfl⟩|false=>rw[h0] at h;simp only[ed] at h ⊢;cases h1:bx ((n-1) % 2) 0 with|true=>rw[h1] at h;simp only[de,aj] at h ⊢;obtain⟨u,hu,rfl⟩:=h;obtain⟨u2,hu2⟩:=ih hu y;exact⟨_,u2,hu2,rfl⟩|false=>rw[h1] at h;simp only[ed,aj] at h ⊢;obtain⟨u,hu,rfl⟩:=h;obtain⟨u2,hu2⟩:=ih hu y;exact⟨_,u2,hu2,rfl⟩
  |nd v l r=>simp only[Tr.set] at h ⊢;cases h0:bx n 0 with|true=>exact⟨_,rfl⟩|false=>rw[h0] at h;simp only[ed] at h ⊢;cases h1:bx ((n-1) % 2) 0 with|true=>rw[h1] at h;simp only[de,aj] at h ⊢;obtain⟨u,hu,rfl⟩:=h;obtain⟨u2,hu2⟩:=ih hu y;exact⟨_,u2,hu2,rfl⟩|false=>rw[h1] at h;simp only[ed,aj] at h ⊢;obtain⟨u,hu,rfl⟩:=h;obtain⟨u2,hu2⟩:=ih hu y;exact⟨_,u2,hu2,rfl⟩
theorem Tr.set_set{α:Type}:∀(d:aq)(t t1:Tr α)(n:aq)(x y:α),Tr.set d t n x=ae t1->Tr.set d t1 n y=Tr.set d t n y:=by
 intro d;induction d with
 |zero=>intro t t1 n x y h;simp[Tr.set] at h
 |succ d ih=>
  intro t t1 n x y h;cases t with
  |lf=>simp only[Tr.set] at h ⊢;cases h0:bx n 0 with|true=>rw[h0] at h;simp only[de,co] at h;subst h;simp[Tr.set,h0]|false=>rw[h0] at h;simp only[ed] at h ⊢;cases h1:bx ((n-1) % 2) 0 with|true=>rw[h1] at h;simp only[de,aj] at h;obtain⟨u,hu,rfl⟩:=h;simp only[Tr.set,h0,h1,de,ed];rw[ih _ _ _ _ y hu]|false=>rw[h1] at h;simp only[ed,aj] at h;obtain⟨u,hu,rfl⟩:=h;simp only[Tr.set,h0,h1,ed];rw[ih _ _ _ _ y hu]
  |nd v l r=>simp only[Tr.set] at h ⊢;cases h0:bx n 0 with|true=>rw[h0] at h;simp only[de,co] at h;subst h;simp[Tr.set,h0]|false=>rw[h0] at h;simp only[ed] at h ⊢;cases h1:bx ((n-1) % 2) 0 with|true=>rw[h1] at h;simp only[de,aj] at h;obtain⟨u,hu,rfl⟩:=h;simp only[Tr.set,h0,h1,de,ed];rw[ih _ _ _ _ y hu]|false=>rw[h1] at h;simp only[ed,aj] at h;obtain⟨u,hu,rfl⟩:=h;simp only[Tr.set,h0,h1,ed];rw[ih _ _ _ _ y hu]
theorem tN(h:R w0 μ s w){t e:ct}{f:oy}{z':af}(hu:P.underlying t=ae (.slice e))(hf:P.info? e=ae f)(k2:f.zero=ae z')(b4:z'.cells.size=f.size)(_b5:0<f.size){i o n c m:aq}{op0:cz}{c0:ab af}{e0:ct}{x':af}{op:cz}{news:ab af}{v:af}{s':St}(hg:s.h.get i=ae (.row op0 c0 e0))(ha:qA s e f.size i o n m op news op0 c0 e0=ae (v,s'))(hx:VR μ (.slice (ae ⟨i,o,av⟩) n c) x')(hcu:¬c<UNK)(hcz:UNK+f.size=c)(hm0:m≠0){news':ab af}{A:af->Sem af}(hnv:CRs op μ news news')(hnl:news'.length=m*f.size)(hA:AppA P w e f z' m news' A)(b2:(n+m)*f.bytes<=140737488355328)(b3:n+m<=4611686018427387904)(ok:SOK s'):∃v' w' μ',(A x').run P w=.ok v' w'/\μ.le μ'/\R w0 μ' s' w'/\VR μ' v v':=by
 have hnl2:news.length=m*f.size:=by rw[hnv.length];exact hnl
 have hmb:m*f.bytes<=281474976710656:=ej (gj _ (by omega:m<=n+m)) qO;have hfit:∀ old,old<n+m->rk (n+m) old*f.bytes<=281474976710656:=λold ho=>growslice_fits ho b2;have hzc:∀ k,(fy z'.cells k).size=k*f.size:=λk=>by rw[fO,b4]
 have hval:∀(μ':Mu)(k:aq)(cap:aq),n+m<=cap->cap<=maxLen->μ' k=ae ⟨w.heap.size,0,(n+m)*f.size+(cap-(n+m))*f.size,eJ⟩->VR μ' (.slice (ae ⟨k,0,av⟩) (n+m) (UNK+f.size)) (.slice (ae ⟨w.heap.size,0,av⟩) (n+m) cap):=by intro μ' k cap h1 h2 h3;have:=VR.sliceU (o:=0) (n:=n+m) (z:=f.size) (c':=cap) h3 h1 h2 (by simp only;rw[<-jz,fu];exact gj _ qO);simpa using this
 unfold qA at ha;cases hb:(bx e0 e&&em i s.next) with
 |false=>rw[hb] at ha;simp at ha
 |true=>
  rw[hb] at ha;simp only[de] at ha;simp only[bu] at hb;obtain⟨d2,d4⟩:=hb;have d2:=(aI _ _).1 d2;have d4:=bN d4;subst d2;split at ha
  ·rename_i olds s1 hold;obtain⟨q1,q2⟩:=sM hold;cases has:(mF op0 (uL op0 op news) olds&&mF op (uL op0 op news) news) with
   |false=>rw[has] at ha;simp at ha
   |true=>
    rw[has] at ha;simp only[de] at ha;simp only[bu] at has;split at ha
    ·rename_i tr htr;simp only[aj,bn] at ha;obtain⟨⟨k,s3⟩,hnw,rfl,rfl⟩:=ha;have ok1:SOK s1:=SOK.of_sub (s':={s1 with h:=tr}) ⟨[],rfl⟩ (SOK.of_sub (jY hnw) ok);obtain⟨d3,rfl⟩:=q2 ok1;have h1:=h.like q1;have hg1:s1.h.get i=ae (.row op0 c0 e0):=by rw[q1.h];exact hg
     obtain⟨p,cur,g1,g2,g3,g4,g5,g6⟩:=h1.row i op0 c0 e0 hg1;obtain⟨q5,q6⟩:=uG g6 d3;have q7:=fX (n:=n*f.size) (o:=p.base+o) g2;have hnv':=yB has.2 hnv;have hol':=yB has.1 q6;have grows:∀(a':pv)(c':aq),c'<n+m->(∀(j:aq)(u:af),((cur.toList.drop (p.base+o)).take (n*f.size))[j]? =ae u->w.cell? (a'.add j)=ae u)->∃v' w' μ',(A (.slice (ae a') n c')).run P w=.ok v' w'/\μ.le μ'/\R w0 μ' s3 w'/\VR μ' (.slice (ae ⟨k,0,av⟩) (n+m) (UNK+f.size)) v':=by intro a' c' hlt hcells;have aW:=hA.grow a' n c' _ q5 hcells hlt qO hmb (hfit c' hlt);obtain⟨μ',m1,m2,m3⟩:=j7 (h1.kill htr) hol' hnv' hnw (fy z'.cells (grownCap w (n+m) c' e0-(n+m)));refine⟨_,_,μ',aW,m1,m2,hval μ' k _ (grownCap_ge _ _ _ _) (grownCap_le_maxLen _ _ _ _ (by simp only[maxLen];omega)) ?_⟩;rw[m3,q5,hnl,hzc,<-jz]
     rcases hx.slice_inv with⟨_,_,_,_,_,hc,_⟩|⟨i2,o2,p2,zz,c',he,hcz2,hp,hn',hm',hr,rfl⟩|⟨zz,a'',hcz2,hn0,rfl⟩
     ·exact cp hc hcu
     ·obtain⟨rfl,rfl,_⟩:=ov he;rw[g1] at hp;cases hp;obtain rfl:zz=f.size:=qO;by_cases hroom:n+m<=c'
      ·have hnn:=hnv.length;have hmul:(n+m)*f.size<=c'*f.size:=gj _ hroom;have hadd:(n+m)*f.size=n*f.size+m*f.size:=jz _ _ _;have aW:=hA.place e0 p.blk (p.base+o) n c' cur g2 hroom qO;unfold nH at hnw;simp only[aj,bn] at hnw;obtain⟨u,hu2,rfl,rfl⟩:=hnw;have hlen:((c0.drop o).take (n*f.size)).length=n*f.size:=by simp;omega
       have hol'':=hol'.get;refine⟨_,_,_,aW,Mu.put_le (h1.fresh _ (cw _)),h1.move (p:=p) (o:=o) (cur':=_) hg1 (by rw[q1.next];omega) htr hu2 g1 g2 ?_ qO (by rw[cg,hlen];omega) ?_ (w0.upd _ _ _ h.below g5 (gF _ _ _)) (lu (gF _ _ _).size.symm) (setRow_heap w p.blk cur _ e0 _ g2) (λg hne=>setRow_other w p.blk g _ hne),?_⟩
       ·have e1:(cur.toList.take (p.base+o+n*f.size)).length=p.base+o+n*f.size:=by rw[ir,gq];omega
        simp only[qg,cg,e1,ko,gq];omega
       ·intro j v hj;have htb:(cur.toList.take (p.base+o+n*f.size)).length=p.base+o+n*f.size:=by rw[ir,gq];omega
        simp only[List.getElem?_toArray];by_cases hjn:j<n*f.size
        ·rw[dt qO] at hj;obtain⟨v',r1,r2⟩:=hol'' j v hj;refine⟨v',?_,r2⟩;rw[iy,fc hjn,ky] at r1;rw[dz,dt qO,iy,fc qO];exact r1
        ·rw[eq qO,hlen] at hj;obtain⟨v',r1,r2⟩:=hnv'.get _ v hj;have hjl:j-n*f.size<news'.length:=by
          rcases ey (j-n*f.size) news'.length with h'|h'
          ·exact h'
          ·rw[ei h'] at r1;cases r1
         refine⟨v',?_,r2⟩;rw[dz,eq qO,dt qO,htb];rw[show p.base+o+j-(p.base+o+n*f.size)=j-n*f.size by omega];exact r1
       ·have:=VR.sliceU (μ:=μ.put s1.next ⟨p.blk,p.base+o,p.room-o,eJ⟩) (i:=s1.next) (o:=0) (n:=n+m) (z:=f.size) (c':=c') (Mu.put_same _ _ _) hroom hm' (by simp only;omega);simpa using this
      ·exact grows _ c' qO q7
     ·have hn00:n=0:=hn0;subst hn00;cases a'' with|some a''=>exact grows a'' 0 qO (λj u hj=>by simp at hj)|none=>exact mN (h1.kill htr) hu hf k2 b4 (by simpa using hol') hnv' hnl hA b2 b3 hm0 (by simpa using hnw)
    ·cases ha
  ·cases ha
theorem wA(h:R w0 μ s w){t e:ct}{f:oy}{z':af}(hu:P.underlying t=ae (.slice e))(hf:P.info? e=ae f)(k2:f.zero=ae z')(b4:z'.cells.size=f.size)(_b5:0<f.size){xa:bp pv}{n c m:aq}{x':af}{op:cz}{news:ab af}{v:af}{s':St}(ha:xQ s e f.size xa n c m op news=ae (v,s'))(hx:VR μ (.slice xa n c) x')(hm0:m≠0){news':ab af}{A:af->Sem af}(hnv:CRs op μ news news')(hnl:news'.length=m*f.size)(hA:AppA P w e f z' m news' A)(b2:(n+m)*f.bytes<=140737488355328)(b3:n+m<=4611686018427387904)(ok:SOK s'):∃v' w' μ',(A x').run P w=.ok v' w'/\μ.le μ'/\R w0 μ' s' w'/\VR μ' v v':=by
 have hnl2:news.length=m*f.size:=by rw[hnv.length];exact hnl
 have hmb:m*f.bytes<=281474976710656:=ej (gj _ (by omega:m<=n+m)) qO;have hfit:∀ old,old<n+m->rk (n+m) old*f.bytes<=281474976710656:=λold ho=>growslice_fits ho b2;have hzc:∀ k,(fy z'.cells k).size=k*f.size:=λk=>by rw[fO,b4]
 have hval:∀(μ':Mu)(k:aq)(cap:aq),n+m<=cap->cap<=maxLen->μ' k=ae ⟨w.heap.size,0,(n+m)*f.size+(cap-(n+m))*f.size,eJ⟩->VR μ' (.slice (ae ⟨k,0,av⟩) (n+m) (UNK+f.size)) (.slice (ae ⟨w.heap.size,0,av⟩) (n+m) cap):=by intro μ' k cap h1 h2 h3;have:=VR.sliceU (o:=0) (n:=n+m) (z:=f.size) (c':=cap) h3 h1 h2 (by simp only;rw[<-jz,fu];exact gj _ qO);simpa using this
 unfold xQ at ha;split at ha
 ·simp only[aj,bn] at ha;obtain⟨⟨k,s1⟩,hnw,rfl,rfl⟩:=ha;cases hx;have b2':m*f.bytes<=281474976710656:=by have h2:=b2;rw[fu] at h2;omega
  have aW:=hA.nil qO qO b2';obtain⟨μ',m1,m2,m3⟩:=j7 (op:=op) (olds:=[]) (olds':=[]) h (by cases op<;>constructor) hnv (by simpa using hnw) (fy z'.cells (grownCap w m 0 e-m));refine⟨_,_,μ',aW,m1,?_,?_⟩
  ·have e1:(([]:ab af).toArray++news'.toArray++fy z'.cells (grownCap w m 0 e-m))=news'.toArray++fy z'.cells (grownCap w m 0 e-m):=by simp
   rw[e1] at m2;exact m2
  ·have h1:=grownCap_ge w m 0 e;have h2:=grownCap_le_maxLen w m 0 e (by simp only[maxLen];omega);have:=hval μ' k (grownCap w m 0 e) (by simpa using h1) h2 (by rw[m3];simp[hnl,hzc]);simpa using this
 ·rename_i i o;cases hcu:em c UNK with
  |true=>
   rw[hcu] at ha;simp only[de] at ha;have hcu:=bN hcu;obtain⟨p,hp,rfl⟩:∃p,μ i=ae p/\x'=.slice (ae ⟨p.blk,p.base+o,av⟩) n c:=by
    rcases hx.slice_inv with⟨i2,o2,p2,he,hp,hc,rfl⟩|⟨_,_,_,z,_,_,hcz,_⟩|⟨z,_,hcz,_⟩
    ·obtain⟨rfl,rfl,_⟩:=ov he;exact⟨p2,hp,rfl⟩
    ·exfalso;omega
    ·exfalso;omega
   split at ha
   ·rename_i s1 hpop;obtain⟨q1,q2⟩:=aZ hpop;have h1:=h.like q1;split at ha
    ·rename_i op0 c0 e0 hg;cases has:mF op op0 news with
     |false=>rw[has] at ha;simp at ha
     |true=>
      rw[has] at ha;simp only[de] at ha;split at ha
      ·rename_i s2 hfb;obtain⟨q3,q4⟩:=oU hfb;simp only[aj,bn] at ha;obtain⟨tr,htr,rfl,rfl⟩:=ha;have ok2:SOK s2:=ok;have hroom:=bK (q2 (SOK.of_sub q3.sub ok2));have hle:=q4 ok2;obtain⟨p',cur,g1,g2,g3,g4,g5,g6⟩:=h1.row i op0 c0 e0 hg;rw[hp] at g1;cases g1;have hnn:=hnv.length;have aW:=hA.place e0 p.blk (p.base+o) n c cur g2 hroom qO;refine⟨_,_,μ,aW,Mu.le_refl _,R.same (s:={s1 with h:=tr}) (h1.write (p:=p) (op':=op0) (cur':=_) hg htr hp g2 ?_ ?_ ?_ (w0.upd _ _ _ h.below g5 (gF _ _ _)) (lu (gF _ _ _).size.symm) (setRow_heap w p.blk cur _ e0 _ g2) (λg hne=>setRow_other w p.blk g _ hne)) rfl q3.next q3.ng,.sliceK hp hcu⟩
       ·have e1:(cur.toList.take (p.base+o+n*f.size)).length=p.base+o+n*f.size:=by rw[ir,gq];omega
        simp only[qg,cg,e1,ko,gq];omega
       ·simp only[cg,ir,ko];omega
       ·have:=ER (b:=p.base) (o:=o+n*f.size) g6 hnn (yB has hnv).get hle qO;rw[ji p.base o];exact this
      ·cases ha
    ·cases ha
   ·rename_i s1 hpop;obtain⟨q1,q2⟩:=aZ hpop;have h1:=h.like q1;split at ha
    ·rename_i olds s2 hold;cases has:mF aa op olds with
     |false=>rw[has] at ha;simp at ha
     |true=>
      rw[has] at ha;simp only[de,aj,bn] at ha;obtain⟨⟨k,s3⟩,hnw,rfl,rfl⟩:=ha;obtain⟨q3,q4⟩:=uW h1 hold;have ok2:SOK s2:=SOK.of_sub (jY hnw) ok;obtain⟨p',cur,e0,fr0,olds',r1,r2,r3,r4,r5,r6⟩:=q4 ok2;rw[hp] at r1;cases r1;have hroom:¬n+m<=c:=λhle=>by have:=q2 (SOK.of_sub q3.sub ok2);rw[gv hle] at this;cases this
      have aW:=hA.grow ⟨p.blk,p.base+o,av⟩ n c olds' r5 (by rw[r3];exact fX r2) qO qO hmb (hfit c qO);obtain⟨μ',m1,m2,m3⟩:=j7 (h1.like q3) (yB (op:=aa) has r6) hnv hnw (fy z'.cells (grownCap w (n+m) c e-(n+m)));refine⟨_,_,μ',aW,m1,m2,hval μ' k _ (grownCap_ge _ _ _ _) (grownCap_le_maxLen _ _ _ _ (by simp only[maxLen];omega)) ?_⟩;rw[m3,r5,hnl,hzc,<-jz]
    ·cases ha
   ·cases ha
  |false=>
   rw[hcu] at ha;simp only[ed] at ha;have hcu:¬c<UNK:=λhlt=>by have:em c UNK=true:=gv hlt;rw[this] at hcu;cases hcu
   cases hcz:bx (UNK+f.size) c with
   |false=>rw[hcz] at ha;simp at ha
   |true=>
    rw[hcz] at ha;simp only[de] at ha;have hcz:=(aI _ _).1 hcz;split at ha
    ·rename_i op0 c0 e0 hg;exact tN h hu hf k2 b4 _b5 hg ha hx hcu hcz hm0 hnv hnl hA b2 b3 ok
    ·rename_i c0 e0 hg;split at ha
     ·rename_i t1 ht1;obtain⟨p,hp,hl,_⟩:=h.obj i _ hg qS;by_cases hr:c0=[]/\p.room=0
      ·obtain⟨hr0,hr1⟩:=hr;subst hr0;unfold qA at ha;cases hb:(bx e0 e&&em i s.next) with
       |false=>rw[hb] at ha;simp at ha
       |true=>
        rw[hb] at ha;simp only[de] at ha;simp only[bu] at hb;obtain⟨d2,d4⟩:=hb;have d2:=(aI _ _).1 d2;subst d2;split at ha
        ·rename_i olds s1 hold;obtain⟨q1,q2⟩:=sM hold;cases has:(mF au (uL au op news) olds&&mF op (uL au op news) news) with
         |false=>rw[has] at ha;simp at ha
         |true=>
          rw[has] at ha;simp only[de] at ha;simp only[bu] at has;split at ha
          ·rename_i tr htr;simp only[aj,bn] at ha;obtain⟨⟨k,s3⟩,hnw,rfl,rfl⟩:=ha;have ok1:SOK s1:=SOK.of_sub (s':={s1 with h:=tr}) ⟨[],rfl⟩ (SOK.of_sub (jY hnw) ok);obtain⟨d3,rfl⟩:=q2 ok1;have hn0:n=0:=by
            rcases jv n with h0|h0
            ·exact h0
            ·have:=Nat.mul_pos h0 _b5;simp at d3;omega
           subst hn0;have e1:s1.h=t1:=q1.h;have htr2:Tr.set 64 s.h i .dead=ae tr:=by rw[<-Tr.set_set 64 s.h t1 i _ _ ht1,<-e1];exact htr
           have hk:=R.same (s':={s1 with h:=tr}) (h.kill htr2) rfl q1.next q1.ng;have hol:CRs (uL au op news) μ (List.take (0*f.size) (List.drop o ([]:ab af))) []:=by
            generalize uL au op news=b;cases b
            ·simp[CRs];exact VRs.nil
            ·simp[CRs];exact FRs.nil
           have hnv':=yB has.2 hnv;rcases hx.slice_inv with⟨_,_,_,_,_,hc,_⟩|⟨i2,o2,p2,zz,c',he,hcz2,hp2,hn',hm',hr2,rfl⟩|⟨zz,a'',hcz2,hn0,rfl⟩
           ·exact cp hc hcu
           ·obtain⟨rfl,rfl,_⟩:=ov he;rw[hp] at hp2;cases hp2;obtain rfl:zz=f.size:=qO;have hc0:c'=0:=by
             rcases jv c' with h0|h0
             ·exact h0
             ·have:=Nat.mul_pos h0 _b5;omega
            subst hc0;exact kN hk hu hf k2 b4 hol hnv' hnl hA b2 b3 hm0 hnw _
           ·cases a'' with|some a''=>exact kN hk hu hf k2 b4 hol hnv' hnl hA b2 b3 hm0 hnw _|none=>exact mN hk hu hf k2 b4 hol hnv' hnl hA b2 b3 hm0 hnw
          ·cases ha
        ·cases ha
      ·have hl:=hl.resolve_left hr;have hR:R w0 μ {s with h:=t1} w:=h.turn hg ht1 hp h.below (cw _) (λg hg=>⟨gi λhn=>hr ⟨gi λhc=>hn (.inl hc),gi λhc=>hn (.inr hc)⟩,hg⟩) (λ_=>hl) (λ_ _ _=>rfl);have hg1:({s with h:=t1}:St).h.get i=ae (.row au c0 e0):=by simp only;rw[Tr.get_set 64 s.h t1 i _ ht1];simp
       exact tN hR hu hf k2 b4 _b5 hg1 ha hx hcu hcz hm0 hnv hnl hA b2 b3 ok
     ·cases ha
    ·cases ha
 ·cases ha
theorem rZ(h:R w0 μ s w){t ty:ct}{x y x' y' v:af}{s':St}(ha:oQ P s t x y=ae (v,s'))(hx:VR μ x x')(hy:VR μ y y'):s.sub s'/\(SOK s'->∃v' w' μ',(gm #[t,t] ty #[x',y']).run P w=.ok v' w'/\μ.le μ'/\R w0 μ' s' w'/\VR μ' v v'):=by
 unfold oQ at ha;split at ha
 case h_2=>cases ha
 rename_i e m hu hlen;split at ha
 case h_2=>cases ha
 rename_i f z hf hz;obtain⟨f',z',k1,k2,rfl,k3⟩:=dC hz;rw[hf] at k1;cases k1;split at ha
 ·rename_i s1 hpop;obtain⟨q1,q2⟩:=aZ hpop;have h1:=h.like q1;split at ha
  ·rename_i xa n c;have fin:∀(b:bp pv)(n c:aq),n<=c->SOK s1->VR μ (.slice xa n c) (.slice b n c)\/True->(gm #[t,t] ty #[.slice b n c,y']).run P w=.ok (.slice b n c) w:=by
    intro b n c hnc ok _;have hm0:=(aI _ _).1 (q2 ok);subst hm0;obtain⟨a',cy,rfl⟩:∃a' cy,y'=.slice a' 0 cy:=by
     cases y with
     |slice ya m' cy=>simp only[vK,co] at hlen;subst hlen;cases hy with|snil=>exact⟨_,_,rfl⟩|sliceK=>exact⟨_,_,rfl⟩|sliceU=>exact⟨_,_,rfl⟩|sliceE=>exact⟨_,_,rfl⟩
     |iface u v=>simp only[vK,aj] at hlen;obtain⟨es,hes,hl⟩:=hlen;have:=jj hl;subst this;rw[iK hes] at hy;cases hy with|iface ht _=>exact cp ht (by simp[TYM])|frz hy=>cases hy with|frz0=>exact⟨_,_,rfl⟩|frz=>exact⟨_,_,rfl⟩
     |_=>simp[vK,rC] at hlen
    exact tR t ty e f hu hf _ _ _ _ _ hnc w
   cases hck:em c UNK with
   |true=>
    rw[hck] at ha;simp only[de] at ha;cases hnc:dg n c with
    |false=>rw[hnc] at ha;simp at ha
    |true=>
     rw[hnc] at ha;simp only[de,co,bn] at ha;obtain⟨rfl,rfl⟩:=ha;refine⟨q1.sub,λok=>?_⟩;have hnc:=bK hnc;have hck:=bN hck;cases xa with
     |none=>cases hx;exact⟨_,w,μ,fin av 0 0 (cw _) ok (.inr trivial),Mu.le_refl _,h1,.snil⟩
     |some ax=>
      rcases hx.slice_inv with⟨i,o,p,he,hp,hc,rfl⟩|⟨_,_,_,z,_,_,hcz,_⟩|⟨z,_,hcz,_⟩
      ·subst he;exact⟨_,w,μ,fin _ _ _ hnc ok (.inr trivial),Mu.le_refl _,h1,.sliceK hp hc⟩
      ·exfalso;omega
      ·exfalso;omega
   |false=>
    rw[hck] at ha;simp only[ed,co,bn] at ha;obtain⟨rfl,rfl⟩:=ha;refine⟨q1.sub,λok=>?_⟩;have hck':¬c<UNK:=λhlt=>by have:em c UNK=true:=gv hlt;rw[this] at hck;cases hck
    cases xa with
    |none=>cases hx;exact cp (by simp only[UNK];omega) hck'
    |some ax=>
     have hx0:=hx;rcases hx.slice_inv with⟨_,_,_,_,_,hc,_⟩|⟨i,o,p,z,c',he,hcz,hp,hn,hm',hr,rfl⟩|⟨z,a'',hcz,hn0,rfl⟩
     ·exact cp hc hck'
     ·exact⟨_,w,μ,fin _ _ _ hn ok (.inr trivial),Mu.le_refl _,h1,hx0⟩
     ·have hn00:n=0:=hn0;subst hn00;exact⟨_,w,μ,fin _ _ _ (cw _) ok (.inr trivial),Mu.le_refl _,h1,hx0⟩
  ·cases ha
 ·rename_i s1 hpop;obtain⟨q1,q2⟩:=aZ hpop;have h1:=h.like q1;split at ha
  ·cases ha
  ·rename_i op news s2 hsrc;obtain⟨q3,q4⟩:=GC h1 hsrc hlen hy;have h2:=h1.like q3;split at ha
   ·rename_i xa n c;split at ha
    ·rename_i s3 hneed;obtain⟨q5,q6⟩:=bA hneed;have h3:=h2.like q5;cases hb:(JT op news&&bx z'.cells.toList.length f.size&&em 0 f.size) with
     |false=>rw[hb] at ha;simp at ha
     |true=>
      rw[hb] at ha;simp only[de] at ha;simp only[bu] at hb;have hsub:=oO ha;refine⟨St.sub_trans q1.sub (St.sub_trans q3.sub (St.sub_trans q5.sub hsub)),λok=>?_⟩;have ok3:=SOK.of_sub hsub ok;have ok2:=SOK.of_sub q5.sub ok3;have ok1:=SOK.of_sub q3.sub ok2;have hm0:m≠0:=λe=>by subst e;have:=q2 ok1;simp at this
      have hbd:=q6 ok3;simp only[bu] at hbd;obtain⟨ay,cy,news',rfl,hnv,hnl,hnc⟩:=q4 ok2 hm0;exact wA (A:=λx=>gm #[t,t] ty #[x,.slice (ae ay) m cy]) h3 hu hf k2 (by simpa using(aI _ _).1 hb.1.2) (bN hb.2) ha hx hm0 hnv hnl (EN hu hf k2 hnl hnc (C6 hb.1.1 hnv)) (bK hbd.1) (bK hbd.2) ok
    ·cases ha
   ·cases ha
 ·cases ha
def zJ(P:cq)(s:St)(t:ct)(x:af):bp Value:=match P.underlying t with
 |some (.slice _)=>match x with
  |.slice _ n _=>ae (.int .i64 n)|.iface t' (.int _ n)=>bif bx t' 1208925819614629174706178 then ae (.int .i64 n) else av
  |_=>(rC x).map λes=>.int .i64 es.length
 |some (.array n _)=>ae (.int .i64 n)|some .string=>match x with|.string b=>ae (.int .i64 b.size)|_=>av
 |some (.map _ _)=>match x with
  |.map av=>ae (.int .i64 0)
  |.map (ae i)=>match s.h.get i with
   |some (.map es _)=>ae (.int .i64 es.length)|_=>av
  |_=>av
 |_=>av
theorem HD(h:R w0 μ s w){t ty:ct}{x x' v:af}(hl:zJ P s t x=ae v)(hx:VR μ x x'):(jm #[t] ty #[x']).run P w=.ok v w/\VR μ v v:=by
 unfold zJ at hl;split at hl
 ·rename_i e hu;split at hl
  ·rename_i a n c;simp only[co] at hl;subst hl;refine⟨?_,.int _ _⟩;cases hx<;>simp[jm,run_underlying hu,goInt]
  ·rename_i t' kd n;cases ht:bx t' 1208925819614629174706178 with|false=>rw[ht] at hl;simp at hl|true=>rw[ht] at hl;simp only[de,co] at hl;subst hl;have:=(aI _ _).1 ht;subst this;refine⟨?_,.int _ _⟩;cases hx with|iface ht _=>exact cp ht (by simp[TYM])|szv=>simp[jm,run_underlying hu,goInt]
  ·simp only[aj] at hl;obtain⟨es,hes,rfl⟩:=hl;refine⟨?_,.int _ _⟩;rw[iK hes] at hx;cases hx with|iface ht _=>exact cp ht (by simp[TYM])|frz hx=>cases hx<;>simp[jm,run_underlying hu,goInt]
 ·rename_i n e hu;simp only[co] at hl;subst hl;refine⟨?_,.int _ _⟩;simp[jm,run_underlying hu,goInt]
 ·rename_i hu;split at hl
  ·simp only[co] at hl;subst hl;refine⟨?_,.int _ _⟩;cases hx;simp[jm,run_underlying hu,goInt]
  ·cases hl
 ·rename_i k e hu;split at hl
  ·simp only[co] at hl;subst hl;refine⟨?_,.int _ _⟩;cases hx;simp[jm,run_underlying hu,goInt]
  ·rename_i i;split at hl
   ·rename_i es k' hg;simp only[co] at hl;subst hl;refine⟨?_,.int _ _⟩;cases hx with
    |map hp=>
     rename_i p;obtain⟨p',es',h1,h2,h3,h4⟩:=h.map i es k' hg;rw[hp] at h1;cases h1;have he:es'.size=es.length:=by rw[h4.1];simp
     have hgo:(getObj p.blk).run P w=.ok (.map es' k') w:=by simp only[getObj,sm,h2]
     simp[jm,run_underlying hu,goInt,hgo,he]
   ·cases hl
  ·cases hl
 ·cases hl
end
section
variable{w0:Base}{μ:Mu}{s:St}{w:dh}{P:cq}
def iD(P:cq)(elem:ct)(ok:cz)(s:St):bp (af×St):=match pF P (zeroValue elem) with|some z=>ae (bif ok then .tuple ⟨[z,.bool aa]⟩ else z,s)|none=>av
def zZ(v:af)(ok:cz):Value:=bif ok then .tuple ⟨[v,.bool au]⟩ else v
theorem eY{elem:ct}{ok:cz}{v:af}{s':St}(hz:iD P elem ok s=ae (v,s')):s'=s:=by
 unfold iD at hz;split at hz
 ·cases hz;rfl
 ·cases hz
theorem gG{w:dh}{b:aq}{O O':Obj}(h:w.heap[b]? =ae O):(w.heap.setIfInBounds b O')[b]? =ae O':=by have:=cM h;simp[this]
theorem jZ{w:dh}{b g:aq}{O':Obj}(h:g≠b):(w.heap.setIfInBounds b O')[g]? =w.heap[g]? :=by simp[Ne.symm h]
theorem yV{w:dh}{b:aq}{O':Obj}:Off b w {w with heap:=w.heap.setIfInBounds b O'}:=⟨rfl,rfl,rfl,qS,λg hg=>jZ hg⟩
end
def kmI(P:cq)(t:ct):Bool:=match P.underlying t with|some (.int _)=>au|_=>aa
def kmB(P:cq)(key:ct):Bool:=match P.underlying key with
 |some (.array n e)=>match P.info? e with
  |some f=>bx n 2&&kmI P e&&bx f.size 1|none=>aa
 |some (.struct fs)=>match fs.toList with|[f,g]=>decide (f.name≠ "_")&&decide (g.name≠ "_")&&kmI P f.type&&kmI P g.type&&bx f.offset 0&&bx g.offset 1&&!P.stoodInHeld key|_=>aa
 |_=>aa
section
variable{w0:Base}{μ:Mu}{s:St}{w:dh}{P:cq}
abbrev kyB(a b:br):Value:=.agg ⟨[.int .i64 a,.int .i64 b]⟩
theorem j1{t:ct}(h:kmI P t=au):∃d,P.underlying t=ae (.int d):=by
 unfold kmI at h;split at h
 ·exact⟨_,by assumption⟩
 ·cases h
theorem vD{t:ct}{d:jl}(h:P.underlying t=ae (.int d))(cs:ab af)(o:aq):j6 P t cs o=cs[o]? :=by simp[j6,h,lU]
theorem DI{key:ct}(h:kmB P key=au)(a b a' b':br):eD P 2 key (kyB a b) (kyB a' b')=ae [(.int .i64 a,.int .i64 a'),(.int .i64 b,.int .i64 b')]:=by
 unfold kmB at h;split at h
 ·rename_i n e hu;split at h
  ·rename_i f hi;simp only[bu,aI] at h;obtain⟨⟨rfl,h2⟩,h3⟩:=h;obtain⟨d,hd⟩:=j1 h2;simp only[eD,hu,hi,h3,List.range',K2,vD hd,lx,Nat.one_mul,fu];simp[hd]
  ·cases h
 ·rename_i fs hu;split at h
  ·rename_i f g hfs;simp only[bu,aI,decide_eq_true_eq,gx] at h;obtain⟨⟨⟨⟨⟨⟨h1,h2⟩,h3⟩,h4⟩,h5⟩,h6⟩,h7⟩:=h;obtain⟨d,hd⟩:=j1 h3;obtain⟨d',hd'⟩:=j1 h4;simp only[eD,hu,h7,ed,hfs,HS,h5,h6,vD hd,vD hd'];simp[hd,hd',h1,h2]
  ·cases h
 ·cases h
theorem HH{key:ct}(h:kmB P key=au)(a b a' b':br)(w:dh):(Op.equal key (kyB a b) (kyB a' b')).run P w=.ok (a==a'&&b==b') w:=by have hv:∀ a b:br,VR ⟨λ_=>av,λ_=>av⟩ (kyB a b) (kyB a b):=λa b=>.agg (.cons (.int _ _) (.cons (.int _ _) .nil));have:=iQ (P:=P) (μ:=⟨λ_=>av,λ_=>av⟩) 2 key _ _ _ _ _ (DI h a b a' b') (hv a b) (hv a' b') 10000 w qO;simpa[Op.equal,Op.maxDepth,fT] using this
theorem TY{t:ct}{d:jl}(h:P.underlying t=ae (.int d))(e:cz)(n:aq)(v:af)(w:dh):(kv e (n+1) t v).run P w=.ok () w:=by simp[kv,run_underlying h]
theorem E9{t:ct}{d:jl}(h:P.underlying t=ae (.int d))(cs:ab af)(o:aq)(v:af)(hv:cs[o]? =ae v)(w:dh):(part t ⟨cs⟩ o).run P w=.ok v w:=by simp[part,jS h,lU,hv]
theorem sS{key:ct}(h:kmB P key=au)(e:cz)(a b:br)(w:dh):(kv e 10000 key (kyB a b)).run P w=.ok () w:=by
 have key2:∀ n,(kv e (n+2) key (kyB a b)).run P w=.ok () w:=λn=>by
  have hck:∀(t:ct)(d:jl),P.underlying t=ae (.int d)->∀ v w,(kv e (n+1) t v).run P w=.ok () w:=λt d h v w=>TY h e n v w;unfold kv;generalize kv e (n+1)=ck at hck;unfold kmB at h;split at h
  ·rename_i k t hu;split at h
   ·rename_i f hi;simp only[bu,aI] at h;obtain⟨⟨rfl,h2⟩,h3⟩:=h;obtain⟨d,hd⟩:=j1 h2;simp only[cv,run_underlying hu,cj];rw[ou];simp[Std.Legacy.Range.size,List.range',sizeOf,typeInfo,hi,h3,E9 hd [.int .i64 a,.int .i64 b] 0 _ rfl,E9 hd [.int .i64 a,.int .i64 b] 1 _ rfl,hck t d hd]
   ·cases h
  ·rename_i fs hu;split at h
   ·rename_i f g hfs;simp only[bu,aI,decide_eq_true_eq,gx] at h;obtain⟨⟨⟨⟨⟨⟨h1,h2⟩,h3⟩,h4⟩,h5⟩,h6⟩,h7⟩:=h;obtain⟨d,hd⟩:=j1 h3;obtain⟨d',hd'⟩:=j1 h4;obtain⟨fs⟩:=fs;simp only at hfs;subst hfs;simp only[cv,run_underlying hu,cj];simp[h1,h2,h5,h6,E9 hd [.int .i64 a,.int .i64 b] 0 _ rfl,E9 hd' [.int .i64 a,.int .i64 b] 1 _ rfl,hck f.type d hd,hck g.type d' hd']
   ·cases h
  ·cases h
 exact key2 9998
theorem HG{key:ct}(h:kmB P key=au):∃kd,P.underlying key=ae kd/\∀ v w,om kd v w=none:=by
 unfold kmB at h;split at h
 ·exact⟨_,by assumption,λv w=>rfl⟩
 ·exact⟨_,by assumption,λv w=>rfl⟩
 ·cases h
theorem GG{key:ct}(h:kmB P key=au)(a b:br):∀(es:ab ez)(i:aq)(w:dh),(∀ e∈es,(jM e.key).isSome=au)->(Instr.findAsking key (kyB a b) es i).run P w=.ok (gV es a b i) w:=by
 intro es;induction es with
 |nil=>intro i w _;rfl
 |cons e es ih=>
  intro i w hk;have h1:=hk e (List.mem_cons_self ..);have e1:∃a' b',e.key=kyB a' b':=by
   unfold jM at h1;split at h1
   ·rename_i x y hx;exact⟨x,y,hx⟩
   ·cases h1
  obtain⟨a',b',e1⟩:=e1;have e2:jM e.key=ae (a',b'):=by rw[e1];rfl
  simp only[Instr.findAsking,cv,e1,HH h,cj,gV];rw[show jM (kyB a' b')=ae (a',b') from rfl];by_cases hc:a=a'/\b=b'
  ·obtain⟨rfl,rfl⟩:=hc;simp
  ·have:(a==a'&&b==b')=false:=by
    simp only[Bool.and_eq_false_iff,beq_eq_false_iff_ne];by_cases ha:a=a'
    ·exact .inr λhb=>hc ⟨ha,hb⟩
    ·exact .inl ha
   simp only[this,jw,if_false];rw[eh (show ¬(ae (a',b')=ae (a,b)) from λh=>hc (by cases h;exact⟨rfl,rfl⟩))];exact ih _ _ λx hx=>hk x (List.mem_cons_of_mem _ hx)
theorem sD{key:ct}(h:kmB P key=au)(a b:br)(es:ab ez)(w:dh)(hk:∀ e∈es,(jM e.key).isSome=au):(po key (kyB a b) es).run P w=.ok (gV es a b 0) w:=by obtain⟨kd,h1,h2⟩:=HG h;unfold po;simp only[cv,run_underlying h1,cj];cases es with|nil=>rfl|cons e es=>simp only[ja,h2];exact GG h a b _ 0 w hk
theorem K0(x y:br)(e:ez):∀(es:ab ez)(i:aq),gV (es++[e]) x y i=match gV es x y i with
  |some r=>ae r
  |none=>if jM e.key=ae (x,y) then ae (i+es.length,e.val) else none:=by
 intro es
 induction es with
 |nil=>intro i;simp[gV]
 |cons a es ih=>
  intro i;simp only[List.cons_append,gV];by_cases h:jM a.key=ae (x,y)
  ·simp[h]
  ·rw[eh h,eh h,ih,jy,show i+1+es.length=i+(es.length+1) by omega]
theorem FT{a b:br}:∀{es:ab ez}{i j:aq}{v:af},gV es a b i=ae (j,v)->i<=j/\∃e,es[j-i]? =ae e/\jM e.key=ae (a,b)/\e.val=v:=by
 intro es;induction es with
 |nil=>intro i j v h;cases h
 |cons e es ih=>
  intro i j v h;simp only[gV] at h;split at h
  ·rename_i hk;cases h;exact⟨cw _,e,qS,hk,rfl⟩
  ·obtain⟨h1,x,h2,h3,h4⟩:=ih h;exact⟨qO,x,by rw[show j-i=(j-(i+1))+1 by omega];simpa using h2,h3,h4⟩
theorem KZ(a b x y:br)(g:ez->ez)(hg:∀ e,jM (g e).key=ae (a,b)):∀(es:ab ez)(i j:aq)(v:af),gV es a b i=ae (j,v)->gV (es.modify (j-i) g) x y i=if x=a/\y=b then(es[j-i]?).map λe=>(j,(g e).val) else gV es x y i:=by
 intro es;induction es with
 |nil=>intro i j v h;cases h
 |cons e es ih=>
  intro i j v h;simp only[gV] at h;split at h
  ·rename_i hk;cases h;simp only[Nat.sub_self,List.modify_zero_cons,gV,hg,List.getElem?_cons_zero,pr];by_cases hc:x=a/\y=b
   ·obtain⟨rfl,rfl⟩:=hc;simp
   ·rw[eh hc,eh (show ¬(ae (a,b)=ae (x,y)) from λh=>hc (by cases h;exact⟨rfl,rfl⟩)),eh (show ¬(jM e.key=ae (x,y)) from λh=>hc (by rw[hk] at h;cases h;exact⟨rfl,rfl⟩))]
  ·rename_i hk;have h1:=(FT h).1;have:=ih (i+1) j v h;rw[show j-i=(j-(i+1))+1 by omega];simp only[List.modify_succ_cons,gV,List.getElem?_cons_succ];by_cases hc:x=a/\y=b
   ·obtain⟨rfl,rfl⟩:=hc;rw[eh hk,this];simp
   ·rw[this,eh hc,eh hc]
def iT(f:br->br->bp af)(a b:br)(v:af):br->br->bp Value:=λx y=>bif x==a&&y==b then ae v else f x y
def N1:af->bp (br×br):=jM
theorem t8{k:af}{a b:br}(h:N1 k=ae (a,b)):k=kyB a b:=by
 unfold N1 jM at h;split at h
 ·cases h;rfl
 ·cases h
def rL(P:cq)(s:St)(key elem:ct)(x k:af)(ok:cz):bp (af×St):=bif kmB P key then match N1 k with
  |some (a,b)=>match x with
   |.map av=>iD P elem ok s
   |.map (ae i)=>match s.h.get i with
    |some (.fmap f)=>bif s.opn then(match vB (f a b).isSome s with
      |some (au,s1)=>match sJ s1 with
       |some ([v],s2)=>(dK (f a b=ae v) s2).map λs3=>(zZ v ok,s3)
       |_=>av
      |some (aa,s1)=>iD P elem ok s1
      |none=>av)
     else match f a b with|some v=>ae (zZ v ok,s)|none=>iD P elem ok s
    |some (.map [] _)=>iD P elem ok s
    |_=>av
   |_=>av
  |none=>av
 else av
def FL(P:cq)(s:St)(key:ct)(m k v:af):bp St:=bif kmB P key&&idf 0 v then match N1 k,m with
  |some (a,b),.map (ae i)=>match s.h.get i with
   |some (.fmap f)=>(Tr.set 64 s.h i (.fmap (iT f a b v))).map λh=>{s with h:=h}
   |_=>av
  |_,_=>av
 else av
theorem R.fmap(h:R w0 μ s w)(i:aq)(f:br->br->bp af)(hi:s.h.get i=ae (.fmap f)):∃p es' k,μ i=ae p/\w.heap[p.blk]? =ae (.map es' k)/\w0.wr p.blk/\FmR μ f es'.toList k:=by obtain⟨p,h1,⟨es',k,h2,h3⟩,h4⟩:=h.obj i _ hi qS;exact⟨p,es',k,h1,h2,h4 _ rfl,h3⟩
theorem xJ{t key elem:ct}{ok:cz}(hu:P.underlying t=ae (.map key elem))(hkb:kmB P key=au)(a b:br){x':af}{es':ab ez}(hcase:(x'=.map av/\es'=[])\/∃r q c,x'=.map (ae r)/\w.heap[r]? =ae (.map q c)/\q.toList=es')(hk:∀ e∈es',(jM e.key).isSome=au):∀(w1:dh),(∀ r,x'=.map (ae r)->w1.heap[r]? =w.heap[r]?)->(jn t x' (kyB a b) ok).run P w1=((do
       let(v,b) <-match gV es' a b 0 with|some (_,v)=>pure (v,au)|none=>pure (<-zeroValue elem,aa)
       pure (if ok then .tuple #[v,.bool b] else v):Sem af).run P w1):=by
 intro w1 hw1
 rcases hcase with⟨rfl,rfl⟩|⟨r,q,c,rfl,hb,rfl⟩
 ·have hf:=sD hkb a b [] w1 (λe h=>by cases h);simp only[jn,cv,run_underlying hu,cj,dw,sS hkb,show(#[]:df ez).toList=[] from rfl,hf];rfl
 ·have hb1:=(hw1 r rfl).trans hb;simp only[jn,cv,run_underlying hu,cj,dw,getObj,sm,hb1,sS hkb,sD hkb a b q.toList w1 hk];cases gV q.toList a b 0<;>rfl
theorem BB{t key elem:ct}{ok:cz}(hu:P.underlying t=ae (.map key elem))(hkb:kmB P key=au){a b:br}{x':af}{es':ab ez}(hcase:(x'=.map av/\es'=[])\/∃r q c,x'=.map (ae r)/\w.heap[r]? =ae (.map q c)/\q.toList=es')(hk:∀ e∈es',(jM e.key).isSome=au){j:aq}{v v':af}(hf:gV es' a b 0=ae (j,v'))(hv:VR μ v v'):∃u,(∀ w1:dh,(∀ r,x'=.map (ae r)->w1.heap[r]? =w.heap[r]?)->(jn t x' (kyB a b) ok).run P w1=.ok u w1)/\VR μ (zZ v ok) u:=by have aW:=xJ (ok:=ok) hu hkb a b hcase hk;rw[hf] at aW;cases ok with|true=>exact⟨.tuple #[v',.bool au],λw1 hw1=>by rw[aW w1 hw1];rfl,.tuple (.cons hv (.cons (.bool _) .nil))⟩|false=>exact⟨v',λw1 hw1=>by rw[aW w1 hw1];rfl,hv⟩
theorem oJ{t key elem:ct}{ok:cz}(hu:P.underlying t=ae (.map key elem))(hkb:kmB P key=au){a b:br}{x':af}{es':ab ez}(hcase:(x'=.map av/\es'=[])\/∃r q c,x'=.map (ae r)/\w.heap[r]? =ae (.map q c)/\q.toList=es')(hk:∀ e∈es',(jM e.key).isSome=au)(hf:gV es' a b 0=av){v:af}{s':St}(hz:iD P elem ok s=ae (v,s')):s'=s/\∃u,(∀ w1:dh,(∀ r,x'=.map (ae r)->w1.heap[r]? =w.heap[r]?)->(jn t x' (kyB a b) ok).run P w1=.ok u w1)/\VR μ v u:=by
 have aW:=xJ (ok:=ok) hu hkb a b hcase hk;rw[hf] at aW;unfold iD at hz;split at hz
 ·rename_i z hz0;cases hz;have k2:=(bJ (μ:=μ) hz0 w).2;refine⟨rfl,?_⟩;cases ok with|true=>exact⟨.tuple #[z,.bool aa],λw1 hw1=>by rw[aW w1 hw1];simp only[cv,(bJ (μ:=μ) hz0 w1).1,cj,dw,if_true],.tuple (.cons k2 (.cons (.bool _) .nil))⟩|false=>exact⟨z,λw1 hw1=>by rw[aW w1 hw1];simp only[cv,(bJ (μ:=μ) hz0 w1).1,cj,dw,jw,if_false],k2⟩
 ·cases hz
theorem BA(h:R w0 μ s w){t key elem:ct}(hu:P.underlying t=ae (.map key elem)){x k x' k' v:af}{ok:cz}{s':St}(hl:rL P s key elem x k ok=ae (v,s'))(hx:VR μ x x')(hk:VR μ k k'):s.like s'/\(SOK s'->∃v',(∀ w1:dh,(∀ r,x'=.map (ae r)->w1.heap[r]? =w.heap[r]?)->(jn t x' k' ok).run P w1=.ok v' w1)/\VR μ v v'):=by
 unfold rL at hl;cases hkb:kmB P key with
 |false=>rw[hkb] at hl;cases hl
 |true=>
  rw[hkb] at hl;simp only[de] at hl;split at hl
  ·rename_i a b hky;obtain rfl:=t8 hky;have hk2:k'=kyB a b:=by cases hk with|agg h=>cases h with|cons h1 h2=>cases h1;cases h2 with|cons h1 h2=>cases h1;cases h2;rfl
   subst hk2;split at hl
   ·cases hx;obtain rfl:=eY hl;exact⟨St.like_refl _,λ_=>(oJ (w:=w) hu hkb (.inl ⟨rfl,rfl⟩) (λe h=>by cases h) rfl hl).2⟩
   ·rename_i i;split at hl
    ·rename_i f hg;cases hx with
     |map hp=>
      rename_i p;obtain⟨p',es',c,h1,h2,h3,h4⟩:=h.fmap _ _ hg;rw[hp] at h1;cases h1;have hcase:(jb (ae p.blk)=.map av/\es'.toList=[])\/∃r q c,jb (ae p.blk)=.map (ae r)/\w.heap[r]? =ae (.map q c)/\q.toList=es'.toList:=.inr ⟨p.blk,es',c,rfl,h2,rfl⟩;have hK:∀ e∈es'.toList,(jM e.key).isSome=true:=λe he=>(h4.1 e he).1;have some':∀ v0,f a b=ae v0->∃v',(∀ w1:dh,(∀ r,jb (ae p.blk)=.map (ae r)->w1.heap[r]? =w.heap[r]?)->(jn t (.map (ae p.blk)) (kyB a b) ok).run P w1=.ok v' w1)/\VR μ (zZ v0 ok) v':=λv0 hv0=>by have:=h4.2 a b;rw[hv0] at this;obtain⟨j,v',g1,g2⟩:=this;exact BB hu hkb hcase hK g1 g2.vr
      have none':f a b=av->gV es'.toList a b 0=none:=λhv0=>by have:=h4.2 a b;rw[hv0] at this;exact this
      cases hop:s.opn with
      |true=>
       rw[hop] at hl;simp only[de] at hl;split at hl
       ·rename_i s1 hpop;obtain⟨q1,q2⟩:=aZ hpop;split at hl
        ·rename_i v0 s2 hpo;simp only[aj,bn] at hl;obtain⟨s3,hn,rfl,rfl⟩:=hl;obtain⟨q3,q4⟩:=aY hn;exact⟨q1.trans ((cE hpo).trans q3),λok'=>some' _ (q4 ok')⟩
        ·cases hl
       ·rename_i s1 hpop;obtain⟨q1,q2⟩:=aZ hpop;obtain rfl:=eY hl;refine⟨q1,λok'=>(oJ hu hkb hcase hK (none' ?_) hl).2⟩;have:=q2 ok';simpa using this
       ·cases hl
      |false=>
       rw[hop] at hl;simp only[ed] at hl;split at hl
       ·rename_i v0 hv0;cases hl;exact⟨s.like_refl,λ_=>some' _ hv0⟩
       ·rename_i hv0;obtain rfl:=eY hl;exact⟨St.like_refl _,λ_=>(oJ hu hkb hcase hK (none' hv0) hl).2⟩
    ·rename_i kk hg;cases hx with|map hp=>obtain⟨p',es',h1,h2,_,h4⟩:=h.map _ _ _ hg;rw[hp] at h1;cases h1;have he:es'.toList=[]:=jj h4.1.symm;obtain rfl:=eY hl;exact⟨St.like_refl _,λ_=>(oJ (es':=[]) hu hkb (.inr ⟨_,es',kk,rfl,h2,he⟩) (λe h=>by cases h) rfl hl).2⟩
    ·cases hl
   ·cases hl
  ·cases hl
theorem OY{f:br->br->bp af}{es':df ez}{c:aq}(h:FmR μ f es'.toList c)(a b:br){v v':af}(hv:FR μ.fz v v'):∃es2 c2,(∀(t key elem:ct)(blk:aq)(w:dh),P.underlying t=ae (.map key elem)->kmB P key=au->w.heap[blk]? =ae (.map es' c)->(kw t (.map (ae blk)) (kyB a b) v').run P w=.ok () {w with heap:=w.heap.setIfInBounds blk (.map es2 c2)})/\FmR μ (iT f a b v) es2.toList c2:=by
 have hK:∀ e∈es'.toList,(jM e.key).isSome=true:=λe he=>(h.1 e he).1;have run1:∀(t key elem:ct)(blk:aq)(w:dh),P.underlying t=ae (.map key elem)->kmB P key=au->w.heap[blk]? =ae (.map es' c)->(kw t (.map (ae blk)) (kyB a b) v').run P w=((match gV es'.toList a b 0 with
   |some (i,_)=>do
    let key <-oe (((es'[i]?).map (·.key)).getD (kyB a b)) (kyB a b)
    setObj blk (.map (es'.modify i λe=>{e with key,val:=v'}) c)
   |none=>setObj blk (.map (es'.push {key:=kyB a b,val:=v',born:=c}) (c+1)):Sem Unit)).run P w:=λt key elem blk w hu hkb hb=>by
  simp only[kw,cv,run_underlying hu,cj,getObj,sm,hb,dw,sS hkb,sD hkb a b es'.toList w hK]
  cases gV es'.toList a b 0<;>rfl
 have upd:∀ x y,iT f a b v x y=if x=a/\y=b then ae v else f x y:=λx y=>by
  unfold iT;by_cases hc:x=a/\y=b
  ·obtain⟨rfl,rfl⟩:=hc;simp
  ·rw[eh hc];have:(x==a&&y==b)=false:=by
    simp only[Bool.and_eq_false_iff,beq_eq_false_iff_ne];by_cases ha:x=a
    ·exact .inr λhb=>hc ⟨ha,hb⟩
    ·exact .inl ha
   rw[this];rfl
 cases hf:gV es'.toList a b 0 with
 |none=>
  refine⟨es'.push {key:=kyB a b,val:=v',born:=c},c+1,λt key elem blk w hu hkb hb=>?_,λe he=>?_,λx y=>?_⟩
  ·rw[run1 t key elem blk w hu hkb hb,hf];simp only[setObj,sm,hb]
  ·rw[tj] at he;rcases List.mem_append.1 he with he|he
   ·exact⟨(h.1 e he).1,Nat.lt_succ_of_lt (h.1 e he).2⟩
   ·rw[List.mem_singleton] at he;subst he;exact⟨rfl,Nat.lt_succ_self _⟩
  ·rw[upd,tj,K0];have hxy:=h.2 x y;by_cases hc:x=a/\y=b
   ·obtain⟨rfl,rfl⟩:=hc;rw[fc ⟨rfl,rfl⟩,hf];exact⟨0+es'.toList.length,v',fc rfl,hv⟩
   ·rw[eh hc,eh (show ¬(jM {key:=kyB a b,val:=v',born:=c:ez}.key=ae (x,y)) from λh=>hc (by cases h;exact⟨rfl,rfl⟩))];cases hfx:f x y with|none=>rw[hfx] at hxy;simp only[hxy]|some u=>rw[hfx] at hxy;obtain⟨j,u',g1,g2⟩:=hxy;exact⟨j,u',by rw[g1],g2⟩
 |some r=>
  obtain⟨j,u⟩:=r;obtain⟨_,e0,g1,g2,g3⟩:=FT hf;rw[ur] at g1;have g1':es'[j]? =ae e0:=by simpa using g1
  have hke:e0.key=kyB a b:=t8 g2;have hm:∀ g:ez->ez,(es'.modify j g).toList=es'.toList.modify j g:=λg=>qS;refine⟨es'.modify j λe=>{e with key:=kyB a b,val:=v'},c,λt key elem blk w hu hkb hb=>?_,λe he=>?_,λx y=>?_⟩
  ·rw[run1 t key elem blk w hu hkb hb,hf];have h4:(oe (((es'[j]?).map (·.key)).getD (kyB a b)) (kyB a b)).run P w=.ok (kyB a b) w:=by rw[g1'];simp[oe,hke,Instr.sameBits]
   simp only[cv,h4,cj,setObj,sm,hb]
  ·rw[hm] at he;obtain⟨i,hi⟩:=List.mem_iff_getElem?.1 he;rw[List.getElem?_modify] at hi;by_cases hij:j=i
   ·subst hij;rw[g1] at hi;simp only[if_true] at hi;cases hi;exact⟨rfl,(h.1 e0 (ge g1)).2⟩
   ·simp only[eh hij] at hi;rw[show(Functor.map (λa=>a) es'.toList[i]?)=es'.toList[i]? by cases es'.toList[i]?<;>rfl] at hi;exact h.1 e (ge hi)
  ·have:=KZ a b x y (λe=>{e with key:=kyB a b,val:=v'}) (λe=>rfl) _ _ _ _ hf;rw[ur] at this;rw[upd,hm,this];have hxy:=h.2 x y;by_cases hc:x=a/\y=b
   ·rw[fc hc,fc hc,g1];exact⟨j,v',rfl,hv⟩
   ·rw[eh hc,eh hc];exact hxy
theorem BO(h:R w0 μ s w){t key elem:ct}(hu:P.underlying t=ae (.map key elem)){m k v m' k' v':af}{s':St}(hs:FL P s key m k v=ae s')(hm:VR μ m m')(hk:VR μ k k')(hv:VR μ v v'):s.sub s'/\∃w',(kw t m' k' v').run P w=.ok () w'/\R w0 μ s' w':=by
 unfold FL at hs;cases hkb:(kmB P key&&idf 0 v) with
 |false=>rw[hkb] at hs;cases hs
 |true=>
  rw[hkb] at hs;simp only[de] at hs;simp only[bu] at hkb;split at hs
  ·rename_i a b i hky;obtain rfl:=t8 hky;have hk2:k'=kyB a b:=by cases hk with|agg h=>cases h with|cons h1 h2=>cases h1;cases h2 with|cons h1 h2=>cases h1;cases h2;rfl
   subst hk2;split at hs
   ·rename_i f hg;simp only[aj] at hs;obtain⟨tr,htr,rfl⟩:=hs;refine⟨⟨[],rfl⟩,?_⟩;cases hm with|map hp=>rename_i p;obtain⟨p',es',c,h1,h2,h3,h4⟩:=h.fmap _ _ hg;rw[hp] at h1;cases h1;obtain⟨es2,c2,q1,q2⟩:=OY (P:=P) h4 a b (zC hkb.2 hv);exact⟨_,q1 t key elem p.blk w hu hkb.1 h2,h.turn hg htr hp (w0.upd _ _ _ h.below h3 yV) qS (λg hg=>hg) (λ_=>⟨es2,c2,gG h2,q2⟩) (λg hg' _=>jZ hg')⟩
   ·cases hs
  ·cases hs
end
def qW(k:jl)(n:br):ab ez->aq->St->bp (bp (aq×af)×St)
 |[],_,s=>ae (av,s)
 |e::es,i,s=>match e.key with
  |.int k' m=>bif decide (k=k') then
    match vB (decide (n=m)) s with|some (au,s')=>ae (ae (i,e.val),s')|some (aa,s')=>qW k n es (i+1) s'|none=>av
   else av
  |_=>av
section
variable{w0:Base}{μ:Mu}{s:St}{w:dh}{P:cq}
theorem EsR.tail{e e':ez}{es es':ab ez}(h:EsR μ (e::es) (e'::es')):EsR μ es es':=⟨by simpa using h.1,λj x hj=>h.2 (j+1) x (by simpa using hj)⟩
theorem dQ{k:jl}{n:br}:∀(es:ab ez)(i:aq)(r:bp (aq×af))(s s':St),qW k n es i s=ae (r,s')->s.like s':=by
 intro es;induction es with
 |nil=>intro i r s s' h;cases h;exact s.like_refl
 |cons e es ih=>
  intro i r s s' h;simp only[qW] at h;split at h
  ·rename_i k' m hk;cases hc:decide (k=k') with
   |false=>rw[hc] at h;simp at h
   |true=>
    rw[hc] at h;simp only[de] at h;split at h
    ·rename_i s1 hp;cases h;exact(aZ hp).1
    ·rename_i s1 hp;exact(aZ hp).1.trans (ih _ _ _ _ h)
    ·cases h
  ·cases h
theorem iY{k:jl}{n:br}{d:jl}:∀(es es':ab ez)(i:aq)(r:bp (aq×af))(s s':St),EsR μ es es'->qW k n es i s=ae (r,s')->SOK s'->∃r',ja (.int d) (.int k n) es' i=ae r'/\(match r,r' with
   |none,av=>True
   |some (j,v),ae (j',v')=>j'=j/\i<=j/\j<i+es.length/\VR μ v v'
   |_,_=>False):=by
 intro es
 induction es with
 |nil=>
  intro es' i r s s' h hl _;have:es'=[]:=by have:=h.1;simp at this;exact jj this.symm
  subst this;cases hl;exact⟨av,rfl,trivial⟩
 |cons e es ih=>
  intro es' i r s s' h hl ok;cases es' with
  |nil=>have:=h.1;simp at this
  |cons e' es'=>
   obtain⟨e2,k1,k2,k3,k4⟩:=h.2 0 e rfl;simp at k1;subst k1;simp only[qW] at hl;split at hl
   ·rename_i k' m hk;cases hc:decide (k=k') with
    |false=>rw[hc] at hl;simp at hl
    |true=>
     rw[hc] at hl;simp only[de] at hl;simp only[decide_eq_true_eq] at hc;rw[hk] at k2;generalize hkey:e'.key=key' at k2;cases k2 with
     |int _ _=>
      have hs:om (.int d) (.int k n) e'.key=ae (n==m):=by rw[hkey];simp[om,hc]
      split at hl
      ·rename_i s1 hp;cases hl;have hn:=(aZ hp).2 ok;refine⟨ae (i,e'.val),?_,rfl,cw _,qS,k3⟩;have:(n==m)=true:=by simpa using hn
       simp only[ja,hs,this]
      ·rename_i s1 hp;have hn:=(aZ hp).2 (SOK.of_sub (dQ _ _ _ _ _ hl).sub ok);obtain⟨r',h1,h2⟩:=ih es' (i+1) r s1 s' h.tail hl ok;refine⟨r',?_,?_⟩
       ·have:(n==m)=false:=by simpa using hn
        simp only[ja,hs,this];exact h1
       ·cases r with
        |none=>cases r' with|none=>trivial|some r'=>exact h2.elim
        |some r=>cases r' with|none=>exact h2.elim|some r'=>exact⟨h2.1,by have:=h2.2.1;omega,by have:=h2.2.2.1;simp;omega,h2.2.2.2⟩
      ·cases hl
   ·cases hl
def jC(P:cq)(s:St)(t:ct)(x k:af)(ok:cz):bp (af×St):=match P.underlying t,k with
 |some (.map key elem),.int kk n=>match P.underlying key with
  |some (.int _)=>match x with
   |.map av=>iD P elem ok s
   |.map (ae i)=>
    let es? :=match s.h.get i with|some (.map es _)=>ae es|some (.rm es _)=>ae es|_=>av
    match es? with
    |some es=>match qW kk n es 0 s with|some (ae (_,v),s')=>ae (zZ v ok,s')|some (av,s')=>iD P elem ok s'|none=>av
    |none=>av
   |_=>av
  |_=>av
 |some (.map key elem),.agg cs=>rL P s key elem x (.agg cs) ok|_,_=>av
theorem eI{key:ct}{d kk:jl}{n:br}(hk:P.underlying key=ae (.int d))(b:cz)(w:dh):(kv b 10000 key (.int kk n)).run P w=.ok () w:=by
 have key':∀ m,(kv b (m+1) key (.int kk n)).run P w=.ok () w:=λm=>by simp[kv,run_underlying hk]
 exact key' 9999
theorem pX{t key elem:ct}{kk d:jl}{n:br}{ok:cz}(hu:P.underlying t=ae (.map key elem))(hkey:P.underlying key=ae (.int d)){x':af}{es':ab ez}(hcase:(x'=.map av/\es'=[])\/∃r a c,x'=.map (ae r)/\w.heap[r]? =ae (.map a c)/\a.toList=es'){r':bp (aq×af)}(hf:ja (.int d) (.int kk n) es' 0=ae r'):∀(w1:dh),(∀ r,x'=.map (ae r)->w1.heap[r]? =w.heap[r]?)->(jn t x' (.int kk n) ok).run P w1=((do
       let(v,b) <-match r' with|some (_,v)=>pure (v,au)|none=>pure (<-zeroValue elem,aa)
       pure (if ok then .tuple #[v,.bool b] else v):Sem af).run P w1):=by
 intro w1 hw1
 rcases hcase with⟨rfl,rfl⟩|⟨r,a,c,rfl,hb,rfl⟩
 ·have hf':ja (.int d) (.int kk n) [] 0=ae r':=hf;simp only[jn,cv,run_underlying hu,cj,dw,eI hkey,po,run_underlying hkey,hf'];cases r'<;>rfl
 ·have hb1:=(hw1 r rfl).trans hb;simp only[jn,cv,run_underlying hu,cj,dw,getObj,sm,hb1,eI hkey,po,run_underlying hkey,hf];cases r'<;>rfl
theorem DD{t key elem:ct}{kk d:jl}{n:br}{ok:cz}(hu:P.underlying t=ae (.map key elem))(hkey:P.underlying key=ae (.int d)){x':af}{es':ab ez}(hcase:(x'=.map av/\es'=[])\/∃r a c,x'=.map (ae r)/\w.heap[r]? =ae (.map a c)/\a.toList=es'){j:aq}{v v':af}(hf:ja (.int d) (.int kk n) es' 0=ae (ae (j,v')))(hv:VR μ v v'):∃u,(∀ w1:dh,(∀ r,x'=.map (ae r)->w1.heap[r]? =w.heap[r]?)->(jn t x' (.int kk n) ok).run P w1=.ok u w1)/\VR μ (zZ v ok) u:=by have aW:=pX (ok:=ok) hu hkey hcase hf;cases ok with|true=>exact⟨.tuple #[v',.bool au],λw1 hw1=>by rw[aW w1 hw1];rfl,.tuple (.cons hv (.cons (.bool _) .nil))⟩|false=>exact⟨v',λw1 hw1=>by rw[aW w1 hw1];rfl,hv⟩
theorem A9{t key elem:ct}{kk d:jl}{n:br}{ok:cz}(hu:P.underlying t=ae (.map key elem))(hkey:P.underlying key=ae (.int d)){x':af}{es':ab ez}(hcase:(x'=.map av/\es'=[])\/∃r a c,x'=.map (ae r)/\w.heap[r]? =ae (.map a c)/\a.toList=es')(hf:ja (.int d) (.int kk n) es' 0=ae av){v:af}{s':St}(hz:iD P elem ok s=ae (v,s')):s'=s/\∃u,(∀ w1:dh,(∀ r,x'=.map (ae r)->w1.heap[r]? =w.heap[r]?)->(jn t x' (.int kk n) ok).run P w1=.ok u w1)/\VR μ v u:=by
 have aW:=pX (ok:=ok) hu hkey hcase hf;unfold iD at hz;split at hz
 ·rename_i z hz0;cases hz;have k2:=(bJ (μ:=μ) hz0 w).2;refine⟨rfl,?_⟩;cases ok with|true=>exact⟨.tuple #[z,.bool aa],λw1 hw1=>by rw[aW w1 hw1];simp only[cv,(bJ (μ:=μ) hz0 w1).1,cj,dw,if_true],.tuple (.cons k2 (.cons (.bool _) .nil))⟩|false=>exact⟨z,λw1 hw1=>by rw[aW w1 hw1];simp only[cv,(bJ (μ:=μ) hz0 w1).1,cj,dw,jw,if_false],k2⟩
 ·cases hz
theorem lN(h:R w0 μ s w){t:ct}{x k x' k' v:af}{ok:cz}{s':St}(hl:jC P s t x k ok=ae (v,s'))(hx:VR μ x x')(hk:VR μ k k'):s.like s'/\(SOK s'->∃v',(∀ w1:dh,(∀ r,x'=.map (ae r)->w1.heap[r]? =w.heap[r]?)->(jn t x' k' ok).run P w1=.ok v' w1)/\VR μ v v'):=by
 unfold jC at hl;split at hl
 ·rename_i key elem kk n hu;split at hl
  ·rename_i d hkey;cases hk with|int _ _=>
   split at hl
   ·cases hx;obtain rfl:=eY hl;exact⟨St.like_refl _,λ_=>(A9 (w:=w) hu hkey (.inl ⟨rfl,rfl⟩) rfl hl).2⟩
   ·rename_i i;dsimp only at hl;have closed:∀(es:ab ez)(p:Place)(es':df ez)(c:aq),x'=.map (ae p.blk)->w.heap[p.blk]? =ae (.map es' c)->EsR μ es es'.toList->(match qW kk n es 0 s with
     |some (ae (_,v),s')=>ae (zZ v ok,s')
     |some (av,s')=>iD P elem ok s'
     |none=>av)=ae (v,s')->s.like s'/\(SOK s'->∃v',(∀ w1:dh,(∀ r,x'=.map (ae r)->w1.heap[r]? =w.heap[r]?)->(jn t x' (.int kk n) ok).run P w1=.ok v' w1)/\VR μ v v'):=by
     intro es p es' c hx' hb hE hl
     have hcase:(x'=.map av/\es'.toList=[])\/∃r a c,x'=.map (ae r)/\w.heap[r]? =ae (.map a c)/\a.toList=es'.toList:=.inr ⟨p.blk,es',c,hx',hb,rfl⟩
     split at hl
     ·rename_i j v0 s1 hlk;cases hl;refine⟨dQ _ _ _ _ _ hlk,λok'=>?_⟩;obtain⟨r',h1,h2⟩:=iY (d:=d) es es'.toList 0 _ _ _ hE hlk ok';cases r' with|none=>exact h2.elim|some r'=>exact DD hu hkey hcase h1 h2.2.2.2
     ·rename_i s1 hlk;obtain rfl:=eY hl;refine⟨dQ _ _ _ _ _ hlk,λok'=>?_⟩;obtain⟨r',h1,h2⟩:=iY (d:=d) es es'.toList 0 _ _ _ hE hlk ok';cases r' with|some r'=>exact h2.elim|none=>exact(A9 hu hkey hcase h1 hl).2
     ·cases hl
    split at hl
    ·rename_i es hes;split at hes
     ·rename_i es0 c hg;cases hes;cases hx with|map hp=>obtain⟨p,es',h1,h2,h3,h4⟩:=h.map _ _ _ hg;rw[hp] at h1;cases h1;exact closed _ _ _ _ rfl h2 h4 hl
     ·rename_i es0 c hg;cases hes;cases hx with|map hp=>obtain⟨p,es',h1,h2,h3,h4⟩:=h.rm _ _ _ hg;rw[hp] at h1;cases h1;exact closed _ _ _ _ rfl h3 h4 hl
     ·cases hes
    ·cases hl
   ·cases hl
  ·cases hl
 ·rename_i key elem cs hu;exact BA h hu hl hx hk
 ·cases hl
theorem yW(h:R w0 μ s w){t:ct}{x k x' k' v:af}{ok:cz}{s':St}(hl:jC P s t x k ok=ae (v,s'))(hx:VR μ x x')(hk:VR μ k k'):s.like s'/\(SOK s'->∃v',(jn t x' k' ok).run P w=.ok v' w/\VR μ v v'):=by obtain⟨h0,h1⟩:=lN h hl hx hk;refine⟨h0,λok'=>?_⟩;obtain⟨v',h1,h2⟩:=h1 ok';exact⟨v',h1 w (λ_ _=>rfl),h2⟩
def yS(P:cq)(t:ct):HObj:=match P.underlying t with
 |some (.map key _)=>bif kmB P key then .fmap λ_ _=>av else .map [] 0
 |_=>.map [] 0
def rK(P:cq)(t:ct)(s:St):bp (af×St):=(Tr.set 64 s.h s.next (yS P t)).map λh=>(.map (ae s.next),{s with h:=h,next:=s.next+1})
theorem HC(P:cq)(t:ct):yS P t=.map [] 0\/yS P t=.fmap λ_ _=>none:=by
 unfold yS;split
 ·rename_i key _ _;cases kmB P key with|true=>exact .inr rfl|false=>exact .inl rfl
 ·exact .inl rfl
theorem wU(h:R w0 μ s w){t:ct}{v:af}{s':St}(hm:rK P t s=ae (v,s')):s.sub s'/\∃v' w' μ',(Instr.makeMap t av).run P w=.ok v' w'/\μ.le μ'/\R w0 μ' s' w'/\VR μ' v v':=by unfold rK at hm;simp only[aj,bn] at hm;obtain⟨u,hu,rfl,rfl⟩:=hm;refine⟨⟨[],rfl⟩,_,_,_,rfl,Mu.put_le (h.fresh _ (cw _)),h.allocMap (HC P t) hu,?_⟩;exact .map (p:=⟨w.heap.size,0,0,eJ⟩) (Mu.put_same _ _ _)
def zI(P:cq)(name:String):af->bp (FuncId×af)
 |.iface t v=>bif em t TYM then match P.info? t,P.underlying t with
  |some inf,ae d=>match inf.methods.find? (·.name==name) with
   |some m=>match m.path.toList,m.func,d with
    |[],ae (f,au),.pointer _=>ae (f,v)|_,_,_=>av
   |none=>av
  |_,_=>av
  else av
 |_=>av
theorem yU{name:String}{v v' r:af}{f:FuncId}(hm:zI P name v=ae (f,r))(hv:VR μ v v'):∃r',VR μ r r'/\∀(args:df af)(w:dh),(callMethod v' name args).run P w=(callFunc f (#[r']++args)).run P w:=by
 unfold zI at hm;split at hm
 ·rename_i t u;cases hb:em t TYM with
  |false=>rw[hb] at hm;simp at hm
  |true=>
   rw[hb] at hm;simp only[de] at hm;have hb:=bN hb;split at hm
   ·rename_i inf d hinf hd;split at hm
    ·rename_i m hfind;split at hm
     ·rename_i f0 e hp hf;simp only[co,bn] at hm;obtain⟨rfl,rfl⟩:=hm;cases hv with
      |@iface _ _ u' _ hv=>
       refine⟨u',hv,λargs w=>?_⟩;have hN:∃N,P.types.size+Made.depth=N+1:=by have h0:0<Made.depth:=qD;exact⟨P.types.size+Made.depth-1,qO⟩
       obtain⟨N,hN⟩:=hN;have hme:(method (P.types.size+Made.depth) t u' name).run P w=.ok (f0,u') w:=by rw[hN];simp only[method,cv,typeInfo,run_program,cj,hinf,dw,hfind,hp,follow,hf,receiverAt,run_underlying hd,Place.get]
       simp only[callMethod,cv,run_program,cj,hme]
      |frz _=>exact cp hb (by simp[TYM])|fptr _ _ _=>exact cp hb (by simp[TYM])|szv=>exact cp hb (by simp[TYM])|frzU=>exact cp hb (by simp[TYM])
     ·cases hm
    ·cases hm
   ·cases hm
 ·cases hm
end
section
variable{w0:Base}{μ:Mu}{s:St}{w:dh}{P:cq}
def gK(P:cq)(s:St)(t:ct)(m k v:af):bp St:=match P.underlying t,m,k with
 |some (.map key _),.map (ae i),.int kk n=>match P.underlying key with
  |some (.int _)=>match s.h.get i with
   |some (.map es c)=>match qW kk n es 0 s with
    |some (av,s1)=>(Tr.set 64 s.h i (.map (es++[{key:=.int kk n,val:=v,born:=c}]) (c+1))).map λh=>{s1 with h:=h}
    |some (ae (j,_),s1)=>match es[j]? with
     |some e=>(Tr.set 64 s.h i (.map (es.set j {e with key:=.int kk n,val:=v}) c)).map λh=>{s1 with h:=h}
     |none=>av
    |none=>av
   |_=>av
  |_=>av
 |some (.map key _),m,.agg cs=>FL P s key m (.agg cs) v|_,_,_=>av
def CF(es':df ez)(c:aq)(k:jl)(n:br)(v':af):bp (aq×af)->Obj
 |none=>.map (es'.push {key:=.int k n,val:=v',born:=c}) (c+1)|some (j,_)=>.map (es'.modify j λe=>{e with key:=.int k n,val:=v'}) c
def XU(es':ab ez)(k:jl)(n:br):bp (aq×af)->Prop
 |none=>True|some (j,_)=>∃e,es'[j]? =ae e/\e.key=.int k n
theorem jH{t key elem:ct}{kk d:jl}{n:br}(hu:P.underlying t=ae (.map key elem))(hkey:P.underlying key=ae (.int d)){b:aq}{es':df ez}{c:aq}(hb:w.heap[b]? =ae (.map es' c)){r':bp (aq×af)}(hf:ja (.int d) (.int kk n) es'.toList 0=ae r')(v':af):XU es'.toList kk n r'->(kw t (.map (ae b)) (.int kk n) v').run P w=.ok () {w with heap:=w.heap.setIfInBounds b (CF es' c kk n v' r')}:=by
 intro hr;cases r' with
 |none=>simp only[kw,cv,run_underlying hu,cj,getObj,sm,hb,dw,eI hkey,po,run_underlying hkey,hf,setObj,CF]
 |some r=>
  obtain⟨j,v0⟩:=r;obtain⟨e,h1,h2⟩:=hr;have h3:es'[j]? =ae e:=by simpa using h1
  have h4:(oe (((es'[j]?).map (·.key)).getD (.int kk n)) (.int kk n)).run P w=.ok (.int kk n) w:=by rw[h3];simp[oe,h2,Instr.sameBits]
  simp only[kw,cv,run_underlying hu,cj,getObj,sm,hb,dw,eI hkey,po,run_underlying hkey,hf,setObj,h4,CF]
theorem DC(es':df ez)(j:aq)(g:ez->ez)(i:aq):(es'.modify j g).toList[i]? =if j=i then(es'.toList[i]?).map g else es'.toList[i]? :=by simp only[qy,Array.getElem?_modify]
theorem mI(h:R w0 μ s w){t:ct}{m k v m' k' v':af}{s':St}(hu:gK P s t m k v=ae s')(hm:VR μ m m')(hk:VR μ k k')(hv:VR μ v v'):s.sub s'/\(SOK s'->∃w' μ',(kw t m' k' v').run P w=.ok () w'/\μ.le μ'/\R w0 μ' s' w'):=by
 unfold gK at hu;split at hu
 ·rename_i key elem i kk n hut;split at hu
  ·rename_i d hkey;cases hk with|int _ _=>
   cases hm with|map hp=>
   rename_i p;split at hu
   ·rename_i es c hg;obtain⟨q,es',h1,h2,h3,h4⟩:=h.map _ _ _ hg;rw[hp] at h1;cases h1;split at hu
    ·rename_i s1 hlk;have q1:=dQ _ _ _ _ _ hlk;simp only[aj] at hu;obtain⟨tr,htr,rfl⟩:=hu;refine⟨q1.sub,λok=>?_⟩;obtain⟨r',k1,k2⟩:=iY (d:=d) es es'.toList 0 _ _ _ h4 hlk ok;cases r' with
     |some r'=>exact k2.elim
     |none=>
      refine⟨_,μ,jH hut hkey h2 k1 v' trivial,Mu.le_refl _,R.same (s:={s with h:=tr}) (h.updAny (O':=.map (es'.push {key:=.int kk n,val:=v',born:=c}) (c+1)) hg htr hp h2 (.inr ⟨_,_,_,_,_,_,rfl,rfl,rfl,rfl,?_⟩) (w0.upd _ _ _ h.below h3 yV) qS (gG h2) (λg hg'=>jZ hg')) rfl q1.next q1.ng⟩;refine⟨by have:=h4.1;simp;simpa using this,λj e hj=>?_⟩;rw[tj];rcases ey j es.length with hjl|hjl
      ·rw[dt hjl] at hj;obtain⟨e',m1,m2⟩:=h4.2 j e hj;have hjl':j<es'.toList.length:=by rw[<-h4.1];exact hjl
       exact⟨e',by rw[dt hjl'];exact m1,m2⟩
      ·rw[eq hjl] at hj;have hj0:j-es.length=0:=by
        rcases jv (j-es.length) with h0|h0
        ·exact h0
        ·rw[ei (by simp;omega)] at hj;cases hj
       rw[hj0] at hj;simp at hj;subst hj;have hjl':es'.toList.length<=j:=by rw[<-h4.1];exact hjl
       refine⟨{key:=.int kk n,val:=v',born:=c},?_,.int _ _,hv,rfl⟩;rw[eq hjl',<-h4.1,hj0];rfl
    ·rename_i j u s1 hlk;have q1:=dQ _ _ _ _ _ hlk;split at hu
     ·rename_i e hej;simp only[aj] at hu;obtain⟨tr,htr,rfl⟩:=hu;refine⟨q1.sub,λok=>?_⟩;obtain⟨r',k1,k2⟩:=iY (d:=d) es es'.toList 0 _ _ _ h4 hlk ok;cases r' with
      |none=>exact k2.elim
      |some r'=>
       obtain⟨j',u'⟩:=r';obtain⟨rfl,_,hjl,k3⟩:=k2;have hfk:∀(l:ab ez)(a b:aq)(x:af),ja (.int d) (.int kk n) l a=ae (ae (b,x))->a<=b/\∃e',l[b-a]? =ae e'/\e'.key=.int kk n:=by
        intro l;induction l with
        |nil=>intro a b x hx;simp[ja] at hx
        |cons e' l ih=>
         intro a b x hx;unfold ja at hx;split at hx
         ·rename_i hsn;simp only[co,bn] at hx;obtain⟨rfl,_⟩:=hx;refine⟨cw _,e',qS,?_⟩;cases hke:e'.key with
          |int kd m=>
           rw[hke] at hsn;simp only[om] at hsn;split at hsn
           ·rename_i hkk;subst hkk;have:n=m:=by simpa using hsn
            rw[this]
           ·cases hsn
          |_=>rw[hke] at hsn;simp[om] at hsn
         ·obtain⟨h5,e2,h6,h7⟩:=ih (a+1) b x hx;exact⟨qO,e2,by rw[show b-a=(b-(a+1))+1 by omega];simpa using h6,h7⟩
         ·cases hx
       obtain⟨_,e',m1,m2⟩:=hfk _ _ _ _ k1;rw[ur] at m1;refine⟨_,μ,jH hut hkey h2 k1 v' ⟨e',m1,m2⟩,Mu.le_refl _,R.same (s:={s with h:=tr}) (h.updAny (O':=.map (es'.modify j' λe=>{e with key:=.int kk n,val:=v'}) c) hg htr hp h2 (.inr ⟨_,_,_,_,_,_,rfl,rfl,rfl,rfl,?_⟩) (w0.upd _ _ _ h.below h3 yV) qS (gG h2) (λg hg'=>jZ hg')) rfl q1.next q1.ng⟩;refine⟨by have:=h4.1;simp;simpa using this,λi e1 hi=>?_⟩;rw[DC];by_cases hij:j'=i
       ·subst hij;rw[fc rfl,m1];have:j'<es.length:=qO;rw[List.getElem?_set_self this] at hi;cases hi;obtain⟨e3,n1,_,_,n4⟩:=h4.2 _ _ hej;rw[m1] at n1;cases n1;exact⟨_,rfl,.int _ _,hv,n4⟩
       ·rw[eh hij];rw[List.getElem?_set_ne hij] at hi;exact h4.2 i e1 hi
     ·cases hu
    ·cases hu
   ·cases hu
  ·cases hu
 ·rename_i key elem cs hut;obtain⟨q1,w',q2,q3⟩:=BO h hut hu hm hk hv;exact⟨q1,λ_=>⟨w',μ,q2,Mu.le_refl _,q3⟩⟩
 ·cases hu
end
section
variable{w0:Base}{μ ν:Mu}{s:St}{w:dh}{P:cq}
theorem kE{μ:Mu}{c:ab af}{cur:df af}{b:aq}(h:CsR aa μ c cur b):VRs μ c ((cur.toList.drop b).take c.length):=by have:=(uG (op:=aa) (o:=0) (n:=c.length) h qO).2;simpa[CRs] using this
theorem qX{op:cz}{μ:Mu}{c:ab af}{cur:df af}{b n:aq}(h:CRs op μ c ((cur.toList.drop b).take n)):CsR op μ c cur b:=λj v hj=>by
 obtain⟨v',h1,h2⟩:=h.get j v hj;refine⟨v',?_,h2⟩;rcases ey j n with hjn|hjn
 ·rw[iy,fc hjn,ky] at h1;simpa using h1
 ·rw[iy,eh qO] at h1;cases h1
theorem zD(h:R w0 μ s w){i z:aq}{es:ab af}{op:cz}{c:ab af}{e:ct}{t:Tr HObj}(hg:s.h.get i=ae (.row op c e))(has:mF op au c=au)(ht:Tr.set 64 s.h i .dead=ae t)(q1:aB es=c)(q2:∀ v∈es,v.cells.size=z)(q3:0<z):∃ν,μ.le ν/\ν.pl=μ.pl/\R w0 ν {s with h:=t} w/\∀ n c y,VR μ (.slice (ae ⟨i,0,av⟩) n c) y->n=es.length->(c<UNK->n<=c)->VR ν (frz es) y:=by
 obtain⟨p,cur,r1,r2,r3,r4,r5,r6⟩:=h.row i op c e hg;obtain⟨k1,k2⟩:=h.freeze hg ht r1 r2;refine⟨_,k1,rfl,k2,λn cc y hy hn hcn=>?_⟩;obtain⟨r7,r8⟩:=uG (o:=0) (n:=c.length) r6 qO;have r9:FRs μ.fz c ((cur.toList.drop (p.base+0)).take c.length):=by have h9:=yB (op':=au) (l:=(c.drop 0).take c.length) (by simpa using has) r8;rw[lH,List.take_length] at h9;exact h9
 have hfl:c.length=es.length*z:=by rw[<-q1,cA q2]
 have hz:(μ.ice p.blk (.cells cur e (0,0))).fz p.blk=ae (.cells cur e (0,0)):=Mu.ice_same;have mk:∀ c':aq,n<=c'->VR (μ.ice p.blk (.cells cur e (0,0))) (frz es) (.slice (ae ⟨p.blk,p.base+0,av⟩) n c'):=λc' hc'=>by
  subst hn;refine .frz (.frz hz q3 q2 hc' ?_ ?_)
  ·rw[<-hfl];have:((cur.toList.drop (p.base+0)).take c.length).length=c.length:=r7;simp only[ir,ko,gq] at this;rcases jv c.length with h0|h0
   ·omega
   ·omega
  ·rw[q1,<-hfl];exact FRs.mono k1.fz r9
 cases hy with|sliceK hq hc=>rw[r1] at hq;cases hq;exact mk _ (hcn hc)|sliceU hq h1 h2 h3=>rw[r1] at hq;cases hq;exact mk _ h1|sliceE=>have:es=[]:=jj hn.symm;subst this;exact .frz .frz0
theorem gW{α:Type}{c:cz}{x:bp α}{y:α}(h:(bif c then x else av)=ae y):c=au/\x=ae y:=by cases c with|true=>exact⟨rfl,h⟩|false=>cases h
theorem GD{s s':St}{z:aq}{y:af}{op:cz}{news:ab af}(h:IN s z y=ae (op,news,s')):s.like s':=by
 have c1:∀{c:ab af}{o n:aq},((rdC c o n s).map λr=>(aa,r.1,r.2))=ae (op,news,s')->s.like s':=λh=>by simp only[aj,bn] at h;obtain⟨⟨l,s1⟩,h1,_,_,rfl⟩:=h;exact(cK (op:=aa) h1).1
 have c2:∀{p:Prop}{l:ab af},((dK p s).map λs'=>(au,l,s'))=ae (op,news,s')->s.like s':=λh=>by simp only[aj,bn] at h;obtain⟨s1,h1,_,_,rfl⟩:=h;exact(aY h1).1
 unfold IN at h;split at h
 ·split at h
  ·exact c1 h
  ·exact c1 h
  ·exact c1 h
  ·exact c2 h
  ·exact c2 h
  ·exact c2 h
  ·cases h
 ·split at h
  ·exact c2 h
  ·cases h
theorem mA{s s':St}{t:ct}{x y v:af}(h:oQ P s t x y=ae (v,s')):s.sub s':=by
 unfold oQ at h;split at h
 ·split at h
  ·split at h
   ·rename_i hp;have q1:=(aZ hp).1.sub;split at h
    ·rename_i n c;cases hck:em c UNK with|true=>rw[hck] at h;simp only[de] at h;obtain⟨_,h⟩:=gW h;cases h;exact q1|false=>rw[hck] at h;simp only[ed] at h;cases h;exact q1
    ·cases h
   ·rename_i hp;have q1:=(aZ hp).1.sub;split at h
    ·cases h
    ·rename_i hs;have q2:=(GD hs).sub;split at h
     ·split at h
      ·rename_i hn;have q3:=(bA hn).1.sub;obtain⟨_,h⟩:=gW h;exact St.sub_trans q1 (St.sub_trans q2 (St.sub_trans q3 (oO h)))
      ·cases h
     ·cases h
   ·cases h
  ·cases h
 ·cases h
def EV(P:cq)(e:ct)(z:aq):aq->ab af->bp (ab af)
 |0,_=>ae []
 |n+1,cs=>match j6 P e (cs.take z) 0 with
  |some v=>match EV P e z n (cs.drop z) with
   |some l=>ae (v::l)|none=>av
  |none=>av
def KC(f:af->St->bp (af×St)):ab af->St->bp (ab af×St)
 |[],s=>ae ([],s)
 |v::l,s=>match f v s with
  |some (v',s1)=>match KC f l s1 with
   |some (l',s2)=>ae (v'::l',s2)|none=>av
  |none=>av
def OC(P:cq):aq->af->St->bp (af×St)
 |0,v,s=>bif idf 0 v then ae (v,s) else av
 |d+1,v,s=>match v with
  |.slice (ae ⟨i,0,av⟩) n c=>match s.h.get i with
   |some (.row aa cs e)=>match KC (OC P d) cs s with
    |some (cs',s1)=>match Tr.set 64 s1.h i (.row aa cs' e),Tr.set 64 s1.h i .dead,P.info? e,s1.h.get i with
     |some t1,ae _,ae f,ae (.row aa cs1 e1)=>match EV P e f.size n cs' with
      |some es=>match Tr.set 64 t1 i .dead with
       |some t2=>bif cs'.all (idf 0)&&bx e1 e then(dK (cs1=cs/\aB es=cs'/\(∀ v∈es,v.cells.size=f.size)/\0<f.size/\n=es.length/\(c<UNK->n<=c)) s1).map λs2=>(frz es,{s2 with h:=t2}) else av
       |none=>av
      |none=>av
     |_,_,_,_=>av
    |none=>av
   |_=>av
  |_=>bif idf 0 v then ae (v,s) else av
def S6(P:cq)(i:aq)(s:St):bp St:=match s.h.get i with
 |some (.row aa cs e)=>match KC (OC P 3) cs s with
  |some (cs',s1)=>match s1.h.get i,Tr.set 64 s1.h i (.row aa cs' e) with
   |some (.row aa cs1 e1),ae t=>bif bx e1 e then(dK (cs1=cs) s1).map λs2=>{s2 with h:=t} else av
   |_,_=>av
  |none=>av
 |_=>ae s
def OE(P:cq)(v:af)(s:St):bp St:=match v with|.slice (ae ⟨i,_,av⟩) _ _=>S6 P i s|_=>ae s
def nM(P:cq)(s:St)(t:ct)(x y:af):bp (af×St):=match oQ P s t x y with
 |some r=>ae r
 |none=>match OE P x s with
  |some s1=>match OE P y s1 with
   |some s2=>oQ P s2 t x y|none=>av
  |none=>av
structure St.far(s s':St):Prop where
 next:s'.next=s.next
 ng:s'.ng=s.ng
 sub:s.sub s'
theorem St.far.refl(s:St):s.far s:=⟨rfl,rfl,s.sub_refl⟩
theorem St.far.trans{a b c:St}(h:a.far b)(k:b.far c):a.far c:=⟨k.next.trans h.next,k.ng.trans h.ng,St.sub_trans h.sub k.sub⟩
def QC(f:af->St->bp (af×St)):Prop:=∀(v v':af)(s s':St),f v s=ae (v',s')->s.far s'/\∀(w0:Base)(μ:Mu)(w:dh)(x:af),SOK s'->R w0 μ s w->VR μ v x->∃ν,μ.le ν/\R w0 ν s' w/\VR ν v' x
theorem FJ{f:af->St->bp (af×St)}(hf:QC f):∀(l l':ab af)(s s':St),KC f l s=ae (l',s')->s.far s'/\∀(w0:Base)(μ:Mu)(w:dh)(xs:ab af),SOK s'->R w0 μ s w->VRs μ l xs->∃ν,μ.le ν/\R w0 ν s' w/\VRs ν l' xs:=by
 intro l;induction l with
 |nil=>intro l' s s' h;cases h;exact⟨.refl _,λw0 μ w xs _ hR hV=>⟨μ,Mu.le_refl _,hR,hV⟩⟩
 |cons v l ih=>
  intro l' s s' h;simp only[KC] at h;split at h
  ·rename_i v' s1 h1;split at h
   ·rename_i l2 s2 h2;cases h;obtain⟨a1,a2⟩:=hf _ _ _ _ h1;obtain⟨b1,b2⟩:=ih _ _ _ h2;refine⟨a1.trans b1,λw0 μ w xs ok hR hV=>?_⟩;cases hV with|cons hv hl=>obtain⟨ν1,c1,c2,c3⟩:=a2 w0 μ w _ (SOK.of_sub b1.sub ok) hR hv;obtain⟨ν2,d1,d2,d3⟩:=b2 w0 ν1 w _ ok c2 (VRs.mono c1 hl);exact⟨ν2,Mu.le_trans c1 d1,d2,.cons (VR.mono d1 c3) d3⟩
   ·cases h
  ·cases h
theorem R.recell(h:R w0 μ s w){ν:Mu}{s1:St}{i:aq}{cs cs':ab af}{e:ct}{t:Tr HObj}(h1:R w0 ν s1 w)(hle:μ.le ν)(hi:s.h.get i=ae (.row aa cs e))(hi1:s1.h.get i=ae (.row aa cs e))(ht:Tr.set 64 s1.h i (.row aa cs' e)=ae t)(hv:∀ xs,VRs μ cs xs->∀ p cur,μ i=ae p->w.heap[p.blk]? =ae (.cells cur e (0,0))->xs=(cur.toList.drop p.base).take cs.length->VRs ν cs' xs):R w0 ν {s1 with h:=t} w:=by
 obtain⟨p,cur,a1,a2,a3,a4,a5,a6⟩:=h.row i _ _ _ hi;obtain⟨q,cur2,b1,b2,b3,b4,b5,b6⟩:=h1.row i _ _ _ hi1;obtain⟨q',c1,c2⟩:=hle.pl _ _ a1;rw[b1] at c1;cases c1;have hbl:q.blk=p.blk:=c2.blk;have hba:q.base=p.base:=c2.base;rw[hbl] at b2;rw[a2] at b2;cases b2;have hV:=kE a6;have hV2:=hv _ hV p cur a1 a2 rfl;have hlen:cs'.length=cs.length:=by have e1:=hV.length;have e2:=hV2.length;omega
 refine h1.turn hi1 ht b1 h1.below (cw _) (λg hg=>hg) (λ_=>⟨cur,by rw[hbl];exact a2,b3,qO,?_⟩) (λ_ _ _=>rfl);rw[hba];refine qX (op:=aa) (n:=cs.length) ?_;exact hV2
theorem OB:∀ d:aq,QC (OC P d):=by
 intro d;induction d with
 |zero=>intro v v' s s' h;obtain⟨_,h⟩:=gW h;cases h;exact⟨.refl _,λw0 μ w x _ hR hV=>⟨μ,Mu.le_refl _,hR,hV⟩⟩
 |succ d ih=>
  intro v v' s s' h;simp only[OC] at h;split at h
  ·rename_i i n c;split at h
   ·rename_i cs e hi;split at h
    ·rename_i cs' s1 hL;obtain⟨a1,a2⟩:=FJ ih _ _ _ _ hL;split at h
     ·rename_i t1 t0 f cs1 e1 ht1 _ hf hi1;split at h
      ·rename_i es hes;split at h
       ·rename_i t2 ht2;obtain⟨hb,h⟩:=gW h;simp only[bu,aI] at hb;simp only[aj,bn] at h;obtain⟨s2,hn,rfl,rfl⟩:=h;obtain⟨k1,k2⟩:=aY hn;refine⟨⟨k1.next.trans a1.next,k1.ng.trans a1.ng,St.sub_trans a1.sub k1.sub⟩,λw0 μ w x ok hR hV=>?_⟩;have ok2:SOK s2:=ok;obtain⟨q0,q1,q2,q3,q4,q5⟩:=k2 ok2;subst q0;rw[hb.2] at hi1;obtain⟨p,cur,r1,r2,r3,r4,r5,r6⟩:=hR.row i _ _ _ hi;obtain⟨ν1,c1,c2,c3⟩:=a2 w0 μ w _ (SOK.of_sub k1.sub ok2) hR (kE r6);have hR2:R w0 ν1 {s1 with h:=t1} w:=hR.recell c2 c1 hi hi1 ht1 λxs hxs p' cur' hp' hcur' hx=>by rw[r1] at hp';cases hp';rw[r2] at hcur';cases hcur';rw[hx];exact c3
        have hg:({s1 with h:=t1}:St).h.get i=ae (.row aa cs' e):=by show t1.get i=_;rw[Tr.get_set _ _ _ _ _ ht1,fc rfl]
        obtain⟨ν2,d1,d2,d3,d4⟩:=zD hR2 hg (show mF aa au cs'=au from hb.1) ht2 q1 q2 q3;exact⟨ν2,Mu.le_trans c1 d1,d3.same rfl k1.next k1.ng,d4 n c x (VR.mono c1 hV) q4 q5⟩
       ·cases h
      ·cases h
     ·cases h
    ·cases h
   ·cases h
  ·obtain⟨_,h⟩:=gW h;cases h;exact⟨.refl _,λw0 μ w x _ hR hV=>⟨μ,Mu.le_refl _,hR,hV⟩⟩
theorem OD{i:aq}{s s':St}(h:S6 P i s=ae s'):s.far s'/\∀(w0:Base)(μ:Mu)(w:dh),SOK s'->R w0 μ s w->∃ν,μ.le ν/\R w0 ν s' w:=by
 unfold S6 at h;split at h
 ·rename_i cs e hi;split at h
  ·rename_i cs' s1 hL;obtain⟨a1,a2⟩:=FJ (OB (P:=P) 3) _ _ _ _ hL;split at h
   ·rename_i cs1 e1 t hi1 ht;obtain⟨hb,h⟩:=gW h;simp only[aj] at h;obtain⟨s2,hn,rfl⟩:=h;obtain⟨k1,k2⟩:=aY hn;refine⟨⟨k1.next.trans a1.next,k1.ng.trans a1.ng,St.sub_trans a1.sub k1.sub⟩,λw0 μ w ok hR=>?_⟩;have ok2:SOK s2:=ok;have q0:=k2 ok2;subst q0;rw[(aI _ _).1 hb] at hi1;obtain⟨p,cur,r1,r2,r3,r4,r5,r6⟩:=hR.row i _ _ _ hi;obtain⟨ν1,c1,c2,c3⟩:=a2 w0 μ w _ (SOK.of_sub k1.sub ok2) hR (kE r6);refine⟨ν1,c1,(hR.recell c2 c1 hi hi1 ht λxs hxs p' cur' hp' hcur' hx=>?_).same rfl k1.next k1.ng⟩;rw[r1] at hp';cases hp';rw[r2] at hcur';cases hcur';rw[hx];exact c3
   ·cases h
  ·cases h
 ·cases h;exact⟨.refl _,λw0 μ w _ hR=>⟨μ,Mu.le_refl _,hR⟩⟩
theorem t9{v:af}{s s':St}(h:OE P v s=ae s'):s.far s'/\∀(w0:Base)(μ:Mu)(w:dh),SOK s'->R w0 μ s w->∃ν,μ.le ν/\R w0 ν s' w:=by
 unfold OE at h;split at h
 ·exact OD h
 ·cases h;exact⟨.refl _,λw0 μ w _ hR=>⟨μ,Mu.le_refl _,hR⟩⟩
theorem xA(h:R w0 μ s w){t ty:ct}{x y x' y' v:af}{s':St}(ha:nM P s t x y=ae (v,s'))(hx:VR μ x x')(hy:VR μ y y'):s.sub s'/\(SOK s'->∃v' w' μ',(gm #[t,t] ty #[x',y']).run P w=.ok v' w'/\μ.le μ'/\R w0 μ' s' w'/\VR μ' v v'):=by
 unfold nM at ha;split at ha
 ·rename_i r hr;cases ha;exact rZ h hr hx hy
 ·split at ha
  ·rename_i s1 h1;split at ha
   ·rename_i s2 h2;obtain⟨a1,a2⟩:=t9 h1;obtain⟨b1,b2⟩:=t9 h2;have hsub:s2.sub s':=mA ha;refine⟨St.sub_trans a1.sub (St.sub_trans b1.sub hsub),λok=>?_⟩;have ok2:=SOK.of_sub hsub ok;obtain⟨ν1,c1,c2⟩:=a2 w0 μ w (SOK.of_sub b1.sub ok2) h;obtain⟨ν2,d1,d2⟩:=b2 w0 ν1 w ok2 c2;have hle:=Mu.le_trans c1 d1;obtain⟨v',w',μ',e1,e2,e3,e4⟩:=(rZ d2 ha (VR.mono hle hx) (VR.mono hle hy)).2 ok;exact⟨v',w',μ',e1,Mu.le_trans hle e2,e3,e4⟩
   ·cases ha
  ·cases ha
end
end Go.Hx
