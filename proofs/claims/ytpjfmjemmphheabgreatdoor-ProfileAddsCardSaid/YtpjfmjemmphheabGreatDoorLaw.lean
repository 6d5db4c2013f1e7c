/- ProfileAdds returns true for every input, and its arguments read behind the call as they read before. Conditions: those of its row: value.units and code.table read as the row lists them; value.operators may be anything; the row's own look at the clock (time may pass). -/
import Derived.Test.YtpjfmjemmphheabGreatDoorRows
import Derived.Test.YtpjfmjemmphheabGreatDoorTie
import Derived.Test.YtpjfmjemmphheabGreatDoorCards
import Derived.Test.YtpjfmjemmphheabGreatDoorX6
import Derived.ProofKit
import Derived.Carry
import Derived.Clock
import Derived.LaidMore
import Derived.OpenShut
import Derived.OpenVars
import Derived.Stop.Joined
import Derived.SevenTiedAt
open Bool renaming false->aa,true->au
open Go.Proofs.Tryz renaming f3->qu,prog->ad,underlying2->uo,underlying25->qv,underlying5->um
open Go.Value renaming okWide->qw
open List renaming all_eq_true->fq,append_nil->fh
set_option linter.all false
set_option linter.constructorNameAsVariable false
set_option maxRecDepth 100000
namespace Go.Proofs.YtpjfmjemmphheabGreatDoor
open Go.ChangeShapes Go.WideShapes Go.ChangeAt Go.WideMaps Go.WideElems Go.RowKit Go.Hx
theorem own:ownKnob ad.godebug=none:=by kernel_rfl
theorem laidOut:laidOutB ad=true:=by kernel_rfl
theorem K5(os:Os)(args:Array Value):laidMetH ad Rows.profileAddsRow.laid ((World.doorLaid ad 400 os).forCall (λ_ _=>0) ⟨#[],args,[]⟩).memory:=laidMetH_of_parts3 (fuel:=8) (laidMet_of_run' 8 qK qK) qK qK
theorem kdT:lP ad 8 (ad.globals[0]?.map (·.type)).get! =some (List.replicate 88 (.i .i64)):=by kernel_rfl
theorem z0:ad.globalNamed "speculate/code.table"=some 0:=by kernel_rfl
theorem CH:(ad.globals[0]?).map (·.type)=some (ad.globals[0]?.map (·.type)).get! :=by kernel_rfl
theorem F7:zQ 8 (Rows.laid_speculate_code_table (H:=Unit))=PA.tableV:=by kernel_rfl
theorem AA{W:World}(h:laidMetH ad Rows.profileAddsRow.laid W)(j:Nat)(v:Value)(hj:PA.tableV[j]? =some v):W.cell? ⟨0,j,none⟩=some v:=by have hl:laidMet ad Rows.profileAddsRow.laid W:=h;obtain⟨ps,hps,_⟩:=hl;exact DH hps (name:= "speculate/code.table") (dat:=Rows.laid_speculate_code_table) (List.mem_cons_of_mem _ (List.mem_cons_self ..)) z0 CH kdT qK j v (by rw[F7];exact hj)
def PE:Value:=.agg #[.slice none 0 0,.slice none 0 0,.slice none 0 0]
theorem AB:∃fs,ad.underlying 24=some (.struct fs):=⟨_,Tryz.underlying24⟩
theorem tD{W:World}{r:Reach}{b:Nat}{t:TypeId}{v:Value}(hs:∃fs,ad.underlying t=some (.struct fs))(h:qw ad W r b t v):∃cs,v=.agg cs:=by obtain⟨fs,hs⟩:=hs;unfold qw at h;simp only[hs] at h;obtain⟨cs,hv,_⟩:=h;exact⟨cs,hv⟩
set_option maxHeartbeats 2000000 in
theorem lifted(os:Os)(started:os.Started)(H:Type)(enc:TypeId×Value->H)(F:Stop.Interp):ReturnsInHanded {calm:=au} Tryz.checked os 3 .any (λw args=>(Rows.profileAddsSpec.pre enc ad qu [] aa w args/\laidMetH ad Rows.profileAddsRow.laid w)/\sizedMet enc ad qu (OpenSpec.ofChange Rows.profileAddsSpec) aa w args) ((OpenSpec.ofChange Rows.profileAddsSpec).postWith enc ad qu F (outsideKept [.timePasses]) aa au aa):=by
 refine Go.Clock.returns_of_change (C:=Tryz.checked) (X:=λw _=>laidMetH ad Rows.profileAddsRow.laid w) (λ_ _ _ hh h=>h.of_heap hh) own started qK Tryz.func3 (Go.Clock.witness_at (enc:=enc) (C:=Tryz.checked) (os:=os) (X:=λw _=>laidMetH ad Rows.profileAddsRow.laid w) (World.doorLaid ad 400 os) #[PE,PE,.slice none 0 0,.int .u8 0,.int .i64 0] 8 rfl (World.shaped_of_RefB qK qK) qK qK qK (K5 os _)) ?_;intro W base args ds gs before hval0 hW _ hsz hx _;have hx:laidMetH ad Rows.profileAddsRow.laid W:=hx;have hval:∀(j:Nat) t v,qu.params[j]? =some t->args[j]? =some v->qw ad W .any base t v:=hval0;have hW':=hW;obtain⟨p,q,hA0,hV,rfl,hfz,hnd⟩:=hW;have hA:DataW.TrodAll enc ad W 0 (λ_=>au) au qu.params.toList args.toList ds p:=hA0;have hsz':(DataW.weightsEach ad (qu.params.toList++Rows.profileAddsSpec.plain.varTypes ad) (ds++gs)).all (·<=reachBytes)=true:=hsz;obtain⟨rfl,rfl⟩:=trodVars_none hV;rw[Tryz.params3] at hA hval hsz';obtain⟨v0,l0,d0,r0,p0,q0,ha0,rfl,rfl,t0,hA⟩:=trodAll_cons hA;obtain⟨v1,l1,d1,r1,p1,q1,rfl,rfl,rfl,t1,hA⟩:=trodAll_cons hA;obtain⟨v2,l2,d2,r2,p2,q2,rfl,rfl,rfl,t2,hA⟩:=trodAll_cons hA;obtain⟨v3,l3,d3,r3,p3,q3,rfl,rfl,rfl,t3,hA⟩:=trodAll_cons hA;obtain⟨v4,l4,d4,r4,p4,q4,rfl,rfl,rfl,t4,hA⟩:=trodAll_cons hA;obtain⟨rfl,rfl,rfl⟩:=trodAll_nil hA;obtain rfl:args=#[v0,v1,v2,v3,v4]:=by cases args;simp_all
 have hsm:∀(j:Nat)(t:TypeId)(d:DataW H),[24,24,25,5,2][j]? =some t->[d0,d1,d2,d3,d4][j]? =some d->xD ad t d:=λj t d ht hd n hn=>by have:=fq.1 hsz' n (A8 (j:=j) (t:=t) (d:=d) (by rw[List.getElem?_append_left (List.getElem?_eq_some_iff.1 ht).1];exact ht) (by rw[fh];exact hd) hn);simpa using this
 obtain⟨c0,rfl⟩:=tD AB (hval 0 24 v0 rfl rfl);obtain⟨c1,rfl⟩:=tD AB (hval 1 24 v1 rfl rfl);obtain⟨f0,g0⟩:=t0;obtain⟨f1,g1⟩:=t1;obtain⟨f2,g2⟩:=t2;obtain⟨f3,g3⟩:=t3;obtain⟨f4,g4⟩:=t4;have k0:=oB 4 f0 24 _ _ _ PA.kd24 g0 (hsm 0 24 d0 rfl rfl);have k1:=oB 4 f1 24 _ _ _ PA.kd24 g1 (hsm 1 24 d1 rfl rfl);have k2:=oB 4 f2 25 _ _ _ PA.kd25 g2 (hsm 2 25 d2 rfl rfl);have k3:=oB 4 f3 5 _ _ _ PA.kd5 g3 (hsm 3 5 d3 rfl rfl);have k4:=oB 4 f4 2 _ _ _ PA.kd2 g4 (hsm 4 2 d4 rfl rfl);have one:∀(v:Value)(t:TypeId)(k:Kd),(∀ cs,v≠.agg cs)->KdOK enc ad W 0 (λ_=>au) au [k] v.cells.toList->zV enc ad W 0 (λ_=>au) au k v:=λv t k hv h=>by
  have hc:v.cells.toList=[v]:=by cases v<;>first|rfl|exact absurd rfl (hv _)
  exact h.2 0 k v rfl (by rw[hc];rfl)
 have n2:∀ cs,v2≠.agg cs:=λcs e=>by have h:=hval 2 25 v2 rfl rfl;subst e;unfold qw at h;simp only[qv] at h;unfold Cell.okWide at h;simp only[qv] at h;unfold Cell.ok at h;simp only[qv] at h
 have n3:∀ cs,v3≠.agg cs:=λcs e=>by have h:=hval 3 5 v3 rfl rfl;subst e;unfold qw at h;simp only[um] at h;unfold Cell.okWide at h;simp only[um] at h;unfold Cell.ok at h;simp only[um] at h
 have n4:∀ cs,v4≠.agg cs:=λcs e=>by have h:=hval 4 2 v4 rfl rfl;subst e;unfold qw at h;simp only[uo] at h;unfold Cell.okWide at h;simp only[uo] at h;unfold Cell.ok at h;simp only[uo] at h
 simp only[fh] at hW';have hlt:∀ x∈p0++(p1++(p2++(p3++(p4++[])))),x.block<W.heap.size:=λx hx=>by simpa using hW'.lt x (by simpa using hx)
 refine(PA.law_calls (AA hx) k0 k1 (one v2 25 _ n2 k2) (one v3 5 _ n3 k3) (one v4 2 _ n4 k4)).mono λe W' ⟨he,hb⟩=>?_;subst he;have hos:({W' with os:=W.os}:World)=W':=by rw[<-hb.os]
 refine⟨_,rfl,?_,by rw[hb.os];exact Go.Clock.Later.refl _⟩;rw[hos];have sub:∀(t:TypeId)(v:Value)(d:DataW H)(ps:List MemPlace),ad.readableRec t=au->t<ad.types.size->DataW.Trod enc ad W 0 (λ_=>au) au t v d ps->(∀ x∈ps,x∈p0++(p1++(p2++(p3++(p4++[])))))->DataW.Trod enc ad W' 0 (λb=>decide (b<W.heap.size)) au t v d ps:=λt v d ps h1 h2 h3 h4=>Below.trod laidOut h1 h2 h3 hb λx hx=>hlt x (h4 x hx);refine⟨[d0,d1,d2,d3,d4],[],_,[],p0++(p1++(p2++(p3++(p4++[])))),[],hW',trodAll_mk1 (shut_bool Tryz.underlying4 _),?_,hb.trodVars laidOut qK hV,hb.frame _,λh=>by cases h⟩;exact trodAll_cons_mk (sub 24 _ d0 p0 qK (of_decide_eq_true qK) ⟨f0,g0⟩ (λx hx=>by simp[hx])) (trodAll_cons_mk (sub 24 _ d1 p1 qK (of_decide_eq_true qK) ⟨f1,g1⟩ (λx hx=>by simp[hx])) (trodAll_cons_mk (sub 25 _ d2 p2 qK (of_decide_eq_true qK) ⟨f2,g2⟩ (λx hx=>by simp[hx])) (trodAll_cons_mk (sub 5 _ d3 p3 qK (of_decide_eq_true qK) ⟨f3,g3⟩ (λx hx=>by simp[hx])) (trodAll_cons_mk (sub 2 _ d4 p4 qK (of_decide_eq_true qK) ⟨f4,g4⟩ (λx hx=>by simp[hx])) rfl))))
theorem holds:Rows.ProfileAddsSaid:=Go.Clock.holds_of_wide_time 3 qu rfl rfl rfl rfl rfl rfl rfl ⟨rfl,rfl,rfl,rfl,rfl⟩ rfl rfl rfl rfl rfl qK Tryz.func3 qK (of_decide_eq_true qK) (by unfold Func.isWrapper;first|(rw[if_pos (by decide+kernel)];kernel_rfl)|(rw[if_neg (by decide+kernel)];exact⟨rfl,rfl⟩)) (λos started H enc _ F=>lifted os started H enc F)
theorem profileAddsCard_holds:Rows.ProfileAddsCardSaid:=Claim7.holds_tied_plain_at .later [] [.mapped,.data] au (au,"1b6515028f490b31c31ec9f4f9008e1bb94de21b63bcc2f900928642a9f22cbb") au holds (λ_ h=>by cases h) qK (λ_ h=>by cases h) profileAdds_row_tie rfl ⟨rfl,rfl⟩ qK rfl (λf fn hf hfn=>by
   obtain rfl:f=3:=Option.some.inj ((show ad.funcNamed "speculate/speculatelaw15.ProfileAdds"=some 3 by kernel_rfl).symm.trans hf) |>.symm
   obtain rfl:fn=qu:=(Option.some.inj (Tryz.func3.symm.trans hfn)).symm
   exact⟨by kernel_rfl,λj t ht=>by
    rw[Tryz.params3] at ht;have hm:t∈[24,24,25,5,2]:=by simpa using Array.mem_of_getElem? ht
    have hall:([24,24,25,5,2].all λu=>!ad.wantsStandIn u)=true:=by kernel_rfl
    exact(show ad.wantsStandIn t=aa by simpa using fq.1 hall t hm)⟩)
  qK
#print axioms profileAddsCard_holds
end Go.Proofs.YtpjfmjemmphheabGreatDoor
