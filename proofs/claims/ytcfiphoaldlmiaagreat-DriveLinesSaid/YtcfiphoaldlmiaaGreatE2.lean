/- Parts of the proof that the last text states. -/
import Derived.Test.YtcfiphoaldlmiaaGreatE1
namespace Go.Own
open Go
set_option linter.unusedSectionVars false
variable [TB]
section
variable {w w':World}{I:BSet}{T:Array Value}{g:Gst}{Fs:Nat->BSet}
theorem SR.slotVal (h:SR w I T g Fs) {t:Nat}{x:AV}(hx:g t=some x):∃ v,T[t]?=some v/\valAt w T ⟨t,[]⟩=some v/\RT w I (RG w T g) x v (Fs t):=by
 obtain ⟨v,hv,hR⟩:=h.rel t x hx
 exact ⟨v,hv,by simp [valAt,hv,walk],hR⟩
theorem SR.app (h:SR w I T g Fs) {z n m:Nat}{p:Place}{bv v':Value}{e e2:TypeId}{us news:List Value}(hbv:RG w T g (.pend z p n 0 []) bv)
  (hno:∀ t z' n' m' new',g t≠some (.pend z' p n' m' new')) (A:AppRun w w' bv v' e e2 z n m us news):SR w' I T g Fs/\∀ r v,RG w T g r v->RG w' T g r v:=by
 cases hbb:bv.ownBlock with
 | none =>
  have same:∀ c,c<w.heap.size->w'.heap[c]?=w.heap[c]?:=fun c hc=>A.fr.block c hc (by rw [hbb]; simp)
  exact ⟨h.world (fun t c hc=>same c (h.ltF t c hc)) (fun c hc=>same c (h.lt c hc)) A.fr.size,fun r v hr=>h.ref_same (fun _ _=>rfl) (fun t c hc=>same c (h.ltF t c hc)) (fun _ _ h=>h) hr⟩
 | some b =>
  have s:Spare w w' b (n * z):=by
   refine ⟨fun c hc hne=>A.fr.block c hc (by rw [hbb]; simpa using Ne.symm hne),?_⟩
   obtain ⟨arr,arr',h1,h2,h3,h4⟩:=A.sp b hbb
   exact ⟨arr,arr',e,h1,h2,h3,h4⟩
  obtain ⟨t0,ht0⟩:=h.base_block hbv b hbb
  have hI:∀ c,I c->c<w.heap.size/\c≠b:=fun c hc=>⟨h.lt c hc,fun e=>h.imm t0 b ht0 (e ▸ hc)⟩
  obtain ⟨⟨ba,bcap,hbval,rfl⟩,hok⟩:=hbv
  -- the home of the block
  have home:∃ N:Place->Prop,(∀ q z' n' cs' vq,atP g q=some (.own z' n' cs')->valAt w T q=some vq->vq.ownBlock=some b->N q) /\
    (∀ q,N q->∀ t z' n' m' new',g t=some (.pend z' q n' m' new')->t=p.root/\p.path=[]) /\
    (∀ t z' q' n' m' new',Fs t b->g t=some (.pend z' q' n' m' new')->t=p.root/\p.path=[]) /\
    (∀ z' q' n' m' new',p.path=[]->g p.root=some (.pend z' q' n' m' new')->z'=z/\n=n'+m') /\
    (∀ t x v,Fs t b->g t=some x->T[t]?=some v->R w I (RG w T g) x v (Fs t)->∃ q z' n' cs' vy,x.at q=some (.own z' n' cs')/\walk w v q=some vy/\vy.ownBlock=some b/\n' * z'<=n * z):=by
   rcases hok with ⟨cs,hp⟩ | ⟨hp0,q1,n1,m1,new1,cs,hp,hn,hq1⟩
   ·-- the base is a row of a tree
    obtain ⟨vp,Fp,hvp,hRp,hFp⟩:=h.part hp (by simp)
    rw [hbval] at hvp
    cases hvp
    have hroot:t0=p.root:=h.dis _ _ _ ht0 (hFp b (hRp.own_block b hbb))
    obtain ⟨x0,hx0⟩:∃ x0,g p.root=some x0:=by
     unfold atP at hp
     cases hx:g p.root with
     | none=>rw [hx] at hp; cases hp
     | some x=>exact ⟨x,rfl⟩
    have hat0:x0.at p.path=some (.own z n cs):=by simpa [atP,hx0] using hp
    have notPend:∀ z' q' n' m' new',g p.root≠some (.pend z' q' n' m' new'):=by
     intro z' q' n' m' new' hh
     rw [hx0] at hh
     cases hh
     have:=(AV.at_pend hat0).2
     simp at this
    obtain ⟨v0,hv0,hR0⟩:=h.rel _ _ hx0
    have hR0':=hR0.isTree (fun z' q' n' m' new' e=>notPend z' q' n' m' new' (by rw [hx0,e]))
    have hw0:walk w v0 p.path=some (.slice ba n bcap):=by simpa [valAt,hv0] using hbval
    refine ⟨fun q=>q=p,?_,?_,?_,?_,?_⟩
    ·intro q z' n' cs' vq hq hvq hbq
     obtain ⟨vq',Fq,hvq',hRq,hFq⟩:=h.part hq (by simp)
     rw [hvq] at hvq'
     cases hvq'
     have hr:q.root=p.root:=(h.dis _ _ _ (hFq b (hRq.own_block b hbq)) ht0).trans hroot
     have hatq:x0.at q.path=some (.own z' n' cs'):=by simpa [atP,hr,hx0] using hq
     have hwq:walk w v0 q.path=some vq:=by simpa [valAt,hr,hv0] using hvq
     have:=R.node_inj q.path p.path hR0' hatq hat0 hwq hw0 hbq hbb
     cases q; cases p; simp_all
    ·rintro q rfl t z' n' m' new' hh; exact absurd hh (hno t z' n' m' new')
    ·intro t z' q' n' m' new' htb hh
     have:t=p.root:=(h.dis _ _ _ htb ht0).trans hroot
     rw [this] at hh
     exact absurd hh (notPend _ _ _ _ _)
    ·intro z' q' n' m' new' _ hh; exact absurd hh (notPend _ _ _ _ _)
    ·intro t x v htb hx hv hR
     have:t=p.root:=(h.dis _ _ _ htb ht0).trans hroot
     subst this
     rw [hx0] at hx; cases hx
     rw [hv0] at hv; cases hv
     exact ⟨_,_,_,_,_,hat0,hw0,hbb,Nat.le_refl _⟩
   ·-- the base is behind an append itself
    obtain ⟨v0,hv0,hva0,hR0⟩:=h.slotVal hp
    have hv0':v0=.slice ba n bcap:=by
     have:(⟨p.root,[]⟩:Place)=p:=by cases p; simp_all
     rw [this,hbval] at hva0
     exact (Option.some.inj hva0).symm
    subst hv0'
    obtain ⟨bv1,e1,e12,us1,news1,hR0⟩:=hR0.isPend
    by_cases hb1:bv1.ownBlock=some b
    ·obtain ⟨⟨a1,cap1,hval1,rfl⟩,_⟩:=hR0.hbv
     obtain ⟨vq,Fq,hvq,hRq,hFq⟩:=h.part hq1 (by simp)
     rw [hval1] at hvq
     cases hvq
     have hroot:t0=q1.root:=h.dis _ _ _ ht0 (hFq b (hRq.own_block b hb1))
     obtain ⟨x0,hx0⟩:∃ x0,g q1.root=some x0:=by
      unfold atP at hq1
      cases hx:g q1.root with
      | none=>rw [hx] at hq1; cases hq1
      | some x=>exact ⟨x,rfl⟩
     have hat0:x0.at q1.path=some (.own z n1 cs):=by simpa [atP,hx0] using hq1
     have notPend:∀ z' q' n' m' new',g q1.root≠some (.pend z' q' n' m' new'):=by
      intro z' q' n' m' new' hh
      rw [hx0] at hh
      cases hh
      have:=(AV.at_pend hat0).2
      simp at this
     obtain ⟨v1,hv1,hR1⟩:=h.rel _ _ hx0
     have hR1':=hR1.isTree (fun z' q' n' m' new' e=>notPend z' q' n' m' new' (by rw [hx0,e]))
     have hw0:walk w v1 q1.path=some (.slice a1 n1 cap1):=by simpa [valAt,hv1] using hval1
     refine ⟨fun q=>q=q1,?_,?_,?_,?_,?_⟩
     ·intro q z' n' cs' vq hq hvq hbq
      obtain ⟨vq',Fq',hvq',hRq',hFq'⟩:=h.part hq (by simp)
      rw [hvq] at hvq'
      cases hvq'
      have hr:q.root=q1.root:=(h.dis _ _ _ (hFq' b (hRq'.own_block b hbq)) ht0).trans hroot
      have hatq:x0.at q.path=some (.own z' n' cs'):=by simpa [atP,hr,hx0] using hq
      have hwq:walk w v1 q.path=some vq:=by simpa [valAt,hr,hv1] using hvq
      have:=R.node_inj q.path q1.path hR1' hatq hat0 hwq hw0 hbq hb1
      cases q; cases q1; simp_all
     ·rintro q rfl t z' n' m' new' hh; exact ⟨h.pok _ _ _ _ _ _ _ _ _ _ _ hh hp,hp0⟩
     ·intro t z' q' n' m' new' htb hh
      have:t=q1.root:=(h.dis _ _ _ htb ht0).trans hroot
      rw [this] at hh
      exact absurd hh (notPend _ _ _ _ _)
     ·intro z' q' n' m' new' _ hh
      rw [hp] at hh; cases hh; exact ⟨rfl,hn⟩
     ·intro t x v htb hx hv hR
      have:t=q1.root:=(h.dis _ _ _ htb ht0).trans hroot
      subst this
      rw [hx0] at hx; cases hx
      rw [hv1] at hv; cases hv
      exact ⟨_,_,_,_,_,hat0,hw0,hb1,Nat.mul_le_mul_right _ (by omega)⟩
    ·have hF0:Fs p.root b:=(hR0.hF b).2 ⟨hbb,hb1⟩
     have hroot:t0=p.root:=h.dis _ _ _ ht0 hF0
     refine ⟨fun _=>False,?_,fun _ h=>h.elim,?_,?_,?_⟩
     ·intro q z' n' cs' vq hq hvq hbq
      obtain ⟨vq',Fq',hvq',hRq',hFq'⟩:=h.part hq (by simp)
      rw [hvq] at hvq'
      cases hvq'
      have hr:q.root=p.root:=h.dis _ _ _ (hFq' b (hRq'.own_block b hbq)) hF0
      unfold atP at hq
      rw [hr,hp] at hq
      have:=(AV.at_pend hq).2
      simp at this
     ·intro t z' q' n' m' new' htb _; exact ⟨h.dis _ _ _ htb hF0,hp0⟩
     ·intro z' q' n' m' new' _ hh
      rw [hp] at hh; cases hh; exact ⟨rfl,hn⟩
     ·intro t x v htb hx hv hR
      have:t=p.root:=h.dis _ _ _ htb hF0
      subst this
      rw [hp] at hx; cases hx
      exact hR.notPend.elim
  obtain ⟨N,hN1,hN2,hN3,hN4,hN5⟩:=home
  -- rows of pends
  have pends:∀ t z' q' n' m' new' v bv' e' e2' us' news',g t=some (.pend z' q' n' m' new')->T[t]?=some v->RPend w I (RG w T g) z' q' n' m' new' v (Fs t) bv' e' e2' us' news' ->
    (v.ownBlock=some b->(n'+m') * z'<=n * z)/\(bv'.ownBlock=some b->n' * z'<=n * z):=by
   intro t z' q' n' m' new' v bv' e' e2' us' news' hg hv hR
   by_cases ht:t=p.root/\p.path=[]
   ·obtain ⟨rfl,hp0⟩:=ht
    obtain ⟨rfl,rfl⟩:=hN4 _ _ _ _ _ hp0 hg
    exact ⟨fun _=>Nat.le_refl _,fun _=>Nat.mul_le_mul_right _ (by omega)⟩
   ·have hbase:bv'.ownBlock≠some b:=by
     intro hb'
     obtain ⟨⟨a2,cap2,hval2,rfl⟩,hok2⟩:=hR.hbv
     rcases hok2 with ⟨cs2,h2⟩ | ⟨h0,q3,n3,m3,new3,cs3,h2,h3,h4⟩
     ·exact ht (hN2 q' (hN1 q' _ _ _ _ h2 hval2 hb') t _ _ _ _ hg)
     ·obtain ⟨v2,hv2,hva2,hR2⟩:=h.slotVal h2
      have hq':(⟨q'.root,[]⟩:Place)=q':=by cases q'; simp_all
      rw [hq',hval2] at hva2
      cases hva2
      have hroot2:q'.root=p.root/\p.path=[]->False:=by
       rintro ⟨hr,hp0⟩
       have:q'=p:=by cases q'; cases p; simp_all
       exact hno t z' n' m' new' (this ▸ hg)
      obtain ⟨bv3,e3,e32,us3,news3,hR2⟩:=hR2.isPend
      by_cases hb3:bv3.ownBlock=some b
      ·obtain ⟨⟨a4,cap4,hval4,rfl⟩,_⟩:=hR2.hbv
       exact hroot2 (hN2 q3 (hN1 q3 _ _ _ _ h4 hval4 hb3) _ _ _ _ _ h2)
      ·exact hroot2 (hN3 _ _ _ _ _ _ ((hR2.hF b).2 ⟨hb',hb3⟩) h2)
    refine ⟨fun hvb=>?_,fun hb'=>absurd hb' hbase⟩
    exact absurd (hN3 _ _ _ _ _ _ ((hR.hF b).2 ⟨hvb,hbase⟩) hg) ht
  -- trees
  have hlt:=h.ltF
  have trees:∀ t x v (ρ':AV->Value->Prop),(∀ x v,RG w T g x v->ρ' x v)->g t=some x->T[t]?=some v->R w I (RG w T g) x v (Fs t)->R w' I ρ' x v (Fs t)/\∀ r y,x.at r=some y->walk w' v r=walk w v r:=by
   intro t x v ρ' hρ hx hv hR
   by_cases htb:Fs t b
   ·obtain ⟨q,z',n',cs',vy,h1,h2,h3,h4⟩:=hN5 t x v htb hx hv hR
    exact hR.spare s hI hρ h1 h2 h3 h4
   ·have same:∀ c,Fs t c->w'.heap[c]?=w.heap[c]?:=fun c hc=>s.other c (hlt t c hc) fun e=>htb (e ▸ hc)
    exact ⟨hR.frame (fun c hc=>s.other c (hI c hc).1 (hI c hc).2) (fun _ h=>h) hρ same,fun r y hr=>R.walk_frame r hR hr same⟩
  have val:∀ q y,atP g q=some y->valAt w' T q=valAt w T q:=by
   intro q y hq
   unfold atP at hq
   cases hx:g q.root with
   | none=>rw [hx] at hq; cases hq
   | some x =>
    rw [hx] at hq
    obtain ⟨v,hv,hR⟩:=h.rel _ _ hx
    cases hR with
    | tree hR=>have:=(trees _ x v _ (fun _ _ h=>h) hx hv hR).2 q.path y hq; simp [valAt,hv,this]
    | pend hR=>simp [valAt,hv,(AV.at_pend hq).1,walk]
  have slot:∀ {q:Place}{x:AV},q.path=[]->g q.root=some x->valAt w' T q=valAt w T q:=by
   intro q x hq hx
   obtain ⟨v,hv,_⟩:=h.rel _ _ hx
   simp [valAt,hq,walk]
  have refs:∀ r v,RG w T g r v->RG w' T g r v:=by
   rintro r v ⟨h1,h2⟩
   refine ⟨?_,h2⟩
   cases r <;> simp only [RefAt,RefOk] at h1 h2 ⊢
   case ptr q k=>obtain ⟨y,hy,_⟩:=h2; rw [val q y hy]; exact h1
   case brw z' q n' =>
    rcases h2 with ⟨_,_,h2,_⟩ | ⟨h0,_,_,_,_,h2,_⟩
    ·rw [val q _ h2]; exact h1
    ·rw [slot h0 h2]; exact h1
   case sub z' q lo n'=>obtain ⟨_,_,h2,_⟩:=h2; rw [val q _ h2]; exact h1
   case mref q=>obtain ⟨_,h2⟩:=h2; rw [val q _ h2]; exact h1
   case pend z' q n' m' new' =>
    rcases h2 with ⟨_,h2⟩ | ⟨h0,_,_,_,_,_,h2,_⟩
    ·rw [val q _ h2]; exact h1
    ·rw [slot h0 h2]; exact h1
  refine ⟨⟨fun t x hx=>?_,h.non,h.dis,h.imm,fun c hc=>Nat.lt_of_lt_of_le (h.lt c hc) A.fr.size,h.pok,TB.keep h.tb (fun c hc=>s.other c (hI c hc).1 (hI c hc).2) fun _ h=>h⟩,refs⟩
  obtain ⟨v,hv,hR⟩:=h.rel t x hx
  refine ⟨v,hv,?_⟩
  cases hR with
  | tree hR=>exact .tree (trees t x v _ refs hx hv hR).1
  | @pend z' n' m' q' new' _ bv' e' e2' us' news' _ hR =>
   obtain ⟨p1,p2⟩:=pends t _ _ _ _ _ v bv' e' e2' us' news' hx hv hR
   refine .pend ⟨refs _ _ hR.hbv,s.row hR.hob p2,s.row hR.hov p1,hR.hl,hR.h1,fun k x u hx hu=>?_,hR.hF⟩
   exact (hR.hr k x u hx hu).frame (fun c hc=>s.other c (hI c hc).1 (hI c hc).2) (fun _ h=>h) refs fun c hc=>hc.elim
end
end Go.Own
namespace Go.Own
open Go
set_option linter.unusedSectionVars false
variable [TB]
def Gives (w:World) (I:BSet) (T:Array Value) (g:Gst) (Fs:Nat->BSet) (x:AV) (v:Value) (w':World):Prop :=
 ∃ F I',SR w' I' T g Fs/\RT w' I' (RG w' T g) x v F/\(∀ t c,F c->¬ Fs t c)/\(∀ c,F c->w.heap.size<=c/\¬ I' c)/\(∀ c,I c->I' c)/\(∀ c,I' c->I c\/w.heap.size<=c)/\Fr w w' (fun c=>∃ t,Fs t c)/\(∀ z p n m new,x=.pend z p n m new->∀ t z' n' m' new',g t≠some (.pend z' p n' m' new'))
inductive Src (g:Gst):AV->Nat->Nat->List AV->Prop
 | imm {z m:Nat}{cs:List AV}:Src g (.imm z m cs) z m cs
 | nils {z:Nat}:Src g .nils z 0 []
 | brw {z m N:Nat}{q:Place}{cs:List AV}(hq:atP g q=some (.own z N cs)) (hm:m<=N):Src g (.brw z q m) z m ((cs.take (m * z)).mapIdx fun i x=>refIn 0 (q.push i) x)
 | sub {z lo m N:Nat}{q:Place}{cs:List AV}(hq:atP g q=some (.own z N cs)) (hm:lo+m<=N):Src g (.sub z q lo m) z m (((cs.drop (lo * z)).take (m * z)).mapIdx fun i x=>refIn 0 (q.push (lo * z+i)) x)
def appT (P:Program) (t e:TypeId) (z b:Nat):Bool :=
 match P.underlying t,P.info? e with
 | some (.slice e'),some i=>e' == e&&i.size == z&&i.bytes == b&&z != 0&&(match i.zero with | some v=>v.cells.size == z | none=>false)
 | _,_=>false
section
variable {P:Program}{w:World}{I:BSet}{T:Array Value}{g:Gst}{Fs:Nat->BSet}
theorem appT_spec {t e:TypeId}{z b:Nat}(h:appT P t e z b=true):∃ i zv,P.underlying t=some (.slice e)/\P.info? e=some i/\i.size=z/\i.bytes=b/\0<z/\i.zero=some zv/\zv.cells.size=z:=by
 unfold appT at h
 cases hu:P.underlying t with
 | none=>simp [hu] at h
 | some d =>
  cases hi:P.info? e with
  | none=>cases d <;> simp [hu,hi] at h
  | some i =>
   cases d <;> simp [hu,hi] at h
   obtain ⟨⟨⟨⟨rfl,h1⟩,h2⟩,h3⟩,h4⟩:=h
   cases hz:i.zero with
   | none=>simp [hz] at h4
   | some zv=>simp [hz] at h4; exact ⟨i,zv,rfl,rfl,h1,h2,by omega,hz,h4⟩
theorem Src.sound (h:SR w I T g Fs) {y:AV}{v:Value}{z m:Nat}{cells:List AV}(hs:Src g y z m cells) (hR:R w I (RG w T g) y v E0) :
  ∃ (a:Option Addr) (c:Nat) (news:List Value),v=.slice a m c/\news.length=m * z/\(0<m->0<z->a.isSome=true)/\(∀ ad,a=some ad->∀ (j:Nat) (u:Value),news[j]?=some u->w.cell? (ad.add j)=some u)/\Cells w I (RG w T g) cells news:=by
 have ofNode:∀ {q:Place}{N:Nat}{cs:List AV}(lo:Nat) {a:Option Addr}{cap:Nat},atP g q=some (.own z N cs)->valAt w T q=some (.slice a N cap)->lo+m<=N ->
   ∃ news:List Value,news.length=m * z/\(∀ ad,a=some ad->∀ (j:Nat) (u:Value),news[j]?=some u->w.cell? ⟨ad.block,lo * z+j,none⟩=some u)/\Cells w I (RG w T g) (((cs.drop (lo * z)).take (m * z)).mapIdx fun i x=>refIn 0 (q.push (lo * z+i)) x) news/\(0<m->0<z->∃ b,a=some ⟨b,0,none⟩):=by
  intro q N cs lo a cap hq hv hm
  obtain ⟨v',Fy,hv',hRy,_⟩:=h.part hq (by simp)
  rw [hv] at hv'
  cases hv'
  obtain ⟨a',cap',hsl,_,hlen,hoff,_⟩:=hRy.own_slice
  cases hsl
  have hbd:lo * z+m * z<=cs.length:=by rw [hlen,<- Nat.add_mul]; exact Nat.mul_le_mul_right _ hm
  have cell:∀ j,j<m * z->∃ b uu xx,a=some ⟨b,0,none⟩/\w.cell? ⟨b,lo * z+j,none⟩=some uu/\uu.oneCell'=true/\cs[lo * z+j]?=some xx/\R w I (RG w T g) (refIn 0 (q.push (lo * z+j)) xx) uu E0:=by
   intro j hj
   have hx':cs[lo * z+j]?=some cs[lo * z+j]:=List.getElem?_eq_getElem (by omega)
   obtain ⟨b,uu,had,hcell,hch,hone,Fk,hRk⟩:=hRy.node (.inl rfl) hx'
   refine ⟨b,uu,_,?_,hcell,hone,hx',refIn_sound 0 (by rw [atP_push,hq]; simp [AV.kids]) (by rw [valAt_push,hv]; exact hch) hRk⟩
   cases a with
   | none=>simp [addrOf] at had
   | some ad=>simp only [addrOf] at had; rw [Option.some.inj had]
  have hnews:∃ news:List Value,news.length=m * z/\∀ j,j<m * z->∃ b uu xx,news[j]?=some uu/\a=some ⟨b,0,none⟩/\w.cell? ⟨b,lo * z+j,none⟩=some uu/\uu.oneCell'=true/\cs[lo * z+j]?=some xx/\R w I (RG w T g) (refIn 0 (q.push (lo * z+j)) xx) uu E0:=by
   refine ⟨(List.range (m * z)).map fun j=>(w.cell? ⟨(a.map (·.block)).getD 0,lo * z+j,none⟩).getD undef,by simp,fun j hj=>?_⟩
   obtain ⟨b,uu,xx,h1,h2,h3,h4,h5⟩:=cell j hj
   refine ⟨b,uu,xx,?_,h1,h2,h3,h4,h5⟩
   rw [List.getElem?_map,List.getElem?_range hj,h1]
   simp [h2]
  obtain ⟨news,hl,hn⟩:=hnews
  refine ⟨news,hl,fun ad had j u hj=>?_,⟨?_,fun j u hj=>?_,fun j x u hx hj=>?_⟩,fun hm0 hz0=>?_⟩
  ·obtain ⟨b,uu,xx,h1,h2,h3,_⟩:=hn j (by rw [<- hl]; exact (List.getElem?_eq_some_iff.1 hj).1)
   rw [h1] at hj; cases hj
   rw [had] at h2; cases h2
   exact h3
  ·simp; omega
  ·obtain ⟨b,uu,xx,h1,h2,h3,h4,_⟩:=hn j (by rw [<- hl]; exact (List.getElem?_eq_some_iff.1 hj).1)
   rw [h1] at hj; cases hj; exact h4
  ·obtain ⟨b,uu,xx,h1,h2,h3,h4,h5,h6⟩:=hn j (by rw [<- hl]; exact (List.getElem?_eq_some_iff.1 hj).1)
   rw [h1] at hj; cases hj
   rw [List.getElem?_mapIdx,List.getElem?_take] at hx
   split at hx
   ·rw [List.getElem?_drop,h5] at hx
    simp only [Option.map_some,Option.some.injEq] at hx
    rw [<- hx]; exact h6
   ·cases hx
  ·obtain ⟨b,_,_,h1,_⟩:=cell 0 (Nat.mul_pos hm0 hz0)
   exact ⟨b,h1⟩
 cases hs with
 | imm =>
  obtain ⟨a,cap,rfl,_,hlen,hm⟩:=hR.inv_imm
  by_cases h0:cells≠[]\/0<m
  ·obtain ⟨ad,us,rfl,hI,hsp,hone,hc,hr⟩:=hm h0
   refine ⟨_,cap,(List.range cells.length).map us,rfl,by simp [hlen],by simp,fun ad' had j u hj=>?_,⟨by simp,fun j u hj=>?_,fun j x u hx hj=>?_⟩⟩
   ·cases had
    rw [List.getElem?_map] at hj
    by_cases hjl:j<cells.length
    ·rw [List.getElem?_range hjl] at hj
     simp only [Option.map_some,Option.some.injEq] at hj
     obtain ⟨b,o,sp⟩:=ad
     simp only at hsp
     subst hsp
     rw [add_eq,<- hj]
     exact hc j _ (List.getElem?_eq_getElem hjl)
    ·rw [List.getElem?_eq_none (by simp; omega)] at hj; cases hj
   ·rw [List.getElem?_map] at hj
    by_cases hjl:j<cells.length
    ·rw [List.getElem?_range hjl] at hj
     simp only [Option.map_some,Option.some.injEq] at hj
     rw [<- hj]
     exact hone j _ (List.getElem?_eq_getElem hjl)
    ·rw [List.getElem?_eq_none (by simp; omega)] at hj; cases hj
   ·rw [List.getElem?_map] at hj
    have hjl:j<cells.length:=(List.getElem?_eq_some_iff.1 hx).1
    rw [List.getElem?_range hjl] at hj
    simp only [Option.map_some,Option.some.injEq] at hj
    rw [<- hj]
    exact hr j x hx
  ·have hm0:m=0:=by omega
   have hc0:cells=[]:=Classical.byContradiction fun e=>h0 (.inl e)
   subst hm0 hc0
   exact ⟨a,cap,[],rfl,by simp,by simp,by simp,by simp [Cells]⟩
 | nils =>
  rw [hR.inv_nils]
  exact ⟨none,0,[],rfl,by simp,by simp,by simp,by simp [Cells]⟩
 | @brw _ _ N q cs hq hm =>
  obtain ⟨⟨a,N',cap,h1,rfl,h3⟩,h4⟩:=hR.inv_brw
  obtain ⟨v',Fy,hv',hRy,_⟩:=h.part hq (by simp)
  obtain ⟨a',cap',hsl,_⟩:=hRy.own_slice
  rw [h1] at hv'
  cases hv'
  cases hsl
  obtain ⟨news,hl,hc,hcs,ha⟩:=ofNode 0 hq h1 (by omega)
  simp only [Nat.zero_mul,List.drop_zero,Nat.zero_add] at hcs hc
  refine ⟨a,cap,news,rfl,hl,fun h0 h0'=>by obtain ⟨b,rfl⟩:=ha h0 h0'; rfl,fun ad had j u hj=>?_,hcs⟩
  have hj':=hc ad had j u hj
  by_cases h0:0<m/\0<z
  ·obtain ⟨b,hb⟩:=ha h0.1 h0.2
   rw [had] at hb; cases hb
   rw [add_eq]; simpa using hj'
  ·have:m * z=0:=by
    rcases Nat.eq_zero_or_pos m with h | h
    ·simp [h]
    ·rcases Nat.eq_zero_or_pos z with h' | h'
     ·simp [h']
     ·exact absurd ⟨h,h'⟩ h0
   have:=(List.getElem?_eq_some_iff.1 hj).1
   omega
 | @sub _ lo _ N q cs hq hm =>
  obtain ⟨⟨a,N',cap,a',cap',h1,rfl,_,h3,h5⟩,h4⟩:=hR.inv_sub
  obtain ⟨v',Fy,hv',hRy,_⟩:=h.part hq (by simp)
  obtain ⟨a2,cap2,hsl,_⟩:=hRy.own_slice
  rw [h1] at hv'
  cases hv'
  cases hsl
  obtain ⟨news,hl,hc,hcs,ha⟩:=ofNode lo hq h1 hm
  refine ⟨a',cap',news,rfl,hl,fun h0 _=>by obtain ⟨ad,_,rfl⟩:=h5 h0; rfl,fun ad had j u hj=>?_,hcs⟩
  have hlt:=(List.getElem?_eq_some_iff.1 hj).1
  have h0:0<m:=(Nat.eq_zero_or_pos m).elim (fun h=>by rw [h] at hl; omega) id

  have hz:0<z:=(Nat.eq_zero_or_pos z).elim (fun h=>by rw [h] at hl; omega) id

  obtain ⟨ad',h6,h7⟩:=h5 h0
  obtain ⟨b,hb⟩:=ha h0 hz
  rw [h6] at hb; cases hb
  rw [had] at h7; cases h7
  have hj':=hc _ h6 j u hj
  rw [add_eq]; simpa using hj'
end
end Go.Own
namespace Go.Own
open Go
set_option linter.unusedSectionVars false
variable [TB]
inductive PSA (P:Program) (g:Gst):Op->TypeId->AV->Prop
 | grow {s x:Operand}{t e ty:TypeId}{z b n m:Nat}{p:Place}{y:AV}{cells:List AV}(hs:opd g s=some (.brw z p n)) (hok:RefOk g (.pend z p n 0 [])) (hno:∀ t z' n' m' new',g t≠some (.pend z' p n' m' new'))
   (hx:opd g x=some y) (hsrc:Src g y z m cells) (ht:appT P t e z b=true) (h63:n+m<=4611686018427387904) (hb:(n+m) * b<=140737488355328) :
   PSA P g (.call { callee:=.builtin .append,args:=#[s,x],argTypes:=#[t,t] }) ty (.pend z p n m cells)
 | nil {s x:Operand}{t e ty:TypeId}{z b m:Nat}{y:AV}{cells:List AV}(hs:opd g s=some .nils)
   (hx:opd g x=some y) (hsrc:Src g y z m cells) (ht:appT P t e z b=true) (h63:m<=4611686018427387904) (hb:m * b<=140737488355328) :
   PSA P g (.call { callee:=.builtin .append,args:=#[s,x],argTypes:=#[t,t] }) ty (.own z m cells)
inductive PS (P:Program) (g:Gst):Op->TypeId->AV->Prop
 | p1 {op:Op}{ty:TypeId}{x:AV}(h:PS1 P g op ty x):PS P g op ty x
 | p2 {op:Op}{ty:TypeId}{x:AV}(h:PS2 P g op ty x):PS P g op ty x
 | p3 {op:Op}{ty:TypeId}{x:AV}(h:PS3 P g op ty x):PS P g op ty x
 | pa {op:Op}{ty:TypeId}{x:AV}(h:PSA P g op ty x):PS P g op ty x
section
variable {P:Program}{w:World}{I:BSet}{T:Array Value}{g:Gst}{Fs:Nat->BSet}
theorem Cells.frame {w':World}{cells:List AV}{news:List Value}(hc:Cells w I (RG w T g) cells news) (hI:∀ c,I c->w'.heap[c]?=w.heap[c]?) (hr:∀ r v,RG w T g r v->RG w' T g r v):Cells w' I (RG w' T g) cells news :=
 ⟨hc.1,hc.2.1,fun k x u hx hu=>(hc.2.2 k x u hx hu).frame hI (fun _ h=>h) hr fun _ h=>h.elim⟩
theorem PSA.sound (h:SR w I T g Fs) {a:Act}(ha:a.tmps=T) {o:Oper}{xv:AV}(hp:PSA P g o.op o.type xv) :
  ∃ v w',(execOp a.eval o).run P w=.ok (.value v) w'/\Gives w I T g Fs xv v w':=by
 obtain ⟨dst,op,ty,pos,after,guard⟩:=o
 simp only at hp
 cases hp with
 | @grow s x t e _ z b n m p y cells hs hok hno hx hsrc ht h63 hb =>
  obtain ⟨i,zv,hu,hi,rfl,rfl,h0,hz,hzs⟩:=appT_spec ht
  obtain ⟨⟨ba,N,bcap,h1,h2,h3⟩,h4⟩:=(opd_sound h hs ha).inv_brw
  obtain ⟨sa,sc,news,hsv,hl,hsa,hsn,hcs⟩:=hsrc.sound h (opd_sound h hx ha)
  -- the row of the base
  have hrow:N=n/\∃ e' us,w.ownsRow 0 e' i.size (.slice ba n bcap) n us:=by
   rcases hok with ⟨cs,hp⟩ | ⟨hp0,q,n0,m0,new,cs,hp,rfl,_⟩
   ·obtain ⟨v',Fy,hv',hRy,_⟩:=h.part hp (by simp)
    rw [h1] at hv'
    cases hv'
    obtain ⟨a',cap',hsl,_⟩:=hRy.own_slice
    cases hsl
    cases hRy with
    | own ho=>exact ⟨rfl,_,_,ho⟩
    | ref hx=>simp [AV.isRef] at hx
   ·obtain ⟨v0,hv0,hva0,hR0⟩:=h.slotVal hp
    have hq:(⟨p.root,[]⟩:Place)=p:=by cases p; simp_all
    rw [hq,h1] at hva0
    cases hva0
    obtain ⟨bv,e1,e2,us,nw,hR0⟩:=hR0.isPend
    have hN:N=n0+m0:=by
     obtain ⟨_,hh⟩:=hR0.hov
     rcases hh with ⟨hh,hn⟩ | ⟨g,cap,cur,hh,_⟩
     ·cases hh; omega
     ·cases hh; rfl
    subst hN
    exact ⟨rfl,_,_,hR0.hov⟩
  obtain ⟨rfl,e',us,hob⟩:=hrow
  have hbv:RG w T g (.pend i.size p N 0 []) (.slice ba N bcap):=⟨⟨ba,bcap,h1,rfl⟩,hok⟩
  obtain ⟨v',w',e2,hrun,A⟩:=run_app (P:=P) (w:=w) t ty e e' i zv hu hi hz hzs h0 hob (a:=sa) (c:=sc) (m:=m) (news:=news) (fun hm=>hsa hm h0) hl hsn (fun u hu=>by
   obtain ⟨k,hk,rfl⟩:=List.mem_iff_getElem.1 hu
   exact hcs.2.1 k _ (List.getElem?_eq_getElem hk)) (by unfold maxLen; omega) hb
  obtain ⟨hS,hrefs⟩:=h.app hbv hno A
  refine ⟨v',w',by simp [execOp,resolve,invoke,builtin,h2,hsv,hrun],(fun c=>v'.ownBlock=some c/\(Value.slice ba N bcap).ownBlock≠some c),I,hS,?_,?_,?_,fun _ h=>h,fun _ h=>.inl h,?_,?_⟩
  ·have hI:∀ c,I c->w'.heap[c]?=w.heap[c]?:=by
    intro c hc
    refine A.fr.block c (h.lt c hc) fun hb=>?_
    obtain ⟨t,ht⟩:=h.base_block hbv c hb
    exact h.imm t c ht hc
   have hcs':=hcs.frame hI hrefs
   exact .pend ⟨hrefs _ _ hbv,A.old,A.new,hcs'.1,hcs'.2.1,hcs'.2.2,fun c=>Iff.rfl⟩
  ·rintro t c ⟨hc1,hc2⟩ hf
   rcases A.blk c hc1 with h | h'
   ·exact hc2 h
   ·have:=h.ltF t c hf; omega
  ·rintro c ⟨hc1,hc2⟩
   rcases A.blk c hc1 with h' | h'
   ·exact absurd h' hc2
   ·exact ⟨h',fun hi=>by have:=h.lt c hi; omega⟩
  ·exact A.fr.mono fun c _ hc=>h.base_block hbv c hc
  ·intro z' p' n' m' new' he
   cases he
   exact hno
 | @nil s x t e _ z b m y cells hs hx hsrc ht h63 hb =>
  obtain ⟨i,zv,hu,hi,rfl,rfl,h0,hz,hzs⟩:=appT_spec ht
  have h2:=(opd_sound h hs ha).inv_nils
  obtain ⟨sa,sc,news,hsv,hl,hsa,hsn,hcs⟩:=hsrc.sound h (opd_sound h hx ha)
  obtain ⟨v',w',e2,hrun,A⟩:=run_app (P:=P) (w:=w) t ty e e i zv hu hi hz hzs h0 (World.ownsRow_nil w 0 e i.size) (a:=sa) (c:=sc) (m:=m) (news:=news) (fun hm=>hsa hm h0) hl hsn (fun u hu=>by
   obtain ⟨k,hk,rfl⟩:=List.mem_iff_getElem.1 hu
   exact hcs.2.1 k _ (List.getElem?_eq_getElem hk)) (by unfold maxLen; omega) (by simpa using hb)
  have same:∀ c,c<w.heap.size->w'.heap[c]?=w.heap[c]?:=fun c hc=>A.fr.block c hc (by simp [Value.ownBlock])
  have hnew:=A.new
  simp only [Nat.zero_add,List.nil_append] at hnew
  have hcs':=hcs.frame (fun c hc=>same c (h.lt c hc)) fun r v hr=>h.ref_same (fun _ _=>rfl) (fun t c hc=>same c (h.ltF t c hc)) (fun _ _ h=>h) hr
  have hblk:∀ c,v'.ownBlock=some c->w.heap.size<=c:=fun c hc=>(A.blk c hc).elim (fun h=>by simp [Value.ownBlock] at h) id
  refine ⟨v',w',by simp [execOp,resolve,invoke,builtin,h2,hsv,hrun],(fun c=>v'.ownBlock=some c),I,h.world (fun t c hc=>same c (h.ltF t c hc)) (fun c hc=>same c (h.lt c hc)) A.fr.size,?_,?_,fun c hc=>⟨hblk c hc,fun hi=>by have:=h.lt c hi; have:=hblk c hc; omega⟩,fun _ h=>h,fun _ h=>.inl h,?_,?_⟩
  ·exact .tree (.own (Fs:=fun _=>E0) hnew hcs'.1 hcs'.2.1 hcs'.2.2 (fun _ _ _ _ _ h=>h.elim) (fun _ _ _ h=>h.elim) fun c=>⟨.inl,fun h=>h.elim id fun ⟨_,_,h⟩=>h.elim⟩)
  ·intro t c hc hf; have:=hblk c hc; have:=h.ltF t c hf; omega
  ·exact A.fr.mono fun c _ hc=>by simp [Value.ownBlock] at hc
  ·intro z' p' n' m' new' he; cases he
theorem PS.sound (h:SR w I T g Fs) {a:Act}(ha:a.tmps=T) {o:Oper}{xv:AV}(hp:PS P g o.op o.type xv) :
  ∃ v w',(execOp a.eval o).run P w=.ok (.value v) w'/\Gives w I T g Fs xv v w':=by
 have noPend:∀ {v:Value}{F:BSet},R w I (RG w T g) xv v F->∀ z p n m new,xv=.pend z p n m new->∀ t z' n' m' new',g t≠some (.pend z' p n' m' new'):=by
  rintro v F hR z p n m new rfl
  exact hR.notPend.elim
 cases hp with
 | p1 hp =>
  obtain ⟨v,hr,hR⟩:=hp.sound h ha
  exact ⟨v,w,hr,E0,I,h,.tree hR,fun _ _ h=>h.elim,fun _ h=>h.elim,fun _ h=>h,fun _ h=>.inl h,Fr.refl _ _,noPend hR⟩
 | p3 hp =>
  obtain ⟨v,hr,hR⟩:=hp.sound h ha
  exact ⟨v,w,hr,E0,I,h,.tree hR,fun _ _ h=>h.elim,fun _ h=>h.elim,fun _ h=>h,fun _ h=>.inl h,Fr.refl _ _,noPend hR⟩
 | p2 hp =>
  obtain ⟨v,ob,hr,hR⟩:=hp.sound h ha
  refine ⟨v,_,hr,_,I,h.alloc ob,.tree hR,fun t c hc hf=>?_,fun c hc=>⟨by rw [hc]; exact Nat.le_refl _,fun hi=>by have:=h.lt c hi; omega⟩,fun _ h=>h,fun _ h=>.inl h,Fr.alloc w ob _ (by
   obtain ⟨o,h1,h2⟩:=hR.plainF w.heap.size rfl
   rw [alloc_new] at h1
   cases h1
   exact h2),?_⟩
  ·have:=h.ltF t c hf; omega
  ·rintro z p n m new rfl; exact hR.notPend.elim
 | pa hp=>exact hp.sound h ha
end
end Go.Own
namespace Go.Own
open Go
set_option linter.unusedSectionVars false
variable [TB]
inductive NR:AV->Prop
 | lit {v:Value}:NR (.lit v)
 | nils:NR .nils
 | dead:NR .dead
 | self {k:Nat × Nat}:NR (.self k)
 | imm {z n:Nat}{cs:List AV}(h:∀ x∈cs,NR x):NR (.imm z n cs)
 | own {z n:Nat}{cs:List AV}(h:∀ x∈cs,NR x):NR (.own z n cs)
 | obj {cs:List AV}(h:∀ x∈cs,NR x):NR (.obj cs)
 | agg {cs:List AV}(h:∀ x∈cs,NR x):NR (.agg cs)
 | tup {cs:List AV}(h:∀ x∈cs,NR x):NR (.tup cs)
 | iptr {cs:List AV}(h:∀ x∈cs,NR x):NR (.iptr cs)
 | clo {fn:Fn}{a b:List AV}(h1:∀ x∈a,NR x) (h2:∀ x∈b,NR x):NR (.clo fn a b)
 | mp {p:Array MapEntry->Nat->Prop}:NR (.mp p)
 | brow {t:Nat}{us:List Value}:NR (.brow t us)
 | imp {p:Array MapEntry->Nat->Prop}:NR (.imp p)
inductive OO:AV->Prop
 | lit {v:Value}:OO (.lit v)
 | nils:OO .nils
 | dead:OO .dead
 | self {k:Nat × Nat}:OO (.self k)
 | own {z n:Nat}{cs:List AV}(h:∀ x∈cs,OO x):OO (.own z n cs)
 | obj {cs:List AV}(h:∀ x∈cs,OO x):OO (.obj cs)
 | agg {cs:List AV}(h:∀ x∈cs,OO x):OO (.agg cs)
 | tup {cs:List AV}(h:∀ x∈cs,OO x):OO (.tup cs)
 | mp {p:Array MapEntry->Nat->Prop}:OO (.mp p)
 | brow {t:Nat}{us:List Value}:OO (.brow t us)
 | imm0 {z:Nat}:OO (.imm z 0 [])
theorem OO.nr {x:AV}(h:OO x):NR x:=by
 induction h with
 | lit=>exact .lit
 | nils=>exact .nils
 | dead=>exact .dead
 | self=>exact .self
 | own _ ih=>exact .own ih
 | obj _ ih=>exact .obj ih
 | agg _ ih=>exact .agg ih
 | tup _ ih=>exact .tup ih
 | mp=>exact .mp
 | brow=>exact .brow
 | imm0=>exact .imm (by simp)
inductive Rows (g:Gst):Place->Nat->Nat->List AV->Prop
 | own {p:Place}{z n:Nat}{cs:List AV}(hp:atP g p=some (.own z n cs)):Rows g p z n cs
 | pend {t z n m:Nat}{q:Place}{new cs:List AV}(ht:g t=some (.pend z q n m new)) (hq:Rows g q z n cs):Rows g ⟨t,[]⟩ z (n+m) (cs++new)
theorem Rows.mono {g g':Gst}(h:∀ {p:Place}{y:AV},atP g p=some y->atP g' p=some y) {p:Place}{z n:Nat}{cs:List AV}(hr:Rows g p z n cs) (h2:∀ t x,g t=some x->g' t=some x):Rows g' p z n cs:=by
 induction hr with
 | own hp=>exact .own (h hp)
 | pend ht _ ih=>exact .pend (h2 _ _ ht) ih
inductive View (g:Gst):AV->AV->Prop
 | self {x:AV}(h:NR x) (hx:∀ z n cs,x≠.own z n cs) (ho:∀ cs,x≠.obj cs) (ha:∀ cs,x≠.agg cs) (ht:∀ cs,x≠.tup cs) (hm:(∀ p,x≠.mp p)/\∀ t us,x≠.brow t us):View g x x
 | mp {p:Array MapEntry->Nat->Prop}:View g (.mp p) (.imp p)
 | mref {p:Place}{q:Array MapEntry->Nat->Prop}(hp:atP g p=some (.mp q)):View g (.mref p) (.imp q)
 | nilI {z:Nat}:View g .nils (.imm z 0 [])
 | agg {cs cs':List AV}(hl:cs'.length=cs.length) (h:∀ (k:Nat) (x y:AV),cs[k]?=some x->cs'[k]?=some y->View g x y):View g (.agg cs) (.agg cs')
 | own {z n:Nat}{cs cs':List AV}(hl:cs'.length=cs.length) (h:∀ (k:Nat) (x y:AV),cs[k]?=some x->cs'[k]?=some y->View g x y):View g (.own z n cs) (.imm z n cs')
 | obj {cs cs':List AV}(hl:cs'.length=cs.length) (h:∀ (k:Nat) (x y:AV),cs[k]?=some x->cs'[k]?=some y->View g x y):View g (.obj cs) (.iptr cs')
 | brw {z n N:Nat}{p:Place}{cs cs':List AV}(hp:atP g p=some (.own z N cs)) (hn:n<=N) (hl:cs'.length=(cs.take (n * z)).length) (h:∀ (k:Nat) (x y:AV),(cs.take (n * z))[k]?=some x->cs'[k]?=some y->View g x y):View g (.brw z p n) (.imm z n cs')
 | sub {z lo n N:Nat}{p:Place}{cs cs':List AV}(hp:atP g p=some (.own z N cs)) (hn:lo+n<=N) (hl:cs'.length=((cs.drop (lo * z)).take (n * z)).length) (h:∀ (k:Nat) (x y:AV),((cs.drop (lo * z)).take (n * z))[k]?=some x->cs'[k]?=some y->View g x y):View g (.sub z p lo n) (.imm z n cs')
 | ptr {p:Place}{k z n:Nat}{y:AV}{cs cs':List AV}(hp:atP g p=some y) (hy:y=.own z n cs\/y=.obj cs) (hk:k<cs.length) (hl:cs'.length=(cs.drop k).length) (h:∀ (j:Nat) (x y:AV),(cs.drop k)[j]?=some x->cs'[j]?=some y->View g x y):View g (.ptr p k) (.iptr cs')
 | clo {fn:Fn}{cs cs':List AV}(hl:cs'.length=cs.length) (h:∀ (k:Nat) (x y:AV),cs[k]?=some x->cs'[k]?=some y->View g x y):View g (.clo fn [] cs) (.clo fn [] cs')
 | rows {z n:Nat}{p:Place}{cs cs':List AV}(hp:Rows g p z n cs) (hl:cs'.length=cs.length) (h:∀ (k:Nat) (x y:AV),cs[k]?=some x->cs'[k]?=some y->View g x y):View g (.brw z p n) (.imm z n cs')
section
variable {P:Program}{w:World}{I:BSet}{T:Array Value}{g:Gst}{Fs:Nat->BSet}
theorem R.nr {ρ ρ':AV->Value->Prop}{x:AV}{v:Value}{F:BSet}(h:R w I ρ x v F):NR x->R w I ρ' x v F:=by
 induction h with
 | lit h hF=>exact fun _=>.lit h hF
 | nils hF=>exact fun _=>.nils hF
 | dead hF=>exact fun _=>.dead hF
 | slf hF=>exact fun _=>.slf hF
 | @ref x _ _ hx h hF=>intro hn; cases hn <;> simp [AV.isRef] at hx
 | imm0 hF=>exact fun _=>.imm0 hF
 | imm hF hcap hI hs hl h1 hc hr ih=>exact fun hn=>.imm hF hcap hI hs hl h1 hc fun k x hx=>ih k x hx (by cases hn with | imm h=>exact h x (List.mem_of_getElem? hx))
 | iptr hF hI hs h1 hc hr ih=>exact fun hn=>.iptr hF hI hs h1 hc fun k x hx=>ih k x hx (by cases hn with | iptr h=>exact h x (List.mem_of_getElem? hx))
 | own ho hl h1 hr hd hb hF ih=>exact fun hn=>.own ho hl h1 (fun k x u hx hu=>ih k x u hx hu (by cases hn with | own h=>exact h x (List.mem_of_getElem? hx))) hd hb hF
 | obj ho hl h1 hr hd hb hF hs ih=>exact fun hn=>.obj ho hl h1 (fun k x u hx hu=>ih k x u hx hu (by cases hn with | obj h=>exact h x (List.mem_of_getElem? hx))) hd hb hF hs
 | agg hl h1 hr hd hF ih=>exact fun hn=>.agg hl h1 (fun k x u hx hu=>ih k x u hx hu (by cases hn with | agg h=>exact h x (List.mem_of_getElem? hx))) hd hF
 | tup hl hr hd hF ih=>exact fun hn=>.tup hl (fun k x u hx hu=>ih k x u hx hu (by cases hn with | tup h=>exact h x (List.mem_of_getElem? hx))) hd hF
 | mp ho hp hF=>exact fun _=>.mp ho hp hF
 | brow ho h1 hF=>exact fun _=>.brow ho h1 hF
 | imp hF hI ho hp=>exact fun _=>.imp hF hI ho hp
 | clo hF h1 h2 hr1 hr2 ih1 ih2=>exact fun hn=>.clo hF h1 h2 (fun k x u hx hu=>ih1 k x u hx hu (by cases hn with | clo h _=>exact h x (List.mem_of_getElem? hx))) (fun k x u hx hu=>ih2 k x u hx hu (by cases hn with | clo _ h=>exact h x (List.mem_of_getElem? hx)))
theorem R.moreI {ρ:AV->Value->Prop}{I':BSet}{x:AV}{v:Value}{F:BSet}(h:R w I ρ x v F) (hI:∀ c,I c->I' c):R w I' ρ x v F :=
 h.frame (fun _ _=>rfl) hI (fun _ _ h=>h) fun _ _=>rfl
theorem R.oo {ρ ρ':AV->Value->Prop}{I':BSet}{x:AV}{v:Value}{F:BSet}(h:R w I ρ x v F):OO x->R w I' ρ' x v F:=by
 induction h with
 | lit h hF=>exact fun _=>.lit h hF
 | nils hF=>exact fun _=>.nils hF
 | dead hF=>exact fun _=>.dead hF
 | slf hF=>exact fun _=>.slf hF
 | @ref x _ _ hx h hF=>intro hn; cases hn <;> simp [AV.isRef] at hx
 | imm0 hF=>exact fun _=>.imm0 hF
 | imm hF=>intro hn; cases hn; exact .imm0 hF
 | iptr=>intro hn; cases hn
 | own ho hl h1 hr hd hb hF ih=>exact fun hn=>.own ho hl h1 (fun k x u hx hu=>ih k x u hx hu (by cases hn with | own h=>exact h x (List.mem_of_getElem? hx))) hd hb hF
 | obj ho hl h1 hr hd hb hF hs ih=>exact fun hn=>.obj ho hl h1 (fun k x u hx hu=>ih k x u hx hu (by cases hn with | obj h=>exact h x (List.mem_of_getElem? hx))) hd hb hF hs
 | agg hl h1 hr hd hF ih=>exact fun hn=>.agg hl h1 (fun k x u hx hu=>ih k x u hx hu (by cases hn with | agg h=>exact h x (List.mem_of_getElem? hx))) hd hF
 | tup hl hr hd hF ih=>exact fun hn=>.tup hl (fun k x u hx hu=>ih k x u hx hu (by cases hn with | tup h=>exact h x (List.mem_of_getElem? hx))) hd hF
 | clo=>intro hn; cases hn
 | mp ho hp hF=>exact fun _=>.mp ho hp hF
 | brow ho h1 hF=>exact fun _=>.brow ho h1 hF
 | imp=>intro hn; cases hn
theorem R.ownCells {ρ:AV->Value->Prop}{z n:Nat}{cs:List AV}{v:Value}{F:BSet}(h:R w I ρ (.own z n cs) v F):∃ (a:Option Addr) (cap:Nat) (us:Nat->Value) (Fk:Nat->BSet),v=.slice a n cap/\n<=cap/\cs.length=n * z /\
  (∀ ad,a=some ad->∃ b,ad=⟨b,0,none⟩/\F b)/\(∀ (k:Nat) (x:AV),cs[k]?=some x->∃ b,a=some ⟨b,0,none⟩/\w.cell? ⟨b,k,none⟩=some (us k)/\(us k).oneCell'=true/\R w I ρ x (us k) (Fk k)/\∀ c,Fk k c->F c):=by
 have h0:=h
 cases h with
 | ref hx=>simp [AV.isRef] at hx
 | @own _ _ _ _ e us Fs _ ho hl h1 hr hd hb hF =>
  obtain ⟨a,cap,rfl,hn,hlen,hoff,hsome⟩:=h0.own_slice
  refine ⟨a,cap,fun k=>us.getD k undef,Fs,rfl,hn,hlen,fun ad had=>?_,fun k x hk=>?_⟩
  ·obtain ⟨ho1,ho2⟩:=hoff ad had
   obtain ⟨b,o,sp⟩:=ad
   simp only at ho1 ho2
   subst ho1 ho2
   exact ⟨b,rfl,(hF b).2 (.inl (by rw [had]; rfl))⟩
  ·have hlt:k<cs.length:=(List.getElem?_eq_some_iff.1 hk).1
   have hu:us[k]?=some us[k]:=List.getElem?_eq_getElem (hl ▸ hlt)
   obtain ⟨b,u,had,hcell,hch,hone,_⟩:=h0.node (.inl rfl) hk
   have:a=some ⟨b,0,none⟩:=by
    cases a with
    | none=>simp [addrOf] at had
    | some ad=>simp only [addrOf] at had; rw [Option.some.inj had]
   grind [ownsRow_child]
theorem R.node_block {ρ:AV->Value->Prop}{y:AV}{v:Value}{F:BSet}{z n:Nat}{cs:List AV}(h:R w I ρ y v F) (hy:y=.own z n cs\/y=.obj cs) {ad:Addr}(ha:addrOf v=some ad):F ad.block:=by
 rcases hy with rfl | rfl
 ·obtain ⟨a,cap,rfl,_⟩:=h.own_slice
  refine h.own_block _ ?_
  cases a with
  | none=>simp [addrOf] at ha
  | some a=>simp only [addrOf,Option.some.injEq] at ha; subst ha; rfl
 ·cases h with
  | ref hx=>simp [AV.isRef] at hx
  | obj ho hl h1 hr hd hb hF=>simp only [addrOf,Option.some.injEq] at ha; subst ha; exact (hF _).2 (.inl rfl)
theorem ownsRow_same {w:World}{e e':TypeId}{z n:Nat}{v:Value}{us us':List Value}(h:w.ownsRow 0 e z v n us) (h':w.ownsRow 0 e' z v n us'):us=us':=by
 obtain ⟨h1,h2⟩:=h
 obtain ⟨h3,h4⟩:=h'
 rcases h2 with ⟨rfl,rfl⟩ | ⟨b,cap,cur,rfl,_,hh,_,_,_,ht⟩
 ·grind
 grind
theorem Rows.sound {ρ:AV->Value->Prop}(H1:∀ t z q n m new,g t=some (.pend z q n m new)->∃ v,T[t]?=some v/\RT w I ρ (.pend z q n m new) v (Fs t))
  (H2:∀ p z n cs,atP g p=some (.own z n cs)->∃ v Fy,valAt w T p=some v/\R w I ρ (.own z n cs) v Fy/\∀ c,Fy c->Fs p.root c) (H3:∀ z p n v,ρ (.pend z p n 0 []) v->valAt w T p=some v) {p:Place}{z n:Nat}{cs:List AV}(h:Rows g p z n cs) :
  ∃ v e us,valAt w T p=some v/\w.ownsRow 0 e z v n us/\us.length=cs.length/\(∀ (k:Nat) (u:Value),us[k]?=some u->u.oneCell'=true)/\(∀ c,v.ownBlock=some c->∃ t,Fs t c) /\
   (∀ (k:Nat) (x:AV) (u:Value),cs[k]?=some x->us[k]?=some u->∃ Fk,R w I ρ x u Fk/\∀ c,Fk c->∃ t,Fs t c):=by
 induction h with
 | @own p z n cs hp =>
  obtain ⟨v,Fy,hv,hR,hF⟩:=H2 p z n cs hp
  cases hR with
  | ref hx=>simp [AV.isRef] at hx
  | @own _ _ _ _ e us Fk _ ho hl h1 hr hd hb hFF =>
   grind
 | @pend t z n m q new cs ht _ ih =>
  obtain ⟨v,hv,hR⟩:=H1 t z q n m new ht
  obtain ⟨v0,e,us,hv0,ho,hl,h1,hb,hr⟩:=ih
  cases hR with
  | tree hR=>exact hR.notPend.elim
  | @pend _ _ _ _ _ _ bv e1 e2 us1 news _ hR =>
   have e0:=H3 _ _ _ _ hR.hbv
   rw [hv0] at e0
   cases e0
   have:=ownsRow_same ho hR.hob
   subst this
   refine ⟨v,e2,us++news,by simp [valAt,hv,walk],hR.hov,by rw [List.length_append,List.length_append,hl,hR.hl],fun k u hu=>?_,fun c hc=>?_,fun k x u hx hu=>?_⟩
   ·by_cases hk:k<us.length
    ·grind
    ·rw [List.getElem?_append_right (by omega)] at hu; exact hR.h1 _ u hu
   ·by_cases hbc:v0.ownBlock=some c
    ·grind
    ·exact ⟨t,(hR.hF c).2 ⟨hc,hbc⟩⟩
   ·by_cases hk:k<us.length
    ·grind
    ·rw [List.getElem?_append_right (by omega)] at hx
     rw [List.getElem?_append_right (by omega),hl] at hu
     exact ⟨_,hR.hr _ x u hx hu,fun c hc=>hc.elim⟩
theorem rowImm {ρ':AV->Value->Prop}{e:TypeId}{z n N cap:Nat}{a:Option Addr}{us:List Value}{cs cs':List AV}(ho:w.ownsRow 0 e z (.slice a N cap) n us) (hlen:us.length=cs.length) (h1:∀ (k:Nat) (u:Value),us[k]?=some u->u.oneCell'=true) (hb:∀ c,(Value.slice a N cap).ownBlock=some c->∃ t,Fs t c) (hl:cs'.length=cs.length)
  (hr:∀ (k:Nat) (x y:AV) (u:Value),cs[k]?=some x->cs'[k]?=some y->us[k]?=some u->R w (fun c=>I c\/∃ t,Fs t c) ρ' y u E0):R w (fun c=>I c\/∃ t,Fs t c) ρ' (.imm z n cs') (.slice a n cap) E0:=by
 obtain ⟨hlus,ho⟩:=ho
 rcases ho with ⟨e0,h0⟩ | ⟨b,cap2,cur,e1,_,hh,hn',hc,hs,ht⟩
 ·cases e0
  subst h0
  have hcs':cs'=[]:=List.eq_nil_of_length_eq_zero (by rw [hl,<- hlen,hlus]; simp)
  subst hcs'
  exact .imm0 fun _ h=>h
 ·cases e1
  refine .imm (us:=fun k=>us.getD k undef) (fun _ h=>h) hn' (.inr (hb b rfl)) rfl (by rw [hl,<- hlen,hlus]) (fun k y hy=>?_) (fun k y hy=>?_) fun k y hy=>?_
  all_goals
   have hk:k<us.length:=by rw [hlen,<- hl]; exact (List.getElem?_eq_some_iff.1 hy).1
   have hu:us[k]?=some us[k]:=List.getElem?_eq_getElem hk
   have hg:us.getD k undef=us[k]:=by simp [List.getD,hu]
  ·grind
  ·rw [hg]
   have hu2:∀ u,us[k]?=some u->w.cell? ⟨b,k,none⟩=some u:=fun u hu2=>by
    rw [<- ht,List.getElem?_take] at hu2
    split at hu2
    ·simpa [World.cell?,hh] using hu2
    grind
   grind
  grind
theorem View.sound (h:SR w I T g Fs) {x x':AV}(hv:View g x x'):∀ {v:Value}{F:BSet},R w I (RG w T g) x v F->(∀ c,F c->∃ t,Fs t c)->∀ ρ',R w (fun c=>I c\/∃ t,Fs t c) ρ' x' v E0:=by
 induction hv with
 | nilI =>
  intro v F hR hF ρ'
  have:=hR.inv_nils
  subst this
  exact .imm0 fun _ h=>h
 | mp =>
  intro v F hR hF ρ'
  cases hR with
  | ref hx=>simp [AV.isRef] at hx
  | mp ho hp hb=>exact .imp (fun _ h=>h) (.inr (hF _ ((hb _).2 rfl))) ho hp
 | mref hp =>
  intro v F hR hF ρ'
  cases hR with
  | ref _ hr _ =>
   obtain ⟨⟨b,hb,rfl⟩,_⟩:=hr
   obtain ⟨v',Fy,hv',hRy,hFy⟩:=h.part hp (by simp)
   rw [hb] at hv'
   cases hv'
   cases hRy with
   | ref hx=>simp [AV.isRef] at hx
   | mp ho hp hb=>exact .imp (fun _ h=>h) (.inr ⟨_,hFy _ ((hb _).2 rfl)⟩) ho hp
 | self hn h1 h2 h3 h4 h5 =>
  intro v F hR hF ρ'
  refine ((hR.nr hn).moreI fun c hc=>.inl hc).empty ?_
  cases hR with
  | mp=>exact absurd rfl (h5.1 _)
  | brow=>exact absurd rfl (h5.2 _ _)
  | lit _ hF | nils hF | dead hF | slf hF | ref _ _ hF | imm0 hF | imm hF | iptr hF | clo hF | imp hF=>exact hF
  | own=>exact absurd rfl (h1 _ _ _)
  | obj=>exact absurd rfl (h2 _)
  | agg=>exact absurd rfl (h3 _)
  | tup=>exact absurd rfl (h4 _)
 | @agg cs cs' hl _ ih =>
  intro v F hR hF ρ'
  cases hR with
  | ref hx=>simp [AV.isRef] at hx
  | @agg _ vs Fk _ hl' h1 hr hd hFF =>
   refine .agg (Fs:=fun _=>E0) (by rw [hl,hl']) h1 (fun k y u hy hu=>?_) (fun _ _ _ _ _ h=>h.elim) (fun c=>⟨fun h=>h.elim,fun ⟨_,_,h⟩=>h⟩)
   have hk:k<cs.length:=by rw [<- hl]; exact (List.getElem?_eq_some_iff.1 hy).1
   have hx:=List.getElem?_eq_getElem hk
   exact ih k _ y hx hy (hr k _ u hx hu) (fun c hc=>hF c ((hFF c).2 ⟨k,hk,hc⟩)) ρ'
 | @clo fn cs cs' hl _ ih =>
  intro v F hR hF ρ'
  cases hR with
  | ref hx=>simp [AV.isRef] at hx
  | @clo _ _ _ v1 v2 _ hF0 h1 h2 hr1 hr2 =>
   refine .clo (fun _ h=>h) h1 (by rw [hl,h2]) (fun k x u hx=>by simp at hx) (fun k y u hy hu=>?_)
   have hk:k<cs.length:=by rw [<- hl]; exact (List.getElem?_eq_some_iff.1 hy).1
   have hx:=List.getElem?_eq_getElem hk
   exact ih k _ y hx hy (hr2 k _ u hx hu) (fun c hc=>hc.elim) ρ'
 | @own z n cs cs' hl _ ih =>
  intro v F hR hF ρ'
  obtain ⟨a,cap,us,Fk,rfl,hn,hlen,ha,hc⟩:=hR.ownCells
  cases a with
  | none =>
   have hcs:cs=[]:=by
    cases cs with
    | nil=>rfl
    | cons c cs=>obtain ⟨b,hb,_⟩:=hc 0 c rfl; cases hb
   subst hcs
   have hcs':cs'=[]:=List.eq_nil_of_length_eq_zero (by simpa using hl)
   subst hcs'
   have hn0:n=0:=by
    cases hR with
    | ref hx=>simp [AV.isRef] at hx
    | own ho =>
     obtain ⟨_,hh⟩:=ho
     rcases hh with ⟨hh,h0⟩ | ⟨b,c2,cur,hh,_⟩
     ·exact h0
     ·cases hh
   subst hn0
   exact .imm0 fun _ h=>h
  | some ad =>
   obtain ⟨b,rfl,hFb⟩:=ha ad rfl
   refine .imm (us:=us) (fun _ h=>h) hn (.inr (hF b hFb)) rfl (by rw [hl,hlen]) (fun k y hy=>?_) (fun k y hy=>?_) fun k y hy=>?_
   all_goals
    have hk:k<cs.length:=by rw [<- hl]; exact (List.getElem?_eq_some_iff.1 hy).1
    have hx:=List.getElem?_eq_getElem hk
    obtain ⟨b',hb',h1,h2,h3,h4⟩:=hc k _ hx
    cases hb'
   ·exact h2
   ·simpa using h1
   ·exact ih k _ y hx hy h3 (fun c hc=>hF c (h4 c hc)) ρ'
 | @obj cs cs' hl _ ih =>
  intro v F hR hF ρ'
  cases hR with
  | ref hx=>simp [AV.isRef] at hx
  | @obj _ b e arr Fk _ ho hl' h1 hr hd hb hFF =>
   refine .iptr (us:=fun k=>arr.getD k undef) (fun _ h=>h) (.inr (hF b ((hFF b).2 (.inl rfl)))) rfl (fun k y hy=>?_) (fun k y hy=>?_) fun k y hy=>?_
   all_goals
    have hk:k<cs.length:=by rw [<- hl]; exact (List.getElem?_eq_some_iff.1 hy).1
    have hx:=List.getElem?_eq_getElem hk
    have hu:arr[k]?=some arr[k]:=Array.getElem?_eq_getElem (hl' ▸ hk)
   ·simpa [hu] using h1 k _ hu
   ·simp [World.cell?,ho,hu]
   ·simpa [hu] using ih k _ y hx hy (hr k _ _ hx hu) (fun c hc=>hF c ((hFF c).2 (.inr ⟨k,hk,hc⟩))) ρ'
 | @brw z n N p cs cs' hp hn hl _ ih =>
  intro v F hR hF ρ'
  obtain ⟨⟨a,N',cap,h1,rfl,h3⟩,_⟩:=hR.inv_brw
  obtain ⟨vp,Fp,hvp,hRp,hFp⟩:=h.part hp (by simp)
  rw [h1] at hvp
  cases hvp
  obtain ⟨a2,cap2,us,Fk,hsl,hcap,hlen,ha,hc⟩:=hRp.ownCells
  cases hsl
  have hle:n * z<=N * z:=Nat.mul_le_mul_right _ hn
  have cell:∀ k,k<cs'.length->∃ x b,(cs.take (n * z))[k]?=some x/\a=some ⟨b,0,none⟩/\w.cell? ⟨b,k,none⟩=some (us k)/\(us k).oneCell'=true/\R w I (RG w T g) x (us k) (Fk k)/\∀ c,Fk k c->Fp c:=by
   intro k hk
   rw [hl,List.length_take] at hk
   have hx:cs[k]?=some cs[k]:=List.getElem?_eq_getElem (by omega)
   obtain ⟨b,r⟩:=hc k _ hx
   exact ⟨_,b,by rw [List.getElem?_take,if_pos (by omega)]; exact hx,r⟩
  cases a with
  | none =>
   have hcs':cs'=[]:=by
    cases cs' with
    | nil=>rfl
    | cons c l=>obtain ⟨_,b,_,hb,_⟩:=cell 0 (by simp); cases hb
   subst hcs'
   obtain ⟨_,_,hsl,_,_,_,hsome⟩:=hRp.own_slice
   cases hsl
   have hn0:n=0:=by
    rcases Nat.eq_zero_or_pos n with h0 | h0
    ·exact h0
    ·have:=hsome (by omega); simp at this
   subst hn0
   exact .imm0 fun _ h=>h
  | some ad =>
   obtain ⟨b,rfl,hFb⟩:=ha ad rfl
   refine .imm (us:=us) (fun _ h=>h) (by omega) (.inr ⟨_,hFp b hFb⟩) rfl (by rw [hl,List.length_take,hlen]; omega) (fun k y hy=>?_) (fun k y hy=>?_) fun k y hy=>?_
   all_goals
    obtain ⟨x,b',hx,hb',h4,h5,h6,h7⟩:=cell k (List.getElem?_eq_some_iff.1 hy).1
    cases hb'
   ·exact h5
   ·simpa using h4
   ·exact ih k x y hx hy h6 (fun c hc=>⟨_,hFp c (h7 c hc)⟩) ρ'
 | @sub z lo n N p cs cs' hp hn hl _ ih =>
  intro v F hR hF ρ'
  obtain ⟨⟨a,N',cap,a',cap',h1,rfl,hncap,h3,h5⟩,_⟩:=hR.inv_sub
  obtain ⟨vp,Fp,hvp,hRp,hFp⟩:=h.part hp (by simp)
  rw [h1] at hvp
  cases hvp
  obtain ⟨a2,cap2,us,Fk,hsl,hcap,hlen,ha,hc⟩:=hRp.ownCells
  cases hsl
  have hle:lo * z+n * z<=N * z:=by rw [<- Nat.add_mul]; exact Nat.mul_le_mul_right _ hn
  have hl':cs'.length=n * z:=by rw [hl,List.length_take,List.length_drop,hlen]; omega
  have cell:∀ k,k<cs'.length->∃ x b,((cs.drop (lo * z)).take (n * z))[k]?=some x/\a=some ⟨b,0,none⟩/\w.cell? ⟨b,lo * z+k,none⟩=some (us (lo * z+k))/\(us (lo * z+k)).oneCell'=true/\R w I (RG w T g) x (us (lo * z+k)) (Fk (lo * z+k))/\∀ c,Fk (lo * z+k) c->Fp c:=by
   intro k hk
   have hx:cs[lo * z+k]?=some cs[lo * z+k]:=List.getElem?_eq_getElem (by omega)
   obtain ⟨b,r⟩:=hc _ _ hx
   exact ⟨_,b,by rw [List.getElem?_take,if_pos (by omega),List.getElem?_drop]; exact hx,r⟩
  by_cases hn0:n=0
  ·subst hn0
   have hcs':cs'=[]:=List.eq_nil_of_length_eq_zero (by simpa using hl')
   subst hcs'
   exact .imm0 fun _ h=>h
  ·obtain ⟨ad,rfl,rfl⟩:=h5 (by omega)
   obtain ⟨b,rfl,hFb⟩:=ha ad rfl
   refine .imm (us:=fun k=>us (lo * z+k)) (fun _ h=>h) hncap (.inr ⟨_,hFp b hFb⟩) rfl hl' (fun k y hy=>?_) (fun k y hy=>?_) fun k y hy=>?_
   all_goals
    obtain ⟨x,b',hx,hb',h4,h5',h6,h7⟩:=cell k (List.getElem?_eq_some_iff.1 hy).1
    cases hb'
   ·exact h5'
   ·simpa using h4
   ·exact ih k x y hx hy h6 (fun c hc=>⟨_,hFp c (h7 c hc)⟩) ρ'
 | @ptr p k z n y cs cs' hp hy hk hl _ ih =>
  intro v F hR hF ρ'
  obtain ⟨⟨u,ad,h1,h2,rfl⟩,_⟩:=hR.inv_ptr
  obtain ⟨vp,Fp,hvp,hRp,hFp⟩:=h.part hp (by rcases hy with rfl | rfl <;> simp)
  rw [h1] at hvp
  cases hvp
  have cell:∀ j,j<cs'.length->∃ uu xx Fx,w.cell? ⟨ad.block,k+j,none⟩=some uu/\uu.oneCell'=true/\(cs.drop k)[j]?=some xx/\R w I (RG w T g) xx uu Fx/\(∀ c,Fx c->∃ t,Fs t c):=by
   intro j hj
   rw [hl,List.length_drop] at hj
   have hx':cs[k+j]?=some cs[k+j]:=List.getElem?_eq_getElem (by omega)
   obtain ⟨b,uu,had,hcell,hch,hone,_⟩:=hRp.node hy hx'
   rw [h2] at had
   cases had
   have hat:atP g (p.push (k+j))=some cs[k+j]:=by rw [atP_push,hp]; rcases hy with rfl | rfl <;> simp [AV.kids]
   by_cases hpd:∃ z' q' n' m' new',cs[k+j]=.pend z' q' n' m' new'
   ·obtain ⟨z',q',n',m',new',hpd⟩:=hpd
    obtain ⟨b,uu',_,_,hch',_,Fk,hRk⟩:=hRp.node hy hx'
    rw [hpd] at hRk
    exact hRk.notPend.elim
   ·obtain ⟨vv,FF,hvv,hRR,hFF⟩:=h.part hat (fun z' q' n' m' new' e=>hpd ⟨_,_,_,_,_,e⟩)
    rw [valAt_push,h1] at hvv
    simp only [Option.bind_some] at hvv
    rw [hch] at hvv
    cases hvv
    exact ⟨uu,_,FF,hcell,hone,by rw [List.getElem?_drop]; exact hx',hRR,fun c hc=>⟨_,hFF c hc⟩⟩
  obtain ⟨b,uu,had,_⟩:=hRp.node hy (List.getElem?_eq_getElem hk)
  rw [h2] at had
  cases had
  have hblk:∃ t,Fs t b:=⟨_,hFp b (hRp.node_block hy h2)⟩
  refine .iptr (us:=fun j=>(w.cell? ⟨b,k+j,none⟩).getD undef) (fun _ h=>h) (.inr hblk) rfl (fun j yy hyy=>?_) (fun j yy hyy=>?_) fun j yy hyy=>?_
  all_goals
   obtain ⟨uu,xx,Fx,c1,c2,c3,c4,c5⟩:=cell j (List.getElem?_eq_some_iff.1 hyy).1
  ·simpa [c1] using c2
  ·simp [c1]
  ·simpa [c1] using ih j xx yy c3 hyy c4 c5 ρ'
 | @rows z n p cs cs' hp hl _ ih =>
  intro v F hR hF ρ'
  obtain ⟨a,N',cap,h1,rfl,h3⟩:=hR.inv_brw.1
  obtain ⟨v0,e,us,hv0,ho,hlen,h1',hb,hr⟩:=Rows.sound (w:=w) (I:=I) (T:=T) (Fs:=Fs) (fun t z q n m new ht=>h.rel t _ ht) (fun p z n cs hp=>h.part hp (by simp)) (fun z p n v hv=>by obtain ⟨⟨a,cap,h1,rfl⟩,_⟩:=hv; exact h1) hp
  rw [h1] at hv0
  cases hv0
  refine rowImm ho hlen h1' hb hl fun k x y u hx hy hu=>?_
  obtain ⟨Fk,hRk,hFk⟩:=hr k x u hx hu
  exact ih k x y hx hy hRk hFk ρ'
end
end Go.Own
namespace Go.Own
open Go
set_option linter.unusedSectionVars false
variable [TB]
def argG (args:List AV):Gst:=fun t=>args[t]?
def outG (outs:List (Option AV)) (res:AV):Gst:=fun t=>if t=outs.length then some res else (outs[t]?).join
structure St (w:World) (I U:BSet) (w':World) (I' U':BSet):Prop where
 fr:Fr w w' U
 more:∀ c,I c->I' c
 new:∀ c,I' c->I c\/U c\/w.heap.size<=c
 own:∀ c,U' c->U c\/w.heap.size<=c
def Con (P:Program) (f:FuncId) (args:List AV) (outs:List (Option AV)) (res:AV):Prop :=
 outs.length=args.length/\∀ (w:World) (I:BSet) (vs:List Value) (Fs:Nat->BSet),vs.length=args.length->SR w I vs.toArray (argG args) Fs ->
  Calls P f vs.toArray w fun e w'=>∃ v I' Fs',e=.returned v/\SR w' I' (vs++[v]).toArray (outG outs res) Fs'/\St w I (fun c=>∃ t,Fs t c) w' I' (fun c=>∃ t,Fs' t c)
def callT (P:Program) (f:FuncId):Bool :=
 match P.funcs[f]? with
 | some fn => fn.name != "runtime.NumGoroutine" && fn.body.isSome
 | none=>false
inductive PC (P:Program) (g:Gst):Op->AV->Prop
 | plain {c:Operand}{xs:Array Operand}{tys:Array TypeId}{f:FuncId}{first caps ys:List AV}{res:AV}(hc:opd g c=some (.clo (.func f) first caps)) (hx:opds g xs.toList=some ys) (hf:callT P f=true)
   (hn:∀ y∈first++ys++caps,NR y) (hcon:Con P f (first++ys++caps) ((first++ys++caps).map fun _=>none) res) (hr:NR res):PC P g (.call { callee:=.value c,args:=xs,argTypes:=tys }) res
 | lent {c:Operand}{xs:Array Operand}{tys:Array TypeId}{f:FuncId}{first caps ys args:List AV}{res:AV}(hc:opd g c=some (.clo (.func f) first caps)) (hx:opds g xs.toList=some ys) (hf:callT P f=true)
   (hl:args.length=(first++ys++caps).length) (hv:∀ (k:Nat) (x y:AV),(first++ys++caps)[k]?=some x->args[k]?=some y->View g x y) (hcon:Con P f args (args.map fun _=>none) res) (hr:OO res) :
   PC P g (.call { callee:=.value c,args:=xs,argTypes:=tys }) res
 | cl {x:Operand}{tys:Array TypeId}{f:FuncId}{y:AV}{z n:Nat}{cells:List AV}(hx:opd g x=some y) (hsrc:Src g y z n cells) (hz:0<z) (hf:callT P f=true) (hfl:∀ c∈cells,NR c) (hbig:n<=1000000000000)
   (hc:∀ (w:World) (ad:Addr) (n c:Nat) (news:List Value),news.length=n * z->n<=1000000000000->(∀ j u,news[j]?=some u->w.cell? (ad.add j)=some u)->(∀ u∈news,u.oneCell'=true) ->
    Calls P f #[.slice (some ad) n c] w fun e' w'=>∃ v' t,e'=.returned v'/\w'.ownsRow 0 t z v' n news/\(∀ c,v'.ownBlock=some c->w.heap.size<=c)/\Fr w w' fun _=>False)
   (hn:∀ (w:World) (n c:Nat),Calls P f #[.slice none n c] w fun e' w'=>e'=.returned (.slice none 0 0)/\w'=w):PC P g (.call { callee:=.value (.func f),args:=#[x],argTypes:=tys }) (.own z n cells)
section
variable {P:Program}{w:World}{I:BSet}{T:Array Value}{g:Gst}{Fs:Nat->BSet}
theorem callT_run {f:FuncId}(h:callT P f=true) (args:Array Value):(callFunc f args).run P w=.ok (.enter f args) w:=by
 unfold callT at h
 cases hf:P.funcs[f]? with
 | none=>simp [hf] at h
 | some fn =>
  simp [hf] at h
  obtain ⟨h1,h2⟩:=h
  cases hb:fn.body with
  | none=>simp [hb] at h2
  | some c=>simp [callFunc,hf,h1,hb]
theorem callArgs (h:SR w I T g Fs) {a:Act}(ha:a.tmps=T) {c:Operand}{xs:Array Operand}{f:FuncId}{first caps ys:List AV}(hc:opd g c=some (.clo (.func f) first caps)) (hx:opds g xs.toList=some ys) :
  ∃ v1 v2:Array Value,a.eval c=.func (.func f) v1 v2/\(first++ys++caps).length=(v1++xs.map a.eval++v2).toList.length /\
   ∀ (k:Nat) (x:AV) (u:Value),(first++ys++caps)[k]?=some x->(v1++xs.map a.eval++v2).toList[k]?=some u->R w I (RG w T g) x u E0:=by
 have hRc:=opd_sound h hc ha
 obtain ⟨hl,hr⟩:=opds_sound h ha hx
 generalize hcv:a.eval c=vc at hRc
 cases hRc with
 | ref hx=>simp [AV.isRef] at hx
 | @clo _ _ _ v1 v2 _ _ h1 h2 hr1 hr2 =>
  have hlen:xs.size=ys.length:=by rw [<- Array.length_toList,hl]
  refine ⟨v1,v2,rfl,by simp [h1,h2,hlen],fun k x u hxk huk=>?_⟩
  simp only [Array.toList_append,Array.toList_map] at huk
  by_cases hk1:k<first.length
  ·rw [List.append_assoc,List.getElem?_append_left hk1] at hxk
   rw [List.append_assoc,List.getElem?_append_left (by simp; omega)] at huk
   exact hr1 k x u hxk (by simpa using huk)
  ·rw [List.append_assoc,List.getElem?_append_right (by omega)] at hxk
   rw [List.append_assoc,List.getElem?_append_right (by simp; omega)] at huk
   simp only [Array.length_toList,<- h1] at huk
   by_cases hk2:k - first.length<ys.length
   ·rw [List.getElem?_append_left hk2] at hxk
    rw [List.getElem?_append_left (by simp; omega),List.getElem?_map] at huk
    cases hxo:xs.toList[k - first.length]? with
    | none=>rw [hxo] at huk; cases huk
    | some o=>rw [hxo] at huk; cases huk; exact hr _ x o hxk hxo
   ·rw [List.getElem?_append_right (by omega)] at hxk
    rw [List.getElem?_append_right (by simp; omega)] at huk
    simp only [List.length_map,Array.length_toList] at huk
    rw [hlen] at huk
    exact hr2 _ x u hxk (by simpa using huk)
theorem SR.args {I':BSet}(h:SR w I T g Fs) (hII:∀ c,I c->I' c) (hI:∀ c,I' c->I c\/∃ t,Fs t c) {args:List AV}{vs:List Value}(hl:args.length=vs.length)
  (hr:∀ (ρ':AV->Value->Prop) (k:Nat) (x:AV) (u:Value),args[k]?=some x->vs[k]?=some u->R w I' ρ' x u E0):SR w I' vs.toArray (argG args) (fun _=>E0):=by
 refine ⟨fun t x hx=>?_,fun _ _ _ h=>h,fun _ _ _ h=>h.elim,fun _ _ h=>h.elim,fun c hc=>?_,fun t t' z p n m new z' n' m' new' h1 h2=>?_,TB.keep h.tb (fun _ _=>rfl) hII⟩
 ·have ht:t<args.length:=(List.getElem?_eq_some_iff.1 hx).1
  have hu:vs[t]?=some vs[t]:=List.getElem?_eq_getElem (hl ▸ ht)
  exact ⟨vs[t],by rw [List.getElem?_toArray]; exact hu,.tree (hr _ t x _ hx hu)⟩
 ·rcases hI c hc with h' | ⟨t,h'⟩
  ·exact h.lt c h'
  ·exact h.ltF t c h'
 ·have ht:t<args.length:=(List.getElem?_eq_some_iff.1 h1).1
  exact (hr (fun _ _=>False) t _ _ h1 (List.getElem?_eq_getElem (hl ▸ ht))).notPend.elim
theorem PC.sound (h:SR w I T g Fs) {a:Act}(ha:a.tmps=T) {o:Oper}{xv:AV}(hp:PC P g o.op xv) {K:Act->World->Prop}{Q:Exit->Act->World->Prop}
  (hK:∀ v w',Gives w I T g Fs xv v w'->K (a.put o.dst v) w'):o.wp P a w K Q:=by
 obtain ⟨dst,op,ty,pos,after,guard⟩:=o
 simp only at hp hK
 have noPend:NR xv->∀ z p n m new,xv=.pend z p n m new->∀ t z' n' m' new',g t≠some (.pend z' p n' m' new'):=by
  rintro hn z p n m new rfl
  cases hn
 have last:∀ {args:List AV}{res:AV}{v:Value}{vs:List Value}{w':World}{I':BSet}{Fs':Nat->BSet},vs.length=args.length->SR w' I' (vs++[v]).toArray (outG (args.map fun _=>none) res) Fs'->RT w' I' (RG w' (vs++[v]).toArray (outG (args.map fun _=>none) res)) res v (Fs' args.length)/\∀ t,t≠args.length->∀ c,¬ Fs' t c:=by
  intro args res v vs w' I' Fs' hl hS
  constructor
  ·obtain ⟨u,hu,hR⟩:=hS.rel args.length res (by simp [outG])
   have:u=v:=by
    rw [<- hl] at hu
    simpa using hu.symm
   subst this; exact hR
  ·intro t ht c hc
   refine hS.non t ?_ c hc
   have ht':t≠(args.map fun _=>(none:Option AV)).length:=by simpa using ht
   simp only [outG,if_neg ht',List.getElem?_map]
   cases args[t]? <;> rfl
 cases hp with
 | @cl x tys f y z n cells hx hsrc hz hf hfl hbig hc hn =>
  obtain ⟨sa,sc,news,hsv,hl,hsa,hsn,hcs⟩:=hsrc.sound h (opd_sound h hx ha)
  have hrun:∀ dst ty pos after guard,(execOp a.eval ⟨dst,.call { callee:=.value (.func f),args:=#[x],argTypes:=tys },ty,pos,after,guard⟩).run P w=.ok (.enter f #[a.eval x]) w:=by
   intro dst ty pos after guard
   simp [execOp,resolve,Deferred.ofValue,Act.eval,invoke,callT_run hf]
  have fin:∀ (w':World) (v:Value) (t:TypeId),w'.ownsRow 0 t z v n news->(∀ c,v.ownBlock=some c->w.heap.size<=c)->Fr w w' (fun _=>False)->Gives w I T g Fs (.own z n cells) v w':=by
   intro w' v t ho hb hfr
   have hsame:∀ c,c<w.heap.size->w'.heap[c]?=w.heap[c]?:=fun c hc=>hfr.block c hc fun h=>h
   have hS3:=h.world (w':=w') (fun t c hc=>hsame c (h.ltF t c hc)) (fun c hc=>hsame c (h.lt c hc)) hfr.size
   refine ⟨fun c=>v.ownBlock=some c,I,hS3,.tree (.own (Fs:=fun _=>E0) ho hcs.1 hcs.2.1 (fun k x u hx hu=>?_) (fun _ _ _ _ _ h=>h.elim) (fun _ _ _ h=>h.elim) (fun c=>⟨.inl,fun h=>h.elim id fun ⟨_,_,h⟩=>h.elim⟩)),fun t c hc hf=>?_,fun c hc=>⟨hb c hc,fun hi=>?_⟩,fun _ h=>h,fun _ h=>.inl h,hfr.mono fun _ _ h=>h.elim,fun z' p' n' m' new' he=>by cases he⟩
   ·exact (((hcs.2.2 k x u hx hu).nr (hfl x (List.mem_of_getElem? hx))).frame (fun c hc=>hsame c (h.lt c hc)) (fun _ h=>h) fun _ _ h=>h) fun c hc=>hc.elim
   ·have:=hb c hc; have:=h.ltF t c hf; omega
   ·have:=hb c hc; have:=h.lt c hi; omega
  unfold Oper.wp Oper.upon
  simp only [hrun]
  rw [hsv]
  cases sa with
  | none =>
   refine (hn w _ sc).mono ?_
   rintro e' w' ⟨rfl,rfl⟩
   have h0:n=0:=by
    by_cases hpos:0<n
    ·have:=hsa hpos hz; cases this
    ·omega
   exact hK _ _ (fin w' _ 0 ⟨hl,.inl ⟨rfl,h0⟩⟩ (fun c hc=>by cases hc) (Fr.refl _ _))
  | some ad =>
   refine (hc w ad _ sc news hl hbig (fun j u hj=>hsn ad rfl j u hj) fun u hu=>by
    obtain ⟨j,hj⟩:=List.getElem?_of_mem hu
    exact hcs.2.1 j u hj).mono ?_
   rintro e' w' ⟨v',t,rfl,ho',hb,hfr⟩
   exact hK _ _ (fin w' v' t ho' hb hfr)
 | @plain c xs tys f first caps ys _ hc hx hf hn hcon hr =>
  obtain ⟨v1,v2,hcv,hl,hargs⟩:=callArgs h ha hc hx
  have hrun:(execOp a.eval { dst:=dst,op:=.call { callee:=.value c,args:=xs,argTypes:=tys },type:=ty,pos:=pos,after:=after,guard:=guard }).run P w=.ok (.enter f (v1++xs.map a.eval++v2)) w:=by
   simp [execOp,resolve,Deferred.ofValue,hcv,invoke,callT_run hf]
  have hS:=h.args (I':=I) (fun _ h=>h) (fun c hc=>.inl hc) hl fun ρ' k x u hx hu=>(hargs k x u hx hu).nr (hn x (List.mem_of_getElem? hx))
  have hcall:=hcon.2 w I (v1++xs.map a.eval++v2).toList _ hl.symm hS
  unfold Oper.wp Oper.upon
  simp only [hrun]
  rw [Array.toArray_toList] at hcall
  refine Calls.mono hcall ?_
  rintro e w' ⟨v,I',Fs',rfl,hS',hst⟩
  obtain ⟨hres,hno⟩:=last hl.symm hS'
  have hfr:Fr w w' (fun _=>False):=hst.fr.mono fun b _ ⟨_,hb⟩=>hb
  refine hK v w' ⟨Fs' (first++ys++caps).length,I',?_,?_,?_,?_,hst.more,?_,hfr.mono fun _ _ h=>h.elim,noPend hr⟩
  ·have:=h.world (w':=w') (fun t c hc=>hfr.block c (h.ltF t c hc) (fun h=>h)) (fun c hc=>hfr.block c (h.lt c hc) fun h=>h) hfr.size
   refine ⟨fun t x hx=>?_,this.non,this.dis,fun t c hc hi=>?_,hS'.lt,this.pok,hS'.tb⟩
   ·obtain ⟨v,hv,hR⟩:=this.rel t x hx
    exact ⟨v,hv,hR.frame (fun _ _=>rfl) hst.more (fun _ _ h=>h) (fun _ _ _ _ _ _ _=>rfl) fun _ _=>rfl⟩
   ·rcases hst.new c hi with h' | ⟨_,h'⟩ | h'
    ·exact h.imm t c hc h'
    ·exact h'
    ·have:=h.ltF t c hc; omega
  ·exact .tree ((hres.isTree (by rintro z p n m new rfl; cases hr)).nr hr)
  ·intro t c hc hf'
   rcases hst.own c ⟨_,hc⟩ with ⟨_,h'⟩ | h'
   ·exact h'
   ·have:=h.ltF t c hf'; omega
  ·intro c hc
   rcases hst.own c ⟨_,hc⟩ with ⟨_,h'⟩ | h'
   ·exact h'.elim
   ·exact ⟨h',hS'.imm _ c hc⟩
  ·intro c hc
   rcases hst.new c hc with h' | ⟨_,h'⟩ | h'
   ·exact .inl h'
   ·exact h'.elim
   ·exact .inr h'
 | @lent c xs tys f first caps ys args _ hc hx hf hl0 hv hcon hr =>
  obtain ⟨v1,v2,hcv,hl,hargs⟩:=callArgs h ha hc hx
  have hrun:(execOp a.eval { dst:=dst,op:=.call { callee:=.value c,args:=xs,argTypes:=tys },type:=ty,pos:=pos,after:=after,guard:=guard }).run P w=.ok (.enter f (v1++xs.map a.eval++v2)) w:=by
   simp [execOp,resolve,Deferred.ofValue,hcv,invoke,callT_run hf]
  have hl':args.length=(v1++xs.map a.eval++v2).toList.length:=by rw [hl0,hl]
  have hS:=h.args (I':=fun c=>I c\/∃ t,Fs t c) (fun _ h=>.inl h) (fun c hc=>hc) hl' fun ρ' k x u hx hu=>by
   have hk:k<(first++ys++caps).length:=by rw [<- hl0]; exact (List.getElem?_eq_some_iff.1 hx).1
   have hx0:=List.getElem?_eq_getElem hk
   exact (hv k _ x hx0 hx).sound h (hargs k _ u hx0 hu) (fun _ h=>h.elim) ρ'
  have hcall:=hcon.2 w _ (v1++xs.map a.eval++v2).toList _ hl'.symm hS
  unfold Oper.wp Oper.upon
  simp only [hrun]
  rw [Array.toArray_toList] at hcall
  refine Calls.mono hcall ?_
  rintro e w' ⟨v,I',Fs',rfl,hS',hst⟩
  obtain ⟨hres,hno⟩:=last hl'.symm hS'
  have hfr:Fr w w' (fun _=>False):=hst.fr.mono fun b _ ⟨_,hb⟩=>hb
  refine hK v w' ⟨Fs' args.length,I,?_,?_,?_,?_,fun _ h=>h,fun _ h=>.inl h,hfr.mono fun _ _ h=>h.elim,noPend hr.nr⟩
  ·exact h.world (w':=w') (fun t c hc=>hfr.block c (h.ltF t c hc) (fun h=>h)) (fun c hc=>hfr.block c (h.lt c hc) fun h=>h) hfr.size
  ·exact .tree ((hres.isTree (by rintro z p n m new rfl; cases hr)).oo hr)
  ·intro t c hc hf'
   rcases hst.own c ⟨_,hc⟩ with ⟨_,h'⟩ | h'
   ·exact h'
   ·have:=h.ltF t c hf'; omega
  ·intro c hc
   rcases hst.own c ⟨_,hc⟩ with ⟨_,h'⟩ | h'
   ·exact h'.elim
   ·exact ⟨h',fun hi=>by have:=h.lt c hi; omega⟩
end
end Go.Own
namespace Go.Own
open Go
set_option linter.unusedSectionVars false
variable [TB]
structure SRc (w:World) (I:BSet) (T:Array Value) (g:Gst) (Fs:Nat->BSet):Prop where
 rel:∀ t x,g t=some x->∃ v,T[t]?=some v/\RT w I (RefAt w T) x v (Fs t)
 non:∀ t,g t=none->∀ c,¬ Fs t c
 dis:∀ t t' c,Fs t c->Fs t' c->t=t'
 imm:∀ t c,Fs t c->¬ I c
 lt:∀ c,I c->c<w.heap.size
 tb:TB.q w I
def setP (g:Gst) (p:Place) (y:AV):Gst:=fun t=>if t=p.root then (g t).map fun x=>x.setAt p.path y else g t
inductive RK (g:Gst):AV->Prop
 | nr {x:AV}(h:NR x):RK g x
 | ref {x:AV}(hx:x.isRef=true) (h:RefOk g x):RK g x
 | own {z n:Nat}{cs:List AV}(h:∀ x∈cs,RK g x):RK g (.own z n cs)
 | obj {cs:List AV}(h:∀ x∈cs,RK g x):RK g (.obj cs)
 | agg {cs:List AV}(h:∀ x∈cs,RK g x):RK g (.agg cs)
 | tup {cs:List AV}(h:∀ x∈cs,RK g x):RK g (.tup cs)
 | clo {fn:Fn}{a b:List AV}(h1:∀ x∈a,RK g x) (h2:∀ x∈b,RK g x):RK g (.clo fn a b)
 | pend {z n m:Nat}{p:Place}{new:List AV}(hp:RefOk g (.pend z p n 0 [])) (h:∀ x∈new,RK g x):RK g (.pend z p n m new)
section
variable {w:World}{I:BSet}{T:Array Value}{g:Gst}{Fs:Nat->BSet}
theorem R.rk {x:AV}{v:Value}{F:BSet}(h:R w I (RefAt w T) x v F):RK g x->R w I (RG w T g) x v F:=by
 induction h with
 | lit h hF=>exact fun _=>.lit h hF
 | nils hF=>exact fun _=>.nils hF
 | dead hF=>exact fun _=>.dead hF
 | slf hF=>exact fun _=>.slf hF
 | @ref x _ _ hx h hF =>
  intro hk
  refine .ref hx ⟨h,?_⟩ hF
  cases hk with
  | ref _ h=>exact h
  | nr h=>cases h <;> simp [AV.isRef] at hx
  | _=>simp [AV.isRef] at hx
 | imm0 hF=>exact fun _=>.imm0 hF
 | mp ho hp hF=>exact fun _=>.mp ho hp hF
 | brow ho h1 hF=>exact fun _=>.brow ho h1 hF
 | imp hF hI ho hp=>exact fun _=>.imp hF hI ho hp
 | imm hF hcap hI hs hl h1 hc hr ih =>
  intro hk
  cases hk with
  | ref hx=>simp [AV.isRef] at hx
  | nr h=>cases h with | imm h=>exact .imm hF hcap hI hs hl h1 hc fun k x hx=>ih k x hx (.nr (h x (List.mem_of_getElem? hx)))
 | iptr hF hI hs h1 hc hr ih =>
  intro hk
  cases hk with
  | ref hx=>simp [AV.isRef] at hx
  | nr h=>cases h with | iptr h=>exact .iptr hF hI hs h1 hc fun k x hx=>ih k x hx (.nr (h x (List.mem_of_getElem? hx)))
 | own ho hl h1 hr hd hb hF ih =>
  intro hk
  refine .own ho hl h1 (fun k x u hx hu=>ih k x u hx hu ?_) hd hb hF
  cases hk with
  | ref hx=>simp [AV.isRef] at hx
  | nr h=>cases h with | own h=>exact .nr (h x (List.mem_of_getElem? hx))
  | own h=>exact h x (List.mem_of_getElem? hx)
 | obj ho hl h1 hr hd hb hF hs ih =>
  intro hk
  refine .obj ho hl h1 (fun k x u hx hu=>ih k x u hx hu ?_) hd hb hF hs
  cases hk with
  | ref hx=>simp [AV.isRef] at hx
  | nr h=>cases h with | obj h=>exact .nr (h x (List.mem_of_getElem? hx))
  | obj h=>exact h x (List.mem_of_getElem? hx)
 | agg hl h1 hr hd hF ih =>
  intro hk
  refine .agg hl h1 (fun k x u hx hu=>ih k x u hx hu ?_) hd hF
  cases hk with
  | ref hx=>simp [AV.isRef] at hx
  | nr h=>cases h with | agg h=>exact .nr (h x (List.mem_of_getElem? hx))
  | agg h=>exact h x (List.mem_of_getElem? hx)
 | tup hl hr hd hF ih =>
  intro hk
  refine .tup hl (fun k x u hx hu=>ih k x u hx hu ?_) hd hF
  cases hk with
  | ref hx=>simp [AV.isRef] at hx
  | nr h=>cases h with | tup h=>exact .nr (h x (List.mem_of_getElem? hx))
  | tup h=>exact h x (List.mem_of_getElem? hx)
 | @clo fn first caps v1 v2 F hF h1 h2 hr1 hr2 ih1 ih2 =>
  intro hk
  have:(∀ x∈first,RK g x)/\∀ x∈caps,RK g x:=by
   cases hk with
   | ref hx=>simp [AV.isRef] at hx
   | nr h=>cases h with | clo h1 h2=>exact ⟨fun x hx=>.nr (h1 x hx),fun x hx=>.nr (h2 x hx)⟩
   | clo h1 h2=>exact ⟨h1,h2⟩
  exact .clo hF h1 h2 (fun k x u hx hu=>ih1 k x u hx hu (this.1 x (List.mem_of_getElem? hx))) (fun k x u hx hu=>ih2 k x u hx hu (this.2 x (List.mem_of_getElem? hx)))
theorem RT.rk {x:AV}{v:Value}{F:BSet}(h:RT w I (RefAt w T) x v F) (hk:RK g x):RT w I (RG w T g) x v F:=by
 cases h with
 | tree h=>exact .tree (h.rk hk)
 | pend h =>
  cases hk with
  | nr h=>cases h
  | ref hx=>simp [AV.isRef] at hx
  | pend hp hn=>exact .pend ⟨⟨h.hbv,hp⟩,h.hob,h.hov,h.hl,h.h1,fun k x u hx hu=>(h.hr k x u hx hu).rk (hn x (List.mem_of_getElem? hx)),h.hF⟩
theorem SR.toC (h:SR w I T g Fs):SRc w I T g Fs :=
  ⟨fun t x hx=>by
    obtain ⟨v,hv,hR⟩:=h.rel t x hx
    refine ⟨v,hv,?_⟩
    cases hR with
    | tree hR=>exact .tree (hR.frame (fun _ _=>rfl) (fun _ h=>h) (fun _ _ h=>h.1) fun _ _=>rfl)
    | pend hR=>exact .pend ⟨hR.hbv.1,hR.hob,hR.hov,hR.hl,hR.h1,fun k x u hx hu=>(hR.hr k x u hx hu).frame (fun _ _=>rfl) (fun _ h=>h) (fun _ _ h=>h.1) fun _ _=>rfl,hR.hF⟩,
   h.non,h.dis,h.imm,h.lt,h.tb⟩
theorem SRc.toR (h:SRc w I T g Fs) {g':Gst}(hg:∀ t x,g' t=some x->g t=some x) (hk:∀ t x,g' t=some x->RK g' x)
  (hp:∀ t t' z p n m new z' n' m' new',g' t=some (.pend z p n m new)->g' t'=some (.pend z' p n' m' new')->t=t'):SR w I T g' (fun t c=>g' t≠none/\Fs t c):=by
 refine ⟨fun t x hx=>?_,fun t ht c hc=>hc.1 ht,fun t t' c hc hc'=>h.dis t t' c hc.2 hc'.2,fun t c hc=>h.imm t c hc.2,h.lt,hp,h.tb⟩
 obtain ⟨v,hv,hR⟩:=h.rel t x (hg t x hx)
 have:Fs t=fun c=>g' t≠none/\Fs t c:=by
  funext c
  exact propext ⟨fun hc=>⟨by rw [hx]; simp,hc⟩,fun hc=>hc.2⟩
 refine ⟨v,hv,?_⟩
 rw [<- this]
 exact hR.rk (hk t x hx)
theorem SRc.part (h:SRc w I T g Fs) {p:Place}{y:AV}(hp:atP g p=some y) (hy:∀ z q n m new,y≠.pend z q n m new):∃ v Fy,valAt w T p=some v/\R w I (RefAt w T) y v Fy/\(∀ c,Fy c->Fs p.root c) /\
  ∀ (y':AV) (Fy':BSet),R w I (RefAt w T) y' v Fy'->(∀ c,Fy' c->Fs p.root c->Fy c)->(∀ c,Fy' c->¬ I c)->(∀ t c,t≠p.root->Fy' c->¬ Fs t c)->(∀ j,y'=.self j->y=.self j) ->
   ∃ Fs',SRc w I T (setP g p y') Fs'/\(∀ c,Fs' p.root c↔(Fs p.root c/\¬ Fy c)\/Fy' c)/\∀ t,t≠p.root->Fs' t=Fs t:=by
 unfold atP at hp
 cases hx:g p.root with
 | none=>rw [hx] at hp; cases hp
 | some x =>
  rw [hx] at hp
  obtain ⟨v,hv,hR⟩:=h.rel _ _ hx
  replace hR:=hR.isTree (by
   rintro z q n m new rfl
   exact hy _ _ _ _ _ (AV.at_pend hp).2)
  obtain ⟨vy,Fy,hw,hRy,hFy,wk,rebuild⟩:=R.focus p.path hR hp
  refine ⟨vy,Fy,by simp [valAt,hv,hw],hRy,hFy,fun y' Fy' hR' hdis hI hoth hns=>?_⟩
  obtain ⟨F',hRF,hF'⟩:=rebuild w I (RefAt w T) y' Fy' ⟨fun _ _=>rfl,fun _ _ _=>rfl,fun _ h=>h,fun _ _ h=>h⟩ hR' hdis hns
  refine ⟨fun t=>if t=p.root then F' else Fs t,⟨fun t x' hx'=>?_,fun t ht c=>?_,fun t t' c hc hc'=>?_,fun t c hc=>?_,h.lt,h.tb⟩,fun c=>by simp [hF' c],fun t ht=>by simp [ht]⟩
  ·by_cases htr:t=p.root
   ·subst htr
    have hx'':x.setAt p.path y'=x':=by simpa [setP,hx] using hx'
    subst hx''
    exact ⟨v,hv,.tree (by simpa using hRF)⟩
   ·simp only [setP,if_neg htr] at hx'
    simpa [htr] using h.rel t x' hx'
  ·by_cases htr:t=p.root
   ·subst htr; simp [setP,hx] at ht
   ·simp only [setP,if_neg htr] at ht; simpa [htr] using h.non t ht c
  ·by_cases h1:t=p.root <;> by_cases h2:t'=p.root <;> simp only [h1,h2,if_true,if_false] at hc hc'
   ·rw [h1,h2]
   ·rcases (hF' c).1 hc with ⟨h3,_⟩ | h3
    ·rw [h1]; exact h.dis _ _ _ h3 hc'
    ·exact absurd hc' (hoth t' c h2 h3)
   ·rcases (hF' c).1 hc' with ⟨h3,_⟩ | h3
    ·rw [h2]; exact h.dis _ _ _ hc h3
    ·exact absurd hc (hoth t c h1 h3)
   ·exact h.dis _ _ _ hc hc'
  ·by_cases h1:t=p.root <;> simp only [h1,if_true,if_false] at hc
   ·rcases (hF' c).1 hc with ⟨h3,_⟩ | h3
    ·exact h.imm _ c h3
    ·exact hI c h3
   ·exact h.imm t c hc
end
end Go.Own
namespace Go.Own
open Go
set_option linter.unusedSectionVars false
variable [TB]
inductive Take:Gst->List AV->List AV->Gst->Prop
 | nr {g:Gst}{xs:List AV}(h:∀ x∈xs,NR x):Take g xs xs g
 | cons {g g':Gst}{x:AV}{xs xs':List AV}(h:NR x) (ht:Take g xs xs' g'):Take g (x::xs) (x::xs') g'
 | brw {g g1 g':Gst}{z n N:Nat}{p:Place}{cs cs' xs xs':List AV}(hp:atP g p=some (.own z N cs)) (hn:n<=N) (h1:Take (setP g p .dead) (cs.take (n * z)) cs' g1) (h2:Take g1 xs xs' g') :
   Take g (.brw z p n::xs) (.own z n cs'::xs') g'
 | pend {g g1 g':Gst}{z n m t:Nat}{q:Place}{cs new cs' xs xs':List AV}(ht:g t=some (.pend z q n m new)) (hp:atP g q=some (.own z n cs)) (hq:q.root≠t) (h1:Take (setP (setP g ⟨t,[]⟩ .dead) q .dead) (cs++new) cs' g1) (h2:Take g1 xs xs' g') :
   Take g (.brw z ⟨t,[]⟩ (n+m)::xs) (.own z (n+m) cs'::xs') g'
 | pend2 {g g1 g':Gst}{z n m t n2 m2 t2:Nat}{q:Place}{cs new new2 cs' xs xs':List AV}(ht:g t=some (.pend z ⟨t2,[]⟩ n m new)) (ht2:g t2=some (.pend z q n2 m2 new2)) (hn:n=n2+m2) (hp:atP g q=some (.own z n2 cs)) (hq:q.root≠t) (hq2:q.root≠t2) (htt:t≠t2)
   (h1:Take (setP (setP (setP g ⟨t,[]⟩ .dead) ⟨t2,[]⟩ .dead) q .dead) (cs++new2++new) cs' g1) (h2:Take g1 xs xs' g') :
   Take g (.brw z ⟨t,[]⟩ (n+m)::xs) (.own z (n+m) cs'::xs') g'
 | obj {g g1 g':Gst}{p:Place}{cs cs' xs xs':List AV}(hp:atP g p=some (.obj cs)) (h1:Take (setP g p .dead) cs cs' g1) (h2:Take g1 xs xs' g'):Take g (.ptr p 0::xs) (.obj cs'::xs') g'
 | mp {g g1 g':Gst}{p:Place}{q:Array MapEntry->Nat->Prop}{xs xs':List AV}(hp:atP g p=some (.mp q)) (h1:Take (setP g p .dead) [] [] g1) (h2:Take g1 xs xs' g'):Take g (.mref p::xs) (.mp q::xs') g'
 | agg {g g1 g':Gst}{cs cs' xs xs':List AV}(h1:Take g cs cs' g1) (h2:Take g1 xs xs' g'):Take g (.agg cs::xs) (.agg cs'::xs') g'
 | tup {g g1 g':Gst}{cs cs' xs xs':List AV}(h1:Take g cs cs' g1) (h2:Take g1 xs xs' g'):Take g (.tup cs::xs) (.tup cs'::xs') g'
structure Hand (w:World) (I:BSet) (ρ:AV->Value->Prop) (Fs:Nat->BSet) (xs:List AV) (vs:List Value) (Hs:Nat->BSet):Prop where
 len:xs.length=vs.length
 rel:∀ (k:Nat) (x:AV) (u:Value),xs[k]?=some x->vs[k]?=some u->R w I ρ x u (Hs k)
 dis:∀ (j k c:Nat),j<xs.length->k<xs.length->Hs j c->Hs k c->j=k
 off:∀ (k t c:Nat),k<xs.length->Hs k c->¬ Fs t c
 imm:∀ (k c:Nat),k<xs.length->Hs k c->¬ I c
def AllB (Fs:Nat->BSet) (n:Nat) (Hs:Nat->BSet):BSet:=fun c=>(∃ t,Fs t c)\/∃ k,k<n/\Hs k c
section
variable {w:World}{I:BSet}{T:Array Value}
theorem Take.length {g g':Gst}{xs xs':List AV}(h:Take g xs xs' g'):xs'.length=xs.length:=by
 induction h with
 | nr=>rfl
 | cons _ _ ih=>simp [ih]
 | brw _ _ _ _ _ ih=>simp [ih]
 | pend _ _ _ _ _ _ ih=>simp [ih]
 | pend2 _ _ _ _ _ _ _ _ _ _ ih=>simp [ih]
 | obj _ _ _ _ ih=>simp [ih]
 | mp _ _ _ _ ih=>simp [ih]
 | agg _ _ _ ih=>simp [ih]
 | tup _ _ _ ih=>simp [ih]
theorem NoSelf.cons {x:AV}{l:List AV}(h:NoSelf (x::l)):(∀ j,x≠.self j)/\NoSelf l:=⟨fun j e=>h 0 j (by rw [e]; rfl),fun k j e=>h (k+1) j e⟩
theorem Take.self {g g':Gst}{xs xs':List AV}(h:Take g xs xs' g'):∀ (k:Nat) (j:Nat × Nat),xs'[k]?=some (.self j)->xs[k]?=some (.self j):=by
 have step:∀ {x x':AV}{xs xs':List AV},(∀ j,x'=.self j->x=.self j)->(∀ (k:Nat) (j:Nat × Nat),xs'[k]?=some (.self j)->xs[k]?=some (.self j))->∀ (k:Nat) (j:Nat × Nat),(x'::xs')[k]?=some (.self j)->(x::xs)[k]?=some (.self j):=by
  intro x x' xs xs' h1 h2 k j h
  cases k with
  | zero=>simp only [List.getElem?_cons_zero,Option.some.injEq] at h ⊢; exact h1 j h
  | succ k=>exact h2 k j h
 induction h with
 | nr=>exact fun _ _ h=>h
 | cons _ _ ih=>exact step (fun _ h=>h) ih
 | brw _ _ _ _ _ ih=>exact step (fun _ h=>by cases h) ih
 | pend _ _ _ _ _ _ ih=>exact step (fun _ h=>by cases h) ih
 | pend2 _ _ _ _ _ _ _ _ _ _ ih=>exact step (fun _ h=>by cases h) ih
 | obj _ _ _ _ ih=>exact step (fun _ h=>by cases h) ih
 | mp _ _ _ _ ih=>exact step (fun _ h=>by cases h) ih
 | agg _ _ _ ih=>exact step (fun _ h=>by cases h) ih
 | tup _ _ _ ih=>exact step (fun _ h=>by cases h) ih
theorem Take.okA {g g':Gst}{xs xs':List AV}(h:Take g xs xs' g') (ho:∀ x∈xs,OkA x):∀ x∈xs',OkA x:=by
 induction h with
 | nr=>exact ho
 | cons _ _ ih =>
  intro x hx
  rcases List.mem_cons.1 hx with rfl | hx
  ·exact ho _ (by simp)
  ·exact ih (fun x h=>ho x (by simp [h])) x hx
 | brw _ _ _ _ _ ih | pend _ _ _ _ _ _ ih | pend2 _ _ _ _ _ _ _ _ _ _ ih | obj _ _ _ _ ih | mp _ _ _ _ ih | tup _ _ _ ih =>
  intro x hx
  rcases List.mem_cons.1 hx with rfl | hx
  ·intro cs e; cases e
  ·exact ih (fun x h=>ho x (by simp [h])) x hx
 | agg h1 _ _ ih =>
  intro x hx
  rcases List.mem_cons.1 hx with rfl | hx
  ·intro cs e
   cases e
   exact fun k j hk=>ho _ (List.mem_cons_self ..) _ rfl k j (h1.self k j hk)
  ·exact ih (fun x h=>ho x (by simp [h])) x hx
theorem Hand.cons {ρ:AV->Value->Prop}{Fs:Nat->BSet}{x:AV}{v:Value}{F:BSet}{xs:List AV}{vs:List Value}{Hs:Nat->BSet}(h:Hand w I ρ Fs xs vs Hs) (hx:R w I ρ x v F)
  (hd:∀ k c,k<xs.length->F c->¬ Hs k c) (ho:∀ t c,F c->¬ Fs t c) (hi:∀ c,F c->¬ I c):Hand w I ρ Fs (x::xs) (v::vs) (fun k=>match k with | 0=>F | k+1=>Hs k):=by
 refine ⟨by simp [h.len],fun k y u hy hu=>?_,fun j k c hj hk h1 h2=>?_,fun k t c hk hc=>?_,fun k c hk hc=>?_⟩
 ·cases k with
  | zero=>simp at hy hu; subst hy hu; exact hx
  | succ k=>simp at hy hu; exact h.rel k y u hy hu
 ·cases j <;> cases k
  ·rfl
  ·exact absurd h2 (hd _ c (by simpa using hk) h1)
  ·exact absurd h1 (hd _ c (by simpa using hj) h2)
  ·rw [h.dis _ _ c (by simpa using hj) (by simpa using hk) h1 h2]
 ·cases k with
  | zero=>exact ho t c hc
  | succ k=>exact h.off k t c (by simpa using hk) hc
 ·cases k with
  | zero=>exact hi c hc
  | succ k=>exact h.imm k c (by simpa using hk) hc
theorem Hand.tail {ρ:AV->Value->Prop}{Fs:Nat->BSet}{x:AV}{v:Value}{xs:List AV}{vs:List Value}{Hs:Nat->BSet}(h:Hand w I ρ Fs (x::xs) (v::vs) Hs):Hand w I ρ Fs xs vs (fun k=>Hs (k+1)) :=
  ⟨by simpa using h.len,fun k y u hy hu=>h.rel (k+1) y u hy hu,fun j k c hj hk h1 h2=>by have:=h.dis (j+1) (k+1) c (by simpa using hj) (by simpa using hk) h1 h2; omega,
   fun k t c hk hc=>h.off (k+1) t c (by simpa using hk) hc,fun k c hk hc=>h.imm (k+1) c (by simpa using hk) hc⟩
theorem nr_cons {x:AV}{xs:List AV}(h:NR x) (ih:∀ y∈xs,NR y):∀ y∈x::xs,NR y:=by
 intro y hy
 rcases List.mem_cons.1 hy with rfl | hy
 ·exact h
 ·exact ih y hy
theorem Take.nrOut {g g':Gst}{xs xs':List AV}(h:Take g xs xs' g'):∀ x∈xs',NR x:=by
 induction h with
 | nr h=>exact h
 | cons h _ ih=>exact nr_cons h ih
 | brw _ _ _ _ ih1 ih2=>exact nr_cons (.own ih1) ih2
 | pend _ _ _ _ _ ih1 ih2=>exact nr_cons (.own ih1) ih2
 | pend2 _ _ _ _ _ _ _ _ _ ih1 ih2=>exact nr_cons (.own ih1) ih2
 | obj _ _ _ ih1 ih2=>exact nr_cons (.obj ih1) ih2
 | mp _ _ _ _ ih2=>exact nr_cons .mp ih2
 | agg _ _ ih1 ih2=>exact nr_cons (.agg ih1) ih2
 | tup _ _ ih1 ih2=>exact nr_cons (.tup ih1) ih2
def TakeOk (w:World) (I:BSet) (T:Array Value) (g:Gst) (xs xs':List AV) (g':Gst):Prop :=
 ∀ {Fs:Nat->BSet}{vs:List Value}{Hs:Nat->BSet},SRc w I T g Fs->Hand w I (RefAt w T) Fs xs vs Hs ->
  ∃ Fs' Hs',SRc w I T g' Fs'/\Hand w I (RefAt w T) Fs' xs' vs Hs'/\∀ c,AllB Fs' xs'.length Hs' c->AllB Fs xs.length Hs c
theorem ownsRow_det {w:World}{e e':TypeId}{z n:Nat}{v:Value}{us us':List Value}(h:w.ownsRow 0 e z v n us) (h':w.ownsRow 0 e' z v n us'):us=us':=by
 obtain ⟨h1,h2⟩:=h
 obtain ⟨h1',h2'⟩:=h'
 rcases h2 with ⟨rfl,rfl⟩ | ⟨b,cap,cur,rfl,_,hg,_,_,_,ht⟩
 ·simp at h1 h1'; rw [h1,h1']
 ·rcases h2' with ⟨hh,_⟩ | ⟨b',cap',cur',hh,_,hg',_,_,_,ht'⟩
  ·cases hh
  ·cases hh
   rw [hg] at hg'
   cases hg'
   rw [<- ht,<- ht']
theorem Take.node {g1 g2 g':Gst}{Fs Fs1:Nat->BSet}{B H0:BSet}{cs cs' xs xs':List AV}{us vs:List Value}{Fk Hs:Nat->BSet}{X:AV}{v0:Value}
  (hS:SRc w I T g1 Fs1) (hH:Hand w I (RefAt w T) Fs1 cs us Fk) (hB:∀ c,B c->(∃ t,Fs t c)/\(∀ t,¬ Fs1 t c)/\(∀ k,k<cs.length->¬ Fk k c)/\¬ I c)
  (hsub:∀ c,AllB Fs1 cs.length Fk c->(∃ t,Fs t c)\/H0 c) (hT:Hand w I (RefAt w T) Fs xs vs Hs) (hH0:∀ c,H0 c->(∀ t,¬ Fs t c)/\∀ k,k<xs.length->¬ Hs k c)
  (ih1:TakeOk w I T g1 cs cs' g2) (ih2:TakeOk w I T g2 xs xs' g')
  (build:∀ Hs':Nat->BSet,(∀ (k:Nat) (x:AV) (u:Value),cs'[k]?=some x->us[k]?=some u->R w I (RefAt w T) x u (Hs' k))->(∀ (j k c:Nat),j<cs'.length->k<cs'.length->Hs' j c->Hs' k c->j=k) ->
   (∀ k c,k<cs'.length->Hs' k c->¬ B c)->R w I (RefAt w T) X v0 (fun c=>B c\/∃ k,k<cs'.length/\Hs' k c)) :
  ∃ Fs' Hs',SRc w I T g' Fs'/\Hand w I (RefAt w T) Fs' (X::xs') (v0::vs) Hs'/\∀ c,AllB Fs' (X::xs').length Hs' c->(∃ t,Fs t c)\/H0 c\/∃ k,k<xs.length/\Hs k c:=by
 obtain ⟨Fs2,H1,hS2,hH2,hall1⟩:=ih1 hS hH
 have off2:∀ k t c,k<xs.length->Hs k c->¬ Fs2 t c:=by
  intro k t c hk hc hf
  rcases hsub c (hall1 c (.inl ⟨t,hf⟩)) with ⟨t',h⟩ | h
  ·exact hT.off k t' c hk hc h
  ·exact (hH0 c h).2 k hk hc
 obtain ⟨Fs3,H3,hS3,hH3,hall2⟩:=ih2 hS2 (⟨hT.len,hT.rel,hT.dis,off2,hT.imm⟩:Hand w I (RefAt w T) Fs2 xs vs Hs)
 have hBn:∀ k c,k<cs'.length->H1 k c->¬ B c:=by
  intro k c hk hc hb
  obtain ⟨_,h1,h2,_⟩:=hB c hb
  rcases hall1 c (.inr ⟨k,hk,hc⟩) with ⟨t,h⟩ | ⟨j,hj,h⟩
  ·exact h1 t h
  ·exact h2 j hj h
 have hX:=build H1 hH2.rel hH2.dis hBn
 -- the node's blocks: apart from all else
 have key:∀ c,(B c\/∃ k,k<cs'.length/\H1 k c)->(∀ t,¬ Fs2 t c)/\(∀ k,k<xs.length->¬ Hs k c)/\¬ I c/\((∃ t,Fs t c)\/H0 c):=by
  rintro c (hb | ⟨k,hk,hc⟩)
  ·obtain ⟨⟨t0,h0⟩,h1,h2,h3⟩:=hB c hb
   refine ⟨fun t hf=>?_,fun k hk hc=>hT.off k t0 c hk hc h0,h3,.inl ⟨t0,h0⟩⟩
   rcases hall1 c (.inl ⟨t,hf⟩) with ⟨t',h⟩ | ⟨j,hj,h⟩
   ·exact h1 t' h
   ·exact h2 j hj h
  ·have hs:=hsub c (hall1 c (.inr ⟨k,hk,hc⟩))
   refine ⟨fun t hf=>hH2.off k t c hk hc hf,fun j hj hcj=>?_,hH2.imm k c hk hc,hs⟩
   rcases hs with ⟨t,h⟩ | h
   ·exact hT.off j t c hj hcj h
   ·exact (hH0 c h).2 j hj hcj
 have fin:∀ c,(B c\/∃ k,k<cs'.length/\H1 k c)->(∀ t,¬ Fs3 t c)/\∀ k,k<xs'.length->¬ H3 k c:=by
  intro c hc
  obtain ⟨h1,h2,_,_⟩:=key c hc
  have none:¬ AllB Fs3 xs'.length H3 c:=by
   intro h
   rcases hall2 c h with ⟨t,h⟩ | ⟨k,hk,h⟩
   ·exact h1 t h
   ·exact h2 k hk h
  exact ⟨fun t h=>none (.inl ⟨t,h⟩),fun k hk h=>none (.inr ⟨k,hk,h⟩)⟩
 refine ⟨Fs3,_,hS3,hH3.cons hX (fun k c hk hc=>(fin c hc).2 k hk) (fun t c hc=>(fin c hc).1 t) (fun c hc=>(key c hc).2.2.1),?_⟩
 have back:∀ c,AllB Fs3 xs'.length H3 c->(∃ t,Fs t c)\/H0 c\/∃ k,k<xs.length/\Hs k c:=by
  intro c h
  rcases hall2 c h with ⟨t,h⟩ | h
  ·rcases hsub c (hall1 c (.inl ⟨t,h⟩)) with h | h
   ·exact .inl h
   ·exact .inr (.inl h)
  ·exact .inr (.inr h)
 rintro c (h | ⟨k,hk,hc⟩)
 ·exact back c (.inl h)
 ·cases k with
  | zero =>
   rcases (key c hc).2.2.2 with h | h
   ·exact .inl h
   ·exact .inr (.inl h)
  | succ k=>exact back c (.inr ⟨k,by simpa using hk,hc⟩)
end
end Go.Own
namespace Go.Own
open Go
set_option linter.unusedSectionVars false
variable [TB]
section
variable {w:World}{I:BSet}{T:Array Value}
theorem SRc.kill {g:Gst}{Fs:Nat->BSet}(h:SRc w I T g Fs) (t:Nat):∃ Fs',SRc w I T (setP g ⟨t,[]⟩ .dead) Fs'/\(∀ c,¬ Fs' t c)/\∀ s,s≠t->Fs' s=Fs s:=by
 refine ⟨fun s=>if s=t then E0 else Fs s,⟨fun s x hx=>?_,fun s hs c=>?_,fun s s' c hc hc'=>?_,fun s c hc=>?_,h.lt,h.tb⟩,fun c=>by simp,fun s hs=>by simp [hs]⟩
 ·by_cases hst:s=t
  ·subst hst
   simp only [setP,if_pos] at hx
   cases hg:g s with
   | none=>rw [hg] at hx; cases hx
   | some y =>
    rw [hg] at hx
    have:x=.dead:=by simpa [AV.setAt] using hx.symm
    subst this
    obtain ⟨v,hv,_⟩:=h.rel s y hg
    exact ⟨v,hv,.tree (.dead (by simp))⟩
  ·simp only [setP,if_neg hst] at hx; simpa [hst] using h.rel s x hx
 ·by_cases hst:s=t
  ·simp [hst]
  ·simp only [setP,if_neg hst] at hs; simpa [hst] using h.non s hs c
 ·by_cases h1:s=t <;> by_cases h2:s'=t <;> simp [h1,h2,E0] at hc hc'
  exact h.dis _ _ _ hc hc'
 ·by_cases h1:s=t <;> simp [h1,E0] at hc
  exact h.imm _ _ hc
theorem R.headOff {ρ:AV->Value->Prop}{Fs:Nat->BSet}{x:AV}{v:Value}{xs:List AV}{vs:List Value}{Hs:Nat->BSet}(h:Hand w I ρ Fs (x::xs) (v::vs) Hs):∀ c,Hs 0 c->(∀ t,¬ Fs t c)/\∀ k,k<xs.length->¬ Hs (k+1) c:=by
 intro c hc
 refine ⟨fun t=>h.off 0 t c (by simp) hc,fun k hk hk'=>?_⟩
 have:=h.dis 0 (k+1) c (by simp) (by simpa using hk) hc hk'
 omega
theorem AllB.head {Fs:Nat->BSet}{x:AV}{xs:List AV}{Hs:Nat->BSet}{c:Nat}(h:(∃ t,Fs t c)\/Hs 0 c\/∃ k,k<xs.length/\Hs (k+1) c):AllB Fs (x::xs).length Hs c:=by
 rcases h with h | h | ⟨k,hk,h⟩
 ·exact .inl h
 ·exact .inr ⟨0,by simp,h⟩
 ·exact .inr ⟨k+1,by simpa using hk,h⟩
theorem setP_other {g:Gst}{p:Place}{y:AV}{q:Place}(h:q.root≠p.root):atP (setP g p y) q=atP g q:=by
 grind [atP,setP]
theorem setP_slot {g:Gst}{p:Place}{y:AV}{t:Nat}(h:t≠p.root):setP g p y t=g t:=by
 grind [setP]
theorem ownBlock_slice {a:Option Addr}{n cap n' cap':Nat}:(Value.slice a n cap).ownBlock=(Value.slice a n' cap').ownBlock:=by cases a <;> rfl
theorem ownsRow_take {e:TypeId}{z n N:Nat}{a:Option Addr}{cap:Nat}{us:List Value}(h:w.ownsRow 0 e z (.slice a N cap) N us) (hn:n<=N):w.ownsRow 0 e z (.slice a n cap) n (us.take (n * z)):=by
 have hle:n * z<=N * z:=Nat.mul_le_mul_right _ hn
 obtain ⟨hu,hh⟩:=h
 refine ⟨by rw [List.length_take,hu]; omega,?_⟩
 grind
theorem Take.sound {g g':Gst}{xs xs':List AV}(h:Take g xs xs' g'):TakeOk w I T g xs xs' g':=by
 induction h with
 | nr h=>exact fun {Fs vs Hs} hS hH=>⟨Fs,Hs,hS,hH,fun _ h=>h⟩
 | @cons g g' x xs xs' hx _ ih =>
  intro Fs vs Hs hS hH
  cases vs with
  | nil=>have:=hH.len; simp at this
  | cons v vs =>
   obtain ⟨Fs',Hs',hS',hH',hall⟩:=ih hS hH.tail
   have h0:=R.headOff hH
   have off:∀ c,Hs 0 c->¬ AllB Fs' xs'.length Hs' c:=by
    intro c hc hb
    rcases hall c hb with ⟨t,h⟩ | ⟨k,hk,h⟩
    ·exact (h0 c hc).1 t h
    ·exact (h0 c hc).2 k hk h
   refine ⟨Fs',_,hS',hH'.cons (hH.rel 0 x v rfl rfl) (fun k c hk hc h=>off c hc (.inr ⟨k,hk,h⟩)) (fun t c hc h=>off c hc (.inl ⟨t,h⟩)) (fun c hc=>hH.imm 0 c (by simp) hc),?_⟩
   rintro c (h | ⟨k,hk,h⟩)
   ·rcases hall c (.inl h) with h | ⟨j,hj,h⟩
    ·exact .inl h
    ·exact .inr ⟨j+1,by simpa using hj,h⟩
   ·cases k with
    | zero=>exact .inr ⟨0,by simp,h⟩
    | succ k =>
     rcases hall c (.inr ⟨k,by simpa using hk,h⟩) with h | ⟨j,hj,h⟩
     ·exact .inl h
     ·exact .inr ⟨j+1,by simpa using hj,h⟩
 | @brw g g1 g' z n N p cs cs' xs xs' hp hn t1 _ ih1 ih2 =>
  intro Fs vs Hs hS hH
  cases vs with
  | nil=>have:=hH.len; simp at this
  | cons v vs =>
   obtain ⟨vp,Fy,hvp,hRp,hFy,rebuild⟩:=hS.part hp (by simp)
   obtain ⟨a,N',cap,h1,rfl,h3⟩:=(hH.rel 0 _ v rfl rfl).inv_brw
   rw [h1] at hvp
   cases hvp
   obtain ⟨a2,cap2,hsl,_⟩:=hRp.own_slice
   cases hsl
   obtain ⟨Fs1,hS1,hr1,hr2⟩:=rebuild .dead E0 (.dead fun _ h=>h) (fun _ h=>h.elim) (fun _ h=>h.elim) (fun _ _ _ h=>h.elim) (fun _ h=>by cases h)
   have hFs1:∀ t c,Fs1 t c->Fs t c/\¬ Fy c:=by
    intro t c hc
    by_cases ht:t=p.root
    ·subst ht
     rcases (hr1 c).1 hc with h | h
     ·exact h
     ·exact h.elim
    ·rw [hr2 t ht] at hc
     exact ⟨hc,fun hyc=>ht (hS.dis _ _ _ hc (hFy c hyc))⟩
   cases hRp with
   | ref hx=>simp [AV.isRef] at hx
   | @own _ _ _ _ e us Fk _ ho hl h1' hr hd hb hF =>
    have hsubl:∀ k,k<(cs.take (n * z)).length->k<cs.length:=fun k hk=>by rw [List.length_take] at hk; omega
    have hFk:∀ k c,k<(cs.take (n * z)).length->Fk k c->Fy c:=fun k c hk hc=>(hF c).2 (.inr ⟨k,hsubl k hk,hc⟩)
    have hH1:Hand w I (RefAt w T) Fs1 (cs.take (n * z)) (us.take (n * z)) Fk:=by
     refine ⟨by simp [hl],fun k x u hx hu=>?_,fun j k c hj hk=>hd j k c (hsubl j hj) (hsubl k hk),fun k t c hk hc hf=>(hFs1 t c hf).2 (hFk k c hk hc),fun k c hk hc=>hS.imm _ c (hFy c (hFk k c hk hc))⟩
     rw [List.getElem?_take] at hx hu
     split at hx
     ·rename_i hkl; rw [if_pos hkl] at hu; exact hr k x u hx hu
     ·cases hx
    have hrow:=ownsRow_take ho hn
    obtain ⟨Fs',Hs',a1,a2,a3⟩:=Take.node (g1:=setP g p .dead) (Fs:=Fs) (B:=fun c=>(Value.slice a n cap).ownBlock=some c) (H0:=Hs 0) (X:=.own z n cs') (v0:=.slice a n cap) hS1 hH1
     (fun c hc=>by
      have hyc:Fy c:=(hF c).2 (.inl (by rw [<- hc]; exact ownBlock_slice))
      exact ⟨⟨_,hFy c hyc⟩,fun t hf=>(hFs1 t c hf).2 hyc,fun k hk hk'=>hb k c (hsubl k hk) hk' (by rw [<- hc]; exact ownBlock_slice),hS.imm _ c (hFy c hyc)⟩)
     (fun c hc=>by
      rcases hc with ⟨t,h⟩ | ⟨k,hk,h⟩
      ·exact .inl ⟨t,(hFs1 t c h).1⟩
      ·exact .inl ⟨_,hFy c (hFk k c hk h)⟩)
     hH.tail (R.headOff hH) ih1 ih2 (fun Hs'' b1 b2 b3=>by
      refine .own hrow (by rw [t1.length]; simp [hl]) (fun k u hu=>?_) b1 b2 (fun k c hk hc h=>b3 k c hk hc h) fun c=>Iff.rfl
      rw [List.getElem?_take] at hu
      split at hu
      ·exact h1' k u hu
      ·cases hu)
    exact ⟨Fs',Hs',a1,a2,fun c hc=>AllB.head (a3 c hc)⟩
 | @pend g g1 g' z n m t q cs new cs' xs xs' ht hp hq t1 _ ih1 ih2 =>
  intro Fs vs Hs hS hH
  cases vs with
  | nil=>have:=hH.len; simp at this
  | cons v vs =>
   obtain ⟨a,N',cap,h1,rfl,h3⟩:=(hH.rel 0 _ v rfl rfl).inv_brw
   obtain ⟨v0,hv0,hR0⟩:=hS.rel t _ ht
   simp only [valAt,hv0,walk,Option.some.injEq] at h1
   subst h1
   obtain ⟨bv,e,e2,us,news,hR0⟩:=hR0.isPend
   have hN:N'=n+m:=by
    obtain ⟨_,hh⟩:=hR0.hov
    rcases hh with ⟨hh,h0⟩ | ⟨_,_,_,hh,_⟩
    ·cases hh; omega
    ·cases hh; rfl
   subst hN
   obtain ⟨FsK,hSK,hk1,hk2⟩:=hS.kill t
   have hpK:atP (setP g ⟨t,[]⟩ .dead) q=some (.own z n cs):=by rw [setP_other (by simpa using hq)]; exact hp
   obtain ⟨vp,Fy,hvp,hRp,hFy,rebuild⟩:=hSK.part hpK (by simp)
   obtain ⟨a',cap',h4,rfl⟩:=hR0.hbv
   rw [h4] at hvp
   cases hvp
   obtain ⟨Fs1,hS1,hr1,hr2⟩:=rebuild .dead E0 (.dead fun _ h=>h) (fun _ h=>h.elim) (fun _ h=>h.elim) (fun _ _ _ h=>h.elim) (fun _ h=>by cases h)
   have hFyq:∀ c,Fy c->Fs q.root c:=fun c hc=>by have:=hFy c hc; rwa [hk2 _ hq] at this
   have hFs1:∀ s c,Fs1 s c->Fs s c/\¬ Fy c/\s≠t:=by
    intro s c hc
    have hst:s≠t:=by
     rintro rfl
     by_cases hsq:s=q.root
     ·exact hq hsq.symm
     ·rw [hr2 s hsq] at hc; exact hk1 c hc
    by_cases hs:s=q.root
    ·subst hs
     rcases (hr1 c).1 hc with h | h
     ·exact ⟨by have:=h.1; rwa [hk2 _ hq] at this,h.2,hst⟩
     ·exact h.elim
    ·rw [hr2 s hs,hk2 s hst] at hc
     exact ⟨hc,fun hyc=>hs (hS.dis _ _ _ hc (hFyq c hyc)),hst⟩
   cases hRp with
   | ref hx=>simp [AV.isRef] at hx
   | @own _ _ _ _ e' us' Fk _ ho hl h1' hr hd hb hF =>
    have:=ownsRow_det ho hR0.hob
    subst this
    have hFk:∀ k c,k<cs.length->Fk k c->Fy c:=fun k c hk hc=>(hF c).2 (.inr ⟨k,hk,hc⟩)
    have hH1:Hand w I (RefAt w T) Fs1 (cs++new) (us'++news) (fun k=>if k<cs.length then Fk k else E0):=by
     refine ⟨by simp [hl,hR0.hl],fun k x u hx hu=>?_,fun j k c hj hk hc hc'=>?_,fun k s c hk hc hf=>?_,fun k c hk hc=>?_⟩
     ·by_cases hkl:k<cs.length
      ·rw [List.getElem?_append_left hkl] at hx
       rw [List.getElem?_append_left (by omega)] at hu
       simpa [hkl] using hr k x u hx hu
      ·rw [List.getElem?_append_right (by omega)] at hx
       rw [List.getElem?_append_right (by omega),<- hl] at hu
       simpa [hkl] using hR0.hr _ x u hx hu
     ·by_cases hjl:j<cs.length <;> by_cases hkl:k<cs.length <;> simp [hjl,hkl,E0] at hc hc'
      exact hd j k c hjl hkl hc hc'
     ·by_cases hkl:k<cs.length <;> simp [hkl,E0] at hc
      exact (hFs1 s c hf).2.1 (hFk k c hkl hc)
     ·by_cases hkl:k<cs.length <;> simp [hkl,E0] at hc
      exact hS.imm _ c (hFyq c (hFk k c hkl hc))
    obtain ⟨Fs',Hs',a1,a2,a3⟩:=Take.node (g1:=setP (setP g ⟨t,[]⟩ .dead) q .dead) (Fs:=Fs) (B:=fun c=>(Value.slice a (n+m) cap).ownBlock=some c) (H0:=Hs 0) (X:=.own z (n+m) cs') (v0:=.slice a (n+m) cap) hS1 hH1
     (fun c hc=>by
      by_cases hbc:(Value.slice a' n cap').ownBlock=some c
      ·have hyc:Fy c:=(hF c).2 (.inl hbc)
       refine ⟨⟨_,hFyq c hyc⟩,fun s hf=>(hFs1 s c hf).2.1 hyc,fun k hk hk'=>?_,hS.imm _ c (hFyq c hyc)⟩
       by_cases hkl:k<cs.length <;> simp [hkl,E0] at hk'
       exact hb k c hkl hk' hbc
      ·have htc:Fs t c:=(hR0.hF c).2 ⟨hc,hbc⟩
       refine ⟨⟨_,htc⟩,fun s hf=>(hFs1 s c hf).2.2 (hS.dis _ _ _ (hFs1 s c hf).1 htc),fun k hk hk'=>?_,hS.imm _ c htc⟩
       by_cases hkl:k<cs.length <;> simp [hkl,E0] at hk'
       exact hq (hS.dis _ _ _ (hFyq c (hFk k c hkl hk')) htc))
     (fun c hc=>by
      rcases hc with ⟨s,h⟩ | ⟨k,hk,h⟩
      ·exact .inl ⟨s,(hFs1 s c h).1⟩
      ·by_cases hkl:k<cs.length <;> simp [hkl,E0] at h
       exact .inl ⟨_,hFyq c (hFk k c hkl h)⟩)
     hH.tail (R.headOff hH) ih1 ih2 (fun Hs'' b1 b2 b3=>by
      refine .own hR0.hov (by rw [t1.length]; simp [hl,hR0.hl]) (fun k u hu=>?_) b1 b2 (fun k c hk hc h=>b3 k c hk hc h) fun c=>Iff.rfl
      by_cases hkl:k<us'.length
      ·rw [List.getElem?_append_left hkl] at hu; exact h1' k u hu
      ·rw [List.getElem?_append_right (by omega)] at hu; exact hR0.h1 _ u hu)
    exact ⟨Fs',Hs',a1,a2,fun c hc=>AllB.head (a3 c hc)⟩
 | @pend2 g g1 g' z n m t n2 m2 t2 q cs new new2 cs' xs xs' ht ht2 hn hp hq hq2 htt t1 _ ih1 ih2 =>
  subst hn
  intro Fs vs Hs hS hH
  cases vs with
  | nil=>have:=hH.len; simp at this
  | cons v vs =>
   obtain ⟨a,N',cap,h1,rfl,h3⟩:=(hH.rel 0 _ v rfl rfl).inv_brw
   obtain ⟨v0,hv0,hR0⟩:=hS.rel t _ ht
   simp only [valAt,hv0,walk,Option.some.injEq] at h1
   subst h1
   obtain ⟨bv,e,e2,us,news,hR0⟩:=hR0.isPend
   have hN:N'=n2+m2+m:=by
    obtain ⟨_,hh⟩:=hR0.hov
    rcases hh with ⟨hh,h0⟩ | ⟨_,_,_,hh,_⟩
    ·cases hh; omega
    ·cases hh; rfl
   subst hN
   obtain ⟨v2,hv2,hR2⟩:=hS.rel t2 _ ht2
   obtain ⟨bv2,e',e2',us2,news2,hR2⟩:=hR2.isPend
   have hbv:bv=v2:=by
    obtain ⟨a1,cap1,h5,rfl⟩:=hR0.hbv
    simp only [valAt,hv2,walk,Option.some.injEq] at h5
    exact h5.symm
   subst hbv
   have hus:us=us2++news2:=ownsRow_det hR0.hob hR2.hov
   subst hus
   obtain ⟨FsK1,hSK1,hk11,hk12⟩:=hS.kill t
   obtain ⟨FsK,hSK,hk1,hk2⟩:=hSK1.kill t2
   have hpK:atP (setP (setP g ⟨t,[]⟩ .dead) ⟨t2,[]⟩ .dead) q=some (.own z n2 cs):=by rw [setP_other (by simpa using hq2),setP_other (by simpa using hq)]; exact hp
   obtain ⟨vp,Fy,hvp,hRp,hFy,rebuild⟩:=hSK.part hpK (by simp)
   obtain ⟨a',cap',h4,rfl⟩:=hR2.hbv
   rw [h4] at hvp
   cases hvp
   obtain ⟨Fs1,hS1,hr1,hr2⟩:=rebuild .dead E0 (.dead fun _ h=>h) (fun _ h=>h.elim) (fun _ h=>h.elim) (fun _ _ _ h=>h.elim) (fun _ h=>by cases h)
   have hFyq:∀ c,Fy c->Fs q.root c:=fun c hc=>by have:=hFy c hc; rwa [hk2 _ hq2,hk12 _ hq] at this
   have hFs1:∀ s c,Fs1 s c->Fs s c/\¬ Fy c/\s≠t/\s≠t2:=by
    intro s c hc
    have hst2:s≠t2:=by
     rintro rfl
     by_cases hsq:s=q.root
     ·exact hq2 hsq.symm
     ·rw [hr2 s hsq] at hc; exact hk1 c hc
    have hst:s≠t:=by
     rintro rfl
     by_cases hsq:s=q.root
     ·exact hq hsq.symm
     ·rw [hr2 s hsq,hk2 s hst2] at hc; exact hk11 c hc
    by_cases hs:s=q.root
    ·subst hs
     rcases (hr1 c).1 hc with h | h
     ·exact ⟨by have:=h.1; rwa [hk2 _ hq2,hk12 _ hq] at this,h.2,hst,hst2⟩
     ·exact h.elim
    ·rw [hr2 s hs,hk2 s hst2,hk12 s hst] at hc
     exact ⟨hc,fun hyc=>hs (hS.dis _ _ _ hc (hFyq c hyc)),hst,hst2⟩
   cases hRp with
   | ref hx=>simp [AV.isRef] at hx
   | @own _ _ _ _ e3 us' Fk _ ho hl h1' hr hd hb hF =>
    have:=ownsRow_det ho hR2.hob
    subst this
    have hFk:∀ k c,k<cs.length->Fk k c->Fy c:=fun k c hk hc=>(hF c).2 (.inr ⟨k,hk,hc⟩)
    have hH1:Hand w I (RefAt w T) Fs1 (cs++new2++new) (us'++news2++news) (fun k=>if k<cs.length then Fk k else E0):=by
     have l2:=hR2.hl
     have l0:=hR0.hl
     refine ⟨by simp [hl,l2,l0],fun k x u hx hu=>?_,fun j k c hj hk hc hc'=>?_,fun k s c hk hc hf=>?_,fun k c hk hc=>?_⟩
     ·rw [List.append_assoc] at hx hu
      by_cases hkl:k<cs.length
      ·rw [List.getElem?_append_left hkl] at hx
       rw [List.getElem?_append_left (by omega)] at hu
       simpa [hkl] using hr k x u hx hu
      ·rw [List.getElem?_append_right (by omega)] at hx
       rw [List.getElem?_append_right (by omega),<- hl] at hu
       simp only [hkl,if_false]
       by_cases hkl2:k - cs.length<new2.length
       ·rw [List.getElem?_append_left hkl2] at hx
        rw [List.getElem?_append_left (by omega)] at hu
        exact hR2.hr _ x u hx hu
       ·rw [List.getElem?_append_right (by omega)] at hx
        rw [List.getElem?_append_right (by omega),<- l2] at hu
        exact hR0.hr _ x u hx hu
     ·by_cases hjl:j<cs.length <;> by_cases hkl:k<cs.length <;> simp [hjl,hkl,E0] at hc hc'
      exact hd j k c hjl hkl hc hc'
     ·by_cases hkl:k<cs.length <;> simp [hkl,E0] at hc
      exact (hFs1 s c hf).2.1 (hFk k c hkl hc)
     ·by_cases hkl:k<cs.length <;> simp [hkl,E0] at hc
      exact hS.imm _ c (hFyq c (hFk k c hkl hc))
    have slotB:∀ s c,Fs s c->s=t\/s=t2->(∃ s,Fs s c)/\(∀ s,¬ Fs1 s c)/\(∀ k,k<(cs++new2++new).length->¬ (if k<cs.length then Fk k else E0) c)/\¬ I c:=by
     intro s c hc hs
     refine ⟨⟨_,hc⟩,fun s' hf=>?_,fun k hk hk'=>?_,hS.imm _ c hc⟩
     ·obtain ⟨f1,_,f2,f3⟩:=hFs1 s' c hf
      have:=hS.dis _ _ _ f1 hc
      rcases hs with rfl | rfl
      ·exact f2 this
      ·exact f3 this
     ·by_cases hkl:k<cs.length <;> simp [hkl,E0] at hk'
      have:=hS.dis _ _ _ (hFyq c (hFk k c hkl hk')) hc
      rcases hs with rfl | rfl
      ·exact hq this
      ·exact hq2 this
    obtain ⟨Fs',Hs',a1,a2,a3⟩:=Take.node (g1:=setP (setP (setP g ⟨t,[]⟩ .dead) ⟨t2,[]⟩ .dead) q .dead) (Fs:=Fs) (B:=fun c=>(Value.slice a (n2+m2+m) cap).ownBlock=some c) (H0:=Hs 0) (X:=.own z (n2+m2+m) cs') (v0:=.slice a (n2+m2+m) cap) hS1 hH1
     (fun c hc=>by
      by_cases hbc:bv.ownBlock=some c
      ·by_cases hbc2:(Value.slice a' n2 cap').ownBlock=some c
       ·have hyc:Fy c:=(hF c).2 (.inl hbc2)
        refine ⟨⟨_,hFyq c hyc⟩,fun s hf=>(hFs1 s c hf).2.1 hyc,fun k hk hk'=>?_,hS.imm _ c (hFyq c hyc)⟩
        by_cases hkl:k<cs.length <;> simp [hkl,E0] at hk'
        exact hb k c hkl hk' hbc2
       ·exact slotB t2 c ((hR2.hF c).2 ⟨hbc,hbc2⟩) (.inr rfl)
      ·exact slotB t c ((hR0.hF c).2 ⟨hc,hbc⟩) (.inl rfl))
     (fun c hc=>by
      rcases hc with ⟨s,h⟩ | ⟨k,hk,h⟩
      ·exact .inl ⟨s,(hFs1 s c h).1⟩
      ·by_cases hkl:k<cs.length <;> simp [hkl,E0] at h
       exact .inl ⟨_,hFyq c (hFk k c hkl h)⟩)
     hH.tail (R.headOff hH) ih1 ih2 (fun Hs'' b1 b2 b3=>by
      refine .own hR0.hov (by rw [t1.length]; simp [hl,hR2.hl,hR0.hl]) (fun k u hu=>?_) b1 b2 (fun k c hk hc h=>b3 k c hk hc h) fun c=>Iff.rfl
      rw [List.append_assoc] at hu
      by_cases hkl:k<us'.length
      ·rw [List.getElem?_append_left hkl] at hu; exact h1' k u hu
      ·rw [List.getElem?_append_right (by omega)] at hu
       by_cases hkl2:k - us'.length<news2.length
       ·rw [List.getElem?_append_left hkl2] at hu; exact hR2.h1 _ u hu
       ·rw [List.getElem?_append_right (by omega)] at hu; exact hR0.h1 _ u hu)
    exact ⟨Fs',Hs',a1,a2,fun c hc=>AllB.head (a3 c hc)⟩
 | @obj g g1 g' p cs cs' xs xs' hp t1 _ ih1 ih2 =>
  intro Fs vs Hs hS hH
  cases vs with
  | nil=>have:=hH.len; simp at this
  | cons v vs =>
   obtain ⟨vp,Fy,hvp,hRp,hFy,rebuild⟩:=hS.part hp (by simp)
   obtain ⟨u,ad,h1,h2,rfl⟩:=(hH.rel 0 _ v rfl rfl).inv_ptr
   rw [h1] at hvp
   cases hvp
   obtain ⟨Fs1,hS1,hr1,hr2⟩:=rebuild .dead E0 (.dead fun _ h=>h) (fun _ h=>h.elim) (fun _ h=>h.elim) (fun _ _ _ h=>h.elim) (fun _ h=>by cases h)
   have hFs1:∀ t c,Fs1 t c->Fs t c/\¬ Fy c:=by
    intro t c hc
    by_cases ht:t=p.root
    ·subst ht
     rcases (hr1 c).1 hc with h | h
     ·exact h
     ·exact h.elim
    ·rw [hr2 t ht] at hc
     exact ⟨hc,fun hyc=>ht (hS.dis _ _ _ hc (hFy c hyc))⟩
   cases hRp with
   | ref hx=>simp [AV.isRef] at hx
   | @obj _ b e arr Fk _ ho hl h1' hr hd hb hF hs =>
    simp only [addrOf,Option.some.injEq] at h2
    subst h2
    have hFk:∀ k c,k<cs.length->Fk k c->Fy c:=fun k c hk hc=>(hF c).2 (.inr ⟨k,hk,hc⟩)
    have hH1:Hand w I (RefAt w T) Fs1 cs arr.toList Fk :=
     ⟨by simp [hl],fun k x u hx hu=>hr k x u hx (by simpa using hu),hd,fun k t c hk hc hf=>(hFs1 t c hf).2 (hFk k c hk hc),fun k c hk hc=>hS.imm _ c (hFy c (hFk k c hk hc))⟩
    obtain ⟨Fs',Hs',a1,a2,a3⟩:=Take.node (g1:=setP g p .dead) (Fs:=Fs) (B:=fun c=>c=b) (H0:=Hs 0) (X:=.obj cs') (v0:=.pointer (some ⟨b,0,none⟩)) hS1 hH1
     (fun c hc=>by
      subst hc
      have hyc:Fy c:=(hF c).2 (.inl rfl)
      exact ⟨⟨_,hFy c hyc⟩,fun t hf=>(hFs1 t c hf).2 hyc,fun k hk hk'=>hb k hk hk',hS.imm _ c (hFy c hyc)⟩)
     (fun c hc=>by
      rcases hc with ⟨t,h⟩ | ⟨k,hk,h⟩
      ·exact .inl ⟨t,(hFs1 t c h).1⟩
      ·exact .inl ⟨_,hFy c (hFk k c hk h)⟩)
     hH.tail (R.headOff hH) ih1 ih2 (fun Hs'' b1 b2 b3=>by
      refine .obj ho (by rw [t1.length,hl]) h1' (fun k x u hx hu=>b1 k x u hx (by simpa using hu)) b2 (fun k hk h=>b3 k b hk h rfl) (fun c=>Iff.rfl) fun k j u hk=>hs k j u (t1.self k j hk))
    exact ⟨Fs',Hs',a1,a2,fun c hc=>AllB.head (a3 c hc)⟩
 | @mp g g1 g' p q xs xs' hp t1 _ ih1 ih2 =>
  intro Fs vs Hs hS hH
  cases vs with
  | nil=>have:=hH.len; simp at this
  | cons v vs =>
   obtain ⟨vp,Fy,hvp,hRp,hFy,rebuild⟩:=hS.part hp (by simp)
   have hm:=hH.rel 0 _ v rfl rfl
   cases hm with
   | ref _ hm _ =>
   obtain ⟨bb,h1,rfl⟩:=hm
   rw [h1] at hvp
   cases hvp
   obtain ⟨Fs1,hS1,hr1,hr2⟩:=rebuild .dead E0 (.dead fun _ h=>h) (fun _ h=>h.elim) (fun _ h=>h.elim) (fun _ _ _ h=>h.elim) (fun _ h=>by cases h)
   have hFs1:∀ t c,Fs1 t c->Fs t c/\¬ Fy c:=by
    intro t c hc
    by_cases ht:t=p.root
    ·subst ht
     rcases (hr1 c).1 hc with h | h
     ·exact h
     ·exact h.elim
    ·rw [hr2 t ht] at hc
     exact ⟨hc,fun hyc=>ht (hS.dis _ _ _ hc (hFy c hyc))⟩
   cases hRp with
   | ref hx=>simp [AV.isRef] at hx
   | @mp _ b es clock _ ho hq hF =>
    have hH1:Hand w I (RefAt w T) Fs1 [] [] (fun _=>E0) :=
     ⟨rfl,fun k x u hx=>by simp at hx,fun _ _ _ _ _ h=>h.elim,fun _ _ _ _ h=>h.elim,fun _ _ _ h=>h.elim⟩
    obtain ⟨Fs',Hs',a1,a2,a3⟩:=Take.node (g1:=setP g p .dead) (Fs:=Fs) (B:=fun c=>c=b) (H0:=Hs 0) (X:=.mp q) (v0:=.map (some b)) hS1 hH1
     (fun c hc=>by
      subst hc
      have hyc:Fy c:=(hF c).2 rfl
      exact ⟨⟨_,hFy c hyc⟩,fun t hf=>(hFs1 t c hf).2 hyc,fun k hk _=>by simp at hk,hS.imm _ c (hFy c hyc)⟩)
     (fun c hc=>by
      rcases hc with ⟨t,h⟩ | ⟨k,hk,h⟩
      ·exact .inl ⟨t,(hFs1 t c h).1⟩
      ·exact h.elim)
     hH.tail (R.headOff hH) ih1 ih2 (fun Hs'' b1 b2 b3=>by
      refine .mp ho hq fun c=>⟨fun h=>h.elim id fun ⟨_,hk,_⟩=>by simp at hk,.inl⟩)
    exact ⟨Fs',Hs',a1,a2,fun c hc=>AllB.head (a3 c hc)⟩
 | @agg g g1 g' cs cs' xs xs' t1 _ ih1 ih2 =>
  intro Fs vs Hs hS hH
  cases vs with
  | nil=>have:=hH.len; simp at this
  | cons v vs =>
   have hx:=hH.rel 0 _ v rfl rfl
   have h0:=R.headOff hH
   cases hx with
   | ref hx=>simp [AV.isRef] at hx
   | @agg _ us Fk _ hl h1' hr hd hF =>
    have hFk:∀ k c,k<cs.length->Fk k c->Hs 0 c:=fun k c hk hc=>(hF c).2 ⟨k,hk,hc⟩
    obtain ⟨Fs',Hs',a1,a2,a3⟩:=Take.node (g1:=g) (Fs:=Fs) (B:=E0) (H0:=Hs 0) (X:=.agg cs') (v0:=.agg us) hS
     (⟨by simp [hl],fun k x u hx hu=>hr k x u hx (by simpa using hu),hd,fun k t c hk hc=>(h0 c (hFk k c hk hc)).1 t,fun k c hk hc=>hH.imm 0 c (by simp) (hFk k c hk hc)⟩:Hand w I (RefAt w T) Fs cs us.toList Fk)
     (fun c hc=>hc.elim)
     (fun c hc=>by
      rcases hc with h | ⟨k,hk,h⟩
      ·exact .inl h
      ·exact .inr (hFk k c hk h))
     hH.tail h0 ih1 ih2 (fun Hs'' b1 b2 b3=>by
      refine .agg (by rw [t1.length,hl]) h1' (fun k x u hx hu=>b1 k x u hx (by simpa using hu)) b2 fun c=>⟨fun h=>h.elim (fun h=>h.elim) id,.inr⟩)
    exact ⟨Fs',Hs',a1,a2,fun c hc=>AllB.head (a3 c hc)⟩
 | @tup g g1 g' cs cs' xs xs' t1 _ ih1 ih2 =>
  intro Fs vs Hs hS hH
  cases vs with
  | nil=>have:=hH.len; simp at this
  | cons v vs =>
   have hx:=hH.rel 0 _ v rfl rfl
   have h0:=R.headOff hH
   cases hx with
   | ref hx=>simp [AV.isRef] at hx
   | @tup _ us Fk _ hl hr hd hF =>
    have hFk:∀ k c,k<cs.length->Fk k c->Hs 0 c:=fun k c hk hc=>(hF c).2 ⟨k,hk,hc⟩
    obtain ⟨Fs',Hs',a1,a2,a3⟩:=Take.node (g1:=g) (Fs:=Fs) (B:=E0) (H0:=Hs 0) (X:=.tup cs') (v0:=.tuple us) hS
     (⟨by simp [hl],fun k x u hx hu=>hr k x u hx (by simpa using hu),hd,fun k t c hk hc=>(h0 c (hFk k c hk hc)).1 t,fun k c hk hc=>hH.imm 0 c (by simp) (hFk k c hk hc)⟩:Hand w I (RefAt w T) Fs cs us.toList Fk)
     (fun c hc=>hc.elim)
     (fun c hc=>by
      rcases hc with h | ⟨k,hk,h⟩
      ·exact .inl h
      ·exact .inr (hFk k c hk h))
     hH.tail h0 ih1 ih2 (fun Hs'' b1 b2 b3=>by
      refine .tup (by rw [t1.length,hl]) (fun k x u hx hu=>b1 k x u hx (by simpa using hu)) b2 fun c=>⟨fun h=>h.elim (fun h=>h.elim) id,.inr⟩)
    exact ⟨Fs',Hs',a1,a2,fun c hc=>AllB.head (a3 c hc)⟩
end
end Go.Own
namespace Go.Own
open Go
set_option linter.unusedSectionVars false
variable [TB]
inductive RKp (φ:AV->Prop):AV->Prop
 | nr {x:AV}(h:NR x):RKp φ x
 | ref {x:AV}(hx:x.isRef=true) (h:φ x):RKp φ x
 | own {z n:Nat}{cs:List AV}(h:∀ x∈cs,RKp φ x):RKp φ (.own z n cs)
 | obj {cs:List AV}(h:∀ x∈cs,RKp φ x):RKp φ (.obj cs)
 | agg {cs:List AV}(h:∀ x∈cs,RKp φ x):RKp φ (.agg cs)
 | tup {cs:List AV}(h:∀ x∈cs,RKp φ x):RKp φ (.tup cs)
 | clo {fn:Fn}{a b:List AV}(h1:∀ x∈a,RKp φ x) (h2:∀ x∈b,RKp φ x):RKp φ (.clo fn a b)
def refPlace:AV->Option Place
 | .ptr p _=>some p
 | .brw _ p _=>some p
 | .sub _ p _ _=>some p
 | .pend _ p _ _ _=>some p
 | .mref p=>some p
 | _=>none
def Clear (p:Place) (k m:Nat) (r:AV):Prop:=∀ q,refPlace r=some q->q.root=p.root->∀ j r',q.path=p.path++j::r'->j<k\/k+m<=j
def splice {α:Type}(l:List α) (k:Nat) (c:List α):List α:=l.take k++c++l.drop (k+c.length)
theorem splice_length {α:Type}{l:List α}{k:Nat}{c:List α}(h:k+c.length<=l.length):(splice l k c).length=l.length:=by
 simp [splice]; omega
theorem splice_get {α:Type}{l:List α}{k:Nat}{c:List α}(h:k+c.length<=l.length) (j:Nat):(splice l k c)[j]?=if k<=j/\j<k+c.length then c[j - k]? else l[j]?:=by
 unfold splice
 rw [List.append_assoc]
 by_cases h1:j<k
 ·rw [List.getElem?_append_left (by simp; omega),List.getElem?_take,if_pos h1,if_neg (by omega)]
 ·rw [List.getElem?_append_right (by simp; omega)]
  have:(l.take k).length=k:=by simp; omega
  rw [this]
  by_cases h2:j<k+c.length
  ·rw [List.getElem?_append_left (by omega),if_pos ⟨by omega,h2⟩]
  ·rw [List.getElem?_append_right (by omega),List.getElem?_drop,if_neg (by omega)]
   congr 1; omega
theorem splice_take {α:Type}{l:List α}{k:Nat}{c:List α}{m:Nat}(h:k+c.length<=m) (hm:m<=l.length):(splice l k c).take m=splice (l.take m) k c:=by
 have h1:k+c.length<=(l.take m).length:=by rw [List.length_take]; omega
 apply List.ext_getElem?
 intro j
 rw [List.getElem?_take,splice_get h1,splice_get (l:=l) (by omega),List.getElem?_take]
 by_cases hj:j<m
 ·rw [if_pos hj,if_pos hj]
 ·rw [if_neg hj,if_neg hj,if_neg (by omega)]
def AV.splice (x:AV) (k:Nat) (c:List AV):AV :=
 match x with
 | .own z n cs=>.own z n (Own.splice cs k c)
 | .obj cs=>.obj (Own.splice cs k c)
 | x=>x
section
variable {w:World}{I:BSet}{T:Array Value}{g:Gst}{Fs:Nat->BSet}
theorem R.rkp {ρ:AV->Value->Prop}{φ:AV->Prop}{x:AV}{v:Value}{F:BSet}(h:R w I ρ x v F):RKp φ x->R w I (fun r u=>ρ r u/\φ r) x v F:=by
 induction h with
 | lit h hF=>exact fun _=>.lit h hF
 | nils hF=>exact fun _=>.nils hF
 | dead hF=>exact fun _=>.dead hF
 | slf hF=>exact fun _=>.slf hF
 | @ref x _ _ hx h hF =>
  intro hk
  refine .ref hx ⟨h,?_⟩ hF
  cases hk with
  | ref _ h=>exact h
  | nr h=>cases h <;> simp [AV.isRef] at hx
  | _=>simp [AV.isRef] at hx
 | imm0 hF=>exact fun _=>.imm0 hF
 | mp ho hp hF=>exact fun _=>.mp ho hp hF
 | brow ho h1 hF=>exact fun _=>.brow ho h1 hF
 | imp hF hI ho hp=>exact fun _=>.imp hF hI ho hp
 | imm hF hcap hI hs hl h1 hc hr ih =>
  intro hk
  cases hk with
  | ref hx=>simp [AV.isRef] at hx
  | nr h=>cases h with | imm h=>exact .imm hF hcap hI hs hl h1 hc fun k x hx=>ih k x hx (.nr (h x (List.mem_of_getElem? hx)))
 | iptr hF hI hs h1 hc hr ih =>
  intro hk
  cases hk with
  | ref hx=>simp [AV.isRef] at hx
  | nr h=>cases h with | iptr h=>exact .iptr hF hI hs h1 hc fun k x hx=>ih k x hx (.nr (h x (List.mem_of_getElem? hx)))
 | own ho hl h1 hr hd hb hF ih =>
  intro hk
  refine .own ho hl h1 (fun k x u hx hu=>ih k x u hx hu ?_) hd hb hF
  cases hk with
  | ref hx=>simp [AV.isRef] at hx
  | nr h=>cases h with | own h=>exact .nr (h x (List.mem_of_getElem? hx))
  | own h=>exact h x (List.mem_of_getElem? hx)
 | obj ho hl h1 hr hd hb hF hs ih =>
  intro hk
  refine .obj ho hl h1 (fun k x u hx hu=>ih k x u hx hu ?_) hd hb hF hs
  cases hk with
  | ref hx=>simp [AV.isRef] at hx
  | nr h=>cases h with | obj h=>exact .nr (h x (List.mem_of_getElem? hx))
  | obj h=>exact h x (List.mem_of_getElem? hx)
 | agg hl h1 hr hd hF ih =>
  intro hk
  refine .agg hl h1 (fun k x u hx hu=>ih k x u hx hu ?_) hd hF
  cases hk with
  | ref hx=>simp [AV.isRef] at hx
  | nr h=>cases h with | agg h=>exact .nr (h x (List.mem_of_getElem? hx))
  | agg h=>exact h x (List.mem_of_getElem? hx)
 | tup hl hr hd hF ih =>
  intro hk
  refine .tup hl (fun k x u hx hu=>ih k x u hx hu ?_) hd hF
  cases hk with
  | ref hx=>simp [AV.isRef] at hx
  | nr h=>cases h with | tup h=>exact .nr (h x (List.mem_of_getElem? hx))
  | tup h=>exact h x (List.mem_of_getElem? hx)
 | @clo fn first caps v1 v2 F hF h1 h2 hr1 hr2 ih1 ih2 =>
  intro hk
  have:(∀ x∈first,RKp φ x)/\∀ x∈caps,RKp φ x:=by
   cases hk with
   | ref hx=>simp [AV.isRef] at hx
   | nr h=>cases h with | clo h1 h2=>exact ⟨fun x hx=>.nr (h1 x hx),fun x hx=>.nr (h2 x hx)⟩
   | clo h1 h2=>exact ⟨h1,h2⟩
  exact .clo hF h1 h2 (fun k x u hx hu=>ih1 k x u hx hu (this.1 x (List.mem_of_getElem? hx))) (fun k x u hx hu=>ih2 k x u hx hu (this.2 x (List.mem_of_getElem? hx)))
theorem SRc.store (hS:SRc w I T g Fs) {p:Place}{nd:AV}{z n:Nat}{cs:List AV}(hp:atP g p=some nd) (hnd:nd=.own z n cs\/nd=.obj cs) {k:Nat}{cs':List AV}(hk:k+cs'.length<=cs.length)
  {us':List Value}{Hs:Nat->BSet}(hH:Hand w I (RefAt w T) Fs cs' us' Hs) (hnr:∀ x∈cs',NR x) (hns:nd=.obj cs->NoSelf cs') (hone:∀ (j:Nat) (u:Value),us'[j]?=some u->u.oneCell'=true)
  {g2:Gst}(hg2:∀ t x,g2 t=some x->setP g p (nd.splice k cs') t=some x)
  (hrk:∀ t x,g2 t=some x->∀ y,g t=some y->RKp (fun r=>RefOk g r/\Clear p k cs'.length r/\RefOk g2 r) y) (hnp:∀ t z q n m new,g2 t≠some (.pend z q n m new)) (hroot:g2 p.root≠none) {b:Nat}{v:Value}
  (hv:valAt w T p=some v) (hb:addrOf v=some ⟨b,0,none⟩) {e:TypeId}{arr:Array Value}(harr:w.heap[b]?=some (.cells arr e (0,0))) :
  ∃ Fs',SR (w.setRow b (splice arr.toList k us').toArray) I T g2 Fs'/\∀ t c,Fs' t c->Fs t c\/∃ j,j<cs'.length/\Hs j c:=by
 have notPend:∀ z q n m new,nd≠.pend z q n m new:=by rcases hnd with rfl | rfl <;> simp
 have hlen:=hH.len
 have w'o:∀ c,c≠b->(w.setRow b (splice arr.toList k us').toArray).heap[c]?=w.heap[c]?:=fun c hc=>setRow_other w b c _ hc
 have w'b:(w.setRow b (splice arr.toList k us').toArray).heap[b]?=some (.cells (splice arr.toList k us').toArray e (0,0)):=setRow_heap w b arr _ e (0,0) harr
 have w's:(w.setRow b (splice arr.toList k us').toArray).heap.size=w.heap.size:=by simp
 generalize hw':w.setRow b (splice arr.toList k us').toArray=w' at *
 -- the slot of the node
 obtain ⟨x0,hx0⟩:∃ x0,g p.root=some x0:=by
  unfold atP at hp
  cases hx:g p.root with
  | none=>rw [hx] at hp; cases hp
  | some x=>exact ⟨x,rfl⟩
 have hat0:x0.at p.path=some nd:=by simpa [atP,hx0] using hp
 obtain ⟨v0,hv0,hR0⟩:=hS.rel _ _ hx0
 have hR0':=hR0.isTree (by rintro z q n m new rfl; exact notPend _ _ _ _ _ (AV.at_pend hat0).2)
 have hk0:RKp (fun r=>RefOk g r/\Clear p k cs'.length r/\RefOk g2 r) x0:=by
  cases h2:g2 p.root with
  | none=>exact absurd h2 hroot
  | some y=>exact hrk _ _ h2 _ hx0
 let ρ1:AV->Value->Prop:=fun r u=>RefAt w T r u/\RefOk g r/\Clear p k cs'.length r/\RefOk g2 r
 have hR1:R w I ρ1 x0 v0 (Fs p.root):=hR0'.rkp hk0
 obtain ⟨vy,Fy,hw,hRy,hFy,wk,rebuild⟩:=R.focus p.path hR1 hat0
 have hvy:vy=v:=by simp only [valAt,hv0,hw,Option.some.injEq] at hv; exact hv
 subst hvy
 have hbF:Fy b:=hRy.node_block (z:=z) (n:=n) hnd hb
 have same:∀ t c,Fs t c->c≠b->w'.heap[c]?=w.heap[c]?:=fun _ c _ hc=>w'o c hc
 have hIb:∀ c,I c->w'.heap[c]?=w.heap[c]?:=fun c hc=>w'o c fun e=>hS.imm _ b (hFy b hbF) (e ▸ hc)
 have hother:∀ t,t≠p.root->¬ Fs t b:=fun t ht h=>ht (hS.dis _ _ _ h (hFy b hbF))
 -- ways that are clear of the cells
 obtain ⟨wk1,wk2⟩:=wk w' fun c hc hn=>w'o c fun e=>hn (e ▸ hbF)
 have kid:∀ (ρ':AV->Value->Prop),(∀ x v,ρ1 x v->ρ' x v)->(∃ F',R w' I ρ' (nd.splice k cs') vy F'/\∀ c,F' c->Fy c\/∃ j,j<cs'.length/\Hs j c)/\∀ j r' y,(j<k\/k+cs'.length<=j)->nd.at (j::r')=some y->walk w' vy (j::r')=walk w vy (j::r'):=by
  intro ρ' hρ
  have new:∀ (j:Nat) (x:AV) (u:Value),cs'[j]?=some x->us'[j]?=some u->R w' I ρ' x u (Hs j):=by
   intro j x u hx hu
   have hj:j<cs'.length:=(List.getElem?_eq_some_iff.1 hx).1
   have:=(hH.rel j x u hx hu).nr (ρ':=ρ') (hnr x (List.mem_of_getElem? hx))
   exact this.frame hIb (fun _ h=>h) (fun _ _ h=>h) fun c hc=>w'o c fun e=>hH.off j p.root b hj (e ▸ hc) (hFy b hbF)
  rcases hnd with rfl | rfl
  ·cases hRy with
   | ref hx=>simp [AV.isRef] at hx
   | @own _ _ _ _ e' us Fk _ ho hl h1 hr hd hbb hF =>
    obtain ⟨hus,hh⟩:=ho
    rcases hh with ⟨rfl,_⟩ | ⟨b',cap,cur,rfl,r1,r2,r3,r4,r5,r6⟩
    ·simp [addrOf] at hb
    ·simp only [addrOf,Option.some.injEq,Addr.mk.injEq,and_true] at hb
     subst hb
     rw [harr] at r2
     cases r2
     have hcur:n * z<=arr.toList.length:=by
      rw [<- hus,<- r6,List.length_take] ; simp; omega
     have husl:us.length=cs.length:=hl.symm
     have ho':w'.ownsRow 0 e z (.slice (some ⟨b',0,none⟩) n cap) n (splice us k us'):=by
      refine ⟨by rw [splice_length (by omega),hus],.inr ⟨b',cap,_,rfl,r1,w'b,r3,r4,?_,?_⟩⟩
      ·rw [List.size_toArray,splice_length (by omega),Array.length_toList,r5]
      ·show (splice arr.toList k us').take (n * z)=_
       rw [splice_take (by omega) hcur,r6]
     have hFkb:∀ j,j<cs.length->¬ Fk j b':=fun j hj h=>hbb j b' hj h rfl
     have hFk:∀ j c,j<cs.length->Fk j c->Fs p.root c:=fun j c hj hc=>hFy c ((hF c).2 (.inr ⟨j,hj,hc⟩))
     refine ⟨⟨_,.own (Fs:=fun j=>if k<=j/\j<k+cs'.length then Hs (j - k) else Fk j) ho' (by rw [splice_length hk,splice_length (by omega),hl]) (fun j u hu=>?_) (fun j x u hx hu=>?_) (fun i j c hi hj hc hc'=>?_) (fun j c hj hc hvc=>?_) (fun c=>Iff.rfl),fun c hc=>?_⟩,fun j r' y hj hy=>?_⟩
     ·rw [splice_get (by omega)] at hu
      split at hu
      ·exact hone _ u hu
      ·exact h1 j u hu
     ·rw [splice_get hk] at hx
      rw [splice_get (by omega),<- hlen] at hu
      by_cases hjk:k<=j/\j<k+cs'.length
      ·rw [if_pos hjk] at hx hu
       simpa [hjk] using new (j - k) x u hx hu
      ·rw [if_neg hjk] at hx hu
       have hjl:j<cs.length:=(List.getElem?_eq_some_iff.1 hx).1
       rw [if_neg hjk]
       exact (hr j x u hx hu).frame hIb (fun _ h=>h) hρ fun c hc=>w'o c fun e=>hFkb j hjl (e ▸ hc)
     ·rw [splice_length hk] at hi hj
      by_cases h1:k<=i/\i<k+cs'.length <;> by_cases h2:k<=j/\j<k+cs'.length <;> simp only [h1,h2,if_false] at hc hc'
      ·have:=hH.dis (i - k) (j - k) c (by omega) (by omega) (by simpa using hc) (by simpa using hc')
       omega
      ·exact absurd (hFk j c hj hc') (hH.off (i - k) _ c (by omega) (by simpa using hc))
      ·exact absurd (hFk i c hi hc) (hH.off (j - k) _ c (by omega) (by simpa using hc'))
      ·exact hd i j c hi hj hc hc'
     ·rw [splice_length hk] at hj
      by_cases h1:k<=j/\j<k+cs'.length
      ·rw [if_pos h1] at hc
       simp only [Value.ownBlock,Option.some.injEq] at hvc
       subst hvc
       exact hH.off (j - k) p.root b' (by omega) hc (hFy b' hbF)
      ·rw [if_neg h1] at hc; exact hbb j c hj hc hvc
     ·rcases hc with hc | ⟨j,hj,hc⟩
      ·exact .inl ((hF c).2 (.inl hc))
      ·rw [splice_length hk] at hj
       by_cases h1:k<=j/\j<k+cs'.length
       ·rw [if_pos h1] at hc; exact .inr ⟨j - k,by omega,hc⟩
       ·rw [if_neg h1] at hc; exact .inl ((hF c).2 (.inr ⟨j,hj,hc⟩))
     ·obtain ⟨c,hkc,hc⟩:=AV.at_cons hy
      simp only [AV.kids] at hkc
      have hjl:j<cs.length:=(List.getElem?_eq_some_iff.1 hkc).1
      have hu:us[j]?=some us[j]:=List.getElem?_eq_getElem (by omega)
      have hch:child w (.slice (some ⟨b',0,none⟩) n cap) j=some us[j]:=by
       refine ownsRow_child (e:=e) (z:=z) (n:=n) (us:=us) ⟨hus,.inr ⟨b',cap,arr,rfl,r1,harr,r3,r4,r5,r6⟩⟩ hu
      have hch':child w' (.slice (some ⟨b',0,none⟩) n cap) j=some us[j]:=by
       refine ownsRow_child ho' ?_
       rw [splice_get (by omega),if_neg (by omega)]; exact hu
      have:=R.walk_frame (w':=w') r' (hr j c _ hkc hu) hc fun c hc=>w'o c fun e=>hFkb j hjl (e ▸ hc)
      simp [walk,hch,hch',this]
  ·cases hRy with
   | ref hx=>simp [AV.isRef] at hx
   | @obj _ b' e' arr' Fk _ ho hl h1 hr hd hbb hF hs =>
    simp only [addrOf,Option.some.injEq,Addr.mk.injEq,and_true] at hb
    subst hb
    rw [harr] at ho
    cases ho
    have hal:cs.length=arr.toList.length:=by simp [hl]
    have hFk:∀ j c,j<cs.length->Fk j c->Fs p.root c:=fun j c hj hc=>hFy c ((hF c).2 (.inr ⟨j,hj,hc⟩))
    refine ⟨⟨_,.obj (Fs:=fun j=>if k<=j/\j<k+cs'.length then Hs (j - k) else Fk j) w'b (by rw [splice_length hk,List.size_toArray,splice_length (by omega),hal]) (fun j u hu=>?_) (fun j x u hx hu=>?_) (fun i j c hi hj hc hc'=>?_) (fun j hj hc=>?_) (fun c=>Iff.rfl) (fun i j u hi hu=>?_),fun c hc=>?_⟩,fun j r' y hj hy=>?_⟩
    ·rw [List.getElem?_toArray,splice_get (by omega)] at hu
     split at hu
     ·exact hone _ u hu
     ·exact h1 j u (by simpa using hu)
    ·rw [splice_get hk] at hx
     rw [List.getElem?_toArray,splice_get (by omega),<- hlen] at hu
     by_cases hjk:k<=j/\j<k+cs'.length
     ·rw [if_pos hjk] at hx hu
      simpa [hjk] using new (j - k) x u hx hu
     ·rw [if_neg hjk] at hx hu
      have hjl:j<cs.length:=(List.getElem?_eq_some_iff.1 hx).1
      rw [if_neg hjk]
      exact (hr j x u hx (by simpa using hu)).frame hIb (fun _ h=>h) hρ fun c hc=>w'o c fun e=>hbb j hjl (e ▸ hc)
    ·rw [splice_length hk] at hi hj
     by_cases h1:k<=i/\i<k+cs'.length <;> by_cases h2:k<=j/\j<k+cs'.length <;> simp only [h1,h2,if_false] at hc hc'
     ·have:=hH.dis (i - k) (j - k) c (by omega) (by omega) (by simpa using hc) (by simpa using hc')
      omega
     ·exact absurd (hFk j c hj hc') (hH.off (i - k) _ c (by omega) (by simpa using hc))
     ·exact absurd (hFk i c hi hc) (hH.off (j - k) _ c (by omega) (by simpa using hc'))
     ·exact hd i j c hi hj hc hc'
    ·rw [splice_length hk] at hj
     by_cases h1:k<=j/\j<k+cs'.length
     ·rw [if_pos h1] at hc
      exact hH.off (j - k) p.root b' (by omega) hc (hFy b' hbF)
     ·rw [if_neg h1] at hc; exact hbb j hj hc
    ·rw [splice_get hk] at hi
     rw [List.getElem?_toArray,splice_get (by omega),<- hlen] at hu
     by_cases hik:k<=i/\i<k+cs'.length
     ·rw [if_pos hik] at hi; exact absurd hi (hns rfl _ _)
     ·rw [if_neg hik] at hi hu; exact hs i j u hi (by simpa using hu)
    ·rcases hc with hc | ⟨j,hj,hc⟩
     ·exact .inl ((hF c).2 (.inl hc))
     ·rw [splice_length hk] at hj
      by_cases h1:k<=j/\j<k+cs'.length
      ·rw [if_pos h1] at hc; exact .inr ⟨j - k,by omega,hc⟩
      ·rw [if_neg h1] at hc; exact .inl ((hF c).2 (.inr ⟨j,hj,hc⟩))
    ·obtain ⟨c,hkc,hc⟩:=AV.at_cons hy
     simp only [AV.kids] at hkc
     have hjl:j<cs.length:=(List.getElem?_eq_some_iff.1 hkc).1
     have hu:arr[j]?=some arr[j]:=Array.getElem?_eq_getElem (by omega)
     have hch:child w (.pointer (some ⟨b',0,none⟩)) j=some arr[j]:=by simp [child,World.cell?,harr,hu]
     have hch':child w' (.pointer (some ⟨b',0,none⟩)) j=some arr[j]:=by
      have h3:(splice arr.toList k us')[j]?=some arr[j]:=by
       rw [splice_get (by omega),if_neg (by omega)]; simp
      simp [child,World.cell?,w'b,h3]
     have:=R.walk_frame (w':=w') r' (hr j c _ hkc hu) hc fun c hc=>w'o c fun e=>hbb j hjl (e ▸ hc)
     simp [walk,hch,hch',this]
 have val:∀ q y,atP g q=some y->(q.root=p.root->∀ j r',q.path=p.path++j::r'->j<k\/k+cs'.length<=j)->valAt w' T q=valAt w T q:=by
  intro q y hq hcl
  by_cases hr:q.root=p.root
  ·have hat:x0.at q.path=some y:=by simpa [atP,hr,hx0] using hq
   rcases wk2 q.path y hat with ⟨r',hr'⟩ | h
   ·have hw':walk w' v0 q.path=walk w v0 q.path:=by
     rw [hr',walk_app,walk_app,wk1,hw]
     simp only [Option.bind_some]
     cases r' with
     | nil=>rfl
     | cons j r' =>
      rw [hr',AV.at_app,hat0] at hat
      exact (kid (fun _ _=>True) (fun _ _ _=>trivial)).2 j r' y (hcl hr j r' hr') hat
    simp [valAt,hr,hv0,hw']
   ·simp [valAt,hr,hv0,h]
  ·unfold atP at hq
   cases hx:g q.root with
   | none=>rw [hx] at hq; cases hq
   | some x =>
    rw [hx] at hq
    obtain ⟨u,hu,hR⟩:=hS.rel _ _ hx
    cases hR with
    | tree hR =>
     have:=R.walk_frame (w':=w') q.path hR hq fun c hc=>w'o c fun e=>hother _ hr (e ▸ hc)
     simp [valAt,hu,this]
    | pend hR=>simp [valAt,hu,(AV.at_pend hq).1,walk]
 have slot:∀ {q:Place}{x:AV},q.path=[]->g q.root=some x->valAt w' T q=valAt w T q:=by
  intro q x hq hx
  obtain ⟨u,hu,_⟩:=hS.rel _ _ hx
  simp [valAt,hq,walk]
 have refs:∀ r u,ρ1 r u->RG w' T g2 r u:=by
  rintro r u ⟨h1,h2,h3,h4⟩
  refine ⟨?_,h4⟩
  cases r <;> simp only [RefAt,RefOk] at h1 h2 ⊢
  case ptr q j=>obtain ⟨y,hy,_⟩:=h2; rw [val q y hy (h3 q rfl)]; exact h1
  case brw z' q n' =>
   rcases h2 with ⟨_,_,h2,_⟩ | ⟨h0,_,_,_,_,h2,_⟩
   ·rw [val q _ h2 (h3 q rfl)]; exact h1
   ·rw [slot h0 h2]; exact h1
  case sub z' q lo n'=>obtain ⟨_,_,h2,_⟩:=h2; rw [val q _ h2 (h3 q rfl)]; exact h1
  case mref q=>obtain ⟨_,h2⟩:=h2; rw [val q _ h2 (h3 q rfl)]; exact h1
  case pend z' q n' m' new' =>
   rcases h2 with ⟨_,h2⟩ | ⟨h0,_,_,_,_,_,h2,_⟩
   ·rw [val q _ h2 (h3 q rfl)]; exact h1
   ·rw [slot h0 h2]; exact h1
 obtain ⟨⟨Fn,hRn,hFn⟩,_⟩:=kid (RG w' T g2) refs
 obtain ⟨F',hRF,hF'⟩:=rebuild w' I (RG w' T g2) _ Fn ⟨hIb,fun c hc hn=>w'o c fun e=>hn (e ▸ hbF),fun _ h=>h,refs⟩ hRn (fun c hc hc'=>by
  rcases hFn c hc with h | ⟨j,hj,h⟩
  ·exact h
  ·exact absurd hc' (hH.off j _ c hj h)) (fun j h=>by rcases hnd with rfl | rfl <;> simp [AV.splice] at h)
 have hF'':∀ c,F' c->Fs p.root c\/∃ j,j<cs'.length/\Hs j c:=by
  intro c hc
  rcases (hF' c).1 hc with h | h
  ·exact .inl h.1
  ·rcases hFn c h with h | h
   ·exact .inl (hFy c h)
   ·exact .inr h
 let Fs':Nat->BSet:=fun t c=>if t=p.root then F' c else g2 t≠none/\Fs t c
 have hFs':∀ t c,Fs' t c->Fs t c\/∃ j,j<cs'.length/\Hs j c:=by
  intro t c hc
  by_cases ht:t=p.root
  ·simp only [Fs',if_pos ht] at hc; rw [ht]; exact hF'' c hc
  ·simp only [Fs',if_neg ht] at hc; exact .inl hc.2
 refine ⟨Fs',⟨fun t x hx=>?_,fun t ht c hc=>?_,fun t t' c hc hc'=>?_,fun t c hc hi=>?_,fun c hc=>by have:=hS.lt c hc; omega,fun t t' z q n m new z' n' m' new' h1=>absurd h1 (hnp _ _ _ _ _ _),TB.keep hS.tb hIb fun _ h=>h⟩,hFs'⟩
 ·have hx':=hg2 t x hx
  by_cases ht:t=p.root
  ·subst ht
   have hxe:x0.setAt p.path (nd.splice k cs')=x:=by simpa [setP,hx0] using hx'
   refine ⟨v0,hv0,.tree ?_⟩
   have hFe:Fs' p.root=F':=by funext c; simp [Fs']
   rw [<- hxe,hFe]; exact hRF
  ·rw [setP_slot ht] at hx'
   obtain ⟨u,hu,hR⟩:=hS.rel t x hx'
   replace hR:=hR.isTree (by rintro z q n m new rfl; exact hnp _ _ _ _ _ _ hx)
   have hFe:Fs' t=Fs t:=by
    funext c
    exact propext ⟨fun h=>by simp only [Fs',if_neg ht] at h; exact h.2,fun h=>by simp only [Fs',if_neg ht]; exact ⟨by rw [hx]; simp,h⟩⟩
   refine ⟨u,hu,.tree ?_⟩
   rw [hFe]
   exact (hR.rkp (hrk t x hx x hx')).frame hIb (fun _ h=>h) refs fun c hc=>w'o c fun e=>hother t ht (e ▸ hc)
 ·by_cases htr:t=p.root
  ·exact hroot (htr ▸ ht)
  ·simp only [Fs',if_neg htr] at hc; exact hc.1 ht
 ·by_cases h1:t=p.root <;> by_cases h2:t'=p.root
  ·rw [h1,h2]
  ·simp only [Fs',if_pos h1] at hc; simp only [Fs',if_neg h2] at hc'
   rcases hF'' c hc with h | ⟨j,hj,h⟩
   ·exact absurd (hS.dis _ _ _ h hc'.2) (Ne.symm h2)
   ·exact absurd hc'.2 (hH.off j _ c hj h)
  ·simp only [Fs',if_neg h1] at hc; simp only [Fs',if_pos h2] at hc'
   rcases hF'' c hc' with h | ⟨j,hj,h⟩
   ·exact absurd (hS.dis _ _ _ hc.2 h) h1
   ·exact absurd hc.2 (hH.off j _ c hj h)
  ·simp only [Fs',if_neg h1] at hc; simp only [Fs',if_neg h2] at hc'
   exact hS.dis _ _ _ hc.2 hc'.2
 ·rcases hFs' t c hc with h | ⟨j,hj,h⟩
  ·exact hS.imm _ c h hi
  ·exact hH.imm j c hj h hi
end
end Go.Own
namespace Go.Own
open Go
set_option linter.unusedSectionVars false
variable [TB]
section
variable {P:Program}{w:World}{I:BSet}{T:Array Value}{g:Gst}{Fs:Nat->BSet}
theorem View.soundC (h:SRc w I T g Fs) {x x':AV}(hv:View g x x'):∀ {v:Value}{F:BSet},R w I (RefAt w T) x v F->(∀ c,F c->∃ t,Fs t c)->∀ ρ',R w (fun c=>I c\/∃ t,Fs t c) ρ' x' v E0:=by
 induction hv with
 | nilI =>
  intro v F hR hF ρ'
  have:=hR.inv_nils
  subst this
  exact .imm0 fun _ h=>h
 | mp =>
  intro v F hR hF ρ'
  cases hR with
  | ref hx=>simp [AV.isRef] at hx
  | mp ho hp hb=>exact .imp (fun _ h=>h) (.inr (hF _ ((hb _).2 rfl))) ho hp
 | mref hp =>
  intro v F hR hF ρ'
  cases hR with
  | ref _ hr _ =>
   obtain ⟨b,hb,rfl⟩:=hr
   obtain ⟨v',Fy,hv',hRy,hFy,_⟩:=h.part hp (by simp)
   rw [hb] at hv'
   cases hv'
   cases hRy with
   | ref hx=>simp [AV.isRef] at hx
   | mp ho hp hb=>exact .imp (fun _ h=>h) (.inr ⟨_,hFy _ ((hb _).2 rfl)⟩) ho hp
 | self hn h1 h2 h3 h4 h5 =>
  intro v F hR hF ρ'
  refine ((hR.nr hn).moreI fun c hc=>.inl hc).empty ?_
  cases hR with
  | mp=>exact absurd rfl (h5.1 _)
  | brow=>exact absurd rfl (h5.2 _ _)
  | lit _ hF | nils hF | dead hF | slf hF | ref _ _ hF | imm0 hF | imm hF | iptr hF | clo hF | imp hF=>exact hF
  | own=>exact absurd rfl (h1 _ _ _)
  | obj=>exact absurd rfl (h2 _)
  | agg=>exact absurd rfl (h3 _)
  | tup=>exact absurd rfl (h4 _)
 | @agg cs cs' hl _ ih =>
  intro v F hR hF ρ'
  cases hR with
  | ref hx=>simp [AV.isRef] at hx
  | @agg _ vs Fk _ hl' h1 hr hd hFF =>
   refine .agg (Fs:=fun _=>E0) (by rw [hl,hl']) h1 (fun k y u hy hu=>?_) (fun _ _ _ _ _ h=>h.elim) (fun c=>⟨fun h=>h.elim,fun ⟨_,_,h⟩=>h⟩)
   have hk:k<cs.length:=by rw [<- hl]; exact (List.getElem?_eq_some_iff.1 hy).1
   have hx:=List.getElem?_eq_getElem hk
   exact ih k _ y hx hy (hr k _ u hx hu) (fun c hc=>hF c ((hFF c).2 ⟨k,hk,hc⟩)) ρ'
 | @clo fn cs cs' hl _ ih =>
  intro v F hR hF ρ'
  cases hR with
  | ref hx=>simp [AV.isRef] at hx
  | @clo _ _ _ v1 v2 _ hF0 h1 h2 hr1 hr2 =>
   refine .clo (fun _ h=>h) h1 (by rw [hl,h2]) (fun k x u hx=>by simp at hx) (fun k y u hy hu=>?_)
   have hk:k<cs.length:=by rw [<- hl]; exact (List.getElem?_eq_some_iff.1 hy).1
   have hx:=List.getElem?_eq_getElem hk
   exact ih k _ y hx hy (hr2 k _ u hx hu) (fun c hc=>hc.elim) ρ'
 | @own z n cs cs' hl _ ih =>
  intro v F hR hF ρ'
  obtain ⟨a,cap,us,Fk,rfl,hn,hlen,ha,hc⟩:=hR.ownCells
  cases a with
  | none =>
   have hcs:cs=[]:=by
    cases cs with
    | nil=>rfl
    | cons c cs=>obtain ⟨b,hb,_⟩:=hc 0 c rfl; cases hb
   subst hcs
   have hcs':cs'=[]:=List.eq_nil_of_length_eq_zero (by simpa using hl)
   subst hcs'
   have hn0:n=0:=by
    cases hR with
    | ref hx=>simp [AV.isRef] at hx
    | own ho =>
     obtain ⟨_,hh⟩:=ho
     rcases hh with ⟨hh,h0⟩ | ⟨b,c2,cur,hh,_⟩
     ·exact h0
     ·cases hh
   subst hn0
   exact .imm0 fun _ h=>h
  | some ad =>
   obtain ⟨b,rfl,hFb⟩:=ha ad rfl
   refine .imm (us:=us) (fun _ h=>h) hn (.inr (hF b hFb)) rfl (by rw [hl,hlen]) (fun k y hy=>?_) (fun k y hy=>?_) fun k y hy=>?_
   all_goals
    have hk:k<cs.length:=by rw [<- hl]; exact (List.getElem?_eq_some_iff.1 hy).1
    have hx:=List.getElem?_eq_getElem hk
    obtain ⟨b',hb',h1,h2,h3,h4⟩:=hc k _ hx
    cases hb'
   ·exact h2
   ·simpa using h1
   ·exact ih k _ y hx hy h3 (fun c hc=>hF c (h4 c hc)) ρ'
 | @obj cs cs' hl _ ih =>
  intro v F hR hF ρ'
  cases hR with
  | ref hx=>simp [AV.isRef] at hx
  | @obj _ b e arr Fk _ ho hl' h1 hr hd hb hFF =>
   refine .iptr (us:=fun k=>arr.getD k undef) (fun _ h=>h) (.inr (hF b ((hFF b).2 (.inl rfl)))) rfl (fun k y hy=>?_) (fun k y hy=>?_) fun k y hy=>?_
   all_goals
    have hk:k<cs.length:=by rw [<- hl]; exact (List.getElem?_eq_some_iff.1 hy).1
    have hx:=List.getElem?_eq_getElem hk
    have hu:arr[k]?=some arr[k]:=Array.getElem?_eq_getElem (hl' ▸ hk)
   ·simpa [hu] using h1 k _ hu
   ·simp [World.cell?,ho,hu]
   ·simpa [hu] using ih k _ y hx hy (hr k _ _ hx hu) (fun c hc=>hF c ((hFF c).2 (.inr ⟨k,hk,hc⟩))) ρ'
 | @brw z n N p cs cs' hp hn hl _ ih =>
  intro v F hR hF ρ'
  obtain ⟨a,N',cap,h1,rfl,h3⟩:=hR.inv_brw
  obtain ⟨vp,Fp,hvp,hRp,hFp,_⟩:=h.part hp (by simp)
  rw [h1] at hvp
  cases hvp
  obtain ⟨a2,cap2,us,Fk,hsl,hcap,hlen,ha,hc⟩:=hRp.ownCells
  cases hsl
  have hle:n * z<=N * z:=Nat.mul_le_mul_right _ hn
  have cell:∀ k,k<cs'.length->∃ x b,(cs.take (n * z))[k]?=some x/\a=some ⟨b,0,none⟩/\w.cell? ⟨b,k,none⟩=some (us k)/\(us k).oneCell'=true/\R w I (RefAt w T) x (us k) (Fk k)/\∀ c,Fk k c->Fp c:=by
   intro k hk
   rw [hl,List.length_take] at hk
   have hx:cs[k]?=some cs[k]:=List.getElem?_eq_getElem (by omega)
   obtain ⟨b,r⟩:=hc k _ hx
   exact ⟨_,b,by rw [List.getElem?_take,if_pos (by omega)]; exact hx,r⟩
  cases a with
  | none =>
   have hcs':cs'=[]:=by
    cases cs' with
    | nil=>rfl
    | cons c l=>obtain ⟨_,b,_,hb,_⟩:=cell 0 (by simp); cases hb
   subst hcs'
   obtain ⟨_,_,hsl,_,_,_,hsome⟩:=hRp.own_slice
   cases hsl
   have hn0:n=0:=by
    rcases Nat.eq_zero_or_pos n with h0 | h0
    ·exact h0
    ·have:=hsome (by omega); simp at this
   subst hn0
   exact .imm0 fun _ h=>h
  | some ad =>
   obtain ⟨b,rfl,hFb⟩:=ha ad rfl
   refine .imm (us:=us) (fun _ h=>h) (by omega) (.inr ⟨_,hFp b hFb⟩) rfl (by rw [hl,List.length_take,hlen]; omega) (fun k y hy=>?_) (fun k y hy=>?_) fun k y hy=>?_
   all_goals
    obtain ⟨x,b',hx,hb',h4,h5,h6,h7⟩:=cell k (List.getElem?_eq_some_iff.1 hy).1
    cases hb'
   ·exact h5
   ·simpa using h4
   ·exact ih k x y hx hy h6 (fun c hc=>⟨_,hFp c (h7 c hc)⟩) ρ'
 | @sub z lo n N p cs cs' hp hn hl _ ih =>
  intro v F hR hF ρ'
  obtain ⟨a,N',cap,a',cap',h1,rfl,hncap,h3,h5⟩:=hR.inv_sub
  obtain ⟨vp,Fp,hvp,hRp,hFp,_⟩:=h.part hp (by simp)
  rw [h1] at hvp
  cases hvp
  obtain ⟨a2,cap2,us,Fk,hsl,hcap,hlen,ha,hc⟩:=hRp.ownCells
  cases hsl
  have hle:lo * z+n * z<=N * z:=by rw [<- Nat.add_mul]; exact Nat.mul_le_mul_right _ hn
  have hl':cs'.length=n * z:=by rw [hl,List.length_take,List.length_drop,hlen]; omega
  have cell:∀ k,k<cs'.length->∃ x b,((cs.drop (lo * z)).take (n * z))[k]?=some x/\a=some ⟨b,0,none⟩/\w.cell? ⟨b,lo * z+k,none⟩=some (us (lo * z+k))/\(us (lo * z+k)).oneCell'=true/\R w I (RefAt w T) x (us (lo * z+k)) (Fk (lo * z+k))/\∀ c,Fk (lo * z+k) c->Fp c:=by
   intro k hk
   have hx:cs[lo * z+k]?=some cs[lo * z+k]:=List.getElem?_eq_getElem (by omega)
   obtain ⟨b,r⟩:=hc _ _ hx
   exact ⟨_,b,by rw [List.getElem?_take,if_pos (by omega),List.getElem?_drop]; exact hx,r⟩
  by_cases hn0:n=0
  ·subst hn0
   have hcs':cs'=[]:=List.eq_nil_of_length_eq_zero (by simpa using hl')
   subst hcs'
   exact .imm0 fun _ h=>h
  ·obtain ⟨ad,rfl,rfl⟩:=h5 (by omega)
   obtain ⟨b,rfl,hFb⟩:=ha ad rfl
   refine .imm (us:=fun k=>us (lo * z+k)) (fun _ h=>h) hncap (.inr ⟨_,hFp b hFb⟩) rfl hl' (fun k y hy=>?_) (fun k y hy=>?_) fun k y hy=>?_
   all_goals
    obtain ⟨x,b',hx,hb',h4,h5',h6,h7⟩:=cell k (List.getElem?_eq_some_iff.1 hy).1
    cases hb'
   ·exact h5'
   ·simpa using h4
   ·exact ih k x y hx hy h6 (fun c hc=>⟨_,hFp c (h7 c hc)⟩) ρ'
 | @rows z n p cs cs' hp hl _ ih =>
  intro v F hR hF ρ'
  obtain ⟨a,N',cap,h1,rfl,h3⟩:=hR.inv_brw
  obtain ⟨v0,e,us,hv0,ho,hlen,h1',hb,hr⟩:=Rows.sound (w:=w) (I:=I) (T:=T) (Fs:=Fs) (fun t z q n m new ht=>h.rel t _ ht) (fun p z n cs hp=>by obtain ⟨v,Fy,h1,h2,h3,_⟩:=h.part hp (by simp); exact ⟨v,Fy,h1,h2,h3⟩) (fun z p n v hv=>by obtain ⟨a,cap,h1,rfl⟩:=hv; exact h1) hp
  rw [h1] at hv0
  cases hv0
  refine rowImm ho hlen h1' hb hl fun k x y u hx hy hu=>?_
  obtain ⟨Fk,hRk,hFk⟩:=hr k x u hx hu
  exact ih k x y hx hy hRk hFk ρ'
 | @ptr p k z n y cs cs' hp hy hk hl _ ih =>
  intro v F hR hF ρ'
  obtain ⟨u,ad,h1,h2,rfl⟩:=hR.inv_ptr
  obtain ⟨vp,Fp,hvp,hRp,hFp,_⟩:=h.part hp (by rcases hy with rfl | rfl <;> simp)
  rw [h1] at hvp
  cases hvp
  have cell:∀ j,j<cs'.length->∃ uu xx Fx,w.cell? ⟨ad.block,k+j,none⟩=some uu/\uu.oneCell'=true/\(cs.drop k)[j]?=some xx/\R w I (RefAt w T) xx uu Fx/\(∀ c,Fx c->∃ t,Fs t c):=by
   intro j hj
   rw [hl,List.length_drop] at hj
   have hx':cs[k+j]?=some cs[k+j]:=List.getElem?_eq_getElem (by omega)
   obtain ⟨b,uu,had,hcell,hch,hone,_⟩:=hRp.node hy hx'
   rw [h2] at had
   cases had
   have hat:atP g (p.push (k+j))=some cs[k+j]:=by rw [atP_push,hp]; rcases hy with rfl | rfl <;> simp [AV.kids]
   by_cases hpd:∃ z' q' n' m' new',cs[k+j]=.pend z' q' n' m' new'
   ·obtain ⟨z',q',n',m',new',hpd⟩:=hpd
    obtain ⟨b,uu',_,_,hch',_,Fk,hRk⟩:=hRp.node hy hx'
    rw [hpd] at hRk
    exact hRk.notPend.elim
   ·obtain ⟨vv,FF,hvv,hRR,hFF,_⟩:=h.part hat (fun z' q' n' m' new' e=>hpd ⟨_,_,_,_,_,e⟩)
    rw [valAt_push,h1] at hvv
    simp only [Option.bind_some] at hvv
    rw [hch] at hvv
    cases hvv
    exact ⟨uu,_,FF,hcell,hone,by rw [List.getElem?_drop]; exact hx',hRR,fun c hc=>⟨_,hFF c hc⟩⟩
  obtain ⟨b,uu,had,_⟩:=hRp.node hy (List.getElem?_eq_getElem hk)
  rw [h2] at had
  cases had
  have hblk:∃ t,Fs t b:=⟨_,hFp b (hRp.node_block hy h2)⟩
  refine .iptr (us:=fun j=>(w.cell? ⟨b,k+j,none⟩).getD undef) (fun _ h=>h) (.inr hblk) rfl (fun j yy hyy=>?_) (fun j yy hyy=>?_) fun j yy hyy=>?_
  all_goals
   obtain ⟨uu,xx,Fx,c1,c2,c3,c4,c5⟩:=cell j (List.getElem?_eq_some_iff.1 hyy).1
  ·simpa [c1] using c2
  ·simp [c1]
  ·simpa [c1] using ih j xx yy c3 hyy c4 c5 ρ'
end
end Go.Own
namespace Go.Own
open Go
set_option linter.unusedSectionVars false
variable [TB]
def putAll (g:Gst):List (Place × AV)->Gst
 | []=>g
 | (p,x)::l=>putAll (setP g p x) l
structure Lent (g g2:Gst) (all:List AV) (outs:List (Option AV)) (k:Nat) (p:Place) (x:AV):Prop where
 out:outs[k]?=some (some x)
 at2:atP g2 p=some .dead
 arg:(∃ z n cs,all[k]?=some (.brw z p n)/\atP g p=some (.own z n cs))\/(∃ cs,all[k]?=some (.ptr p 0)/\atP g p=some (.obj cs))
 ns:∀ i,x≠.self i
section
variable {P:Program}{w:World}{I:BSet}{T:Array Value}{g:Gst}{Fs:Nat->BSet}
theorem argAt_own (h:SR w I T g Fs) {z n:Nat}{p:Place}{cs:List AV}{v:Value}{F:BSet}(hR:R w I (RG w T g) (.brw z p n) v F) (hp:atP g p=some (.own z n cs)):valAt w T p=some v:=by
 obtain ⟨⟨a,N',cap,h1,rfl,h3⟩,_⟩:=hR.inv_brw
 obtain ⟨vp,Fp,hvp,hRp,hFp⟩:=h.part hp (by simp)
 rw [h1] at hvp
 cases hvp
 obtain ⟨a2,cap2,hsl,_⟩:=hRp.own_slice
 cases hsl
 exact h1
theorem argAt_obj (h:SR w I T g Fs) {p:Place}{cs:List AV}{v:Value}{F:BSet}(hR:R w I (RG w T g) (.ptr p 0) v F) (hp:atP g p=some (.obj cs)):valAt w T p=some v:=by
 obtain ⟨⟨u,ad,h1,h2,rfl⟩,_⟩:=hR.inv_ptr
 obtain ⟨vp,Fp,hvp,hRp,hFp⟩:=h.part hp (by simp)
 rw [h1] at hvp
 cases hvp
 cases hRp with
 | ref hx=>simp [AV.isRef] at hx
 | obj=>simp only [addrOf,Option.some.injEq] at h2; subst h2; exact h1
theorem setP_dead_at {g:Gst}{p q:Place}{y:AV}(hq:atP g q=some .dead) (hp:atP g p=some .dead) (hne:p≠q):atP (setP g p y) q=some .dead:=by
 by_cases hr:q.root=p.root
 ·obtain ⟨r,pp⟩:=p
  obtain ⟨r',qp⟩:=q
  simp only at hr
  subst hr
  have hpp:pp≠qp:=fun e=>hne (by rw [e])
  simp only [atP,setP,if_true] at *
  cases hx:g r' with
  | none=>rw [hx] at hp; cases hp
  | some x =>
   rw [hx] at hp hq
   simp only [Option.map_some]
   have:∀ (pp qp:List Nat) (x:AV),pp≠qp->x.at pp=some .dead->x.at qp=some .dead->(x.setAt pp y).at qp=some .dead:=by
    intro pp
    induction pp with
    | nil =>
     intro qp x hne h1 h2
     simp only [AV.at,Option.some.injEq] at h1
     subst h1
     cases qp with
     | nil=>exact absurd rfl hne
     | cons k q=>simp [AV.at,AV.kids] at h2
    | cons k pp ih =>
     intro qp x hne h1 h2
     cases qp with
     | nil =>
      simp only [AV.at,Option.some.injEq] at h2
      subst h2
      simp [AV.at,AV.kids] at h1
     | cons j q =>
      simp only [AV.at] at h1 h2
      cases hk:x.kids[k]? with
      | none=>rw [hk] at h1; cases h1
      | some c =>
       rw [hk] at h1
       simp only at h1
       have hset:x.setAt (k::pp) y=x.setKid k (c.setAt pp y):=by simp only [AV.setAt,hk]
       rw [hset]
       have hkl:k<x.kids.length:=(List.getElem?_eq_some_iff.1 hk).1
       have hkids:(x.setKid k (c.setAt pp y)).kids=x.kids.set k (c.setAt pp y):=by
        cases x <;> simp [AV.setKid,AV.kids] at hkl ⊢
       simp only [AV.at,hkids]
       by_cases hjk:j=k
       ·subst hjk
        rw [List.getElem?_set_self hkl]
        rw [hk] at h2
        exact ih q c (fun e=>hne (by rw [e])) h1 h2
       ·rw [List.getElem?_set_ne (Ne.symm hjk)]
        exact h2
   exact this pp qp x hpp hp hq
 ·rw [setP_other hr]; exact hq
theorem SRc.putAll:∀ (l:List (Place × AV)) (Hs:Nat->BSet) (vs:Nat->Value) {g:Gst}{Fs:Nat->BSet},SRc w I T g Fs->(l.map (·.1)).Nodup->(∀ (j:Nat) (p:Place) (x:AV),l[j]?=some (p,x)->atP g p=some .dead/\valAt w T p=some (vs j)/\R w I (RefAt w T) x (vs j) (Hs j)/\∀ i,x≠.self i) ->
  (∀ (j t c:Nat),j<l.length->Hs j c->¬ Fs t c)->(∀ (j c:Nat),j<l.length->Hs j c->¬ I c)->(∀ (i j c:Nat),i<l.length->j<l.length->Hs i c->Hs j c->i=j) ->
  ∃ Fs',SRc w I T (putAll g l) Fs'/\∀ t c,Fs' t c->Fs t c\/∃ j,j<l.length/\Hs j c
 | [],_,_,g,Fs,hS,_,_,_,_,_=>⟨Fs,hS,fun _ _ h=>.inl h⟩
 | (p,x)::l,Hs,vs,g,Fs,hS,hnd,hl,hoff,himm,hdis=>by
  obtain ⟨h1,h2,h3,h4⟩:=hl 0 p x rfl
  obtain ⟨v,Fy,hv,hRy,hFy,put⟩:=hS.part h1 (by simp)
  rw [h2] at hv
  cases hv
  obtain ⟨Fs1,hS1,hF1,hF2⟩:=put x (Hs 0) h3 (fun c hc hf=>absurd hf (hoff 0 _ c (by simp) hc)) (fun c hc=>himm 0 c (by simp) hc) (fun t c _ hc=>hoff 0 t c (by simp) hc) (fun i e=>absurd e (h4 i))
  have hsub:∀ t c,Fs1 t c->Fs t c\/Hs 0 c:=by
   intro t c hc
   by_cases ht:t=p.root
   ·subst ht
    rcases (hF1 c).1 hc with ⟨h,_⟩ | h
    ·exact .inl h
    ·exact .inr h
   ·rw [hF2 t ht] at hc; exact .inl hc
  simp only [List.map_cons,List.nodup_cons] at hnd
  obtain ⟨Fs2,hS2,hF3⟩:=SRc.putAll l (fun j=>Hs (j+1)) (fun j=>vs (j+1)) hS1 hnd.2 (fun j q y hj=>by
    obtain ⟨a1,a2,a3⟩:=hl (j+1) q y (by simpa using hj)
    refine ⟨setP_dead_at a1 h1 ?_,a2,a3⟩
    rintro rfl
    exact hnd.1 (List.mem_map.2 ⟨(p,y),List.mem_of_getElem? hj,rfl⟩))
   (fun j t c hj hc hf=>by
    rcases hsub t c hf with h | h
    ·exact hoff (j+1) t c (by simpa using hj) hc h
    ·have:=hdis (j+1) 0 c (by simpa using hj) (by simp) hc h; omega)
   (fun j c hj hc=>himm (j+1) c (by simpa using hj) hc)
   (fun i j c hi hj h1 h2=>by have:=hdis (i+1) (j+1) c (by simpa using hi) (by simpa using hj) h1 h2; omega)
  refine ⟨Fs2,hS2,fun t c hc=>?_⟩
  rcases hF3 t c hc with h | ⟨j,hj,h⟩
  ·rcases hsub t c h with h | h
   ·exact .inl h
   ·exact .inr ⟨0,by simp,h⟩
  ·exact .inr ⟨j+1,by simpa using hj,h⟩
end
end Go.Own
namespace Go.Own
open Go
set_option linter.unusedSectionVars false
variable [TB]
inductive Fz:AV->AV->Prop
 | refl {x:AV}:Fz x x
 | nilO {z:Nat}:Fz .nils (.own z 0 [])
 | ice {x y:AV}(hn:NR x) (h:View (fun _=>none) x y):Fz x y
 | own {z n:Nat}{cs cs':List AV}(hl:cs'.length=cs.length) (h:∀ (k:Nat) (x y:AV),cs[k]?=some x->cs'[k]?=some y->Fz x y):Fz (.own z n cs) (.own z n cs')
 | obj {cs cs':List AV}(hl:cs'.length=cs.length) (h:∀ (k:Nat) (x y:AV),cs[k]?=some x->cs'[k]?=some y->Fz x y):Fz (.obj cs) (.obj cs')
 | agg {cs cs':List AV}(hl:cs'.length=cs.length) (h:∀ (k:Nat) (x y:AV),cs[k]?=some x->cs'[k]?=some y->Fz x y):Fz (.agg cs) (.agg cs')
theorem View.up {g g':Gst}(h:∀ t x,g t=some x->g' t=some x) {x y:AV}(hv:View g x y):View g' x y:=by
 induction hv with
 | nilI=>exact .nilI
 | self h1 h2 h3 h4 h5 h6=>exact .self h1 h2 h3 h4 h5 h6
 | mp=>exact .mp
 | mref hp=>exact .mref (atP_mono h hp)
 | agg hl _ ih=>exact .agg hl ih
 | own hl _ ih=>exact .own hl ih
 | obj hl _ ih=>exact .obj hl ih
 | clo hl _ ih=>exact .clo hl ih
 | brw hp hn hl _ ih=>exact .brw (atP_mono h hp) hn hl ih
 | sub hp hn hl _ ih=>exact .sub (atP_mono h hp) hn hl ih
 | ptr hp hy hk hl _ ih=>exact .ptr (atP_mono h hp) hy hk hl ih
 | rows hp hl _ ih=>exact .rows (hp.mono (fun hp=>atP_mono h hp) h) hl ih
theorem View.ns {g:Gst}{x y:AV}{j:Nat × Nat}(h:View g x y) (e:y=.self j):x=.self j:=by
 cases h <;> first | exact e | cases e
theorem Fz.ns {x y:AV}{j:Nat × Nat}(h:Fz x y) (e:y=.self j):x=.self j:=by
 cases h <;> first | exact e | exact View.ns ‹_› e | cases e
theorem ns_each {F:AV->AV->Prop}{cs cs':List AV}(hl:cs'.length=cs.length) (h:∀ (k:Nat) (x y:AV),cs[k]?=some x->cs'[k]?=some y->F x y) (hF:∀ x y j,F x y->y=.self j->x=.self j) (k:Nat) (j:Nat × Nat) (hk:cs'[k]?=some (.self j)):cs[k]?=some (.self j):=by
 have hlt:k<cs.length:=hl ▸ (List.getElem?_eq_some_iff.1 hk).1
 rw [List.getElem?_eq_getElem hlt]
 exact congrArg some (hF _ _ j (h k _ _ (List.getElem?_eq_getElem hlt) hk) rfl)
theorem nr_each {cs cs':List AV}(hl:cs'.length=cs.length) (hn:∀ x∈cs,NR x) (ih:∀ (k:Nat) (x y:AV),cs[k]?=some x->cs'[k]?=some y->NR x->NR y):∀ y∈cs',NR y:=by
 intro y hy
 obtain ⟨k,hk⟩:=List.getElem?_of_mem hy
 have hkl:=(List.getElem?_eq_some_iff.1 hk).1
 have hx:=List.getElem?_eq_getElem (hl ▸ hkl:k<cs.length)
 grind
section
variable {w:World}{I:BSet}
theorem R.ice {ρ:AV->Value->Prop}{x y:AV}{v:Value}{F:BSet}(hR:R w I ρ x v F) (hn:NR x) (h:View (fun _=>none) x y) (hI:∀ c,F c->¬ I c) (hlt:∀ c,I c->c<w.heap.size) (htb:TB.q w I):R w (fun c=>I c\/F c) ρ y v E0:=by
 have hS:SRc w I #[v] (fun t=>if t=0 then some x else none) (fun t c=>t=0/\F c):=by
  refine ⟨fun t z hz=>?_,fun t ht c hc=>?_,fun t t' c hc hc'=>hc.1.trans hc'.1.symm,fun t c hc=>hI c hc.2,hlt,htb⟩
  ·by_cases h0:t=0
   ·subst h0
    rw [if_pos rfl] at hz
    cases hz
    exact ⟨v,rfl,.tree ((hR.nr hn).congrF fun c=>⟨fun h=>⟨rfl,h⟩,fun h=>h.2⟩)⟩
   ·rw [if_neg h0] at hz; cases hz
  ·rw [if_pos hc.1] at ht; cases ht
 have:=View.soundC hS (h.up fun _ _ h=>by cases h) (hR.nr hn) (fun c hc=>⟨0,rfl,hc⟩) ρ
 exact this.moreI fun c hc=>by
  rcases hc with h | ⟨t,_,h⟩
  ·exact .inl h
  ·exact .inr h
theorem Fz.nr {x y:AV}(h:Fz x y):NR x->NR y:=by
 induction h with
 | refl=>exact id
 | nilO=>exact fun _=>.own (by simp)
 | ice hn h =>
  intro _
  have key:∀ {x y:AV},View (fun _=>none) x y->NR x->NR y:=by
   intro x y h
   induction h with
   | nilI=>exact fun _=>.imm (by simp)
   | self h=>exact fun _=>h
   | mp=>exact fun _=>.imp
   | mref hp=>simp [atP] at hp
   | agg hl _ ih=>intro hn; cases hn with | agg hn=>exact .agg (nr_each hl hn ih)
   | own hl _ ih=>intro hn; cases hn with | own hn=>exact .imm (nr_each hl hn ih)
   | obj hl _ ih=>intro hn; cases hn with | obj hn=>exact .iptr (nr_each hl hn ih)
   | clo hl _ ih=>intro hn; cases hn with | clo h1 h2=>exact .clo h1 (nr_each hl h2 ih)
   | brw hp=>simp [atP] at hp
   | sub hp=>simp [atP] at hp
   | ptr hp=>simp [atP] at hp
   | rows hp =>
    cases hp with
    | own hp=>simp [atP] at hp
    | pend ht=>cases ht
  grind
 | own hl _ ih=>intro hn; cases hn with | own hn=>exact .own (nr_each hl hn ih)
 | obj hl _ ih=>intro hn; cases hn with | obj hn=>exact .obj (nr_each hl hn ih)
 | agg hl _ ih=>intro hn; cases hn with | agg hn=>exact .agg (nr_each hl hn ih)
theorem fz_kids {ρ:AV->Value->Prop}{cs cs':List AV}{get:Nat->Option Value}{Fs:Nat->BSet}{F B:BSet}(hl:cs'.length=cs.length)
  (hg:∀ k,k<cs.length->∃ u,get k=some u)
  (hd:∀ (j k c:Nat),j<cs.length->k<cs.length->Fs j c->Fs k c->j=k) (hb:∀ k c,k<cs.length->Fs k c->¬ B c) (hF:∀ c,F c↔B c\/∃ k,k<cs.length/\Fs k c)
  (ih:∀ (k:Nat) (x y:AV),cs[k]?=some x->cs'[k]?=some y->∀ u,get k=some u->∃ F',(∀ c,F' c->Fs k c)/\R w (fun c=>I c\/(Fs k c/\¬ F' c)) ρ y u F') :
  ∃ Gs:Nat->BSet,(∀ k c,k<cs'.length->Gs k c->Fs k c)/\(∀ (k:Nat) (y:AV) (u:Value),cs'[k]?=some y->get k=some u->R w (fun c=>I c\/(F c/\¬ (B c\/∃ j,j<cs'.length/\Gs j c))) ρ y u (Gs k)):=by
 have:∀ k,∃ G:BSet,k<cs.length->(∀ c,G c->Fs k c)/\∀ (y:AV) (u:Value),cs'[k]?=some y->get k=some u->R w (fun c=>I c\/(Fs k c/\¬ G c)) ρ y u G:=by
  intro k
  by_cases hk:k<cs.length
  ·have hx:=List.getElem?_eq_getElem hk
   have hy:=List.getElem?_eq_getElem (hl ▸ hk:k<cs'.length)
   obtain ⟨u,hu⟩:=hg k hk
   simp_all
  ·exact ⟨E0,fun h=>absurd h hk⟩
 obtain ⟨Gs,hGs⟩:=Classical.axiomOfChoice this
 refine ⟨Gs,fun k c hk=>(hGs k (hl ▸ hk)).1 c,fun k y u hy hu=>?_⟩
 have hk:k<cs'.length:=(List.getElem?_eq_some_iff.1 hy).1
 have hk':k<cs.length:=hl ▸ hk
 refine ((hGs k hk').2 y u hy hu).moreI fun c hc=>?_
 grind
theorem R.fz {ρ:AV->Value->Prop}{x y:AV}(h:Fz x y):∀ {v:Value}{F:BSet},R w I ρ x v F->NR x->(∀ c,F c->¬ I c)->(∀ c,I c->c<w.heap.size)->TB.q w I->∃ F',(∀ c,F' c->F c)/\R w (fun c=>I c\/(F c/\¬ F' c)) ρ y v F':=by
 induction h with
 | refl=>exact fun hR _ _ _ _=>⟨_,fun _ h=>h,hR.moreI fun _ h=>.inl h⟩
 | nilO =>
  intro v F hR _ _ _ _
  have:=hR.inv_nils
  subst this
  refine ⟨E0,fun _ h=>h.elim,.own (e:=0) (us:=[]) (Fs:=fun _=>E0) ⟨by simp,.inl ⟨rfl,rfl⟩⟩ rfl (by simp) (by simp) (fun _ _ _ _ _ h=>h.elim) (fun _ _ _ h=>h.elim) fun c=>⟨fun h=>h.elim,fun h=>?_⟩⟩
  rcases h with h | ⟨_,_,h⟩
  ·cases h
  ·exact h
 | ice hn h=>exact fun hR _ hI hlt htb=>⟨E0,fun _ h=>h.elim,(hR.ice hn h hI hlt htb).moreI fun c hc=>hc.elim .inl fun h=>.inr ⟨h,fun h=>h⟩⟩
 | @own z n cs cs' hl _ ih =>
  intro v F hR hn hI hlt htb
  cases hR with
  | ref hx=>simp [AV.isRef] at hx
  | @own _ _ _ _ e us Fs _ ho hl' h1 hr hd hb hF =>
   cases hn with
   | own hn =>
    obtain ⟨Gs,hG1,hG2⟩:=fz_kids (get:=fun k=>us[k]?) (B:=fun c=>v.ownBlock=some c) hl (fun k hk=>⟨_,List.getElem?_eq_getElem (hl' ▸ hk)⟩) hd (fun k c hk hc e=>hb k c hk hc e) hF (fun k x y hx hy u hu=>ih k x y hx hy (hr k x u hx hu) (hn x (List.mem_of_getElem? hx)) (fun c hc=>hI c ((hF c).2 (.inr ⟨k,(List.getElem?_eq_some_iff.1 hx).1,hc⟩))) hlt htb)
    exact ⟨_,fun c hc=>(hF c).2 (hc.imp id fun ⟨k,hk,h⟩=>⟨k,hl ▸ hk,hG1 k c hk h⟩),
     .own ho (by rw [hl,hl']) h1 (fun k y u hy hu=>hG2 k y u hy hu) (fun j k c hj hk h2 h3=>hd j k c (hl ▸ hj) (hl ▸ hk) (hG1 j c hj h2) (hG1 k c hk h3)) (fun k c hk hc=>hb k c (hl ▸ hk) (hG1 k c hk hc)) (fun c=>Iff.rfl)⟩
 | @obj cs cs' hl hfz ih =>
  intro v F hR hn hI hlt htb
  cases hR with
  | ref hx=>simp [AV.isRef] at hx
  | @obj _ b e arr Fs _ ho hl' h1 hr hd hb hF hs =>
   cases hn with
   | obj hn =>
    obtain ⟨Gs,hG1,hG2⟩:=fz_kids (get:=fun k=>arr[k]?) (B:=fun c=>c=b) hl (fun k hk=>⟨_,Array.getElem?_eq_getElem (hl' ▸ hk)⟩) hd (fun k c hk hc e=>hb k hk (e ▸ hc)) hF (fun k x y hx hy u hu=>ih k x y hx hy (hr k x u hx hu) (hn x (List.mem_of_getElem? hx)) (fun c hc=>hI c ((hF c).2 (.inr ⟨k,(List.getElem?_eq_some_iff.1 hx).1,hc⟩))) hlt htb)
    exact ⟨_,fun c hc=>(hF c).2 (hc.imp id fun ⟨k,hk,h⟩=>⟨k,hl ▸ hk,hG1 k c hk h⟩),
     .obj ho (by rw [hl,hl']) h1 (fun k y u hy hu=>hG2 k y u hy hu) (fun j k c hj hk h2 h3=>hd j k c (hl ▸ hj) (hl ▸ hk) (hG1 j c hj h2) (hG1 k c hk h3)) (fun k hk hc=>hb k (hl ▸ hk) (hG1 k b hk hc)) (fun c=>Iff.rfl) (fun k j u hk=>hs k j u (ns_each hl hfz (fun _ _ _=>Fz.ns) k j hk))⟩
 | @agg cs cs' hl _ ih =>
  intro v F hR hn hI hlt htb
  cases hR with
  | ref hx=>simp [AV.isRef] at hx
  | @agg _ vs Fs _ hl' h1 hr hd hF =>
   cases hn with
   | agg hn =>
    obtain ⟨Gs,hG1,hG2⟩:=fz_kids (get:=fun k=>vs[k]?) (B:=fun _=>False) hl (fun k hk=>⟨_,Array.getElem?_eq_getElem (hl' ▸ hk)⟩) hd (fun k c hk hc e=>e) (fun c=>(hF c).trans ⟨.inr,fun h=>h.elim (fun h=>h.elim) id⟩) (fun k x y hx hy u hu=>ih k x y hx hy (hr k x u hx hu) (hn x (List.mem_of_getElem? hx)) (fun c hc=>hI c ((hF c).2 ⟨k,(List.getElem?_eq_some_iff.1 hx).1,hc⟩)) hlt htb)
    refine ⟨fun c=>∃ k,k<cs'.length/\Gs k c,fun c ⟨k,hk,h⟩=>(hF c).2 ⟨k,hl ▸ hk,hG1 k c hk h⟩,
     .agg (Fs:=Gs) (by rw [hl,hl']) h1 (fun k y u hy hu=>(hG2 k y u hy hu).moreI fun c hc=>hc.imp id fun ⟨h1,h2⟩=>⟨h1,fun h=>h2 (.inr h)⟩) (fun j k c hj hk h2 h3=>hd j k c (hl ▸ hj) (hl ▸ hk) (hG1 j c hj h2) (hG1 k c hk h3)) (fun c=>Iff.rfl)⟩
end
end Go.Own
