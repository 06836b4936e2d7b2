/- Parts of the proof that the last text states. -/
import Derived.Test.YtcfiphoaldlmiaaGreatDoorRows
import Derived.Test.YtcfiphoaldlmiaaGreatDoorE8
namespace Go.Proofs
open Go Go.Own
set_option maxRecDepth 100000
set_option maxHeartbeats 4000000
set_option synthInstance.maxHeartbeats 1000000
set_option synthInstance.maxSize 10000
set_option linter.unusedVariables false
theorem con63l (a0:Source) (r:Grammar × Int × Int × ByteArray) (h:pf63 a0=some r):Con Tryz.prog 63 [.agg (eSource_0.cells a0)] [none] (.tup [.agg (eGrammar_0.cells r.1),I64 r.2.1,I64 r.2.2.1,SS r.2.2.2]):=by
 unfold pf63 at h
 refine Con.go (N:=⟨435,[]⟩) Tryz.func63 q q q q (W.fin ?_)
 refine W.st [(0,.agg (eSource_0.cells a0))] ?_
 refine W.sq'<|W.rx [(1,_),(2,_)] (Rv (O.box (.aggF q q) q)<|Rv (O.al (cs:=[.nils,.nils,.nils,SS S0,SS S0]) ze38 q q)<|Vk q<|Vk q<|Vk q<|Fi (tn2 q q)) ?_
 refine Px.sq<|W.sq' ?_
 refine W.sq' ?_
 obtain ⟨x1,hx1,h⟩:=bnd h
 refine W.rx [(1,_),(2,_),(28,_)] (Rv (O.ldON (cs':=[SS a0.Pro,iR eDecl_0 a0.Decls,iR eRule_0 a0.Rules,SS a0.Tail]) q (.obj q) at25 q q)<|Rc (PC.go (.cc (.aggF q q) .nil) (CF.go hx1) call86 q)<|Rv (O.not (.lit q))<|Fi (tn3 q q q)) ?_
 refine Px.sq<|W.cnd q (fun hb2=>?_) (fun hb2=>?_)
 ·replace h:=cndT hb2 h
  refine W.sq'<|W.rx [(2,_),(3,_),(4,_),(5,_)] (Rv (O.bu (cs:=[.nils,.nils,.nils,SS S0,SS S0]) sc38 ze38 q q q)<|RunL.sO (G2:=[(2,_)]) (cs2:=[.nils,.nils,.nils,SS S0,SS S0]) q (.obj q) (.aggF q q) q sz38 q q q q (.b q .nil)<|Vk q<|Vk q<|Vk q<|Fi (tn4 q q q q)) ?_
  refine Px.sq<|W.fz (G1:=[(2,.obj [iR eTok ([]:List Tok),iR eNon ([]:List Non),iR eProd_0 ([]:List Prod),SS S0,SS S0]),(3,_),(4,_),(5,_)]) [2] (.z q q (FzL.obj (.z (.z (.z (.f (.f .nil)))))) (.n q q (.n q q (.n q q .nil)))) ?_
  refine W.rt ?_
  refine Px.sqR ?_
  obtain rfl:=sm h
  exact Px.fin (Fin.ro (.c (ys0:=[iR eTok ([]:List Tok),iR eNon ([]:List Non),iR eProd_0 ([]:List Prod),SS S0,SS S0]) q at38 q q q (.f q (.f q (.f q (.f q (.f q .nil))))) (.f q q (.f q q (.f q q .nil)))) q (ode (by kernel_rfl)) (.no .nil) q (.inr q))
 ·replace h:=cndF hb2 h
  refine W.sk<|Px.sq ?_
  refine W.sq' ?_
  obtain ⟨x3,hx3,h⟩:=bnd h
  refine W.rx [(1,_),(2,_),(6,_)] (Rv (O.mk (en:=eB) (z0:=false) sl71 (.k q) (.k q) ze4 q q hx3 bb4 q)<|Rv (O.bu (cs:=[.nils,.nils,.nils,SS S0,SS S0,.brw eB.z ⟨30,[]⟩ x3.length,.nils,.nils,I64 0,I64 0,SS S0,I64 0,I64 0]) sc175 ze175 q q q)<|Rv (O.box (.aggF q q) q)<|RunL.ea (G2:=[(1,.obj (eSource_0.cells a0)),(2,.obj [.nils,.nils,.nils,SS S0,SS S0])]) q (EO.aG (y':=.obj [.nils,.nils,.nils,SS S0,SS S0,oR eB x3,.nils,.nils,I64 0,I64 0,SS S0,I64 0,I64 0]) q q (.obj q) (.b q (.f (.f (.f (.f (.f (.r q (.f (.f (.f (.f (.f (.f (.f .nil))))))))))))) .nil) .refl (tn2 q q) q q)<|Fi (tn3 q q q)) ?_
  refine Px.sq<|W.sq' ?_
  refine W.rx [(1,_),(2,_),(6,_)] (Rv (O.mv (.obj q))<|Rv (O.bu (cs:=[SS ({ data:=#[36,101,110,100] }),BB false,I64 0,I64 0,I64 0,SS S0]) sc148 ze148 q q q)<|Rv (O.bu (cs:=[SS ({ data:=#[101,114,114,111,114] }),BB false,I64 (-1),I64 0,I64 0,SS S0]) sc148 ze148 q q q)<|Rv (O.bu (cs:=[SS ({ data:=#[36,117,110,107] }),BB false,I64 (-1),I64 0,I64 0,SS S0]) sc148 ze148 q q q)<|Rv (O.bs (ys:=[.agg [SS ({ data:=#[36,101,110,100] }),BB false,I64 0,I64 0,I64 0,SS S0],.agg [SS ({ data:=#[101,114,114,111,114] }),BB false,I64 (-1),I64 0,I64 0,SS S0],.agg [SS ({ data:=#[36,117,110,107] }),BB false,I64 (-1),I64 0,I64 0,SS S0]]) eTok [(⟨{ data:=#[36,101,110,100] },false,0,0,0,S0⟩:Tok),(⟨{ data:=#[101,114,114,111,114] },false,(-1),0,0,S0⟩:Tok),(⟨{ data:=#[36,117,110,107] },false,(-1),0,0,S0⟩:Tok)] sl34 q q q q q q zt148 q q)<|Rv (O.nlP (.ptr q))<|Rv (O.fO q (.ptr q) fd175_0 q)<|Rv (O.fO q (.ptr q) fd38_0 q)<|RunL.ef (G2:=[(1,.obj (eSource_0.cells a0)),(2,.obj [.nils,.nils,.nils,SS S0,SS S0]),(6,.obj [oR eTok [(⟨{ data:=#[36,101,110,100] },false,0,0,0,S0⟩:Tok),(⟨{ data:=#[101,114,114,111,114] },false,(-1),0,0,S0⟩:Tok),(⟨{ data:=#[36,117,110,107] },false,(-1),0,0,S0⟩:Tok)],.nils,.nils,SS S0,SS S0,oR eB x3,.nils,.nils,I64 0,I64 0,SS S0,I64 0,I64 0])]) q (EO.stB (y':=oR eTok [(⟨{ data:=#[36,101,110,100] },false,0,0,0,S0⟩:Tok),(⟨{ data:=#[101,114,114,111,114] },false,(-1),0,0,S0⟩:Tok),(⟨{ data:=#[36,117,110,107] },false,(-1),0,0,S0⟩:Tok)]) (cs2:=[oR eTok [(⟨{ data:=#[36,101,110,100] },false,0,0,0,S0⟩:Tok),(⟨{ data:=#[101,114,114,111,114] },false,(-1),0,0,S0⟩:Tok),(⟨{ data:=#[36,117,110,107] },false,(-1),0,0,S0⟩:Tok)],.nils,.nils,SS S0,SS S0,oR eB x3,.nils,.nils,I64 0,I64 0,SS S0,I64 0,I64 0]) q q (.ptr q) (.own q) (.r q .nil) .refl q sz34 q q q q q (.n q q (.n q q (.b q .nil))))<|Fi (tn3 q q q)) ?_
  refine Px.sq<|W.sq' ?_
  refine W.rx [(1,_),(2,_),(6,_),(7,_)] (Vk q<|Fi (tn4 q q q q)) ?_
  refine Px.sq<|W.sq' ?_
  refine W.sq'<|W.rx [(1,_),(2,_),(6,_),(7,_),(8,_)] (Vk q<|Fi (tn5 q q q q q)) ?_
  refine Px.sq<|W.bk ?_
  obtain ⟨x5,hl,h⟩:=bnd h
  refine W.tr (G1:=[(1,_),(2,_),(6,.obj [oR eTok (((⟨(⟨[(⟨{ data:=#[36,101,110,100] },false,0,0,0,S0⟩:Tok),(⟨{ data:=#[101,114,114,111,114] },false,(-1),0,0,S0⟩:Tok),(⟨{ data:=#[36,117,110,107] },false,(-1),0,0,S0⟩:Tok)],[],[],S0,S0⟩:Grammar),x3,[],[],0,0,S0,0,0⟩:yuccaref9_maker).f_g).Toks),oR eNon (((⟨(⟨[(⟨{ data:=#[36,101,110,100] },false,0,0,0,S0⟩:Tok),(⟨{ data:=#[101,114,114,111,114] },false,(-1),0,0,S0⟩:Tok),(⟨{ data:=#[36,117,110,107] },false,(-1),0,0,S0⟩:Tok)],[],[],S0,S0⟩:Grammar),x3,[],[],0,0,S0,0,0⟩:yuccaref9_maker).f_g).Nons),oR eProd_0 (((⟨(⟨[(⟨{ data:=#[36,101,110,100] },false,0,0,0,S0⟩:Tok),(⟨{ data:=#[101,114,114,111,114] },false,(-1),0,0,S0⟩:Tok),(⟨{ data:=#[36,117,110,107] },false,(-1),0,0,S0⟩:Tok)],[],[],S0,S0⟩:Grammar),x3,[],[],0,0,S0,0,0⟩:yuccaref9_maker).f_g).Prods),SS (((⟨(⟨[(⟨{ data:=#[36,101,110,100] },false,0,0,0,S0⟩:Tok),(⟨{ data:=#[101,114,114,111,114] },false,(-1),0,0,S0⟩:Tok),(⟨{ data:=#[36,117,110,107] },false,(-1),0,0,S0⟩:Tok)],[],[],S0,S0⟩:Grammar),x3,[],[],0,0,S0,0,0⟩:yuccaref9_maker).f_g).Pro),SS (((⟨(⟨[(⟨{ data:=#[36,101,110,100] },false,0,0,0,S0⟩:Tok),(⟨{ data:=#[101,114,114,111,114] },false,(-1),0,0,S0⟩:Tok),(⟨{ data:=#[36,117,110,107] },false,(-1),0,0,S0⟩:Tok)],[],[],S0,S0⟩:Grammar),x3,[],[],0,0,S0,0,0⟩:yuccaref9_maker).f_g).Tail),oR eB ((⟨(⟨[(⟨{ data:=#[36,101,110,100] },false,0,0,0,S0⟩:Tok),(⟨{ data:=#[101,114,114,111,114] },false,(-1),0,0,S0⟩:Tok),(⟨{ data:=#[36,117,110,107] },false,(-1),0,0,S0⟩:Tok)],[],[],S0,S0⟩:Grammar),x3,[],[],0,0,S0,0,0⟩:yuccaref9_maker).f_given),oR eNon ((⟨(⟨[(⟨{ data:=#[36,101,110,100] },false,0,0,0,S0⟩:Tok),(⟨{ data:=#[101,114,114,111,114] },false,(-1),0,0,S0⟩:Tok),(⟨{ data:=#[36,117,110,107] },false,(-1),0,0,S0⟩:Tok)],[],[],S0,S0⟩:Grammar),x3,[],[],0,0,S0,0,0⟩:yuccaref9_maker).f_types),oR eS ((⟨(⟨[(⟨{ data:=#[36,101,110,100] },false,0,0,0,S0⟩:Tok),(⟨{ data:=#[101,114,114,111,114] },false,(-1),0,0,S0⟩:Tok),(⟨{ data:=#[36,117,110,107] },false,(-1),0,0,S0⟩:Tok)],[],[],S0,S0⟩:Grammar),x3,[],[],0,0,S0,0,0⟩:yuccaref9_maker).f_lefts),I64 ((⟨(⟨[(⟨{ data:=#[36,101,110,100] },false,0,0,0,S0⟩:Tok),(⟨{ data:=#[101,114,114,111,114] },false,(-1),0,0,S0⟩:Tok),(⟨{ data:=#[36,117,110,107] },false,(-1),0,0,S0⟩:Tok)],[],[],S0,S0⟩:Grammar),x3,[],[],0,0,S0,0,0⟩:yuccaref9_maker).f_e),I64 ((⟨(⟨[(⟨{ data:=#[36,101,110,100] },false,0,0,0,S0⟩:Tok),(⟨{ data:=#[101,114,114,111,114] },false,(-1),0,0,S0⟩:Tok),(⟨{ data:=#[36,117,110,107] },false,(-1),0,0,S0⟩:Tok)],[],[],S0,S0⟩:Grammar),x3,[],[],0,0,S0,0,0⟩:yuccaref9_maker).f_at),SS ((⟨(⟨[(⟨{ data:=#[36,101,110,100] },false,0,0,0,S0⟩:Tok),(⟨{ data:=#[101,114,114,111,114] },false,(-1),0,0,S0⟩:Tok),(⟨{ data:=#[36,117,110,107] },false,(-1),0,0,S0⟩:Tok)],[],[],S0,S0⟩:Grammar),x3,[],[],0,0,S0,0,0⟩:yuccaref9_maker).f_name),I64 ((⟨(⟨[(⟨{ data:=#[36,101,110,100] },false,0,0,0,S0⟩:Tok),(⟨{ data:=#[101,114,114,111,114] },false,(-1),0,0,S0⟩:Tok),(⟨{ data:=#[36,117,110,107] },false,(-1),0,0,S0⟩:Tok)],[],[],S0,S0⟩:Grammar),x3,[],[],0,0,S0,0,0⟩:yuccaref9_maker).f_level),I64 ((⟨(⟨[(⟨{ data:=#[36,101,110,100] },false,0,0,0,S0⟩:Tok),(⟨{ data:=#[101,114,114,111,114] },false,(-1),0,0,S0⟩:Tok),(⟨{ data:=#[36,117,110,107] },false,(-1),0,0,S0⟩:Tok)],[],[],S0,S0⟩:Grammar),x3,[],[],0,0,S0,0,0⟩:yuccaref9_maker).f_inner)]),(7,_),(8,_)]) (.n q (.n q (.w q q (WkL.obj (.f (.o (.o (.f (.f (.f (.o (.o (.f (.f (.f (.f (.f .nil)))))))))))))) (tn2 q q)))) ?_
  refine W.lp1 (s:=((⟨(⟨[(⟨{ data:=#[36,101,110,100] },false,0,0,0,S0⟩:Tok),(⟨{ data:=#[101,114,114,111,114] },false,(-1),0,0,S0⟩:Tok),(⟨{ data:=#[36,117,110,107] },false,(-1),0,0,S0⟩:Tok)],[],[],S0,S0⟩:Grammar),x3,[],[],0,0,S0,0,0⟩:yuccaref9_maker),S0,0)) (fun (s4:yuccaref9_maker × ByteArray × Int)=>[(1,.obj (eSource_0.cells a0)),(2,.obj [.nils,.nils,.nils,SS S0,SS S0]),(6,.obj (eyuccaref9_maker_r.cells s4.1)),(7,SS s4.2.1),(8,I64 s4.2.2)]) 0 (fun (x5:yuccaref9_maker × ByteArray)=>[(1,.obj (eSource_0.cells a0)),(2,.obj [.nils,.nils,.nils,SS S0,SS S0]),(6,.obj (eyuccaref9_maker_r.cells x5.1)),(7,SS x5.2)]) hl (fun s4 o h=>?_) ?_
  ·clear hl
   refine W.sq'<|W.sq' ?_
   refine W.rx [(1,_),(2,_),(6,_),(7,_),(8,_),(45,_)] (Vm q<|Rv (O.fO q (.obj q) fd25_1 q)<|Rv (O.ldO (y:=iR eDecl_0 a0.Decls) q (.ptr q) ct22 q q)<|Rv (O.lenI (.imm q) sl22)<|Rv (O.lss (.lit q) (.lit q))<|Fi (tn6 q q q q q q)) ?_
   refine Px.sq<|W.cnd q (fun hb7=>?_) (fun hb7=>?_)
   ·replace h:=cndT hb7 h
    refine W.sk<|Px.sq ?_
    refine W.sq'<|W.bk ?_
    refine W.sq' ?_
    obtain ⟨x8,hx8,h⟩:=bnd h
    refine W.rx [(1,_),(2,_),(6,_),(7,_),(8,_),(9,_)] (Rv (O.fO q (.obj q) fd25_1 q)<|Rv (O.ldO (y:=iR eDecl_0 a0.Decls) q (.ptr q) ct22 q q)<|Vm q<|Rv (O.ixI (.imm q) (.lit q) sl22 hx8)<|Rv (O.ldIN (cs':=[I64 x8.Kind,SS x8.Tag,iR eSym x8.Syms,I64 x8.At]) (.iptr q) at62 q q)<|Rv (O.al (cs:=[I64 0,SS S0,.nils,I64 0]) ze62 q q)<|RunL.sO (G2:=[(1,_),(2,_),(6,_),(7,_),(8,_),(9,_)]) (cs2:=[I64 x8.Kind,SS x8.Tag,iR eSym x8.Syms,I64 x8.At]) q (.obj q) (.aggF q q) q sz62 q q q q (.n q q (.n q q (.n q q (.n q q (.n q q (.b q .nil))))))<|Fi (tn6 q q q q q q)) ?_
    refine Px.sq<|W.sq' ?_
    refine W.sq' ?_
    obtain ⟨c10,hj,h⟩:=bnd h
    refine W.rx [(1,.obj (eSource_0.cells a0)),(2,.obj [.nils,.nils,.nils,SS S0,SS S0]),(6,.obj (eyuccaref9_maker_r.cells s4.1)),(7,SS s4.2.1),(8,I64 s4.2.2),(9,.obj (eDecl_0.cells x8)),(60,BB c10)] ?_ ?_
    ·refine Rv (O.fO q (.obj q) fd62_0 q)<|Rv (O.ldO (y:=I64 x8.Kind) q (.ptr q) ct3 q q)<|Rv (O.geq (.lit q) (.k q))<|Rv (O.mv (.lit q)) ?_
     rcases cnd hj with ⟨hb9,hj⟩ | ⟨hb9,hj⟩
     ·obtain rfl:=sm hj
      exact RunL.v (O.fO q (.obj q) fd62_0 q) q q (.yb q q hb9)<|RunL.v (O.ldO (y:=I64 x8.Kind) q (.ptr q) ct3 q q) q q (.yb q q hb9)<|RunL.v (O.leq (.lit q) (.k q)) q q (.yb q q hb9)<|Rv (O.pkT (.lit q) hb9 (.lit q))<|Fi (tn7 q q q q q q q)
     ·obtain rfl:=sm hj
      exact RunL.ps q q hb9 q q<|RunL.ps q q hb9 q q<|RunL.ps q q hb9 q q<|Rv (O.pkF (.lit q) hb9 (.k q))<|Fi (tn7 q q q q q q q)
    refine Px.sq ?_
    obtain ⟨j11,hj,h⟩:=bnd h
    refine W.jn [(1,.obj (eSource_0.cells a0)),(2,.obj [.nils,.nils,.nils,SS S0,SS S0]),(6,.obj [oR eTok s4.1.f_g.Toks,oR eNon s4.1.f_g.Nons,oR eProd_0 s4.1.f_g.Prods,SS s4.1.f_g.Pro,SS s4.1.f_g.Tail,oR eB s4.1.f_given,oR eNon s4.1.f_types,oR eS s4.1.f_lefts,I64 s4.1.f_e,I64 s4.1.f_at,SS s4.1.f_name,I64 j11,I64 s4.1.f_inner]),(7,SS s4.2.1),(8,I64 s4.2.2),(9,.obj (eDecl_0.cells x8))] ?_ ?_
    ·clear h; have h:=hj; clear hj
     refine W.cnd q (fun hb12=>?_) (fun hb12=>?_)
     ·replace h:=cndT hb12 h
      refine W.rx [(1,_),(2,_),(6,_),(7,_),(8,_),(9,_)] (Rv (O.mv (.obj q))<|Rv (O.nlP (.ptr q))<|Rv (O.fO q (.ptr q) fd175_7 q)<|Rv (O.ldO (y:=I64 s4.1.f_level) q (.ptr q) ct3 q q)<|Rv (O.add (.lit q) (.k q))<|Rv (O.nlP (.ptr q))<|Rv (O.fO q (.ptr q) fd175_7 q)<|RunL.sO (G2:=[(1,_),(2,_),(6,_),(7,_),(8,_),(9,_)]) (cs2:=[oR eTok s4.1.f_g.Toks,oR eNon s4.1.f_g.Nons,oR eProd_0 s4.1.f_g.Prods,SS s4.1.f_g.Pro,SS s4.1.f_g.Tail,oR eB s4.1.f_given,oR eNon s4.1.f_types,oR eS s4.1.f_lefts,I64 s4.1.f_e,I64 s4.1.f_at,SS s4.1.f_name,I64 (w64 (s4.1.f_level+1)),I64 s4.1.f_inner]) q (.ptr q) (.lit q) q sz3 q q q q (.n q q (.n q q (.b q (.n q q (.n q q (.n q q .nil))))))<|Fi (tn6 q q q q q q)) ?_
      obtain rfl:=sm h
      exact Px.jn (tn6 q q q q q q)
     ·replace h:=cndF hb12 h
      refine W.sk ?_
      obtain rfl:=sm h
      exact Px.jn (tn6 q q q q q q)
    refine Px.sq<|W.sq' ?_
    refine W.rx [(1,_),(2,_),(6,_),(7,_),(8,_),(9,_),(10,_)] (Vk q<|Fi (tn7 q q q q q q q)) ?_
    refine Px.sq<|W.bk ?_
    obtain ⟨x14,hl,h⟩:=bnd h
    refine W.tr (G1:=[(1,_),(2,_),(6,.obj [oR eTok (((⟨s4.1.f_g,s4.1.f_given,s4.1.f_types,s4.1.f_lefts,s4.1.f_e,s4.1.f_at,s4.1.f_name,j11,s4.1.f_inner⟩:yuccaref9_maker).f_g).Toks),oR eNon (((⟨s4.1.f_g,s4.1.f_given,s4.1.f_types,s4.1.f_lefts,s4.1.f_e,s4.1.f_at,s4.1.f_name,j11,s4.1.f_inner⟩:yuccaref9_maker).f_g).Nons),oR eProd_0 (((⟨s4.1.f_g,s4.1.f_given,s4.1.f_types,s4.1.f_lefts,s4.1.f_e,s4.1.f_at,s4.1.f_name,j11,s4.1.f_inner⟩:yuccaref9_maker).f_g).Prods),SS (((⟨s4.1.f_g,s4.1.f_given,s4.1.f_types,s4.1.f_lefts,s4.1.f_e,s4.1.f_at,s4.1.f_name,j11,s4.1.f_inner⟩:yuccaref9_maker).f_g).Pro),SS (((⟨s4.1.f_g,s4.1.f_given,s4.1.f_types,s4.1.f_lefts,s4.1.f_e,s4.1.f_at,s4.1.f_name,j11,s4.1.f_inner⟩:yuccaref9_maker).f_g).Tail),oR eB ((⟨s4.1.f_g,s4.1.f_given,s4.1.f_types,s4.1.f_lefts,s4.1.f_e,s4.1.f_at,s4.1.f_name,j11,s4.1.f_inner⟩:yuccaref9_maker).f_given),oR eNon ((⟨s4.1.f_g,s4.1.f_given,s4.1.f_types,s4.1.f_lefts,s4.1.f_e,s4.1.f_at,s4.1.f_name,j11,s4.1.f_inner⟩:yuccaref9_maker).f_types),oR eS ((⟨s4.1.f_g,s4.1.f_given,s4.1.f_types,s4.1.f_lefts,s4.1.f_e,s4.1.f_at,s4.1.f_name,j11,s4.1.f_inner⟩:yuccaref9_maker).f_lefts),I64 ((⟨s4.1.f_g,s4.1.f_given,s4.1.f_types,s4.1.f_lefts,s4.1.f_e,s4.1.f_at,s4.1.f_name,j11,s4.1.f_inner⟩:yuccaref9_maker).f_e),I64 ((⟨s4.1.f_g,s4.1.f_given,s4.1.f_types,s4.1.f_lefts,s4.1.f_e,s4.1.f_at,s4.1.f_name,j11,s4.1.f_inner⟩:yuccaref9_maker).f_at),SS ((⟨s4.1.f_g,s4.1.f_given,s4.1.f_types,s4.1.f_lefts,s4.1.f_e,s4.1.f_at,s4.1.f_name,j11,s4.1.f_inner⟩:yuccaref9_maker).f_name),I64 ((⟨s4.1.f_g,s4.1.f_given,s4.1.f_types,s4.1.f_lefts,s4.1.f_e,s4.1.f_at,s4.1.f_name,j11,s4.1.f_inner⟩:yuccaref9_maker).f_level),I64 ((⟨s4.1.f_g,s4.1.f_given,s4.1.f_types,s4.1.f_lefts,s4.1.f_e,s4.1.f_at,s4.1.f_name,j11,s4.1.f_inner⟩:yuccaref9_maker).f_inner)]),(7,_),(8,_),(9,_),(10,_)]) (tn7 q q q q q q q) ?_
    refine W.lp1 (s:=((⟨s4.1.f_g,s4.1.f_given,s4.1.f_types,s4.1.f_lefts,s4.1.f_e,s4.1.f_at,s4.1.f_name,j11,s4.1.f_inner⟩:yuccaref9_maker),s4.2.1,0)) (fun (s13:yuccaref9_maker × ByteArray × Int)=>[(1,.obj (eSource_0.cells a0)),(2,.obj [.nils,.nils,.nils,SS S0,SS S0]),(6,.obj (eyuccaref9_maker_r.cells s13.1)),(7,SS s13.2.1),(8,I64 s4.2.2),(9,.obj (eDecl_0.cells x8)),(10,I64 s13.2.2)]) 2 (fun (x14:yuccaref9_maker × ByteArray)=>[(1,.obj (eSource_0.cells a0)),(2,.obj [.nils,.nils,.nils,SS S0,SS S0]),(6,.obj (eyuccaref9_maker_r.cells x14.1)),(7,SS x14.2),(8,I64 s4.2.2)]) hl (fun s13 o h=>?_) ?_
    ·clear hl
     refine W.sq'<|W.sq' ?_
     refine W.rx [(1,_),(2,_),(6,_),(7,_),(8,_),(9,_),(10,_),(72,_)] (Vm q<|Rv (O.fO q (.obj q) fd62_2 q)<|Rv (O.ldO (y:=iR eSym x8.Syms) q (.ptr q) ct60 q q)<|Rv (O.lenI (.imm q) sl60)<|Rv (O.lss (.lit q) (.lit q))<|Fi (tn8 q q q q q q q q)) ?_
     refine Px.sq<|W.cnd q (fun hb16=>?_) (fun hb16=>?_)
     ·replace h:=cndT hb16 h
      refine W.sk<|Px.sq ?_
      refine W.sq' ?_
      obtain ⟨j17,hj,h⟩:=bnd h
      refine W.jn [(1,.obj (eSource_0.cells a0)),(2,.obj [.nils,.nils,.nils,SS S0,SS S0]),(6,.obj (eyuccaref9_maker_r.cells j17.1)),(7,SS j17.2),(8,I64 s4.2.2),(9,.obj (eDecl_0.cells x8)),(10,I64 s13.2.2)] ?_ ?_
      ·clear h; have h:=hj; clear hj
       refine W.bk<|W.sq' ?_
       refine W.sq'<|W.rx [(1,_),(2,_),(6,_),(7,_),(8,_),(9,_),(10,_),(77,_)] (Rv (O.fO q (.obj q) fd62_0 q)<|Rv (O.ldO (y:=I64 x8.Kind) q (.ptr q) ct3 q q)<|Rv (O.neq (.lit q) (.k q))<|Fi (tn8 q q q q q q q q)) ?_
       refine Px.sq<|W.cnd q (fun hb18=>?_) (fun hb18=>?_)
       ·replace h:=cndT hb18 h
        refine W.sq' ?_
        obtain ⟨x19,hx19,h⟩:=bnd h
        obtain ⟨x20,hx20,h⟩:=bnd h
        refine W.rd [[],[],[],[2],[],[2,3,4],[2,3,4,5],rn 0 7 []] [(1,_),(2,_),(6,_),(7,_),(8,_),(9,_),(10,_)] mixo (by kernel_rfl) (Dv 0 (O.mv (.obj q))<|Dv 1 (O.ldON (cs':=[I64 x8.Kind,SS x8.Tag,iR eSym x8.Syms,I64 x8.At]) q (.obj q) at62 q q)<|Dv 2 (O.fO q (.obj q) fd62_2 q)<|Dv 3 (O.ldO (y:=iR eSym x8.Syms) q (.ptr q) ct60 q q)<|Dv 4 (O.mv (.lit q))<|Dv 5 (O.ixI (.imm q) (.lit q) sl60 hx19)<|Dv 6 (O.ldIN (cs':=[SS x19.Name,BB x19.Lit,I64 x19.Num,I64 x19.At]) (.iptr q) at54 q q)<|DL.bp 7 (G2:=[(85,.tup []),(6,.obj [oR eTok x20.f_g.Toks,oR eNon x20.f_g.Nons,oR eProd_0 x20.f_g.Prods,SS x20.f_g.Pro,SS x20.f_g.Tail,oR eB x20.f_given,oR eNon x20.f_types,oR eS x20.f_lefts,I64 x20.f_e,I64 x20.f_at,SS x20.f_name,I64 x20.f_level,I64 x20.f_inner]),(1,.obj (eSource_0.cells a0)),(2,.obj [.nils,.nils,.nils,SS S0,SS S0]),(7,SS s13.2.1),(8,I64 s4.2.2),(9,.obj (eDecl_0.cells x8)),(10,I64 s13.2.2)]) (EO.call q q (CallOk.ln (G2:=[(1,.obj (eSource_0.cells a0)),(2,.obj [.nils,.nils,.nils,SS S0,SS S0]),(7,SS s13.2.1),(8,I64 s4.2.2),(9,.obj (eDecl_0.cells x8)),(10,I64 s13.2.2)]) (A:=[]) (ys:=[.ptr ⟨6,[]⟩ 0,.agg (eDecl_0.cells x8),.agg (eSym.cells x19)]) (args:=[.obj (eyuccaref9_maker_r.cells s13.1),.agg (eDecl_0.cells x8),.agg (eSym.cells x19)]) (cs':=[oR eTok x20.f_g.Toks,oR eNon x20.f_g.Nons,oR eProd_0 x20.f_g.Prods,SS x20.f_g.Pro,SS x20.f_g.Tail,oR eB x20.f_given,oR eNon x20.f_types,oR eS x20.f_lefts,I64 x20.f_e,I64 x20.f_at,SS x20.f_name,I64 x20.f_level,I64 x20.f_inner]) (k0:=0) q q q q (.b q (.n q (.n q .nil))) q (CF.go hx20) call87 (tn6 q q q q q q) q q (tn6 q q q q q q) .nil q)) q q q q (by kernel_rfl) (by kernel_rfl)<|DL.fin q q q (tn7 q q q q q q q)) ?_
        refine Px.sq<|W.xi ?_
        refine Px.sqE ?_
        refine Px.bkH ?_
        obtain rfl:=sm h
        exact Px.jn (tn7 q q q q q q q)
       ·replace h:=cndF hb18 h
        refine W.sk<|Px.sq ?_
        refine W.sq'<|W.sq' ?_
        refine W.rx [(1,_),(2,_),(6,_),(8,_),(9,_),(10,_),(87,_)] (Vm q<|Rv (O.neS (.lit q) (.k q))<|Fi (tn7 q q q q q q q)) ?_
        refine Px.sq ?_
        obtain ⟨j21,hj,h⟩:=bnd h
        refine W.jn [(1,.obj (eSource_0.cells a0)),(2,.obj [.nils,.nils,.nils,SS S0,SS S0]),(6,.obj (eyuccaref9_maker_r.cells j21)),(8,I64 s4.2.2),(9,.obj (eDecl_0.cells x8)),(10,I64 s13.2.2)] ?_ ?_
        ·clear h; have h:=hj; clear hj
         refine W.cnd q (fun hb22=>?_) (fun hb22=>?_)
         ·replace h:=cndT hb22 h
          obtain ⟨x23,hx23,h⟩:=bnd h
          obtain ⟨x24,hx24,h⟩:=bnd h
          obtain ⟨x25,hx25,h⟩:=bnd h
          refine W.rd [[],[],[1],[],[1,2,3],[1,2,3,4],rn 1 5 [],[],[7],[],[7,8,9],[7,8,9,10],rn 7 5 [],rn 0 13 []] [(1,_),(2,_),(6,_),(8,_),(9,_),(10,_)] mixo (by kernel_rfl) (Dv 0 (O.mv (.obj q))<|Dv 1 (O.fO q (.obj q) fd62_2 q)<|Dv 2 (O.ldO (y:=iR eSym x8.Syms) q (.ptr q) ct60 q q)<|Dv 3 (O.mv (.lit q))<|Dv 4 (O.ixI (.imm q) (.lit q) sl60 hx23)<|Dv 5 (O.fI (.iptr q) fd54_3)<|Dv 6 (O.ldI (x:=I64 x23.At) (.iptr q) ct3 q)<|Dv 7 (O.fO q (.obj q) fd62_2 q)<|Dv 8 (O.ldO (y:=iR eSym x8.Syms) q (.ptr q) ct60 q q)<|Dv 9 (O.mv (.lit q))<|Dv 10 (O.ixI (.imm q) (.lit q) sl60 hx24)<|Dv 11 (O.fI (.iptr q) fd54_0)<|Dv 12 (O.ldI (x:=SS x24.Name) (.iptr q) ct9 q)<|DL.bp 13 (G2:=[(101,.tup []),(6,.obj [oR eTok x25.f_g.Toks,oR eNon x25.f_g.Nons,oR eProd_0 x25.f_g.Prods,SS x25.f_g.Pro,SS x25.f_g.Tail,oR eB x25.f_given,oR eNon x25.f_types,oR eS x25.f_lefts,I64 x25.f_e,I64 x25.f_at,SS x25.f_name,I64 x25.f_level,I64 x25.f_inner]),(1,.obj (eSource_0.cells a0)),(2,.obj [.nils,.nils,.nils,SS S0,SS S0]),(8,I64 s4.2.2),(9,.obj (eDecl_0.cells x8)),(10,I64 s13.2.2)]) (EO.call q q (CallOk.ln (G2:=[(1,.obj (eSource_0.cells a0)),(2,.obj [.nils,.nils,.nils,SS S0,SS S0]),(8,I64 s4.2.2),(9,.obj (eDecl_0.cells x8)),(10,I64 s13.2.2)]) (A:=[]) (ys:=[.ptr ⟨6,[]⟩ 0,I64 x23.At,SS x24.Name]) (args:=[.obj (eyuccaref9_maker_r.cells s13.1),I64 x23.At,SS x24.Name]) (cs':=[oR eTok x25.f_g.Toks,oR eNon x25.f_g.Nons,oR eProd_0 x25.f_g.Prods,SS x25.f_g.Pro,SS x25.f_g.Tail,oR eB x25.f_given,oR eNon x25.f_types,oR eS x25.f_lefts,I64 x25.f_e,I64 x25.f_at,SS x25.f_name,I64 x25.f_level,I64 x25.f_inner]) (k0:=0) q q q q (.b q (.n q (.n q .nil))) q (CF.go hx25) call88 (tn5 q q q q q) q q (tn5 q q q q q) .nil q)) q q q q (by kernel_rfl) (by kernel_rfl)<|DL.fin q q q (tn6 q q q q q q)) ?_
          obtain rfl:=sm h
          exact Px.jn (tn6 q q q q q q)
         ·replace h:=cndF hb22 h
          refine W.sk ?_
          obtain rfl:=sm h
          exact Px.jn (tn6 q q q q q q)
        refine Px.sq ?_
        obtain ⟨x26,hx26,h⟩:=bnd h
        refine W.rx [(1,_),(2,_),(6,_),(7,_),(8,_),(9,_),(10,_)] (Rv (O.fO q (.obj q) fd62_2 q)<|Rv (O.ldO (y:=iR eSym x8.Syms) q (.ptr q) ct60 q q)<|Vm q<|Rv (O.ixI (.imm q) (.lit q) sl60 hx26)<|Rv (O.fI (.iptr q) fd54_0)<|Rv (O.ldI (x:=SS x26.Name) (.iptr q) ct9 q)<|Va q<|Fi (tn7 q q q q q q q)) ?_
        refine Px.bk ?_
        obtain rfl:=sm h
        exact Px.jn (tn7 q q q q q q q)
      refine Px.sq<|W.rx [(1,_),(2,_),(6,_),(7,_),(8,_),(9,_),(10,_)] (Vm q<|Rv (O.add (.lit q) (.k q))<|RunL.re (G1:=[(1,_),(2,_),(6,_),(7,_),(8,_),(9,_),(74,_)]) (tn7 q q q q q q q)<|Va q<|Fi (tn7 q q q q q q q)) ?_
      obtain rfl:=sm h
      exact Px.go (tn7 q q q q q q q)
     ·replace h:=cndF hb16 h
      refine W.xi ?_
      refine Px.sqE ?_
      obtain rfl:=sm h
      exact Px.x1 (tn5 q q q q q)
    refine Px.bkH ?_
    refine Px.bk ?_
    refine Px.sq<|W.rx [(1,_),(2,_),(6,_),(7,_),(8,_)] (Vm q<|Rv (O.add (.lit q) (.k q))<|RunL.re (G1:=[(1,_),(2,_),(6,_),(7,_),(47,_)]) (tn5 q q q q q)<|Va q<|Fi (tn5 q q q q q)) ?_
    obtain rfl:=sm h
    exact Px.go (tn5 q q q q q)
   ·replace h:=cndF hb7 h
    refine W.xi ?_
    refine Px.sqE ?_
    obtain rfl:=sm h
    exact Px.x1 (tn4 q q q q)
  refine Px.bkH ?_
  refine Px.sq<|W.sq' ?_
  refine W.sq'<|W.rx [(1,_),(2,_),(6,_),(7,_),(11,_)] (Vk q<|Fi (tn5 q q q q q)) ?_
  refine Px.sq<|W.bk ?_
  obtain ⟨x28,hl,h⟩:=bnd h
  refine W.tr (G1:=[(1,_),(2,_),(6,_),(7,_),(11,_)]) (tn5 q q q q q) ?_
  refine W.lp1 (s:=(x5.1,0)) (fun (s27:yuccaref9_maker × Int)=>[(1,.obj (eSource_0.cells a0)),(2,.obj [.nils,.nils,.nils,SS S0,SS S0]),(6,.obj (eyuccaref9_maker_r.cells s27.1)),(7,SS x5.2),(11,I64 s27.2)]) 4 (fun (x28:yuccaref9_maker)=>[(1,.obj (eSource_0.cells a0)),(2,.obj [.nils,.nils,.nils,SS S0,SS S0]),(6,.obj (eyuccaref9_maker_r.cells x28)),(7,SS x5.2)]) hl (fun s27 o h=>?_) ?_
  ·clear hl
   refine W.sq'<|W.sq' ?_
   refine W.rx [(1,_),(2,_),(6,_),(7,_),(11,_),(112,_)] (Vm q<|Rv (O.fO q (.obj q) fd25_2 q)<|Rv (O.ldO (y:=iR eRule_0 a0.Rules) q (.ptr q) ct23 q q)<|Rv (O.lenI (.imm q) sl23)<|Rv (O.lss (.lit q) (.lit q))<|Fi (tn6 q q q q q q)) ?_
   refine Px.sq<|W.cnd q (fun hb30=>?_) (fun hb30=>?_)
   ·replace h:=cndT hb30 h
    refine W.sk<|Px.sq ?_
    refine W.sq' ?_
    obtain ⟨j31,hj,h⟩:=bnd h
    refine W.jn [(1,.obj (eSource_0.cells a0)),(2,.obj [.nils,.nils,.nils,SS S0,SS S0]),(6,.obj (eyuccaref9_maker_r.cells j31)),(7,SS x5.2),(11,I64 s27.2)] ?_ ?_
    ·clear h; have h:=hj; clear hj
     refine W.bk<|W.sq' ?_
     obtain ⟨x32,hx32,h⟩:=bnd h
     refine W.rx [(1,_),(2,_),(6,_),(7,_),(11,_),(12,_)] (Rv (O.fO q (.obj q) fd25_2 q)<|Rv (O.ldO (y:=iR eRule_0 a0.Rules) q (.ptr q) ct23 q q)<|Vm q<|Rv (O.ixI (.imm q) (.lit q) sl23 hx32)<|Rv (O.ldIN (cs':=[SS x32.Left,iR eAlt_0 x32.Alts,I64 x32.At]) (.iptr q) at65 q q)<|Rv (O.al (cs:=[SS S0,.nils,I64 0]) ze65 q q)<|RunL.sO (G2:=[(1,_),(2,_),(6,_),(7,_),(11,_),(12,_)]) (cs2:=[SS x32.Left,iR eAlt_0 x32.Alts,I64 x32.At]) q (.obj q) (.aggF q q) q sz65 q q q q (.n q q (.n q q (.n q q (.n q q (.n q q (.b q .nil))))))<|Fi (tn6 q q q q q q)) ?_
     refine Px.sq<|W.sq' ?_
     refine W.sq' ?_
     obtain ⟨x33,hx33,h⟩:=bnd h
     refine W.rx [(1,_),(2,_),(6,_),(7,_),(11,_),(12,_),(125,_)] (Rv (O.mv (.obj q))<|Rv (O.fO q (.obj q) fd65_0 q)<|Rv (O.ldO (y:=SS x32.Left) q (.ptr q) ct9 q q)<|Rv (O.bu (cs:=[SS x32.Left,BB false,I64 0,I64 0]) sc54 ze54 q q q)<|Rc (PC.vw (ys:=[.ptr ⟨6,[]⟩ 0,.agg [SS x32.Left,BB false,I64 0,I64 0]]) q (.c (View.p0 q q) (.c (.ag (.s (.s (.s (.s .nil))))) .nil)) (CF.go hx33) call89 q)<|Rv (O.geq (.lit q) (.k q))<|Fi (tn7 q q q q q q q)) ?_
     refine Px.sq ?_
     obtain ⟨j34,hj,h⟩:=bnd h
     refine W.jn [(1,.obj (eSource_0.cells a0)),(2,.obj [.nils,.nils,.nils,SS S0,SS S0]),(6,.obj (eyuccaref9_maker_r.cells j34)),(7,SS x5.2),(11,I64 s27.2),(12,.obj (eRule_0.cells x32))] ?_ ?_
     ·clear h; have h:=hj; clear hj
      refine W.cnd q (fun hb35=>?_) (fun hb35=>?_)
      ·replace h:=cndT hb35 h
       obtain ⟨x36,hx36,h⟩:=bnd h
       refine W.rx [(1,_),(2,_),(6,_),(7,_),(11,_),(12,_)] (Rv (O.mv (.obj q))<|Rv (O.fO q (.obj q) fd65_2 q)<|Rv (O.ldO (y:=I64 x32.At) q (.ptr q) ct3 q q)<|Rv (O.fO q (.obj q) fd65_0 q)<|Rv (O.ldO (y:=SS x32.Left) q (.ptr q) ct9 q q)<|RunL.ef q (EO.call q q (CallOk.ln (G2:=[(1,.obj (eSource_0.cells a0)),(2,.obj [.nils,.nils,.nils,SS S0,SS S0]),(7,SS x5.2),(11,I64 s27.2),(12,.obj (eRule_0.cells x32))]) (A:=[]) (ys:=[.ptr ⟨6,[]⟩ 0,I64 x32.At,SS x32.Left]) (args:=[.obj (eyuccaref9_maker_r.cells s27.1),I64 x32.At,SS x32.Left]) (cs':=[oR eTok x36.f_g.Toks,oR eNon x36.f_g.Nons,oR eProd_0 x36.f_g.Prods,SS x36.f_g.Pro,SS x36.f_g.Tail,oR eB x36.f_given,oR eNon x36.f_types,oR eS x36.f_lefts,I64 x36.f_e,I64 x36.f_at,SS x36.f_name,I64 x36.f_level,I64 x36.f_inner]) (k0:=0) q q q q (.b q (.n q (.n q .nil))) q (CF.go hx36) call88 (tn5 q q q q q) q q (tn5 q q q q q) .nil q))<|Fi (tn6 q q q q q q)) ?_
       obtain rfl:=sm h
       exact Px.jn (tn6 q q q q q q)
      ·replace h:=cndF hb35 h
       refine W.sk ?_
       obtain rfl:=sm h
       exact Px.jn (tn6 q q q q q q)
     refine Px.sq<|W.sq' ?_
     obtain ⟨x37,hx37,h⟩:=bnd h
     refine W.rx [(1,_),(2,_),(6,_),(7,_),(11,_),(12,_),(136,_)] (Rv (O.mv (.obj q))<|Rv (O.fO q (.obj q) fd65_0 q)<|Rv (O.ldO (y:=SS x32.Left) q (.ptr q) ct9 q q)<|Rc (PC.vw (ys:=[.ptr ⟨6,[]⟩ 0,SS x32.Left]) q (.c (View.p0 q q) (.s .nil)) (CF.go hx37) call90 q)<|Rv (O.lss (.lit q) (.k q))<|Fi (tn7 q q q q q q q)) ?_
     refine Px.sq ?_
     obtain ⟨j38,hj,h⟩:=bnd h
     refine W.jn [(1,.obj (eSource_0.cells a0)),(2,.obj [.nils,.nils,.nils,SS S0,SS S0]),(6,.obj [oR eTok j34.f_g.Toks,oR eNon j34.f_g.Nons,oR eProd_0 j34.f_g.Prods,SS j34.f_g.Pro,SS j34.f_g.Tail,oR eB j34.f_given,oR eNon j34.f_types,oR eS j38,I64 j34.f_e,I64 j34.f_at,SS j34.f_name,I64 j34.f_level,I64 j34.f_inner]),(7,SS x5.2),(11,I64 s27.2)] ?_ ?_
     ·clear h; have h:=hj; clear hj
      refine W.cnd q (fun hb39=>?_) (fun hb39=>?_)
      ·replace h:=cndT hb39 h
       obtain ⟨x40,hx40,h⟩:=bnd h
       refine W.rd [[],[],[1],[1,2],[1,2,3],[],[5],[5,6],rn 1 7 [],rn 0 9 [],rn 0 10 [],rn 0 11 []] [(1,_),(2,_),(6,_),(7,_),(11,_)] mixo (by kernel_rfl) (Dv 0 (O.mv (.obj q))<|Dv 1 (O.mv (.obj q))<|Dv 2 (O.nlP (.ptr q))<|Dv 3 (O.fO q (.ptr q) fd175_3 q)<|Dv 4 (O.ldO (y:=.brw eS.z ⟨6,[7]⟩ j34.f_lefts.length) q (.ptr q) ct104 q q)<|Dv 5 (O.fO q (.obj q) fd65_0 q)<|Dv 6 (O.ldO (y:=SS x32.Left) q (.ptr q) ct9 q q)<|DL.vi 7 (x:=iR eS [x32.Left]) (O.bs (ys:=[SS x32.Left]) eS [x32.Left] sl104 q q q q q q zt9 q q) q q q q .none<|Dv 8 (O.ap (en:=eS) (r:=x40) (.brw q) q (.imm q) .i ap104 q hx40)<|Dv 9 (O.nlP (.ptr q))<|Dv 10 (O.fO q (.ptr q) fd175_3 q)<|DL.bp 11 (G2:=[(1,.obj (eSource_0.cells a0)),(2,.obj [.nils,.nils,.nils,SS S0,SS S0]),(6,.obj [oR eTok j34.f_g.Toks,oR eNon j34.f_g.Nons,oR eProd_0 j34.f_g.Prods,SS j34.f_g.Pro,SS j34.f_g.Tail,oR eB j34.f_given,oR eNon j34.f_types,oR eS (j34.f_lefts++[x32.Left]),I64 j34.f_e,I64 j34.f_at,SS j34.f_name,I64 j34.f_level,I64 j34.f_inner]),(7,SS x5.2),(11,I64 s27.2)]) (EO.stP (g1:=_) (en:=eS) (M:=[x32.Left]) (cs2:=[oR eTok j34.f_g.Toks,oR eNon j34.f_g.Nons,oR eProd_0 j34.f_g.Prods,SS j34.f_g.Pro,SS j34.f_g.Tail,oR eB j34.f_given,oR eNon j34.f_types,oR eS (j34.f_lefts++[x32.Left]),I64 j34.f_e,I64 j34.f_at,SS j34.f_name,I64 j34.f_level,I64 j34.f_inner]) q q (.ptr q) (.pend q) q q q .ns .rf q q sz104 q q q q (.n q q (.n q q (.b q (.n q q (.n q q .nil)))))) q q q q (by kernel_rfl) (by kernel_rfl)<|DL.fin q q q (tn5 q q q q q)) ?_
       obtain rfl:=sm h
       exact Px.jn (tn5 q q q q q)
      ·replace h:=cndF hb39 h
       refine W.sk ?_
       obtain rfl:=sm h
       exact Px.jn (tn5 q q q q q)
     refine Px.bk ?_
     obtain rfl:=sm h
     exact Px.jn (tn5 q q q q q)
    refine Px.sq<|W.rx [(1,_),(2,_),(6,_),(7,_),(11,_)] (Vm q<|Rv (O.add (.lit q) (.k q))<|RunL.re (G1:=[(1,_),(2,_),(6,_),(7,_),(114,_)]) (tn5 q q q q q)<|Va q<|Fi (tn5 q q q q q)) ?_
    obtain rfl:=sm h
    exact Px.go (tn5 q q q q q)
   ·replace h:=cndF hb30 h
    refine W.xi ?_
    refine Px.sqE ?_
    obtain rfl:=sm h
    exact Px.x1 (tn4 q q q q)
  refine Px.bkH ?_
  refine Px.sq<|W.sq' ?_
  refine W.sq'<|W.rx [(1,_),(2,_),(6,_),(7,_),(13,_)] (Vk q<|Fi (tn5 q q q q q)) ?_
  refine Px.sq<|W.bk ?_
  obtain ⟨x42,hl,h⟩:=bnd h
  refine W.tr (G1:=[(1,_),(2,_),(6,_),(7,_),(13,_)]) (tn5 q q q q q) ?_
  refine W.lp1 (s:=(x28,0)) (fun (s41:yuccaref9_maker × Int)=>[(1,.obj (eSource_0.cells a0)),(2,.obj [.nils,.nils,.nils,SS S0,SS S0]),(6,.obj (eyuccaref9_maker_r.cells s41.1)),(7,SS x5.2),(13,I64 s41.2)]) 6 (fun (x42:yuccaref9_maker)=>[(1,.obj (eSource_0.cells a0)),(2,.obj [.nils,.nils,.nils,SS S0,SS S0]),(6,.obj (eyuccaref9_maker_r.cells x42)),(7,SS x5.2)]) hl (fun s41 o h=>?_) ?_
  ·clear hl
   refine W.sq'<|W.sq' ?_
   refine W.rx [(1,_),(2,_),(6,_),(7,_),(13,_),(152,_)] (Vm q<|Rv (O.fO q (.obj q) fd25_1 q)<|Rv (O.ldO (y:=iR eDecl_0 a0.Decls) q (.ptr q) ct22 q q)<|Rv (O.lenI (.imm q) sl22)<|Rv (O.lss (.lit q) (.lit q))<|Fi (tn6 q q q q q q)) ?_
   refine Px.sq<|W.cnd q (fun hb44=>?_) (fun hb44=>?_)
   ·replace h:=cndT hb44 h
    refine W.sk<|Px.sq ?_
    refine W.sq'<|W.bk ?_
    refine W.sq'<|W.rx [(1,_),(2,_),(6,_),(7,_),(13,_),(14,_)] (Vk q<|Fi (tn6 q q q q q q)) ?_
    refine Px.sq<|W.bk ?_
    obtain ⟨x46,hl,h⟩:=bnd h
    refine W.tr (G1:=[(1,_),(2,_),(6,_),(7,_),(13,_),(14,_)]) (tn6 q q q q q q) ?_
    refine W.lp1 (s:=(s41.1,0)) (fun (s45:yuccaref9_maker × Int)=>[(1,.obj (eSource_0.cells a0)),(2,.obj [.nils,.nils,.nils,SS S0,SS S0]),(6,.obj (eyuccaref9_maker_r.cells s45.1)),(7,SS x5.2),(13,I64 s41.2),(14,I64 s45.2)]) 8 (fun (x46:yuccaref9_maker)=>[(1,.obj (eSource_0.cells a0)),(2,.obj [.nils,.nils,.nils,SS S0,SS S0]),(6,.obj (eyuccaref9_maker_r.cells x46)),(7,SS x5.2),(13,I64 s41.2)]) hl (fun s45 o h=>?_) ?_
    ·clear hl
     refine W.sq'<|W.sq' ?_
     obtain ⟨x48,hx48,h⟩:=bnd h
     refine W.rx [(1,_),(2,_),(6,_),(7,_),(13,_),(14,_),(163,_)] (Vm q<|Rv (O.fO q (.obj q) fd25_1 q)<|Rv (O.ldO (y:=iR eDecl_0 a0.Decls) q (.ptr q) ct22 q q)<|Vm q<|Rv (O.ixI (.imm q) (.lit q) sl22 hx48)<|Rv (O.fI (.iptr q) fd62_2)<|Rv (O.ldI (x:=iR eSym x48.Syms) (.iptr q) ct60 q)<|Rv (O.lenI (.imm q) sl60)<|Rv (O.lss (.lit q) (.lit q))<|Fi (tn7 q q q q q q q)) ?_
     refine Px.sq<|W.cnd q (fun hb49=>?_) (fun hb49=>?_)
     ·replace h:=cndT hb49 h
      refine W.sk<|Px.sq ?_
      refine W.sq' ?_
      obtain ⟨j50,hj,h⟩:=bnd h
      refine W.jn [(1,.obj (eSource_0.cells a0)),(2,.obj [.nils,.nils,.nils,SS S0,SS S0]),(6,.obj (eyuccaref9_maker_r.cells j50)),(7,SS x5.2),(13,I64 s41.2),(14,I64 s45.2)] ?_ ?_
      ·clear h; have h:=hj; clear hj
       refine W.bk<|W.sq' ?_
       obtain ⟨x51,hx51,h⟩:=bnd h
       obtain ⟨x52,hx52,h⟩:=bnd h
       refine W.rx [(1,_),(2,_),(6,_),(7,_),(13,_),(14,_),(15,_)] (Rv (O.fO q (.obj q) fd25_1 q)<|Rv (O.ldO (y:=iR eDecl_0 a0.Decls) q (.ptr q) ct22 q q)<|Vm q<|Rv (O.ixI (.imm q) (.lit q) sl22 hx51)<|Rv (O.fI (.iptr q) fd62_2)<|Rv (O.ldI (x:=iR eSym x51.Syms) (.iptr q) ct60 q)<|Vm q<|Rv (O.ixI (.imm q) (.lit q) sl60 hx52)<|Rv (O.ldIN (cs':=[SS x52.Name,BB x52.Lit,I64 x52.Num,I64 x52.At]) (.iptr q) at54 q q)<|Rv (O.al (cs:=[SS S0,BB false,I64 0,I64 0]) ze54 q q)<|RunL.sO (G2:=[(1,_),(2,_),(6,_),(7,_),(13,_),(14,_),(15,_)]) (cs2:=[SS x52.Name,BB x52.Lit,I64 x52.Num,I64 x52.At]) q (.obj q) (.aggF q q) q sz54 q q q q (.n q q (.n q q (.n q q (.n q q (.n q q (.n q q (.b q .nil)))))))<|Fi (tn7 q q q q q q q)) ?_
       refine Px.sq<|W.sq' ?_
       obtain ⟨c56,hj,h⟩:=bnd h
       refine W.rx [(1,.obj (eSource_0.cells a0)),(2,.obj [.nils,.nils,.nils,SS S0,SS S0]),(6,.obj (eyuccaref9_maker_r.cells s45.1)),(7,SS x5.2),(13,I64 s41.2),(14,I64 s45.2),(15,.obj (eSym.cells x52)),(188,BB c56)] ?_ ?_
       ·refine Rv (O.fO q (.obj q) fd25_1 q)<|Rv (O.ldO (y:=iR eDecl_0 a0.Decls) q (.ptr q) ct22 q q)<|Rv (O.mv (.lit q)) ?_
        obtain ⟨x53,hx53,hj⟩:=bnd hj
        refine Rv (O.ixI (.imm q) (.lit q) sl22 hx53)<|Rv (O.fI (.iptr q) fd62_0)<|Rv (O.ldI (x:=I64 x53.Kind) (.iptr q) ct3 q)<|Rv (O.geq (.lit q) (.k q))<|Rv (O.mv (.lit q)) ?_
        rcases cnd hj with ⟨hb54,hj⟩ | ⟨hb54,hj⟩
        ·refine RunL.v (O.mv (.obj q)) q q (.yb q q hb54)<|RunL.v (O.fO q (.obj q) fd54_0 q) q q (.yb q q hb54)<|RunL.v (O.ldO (y:=SS x52.Name) q (.ptr q) ct9 q q) q q (.yb q q hb54) ?_
         obtain ⟨x55,hx55,hj⟩:=bnd hj
         obtain rfl:=sm hj
         exact RunL.c (PC.vw (ys:=[.ptr ⟨6,[]⟩ 0,SS x52.Name]) q (.c (View.p0 q q) (.s .nil)) (CF.go hx55) call90 q) q q (.yb q q hb54)<|RunL.v (O.lss (.lit q) (.k q)) q q (.yb q q hb54)<|Rv (O.pkT (.lit q) hb54 (.lit q))<|Fi (tn8 q q q q q q q q)
        ·obtain rfl:=sm hj
         exact RunL.ps q q hb54 q q<|RunL.ps q q hb54 q q<|RunL.ps q q hb54 q q<|RunL.ps q q hb54 q q<|RunL.ps q q hb54 q q<|Rv (O.pkF (.lit q) hb54 (.k q))<|Fi (tn8 q q q q q q q q)
       refine Px.sq ?_
       obtain ⟨j57,hj,h⟩:=bnd h
       refine W.jn [(1,.obj (eSource_0.cells a0)),(2,.obj [.nils,.nils,.nils,SS S0,SS S0]),(6,.obj (eyuccaref9_maker_r.cells j57)),(7,SS x5.2),(13,I64 s41.2),(14,I64 s45.2)] ?_ ?_
       ·clear h; have h:=hj; clear hj
        refine W.cnd q (fun hb58=>?_) (fun hb58=>?_)
        ·replace h:=cndT hb58 h
         obtain ⟨x59,hx59,h⟩:=bnd h
         refine W.rx [(1,_),(2,_),(6,_),(7,_),(13,_),(14,_)] (Rv (O.mv (.obj q))<|Rv (O.fO q (.obj q) fd54_3 q)<|Rv (O.ldO (y:=I64 x52.At) q (.ptr q) ct3 q q)<|Rv (O.fO q (.obj q) fd54_0 q)<|Rv (O.ldO (y:=SS x52.Name) q (.ptr q) ct9 q q)<|RunL.ef q (EO.call q q (CallOk.ln (G2:=[(1,.obj (eSource_0.cells a0)),(2,.obj [.nils,.nils,.nils,SS S0,SS S0]),(7,SS x5.2),(13,I64 s41.2),(14,I64 s45.2)]) (A:=[]) (ys:=[.ptr ⟨6,[]⟩ 0,I64 x52.At,SS x52.Name]) (args:=[.obj (eyuccaref9_maker_r.cells s45.1),I64 x52.At,SS x52.Name]) (cs':=[oR eTok x59.f_g.Toks,oR eNon x59.f_g.Nons,oR eProd_0 x59.f_g.Prods,SS x59.f_g.Pro,SS x59.f_g.Tail,oR eB x59.f_given,oR eNon x59.f_types,oR eS x59.f_lefts,I64 x59.f_e,I64 x59.f_at,SS x59.f_name,I64 x59.f_level,I64 x59.f_inner]) (k0:=0) q q q q (.b q (.n q (.n q .nil))) q (CF.go hx59) call88 (tn5 q q q q q) q q (tn5 q q q q q) .nil q))<|Fi (tn6 q q q q q q)) ?_
         obtain rfl:=sm h
         exact Px.jn (tn6 q q q q q q)
        ·replace h:=cndF hb58 h
         refine W.sk ?_
         obtain rfl:=sm h
         exact Px.jn (tn6 q q q q q q)
       refine Px.bk ?_
       obtain rfl:=sm h
       exact Px.jn (tn6 q q q q q q)
      refine Px.sq<|W.rx [(1,_),(2,_),(6,_),(7,_),(13,_),(14,_)] (Vm q<|Rv (O.add (.lit q) (.k q))<|RunL.re (G1:=[(1,_),(2,_),(6,_),(7,_),(13,_),(165,_)]) (tn6 q q q q q q)<|Va q<|Fi (tn6 q q q q q q)) ?_
      obtain rfl:=sm h
      exact Px.go (tn6 q q q q q q)
     ·replace h:=cndF hb49 h
      refine W.xi ?_
      refine Px.sqE ?_
      obtain rfl:=sm h
      exact Px.x1 (tn5 q q q q q)
    refine Px.bkH ?_
    refine Px.bk ?_
    refine Px.sq<|W.rx [(1,_),(2,_),(6,_),(7,_),(13,_)] (Vm q<|Rv (O.add (.lit q) (.k q))<|RunL.re (G1:=[(1,_),(2,_),(6,_),(7,_),(154,_)]) (tn5 q q q q q)<|Va q<|Fi (tn5 q q q q q)) ?_
    obtain rfl:=sm h
    exact Px.go (tn5 q q q q q)
   ·replace h:=cndF hb44 h
    refine W.xi ?_
    refine Px.sqE ?_
    obtain rfl:=sm h
    exact Px.x1 (tn4 q q q q)
  refine Px.bkH ?_
  refine Px.sq<|W.sq' ?_
  refine W.sq'<|W.rx [(1,_),(2,_),(6,_),(7,_),(196,_)] (Vm q<|Rv (O.eqS (.lit q) (.k q))<|Fi (tn5 q q q q q)) ?_
  refine Px.sq ?_
  obtain ⟨j60,hj,h⟩:=bnd h
  refine W.jn [(1,.obj (eSource_0.cells a0)),(2,.obj [.nils,.nils,.nils,SS S0,SS S0]),(6,.obj (eyuccaref9_maker_r.cells x42)),(7,SS j60)] ?_ ?_
  ·clear h; have h:=hj; clear hj
   refine W.cnd q (fun hb61=>?_) (fun hb61=>?_)
   ·replace h:=cndT hb61 h
    obtain ⟨x62,hx62,h⟩:=bnd h
    refine W.rx [(1,_),(2,_),(6,_),(7,_)] (Rv (O.fO q (.obj q) fd25_2 q)<|Rv (O.ldO (y:=iR eRule_0 a0.Rules) q (.ptr q) ct23 q q)<|Rv (O.ixI (.imm q) (.k q) sl23 hx62)<|Rv (O.fI (.iptr q) fd65_0)<|Rv (O.ldI (x:=SS x62.Left) (.iptr q) ct9 q)<|RunL.re (G1:=[(1,_),(2,_),(6,_),(201,_)]) (tn4 q q q q)<|Va q<|Fi (tn4 q q q q)) ?_
    obtain rfl:=sm h
    exact Px.jn (tn4 q q q q)
   ·replace h:=cndF hb61 h
    refine W.sk ?_
    obtain rfl:=sm h
    exact Px.jn (tn4 q q q q)
  refine Px.sq<|W.sq' ?_
  obtain ⟨x63,hx63,h⟩:=bnd h
  refine W.rx [(1,_),(2,_),(6,_)] (Rv (O.mv (.obj q))<|Rv (O.mv (.obj q))<|Vm q<|Rc (PC.vw (ys:=[.ptr ⟨6,[]⟩ 0,SS j60]) q (.c (View.p0 q q) (.s .nil)) (CF.go hx63) call90 q)<|Rv (O.add (.k q) (.lit q))<|RunL.vi (x:=iR eI [w64 (1001+x63)]) (O.bs (ys:=[I64 (w64 (1001+x63))]) eI [w64 (1001+x63)] sl27 q q q q q q zt3 q q) q q .none<|RunL.vi (x:=.agg [I64 0,iR eI [w64 (1001+x63)],I64 (-1),SS S0,iR eI ([]:List Int),I64 0]) (O.bu (cs:=[I64 0,iR eI [w64 (1001+x63)],I64 (-1),SS S0,.nils,I64 0]) sc143 ze143 q q q) q q .none<|Rv (O.bs (ys:=[.agg [I64 0,iR eI [w64 (1001+x63)],I64 (-1),SS S0,iR eI ([]:List Int),I64 0]]) eProd_0 [(⟨0,[w64 (1001+x63)],(-1),S0,([]:List Int),0⟩:Prod)] sl36 q q q q q q zt143 q q)<|Rv (O.nlP (.ptr q))<|Rv (O.fO q (.ptr q) fd175_0 q)<|Rv (O.fO q (.ptr q) fd38_2 q)<|RunL.ef (G2:=[(1,.obj (eSource_0.cells a0)),(2,.obj [.nils,.nils,.nils,SS S0,SS S0]),(6,.obj [oR eTok x42.f_g.Toks,oR eNon x42.f_g.Nons,oR eProd_0 [(⟨0,[w64 (1001+x63)],(-1),S0,([]:List Int),0⟩:Prod)],SS x42.f_g.Pro,SS x42.f_g.Tail,oR eB x42.f_given,oR eNon x42.f_types,oR eS x42.f_lefts,I64 x42.f_e,I64 x42.f_at,SS x42.f_name,I64 x42.f_level,I64 x42.f_inner])]) q (EO.stB (y':=oR eProd_0 [(⟨0,[w64 (1001+x63)],(-1),S0,([]:List Int),0⟩:Prod)]) (cs2:=[oR eTok x42.f_g.Toks,oR eNon x42.f_g.Nons,oR eProd_0 [(⟨0,[w64 (1001+x63)],(-1),S0,([]:List Int),0⟩:Prod)],SS x42.f_g.Pro,SS x42.f_g.Tail,oR eB x42.f_given,oR eNon x42.f_types,oR eS x42.f_lefts,I64 x42.f_e,I64 x42.f_at,SS x42.f_name,I64 x42.f_level,I64 x42.f_inner]) q q (.ptr q) (.own q) (.r q .nil) .refl q sz36 q q q q q (.n q q (.n q q (.b q .nil))))<|Fi (tn3 q q q)) ?_
  refine Px.sq<|W.sq' ?_
  refine W.sq'<|W.rx [(1,_),(2,_),(6,_),(16,_)] (Vk q<|Fi (tn4 q q q q)) ?_
  refine Px.sq<|W.bk ?_
  obtain ⟨x65,hl,h⟩:=bnd h
  refine W.tr (G1:=[(1,_),(2,_),(6,.obj [oR eTok (((⟨(⟨x42.f_g.Toks,x42.f_g.Nons,[(⟨0,[w64 (1001+x63)],(-1),S0,([]:List Int),0⟩:Prod)],x42.f_g.Pro,x42.f_g.Tail⟩:Grammar),x42.f_given,x42.f_types,x42.f_lefts,x42.f_e,x42.f_at,x42.f_name,x42.f_level,x42.f_inner⟩:yuccaref9_maker).f_g).Toks),oR eNon (((⟨(⟨x42.f_g.Toks,x42.f_g.Nons,[(⟨0,[w64 (1001+x63)],(-1),S0,([]:List Int),0⟩:Prod)],x42.f_g.Pro,x42.f_g.Tail⟩:Grammar),x42.f_given,x42.f_types,x42.f_lefts,x42.f_e,x42.f_at,x42.f_name,x42.f_level,x42.f_inner⟩:yuccaref9_maker).f_g).Nons),oR eProd_0 (((⟨(⟨x42.f_g.Toks,x42.f_g.Nons,[(⟨0,[w64 (1001+x63)],(-1),S0,([]:List Int),0⟩:Prod)],x42.f_g.Pro,x42.f_g.Tail⟩:Grammar),x42.f_given,x42.f_types,x42.f_lefts,x42.f_e,x42.f_at,x42.f_name,x42.f_level,x42.f_inner⟩:yuccaref9_maker).f_g).Prods),SS (((⟨(⟨x42.f_g.Toks,x42.f_g.Nons,[(⟨0,[w64 (1001+x63)],(-1),S0,([]:List Int),0⟩:Prod)],x42.f_g.Pro,x42.f_g.Tail⟩:Grammar),x42.f_given,x42.f_types,x42.f_lefts,x42.f_e,x42.f_at,x42.f_name,x42.f_level,x42.f_inner⟩:yuccaref9_maker).f_g).Pro),SS (((⟨(⟨x42.f_g.Toks,x42.f_g.Nons,[(⟨0,[w64 (1001+x63)],(-1),S0,([]:List Int),0⟩:Prod)],x42.f_g.Pro,x42.f_g.Tail⟩:Grammar),x42.f_given,x42.f_types,x42.f_lefts,x42.f_e,x42.f_at,x42.f_name,x42.f_level,x42.f_inner⟩:yuccaref9_maker).f_g).Tail),oR eB ((⟨(⟨x42.f_g.Toks,x42.f_g.Nons,[(⟨0,[w64 (1001+x63)],(-1),S0,([]:List Int),0⟩:Prod)],x42.f_g.Pro,x42.f_g.Tail⟩:Grammar),x42.f_given,x42.f_types,x42.f_lefts,x42.f_e,x42.f_at,x42.f_name,x42.f_level,x42.f_inner⟩:yuccaref9_maker).f_given),oR eNon ((⟨(⟨x42.f_g.Toks,x42.f_g.Nons,[(⟨0,[w64 (1001+x63)],(-1),S0,([]:List Int),0⟩:Prod)],x42.f_g.Pro,x42.f_g.Tail⟩:Grammar),x42.f_given,x42.f_types,x42.f_lefts,x42.f_e,x42.f_at,x42.f_name,x42.f_level,x42.f_inner⟩:yuccaref9_maker).f_types),oR eS ((⟨(⟨x42.f_g.Toks,x42.f_g.Nons,[(⟨0,[w64 (1001+x63)],(-1),S0,([]:List Int),0⟩:Prod)],x42.f_g.Pro,x42.f_g.Tail⟩:Grammar),x42.f_given,x42.f_types,x42.f_lefts,x42.f_e,x42.f_at,x42.f_name,x42.f_level,x42.f_inner⟩:yuccaref9_maker).f_lefts),I64 ((⟨(⟨x42.f_g.Toks,x42.f_g.Nons,[(⟨0,[w64 (1001+x63)],(-1),S0,([]:List Int),0⟩:Prod)],x42.f_g.Pro,x42.f_g.Tail⟩:Grammar),x42.f_given,x42.f_types,x42.f_lefts,x42.f_e,x42.f_at,x42.f_name,x42.f_level,x42.f_inner⟩:yuccaref9_maker).f_e),I64 ((⟨(⟨x42.f_g.Toks,x42.f_g.Nons,[(⟨0,[w64 (1001+x63)],(-1),S0,([]:List Int),0⟩:Prod)],x42.f_g.Pro,x42.f_g.Tail⟩:Grammar),x42.f_given,x42.f_types,x42.f_lefts,x42.f_e,x42.f_at,x42.f_name,x42.f_level,x42.f_inner⟩:yuccaref9_maker).f_at),SS ((⟨(⟨x42.f_g.Toks,x42.f_g.Nons,[(⟨0,[w64 (1001+x63)],(-1),S0,([]:List Int),0⟩:Prod)],x42.f_g.Pro,x42.f_g.Tail⟩:Grammar),x42.f_given,x42.f_types,x42.f_lefts,x42.f_e,x42.f_at,x42.f_name,x42.f_level,x42.f_inner⟩:yuccaref9_maker).f_name),I64 ((⟨(⟨x42.f_g.Toks,x42.f_g.Nons,[(⟨0,[w64 (1001+x63)],(-1),S0,([]:List Int),0⟩:Prod)],x42.f_g.Pro,x42.f_g.Tail⟩:Grammar),x42.f_given,x42.f_types,x42.f_lefts,x42.f_e,x42.f_at,x42.f_name,x42.f_level,x42.f_inner⟩:yuccaref9_maker).f_level),I64 ((⟨(⟨x42.f_g.Toks,x42.f_g.Nons,[(⟨0,[w64 (1001+x63)],(-1),S0,([]:List Int),0⟩:Prod)],x42.f_g.Pro,x42.f_g.Tail⟩:Grammar),x42.f_given,x42.f_types,x42.f_lefts,x42.f_e,x42.f_at,x42.f_name,x42.f_level,x42.f_inner⟩:yuccaref9_maker).f_inner)]),(16,_)]) (tn4 q q q q) ?_
  refine W.lp1 (s:=((⟨(⟨x42.f_g.Toks,x42.f_g.Nons,[(⟨0,[w64 (1001+x63)],(-1),S0,([]:List Int),0⟩:Prod)],x42.f_g.Pro,x42.f_g.Tail⟩:Grammar),x42.f_given,x42.f_types,x42.f_lefts,x42.f_e,x42.f_at,x42.f_name,x42.f_level,x42.f_inner⟩:yuccaref9_maker),0)) (fun (s64:yuccaref9_maker × Int)=>[(1,.obj (eSource_0.cells a0)),(2,.obj [.nils,.nils,.nils,SS S0,SS S0]),(6,.obj (eyuccaref9_maker_r.cells s64.1)),(16,I64 s64.2)]) 10 (fun (x65:yuccaref9_maker)=>[(1,.obj (eSource_0.cells a0)),(2,.obj [.nils,.nils,.nils,SS S0,SS S0]),(6,.obj (eyuccaref9_maker_r.cells x65))]) hl (fun s64 o h=>?_) ?_
  ·clear hl
   refine W.sq'<|W.sq' ?_
   refine W.rx [(1,_),(2,_),(6,_),(16,_),(217,_)] (Vm q<|Rv (O.fO q (.obj q) fd25_2 q)<|Rv (O.ldO (y:=iR eRule_0 a0.Rules) q (.ptr q) ct23 q q)<|Rv (O.lenI (.imm q) sl23)<|Rv (O.lss (.lit q) (.lit q))<|Fi (tn5 q q q q q)) ?_
   refine Px.sq<|W.cnd q (fun hb67=>?_) (fun hb67=>?_)
   ·replace h:=cndT hb67 h
    refine W.sk<|Px.sq ?_
    refine W.sq'<|W.bk ?_
    refine W.sq'<|W.rx [(1,_),(2,_),(6,_),(16,_),(17,_)] (Vk q<|Fi (tn5 q q q q q)) ?_
    refine Px.sq<|W.bk ?_
    obtain ⟨x69,hl,h⟩:=bnd h
    refine W.tr (G1:=[(1,_),(2,_),(6,_),(16,_),(17,_)]) (tn5 q q q q q) ?_
    refine W.lp1 (s:=(s64.1,0)) (fun (s68:yuccaref9_maker × Int)=>[(1,.obj (eSource_0.cells a0)),(2,.obj [.nils,.nils,.nils,SS S0,SS S0]),(6,.obj (eyuccaref9_maker_r.cells s68.1)),(16,I64 s64.2),(17,I64 s68.2)]) 12 (fun (x69:yuccaref9_maker)=>[(1,.obj (eSource_0.cells a0)),(2,.obj [.nils,.nils,.nils,SS S0,SS S0]),(6,.obj (eyuccaref9_maker_r.cells x69)),(16,I64 s64.2)]) hl (fun s68 o h=>?_) ?_
    ·clear hl
     refine W.sq'<|W.sq' ?_
     obtain ⟨x71,hx71,h⟩:=bnd h
     refine W.rx [(1,_),(2,_),(6,_),(16,_),(17,_),(228,_)] (Vm q<|Rv (O.fO q (.obj q) fd25_2 q)<|Rv (O.ldO (y:=iR eRule_0 a0.Rules) q (.ptr q) ct23 q q)<|Vm q<|Rv (O.ixI (.imm q) (.lit q) sl23 hx71)<|Rv (O.fI (.iptr q) fd65_1)<|Rv (O.ldI (x:=iR eAlt_0 x71.Alts) (.iptr q) ct63 q)<|Rv (O.lenI (.imm q) sl63)<|Rv (O.lss (.lit q) (.lit q))<|Fi (tn6 q q q q q q)) ?_
     refine Px.sq<|W.cnd q (fun hb72=>?_) (fun hb72=>?_)
     ·replace h:=cndT hb72 h
      refine W.sk<|Px.sq ?_
      refine W.sq'<|W.bk ?_
      obtain ⟨x73,hx73,h⟩:=bnd h
      obtain ⟨x74,hx74,h⟩:=bnd h
      obtain ⟨x75,hx75,h⟩:=bnd h
      obtain ⟨x76,hx76,h⟩:=bnd h
      refine W.rd [[],[],[1],[],[1,2,3],[1,2,3,4],rn 1 5 [],[],[7],[],[7,8,9],[7,8,9,10],rn 7 5 [],[],rn 7 7 [],rn 7 8 [],rn 0 16 []] [(1,_),(2,_),(6,_),(16,_),(17,_)] mixo (by kernel_rfl) (Dv 0 (O.mv (.obj q))<|Dv 1 (O.fO q (.obj q) fd25_2 q)<|Dv 2 (O.ldO (y:=iR eRule_0 a0.Rules) q (.ptr q) ct23 q q)<|Dv 3 (O.mv (.lit q))<|Dv 4 (O.ixI (.imm q) (.lit q) sl23 hx73)<|Dv 5 (O.fI (.iptr q) fd65_0)<|Dv 6 (O.ldI (x:=SS x73.Left) (.iptr q) ct9 q)<|Dv 7 (O.fO q (.obj q) fd25_2 q)<|Dv 8 (O.ldO (y:=iR eRule_0 a0.Rules) q (.ptr q) ct23 q q)<|Dv 9 (O.mv (.lit q))<|Dv 10 (O.ixI (.imm q) (.lit q) sl23 hx74)<|Dv 11 (O.fI (.iptr q) fd65_1)<|Dv 12 (O.ldI (x:=iR eAlt_0 x74.Alts) (.iptr q) ct63 q)<|Dv 13 (O.mv (.lit q))<|Dv 14 (O.ixI (.imm q) (.lit q) sl63 hx75)<|Dv 15 (O.ldIN (cs':=[iR ePart x75.Parts,SS x75.Prec.Name,BB x75.Prec.Lit,I64 x75.Prec.Num,I64 x75.Prec.At,I64 x75.At]) (.iptr q) at56 q q)<|DL.bp 16 (G2:=[(247,.tup []),(6,.obj [oR eTok x76.f_g.Toks,oR eNon x76.f_g.Nons,oR eProd_0 x76.f_g.Prods,SS x76.f_g.Pro,SS x76.f_g.Tail,oR eB x76.f_given,oR eNon x76.f_types,oR eS x76.f_lefts,I64 x76.f_e,I64 x76.f_at,SS x76.f_name,I64 x76.f_level,I64 x76.f_inner]),(1,.obj (eSource_0.cells a0)),(2,.obj [.nils,.nils,.nils,SS S0,SS S0]),(16,I64 s64.2),(17,I64 s68.2)]) (EO.call q q (CallOk.ln (G2:=[(1,.obj (eSource_0.cells a0)),(2,.obj [.nils,.nils,.nils,SS S0,SS S0]),(16,I64 s64.2),(17,I64 s68.2)]) (A:=[]) (ys:=[.ptr ⟨6,[]⟩ 0,SS x73.Left,.agg (eAlt_0.cells x75)]) (args:=[.obj (eyuccaref9_maker_r.cells s68.1),SS x73.Left,.agg (eAlt_0.cells x75)]) (cs':=[oR eTok x76.f_g.Toks,oR eNon x76.f_g.Nons,oR eProd_0 x76.f_g.Prods,SS x76.f_g.Pro,SS x76.f_g.Tail,oR eB x76.f_given,oR eNon x76.f_types,oR eS x76.f_lefts,I64 x76.f_e,I64 x76.f_at,SS x76.f_name,I64 x76.f_level,I64 x76.f_inner]) (k0:=0) q q q q (.b q (.n q (.n q .nil))) q (CF.go hx76) call91 (tn4 q q q q) q q (tn4 q q q q) .nil q)) q q q q (by kernel_rfl) (by kernel_rfl)<|DL.fin q q q (tn5 q q q q q)) ?_
      refine Px.bk ?_
      refine Px.sq<|W.rx [(1,_),(2,_),(6,_),(16,_),(17,_)] (Vm q<|Rv (O.add (.lit q) (.k q))<|RunL.re (G1:=[(1,_),(2,_),(6,_),(16,_),(230,_)]) (tn5 q q q q q)<|Va q<|Fi (tn5 q q q q q)) ?_
      obtain rfl:=sm h
      exact Px.go (tn5 q q q q q)
     ·replace h:=cndF hb72 h
      refine W.xi ?_
      refine Px.sqE ?_
      obtain rfl:=sm h
      exact Px.x1 (tn4 q q q q)
    refine Px.bkH ?_
    refine Px.bk ?_
    refine Px.sq<|W.rx [(1,_),(2,_),(6,_),(16,_)] (Vm q<|Rv (O.add (.lit q) (.k q))<|RunL.re (G1:=[(1,_),(2,_),(6,_),(219,_)]) (tn4 q q q q)<|Va q<|Fi (tn4 q q q q)) ?_
    obtain rfl:=sm h
    exact Px.go (tn4 q q q q)
   ·replace h:=cndF hb67 h
    refine W.xi ?_
    refine Px.sqE ?_
    obtain rfl:=sm h
    exact Px.x1 (tn3 q q q)
  refine Px.bkH ?_
  refine Px.sq<|W.sq' ?_
  refine W.sq'<|W.rx [(1,_),(2,_),(6,_),(252,_)] (Rv (O.mv (.obj q))<|Rv (O.nlP (.ptr q))<|Rv (O.fO q (.ptr q) fd175_4 q)<|Rv (O.ldO (y:=I64 x65.f_e) q (.ptr q) ct3 q q)<|Rv (O.neq (.lit q) (.k q))<|Fi (tn4 q q q q)) ?_
  refine Px.sq<|W.cnd q (fun hb77=>?_) (fun hb77=>?_)
  ·replace h:=cndT hb77 h
   refine W.sq'<|W.rd [[],[],[1],[1,2],[1,2,3],[],[5],[5,6],[5,6,7],[],[9],[9,10],[9,10,11],[0],rn 0 5 [13],rn 0 9 [13,14],rn 0 16 []] [(2,_),(3,_),(4,_),(5,_)] mixo (by kernel_rfl) (Dv 0 (O.bu (cs:=[.nils,.nils,.nils,SS S0,SS S0]) sc38 ze38 q q q)<|Dv 1 (O.mv (.obj q))<|Dv 2 (O.nlP (.ptr q))<|Dv 3 (O.fO q (.ptr q) fd175_4 q)<|Dv 4 (O.ldO (y:=I64 x65.f_e) q (.ptr q) ct3 q q)<|Dv 5 (O.mv (.obj q))<|Dv 6 (O.nlP (.ptr q))<|Dv 7 (O.fO q (.ptr q) fd175_5 q)<|Dv 8 (O.ldO (y:=I64 x65.f_at) q (.ptr q) ct3 q q)<|Dv 9 (O.mv (.obj q))<|Dv 10 (O.nlP (.ptr q))<|Dv 11 (O.fO q (.ptr q) fd175_6 q)<|Dv 12 (O.ldO (y:=SS x65.f_name) q (.ptr q) ct9 q q)<|DL.bu 13 (G2:=[(2,.obj [.nils,.nils,.nils,SS S0,SS S0]),(6,.obj (eyuccaref9_maker_r.cells x65))]) (U:=[(12,265,some (SS x65.f_name)),(11,264,some (.ptr ⟨6,[]⟩ 10)),(10,263,some (.ptr ⟨6,[]⟩ 0)),(9,262,some (.ptr ⟨6,[]⟩ 0)),(8,261,some (I64 x65.f_at)),(7,260,some (.ptr ⟨6,[]⟩ 9)),(6,259,some (.ptr ⟨6,[]⟩ 0)),(5,258,some (.ptr ⟨6,[]⟩ 0)),(4,257,some (I64 x65.f_e)),(3,256,some (.ptr ⟨6,[]⟩ 8)),(2,255,some (.ptr ⟨6,[]⟩ 0)),(1,254,some (.ptr ⟨6,[]⟩ 0))]) (EffOk.v (EO.eff (EO.sO (G2:=[(2,.obj [.nils,.nils,.nils,SS S0,SS S0]),(6,.obj (eyuccaref9_maker_r.cells x65))]) (cs2:=[.nils,.nils,.nils,SS S0,SS S0]) q q q (.obj q) (.aggF q q) q sz38 q q q q (.b q (.n q q .nil))))) q q (by kernel_rfl) q q q (.c (.inr (.inl ⟨_,q⟩)) q q q q q (Gd.wanted .none) (O.ldO (y:=SS x65.f_name) q (.ptr q) ct9 q q) (.c (.inr (.inr (.inr (.inl ⟨6,_,_,q,q,of_blt q,by simp,_,q,of_blt q⟩)))) q q q q q (Gd.wanted .none) (O.fO q (.ptr q) fd175_6 q) (.c (.inr (.inr (.inr (.inl ⟨6,_,_,q,q,of_blt q,by simp,_,q,of_blt q⟩)))) q q q q q (Gd.wanted .none) (O.nlP (.ptr q)) (.c (.inr (.inr (.inr (.inl ⟨6,_,_,q,q,of_blt q,by simp,_,q,of_blt q⟩)))) q q q q q (Gd.wanted .none) (O.mv (.obj q)) (.c (.inr (.inl ⟨_,q⟩)) q q q q q (Gd.wanted .none) (O.ldO (y:=I64 x65.f_at) q (.ptr q) ct3 q q) (.c (.inr (.inr (.inr (.inl ⟨6,_,_,q,q,of_blt q,by simp,_,q,of_blt q⟩)))) q q q q q (Gd.wanted .none) (O.fO q (.ptr q) fd175_5 q) (.c (.inr (.inr (.inr (.inl ⟨6,_,_,q,q,of_blt q,by simp,_,q,of_blt q⟩)))) q q q q q (Gd.wanted .none) (O.nlP (.ptr q)) (.c (.inr (.inr (.inr (.inl ⟨6,_,_,q,q,of_blt q,by simp,_,q,of_blt q⟩)))) q q q q q (Gd.wanted .none) (O.mv (.obj q)) (.c (.inr (.inl ⟨_,q⟩)) q q q q q (Gd.wanted .none) (O.ldO (y:=I64 x65.f_e) q (.ptr q) ct3 q q) (.c (.inr (.inr (.inr (.inl ⟨6,_,_,q,q,of_blt q,by simp,_,q,of_blt q⟩)))) q q q q q (Gd.wanted .none) (O.fO q (.ptr q) fd175_4 q) (.c (.inr (.inr (.inr (.inl ⟨6,_,_,q,q,of_blt q,by simp,_,q,of_blt q⟩)))) q q q q q (Gd.wanted .none) (O.nlP (.ptr q)) (.c (.inr (.inr (.inr (.inl ⟨6,_,_,q,q,of_blt q,by simp,_,q,of_blt q⟩)))) q q q q q (Gd.wanted .none) (O.mv (.obj q)) .nil)))))))))))) (by kernel_rfl)<|Dv 14 (O.az (.lit q))<|Dv 15 (O.az (.lit q))<|Dv 16 (O.az (.lit q))<|DL.fin q q q (tn4 q q q q)) ?_
   refine Px.sq<|W.fz (G1:=[(2,.obj [iR eTok ([]:List Tok),iR eNon ([]:List Non),iR eProd_0 ([]:List Prod),SS S0,SS S0]),(3,_),(4,_),(5,_)]) [2] (.z q q (FzL.obj (.z (.z (.z (.f (.f .nil)))))) (.n q q (.n q q (.n q q .nil)))) ?_
   refine W.rt ?_
   refine Px.sqR ?_
   obtain rfl:=sm h
   exact Px.fin (Fin.ro (.c (ys0:=[iR eTok ([]:List Tok),iR eNon ([]:List Non),iR eProd_0 ([]:List Prod),SS S0,SS S0]) q at38 q q q (.f q (.f q (.f q (.f q (.f q .nil))))) (.f q q (.f q q (.f q q .nil)))) q (ode (by kernel_rfl)) (.no .nil) q (.inr q))
  ·replace h:=cndF hb77 h
   refine W.sk<|Px.sq ?_
   refine W.sq'<|W.rx [(1,_),(2,_),(6,_)] (Rv (O.mv (.obj q))<|Rv (O.bu (cs:=[SS ({ data:=#[36,97,99,99,101,112,116] }),SS S0]) sc116 ze116 q q q)<|Rv (O.bs (ys:=[.agg [SS ({ data:=#[36,97,99,99,101,112,116] }),SS S0]]) eNon [(⟨{ data:=#[36,97,99,99,101,112,116] },S0⟩:Non)] sl35 q q q q q q zt116 q q)<|Rv (O.nlP (.ptr q))<|Rv (O.fO q (.ptr q) fd175_0 q)<|Rv (O.fO q (.ptr q) fd38_1 q)<|RunL.ef (G2:=[(1,.obj (eSource_0.cells a0)),(2,.obj [.nils,.nils,.nils,SS S0,SS S0]),(6,.obj [oR eTok x65.f_g.Toks,oR eNon [(⟨{ data:=#[36,97,99,99,101,112,116] },S0⟩:Non)],oR eProd_0 x65.f_g.Prods,SS x65.f_g.Pro,SS x65.f_g.Tail,oR eB x65.f_given,oR eNon x65.f_types,oR eS x65.f_lefts,I64 x65.f_e,I64 x65.f_at,SS x65.f_name,I64 x65.f_level,I64 x65.f_inner])]) q (EO.stB (y':=oR eNon [(⟨{ data:=#[36,97,99,99,101,112,116] },S0⟩:Non)]) (cs2:=[oR eTok x65.f_g.Toks,oR eNon [(⟨{ data:=#[36,97,99,99,101,112,116] },S0⟩:Non)],oR eProd_0 x65.f_g.Prods,SS x65.f_g.Pro,SS x65.f_g.Tail,oR eB x65.f_given,oR eNon x65.f_types,oR eS x65.f_lefts,I64 x65.f_e,I64 x65.f_at,SS x65.f_name,I64 x65.f_level,I64 x65.f_inner]) q q (.ptr q) (.own q) (.r q .nil) .refl q sz35 q q q q q (.n q q (.n q q (.b q .nil))))<|Fi (tn3 q q q)) ?_
   refine Px.sq<|W.sq' ?_
   refine W.sq'<|W.rx [(1,_),(2,_),(6,_),(18,_)] (Vk q<|Fi (tn4 q q q q)) ?_
   refine Px.sq<|W.bk ?_
   obtain ⟨x79,hl,h⟩:=bnd h
   refine W.tr (G1:=[(1,_),(2,_),(6,_),(18,_)]) (tn4 q q q q) ?_
   refine W.lp1 (s:=([(⟨{ data:=#[36,97,99,99,101,112,116] },S0⟩:Non)],0)) (fun (s78:List Non × Int)=>[(1,.obj (eSource_0.cells a0)),(2,.obj [.nils,.nils,.nils,SS S0,SS S0]),(6,.obj [oR eTok x65.f_g.Toks,oR eNon s78.1,oR eProd_0 x65.f_g.Prods,SS x65.f_g.Pro,SS x65.f_g.Tail,oR eB x65.f_given,oR eNon x65.f_types,oR eS x65.f_lefts,I64 x65.f_e,I64 x65.f_at,SS x65.f_name,I64 x65.f_level,I64 x65.f_inner]),(18,I64 s78.2)]) 14 (fun (x79:List Non)=>[(1,.obj (eSource_0.cells a0)),(2,.obj [.nils,.nils,.nils,SS S0,SS S0]),(6,.obj [oR eTok x65.f_g.Toks,oR eNon x79,oR eProd_0 x65.f_g.Prods,SS x65.f_g.Pro,SS x65.f_g.Tail,oR eB x65.f_given,oR eNon x65.f_types,oR eS x65.f_lefts,I64 x65.f_e,I64 x65.f_at,SS x65.f_name,I64 x65.f_level,I64 x65.f_inner])]) hl (fun s78 o h=>?_) ?_
   ·clear hl
    refine W.sq'<|W.sq' ?_
    refine W.rx [(1,_),(2,_),(6,_),(18,_),(278,_)] (Vm q<|Rv (O.mv (.obj q))<|Rv (O.nlP (.ptr q))<|Rv (O.fO q (.ptr q) fd175_3 q)<|Rv (O.ldO (y:=.brw eS.z ⟨6,[7]⟩ x65.f_lefts.length) q (.ptr q) ct104 q q)<|Rv (O.lenO (.brw q) sl104)<|Rv (O.lss (.lit q) (.lit q))<|Fi (tn5 q q q q q)) ?_
    refine Px.sq<|W.cnd q (fun hb81=>?_) (fun hb81=>?_)
    ·replace h:=cndT hb81 h
     refine W.sk<|Px.sq ?_
     refine W.sq'<|W.bk ?_
     refine W.sq' ?_
     obtain ⟨x82,hx82,h⟩:=bnd h
     refine W.rx [(1,_),(2,_),(6,_),(18,_),(19,_)] (Rv (O.mv (.obj q))<|Rv (O.nlP (.ptr q))<|Rv (O.fO q (.ptr q) fd175_3 q)<|Rv (O.ldO (y:=.brw eS.z ⟨6,[7]⟩ x65.f_lefts.length) q (.ptr q) ct104 q q)<|Vm q<|Rv (O.ixO (en:=eS) q (.brw q) (.lit q) sl104 hx82 q)<|Rv (O.ldE (en:=eS) (x':=SS x82) q (.ptr q) ct9 hx82 q q)<|Rv (O.bu (cs:=[SS x82,SS S0]) sc116 ze116 q q q)<|Rv (O.al (cs:=[SS S0,SS S0]) ze116 q q)<|RunL.sO (G2:=[(1,_),(2,_),(6,_),(18,_),(19,_)]) (cs2:=[SS x82,SS S0]) q (.obj q) (.aggF q q) q sz116 q q q q (.n q q (.n q q (.n q q (.n q q (.b q .nil)))))<|Fi (tn5 q q q q q)) ?_
     refine Px.sq<|W.sq' ?_
     refine W.sq' ?_
     obtain ⟨x83,hx83,h⟩:=bnd h
     refine W.rx [(1,_),(2,_),(6,_),(18,_),(19,_),(20,_)] (Rv (O.mv (.obj q))<|Rv (O.fO q (.obj q) fd116_0 q)<|Rv (O.ldO (y:=SS x82) q (.ptr q) ct9 q q)<|Rc (PC.vw (ys:=[.ptr ⟨6,[]⟩ 0,SS x82]) q (.c (View.p0 q q) (.s .nil)) (CF.go hx83) call92 q)<|Va q<|Fi (tn6 q q q q q q)) ?_
     refine Px.sq<|W.sq' ?_
     refine W.rx [(1,_),(2,_),(6,_),(18,_),(19,_),(20,_),(294,_)] (Vm q<|Rv (O.geq (.lit q) (.k q))<|Fi (tn7 q q q q q q q)) ?_
     refine Px.sq ?_
     obtain ⟨j84,hj,h⟩:=bnd h
     refine W.jn [(1,.obj (eSource_0.cells a0)),(2,.obj [.nils,.nils,.nils,SS S0,SS S0]),(6,.obj [oR eTok x65.f_g.Toks,oR eNon s78.1,oR eProd_0 x65.f_g.Prods,SS x65.f_g.Pro,SS x65.f_g.Tail,oR eB x65.f_given,oR eNon x65.f_types,oR eS x65.f_lefts,I64 x65.f_e,I64 x65.f_at,SS x65.f_name,I64 x65.f_level,I64 x65.f_inner]),(18,I64 s78.2),(19,.obj [SS x82,SS j84])] ?_ ?_
     ·clear h; have h:=hj; clear hj
      refine W.cnd q (fun hb85=>?_) (fun hb85=>?_)
      ·replace h:=cndT hb85 h
       obtain ⟨x86,hx86,h⟩:=bnd h
       refine W.rx [(1,_),(2,_),(6,_),(18,_),(19,_)] (Rv (O.mv (.obj q))<|Rv (O.nlP (.ptr q))<|Rv (O.fO q (.ptr q) fd175_2 q)<|Rv (O.ldO (y:=.brw eNon.z ⟨6,[6]⟩ x65.f_types.length) q (.ptr q) ct35 q q)<|Vm q<|Rv (O.ixO (en:=eNon) q (.brw q) (.lit q) sl35 hx86 q)<|Rv (O.fE (en:=eNon) q (.ptr q) fd116_1 hx86 q q)<|Rv (O.ldE (en:=eNon) (x':=SS x86.Tag) q (.ptr q) ct9 hx86 q q)<|Rv (O.fO q (.obj q) fd116_1 q)<|RunL.sO (G2:=[(1,_),(2,_),(6,_),(18,_),(19,_)]) (cs2:=[SS x82,SS x86.Tag]) q (.ptr q) (.lit q) q sz9 q q q q (.n q q (.n q q (.n q q (.n q q (.b q .nil)))))<|Fi (tn5 q q q q q)) ?_
       obtain rfl:=sm h
       exact Px.jn (tn5 q q q q q)
      ·replace h:=cndF hb85 h
       refine W.sk ?_
       obtain rfl:=sm h
       exact Px.jn (tn5 q q q q q)
     refine Px.sq ?_
     obtain ⟨x87,hx87,h⟩:=bnd h
     refine W.rd [[],[],[1],[1,2],[1,2,3],[1,2,3,4],[],[6],rn 1 7 [],rn 0 9 [],rn 0 10 [],rn 0 11 [],rn 0 12 []] [(1,_),(2,_),(6,_),(18,_)] mixo (by kernel_rfl) (Dv 0 (O.mv (.obj q))<|Dv 1 (O.mv (.obj q))<|Dv 2 (O.nlP (.ptr q))<|Dv 3 (O.fO q (.ptr q) fd175_0 q)<|Dv 4 (O.fO q (.ptr q) fd38_1 q)<|Dv 5 (O.ldO (y:=.brw eNon.z ⟨6,[1]⟩ s78.1.length) q (.ptr q) ct35 q q)<|Dv 6 (O.ldON (cs':=[SS x82,SS j84]) q (.obj q) at116 q q)<|DL.vi 7 (x:=iR eNon [(⟨x82,j84⟩:Non)]) (O.bs (ys:=[.agg [SS x82,SS j84]]) eNon [(⟨x82,j84⟩:Non)] sl35 q q q q q q zt116 q q) q q q q .none<|Dv 8 (O.ap (en:=eNon) (r:=x87) (.brw q) q (.imm q) .i ap35 q hx87)<|Dv 9 (O.nlP (.ptr q))<|Dv 10 (O.fO q (.ptr q) fd175_0 q)<|Dv 11 (O.fO q (.ptr q) fd38_1 q)<|DL.bp 12 (G2:=[(1,.obj (eSource_0.cells a0)),(2,.obj [.nils,.nils,.nils,SS S0,SS S0]),(6,.obj [oR eTok x65.f_g.Toks,oR eNon (s78.1++[(⟨x82,j84⟩:Non)]),oR eProd_0 x65.f_g.Prods,SS x65.f_g.Pro,SS x65.f_g.Tail,oR eB x65.f_given,oR eNon x65.f_types,oR eS x65.f_lefts,I64 x65.f_e,I64 x65.f_at,SS x65.f_name,I64 x65.f_level,I64 x65.f_inner]),(18,I64 s78.2)]) (EO.stP (g1:=_) (en:=eNon) (M:=[(⟨x82,j84⟩:Non)]) (cs2:=[oR eTok x65.f_g.Toks,oR eNon (s78.1++[(⟨x82,j84⟩:Non)]),oR eProd_0 x65.f_g.Prods,SS x65.f_g.Pro,SS x65.f_g.Tail,oR eB x65.f_given,oR eNon x65.f_types,oR eS x65.f_lefts,I64 x65.f_e,I64 x65.f_at,SS x65.f_name,I64 x65.f_level,I64 x65.f_inner]) q q (.ptr q) (.pend q) q q q .ns .rf q q sz35 q q q q (.n q q (.n q q (.b q (.n q q .nil))))) q q q q (by kernel_rfl) (by kernel_rfl)<|DL.fin q q q (tn4 q q q q)) ?_
     refine Px.bk ?_
     refine Px.sq<|W.rx [(1,_),(2,_),(6,_),(18,_)] (Vm q<|Rv (O.add (.lit q) (.k q))<|RunL.re (G1:=[(1,_),(2,_),(6,_),(280,_)]) (tn4 q q q q)<|Va q<|Fi (tn4 q q q q)) ?_
     obtain rfl:=sm h
     exact Px.go (tn4 q q q q)
    ·replace h:=cndF hb81 h
     refine W.xi ?_
     refine Px.sqE ?_
     obtain rfl:=sm h
     exact Px.x1 (tn3 q q q)
   refine Px.bkH ?_
   refine Px.sq<|W.sq' ?_
   refine W.sq'<|W.rx [(1,_),(2,_),(6,_),(21,_)] (Vk q<|Fi (tn4 q q q q)) ?_
   refine Px.sq<|W.bk ?_
   obtain ⟨x89,hl,h⟩:=bnd h
   refine W.tr (G1:=[(1,_),(2,_),(6,_),(21,_)]) (tn4 q q q q) ?_
   refine W.lp1 (s:=(x79,1)) (fun (s88:List Non × Int)=>[(1,.obj (eSource_0.cells a0)),(2,.obj [.nils,.nils,.nils,SS S0,SS S0]),(6,.obj [oR eTok x65.f_g.Toks,oR eNon s88.1,oR eProd_0 x65.f_g.Prods,SS x65.f_g.Pro,SS x65.f_g.Tail,oR eB x65.f_given,oR eNon x65.f_types,oR eS x65.f_lefts,I64 x65.f_e,I64 x65.f_at,SS x65.f_name,I64 x65.f_level,I64 x65.f_inner]),(21,I64 s88.2)]) 16 (fun (x89:List Non)=>[(1,.obj (eSource_0.cells a0)),(2,.obj [.nils,.nils,.nils,SS S0,SS S0]),(6,.obj [oR eTok x65.f_g.Toks,oR eNon x89,oR eProd_0 x65.f_g.Prods,SS x65.f_g.Pro,SS x65.f_g.Tail,oR eB x65.f_given,oR eNon x65.f_types,oR eS x65.f_lefts,I64 x65.f_e,I64 x65.f_at,SS x65.f_name,I64 x65.f_level,I64 x65.f_inner])]) hl (fun s88 o h=>?_) ?_
   ·clear hl
    refine W.sq'<|W.sq' ?_
    refine W.rx [(1,_),(2,_),(6,_),(21,_),(321,_)] (Vm q<|Rv (O.mv (.obj q))<|Rv (O.nlP (.ptr q))<|Rv (O.fO q (.ptr q) fd175_8 q)<|Rv (O.ldO (y:=I64 x65.f_inner) q (.ptr q) ct3 q q)<|Rv (O.leq (.lit q) (.lit q))<|Fi (tn5 q q q q q)) ?_
    refine Px.sq<|W.cnd q (fun hb91=>?_) (fun hb91=>?_)
    ·replace h:=cndT hb91 h
     refine W.sk<|Px.sq ?_
     refine W.sq'<|W.bk ?_
     obtain ⟨x92,hx92,h⟩:=bnd h
     obtain ⟨x93,hx93,h⟩:=bnd h
     obtain ⟨x94,hx94,h⟩:=bnd h
     refine W.rd [[],[],[1],[1,2],[1,2,3],[1,2,3,4],[],[6],[6,7],[6,7,8],[6,7,8,9],rn 1 10 [],rn 0 12 [],rn 0 13 [],rn 0 14 [],rn 0 15 []] [(1,_),(2,_),(6,_),(21,_)] mixo (by kernel_rfl) (Dv 0 (O.mv (.obj q))<|Dv 1 (O.mv (.obj q))<|Dv 2 (O.nlP (.ptr q))<|Dv 3 (O.fO q (.ptr q) fd175_0 q)<|Dv 4 (O.fO q (.ptr q) fd38_1 q)<|Dv 5 (O.ldO (y:=.brw eNon.z ⟨6,[1]⟩ s88.1.length) q (.ptr q) ct35 q q)<|Dv 6 (O.mv (.lit q))<|Dc 7 (PC.go (.cc (.lit q) .nil) (CF.go hx92) call13 q)<|Dv 8 (O.cat (.k q) (.lit q) hx93)<|Dv 9 (O.bu (cs:=[SS x93,SS S0]) sc116 ze116 q q q)<|DL.vi 10 (x:=iR eNon [(⟨x93,S0⟩:Non)]) (O.bs (ys:=[.agg [SS x93,SS S0]]) eNon [(⟨x93,S0⟩:Non)] sl35 q q q q q q zt116 q q) q q q q .none<|Dv 11 (O.ap (en:=eNon) (r:=x94) (.brw q) q (.imm q) .i ap35 q hx94)<|Dv 12 (O.nlP (.ptr q))<|Dv 13 (O.fO q (.ptr q) fd175_0 q)<|Dv 14 (O.fO q (.ptr q) fd38_1 q)<|DL.bp 15 (G2:=[(1,.obj (eSource_0.cells a0)),(2,.obj [.nils,.nils,.nils,SS S0,SS S0]),(6,.obj [oR eTok x65.f_g.Toks,oR eNon (s88.1++[(⟨x93,S0⟩:Non)]),oR eProd_0 x65.f_g.Prods,SS x65.f_g.Pro,SS x65.f_g.Tail,oR eB x65.f_given,oR eNon x65.f_types,oR eS x65.f_lefts,I64 x65.f_e,I64 x65.f_at,SS x65.f_name,I64 x65.f_level,I64 x65.f_inner]),(21,I64 s88.2)]) (EO.stP (g1:=_) (en:=eNon) (M:=[(⟨x93,S0⟩:Non)]) (cs2:=[oR eTok x65.f_g.Toks,oR eNon (s88.1++[(⟨x93,S0⟩:Non)]),oR eProd_0 x65.f_g.Prods,SS x65.f_g.Pro,SS x65.f_g.Tail,oR eB x65.f_given,oR eNon x65.f_types,oR eS x65.f_lefts,I64 x65.f_e,I64 x65.f_at,SS x65.f_name,I64 x65.f_level,I64 x65.f_inner]) q q (.ptr q) (.pend q) q q q .ns .rf q q sz35 q q q q (.n q q (.n q q (.b q (.n q q .nil))))) q q q q (by kernel_rfl) (by kernel_rfl)<|DL.fin q q q (tn4 q q q q)) ?_
     refine Px.bk ?_
     refine Px.sq<|W.rx [(1,_),(2,_),(6,_),(21,_)] (Vm q<|Rv (O.add (.lit q) (.k q))<|RunL.re (G1:=[(1,_),(2,_),(6,_),(323,_)]) (tn4 q q q q)<|Va q<|Fi (tn4 q q q q)) ?_
     obtain rfl:=sm h
     exact Px.go (tn4 q q q q)
    ·replace h:=cndF hb91 h
     refine W.xi ?_
     refine Px.sqE ?_
     obtain rfl:=sm h
     exact Px.x1 (tn3 q q q)
   refine Px.bkH ?_
   refine Px.sq<|W.sq' ?_
   refine W.rx [(1,_),(2,_),(6,_),(22,_)] (Vk q<|Fi (tn4 q q q q)) ?_
   refine Px.sq<|W.sq' ?_
   refine W.sq'<|W.rx [(1,_),(2,_),(6,_),(22,_),(23,_)] (Vk q<|Fi (tn5 q q q q q)) ?_
   refine Px.sq<|W.bk ?_
   obtain ⟨x96,hl,h⟩:=bnd h
   refine W.tr (G1:=[(1,_),(2,_),(6,_),(22,_),(23,_)]) (tn5 q q q q q) ?_
   refine W.lp1 (s:=(x65.f_g.Toks,57346,3)) (fun (s95:List Tok × Int × Int)=>[(1,.obj (eSource_0.cells a0)),(2,.obj [.nils,.nils,.nils,SS S0,SS S0]),(6,.obj [oR eTok s95.1,oR eNon x89,oR eProd_0 x65.f_g.Prods,SS x65.f_g.Pro,SS x65.f_g.Tail,oR eB x65.f_given,oR eNon x65.f_types,oR eS x65.f_lefts,I64 x65.f_e,I64 x65.f_at,SS x65.f_name,I64 x65.f_level,I64 x65.f_inner]),(22,I64 s95.2.1),(23,I64 s95.2.2)]) 18 (fun (x96:List Tok)=>[(1,.obj (eSource_0.cells a0)),(2,.obj [.nils,.nils,.nils,SS S0,SS S0]),(6,.obj [oR eTok x96,oR eNon x89,oR eProd_0 x65.f_g.Prods,SS x65.f_g.Pro,SS x65.f_g.Tail,oR eB x65.f_given,oR eNon x65.f_types,oR eS x65.f_lefts,I64 x65.f_e,I64 x65.f_at,SS x65.f_name,I64 x65.f_level,I64 x65.f_inner])]) hl (fun s95 o h=>?_) ?_
   ·clear hl
    refine W.sq'<|W.sq' ?_
    refine W.rx [(1,_),(2,_),(6,_),(22,_),(23,_),(346,_)] (Vm q<|Rv (O.mv (.obj q))<|Rv (O.nlP (.ptr q))<|Rv (O.fO q (.ptr q) fd175_0 q)<|Rv (O.fO q (.ptr q) fd38_0 q)<|Rv (O.ldO (y:=.brw eTok.z ⟨6,[0]⟩ s95.1.length) q (.ptr q) ct34 q q)<|Rv (O.lenO (.brw q) sl34)<|Rv (O.lss (.lit q) (.lit q))<|Fi (tn6 q q q q q q)) ?_
    refine Px.sq<|W.cnd q (fun hb98=>?_) (fun hb98=>?_)
    ·replace h:=cndT hb98 h
     refine W.sk<|Px.sq ?_
     refine W.sq' ?_
     obtain ⟨j99,hj,h⟩:=bnd h
     refine W.jn [(1,.obj (eSource_0.cells a0)),(2,.obj [.nils,.nils,.nils,SS S0,SS S0]),(6,.obj [oR eTok j99.1,oR eNon x89,oR eProd_0 x65.f_g.Prods,SS x65.f_g.Pro,SS x65.f_g.Tail,oR eB x65.f_given,oR eNon x65.f_types,oR eS x65.f_lefts,I64 x65.f_e,I64 x65.f_at,SS x65.f_name,I64 x65.f_level,I64 x65.f_inner]),(22,I64 j99.2),(23,I64 s95.2.2)] ?_ ?_
     ·clear h; have h:=hj; clear hj
      refine W.bk<|W.sq' ?_
      obtain ⟨x100,hx100,h⟩:=bnd h
      refine W.rx [(1,_),(2,_),(6,_),(22,_),(23,_),(356,_)] (Rv (O.mv (.obj q))<|Rv (O.nlP (.ptr q))<|Rv (O.fO q (.ptr q) fd175_1 q)<|Rv (O.ldO (y:=.brw eB.z ⟨6,[5]⟩ x65.f_given.length) q (.ptr q) ct71 q q)<|Vm q<|Rv (O.ixO (en:=eB) q (.brw q) (.lit q) sl71 hx100 q)<|Rv (O.ldE (en:=eB) (x':=BB x100) q (.ptr q) ct4 hx100 q q)<|Rv (O.not (.lit q))<|Fi (tn6 q q q q q q)) ?_
      refine Px.sq ?_
      obtain ⟨j101,hj,h⟩:=bnd h
      refine W.jn [(1,.obj (eSource_0.cells a0)),(2,.obj [.nils,.nils,.nils,SS S0,SS S0]),(6,.obj [oR eTok j101.1,oR eNon x89,oR eProd_0 x65.f_g.Prods,SS x65.f_g.Pro,SS x65.f_g.Tail,oR eB x65.f_given,oR eNon x65.f_types,oR eS x65.f_lefts,I64 x65.f_e,I64 x65.f_at,SS x65.f_name,I64 x65.f_level,I64 x65.f_inner]),(22,I64 j101.2),(23,I64 s95.2.2)] ?_ ?_
      ·clear h; have h:=hj; clear hj
       refine W.cnd q (fun hb102=>?_) (fun hb102=>?_)
       ·replace h:=cndT hb102 h
        refine W.sq' ?_
        obtain ⟨x103,hx103,h⟩:=bnd h
        refine W.rx [(1,_),(2,_),(6,_),(22,_),(23,_)] (Rv (O.mv (.obj q))<|Rv (O.nlP (.ptr q))<|Rv (O.fO q (.ptr q) fd175_0 q)<|Rv (O.fO q (.ptr q) fd38_0 q)<|Rv (O.ldO (y:=.brw eTok.z ⟨6,[0]⟩ s95.1.length) q (.ptr q) ct34 q q)<|Vm q<|Vm q<|Rv (O.ixO (en:=eTok) q (.brw q) (.lit q) sl34 hx103 q)<|Rv (O.fE (en:=eTok) q (.ptr q) fd148_2 hx103 q q)<|RunL.ef (G2:=[(1,.obj (eSource_0.cells a0)),(2,.obj [.nils,.nils,.nils,SS S0,SS S0]),(6,.obj [oR eTok (s95.1.set s95.2.2.toNat (⟨x103.Name,x103.Lit,s95.2.1,x103.Level,x103.Assoc,x103.Tag⟩:Tok)),oR eNon x89,oR eProd_0 x65.f_g.Prods,SS x65.f_g.Pro,SS x65.f_g.Tail,oR eB x65.f_given,oR eNon x65.f_types,oR eS x65.f_lefts,I64 x65.f_e,I64 x65.f_at,SS x65.f_name,I64 x65.f_level,I64 x65.f_inner]),(22,I64 s95.2.1),(23,I64 s95.2.2)]) q (EO.stE (en:=eTok) (y2:=(⟨x103.Name,x103.Lit,s95.2.1,x103.Level,x103.Assoc,x103.Tag⟩:Tok)) (cs':=[I64 s95.2.1]) (x2:=.obj [oR eTok (s95.1.set s95.2.2.toNat (⟨x103.Name,x103.Lit,s95.2.1,x103.Level,x103.Assoc,x103.Tag⟩:Tok)),oR eNon x89,oR eProd_0 x65.f_g.Prods,SS x65.f_g.Pro,SS x65.f_g.Tail,oR eB x65.f_given,oR eNon x65.f_types,oR eS x65.f_lefts,I64 x65.f_e,I64 x65.f_at,SS x65.f_name,I64 x65.f_level,I64 x65.f_inner]) q q (.ptr q) (.lit q) q hx103 sz3 q q q q q q q (.n q q (.n q q (.b q (.n q q (.n q q .nil))))))<|Fi (tn5 q q q q q)) ?_
        refine Px.sq<|W.rx [(1,_),(2,_),(6,_),(22,_),(23,_)] (Vm q<|Rv (O.add (.lit q) (.k q))<|RunL.re (G1:=[(1,_),(2,_),(6,_),(23,_),(367,_)]) (tn5 q q q q q)<|Va q<|Fi (tn5 q q q q q)) ?_
        obtain rfl:=sm h
        exact Px.jn (tn5 q q q q q)
       ·replace h:=cndF hb102 h
        refine W.sk ?_
        obtain rfl:=sm h
        exact Px.jn (tn5 q q q q q)
      refine Px.bk ?_
      obtain rfl:=sm h
      exact Px.jn (tn5 q q q q q)
     refine Px.sq<|W.rx [(1,_),(2,_),(6,_),(22,_),(23,_)] (Vm q<|Rv (O.add (.lit q) (.k q))<|RunL.re (G1:=[(1,_),(2,_),(6,_),(22,_),(348,_)]) (tn5 q q q q q)<|Va q<|Fi (tn5 q q q q q)) ?_
     obtain rfl:=sm h
     exact Px.go (tn5 q q q q q)
    ·replace h:=cndF hb98 h
     refine W.xi ?_
     refine Px.sqE ?_
     obtain rfl:=sm h
     exact Px.x1 (tn3 q q q)
   refine Px.bkH ?_
   refine Px.sq<|W.sq' ?_
   obtain ⟨c106,hj,h⟩:=bnd h
   refine W.rx [(1,.obj (eSource_0.cells a0)),(2,.obj [.nils,.nils,.nils,SS S0,SS S0]),(6,.obj [oR eTok x96,oR eNon x89,oR eProd_0 x65.f_g.Prods,SS x65.f_g.Pro,SS x65.f_g.Tail,oR eB x65.f_given,oR eNon x65.f_types,oR eS x65.f_lefts,I64 x65.f_e,I64 x65.f_at,SS x65.f_name,I64 x65.f_level,I64 x65.f_inner]),(24,BB c106)] ?_ ?_
   ·refine Rv (O.mv (.obj q))<|Rv (O.nlP (.ptr q))<|Rv (O.fO q (.ptr q) fd175_0 q)<|Rv (O.fO q (.ptr q) fd38_0 q)<|Rv (O.ldO (y:=.brw eTok.z ⟨6,[0]⟩ x96.length) q (.ptr q) ct34 q q)<|Rv (O.lenO (.brw q) sl34)<|Rv (O.gtr (.lit q) (.k q))<|Rv (O.mv (.lit q)) ?_
    rcases cnd hj with ⟨hb104,hj⟩ | ⟨hb104,hj⟩
    ·obtain rfl:=sm hj
     exact RunL.ps q q hb104 q q<|RunL.ps q q hb104 q q<|RunL.ps q q hb104 q q<|RunL.ps q q hb104 q q<|RunL.ps q q hb104 q q<|RunL.ps q q hb104 q q<|RunL.ps q q hb104 q q<|Rv (O.pkT (.lit q) hb104 (.k q))<|Vm q<|RunL.ps q q q q q<|RunL.ps q q q q q<|RunL.ps q q q q q<|RunL.ps q q q q q<|RunL.ps q q q q q<|RunL.ps q q q q q<|RunL.ps q q q q q<|Rv (O.pkT (.lit q) q (.k q))<|Va q<|Fi (tn4 q q q q)
    ·refine RunL.v (O.mv (.obj q)) q q (.yb q q hb104)<|RunL.v (O.nlP (.ptr q)) q q (.yb q q hb104)<|RunL.v (O.fO q (.ptr q) fd175_0 q) q q (.yb q q hb104)<|RunL.v (O.fO q (.ptr q) fd38_1 q) q q (.yb q q hb104)<|RunL.v (O.ldO (y:=.brw eNon.z ⟨6,[1]⟩ x89.length) q (.ptr q) ct35 q q) q q (.yb q q hb104)<|RunL.v (O.lenO (.brw q) sl35) q q (.yb q q hb104)<|RunL.v (O.gtr (.lit q) (.k q)) q q (.yb q q hb104)<|Rv (O.pkF (.lit q) hb104 (.lit q))<|Rv (O.mv (.lit q)) ?_
     rcases cnd hj with ⟨hb105,hj⟩ | ⟨hb105,hj⟩
     ·obtain rfl:=sm hj
      exact RunL.ps q q hb105 q q<|RunL.ps q q hb105 q q<|RunL.ps q q hb105 q q<|RunL.ps q q hb105 q q<|RunL.ps q q hb105 q q<|RunL.ps q q hb105 q q<|RunL.ps q q hb105 q q<|Rv (O.pkT (.lit q) hb105 (.k q))<|Va q<|Fi (tn4 q q q q)
     ·obtain rfl:=sm hj
      exact RunL.v (O.mv (.obj q)) q q (.yb q q hb105)<|RunL.v (O.nlP (.ptr q)) q q (.yb q q hb105)<|RunL.v (O.fO q (.ptr q) fd175_0 q) q q (.yb q q hb105)<|RunL.v (O.fO q (.ptr q) fd38_2 q) q q (.yb q q hb105)<|RunL.v (O.ldO (y:=.brw eProd_0.z ⟨6,[2]⟩ x65.f_g.Prods.length) q (.ptr q) ct36 q q) q q (.yb q q hb105)<|RunL.v (O.lenO (.brw q) sl36) q q (.yb q q hb105)<|RunL.v (O.gtr (.lit q) (.k q)) q q (.yb q q hb105)<|Rv (O.pkF (.lit q) hb105 (.lit q))<|Va q<|Fi (tn4 q q q q)
   refine Px.sq<|W.sq' ?_
   refine W.sq'<|W.rx [(1,_),(2,_),(6,_),(24,_),(25,_)] (Vk q<|Fi (tn5 q q q q q)) ?_
   refine Px.sq<|W.bk ?_
   obtain ⟨x108,hl,h⟩:=bnd h
   refine W.tr (G1:=[(1,_),(2,_),(6,_),(24,_),(25,_)]) (tn5 q q q q q) ?_
   refine W.lp1 (s:=(c106,0)) (fun (s107:Bool × Int)=>[(1,.obj (eSource_0.cells a0)),(2,.obj [.nils,.nils,.nils,SS S0,SS S0]),(6,.obj [oR eTok x96,oR eNon x89,oR eProd_0 x65.f_g.Prods,SS x65.f_g.Pro,SS x65.f_g.Tail,oR eB x65.f_given,oR eNon x65.f_types,oR eS x65.f_lefts,I64 x65.f_e,I64 x65.f_at,SS x65.f_name,I64 x65.f_level,I64 x65.f_inner]),(24,BB s107.1),(25,I64 s107.2)]) 20 (fun (x108:Bool)=>[(1,.obj (eSource_0.cells a0)),(2,.obj [.nils,.nils,.nils,SS S0,SS S0]),(6,.obj [oR eTok x96,oR eNon x89,oR eProd_0 x65.f_g.Prods,SS x65.f_g.Pro,SS x65.f_g.Tail,oR eB x65.f_given,oR eNon x65.f_types,oR eS x65.f_lefts,I64 x65.f_e,I64 x65.f_at,SS x65.f_name,I64 x65.f_level,I64 x65.f_inner]),(24,BB x108)]) hl (fun s107 o h=>?_) ?_
   ·clear hl
    refine W.sq'<|W.sq' ?_
    refine W.rx [(1,_),(2,_),(6,_),(24,_),(25,_),(400,_)] (Vm q<|Rv (O.mv (.obj q))<|Rv (O.nlP (.ptr q))<|Rv (O.fO q (.ptr q) fd175_0 q)<|Rv (O.fO q (.ptr q) fd38_2 q)<|Rv (O.ldO (y:=.brw eProd_0.z ⟨6,[2]⟩ x65.f_g.Prods.length) q (.ptr q) ct36 q q)<|Rv (O.lenO (.brw q) sl36)<|Rv (O.lss (.lit q) (.lit q))<|Fi (tn6 q q q q q q)) ?_
    refine Px.sq<|W.cnd q (fun hb110=>?_) (fun hb110=>?_)
    ·replace h:=cndT hb110 h
     refine W.sk<|Px.sq ?_
     refine W.sq'<|W.bk ?_
     obtain ⟨c113,hj,h⟩:=bnd h
     refine W.rx [(1,.obj (eSource_0.cells a0)),(2,.obj [.nils,.nils,.nils,SS S0,SS S0]),(6,.obj [oR eTok x96,oR eNon x89,oR eProd_0 x65.f_g.Prods,SS x65.f_g.Pro,SS x65.f_g.Tail,oR eB x65.f_given,oR eNon x65.f_types,oR eS x65.f_lefts,I64 x65.f_e,I64 x65.f_at,SS x65.f_name,I64 x65.f_level,I64 x65.f_inner]),(24,BB c113),(25,I64 s107.2)] ?_ ?_
     ·refine Vm q<|Rv (O.mv (.lit q)) ?_
      rcases cnd hj with ⟨hb111,hj⟩ | ⟨hb111,hj⟩
      ·obtain rfl:=sm hj
       exact RunL.ps q q hb111 q q<|RunL.ps q q hb111 q q<|RunL.ps q q hb111 q q<|RunL.ps q q hb111 q q<|RunL.ps q q hb111 q q<|RunL.ps q q hb111 q q<|RunL.ps q q hb111 q q<|RunL.ps q q hb111 q q<|RunL.ps q q hb111 q q<|RunL.ps q q hb111 q q<|RunL.ps q q hb111 q q<|Rv (O.pkT (.lit q) hb111 (.k q))<|RunL.re (G1:=[(1,_),(2,_),(6,_),(25,_),(416,_)]) (tn5 q q q q q)<|Va q<|Fi (tn5 q q q q q)
      ·refine RunL.v (O.mv (.obj q)) q q (.yb q q hb111)<|RunL.v (O.nlP (.ptr q)) q q (.yb q q hb111)<|RunL.v (O.fO q (.ptr q) fd175_0 q) q q (.yb q q hb111)<|RunL.v (O.fO q (.ptr q) fd38_2 q) q q (.yb q q hb111)<|RunL.v (O.ldO (y:=.brw eProd_0.z ⟨6,[2]⟩ x65.f_g.Prods.length) q (.ptr q) ct36 q q) q q (.yb q q hb111)<|RunL.v (O.mv (.lit q)) q q (.yb q q hb111) ?_
       obtain ⟨x112,hx112,hj⟩:=bnd hj
       obtain rfl:=sm hj
       exact RunL.v (O.ixO (en:=eProd_0) q (.brw q) (.lit q) sl36 hx112 q) q q (.yb q q hb111)<|RunL.v (O.fE (en:=eProd_0) q (.ptr q) fd143_1 hx112 q q) q q (.yb q q hb111)<|RunL.v (O.ldE (en:=eProd_0) (x':=iR eI x112.Right) q (.ptr q) ct27 hx112 q q) q q (.yb q q hb111)<|RunL.v (O.lenI (.imm q) sl27) q q (.yb q q hb111)<|RunL.v (O.gtr (.lit q) (.k q)) q q (.yb q q hb111)<|Rv (O.pkF (.lit q) hb111 (.lit q))<|RunL.re (G1:=[(1,_),(2,_),(6,_),(25,_),(416,_)]) (tn5 q q q q q)<|Va q<|Fi (tn5 q q q q q)
     refine Px.bk ?_
     refine Px.sq<|W.rx [(1,_),(2,_),(6,_),(24,_),(25,_)] (Vm q<|Rv (O.add (.lit q) (.k q))<|RunL.re (G1:=[(1,_),(2,_),(6,_),(24,_),(402,_)]) (tn5 q q q q q)<|Va q<|Fi (tn5 q q q q q)) ?_
     obtain rfl:=sm h
     exact Px.go (tn5 q q q q q)
    ·replace h:=cndF hb110 h
     refine W.xi ?_
     refine Px.sqE ?_
     obtain rfl:=sm h
     exact Px.x1 (tn4 q q q q)
   refine Px.bkH ?_
   refine Px.sq<|W.sq' ?_
   refine W.sq'<|W.rx [(1,_),(2,_),(6,_),(417,_)] (Vm q<|Fi (tn4 q q q q)) ?_
   refine Px.sq<|W.cnd q (fun hb114=>?_) (fun hb114=>?_)
   ·replace h:=cndT hb114 h
    refine W.sq'<|W.rx [(2,_),(3,_),(4,_),(5,_)] (Rv (O.bu (cs:=[.nils,.nils,.nils,SS S0,SS S0]) sc38 ze38 q q q)<|RunL.sO (G2:=[(2,_)]) (cs2:=[.nils,.nils,.nils,SS S0,SS S0]) q (.obj q) (.aggF q q) q sz38 q q q q (.b q .nil)<|Vk q<|Vk q<|Vk q<|Fi (tn4 q q q q)) ?_
    refine Px.sq<|W.fz (G1:=[(2,.obj [iR eTok ([]:List Tok),iR eNon ([]:List Non),iR eProd_0 ([]:List Prod),SS S0,SS S0]),(3,_),(4,_),(5,_)]) [2] (.z q q (FzL.obj (.z (.z (.z (.f (.f .nil)))))) (.n q q (.n q q (.n q q .nil)))) ?_
    refine W.rt ?_
    refine Px.sqR ?_
    obtain rfl:=sm h
    exact Px.fin (Fin.ro (.c (ys0:=[iR eTok ([]:List Tok),iR eNon ([]:List Non),iR eProd_0 ([]:List Prod),SS S0,SS S0]) q at38 q q q (.f q (.f q (.f q (.f q (.f q .nil))))) (.f q q (.f q q (.f q q .nil)))) q (ode (by kernel_rfl)) (.no .nil) q (.inr q))
   ·replace h:=cndF hb114 h
    refine W.sk<|Px.sq ?_
    refine W.sq'<|W.rd [[],[],[],[2],[],[4],[0,2,3],[0,2,3,6],[0,2,3,6,7],[0,2,3,6,7,8],rn 0 10 [],rn 0 11 [],rn 0 12 [],rn 0 13 []] [(2,_),(6,_)] mixo (by kernel_rfl) (Dv 0 (O.mv (.obj q))<|Dv 1 (O.mv (.obj q))<|Dv 2 (O.fO q (.obj q) fd25_0 q)<|Dv 3 (O.ldO (y:=SS a0.Pro) q (.ptr q) ct9 q q)<|Dv 4 (O.fO q (.obj q) fd25_3 q)<|Dv 5 (O.ldO (y:=SS a0.Tail) q (.ptr q) ct9 q q)<|Dv 6 (O.nlP (.ptr q))<|Dv 7 (O.fO q (.ptr q) fd175_0 q)<|Dv 8 (O.fO q (.ptr q) fd38_3 q)<|DL.bu 9 (G2:=[(1,.obj (eSource_0.cells a0)),(2,.obj [.nils,.nils,.nils,SS S0,SS S0]),(6,.obj [oR eTok x96,oR eNon x89,oR eProd_0 x65.f_g.Prods,SS a0.Pro,SS x65.f_g.Tail,oR eB x65.f_given,oR eNon x65.f_types,oR eS x65.f_lefts,I64 x65.f_e,I64 x65.f_at,SS x65.f_name,I64 x65.f_level,I64 x65.f_inner])]) (U:=[(5,424,some (SS a0.Tail)),(4,423,some (.ptr ⟨1,[]⟩ 3)),(1,420,some (.ptr ⟨6,[]⟩ 0))]) (EffOk.v (EO.eff (EO.sO (G2:=[(1,.obj (eSource_0.cells a0)),(2,.obj [.nils,.nils,.nils,SS S0,SS S0]),(6,.obj [oR eTok x96,oR eNon x89,oR eProd_0 x65.f_g.Prods,SS a0.Pro,SS x65.f_g.Tail,oR eB x65.f_given,oR eNon x65.f_types,oR eS x65.f_lefts,I64 x65.f_e,I64 x65.f_at,SS x65.f_name,I64 x65.f_level,I64 x65.f_inner])]) (cs2:=[oR eTok x96,oR eNon x89,oR eProd_0 x65.f_g.Prods,SS a0.Pro,SS x65.f_g.Tail,oR eB x65.f_given,oR eNon x65.f_types,oR eS x65.f_lefts,I64 x65.f_e,I64 x65.f_at,SS x65.f_name,I64 x65.f_level,I64 x65.f_inner]) q q q (.ptr q) (.lit q) q sz9 q q q q (.n q q (.n q q (.b q .nil)))))) q q (by kernel_rfl) q q q (.c (.inr (.inl ⟨_,q⟩)) q q q q q (Gd.wanted .none) (O.ldO (y:=SS a0.Tail) q (.ptr q) ct9 q q) (.c (.inr (.inr (.inr (.inl ⟨1,_,_,q,q,of_blt q,by simp,_,q,of_blt q⟩)))) q q q q q (Gd.wanted .none) (O.fO q (.obj q) fd25_3 q) (.c (.inr (.inr (.inr (.inl ⟨6,_,_,q,q,of_blt q,by simp,_,q,of_blt q⟩)))) q q q q q (Gd.wanted .none) (O.mv (.obj q)) .nil))) (by kernel_rfl)<|Dv 10 (O.nlP (.ptr q))<|Dv 11 (O.fO q (.ptr q) fd175_0 q)<|Dv 12 (O.fO q (.ptr q) fd38_4 q)<|DL.sO 13 (G2:=[(2,.obj [.nils,.nils,.nils,SS S0,SS S0]),(6,.obj [oR eTok x96,oR eNon x89,oR eProd_0 x65.f_g.Prods,SS a0.Pro,SS a0.Tail,oR eB x65.f_given,oR eNon x65.f_types,oR eS x65.f_lefts,I64 x65.f_e,I64 x65.f_at,SS x65.f_name,I64 x65.f_level,I64 x65.f_inner])]) (cs2:=[oR eTok x96,oR eNon x89,oR eProd_0 x65.f_g.Prods,SS a0.Pro,SS a0.Tail,oR eB x65.f_given,oR eNon x65.f_types,oR eS x65.f_lefts,I64 x65.f_e,I64 x65.f_at,SS x65.f_name,I64 x65.f_level,I64 x65.f_inner]) q (by kernel_rfl) (by kernel_rfl) q q q (.ptr q) (.lit q) q sz9 q q q q (.n q q (.b q .nil))<|DL.fin q q q (tn2 q q)) ?_
    refine Px.sq<|W.sq' ?_
    refine W.fz (G1:=[(2,_),(6,.obj [iR eTok x96,iR eNon x89,iR eProd_0 x65.f_g.Prods,SS a0.Pro,SS a0.Tail,oR eB x65.f_given,oR eNon x65.f_types,oR eS x65.f_lefts,I64 x65.f_e,I64 x65.f_at,SS x65.f_name,I64 x65.f_level,I64 x65.f_inner])]) [6] (.n q q (.z q q (FzL.obj (.z (.z (.z (.f (.f (.f (.f (.f (.f (.f (.f (.f (.f .nil)))))))))))))) .nil)) ?_
    refine W.rx [(2,_),(3,_),(4,_),(5,_)] (Rv (O.mv (.obj q))<|Rv (O.nlP (.ptr q))<|Rv (O.fO q (.ptr q) fd175_0 q)<|Rv (O.ldON (cs':=[iR eTok x96,iR eNon x89,iR eProd_0 x65.f_g.Prods,SS a0.Pro,SS a0.Tail]) q (.ptr q) at38 q q)<|RunL.sO (G2:=[(2,_)]) (cs2:=[iR eTok x96,iR eNon x89,iR eProd_0 x65.f_g.Prods,SS a0.Pro,SS a0.Tail]) q (.obj q) (.aggF q q) q sz38 q q q q (.b q .nil)<|Vk q<|Vk q<|Vk q<|Fi (tn4 q q q q)) ?_
    refine Px.sq<|W.rt ?_
    obtain rfl:=sm h
    exact Px.fin (Fin.ro (.c (ys0:=[iR eTok x96,iR eNon x89,iR eProd_0 x65.f_g.Prods,SS a0.Pro,SS a0.Tail]) q at38 q q q (.f q (.f q (.f q (.f q (.f q .nil))))) (.f q q (.f q q (.f q q .nil)))) q (ode (by kernel_rfl)) (.no .nil) q (.inr q))
instance con63 {a0:Source}{r:Grammar × Int × Int × ByteArray}:CF Tryz.prog 63 (pf63 a0=some r) [.agg (eSource_0.cells a0)] [none] (.tup [.agg (eGrammar_0.cells r.1),I64 r.2.1,I64 r.2.2.1,SS r.2.2.2]):=⟨con63l a0 _⟩
instance con38 {a0:Source}{r:Grammar × Bool}:CF Tryz.prog 38 (pf38 a0=some r) [.agg (eSource_0.cells a0)] [none] (.tup [.agg (eGrammar_0.cells r.1),BB r.2]):=⟨fun h=>by unfold pf38 at h; exact Con.au (N:=⟨18,[]⟩) [1,2,3,4,5] .e Tryz.func38 rfl rfl rfl rfl rfl go⟩
instance con59 {a0:(List Item)}{a1:Item}{r:(List Item)}:CF Tryz.prog 59 (pf59 a0 a1=some r) [iR eItem a0,.agg [I64 a1.Prod,I64 a1.Dot]] [none,none] (iR eItem r):=⟨fun h=>by unfold pf59 at h; exact Con.au (N:=⟨71,[]⟩) [0,3,4,5,6,43,56] (.lp (fun (s1:Int)=>[(5,I64 s1)]) [0,3,5] 0 (fun (x2:Int)=>[(5,I64 x2)]) [0,3,5] (.rk 2 [[],[0],[0,1],[0,1,2],[0,1,2],[0,1,2,4],rn 0 6 [],rn 0 7 [],rn 0 8 [],[0,1,2],[0,1,2,9],rn 0 11 [],rn 0 12 [],rn 0 13 [],rn 0 13 [],rn 0 13 [14],rn 0 16 [],rn 0 17 [],rn 0 18 [],rn 0 13 [],rn 0 13 [19],rn 0 21 [],rn 0 22 [],rn 0 23 [],rn 0 23 [],rn 0 23 [24],rn 0 26 [],rn 0 27 [],rn 0 28 [],rn 0 23 [],rn 0 23 [29],rn 0 31 [],rn 0 32 [],rn 0 33 [],rn 0 34 []] [0,3,5,43] (fun (c10:Bool)=>[(43,BB c10)]) .e) (.rk 4 [[],[0],[0,1],[0,1,2],[0,1,2],[0,1,2,4],rn 0 6 [],rn 0 7 [],[0,1,2],rn 0 9 [],rn 0 10 []] [0,3,5,56] (fun (c14:Bool)=>[(56,BB c14)]) (.b .e (.rd 7 [[],[],[1],[0,1,2],[],[],[4,5],rn 0 7 [],rn 0 8 []] .e)))) Tryz.func59 rfl rfl rfl rfl rfl go⟩
instance con60 {a0:Grammar}{a1:Item}{r:Bool}:CF Tryz.prog 60 (pf60 a0 a1=some r) [.agg (eGrammar_0.cells a0),.agg [I64 a1.Prod,I64 a1.Dot]] [none,none] (BB r):=⟨fun h=>by unfold pf60 at h; exact Con.au (N:=⟨34,[]⟩) [2,3,4] (.rk 1 [[],[0],[0,1],[0,1,2],[0,1,2,3],rn 0 5 [],[0,1,2,3],[0,1,2,3,6],[0,1,2,3,6,7],rn 0 9 [],rn 0 10 [],rn 0 11 [],rn 0 12 [],rn 0 13 [],rn 0 14 [],rn 0 15 [],rn 0 16 [],rn 0 17 [],rn 0 18 [],rn 0 17 [],rn 0 17 [19],rn 0 17 [],rn 0 17 [21],rn 0 17 [19,20,21,22],rn 0 17 (rn 19 5 []),rn 0 17 (rn 19 6 []),rn 0 17 (rn 19 7 []),rn 0 27 [],rn 0 28 [],rn 0 29 []] [4] (fun (c5:Bool)=>[(4,BB c5)]) .e) Tryz.func60 rfl rfl rfl rfl rfl go⟩
instance con57 {a0:Grammar}{a1:(List Item)}{r:(List Item)}:CF Tryz.prog 57 (pf57 a0 a1=some r) [.agg (eGrammar_0.cells a0),iR eItem a1] [none,none] (iR eItem r):=⟨fun h=>by unfold pf57 at h; exact Con.au (N:=⟨26,[]⟩) [1,2,4,5,6,10,18] (.lp (fun (s1:List Item × Int)=>[(5,iR eItem s1.1),(6,I64 s1.2)]) [1,2,5,6] 0 (fun (x2:List Item)=>[(5,iR eItem x2)]) [5] (.b (.jn [1,2,5,6] (fun (j5:List Item)=>[(5,iR eItem j5)]) (.rd 5 [[],[],[],[1,2],[1,2,3],rn 0 5 []] (.jn [1,2,5,6] (fun (j8:List Item)=>[(5,iR eItem j8)]) .e .e)) .e) .e) .e) Tryz.func57 rfl rfl rfl rfl rfl go⟩
instance con58 {a0:Grammar}{a1:Item}{r:Int}:CF Tryz.prog 58 (pf58 a0 a1=some r) [.agg (eGrammar_0.cells a0),.agg [I64 a1.Prod,I64 a1.Dot]] [none,none] (I64 r):=⟨fun h=>by unfold pf58 at h; exact Con.au (N:=⟨33,[]⟩) [2,3,4,21] (.rk 1 [[],[],[0,1],[0,1,2],[0,1,2,3],rn 0 5 [],rn 0 6 [],rn 0 5 [],rn 0 5 [7],rn 0 5 [],rn 0 5 [9],rn 0 5 [7,8,9,10],rn 0 5 (rn 7 5 []),rn 0 5 (rn 7 6 []),rn 0 5 (rn 7 7 []),rn 0 15 [],rn 0 16 []] [2,3,21] (fun (c4:Bool)=>[(21,BB c4)]) (.b .e (.rd 3 [[],[0],[],[2],[0,1,2,3],rn 0 5 [],rn 0 6 [],[],[7],rn 0 9 [],rn 0 10 [],rn 0 11 []] .e))) Tryz.func58 rfl rfl rfl rfl rfl go⟩
instance con32 {a0:Grammar}{a1:(List Item)}{r:(List Item)}:CF Tryz.prog 32 (pf32 a0 a1=some r) [.agg (eGrammar_0.cells a0),iR eItem a1] [none,none] (iR eItem r):=⟨fun h=>by unfold pf32 at h; exact Con.au (N:=⟨59,[]⟩) [1,2,4,5,6,7,8,9,16,21,38,49,57] (.lp (fun (s2:List Item × Int)=>[(5,iR eItem s2.1),(6,I64 s2.2)]) [2,5,6] 0 (fun (x3:List Item)=>[(5,iR eItem x3)]) [5] (.b (.jn [2,5,6] (fun (j6:List Item × Int)=>[(5,iR eItem j6.1),(6,I64 j6.2)]) (.p (.jn [2,5,6] (fun (j7:List Item)=>[(5,iR eItem j7)]) (.lp (fun (s8:List Item × Int)=>[(5,iR eItem s8.1),(7,I64 s8.2)]) [2,5,6,7] 2 (fun (x9:List Item)=>[(5,iR eItem x9)]) [2,5,6] (.b (.rd 8 [[],[],[],[1,2],[1,2,3],rn 0 5 [],rn 0 6 []] (.lp (fun (s14:List Item × Int)=>[(5,iR eItem s14.1),(9,I64 s14.2)]) [2,5,6,7,8,9] 4 (fun (x15:List Item)=>[(5,iR eItem x15)]) [2,5,6,7] (.rj 10 [2,5,6,7,8,9,38] (fun (c18:Bool)=>[(38,BB c18)]) (.b (.jn [2,5,6,7,8,9] (fun (j20:List Item)=>[(5,iR eItem j20)]) (.p (.jn [2,5,6,7,8,9] (fun (j22:List Item)=>[(5,iR eItem j22)]) .e .e)) .e) .e)) .e)) .e) .e) .e)) .e) .e) .e) Tryz.func32 rfl rfl rfl rfl rfl go⟩
instance con41 {a0:(List Int)}{a1:Int}{r:Bool}:CF Tryz.prog 41 (pf41 a0 a1=some r) [iR eI a0,I64 a1] [none,none] (BB r):=⟨fun h=>by unfold pf41 at h; exact Con.au (N:=⟨18,[]⟩) [0,1,4,5,9,17] (.l2 (fun (s1:Int)=>[(5,I64 s1)]) [0,1,5] 0 (fun (x3:Unit)=>[]) [] (fun (x4:Bool)=>[(4,BB x4)]) [4] .e .e .e) Tryz.func41 rfl rfl rfl rfl rfl go⟩
instance con42 {a0:(List Int)}{a1:Int}{r:(List Int)}:CF Tryz.prog 42 (pf42 a0 a1=some r) [iR eI a0,I64 a1] [none,none] (iR eI r):=⟨fun h=>by unfold pf42 at h; exact Con.au (N:=⟨47,[]⟩) [0,1,4,5,6,19,32] (.lp (fun (s1:Int)=>[(5,I64 s1)]) [0,1,5] 0 (fun (x2:Int)=>[(5,I64 x2)]) [0,1,5] (.rj 2 [0,1,5,19] (fun (c6:Bool)=>[(19,BB c6)]) .e) (.rj 4 [0,1,5,32] (fun (c10:Bool)=>[(32,BB c10)]) (.b .e (.rd 7 [[],[],[1],[0,1,2],[],[],[4,5],rn 0 7 [],rn 0 8 []] .e)))) Tryz.func42 rfl rfl rfl rfl rfl go⟩
instance con64 {a0:Grammar}{r:(List Int)}:CF Tryz.prog 64 (pf64 a0=some r) [.agg (eGrammar_0.cells a0)] [none] (iR eI r):=⟨fun h=>by unfold pf64 at h; exact Con.au (N:=⟨30,[]⟩) [1,2,3,4,5,10,21] (.lp (fun (s1:List Int × Int)=>[(3,oR eI s1.1),(4,I64 s1.2)]) [1,3,4] 0 (fun (x2:List Int)=>[(3,oR eI x2)]) [1,3] .e (.lp (fun (s6:List Int × Int)=>[(3,oR eI s6.1),(5,I64 s6.2)]) [1,3,5] 2 (fun (x7:List Int)=>[(3,oR eI x7)]) [3] .e .e)) Tryz.func64 rfl rfl rfl rfl rfl go⟩
instance con65 {a0:Grammar}{a1:(List Item)}{a2:Int}{r:(List Item)}:CF Tryz.prog 65 (pf65 a0 a1 a2=some r) [.agg (eGrammar_0.cells a0),iR eItem a1,I64 a2] [none,none,none] (iR eItem r):=⟨fun h=>by unfold pf65 at h; exact Con.au (N:=⟨48,[]⟩) [1,2,3,6,7,8,9,10,17,32] (.lp (fun (s2:List Item × Int)=>[(7,iR eItem s2.1),(9,I64 s2.2)]) [2,3,7,8,9] 0 (fun (x3:List Item)=>[(7,iR eItem x3)]) [7] (.b (.jn [2,3,7,8,9] (fun (j6:List Item)=>[(7,iR eItem j6)]) (.rd 6 [[],[],[],[1,2],[1,2,3],rn 0 5 [],rn 0 6 []] (.rj 7 [2,3,7,8,9,32] (fun (c10:Bool)=>[(32,BB c10)]) (.jn [2,3,7,8,9] (fun (j11:List Item)=>[(7,iR eItem j11)]) (.b (.rd 8 [[],[],[],[1,2],[1,2,3],[1,2,3,4],[],[],[6,7],[6,7,8],[6,7,8,9],rn 6 5 [],rn 1 11 [],rn 0 13 [],rn 0 14 []] .e) .e) .e))) .e) .e) .e) Tryz.func65 rfl rfl rfl rfl rfl go⟩
instance con93 {a0:(List Item)}{a1:(List Item)}{r:Bool}:CF Tryz.prog 93 (pf93 a0 a1=some r) [iR eItem a0,iR eItem a1] [none,none] (BB r):=⟨fun h=>by unfold pf93 at h; exact Con.au (N:=⟨26,[]⟩) [0,1,4,5,10,14,25] (.b .e (.l2 (fun (s2:Int)=>[(5,I64 s2)]) [0,1,5] 0 (fun (x4:Unit)=>[]) [] (fun (x5:Bool)=>[(4,BB x5)]) [4] (.b (.rd 6 [[],[],[0,1],[0,1,2],[],[],[4,5],[4,5,6],rn 0 8 []] .e) .e) .e .e)) Tryz.func93 rfl rfl rfl rfl rfl go⟩
instance con66 {a0:(List State)}{a1:(List Item)}{r:Int}:CF Tryz.prog 66 (pf66 a0 a1=some r) [iR eState_0 a0,iR eItem a1] [none,none] (I64 r):=⟨fun h=>by unfold pf66 at h; exact Con.au (N:=⟨20,[]⟩) [0,1,4,5,9,18] (.l2 (fun (s1:Int)=>[(5,I64 s1)]) [0,1,5] 0 (fun (x3:Unit)=>[]) [] (fun (x4:Int)=>[(4,I64 x4)]) [4] .e .e .e) Tryz.func66 rfl rfl rfl rfl rfl go⟩
theorem con39l (a0:Grammar) (r:(List State) × Int) (h:pf39 a0=some r):Con Tryz.prog 39 [.agg (eGrammar_0.cells a0)] [none] (.tup [iR eState_0 r.1,I64 r.2]):=by
 unfold pf39 at h
 refine Con.go (N:=⟨106,[]⟩) Tryz.func39 q q q q (W.fin ?_)
 refine W.st [(0,.agg (eGrammar_0.cells a0))] ?_
 refine W.sq'<|W.rx [(1,_)] (Rv (O.box (.aggF q q) q)<|Rv (O.az .knil)<|Vk q<|Fi (.n q .nil)) ?_
 refine Px.sq<|W.sq' ?_
 refine W.rx [(1,_),(4,_)] (Rv (O.bu (cs:=[I64 0,I64 0]) sc112 ze112 q q q)<|Rv (O.bsL (ys:=[.agg [I64 0,I64 0]]) (cs:=[I64 0,I64 0]) sl97 q q q q q zt112 q q)<|Rv (O.bu (cs:=[.brw 2 ⟨15,[]⟩ 1,.nils]) sc100 ze100 q q q)<|Rv (O.bsL (ys:=[.agg [.brw 2 ⟨15,[]⟩ 1,.nils]]) (cs:=[.brw 2 ⟨15,[]⟩ 1,.nils]) sl39 q q q q q zt100 q q)<|RunL.ea (G2:=[(1,.obj (eGrammar_0.cells a0))]) q (EO.aG (y':=oR eState_m [(⟨[(⟨0,0⟩:Item)],([]:List Move)⟩:State)]) q q (.own q) (.l q q (.l q q (.f (.f .nil)) (.f .nil)) .nil) (FzL.own (.z (hv:=Vw.rl (en:=eItem) (L:=[(⟨0,0⟩:Item)]) (cs':=[I64 0,I64 0]) q q) (.o .nil))) (.n q .nil) q q)<|Fi (tn2 q q)) ?_
 refine Px.sq<|W.sq' ?_
 obtain ⟨x1,hx1,h⟩:=bnd h
 refine W.rx [(1,_),(4,_),(5,_)] (Rv (O.ldON (cs':=[iR eTok a0.Toks,iR eNon a0.Nons,iR eProd_0 a0.Prods,SS a0.Pro,SS a0.Tail]) q (.obj q) at38 q q)<|Rc (PC.go (.cc (.aggF q q) .nil) (CF.go hx1) call64 q)<|Rv (O.az (.imm q))<|Fi (tn3 q q q)) ?_
 refine Px.sq<|W.sq' ?_
 refine W.sq'<|W.rx [(1,_),(4,_),(5,_),(6,_)] (Vk q<|Fi (tn4 q q q q)) ?_
 refine Px.sq<|W.bk ?_
 obtain ⟨x3,hl,h⟩:=bnd h
 refine W.tr (G1:=[(1,_),(4,_),(5,_),(6,_)]) (tn4 q q q q) ?_
 refine W.lp2 (s:=([(⟨[(⟨0,0⟩:Item)],([]:List Move)⟩:State)],0)) (fun (s2:List State × Int)=>[(1,.obj (eGrammar_0.cells a0)),(4,oR eState_m s2.1),(5,iR eI x1),(6,I64 s2.2)]) 0 (fun (x4:List State)=>[(4,oR eState_m x4)]) (fun (x5:List State × Int)=>[(2,iR eState_0 x5.1),(3,I64 x5.2)]) hl (fun s2 o h=>?_) (fun x4 hx=>?_) (fun x5 hx=>?_)
 ·clear hl
  refine W.sq'<|W.sq' ?_
  refine W.rx [(1,_),(4,_),(5,_),(6,_),(23,_)] (Vm q<|Rv (O.mv (.own q))<|Rv (O.lenO (.brw q) sl39)<|Rv (O.lss (.lit q) (.lit q))<|Fi (tn5 q q q q q)) ?_
  refine Px.sq<|W.cnd q (fun hb6=>?_) (fun hb6=>?_)
  ·replace h:=cndT hb6 h
   refine W.sk<|Px.sq ?_
   refine W.sq'<|W.bk ?_
   refine W.sq' ?_
   obtain ⟨x7,hx7,h⟩:=bnd h
   obtain ⟨x8,hx8,h⟩:=bnd h
   refine W.rd [[],[],[],[1,2],[1,2,3],[1,2,3,4],rn 0 6 [],rn 0 7 []] [(1,_),(4,_),(5,_),(6,_),(7,_)] mixo (by kernel_rfl) (Dv 0 (O.ldON (cs':=[iR eTok a0.Toks,iR eNon a0.Nons,iR eProd_0 a0.Prods,SS a0.Pro,SS a0.Tail]) q (.obj q) at38 q q)<|Dv 1 (O.mv (.own q))<|Dv 2 (O.mv (.lit q))<|Dv 3 (O.ixO (en:=eState_m) q (.brw q) (.lit q) sl39 hx7 q)<|Dv 4 (O.fE (en:=eState_m) q (.ptr q) fd100_0 hx7 q q)<|Dv 5 (O.ldE (en:=eState_m) (x':=iR eItem x7.Kernel) q (.ptr q) ct97 hx7 q q)<|Dc 6 (PC.go (.cc (.aggF q q) (.cc (.imm q) .nil)) (CF.go hx8) call32 q)<|Dv 7 (O.az (.imm q))<|DL.fin q q q (tn5 q q q q q)) ?_
   refine Px.sq<|W.sq' ?_
   refine W.rx [(1,_),(4,_),(5,_),(6,_),(7,_),(8,_)] (Rv (O.az .knil)<|Fi (tn6 q q q q q q)) ?_
   refine Px.sq<|W.sq' ?_
   refine W.sq'<|W.rx [(1,_),(4,_),(5,_),(6,_),(7,_),(8,_),(9,_)] (Vk q<|Fi (tn7 q q q q q q q)) ?_
   refine Px.sq<|W.bk ?_
   obtain ⟨x10,hl,h⟩:=bnd h
   refine W.tr (G1:=[(1,_),(4,_),(5,_),(6,_),(7,_),(8,iR eI ([]:List Int)),(9,_)]) (.n q (.n q (.n q (.n q (.n q (.w q q .nilImm (.n q .nil))))))) ?_
   refine W.lp1 (s:=(([]:List Int),0)) (fun (s9:List Int × Int)=>[(1,.obj (eGrammar_0.cells a0)),(4,oR eState_m s2.1),(5,iR eI x1),(6,I64 s2.2),(7,iR eItem x8),(8,iR eI s9.1),(9,I64 s9.2)]) 2 (fun (x10:List Int)=>[(1,.obj (eGrammar_0.cells a0)),(4,oR eState_m s2.1),(5,iR eI x1),(6,I64 s2.2),(8,iR eI x10)]) hl (fun s9 o h=>?_) ?_
   ·clear hl
    refine W.sq'<|W.sq' ?_
    refine W.rx [(1,_),(4,_),(5,_),(6,_),(7,_),(8,_),(9,_),(36,_)] (Vm q<|Rv (O.mv (.imm q))<|Rv (O.lenI (.imm q) sl97)<|Rv (O.lss (.lit q) (.lit q))<|Fi (tn8 q q q q q q q q)) ?_
    refine Px.sq<|W.cnd q (fun hb12=>?_) (fun hb12=>?_)
    ·replace h:=cndT hb12 h
     refine W.sk<|Px.sq ?_
     refine W.sq' ?_
     obtain ⟨j13,hj,h⟩:=bnd h
     refine W.jn [(1,.obj (eGrammar_0.cells a0)),(4,oR eState_m s2.1),(5,iR eI x1),(6,I64 s2.2),(7,iR eItem x8),(8,iR eI j13),(9,I64 s9.2)] ?_ ?_
     ·clear h; have h:=hj; clear hj
      refine W.bk<|W.sq' ?_
      obtain ⟨x14,hx14,h⟩:=bnd h
      obtain ⟨x15,hx15,h⟩:=bnd h
      refine W.rd [[],[],[],[1,2],[1,2,3],rn 0 5 [],rn 0 6 []] [(1,_),(4,_),(5,_),(6,_),(7,_),(8,_),(9,_),(10,_)] mixo (by kernel_rfl) (Dv 0 (O.ldON (cs':=[iR eTok a0.Toks,iR eNon a0.Nons,iR eProd_0 a0.Prods,SS a0.Pro,SS a0.Tail]) q (.obj q) at38 q q)<|Dv 1 (O.mv (.imm q))<|Dv 2 (O.mv (.lit q))<|Dv 3 (O.ixI (.imm q) (.lit q) sl97 hx14)<|Dv 4 (O.ldIN (cs':=[I64 x14.Prod,I64 x14.Dot]) (.iptr q) at112 q q)<|Dc 5 (PC.go (.cc (.aggF q q) (.cc (.aggF q q) .nil)) (CF.go hx15) call58 q)<|Dv 6 (O.az (.lit q))<|DL.fin q q q (tn8 q q q q q q q q)) ?_
      refine Px.sq<|W.sq' ?_
      refine W.rx [(1,_),(4,_),(5,_),(6,_),(7,_),(8,_),(9,_),(10,_),(46,_)] (Vm q<|Rv (O.geq (.lit q) (.k q))<|Fi (tn9 q q q q q q q q q)) ?_
      refine Px.sq ?_
      obtain ⟨j16,hj,h⟩:=bnd h
      refine W.jn [(1,.obj (eGrammar_0.cells a0)),(4,oR eState_m s2.1),(5,iR eI x1),(6,I64 s2.2),(7,iR eItem x8),(8,iR eI j16),(9,I64 s9.2)] ?_ ?_
      ·clear h; have h:=hj; clear hj
       refine W.cnd q (fun hb17=>?_) (fun hb17=>?_)
       ·replace h:=cndT hb17 h
        obtain ⟨x18,hx18,h⟩:=bnd h
        refine W.rx [(1,_),(4,_),(5,_),(6,_),(7,_),(8,_),(9,_)] (Rv (O.mv (.imm q))<|Vm q<|Rc (PC.go (.cc (.imm q) (.cc (.lit q) .nil)) (CF.go hx18) call42 q)<|RunL.re (G1:=[(1,_),(4,_),(5,_),(6,_),(7,_),(9,_),(49,_)]) (tn7 q q q q q q q)<|Rv (O.az (.imm q))<|Fi (tn7 q q q q q q q)) ?_
        obtain rfl:=sm h
        exact Px.jn (tn7 q q q q q q q)
       ·replace h:=cndF hb17 h
        refine W.sk ?_
        obtain rfl:=sm h
        exact Px.jn (tn7 q q q q q q q)
      refine Px.bk ?_
      obtain rfl:=sm h
      exact Px.jn (tn7 q q q q q q q)
     refine Px.sq<|W.rx [(1,_),(4,_),(5,_),(6,_),(7,_),(8,_),(9,_)] (Vm q<|Rv (O.add (.lit q) (.k q))<|RunL.re (G1:=[(1,_),(4,_),(5,_),(6,_),(7,_),(8,_),(38,_)]) (tn7 q q q q q q q)<|Va q<|Fi (tn7 q q q q q q q)) ?_
     obtain rfl:=sm h
     exact Px.go (tn7 q q q q q q q)
    ·replace h:=cndF hb12 h
     refine W.xi ?_
     refine Px.sqE ?_
     obtain rfl:=sm h
     exact Px.x1 (tn5 q q q q q)
   refine Px.bkH ?_
   refine Px.sq<|W.sq' ?_
   refine W.rx [(1,_),(4,_),(5,_),(6,_),(8,_),(11,_)] (Vk q<|Fi (tn6 q q q q q q)) ?_
   refine Px.sq<|W.bk ?_
   obtain ⟨x20,hl,h⟩:=bnd h
   refine W.tr (G1:=[(1,_),(4,_),(5,_),(6,_),(8,_),(11,_)]) (tn6 q q q q q q) ?_
   refine W.lp2 (s:=(s2.1,0)) (fun (s19:List State × Int)=>[(1,.obj (eGrammar_0.cells a0)),(4,oR eState_m s19.1),(5,iR eI x1),(6,I64 s2.2),(8,iR eI x10),(11,I64 s19.2)]) 4 (fun (x21:List State)=>[(1,.obj (eGrammar_0.cells a0)),(4,oR eState_m x21),(5,iR eI x1),(6,I64 s2.2)]) (fun (x22:List State × Int)=>[(2,iR eState_0 x22.1),(3,I64 x22.2)]) hl (fun s19 o h=>?_) (fun x21 hx=>?_) (fun x22 hx=>?_)
   ·clear hl
    refine W.sq'<|W.sq' ?_
    refine W.rx [(1,_),(4,_),(5,_),(6,_),(8,_),(11,_),(53,_)] (Vm q<|Rv (O.mv (.imm q))<|Rv (O.lenI (.imm q) sl27)<|Rv (O.lss (.lit q) (.lit q))<|Fi (tn7 q q q q q q q)) ?_
    refine Px.sq<|W.cnd q (fun hb23=>?_) (fun hb23=>?_)
    ·replace h:=cndT hb23 h
     refine W.sk<|Px.sq ?_
     refine W.sq'<|W.bk ?_
     refine W.sq'<|W.sq' ?_
     obtain ⟨x24,hx24,h⟩:=bnd h
     obtain ⟨x25,hx25,h⟩:=bnd h
     refine W.rx [(1,_),(4,_),(5,_),(6,_),(8,_),(11,_),(62,_)] (Rv (O.mv (.imm q))<|Rv (O.mv (.imm q))<|Vm q<|Rv (O.ixI (.imm q) (.lit q) sl27 hx24)<|Rv (O.ldI (x:=I64 x24) (.iptr q) ct3 q)<|Rc (PC.go (.cc (.imm q) (.cc (.lit q) .nil)) (CF.go hx25) call41 q)<|Rv (O.not (.lit q))<|Fi (tn7 q q q q q q q)) ?_
     refine Px.sq<|W.cnd q (fun hb26=>?_) (fun hb26=>?_)
     ·replace h:=cndT hb26 h
      refine W.xi ?_
      refine Px.sqE ?_
      refine Px.bkH ?_
      refine Px.sq<|W.rx [(1,_),(4,_),(5,_),(6,_),(8,_),(11,_)] (Vm q<|Rv (O.add (.lit q) (.k q))<|RunL.re (G1:=[(1,_),(4,_),(5,_),(6,_),(8,_),(55,_)]) (tn6 q q q q q q)<|Va q<|Fi (tn6 q q q q q q)) ?_
      obtain rfl:=sm h
      exact Px.go (tn6 q q q q q q)
     ·replace h:=cndF hb26 h
      refine W.sk<|Px.sq ?_
      refine W.sq' ?_
      obtain ⟨x27,hx27,h⟩:=bnd h
      obtain ⟨x28,hx28,h⟩:=bnd h
      obtain ⟨x29,hx29,h⟩:=bnd h
      refine W.rd [[],[],[],[1,2],[1,2,3],[1,2,3,4],[],[],[6,7],[6,7,8],rn 0 10 [],rn 0 11 []] [(1,_),(4,_),(5,_),(6,_),(8,_),(11,_),(12,_)] mixo (by kernel_rfl) (Dv 0 (O.ldON (cs':=[iR eTok a0.Toks,iR eNon a0.Nons,iR eProd_0 a0.Prods,SS a0.Pro,SS a0.Tail]) q (.obj q) at38 q q)<|Dv 1 (O.mv (.own q))<|Dv 2 (O.mv (.lit q))<|Dv 3 (O.ixO (en:=eState_m) q (.brw q) (.lit q) sl39 hx27 q)<|Dv 4 (O.fE (en:=eState_m) q (.ptr q) fd100_0 hx27 q q)<|Dv 5 (O.ldE (en:=eState_m) (x':=iR eItem x27.Kernel) q (.ptr q) ct97 hx27 q q)<|Dv 6 (O.mv (.imm q))<|Dv 7 (O.mv (.lit q))<|Dv 8 (O.ixI (.imm q) (.lit q) sl27 hx28)<|Dv 9 (O.ldI (x:=I64 x28) (.iptr q) ct3 q)<|Dc 10 (PC.go (.cc (.aggF q q) (.cc (.imm q) (.cc (.lit q) .nil))) (CF.go hx29) call65 q)<|Dv 11 (O.az (.imm q))<|DL.fin q q q (tn7 q q q q q q q)) ?_
      refine Px.sq<|W.sq' ?_
      obtain ⟨x30,hx30,h⟩:=bnd h
      refine W.rx [(1,_),(4,_),(5,_),(6,_),(8,_),(11,_),(12,_),(13,_)] (Rv (O.mv (.own q))<|Rv (O.mv (.imm q))<|Rc (PC.vw (ys:=[.brw eState_m.z ⟨4,[]⟩ s19.1.length,iR eItem x29]) q (.c (.row q) (.s .nil)) (CF.go hx30) call66 q)<|Va q<|Fi (tn8 q q q q q q q q)) ?_
      refine Px.sq<|W.sq' ?_
      refine W.sq'<|W.rx [(1,_),(4,_),(5,_),(6,_),(8,_),(11,_),(12,_),(13,_),(78,_)] (Vm q<|Rv (O.lss (.lit q) (.k q))<|Fi (tn9 q q q q q q q q q)) ?_
      refine Px.sq<|W.cnd q (fun hb31=>?_) (fun hb31=>?_)
      ·replace h:=cndT hb31 h
       refine W.sq'<|W.rx [(1,_),(4,_),(5,_),(6,_),(8,_),(11,_),(12,_),(13,_)] (Rv (O.mv (.own q))<|Rv (O.lenO (.brw q) sl39)<|RunL.re (G1:=[(1,_),(4,_),(5,_),(6,_),(8,_),(11,_),(12,_),(80,_)]) (tn8 q q q q q q q q)<|Va q<|Fi (tn8 q q q q q q q q)) ?_
       refine Px.sq<|W.sq' ?_
       refine W.sq'<|W.rx [(1,_),(4,_),(5,_),(6,_),(8,_),(11,_),(12,_),(13,_),(82,_)] (Vm q<|Rv (O.eql (.lit q) (.k q))<|Fi (tn9 q q q q q q q q q)) ?_
       refine Px.sq<|W.cnd q (fun hb32=>?_) (fun hb32=>?_)
       ·replace h:=cndT hb32 h
        refine W.sq'<|W.rx [(2,_),(3,_)] (Rv (O.az .knil)<|Vk q<|Fi (tn2 q q)) ?_
        refine Px.sq<|W.fz (G1:=[(2,iR eState_0 ([]:List State)),(3,_)]) [2] (.z q q .zz (.n q q .nil)) ?_
        refine W.rt ?_
        refine Px.sqR ?_
        refine Px.sqR ?_
        refine Px.bkR ?_
        refine Px.sqR ?_
        obtain rfl:=sm h
        exact Px.r2 (tn2 q q)
       ·replace h:=cndF hb32 h
        refine W.sk<|Px.sq ?_
        obtain ⟨x33,hx33,h⟩:=bnd h
        refine W.rx [(1,_),(4,_),(5,_),(6,_),(8,_),(11,_),(13,_)] (Rv (O.mv (.own q))<|Rv (O.mv (.imm q))<|Rv (O.bu (cs:=[iR eItem x29,.nils]) sc100 ze100 q q q)<|Rv (O.bsL (ys:=[.agg [iR eItem x29,.nils]]) (cs:=[iR eItem x29,.nils]) sl39 q q q q q zt100 q q)<|Rv (O.apL (en:=eState_m) (M:=[(⟨x29,([]:List Move)⟩:State)]) (r:=x33) (.brw q) q (.own q) q q q q ap39 q hx33)<|RunL.ea (G2:=[(1,.obj (eGrammar_0.cells a0)),(5,iR eI x1),(6,I64 s2.2),(8,iR eI x10),(11,I64 s19.2),(13,I64 (s19.1.length:Int))]) q (EO.apG (M:=[(⟨x29,([]:List Move)⟩:State)]) q q (.pend q) q q q (.f (.f .nil)) (.f (.o .nil)) q q (tn6 q q q q q q) q q)<|Fi (tn7 q q q q q q q)) ?_
        refine Px.sq ?_
        obtain ⟨x34,hx34,h⟩:=bnd h
        obtain ⟨x35,hx35,h⟩:=bnd h
        obtain ⟨x36,hx36,h⟩:=bnd h
        refine W.rd [[],[],[],[],[2,3],[2,3,4],[2,3,4,5],[],[],[7,8],[7,8,9],[],rn 7 5 [],rn 7 6 [],rn 2 12 [],rn 0 15 [],rn 0 16 [],rn 0 17 []] [(1,_),(4,_),(5,_),(6,_),(8,_),(11,_)] mixo (by kernel_rfl) (Dv 0 (O.mv (.own q))<|Dv 1 (O.mv (.lit q))<|Dv 2 (O.mv (.own q))<|Dv 3 (O.mv (.lit q))<|Dv 4 (O.ixO (en:=eState_m) q (.brw q) (.lit q) sl39 hx34 q)<|Dv 5 (O.fE (en:=eState_m) q (.ptr q) fd100_1 hx34 q q)<|Dv 6 (O.ldE (en:=eState_m) (x':=.brw eMove.z ⟨4,[s2.2.toNat * eState_m.z+1]⟩ x34.Moves.length) q (.ptr q) ct98 hx34 q q)<|Dv 7 (O.mv (.imm q))<|Dv 8 (O.mv (.lit q))<|Dv 9 (O.ixI (.imm q) (.lit q) sl27 hx35)<|Dv 10 (O.ldI (x:=I64 x35) (.iptr q) ct3 q)<|Dv 11 (O.mv (.lit q))<|Dv 12 (O.bu (cs:=[I64 x35,I64 (s19.1.length:Int)]) sc132 ze132 q q q)<|DL.vi 13 (x:=iR eMove [(⟨x35,(s19.1.length:Int)⟩:Move)]) (O.bs (ys:=[.agg [I64 x35,I64 (s19.1.length:Int)]]) eMove [(⟨x35,(s19.1.length:Int)⟩:Move)] sl98 q q q q q q zt132 q q) q q q q .none<|Dv 14 (O.ap (en:=eMove) (r:=x36) (.brw q) (atP_el (r:=4) (path:=[]) (o:=1) (en:=eState_m) q hx34 q) (.imm q) .i ap98 q hx36)<|Dv 15 (O.ixO (en:=eState_m) q (.brw q) (.lit q) sl39 hx34 q)<|Dv 16 (O.fE (en:=eState_m) q (.ptr q) fd100_1 hx34 q q)<|DL.bp 17 (G2:=[(1,.obj (eGrammar_0.cells a0)),(4,oR eState_m ((s19.1++[(⟨x29,([]:List Move)⟩:State)]).set s2.2.toNat (⟨x34.Kernel,x34.Moves++[(⟨x35,(s19.1.length:Int)⟩:Move)]⟩:State))),(5,iR eI x1),(6,I64 s2.2),(8,iR eI x10),(11,I64 s19.2)]) (EO.stEP (en:=eState_m) (en2:=eMove) (M:=[(⟨x35,(s19.1.length:Int)⟩:Move)]) (y2:=(⟨x34.Kernel,x34.Moves++[(⟨x35,(s19.1.length:Int)⟩:Move)]⟩:State)) (x2:=oR eState_m ((s19.1++[(⟨x29,([]:List Move)⟩:State)]).set s2.2.toNat (⟨x34.Kernel,x34.Moves++[(⟨x35,(s19.1.length:Int)⟩:Move)]⟩:State))) (y0:=.own eState_m.z (s19.1++[(⟨x29,([]:List Move)⟩:State)]).length ((rowc eState_m (s19.1++[(⟨x29,([]:List Move)⟩:State)])).set (s2.2.toNat * eState_m.z+1) .dead)) q q (.ptr q) (.pend q) q q hx34 q q .ns .rf q q sz98 q q q q q q (.n q q (.b q (.n q q (.n q q (.n q q (.n q q .nil))))))) q q q q (by kernel_rfl) (by kernel_rfl)<|DL.fin q q q (tn6 q q q q q q)) ?_
        refine Px.bk ?_
        refine Px.sq<|W.rx [(1,_),(4,_),(5,_),(6,_),(8,_),(11,_)] (Vm q<|Rv (O.add (.lit q) (.k q))<|RunL.re (G1:=[(1,_),(4,_),(5,_),(6,_),(8,_),(55,_)]) (tn6 q q q q q q)<|Va q<|Fi (tn6 q q q q q q)) ?_
        obtain rfl:=sm h
        exact Px.go (tn6 q q q q q q)
      ·replace h:=cndF hb31 h
       refine W.sk<|Px.sq ?_
       obtain ⟨x37,hx37,h⟩:=bnd h
       obtain ⟨x38,hx38,h⟩:=bnd h
       obtain ⟨x39,hx39,h⟩:=bnd h
       refine W.rd [[],[],[],[],[2,3],[2,3,4],[2,3,4,5],[],[],[7,8],[7,8,9],[],rn 7 5 [],rn 7 6 [],rn 2 12 [],rn 0 15 [],rn 0 16 [],rn 0 17 []] [(1,_),(4,_),(5,_),(6,_),(8,_),(11,_)] mixo (by kernel_rfl) (Dv 0 (O.mv (.own q))<|Dv 1 (O.mv (.lit q))<|Dv 2 (O.mv (.own q))<|Dv 3 (O.mv (.lit q))<|Dv 4 (O.ixO (en:=eState_m) q (.brw q) (.lit q) sl39 hx37 q)<|Dv 5 (O.fE (en:=eState_m) q (.ptr q) fd100_1 hx37 q q)<|Dv 6 (O.ldE (en:=eState_m) (x':=.brw eMove.z ⟨4,[s2.2.toNat * eState_m.z+1]⟩ x37.Moves.length) q (.ptr q) ct98 hx37 q q)<|Dv 7 (O.mv (.imm q))<|Dv 8 (O.mv (.lit q))<|Dv 9 (O.ixI (.imm q) (.lit q) sl27 hx38)<|Dv 10 (O.ldI (x:=I64 x38) (.iptr q) ct3 q)<|Dv 11 (O.mv (.lit q))<|Dv 12 (O.bu (cs:=[I64 x38,I64 x30]) sc132 ze132 q q q)<|DL.vi 13 (x:=iR eMove [(⟨x38,x30⟩:Move)]) (O.bs (ys:=[.agg [I64 x38,I64 x30]]) eMove [(⟨x38,x30⟩:Move)] sl98 q q q q q q zt132 q q) q q q q .none<|Dv 14 (O.ap (en:=eMove) (r:=x39) (.brw q) (atP_el (r:=4) (path:=[]) (o:=1) (en:=eState_m) q hx37 q) (.imm q) .i ap98 q hx39)<|Dv 15 (O.ixO (en:=eState_m) q (.brw q) (.lit q) sl39 hx37 q)<|Dv 16 (O.fE (en:=eState_m) q (.ptr q) fd100_1 hx37 q q)<|DL.bp 17 (G2:=[(1,.obj (eGrammar_0.cells a0)),(4,oR eState_m (s19.1.set s2.2.toNat (⟨x37.Kernel,x37.Moves++[(⟨x38,x30⟩:Move)]⟩:State))),(5,iR eI x1),(6,I64 s2.2),(8,iR eI x10),(11,I64 s19.2)]) (EO.stEP (en:=eState_m) (en2:=eMove) (M:=[(⟨x38,x30⟩:Move)]) (y2:=(⟨x37.Kernel,x37.Moves++[(⟨x38,x30⟩:Move)]⟩:State)) (x2:=oR eState_m (s19.1.set s2.2.toNat (⟨x37.Kernel,x37.Moves++[(⟨x38,x30⟩:Move)]⟩:State))) (y0:=.own eState_m.z s19.1.length ((rowc eState_m s19.1).set (s2.2.toNat * eState_m.z+1) .dead)) q q (.ptr q) (.pend q) q q hx37 q q .ns .rf q q sz98 q q q q q q (.n q q (.b q (.n q q (.n q q (.n q q (.n q q .nil))))))) q q q q (by kernel_rfl) (by kernel_rfl)<|DL.fin q q q (tn6 q q q q q q)) ?_
       refine Px.bk ?_
       refine Px.sq<|W.rx [(1,_),(4,_),(5,_),(6,_),(8,_),(11,_)] (Vm q<|Rv (O.add (.lit q) (.k q))<|RunL.re (G1:=[(1,_),(4,_),(5,_),(6,_),(8,_),(55,_)]) (tn6 q q q q q q)<|Va q<|Fi (tn6 q q q q q q)) ?_
       obtain rfl:=sm h
       exact Px.go (tn6 q q q q q q)
    ·replace h:=cndF hb23 h
     refine W.xi ?_
     refine Px.sqE ?_
     obtain rfl:=sm h
     exact Px.x2 (tn4 q q q q)
   ·subst hx
    refine Px.bkH ?_
    refine Px.bk ?_
    refine Px.sq<|W.rx [(1,_),(4,_),(5,_),(6,_)] (Vm q<|Rv (O.add (.lit q) (.k q))<|RunL.re (G1:=[(1,_),(4,_),(5,_),(25,_)]) (tn4 q q q q)<|Va q<|Fi (tn4 q q q q)) ?_
    obtain rfl:=sm h
    exact Px.go (tn4 q q q q)
   ·subst hx
    refine Px.bkR ?_
    refine Px.bkR ?_
    refine Px.sqR ?_
    obtain rfl:=sm h
    exact Px.r2 (tn2 q q)
  ·replace h:=cndF hb6 h
   refine W.xi ?_
   refine Px.sqE ?_
   obtain rfl:=sm h
   exact Px.x2 (.n q .nil)
 ·subst hx
  refine Px.bkH ?_
  refine Px.sq<|W.sq' ?_
  refine W.rx [(2,_),(3,_)] (Rv (O.mv (.own q))<|RunL.ea (G2:=[]) q (EO.aR q q (.brw q) q .nil q q)<|Vk q<|Fi (tn2 q q)) ?_
  refine Px.sq<|W.fz (G1:=[(2,iR eState_0 x4),(3,_)]) [2] (.z q q .zz (.n q q .nil)) ?_
  refine W.rt ?_
  obtain rfl:=sm h
  exact Px.fin (Fin.ro (.f q q (.f q q .nil)) q (ode (by kernel_rfl)) (.no .nil) q (.inr q))
 ·subst hx
  refine Px.bkR ?_
  refine Px.sqR ?_
  obtain rfl:=sm h
  exact Px.fin (Fin.ro (.f q q (.f q q .nil)) q (ode (by kernel_rfl)) (.no .nil) q (.inr q))
end Go.Proofs
