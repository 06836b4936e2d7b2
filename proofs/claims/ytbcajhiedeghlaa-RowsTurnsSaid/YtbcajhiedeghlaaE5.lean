/-
  What is proved here: parts of the proof that the last text states: rules for walks through code, and of this program's functions what they answer. No condition of their own.
-/
import Derived.Test.YtbcajhiedeghlaaRows
import Derived.Test.YtbcajhiedeghlaaE4
namespace Go.Proofs
open Go Go.Own
set_option maxRecDepth 100000
set_option linter.unusedVariables false
theorem con78 (a0:Source) (r:Grammar × Int × Int × ByteArray) (h:pf78 a0=some r):Con Try.prog 78 [.agg (eSource_0.cells a0)] [none] (.tup [.agg (eGrammar_0.cells r.1),I64 r.2.1,I64 r.2.2.1,SS r.2.2.2]):=by
 unfold pf78 at h
 refine Con.go (N:=⟨435,[]⟩) Try.func78 q q q q (W.fin ?_)
 refine W.st [(0,.agg (eSource_0.cells a0))] ?_
 refine W.sq'<|W.rx [(1,_),(2,_)] (Rv (O.box (.aggF q q) q)<|Rv (O.al (cs:=[.nils,.nils,.nils,SS S0,SS S0]) ze44 q q)<|Vk q<|Vk q<|Vk q<|Fi (tn2 q q)) ?_
 refine Px.sq<|W.sq' ?_
 refine W.sq' ?_
 obtain ⟨x1,hx1,h⟩:=bnd h
 refine W.rx [(1,_),(2,_),(28,_)] (Rv (O.ldON (cs':=[SS a0.Pro,iR eDecl_0 a0.Decls,iR eRule_0 a0.Rules,SS a0.Tail]) q (.obj q) at33 q q)<|Rc (PC.go (.cc (.aggF q q) .nil) (con92 a0 _ hx1) call92 q)<|Rv (O.not (.lit q))<|Fi (tn3 q q q)) ?_
 refine Px.sq<|W.cnd q (fun hb2=>?_) (fun hb2=>?_)
 ·replace h:=cndT hb2 h
  refine W.sq'<|W.rx [(2,_),(3,_),(4,_),(5,_)] (Rv (O.bu (cs:=[.nils,.nils,.nils,SS S0,SS S0]) sc44 ze44 q q q)<|RunL.sO (G2:=[(2,_)]) (cs2:=[.nils,.nils,.nils,SS S0,SS S0]) q (.obj q) (.aggF q q) q sz44 q q q q (.b q .nil)<|Vk q<|Vk q<|Vk q<|Fi (tn4 q q q q)) ?_
  refine Px.sq<|W.fz (G1:=[(2,.obj [iR eTok ([]:List Tok),iR eNon ([]:List Non),iR eProd_0 ([]:List Prod),SS S0,SS S0]),(3,_),(4,_),(5,_)]) [2] (.z q q (FzL.obj (.z (.z (.z (.f (.f .nil)))))) (.n q q (.n q q (.n q q .nil)))) ?_
  refine W.rt ?_
  refine Px.sqR ?_
  obtain rfl:=sm h
  exact Px.fin (Fin.ro (.c (ys0:=[iR eTok ([]:List Tok),iR eNon ([]:List Non),iR eProd_0 ([]:List Prod),SS S0,SS S0]) q at44 q q q (.f q (.f q (.f q (.f q (.f q .nil))))) (.f q q (.f q q (.f q q .nil)))) q (ode (by kernel_rfl)) (.no .nil) q (.inr q))
 ·replace h:=cndF hb2 h
  refine W.sk<|Px.sq ?_
  refine W.sq' ?_
  obtain ⟨x3,hx3,h⟩:=bnd h
  refine W.rx [(1,_),(2,_),(6,_)] (Rv (O.mk (en:=eB) (z0:=false) sl103 (.k q) (.k q) ze4 q q hx3 bb4 q)<|Rv (O.bu (cs:=[.nils,.nils,.nils,SS S0,SS S0,.brw eB.z ⟨30,[]⟩ x3.length,.nils,.nils,I64 0,I64 0,SS S0,I64 0,I64 0]) sc169 ze169 q q q)<|Rv (O.box (.aggF q q) q)<|RunL.ea (G2:=[(1,.obj (eSource_0.cells a0)),(2,.obj [.nils,.nils,.nils,SS S0,SS S0])]) q (EO.aG (y':=.obj [.nils,.nils,.nils,SS S0,SS S0,oR eB x3,.nils,.nils,I64 0,I64 0,SS S0,I64 0,I64 0]) q q (.obj q) (.b q (.f (.f (.f (.f (.f (.r q (.f (.f (.f (.f (.f (.f (.f .nil))))))))))))) .nil) .refl (tn2 q q) q q)<|Fi (tn3 q q q)) ?_
  refine Px.sq<|W.sq' ?_
  refine W.rx [(1,_),(2,_),(6,_)] (Rv (O.mv (.obj q))<|Rv (O.bu (cs:=[SS ({ data:=#[36,101,110,100] }),BB false,I64 0,I64 0,I64 0,SS S0]) sc78 ze78 q q q)<|Rv (O.bu (cs:=[SS ({ data:=#[101,114,114,111,114] }),BB false,I64 (-1),I64 0,I64 0,SS S0]) sc78 ze78 q q q)<|Rv (O.bu (cs:=[SS ({ data:=#[36,117,110,107] }),BB false,I64 (-1),I64 0,I64 0,SS S0]) sc78 ze78 q q q)<|Rv (O.bs (ys:=[.agg [SS ({ data:=#[36,101,110,100] }),BB false,I64 0,I64 0,I64 0,SS S0],.agg [SS ({ data:=#[101,114,114,111,114] }),BB false,I64 (-1),I64 0,I64 0,SS S0],.agg [SS ({ data:=#[36,117,110,107] }),BB false,I64 (-1),I64 0,I64 0,SS S0]]) eTok [(⟨{ data:=#[36,101,110,100] },false,0,0,0,S0⟩:Tok),(⟨{ data:=#[101,114,114,111,114] },false,(-1),0,0,S0⟩:Tok),(⟨{ data:=#[36,117,110,107] },false,(-1),0,0,S0⟩:Tok)] sl40 q q q q q q zt78 q q)<|Rv (O.nlP (.ptr q))<|Rv (O.fO q (.ptr q) fd169_0 q)<|Rv (O.fO q (.ptr q) fd44_0 q)<|RunL.ef (G2:=[(1,.obj (eSource_0.cells a0)),(2,.obj [.nils,.nils,.nils,SS S0,SS S0]),(6,.obj [oR eTok [(⟨{ data:=#[36,101,110,100] },false,0,0,0,S0⟩:Tok),(⟨{ data:=#[101,114,114,111,114] },false,(-1),0,0,S0⟩:Tok),(⟨{ data:=#[36,117,110,107] },false,(-1),0,0,S0⟩:Tok)],.nils,.nils,SS S0,SS S0,oR eB x3,.nils,.nils,I64 0,I64 0,SS S0,I64 0,I64 0])]) q (EO.stB (y':=oR eTok [(⟨{ data:=#[36,101,110,100] },false,0,0,0,S0⟩:Tok),(⟨{ data:=#[101,114,114,111,114] },false,(-1),0,0,S0⟩:Tok),(⟨{ data:=#[36,117,110,107] },false,(-1),0,0,S0⟩:Tok)]) (cs2:=[oR eTok [(⟨{ data:=#[36,101,110,100] },false,0,0,0,S0⟩:Tok),(⟨{ data:=#[101,114,114,111,114] },false,(-1),0,0,S0⟩:Tok),(⟨{ data:=#[36,117,110,107] },false,(-1),0,0,S0⟩:Tok)],.nils,.nils,SS S0,SS S0,oR eB x3,.nils,.nils,I64 0,I64 0,SS S0,I64 0,I64 0]) q q (.ptr q) (.own q) (.r q .nil) .refl q sz40 q q q q q (.n q q (.n q q (.b q .nil))))<|Fi (tn3 q q q)) ?_
  refine Px.sq<|W.sq' ?_
  refine W.rx [(1,_),(2,_),(6,_),(7,_)] (Vk q<|Fi (tn4 q q q q)) ?_
  refine Px.sq<|W.sq' ?_
  refine W.sq'<|W.rx [(1,_),(2,_),(6,_),(7,_),(8,_)] (Vk q<|Fi (tn5 q q q q q)) ?_
  refine Px.sq<|W.bk ?_
  obtain ⟨x5,hl,h⟩:=bnd h
  refine W.tr (G1:=[(1,_),(2,_),(6,.obj [oR eTok (((⟨(⟨[(⟨{ data:=#[36,101,110,100] },false,0,0,0,S0⟩:Tok),(⟨{ data:=#[101,114,114,111,114] },false,(-1),0,0,S0⟩:Tok),(⟨{ data:=#[36,117,110,107] },false,(-1),0,0,S0⟩:Tok)],[],[],S0,S0⟩:Grammar),x3,[],[],0,0,S0,0,0⟩:yuccaref9_maker).f_g).Toks),oR eNon (((⟨(⟨[(⟨{ data:=#[36,101,110,100] },false,0,0,0,S0⟩:Tok),(⟨{ data:=#[101,114,114,111,114] },false,(-1),0,0,S0⟩:Tok),(⟨{ data:=#[36,117,110,107] },false,(-1),0,0,S0⟩:Tok)],[],[],S0,S0⟩:Grammar),x3,[],[],0,0,S0,0,0⟩:yuccaref9_maker).f_g).Nons),oR eProd_0 (((⟨(⟨[(⟨{ data:=#[36,101,110,100] },false,0,0,0,S0⟩:Tok),(⟨{ data:=#[101,114,114,111,114] },false,(-1),0,0,S0⟩:Tok),(⟨{ data:=#[36,117,110,107] },false,(-1),0,0,S0⟩:Tok)],[],[],S0,S0⟩:Grammar),x3,[],[],0,0,S0,0,0⟩:yuccaref9_maker).f_g).Prods),SS (((⟨(⟨[(⟨{ data:=#[36,101,110,100] },false,0,0,0,S0⟩:Tok),(⟨{ data:=#[101,114,114,111,114] },false,(-1),0,0,S0⟩:Tok),(⟨{ data:=#[36,117,110,107] },false,(-1),0,0,S0⟩:Tok)],[],[],S0,S0⟩:Grammar),x3,[],[],0,0,S0,0,0⟩:yuccaref9_maker).f_g).Pro),SS (((⟨(⟨[(⟨{ data:=#[36,101,110,100] },false,0,0,0,S0⟩:Tok),(⟨{ data:=#[101,114,114,111,114] },false,(-1),0,0,S0⟩:Tok),(⟨{ data:=#[36,117,110,107] },false,(-1),0,0,S0⟩:Tok)],[],[],S0,S0⟩:Grammar),x3,[],[],0,0,S0,0,0⟩:yuccaref9_maker).f_g).Tail),oR eB ((⟨(⟨[(⟨{ data:=#[36,101,110,100] },false,0,0,0,S0⟩:Tok),(⟨{ data:=#[101,114,114,111,114] },false,(-1),0,0,S0⟩:Tok),(⟨{ data:=#[36,117,110,107] },false,(-1),0,0,S0⟩:Tok)],[],[],S0,S0⟩:Grammar),x3,[],[],0,0,S0,0,0⟩:yuccaref9_maker).f_given),oR eNon ((⟨(⟨[(⟨{ data:=#[36,101,110,100] },false,0,0,0,S0⟩:Tok),(⟨{ data:=#[101,114,114,111,114] },false,(-1),0,0,S0⟩:Tok),(⟨{ data:=#[36,117,110,107] },false,(-1),0,0,S0⟩:Tok)],[],[],S0,S0⟩:Grammar),x3,[],[],0,0,S0,0,0⟩:yuccaref9_maker).f_types),oR eS ((⟨(⟨[(⟨{ data:=#[36,101,110,100] },false,0,0,0,S0⟩:Tok),(⟨{ data:=#[101,114,114,111,114] },false,(-1),0,0,S0⟩:Tok),(⟨{ data:=#[36,117,110,107] },false,(-1),0,0,S0⟩:Tok)],[],[],S0,S0⟩:Grammar),x3,[],[],0,0,S0,0,0⟩:yuccaref9_maker).f_lefts),I64 ((⟨(⟨[(⟨{ data:=#[36,101,110,100] },false,0,0,0,S0⟩:Tok),(⟨{ data:=#[101,114,114,111,114] },false,(-1),0,0,S0⟩:Tok),(⟨{ data:=#[36,117,110,107] },false,(-1),0,0,S0⟩:Tok)],[],[],S0,S0⟩:Grammar),x3,[],[],0,0,S0,0,0⟩:yuccaref9_maker).f_e),I64 ((⟨(⟨[(⟨{ data:=#[36,101,110,100] },false,0,0,0,S0⟩:Tok),(⟨{ data:=#[101,114,114,111,114] },false,(-1),0,0,S0⟩:Tok),(⟨{ data:=#[36,117,110,107] },false,(-1),0,0,S0⟩:Tok)],[],[],S0,S0⟩:Grammar),x3,[],[],0,0,S0,0,0⟩:yuccaref9_maker).f_at),SS ((⟨(⟨[(⟨{ data:=#[36,101,110,100] },false,0,0,0,S0⟩:Tok),(⟨{ data:=#[101,114,114,111,114] },false,(-1),0,0,S0⟩:Tok),(⟨{ data:=#[36,117,110,107] },false,(-1),0,0,S0⟩:Tok)],[],[],S0,S0⟩:Grammar),x3,[],[],0,0,S0,0,0⟩:yuccaref9_maker).f_name),I64 ((⟨(⟨[(⟨{ data:=#[36,101,110,100] },false,0,0,0,S0⟩:Tok),(⟨{ data:=#[101,114,114,111,114] },false,(-1),0,0,S0⟩:Tok),(⟨{ data:=#[36,117,110,107] },false,(-1),0,0,S0⟩:Tok)],[],[],S0,S0⟩:Grammar),x3,[],[],0,0,S0,0,0⟩:yuccaref9_maker).f_level),I64 ((⟨(⟨[(⟨{ data:=#[36,101,110,100] },false,0,0,0,S0⟩:Tok),(⟨{ data:=#[101,114,114,111,114] },false,(-1),0,0,S0⟩:Tok),(⟨{ data:=#[36,117,110,107] },false,(-1),0,0,S0⟩:Tok)],[],[],S0,S0⟩:Grammar),x3,[],[],0,0,S0,0,0⟩:yuccaref9_maker).f_inner)]),(7,_),(8,_)]) (.n q (.n q (.w q q (WkL.obj (.f (.o (.o (.f (.f (.f (.o (.o (.f (.f (.f (.f (.f .nil)))))))))))))) (tn2 q q)))) ?_
  refine W.lp1 (s:=((⟨(⟨[(⟨{ data:=#[36,101,110,100] },false,0,0,0,S0⟩:Tok),(⟨{ data:=#[101,114,114,111,114] },false,(-1),0,0,S0⟩:Tok),(⟨{ data:=#[36,117,110,107] },false,(-1),0,0,S0⟩:Tok)],[],[],S0,S0⟩:Grammar),x3,[],[],0,0,S0,0,0⟩:yuccaref9_maker),S0,0)) (fun (s4:yuccaref9_maker × ByteArray × Int)=>[(1,.obj (eSource_0.cells a0)),(2,.obj [.nils,.nils,.nils,SS S0,SS S0]),(6,.obj (eyuccaref9_maker_r.cells s4.1)),(7,SS s4.2.1),(8,I64 s4.2.2)]) 0 (fun (x5:yuccaref9_maker × ByteArray)=>[(1,.obj (eSource_0.cells a0)),(2,.obj [.nils,.nils,.nils,SS S0,SS S0]),(6,.obj (eyuccaref9_maker_r.cells x5.1)),(7,SS x5.2)]) hl (fun s4 o h=>?_) ?_
  ·clear hl
   refine W.sq'<|W.sq' ?_
   refine W.rx [(1,_),(2,_),(6,_),(7,_),(8,_),(45,_)] (Vm q<|Rv (O.fO q (.obj q) fd33_1 q)<|Rv (O.ldO (y:=iR eDecl_0 a0.Decls) q (.ptr q) ct30 q q)<|Rv (O.lenI (.imm q) sl30)<|Rv (O.lss (.lit q) (.lit q))<|Fi (tn6 q q q q q q)) ?_
   refine Px.sq<|W.cnd q (fun hb7=>?_) (fun hb7=>?_)
   ·replace h:=cndT hb7 h
    refine W.sk<|Px.sq ?_
    refine W.sq'<|W.bk ?_
    refine W.sq' ?_
    obtain ⟨x8,hx8,h⟩:=bnd h
    refine W.rx [(1,_),(2,_),(6,_),(7,_),(8,_),(9,_)] (Rv (O.fO q (.obj q) fd33_1 q)<|Rv (O.ldO (y:=iR eDecl_0 a0.Decls) q (.ptr q) ct30 q q)<|Vm q<|Rv (O.ixI (.imm q) (.lit q) sl30 hx8)<|Rv (O.ldIN (cs':=[I64 x8.Kind,SS x8.Tag,iR eSym x8.Syms,I64 x8.At]) (.iptr q) at100 q q)<|Rv (O.al (cs:=[I64 0,SS S0,.nils,I64 0]) ze100 q q)<|RunL.sO (G2:=[(1,_),(2,_),(6,_),(7,_),(8,_),(9,_)]) (cs2:=[I64 x8.Kind,SS x8.Tag,iR eSym x8.Syms,I64 x8.At]) q (.obj q) (.aggF q q) q sz100 q q q q (.n q q (.n q q (.n q q (.n q q (.n q q (.b q .nil))))))<|Fi (tn6 q q q q q q)) ?_
    refine Px.sq<|W.sq' ?_
    refine W.sq' ?_
    obtain ⟨c10,hj,h⟩:=bnd h
    refine W.rx [(1,.obj (eSource_0.cells a0)),(2,.obj [.nils,.nils,.nils,SS S0,SS S0]),(6,.obj (eyuccaref9_maker_r.cells s4.1)),(7,SS s4.2.1),(8,I64 s4.2.2),(9,.obj (eDecl_0.cells x8)),(60,BB c10)] ?_ ?_
    ·refine Rv (O.fO q (.obj q) fd100_0 q)<|Rv (O.ldO (y:=I64 x8.Kind) q (.ptr q) ct3 q q)<|Rv (O.geq (.lit q) (.k q))<|Rv (O.mv (.lit q)) ?_
     rcases cnd hj with ⟨hb9,hj⟩ | ⟨hb9,hj⟩
     ·obtain rfl:=sm hj
      exact RunL.v (O.fO q (.obj q) fd100_0 q) q q (.yb q q hb9)<|RunL.v (O.ldO (y:=I64 x8.Kind) q (.ptr q) ct3 q q) q q (.yb q q hb9)<|RunL.v (O.leq (.lit q) (.k q)) q q (.yb q q hb9)<|Rv (O.pkT (.lit q) hb9 (.lit q))<|Fi (tn7 q q q q q q q)
     ·obtain rfl:=sm hj
      exact RunL.ps q q hb9 q q<|RunL.ps q q hb9 q q<|RunL.ps q q hb9 q q<|Rv (O.pkF (.lit q) hb9 (.k q))<|Fi (tn7 q q q q q q q)
    refine Px.sq ?_
    obtain ⟨j11,hj,h⟩:=bnd h
    refine W.jn [(1,.obj (eSource_0.cells a0)),(2,.obj [.nils,.nils,.nils,SS S0,SS S0]),(6,.obj [oR eTok s4.1.f_g.Toks,oR eNon s4.1.f_g.Nons,oR eProd_0 s4.1.f_g.Prods,SS s4.1.f_g.Pro,SS s4.1.f_g.Tail,oR eB s4.1.f_given,oR eNon s4.1.f_types,oR eS s4.1.f_lefts,I64 s4.1.f_e,I64 s4.1.f_at,SS s4.1.f_name,I64 j11,I64 s4.1.f_inner]),(7,SS s4.2.1),(8,I64 s4.2.2),(9,.obj (eDecl_0.cells x8))] ?_ ?_
    ·clear h; have h:=hj; clear hj
     refine W.cnd q (fun hb12=>?_) (fun hb12=>?_)
     ·replace h:=cndT hb12 h
      refine W.rx [(1,_),(2,_),(6,_),(7,_),(8,_),(9,_)] (Rv (O.mv (.obj q))<|Rv (O.nlP (.ptr q))<|Rv (O.fO q (.ptr q) fd169_7 q)<|Rv (O.ldO (y:=I64 s4.1.f_level) q (.ptr q) ct3 q q)<|Rv (O.add (.lit q) (.k q))<|Rv (O.nlP (.ptr q))<|Rv (O.fO q (.ptr q) fd169_7 q)<|RunL.sO (G2:=[(1,_),(2,_),(6,_),(7,_),(8,_),(9,_)]) (cs2:=[oR eTok s4.1.f_g.Toks,oR eNon s4.1.f_g.Nons,oR eProd_0 s4.1.f_g.Prods,SS s4.1.f_g.Pro,SS s4.1.f_g.Tail,oR eB s4.1.f_given,oR eNon s4.1.f_types,oR eS s4.1.f_lefts,I64 s4.1.f_e,I64 s4.1.f_at,SS s4.1.f_name,I64 (w64 (s4.1.f_level+1)),I64 s4.1.f_inner]) q (.ptr q) (.lit q) q sz3 q q q q (.n q q (.n q q (.b q (.n q q (.n q q (.n q q .nil))))))<|Fi (tn6 q q q q q q)) ?_
      obtain rfl:=sm h
      exact Px.jn (tn6 q q q q q q)
     ·replace h:=cndF hb12 h
      refine W.sk ?_
      obtain rfl:=sm h
      exact Px.jn (tn6 q q q q q q)
    refine Px.sq<|W.sq' ?_
    refine W.rx [(1,_),(2,_),(6,_),(7,_),(8,_),(9,_),(10,_)] (Vk q<|Fi (tn7 q q q q q q q)) ?_
    refine Px.sq<|W.bk ?_
    obtain ⟨x14,hl,h⟩:=bnd h
    refine W.tr (G1:=[(1,_),(2,_),(6,.obj [oR eTok (((⟨s4.1.f_g,s4.1.f_given,s4.1.f_types,s4.1.f_lefts,s4.1.f_e,s4.1.f_at,s4.1.f_name,j11,s4.1.f_inner⟩:yuccaref9_maker).f_g).Toks),oR eNon (((⟨s4.1.f_g,s4.1.f_given,s4.1.f_types,s4.1.f_lefts,s4.1.f_e,s4.1.f_at,s4.1.f_name,j11,s4.1.f_inner⟩:yuccaref9_maker).f_g).Nons),oR eProd_0 (((⟨s4.1.f_g,s4.1.f_given,s4.1.f_types,s4.1.f_lefts,s4.1.f_e,s4.1.f_at,s4.1.f_name,j11,s4.1.f_inner⟩:yuccaref9_maker).f_g).Prods),SS (((⟨s4.1.f_g,s4.1.f_given,s4.1.f_types,s4.1.f_lefts,s4.1.f_e,s4.1.f_at,s4.1.f_name,j11,s4.1.f_inner⟩:yuccaref9_maker).f_g).Pro),SS (((⟨s4.1.f_g,s4.1.f_given,s4.1.f_types,s4.1.f_lefts,s4.1.f_e,s4.1.f_at,s4.1.f_name,j11,s4.1.f_inner⟩:yuccaref9_maker).f_g).Tail),oR eB ((⟨s4.1.f_g,s4.1.f_given,s4.1.f_types,s4.1.f_lefts,s4.1.f_e,s4.1.f_at,s4.1.f_name,j11,s4.1.f_inner⟩:yuccaref9_maker).f_given),oR eNon ((⟨s4.1.f_g,s4.1.f_given,s4.1.f_types,s4.1.f_lefts,s4.1.f_e,s4.1.f_at,s4.1.f_name,j11,s4.1.f_inner⟩:yuccaref9_maker).f_types),oR eS ((⟨s4.1.f_g,s4.1.f_given,s4.1.f_types,s4.1.f_lefts,s4.1.f_e,s4.1.f_at,s4.1.f_name,j11,s4.1.f_inner⟩:yuccaref9_maker).f_lefts),I64 ((⟨s4.1.f_g,s4.1.f_given,s4.1.f_types,s4.1.f_lefts,s4.1.f_e,s4.1.f_at,s4.1.f_name,j11,s4.1.f_inner⟩:yuccaref9_maker).f_e),I64 ((⟨s4.1.f_g,s4.1.f_given,s4.1.f_types,s4.1.f_lefts,s4.1.f_e,s4.1.f_at,s4.1.f_name,j11,s4.1.f_inner⟩:yuccaref9_maker).f_at),SS ((⟨s4.1.f_g,s4.1.f_given,s4.1.f_types,s4.1.f_lefts,s4.1.f_e,s4.1.f_at,s4.1.f_name,j11,s4.1.f_inner⟩:yuccaref9_maker).f_name),I64 ((⟨s4.1.f_g,s4.1.f_given,s4.1.f_types,s4.1.f_lefts,s4.1.f_e,s4.1.f_at,s4.1.f_name,j11,s4.1.f_inner⟩:yuccaref9_maker).f_level),I64 ((⟨s4.1.f_g,s4.1.f_given,s4.1.f_types,s4.1.f_lefts,s4.1.f_e,s4.1.f_at,s4.1.f_name,j11,s4.1.f_inner⟩:yuccaref9_maker).f_inner)]),(7,_),(8,_),(9,_),(10,_)]) (tn7 q q q q q q q) ?_
    refine W.lp1 (s:=((⟨s4.1.f_g,s4.1.f_given,s4.1.f_types,s4.1.f_lefts,s4.1.f_e,s4.1.f_at,s4.1.f_name,j11,s4.1.f_inner⟩:yuccaref9_maker),s4.2.1,0)) (fun (s13:yuccaref9_maker × ByteArray × Int)=>[(1,.obj (eSource_0.cells a0)),(2,.obj [.nils,.nils,.nils,SS S0,SS S0]),(6,.obj (eyuccaref9_maker_r.cells s13.1)),(7,SS s13.2.1),(8,I64 s4.2.2),(9,.obj (eDecl_0.cells x8)),(10,I64 s13.2.2)]) 2 (fun (x14:yuccaref9_maker × ByteArray)=>[(1,.obj (eSource_0.cells a0)),(2,.obj [.nils,.nils,.nils,SS S0,SS S0]),(6,.obj (eyuccaref9_maker_r.cells x14.1)),(7,SS x14.2),(8,I64 s4.2.2)]) hl (fun s13 o h=>?_) ?_
    ·clear hl
     refine W.sq'<|W.sq' ?_
     refine W.rx [(1,_),(2,_),(6,_),(7,_),(8,_),(9,_),(10,_),(72,_)] (Vm q<|Rv (O.fO q (.obj q) fd100_2 q)<|Rv (O.ldO (y:=iR eSym x8.Syms) q (.ptr q) ct98 q q)<|Rv (O.lenI (.imm q) sl98)<|Rv (O.lss (.lit q) (.lit q))<|Fi (tn8 q q q q q q q q)) ?_
     refine Px.sq<|W.cnd q (fun hb16=>?_) (fun hb16=>?_)
     ·replace h:=cndT hb16 h
      refine W.sk<|Px.sq ?_
      refine W.sq' ?_
      obtain ⟨j17,hj,h⟩:=bnd h
      refine W.jn [(1,.obj (eSource_0.cells a0)),(2,.obj [.nils,.nils,.nils,SS S0,SS S0]),(6,.obj (eyuccaref9_maker_r.cells j17.1)),(7,SS j17.2),(8,I64 s4.2.2),(9,.obj (eDecl_0.cells x8)),(10,I64 s13.2.2)] ?_ ?_
      ·clear h; have h:=hj; clear hj
       refine W.bk<|W.sq' ?_
       refine W.sq'<|W.rx [(1,_),(2,_),(6,_),(7,_),(8,_),(9,_),(10,_),(77,_)] (Rv (O.fO q (.obj q) fd100_0 q)<|Rv (O.ldO (y:=I64 x8.Kind) q (.ptr q) ct3 q q)<|Rv (O.neq (.lit q) (.k q))<|Fi (tn8 q q q q q q q q)) ?_
       refine Px.sq<|W.cnd q (fun hb18=>?_) (fun hb18=>?_)
       ·replace h:=cndT hb18 h
        refine W.sq' ?_
        obtain ⟨x19,hx19,h⟩:=bnd h
        obtain ⟨x20,hx20,h⟩:=bnd h
        refine W.rd [[],[],[],[2],[],[2,3,4],[2,3,4,5],rn 0 7 []] [(1,_),(2,_),(6,_),(7,_),(8,_),(9,_),(10,_)] mixo (by kernel_rfl) (Dv 0 (O.mv (.obj q))<|Dv 1 (O.ldON (cs':=[I64 x8.Kind,SS x8.Tag,iR eSym x8.Syms,I64 x8.At]) q (.obj q) at100 q q)<|Dv 2 (O.fO q (.obj q) fd100_2 q)<|Dv 3 (O.ldO (y:=iR eSym x8.Syms) q (.ptr q) ct98 q q)<|Dv 4 (O.mv (.lit q))<|Dv 5 (O.ixI (.imm q) (.lit q) sl98 hx19)<|Dv 6 (O.ldIN (cs':=[SS x19.Name,BB x19.Lit,I64 x19.Num,I64 x19.At]) (.iptr q) at88 q q)<|DL.bp 7 (G2:=[(85,.tup []),(6,.obj [oR eTok x20.f_g.Toks,oR eNon x20.f_g.Nons,oR eProd_0 x20.f_g.Prods,SS x20.f_g.Pro,SS x20.f_g.Tail,oR eB x20.f_given,oR eNon x20.f_types,oR eS x20.f_lefts,I64 x20.f_e,I64 x20.f_at,SS x20.f_name,I64 x20.f_level,I64 x20.f_inner]),(1,.obj (eSource_0.cells a0)),(2,.obj [.nils,.nils,.nils,SS S0,SS S0]),(7,SS s13.2.1),(8,I64 s4.2.2),(9,.obj (eDecl_0.cells x8)),(10,I64 s13.2.2)]) (EO.call q q (CallOk.ln (G2:=[(1,.obj (eSource_0.cells a0)),(2,.obj [.nils,.nils,.nils,SS S0,SS S0]),(7,SS s13.2.1),(8,I64 s4.2.2),(9,.obj (eDecl_0.cells x8)),(10,I64 s13.2.2)]) (A:=[]) (ys:=[.ptr ⟨6,[]⟩ 0,.agg (eDecl_0.cells x8),.agg (eSym.cells x19)]) (args:=[.obj (eyuccaref9_maker_r.cells s13.1),.agg (eDecl_0.cells x8),.agg (eSym.cells x19)]) (cs':=[oR eTok x20.f_g.Toks,oR eNon x20.f_g.Nons,oR eProd_0 x20.f_g.Prods,SS x20.f_g.Pro,SS x20.f_g.Tail,oR eB x20.f_given,oR eNon x20.f_types,oR eS x20.f_lefts,I64 x20.f_e,I64 x20.f_at,SS x20.f_name,I64 x20.f_level,I64 x20.f_inner]) (k0:=0) q q q q (.b q (.n q (.n q .nil))) q (con93 s13.1 x8 x19 _ hx20) call93 (tn6 q q q q q q) q q (tn6 q q q q q q) .nil q)) q q q q (by kernel_rfl) (by kernel_rfl)<|DL.fin q q q (tn7 q q q q q q q)) ?_
        refine Px.sq<|W.xi ?_
        refine Px.sqE ?_
        refine Px.bkH ?_
        obtain rfl:=sm h
        exact Px.jn (tn7 q q q q q q q)
       ·replace h:=cndF hb18 h
        refine W.sk<|Px.sq ?_
        refine W.sq'<|W.sq' ?_
        refine W.rx [(1,_),(2,_),(6,_),(8,_),(9,_),(10,_),(87,_)] (Vm q<|Rv (O.neS (.lit q) (.k q))<|Fi (tn7 q q q q q q q)) ?_
        refine Px.sq ?_
        obtain ⟨j21,hj,h⟩:=bnd h
        refine W.jn [(1,.obj (eSource_0.cells a0)),(2,.obj [.nils,.nils,.nils,SS S0,SS S0]),(6,.obj (eyuccaref9_maker_r.cells j21)),(8,I64 s4.2.2),(9,.obj (eDecl_0.cells x8)),(10,I64 s13.2.2)] ?_ ?_
        ·clear h; have h:=hj; clear hj
         refine W.cnd q (fun hb22=>?_) (fun hb22=>?_)
         ·replace h:=cndT hb22 h
          obtain ⟨x23,hx23,h⟩:=bnd h
          obtain ⟨x24,hx24,h⟩:=bnd h
          obtain ⟨x25,hx25,h⟩:=bnd h
          refine W.rd [[],[],[1],[],[1,2,3],[1,2,3,4],rn 1 5 [],[],[7],[],[7,8,9],[7,8,9,10],rn 7 5 [],rn 0 13 []] [(1,_),(2,_),(6,_),(8,_),(9,_),(10,_)] mixo (by kernel_rfl) (Dv 0 (O.mv (.obj q))<|Dv 1 (O.fO q (.obj q) fd100_2 q)<|Dv 2 (O.ldO (y:=iR eSym x8.Syms) q (.ptr q) ct98 q q)<|Dv 3 (O.mv (.lit q))<|Dv 4 (O.ixI (.imm q) (.lit q) sl98 hx23)<|Dv 5 (O.fI (.iptr q) fd88_3)<|Dv 6 (O.ldI (x:=I64 x23.At) (.iptr q) ct3 q)<|Dv 7 (O.fO q (.obj q) fd100_2 q)<|Dv 8 (O.ldO (y:=iR eSym x8.Syms) q (.ptr q) ct98 q q)<|Dv 9 (O.mv (.lit q))<|Dv 10 (O.ixI (.imm q) (.lit q) sl98 hx24)<|Dv 11 (O.fI (.iptr q) fd88_0)<|Dv 12 (O.ldI (x:=SS x24.Name) (.iptr q) ct9 q)<|DL.bp 13 (G2:=[(101,.tup []),(6,.obj [oR eTok x25.f_g.Toks,oR eNon x25.f_g.Nons,oR eProd_0 x25.f_g.Prods,SS x25.f_g.Pro,SS x25.f_g.Tail,oR eB x25.f_given,oR eNon x25.f_types,oR eS x25.f_lefts,I64 x25.f_e,I64 x25.f_at,SS x25.f_name,I64 x25.f_level,I64 x25.f_inner]),(1,.obj (eSource_0.cells a0)),(2,.obj [.nils,.nils,.nils,SS S0,SS S0]),(8,I64 s4.2.2),(9,.obj (eDecl_0.cells x8)),(10,I64 s13.2.2)]) (EO.call q q (CallOk.ln (G2:=[(1,.obj (eSource_0.cells a0)),(2,.obj [.nils,.nils,.nils,SS S0,SS S0]),(8,I64 s4.2.2),(9,.obj (eDecl_0.cells x8)),(10,I64 s13.2.2)]) (A:=[]) (ys:=[.ptr ⟨6,[]⟩ 0,I64 x23.At,SS x24.Name]) (args:=[.obj (eyuccaref9_maker_r.cells s13.1),I64 x23.At,SS x24.Name]) (cs':=[oR eTok x25.f_g.Toks,oR eNon x25.f_g.Nons,oR eProd_0 x25.f_g.Prods,SS x25.f_g.Pro,SS x25.f_g.Tail,oR eB x25.f_given,oR eNon x25.f_types,oR eS x25.f_lefts,I64 x25.f_e,I64 x25.f_at,SS x25.f_name,I64 x25.f_level,I64 x25.f_inner]) (k0:=0) q q q q (.b q (.n q (.n q .nil))) q (con94 s13.1 x23.At x24.Name _ hx25) call94 (tn5 q q q q q) q q (tn5 q q q q q) .nil q)) q q q q (by kernel_rfl) (by kernel_rfl)<|DL.fin q q q (tn6 q q q q q q)) ?_
          obtain rfl:=sm h
          exact Px.jn (tn6 q q q q q q)
         ·replace h:=cndF hb22 h
          refine W.sk ?_
          obtain rfl:=sm h
          exact Px.jn (tn6 q q q q q q)
        refine Px.sq ?_
        obtain ⟨x26,hx26,h⟩:=bnd h
        refine W.rx [(1,_),(2,_),(6,_),(7,_),(8,_),(9,_),(10,_)] (Rv (O.fO q (.obj q) fd100_2 q)<|Rv (O.ldO (y:=iR eSym x8.Syms) q (.ptr q) ct98 q q)<|Vm q<|Rv (O.ixI (.imm q) (.lit q) sl98 hx26)<|Rv (O.fI (.iptr q) fd88_0)<|Rv (O.ldI (x:=SS x26.Name) (.iptr q) ct9 q)<|Va q<|Fi (tn7 q q q q q q q)) ?_
        refine Px.bk ?_
        obtain rfl:=sm h
        exact Px.jn (tn7 q q q q q q q)
      refine Px.sq<|W.rx [(1,_),(2,_),(6,_),(7,_),(8,_),(9,_),(10,_)] (Vm q<|Rv (O.add (.lit q) (.k q))<|RunL.re (G1:=[(1,_),(2,_),(6,_),(7,_),(8,_),(9,_),(74,_)]) (tn7 q q q q q q q)<|Va q<|Fi (tn7 q q q q q q q)) ?_
      obtain rfl:=sm h
      exact Px.go (tn7 q q q q q q q)
     ·replace h:=cndF hb16 h
      refine W.xi ?_
      refine Px.sqE ?_
      obtain rfl:=sm h
      exact Px.x1 (tn5 q q q q q)
    refine Px.bkH ?_
    refine Px.bk ?_
    refine Px.sq<|W.rx [(1,_),(2,_),(6,_),(7,_),(8,_)] (Vm q<|Rv (O.add (.lit q) (.k q))<|RunL.re (G1:=[(1,_),(2,_),(6,_),(7,_),(47,_)]) (tn5 q q q q q)<|Va q<|Fi (tn5 q q q q q)) ?_
    obtain rfl:=sm h
    exact Px.go (tn5 q q q q q)
   ·replace h:=cndF hb7 h
    refine W.xi ?_
    refine Px.sqE ?_
    obtain rfl:=sm h
    exact Px.x1 (tn4 q q q q)
  refine Px.bkH ?_
  refine Px.sq<|W.sq' ?_
  refine W.sq'<|W.rx [(1,_),(2,_),(6,_),(7,_),(11,_)] (Vk q<|Fi (tn5 q q q q q)) ?_
  refine Px.sq<|W.bk ?_
  obtain ⟨x28,hl,h⟩:=bnd h
  refine W.tr (G1:=[(1,_),(2,_),(6,_),(7,_),(11,_)]) (tn5 q q q q q) ?_
  refine W.lp1 (s:=(x5.1,0)) (fun (s27:yuccaref9_maker × Int)=>[(1,.obj (eSource_0.cells a0)),(2,.obj [.nils,.nils,.nils,SS S0,SS S0]),(6,.obj (eyuccaref9_maker_r.cells s27.1)),(7,SS x5.2),(11,I64 s27.2)]) 4 (fun (x28:yuccaref9_maker)=>[(1,.obj (eSource_0.cells a0)),(2,.obj [.nils,.nils,.nils,SS S0,SS S0]),(6,.obj (eyuccaref9_maker_r.cells x28)),(7,SS x5.2)]) hl (fun s27 o h=>?_) ?_
  ·clear hl
   refine W.sq'<|W.sq' ?_
   refine W.rx [(1,_),(2,_),(6,_),(7,_),(11,_),(112,_)] (Vm q<|Rv (O.fO q (.obj q) fd33_2 q)<|Rv (O.ldO (y:=iR eRule_0 a0.Rules) q (.ptr q) ct31 q q)<|Rv (O.lenI (.imm q) sl31)<|Rv (O.lss (.lit q) (.lit q))<|Fi (tn6 q q q q q q)) ?_
   refine Px.sq<|W.cnd q (fun hb30=>?_) (fun hb30=>?_)
   ·replace h:=cndT hb30 h
    refine W.sk<|Px.sq ?_
    refine W.sq' ?_
    obtain ⟨j31,hj,h⟩:=bnd h
    refine W.jn [(1,.obj (eSource_0.cells a0)),(2,.obj [.nils,.nils,.nils,SS S0,SS S0]),(6,.obj (eyuccaref9_maker_r.cells j31)),(7,SS x5.2),(11,I64 s27.2)] ?_ ?_
    ·clear h; have h:=hj; clear hj
     refine W.bk<|W.sq' ?_
     obtain ⟨x32,hx32,h⟩:=bnd h
     refine W.rx [(1,_),(2,_),(6,_),(7,_),(11,_),(12,_)] (Rv (O.fO q (.obj q) fd33_2 q)<|Rv (O.ldO (y:=iR eRule_0 a0.Rules) q (.ptr q) ct31 q q)<|Vm q<|Rv (O.ixI (.imm q) (.lit q) sl31 hx32)<|Rv (O.ldIN (cs':=[SS x32.Left,iR eAlt_0 x32.Alts,I64 x32.At]) (.iptr q) at96 q q)<|Rv (O.al (cs:=[SS S0,.nils,I64 0]) ze96 q q)<|RunL.sO (G2:=[(1,_),(2,_),(6,_),(7,_),(11,_),(12,_)]) (cs2:=[SS x32.Left,iR eAlt_0 x32.Alts,I64 x32.At]) q (.obj q) (.aggF q q) q sz96 q q q q (.n q q (.n q q (.n q q (.n q q (.n q q (.b q .nil))))))<|Fi (tn6 q q q q q q)) ?_
     refine Px.sq<|W.sq' ?_
     refine W.sq' ?_
     obtain ⟨x33,hx33,h⟩:=bnd h
     refine W.rx [(1,_),(2,_),(6,_),(7,_),(11,_),(12,_),(125,_)] (Rv (O.mv (.obj q))<|Rv (O.fO q (.obj q) fd96_0 q)<|Rv (O.ldO (y:=SS x32.Left) q (.ptr q) ct9 q q)<|Rv (O.bu (cs:=[SS x32.Left,BB false,I64 0,I64 0]) sc88 ze88 q q q)<|Rc (PC.vw (ys:=[.ptr ⟨6,[]⟩ 0,.agg [SS x32.Left,BB false,I64 0,I64 0]]) q (.c (View.p0 q q) (.c (.ag (.s (.s (.s (.s .nil))))) .nil)) (con95 s27.1 (⟨x32.Left,false,0,0⟩:Sym) _ hx33) call95 q)<|Rv (O.geq (.lit q) (.k q))<|Fi (tn7 q q q q q q q)) ?_
     refine Px.sq ?_
     obtain ⟨j34,hj,h⟩:=bnd h
     refine W.jn [(1,.obj (eSource_0.cells a0)),(2,.obj [.nils,.nils,.nils,SS S0,SS S0]),(6,.obj (eyuccaref9_maker_r.cells j34)),(7,SS x5.2),(11,I64 s27.2),(12,.obj (eRule_0.cells x32))] ?_ ?_
     ·clear h; have h:=hj; clear hj
      refine W.cnd q (fun hb35=>?_) (fun hb35=>?_)
      ·replace h:=cndT hb35 h
       obtain ⟨x36,hx36,h⟩:=bnd h
       refine W.rx [(1,_),(2,_),(6,_),(7,_),(11,_),(12,_)] (Rv (O.mv (.obj q))<|Rv (O.fO q (.obj q) fd96_2 q)<|Rv (O.ldO (y:=I64 x32.At) q (.ptr q) ct3 q q)<|Rv (O.fO q (.obj q) fd96_0 q)<|Rv (O.ldO (y:=SS x32.Left) q (.ptr q) ct9 q q)<|RunL.ef q (EO.call q q (CallOk.ln (G2:=[(1,.obj (eSource_0.cells a0)),(2,.obj [.nils,.nils,.nils,SS S0,SS S0]),(7,SS x5.2),(11,I64 s27.2),(12,.obj (eRule_0.cells x32))]) (A:=[]) (ys:=[.ptr ⟨6,[]⟩ 0,I64 x32.At,SS x32.Left]) (args:=[.obj (eyuccaref9_maker_r.cells s27.1),I64 x32.At,SS x32.Left]) (cs':=[oR eTok x36.f_g.Toks,oR eNon x36.f_g.Nons,oR eProd_0 x36.f_g.Prods,SS x36.f_g.Pro,SS x36.f_g.Tail,oR eB x36.f_given,oR eNon x36.f_types,oR eS x36.f_lefts,I64 x36.f_e,I64 x36.f_at,SS x36.f_name,I64 x36.f_level,I64 x36.f_inner]) (k0:=0) q q q q (.b q (.n q (.n q .nil))) q (con94 s27.1 x32.At x32.Left _ hx36) call94 (tn5 q q q q q) q q (tn5 q q q q q) .nil q))<|Fi (tn6 q q q q q q)) ?_
       obtain rfl:=sm h
       exact Px.jn (tn6 q q q q q q)
      ·replace h:=cndF hb35 h
       refine W.sk ?_
       obtain rfl:=sm h
       exact Px.jn (tn6 q q q q q q)
     refine Px.sq<|W.sq' ?_
     obtain ⟨x37,hx37,h⟩:=bnd h
     refine W.rx [(1,_),(2,_),(6,_),(7,_),(11,_),(12,_),(136,_)] (Rv (O.mv (.obj q))<|Rv (O.fO q (.obj q) fd96_0 q)<|Rv (O.ldO (y:=SS x32.Left) q (.ptr q) ct9 q q)<|Rc (PC.vw (ys:=[.ptr ⟨6,[]⟩ 0,SS x32.Left]) q (.c (View.p0 q q) (.s .nil)) (con96 j34 x32.Left _ hx37) call96 q)<|Rv (O.lss (.lit q) (.k q))<|Fi (tn7 q q q q q q q)) ?_
     refine Px.sq ?_
     obtain ⟨j38,hj,h⟩:=bnd h
     refine W.jn [(1,.obj (eSource_0.cells a0)),(2,.obj [.nils,.nils,.nils,SS S0,SS S0]),(6,.obj [oR eTok j34.f_g.Toks,oR eNon j34.f_g.Nons,oR eProd_0 j34.f_g.Prods,SS j34.f_g.Pro,SS j34.f_g.Tail,oR eB j34.f_given,oR eNon j34.f_types,oR eS j38,I64 j34.f_e,I64 j34.f_at,SS j34.f_name,I64 j34.f_level,I64 j34.f_inner]),(7,SS x5.2),(11,I64 s27.2)] ?_ ?_
     ·clear h; have h:=hj; clear hj
      refine W.cnd q (fun hb39=>?_) (fun hb39=>?_)
      ·replace h:=cndT hb39 h
       obtain ⟨x40,hx40,h⟩:=bnd h
       refine W.rd [[],[],[1],[1,2],[1,2,3],[],[5],[5,6],rn 1 7 [],rn 0 9 [],rn 0 10 [],rn 0 11 []] [(1,_),(2,_),(6,_),(7,_),(11,_)] mixo (by kernel_rfl) (Dv 0 (O.mv (.obj q))<|Dv 1 (O.mv (.obj q))<|Dv 2 (O.nlP (.ptr q))<|Dv 3 (O.fO q (.ptr q) fd169_3 q)<|Dv 4 (O.ldO (y:=.brw eS.z ⟨6,[7]⟩ j34.f_lefts.length) q (.ptr q) ct167 q q)<|Dv 5 (O.fO q (.obj q) fd96_0 q)<|Dv 6 (O.ldO (y:=SS x32.Left) q (.ptr q) ct9 q q)<|DL.vi 7 (x:=iR eS [x32.Left]) (O.bs (ys:=[SS x32.Left]) eS [x32.Left] sl167 q q q q q q zt9 q q) q q q q .none<|Dv 8 (O.ap (en:=eS) (r:=x40) (.brw q) q (.imm q) .i ap167 q hx40)<|Dv 9 (O.nlP (.ptr q))<|Dv 10 (O.fO q (.ptr q) fd169_3 q)<|DL.bp 11 (G2:=[(1,.obj (eSource_0.cells a0)),(2,.obj [.nils,.nils,.nils,SS S0,SS S0]),(6,.obj [oR eTok j34.f_g.Toks,oR eNon j34.f_g.Nons,oR eProd_0 j34.f_g.Prods,SS j34.f_g.Pro,SS j34.f_g.Tail,oR eB j34.f_given,oR eNon j34.f_types,oR eS (j34.f_lefts++[x32.Left]),I64 j34.f_e,I64 j34.f_at,SS j34.f_name,I64 j34.f_level,I64 j34.f_inner]),(7,SS x5.2),(11,I64 s27.2)]) (EO.stP (g1:=_) (en:=eS) (M:=[x32.Left]) (cs2:=[oR eTok j34.f_g.Toks,oR eNon j34.f_g.Nons,oR eProd_0 j34.f_g.Prods,SS j34.f_g.Pro,SS j34.f_g.Tail,oR eB j34.f_given,oR eNon j34.f_types,oR eS (j34.f_lefts++[x32.Left]),I64 j34.f_e,I64 j34.f_at,SS j34.f_name,I64 j34.f_level,I64 j34.f_inner]) q q (.ptr q) (.pend q) q q q .ns .rf q q sz167 q q q q (.n q q (.n q q (.b q (.n q q (.n q q .nil)))))) q q q q (by kernel_rfl) (by kernel_rfl)<|DL.fin q q q (tn5 q q q q q)) ?_
       obtain rfl:=sm h
       exact Px.jn (tn5 q q q q q)
      ·replace h:=cndF hb39 h
       refine W.sk ?_
       obtain rfl:=sm h
       exact Px.jn (tn5 q q q q q)
     refine Px.bk ?_
     obtain rfl:=sm h
     exact Px.jn (tn5 q q q q q)
    refine Px.sq<|W.rx [(1,_),(2,_),(6,_),(7,_),(11,_)] (Vm q<|Rv (O.add (.lit q) (.k q))<|RunL.re (G1:=[(1,_),(2,_),(6,_),(7,_),(114,_)]) (tn5 q q q q q)<|Va q<|Fi (tn5 q q q q q)) ?_
    obtain rfl:=sm h
    exact Px.go (tn5 q q q q q)
   ·replace h:=cndF hb30 h
    refine W.xi ?_
    refine Px.sqE ?_
    obtain rfl:=sm h
    exact Px.x1 (tn4 q q q q)
  refine Px.bkH ?_
  refine Px.sq<|W.sq' ?_
  refine W.sq'<|W.rx [(1,_),(2,_),(6,_),(7,_),(13,_)] (Vk q<|Fi (tn5 q q q q q)) ?_
  refine Px.sq<|W.bk ?_
  obtain ⟨x42,hl,h⟩:=bnd h
  refine W.tr (G1:=[(1,_),(2,_),(6,_),(7,_),(13,_)]) (tn5 q q q q q) ?_
  refine W.lp1 (s:=(x28,0)) (fun (s41:yuccaref9_maker × Int)=>[(1,.obj (eSource_0.cells a0)),(2,.obj [.nils,.nils,.nils,SS S0,SS S0]),(6,.obj (eyuccaref9_maker_r.cells s41.1)),(7,SS x5.2),(13,I64 s41.2)]) 6 (fun (x42:yuccaref9_maker)=>[(1,.obj (eSource_0.cells a0)),(2,.obj [.nils,.nils,.nils,SS S0,SS S0]),(6,.obj (eyuccaref9_maker_r.cells x42)),(7,SS x5.2)]) hl (fun s41 o h=>?_) ?_
  ·clear hl
   refine W.sq'<|W.sq' ?_
   refine W.rx [(1,_),(2,_),(6,_),(7,_),(13,_),(152,_)] (Vm q<|Rv (O.fO q (.obj q) fd33_1 q)<|Rv (O.ldO (y:=iR eDecl_0 a0.Decls) q (.ptr q) ct30 q q)<|Rv (O.lenI (.imm q) sl30)<|Rv (O.lss (.lit q) (.lit q))<|Fi (tn6 q q q q q q)) ?_
   refine Px.sq<|W.cnd q (fun hb44=>?_) (fun hb44=>?_)
   ·replace h:=cndT hb44 h
    refine W.sk<|Px.sq ?_
    refine W.sq'<|W.bk ?_
    refine W.sq'<|W.rx [(1,_),(2,_),(6,_),(7,_),(13,_),(14,_)] (Vk q<|Fi (tn6 q q q q q q)) ?_
    refine Px.sq<|W.bk ?_
    obtain ⟨x46,hl,h⟩:=bnd h
    refine W.tr (G1:=[(1,_),(2,_),(6,_),(7,_),(13,_),(14,_)]) (tn6 q q q q q q) ?_
    refine W.lp1 (s:=(s41.1,0)) (fun (s45:yuccaref9_maker × Int)=>[(1,.obj (eSource_0.cells a0)),(2,.obj [.nils,.nils,.nils,SS S0,SS S0]),(6,.obj (eyuccaref9_maker_r.cells s45.1)),(7,SS x5.2),(13,I64 s41.2),(14,I64 s45.2)]) 8 (fun (x46:yuccaref9_maker)=>[(1,.obj (eSource_0.cells a0)),(2,.obj [.nils,.nils,.nils,SS S0,SS S0]),(6,.obj (eyuccaref9_maker_r.cells x46)),(7,SS x5.2),(13,I64 s41.2)]) hl (fun s45 o h=>?_) ?_
    ·clear hl
     refine W.sq'<|W.sq' ?_
     obtain ⟨x48,hx48,h⟩:=bnd h
     refine W.rx [(1,_),(2,_),(6,_),(7,_),(13,_),(14,_),(163,_)] (Vm q<|Rv (O.fO q (.obj q) fd33_1 q)<|Rv (O.ldO (y:=iR eDecl_0 a0.Decls) q (.ptr q) ct30 q q)<|Vm q<|Rv (O.ixI (.imm q) (.lit q) sl30 hx48)<|Rv (O.fI (.iptr q) fd100_2)<|Rv (O.ldI (x:=iR eSym x48.Syms) (.iptr q) ct98 q)<|Rv (O.lenI (.imm q) sl98)<|Rv (O.lss (.lit q) (.lit q))<|Fi (tn7 q q q q q q q)) ?_
     refine Px.sq<|W.cnd q (fun hb49=>?_) (fun hb49=>?_)
     ·replace h:=cndT hb49 h
      refine W.sk<|Px.sq ?_
      refine W.sq' ?_
      obtain ⟨j50,hj,h⟩:=bnd h
      refine W.jn [(1,.obj (eSource_0.cells a0)),(2,.obj [.nils,.nils,.nils,SS S0,SS S0]),(6,.obj (eyuccaref9_maker_r.cells j50)),(7,SS x5.2),(13,I64 s41.2),(14,I64 s45.2)] ?_ ?_
      ·clear h; have h:=hj; clear hj
       refine W.bk<|W.sq' ?_
       obtain ⟨x51,hx51,h⟩:=bnd h
       obtain ⟨x52,hx52,h⟩:=bnd h
       refine W.rx [(1,_),(2,_),(6,_),(7,_),(13,_),(14,_),(15,_)] (Rv (O.fO q (.obj q) fd33_1 q)<|Rv (O.ldO (y:=iR eDecl_0 a0.Decls) q (.ptr q) ct30 q q)<|Vm q<|Rv (O.ixI (.imm q) (.lit q) sl30 hx51)<|Rv (O.fI (.iptr q) fd100_2)<|Rv (O.ldI (x:=iR eSym x51.Syms) (.iptr q) ct98 q)<|Vm q<|Rv (O.ixI (.imm q) (.lit q) sl98 hx52)<|Rv (O.ldIN (cs':=[SS x52.Name,BB x52.Lit,I64 x52.Num,I64 x52.At]) (.iptr q) at88 q q)<|Rv (O.al (cs:=[SS S0,BB false,I64 0,I64 0]) ze88 q q)<|RunL.sO (G2:=[(1,_),(2,_),(6,_),(7,_),(13,_),(14,_),(15,_)]) (cs2:=[SS x52.Name,BB x52.Lit,I64 x52.Num,I64 x52.At]) q (.obj q) (.aggF q q) q sz88 q q q q (.n q q (.n q q (.n q q (.n q q (.n q q (.n q q (.b q .nil)))))))<|Fi (tn7 q q q q q q q)) ?_
       refine Px.sq<|W.sq' ?_
       obtain ⟨c56,hj,h⟩:=bnd h
       refine W.rx [(1,.obj (eSource_0.cells a0)),(2,.obj [.nils,.nils,.nils,SS S0,SS S0]),(6,.obj (eyuccaref9_maker_r.cells s45.1)),(7,SS x5.2),(13,I64 s41.2),(14,I64 s45.2),(15,.obj (eSym.cells x52)),(188,BB c56)] ?_ ?_
       ·refine Rv (O.fO q (.obj q) fd33_1 q)<|Rv (O.ldO (y:=iR eDecl_0 a0.Decls) q (.ptr q) ct30 q q)<|Rv (O.mv (.lit q)) ?_
        obtain ⟨x53,hx53,hj⟩:=bnd hj
        refine Rv (O.ixI (.imm q) (.lit q) sl30 hx53)<|Rv (O.fI (.iptr q) fd100_0)<|Rv (O.ldI (x:=I64 x53.Kind) (.iptr q) ct3 q)<|Rv (O.geq (.lit q) (.k q))<|Rv (O.mv (.lit q)) ?_
        rcases cnd hj with ⟨hb54,hj⟩ | ⟨hb54,hj⟩
        ·refine RunL.v (O.mv (.obj q)) q q (.yb q q hb54)<|RunL.v (O.fO q (.obj q) fd88_0 q) q q (.yb q q hb54)<|RunL.v (O.ldO (y:=SS x52.Name) q (.ptr q) ct9 q q) q q (.yb q q hb54) ?_
         obtain ⟨x55,hx55,hj⟩:=bnd hj
         obtain rfl:=sm hj
         exact RunL.c (PC.vw (ys:=[.ptr ⟨6,[]⟩ 0,SS x52.Name]) q (.c (View.p0 q q) (.s .nil)) (con96 s45.1 x52.Name _ hx55) call96 q) q q (.yb q q hb54)<|RunL.v (O.lss (.lit q) (.k q)) q q (.yb q q hb54)<|Rv (O.pkT (.lit q) hb54 (.lit q))<|Fi (tn8 q q q q q q q q)
        ·obtain rfl:=sm hj
         exact RunL.ps q q hb54 q q<|RunL.ps q q hb54 q q<|RunL.ps q q hb54 q q<|RunL.ps q q hb54 q q<|RunL.ps q q hb54 q q<|Rv (O.pkF (.lit q) hb54 (.k q))<|Fi (tn8 q q q q q q q q)
       refine Px.sq ?_
       obtain ⟨j57,hj,h⟩:=bnd h
       refine W.jn [(1,.obj (eSource_0.cells a0)),(2,.obj [.nils,.nils,.nils,SS S0,SS S0]),(6,.obj (eyuccaref9_maker_r.cells j57)),(7,SS x5.2),(13,I64 s41.2),(14,I64 s45.2)] ?_ ?_
       ·clear h; have h:=hj; clear hj
        refine W.cnd q (fun hb58=>?_) (fun hb58=>?_)
        ·replace h:=cndT hb58 h
         obtain ⟨x59,hx59,h⟩:=bnd h
         refine W.rx [(1,_),(2,_),(6,_),(7,_),(13,_),(14,_)] (Rv (O.mv (.obj q))<|Rv (O.fO q (.obj q) fd88_3 q)<|Rv (O.ldO (y:=I64 x52.At) q (.ptr q) ct3 q q)<|Rv (O.fO q (.obj q) fd88_0 q)<|Rv (O.ldO (y:=SS x52.Name) q (.ptr q) ct9 q q)<|RunL.ef q (EO.call q q (CallOk.ln (G2:=[(1,.obj (eSource_0.cells a0)),(2,.obj [.nils,.nils,.nils,SS S0,SS S0]),(7,SS x5.2),(13,I64 s41.2),(14,I64 s45.2)]) (A:=[]) (ys:=[.ptr ⟨6,[]⟩ 0,I64 x52.At,SS x52.Name]) (args:=[.obj (eyuccaref9_maker_r.cells s45.1),I64 x52.At,SS x52.Name]) (cs':=[oR eTok x59.f_g.Toks,oR eNon x59.f_g.Nons,oR eProd_0 x59.f_g.Prods,SS x59.f_g.Pro,SS x59.f_g.Tail,oR eB x59.f_given,oR eNon x59.f_types,oR eS x59.f_lefts,I64 x59.f_e,I64 x59.f_at,SS x59.f_name,I64 x59.f_level,I64 x59.f_inner]) (k0:=0) q q q q (.b q (.n q (.n q .nil))) q (con94 s45.1 x52.At x52.Name _ hx59) call94 (tn5 q q q q q) q q (tn5 q q q q q) .nil q))<|Fi (tn6 q q q q q q)) ?_
         obtain rfl:=sm h
         exact Px.jn (tn6 q q q q q q)
        ·replace h:=cndF hb58 h
         refine W.sk ?_
         obtain rfl:=sm h
         exact Px.jn (tn6 q q q q q q)
       refine Px.bk ?_
       obtain rfl:=sm h
       exact Px.jn (tn6 q q q q q q)
      refine Px.sq<|W.rx [(1,_),(2,_),(6,_),(7,_),(13,_),(14,_)] (Vm q<|Rv (O.add (.lit q) (.k q))<|RunL.re (G1:=[(1,_),(2,_),(6,_),(7,_),(13,_),(165,_)]) (tn6 q q q q q q)<|Va q<|Fi (tn6 q q q q q q)) ?_
      obtain rfl:=sm h
      exact Px.go (tn6 q q q q q q)
     ·replace h:=cndF hb49 h
      refine W.xi ?_
      refine Px.sqE ?_
      obtain rfl:=sm h
      exact Px.x1 (tn5 q q q q q)
    refine Px.bkH ?_
    refine Px.bk ?_
    refine Px.sq<|W.rx [(1,_),(2,_),(6,_),(7,_),(13,_)] (Vm q<|Rv (O.add (.lit q) (.k q))<|RunL.re (G1:=[(1,_),(2,_),(6,_),(7,_),(154,_)]) (tn5 q q q q q)<|Va q<|Fi (tn5 q q q q q)) ?_
    obtain rfl:=sm h
    exact Px.go (tn5 q q q q q)
   ·replace h:=cndF hb44 h
    refine W.xi ?_
    refine Px.sqE ?_
    obtain rfl:=sm h
    exact Px.x1 (tn4 q q q q)
  refine Px.bkH ?_
  refine Px.sq<|W.sq' ?_
  refine W.sq'<|W.rx [(1,_),(2,_),(6,_),(7,_),(196,_)] (Vm q<|Rv (O.eqS (.lit q) (.k q))<|Fi (tn5 q q q q q)) ?_
  refine Px.sq ?_
  obtain ⟨j60,hj,h⟩:=bnd h
  refine W.jn [(1,.obj (eSource_0.cells a0)),(2,.obj [.nils,.nils,.nils,SS S0,SS S0]),(6,.obj (eyuccaref9_maker_r.cells x42)),(7,SS j60)] ?_ ?_
  ·clear h; have h:=hj; clear hj
   refine W.cnd q (fun hb61=>?_) (fun hb61=>?_)
   ·replace h:=cndT hb61 h
    obtain ⟨x62,hx62,h⟩:=bnd h
    refine W.rx [(1,_),(2,_),(6,_),(7,_)] (Rv (O.fO q (.obj q) fd33_2 q)<|Rv (O.ldO (y:=iR eRule_0 a0.Rules) q (.ptr q) ct31 q q)<|Rv (O.ixI (.imm q) (.k q) sl31 hx62)<|Rv (O.fI (.iptr q) fd96_0)<|Rv (O.ldI (x:=SS x62.Left) (.iptr q) ct9 q)<|RunL.re (G1:=[(1,_),(2,_),(6,_),(201,_)]) (tn4 q q q q)<|Va q<|Fi (tn4 q q q q)) ?_
    obtain rfl:=sm h
    exact Px.jn (tn4 q q q q)
   ·replace h:=cndF hb61 h
    refine W.sk ?_
    obtain rfl:=sm h
    exact Px.jn (tn4 q q q q)
  refine Px.sq<|W.sq' ?_
  obtain ⟨x63,hx63,h⟩:=bnd h
  refine W.rx [(1,_),(2,_),(6,_)] (Rv (O.mv (.obj q))<|Rv (O.mv (.obj q))<|Vm q<|Rc (PC.vw (ys:=[.ptr ⟨6,[]⟩ 0,SS j60]) q (.c (View.p0 q q) (.s .nil)) (con96 x42 j60 _ hx63) call96 q)<|Rv (O.add (.k q) (.lit q))<|RunL.vi (x:=iR eI [w64 (1001+x63)]) (O.bs (ys:=[I64 (w64 (1001+x63))]) eI [w64 (1001+x63)] sl29 q q q q q q zt3 q q) q q .none<|RunL.vi (x:=.agg [I64 0,iR eI [w64 (1001+x63)],I64 (-1),SS S0,iR eI ([]:List Int),I64 0]) (O.bu (cs:=[I64 0,iR eI [w64 (1001+x63)],I64 (-1),SS S0,.nils,I64 0]) sc148 ze148 q q q) q q .none<|Rv (O.bs (ys:=[.agg [I64 0,iR eI [w64 (1001+x63)],I64 (-1),SS S0,iR eI ([]:List Int),I64 0]]) eProd_0 [(⟨0,[w64 (1001+x63)],(-1),S0,([]:List Int),0⟩:Prod)] sl42 q q q q q q zt148 q q)<|Rv (O.nlP (.ptr q))<|Rv (O.fO q (.ptr q) fd169_0 q)<|Rv (O.fO q (.ptr q) fd44_2 q)<|RunL.ef (G2:=[(1,.obj (eSource_0.cells a0)),(2,.obj [.nils,.nils,.nils,SS S0,SS S0]),(6,.obj [oR eTok x42.f_g.Toks,oR eNon x42.f_g.Nons,oR eProd_0 [(⟨0,[w64 (1001+x63)],(-1),S0,([]:List Int),0⟩:Prod)],SS x42.f_g.Pro,SS x42.f_g.Tail,oR eB x42.f_given,oR eNon x42.f_types,oR eS x42.f_lefts,I64 x42.f_e,I64 x42.f_at,SS x42.f_name,I64 x42.f_level,I64 x42.f_inner])]) q (EO.stB (y':=oR eProd_0 [(⟨0,[w64 (1001+x63)],(-1),S0,([]:List Int),0⟩:Prod)]) (cs2:=[oR eTok x42.f_g.Toks,oR eNon x42.f_g.Nons,oR eProd_0 [(⟨0,[w64 (1001+x63)],(-1),S0,([]:List Int),0⟩:Prod)],SS x42.f_g.Pro,SS x42.f_g.Tail,oR eB x42.f_given,oR eNon x42.f_types,oR eS x42.f_lefts,I64 x42.f_e,I64 x42.f_at,SS x42.f_name,I64 x42.f_level,I64 x42.f_inner]) q q (.ptr q) (.own q) (.r q .nil) .refl q sz42 q q q q q (.n q q (.n q q (.b q .nil))))<|Fi (tn3 q q q)) ?_
  refine Px.sq<|W.sq' ?_
  refine W.sq'<|W.rx [(1,_),(2,_),(6,_),(16,_)] (Vk q<|Fi (tn4 q q q q)) ?_
  refine Px.sq<|W.bk ?_
  obtain ⟨x65,hl,h⟩:=bnd h
  refine W.tr (G1:=[(1,_),(2,_),(6,.obj [oR eTok (((⟨(⟨x42.f_g.Toks,x42.f_g.Nons,[(⟨0,[w64 (1001+x63)],(-1),S0,([]:List Int),0⟩:Prod)],x42.f_g.Pro,x42.f_g.Tail⟩:Grammar),x42.f_given,x42.f_types,x42.f_lefts,x42.f_e,x42.f_at,x42.f_name,x42.f_level,x42.f_inner⟩:yuccaref9_maker).f_g).Toks),oR eNon (((⟨(⟨x42.f_g.Toks,x42.f_g.Nons,[(⟨0,[w64 (1001+x63)],(-1),S0,([]:List Int),0⟩:Prod)],x42.f_g.Pro,x42.f_g.Tail⟩:Grammar),x42.f_given,x42.f_types,x42.f_lefts,x42.f_e,x42.f_at,x42.f_name,x42.f_level,x42.f_inner⟩:yuccaref9_maker).f_g).Nons),oR eProd_0 (((⟨(⟨x42.f_g.Toks,x42.f_g.Nons,[(⟨0,[w64 (1001+x63)],(-1),S0,([]:List Int),0⟩:Prod)],x42.f_g.Pro,x42.f_g.Tail⟩:Grammar),x42.f_given,x42.f_types,x42.f_lefts,x42.f_e,x42.f_at,x42.f_name,x42.f_level,x42.f_inner⟩:yuccaref9_maker).f_g).Prods),SS (((⟨(⟨x42.f_g.Toks,x42.f_g.Nons,[(⟨0,[w64 (1001+x63)],(-1),S0,([]:List Int),0⟩:Prod)],x42.f_g.Pro,x42.f_g.Tail⟩:Grammar),x42.f_given,x42.f_types,x42.f_lefts,x42.f_e,x42.f_at,x42.f_name,x42.f_level,x42.f_inner⟩:yuccaref9_maker).f_g).Pro),SS (((⟨(⟨x42.f_g.Toks,x42.f_g.Nons,[(⟨0,[w64 (1001+x63)],(-1),S0,([]:List Int),0⟩:Prod)],x42.f_g.Pro,x42.f_g.Tail⟩:Grammar),x42.f_given,x42.f_types,x42.f_lefts,x42.f_e,x42.f_at,x42.f_name,x42.f_level,x42.f_inner⟩:yuccaref9_maker).f_g).Tail),oR eB ((⟨(⟨x42.f_g.Toks,x42.f_g.Nons,[(⟨0,[w64 (1001+x63)],(-1),S0,([]:List Int),0⟩:Prod)],x42.f_g.Pro,x42.f_g.Tail⟩:Grammar),x42.f_given,x42.f_types,x42.f_lefts,x42.f_e,x42.f_at,x42.f_name,x42.f_level,x42.f_inner⟩:yuccaref9_maker).f_given),oR eNon ((⟨(⟨x42.f_g.Toks,x42.f_g.Nons,[(⟨0,[w64 (1001+x63)],(-1),S0,([]:List Int),0⟩:Prod)],x42.f_g.Pro,x42.f_g.Tail⟩:Grammar),x42.f_given,x42.f_types,x42.f_lefts,x42.f_e,x42.f_at,x42.f_name,x42.f_level,x42.f_inner⟩:yuccaref9_maker).f_types),oR eS ((⟨(⟨x42.f_g.Toks,x42.f_g.Nons,[(⟨0,[w64 (1001+x63)],(-1),S0,([]:List Int),0⟩:Prod)],x42.f_g.Pro,x42.f_g.Tail⟩:Grammar),x42.f_given,x42.f_types,x42.f_lefts,x42.f_e,x42.f_at,x42.f_name,x42.f_level,x42.f_inner⟩:yuccaref9_maker).f_lefts),I64 ((⟨(⟨x42.f_g.Toks,x42.f_g.Nons,[(⟨0,[w64 (1001+x63)],(-1),S0,([]:List Int),0⟩:Prod)],x42.f_g.Pro,x42.f_g.Tail⟩:Grammar),x42.f_given,x42.f_types,x42.f_lefts,x42.f_e,x42.f_at,x42.f_name,x42.f_level,x42.f_inner⟩:yuccaref9_maker).f_e),I64 ((⟨(⟨x42.f_g.Toks,x42.f_g.Nons,[(⟨0,[w64 (1001+x63)],(-1),S0,([]:List Int),0⟩:Prod)],x42.f_g.Pro,x42.f_g.Tail⟩:Grammar),x42.f_given,x42.f_types,x42.f_lefts,x42.f_e,x42.f_at,x42.f_name,x42.f_level,x42.f_inner⟩:yuccaref9_maker).f_at),SS ((⟨(⟨x42.f_g.Toks,x42.f_g.Nons,[(⟨0,[w64 (1001+x63)],(-1),S0,([]:List Int),0⟩:Prod)],x42.f_g.Pro,x42.f_g.Tail⟩:Grammar),x42.f_given,x42.f_types,x42.f_lefts,x42.f_e,x42.f_at,x42.f_name,x42.f_level,x42.f_inner⟩:yuccaref9_maker).f_name),I64 ((⟨(⟨x42.f_g.Toks,x42.f_g.Nons,[(⟨0,[w64 (1001+x63)],(-1),S0,([]:List Int),0⟩:Prod)],x42.f_g.Pro,x42.f_g.Tail⟩:Grammar),x42.f_given,x42.f_types,x42.f_lefts,x42.f_e,x42.f_at,x42.f_name,x42.f_level,x42.f_inner⟩:yuccaref9_maker).f_level),I64 ((⟨(⟨x42.f_g.Toks,x42.f_g.Nons,[(⟨0,[w64 (1001+x63)],(-1),S0,([]:List Int),0⟩:Prod)],x42.f_g.Pro,x42.f_g.Tail⟩:Grammar),x42.f_given,x42.f_types,x42.f_lefts,x42.f_e,x42.f_at,x42.f_name,x42.f_level,x42.f_inner⟩:yuccaref9_maker).f_inner)]),(16,_)]) (tn4 q q q q) ?_
  refine W.lp1 (s:=((⟨(⟨x42.f_g.Toks,x42.f_g.Nons,[(⟨0,[w64 (1001+x63)],(-1),S0,([]:List Int),0⟩:Prod)],x42.f_g.Pro,x42.f_g.Tail⟩:Grammar),x42.f_given,x42.f_types,x42.f_lefts,x42.f_e,x42.f_at,x42.f_name,x42.f_level,x42.f_inner⟩:yuccaref9_maker),0)) (fun (s64:yuccaref9_maker × Int)=>[(1,.obj (eSource_0.cells a0)),(2,.obj [.nils,.nils,.nils,SS S0,SS S0]),(6,.obj (eyuccaref9_maker_r.cells s64.1)),(16,I64 s64.2)]) 10 (fun (x65:yuccaref9_maker)=>[(1,.obj (eSource_0.cells a0)),(2,.obj [.nils,.nils,.nils,SS S0,SS S0]),(6,.obj (eyuccaref9_maker_r.cells x65))]) hl (fun s64 o h=>?_) ?_
  ·clear hl
   refine W.sq'<|W.sq' ?_
   refine W.rx [(1,_),(2,_),(6,_),(16,_),(217,_)] (Vm q<|Rv (O.fO q (.obj q) fd33_2 q)<|Rv (O.ldO (y:=iR eRule_0 a0.Rules) q (.ptr q) ct31 q q)<|Rv (O.lenI (.imm q) sl31)<|Rv (O.lss (.lit q) (.lit q))<|Fi (tn5 q q q q q)) ?_
   refine Px.sq<|W.cnd q (fun hb67=>?_) (fun hb67=>?_)
   ·replace h:=cndT hb67 h
    refine W.sk<|Px.sq ?_
    refine W.sq'<|W.bk ?_
    refine W.sq'<|W.rx [(1,_),(2,_),(6,_),(16,_),(17,_)] (Vk q<|Fi (tn5 q q q q q)) ?_
    refine Px.sq<|W.bk ?_
    obtain ⟨x69,hl,h⟩:=bnd h
    refine W.tr (G1:=[(1,_),(2,_),(6,_),(16,_),(17,_)]) (tn5 q q q q q) ?_
    refine W.lp1 (s:=(s64.1,0)) (fun (s68:yuccaref9_maker × Int)=>[(1,.obj (eSource_0.cells a0)),(2,.obj [.nils,.nils,.nils,SS S0,SS S0]),(6,.obj (eyuccaref9_maker_r.cells s68.1)),(16,I64 s64.2),(17,I64 s68.2)]) 12 (fun (x69:yuccaref9_maker)=>[(1,.obj (eSource_0.cells a0)),(2,.obj [.nils,.nils,.nils,SS S0,SS S0]),(6,.obj (eyuccaref9_maker_r.cells x69)),(16,I64 s64.2)]) hl (fun s68 o h=>?_) ?_
    ·clear hl
     refine W.sq'<|W.sq' ?_
     obtain ⟨x71,hx71,h⟩:=bnd h
     refine W.rx [(1,_),(2,_),(6,_),(16,_),(17,_),(228,_)] (Vm q<|Rv (O.fO q (.obj q) fd33_2 q)<|Rv (O.ldO (y:=iR eRule_0 a0.Rules) q (.ptr q) ct31 q q)<|Vm q<|Rv (O.ixI (.imm q) (.lit q) sl31 hx71)<|Rv (O.fI (.iptr q) fd96_1)<|Rv (O.ldI (x:=iR eAlt_0 x71.Alts) (.iptr q) ct94 q)<|Rv (O.lenI (.imm q) sl94)<|Rv (O.lss (.lit q) (.lit q))<|Fi (tn6 q q q q q q)) ?_
     refine Px.sq<|W.cnd q (fun hb72=>?_) (fun hb72=>?_)
     ·replace h:=cndT hb72 h
      refine W.sk<|Px.sq ?_
      refine W.sq'<|W.bk ?_
      obtain ⟨x73,hx73,h⟩:=bnd h
      obtain ⟨x74,hx74,h⟩:=bnd h
      obtain ⟨x75,hx75,h⟩:=bnd h
      obtain ⟨x76,hx76,h⟩:=bnd h
      refine W.rd [[],[],[1],[],[1,2,3],[1,2,3,4],rn 1 5 [],[],[7],[],[7,8,9],[7,8,9,10],rn 7 5 [],[],rn 7 7 [],rn 7 8 [],rn 0 16 []] [(1,_),(2,_),(6,_),(16,_),(17,_)] mixo (by kernel_rfl) (Dv 0 (O.mv (.obj q))<|Dv 1 (O.fO q (.obj q) fd33_2 q)<|Dv 2 (O.ldO (y:=iR eRule_0 a0.Rules) q (.ptr q) ct31 q q)<|Dv 3 (O.mv (.lit q))<|Dv 4 (O.ixI (.imm q) (.lit q) sl31 hx73)<|Dv 5 (O.fI (.iptr q) fd96_0)<|Dv 6 (O.ldI (x:=SS x73.Left) (.iptr q) ct9 q)<|Dv 7 (O.fO q (.obj q) fd33_2 q)<|Dv 8 (O.ldO (y:=iR eRule_0 a0.Rules) q (.ptr q) ct31 q q)<|Dv 9 (O.mv (.lit q))<|Dv 10 (O.ixI (.imm q) (.lit q) sl31 hx74)<|Dv 11 (O.fI (.iptr q) fd96_1)<|Dv 12 (O.ldI (x:=iR eAlt_0 x74.Alts) (.iptr q) ct94 q)<|Dv 13 (O.mv (.lit q))<|Dv 14 (O.ixI (.imm q) (.lit q) sl94 hx75)<|Dv 15 (O.ldIN (cs':=[iR ePart x75.Parts,SS x75.Prec.Name,BB x75.Prec.Lit,I64 x75.Prec.Num,I64 x75.Prec.At,I64 x75.At]) (.iptr q) at93 q q)<|DL.bp 16 (G2:=[(247,.tup []),(6,.obj [oR eTok x76.f_g.Toks,oR eNon x76.f_g.Nons,oR eProd_0 x76.f_g.Prods,SS x76.f_g.Pro,SS x76.f_g.Tail,oR eB x76.f_given,oR eNon x76.f_types,oR eS x76.f_lefts,I64 x76.f_e,I64 x76.f_at,SS x76.f_name,I64 x76.f_level,I64 x76.f_inner]),(1,.obj (eSource_0.cells a0)),(2,.obj [.nils,.nils,.nils,SS S0,SS S0]),(16,I64 s64.2),(17,I64 s68.2)]) (EO.call q q (CallOk.ln (G2:=[(1,.obj (eSource_0.cells a0)),(2,.obj [.nils,.nils,.nils,SS S0,SS S0]),(16,I64 s64.2),(17,I64 s68.2)]) (A:=[]) (ys:=[.ptr ⟨6,[]⟩ 0,SS x73.Left,.agg (eAlt_0.cells x75)]) (args:=[.obj (eyuccaref9_maker_r.cells s68.1),SS x73.Left,.agg (eAlt_0.cells x75)]) (cs':=[oR eTok x76.f_g.Toks,oR eNon x76.f_g.Nons,oR eProd_0 x76.f_g.Prods,SS x76.f_g.Pro,SS x76.f_g.Tail,oR eB x76.f_given,oR eNon x76.f_types,oR eS x76.f_lefts,I64 x76.f_e,I64 x76.f_at,SS x76.f_name,I64 x76.f_level,I64 x76.f_inner]) (k0:=0) q q q q (.b q (.n q (.n q .nil))) q (con97 s68.1 x73.Left x75 _ hx76) call97 (tn4 q q q q) q q (tn4 q q q q) .nil q)) q q q q (by kernel_rfl) (by kernel_rfl)<|DL.fin q q q (tn5 q q q q q)) ?_
      refine Px.bk ?_
      refine Px.sq<|W.rx [(1,_),(2,_),(6,_),(16,_),(17,_)] (Vm q<|Rv (O.add (.lit q) (.k q))<|RunL.re (G1:=[(1,_),(2,_),(6,_),(16,_),(230,_)]) (tn5 q q q q q)<|Va q<|Fi (tn5 q q q q q)) ?_
      obtain rfl:=sm h
      exact Px.go (tn5 q q q q q)
     ·replace h:=cndF hb72 h
      refine W.xi ?_
      refine Px.sqE ?_
      obtain rfl:=sm h
      exact Px.x1 (tn4 q q q q)
    refine Px.bkH ?_
    refine Px.bk ?_
    refine Px.sq<|W.rx [(1,_),(2,_),(6,_),(16,_)] (Vm q<|Rv (O.add (.lit q) (.k q))<|RunL.re (G1:=[(1,_),(2,_),(6,_),(219,_)]) (tn4 q q q q)<|Va q<|Fi (tn4 q q q q)) ?_
    obtain rfl:=sm h
    exact Px.go (tn4 q q q q)
   ·replace h:=cndF hb67 h
    refine W.xi ?_
    refine Px.sqE ?_
    obtain rfl:=sm h
    exact Px.x1 (tn3 q q q)
  refine Px.bkH ?_
  refine Px.sq<|W.sq' ?_
  refine W.sq'<|W.rx [(1,_),(2,_),(6,_),(252,_)] (Rv (O.mv (.obj q))<|Rv (O.nlP (.ptr q))<|Rv (O.fO q (.ptr q) fd169_4 q)<|Rv (O.ldO (y:=I64 x65.f_e) q (.ptr q) ct3 q q)<|Rv (O.neq (.lit q) (.k q))<|Fi (tn4 q q q q)) ?_
  refine Px.sq<|W.cnd q (fun hb77=>?_) (fun hb77=>?_)
  ·replace h:=cndT hb77 h
   refine W.sq'<|W.rd [[],[],[1],[1,2],[1,2,3],[],[5],[5,6],[5,6,7],[],[9],[9,10],[9,10,11],[0],rn 0 5 [13],rn 0 9 [13,14],rn 0 16 []] [(2,_),(3,_),(4,_),(5,_)] mixo (by kernel_rfl) (Dv 0 (O.bu (cs:=[.nils,.nils,.nils,SS S0,SS S0]) sc44 ze44 q q q)<|Dv 1 (O.mv (.obj q))<|Dv 2 (O.nlP (.ptr q))<|Dv 3 (O.fO q (.ptr q) fd169_4 q)<|Dv 4 (O.ldO (y:=I64 x65.f_e) q (.ptr q) ct3 q q)<|Dv 5 (O.mv (.obj q))<|Dv 6 (O.nlP (.ptr q))<|Dv 7 (O.fO q (.ptr q) fd169_5 q)<|Dv 8 (O.ldO (y:=I64 x65.f_at) q (.ptr q) ct3 q q)<|Dv 9 (O.mv (.obj q))<|Dv 10 (O.nlP (.ptr q))<|Dv 11 (O.fO q (.ptr q) fd169_6 q)<|Dv 12 (O.ldO (y:=SS x65.f_name) q (.ptr q) ct9 q q)<|DL.bu 13 (G2:=[(2,.obj [.nils,.nils,.nils,SS S0,SS S0]),(6,.obj (eyuccaref9_maker_r.cells x65))]) (U:=[(12,265,some (SS x65.f_name)),(11,264,some (.ptr ⟨6,[]⟩ 10)),(10,263,some (.ptr ⟨6,[]⟩ 0)),(9,262,some (.ptr ⟨6,[]⟩ 0)),(8,261,some (I64 x65.f_at)),(7,260,some (.ptr ⟨6,[]⟩ 9)),(6,259,some (.ptr ⟨6,[]⟩ 0)),(5,258,some (.ptr ⟨6,[]⟩ 0)),(4,257,some (I64 x65.f_e)),(3,256,some (.ptr ⟨6,[]⟩ 8)),(2,255,some (.ptr ⟨6,[]⟩ 0)),(1,254,some (.ptr ⟨6,[]⟩ 0))]) (EffOk.v (EO.eff (EO.sO (G2:=[(2,.obj [.nils,.nils,.nils,SS S0,SS S0]),(6,.obj (eyuccaref9_maker_r.cells x65))]) (cs2:=[.nils,.nils,.nils,SS S0,SS S0]) q q q (.obj q) (.aggF q q) q sz44 q q q q (.b q (.n q q .nil))))) q q (by kernel_rfl) q q q (.c (.inr (.inl ⟨_,q⟩)) q q q q q (Gd.wanted .none) (O.ldO (y:=SS x65.f_name) q (.ptr q) ct9 q q) (.c (.inr (.inr (.inr (.inl ⟨6,_,_,q,q,of_blt q,by simp,_,q,of_blt q⟩)))) q q q q q (Gd.wanted .none) (O.fO q (.ptr q) fd169_6 q) (.c (.inr (.inr (.inr (.inl ⟨6,_,_,q,q,of_blt q,by simp,_,q,of_blt q⟩)))) q q q q q (Gd.wanted .none) (O.nlP (.ptr q)) (.c (.inr (.inr (.inr (.inl ⟨6,_,_,q,q,of_blt q,by simp,_,q,of_blt q⟩)))) q q q q q (Gd.wanted .none) (O.mv (.obj q)) (.c (.inr (.inl ⟨_,q⟩)) q q q q q (Gd.wanted .none) (O.ldO (y:=I64 x65.f_at) q (.ptr q) ct3 q q) (.c (.inr (.inr (.inr (.inl ⟨6,_,_,q,q,of_blt q,by simp,_,q,of_blt q⟩)))) q q q q q (Gd.wanted .none) (O.fO q (.ptr q) fd169_5 q) (.c (.inr (.inr (.inr (.inl ⟨6,_,_,q,q,of_blt q,by simp,_,q,of_blt q⟩)))) q q q q q (Gd.wanted .none) (O.nlP (.ptr q)) (.c (.inr (.inr (.inr (.inl ⟨6,_,_,q,q,of_blt q,by simp,_,q,of_blt q⟩)))) q q q q q (Gd.wanted .none) (O.mv (.obj q)) (.c (.inr (.inl ⟨_,q⟩)) q q q q q (Gd.wanted .none) (O.ldO (y:=I64 x65.f_e) q (.ptr q) ct3 q q) (.c (.inr (.inr (.inr (.inl ⟨6,_,_,q,q,of_blt q,by simp,_,q,of_blt q⟩)))) q q q q q (Gd.wanted .none) (O.fO q (.ptr q) fd169_4 q) (.c (.inr (.inr (.inr (.inl ⟨6,_,_,q,q,of_blt q,by simp,_,q,of_blt q⟩)))) q q q q q (Gd.wanted .none) (O.nlP (.ptr q)) (.c (.inr (.inr (.inr (.inl ⟨6,_,_,q,q,of_blt q,by simp,_,q,of_blt q⟩)))) q q q q q (Gd.wanted .none) (O.mv (.obj q)) .nil)))))))))))) (by kernel_rfl)<|Dv 14 (O.az (.lit q))<|Dv 15 (O.az (.lit q))<|Dv 16 (O.az (.lit q))<|DL.fin q q q (tn4 q q q q)) ?_
   refine Px.sq<|W.fz (G1:=[(2,.obj [iR eTok ([]:List Tok),iR eNon ([]:List Non),iR eProd_0 ([]:List Prod),SS S0,SS S0]),(3,_),(4,_),(5,_)]) [2] (.z q q (FzL.obj (.z (.z (.z (.f (.f .nil)))))) (.n q q (.n q q (.n q q .nil)))) ?_
   refine W.rt ?_
   refine Px.sqR ?_
   obtain rfl:=sm h
   exact Px.fin (Fin.ro (.c (ys0:=[iR eTok ([]:List Tok),iR eNon ([]:List Non),iR eProd_0 ([]:List Prod),SS S0,SS S0]) q at44 q q q (.f q (.f q (.f q (.f q (.f q .nil))))) (.f q q (.f q q (.f q q .nil)))) q (ode (by kernel_rfl)) (.no .nil) q (.inr q))
  ·replace h:=cndF hb77 h
   refine W.sk<|Px.sq ?_
   refine W.sq'<|W.rx [(1,_),(2,_),(6,_)] (Rv (O.mv (.obj q))<|Rv (O.bu (cs:=[SS ({ data:=#[36,97,99,99,101,112,116] }),SS S0]) sc176 ze176 q q q)<|Rv (O.bs (ys:=[.agg [SS ({ data:=#[36,97,99,99,101,112,116] }),SS S0]]) eNon [(⟨{ data:=#[36,97,99,99,101,112,116] },S0⟩:Non)] sl41 q q q q q q zt176 q q)<|Rv (O.nlP (.ptr q))<|Rv (O.fO q (.ptr q) fd169_0 q)<|Rv (O.fO q (.ptr q) fd44_1 q)<|RunL.ef (G2:=[(1,.obj (eSource_0.cells a0)),(2,.obj [.nils,.nils,.nils,SS S0,SS S0]),(6,.obj [oR eTok x65.f_g.Toks,oR eNon [(⟨{ data:=#[36,97,99,99,101,112,116] },S0⟩:Non)],oR eProd_0 x65.f_g.Prods,SS x65.f_g.Pro,SS x65.f_g.Tail,oR eB x65.f_given,oR eNon x65.f_types,oR eS x65.f_lefts,I64 x65.f_e,I64 x65.f_at,SS x65.f_name,I64 x65.f_level,I64 x65.f_inner])]) q (EO.stB (y':=oR eNon [(⟨{ data:=#[36,97,99,99,101,112,116] },S0⟩:Non)]) (cs2:=[oR eTok x65.f_g.Toks,oR eNon [(⟨{ data:=#[36,97,99,99,101,112,116] },S0⟩:Non)],oR eProd_0 x65.f_g.Prods,SS x65.f_g.Pro,SS x65.f_g.Tail,oR eB x65.f_given,oR eNon x65.f_types,oR eS x65.f_lefts,I64 x65.f_e,I64 x65.f_at,SS x65.f_name,I64 x65.f_level,I64 x65.f_inner]) q q (.ptr q) (.own q) (.r q .nil) .refl q sz41 q q q q q (.n q q (.n q q (.b q .nil))))<|Fi (tn3 q q q)) ?_
   refine Px.sq<|W.sq' ?_
   refine W.sq'<|W.rx [(1,_),(2,_),(6,_),(18,_)] (Vk q<|Fi (tn4 q q q q)) ?_
   refine Px.sq<|W.bk ?_
   obtain ⟨x79,hl,h⟩:=bnd h
   refine W.tr (G1:=[(1,_),(2,_),(6,_),(18,_)]) (tn4 q q q q) ?_
   refine W.lp1 (s:=([(⟨{ data:=#[36,97,99,99,101,112,116] },S0⟩:Non)],0)) (fun (s78:List Non × Int)=>[(1,.obj (eSource_0.cells a0)),(2,.obj [.nils,.nils,.nils,SS S0,SS S0]),(6,.obj [oR eTok x65.f_g.Toks,oR eNon s78.1,oR eProd_0 x65.f_g.Prods,SS x65.f_g.Pro,SS x65.f_g.Tail,oR eB x65.f_given,oR eNon x65.f_types,oR eS x65.f_lefts,I64 x65.f_e,I64 x65.f_at,SS x65.f_name,I64 x65.f_level,I64 x65.f_inner]),(18,I64 s78.2)]) 14 (fun (x79:List Non)=>[(1,.obj (eSource_0.cells a0)),(2,.obj [.nils,.nils,.nils,SS S0,SS S0]),(6,.obj [oR eTok x65.f_g.Toks,oR eNon x79,oR eProd_0 x65.f_g.Prods,SS x65.f_g.Pro,SS x65.f_g.Tail,oR eB x65.f_given,oR eNon x65.f_types,oR eS x65.f_lefts,I64 x65.f_e,I64 x65.f_at,SS x65.f_name,I64 x65.f_level,I64 x65.f_inner])]) hl (fun s78 o h=>?_) ?_
   ·clear hl
    refine W.sq'<|W.sq' ?_
    refine W.rx [(1,_),(2,_),(6,_),(18,_),(278,_)] (Vm q<|Rv (O.mv (.obj q))<|Rv (O.nlP (.ptr q))<|Rv (O.fO q (.ptr q) fd169_3 q)<|Rv (O.ldO (y:=.brw eS.z ⟨6,[7]⟩ x65.f_lefts.length) q (.ptr q) ct167 q q)<|Rv (O.lenO (.brw q) sl167)<|Rv (O.lss (.lit q) (.lit q))<|Fi (tn5 q q q q q)) ?_
    refine Px.sq<|W.cnd q (fun hb81=>?_) (fun hb81=>?_)
    ·replace h:=cndT hb81 h
     refine W.sk<|Px.sq ?_
     refine W.sq'<|W.bk ?_
     refine W.sq' ?_
     obtain ⟨x82,hx82,h⟩:=bnd h
     refine W.rx [(1,_),(2,_),(6,_),(18,_),(19,_)] (Rv (O.mv (.obj q))<|Rv (O.nlP (.ptr q))<|Rv (O.fO q (.ptr q) fd169_3 q)<|Rv (O.ldO (y:=.brw eS.z ⟨6,[7]⟩ x65.f_lefts.length) q (.ptr q) ct167 q q)<|Vm q<|Rv (O.ixO (en:=eS) q (.brw q) (.lit q) sl167 hx82 q)<|Rv (O.ldE (en:=eS) (x':=SS x82) q (.ptr q) ct9 hx82 q q)<|Rv (O.bu (cs:=[SS x82,SS S0]) sc176 ze176 q q q)<|Rv (O.al (cs:=[SS S0,SS S0]) ze176 q q)<|RunL.sO (G2:=[(1,_),(2,_),(6,_),(18,_),(19,_)]) (cs2:=[SS x82,SS S0]) q (.obj q) (.aggF q q) q sz176 q q q q (.n q q (.n q q (.n q q (.n q q (.b q .nil)))))<|Fi (tn5 q q q q q)) ?_
     refine Px.sq<|W.sq' ?_
     refine W.sq' ?_
     obtain ⟨x83,hx83,h⟩:=bnd h
     refine W.rx [(1,_),(2,_),(6,_),(18,_),(19,_),(20,_)] (Rv (O.mv (.obj q))<|Rv (O.fO q (.obj q) fd176_0 q)<|Rv (O.ldO (y:=SS x82) q (.ptr q) ct9 q q)<|Rc (PC.vw (ys:=[.ptr ⟨6,[]⟩ 0,SS x82]) q (.c (View.p0 q q) (.s .nil)) (con98 (⟨(⟨x65.f_g.Toks,s78.1,x65.f_g.Prods,x65.f_g.Pro,x65.f_g.Tail⟩:Grammar),x65.f_given,x65.f_types,x65.f_lefts,x65.f_e,x65.f_at,x65.f_name,x65.f_level,x65.f_inner⟩:yuccaref9_maker) x82 _ hx83) call98 q)<|Va q<|Fi (tn6 q q q q q q)) ?_
     refine Px.sq<|W.sq' ?_
     refine W.rx [(1,_),(2,_),(6,_),(18,_),(19,_),(20,_),(294,_)] (Vm q<|Rv (O.geq (.lit q) (.k q))<|Fi (tn7 q q q q q q q)) ?_
     refine Px.sq ?_
     obtain ⟨j84,hj,h⟩:=bnd h
     refine W.jn [(1,.obj (eSource_0.cells a0)),(2,.obj [.nils,.nils,.nils,SS S0,SS S0]),(6,.obj [oR eTok x65.f_g.Toks,oR eNon s78.1,oR eProd_0 x65.f_g.Prods,SS x65.f_g.Pro,SS x65.f_g.Tail,oR eB x65.f_given,oR eNon x65.f_types,oR eS x65.f_lefts,I64 x65.f_e,I64 x65.f_at,SS x65.f_name,I64 x65.f_level,I64 x65.f_inner]),(18,I64 s78.2),(19,.obj [SS x82,SS j84])] ?_ ?_
     ·clear h; have h:=hj; clear hj
      refine W.cnd q (fun hb85=>?_) (fun hb85=>?_)
      ·replace h:=cndT hb85 h
       obtain ⟨x86,hx86,h⟩:=bnd h
       refine W.rx [(1,_),(2,_),(6,_),(18,_),(19,_)] (Rv (O.mv (.obj q))<|Rv (O.nlP (.ptr q))<|Rv (O.fO q (.ptr q) fd169_2 q)<|Rv (O.ldO (y:=.brw eNon.z ⟨6,[6]⟩ x65.f_types.length) q (.ptr q) ct41 q q)<|Vm q<|Rv (O.ixO (en:=eNon) q (.brw q) (.lit q) sl41 hx86 q)<|Rv (O.fE (en:=eNon) q (.ptr q) fd176_1 hx86 q q)<|Rv (O.ldE (en:=eNon) (x':=SS x86.Tag) q (.ptr q) ct9 hx86 q q)<|Rv (O.fO q (.obj q) fd176_1 q)<|RunL.sO (G2:=[(1,_),(2,_),(6,_),(18,_),(19,_)]) (cs2:=[SS x82,SS x86.Tag]) q (.ptr q) (.lit q) q sz9 q q q q (.n q q (.n q q (.n q q (.n q q (.b q .nil)))))<|Fi (tn5 q q q q q)) ?_
       obtain rfl:=sm h
       exact Px.jn (tn5 q q q q q)
      ·replace h:=cndF hb85 h
       refine W.sk ?_
       obtain rfl:=sm h
       exact Px.jn (tn5 q q q q q)
     refine Px.sq ?_
     obtain ⟨x87,hx87,h⟩:=bnd h
     refine W.rd [[],[],[1],[1,2],[1,2,3],[1,2,3,4],[],[6],rn 1 7 [],rn 0 9 [],rn 0 10 [],rn 0 11 [],rn 0 12 []] [(1,_),(2,_),(6,_),(18,_)] mixo (by kernel_rfl) (Dv 0 (O.mv (.obj q))<|Dv 1 (O.mv (.obj q))<|Dv 2 (O.nlP (.ptr q))<|Dv 3 (O.fO q (.ptr q) fd169_0 q)<|Dv 4 (O.fO q (.ptr q) fd44_1 q)<|Dv 5 (O.ldO (y:=.brw eNon.z ⟨6,[1]⟩ s78.1.length) q (.ptr q) ct41 q q)<|Dv 6 (O.ldON (cs':=[SS x82,SS j84]) q (.obj q) at176 q q)<|DL.vi 7 (x:=iR eNon [(⟨x82,j84⟩:Non)]) (O.bs (ys:=[.agg [SS x82,SS j84]]) eNon [(⟨x82,j84⟩:Non)] sl41 q q q q q q zt176 q q) q q q q .none<|Dv 8 (O.ap (en:=eNon) (r:=x87) (.brw q) q (.imm q) .i ap41 q hx87)<|Dv 9 (O.nlP (.ptr q))<|Dv 10 (O.fO q (.ptr q) fd169_0 q)<|Dv 11 (O.fO q (.ptr q) fd44_1 q)<|DL.bp 12 (G2:=[(1,.obj (eSource_0.cells a0)),(2,.obj [.nils,.nils,.nils,SS S0,SS S0]),(6,.obj [oR eTok x65.f_g.Toks,oR eNon (s78.1++[(⟨x82,j84⟩:Non)]),oR eProd_0 x65.f_g.Prods,SS x65.f_g.Pro,SS x65.f_g.Tail,oR eB x65.f_given,oR eNon x65.f_types,oR eS x65.f_lefts,I64 x65.f_e,I64 x65.f_at,SS x65.f_name,I64 x65.f_level,I64 x65.f_inner]),(18,I64 s78.2)]) (EO.stP (g1:=_) (en:=eNon) (M:=[(⟨x82,j84⟩:Non)]) (cs2:=[oR eTok x65.f_g.Toks,oR eNon (s78.1++[(⟨x82,j84⟩:Non)]),oR eProd_0 x65.f_g.Prods,SS x65.f_g.Pro,SS x65.f_g.Tail,oR eB x65.f_given,oR eNon x65.f_types,oR eS x65.f_lefts,I64 x65.f_e,I64 x65.f_at,SS x65.f_name,I64 x65.f_level,I64 x65.f_inner]) q q (.ptr q) (.pend q) q q q .ns .rf q q sz41 q q q q (.n q q (.n q q (.b q (.n q q .nil))))) q q q q (by kernel_rfl) (by kernel_rfl)<|DL.fin q q q (tn4 q q q q)) ?_
     refine Px.bk ?_
     refine Px.sq<|W.rx [(1,_),(2,_),(6,_),(18,_)] (Vm q<|Rv (O.add (.lit q) (.k q))<|RunL.re (G1:=[(1,_),(2,_),(6,_),(280,_)]) (tn4 q q q q)<|Va q<|Fi (tn4 q q q q)) ?_
     obtain rfl:=sm h
     exact Px.go (tn4 q q q q)
    ·replace h:=cndF hb81 h
     refine W.xi ?_
     refine Px.sqE ?_
     obtain rfl:=sm h
     exact Px.x1 (tn3 q q q)
   refine Px.bkH ?_
   refine Px.sq<|W.sq' ?_
   refine W.sq'<|W.rx [(1,_),(2,_),(6,_),(21,_)] (Vk q<|Fi (tn4 q q q q)) ?_
   refine Px.sq<|W.bk ?_
   obtain ⟨x89,hl,h⟩:=bnd h
   refine W.tr (G1:=[(1,_),(2,_),(6,_),(21,_)]) (tn4 q q q q) ?_
   refine W.lp1 (s:=(x79,1)) (fun (s88:List Non × Int)=>[(1,.obj (eSource_0.cells a0)),(2,.obj [.nils,.nils,.nils,SS S0,SS S0]),(6,.obj [oR eTok x65.f_g.Toks,oR eNon s88.1,oR eProd_0 x65.f_g.Prods,SS x65.f_g.Pro,SS x65.f_g.Tail,oR eB x65.f_given,oR eNon x65.f_types,oR eS x65.f_lefts,I64 x65.f_e,I64 x65.f_at,SS x65.f_name,I64 x65.f_level,I64 x65.f_inner]),(21,I64 s88.2)]) 16 (fun (x89:List Non)=>[(1,.obj (eSource_0.cells a0)),(2,.obj [.nils,.nils,.nils,SS S0,SS S0]),(6,.obj [oR eTok x65.f_g.Toks,oR eNon x89,oR eProd_0 x65.f_g.Prods,SS x65.f_g.Pro,SS x65.f_g.Tail,oR eB x65.f_given,oR eNon x65.f_types,oR eS x65.f_lefts,I64 x65.f_e,I64 x65.f_at,SS x65.f_name,I64 x65.f_level,I64 x65.f_inner])]) hl (fun s88 o h=>?_) ?_
   ·clear hl
    refine W.sq'<|W.sq' ?_
    refine W.rx [(1,_),(2,_),(6,_),(21,_),(321,_)] (Vm q<|Rv (O.mv (.obj q))<|Rv (O.nlP (.ptr q))<|Rv (O.fO q (.ptr q) fd169_8 q)<|Rv (O.ldO (y:=I64 x65.f_inner) q (.ptr q) ct3 q q)<|Rv (O.leq (.lit q) (.lit q))<|Fi (tn5 q q q q q)) ?_
    refine Px.sq<|W.cnd q (fun hb91=>?_) (fun hb91=>?_)
    ·replace h:=cndT hb91 h
     refine W.sk<|Px.sq ?_
     refine W.sq'<|W.bk ?_
     obtain ⟨x92,hx92,h⟩:=bnd h
     obtain ⟨x93,hx93,h⟩:=bnd h
     obtain ⟨x94,hx94,h⟩:=bnd h
     refine W.rd [[],[],[1],[1,2],[1,2,3],[1,2,3,4],[],[6],[6,7],[6,7,8],[6,7,8,9],rn 1 10 [],rn 0 12 [],rn 0 13 [],rn 0 14 [],rn 0 15 []] [(1,_),(2,_),(6,_),(21,_)] mixo (by kernel_rfl) (Dv 0 (O.mv (.obj q))<|Dv 1 (O.mv (.obj q))<|Dv 2 (O.nlP (.ptr q))<|Dv 3 (O.fO q (.ptr q) fd169_0 q)<|Dv 4 (O.fO q (.ptr q) fd44_1 q)<|Dv 5 (O.ldO (y:=.brw eNon.z ⟨6,[1]⟩ s88.1.length) q (.ptr q) ct41 q q)<|Dv 6 (O.mv (.lit q))<|Dc 7 (PC.go (.cc (.lit q) .nil) (con99 s88.2 _ hx92) call99 q)<|Dv 8 (O.cat (.k q) (.lit q) hx93)<|Dv 9 (O.bu (cs:=[SS x93,SS S0]) sc176 ze176 q q q)<|DL.vi 10 (x:=iR eNon [(⟨x93,S0⟩:Non)]) (O.bs (ys:=[.agg [SS x93,SS S0]]) eNon [(⟨x93,S0⟩:Non)] sl41 q q q q q q zt176 q q) q q q q .none<|Dv 11 (O.ap (en:=eNon) (r:=x94) (.brw q) q (.imm q) .i ap41 q hx94)<|Dv 12 (O.nlP (.ptr q))<|Dv 13 (O.fO q (.ptr q) fd169_0 q)<|Dv 14 (O.fO q (.ptr q) fd44_1 q)<|DL.bp 15 (G2:=[(1,.obj (eSource_0.cells a0)),(2,.obj [.nils,.nils,.nils,SS S0,SS S0]),(6,.obj [oR eTok x65.f_g.Toks,oR eNon (s88.1++[(⟨x93,S0⟩:Non)]),oR eProd_0 x65.f_g.Prods,SS x65.f_g.Pro,SS x65.f_g.Tail,oR eB x65.f_given,oR eNon x65.f_types,oR eS x65.f_lefts,I64 x65.f_e,I64 x65.f_at,SS x65.f_name,I64 x65.f_level,I64 x65.f_inner]),(21,I64 s88.2)]) (EO.stP (g1:=_) (en:=eNon) (M:=[(⟨x93,S0⟩:Non)]) (cs2:=[oR eTok x65.f_g.Toks,oR eNon (s88.1++[(⟨x93,S0⟩:Non)]),oR eProd_0 x65.f_g.Prods,SS x65.f_g.Pro,SS x65.f_g.Tail,oR eB x65.f_given,oR eNon x65.f_types,oR eS x65.f_lefts,I64 x65.f_e,I64 x65.f_at,SS x65.f_name,I64 x65.f_level,I64 x65.f_inner]) q q (.ptr q) (.pend q) q q q .ns .rf q q sz41 q q q q (.n q q (.n q q (.b q (.n q q .nil))))) q q q q (by kernel_rfl) (by kernel_rfl)<|DL.fin q q q (tn4 q q q q)) ?_
     refine Px.bk ?_
     refine Px.sq<|W.rx [(1,_),(2,_),(6,_),(21,_)] (Vm q<|Rv (O.add (.lit q) (.k q))<|RunL.re (G1:=[(1,_),(2,_),(6,_),(323,_)]) (tn4 q q q q)<|Va q<|Fi (tn4 q q q q)) ?_
     obtain rfl:=sm h
     exact Px.go (tn4 q q q q)
    ·replace h:=cndF hb91 h
     refine W.xi ?_
     refine Px.sqE ?_
     obtain rfl:=sm h
     exact Px.x1 (tn3 q q q)
   refine Px.bkH ?_
   refine Px.sq<|W.sq' ?_
   refine W.rx [(1,_),(2,_),(6,_),(22,_)] (Vk q<|Fi (tn4 q q q q)) ?_
   refine Px.sq<|W.sq' ?_
   refine W.sq'<|W.rx [(1,_),(2,_),(6,_),(22,_),(23,_)] (Vk q<|Fi (tn5 q q q q q)) ?_
   refine Px.sq<|W.bk ?_
   obtain ⟨x96,hl,h⟩:=bnd h
   refine W.tr (G1:=[(1,_),(2,_),(6,_),(22,_),(23,_)]) (tn5 q q q q q) ?_
   refine W.lp1 (s:=(x65.f_g.Toks,57346,3)) (fun (s95:List Tok × Int × Int)=>[(1,.obj (eSource_0.cells a0)),(2,.obj [.nils,.nils,.nils,SS S0,SS S0]),(6,.obj [oR eTok s95.1,oR eNon x89,oR eProd_0 x65.f_g.Prods,SS x65.f_g.Pro,SS x65.f_g.Tail,oR eB x65.f_given,oR eNon x65.f_types,oR eS x65.f_lefts,I64 x65.f_e,I64 x65.f_at,SS x65.f_name,I64 x65.f_level,I64 x65.f_inner]),(22,I64 s95.2.1),(23,I64 s95.2.2)]) 18 (fun (x96:List Tok)=>[(1,.obj (eSource_0.cells a0)),(2,.obj [.nils,.nils,.nils,SS S0,SS S0]),(6,.obj [oR eTok x96,oR eNon x89,oR eProd_0 x65.f_g.Prods,SS x65.f_g.Pro,SS x65.f_g.Tail,oR eB x65.f_given,oR eNon x65.f_types,oR eS x65.f_lefts,I64 x65.f_e,I64 x65.f_at,SS x65.f_name,I64 x65.f_level,I64 x65.f_inner])]) hl (fun s95 o h=>?_) ?_
   ·clear hl
    refine W.sq'<|W.sq' ?_
    refine W.rx [(1,_),(2,_),(6,_),(22,_),(23,_),(346,_)] (Vm q<|Rv (O.mv (.obj q))<|Rv (O.nlP (.ptr q))<|Rv (O.fO q (.ptr q) fd169_0 q)<|Rv (O.fO q (.ptr q) fd44_0 q)<|Rv (O.ldO (y:=.brw eTok.z ⟨6,[0]⟩ s95.1.length) q (.ptr q) ct40 q q)<|Rv (O.lenO (.brw q) sl40)<|Rv (O.lss (.lit q) (.lit q))<|Fi (tn6 q q q q q q)) ?_
    refine Px.sq<|W.cnd q (fun hb98=>?_) (fun hb98=>?_)
    ·replace h:=cndT hb98 h
     refine W.sk<|Px.sq ?_
     refine W.sq' ?_
     obtain ⟨j99,hj,h⟩:=bnd h
     refine W.jn [(1,.obj (eSource_0.cells a0)),(2,.obj [.nils,.nils,.nils,SS S0,SS S0]),(6,.obj [oR eTok j99.1,oR eNon x89,oR eProd_0 x65.f_g.Prods,SS x65.f_g.Pro,SS x65.f_g.Tail,oR eB x65.f_given,oR eNon x65.f_types,oR eS x65.f_lefts,I64 x65.f_e,I64 x65.f_at,SS x65.f_name,I64 x65.f_level,I64 x65.f_inner]),(22,I64 j99.2),(23,I64 s95.2.2)] ?_ ?_
     ·clear h; have h:=hj; clear hj
      refine W.bk<|W.sq' ?_
      obtain ⟨x100,hx100,h⟩:=bnd h
      refine W.rx [(1,_),(2,_),(6,_),(22,_),(23,_),(356,_)] (Rv (O.mv (.obj q))<|Rv (O.nlP (.ptr q))<|Rv (O.fO q (.ptr q) fd169_1 q)<|Rv (O.ldO (y:=.brw eB.z ⟨6,[5]⟩ x65.f_given.length) q (.ptr q) ct103 q q)<|Vm q<|Rv (O.ixO (en:=eB) q (.brw q) (.lit q) sl103 hx100 q)<|Rv (O.ldE (en:=eB) (x':=BB x100) q (.ptr q) ct4 hx100 q q)<|Rv (O.not (.lit q))<|Fi (tn6 q q q q q q)) ?_
      refine Px.sq ?_
      obtain ⟨j101,hj,h⟩:=bnd h
      refine W.jn [(1,.obj (eSource_0.cells a0)),(2,.obj [.nils,.nils,.nils,SS S0,SS S0]),(6,.obj [oR eTok j101.1,oR eNon x89,oR eProd_0 x65.f_g.Prods,SS x65.f_g.Pro,SS x65.f_g.Tail,oR eB x65.f_given,oR eNon x65.f_types,oR eS x65.f_lefts,I64 x65.f_e,I64 x65.f_at,SS x65.f_name,I64 x65.f_level,I64 x65.f_inner]),(22,I64 j101.2),(23,I64 s95.2.2)] ?_ ?_
      ·clear h; have h:=hj; clear hj
       refine W.cnd q (fun hb102=>?_) (fun hb102=>?_)
       ·replace h:=cndT hb102 h
        refine W.sq' ?_
        obtain ⟨x103,hx103,h⟩:=bnd h
        refine W.rx [(1,_),(2,_),(6,_),(22,_),(23,_)] (Rv (O.mv (.obj q))<|Rv (O.nlP (.ptr q))<|Rv (O.fO q (.ptr q) fd169_0 q)<|Rv (O.fO q (.ptr q) fd44_0 q)<|Rv (O.ldO (y:=.brw eTok.z ⟨6,[0]⟩ s95.1.length) q (.ptr q) ct40 q q)<|Vm q<|Vm q<|Rv (O.ixO (en:=eTok) q (.brw q) (.lit q) sl40 hx103 q)<|Rv (O.fE (en:=eTok) q (.ptr q) fd78_2 hx103 q q)<|RunL.ef (G2:=[(1,.obj (eSource_0.cells a0)),(2,.obj [.nils,.nils,.nils,SS S0,SS S0]),(6,.obj [oR eTok (s95.1.set s95.2.2.toNat (⟨x103.Name,x103.Lit,s95.2.1,x103.Level,x103.Assoc,x103.Tag⟩:Tok)),oR eNon x89,oR eProd_0 x65.f_g.Prods,SS x65.f_g.Pro,SS x65.f_g.Tail,oR eB x65.f_given,oR eNon x65.f_types,oR eS x65.f_lefts,I64 x65.f_e,I64 x65.f_at,SS x65.f_name,I64 x65.f_level,I64 x65.f_inner]),(22,I64 s95.2.1),(23,I64 s95.2.2)]) q (EO.stE (en:=eTok) (y2:=(⟨x103.Name,x103.Lit,s95.2.1,x103.Level,x103.Assoc,x103.Tag⟩:Tok)) (cs':=[I64 s95.2.1]) (x2:=.obj [oR eTok (s95.1.set s95.2.2.toNat (⟨x103.Name,x103.Lit,s95.2.1,x103.Level,x103.Assoc,x103.Tag⟩:Tok)),oR eNon x89,oR eProd_0 x65.f_g.Prods,SS x65.f_g.Pro,SS x65.f_g.Tail,oR eB x65.f_given,oR eNon x65.f_types,oR eS x65.f_lefts,I64 x65.f_e,I64 x65.f_at,SS x65.f_name,I64 x65.f_level,I64 x65.f_inner]) q q (.ptr q) (.lit q) q hx103 sz3 q q q q q q q (.n q q (.n q q (.b q (.n q q (.n q q .nil))))))<|Fi (tn5 q q q q q)) ?_
        refine Px.sq<|W.rx [(1,_),(2,_),(6,_),(22,_),(23,_)] (Vm q<|Rv (O.add (.lit q) (.k q))<|RunL.re (G1:=[(1,_),(2,_),(6,_),(23,_),(367,_)]) (tn5 q q q q q)<|Va q<|Fi (tn5 q q q q q)) ?_
        obtain rfl:=sm h
        exact Px.jn (tn5 q q q q q)
       ·replace h:=cndF hb102 h
        refine W.sk ?_
        obtain rfl:=sm h
        exact Px.jn (tn5 q q q q q)
      refine Px.bk ?_
      obtain rfl:=sm h
      exact Px.jn (tn5 q q q q q)
     refine Px.sq<|W.rx [(1,_),(2,_),(6,_),(22,_),(23,_)] (Vm q<|Rv (O.add (.lit q) (.k q))<|RunL.re (G1:=[(1,_),(2,_),(6,_),(22,_),(348,_)]) (tn5 q q q q q)<|Va q<|Fi (tn5 q q q q q)) ?_
     obtain rfl:=sm h
     exact Px.go (tn5 q q q q q)
    ·replace h:=cndF hb98 h
     refine W.xi ?_
     refine Px.sqE ?_
     obtain rfl:=sm h
     exact Px.x1 (tn3 q q q)
   refine Px.bkH ?_
   refine Px.sq<|W.sq' ?_
   obtain ⟨c106,hj,h⟩:=bnd h
   refine W.rx [(1,.obj (eSource_0.cells a0)),(2,.obj [.nils,.nils,.nils,SS S0,SS S0]),(6,.obj [oR eTok x96,oR eNon x89,oR eProd_0 x65.f_g.Prods,SS x65.f_g.Pro,SS x65.f_g.Tail,oR eB x65.f_given,oR eNon x65.f_types,oR eS x65.f_lefts,I64 x65.f_e,I64 x65.f_at,SS x65.f_name,I64 x65.f_level,I64 x65.f_inner]),(24,BB c106)] ?_ ?_
   ·refine Rv (O.mv (.obj q))<|Rv (O.nlP (.ptr q))<|Rv (O.fO q (.ptr q) fd169_0 q)<|Rv (O.fO q (.ptr q) fd44_0 q)<|Rv (O.ldO (y:=.brw eTok.z ⟨6,[0]⟩ x96.length) q (.ptr q) ct40 q q)<|Rv (O.lenO (.brw q) sl40)<|Rv (O.gtr (.lit q) (.k q))<|Rv (O.mv (.lit q)) ?_
    rcases cnd hj with ⟨hb104,hj⟩ | ⟨hb104,hj⟩
    ·obtain rfl:=sm hj
     exact RunL.ps q q hb104 q q<|RunL.ps q q hb104 q q<|RunL.ps q q hb104 q q<|RunL.ps q q hb104 q q<|RunL.ps q q hb104 q q<|RunL.ps q q hb104 q q<|RunL.ps q q hb104 q q<|Rv (O.pkT (.lit q) hb104 (.k q))<|Vm q<|RunL.ps q q q q q<|RunL.ps q q q q q<|RunL.ps q q q q q<|RunL.ps q q q q q<|RunL.ps q q q q q<|RunL.ps q q q q q<|RunL.ps q q q q q<|Rv (O.pkT (.lit q) q (.k q))<|Va q<|Fi (tn4 q q q q)
    ·refine RunL.v (O.mv (.obj q)) q q (.yb q q hb104)<|RunL.v (O.nlP (.ptr q)) q q (.yb q q hb104)<|RunL.v (O.fO q (.ptr q) fd169_0 q) q q (.yb q q hb104)<|RunL.v (O.fO q (.ptr q) fd44_1 q) q q (.yb q q hb104)<|RunL.v (O.ldO (y:=.brw eNon.z ⟨6,[1]⟩ x89.length) q (.ptr q) ct41 q q) q q (.yb q q hb104)<|RunL.v (O.lenO (.brw q) sl41) q q (.yb q q hb104)<|RunL.v (O.gtr (.lit q) (.k q)) q q (.yb q q hb104)<|Rv (O.pkF (.lit q) hb104 (.lit q))<|Rv (O.mv (.lit q)) ?_
     rcases cnd hj with ⟨hb105,hj⟩ | ⟨hb105,hj⟩
     ·obtain rfl:=sm hj
      exact RunL.ps q q hb105 q q<|RunL.ps q q hb105 q q<|RunL.ps q q hb105 q q<|RunL.ps q q hb105 q q<|RunL.ps q q hb105 q q<|RunL.ps q q hb105 q q<|RunL.ps q q hb105 q q<|Rv (O.pkT (.lit q) hb105 (.k q))<|Va q<|Fi (tn4 q q q q)
     ·obtain rfl:=sm hj
      exact RunL.v (O.mv (.obj q)) q q (.yb q q hb105)<|RunL.v (O.nlP (.ptr q)) q q (.yb q q hb105)<|RunL.v (O.fO q (.ptr q) fd169_0 q) q q (.yb q q hb105)<|RunL.v (O.fO q (.ptr q) fd44_2 q) q q (.yb q q hb105)<|RunL.v (O.ldO (y:=.brw eProd_0.z ⟨6,[2]⟩ x65.f_g.Prods.length) q (.ptr q) ct42 q q) q q (.yb q q hb105)<|RunL.v (O.lenO (.brw q) sl42) q q (.yb q q hb105)<|RunL.v (O.gtr (.lit q) (.k q)) q q (.yb q q hb105)<|Rv (O.pkF (.lit q) hb105 (.lit q))<|Va q<|Fi (tn4 q q q q)
   refine Px.sq<|W.sq' ?_
   refine W.sq'<|W.rx [(1,_),(2,_),(6,_),(24,_),(25,_)] (Vk q<|Fi (tn5 q q q q q)) ?_
   refine Px.sq<|W.bk ?_
   obtain ⟨x108,hl,h⟩:=bnd h
   refine W.tr (G1:=[(1,_),(2,_),(6,_),(24,_),(25,_)]) (tn5 q q q q q) ?_
   refine W.lp1 (s:=(c106,0)) (fun (s107:Bool × Int)=>[(1,.obj (eSource_0.cells a0)),(2,.obj [.nils,.nils,.nils,SS S0,SS S0]),(6,.obj [oR eTok x96,oR eNon x89,oR eProd_0 x65.f_g.Prods,SS x65.f_g.Pro,SS x65.f_g.Tail,oR eB x65.f_given,oR eNon x65.f_types,oR eS x65.f_lefts,I64 x65.f_e,I64 x65.f_at,SS x65.f_name,I64 x65.f_level,I64 x65.f_inner]),(24,BB s107.1),(25,I64 s107.2)]) 20 (fun (x108:Bool)=>[(1,.obj (eSource_0.cells a0)),(2,.obj [.nils,.nils,.nils,SS S0,SS S0]),(6,.obj [oR eTok x96,oR eNon x89,oR eProd_0 x65.f_g.Prods,SS x65.f_g.Pro,SS x65.f_g.Tail,oR eB x65.f_given,oR eNon x65.f_types,oR eS x65.f_lefts,I64 x65.f_e,I64 x65.f_at,SS x65.f_name,I64 x65.f_level,I64 x65.f_inner]),(24,BB x108)]) hl (fun s107 o h=>?_) ?_
   ·clear hl
    refine W.sq'<|W.sq' ?_
    refine W.rx [(1,_),(2,_),(6,_),(24,_),(25,_),(400,_)] (Vm q<|Rv (O.mv (.obj q))<|Rv (O.nlP (.ptr q))<|Rv (O.fO q (.ptr q) fd169_0 q)<|Rv (O.fO q (.ptr q) fd44_2 q)<|Rv (O.ldO (y:=.brw eProd_0.z ⟨6,[2]⟩ x65.f_g.Prods.length) q (.ptr q) ct42 q q)<|Rv (O.lenO (.brw q) sl42)<|Rv (O.lss (.lit q) (.lit q))<|Fi (tn6 q q q q q q)) ?_
    refine Px.sq<|W.cnd q (fun hb110=>?_) (fun hb110=>?_)
    ·replace h:=cndT hb110 h
     refine W.sk<|Px.sq ?_
     refine W.sq'<|W.bk ?_
     obtain ⟨c113,hj,h⟩:=bnd h
     refine W.rx [(1,.obj (eSource_0.cells a0)),(2,.obj [.nils,.nils,.nils,SS S0,SS S0]),(6,.obj [oR eTok x96,oR eNon x89,oR eProd_0 x65.f_g.Prods,SS x65.f_g.Pro,SS x65.f_g.Tail,oR eB x65.f_given,oR eNon x65.f_types,oR eS x65.f_lefts,I64 x65.f_e,I64 x65.f_at,SS x65.f_name,I64 x65.f_level,I64 x65.f_inner]),(24,BB c113),(25,I64 s107.2)] ?_ ?_
     ·refine Vm q<|Rv (O.mv (.lit q)) ?_
      rcases cnd hj with ⟨hb111,hj⟩ | ⟨hb111,hj⟩
      ·obtain rfl:=sm hj
       exact RunL.ps q q hb111 q q<|RunL.ps q q hb111 q q<|RunL.ps q q hb111 q q<|RunL.ps q q hb111 q q<|RunL.ps q q hb111 q q<|RunL.ps q q hb111 q q<|RunL.ps q q hb111 q q<|RunL.ps q q hb111 q q<|RunL.ps q q hb111 q q<|RunL.ps q q hb111 q q<|RunL.ps q q hb111 q q<|Rv (O.pkT (.lit q) hb111 (.k q))<|RunL.re (G1:=[(1,_),(2,_),(6,_),(25,_),(416,_)]) (tn5 q q q q q)<|Va q<|Fi (tn5 q q q q q)
      ·refine RunL.v (O.mv (.obj q)) q q (.yb q q hb111)<|RunL.v (O.nlP (.ptr q)) q q (.yb q q hb111)<|RunL.v (O.fO q (.ptr q) fd169_0 q) q q (.yb q q hb111)<|RunL.v (O.fO q (.ptr q) fd44_2 q) q q (.yb q q hb111)<|RunL.v (O.ldO (y:=.brw eProd_0.z ⟨6,[2]⟩ x65.f_g.Prods.length) q (.ptr q) ct42 q q) q q (.yb q q hb111)<|RunL.v (O.mv (.lit q)) q q (.yb q q hb111) ?_
       obtain ⟨x112,hx112,hj⟩:=bnd hj
       obtain rfl:=sm hj
       exact RunL.v (O.ixO (en:=eProd_0) q (.brw q) (.lit q) sl42 hx112 q) q q (.yb q q hb111)<|RunL.v (O.fE (en:=eProd_0) q (.ptr q) fd148_1 hx112 q q) q q (.yb q q hb111)<|RunL.v (O.ldE (en:=eProd_0) (x':=iR eI x112.Right) q (.ptr q) ct29 hx112 q q) q q (.yb q q hb111)<|RunL.v (O.lenI (.imm q) sl29) q q (.yb q q hb111)<|RunL.v (O.gtr (.lit q) (.k q)) q q (.yb q q hb111)<|Rv (O.pkF (.lit q) hb111 (.lit q))<|RunL.re (G1:=[(1,_),(2,_),(6,_),(25,_),(416,_)]) (tn5 q q q q q)<|Va q<|Fi (tn5 q q q q q)
     refine Px.bk ?_
     refine Px.sq<|W.rx [(1,_),(2,_),(6,_),(24,_),(25,_)] (Vm q<|Rv (O.add (.lit q) (.k q))<|RunL.re (G1:=[(1,_),(2,_),(6,_),(24,_),(402,_)]) (tn5 q q q q q)<|Va q<|Fi (tn5 q q q q q)) ?_
     obtain rfl:=sm h
     exact Px.go (tn5 q q q q q)
    ·replace h:=cndF hb110 h
     refine W.xi ?_
     refine Px.sqE ?_
     obtain rfl:=sm h
     exact Px.x1 (tn4 q q q q)
   refine Px.bkH ?_
   refine Px.sq<|W.sq' ?_
   refine W.sq'<|W.rx [(1,_),(2,_),(6,_),(417,_)] (Vm q<|Fi (tn4 q q q q)) ?_
   refine Px.sq<|W.cnd q (fun hb114=>?_) (fun hb114=>?_)
   ·replace h:=cndT hb114 h
    refine W.sq'<|W.rx [(2,_),(3,_),(4,_),(5,_)] (Rv (O.bu (cs:=[.nils,.nils,.nils,SS S0,SS S0]) sc44 ze44 q q q)<|RunL.sO (G2:=[(2,_)]) (cs2:=[.nils,.nils,.nils,SS S0,SS S0]) q (.obj q) (.aggF q q) q sz44 q q q q (.b q .nil)<|Vk q<|Vk q<|Vk q<|Fi (tn4 q q q q)) ?_
    refine Px.sq<|W.fz (G1:=[(2,.obj [iR eTok ([]:List Tok),iR eNon ([]:List Non),iR eProd_0 ([]:List Prod),SS S0,SS S0]),(3,_),(4,_),(5,_)]) [2] (.z q q (FzL.obj (.z (.z (.z (.f (.f .nil)))))) (.n q q (.n q q (.n q q .nil)))) ?_
    refine W.rt ?_
    refine Px.sqR ?_
    obtain rfl:=sm h
    exact Px.fin (Fin.ro (.c (ys0:=[iR eTok ([]:List Tok),iR eNon ([]:List Non),iR eProd_0 ([]:List Prod),SS S0,SS S0]) q at44 q q q (.f q (.f q (.f q (.f q (.f q .nil))))) (.f q q (.f q q (.f q q .nil)))) q (ode (by kernel_rfl)) (.no .nil) q (.inr q))
   ·replace h:=cndF hb114 h
    refine W.sk<|Px.sq ?_
    refine W.sq'<|W.rd [[],[],[],[2],[],[4],[0,2,3],[0,2,3,6],[0,2,3,6,7],[0,2,3,6,7,8],rn 0 10 [],rn 0 11 [],rn 0 12 [],rn 0 13 []] [(2,_),(6,_)] mixo (by kernel_rfl) (Dv 0 (O.mv (.obj q))<|Dv 1 (O.mv (.obj q))<|Dv 2 (O.fO q (.obj q) fd33_0 q)<|Dv 3 (O.ldO (y:=SS a0.Pro) q (.ptr q) ct9 q q)<|Dv 4 (O.fO q (.obj q) fd33_3 q)<|Dv 5 (O.ldO (y:=SS a0.Tail) q (.ptr q) ct9 q q)<|Dv 6 (O.nlP (.ptr q))<|Dv 7 (O.fO q (.ptr q) fd169_0 q)<|Dv 8 (O.fO q (.ptr q) fd44_3 q)<|DL.bu 9 (G2:=[(1,.obj (eSource_0.cells a0)),(2,.obj [.nils,.nils,.nils,SS S0,SS S0]),(6,.obj [oR eTok x96,oR eNon x89,oR eProd_0 x65.f_g.Prods,SS a0.Pro,SS x65.f_g.Tail,oR eB x65.f_given,oR eNon x65.f_types,oR eS x65.f_lefts,I64 x65.f_e,I64 x65.f_at,SS x65.f_name,I64 x65.f_level,I64 x65.f_inner])]) (U:=[(5,424,some (SS a0.Tail)),(4,423,some (.ptr ⟨1,[]⟩ 3)),(1,420,some (.ptr ⟨6,[]⟩ 0))]) (EffOk.v (EO.eff (EO.sO (G2:=[(1,.obj (eSource_0.cells a0)),(2,.obj [.nils,.nils,.nils,SS S0,SS S0]),(6,.obj [oR eTok x96,oR eNon x89,oR eProd_0 x65.f_g.Prods,SS a0.Pro,SS x65.f_g.Tail,oR eB x65.f_given,oR eNon x65.f_types,oR eS x65.f_lefts,I64 x65.f_e,I64 x65.f_at,SS x65.f_name,I64 x65.f_level,I64 x65.f_inner])]) (cs2:=[oR eTok x96,oR eNon x89,oR eProd_0 x65.f_g.Prods,SS a0.Pro,SS x65.f_g.Tail,oR eB x65.f_given,oR eNon x65.f_types,oR eS x65.f_lefts,I64 x65.f_e,I64 x65.f_at,SS x65.f_name,I64 x65.f_level,I64 x65.f_inner]) q q q (.ptr q) (.lit q) q sz9 q q q q (.n q q (.n q q (.b q .nil)))))) q q (by kernel_rfl) q q q (.c (.inr (.inl ⟨_,q⟩)) q q q q q (Gd.wanted .none) (O.ldO (y:=SS a0.Tail) q (.ptr q) ct9 q q) (.c (.inr (.inr (.inr (.inl ⟨1,_,_,q,q,of_blt q,by simp,_,q,of_blt q⟩)))) q q q q q (Gd.wanted .none) (O.fO q (.obj q) fd33_3 q) (.c (.inr (.inr (.inr (.inl ⟨6,_,_,q,q,of_blt q,by simp,_,q,of_blt q⟩)))) q q q q q (Gd.wanted .none) (O.mv (.obj q)) .nil))) (by kernel_rfl)<|Dv 10 (O.nlP (.ptr q))<|Dv 11 (O.fO q (.ptr q) fd169_0 q)<|Dv 12 (O.fO q (.ptr q) fd44_4 q)<|DL.sO 13 (G2:=[(2,.obj [.nils,.nils,.nils,SS S0,SS S0]),(6,.obj [oR eTok x96,oR eNon x89,oR eProd_0 x65.f_g.Prods,SS a0.Pro,SS a0.Tail,oR eB x65.f_given,oR eNon x65.f_types,oR eS x65.f_lefts,I64 x65.f_e,I64 x65.f_at,SS x65.f_name,I64 x65.f_level,I64 x65.f_inner])]) (cs2:=[oR eTok x96,oR eNon x89,oR eProd_0 x65.f_g.Prods,SS a0.Pro,SS a0.Tail,oR eB x65.f_given,oR eNon x65.f_types,oR eS x65.f_lefts,I64 x65.f_e,I64 x65.f_at,SS x65.f_name,I64 x65.f_level,I64 x65.f_inner]) q (by kernel_rfl) (by kernel_rfl) q q q (.ptr q) (.lit q) q sz9 q q q q (.n q q (.b q .nil))<|DL.fin q q q (tn2 q q)) ?_
    refine Px.sq<|W.sq' ?_
    refine W.fz (G1:=[(2,_),(6,.obj [iR eTok x96,iR eNon x89,iR eProd_0 x65.f_g.Prods,SS a0.Pro,SS a0.Tail,oR eB x65.f_given,oR eNon x65.f_types,oR eS x65.f_lefts,I64 x65.f_e,I64 x65.f_at,SS x65.f_name,I64 x65.f_level,I64 x65.f_inner])]) [6] (.n q q (.z q q (FzL.obj (.z (.z (.z (.f (.f (.f (.f (.f (.f (.f (.f (.f (.f .nil)))))))))))))) .nil)) ?_
    refine W.rx [(2,_),(3,_),(4,_),(5,_)] (Rv (O.mv (.obj q))<|Rv (O.nlP (.ptr q))<|Rv (O.fO q (.ptr q) fd169_0 q)<|Rv (O.ldON (cs':=[iR eTok x96,iR eNon x89,iR eProd_0 x65.f_g.Prods,SS a0.Pro,SS a0.Tail]) q (.ptr q) at44 q q)<|RunL.sO (G2:=[(2,_)]) (cs2:=[iR eTok x96,iR eNon x89,iR eProd_0 x65.f_g.Prods,SS a0.Pro,SS a0.Tail]) q (.obj q) (.aggF q q) q sz44 q q q q (.b q .nil)<|Vk q<|Vk q<|Vk q<|Fi (tn4 q q q q)) ?_
    refine Px.sq<|W.rt ?_
    obtain rfl:=sm h
    exact Px.fin (Fin.ro (.c (ys0:=[iR eTok x96,iR eNon x89,iR eProd_0 x65.f_g.Prods,SS a0.Pro,SS a0.Tail]) q at44 q q q (.f q (.f q (.f q (.f q (.f q .nil))))) (.f q q (.f q q (.f q q .nil)))) q (ode (by kernel_rfl)) (.no .nil) q (.inr q))
theorem con68 (a0:Source) (r:Grammar × Bool) (h:pf68 a0=some r):Con Try.prog 68 [.agg (eSource_0.cells a0)] [none] (.tup [.agg (eGrammar_0.cells r.1),BB r.2]):=by
 unfold pf68 at h
 refine Con.go (N:=⟨18,[]⟩) Try.func68 q q q q (W.fin ?_)
 refine W.st [(0,.agg (eSource_0.cells a0))] ?_
 refine W.sq'<|W.rx [(1,_),(2,_)] (Rv (O.box (.aggF q q) q)<|Rv (O.al (cs:=[.nils,.nils,.nils,SS S0,SS S0]) ze44 q q)<|Vk q<|Fi (tn2 q q)) ?_
 refine Px.sq<|W.sq' ?_
 obtain ⟨x1,hx1,h⟩:=bnd h
 refine W.rx [(2,_),(4,_),(5,_)] (Rv (O.ldON (cs':=[SS a0.Pro,iR eDecl_0 a0.Decls,iR eRule_0 a0.Rules,SS a0.Tail]) q (.obj q) at33 q q)<|Rc (PC.go (.cc (.aggF q q) .nil) (con78 a0 _ hx1) call78 q)<|Rv (O.mv (.tup q q))<|Rv (O.ex (y:=.agg (eGrammar_0.cells x1.1)) q q q)<|Rv (O.ex (y:=I64 x1.2.1) q q q)<|Rv (O.ex (y:=I64 x1.2.2.1) q q q)<|Rv (O.ex (y:=SS x1.2.2.2) q q q)<|Rv (O.al (cs:=[.nils,.nils,.nils,SS S0,SS S0]) ze44 q q)<|RunL.sO (G2:=[(2,_),(4,_),(12,_),(13,_),(14,_)]) (cs2:=[iR eTok x1.1.Toks,iR eNon x1.1.Nons,iR eProd_0 x1.1.Prods,SS x1.1.Pro,SS x1.1.Tail]) q (.obj q) (.aggF q q) q sz44 q q q q (.n q q (.b q (.n q q (.n q q (.n q q .nil)))))<|Va q<|Va q<|Va q<|Fi (tn3 q q q)) ?_
 refine Px.sq<|W.sq' ?_
 refine W.rx [(2,_),(3,_)] (Rv (O.ldON (cs':=[iR eTok x1.1.Toks,iR eNon x1.1.Nons,iR eProd_0 x1.1.Prods,SS x1.1.Pro,SS x1.1.Tail]) q (.obj q) at44 q q)<|Vm q<|Rv (O.eql (.lit q) (.k q))<|RunL.sO (G2:=[(2,_),(17,_)]) (cs2:=[iR eTok x1.1.Toks,iR eNon x1.1.Nons,iR eProd_0 x1.1.Prods,SS x1.1.Pro,SS x1.1.Tail]) q (.obj q) (.aggF q q) q sz44 q q q q (.b q (.n q q .nil))<|Va q<|Fi (tn2 q q)) ?_
 refine Px.sq<|W.rt ?_
 obtain rfl:=sm h
 exact Px.fin (Fin.ro (.c (ys0:=[iR eTok x1.1.Toks,iR eNon x1.1.Nons,iR eProd_0 x1.1.Prods,SS x1.1.Pro,SS x1.1.Tail]) q at44 q q q (.f q (.f q (.f q (.f q (.f q .nil))))) (.f q q .nil)) q (ode (by kernel_rfl)) (.no .nil) q (.inr q))
theorem con67 (a0:(List Int)) (a1:Int) (r:(List Int)) (h:pf67 a0 a1=some r):Con Try.prog 67 [iR eI a0,I64 a1] [none,none] (iR eI r):=by
 unfold pf67 at h
 refine Con.go (N:=⟨47,[]⟩) Try.func67 q q q q (W.fin ?_)
 refine W.st [(0,iR eI a0),(1,I64 a1)] ?_
 refine W.sq'<|W.rx [(0,_),(1,_)] (Rv (O.az .knil)<|Fi (tn2 q q)) ?_
 refine Px.sq<|W.sq' ?_
 refine W.rx [(0,_),(1,_),(5,_)] (Rv (O.mv (.imm q))<|Rv (O.lenI (.imm q) sl29)<|Va q<|Fi (tn3 q q q)) ?_
 refine Px.sq<|W.sq' ?_
 refine W.bk ?_
 obtain ⟨x2,hl,h⟩:=bnd h
 refine W.tr (G1:=[(0,_),(1,_),(5,_)]) (tn3 q q q) ?_
 refine W.lp1 (s:=(a0.length:Int)) (fun (s1:Int)=>[(0,iR eI a0),(1,I64 a1),(5,I64 s1)]) 0 (fun (x2:Int)=>[(0,iR eI a0),(1,I64 a1),(5,I64 x2)]) hl (fun s1 o h=>?_) ?_
 ·clear hl
  refine W.sq'<|W.sq' ?_
  obtain ⟨c6,hj,h⟩:=bnd h
  refine W.rx [(0,iR eI a0),(1,I64 a1),(5,I64 s1),(19,BB c6)] ?_ ?_
  ·refine Vm q<|Rv (O.gtr (.lit q) (.k q))<|Rv (O.mv (.lit q)) ?_
   rcases cnd hj with ⟨hb4,hj⟩ | ⟨hb4,hj⟩
   ·refine RunL.v (O.mv (.imm q)) q q (.yb q q hb4)<|RunL.v (O.mv (.lit q)) q q (.yb q q hb4)<|RunL.v (O.sub (.lit q) (.k q)) q q (.yb q q hb4) ?_
    obtain ⟨x5,hx5,hj⟩:=bnd hj
    obtain rfl:=sm hj
    exact RunL.v (O.ixI (.imm q) (.lit q) sl29 hx5) q q (.yb q q hb4)<|RunL.v (O.ldI (x:=I64 x5) (.iptr q) ct3 q) q q (.yb q q hb4)<|RunL.v (O.mv (.lit q)) q q (.yb q q hb4)<|RunL.v (O.gtr (.lit q) (.lit q)) q q (.yb q q hb4)<|Rv (O.pkT (.lit q) hb4 (.lit q))<|Fi (tn4 q q q q)
   ·obtain rfl:=sm hj
    exact RunL.ps q q hb4 q q<|RunL.ps q q hb4 q q<|RunL.ps q q hb4 q q<|RunL.ps q q hb4 q q<|RunL.ps q q hb4 q q<|RunL.ps q q hb4 q q<|RunL.ps q q hb4 q q<|Rv (O.pkF (.lit q) hb4 (.k q))<|Fi (tn4 q q q q)
  refine Px.sq<|W.cnd q (fun hb7=>?_) (fun hb7=>?_)
  ·replace h:=cndT hb7 h
   refine W.sk<|Px.sq ?_
   refine W.bk<|W.rx [(0,_),(1,_),(5,_)] (Vm q<|Rv (O.sub (.lit q) (.k q))<|RunL.re (G1:=[(0,_),(1,_),(21,_)]) (tn3 q q q)<|Va q<|Fi (tn3 q q q)) ?_
   refine Px.bk ?_
   obtain rfl:=sm h
   exact Px.go (tn3 q q q)
  ·replace h:=cndF hb7 h
   refine W.xi ?_
   refine Px.sqE ?_
   obtain rfl:=sm h
   exact Px.x1 (tn3 q q q)
 refine Px.bkH ?_
 refine Px.sq<|W.sq' ?_
 refine W.sq' ?_
 obtain ⟨c10,hj,h⟩:=bnd h
 refine W.rx [(0,iR eI a0),(1,I64 a1),(5,I64 x2),(32,BB c10)] ?_ ?_
 ·refine Vm q<|Rv (O.gtr (.lit q) (.k q))<|Rv (O.mv (.lit q)) ?_
  rcases cnd hj with ⟨hb8,hj⟩ | ⟨hb8,hj⟩
  ·refine RunL.v (O.mv (.imm q)) q q (.yb q q hb8)<|RunL.v (O.mv (.lit q)) q q (.yb q q hb8)<|RunL.v (O.sub (.lit q) (.k q)) q q (.yb q q hb8) ?_
   obtain ⟨x9,hx9,hj⟩:=bnd hj
   obtain rfl:=sm hj
   exact RunL.v (O.ixI (.imm q) (.lit q) sl29 hx9) q q (.yb q q hb8)<|RunL.v (O.ldI (x:=I64 x9) (.iptr q) ct3 q) q q (.yb q q hb8)<|RunL.v (O.mv (.lit q)) q q (.yb q q hb8)<|RunL.v (O.eql (.lit q) (.lit q)) q q (.yb q q hb8)<|Rv (O.pkT (.lit q) hb8 (.lit q))<|Fi (tn4 q q q q)
  ·obtain rfl:=sm hj
   exact RunL.ps q q hb8 q q<|RunL.ps q q hb8 q q<|RunL.ps q q hb8 q q<|RunL.ps q q hb8 q q<|RunL.ps q q hb8 q q<|RunL.ps q q hb8 q q<|RunL.ps q q hb8 q q<|Rv (O.pkF (.lit q) hb8 (.k q))<|Fi (tn4 q q q q)
 refine Px.sq<|W.cnd q (fun hb11=>?_) (fun hb11=>?_)
 ·replace h:=cndT hb11 h
  refine W.sq'<|W.rx [(4,_)] (Rv (O.mv (.imm q))<|Rv (O.az (.imm q))<|Fi (.n q .nil)) ?_
  refine Px.sq<|W.rt ?_
  refine Px.sqR ?_
  obtain rfl:=sm h
  exact Px.fin (Fin.ro (.f q q .nil) q (ode (by kernel_rfl)) (.no (.no .nil)) q (.inr q))
 ·replace h:=cndF hb11 h
  refine W.sk<|Px.sq ?_
  refine W.sq' ?_
  obtain ⟨x12,hx12,h⟩:=bnd h
  obtain ⟨x13,hx13,h⟩:=bnd h
  refine W.rx [(0,_),(1,_),(5,_),(6,_)] (Rv (O.bs (ys:=[]) eI ([]:List Int) sl29 q q q q q q zt3 q q)<|Rv (O.mv (.imm q))<|Vm q<|Rv (O.slI0 (.imm q) (.lit q) sl29 hx12)<|Rv (O.ap (en:=eI) (r:=x13) (.own q) q (.imm q) .i ap29 q hx13)<|RunL.ea (G2:=[(0,iR eI a0),(1,I64 a1),(5,I64 x2)]) q (EO.aP q q (.pend q) q q q (.n q q (.n q q (.n q q .nil))) q q)<|Fi (tn4 q q q q)) ?_
  refine Px.sq<|W.sq' ?_
  obtain ⟨x14,hx14,h⟩:=bnd h
  obtain ⟨x15,hx15,h⟩:=bnd h
  obtain ⟨x16,hx16,h⟩:=bnd h
  refine W.rd [[],[],[1],[0,1,2],[],[],[4,5],rn 0 7 [],rn 0 8 []] [(4,_)] mixo (by kernel_rfl) (Dv 0 (O.mv (.own q))<|Dv 1 (O.mv (.lit q))<|DL.vi 2 (x:=iR eI [a1]) (O.bs (ys:=[I64 a1]) eI [a1] sl29 q q q q q q zt3 q q) q q q q .none<|Dv 3 (O.ap (en:=eI) (r:=x14) (.brw q) q (.imm q) .i ap29 q hx14)<|Dv 4 (O.mv (.imm q))<|Dv 5 (O.mv (.lit q))<|Dv 6 (O.slI1 (.imm q) (.lit q) sl29 hx15)<|Dv 7 (O.ap2 (en:=eI) (r:=x16) (.pend q) q q (.imm q) .i ap29 q hx16)<|DL.bv 8 (G2:=[]) (EO.aP2 q q (.pend q) q q q q q q .nil q q) q q q q (by kernel_rfl) (by kernel_rfl)<|DL.fin q q q (.n q .nil)) ?_
  refine Px.sq<|W.fz (G1:=[(4,iR eI ((([]:List Int)++x12)++[a1]++x15))]) [4] (.z q q .zz .nil) ?_
  refine W.rt ?_
  obtain rfl:=sm h
  exact Px.fin (Fin.ro (.f q q .nil) q (ode (by kernel_rfl)) (.no (.no .nil)) q (.inr q))
theorem con70 (a0:(List Int)) (a1:Int) (r:Bool) (h:pf70 a0 a1=some r):Con Try.prog 70 [iR eI a0,I64 a1] [none,none] (BB r):=by
 unfold pf70 at h
 refine Con.go (N:=⟨18,[]⟩) Try.func70 q q q q (W.fin ?_)
 refine W.st [(0,iR eI a0),(1,I64 a1)] ?_
 refine W.sq'<|W.rx [(0,_),(1,_)] (Vk q<|Fi (tn2 q q)) ?_
 refine Px.sq<|W.sq' ?_
 refine W.sq'<|W.rx [(0,_),(1,_),(5,_)] (Vk q<|Fi (tn3 q q q)) ?_
 refine Px.sq<|W.bk ?_
 obtain ⟨x2,hl,h⟩:=bnd h
 refine W.tr (G1:=[(0,_),(1,_),(5,_)]) (tn3 q q q) ?_
 refine W.lp2 (s:=0) (fun (s1:Int)=>[(0,iR eI a0),(1,I64 a1),(5,I64 s1)]) 0 (fun (x3:Unit)=>[]) (fun (x4:Bool)=>[(4,BB x4)]) hl (fun s1 o h=>?_) (fun x3 hx=>?_) (fun x4 hx=>?_)
 ·clear hl
  refine W.sq'<|W.sq' ?_
  refine W.rx [(0,_),(1,_),(5,_),(9,_)] (Vm q<|Rv (O.mv (.imm q))<|Rv (O.lenI (.imm q) sl29)<|Rv (O.lss (.lit q) (.lit q))<|Fi (tn4 q q q q)) ?_
  refine Px.sq<|W.cnd q (fun hb5=>?_) (fun hb5=>?_)
  ·replace h:=cndT hb5 h
   refine W.sk<|Px.sq ?_
   refine W.sq'<|W.bk ?_
   refine W.sq' ?_
   obtain ⟨x6,hx6,h⟩:=bnd h
   refine W.rx [(0,_),(1,_),(5,_),(17,_)] (Rv (O.mv (.imm q))<|Vm q<|Rv (O.ixI (.imm q) (.lit q) sl29 hx6)<|Rv (O.ldI (x:=I64 x6) (.iptr q) ct3 q)<|Vm q<|Rv (O.eql (.lit q) (.lit q))<|Fi (tn4 q q q q)) ?_
   refine Px.sq<|W.cnd q (fun hb7=>?_) (fun hb7=>?_)
   ·replace h:=cndT hb7 h
    refine W.sq'<|W.rx [(4,_)] (Vk q<|Fi (.n q .nil)) ?_
    refine Px.sq<|W.rt ?_
    refine Px.bkR ?_
    refine Px.sqR ?_
    obtain rfl:=sm h
    exact Px.r2 (.n q .nil)
   ·replace h:=cndF hb7 h
    refine W.sk<|Px.bk ?_
    refine Px.sq<|W.rx [(0,_),(1,_),(5,_)] (Vm q<|Rv (O.add (.lit q) (.k q))<|RunL.re (G1:=[(0,_),(1,_),(11,_)]) (tn3 q q q)<|Va q<|Fi (tn3 q q q)) ?_
    obtain rfl:=sm h
    exact Px.go (tn3 q q q)
  ·replace h:=cndF hb5 h
   refine W.xi ?_
   refine Px.sqE ?_
   obtain rfl:=sm h
   exact Px.x2 .nil
 ·subst hx
  refine Px.bkH ?_
  refine Px.sq<|W.sq' ?_
  refine W.rx [(4,_)] (Vk q<|Fi (.n q .nil)) ?_
  refine Px.sq<|W.rt ?_
  obtain rfl:=sm h
  exact Px.fin (Fin.ro (.f q q .nil) q (ode (by kernel_rfl)) (.no (.no .nil)) q (.inr q))
 ·subst hx
  refine Px.bkR ?_
  refine Px.sqR ?_
  obtain rfl:=sm h
  exact Px.fin (Fin.ro (.f q q .nil) q (ode (by kernel_rfl)) (.no (.no .nil)) q (.inr q))
theorem con79 (a0:Grammar) (r:(List Int)) (h:pf79 a0=some r):Con Try.prog 79 [.agg (eGrammar_0.cells a0)] [none] (iR eI r):=by
 unfold pf79 at h
 refine Con.go (N:=⟨30,[]⟩) Try.func79 q q q q (W.fin ?_)
 refine W.st [(0,.agg (eGrammar_0.cells a0))] ?_
 refine W.sq'<|W.rx [(1,_)] (Rv (O.box (.aggF q q) q)<|Rv (O.az .knil)<|Fi (.n q .nil)) ?_
 refine Px.sq<|W.sq' ?_
 refine W.rx [(1,_),(3,_)] (Rv (O.az .knil)<|Fi (tn2 q q)) ?_
 refine Px.sq<|W.sq' ?_
 refine W.sq'<|W.rx [(1,_),(3,_),(4,_)] (Vk q<|Fi (tn3 q q q)) ?_
 refine Px.sq<|W.bk ?_
 obtain ⟨x2,hl,h⟩:=bnd h
 refine W.tr (G1:=[(1,_),(3,oR eI ([]:List Int)),(4,_)]) (.n q (.w q q .nilOwn (.n q .nil))) ?_
 refine W.lp1 (s:=(([]:List Int),0)) (fun (s1:List Int × Int)=>[(1,.obj (eGrammar_0.cells a0)),(3,oR eI s1.1),(4,I64 s1.2)]) 0 (fun (x2:List Int)=>[(1,.obj (eGrammar_0.cells a0)),(3,oR eI x2)]) hl (fun s1 o h=>?_) ?_
 ·clear hl
  refine W.sq'<|W.sq' ?_
  refine W.rx [(1,_),(3,_),(4,_),(10,_)] (Vm q<|Rv (O.fO q (.obj q) fd44_0 q)<|Rv (O.ldO (y:=iR eTok a0.Toks) q (.ptr q) ct40 q q)<|Rv (O.lenI (.imm q) sl40)<|Rv (O.lss (.lit q) (.lit q))<|Fi (tn4 q q q q)) ?_
  refine Px.sq<|W.cnd q (fun hb4=>?_) (fun hb4=>?_)
  ·replace h:=cndT hb4 h
   refine W.sk<|Px.sq ?_
   refine W.sq'<|W.bk ?_
   obtain ⟨x5,hx5,h⟩:=bnd h
   refine W.rx [(1,_),(3,_),(4,_)] (Rv (O.mv (.own q))<|Vm q<|RunL.vi (x:=iR eI [s1.2]) (O.bs (ys:=[I64 s1.2]) eI [s1.2] sl29 q q q q q q zt3 q q) q q .none<|Rv (O.ap (en:=eI) (r:=x5) (.brw q) q (.imm q) .i ap29 q hx5)<|RunL.ea (G2:=[(1,.obj (eGrammar_0.cells a0)),(4,I64 s1.2)]) q (EO.aP q q (.pend q) q q q (.n q q (.n q q .nil)) q q)<|Fi (tn3 q q q)) ?_
   refine Px.bk ?_
   refine Px.sq<|W.rx [(1,_),(3,_),(4,_)] (Vm q<|Rv (O.add (.lit q) (.k q))<|RunL.re (G1:=[(1,_),(3,_),(12,_)]) (tn3 q q q)<|Va q<|Fi (tn3 q q q)) ?_
   obtain rfl:=sm h
   exact Px.go (tn3 q q q)
  ·replace h:=cndF hb4 h
   refine W.xi ?_
   refine Px.sqE ?_
   obtain rfl:=sm h
   exact Px.x1 (tn2 q q)
 refine Px.bkH ?_
 refine Px.sq<|W.sq' ?_
 refine W.sq'<|W.rx [(1,_),(3,_),(5,_)] (Vk q<|Fi (tn3 q q q)) ?_
 refine Px.sq<|W.bk ?_
 obtain ⟨x7,hl,h⟩:=bnd h
 refine W.tr (G1:=[(1,_),(3,_),(5,_)]) (tn3 q q q) ?_
 refine W.lp1 (s:=(x2,0)) (fun (s6:List Int × Int)=>[(1,.obj (eGrammar_0.cells a0)),(3,oR eI s6.1),(5,I64 s6.2)]) 2 (fun (x7:List Int)=>[(3,oR eI x7)]) hl (fun s6 o h=>?_) ?_
 ·clear hl
  refine W.sq'<|W.sq' ?_
  refine W.rx [(1,_),(3,_),(5,_),(21,_)] (Vm q<|Rv (O.fO q (.obj q) fd44_1 q)<|Rv (O.ldO (y:=iR eNon a0.Nons) q (.ptr q) ct41 q q)<|Rv (O.lenI (.imm q) sl41)<|Rv (O.lss (.lit q) (.lit q))<|Fi (tn4 q q q q)) ?_
  refine Px.sq<|W.cnd q (fun hb9=>?_) (fun hb9=>?_)
  ·replace h:=cndT hb9 h
   refine W.sk<|Px.sq ?_
   refine W.sq'<|W.bk ?_
   obtain ⟨x10,hx10,h⟩:=bnd h
   refine W.rx [(1,_),(3,_),(5,_)] (Rv (O.mv (.own q))<|Vm q<|Rv (O.add (.k q) (.lit q))<|RunL.vi (x:=iR eI [w64 (1000+s6.2)]) (O.bs (ys:=[I64 (w64 (1000+s6.2))]) eI [w64 (1000+s6.2)] sl29 q q q q q q zt3 q q) q q .none<|Rv (O.ap (en:=eI) (r:=x10) (.brw q) q (.imm q) .i ap29 q hx10)<|RunL.ea (G2:=[(1,.obj (eGrammar_0.cells a0)),(5,I64 s6.2)]) q (EO.aP q q (.pend q) q q q (.n q q (.n q q .nil)) q q)<|Fi (tn3 q q q)) ?_
   refine Px.bk ?_
   refine Px.sq<|W.rx [(1,_),(3,_),(5,_)] (Vm q<|Rv (O.add (.lit q) (.k q))<|RunL.re (G1:=[(1,_),(3,_),(23,_)]) (tn3 q q q)<|Va q<|Fi (tn3 q q q)) ?_
   obtain rfl:=sm h
   exact Px.go (tn3 q q q)
  ·replace h:=cndF hb9 h
   refine W.xi ?_
   refine Px.sqE ?_
   obtain rfl:=sm h
   exact Px.x1 (.n q .nil)
 refine Px.bkH ?_
 refine Px.sq<|W.sq' ?_
 refine W.rx [(2,_)] (Rv (O.mv (.own q))<|RunL.ea (G2:=[]) q (EO.aR q q (.brw q) q .nil q q)<|Fi (.n q .nil)) ?_
 refine Px.sq<|W.fz (G1:=[(2,iR eI x7)]) [2] (.z q q .zz .nil) ?_
 refine W.rt ?_
 obtain rfl:=sm h
 exact Px.fin (Fin.ro (.f q q .nil) q (ode (by kernel_rfl)) (.no .nil) q (.inr q))
theorem con102 (a0:Grammar) (a1:Item) (r:Bool) (h:pf102 a0 a1=some r):Con Try.prog 102 [.agg (eGrammar_0.cells a0),.agg [I64 a1.Prod,I64 a1.Dot]] [none,none] (BB r):=by
 unfold pf102 at h
 refine Con.go (N:=⟨34,[]⟩) Try.func102 q q q q (W.fin ?_)
 refine W.st [(0,.agg (eGrammar_0.cells a0)),(1,.agg [I64 a1.Prod,I64 a1.Dot])] ?_
 refine W.sq'<|W.rx [(2,_),(3,_)] (Rv (O.box (.aggF q q) q)<|Rv (O.box (.aggF q q) q)<|Vk q<|Fi (tn2 q q)) ?_
 refine Px.sq<|W.sq' ?_
 obtain ⟨c5,hj,h⟩:=bnd h
 refine W.rd [[],[0],[0,1],[0,1,2],[0,1,2,3],rn 0 5 [],[0,1,2,3],[0,1,2,3,6],[0,1,2,3,6,7],rn 0 9 [],rn 0 10 [],rn 0 11 [],rn 0 12 [],rn 0 13 [],rn 0 14 [],rn 0 15 [],rn 0 16 [],rn 0 17 [],rn 0 18 [],rn 0 17 [],rn 0 17 [19],rn 0 17 [],rn 0 17 [21],rn 0 17 [19,20,21,22],rn 0 17 (rn 19 5 []),rn 0 17 (rn 19 6 []),rn 0 17 (rn 19 7 []),rn 0 27 [],rn 0 28 [],rn 0 29 []] [(4,BB c5)] mixo (by kernel_rfl) ?_ ?_
 ·refine Dv 0 (O.fO q (.obj q) fd137_0 q)<|Dv 1 (O.ldO (y:=I64 a1.Prod) q (.ptr q) ct3 q q)<|Dv 2 (O.geq (.lit q) (.k q))<|Dv 3 (O.mv (.lit q)) ?_
  rcases cnd hj with ⟨hb1,hj⟩ | ⟨hb1,hj⟩
  ·refine DL.v 4 (O.fO q (.obj q) fd137_0 q) q q q q (.yb q q hb1)<|DL.v 5 (O.ldO (y:=I64 a1.Prod) q (.ptr q) ct3 q q) q q q q (.yb q q hb1)<|DL.v 6 (O.fO q (.obj q) fd44_2 q) q q q q (.yb q q hb1)<|DL.v 7 (O.ldO (y:=iR eProd_0 a0.Prods) q (.ptr q) ct42 q q) q q q q (.yb q q hb1)<|DL.v 8 (O.lenI (.imm q) sl42) q q q q (.yb q q hb1)<|DL.v 9 (O.lss (.lit q) (.lit q)) q q q q (.yb q q hb1)<|Dv 10 (O.pkT (.lit q) hb1 (.lit q))<|Dv 11 (O.mv (.lit q)) ?_
   rcases cnd hj with ⟨hb2,hj⟩ | ⟨hb2,hj⟩
   ·refine DL.v 12 (O.fO q (.obj q) fd137_1 q) q q q q (.yb q q hb2)<|DL.v 13 (O.ldO (y:=I64 a1.Dot) q (.ptr q) ct3 q q) q q q q (.yb q q hb2)<|DL.v 14 (O.geq (.lit q) (.k q)) q q q q (.yb q q hb2)<|Dv 15 (O.pkT (.lit q) hb2 (.lit q))<|Dv 16 (O.mv (.lit q)) ?_
    rcases cnd hj with ⟨hb3,hj⟩ | ⟨hb3,hj⟩
    ·refine DL.v 17 (O.fO q (.obj q) fd137_1 q) q q q q (.yb q q hb3)<|DL.v 18 (O.ldO (y:=I64 a1.Dot) q (.ptr q) ct3 q q) q q q q (.yb q q hb3)<|DL.v 19 (O.fO q (.obj q) fd44_2 q) q q q q (.yb q q hb3)<|DL.v 20 (O.ldO (y:=iR eProd_0 a0.Prods) q (.ptr q) ct42 q q) q q q q (.yb q q hb3)<|DL.v 21 (O.fO q (.obj q) fd137_0 q) q q q q (.yb q q hb3)<|DL.v 22 (O.ldO (y:=I64 a1.Prod) q (.ptr q) ct3 q q) q q q q (.yb q q hb3) ?_
     obtain ⟨x4,hx4,hj⟩:=bnd hj
     obtain rfl:=sm hj
     exact DL.v 23 (O.ixI (.imm q) (.lit q) sl42 hx4) q q q q (.yb q q hb3)<|DL.v 24 (O.fI (.iptr q) fd148_1) q q q q (.yb q q hb3)<|DL.v 25 (O.ldI (x:=iR eI x4.Right) (.iptr q) ct29 q) q q q q (.yb q q hb3)<|DL.v 26 (O.lenI (.imm q) sl29) q q q q (.yb q q hb3)<|DL.v 27 (O.leq (.lit q) (.lit q)) q q q q (.yb q q hb3)<|Dv 28 (O.pkT (.lit q) hb3 (.lit q))<|Dv 29 (O.az (.lit q))<|DL.fin q q q (.n q .nil)
    ·obtain rfl:=sm hj
     exact DL.ps 17 q q hb3 q q q q<|DL.ps 18 q q hb3 q q q q<|DL.ps 19 q q hb3 q q q q<|DL.ps 20 q q hb3 q q q q<|DL.ps 21 q q hb3 q q q q<|DL.ps 22 q q hb3 q q q q<|DL.ps 23 q q hb3 q q q q<|DL.ps 24 q q hb3 q q q q<|DL.ps 25 q q hb3 q q q q<|DL.ps 26 q q hb3 q q q q<|DL.ps 27 q q hb3 q q q q<|Dv 28 (O.pkF (.lit q) hb3 (.k q))<|Dv 29 (O.az (.lit q))<|DL.fin q q q (.n q .nil)
   ·obtain rfl:=sm hj
    exact DL.ps 12 q q hb2 q q q q<|DL.ps 13 q q hb2 q q q q<|DL.ps 14 q q hb2 q q q q<|Dv 15 (O.pkF (.lit q) hb2 (.k q))<|Dv 16 (O.mv (.lit q))<|DL.ps 17 q q q q q q q<|DL.ps 18 q q q q q q q<|DL.ps 19 q q q q q q q<|DL.ps 20 q q q q q q q<|DL.ps 21 q q q q q q q<|DL.ps 22 q q q q q q q<|DL.ps 23 q q q q q q q<|DL.ps 24 q q q q q q q<|DL.ps 25 q q q q q q q<|DL.ps 26 q q q q q q q<|DL.ps 27 q q q q q q q<|Dv 28 (O.pkF (.lit q) q (.k q))<|Dv 29 (O.az (.lit q))<|DL.fin q q q (.n q .nil)
  ·obtain rfl:=sm hj
   exact DL.ps 4 q q hb1 q q q q<|DL.ps 5 q q hb1 q q q q<|DL.ps 6 q q hb1 q q q q<|DL.ps 7 q q hb1 q q q q<|DL.ps 8 q q hb1 q q q q<|DL.ps 9 q q hb1 q q q q<|Dv 10 (O.pkF (.lit q) hb1 (.k q))<|Dv 11 (O.mv (.lit q))<|DL.ps 12 q q q q q q q<|DL.ps 13 q q q q q q q<|DL.ps 14 q q q q q q q<|Dv 15 (O.pkF (.lit q) q (.k q))<|Dv 16 (O.mv (.lit q))<|DL.ps 17 q q q q q q q<|DL.ps 18 q q q q q q q<|DL.ps 19 q q q q q q q<|DL.ps 20 q q q q q q q<|DL.ps 21 q q q q q q q<|DL.ps 22 q q q q q q q<|DL.ps 23 q q q q q q q<|DL.ps 24 q q q q q q q<|DL.ps 25 q q q q q q q<|DL.ps 26 q q q q q q q<|DL.ps 27 q q q q q q q<|Dv 28 (O.pkF (.lit q) q (.k q))<|Dv 29 (O.az (.lit q))<|DL.fin q q q (.n q .nil)
 refine Px.sq<|W.rt ?_
 obtain rfl:=sm h
 exact Px.fin (Fin.ro (.f q q .nil) q (ode (by kernel_rfl)) (.no (.no .nil)) q (.inr q))
theorem con81 (a0:Grammar) (a1:Item) (r:Int) (h:pf81 a0 a1=some r):Con Try.prog 81 [.agg (eGrammar_0.cells a0),.agg [I64 a1.Prod,I64 a1.Dot]] [none,none] (I64 r):=by
 unfold pf81 at h
 refine Con.go (N:=⟨33,[]⟩) Try.func81 q q q q (W.fin ?_)
 refine W.st [(0,.agg (eGrammar_0.cells a0)),(1,.agg [I64 a1.Prod,I64 a1.Dot])] ?_
 refine W.sq'<|W.rx [(2,_),(3,_)] (Rv (O.box (.aggF q q) q)<|Rv (O.box (.aggF q q) q)<|Vk q<|Fi (tn2 q q)) ?_
 refine Px.sq<|W.sq' ?_
 refine W.sq' ?_
 obtain ⟨c4,hj,h⟩:=bnd h
 refine W.rd [[],[],[0,1],[0,1,2],[0,1,2,3],rn 0 5 [],rn 0 6 [],rn 0 5 [],rn 0 5 [7],rn 0 5 [],rn 0 5 [9],rn 0 5 [7,8,9,10],rn 0 5 (rn 7 5 []),rn 0 5 (rn 7 6 []),rn 0 5 (rn 7 7 []),rn 0 15 [],rn 0 16 []] [(2,.obj (eGrammar_0.cells a0)),(3,.obj [I64 a1.Prod,I64 a1.Dot]),(21,BB c4)] mixo (by kernel_rfl) ?_ ?_
 ·refine Dv 0 (O.ldON (cs':=[iR eTok a0.Toks,iR eNon a0.Nons,iR eProd_0 a0.Prods,SS a0.Pro,SS a0.Tail]) q (.obj q) at44 q q)<|Dv 1 (O.ldON (cs':=[I64 a1.Prod,I64 a1.Dot]) q (.obj q) at137 q q) ?_
  obtain ⟨x1,hx1,hj⟩:=bnd hj
  refine Dc 2 (PC.go (.cc (.aggF q q) (.cc (.aggF q q) .nil)) (con102 a0 a1 _ hx1) call102 q)<|Dv 3 (O.not (.lit q))<|Dv 4 (O.mv (.lit q)) ?_
  rcases cnd hj with ⟨hb2,hj⟩ | ⟨hb2,hj⟩
  ·obtain rfl:=sm hj
   exact DL.ps 5 q q hb2 q q q q<|DL.ps 6 q q hb2 q q q q<|DL.ps 7 q q hb2 q q q q<|DL.ps 8 q q hb2 q q q q<|DL.ps 9 q q hb2 q q q q<|DL.ps 10 q q hb2 q q q q<|DL.ps 11 q q hb2 q q q q<|DL.ps 12 q q hb2 q q q q<|DL.ps 13 q q hb2 q q q q<|DL.ps 14 q q hb2 q q q q<|DL.ps 15 q q hb2 q q q q<|Dv 16 (O.pkT (.lit q) hb2 (.k q))<|DL.fin q q q (tn3 q q q)
  ·refine DL.v 5 (O.fO q (.obj q) fd137_1 q) q q q q (.yb q q hb2)<|DL.v 6 (O.ldO (y:=I64 a1.Dot) q (.ptr q) ct3 q q) q q q q (.yb q q hb2)<|DL.v 7 (O.fO q (.obj q) fd44_2 q) q q q q (.yb q q hb2)<|DL.v 8 (O.ldO (y:=iR eProd_0 a0.Prods) q (.ptr q) ct42 q q) q q q q (.yb q q hb2)<|DL.v 9 (O.fO q (.obj q) fd137_0 q) q q q q (.yb q q hb2)<|DL.v 10 (O.ldO (y:=I64 a1.Prod) q (.ptr q) ct3 q q) q q q q (.yb q q hb2) ?_
   obtain ⟨x3,hx3,hj⟩:=bnd hj
   obtain rfl:=sm hj
   exact DL.v 11 (O.ixI (.imm q) (.lit q) sl42 hx3) q q q q (.yb q q hb2)<|DL.v 12 (O.fI (.iptr q) fd148_1) q q q q (.yb q q hb2)<|DL.v 13 (O.ldI (x:=iR eI x3.Right) (.iptr q) ct29 q) q q q q (.yb q q hb2)<|DL.v 14 (O.lenI (.imm q) sl29) q q q q (.yb q q hb2)<|DL.v 15 (O.eql (.lit q) (.lit q)) q q q q (.yb q q hb2)<|Dv 16 (O.pkF (.lit q) hb2 (.lit q))<|DL.fin q q q (tn3 q q q)
 refine Px.sq<|W.cnd q (fun hb5=>?_) (fun hb5=>?_)
 ·replace h:=cndT hb5 h
  refine W.sq'<|W.rx [(4,_)] (Vk q<|Fi (.n q .nil)) ?_
  refine Px.sq<|W.rt ?_
  refine Px.sqR ?_
  obtain rfl:=sm h
  exact Px.fin (Fin.ro (.f q q .nil) q (ode (by kernel_rfl)) (.no (.no .nil)) q (.inr q))
 ·replace h:=cndF hb5 h
  refine W.sk<|Px.sq ?_
  refine W.sq' ?_
  obtain ⟨x6,hx6,h⟩:=bnd h
  obtain ⟨x7,hx7,h⟩:=bnd h
  refine W.rd [[],[0],[],[2],[0,1,2,3],rn 0 5 [],rn 0 6 [],[],[7],rn 0 9 [],rn 0 10 [],rn 0 11 []] [(4,_)] mixo (by kernel_rfl) (Dv 0 (O.fO q (.obj q) fd44_2 q)<|Dv 1 (O.ldO (y:=iR eProd_0 a0.Prods) q (.ptr q) ct42 q q)<|Dv 2 (O.fO q (.obj q) fd137_0 q)<|Dv 3 (O.ldO (y:=I64 a1.Prod) q (.ptr q) ct3 q q)<|Dv 4 (O.ixI (.imm q) (.lit q) sl42 hx6)<|Dv 5 (O.fI (.iptr q) fd148_1)<|Dv 6 (O.ldI (x:=iR eI x6.Right) (.iptr q) ct29 q)<|Dv 7 (O.fO q (.obj q) fd137_1 q)<|Dv 8 (O.ldO (y:=I64 a1.Dot) q (.ptr q) ct3 q q)<|Dv 9 (O.ixI (.imm q) (.lit q) sl29 hx7)<|Dv 10 (O.ldI (x:=I64 x7) (.iptr q) ct3 q)<|Dv 11 (O.az (.lit q))<|DL.fin q q q (.n q .nil)) ?_
  refine Px.sq<|W.rt ?_
  obtain rfl:=sm h
  exact Px.fin (Fin.ro (.f q q .nil) q (ode (by kernel_rfl)) (.no (.no .nil)) q (.inr q))
theorem con101 (a0:(List Item)) (a1:Item) (r:(List Item)) (h:pf101 a0 a1=some r):Con Try.prog 101 [iR eItem a0,.agg [I64 a1.Prod,I64 a1.Dot]] [none,none] (iR eItem r):=by
 unfold pf101 at h
 refine Con.go (N:=⟨71,[]⟩) Try.func101 q q q q (W.fin ?_)
 refine W.st [(0,iR eItem a0),(1,.agg [I64 a1.Prod,I64 a1.Dot])] ?_
 refine W.sq'<|W.rx [(0,_),(3,_)] (Rv (O.box (.aggF q q) q)<|Rv (O.az .knil)<|Fi (tn2 q q)) ?_
 refine Px.sq<|W.sq' ?_
 refine W.rx [(0,_),(3,_),(5,_)] (Rv (O.mv (.imm q))<|Rv (O.lenI (.imm q) sl132)<|Va q<|Fi (tn3 q q q)) ?_
 refine Px.sq<|W.sq' ?_
 refine W.bk ?_
 obtain ⟨x2,hl,h⟩:=bnd h
 refine W.tr (G1:=[(0,_),(3,_),(5,_)]) (tn3 q q q) ?_
 refine W.lp1 (s:=(a0.length:Int)) (fun (s1:Int)=>[(0,iR eItem a0),(3,.obj [I64 a1.Prod,I64 a1.Dot]),(5,I64 s1)]) 0 (fun (x2:Int)=>[(0,iR eItem a0),(3,.obj [I64 a1.Prod,I64 a1.Dot]),(5,I64 x2)]) hl (fun s1 o h=>?_) ?_
 ·clear hl
  refine W.sq'<|W.sq' ?_
  obtain ⟨c10,hj,h⟩:=bnd h
  refine W.rd [[],[0],[0,1],[0,1,2],[0,1,2],[0,1,2,4],rn 0 6 [],rn 0 7 [],rn 0 8 [],[0,1,2],[0,1,2,9],rn 0 11 [],rn 0 12 [],rn 0 13 [],rn 0 13 [],rn 0 13 [14],rn 0 16 [],rn 0 17 [],rn 0 18 [],rn 0 13 [],rn 0 13 [19],rn 0 21 [],rn 0 22 [],rn 0 23 [],rn 0 23 [],rn 0 23 [24],rn 0 26 [],rn 0 27 [],rn 0 28 [],rn 0 23 [],rn 0 23 [29],rn 0 31 [],rn 0 32 [],rn 0 33 [],rn 0 34 []] [(0,iR eItem a0),(3,.obj [I64 a1.Prod,I64 a1.Dot]),(5,I64 s1),(43,BB c10)] mixo (by kernel_rfl) ?_ ?_
  ·refine Dv 0 (O.mv (.lit q))<|Dv 1 (O.gtr (.lit q) (.k q))<|Dv 2 (O.mv (.lit q)) ?_
   rcases cnd hj with ⟨hb4,hj⟩ | ⟨hb4,hj⟩
   ·refine DL.v 3 (O.mv (.imm q)) q q q q (.yb q q hb4)<|DL.v 4 (O.mv (.lit q)) q q q q (.yb q q hb4)<|DL.v 5 (O.sub (.lit q) (.k q)) q q q q (.yb q q hb4) ?_
    obtain ⟨x5,hx5,hj⟩:=bnd hj
    refine DL.v 6 (O.ixI (.imm q) (.lit q) sl132 hx5) q q q q (.yb q q hb4)<|DL.v 7 (O.fI (.iptr q) fd137_0) q q q q (.yb q q hb4)<|DL.v 8 (O.ldI (x:=I64 x5.Prod) (.iptr q) ct3 q) q q q q (.yb q q hb4)<|DL.v 9 (O.fO q (.obj q) fd137_0 q) q q q q (.yb q q hb4)<|DL.v 10 (O.ldO (y:=I64 a1.Prod) q (.ptr q) ct3 q q) q q q q (.yb q q hb4)<|DL.v 11 (O.gtr (.lit q) (.lit q)) q q q q (.yb q q hb4)<|DL.v 12 (O.mv (.lit q)) q q q q (.yb q q hb4) ?_
    rcases cnd hj with ⟨hb6,hj⟩ | ⟨hb6,hj⟩
    ·obtain rfl:=sm hj
     exact DL.ps 13 q q hb6 q q q q<|DL.ps 14 q q hb6 q q q q<|DL.ps 15 q q hb6 q q q q<|DL.ps 16 q q hb6 q q q q<|DL.ps 17 q q hb6 q q q q<|DL.ps 18 q q hb6 q q q q<|DL.ps 19 q q hb6 q q q q<|DL.ps 20 q q hb6 q q q q<|DL.ps 21 q q hb6 q q q q<|DL.ps 22 q q hb6 q q q q<|DL.pu 23 q q q q q q<|DL.pu 24 q q q q q q<|DL.pu 25 q q q q q q<|DL.pu 26 q q q q q q<|DL.pu 27 q q q q q q<|DL.pu 28 q q q q q q<|DL.pu 29 q q q q q q<|DL.pu 30 q q q q q q<|DL.pu 31 q q q q q q<|DL.ps 32 q q hb6 q q q q<|DL.v 33 (O.pkT (.lit q) hb6 (.k q)) q q q q (.yb q q hb4)<|Dv 34 (O.pkT (.lit q) hb4 (.lit q))<|DL.fin q q q (tn4 q q q q)
    ·refine DL.v 13 (O.mv (.imm q)) q q q q (.yb q q hb6)<|DL.v 14 (O.mv (.lit q)) q q q q (.yb q q hb6)<|DL.v 15 (O.sub (.lit q) (.k q)) q q q q (.yb q q hb6) ?_
     obtain ⟨x7,hx7,hj⟩:=bnd hj
     refine DL.v 16 (O.ixI (.imm q) (.lit q) sl132 hx7) q q q q (.yb q q hb6)<|DL.v 17 (O.fI (.iptr q) fd137_0) q q q q (.yb q q hb6)<|DL.v 18 (O.ldI (x:=I64 x7.Prod) (.iptr q) ct3 q) q q q q (.yb q q hb6)<|DL.v 19 (O.fO q (.obj q) fd137_0 q) q q q q (.yb q q hb6)<|DL.v 20 (O.ldO (y:=I64 a1.Prod) q (.ptr q) ct3 q q) q q q q (.yb q q hb6)<|DL.v 21 (O.eql (.lit q) (.lit q)) q q q q (.yb q q hb6)<|DL.v 22 (O.mv (.lit q)) q q q q (.yb q q hb6) ?_
     rcases cnd hj with ⟨hb8,hj⟩ | ⟨hb8,hj⟩
     ·refine DL.v 23 (O.mv (.imm q)) q q q q (.yb q q hb8)<|DL.v 24 (O.mv (.lit q)) q q q q (.yb q q hb8)<|DL.v 25 (O.sub (.lit q) (.k q)) q q q q (.yb q q hb8) ?_
      obtain ⟨x9,hx9,hj⟩:=bnd hj
      obtain rfl:=sm hj
      exact DL.v 26 (O.ixI (.imm q) (.lit q) sl132 hx9) q q q q (.yb q q hb8)<|DL.v 27 (O.fI (.iptr q) fd137_1) q q q q (.yb q q hb8)<|DL.v 28 (O.ldI (x:=I64 x9.Dot) (.iptr q) ct3 q) q q q q (.yb q q hb8)<|DL.v 29 (O.fO q (.obj q) fd137_1 q) q q q q (.yb q q hb8)<|DL.v 30 (O.ldO (y:=I64 a1.Dot) q (.ptr q) ct3 q q) q q q q (.yb q q hb8)<|DL.v 31 (O.gtr (.lit q) (.lit q)) q q q q (.yb q q hb8)<|DL.v 32 (O.pkT (.lit q) hb8 (.lit q)) q q q q (.yb q q hb6)<|DL.v 33 (O.pkF (.lit q) hb6 (.lit q)) q q q q (.yb q q hb4)<|Dv 34 (O.pkT (.lit q) hb4 (.lit q))<|DL.fin q q q (tn4 q q q q)
     ·obtain rfl:=sm hj
      exact DL.ps 23 q q hb8 q q q q<|DL.ps 24 q q hb8 q q q q<|DL.ps 25 q q hb8 q q q q<|DL.ps 26 q q hb8 q q q q<|DL.ps 27 q q hb8 q q q q<|DL.ps 28 q q hb8 q q q q<|DL.ps 29 q q hb8 q q q q<|DL.ps 30 q q hb8 q q q q<|DL.ps 31 q q hb8 q q q q<|DL.v 32 (O.pkF (.lit q) hb8 (.k q)) q q q q (.yb q q hb6)<|DL.v 33 (O.pkF (.lit q) hb6 (.lit q)) q q q q (.yb q q hb4)<|Dv 34 (O.pkT (.lit q) hb4 (.lit q))<|DL.fin q q q (tn4 q q q q)
   ·obtain rfl:=sm hj
    exact DL.ps 3 q q hb4 q q q q<|DL.ps 4 q q hb4 q q q q<|DL.ps 5 q q hb4 q q q q<|DL.ps 6 q q hb4 q q q q<|DL.ps 7 q q hb4 q q q q<|DL.ps 8 q q hb4 q q q q<|DL.ps 9 q q hb4 q q q q<|DL.ps 10 q q hb4 q q q q<|DL.ps 11 q q hb4 q q q q<|DL.ps 12 q q hb4 q q q q<|DL.pu 13 q q q q q q<|DL.pu 14 q q q q q q<|DL.pu 15 q q q q q q<|DL.pu 16 q q q q q q<|DL.pu 17 q q q q q q<|DL.pu 18 q q q q q q<|DL.pu 19 q q q q q q<|DL.pu 20 q q q q q q<|DL.pu 21 q q q q q q<|DL.pu 22 q q q q q q<|DL.pu 23 q q q q q q<|DL.pu 24 q q q q q q<|DL.pu 25 q q q q q q<|DL.pu 26 q q q q q q<|DL.pu 27 q q q q q q<|DL.pu 28 q q q q q q<|DL.pu 29 q q q q q q<|DL.pu 30 q q q q q q<|DL.pu 31 q q q q q q<|DL.pu 32 q q q q q q<|DL.ps 33 q q hb4 q q q q<|Dv 34 (O.pkF (.lit q) hb4 (.k q))<|DL.fin q q q (tn4 q q q q)
  refine Px.sq<|W.cnd q (fun hb11=>?_) (fun hb11=>?_)
  ·replace h:=cndT hb11 h
   refine W.sk<|Px.sq ?_
   refine W.bk<|W.rx [(0,_),(3,_),(5,_)] (Vm q<|Rv (O.sub (.lit q) (.k q))<|RunL.re (G1:=[(0,_),(3,_),(45,_)]) (tn3 q q q)<|Va q<|Fi (tn3 q q q)) ?_
   refine Px.bk ?_
   obtain rfl:=sm h
   exact Px.go (tn3 q q q)
  ·replace h:=cndF hb11 h
   refine W.xi ?_
   refine Px.sqE ?_
   obtain rfl:=sm h
   exact Px.x1 (tn3 q q q)
 refine Px.bkH ?_
 refine Px.sq<|W.sq' ?_
 refine W.sq' ?_
 obtain ⟨c14,hj,h⟩:=bnd h
 refine W.rd [[],[0],[0,1],[0,1,2],[0,1,2],[0,1,2,4],rn 0 6 [],rn 0 7 [],[0,1,2],rn 0 9 [],rn 0 10 []] [(0,iR eItem a0),(3,.obj [I64 a1.Prod,I64 a1.Dot]),(5,I64 x2),(56,BB c14)] mixo (by kernel_rfl) ?_ ?_
 ·refine Dv 0 (O.mv (.lit q))<|Dv 1 (O.gtr (.lit q) (.k q))<|Dv 2 (O.mv (.lit q)) ?_
  rcases cnd hj with ⟨hb12,hj⟩ | ⟨hb12,hj⟩
  ·refine DL.v 3 (O.mv (.imm q)) q q q q (.yb q q hb12)<|DL.v 4 (O.mv (.lit q)) q q q q (.yb q q hb12)<|DL.v 5 (O.sub (.lit q) (.k q)) q q q q (.yb q q hb12) ?_
   obtain ⟨x13,hx13,hj⟩:=bnd hj
   obtain rfl:=sm hj
   exact DL.v 6 (O.ixI (.imm q) (.lit q) sl132 hx13) q q q q (.yb q q hb12)<|DL.v 7 (O.ldIN (cs':=[I64 x13.Prod,I64 x13.Dot]) (.iptr q) at137 q q) q q q q (.yb q q hb12)<|DL.v 8 (O.ldON (cs':=[I64 a1.Prod,I64 a1.Dot]) q (.obj q) at137 q q) q q q q (.yb q q hb12)<|DL.v 9 (O.eqlA (va:=[.int .i64 x13.Prod,.int .i64 x13.Dot]) (vb:=[.int .i64 a1.Prod,.int .i64 a1.Dot]) (.aggF q q) (.aggF q q) q q eq137) q q q q (.yb q q hb12)<|Dv 10 (O.pkT (.lit q) hb12 (.lit q))<|DL.fin q q q (tn4 q q q q)
  ·obtain rfl:=sm hj
   exact DL.ps 3 q q hb12 q q q q<|DL.ps 4 q q hb12 q q q q<|DL.ps 5 q q hb12 q q q q<|DL.ps 6 q q hb12 q q q q<|DL.ps 7 q q hb12 q q q q<|DL.ps 8 q q hb12 q q q q<|DL.ps 9 q q hb12 q q q q<|Dv 10 (O.pkF (.lit q) hb12 (.k q))<|DL.fin q q q (tn4 q q q q)
 refine Px.sq<|W.cnd q (fun hb15=>?_) (fun hb15=>?_)
 ·replace h:=cndT hb15 h
  refine W.sq'<|W.rx [(4,_)] (Rv (O.mv (.imm q))<|Rv (O.az (.imm q))<|Fi (.n q .nil)) ?_
  refine Px.sq<|W.rt ?_
  refine Px.sqR ?_
  obtain rfl:=sm h
  exact Px.fin (Fin.ro (.f q q .nil) q (ode (by kernel_rfl)) (.no (.no .nil)) q (.inr q))
 ·replace h:=cndF hb15 h
  refine W.sk<|Px.sq ?_
  refine W.sq' ?_
  obtain ⟨x16,hx16,h⟩:=bnd h
  obtain ⟨x17,hx17,h⟩:=bnd h
  refine W.rx [(0,_),(3,_),(5,_),(6,_)] (Rv (O.bs (ys:=[]) eItem ([]:List Item) sl132 q q q q q q zt137 q q)<|Rv (O.mv (.imm q))<|Vm q<|Rv (O.slI0 (.imm q) (.lit q) sl132 hx16)<|Rv (O.ap (en:=eItem) (r:=x17) (.own q) q (.imm q) .i ap132 q hx17)<|RunL.ea (G2:=[(0,iR eItem a0),(3,.obj [I64 a1.Prod,I64 a1.Dot]),(5,I64 x2)]) q (EO.aP q q (.pend q) q q q (.n q q (.n q q (.n q q .nil))) q q)<|Fi (tn4 q q q q)) ?_
  refine Px.sq<|W.sq' ?_
  obtain ⟨x18,hx18,h⟩:=bnd h
  obtain ⟨x19,hx19,h⟩:=bnd h
  obtain ⟨x20,hx20,h⟩:=bnd h
  refine W.rd [[],[],[1],[0,1,2],[],[],[4,5],rn 0 7 [],rn 0 8 []] [(4,_)] mixo (by kernel_rfl) (Dv 0 (O.mv (.own q))<|Dv 1 (O.ldON (cs':=[I64 a1.Prod,I64 a1.Dot]) q (.obj q) at137 q q)<|DL.vi 2 (x:=iR eItem [a1]) (O.bs (ys:=[.agg [I64 a1.Prod,I64 a1.Dot]]) eItem [a1] sl132 q q q q q q zt137 q q) q q q q .none<|Dv 3 (O.ap (en:=eItem) (r:=x18) (.brw q) q (.imm q) .i ap132 q hx18)<|Dv 4 (O.mv (.imm q))<|Dv 5 (O.mv (.lit q))<|Dv 6 (O.slI1 (.imm q) (.lit q) sl132 hx19)<|Dv 7 (O.ap2 (en:=eItem) (r:=x20) (.pend q) q q (.imm q) .i ap132 q hx20)<|DL.bv 8 (G2:=[]) (EO.aP2 q q (.pend q) q q q q q q .nil q q) q q q q (by kernel_rfl) (by kernel_rfl)<|DL.fin q q q (.n q .nil)) ?_
  refine Px.sq<|W.fz (G1:=[(4,iR eItem ((([]:List Item)++x16)++[a1]++x19))]) [4] (.z q q .zz .nil) ?_
  refine W.rt ?_
  obtain rfl:=sm h
  exact Px.fin (Fin.ro (.f q q .nil) q (ode (by kernel_rfl)) (.no (.no .nil)) q (.inr q))
theorem con100 (a0:Grammar) (a1:(List Item)) (r:(List Item)) (h:pf100 a0 a1=some r):Con Try.prog 100 [.agg (eGrammar_0.cells a0),iR eItem a1] [none,none] (iR eItem r):=by
 unfold pf100 at h
 refine Con.go (N:=⟨26,[]⟩) Try.func100 q q q q (W.fin ?_)
 refine W.st [(0,.agg (eGrammar_0.cells a0)),(1,iR eItem a1)] ?_
 refine W.sq'<|W.rx [(1,_),(2,_)] (Rv (O.box (.aggF q q) q)<|Rv (O.az .knil)<|Fi (tn2 q q)) ?_
 refine Px.sq<|W.sq' ?_
 refine W.rx [(1,_),(2,_),(5,_)] (Rv (O.az .knil)<|Fi (tn3 q q q)) ?_
 refine Px.sq<|W.sq' ?_
 refine W.sq'<|W.rx [(1,_),(2,_),(5,_),(6,_)] (Vk q<|Fi (tn4 q q q q)) ?_
 refine Px.sq<|W.bk ?_
 obtain ⟨x2,hl,h⟩:=bnd h
 refine W.tr (G1:=[(1,_),(2,_),(5,iR eItem ([]:List Item)),(6,_)]) (.n q (.n q (.w q q .nilImm (.n q .nil)))) ?_
 refine W.lp1 (s:=(([]:List Item),0)) (fun (s1:List Item × Int)=>[(1,iR eItem a1),(2,.obj (eGrammar_0.cells a0)),(5,iR eItem s1.1),(6,I64 s1.2)]) 0 (fun (x2:List Item)=>[(5,iR eItem x2)]) hl (fun s1 o h=>?_) ?_
 ·clear hl
  refine W.sq'<|W.sq' ?_
  refine W.rx [(1,_),(2,_),(5,_),(6,_),(10,_)] (Vm q<|Rv (O.mv (.imm q))<|Rv (O.lenI (.imm q) sl132)<|Rv (O.lss (.lit q) (.lit q))<|Fi (tn5 q q q q q)) ?_
  refine Px.sq<|W.cnd q (fun hb4=>?_) (fun hb4=>?_)
  ·replace h:=cndT hb4 h
   refine W.sk<|Px.sq ?_
   refine W.sq' ?_
   obtain ⟨j5,hj,h⟩:=bnd h
   refine W.jn [(1,iR eItem a1),(2,.obj (eGrammar_0.cells a0)),(5,iR eItem j5),(6,I64 s1.2)] ?_ ?_
   ·clear h; have h:=hj; clear hj
    refine W.bk<|W.sq' ?_
    obtain ⟨x6,hx6,h⟩:=bnd h
    obtain ⟨x7,hx7,h⟩:=bnd h
    refine W.rd [[],[],[],[1,2],[1,2,3],rn 0 5 []] [(1,_),(2,_),(5,_),(6,_),(18,_)] mixo (by kernel_rfl) (Dv 0 (O.ldON (cs':=[iR eTok a0.Toks,iR eNon a0.Nons,iR eProd_0 a0.Prods,SS a0.Pro,SS a0.Tail]) q (.obj q) at44 q q)<|Dv 1 (O.mv (.imm q))<|Dv 2 (O.mv (.lit q))<|Dv 3 (O.ixI (.imm q) (.lit q) sl132 hx6)<|Dv 4 (O.ldIN (cs':=[I64 x6.Prod,I64 x6.Dot]) (.iptr q) at137 q q)<|Dc 5 (PC.go (.cc (.aggF q q) (.cc (.aggF q q) .nil)) (con102 a0 x6 _ hx7) call102 q)<|DL.fin q q q (tn5 q q q q q)) ?_
    refine Px.sq ?_
    obtain ⟨j8,hj,h⟩:=bnd h
    refine W.jn [(1,iR eItem a1),(2,.obj (eGrammar_0.cells a0)),(5,iR eItem j8),(6,I64 s1.2)] ?_ ?_
    ·clear h; have h:=hj; clear hj
     refine W.cnd q (fun hb9=>?_) (fun hb9=>?_)
     ·replace h:=cndT hb9 h
      obtain ⟨x10,hx10,h⟩:=bnd h
      obtain ⟨x11,hx11,h⟩:=bnd h
      refine W.rx [(1,_),(2,_),(5,_),(6,_)] (Rv (O.mv (.imm q))<|Rv (O.mv (.imm q))<|Vm q<|Rv (O.ixI (.imm q) (.lit q) sl132 hx10)<|Rv (O.ldIN (cs':=[I64 x10.Prod,I64 x10.Dot]) (.iptr q) at137 q q)<|Rc (PC.go (.cc (.imm q) (.cc (.aggF q q) .nil)) (con101 s1.1 x10 _ hx11) call101 q)<|RunL.re (G1:=[(1,_),(2,_),(6,_),(24,_)]) (tn4 q q q q)<|Rv (O.az (.imm q))<|Fi (tn4 q q q q)) ?_
      obtain rfl:=sm h
      exact Px.jn (tn4 q q q q)
     ·replace h:=cndF hb9 h
      refine W.sk ?_
      obtain rfl:=sm h
      exact Px.jn (tn4 q q q q)
    refine Px.bk ?_
    obtain rfl:=sm h
    exact Px.jn (tn4 q q q q)
   refine Px.sq<|W.rx [(1,_),(2,_),(5,_),(6,_)] (Vm q<|Rv (O.add (.lit q) (.k q))<|RunL.re (G1:=[(1,_),(2,_),(5,_),(12,_)]) (tn4 q q q q)<|Va q<|Fi (tn4 q q q q)) ?_
   obtain rfl:=sm h
   exact Px.go (tn4 q q q q)
  ·replace h:=cndF hb4 h
   refine W.xi ?_
   refine Px.sqE ?_
   obtain rfl:=sm h
   exact Px.x1 (.n q .nil)
 refine Px.bkH ?_
 refine Px.sq<|W.sq' ?_
 refine W.rx [(4,_)] (Rv (O.mv (.imm q))<|Rv (O.az (.imm q))<|Fi (.n q .nil)) ?_
 refine Px.sq<|W.rt ?_
 obtain rfl:=sm h
 exact Px.fin (Fin.ro (.f q q .nil) q (ode (by kernel_rfl)) (.no (.no .nil)) q (.inr q))
theorem con80 (a0:Grammar) (a1:(List Item)) (r:(List Item)) (h:pf80 a0 a1=some r):Con Try.prog 80 [.agg (eGrammar_0.cells a0),iR eItem a1] [none,none] (iR eItem r):=by
 unfold pf80 at h
 refine Con.go (N:=⟨59,[]⟩) Try.func80 q q q q (W.fin ?_)
 refine W.st [(0,.agg (eGrammar_0.cells a0)),(1,iR eItem a1)] ?_
 refine W.sq'<|W.rx [(1,_),(2,_)] (Rv (O.box (.aggF q q) q)<|Rv (O.az .knil)<|Fi (tn2 q q)) ?_
 refine Px.sq<|W.sq' ?_
 obtain ⟨x1,hx1,h⟩:=bnd h
 refine W.rx [(2,_),(5,_)] (Rv (O.ldON (cs':=[iR eTok a0.Toks,iR eNon a0.Nons,iR eProd_0 a0.Prods,SS a0.Pro,SS a0.Tail]) q (.obj q) at44 q q)<|Rv (O.mv (.imm q))<|Rc (PC.go (.cc (.aggF q q) (.cc (.imm q) .nil)) (con100 a0 a1 _ hx1) call100 q)<|Rv (O.az (.imm q))<|Fi (tn2 q q)) ?_
 refine Px.sq<|W.sq' ?_
 refine W.sq'<|W.rx [(2,_),(5,_),(6,_)] (Vk q<|Fi (tn3 q q q)) ?_
 refine Px.sq<|W.bk ?_
 obtain ⟨x3,hl,h⟩:=bnd h
 refine W.tr (G1:=[(2,_),(5,_),(6,_)]) (tn3 q q q) ?_
 refine W.lp1 (s:=(x1,(-1))) (fun (s2:List Item × Int)=>[(2,.obj (eGrammar_0.cells a0)),(5,iR eItem s2.1),(6,I64 s2.2)]) 0 (fun (x3:List Item)=>[(5,iR eItem x3)]) hl (fun s2 o h=>?_) ?_
 ·clear hl
  refine W.sq'<|W.sq' ?_
  refine W.rx [(2,_),(5,_),(16,_)] (Vm q<|Rv (O.mv (.imm q))<|Rv (O.lenI (.imm q) sl132)<|Rv (O.neq (.lit q) (.lit q))<|Fi (tn3 q q q)) ?_
  refine Px.sq<|W.cnd q (fun hb5=>?_) (fun hb5=>?_)
  ·replace h:=cndT hb5 h
   refine W.sk<|Px.sq ?_
   obtain ⟨j6,hj,h⟩:=bnd h
   refine W.jn [(2,.obj (eGrammar_0.cells a0)),(5,iR eItem j6.1),(6,I64 j6.2)] ?_ ?_
   ·clear h; have h:=hj; clear hj
    refine W.bk<|W.sq' ?_
    refine W.rx [(2,_),(5,_),(6,_)] (Rv (O.mv (.imm q))<|Rv (O.lenI (.imm q) sl132)<|Va q<|Fi (tn3 q q q)) ?_
    refine Px.sq<|W.sq' ?_
    refine W.rx [(2,_),(5,_),(6,_),(7,_)] (Vk q<|Fi (tn4 q q q q)) ?_
    refine Px.sq ?_
    obtain ⟨j7,hj,h⟩:=bnd h
    refine W.jn [(2,.obj (eGrammar_0.cells a0)),(5,iR eItem j7),(6,I64 (s2.1.length:Int))] ?_ ?_
    ·clear h; have h:=hj; clear hj
     refine W.bk ?_
     obtain ⟨x9,hl,h⟩:=bnd h
     refine W.tr (G1:=[(2,_),(5,_),(6,_),(7,_)]) (tn4 q q q q) ?_
     refine W.lp1 (s:=(s2.1,0)) (fun (s8:List Item × Int)=>[(2,.obj (eGrammar_0.cells a0)),(5,iR eItem s8.1),(6,I64 (s2.1.length:Int)),(7,I64 s8.2)]) 2 (fun (x9:List Item)=>[(2,.obj (eGrammar_0.cells a0)),(5,iR eItem x9),(6,I64 (s2.1.length:Int))]) hl (fun s8 o h=>?_) ?_
     ·clear hl
      refine W.sq'<|W.sq' ?_
      refine W.rx [(2,_),(5,_),(6,_),(7,_),(21,_)] (Vm q<|Vm q<|Rv (O.lss (.lit q) (.lit q))<|Fi (tn5 q q q q q)) ?_
      refine Px.sq<|W.cnd q (fun hb11=>?_) (fun hb11=>?_)
      ·replace h:=cndT hb11 h
       refine W.sk<|Px.sq ?_
       refine W.sq'<|W.bk ?_
       refine W.sq' ?_
       obtain ⟨x12,hx12,h⟩:=bnd h
       obtain ⟨x13,hx13,h⟩:=bnd h
       refine W.rd [[],[],[],[1,2],[1,2,3],rn 0 5 [],rn 0 6 []] [(2,_),(5,_),(6,_),(7,_),(8,_)] mixo (by kernel_rfl) (Dv 0 (O.ldON (cs':=[iR eTok a0.Toks,iR eNon a0.Nons,iR eProd_0 a0.Prods,SS a0.Pro,SS a0.Tail]) q (.obj q) at44 q q)<|Dv 1 (O.mv (.imm q))<|Dv 2 (O.mv (.lit q))<|Dv 3 (O.ixI (.imm q) (.lit q) sl132 hx12)<|Dv 4 (O.ldIN (cs':=[I64 x12.Prod,I64 x12.Dot]) (.iptr q) at137 q q)<|Dc 5 (PC.go (.cc (.aggF q q) (.cc (.aggF q q) .nil)) (con81 a0 x12 _ hx13) call81 q)<|Dv 6 (O.az (.lit q))<|DL.fin q q q (tn5 q q q q q)) ?_
       refine Px.sq<|W.sq' ?_
       refine W.sq'<|W.rx [(2,_),(5,_),(6,_),(7,_),(8,_),(9,_)] (Vk q<|Fi (tn6 q q q q q q)) ?_
       refine Px.sq<|W.bk ?_
       obtain ⟨x15,hl,h⟩:=bnd h
       refine W.tr (G1:=[(2,_),(5,_),(6,_),(7,_),(8,_),(9,_)]) (tn6 q q q q q q) ?_
       refine W.lp1 (s:=(s8.1,0)) (fun (s14:List Item × Int)=>[(2,.obj (eGrammar_0.cells a0)),(5,iR eItem s14.1),(6,I64 (s2.1.length:Int)),(7,I64 s8.2),(8,I64 x13),(9,I64 s14.2)]) 4 (fun (x15:List Item)=>[(2,.obj (eGrammar_0.cells a0)),(5,iR eItem x15),(6,I64 (s2.1.length:Int)),(7,I64 s8.2)]) hl (fun s14 o h=>?_) ?_
       ·clear hl
        refine W.sq'<|W.sq' ?_
        obtain ⟨c18,hj,h⟩:=bnd h
        refine W.rx [(2,.obj (eGrammar_0.cells a0)),(5,iR eItem s14.1),(6,I64 (s2.1.length:Int)),(7,I64 s8.2),(8,I64 x13),(9,I64 s14.2),(38,BB c18)] ?_ ?_
        ·refine Vm q<|Rv (O.fO q (.obj q) fd44_2 q)<|Rv (O.ldO (y:=iR eProd_0 a0.Prods) q (.ptr q) ct42 q q)<|Rv (O.lenI (.imm q) sl42)<|Rv (O.lss (.lit q) (.lit q))<|Rv (O.mv (.lit q)) ?_
         rcases cnd hj with ⟨hb17,hj⟩ | ⟨hb17,hj⟩
         ·obtain rfl:=sm hj
          exact RunL.v (O.mv (.lit q)) q q (.yb q q hb17)<|RunL.v (O.geq (.lit q) (.k q)) q q (.yb q q hb17)<|Rv (O.pkT (.lit q) hb17 (.lit q))<|Fi (tn7 q q q q q q q)
         ·obtain rfl:=sm hj
          exact RunL.ps q q hb17 q q<|RunL.ps q q hb17 q q<|Rv (O.pkF (.lit q) hb17 (.k q))<|Fi (tn7 q q q q q q q)
        refine Px.sq<|W.cnd q (fun hb19=>?_) (fun hb19=>?_)
        ·replace h:=cndT hb19 h
         refine W.sk<|Px.sq ?_
         refine W.sq' ?_
         obtain ⟨j20,hj,h⟩:=bnd h
         refine W.jn [(2,.obj (eGrammar_0.cells a0)),(5,iR eItem j20),(6,I64 (s2.1.length:Int)),(7,I64 s8.2),(8,I64 x13),(9,I64 s14.2)] ?_ ?_
         ·clear h; have h:=hj; clear hj
          refine W.bk<|W.sq' ?_
          obtain ⟨x21,hx21,h⟩:=bnd h
          refine W.rx [(2,_),(5,_),(6,_),(7,_),(8,_),(9,_),(49,_)] (Rv (O.fO q (.obj q) fd44_2 q)<|Rv (O.ldO (y:=iR eProd_0 a0.Prods) q (.ptr q) ct42 q q)<|Vm q<|Rv (O.ixI (.imm q) (.lit q) sl42 hx21)<|Rv (O.fI (.iptr q) fd148_0)<|Rv (O.ldI (x:=I64 x21.Left) (.iptr q) ct3 q)<|Vm q<|Rv (O.sub (.lit q) (.k q))<|Rv (O.eql (.lit q) (.lit q))<|Fi (tn7 q q q q q q q)) ?_
          refine Px.sq ?_
          obtain ⟨j22,hj,h⟩:=bnd h
          refine W.jn [(2,.obj (eGrammar_0.cells a0)),(5,iR eItem j22),(6,I64 (s2.1.length:Int)),(7,I64 s8.2),(8,I64 x13),(9,I64 s14.2)] ?_ ?_
          ·clear h; have h:=hj; clear hj
           refine W.cnd q (fun hb23=>?_) (fun hb23=>?_)
           ·replace h:=cndT hb23 h
            obtain ⟨x24,hx24,h⟩:=bnd h
            refine W.rx [(2,_),(5,_),(6,_),(7,_),(8,_),(9,_)] (Rv (O.mv (.imm q))<|Vm q<|Rv (O.bu (cs:=[I64 s14.2,I64 0]) sc137 ze137 q q q)<|Rc (PC.go (.cc (.imm q) (.cc (.aggF q q) .nil)) (con101 s14.1 (⟨s14.2,0⟩:Item) _ hx24) call101 q)<|RunL.re (G1:=[(2,_),(6,_),(7,_),(8,_),(9,_),(53,_)]) (tn6 q q q q q q)<|Rv (O.az (.imm q))<|Fi (tn6 q q q q q q)) ?_
            obtain rfl:=sm h
            exact Px.jn (tn6 q q q q q q)
           ·replace h:=cndF hb23 h
            refine W.sk ?_
            obtain rfl:=sm h
            exact Px.jn (tn6 q q q q q q)
          refine Px.bk ?_
          obtain rfl:=sm h
          exact Px.jn (tn6 q q q q q q)
         refine Px.sq<|W.rx [(2,_),(5,_),(6,_),(7,_),(8,_),(9,_)] (Vm q<|Rv (O.add (.lit q) (.k q))<|RunL.re (G1:=[(2,_),(5,_),(6,_),(7,_),(8,_),(40,_)]) (tn6 q q q q q q)<|Va q<|Fi (tn6 q q q q q q)) ?_
         obtain rfl:=sm h
         exact Px.go (tn6 q q q q q q)
        ·replace h:=cndF hb19 h
         refine W.xi ?_
         refine Px.sqE ?_
         obtain rfl:=sm h
         exact Px.x1 (tn4 q q q q)
       refine Px.bkH ?_
       refine Px.sq<|W.sq' ?_
       refine W.rx [(2,_),(5,_),(6,_),(7,_),(57,_)] (Rv (O.mv (.imm q))<|Rv (O.lenI (.imm q) sl132)<|Vm q<|Rv (O.neq (.lit q) (.lit q))<|Fi (tn5 q q q q q)) ?_
       refine Px.sq<|W.cnd q (fun hb25=>?_) (fun hb25=>?_)
       ·replace h:=cndT hb25 h
        refine W.xi ?_
        refine Px.bkM q ?_
        refine Px.sqE ?_
        obtain rfl:=sm h
        exact Px.x1 (tn3 q q q)
       ·replace h:=cndF hb25 h
        refine W.sk<|Px.bk ?_
        refine Px.sq<|W.rx [(2,_),(5,_),(6,_),(7,_)] (Vm q<|Rv (O.add (.lit q) (.k q))<|RunL.re (G1:=[(2,_),(5,_),(6,_),(23,_)]) (tn4 q q q q)<|Va q<|Fi (tn4 q q q q)) ?_
        obtain rfl:=sm h
        exact Px.go (tn4 q q q q)
      ·replace h:=cndF hb11 h
       refine W.xi ?_
       refine Px.sqE ?_
       obtain rfl:=sm h
       exact Px.x1 (tn3 q q q)
     refine Px.bkH ?_
     obtain rfl:=sm h
     exact Px.jn (tn3 q q q)
    refine Px.bk ?_
    obtain rfl:=sm h
    exact Px.jn (tn3 q q q)
   obtain rfl:=sm h
   exact Px.go (tn3 q q q)
  ·replace h:=cndF hb5 h
   refine W.xi ?_
   refine Px.sqE ?_
   obtain rfl:=sm h
   exact Px.x1 (.n q .nil)
 refine Px.bkH ?_
 refine Px.sq<|W.sq' ?_
 refine W.rx [(4,_)] (Rv (O.mv (.imm q))<|Rv (O.az (.imm q))<|Fi (.n q .nil)) ?_
 refine Px.sq<|W.rt ?_
 obtain rfl:=sm h
 exact Px.fin (Fin.ro (.f q q .nil) q (ode (by kernel_rfl)) (.no (.no .nil)) q (.inr q))
theorem con82 (a0:Grammar) (a1:(List Item)) (a2:Int) (r:(List Item)) (h:pf82 a0 a1 a2=some r):Con Try.prog 82 [.agg (eGrammar_0.cells a0),iR eItem a1,I64 a2] [none,none,none] (iR eItem r):=by
 unfold pf82 at h
 refine Con.go (N:=⟨48,[]⟩) Try.func82 q q q q (W.fin ?_)
 refine W.st [(0,.agg (eGrammar_0.cells a0)),(1,iR eItem a1),(2,I64 a2)] ?_
 refine W.sq'<|W.rx [(1,_),(2,_),(3,_)] (Rv (O.box (.aggF q q) q)<|Rv (O.az .knil)<|Fi (tn3 q q q)) ?_
 refine Px.sq<|W.sq' ?_
 refine W.rx [(1,_),(2,_),(3,_),(7,_)] (Rv (O.az .knil)<|Fi (tn4 q q q q)) ?_
 refine Px.sq<|W.sq' ?_
 obtain ⟨x1,hx1,h⟩:=bnd h
 refine W.rx [(2,_),(3,_),(7,_),(8,_)] (Rv (O.ldON (cs':=[iR eTok a0.Toks,iR eNon a0.Nons,iR eProd_0 a0.Prods,SS a0.Pro,SS a0.Tail]) q (.obj q) at44 q q)<|Rv (O.mv (.imm q))<|Rc (PC.go (.cc (.aggF q q) (.cc (.imm q) .nil)) (con80 a0 a1 _ hx1) call80 q)<|Rv (O.az (.imm q))<|Fi (tn4 q q q q)) ?_
 refine Px.sq<|W.sq' ?_
 refine W.sq'<|W.rx [(2,_),(3,_),(7,_),(8,_),(9,_)] (Vk q<|Fi (tn5 q q q q q)) ?_
 refine Px.sq<|W.bk ?_
 obtain ⟨x3,hl,h⟩:=bnd h
 refine W.tr (G1:=[(2,_),(3,_),(7,iR eItem ([]:List Item)),(8,_),(9,_)]) (.n q (.n q (.w q q .nilImm (tn2 q q)))) ?_
 refine W.lp1 (s:=(([]:List Item),0)) (fun (s2:List Item × Int)=>[(2,I64 a2),(3,.obj (eGrammar_0.cells a0)),(7,iR eItem s2.1),(8,iR eItem x1),(9,I64 s2.2)]) 0 (fun (x3:List Item)=>[(7,iR eItem x3)]) hl (fun s2 o h=>?_) ?_
 ·clear hl
  refine W.sq'<|W.sq' ?_
  refine W.rx [(2,_),(3,_),(7,_),(8,_),(9,_),(17,_)] (Vm q<|Rv (O.mv (.imm q))<|Rv (O.lenI (.imm q) sl132)<|Rv (O.lss (.lit q) (.lit q))<|Fi (tn6 q q q q q q)) ?_
  refine Px.sq<|W.cnd q (fun hb5=>?_) (fun hb5=>?_)
  ·replace h:=cndT hb5 h
   refine W.sk<|Px.sq ?_
   refine W.sq' ?_
   obtain ⟨j6,hj,h⟩:=bnd h
   refine W.jn [(2,I64 a2),(3,.obj (eGrammar_0.cells a0)),(7,iR eItem j6),(8,iR eItem x1),(9,I64 s2.2)] ?_ ?_
   ·clear h; have h:=hj; clear hj
    refine W.bk<|W.sq' ?_
    obtain ⟨x7,hx7,h⟩:=bnd h
    obtain ⟨x8,hx8,h⟩:=bnd h
    refine W.rd [[],[],[],[1,2],[1,2,3],rn 0 5 [],rn 0 6 []] [(2,_),(3,_),(7,_),(8,_),(9,_),(10,_)] mixo (by kernel_rfl) (Dv 0 (O.ldON (cs':=[iR eTok a0.Toks,iR eNon a0.Nons,iR eProd_0 a0.Prods,SS a0.Pro,SS a0.Tail]) q (.obj q) at44 q q)<|Dv 1 (O.mv (.imm q))<|Dv 2 (O.mv (.lit q))<|Dv 3 (O.ixI (.imm q) (.lit q) sl132 hx7)<|Dv 4 (O.ldIN (cs':=[I64 x7.Prod,I64 x7.Dot]) (.iptr q) at137 q q)<|Dc 5 (PC.go (.cc (.aggF q q) (.cc (.aggF q q) .nil)) (con81 a0 x7 _ hx8) call81 q)<|Dv 6 (O.az (.lit q))<|DL.fin q q q (tn6 q q q q q q)) ?_
    refine Px.sq<|W.sq' ?_
    obtain ⟨c10,hj,h⟩:=bnd h
    refine W.rx [(2,I64 a2),(3,.obj (eGrammar_0.cells a0)),(7,iR eItem s2.1),(8,iR eItem x1),(9,I64 s2.2),(32,BB c10)] ?_ ?_
    ·refine Vm q<|Rv (O.geq (.lit q) (.k q))<|Rv (O.mv (.lit q)) ?_
     rcases cnd hj with ⟨hb9,hj⟩ | ⟨hb9,hj⟩
     ·obtain rfl:=sm hj
      exact RunL.v (O.mv (.lit q)) q q (.yb q q hb9)<|RunL.v (O.mv (.lit q)) q q (.yb q q hb9)<|RunL.v (O.eql (.lit q) (.lit q)) q q (.yb q q hb9)<|Rv (O.pkT (.lit q) hb9 (.lit q))<|Fi (tn6 q q q q q q)
     ·obtain rfl:=sm hj
      exact RunL.ps q q hb9 q q<|RunL.ps q q hb9 q q<|RunL.ps q q hb9 q q<|Rv (O.pkF (.lit q) hb9 (.k q))<|Fi (tn6 q q q q q q)
    refine Px.sq ?_
    obtain ⟨j11,hj,h⟩:=bnd h
    refine W.jn [(2,I64 a2),(3,.obj (eGrammar_0.cells a0)),(7,iR eItem j11),(8,iR eItem x1),(9,I64 s2.2)] ?_ ?_
    ·clear h; have h:=hj; clear hj
     refine W.cnd q (fun hb12=>?_) (fun hb12=>?_)
     ·replace h:=cndT hb12 h
      refine W.tr (G1:=[(2,_),(3,_),(7,_),(8,_),(9,_)]) (tn5 q q q q q) ?_
      obtain ⟨x13,hx13,h⟩:=bnd h
      obtain ⟨x14,hx14,h⟩:=bnd h
      obtain ⟨x15,hx15,h⟩:=bnd h
      refine W.rd [[],[],[],[1,2],[1,2,3],[1,2,3,4],[],[],[6,7],[6,7,8],[6,7,8,9],rn 6 5 [],rn 1 11 [],rn 0 13 [],rn 0 14 []] [(2,_),(3,_),(7,_),(8,_),(9,_)] mixo (by kernel_rfl) (Dv 0 (O.mv (.imm q))<|Dv 1 (O.mv (.imm q))<|Dv 2 (O.mv (.lit q))<|Dv 3 (O.ixI (.imm q) (.lit q) sl132 hx13)<|Dv 4 (O.fI (.iptr q) fd137_0)<|Dv 5 (O.ldI (x:=I64 x13.Prod) (.iptr q) ct3 q)<|Dv 6 (O.mv (.imm q))<|Dv 7 (O.mv (.lit q))<|Dv 8 (O.ixI (.imm q) (.lit q) sl132 hx14)<|Dv 9 (O.fI (.iptr q) fd137_1)<|Dv 10 (O.ldI (x:=I64 x14.Dot) (.iptr q) ct3 q)<|Dv 11 (O.add (.lit q) (.k q))<|Dv 12 (O.bu (cs:=[I64 x13.Prod,I64 (w64 (x14.Dot+1))]) sc137 ze137 q q q)<|Dc 13 (PC.go (.cc (.imm q) (.cc (.aggF q q) .nil)) (con101 s2.1 (⟨x13.Prod,w64 (x14.Dot+1)⟩:Item) _ hx15) call101 q)<|DL.bv 14 (G2:=[(2,I64 a2),(3,.obj (eGrammar_0.cells a0)),(8,iR eItem x1),(9,I64 s2.2)]) (EO.aG (y':=iR eItem x15) q q (.imm q) (.f .nil) .refl (tn4 q q q q) q q) q q q q (by kernel_rfl) (by kernel_rfl)<|DL.fin q q q (tn5 q q q q q)) ?_
      obtain rfl:=sm h
      exact Px.jn (tn5 q q q q q)
     ·replace h:=cndF hb12 h
      refine W.sk ?_
      obtain rfl:=sm h
      exact Px.jn (tn5 q q q q q)
    refine Px.bk ?_
    obtain rfl:=sm h
    exact Px.jn (tn5 q q q q q)
   refine Px.sq<|W.rx [(2,_),(3,_),(7,_),(8,_),(9,_)] (Vm q<|Rv (O.add (.lit q) (.k q))<|RunL.re (G1:=[(2,_),(3,_),(7,_),(8,_),(19,_)]) (tn5 q q q q q)<|Va q<|Fi (tn5 q q q q q)) ?_
   obtain rfl:=sm h
   exact Px.go (tn5 q q q q q)
  ·replace h:=cndF hb5 h
   refine W.xi ?_
   refine Px.sqE ?_
   obtain rfl:=sm h
   exact Px.x1 (.n q .nil)
 refine Px.bkH ?_
 refine Px.sq<|W.sq' ?_
 refine W.rx [(6,_)] (Rv (O.mv (.imm q))<|Rv (O.az (.imm q))<|Fi (.n q .nil)) ?_
 refine Px.sq<|W.rt ?_
 obtain rfl:=sm h
 exact Px.fin (Fin.ro (.f q q .nil) q (ode (by kernel_rfl)) (.no (.no (.no .nil))) q (.inr q))
theorem con103 (a0:(List Item)) (a1:(List Item)) (r:Bool) (h:pf103 a0 a1=some r):Con Try.prog 103 [iR eItem a0,iR eItem a1] [none,none] (BB r):=by
 unfold pf103 at h
 refine Con.go (N:=⟨26,[]⟩) Try.func103 q q q q (W.fin ?_)
 refine W.st [(0,iR eItem a0),(1,iR eItem a1)] ?_
 refine W.sq'<|W.rx [(0,_),(1,_)] (Vk q<|Fi (tn2 q q)) ?_
 refine Px.sq<|W.sq' ?_
 refine W.sq'<|W.rx [(0,_),(1,_),(10,_)] (Rv (O.mv (.imm q))<|Rv (O.lenI (.imm q) sl132)<|Rv (O.mv (.imm q))<|Rv (O.lenI (.imm q) sl132)<|Rv (O.neq (.lit q) (.lit q))<|Fi (tn3 q q q)) ?_
 refine Px.sq<|W.cnd q (fun hb1=>?_) (fun hb1=>?_)
 ·replace h:=cndT hb1 h
  refine W.sq'<|W.rx [(4,_)] (Vk q<|Fi (.n q .nil)) ?_
  refine Px.sq<|W.rt ?_
  refine Px.sqR ?_
  obtain rfl:=sm h
  exact Px.fin (Fin.ro (.f q q .nil) q (ode (by kernel_rfl)) (.no (.no .nil)) q (.inr q))
 ·replace h:=cndF hb1 h
  refine W.sk<|Px.sq ?_
  refine W.sq'<|W.sq' ?_
  refine W.rx [(0,_),(1,_),(5,_)] (Vk q<|Fi (tn3 q q q)) ?_
  refine Px.sq<|W.bk ?_
  obtain ⟨x3,hl,h⟩:=bnd h
  refine W.tr (G1:=[(0,_),(1,_),(5,_)]) (tn3 q q q) ?_
  refine W.lp2 (s:=0) (fun (s2:Int)=>[(0,iR eItem a0),(1,iR eItem a1),(5,I64 s2)]) 0 (fun (x4:Unit)=>[]) (fun (x5:Bool)=>[(4,BB x5)]) hl (fun s2 o h=>?_) (fun x4 hx=>?_) (fun x5 hx=>?_)
  ·clear hl
   refine W.sq'<|W.sq' ?_
   refine W.rx [(0,_),(1,_),(5,_),(14,_)] (Vm q<|Rv (O.mv (.imm q))<|Rv (O.lenI (.imm q) sl132)<|Rv (O.lss (.lit q) (.lit q))<|Fi (tn4 q q q q)) ?_
   refine Px.sq<|W.cnd q (fun hb6=>?_) (fun hb6=>?_)
   ·replace h:=cndT hb6 h
    refine W.sk<|Px.sq ?_
    refine W.sq'<|W.bk ?_
    refine W.sq' ?_
    obtain ⟨x7,hx7,h⟩:=bnd h
    obtain ⟨x8,hx8,h⟩:=bnd h
    refine W.rd [[],[],[0,1],[0,1,2],[],[],[4,5],[4,5,6],rn 0 8 []] [(0,_),(1,_),(5,_),(25,_)] mixo (by kernel_rfl) (Dv 0 (O.mv (.imm q))<|Dv 1 (O.mv (.lit q))<|Dv 2 (O.ixI (.imm q) (.lit q) sl132 hx7)<|Dv 3 (O.ldIN (cs':=[I64 x7.Prod,I64 x7.Dot]) (.iptr q) at137 q q)<|Dv 4 (O.mv (.imm q))<|Dv 5 (O.mv (.lit q))<|Dv 6 (O.ixI (.imm q) (.lit q) sl132 hx8)<|Dv 7 (O.ldIN (cs':=[I64 x8.Prod,I64 x8.Dot]) (.iptr q) at137 q q)<|Dv 8 (O.neqA (va:=[.int .i64 x7.Prod,.int .i64 x7.Dot]) (vb:=[.int .i64 x8.Prod,.int .i64 x8.Dot]) (.aggF q q) (.aggF q q) q q eq137)<|DL.fin q q q (tn4 q q q q)) ?_
    refine Px.sq<|W.cnd q (fun hb9=>?_) (fun hb9=>?_)
    ·replace h:=cndT hb9 h
     refine W.sq'<|W.rx [(4,_)] (Vk q<|Fi (.n q .nil)) ?_
     refine Px.sq<|W.rt ?_
     refine Px.bkR ?_
     refine Px.sqR ?_
     obtain rfl:=sm h
     exact Px.r2 (.n q .nil)
    ·replace h:=cndF hb9 h
     refine W.sk<|Px.bk ?_
     refine Px.sq<|W.rx [(0,_),(1,_),(5,_)] (Vm q<|Rv (O.add (.lit q) (.k q))<|RunL.re (G1:=[(0,_),(1,_),(16,_)]) (tn3 q q q)<|Va q<|Fi (tn3 q q q)) ?_
     obtain rfl:=sm h
     exact Px.go (tn3 q q q)
   ·replace h:=cndF hb6 h
    refine W.xi ?_
    refine Px.sqE ?_
    obtain rfl:=sm h
    exact Px.x2 .nil
  ·subst hx
   refine Px.bkH ?_
   refine Px.sq<|W.sq' ?_
   refine W.rx [(4,_)] (Vk q<|Fi (.n q .nil)) ?_
   refine Px.sq<|W.rt ?_
   obtain rfl:=sm h
   exact Px.fin (Fin.ro (.f q q .nil) q (ode (by kernel_rfl)) (.no (.no .nil)) q (.inr q))
  ·subst hx
   refine Px.bkR ?_
   refine Px.sqR ?_
   obtain rfl:=sm h
   exact Px.fin (Fin.ro (.f q q .nil) q (ode (by kernel_rfl)) (.no (.no .nil)) q (.inr q))
theorem con83 (a0:(List State)) (a1:(List Item)) (r:Int) (h:pf83 a0 a1=some r):Con Try.prog 83 [iR eState_0 a0,iR eItem a1] [none,none] (I64 r):=by
 unfold pf83 at h
 refine Con.go (N:=⟨20,[]⟩) Try.func83 q q q q (W.fin ?_)
 refine W.st [(0,iR eState_0 a0),(1,iR eItem a1)] ?_
 refine W.sq'<|W.rx [(0,_),(1,_)] (Vk q<|Fi (tn2 q q)) ?_
 refine Px.sq<|W.sq' ?_
 refine W.sq'<|W.rx [(0,_),(1,_),(5,_)] (Vk q<|Fi (tn3 q q q)) ?_
 refine Px.sq<|W.bk ?_
 obtain ⟨x2,hl,h⟩:=bnd h
 refine W.tr (G1:=[(0,_),(1,_),(5,_)]) (tn3 q q q) ?_
 refine W.lp2 (s:=0) (fun (s1:Int)=>[(0,iR eState_0 a0),(1,iR eItem a1),(5,I64 s1)]) 0 (fun (x3:Unit)=>[]) (fun (x4:Int)=>[(4,I64 x4)]) hl (fun s1 o h=>?_) (fun x3 hx=>?_) (fun x4 hx=>?_)
 ·clear hl
  refine W.sq'<|W.sq' ?_
  refine W.rx [(0,_),(1,_),(5,_),(9,_)] (Vm q<|Rv (O.mv (.imm q))<|Rv (O.lenI (.imm q) sl64)<|Rv (O.lss (.lit q) (.lit q))<|Fi (tn4 q q q q)) ?_
  refine Px.sq<|W.cnd q (fun hb5=>?_) (fun hb5=>?_)
  ·replace h:=cndT hb5 h
   refine W.sk<|Px.sq ?_
   refine W.sq'<|W.bk ?_
   refine W.sq' ?_
   obtain ⟨x6,hx6,h⟩:=bnd h
   obtain ⟨x7,hx7,h⟩:=bnd h
   refine W.rx [(0,_),(1,_),(5,_),(18,_)] (Rv (O.mv (.imm q))<|Vm q<|Rv (O.ixI (.imm q) (.lit q) sl64 hx6)<|Rv (O.fI (.iptr q) fd135_0)<|Rv (O.ldI (x:=iR eItem x6.Kernel) (.iptr q) ct132 q)<|Rv (O.mv (.imm q))<|Rc (PC.go (.cc (.imm q) (.cc (.imm q) .nil)) (con103 x6.Kernel a1 _ hx7) call103 q)<|Fi (tn4 q q q q)) ?_
   refine Px.sq<|W.cnd q (fun hb8=>?_) (fun hb8=>?_)
   ·replace h:=cndT hb8 h
    refine W.sq'<|W.rx [(4,_)] (Vm q<|Va q<|Fi (.n q .nil)) ?_
    refine Px.sq<|W.rt ?_
    refine Px.bkR ?_
    refine Px.sqR ?_
    obtain rfl:=sm h
    exact Px.r2 (.n q .nil)
   ·replace h:=cndF hb8 h
    refine W.sk<|Px.bk ?_
    refine Px.sq<|W.rx [(0,_),(1,_),(5,_)] (Vm q<|Rv (O.add (.lit q) (.k q))<|RunL.re (G1:=[(0,_),(1,_),(11,_)]) (tn3 q q q)<|Va q<|Fi (tn3 q q q)) ?_
    obtain rfl:=sm h
    exact Px.go (tn3 q q q)
  ·replace h:=cndF hb5 h
   refine W.xi ?_
   refine Px.sqE ?_
   obtain rfl:=sm h
   exact Px.x2 .nil
 ·subst hx
  refine Px.bkH ?_
  refine Px.sq<|W.sq' ?_
  refine W.rx [(4,_)] (Vk q<|Fi (.n q .nil)) ?_
  refine Px.sq<|W.rt ?_
  obtain rfl:=sm h
  exact Px.fin (Fin.ro (.f q q .nil) q (ode (by kernel_rfl)) (.no (.no .nil)) q (.inr q))
 ·subst hx
  refine Px.bkR ?_
  refine Px.sqR ?_
  obtain rfl:=sm h
  exact Px.fin (Fin.ro (.f q q .nil) q (ode (by kernel_rfl)) (.no (.no .nil)) q (.inr q))
theorem con69 (a0:Grammar) (r:(List State) × Int) (h:pf69 a0=some r):Con Try.prog 69 [.agg (eGrammar_0.cells a0)] [none] (.tup [iR eState_0 r.1,I64 r.2]):=by
 unfold pf69 at h
 refine Con.go (N:=⟨106,[]⟩) Try.func69 q q q q (W.fin ?_)
 refine W.st [(0,.agg (eGrammar_0.cells a0))] ?_
 refine W.sq'<|W.rx [(1,_)] (Rv (O.box (.aggF q q) q)<|Rv (O.az .knil)<|Vk q<|Fi (.n q .nil)) ?_
 refine Px.sq<|W.sq' ?_
 refine W.rx [(1,_),(4,_)] (Rv (O.bu (cs:=[I64 0,I64 0]) sc137 ze137 q q q)<|Rv (O.bsL (ys:=[.agg [I64 0,I64 0]]) (cs:=[I64 0,I64 0]) sl132 q q q q q zt137 q q)<|Rv (O.bu (cs:=[.brw 2 ⟨15,[]⟩ 1,.nils]) sc135 ze135 q q q)<|Rv (O.bsL (ys:=[.agg [.brw 2 ⟨15,[]⟩ 1,.nils]]) (cs:=[.brw 2 ⟨15,[]⟩ 1,.nils]) sl64 q q q q q zt135 q q)<|RunL.ea (G2:=[(1,.obj (eGrammar_0.cells a0))]) q (EO.aG (y':=oR eState_m [(⟨[(⟨0,0⟩:Item)],([]:List Move)⟩:State)]) q q (.own q) (.l q q (.l q q (.f (.f .nil)) (.f .nil)) .nil) (FzL.own (.z (hv:=Vw.rl (en:=eItem) (L:=[(⟨0,0⟩:Item)]) (cs':=[I64 0,I64 0]) q q) (.o .nil))) (.n q .nil) q q)<|Fi (tn2 q q)) ?_
 refine Px.sq<|W.sq' ?_
 obtain ⟨x1,hx1,h⟩:=bnd h
 refine W.rx [(1,_),(4,_),(5,_)] (Rv (O.ldON (cs':=[iR eTok a0.Toks,iR eNon a0.Nons,iR eProd_0 a0.Prods,SS a0.Pro,SS a0.Tail]) q (.obj q) at44 q q)<|Rc (PC.go (.cc (.aggF q q) .nil) (con79 a0 _ hx1) call79 q)<|Rv (O.az (.imm q))<|Fi (tn3 q q q)) ?_
 refine Px.sq<|W.sq' ?_
 refine W.sq'<|W.rx [(1,_),(4,_),(5,_),(6,_)] (Vk q<|Fi (tn4 q q q q)) ?_
 refine Px.sq<|W.bk ?_
 obtain ⟨x3,hl,h⟩:=bnd h
 refine W.tr (G1:=[(1,_),(4,_),(5,_),(6,_)]) (tn4 q q q q) ?_
 refine W.lp2 (s:=([(⟨[(⟨0,0⟩:Item)],([]:List Move)⟩:State)],0)) (fun (s2:List State × Int)=>[(1,.obj (eGrammar_0.cells a0)),(4,oR eState_m s2.1),(5,iR eI x1),(6,I64 s2.2)]) 0 (fun (x4:List State)=>[(4,oR eState_m x4)]) (fun (x5:List State × Int)=>[(2,iR eState_0 x5.1),(3,I64 x5.2)]) hl (fun s2 o h=>?_) (fun x4 hx=>?_) (fun x5 hx=>?_)
 ·clear hl
  refine W.sq'<|W.sq' ?_
  refine W.rx [(1,_),(4,_),(5,_),(6,_),(23,_)] (Vm q<|Rv (O.mv (.own q))<|Rv (O.lenO (.brw q) sl64)<|Rv (O.lss (.lit q) (.lit q))<|Fi (tn5 q q q q q)) ?_
  refine Px.sq<|W.cnd q (fun hb6=>?_) (fun hb6=>?_)
  ·replace h:=cndT hb6 h
   refine W.sk<|Px.sq ?_
   refine W.sq'<|W.bk ?_
   refine W.sq' ?_
   obtain ⟨x7,hx7,h⟩:=bnd h
   obtain ⟨x8,hx8,h⟩:=bnd h
   refine W.rd [[],[],[],[1,2],[1,2,3],[1,2,3,4],rn 0 6 [],rn 0 7 []] [(1,_),(4,_),(5,_),(6,_),(7,_)] mixo (by kernel_rfl) (Dv 0 (O.ldON (cs':=[iR eTok a0.Toks,iR eNon a0.Nons,iR eProd_0 a0.Prods,SS a0.Pro,SS a0.Tail]) q (.obj q) at44 q q)<|Dv 1 (O.mv (.own q))<|Dv 2 (O.mv (.lit q))<|Dv 3 (O.ixO (en:=eState_m) q (.brw q) (.lit q) sl64 hx7 q)<|Dv 4 (O.fE (en:=eState_m) q (.ptr q) fd135_0 hx7 q q)<|Dv 5 (O.ldE (en:=eState_m) (x':=iR eItem x7.Kernel) q (.ptr q) ct132 hx7 q q)<|Dc 6 (PC.go (.cc (.aggF q q) (.cc (.imm q) .nil)) (con80 a0 x7.Kernel _ hx8) call80 q)<|Dv 7 (O.az (.imm q))<|DL.fin q q q (tn5 q q q q q)) ?_
   refine Px.sq<|W.sq' ?_
   refine W.rx [(1,_),(4,_),(5,_),(6,_),(7,_),(8,_)] (Rv (O.az .knil)<|Fi (tn6 q q q q q q)) ?_
   refine Px.sq<|W.sq' ?_
   refine W.sq'<|W.rx [(1,_),(4,_),(5,_),(6,_),(7,_),(8,_),(9,_)] (Vk q<|Fi (tn7 q q q q q q q)) ?_
   refine Px.sq<|W.bk ?_
   obtain ⟨x10,hl,h⟩:=bnd h
   refine W.tr (G1:=[(1,_),(4,_),(5,_),(6,_),(7,_),(8,iR eI ([]:List Int)),(9,_)]) (.n q (.n q (.n q (.n q (.n q (.w q q .nilImm (.n q .nil))))))) ?_
   refine W.lp1 (s:=(([]:List Int),0)) (fun (s9:List Int × Int)=>[(1,.obj (eGrammar_0.cells a0)),(4,oR eState_m s2.1),(5,iR eI x1),(6,I64 s2.2),(7,iR eItem x8),(8,iR eI s9.1),(9,I64 s9.2)]) 2 (fun (x10:List Int)=>[(1,.obj (eGrammar_0.cells a0)),(4,oR eState_m s2.1),(5,iR eI x1),(6,I64 s2.2),(8,iR eI x10)]) hl (fun s9 o h=>?_) ?_
   ·clear hl
    refine W.sq'<|W.sq' ?_
    refine W.rx [(1,_),(4,_),(5,_),(6,_),(7,_),(8,_),(9,_),(36,_)] (Vm q<|Rv (O.mv (.imm q))<|Rv (O.lenI (.imm q) sl132)<|Rv (O.lss (.lit q) (.lit q))<|Fi (tn8 q q q q q q q q)) ?_
    refine Px.sq<|W.cnd q (fun hb12=>?_) (fun hb12=>?_)
    ·replace h:=cndT hb12 h
     refine W.sk<|Px.sq ?_
     refine W.sq' ?_
     obtain ⟨j13,hj,h⟩:=bnd h
     refine W.jn [(1,.obj (eGrammar_0.cells a0)),(4,oR eState_m s2.1),(5,iR eI x1),(6,I64 s2.2),(7,iR eItem x8),(8,iR eI j13),(9,I64 s9.2)] ?_ ?_
     ·clear h; have h:=hj; clear hj
      refine W.bk<|W.sq' ?_
      obtain ⟨x14,hx14,h⟩:=bnd h
      obtain ⟨x15,hx15,h⟩:=bnd h
      refine W.rd [[],[],[],[1,2],[1,2,3],rn 0 5 [],rn 0 6 []] [(1,_),(4,_),(5,_),(6,_),(7,_),(8,_),(9,_),(10,_)] mixo (by kernel_rfl) (Dv 0 (O.ldON (cs':=[iR eTok a0.Toks,iR eNon a0.Nons,iR eProd_0 a0.Prods,SS a0.Pro,SS a0.Tail]) q (.obj q) at44 q q)<|Dv 1 (O.mv (.imm q))<|Dv 2 (O.mv (.lit q))<|Dv 3 (O.ixI (.imm q) (.lit q) sl132 hx14)<|Dv 4 (O.ldIN (cs':=[I64 x14.Prod,I64 x14.Dot]) (.iptr q) at137 q q)<|Dc 5 (PC.go (.cc (.aggF q q) (.cc (.aggF q q) .nil)) (con81 a0 x14 _ hx15) call81 q)<|Dv 6 (O.az (.lit q))<|DL.fin q q q (tn8 q q q q q q q q)) ?_
      refine Px.sq<|W.sq' ?_
      refine W.rx [(1,_),(4,_),(5,_),(6,_),(7,_),(8,_),(9,_),(10,_),(46,_)] (Vm q<|Rv (O.geq (.lit q) (.k q))<|Fi (tn9 q q q q q q q q q)) ?_
      refine Px.sq ?_
      obtain ⟨j16,hj,h⟩:=bnd h
      refine W.jn [(1,.obj (eGrammar_0.cells a0)),(4,oR eState_m s2.1),(5,iR eI x1),(6,I64 s2.2),(7,iR eItem x8),(8,iR eI j16),(9,I64 s9.2)] ?_ ?_
      ·clear h; have h:=hj; clear hj
       refine W.cnd q (fun hb17=>?_) (fun hb17=>?_)
       ·replace h:=cndT hb17 h
        obtain ⟨x18,hx18,h⟩:=bnd h
        refine W.rx [(1,_),(4,_),(5,_),(6,_),(7,_),(8,_),(9,_)] (Rv (O.mv (.imm q))<|Vm q<|Rc (PC.go (.cc (.imm q) (.cc (.lit q) .nil)) (con67 s9.1 x15 _ hx18) call67 q)<|RunL.re (G1:=[(1,_),(4,_),(5,_),(6,_),(7,_),(9,_),(49,_)]) (tn7 q q q q q q q)<|Rv (O.az (.imm q))<|Fi (tn7 q q q q q q q)) ?_
        obtain rfl:=sm h
        exact Px.jn (tn7 q q q q q q q)
       ·replace h:=cndF hb17 h
        refine W.sk ?_
        obtain rfl:=sm h
        exact Px.jn (tn7 q q q q q q q)
      refine Px.bk ?_
      obtain rfl:=sm h
      exact Px.jn (tn7 q q q q q q q)
     refine Px.sq<|W.rx [(1,_),(4,_),(5,_),(6,_),(7,_),(8,_),(9,_)] (Vm q<|Rv (O.add (.lit q) (.k q))<|RunL.re (G1:=[(1,_),(4,_),(5,_),(6,_),(7,_),(8,_),(38,_)]) (tn7 q q q q q q q)<|Va q<|Fi (tn7 q q q q q q q)) ?_
     obtain rfl:=sm h
     exact Px.go (tn7 q q q q q q q)
    ·replace h:=cndF hb12 h
     refine W.xi ?_
     refine Px.sqE ?_
     obtain rfl:=sm h
     exact Px.x1 (tn5 q q q q q)
   refine Px.bkH ?_
   refine Px.sq<|W.sq' ?_
   refine W.rx [(1,_),(4,_),(5,_),(6,_),(8,_),(11,_)] (Vk q<|Fi (tn6 q q q q q q)) ?_
   refine Px.sq<|W.bk ?_
   obtain ⟨x20,hl,h⟩:=bnd h
   refine W.tr (G1:=[(1,_),(4,_),(5,_),(6,_),(8,_),(11,_)]) (tn6 q q q q q q) ?_
   refine W.lp2 (s:=(s2.1,0)) (fun (s19:List State × Int)=>[(1,.obj (eGrammar_0.cells a0)),(4,oR eState_m s19.1),(5,iR eI x1),(6,I64 s2.2),(8,iR eI x10),(11,I64 s19.2)]) 4 (fun (x21:List State)=>[(1,.obj (eGrammar_0.cells a0)),(4,oR eState_m x21),(5,iR eI x1),(6,I64 s2.2)]) (fun (x22:List State × Int)=>[(2,iR eState_0 x22.1),(3,I64 x22.2)]) hl (fun s19 o h=>?_) (fun x21 hx=>?_) (fun x22 hx=>?_)
   ·clear hl
    refine W.sq'<|W.sq' ?_
    refine W.rx [(1,_),(4,_),(5,_),(6,_),(8,_),(11,_),(53,_)] (Vm q<|Rv (O.mv (.imm q))<|Rv (O.lenI (.imm q) sl29)<|Rv (O.lss (.lit q) (.lit q))<|Fi (tn7 q q q q q q q)) ?_
    refine Px.sq<|W.cnd q (fun hb23=>?_) (fun hb23=>?_)
    ·replace h:=cndT hb23 h
     refine W.sk<|Px.sq ?_
     refine W.sq'<|W.bk ?_
     refine W.sq'<|W.sq' ?_
     obtain ⟨x24,hx24,h⟩:=bnd h
     obtain ⟨x25,hx25,h⟩:=bnd h
     refine W.rx [(1,_),(4,_),(5,_),(6,_),(8,_),(11,_),(62,_)] (Rv (O.mv (.imm q))<|Rv (O.mv (.imm q))<|Vm q<|Rv (O.ixI (.imm q) (.lit q) sl29 hx24)<|Rv (O.ldI (x:=I64 x24) (.iptr q) ct3 q)<|Rc (PC.go (.cc (.imm q) (.cc (.lit q) .nil)) (con70 x10 x24 _ hx25) call70 q)<|Rv (O.not (.lit q))<|Fi (tn7 q q q q q q q)) ?_
     refine Px.sq<|W.cnd q (fun hb26=>?_) (fun hb26=>?_)
     ·replace h:=cndT hb26 h
      refine W.xi ?_
      refine Px.sqE ?_
      refine Px.bkH ?_
      refine Px.sq<|W.rx [(1,_),(4,_),(5,_),(6,_),(8,_),(11,_)] (Vm q<|Rv (O.add (.lit q) (.k q))<|RunL.re (G1:=[(1,_),(4,_),(5,_),(6,_),(8,_),(55,_)]) (tn6 q q q q q q)<|Va q<|Fi (tn6 q q q q q q)) ?_
      obtain rfl:=sm h
      exact Px.go (tn6 q q q q q q)
     ·replace h:=cndF hb26 h
      refine W.sk<|Px.sq ?_
      refine W.sq' ?_
      obtain ⟨x27,hx27,h⟩:=bnd h
      obtain ⟨x28,hx28,h⟩:=bnd h
      obtain ⟨x29,hx29,h⟩:=bnd h
      refine W.rd [[],[],[],[1,2],[1,2,3],[1,2,3,4],[],[],[6,7],[6,7,8],rn 0 10 [],rn 0 11 []] [(1,_),(4,_),(5,_),(6,_),(8,_),(11,_),(12,_)] mixo (by kernel_rfl) (Dv 0 (O.ldON (cs':=[iR eTok a0.Toks,iR eNon a0.Nons,iR eProd_0 a0.Prods,SS a0.Pro,SS a0.Tail]) q (.obj q) at44 q q)<|Dv 1 (O.mv (.own q))<|Dv 2 (O.mv (.lit q))<|Dv 3 (O.ixO (en:=eState_m) q (.brw q) (.lit q) sl64 hx27 q)<|Dv 4 (O.fE (en:=eState_m) q (.ptr q) fd135_0 hx27 q q)<|Dv 5 (O.ldE (en:=eState_m) (x':=iR eItem x27.Kernel) q (.ptr q) ct132 hx27 q q)<|Dv 6 (O.mv (.imm q))<|Dv 7 (O.mv (.lit q))<|Dv 8 (O.ixI (.imm q) (.lit q) sl29 hx28)<|Dv 9 (O.ldI (x:=I64 x28) (.iptr q) ct3 q)<|Dc 10 (PC.go (.cc (.aggF q q) (.cc (.imm q) (.cc (.lit q) .nil))) (con82 a0 x27.Kernel x28 _ hx29) call82 q)<|Dv 11 (O.az (.imm q))<|DL.fin q q q (tn7 q q q q q q q)) ?_
      refine Px.sq<|W.sq' ?_
      obtain ⟨x30,hx30,h⟩:=bnd h
      refine W.rx [(1,_),(4,_),(5,_),(6,_),(8,_),(11,_),(12,_),(13,_)] (Rv (O.mv (.own q))<|Rv (O.mv (.imm q))<|Rc (PC.vw (ys:=[.brw eState_m.z ⟨4,[]⟩ s19.1.length,iR eItem x29]) q (.c (.row q) (.s .nil)) (con83 s19.1 x29 _ hx30) call83 q)<|Va q<|Fi (tn8 q q q q q q q q)) ?_
      refine Px.sq<|W.sq' ?_
      refine W.sq'<|W.rx [(1,_),(4,_),(5,_),(6,_),(8,_),(11,_),(12,_),(13,_),(78,_)] (Vm q<|Rv (O.lss (.lit q) (.k q))<|Fi (tn9 q q q q q q q q q)) ?_
      refine Px.sq<|W.cnd q (fun hb31=>?_) (fun hb31=>?_)
      ·replace h:=cndT hb31 h
       refine W.sq'<|W.rx [(1,_),(4,_),(5,_),(6,_),(8,_),(11,_),(12,_),(13,_)] (Rv (O.mv (.own q))<|Rv (O.lenO (.brw q) sl64)<|RunL.re (G1:=[(1,_),(4,_),(5,_),(6,_),(8,_),(11,_),(12,_),(80,_)]) (tn8 q q q q q q q q)<|Va q<|Fi (tn8 q q q q q q q q)) ?_
       refine Px.sq<|W.sq' ?_
       refine W.sq'<|W.rx [(1,_),(4,_),(5,_),(6,_),(8,_),(11,_),(12,_),(13,_),(82,_)] (Vm q<|Rv (O.eql (.lit q) (.k q))<|Fi (tn9 q q q q q q q q q)) ?_
       refine Px.sq<|W.cnd q (fun hb32=>?_) (fun hb32=>?_)
       ·replace h:=cndT hb32 h
        refine W.sq'<|W.rx [(2,_),(3,_)] (Rv (O.az .knil)<|Vk q<|Fi (tn2 q q)) ?_
        refine Px.sq<|W.fz (G1:=[(2,iR eState_0 ([]:List State)),(3,_)]) [2] (.z q q .zz (.n q q .nil)) ?_
        refine W.rt ?_
        refine Px.sqR ?_
        refine Px.sqR ?_
        refine Px.bkR ?_
        refine Px.sqR ?_
        obtain rfl:=sm h
        exact Px.r2 (tn2 q q)
       ·replace h:=cndF hb32 h
        refine W.sk<|Px.sq ?_
        obtain ⟨x33,hx33,h⟩:=bnd h
        refine W.rx [(1,_),(4,_),(5,_),(6,_),(8,_),(11,_),(13,_)] (Rv (O.mv (.own q))<|Rv (O.mv (.imm q))<|Rv (O.bu (cs:=[iR eItem x29,.nils]) sc135 ze135 q q q)<|Rv (O.bsL (ys:=[.agg [iR eItem x29,.nils]]) (cs:=[iR eItem x29,.nils]) sl64 q q q q q zt135 q q)<|Rv (O.apL (en:=eState_m) (M:=[(⟨x29,([]:List Move)⟩:State)]) (r:=x33) (.brw q) q (.own q) q q q q ap64 q hx33)<|RunL.ea (G2:=[(1,.obj (eGrammar_0.cells a0)),(5,iR eI x1),(6,I64 s2.2),(8,iR eI x10),(11,I64 s19.2),(13,I64 (s19.1.length:Int))]) q (EO.apG (M:=[(⟨x29,([]:List Move)⟩:State)]) q q (.pend q) q q q (.f (.f .nil)) (.f (.o .nil)) q q (tn6 q q q q q q) q q)<|Fi (tn7 q q q q q q q)) ?_
        refine Px.sq ?_
        obtain ⟨x34,hx34,h⟩:=bnd h
        obtain ⟨x35,hx35,h⟩:=bnd h
        obtain ⟨x36,hx36,h⟩:=bnd h
        refine W.rd [[],[],[],[],[2,3],[2,3,4],[2,3,4,5],[],[],[7,8],[7,8,9],[],rn 7 5 [],rn 7 6 [],rn 2 12 [],rn 0 15 [],rn 0 16 [],rn 0 17 []] [(1,_),(4,_),(5,_),(6,_),(8,_),(11,_)] mixo (by kernel_rfl) (Dv 0 (O.mv (.own q))<|Dv 1 (O.mv (.lit q))<|Dv 2 (O.mv (.own q))<|Dv 3 (O.mv (.lit q))<|Dv 4 (O.ixO (en:=eState_m) q (.brw q) (.lit q) sl64 hx34 q)<|Dv 5 (O.fE (en:=eState_m) q (.ptr q) fd135_1 hx34 q q)<|Dv 6 (O.ldE (en:=eState_m) (x':=.brw eMove.z ⟨4,[s2.2.toNat * eState_m.z+1]⟩ x34.Moves.length) q (.ptr q) ct133 hx34 q q)<|Dv 7 (O.mv (.imm q))<|Dv 8 (O.mv (.lit q))<|Dv 9 (O.ixI (.imm q) (.lit q) sl29 hx35)<|Dv 10 (O.ldI (x:=I64 x35) (.iptr q) ct3 q)<|Dv 11 (O.mv (.lit q))<|Dv 12 (O.bu (cs:=[I64 x35,I64 (s19.1.length:Int)]) sc145 ze145 q q q)<|DL.vi 13 (x:=iR eMove [(⟨x35,(s19.1.length:Int)⟩:Move)]) (O.bs (ys:=[.agg [I64 x35,I64 (s19.1.length:Int)]]) eMove [(⟨x35,(s19.1.length:Int)⟩:Move)] sl133 q q q q q q zt145 q q) q q q q .none<|Dv 14 (O.ap (en:=eMove) (r:=x36) (.brw q) (atP_el (r:=4) (path:=[]) (o:=1) (en:=eState_m) q hx34 q) (.imm q) .i ap133 q hx36)<|Dv 15 (O.ixO (en:=eState_m) q (.brw q) (.lit q) sl64 hx34 q)<|Dv 16 (O.fE (en:=eState_m) q (.ptr q) fd135_1 hx34 q q)<|DL.bp 17 (G2:=[(1,.obj (eGrammar_0.cells a0)),(4,oR eState_m ((s19.1++[(⟨x29,([]:List Move)⟩:State)]).set s2.2.toNat (⟨x34.Kernel,x34.Moves++[(⟨x35,(s19.1.length:Int)⟩:Move)]⟩:State))),(5,iR eI x1),(6,I64 s2.2),(8,iR eI x10),(11,I64 s19.2)]) (EO.stEP (en:=eState_m) (en2:=eMove) (M:=[(⟨x35,(s19.1.length:Int)⟩:Move)]) (y2:=(⟨x34.Kernel,x34.Moves++[(⟨x35,(s19.1.length:Int)⟩:Move)]⟩:State)) (x2:=oR eState_m ((s19.1++[(⟨x29,([]:List Move)⟩:State)]).set s2.2.toNat (⟨x34.Kernel,x34.Moves++[(⟨x35,(s19.1.length:Int)⟩:Move)]⟩:State))) (y0:=.own eState_m.z (s19.1++[(⟨x29,([]:List Move)⟩:State)]).length ((rowc eState_m (s19.1++[(⟨x29,([]:List Move)⟩:State)])).set (s2.2.toNat * eState_m.z+1) .dead)) q q (.ptr q) (.pend q) q q hx34 q q .ns .rf q q sz133 q q q q q q (.n q q (.b q (.n q q (.n q q (.n q q (.n q q .nil))))))) q q q q (by kernel_rfl) (by kernel_rfl)<|DL.fin q q q (tn6 q q q q q q)) ?_
        refine Px.bk ?_
        refine Px.sq<|W.rx [(1,_),(4,_),(5,_),(6,_),(8,_),(11,_)] (Vm q<|Rv (O.add (.lit q) (.k q))<|RunL.re (G1:=[(1,_),(4,_),(5,_),(6,_),(8,_),(55,_)]) (tn6 q q q q q q)<|Va q<|Fi (tn6 q q q q q q)) ?_
        obtain rfl:=sm h
        exact Px.go (tn6 q q q q q q)
      ·replace h:=cndF hb31 h
       refine W.sk<|Px.sq ?_
       obtain ⟨x37,hx37,h⟩:=bnd h
       obtain ⟨x38,hx38,h⟩:=bnd h
       obtain ⟨x39,hx39,h⟩:=bnd h
       refine W.rd [[],[],[],[],[2,3],[2,3,4],[2,3,4,5],[],[],[7,8],[7,8,9],[],rn 7 5 [],rn 7 6 [],rn 2 12 [],rn 0 15 [],rn 0 16 [],rn 0 17 []] [(1,_),(4,_),(5,_),(6,_),(8,_),(11,_)] mixo (by kernel_rfl) (Dv 0 (O.mv (.own q))<|Dv 1 (O.mv (.lit q))<|Dv 2 (O.mv (.own q))<|Dv 3 (O.mv (.lit q))<|Dv 4 (O.ixO (en:=eState_m) q (.brw q) (.lit q) sl64 hx37 q)<|Dv 5 (O.fE (en:=eState_m) q (.ptr q) fd135_1 hx37 q q)<|Dv 6 (O.ldE (en:=eState_m) (x':=.brw eMove.z ⟨4,[s2.2.toNat * eState_m.z+1]⟩ x37.Moves.length) q (.ptr q) ct133 hx37 q q)<|Dv 7 (O.mv (.imm q))<|Dv 8 (O.mv (.lit q))<|Dv 9 (O.ixI (.imm q) (.lit q) sl29 hx38)<|Dv 10 (O.ldI (x:=I64 x38) (.iptr q) ct3 q)<|Dv 11 (O.mv (.lit q))<|Dv 12 (O.bu (cs:=[I64 x38,I64 x30]) sc145 ze145 q q q)<|DL.vi 13 (x:=iR eMove [(⟨x38,x30⟩:Move)]) (O.bs (ys:=[.agg [I64 x38,I64 x30]]) eMove [(⟨x38,x30⟩:Move)] sl133 q q q q q q zt145 q q) q q q q .none<|Dv 14 (O.ap (en:=eMove) (r:=x39) (.brw q) (atP_el (r:=4) (path:=[]) (o:=1) (en:=eState_m) q hx37 q) (.imm q) .i ap133 q hx39)<|Dv 15 (O.ixO (en:=eState_m) q (.brw q) (.lit q) sl64 hx37 q)<|Dv 16 (O.fE (en:=eState_m) q (.ptr q) fd135_1 hx37 q q)<|DL.bp 17 (G2:=[(1,.obj (eGrammar_0.cells a0)),(4,oR eState_m (s19.1.set s2.2.toNat (⟨x37.Kernel,x37.Moves++[(⟨x38,x30⟩:Move)]⟩:State))),(5,iR eI x1),(6,I64 s2.2),(8,iR eI x10),(11,I64 s19.2)]) (EO.stEP (en:=eState_m) (en2:=eMove) (M:=[(⟨x38,x30⟩:Move)]) (y2:=(⟨x37.Kernel,x37.Moves++[(⟨x38,x30⟩:Move)]⟩:State)) (x2:=oR eState_m (s19.1.set s2.2.toNat (⟨x37.Kernel,x37.Moves++[(⟨x38,x30⟩:Move)]⟩:State))) (y0:=.own eState_m.z s19.1.length ((rowc eState_m s19.1).set (s2.2.toNat * eState_m.z+1) .dead)) q q (.ptr q) (.pend q) q q hx37 q q .ns .rf q q sz133 q q q q q q (.n q q (.b q (.n q q (.n q q (.n q q (.n q q .nil))))))) q q q q (by kernel_rfl) (by kernel_rfl)<|DL.fin q q q (tn6 q q q q q q)) ?_
       refine Px.bk ?_
       refine Px.sq<|W.rx [(1,_),(4,_),(5,_),(6,_),(8,_),(11,_)] (Vm q<|Rv (O.add (.lit q) (.k q))<|RunL.re (G1:=[(1,_),(4,_),(5,_),(6,_),(8,_),(55,_)]) (tn6 q q q q q q)<|Va q<|Fi (tn6 q q q q q q)) ?_
       obtain rfl:=sm h
       exact Px.go (tn6 q q q q q q)
    ·replace h:=cndF hb23 h
     refine W.xi ?_
     refine Px.sqE ?_
     obtain rfl:=sm h
     exact Px.x2 (tn4 q q q q)
   ·subst hx
    refine Px.bkH ?_
    refine Px.bk ?_
    refine Px.sq<|W.rx [(1,_),(4,_),(5,_),(6,_)] (Vm q<|Rv (O.add (.lit q) (.k q))<|RunL.re (G1:=[(1,_),(4,_),(5,_),(25,_)]) (tn4 q q q q)<|Va q<|Fi (tn4 q q q q)) ?_
    obtain rfl:=sm h
    exact Px.go (tn4 q q q q)
   ·subst hx
    refine Px.bkR ?_
    refine Px.bkR ?_
    refine Px.sqR ?_
    obtain rfl:=sm h
    exact Px.r2 (tn2 q q)
  ·replace h:=cndF hb6 h
   refine W.xi ?_
   refine Px.sqE ?_
   obtain rfl:=sm h
   exact Px.x2 (.n q .nil)
 ·subst hx
  refine Px.bkH ?_
  refine Px.sq<|W.sq' ?_
  refine W.rx [(2,_),(3,_)] (Rv (O.mv (.own q))<|RunL.ea (G2:=[]) q (EO.aR q q (.brw q) q .nil q q)<|Vk q<|Fi (tn2 q q)) ?_
  refine Px.sq<|W.fz (G1:=[(2,iR eState_0 x4),(3,_)]) [2] (.z q q .zz (.n q q .nil)) ?_
  refine W.rt ?_
  obtain rfl:=sm h
  exact Px.fin (Fin.ro (.f q q (.f q q .nil)) q (ode (by kernel_rfl)) (.no .nil) q (.inr q))
 ·subst hx
  refine Px.bkR ?_
  refine Px.sqR ?_
  obtain rfl:=sm h
  exact Px.fin (Fin.ro (.f q q (.f q q .nil)) q (ode (by kernel_rfl)) (.no .nil) q (.inr q))
theorem con52 (a0:Source) (r:Grammar × (List State) × Bool) (h:pf52 a0=some r):Con Try.prog 52 [.agg (eSource_0.cells a0)] [none] (.tup [.agg (eGrammar_0.cells r.1),iR eState_0 r.2.1,BB r.2.2]):=by
 unfold pf52 at h
 refine Con.go (N:=⟨26,[]⟩) Try.func52 q q q q (W.fin ?_)
 refine W.st [(0,.agg (eSource_0.cells a0))] ?_
 refine W.sq'<|W.rx [(1,_),(2,_)] (Rv (O.box (.aggF q q) q)<|Rv (O.al (cs:=[.nils,.nils,.nils,SS S0,SS S0]) ze44 q q)<|Rv (O.az .knil)<|Vk q<|Fi (tn2 q q)) ?_
 refine Px.sq<|W.sq' ?_
 obtain ⟨x1,hx1,h⟩:=bnd h
 refine W.rx [(2,_),(5,_),(6,_)] (Rv (O.ldON (cs':=[SS a0.Pro,iR eDecl_0 a0.Decls,iR eRule_0 a0.Rules,SS a0.Tail]) q (.obj q) at33 q q)<|Rc (PC.go (.cc (.aggF q q) .nil) (con68 a0 _ hx1) call68 q)<|Rv (O.mv (.tup q q))<|Rv (O.ex (y:=.agg (eGrammar_0.cells x1.1)) q q q)<|Rv (O.ex (y:=BB x1.2) q q q)<|Rv (O.al (cs:=[.nils,.nils,.nils,SS S0,SS S0]) ze44 q q)<|RunL.sO (G2:=[(2,_),(5,_),(13,_)]) (cs2:=[iR eTok x1.1.Toks,iR eNon x1.1.Nons,iR eProd_0 x1.1.Prods,SS x1.1.Pro,SS x1.1.Tail]) q (.obj q) (.aggF q q) q sz44 q q q q (.n q q (.b q (.n q q .nil)))<|Va q<|Fi (tn3 q q q)) ?_
 refine Px.sq<|W.sq' ?_
 refine W.sq'<|W.rx [(2,_),(5,_),(15,_)] (Vm q<|Rv (O.not (.lit q))<|Fi (tn3 q q q)) ?_
 refine Px.sq<|W.cnd q (fun hb2=>?_) (fun hb2=>?_)
 ·replace h:=cndT hb2 h
  refine W.sq'<|W.rx [(2,_),(3,_),(4,_)] (Rv (O.ldON (cs':=[iR eTok x1.1.Toks,iR eNon x1.1.Nons,iR eProd_0 x1.1.Prods,SS x1.1.Pro,SS x1.1.Tail]) q (.obj q) at44 q q)<|RunL.sO (G2:=[(2,_)]) (cs2:=[iR eTok x1.1.Toks,iR eNon x1.1.Nons,iR eProd_0 x1.1.Prods,SS x1.1.Pro,SS x1.1.Tail]) q (.obj q) (.aggF q q) q sz44 q q q q (.b q .nil)<|Rv (O.az .knil)<|Vk q<|Fi (tn3 q q q)) ?_
  refine Px.sq<|W.fz (G1:=[(2,_),(3,iR eState_0 ([]:List State)),(4,_)]) [3] (.n q q (.z q q .zz (.n q q .nil))) ?_
  refine W.rt ?_
  refine Px.sqR ?_
  obtain rfl:=sm h
  exact Px.fin (Fin.ro (.c (ys0:=[iR eTok x1.1.Toks,iR eNon x1.1.Nons,iR eProd_0 x1.1.Prods,SS x1.1.Pro,SS x1.1.Tail]) q at44 q q q (.f q (.f q (.f q (.f q (.f q .nil))))) (.f q q (.f q q .nil))) q (ode (by kernel_rfl)) (.no .nil) q (.inr q))
 ·replace h:=cndF hb2 h
  refine W.sk<|Px.sq ?_
  refine W.sq' ?_
  obtain ⟨x3,hx3,h⟩:=bnd h
  refine W.rx [(2,_),(5,_),(7,_),(8,_)] (Rv (O.ldON (cs':=[iR eTok x1.1.Toks,iR eNon x1.1.Nons,iR eProd_0 x1.1.Prods,SS x1.1.Pro,SS x1.1.Tail]) q (.obj q) at44 q q)<|Rc (PC.go (.cc (.aggF q q) .nil) (con69 x1.1 _ hx3) call69 q)<|Rv (O.mv (.tupF q q))<|Rv (O.ex (y:=iR eState_0 x3.1) q q q)<|Rv (O.ex (y:=I64 x3.2) q q q)<|Rv (O.az (.imm q))<|Va q<|Fi (tn4 q q q q)) ?_
  refine Px.sq<|W.sq' ?_
  refine W.rx [(2,_),(3,_),(4,_)] (Rv (O.ldON (cs':=[iR eTok x1.1.Toks,iR eNon x1.1.Nons,iR eProd_0 x1.1.Prods,SS x1.1.Pro,SS x1.1.Tail]) q (.obj q) at44 q q)<|Rv (O.mv (.imm q))<|Vm q<|Rv (O.eql (.lit q) (.k q))<|RunL.sO (G2:=[(2,_),(23,_),(25,_)]) (cs2:=[iR eTok x1.1.Toks,iR eNon x1.1.Nons,iR eProd_0 x1.1.Prods,SS x1.1.Pro,SS x1.1.Tail]) q (.obj q) (.aggF q q) q sz44 q q q q (.b q (.n q q (.n q q .nil)))<|Rv (O.az (.imm q))<|Va q<|Fi (tn3 q q q)) ?_
  refine Px.sq<|W.rt ?_
  obtain rfl:=sm h
  exact Px.fin (Fin.ro (.c (ys0:=[iR eTok x1.1.Toks,iR eNon x1.1.Nons,iR eProd_0 x1.1.Prods,SS x1.1.Pro,SS x1.1.Tail]) q at44 q q q (.f q (.f q (.f q (.f q (.f q .nil))))) (.f q q (.f q q .nil))) q (ode (by kernel_rfl)) (.no .nil) q (.inr q))
theorem con59 (a0:(List State)) (a1:Int) (a2:Int) (r:Int) (h:pf59 a0 a1 a2=some r):Con Try.prog 59 [iR eState_0 a0,I64 a1,I64 a2] [none,none,none] (I64 r):=by
 unfold pf59 at h
 refine Con.go (N:=⟨48,[]⟩) Try.func59 q q q q (W.fin ?_)
 refine W.st [(0,iR eState_0 a0),(1,I64 a1),(2,I64 a2)] ?_
 refine W.sq'<|W.rx [(0,_),(1,_),(2,_)] (Vk q<|Fi (tn3 q q q)) ?_
 refine Px.sq<|W.sq' ?_
 refine W.sq'<|W.rx [(0,_),(1,_),(2,_),(7,_)] (Vk q<|Fi (tn4 q q q q)) ?_
 refine Px.sq<|W.bk ?_
 obtain ⟨x2,hl,h⟩:=bnd h
 refine W.tr (G1:=[(0,_),(1,_),(2,_),(7,_)]) (tn4 q q q q) ?_
 refine W.lp2 (s:=0) (fun (s1:Int)=>[(0,iR eState_0 a0),(1,I64 a1),(2,I64 a2),(7,I64 s1)]) 0 (fun (x3:Unit)=>[]) (fun (x4:Int)=>[(6,I64 x4)]) hl (fun s1 o h=>?_) (fun x3 hx=>?_) (fun x4 hx=>?_)
 ·clear hl
  refine W.sq'<|W.sq' ?_
  obtain ⟨c8,hj,h⟩:=bnd h
  refine W.rx [(0,iR eState_0 a0),(1,I64 a1),(2,I64 a2),(7,I64 s1),(25,BB c8)] ?_ ?_
  ·refine Vm q<|Rv (O.geq (.lit q) (.k q))<|Rv (O.mv (.lit q)) ?_
   rcases cnd hj with ⟨hb5,hj⟩ | ⟨hb5,hj⟩
   ·refine RunL.v (O.mv (.lit q)) q q (.yb q q hb5)<|RunL.v (O.mv (.imm q)) q q (.yb q q hb5)<|RunL.v (O.lenI (.imm q) sl64) q q (.yb q q hb5)<|RunL.v (O.lss (.lit q) (.lit q)) q q (.yb q q hb5)<|Rv (O.pkT (.lit q) hb5 (.lit q))<|Rv (O.mv (.lit q)) ?_
    rcases cnd hj with ⟨hb6,hj⟩ | ⟨hb6,hj⟩
    ·refine RunL.v (O.mv (.lit q)) q q (.yb q q hb6)<|RunL.v (O.mv (.imm q)) q q (.yb q q hb6)<|RunL.v (O.mv (.lit q)) q q (.yb q q hb6) ?_
     obtain ⟨x7,hx7,hj⟩:=bnd hj
     obtain rfl:=sm hj
     exact RunL.v (O.ixI (.imm q) (.lit q) sl64 hx7) q q (.yb q q hb6)<|RunL.v (O.fI (.iptr q) fd135_1) q q (.yb q q hb6)<|RunL.v (O.ldI (x:=iR eMove x7.Moves) (.iptr q) ct133 q) q q (.yb q q hb6)<|RunL.v (O.lenI (.imm q) sl133) q q (.yb q q hb6)<|RunL.v (O.lss (.lit q) (.lit q)) q q (.yb q q hb6)<|Rv (O.pkT (.lit q) hb6 (.lit q))<|Fi (tn5 q q q q q)
    ·obtain rfl:=sm hj
     exact RunL.ps q q hb6 q q<|RunL.ps q q hb6 q q<|RunL.ps q q hb6 q q<|RunL.ps q q hb6 q q<|RunL.ps q q hb6 q q<|RunL.ps q q hb6 q q<|RunL.ps q q hb6 q q<|RunL.ps q q hb6 q q<|Rv (O.pkF (.lit q) hb6 (.k q))<|Fi (tn5 q q q q q)
   ·obtain rfl:=sm hj
    exact RunL.ps q q hb5 q q<|RunL.ps q q hb5 q q<|RunL.ps q q hb5 q q<|RunL.ps q q hb5 q q<|Rv (O.pkF (.lit q) hb5 (.k q))<|Vm q<|RunL.ps q q q q q<|RunL.ps q q q q q<|RunL.ps q q q q q<|RunL.ps q q q q q<|RunL.ps q q q q q<|RunL.ps q q q q q<|RunL.ps q q q q q<|RunL.ps q q q q q<|Rv (O.pkF (.lit q) q (.k q))<|Fi (tn5 q q q q q)
  refine Px.sq<|W.cnd q (fun hb9=>?_) (fun hb9=>?_)
  ·replace h:=cndT hb9 h
   refine W.sk<|Px.sq ?_
   refine W.sq'<|W.bk ?_
   refine W.sq' ?_
   obtain ⟨x10,hx10,h⟩:=bnd h
   obtain ⟨x11,hx11,h⟩:=bnd h
   refine W.rx [(0,_),(1,_),(2,_),(7,_),(38,_)] (Rv (O.mv (.imm q))<|Vm q<|Rv (O.ixI (.imm q) (.lit q) sl64 hx10)<|Rv (O.fI (.iptr q) fd135_1)<|Rv (O.ldI (x:=iR eMove x10.Moves) (.iptr q) ct133 q)<|Vm q<|Rv (O.ixI (.imm q) (.lit q) sl133 hx11)<|Rv (O.fI (.iptr q) fd145_0)<|Rv (O.ldI (x:=I64 x11.Sym) (.iptr q) ct3 q)<|Vm q<|Rv (O.eql (.lit q) (.lit q))<|Fi (tn5 q q q q q)) ?_
   refine Px.sq<|W.cnd q (fun hb12=>?_) (fun hb12=>?_)
   ·replace h:=cndT hb12 h
    refine W.sq' ?_
    obtain ⟨x13,hx13,h⟩:=bnd h
    obtain ⟨x14,hx14,h⟩:=bnd h
    refine W.rx [(6,_)] (Rv (O.mv (.imm q))<|Vm q<|Rv (O.ixI (.imm q) (.lit q) sl64 hx13)<|Rv (O.fI (.iptr q) fd135_1)<|Rv (O.ldI (x:=iR eMove x13.Moves) (.iptr q) ct133 q)<|Vm q<|Rv (O.ixI (.imm q) (.lit q) sl133 hx14)<|Rv (O.fI (.iptr q) fd145_1)<|Rv (O.ldI (x:=I64 x14.To) (.iptr q) ct3 q)<|Va q<|Fi (.n q .nil)) ?_
    refine Px.sq<|W.rt ?_
    refine Px.bkR ?_
    refine Px.sqR ?_
    obtain rfl:=sm h
    exact Px.r2 (.n q .nil)
   ·replace h:=cndF hb12 h
    refine W.sk<|Px.bk ?_
    refine Px.sq<|W.rx [(0,_),(1,_),(2,_),(7,_)] (Vm q<|Rv (O.add (.lit q) (.k q))<|RunL.re (G1:=[(0,_),(1,_),(2,_),(27,_)]) (tn4 q q q q)<|Va q<|Fi (tn4 q q q q)) ?_
    obtain rfl:=sm h
    exact Px.go (tn4 q q q q)
  ·replace h:=cndF hb9 h
   refine W.xi ?_
   refine Px.sqE ?_
   obtain rfl:=sm h
   exact Px.x2 .nil
 ·subst hx
  refine Px.bkH ?_
  refine Px.sq<|W.sq' ?_
  refine W.rx [(6,_)] (Vk q<|Fi (.n q .nil)) ?_
  refine Px.sq<|W.rt ?_
  obtain rfl:=sm h
  exact Px.fin (Fin.ro (.f q q .nil) q (ode (by kernel_rfl)) (.no (.no (.no .nil))) q (.inr q))
 ·subst hx
  refine Px.bkR ?_
  refine Px.sqR ?_
  obtain rfl:=sm h
  exact Px.fin (Fin.ro (.f q q .nil) q (ode (by kernel_rfl)) (.no (.no (.no .nil))) q (.inr q))
theorem con66 (a0:Cell) (r:Int) (h:pf66 a0=some r):Con Try.prog 66 [.agg (eCell_0.cells a0)] [none] (I64 r):=by
 unfold pf66 at h
 refine Con.go (N:=⟨17,[]⟩) Try.func66 q q q q (W.fin ?_)
 refine W.st [(0,.agg (eCell_0.cells a0))] ?_
 refine W.sq'<|W.rx [(1,_)] (Rv (O.box (.aggF q q) q)<|Vk q<|Fi (.n q .nil)) ?_
 refine Px.sq<|W.sq' ?_
 refine W.rx [(1,_),(3,_)] (Rv (O.fO q (.obj q) fd76_4 q)<|Rv (O.ldO (y:=iR eI a0.Prods) q (.ptr q) ct29 q q)<|Rv (O.lenI (.imm q) sl29)<|Va q<|Fi (tn2 q q)) ?_
 refine Px.sq<|W.sq' ?_
 refine W.sq'<|W.rx [(1,_),(3,_),(9,_)] (Rv (O.fO q (.obj q) fd76_2 q)<|Rv (O.ldO (y:=I64 a0.Shift) q (.ptr q) ct3 q q)<|Rv (O.geq (.lit q) (.k q))<|Fi (tn3 q q q)) ?_
 refine Px.sq ?_
 obtain ⟨j1,hj,h⟩:=bnd h
 refine W.jn [(1,.obj (eCell_0.cells a0)),(3,I64 j1)] ?_ ?_
 ·clear h; have h:=hj; clear hj
  refine W.cnd q (fun hb2=>?_) (fun hb2=>?_)
  ·replace h:=cndT hb2 h
   refine W.rx [(1,_),(3,_)] (Vm q<|Rv (O.add (.lit q) (.k q))<|RunL.re (G1:=[(1,_),(11,_)]) (tn2 q q)<|Va q<|Fi (tn2 q q)) ?_
   obtain rfl:=sm h
   exact Px.jn (tn2 q q)
  ·replace h:=cndF hb2 h
   refine W.sk ?_
   obtain rfl:=sm h
   exact Px.jn (tn2 q q)
 refine Px.sq<|W.sq' ?_
 refine W.sq'<|W.rx [(3,_),(13,_)] (Rv (O.fO q (.obj q) fd76_3 q)<|Rv (O.ldO (y:=BB a0.Accept) q (.ptr q) ct4 q q)<|Fi (tn2 q q)) ?_
 refine Px.sq ?_
 obtain ⟨j3,hj,h⟩:=bnd h
 refine W.jn [(3,I64 j3)] ?_ ?_
 ·clear h; have h:=hj; clear hj
  refine W.cnd q (fun hb4=>?_) (fun hb4=>?_)
  ·replace h:=cndT hb4 h
   refine W.rx [(3,_)] (Vm q<|Rv (O.add (.lit q) (.k q))<|RunL.re (G1:=[(15,_)]) (.n q .nil)<|Va q<|Fi (.n q .nil)) ?_
   obtain rfl:=sm h
   exact Px.jn (.n q .nil)
  ·replace h:=cndF hb4 h
   refine W.sk ?_
   obtain rfl:=sm h
   exact Px.jn (.n q .nil)
 refine Px.sq<|W.sq' ?_
 refine W.rx [(2,_)] (Vm q<|Va q<|Fi (.n q .nil)) ?_
 refine Px.sq<|W.rt ?_
 obtain rfl:=sm h
 exact Px.fin (Fin.ro (.f q q .nil) q (ode (by kernel_rfl)) (.no .nil) q (.inr q))
theorem con53 (a0:Grammar) (a1:(List State)) (a2:(List Look)) (r:(List Cell)) (h:pf53 a0 a1 a2=some r):Con Try.prog 53 [.agg (eGrammar_0.cells a0),iR eState_0 a1,iR eLook_0 a2] [none,none,none] (iR eCell_0 r):=by
 unfold pf53 at h
 refine Con.go (N:=⟨108,[]⟩) Try.func53 q q q q (W.fin ?_)
 refine W.st [(0,.agg (eGrammar_0.cells a0)),(1,iR eState_0 a1),(2,iR eLook_0 a2)] ?_
 refine W.sq'<|W.rx [(1,_),(2,_),(3,_)] (Rv (O.box (.aggF q q) q)<|Rv (O.az .knil)<|Fi (tn3 q q q)) ?_
 refine Px.sq<|W.sq' ?_
 refine W.rx [(1,_),(2,_),(3,_),(7,_)] (Rv (O.az .knil)<|Fi (tn4 q q q q)) ?_
 refine Px.sq<|W.sq' ?_
 refine W.sq'<|W.rx [(1,_),(2,_),(3,_),(7,_),(8,_)] (Vk q<|Fi (tn5 q q q q q)) ?_
 refine Px.sq<|W.bk ?_
 obtain ⟨x2,hl,h⟩:=bnd h
 refine W.tr (G1:=[(1,_),(2,_),(3,_),(7,oR eCell_0 ([]:List Cell)),(8,_)]) (.n q (.n q (.n q (.w q q .nilOwn (.n q .nil))))) ?_
 refine W.lp1 (s:=(([]:List Cell),0)) (fun (s1:List Cell × Int)=>[(1,iR eState_0 a1),(2,iR eLook_0 a2),(3,.obj (eGrammar_0.cells a0)),(7,oR eCell_0 s1.1),(8,I64 s1.2)]) 0 (fun (x2:List Cell)=>[(7,oR eCell_0 x2)]) hl (fun s1 o h=>?_) ?_
 ·clear hl
  refine W.sq'<|W.sq' ?_
  refine W.rx [(1,_),(2,_),(3,_),(7,_),(8,_),(17,_)] (Vm q<|Rv (O.mv (.imm q))<|Rv (O.lenI (.imm q) sl64)<|Rv (O.lss (.lit q) (.lit q))<|Fi (tn6 q q q q q q)) ?_
  refine Px.sq<|W.cnd q (fun hb4=>?_) (fun hb4=>?_)
  ·replace h:=cndT hb4 h
   refine W.sk<|Px.sq ?_
   refine W.sq'<|W.bk ?_
   refine W.sq'<|W.rx [(1,_),(2,_),(3,_),(7,_),(8,_),(9,_)] (Vk q<|Fi (tn6 q q q q q q)) ?_
   refine Px.sq<|W.bk ?_
   obtain ⟨x6,hl,h⟩:=bnd h
   refine W.tr (G1:=[(1,_),(2,_),(3,_),(7,_),(8,_),(9,_)]) (tn6 q q q q q q) ?_
   refine W.lp1 (s:=(s1.1,0)) (fun (s5:List Cell × Int)=>[(1,iR eState_0 a1),(2,iR eLook_0 a2),(3,.obj (eGrammar_0.cells a0)),(7,oR eCell_0 s5.1),(8,I64 s1.2),(9,I64 s5.2)]) 2 (fun (x6:List Cell)=>[(1,iR eState_0 a1),(2,iR eLook_0 a2),(3,.obj (eGrammar_0.cells a0)),(7,oR eCell_0 x6),(8,I64 s1.2)]) hl (fun s5 o h=>?_) ?_
   ·clear hl
    refine W.sq'<|W.sq' ?_
    refine W.rx [(1,_),(2,_),(3,_),(7,_),(8,_),(9,_),(24,_)] (Vm q<|Rv (O.fO q (.obj q) fd44_0 q)<|Rv (O.ldO (y:=iR eTok a0.Toks) q (.ptr q) ct40 q q)<|Rv (O.lenI (.imm q) sl40)<|Rv (O.lss (.lit q) (.lit q))<|Fi (tn7 q q q q q q q)) ?_
    refine Px.sq<|W.cnd q (fun hb8=>?_) (fun hb8=>?_)
    ·replace h:=cndT hb8 h
     refine W.sk<|Px.sq ?_
     refine W.sq' ?_
     obtain ⟨j9,hj,h⟩:=bnd h
     refine W.jn [(1,iR eState_0 a1),(2,iR eLook_0 a2),(3,.obj (eGrammar_0.cells a0)),(7,oR eCell_0 j9),(8,I64 s1.2),(9,I64 s5.2)] ?_ ?_
     ·clear h; have h:=hj; clear hj
      refine W.bk<|W.sq' ?_
      obtain ⟨x10,hx10,h⟩:=bnd h
      refine W.rx [(1,_),(2,_),(3,_),(7,_),(8,_),(9,_),(10,_)] (Vm q<|Vm q<|Rv (O.mv (.imm q))<|Vm q<|Vm q<|Rc (PC.go (.cc (.imm q) (.cc (.lit q) (.cc (.lit q) .nil))) (con59 a1 s1.2 s5.2 _ hx10) call59 q)<|Rv (O.bu (cs:=[I64 s1.2,I64 s5.2,I64 x10,BB false,.nils]) sc76 ze76 q q q)<|Rv (O.al (cs:=[I64 0,I64 0,I64 0,BB false,.nils]) ze76 q q)<|RunL.sO (G2:=[(1,_),(2,_),(3,_),(7,_),(8,_),(9,_),(10,_)]) (cs2:=[I64 s1.2,I64 s5.2,I64 x10,BB false,.nils]) q (.obj q) (.aggF q q) q sz76 q q q q (.n q q (.n q q (.n q q (.n q q (.n q q (.n q q (.b q .nil)))))))<|Fi (tn7 q q q q q q q)) ?_
      refine Px.sq<|W.sq' ?_
      refine W.sq'<|W.rx [(1,_),(2,_),(3,_),(7,_),(8,_),(9,_),(10,_),(11,_)] (Vk q<|Fi (tn8 q q q q q q q q)) ?_
      refine Px.sq<|W.bk ?_
      obtain ⟨x12,hl,h⟩:=bnd h
      refine W.tr (G1:=[(1,_),(2,_),(3,_),(7,_),(8,_),(9,_),(10,_),(11,_)]) (tn8 q q q q q q q q) ?_
      refine W.lp1 (s:=(false,0)) (fun (s11:Bool × Int)=>[(1,iR eState_0 a1),(2,iR eLook_0 a2),(3,.obj (eGrammar_0.cells a0)),(7,oR eCell_0 s5.1),(8,I64 s1.2),(9,I64 s5.2),(10,.obj [I64 s1.2,I64 s5.2,I64 x10,BB s11.1,.nils]),(11,I64 s11.2)]) 4 (fun (x12:Bool)=>[(1,iR eState_0 a1),(2,iR eLook_0 a2),(3,.obj (eGrammar_0.cells a0)),(7,oR eCell_0 s5.1),(8,I64 s1.2),(9,I64 s5.2),(10,.obj [I64 s1.2,I64 s5.2,I64 x10,BB x12,.nils])]) hl (fun s11 o h=>?_) ?_
      ·clear hl
       refine W.sq'<|W.sq' ?_
       obtain ⟨x14,hx14,h⟩:=bnd h
       refine W.rx [(1,_),(2,_),(3,_),(7,_),(8,_),(9,_),(10,_),(11,_),(41,_)] (Vm q<|Rv (O.mv (.imm q))<|Vm q<|Rv (O.ixI (.imm q) (.lit q) sl64 hx14)<|Rv (O.fI (.iptr q) fd135_0)<|Rv (O.ldI (x:=iR eItem x14.Kernel) (.iptr q) ct132 q)<|Rv (O.lenI (.imm q) sl132)<|Rv (O.lss (.lit q) (.lit q))<|Fi (tn9 q q q q q q q q q)) ?_
       refine Px.sq<|W.cnd q (fun hb15=>?_) (fun hb15=>?_)
       ·replace h:=cndT hb15 h
        refine W.sk<|Px.sq ?_
        refine W.sq'<|W.bk ?_
        refine W.sq' ?_
        obtain ⟨x16,hx16,h⟩:=bnd h
        obtain ⟨x17,hx17,h⟩:=bnd h
        refine W.rx [(1,_),(2,_),(3,_),(7,_),(8,_),(9,_),(10,_),(11,_),(12,_)] (Rv (O.mv (.imm q))<|Vm q<|Rv (O.ixI (.imm q) (.lit q) sl64 hx16)<|Rv (O.fI (.iptr q) fd135_0)<|Rv (O.ldI (x:=iR eItem x16.Kernel) (.iptr q) ct132 q)<|Vm q<|Rv (O.ixI (.imm q) (.lit q) sl132 hx17)<|Rv (O.ldIN (cs':=[I64 x17.Prod,I64 x17.Dot]) (.iptr q) at137 q q)<|Rv (O.al (cs:=[I64 0,I64 0]) ze137 q q)<|RunL.sO (G2:=[(1,_),(2,_),(3,_),(7,_),(8,_),(9,_),(10,_),(11,_),(12,_)]) (cs2:=[I64 x17.Prod,I64 x17.Dot]) q (.obj q) (.aggF q q) q sz137 q q q q (.n q q (.n q q (.n q q (.n q q (.n q q (.n q q (.n q q (.n q q (.b q .nil)))))))))<|Fi (tn9 q q q q q q q q q)) ?_
        refine Px.sq ?_
        obtain ⟨c21,hj,h⟩:=bnd h
        refine W.rx [(1,iR eState_0 a1),(2,iR eLook_0 a2),(3,.obj (eGrammar_0.cells a0)),(7,oR eCell_0 s5.1),(8,I64 s1.2),(9,I64 s5.2),(10,.obj [I64 s1.2,I64 s5.2,I64 x10,BB c21,.nils]),(11,I64 s11.2)] ?_ ?_
        ·refine Rv (O.fO q (.obj q) fd76_3 q)<|Rv (O.ldO (y:=BB s11.1) q (.ptr q) ct4 q q)<|Rv (O.mv (.lit q)) ?_
         rcases cnd hj with ⟨hb18,hj⟩ | ⟨hb18,hj⟩
         ·obtain rfl:=sm hj
          exact RunL.ps q q hb18 q q<|RunL.ps q q hb18 q q<|RunL.ps q q hb18 q q<|RunL.pu q q q q<|RunL.pu q q q q<|RunL.pu q q q q<|RunL.ps q q hb18 q q<|RunL.ps q q hb18 q q<|RunL.pu q q q q<|RunL.pu q q q q<|RunL.pu q q q q<|RunL.ps q q hb18 q q<|Rv (O.pkT (.lit q) hb18 (.k q))<|Rv (O.fO q (.obj q) fd76_3 q)<|RunL.sO (G2:=[(1,_),(2,_),(3,_),(7,_),(8,_),(9,_),(10,_),(11,_)]) (cs2:=[I64 s1.2,I64 s5.2,I64 x10,BB true,.nils]) q (.ptr q) (.lit q) q sz4 q q q q (.n q q (.n q q (.n q q (.n q q (.n q q (.n q q (.b q (.n q q .nil))))))))<|Fi (tn8 q q q q q q q q)
         ·refine RunL.v (O.mv (.lit q)) q q (.yb q q hb18)<|RunL.v (O.eql (.lit q) (.k q)) q q (.yb q q hb18)<|RunL.v (O.mv (.lit q)) q q (.yb q q hb18) ?_
          rcases cnd hj with ⟨hb19,hj⟩ | ⟨hb19,hj⟩
          ·refine RunL.v (O.fO q (.obj q) fd137_0 q) q q (.yb q q hb19)<|RunL.v (O.ldO (y:=I64 x17.Prod) q (.ptr q) ct3 q q) q q (.yb q q hb19)<|RunL.v (O.eql (.lit q) (.k q)) q q (.yb q q hb19)<|RunL.v (O.pkT (.lit q) hb19 (.lit q)) q q (.yb q q hb18)<|RunL.v (O.mv (.lit q)) q q (.yb q q hb18) ?_
           rcases cnd hj with ⟨hb20,hj⟩ | ⟨hb20,hj⟩
           ·obtain rfl:=sm hj
            exact RunL.v (O.fO q (.obj q) fd137_1 q) q q (.yb q q hb20)<|RunL.v (O.ldO (y:=I64 x17.Dot) q (.ptr q) ct3 q q) q q (.yb q q hb20)<|RunL.v (O.eql (.lit q) (.k q)) q q (.yb q q hb20)<|RunL.v (O.pkT (.lit q) hb20 (.lit q)) q q (.yb q q hb18)<|Rv (O.pkF (.lit q) hb18 (.lit q))<|Rv (O.fO q (.obj q) fd76_3 q)<|RunL.sO (G2:=[(1,_),(2,_),(3,_),(7,_),(8,_),(9,_),(10,_),(11,_)]) (cs2:=[I64 s1.2,I64 s5.2,I64 x10,BB (decide (x17.Dot=1)),.nils]) q (.ptr q) (.lit q) q sz4 q q q q (.n q q (.n q q (.n q q (.n q q (.n q q (.n q q (.b q (.n q q .nil))))))))<|Fi (tn8 q q q q q q q q)
           ·obtain rfl:=sm hj
            exact RunL.ps q q hb20 q q<|RunL.ps q q hb20 q q<|RunL.ps q q hb20 q q<|RunL.v (O.pkF (.lit q) hb20 (.k q)) q q (.yb q q hb18)<|Rv (O.pkF (.lit q) hb18 (.lit q))<|Rv (O.fO q (.obj q) fd76_3 q)<|RunL.sO (G2:=[(1,_),(2,_),(3,_),(7,_),(8,_),(9,_),(10,_),(11,_)]) (cs2:=[I64 s1.2,I64 s5.2,I64 x10,BB false,.nils]) q (.ptr q) (.lit q) q sz4 q q q q (.n q q (.n q q (.n q q (.n q q (.n q q (.n q q (.b q (.n q q .nil))))))))<|Fi (tn8 q q q q q q q q)
          ·obtain rfl:=sm hj
           exact RunL.ps q q hb19 q q<|RunL.ps q q hb19 q q<|RunL.ps q q hb19 q q<|RunL.v (O.pkF (.lit q) hb19 (.k q)) q q (.yb q q hb18)<|RunL.v (O.mv (.lit q)) q q (.yb q q hb18)<|RunL.ps q q q q q<|RunL.ps q q q q q<|RunL.ps q q q q q<|RunL.v (O.pkF (.lit q) q (.k q)) q q (.yb q q hb18)<|Rv (O.pkF (.lit q) hb18 (.lit q))<|Rv (O.fO q (.obj q) fd76_3 q)<|RunL.sO (G2:=[(1,_),(2,_),(3,_),(7,_),(8,_),(9,_),(10,_),(11,_)]) (cs2:=[I64 s1.2,I64 s5.2,I64 x10,BB false,.nils]) q (.ptr q) (.lit q) q sz4 q q q q (.n q q (.n q q (.n q q (.n q q (.n q q (.n q q (.b q (.n q q .nil))))))))<|Fi (tn8 q q q q q q q q)
        refine Px.bk ?_
        refine Px.sq<|W.rx [(1,_),(2,_),(3,_),(7,_),(8,_),(9,_),(10,_),(11,_)] (Vm q<|Rv (O.add (.lit q) (.k q))<|RunL.re (G1:=[(1,_),(2,_),(3,_),(7,_),(8,_),(9,_),(10,_),(43,_)]) (tn8 q q q q q q q q)<|Va q<|Fi (tn8 q q q q q q q q)) ?_
        obtain rfl:=sm h
        exact Px.go (tn8 q q q q q q q q)
       ·replace h:=cndF hb15 h
        refine W.xi ?_
        refine Px.sqE ?_
        obtain rfl:=sm h
        exact Px.x1 (tn7 q q q q q q q)
      refine Px.bkH ?_
      refine Px.sq<|W.sq' ?_
      refine W.sq'<|W.rx [(1,_),(2,_),(3,_),(7,_),(8,_),(9,_),(10,_),(13,_)] (Vk q<|Fi (tn8 q q q q q q q q)) ?_
      refine Px.sq<|W.bk ?_
      obtain ⟨x23,hl,h⟩:=bnd h
      refine W.tr (G1:=[(1,_),(2,_),(3,_),(7,_),(8,_),(9,_),(10,.obj [I64 s1.2,I64 s5.2,I64 x10,BB x12,iR eI ([]:List Int)]),(13,_)]) (.n q (.n q (.n q (.n q (.n q (.n q (.w q q (WkL.obj (.f (.f (.f (.f (.i .nil)))))) (.n q .nil)))))))) ?_
      refine W.lp1 (s:=(([]:List Int),0)) (fun (s22:List Int × Int)=>[(1,iR eState_0 a1),(2,iR eLook_0 a2),(3,.obj (eGrammar_0.cells a0)),(7,oR eCell_0 s5.1),(8,I64 s1.2),(9,I64 s5.2),(10,.obj [I64 s1.2,I64 s5.2,I64 x10,BB x12,iR eI s22.1]),(13,I64 s22.2)]) 6 (fun (x23:List Int)=>[(1,iR eState_0 a1),(2,iR eLook_0 a2),(3,.obj (eGrammar_0.cells a0)),(7,oR eCell_0 s5.1),(8,I64 s1.2),(9,I64 s5.2),(10,.obj [I64 s1.2,I64 s5.2,I64 x10,BB x12,iR eI x23])]) hl (fun s22 o h=>?_) ?_
      ·clear hl
       refine W.sq'<|W.sq' ?_
       refine W.rx [(1,_),(2,_),(3,_),(7,_),(8,_),(9,_),(10,_),(13,_),(72,_)] (Vm q<|Rv (O.mv (.imm q))<|Rv (O.lenI (.imm q) sl112)<|Rv (O.lss (.lit q) (.lit q))<|Fi (tn9 q q q q q q q q q)) ?_
       refine Px.sq<|W.cnd q (fun hb25=>?_) (fun hb25=>?_)
       ·replace h:=cndT hb25 h
        refine W.sk<|Px.sq ?_
        refine W.sq' ?_
        obtain ⟨j26,hj,h⟩:=bnd h
        refine W.jn [(1,iR eState_0 a1),(2,iR eLook_0 a2),(3,.obj (eGrammar_0.cells a0)),(7,oR eCell_0 s5.1),(8,I64 s1.2),(9,I64 s5.2),(10,.obj [I64 s1.2,I64 s5.2,I64 x10,BB x12,iR eI j26]),(13,I64 s22.2)] ?_ ?_
        ·clear h; have h:=hj; clear hj
         refine W.bk<|W.sq' ?_
         obtain ⟨c31,hj,h⟩:=bnd h
         refine W.rx [(1,iR eState_0 a1),(2,iR eLook_0 a2),(3,.obj (eGrammar_0.cells a0)),(7,oR eCell_0 s5.1),(8,I64 s1.2),(9,I64 s5.2),(10,.obj [I64 s1.2,I64 s5.2,I64 x10,BB x12,iR eI s22.1]),(13,I64 s22.2),(90,BB c31)] ?_ ?_
         ·refine Rv (O.mv (.imm q))<|Rv (O.mv (.lit q)) ?_
          obtain ⟨x27,hx27,hj⟩:=bnd hj
          refine Rv (O.ixI (.imm q) (.lit q) sl112 hx27)<|Rv (O.fI (.iptr q) fd139_0)<|Rv (O.ldI (x:=I64 x27.State) (.iptr q) ct3 q)<|Vm q<|Rv (O.eql (.lit q) (.lit q))<|Rv (O.mv (.lit q)) ?_
          rcases cnd hj with ⟨hb28,hj⟩ | ⟨hb28,hj⟩
          ·refine RunL.v (O.mv (.imm q)) q q (.yb q q hb28)<|RunL.v (O.mv (.lit q)) q q (.yb q q hb28) ?_
           obtain ⟨x29,hx29,hj⟩:=bnd hj
           refine RunL.v (O.ixI (.imm q) (.lit q) sl112 hx29) q q (.yb q q hb28)<|RunL.v (O.fI (.iptr q) fd139_2) q q (.yb q q hb28)<|RunL.v (O.ldI (x:=iR eI x29.Toks) (.iptr q) ct29 q) q q (.yb q q hb28)<|RunL.v (O.mv (.lit q)) q q (.yb q q hb28) ?_
           obtain ⟨x30,hx30,hj⟩:=bnd hj
           obtain rfl:=sm hj
           exact RunL.c (PC.go (.cc (.imm q) (.cc (.lit q) .nil)) (con70 x29.Toks s5.2 _ hx30) call70 q) q q (.yb q q hb28)<|Rv (O.pkT (.lit q) hb28 (.lit q))<|Fi (tn9 q q q q q q q q q)
          ·obtain rfl:=sm hj
           exact RunL.ps q q hb28 q q<|RunL.ps q q hb28 q q<|RunL.ps q q hb28 q q<|RunL.ps q q hb28 q q<|RunL.ps q q hb28 q q<|RunL.ps q q hb28 q q<|RunL.ps q q hb28 q q<|Rv (O.pkF (.lit q) hb28 (.k q))<|Fi (tn9 q q q q q q q q q)
         refine Px.sq ?_
         obtain ⟨j32,hj,h⟩:=bnd h
         refine W.jn [(1,iR eState_0 a1),(2,iR eLook_0 a2),(3,.obj (eGrammar_0.cells a0)),(7,oR eCell_0 s5.1),(8,I64 s1.2),(9,I64 s5.2),(10,.obj [I64 s1.2,I64 s5.2,I64 x10,BB x12,iR eI j32]),(13,I64 s22.2)] ?_ ?_
         ·clear h; have h:=hj; clear hj
          refine W.cnd q (fun hb33=>?_) (fun hb33=>?_)
          ·replace h:=cndT hb33 h
           obtain ⟨x34,hx34,h⟩:=bnd h
           obtain ⟨x35,hx35,h⟩:=bnd h
           refine W.rd [[],[0],[],[],[2,3],[2,3,4],[2,3,4,5],rn 0 7 [],rn 0 8 [],rn 0 9 []] [(1,_),(2,_),(3,_),(7,_),(8,_),(9,_),(10,_),(13,_)] mixo (by kernel_rfl) (Dv 0 (O.fO q (.obj q) fd76_4 q)<|Dv 1 (O.ldO (y:=iR eI s22.1) q (.ptr q) ct29 q q)<|Dv 2 (O.mv (.imm q))<|Dv 3 (O.mv (.lit q))<|Dv 4 (O.ixI (.imm q) (.lit q) sl112 hx34)<|Dv 5 (O.fI (.iptr q) fd139_1)<|Dv 6 (O.ldI (x:=I64 x34.Prod) (.iptr q) ct3 q)<|Dc 7 (PC.go (.cc (.imm q) (.cc (.lit q) .nil)) (con67 s22.1 x34.Prod _ hx35) call67 q)<|Dv 8 (O.fO q (.obj q) fd76_4 q)<|DL.sO 9 (G2:=[(1,iR eState_0 a1),(2,iR eLook_0 a2),(3,.obj (eGrammar_0.cells a0)),(7,oR eCell_0 s5.1),(8,I64 s1.2),(9,I64 s5.2),(10,.obj [I64 s1.2,I64 s5.2,I64 x10,BB x12,iR eI x35]),(13,I64 s22.2)]) (cs2:=[I64 s1.2,I64 s5.2,I64 x10,BB x12,iR eI x35]) q (by kernel_rfl) (by kernel_rfl) q q q (.ptr q) (.imm q) q sz29 q q q q (.n q q (.n q q (.n q q (.n q q (.n q q (.n q q (.b q (.n q q .nil))))))))<|DL.fin q q q (tn8 q q q q q q q q)) ?_
           obtain rfl:=sm h
           exact Px.jn (tn8 q q q q q q q q)
          ·replace h:=cndF hb33 h
           refine W.sk ?_
           obtain rfl:=sm h
           exact Px.jn (tn8 q q q q q q q q)
         refine Px.bk ?_
         obtain rfl:=sm h
         exact Px.jn (tn8 q q q q q q q q)
        refine Px.sq<|W.rx [(1,_),(2,_),(3,_),(7,_),(8,_),(9,_),(10,_),(13,_)] (Vm q<|Rv (O.add (.lit q) (.k q))<|RunL.re (G1:=[(1,_),(2,_),(3,_),(7,_),(8,_),(9,_),(10,_),(74,_)]) (tn8 q q q q q q q q)<|Va q<|Fi (tn8 q q q q q q q q)) ?_
        obtain rfl:=sm h
        exact Px.go (tn8 q q q q q q q q)
       ·replace h:=cndF hb25 h
        refine W.xi ?_
        refine Px.sqE ?_
        obtain rfl:=sm h
        exact Px.x1 (tn7 q q q q q q q)
      refine Px.bkH ?_
      refine Px.sq<|W.sq' ?_
      obtain ⟨x36,hx36,h⟩:=bnd h
      refine W.rx [(1,_),(2,_),(3,_),(7,_),(8,_),(9,_),(10,_),(102,_)] (Rv (O.ldON (cs':=[I64 s1.2,I64 s5.2,I64 x10,BB x12,iR eI x23]) q (.obj q) at76 q q)<|Rc (PC.go (.cc (.aggF q q) .nil) (con66 (⟨s1.2,s5.2,x10,x12,x23⟩:Cell) _ hx36) call66 q)<|Rv (O.gtr (.lit q) (.k q))<|Fi (tn8 q q q q q q q q)) ?_
      refine Px.sq ?_
      obtain ⟨j37,hj,h⟩:=bnd h
      refine W.jn [(1,iR eState_0 a1),(2,iR eLook_0 a2),(3,.obj (eGrammar_0.cells a0)),(7,oR eCell_0 j37),(8,I64 s1.2),(9,I64 s5.2)] ?_ ?_
      ·clear h; have h:=hj; clear hj
       refine W.cnd q (fun hb38=>?_) (fun hb38=>?_)
       ·replace h:=cndT hb38 h
        obtain ⟨x39,hx39,h⟩:=bnd h
        refine W.rx [(1,_),(2,_),(3,_),(7,_),(8,_),(9,_)] (Rv (O.mv (.own q))<|Rv (O.ldON (cs':=[I64 s1.2,I64 s5.2,I64 x10,BB x12,iR eI x23]) q (.obj q) at76 q q)<|RunL.vi (x:=iR eCell_0 [(⟨s1.2,s5.2,x10,x12,x23⟩:Cell)]) (O.bs (ys:=[.agg [I64 s1.2,I64 s5.2,I64 x10,BB x12,iR eI x23]]) eCell_0 [(⟨s1.2,s5.2,x10,x12,x23⟩:Cell)] sl65 q q q q q q zt76 q q) q q .none<|Rv (O.ap (en:=eCell_0) (r:=x39) (.brw q) q (.imm q) .i ap65 q hx39)<|RunL.ea (G2:=[(1,iR eState_0 a1),(2,iR eLook_0 a2),(3,.obj (eGrammar_0.cells a0)),(8,I64 s1.2),(9,I64 s5.2)]) q (EO.aP q q (.pend q) q q q (.n q q (.n q q (.n q q (.n q q (.n q q .nil))))) q q)<|Fi (tn6 q q q q q q)) ?_
        obtain rfl:=sm h
        exact Px.jn (tn6 q q q q q q)
       ·replace h:=cndF hb38 h
        refine W.sk ?_
        obtain rfl:=sm h
        exact Px.jn (tn6 q q q q q q)
      refine Px.bk ?_
      obtain rfl:=sm h
      exact Px.jn (tn6 q q q q q q)
     refine Px.sq<|W.rx [(1,_),(2,_),(3,_),(7,_),(8,_),(9,_)] (Vm q<|Rv (O.add (.lit q) (.k q))<|RunL.re (G1:=[(1,_),(2,_),(3,_),(7,_),(8,_),(26,_)]) (tn6 q q q q q q)<|Va q<|Fi (tn6 q q q q q q)) ?_
     obtain rfl:=sm h
     exact Px.go (tn6 q q q q q q)
    ·replace h:=cndF hb8 h
     refine W.xi ?_
     refine Px.sqE ?_
     obtain rfl:=sm h
     exact Px.x1 (tn5 q q q q q)
   refine Px.bkH ?_
   refine Px.bk ?_
   refine Px.sq<|W.rx [(1,_),(2,_),(3,_),(7,_),(8,_)] (Vm q<|Rv (O.add (.lit q) (.k q))<|RunL.re (G1:=[(1,_),(2,_),(3,_),(7,_),(19,_)]) (tn5 q q q q q)<|Va q<|Fi (tn5 q q q q q)) ?_
   obtain rfl:=sm h
   exact Px.go (tn5 q q q q q)
  ·replace h:=cndF hb4 h
   refine W.xi ?_
   refine Px.sqE ?_
   obtain rfl:=sm h
   exact Px.x1 (.n q .nil)
 refine Px.bkH ?_
 refine Px.sq<|W.sq' ?_
 refine W.rx [(6,_)] (Rv (O.mv (.own q))<|RunL.ea (G2:=[]) q (EO.aR q q (.brw q) q .nil q q)<|Fi (.n q .nil)) ?_
 refine Px.sq<|W.fz (G1:=[(6,iR eCell_0 x2)]) [6] (.z q q .zz .nil) ?_
 refine W.rt ?_
 obtain rfl:=sm h
 exact Px.fin (Fin.ro (.f q q .nil) q (ode (by kernel_rfl)) (.no (.no (.no .nil))) q (.inr q))
theorem con84 (a0:(List (List Int))) (a1:(List (List Int))) (r:(List (List Int))) (h:pf84 a0 a1=some r):Con Try.prog 84 [oR (eM eI) a0,iR (eM eI) a1] [none,none] (oR (eM eI) r):=by
 unfold pf84 at h
 refine Con.go (N:=⟨74,[]⟩) Try.func84 q q q q (W.fin ?_)
 refine W.st [(0,oR (eM eI) a0),(1,iR (eM eI) a1)] ?_
 refine W.sq'<|W.rx [(0,_),(1,_)] (Rv (O.az .knil)<|Fi (tn2 q q)) ?_
 refine Px.sq<|W.sq' ?_
 refine W.sq'<|W.rx [(0,_),(1,_),(5,_)] (Vk q<|Fi (tn3 q q q)) ?_
 refine Px.sq<|W.bk ?_
 obtain ⟨x2,hl,h⟩:=bnd h
 refine W.tr (G1:=[(0,_),(1,_),(5,_)]) (tn3 q q q) ?_
 refine W.lp1 (s:=(a0,true)) (fun (s1:List (List Int) × Bool)=>[(0,oR (eM eI) s1.1),(1,iR (eM eI) a1),(5,BB s1.2)]) 0 (fun (x2:List (List Int))=>[(0,oR (eM eI) x2)]) hl (fun s1 o h=>?_) ?_
 ·clear hl
  refine W.sq'<|W.sq' ?_
  refine W.rx [(0,_),(1,_),(11,_)] (Vm q<|Fi (tn3 q q q)) ?_
  refine Px.sq<|W.cnd q (fun hb4=>?_) (fun hb4=>?_)
  ·replace h:=cndT hb4 h
   refine W.sk<|Px.sq ?_
   refine W.bk<|W.sq' ?_
   refine W.rx [(0,_),(1,_),(5,_)] (Vk q<|Fi (tn3 q q q)) ?_
   refine Px.sq<|W.sq' ?_
   refine W.rx [(0,_),(1,_),(5,_),(6,_)] (Vk q<|Fi (tn4 q q q q)) ?_
   refine Px.sq<|W.bk ?_
   obtain ⟨x6,hl,h⟩:=bnd h
   refine W.tr (G1:=[(0,_),(1,_),(5,_),(6,_)]) (tn4 q q q q) ?_
   refine W.lp1 (s:=(s1.1,false,0)) (fun (s5:List (List Int) × Bool × Int)=>[(0,oR (eM eI) s5.1),(1,iR (eM eI) a1),(5,BB s5.2.1),(6,I64 s5.2.2)]) 2 (fun (x6:List (List Int) × Bool)=>[(0,oR (eM eI) x6.1),(1,iR (eM eI) a1),(5,BB x6.2)]) hl (fun s5 o h=>?_) ?_
   ·clear hl
    refine W.sq'<|W.sq' ?_
    refine W.rx [(0,_),(1,_),(5,_),(6,_),(15,_)] (Vm q<|Rv (O.mv (.own q))<|Rv (O.lenO (.brw q) sl34)<|Rv (O.lss (.lit q) (.lit q))<|Fi (tn5 q q q q q)) ?_
    refine Px.sq<|W.cnd q (fun hb8=>?_) (fun hb8=>?_)
    ·replace h:=cndT hb8 h
     refine W.sk<|Px.sq ?_
     refine W.sq'<|W.bk ?_
     refine W.sq' ?_
     obtain ⟨x9,hx9,h⟩:=bnd h
     refine W.rx [(0,_),(1,_),(5,_),(6,_),(7,_)] (Rv (O.mv (.imm q))<|Vm q<|Rv (O.ixI (.imm q) (.lit q) sl34 hx9)<|Rv (O.ldI (x:=iR eI x9) (.iptr q) ct29 q)<|Rv (O.az (.imm q))<|Fi (tn5 q q q q q)) ?_
     refine Px.sq<|W.sq' ?_
     obtain ⟨x10,hx10,h⟩:=bnd h
     refine W.rx [(0,_),(1,_),(5,_),(6,_),(7,_),(8,_)] (Rv (O.mv (.own q))<|Vm q<|Rv (O.ixO (en:=(eM eI)) q (.brw q) (.lit q) sl34 hx10 q)<|Rv (O.ldE (en:=(eM eI)) (x':=iR eI x10) q (.ptr q) ct29 hx10 q q)<|Rv (O.lenI (.imm q) sl29)<|Va q<|Fi (tn6 q q q q q q)) ?_
     refine Px.sq<|W.sq' ?_
     refine W.sq'<|W.rx [(0,_),(1,_),(5,_),(6,_),(7,_),(8,_),(9,_)] (Vk q<|Fi (tn7 q q q q q q q)) ?_
     refine Px.sq<|W.bk ?_
     obtain ⟨x12,hl,h⟩:=bnd h
     refine W.tr (G1:=[(0,_),(1,_),(5,_),(6,_),(7,_),(8,_),(9,_)]) (tn7 q q q q q q q) ?_
     refine W.lp1 (s:=(s5.1,0)) (fun (s11:List (List Int) × Int)=>[(0,oR (eM eI) s11.1),(1,iR (eM eI) a1),(5,BB s5.2.1),(6,I64 s5.2.2),(7,iR eI x9),(8,I64 (x10.length:Int)),(9,I64 s11.2)]) 4 (fun (x12:List (List Int))=>[(0,oR (eM eI) x12),(1,iR (eM eI) a1),(5,BB s5.2.1),(6,I64 s5.2.2),(8,I64 (x10.length:Int))]) hl (fun s11 o h=>?_) ?_
     ·clear hl
      refine W.sq'<|W.sq' ?_
      refine W.rx [(0,_),(1,_),(5,_),(6,_),(7,_),(8,_),(9,_),(30,_)] (Vm q<|Rv (O.mv (.imm q))<|Rv (O.lenI (.imm q) sl29)<|Rv (O.lss (.lit q) (.lit q))<|Fi (tn8 q q q q q q q q)) ?_
      refine Px.sq<|W.cnd q (fun hb14=>?_) (fun hb14=>?_)
      ·replace h:=cndT hb14 h
       refine W.sk<|Px.sq ?_
       refine W.sq'<|W.bk ?_
       refine W.sq'<|W.rx [(0,_),(1,_),(5,_),(6,_),(7,_),(8,_),(9,_),(10,_)] (Vk q<|Fi (tn8 q q q q q q q q)) ?_
       refine Px.sq<|W.bk ?_
       obtain ⟨x16,hl,h⟩:=bnd h
       refine W.tr (G1:=[(0,_),(1,_),(5,_),(6,_),(7,_),(8,_),(9,_),(10,_)]) (tn8 q q q q q q q q) ?_
       refine W.lp1 (s:=(s11.1,0)) (fun (s15:List (List Int) × Int)=>[(0,oR (eM eI) s15.1),(1,iR (eM eI) a1),(5,BB s5.2.1),(6,I64 s5.2.2),(7,iR eI x9),(8,I64 (x10.length:Int)),(9,I64 s11.2),(10,I64 s15.2)]) 6 (fun (x16:List (List Int))=>[(0,oR (eM eI) x16),(1,iR (eM eI) a1),(5,BB s5.2.1),(6,I64 s5.2.2),(7,iR eI x9),(8,I64 (x10.length:Int)),(9,I64 s11.2)]) hl (fun s15 o h=>?_) ?_
       ·clear hl
        refine W.sq'<|W.sq' ?_
        obtain ⟨x18,hx18,h⟩:=bnd h
        obtain ⟨x19,hx19,h⟩:=bnd h
        refine W.rx [(0,_),(1,_),(5,_),(6,_),(7,_),(8,_),(9,_),(10,_),(42,_)] (Vm q<|Rv (O.mv (.own q))<|Rv (O.mv (.imm q))<|Vm q<|Rv (O.ixI (.imm q) (.lit q) sl29 hx18)<|Rv (O.ldI (x:=I64 x18) (.iptr q) ct3 q)<|Rv (O.ixO (en:=(eM eI)) q (.brw q) (.lit q) sl34 hx19 q)<|Rv (O.ldE (en:=(eM eI)) (x':=iR eI x19) q (.ptr q) ct29 hx19 q q)<|Rv (O.lenI (.imm q) sl29)<|Rv (O.lss (.lit q) (.lit q))<|Fi (tn9 q q q q q q q q q)) ?_
        refine Px.sq<|W.cnd q (fun hb20=>?_) (fun hb20=>?_)
        ·replace h:=cndT hb20 h
         refine W.sk<|Px.sq ?_
         refine W.sq'<|W.bk ?_
         obtain ⟨x21,hx21,h⟩:=bnd h
         obtain ⟨x22,hx22,h⟩:=bnd h
         obtain ⟨x23,hx23,h⟩:=bnd h
         obtain ⟨x24,hx24,h⟩:=bnd h
         obtain ⟨x25,hx25,h⟩:=bnd h
         refine W.rd [[],[],[],[],[2,3],[2,3,4],[],[],[],[7,8],[7,8,9],rn 6 5 [],rn 6 6 [],[],rn 6 8 [],rn 6 9 [],rn 2 14 [],rn 0 17 [],rn 0 18 []] [(0,_),(1,_),(5,_),(6,_),(7,_),(8,_),(9,_),(10,_)] mixo (by kernel_rfl) (Dv 0 (O.mv (.own q))<|Dv 1 (O.mv (.lit q))<|Dv 2 (O.mv (.own q))<|Dv 3 (O.mv (.lit q))<|Dv 4 (O.ixO (en:=(eM eI)) q (.brw q) (.lit q) sl34 hx21 q)<|Dv 5 (O.ldE (en:=(eM eI)) (x':=iR eI x21) q (.ptr q) ct29 hx21 q q)<|Dv 6 (O.mv (.own q))<|Dv 7 (O.mv (.imm q))<|Dv 8 (O.mv (.lit q))<|Dv 9 (O.ixI (.imm q) (.lit q) sl29 hx22)<|Dv 10 (O.ldI (x:=I64 x22) (.iptr q) ct3 q)<|Dv 11 (O.ixO (en:=(eM eI)) q (.brw q) (.lit q) sl34 hx23 q)<|Dv 12 (O.ldE (en:=(eM eI)) (x':=iR eI x23) q (.ptr q) ct29 hx23 q q)<|Dv 13 (O.mv (.lit q))<|Dv 14 (O.ixI (.imm q) (.lit q) sl29 hx24)<|Dv 15 (O.ldI (x:=I64 x24) (.iptr q) ct3 q)<|Dc 16 (PC.go (.cc (.imm q) (.cc (.lit q) .nil)) (con67 x21 x24 _ hx25) call67 q)<|Dv 17 (O.ixO (en:=(eM eI)) q (.brw q) (.lit q) sl34 hx21 q)<|DL.bp 18 (G2:=[(0,oR (eM eI) (s15.1.set s5.2.2.toNat x25)),(1,iR (eM eI) a1),(5,BB s5.2.1),(6,I64 s5.2.2),(7,iR eI x9),(8,I64 (x10.length:Int)),(9,I64 s11.2),(10,I64 s15.2)]) (EO.stE (en:=(eM eI)) (y2:=x25) (cs':=[iR eI x25]) (x2:=oR (eM eI) (s15.1.set s5.2.2.toNat x25)) q q (.ptr q) (.imm q) q hx21 sz29 q q q q q q q (.b q (.n q q (.n q q (.n q q (.n q q (.n q q (.n q q (.n q q .nil))))))))) q q q q (by kernel_rfl) (by kernel_rfl)<|DL.fin q q q (tn8 q q q q q q q q)) ?_
         refine Px.bk ?_
         refine Px.sq<|W.rx [(0,_),(1,_),(5,_),(6,_),(7,_),(8,_),(9,_),(10,_)] (Vm q<|Rv (O.add (.lit q) (.k q))<|RunL.re (G1:=[(0,_),(1,_),(5,_),(6,_),(7,_),(8,_),(9,_),(44,_)]) (tn8 q q q q q q q q)<|Va q<|Fi (tn8 q q q q q q q q)) ?_
         obtain rfl:=sm h
         exact Px.go (tn8 q q q q q q q q)
        ·replace h:=cndF hb20 h
         refine W.xi ?_
         refine Px.sqE ?_
         obtain rfl:=sm h
         exact Px.x1 (tn7 q q q q q q q)
       refine Px.bkH ?_
       refine Px.bk ?_
       refine Px.sq<|W.rx [(0,_),(1,_),(5,_),(6,_),(7,_),(8,_),(9,_)] (Vm q<|Rv (O.add (.lit q) (.k q))<|RunL.re (G1:=[(0,_),(1,_),(5,_),(6,_),(7,_),(8,_),(32,_)]) (tn7 q q q q q q q)<|Va q<|Fi (tn7 q q q q q q q)) ?_
       obtain rfl:=sm h
       exact Px.go (tn7 q q q q q q q)
      ·replace h:=cndF hb14 h
       refine W.xi ?_
       refine Px.sqE ?_
       obtain rfl:=sm h
       exact Px.x1 (tn5 q q q q q)
     refine Px.bkH ?_
     refine Px.sq ?_
     obtain ⟨c28,hj,h⟩:=bnd h
     refine W.rx [(0,oR (eM eI) x12),(1,iR (eM eI) a1),(5,BB c28),(6,I64 s5.2.2)] ?_ ?_
     ·refine Vm q<|Rv (O.mv (.lit q)) ?_
      rcases cnd hj with ⟨hb26,hj⟩ | ⟨hb26,hj⟩
      ·obtain rfl:=sm hj
       exact RunL.ps q q hb26 q q<|RunL.ps q q hb26 q q<|RunL.ps q q hb26 q q<|RunL.ps q q hb26 q q<|RunL.ps q q hb26 q q<|RunL.ps q q hb26 q q<|RunL.ps q q hb26 q q<|Rv (O.pkT (.lit q) hb26 (.k q))<|RunL.re (G1:=[(0,_),(1,_),(6,_),(72,_)]) (tn4 q q q q)<|Va q<|Fi (tn4 q q q q)
      ·refine RunL.v (O.mv (.own q)) q q (.yb q q hb26)<|RunL.v (O.mv (.lit q)) q q (.yb q q hb26) ?_
       obtain ⟨x27,hx27,hj⟩:=bnd hj
       obtain rfl:=sm hj
       exact RunL.v (O.ixO (en:=(eM eI)) q (.brw q) (.lit q) sl34 hx27 q) q q (.yb q q hb26)<|RunL.v (O.ldE (en:=(eM eI)) (x':=iR eI x27) q (.ptr q) ct29 hx27 q q) q q (.yb q q hb26)<|RunL.v (O.lenI (.imm q) sl29) q q (.yb q q hb26)<|RunL.v (O.mv (.lit q)) q q (.yb q q hb26)<|RunL.v (O.neq (.lit q) (.lit q)) q q (.yb q q hb26)<|Rv (O.pkF (.lit q) hb26 (.lit q))<|RunL.re (G1:=[(0,_),(1,_),(6,_),(72,_)]) (tn4 q q q q)<|Va q<|Fi (tn4 q q q q)
     refine Px.bk ?_
     refine Px.sq<|W.rx [(0,_),(1,_),(5,_),(6,_)] (Vm q<|Rv (O.add (.lit q) (.k q))<|RunL.re (G1:=[(0,_),(1,_),(5,_),(17,_)]) (tn4 q q q q)<|Va q<|Fi (tn4 q q q q)) ?_
     obtain rfl:=sm h
     exact Px.go (tn4 q q q q)
    ·replace h:=cndF hb8 h
     refine W.xi ?_
     refine Px.sqE ?_
     obtain rfl:=sm h
     exact Px.x1 (tn3 q q q)
   refine Px.bkH ?_
   refine Px.bk ?_
   obtain rfl:=sm h
   exact Px.go (tn3 q q q)
  ·replace h:=cndF hb4 h
   refine W.xi ?_
   refine Px.sqE ?_
   obtain rfl:=sm h
   exact Px.x1 (.n q .nil)
 refine Px.bkH ?_
 refine Px.sq<|W.sq' ?_
 refine W.rx [(4,_)] (Rv (O.mv (.own q))<|RunL.ea (G2:=[]) q (EO.aR q q (.brw q) q .nil q q)<|Fi (.n q .nil)) ?_
 refine Px.sq<|W.rt ?_
 obtain rfl:=sm h
 exact Px.fin (Fin.ro (.o q .nil) q (ode (by kernel_rfl)) (.no (.no .nil)) q (.inr q))
theorem con88 (a0:(List State)) (r:(List Trans)) (h:pf88 a0=some r):Con Try.prog 88 [iR eState_0 a0] [none] (iR eTrans r):=by
 unfold pf88 at h
 refine Con.go (N:=⟨47,[]⟩) Try.func88 q q q q (W.fin ?_)
 refine W.st [(0,iR eState_0 a0)] ?_
 refine W.sq'<|W.rx [(0,_)] (Rv (O.az .knil)<|Fi (.n q .nil)) ?_
 refine Px.sq<|W.sq' ?_
 refine W.rx [(0,_),(3,_)] (Rv (O.az .knil)<|Fi (tn2 q q)) ?_
 refine Px.sq<|W.sq' ?_
 refine W.sq'<|W.rx [(0,_),(3,_),(4,_)] (Vk q<|Fi (tn3 q q q)) ?_
 refine Px.sq<|W.bk ?_
 obtain ⟨x2,hl,h⟩:=bnd h
 refine W.tr (G1:=[(0,_),(3,oR eTrans ([]:List Trans)),(4,_)]) (.n q (.w q q .nilOwn (.n q .nil))) ?_
 refine W.lp1 (s:=(([]:List Trans),0)) (fun (s1:List Trans × Int)=>[(0,iR eState_0 a0),(3,oR eTrans s1.1),(4,I64 s1.2)]) 0 (fun (x2:List Trans)=>[(3,oR eTrans x2)]) hl (fun s1 o h=>?_) ?_
 ·clear hl
  refine W.sq'<|W.sq' ?_
  refine W.rx [(0,_),(3,_),(4,_),(9,_)] (Vm q<|Rv (O.mv (.imm q))<|Rv (O.lenI (.imm q) sl64)<|Rv (O.lss (.lit q) (.lit q))<|Fi (tn4 q q q q)) ?_
  refine Px.sq<|W.cnd q (fun hb4=>?_) (fun hb4=>?_)
  ·replace h:=cndT hb4 h
   refine W.sk<|Px.sq ?_
   refine W.sq'<|W.bk ?_
   refine W.sq'<|W.rx [(0,_),(3,_),(4,_),(5,_)] (Vk q<|Fi (tn4 q q q q)) ?_
   refine Px.sq<|W.bk ?_
   obtain ⟨x6,hl,h⟩:=bnd h
   refine W.tr (G1:=[(0,_),(3,_),(4,_),(5,_)]) (tn4 q q q q) ?_
   refine W.lp1 (s:=(s1.1,0)) (fun (s5:List Trans × Int)=>[(0,iR eState_0 a0),(3,oR eTrans s5.1),(4,I64 s1.2),(5,I64 s5.2)]) 2 (fun (x6:List Trans)=>[(0,iR eState_0 a0),(3,oR eTrans x6),(4,I64 s1.2)]) hl (fun s5 o h=>?_) ?_
   ·clear hl
    refine W.sq'<|W.sq' ?_
    obtain ⟨x8,hx8,h⟩:=bnd h
    refine W.rx [(0,_),(3,_),(4,_),(5,_),(19,_)] (Vm q<|Rv (O.mv (.imm q))<|Vm q<|Rv (O.ixI (.imm q) (.lit q) sl64 hx8)<|Rv (O.fI (.iptr q) fd135_1)<|Rv (O.ldI (x:=iR eMove x8.Moves) (.iptr q) ct133 q)<|Rv (O.lenI (.imm q) sl133)<|Rv (O.lss (.lit q) (.lit q))<|Fi (tn5 q q q q q)) ?_
    refine Px.sq<|W.cnd q (fun hb9=>?_) (fun hb9=>?_)
    ·replace h:=cndT hb9 h
     refine W.sk<|Px.sq ?_
     refine W.sq' ?_
     obtain ⟨j10,hj,h⟩:=bnd h
     refine W.jn [(0,iR eState_0 a0),(3,oR eTrans j10),(4,I64 s1.2),(5,I64 s5.2)] ?_ ?_
     ·clear h; have h:=hj; clear hj
      refine W.bk<|W.sq' ?_
      obtain ⟨x11,hx11,h⟩:=bnd h
      obtain ⟨x12,hx12,h⟩:=bnd h
      refine W.rx [(0,_),(3,_),(4,_),(5,_),(31,_)] (Rv (O.mv (.imm q))<|Vm q<|Rv (O.ixI (.imm q) (.lit q) sl64 hx11)<|Rv (O.fI (.iptr q) fd135_1)<|Rv (O.ldI (x:=iR eMove x11.Moves) (.iptr q) ct133 q)<|Vm q<|Rv (O.ixI (.imm q) (.lit q) sl133 hx12)<|Rv (O.fI (.iptr q) fd145_0)<|Rv (O.ldI (x:=I64 x12.Sym) (.iptr q) ct3 q)<|Rv (O.geq (.lit q) (.k q))<|Fi (tn5 q q q q q)) ?_
      refine Px.sq ?_
      obtain ⟨j13,hj,h⟩:=bnd h
      refine W.jn [(0,iR eState_0 a0),(3,oR eTrans j13),(4,I64 s1.2),(5,I64 s5.2)] ?_ ?_
      ·clear h; have h:=hj; clear hj
       refine W.cnd q (fun hb14=>?_) (fun hb14=>?_)
       ·replace h:=cndT hb14 h
        obtain ⟨x15,hx15,h⟩:=bnd h
        obtain ⟨x16,hx16,h⟩:=bnd h
        obtain ⟨x17,hx17,h⟩:=bnd h
        refine W.rx [(0,_),(3,_),(4,_),(5,_)] (Rv (O.mv (.own q))<|Vm q<|Rv (O.mv (.imm q))<|Vm q<|Rv (O.ixI (.imm q) (.lit q) sl64 hx15)<|Rv (O.fI (.iptr q) fd135_1)<|Rv (O.ldI (x:=iR eMove x15.Moves) (.iptr q) ct133 q)<|Vm q<|Rv (O.ixI (.imm q) (.lit q) sl133 hx16)<|Rv (O.fI (.iptr q) fd145_0)<|Rv (O.ldI (x:=I64 x16.Sym) (.iptr q) ct3 q)<|Rv (O.bu (cs:=[I64 s1.2,I64 x16.Sym]) sc161 ze161 q q q)<|RunL.vi (x:=iR eTrans [(⟨s1.2,x16.Sym⟩:Trans)]) (O.bs (ys:=[.agg [I64 s1.2,I64 x16.Sym]]) eTrans [(⟨s1.2,x16.Sym⟩:Trans)] sl158 q q q q q q zt161 q q) q q .none<|Rv (O.ap (en:=eTrans) (r:=x17) (.brw q) q (.imm q) .i ap158 q hx17)<|RunL.ea (G2:=[(0,iR eState_0 a0),(4,I64 s1.2),(5,I64 s5.2)]) q (EO.aP q q (.pend q) q q q (.n q q (.n q q (.n q q .nil))) q q)<|Fi (tn4 q q q q)) ?_
        obtain rfl:=sm h
        exact Px.jn (tn4 q q q q)
       ·replace h:=cndF hb14 h
        refine W.sk ?_
        obtain rfl:=sm h
        exact Px.jn (tn4 q q q q)
      refine Px.bk ?_
      obtain rfl:=sm h
      exact Px.jn (tn4 q q q q)
     refine Px.sq<|W.rx [(0,_),(3,_),(4,_),(5,_)] (Vm q<|Rv (O.add (.lit q) (.k q))<|RunL.re (G1:=[(0,_),(3,_),(4,_),(21,_)]) (tn4 q q q q)<|Va q<|Fi (tn4 q q q q)) ?_
     obtain rfl:=sm h
     exact Px.go (tn4 q q q q)
    ·replace h:=cndF hb9 h
     refine W.xi ?_
     refine Px.sqE ?_
     obtain rfl:=sm h
     exact Px.x1 (tn3 q q q)
   refine Px.bkH ?_
   refine Px.bk ?_
   refine Px.sq<|W.rx [(0,_),(3,_),(4,_)] (Vm q<|Rv (O.add (.lit q) (.k q))<|RunL.re (G1:=[(0,_),(3,_),(11,_)]) (tn3 q q q)<|Va q<|Fi (tn3 q q q)) ?_
   obtain rfl:=sm h
   exact Px.go (tn3 q q q)
  ·replace h:=cndF hb4 h
   refine W.xi ?_
   refine Px.sqE ?_
   obtain rfl:=sm h
   exact Px.x1 (.n q .nil)
 refine Px.bkH ?_
 refine Px.sq<|W.sq' ?_
 refine W.rx [(2,_)] (Rv (O.mv (.own q))<|RunL.ea (G2:=[]) q (EO.aR q q (.brw q) q .nil q q)<|Fi (.n q .nil)) ?_
 refine Px.sq<|W.fz (G1:=[(2,iR eTrans x2)]) [2] (.z q q .zz .nil) ?_
 refine W.rt ?_
 obtain rfl:=sm h
 exact Px.fin (Fin.ro (.f q q .nil) q (ode (by kernel_rfl)) (.no .nil) q (.inr q))
theorem con104 (a0:(List Item)) (r:Bool) (h:pf104 a0=some r):Con Try.prog 104 [iR eItem a0] [none] (BB r):=by
 unfold pf104 at h
 refine Con.go (N:=⟨24,[]⟩) Try.func104 q q q q (W.fin ?_)
 refine W.st [(0,iR eItem a0)] ?_
 refine W.sq'<|W.rx [(0,_)] (Vk q<|Fi (.n q .nil)) ?_
 refine Px.sq<|W.sq' ?_
 refine W.sq'<|W.rx [(0,_),(3,_)] (Vk q<|Fi (tn2 q q)) ?_
 refine Px.sq<|W.bk ?_
 obtain ⟨x2,hl,h⟩:=bnd h
 refine W.tr (G1:=[(0,_),(3,_)]) (tn2 q q) ?_
 refine W.lp2 (s:=0) (fun (s1:Int)=>[(0,iR eItem a0),(3,I64 s1)]) 0 (fun (x3:Unit)=>[]) (fun (x4:Bool)=>[(2,BB x4)]) hl (fun s1 o h=>?_) (fun x3 hx=>?_) (fun x4 hx=>?_)
 ·clear hl
  refine W.sq'<|W.sq' ?_
  refine W.rx [(0,_),(3,_),(7,_)] (Vm q<|Rv (O.mv (.imm q))<|Rv (O.lenI (.imm q) sl132)<|Rv (O.lss (.lit q) (.lit q))<|Fi (tn3 q q q)) ?_
  refine Px.sq<|W.cnd q (fun hb5=>?_) (fun hb5=>?_)
  ·replace h:=cndT hb5 h
   refine W.sk<|Px.sq ?_
   refine W.sq'<|W.bk ?_
   refine W.sq' ?_
   obtain ⟨c9,hj,h⟩:=bnd h
   refine W.rx [(0,iR eItem a0),(3,I64 s1),(23,BB c9)] ?_ ?_
   ·refine Rv (O.mv (.imm q))<|Rv (O.mv (.lit q)) ?_
    obtain ⟨x6,hx6,hj⟩:=bnd hj
    refine Rv (O.ixI (.imm q) (.lit q) sl132 hx6)<|Rv (O.fI (.iptr q) fd137_0)<|Rv (O.ldI (x:=I64 x6.Prod) (.iptr q) ct3 q)<|Rv (O.eql (.lit q) (.k q))<|Rv (O.mv (.lit q)) ?_
    rcases cnd hj with ⟨hb7,hj⟩ | ⟨hb7,hj⟩
    ·refine RunL.v (O.mv (.imm q)) q q (.yb q q hb7)<|RunL.v (O.mv (.lit q)) q q (.yb q q hb7) ?_
     obtain ⟨x8,hx8,hj⟩:=bnd hj
     obtain rfl:=sm hj
     exact RunL.v (O.ixI (.imm q) (.lit q) sl132 hx8) q q (.yb q q hb7)<|RunL.v (O.fI (.iptr q) fd137_1) q q (.yb q q hb7)<|RunL.v (O.ldI (x:=I64 x8.Dot) (.iptr q) ct3 q) q q (.yb q q hb7)<|RunL.v (O.eql (.lit q) (.k q)) q q (.yb q q hb7)<|Rv (O.pkT (.lit q) hb7 (.lit q))<|Fi (tn3 q q q)
    ·obtain rfl:=sm hj
     exact RunL.ps q q hb7 q q<|RunL.ps q q hb7 q q<|RunL.ps q q hb7 q q<|RunL.ps q q hb7 q q<|RunL.ps q q hb7 q q<|RunL.ps q q hb7 q q<|Rv (O.pkF (.lit q) hb7 (.k q))<|Fi (tn3 q q q)
   refine Px.sq<|W.cnd q (fun hb10=>?_) (fun hb10=>?_)
   ·replace h:=cndT hb10 h
    refine W.sq'<|W.rx [(2,_)] (Vk q<|Fi (.n q .nil)) ?_
    refine Px.sq<|W.rt ?_
    refine Px.bkR ?_
    refine Px.sqR ?_
    obtain rfl:=sm h
    exact Px.r2 (.n q .nil)
   ·replace h:=cndF hb10 h
    refine W.sk<|Px.bk ?_
    refine Px.sq<|W.rx [(0,_),(3,_)] (Vm q<|Rv (O.add (.lit q) (.k q))<|RunL.re (G1:=[(0,_),(9,_)]) (tn2 q q)<|Va q<|Fi (tn2 q q)) ?_
    obtain rfl:=sm h
    exact Px.go (tn2 q q)
  ·replace h:=cndF hb5 h
   refine W.xi ?_
   refine Px.sqE ?_
   obtain rfl:=sm h
   exact Px.x2 .nil
 ·subst hx
  refine Px.bkH ?_
  refine Px.sq<|W.sq' ?_
  refine W.rx [(2,_)] (Vk q<|Fi (.n q .nil)) ?_
  refine Px.sq<|W.rt ?_
  obtain rfl:=sm h
  exact Px.fin (Fin.ro (.f q q .nil) q (ode (by kernel_rfl)) (.no .nil) q (.inr q))
 ·subst hx
  refine Px.bkR ?_
  refine Px.sqR ?_
  obtain rfl:=sm h
  exact Px.fin (Fin.ro (.f q q .nil) q (ode (by kernel_rfl)) (.no .nil) q (.inr q))
theorem con85 (a0:(List State)) (r:(List (List Int))) (h:pf85 a0=some r):Con Try.prog 85 [iR eState_0 a0] [none] (oR (eM eI) r):=by
 unfold pf85 at h
 refine Con.go (N:=⟨74,[]⟩) Try.func85 q q q q (W.fin ?_)
 refine W.st [(0,iR eState_0 a0)] ?_
 refine W.sq'<|W.rx [(0,_)] (Rv (O.az .knil)<|Fi (.n q .nil)) ?_
 refine Px.sq<|W.sq' ?_
 obtain ⟨x1,hx1,h⟩:=bnd h
 refine W.rx [(0,_),(3,_)] (Rv (O.mv (.imm q))<|Rc (PC.go (.cc (.imm q) .nil) (con88 a0 _ hx1) call88 q)<|Rv (O.az (.imm q))<|Fi (tn2 q q)) ?_
 refine Px.sq<|W.sq' ?_
 refine W.rx [(0,_),(3,_),(4,_)] (Rv (O.az .knil)<|Fi (tn3 q q q)) ?_
 refine Px.sq<|W.sq' ?_
 refine W.sq'<|W.rx [(0,_),(3,_),(4,_),(5,_)] (Vk q<|Fi (tn4 q q q q)) ?_
 refine Px.sq<|W.bk ?_
 obtain ⟨x3,hl,h⟩:=bnd h
 refine W.tr (G1:=[(0,_),(3,_),(4,oR (eM eI) ([]:List (List Int))),(5,_)]) (.n q (.n q (.w q q .nilOwn (.n q .nil)))) ?_
 refine W.lp1 (s:=(([]:List (List Int)),0)) (fun (s2:List (List Int) × Int)=>[(0,iR eState_0 a0),(3,iR eTrans x1),(4,oR (eM eI) s2.1),(5,I64 s2.2)]) 0 (fun (x3:List (List Int))=>[(4,oR (eM eI) x3)]) hl (fun s2 o h=>?_) ?_
 ·clear hl
  refine W.sq'<|W.sq' ?_
  refine W.rx [(0,_),(3,_),(4,_),(5,_),(14,_)] (Vm q<|Rv (O.mv (.imm q))<|Rv (O.lenI (.imm q) sl158)<|Rv (O.lss (.lit q) (.lit q))<|Fi (tn5 q q q q q)) ?_
  refine Px.sq<|W.cnd q (fun hb5=>?_) (fun hb5=>?_)
  ·replace h:=cndT hb5 h
   refine W.sk<|Px.sq ?_
   refine W.sq'<|W.bk ?_
   refine W.sq'<|W.rx [(0,_),(3,_),(4,_),(5,_),(6,_)] (Rv (O.az .knil)<|Fi (tn5 q q q q q)) ?_
   refine Px.sq<|W.sq' ?_
   obtain ⟨x6,hx6,h⟩:=bnd h
   obtain ⟨x7,hx7,h⟩:=bnd h
   obtain ⟨x8,hx8,h⟩:=bnd h
   refine W.rd [[],[],[],[1,2],[1,2,3],[1,2,3,4],[],[],[6,7],[6,7,8],[6,7,8,9],rn 0 11 [],rn 0 12 []] [(0,_),(3,_),(4,_),(5,_),(6,_),(7,_)] mixo (by kernel_rfl) (Dv 0 (O.mv (.imm q))<|Dv 1 (O.mv (.imm q))<|Dv 2 (O.mv (.lit q))<|Dv 3 (O.ixI (.imm q) (.lit q) sl158 hx6)<|Dv 4 (O.fI (.iptr q) fd161_0)<|Dv 5 (O.ldI (x:=I64 x6.State) (.iptr q) ct3 q)<|Dv 6 (O.mv (.imm q))<|Dv 7 (O.mv (.lit q))<|Dv 8 (O.ixI (.imm q) (.lit q) sl158 hx7)<|Dv 9 (O.fI (.iptr q) fd161_1)<|Dv 10 (O.ldI (x:=I64 x7.Non) (.iptr q) ct3 q)<|Dc 11 (PC.go (.cc (.imm q) (.cc (.lit q) (.cc (.lit q) .nil))) (con59 a0 x6.State x7.Non _ hx8) call59 q)<|Dv 12 (O.az (.lit q))<|DL.fin q q q (tn6 q q q q q q)) ?_
   refine Px.sq<|W.sq' ?_
   refine W.sq' ?_
   obtain ⟨x9,hx9,h⟩:=bnd h
   obtain ⟨x10,hx10,h⟩:=bnd h
   refine W.rx [(0,_),(3,_),(4,_),(5,_),(6,_),(7,_),(34,_)] (Rv (O.mv (.imm q))<|Vm q<|Rv (O.ixI (.imm q) (.lit q) sl64 hx9)<|Rv (O.fI (.iptr q) fd135_0)<|Rv (O.ldI (x:=iR eItem x9.Kernel) (.iptr q) ct132 q)<|Rc (PC.go (.cc (.imm q) .nil) (con104 x9.Kernel _ hx10) call104 q)<|Fi (tn7 q q q q q q q)) ?_
   refine Px.sq ?_
   obtain ⟨j11,hj,h⟩:=bnd h
   refine W.jn [(0,iR eState_0 a0),(3,iR eTrans x1),(4,oR (eM eI) s2.1),(5,I64 s2.2),(6,oR eI j11),(7,I64 x8)] ?_ ?_
   ·clear h; have h:=hj; clear hj
    refine W.cnd q (fun hb12=>?_) (fun hb12=>?_)
    ·replace h:=cndT hb12 h
     obtain ⟨x13,hx13,h⟩:=bnd h
     refine W.rx [(0,_),(3,_),(4,_),(5,_),(6,_),(7,_)] (Rv (O.mv (.nils q))<|RunL.vi (x:=iR eI [0]) (O.bs (ys:=[I64 0]) eI [0] sl29 q q q q q q zt3 q q) q q .none<|Rv (O.apN (en:=eI) (r:=x13) (.nils q) (.imm q) .i ap29 q hx13)<|RunL.ea (G2:=[(0,iR eState_0 a0),(3,iR eTrans x1),(4,oR (eM eI) s2.1),(5,I64 s2.2),(7,I64 x8)]) q (EO.aR q q (.own q) q (.n q q (.n q q (.n q q (.n q q (.n q q .nil))))) q q)<|Fi (tn6 q q q q q q)) ?_
     obtain rfl:=sm h
     exact Px.jn (tn6 q q q q q q)
    ·replace h:=cndF hb12 h
     refine W.sk ?_
     obtain rfl:=sm h
     exact Px.jn (.n q (.n q (.n q (.n q (.w q q .nilOwn (.n q .nil))))))
   refine Px.sq<|W.sq' ?_
   refine W.sq'<|W.rx [(0,_),(3,_),(4,_),(5,_),(6,_),(7,_),(8,_)] (Vk q<|Fi (tn7 q q q q q q q)) ?_
   refine Px.sq<|W.bk ?_
   refine W.fz (G1:=[(0,_),(3,_),(4,_),(5,_),(6,iR eI j11),(7,_),(8,_)]) [6] (.n q q (.n q q (.n q q (.n q q (.z q q .zz (.n q q (.n q q .nil))))))) ?_
   obtain ⟨x15,hl,h⟩:=bnd h
   refine W.tr (G1:=[(0,_),(3,_),(4,_),(5,_),(6,_),(7,_),(8,_)]) (tn7 q q q q q q q) ?_
   refine W.lp1 (s:=(j11,0)) (fun (s14:List Int × Int)=>[(0,iR eState_0 a0),(3,iR eTrans x1),(4,oR (eM eI) s2.1),(5,I64 s2.2),(6,iR eI s14.1),(7,I64 x8),(8,I64 s14.2)]) 2 (fun (x15:List Int)=>[(0,iR eState_0 a0),(3,iR eTrans x1),(4,oR (eM eI) s2.1),(5,I64 s2.2),(6,iR eI x15)]) hl (fun s14 o h=>?_) ?_
   ·clear hl
    refine W.sq'<|W.sq' ?_
    obtain ⟨x17,hx17,h⟩:=bnd h
    refine W.rx [(0,_),(3,_),(4,_),(5,_),(6,_),(7,_),(8,_),(45,_)] (Vm q<|Rv (O.mv (.imm q))<|Vm q<|Rv (O.ixI (.imm q) (.lit q) sl64 hx17)<|Rv (O.fI (.iptr q) fd135_1)<|Rv (O.ldI (x:=iR eMove x17.Moves) (.iptr q) ct133 q)<|Rv (O.lenI (.imm q) sl133)<|Rv (O.lss (.lit q) (.lit q))<|Fi (tn8 q q q q q q q q)) ?_
    refine Px.sq<|W.cnd q (fun hb18=>?_) (fun hb18=>?_)
    ·replace h:=cndT hb18 h
     refine W.sk<|Px.sq ?_
     refine W.sq' ?_
     obtain ⟨j19,hj,h⟩:=bnd h
     refine W.jn [(0,iR eState_0 a0),(3,iR eTrans x1),(4,oR (eM eI) s2.1),(5,I64 s2.2),(6,iR eI j19),(7,I64 x8),(8,I64 s14.2)] ?_ ?_
     ·clear h; have h:=hj; clear hj
      refine W.bk<|W.sq' ?_
      obtain ⟨x20,hx20,h⟩:=bnd h
      obtain ⟨x21,hx21,h⟩:=bnd h
      refine W.rx [(0,_),(3,_),(4,_),(5,_),(6,_),(7,_),(8,_),(57,_)] (Rv (O.mv (.imm q))<|Vm q<|Rv (O.ixI (.imm q) (.lit q) sl64 hx20)<|Rv (O.fI (.iptr q) fd135_1)<|Rv (O.ldI (x:=iR eMove x20.Moves) (.iptr q) ct133 q)<|Vm q<|Rv (O.ixI (.imm q) (.lit q) sl133 hx21)<|Rv (O.fI (.iptr q) fd145_0)<|Rv (O.ldI (x:=I64 x21.Sym) (.iptr q) ct3 q)<|Rv (O.lss (.lit q) (.k q))<|Fi (tn8 q q q q q q q q)) ?_
      refine Px.sq ?_
      obtain ⟨j22,hj,h⟩:=bnd h
      refine W.jn [(0,iR eState_0 a0),(3,iR eTrans x1),(4,oR (eM eI) s2.1),(5,I64 s2.2),(6,iR eI j22),(7,I64 x8),(8,I64 s14.2)] ?_ ?_
      ·clear h; have h:=hj; clear hj
       refine W.cnd q (fun hb23=>?_) (fun hb23=>?_)
       ·replace h:=cndT hb23 h
        obtain ⟨x24,hx24,h⟩:=bnd h
        obtain ⟨x25,hx25,h⟩:=bnd h
        obtain ⟨x26,hx26,h⟩:=bnd h
        refine W.rx [(0,_),(3,_),(4,_),(5,_),(6,_),(7,_),(8,_)] (Rv (O.mv (.imm q))<|Rv (O.mv (.imm q))<|Vm q<|Rv (O.ixI (.imm q) (.lit q) sl64 hx24)<|Rv (O.fI (.iptr q) fd135_1)<|Rv (O.ldI (x:=iR eMove x24.Moves) (.iptr q) ct133 q)<|Vm q<|Rv (O.ixI (.imm q) (.lit q) sl133 hx25)<|Rv (O.fI (.iptr q) fd145_0)<|Rv (O.ldI (x:=I64 x25.Sym) (.iptr q) ct3 q)<|Rc (PC.go (.cc (.imm q) (.cc (.lit q) .nil)) (con67 s14.1 x25.Sym _ hx26) call67 q)<|RunL.re (G1:=[(0,_),(3,_),(4,_),(5,_),(7,_),(8,_),(68,_)]) (tn7 q q q q q q q)<|Rv (O.az (.imm q))<|Fi (tn7 q q q q q q q)) ?_
        obtain rfl:=sm h
        exact Px.jn (tn7 q q q q q q q)
       ·replace h:=cndF hb23 h
        refine W.sk ?_
        obtain rfl:=sm h
        exact Px.jn (tn7 q q q q q q q)
      refine Px.bk ?_
      obtain rfl:=sm h
      exact Px.jn (tn7 q q q q q q q)
     refine Px.sq<|W.rx [(0,_),(3,_),(4,_),(5,_),(6,_),(7,_),(8,_)] (Vm q<|Rv (O.add (.lit q) (.k q))<|RunL.re (G1:=[(0,_),(3,_),(4,_),(5,_),(6,_),(7,_),(47,_)]) (tn7 q q q q q q q)<|Va q<|Fi (tn7 q q q q q q q)) ?_
     obtain rfl:=sm h
     exact Px.go (tn7 q q q q q q q)
    ·replace h:=cndF hb18 h
     refine W.xi ?_
     refine Px.sqE ?_
     obtain rfl:=sm h
     exact Px.x1 (tn5 q q q q q)
   refine Px.bkH ?_
   refine Px.sq ?_
   obtain ⟨x27,hx27,h⟩:=bnd h
   refine W.rx [(0,_),(3,_),(4,_),(5,_)] (Rv (O.mv (.own q))<|Rv (O.mv (.imm q))<|RunL.vi (x:=iR (eM eI) [x15]) (O.bs (ys:=[iR eI x15]) (eM eI) [x15] sl34 q q q q q q zt29 q q) q q .none<|Rv (O.ap (en:=(eM eI)) (r:=x27) (.brw q) q (.imm q) .i ap34 q hx27)<|RunL.ea (G2:=[(0,iR eState_0 a0),(3,iR eTrans x1),(5,I64 s2.2)]) q (EO.aP q q (.pend q) q q q (.n q q (.n q q (.n q q .nil))) q q)<|Fi (tn4 q q q q)) ?_
   refine Px.bk ?_
   refine Px.sq<|W.rx [(0,_),(3,_),(4,_),(5,_)] (Vm q<|Rv (O.add (.lit q) (.k q))<|RunL.re (G1:=[(0,_),(3,_),(4,_),(16,_)]) (tn4 q q q q)<|Va q<|Fi (tn4 q q q q)) ?_
   obtain rfl:=sm h
   exact Px.go (tn4 q q q q)
  ·replace h:=cndF hb5 h
   refine W.xi ?_
   refine Px.sqE ?_
   obtain rfl:=sm h
   exact Px.x1 (.n q .nil)
 refine Px.bkH ?_
 refine Px.sq<|W.sq' ?_
 refine W.rx [(2,_)] (Rv (O.mv (.own q))<|RunL.ea (G2:=[]) q (EO.aR q q (.brw q) q .nil q q)<|Fi (.n q .nil)) ?_
 refine Px.sq<|W.rt ?_
 obtain rfl:=sm h
 exact Px.fin (Fin.ro (.o q .nil) q (ode (by kernel_rfl)) (.no .nil) q (.inr q))
theorem con107 (a0:(List Bool)) (a1:(List Int)) (r:Bool) (h:pf107 a0 a1=some r):Con Try.prog 107 [iR eB a0,iR eI a1] [none,none] (BB r):=by
 unfold pf107 at h
 refine Con.go (N:=⟨28,[]⟩) Try.func107 q q q q (W.fin ?_)
 refine W.st [(0,iR eB a0),(1,iR eI a1)] ?_
 refine W.sq'<|W.rx [(0,_),(1,_)] (Vk q<|Fi (tn2 q q)) ?_
 refine Px.sq<|W.sq' ?_
 refine W.sq'<|W.rx [(0,_),(1,_),(5,_)] (Vk q<|Fi (tn3 q q q)) ?_
 refine Px.sq<|W.bk ?_
 obtain ⟨x2,hl,h⟩:=bnd h
 refine W.tr (G1:=[(0,_),(1,_),(5,_)]) (tn3 q q q) ?_
 refine W.lp2 (s:=0) (fun (s1:Int)=>[(0,iR eB a0),(1,iR eI a1),(5,I64 s1)]) 0 (fun (x3:Unit)=>[]) (fun (x4:Bool)=>[(4,BB x4)]) hl (fun s1 o h=>?_) (fun x3 hx=>?_) (fun x4 hx=>?_)
 ·clear hl
  refine W.sq'<|W.sq' ?_
  refine W.rx [(0,_),(1,_),(5,_),(9,_)] (Vm q<|Rv (O.mv (.imm q))<|Rv (O.lenI (.imm q) sl29)<|Rv (O.lss (.lit q) (.lit q))<|Fi (tn4 q q q q)) ?_
  refine Px.sq<|W.cnd q (fun hb5=>?_) (fun hb5=>?_)
  ·replace h:=cndT hb5 h
   refine W.sk<|Px.sq ?_
   refine W.sq'<|W.bk ?_
   refine W.sq' ?_
   obtain ⟨c10,hj,h⟩:=bnd h
   refine W.rx [(0,iR eB a0),(1,iR eI a1),(5,I64 s1),(27,BB c10)] ?_ ?_
   ·refine Rv (O.mv (.imm q))<|Rv (O.mv (.lit q)) ?_
    obtain ⟨x6,hx6,hj⟩:=bnd hj
    refine Rv (O.ixI (.imm q) (.lit q) sl29 hx6)<|Rv (O.ldI (x:=I64 x6) (.iptr q) ct3 q)<|Rv (O.lss (.lit q) (.k q))<|Rv (O.mv (.lit q)) ?_
    rcases cnd hj with ⟨hb7,hj⟩ | ⟨hb7,hj⟩
    ·obtain rfl:=sm hj
     exact RunL.ps q q hb7 q q<|RunL.ps q q hb7 q q<|RunL.ps q q hb7 q q<|RunL.ps q q hb7 q q<|RunL.ps q q hb7 q q<|RunL.ps q q hb7 q q<|RunL.ps q q hb7 q q<|RunL.ps q q hb7 q q<|RunL.ps q q hb7 q q<|Rv (O.pkT (.lit q) hb7 (.k q))<|Fi (tn4 q q q q)
    ·refine RunL.v (O.mv (.imm q)) q q (.yb q q hb7)<|RunL.v (O.mv (.imm q)) q q (.yb q q hb7)<|RunL.v (O.mv (.lit q)) q q (.yb q q hb7) ?_
     obtain ⟨x8,hx8,hj⟩:=bnd hj
     refine RunL.v (O.ixI (.imm q) (.lit q) sl29 hx8) q q (.yb q q hb7)<|RunL.v (O.ldI (x:=I64 x8) (.iptr q) ct3 q) q q (.yb q q hb7)<|RunL.v (O.sub (.lit q) (.k q)) q q (.yb q q hb7) ?_
     obtain ⟨x9,hx9,hj⟩:=bnd hj
     obtain rfl:=sm hj
     exact RunL.v (O.ixI (.imm q) (.lit q) sl103 hx9) q q (.yb q q hb7)<|RunL.v (O.ldI (x:=BB x9) (.iptr q) ct4 q) q q (.yb q q hb7)<|RunL.v (O.not (.lit q)) q q (.yb q q hb7)<|Rv (O.pkF (.lit q) hb7 (.lit q))<|Fi (tn4 q q q q)
   refine Px.sq<|W.cnd q (fun hb11=>?_) (fun hb11=>?_)
   ·replace h:=cndT hb11 h
    refine W.sq'<|W.rx [(4,_)] (Vk q<|Fi (.n q .nil)) ?_
    refine Px.sq<|W.rt ?_
    refine Px.bkR ?_
    refine Px.sqR ?_
    obtain rfl:=sm h
    exact Px.r2 (.n q .nil)
   ·replace h:=cndF hb11 h
    refine W.sk<|Px.bk ?_
    refine Px.sq<|W.rx [(0,_),(1,_),(5,_)] (Vm q<|Rv (O.add (.lit q) (.k q))<|RunL.re (G1:=[(0,_),(1,_),(11,_)]) (tn3 q q q)<|Va q<|Fi (tn3 q q q)) ?_
    obtain rfl:=sm h
    exact Px.go (tn3 q q q)
  ·replace h:=cndF hb5 h
   refine W.xi ?_
   refine Px.sqE ?_
   obtain rfl:=sm h
   exact Px.x2 .nil
 ·subst hx
  refine Px.bkH ?_
  refine Px.sq<|W.sq' ?_
  refine W.rx [(4,_)] (Vk q<|Fi (.n q .nil)) ?_
  refine Px.sq<|W.rt ?_
  obtain rfl:=sm h
  exact Px.fin (Fin.ro (.f q q .nil) q (ode (by kernel_rfl)) (.no (.no .nil)) q (.inr q))
 ·subst hx
  refine Px.bkR ?_
  refine Px.sqR ?_
  obtain rfl:=sm h
  exact Px.fin (Fin.ro (.f q q .nil) q (ode (by kernel_rfl)) (.no (.no .nil)) q (.inr q))
theorem con105 (a0:Grammar) (r:(List Bool)) (h:pf105 a0=some r):Con Try.prog 105 [.agg (eGrammar_0.cells a0)] [none] (iR eB r):=by
 unfold pf105 at h
 refine Con.go (N:=⟨41,[]⟩) Try.func105 q q q q (W.fin ?_)
 refine W.st [(0,.agg (eGrammar_0.cells a0))] ?_
 refine W.sq'<|W.rx [(1,_)] (Rv (O.box (.aggF q q) q)<|Rv (O.az .knil)<|Fi (.n q .nil)) ?_
 refine Px.sq<|W.sq' ?_
 obtain ⟨x1,hx1,h⟩:=bnd h
 refine W.rx [(1,_),(3,_)] (Rv (O.fO q (.obj q) fd44_1 q)<|Rv (O.ldO (y:=iR eNon a0.Nons) q (.ptr q) ct41 q q)<|Rv (O.lenI (.imm q) sl41)<|Rv (O.mk (en:=eB) (z0:=false) sl103 (.lit q) (.lit q) ze4 q q hx1 bb4 q)<|RunL.ea (G2:=[(1,.obj (eGrammar_0.cells a0))]) q (EO.aR q q (.own q) q (.n q q .nil) q q)<|Fi (tn2 q q)) ?_
 refine Px.sq<|W.sq' ?_
 refine W.sq'<|W.rx [(1,_),(3,_),(4,_)] (Vk q<|Fi (tn3 q q q)) ?_
 refine Px.sq<|W.bk ?_
 obtain ⟨x3,hl,h⟩:=bnd h
 refine W.tr (G1:=[(1,_),(3,_),(4,_)]) (tn3 q q q) ?_
 refine W.lp1 (s:=(x1,true)) (fun (s2:List Bool × Bool)=>[(1,.obj (eGrammar_0.cells a0)),(3,oR eB s2.1),(4,BB s2.2)]) 0 (fun (x3:List Bool)=>[(3,oR eB x3)]) hl (fun s2 o h=>?_) ?_
 ·clear hl
  refine W.sq'<|W.sq' ?_
  refine W.rx [(1,_),(3,_),(11,_)] (Vm q<|Fi (tn3 q q q)) ?_
  refine Px.sq<|W.cnd q (fun hb5=>?_) (fun hb5=>?_)
  ·replace h:=cndT hb5 h
   refine W.sk<|Px.sq ?_
   refine W.bk<|W.sq' ?_
   refine W.rx [(1,_),(3,_),(4,_)] (Vk q<|Fi (tn3 q q q)) ?_
   refine Px.sq<|W.sq' ?_
   refine W.rx [(1,_),(3,_),(4,_),(5,_)] (Vk q<|Fi (tn4 q q q q)) ?_
   refine Px.sq<|W.bk ?_
   obtain ⟨x7,hl,h⟩:=bnd h
   refine W.tr (G1:=[(1,_),(3,_),(4,_),(5,_)]) (tn4 q q q q) ?_
   refine W.lp1 (s:=(s2.1,false,0)) (fun (s6:List Bool × Bool × Int)=>[(1,.obj (eGrammar_0.cells a0)),(3,oR eB s6.1),(4,BB s6.2.1),(5,I64 s6.2.2)]) 2 (fun (x7:List Bool × Bool)=>[(1,.obj (eGrammar_0.cells a0)),(3,oR eB x7.1),(4,BB x7.2)]) hl (fun s6 o h=>?_) ?_
   ·clear hl
    refine W.sq'<|W.sq' ?_
    refine W.rx [(1,_),(3,_),(4,_),(5,_),(16,_)] (Vm q<|Rv (O.fO q (.obj q) fd44_2 q)<|Rv (O.ldO (y:=iR eProd_0 a0.Prods) q (.ptr q) ct42 q q)<|Rv (O.lenI (.imm q) sl42)<|Rv (O.lss (.lit q) (.lit q))<|Fi (tn5 q q q q q)) ?_
    refine Px.sq<|W.cnd q (fun hb9=>?_) (fun hb9=>?_)
    ·replace h:=cndT hb9 h
     refine W.sk<|Px.sq ?_
     refine W.sq' ?_
     obtain ⟨j10,hj,h⟩:=bnd h
     refine W.jn [(1,.obj (eGrammar_0.cells a0)),(3,oR eB j10.1),(4,BB j10.2),(5,I64 s6.2.2)] ?_ ?_
     ·clear h; have h:=hj; clear hj
      refine W.bk<|W.sq' ?_
      obtain ⟨x11,hx11,h⟩:=bnd h
      refine W.rx [(1,_),(3,_),(4,_),(5,_),(6,_)] (Rv (O.fO q (.obj q) fd44_2 q)<|Rv (O.ldO (y:=iR eProd_0 a0.Prods) q (.ptr q) ct42 q q)<|Vm q<|Rv (O.ixI (.imm q) (.lit q) sl42 hx11)<|Rv (O.ldIN (cs':=[I64 x11.Left,iR eI x11.Right,I64 x11.Prec,SS x11.Code,iR eI x11.Args,I64 x11.At]) (.iptr q) at148 q q)<|Rv (O.al (cs:=[I64 0,.nils,I64 0,SS S0,.nils,I64 0]) ze148 q q)<|RunL.sO (G2:=[(1,_),(3,_),(4,_),(5,_),(6,_)]) (cs2:=[I64 x11.Left,iR eI x11.Right,I64 x11.Prec,SS x11.Code,iR eI x11.Args,I64 x11.At]) q (.obj q) (.aggF q q) q sz148 q q q q (.n q q (.n q q (.n q q (.n q q (.b q .nil)))))<|Fi (tn5 q q q q q)) ?_
      refine Px.sq<|W.sq' ?_
      obtain ⟨c15,hj,h⟩:=bnd h
      refine W.rx [(1,.obj (eGrammar_0.cells a0)),(3,oR eB s6.1),(4,BB s6.2.1),(5,I64 s6.2.2),(6,.obj (eProd_0.cells x11)),(35,BB c15)] ?_ ?_
      ·refine Rv (O.mv (.own q))<|Rv (O.fO q (.obj q) fd148_0 q)<|Rv (O.ldO (y:=I64 x11.Left) q (.ptr q) ct3 q q) ?_
       obtain ⟨x12,hx12,hj⟩:=bnd hj
       refine Rv (O.ixO (en:=eB) q (.brw q) (.lit q) sl103 hx12 q)<|Rv (O.ldE (en:=eB) (x':=BB x12) q (.ptr q) ct4 hx12 q q)<|Rv (O.not (.lit q))<|Rv (O.mv (.lit q)) ?_
       rcases cnd hj with ⟨hb13,hj⟩ | ⟨hb13,hj⟩
       ·refine RunL.v (O.mv (.own q)) q q (.yb q q hb13)<|RunL.v (O.fO q (.obj q) fd148_1 q) q q (.yb q q hb13)<|RunL.v (O.ldO (y:=iR eI x11.Right) q (.ptr q) ct29 q q) q q (.yb q q hb13) ?_
        obtain ⟨x14,hx14,hj⟩:=bnd hj
        obtain rfl:=sm hj
        exact RunL.c (PC.vw (ys:=[.brw eB.z ⟨3,[]⟩ s6.1.length,iR eI x11.Right]) q (.c (.row q) (.s .nil)) (con107 s6.1 x11.Right _ hx14) call107 q) q q (.yb q q hb13)<|Rv (O.pkT (.lit q) hb13 (.lit q))<|Fi (tn6 q q q q q q)
       ·obtain rfl:=sm hj
        exact RunL.ps q q hb13 q q<|RunL.ps q q hb13 q q<|RunL.ps q q hb13 q q<|RunL.ps q q hb13 q q<|Rv (O.pkF (.lit q) hb13 (.k q))<|Fi (tn6 q q q q q q)
      refine Px.sq ?_
      obtain ⟨j16,hj,h⟩:=bnd h
      refine W.jn [(1,.obj (eGrammar_0.cells a0)),(3,oR eB j16.1),(4,BB j16.2),(5,I64 s6.2.2)] ?_ ?_
      ·clear h; have h:=hj; clear hj
       refine W.cnd q (fun hb17=>?_) (fun hb17=>?_)
       ·replace h:=cndT hb17 h
        refine W.sq' ?_
        obtain ⟨x18,hx18,h⟩:=bnd h
        refine W.rx [(1,_),(3,_),(5,_)] (Rv (O.mv (.own q))<|Rv (O.fO q (.obj q) fd148_0 q)<|Rv (O.ldO (y:=I64 x11.Left) q (.ptr q) ct3 q q)<|Rv (O.ixO (en:=eB) q (.brw q) (.lit q) sl103 hx18 q)<|RunL.ef (G2:=[(1,.obj (eGrammar_0.cells a0)),(3,oR eB (s6.1.set x11.Left.toNat true)),(5,I64 s6.2.2)]) q (EO.stE (en:=eB) (y2:=true) (cs':=[BB true]) (x2:=oR eB (s6.1.set x11.Left.toNat true)) q q (.ptr q) (.k q) q hx18 sz4 q q q q q q q (.n q q (.b q (.n q q .nil))))<|Fi (tn3 q q q)) ?_
        refine Px.sq<|W.rx [(1,_),(3,_),(4,_),(5,_)] (Vk q<|Fi (tn4 q q q q)) ?_
        obtain rfl:=sm h
        exact Px.jn (tn4 q q q q)
       ·replace h:=cndF hb17 h
        refine W.sk ?_
        obtain rfl:=sm h
        exact Px.jn (tn4 q q q q)
      refine Px.bk ?_
      obtain rfl:=sm h
      exact Px.jn (tn4 q q q q)
     refine Px.sq<|W.rx [(1,_),(3,_),(4,_),(5,_)] (Vm q<|Rv (O.add (.lit q) (.k q))<|RunL.re (G1:=[(1,_),(3,_),(4,_),(18,_)]) (tn4 q q q q)<|Va q<|Fi (tn4 q q q q)) ?_
     obtain rfl:=sm h
     exact Px.go (tn4 q q q q)
    ·replace h:=cndF hb9 h
     refine W.xi ?_
     refine Px.sqE ?_
     obtain rfl:=sm h
     exact Px.x1 (tn3 q q q)
   refine Px.bkH ?_
   refine Px.bk ?_
   obtain rfl:=sm h
   exact Px.go (tn3 q q q)
  ·replace h:=cndF hb5 h
   refine W.xi ?_
   refine Px.sqE ?_
   obtain rfl:=sm h
   exact Px.x1 (.n q .nil)
 refine Px.bkH ?_
 refine Px.sq<|W.sq' ?_
 refine W.rx [(2,_)] (Rv (O.mv (.own q))<|RunL.ea (G2:=[]) q (EO.aR q q (.brw q) q .nil q q)<|Fi (.n q .nil)) ?_
 refine Px.sq<|W.fz (G1:=[(2,iR eB x3)]) [2] (.z q q .zz .nil) ?_
 refine W.rt ?_
 obtain rfl:=sm h
 exact Px.fin (Fin.ro (.f q q .nil) q (ode (by kernel_rfl)) (.no .nil) q (.inr q))
theorem con106 (a0:(List Trans)) (a1:Int) (a2:Int) (r:Int) (h:pf106 a0 a1 a2=some r):Con Try.prog 106 [iR eTrans a0,I64 a1,I64 a2] [none,none,none] (I64 r):=by
 unfold pf106 at h
 refine Con.go (N:=⟨31,[]⟩) Try.func106 q q q q (W.fin ?_)
 refine W.st [(0,iR eTrans a0),(1,I64 a1),(2,I64 a2)] ?_
 refine W.sq'<|W.rx [(0,_),(1,_),(2,_)] (Vk q<|Fi (tn3 q q q)) ?_
 refine Px.sq<|W.sq' ?_
 refine W.sq'<|W.rx [(0,_),(1,_),(2,_),(7,_)] (Vk q<|Fi (tn4 q q q q)) ?_
 refine Px.sq<|W.bk ?_
 obtain ⟨x2,hl,h⟩:=bnd h
 refine W.tr (G1:=[(0,_),(1,_),(2,_),(7,_)]) (tn4 q q q q) ?_
 refine W.lp2 (s:=0) (fun (s1:Int)=>[(0,iR eTrans a0),(1,I64 a1),(2,I64 a2),(7,I64 s1)]) 0 (fun (x3:Unit)=>[]) (fun (x4:Int)=>[(6,I64 x4)]) hl (fun s1 o h=>?_) (fun x3 hx=>?_) (fun x4 hx=>?_)
 ·clear hl
  refine W.sq'<|W.sq' ?_
  refine W.rx [(0,_),(1,_),(2,_),(7,_),(11,_)] (Vm q<|Rv (O.mv (.imm q))<|Rv (O.lenI (.imm q) sl158)<|Rv (O.lss (.lit q) (.lit q))<|Fi (tn5 q q q q q)) ?_
  refine Px.sq<|W.cnd q (fun hb5=>?_) (fun hb5=>?_)
  ·replace h:=cndT hb5 h
   refine W.sk<|Px.sq ?_
   refine W.sq'<|W.bk ?_
   refine W.sq' ?_
   obtain ⟨c9,hj,h⟩:=bnd h
   refine W.rx [(0,iR eTrans a0),(1,I64 a1),(2,I64 a2),(7,I64 s1),(29,BB c9)] ?_ ?_
   ·refine Rv (O.mv (.imm q))<|Rv (O.mv (.lit q)) ?_
    obtain ⟨x6,hx6,hj⟩:=bnd hj
    refine Rv (O.ixI (.imm q) (.lit q) sl158 hx6)<|Rv (O.fI (.iptr q) fd161_0)<|Rv (O.ldI (x:=I64 x6.State) (.iptr q) ct3 q)<|Vm q<|Rv (O.eql (.lit q) (.lit q))<|Rv (O.mv (.lit q)) ?_
    rcases cnd hj with ⟨hb7,hj⟩ | ⟨hb7,hj⟩
    ·refine RunL.v (O.mv (.imm q)) q q (.yb q q hb7)<|RunL.v (O.mv (.lit q)) q q (.yb q q hb7) ?_
     obtain ⟨x8,hx8,hj⟩:=bnd hj
     obtain rfl:=sm hj
     exact RunL.v (O.ixI (.imm q) (.lit q) sl158 hx8) q q (.yb q q hb7)<|RunL.v (O.fI (.iptr q) fd161_1) q q (.yb q q hb7)<|RunL.v (O.ldI (x:=I64 x8.Non) (.iptr q) ct3 q) q q (.yb q q hb7)<|RunL.v (O.mv (.lit q)) q q (.yb q q hb7)<|RunL.v (O.eql (.lit q) (.lit q)) q q (.yb q q hb7)<|Rv (O.pkT (.lit q) hb7 (.lit q))<|Fi (tn5 q q q q q)
    ·obtain rfl:=sm hj
     exact RunL.ps q q hb7 q q<|RunL.ps q q hb7 q q<|RunL.ps q q hb7 q q<|RunL.ps q q hb7 q q<|RunL.ps q q hb7 q q<|RunL.ps q q hb7 q q<|RunL.ps q q hb7 q q<|Rv (O.pkF (.lit q) hb7 (.k q))<|Fi (tn5 q q q q q)
   refine Px.sq<|W.cnd q (fun hb10=>?_) (fun hb10=>?_)
   ·replace h:=cndT hb10 h
    refine W.sq'<|W.rx [(6,_)] (Vm q<|Va q<|Fi (.n q .nil)) ?_
    refine Px.sq<|W.rt ?_
    refine Px.bkR ?_
    refine Px.sqR ?_
    obtain rfl:=sm h
    exact Px.r2 (.n q .nil)
   ·replace h:=cndF hb10 h
    refine W.sk<|Px.bk ?_
    refine Px.sq<|W.rx [(0,_),(1,_),(2,_),(7,_)] (Vm q<|Rv (O.add (.lit q) (.k q))<|RunL.re (G1:=[(0,_),(1,_),(2,_),(13,_)]) (tn4 q q q q)<|Va q<|Fi (tn4 q q q q)) ?_
    obtain rfl:=sm h
    exact Px.go (tn4 q q q q)
  ·replace h:=cndF hb5 h
   refine W.xi ?_
   refine Px.sqE ?_
   obtain rfl:=sm h
   exact Px.x2 .nil
 ·subst hx
  refine Px.bkH ?_
  refine Px.sq<|W.sq' ?_
  refine W.rx [(6,_)] (Vk q<|Fi (.n q .nil)) ?_
  refine Px.sq<|W.rt ?_
  obtain rfl:=sm h
  exact Px.fin (Fin.ro (.f q q .nil) q (ode (by kernel_rfl)) (.no (.no (.no .nil))) q (.inr q))
 ·subst hx
  refine Px.bkR ?_
  refine Px.sqR ?_
  obtain rfl:=sm h
  exact Px.fin (Fin.ro (.f q q .nil) q (ode (by kernel_rfl)) (.no (.no (.no .nil))) q (.inr q))
theorem con86 (a0:Grammar) (a1:(List State)) (r:(List (List Int))) (h:pf86 a0 a1=some r):Con Try.prog 86 [.agg (eGrammar_0.cells a0),iR eState_0 a1] [none,none] (iR (eM eI) r):=by
 unfold pf86 at h
 refine Con.go (N:=⟨74,[]⟩) Try.func86 q q q q (W.fin ?_)
 refine W.st [(0,.agg (eGrammar_0.cells a0)),(1,iR eState_0 a1)] ?_
 refine W.sq'<|W.rx [(1,_),(2,_)] (Rv (O.box (.aggF q q) q)<|Rv (O.az .knil)<|Fi (tn2 q q)) ?_
 refine Px.sq<|W.sq' ?_
 obtain ⟨x1,hx1,h⟩:=bnd h
 refine W.rx [(1,_),(2,_),(5,_)] (Rv (O.mv (.imm q))<|Rc (PC.go (.cc (.imm q) .nil) (con88 a1 _ hx1) call88 q)<|Rv (O.az (.imm q))<|Fi (tn3 q q q)) ?_
 refine Px.sq<|W.sq' ?_
 obtain ⟨x2,hx2,h⟩:=bnd h
 refine W.rx [(1,_),(5,_),(6,_)] (Rv (O.ldON (cs':=[iR eTok a0.Toks,iR eNon a0.Nons,iR eProd_0 a0.Prods,SS a0.Pro,SS a0.Tail]) q (.obj q) at44 q q)<|Rc (PC.go (.cc (.aggF q q) .nil) (con105 a0 _ hx2) call105 q)<|Rv (O.az (.imm q))<|Fi (tn3 q q q)) ?_
 refine Px.sq<|W.sq' ?_
 refine W.rx [(1,_),(5,_),(6,_),(7,_)] (Rv (O.az .knil)<|Fi (tn4 q q q q)) ?_
 refine Px.sq<|W.sq' ?_
 refine W.sq'<|W.rx [(1,_),(5,_),(6,_),(7,_),(8,_)] (Vk q<|Fi (tn5 q q q q q)) ?_
 refine Px.sq<|W.bk ?_
 obtain ⟨x4,hl,h⟩:=bnd h
 refine W.tr (G1:=[(1,_),(5,_),(6,_),(7,oR (eM eI) ([]:List (List Int))),(8,_)]) (.n q (.n q (.n q (.w q q .nilOwn (.n q .nil))))) ?_
 refine W.lp1 (s:=(([]:List (List Int)),0)) (fun (s3:List (List Int) × Int)=>[(1,iR eState_0 a1),(5,iR eTrans x1),(6,iR eB x2),(7,oR (eM eI) s3.1),(8,I64 s3.2)]) 0 (fun (x4:List (List Int))=>[(7,oR (eM eI) x4)]) hl (fun s3 o h=>?_) ?_
 ·clear hl
  refine W.sq'<|W.sq' ?_
  refine W.rx [(1,_),(5,_),(6,_),(7,_),(8,_),(20,_)] (Vm q<|Rv (O.mv (.imm q))<|Rv (O.lenI (.imm q) sl158)<|Rv (O.lss (.lit q) (.lit q))<|Fi (tn6 q q q q q q)) ?_
  refine Px.sq<|W.cnd q (fun hb6=>?_) (fun hb6=>?_)
  ·replace h:=cndT hb6 h
   refine W.sk<|Px.sq ?_
   refine W.sq'<|W.bk ?_
   refine W.sq'<|W.rx [(1,_),(5,_),(6,_),(7,_),(8,_),(9,_)] (Rv (O.az .knil)<|Fi (tn6 q q q q q q)) ?_
   refine Px.sq<|W.sq' ?_
   obtain ⟨x7,hx7,h⟩:=bnd h
   obtain ⟨x8,hx8,h⟩:=bnd h
   obtain ⟨x9,hx9,h⟩:=bnd h
   refine W.rd [[],[],[],[1,2],[1,2,3],[1,2,3,4],[],[],[6,7],[6,7,8],[6,7,8,9],rn 0 11 [],rn 0 12 []] [(1,_),(5,_),(6,_),(7,_),(8,_),(9,_),(10,_)] mixo (by kernel_rfl) (Dv 0 (O.mv (.imm q))<|Dv 1 (O.mv (.imm q))<|Dv 2 (O.mv (.lit q))<|Dv 3 (O.ixI (.imm q) (.lit q) sl158 hx7)<|Dv 4 (O.fI (.iptr q) fd161_0)<|Dv 5 (O.ldI (x:=I64 x7.State) (.iptr q) ct3 q)<|Dv 6 (O.mv (.imm q))<|Dv 7 (O.mv (.lit q))<|Dv 8 (O.ixI (.imm q) (.lit q) sl158 hx8)<|Dv 9 (O.fI (.iptr q) fd161_1)<|Dv 10 (O.ldI (x:=I64 x8.Non) (.iptr q) ct3 q)<|Dc 11 (PC.go (.cc (.imm q) (.cc (.lit q) (.cc (.lit q) .nil))) (con59 a1 x7.State x8.Non _ hx9) call59 q)<|Dv 12 (O.az (.lit q))<|DL.fin q q q (tn7 q q q q q q q)) ?_
   refine Px.sq<|W.sq' ?_
   refine W.sq'<|W.rx [(1,_),(5,_),(6,_),(7,_),(8,_),(9,_),(10,_),(11,_)] (Vk q<|Fi (tn8 q q q q q q q q)) ?_
   refine Px.sq<|W.bk ?_
   obtain ⟨x11,hl,h⟩:=bnd h
   refine W.tr (G1:=[(1,_),(5,_),(6,_),(7,_),(8,_),(9,iR eI ([]:List Int)),(10,_),(11,_)]) (.n q (.n q (.n q (.n q (.n q (.w q q .nilImm (tn2 q q))))))) ?_
   refine W.lp1 (s:=(([]:List Int),0)) (fun (s10:List Int × Int)=>[(1,iR eState_0 a1),(5,iR eTrans x1),(6,iR eB x2),(7,oR (eM eI) s3.1),(8,I64 s3.2),(9,iR eI s10.1),(10,I64 x9),(11,I64 s10.2)]) 2 (fun (x11:List Int)=>[(1,iR eState_0 a1),(5,iR eTrans x1),(6,iR eB x2),(7,oR (eM eI) s3.1),(8,I64 s3.2),(9,iR eI x11)]) hl (fun s10 o h=>?_) ?_
   ·clear hl
    refine W.sq'<|W.sq' ?_
    obtain ⟨x13,hx13,h⟩:=bnd h
    refine W.rx [(1,_),(5,_),(6,_),(7,_),(8,_),(9,_),(10,_),(11,_),(42,_)] (Vm q<|Rv (O.mv (.imm q))<|Vm q<|Rv (O.ixI (.imm q) (.lit q) sl64 hx13)<|Rv (O.fI (.iptr q) fd135_1)<|Rv (O.ldI (x:=iR eMove x13.Moves) (.iptr q) ct133 q)<|Rv (O.lenI (.imm q) sl133)<|Rv (O.lss (.lit q) (.lit q))<|Fi (tn9 q q q q q q q q q)) ?_
    refine Px.sq<|W.cnd q (fun hb14=>?_) (fun hb14=>?_)
    ·replace h:=cndT hb14 h
     refine W.sk<|Px.sq ?_
     refine W.sq' ?_
     obtain ⟨j15,hj,h⟩:=bnd h
     refine W.jn [(1,iR eState_0 a1),(5,iR eTrans x1),(6,iR eB x2),(7,oR (eM eI) s3.1),(8,I64 s3.2),(9,iR eI j15),(10,I64 x9),(11,I64 s10.2)] ?_ ?_
     ·clear h; have h:=hj; clear hj
      refine W.bk<|W.sq' ?_
      obtain ⟨x16,hx16,h⟩:=bnd h
      obtain ⟨x17,hx17,h⟩:=bnd h
      refine W.rx [(1,_),(5,_),(6,_),(7,_),(8,_),(9,_),(10,_),(11,_),(12,_)] (Rv (O.mv (.imm q))<|Vm q<|Rv (O.ixI (.imm q) (.lit q) sl64 hx16)<|Rv (O.fI (.iptr q) fd135_1)<|Rv (O.ldI (x:=iR eMove x16.Moves) (.iptr q) ct133 q)<|Vm q<|Rv (O.ixI (.imm q) (.lit q) sl133 hx17)<|Rv (O.fI (.iptr q) fd145_0)<|Rv (O.ldI (x:=I64 x17.Sym) (.iptr q) ct3 q)<|Va q<|Fi (tn9 q q q q q q q q q)) ?_
      refine Px.sq<|W.sq' ?_
      obtain ⟨c20,hj,h⟩:=bnd h
      refine W.rx [(1,iR eState_0 a1),(5,iR eTrans x1),(6,iR eB x2),(7,oR (eM eI) s3.1),(8,I64 s3.2),(9,iR eI s10.1),(10,I64 x9),(11,I64 s10.2),(12,I64 x17.Sym),(62,BB c20)] ?_ ?_
      ·refine Vm q<|Rv (O.geq (.lit q) (.k q))<|Rv (O.mv (.lit q)) ?_
       rcases cnd hj with ⟨hb18,hj⟩ | ⟨hb18,hj⟩
       ·refine RunL.v (O.mv (.imm q)) q q (.yb q q hb18)<|RunL.v (O.mv (.lit q)) q q (.yb q q hb18)<|RunL.v (O.sub (.lit q) (.k q)) q q (.yb q q hb18) ?_
        obtain ⟨x19,hx19,hj⟩:=bnd hj
        obtain rfl:=sm hj
        exact RunL.v (O.ixI (.imm q) (.lit q) sl103 hx19) q q (.yb q q hb18)<|RunL.v (O.ldI (x:=BB x19) (.iptr q) ct4 q) q q (.yb q q hb18)<|Rv (O.pkT (.lit q) hb18 (.lit q))<|Fi (tn10 q q q q q q q q q q)
       ·obtain rfl:=sm hj
        exact RunL.ps q q hb18 q q<|RunL.ps q q hb18 q q<|RunL.ps q q hb18 q q<|RunL.ps q q hb18 q q<|RunL.ps q q hb18 q q<|Rv (O.pkF (.lit q) hb18 (.k q))<|Fi (tn10 q q q q q q q q q q)
      refine Px.sq ?_
      obtain ⟨j21,hj,h⟩:=bnd h
      refine W.jn [(1,iR eState_0 a1),(5,iR eTrans x1),(6,iR eB x2),(7,oR (eM eI) s3.1),(8,I64 s3.2),(9,iR eI j21),(10,I64 x9),(11,I64 s10.2)] ?_ ?_
      ·clear h; have h:=hj; clear hj
       refine W.cnd q (fun hb22=>?_) (fun hb22=>?_)
       ·replace h:=cndT hb22 h
        obtain ⟨x23,hx23,h⟩:=bnd h
        obtain ⟨x24,hx24,h⟩:=bnd h
        refine W.rx [(1,_),(5,_),(6,_),(7,_),(8,_),(9,_),(10,_),(11,_)] (Rv (O.mv (.imm q))<|Rv (O.mv (.imm q))<|Vm q<|Vm q<|Rc (PC.go (.cc (.imm q) (.cc (.lit q) (.cc (.lit q) .nil))) (con106 x1 x9 x17.Sym _ hx23) call106 q)<|Rc (PC.go (.cc (.imm q) (.cc (.lit q) .nil)) (con67 s10.1 x23 _ hx24) call67 q)<|RunL.re (G1:=[(1,_),(5,_),(6,_),(7,_),(8,_),(10,_),(11,_),(68,_)]) (tn8 q q q q q q q q)<|Rv (O.az (.imm q))<|Fi (tn8 q q q q q q q q)) ?_
        obtain rfl:=sm h
        exact Px.jn (tn8 q q q q q q q q)
       ·replace h:=cndF hb22 h
        refine W.sk ?_
        obtain rfl:=sm h
        exact Px.jn (tn8 q q q q q q q q)
      refine Px.bk ?_
      obtain rfl:=sm h
      exact Px.jn (tn8 q q q q q q q q)
     refine Px.sq<|W.rx [(1,_),(5,_),(6,_),(7,_),(8,_),(9,_),(10,_),(11,_)] (Vm q<|Rv (O.add (.lit q) (.k q))<|RunL.re (G1:=[(1,_),(5,_),(6,_),(7,_),(8,_),(9,_),(10,_),(44,_)]) (tn8 q q q q q q q q)<|Va q<|Fi (tn8 q q q q q q q q)) ?_
     obtain rfl:=sm h
     exact Px.go (tn8 q q q q q q q q)
    ·replace h:=cndF hb14 h
     refine W.xi ?_
     refine Px.sqE ?_
     obtain rfl:=sm h
     exact Px.x1 (tn6 q q q q q q)
   refine Px.bkH ?_
   refine Px.sq ?_
   obtain ⟨x25,hx25,h⟩:=bnd h
   refine W.rx [(1,_),(5,_),(6,_),(7,_),(8,_)] (Rv (O.mv (.own q))<|Rv (O.mv (.imm q))<|RunL.vi (x:=iR (eM eI) [x11]) (O.bs (ys:=[iR eI x11]) (eM eI) [x11] sl34 q q q q q q zt29 q q) q q .none<|Rv (O.ap (en:=(eM eI)) (r:=x25) (.brw q) q (.imm q) .i ap34 q hx25)<|RunL.ea (G2:=[(1,iR eState_0 a1),(5,iR eTrans x1),(6,iR eB x2),(8,I64 s3.2)]) q (EO.aP q q (.pend q) q q q (.n q q (.n q q (.n q q (.n q q .nil)))) q q)<|Fi (tn5 q q q q q)) ?_
   refine Px.bk ?_
   refine Px.sq<|W.rx [(1,_),(5,_),(6,_),(7,_),(8,_)] (Vm q<|Rv (O.add (.lit q) (.k q))<|RunL.re (G1:=[(1,_),(5,_),(6,_),(7,_),(22,_)]) (tn5 q q q q q)<|Va q<|Fi (tn5 q q q q q)) ?_
   obtain rfl:=sm h
   exact Px.go (tn5 q q q q q)
  ·replace h:=cndF hb6 h
   refine W.xi ?_
   refine Px.sqE ?_
   obtain rfl:=sm h
   exact Px.x1 (.n q .nil)
 refine Px.bkH ?_
 refine Px.sq<|W.sq' ?_
 refine W.rx [(4,_)] (Rv (O.mv (.own q))<|RunL.ea (G2:=[]) q (EO.aR q q (.brw q) q .nil q q)<|Fi (.n q .nil)) ?_
 refine Px.sq<|W.fz (G1:=[(4,iR (eM eI) x4)]) [4] (.z q q .zz .nil) ?_
 refine W.rt ?_
 obtain rfl:=sm h
 exact Px.fin (Fin.ro (.f q q .nil) q (ode (by kernel_rfl)) (.no (.no .nil)) q (.inr q))
theorem con89 (a0:(List State)) (a1:Int) (a2:(List Int)) (r:Int) (h:pf89 a0 a1 a2=some r):Con Try.prog 89 [iR eState_0 a0,I64 a1,iR eI a2] [none,none,none] (I64 r):=by
 unfold pf89 at h
 refine Con.go (N:=⟨26,[]⟩) Try.func89 q q q q (W.fin ?_)
 refine W.st [(0,iR eState_0 a0),(1,I64 a1),(2,iR eI a2)] ?_
 refine W.sq'<|W.rx [(0,_),(1,_),(2,_)] (Vk q<|Fi (tn3 q q q)) ?_
 refine Px.sq<|W.sq' ?_
 refine W.sq'<|W.rx [(0,_),(1,_),(2,_),(7,_)] (Vk q<|Fi (tn4 q q q q)) ?_
 refine Px.sq<|W.bk ?_
 obtain ⟨x2,hl,h⟩:=bnd h
 refine W.tr (G1:=[(0,_),(1,_),(2,_),(7,_)]) (tn4 q q q q) ?_
 refine W.lp1 (s:=(a1,0)) (fun (s1:Int × Int)=>[(0,iR eState_0 a0),(1,I64 s1.1),(2,iR eI a2),(7,I64 s1.2)]) 0 (fun (x2:Int)=>[(1,I64 x2)]) hl (fun s1 o h=>?_) ?_
 ·clear hl
  refine W.sq'<|W.sq' ?_
  obtain ⟨c5,hj,h⟩:=bnd h
  refine W.rx [(0,iR eState_0 a0),(1,I64 s1.1),(2,iR eI a2),(7,I64 s1.2),(15,BB c5)] ?_ ?_
  ·refine Vm q<|Rv (O.mv (.imm q))<|Rv (O.lenI (.imm q) sl29)<|Rv (O.lss (.lit q) (.lit q))<|Rv (O.mv (.lit q)) ?_
   rcases cnd hj with ⟨hb4,hj⟩ | ⟨hb4,hj⟩
   ·obtain rfl:=sm hj
    exact RunL.v (O.mv (.lit q)) q q (.yb q q hb4)<|RunL.v (O.geq (.lit q) (.k q)) q q (.yb q q hb4)<|Rv (O.pkT (.lit q) hb4 (.lit q))<|Fi (tn5 q q q q q)
   ·obtain rfl:=sm hj
    exact RunL.ps q q hb4 q q<|RunL.ps q q hb4 q q<|Rv (O.pkF (.lit q) hb4 (.k q))<|Fi (tn5 q q q q q)
  refine Px.sq<|W.cnd q (fun hb6=>?_) (fun hb6=>?_)
  ·replace h:=cndT hb6 h
   refine W.sk<|Px.sq ?_
   refine W.sq'<|W.bk ?_
   obtain ⟨x7,hx7,h⟩:=bnd h
   obtain ⟨x8,hx8,h⟩:=bnd h
   refine W.rx [(0,_),(1,_),(2,_),(7,_)] (Rv (O.mv (.imm q))<|Vm q<|Rv (O.mv (.imm q))<|Vm q<|Rv (O.ixI (.imm q) (.lit q) sl29 hx7)<|Rv (O.ldI (x:=I64 x7) (.iptr q) ct3 q)<|Rc (PC.go (.cc (.imm q) (.cc (.lit q) (.cc (.lit q) .nil))) (con59 a0 s1.1 x7 _ hx8) call59 q)<|RunL.re (G1:=[(0,_),(2,_),(7,_),(24,_)]) (tn4 q q q q)<|Va q<|Fi (tn4 q q q q)) ?_
   refine Px.bk ?_
   refine Px.sq<|W.rx [(0,_),(1,_),(2,_),(7,_)] (Vm q<|Rv (O.add (.lit q) (.k q))<|RunL.re (G1:=[(0,_),(1,_),(2,_),(17,_)]) (tn4 q q q q)<|Va q<|Fi (tn4 q q q q)) ?_
   obtain rfl:=sm h
   exact Px.go (tn4 q q q q)
  ·replace h:=cndF hb6 h
   refine W.xi ?_
   refine Px.sqE ?_
   obtain rfl:=sm h
   exact Px.x1 (.n q .nil)
 refine Px.bkH ?_
 refine Px.sq<|W.sq' ?_
 refine W.rx [(6,_)] (Vm q<|Va q<|Fi (.n q .nil)) ?_
 refine Px.sq<|W.rt ?_
 obtain rfl:=sm h
 exact Px.fin (Fin.ro (.f q q .nil) q (ode (by kernel_rfl)) (.no (.no (.no .nil))) q (.inr q))
theorem con87 (a0:Grammar) (a1:(List State)) (r:(List (List Int))) (h:pf87 a0 a1=some r):Con Try.prog 87 [.agg (eGrammar_0.cells a0),iR eState_0 a1] [none,none] (iR (eM eI) r):=by
 unfold pf87 at h
 refine Con.go (N:=⟨104,[]⟩) Try.func87 q q q q (W.fin ?_)
 refine W.st [(0,.agg (eGrammar_0.cells a0)),(1,iR eState_0 a1)] ?_
 refine W.sq'<|W.rx [(1,_),(2,_)] (Rv (O.box (.aggF q q) q)<|Rv (O.az .knil)<|Fi (tn2 q q)) ?_
 refine Px.sq<|W.sq' ?_
 obtain ⟨x1,hx1,h⟩:=bnd h
 refine W.rx [(1,_),(2,_),(5,_)] (Rv (O.mv (.imm q))<|Rc (PC.go (.cc (.imm q) .nil) (con88 a1 _ hx1) call88 q)<|Rv (O.az (.imm q))<|Fi (tn3 q q q)) ?_
 refine Px.sq<|W.sq' ?_
 obtain ⟨x2,hx2,h⟩:=bnd h
 refine W.rx [(1,_),(2,_),(5,_),(6,_)] (Rv (O.ldON (cs':=[iR eTok a0.Toks,iR eNon a0.Nons,iR eProd_0 a0.Prods,SS a0.Pro,SS a0.Tail]) q (.obj q) at44 q q)<|Rc (PC.go (.cc (.aggF q q) .nil) (con105 a0 _ hx2) call105 q)<|Rv (O.az (.imm q))<|Fi (tn4 q q q q)) ?_
 refine Px.sq<|W.sq' ?_
 obtain ⟨x3,hx3,h⟩:=bnd h
 refine W.rx [(1,_),(2,_),(5,_),(6,_),(7,_)] (Rv (O.mv (.imm q))<|Rv (O.lenI (.imm q) sl158)<|Rv (O.mkN (e:=eI) sl34 (.lit q) (.lit q) ze29 q q hx3 bb29 q)<|RunL.ea (G2:=[(1,iR eState_0 a1),(2,.obj (eGrammar_0.cells a0)),(5,iR eTrans x1),(6,iR eB x2)]) q (EO.aR q q (.own q) q (.n q q (.n q q (.n q q (.n q q .nil)))) q q)<|Fi (tn5 q q q q q)) ?_
 refine Px.sq<|W.sq' ?_
 refine W.sq'<|W.rx [(1,_),(2,_),(5,_),(6,_),(7,_),(8,_)] (Vk q<|Fi (tn6 q q q q q q)) ?_
 refine Px.sq<|W.bk ?_
 obtain ⟨x5,hl,h⟩:=bnd h
 refine W.tr (G1:=[(1,_),(2,_),(5,_),(6,_),(7,_),(8,_)]) (tn6 q q q q q q) ?_
 refine W.lp1 (s:=(x3,0)) (fun (s4:List (List Int) × Int)=>[(1,iR eState_0 a1),(2,.obj (eGrammar_0.cells a0)),(5,iR eTrans x1),(6,iR eB x2),(7,oR (eM eI) s4.1),(8,I64 s4.2)]) 0 (fun (x5:List (List Int))=>[(7,oR (eM eI) x5)]) hl (fun s4 o h=>?_) ?_
 ·clear hl
  refine W.sq'<|W.sq' ?_
  refine W.rx [(1,_),(2,_),(5,_),(6,_),(7,_),(8,_),(24,_)] (Vm q<|Rv (O.mv (.imm q))<|Rv (O.lenI (.imm q) sl158)<|Rv (O.lss (.lit q) (.lit q))<|Fi (tn7 q q q q q q q)) ?_
  refine Px.sq<|W.cnd q (fun hb7=>?_) (fun hb7=>?_)
  ·replace h:=cndT hb7 h
   refine W.sk<|Px.sq ?_
   refine W.sq'<|W.bk ?_
   refine W.sq'<|W.rx [(1,_),(2,_),(5,_),(6,_),(7,_),(8,_),(9,_)] (Vk q<|Fi (tn7 q q q q q q q)) ?_
   refine Px.sq<|W.bk ?_
   obtain ⟨x9,hl,h⟩:=bnd h
   refine W.tr (G1:=[(1,_),(2,_),(5,_),(6,_),(7,_),(8,_),(9,_)]) (tn7 q q q q q q q) ?_
   refine W.lp1 (s:=(s4.1,0)) (fun (s8:List (List Int) × Int)=>[(1,iR eState_0 a1),(2,.obj (eGrammar_0.cells a0)),(5,iR eTrans x1),(6,iR eB x2),(7,oR (eM eI) s8.1),(8,I64 s4.2),(9,I64 s8.2)]) 2 (fun (x9:List (List Int))=>[(1,iR eState_0 a1),(2,.obj (eGrammar_0.cells a0)),(5,iR eTrans x1),(6,iR eB x2),(7,oR (eM eI) x9),(8,I64 s4.2)]) hl (fun s8 o h=>?_) ?_
   ·clear hl
    refine W.sq'<|W.sq' ?_
    refine W.rx [(1,_),(2,_),(5,_),(6,_),(7,_),(8,_),(9,_),(31,_)] (Vm q<|Rv (O.fO q (.obj q) fd44_2 q)<|Rv (O.ldO (y:=iR eProd_0 a0.Prods) q (.ptr q) ct42 q q)<|Rv (O.lenI (.imm q) sl42)<|Rv (O.lss (.lit q) (.lit q))<|Fi (tn8 q q q q q q q q)) ?_
    refine Px.sq<|W.cnd q (fun hb11=>?_) (fun hb11=>?_)
    ·replace h:=cndT hb11 h
     refine W.sk<|Px.sq ?_
     refine W.sq' ?_
     obtain ⟨j12,hj,h⟩:=bnd h
     refine W.jn [(1,iR eState_0 a1),(2,.obj (eGrammar_0.cells a0)),(5,iR eTrans x1),(6,iR eB x2),(7,oR (eM eI) j12),(8,I64 s4.2),(9,I64 s8.2)] ?_ ?_
     ·clear h; have h:=hj; clear hj
      refine W.bk<|W.sq' ?_
      obtain ⟨x13,hx13,h⟩:=bnd h
      refine W.rx [(1,_),(2,_),(5,_),(6,_),(7,_),(8,_),(9,_),(10,_)] (Rv (O.fO q (.obj q) fd44_2 q)<|Rv (O.ldO (y:=iR eProd_0 a0.Prods) q (.ptr q) ct42 q q)<|Vm q<|Rv (O.ixI (.imm q) (.lit q) sl42 hx13)<|Rv (O.fI (.iptr q) fd148_1)<|Rv (O.ldI (x:=iR eI x13.Right) (.iptr q) ct29 q)<|Rv (O.az (.imm q))<|Fi (tn8 q q q q q q q q)) ?_
      refine Px.sq<|W.sq' ?_
      refine W.sq' ?_
      obtain ⟨x14,hx14,h⟩:=bnd h
      obtain ⟨x15,hx15,h⟩:=bnd h
      refine W.rd [[],[0],[],[0,1,2],[0,1,2,3],rn 0 5 [],rn 0 6 [],[],[],[7,8],[7,8,9],[7,8,9,10],rn 0 12 []] [(1,_),(2,_),(5,_),(6,_),(7,_),(8,_),(9,_),(10,_),(52,_)] mixo (by kernel_rfl) (Dv 0 (O.fO q (.obj q) fd44_2 q)<|Dv 1 (O.ldO (y:=iR eProd_0 a0.Prods) q (.ptr q) ct42 q q)<|Dv 2 (O.mv (.lit q))<|Dv 3 (O.ixI (.imm q) (.lit q) sl42 hx14)<|Dv 4 (O.fI (.iptr q) fd148_0)<|Dv 5 (O.ldI (x:=I64 x14.Left) (.iptr q) ct3 q)<|Dv 6 (O.add (.k q) (.lit q))<|Dv 7 (O.mv (.imm q))<|Dv 8 (O.mv (.lit q))<|Dv 9 (O.ixI (.imm q) (.lit q) sl158 hx15)<|Dv 10 (O.fI (.iptr q) fd161_1)<|Dv 11 (O.ldI (x:=I64 x15.Non) (.iptr q) ct3 q)<|Dv 12 (O.neq (.lit q) (.lit q))<|DL.fin q q q (tn9 q q q q q q q q q)) ?_
      refine Px.sq<|W.cnd q (fun hb16=>?_) (fun hb16=>?_)
      ·replace h:=cndT hb16 h
       refine W.xi ?_
       refine Px.sqE ?_
       refine Px.bkH ?_
       obtain rfl:=sm h
       exact Px.jn (tn7 q q q q q q q)
      ·replace h:=cndF hb16 h
       refine W.sk<|Px.sq ?_
       refine W.sq'<|W.rx [(1,_),(2,_),(5,_),(6,_),(7,_),(8,_),(9,_),(10,_),(11,_)] (Vk q<|Fi (tn9 q q q q q q q q q)) ?_
       refine Px.sq<|W.bk ?_
       obtain ⟨x18,hl,h⟩:=bnd h
       refine W.tr (G1:=[(1,_),(2,_),(5,_),(6,_),(7,_),(8,_),(9,_),(10,_),(11,_)]) (tn9 q q q q q q q q q) ?_
       refine W.lp1 (s:=(s8.1,0)) (fun (s17:List (List Int) × Int)=>[(1,iR eState_0 a1),(2,.obj (eGrammar_0.cells a0)),(5,iR eTrans x1),(6,iR eB x2),(7,oR (eM eI) s17.1),(8,I64 s4.2),(9,I64 s8.2),(10,iR eI x13.Right),(11,I64 s17.2)]) 4 (fun (x18:List (List Int))=>[(1,iR eState_0 a1),(2,.obj (eGrammar_0.cells a0)),(5,iR eTrans x1),(6,iR eB x2),(7,oR (eM eI) x18),(8,I64 s4.2),(9,I64 s8.2)]) hl (fun s17 o h=>?_) ?_
       ·clear hl
        refine W.sq'<|W.sq' ?_
        refine W.rx [(1,_),(2,_),(5,_),(6,_),(7,_),(8,_),(9,_),(10,_),(11,_),(56,_)] (Vm q<|Rv (O.mv (.imm q))<|Rv (O.lenI (.imm q) sl29)<|Rv (O.lss (.lit q) (.lit q))<|Fi (tn10 q q q q q q q q q q)) ?_
        refine Px.sq<|W.cnd q (fun hb20=>?_) (fun hb20=>?_)
        ·replace h:=cndT hb20 h
         refine W.sk<|Px.sq ?_
         refine W.sq' ?_
         obtain ⟨j21,hj,h⟩:=bnd h
         refine W.jn [(1,iR eState_0 a1),(2,.obj (eGrammar_0.cells a0)),(5,iR eTrans x1),(6,iR eB x2),(7,oR (eM eI) j21),(8,I64 s4.2),(9,I64 s8.2),(10,iR eI x13.Right),(11,I64 s17.2)] ?_ ?_
         ·clear h; have h:=hj; clear hj
          refine W.bk<|W.sq' ?_
          refine W.sq' ?_
          obtain ⟨c26,hj,h⟩:=bnd h
          refine W.rx [(1,iR eState_0 a1),(2,.obj (eGrammar_0.cells a0)),(5,iR eTrans x1),(6,iR eB x2),(7,oR (eM eI) s17.1),(8,I64 s4.2),(9,I64 s8.2),(10,iR eI x13.Right),(11,I64 s17.2),(72,BB c26)] ?_ ?_
          ·refine Rv (O.mv (.imm q))<|Rv (O.mv (.lit q)) ?_
           obtain ⟨x22,hx22,hj⟩:=bnd hj
           refine Rv (O.ixI (.imm q) (.lit q) sl29 hx22)<|Rv (O.ldI (x:=I64 x22) (.iptr q) ct3 q)<|Rv (O.lss (.lit q) (.k q))<|Rv (O.mv (.lit q)) ?_
           rcases cnd hj with ⟨hb23,hj⟩ | ⟨hb23,hj⟩
           ·obtain rfl:=sm hj
            exact RunL.ps q q hb23 q q<|RunL.ps q q hb23 q q<|RunL.ps q q hb23 q q<|RunL.ps q q hb23 q q<|RunL.ps q q hb23 q q<|RunL.ps q q hb23 q q<|RunL.ps q q hb23 q q<|Rv (O.pkT (.lit q) hb23 (.k q))<|Fi (tn10 q q q q q q q q q q)
           ·refine RunL.v (O.mv (.imm q)) q q (.yb q q hb23)<|RunL.v (O.mv (.imm q)) q q (.yb q q hb23)<|RunL.v (O.mv (.lit q)) q q (.yb q q hb23)<|RunL.v (O.add (.lit q) (.k q)) q q (.yb q q hb23) ?_
            obtain ⟨x24,hx24,hj⟩:=bnd hj
            refine RunL.v (O.slI1 (.imm q) (.lit q) sl29 hx24) q q (.yb q q hb23) ?_
            obtain ⟨x25,hx25,hj⟩:=bnd hj
            obtain rfl:=sm hj
            exact RunL.c (PC.go (.cc (.imm q) (.cc (.imm q) .nil)) (con107 x2 x24 _ hx25) call107 q) q q (.yb q q hb23)<|RunL.v (O.not (.lit q)) q q (.yb q q hb23)<|Rv (O.pkF (.lit q) hb23 (.lit q))<|Fi (tn10 q q q q q q q q q q)
          refine Px.sq<|W.cnd q (fun hb27=>?_) (fun hb27=>?_)
          ·replace h:=cndT hb27 h
           refine W.xi ?_
           refine Px.sqE ?_
           refine Px.bkH ?_
           obtain rfl:=sm h
           exact Px.jn (tn9 q q q q q q q q q)
          ·replace h:=cndF hb27 h
           refine W.sk<|Px.sq ?_
           refine W.sq' ?_
           obtain ⟨x28,hx28,h⟩:=bnd h
           obtain ⟨x29,hx29,h⟩:=bnd h
           obtain ⟨x30,hx30,h⟩:=bnd h
           refine W.rd [[],[],[],[1,2],[1,2,3],[1,2,3,4],[],[],[6,7],rn 0 9 [],rn 0 10 []] [(1,_),(2,_),(5,_),(6,_),(7,_),(8,_),(9,_),(10,_),(11,_),(12,_)] mixo (by kernel_rfl) (Dv 0 (O.mv (.imm q))<|Dv 1 (O.mv (.imm q))<|Dv 2 (O.mv (.lit q))<|Dv 3 (O.ixI (.imm q) (.lit q) sl158 hx28)<|Dv 4 (O.fI (.iptr q) fd161_0)<|Dv 5 (O.ldI (x:=I64 x28.State) (.iptr q) ct3 q)<|Dv 6 (O.mv (.imm q))<|Dv 7 (O.mv (.lit q))<|Dv 8 (O.slI0 (.imm q) (.lit q) sl29 hx29)<|Dc 9 (PC.go (.cc (.imm q) (.cc (.lit q) (.cc (.imm q) .nil))) (con89 a1 x28.State x29 _ hx30) call89 q)<|Dv 10 (O.az (.lit q))<|DL.fin q q q (tn10 q q q q q q q q q q)) ?_
           refine Px.sq<|W.sq' ?_
           refine W.rx [(1,_),(2,_),(5,_),(6,_),(7,_),(8,_),(9,_),(10,_),(11,_),(12,_),(84,_)] (Vm q<|Rv (O.geq (.lit q) (.k q))<|Fi (tn11 q q q q q q q q q q q)) ?_
           refine Px.sq ?_
           obtain ⟨j31,hj,h⟩:=bnd h
           refine W.jn [(1,iR eState_0 a1),(2,.obj (eGrammar_0.cells a0)),(5,iR eTrans x1),(6,iR eB x2),(7,oR (eM eI) j31),(8,I64 s4.2),(9,I64 s8.2),(10,iR eI x13.Right),(11,I64 s17.2)] ?_ ?_
           ·clear h; have h:=hj; clear hj
            refine W.cnd q (fun hb32=>?_) (fun hb32=>?_)
            ·replace h:=cndT hb32 h
             refine W.sq' ?_
             obtain ⟨x33,hx33,h⟩:=bnd h
             obtain ⟨x34,hx34,h⟩:=bnd h
             refine W.rx [(1,_),(2,_),(5,_),(6,_),(7,_),(8,_),(9,_),(10,_),(11,_),(13,_)] (Rv (O.mv (.imm q))<|Vm q<|Rv (O.mv (.imm q))<|Vm q<|Rv (O.ixI (.imm q) (.lit q) sl29 hx33)<|Rv (O.ldI (x:=I64 x33) (.iptr q) ct3 q)<|Rc (PC.go (.cc (.imm q) (.cc (.lit q) (.cc (.lit q) .nil))) (con106 x1 x30 x33 _ hx34) call106 q)<|Va q<|Fi (tn10 q q q q q q q q q q)) ?_
             refine Px.sq<|W.sq' ?_
             refine W.rx [(1,_),(2,_),(5,_),(6,_),(7,_),(8,_),(9,_),(10,_),(11,_),(13,_),(93,_)] (Vm q<|Rv (O.geq (.lit q) (.k q))<|Fi (tn11 q q q q q q q q q q q)) ?_
             refine Px.sq ?_
             obtain ⟨j35,hj,h⟩:=bnd h
             refine W.jn [(1,iR eState_0 a1),(2,.obj (eGrammar_0.cells a0)),(5,iR eTrans x1),(6,iR eB x2),(7,oR (eM eI) j35),(8,I64 s4.2),(9,I64 s8.2),(10,iR eI x13.Right),(11,I64 s17.2)] ?_ ?_
             ·clear h; have h:=hj; clear hj
              refine W.cnd q (fun hb36=>?_) (fun hb36=>?_)
              ·replace h:=cndT hb36 h
               obtain ⟨x37,hx37,h⟩:=bnd h
               obtain ⟨x38,hx38,h⟩:=bnd h
               refine W.rx [(1,_),(2,_),(5,_),(6,_),(7,_),(8,_),(9,_),(10,_),(11,_)] (Rv (O.mv (.own q))<|Vm q<|Rv (O.mv (.own q))<|Vm q<|Rv (O.ixO (en:=(eM eI)) q (.brw q) (.lit q) sl34 hx37 q)<|Rv (O.ldE (en:=(eM eI)) (x':=iR eI x37) q (.ptr q) ct29 hx37 q q)<|Vm q<|Rc (PC.go (.cc (.imm q) (.cc (.lit q) .nil)) (con67 x37 s4.2 _ hx38) call67 q)<|Rv (O.ixO (en:=(eM eI)) q (.brw q) (.lit q) sl34 hx37 q)<|RunL.ef (G2:=[(1,iR eState_0 a1),(2,.obj (eGrammar_0.cells a0)),(5,iR eTrans x1),(6,iR eB x2),(7,oR (eM eI) (s17.1.set x34.toNat x38)),(8,I64 s4.2),(9,I64 s8.2),(10,iR eI x13.Right),(11,I64 s17.2)]) q (EO.stE (en:=(eM eI)) (y2:=x38) (cs':=[iR eI x38]) (x2:=oR (eM eI) (s17.1.set x34.toNat x38)) q q (.ptr q) (.imm q) q hx37 sz29 q q q q q q q (.n q q (.n q q (.n q q (.n q q (.b q (.n q q (.n q q (.n q q (.n q q .nil))))))))))<|Fi (tn9 q q q q q q q q q)) ?_
               obtain rfl:=sm h
               exact Px.jn (tn9 q q q q q q q q q)
              ·replace h:=cndF hb36 h
               refine W.sk ?_
               obtain rfl:=sm h
               exact Px.jn (tn9 q q q q q q q q q)
             obtain rfl:=sm h
             exact Px.jn (tn9 q q q q q q q q q)
            ·replace h:=cndF hb32 h
             refine W.sk ?_
             obtain rfl:=sm h
             exact Px.jn (tn9 q q q q q q q q q)
           refine Px.bk ?_
           obtain rfl:=sm h
           exact Px.jn (tn9 q q q q q q q q q)
         refine Px.sq<|W.rx [(1,_),(2,_),(5,_),(6,_),(7,_),(8,_),(9,_),(10,_),(11,_)] (Vm q<|Rv (O.add (.lit q) (.k q))<|RunL.re (G1:=[(1,_),(2,_),(5,_),(6,_),(7,_),(8,_),(9,_),(10,_),(58,_)]) (tn9 q q q q q q q q q)<|Va q<|Fi (tn9 q q q q q q q q q)) ?_
         obtain rfl:=sm h
         exact Px.go (tn9 q q q q q q q q q)
        ·replace h:=cndF hb20 h
         refine W.xi ?_
         refine Px.sqE ?_
         obtain rfl:=sm h
         exact Px.x1 (tn7 q q q q q q q)
       refine Px.bkH ?_
       refine Px.bk ?_
       obtain rfl:=sm h
       exact Px.jn (tn7 q q q q q q q)
     refine Px.sq<|W.rx [(1,_),(2,_),(5,_),(6,_),(7,_),(8,_),(9,_)] (Vm q<|Rv (O.add (.lit q) (.k q))<|RunL.re (G1:=[(1,_),(2,_),(5,_),(6,_),(7,_),(8,_),(33,_)]) (tn7 q q q q q q q)<|Va q<|Fi (tn7 q q q q q q q)) ?_
     obtain rfl:=sm h
     exact Px.go (tn7 q q q q q q q)
    ·replace h:=cndF hb11 h
     refine W.xi ?_
     refine Px.sqE ?_
     obtain rfl:=sm h
     exact Px.x1 (tn6 q q q q q q)
   refine Px.bkH ?_
   refine Px.bk ?_
   refine Px.sq<|W.rx [(1,_),(2,_),(5,_),(6,_),(7,_),(8,_)] (Vm q<|Rv (O.add (.lit q) (.k q))<|RunL.re (G1:=[(1,_),(2,_),(5,_),(6,_),(7,_),(26,_)]) (tn6 q q q q q q)<|Va q<|Fi (tn6 q q q q q q)) ?_
   obtain rfl:=sm h
   exact Px.go (tn6 q q q q q q)
  ·replace h:=cndF hb7 h
   refine W.xi ?_
   refine Px.sqE ?_
   obtain rfl:=sm h
   exact Px.x1 (.n q .nil)
 refine Px.bkH ?_
 refine Px.sq<|W.sq' ?_
 refine W.rx [(4,_)] (Rv (O.mv (.own q))<|RunL.ea (G2:=[]) q (EO.aR q q (.brw q) q .nil q q)<|Fi (.n q .nil)) ?_
 refine Px.sq<|W.fz (G1:=[(4,iR (eM eI) x5)]) [4] (.z q q .zz .nil) ?_
 refine W.rt ?_
 obtain rfl:=sm h
 exact Px.fin (Fin.ro (.f q q .nil) q (ode (by kernel_rfl)) (.no (.no .nil)) q (.inr q))
theorem con71 (a0:Grammar) (a1:(List State)) (r:(List (List Int))) (h:pf71 a0 a1=some r):Con Try.prog 71 [.agg (eGrammar_0.cells a0),iR eState_0 a1] [none,none] (iR (eM eI) r):=by
 unfold pf71 at h
 refine Con.go (N:=⟨15,[]⟩) Try.func71 q q q q (W.fin ?_)
 refine W.st [(0,.agg (eGrammar_0.cells a0)),(1,iR eState_0 a1)] ?_
 refine W.sq'<|W.rx [(1,_),(2,_)] (Rv (O.box (.aggF q q) q)<|Rv (O.az .knil)<|Fi (tn2 q q)) ?_
 refine Px.sq<|W.sq' ?_
 obtain ⟨x1,hx1,h⟩:=bnd h
 obtain ⟨x2,hx2,h⟩:=bnd h
 obtain ⟨x3,hx3,h⟩:=bnd h
 obtain ⟨x4,hx4,h⟩:=bnd h
 obtain ⟨x5,hx5,h⟩:=bnd h
 refine W.rdp [0,1,2,3,4,6,7,5,8,9,10] [[],[0],[],[],[0,1,2,3],[],[],rn 0 5 [],rn 0 8 [],rn 0 9 [],rn 0 10 []] [(4,_)] mixo (by kernel_rfl) (by kernel_rfl) (Dv 0 (O.mv (.imm q))<|Dc 1 (PC.go (.cc (.imm q) .nil) (con85 a1 _ hx1) call85 q)<|Dv 2 (O.ldON (cs':=[iR eTok a0.Toks,iR eNon a0.Nons,iR eProd_0 a0.Prods,SS a0.Pro,SS a0.Tail]) q (.obj q) at44 q q)<|Dv 3 (O.mv (.imm q))<|Dc 4 (PC.go (.cc (.aggF q q) (.cc (.imm q) .nil)) (con86 a0 a1 _ hx2) call86 q)<|Dv 5 (O.ldON (cs':=[iR eTok a0.Toks,iR eNon a0.Nons,iR eProd_0 a0.Prods,SS a0.Pro,SS a0.Tail]) q (.obj q) at44 q q)<|Dv 6 (O.mv (.imm q))<|DL.bu 7 (G2:=[(10,oR (eM eI) x3),(1,iR eState_0 a1),(2,.obj (eGrammar_0.cells a0))]) (U:=[(6,12,some (iR eState_0 a1)),(5,11,some (.agg [iR eTok a0.Toks,iR eNon a0.Nons,iR eProd_0 a0.Prods,SS a0.Pro,SS a0.Tail]))]) (EffOk.v (EO.eff (EO.call q q (CallOk.tn (en:=(eM eI)) (L:=x1) (G2:=[(1,iR eState_0 a1),(2,.obj (eGrammar_0.cells a0))]) (ys:=[iR (eM eI) x2]) q q q q (con84 x1 x2 _ hx3) call84 (tn2 q q) q q)))) q q (by kernel_rfl) q q q (.c (.inr (.inr (.inr (.inr (.inl ⟨_,_,_,q,NRc.nr⟩))))) q q q q q (Gd.wanted .none) (O.mv (.imm q)) (.c (.inr (.inr (.inr (.inr (.inr ⟨_,q,Plc.pl,cloN⟩))))) q q q q q (Gd.wanted .none) (O.ldON (cs':=[iR eTok a0.Toks,iR eNon a0.Nons,iR eProd_0 a0.Prods,SS a0.Pro,SS a0.Tail]) q (.obj q) at44 q q) .nil)) (by kernel_rfl)<|Dc 8 (PC.go (.cc (.aggF q q) (.cc (.imm q) .nil)) (con87 a0 a1 _ hx4) call87 q)<|DL.bp 9 (G2:=[(14,oR (eM eI) x5)]) (EO.call q q (CallOk.tn (en:=(eM eI)) (L:=x3) (G2:=[]) (ys:=[iR (eM eI) x4]) q q q q (con84 x3 x4 _ hx5) call84 .nil q q)) q q q q (by kernel_rfl) (by kernel_rfl)<|DL.bv 10 (G2:=[]) (EO.aR q q (.own q) q .nil q q) q q q q (by kernel_rfl) (by kernel_rfl)<|DL.fin q q q (.n q .nil)) ?_
 refine Px.sq<|W.fz (G1:=[(4,iR (eM eI) x5)]) [4] (.z q q .zz .nil) ?_
 refine W.rt ?_
 obtain rfl:=sm h
 exact Px.fin (Fin.ro (.f q q .nil) q (ode (by kernel_rfl)) (.no (.no .nil)) q (.inr q))
theorem con72 (a0:Grammar) (a1:(List Item)) (r:(List Int)) (h:pf72 a0 a1=some r):Con Try.prog 72 [.agg (eGrammar_0.cells a0),iR eItem a1] [none,none] (iR eI r):=by
 unfold pf72 at h
 refine Con.go (N:=⟨51,[]⟩) Try.func72 q q q q (W.fin ?_)
 refine W.st [(0,.agg (eGrammar_0.cells a0)),(1,iR eItem a1)] ?_
 refine W.sq'<|W.rx [(1,_),(2,_)] (Rv (O.box (.aggF q q) q)<|Rv (O.az .knil)<|Fi (tn2 q q)) ?_
 refine Px.sq<|W.sq' ?_
 refine W.rx [(1,_),(2,_),(5,_)] (Rv (O.az .knil)<|Fi (tn3 q q q)) ?_
 refine Px.sq<|W.sq' ?_
 obtain ⟨x1,hx1,h⟩:=bnd h
 refine W.rx [(2,_),(5,_),(6,_)] (Rv (O.ldON (cs':=[iR eTok a0.Toks,iR eNon a0.Nons,iR eProd_0 a0.Prods,SS a0.Pro,SS a0.Tail]) q (.obj q) at44 q q)<|Rv (O.mv (.imm q))<|Rc (PC.go (.cc (.aggF q q) (.cc (.imm q) .nil)) (con80 a0 a1 _ hx1) call80 q)<|Rv (O.az (.imm q))<|Fi (tn3 q q q)) ?_
 refine Px.sq<|W.sq' ?_
 refine W.sq'<|W.rx [(2,_),(5,_),(6,_),(7,_)] (Vk q<|Fi (tn4 q q q q)) ?_
 refine Px.sq<|W.bk ?_
 obtain ⟨x3,hl,h⟩:=bnd h
 refine W.tr (G1:=[(2,_),(5,oR eI ([]:List Int)),(6,_),(7,_)]) (.n q (.w q q .nilOwn (tn2 q q))) ?_
 refine W.lp1 (s:=(([]:List Int),0)) (fun (s2:List Int × Int)=>[(2,.obj (eGrammar_0.cells a0)),(5,oR eI s2.1),(6,iR eItem x1),(7,I64 s2.2)]) 0 (fun (x3:List Int)=>[(5,oR eI x3)]) hl (fun s2 o h=>?_) ?_
 ·clear hl
  refine W.sq'<|W.sq' ?_
  refine W.rx [(2,_),(5,_),(6,_),(7,_),(14,_)] (Vm q<|Rv (O.mv (.imm q))<|Rv (O.lenI (.imm q) sl132)<|Rv (O.lss (.lit q) (.lit q))<|Fi (tn5 q q q q q)) ?_
  refine Px.sq<|W.cnd q (fun hb5=>?_) (fun hb5=>?_)
  ·replace h:=cndT hb5 h
   refine W.sk<|Px.sq ?_
   refine W.sq' ?_
   obtain ⟨j6,hj,h⟩:=bnd h
   refine W.jn [(2,.obj (eGrammar_0.cells a0)),(5,oR eI j6),(6,iR eItem x1),(7,I64 s2.2)] ?_ ?_
   ·clear h; have h:=hj; clear hj
    refine W.bk<|W.sq' ?_
    obtain ⟨c12,hj,h⟩:=bnd h
    refine W.rd [[],[],[0,1],[0,1,2],[0,1,2,3],rn 0 5 [],rn 0 6 [],rn 0 7 [],rn 0 7 [],rn 0 9 [],rn 0 10 [],rn 0 11 [],rn 0 7 [],rn 0 7 [12],rn 0 7 [],rn 0 7 [],rn 0 7 [14,15],rn 0 7 [14,15,16],rn 0 7 [14,15,16,17],rn 0 7 (rn 12 7 []),rn 0 7 (rn 12 8 []),rn 0 7 (rn 12 9 []),rn 0 7 (rn 12 10 []),rn 0 23 [],rn 0 24 []] [(2,.obj (eGrammar_0.cells a0)),(5,oR eI s2.1),(6,iR eItem x1),(7,I64 s2.2),(41,BB c12)] mixo (by kernel_rfl) ?_ ?_
    ·refine Dv 0 (O.mv (.imm q))<|Dv 1 (O.mv (.lit q)) ?_
     obtain ⟨x7,hx7,hj⟩:=bnd hj
     refine Dv 2 (O.ixI (.imm q) (.lit q) sl132 hx7)<|Dv 3 (O.fI (.iptr q) fd137_0)<|Dv 4 (O.ldI (x:=I64 x7.Prod) (.iptr q) ct3 q)<|Dv 5 (O.gtr (.lit q) (.k q))<|Dv 6 (O.mv (.lit q)) ?_
     rcases cnd hj with ⟨hb8,hj⟩ | ⟨hb8,hj⟩
     ·refine DL.v 7 (O.mv (.imm q)) q q q q (.yb q q hb8)<|DL.v 8 (O.mv (.lit q)) q q q q (.yb q q hb8) ?_
      obtain ⟨x9,hx9,hj⟩:=bnd hj
      refine DL.v 9 (O.ixI (.imm q) (.lit q) sl132 hx9) q q q q (.yb q q hb8)<|DL.v 10 (O.fI (.iptr q) fd137_1) q q q q (.yb q q hb8)<|DL.v 11 (O.ldI (x:=I64 x9.Dot) (.iptr q) ct3 q) q q q q (.yb q q hb8)<|DL.v 12 (O.fO q (.obj q) fd44_2 q) q q q q (.yb q q hb8)<|DL.v 13 (O.ldO (y:=iR eProd_0 a0.Prods) q (.ptr q) ct42 q q) q q q q (.yb q q hb8)<|DL.v 14 (O.mv (.imm q)) q q q q (.yb q q hb8)<|DL.v 15 (O.mv (.lit q)) q q q q (.yb q q hb8) ?_
      obtain ⟨x10,hx10,hj⟩:=bnd hj
      refine DL.v 16 (O.ixI (.imm q) (.lit q) sl132 hx10) q q q q (.yb q q hb8)<|DL.v 17 (O.fI (.iptr q) fd137_0) q q q q (.yb q q hb8)<|DL.v 18 (O.ldI (x:=I64 x10.Prod) (.iptr q) ct3 q) q q q q (.yb q q hb8) ?_
      obtain ⟨x11,hx11,hj⟩:=bnd hj
      obtain rfl:=sm hj
      exact DL.v 19 (O.ixI (.imm q) (.lit q) sl42 hx11) q q q q (.yb q q hb8)<|DL.v 20 (O.fI (.iptr q) fd148_1) q q q q (.yb q q hb8)<|DL.v 21 (O.ldI (x:=iR eI x11.Right) (.iptr q) ct29 q) q q q q (.yb q q hb8)<|DL.v 22 (O.lenI (.imm q) sl29) q q q q (.yb q q hb8)<|DL.v 23 (O.eql (.lit q) (.lit q)) q q q q (.yb q q hb8)<|Dv 24 (O.pkT (.lit q) hb8 (.lit q))<|DL.fin q q q (tn5 q q q q q)
     ·obtain rfl:=sm hj
      exact DL.ps 7 q q hb8 q q q q<|DL.ps 8 q q hb8 q q q q<|DL.ps 9 q q hb8 q q q q<|DL.ps 10 q q hb8 q q q q<|DL.ps 11 q q hb8 q q q q<|DL.ps 12 q q hb8 q q q q<|DL.ps 13 q q hb8 q q q q<|DL.ps 14 q q hb8 q q q q<|DL.ps 15 q q hb8 q q q q<|DL.ps 16 q q hb8 q q q q<|DL.ps 17 q q hb8 q q q q<|DL.ps 18 q q hb8 q q q q<|DL.ps 19 q q hb8 q q q q<|DL.ps 20 q q hb8 q q q q<|DL.ps 21 q q hb8 q q q q<|DL.ps 22 q q hb8 q q q q<|DL.ps 23 q q hb8 q q q q<|Dv 24 (O.pkF (.lit q) hb8 (.k q))<|DL.fin q q q (tn5 q q q q q)
    refine Px.sq ?_
    obtain ⟨j13,hj,h⟩:=bnd h
    refine W.jn [(2,.obj (eGrammar_0.cells a0)),(5,oR eI j13),(6,iR eItem x1),(7,I64 s2.2)] ?_ ?_
    ·clear h; have h:=hj; clear hj
     refine W.cnd q (fun hb14=>?_) (fun hb14=>?_)
     ·replace h:=cndT hb14 h
      obtain ⟨x15,hx15,h⟩:=bnd h
      obtain ⟨x16,hx16,h⟩:=bnd h
      refine W.rx [(2,_),(5,_),(6,_),(7,_)] (Rv (O.mv (.own q))<|Rv (O.mv (.imm q))<|Vm q<|Rv (O.ixI (.imm q) (.lit q) sl132 hx15)<|Rv (O.fI (.iptr q) fd137_0)<|Rv (O.ldI (x:=I64 x15.Prod) (.iptr q) ct3 q)<|RunL.vi (x:=iR eI [x15.Prod]) (O.bs (ys:=[I64 x15.Prod]) eI [x15.Prod] sl29 q q q q q q zt3 q q) q q .none<|Rv (O.ap (en:=eI) (r:=x16) (.brw q) q (.imm q) .i ap29 q hx16)<|RunL.ea (G2:=[(2,.obj (eGrammar_0.cells a0)),(6,iR eItem x1),(7,I64 s2.2)]) q (EO.aP q q (.pend q) q q q (.n q q (.n q q (.n q q .nil))) q q)<|Fi (tn4 q q q q)) ?_
      obtain rfl:=sm h
      exact Px.jn (tn4 q q q q)
     ·replace h:=cndF hb14 h
      refine W.sk ?_
      obtain rfl:=sm h
      exact Px.jn (tn4 q q q q)
    refine Px.bk ?_
    obtain rfl:=sm h
    exact Px.jn (tn4 q q q q)
   refine Px.sq<|W.rx [(2,_),(5,_),(6,_),(7,_)] (Vm q<|Rv (O.add (.lit q) (.k q))<|RunL.re (G1:=[(2,_),(5,_),(6,_),(16,_)]) (tn4 q q q q)<|Va q<|Fi (tn4 q q q q)) ?_
   obtain rfl:=sm h
   exact Px.go (tn4 q q q q)
  ·replace h:=cndF hb5 h
   refine W.xi ?_
   refine Px.sqE ?_
   obtain rfl:=sm h
   exact Px.x1 (.n q .nil)
 refine Px.bkH ?_
 refine Px.sq<|W.sq' ?_
 refine W.rx [(4,_)] (Rv (O.mv (.own q))<|RunL.ea (G2:=[]) q (EO.aR q q (.brw q) q .nil q q)<|Fi (.n q .nil)) ?_
 refine Px.sq<|W.fz (G1:=[(4,iR eI x3)]) [4] (.z q q .zz .nil) ?_
 refine W.rt ?_
 obtain rfl:=sm h
 exact Px.fin (Fin.ro (.f q q .nil) q (ode (by kernel_rfl)) (.no (.no .nil)) q (.inr q))
theorem con73 (a0:Grammar) (a1:(List State)) (a2:Int) (a3:Int) (r:(List Int)) (h:pf73 a0 a1 a2 a3=some r):Con Try.prog 73 [.agg (eGrammar_0.cells a0),iR eState_0 a1,I64 a2,I64 a3] [none,none,none,none] (iR eI r):=by
 unfold pf73 at h
 refine Con.go (N:=⟨74,[]⟩) Try.func73 q q q q (W.fin ?_)
 refine W.st [(0,.agg (eGrammar_0.cells a0)),(1,iR eState_0 a1),(2,I64 a2),(3,I64 a3)] ?_
 refine W.sq'<|W.rx [(1,_),(2,_),(3,_),(4,_)] (Rv (O.box (.aggF q q) q)<|Rv (O.az .knil)<|Fi (tn4 q q q q)) ?_
 refine Px.sq<|W.sq' ?_
 refine W.sq' ?_
 obtain ⟨c4,hj,h⟩:=bnd h
 refine W.rx [(1,iR eState_0 a1),(2,I64 a2),(3,I64 a3),(4,.obj (eGrammar_0.cells a0)),(30,BB c4)] ?_ ?_
 ·refine Vm q<|Rv (O.lss (.lit q) (.k q))<|Rv (O.mv (.lit q)) ?_
  rcases cnd hj with ⟨hb1,hj⟩ | ⟨hb1,hj⟩
  ·obtain rfl:=sm hj
   exact RunL.ps q q hb1 q q<|RunL.ps q q hb1 q q<|RunL.ps q q hb1 q q<|RunL.ps q q hb1 q q<|Rv (O.pkT (.lit q) hb1 (.k q))<|Vm q<|RunL.ps q q q q q<|RunL.ps q q q q q<|Rv (O.pkT (.lit q) q (.k q))<|Vm q<|RunL.ps q q q q q<|RunL.ps q q q q q<|RunL.ps q q q q q<|RunL.ps q q q q q<|RunL.ps q q q q q<|Rv (O.pkT (.lit q) q (.k q))<|Fi (tn5 q q q q q)
  ·refine RunL.v (O.mv (.lit q)) q q (.yb q q hb1)<|RunL.v (O.mv (.imm q)) q q (.yb q q hb1)<|RunL.v (O.lenI (.imm q) sl64) q q (.yb q q hb1)<|RunL.v (O.geq (.lit q) (.lit q)) q q (.yb q q hb1)<|Rv (O.pkF (.lit q) hb1 (.lit q))<|Rv (O.mv (.lit q)) ?_
   rcases cnd hj with ⟨hb2,hj⟩ | ⟨hb2,hj⟩
   ·obtain rfl:=sm hj
    exact RunL.ps q q hb2 q q<|RunL.ps q q hb2 q q<|Rv (O.pkT (.lit q) hb2 (.k q))<|Vm q<|RunL.ps q q q q q<|RunL.ps q q q q q<|RunL.ps q q q q q<|RunL.ps q q q q q<|RunL.ps q q q q q<|Rv (O.pkT (.lit q) q (.k q))<|Fi (tn5 q q q q q)
   ·refine RunL.v (O.mv (.lit q)) q q (.yb q q hb2)<|RunL.v (O.lss (.lit q) (.k q)) q q (.yb q q hb2)<|Rv (O.pkF (.lit q) hb2 (.lit q))<|Rv (O.mv (.lit q)) ?_
    rcases cnd hj with ⟨hb3,hj⟩ | ⟨hb3,hj⟩
    ·obtain rfl:=sm hj
     exact RunL.ps q q hb3 q q<|RunL.ps q q hb3 q q<|RunL.ps q q hb3 q q<|RunL.ps q q hb3 q q<|RunL.ps q q hb3 q q<|Rv (O.pkT (.lit q) hb3 (.k q))<|Fi (tn5 q q q q q)
    ·obtain rfl:=sm hj
     exact RunL.v (O.mv (.lit q)) q q (.yb q q hb3)<|RunL.v (O.fO q (.obj q) fd44_2 q) q q (.yb q q hb3)<|RunL.v (O.ldO (y:=iR eProd_0 a0.Prods) q (.ptr q) ct42 q q) q q (.yb q q hb3)<|RunL.v (O.lenI (.imm q) sl42) q q (.yb q q hb3)<|RunL.v (O.geq (.lit q) (.lit q)) q q (.yb q q hb3)<|Rv (O.pkF (.lit q) hb3 (.lit q))<|Fi (tn5 q q q q q)
 refine Px.sq<|W.cnd q (fun hb5=>?_) (fun hb5=>?_)
 ·replace h:=cndT hb5 h
  refine W.sq'<|W.rx [(8,_)] (Rv (O.az .knil)<|Fi (.n q .nil)) ?_
  refine Px.sq<|W.fz (G1:=[(8,iR eI ([]:List Int))]) [8] (.z q q .zz .nil) ?_
  refine W.rt ?_
  refine Px.sqR ?_
  obtain rfl:=sm h
  exact Px.fin (Fin.ro (.f q q .nil) q (ode (by kernel_rfl)) (.no (.no (.no (.no .nil)))) q (.inr q))
 ·replace h:=cndF hb5 h
  refine W.sk<|Px.sq ?_
  refine W.sq' ?_
  obtain ⟨x6,hx6,h⟩:=bnd h
  refine W.rx [(1,_),(2,_),(3,_),(4,_),(9,_)] (Rv (O.mv (.imm q))<|Rc (PC.go (.cc (.imm q) .nil) (con88 a1 _ hx6) call88 q)<|Rv (O.az (.imm q))<|Fi (tn5 q q q q q)) ?_
  refine Px.sq<|W.sq' ?_
  refine W.rx [(1,_),(2,_),(3,_),(4,_),(9,_),(10,_)] (Rv (O.az .knil)<|Fi (tn6 q q q q q q)) ?_
  refine Px.sq<|W.sq' ?_
  refine W.sq'<|W.rx [(1,_),(2,_),(3,_),(4,_),(9,_),(10,_),(11,_)] (Vk q<|Fi (tn7 q q q q q q q)) ?_
  refine Px.sq<|W.bk ?_
  obtain ⟨x8,hl,h⟩:=bnd h
  refine W.tr (G1:=[(1,_),(2,_),(3,_),(4,_),(9,_),(10,oR eI ([]:List Int)),(11,_)]) (.n q (.n q (.n q (.n q (.n q (.w q q .nilOwn (.n q .nil))))))) ?_
  refine W.lp1 (s:=(([]:List Int),0)) (fun (s7:List Int × Int)=>[(1,iR eState_0 a1),(2,I64 a2),(3,I64 a3),(4,.obj (eGrammar_0.cells a0)),(9,iR eTrans x6),(10,oR eI s7.1),(11,I64 s7.2)]) 0 (fun (x8:List Int)=>[(10,oR eI x8)]) hl (fun s7 o h=>?_) ?_
  ·clear hl
   refine W.sq'<|W.sq' ?_
   refine W.rx [(1,_),(2,_),(3,_),(4,_),(9,_),(10,_),(11,_),(36,_)] (Vm q<|Rv (O.mv (.imm q))<|Rv (O.lenI (.imm q) sl158)<|Rv (O.lss (.lit q) (.lit q))<|Fi (tn8 q q q q q q q q)) ?_
   refine Px.sq<|W.cnd q (fun hb10=>?_) (fun hb10=>?_)
   ·replace h:=cndT hb10 h
    refine W.sk<|Px.sq ?_
    refine W.sq' ?_
    obtain ⟨j11,hj,h⟩:=bnd h
    refine W.jn [(1,iR eState_0 a1),(2,I64 a2),(3,I64 a3),(4,.obj (eGrammar_0.cells a0)),(9,iR eTrans x6),(10,oR eI j11),(11,I64 s7.2)] ?_ ?_
    ·clear h; have h:=hj; clear hj
     refine W.bk<|W.sq' ?_
     obtain ⟨c18,hj,h⟩:=bnd h
     refine W.rd [[],[],[0,1],[0,1,2],[0,1,2,3],[],[5],[],[5,6,7],[5,6,7,8],rn 5 5 [],rn 5 6 [],rn 0 12 [],rn 0 13 [],rn 0 14 [],rn 0 14 [],rn 0 14 [],rn 0 14 [15,16],rn 0 14 [15,16,17],rn 0 14 [15,16,17,18],rn 0 14 [],rn 0 14 [20],rn 0 14 [],rn 0 14 [20,21,22],rn 0 14 [20,21,22,23],rn 0 14 (rn 20 5 []),rn 0 26 [],rn 0 14 [],rn 0 28 [],rn 0 29 []] [(1,iR eState_0 a1),(2,I64 a2),(3,I64 a3),(4,.obj (eGrammar_0.cells a0)),(9,iR eTrans x6),(10,oR eI s7.1),(11,I64 s7.2),(68,BB c18)] mixo (by kernel_rfl) ?_ ?_
     ·refine Dv 0 (O.mv (.imm q))<|Dv 1 (O.mv (.lit q)) ?_
      obtain ⟨x12,hx12,hj⟩:=bnd hj
      refine Dv 2 (O.ixI (.imm q) (.lit q) sl158 hx12)<|Dv 3 (O.fI (.iptr q) fd161_1)<|Dv 4 (O.ldI (x:=I64 x12.Non) (.iptr q) ct3 q)<|Dv 5 (O.fO q (.obj q) fd44_2 q)<|Dv 6 (O.ldO (y:=iR eProd_0 a0.Prods) q (.ptr q) ct42 q q)<|Dv 7 (O.mv (.lit q)) ?_
      obtain ⟨x13,hx13,hj⟩:=bnd hj
      refine Dv 8 (O.ixI (.imm q) (.lit q) sl42 hx13)<|Dv 9 (O.fI (.iptr q) fd148_0)<|Dv 10 (O.ldI (x:=I64 x13.Left) (.iptr q) ct3 q)<|Dv 11 (O.add (.k q) (.lit q))<|Dv 12 (O.eql (.lit q) (.lit q))<|Dv 13 (O.mv (.lit q)) ?_
      rcases cnd hj with ⟨hb14,hj⟩ | ⟨hb14,hj⟩
      ·refine DL.v 14 (O.mv (.imm q)) q q q q (.yb q q hb14)<|DL.v 15 (O.mv (.imm q)) q q q q (.yb q q hb14)<|DL.v 16 (O.mv (.lit q)) q q q q (.yb q q hb14) ?_
       obtain ⟨x15,hx15,hj⟩:=bnd hj
       refine DL.v 17 (O.ixI (.imm q) (.lit q) sl158 hx15) q q q q (.yb q q hb14)<|DL.v 18 (O.fI (.iptr q) fd161_0) q q q q (.yb q q hb14)<|DL.v 19 (O.ldI (x:=I64 x15.State) (.iptr q) ct3 q) q q q q (.yb q q hb14)<|DL.v 20 (O.fO q (.obj q) fd44_2 q) q q q q (.yb q q hb14)<|DL.v 21 (O.ldO (y:=iR eProd_0 a0.Prods) q (.ptr q) ct42 q q) q q q q (.yb q q hb14)<|DL.v 22 (O.mv (.lit q)) q q q q (.yb q q hb14) ?_
       obtain ⟨x16,hx16,hj⟩:=bnd hj
       refine DL.v 23 (O.ixI (.imm q) (.lit q) sl42 hx16) q q q q (.yb q q hb14)<|DL.v 24 (O.fI (.iptr q) fd148_1) q q q q (.yb q q hb14)<|DL.v 25 (O.ldI (x:=iR eI x16.Right) (.iptr q) ct29 q) q q q q (.yb q q hb14) ?_
       obtain ⟨x17,hx17,hj⟩:=bnd hj
       obtain rfl:=sm hj
       exact DL.c 26 (PC.go (.cc (.imm q) (.cc (.lit q) (.cc (.imm q) .nil))) (con89 a1 x15.State x16.Right _ hx17) call89 q) q q q q (.yb q q hb14)<|DL.v 27 (O.mv (.lit q)) q q q q (.yb q q hb14)<|DL.v 28 (O.eql (.lit q) (.lit q)) q q q q (.yb q q hb14)<|Dv 29 (O.pkT (.lit q) hb14 (.lit q))<|DL.fin q q q (tn8 q q q q q q q q)
      ·obtain rfl:=sm hj
       exact DL.ps 14 q q hb14 q q q q<|DL.ps 15 q q hb14 q q q q<|DL.ps 16 q q hb14 q q q q<|DL.ps 17 q q hb14 q q q q<|DL.ps 18 q q hb14 q q q q<|DL.ps 19 q q hb14 q q q q<|DL.ps 20 q q hb14 q q q q<|DL.ps 21 q q hb14 q q q q<|DL.ps 22 q q hb14 q q q q<|DL.ps 23 q q hb14 q q q q<|DL.ps 24 q q hb14 q q q q<|DL.ps 25 q q hb14 q q q q<|DL.ps 26 q q hb14 q q q q<|DL.ps 27 q q hb14 q q q q<|DL.ps 28 q q hb14 q q q q<|Dv 29 (O.pkF (.lit q) hb14 (.k q))<|DL.fin q q q (tn8 q q q q q q q q)
     refine Px.sq ?_
     obtain ⟨j19,hj,h⟩:=bnd h
     refine W.jn [(1,iR eState_0 a1),(2,I64 a2),(3,I64 a3),(4,.obj (eGrammar_0.cells a0)),(9,iR eTrans x6),(10,oR eI j19),(11,I64 s7.2)] ?_ ?_
     ·clear h; have h:=hj; clear hj
      refine W.cnd q (fun hb20=>?_) (fun hb20=>?_)
      ·replace h:=cndT hb20 h
       obtain ⟨x21,hx21,h⟩:=bnd h
       refine W.rx [(1,_),(2,_),(3,_),(4,_),(9,_),(10,_),(11,_)] (Rv (O.mv (.own q))<|Vm q<|RunL.vi (x:=iR eI [s7.2]) (O.bs (ys:=[I64 s7.2]) eI [s7.2] sl29 q q q q q q zt3 q q) q q .none<|Rv (O.ap (en:=eI) (r:=x21) (.brw q) q (.imm q) .i ap29 q hx21)<|RunL.ea (G2:=[(1,iR eState_0 a1),(2,I64 a2),(3,I64 a3),(4,.obj (eGrammar_0.cells a0)),(9,iR eTrans x6),(11,I64 s7.2)]) q (EO.aP q q (.pend q) q q q (.n q q (.n q q (.n q q (.n q q (.n q q (.n q q .nil)))))) q q)<|Fi (tn7 q q q q q q q)) ?_
       obtain rfl:=sm h
       exact Px.jn (tn7 q q q q q q q)
      ·replace h:=cndF hb20 h
       refine W.sk ?_
       obtain rfl:=sm h
       exact Px.jn (tn7 q q q q q q q)
     refine Px.bk ?_
     obtain rfl:=sm h
     exact Px.jn (tn7 q q q q q q q)
    refine Px.sq<|W.rx [(1,_),(2,_),(3,_),(4,_),(9,_),(10,_),(11,_)] (Vm q<|Rv (O.add (.lit q) (.k q))<|RunL.re (G1:=[(1,_),(2,_),(3,_),(4,_),(9,_),(10,_),(38,_)]) (tn7 q q q q q q q)<|Va q<|Fi (tn7 q q q q q q q)) ?_
    obtain rfl:=sm h
    exact Px.go (tn7 q q q q q q q)
   ·replace h:=cndF hb10 h
    refine W.xi ?_
    refine Px.sqE ?_
    obtain rfl:=sm h
    exact Px.x1 (.n q .nil)
  refine Px.bkH ?_
  refine Px.sq<|W.sq' ?_
  refine W.rx [(8,_)] (Rv (O.mv (.own q))<|RunL.ea (G2:=[]) q (EO.aR q q (.brw q) q .nil q q)<|Fi (.n q .nil)) ?_
  refine Px.sq<|W.fz (G1:=[(8,iR eI x8)]) [8] (.z q q .zz .nil) ?_
  refine W.rt ?_
  obtain rfl:=sm h
  exact Px.fin (Fin.ro (.f q q .nil) q (ode (by kernel_rfl)) (.no (.no (.no (.no .nil)))) q (.inr q))
theorem con54 (a0:Grammar) (a1:(List State)) (r:(List Look)) (h:pf54 a0 a1=some r):Con Try.prog 54 [.agg (eGrammar_0.cells a0),iR eState_0 a1] [none,none] (iR eLook_0 r):=by
 unfold pf54 at h
 refine Con.go (N:=⟨87,[]⟩) Try.func54 q q q q (W.fin ?_)
 refine W.st [(0,.agg (eGrammar_0.cells a0)),(1,iR eState_0 a1)] ?_
 refine W.sq'<|W.rx [(1,_),(2,_)] (Rv (O.box (.aggF q q) q)<|Rv (O.az .knil)<|Fi (tn2 q q)) ?_
 refine Px.sq<|W.sq' ?_
 obtain ⟨x1,hx1,h⟩:=bnd h
 refine W.rx [(1,_),(2,_),(5,_)] (Rv (O.ldON (cs':=[iR eTok a0.Toks,iR eNon a0.Nons,iR eProd_0 a0.Prods,SS a0.Pro,SS a0.Tail]) q (.obj q) at44 q q)<|Rv (O.mv (.imm q))<|Rc (PC.go (.cc (.aggF q q) (.cc (.imm q) .nil)) (con71 a0 a1 _ hx1) call71 q)<|Rv (O.az (.imm q))<|Fi (tn3 q q q)) ?_
 refine Px.sq<|W.sq' ?_
 refine W.rx [(1,_),(2,_),(5,_),(6,_)] (Rv (O.az .knil)<|Fi (tn4 q q q q)) ?_
 refine Px.sq<|W.sq' ?_
 refine W.sq'<|W.rx [(1,_),(2,_),(5,_),(6,_),(7,_)] (Vk q<|Fi (tn5 q q q q q)) ?_
 refine Px.sq<|W.bk ?_
 obtain ⟨x3,hl,h⟩:=bnd h
 refine W.tr (G1:=[(1,_),(2,_),(5,_),(6,oR eLook_0 ([]:List Look)),(7,_)]) (.n q (.n q (.n q (.w q q .nilOwn (.n q .nil))))) ?_
 refine W.lp1 (s:=(([]:List Look),0)) (fun (s2:List Look × Int)=>[(1,iR eState_0 a1),(2,.obj (eGrammar_0.cells a0)),(5,iR (eM eI) x1),(6,oR eLook_0 s2.1),(7,I64 s2.2)]) 0 (fun (x3:List Look)=>[(6,oR eLook_0 x3)]) hl (fun s2 o h=>?_) ?_
 ·clear hl
  refine W.sq'<|W.sq' ?_
  refine W.rx [(1,_),(2,_),(5,_),(6,_),(7,_),(20,_)] (Vm q<|Rv (O.mv (.imm q))<|Rv (O.lenI (.imm q) sl64)<|Rv (O.lss (.lit q) (.lit q))<|Fi (tn6 q q q q q q)) ?_
  refine Px.sq<|W.cnd q (fun hb5=>?_) (fun hb5=>?_)
  ·replace h:=cndT hb5 h
   refine W.sk<|Px.sq ?_
   refine W.sq'<|W.bk ?_
   refine W.sq' ?_
   obtain ⟨x6,hx6,h⟩:=bnd h
   obtain ⟨x7,hx7,h⟩:=bnd h
   refine W.rd [[],[],[],[1,2],[1,2,3],[1,2,3,4],rn 0 6 [],rn 0 7 []] [(1,_),(2,_),(5,_),(6,_),(7,_),(8,_)] mixo (by kernel_rfl) (Dv 0 (O.ldON (cs':=[iR eTok a0.Toks,iR eNon a0.Nons,iR eProd_0 a0.Prods,SS a0.Pro,SS a0.Tail]) q (.obj q) at44 q q)<|Dv 1 (O.mv (.imm q))<|Dv 2 (O.mv (.lit q))<|Dv 3 (O.ixI (.imm q) (.lit q) sl64 hx6)<|Dv 4 (O.fI (.iptr q) fd135_0)<|Dv 5 (O.ldI (x:=iR eItem x6.Kernel) (.iptr q) ct132 q)<|Dc 6 (PC.go (.cc (.aggF q q) (.cc (.imm q) .nil)) (con72 a0 x6.Kernel _ hx7) call72 q)<|Dv 7 (O.az (.imm q))<|DL.fin q q q (tn6 q q q q q q)) ?_
   refine Px.sq<|W.sq' ?_
   refine W.rx [(1,_),(2,_),(5,_),(6,_),(7,_),(8,_),(9,_)] (Vk q<|Fi (tn7 q q q q q q q)) ?_
   refine Px.sq<|W.bk ?_
   obtain ⟨x9,hl,h⟩:=bnd h
   refine W.tr (G1:=[(1,_),(2,_),(5,_),(6,_),(7,_),(8,_),(9,_)]) (tn7 q q q q q q q) ?_
   refine W.lp1 (s:=(s2.1,0)) (fun (s8:List Look × Int)=>[(1,iR eState_0 a1),(2,.obj (eGrammar_0.cells a0)),(5,iR (eM eI) x1),(6,oR eLook_0 s8.1),(7,I64 s2.2),(8,iR eI x7),(9,I64 s8.2)]) 2 (fun (x9:List Look)=>[(1,iR eState_0 a1),(2,.obj (eGrammar_0.cells a0)),(5,iR (eM eI) x1),(6,oR eLook_0 x9),(7,I64 s2.2)]) hl (fun s8 o h=>?_) ?_
   ·clear hl
    refine W.sq'<|W.sq' ?_
    refine W.rx [(1,_),(2,_),(5,_),(6,_),(7,_),(8,_),(9,_),(33,_)] (Vm q<|Rv (O.mv (.imm q))<|Rv (O.lenI (.imm q) sl29)<|Rv (O.lss (.lit q) (.lit q))<|Fi (tn8 q q q q q q q q)) ?_
    refine Px.sq<|W.cnd q (fun hb11=>?_) (fun hb11=>?_)
    ·replace h:=cndT hb11 h
     refine W.sk<|Px.sq ?_
     refine W.sq'<|W.bk ?_
     refine W.sq' ?_
     obtain ⟨x12,hx12,h⟩:=bnd h
     refine W.rx [(1,_),(2,_),(5,_),(6,_),(7,_),(8,_),(9,_),(10,_)] (Vm q<|Rv (O.mv (.imm q))<|Vm q<|Rv (O.ixI (.imm q) (.lit q) sl29 hx12)<|Rv (O.ldI (x:=I64 x12) (.iptr q) ct3 q)<|Rv (O.bu (cs:=[I64 s2.2,I64 x12,.nils]) sc139 ze139 q q q)<|Rv (O.al (cs:=[I64 0,I64 0,.nils]) ze139 q q)<|RunL.sO (G2:=[(1,_),(2,_),(5,_),(6,_),(7,_),(8,_),(9,_),(10,_)]) (cs2:=[I64 s2.2,I64 x12,.nils]) q (.obj q) (.aggF q q) q sz139 q q q q (.n q q (.n q q (.n q q (.n q q (.n q q (.n q q (.n q q (.b q .nil))))))))<|Fi (tn8 q q q q q q q q)) ?_
     refine Px.sq<|W.sq' ?_
     obtain ⟨x13,hx13,h⟩:=bnd h
     obtain ⟨x14,hx14,h⟩:=bnd h
     refine W.rd [[],[],[],[],[],[3,4],[3,4,5],rn 0 7 [],rn 0 8 []] [(1,_),(2,_),(5,_),(6,_),(7,_),(8,_),(9,_),(10,_),(11,_)] mixo (by kernel_rfl) (Dv 0 (O.ldON (cs':=[iR eTok a0.Toks,iR eNon a0.Nons,iR eProd_0 a0.Prods,SS a0.Pro,SS a0.Tail]) q (.obj q) at44 q q)<|Dv 1 (O.mv (.imm q))<|Dv 2 (O.mv (.lit q))<|Dv 3 (O.mv (.imm q))<|Dv 4 (O.mv (.lit q))<|Dv 5 (O.ixI (.imm q) (.lit q) sl29 hx13)<|Dv 6 (O.ldI (x:=I64 x13) (.iptr q) ct3 q)<|Dc 7 (PC.go (.cc (.aggF q q) (.cc (.imm q) (.cc (.lit q) (.cc (.lit q) .nil)))) (con73 a0 a1 s2.2 x13 _ hx14) call73 q)<|Dv 8 (O.az (.imm q))<|DL.fin q q q (tn9 q q q q q q q q q)) ?_
     refine Px.sq<|W.sq' ?_
     refine W.sq'<|W.rx [(1,_),(2,_),(5,_),(6,_),(7,_),(8,_),(9,_),(10,_),(11,_),(12,_)] (Vk q<|Fi (tn10 q q q q q q q q q q)) ?_
     refine Px.sq<|W.bk ?_
     obtain ⟨x16,hl,h⟩:=bnd h
     refine W.tr (G1:=[(1,_),(2,_),(5,_),(6,_),(7,_),(8,_),(9,_),(10,.obj [I64 s2.2,I64 x12,iR eI ([]:List Int)]),(11,_),(12,_)]) (.n q (.n q (.n q (.n q (.n q (.n q (.n q (.w q q (WkL.obj (.f (.f (.i .nil)))) (tn2 q q))))))))) ?_
     refine W.lp1 (s:=(([]:List Int),0)) (fun (s15:List Int × Int)=>[(1,iR eState_0 a1),(2,.obj (eGrammar_0.cells a0)),(5,iR (eM eI) x1),(6,oR eLook_0 s8.1),(7,I64 s2.2),(8,iR eI x7),(9,I64 s8.2),(10,.obj [I64 s2.2,I64 x12,iR eI s15.1]),(11,iR eI x14),(12,I64 s15.2)]) 4 (fun (x16:List Int)=>[(1,iR eState_0 a1),(2,.obj (eGrammar_0.cells a0)),(5,iR (eM eI) x1),(6,oR eLook_0 s8.1),(7,I64 s2.2),(8,iR eI x7),(9,I64 s8.2),(10,.obj [I64 s2.2,I64 x12,iR eI x16])]) hl (fun s15 o h=>?_) ?_
     ·clear hl
      refine W.sq'<|W.sq' ?_
      refine W.rx [(1,_),(2,_),(5,_),(6,_),(7,_),(8,_),(9,_),(10,_),(11,_),(12,_),(53,_)] (Vm q<|Rv (O.mv (.imm q))<|Rv (O.lenI (.imm q) sl29)<|Rv (O.lss (.lit q) (.lit q))<|Fi (tn11 q q q q q q q q q q q)) ?_
      refine Px.sq<|W.cnd q (fun hb18=>?_) (fun hb18=>?_)
      ·replace h:=cndT hb18 h
       refine W.sk<|Px.sq ?_
       refine W.sq'<|W.bk ?_
       refine W.sq'<|W.rx [(1,_),(2,_),(5,_),(6,_),(7,_),(8,_),(9,_),(10,_),(11,_),(12,_),(13,_)] (Vk q<|Fi (tn11 q q q q q q q q q q q)) ?_
       refine Px.sq<|W.bk ?_
       obtain ⟨x20,hl,h⟩:=bnd h
       refine W.tr (G1:=[(1,_),(2,_),(5,_),(6,_),(7,_),(8,_),(9,_),(10,_),(11,_),(12,_),(13,_)]) (tn11 q q q q q q q q q q q) ?_
       refine W.lp1 (s:=(s15.1,0)) (fun (s19:List Int × Int)=>[(1,iR eState_0 a1),(2,.obj (eGrammar_0.cells a0)),(5,iR (eM eI) x1),(6,oR eLook_0 s8.1),(7,I64 s2.2),(8,iR eI x7),(9,I64 s8.2),(10,.obj [I64 s2.2,I64 x12,iR eI s19.1]),(11,iR eI x14),(12,I64 s15.2),(13,I64 s19.2)]) 6 (fun (x20:List Int)=>[(1,iR eState_0 a1),(2,.obj (eGrammar_0.cells a0)),(5,iR (eM eI) x1),(6,oR eLook_0 s8.1),(7,I64 s2.2),(8,iR eI x7),(9,I64 s8.2),(10,.obj [I64 s2.2,I64 x12,iR eI x20]),(11,iR eI x14),(12,I64 s15.2)]) hl (fun s19 o h=>?_) ?_
       ·clear hl
        refine W.sq'<|W.sq' ?_
        obtain ⟨x22,hx22,h⟩:=bnd h
        obtain ⟨x23,hx23,h⟩:=bnd h
        refine W.rx [(1,_),(2,_),(5,_),(6,_),(7,_),(8,_),(9,_),(10,_),(11,_),(12,_),(13,_),(65,_)] (Vm q<|Rv (O.mv (.imm q))<|Rv (O.mv (.imm q))<|Vm q<|Rv (O.ixI (.imm q) (.lit q) sl29 hx22)<|Rv (O.ldI (x:=I64 x22) (.iptr q) ct3 q)<|Rv (O.ixI (.imm q) (.lit q) sl34 hx23)<|Rv (O.ldI (x:=iR eI x23) (.iptr q) ct29 q)<|Rv (O.lenI (.imm q) sl29)<|Rv (O.lss (.lit q) (.lit q))<|Fi (.n q (.n q (.n q (.n q (.n q (.n q (.n q (.n q (.n q (.n q (.n q (.n q .nil))))))))))))) ?_
        refine Px.sq<|W.cnd q (fun hb24=>?_) (fun hb24=>?_)
        ·replace h:=cndT hb24 h
         refine W.sk<|Px.sq ?_
         refine W.sq'<|W.bk ?_
         obtain ⟨x25,hx25,h⟩:=bnd h
         obtain ⟨x26,hx26,h⟩:=bnd h
         obtain ⟨x27,hx27,h⟩:=bnd h
         obtain ⟨x28,hx28,h⟩:=bnd h
         refine W.rd [[],[0],[],[],[],[3,4],[3,4,5],rn 2 5 [],rn 2 6 [],[],rn 2 8 [],rn 2 9 [],rn 0 12 [],rn 0 13 [],rn 0 14 []] [(1,_),(2,_),(5,_),(6,_),(7,_),(8,_),(9,_),(10,_),(11,_),(12,_),(13,_)] mixo (by kernel_rfl) (Dv 0 (O.fO q (.obj q) fd139_2 q)<|Dv 1 (O.ldO (y:=iR eI s19.1) q (.ptr q) ct29 q q)<|Dv 2 (O.mv (.imm q))<|Dv 3 (O.mv (.imm q))<|Dv 4 (O.mv (.lit q))<|Dv 5 (O.ixI (.imm q) (.lit q) sl29 hx25)<|Dv 6 (O.ldI (x:=I64 x25) (.iptr q) ct3 q)<|Dv 7 (O.ixI (.imm q) (.lit q) sl34 hx26)<|Dv 8 (O.ldI (x:=iR eI x26) (.iptr q) ct29 q)<|Dv 9 (O.mv (.lit q))<|Dv 10 (O.ixI (.imm q) (.lit q) sl29 hx27)<|Dv 11 (O.ldI (x:=I64 x27) (.iptr q) ct3 q)<|Dc 12 (PC.go (.cc (.imm q) (.cc (.lit q) .nil)) (con67 s19.1 x27 _ hx28) call67 q)<|Dv 13 (O.fO q (.obj q) fd139_2 q)<|DL.sO 14 (G2:=[(1,iR eState_0 a1),(2,.obj (eGrammar_0.cells a0)),(5,iR (eM eI) x1),(6,oR eLook_0 s8.1),(7,I64 s2.2),(8,iR eI x7),(9,I64 s8.2),(10,.obj [I64 s2.2,I64 x12,iR eI x28]),(11,iR eI x14),(12,I64 s15.2),(13,I64 s19.2)]) (cs2:=[I64 s2.2,I64 x12,iR eI x28]) q (by kernel_rfl) (by kernel_rfl) q q q (.ptr q) (.imm q) q sz29 q q q q (.n q q (.n q q (.n q q (.n q q (.n q q (.n q q (.n q q (.b q (.n q q (.n q q (.n q q .nil)))))))))))<|DL.fin q q q (tn11 q q q q q q q q q q q)) ?_
         refine Px.bk ?_
         refine Px.sq<|W.rx [(1,_),(2,_),(5,_),(6,_),(7,_),(8,_),(9,_),(10,_),(11,_),(12,_),(13,_)] (Vm q<|Rv (O.add (.lit q) (.k q))<|RunL.re (G1:=[(1,_),(2,_),(5,_),(6,_),(7,_),(8,_),(9,_),(10,_),(11,_),(12,_),(67,_)]) (tn11 q q q q q q q q q q q)<|Va q<|Fi (tn11 q q q q q q q q q q q)) ?_
         obtain rfl:=sm h
         exact Px.go (tn11 q q q q q q q q q q q)
        ·replace h:=cndF hb24 h
         refine W.xi ?_
         refine Px.sqE ?_
         obtain rfl:=sm h
         exact Px.x1 (tn10 q q q q q q q q q q)
       refine Px.bkH ?_
       refine Px.bk ?_
       refine Px.sq<|W.rx [(1,_),(2,_),(5,_),(6,_),(7,_),(8,_),(9,_),(10,_),(11,_),(12,_)] (Vm q<|Rv (O.add (.lit q) (.k q))<|RunL.re (G1:=[(1,_),(2,_),(5,_),(6,_),(7,_),(8,_),(9,_),(10,_),(11,_),(55,_)]) (tn10 q q q q q q q q q q)<|Va q<|Fi (tn10 q q q q q q q q q q)) ?_
       obtain rfl:=sm h
       exact Px.go (tn10 q q q q q q q q q q)
      ·replace h:=cndF hb18 h
       refine W.xi ?_
       refine Px.sqE ?_
       obtain rfl:=sm h
       exact Px.x1 (tn8 q q q q q q q q)
     refine Px.bkH ?_
     refine Px.sq ?_
     obtain ⟨x29,hx29,h⟩:=bnd h
     refine W.rx [(1,_),(2,_),(5,_),(6,_),(7,_),(8,_),(9,_)] (Rv (O.mv (.own q))<|Rv (O.ldON (cs':=[I64 s2.2,I64 x12,iR eI x16]) q (.obj q) at139 q q)<|RunL.vi (x:=iR eLook_0 [(⟨s2.2,x12,x16⟩:Look)]) (O.bs (ys:=[.agg [I64 s2.2,I64 x12,iR eI x16]]) eLook_0 [(⟨s2.2,x12,x16⟩:Look)] sl112 q q q q q q zt139 q q) q q .none<|Rv (O.ap (en:=eLook_0) (r:=x29) (.brw q) q (.imm q) .i ap112 q hx29)<|RunL.ea (G2:=[(1,iR eState_0 a1),(2,.obj (eGrammar_0.cells a0)),(5,iR (eM eI) x1),(7,I64 s2.2),(8,iR eI x7),(9,I64 s8.2)]) q (EO.aP q q (.pend q) q q q (.n q q (.n q q (.n q q (.n q q (.n q q (.n q q .nil)))))) q q)<|Fi (tn7 q q q q q q q)) ?_
     refine Px.bk ?_
     refine Px.sq<|W.rx [(1,_),(2,_),(5,_),(6,_),(7,_),(8,_),(9,_)] (Vm q<|Rv (O.add (.lit q) (.k q))<|RunL.re (G1:=[(1,_),(2,_),(5,_),(6,_),(7,_),(8,_),(35,_)]) (tn7 q q q q q q q)<|Va q<|Fi (tn7 q q q q q q q)) ?_
     obtain rfl:=sm h
     exact Px.go (tn7 q q q q q q q)
    ·replace h:=cndF hb11 h
     refine W.xi ?_
     refine Px.sqE ?_
     obtain rfl:=sm h
     exact Px.x1 (tn5 q q q q q)
   refine Px.bkH ?_
   refine Px.bk ?_
   refine Px.sq<|W.rx [(1,_),(2,_),(5,_),(6,_),(7,_)] (Vm q<|Rv (O.add (.lit q) (.k q))<|RunL.re (G1:=[(1,_),(2,_),(5,_),(6,_),(22,_)]) (tn5 q q q q q)<|Va q<|Fi (tn5 q q q q q)) ?_
   obtain rfl:=sm h
   exact Px.go (tn5 q q q q q)
  ·replace h:=cndF hb5 h
   refine W.xi ?_
   refine Px.sqE ?_
   obtain rfl:=sm h
   exact Px.x1 (.n q .nil)
 refine Px.bkH ?_
 refine Px.sq<|W.sq' ?_
 refine W.rx [(4,_)] (Rv (O.mv (.own q))<|RunL.ea (G2:=[]) q (EO.aR q q (.brw q) q .nil q q)<|Fi (.n q .nil)) ?_
 refine Px.sq<|W.fz (G1:=[(4,iR eLook_0 x3)]) [4] (.z q q .zz .nil) ?_
 refine W.rt ?_
 obtain rfl:=sm h
 exact Px.fin (Fin.ro (.f q q .nil) q (ode (by kernel_rfl)) (.no (.no .nil)) q (.inr q))
theorem con30 (a0:Source) (r:Grammar × (List State) × (List Cell) × Bool) (h:pf30 a0=some r):Con Try.prog 30 [.agg (eSource_0.cells a0)] [none] (.tup [.agg (eGrammar_0.cells r.1),iR eState_0 r.2.1,iR eCell_0 r.2.2.1,BB r.2.2.2]):=by
 unfold pf30 at h
 refine Con.go (N:=⟨26,[]⟩) Try.func30 q q q q (W.fin ?_)
 refine W.st [(0,.agg (eSource_0.cells a0))] ?_
 refine W.sq'<|W.rx [(1,_),(2,_)] (Rv (O.box (.aggF q q) q)<|Rv (O.al (cs:=[.nils,.nils,.nils,SS S0,SS S0]) ze44 q q)<|Rv (O.az .knil)<|Rv (O.az .knil)<|Vk q<|Fi (tn2 q q)) ?_
 refine Px.sq<|W.sq' ?_
 obtain ⟨x1,hx1,h⟩:=bnd h
 refine W.rx [(2,_),(6,_),(7,_),(8,_)] (Rv (O.ldON (cs':=[SS a0.Pro,iR eDecl_0 a0.Decls,iR eRule_0 a0.Rules,SS a0.Tail]) q (.obj q) at33 q q)<|Rc (PC.go (.cc (.aggF q q) .nil) (con52 a0 _ hx1) call52 q)<|Rv (O.mv (.tup q q))<|Rv (O.ex (y:=.agg (eGrammar_0.cells x1.1)) q q q)<|Rv (O.ex (y:=iR eState_0 x1.2.1) q q q)<|Rv (O.ex (y:=BB x1.2.2) q q q)<|Rv (O.al (cs:=[.nils,.nils,.nils,SS S0,SS S0]) ze44 q q)<|RunL.sO (G2:=[(2,_),(6,_),(13,_),(14,_)]) (cs2:=[iR eTok x1.1.Toks,iR eNon x1.1.Nons,iR eProd_0 x1.1.Prods,SS x1.1.Pro,SS x1.1.Tail]) q (.obj q) (.aggF q q) q sz44 q q q q (.n q q (.b q (.n q q (.n q q .nil))))<|Rv (O.az (.imm q))<|Va q<|Fi (tn4 q q q q)) ?_
 refine Px.sq<|W.sq' ?_
 refine W.sq'<|W.rx [(2,_),(6,_),(7,_),(16,_)] (Vm q<|Rv (O.not (.lit q))<|Fi (tn4 q q q q)) ?_
 refine Px.sq<|W.cnd q (fun hb2=>?_) (fun hb2=>?_)
 ·replace h:=cndT hb2 h
  refine W.sq'<|W.rx [(2,_),(3,_),(4,_),(5,_)] (Rv (O.ldON (cs':=[iR eTok x1.1.Toks,iR eNon x1.1.Nons,iR eProd_0 x1.1.Prods,SS x1.1.Pro,SS x1.1.Tail]) q (.obj q) at44 q q)<|RunL.sO (G2:=[(2,_)]) (cs2:=[iR eTok x1.1.Toks,iR eNon x1.1.Nons,iR eProd_0 x1.1.Prods,SS x1.1.Pro,SS x1.1.Tail]) q (.obj q) (.aggF q q) q sz44 q q q q (.b q .nil)<|Rv (O.az .knil)<|Rv (O.az .knil)<|Vk q<|Fi (tn4 q q q q)) ?_
  refine Px.sq<|W.fz (G1:=[(2,_),(3,iR eState_0 ([]:List State)),(4,iR eCell_0 ([]:List Cell)),(5,_)]) [3,4] (.n q q (.z q q .zz (.z q q .zz (.n q q .nil)))) ?_
  refine W.rt ?_
  refine Px.sqR ?_
  obtain rfl:=sm h
  exact Px.fin (Fin.ro (.c (ys0:=[iR eTok x1.1.Toks,iR eNon x1.1.Nons,iR eProd_0 x1.1.Prods,SS x1.1.Pro,SS x1.1.Tail]) q at44 q q q (.f q (.f q (.f q (.f q (.f q .nil))))) (.f q q (.f q q (.f q q .nil)))) q (ode (by kernel_rfl)) (.no .nil) q (.inr q))
 ·replace h:=cndF hb2 h
  refine W.sk<|Px.sq ?_
  refine W.sq' ?_
  obtain ⟨x3,hx3,h⟩:=bnd h
  obtain ⟨x4,hx4,h⟩:=bnd h
  refine W.rd [[],[],[],[],[],[],[4,5],rn 2 5 [],(0::rn 2 6 []),rn 0 9 [],rn 0 10 [],rn 0 11 []] [(2,_),(3,_),(4,_),(5,_)] mixo (by kernel_rfl) (Dv 0 (O.ldON (cs':=[iR eTok x1.1.Toks,iR eNon x1.1.Nons,iR eProd_0 x1.1.Prods,SS x1.1.Pro,SS x1.1.Tail]) q (.obj q) at44 q q)<|Dv 1 (O.mv (.imm q))<|Dv 2 (O.ldON (cs':=[iR eTok x1.1.Toks,iR eNon x1.1.Nons,iR eProd_0 x1.1.Prods,SS x1.1.Pro,SS x1.1.Tail]) q (.obj q) at44 q q)<|Dv 3 (O.mv (.imm q))<|Dv 4 (O.ldON (cs':=[iR eTok x1.1.Toks,iR eNon x1.1.Nons,iR eProd_0 x1.1.Prods,SS x1.1.Pro,SS x1.1.Tail]) q (.obj q) at44 q q)<|Dv 5 (O.mv (.imm q))<|Dc 6 (PC.go (.cc (.aggF q q) (.cc (.imm q) .nil)) (con54 x1.1 x1.2.1 _ hx3) call54 q)<|Dc 7 (PC.go (.cc (.aggF q q) (.cc (.imm q) (.cc (.imm q) .nil))) (con53 x1.1 x1.2.1 x3 _ hx4) call53 q)<|DL.bu 8 (G2:=[(2,.obj (eGrammar_0.cells x1.1)),(7,iR eState_0 x1.2.1),(25,iR eCell_0 x4)]) (U:=[(1,19,some (iR eState_0 x1.2.1))]) (EffOk.v (EO.eff (EO.sO (G2:=[(2,.obj (eGrammar_0.cells x1.1)),(7,iR eState_0 x1.2.1),(25,iR eCell_0 x4)]) (cs2:=[iR eTok x1.1.Toks,iR eNon x1.1.Nons,iR eProd_0 x1.1.Prods,SS x1.1.Pro,SS x1.1.Tail]) q q q (.obj q) (.aggF q q) q sz44 q q q q (.b q (.n q q (.n q q .nil)))))) q q (by kernel_rfl) q q q (.c (.inr (.inr (.inr (.inr (.inl ⟨_,_,_,q,NRc.nr⟩))))) q q q q q (Gd.wanted .none) (O.mv (.imm q)) .nil) (by kernel_rfl)<|Dv 9 (O.az (.imm q))<|Dv 10 (O.az (.imm q))<|Dv 11 (O.az (.k q))<|DL.fin q q q (tn4 q q q q)) ?_
  refine Px.sq<|W.rt ?_
  obtain rfl:=sm h
  exact Px.fin (Fin.ro (.c (ys0:=[iR eTok x1.1.Toks,iR eNon x1.1.Nons,iR eProd_0 x1.1.Prods,SS x1.1.Pro,SS x1.1.Tail]) q at44 q q q (.f q (.f q (.f q (.f q (.f q .nil))))) (.f q q (.f q q (.f q q .nil)))) q (ode (by kernel_rfl)) (.no .nil) q (.inr q))
theorem con91 (a0:Grammar) (a1:Int) (r:Int × Int) (h:pf91 a0 a1=some r):Con Try.prog 91 [.agg (eGrammar_0.cells a0),I64 a1] [none,none] (.tup [I64 r.1,I64 r.2]):=by
 unfold pf91 at h
 refine Con.go (N:=⟨39,[]⟩) Try.func91 q q q q (W.fin ?_)
 refine W.st [(0,.agg (eGrammar_0.cells a0)),(1,I64 a1)] ?_
 refine W.sq'<|W.rx [(1,_),(2,_)] (Rv (O.box (.aggF q q) q)<|Vk q<|Vk q<|Fi (tn2 q q)) ?_
 refine Px.sq<|W.sq' ?_
 refine W.sq' ?_
 obtain ⟨c4,hj,h⟩:=bnd h
 refine W.rx [(1,I64 a1),(2,.obj (eGrammar_0.cells a0)),(24,BB c4)] ?_ ?_
 ·refine Vm q<|Rv (O.lss (.lit q) (.k q))<|Rv (O.mv (.lit q)) ?_
  rcases cnd hj with ⟨hb1,hj⟩ | ⟨hb1,hj⟩
  ·obtain rfl:=sm hj
   exact RunL.ps q q hb1 q q<|RunL.ps q q hb1 q q<|RunL.ps q q hb1 q q<|RunL.ps q q hb1 q q<|RunL.ps q q hb1 q q<|Rv (O.pkT (.lit q) hb1 (.k q))<|Vm q<|RunL.ps q q q q q<|RunL.ps q q q q q<|RunL.ps q q q q q<|RunL.ps q q q q q<|RunL.ps q q q q q<|RunL.ps q q q q q<|RunL.ps q q q q q<|Rv (O.pkT (.lit q) q (.k q))<|Fi (tn3 q q q)
  ·refine RunL.v (O.mv (.lit q)) q q (.yb q q hb1)<|RunL.v (O.fO q (.obj q) fd44_2 q) q q (.yb q q hb1)<|RunL.v (O.ldO (y:=iR eProd_0 a0.Prods) q (.ptr q) ct42 q q) q q (.yb q q hb1)<|RunL.v (O.lenI (.imm q) sl42) q q (.yb q q hb1)<|RunL.v (O.geq (.lit q) (.lit q)) q q (.yb q q hb1)<|Rv (O.pkF (.lit q) hb1 (.lit q))<|Rv (O.mv (.lit q)) ?_
   rcases cnd hj with ⟨hb2,hj⟩ | ⟨hb2,hj⟩
   ·obtain rfl:=sm hj
    exact RunL.ps q q hb2 q q<|RunL.ps q q hb2 q q<|RunL.ps q q hb2 q q<|RunL.ps q q hb2 q q<|RunL.ps q q hb2 q q<|RunL.ps q q hb2 q q<|RunL.ps q q hb2 q q<|Rv (O.pkT (.lit q) hb2 (.k q))<|Fi (tn3 q q q)
   ·refine RunL.v (O.fO q (.obj q) fd44_2 q) q q (.yb q q hb2)<|RunL.v (O.ldO (y:=iR eProd_0 a0.Prods) q (.ptr q) ct42 q q) q q (.yb q q hb2)<|RunL.v (O.mv (.lit q)) q q (.yb q q hb2) ?_
    obtain ⟨x3,hx3,hj⟩:=bnd hj
    obtain rfl:=sm hj
    exact RunL.v (O.ixI (.imm q) (.lit q) sl42 hx3) q q (.yb q q hb2)<|RunL.v (O.fI (.iptr q) fd148_2) q q (.yb q q hb2)<|RunL.v (O.ldI (x:=I64 x3.Prec) (.iptr q) ct3 q) q q (.yb q q hb2)<|RunL.v (O.lss (.lit q) (.k q)) q q (.yb q q hb2)<|Rv (O.pkF (.lit q) hb2 (.lit q))<|Fi (tn3 q q q)
 refine Px.sq<|W.cnd q (fun hb5=>?_) (fun hb5=>?_)
 ·replace h:=cndT hb5 h
  refine W.sq'<|W.rx [(4,_),(5,_)] (Vk q<|Vk q<|Fi (tn2 q q)) ?_
  refine Px.sq<|W.rt ?_
  refine Px.sqR ?_
  obtain rfl:=sm h
  exact Px.fin (Fin.ro (.f q q (.f q q .nil)) q (ode (by kernel_rfl)) (.no (.no .nil)) q (.inr q))
 ·replace h:=cndF hb5 h
  refine W.sk<|Px.sq ?_
  refine W.sq' ?_
  obtain ⟨x6,hx6,h⟩:=bnd h
  obtain ⟨x7,hx7,h⟩:=bnd h
  refine W.rd [[],[0],[],[2],[],[2,3,4],[2,3,4,5],rn 2 5 [],rn 0 8 [],rn 0 9 [],[],rn 0 11 []] [(6,_)] mixo (by kernel_rfl) (Dv 0 (O.fO q (.obj q) fd44_0 q)<|Dv 1 (O.ldO (y:=iR eTok a0.Toks) q (.ptr q) ct40 q q)<|Dv 2 (O.fO q (.obj q) fd44_2 q)<|Dv 3 (O.ldO (y:=iR eProd_0 a0.Prods) q (.ptr q) ct42 q q)<|Dv 4 (O.mv (.lit q))<|Dv 5 (O.ixI (.imm q) (.lit q) sl42 hx6)<|Dv 6 (O.fI (.iptr q) fd148_2)<|Dv 7 (O.ldI (x:=I64 x6.Prec) (.iptr q) ct3 q)<|Dv 8 (O.ixI (.imm q) (.lit q) sl40 hx7)<|Dv 9 (O.ldIN (cs':=[SS x7.Name,BB x7.Lit,I64 x7.Num,I64 x7.Level,I64 x7.Assoc,SS x7.Tag]) (.iptr q) at78 q q)<|Dv 10 (O.al (cs:=[SS S0,BB false,I64 0,I64 0,I64 0,SS S0]) ze78 q q)<|DL.sO 11 (G2:=[(6,.obj (eTok.cells x7))]) (cs2:=[SS x7.Name,BB x7.Lit,I64 x7.Num,I64 x7.Level,I64 x7.Assoc,SS x7.Tag]) q (by kernel_rfl) (by kernel_rfl) q q q (.obj q) (.aggF q q) q sz78 q q q q (.b q .nil)<|DL.fin q q q (.n q .nil)) ?_
  refine Px.sq<|W.sq' ?_
  refine W.rd [[],[0],[],[2],[0,1],rn 0 5 []] [(4,_),(5,_)] mixo (by kernel_rfl) (Dv 0 (O.fO q (.obj q) fd78_3 q)<|Dv 1 (O.ldO (y:=I64 x7.Level) q (.ptr q) ct3 q q)<|Dv 2 (O.fO q (.obj q) fd78_4 q)<|Dv 3 (O.ldO (y:=I64 x7.Assoc) q (.ptr q) ct3 q q)<|Dv 4 (O.az (.lit q))<|Dv 5 (O.az (.lit q))<|DL.fin q q q (tn2 q q)) ?_
  refine Px.sq<|W.rt ?_
  obtain rfl:=sm h
  exact Px.fin (Fin.ro (.f q q (.f q q .nil)) q (ode (by kernel_rfl)) (.no (.no .nil)) q (.inr q))
end Go.Proofs
