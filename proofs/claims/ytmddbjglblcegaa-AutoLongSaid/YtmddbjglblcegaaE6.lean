/-
  What is proved here: parts of the proof that the last text states: rules for walks through code, and of this program's functions what they answer. No condition of their own.
-/
import Derived.KernelRfl
import Derived.ProofKit
import Derived.RowKit3
import Derived.Test.YtmddbjglblcegaaRows
import Derived.Test.YtmddbjglblcegaaE5
namespace Go.Proofs
open Go Go.Own
set_option maxRecDepth 100000
set_option linter.unusedVariables false
theorem con61 (a0:Source) (r:Grammar × Int × Int × ByteArray) (h:pf61 a0=some r):Con Try.prog 61 [.agg [SS a0.Pro,iR eDecl_0 a0.Decls,iR eRule_0 a0.Rules,SS a0.Tail]] [none] (.tup [.agg (eGrammar_0.cells r.1),I64 r.2.1,I64 r.2.2.1,SS r.2.2.2]):=by
 unfold pf61 at h
 refine Con.go (N:=⟨435,[]⟩) Try.func61 q q q q (W.fin ?_)
 refine W.st [(0,.agg [SS a0.Pro,iR eDecl_0 a0.Decls,iR eRule_0 a0.Rules,SS a0.Tail])] ?_
 refine W.sq'<|W.rx [(1,_),(2,_)] (Rv (O.box (.aggF q q) q)<|Rv (O.al (cs:=[.nils,.nils,.nils,SS S0,SS S0]) ze38 q q)<|Vk q<|Vk q<|Vk q<|Fi (tn2 q q)) ?_
 refine Px.sq<|W.sq' ?_
 refine W.sq' ?_
 obtain ⟨x1,hx1,h⟩:=bnd h
 refine W.rx [(1,_),(2,_),(28,_)] (Rv (O.ldON (cs':=[SS a0.Pro,iR eDecl_0 a0.Decls,iR eRule_0 a0.Rules,SS a0.Tail]) q (.obj q) at25 q q)<|Rc (PC.go (.cc (.aggF q q) .nil) (con88 a0 _ hx1) call88 q)<|Rv (O.not (.lit q))<|Fi (tn3 q q q)) ?_
 refine Px.sq<|W.cnd q (fun hb2=>?_) (fun hb2=>?_)
 ·replace h:=cndT hb2 h
  refine W.sq'<|W.rx [(2,_),(3,_),(4,_),(5,_)] (Rv (O.bu (cs:=[.nils,.nils,.nils,SS S0,SS S0]) sc38 ze38 q q q)<|RunL.sO (G2:=[(2,.obj [.nils,.nils,.nils,SS S0,SS S0])]) (cs2:=[.nils,.nils,.nils,SS S0,SS S0]) q (.obj q) (.aggF q q) q sz38 q q q q (.b q .nil)<|Vk q<|Vk q<|Vk q<|Fi (tn4 q q q q)) ?_
  refine Px.sq<|W.fz (G1:=[(2,.obj [iR eTok ([]:List Tok),iR eNon ([]:List Non),iR eProd_0 ([]:List Prod),SS S0,SS S0]),(3,_),(4,_),(5,_)]) [2] (.z q q (FzL.obj (.z (.z (.z (.f (.f .nil)))))) (.n q q (.n q q (.n q q .nil)))) ?_
  refine W.rt ?_
  refine Px.sqR ?_
  obtain rfl:=sm h
  exact Px.fin (Fin.ro (.c (ys0:=[iR eTok ([]:List Tok),iR eNon ([]:List Non),iR eProd_0 ([]:List Prod),SS S0,SS S0]) q at38 q q q (.f q (.f q (.f q (.f q (.f q .nil))))) (.f q q (.f q q (.f q q .nil)))) q (ode (by kernel_rfl)) (.no .nil) q (.inr q))
 ·replace h:=cndF hb2 h
  refine W.sk<|Px.sq ?_
  refine W.sq' ?_
  obtain ⟨x3,hx3,h⟩:=bnd h
  refine W.rx [(1,_),(2,_),(6,_)] (Rv (O.mk (en:=eB) (z0:=false) sl116 (.k q) (.k q) ze4 q q hx3 bb4 q)<|Rv (O.bu (cs:=[.nils,.nils,.nils,SS S0,SS S0,.brw eB.z ⟨30,[]⟩ x3.length,.nils,.nils,I64 0,I64 0,SS S0,I64 0,I64 0]) sc143 ze143 q q q)<|Rv (O.box (.aggF q q) q)<|RunL.ea (G2:=[(1,.obj [SS a0.Pro,iR eDecl_0 a0.Decls,iR eRule_0 a0.Rules,SS a0.Tail]),(2,.obj [.nils,.nils,.nils,SS S0,SS S0])]) q (EO.aG (y':=.obj [.nils,.nils,.nils,SS S0,SS S0,oR eB x3,.nils,.nils,I64 0,I64 0,SS S0,I64 0,I64 0]) q q (.obj q) (.b q (.f (.f (.f (.f (.f (.r q (.f (.f (.f (.f (.f (.f (.f .nil))))))))))))) .nil) .refl (tn2 q q) q q)<|Fi (tn3 q q q)) ?_
  refine Px.sq<|W.sq' ?_
  refine W.rx [(1,_),(2,_),(6,_)] (Rv (O.mv (.obj q))<|Rv (O.bu (cs:=[SS ({ data:=#[36,101,110,100] }),BB false,I64 0,I64 0,I64 0,SS S0]) sc51 ze51 q q q)<|Rv (O.bu (cs:=[SS ({ data:=#[101,114,114,111,114] }),BB false,I64 (-1),I64 0,I64 0,SS S0]) sc51 ze51 q q q)<|Rv (O.bu (cs:=[SS ({ data:=#[36,117,110,107] }),BB false,I64 (-1),I64 0,I64 0,SS S0]) sc51 ze51 q q q)<|Rv (O.bs (ys:=[.agg [SS ({ data:=#[36,101,110,100] }),BB false,I64 0,I64 0,I64 0,SS S0],.agg [SS ({ data:=#[101,114,114,111,114] }),BB false,I64 (-1),I64 0,I64 0,SS S0],.agg [SS ({ data:=#[36,117,110,107] }),BB false,I64 (-1),I64 0,I64 0,SS S0]]) eTok [(⟨{ data:=#[36,101,110,100] },false,0,0,0,S0⟩:Tok),(⟨{ data:=#[101,114,114,111,114] },false,(-1),0,0,S0⟩:Tok),(⟨{ data:=#[36,117,110,107] },false,(-1),0,0,S0⟩:Tok)] sl34 q q q q q q zt51 q q)<|Rv (O.nlP (.ptr q))<|Rv (O.fO q (.ptr q) fd143_0 q)<|Rv (O.fO q (.ptr q) fd38_0 q)<|RunL.ef (G2:=[(1,.obj [SS a0.Pro,iR eDecl_0 a0.Decls,iR eRule_0 a0.Rules,SS a0.Tail]),(2,.obj [.nils,.nils,.nils,SS S0,SS S0]),(6,.obj [oR eTok [(⟨{ data:=#[36,101,110,100] },false,0,0,0,S0⟩:Tok),(⟨{ data:=#[101,114,114,111,114] },false,(-1),0,0,S0⟩:Tok),(⟨{ data:=#[36,117,110,107] },false,(-1),0,0,S0⟩:Tok)],.nils,.nils,SS S0,SS S0,oR eB x3,.nils,.nils,I64 0,I64 0,SS S0,I64 0,I64 0])]) q (EO.stB (y':=oR eTok [(⟨{ data:=#[36,101,110,100] },false,0,0,0,S0⟩:Tok),(⟨{ data:=#[101,114,114,111,114] },false,(-1),0,0,S0⟩:Tok),(⟨{ data:=#[36,117,110,107] },false,(-1),0,0,S0⟩:Tok)]) (cs2:=[oR eTok [(⟨{ data:=#[36,101,110,100] },false,0,0,0,S0⟩:Tok),(⟨{ data:=#[101,114,114,111,114] },false,(-1),0,0,S0⟩:Tok),(⟨{ data:=#[36,117,110,107] },false,(-1),0,0,S0⟩:Tok)],.nils,.nils,SS S0,SS S0,oR eB x3,.nils,.nils,I64 0,I64 0,SS S0,I64 0,I64 0]) q q (.ptr q) (.own q) (.r q .nil) .refl q sz34 q q q q q (.n q q (.n q q (.b q .nil))))<|Fi (tn3 q q q)) ?_
  refine Px.sq<|W.sq' ?_
  refine W.rx [(1,_),(2,_),(6,_),(7,_)] (Vk q<|Fi (tn4 q q q q)) ?_
  refine Px.sq<|W.sq' ?_
  refine W.sq'<|W.rx [(1,_),(2,_),(6,_),(7,_),(8,_)] (Vk q<|Fi (tn5 q q q q q)) ?_
  refine Px.sq<|W.bk ?_
  obtain ⟨x5,hl,h⟩:=bnd h
  refine W.tr (G1:=[(1,_),(2,_),(6,.obj [oR eTok (((⟨(⟨[(⟨{ data:=#[36,101,110,100] },false,0,0,0,S0⟩:Tok),(⟨{ data:=#[101,114,114,111,114] },false,(-1),0,0,S0⟩:Tok),(⟨{ data:=#[36,117,110,107] },false,(-1),0,0,S0⟩:Tok)],[],[],S0,S0⟩:Grammar),x3,[],[],0,0,S0,0,0⟩:yuccaref9_maker).f_g).Toks),oR eNon (((⟨(⟨[(⟨{ data:=#[36,101,110,100] },false,0,0,0,S0⟩:Tok),(⟨{ data:=#[101,114,114,111,114] },false,(-1),0,0,S0⟩:Tok),(⟨{ data:=#[36,117,110,107] },false,(-1),0,0,S0⟩:Tok)],[],[],S0,S0⟩:Grammar),x3,[],[],0,0,S0,0,0⟩:yuccaref9_maker).f_g).Nons),oR eProd_0 (((⟨(⟨[(⟨{ data:=#[36,101,110,100] },false,0,0,0,S0⟩:Tok),(⟨{ data:=#[101,114,114,111,114] },false,(-1),0,0,S0⟩:Tok),(⟨{ data:=#[36,117,110,107] },false,(-1),0,0,S0⟩:Tok)],[],[],S0,S0⟩:Grammar),x3,[],[],0,0,S0,0,0⟩:yuccaref9_maker).f_g).Prods),SS (((⟨(⟨[(⟨{ data:=#[36,101,110,100] },false,0,0,0,S0⟩:Tok),(⟨{ data:=#[101,114,114,111,114] },false,(-1),0,0,S0⟩:Tok),(⟨{ data:=#[36,117,110,107] },false,(-1),0,0,S0⟩:Tok)],[],[],S0,S0⟩:Grammar),x3,[],[],0,0,S0,0,0⟩:yuccaref9_maker).f_g).Pro),SS (((⟨(⟨[(⟨{ data:=#[36,101,110,100] },false,0,0,0,S0⟩:Tok),(⟨{ data:=#[101,114,114,111,114] },false,(-1),0,0,S0⟩:Tok),(⟨{ data:=#[36,117,110,107] },false,(-1),0,0,S0⟩:Tok)],[],[],S0,S0⟩:Grammar),x3,[],[],0,0,S0,0,0⟩:yuccaref9_maker).f_g).Tail),oR eB ((⟨(⟨[(⟨{ data:=#[36,101,110,100] },false,0,0,0,S0⟩:Tok),(⟨{ data:=#[101,114,114,111,114] },false,(-1),0,0,S0⟩:Tok),(⟨{ data:=#[36,117,110,107] },false,(-1),0,0,S0⟩:Tok)],[],[],S0,S0⟩:Grammar),x3,[],[],0,0,S0,0,0⟩:yuccaref9_maker).f_given),oR eNon ((⟨(⟨[(⟨{ data:=#[36,101,110,100] },false,0,0,0,S0⟩:Tok),(⟨{ data:=#[101,114,114,111,114] },false,(-1),0,0,S0⟩:Tok),(⟨{ data:=#[36,117,110,107] },false,(-1),0,0,S0⟩:Tok)],[],[],S0,S0⟩:Grammar),x3,[],[],0,0,S0,0,0⟩:yuccaref9_maker).f_types),oR eS ((⟨(⟨[(⟨{ data:=#[36,101,110,100] },false,0,0,0,S0⟩:Tok),(⟨{ data:=#[101,114,114,111,114] },false,(-1),0,0,S0⟩:Tok),(⟨{ data:=#[36,117,110,107] },false,(-1),0,0,S0⟩:Tok)],[],[],S0,S0⟩:Grammar),x3,[],[],0,0,S0,0,0⟩:yuccaref9_maker).f_lefts),I64 ((⟨(⟨[(⟨{ data:=#[36,101,110,100] },false,0,0,0,S0⟩:Tok),(⟨{ data:=#[101,114,114,111,114] },false,(-1),0,0,S0⟩:Tok),(⟨{ data:=#[36,117,110,107] },false,(-1),0,0,S0⟩:Tok)],[],[],S0,S0⟩:Grammar),x3,[],[],0,0,S0,0,0⟩:yuccaref9_maker).f_e),I64 ((⟨(⟨[(⟨{ data:=#[36,101,110,100] },false,0,0,0,S0⟩:Tok),(⟨{ data:=#[101,114,114,111,114] },false,(-1),0,0,S0⟩:Tok),(⟨{ data:=#[36,117,110,107] },false,(-1),0,0,S0⟩:Tok)],[],[],S0,S0⟩:Grammar),x3,[],[],0,0,S0,0,0⟩:yuccaref9_maker).f_at),SS ((⟨(⟨[(⟨{ data:=#[36,101,110,100] },false,0,0,0,S0⟩:Tok),(⟨{ data:=#[101,114,114,111,114] },false,(-1),0,0,S0⟩:Tok),(⟨{ data:=#[36,117,110,107] },false,(-1),0,0,S0⟩:Tok)],[],[],S0,S0⟩:Grammar),x3,[],[],0,0,S0,0,0⟩:yuccaref9_maker).f_name),I64 ((⟨(⟨[(⟨{ data:=#[36,101,110,100] },false,0,0,0,S0⟩:Tok),(⟨{ data:=#[101,114,114,111,114] },false,(-1),0,0,S0⟩:Tok),(⟨{ data:=#[36,117,110,107] },false,(-1),0,0,S0⟩:Tok)],[],[],S0,S0⟩:Grammar),x3,[],[],0,0,S0,0,0⟩:yuccaref9_maker).f_level),I64 ((⟨(⟨[(⟨{ data:=#[36,101,110,100] },false,0,0,0,S0⟩:Tok),(⟨{ data:=#[101,114,114,111,114] },false,(-1),0,0,S0⟩:Tok),(⟨{ data:=#[36,117,110,107] },false,(-1),0,0,S0⟩:Tok)],[],[],S0,S0⟩:Grammar),x3,[],[],0,0,S0,0,0⟩:yuccaref9_maker).f_inner)]),(7,_),(8,_)]) (.n q (.n q (.w q q (WkL.obj (.f (.o (.o (.f (.f (.f (.o (.o (.f (.f (.f (.f (.f .nil)))))))))))))) (tn2 q q)))) ?_
  refine W.lp1 (s:=((⟨(⟨[(⟨{ data:=#[36,101,110,100] },false,0,0,0,S0⟩:Tok),(⟨{ data:=#[101,114,114,111,114] },false,(-1),0,0,S0⟩:Tok),(⟨{ data:=#[36,117,110,107] },false,(-1),0,0,S0⟩:Tok)],[],[],S0,S0⟩:Grammar),x3,[],[],0,0,S0,0,0⟩:yuccaref9_maker),S0,0)) (fun (s4:yuccaref9_maker × ByteArray × Int)=>[(1,.obj [SS a0.Pro,iR eDecl_0 a0.Decls,iR eRule_0 a0.Rules,SS a0.Tail]),(2,.obj [.nils,.nils,.nils,SS S0,SS S0]),(6,.obj (eyuccaref9_maker_r.cells s4.1)),(7,SS s4.2.1),(8,I64 s4.2.2)]) 0 (fun (x5:yuccaref9_maker × ByteArray)=>[(1,.obj [SS a0.Pro,iR eDecl_0 a0.Decls,iR eRule_0 a0.Rules,SS a0.Tail]),(2,.obj [.nils,.nils,.nils,SS S0,SS S0]),(6,.obj (eyuccaref9_maker_r.cells x5.1)),(7,SS x5.2)]) hl (fun s4 o h=>?_) ?_
  ·clear hl
   refine W.sq'<|W.sq' ?_
   refine W.rx [(1,_),(2,_),(6,_),(7,_),(8,_),(45,_)] (Vm q<|Rv (O.fO q (.obj q) fd25_1 q)<|Rv (O.ldO (y:=iR eDecl_0 a0.Decls) q (.ptr q) ct22 q q)<|Rv (O.lenI (.imm q) sl22)<|Rv (O.lss (.lit q) (.lit q))<|Fi (tn6 q q q q q q)) ?_
   refine Px.sq<|W.cnd q (fun hb7=>?_) (fun hb7=>?_)
   ·replace h:=cndT hb7 h
    refine W.sk<|Px.sq ?_
    refine W.sq'<|W.bk ?_
    refine W.sq' ?_
    obtain ⟨x8,hx8,h⟩:=bnd h
    refine W.rx [(1,_),(2,_),(6,_),(7,_),(8,_),(9,_)] (Rv (O.fO q (.obj q) fd25_1 q)<|Rv (O.ldO (y:=iR eDecl_0 a0.Decls) q (.ptr q) ct22 q q)<|Vm q<|Rv (O.ixI (.imm q) (.lit q) sl22 hx8)<|Rv (O.ldIN (cs':=[I64 x8.Kind,SS x8.Tag,iR eSym x8.Syms,I64 x8.At]) (.iptr q) at55 q q)<|Rv (O.al (cs:=[I64 0,SS S0,.nils,I64 0]) ze55 q q)<|RunL.sO (G2:=[(1,.obj [SS a0.Pro,iR eDecl_0 a0.Decls,iR eRule_0 a0.Rules,SS a0.Tail]),(2,.obj [.nils,.nils,.nils,SS S0,SS S0]),(6,.obj (eyuccaref9_maker_r.cells s4.1)),(7,SS s4.2.1),(8,I64 s4.2.2),(9,.obj (eDecl_0.cells x8))]) (cs2:=[I64 x8.Kind,SS x8.Tag,iR eSym x8.Syms,I64 x8.At]) q (.obj q) (.aggF q q) q sz55 q q q q (.n q q (.n q q (.n q q (.n q q (.n q q (.b q .nil))))))<|Fi (tn6 q q q q q q)) ?_
    refine Px.sq<|W.sq' ?_
    refine W.sq' ?_
    obtain ⟨c10,hj,h⟩:=bnd h
    refine W.rx [(1,.obj [SS a0.Pro,iR eDecl_0 a0.Decls,iR eRule_0 a0.Rules,SS a0.Tail]),(2,.obj [.nils,.nils,.nils,SS S0,SS S0]),(6,.obj (eyuccaref9_maker_r.cells s4.1)),(7,SS s4.2.1),(8,I64 s4.2.2),(9,.obj (eDecl_0.cells x8)),(60,BB c10)] ?_ ?_
    ·refine Rv (O.fO q (.obj q) fd55_0 q)<|Rv (O.ldO (y:=I64 x8.Kind) q (.ptr q) ct3 q q)<|Rv (O.geq (.lit q) (.k q))<|Rv (O.mv (.lit q)) ?_
     rcases cnd hj with ⟨hb9,hj⟩ | ⟨hb9,hj⟩
     ·obtain rfl:=sm hj
      exact RunL.v (O.fO q (.obj q) fd55_0 q) q q (.yb q q hb9)<|RunL.v (O.ldO (y:=I64 x8.Kind) q (.ptr q) ct3 q q) q q (.yb q q hb9)<|RunL.v (O.leq (.lit q) (.k q)) q q (.yb q q hb9)<|Rv (O.pkT (.lit q) hb9 (.lit q))<|Fi (tn7 q q q q q q q)
     ·obtain rfl:=sm hj
      exact RunL.ps q q hb9 q q<|RunL.ps q q hb9 q q<|RunL.ps q q hb9 q q<|Rv (O.pkF (.lit q) hb9 (.k q))<|Fi (tn7 q q q q q q q)
    refine Px.sq ?_
    obtain ⟨j11,hj,h⟩:=bnd h
    refine W.jn [(1,.obj [SS a0.Pro,iR eDecl_0 a0.Decls,iR eRule_0 a0.Rules,SS a0.Tail]),(2,.obj [.nils,.nils,.nils,SS S0,SS S0]),(6,.obj [oR eTok s4.1.f_g.Toks,oR eNon s4.1.f_g.Nons,oR eProd_0 s4.1.f_g.Prods,SS s4.1.f_g.Pro,SS s4.1.f_g.Tail,oR eB s4.1.f_given,oR eNon s4.1.f_types,oR eS s4.1.f_lefts,I64 s4.1.f_e,I64 s4.1.f_at,SS s4.1.f_name,I64 j11,I64 s4.1.f_inner]),(7,SS s4.2.1),(8,I64 s4.2.2),(9,.obj (eDecl_0.cells x8))] ?_ ?_
    ·clear h; have h:=hj; clear hj
     refine W.cnd q (fun hb12=>?_) (fun hb12=>?_)
     ·replace h:=cndT hb12 h
      refine W.rx [(1,_),(2,_),(6,_),(7,_),(8,_),(9,_)] (Rv (O.mv (.obj q))<|Rv (O.nlP (.ptr q))<|Rv (O.fO q (.ptr q) fd143_7 q)<|Rv (O.ldO (y:=I64 s4.1.f_level) q (.ptr q) ct3 q q)<|Rv (O.add (.lit q) (.k q))<|Rv (O.nlP (.ptr q))<|Rv (O.fO q (.ptr q) fd143_7 q)<|RunL.sO (G2:=[(1,.obj [SS a0.Pro,iR eDecl_0 a0.Decls,iR eRule_0 a0.Rules,SS a0.Tail]),(2,.obj [.nils,.nils,.nils,SS S0,SS S0]),(6,.obj [oR eTok s4.1.f_g.Toks,oR eNon s4.1.f_g.Nons,oR eProd_0 s4.1.f_g.Prods,SS s4.1.f_g.Pro,SS s4.1.f_g.Tail,oR eB s4.1.f_given,oR eNon s4.1.f_types,oR eS s4.1.f_lefts,I64 s4.1.f_e,I64 s4.1.f_at,SS s4.1.f_name,I64 (w64 (s4.1.f_level+1)),I64 s4.1.f_inner]),(7,SS s4.2.1),(8,I64 s4.2.2),(9,.obj (eDecl_0.cells x8))]) (cs2:=[oR eTok s4.1.f_g.Toks,oR eNon s4.1.f_g.Nons,oR eProd_0 s4.1.f_g.Prods,SS s4.1.f_g.Pro,SS s4.1.f_g.Tail,oR eB s4.1.f_given,oR eNon s4.1.f_types,oR eS s4.1.f_lefts,I64 s4.1.f_e,I64 s4.1.f_at,SS s4.1.f_name,I64 (w64 (s4.1.f_level+1)),I64 s4.1.f_inner]) q (.ptr q) (.lit q) q sz3 q q q q (.n q q (.n q q (.b q (.n q q (.n q q (.n q q .nil))))))<|Fi (tn6 q q q q q q)) ?_
      obtain rfl:=sm h
      exact Px.jn (tn6 q q q q q q)
     ·replace h:=cndF hb12 h
      refine W.sk ?_
      obtain rfl:=sm h
      exact Px.jn (tn6 q q q q q q)
    refine Px.sq<|W.sq' ?_
    refine W.rx [(1,_),(2,_),(6,_),(7,_),(8,_),(9,_),(10,_)] (Vk q<|Fi (tn7 q q q q q q q)) ?_
    refine Px.sq<|W.bk ?_
    obtain ⟨x14,hl,h⟩:=bnd h
    refine W.tr (G1:=[(1,_),(2,_),(6,.obj [oR eTok (((⟨s4.1.f_g,s4.1.f_given,s4.1.f_types,s4.1.f_lefts,s4.1.f_e,s4.1.f_at,s4.1.f_name,j11,s4.1.f_inner⟩:yuccaref9_maker).f_g).Toks),oR eNon (((⟨s4.1.f_g,s4.1.f_given,s4.1.f_types,s4.1.f_lefts,s4.1.f_e,s4.1.f_at,s4.1.f_name,j11,s4.1.f_inner⟩:yuccaref9_maker).f_g).Nons),oR eProd_0 (((⟨s4.1.f_g,s4.1.f_given,s4.1.f_types,s4.1.f_lefts,s4.1.f_e,s4.1.f_at,s4.1.f_name,j11,s4.1.f_inner⟩:yuccaref9_maker).f_g).Prods),SS (((⟨s4.1.f_g,s4.1.f_given,s4.1.f_types,s4.1.f_lefts,s4.1.f_e,s4.1.f_at,s4.1.f_name,j11,s4.1.f_inner⟩:yuccaref9_maker).f_g).Pro),SS (((⟨s4.1.f_g,s4.1.f_given,s4.1.f_types,s4.1.f_lefts,s4.1.f_e,s4.1.f_at,s4.1.f_name,j11,s4.1.f_inner⟩:yuccaref9_maker).f_g).Tail),oR eB ((⟨s4.1.f_g,s4.1.f_given,s4.1.f_types,s4.1.f_lefts,s4.1.f_e,s4.1.f_at,s4.1.f_name,j11,s4.1.f_inner⟩:yuccaref9_maker).f_given),oR eNon ((⟨s4.1.f_g,s4.1.f_given,s4.1.f_types,s4.1.f_lefts,s4.1.f_e,s4.1.f_at,s4.1.f_name,j11,s4.1.f_inner⟩:yuccaref9_maker).f_types),oR eS ((⟨s4.1.f_g,s4.1.f_given,s4.1.f_types,s4.1.f_lefts,s4.1.f_e,s4.1.f_at,s4.1.f_name,j11,s4.1.f_inner⟩:yuccaref9_maker).f_lefts),I64 ((⟨s4.1.f_g,s4.1.f_given,s4.1.f_types,s4.1.f_lefts,s4.1.f_e,s4.1.f_at,s4.1.f_name,j11,s4.1.f_inner⟩:yuccaref9_maker).f_e),I64 ((⟨s4.1.f_g,s4.1.f_given,s4.1.f_types,s4.1.f_lefts,s4.1.f_e,s4.1.f_at,s4.1.f_name,j11,s4.1.f_inner⟩:yuccaref9_maker).f_at),SS ((⟨s4.1.f_g,s4.1.f_given,s4.1.f_types,s4.1.f_lefts,s4.1.f_e,s4.1.f_at,s4.1.f_name,j11,s4.1.f_inner⟩:yuccaref9_maker).f_name),I64 ((⟨s4.1.f_g,s4.1.f_given,s4.1.f_types,s4.1.f_lefts,s4.1.f_e,s4.1.f_at,s4.1.f_name,j11,s4.1.f_inner⟩:yuccaref9_maker).f_level),I64 ((⟨s4.1.f_g,s4.1.f_given,s4.1.f_types,s4.1.f_lefts,s4.1.f_e,s4.1.f_at,s4.1.f_name,j11,s4.1.f_inner⟩:yuccaref9_maker).f_inner)]),(7,_),(8,_),(9,_),(10,_)]) (tn7 q q q q q q q) ?_
    refine W.lp1 (s:=((⟨s4.1.f_g,s4.1.f_given,s4.1.f_types,s4.1.f_lefts,s4.1.f_e,s4.1.f_at,s4.1.f_name,j11,s4.1.f_inner⟩:yuccaref9_maker),s4.2.1,0)) (fun (s13:yuccaref9_maker × ByteArray × Int)=>[(1,.obj [SS a0.Pro,iR eDecl_0 a0.Decls,iR eRule_0 a0.Rules,SS a0.Tail]),(2,.obj [.nils,.nils,.nils,SS S0,SS S0]),(6,.obj (eyuccaref9_maker_r.cells s13.1)),(7,SS s13.2.1),(8,I64 s4.2.2),(9,.obj (eDecl_0.cells x8)),(10,I64 s13.2.2)]) 2 (fun (x14:yuccaref9_maker × ByteArray)=>[(1,.obj [SS a0.Pro,iR eDecl_0 a0.Decls,iR eRule_0 a0.Rules,SS a0.Tail]),(2,.obj [.nils,.nils,.nils,SS S0,SS S0]),(6,.obj (eyuccaref9_maker_r.cells x14.1)),(7,SS x14.2),(8,I64 s4.2.2)]) hl (fun s13 o h=>?_) ?_
    ·clear hl
     refine W.sq'<|W.sq' ?_
     refine W.rx [(1,_),(2,_),(6,_),(7,_),(8,_),(9,_),(10,_),(72,_)] (Vm q<|Rv (O.fO q (.obj q) fd55_2 q)<|Rv (O.ldO (y:=iR eSym x8.Syms) q (.ptr q) ct53 q q)<|Rv (O.lenI (.imm q) sl53)<|Rv (O.lss (.lit q) (.lit q))<|Fi (tn8 q q q q q q q q)) ?_
     refine Px.sq<|W.cnd q (fun hb16=>?_) (fun hb16=>?_)
     ·replace h:=cndT hb16 h
      refine W.sk<|Px.sq ?_
      refine W.sq' ?_
      obtain ⟨j17,hj,h⟩:=bnd h
      refine W.jn [(1,.obj [SS a0.Pro,iR eDecl_0 a0.Decls,iR eRule_0 a0.Rules,SS a0.Tail]),(2,.obj [.nils,.nils,.nils,SS S0,SS S0]),(6,.obj (eyuccaref9_maker_r.cells j17.1)),(7,SS j17.2),(8,I64 s4.2.2),(9,.obj (eDecl_0.cells x8)),(10,I64 s13.2.2)] ?_ ?_
      ·clear h; have h:=hj; clear hj
       refine W.bk<|W.sq' ?_
       refine W.sq'<|W.rx [(1,_),(2,_),(6,_),(7,_),(8,_),(9,_),(10,_),(77,_)] (Rv (O.fO q (.obj q) fd55_0 q)<|Rv (O.ldO (y:=I64 x8.Kind) q (.ptr q) ct3 q q)<|Rv (O.neq (.lit q) (.k q))<|Fi (tn8 q q q q q q q q)) ?_
       refine Px.sq<|W.cnd q (fun hb18=>?_) (fun hb18=>?_)
       ·replace h:=cndT hb18 h
        refine W.sq' ?_
        obtain ⟨x19,hx19,h⟩:=bnd h
        obtain ⟨x20,hx20,h⟩:=bnd h
        refine W.rd [[],[],[],[2],[],[2,3,4],[2,3,4,5],rn 0 7 []] [(1,_),(2,_),(6,_),(7,_),(8,_),(9,_),(10,_)] mixo (by kernel_rfl) (Dv 0 (O.mv (.obj q))<|Dv 1 (O.ldON (cs':=[I64 x8.Kind,SS x8.Tag,iR eSym x8.Syms,I64 x8.At]) q (.obj q) at55 q q)<|Dv 2 (O.fO q (.obj q) fd55_2 q)<|Dv 3 (O.ldO (y:=iR eSym x8.Syms) q (.ptr q) ct53 q q)<|Dv 4 (O.mv (.lit q))<|Dv 5 (O.ixI (.imm q) (.lit q) sl53 hx19)<|Dv 6 (O.ldIN (cs':=[SS x19.Name,BB x19.Lit,I64 x19.Num,I64 x19.At]) (.iptr q) at59 q q)<|DL.bp 7 (G2:=[(85,.tup []),(6,.obj [oR eTok x20.f_g.Toks,oR eNon x20.f_g.Nons,oR eProd_0 x20.f_g.Prods,SS x20.f_g.Pro,SS x20.f_g.Tail,oR eB x20.f_given,oR eNon x20.f_types,oR eS x20.f_lefts,I64 x20.f_e,I64 x20.f_at,SS x20.f_name,I64 x20.f_level,I64 x20.f_inner]),(1,.obj [SS a0.Pro,iR eDecl_0 a0.Decls,iR eRule_0 a0.Rules,SS a0.Tail]),(2,.obj [.nils,.nils,.nils,SS S0,SS S0]),(7,SS s13.2.1),(8,I64 s4.2.2),(9,.obj (eDecl_0.cells x8)),(10,I64 s13.2.2)]) (EO.call q q (CallOk.ln (G2:=[(1,.obj [SS a0.Pro,iR eDecl_0 a0.Decls,iR eRule_0 a0.Rules,SS a0.Tail]),(2,.obj [.nils,.nils,.nils,SS S0,SS S0]),(7,SS s13.2.1),(8,I64 s4.2.2),(9,.obj (eDecl_0.cells x8)),(10,I64 s13.2.2)]) (A:=[]) (ys:=[.ptr ⟨6,[]⟩ 0,.agg (eDecl_0.cells x8),.agg (eSym.cells x19)]) (args:=[.obj (eyuccaref9_maker_r.cells s13.1),.agg (eDecl_0.cells x8),.agg (eSym.cells x19)]) (cs':=[oR eTok x20.f_g.Toks,oR eNon x20.f_g.Nons,oR eProd_0 x20.f_g.Prods,SS x20.f_g.Pro,SS x20.f_g.Tail,oR eB x20.f_given,oR eNon x20.f_types,oR eS x20.f_lefts,I64 x20.f_e,I64 x20.f_at,SS x20.f_name,I64 x20.f_level,I64 x20.f_inner]) (k0:=0) q q q q (.b q (.n q (.n q .nil))) q (con89 s13.1 x8 x19 _ hx20) call89 (tn6 q q q q q q) q q (tn6 q q q q q q) .nil q)) q q q q (by kernel_rfl) (by kernel_rfl)<|DL.fin q q q (tn7 q q q q q q q)) ?_
        refine Px.sq<|W.xi ?_
        refine Px.sqE ?_
        refine Px.bkH ?_
        obtain rfl:=sm h
        exact Px.jn (tn7 q q q q q q q)
       ·replace h:=cndF hb18 h
        refine W.sk<|Px.sq ?_
        refine W.sq'<|W.sq' ?_
        refine W.rx [(1,_),(2,_),(6,_),(8,_),(9,_),(10,_),(87,_)] (Vm q<|Rv (O.neS (.lit q) (.k q))<|Fi (tn7 q q q q q q q)) ?_
        refine Px.sq ?_
        obtain ⟨j21,hj,h⟩:=bnd h
        refine W.jn [(1,.obj [SS a0.Pro,iR eDecl_0 a0.Decls,iR eRule_0 a0.Rules,SS a0.Tail]),(2,.obj [.nils,.nils,.nils,SS S0,SS S0]),(6,.obj (eyuccaref9_maker_r.cells j21)),(8,I64 s4.2.2),(9,.obj (eDecl_0.cells x8)),(10,I64 s13.2.2)] ?_ ?_
        ·clear h; have h:=hj; clear hj
         refine W.cnd q (fun hb22=>?_) (fun hb22=>?_)
         ·replace h:=cndT hb22 h
          obtain ⟨x23,hx23,h⟩:=bnd h
          obtain ⟨x24,hx24,h⟩:=bnd h
          obtain ⟨x25,hx25,h⟩:=bnd h
          refine W.rd [[],[],[1],[],[1,2,3],[1,2,3,4],rn 1 5 [],[],[7],[],[7,8,9],[7,8,9,10],rn 7 5 [],rn 0 13 []] [(1,_),(2,_),(6,_),(8,_),(9,_),(10,_)] mixo (by kernel_rfl) (Dv 0 (O.mv (.obj q))<|Dv 1 (O.fO q (.obj q) fd55_2 q)<|Dv 2 (O.ldO (y:=iR eSym x8.Syms) q (.ptr q) ct53 q q)<|Dv 3 (O.mv (.lit q))<|Dv 4 (O.ixI (.imm q) (.lit q) sl53 hx23)<|Dv 5 (O.fI (.iptr q) fd59_3)<|Dv 6 (O.ldI (x:=I64 x23.At) (.iptr q) ct3 q)<|Dv 7 (O.fO q (.obj q) fd55_2 q)<|Dv 8 (O.ldO (y:=iR eSym x8.Syms) q (.ptr q) ct53 q q)<|Dv 9 (O.mv (.lit q))<|Dv 10 (O.ixI (.imm q) (.lit q) sl53 hx24)<|Dv 11 (O.fI (.iptr q) fd59_0)<|Dv 12 (O.ldI (x:=SS x24.Name) (.iptr q) ct9 q)<|DL.bp 13 (G2:=[(101,.tup []),(6,.obj [oR eTok x25.f_g.Toks,oR eNon x25.f_g.Nons,oR eProd_0 x25.f_g.Prods,SS x25.f_g.Pro,SS x25.f_g.Tail,oR eB x25.f_given,oR eNon x25.f_types,oR eS x25.f_lefts,I64 x25.f_e,I64 x25.f_at,SS x25.f_name,I64 x25.f_level,I64 x25.f_inner]),(1,.obj [SS a0.Pro,iR eDecl_0 a0.Decls,iR eRule_0 a0.Rules,SS a0.Tail]),(2,.obj [.nils,.nils,.nils,SS S0,SS S0]),(8,I64 s4.2.2),(9,.obj (eDecl_0.cells x8)),(10,I64 s13.2.2)]) (EO.call q q (CallOk.ln (G2:=[(1,.obj [SS a0.Pro,iR eDecl_0 a0.Decls,iR eRule_0 a0.Rules,SS a0.Tail]),(2,.obj [.nils,.nils,.nils,SS S0,SS S0]),(8,I64 s4.2.2),(9,.obj (eDecl_0.cells x8)),(10,I64 s13.2.2)]) (A:=[]) (ys:=[.ptr ⟨6,[]⟩ 0,I64 x23.At,SS x24.Name]) (args:=[.obj (eyuccaref9_maker_r.cells s13.1),I64 x23.At,SS x24.Name]) (cs':=[oR eTok x25.f_g.Toks,oR eNon x25.f_g.Nons,oR eProd_0 x25.f_g.Prods,SS x25.f_g.Pro,SS x25.f_g.Tail,oR eB x25.f_given,oR eNon x25.f_types,oR eS x25.f_lefts,I64 x25.f_e,I64 x25.f_at,SS x25.f_name,I64 x25.f_level,I64 x25.f_inner]) (k0:=0) q q q q (.b q (.n q (.n q .nil))) q (con90 s13.1 x23.At x24.Name _ hx25) call90 (tn5 q q q q q) q q (tn5 q q q q q) .nil q)) q q q q (by kernel_rfl) (by kernel_rfl)<|DL.fin q q q (tn6 q q q q q q)) ?_
          obtain rfl:=sm h
          exact Px.jn (tn6 q q q q q q)
         ·replace h:=cndF hb22 h
          refine W.sk ?_
          obtain rfl:=sm h
          exact Px.jn (tn6 q q q q q q)
        refine Px.sq ?_
        obtain ⟨x26,hx26,h⟩:=bnd h
        refine W.rx [(1,_),(2,_),(6,_),(7,_),(8,_),(9,_),(10,_)] (Rv (O.fO q (.obj q) fd55_2 q)<|Rv (O.ldO (y:=iR eSym x8.Syms) q (.ptr q) ct53 q q)<|Vm q<|Rv (O.ixI (.imm q) (.lit q) sl53 hx26)<|Rv (O.fI (.iptr q) fd59_0)<|Rv (O.ldI (x:=SS x26.Name) (.iptr q) ct9 q)<|Va q<|Fi (tn7 q q q q q q q)) ?_
        refine Px.bk ?_
        obtain rfl:=sm h
        exact Px.jn (tn7 q q q q q q q)
      refine Px.sq<|W.rx [(1,_),(2,_),(6,_),(7,_),(8,_),(9,_),(10,_)] (Vm q<|Rv (O.add (.lit q) (.k q))<|RunL.re (G1:=[(1,_),(2,_),(6,_),(7,_),(8,_),(9,_),(74,_)]) (tn7 q q q q q q q)<|Va q<|Fi (tn7 q q q q q q q)) ?_
      obtain rfl:=sm h
      exact Px.go (tn7 q q q q q q q)
     ·replace h:=cndF hb16 h
      refine W.xi ?_
      refine Px.sqE ?_
      obtain rfl:=sm h
      exact Px.x1 (tn5 q q q q q)
    refine Px.bkH ?_
    refine Px.bk ?_
    refine Px.sq<|W.rx [(1,_),(2,_),(6,_),(7,_),(8,_)] (Vm q<|Rv (O.add (.lit q) (.k q))<|RunL.re (G1:=[(1,_),(2,_),(6,_),(7,_),(47,_)]) (tn5 q q q q q)<|Va q<|Fi (tn5 q q q q q)) ?_
    obtain rfl:=sm h
    exact Px.go (tn5 q q q q q)
   ·replace h:=cndF hb7 h
    refine W.xi ?_
    refine Px.sqE ?_
    obtain rfl:=sm h
    exact Px.x1 (tn4 q q q q)
  refine Px.bkH ?_
  refine Px.sq<|W.sq' ?_
  refine W.sq'<|W.rx [(1,_),(2,_),(6,_),(7,_),(11,_)] (Vk q<|Fi (tn5 q q q q q)) ?_
  refine Px.sq<|W.bk ?_
  obtain ⟨x28,hl,h⟩:=bnd h
  refine W.tr (G1:=[(1,_),(2,_),(6,_),(7,_),(11,_)]) (tn5 q q q q q) ?_
  refine W.lp1 (s:=(x5.1,0)) (fun (s27:yuccaref9_maker × Int)=>[(1,.obj [SS a0.Pro,iR eDecl_0 a0.Decls,iR eRule_0 a0.Rules,SS a0.Tail]),(2,.obj [.nils,.nils,.nils,SS S0,SS S0]),(6,.obj (eyuccaref9_maker_r.cells s27.1)),(7,SS x5.2),(11,I64 s27.2)]) 4 (fun (x28:yuccaref9_maker)=>[(1,.obj [SS a0.Pro,iR eDecl_0 a0.Decls,iR eRule_0 a0.Rules,SS a0.Tail]),(2,.obj [.nils,.nils,.nils,SS S0,SS S0]),(6,.obj (eyuccaref9_maker_r.cells x28)),(7,SS x5.2)]) hl (fun s27 o h=>?_) ?_
  ·clear hl
   refine W.sq'<|W.sq' ?_
   refine W.rx [(1,_),(2,_),(6,_),(7,_),(11,_),(112,_)] (Vm q<|Rv (O.fO q (.obj q) fd25_2 q)<|Rv (O.ldO (y:=iR eRule_0 a0.Rules) q (.ptr q) ct23 q q)<|Rv (O.lenI (.imm q) sl23)<|Rv (O.lss (.lit q) (.lit q))<|Fi (tn6 q q q q q q)) ?_
   refine Px.sq<|W.cnd q (fun hb30=>?_) (fun hb30=>?_)
   ·replace h:=cndT hb30 h
    refine W.sk<|Px.sq ?_
    refine W.sq' ?_
    obtain ⟨j31,hj,h⟩:=bnd h
    refine W.jn [(1,.obj [SS a0.Pro,iR eDecl_0 a0.Decls,iR eRule_0 a0.Rules,SS a0.Tail]),(2,.obj [.nils,.nils,.nils,SS S0,SS S0]),(6,.obj (eyuccaref9_maker_r.cells j31)),(7,SS x5.2),(11,I64 s27.2)] ?_ ?_
    ·clear h; have h:=hj; clear hj
     refine W.bk<|W.sq' ?_
     obtain ⟨x32,hx32,h⟩:=bnd h
     refine W.rx [(1,_),(2,_),(6,_),(7,_),(11,_),(12,_)] (Rv (O.fO q (.obj q) fd25_2 q)<|Rv (O.ldO (y:=iR eRule_0 a0.Rules) q (.ptr q) ct23 q q)<|Vm q<|Rv (O.ixI (.imm q) (.lit q) sl23 hx32)<|Rv (O.ldIN (cs':=[SS x32.Left,iR eAlt_0 x32.Alts,I64 x32.At]) (.iptr q) at65 q q)<|Rv (O.al (cs:=[SS S0,.nils,I64 0]) ze65 q q)<|RunL.sO (G2:=[(1,.obj [SS a0.Pro,iR eDecl_0 a0.Decls,iR eRule_0 a0.Rules,SS a0.Tail]),(2,.obj [.nils,.nils,.nils,SS S0,SS S0]),(6,.obj (eyuccaref9_maker_r.cells s27.1)),(7,SS x5.2),(11,I64 s27.2),(12,.obj (eRule_0.cells x32))]) (cs2:=[SS x32.Left,iR eAlt_0 x32.Alts,I64 x32.At]) q (.obj q) (.aggF q q) q sz65 q q q q (.n q q (.n q q (.n q q (.n q q (.n q q (.b q .nil))))))<|Fi (tn6 q q q q q q)) ?_
     refine Px.sq<|W.sq' ?_
     refine W.sq' ?_
     obtain ⟨x33,hx33,h⟩:=bnd h
     refine W.rx [(1,_),(2,_),(6,_),(7,_),(11,_),(12,_),(125,_)] (Rv (O.mv (.obj q))<|Rv (O.fO q (.obj q) fd65_0 q)<|Rv (O.ldO (y:=SS x32.Left) q (.ptr q) ct9 q q)<|Rv (O.bu (cs:=[SS x32.Left,BB false,I64 0,I64 0]) sc59 ze59 q q q)<|Rc (PC.vw (ys:=[.ptr ⟨6,[]⟩ 0,.agg [SS x32.Left,BB false,I64 0,I64 0]]) q (.c (View.p0 q q) (.c (.ag (.s (.s (.s (.s .nil))))) .nil)) (con91 s27.1 (⟨x32.Left,false,0,0⟩:Sym) _ hx33) call91 q)<|Rv (O.geq (.lit q) (.k q))<|Fi (tn7 q q q q q q q)) ?_
     refine Px.sq ?_
     obtain ⟨j34,hj,h⟩:=bnd h
     refine W.jn [(1,.obj [SS a0.Pro,iR eDecl_0 a0.Decls,iR eRule_0 a0.Rules,SS a0.Tail]),(2,.obj [.nils,.nils,.nils,SS S0,SS S0]),(6,.obj (eyuccaref9_maker_r.cells j34)),(7,SS x5.2),(11,I64 s27.2),(12,.obj (eRule_0.cells x32))] ?_ ?_
     ·clear h; have h:=hj; clear hj
      refine W.cnd q (fun hb35=>?_) (fun hb35=>?_)
      ·replace h:=cndT hb35 h
       obtain ⟨x36,hx36,h⟩:=bnd h
       refine W.rx [(1,_),(2,_),(6,_),(7,_),(11,_),(12,_)] (Rv (O.mv (.obj q))<|Rv (O.fO q (.obj q) fd65_2 q)<|Rv (O.ldO (y:=I64 x32.At) q (.ptr q) ct3 q q)<|Rv (O.fO q (.obj q) fd65_0 q)<|Rv (O.ldO (y:=SS x32.Left) q (.ptr q) ct9 q q)<|RunL.ef (G2:=[(131,.tup []),(6,.obj [oR eTok x36.f_g.Toks,oR eNon x36.f_g.Nons,oR eProd_0 x36.f_g.Prods,SS x36.f_g.Pro,SS x36.f_g.Tail,oR eB x36.f_given,oR eNon x36.f_types,oR eS x36.f_lefts,I64 x36.f_e,I64 x36.f_at,SS x36.f_name,I64 x36.f_level,I64 x36.f_inner]),(1,.obj [SS a0.Pro,iR eDecl_0 a0.Decls,iR eRule_0 a0.Rules,SS a0.Tail]),(2,.obj [.nils,.nils,.nils,SS S0,SS S0]),(7,SS x5.2),(11,I64 s27.2),(12,.obj (eRule_0.cells x32))]) q (EO.call q q (CallOk.ln (G2:=[(1,.obj [SS a0.Pro,iR eDecl_0 a0.Decls,iR eRule_0 a0.Rules,SS a0.Tail]),(2,.obj [.nils,.nils,.nils,SS S0,SS S0]),(7,SS x5.2),(11,I64 s27.2),(12,.obj (eRule_0.cells x32))]) (A:=[]) (ys:=[.ptr ⟨6,[]⟩ 0,I64 x32.At,SS x32.Left]) (args:=[.obj (eyuccaref9_maker_r.cells s27.1),I64 x32.At,SS x32.Left]) (cs':=[oR eTok x36.f_g.Toks,oR eNon x36.f_g.Nons,oR eProd_0 x36.f_g.Prods,SS x36.f_g.Pro,SS x36.f_g.Tail,oR eB x36.f_given,oR eNon x36.f_types,oR eS x36.f_lefts,I64 x36.f_e,I64 x36.f_at,SS x36.f_name,I64 x36.f_level,I64 x36.f_inner]) (k0:=0) q q q q (.b q (.n q (.n q .nil))) q (con90 s27.1 x32.At x32.Left _ hx36) call90 (tn5 q q q q q) q q (tn5 q q q q q) .nil q))<|Fi (tn6 q q q q q q)) ?_
       obtain rfl:=sm h
       exact Px.jn (tn6 q q q q q q)
      ·replace h:=cndF hb35 h
       refine W.sk ?_
       obtain rfl:=sm h
       exact Px.jn (tn6 q q q q q q)
     refine Px.sq<|W.sq' ?_
     obtain ⟨x37,hx37,h⟩:=bnd h
     refine W.rx [(1,_),(2,_),(6,_),(7,_),(11,_),(12,_),(136,_)] (Rv (O.mv (.obj q))<|Rv (O.fO q (.obj q) fd65_0 q)<|Rv (O.ldO (y:=SS x32.Left) q (.ptr q) ct9 q q)<|Rc (PC.vw (ys:=[.ptr ⟨6,[]⟩ 0,SS x32.Left]) q (.c (View.p0 q q) (.s .nil)) (con92 j34 x32.Left _ hx37) call92 q)<|Rv (O.lss (.lit q) (.k q))<|Fi (tn7 q q q q q q q)) ?_
     refine Px.sq ?_
     obtain ⟨j38,hj,h⟩:=bnd h
     refine W.jn [(1,.obj [SS a0.Pro,iR eDecl_0 a0.Decls,iR eRule_0 a0.Rules,SS a0.Tail]),(2,.obj [.nils,.nils,.nils,SS S0,SS S0]),(6,.obj [oR eTok j34.f_g.Toks,oR eNon j34.f_g.Nons,oR eProd_0 j34.f_g.Prods,SS j34.f_g.Pro,SS j34.f_g.Tail,oR eB j34.f_given,oR eNon j34.f_types,oR eS j38,I64 j34.f_e,I64 j34.f_at,SS j34.f_name,I64 j34.f_level,I64 j34.f_inner]),(7,SS x5.2),(11,I64 s27.2)] ?_ ?_
     ·clear h; have h:=hj; clear hj
      refine W.cnd q (fun hb39=>?_) (fun hb39=>?_)
      ·replace h:=cndT hb39 h
       obtain ⟨x40,hx40,h⟩:=bnd h
       refine W.rd [[],[],[1],[1,2],[1,2,3],[],[5],[5,6],rn 1 7 [],rn 0 9 [],rn 0 10 [],rn 0 11 []] [(1,_),(2,_),(6,_),(7,_),(11,_)] mixo (by kernel_rfl) (Dv 0 (O.mv (.obj q))<|Dv 1 (O.mv (.obj q))<|Dv 2 (O.nlP (.ptr q))<|Dv 3 (O.fO q (.ptr q) fd143_3 q)<|Dv 4 (O.ldO (y:=.brw eS.z ⟨6,[7]⟩ j34.f_lefts.length) q (.ptr q) ct141 q q)<|Dv 5 (O.fO q (.obj q) fd65_0 q)<|Dv 6 (O.ldO (y:=SS x32.Left) q (.ptr q) ct9 q q)<|DL.vi 7 (x:=iR eS [x32.Left]) (O.bs (ys:=[SS x32.Left]) eS [x32.Left] sl141 q q q q q q zt9 q q) q q q q .none<|Dv 8 (O.ap (en:=eS) (r:=x40) (.brw q) q (.imm q) .i ap141 q hx40)<|Dv 9 (O.nlP (.ptr q))<|Dv 10 (O.fO q (.ptr q) fd143_3 q)<|DL.bp 11 (G2:=[(1,.obj [SS a0.Pro,iR eDecl_0 a0.Decls,iR eRule_0 a0.Rules,SS a0.Tail]),(2,.obj [.nils,.nils,.nils,SS S0,SS S0]),(6,.obj [oR eTok j34.f_g.Toks,oR eNon j34.f_g.Nons,oR eProd_0 j34.f_g.Prods,SS j34.f_g.Pro,SS j34.f_g.Tail,oR eB j34.f_given,oR eNon j34.f_types,oR eS (j34.f_lefts++[x32.Left]),I64 j34.f_e,I64 j34.f_at,SS j34.f_name,I64 j34.f_level,I64 j34.f_inner]),(7,SS x5.2),(11,I64 s27.2)]) (EO.stP (g1:=_) (en:=eS) (M:=[x32.Left]) (cs2:=[oR eTok j34.f_g.Toks,oR eNon j34.f_g.Nons,oR eProd_0 j34.f_g.Prods,SS j34.f_g.Pro,SS j34.f_g.Tail,oR eB j34.f_given,oR eNon j34.f_types,oR eS (j34.f_lefts++[x32.Left]),I64 j34.f_e,I64 j34.f_at,SS j34.f_name,I64 j34.f_level,I64 j34.f_inner]) q q (.ptr q) (.pend q) q q q .ns .rf q q sz141 q q q q (.n q q (.n q q (.b q (.n q q (.n q q .nil)))))) q q q q (by kernel_rfl) (by kernel_rfl)<|DL.fin q q q (tn5 q q q q q)) ?_
       obtain rfl:=sm h
       exact Px.jn (tn5 q q q q q)
      ·replace h:=cndF hb39 h
       refine W.sk ?_
       obtain rfl:=sm h
       exact Px.jn (tn5 q q q q q)
     refine Px.bk ?_
     obtain rfl:=sm h
     exact Px.jn (tn5 q q q q q)
    refine Px.sq<|W.rx [(1,_),(2,_),(6,_),(7,_),(11,_)] (Vm q<|Rv (O.add (.lit q) (.k q))<|RunL.re (G1:=[(1,_),(2,_),(6,_),(7,_),(114,_)]) (tn5 q q q q q)<|Va q<|Fi (tn5 q q q q q)) ?_
    obtain rfl:=sm h
    exact Px.go (tn5 q q q q q)
   ·replace h:=cndF hb30 h
    refine W.xi ?_
    refine Px.sqE ?_
    obtain rfl:=sm h
    exact Px.x1 (tn4 q q q q)
  refine Px.bkH ?_
  refine Px.sq<|W.sq' ?_
  refine W.sq'<|W.rx [(1,_),(2,_),(6,_),(7,_),(13,_)] (Vk q<|Fi (tn5 q q q q q)) ?_
  refine Px.sq<|W.bk ?_
  obtain ⟨x42,hl,h⟩:=bnd h
  refine W.tr (G1:=[(1,_),(2,_),(6,_),(7,_),(13,_)]) (tn5 q q q q q) ?_
  refine W.lp1 (s:=(x28,0)) (fun (s41:yuccaref9_maker × Int)=>[(1,.obj [SS a0.Pro,iR eDecl_0 a0.Decls,iR eRule_0 a0.Rules,SS a0.Tail]),(2,.obj [.nils,.nils,.nils,SS S0,SS S0]),(6,.obj (eyuccaref9_maker_r.cells s41.1)),(7,SS x5.2),(13,I64 s41.2)]) 6 (fun (x42:yuccaref9_maker)=>[(1,.obj [SS a0.Pro,iR eDecl_0 a0.Decls,iR eRule_0 a0.Rules,SS a0.Tail]),(2,.obj [.nils,.nils,.nils,SS S0,SS S0]),(6,.obj (eyuccaref9_maker_r.cells x42)),(7,SS x5.2)]) hl (fun s41 o h=>?_) ?_
  ·clear hl
   refine W.sq'<|W.sq' ?_
   refine W.rx [(1,_),(2,_),(6,_),(7,_),(13,_),(152,_)] (Vm q<|Rv (O.fO q (.obj q) fd25_1 q)<|Rv (O.ldO (y:=iR eDecl_0 a0.Decls) q (.ptr q) ct22 q q)<|Rv (O.lenI (.imm q) sl22)<|Rv (O.lss (.lit q) (.lit q))<|Fi (tn6 q q q q q q)) ?_
   refine Px.sq<|W.cnd q (fun hb44=>?_) (fun hb44=>?_)
   ·replace h:=cndT hb44 h
    refine W.sk<|Px.sq ?_
    refine W.sq'<|W.bk ?_
    refine W.sq'<|W.rx [(1,_),(2,_),(6,_),(7,_),(13,_),(14,_)] (Vk q<|Fi (tn6 q q q q q q)) ?_
    refine Px.sq<|W.bk ?_
    obtain ⟨x46,hl,h⟩:=bnd h
    refine W.tr (G1:=[(1,_),(2,_),(6,_),(7,_),(13,_),(14,_)]) (tn6 q q q q q q) ?_
    refine W.lp1 (s:=(s41.1,0)) (fun (s45:yuccaref9_maker × Int)=>[(1,.obj [SS a0.Pro,iR eDecl_0 a0.Decls,iR eRule_0 a0.Rules,SS a0.Tail]),(2,.obj [.nils,.nils,.nils,SS S0,SS S0]),(6,.obj (eyuccaref9_maker_r.cells s45.1)),(7,SS x5.2),(13,I64 s41.2),(14,I64 s45.2)]) 8 (fun (x46:yuccaref9_maker)=>[(1,.obj [SS a0.Pro,iR eDecl_0 a0.Decls,iR eRule_0 a0.Rules,SS a0.Tail]),(2,.obj [.nils,.nils,.nils,SS S0,SS S0]),(6,.obj (eyuccaref9_maker_r.cells x46)),(7,SS x5.2),(13,I64 s41.2)]) hl (fun s45 o h=>?_) ?_
    ·clear hl
     refine W.sq'<|W.sq' ?_
     obtain ⟨x48,hx48,h⟩:=bnd h
     refine W.rx [(1,_),(2,_),(6,_),(7,_),(13,_),(14,_),(163,_)] (Vm q<|Rv (O.fO q (.obj q) fd25_1 q)<|Rv (O.ldO (y:=iR eDecl_0 a0.Decls) q (.ptr q) ct22 q q)<|Vm q<|Rv (O.ixI (.imm q) (.lit q) sl22 hx48)<|Rv (O.fI (.iptr q) fd55_2)<|Rv (O.ldI (x:=iR eSym x48.Syms) (.iptr q) ct53 q)<|Rv (O.lenI (.imm q) sl53)<|Rv (O.lss (.lit q) (.lit q))<|Fi (tn7 q q q q q q q)) ?_
     refine Px.sq<|W.cnd q (fun hb49=>?_) (fun hb49=>?_)
     ·replace h:=cndT hb49 h
      refine W.sk<|Px.sq ?_
      refine W.sq' ?_
      obtain ⟨j50,hj,h⟩:=bnd h
      refine W.jn [(1,.obj [SS a0.Pro,iR eDecl_0 a0.Decls,iR eRule_0 a0.Rules,SS a0.Tail]),(2,.obj [.nils,.nils,.nils,SS S0,SS S0]),(6,.obj (eyuccaref9_maker_r.cells j50)),(7,SS x5.2),(13,I64 s41.2),(14,I64 s45.2)] ?_ ?_
      ·clear h; have h:=hj; clear hj
       refine W.bk<|W.sq' ?_
       obtain ⟨x51,hx51,h⟩:=bnd h
       obtain ⟨x52,hx52,h⟩:=bnd h
       refine W.rx [(1,_),(2,_),(6,_),(7,_),(13,_),(14,_),(15,_)] (Rv (O.fO q (.obj q) fd25_1 q)<|Rv (O.ldO (y:=iR eDecl_0 a0.Decls) q (.ptr q) ct22 q q)<|Vm q<|Rv (O.ixI (.imm q) (.lit q) sl22 hx51)<|Rv (O.fI (.iptr q) fd55_2)<|Rv (O.ldI (x:=iR eSym x51.Syms) (.iptr q) ct53 q)<|Vm q<|Rv (O.ixI (.imm q) (.lit q) sl53 hx52)<|Rv (O.ldIN (cs':=[SS x52.Name,BB x52.Lit,I64 x52.Num,I64 x52.At]) (.iptr q) at59 q q)<|Rv (O.al (cs:=[SS S0,BB false,I64 0,I64 0]) ze59 q q)<|RunL.sO (G2:=[(1,.obj [SS a0.Pro,iR eDecl_0 a0.Decls,iR eRule_0 a0.Rules,SS a0.Tail]),(2,.obj [.nils,.nils,.nils,SS S0,SS S0]),(6,.obj (eyuccaref9_maker_r.cells s45.1)),(7,SS x5.2),(13,I64 s41.2),(14,I64 s45.2),(15,.obj (eSym.cells x52))]) (cs2:=[SS x52.Name,BB x52.Lit,I64 x52.Num,I64 x52.At]) q (.obj q) (.aggF q q) q sz59 q q q q (.n q q (.n q q (.n q q (.n q q (.n q q (.n q q (.b q .nil)))))))<|Fi (tn7 q q q q q q q)) ?_
       refine Px.sq<|W.sq' ?_
       obtain ⟨c56,hj,h⟩:=bnd h
       refine W.rx [(1,.obj [SS a0.Pro,iR eDecl_0 a0.Decls,iR eRule_0 a0.Rules,SS a0.Tail]),(2,.obj [.nils,.nils,.nils,SS S0,SS S0]),(6,.obj (eyuccaref9_maker_r.cells s45.1)),(7,SS x5.2),(13,I64 s41.2),(14,I64 s45.2),(15,.obj (eSym.cells x52)),(188,BB c56)] ?_ ?_
       ·refine Rv (O.fO q (.obj q) fd25_1 q)<|Rv (O.ldO (y:=iR eDecl_0 a0.Decls) q (.ptr q) ct22 q q)<|Rv (O.mv (.lit q)) ?_
        obtain ⟨x53,hx53,hj⟩:=bnd hj
        refine Rv (O.ixI (.imm q) (.lit q) sl22 hx53)<|Rv (O.fI (.iptr q) fd55_0)<|Rv (O.ldI (x:=I64 x53.Kind) (.iptr q) ct3 q)<|Rv (O.geq (.lit q) (.k q))<|Rv (O.mv (.lit q)) ?_
        rcases cnd hj with ⟨hb54,hj⟩ | ⟨hb54,hj⟩
        ·refine RunL.v (O.mv (.obj q)) q q (.yb q q hb54)<|RunL.v (O.fO q (.obj q) fd59_0 q) q q (.yb q q hb54)<|RunL.v (O.ldO (y:=SS x52.Name) q (.ptr q) ct9 q q) q q (.yb q q hb54) ?_
         obtain ⟨x55,hx55,hj⟩:=bnd hj
         obtain rfl:=sm hj
         exact RunL.c (PC.vw (ys:=[.ptr ⟨6,[]⟩ 0,SS x52.Name]) q (.c (View.p0 q q) (.s .nil)) (con92 s45.1 x52.Name _ hx55) call92 q) q q (.yb q q hb54)<|RunL.v (O.lss (.lit q) (.k q)) q q (.yb q q hb54)<|Rv (O.pkT (.lit q) hb54 (.lit q))<|Fi (tn8 q q q q q q q q)
        ·obtain rfl:=sm hj
         exact RunL.ps q q hb54 q q<|RunL.ps q q hb54 q q<|RunL.ps q q hb54 q q<|RunL.ps q q hb54 q q<|RunL.ps q q hb54 q q<|Rv (O.pkF (.lit q) hb54 (.k q))<|Fi (tn8 q q q q q q q q)
       refine Px.sq ?_
       obtain ⟨j57,hj,h⟩:=bnd h
       refine W.jn [(1,.obj [SS a0.Pro,iR eDecl_0 a0.Decls,iR eRule_0 a0.Rules,SS a0.Tail]),(2,.obj [.nils,.nils,.nils,SS S0,SS S0]),(6,.obj (eyuccaref9_maker_r.cells j57)),(7,SS x5.2),(13,I64 s41.2),(14,I64 s45.2)] ?_ ?_
       ·clear h; have h:=hj; clear hj
        refine W.cnd q (fun hb58=>?_) (fun hb58=>?_)
        ·replace h:=cndT hb58 h
         obtain ⟨x59,hx59,h⟩:=bnd h
         refine W.rx [(1,_),(2,_),(6,_),(7,_),(13,_),(14,_)] (Rv (O.mv (.obj q))<|Rv (O.fO q (.obj q) fd59_3 q)<|Rv (O.ldO (y:=I64 x52.At) q (.ptr q) ct3 q q)<|Rv (O.fO q (.obj q) fd59_0 q)<|Rv (O.ldO (y:=SS x52.Name) q (.ptr q) ct9 q q)<|RunL.ef (G2:=[(194,.tup []),(6,.obj [oR eTok x59.f_g.Toks,oR eNon x59.f_g.Nons,oR eProd_0 x59.f_g.Prods,SS x59.f_g.Pro,SS x59.f_g.Tail,oR eB x59.f_given,oR eNon x59.f_types,oR eS x59.f_lefts,I64 x59.f_e,I64 x59.f_at,SS x59.f_name,I64 x59.f_level,I64 x59.f_inner]),(1,.obj [SS a0.Pro,iR eDecl_0 a0.Decls,iR eRule_0 a0.Rules,SS a0.Tail]),(2,.obj [.nils,.nils,.nils,SS S0,SS S0]),(7,SS x5.2),(13,I64 s41.2),(14,I64 s45.2)]) q (EO.call q q (CallOk.ln (G2:=[(1,.obj [SS a0.Pro,iR eDecl_0 a0.Decls,iR eRule_0 a0.Rules,SS a0.Tail]),(2,.obj [.nils,.nils,.nils,SS S0,SS S0]),(7,SS x5.2),(13,I64 s41.2),(14,I64 s45.2)]) (A:=[]) (ys:=[.ptr ⟨6,[]⟩ 0,I64 x52.At,SS x52.Name]) (args:=[.obj (eyuccaref9_maker_r.cells s45.1),I64 x52.At,SS x52.Name]) (cs':=[oR eTok x59.f_g.Toks,oR eNon x59.f_g.Nons,oR eProd_0 x59.f_g.Prods,SS x59.f_g.Pro,SS x59.f_g.Tail,oR eB x59.f_given,oR eNon x59.f_types,oR eS x59.f_lefts,I64 x59.f_e,I64 x59.f_at,SS x59.f_name,I64 x59.f_level,I64 x59.f_inner]) (k0:=0) q q q q (.b q (.n q (.n q .nil))) q (con90 s45.1 x52.At x52.Name _ hx59) call90 (tn5 q q q q q) q q (tn5 q q q q q) .nil q))<|Fi (tn6 q q q q q q)) ?_
         obtain rfl:=sm h
         exact Px.jn (tn6 q q q q q q)
        ·replace h:=cndF hb58 h
         refine W.sk ?_
         obtain rfl:=sm h
         exact Px.jn (tn6 q q q q q q)
       refine Px.bk ?_
       obtain rfl:=sm h
       exact Px.jn (tn6 q q q q q q)
      refine Px.sq<|W.rx [(1,_),(2,_),(6,_),(7,_),(13,_),(14,_)] (Vm q<|Rv (O.add (.lit q) (.k q))<|RunL.re (G1:=[(1,_),(2,_),(6,_),(7,_),(13,_),(165,_)]) (tn6 q q q q q q)<|Va q<|Fi (tn6 q q q q q q)) ?_
      obtain rfl:=sm h
      exact Px.go (tn6 q q q q q q)
     ·replace h:=cndF hb49 h
      refine W.xi ?_
      refine Px.sqE ?_
      obtain rfl:=sm h
      exact Px.x1 (tn5 q q q q q)
    refine Px.bkH ?_
    refine Px.bk ?_
    refine Px.sq<|W.rx [(1,_),(2,_),(6,_),(7,_),(13,_)] (Vm q<|Rv (O.add (.lit q) (.k q))<|RunL.re (G1:=[(1,_),(2,_),(6,_),(7,_),(154,_)]) (tn5 q q q q q)<|Va q<|Fi (tn5 q q q q q)) ?_
    obtain rfl:=sm h
    exact Px.go (tn5 q q q q q)
   ·replace h:=cndF hb44 h
    refine W.xi ?_
    refine Px.sqE ?_
    obtain rfl:=sm h
    exact Px.x1 (tn4 q q q q)
  refine Px.bkH ?_
  refine Px.sq<|W.sq' ?_
  refine W.sq'<|W.rx [(1,_),(2,_),(6,_),(7,_),(196,_)] (Vm q<|Rv (O.eqS (.lit q) (.k q))<|Fi (tn5 q q q q q)) ?_
  refine Px.sq ?_
  obtain ⟨j60,hj,h⟩:=bnd h
  refine W.jn [(1,.obj [SS a0.Pro,iR eDecl_0 a0.Decls,iR eRule_0 a0.Rules,SS a0.Tail]),(2,.obj [.nils,.nils,.nils,SS S0,SS S0]),(6,.obj (eyuccaref9_maker_r.cells x42)),(7,SS j60)] ?_ ?_
  ·clear h; have h:=hj; clear hj
   refine W.cnd q (fun hb61=>?_) (fun hb61=>?_)
   ·replace h:=cndT hb61 h
    obtain ⟨x62,hx62,h⟩:=bnd h
    refine W.rx [(1,_),(2,_),(6,_),(7,_)] (Rv (O.fO q (.obj q) fd25_2 q)<|Rv (O.ldO (y:=iR eRule_0 a0.Rules) q (.ptr q) ct23 q q)<|Rv (O.ixI (.imm q) (.k q) sl23 hx62)<|Rv (O.fI (.iptr q) fd65_0)<|Rv (O.ldI (x:=SS x62.Left) (.iptr q) ct9 q)<|RunL.re (G1:=[(1,_),(2,_),(6,_),(201,_)]) (tn4 q q q q)<|Va q<|Fi (tn4 q q q q)) ?_
    obtain rfl:=sm h
    exact Px.jn (tn4 q q q q)
   ·replace h:=cndF hb61 h
    refine W.sk ?_
    obtain rfl:=sm h
    exact Px.jn (tn4 q q q q)
  refine Px.sq<|W.sq' ?_
  obtain ⟨x63,hx63,h⟩:=bnd h
  refine W.rx [(1,_),(2,_),(6,_)] (Rv (O.mv (.obj q))<|Rv (O.mv (.obj q))<|Vm q<|Rc (PC.vw (ys:=[.ptr ⟨6,[]⟩ 0,SS j60]) q (.c (View.p0 q q) (.s .nil)) (con92 x42 j60 _ hx63) call92 q)<|Rv (O.add (.k q) (.lit q))<|RunL.vi (x:=iR eI [w64 (1001+x63)]) (O.bs (ys:=[I64 (w64 (1001+x63))]) eI [w64 (1001+x63)] sl27 q q q q q q zt3 q q) q q .none<|RunL.vi (x:=.agg [I64 0,iR eI [w64 (1001+x63)],I64 (-1),SS S0,iR eI ([]:List Int),I64 0]) (O.bu (cs:=[I64 0,iR eI [w64 (1001+x63)],I64 (-1),SS S0,.nils,I64 0]) sc83 ze83 q q q) q q .none<|Rv (O.bs (ys:=[.agg [I64 0,iR eI [w64 (1001+x63)],I64 (-1),SS S0,iR eI ([]:List Int),I64 0]]) eProd_0 [(⟨0,[w64 (1001+x63)],(-1),S0,([]:List Int),0⟩:Prod)] sl36 q q q q q q zt83 q q)<|Rv (O.nlP (.ptr q))<|Rv (O.fO q (.ptr q) fd143_0 q)<|Rv (O.fO q (.ptr q) fd38_2 q)<|RunL.ef (G2:=[(1,.obj [SS a0.Pro,iR eDecl_0 a0.Decls,iR eRule_0 a0.Rules,SS a0.Tail]),(2,.obj [.nils,.nils,.nils,SS S0,SS S0]),(6,.obj [oR eTok x42.f_g.Toks,oR eNon x42.f_g.Nons,oR eProd_0 [(⟨0,[w64 (1001+x63)],(-1),S0,([]:List Int),0⟩:Prod)],SS x42.f_g.Pro,SS x42.f_g.Tail,oR eB x42.f_given,oR eNon x42.f_types,oR eS x42.f_lefts,I64 x42.f_e,I64 x42.f_at,SS x42.f_name,I64 x42.f_level,I64 x42.f_inner])]) q (EO.stB (y':=oR eProd_0 [(⟨0,[w64 (1001+x63)],(-1),S0,([]:List Int),0⟩:Prod)]) (cs2:=[oR eTok x42.f_g.Toks,oR eNon x42.f_g.Nons,oR eProd_0 [(⟨0,[w64 (1001+x63)],(-1),S0,([]:List Int),0⟩:Prod)],SS x42.f_g.Pro,SS x42.f_g.Tail,oR eB x42.f_given,oR eNon x42.f_types,oR eS x42.f_lefts,I64 x42.f_e,I64 x42.f_at,SS x42.f_name,I64 x42.f_level,I64 x42.f_inner]) q q (.ptr q) (.own q) (.r q .nil) .refl q sz36 q q q q q (.n q q (.n q q (.b q .nil))))<|Fi (tn3 q q q)) ?_
  refine Px.sq<|W.sq' ?_
  refine W.sq'<|W.rx [(1,_),(2,_),(6,_),(16,_)] (Vk q<|Fi (tn4 q q q q)) ?_
  refine Px.sq<|W.bk ?_
  obtain ⟨x65,hl,h⟩:=bnd h
  refine W.tr (G1:=[(1,_),(2,_),(6,.obj [oR eTok (((⟨(⟨x42.f_g.Toks,x42.f_g.Nons,[(⟨0,[w64 (1001+x63)],(-1),S0,([]:List Int),0⟩:Prod)],x42.f_g.Pro,x42.f_g.Tail⟩:Grammar),x42.f_given,x42.f_types,x42.f_lefts,x42.f_e,x42.f_at,x42.f_name,x42.f_level,x42.f_inner⟩:yuccaref9_maker).f_g).Toks),oR eNon (((⟨(⟨x42.f_g.Toks,x42.f_g.Nons,[(⟨0,[w64 (1001+x63)],(-1),S0,([]:List Int),0⟩:Prod)],x42.f_g.Pro,x42.f_g.Tail⟩:Grammar),x42.f_given,x42.f_types,x42.f_lefts,x42.f_e,x42.f_at,x42.f_name,x42.f_level,x42.f_inner⟩:yuccaref9_maker).f_g).Nons),oR eProd_0 (((⟨(⟨x42.f_g.Toks,x42.f_g.Nons,[(⟨0,[w64 (1001+x63)],(-1),S0,([]:List Int),0⟩:Prod)],x42.f_g.Pro,x42.f_g.Tail⟩:Grammar),x42.f_given,x42.f_types,x42.f_lefts,x42.f_e,x42.f_at,x42.f_name,x42.f_level,x42.f_inner⟩:yuccaref9_maker).f_g).Prods),SS (((⟨(⟨x42.f_g.Toks,x42.f_g.Nons,[(⟨0,[w64 (1001+x63)],(-1),S0,([]:List Int),0⟩:Prod)],x42.f_g.Pro,x42.f_g.Tail⟩:Grammar),x42.f_given,x42.f_types,x42.f_lefts,x42.f_e,x42.f_at,x42.f_name,x42.f_level,x42.f_inner⟩:yuccaref9_maker).f_g).Pro),SS (((⟨(⟨x42.f_g.Toks,x42.f_g.Nons,[(⟨0,[w64 (1001+x63)],(-1),S0,([]:List Int),0⟩:Prod)],x42.f_g.Pro,x42.f_g.Tail⟩:Grammar),x42.f_given,x42.f_types,x42.f_lefts,x42.f_e,x42.f_at,x42.f_name,x42.f_level,x42.f_inner⟩:yuccaref9_maker).f_g).Tail),oR eB ((⟨(⟨x42.f_g.Toks,x42.f_g.Nons,[(⟨0,[w64 (1001+x63)],(-1),S0,([]:List Int),0⟩:Prod)],x42.f_g.Pro,x42.f_g.Tail⟩:Grammar),x42.f_given,x42.f_types,x42.f_lefts,x42.f_e,x42.f_at,x42.f_name,x42.f_level,x42.f_inner⟩:yuccaref9_maker).f_given),oR eNon ((⟨(⟨x42.f_g.Toks,x42.f_g.Nons,[(⟨0,[w64 (1001+x63)],(-1),S0,([]:List Int),0⟩:Prod)],x42.f_g.Pro,x42.f_g.Tail⟩:Grammar),x42.f_given,x42.f_types,x42.f_lefts,x42.f_e,x42.f_at,x42.f_name,x42.f_level,x42.f_inner⟩:yuccaref9_maker).f_types),oR eS ((⟨(⟨x42.f_g.Toks,x42.f_g.Nons,[(⟨0,[w64 (1001+x63)],(-1),S0,([]:List Int),0⟩:Prod)],x42.f_g.Pro,x42.f_g.Tail⟩:Grammar),x42.f_given,x42.f_types,x42.f_lefts,x42.f_e,x42.f_at,x42.f_name,x42.f_level,x42.f_inner⟩:yuccaref9_maker).f_lefts),I64 ((⟨(⟨x42.f_g.Toks,x42.f_g.Nons,[(⟨0,[w64 (1001+x63)],(-1),S0,([]:List Int),0⟩:Prod)],x42.f_g.Pro,x42.f_g.Tail⟩:Grammar),x42.f_given,x42.f_types,x42.f_lefts,x42.f_e,x42.f_at,x42.f_name,x42.f_level,x42.f_inner⟩:yuccaref9_maker).f_e),I64 ((⟨(⟨x42.f_g.Toks,x42.f_g.Nons,[(⟨0,[w64 (1001+x63)],(-1),S0,([]:List Int),0⟩:Prod)],x42.f_g.Pro,x42.f_g.Tail⟩:Grammar),x42.f_given,x42.f_types,x42.f_lefts,x42.f_e,x42.f_at,x42.f_name,x42.f_level,x42.f_inner⟩:yuccaref9_maker).f_at),SS ((⟨(⟨x42.f_g.Toks,x42.f_g.Nons,[(⟨0,[w64 (1001+x63)],(-1),S0,([]:List Int),0⟩:Prod)],x42.f_g.Pro,x42.f_g.Tail⟩:Grammar),x42.f_given,x42.f_types,x42.f_lefts,x42.f_e,x42.f_at,x42.f_name,x42.f_level,x42.f_inner⟩:yuccaref9_maker).f_name),I64 ((⟨(⟨x42.f_g.Toks,x42.f_g.Nons,[(⟨0,[w64 (1001+x63)],(-1),S0,([]:List Int),0⟩:Prod)],x42.f_g.Pro,x42.f_g.Tail⟩:Grammar),x42.f_given,x42.f_types,x42.f_lefts,x42.f_e,x42.f_at,x42.f_name,x42.f_level,x42.f_inner⟩:yuccaref9_maker).f_level),I64 ((⟨(⟨x42.f_g.Toks,x42.f_g.Nons,[(⟨0,[w64 (1001+x63)],(-1),S0,([]:List Int),0⟩:Prod)],x42.f_g.Pro,x42.f_g.Tail⟩:Grammar),x42.f_given,x42.f_types,x42.f_lefts,x42.f_e,x42.f_at,x42.f_name,x42.f_level,x42.f_inner⟩:yuccaref9_maker).f_inner)]),(16,_)]) (tn4 q q q q) ?_
  refine W.lp1 (s:=((⟨(⟨x42.f_g.Toks,x42.f_g.Nons,[(⟨0,[w64 (1001+x63)],(-1),S0,([]:List Int),0⟩:Prod)],x42.f_g.Pro,x42.f_g.Tail⟩:Grammar),x42.f_given,x42.f_types,x42.f_lefts,x42.f_e,x42.f_at,x42.f_name,x42.f_level,x42.f_inner⟩:yuccaref9_maker),0)) (fun (s64:yuccaref9_maker × Int)=>[(1,.obj [SS a0.Pro,iR eDecl_0 a0.Decls,iR eRule_0 a0.Rules,SS a0.Tail]),(2,.obj [.nils,.nils,.nils,SS S0,SS S0]),(6,.obj (eyuccaref9_maker_r.cells s64.1)),(16,I64 s64.2)]) 10 (fun (x65:yuccaref9_maker)=>[(1,.obj [SS a0.Pro,iR eDecl_0 a0.Decls,iR eRule_0 a0.Rules,SS a0.Tail]),(2,.obj [.nils,.nils,.nils,SS S0,SS S0]),(6,.obj (eyuccaref9_maker_r.cells x65))]) hl (fun s64 o h=>?_) ?_
  ·clear hl
   refine W.sq'<|W.sq' ?_
   refine W.rx [(1,_),(2,_),(6,_),(16,_),(217,_)] (Vm q<|Rv (O.fO q (.obj q) fd25_2 q)<|Rv (O.ldO (y:=iR eRule_0 a0.Rules) q (.ptr q) ct23 q q)<|Rv (O.lenI (.imm q) sl23)<|Rv (O.lss (.lit q) (.lit q))<|Fi (tn5 q q q q q)) ?_
   refine Px.sq<|W.cnd q (fun hb67=>?_) (fun hb67=>?_)
   ·replace h:=cndT hb67 h
    refine W.sk<|Px.sq ?_
    refine W.sq'<|W.bk ?_
    refine W.sq'<|W.rx [(1,_),(2,_),(6,_),(16,_),(17,_)] (Vk q<|Fi (tn5 q q q q q)) ?_
    refine Px.sq<|W.bk ?_
    obtain ⟨x69,hl,h⟩:=bnd h
    refine W.tr (G1:=[(1,_),(2,_),(6,_),(16,_),(17,_)]) (tn5 q q q q q) ?_
    refine W.lp1 (s:=(s64.1,0)) (fun (s68:yuccaref9_maker × Int)=>[(1,.obj [SS a0.Pro,iR eDecl_0 a0.Decls,iR eRule_0 a0.Rules,SS a0.Tail]),(2,.obj [.nils,.nils,.nils,SS S0,SS S0]),(6,.obj (eyuccaref9_maker_r.cells s68.1)),(16,I64 s64.2),(17,I64 s68.2)]) 12 (fun (x69:yuccaref9_maker)=>[(1,.obj [SS a0.Pro,iR eDecl_0 a0.Decls,iR eRule_0 a0.Rules,SS a0.Tail]),(2,.obj [.nils,.nils,.nils,SS S0,SS S0]),(6,.obj (eyuccaref9_maker_r.cells x69)),(16,I64 s64.2)]) hl (fun s68 o h=>?_) ?_
    ·clear hl
     refine W.sq'<|W.sq' ?_
     obtain ⟨x71,hx71,h⟩:=bnd h
     refine W.rx [(1,_),(2,_),(6,_),(16,_),(17,_),(228,_)] (Vm q<|Rv (O.fO q (.obj q) fd25_2 q)<|Rv (O.ldO (y:=iR eRule_0 a0.Rules) q (.ptr q) ct23 q q)<|Vm q<|Rv (O.ixI (.imm q) (.lit q) sl23 hx71)<|Rv (O.fI (.iptr q) fd65_1)<|Rv (O.ldI (x:=iR eAlt_0 x71.Alts) (.iptr q) ct63 q)<|Rv (O.lenI (.imm q) sl63)<|Rv (O.lss (.lit q) (.lit q))<|Fi (tn6 q q q q q q)) ?_
     refine Px.sq<|W.cnd q (fun hb72=>?_) (fun hb72=>?_)
     ·replace h:=cndT hb72 h
      refine W.sk<|Px.sq ?_
      refine W.sq'<|W.bk ?_
      obtain ⟨x73,hx73,h⟩:=bnd h
      obtain ⟨x74,hx74,h⟩:=bnd h
      obtain ⟨x75,hx75,h⟩:=bnd h
      obtain ⟨x76,hx76,h⟩:=bnd h
      refine W.rd [[],[],[1],[],[1,2,3],[1,2,3,4],rn 1 5 [],[],[7],[],[7,8,9],[7,8,9,10],rn 7 5 [],[],rn 7 7 [],rn 7 8 [],rn 0 16 []] [(1,_),(2,_),(6,_),(16,_),(17,_)] mixo (by kernel_rfl) (Dv 0 (O.mv (.obj q))<|Dv 1 (O.fO q (.obj q) fd25_2 q)<|Dv 2 (O.ldO (y:=iR eRule_0 a0.Rules) q (.ptr q) ct23 q q)<|Dv 3 (O.mv (.lit q))<|Dv 4 (O.ixI (.imm q) (.lit q) sl23 hx73)<|Dv 5 (O.fI (.iptr q) fd65_0)<|Dv 6 (O.ldI (x:=SS x73.Left) (.iptr q) ct9 q)<|Dv 7 (O.fO q (.obj q) fd25_2 q)<|Dv 8 (O.ldO (y:=iR eRule_0 a0.Rules) q (.ptr q) ct23 q q)<|Dv 9 (O.mv (.lit q))<|Dv 10 (O.ixI (.imm q) (.lit q) sl23 hx74)<|Dv 11 (O.fI (.iptr q) fd65_1)<|Dv 12 (O.ldI (x:=iR eAlt_0 x74.Alts) (.iptr q) ct63 q)<|Dv 13 (O.mv (.lit q))<|Dv 14 (O.ixI (.imm q) (.lit q) sl63 hx75)<|Dv 15 (O.ldIN (cs':=[iR ePart x75.Parts,SS x75.Prec.Name,BB x75.Prec.Lit,I64 x75.Prec.Num,I64 x75.Prec.At,I64 x75.At]) (.iptr q) at62 q q)<|DL.bp 16 (G2:=[(247,.tup []),(6,.obj [oR eTok x76.f_g.Toks,oR eNon x76.f_g.Nons,oR eProd_0 x76.f_g.Prods,SS x76.f_g.Pro,SS x76.f_g.Tail,oR eB x76.f_given,oR eNon x76.f_types,oR eS x76.f_lefts,I64 x76.f_e,I64 x76.f_at,SS x76.f_name,I64 x76.f_level,I64 x76.f_inner]),(1,.obj [SS a0.Pro,iR eDecl_0 a0.Decls,iR eRule_0 a0.Rules,SS a0.Tail]),(2,.obj [.nils,.nils,.nils,SS S0,SS S0]),(16,I64 s64.2),(17,I64 s68.2)]) (EO.call q q (CallOk.ln (G2:=[(1,.obj [SS a0.Pro,iR eDecl_0 a0.Decls,iR eRule_0 a0.Rules,SS a0.Tail]),(2,.obj [.nils,.nils,.nils,SS S0,SS S0]),(16,I64 s64.2),(17,I64 s68.2)]) (A:=[]) (ys:=[.ptr ⟨6,[]⟩ 0,SS x73.Left,.agg (eAlt_0.cells x75)]) (args:=[.obj (eyuccaref9_maker_r.cells s68.1),SS x73.Left,.agg (eAlt_0.cells x75)]) (cs':=[oR eTok x76.f_g.Toks,oR eNon x76.f_g.Nons,oR eProd_0 x76.f_g.Prods,SS x76.f_g.Pro,SS x76.f_g.Tail,oR eB x76.f_given,oR eNon x76.f_types,oR eS x76.f_lefts,I64 x76.f_e,I64 x76.f_at,SS x76.f_name,I64 x76.f_level,I64 x76.f_inner]) (k0:=0) q q q q (.b q (.n q (.n q .nil))) q (con93 s68.1 x73.Left x75 _ hx76) call93 (tn4 q q q q) q q (tn4 q q q q) .nil q)) q q q q (by kernel_rfl) (by kernel_rfl)<|DL.fin q q q (tn5 q q q q q)) ?_
      refine Px.bk ?_
      refine Px.sq<|W.rx [(1,_),(2,_),(6,_),(16,_),(17,_)] (Vm q<|Rv (O.add (.lit q) (.k q))<|RunL.re (G1:=[(1,_),(2,_),(6,_),(16,_),(230,_)]) (tn5 q q q q q)<|Va q<|Fi (tn5 q q q q q)) ?_
      obtain rfl:=sm h
      exact Px.go (tn5 q q q q q)
     ·replace h:=cndF hb72 h
      refine W.xi ?_
      refine Px.sqE ?_
      obtain rfl:=sm h
      exact Px.x1 (tn4 q q q q)
    refine Px.bkH ?_
    refine Px.bk ?_
    refine Px.sq<|W.rx [(1,_),(2,_),(6,_),(16,_)] (Vm q<|Rv (O.add (.lit q) (.k q))<|RunL.re (G1:=[(1,_),(2,_),(6,_),(219,_)]) (tn4 q q q q)<|Va q<|Fi (tn4 q q q q)) ?_
    obtain rfl:=sm h
    exact Px.go (tn4 q q q q)
   ·replace h:=cndF hb67 h
    refine W.xi ?_
    refine Px.sqE ?_
    obtain rfl:=sm h
    exact Px.x1 (tn3 q q q)
  refine Px.bkH ?_
  refine Px.sq<|W.sq' ?_
  refine W.sq'<|W.rx [(1,_),(2,_),(6,_),(252,_)] (Rv (O.mv (.obj q))<|Rv (O.nlP (.ptr q))<|Rv (O.fO q (.ptr q) fd143_4 q)<|Rv (O.ldO (y:=I64 x65.f_e) q (.ptr q) ct3 q q)<|Rv (O.neq (.lit q) (.k q))<|Fi (tn4 q q q q)) ?_
  refine Px.sq<|W.cnd q (fun hb77=>?_) (fun hb77=>?_)
  ·replace h:=cndT hb77 h
   refine W.sq'<|W.rd [[],[],[1],[1,2],[1,2,3],[],[5],[5,6],[5,6,7],[],[9],[9,10],[9,10,11],[0],rn 0 5 [13],rn 0 9 [13,14],rn 0 16 []] [(2,_),(3,_),(4,_),(5,_)] mixo (by kernel_rfl) (Dv 0 (O.bu (cs:=[.nils,.nils,.nils,SS S0,SS S0]) sc38 ze38 q q q)<|Dv 1 (O.mv (.obj q))<|Dv 2 (O.nlP (.ptr q))<|Dv 3 (O.fO q (.ptr q) fd143_4 q)<|Dv 4 (O.ldO (y:=I64 x65.f_e) q (.ptr q) ct3 q q)<|Dv 5 (O.mv (.obj q))<|Dv 6 (O.nlP (.ptr q))<|Dv 7 (O.fO q (.ptr q) fd143_5 q)<|Dv 8 (O.ldO (y:=I64 x65.f_at) q (.ptr q) ct3 q q)<|Dv 9 (O.mv (.obj q))<|Dv 10 (O.nlP (.ptr q))<|Dv 11 (O.fO q (.ptr q) fd143_6 q)<|Dv 12 (O.ldO (y:=SS x65.f_name) q (.ptr q) ct9 q q)<|DL.bu 13 (G2:=[(2,.obj [.nils,.nils,.nils,SS S0,SS S0]),(6,.obj (eyuccaref9_maker_r.cells x65))]) (U:=[(12,265,some (SS x65.f_name)),(11,264,some (.ptr ⟨6,[]⟩ 10)),(10,263,some (.ptr ⟨6,[]⟩ 0)),(9,262,some (.ptr ⟨6,[]⟩ 0)),(8,261,some (I64 x65.f_at)),(7,260,some (.ptr ⟨6,[]⟩ 9)),(6,259,some (.ptr ⟨6,[]⟩ 0)),(5,258,some (.ptr ⟨6,[]⟩ 0)),(4,257,some (I64 x65.f_e)),(3,256,some (.ptr ⟨6,[]⟩ 8)),(2,255,some (.ptr ⟨6,[]⟩ 0)),(1,254,some (.ptr ⟨6,[]⟩ 0))]) (EffOk.v (EO.eff (EO.sO (G2:=[(2,.obj [.nils,.nils,.nils,SS S0,SS S0]),(6,.obj (eyuccaref9_maker_r.cells x65))]) (cs2:=[.nils,.nils,.nils,SS S0,SS S0]) q q q (.obj q) (.aggF q q) q sz38 q q q q (.b q (.n q q .nil))))) q q (by kernel_rfl) q q q (.c (.inr (.inl ⟨_,q⟩)) q q q q q (Gd.wanted .none) (O.ldO (y:=SS x65.f_name) q (.ptr q) ct9 q q) (.c (.inr (.inr (.inr ⟨6,_,_,q,q,of_blt q,by simp⟩))) q q q q q (Gd.wanted .none) (O.fO q (.ptr q) fd143_6 q) (.c (.inr (.inr (.inr ⟨6,_,_,q,q,of_blt q,by simp⟩))) q q q q q (Gd.wanted .none) (O.nlP (.ptr q)) (.c (.inr (.inr (.inr ⟨6,_,_,q,q,of_blt q,by simp⟩))) q q q q q (Gd.wanted .none) (O.mv (.obj q)) (.c (.inr (.inl ⟨_,q⟩)) q q q q q (Gd.wanted .none) (O.ldO (y:=I64 x65.f_at) q (.ptr q) ct3 q q) (.c (.inr (.inr (.inr ⟨6,_,_,q,q,of_blt q,by simp⟩))) q q q q q (Gd.wanted .none) (O.fO q (.ptr q) fd143_5 q) (.c (.inr (.inr (.inr ⟨6,_,_,q,q,of_blt q,by simp⟩))) q q q q q (Gd.wanted .none) (O.nlP (.ptr q)) (.c (.inr (.inr (.inr ⟨6,_,_,q,q,of_blt q,by simp⟩))) q q q q q (Gd.wanted .none) (O.mv (.obj q)) (.c (.inr (.inl ⟨_,q⟩)) q q q q q (Gd.wanted .none) (O.ldO (y:=I64 x65.f_e) q (.ptr q) ct3 q q) (.c (.inr (.inr (.inr ⟨6,_,_,q,q,of_blt q,by simp⟩))) q q q q q (Gd.wanted .none) (O.fO q (.ptr q) fd143_4 q) (.c (.inr (.inr (.inr ⟨6,_,_,q,q,of_blt q,by simp⟩))) q q q q q (Gd.wanted .none) (O.nlP (.ptr q)) (.c (.inr (.inr (.inr ⟨6,_,_,q,q,of_blt q,by simp⟩))) q q q q q (Gd.wanted .none) (O.mv (.obj q)) .nil)))))))))))) (by kernel_rfl)<|Dv 14 (O.az (.lit q))<|Dv 15 (O.az (.lit q))<|Dv 16 (O.az (.lit q))<|DL.fin q q q (tn4 q q q q)) ?_
   refine Px.sq<|W.fz (G1:=[(2,.obj [iR eTok ([]:List Tok),iR eNon ([]:List Non),iR eProd_0 ([]:List Prod),SS S0,SS S0]),(3,_),(4,_),(5,_)]) [2] (.z q q (FzL.obj (.z (.z (.z (.f (.f .nil)))))) (.n q q (.n q q (.n q q .nil)))) ?_
   refine W.rt ?_
   refine Px.sqR ?_
   obtain rfl:=sm h
   exact Px.fin (Fin.ro (.c (ys0:=[iR eTok ([]:List Tok),iR eNon ([]:List Non),iR eProd_0 ([]:List Prod),SS S0,SS S0]) q at38 q q q (.f q (.f q (.f q (.f q (.f q .nil))))) (.f q q (.f q q (.f q q .nil)))) q (ode (by kernel_rfl)) (.no .nil) q (.inr q))
  ·replace h:=cndF hb77 h
   refine W.sk<|Px.sq ?_
   refine W.sq'<|W.rx [(1,_),(2,_),(6,_)] (Rv (O.mv (.obj q))<|Rv (O.bu (cs:=[SS ({ data:=#[36,97,99,99,101,112,116] }),SS S0]) sc134 ze134 q q q)<|Rv (O.bs (ys:=[.agg [SS ({ data:=#[36,97,99,99,101,112,116] }),SS S0]]) eNon [(⟨{ data:=#[36,97,99,99,101,112,116] },S0⟩:Non)] sl35 q q q q q q zt134 q q)<|Rv (O.nlP (.ptr q))<|Rv (O.fO q (.ptr q) fd143_0 q)<|Rv (O.fO q (.ptr q) fd38_1 q)<|RunL.ef (G2:=[(1,.obj [SS a0.Pro,iR eDecl_0 a0.Decls,iR eRule_0 a0.Rules,SS a0.Tail]),(2,.obj [.nils,.nils,.nils,SS S0,SS S0]),(6,.obj [oR eTok x65.f_g.Toks,oR eNon [(⟨{ data:=#[36,97,99,99,101,112,116] },S0⟩:Non)],oR eProd_0 x65.f_g.Prods,SS x65.f_g.Pro,SS x65.f_g.Tail,oR eB x65.f_given,oR eNon x65.f_types,oR eS x65.f_lefts,I64 x65.f_e,I64 x65.f_at,SS x65.f_name,I64 x65.f_level,I64 x65.f_inner])]) q (EO.stB (y':=oR eNon [(⟨{ data:=#[36,97,99,99,101,112,116] },S0⟩:Non)]) (cs2:=[oR eTok x65.f_g.Toks,oR eNon [(⟨{ data:=#[36,97,99,99,101,112,116] },S0⟩:Non)],oR eProd_0 x65.f_g.Prods,SS x65.f_g.Pro,SS x65.f_g.Tail,oR eB x65.f_given,oR eNon x65.f_types,oR eS x65.f_lefts,I64 x65.f_e,I64 x65.f_at,SS x65.f_name,I64 x65.f_level,I64 x65.f_inner]) q q (.ptr q) (.own q) (.r q .nil) .refl q sz35 q q q q q (.n q q (.n q q (.b q .nil))))<|Fi (tn3 q q q)) ?_
   refine Px.sq<|W.sq' ?_
   refine W.sq'<|W.rx [(1,_),(2,_),(6,_),(18,_)] (Vk q<|Fi (tn4 q q q q)) ?_
   refine Px.sq<|W.bk ?_
   obtain ⟨x79,hl,h⟩:=bnd h
   refine W.tr (G1:=[(1,_),(2,_),(6,_),(18,_)]) (tn4 q q q q) ?_
   refine W.lp1 (s:=([(⟨{ data:=#[36,97,99,99,101,112,116] },S0⟩:Non)],0)) (fun (s78:List Non × Int)=>[(1,.obj [SS a0.Pro,iR eDecl_0 a0.Decls,iR eRule_0 a0.Rules,SS a0.Tail]),(2,.obj [.nils,.nils,.nils,SS S0,SS S0]),(6,.obj [oR eTok x65.f_g.Toks,oR eNon s78.1,oR eProd_0 x65.f_g.Prods,SS x65.f_g.Pro,SS x65.f_g.Tail,oR eB x65.f_given,oR eNon x65.f_types,oR eS x65.f_lefts,I64 x65.f_e,I64 x65.f_at,SS x65.f_name,I64 x65.f_level,I64 x65.f_inner]),(18,I64 s78.2)]) 14 (fun (x79:List Non)=>[(1,.obj [SS a0.Pro,iR eDecl_0 a0.Decls,iR eRule_0 a0.Rules,SS a0.Tail]),(2,.obj [.nils,.nils,.nils,SS S0,SS S0]),(6,.obj [oR eTok x65.f_g.Toks,oR eNon x79,oR eProd_0 x65.f_g.Prods,SS x65.f_g.Pro,SS x65.f_g.Tail,oR eB x65.f_given,oR eNon x65.f_types,oR eS x65.f_lefts,I64 x65.f_e,I64 x65.f_at,SS x65.f_name,I64 x65.f_level,I64 x65.f_inner])]) hl (fun s78 o h=>?_) ?_
   ·clear hl
    refine W.sq'<|W.sq' ?_
    refine W.rx [(1,_),(2,_),(6,_),(18,_),(278,_)] (Vm q<|Rv (O.mv (.obj q))<|Rv (O.nlP (.ptr q))<|Rv (O.fO q (.ptr q) fd143_3 q)<|Rv (O.ldO (y:=.brw eS.z ⟨6,[7]⟩ x65.f_lefts.length) q (.ptr q) ct141 q q)<|Rv (O.lenO (.brw q) sl141)<|Rv (O.lss (.lit q) (.lit q))<|Fi (tn5 q q q q q)) ?_
    refine Px.sq<|W.cnd q (fun hb81=>?_) (fun hb81=>?_)
    ·replace h:=cndT hb81 h
     refine W.sk<|Px.sq ?_
     refine W.sq'<|W.bk ?_
     refine W.sq' ?_
     obtain ⟨x82,hx82,h⟩:=bnd h
     refine W.rx [(1,_),(2,_),(6,_),(18,_),(19,_)] (Rv (O.mv (.obj q))<|Rv (O.nlP (.ptr q))<|Rv (O.fO q (.ptr q) fd143_3 q)<|Rv (O.ldO (y:=.brw eS.z ⟨6,[7]⟩ x65.f_lefts.length) q (.ptr q) ct141 q q)<|Vm q<|Rv (O.ixO (en:=eS) q (.brw q) (.lit q) sl141 hx82 q)<|Rv (O.ldE (en:=eS) (x':=SS x82) q (.ptr q) ct9 hx82 q q)<|Rv (O.bu (cs:=[SS x82,SS S0]) sc134 ze134 q q q)<|Rv (O.al (cs:=[SS S0,SS S0]) ze134 q q)<|RunL.sO (G2:=[(1,.obj [SS a0.Pro,iR eDecl_0 a0.Decls,iR eRule_0 a0.Rules,SS a0.Tail]),(2,.obj [.nils,.nils,.nils,SS S0,SS S0]),(6,.obj [oR eTok x65.f_g.Toks,oR eNon s78.1,oR eProd_0 x65.f_g.Prods,SS x65.f_g.Pro,SS x65.f_g.Tail,oR eB x65.f_given,oR eNon x65.f_types,oR eS x65.f_lefts,I64 x65.f_e,I64 x65.f_at,SS x65.f_name,I64 x65.f_level,I64 x65.f_inner]),(18,I64 s78.2),(19,.obj [SS x82,SS S0])]) (cs2:=[SS x82,SS S0]) q (.obj q) (.aggF q q) q sz134 q q q q (.n q q (.n q q (.n q q (.n q q (.b q .nil)))))<|Fi (tn5 q q q q q)) ?_
     refine Px.sq<|W.sq' ?_
     refine W.sq' ?_
     obtain ⟨x83,hx83,h⟩:=bnd h
     refine W.rx [(1,_),(2,_),(6,_),(18,_),(19,_),(20,_)] (Rv (O.mv (.obj q))<|Rv (O.fO q (.obj q) fd134_0 q)<|Rv (O.ldO (y:=SS x82) q (.ptr q) ct9 q q)<|Rc (PC.vw (ys:=[.ptr ⟨6,[]⟩ 0,SS x82]) q (.c (View.p0 q q) (.s .nil)) (con94 (⟨(⟨x65.f_g.Toks,s78.1,x65.f_g.Prods,x65.f_g.Pro,x65.f_g.Tail⟩:Grammar),x65.f_given,x65.f_types,x65.f_lefts,x65.f_e,x65.f_at,x65.f_name,x65.f_level,x65.f_inner⟩:yuccaref9_maker) x82 _ hx83) call94 q)<|Va q<|Fi (tn6 q q q q q q)) ?_
     refine Px.sq<|W.sq' ?_
     refine W.rx [(1,_),(2,_),(6,_),(18,_),(19,_),(20,_),(294,_)] (Vm q<|Rv (O.geq (.lit q) (.k q))<|Fi (tn7 q q q q q q q)) ?_
     refine Px.sq ?_
     obtain ⟨j84,hj,h⟩:=bnd h
     refine W.jn [(1,.obj [SS a0.Pro,iR eDecl_0 a0.Decls,iR eRule_0 a0.Rules,SS a0.Tail]),(2,.obj [.nils,.nils,.nils,SS S0,SS S0]),(6,.obj [oR eTok x65.f_g.Toks,oR eNon s78.1,oR eProd_0 x65.f_g.Prods,SS x65.f_g.Pro,SS x65.f_g.Tail,oR eB x65.f_given,oR eNon x65.f_types,oR eS x65.f_lefts,I64 x65.f_e,I64 x65.f_at,SS x65.f_name,I64 x65.f_level,I64 x65.f_inner]),(18,I64 s78.2),(19,.obj [SS x82,SS j84])] ?_ ?_
     ·clear h; have h:=hj; clear hj
      refine W.cnd q (fun hb85=>?_) (fun hb85=>?_)
      ·replace h:=cndT hb85 h
       obtain ⟨x86,hx86,h⟩:=bnd h
       refine W.rx [(1,_),(2,_),(6,_),(18,_),(19,_)] (Rv (O.mv (.obj q))<|Rv (O.nlP (.ptr q))<|Rv (O.fO q (.ptr q) fd143_2 q)<|Rv (O.ldO (y:=.brw eNon.z ⟨6,[6]⟩ x65.f_types.length) q (.ptr q) ct35 q q)<|Vm q<|Rv (O.ixO (en:=eNon) q (.brw q) (.lit q) sl35 hx86 q)<|Rv (O.fE (en:=eNon) q (.ptr q) fd134_1 hx86 q q)<|Rv (O.ldE (en:=eNon) (x':=SS x86.Tag) q (.ptr q) ct9 hx86 q q)<|Rv (O.fO q (.obj q) fd134_1 q)<|RunL.sO (G2:=[(1,.obj [SS a0.Pro,iR eDecl_0 a0.Decls,iR eRule_0 a0.Rules,SS a0.Tail]),(2,.obj [.nils,.nils,.nils,SS S0,SS S0]),(6,.obj [oR eTok x65.f_g.Toks,oR eNon s78.1,oR eProd_0 x65.f_g.Prods,SS x65.f_g.Pro,SS x65.f_g.Tail,oR eB x65.f_given,oR eNon x65.f_types,oR eS x65.f_lefts,I64 x65.f_e,I64 x65.f_at,SS x65.f_name,I64 x65.f_level,I64 x65.f_inner]),(18,I64 s78.2),(19,.obj [SS x82,SS x86.Tag])]) (cs2:=[SS x82,SS x86.Tag]) q (.ptr q) (.lit q) q sz9 q q q q (.n q q (.n q q (.n q q (.n q q (.b q .nil)))))<|Fi (tn5 q q q q q)) ?_
       obtain rfl:=sm h
       exact Px.jn (tn5 q q q q q)
      ·replace h:=cndF hb85 h
       refine W.sk ?_
       obtain rfl:=sm h
       exact Px.jn (tn5 q q q q q)
     refine Px.sq ?_
     obtain ⟨x87,hx87,h⟩:=bnd h
     refine W.rd [[],[],[1],[1,2],[1,2,3],[1,2,3,4],[],[6],rn 1 7 [],rn 0 9 [],rn 0 10 [],rn 0 11 [],rn 0 12 []] [(1,_),(2,_),(6,_),(18,_)] mixo (by kernel_rfl) (Dv 0 (O.mv (.obj q))<|Dv 1 (O.mv (.obj q))<|Dv 2 (O.nlP (.ptr q))<|Dv 3 (O.fO q (.ptr q) fd143_0 q)<|Dv 4 (O.fO q (.ptr q) fd38_1 q)<|Dv 5 (O.ldO (y:=.brw eNon.z ⟨6,[1]⟩ s78.1.length) q (.ptr q) ct35 q q)<|Dv 6 (O.ldON (cs':=[SS x82,SS j84]) q (.obj q) at134 q q)<|DL.vi 7 (x:=iR eNon [(⟨x82,j84⟩:Non)]) (O.bs (ys:=[.agg [SS x82,SS j84]]) eNon [(⟨x82,j84⟩:Non)] sl35 q q q q q q zt134 q q) q q q q .none<|Dv 8 (O.ap (en:=eNon) (r:=x87) (.brw q) q (.imm q) .i ap35 q hx87)<|Dv 9 (O.nlP (.ptr q))<|Dv 10 (O.fO q (.ptr q) fd143_0 q)<|Dv 11 (O.fO q (.ptr q) fd38_1 q)<|DL.bp 12 (G2:=[(1,.obj [SS a0.Pro,iR eDecl_0 a0.Decls,iR eRule_0 a0.Rules,SS a0.Tail]),(2,.obj [.nils,.nils,.nils,SS S0,SS S0]),(6,.obj [oR eTok x65.f_g.Toks,oR eNon (s78.1++[(⟨x82,j84⟩:Non)]),oR eProd_0 x65.f_g.Prods,SS x65.f_g.Pro,SS x65.f_g.Tail,oR eB x65.f_given,oR eNon x65.f_types,oR eS x65.f_lefts,I64 x65.f_e,I64 x65.f_at,SS x65.f_name,I64 x65.f_level,I64 x65.f_inner]),(18,I64 s78.2)]) (EO.stP (g1:=_) (en:=eNon) (M:=[(⟨x82,j84⟩:Non)]) (cs2:=[oR eTok x65.f_g.Toks,oR eNon (s78.1++[(⟨x82,j84⟩:Non)]),oR eProd_0 x65.f_g.Prods,SS x65.f_g.Pro,SS x65.f_g.Tail,oR eB x65.f_given,oR eNon x65.f_types,oR eS x65.f_lefts,I64 x65.f_e,I64 x65.f_at,SS x65.f_name,I64 x65.f_level,I64 x65.f_inner]) q q (.ptr q) (.pend q) q q q .ns .rf q q sz35 q q q q (.n q q (.n q q (.b q (.n q q .nil))))) q q q q (by kernel_rfl) (by kernel_rfl)<|DL.fin q q q (tn4 q q q q)) ?_
     refine Px.bk ?_
     refine Px.sq<|W.rx [(1,_),(2,_),(6,_),(18,_)] (Vm q<|Rv (O.add (.lit q) (.k q))<|RunL.re (G1:=[(1,_),(2,_),(6,_),(280,_)]) (tn4 q q q q)<|Va q<|Fi (tn4 q q q q)) ?_
     obtain rfl:=sm h
     exact Px.go (tn4 q q q q)
    ·replace h:=cndF hb81 h
     refine W.xi ?_
     refine Px.sqE ?_
     obtain rfl:=sm h
     exact Px.x1 (tn3 q q q)
   refine Px.bkH ?_
   refine Px.sq<|W.sq' ?_
   refine W.sq'<|W.rx [(1,_),(2,_),(6,_),(21,_)] (Vk q<|Fi (tn4 q q q q)) ?_
   refine Px.sq<|W.bk ?_
   obtain ⟨x89,hl,h⟩:=bnd h
   refine W.tr (G1:=[(1,_),(2,_),(6,_),(21,_)]) (tn4 q q q q) ?_
   refine W.lp1 (s:=(x79,1)) (fun (s88:List Non × Int)=>[(1,.obj [SS a0.Pro,iR eDecl_0 a0.Decls,iR eRule_0 a0.Rules,SS a0.Tail]),(2,.obj [.nils,.nils,.nils,SS S0,SS S0]),(6,.obj [oR eTok x65.f_g.Toks,oR eNon s88.1,oR eProd_0 x65.f_g.Prods,SS x65.f_g.Pro,SS x65.f_g.Tail,oR eB x65.f_given,oR eNon x65.f_types,oR eS x65.f_lefts,I64 x65.f_e,I64 x65.f_at,SS x65.f_name,I64 x65.f_level,I64 x65.f_inner]),(21,I64 s88.2)]) 16 (fun (x89:List Non)=>[(1,.obj [SS a0.Pro,iR eDecl_0 a0.Decls,iR eRule_0 a0.Rules,SS a0.Tail]),(2,.obj [.nils,.nils,.nils,SS S0,SS S0]),(6,.obj [oR eTok x65.f_g.Toks,oR eNon x89,oR eProd_0 x65.f_g.Prods,SS x65.f_g.Pro,SS x65.f_g.Tail,oR eB x65.f_given,oR eNon x65.f_types,oR eS x65.f_lefts,I64 x65.f_e,I64 x65.f_at,SS x65.f_name,I64 x65.f_level,I64 x65.f_inner])]) hl (fun s88 o h=>?_) ?_
   ·clear hl
    refine W.sq'<|W.sq' ?_
    refine W.rx [(1,_),(2,_),(6,_),(21,_),(321,_)] (Vm q<|Rv (O.mv (.obj q))<|Rv (O.nlP (.ptr q))<|Rv (O.fO q (.ptr q) fd143_8 q)<|Rv (O.ldO (y:=I64 x65.f_inner) q (.ptr q) ct3 q q)<|Rv (O.leq (.lit q) (.lit q))<|Fi (tn5 q q q q q)) ?_
    refine Px.sq<|W.cnd q (fun hb91=>?_) (fun hb91=>?_)
    ·replace h:=cndT hb91 h
     refine W.sk<|Px.sq ?_
     refine W.sq'<|W.bk ?_
     obtain ⟨x92,hx92,h⟩:=bnd h
     obtain ⟨x93,hx93,h⟩:=bnd h
     obtain ⟨x94,hx94,h⟩:=bnd h
     refine W.rd [[],[],[1],[1,2],[1,2,3],[1,2,3,4],[],[6],[6,7],[6,7,8],[6,7,8,9],rn 1 10 [],rn 0 12 [],rn 0 13 [],rn 0 14 [],rn 0 15 []] [(1,_),(2,_),(6,_),(21,_)] mixo (by kernel_rfl) (Dv 0 (O.mv (.obj q))<|Dv 1 (O.mv (.obj q))<|Dv 2 (O.nlP (.ptr q))<|Dv 3 (O.fO q (.ptr q) fd143_0 q)<|Dv 4 (O.fO q (.ptr q) fd38_1 q)<|Dv 5 (O.ldO (y:=.brw eNon.z ⟨6,[1]⟩ s88.1.length) q (.ptr q) ct35 q q)<|Dv 6 (O.mv (.lit q))<|Dc 7 (PC.go (.cc (.lit q) .nil) (con28 s88.2 _ hx92) call28 q)<|Dv 8 (O.cat (.k q) (.lit q) hx93)<|Dv 9 (O.bu (cs:=[SS x93,SS S0]) sc134 ze134 q q q)<|DL.vi 10 (x:=iR eNon [(⟨x93,S0⟩:Non)]) (O.bs (ys:=[.agg [SS x93,SS S0]]) eNon [(⟨x93,S0⟩:Non)] sl35 q q q q q q zt134 q q) q q q q .none<|Dv 11 (O.ap (en:=eNon) (r:=x94) (.brw q) q (.imm q) .i ap35 q hx94)<|Dv 12 (O.nlP (.ptr q))<|Dv 13 (O.fO q (.ptr q) fd143_0 q)<|Dv 14 (O.fO q (.ptr q) fd38_1 q)<|DL.bp 15 (G2:=[(1,.obj [SS a0.Pro,iR eDecl_0 a0.Decls,iR eRule_0 a0.Rules,SS a0.Tail]),(2,.obj [.nils,.nils,.nils,SS S0,SS S0]),(6,.obj [oR eTok x65.f_g.Toks,oR eNon (s88.1++[(⟨x93,S0⟩:Non)]),oR eProd_0 x65.f_g.Prods,SS x65.f_g.Pro,SS x65.f_g.Tail,oR eB x65.f_given,oR eNon x65.f_types,oR eS x65.f_lefts,I64 x65.f_e,I64 x65.f_at,SS x65.f_name,I64 x65.f_level,I64 x65.f_inner]),(21,I64 s88.2)]) (EO.stP (g1:=_) (en:=eNon) (M:=[(⟨x93,S0⟩:Non)]) (cs2:=[oR eTok x65.f_g.Toks,oR eNon (s88.1++[(⟨x93,S0⟩:Non)]),oR eProd_0 x65.f_g.Prods,SS x65.f_g.Pro,SS x65.f_g.Tail,oR eB x65.f_given,oR eNon x65.f_types,oR eS x65.f_lefts,I64 x65.f_e,I64 x65.f_at,SS x65.f_name,I64 x65.f_level,I64 x65.f_inner]) q q (.ptr q) (.pend q) q q q .ns .rf q q sz35 q q q q (.n q q (.n q q (.b q (.n q q .nil))))) q q q q (by kernel_rfl) (by kernel_rfl)<|DL.fin q q q (tn4 q q q q)) ?_
     refine Px.bk ?_
     refine Px.sq<|W.rx [(1,_),(2,_),(6,_),(21,_)] (Vm q<|Rv (O.add (.lit q) (.k q))<|RunL.re (G1:=[(1,_),(2,_),(6,_),(323,_)]) (tn4 q q q q)<|Va q<|Fi (tn4 q q q q)) ?_
     obtain rfl:=sm h
     exact Px.go (tn4 q q q q)
    ·replace h:=cndF hb91 h
     refine W.xi ?_
     refine Px.sqE ?_
     obtain rfl:=sm h
     exact Px.x1 (tn3 q q q)
   refine Px.bkH ?_
   refine Px.sq<|W.sq' ?_
   refine W.rx [(1,_),(2,_),(6,_),(22,_)] (Vk q<|Fi (tn4 q q q q)) ?_
   refine Px.sq<|W.sq' ?_
   refine W.sq'<|W.rx [(1,_),(2,_),(6,_),(22,_),(23,_)] (Vk q<|Fi (tn5 q q q q q)) ?_
   refine Px.sq<|W.bk ?_
   obtain ⟨x96,hl,h⟩:=bnd h
   refine W.tr (G1:=[(1,_),(2,_),(6,_),(22,_),(23,_)]) (tn5 q q q q q) ?_
   refine W.lp1 (s:=(x65.f_g.Toks,57346,3)) (fun (s95:List Tok × Int × Int)=>[(1,.obj [SS a0.Pro,iR eDecl_0 a0.Decls,iR eRule_0 a0.Rules,SS a0.Tail]),(2,.obj [.nils,.nils,.nils,SS S0,SS S0]),(6,.obj [oR eTok s95.1,oR eNon x89,oR eProd_0 x65.f_g.Prods,SS x65.f_g.Pro,SS x65.f_g.Tail,oR eB x65.f_given,oR eNon x65.f_types,oR eS x65.f_lefts,I64 x65.f_e,I64 x65.f_at,SS x65.f_name,I64 x65.f_level,I64 x65.f_inner]),(22,I64 s95.2.1),(23,I64 s95.2.2)]) 18 (fun (x96:List Tok)=>[(1,.obj [SS a0.Pro,iR eDecl_0 a0.Decls,iR eRule_0 a0.Rules,SS a0.Tail]),(2,.obj [.nils,.nils,.nils,SS S0,SS S0]),(6,.obj [oR eTok x96,oR eNon x89,oR eProd_0 x65.f_g.Prods,SS x65.f_g.Pro,SS x65.f_g.Tail,oR eB x65.f_given,oR eNon x65.f_types,oR eS x65.f_lefts,I64 x65.f_e,I64 x65.f_at,SS x65.f_name,I64 x65.f_level,I64 x65.f_inner])]) hl (fun s95 o h=>?_) ?_
   ·clear hl
    refine W.sq'<|W.sq' ?_
    refine W.rx [(1,_),(2,_),(6,_),(22,_),(23,_),(346,_)] (Vm q<|Rv (O.mv (.obj q))<|Rv (O.nlP (.ptr q))<|Rv (O.fO q (.ptr q) fd143_0 q)<|Rv (O.fO q (.ptr q) fd38_0 q)<|Rv (O.ldO (y:=.brw eTok.z ⟨6,[0]⟩ s95.1.length) q (.ptr q) ct34 q q)<|Rv (O.lenO (.brw q) sl34)<|Rv (O.lss (.lit q) (.lit q))<|Fi (tn6 q q q q q q)) ?_
    refine Px.sq<|W.cnd q (fun hb98=>?_) (fun hb98=>?_)
    ·replace h:=cndT hb98 h
     refine W.sk<|Px.sq ?_
     refine W.sq' ?_
     obtain ⟨j99,hj,h⟩:=bnd h
     refine W.jn [(1,.obj [SS a0.Pro,iR eDecl_0 a0.Decls,iR eRule_0 a0.Rules,SS a0.Tail]),(2,.obj [.nils,.nils,.nils,SS S0,SS S0]),(6,.obj [oR eTok j99.1,oR eNon x89,oR eProd_0 x65.f_g.Prods,SS x65.f_g.Pro,SS x65.f_g.Tail,oR eB x65.f_given,oR eNon x65.f_types,oR eS x65.f_lefts,I64 x65.f_e,I64 x65.f_at,SS x65.f_name,I64 x65.f_level,I64 x65.f_inner]),(22,I64 j99.2),(23,I64 s95.2.2)] ?_ ?_
     ·clear h; have h:=hj; clear hj
      refine W.bk<|W.sq' ?_
      obtain ⟨x100,hx100,h⟩:=bnd h
      refine W.rx [(1,_),(2,_),(6,_),(22,_),(23,_),(356,_)] (Rv (O.mv (.obj q))<|Rv (O.nlP (.ptr q))<|Rv (O.fO q (.ptr q) fd143_1 q)<|Rv (O.ldO (y:=.brw eB.z ⟨6,[5]⟩ x65.f_given.length) q (.ptr q) ct116 q q)<|Vm q<|Rv (O.ixO (en:=eB) q (.brw q) (.lit q) sl116 hx100 q)<|Rv (O.ldE (en:=eB) (x':=BB x100) q (.ptr q) ct4 hx100 q q)<|Rv (O.not (.lit q))<|Fi (tn6 q q q q q q)) ?_
      refine Px.sq ?_
      obtain ⟨j101,hj,h⟩:=bnd h
      refine W.jn [(1,.obj [SS a0.Pro,iR eDecl_0 a0.Decls,iR eRule_0 a0.Rules,SS a0.Tail]),(2,.obj [.nils,.nils,.nils,SS S0,SS S0]),(6,.obj [oR eTok j101.1,oR eNon x89,oR eProd_0 x65.f_g.Prods,SS x65.f_g.Pro,SS x65.f_g.Tail,oR eB x65.f_given,oR eNon x65.f_types,oR eS x65.f_lefts,I64 x65.f_e,I64 x65.f_at,SS x65.f_name,I64 x65.f_level,I64 x65.f_inner]),(22,I64 j101.2),(23,I64 s95.2.2)] ?_ ?_
      ·clear h; have h:=hj; clear hj
       refine W.cnd q (fun hb102=>?_) (fun hb102=>?_)
       ·replace h:=cndT hb102 h
        refine W.sq' ?_
        obtain ⟨x103,hx103,h⟩:=bnd h
        refine W.rx [(1,_),(2,_),(6,_),(22,_),(23,_)] (Rv (O.mv (.obj q))<|Rv (O.nlP (.ptr q))<|Rv (O.fO q (.ptr q) fd143_0 q)<|Rv (O.fO q (.ptr q) fd38_0 q)<|Rv (O.ldO (y:=.brw eTok.z ⟨6,[0]⟩ s95.1.length) q (.ptr q) ct34 q q)<|Vm q<|Vm q<|Rv (O.ixO (en:=eTok) q (.brw q) (.lit q) sl34 hx103 q)<|Rv (O.fE (en:=eTok) q (.ptr q) fd51_2 hx103 q q)<|RunL.ef (G2:=[(1,.obj [SS a0.Pro,iR eDecl_0 a0.Decls,iR eRule_0 a0.Rules,SS a0.Tail]),(2,.obj [.nils,.nils,.nils,SS S0,SS S0]),(6,.obj [oR eTok (s95.1.set s95.2.2.toNat (⟨x103.Name,x103.Lit,s95.2.1,x103.Level,x103.Assoc,x103.Tag⟩:Tok)),oR eNon x89,oR eProd_0 x65.f_g.Prods,SS x65.f_g.Pro,SS x65.f_g.Tail,oR eB x65.f_given,oR eNon x65.f_types,oR eS x65.f_lefts,I64 x65.f_e,I64 x65.f_at,SS x65.f_name,I64 x65.f_level,I64 x65.f_inner]),(22,I64 s95.2.1),(23,I64 s95.2.2)]) q (EO.stE (en:=eTok) (y2:=(⟨x103.Name,x103.Lit,s95.2.1,x103.Level,x103.Assoc,x103.Tag⟩:Tok)) (cs':=[I64 s95.2.1]) (x2:=.obj [oR eTok (s95.1.set s95.2.2.toNat (⟨x103.Name,x103.Lit,s95.2.1,x103.Level,x103.Assoc,x103.Tag⟩:Tok)),oR eNon x89,oR eProd_0 x65.f_g.Prods,SS x65.f_g.Pro,SS x65.f_g.Tail,oR eB x65.f_given,oR eNon x65.f_types,oR eS x65.f_lefts,I64 x65.f_e,I64 x65.f_at,SS x65.f_name,I64 x65.f_level,I64 x65.f_inner]) q q (.ptr q) (.lit q) q hx103 sz3 q q q q q q q (.n q q (.n q q (.b q (.n q q (.n q q .nil))))))<|Fi (tn5 q q q q q)) ?_
        refine Px.sq<|W.rx [(1,_),(2,_),(6,_),(22,_),(23,_)] (Vm q<|Rv (O.add (.lit q) (.k q))<|RunL.re (G1:=[(1,_),(2,_),(6,_),(23,_),(367,_)]) (tn5 q q q q q)<|Va q<|Fi (tn5 q q q q q)) ?_
        obtain rfl:=sm h
        exact Px.jn (tn5 q q q q q)
       ·replace h:=cndF hb102 h
        refine W.sk ?_
        obtain rfl:=sm h
        exact Px.jn (tn5 q q q q q)
      refine Px.bk ?_
      obtain rfl:=sm h
      exact Px.jn (tn5 q q q q q)
     refine Px.sq<|W.rx [(1,_),(2,_),(6,_),(22,_),(23,_)] (Vm q<|Rv (O.add (.lit q) (.k q))<|RunL.re (G1:=[(1,_),(2,_),(6,_),(22,_),(348,_)]) (tn5 q q q q q)<|Va q<|Fi (tn5 q q q q q)) ?_
     obtain rfl:=sm h
     exact Px.go (tn5 q q q q q)
    ·replace h:=cndF hb98 h
     refine W.xi ?_
     refine Px.sqE ?_
     obtain rfl:=sm h
     exact Px.x1 (tn3 q q q)
   refine Px.bkH ?_
   refine Px.sq<|W.sq' ?_
   obtain ⟨c106,hj,h⟩:=bnd h
   refine W.rx [(1,.obj [SS a0.Pro,iR eDecl_0 a0.Decls,iR eRule_0 a0.Rules,SS a0.Tail]),(2,.obj [.nils,.nils,.nils,SS S0,SS S0]),(6,.obj [oR eTok x96,oR eNon x89,oR eProd_0 x65.f_g.Prods,SS x65.f_g.Pro,SS x65.f_g.Tail,oR eB x65.f_given,oR eNon x65.f_types,oR eS x65.f_lefts,I64 x65.f_e,I64 x65.f_at,SS x65.f_name,I64 x65.f_level,I64 x65.f_inner]),(24,BB c106)] ?_ ?_
   ·refine Rv (O.mv (.obj q))<|Rv (O.nlP (.ptr q))<|Rv (O.fO q (.ptr q) fd143_0 q)<|Rv (O.fO q (.ptr q) fd38_0 q)<|Rv (O.ldO (y:=.brw eTok.z ⟨6,[0]⟩ x96.length) q (.ptr q) ct34 q q)<|Rv (O.lenO (.brw q) sl34)<|Rv (O.gtr (.lit q) (.k q))<|Rv (O.mv (.lit q)) ?_
    rcases cnd hj with ⟨hb104,hj⟩ | ⟨hb104,hj⟩
    ·obtain rfl:=sm hj
     exact RunL.ps q q hb104 q q<|RunL.ps q q hb104 q q<|RunL.ps q q hb104 q q<|RunL.ps q q hb104 q q<|RunL.ps q q hb104 q q<|RunL.ps q q hb104 q q<|RunL.ps q q hb104 q q<|Rv (O.pkT (.lit q) hb104 (.k q))<|Vm q<|RunL.ps q q q q q<|RunL.ps q q q q q<|RunL.ps q q q q q<|RunL.ps q q q q q<|RunL.ps q q q q q<|RunL.ps q q q q q<|RunL.ps q q q q q<|Rv (O.pkT (.lit q) q (.k q))<|Va q<|Fi (tn4 q q q q)
    ·refine RunL.v (O.mv (.obj q)) q q (.yb q q hb104)<|RunL.v (O.nlP (.ptr q)) q q (.yb q q hb104)<|RunL.v (O.fO q (.ptr q) fd143_0 q) q q (.yb q q hb104)<|RunL.v (O.fO q (.ptr q) fd38_1 q) q q (.yb q q hb104)<|RunL.v (O.ldO (y:=.brw eNon.z ⟨6,[1]⟩ x89.length) q (.ptr q) ct35 q q) q q (.yb q q hb104)<|RunL.v (O.lenO (.brw q) sl35) q q (.yb q q hb104)<|RunL.v (O.gtr (.lit q) (.k q)) q q (.yb q q hb104)<|Rv (O.pkF (.lit q) hb104 (.lit q))<|Rv (O.mv (.lit q)) ?_
     rcases cnd hj with ⟨hb105,hj⟩ | ⟨hb105,hj⟩
     ·obtain rfl:=sm hj
      exact RunL.ps q q hb105 q q<|RunL.ps q q hb105 q q<|RunL.ps q q hb105 q q<|RunL.ps q q hb105 q q<|RunL.ps q q hb105 q q<|RunL.ps q q hb105 q q<|RunL.ps q q hb105 q q<|Rv (O.pkT (.lit q) hb105 (.k q))<|Va q<|Fi (tn4 q q q q)
     ·obtain rfl:=sm hj
      exact RunL.v (O.mv (.obj q)) q q (.yb q q hb105)<|RunL.v (O.nlP (.ptr q)) q q (.yb q q hb105)<|RunL.v (O.fO q (.ptr q) fd143_0 q) q q (.yb q q hb105)<|RunL.v (O.fO q (.ptr q) fd38_2 q) q q (.yb q q hb105)<|RunL.v (O.ldO (y:=.brw eProd_0.z ⟨6,[2]⟩ x65.f_g.Prods.length) q (.ptr q) ct36 q q) q q (.yb q q hb105)<|RunL.v (O.lenO (.brw q) sl36) q q (.yb q q hb105)<|RunL.v (O.gtr (.lit q) (.k q)) q q (.yb q q hb105)<|Rv (O.pkF (.lit q) hb105 (.lit q))<|Va q<|Fi (tn4 q q q q)
   refine Px.sq<|W.sq' ?_
   refine W.sq'<|W.rx [(1,_),(2,_),(6,_),(24,_),(25,_)] (Vk q<|Fi (tn5 q q q q q)) ?_
   refine Px.sq<|W.bk ?_
   obtain ⟨x108,hl,h⟩:=bnd h
   refine W.tr (G1:=[(1,_),(2,_),(6,_),(24,_),(25,_)]) (tn5 q q q q q) ?_
   refine W.lp1 (s:=(c106,0)) (fun (s107:Bool × Int)=>[(1,.obj [SS a0.Pro,iR eDecl_0 a0.Decls,iR eRule_0 a0.Rules,SS a0.Tail]),(2,.obj [.nils,.nils,.nils,SS S0,SS S0]),(6,.obj [oR eTok x96,oR eNon x89,oR eProd_0 x65.f_g.Prods,SS x65.f_g.Pro,SS x65.f_g.Tail,oR eB x65.f_given,oR eNon x65.f_types,oR eS x65.f_lefts,I64 x65.f_e,I64 x65.f_at,SS x65.f_name,I64 x65.f_level,I64 x65.f_inner]),(24,BB s107.1),(25,I64 s107.2)]) 20 (fun (x108:Bool)=>[(1,.obj [SS a0.Pro,iR eDecl_0 a0.Decls,iR eRule_0 a0.Rules,SS a0.Tail]),(2,.obj [.nils,.nils,.nils,SS S0,SS S0]),(6,.obj [oR eTok x96,oR eNon x89,oR eProd_0 x65.f_g.Prods,SS x65.f_g.Pro,SS x65.f_g.Tail,oR eB x65.f_given,oR eNon x65.f_types,oR eS x65.f_lefts,I64 x65.f_e,I64 x65.f_at,SS x65.f_name,I64 x65.f_level,I64 x65.f_inner]),(24,BB x108)]) hl (fun s107 o h=>?_) ?_
   ·clear hl
    refine W.sq'<|W.sq' ?_
    refine W.rx [(1,_),(2,_),(6,_),(24,_),(25,_),(400,_)] (Vm q<|Rv (O.mv (.obj q))<|Rv (O.nlP (.ptr q))<|Rv (O.fO q (.ptr q) fd143_0 q)<|Rv (O.fO q (.ptr q) fd38_2 q)<|Rv (O.ldO (y:=.brw eProd_0.z ⟨6,[2]⟩ x65.f_g.Prods.length) q (.ptr q) ct36 q q)<|Rv (O.lenO (.brw q) sl36)<|Rv (O.lss (.lit q) (.lit q))<|Fi (tn6 q q q q q q)) ?_
    refine Px.sq<|W.cnd q (fun hb110=>?_) (fun hb110=>?_)
    ·replace h:=cndT hb110 h
     refine W.sk<|Px.sq ?_
     refine W.sq'<|W.bk ?_
     obtain ⟨c113,hj,h⟩:=bnd h
     refine W.rx [(1,.obj [SS a0.Pro,iR eDecl_0 a0.Decls,iR eRule_0 a0.Rules,SS a0.Tail]),(2,.obj [.nils,.nils,.nils,SS S0,SS S0]),(6,.obj [oR eTok x96,oR eNon x89,oR eProd_0 x65.f_g.Prods,SS x65.f_g.Pro,SS x65.f_g.Tail,oR eB x65.f_given,oR eNon x65.f_types,oR eS x65.f_lefts,I64 x65.f_e,I64 x65.f_at,SS x65.f_name,I64 x65.f_level,I64 x65.f_inner]),(24,BB c113),(25,I64 s107.2)] ?_ ?_
     ·refine Vm q<|Rv (O.mv (.lit q)) ?_
      rcases cnd hj with ⟨hb111,hj⟩ | ⟨hb111,hj⟩
      ·obtain rfl:=sm hj
       exact RunL.ps q q hb111 q q<|RunL.ps q q hb111 q q<|RunL.ps q q hb111 q q<|RunL.ps q q hb111 q q<|RunL.ps q q hb111 q q<|RunL.ps q q hb111 q q<|RunL.ps q q hb111 q q<|RunL.ps q q hb111 q q<|RunL.ps q q hb111 q q<|RunL.ps q q hb111 q q<|RunL.ps q q hb111 q q<|Rv (O.pkT (.lit q) hb111 (.k q))<|RunL.re (G1:=[(1,_),(2,_),(6,_),(25,_),(416,_)]) (tn5 q q q q q)<|Va q<|Fi (tn5 q q q q q)
      ·refine RunL.v (O.mv (.obj q)) q q (.yb q q hb111)<|RunL.v (O.nlP (.ptr q)) q q (.yb q q hb111)<|RunL.v (O.fO q (.ptr q) fd143_0 q) q q (.yb q q hb111)<|RunL.v (O.fO q (.ptr q) fd38_2 q) q q (.yb q q hb111)<|RunL.v (O.ldO (y:=.brw eProd_0.z ⟨6,[2]⟩ x65.f_g.Prods.length) q (.ptr q) ct36 q q) q q (.yb q q hb111)<|RunL.v (O.mv (.lit q)) q q (.yb q q hb111) ?_
       obtain ⟨x112,hx112,hj⟩:=bnd hj
       obtain rfl:=sm hj
       exact RunL.v (O.ixO (en:=eProd_0) q (.brw q) (.lit q) sl36 hx112 q) q q (.yb q q hb111)<|RunL.v (O.fE (en:=eProd_0) q (.ptr q) fd83_1 hx112 q q) q q (.yb q q hb111)<|RunL.v (O.ldE (en:=eProd_0) (x':=iR eI x112.Right) q (.ptr q) ct27 hx112 q q) q q (.yb q q hb111)<|RunL.v (O.lenI (.imm q) sl27) q q (.yb q q hb111)<|RunL.v (O.gtr (.lit q) (.k q)) q q (.yb q q hb111)<|Rv (O.pkF (.lit q) hb111 (.lit q))<|RunL.re (G1:=[(1,_),(2,_),(6,_),(25,_),(416,_)]) (tn5 q q q q q)<|Va q<|Fi (tn5 q q q q q)
     refine Px.bk ?_
     refine Px.sq<|W.rx [(1,_),(2,_),(6,_),(24,_),(25,_)] (Vm q<|Rv (O.add (.lit q) (.k q))<|RunL.re (G1:=[(1,_),(2,_),(6,_),(24,_),(402,_)]) (tn5 q q q q q)<|Va q<|Fi (tn5 q q q q q)) ?_
     obtain rfl:=sm h
     exact Px.go (tn5 q q q q q)
    ·replace h:=cndF hb110 h
     refine W.xi ?_
     refine Px.sqE ?_
     obtain rfl:=sm h
     exact Px.x1 (tn4 q q q q)
   refine Px.bkH ?_
   refine Px.sq<|W.sq' ?_
   refine W.sq'<|W.rx [(1,_),(2,_),(6,_),(417,_)] (Vm q<|Fi (tn4 q q q q)) ?_
   refine Px.sq<|W.cnd q (fun hb114=>?_) (fun hb114=>?_)
   ·replace h:=cndT hb114 h
    refine W.sq'<|W.rx [(2,_),(3,_),(4,_),(5,_)] (Rv (O.bu (cs:=[.nils,.nils,.nils,SS S0,SS S0]) sc38 ze38 q q q)<|RunL.sO (G2:=[(2,.obj [.nils,.nils,.nils,SS S0,SS S0])]) (cs2:=[.nils,.nils,.nils,SS S0,SS S0]) q (.obj q) (.aggF q q) q sz38 q q q q (.b q .nil)<|Vk q<|Vk q<|Vk q<|Fi (tn4 q q q q)) ?_
    refine Px.sq<|W.fz (G1:=[(2,.obj [iR eTok ([]:List Tok),iR eNon ([]:List Non),iR eProd_0 ([]:List Prod),SS S0,SS S0]),(3,_),(4,_),(5,_)]) [2] (.z q q (FzL.obj (.z (.z (.z (.f (.f .nil)))))) (.n q q (.n q q (.n q q .nil)))) ?_
    refine W.rt ?_
    refine Px.sqR ?_
    obtain rfl:=sm h
    exact Px.fin (Fin.ro (.c (ys0:=[iR eTok ([]:List Tok),iR eNon ([]:List Non),iR eProd_0 ([]:List Prod),SS S0,SS S0]) q at38 q q q (.f q (.f q (.f q (.f q (.f q .nil))))) (.f q q (.f q q (.f q q .nil)))) q (ode (by kernel_rfl)) (.no .nil) q (.inr q))
   ·replace h:=cndF hb114 h
    refine W.sk<|Px.sq ?_
    refine W.sq'<|W.rd [[],[],[],[2],[],[4],[0,2,3],[0,2,3,6],[0,2,3,6,7],[0,2,3,6,7,8],rn 0 10 [],rn 0 11 [],rn 0 12 [],rn 0 13 []] [(2,_),(6,_)] mixo (by kernel_rfl) (Dv 0 (O.mv (.obj q))<|Dv 1 (O.mv (.obj q))<|Dv 2 (O.fO q (.obj q) fd25_0 q)<|Dv 3 (O.ldO (y:=SS a0.Pro) q (.ptr q) ct9 q q)<|Dv 4 (O.fO q (.obj q) fd25_3 q)<|Dv 5 (O.ldO (y:=SS a0.Tail) q (.ptr q) ct9 q q)<|Dv 6 (O.nlP (.ptr q))<|Dv 7 (O.fO q (.ptr q) fd143_0 q)<|Dv 8 (O.fO q (.ptr q) fd38_3 q)<|DL.bu 9 (G2:=[(1,.obj [SS a0.Pro,iR eDecl_0 a0.Decls,iR eRule_0 a0.Rules,SS a0.Tail]),(2,.obj [.nils,.nils,.nils,SS S0,SS S0]),(6,.obj [oR eTok x96,oR eNon x89,oR eProd_0 x65.f_g.Prods,SS a0.Pro,SS x65.f_g.Tail,oR eB x65.f_given,oR eNon x65.f_types,oR eS x65.f_lefts,I64 x65.f_e,I64 x65.f_at,SS x65.f_name,I64 x65.f_level,I64 x65.f_inner])]) (U:=[(5,424,some (SS a0.Tail)),(4,423,some (.ptr ⟨1,[]⟩ 3)),(1,420,some (.ptr ⟨6,[]⟩ 0))]) (EffOk.v (EO.eff (EO.sO (G2:=[(1,.obj [SS a0.Pro,iR eDecl_0 a0.Decls,iR eRule_0 a0.Rules,SS a0.Tail]),(2,.obj [.nils,.nils,.nils,SS S0,SS S0]),(6,.obj [oR eTok x96,oR eNon x89,oR eProd_0 x65.f_g.Prods,SS a0.Pro,SS x65.f_g.Tail,oR eB x65.f_given,oR eNon x65.f_types,oR eS x65.f_lefts,I64 x65.f_e,I64 x65.f_at,SS x65.f_name,I64 x65.f_level,I64 x65.f_inner])]) (cs2:=[oR eTok x96,oR eNon x89,oR eProd_0 x65.f_g.Prods,SS a0.Pro,SS x65.f_g.Tail,oR eB x65.f_given,oR eNon x65.f_types,oR eS x65.f_lefts,I64 x65.f_e,I64 x65.f_at,SS x65.f_name,I64 x65.f_level,I64 x65.f_inner]) q q q (.ptr q) (.lit q) q sz9 q q q q (.n q q (.n q q (.b q .nil)))))) q q (by kernel_rfl) q q q (.c (.inr (.inl ⟨_,q⟩)) q q q q q (Gd.wanted .none) (O.ldO (y:=SS a0.Tail) q (.ptr q) ct9 q q) (.c (.inr (.inr (.inr ⟨1,_,_,q,q,of_blt q,by simp⟩))) q q q q q (Gd.wanted .none) (O.fO q (.obj q) fd25_3 q) (.c (.inr (.inr (.inr ⟨6,_,_,q,q,of_blt q,by simp⟩))) q q q q q (Gd.wanted .none) (O.mv (.obj q)) .nil))) (by kernel_rfl)<|Dv 10 (O.nlP (.ptr q))<|Dv 11 (O.fO q (.ptr q) fd143_0 q)<|Dv 12 (O.fO q (.ptr q) fd38_4 q)<|DL.sO 13 (G2:=[(2,.obj [.nils,.nils,.nils,SS S0,SS S0]),(6,.obj [oR eTok x96,oR eNon x89,oR eProd_0 x65.f_g.Prods,SS a0.Pro,SS a0.Tail,oR eB x65.f_given,oR eNon x65.f_types,oR eS x65.f_lefts,I64 x65.f_e,I64 x65.f_at,SS x65.f_name,I64 x65.f_level,I64 x65.f_inner])]) (cs2:=[oR eTok x96,oR eNon x89,oR eProd_0 x65.f_g.Prods,SS a0.Pro,SS a0.Tail,oR eB x65.f_given,oR eNon x65.f_types,oR eS x65.f_lefts,I64 x65.f_e,I64 x65.f_at,SS x65.f_name,I64 x65.f_level,I64 x65.f_inner]) q (by kernel_rfl) (by kernel_rfl) q q q (.ptr q) (.lit q) q sz9 q q q q (.n q q (.b q .nil))<|DL.fin q q q (tn2 q q)) ?_
    refine Px.sq<|W.sq' ?_
    refine W.fz (G1:=[(2,_),(6,.obj [iR eTok x96,iR eNon x89,iR eProd_0 x65.f_g.Prods,SS a0.Pro,SS a0.Tail,oR eB x65.f_given,oR eNon x65.f_types,oR eS x65.f_lefts,I64 x65.f_e,I64 x65.f_at,SS x65.f_name,I64 x65.f_level,I64 x65.f_inner])]) [6] (.n q q (.z q q (FzL.obj (.z (.z (.z (.f (.f (.f (.f (.f (.f (.f (.f (.f (.f .nil)))))))))))))) .nil)) ?_
    refine W.rx [(2,_),(3,_),(4,_),(5,_)] (Rv (O.mv (.obj q))<|Rv (O.nlP (.ptr q))<|Rv (O.fO q (.ptr q) fd143_0 q)<|Rv (O.ldON (cs':=[iR eTok x96,iR eNon x89,iR eProd_0 x65.f_g.Prods,SS a0.Pro,SS a0.Tail]) q (.ptr q) at38 q q)<|RunL.sO (G2:=[(2,.obj [iR eTok x96,iR eNon x89,iR eProd_0 x65.f_g.Prods,SS a0.Pro,SS a0.Tail])]) (cs2:=[iR eTok x96,iR eNon x89,iR eProd_0 x65.f_g.Prods,SS a0.Pro,SS a0.Tail]) q (.obj q) (.aggF q q) q sz38 q q q q (.b q .nil)<|Vk q<|Vk q<|Vk q<|Fi (tn4 q q q q)) ?_
    refine Px.sq<|W.rt ?_
    obtain rfl:=sm h
    exact Px.fin (Fin.ro (.c (ys0:=[iR eTok x96,iR eNon x89,iR eProd_0 x65.f_g.Prods,SS a0.Pro,SS a0.Tail]) q at38 q q q (.f q (.f q (.f q (.f q (.f q .nil))))) (.f q q (.f q q (.f q q .nil)))) q (ode (by kernel_rfl)) (.no .nil) q (.inr q))
theorem con20 (a0:Source) (r:Grammar × Bool) (h:pf20 a0=some r):Con Try.prog 20 [.agg [SS a0.Pro,iR eDecl_0 a0.Decls,iR eRule_0 a0.Rules,SS a0.Tail]] [none] (.tup [.agg (eGrammar_0.cells r.1),BB r.2]):=by
 unfold pf20 at h
 refine Con.go (N:=⟨18,[]⟩) Try.func20 q q q q (W.fin ?_)
 refine W.st [(0,.agg [SS a0.Pro,iR eDecl_0 a0.Decls,iR eRule_0 a0.Rules,SS a0.Tail])] ?_
 refine W.sq'<|W.rx [(1,_),(2,_)] (Rv (O.box (.aggF q q) q)<|Rv (O.al (cs:=[.nils,.nils,.nils,SS S0,SS S0]) ze38 q q)<|Vk q<|Fi (tn2 q q)) ?_
 refine Px.sq<|W.sq' ?_
 obtain ⟨x1,hx1,h⟩:=bnd h
 refine W.rx [(2,_),(4,_),(5,_)] (Rv (O.ldON (cs':=[SS a0.Pro,iR eDecl_0 a0.Decls,iR eRule_0 a0.Rules,SS a0.Tail]) q (.obj q) at25 q q)<|Rc (PC.go (.cc (.aggF q q) .nil) (con61 a0 _ hx1) call61 q)<|Rv (O.mv (.tup q q))<|Rv (O.ex (y:=.agg (eGrammar_0.cells x1.1)) q q q)<|Rv (O.ex (y:=I64 x1.2.1) q q q)<|Rv (O.ex (y:=I64 x1.2.2.1) q q q)<|Rv (O.ex (y:=SS x1.2.2.2) q q q)<|Rv (O.al (cs:=[.nils,.nils,.nils,SS S0,SS S0]) ze38 q q)<|RunL.sO (G2:=[(2,.obj [.nils,.nils,.nils,SS S0,SS S0]),(4,.obj (eGrammar_0.cells x1.1)),(12,I64 x1.2.1),(13,I64 x1.2.2.1),(14,SS x1.2.2.2)]) (cs2:=[iR eTok x1.1.Toks,iR eNon x1.1.Nons,iR eProd_0 x1.1.Prods,SS x1.1.Pro,SS x1.1.Tail]) q (.obj q) (.aggF q q) q sz38 q q q q (.n q q (.b q (.n q q (.n q q (.n q q .nil)))))<|Va q<|Va q<|Va q<|Fi (tn3 q q q)) ?_
 refine Px.sq<|W.sq' ?_
 refine W.rx [(2,_),(3,_)] (Rv (O.ldON (cs':=[iR eTok x1.1.Toks,iR eNon x1.1.Nons,iR eProd_0 x1.1.Prods,SS x1.1.Pro,SS x1.1.Tail]) q (.obj q) at38 q q)<|Vm q<|Rv (O.eql (.lit q) (.k q))<|RunL.sO (G2:=[(2,.obj (eGrammar_0.cells x1.1)),(17,BB (decide (x1.2.1=0)))]) (cs2:=[iR eTok x1.1.Toks,iR eNon x1.1.Nons,iR eProd_0 x1.1.Prods,SS x1.1.Pro,SS x1.1.Tail]) q (.obj q) (.aggF q q) q sz38 q q q q (.b q (.n q q .nil))<|Va q<|Fi (tn2 q q)) ?_
 refine Px.sq<|W.rt ?_
 obtain rfl:=sm h
 exact Px.fin (Fin.ro (.c (ys0:=[iR eTok x1.1.Toks,iR eNon x1.1.Nons,iR eProd_0 x1.1.Prods,SS x1.1.Pro,SS x1.1.Tail]) q at38 q q q (.f q (.f q (.f q (.f q (.f q .nil))))) (.f q q .nil)) q (ode (by kernel_rfl)) (.no .nil) q (.inr q))
theorem con97 (a0:Int) (r:Bool) (h:pf97 a0=some r):Con Try.prog 97 [I64 a0] [none] (BB r):=by
 unfold pf97 at h
 refine Con.go (N:=⟨6,[]⟩) Try.func97 q q q q (W.fin ?_)
 refine W.st [(0,I64 a0)] ?_
 refine W.sq'<|W.rx [(0,_)] (Vk q<|Fi (.n q .nil)) ?_
 refine Px.sq<|W.sq' ?_
 refine W.rx [(2,_)] (Vm q<|Vm q<|Rv (O.neq (.lit q) (.lit q))<|Va q<|Fi (.n q .nil)) ?_
 refine Px.sq<|W.rt ?_
 obtain rfl:=sm h
 exact Px.fin (Fin.ro (.f q q .nil) q (ode (by kernel_rfl)) (.no .nil) q (.inr q))
theorem con65 (a0:Int) (a1:Int) (r:Int) (h:pf65 a0 a1=some r):Con Try.prog 65 [I64 a0,I64 a1] [none,none] (I64 r):=by
 unfold pf65 at h
 refine Con.go (N:=⟨20,[]⟩) Try.func65 q q q q (W.fin ?_)
 refine W.st [(0,I64 a0),(1,I64 a1)] ?_
 refine W.sq'<|W.rx [(0,_),(1,_)] (Vk q<|Fi (tn2 q q)) ?_
 refine Px.sq<|W.sq' ?_
 obtain ⟨x1,hx1,h⟩:=bnd h
 refine W.rx [(0,_),(1,_),(5,_)] (Vm q<|Rc (PC.go (.cc (.lit q) .nil) (con97 a0 _ hx1) call97 q)<|Va q<|Fi (tn3 q q q)) ?_
 refine Px.sq<|W.sq' ?_
 obtain ⟨x2,hx2,h⟩:=bnd h
 refine W.rx [(0,_),(1,_),(5,_),(6,_)] (Vm q<|Rc (PC.go (.cc (.lit q) .nil) (con97 a1 _ hx2) call97 q)<|Va q<|Fi (tn4 q q q q)) ?_
 refine Px.sq<|W.sq' ?_
 refine W.sq'<|W.rx [(0,_),(1,_),(6,_),(11,_)] (Vm q<|Fi (tn4 q q q q)) ?_
 refine Px.sq<|W.cnd q (fun hb3=>?_) (fun hb3=>?_)
 ·replace h:=cndT hb3 h
  refine W.sq'<|W.sq' ?_
  refine W.rx [(12,_)] (Vm q<|Fi (.n q .nil)) ?_
  refine Px.sq<|W.cnd q (fun hb4=>?_) (fun hb4=>?_)
  ·replace h:=cndT hb4 h
   refine W.sq'<|W.rx [(4,_)] (Vk q<|Fi (.n q .nil)) ?_
   refine Px.sq<|W.rt ?_
   refine Px.sqR ?_
   refine Px.sqR ?_
   obtain rfl:=sm h
   exact Px.fin (Fin.ro (.f q q .nil) q (ode (by kernel_rfl)) (.no (.no .nil)) q (.inr q))
  ·replace h:=cndF hb4 h
   refine W.sk<|Px.sq ?_
   refine W.sq'<|W.rx [(4,_)] (Vk q<|Fi (.n q .nil)) ?_
   refine Px.sq<|W.rt ?_
   refine Px.sqR ?_
   obtain rfl:=sm h
   exact Px.fin (Fin.ro (.f q q .nil) q (ode (by kernel_rfl)) (.no (.no .nil)) q (.inr q))
 ·replace h:=cndF hb3 h
  refine W.sk<|Px.sq ?_
  refine W.sq'<|W.sq' ?_
  refine W.rx [(0,_),(1,_),(13,_)] (Vm q<|Fi (tn3 q q q)) ?_
  refine Px.sq<|W.cnd q (fun hb5=>?_) (fun hb5=>?_)
  ·replace h:=cndT hb5 h
   refine W.sq'<|W.rx [(4,_)] (Vk q<|Fi (.n q .nil)) ?_
   refine Px.sq<|W.rt ?_
   refine Px.sqR ?_
   obtain rfl:=sm h
   exact Px.fin (Fin.ro (.f q q .nil) q (ode (by kernel_rfl)) (.no (.no .nil)) q (.inr q))
  ·replace h:=cndF hb5 h
   refine W.sk<|Px.sq ?_
   refine W.sq'<|W.sq' ?_
   refine W.rx [(0,_),(1,_),(16,_)] (Vm q<|Vm q<|Rv (O.lss (.lit q) (.lit q))<|Fi (tn3 q q q)) ?_
   refine Px.sq<|W.cnd q (fun hb6=>?_) (fun hb6=>?_)
   ·replace h:=cndT hb6 h
    refine W.sq'<|W.rx [(4,_)] (Vk q<|Fi (.n q .nil)) ?_
    refine Px.sq<|W.rt ?_
    refine Px.sqR ?_
    obtain rfl:=sm h
    exact Px.fin (Fin.ro (.f q q .nil) q (ode (by kernel_rfl)) (.no (.no .nil)) q (.inr q))
   ·replace h:=cndF hb6 h
    refine W.sk<|Px.sq ?_
    refine W.sq'<|W.sq' ?_
    refine W.rx [(19,_)] (Vm q<|Vm q<|Rv (O.gtr (.lit q) (.lit q))<|Fi (.n q .nil)) ?_
    refine Px.sq<|W.cnd q (fun hb7=>?_) (fun hb7=>?_)
    ·replace h:=cndT hb7 h
     refine W.sq'<|W.rx [(4,_)] (Vk q<|Fi (.n q .nil)) ?_
     refine Px.sq<|W.rt ?_
     refine Px.sqR ?_
     obtain rfl:=sm h
     exact Px.fin (Fin.ro (.f q q .nil) q (ode (by kernel_rfl)) (.no (.no .nil)) q (.inr q))
    ·replace h:=cndF hb7 h
     refine W.sk<|Px.sq ?_
     refine W.sq'<|W.rx [(4,_)] (Vk q<|Fi (.n q .nil)) ?_
     refine Px.sq<|W.rt ?_
     obtain rfl:=sm h
     exact Px.fin (Fin.ro (.f q q .nil) q (ode (by kernel_rfl)) (.no (.no .nil)) q (.inr q))
instance:Lts ePair:=⟨fun x=>[(.int .i64 x.At),(.int .i64 x.Val)],fun _=>rfl,fun x v hv=>by simp only [List.mem_cons,List.not_mem_nil,or_false] at hv; rcases hv with rfl | rfl <;> rfl⟩
theorem con22 (a0:Int) (a1:Int) (r:Int) (h:pf22 a0 a1=some r):Con Try.prog 22 [I64 a0,I64 a1] [none,none] (I64 r):=by
 unfold pf22 at h
 refine Con.go (N:=⟨15,[]⟩) Try.func22 q q q q (W.fin ?_)
 refine W.st [(0,I64 a0),(1,I64 a1)] ?_
 refine W.sq'<|W.rx [(0,_),(1,_)] (Vk q<|Fi (tn2 q q)) ?_
 refine Px.sq<|W.sq' ?_
 obtain ⟨x1,hx1,h⟩:=bnd h
 refine W.rx [(1,_),(5,_)] (Vm q<|Vm q<|Rv (O.rem (.lit q) (.lit q) hx1)<|Va q<|Fi (tn2 q q)) ?_
 refine Px.sq<|W.sq' ?_
 refine W.sq'<|W.rx [(1,_),(5,_),(10,_)] (Vm q<|Rv (O.lss (.lit q) (.k q))<|Fi (tn3 q q q)) ?_
 refine Px.sq ?_
 obtain ⟨j2,hj,h⟩:=bnd h
 refine W.jn [(5,I64 j2)] ?_ ?_
 ·clear h; have h:=hj; clear hj
  refine W.cnd q (fun hb3=>?_) (fun hb3=>?_)
  ·replace h:=cndT hb3 h
   refine W.rx [(5,_)] (Vm q<|Vm q<|Rv (O.add (.lit q) (.lit q))<|RunL.re (G1:=[(13,_)]) (.n q .nil)<|Va q<|Fi (.n q .nil)) ?_
   obtain rfl:=sm h
   exact Px.jn (.n q .nil)
  ·replace h:=cndF hb3 h
   refine W.sk ?_
   obtain rfl:=sm h
   exact Px.jn (.n q .nil)
 refine Px.sq<|W.sq' ?_
 refine W.rx [(4,_)] (Vm q<|Va q<|Fi (.n q .nil)) ?_
 refine Px.sq<|W.rt ?_
 obtain rfl:=sm h
 exact Px.fin (Fin.ro (.f q q .nil) q (ode (by kernel_rfl)) (.no (.no .nil)) q (.inr q))
theorem con68 (a0:Grammar) (a1:Item) (r:Bool) (h:pf68 a0 a1=some r):Con Try.prog 68 [.agg (eGrammar_0.cells a0),.agg [I64 a1.Prod,I64 a1.Dot]] [none,none] (BB r):=by
 unfold pf68 at h
 refine Con.go (N:=⟨34,[]⟩) Try.func68 q q q q (W.fin ?_)
 refine W.st [(0,.agg (eGrammar_0.cells a0)),(1,.agg [I64 a1.Prod,I64 a1.Dot])] ?_
 refine W.sq'<|W.rx [(2,_),(3,_)] (Rv (O.box (.aggF q q) q)<|Rv (O.box (.aggF q q) q)<|Vk q<|Fi (tn2 q q)) ?_
 refine Px.sq<|W.sq' ?_
 obtain ⟨c5,hj,h⟩:=bnd h
 refine W.rd [[],[0],[0,1],[0,1,2],[0,1,2,3],rn 0 5 [],[0,1,2,3],[0,1,2,3,6],[0,1,2,3,6,7],rn 0 9 [],rn 0 10 [],rn 0 11 [],rn 0 12 [],rn 0 13 [],rn 0 14 [],rn 0 15 [],rn 0 16 [],rn 0 17 [],rn 0 18 [],rn 0 17 [],rn 0 17 [19],rn 0 17 [],rn 0 17 [21],rn 0 17 [19,20,21,22],rn 0 17 (rn 19 5 []),rn 0 17 (rn 19 6 []),rn 0 17 (rn 19 7 []),rn 0 27 [],rn 0 28 [],rn 0 29 []] [(4,BB c5)] mixo (by kernel_rfl) ?_ ?_
 ·refine Dv 0 (O.fO q (.obj q) fd72_0 q)<|Dv 1 (O.ldO (y:=I64 a1.Prod) q (.ptr q) ct3 q q)<|Dv 2 (O.geq (.lit q) (.k q))<|Dv 3 (O.mv (.lit q)) ?_
  rcases cnd hj with ⟨hb1,hj⟩ | ⟨hb1,hj⟩
  ·refine DL.v 4 (O.fO q (.obj q) fd72_0 q) q q q q (.yb q q hb1)<|DL.v 5 (O.ldO (y:=I64 a1.Prod) q (.ptr q) ct3 q q) q q q q (.yb q q hb1)<|DL.v 6 (O.fO q (.obj q) fd38_2 q) q q q q (.yb q q hb1)<|DL.v 7 (O.ldO (y:=iR eProd_0 a0.Prods) q (.ptr q) ct36 q q) q q q q (.yb q q hb1)<|DL.v 8 (O.lenI (.imm q) sl36) q q q q (.yb q q hb1)<|DL.v 9 (O.lss (.lit q) (.lit q)) q q q q (.yb q q hb1)<|Dv 10 (O.pkT (.lit q) hb1 (.lit q))<|Dv 11 (O.mv (.lit q)) ?_
   rcases cnd hj with ⟨hb2,hj⟩ | ⟨hb2,hj⟩
   ·refine DL.v 12 (O.fO q (.obj q) fd72_1 q) q q q q (.yb q q hb2)<|DL.v 13 (O.ldO (y:=I64 a1.Dot) q (.ptr q) ct3 q q) q q q q (.yb q q hb2)<|DL.v 14 (O.geq (.lit q) (.k q)) q q q q (.yb q q hb2)<|Dv 15 (O.pkT (.lit q) hb2 (.lit q))<|Dv 16 (O.mv (.lit q)) ?_
    rcases cnd hj with ⟨hb3,hj⟩ | ⟨hb3,hj⟩
    ·refine DL.v 17 (O.fO q (.obj q) fd72_1 q) q q q q (.yb q q hb3)<|DL.v 18 (O.ldO (y:=I64 a1.Dot) q (.ptr q) ct3 q q) q q q q (.yb q q hb3)<|DL.v 19 (O.fO q (.obj q) fd38_2 q) q q q q (.yb q q hb3)<|DL.v 20 (O.ldO (y:=iR eProd_0 a0.Prods) q (.ptr q) ct36 q q) q q q q (.yb q q hb3)<|DL.v 21 (O.fO q (.obj q) fd72_0 q) q q q q (.yb q q hb3)<|DL.v 22 (O.ldO (y:=I64 a1.Prod) q (.ptr q) ct3 q q) q q q q (.yb q q hb3) ?_
     obtain ⟨x4,hx4,hj⟩:=bnd hj
     obtain rfl:=sm hj
     exact DL.v 23 (O.ixI (.imm q) (.lit q) sl36 hx4) q q q q (.yb q q hb3)<|DL.v 24 (O.fI (.iptr q) fd83_1) q q q q (.yb q q hb3)<|DL.v 25 (O.ldI (x:=iR eI x4.Right) (.iptr q) ct27 q) q q q q (.yb q q hb3)<|DL.v 26 (O.lenI (.imm q) sl27) q q q q (.yb q q hb3)<|DL.v 27 (O.leq (.lit q) (.lit q)) q q q q (.yb q q hb3)<|Dv 28 (O.pkT (.lit q) hb3 (.lit q))<|Dv 29 (O.az (.lit q))<|DL.fin q q q (.n q .nil)
    ·obtain rfl:=sm hj
     exact DL.ps 17 q q hb3 q q q q<|DL.ps 18 q q hb3 q q q q<|DL.ps 19 q q hb3 q q q q<|DL.ps 20 q q hb3 q q q q<|DL.ps 21 q q hb3 q q q q<|DL.ps 22 q q hb3 q q q q<|DL.ps 23 q q hb3 q q q q<|DL.ps 24 q q hb3 q q q q<|DL.ps 25 q q hb3 q q q q<|DL.ps 26 q q hb3 q q q q<|DL.ps 27 q q hb3 q q q q<|Dv 28 (O.pkF (.lit q) hb3 (.k q))<|Dv 29 (O.az (.lit q))<|DL.fin q q q (.n q .nil)
   ·obtain rfl:=sm hj
    exact DL.ps 12 q q hb2 q q q q<|DL.ps 13 q q hb2 q q q q<|DL.ps 14 q q hb2 q q q q<|Dv 15 (O.pkF (.lit q) hb2 (.k q))<|Dv 16 (O.mv (.lit q))<|DL.ps 17 q q q q q q q<|DL.ps 18 q q q q q q q<|DL.ps 19 q q q q q q q<|DL.ps 20 q q q q q q q<|DL.ps 21 q q q q q q q<|DL.ps 22 q q q q q q q<|DL.ps 23 q q q q q q q<|DL.ps 24 q q q q q q q<|DL.ps 25 q q q q q q q<|DL.ps 26 q q q q q q q<|DL.ps 27 q q q q q q q<|Dv 28 (O.pkF (.lit q) q (.k q))<|Dv 29 (O.az (.lit q))<|DL.fin q q q (.n q .nil)
  ·obtain rfl:=sm hj
   exact DL.ps 4 q q hb1 q q q q<|DL.ps 5 q q hb1 q q q q<|DL.ps 6 q q hb1 q q q q<|DL.ps 7 q q hb1 q q q q<|DL.ps 8 q q hb1 q q q q<|DL.ps 9 q q hb1 q q q q<|Dv 10 (O.pkF (.lit q) hb1 (.k q))<|Dv 11 (O.mv (.lit q))<|DL.ps 12 q q q q q q q<|DL.ps 13 q q q q q q q<|DL.ps 14 q q q q q q q<|Dv 15 (O.pkF (.lit q) q (.k q))<|Dv 16 (O.mv (.lit q))<|DL.ps 17 q q q q q q q<|DL.ps 18 q q q q q q q<|DL.ps 19 q q q q q q q<|DL.ps 20 q q q q q q q<|DL.ps 21 q q q q q q q<|DL.ps 22 q q q q q q q<|DL.ps 23 q q q q q q q<|DL.ps 24 q q q q q q q<|DL.ps 25 q q q q q q q<|DL.ps 26 q q q q q q q<|DL.ps 27 q q q q q q q<|Dv 28 (O.pkF (.lit q) q (.k q))<|Dv 29 (O.az (.lit q))<|DL.fin q q q (.n q .nil)
 refine Px.sq<|W.rt ?_
 obtain rfl:=sm h
 exact Px.fin (Fin.ro (.f q q .nil) q (ode (by kernel_rfl)) (.no (.no .nil)) q (.inr q))
theorem con32 (a0:Grammar) (a1:Item) (r:Int) (h:pf32 a0 a1=some r):Con Try.prog 32 [.agg (eGrammar_0.cells a0),.agg [I64 a1.Prod,I64 a1.Dot]] [none,none] (I64 r):=by
 unfold pf32 at h
 refine Con.go (N:=⟨33,[]⟩) Try.func32 q q q q (W.fin ?_)
 refine W.st [(0,.agg (eGrammar_0.cells a0)),(1,.agg [I64 a1.Prod,I64 a1.Dot])] ?_
 refine W.sq'<|W.rx [(2,_),(3,_)] (Rv (O.box (.aggF q q) q)<|Rv (O.box (.aggF q q) q)<|Vk q<|Fi (tn2 q q)) ?_
 refine Px.sq<|W.sq' ?_
 refine W.sq' ?_
 obtain ⟨c4,hj,h⟩:=bnd h
 refine W.rd [[],[],[0,1],[0,1,2],[0,1,2,3],rn 0 5 [],rn 0 6 [],rn 0 5 [],rn 0 5 [7],rn 0 5 [],rn 0 5 [9],rn 0 5 [7,8,9,10],rn 0 5 (rn 7 5 []),rn 0 5 (rn 7 6 []),rn 0 5 (rn 7 7 []),rn 0 15 [],rn 0 16 []] [(2,.obj (eGrammar_0.cells a0)),(3,.obj [I64 a1.Prod,I64 a1.Dot]),(21,BB c4)] mixo (by kernel_rfl) ?_ ?_
 ·refine Dv 0 (O.ldON (cs':=[iR eTok a0.Toks,iR eNon a0.Nons,iR eProd_0 a0.Prods,SS a0.Pro,SS a0.Tail]) q (.obj q) at38 q q)<|Dv 1 (O.ldON (cs':=[I64 a1.Prod,I64 a1.Dot]) q (.obj q) at72 q q) ?_
  obtain ⟨x1,hx1,hj⟩:=bnd hj
  refine Dc 2 (PC.go (.cc (.aggF q q) (.cc (.aggF q q) .nil)) (con68 a0 a1 _ hx1) call68 q)<|Dv 3 (O.not (.lit q))<|Dv 4 (O.mv (.lit q)) ?_
  rcases cnd hj with ⟨hb2,hj⟩ | ⟨hb2,hj⟩
  ·obtain rfl:=sm hj
   exact DL.ps 5 q q hb2 q q q q<|DL.ps 6 q q hb2 q q q q<|DL.ps 7 q q hb2 q q q q<|DL.ps 8 q q hb2 q q q q<|DL.ps 9 q q hb2 q q q q<|DL.ps 10 q q hb2 q q q q<|DL.ps 11 q q hb2 q q q q<|DL.ps 12 q q hb2 q q q q<|DL.ps 13 q q hb2 q q q q<|DL.ps 14 q q hb2 q q q q<|DL.ps 15 q q hb2 q q q q<|Dv 16 (O.pkT (.lit q) hb2 (.k q))<|DL.fin q q q (tn3 q q q)
  ·refine DL.v 5 (O.fO q (.obj q) fd72_1 q) q q q q (.yb q q hb2)<|DL.v 6 (O.ldO (y:=I64 a1.Dot) q (.ptr q) ct3 q q) q q q q (.yb q q hb2)<|DL.v 7 (O.fO q (.obj q) fd38_2 q) q q q q (.yb q q hb2)<|DL.v 8 (O.ldO (y:=iR eProd_0 a0.Prods) q (.ptr q) ct36 q q) q q q q (.yb q q hb2)<|DL.v 9 (O.fO q (.obj q) fd72_0 q) q q q q (.yb q q hb2)<|DL.v 10 (O.ldO (y:=I64 a1.Prod) q (.ptr q) ct3 q q) q q q q (.yb q q hb2) ?_
   obtain ⟨x3,hx3,hj⟩:=bnd hj
   obtain rfl:=sm hj
   exact DL.v 11 (O.ixI (.imm q) (.lit q) sl36 hx3) q q q q (.yb q q hb2)<|DL.v 12 (O.fI (.iptr q) fd83_1) q q q q (.yb q q hb2)<|DL.v 13 (O.ldI (x:=iR eI x3.Right) (.iptr q) ct27 q) q q q q (.yb q q hb2)<|DL.v 14 (O.lenI (.imm q) sl27) q q q q (.yb q q hb2)<|DL.v 15 (O.eql (.lit q) (.lit q)) q q q q (.yb q q hb2)<|Dv 16 (O.pkF (.lit q) hb2 (.lit q))<|DL.fin q q q (tn3 q q q)
 refine Px.sq<|W.cnd q (fun hb5=>?_) (fun hb5=>?_)
 ·replace h:=cndT hb5 h
  refine W.sq'<|W.rx [(4,_)] (Vk q<|Fi (.n q .nil)) ?_
  refine Px.sq<|W.rt ?_
  refine Px.sqR ?_
  obtain rfl:=sm h
  exact Px.fin (Fin.ro (.f q q .nil) q (ode (by kernel_rfl)) (.no (.no .nil)) q (.inr q))
 ·replace h:=cndF hb5 h
  refine W.sk<|Px.sq ?_
  refine W.sq' ?_
  obtain ⟨x6,hx6,h⟩:=bnd h
  obtain ⟨x7,hx7,h⟩:=bnd h
  refine W.rd [[],[0],[],[2],[0,1,2,3],rn 0 5 [],rn 0 6 [],[],[7],rn 0 9 [],rn 0 10 [],rn 0 11 []] [(4,_)] mixo (by kernel_rfl) (Dv 0 (O.fO q (.obj q) fd38_2 q)<|Dv 1 (O.ldO (y:=iR eProd_0 a0.Prods) q (.ptr q) ct36 q q)<|Dv 2 (O.fO q (.obj q) fd72_0 q)<|Dv 3 (O.ldO (y:=I64 a1.Prod) q (.ptr q) ct3 q q)<|Dv 4 (O.ixI (.imm q) (.lit q) sl36 hx6)<|Dv 5 (O.fI (.iptr q) fd83_1)<|Dv 6 (O.ldI (x:=iR eI x6.Right) (.iptr q) ct27 q)<|Dv 7 (O.fO q (.obj q) fd72_1 q)<|Dv 8 (O.ldO (y:=I64 a1.Dot) q (.ptr q) ct3 q q)<|Dv 9 (O.ixI (.imm q) (.lit q) sl27 hx7)<|Dv 10 (O.ldI (x:=I64 x7) (.iptr q) ct3 q)<|Dv 11 (O.az (.lit q))<|DL.fin q q q (.n q .nil)) ?_
  refine Px.sq<|W.rt ?_
  obtain rfl:=sm h
  exact Px.fin (Fin.ro (.f q q .nil) q (ode (by kernel_rfl)) (.no (.no .nil)) q (.inr q))
theorem con35 (a0:(List Item)) (a1:(List Item)) (r:Bool) (h:pf35 a0 a1=some r):Con Try.prog 35 [iR eItem a0,iR eItem a1] [none,none] (BB r):=by
 unfold pf35 at h
 refine Con.go (N:=⟨26,[]⟩) Try.func35 q q q q (W.fin ?_)
 refine W.st [(0,iR eItem a0),(1,iR eItem a1)] ?_
 refine W.sq'<|W.rx [(0,_),(1,_)] (Vk q<|Fi (tn2 q q)) ?_
 refine Px.sq<|W.sq' ?_
 refine W.sq'<|W.rx [(0,_),(1,_),(10,_)] (Rv (O.mv (.imm q))<|Rv (O.lenI (.imm q) sl66)<|Rv (O.mv (.imm q))<|Rv (O.lenI (.imm q) sl66)<|Rv (O.neq (.lit q) (.lit q))<|Fi (tn3 q q q)) ?_
 refine Px.sq<|W.cnd q (fun hb1=>?_) (fun hb1=>?_)
 ·replace h:=cndT hb1 h
  refine W.sq'<|W.rx [(4,_)] (Vk q<|Fi (.n q .nil)) ?_
  refine Px.sq<|W.rt ?_
  refine Px.sqR ?_
  obtain rfl:=sm h
  exact Px.fin (Fin.ro (.f q q .nil) q (ode (by kernel_rfl)) (.no (.no .nil)) q (.inr q))
 ·replace h:=cndF hb1 h
  refine W.sk<|Px.sq ?_
  refine W.sq'<|W.sq' ?_
  refine W.rx [(0,_),(1,_),(5,_)] (Vk q<|Fi (tn3 q q q)) ?_
  refine Px.sq<|W.bk ?_
  obtain ⟨x3,hl,h⟩:=bnd h
  refine W.tr (G1:=[(0,_),(1,_),(5,_)]) (tn3 q q q) ?_
  refine W.lp2 (s:=0) (fun (s2:Int)=>[(0,iR eItem a0),(1,iR eItem a1),(5,I64 s2)]) 0 (fun (x4:Unit)=>[]) (fun (x5:Bool)=>[(4,BB x5)]) hl (fun s2 o h=>?_) (fun x4 hx=>?_) (fun x5 hx=>?_)
  ·clear hl
   refine W.sq'<|W.sq' ?_
   refine W.rx [(0,_),(1,_),(5,_),(14,_)] (Vm q<|Rv (O.mv (.imm q))<|Rv (O.lenI (.imm q) sl66)<|Rv (O.lss (.lit q) (.lit q))<|Fi (tn4 q q q q)) ?_
   refine Px.sq<|W.cnd q (fun hb6=>?_) (fun hb6=>?_)
   ·replace h:=cndT hb6 h
    refine W.sk<|Px.sq ?_
    refine W.sq'<|W.bk ?_
    refine W.sq' ?_
    obtain ⟨x7,hx7,h⟩:=bnd h
    obtain ⟨x8,hx8,h⟩:=bnd h
    refine W.rd [[],[],[0,1],[0,1,2],[],[],[4,5],[4,5,6],rn 0 8 []] [(0,_),(1,_),(5,_),(25,_)] mixo (by kernel_rfl) (Dv 0 (O.mv (.imm q))<|Dv 1 (O.mv (.lit q))<|Dv 2 (O.ixI (.imm q) (.lit q) sl66 hx7)<|Dv 3 (O.ldIN (cs':=[I64 x7.Prod,I64 x7.Dot]) (.iptr q) at72 q q)<|Dv 4 (O.mv (.imm q))<|Dv 5 (O.mv (.lit q))<|Dv 6 (O.ixI (.imm q) (.lit q) sl66 hx8)<|Dv 7 (O.ldIN (cs':=[I64 x8.Prod,I64 x8.Dot]) (.iptr q) at72 q q)<|Dv 8 (O.neqA (va:=[.int .i64 x7.Prod,.int .i64 x7.Dot]) (vb:=[.int .i64 x8.Prod,.int .i64 x8.Dot]) (.aggF q q) (.aggF q q) q q eq72)<|DL.fin q q q (tn4 q q q q)) ?_
    refine Px.sq<|W.cnd q (fun hb9=>?_) (fun hb9=>?_)
    ·replace h:=cndT hb9 h
     refine W.sq'<|W.rx [(4,_)] (Vk q<|Fi (.n q .nil)) ?_
     refine Px.sq<|W.rt ?_
     refine Px.bkR ?_
     refine Px.sqR ?_
     obtain rfl:=sm h
     exact Px.r2 (.n q .nil)
    ·replace h:=cndF hb9 h
     refine W.sk<|Px.bk ?_
     refine Px.sq<|W.rx [(0,_),(1,_),(5,_)] (Vm q<|Rv (O.add (.lit q) (.k q))<|RunL.re (G1:=[(0,_),(1,_),(16,_)]) (tn3 q q q)<|Va q<|Fi (tn3 q q q)) ?_
     obtain rfl:=sm h
     exact Px.go (tn3 q q q)
   ·replace h:=cndF hb6 h
    refine W.xi ?_
    refine Px.sqE ?_
    obtain rfl:=sm h
    exact Px.x2 .nil
  ·subst hx
   refine Px.bkH ?_
   refine Px.sq<|W.sq' ?_
   refine W.rx [(4,_)] (Vk q<|Fi (.n q .nil)) ?_
   refine Px.sq<|W.rt ?_
   obtain rfl:=sm h
   exact Px.fin (Fin.ro (.f q q .nil) q (ode (by kernel_rfl)) (.no (.no .nil)) q (.inr q))
  ·subst hx
   refine Px.bkR ?_
   refine Px.sqR ?_
   obtain rfl:=sm h
   exact Px.fin (Fin.ro (.f q q .nil) q (ode (by kernel_rfl)) (.no (.no .nil)) q (.inr q))
theorem con99 (a0:(List Int)) (r:Int) (h:pf99 a0=some r):Con Try.prog 99 [iR eI a0] [none] (I64 r):=by
 unfold pf99 at h
 refine Con.go (N:=⟨18,[]⟩) Try.func99 q q q q (W.fin ?_)
 refine W.st [(0,iR eI a0)] ?_
 refine W.sq'<|W.rx [(0,_)] (Vk q<|Fi (.n q .nil)) ?_
 refine Px.sq<|W.sq' ?_
 refine W.rx [(0,_),(3,_)] (Vk q<|Fi (tn2 q q)) ?_
 refine Px.sq<|W.sq' ?_
 refine W.sq'<|W.rx [(3,_),(6,_),(7,_),(8,_)] (Rv (O.mv (.imm q))<|Rv (O.lenI (.imm q) sl27)<|Rv (O.mv (.k q))<|Fi (tn4 q q q q)) ?_
 refine Px.sq<|W.bk ?_
 obtain ⟨x2,hl,h⟩:=bnd h
 refine W.tr (G1:=[(3,_),(6,_),(7,_),(8,_)]) (tn4 q q q q) ?_
 refine W.lp2 (s:=0) (fun (s1:Int)=>[(3,I64 0),(6,iR eI a0),(7,I64 (a0.length:Int)),(8,I64 s1)]) 0 (fun (x3:Unit)=>[(3,I64 0)]) (fun (x4:Int)=>[(2,I64 x4)]) hl (fun s1 o h=>?_) (fun x3 hx=>?_) (fun x4 hx=>?_)
 ·clear hl
  refine W.sq'<|W.rx [(3,_),(6,_),(7,_),(8,_),(9,_)] (Rv (O.lss (.lit q) (.lit q))<|Fi (tn5 q q q q q)) ?_
  refine Px.sq<|W.sq' ?_
  refine W.cnd q (fun hb5=>?_) (fun hb5=>?_)
  ·replace h:=cndT hb5 h
   refine W.sk<|Px.sq ?_
   refine W.sq'<|W.bk ?_
   refine W.sq' ?_
   obtain ⟨x6,hx6,h⟩:=bnd h
   refine W.rx [(3,_),(5,_),(6,_),(7,_),(8,_)] (Rv (O.ixI (.imm q) (.lit q) sl27 hx6)<|Rv (O.ldI (x:=I64 x6) (.iptr q) ct3 q)<|Va q<|Fi (tn5 q q q q q)) ?_
   refine Px.sq<|W.sq' ?_
   refine W.rx [(3,_),(5,_),(6,_),(7,_),(8,_),(14,_)] (Vm q<|Vm q<|Rv (O.neq (.lit q) (.lit q))<|Fi (tn6 q q q q q q)) ?_
   refine Px.sq<|W.cnd q (fun hb7=>?_) (fun hb7=>?_)
   ·replace h:=cndT hb7 h
    refine W.sq'<|W.rx [(2,_)] (Vm q<|Va q<|Fi (.n q .nil)) ?_
    refine Px.sq<|W.rt ?_
    refine Px.bkR ?_
    refine Px.sqR ?_
    obtain rfl:=sm h
    exact Px.r2 (.n q .nil)
   ·replace h:=cndF hb7 h
    refine W.sk<|Px.bk ?_
    refine Px.sq<|W.rx [(3,_),(6,_),(7,_),(8,_)] (Rv (O.add (.lit q) (.k q))<|RunL.re (G1:=[(3,_),(6,_),(7,_),(16,_)]) (tn4 q q q q)<|Vm q<|Fi (tn4 q q q q)) ?_
    obtain rfl:=sm h
    exact Px.go (tn4 q q q q)
  ·replace h:=cndF hb5 h
   refine W.xi ?_
   refine Px.sqE ?_
   obtain rfl:=sm h
   exact Px.x2 (.n q .nil)
 ·subst hx
  refine Px.bkH ?_
  refine Px.sq<|W.sq' ?_
  refine W.rx [(2,_)] (Vm q<|Va q<|Fi (.n q .nil)) ?_
  refine Px.sq<|W.rt ?_
  obtain rfl:=sm h
  exact Px.fin (Fin.ro (.f q q .nil) q (ode (by kernel_rfl)) (.no .nil) q (.inr q))
 ·subst hx
  refine Px.bkR ?_
  refine Px.sqR ?_
  obtain rfl:=sm h
  exact Px.fin (Fin.ro (.f q q .nil) q (ode (by kernel_rfl)) (.no .nil) q (.inr q))
theorem con71 (a0:Item) (a1:Item) (r:Int) (h:pf71 a0 a1=some r):Con Try.prog 71 [.agg [I64 a0.Prod,I64 a0.Dot],.agg [I64 a1.Prod,I64 a1.Dot]] [none,none] (I64 r):=by
 unfold pf71 at h
 refine Con.go (N:=⟨17,[]⟩) Try.func71 q q q q (W.fin ?_)
 refine W.st [(0,.agg [I64 a0.Prod,I64 a0.Dot]),(1,.agg [I64 a1.Prod,I64 a1.Dot])] ?_
 refine W.sq'<|W.rx [(2,_),(3,_)] (Rv (O.box (.aggF q q) q)<|Rv (O.box (.aggF q q) q)<|Vk q<|Fi (tn2 q q)) ?_
 refine Px.sq<|W.sq' ?_
 obtain ⟨x1,hx1,h⟩:=bnd h
 obtain ⟨x2,hx2,h⟩:=bnd h
 obtain ⟨x3,hx3,h⟩:=bnd h
 refine W.rd [[],[0],[],[2],[0,1,2,3],[],[5],[],[7],rn 0 9 [],rn 0 10 [],rn 0 11 [],rn 0 12 []] [(4,_)] mixo (by kernel_rfl) (Dv 0 (O.fO q (.obj q) fd72_0 q)<|Dv 1 (O.ldO (y:=I64 a0.Prod) q (.ptr q) ct3 q q)<|Dv 2 (O.fO q (.obj q) fd72_0 q)<|Dv 3 (O.ldO (y:=I64 a1.Prod) q (.ptr q) ct3 q q)<|Dc 4 (PC.go (.cc (.lit q) (.cc (.lit q) .nil)) (con65 a0.Prod a1.Prod _ hx1) call65 q)<|Dv 5 (O.fO q (.obj q) fd72_1 q)<|Dv 6 (O.ldO (y:=I64 a0.Dot) q (.ptr q) ct3 q q)<|Dv 7 (O.fO q (.obj q) fd72_1 q)<|Dv 8 (O.ldO (y:=I64 a1.Dot) q (.ptr q) ct3 q q)<|Dc 9 (PC.go (.cc (.lit q) (.cc (.lit q) .nil)) (con65 a0.Dot a1.Dot _ hx2) call65 q)<|DL.vi 10 (x:=iR eI [x1,x2]) (O.bs (ys:=[I64 x1,I64 x2]) eI [x1,x2] sl27 q q q q q q zt3 q q) q q q q .none<|Dc 11 (PC.go (.cc (.imm q) .nil) (con99 [x1,x2] _ hx3) call99 q)<|Dv 12 (O.az (.lit q))<|DL.fin q q q (.n q .nil)) ?_
 refine Px.sq<|W.rt ?_
 obtain rfl:=sm h
 exact Px.fin (Fin.ro (.f q q .nil) q (ode (by kernel_rfl)) (.no (.no .nil)) q (.inr q))
instance:Lts eItem:=⟨fun x=>[(.int .i64 x.Prod),(.int .i64 x.Dot)],fun _=>rfl,fun x v hv=>by simp only [List.mem_cons,List.not_mem_nil,or_false] at hv; rcases hv with rfl | rfl <;> rfl⟩
theorem sort70 {g:FuncId}{caps:List AV} [NRl caps] (hg:callT Try.prog g=true) {l r:List Item}{cf:Item->Item->Option Int}(h:sortO cf l=some r) (hc:∀ a b v,cf a b=some v->Con Try.prog g (.agg (eItem.cells a)::.agg (eItem.cells b)::caps) (none::none::caps.map fun _=>none) (I64 v)):Con Try.prog 70 [oR eItem l,.clo (.func g) [] caps] [some (oR eItem r),none] (.tup []):=Con.sortS (e:=eItem) Try.sortS70 Try.isAgg72 Try.sizeOf72 hg h hc
theorem eqv_Item (x y:Item):eqVs [Value.int .i64 x.Prod,Value.int .i64 x.Dot] [Value.int .i64 y.Prod,Value.int .i64 y.Dot]=decide (x=y):=by
 obtain ⟨x1,x2⟩:=x
 obtain ⟨y1,y2⟩:=y
 simp [eqVs,eqV]
theorem eqt72:eqAT Try.prog 72 [.i .i64,.i .i64]=true:=by kernel_rfl
theorem comp72 {l r:List Item}(h:compO l=some r):Con Try.prog 72 [oR eItem l] [none] (oR eItem r):=by
 refine Con.compS (e:=eItem) (f:=72) ?_ (fun w p cap=>compN72 w p cap) h
 intro w b cap d hp hH hb hc hbig
 have heq:∀ (x y:Item) (w:World),Sem.run Try.prog (binOp .eql 72 (.agg #[Value.int .i64 x.Prod,Value.int .i64 x.Dot]) (.agg #[Value.int .i64 y.Prod,Value.int .i64 y.Dot])) w=.ok (.bool (decide (x=y))) w:=fun x y w=>by
  rw [<- eqv_Item]
  exact Two.eqA (xs:=[Value.int .i64 x.Prod,Value.int .i64 x.Dot]) (bs:=[Value.int .i64 y.Prod,Value.int .i64 y.Dot]) (sh:=[.i .i64,.i .i64]) rfl rfl eqt72 w
 have hne:∀ (x y:Item) (w:World),Sem.run Try.prog (binOp .neq 72 (.agg #[Value.int .i64 x.Prod,Value.int .i64 x.Dot]) (.agg #[Value.int .i64 y.Prod,Value.int .i64 y.Dot])) w=.ok (.bool (!decide (x=y))) w:=fun x y w=>by
  rw [<- eqv_Item]
  exact Two.neA (xs:=[Value.int .i64 x.Prod,Value.int .i64 x.Dot]) (bs:=[Value.int .i64 y.Prod,Value.int .i64 y.Dot]) (sh:=[.i .i64,.i .i64]) rfl rfl eqt72 w
 have hgd:∀ (op:BinOp) (p q:Operand) (x y:Item) (w:World),Sem.run Try.prog (eqGuard op 72 p q (.agg #[Value.int .i64 x.Prod,Value.int .i64 x.Dot]) (.agg #[Value.int .i64 y.Prod,Value.int .i64 y.Dot])) w=.ok () w:=fun op p q x y w=>Two.gdA (sh:=[.i .i64,.i .i64]) eqt72 op p q _ _ w
 exact compS72 (fun x:Item=>Value.int .i64 x.Prod) (fun x:Item=>Value.int .i64 x.Dot) (Two.one _) (Two.one _) heq hne hgd rfl w b cap d hp hH hb hc hbig
theorem con36 (a0:Grammar) (a1:(List Item)) (r:(List Item)) (h:pf36 a0 a1=some r):Con Try.prog 36 [.agg (eGrammar_0.cells a0),iR eItem a1] [none,none] (oR eItem r):=by
 unfold pf36 at h
 refine Con.go (N:=⟨78,[]⟩) Try.func36 q q q q (W.fin ?_)
 refine W.st [(0,.agg (eGrammar_0.cells a0)),(1,iR eItem a1)] ?_
 refine W.sq'<|W.rx [(1,_),(2,_)] (Rv (O.box (.aggF q q) q)<|Rv (O.az .knil)<|Fi (tn2 q q)) ?_
 refine Px.sq<|W.sq' ?_
 refine W.rx [(1,_),(2,_),(5,_)] (Rv (O.az .knil)<|Fi (tn3 q q q)) ?_
 refine Px.sq<|W.sq' ?_
 refine W.sq'<|W.rx [(2,_),(5,_),(12,_),(13,_),(14,_)] (Rv (O.mv (.imm q))<|Rv (O.lenI (.imm q) sl66)<|Rv (O.mv (.k q))<|Fi (tn5 q q q q q)) ?_
 refine Px.sq<|W.bk ?_
 obtain ⟨x2,hl,h⟩:=bnd h
 refine W.tr (G1:=[(2,_),(5,oR eItem ([]:List Item)),(12,_),(13,_),(14,_)]) (.n q (.w q q .nilOwn (tn3 q q q))) ?_
 refine W.lp1 (s:=(([]:List Item),0)) (fun (s1:List Item × Int)=>[(2,.obj (eGrammar_0.cells a0)),(5,oR eItem s1.1),(12,iR eItem a1),(13,I64 (a1.length:Int)),(14,I64 s1.2)]) 0 (fun (x2:List Item)=>[(2,.obj (eGrammar_0.cells a0)),(5,oR eItem x2)]) hl (fun s1 o h=>?_) ?_
 ·clear hl
  refine W.sq'<|W.rx [(2,_),(5,_),(12,_),(13,_),(14,_),(15,_)] (Rv (O.lss (.lit q) (.lit q))<|Fi (tn6 q q q q q q)) ?_
  refine Px.sq<|W.sq' ?_
  refine W.cnd q (fun hb4=>?_) (fun hb4=>?_)
  ·replace h:=cndT hb4 h
   refine W.sk<|Px.sq ?_
   refine W.sq' ?_
   obtain ⟨j5,hj,h⟩:=bnd h
   refine W.jn [(2,.obj (eGrammar_0.cells a0)),(5,oR eItem j5),(12,iR eItem a1),(13,I64 (a1.length:Int)),(14,I64 s1.2)] ?_ ?_
   ·clear h; have h:=hj; clear hj
    refine W.bk<|W.sq' ?_
    obtain ⟨x6,hx6,h⟩:=bnd h
    refine W.rx [(2,_),(5,_),(7,_),(12,_),(13,_),(14,_)] (Rv (O.ixI (.imm q) (.lit q) sl66 hx6)<|Rv (O.ldIN (cs':=[I64 x6.Prod,I64 x6.Dot]) (.iptr q) at72 q q)<|Rv (O.al (cs:=[I64 0,I64 0]) ze72 q q)<|RunL.sO (G2:=[(2,.obj (eGrammar_0.cells a0)),(5,oR eItem s1.1),(7,.obj [I64 x6.Prod,I64 x6.Dot]),(12,iR eItem a1),(13,I64 (a1.length:Int)),(14,I64 s1.2)]) (cs2:=[I64 x6.Prod,I64 x6.Dot]) q (.obj q) (.aggF q q) q sz72 q q q q (.n q q (.n q q (.b q (.n q q (.n q q (.n q q .nil))))))<|Fi (tn6 q q q q q q)) ?_
    refine Px.sq<|W.sq' ?_
    obtain ⟨x7,hx7,h⟩:=bnd h
    refine W.rx [(2,_),(5,_),(7,_),(12,_),(13,_),(14,_),(20,_)] (Rv (O.ldON (cs':=[iR eTok a0.Toks,iR eNon a0.Nons,iR eProd_0 a0.Prods,SS a0.Pro,SS a0.Tail]) q (.obj q) at38 q q)<|Rv (O.ldON (cs':=[I64 x6.Prod,I64 x6.Dot]) q (.obj q) at72 q q)<|Rc (PC.go (.cc (.aggF q q) (.cc (.aggF q q) .nil)) (con68 a0 x6 _ hx7) call68 q)<|Fi (tn7 q q q q q q q)) ?_
    refine Px.sq ?_
    obtain ⟨j8,hj,h⟩:=bnd h
    refine W.jn [(2,.obj (eGrammar_0.cells a0)),(5,oR eItem j8),(12,iR eItem a1),(13,I64 (a1.length:Int)),(14,I64 s1.2)] ?_ ?_
    ·clear h; have h:=hj; clear hj
     refine W.cnd q (fun hb9=>?_) (fun hb9=>?_)
     ·replace h:=cndT hb9 h
      obtain ⟨x10,hx10,h⟩:=bnd h
      refine W.rx [(2,_),(5,_),(12,_),(13,_),(14,_)] (Rv (O.mv (.own q))<|Rv (O.ldON (cs':=[I64 x6.Prod,I64 x6.Dot]) q (.obj q) at72 q q)<|RunL.vi (x:=iR eItem [x6]) (O.bs (ys:=[.agg [I64 x6.Prod,I64 x6.Dot]]) eItem [x6] sl66 q q q q q q zt72 q q) q q .none<|Rv (O.ap (en:=eItem) (r:=x10) (.brw q) q (.imm q) .i ap66 q hx10)<|RunL.ea (G2:=[(2,.obj (eGrammar_0.cells a0)),(12,iR eItem a1),(13,I64 (a1.length:Int)),(14,I64 s1.2)]) q (EO.aP q q (.pend q) q q q (.n q q (.n q q (.n q q (.n q q .nil)))) q q)<|Fi (tn5 q q q q q)) ?_
      obtain rfl:=sm h
      exact Px.jn (tn5 q q q q q)
     ·replace h:=cndF hb9 h
      refine W.sk ?_
      obtain rfl:=sm h
      exact Px.jn (tn5 q q q q q)
    refine Px.bk ?_
    obtain rfl:=sm h
    exact Px.jn (tn5 q q q q q)
   refine Px.sq<|W.rx [(2,_),(5,_),(12,_),(13,_),(14,_)] (Rv (O.add (.lit q) (.k q))<|RunL.re (G1:=[(2,_),(5,_),(12,_),(13,_),(25,_)]) (tn5 q q q q q)<|Vm q<|Fi (tn5 q q q q q)) ?_
   obtain rfl:=sm h
   exact Px.go (tn5 q q q q q)
  ·replace h:=cndF hb4 h
   refine W.xi ?_
   refine Px.sqE ?_
   obtain rfl:=sm h
   exact Px.x1 (tn2 q q)
 refine Px.bkH ?_
 refine Px.sq<|W.sq' ?_
 obtain ⟨x11,hx11,h⟩:=bnd h
 refine W.rx [(2,_),(5,_),(8,_)] (Rv (O.fO q (.obj q) fd38_1 q)<|Rv (O.ldO (y:=iR eNon a0.Nons) q (.ptr q) ct35 q q)<|Rv (O.lenI (.imm q) sl35)<|Rv (O.mk (en:=eB) (z0:=false) sl116 (.lit q) (.lit q) ze4 q q hx11 bb4 q)<|RunL.ea (G2:=[(2,.obj (eGrammar_0.cells a0)),(5,oR eItem x2)]) q (EO.aR q q (.own q) q (.n q q (.n q q .nil)) q q)<|Fi (tn3 q q q)) ?_
 refine Px.sq<|W.sq' ?_
 refine W.sq'<|W.rx [(2,_),(5,_),(8,_),(9,_)] (Vk q<|Fi (tn4 q q q q)) ?_
 refine Px.sq<|W.bk ?_
 obtain ⟨x13,hl,h⟩:=bnd h
 refine W.tr (G1:=[(2,_),(5,_),(8,_),(9,_)]) (tn4 q q q q) ?_
 refine W.lp1 (s:=(x2,x11,0)) (fun (s12:List Item × List Bool × Int)=>[(2,.obj (eGrammar_0.cells a0)),(5,oR eItem s12.1),(8,oR eB s12.2.1),(9,I64 s12.2.2)]) 2 (fun (x13:List Item)=>[(5,oR eItem x13)]) hl (fun s12 o h=>?_) ?_
 ·clear hl
  refine W.sq'<|W.sq' ?_
  refine W.rx [(2,_),(5,_),(8,_),(9,_),(33,_)] (Vm q<|Rv (O.mv (.own q))<|Rv (O.lenO (.brw q) sl66)<|Rv (O.lss (.lit q) (.lit q))<|Fi (tn5 q q q q q)) ?_
  refine Px.sq<|W.cnd q (fun hb15=>?_) (fun hb15=>?_)
  ·replace h:=cndT hb15 h
   refine W.sk<|Px.sq ?_
   refine W.sq' ?_
   obtain ⟨j16,hj,h⟩:=bnd h
   refine W.jn [(2,.obj (eGrammar_0.cells a0)),(5,oR eItem j16.1),(8,oR eB j16.2),(9,I64 s12.2.2)] ?_ ?_
   ·clear h; have h:=hj; clear hj
    refine W.bk<|W.sq' ?_
    obtain ⟨x17,hx17,h⟩:=bnd h
    obtain ⟨x18,hx18,h⟩:=bnd h
    refine W.rd [[],[],[],[1,2],[1,2,3],rn 0 5 [],rn 0 6 [],rn 0 7 []] [(2,_),(5,_),(8,_),(9,_),(10,_)] mixo (by kernel_rfl) (Dv 0 (O.ldON (cs':=[iR eTok a0.Toks,iR eNon a0.Nons,iR eProd_0 a0.Prods,SS a0.Pro,SS a0.Tail]) q (.obj q) at38 q q)<|Dv 1 (O.mv (.own q))<|Dv 2 (O.mv (.lit q))<|Dv 3 (O.ixO (en:=eItem) q (.brw q) (.lit q) sl66 hx17 q)<|Dv 4 (O.ldEN (en:=eItem) (cs':=[I64 x17.Prod,I64 x17.Dot]) q (.ptr q) at72 hx17 q q)<|Dc 5 (PC.go (.cc (.aggF q q) (.cc (.aggF q q) .nil)) (con32 a0 x17 _ hx18) call32 q)<|Dv 6 (O.sub (.lit q) (.k q))<|Dv 7 (O.az (.lit q))<|DL.fin q q q (tn5 q q q q q)) ?_
    refine Px.sq<|W.sq' ?_
    refine W.sq' ?_
    obtain ⟨c21,hj,h⟩:=bnd h
    refine W.rx [(2,.obj (eGrammar_0.cells a0)),(5,oR eItem s12.1),(8,oR eB s12.2.1),(9,I64 s12.2.2),(10,I64 (w64 (x18 - 1000))),(50,BB c21)] ?_ ?_
    ·refine Vm q<|Rv (O.lss (.lit q) (.k q))<|Rv (O.mv (.lit q)) ?_
     rcases cnd hj with ⟨hb19,hj⟩ | ⟨hb19,hj⟩
     ·obtain rfl:=sm hj
      exact RunL.ps q q hb19 q q<|RunL.ps q q hb19 q q<|RunL.ps q q hb19 q q<|RunL.ps q q hb19 q q<|Rv (O.pkT (.lit q) hb19 (.k q))<|Fi (tn6 q q q q q q)
     ·refine RunL.v (O.mv (.own q)) q q (.yb q q hb19)<|RunL.v (O.mv (.lit q)) q q (.yb q q hb19) ?_
      obtain ⟨x20,hx20,hj⟩:=bnd hj
      obtain rfl:=sm hj
      exact RunL.v (O.ixO (en:=eB) q (.brw q) (.lit q) sl116 hx20 q) q q (.yb q q hb19)<|RunL.v (O.ldE (en:=eB) (x':=BB x20) q (.ptr q) ct4 hx20 q q) q q (.yb q q hb19)<|Rv (O.pkF (.lit q) hb19 (.lit q))<|Fi (tn6 q q q q q q)
    refine Px.sq<|W.cnd q (fun hb22=>?_) (fun hb22=>?_)
    ·replace h:=cndT hb22 h
     refine W.xi ?_
     refine Px.sqE ?_
     refine Px.bkH ?_
     obtain rfl:=sm h
     exact Px.jn (tn4 q q q q)
    ·replace h:=cndF hb22 h
     refine W.sk<|Px.sq ?_
     refine W.sq' ?_
     obtain ⟨x23,hx23,h⟩:=bnd h
     refine W.rx [(2,_),(5,_),(8,_),(9,_),(10,_)] (Rv (O.mv (.own q))<|Vm q<|Rv (O.ixO (en:=eB) q (.brw q) (.lit q) sl116 hx23 q)<|RunL.ef (G2:=[(2,.obj (eGrammar_0.cells a0)),(5,oR eItem s12.1),(8,oR eB (s12.2.1.set (w64 (x18 - 1000)).toNat true)),(9,I64 s12.2.2),(10,I64 (w64 (x18 - 1000)))]) q (EO.stE (en:=eB) (y2:=true) (cs':=[BB true]) (x2:=oR eB (s12.2.1.set (w64 (x18 - 1000)).toNat true)) q q (.ptr q) (.k q) q hx23 sz4 q q q q q q q (.n q q (.n q q (.b q (.n q q (.n q q .nil))))))<|Fi (tn5 q q q q q)) ?_
     refine Px.sq<|W.sq' ?_
     refine W.rx [(2,_),(5,_),(8,_),(9,_),(10,_),(56,_),(57,_)] (Rv (O.fO q (.obj q) fd38_2 q)<|Rv (O.ldO (y:=iR eProd_0 a0.Prods) q (.ptr q) ct36 q q)<|Rv (O.lenI (.imm q) sl36)<|Rv (O.mv (.k q))<|Fi (tn7 q q q q q q q)) ?_
     refine Px.sq<|W.bk ?_
     obtain ⟨x25,hl,h⟩:=bnd h
     refine W.tr (G1:=[(2,_),(5,_),(8,_),(9,_),(10,_),(56,_),(57,_)]) (tn7 q q q q q q q) ?_
     refine W.lp1 (s:=(s12.1,0)) (fun (s24:List Item × Int)=>[(2,.obj (eGrammar_0.cells a0)),(5,oR eItem s24.1),(8,oR eB (s12.2.1.set (w64 (x18 - 1000)).toNat true)),(9,I64 s12.2.2),(10,I64 (w64 (x18 - 1000))),(56,I64 (a0.Prods.length:Int)),(57,I64 s24.2)]) 4 (fun (x25:List Item)=>[(2,.obj (eGrammar_0.cells a0)),(5,oR eItem x25),(8,oR eB (s12.2.1.set (w64 (x18 - 1000)).toNat true)),(9,I64 s12.2.2)]) hl (fun s24 o h=>?_) ?_
     ·clear hl
      refine W.sq'<|W.rx [(2,_),(5,_),(8,_),(9,_),(10,_),(56,_),(57,_),(58,_)] (Rv (O.lss (.lit q) (.lit q))<|Fi (tn8 q q q q q q q q)) ?_
      refine Px.sq<|W.sq' ?_
      refine W.cnd q (fun hb27=>?_) (fun hb27=>?_)
      ·replace h:=cndT hb27 h
       refine W.sk<|Px.sq ?_
       refine W.sq' ?_
       obtain ⟨j28,hj,h⟩:=bnd h
       refine W.jn [(2,.obj (eGrammar_0.cells a0)),(5,oR eItem j28),(8,oR eB (s12.2.1.set (w64 (x18 - 1000)).toNat true)),(9,I64 s12.2.2),(10,I64 (w64 (x18 - 1000))),(56,I64 (a0.Prods.length:Int)),(57,I64 s24.2)] ?_ ?_
       ·clear h; have h:=hj; clear hj
        refine W.bk<|W.sq' ?_
        refine W.rx [(2,_),(5,_),(8,_),(9,_),(10,_),(11,_),(56,_),(57,_)] (Vm q<|Va q<|Fi (tn8 q q q q q q q q)) ?_
        refine Px.sq<|W.sq' ?_
        obtain ⟨x29,hx29,h⟩:=bnd h
        refine W.rx [(2,_),(5,_),(8,_),(9,_),(10,_),(11,_),(56,_),(57,_),(67,_)] (Rv (O.fO q (.obj q) fd38_2 q)<|Rv (O.ldO (y:=iR eProd_0 a0.Prods) q (.ptr q) ct36 q q)<|Vm q<|Rv (O.ixI (.imm q) (.lit q) sl36 hx29)<|Rv (O.fI (.iptr q) fd83_0)<|Rv (O.ldI (x:=I64 x29.Left) (.iptr q) ct3 q)<|Vm q<|Rv (O.eql (.lit q) (.lit q))<|Fi (tn9 q q q q q q q q q)) ?_
        refine Px.sq ?_
        obtain ⟨j30,hj,h⟩:=bnd h
        refine W.jn [(2,.obj (eGrammar_0.cells a0)),(5,oR eItem j30),(8,oR eB (s12.2.1.set (w64 (x18 - 1000)).toNat true)),(9,I64 s12.2.2),(10,I64 (w64 (x18 - 1000))),(56,I64 (a0.Prods.length:Int)),(57,I64 s24.2)] ?_ ?_
        ·clear h; have h:=hj; clear hj
         refine W.cnd q (fun hb31=>?_) (fun hb31=>?_)
         ·replace h:=cndT hb31 h
          obtain ⟨x32,hx32,h⟩:=bnd h
          refine W.rx [(2,_),(5,_),(8,_),(9,_),(10,_),(56,_),(57,_)] (Rv (O.mv (.own q))<|Vm q<|Rv (O.bu (cs:=[I64 s24.2,I64 0]) sc72 ze72 q q q)<|RunL.vi (x:=iR eItem [(⟨s24.2,0⟩:Item)]) (O.bs (ys:=[.agg [I64 s24.2,I64 0]]) eItem [(⟨s24.2,0⟩:Item)] sl66 q q q q q q zt72 q q) q q .none<|Rv (O.ap (en:=eItem) (r:=x32) (.brw q) q (.imm q) .i ap66 q hx32)<|RunL.ea (G2:=[(2,.obj (eGrammar_0.cells a0)),(8,oR eB (s12.2.1.set (w64 (x18 - 1000)).toNat true)),(9,I64 s12.2.2),(10,I64 (w64 (x18 - 1000))),(56,I64 (a0.Prods.length:Int)),(57,I64 s24.2)]) q (EO.aP q q (.pend q) q q q (.n q q (.n q q (.n q q (.n q q (.n q q (.n q q .nil)))))) q q)<|Fi (tn7 q q q q q q q)) ?_
          obtain rfl:=sm h
          exact Px.jn (tn7 q q q q q q q)
         ·replace h:=cndF hb31 h
          refine W.sk ?_
          obtain rfl:=sm h
          exact Px.jn (tn7 q q q q q q q)
        refine Px.bk ?_
        obtain rfl:=sm h
        exact Px.jn (tn7 q q q q q q q)
       refine Px.sq<|W.rx [(2,_),(5,_),(8,_),(9,_),(10,_),(56,_),(57,_)] (Rv (O.add (.lit q) (.k q))<|RunL.re (G1:=[(2,_),(5,_),(8,_),(9,_),(10,_),(56,_),(73,_)]) (tn7 q q q q q q q)<|Vm q<|Fi (tn7 q q q q q q q)) ?_
       obtain rfl:=sm h
       exact Px.go (tn7 q q q q q q q)
      ·replace h:=cndF hb27 h
       refine W.xi ?_
       refine Px.sqE ?_
       obtain rfl:=sm h
       exact Px.x1 (tn4 q q q q)
     refine Px.bkH ?_
     refine Px.bk ?_
     obtain rfl:=sm h
     exact Px.jn (tn4 q q q q)
   refine Px.sq<|W.rx [(2,_),(5,_),(8,_),(9,_)] (Vm q<|Rv (O.add (.lit q) (.k q))<|RunL.re (G1:=[(2,_),(5,_),(8,_),(35,_)]) (tn4 q q q q)<|Va q<|Fi (tn4 q q q q)) ?_
   obtain rfl:=sm h
   exact Px.go (tn4 q q q q)
  ·replace h:=cndF hb15 h
   refine W.xi ?_
   refine Px.sqE ?_
   obtain rfl:=sm h
   exact Px.x1 (.n q .nil)
 refine Px.bkH ?_
 refine Px.sq<|W.sq' ?_
 obtain ⟨x33,hx33,h⟩:=bnd h
 refine W.rx [(5,_)] (Rv (O.mv (.own q))<|RunL.ef (G2:=[(75,.tup []),(5,oR eItem x33)]) q (EO.call q q (CallOk.lv (en:=eItem) (L:=x13) (L':=x33) (G2:=[]) (ys:=[.clo (.func 71) [] []]) (args:=[.clo (.func 71) [] []]) q q q q (.c (View.cl .nil) .nil) (sort70 call71 hx33 (fun a b v h=>con71 a b v h)) call70 .nil q q .nil q))<|Fi (.n q .nil)) ?_
 refine Px.sq<|W.sq' ?_
 obtain ⟨x34,hx34,h⟩:=bnd h
 refine W.rx [(4,_)] (Rv (O.mv (.own q))<|RunL.ef (G2:=[(77,oR eItem x34)]) q (EO.call q q (CallOk.tk (en:=eItem) (L:=x33) (G2:=[]) q q q q (comp72 hx34) call72 .nil q q))<|RunL.ea (G2:=[]) q (EO.aR q q (.own q) q .nil q q)<|Fi (.n q .nil)) ?_
 refine Px.sq<|W.rt ?_
 obtain rfl:=sm h
 exact Px.fin (Fin.ro (.o q .nil) q (ode (by kernel_rfl)) (.no (.no .nil)) q (.inr q))
theorem con75 (a0:Grammar) (a1:(List Item)) (a2:Int) (r:(List Item)) (h:pf75 a0 a1 a2=some r):Con Try.prog 75 [.agg (eGrammar_0.cells a0),iR eItem a1,I64 a2] [none,none,none] (oR eItem r):=by
 unfold pf75 at h
 refine Con.go (N:=⟨38,[]⟩) Try.func75 q q q q (W.fin ?_)
 refine W.st [(0,.agg (eGrammar_0.cells a0)),(1,iR eItem a1),(2,I64 a2)] ?_
 refine W.sq'<|W.rx [(1,_),(2,_),(3,_)] (Rv (O.box (.aggF q q) q)<|Rv (O.az .knil)<|Fi (tn3 q q q)) ?_
 refine Px.sq<|W.sq' ?_
 refine W.rx [(1,_),(2,_),(3,_),(7,_)] (Rv (O.az .knil)<|Fi (tn4 q q q q)) ?_
 refine Px.sq<|W.sq' ?_
 refine W.sq'<|W.rx [(2,_),(3,_),(7,_),(11,_),(12,_),(13,_)] (Rv (O.mv (.imm q))<|Rv (O.lenI (.imm q) sl66)<|Rv (O.mv (.k q))<|Fi (tn6 q q q q q q)) ?_
 refine Px.sq<|W.bk ?_
 obtain ⟨x2,hl,h⟩:=bnd h
 refine W.tr (G1:=[(2,_),(3,_),(7,oR eItem ([]:List Item)),(11,_),(12,_),(13,_)]) (.n q (.n q (.w q q .nilOwn (tn3 q q q)))) ?_
 refine W.lp1 (s:=(([]:List Item),0)) (fun (s1:List Item × Int)=>[(2,I64 a2),(3,.obj (eGrammar_0.cells a0)),(7,oR eItem s1.1),(11,iR eItem a1),(12,I64 (a1.length:Int)),(13,I64 s1.2)]) 0 (fun (x2:List Item)=>[(7,oR eItem x2)]) hl (fun s1 o h=>?_) ?_
 ·clear hl
  refine W.sq'<|W.rx [(2,_),(3,_),(7,_),(11,_),(12,_),(13,_),(14,_)] (Rv (O.lss (.lit q) (.lit q))<|Fi (tn7 q q q q q q q)) ?_
  refine Px.sq<|W.sq' ?_
  refine W.cnd q (fun hb4=>?_) (fun hb4=>?_)
  ·replace h:=cndT hb4 h
   refine W.sk<|Px.sq ?_
   refine W.sq' ?_
   obtain ⟨j5,hj,h⟩:=bnd h
   refine W.jn [(2,I64 a2),(3,.obj (eGrammar_0.cells a0)),(7,oR eItem j5),(11,iR eItem a1),(12,I64 (a1.length:Int)),(13,I64 s1.2)] ?_ ?_
   ·clear h; have h:=hj; clear hj
    refine W.bk<|W.sq' ?_
    obtain ⟨x6,hx6,h⟩:=bnd h
    refine W.rx [(2,_),(3,_),(7,_),(9,_),(11,_),(12,_),(13,_)] (Rv (O.ixI (.imm q) (.lit q) sl66 hx6)<|Rv (O.ldIN (cs':=[I64 x6.Prod,I64 x6.Dot]) (.iptr q) at72 q q)<|Rv (O.al (cs:=[I64 0,I64 0]) ze72 q q)<|RunL.sO (G2:=[(2,I64 a2),(3,.obj (eGrammar_0.cells a0)),(7,oR eItem s1.1),(9,.obj [I64 x6.Prod,I64 x6.Dot]),(11,iR eItem a1),(12,I64 (a1.length:Int)),(13,I64 s1.2)]) (cs2:=[I64 x6.Prod,I64 x6.Dot]) q (.obj q) (.aggF q q) q sz72 q q q q (.n q q (.n q q (.n q q (.b q (.n q q (.n q q (.n q q .nil)))))))<|Fi (tn7 q q q q q q q)) ?_
    refine Px.sq<|W.sq' ?_
    obtain ⟨x7,hx7,h⟩:=bnd h
    refine W.rx [(2,_),(3,_),(7,_),(9,_),(10,_),(11,_),(12,_),(13,_)] (Rv (O.ldON (cs':=[iR eTok a0.Toks,iR eNon a0.Nons,iR eProd_0 a0.Prods,SS a0.Pro,SS a0.Tail]) q (.obj q) at38 q q)<|Rv (O.ldON (cs':=[I64 x6.Prod,I64 x6.Dot]) q (.obj q) at72 q q)<|Rc (PC.go (.cc (.aggF q q) (.cc (.aggF q q) .nil)) (con32 a0 x6 _ hx7) call32 q)<|Va q<|Fi (tn8 q q q q q q q q)) ?_
    refine Px.sq<|W.sq' ?_
    obtain ⟨c9,hj,h⟩:=bnd h
    refine W.rx [(2,I64 a2),(3,.obj (eGrammar_0.cells a0)),(7,oR eItem s1.1),(9,.obj [I64 x6.Prod,I64 x6.Dot]),(11,iR eItem a1),(12,I64 (a1.length:Int)),(13,I64 s1.2),(26,BB c9)] ?_ ?_
    ·refine Vm q<|Rv (O.geq (.lit q) (.k q))<|Rv (O.mv (.lit q)) ?_
     rcases cnd hj with ⟨hb8,hj⟩ | ⟨hb8,hj⟩
     ·obtain rfl:=sm hj
      exact RunL.v (O.mv (.lit q)) q q (.yb q q hb8)<|RunL.v (O.mv (.lit q)) q q (.yb q q hb8)<|RunL.v (O.eql (.lit q) (.lit q)) q q (.yb q q hb8)<|Rv (O.pkT (.lit q) hb8 (.lit q))<|Fi (tn8 q q q q q q q q)
     ·obtain rfl:=sm hj
      exact RunL.ps q q hb8 q q<|RunL.ps q q hb8 q q<|RunL.ps q q hb8 q q<|Rv (O.pkF (.lit q) hb8 (.k q))<|Fi (tn8 q q q q q q q q)
    refine Px.sq ?_
    obtain ⟨j10,hj,h⟩:=bnd h
    refine W.jn [(2,I64 a2),(3,.obj (eGrammar_0.cells a0)),(7,oR eItem j10),(11,iR eItem a1),(12,I64 (a1.length:Int)),(13,I64 s1.2)] ?_ ?_
    ·clear h; have h:=hj; clear hj
     refine W.cnd q (fun hb11=>?_) (fun hb11=>?_)
     ·replace h:=cndT hb11 h
      obtain ⟨x12,hx12,h⟩:=bnd h
      refine W.rx [(2,_),(3,_),(7,_),(11,_),(12,_),(13,_)] (Rv (O.mv (.own q))<|Rv (O.fO q (.obj q) fd72_0 q)<|Rv (O.ldO (y:=I64 x6.Prod) q (.ptr q) ct3 q q)<|Rv (O.fO q (.obj q) fd72_1 q)<|Rv (O.ldO (y:=I64 x6.Dot) q (.ptr q) ct3 q q)<|Rv (O.add (.lit q) (.k q))<|Rv (O.bu (cs:=[I64 x6.Prod,I64 (w64 (x6.Dot+1))]) sc72 ze72 q q q)<|RunL.vi (x:=iR eItem [(⟨x6.Prod,w64 (x6.Dot+1)⟩:Item)]) (O.bs (ys:=[.agg [I64 x6.Prod,I64 (w64 (x6.Dot+1))]]) eItem [(⟨x6.Prod,w64 (x6.Dot+1)⟩:Item)] sl66 q q q q q q zt72 q q) q q .none<|Rv (O.ap (en:=eItem) (r:=x12) (.brw q) q (.imm q) .i ap66 q hx12)<|RunL.ea (G2:=[(2,I64 a2),(3,.obj (eGrammar_0.cells a0)),(11,iR eItem a1),(12,I64 (a1.length:Int)),(13,I64 s1.2)]) q (EO.aP q q (.pend q) q q q (.n q q (.n q q (.n q q (.n q q (.n q q .nil))))) q q)<|Fi (tn6 q q q q q q)) ?_
      obtain rfl:=sm h
      exact Px.jn (tn6 q q q q q q)
     ·replace h:=cndF hb11 h
      refine W.sk ?_
      obtain rfl:=sm h
      exact Px.jn (tn6 q q q q q q)
    refine Px.bk ?_
    obtain rfl:=sm h
    exact Px.jn (tn6 q q q q q q)
   refine Px.sq<|W.rx [(2,_),(3,_),(7,_),(11,_),(12,_),(13,_)] (Rv (O.add (.lit q) (.k q))<|RunL.re (G1:=[(2,_),(3,_),(7,_),(11,_),(12,_),(36,_)]) (tn6 q q q q q q)<|Vm q<|Fi (tn6 q q q q q q)) ?_
   obtain rfl:=sm h
   exact Px.go (tn6 q q q q q q)
  ·replace h:=cndF hb4 h
   refine W.xi ?_
   refine Px.sqE ?_
   obtain rfl:=sm h
   exact Px.x1 (.n q .nil)
 refine Px.bkH ?_
 refine Px.sq<|W.sq' ?_
 refine W.rx [(6,_)] (Rv (O.mv (.own q))<|RunL.ea (G2:=[]) q (EO.aR q q (.brw q) q .nil q q)<|Fi (.n q .nil)) ?_
 refine Px.sq<|W.rt ?_
 obtain rfl:=sm h
 exact Px.fin (Fin.ro (.o q .nil) q (ode (by kernel_rfl)) (.no (.no (.no .nil))) q (.inr q))
end Go.Proofs
namespace Go.Own
open Go Go.ChangeShapes Go.WideShapes Go.ChangeAt Go.RowKit
variable {H:Type}{enc:TypeId × Value->H}{P:Program}
theorem post_old {f:Func}{s:ChangeSpec}{apart fresh handsOn again:Bool}{W W':World}{args:Array Value}{v:Value}{ds gs:List (DataW H)}{before pa pv:List MemPlace}
  (hW:DataW.Whole enc P f.params.toList s.vars apart W args.toList ds gs before) (hk:Kp W W') (hps:before=pa++pv)
  (hres:∀ (b:Nat) (sp:Nat->Bool) (hd:Bool),DataW.TrodAll enc P W' b sp hd f.resultTypes.toList (v.resultList f.resultTypes.size) (s.fn H (ds++gs)).results [])
  (hargs:∀ sp:Nat->Bool,(∀ p∈before,sp p.block=true)->DataW.TrodAll enc P W' 0 sp true f.params.toList args.toList (s.fn H (ds++gs)).args pa)
  (hvars:∀ sp:Nat->Bool,(∀ p∈before,sp p.block=true)->DataW.TrodVars enc P W' sp s.vars (s.fn H (ds++gs)).vars pv)
  (hok:∀ (j:Nat) (t:TypeId) (r:Value),f.resultTypes[j]?=some t->(v.resultList f.resultTypes.size)[j]?=some r->Value.okWide P W' .any 0 t r) :
  s.post enc P f apart fresh handsOn again W args v W':=by
 subst hps
 have hlt:∀ p∈pa++pv,p.block<W.heap.size:=fun p hp=>hW.lt p hp
 have hsp:∀ p∈pa++pv,(fun b=>decide (b<W.heap.size)) p.block=true:=fun p hp=>decide_eq_true (hlt p hp)
 have hWh:=hW
 obtain ⟨_,_,_,_,_,hz,hn⟩:=hWh
 have ht:=trodAll_append (hargs (fun _=>true) (fun _ _=>rfl)) (hres 0 (fun _=>true) true)
 refine ⟨ds,gs,pa++pv,[],pa,pv,hW,hres _ _ _,hargs _ hsp,hvars _ hsp,hk.kept _,fun _=>⟨hok,_,_,pa++pv,⟨_,pv,ht,hvars _ (fun _ _=>rfl),rfl,fun b off hp=>?_,hn⟩,fun p hp _=>hp⟩⟩
 rw [hk.fz _ (hlt _ hp)]
 exact hz b off hp
end Go.Own
namespace Go.Proofs
open Go Go.Own
set_option maxRecDepth 100000
theorem uI:Try.prog.underlying 3=some (.int .i64):=by kernel_rfl
def okI (n:Int):Prop:=(Lit.int .i64 n).wf=true
def okL {α:Type}(p:α->Prop) (l:List α):Prop:=l.length<=maxLen/\∀ x∈l,p x
theorem aI:Ar Try.prog eI 3 okI:=.int uI (by kernel_rfl) fun _=>rfl
theorem uLI:Try.prog.underlying 27=some (.slice 3):=by kernel_rfl
theorem aLI:Ar Try.prog (eM eI) 27 (okL okI):=aI.slice (t:=27) uLI (by kernel_rfl) (by decide)
theorem pLaid:laidOutB Try.prog=true:=by kernel_rfl
theorem pMaps:mapsRowed Try.prog=true:=by kernel_rfl
theorem pFull:((List.range Try.prog.types.size).all fun t=>match Try.prog.underlying t with | some (.slice e)=>decide (0<Try.prog.cellsOf e) | _=>true)=true:=by kernel_rfl
set_option linter.unusedVariables false
theorem fd97_0:fldT Try.prog 97 0 0 66=true:=by kernel_rfl
theorem call84:callT Try.prog 84=true:=by kernel_rfl
theorem call81:callT Try.prog 81=true:=by kernel_rfl
theorem ze66:(Try.prog.info? 66).bind (·.zero)=some (.slice none 0 0):=by kernel_rfl
theorem sz66:sizeT Try.prog 66 1=true:=by kernel_rfl
theorem sl85:slT Try.prog 85 97 2=true:=by kernel_rfl
theorem at97:aggT Try.prog 97 2=true:=by kernel_rfl
theorem call83:callT Try.prog 83=true:=by kernel_rfl
theorem call82:callT Try.prog 82=true:=by kernel_rfl
theorem ze97:(Try.prog.info? 97).bind (·.zero)=some (.agg #[.slice none 0 0,.slice none 0 0]):=by kernel_rfl
theorem sc97:structT Try.prog 97 [(0,1),(1,1)]=true:=by kernel_rfl
theorem zt97:zeroT Try.prog 97 2=true:=by kernel_rfl
theorem call79:callT Try.prog 79=true:=by kernel_rfl
theorem call48:callT Try.prog 48=true:=by kernel_rfl
theorem ap85:appT Try.prog 85 97 2 48=true:=by kernel_rfl
theorem fd97_1:fldT Try.prog 97 1 1 95=true:=by kernel_rfl
theorem ct95:cellT Try.prog 95=true:=by kernel_rfl
theorem ze106:(Try.prog.info? 106).bind (·.zero)=some (.agg #[.int .i64 0,.int .i64 0]):=by kernel_rfl
theorem sc106:structT Try.prog 106 [(0,1),(1,1)]=true:=by kernel_rfl
theorem zt106:zeroT Try.prog 106 2=true:=by kernel_rfl
theorem sl95:slT Try.prog 95 106 2=true:=by kernel_rfl
theorem ap95:appT Try.prog 95 106 2 16=true:=by kernel_rfl
theorem sz95:sizeT Try.prog 95 1=true:=by kernel_rfl
theorem at106:aggT Try.prog 106 2=true:=by kernel_rfl
theorem sz106:sizeT Try.prog 106 2=true:=by kernel_rfl
theorem fd106_0:fldT Try.prog 106 0 0 3=true:=by kernel_rfl
theorem fd106_1:fldT Try.prog 106 1 1 3=true:=by kernel_rfl
theorem call103:callT Try.prog 103=true:=by kernel_rfl
theorem call85:callT Try.prog 85=true:=by kernel_rfl
theorem eq106:eqAT Try.prog 106 [.i .i64,.i .i64]=true:=by kernel_rfl
theorem call44:callT Try.prog 44=true:=by kernel_rfl
theorem call78:callT Try.prog 78=true:=by kernel_rfl
theorem call52:callT Try.prog 52=true:=by kernel_rfl
theorem call43:callT Try.prog 43=true:=by kernel_rfl
theorem con81 (a0:List Item) (r:List Item) (h:pf81 a0=some r):Con Try.prog 81 [iR eItem a0] [none] (oR eItem r):=Con.cloneS (fun w ad n c news h1 h2 h3 h4=>clS81 w ad n c news h1 h2 h3 h4) (fun w n c=>clN81 w n c) h
theorem con84 (a0:(List Item)) (a1:(List Item)) (r:Bool) (h:pf84 a0 a1=some r):Con Try.prog 84 [iR eItem a0,iR eItem a1] [none,none] (BB r):=by
 unfold pf84 at h
 refine Con.go (N:=⟨26,[]⟩) Try.func84 q q q q (W.fin ?_)
 refine W.st [(0,iR eItem a0),(1,iR eItem a1)] ?_
 refine W.sq'<|W.rx [(0,_),(1,_)] (Vk q<|Fi (tn2 q q)) ?_
 refine Px.sq<|W.sq' ?_
 refine W.sq'<|W.rx [(0,_),(1,_),(10,_)] (Rv (O.mv (.imm q))<|Rv (O.lenI (.imm q) sl66)<|Rv (O.mv (.imm q))<|Rv (O.lenI (.imm q) sl66)<|Rv (O.neq (.lit q) (.lit q))<|Fi (tn3 q q q)) ?_
 refine Px.sq<|W.cnd q (fun hb1=>?_) (fun hb1=>?_)
 ·replace h:=cndT hb1 h
  refine W.sq'<|W.rx [(4,_)] (Vk q<|Fi (.n q .nil)) ?_
  refine Px.sq<|W.rt ?_
  refine Px.sqR ?_
  obtain rfl:=sm h
  exact Px.fin (Fin.ro (.f q q .nil) q (ode (by kernel_rfl)) (.no (.no .nil)) q (.inr q))
 ·replace h:=cndF hb1 h
  refine W.sk<|Px.sq ?_
  refine W.sq'<|W.sq' ?_
  refine W.rx [(0,_),(1,_),(12,_),(13,_)] (Rv (O.mv (.imm q))<|Rv (O.lenI (.imm q) sl66)<|Rv (O.mv (.k q))<|Fi (tn4 q q q q)) ?_
  refine Px.sq<|W.bk ?_
  obtain ⟨x3,hl,h⟩:=bnd h
  refine W.tr (G1:=[(0,_),(1,_),(12,_),(13,_)]) (tn4 q q q q) ?_
  refine W.lp2 (s:=0) (fun (s2:Int)=>[(0,iR eItem a0),(1,iR eItem a1),(12,I64 (a0.length:Int)),(13,I64 s2)]) 0 (fun (x4:Unit)=>[]) (fun (x5:Bool)=>[(4,BB x5)]) hl (fun s2 o h=>?_) (fun x4 hx=>?_) (fun x5 hx=>?_)
  ·clear hl
   refine W.sq'<|W.rx [(0,_),(1,_),(12,_),(13,_),(14,_)] (Rv (O.lss (.lit q) (.lit q))<|Fi (tn5 q q q q q)) ?_
   refine Px.sq<|W.sq' ?_
   refine W.cnd q (fun hb6=>?_) (fun hb6=>?_)
   ·replace h:=cndT hb6 h
    refine W.sk<|Px.sq ?_
    refine W.sq'<|W.bk ?_
    refine W.sq'<|W.rx [(0,_),(1,_),(5,_),(12,_),(13,_)] (Vm q<|Va q<|Fi (tn5 q q q q q)) ?_
    refine Px.sq<|W.sq' ?_
    obtain ⟨x7,hx7,h⟩:=bnd h
    obtain ⟨x8,hx8,h⟩:=bnd h
    refine W.rd [[],[],[0,1],[0,1,2],[],[],[4,5],[4,5,6],rn 0 8 []] [(0,_),(1,_),(12,_),(13,_),(24,_)] mixo (by kernel_rfl) (Dv 0 (O.mv (.imm q))<|Dv 1 (O.mv (.lit q))<|Dv 2 (O.ixI (.imm q) (.lit q) sl66 hx7)<|Dv 3 (O.ldIN (cs':=[I64 x7.Prod,I64 x7.Dot]) (.iptr q) at72 q q)<|Dv 4 (O.mv (.imm q))<|Dv 5 (O.mv (.lit q))<|Dv 6 (O.ixI (.imm q) (.lit q) sl66 hx8)<|Dv 7 (O.ldIN (cs':=[I64 x8.Prod,I64 x8.Dot]) (.iptr q) at72 q q)<|Dv 8 (O.neqA (va:=[.int .i64 x7.Prod,.int .i64 x7.Dot]) (vb:=[.int .i64 x8.Prod,.int .i64 x8.Dot]) (.aggF q q) (.aggF q q) q q eq72)<|DL.fin q q q (tn5 q q q q q)) ?_
    refine Px.sq<|W.cnd q (fun hb9=>?_) (fun hb9=>?_)
    ·replace h:=cndT hb9 h
     refine W.sq'<|W.rx [(4,_)] (Vk q<|Fi (.n q .nil)) ?_
     refine Px.sq<|W.rt ?_
     refine Px.bkR ?_
     refine Px.sqR ?_
     obtain rfl:=sm h
     exact Px.r2 (.n q .nil)
    ·replace h:=cndF hb9 h
     refine W.sk<|Px.bk ?_
     refine Px.sq<|W.rx [(0,_),(1,_),(12,_),(13,_)] (Rv (O.add (.lit q) (.k q))<|RunL.re (G1:=[(0,_),(1,_),(12,_),(25,_)]) (tn4 q q q q)<|Vm q<|Fi (tn4 q q q q)) ?_
     obtain rfl:=sm h
     exact Px.go (tn4 q q q q)
   ·replace h:=cndF hb6 h
    refine W.xi ?_
    refine Px.sqE ?_
    obtain rfl:=sm h
    exact Px.x2 .nil
  ·subst hx
   refine Px.bkH ?_
   refine Px.sq<|W.sq' ?_
   refine W.rx [(4,_)] (Vk q<|Fi (.n q .nil)) ?_
   refine Px.sq<|W.rt ?_
   obtain rfl:=sm h
   exact Px.fin (Fin.ro (.f q q .nil) q (ode (by kernel_rfl)) (.no (.no .nil)) q (.inr q))
  ·subst hx
   refine Px.bkR ?_
   refine Px.sqR ?_
   obtain rfl:=sm h
   exact Px.fin (Fin.ro (.f q q .nil) q (ode (by kernel_rfl)) (.no (.no .nil)) q (.inr q))
theorem con83 (a0:State) (c0:(List Item)) (r:Bool) (h:pf83 a0 c0=some r):Con Try.prog 83 [.agg [iR eItem a0.Kernel,iR eMove a0.Moves],.iptr ([iR eItem c0])] [none,none] (BB r):=by
 unfold pf83 at h
 refine Con.go (N:=⟨8,[]⟩) Try.func83 q q q q (W.fin ?_)
 refine W.st [(0,.agg [iR eItem a0.Kernel,iR eMove a0.Moves]),(1,.iptr ([iR eItem c0]))] ?_
 refine W.sq'<|W.rx [(1,_),(2,_)] (Rv (O.box (.aggF q q) q)<|Vk q<|Fi (tn2 q q)) ?_
 refine Px.sq<|W.sq' ?_
 obtain ⟨x1,hx1,h⟩:=bnd h
 refine W.rx [(3,_)] (Rv (O.fO q (.obj q) fd97_0 q)<|Rv (O.ldO (y:=iR eItem a0.Kernel) q (.ptr q) ct66 q q)<|Rv (O.ldI (x:=iR eItem c0) (.iptr q) ct66 q)<|Rc (PC.go (.cc (.imm q) (.cc (.imm q) .nil)) (con84 a0.Kernel c0 _ hx1) call84 q)<|Va q<|Fi (.n q .nil)) ?_
 refine Px.sq<|W.rt ?_
 obtain rfl:=sm h
 exact Px.fin (Fin.ro (.f q q .nil) q (ode (by kernel_rfl)) (.no (.no .nil)) q (.inr q))
theorem con82_83 (a0:(List State)) (a1_0:(List Item)) (r:Int) (h:pf82_83 a0 a1_0=some r):Con Try.prog 82 [iR eState_0 a0,.clo (.func 83) [] [.iptr ([iR eItem a1_0])]] [none,none] (I64 r):=by
 unfold pf82_83 at h
 refine Con.go (N:=⟨19,[]⟩) Try.func82 q q q q (W.fin ?_)
 refine W.st [(0,iR eState_0 a0),(1,.clo (.func 83) [] [.iptr ([iR eItem a1_0])])] ?_
 refine W.sq'<|W.rx [(0,_),(1,_)] (Vk q<|Fi (tn2 q q)) ?_
 refine Px.sq<|W.sq' ?_
 refine W.sq'<|W.rx [(0,_),(1,_),(7,_),(8,_)] (Rv (O.mv (.imm q))<|Rv (O.lenI (.imm q) sl85)<|Rv (O.mv (.k q))<|Fi (tn4 q q q q)) ?_
 refine Px.sq<|W.bk ?_
 obtain ⟨x2,hl,h⟩:=bnd h
 refine W.tr (G1:=[(0,_),(1,_),(7,_),(8,_)]) (tn4 q q q q) ?_
 refine W.lp2 (s:=0) (fun (s1:Int)=>[(0,iR eState_0 a0),(1,.clo (.func 83) [] [.iptr ([iR eItem a1_0])]),(7,I64 (a0.length:Int)),(8,I64 s1)]) 0 (fun (x3:Unit)=>[]) (fun (x4:Int)=>[(4,I64 x4)]) hl (fun s1 o h=>?_) (fun x3 hx=>?_) (fun x4 hx=>?_)
 ·clear hl
  refine W.sq'<|W.rx [(0,_),(1,_),(7,_),(8,_),(9,_)] (Rv (O.lss (.lit q) (.lit q))<|Fi (tn5 q q q q q)) ?_
  refine Px.sq<|W.sq' ?_
  refine W.cnd q (fun hb5=>?_) (fun hb5=>?_)
  ·replace h:=cndT hb5 h
   refine W.sk<|Px.sq ?_
   refine W.sq'<|W.bk ?_
   refine W.sq'<|W.rx [(0,_),(1,_),(5,_),(7,_),(8,_)] (Vm q<|Va q<|Fi (tn5 q q q q q)) ?_
   refine Px.sq<|W.sq' ?_
   obtain ⟨x6,hx6,h⟩:=bnd h
   obtain ⟨x7,hx7,h⟩:=bnd h
   refine W.rx [(0,_),(1,_),(5,_),(7,_),(8,_),(16,_)] (Rv (O.mv (.clo q))<|Rv (O.mv (.imm q))<|Vm q<|Rv (O.ixI (.imm q) (.lit q) sl85 hx6)<|Rv (O.ldIN (cs':=[iR eItem x6.Kernel,iR eMove x6.Moves]) (.iptr q) at97 q q)<|Rc (PC.gc (.clo q) (.cc (.aggF q q) .nil) (con83 x6 a1_0 _ hx7) call83 q)<|Fi (tn6 q q q q q q)) ?_
   refine Px.sq<|W.cnd q (fun hb8=>?_) (fun hb8=>?_)
   ·replace h:=cndT hb8 h
    refine W.sq'<|W.rx [(4,_)] (Vm q<|Va q<|Fi (.n q .nil)) ?_
    refine Px.sq<|W.rt ?_
    refine Px.bkR ?_
    refine Px.sqR ?_
    obtain rfl:=sm h
    exact Px.r2 (.n q .nil)
   ·replace h:=cndF hb8 h
    refine W.sk<|Px.bk ?_
    refine Px.sq<|W.rx [(0,_),(1,_),(7,_),(8,_)] (Rv (O.add (.lit q) (.k q))<|RunL.re (G1:=[(0,_),(1,_),(7,_),(18,_)]) (tn4 q q q q)<|Vm q<|Fi (tn4 q q q q)) ?_
    obtain rfl:=sm h
    exact Px.go (tn4 q q q q)
  ·replace h:=cndF hb5 h
   refine W.xi ?_
   refine Px.sqE ?_
   obtain rfl:=sm h
   exact Px.x2 .nil
 ·subst hx
  refine Px.bkH ?_
  refine Px.sq<|W.sq' ?_
  refine W.rx [(4,_)] (Vk q<|Fi (.n q .nil)) ?_
  refine Px.sq<|W.rt ?_
  obtain rfl:=sm h
  exact Px.fin (Fin.ro (.f q q .nil) q (ode (by kernel_rfl)) (.no (.no .nil)) q (.inr q))
 ·subst hx
  refine Px.bkR ?_
  refine Px.sqR ?_
  obtain rfl:=sm h
  exact Px.fin (Fin.ro (.f q q .nil) q (ode (by kernel_rfl)) (.no (.no .nil)) q (.inr q))
theorem con48 (a0:(List State)) (a1:(List Item)) (r:Int) (h:pf48 a0 a1=some r):Con Try.prog 48 [iR eState_0 a0,iR eItem a1] [none,none] (I64 r):=by
 unfold pf48 at h
 refine Con.go (N:=⟨15,[]⟩) Try.func48 q q q q (W.fin ?_)
 refine W.st [(0,iR eState_0 a0),(1,iR eItem a1)] ?_
 refine W.sq'<|W.rx [(0,_),(1,_)] (Vk q<|Fi (tn2 q q)) ?_
 refine Px.sq<|W.sq' ?_
 obtain ⟨x1,hx1,h⟩:=bnd h
 refine W.rx [(0,_),(5,_)] (Rv (O.mv (.imm q))<|Rc (PC.go (.cc (.imm q) .nil) (con81 a1 _ hx1) call81 q)<|Rv (O.al (cs:=[.nils]) ze66 q q)<|RunL.ef (G2:=[(0,iR eState_0 a0),(5,.obj [oR eItem x1])]) q (EO.stB (y':=oR eItem x1) (cs2:=[oR eItem x1]) q q (.obj q) (.own q) (.r q .nil) .refl q sz66 q q q q q (.n q q (.b q .nil)))<|Fi (tn2 q q)) ?_
 refine Px.sq<|W.sq' ?_
 obtain ⟨x2,hx2,h⟩:=bnd h
 refine W.rx [(0,_),(5,_)] (Rv (O.ldO (y:=.brw eItem.z ⟨5,[0]⟩ x1.length) q (.obj q) ct66 q q)<|RunL.ef (G2:=[(9,.tup []),(5,.obj [oR eItem x2]),(0,iR eState_0 a0)]) q (EO.call q q (CallOk.lc (en:=eItem) (L:=x1) (L':=x2) (G2:=[(0,iR eState_0 a0)]) (ys:=[.clo (.func 71) [] []]) (args:=[.clo (.func 71) [] []]) q q q q (.c (View.cl .nil) .nil) (sort70 call71 hx2 (fun a b v h=>con71 a b v h)) call70 (.n q .nil) q q (.n q .nil) q))<|Fi (tn2 q q)) ?_
 refine Px.sq<|W.sq' ?_
 obtain ⟨x3,hx3,h⟩:=bnd h
 refine W.rx [(0,_),(5,_)] (Rv (O.ldO (y:=.brw eItem.z ⟨5,[0]⟩ x2.length) q (.obj q) ct66 q q)<|RunL.ef (G2:=[(11,oR eItem x3),(0,iR eState_0 a0),(5,.obj [.dead])]) q (EO.call q q (CallOk.tc (en:=eItem) (L:=x2) (G2:=[(0,iR eState_0 a0),(5,.obj [.dead])]) q q q q (comp72 hx3) call72 (tn2 q q) q q))<|RunL.ef (G2:=[(0,iR eState_0 a0),(5,.obj [oR eItem x3])]) q (EO.stB (y':=oR eItem x3) (cs2:=[oR eItem x3]) q q (.obj q) (.own q) (.r q .nil) .refl q sz66 q q q q q (.n q q (.b q .nil)))<|Fi (tn2 q q)) ?_
 refine Px.sq<|W.sq' ?_
 obtain ⟨x4,hx4,h⟩:=bnd h
 refine W.rx [(4,_)] (Rv (O.mv (.imm q))<|Rv (O.mf q)<|Rc (PC.vw (ys:=[iR eState_0 a0,.clo (.func 83) [] [.ptr ⟨5,[]⟩ 0]]) q (.s (.c (View.cl (.c (View.p0 q q) .nil)) .nil)) (con82_83 a0 x3 _ hx4) call82 q)<|Va q<|Fi (.n q .nil)) ?_
 refine Px.sq<|W.rt ?_
 obtain rfl:=sm h
 exact Px.fin (Fin.ro (.f q q .nil) q (ode (by kernel_rfl)) (.no (.no .nil)) q (.inr q))
theorem con79 (a0:Grammar) (r:(List Int)) (h:pf79 a0=some r):Con Try.prog 79 [.agg (eGrammar_0.cells a0)] [none] (iR eI r):=by
 unfold pf79 at h
 refine Con.go (N:=⟨30,[]⟩) Try.func79 q q q q (W.fin ?_)
 refine W.st [(0,.agg (eGrammar_0.cells a0))] ?_
 refine W.sq'<|W.rx [(1,_)] (Rv (O.box (.aggF q q) q)<|Rv (O.az .knil)<|Fi (.n q .nil)) ?_
 refine Px.sq<|W.sq' ?_
 refine W.rx [(1,_),(3,_)] (Rv (O.az .knil)<|Fi (tn2 q q)) ?_
 refine Px.sq<|W.sq' ?_
 refine W.sq'<|W.rx [(1,_),(3,_),(8,_),(9,_)] (Rv (O.fO q (.obj q) fd38_0 q)<|Rv (O.ldO (y:=iR eTok a0.Toks) q (.ptr q) ct34 q q)<|Rv (O.lenI (.imm q) sl34)<|Rv (O.mv (.k q))<|Fi (tn4 q q q q)) ?_
 refine Px.sq<|W.bk ?_
 obtain ⟨x2,hl,h⟩:=bnd h
 refine W.tr (G1:=[(1,_),(3,oR eI ([]:List Int)),(8,_),(9,_)]) (.n q (.w q q .nilOwn (tn2 q q))) ?_
 refine W.lp1 (s:=(([]:List Int),0)) (fun (s1:List Int × Int)=>[(1,.obj (eGrammar_0.cells a0)),(3,oR eI s1.1),(8,I64 (a0.Toks.length:Int)),(9,I64 s1.2)]) 0 (fun (x2:List Int)=>[(1,.obj (eGrammar_0.cells a0)),(3,oR eI x2)]) hl (fun s1 o h=>?_) ?_
 ·clear hl
  refine W.sq'<|W.rx [(1,_),(3,_),(8,_),(9,_),(10,_)] (Rv (O.lss (.lit q) (.lit q))<|Fi (tn5 q q q q q)) ?_
  refine Px.sq<|W.sq' ?_
  refine W.cnd q (fun hb4=>?_) (fun hb4=>?_)
  ·replace h:=cndT hb4 h
   refine W.sk<|Px.sq ?_
   refine W.sq'<|W.bk ?_
   refine W.sq'<|W.rx [(1,_),(3,_),(4,_),(8,_),(9,_)] (Vm q<|Va q<|Fi (tn5 q q q q q)) ?_
   refine Px.sq ?_
   obtain ⟨x5,hx5,h⟩:=bnd h
   refine W.rx [(1,_),(3,_),(8,_),(9,_)] (Rv (O.mv (.own q))<|Vm q<|RunL.vi (x:=iR eI [s1.2]) (O.bs (ys:=[I64 s1.2]) eI [s1.2] sl27 q q q q q q zt3 q q) q q .none<|Rv (O.ap (en:=eI) (r:=x5) (.brw q) q (.imm q) .i ap27 q hx5)<|RunL.ea (G2:=[(1,.obj (eGrammar_0.cells a0)),(8,I64 (a0.Toks.length:Int)),(9,I64 s1.2)]) q (EO.aP q q (.pend q) q q q (.n q q (.n q q (.n q q .nil))) q q)<|Fi (tn4 q q q q)) ?_
   refine Px.bk ?_
   refine Px.sq<|W.rx [(1,_),(3,_),(8,_),(9,_)] (Rv (O.add (.lit q) (.k q))<|RunL.re (G1:=[(1,_),(3,_),(8,_),(16,_)]) (tn4 q q q q)<|Vm q<|Fi (tn4 q q q q)) ?_
   obtain rfl:=sm h
   exact Px.go (tn4 q q q q)
  ·replace h:=cndF hb4 h
   refine W.xi ?_
   refine Px.sqE ?_
   obtain rfl:=sm h
   exact Px.x1 (tn2 q q)
 refine Px.bkH ?_
 refine Px.sq<|W.sq' ?_
 refine W.sq'<|W.rx [(3,_),(19,_),(20,_)] (Rv (O.fO q (.obj q) fd38_1 q)<|Rv (O.ldO (y:=iR eNon a0.Nons) q (.ptr q) ct35 q q)<|Rv (O.lenI (.imm q) sl35)<|Rv (O.mv (.k q))<|Fi (tn3 q q q)) ?_
 refine Px.sq<|W.bk ?_
 obtain ⟨x7,hl,h⟩:=bnd h
 refine W.tr (G1:=[(3,_),(19,_),(20,_)]) (tn3 q q q) ?_
 refine W.lp1 (s:=(x2,0)) (fun (s6:List Int × Int)=>[(3,oR eI s6.1),(19,I64 (a0.Nons.length:Int)),(20,I64 s6.2)]) 2 (fun (x7:List Int)=>[(3,oR eI x7)]) hl (fun s6 o h=>?_) ?_
 ·clear hl
  refine W.sq'<|W.rx [(3,_),(19,_),(20,_),(21,_)] (Rv (O.lss (.lit q) (.lit q))<|Fi (tn4 q q q q)) ?_
  refine Px.sq<|W.sq' ?_
  refine W.cnd q (fun hb9=>?_) (fun hb9=>?_)
  ·replace h:=cndT hb9 h
   refine W.sk<|Px.sq ?_
   refine W.sq'<|W.bk ?_
   refine W.sq'<|W.rx [(3,_),(5,_),(19,_),(20,_)] (Vm q<|Va q<|Fi (tn4 q q q q)) ?_
   refine Px.sq ?_
   obtain ⟨x10,hx10,h⟩:=bnd h
   refine W.rx [(3,_),(19,_),(20,_)] (Rv (O.mv (.own q))<|Vm q<|Rv (O.add (.k q) (.lit q))<|RunL.vi (x:=iR eI [w64 (1000+s6.2)]) (O.bs (ys:=[I64 (w64 (1000+s6.2))]) eI [w64 (1000+s6.2)] sl27 q q q q q q zt3 q q) q q .none<|Rv (O.ap (en:=eI) (r:=x10) (.brw q) q (.imm q) .i ap27 q hx10)<|RunL.ea (G2:=[(19,I64 (a0.Nons.length:Int)),(20,I64 s6.2)]) q (EO.aP q q (.pend q) q q q (.n q q (.n q q .nil)) q q)<|Fi (tn3 q q q)) ?_
   refine Px.bk ?_
   refine Px.sq<|W.rx [(3,_),(19,_),(20,_)] (Rv (O.add (.lit q) (.k q))<|RunL.re (G1:=[(3,_),(19,_),(28,_)]) (tn3 q q q)<|Vm q<|Fi (tn3 q q q)) ?_
   obtain rfl:=sm h
   exact Px.go (tn3 q q q)
  ·replace h:=cndF hb9 h
   refine W.xi ?_
   refine Px.sqE ?_
   obtain rfl:=sm h
   exact Px.x1 (.n q .nil)
 refine Px.bkH ?_
 refine Px.sq<|W.sq' ?_
 refine W.rx [(2,_)] (Rv (O.mv (.own q))<|RunL.ea (G2:=[]) q (EO.aR q q (.brw q) q .nil q q)<|Fi (.n q .nil)) ?_
 refine Px.sq<|W.fz (G1:=[(2,iR eI x7)]) [2] (.z q q .zz .nil) ?_
 refine W.rt ?_
 obtain rfl:=sm h
 exact Px.fin (Fin.ro (.f q q .nil) q (ode (by kernel_rfl)) (.no .nil) q (.inr q))
theorem con44 (a0:Grammar) (r:(List State) × Int) (h:pf44 a0=some r):Con Try.prog 44 [.agg (eGrammar_0.cells a0)] [none] (.tup [iR eState_0 r.1,I64 r.2]):=by
 unfold pf44 at h
 refine Con.go (N:=⟨74,[]⟩) Try.func44 q q q q (W.fin ?_)
 refine W.st [(0,.agg (eGrammar_0.cells a0))] ?_
 refine W.sq'<|W.rx [(1,_)] (Rv (O.box (.aggF q q) q)<|Rv (O.az .knil)<|Vk q<|Fi (.n q .nil)) ?_
 refine Px.sq<|W.sq' ?_
 refine W.rx [(1,_),(4,_)] (Rv (O.bu (cs:=[I64 0,I64 0]) sc72 ze72 q q q)<|Rv (O.bsL (ys:=[.agg [I64 0,I64 0]]) (cs:=[I64 0,I64 0]) sl66 q q q q q zt72 q q)<|Rv (O.bu (cs:=[.brw 2 ⟨13,[]⟩ 1,.nils]) sc97 ze97 q q q)<|Rv (O.bsL (ys:=[.agg [.brw 2 ⟨13,[]⟩ 1,.nils]]) (cs:=[.brw 2 ⟨13,[]⟩ 1,.nils]) sl85 q q q q q zt97 q q)<|RunL.ea (G2:=[(1,.obj (eGrammar_0.cells a0))]) q (EO.aG (y':=oR eState_m [(⟨[(⟨0,0⟩:Item)],([]:List Move)⟩:State)]) q q (.own q) (.l q q (.l q q (.f (.f .nil)) (.f .nil)) .nil) (FzL.own (.z (hv:=Vw.rl (en:=eItem) (L:=[(⟨0,0⟩:Item)]) (cs':=[I64 0,I64 0]) q q) (.o .nil))) (.n q .nil) q q)<|Fi (tn2 q q)) ?_
 refine Px.sq<|W.sq' ?_
 obtain ⟨x1,hx1,h⟩:=bnd h
 refine W.rx [(1,_),(4,_),(5,_)] (Rv (O.ldON (cs':=[iR eTok a0.Toks,iR eNon a0.Nons,iR eProd_0 a0.Prods,SS a0.Pro,SS a0.Tail]) q (.obj q) at38 q q)<|Rc (PC.go (.cc (.aggF q q) .nil) (con79 a0 _ hx1) call79 q)<|Rv (O.az (.imm q))<|Fi (tn3 q q q)) ?_
 refine Px.sq<|W.sq' ?_
 refine W.sq'<|W.rx [(1,_),(4,_),(5,_),(6,_)] (Vk q<|Fi (tn4 q q q q)) ?_
 refine Px.sq<|W.bk ?_
 obtain ⟨x3,hl,h⟩:=bnd h
 refine W.tr (G1:=[(1,_),(4,_),(5,_),(6,_)]) (tn4 q q q q) ?_
 refine W.lp2 (s:=([(⟨[(⟨0,0⟩:Item)],([]:List Move)⟩:State)],0)) (fun (s2:List State × Int)=>[(1,.obj (eGrammar_0.cells a0)),(4,oR eState_m s2.1),(5,iR eI x1),(6,I64 s2.2)]) 0 (fun (x4:List State)=>[(4,oR eState_m x4)]) (fun (x5:List State × Int)=>[(2,iR eState_0 x5.1),(3,I64 x5.2)]) hl (fun s2 o h=>?_) (fun x4 hx=>?_) (fun x5 hx=>?_)
 ·clear hl
  refine W.sq'<|W.sq' ?_
  refine W.rx [(1,_),(4,_),(5,_),(6,_),(21,_)] (Vm q<|Rv (O.mv (.own q))<|Rv (O.lenO (.brw q) sl85)<|Rv (O.lss (.lit q) (.lit q))<|Fi (tn5 q q q q q)) ?_
  refine Px.sq<|W.cnd q (fun hb6=>?_) (fun hb6=>?_)
  ·replace h:=cndT hb6 h
   refine W.sk<|Px.sq ?_
   refine W.sq'<|W.bk ?_
   refine W.sq' ?_
   obtain ⟨x7,hx7,h⟩:=bnd h
   obtain ⟨x8,hx8,h⟩:=bnd h
   refine W.rd [[],[],[],[1,2],[1,2,3],[1,2,3,4],rn 0 6 [],rn 0 7 []] [(1,_),(4,_),(5,_),(6,_),(7,_)] mixo (by kernel_rfl) (Dv 0 (O.ldON (cs':=[iR eTok a0.Toks,iR eNon a0.Nons,iR eProd_0 a0.Prods,SS a0.Pro,SS a0.Tail]) q (.obj q) at38 q q)<|Dv 1 (O.mv (.own q))<|Dv 2 (O.mv (.lit q))<|Dv 3 (O.ixO (en:=eState_m) q (.brw q) (.lit q) sl85 hx7 q)<|Dv 4 (O.fE (en:=eState_m) q (.ptr q) fd97_0 hx7 q q)<|Dv 5 (O.ldE (en:=eState_m) (x':=iR eItem x7.Kernel) q (.ptr q) ct66 hx7 q q)<|Dc 6 (PC.go (.cc (.aggF q q) (.cc (.imm q) .nil)) (con36 a0 x7.Kernel _ hx8) call36 q)<|DL.bv 7 (G2:=[(1,.obj (eGrammar_0.cells a0)),(4,oR eState_m s2.1),(5,iR eI x1),(6,I64 s2.2)]) (EO.aR q q (.own q) q (.n q q (.n q q (.n q q (.n q q .nil)))) q q) q q q q (by kernel_rfl) (by kernel_rfl)<|DL.fin q q q (tn5 q q q q q)) ?_
   refine Px.sq<|W.sq' ?_
   refine W.rx [(1,_),(4,_),(5,_),(6,_),(7,_),(31,_),(32,_),(33,_)] (Rv (O.mv (.imm q))<|Rv (O.lenI (.imm q) sl27)<|Rv (O.mv (.k q))<|Fi (tn8 q q q q q q q q)) ?_
   refine Px.sq<|W.bk ?_
   obtain ⟨x10,hl,h⟩:=bnd h
   refine W.tr (G1:=[(1,_),(4,_),(5,_),(6,_),(7,_),(31,_),(32,_),(33,_)]) (tn8 q q q q q q q q) ?_
   refine W.lp2 (s:=(s2.1,0)) (fun (s9:List State × Int)=>[(1,.obj (eGrammar_0.cells a0)),(4,oR eState_m s9.1),(5,iR eI x1),(6,I64 s2.2),(7,oR eItem x8),(31,iR eI x1),(32,I64 (x1.length:Int)),(33,I64 s9.2)]) 2 (fun (x11:List State)=>[(1,.obj (eGrammar_0.cells a0)),(4,oR eState_m x11),(5,iR eI x1),(6,I64 s2.2)]) (fun (x12:List State × Int)=>[(2,iR eState_0 x12.1),(3,I64 x12.2)]) hl (fun s9 o h=>?_) (fun x11 hx=>?_) (fun x12 hx=>?_)
   ·clear hl
    refine W.sq'<|W.rx [(1,_),(4,_),(5,_),(6,_),(7,_),(31,_),(32,_),(33,_),(34,_)] (Rv (O.lss (.lit q) (.lit q))<|Fi (tn9 q q q q q q q q q)) ?_
    refine Px.sq<|W.sq' ?_
    refine W.cnd q (fun hb13=>?_) (fun hb13=>?_)
    ·replace h:=cndT hb13 h
     refine W.sk<|Px.sq ?_
     refine W.sq'<|W.bk ?_
     refine W.sq' ?_
     obtain ⟨x14,hx14,h⟩:=bnd h
     refine W.rx [(1,_),(4,_),(5,_),(6,_),(7,_),(9,_),(31,_),(32,_),(33,_)] (Rv (O.ixI (.imm q) (.lit q) sl27 hx14)<|Rv (O.ldI (x:=I64 x14) (.iptr q) ct3 q)<|Va q<|Fi (tn9 q q q q q q q q q)) ?_
     refine Px.sq<|W.sq' ?_
     obtain ⟨x15,hx15,h⟩:=bnd h
     refine W.rx [(1,_),(4,_),(5,_),(6,_),(7,_),(9,_),(10,_),(31,_),(32,_),(33,_)] (Rv (O.ldON (cs':=[iR eTok a0.Toks,iR eNon a0.Nons,iR eProd_0 a0.Prods,SS a0.Pro,SS a0.Tail]) q (.obj q) at38 q q)<|Rv (O.mv (.own q))<|Vm q<|Rc (PC.vw (ys:=[.agg (eGrammar_0.cells a0),.brw eItem.z ⟨7,[]⟩ x8.length,I64 x14]) q (.c (.ag (.s (.s (.s (.s (.s .nil)))))) (.c (.row q) (.s .nil))) (con75 a0 x8 x14 _ hx15) call75 q)<|RunL.ea (G2:=[(1,.obj (eGrammar_0.cells a0)),(4,oR eState_m s9.1),(5,iR eI x1),(6,I64 s2.2),(7,oR eItem x8),(9,I64 x14),(31,iR eI x1),(32,I64 (x1.length:Int)),(33,I64 s9.2)]) q (EO.aR q q (.own q) q (.n q q (.n q q (.n q q (.n q q (.n q q (.n q q (.n q q (.n q q (.n q q .nil))))))))) q q)<|Fi (tn10 q q q q q q q q q q)) ?_
     refine Px.sq<|W.sq' ?_
     refine W.sq'<|W.rx [(1,_),(4,_),(5,_),(6,_),(7,_),(9,_),(10,_),(31,_),(32,_),(33,_),(43,_)] (Rv (O.mv (.own q))<|Rv (O.lenO (.brw q) sl66)<|Rv (O.eql (.lit q) (.k q))<|Fi (tn11 q q q q q q q q q q q)) ?_
     refine Px.sq<|W.cnd q (fun hb16=>?_) (fun hb16=>?_)
     ·replace h:=cndT hb16 h
      refine W.xi ?_
      refine Px.sqE ?_
      refine Px.bkH ?_
      refine Px.sq<|W.rx [(1,_),(4,_),(5,_),(6,_),(7,_),(31,_),(32,_),(33,_)] (Rv (O.add (.lit q) (.k q))<|RunL.re (G1:=[(1,_),(4,_),(5,_),(6,_),(7,_),(31,_),(32,_),(72,_)]) (tn8 q q q q q q q q)<|Vm q<|Fi (tn8 q q q q q q q q)) ?_
      obtain rfl:=sm h
      exact Px.go (tn8 q q q q q q q q)
     ·replace h:=cndF hb16 h
      refine W.sk<|Px.sq ?_
      refine W.sq' ?_
      obtain ⟨x17,hx17,h⟩:=bnd h
      refine W.rx [(1,_),(4,_),(5,_),(6,_),(7,_),(9,_),(10,_),(11,_),(31,_),(32,_),(33,_)] (Rv (O.mv (.own q))<|Rv (O.mv (.own q))<|Rc (PC.vw (ys:=[.brw eState_m.z ⟨4,[]⟩ s9.1.length,.brw eItem.z ⟨10,[]⟩ x15.length]) q (.c (.row q) (.c (.row q) .nil)) (con48 s9.1 x15 _ hx17) call48 q)<|Va q<|Fi (tn11 q q q q q q q q q q q)) ?_
      refine Px.sq<|W.sq' ?_
      refine W.sq'<|W.rx [(1,_),(4,_),(5,_),(6,_),(7,_),(9,_),(10,_),(11,_),(31,_),(32,_),(33,_),(48,_)] (Vm q<|Rv (O.lss (.lit q) (.k q))<|Fi (.n q (.n q (.n q (.n q (.n q (.n q (.n q (.n q (.n q (.n q (.n q (.n q .nil))))))))))))) ?_
      refine Px.sq ?_
      obtain ⟨j18,hj,h⟩:=bnd h
      refine W.jn [(1,.obj (eGrammar_0.cells a0)),(4,oR eState_m j18.1),(5,iR eI x1),(6,I64 s2.2),(7,oR eItem x8),(9,I64 x14),(11,I64 j18.2),(31,iR eI x1),(32,I64 (x1.length:Int)),(33,I64 s9.2)] ?_ ?_
      ·clear h; have h:=hj; clear hj
       refine W.cnd q (fun hb19=>?_) (fun hb19=>?_)
       ·replace h:=cndT hb19 h
        refine W.sq'<|W.rx [(1,_),(4,_),(5,_),(6,_),(7,_),(9,_),(10,_),(11,_),(31,_),(32,_),(33,_)] (Rv (O.mv (.own q))<|Rv (O.lenO (.brw q) sl85)<|RunL.re (G1:=[(1,_),(4,_),(5,_),(6,_),(7,_),(9,_),(10,_),(31,_),(32,_),(33,_),(50,_)]) (tn11 q q q q q q q q q q q)<|Va q<|Fi (tn11 q q q q q q q q q q q)) ?_
        refine Px.sq ?_
        obtain ⟨x20,hx20,h⟩:=bnd h
        refine W.rx [(1,_),(4,_),(5,_),(6,_),(7,_),(9,_),(11,_),(31,_),(32,_),(33,_)] (Rv (O.mv (.own q))<|Rv (O.mv (.own q))<|Rv (O.bu (cs:=[.brw eItem.z ⟨10,[]⟩ x15.length,.nils]) sc97 ze97 q q q)<|Rv (O.bsL (ys:=[.agg [.brw eItem.z ⟨10,[]⟩ x15.length,.nils]]) (cs:=[.brw eItem.z ⟨10,[]⟩ x15.length,.nils]) sl85 q q q q q zt97 q q)<|Rv (O.apL (en:=eState_m) (M:=[(⟨x15,([]:List Move)⟩:State)]) (r:=x20) (.brw q) q (.own q) q q q q ap85 q hx20)<|RunL.ea (G2:=[(1,.obj (eGrammar_0.cells a0)),(5,iR eI x1),(6,I64 s2.2),(7,oR eItem x8),(9,I64 x14),(11,I64 (s9.1.length:Int)),(31,iR eI x1),(32,I64 (x1.length:Int)),(33,I64 s9.2)]) q (EO.apG (M:=[(⟨x15,([]:List Move)⟩:State)]) q q (.pend q) q q q (.r q (.f .nil)) (.z (.o .nil)) q q (tn9 q q q q q q q q q) q q)<|Fi (tn10 q q q q q q q q q q)) ?_
        obtain rfl:=sm h
        exact Px.jn (tn10 q q q q q q q q q q)
       ·replace h:=cndF hb19 h
        refine W.sk ?_
        obtain rfl:=sm h
        exact Px.jn (tn10 q q q q q q q q q q)
      refine Px.sq<|W.sq' ?_
      refine W.sq'<|W.rx [(1,_),(4,_),(5,_),(6,_),(7,_),(9,_),(11,_),(31,_),(32,_),(33,_),(57,_)] (Vm q<|Rv (O.geq (.lit q) (.k q))<|Fi (tn11 q q q q q q q q q q q)) ?_
      refine Px.sq<|W.cnd q (fun hb21=>?_) (fun hb21=>?_)
      ·replace h:=cndT hb21 h
       refine W.sq'<|W.rx [(2,_),(3,_)] (Rv (O.az .knil)<|Vk q<|Fi (tn2 q q)) ?_
       refine Px.sq<|W.fz (G1:=[(2,iR eState_0 ([]:List State)),(3,_)]) [2] (.z q q .zz (.n q q .nil)) ?_
       refine W.rt ?_
       refine Px.sqR ?_
       refine Px.bkR ?_
       refine Px.sqR ?_
       obtain rfl:=sm h
       exact Px.r2 (tn2 q q)
      ·replace h:=cndF hb21 h
       refine W.sk<|Px.sq ?_
       obtain ⟨x22,hx22,h⟩:=bnd h
       obtain ⟨x23,hx23,h⟩:=bnd h
       refine W.rx [(1,_),(4,_),(5,_),(6,_),(7,_),(31,_),(32,_),(33,_)] (Rv (O.mv (.own q))<|Vm q<|Rv (O.mv (.own q))<|Vm q<|Rv (O.ixO (en:=eState_m) q (.brw q) (.lit q) sl85 hx22 q)<|Rv (O.fE (en:=eState_m) q (.ptr q) fd97_1 hx22 q q)<|Rv (O.ldE (en:=eState_m) (x':=.brw eMove.z ⟨4,[s2.2.toNat * eState_m.z+1]⟩ x22.Moves.length) q (.ptr q) ct95 hx22 q q)<|Vm q<|Vm q<|Rv (O.bu (cs:=[I64 x14,I64 j18.2]) sc106 ze106 q q q)<|RunL.vi (x:=iR eMove [(⟨x14,j18.2⟩:Move)]) (O.bs (ys:=[.agg [I64 x14,I64 j18.2]]) eMove [(⟨x14,j18.2⟩:Move)] sl95 q q q q q q zt106 q q) q q .none<|Rv (O.ap (en:=eMove) (r:=x23) (.brw q) (atP_el (r:=4) (path:=[]) (o:=1) (en:=eState_m) q hx22 q) (.imm q) .i ap95 q hx23)<|Rv (O.ixO (en:=eState_m) q (.brw q) (.lit q) sl85 hx22 q)<|Rv (O.fE (en:=eState_m) q (.ptr q) fd97_1 hx22 q q)<|RunL.ef (G2:=[(1,.obj (eGrammar_0.cells a0)),(4,oR eState_m (j18.1.set s2.2.toNat (⟨x22.Kernel,x22.Moves++[(⟨x14,j18.2⟩:Move)]⟩:State))),(5,iR eI x1),(6,I64 s2.2),(7,oR eItem x8),(31,iR eI x1),(32,I64 (x1.length:Int)),(33,I64 s9.2)]) q (EO.stEP (en:=eState_m) (en2:=eMove) (M:=[(⟨x14,j18.2⟩:Move)]) (y2:=(⟨x22.Kernel,x22.Moves++[(⟨x14,j18.2⟩:Move)]⟩:State)) (x2:=oR eState_m (j18.1.set s2.2.toNat (⟨x22.Kernel,x22.Moves++[(⟨x14,j18.2⟩:Move)]⟩:State))) (y0:=.own eState_m.z j18.1.length ((rowc eState_m j18.1).set (s2.2.toNat * eState_m.z+1) .dead)) q q (.ptr q) (.pend q) q q hx22 q q .ns .rf q q sz95 q q q q q q (.n q q (.b q (.n q q (.n q q (.n q q (.n q q (.n q q (.n q q .nil)))))))))<|Fi (tn8 q q q q q q q q)) ?_
       refine Px.bk ?_
       refine Px.sq<|W.rx [(1,_),(4,_),(5,_),(6,_),(7,_),(31,_),(32,_),(33,_)] (Rv (O.add (.lit q) (.k q))<|RunL.re (G1:=[(1,_),(4,_),(5,_),(6,_),(7,_),(31,_),(32,_),(72,_)]) (tn8 q q q q q q q q)<|Vm q<|Fi (tn8 q q q q q q q q)) ?_
       obtain rfl:=sm h
       exact Px.go (tn8 q q q q q q q q)
    ·replace h:=cndF hb13 h
     refine W.xi ?_
     refine Px.sqE ?_
     obtain rfl:=sm h
     exact Px.x2 (tn4 q q q q)
   ·subst hx
    refine Px.bkH ?_
    refine Px.bk ?_
    refine Px.sq<|W.rx [(1,_),(4,_),(5,_),(6,_)] (Vm q<|Rv (O.add (.lit q) (.k q))<|RunL.re (G1:=[(1,_),(4,_),(5,_),(23,_)]) (tn4 q q q q)<|Va q<|Fi (tn4 q q q q)) ?_
    obtain rfl:=sm h
    exact Px.go (tn4 q q q q)
   ·subst hx
    refine Px.bkR ?_
    refine Px.bkR ?_
    refine Px.sqR ?_
    obtain rfl:=sm h
    exact Px.r2 (tn2 q q)
  ·replace h:=cndF hb6 h
   refine W.xi ?_
   refine Px.sqE ?_
   obtain rfl:=sm h
   exact Px.x2 (.n q .nil)
 ·subst hx
  refine Px.bkH ?_
  refine Px.sq<|W.sq' ?_
  refine W.rx [(2,_),(3,_)] (Rv (O.mv (.own q))<|RunL.ea (G2:=[]) q (EO.aR q q (.brw q) q .nil q q)<|Vk q<|Fi (tn2 q q)) ?_
  refine Px.sq<|W.fz (G1:=[(2,iR eState_0 x4),(3,_)]) [2] (.z q q .zz (.n q q .nil)) ?_
  refine W.rt ?_
  obtain rfl:=sm h
  exact Px.fin (Fin.ro (.f q q (.f q q .nil)) q (ode (by kernel_rfl)) (.no .nil) q (.inr q))
 ·subst hx
  refine Px.bkR ?_
  refine Px.sqR ?_
  obtain rfl:=sm h
  exact Px.fin (Fin.ro (.f q q (.f q q .nil)) q (ode (by kernel_rfl)) (.no .nil) q (.inr q))
theorem con103 (a0:(List State)) (a1:Int) (a2:Int) (r:Int) (h:pf103 a0 a1 a2=some r):Con Try.prog 103 [iR eState_0 a0,I64 a1,I64 a2] [none,none,none] (I64 r):=by
 unfold pf103 at h
 refine Con.go (N:=⟨26,[]⟩) Try.func103 q q q q (W.fin ?_)
 refine W.st [(0,iR eState_0 a0),(1,I64 a1),(2,I64 a2)] ?_
 refine W.sq'<|W.rx [(0,_),(1,_),(2,_)] (Vk q<|Fi (tn3 q q q)) ?_
 refine Px.sq<|W.sq' ?_
 refine W.sq' ?_
 obtain ⟨x1,hx1,h⟩:=bnd h
 refine W.rx [(2,_),(13,_),(14,_),(15,_)] (Rv (O.mv (.imm q))<|Vm q<|Rv (O.ixI (.imm q) (.lit q) sl85 hx1)<|Rv (O.fI (.iptr q) fd97_1)<|Rv (O.ldI (x:=iR eMove x1.Moves) (.iptr q) ct95 q)<|Rv (O.lenI (.imm q) sl95)<|Rv (O.mv (.k q))<|Fi (tn4 q q q q)) ?_
 refine Px.sq<|W.bk ?_
 obtain ⟨x3,hl,h⟩:=bnd h
 refine W.tr (G1:=[(2,_),(13,_),(14,_),(15,_)]) (tn4 q q q q) ?_
 refine W.lp2 (s:=0) (fun (s2:Int)=>[(2,I64 a2),(13,iR eMove x1.Moves),(14,I64 (x1.Moves.length:Int)),(15,I64 s2)]) 0 (fun (x4:Unit)=>[]) (fun (x5:Int)=>[(6,I64 x5)]) hl (fun s2 o h=>?_) (fun x4 hx=>?_) (fun x5 hx=>?_)
 ·clear hl
  refine W.sq'<|W.rx [(2,_),(13,_),(14,_),(15,_),(16,_)] (Rv (O.lss (.lit q) (.lit q))<|Fi (tn5 q q q q q)) ?_
  refine Px.sq<|W.sq' ?_
  refine W.cnd q (fun hb6=>?_) (fun hb6=>?_)
  ·replace h:=cndT hb6 h
   refine W.sk<|Px.sq ?_
   refine W.sq'<|W.bk ?_
   refine W.sq' ?_
   obtain ⟨x7,hx7,h⟩:=bnd h
   refine W.rx [(2,_),(8,_),(13,_),(14,_),(15,_)] (Rv (O.ixI (.imm q) (.lit q) sl95 hx7)<|Rv (O.ldIN (cs':=[I64 x7.Sym,I64 x7.To]) (.iptr q) at106 q q)<|Rv (O.al (cs:=[I64 0,I64 0]) ze106 q q)<|RunL.sO (G2:=[(2,I64 a2),(8,.obj [I64 x7.Sym,I64 x7.To]),(13,iR eMove x1.Moves),(14,I64 (x1.Moves.length:Int)),(15,I64 s2)]) (cs2:=[I64 x7.Sym,I64 x7.To]) q (.obj q) (.aggF q q) q sz106 q q q q (.n q q (.b q (.n q q (.n q q (.n q q .nil)))))<|Fi (tn5 q q q q q)) ?_
   refine Px.sq<|W.sq' ?_
   refine W.rx [(2,_),(8,_),(13,_),(14,_),(15,_),(22,_)] (Rv (O.fO q (.obj q) fd106_0 q)<|Rv (O.ldO (y:=I64 x7.Sym) q (.ptr q) ct3 q q)<|Vm q<|Rv (O.eql (.lit q) (.lit q))<|Fi (tn6 q q q q q q)) ?_
   refine Px.sq<|W.cnd q (fun hb8=>?_) (fun hb8=>?_)
   ·replace h:=cndT hb8 h
    refine W.sq'<|W.rx [(6,_)] (Rv (O.fO q (.obj q) fd106_1 q)<|Rv (O.ldO (y:=I64 x7.To) q (.ptr q) ct3 q q)<|Va q<|Fi (.n q .nil)) ?_
    refine Px.sq<|W.rt ?_
    refine Px.bkR ?_
    refine Px.sqR ?_
    obtain rfl:=sm h
    exact Px.r2 (.n q .nil)
   ·replace h:=cndF hb8 h
    refine W.sk<|Px.bk ?_
    refine Px.sq<|W.rx [(2,_),(13,_),(14,_),(15,_)] (Rv (O.add (.lit q) (.k q))<|RunL.re (G1:=[(2,_),(13,_),(14,_),(25,_)]) (tn4 q q q q)<|Vm q<|Fi (tn4 q q q q)) ?_
    obtain rfl:=sm h
    exact Px.go (tn4 q q q q)
  ·replace h:=cndF hb6 h
   refine W.xi ?_
   refine Px.sqE ?_
   obtain rfl:=sm h
   exact Px.x2 .nil
 ·subst hx
  refine Px.bkH ?_
  refine Px.sq<|W.sq' ?_
  refine W.rx [(6,_)] (Vk q<|Fi (.n q .nil)) ?_
  refine Px.sq<|W.rt ?_
  obtain rfl:=sm h
  exact Px.fin (Fin.ro (.f q q .nil) q (ode (by kernel_rfl)) (.no (.no (.no .nil))) q (.inr q))
 ·subst hx
  refine Px.bkR ?_
  refine Px.sqR ?_
  obtain rfl:=sm h
  exact Px.fin (Fin.ro (.f q q .nil) q (ode (by kernel_rfl)) (.no (.no (.no .nil))) q (.inr q))
theorem con85 (a0:(List State)) (a1:Int) (a2:(List Int)) (r:Int) (h:pf85 a0 a1 a2=some r):Con Try.prog 85 [iR eState_0 a0,I64 a1,iR eI a2] [none,none,none] (I64 r):=by
 unfold pf85 at h
 refine Con.go (N:=⟨23,[]⟩) Try.func85 q q q q (W.fin ?_)
 refine W.st [(0,iR eState_0 a0),(1,I64 a1),(2,iR eI a2)] ?_
 refine W.sq'<|W.rx [(0,_),(1,_),(2,_)] (Vk q<|Fi (tn3 q q q)) ?_
 refine Px.sq<|W.sq' ?_
 refine W.sq'<|W.rx [(0,_),(1,_),(9,_),(10,_),(11,_)] (Rv (O.mv (.imm q))<|Rv (O.lenI (.imm q) sl27)<|Rv (O.mv (.k q))<|Fi (tn5 q q q q q)) ?_
 refine Px.sq<|W.bk ?_
 obtain ⟨x2,hl,h⟩:=bnd h
 refine W.tr (G1:=[(0,_),(1,_),(9,_),(10,_),(11,_)]) (tn5 q q q q q) ?_
 refine W.lp2 (s:=(a1,0)) (fun (s1:Int × Int)=>[(0,iR eState_0 a0),(1,I64 s1.1),(9,iR eI a2),(10,I64 (a2.length:Int)),(11,I64 s1.2)]) 0 (fun (x3:Int)=>[(1,I64 x3)]) (fun (x4:Int)=>[(6,I64 x4)]) hl (fun s1 o h=>?_) (fun x3 hx=>?_) (fun x4 hx=>?_)
 ·clear hl
  refine W.sq'<|W.rx [(0,_),(1,_),(9,_),(10,_),(11,_),(12,_)] (Rv (O.lss (.lit q) (.lit q))<|Fi (tn6 q q q q q q)) ?_
  refine Px.sq<|W.sq' ?_
  refine W.cnd q (fun hb5=>?_) (fun hb5=>?_)
  ·replace h:=cndT hb5 h
   refine W.sk<|Px.sq ?_
   refine W.sq'<|W.bk ?_
   refine W.sq' ?_
   obtain ⟨x6,hx6,h⟩:=bnd h
   refine W.rx [(0,_),(1,_),(8,_),(9,_),(10,_),(11,_)] (Rv (O.ixI (.imm q) (.lit q) sl27 hx6)<|Rv (O.ldI (x:=I64 x6) (.iptr q) ct3 q)<|Va q<|Fi (tn6 q q q q q q)) ?_
   refine Px.sq<|W.sq' ?_
   obtain ⟨x7,hx7,h⟩:=bnd h
   refine W.rx [(0,_),(1,_),(9,_),(10,_),(11,_)] (Rv (O.mv (.imm q))<|Vm q<|Vm q<|Rc (PC.go (.cc (.imm q) (.cc (.lit q) (.cc (.lit q) .nil))) (con103 a0 s1.1 x6 _ hx7) call103 q)<|RunL.re (G1:=[(0,_),(9,_),(10,_),(11,_),(18,_)]) (tn5 q q q q q)<|Va q<|Fi (tn5 q q q q q)) ?_
   refine Px.sq<|W.sq' ?_
   refine W.rx [(0,_),(1,_),(9,_),(10,_),(11,_),(20,_)] (Vm q<|Rv (O.lss (.lit q) (.k q))<|Fi (tn6 q q q q q q)) ?_
   refine Px.sq<|W.cnd q (fun hb8=>?_) (fun hb8=>?_)
   ·replace h:=cndT hb8 h
    refine W.sq'<|W.rx [(6,_)] (Vk q<|Fi (.n q .nil)) ?_
    refine Px.sq<|W.rt ?_
    refine Px.bkR ?_
    refine Px.sqR ?_
    obtain rfl:=sm h
    exact Px.r2 (.n q .nil)
   ·replace h:=cndF hb8 h
    refine W.sk<|Px.bk ?_
    refine Px.sq<|W.rx [(0,_),(1,_),(9,_),(10,_),(11,_)] (Rv (O.add (.lit q) (.k q))<|RunL.re (G1:=[(0,_),(1,_),(9,_),(10,_),(21,_)]) (tn5 q q q q q)<|Vm q<|Fi (tn5 q q q q q)) ?_
    obtain rfl:=sm h
    exact Px.go (tn5 q q q q q)
  ·replace h:=cndF hb5 h
   refine W.xi ?_
   refine Px.sqE ?_
   obtain rfl:=sm h
   exact Px.x2 (.n q .nil)
 ·subst hx
  refine Px.bkH ?_
  refine Px.sq<|W.sq' ?_
  refine W.rx [(6,_)] (Vm q<|Va q<|Fi (.n q .nil)) ?_
  refine Px.sq<|W.rt ?_
  obtain rfl:=sm h
  exact Px.fin (Fin.ro (.f q q .nil) q (ode (by kernel_rfl)) (.no (.no (.no .nil))) q (.inr q))
 ·subst hx
  refine Px.bkR ?_
  refine Px.sqR ?_
  obtain rfl:=sm h
  exact Px.fin (Fin.ro (.f q q .nil) q (ode (by kernel_rfl)) (.no (.no (.no .nil))) q (.inr q))
theorem con52 (a0:(List State)) (a1:(List Int)) (r:Int) (h:pf52 a0 a1=some r):Con Try.prog 52 [iR eState_0 a0,iR eI a1] [none,none] (I64 r):=by
 unfold pf52 at h
 refine Con.go (N:=⟨8,[]⟩) Try.func52 q q q q (W.fin ?_)
 refine W.st [(0,iR eState_0 a0),(1,iR eI a1)] ?_
 refine W.sq'<|W.rx [(0,_),(1,_)] (Vk q<|Fi (tn2 q q)) ?_
 refine Px.sq<|W.sq' ?_
 obtain ⟨x1,hx1,h⟩:=bnd h
 refine W.rx [(4,_)] (Rv (O.mv (.imm q))<|Rv (O.mv (.imm q))<|Rc (PC.go (.cc (.imm q) (.cc (.k q) (.cc (.imm q) .nil))) (con85 a0 0 a1 _ hx1) call85 q)<|Va q<|Fi (.n q .nil)) ?_
 refine Px.sq<|W.rt ?_
 obtain rfl:=sm h
 exact Px.fin (Fin.ro (.f q q .nil) q (ode (by kernel_rfl)) (.no (.no .nil)) q (.inr q))
theorem con78 (a0:(List Move)) (a1:(List Move)) (r:Bool) (h:pf78 a0 a1=some r):Con Try.prog 78 [iR eMove a0,iR eMove a1] [none,none] (BB r):=by
 unfold pf78 at h
 refine Con.go (N:=⟨26,[]⟩) Try.func78 q q q q (W.fin ?_)
 refine W.st [(0,iR eMove a0),(1,iR eMove a1)] ?_
 refine W.sq'<|W.rx [(0,_),(1,_)] (Vk q<|Fi (tn2 q q)) ?_
 refine Px.sq<|W.sq' ?_
 refine W.sq'<|W.rx [(0,_),(1,_),(10,_)] (Rv (O.mv (.imm q))<|Rv (O.lenI (.imm q) sl95)<|Rv (O.mv (.imm q))<|Rv (O.lenI (.imm q) sl95)<|Rv (O.neq (.lit q) (.lit q))<|Fi (tn3 q q q)) ?_
 refine Px.sq<|W.cnd q (fun hb1=>?_) (fun hb1=>?_)
 ·replace h:=cndT hb1 h
  refine W.sq'<|W.rx [(4,_)] (Vk q<|Fi (.n q .nil)) ?_
  refine Px.sq<|W.rt ?_
  refine Px.sqR ?_
  obtain rfl:=sm h
  exact Px.fin (Fin.ro (.f q q .nil) q (ode (by kernel_rfl)) (.no (.no .nil)) q (.inr q))
 ·replace h:=cndF hb1 h
  refine W.sk<|Px.sq ?_
  refine W.sq'<|W.sq' ?_
  refine W.rx [(0,_),(1,_),(5,_)] (Vk q<|Fi (tn3 q q q)) ?_
  refine Px.sq<|W.bk ?_
  obtain ⟨x3,hl,h⟩:=bnd h
  refine W.tr (G1:=[(0,_),(1,_),(5,_)]) (tn3 q q q) ?_
  refine W.lp2 (s:=0) (fun (s2:Int)=>[(0,iR eMove a0),(1,iR eMove a1),(5,I64 s2)]) 0 (fun (x4:Unit)=>[]) (fun (x5:Bool)=>[(4,BB x5)]) hl (fun s2 o h=>?_) (fun x4 hx=>?_) (fun x5 hx=>?_)
  ·clear hl
   refine W.sq'<|W.sq' ?_
   refine W.rx [(0,_),(1,_),(5,_),(14,_)] (Vm q<|Rv (O.mv (.imm q))<|Rv (O.lenI (.imm q) sl95)<|Rv (O.lss (.lit q) (.lit q))<|Fi (tn4 q q q q)) ?_
   refine Px.sq<|W.cnd q (fun hb6=>?_) (fun hb6=>?_)
   ·replace h:=cndT hb6 h
    refine W.sk<|Px.sq ?_
    refine W.sq'<|W.bk ?_
    refine W.sq' ?_
    obtain ⟨x7,hx7,h⟩:=bnd h
    obtain ⟨x8,hx8,h⟩:=bnd h
    refine W.rd [[],[],[0,1],[0,1,2],[],[],[4,5],[4,5,6],rn 0 8 []] [(0,_),(1,_),(5,_),(25,_)] mixo (by kernel_rfl) (Dv 0 (O.mv (.imm q))<|Dv 1 (O.mv (.lit q))<|Dv 2 (O.ixI (.imm q) (.lit q) sl95 hx7)<|Dv 3 (O.ldIN (cs':=[I64 x7.Sym,I64 x7.To]) (.iptr q) at106 q q)<|Dv 4 (O.mv (.imm q))<|Dv 5 (O.mv (.lit q))<|Dv 6 (O.ixI (.imm q) (.lit q) sl95 hx8)<|Dv 7 (O.ldIN (cs':=[I64 x8.Sym,I64 x8.To]) (.iptr q) at106 q q)<|Dv 8 (O.neqA (va:=[.int .i64 x7.Sym,.int .i64 x7.To]) (vb:=[.int .i64 x8.Sym,.int .i64 x8.To]) (.aggF q q) (.aggF q q) q q eq106)<|DL.fin q q q (tn4 q q q q)) ?_
    refine Px.sq<|W.cnd q (fun hb9=>?_) (fun hb9=>?_)
    ·replace h:=cndT hb9 h
     refine W.sq'<|W.rx [(4,_)] (Vk q<|Fi (.n q .nil)) ?_
     refine Px.sq<|W.rt ?_
     refine Px.bkR ?_
     refine Px.sqR ?_
     obtain rfl:=sm h
     exact Px.r2 (.n q .nil)
    ·replace h:=cndF hb9 h
     refine W.sk<|Px.bk ?_
     refine Px.sq<|W.rx [(0,_),(1,_),(5,_)] (Vm q<|Rv (O.add (.lit q) (.k q))<|RunL.re (G1:=[(0,_),(1,_),(16,_)]) (tn3 q q q)<|Va q<|Fi (tn3 q q q)) ?_
     obtain rfl:=sm h
     exact Px.go (tn3 q q q)
   ·replace h:=cndF hb6 h
    refine W.xi ?_
    refine Px.sqE ?_
    obtain rfl:=sm h
    exact Px.x2 .nil
  ·subst hx
   refine Px.bkH ?_
   refine Px.sq<|W.sq' ?_
   refine W.rx [(4,_)] (Vk q<|Fi (.n q .nil)) ?_
   refine Px.sq<|W.rt ?_
   obtain rfl:=sm h
   exact Px.fin (Fin.ro (.f q q .nil) q (ode (by kernel_rfl)) (.no (.no .nil)) q (.inr q))
  ·subst hx
   refine Px.bkR ?_
   refine Px.sqR ?_
   obtain rfl:=sm h
   exact Px.fin (Fin.ro (.f q q .nil) q (ode (by kernel_rfl)) (.no (.no .nil)) q (.inr q))
theorem con43  (r:Bool) (h:pf43 =some r):Con Try.prog 43 [] [] (BB r):=by
 unfold pf43 at h
 refine Con.go (N:=⟨81,[]⟩) Try.func43 q q q q (W.fin ?_)
 refine W.st [] ?_
 refine W.sq'<|W.rx [] (Vk q<|Fi .nil) ?_
 refine Px.sq<|W.sq' ?_
 obtain ⟨x1,hx1,h⟩:=bnd h
 refine W.rx [(1,_),(2,_)] (Rv (O.bu (cs:=[SS ({ data:=#[120] }),BB true,I64 0,I64 0]) sc59 ze59 q q q)<|Rv (O.bu (cs:=[SS ({ data:=#[120] }),BB true,I64 0,I64 0,SS S0,I64 0]) sc109 ze109 q q q)<|RunL.vi (x:=iR ePart [(⟨(⟨{ data:=#[120] },true,0,0⟩:Sym),S0,0⟩:Part)]) (O.bs (ys:=[.agg [SS ({ data:=#[120] }),BB true,I64 0,I64 0,SS S0,I64 0]]) ePart [(⟨(⟨{ data:=#[120] },true,0,0⟩:Sym),S0,0⟩:Part)] sl60 q q q q q q zt109 q q) q q .none<|Rv (O.bu (cs:=[iR ePart [(⟨(⟨{ data:=#[120] },true,0,0⟩:Sym),S0,0⟩:Part)],SS S0,BB false,I64 0,I64 0,I64 0]) sc62 ze62 q q q)<|RunL.vi (x:=iR eAlt_0 [(⟨[(⟨(⟨{ data:=#[120] },true,0,0⟩:Sym),S0,0⟩:Part)],(⟨S0,false,0,0⟩:Sym),0⟩:Alt)]) (O.bs (ys:=[.agg [iR ePart [(⟨(⟨{ data:=#[120] },true,0,0⟩:Sym),S0,0⟩:Part)],SS S0,BB false,I64 0,I64 0,I64 0]]) eAlt_0 [(⟨[(⟨(⟨{ data:=#[120] },true,0,0⟩:Sym),S0,0⟩:Part)],(⟨S0,false,0,0⟩:Sym),0⟩:Alt)] sl63 q q q q q q zt62 q q) q q .none<|Rv (O.bu (cs:=[SS ({ data:=#[115] }),iR eAlt_0 [(⟨[(⟨(⟨{ data:=#[120] },true,0,0⟩:Sym),S0,0⟩:Part)],(⟨S0,false,0,0⟩:Sym),0⟩:Alt)],I64 0]) sc65 ze65 q q q)<|RunL.vi (x:=iR eRule_0 [(⟨{ data:=#[115] },[(⟨[(⟨(⟨{ data:=#[120] },true,0,0⟩:Sym),S0,0⟩:Part)],(⟨S0,false,0,0⟩:Sym),0⟩:Alt)],0⟩:Rule)]) (O.bs (ys:=[.agg [SS ({ data:=#[115] }),iR eAlt_0 [(⟨[(⟨(⟨{ data:=#[120] },true,0,0⟩:Sym),S0,0⟩:Part)],(⟨S0,false,0,0⟩:Sym),0⟩:Alt)],I64 0]]) eRule_0 [(⟨{ data:=#[115] },[(⟨[(⟨(⟨{ data:=#[120] },true,0,0⟩:Sym),S0,0⟩:Part)],(⟨S0,false,0,0⟩:Sym),0⟩:Alt)],0⟩:Rule)] sl23 q q q q q q zt65 q q) q q .none<|RunL.vi (x:=.agg [SS S0,iR eDecl_0 ([]:List Decl),iR eRule_0 [(⟨{ data:=#[115] },[(⟨[(⟨(⟨{ data:=#[120] },true,0,0⟩:Sym),S0,0⟩:Part)],(⟨S0,false,0,0⟩:Sym),0⟩:Alt)],0⟩:Rule)],SS S0]) (O.bu (cs:=[SS S0,.nils,iR eRule_0 [(⟨{ data:=#[115] },[(⟨[(⟨(⟨{ data:=#[120] },true,0,0⟩:Sym),S0,0⟩:Part)],(⟨S0,false,0,0⟩:Sym),0⟩:Alt)],0⟩:Rule)],SS S0]) sc25 ze25 q q q) q q .none<|Rc (PC.go (.cc (.aggF q q) .nil) (con20 (⟨S0,([]:List Decl),[(⟨{ data:=#[115] },[(⟨[(⟨(⟨{ data:=#[120] },true,0,0⟩:Sym),S0,0⟩:Part)],(⟨S0,false,0,0⟩:Sym),0⟩:Alt)],0⟩:Rule)],S0⟩:Source) _ hx1) call20 q)<|Rv (O.mv (.tup q q))<|Rv (O.ex (y:=.agg (eGrammar_0.cells x1.1)) q q q)<|Rv (O.ex (y:=BB x1.2) q q q)<|Rv (O.al (cs:=[.nils,.nils,.nils,SS S0,SS S0]) ze38 q q)<|RunL.sO (G2:=[(1,.obj (eGrammar_0.cells x1.1)),(16,BB x1.2)]) (cs2:=[iR eTok x1.1.Toks,iR eNon x1.1.Nons,iR eProd_0 x1.1.Prods,SS x1.1.Pro,SS x1.1.Tail]) q (.obj q) (.aggF q q) q sz38 q q q q (.b q (.n q q .nil))<|Va q<|Fi (tn2 q q)) ?_
 refine Px.sq<|W.sq' ?_
 obtain ⟨x2,hx2,h⟩:=bnd h
 refine W.rx [(2,_),(3,_),(4,_)] (Rv (O.ldON (cs':=[iR eTok x1.1.Toks,iR eNon x1.1.Nons,iR eProd_0 x1.1.Prods,SS x1.1.Pro,SS x1.1.Tail]) q (.obj q) at38 q q)<|Rc (PC.go (.cc (.aggF q q) .nil) (con44 x1.1 _ hx2) call44 q)<|Rv (O.mv (.tupF q q))<|Rv (O.ex (y:=iR eState_0 x2.1) q q q)<|Rv (O.ex (y:=I64 x2.2) q q q)<|Rv (O.az (.imm q))<|Va q<|Fi (tn3 q q q)) ?_
 refine Px.sq<|W.sq' ?_
 obtain ⟨c21,hj,h⟩:=bnd h
 refine W.rx [(0,BB c21)] ?_ ?_
 ·refine Vm q<|Rv (O.mv (.lit q)) ?_
  rcases cnd hj with ⟨hb3,hj⟩ | ⟨hb3,hj⟩
  ·refine RunL.v (O.mv (.lit q)) q q (.yb q q hb3)<|RunL.v (O.eql (.lit q) (.k q)) q q (.yb q q hb3)<|Rv (O.pkT (.lit q) hb3 (.lit q))<|Rv (O.mv (.lit q)) ?_
   rcases cnd hj with ⟨hb4,hj⟩ | ⟨hb4,hj⟩
   ·refine RunL.v (O.mv (.imm q)) q q (.yb q q hb4)<|RunL.v (O.lenI (.imm q) sl85) q q (.yb q q hb4)<|RunL.v (O.eql (.lit q) (.k q)) q q (.yb q q hb4)<|Rv (O.pkT (.lit q) hb4 (.lit q))<|Rv (O.mv (.lit q)) ?_
    rcases cnd hj with ⟨hb5,hj⟩ | ⟨hb5,hj⟩
    ·refine RunL.v (O.mv (.imm q)) q q (.yb q q hb5) ?_
     obtain ⟨x6,hx6,hj⟩:=bnd hj
     refine RunL.v (O.ixI (.imm q) (.k q) sl85 hx6) q q (.yb q q hb5)<|RunL.v (O.fI (.iptr q) fd97_1) q q (.yb q q hb5)<|RunL.v (O.ldI (x:=iR eMove x6.Moves) (.iptr q) ct95 q) q q (.yb q q hb5)<|RunL.v (O.bu (cs:=[I64 3,I64 1]) sc106 ze106 q q q) q q (.yb q q hb5)<|RunL.v (O.bu (cs:=[I64 1001,I64 2]) sc106 ze106 q q q) q q (.yb q q hb5)<|RunL.vi (x:=iR eMove [(⟨3,1⟩:Move),(⟨1001,2⟩:Move)]) (O.bs (ys:=[.agg [I64 3,I64 1],.agg [I64 1001,I64 2]]) eMove [(⟨3,1⟩:Move),(⟨1001,2⟩:Move)] sl95 q q q q q q zt106 q q) q q (.yb q q hb5) ?_
     obtain ⟨x7,hx7,hj⟩:=bnd hj
     refine RunL.c (PC.go (.cc (.imm q) (.cc (.imm q) .nil)) (con78 x6.Moves [(⟨3,1⟩:Move),(⟨1001,2⟩:Move)] _ hx7) call78 q) q q (.yb q q hb5)<|Rv (O.pkT (.lit q) hb5 (.lit q))<|Rv (O.mv (.lit q)) ?_
     rcases cnd hj with ⟨hb8,hj⟩ | ⟨hb8,hj⟩
     ·refine RunL.v (O.mv (.imm q)) q q (.yb q q hb8) ?_
      obtain ⟨x9,hx9,hj⟩:=bnd hj
      refine RunL.v (O.ixI (.imm q) (.k q) sl85 hx9) q q (.yb q q hb8)<|RunL.v (O.fI (.iptr q) fd97_0) q q (.yb q q hb8)<|RunL.v (O.ldI (x:=iR eItem x9.Kernel) (.iptr q) ct66 q) q q (.yb q q hb8)<|RunL.v (O.bu (cs:=[I64 0,I64 1]) sc72 ze72 q q q) q q (.yb q q hb8)<|RunL.vi (x:=iR eItem [(⟨0,1⟩:Item)]) (O.bs (ys:=[.agg [I64 0,I64 1]]) eItem [(⟨0,1⟩:Item)] sl66 q q q q q q zt72 q q) q q (.yb q q hb8) ?_
      obtain ⟨x10,hx10,hj⟩:=bnd hj
      refine RunL.c (PC.go (.cc (.imm q) (.cc (.imm q) .nil)) (con35 x9.Kernel [(⟨0,1⟩:Item)] _ hx10) call35 q) q q (.yb q q hb8)<|Rv (O.pkT (.lit q) hb8 (.lit q))<|Rv (O.mv (.lit q)) ?_
      rcases cnd hj with ⟨hb11,hj⟩ | ⟨hb11,hj⟩
      ·refine RunL.v (O.mv (.imm q)) q q (.yb q q hb11)<|RunL.v (O.bu (cs:=[I64 1,I64 1]) sc72 ze72 q q q) q q (.yb q q hb11)<|RunL.v (O.bu (cs:=[I64 1,I64 1]) sc72 ze72 q q q) q q (.yb q q hb11)<|RunL.vi (x:=iR eItem [(⟨1,1⟩:Item),(⟨1,1⟩:Item)]) (O.bs (ys:=[.agg [I64 1,I64 1],.agg [I64 1,I64 1]]) eItem [(⟨1,1⟩:Item),(⟨1,1⟩:Item)] sl66 q q q q q q zt72 q q) q q (.yb q q hb11) ?_
       obtain ⟨x12,hx12,hj⟩:=bnd hj
       refine RunL.c (PC.go (.cc (.imm q) (.cc (.imm q) .nil)) (con48 x2.1 [(⟨1,1⟩:Item),(⟨1,1⟩:Item)] _ hx12) call48 q) q q (.yb q q hb11)<|RunL.v (O.eql (.lit q) (.k q)) q q (.yb q q hb11)<|Rv (O.pkT (.lit q) hb11 (.lit q))<|Rv (O.mv (.lit q)) ?_
       rcases cnd hj with ⟨hb13,hj⟩ | ⟨hb13,hj⟩
       ·refine RunL.v (O.mv (.imm q)) q q (.yb q q hb13) ?_
        obtain ⟨x14,hx14,hj⟩:=bnd hj
        refine RunL.c (PC.vw (ys:=[iR eState_0 x2.1,.nils]) q (.s (.c .nilI .nil)) (con48 x2.1 ([]:List Item) _ hx14) call48 q) q q (.yb q q hb13)<|RunL.v (O.eql (.lit q) (.k q)) q q (.yb q q hb13)<|Rv (O.pkT (.lit q) hb13 (.lit q))<|Rv (O.mv (.lit q)) ?_
        rcases cnd hj with ⟨hb15,hj⟩ | ⟨hb15,hj⟩
        ·refine RunL.v (O.mv (.imm q)) q q (.yb q q hb15)<|RunL.vi (x:=iR eI [1001]) (O.bs (ys:=[I64 1001]) eI [1001] sl27 q q q q q q zt3 q q) q q (.yb q q hb15) ?_
         obtain ⟨x16,hx16,hj⟩:=bnd hj
         refine RunL.c (PC.go (.cc (.imm q) (.cc (.imm q) .nil)) (con52 x2.1 [1001] _ hx16) call52 q) q q (.yb q q hb15)<|RunL.v (O.eql (.lit q) (.k q)) q q (.yb q q hb15)<|Rv (O.pkT (.lit q) hb15 (.lit q))<|Rv (O.mv (.lit q)) ?_
         rcases cnd hj with ⟨hb17,hj⟩ | ⟨hb17,hj⟩
         ·refine RunL.v (O.mv (.imm q)) q q (.yb q q hb17)<|RunL.vi (x:=iR eI [3,3]) (O.bs (ys:=[I64 3,I64 3]) eI [3,3] sl27 q q q q q q zt3 q q) q q (.yb q q hb17) ?_
          obtain ⟨x18,hx18,hj⟩:=bnd hj
          refine RunL.c (PC.go (.cc (.imm q) (.cc (.imm q) .nil)) (con52 x2.1 [3,3] _ hx18) call52 q) q q (.yb q q hb17)<|RunL.v (O.eql (.lit q) (.k q)) q q (.yb q q hb17)<|Rv (O.pkT (.lit q) hb17 (.lit q))<|Rv (O.mv (.lit q)) ?_
          rcases cnd hj with ⟨hb19,hj⟩ | ⟨hb19,hj⟩
          ·refine RunL.v (O.mv (.imm q)) q q (.yb q q hb19) ?_
           obtain ⟨x20,hx20,hj⟩:=bnd hj
           obtain rfl:=sm hj
           exact RunL.c (PC.vw (ys:=[iR eState_0 x2.1,.nils]) q (.s (.c .nilI .nil)) (con52 x2.1 ([]:List Int) _ hx20) call52 q) q q (.yb q q hb19)<|RunL.v (O.eql (.lit q) (.k q)) q q (.yb q q hb19)<|Rv (O.pkT (.lit q) hb19 (.lit q))<|Va q<|Fi (.n q .nil)
          ·obtain rfl:=sm hj
           exact RunL.ps q q hb19 q q<|RunL.ps q q hb19 q q<|RunL.ps q q hb19 q q<|Rv (O.pkF (.lit q) hb19 (.k q))<|Va q<|Fi (.n q .nil)
         ·obtain rfl:=sm hj
          exact RunL.ps q q hb17 q q<|RunL.ps q q hb17 q q<|RunL.ps q q hb17 q q<|RunL.ps q q hb17 q q<|Rv (O.pkF (.lit q) hb17 (.k q))<|Vm q<|RunL.ps q q q q q<|RunL.ps q q q q q<|RunL.ps q q q q q<|Rv (O.pkF (.lit q) q (.k q))<|Va q<|Fi (.n q .nil)
        ·obtain rfl:=sm hj
         exact RunL.ps q q hb15 q q<|RunL.ps q q hb15 q q<|RunL.ps q q hb15 q q<|RunL.ps q q hb15 q q<|Rv (O.pkF (.lit q) hb15 (.k q))<|Vm q<|RunL.ps q q q q q<|RunL.ps q q q q q<|RunL.ps q q q q q<|RunL.ps q q q q q<|Rv (O.pkF (.lit q) q (.k q))<|Vm q<|RunL.ps q q q q q<|RunL.ps q q q q q<|RunL.ps q q q q q<|Rv (O.pkF (.lit q) q (.k q))<|Va q<|Fi (.n q .nil)
       ·obtain rfl:=sm hj
        exact RunL.ps q q hb13 q q<|RunL.ps q q hb13 q q<|RunL.ps q q hb13 q q<|Rv (O.pkF (.lit q) hb13 (.k q))<|Vm q<|RunL.ps q q q q q<|RunL.ps q q q q q<|RunL.ps q q q q q<|RunL.ps q q q q q<|Rv (O.pkF (.lit q) q (.k q))<|Vm q<|RunL.ps q q q q q<|RunL.ps q q q q q<|RunL.ps q q q q q<|RunL.ps q q q q q<|Rv (O.pkF (.lit q) q (.k q))<|Vm q<|RunL.ps q q q q q<|RunL.ps q q q q q<|RunL.ps q q q q q<|Rv (O.pkF (.lit q) q (.k q))<|Va q<|Fi (.n q .nil)
      ·obtain rfl:=sm hj
       exact RunL.ps q q hb11 q q<|RunL.ps q q hb11 q q<|RunL.ps q q hb11 q q<|RunL.ps q q hb11 q q<|RunL.ps q q hb11 q q<|RunL.ps q q hb11 q q<|Rv (O.pkF (.lit q) hb11 (.k q))<|Vm q<|RunL.ps q q q q q<|RunL.ps q q q q q<|RunL.ps q q q q q<|Rv (O.pkF (.lit q) q (.k q))<|Vm q<|RunL.ps q q q q q<|RunL.ps q q q q q<|RunL.ps q q q q q<|RunL.ps q q q q q<|Rv (O.pkF (.lit q) q (.k q))<|Vm q<|RunL.ps q q q q q<|RunL.ps q q q q q<|RunL.ps q q q q q<|RunL.ps q q q q q<|Rv (O.pkF (.lit q) q (.k q))<|Vm q<|RunL.ps q q q q q<|RunL.ps q q q q q<|RunL.ps q q q q q<|Rv (O.pkF (.lit q) q (.k q))<|Va q<|Fi (.n q .nil)
     ·obtain rfl:=sm hj
      exact RunL.ps q q hb8 q q<|RunL.ps q q hb8 q q<|RunL.ps q q hb8 q q<|RunL.ps q q hb8 q q<|RunL.ps q q hb8 q q<|RunL.ps q q hb8 q q<|RunL.ps q q hb8 q q<|Rv (O.pkF (.lit q) hb8 (.k q))<|Vm q<|RunL.ps q q q q q<|RunL.ps q q q q q<|RunL.ps q q q q q<|RunL.ps q q q q q<|RunL.ps q q q q q<|RunL.ps q q q q q<|Rv (O.pkF (.lit q) q (.k q))<|Vm q<|RunL.ps q q q q q<|RunL.ps q q q q q<|RunL.ps q q q q q<|Rv (O.pkF (.lit q) q (.k q))<|Vm q<|RunL.ps q q q q q<|RunL.ps q q q q q<|RunL.ps q q q q q<|RunL.ps q q q q q<|Rv (O.pkF (.lit q) q (.k q))<|Vm q<|RunL.ps q q q q q<|RunL.ps q q q q q<|RunL.ps q q q q q<|RunL.ps q q q q q<|Rv (O.pkF (.lit q) q (.k q))<|Vm q<|RunL.ps q q q q q<|RunL.ps q q q q q<|RunL.ps q q q q q<|Rv (O.pkF (.lit q) q (.k q))<|Va q<|Fi (.n q .nil)
    ·obtain rfl:=sm hj
     exact RunL.ps q q hb5 q q<|RunL.ps q q hb5 q q<|RunL.ps q q hb5 q q<|RunL.ps q q hb5 q q<|RunL.ps q q hb5 q q<|RunL.ps q q hb5 q q<|RunL.ps q q hb5 q q<|RunL.ps q q hb5 q q<|Rv (O.pkF (.lit q) hb5 (.k q))<|Vm q<|RunL.ps q q q q q<|RunL.ps q q q q q<|RunL.ps q q q q q<|RunL.ps q q q q q<|RunL.ps q q q q q<|RunL.ps q q q q q<|RunL.ps q q q q q<|Rv (O.pkF (.lit q) q (.k q))<|Vm q<|RunL.ps q q q q q<|RunL.ps q q q q q<|RunL.ps q q q q q<|RunL.ps q q q q q<|RunL.ps q q q q q<|RunL.ps q q q q q<|Rv (O.pkF (.lit q) q (.k q))<|Vm q<|RunL.ps q q q q q<|RunL.ps q q q q q<|RunL.ps q q q q q<|Rv (O.pkF (.lit q) q (.k q))<|Vm q<|RunL.ps q q q q q<|RunL.ps q q q q q<|RunL.ps q q q q q<|RunL.ps q q q q q<|Rv (O.pkF (.lit q) q (.k q))<|Vm q<|RunL.ps q q q q q<|RunL.ps q q q q q<|RunL.ps q q q q q<|RunL.ps q q q q q<|Rv (O.pkF (.lit q) q (.k q))<|Vm q<|RunL.ps q q q q q<|RunL.ps q q q q q<|RunL.ps q q q q q<|Rv (O.pkF (.lit q) q (.k q))<|Va q<|Fi (.n q .nil)
   ·obtain rfl:=sm hj
    exact RunL.ps q q hb4 q q<|RunL.ps q q hb4 q q<|RunL.ps q q hb4 q q<|Rv (O.pkF (.lit q) hb4 (.k q))<|Vm q<|RunL.ps q q q q q<|RunL.ps q q q q q<|RunL.ps q q q q q<|RunL.ps q q q q q<|RunL.ps q q q q q<|RunL.ps q q q q q<|RunL.ps q q q q q<|RunL.ps q q q q q<|Rv (O.pkF (.lit q) q (.k q))<|Vm q<|RunL.ps q q q q q<|RunL.ps q q q q q<|RunL.ps q q q q q<|RunL.ps q q q q q<|RunL.ps q q q q q<|RunL.ps q q q q q<|RunL.ps q q q q q<|Rv (O.pkF (.lit q) q (.k q))<|Vm q<|RunL.ps q q q q q<|RunL.ps q q q q q<|RunL.ps q q q q q<|RunL.ps q q q q q<|RunL.ps q q q q q<|RunL.ps q q q q q<|Rv (O.pkF (.lit q) q (.k q))<|Vm q<|RunL.ps q q q q q<|RunL.ps q q q q q<|RunL.ps q q q q q<|Rv (O.pkF (.lit q) q (.k q))<|Vm q<|RunL.ps q q q q q<|RunL.ps q q q q q<|RunL.ps q q q q q<|RunL.ps q q q q q<|Rv (O.pkF (.lit q) q (.k q))<|Vm q<|RunL.ps q q q q q<|RunL.ps q q q q q<|RunL.ps q q q q q<|RunL.ps q q q q q<|Rv (O.pkF (.lit q) q (.k q))<|Vm q<|RunL.ps q q q q q<|RunL.ps q q q q q<|RunL.ps q q q q q<|Rv (O.pkF (.lit q) q (.k q))<|Va q<|Fi (.n q .nil)
  ·obtain rfl:=sm hj
   exact RunL.ps q q hb3 q q<|RunL.ps q q hb3 q q<|Rv (O.pkF (.lit q) hb3 (.k q))<|Vm q<|RunL.ps q q q q q<|RunL.ps q q q q q<|RunL.ps q q q q q<|Rv (O.pkF (.lit q) q (.k q))<|Vm q<|RunL.ps q q q q q<|RunL.ps q q q q q<|RunL.ps q q q q q<|RunL.ps q q q q q<|RunL.ps q q q q q<|RunL.ps q q q q q<|RunL.ps q q q q q<|RunL.ps q q q q q<|Rv (O.pkF (.lit q) q (.k q))<|Vm q<|RunL.ps q q q q q<|RunL.ps q q q q q<|RunL.ps q q q q q<|RunL.ps q q q q q<|RunL.ps q q q q q<|RunL.ps q q q q q<|RunL.ps q q q q q<|Rv (O.pkF (.lit q) q (.k q))<|Vm q<|RunL.ps q q q q q<|RunL.ps q q q q q<|RunL.ps q q q q q<|RunL.ps q q q q q<|RunL.ps q q q q q<|RunL.ps q q q q q<|Rv (O.pkF (.lit q) q (.k q))<|Vm q<|RunL.ps q q q q q<|RunL.ps q q q q q<|RunL.ps q q q q q<|Rv (O.pkF (.lit q) q (.k q))<|Vm q<|RunL.ps q q q q q<|RunL.ps q q q q q<|RunL.ps q q q q q<|RunL.ps q q q q q<|Rv (O.pkF (.lit q) q (.k q))<|Vm q<|RunL.ps q q q q q<|RunL.ps q q q q q<|RunL.ps q q q q q<|RunL.ps q q q q q<|Rv (O.pkF (.lit q) q (.k q))<|Vm q<|RunL.ps q q q q q<|RunL.ps q q q q q<|RunL.ps q q q q q<|Rv (O.pkF (.lit q) q (.k q))<|Va q<|Fi (.n q .nil)
 refine Px.sq<|W.rt ?_
 obtain rfl:=sm h
 exact Px.fin (Fin.ro (.f q q .nil) q (ode (by kernel_rfl)) .nil q (.inr q))
theorem con14 (a0:(List Int)) (r:Bool) (h:pf14 a0=some r):Con Try.prog 14 [iR eI a0] [none] (BB r):=by
 unfold pf14 at h
 refine Con.go (N:=⟨104,[]⟩) Try.func14 q q q q (W.fin ?_)
 refine W.st [(0,iR eI a0)] ?_
 refine W.sq'<|W.rx [(0,_)] (Vk q<|Fi (.n q .nil)) ?_
 refine Px.sq<|W.sq' ?_
 refine W.sq' ?_
 obtain ⟨x1,hx1,h⟩:=bnd h
 refine W.rx [(0,_),(14,_)] (Rc (PC.go .nil (con43  _ hx1) call43 q)<|Rv (O.not (.lit q))<|Fi (tn2 q q)) ?_
 refine Px.sq<|W.cnd q (fun hb2=>?_) (fun hb2=>?_)
 ·replace h:=cndT hb2 h
  refine W.sq'<|W.rx [(2,_)] (Vk q<|Fi (.n q .nil)) ?_
  refine Px.sq<|W.rt ?_
  refine Px.sqR ?_
  obtain rfl:=sm h
  exact Px.fin (Fin.ro (.f q q .nil) q (ode (by kernel_rfl)) (.no .nil) q (.inr q))
 ·replace h:=cndF hb2 h
  refine W.sk<|Px.sq ?_
  refine W.sq'<|W.rx [(0,_),(3,_)] (Rv (O.bu (cs:=[SS ({ data:=#[115] }),.nils,I64 0]) sc65 ze65 q q q)<|Rv (O.al (cs:=[SS S0,.nils,I64 0]) ze65 q q)<|RunL.sO (G2:=[(0,iR eI a0),(3,.obj [SS ({ data:=#[115] }),.nils,I64 0])]) (cs2:=[SS ({ data:=#[115] }),.nils,I64 0]) q (.obj q) (.aggF q q) q sz65 q q q q (.n q q (.b q .nil))<|Fi (tn2 q q)) ?_
  refine Px.sq<|W.sq' ?_
  refine W.rx [(0,_),(3,_),(4,_)] (Vk q<|Fi (tn3 q q q)) ?_
  refine Px.sq<|W.sq' ?_
  refine W.sq'<|W.rx [(0,_),(3,_),(4,_),(5,_)] (Vk q<|Fi (tn4 q q q q)) ?_
  refine Px.sq<|W.bk ?_
  obtain ⟨x4,hl,h⟩:=bnd h
  refine W.tr (G1:=[(0,iR eI a0),(3,.obj [SS ({ data:=#[115] }),oR eAlt_0 ([]:List Alt),I64 0]),(4,I64 2),(5,I64 0)]) (.n q (.w q q (WkL.obj (.f (.o (.f .nil)))) (tn2 q q))) ?_
  refine W.lp1 (s:=(([]:List Alt),2,0)) (fun (s3:List Alt × Int × Int)=>[(0,iR eI a0),(3,.obj [SS ({ data:=#[115] }),oR eAlt_0 s3.1,I64 0]),(4,I64 s3.2.1),(5,I64 s3.2.2)]) 0 (fun (x4:List Alt × Int)=>[(3,.obj [SS ({ data:=#[115] }),oR eAlt_0 x4.1,I64 0]),(4,I64 x4.2)]) hl (fun s3 o h=>?_) ?_
  ·clear hl
   refine W.sq'<|W.sq' ?_
   obtain ⟨c7,hj,h⟩:=bnd h
   refine W.rx [(0,iR eI a0),(3,.obj [SS ({ data:=#[115] }),oR eAlt_0 s3.1,I64 0]),(4,I64 s3.2.1),(5,I64 s3.2.2),(23,BB c7)] ?_ ?_
   ·refine Vm q<|Rv (O.mv (.imm q))<|Rv (O.lenI (.imm q) sl27)<|Rv (O.lss (.lit q) (.lit q))<|Rv (O.mv (.lit q)) ?_
    rcases cnd hj with ⟨hb6,hj⟩ | ⟨hb6,hj⟩
    ·obtain rfl:=sm hj
     exact RunL.v (O.mv (.lit q)) q q (.yb q q hb6)<|RunL.v (O.lss (.lit q) (.k q)) q q (.yb q q hb6)<|Rv (O.pkT (.lit q) hb6 (.lit q))<|Fi (tn5 q q q q q)
    ·obtain rfl:=sm hj
     exact RunL.ps q q hb6 q q<|RunL.ps q q hb6 q q<|Rv (O.pkF (.lit q) hb6 (.k q))<|Fi (tn5 q q q q q)
   refine Px.sq<|W.cnd q (fun hb8=>?_) (fun hb8=>?_)
   ·replace h:=cndT hb8 h
    refine W.sk<|Px.sq ?_
    refine W.sq'<|W.bk ?_
    refine W.sq'<|W.rx [(0,_),(3,_),(4,_),(5,_),(6,_)] (Vm q<|Rv (O.add (.k q) (.lit q))<|Rv (O.cvI (.lit q) it3 it5)<|RunL.vi (x:=iR eU [w8 (w64 (97+s3.2.2))]) (O.bs (ys:=[U8 (w8 (w64 (97+s3.2.2)))]) eU [w8 (w64 (97+s3.2.2))] sl107 q q q q q q zt5 q q) q q .none<|Rv (O.cvC (.imm q) by107_9)<|Rv (O.bu (cs:=[SS (strOfNums [w8 (w64 (97+s3.2.2))]),BB true,I64 0,I64 0]) sc59 ze59 q q q)<|Rv (O.bu (cs:=[SS (strOfNums [w8 (w64 (97+s3.2.2))]),BB true,I64 0,I64 0,SS S0,I64 0]) sc109 ze109 q q q)<|Rv (O.bsL (ys:=[.agg [SS (strOfNums [w8 (w64 (97+s3.2.2))]),BB true,I64 0,I64 0,SS S0,I64 0]]) (cs:=[SS (strOfNums [w8 (w64 (97+s3.2.2))]),BB true,I64 0,I64 0,SS S0,I64 0]) sl60 q q q q q zt109 q q)<|Rv (O.bu (cs:=[.brw 6 ⟨33,[]⟩ 1,SS S0,BB false,I64 0,I64 0,I64 0]) sc62 ze62 q q q)<|Rv (O.al (cs:=[.nils,SS S0,BB false,I64 0,I64 0,I64 0]) ze62 q q)<|RunL.ef (G2:=[(0,iR eI a0),(3,.obj [SS ({ data:=#[115] }),oR eAlt_0 s3.1,I64 0]),(4,I64 s3.2.1),(5,I64 s3.2.2),(6,.obj [oR ePart [(⟨(⟨strOfNums [w8 (w64 (97+s3.2.2))],true,0,0⟩:Sym),S0,0⟩:Part)],SS S0,BB false,I64 0,I64 0,I64 0])]) q (EO.stB (y':=.agg [oR ePart [(⟨(⟨strOfNums [w8 (w64 (97+s3.2.2))],true,0,0⟩:Sym),S0,0⟩:Part)],SS S0,BB false,I64 0,I64 0,I64 0]) (cs2:=[oR ePart [(⟨(⟨strOfNums [w8 (w64 (97+s3.2.2))],true,0,0⟩:Sym),S0,0⟩:Part)],SS S0,BB false,I64 0,I64 0,I64 0]) q q (.obj q) (.aggF q q) (.ag (.l q q (.f (.f (.f (.f (.f (.f .nil)))))) (.f (.f (.f (.f (.f .nil)))))) .nil) (FzL.agg (.f (.f (.f (.f (.f (.f .nil))))))) q sz62 q q q q q (.n q q (.n q q (.n q q (.n q q (.b q .nil))))))<|Fi (tn5 q q q q q)) ?_
    refine Px.sq<|W.sq' ?_
    obtain ⟨x9,hx9,h⟩:=bnd h
    obtain ⟨x10,hx10,h⟩:=bnd h
    refine W.rx [(0,_),(3,_),(4,_),(5,_),(6,_),(7,_)] (Rv (O.mv (.imm q))<|Vm q<|Rv (O.ixI (.imm q) (.lit q) sl27 hx9)<|Rv (O.ldI (x:=I64 x9) (.iptr q) ct3 q)<|Rc (PC.go (.cc (.lit q) (.cc (.k q) .nil)) (con22 x9 8 _ hx10) call22 q)<|Va q<|Fi (tn6 q q q q q q)) ?_
    refine Px.sq<|W.sq' ?_
    refine W.sq'<|W.rx [(0,_),(3,_),(4,_),(5,_),(6,_),(7,_),(8,_)] (Vk q<|Fi (tn7 q q q q q q q)) ?_
    refine Px.sq<|W.bk ?_
    obtain ⟨x12,hl,h⟩:=bnd h
    refine W.tr (G1:=[(0,iR eI a0),(3,.obj [SS ({ data:=#[115] }),oR eAlt_0 s3.1,I64 0]),(4,I64 s3.2.1),(5,I64 s3.2.2),(6,.obj [oR ePart [(⟨(⟨strOfNums [w8 (w64 (97+s3.2.2))],true,0,0⟩:Sym),S0,0⟩:Part)],SS S0,BB false,I64 0,I64 0,I64 0]),(7,I64 x10),(8,I64 0)]) (tn7 q q q q q q q) ?_
    refine W.lp1 (s:=([(⟨(⟨strOfNums [w8 (w64 (97+s3.2.2))],true,0,0⟩:Sym),S0,0⟩:Part)],0)) (fun (s11:List Part × Int)=>[(0,iR eI a0),(3,.obj [SS ({ data:=#[115] }),oR eAlt_0 s3.1,I64 0]),(4,I64 s3.2.1),(5,I64 s3.2.2),(6,.obj [oR ePart s11.1,SS S0,BB false,I64 0,I64 0,I64 0]),(7,I64 x10),(8,I64 s11.2)]) 2 (fun (x12:List Part)=>[(0,iR eI a0),(3,.obj [SS ({ data:=#[115] }),oR eAlt_0 s3.1,I64 0]),(4,I64 s3.2.1),(5,I64 s3.2.2),(6,.obj [oR ePart x12,SS S0,BB false,I64 0,I64 0,I64 0]),(7,I64 x10)]) hl (fun s11 o h=>?_) ?_
    ·clear hl
     refine W.sq'<|W.sq' ?_
     refine W.rx [(0,_),(3,_),(4,_),(5,_),(6,_),(7,_),(8,_),(42,_)] (Vm q<|Vm q<|Rv (O.lss (.lit q) (.lit q))<|Fi (tn8 q q q q q q q q)) ?_
     refine Px.sq<|W.cnd q (fun hb14=>?_) (fun hb14=>?_)
     ·replace h:=cndT hb14 h
      refine W.sk<|Px.sq ?_
      refine W.sq'<|W.bk ?_
      obtain ⟨x15,hx15,h⟩:=bnd h
      refine W.rx [(0,_),(3,_),(4,_),(5,_),(6,_),(7,_),(8,_)] (Rv (O.fO q (.obj q) fd62_0 q)<|Rv (O.ldO (y:=.brw ePart.z ⟨6,[0]⟩ s11.1.length) q (.ptr q) ct60 q q)<|Rv (O.bu (cs:=[SS ({ data:=#[43] }),BB true,I64 0,I64 0]) sc59 ze59 q q q)<|Rv (O.bu (cs:=[SS ({ data:=#[43] }),BB true,I64 0,I64 0,SS S0,I64 0]) sc109 ze109 q q q)<|RunL.vi (x:=iR ePart [(⟨(⟨{ data:=#[43] },true,0,0⟩:Sym),S0,0⟩:Part)]) (O.bs (ys:=[.agg [SS ({ data:=#[43] }),BB true,I64 0,I64 0,SS S0,I64 0]]) ePart [(⟨(⟨{ data:=#[43] },true,0,0⟩:Sym),S0,0⟩:Part)] sl60 q q q q q q zt109 q q) q q .none<|Rv (O.ap (en:=ePart) (r:=x15) (.brw q) q (.imm q) .i ap60 q hx15)<|Rv (O.fO q (.obj q) fd62_0 q)<|RunL.ef (G2:=[(0,iR eI a0),(3,.obj [SS ({ data:=#[115] }),oR eAlt_0 s3.1,I64 0]),(4,I64 s3.2.1),(5,I64 s3.2.2),(6,.obj [oR ePart (s11.1++[(⟨(⟨{ data:=#[43] },true,0,0⟩:Sym),S0,0⟩:Part)]),SS S0,BB false,I64 0,I64 0,I64 0]),(7,I64 x10),(8,I64 s11.2)]) q (EO.stP (g1:=_) (en:=ePart) (M:=[(⟨(⟨{ data:=#[43] },true,0,0⟩:Sym),S0,0⟩:Part)]) (cs2:=[oR ePart (s11.1++[(⟨(⟨{ data:=#[43] },true,0,0⟩:Sym),S0,0⟩:Part)]),SS S0,BB false,I64 0,I64 0,I64 0]) q q (.ptr q) (.pend q) q q q .ns .rf q q sz60 q q q q (.n q q (.n q q (.n q q (.n q q (.b q (.n q q (.n q q .nil))))))))<|Fi (tn7 q q q q q q q)) ?_
      refine Px.bk ?_
      refine Px.sq<|W.rx [(0,_),(3,_),(4,_),(5,_),(6,_),(7,_),(8,_)] (Vm q<|Rv (O.add (.lit q) (.k q))<|RunL.re (G1:=[(0,iR eI a0),(3,.obj [SS ({ data:=#[115] }),oR eAlt_0 s3.1,I64 0]),(4,I64 s3.2.1),(5,I64 s3.2.2),(6,.obj [oR ePart (s11.1++[(⟨(⟨{ data:=#[43] },true,0,0⟩:Sym),S0,0⟩:Part)]),SS S0,BB false,I64 0,I64 0,I64 0]),(7,I64 x10),(44,I64 (w64 (s11.2+1)))]) (tn7 q q q q q q q)<|Va q<|Fi (tn7 q q q q q q q)) ?_
      obtain rfl:=sm h
      exact Px.go (tn7 q q q q q q q)
     ·replace h:=cndF hb14 h
      refine W.xi ?_
      refine Px.sqE ?_
      obtain rfl:=sm h
      exact Px.x1 (tn6 q q q q q q)
    refine Px.bkH ?_
    refine Px.sq<|W.sq' ?_
    refine W.rx [(0,_),(3,_),(4,_),(5,_),(6,_)] (Vm q<|Vm q<|Rv (O.add (.lit q) (.k q))<|Rv (O.add (.lit q) (.lit q))<|RunL.re (G1:=[(0,iR eI a0),(3,.obj [SS ({ data:=#[115] }),oR eAlt_0 s3.1,I64 0]),(5,I64 s3.2.2),(6,.obj [oR ePart x12,SS S0,BB false,I64 0,I64 0,I64 0]),(55,I64 (w64 (s3.2.1+(w64 (x10+1)))))]) (tn5 q q q q q)<|Va q<|Fi (tn5 q q q q q)) ?_
    refine Px.sq<|W.fz (G1:=[(0,iR eI a0),(3,.obj [SS ({ data:=#[115] }),oR eAlt_0 s3.1,I64 0]),(4,I64 (w64 (s3.2.1+(w64 (x10+1))))),(5,I64 s3.2.2),(6,.obj [iR ePart x12,SS S0,BB false,I64 0,I64 0,I64 0])]) [6] (.n q q (.n q q (.n q q (.n q q (.z q q (FzL.obj (.z (.f (.f (.f (.f (.f .nil))))))) .nil))))) ?_
    obtain ⟨x16,hx16,h⟩:=bnd h
    refine W.rx [(0,_),(3,_),(4,_),(5,_)] (Rv (O.fO q (.obj q) fd65_1 q)<|Rv (O.ldO (y:=.brw eAlt_0.z ⟨3,[1]⟩ s3.1.length) q (.ptr q) ct63 q q)<|Rv (O.ldON (cs':=[iR ePart x12,SS S0,BB false,I64 0,I64 0,I64 0]) q (.obj q) at62 q q)<|RunL.vi (x:=iR eAlt_0 [(⟨x12,(⟨S0,false,0,0⟩:Sym),0⟩:Alt)]) (O.bs (ys:=[.agg [iR ePart x12,SS S0,BB false,I64 0,I64 0,I64 0]]) eAlt_0 [(⟨x12,(⟨S0,false,0,0⟩:Sym),0⟩:Alt)] sl63 q q q q q q zt62 q q) q q .none<|Rv (O.ap (en:=eAlt_0) (r:=x16) (.brw q) q (.imm q) .i ap63 q hx16)<|Rv (O.fO q (.obj q) fd65_1 q)<|RunL.ef (G2:=[(0,iR eI a0),(3,.obj [SS ({ data:=#[115] }),oR eAlt_0 (s3.1++[(⟨x12,(⟨S0,false,0,0⟩:Sym),0⟩:Alt)]),I64 0]),(4,I64 (w64 (s3.2.1+(w64 (x10+1))))),(5,I64 s3.2.2)]) q (EO.stP (g1:=_) (en:=eAlt_0) (M:=[(⟨x12,(⟨S0,false,0,0⟩:Sym),0⟩:Alt)]) (cs2:=[SS ({ data:=#[115] }),oR eAlt_0 (s3.1++[(⟨x12,(⟨S0,false,0,0⟩:Sym),0⟩:Alt)]),I64 0]) q q (.ptr q) (.pend q) q q q .ns .rf q q sz63 q q q q (.n q q (.b q (.n q q (.n q q .nil)))))<|Fi (tn4 q q q q)) ?_
    refine Px.bk ?_
    refine Px.sq<|W.rx [(0,_),(3,_),(4,_),(5,_)] (Vm q<|Rv (O.add (.lit q) (.k q))<|RunL.re (G1:=[(0,iR eI a0),(3,.obj [SS ({ data:=#[115] }),oR eAlt_0 (s3.1++[(⟨x12,(⟨S0,false,0,0⟩:Sym),0⟩:Alt)]),I64 0]),(4,I64 (w64 (s3.2.1+(w64 (x10+1))))),(25,I64 (w64 (s3.2.2+1)))]) (tn4 q q q q)<|Va q<|Fi (tn4 q q q q)) ?_
    obtain rfl:=sm h
    exact Px.go (tn4 q q q q)
   ·replace h:=cndF hb8 h
    refine W.xi ?_
    refine Px.sqE ?_
    obtain rfl:=sm h
    exact Px.x1 (tn2 q q)
  refine Px.bkH ?_
  refine Px.sq<|W.sq' ?_
  refine W.sq'<|W.rx [(3,_),(4,_),(65,_)] (Rv (O.fO q (.obj q) fd65_1 q)<|Rv (O.ldO (y:=.brw eAlt_0.z ⟨3,[1]⟩ x4.1.length) q (.ptr q) ct63 q q)<|Rv (O.lenO (.brw q) sl63)<|Rv (O.eql (.lit q) (.k q))<|Fi (tn3 q q q)) ?_
  refine Px.sq ?_
  obtain ⟨j17,hj,h⟩:=bnd h
  refine W.jn [(3,.obj [SS ({ data:=#[115] }),oR eAlt_0 j17,I64 0]),(4,I64 x4.2)] ?_ ?_
  ·clear h; have h:=hj; clear hj
   refine W.cnd q (fun hb18=>?_) (fun hb18=>?_)
   ·replace h:=cndT hb18 h
    refine W.rx [(3,_),(4,_)] (RunL.vi (x:=.agg [iR ePart ([]:List Part),SS S0,BB false,I64 0,I64 0,I64 0]) (O.bu (cs:=[.nils,SS S0,BB false,I64 0,I64 0,I64 0]) sc62 ze62 q q q) q q .none<|Rv (O.bs (ys:=[.agg [iR ePart ([]:List Part),SS S0,BB false,I64 0,I64 0,I64 0]]) eAlt_0 [(⟨([]:List Part),(⟨S0,false,0,0⟩:Sym),0⟩:Alt)] sl63 q q q q q q zt62 q q)<|Rv (O.fO q (.obj q) fd65_1 q)<|RunL.ef (G2:=[(3,.obj [SS ({ data:=#[115] }),oR eAlt_0 [(⟨([]:List Part),(⟨S0,false,0,0⟩:Sym),0⟩:Alt)],I64 0]),(4,I64 x4.2)]) q (EO.stB (y':=oR eAlt_0 [(⟨([]:List Part),(⟨S0,false,0,0⟩:Sym),0⟩:Alt)]) (cs2:=[SS ({ data:=#[115] }),oR eAlt_0 [(⟨([]:List Part),(⟨S0,false,0,0⟩:Sym),0⟩:Alt)],I64 0]) q q (.ptr q) (.own q) (.r q .nil) .refl q sz63 q q q q q (.b q (.n q q .nil)))<|Fi (tn2 q q)) ?_
    obtain rfl:=sm h
    exact Px.jn (tn2 q q)
   ·replace h:=cndF hb18 h
    refine W.sk ?_
    obtain rfl:=sm h
    exact Px.jn (tn2 q q)
  refine Px.sq<|W.sq' ?_
  refine W.fz (G1:=[(3,.obj [SS ({ data:=#[115] }),iR eAlt_0 j17,I64 0]),(4,I64 x4.2)]) [3] (.z q q (FzL.obj (.f (.z (.f .nil)))) (.n q q .nil)) ?_
  obtain ⟨x19,hx19,h⟩:=bnd h
  refine W.rx [(4,_),(9,_),(10,_)] (Rv (O.ldON (cs':=[SS ({ data:=#[115] }),iR eAlt_0 j17,I64 0]) q (.obj q) at65 q q)<|RunL.vi (x:=iR eRule_0 [(⟨{ data:=#[115] },j17,0⟩:Rule)]) (O.bs (ys:=[.agg [SS ({ data:=#[115] }),iR eAlt_0 j17,I64 0]]) eRule_0 [(⟨{ data:=#[115] },j17,0⟩:Rule)] sl23 q q q q q q zt65 q q) q q .none<|RunL.vi (x:=.agg [SS S0,iR eDecl_0 ([]:List Decl),iR eRule_0 [(⟨{ data:=#[115] },j17,0⟩:Rule)],SS S0]) (O.bu (cs:=[SS S0,.nils,iR eRule_0 [(⟨{ data:=#[115] },j17,0⟩:Rule)],SS S0]) sc25 ze25 q q q) q q .none<|Rc (PC.go (.cc (.aggF q q) .nil) (con20 (⟨S0,([]:List Decl),[(⟨{ data:=#[115] },j17,0⟩:Rule)],S0⟩:Source) _ hx19) call20 q)<|Rv (O.mv (.tup q q))<|Rv (O.ex (y:=.agg (eGrammar_0.cells x19.1)) q q q)<|Rv (O.ex (y:=BB x19.2) q q q)<|Rv (O.al (cs:=[.nils,.nils,.nils,SS S0,SS S0]) ze38 q q)<|RunL.sO (G2:=[(4,I64 x4.2),(9,.obj (eGrammar_0.cells x19.1)),(75,BB x19.2)]) (cs2:=[iR eTok x19.1.Toks,iR eNon x19.1.Nons,iR eProd_0 x19.1.Prods,SS x19.1.Pro,SS x19.1.Tail]) q (.obj q) (.aggF q q) q sz38 q q q q (.n q q (.b q (.n q q .nil)))<|Va q<|Fi (tn3 q q q)) ?_
  refine Px.sq<|W.sq' ?_
  obtain ⟨x20,hx20,h⟩:=bnd h
  refine W.rx [(4,_),(10,_),(11,_),(12,_)] (Rv (O.ldON (cs':=[iR eTok x19.1.Toks,iR eNon x19.1.Nons,iR eProd_0 x19.1.Prods,SS x19.1.Pro,SS x19.1.Tail]) q (.obj q) at38 q q)<|Rc (PC.go (.cc (.aggF q q) .nil) (con44 x19.1 _ hx20) call44 q)<|Rv (O.mv (.tupF q q))<|Rv (O.ex (y:=iR eState_0 x20.1) q q q)<|Rv (O.ex (y:=I64 x20.2) q q q)<|Rv (O.az (.imm q))<|Va q<|Fi (tn4 q q q q)) ?_
  refine Px.sq<|W.sq' ?_
  refine W.sq'<|W.rx [(4,_),(10,_),(11,_),(12,_),(82,_)] (Vm q<|Rv (O.gtr (.lit q) (.k q))<|Fi (tn5 q q q q q)) ?_
  refine Px.sq<|W.cnd q (fun hb21=>?_) (fun hb21=>?_)
  ·replace h:=cndT hb21 h
   refine W.sq' ?_
   obtain ⟨c24,hj,h⟩:=bnd h
   refine W.rx [(2,BB c24)] ?_ ?_
   ·refine Vm q<|Rv (O.mv (.lit q)) ?_
    rcases cnd hj with ⟨hb22,hj⟩ | ⟨hb22,hj⟩
    ·refine RunL.v (O.mv (.lit q)) q q (.yb q q hb22)<|RunL.v (O.eql (.lit q) (.k q)) q q (.yb q q hb22)<|Rv (O.pkT (.lit q) hb22 (.lit q))<|Rv (O.mv (.lit q)) ?_
     rcases cnd hj with ⟨hb23,hj⟩ | ⟨hb23,hj⟩
     ·obtain rfl:=sm hj
      exact RunL.v (O.mv (.imm q)) q q (.yb q q hb23)<|RunL.v (O.lenI (.imm q) sl85) q q (.yb q q hb23)<|RunL.v (O.eql (.lit q) (.k q)) q q (.yb q q hb23)<|Rv (O.pkT (.lit q) hb23 (.lit q))<|Va q<|Fi (.n q .nil)
     ·obtain rfl:=sm hj
      exact RunL.ps q q hb23 q q<|RunL.ps q q hb23 q q<|RunL.ps q q hb23 q q<|Rv (O.pkF (.lit q) hb23 (.k q))<|Va q<|Fi (.n q .nil)
    ·obtain rfl:=sm hj
     exact RunL.ps q q hb22 q q<|RunL.ps q q hb22 q q<|Rv (O.pkF (.lit q) hb22 (.k q))<|Vm q<|RunL.ps q q q q q<|RunL.ps q q q q q<|RunL.ps q q q q q<|Rv (O.pkF (.lit q) q (.k q))<|Va q<|Fi (.n q .nil)
   refine Px.sq<|W.rt ?_
   refine Px.sqR ?_
   obtain rfl:=sm h
   exact Px.fin (Fin.ro (.f q q .nil) q (ode (by kernel_rfl)) (.no .nil) q (.inr q))
  ·replace h:=cndF hb21 h
   refine W.sk<|Px.sq ?_
   refine W.sq' ?_
   obtain ⟨c27,hj,h⟩:=bnd h
   refine W.rx [(2,BB c27)] ?_ ?_
   ·refine Vm q<|Rv (O.mv (.lit q)) ?_
    rcases cnd hj with ⟨hb25,hj⟩ | ⟨hb25,hj⟩
    ·refine RunL.v (O.mv (.lit q)) q q (.yb q q hb25)<|RunL.v (O.eql (.lit q) (.k q)) q q (.yb q q hb25)<|Rv (O.pkT (.lit q) hb25 (.lit q))<|Rv (O.mv (.lit q)) ?_
     rcases cnd hj with ⟨hb26,hj⟩ | ⟨hb26,hj⟩
     ·obtain rfl:=sm hj
      exact RunL.v (O.mv (.imm q)) q q (.yb q q hb26)<|RunL.v (O.lenI (.imm q) sl85) q q (.yb q q hb26)<|RunL.v (O.mv (.lit q)) q q (.yb q q hb26)<|RunL.v (O.eql (.lit q) (.lit q)) q q (.yb q q hb26)<|Rv (O.pkT (.lit q) hb26 (.lit q))<|Va q<|Fi (.n q .nil)
     ·obtain rfl:=sm hj
      exact RunL.ps q q hb26 q q<|RunL.ps q q hb26 q q<|RunL.ps q q hb26 q q<|RunL.ps q q hb26 q q<|Rv (O.pkF (.lit q) hb26 (.k q))<|Va q<|Fi (.n q .nil)
    ·obtain rfl:=sm hj
     exact RunL.ps q q hb25 q q<|RunL.ps q q hb25 q q<|Rv (O.pkF (.lit q) hb25 (.k q))<|Vm q<|RunL.ps q q q q q<|RunL.ps q q q q q<|RunL.ps q q q q q<|RunL.ps q q q q q<|Rv (O.pkF (.lit q) q (.k q))<|Va q<|Fi (.n q .nil)
   refine Px.sq<|W.rt ?_
   obtain rfl:=sm h
   exact Px.fin (Fin.ro (.f q q .nil) q (ode (by kernel_rfl)) (.no .nil) q (.inr q))
end Go.Proofs
