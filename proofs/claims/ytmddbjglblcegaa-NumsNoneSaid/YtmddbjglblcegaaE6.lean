/-
  What is proved here: parts of the proof that the last text states: rules for walks through code, and of this program's functions what they answer. No condition of their own.
-/
import Derived.KernelRfl
import Derived.ProofKit
import Derived.RowKit3
import Derived.Test.YtmddbjglblcegaaRows
import Derived.Test.YtmddbjglblcegaaE5
namespace Go.Proofs
open Go Go.Own
set_option maxRecDepth 100000
set_option linter.unusedVariables false
theorem con61 (a0:Source) (r:Grammar × Int × Int × ByteArray) (h:pf61 a0=some r):Con Try.prog 61 [.agg [SS a0.Pro,iR eDecl_0 a0.Decls,iR eRule_0 a0.Rules,SS a0.Tail]] [none] (.tup [.agg (eGrammar_0.cells r.1),I64 r.2.1,I64 r.2.2.1,SS r.2.2.2]):=by
 unfold pf61 at h
 refine Con.go (N:=⟨435,[]⟩) Try.func61 q q q q (W.fin ?_)
 refine W.st [(0,.agg [SS a0.Pro,iR eDecl_0 a0.Decls,iR eRule_0 a0.Rules,SS a0.Tail])] ?_
 refine W.sq'<|W.rx [(1,_),(2,_)] (Rv (O.box (.aggF q q) q)<|Rv (O.al (cs:=[.nils,.nils,.nils,SS S0,SS S0]) ze38 q q)<|Vk q<|Vk q<|Vk q<|Fi (tn2 q q)) ?_
 refine Px.sq<|W.sq' ?_
 refine W.sq' ?_
 obtain ⟨x1,hx1,h⟩:=bnd h
 refine W.rx [(1,_),(2,_),(28,_)] (Rv (O.ldON (cs':=[SS a0.Pro,iR eDecl_0 a0.Decls,iR eRule_0 a0.Rules,SS a0.Tail]) q (.obj q) at25 q q)<|Rc (PC.go (.cc (.aggF q q) .nil) (con88 a0 _ hx1) call88 q)<|Rv (O.not (.lit q))<|Fi (tn3 q q q)) ?_
 refine Px.sq<|W.cnd q (fun hb2=>?_) (fun hb2=>?_)
 ·replace h:=cndT hb2 h
  refine W.sq'<|W.rx [(2,_),(3,_),(4,_),(5,_)] (Rv (O.bu (cs:=[.nils,.nils,.nils,SS S0,SS S0]) sc38 ze38 q q q)<|RunL.sO (G2:=[(2,.obj [.nils,.nils,.nils,SS S0,SS S0])]) (cs2:=[.nils,.nils,.nils,SS S0,SS S0]) q (.obj q) (.aggF q q) q sz38 q q q q (.b q .nil)<|Vk q<|Vk q<|Vk q<|Fi (tn4 q q q q)) ?_
  refine Px.sq<|W.fz (G1:=[(2,.obj [iR eTok ([]:List Tok),iR eNon ([]:List Non),iR eProd_0 ([]:List Prod),SS S0,SS S0]),(3,_),(4,_),(5,_)]) [2] (.z q q (FzL.obj (.z (.z (.z (.f (.f .nil)))))) (.n q q (.n q q (.n q q .nil)))) ?_
  refine W.rt ?_
  refine Px.sqR ?_
  obtain rfl:=sm h
  exact Px.fin (Fin.ro (.c (ys0:=[iR eTok ([]:List Tok),iR eNon ([]:List Non),iR eProd_0 ([]:List Prod),SS S0,SS S0]) q at38 q q q (.f q (.f q (.f q (.f q (.f q .nil))))) (.f q q (.f q q (.f q q .nil)))) q (ode (by kernel_rfl)) (.no .nil) q (.inr q))
 ·replace h:=cndF hb2 h
  refine W.sk<|Px.sq ?_
  refine W.sq' ?_
  obtain ⟨x3,hx3,h⟩:=bnd h
  refine W.rx [(1,_),(2,_),(6,_)] (Rv (O.mk (en:=eB) (z0:=false) sl116 (.k q) (.k q) ze4 q q hx3 bb4 q)<|Rv (O.bu (cs:=[.nils,.nils,.nils,SS S0,SS S0,.brw eB.z ⟨30,[]⟩ x3.length,.nils,.nils,I64 0,I64 0,SS S0,I64 0,I64 0]) sc143 ze143 q q q)<|Rv (O.box (.aggF q q) q)<|RunL.ea (G2:=[(1,.obj [SS a0.Pro,iR eDecl_0 a0.Decls,iR eRule_0 a0.Rules,SS a0.Tail]),(2,.obj [.nils,.nils,.nils,SS S0,SS S0])]) q (EO.aG (y':=.obj [.nils,.nils,.nils,SS S0,SS S0,oR eB x3,.nils,.nils,I64 0,I64 0,SS S0,I64 0,I64 0]) q q (.obj q) (.b q (.f (.f (.f (.f (.f (.r q (.f (.f (.f (.f (.f (.f (.f .nil))))))))))))) .nil) .refl (tn2 q q) q q)<|Fi (tn3 q q q)) ?_
  refine Px.sq<|W.sq' ?_
  refine W.rx [(1,_),(2,_),(6,_)] (Rv (O.mv (.obj q))<|Rv (O.bu (cs:=[SS ({ data:=#[36,101,110,100] }),BB false,I64 0,I64 0,I64 0,SS S0]) sc51 ze51 q q q)<|Rv (O.bu (cs:=[SS ({ data:=#[101,114,114,111,114] }),BB false,I64 (-1),I64 0,I64 0,SS S0]) sc51 ze51 q q q)<|Rv (O.bu (cs:=[SS ({ data:=#[36,117,110,107] }),BB false,I64 (-1),I64 0,I64 0,SS S0]) sc51 ze51 q q q)<|Rv (O.bs (ys:=[.agg [SS ({ data:=#[36,101,110,100] }),BB false,I64 0,I64 0,I64 0,SS S0],.agg [SS ({ data:=#[101,114,114,111,114] }),BB false,I64 (-1),I64 0,I64 0,SS S0],.agg [SS ({ data:=#[36,117,110,107] }),BB false,I64 (-1),I64 0,I64 0,SS S0]]) eTok [(⟨{ data:=#[36,101,110,100] },false,0,0,0,S0⟩:Tok),(⟨{ data:=#[101,114,114,111,114] },false,(-1),0,0,S0⟩:Tok),(⟨{ data:=#[36,117,110,107] },false,(-1),0,0,S0⟩:Tok)] sl34 q q q q q q zt51 q q)<|Rv (O.nlP (.ptr q))<|Rv (O.fO q (.ptr q) fd143_0 q)<|Rv (O.fO q (.ptr q) fd38_0 q)<|RunL.ef (G2:=[(1,.obj [SS a0.Pro,iR eDecl_0 a0.Decls,iR eRule_0 a0.Rules,SS a0.Tail]),(2,.obj [.nils,.nils,.nils,SS S0,SS S0]),(6,.obj [oR eTok [(⟨{ data:=#[36,101,110,100] },false,0,0,0,S0⟩:Tok),(⟨{ data:=#[101,114,114,111,114] },false,(-1),0,0,S0⟩:Tok),(⟨{ data:=#[36,117,110,107] },false,(-1),0,0,S0⟩:Tok)],.nils,.nils,SS S0,SS S0,oR eB x3,.nils,.nils,I64 0,I64 0,SS S0,I64 0,I64 0])]) q (EO.stB (y':=oR eTok [(⟨{ data:=#[36,101,110,100] },false,0,0,0,S0⟩:Tok),(⟨{ data:=#[101,114,114,111,114] },false,(-1),0,0,S0⟩:Tok),(⟨{ data:=#[36,117,110,107] },false,(-1),0,0,S0⟩:Tok)]) (cs2:=[oR eTok [(⟨{ data:=#[36,101,110,100] },false,0,0,0,S0⟩:Tok),(⟨{ data:=#[101,114,114,111,114] },false,(-1),0,0,S0⟩:Tok),(⟨{ data:=#[36,117,110,107] },false,(-1),0,0,S0⟩:Tok)],.nils,.nils,SS S0,SS S0,oR eB x3,.nils,.nils,I64 0,I64 0,SS S0,I64 0,I64 0]) q q (.ptr q) (.own q) (.r q .nil) .refl q sz34 q q q q q (.n q q (.n q q (.b q .nil))))<|Fi (tn3 q q q)) ?_
  refine Px.sq<|W.sq' ?_
  refine W.rx [(1,_),(2,_),(6,_),(7,_)] (Vk q<|Fi (tn4 q q q q)) ?_
  refine Px.sq<|W.sq' ?_
  refine W.sq'<|W.rx [(1,_),(2,_),(6,_),(7,_),(8,_)] (Vk q<|Fi (tn5 q q q q q)) ?_
  refine Px.sq<|W.bk ?_
  obtain ⟨x5,hl,h⟩:=bnd h
  refine W.tr (G1:=[(1,_),(2,_),(6,.obj [oR eTok (((⟨(⟨[(⟨{ data:=#[36,101,110,100] },false,0,0,0,S0⟩:Tok),(⟨{ data:=#[101,114,114,111,114] },false,(-1),0,0,S0⟩:Tok),(⟨{ data:=#[36,117,110,107] },false,(-1),0,0,S0⟩:Tok)],[],[],S0,S0⟩:Grammar),x3,[],[],0,0,S0,0,0⟩:yuccaref9_maker).f_g).Toks),oR eNon (((⟨(⟨[(⟨{ data:=#[36,101,110,100] },false,0,0,0,S0⟩:Tok),(⟨{ data:=#[101,114,114,111,114] },false,(-1),0,0,S0⟩:Tok),(⟨{ data:=#[36,117,110,107] },false,(-1),0,0,S0⟩:Tok)],[],[],S0,S0⟩:Grammar),x3,[],[],0,0,S0,0,0⟩:yuccaref9_maker).f_g).Nons),oR eProd_0 (((⟨(⟨[(⟨{ data:=#[36,101,110,100] },false,0,0,0,S0⟩:Tok),(⟨{ data:=#[101,114,114,111,114] },false,(-1),0,0,S0⟩:Tok),(⟨{ data:=#[36,117,110,107] },false,(-1),0,0,S0⟩:Tok)],[],[],S0,S0⟩:Grammar),x3,[],[],0,0,S0,0,0⟩:yuccaref9_maker).f_g).Prods),SS (((⟨(⟨[(⟨{ data:=#[36,101,110,100] },false,0,0,0,S0⟩:Tok),(⟨{ data:=#[101,114,114,111,114] },false,(-1),0,0,S0⟩:Tok),(⟨{ data:=#[36,117,110,107] },false,(-1),0,0,S0⟩:Tok)],[],[],S0,S0⟩:Grammar),x3,[],[],0,0,S0,0,0⟩:yuccaref9_maker).f_g).Pro),SS (((⟨(⟨[(⟨{ data:=#[36,101,110,100] },false,0,0,0,S0⟩:Tok),(⟨{ data:=#[101,114,114,111,114] },false,(-1),0,0,S0⟩:Tok),(⟨{ data:=#[36,117,110,107] },false,(-1),0,0,S0⟩:Tok)],[],[],S0,S0⟩:Grammar),x3,[],[],0,0,S0,0,0⟩:yuccaref9_maker).f_g).Tail),oR eB ((⟨(⟨[(⟨{ data:=#[36,101,110,100] },false,0,0,0,S0⟩:Tok),(⟨{ data:=#[101,114,114,111,114] },false,(-1),0,0,S0⟩:Tok),(⟨{ data:=#[36,117,110,107] },false,(-1),0,0,S0⟩:Tok)],[],[],S0,S0⟩:Grammar),x3,[],[],0,0,S0,0,0⟩:yuccaref9_maker).f_given),oR eNon ((⟨(⟨[(⟨{ data:=#[36,101,110,100] },false,0,0,0,S0⟩:Tok),(⟨{ data:=#[101,114,114,111,114] },false,(-1),0,0,S0⟩:Tok),(⟨{ data:=#[36,117,110,107] },false,(-1),0,0,S0⟩:Tok)],[],[],S0,S0⟩:Grammar),x3,[],[],0,0,S0,0,0⟩:yuccaref9_maker).f_types),oR eS ((⟨(⟨[(⟨{ data:=#[36,101,110,100] },false,0,0,0,S0⟩:Tok),(⟨{ data:=#[101,114,114,111,114] },false,(-1),0,0,S0⟩:Tok),(⟨{ data:=#[36,117,110,107] },false,(-1),0,0,S0⟩:Tok)],[],[],S0,S0⟩:Grammar),x3,[],[],0,0,S0,0,0⟩:yuccaref9_maker).f_lefts),I64 ((⟨(⟨[(⟨{ data:=#[36,101,110,100] },false,0,0,0,S0⟩:Tok),(⟨{ data:=#[101,114,114,111,114] },false,(-1),0,0,S0⟩:Tok),(⟨{ data:=#[36,117,110,107] },false,(-1),0,0,S0⟩:Tok)],[],[],S0,S0⟩:Grammar),x3,[],[],0,0,S0,0,0⟩:yuccaref9_maker).f_e),I64 ((⟨(⟨[(⟨{ data:=#[36,101,110,100] },false,0,0,0,S0⟩:Tok),(⟨{ data:=#[101,114,114,111,114] },false,(-1),0,0,S0⟩:Tok),(⟨{ data:=#[36,117,110,107] },false,(-1),0,0,S0⟩:Tok)],[],[],S0,S0⟩:Grammar),x3,[],[],0,0,S0,0,0⟩:yuccaref9_maker).f_at),SS ((⟨(⟨[(⟨{ data:=#[36,101,110,100] },false,0,0,0,S0⟩:Tok),(⟨{ data:=#[101,114,114,111,114] },false,(-1),0,0,S0⟩:Tok),(⟨{ data:=#[36,117,110,107] },false,(-1),0,0,S0⟩:Tok)],[],[],S0,S0⟩:Grammar),x3,[],[],0,0,S0,0,0⟩:yuccaref9_maker).f_name),I64 ((⟨(⟨[(⟨{ data:=#[36,101,110,100] },false,0,0,0,S0⟩:Tok),(⟨{ data:=#[101,114,114,111,114] },false,(-1),0,0,S0⟩:Tok),(⟨{ data:=#[36,117,110,107] },false,(-1),0,0,S0⟩:Tok)],[],[],S0,S0⟩:Grammar),x3,[],[],0,0,S0,0,0⟩:yuccaref9_maker).f_level),I64 ((⟨(⟨[(⟨{ data:=#[36,101,110,100] },false,0,0,0,S0⟩:Tok),(⟨{ data:=#[101,114,114,111,114] },false,(-1),0,0,S0⟩:Tok),(⟨{ data:=#[36,117,110,107] },false,(-1),0,0,S0⟩:Tok)],[],[],S0,S0⟩:Grammar),x3,[],[],0,0,S0,0,0⟩:yuccaref9_maker).f_inner)]),(7,_),(8,_)]) (.n q (.n q (.w q q (WkL.obj (.f (.o (.o (.f (.f (.f (.o (.o (.f (.f (.f (.f (.f .nil)))))))))))))) (tn2 q q)))) ?_
  refine W.lp1 (s:=((⟨(⟨[(⟨{ data:=#[36,101,110,100] },false,0,0,0,S0⟩:Tok),(⟨{ data:=#[101,114,114,111,114] },false,(-1),0,0,S0⟩:Tok),(⟨{ data:=#[36,117,110,107] },false,(-1),0,0,S0⟩:Tok)],[],[],S0,S0⟩:Grammar),x3,[],[],0,0,S0,0,0⟩:yuccaref9_maker),S0,0)) (fun (s4:yuccaref9_maker × ByteArray × Int)=>[(1,.obj [SS a0.Pro,iR eDecl_0 a0.Decls,iR eRule_0 a0.Rules,SS a0.Tail]),(2,.obj [.nils,.nils,.nils,SS S0,SS S0]),(6,.obj (eyuccaref9_maker_r.cells s4.1)),(7,SS s4.2.1),(8,I64 s4.2.2)]) 0 (fun (x5:yuccaref9_maker × ByteArray)=>[(1,.obj [SS a0.Pro,iR eDecl_0 a0.Decls,iR eRule_0 a0.Rules,SS a0.Tail]),(2,.obj [.nils,.nils,.nils,SS S0,SS S0]),(6,.obj (eyuccaref9_maker_r.cells x5.1)),(7,SS x5.2)]) hl (fun s4 o h=>?_) ?_
  ·clear hl
   refine W.sq'<|W.sq' ?_
   refine W.rx [(1,_),(2,_),(6,_),(7,_),(8,_),(45,_)] (Vm q<|Rv (O.fO q (.obj q) fd25_1 q)<|Rv (O.ldO (y:=iR eDecl_0 a0.Decls) q (.ptr q) ct22 q q)<|Rv (O.lenI (.imm q) sl22)<|Rv (O.lss (.lit q) (.lit q))<|Fi (tn6 q q q q q q)) ?_
   refine Px.sq<|W.cnd q (fun hb7=>?_) (fun hb7=>?_)
   ·replace h:=cndT hb7 h
    refine W.sk<|Px.sq ?_
    refine W.sq'<|W.bk ?_
    refine W.sq' ?_
    obtain ⟨x8,hx8,h⟩:=bnd h
    refine W.rx [(1,_),(2,_),(6,_),(7,_),(8,_),(9,_)] (Rv (O.fO q (.obj q) fd25_1 q)<|Rv (O.ldO (y:=iR eDecl_0 a0.Decls) q (.ptr q) ct22 q q)<|Vm q<|Rv (O.ixI (.imm q) (.lit q) sl22 hx8)<|Rv (O.ldIN (cs':=[I64 x8.Kind,SS x8.Tag,iR eSym x8.Syms,I64 x8.At]) (.iptr q) at55 q q)<|Rv (O.al (cs:=[I64 0,SS S0,.nils,I64 0]) ze55 q q)<|RunL.sO (G2:=[(1,.obj [SS a0.Pro,iR eDecl_0 a0.Decls,iR eRule_0 a0.Rules,SS a0.Tail]),(2,.obj [.nils,.nils,.nils,SS S0,SS S0]),(6,.obj (eyuccaref9_maker_r.cells s4.1)),(7,SS s4.2.1),(8,I64 s4.2.2),(9,.obj (eDecl_0.cells x8))]) (cs2:=[I64 x8.Kind,SS x8.Tag,iR eSym x8.Syms,I64 x8.At]) q (.obj q) (.aggF q q) q sz55 q q q q (.n q q (.n q q (.n q q (.n q q (.n q q (.b q .nil))))))<|Fi (tn6 q q q q q q)) ?_
    refine Px.sq<|W.sq' ?_
    refine W.sq' ?_
    obtain ⟨c10,hj,h⟩:=bnd h
    refine W.rx [(1,.obj [SS a0.Pro,iR eDecl_0 a0.Decls,iR eRule_0 a0.Rules,SS a0.Tail]),(2,.obj [.nils,.nils,.nils,SS S0,SS S0]),(6,.obj (eyuccaref9_maker_r.cells s4.1)),(7,SS s4.2.1),(8,I64 s4.2.2),(9,.obj (eDecl_0.cells x8)),(60,BB c10)] ?_ ?_
    ·refine Rv (O.fO q (.obj q) fd55_0 q)<|Rv (O.ldO (y:=I64 x8.Kind) q (.ptr q) ct3 q q)<|Rv (O.geq (.lit q) (.k q))<|Rv (O.mv (.lit q)) ?_
     rcases cnd hj with ⟨hb9,hj⟩ | ⟨hb9,hj⟩
     ·obtain rfl:=sm hj
      exact RunL.v (O.fO q (.obj q) fd55_0 q) q q (.yb q q hb9)<|RunL.v (O.ldO (y:=I64 x8.Kind) q (.ptr q) ct3 q q) q q (.yb q q hb9)<|RunL.v (O.leq (.lit q) (.k q)) q q (.yb q q hb9)<|Rv (O.pkT (.lit q) hb9 (.lit q))<|Fi (tn7 q q q q q q q)
     ·obtain rfl:=sm hj
      exact RunL.ps q q hb9 q q<|RunL.ps q q hb9 q q<|RunL.ps q q hb9 q q<|Rv (O.pkF (.lit q) hb9 (.k q))<|Fi (tn7 q q q q q q q)
    refine Px.sq ?_
    obtain ⟨j11,hj,h⟩:=bnd h
    refine W.jn [(1,.obj [SS a0.Pro,iR eDecl_0 a0.Decls,iR eRule_0 a0.Rules,SS a0.Tail]),(2,.obj [.nils,.nils,.nils,SS S0,SS S0]),(6,.obj [oR eTok s4.1.f_g.Toks,oR eNon s4.1.f_g.Nons,oR eProd_0 s4.1.f_g.Prods,SS s4.1.f_g.Pro,SS s4.1.f_g.Tail,oR eB s4.1.f_given,oR eNon s4.1.f_types,oR eS s4.1.f_lefts,I64 s4.1.f_e,I64 s4.1.f_at,SS s4.1.f_name,I64 j11,I64 s4.1.f_inner]),(7,SS s4.2.1),(8,I64 s4.2.2),(9,.obj (eDecl_0.cells x8))] ?_ ?_
    ·clear h; have h:=hj; clear hj
     refine W.cnd q (fun hb12=>?_) (fun hb12=>?_)
     ·replace h:=cndT hb12 h
      refine W.rx [(1,_),(2,_),(6,_),(7,_),(8,_),(9,_)] (Rv (O.mv (.obj q))<|Rv (O.nlP (.ptr q))<|Rv (O.fO q (.ptr q) fd143_7 q)<|Rv (O.ldO (y:=I64 s4.1.f_level) q (.ptr q) ct3 q q)<|Rv (O.add (.lit q) (.k q))<|Rv (O.nlP (.ptr q))<|Rv (O.fO q (.ptr q) fd143_7 q)<|RunL.sO (G2:=[(1,.obj [SS a0.Pro,iR eDecl_0 a0.Decls,iR eRule_0 a0.Rules,SS a0.Tail]),(2,.obj [.nils,.nils,.nils,SS S0,SS S0]),(6,.obj [oR eTok s4.1.f_g.Toks,oR eNon s4.1.f_g.Nons,oR eProd_0 s4.1.f_g.Prods,SS s4.1.f_g.Pro,SS s4.1.f_g.Tail,oR eB s4.1.f_given,oR eNon s4.1.f_types,oR eS s4.1.f_lefts,I64 s4.1.f_e,I64 s4.1.f_at,SS s4.1.f_name,I64 (w64 (s4.1.f_level+1)),I64 s4.1.f_inner]),(7,SS s4.2.1),(8,I64 s4.2.2),(9,.obj (eDecl_0.cells x8))]) (cs2:=[oR eTok s4.1.f_g.Toks,oR eNon s4.1.f_g.Nons,oR eProd_0 s4.1.f_g.Prods,SS s4.1.f_g.Pro,SS s4.1.f_g.Tail,oR eB s4.1.f_given,oR eNon s4.1.f_types,oR eS s4.1.f_lefts,I64 s4.1.f_e,I64 s4.1.f_at,SS s4.1.f_name,I64 (w64 (s4.1.f_level+1)),I64 s4.1.f_inner]) q (.ptr q) (.lit q) q sz3 q q q q (.n q q (.n q q (.b q (.n q q (.n q q (.n q q .nil))))))<|Fi (tn6 q q q q q q)) ?_
      obtain rfl:=sm h
      exact Px.jn (tn6 q q q q q q)
     ·replace h:=cndF hb12 h
      refine W.sk ?_
      obtain rfl:=sm h
      exact Px.jn (tn6 q q q q q q)
    refine Px.sq<|W.sq' ?_
    refine W.rx [(1,_),(2,_),(6,_),(7,_),(8,_),(9,_),(10,_)] (Vk q<|Fi (tn7 q q q q q q q)) ?_
    refine Px.sq<|W.bk ?_
    obtain ⟨x14,hl,h⟩:=bnd h
    refine W.tr (G1:=[(1,_),(2,_),(6,.obj [oR eTok (((⟨s4.1.f_g,s4.1.f_given,s4.1.f_types,s4.1.f_lefts,s4.1.f_e,s4.1.f_at,s4.1.f_name,j11,s4.1.f_inner⟩:yuccaref9_maker).f_g).Toks),oR eNon (((⟨s4.1.f_g,s4.1.f_given,s4.1.f_types,s4.1.f_lefts,s4.1.f_e,s4.1.f_at,s4.1.f_name,j11,s4.1.f_inner⟩:yuccaref9_maker).f_g).Nons),oR eProd_0 (((⟨s4.1.f_g,s4.1.f_given,s4.1.f_types,s4.1.f_lefts,s4.1.f_e,s4.1.f_at,s4.1.f_name,j11,s4.1.f_inner⟩:yuccaref9_maker).f_g).Prods),SS (((⟨s4.1.f_g,s4.1.f_given,s4.1.f_types,s4.1.f_lefts,s4.1.f_e,s4.1.f_at,s4.1.f_name,j11,s4.1.f_inner⟩:yuccaref9_maker).f_g).Pro),SS (((⟨s4.1.f_g,s4.1.f_given,s4.1.f_types,s4.1.f_lefts,s4.1.f_e,s4.1.f_at,s4.1.f_name,j11,s4.1.f_inner⟩:yuccaref9_maker).f_g).Tail),oR eB ((⟨s4.1.f_g,s4.1.f_given,s4.1.f_types,s4.1.f_lefts,s4.1.f_e,s4.1.f_at,s4.1.f_name,j11,s4.1.f_inner⟩:yuccaref9_maker).f_given),oR eNon ((⟨s4.1.f_g,s4.1.f_given,s4.1.f_types,s4.1.f_lefts,s4.1.f_e,s4.1.f_at,s4.1.f_name,j11,s4.1.f_inner⟩:yuccaref9_maker).f_types),oR eS ((⟨s4.1.f_g,s4.1.f_given,s4.1.f_types,s4.1.f_lefts,s4.1.f_e,s4.1.f_at,s4.1.f_name,j11,s4.1.f_inner⟩:yuccaref9_maker).f_lefts),I64 ((⟨s4.1.f_g,s4.1.f_given,s4.1.f_types,s4.1.f_lefts,s4.1.f_e,s4.1.f_at,s4.1.f_name,j11,s4.1.f_inner⟩:yuccaref9_maker).f_e),I64 ((⟨s4.1.f_g,s4.1.f_given,s4.1.f_types,s4.1.f_lefts,s4.1.f_e,s4.1.f_at,s4.1.f_name,j11,s4.1.f_inner⟩:yuccaref9_maker).f_at),SS ((⟨s4.1.f_g,s4.1.f_given,s4.1.f_types,s4.1.f_lefts,s4.1.f_e,s4.1.f_at,s4.1.f_name,j11,s4.1.f_inner⟩:yuccaref9_maker).f_name),I64 ((⟨s4.1.f_g,s4.1.f_given,s4.1.f_types,s4.1.f_lefts,s4.1.f_e,s4.1.f_at,s4.1.f_name,j11,s4.1.f_inner⟩:yuccaref9_maker).f_level),I64 ((⟨s4.1.f_g,s4.1.f_given,s4.1.f_types,s4.1.f_lefts,s4.1.f_e,s4.1.f_at,s4.1.f_name,j11,s4.1.f_inner⟩:yuccaref9_maker).f_inner)]),(7,_),(8,_),(9,_),(10,_)]) (tn7 q q q q q q q) ?_
    refine W.lp1 (s:=((⟨s4.1.f_g,s4.1.f_given,s4.1.f_types,s4.1.f_lefts,s4.1.f_e,s4.1.f_at,s4.1.f_name,j11,s4.1.f_inner⟩:yuccaref9_maker),s4.2.1,0)) (fun (s13:yuccaref9_maker × ByteArray × Int)=>[(1,.obj [SS a0.Pro,iR eDecl_0 a0.Decls,iR eRule_0 a0.Rules,SS a0.Tail]),(2,.obj [.nils,.nils,.nils,SS S0,SS S0]),(6,.obj (eyuccaref9_maker_r.cells s13.1)),(7,SS s13.2.1),(8,I64 s4.2.2),(9,.obj (eDecl_0.cells x8)),(10,I64 s13.2.2)]) 2 (fun (x14:yuccaref9_maker × ByteArray)=>[(1,.obj [SS a0.Pro,iR eDecl_0 a0.Decls,iR eRule_0 a0.Rules,SS a0.Tail]),(2,.obj [.nils,.nils,.nils,SS S0,SS S0]),(6,.obj (eyuccaref9_maker_r.cells x14.1)),(7,SS x14.2),(8,I64 s4.2.2)]) hl (fun s13 o h=>?_) ?_
    ·clear hl
     refine W.sq'<|W.sq' ?_
     refine W.rx [(1,_),(2,_),(6,_),(7,_),(8,_),(9,_),(10,_),(72,_)] (Vm q<|Rv (O.fO q (.obj q) fd55_2 q)<|Rv (O.ldO (y:=iR eSym x8.Syms) q (.ptr q) ct53 q q)<|Rv (O.lenI (.imm q) sl53)<|Rv (O.lss (.lit q) (.lit q))<|Fi (tn8 q q q q q q q q)) ?_
     refine Px.sq<|W.cnd q (fun hb16=>?_) (fun hb16=>?_)
     ·replace h:=cndT hb16 h
      refine W.sk<|Px.sq ?_
      refine W.sq' ?_
      obtain ⟨j17,hj,h⟩:=bnd h
      refine W.jn [(1,.obj [SS a0.Pro,iR eDecl_0 a0.Decls,iR eRule_0 a0.Rules,SS a0.Tail]),(2,.obj [.nils,.nils,.nils,SS S0,SS S0]),(6,.obj (eyuccaref9_maker_r.cells j17.1)),(7,SS j17.2),(8,I64 s4.2.2),(9,.obj (eDecl_0.cells x8)),(10,I64 s13.2.2)] ?_ ?_
      ·clear h; have h:=hj; clear hj
       refine W.bk<|W.sq' ?_
       refine W.sq'<|W.rx [(1,_),(2,_),(6,_),(7,_),(8,_),(9,_),(10,_),(77,_)] (Rv (O.fO q (.obj q) fd55_0 q)<|Rv (O.ldO (y:=I64 x8.Kind) q (.ptr q) ct3 q q)<|Rv (O.neq (.lit q) (.k q))<|Fi (tn8 q q q q q q q q)) ?_
       refine Px.sq<|W.cnd q (fun hb18=>?_) (fun hb18=>?_)
       ·replace h:=cndT hb18 h
        refine W.sq' ?_
        obtain ⟨x19,hx19,h⟩:=bnd h
        obtain ⟨x20,hx20,h⟩:=bnd h
        refine W.rd [[],[],[],[2],[],[2,3,4],[2,3,4,5],rn 0 7 []] [(1,_),(2,_),(6,_),(7,_),(8,_),(9,_),(10,_)] mixo (by kernel_rfl) (Dv 0 (O.mv (.obj q))<|Dv 1 (O.ldON (cs':=[I64 x8.Kind,SS x8.Tag,iR eSym x8.Syms,I64 x8.At]) q (.obj q) at55 q q)<|Dv 2 (O.fO q (.obj q) fd55_2 q)<|Dv 3 (O.ldO (y:=iR eSym x8.Syms) q (.ptr q) ct53 q q)<|Dv 4 (O.mv (.lit q))<|Dv 5 (O.ixI (.imm q) (.lit q) sl53 hx19)<|Dv 6 (O.ldIN (cs':=[SS x19.Name,BB x19.Lit,I64 x19.Num,I64 x19.At]) (.iptr q) at59 q q)<|DL.bp 7 (G2:=[(85,.tup []),(6,.obj [oR eTok x20.f_g.Toks,oR eNon x20.f_g.Nons,oR eProd_0 x20.f_g.Prods,SS x20.f_g.Pro,SS x20.f_g.Tail,oR eB x20.f_given,oR eNon x20.f_types,oR eS x20.f_lefts,I64 x20.f_e,I64 x20.f_at,SS x20.f_name,I64 x20.f_level,I64 x20.f_inner]),(1,.obj [SS a0.Pro,iR eDecl_0 a0.Decls,iR eRule_0 a0.Rules,SS a0.Tail]),(2,.obj [.nils,.nils,.nils,SS S0,SS S0]),(7,SS s13.2.1),(8,I64 s4.2.2),(9,.obj (eDecl_0.cells x8)),(10,I64 s13.2.2)]) (EO.call q q (CallOk.ln (G2:=[(1,.obj [SS a0.Pro,iR eDecl_0 a0.Decls,iR eRule_0 a0.Rules,SS a0.Tail]),(2,.obj [.nils,.nils,.nils,SS S0,SS S0]),(7,SS s13.2.1),(8,I64 s4.2.2),(9,.obj (eDecl_0.cells x8)),(10,I64 s13.2.2)]) (A:=[]) (ys:=[.ptr ⟨6,[]⟩ 0,.agg (eDecl_0.cells x8),.agg (eSym.cells x19)]) (args:=[.obj (eyuccaref9_maker_r.cells s13.1),.agg (eDecl_0.cells x8),.agg (eSym.cells x19)]) (cs':=[oR eTok x20.f_g.Toks,oR eNon x20.f_g.Nons,oR eProd_0 x20.f_g.Prods,SS x20.f_g.Pro,SS x20.f_g.Tail,oR eB x20.f_given,oR eNon x20.f_types,oR eS x20.f_lefts,I64 x20.f_e,I64 x20.f_at,SS x20.f_name,I64 x20.f_level,I64 x20.f_inner]) (k0:=0) q q q q (.b q (.n q (.n q .nil))) q (con89 s13.1 x8 x19 _ hx20) call89 (tn6 q q q q q q) q q (tn6 q q q q q q) .nil q)) q q q q (by kernel_rfl) (by kernel_rfl)<|DL.fin q q q (tn7 q q q q q q q)) ?_
        refine Px.sq<|W.xi ?_
        refine Px.sqE ?_
        refine Px.bkH ?_
        obtain rfl:=sm h
        exact Px.jn (tn7 q q q q q q q)
       ·replace h:=cndF hb18 h
        refine W.sk<|Px.sq ?_
        refine W.sq'<|W.sq' ?_
        refine W.rx [(1,_),(2,_),(6,_),(8,_),(9,_),(10,_),(87,_)] (Vm q<|Rv (O.neS (.lit q) (.k q))<|Fi (tn7 q q q q q q q)) ?_
        refine Px.sq ?_
        obtain ⟨j21,hj,h⟩:=bnd h
        refine W.jn [(1,.obj [SS a0.Pro,iR eDecl_0 a0.Decls,iR eRule_0 a0.Rules,SS a0.Tail]),(2,.obj [.nils,.nils,.nils,SS S0,SS S0]),(6,.obj (eyuccaref9_maker_r.cells j21)),(8,I64 s4.2.2),(9,.obj (eDecl_0.cells x8)),(10,I64 s13.2.2)] ?_ ?_
        ·clear h; have h:=hj; clear hj
         refine W.cnd q (fun hb22=>?_) (fun hb22=>?_)
         ·replace h:=cndT hb22 h
          obtain ⟨x23,hx23,h⟩:=bnd h
          obtain ⟨x24,hx24,h⟩:=bnd h
          obtain ⟨x25,hx25,h⟩:=bnd h
          refine W.rd [[],[],[1],[],[1,2,3],[1,2,3,4],rn 1 5 [],[],[7],[],[7,8,9],[7,8,9,10],rn 7 5 [],rn 0 13 []] [(1,_),(2,_),(6,_),(8,_),(9,_),(10,_)] mixo (by kernel_rfl) (Dv 0 (O.mv (.obj q))<|Dv 1 (O.fO q (.obj q) fd55_2 q)<|Dv 2 (O.ldO (y:=iR eSym x8.Syms) q (.ptr q) ct53 q q)<|Dv 3 (O.mv (.lit q))<|Dv 4 (O.ixI (.imm q) (.lit q) sl53 hx23)<|Dv 5 (O.fI (.iptr q) fd59_3)<|Dv 6 (O.ldI (x:=I64 x23.At) (.iptr q) ct3 q)<|Dv 7 (O.fO q (.obj q) fd55_2 q)<|Dv 8 (O.ldO (y:=iR eSym x8.Syms) q (.ptr q) ct53 q q)<|Dv 9 (O.mv (.lit q))<|Dv 10 (O.ixI (.imm q) (.lit q) sl53 hx24)<|Dv 11 (O.fI (.iptr q) fd59_0)<|Dv 12 (O.ldI (x:=SS x24.Name) (.iptr q) ct9 q)<|DL.bp 13 (G2:=[(101,.tup []),(6,.obj [oR eTok x25.f_g.Toks,oR eNon x25.f_g.Nons,oR eProd_0 x25.f_g.Prods,SS x25.f_g.Pro,SS x25.f_g.Tail,oR eB x25.f_given,oR eNon x25.f_types,oR eS x25.f_lefts,I64 x25.f_e,I64 x25.f_at,SS x25.f_name,I64 x25.f_level,I64 x25.f_inner]),(1,.obj [SS a0.Pro,iR eDecl_0 a0.Decls,iR eRule_0 a0.Rules,SS a0.Tail]),(2,.obj [.nils,.nils,.nils,SS S0,SS S0]),(8,I64 s4.2.2),(9,.obj (eDecl_0.cells x8)),(10,I64 s13.2.2)]) (EO.call q q (CallOk.ln (G2:=[(1,.obj [SS a0.Pro,iR eDecl_0 a0.Decls,iR eRule_0 a0.Rules,SS a0.Tail]),(2,.obj [.nils,.nils,.nils,SS S0,SS S0]),(8,I64 s4.2.2),(9,.obj (eDecl_0.cells x8)),(10,I64 s13.2.2)]) (A:=[]) (ys:=[.ptr ⟨6,[]⟩ 0,I64 x23.At,SS x24.Name]) (args:=[.obj (eyuccaref9_maker_r.cells s13.1),I64 x23.At,SS x24.Name]) (cs':=[oR eTok x25.f_g.Toks,oR eNon x25.f_g.Nons,oR eProd_0 x25.f_g.Prods,SS x25.f_g.Pro,SS x25.f_g.Tail,oR eB x25.f_given,oR eNon x25.f_types,oR eS x25.f_lefts,I64 x25.f_e,I64 x25.f_at,SS x25.f_name,I64 x25.f_level,I64 x25.f_inner]) (k0:=0) q q q q (.b q (.n q (.n q .nil))) q (con90 s13.1 x23.At x24.Name _ hx25) call90 (tn5 q q q q q) q q (tn5 q q q q q) .nil q)) q q q q (by kernel_rfl) (by kernel_rfl)<|DL.fin q q q (tn6 q q q q q q)) ?_
          obtain rfl:=sm h
          exact Px.jn (tn6 q q q q q q)
         ·replace h:=cndF hb22 h
          refine W.sk ?_
          obtain rfl:=sm h
          exact Px.jn (tn6 q q q q q q)
        refine Px.sq ?_
        obtain ⟨x26,hx26,h⟩:=bnd h
        refine W.rx [(1,_),(2,_),(6,_),(7,_),(8,_),(9,_),(10,_)] (Rv (O.fO q (.obj q) fd55_2 q)<|Rv (O.ldO (y:=iR eSym x8.Syms) q (.ptr q) ct53 q q)<|Vm q<|Rv (O.ixI (.imm q) (.lit q) sl53 hx26)<|Rv (O.fI (.iptr q) fd59_0)<|Rv (O.ldI (x:=SS x26.Name) (.iptr q) ct9 q)<|Va q<|Fi (tn7 q q q q q q q)) ?_
        refine Px.bk ?_
        obtain rfl:=sm h
        exact Px.jn (tn7 q q q q q q q)
      refine Px.sq<|W.rx [(1,_),(2,_),(6,_),(7,_),(8,_),(9,_),(10,_)] (Vm q<|Rv (O.add (.lit q) (.k q))<|RunL.re (G1:=[(1,_),(2,_),(6,_),(7,_),(8,_),(9,_),(74,_)]) (tn7 q q q q q q q)<|Va q<|Fi (tn7 q q q q q q q)) ?_
      obtain rfl:=sm h
      exact Px.go (tn7 q q q q q q q)
     ·replace h:=cndF hb16 h
      refine W.xi ?_
      refine Px.sqE ?_
      obtain rfl:=sm h
      exact Px.x1 (tn5 q q q q q)
    refine Px.bkH ?_
    refine Px.bk ?_
    refine Px.sq<|W.rx [(1,_),(2,_),(6,_),(7,_),(8,_)] (Vm q<|Rv (O.add (.lit q) (.k q))<|RunL.re (G1:=[(1,_),(2,_),(6,_),(7,_),(47,_)]) (tn5 q q q q q)<|Va q<|Fi (tn5 q q q q q)) ?_
    obtain rfl:=sm h
    exact Px.go (tn5 q q q q q)
   ·replace h:=cndF hb7 h
    refine W.xi ?_
    refine Px.sqE ?_
    obtain rfl:=sm h
    exact Px.x1 (tn4 q q q q)
  refine Px.bkH ?_
  refine Px.sq<|W.sq' ?_
  refine W.sq'<|W.rx [(1,_),(2,_),(6,_),(7,_),(11,_)] (Vk q<|Fi (tn5 q q q q q)) ?_
  refine Px.sq<|W.bk ?_
  obtain ⟨x28,hl,h⟩:=bnd h
  refine W.tr (G1:=[(1,_),(2,_),(6,_),(7,_),(11,_)]) (tn5 q q q q q) ?_
  refine W.lp1 (s:=(x5.1,0)) (fun (s27:yuccaref9_maker × Int)=>[(1,.obj [SS a0.Pro,iR eDecl_0 a0.Decls,iR eRule_0 a0.Rules,SS a0.Tail]),(2,.obj [.nils,.nils,.nils,SS S0,SS S0]),(6,.obj (eyuccaref9_maker_r.cells s27.1)),(7,SS x5.2),(11,I64 s27.2)]) 4 (fun (x28:yuccaref9_maker)=>[(1,.obj [SS a0.Pro,iR eDecl_0 a0.Decls,iR eRule_0 a0.Rules,SS a0.Tail]),(2,.obj [.nils,.nils,.nils,SS S0,SS S0]),(6,.obj (eyuccaref9_maker_r.cells x28)),(7,SS x5.2)]) hl (fun s27 o h=>?_) ?_
  ·clear hl
   refine W.sq'<|W.sq' ?_
   refine W.rx [(1,_),(2,_),(6,_),(7,_),(11,_),(112,_)] (Vm q<|Rv (O.fO q (.obj q) fd25_2 q)<|Rv (O.ldO (y:=iR eRule_0 a0.Rules) q (.ptr q) ct23 q q)<|Rv (O.lenI (.imm q) sl23)<|Rv (O.lss (.lit q) (.lit q))<|Fi (tn6 q q q q q q)) ?_
   refine Px.sq<|W.cnd q (fun hb30=>?_) (fun hb30=>?_)
   ·replace h:=cndT hb30 h
    refine W.sk<|Px.sq ?_
    refine W.sq' ?_
    obtain ⟨j31,hj,h⟩:=bnd h
    refine W.jn [(1,.obj [SS a0.Pro,iR eDecl_0 a0.Decls,iR eRule_0 a0.Rules,SS a0.Tail]),(2,.obj [.nils,.nils,.nils,SS S0,SS S0]),(6,.obj (eyuccaref9_maker_r.cells j31)),(7,SS x5.2),(11,I64 s27.2)] ?_ ?_
    ·clear h; have h:=hj; clear hj
     refine W.bk<|W.sq' ?_
     obtain ⟨x32,hx32,h⟩:=bnd h
     refine W.rx [(1,_),(2,_),(6,_),(7,_),(11,_),(12,_)] (Rv (O.fO q (.obj q) fd25_2 q)<|Rv (O.ldO (y:=iR eRule_0 a0.Rules) q (.ptr q) ct23 q q)<|Vm q<|Rv (O.ixI (.imm q) (.lit q) sl23 hx32)<|Rv (O.ldIN (cs':=[SS x32.Left,iR eAlt_0 x32.Alts,I64 x32.At]) (.iptr q) at65 q q)<|Rv (O.al (cs:=[SS S0,.nils,I64 0]) ze65 q q)<|RunL.sO (G2:=[(1,.obj [SS a0.Pro,iR eDecl_0 a0.Decls,iR eRule_0 a0.Rules,SS a0.Tail]),(2,.obj [.nils,.nils,.nils,SS S0,SS S0]),(6,.obj (eyuccaref9_maker_r.cells s27.1)),(7,SS x5.2),(11,I64 s27.2),(12,.obj (eRule_0.cells x32))]) (cs2:=[SS x32.Left,iR eAlt_0 x32.Alts,I64 x32.At]) q (.obj q) (.aggF q q) q sz65 q q q q (.n q q (.n q q (.n q q (.n q q (.n q q (.b q .nil))))))<|Fi (tn6 q q q q q q)) ?_
     refine Px.sq<|W.sq' ?_
     refine W.sq' ?_
     obtain ⟨x33,hx33,h⟩:=bnd h
     refine W.rx [(1,_),(2,_),(6,_),(7,_),(11,_),(12,_),(125,_)] (Rv (O.mv (.obj q))<|Rv (O.fO q (.obj q) fd65_0 q)<|Rv (O.ldO (y:=SS x32.Left) q (.ptr q) ct9 q q)<|Rv (O.bu (cs:=[SS x32.Left,BB false,I64 0,I64 0]) sc59 ze59 q q q)<|Rc (PC.vw (ys:=[.ptr ⟨6,[]⟩ 0,.agg [SS x32.Left,BB false,I64 0,I64 0]]) q (.c (View.p0 q q) (.c (.ag (.s (.s (.s (.s .nil))))) .nil)) (con91 s27.1 (⟨x32.Left,false,0,0⟩:Sym) _ hx33) call91 q)<|Rv (O.geq (.lit q) (.k q))<|Fi (tn7 q q q q q q q)) ?_
     refine Px.sq ?_
     obtain ⟨j34,hj,h⟩:=bnd h
     refine W.jn [(1,.obj [SS a0.Pro,iR eDecl_0 a0.Decls,iR eRule_0 a0.Rules,SS a0.Tail]),(2,.obj [.nils,.nils,.nils,SS S0,SS S0]),(6,.obj (eyuccaref9_maker_r.cells j34)),(7,SS x5.2),(11,I64 s27.2),(12,.obj (eRule_0.cells x32))] ?_ ?_
     ·clear h; have h:=hj; clear hj
      refine W.cnd q (fun hb35=>?_) (fun hb35=>?_)
      ·replace h:=cndT hb35 h
       obtain ⟨x36,hx36,h⟩:=bnd h
       refine W.rx [(1,_),(2,_),(6,_),(7,_),(11,_),(12,_)] (Rv (O.mv (.obj q))<|Rv (O.fO q (.obj q) fd65_2 q)<|Rv (O.ldO (y:=I64 x32.At) q (.ptr q) ct3 q q)<|Rv (O.fO q (.obj q) fd65_0 q)<|Rv (O.ldO (y:=SS x32.Left) q (.ptr q) ct9 q q)<|RunL.ef (G2:=[(131,.tup []),(6,.obj [oR eTok x36.f_g.Toks,oR eNon x36.f_g.Nons,oR eProd_0 x36.f_g.Prods,SS x36.f_g.Pro,SS x36.f_g.Tail,oR eB x36.f_given,oR eNon x36.f_types,oR eS x36.f_lefts,I64 x36.f_e,I64 x36.f_at,SS x36.f_name,I64 x36.f_level,I64 x36.f_inner]),(1,.obj [SS a0.Pro,iR eDecl_0 a0.Decls,iR eRule_0 a0.Rules,SS a0.Tail]),(2,.obj [.nils,.nils,.nils,SS S0,SS S0]),(7,SS x5.2),(11,I64 s27.2),(12,.obj (eRule_0.cells x32))]) q (EO.call q q (CallOk.ln (G2:=[(1,.obj [SS a0.Pro,iR eDecl_0 a0.Decls,iR eRule_0 a0.Rules,SS a0.Tail]),(2,.obj [.nils,.nils,.nils,SS S0,SS S0]),(7,SS x5.2),(11,I64 s27.2),(12,.obj (eRule_0.cells x32))]) (A:=[]) (ys:=[.ptr ⟨6,[]⟩ 0,I64 x32.At,SS x32.Left]) (args:=[.obj (eyuccaref9_maker_r.cells s27.1),I64 x32.At,SS x32.Left]) (cs':=[oR eTok x36.f_g.Toks,oR eNon x36.f_g.Nons,oR eProd_0 x36.f_g.Prods,SS x36.f_g.Pro,SS x36.f_g.Tail,oR eB x36.f_given,oR eNon x36.f_types,oR eS x36.f_lefts,I64 x36.f_e,I64 x36.f_at,SS x36.f_name,I64 x36.f_level,I64 x36.f_inner]) (k0:=0) q q q q (.b q (.n q (.n q .nil))) q (con90 s27.1 x32.At x32.Left _ hx36) call90 (tn5 q q q q q) q q (tn5 q q q q q) .nil q))<|Fi (tn6 q q q q q q)) ?_
       obtain rfl:=sm h
       exact Px.jn (tn6 q q q q q q)
      ·replace h:=cndF hb35 h
       refine W.sk ?_
       obtain rfl:=sm h
       exact Px.jn (tn6 q q q q q q)
     refine Px.sq<|W.sq' ?_
     obtain ⟨x37,hx37,h⟩:=bnd h
     refine W.rx [(1,_),(2,_),(6,_),(7,_),(11,_),(12,_),(136,_)] (Rv (O.mv (.obj q))<|Rv (O.fO q (.obj q) fd65_0 q)<|Rv (O.ldO (y:=SS x32.Left) q (.ptr q) ct9 q q)<|Rc (PC.vw (ys:=[.ptr ⟨6,[]⟩ 0,SS x32.Left]) q (.c (View.p0 q q) (.s .nil)) (con92 j34 x32.Left _ hx37) call92 q)<|Rv (O.lss (.lit q) (.k q))<|Fi (tn7 q q q q q q q)) ?_
     refine Px.sq ?_
     obtain ⟨j38,hj,h⟩:=bnd h
     refine W.jn [(1,.obj [SS a0.Pro,iR eDecl_0 a0.Decls,iR eRule_0 a0.Rules,SS a0.Tail]),(2,.obj [.nils,.nils,.nils,SS S0,SS S0]),(6,.obj [oR eTok j34.f_g.Toks,oR eNon j34.f_g.Nons,oR eProd_0 j34.f_g.Prods,SS j34.f_g.Pro,SS j34.f_g.Tail,oR eB j34.f_given,oR eNon j34.f_types,oR eS j38,I64 j34.f_e,I64 j34.f_at,SS j34.f_name,I64 j34.f_level,I64 j34.f_inner]),(7,SS x5.2),(11,I64 s27.2)] ?_ ?_
     ·clear h; have h:=hj; clear hj
      refine W.cnd q (fun hb39=>?_) (fun hb39=>?_)
      ·replace h:=cndT hb39 h
       obtain ⟨x40,hx40,h⟩:=bnd h
       refine W.rd [[],[],[1],[1,2],[1,2,3],[],[5],[5,6],rn 1 7 [],rn 0 9 [],rn 0 10 [],rn 0 11 []] [(1,_),(2,_),(6,_),(7,_),(11,_)] mixo (by kernel_rfl) (Dv 0 (O.mv (.obj q))<|Dv 1 (O.mv (.obj q))<|Dv 2 (O.nlP (.ptr q))<|Dv 3 (O.fO q (.ptr q) fd143_3 q)<|Dv 4 (O.ldO (y:=.brw eS.z ⟨6,[7]⟩ j34.f_lefts.length) q (.ptr q) ct141 q q)<|Dv 5 (O.fO q (.obj q) fd65_0 q)<|Dv 6 (O.ldO (y:=SS x32.Left) q (.ptr q) ct9 q q)<|DL.vi 7 (x:=iR eS [x32.Left]) (O.bs (ys:=[SS x32.Left]) eS [x32.Left] sl141 q q q q q q zt9 q q) q q q q .none<|Dv 8 (O.ap (en:=eS) (r:=x40) (.brw q) q (.imm q) .i ap141 q hx40)<|Dv 9 (O.nlP (.ptr q))<|Dv 10 (O.fO q (.ptr q) fd143_3 q)<|DL.bp 11 (G2:=[(1,.obj [SS a0.Pro,iR eDecl_0 a0.Decls,iR eRule_0 a0.Rules,SS a0.Tail]),(2,.obj [.nils,.nils,.nils,SS S0,SS S0]),(6,.obj [oR eTok j34.f_g.Toks,oR eNon j34.f_g.Nons,oR eProd_0 j34.f_g.Prods,SS j34.f_g.Pro,SS j34.f_g.Tail,oR eB j34.f_given,oR eNon j34.f_types,oR eS (j34.f_lefts++[x32.Left]),I64 j34.f_e,I64 j34.f_at,SS j34.f_name,I64 j34.f_level,I64 j34.f_inner]),(7,SS x5.2),(11,I64 s27.2)]) (EO.stP (g1:=_) (en:=eS) (M:=[x32.Left]) (cs2:=[oR eTok j34.f_g.Toks,oR eNon j34.f_g.Nons,oR eProd_0 j34.f_g.Prods,SS j34.f_g.Pro,SS j34.f_g.Tail,oR eB j34.f_given,oR eNon j34.f_types,oR eS (j34.f_lefts++[x32.Left]),I64 j34.f_e,I64 j34.f_at,SS j34.f_name,I64 j34.f_level,I64 j34.f_inner]) q q (.ptr q) (.pend q) q q q .ns .rf q q sz141 q q q q (.n q q (.n q q (.b q (.n q q (.n q q .nil)))))) q q q q (by kernel_rfl) (by kernel_rfl)<|DL.fin q q q (tn5 q q q q q)) ?_
       obtain rfl:=sm h
       exact Px.jn (tn5 q q q q q)
      ·replace h:=cndF hb39 h
       refine W.sk ?_
       obtain rfl:=sm h
       exact Px.jn (tn5 q q q q q)
     refine Px.bk ?_
     obtain rfl:=sm h
     exact Px.jn (tn5 q q q q q)
    refine Px.sq<|W.rx [(1,_),(2,_),(6,_),(7,_),(11,_)] (Vm q<|Rv (O.add (.lit q) (.k q))<|RunL.re (G1:=[(1,_),(2,_),(6,_),(7,_),(114,_)]) (tn5 q q q q q)<|Va q<|Fi (tn5 q q q q q)) ?_
    obtain rfl:=sm h
    exact Px.go (tn5 q q q q q)
   ·replace h:=cndF hb30 h
    refine W.xi ?_
    refine Px.sqE ?_
    obtain rfl:=sm h
    exact Px.x1 (tn4 q q q q)
  refine Px.bkH ?_
  refine Px.sq<|W.sq' ?_
  refine W.sq'<|W.rx [(1,_),(2,_),(6,_),(7,_),(13,_)] (Vk q<|Fi (tn5 q q q q q)) ?_
  refine Px.sq<|W.bk ?_
  obtain ⟨x42,hl,h⟩:=bnd h
  refine W.tr (G1:=[(1,_),(2,_),(6,_),(7,_),(13,_)]) (tn5 q q q q q) ?_
  refine W.lp1 (s:=(x28,0)) (fun (s41:yuccaref9_maker × Int)=>[(1,.obj [SS a0.Pro,iR eDecl_0 a0.Decls,iR eRule_0 a0.Rules,SS a0.Tail]),(2,.obj [.nils,.nils,.nils,SS S0,SS S0]),(6,.obj (eyuccaref9_maker_r.cells s41.1)),(7,SS x5.2),(13,I64 s41.2)]) 6 (fun (x42:yuccaref9_maker)=>[(1,.obj [SS a0.Pro,iR eDecl_0 a0.Decls,iR eRule_0 a0.Rules,SS a0.Tail]),(2,.obj [.nils,.nils,.nils,SS S0,SS S0]),(6,.obj (eyuccaref9_maker_r.cells x42)),(7,SS x5.2)]) hl (fun s41 o h=>?_) ?_
  ·clear hl
   refine W.sq'<|W.sq' ?_
   refine W.rx [(1,_),(2,_),(6,_),(7,_),(13,_),(152,_)] (Vm q<|Rv (O.fO q (.obj q) fd25_1 q)<|Rv (O.ldO (y:=iR eDecl_0 a0.Decls) q (.ptr q) ct22 q q)<|Rv (O.lenI (.imm q) sl22)<|Rv (O.lss (.lit q) (.lit q))<|Fi (tn6 q q q q q q)) ?_
   refine Px.sq<|W.cnd q (fun hb44=>?_) (fun hb44=>?_)
   ·replace h:=cndT hb44 h
    refine W.sk<|Px.sq ?_
    refine W.sq'<|W.bk ?_
    refine W.sq'<|W.rx [(1,_),(2,_),(6,_),(7,_),(13,_),(14,_)] (Vk q<|Fi (tn6 q q q q q q)) ?_
    refine Px.sq<|W.bk ?_
    obtain ⟨x46,hl,h⟩:=bnd h
    refine W.tr (G1:=[(1,_),(2,_),(6,_),(7,_),(13,_),(14,_)]) (tn6 q q q q q q) ?_
    refine W.lp1 (s:=(s41.1,0)) (fun (s45:yuccaref9_maker × Int)=>[(1,.obj [SS a0.Pro,iR eDecl_0 a0.Decls,iR eRule_0 a0.Rules,SS a0.Tail]),(2,.obj [.nils,.nils,.nils,SS S0,SS S0]),(6,.obj (eyuccaref9_maker_r.cells s45.1)),(7,SS x5.2),(13,I64 s41.2),(14,I64 s45.2)]) 8 (fun (x46:yuccaref9_maker)=>[(1,.obj [SS a0.Pro,iR eDecl_0 a0.Decls,iR eRule_0 a0.Rules,SS a0.Tail]),(2,.obj [.nils,.nils,.nils,SS S0,SS S0]),(6,.obj (eyuccaref9_maker_r.cells x46)),(7,SS x5.2),(13,I64 s41.2)]) hl (fun s45 o h=>?_) ?_
    ·clear hl
     refine W.sq'<|W.sq' ?_
     obtain ⟨x48,hx48,h⟩:=bnd h
     refine W.rx [(1,_),(2,_),(6,_),(7,_),(13,_),(14,_),(163,_)] (Vm q<|Rv (O.fO q (.obj q) fd25_1 q)<|Rv (O.ldO (y:=iR eDecl_0 a0.Decls) q (.ptr q) ct22 q q)<|Vm q<|Rv (O.ixI (.imm q) (.lit q) sl22 hx48)<|Rv (O.fI (.iptr q) fd55_2)<|Rv (O.ldI (x:=iR eSym x48.Syms) (.iptr q) ct53 q)<|Rv (O.lenI (.imm q) sl53)<|Rv (O.lss (.lit q) (.lit q))<|Fi (tn7 q q q q q q q)) ?_
     refine Px.sq<|W.cnd q (fun hb49=>?_) (fun hb49=>?_)
     ·replace h:=cndT hb49 h
      refine W.sk<|Px.sq ?_
      refine W.sq' ?_
      obtain ⟨j50,hj,h⟩:=bnd h
      refine W.jn [(1,.obj [SS a0.Pro,iR eDecl_0 a0.Decls,iR eRule_0 a0.Rules,SS a0.Tail]),(2,.obj [.nils,.nils,.nils,SS S0,SS S0]),(6,.obj (eyuccaref9_maker_r.cells j50)),(7,SS x5.2),(13,I64 s41.2),(14,I64 s45.2)] ?_ ?_
      ·clear h; have h:=hj; clear hj
       refine W.bk<|W.sq' ?_
       obtain ⟨x51,hx51,h⟩:=bnd h
       obtain ⟨x52,hx52,h⟩:=bnd h
       refine W.rx [(1,_),(2,_),(6,_),(7,_),(13,_),(14,_),(15,_)] (Rv (O.fO q (.obj q) fd25_1 q)<|Rv (O.ldO (y:=iR eDecl_0 a0.Decls) q (.ptr q) ct22 q q)<|Vm q<|Rv (O.ixI (.imm q) (.lit q) sl22 hx51)<|Rv (O.fI (.iptr q) fd55_2)<|Rv (O.ldI (x:=iR eSym x51.Syms) (.iptr q) ct53 q)<|Vm q<|Rv (O.ixI (.imm q) (.lit q) sl53 hx52)<|Rv (O.ldIN (cs':=[SS x52.Name,BB x52.Lit,I64 x52.Num,I64 x52.At]) (.iptr q) at59 q q)<|Rv (O.al (cs:=[SS S0,BB false,I64 0,I64 0]) ze59 q q)<|RunL.sO (G2:=[(1,.obj [SS a0.Pro,iR eDecl_0 a0.Decls,iR eRule_0 a0.Rules,SS a0.Tail]),(2,.obj [.nils,.nils,.nils,SS S0,SS S0]),(6,.obj (eyuccaref9_maker_r.cells s45.1)),(7,SS x5.2),(13,I64 s41.2),(14,I64 s45.2),(15,.obj (eSym.cells x52))]) (cs2:=[SS x52.Name,BB x52.Lit,I64 x52.Num,I64 x52.At]) q (.obj q) (.aggF q q) q sz59 q q q q (.n q q (.n q q (.n q q (.n q q (.n q q (.n q q (.b q .nil)))))))<|Fi (tn7 q q q q q q q)) ?_
       refine Px.sq<|W.sq' ?_
       obtain ⟨c56,hj,h⟩:=bnd h
       refine W.rx [(1,.obj [SS a0.Pro,iR eDecl_0 a0.Decls,iR eRule_0 a0.Rules,SS a0.Tail]),(2,.obj [.nils,.nils,.nils,SS S0,SS S0]),(6,.obj (eyuccaref9_maker_r.cells s45.1)),(7,SS x5.2),(13,I64 s41.2),(14,I64 s45.2),(15,.obj (eSym.cells x52)),(188,BB c56)] ?_ ?_
       ·refine Rv (O.fO q (.obj q) fd25_1 q)<|Rv (O.ldO (y:=iR eDecl_0 a0.Decls) q (.ptr q) ct22 q q)<|Rv (O.mv (.lit q)) ?_
        obtain ⟨x53,hx53,hj⟩:=bnd hj
        refine Rv (O.ixI (.imm q) (.lit q) sl22 hx53)<|Rv (O.fI (.iptr q) fd55_0)<|Rv (O.ldI (x:=I64 x53.Kind) (.iptr q) ct3 q)<|Rv (O.geq (.lit q) (.k q))<|Rv (O.mv (.lit q)) ?_
        rcases cnd hj with ⟨hb54,hj⟩ | ⟨hb54,hj⟩
        ·refine RunL.v (O.mv (.obj q)) q q (.yb q q hb54)<|RunL.v (O.fO q (.obj q) fd59_0 q) q q (.yb q q hb54)<|RunL.v (O.ldO (y:=SS x52.Name) q (.ptr q) ct9 q q) q q (.yb q q hb54) ?_
         obtain ⟨x55,hx55,hj⟩:=bnd hj
         obtain rfl:=sm hj
         exact RunL.c (PC.vw (ys:=[.ptr ⟨6,[]⟩ 0,SS x52.Name]) q (.c (View.p0 q q) (.s .nil)) (con92 s45.1 x52.Name _ hx55) call92 q) q q (.yb q q hb54)<|RunL.v (O.lss (.lit q) (.k q)) q q (.yb q q hb54)<|Rv (O.pkT (.lit q) hb54 (.lit q))<|Fi (tn8 q q q q q q q q)
        ·obtain rfl:=sm hj
         exact RunL.ps q q hb54 q q<|RunL.ps q q hb54 q q<|RunL.ps q q hb54 q q<|RunL.ps q q hb54 q q<|RunL.ps q q hb54 q q<|Rv (O.pkF (.lit q) hb54 (.k q))<|Fi (tn8 q q q q q q q q)
       refine Px.sq ?_
       obtain ⟨j57,hj,h⟩:=bnd h
       refine W.jn [(1,.obj [SS a0.Pro,iR eDecl_0 a0.Decls,iR eRule_0 a0.Rules,SS a0.Tail]),(2,.obj [.nils,.nils,.nils,SS S0,SS S0]),(6,.obj (eyuccaref9_maker_r.cells j57)),(7,SS x5.2),(13,I64 s41.2),(14,I64 s45.2)] ?_ ?_
       ·clear h; have h:=hj; clear hj
        refine W.cnd q (fun hb58=>?_) (fun hb58=>?_)
        ·replace h:=cndT hb58 h
         obtain ⟨x59,hx59,h⟩:=bnd h
         refine W.rx [(1,_),(2,_),(6,_),(7,_),(13,_),(14,_)] (Rv (O.mv (.obj q))<|Rv (O.fO q (.obj q) fd59_3 q)<|Rv (O.ldO (y:=I64 x52.At) q (.ptr q) ct3 q q)<|Rv (O.fO q (.obj q) fd59_0 q)<|Rv (O.ldO (y:=SS x52.Name) q (.ptr q) ct9 q q)<|RunL.ef (G2:=[(194,.tup []),(6,.obj [oR eTok x59.f_g.Toks,oR eNon x59.f_g.Nons,oR eProd_0 x59.f_g.Prods,SS x59.f_g.Pro,SS x59.f_g.Tail,oR eB x59.f_given,oR eNon x59.f_types,oR eS x59.f_lefts,I64 x59.f_e,I64 x59.f_at,SS x59.f_name,I64 x59.f_level,I64 x59.f_inner]),(1,.obj [SS a0.Pro,iR eDecl_0 a0.Decls,iR eRule_0 a0.Rules,SS a0.Tail]),(2,.obj [.nils,.nils,.nils,SS S0,SS S0]),(7,SS x5.2),(13,I64 s41.2),(14,I64 s45.2)]) q (EO.call q q (CallOk.ln (G2:=[(1,.obj [SS a0.Pro,iR eDecl_0 a0.Decls,iR eRule_0 a0.Rules,SS a0.Tail]),(2,.obj [.nils,.nils,.nils,SS S0,SS S0]),(7,SS x5.2),(13,I64 s41.2),(14,I64 s45.2)]) (A:=[]) (ys:=[.ptr ⟨6,[]⟩ 0,I64 x52.At,SS x52.Name]) (args:=[.obj (eyuccaref9_maker_r.cells s45.1),I64 x52.At,SS x52.Name]) (cs':=[oR eTok x59.f_g.Toks,oR eNon x59.f_g.Nons,oR eProd_0 x59.f_g.Prods,SS x59.f_g.Pro,SS x59.f_g.Tail,oR eB x59.f_given,oR eNon x59.f_types,oR eS x59.f_lefts,I64 x59.f_e,I64 x59.f_at,SS x59.f_name,I64 x59.f_level,I64 x59.f_inner]) (k0:=0) q q q q (.b q (.n q (.n q .nil))) q (con90 s45.1 x52.At x52.Name _ hx59) call90 (tn5 q q q q q) q q (tn5 q q q q q) .nil q))<|Fi (tn6 q q q q q q)) ?_
         obtain rfl:=sm h
         exact Px.jn (tn6 q q q q q q)
        ·replace h:=cndF hb58 h
         refine W.sk ?_
         obtain rfl:=sm h
         exact Px.jn (tn6 q q q q q q)
       refine Px.bk ?_
       obtain rfl:=sm h
       exact Px.jn (tn6 q q q q q q)
      refine Px.sq<|W.rx [(1,_),(2,_),(6,_),(7,_),(13,_),(14,_)] (Vm q<|Rv (O.add (.lit q) (.k q))<|RunL.re (G1:=[(1,_),(2,_),(6,_),(7,_),(13,_),(165,_)]) (tn6 q q q q q q)<|Va q<|Fi (tn6 q q q q q q)) ?_
      obtain rfl:=sm h
      exact Px.go (tn6 q q q q q q)
     ·replace h:=cndF hb49 h
      refine W.xi ?_
      refine Px.sqE ?_
      obtain rfl:=sm h
      exact Px.x1 (tn5 q q q q q)
    refine Px.bkH ?_
    refine Px.bk ?_
    refine Px.sq<|W.rx [(1,_),(2,_),(6,_),(7,_),(13,_)] (Vm q<|Rv (O.add (.lit q) (.k q))<|RunL.re (G1:=[(1,_),(2,_),(6,_),(7,_),(154,_)]) (tn5 q q q q q)<|Va q<|Fi (tn5 q q q q q)) ?_
    obtain rfl:=sm h
    exact Px.go (tn5 q q q q q)
   ·replace h:=cndF hb44 h
    refine W.xi ?_
    refine Px.sqE ?_
    obtain rfl:=sm h
    exact Px.x1 (tn4 q q q q)
  refine Px.bkH ?_
  refine Px.sq<|W.sq' ?_
  refine W.sq'<|W.rx [(1,_),(2,_),(6,_),(7,_),(196,_)] (Vm q<|Rv (O.eqS (.lit q) (.k q))<|Fi (tn5 q q q q q)) ?_
  refine Px.sq ?_
  obtain ⟨j60,hj,h⟩:=bnd h
  refine W.jn [(1,.obj [SS a0.Pro,iR eDecl_0 a0.Decls,iR eRule_0 a0.Rules,SS a0.Tail]),(2,.obj [.nils,.nils,.nils,SS S0,SS S0]),(6,.obj (eyuccaref9_maker_r.cells x42)),(7,SS j60)] ?_ ?_
  ·clear h; have h:=hj; clear hj
   refine W.cnd q (fun hb61=>?_) (fun hb61=>?_)
   ·replace h:=cndT hb61 h
    obtain ⟨x62,hx62,h⟩:=bnd h
    refine W.rx [(1,_),(2,_),(6,_),(7,_)] (Rv (O.fO q (.obj q) fd25_2 q)<|Rv (O.ldO (y:=iR eRule_0 a0.Rules) q (.ptr q) ct23 q q)<|Rv (O.ixI (.imm q) (.k q) sl23 hx62)<|Rv (O.fI (.iptr q) fd65_0)<|Rv (O.ldI (x:=SS x62.Left) (.iptr q) ct9 q)<|RunL.re (G1:=[(1,_),(2,_),(6,_),(201,_)]) (tn4 q q q q)<|Va q<|Fi (tn4 q q q q)) ?_
    obtain rfl:=sm h
    exact Px.jn (tn4 q q q q)
   ·replace h:=cndF hb61 h
    refine W.sk ?_
    obtain rfl:=sm h
    exact Px.jn (tn4 q q q q)
  refine Px.sq<|W.sq' ?_
  obtain ⟨x63,hx63,h⟩:=bnd h
  refine W.rx [(1,_),(2,_),(6,_)] (Rv (O.mv (.obj q))<|Rv (O.mv (.obj q))<|Vm q<|Rc (PC.vw (ys:=[.ptr ⟨6,[]⟩ 0,SS j60]) q (.c (View.p0 q q) (.s .nil)) (con92 x42 j60 _ hx63) call92 q)<|Rv (O.add (.k q) (.lit q))<|RunL.vi (x:=iR eI [w64 (1001+x63)]) (O.bs (ys:=[I64 (w64 (1001+x63))]) eI [w64 (1001+x63)] sl27 q q q q q q zt3 q q) q q .none<|RunL.vi (x:=.agg [I64 0,iR eI [w64 (1001+x63)],I64 (-1),SS S0,iR eI ([]:List Int),I64 0]) (O.bu (cs:=[I64 0,iR eI [w64 (1001+x63)],I64 (-1),SS S0,.nils,I64 0]) sc83 ze83 q q q) q q .none<|Rv (O.bs (ys:=[.agg [I64 0,iR eI [w64 (1001+x63)],I64 (-1),SS S0,iR eI ([]:List Int),I64 0]]) eProd_0 [(⟨0,[w64 (1001+x63)],(-1),S0,([]:List Int),0⟩:Prod)] sl36 q q q q q q zt83 q q)<|Rv (O.nlP (.ptr q))<|Rv (O.fO q (.ptr q) fd143_0 q)<|Rv (O.fO q (.ptr q) fd38_2 q)<|RunL.ef (G2:=[(1,.obj [SS a0.Pro,iR eDecl_0 a0.Decls,iR eRule_0 a0.Rules,SS a0.Tail]),(2,.obj [.nils,.nils,.nils,SS S0,SS S0]),(6,.obj [oR eTok x42.f_g.Toks,oR eNon x42.f_g.Nons,oR eProd_0 [(⟨0,[w64 (1001+x63)],(-1),S0,([]:List Int),0⟩:Prod)],SS x42.f_g.Pro,SS x42.f_g.Tail,oR eB x42.f_given,oR eNon x42.f_types,oR eS x42.f_lefts,I64 x42.f_e,I64 x42.f_at,SS x42.f_name,I64 x42.f_level,I64 x42.f_inner])]) q (EO.stB (y':=oR eProd_0 [(⟨0,[w64 (1001+x63)],(-1),S0,([]:List Int),0⟩:Prod)]) (cs2:=[oR eTok x42.f_g.Toks,oR eNon x42.f_g.Nons,oR eProd_0 [(⟨0,[w64 (1001+x63)],(-1),S0,([]:List Int),0⟩:Prod)],SS x42.f_g.Pro,SS x42.f_g.Tail,oR eB x42.f_given,oR eNon x42.f_types,oR eS x42.f_lefts,I64 x42.f_e,I64 x42.f_at,SS x42.f_name,I64 x42.f_level,I64 x42.f_inner]) q q (.ptr q) (.own q) (.r q .nil) .refl q sz36 q q q q q (.n q q (.n q q (.b q .nil))))<|Fi (tn3 q q q)) ?_
  refine Px.sq<|W.sq' ?_
  refine W.sq'<|W.rx [(1,_),(2,_),(6,_),(16,_)] (Vk q<|Fi (tn4 q q q q)) ?_
  refine Px.sq<|W.bk ?_
  obtain ⟨x65,hl,h⟩:=bnd h
  refine W.tr (G1:=[(1,_),(2,_),(6,.obj [oR eTok (((⟨(⟨x42.f_g.Toks,x42.f_g.Nons,[(⟨0,[w64 (1001+x63)],(-1),S0,([]:List Int),0⟩:Prod)],x42.f_g.Pro,x42.f_g.Tail⟩:Grammar),x42.f_given,x42.f_types,x42.f_lefts,x42.f_e,x42.f_at,x42.f_name,x42.f_level,x42.f_inner⟩:yuccaref9_maker).f_g).Toks),oR eNon (((⟨(⟨x42.f_g.Toks,x42.f_g.Nons,[(⟨0,[w64 (1001+x63)],(-1),S0,([]:List Int),0⟩:Prod)],x42.f_g.Pro,x42.f_g.Tail⟩:Grammar),x42.f_given,x42.f_types,x42.f_lefts,x42.f_e,x42.f_at,x42.f_name,x42.f_level,x42.f_inner⟩:yuccaref9_maker).f_g).Nons),oR eProd_0 (((⟨(⟨x42.f_g.Toks,x42.f_g.Nons,[(⟨0,[w64 (1001+x63)],(-1),S0,([]:List Int),0⟩:Prod)],x42.f_g.Pro,x42.f_g.Tail⟩:Grammar),x42.f_given,x42.f_types,x42.f_lefts,x42.f_e,x42.f_at,x42.f_name,x42.f_level,x42.f_inner⟩:yuccaref9_maker).f_g).Prods),SS (((⟨(⟨x42.f_g.Toks,x42.f_g.Nons,[(⟨0,[w64 (1001+x63)],(-1),S0,([]:List Int),0⟩:Prod)],x42.f_g.Pro,x42.f_g.Tail⟩:Grammar),x42.f_given,x42.f_types,x42.f_lefts,x42.f_e,x42.f_at,x42.f_name,x42.f_level,x42.f_inner⟩:yuccaref9_maker).f_g).Pro),SS (((⟨(⟨x42.f_g.Toks,x42.f_g.Nons,[(⟨0,[w64 (1001+x63)],(-1),S0,([]:List Int),0⟩:Prod)],x42.f_g.Pro,x42.f_g.Tail⟩:Grammar),x42.f_given,x42.f_types,x42.f_lefts,x42.f_e,x42.f_at,x42.f_name,x42.f_level,x42.f_inner⟩:yuccaref9_maker).f_g).Tail),oR eB ((⟨(⟨x42.f_g.Toks,x42.f_g.Nons,[(⟨0,[w64 (1001+x63)],(-1),S0,([]:List Int),0⟩:Prod)],x42.f_g.Pro,x42.f_g.Tail⟩:Grammar),x42.f_given,x42.f_types,x42.f_lefts,x42.f_e,x42.f_at,x42.f_name,x42.f_level,x42.f_inner⟩:yuccaref9_maker).f_given),oR eNon ((⟨(⟨x42.f_g.Toks,x42.f_g.Nons,[(⟨0,[w64 (1001+x63)],(-1),S0,([]:List Int),0⟩:Prod)],x42.f_g.Pro,x42.f_g.Tail⟩:Grammar),x42.f_given,x42.f_types,x42.f_lefts,x42.f_e,x42.f_at,x42.f_name,x42.f_level,x42.f_inner⟩:yuccaref9_maker).f_types),oR eS ((⟨(⟨x42.f_g.Toks,x42.f_g.Nons,[(⟨0,[w64 (1001+x63)],(-1),S0,([]:List Int),0⟩:Prod)],x42.f_g.Pro,x42.f_g.Tail⟩:Grammar),x42.f_given,x42.f_types,x42.f_lefts,x42.f_e,x42.f_at,x42.f_name,x42.f_level,x42.f_inner⟩:yuccaref9_maker).f_lefts),I64 ((⟨(⟨x42.f_g.Toks,x42.f_g.Nons,[(⟨0,[w64 (1001+x63)],(-1),S0,([]:List Int),0⟩:Prod)],x42.f_g.Pro,x42.f_g.Tail⟩:Grammar),x42.f_given,x42.f_types,x42.f_lefts,x42.f_e,x42.f_at,x42.f_name,x42.f_level,x42.f_inner⟩:yuccaref9_maker).f_e),I64 ((⟨(⟨x42.f_g.Toks,x42.f_g.Nons,[(⟨0,[w64 (1001+x63)],(-1),S0,([]:List Int),0⟩:Prod)],x42.f_g.Pro,x42.f_g.Tail⟩:Grammar),x42.f_given,x42.f_types,x42.f_lefts,x42.f_e,x42.f_at,x42.f_name,x42.f_level,x42.f_inner⟩:yuccaref9_maker).f_at),SS ((⟨(⟨x42.f_g.Toks,x42.f_g.Nons,[(⟨0,[w64 (1001+x63)],(-1),S0,([]:List Int),0⟩:Prod)],x42.f_g.Pro,x42.f_g.Tail⟩:Grammar),x42.f_given,x42.f_types,x42.f_lefts,x42.f_e,x42.f_at,x42.f_name,x42.f_level,x42.f_inner⟩:yuccaref9_maker).f_name),I64 ((⟨(⟨x42.f_g.Toks,x42.f_g.Nons,[(⟨0,[w64 (1001+x63)],(-1),S0,([]:List Int),0⟩:Prod)],x42.f_g.Pro,x42.f_g.Tail⟩:Grammar),x42.f_given,x42.f_types,x42.f_lefts,x42.f_e,x42.f_at,x42.f_name,x42.f_level,x42.f_inner⟩:yuccaref9_maker).f_level),I64 ((⟨(⟨x42.f_g.Toks,x42.f_g.Nons,[(⟨0,[w64 (1001+x63)],(-1),S0,([]:List Int),0⟩:Prod)],x42.f_g.Pro,x42.f_g.Tail⟩:Grammar),x42.f_given,x42.f_types,x42.f_lefts,x42.f_e,x42.f_at,x42.f_name,x42.f_level,x42.f_inner⟩:yuccaref9_maker).f_inner)]),(16,_)]) (tn4 q q q q) ?_
  refine W.lp1 (s:=((⟨(⟨x42.f_g.Toks,x42.f_g.Nons,[(⟨0,[w64 (1001+x63)],(-1),S0,([]:List Int),0⟩:Prod)],x42.f_g.Pro,x42.f_g.Tail⟩:Grammar),x42.f_given,x42.f_types,x42.f_lefts,x42.f_e,x42.f_at,x42.f_name,x42.f_level,x42.f_inner⟩:yuccaref9_maker),0)) (fun (s64:yuccaref9_maker × Int)=>[(1,.obj [SS a0.Pro,iR eDecl_0 a0.Decls,iR eRule_0 a0.Rules,SS a0.Tail]),(2,.obj [.nils,.nils,.nils,SS S0,SS S0]),(6,.obj (eyuccaref9_maker_r.cells s64.1)),(16,I64 s64.2)]) 10 (fun (x65:yuccaref9_maker)=>[(1,.obj [SS a0.Pro,iR eDecl_0 a0.Decls,iR eRule_0 a0.Rules,SS a0.Tail]),(2,.obj [.nils,.nils,.nils,SS S0,SS S0]),(6,.obj (eyuccaref9_maker_r.cells x65))]) hl (fun s64 o h=>?_) ?_
  ·clear hl
   refine W.sq'<|W.sq' ?_
   refine W.rx [(1,_),(2,_),(6,_),(16,_),(217,_)] (Vm q<|Rv (O.fO q (.obj q) fd25_2 q)<|Rv (O.ldO (y:=iR eRule_0 a0.Rules) q (.ptr q) ct23 q q)<|Rv (O.lenI (.imm q) sl23)<|Rv (O.lss (.lit q) (.lit q))<|Fi (tn5 q q q q q)) ?_
   refine Px.sq<|W.cnd q (fun hb67=>?_) (fun hb67=>?_)
   ·replace h:=cndT hb67 h
    refine W.sk<|Px.sq ?_
    refine W.sq'<|W.bk ?_
    refine W.sq'<|W.rx [(1,_),(2,_),(6,_),(16,_),(17,_)] (Vk q<|Fi (tn5 q q q q q)) ?_
    refine Px.sq<|W.bk ?_
    obtain ⟨x69,hl,h⟩:=bnd h
    refine W.tr (G1:=[(1,_),(2,_),(6,_),(16,_),(17,_)]) (tn5 q q q q q) ?_
    refine W.lp1 (s:=(s64.1,0)) (fun (s68:yuccaref9_maker × Int)=>[(1,.obj [SS a0.Pro,iR eDecl_0 a0.Decls,iR eRule_0 a0.Rules,SS a0.Tail]),(2,.obj [.nils,.nils,.nils,SS S0,SS S0]),(6,.obj (eyuccaref9_maker_r.cells s68.1)),(16,I64 s64.2),(17,I64 s68.2)]) 12 (fun (x69:yuccaref9_maker)=>[(1,.obj [SS a0.Pro,iR eDecl_0 a0.Decls,iR eRule_0 a0.Rules,SS a0.Tail]),(2,.obj [.nils,.nils,.nils,SS S0,SS S0]),(6,.obj (eyuccaref9_maker_r.cells x69)),(16,I64 s64.2)]) hl (fun s68 o h=>?_) ?_
    ·clear hl
     refine W.sq'<|W.sq' ?_
     obtain ⟨x71,hx71,h⟩:=bnd h
     refine W.rx [(1,_),(2,_),(6,_),(16,_),(17,_),(228,_)] (Vm q<|Rv (O.fO q (.obj q) fd25_2 q)<|Rv (O.ldO (y:=iR eRule_0 a0.Rules) q (.ptr q) ct23 q q)<|Vm q<|Rv (O.ixI (.imm q) (.lit q) sl23 hx71)<|Rv (O.fI (.iptr q) fd65_1)<|Rv (O.ldI (x:=iR eAlt_0 x71.Alts) (.iptr q) ct63 q)<|Rv (O.lenI (.imm q) sl63)<|Rv (O.lss (.lit q) (.lit q))<|Fi (tn6 q q q q q q)) ?_
     refine Px.sq<|W.cnd q (fun hb72=>?_) (fun hb72=>?_)
     ·replace h:=cndT hb72 h
      refine W.sk<|Px.sq ?_
      refine W.sq'<|W.bk ?_
      obtain ⟨x73,hx73,h⟩:=bnd h
      obtain ⟨x74,hx74,h⟩:=bnd h
      obtain ⟨x75,hx75,h⟩:=bnd h
      obtain ⟨x76,hx76,h⟩:=bnd h
      refine W.rd [[],[],[1],[],[1,2,3],[1,2,3,4],rn 1 5 [],[],[7],[],[7,8,9],[7,8,9,10],rn 7 5 [],[],rn 7 7 [],rn 7 8 [],rn 0 16 []] [(1,_),(2,_),(6,_),(16,_),(17,_)] mixo (by kernel_rfl) (Dv 0 (O.mv (.obj q))<|Dv 1 (O.fO q (.obj q) fd25_2 q)<|Dv 2 (O.ldO (y:=iR eRule_0 a0.Rules) q (.ptr q) ct23 q q)<|Dv 3 (O.mv (.lit q))<|Dv 4 (O.ixI (.imm q) (.lit q) sl23 hx73)<|Dv 5 (O.fI (.iptr q) fd65_0)<|Dv 6 (O.ldI (x:=SS x73.Left) (.iptr q) ct9 q)<|Dv 7 (O.fO q (.obj q) fd25_2 q)<|Dv 8 (O.ldO (y:=iR eRule_0 a0.Rules) q (.ptr q) ct23 q q)<|Dv 9 (O.mv (.lit q))<|Dv 10 (O.ixI (.imm q) (.lit q) sl23 hx74)<|Dv 11 (O.fI (.iptr q) fd65_1)<|Dv 12 (O.ldI (x:=iR eAlt_0 x74.Alts) (.iptr q) ct63 q)<|Dv 13 (O.mv (.lit q))<|Dv 14 (O.ixI (.imm q) (.lit q) sl63 hx75)<|Dv 15 (O.ldIN (cs':=[iR ePart x75.Parts,SS x75.Prec.Name,BB x75.Prec.Lit,I64 x75.Prec.Num,I64 x75.Prec.At,I64 x75.At]) (.iptr q) at62 q q)<|DL.bp 16 (G2:=[(247,.tup []),(6,.obj [oR eTok x76.f_g.Toks,oR eNon x76.f_g.Nons,oR eProd_0 x76.f_g.Prods,SS x76.f_g.Pro,SS x76.f_g.Tail,oR eB x76.f_given,oR eNon x76.f_types,oR eS x76.f_lefts,I64 x76.f_e,I64 x76.f_at,SS x76.f_name,I64 x76.f_level,I64 x76.f_inner]),(1,.obj [SS a0.Pro,iR eDecl_0 a0.Decls,iR eRule_0 a0.Rules,SS a0.Tail]),(2,.obj [.nils,.nils,.nils,SS S0,SS S0]),(16,I64 s64.2),(17,I64 s68.2)]) (EO.call q q (CallOk.ln (G2:=[(1,.obj [SS a0.Pro,iR eDecl_0 a0.Decls,iR eRule_0 a0.Rules,SS a0.Tail]),(2,.obj [.nils,.nils,.nils,SS S0,SS S0]),(16,I64 s64.2),(17,I64 s68.2)]) (A:=[]) (ys:=[.ptr ⟨6,[]⟩ 0,SS x73.Left,.agg (eAlt_0.cells x75)]) (args:=[.obj (eyuccaref9_maker_r.cells s68.1),SS x73.Left,.agg (eAlt_0.cells x75)]) (cs':=[oR eTok x76.f_g.Toks,oR eNon x76.f_g.Nons,oR eProd_0 x76.f_g.Prods,SS x76.f_g.Pro,SS x76.f_g.Tail,oR eB x76.f_given,oR eNon x76.f_types,oR eS x76.f_lefts,I64 x76.f_e,I64 x76.f_at,SS x76.f_name,I64 x76.f_level,I64 x76.f_inner]) (k0:=0) q q q q (.b q (.n q (.n q .nil))) q (con93 s68.1 x73.Left x75 _ hx76) call93 (tn4 q q q q) q q (tn4 q q q q) .nil q)) q q q q (by kernel_rfl) (by kernel_rfl)<|DL.fin q q q (tn5 q q q q q)) ?_
      refine Px.bk ?_
      refine Px.sq<|W.rx [(1,_),(2,_),(6,_),(16,_),(17,_)] (Vm q<|Rv (O.add (.lit q) (.k q))<|RunL.re (G1:=[(1,_),(2,_),(6,_),(16,_),(230,_)]) (tn5 q q q q q)<|Va q<|Fi (tn5 q q q q q)) ?_
      obtain rfl:=sm h
      exact Px.go (tn5 q q q q q)
     ·replace h:=cndF hb72 h
      refine W.xi ?_
      refine Px.sqE ?_
      obtain rfl:=sm h
      exact Px.x1 (tn4 q q q q)
    refine Px.bkH ?_
    refine Px.bk ?_
    refine Px.sq<|W.rx [(1,_),(2,_),(6,_),(16,_)] (Vm q<|Rv (O.add (.lit q) (.k q))<|RunL.re (G1:=[(1,_),(2,_),(6,_),(219,_)]) (tn4 q q q q)<|Va q<|Fi (tn4 q q q q)) ?_
    obtain rfl:=sm h
    exact Px.go (tn4 q q q q)
   ·replace h:=cndF hb67 h
    refine W.xi ?_
    refine Px.sqE ?_
    obtain rfl:=sm h
    exact Px.x1 (tn3 q q q)
  refine Px.bkH ?_
  refine Px.sq<|W.sq' ?_
  refine W.sq'<|W.rx [(1,_),(2,_),(6,_),(252,_)] (Rv (O.mv (.obj q))<|Rv (O.nlP (.ptr q))<|Rv (O.fO q (.ptr q) fd143_4 q)<|Rv (O.ldO (y:=I64 x65.f_e) q (.ptr q) ct3 q q)<|Rv (O.neq (.lit q) (.k q))<|Fi (tn4 q q q q)) ?_
  refine Px.sq<|W.cnd q (fun hb77=>?_) (fun hb77=>?_)
  ·replace h:=cndT hb77 h
   refine W.sq'<|W.rd [[],[],[1],[1,2],[1,2,3],[],[5],[5,6],[5,6,7],[],[9],[9,10],[9,10,11],[0],rn 0 5 [13],rn 0 9 [13,14],rn 0 16 []] [(2,_),(3,_),(4,_),(5,_)] mixo (by kernel_rfl) (Dv 0 (O.bu (cs:=[.nils,.nils,.nils,SS S0,SS S0]) sc38 ze38 q q q)<|Dv 1 (O.mv (.obj q))<|Dv 2 (O.nlP (.ptr q))<|Dv 3 (O.fO q (.ptr q) fd143_4 q)<|Dv 4 (O.ldO (y:=I64 x65.f_e) q (.ptr q) ct3 q q)<|Dv 5 (O.mv (.obj q))<|Dv 6 (O.nlP (.ptr q))<|Dv 7 (O.fO q (.ptr q) fd143_5 q)<|Dv 8 (O.ldO (y:=I64 x65.f_at) q (.ptr q) ct3 q q)<|Dv 9 (O.mv (.obj q))<|Dv 10 (O.nlP (.ptr q))<|Dv 11 (O.fO q (.ptr q) fd143_6 q)<|Dv 12 (O.ldO (y:=SS x65.f_name) q (.ptr q) ct9 q q)<|DL.bu 13 (G2:=[(2,.obj [.nils,.nils,.nils,SS S0,SS S0]),(6,.obj (eyuccaref9_maker_r.cells x65))]) (U:=[(12,265,some (SS x65.f_name)),(11,264,some (.ptr ⟨6,[]⟩ 10)),(10,263,some (.ptr ⟨6,[]⟩ 0)),(9,262,some (.ptr ⟨6,[]⟩ 0)),(8,261,some (I64 x65.f_at)),(7,260,some (.ptr ⟨6,[]⟩ 9)),(6,259,some (.ptr ⟨6,[]⟩ 0)),(5,258,some (.ptr ⟨6,[]⟩ 0)),(4,257,some (I64 x65.f_e)),(3,256,some (.ptr ⟨6,[]⟩ 8)),(2,255,some (.ptr ⟨6,[]⟩ 0)),(1,254,some (.ptr ⟨6,[]⟩ 0))]) (EffOk.v (EO.eff (EO.sO (G2:=[(2,.obj [.nils,.nils,.nils,SS S0,SS S0]),(6,.obj (eyuccaref9_maker_r.cells x65))]) (cs2:=[.nils,.nils,.nils,SS S0,SS S0]) q q q (.obj q) (.aggF q q) q sz38 q q q q (.b q (.n q q .nil))))) q q (by kernel_rfl) q q q (.c (.inr (.inl ⟨_,q⟩)) q q q q q (Gd.wanted .none) (O.ldO (y:=SS x65.f_name) q (.ptr q) ct9 q q) (.c (.inr (.inr (.inr ⟨6,_,_,q,q,of_blt q,by simp⟩))) q q q q q (Gd.wanted .none) (O.fO q (.ptr q) fd143_6 q) (.c (.inr (.inr (.inr ⟨6,_,_,q,q,of_blt q,by simp⟩))) q q q q q (Gd.wanted .none) (O.nlP (.ptr q)) (.c (.inr (.inr (.inr ⟨6,_,_,q,q,of_blt q,by simp⟩))) q q q q q (Gd.wanted .none) (O.mv (.obj q)) (.c (.inr (.inl ⟨_,q⟩)) q q q q q (Gd.wanted .none) (O.ldO (y:=I64 x65.f_at) q (.ptr q) ct3 q q) (.c (.inr (.inr (.inr ⟨6,_,_,q,q,of_blt q,by simp⟩))) q q q q q (Gd.wanted .none) (O.fO q (.ptr q) fd143_5 q) (.c (.inr (.inr (.inr ⟨6,_,_,q,q,of_blt q,by simp⟩))) q q q q q (Gd.wanted .none) (O.nlP (.ptr q)) (.c (.inr (.inr (.inr ⟨6,_,_,q,q,of_blt q,by simp⟩))) q q q q q (Gd.wanted .none) (O.mv (.obj q)) (.c (.inr (.inl ⟨_,q⟩)) q q q q q (Gd.wanted .none) (O.ldO (y:=I64 x65.f_e) q (.ptr q) ct3 q q) (.c (.inr (.inr (.inr ⟨6,_,_,q,q,of_blt q,by simp⟩))) q q q q q (Gd.wanted .none) (O.fO q (.ptr q) fd143_4 q) (.c (.inr (.inr (.inr ⟨6,_,_,q,q,of_blt q,by simp⟩))) q q q q q (Gd.wanted .none) (O.nlP (.ptr q)) (.c (.inr (.inr (.inr ⟨6,_,_,q,q,of_blt q,by simp⟩))) q q q q q (Gd.wanted .none) (O.mv (.obj q)) .nil)))))))))))) (by kernel_rfl)<|Dv 14 (O.az (.lit q))<|Dv 15 (O.az (.lit q))<|Dv 16 (O.az (.lit q))<|DL.fin q q q (tn4 q q q q)) ?_
   refine Px.sq<|W.fz (G1:=[(2,.obj [iR eTok ([]:List Tok),iR eNon ([]:List Non),iR eProd_0 ([]:List Prod),SS S0,SS S0]),(3,_),(4,_),(5,_)]) [2] (.z q q (FzL.obj (.z (.z (.z (.f (.f .nil)))))) (.n q q (.n q q (.n q q .nil)))) ?_
   refine W.rt ?_
   refine Px.sqR ?_
   obtain rfl:=sm h
   exact Px.fin (Fin.ro (.c (ys0:=[iR eTok ([]:List Tok),iR eNon ([]:List Non),iR eProd_0 ([]:List Prod),SS S0,SS S0]) q at38 q q q (.f q (.f q (.f q (.f q (.f q .nil))))) (.f q q (.f q q (.f q q .nil)))) q (ode (by kernel_rfl)) (.no .nil) q (.inr q))
  ·replace h:=cndF hb77 h
   refine W.sk<|Px.sq ?_
   refine W.sq'<|W.rx [(1,_),(2,_),(6,_)] (Rv (O.mv (.obj q))<|Rv (O.bu (cs:=[SS ({ data:=#[36,97,99,99,101,112,116] }),SS S0]) sc134 ze134 q q q)<|Rv (O.bs (ys:=[.agg [SS ({ data:=#[36,97,99,99,101,112,116] }),SS S0]]) eNon [(⟨{ data:=#[36,97,99,99,101,112,116] },S0⟩:Non)] sl35 q q q q q q zt134 q q)<|Rv (O.nlP (.ptr q))<|Rv (O.fO q (.ptr q) fd143_0 q)<|Rv (O.fO q (.ptr q) fd38_1 q)<|RunL.ef (G2:=[(1,.obj [SS a0.Pro,iR eDecl_0 a0.Decls,iR eRule_0 a0.Rules,SS a0.Tail]),(2,.obj [.nils,.nils,.nils,SS S0,SS S0]),(6,.obj [oR eTok x65.f_g.Toks,oR eNon [(⟨{ data:=#[36,97,99,99,101,112,116] },S0⟩:Non)],oR eProd_0 x65.f_g.Prods,SS x65.f_g.Pro,SS x65.f_g.Tail,oR eB x65.f_given,oR eNon x65.f_types,oR eS x65.f_lefts,I64 x65.f_e,I64 x65.f_at,SS x65.f_name,I64 x65.f_level,I64 x65.f_inner])]) q (EO.stB (y':=oR eNon [(⟨{ data:=#[36,97,99,99,101,112,116] },S0⟩:Non)]) (cs2:=[oR eTok x65.f_g.Toks,oR eNon [(⟨{ data:=#[36,97,99,99,101,112,116] },S0⟩:Non)],oR eProd_0 x65.f_g.Prods,SS x65.f_g.Pro,SS x65.f_g.Tail,oR eB x65.f_given,oR eNon x65.f_types,oR eS x65.f_lefts,I64 x65.f_e,I64 x65.f_at,SS x65.f_name,I64 x65.f_level,I64 x65.f_inner]) q q (.ptr q) (.own q) (.r q .nil) .refl q sz35 q q q q q (.n q q (.n q q (.b q .nil))))<|Fi (tn3 q q q)) ?_
   refine Px.sq<|W.sq' ?_
   refine W.sq'<|W.rx [(1,_),(2,_),(6,_),(18,_)] (Vk q<|Fi (tn4 q q q q)) ?_
   refine Px.sq<|W.bk ?_
   obtain ⟨x79,hl,h⟩:=bnd h
   refine W.tr (G1:=[(1,_),(2,_),(6,_),(18,_)]) (tn4 q q q q) ?_
   refine W.lp1 (s:=([(⟨{ data:=#[36,97,99,99,101,112,116] },S0⟩:Non)],0)) (fun (s78:List Non × Int)=>[(1,.obj [SS a0.Pro,iR eDecl_0 a0.Decls,iR eRule_0 a0.Rules,SS a0.Tail]),(2,.obj [.nils,.nils,.nils,SS S0,SS S0]),(6,.obj [oR eTok x65.f_g.Toks,oR eNon s78.1,oR eProd_0 x65.f_g.Prods,SS x65.f_g.Pro,SS x65.f_g.Tail,oR eB x65.f_given,oR eNon x65.f_types,oR eS x65.f_lefts,I64 x65.f_e,I64 x65.f_at,SS x65.f_name,I64 x65.f_level,I64 x65.f_inner]),(18,I64 s78.2)]) 14 (fun (x79:List Non)=>[(1,.obj [SS a0.Pro,iR eDecl_0 a0.Decls,iR eRule_0 a0.Rules,SS a0.Tail]),(2,.obj [.nils,.nils,.nils,SS S0,SS S0]),(6,.obj [oR eTok x65.f_g.Toks,oR eNon x79,oR eProd_0 x65.f_g.Prods,SS x65.f_g.Pro,SS x65.f_g.Tail,oR eB x65.f_given,oR eNon x65.f_types,oR eS x65.f_lefts,I64 x65.f_e,I64 x65.f_at,SS x65.f_name,I64 x65.f_level,I64 x65.f_inner])]) hl (fun s78 o h=>?_) ?_
   ·clear hl
    refine W.sq'<|W.sq' ?_
    refine W.rx [(1,_),(2,_),(6,_),(18,_),(278,_)] (Vm q<|Rv (O.mv (.obj q))<|Rv (O.nlP (.ptr q))<|Rv (O.fO q (.ptr q) fd143_3 q)<|Rv (O.ldO (y:=.brw eS.z ⟨6,[7]⟩ x65.f_lefts.length) q (.ptr q) ct141 q q)<|Rv (O.lenO (.brw q) sl141)<|Rv (O.lss (.lit q) (.lit q))<|Fi (tn5 q q q q q)) ?_
    refine Px.sq<|W.cnd q (fun hb81=>?_) (fun hb81=>?_)
    ·replace h:=cndT hb81 h
     refine W.sk<|Px.sq ?_
     refine W.sq'<|W.bk ?_
     refine W.sq' ?_
     obtain ⟨x82,hx82,h⟩:=bnd h
     refine W.rx [(1,_),(2,_),(6,_),(18,_),(19,_)] (Rv (O.mv (.obj q))<|Rv (O.nlP (.ptr q))<|Rv (O.fO q (.ptr q) fd143_3 q)<|Rv (O.ldO (y:=.brw eS.z ⟨6,[7]⟩ x65.f_lefts.length) q (.ptr q) ct141 q q)<|Vm q<|Rv (O.ixO (en:=eS) q (.brw q) (.lit q) sl141 hx82 q)<|Rv (O.ldE (en:=eS) (x':=SS x82) q (.ptr q) ct9 hx82 q q)<|Rv (O.bu (cs:=[SS x82,SS S0]) sc134 ze134 q q q)<|Rv (O.al (cs:=[SS S0,SS S0]) ze134 q q)<|RunL.sO (G2:=[(1,.obj [SS a0.Pro,iR eDecl_0 a0.Decls,iR eRule_0 a0.Rules,SS a0.Tail]),(2,.obj [.nils,.nils,.nils,SS S0,SS S0]),(6,.obj [oR eTok x65.f_g.Toks,oR eNon s78.1,oR eProd_0 x65.f_g.Prods,SS x65.f_g.Pro,SS x65.f_g.Tail,oR eB x65.f_given,oR eNon x65.f_types,oR eS x65.f_lefts,I64 x65.f_e,I64 x65.f_at,SS x65.f_name,I64 x65.f_level,I64 x65.f_inner]),(18,I64 s78.2),(19,.obj [SS x82,SS S0])]) (cs2:=[SS x82,SS S0]) q (.obj q) (.aggF q q) q sz134 q q q q (.n q q (.n q q (.n q q (.n q q (.b q .nil)))))<|Fi (tn5 q q q q q)) ?_
     refine Px.sq<|W.sq' ?_
     refine W.sq' ?_
     obtain ⟨x83,hx83,h⟩:=bnd h
     refine W.rx [(1,_),(2,_),(6,_),(18,_),(19,_),(20,_)] (Rv (O.mv (.obj q))<|Rv (O.fO q (.obj q) fd134_0 q)<|Rv (O.ldO (y:=SS x82) q (.ptr q) ct9 q q)<|Rc (PC.vw (ys:=[.ptr ⟨6,[]⟩ 0,SS x82]) q (.c (View.p0 q q) (.s .nil)) (con94 (⟨(⟨x65.f_g.Toks,s78.1,x65.f_g.Prods,x65.f_g.Pro,x65.f_g.Tail⟩:Grammar),x65.f_given,x65.f_types,x65.f_lefts,x65.f_e,x65.f_at,x65.f_name,x65.f_level,x65.f_inner⟩:yuccaref9_maker) x82 _ hx83) call94 q)<|Va q<|Fi (tn6 q q q q q q)) ?_
     refine Px.sq<|W.sq' ?_
     refine W.rx [(1,_),(2,_),(6,_),(18,_),(19,_),(20,_),(294,_)] (Vm q<|Rv (O.geq (.lit q) (.k q))<|Fi (tn7 q q q q q q q)) ?_
     refine Px.sq ?_
     obtain ⟨j84,hj,h⟩:=bnd h
     refine W.jn [(1,.obj [SS a0.Pro,iR eDecl_0 a0.Decls,iR eRule_0 a0.Rules,SS a0.Tail]),(2,.obj [.nils,.nils,.nils,SS S0,SS S0]),(6,.obj [oR eTok x65.f_g.Toks,oR eNon s78.1,oR eProd_0 x65.f_g.Prods,SS x65.f_g.Pro,SS x65.f_g.Tail,oR eB x65.f_given,oR eNon x65.f_types,oR eS x65.f_lefts,I64 x65.f_e,I64 x65.f_at,SS x65.f_name,I64 x65.f_level,I64 x65.f_inner]),(18,I64 s78.2),(19,.obj [SS x82,SS j84])] ?_ ?_
     ·clear h; have h:=hj; clear hj
      refine W.cnd q (fun hb85=>?_) (fun hb85=>?_)
      ·replace h:=cndT hb85 h
       obtain ⟨x86,hx86,h⟩:=bnd h
       refine W.rx [(1,_),(2,_),(6,_),(18,_),(19,_)] (Rv (O.mv (.obj q))<|Rv (O.nlP (.ptr q))<|Rv (O.fO q (.ptr q) fd143_2 q)<|Rv (O.ldO (y:=.brw eNon.z ⟨6,[6]⟩ x65.f_types.length) q (.ptr q) ct35 q q)<|Vm q<|Rv (O.ixO (en:=eNon) q (.brw q) (.lit q) sl35 hx86 q)<|Rv (O.fE (en:=eNon) q (.ptr q) fd134_1 hx86 q q)<|Rv (O.ldE (en:=eNon) (x':=SS x86.Tag) q (.ptr q) ct9 hx86 q q)<|Rv (O.fO q (.obj q) fd134_1 q)<|RunL.sO (G2:=[(1,.obj [SS a0.Pro,iR eDecl_0 a0.Decls,iR eRule_0 a0.Rules,SS a0.Tail]),(2,.obj [.nils,.nils,.nils,SS S0,SS S0]),(6,.obj [oR eTok x65.f_g.Toks,oR eNon s78.1,oR eProd_0 x65.f_g.Prods,SS x65.f_g.Pro,SS x65.f_g.Tail,oR eB x65.f_given,oR eNon x65.f_types,oR eS x65.f_lefts,I64 x65.f_e,I64 x65.f_at,SS x65.f_name,I64 x65.f_level,I64 x65.f_inner]),(18,I64 s78.2),(19,.obj [SS x82,SS x86.Tag])]) (cs2:=[SS x82,SS x86.Tag]) q (.ptr q) (.lit q) q sz9 q q q q (.n q q (.n q q (.n q q (.n q q (.b q .nil)))))<|Fi (tn5 q q q q q)) ?_
       obtain rfl:=sm h
       exact Px.jn (tn5 q q q q q)
      ·replace h:=cndF hb85 h
       refine W.sk ?_
       obtain rfl:=sm h
       exact Px.jn (tn5 q q q q q)
     refine Px.sq ?_
     obtain ⟨x87,hx87,h⟩:=bnd h
     refine W.rd [[],[],[1],[1,2],[1,2,3],[1,2,3,4],[],[6],rn 1 7 [],rn 0 9 [],rn 0 10 [],rn 0 11 [],rn 0 12 []] [(1,_),(2,_),(6,_),(18,_)] mixo (by kernel_rfl) (Dv 0 (O.mv (.obj q))<|Dv 1 (O.mv (.obj q))<|Dv 2 (O.nlP (.ptr q))<|Dv 3 (O.fO q (.ptr q) fd143_0 q)<|Dv 4 (O.fO q (.ptr q) fd38_1 q)<|Dv 5 (O.ldO (y:=.brw eNon.z ⟨6,[1]⟩ s78.1.length) q (.ptr q) ct35 q q)<|Dv 6 (O.ldON (cs':=[SS x82,SS j84]) q (.obj q) at134 q q)<|DL.vi 7 (x:=iR eNon [(⟨x82,j84⟩:Non)]) (O.bs (ys:=[.agg [SS x82,SS j84]]) eNon [(⟨x82,j84⟩:Non)] sl35 q q q q q q zt134 q q) q q q q .none<|Dv 8 (O.ap (en:=eNon) (r:=x87) (.brw q) q (.imm q) .i ap35 q hx87)<|Dv 9 (O.nlP (.ptr q))<|Dv 10 (O.fO q (.ptr q) fd143_0 q)<|Dv 11 (O.fO q (.ptr q) fd38_1 q)<|DL.bp 12 (G2:=[(1,.obj [SS a0.Pro,iR eDecl_0 a0.Decls,iR eRule_0 a0.Rules,SS a0.Tail]),(2,.obj [.nils,.nils,.nils,SS S0,SS S0]),(6,.obj [oR eTok x65.f_g.Toks,oR eNon (s78.1++[(⟨x82,j84⟩:Non)]),oR eProd_0 x65.f_g.Prods,SS x65.f_g.Pro,SS x65.f_g.Tail,oR eB x65.f_given,oR eNon x65.f_types,oR eS x65.f_lefts,I64 x65.f_e,I64 x65.f_at,SS x65.f_name,I64 x65.f_level,I64 x65.f_inner]),(18,I64 s78.2)]) (EO.stP (g1:=_) (en:=eNon) (M:=[(⟨x82,j84⟩:Non)]) (cs2:=[oR eTok x65.f_g.Toks,oR eNon (s78.1++[(⟨x82,j84⟩:Non)]),oR eProd_0 x65.f_g.Prods,SS x65.f_g.Pro,SS x65.f_g.Tail,oR eB x65.f_given,oR eNon x65.f_types,oR eS x65.f_lefts,I64 x65.f_e,I64 x65.f_at,SS x65.f_name,I64 x65.f_level,I64 x65.f_inner]) q q (.ptr q) (.pend q) q q q .ns .rf q q sz35 q q q q (.n q q (.n q q (.b q (.n q q .nil))))) q q q q (by kernel_rfl) (by kernel_rfl)<|DL.fin q q q (tn4 q q q q)) ?_
     refine Px.bk ?_
     refine Px.sq<|W.rx [(1,_),(2,_),(6,_),(18,_)] (Vm q<|Rv (O.add (.lit q) (.k q))<|RunL.re (G1:=[(1,_),(2,_),(6,_),(280,_)]) (tn4 q q q q)<|Va q<|Fi (tn4 q q q q)) ?_
     obtain rfl:=sm h
     exact Px.go (tn4 q q q q)
    ·replace h:=cndF hb81 h
     refine W.xi ?_
     refine Px.sqE ?_
     obtain rfl:=sm h
     exact Px.x1 (tn3 q q q)
   refine Px.bkH ?_
   refine Px.sq<|W.sq' ?_
   refine W.sq'<|W.rx [(1,_),(2,_),(6,_),(21,_)] (Vk q<|Fi (tn4 q q q q)) ?_
   refine Px.sq<|W.bk ?_
   obtain ⟨x89,hl,h⟩:=bnd h
   refine W.tr (G1:=[(1,_),(2,_),(6,_),(21,_)]) (tn4 q q q q) ?_
   refine W.lp1 (s:=(x79,1)) (fun (s88:List Non × Int)=>[(1,.obj [SS a0.Pro,iR eDecl_0 a0.Decls,iR eRule_0 a0.Rules,SS a0.Tail]),(2,.obj [.nils,.nils,.nils,SS S0,SS S0]),(6,.obj [oR eTok x65.f_g.Toks,oR eNon s88.1,oR eProd_0 x65.f_g.Prods,SS x65.f_g.Pro,SS x65.f_g.Tail,oR eB x65.f_given,oR eNon x65.f_types,oR eS x65.f_lefts,I64 x65.f_e,I64 x65.f_at,SS x65.f_name,I64 x65.f_level,I64 x65.f_inner]),(21,I64 s88.2)]) 16 (fun (x89:List Non)=>[(1,.obj [SS a0.Pro,iR eDecl_0 a0.Decls,iR eRule_0 a0.Rules,SS a0.Tail]),(2,.obj [.nils,.nils,.nils,SS S0,SS S0]),(6,.obj [oR eTok x65.f_g.Toks,oR eNon x89,oR eProd_0 x65.f_g.Prods,SS x65.f_g.Pro,SS x65.f_g.Tail,oR eB x65.f_given,oR eNon x65.f_types,oR eS x65.f_lefts,I64 x65.f_e,I64 x65.f_at,SS x65.f_name,I64 x65.f_level,I64 x65.f_inner])]) hl (fun s88 o h=>?_) ?_
   ·clear hl
    refine W.sq'<|W.sq' ?_
    refine W.rx [(1,_),(2,_),(6,_),(21,_),(321,_)] (Vm q<|Rv (O.mv (.obj q))<|Rv (O.nlP (.ptr q))<|Rv (O.fO q (.ptr q) fd143_8 q)<|Rv (O.ldO (y:=I64 x65.f_inner) q (.ptr q) ct3 q q)<|Rv (O.leq (.lit q) (.lit q))<|Fi (tn5 q q q q q)) ?_
    refine Px.sq<|W.cnd q (fun hb91=>?_) (fun hb91=>?_)
    ·replace h:=cndT hb91 h
     refine W.sk<|Px.sq ?_
     refine W.sq'<|W.bk ?_
     obtain ⟨x92,hx92,h⟩:=bnd h
     obtain ⟨x93,hx93,h⟩:=bnd h
     obtain ⟨x94,hx94,h⟩:=bnd h
     refine W.rd [[],[],[1],[1,2],[1,2,3],[1,2,3,4],[],[6],[6,7],[6,7,8],[6,7,8,9],rn 1 10 [],rn 0 12 [],rn 0 13 [],rn 0 14 [],rn 0 15 []] [(1,_),(2,_),(6,_),(21,_)] mixo (by kernel_rfl) (Dv 0 (O.mv (.obj q))<|Dv 1 (O.mv (.obj q))<|Dv 2 (O.nlP (.ptr q))<|Dv 3 (O.fO q (.ptr q) fd143_0 q)<|Dv 4 (O.fO q (.ptr q) fd38_1 q)<|Dv 5 (O.ldO (y:=.brw eNon.z ⟨6,[1]⟩ s88.1.length) q (.ptr q) ct35 q q)<|Dv 6 (O.mv (.lit q))<|Dc 7 (PC.go (.cc (.lit q) .nil) (con28 s88.2 _ hx92) call28 q)<|Dv 8 (O.cat (.k q) (.lit q) hx93)<|Dv 9 (O.bu (cs:=[SS x93,SS S0]) sc134 ze134 q q q)<|DL.vi 10 (x:=iR eNon [(⟨x93,S0⟩:Non)]) (O.bs (ys:=[.agg [SS x93,SS S0]]) eNon [(⟨x93,S0⟩:Non)] sl35 q q q q q q zt134 q q) q q q q .none<|Dv 11 (O.ap (en:=eNon) (r:=x94) (.brw q) q (.imm q) .i ap35 q hx94)<|Dv 12 (O.nlP (.ptr q))<|Dv 13 (O.fO q (.ptr q) fd143_0 q)<|Dv 14 (O.fO q (.ptr q) fd38_1 q)<|DL.bp 15 (G2:=[(1,.obj [SS a0.Pro,iR eDecl_0 a0.Decls,iR eRule_0 a0.Rules,SS a0.Tail]),(2,.obj [.nils,.nils,.nils,SS S0,SS S0]),(6,.obj [oR eTok x65.f_g.Toks,oR eNon (s88.1++[(⟨x93,S0⟩:Non)]),oR eProd_0 x65.f_g.Prods,SS x65.f_g.Pro,SS x65.f_g.Tail,oR eB x65.f_given,oR eNon x65.f_types,oR eS x65.f_lefts,I64 x65.f_e,I64 x65.f_at,SS x65.f_name,I64 x65.f_level,I64 x65.f_inner]),(21,I64 s88.2)]) (EO.stP (g1:=_) (en:=eNon) (M:=[(⟨x93,S0⟩:Non)]) (cs2:=[oR eTok x65.f_g.Toks,oR eNon (s88.1++[(⟨x93,S0⟩:Non)]),oR eProd_0 x65.f_g.Prods,SS x65.f_g.Pro,SS x65.f_g.Tail,oR eB x65.f_given,oR eNon x65.f_types,oR eS x65.f_lefts,I64 x65.f_e,I64 x65.f_at,SS x65.f_name,I64 x65.f_level,I64 x65.f_inner]) q q (.ptr q) (.pend q) q q q .ns .rf q q sz35 q q q q (.n q q (.n q q (.b q (.n q q .nil))))) q q q q (by kernel_rfl) (by kernel_rfl)<|DL.fin q q q (tn4 q q q q)) ?_
     refine Px.bk ?_
     refine Px.sq<|W.rx [(1,_),(2,_),(6,_),(21,_)] (Vm q<|Rv (O.add (.lit q) (.k q))<|RunL.re (G1:=[(1,_),(2,_),(6,_),(323,_)]) (tn4 q q q q)<|Va q<|Fi (tn4 q q q q)) ?_
     obtain rfl:=sm h
     exact Px.go (tn4 q q q q)
    ·replace h:=cndF hb91 h
     refine W.xi ?_
     refine Px.sqE ?_
     obtain rfl:=sm h
     exact Px.x1 (tn3 q q q)
   refine Px.bkH ?_
   refine Px.sq<|W.sq' ?_
   refine W.rx [(1,_),(2,_),(6,_),(22,_)] (Vk q<|Fi (tn4 q q q q)) ?_
   refine Px.sq<|W.sq' ?_
   refine W.sq'<|W.rx [(1,_),(2,_),(6,_),(22,_),(23,_)] (Vk q<|Fi (tn5 q q q q q)) ?_
   refine Px.sq<|W.bk ?_
   obtain ⟨x96,hl,h⟩:=bnd h
   refine W.tr (G1:=[(1,_),(2,_),(6,_),(22,_),(23,_)]) (tn5 q q q q q) ?_
   refine W.lp1 (s:=(x65.f_g.Toks,57346,3)) (fun (s95:List Tok × Int × Int)=>[(1,.obj [SS a0.Pro,iR eDecl_0 a0.Decls,iR eRule_0 a0.Rules,SS a0.Tail]),(2,.obj [.nils,.nils,.nils,SS S0,SS S0]),(6,.obj [oR eTok s95.1,oR eNon x89,oR eProd_0 x65.f_g.Prods,SS x65.f_g.Pro,SS x65.f_g.Tail,oR eB x65.f_given,oR eNon x65.f_types,oR eS x65.f_lefts,I64 x65.f_e,I64 x65.f_at,SS x65.f_name,I64 x65.f_level,I64 x65.f_inner]),(22,I64 s95.2.1),(23,I64 s95.2.2)]) 18 (fun (x96:List Tok)=>[(1,.obj [SS a0.Pro,iR eDecl_0 a0.Decls,iR eRule_0 a0.Rules,SS a0.Tail]),(2,.obj [.nils,.nils,.nils,SS S0,SS S0]),(6,.obj [oR eTok x96,oR eNon x89,oR eProd_0 x65.f_g.Prods,SS x65.f_g.Pro,SS x65.f_g.Tail,oR eB x65.f_given,oR eNon x65.f_types,oR eS x65.f_lefts,I64 x65.f_e,I64 x65.f_at,SS x65.f_name,I64 x65.f_level,I64 x65.f_inner])]) hl (fun s95 o h=>?_) ?_
   ·clear hl
    refine W.sq'<|W.sq' ?_
    refine W.rx [(1,_),(2,_),(6,_),(22,_),(23,_),(346,_)] (Vm q<|Rv (O.mv (.obj q))<|Rv (O.nlP (.ptr q))<|Rv (O.fO q (.ptr q) fd143_0 q)<|Rv (O.fO q (.ptr q) fd38_0 q)<|Rv (O.ldO (y:=.brw eTok.z ⟨6,[0]⟩ s95.1.length) q (.ptr q) ct34 q q)<|Rv (O.lenO (.brw q) sl34)<|Rv (O.lss (.lit q) (.lit q))<|Fi (tn6 q q q q q q)) ?_
    refine Px.sq<|W.cnd q (fun hb98=>?_) (fun hb98=>?_)
    ·replace h:=cndT hb98 h
     refine W.sk<|Px.sq ?_
     refine W.sq' ?_
     obtain ⟨j99,hj,h⟩:=bnd h
     refine W.jn [(1,.obj [SS a0.Pro,iR eDecl_0 a0.Decls,iR eRule_0 a0.Rules,SS a0.Tail]),(2,.obj [.nils,.nils,.nils,SS S0,SS S0]),(6,.obj [oR eTok j99.1,oR eNon x89,oR eProd_0 x65.f_g.Prods,SS x65.f_g.Pro,SS x65.f_g.Tail,oR eB x65.f_given,oR eNon x65.f_types,oR eS x65.f_lefts,I64 x65.f_e,I64 x65.f_at,SS x65.f_name,I64 x65.f_level,I64 x65.f_inner]),(22,I64 j99.2),(23,I64 s95.2.2)] ?_ ?_
     ·clear h; have h:=hj; clear hj
      refine W.bk<|W.sq' ?_
      obtain ⟨x100,hx100,h⟩:=bnd h
      refine W.rx [(1,_),(2,_),(6,_),(22,_),(23,_),(356,_)] (Rv (O.mv (.obj q))<|Rv (O.nlP (.ptr q))<|Rv (O.fO q (.ptr q) fd143_1 q)<|Rv (O.ldO (y:=.brw eB.z ⟨6,[5]⟩ x65.f_given.length) q (.ptr q) ct116 q q)<|Vm q<|Rv (O.ixO (en:=eB) q (.brw q) (.lit q) sl116 hx100 q)<|Rv (O.ldE (en:=eB) (x':=BB x100) q (.ptr q) ct4 hx100 q q)<|Rv (O.not (.lit q))<|Fi (tn6 q q q q q q)) ?_
      refine Px.sq ?_
      obtain ⟨j101,hj,h⟩:=bnd h
      refine W.jn [(1,.obj [SS a0.Pro,iR eDecl_0 a0.Decls,iR eRule_0 a0.Rules,SS a0.Tail]),(2,.obj [.nils,.nils,.nils,SS S0,SS S0]),(6,.obj [oR eTok j101.1,oR eNon x89,oR eProd_0 x65.f_g.Prods,SS x65.f_g.Pro,SS x65.f_g.Tail,oR eB x65.f_given,oR eNon x65.f_types,oR eS x65.f_lefts,I64 x65.f_e,I64 x65.f_at,SS x65.f_name,I64 x65.f_level,I64 x65.f_inner]),(22,I64 j101.2),(23,I64 s95.2.2)] ?_ ?_
      ·clear h; have h:=hj; clear hj
       refine W.cnd q (fun hb102=>?_) (fun hb102=>?_)
       ·replace h:=cndT hb102 h
        refine W.sq' ?_
        obtain ⟨x103,hx103,h⟩:=bnd h
        refine W.rx [(1,_),(2,_),(6,_),(22,_),(23,_)] (Rv (O.mv (.obj q))<|Rv (O.nlP (.ptr q))<|Rv (O.fO q (.ptr q) fd143_0 q)<|Rv (O.fO q (.ptr q) fd38_0 q)<|Rv (O.ldO (y:=.brw eTok.z ⟨6,[0]⟩ s95.1.length) q (.ptr q) ct34 q q)<|Vm q<|Vm q<|Rv (O.ixO (en:=eTok) q (.brw q) (.lit q) sl34 hx103 q)<|Rv (O.fE (en:=eTok) q (.ptr q) fd51_2 hx103 q q)<|RunL.ef (G2:=[(1,.obj [SS a0.Pro,iR eDecl_0 a0.Decls,iR eRule_0 a0.Rules,SS a0.Tail]),(2,.obj [.nils,.nils,.nils,SS S0,SS S0]),(6,.obj [oR eTok (s95.1.set s95.2.2.toNat (⟨x103.Name,x103.Lit,s95.2.1,x103.Level,x103.Assoc,x103.Tag⟩:Tok)),oR eNon x89,oR eProd_0 x65.f_g.Prods,SS x65.f_g.Pro,SS x65.f_g.Tail,oR eB x65.f_given,oR eNon x65.f_types,oR eS x65.f_lefts,I64 x65.f_e,I64 x65.f_at,SS x65.f_name,I64 x65.f_level,I64 x65.f_inner]),(22,I64 s95.2.1),(23,I64 s95.2.2)]) q (EO.stE (en:=eTok) (y2:=(⟨x103.Name,x103.Lit,s95.2.1,x103.Level,x103.Assoc,x103.Tag⟩:Tok)) (cs':=[I64 s95.2.1]) (x2:=.obj [oR eTok (s95.1.set s95.2.2.toNat (⟨x103.Name,x103.Lit,s95.2.1,x103.Level,x103.Assoc,x103.Tag⟩:Tok)),oR eNon x89,oR eProd_0 x65.f_g.Prods,SS x65.f_g.Pro,SS x65.f_g.Tail,oR eB x65.f_given,oR eNon x65.f_types,oR eS x65.f_lefts,I64 x65.f_e,I64 x65.f_at,SS x65.f_name,I64 x65.f_level,I64 x65.f_inner]) q q (.ptr q) (.lit q) q hx103 sz3 q q q q q q q (.n q q (.n q q (.b q (.n q q (.n q q .nil))))))<|Fi (tn5 q q q q q)) ?_
        refine Px.sq<|W.rx [(1,_),(2,_),(6,_),(22,_),(23,_)] (Vm q<|Rv (O.add (.lit q) (.k q))<|RunL.re (G1:=[(1,_),(2,_),(6,_),(23,_),(367,_)]) (tn5 q q q q q)<|Va q<|Fi (tn5 q q q q q)) ?_
        obtain rfl:=sm h
        exact Px.jn (tn5 q q q q q)
       ·replace h:=cndF hb102 h
        refine W.sk ?_
        obtain rfl:=sm h
        exact Px.jn (tn5 q q q q q)
      refine Px.bk ?_
      obtain rfl:=sm h
      exact Px.jn (tn5 q q q q q)
     refine Px.sq<|W.rx [(1,_),(2,_),(6,_),(22,_),(23,_)] (Vm q<|Rv (O.add (.lit q) (.k q))<|RunL.re (G1:=[(1,_),(2,_),(6,_),(22,_),(348,_)]) (tn5 q q q q q)<|Va q<|Fi (tn5 q q q q q)) ?_
     obtain rfl:=sm h
     exact Px.go (tn5 q q q q q)
    ·replace h:=cndF hb98 h
     refine W.xi ?_
     refine Px.sqE ?_
     obtain rfl:=sm h
     exact Px.x1 (tn3 q q q)
   refine Px.bkH ?_
   refine Px.sq<|W.sq' ?_
   obtain ⟨c106,hj,h⟩:=bnd h
   refine W.rx [(1,.obj [SS a0.Pro,iR eDecl_0 a0.Decls,iR eRule_0 a0.Rules,SS a0.Tail]),(2,.obj [.nils,.nils,.nils,SS S0,SS S0]),(6,.obj [oR eTok x96,oR eNon x89,oR eProd_0 x65.f_g.Prods,SS x65.f_g.Pro,SS x65.f_g.Tail,oR eB x65.f_given,oR eNon x65.f_types,oR eS x65.f_lefts,I64 x65.f_e,I64 x65.f_at,SS x65.f_name,I64 x65.f_level,I64 x65.f_inner]),(24,BB c106)] ?_ ?_
   ·refine Rv (O.mv (.obj q))<|Rv (O.nlP (.ptr q))<|Rv (O.fO q (.ptr q) fd143_0 q)<|Rv (O.fO q (.ptr q) fd38_0 q)<|Rv (O.ldO (y:=.brw eTok.z ⟨6,[0]⟩ x96.length) q (.ptr q) ct34 q q)<|Rv (O.lenO (.brw q) sl34)<|Rv (O.gtr (.lit q) (.k q))<|Rv (O.mv (.lit q)) ?_
    rcases cnd hj with ⟨hb104,hj⟩ | ⟨hb104,hj⟩
    ·obtain rfl:=sm hj
     exact RunL.ps q q hb104 q q<|RunL.ps q q hb104 q q<|RunL.ps q q hb104 q q<|RunL.ps q q hb104 q q<|RunL.ps q q hb104 q q<|RunL.ps q q hb104 q q<|RunL.ps q q hb104 q q<|Rv (O.pkT (.lit q) hb104 (.k q))<|Vm q<|RunL.ps q q q q q<|RunL.ps q q q q q<|RunL.ps q q q q q<|RunL.ps q q q q q<|RunL.ps q q q q q<|RunL.ps q q q q q<|RunL.ps q q q q q<|Rv (O.pkT (.lit q) q (.k q))<|Va q<|Fi (tn4 q q q q)
    ·refine RunL.v (O.mv (.obj q)) q q (.yb q q hb104)<|RunL.v (O.nlP (.ptr q)) q q (.yb q q hb104)<|RunL.v (O.fO q (.ptr q) fd143_0 q) q q (.yb q q hb104)<|RunL.v (O.fO q (.ptr q) fd38_1 q) q q (.yb q q hb104)<|RunL.v (O.ldO (y:=.brw eNon.z ⟨6,[1]⟩ x89.length) q (.ptr q) ct35 q q) q q (.yb q q hb104)<|RunL.v (O.lenO (.brw q) sl35) q q (.yb q q hb104)<|RunL.v (O.gtr (.lit q) (.k q)) q q (.yb q q hb104)<|Rv (O.pkF (.lit q) hb104 (.lit q))<|Rv (O.mv (.lit q)) ?_
     rcases cnd hj with ⟨hb105,hj⟩ | ⟨hb105,hj⟩
     ·obtain rfl:=sm hj
      exact RunL.ps q q hb105 q q<|RunL.ps q q hb105 q q<|RunL.ps q q hb105 q q<|RunL.ps q q hb105 q q<|RunL.ps q q hb105 q q<|RunL.ps q q hb105 q q<|RunL.ps q q hb105 q q<|Rv (O.pkT (.lit q) hb105 (.k q))<|Va q<|Fi (tn4 q q q q)
     ·obtain rfl:=sm hj
      exact RunL.v (O.mv (.obj q)) q q (.yb q q hb105)<|RunL.v (O.nlP (.ptr q)) q q (.yb q q hb105)<|RunL.v (O.fO q (.ptr q) fd143_0 q) q q (.yb q q hb105)<|RunL.v (O.fO q (.ptr q) fd38_2 q) q q (.yb q q hb105)<|RunL.v (O.ldO (y:=.brw eProd_0.z ⟨6,[2]⟩ x65.f_g.Prods.length) q (.ptr q) ct36 q q) q q (.yb q q hb105)<|RunL.v (O.lenO (.brw q) sl36) q q (.yb q q hb105)<|RunL.v (O.gtr (.lit q) (.k q)) q q (.yb q q hb105)<|Rv (O.pkF (.lit q) hb105 (.lit q))<|Va q<|Fi (tn4 q q q q)
   refine Px.sq<|W.sq' ?_
   refine W.sq'<|W.rx [(1,_),(2,_),(6,_),(24,_),(25,_)] (Vk q<|Fi (tn5 q q q q q)) ?_
   refine Px.sq<|W.bk ?_
   obtain ⟨x108,hl,h⟩:=bnd h
   refine W.tr (G1:=[(1,_),(2,_),(6,_),(24,_),(25,_)]) (tn5 q q q q q) ?_
   refine W.lp1 (s:=(c106,0)) (fun (s107:Bool × Int)=>[(1,.obj [SS a0.Pro,iR eDecl_0 a0.Decls,iR eRule_0 a0.Rules,SS a0.Tail]),(2,.obj [.nils,.nils,.nils,SS S0,SS S0]),(6,.obj [oR eTok x96,oR eNon x89,oR eProd_0 x65.f_g.Prods,SS x65.f_g.Pro,SS x65.f_g.Tail,oR eB x65.f_given,oR eNon x65.f_types,oR eS x65.f_lefts,I64 x65.f_e,I64 x65.f_at,SS x65.f_name,I64 x65.f_level,I64 x65.f_inner]),(24,BB s107.1),(25,I64 s107.2)]) 20 (fun (x108:Bool)=>[(1,.obj [SS a0.Pro,iR eDecl_0 a0.Decls,iR eRule_0 a0.Rules,SS a0.Tail]),(2,.obj [.nils,.nils,.nils,SS S0,SS S0]),(6,.obj [oR eTok x96,oR eNon x89,oR eProd_0 x65.f_g.Prods,SS x65.f_g.Pro,SS x65.f_g.Tail,oR eB x65.f_given,oR eNon x65.f_types,oR eS x65.f_lefts,I64 x65.f_e,I64 x65.f_at,SS x65.f_name,I64 x65.f_level,I64 x65.f_inner]),(24,BB x108)]) hl (fun s107 o h=>?_) ?_
   ·clear hl
    refine W.sq'<|W.sq' ?_
    refine W.rx [(1,_),(2,_),(6,_),(24,_),(25,_),(400,_)] (Vm q<|Rv (O.mv (.obj q))<|Rv (O.nlP (.ptr q))<|Rv (O.fO q (.ptr q) fd143_0 q)<|Rv (O.fO q (.ptr q) fd38_2 q)<|Rv (O.ldO (y:=.brw eProd_0.z ⟨6,[2]⟩ x65.f_g.Prods.length) q (.ptr q) ct36 q q)<|Rv (O.lenO (.brw q) sl36)<|Rv (O.lss (.lit q) (.lit q))<|Fi (tn6 q q q q q q)) ?_
    refine Px.sq<|W.cnd q (fun hb110=>?_) (fun hb110=>?_)
    ·replace h:=cndT hb110 h
     refine W.sk<|Px.sq ?_
     refine W.sq'<|W.bk ?_
     obtain ⟨c113,hj,h⟩:=bnd h
     refine W.rx [(1,.obj [SS a0.Pro,iR eDecl_0 a0.Decls,iR eRule_0 a0.Rules,SS a0.Tail]),(2,.obj [.nils,.nils,.nils,SS S0,SS S0]),(6,.obj [oR eTok x96,oR eNon x89,oR eProd_0 x65.f_g.Prods,SS x65.f_g.Pro,SS x65.f_g.Tail,oR eB x65.f_given,oR eNon x65.f_types,oR eS x65.f_lefts,I64 x65.f_e,I64 x65.f_at,SS x65.f_name,I64 x65.f_level,I64 x65.f_inner]),(24,BB c113),(25,I64 s107.2)] ?_ ?_
     ·refine Vm q<|Rv (O.mv (.lit q)) ?_
      rcases cnd hj with ⟨hb111,hj⟩ | ⟨hb111,hj⟩
      ·obtain rfl:=sm hj
       exact RunL.ps q q hb111 q q<|RunL.ps q q hb111 q q<|RunL.ps q q hb111 q q<|RunL.ps q q hb111 q q<|RunL.ps q q hb111 q q<|RunL.ps q q hb111 q q<|RunL.ps q q hb111 q q<|RunL.ps q q hb111 q q<|RunL.ps q q hb111 q q<|RunL.ps q q hb111 q q<|RunL.ps q q hb111 q q<|Rv (O.pkT (.lit q) hb111 (.k q))<|RunL.re (G1:=[(1,_),(2,_),(6,_),(25,_),(416,_)]) (tn5 q q q q q)<|Va q<|Fi (tn5 q q q q q)
      ·refine RunL.v (O.mv (.obj q)) q q (.yb q q hb111)<|RunL.v (O.nlP (.ptr q)) q q (.yb q q hb111)<|RunL.v (O.fO q (.ptr q) fd143_0 q) q q (.yb q q hb111)<|RunL.v (O.fO q (.ptr q) fd38_2 q) q q (.yb q q hb111)<|RunL.v (O.ldO (y:=.brw eProd_0.z ⟨6,[2]⟩ x65.f_g.Prods.length) q (.ptr q) ct36 q q) q q (.yb q q hb111)<|RunL.v (O.mv (.lit q)) q q (.yb q q hb111) ?_
       obtain ⟨x112,hx112,hj⟩:=bnd hj
       obtain rfl:=sm hj
       exact RunL.v (O.ixO (en:=eProd_0) q (.brw q) (.lit q) sl36 hx112 q) q q (.yb q q hb111)<|RunL.v (O.fE (en:=eProd_0) q (.ptr q) fd83_1 hx112 q q) q q (.yb q q hb111)<|RunL.v (O.ldE (en:=eProd_0) (x':=iR eI x112.Right) q (.ptr q) ct27 hx112 q q) q q (.yb q q hb111)<|RunL.v (O.lenI (.imm q) sl27) q q (.yb q q hb111)<|RunL.v (O.gtr (.lit q) (.k q)) q q (.yb q q hb111)<|Rv (O.pkF (.lit q) hb111 (.lit q))<|RunL.re (G1:=[(1,_),(2,_),(6,_),(25,_),(416,_)]) (tn5 q q q q q)<|Va q<|Fi (tn5 q q q q q)
     refine Px.bk ?_
     refine Px.sq<|W.rx [(1,_),(2,_),(6,_),(24,_),(25,_)] (Vm q<|Rv (O.add (.lit q) (.k q))<|RunL.re (G1:=[(1,_),(2,_),(6,_),(24,_),(402,_)]) (tn5 q q q q q)<|Va q<|Fi (tn5 q q q q q)) ?_
     obtain rfl:=sm h
     exact Px.go (tn5 q q q q q)
    ·replace h:=cndF hb110 h
     refine W.xi ?_
     refine Px.sqE ?_
     obtain rfl:=sm h
     exact Px.x1 (tn4 q q q q)
   refine Px.bkH ?_
   refine Px.sq<|W.sq' ?_
   refine W.sq'<|W.rx [(1,_),(2,_),(6,_),(417,_)] (Vm q<|Fi (tn4 q q q q)) ?_
   refine Px.sq<|W.cnd q (fun hb114=>?_) (fun hb114=>?_)
   ·replace h:=cndT hb114 h
    refine W.sq'<|W.rx [(2,_),(3,_),(4,_),(5,_)] (Rv (O.bu (cs:=[.nils,.nils,.nils,SS S0,SS S0]) sc38 ze38 q q q)<|RunL.sO (G2:=[(2,.obj [.nils,.nils,.nils,SS S0,SS S0])]) (cs2:=[.nils,.nils,.nils,SS S0,SS S0]) q (.obj q) (.aggF q q) q sz38 q q q q (.b q .nil)<|Vk q<|Vk q<|Vk q<|Fi (tn4 q q q q)) ?_
    refine Px.sq<|W.fz (G1:=[(2,.obj [iR eTok ([]:List Tok),iR eNon ([]:List Non),iR eProd_0 ([]:List Prod),SS S0,SS S0]),(3,_),(4,_),(5,_)]) [2] (.z q q (FzL.obj (.z (.z (.z (.f (.f .nil)))))) (.n q q (.n q q (.n q q .nil)))) ?_
    refine W.rt ?_
    refine Px.sqR ?_
    obtain rfl:=sm h
    exact Px.fin (Fin.ro (.c (ys0:=[iR eTok ([]:List Tok),iR eNon ([]:List Non),iR eProd_0 ([]:List Prod),SS S0,SS S0]) q at38 q q q (.f q (.f q (.f q (.f q (.f q .nil))))) (.f q q (.f q q (.f q q .nil)))) q (ode (by kernel_rfl)) (.no .nil) q (.inr q))
   ·replace h:=cndF hb114 h
    refine W.sk<|Px.sq ?_
    refine W.sq'<|W.rd [[],[],[],[2],[],[4],[0,2,3],[0,2,3,6],[0,2,3,6,7],[0,2,3,6,7,8],rn 0 10 [],rn 0 11 [],rn 0 12 [],rn 0 13 []] [(2,_),(6,_)] mixo (by kernel_rfl) (Dv 0 (O.mv (.obj q))<|Dv 1 (O.mv (.obj q))<|Dv 2 (O.fO q (.obj q) fd25_0 q)<|Dv 3 (O.ldO (y:=SS a0.Pro) q (.ptr q) ct9 q q)<|Dv 4 (O.fO q (.obj q) fd25_3 q)<|Dv 5 (O.ldO (y:=SS a0.Tail) q (.ptr q) ct9 q q)<|Dv 6 (O.nlP (.ptr q))<|Dv 7 (O.fO q (.ptr q) fd143_0 q)<|Dv 8 (O.fO q (.ptr q) fd38_3 q)<|DL.bu 9 (G2:=[(1,.obj [SS a0.Pro,iR eDecl_0 a0.Decls,iR eRule_0 a0.Rules,SS a0.Tail]),(2,.obj [.nils,.nils,.nils,SS S0,SS S0]),(6,.obj [oR eTok x96,oR eNon x89,oR eProd_0 x65.f_g.Prods,SS a0.Pro,SS x65.f_g.Tail,oR eB x65.f_given,oR eNon x65.f_types,oR eS x65.f_lefts,I64 x65.f_e,I64 x65.f_at,SS x65.f_name,I64 x65.f_level,I64 x65.f_inner])]) (U:=[(5,424,some (SS a0.Tail)),(4,423,some (.ptr ⟨1,[]⟩ 3)),(1,420,some (.ptr ⟨6,[]⟩ 0))]) (EffOk.v (EO.eff (EO.sO (G2:=[(1,.obj [SS a0.Pro,iR eDecl_0 a0.Decls,iR eRule_0 a0.Rules,SS a0.Tail]),(2,.obj [.nils,.nils,.nils,SS S0,SS S0]),(6,.obj [oR eTok x96,oR eNon x89,oR eProd_0 x65.f_g.Prods,SS a0.Pro,SS x65.f_g.Tail,oR eB x65.f_given,oR eNon x65.f_types,oR eS x65.f_lefts,I64 x65.f_e,I64 x65.f_at,SS x65.f_name,I64 x65.f_level,I64 x65.f_inner])]) (cs2:=[oR eTok x96,oR eNon x89,oR eProd_0 x65.f_g.Prods,SS a0.Pro,SS x65.f_g.Tail,oR eB x65.f_given,oR eNon x65.f_types,oR eS x65.f_lefts,I64 x65.f_e,I64 x65.f_at,SS x65.f_name,I64 x65.f_level,I64 x65.f_inner]) q q q (.ptr q) (.lit q) q sz9 q q q q (.n q q (.n q q (.b q .nil)))))) q q (by kernel_rfl) q q q (.c (.inr (.inl ⟨_,q⟩)) q q q q q (Gd.wanted .none) (O.ldO (y:=SS a0.Tail) q (.ptr q) ct9 q q) (.c (.inr (.inr (.inr ⟨1,_,_,q,q,of_blt q,by simp⟩))) q q q q q (Gd.wanted .none) (O.fO q (.obj q) fd25_3 q) (.c (.inr (.inr (.inr ⟨6,_,_,q,q,of_blt q,by simp⟩))) q q q q q (Gd.wanted .none) (O.mv (.obj q)) .nil))) (by kernel_rfl)<|Dv 10 (O.nlP (.ptr q))<|Dv 11 (O.fO q (.ptr q) fd143_0 q)<|Dv 12 (O.fO q (.ptr q) fd38_4 q)<|DL.sO 13 (G2:=[(2,.obj [.nils,.nils,.nils,SS S0,SS S0]),(6,.obj [oR eTok x96,oR eNon x89,oR eProd_0 x65.f_g.Prods,SS a0.Pro,SS a0.Tail,oR eB x65.f_given,oR eNon x65.f_types,oR eS x65.f_lefts,I64 x65.f_e,I64 x65.f_at,SS x65.f_name,I64 x65.f_level,I64 x65.f_inner])]) (cs2:=[oR eTok x96,oR eNon x89,oR eProd_0 x65.f_g.Prods,SS a0.Pro,SS a0.Tail,oR eB x65.f_given,oR eNon x65.f_types,oR eS x65.f_lefts,I64 x65.f_e,I64 x65.f_at,SS x65.f_name,I64 x65.f_level,I64 x65.f_inner]) q (by kernel_rfl) (by kernel_rfl) q q q (.ptr q) (.lit q) q sz9 q q q q (.n q q (.b q .nil))<|DL.fin q q q (tn2 q q)) ?_
    refine Px.sq<|W.sq' ?_
    refine W.fz (G1:=[(2,_),(6,.obj [iR eTok x96,iR eNon x89,iR eProd_0 x65.f_g.Prods,SS a0.Pro,SS a0.Tail,oR eB x65.f_given,oR eNon x65.f_types,oR eS x65.f_lefts,I64 x65.f_e,I64 x65.f_at,SS x65.f_name,I64 x65.f_level,I64 x65.f_inner])]) [6] (.n q q (.z q q (FzL.obj (.z (.z (.z (.f (.f (.f (.f (.f (.f (.f (.f (.f (.f .nil)))))))))))))) .nil)) ?_
    refine W.rx [(2,_),(3,_),(4,_),(5,_)] (Rv (O.mv (.obj q))<|Rv (O.nlP (.ptr q))<|Rv (O.fO q (.ptr q) fd143_0 q)<|Rv (O.ldON (cs':=[iR eTok x96,iR eNon x89,iR eProd_0 x65.f_g.Prods,SS a0.Pro,SS a0.Tail]) q (.ptr q) at38 q q)<|RunL.sO (G2:=[(2,.obj [iR eTok x96,iR eNon x89,iR eProd_0 x65.f_g.Prods,SS a0.Pro,SS a0.Tail])]) (cs2:=[iR eTok x96,iR eNon x89,iR eProd_0 x65.f_g.Prods,SS a0.Pro,SS a0.Tail]) q (.obj q) (.aggF q q) q sz38 q q q q (.b q .nil)<|Vk q<|Vk q<|Vk q<|Fi (tn4 q q q q)) ?_
    refine Px.sq<|W.rt ?_
    obtain rfl:=sm h
    exact Px.fin (Fin.ro (.c (ys0:=[iR eTok x96,iR eNon x89,iR eProd_0 x65.f_g.Prods,SS a0.Pro,SS a0.Tail]) q at38 q q q (.f q (.f q (.f q (.f q (.f q .nil))))) (.f q q (.f q q (.f q q .nil)))) q (ode (by kernel_rfl)) (.no .nil) q (.inr q))
theorem con20 (a0:Source) (r:Grammar × Bool) (h:pf20 a0=some r):Con Try.prog 20 [.agg [SS a0.Pro,iR eDecl_0 a0.Decls,iR eRule_0 a0.Rules,SS a0.Tail]] [none] (.tup [.agg (eGrammar_0.cells r.1),BB r.2]):=by
 unfold pf20 at h
 refine Con.go (N:=⟨18,[]⟩) Try.func20 q q q q (W.fin ?_)
 refine W.st [(0,.agg [SS a0.Pro,iR eDecl_0 a0.Decls,iR eRule_0 a0.Rules,SS a0.Tail])] ?_
 refine W.sq'<|W.rx [(1,_),(2,_)] (Rv (O.box (.aggF q q) q)<|Rv (O.al (cs:=[.nils,.nils,.nils,SS S0,SS S0]) ze38 q q)<|Vk q<|Fi (tn2 q q)) ?_
 refine Px.sq<|W.sq' ?_
 obtain ⟨x1,hx1,h⟩:=bnd h
 refine W.rx [(2,_),(4,_),(5,_)] (Rv (O.ldON (cs':=[SS a0.Pro,iR eDecl_0 a0.Decls,iR eRule_0 a0.Rules,SS a0.Tail]) q (.obj q) at25 q q)<|Rc (PC.go (.cc (.aggF q q) .nil) (con61 a0 _ hx1) call61 q)<|Rv (O.mv (.tup q q))<|Rv (O.ex (y:=.agg (eGrammar_0.cells x1.1)) q q q)<|Rv (O.ex (y:=I64 x1.2.1) q q q)<|Rv (O.ex (y:=I64 x1.2.2.1) q q q)<|Rv (O.ex (y:=SS x1.2.2.2) q q q)<|Rv (O.al (cs:=[.nils,.nils,.nils,SS S0,SS S0]) ze38 q q)<|RunL.sO (G2:=[(2,.obj [.nils,.nils,.nils,SS S0,SS S0]),(4,.obj (eGrammar_0.cells x1.1)),(12,I64 x1.2.1),(13,I64 x1.2.2.1),(14,SS x1.2.2.2)]) (cs2:=[iR eTok x1.1.Toks,iR eNon x1.1.Nons,iR eProd_0 x1.1.Prods,SS x1.1.Pro,SS x1.1.Tail]) q (.obj q) (.aggF q q) q sz38 q q q q (.n q q (.b q (.n q q (.n q q (.n q q .nil)))))<|Va q<|Va q<|Va q<|Fi (tn3 q q q)) ?_
 refine Px.sq<|W.sq' ?_
 refine W.rx [(2,_),(3,_)] (Rv (O.ldON (cs':=[iR eTok x1.1.Toks,iR eNon x1.1.Nons,iR eProd_0 x1.1.Prods,SS x1.1.Pro,SS x1.1.Tail]) q (.obj q) at38 q q)<|Vm q<|Rv (O.eql (.lit q) (.k q))<|RunL.sO (G2:=[(2,.obj (eGrammar_0.cells x1.1)),(17,BB (decide (x1.2.1=0)))]) (cs2:=[iR eTok x1.1.Toks,iR eNon x1.1.Nons,iR eProd_0 x1.1.Prods,SS x1.1.Pro,SS x1.1.Tail]) q (.obj q) (.aggF q q) q sz38 q q q q (.b q (.n q q .nil))<|Va q<|Fi (tn2 q q)) ?_
 refine Px.sq<|W.rt ?_
 obtain rfl:=sm h
 exact Px.fin (Fin.ro (.c (ys0:=[iR eTok x1.1.Toks,iR eNon x1.1.Nons,iR eProd_0 x1.1.Prods,SS x1.1.Pro,SS x1.1.Tail]) q at38 q q q (.f q (.f q (.f q (.f q (.f q .nil))))) (.f q q .nil)) q (ode (by kernel_rfl)) (.no .nil) q (.inr q))
theorem con23 (a0:(List Pair)) (a1:(List Pair)) (r:Bool) (h:pf23 a0 a1=some r):Con Try.prog 23 [iR ePair a0,iR ePair a1] [none,none] (BB r):=by
 unfold pf23 at h
 refine Con.go (N:=⟨26,[]⟩) Try.func23 q q q q (W.fin ?_)
 refine W.st [(0,iR ePair a0),(1,iR ePair a1)] ?_
 refine W.sq'<|W.rx [(0,_),(1,_)] (Vk q<|Fi (tn2 q q)) ?_
 refine Px.sq<|W.sq' ?_
 refine W.sq'<|W.rx [(0,_),(1,_),(10,_)] (Rv (O.mv (.imm q))<|Rv (O.lenI (.imm q) sl41)<|Rv (O.mv (.imm q))<|Rv (O.lenI (.imm q) sl41)<|Rv (O.neq (.lit q) (.lit q))<|Fi (tn3 q q q)) ?_
 refine Px.sq<|W.cnd q (fun hb1=>?_) (fun hb1=>?_)
 ·replace h:=cndT hb1 h
  refine W.sq'<|W.rx [(4,_)] (Vk q<|Fi (.n q .nil)) ?_
  refine Px.sq<|W.rt ?_
  refine Px.sqR ?_
  obtain rfl:=sm h
  exact Px.fin (Fin.ro (.f q q .nil) q (ode (by kernel_rfl)) (.no (.no .nil)) q (.inr q))
 ·replace h:=cndF hb1 h
  refine W.sk<|Px.sq ?_
  refine W.sq'<|W.sq' ?_
  refine W.rx [(0,_),(1,_),(5,_)] (Vk q<|Fi (tn3 q q q)) ?_
  refine Px.sq<|W.bk ?_
  obtain ⟨x3,hl,h⟩:=bnd h
  refine W.tr (G1:=[(0,_),(1,_),(5,_)]) (tn3 q q q) ?_
  refine W.lp2 (s:=0) (fun (s2:Int)=>[(0,iR ePair a0),(1,iR ePair a1),(5,I64 s2)]) 0 (fun (x4:Unit)=>[]) (fun (x5:Bool)=>[(4,BB x5)]) hl (fun s2 o h=>?_) (fun x4 hx=>?_) (fun x5 hx=>?_)
  ·clear hl
   refine W.sq'<|W.sq' ?_
   refine W.rx [(0,_),(1,_),(5,_),(14,_)] (Vm q<|Rv (O.mv (.imm q))<|Rv (O.lenI (.imm q) sl41)<|Rv (O.lss (.lit q) (.lit q))<|Fi (tn4 q q q q)) ?_
   refine Px.sq<|W.cnd q (fun hb6=>?_) (fun hb6=>?_)
   ·replace h:=cndT hb6 h
    refine W.sk<|Px.sq ?_
    refine W.sq'<|W.bk ?_
    refine W.sq' ?_
    obtain ⟨x7,hx7,h⟩:=bnd h
    obtain ⟨x8,hx8,h⟩:=bnd h
    refine W.rd [[],[],[0,1],[0,1,2],[],[],[4,5],[4,5,6],rn 0 8 []] [(0,_),(1,_),(5,_),(25,_)] mixo (by kernel_rfl) (Dv 0 (O.mv (.imm q))<|Dv 1 (O.mv (.lit q))<|Dv 2 (O.ixI (.imm q) (.lit q) sl41 hx7)<|Dv 3 (O.ldIN (cs':=[I64 x7.At,I64 x7.Val]) (.iptr q) at49 q q)<|Dv 4 (O.mv (.imm q))<|Dv 5 (O.mv (.lit q))<|Dv 6 (O.ixI (.imm q) (.lit q) sl41 hx8)<|Dv 7 (O.ldIN (cs':=[I64 x8.At,I64 x8.Val]) (.iptr q) at49 q q)<|Dv 8 (O.neqA (va:=[.int .i64 x7.At,.int .i64 x7.Val]) (vb:=[.int .i64 x8.At,.int .i64 x8.Val]) (.aggF q q) (.aggF q q) q q eq49)<|DL.fin q q q (tn4 q q q q)) ?_
    refine Px.sq<|W.cnd q (fun hb9=>?_) (fun hb9=>?_)
    ·replace h:=cndT hb9 h
     refine W.sq'<|W.rx [(4,_)] (Vk q<|Fi (.n q .nil)) ?_
     refine Px.sq<|W.rt ?_
     refine Px.bkR ?_
     refine Px.sqR ?_
     obtain rfl:=sm h
     exact Px.r2 (.n q .nil)
    ·replace h:=cndF hb9 h
     refine W.sk<|Px.bk ?_
     refine Px.sq<|W.rx [(0,_),(1,_),(5,_)] (Vm q<|Rv (O.add (.lit q) (.k q))<|RunL.re (G1:=[(0,_),(1,_),(16,_)]) (tn3 q q q)<|Va q<|Fi (tn3 q q q)) ?_
     obtain rfl:=sm h
     exact Px.go (tn3 q q q)
   ·replace h:=cndF hb6 h
    refine W.xi ?_
    refine Px.sqE ?_
    obtain rfl:=sm h
    exact Px.x2 .nil
  ·subst hx
   refine Px.bkH ?_
   refine Px.sq<|W.sq' ?_
   refine W.rx [(4,_)] (Vk q<|Fi (.n q .nil)) ?_
   refine Px.sq<|W.rt ?_
   obtain rfl:=sm h
   exact Px.fin (Fin.ro (.f q q .nil) q (ode (by kernel_rfl)) (.no (.no .nil)) q (.inr q))
  ·subst hx
   refine Px.bkR ?_
   refine Px.sqR ?_
   obtain rfl:=sm h
   exact Px.fin (Fin.ro (.f q q .nil) q (ode (by kernel_rfl)) (.no (.no .nil)) q (.inr q))
theorem con97 (a0:Int) (r:Bool) (h:pf97 a0=some r):Con Try.prog 97 [I64 a0] [none] (BB r):=by
 unfold pf97 at h
 refine Con.go (N:=⟨6,[]⟩) Try.func97 q q q q (W.fin ?_)
 refine W.st [(0,I64 a0)] ?_
 refine W.sq'<|W.rx [(0,_)] (Vk q<|Fi (.n q .nil)) ?_
 refine Px.sq<|W.sq' ?_
 refine W.rx [(2,_)] (Vm q<|Vm q<|Rv (O.neq (.lit q) (.lit q))<|Va q<|Fi (.n q .nil)) ?_
 refine Px.sq<|W.rt ?_
 obtain rfl:=sm h
 exact Px.fin (Fin.ro (.f q q .nil) q (ode (by kernel_rfl)) (.no .nil) q (.inr q))
theorem con65 (a0:Int) (a1:Int) (r:Int) (h:pf65 a0 a1=some r):Con Try.prog 65 [I64 a0,I64 a1] [none,none] (I64 r):=by
 unfold pf65 at h
 refine Con.go (N:=⟨20,[]⟩) Try.func65 q q q q (W.fin ?_)
 refine W.st [(0,I64 a0),(1,I64 a1)] ?_
 refine W.sq'<|W.rx [(0,_),(1,_)] (Vk q<|Fi (tn2 q q)) ?_
 refine Px.sq<|W.sq' ?_
 obtain ⟨x1,hx1,h⟩:=bnd h
 refine W.rx [(0,_),(1,_),(5,_)] (Vm q<|Rc (PC.go (.cc (.lit q) .nil) (con97 a0 _ hx1) call97 q)<|Va q<|Fi (tn3 q q q)) ?_
 refine Px.sq<|W.sq' ?_
 obtain ⟨x2,hx2,h⟩:=bnd h
 refine W.rx [(0,_),(1,_),(5,_),(6,_)] (Vm q<|Rc (PC.go (.cc (.lit q) .nil) (con97 a1 _ hx2) call97 q)<|Va q<|Fi (tn4 q q q q)) ?_
 refine Px.sq<|W.sq' ?_
 refine W.sq'<|W.rx [(0,_),(1,_),(6,_),(11,_)] (Vm q<|Fi (tn4 q q q q)) ?_
 refine Px.sq<|W.cnd q (fun hb3=>?_) (fun hb3=>?_)
 ·replace h:=cndT hb3 h
  refine W.sq'<|W.sq' ?_
  refine W.rx [(12,_)] (Vm q<|Fi (.n q .nil)) ?_
  refine Px.sq<|W.cnd q (fun hb4=>?_) (fun hb4=>?_)
  ·replace h:=cndT hb4 h
   refine W.sq'<|W.rx [(4,_)] (Vk q<|Fi (.n q .nil)) ?_
   refine Px.sq<|W.rt ?_
   refine Px.sqR ?_
   refine Px.sqR ?_
   obtain rfl:=sm h
   exact Px.fin (Fin.ro (.f q q .nil) q (ode (by kernel_rfl)) (.no (.no .nil)) q (.inr q))
  ·replace h:=cndF hb4 h
   refine W.sk<|Px.sq ?_
   refine W.sq'<|W.rx [(4,_)] (Vk q<|Fi (.n q .nil)) ?_
   refine Px.sq<|W.rt ?_
   refine Px.sqR ?_
   obtain rfl:=sm h
   exact Px.fin (Fin.ro (.f q q .nil) q (ode (by kernel_rfl)) (.no (.no .nil)) q (.inr q))
 ·replace h:=cndF hb3 h
  refine W.sk<|Px.sq ?_
  refine W.sq'<|W.sq' ?_
  refine W.rx [(0,_),(1,_),(13,_)] (Vm q<|Fi (tn3 q q q)) ?_
  refine Px.sq<|W.cnd q (fun hb5=>?_) (fun hb5=>?_)
  ·replace h:=cndT hb5 h
   refine W.sq'<|W.rx [(4,_)] (Vk q<|Fi (.n q .nil)) ?_
   refine Px.sq<|W.rt ?_
   refine Px.sqR ?_
   obtain rfl:=sm h
   exact Px.fin (Fin.ro (.f q q .nil) q (ode (by kernel_rfl)) (.no (.no .nil)) q (.inr q))
  ·replace h:=cndF hb5 h
   refine W.sk<|Px.sq ?_
   refine W.sq'<|W.sq' ?_
   refine W.rx [(0,_),(1,_),(16,_)] (Vm q<|Vm q<|Rv (O.lss (.lit q) (.lit q))<|Fi (tn3 q q q)) ?_
   refine Px.sq<|W.cnd q (fun hb6=>?_) (fun hb6=>?_)
   ·replace h:=cndT hb6 h
    refine W.sq'<|W.rx [(4,_)] (Vk q<|Fi (.n q .nil)) ?_
    refine Px.sq<|W.rt ?_
    refine Px.sqR ?_
    obtain rfl:=sm h
    exact Px.fin (Fin.ro (.f q q .nil) q (ode (by kernel_rfl)) (.no (.no .nil)) q (.inr q))
   ·replace h:=cndF hb6 h
    refine W.sk<|Px.sq ?_
    refine W.sq'<|W.sq' ?_
    refine W.rx [(19,_)] (Vm q<|Vm q<|Rv (O.gtr (.lit q) (.lit q))<|Fi (.n q .nil)) ?_
    refine Px.sq<|W.cnd q (fun hb7=>?_) (fun hb7=>?_)
    ·replace h:=cndT hb7 h
     refine W.sq'<|W.rx [(4,_)] (Vk q<|Fi (.n q .nil)) ?_
     refine Px.sq<|W.rt ?_
     refine Px.sqR ?_
     obtain rfl:=sm h
     exact Px.fin (Fin.ro (.f q q .nil) q (ode (by kernel_rfl)) (.no (.no .nil)) q (.inr q))
    ·replace h:=cndF hb7 h
     refine W.sk<|Px.sq ?_
     refine W.sq'<|W.rx [(4,_)] (Vk q<|Fi (.n q .nil)) ?_
     refine Px.sq<|W.rt ?_
     obtain rfl:=sm h
     exact Px.fin (Fin.ro (.f q q .nil) q (ode (by kernel_rfl)) (.no (.no .nil)) q (.inr q))
theorem con64 (a0:Pair) (a1:Pair) (r:Int) (h:pf64 a0 a1=some r):Con Try.prog 64 [.agg [I64 a0.At,I64 a0.Val],.agg [I64 a1.At,I64 a1.Val]] [none,none] (I64 r):=by
 unfold pf64 at h
 refine Con.go (N:=⟨10,[]⟩) Try.func64 q q q q (W.fin ?_)
 refine W.st [(0,.agg [I64 a0.At,I64 a0.Val]),(1,.agg [I64 a1.At,I64 a1.Val])] ?_
 refine W.sq'<|W.rx [(2,_),(3,_)] (Rv (O.box (.aggF q q) q)<|Rv (O.box (.aggF q q) q)<|Vk q<|Fi (tn2 q q)) ?_
 refine Px.sq<|W.sq' ?_
 obtain ⟨x1,hx1,h⟩:=bnd h
 refine W.rx [(4,_)] (Rv (O.fO q (.obj q) fd49_0 q)<|Rv (O.ldO (y:=I64 a0.At) q (.ptr q) ct3 q q)<|Rv (O.fO q (.obj q) fd49_0 q)<|Rv (O.ldO (y:=I64 a1.At) q (.ptr q) ct3 q q)<|Rc (PC.go (.cc (.lit q) (.cc (.lit q) .nil)) (con65 a0.At a1.At _ hx1) call65 q)<|Va q<|Fi (.n q .nil)) ?_
 refine Px.sq<|W.rt ?_
 obtain rfl:=sm h
 exact Px.fin (Fin.ro (.f q q .nil) q (ode (by kernel_rfl)) (.no (.no .nil)) q (.inr q))
instance:Lts ePair:=⟨fun x=>[(.int .i64 x.At),(.int .i64 x.Val)],fun _=>rfl,fun x v hv=>by simp only [List.mem_cons,List.not_mem_nil,or_false] at hv; rcases hv with rfl | rfl <;> rfl⟩
theorem sort63 {g:FuncId}{caps:List AV} [NRl caps] (hg:callT Try.prog g=true) {l r:List Pair}{cf:Pair->Pair->Option Int}(h:sortO cf l=some r) (hc:∀ a b v,cf a b=some v->Con Try.prog g (.agg (ePair.cells a)::.agg (ePair.cells b)::caps) (none::none::caps.map fun _=>none) (I64 v)):Con Try.prog 63 [oR ePair l,.clo (.func g) [] caps] [some (oR ePair r),none] (.tup []):=Con.sortS (e:=ePair) Try.sortS63 Try.isAgg49 Try.sizeOf49 hg h hc
theorem con24 (a0:Grammar) (r:(List Pair)) (h:pf24 a0=some r):Con Try.prog 24 [.agg (eGrammar_0.cells a0)] [none] (iR ePair r):=by
 unfold pf24 at h
 refine Con.go (N:=⟨28,[]⟩) Try.func24 q q q q (W.fin ?_)
 refine W.st [(0,.agg (eGrammar_0.cells a0))] ?_
 refine W.sq'<|W.rx [(1,_)] (Rv (O.box (.aggF q q) q)<|Rv (O.az .knil)<|Fi (.n q .nil)) ?_
 refine Px.sq<|W.sq' ?_
 refine W.rx [(1,_),(3,_)] (Rv (O.az .knil)<|Fi (tn2 q q)) ?_
 refine Px.sq<|W.sq' ?_
 refine W.sq'<|W.rx [(3,_),(7,_),(8,_),(9,_)] (Rv (O.fO q (.obj q) fd38_0 q)<|Rv (O.ldO (y:=iR eTok a0.Toks) q (.ptr q) ct34 q q)<|Rv (O.lenI (.imm q) sl34)<|Rv (O.mv (.k q))<|Fi (tn4 q q q q)) ?_
 refine Px.sq<|W.bk ?_
 obtain ⟨x2,hl,h⟩:=bnd h
 refine W.tr (G1:=[(3,oR ePair ([]:List Pair)),(7,_),(8,_),(9,_)]) (.w q q .nilOwn (tn3 q q q)) ?_
 refine W.lp1 (s:=(([]:List Pair),0)) (fun (s1:List Pair × Int)=>[(3,oR ePair s1.1),(7,iR eTok a0.Toks),(8,I64 (a0.Toks.length:Int)),(9,I64 s1.2)]) 0 (fun (x2:List Pair)=>[(3,oR ePair x2)]) hl (fun s1 o h=>?_) ?_
 ·clear hl
  refine W.sq'<|W.rx [(3,_),(7,_),(8,_),(9,_),(10,_)] (Rv (O.lss (.lit q) (.lit q))<|Fi (tn5 q q q q q)) ?_
  refine Px.sq<|W.sq' ?_
  refine W.cnd q (fun hb4=>?_) (fun hb4=>?_)
  ·replace h:=cndT hb4 h
   refine W.sk<|Px.sq ?_
   refine W.sq' ?_
   obtain ⟨j5,hj,h⟩:=bnd h
   refine W.jn [(3,oR ePair j5),(7,iR eTok a0.Toks),(8,I64 (a0.Toks.length:Int)),(9,I64 s1.2)] ?_ ?_
   ·clear h; have h:=hj; clear hj
    refine W.bk<|W.sq' ?_
    obtain ⟨x6,hx6,h⟩:=bnd h
    refine W.rx [(3,_),(4,_),(5,_),(7,_),(8,_),(9,_)] (Vm q<|Rv (O.ixI (.imm q) (.lit q) sl34 hx6)<|Rv (O.ldIN (cs':=[SS x6.Name,BB x6.Lit,I64 x6.Num,I64 x6.Level,I64 x6.Assoc,SS x6.Tag]) (.iptr q) at51 q q)<|Rv (O.al (cs:=[SS S0,BB false,I64 0,I64 0,I64 0,SS S0]) ze51 q q)<|Va q<|RunL.sO (G2:=[(3,oR ePair s1.1),(4,I64 s1.2),(5,.obj (eTok.cells x6)),(7,iR eTok a0.Toks),(8,I64 (a0.Toks.length:Int)),(9,I64 s1.2)]) (cs2:=[SS x6.Name,BB x6.Lit,I64 x6.Num,I64 x6.Level,I64 x6.Assoc,SS x6.Tag]) q (.obj q) (.aggF q q) q sz51 q q q q (.n q q (.n q q (.b q (.n q q (.n q q (.n q q .nil))))))<|Fi (tn6 q q q q q q)) ?_
    refine Px.sq<|W.sq' ?_
    refine W.rx [(3,_),(4,_),(5,_),(7,_),(8,_),(9,_),(16,_)] (Rv (O.fO q (.obj q) fd51_2 q)<|Rv (O.ldO (y:=I64 x6.Num) q (.ptr q) ct3 q q)<|Rv (O.gtr (.lit q) (.k q))<|Fi (tn7 q q q q q q q)) ?_
    refine Px.sq ?_
    obtain ⟨j7,hj,h⟩:=bnd h
    refine W.jn [(3,oR ePair j7),(7,iR eTok a0.Toks),(8,I64 (a0.Toks.length:Int)),(9,I64 s1.2)] ?_ ?_
    ·clear h; have h:=hj; clear hj
     refine W.cnd q (fun hb8=>?_) (fun hb8=>?_)
     ·replace h:=cndT hb8 h
      obtain ⟨x9,hx9,h⟩:=bnd h
      refine W.rx [(3,_),(7,_),(8,_),(9,_)] (Rv (O.mv (.own q))<|Rv (O.fO q (.obj q) fd51_2 q)<|Rv (O.ldO (y:=I64 x6.Num) q (.ptr q) ct3 q q)<|Vm q<|Rv (O.bu (cs:=[I64 x6.Num,I64 s1.2]) sc49 ze49 q q q)<|RunL.vi (x:=iR ePair [(⟨x6.Num,s1.2⟩:Pair)]) (O.bs (ys:=[.agg [I64 x6.Num,I64 s1.2]]) ePair [(⟨x6.Num,s1.2⟩:Pair)] sl41 q q q q q q zt49 q q) q q .none<|Rv (O.ap (en:=ePair) (r:=x9) (.brw q) q (.imm q) .i ap41 q hx9)<|RunL.ea (G2:=[(7,iR eTok a0.Toks),(8,I64 (a0.Toks.length:Int)),(9,I64 s1.2)]) q (EO.aP q q (.pend q) q q q (.n q q (.n q q (.n q q .nil))) q q)<|Fi (tn4 q q q q)) ?_
      obtain rfl:=sm h
      exact Px.jn (tn4 q q q q)
     ·replace h:=cndF hb8 h
      refine W.sk ?_
      obtain rfl:=sm h
      exact Px.jn (tn4 q q q q)
    refine Px.bk ?_
    obtain rfl:=sm h
    exact Px.jn (tn4 q q q q)
   refine Px.sq<|W.rx [(3,_),(7,_),(8,_),(9,_)] (Rv (O.add (.lit q) (.k q))<|RunL.re (G1:=[(3,_),(7,_),(8,_),(24,_)]) (tn4 q q q q)<|Vm q<|Fi (tn4 q q q q)) ?_
   obtain rfl:=sm h
   exact Px.go (tn4 q q q q)
  ·replace h:=cndF hb4 h
   refine W.xi ?_
   refine Px.sqE ?_
   obtain rfl:=sm h
   exact Px.x1 (.n q .nil)
 refine Px.bkH ?_
 refine Px.sq<|W.sq' ?_
 obtain ⟨x10,hx10,h⟩:=bnd h
 refine W.rx [(3,_)] (Rv (O.mv (.own q))<|RunL.ef (G2:=[(26,.tup []),(3,oR ePair x10)]) q (EO.call q q (CallOk.lv (en:=ePair) (L:=x2) (L':=x10) (G2:=[]) (ys:=[.clo (.func 64) [] []]) (args:=[.clo (.func 64) [] []]) q q q q (.c (View.cl .nil) .nil) (sort63 call64 hx10 (fun a b v h=>con64 a b v h)) call63 .nil q q .nil q))<|Fi (.n q .nil)) ?_
 refine Px.sq<|W.sq' ?_
 refine W.rx [(2,_)] (Rv (O.mv (.own q))<|RunL.ea (G2:=[]) q (EO.aR q q (.brw q) q .nil q q)<|Fi (.n q .nil)) ?_
 refine Px.sq<|W.fz (G1:=[(2,iR ePair x10)]) [2] (.z q q .zz .nil) ?_
 refine W.rt ?_
 obtain rfl:=sm h
 exact Px.fin (Fin.ro (.f q q .nil) q (ode (by kernel_rfl)) (.no .nil) q (.inr q))
theorem con67 (a0:Pair) (a1:Int) (r:Int) (h:pf67 a0 a1=some r):Con Try.prog 67 [.agg [I64 a0.At,I64 a0.Val],I64 a1] [none,none] (I64 r):=by
 unfold pf67 at h
 refine Con.go (N:=⟨9,[]⟩) Try.func67 q q q q (W.fin ?_)
 refine W.st [(0,.agg [I64 a0.At,I64 a0.Val]),(1,I64 a1)] ?_
 refine W.sq'<|W.rx [(1,_),(2,_)] (Rv (O.box (.aggF q q) q)<|Vk q<|Fi (tn2 q q)) ?_
 refine Px.sq<|W.sq' ?_
 obtain ⟨x1,hx1,h⟩:=bnd h
 refine W.rx [(4,_)] (Rv (O.fO q (.obj q) fd49_0 q)<|Rv (O.ldO (y:=I64 a0.At) q (.ptr q) ct3 q q)<|Vm q<|Rc (PC.go (.cc (.lit q) (.cc (.lit q) .nil)) (con65 a0.At a1 _ hx1) call65 q)<|Va q<|Fi (.n q .nil)) ?_
 refine Px.sq<|W.rt ?_
 obtain rfl:=sm h
 exact Px.fin (Fin.ro (.f q q .nil) q (ode (by kernel_rfl)) (.no (.no .nil)) q (.inr q))
theorem con66_67 (a0:(List Pair)) (a1:Int) (r:Int × Bool) (h:pf66_67 a0 a1=some r):Con Try.prog 66 [iR ePair a0,I64 a1,.clo (.func 67) [] []] [none,none,none] (.tup [I64 r.1,BB r.2]):=by
 unfold pf66_67 at h
 refine Con.go (N:=⟨49,[]⟩) Try.func66 q q q q (W.fin ?_)
 refine W.st [(0,iR ePair a0),(1,I64 a1),(2,.clo (.func 67) [] [])] ?_
 refine W.sq'<|W.rx [(0,_),(1,_),(2,_)] (Vk q<|Vk q<|Fi (tn3 q q q)) ?_
 refine Px.sq<|W.sq' ?_
 refine W.rx [(0,_),(1,_),(2,_),(8,_)] (Rv (O.mv (.imm q))<|Rv (O.lenI (.imm q) sl41)<|Va q<|Fi (tn4 q q q q)) ?_
 refine Px.sq<|W.sq' ?_
 refine W.rx [(0,_),(1,_),(2,_),(8,_),(9,_),(10,_)] (Vm q<|Vk q<|Va q<|Fi (tn6 q q q q q q)) ?_
 refine Px.sq<|W.sq' ?_
 refine W.bk ?_
 obtain ⟨x2,hl,h⟩:=bnd h
 refine W.tr (G1:=[(0,_),(1,_),(2,_),(8,_),(9,_),(10,_)]) (tn6 q q q q q q) ?_
 refine W.lp1 (s:=(0,(a0.length:Int))) (fun (s1:Int × Int)=>[(0,iR ePair a0),(1,I64 a1),(2,.clo (.func 67) [] []),(8,I64 (a0.length:Int)),(9,I64 s1.1),(10,I64 s1.2)]) 0 (fun (x2:Int)=>[(0,iR ePair a0),(1,I64 a1),(2,.clo (.func 67) [] []),(8,I64 (a0.length:Int)),(9,I64 x2)]) hl (fun s1 o h=>?_) ?_
 ·clear hl
  refine W.sq'<|W.sq' ?_
  refine W.rx [(0,_),(1,_),(2,_),(8,_),(9,_),(10,_),(17,_)] (Vm q<|Vm q<|Rv (O.lss (.lit q) (.lit q))<|Fi (tn7 q q q q q q q)) ?_
  refine Px.sq<|W.cnd q (fun hb4=>?_) (fun hb4=>?_)
  ·replace h:=cndT hb4 h
   refine W.sk<|Px.sq ?_
   obtain ⟨j5,hj,h⟩:=bnd h
   refine W.jn [(0,iR ePair a0),(1,I64 a1),(2,.clo (.func 67) [] []),(8,I64 (a0.length:Int)),(9,I64 j5.1),(10,I64 j5.2)] ?_ ?_
   ·clear h; have h:=hj; clear hj
    refine W.bk<|W.sq' ?_
    refine W.rx [(0,_),(1,_),(2,_),(8,_),(9,_),(10,_),(11,_)] (Vm q<|Vm q<|Rv (O.add (.lit q) (.lit q))<|Rv (O.cvI (.lit q) it3 it151)<|Rv (O.shr (.lit q) (.k q) q)<|Rv (O.cvI (.lit q) it151 it3)<|Va q<|Fi (tn7 q q q q q q q)) ?_
    refine Px.sq<|W.sq' ?_
    obtain ⟨x6,hx6,h⟩:=bnd h
    obtain ⟨x7,hx7,h⟩:=bnd h
    refine W.rx [(0,_),(1,_),(2,_),(8,_),(9,_),(10,_),(11,_),(31,_)] (Rv (O.mv (.clo q))<|Rv (O.mv (.imm q))<|Vm q<|Rv (O.ixI (.imm q) (.lit q) sl41 hx6)<|Rv (O.ldIN (cs':=[I64 x6.At,I64 x6.Val]) (.iptr q) at49 q q)<|Vm q<|Rc (PC.gc (.clo q) (.cc (.aggF q q) (.cc (.lit q) .nil)) (con67 x6 a1 _ hx7) call67 q)<|Rv (O.lss (.lit q) (.k q))<|Fi (tn8 q q q q q q q q)) ?_
    refine Px.sq ?_
    obtain ⟨j8,hj,h⟩:=bnd h
    refine W.jn [(0,iR ePair a0),(1,I64 a1),(2,.clo (.func 67) [] []),(8,I64 (a0.length:Int)),(9,I64 j8.1),(10,I64 j8.2)] ?_ ?_
    ·clear h; have h:=hj; clear hj
     refine W.cnd q (fun hb9=>?_) (fun hb9=>?_)
     ·replace h:=cndT hb9 h
      refine W.rx [(0,_),(1,_),(2,_),(8,_),(9,_),(10,_)] (Vm q<|Rv (O.add (.lit q) (.k q))<|RunL.re (G1:=[(0,_),(1,_),(2,_),(8,_),(10,_),(33,_)]) (tn6 q q q q q q)<|Va q<|Fi (tn6 q q q q q q)) ?_
      obtain rfl:=sm h
      exact Px.jn (tn6 q q q q q q)
     ·replace h:=cndF hb9 h
      refine W.rx [(0,_),(1,_),(2,_),(8,_),(9,_),(10,_)] (Vm q<|RunL.re (G1:=[(0,_),(1,_),(2,_),(8,_),(9,_),(34,_)]) (tn6 q q q q q q)<|Va q<|Fi (tn6 q q q q q q)) ?_
      obtain rfl:=sm h
      exact Px.jn (tn6 q q q q q q)
    refine Px.bk ?_
    obtain rfl:=sm h
    exact Px.jn (tn6 q q q q q q)
   obtain rfl:=sm h
   exact Px.go (tn6 q q q q q q)
  ·replace h:=cndF hb4 h
   refine W.xi ?_
   refine Px.sqE ?_
   obtain rfl:=sm h
   exact Px.x1 (tn5 q q q q q)
 refine Px.bkH ?_
 refine Px.sq<|W.sq' ?_
 obtain ⟨c13,hj,h⟩:=bnd h
 refine W.rx [(6,I64 c13.1),(7,BB c13.2)] ?_ ?_
 ·refine Vm q<|Vm q<|Vm q<|Rv (O.lss (.lit q) (.lit q))<|Rv (O.mv (.lit q)) ?_
  rcases cnd hj with ⟨hb10,hj⟩ | ⟨hb10,hj⟩
  ·refine RunL.v (O.mv (.clo q)) q q (.yb q q hb10)<|RunL.v (O.mv (.imm q)) q q (.yb q q hb10)<|RunL.v (O.mv (.lit q)) q q (.yb q q hb10) ?_
   obtain ⟨x11,hx11,hj⟩:=bnd hj
   refine RunL.v (O.ixI (.imm q) (.lit q) sl41 hx11) q q (.yb q q hb10)<|RunL.v (O.ldIN (cs':=[I64 x11.At,I64 x11.Val]) (.iptr q) at49 q q) q q (.yb q q hb10)<|RunL.v (O.mv (.lit q)) q q (.yb q q hb10) ?_
   obtain ⟨x12,hx12,hj⟩:=bnd hj
   obtain rfl:=sm hj
   exact RunL.c (PC.gc (.clo q) (.cc (.aggF q q) (.cc (.lit q) .nil)) (con67 x11 a1 _ hx12) call67 q) q q (.yb q q hb10)<|RunL.v (O.eql (.lit q) (.k q)) q q (.yb q q hb10)<|Rv (O.pkT (.lit q) hb10 (.lit q))<|Va q<|Va q<|Fi (tn2 q q)
  ·obtain rfl:=sm hj
   exact RunL.ps q q hb10 q q<|RunL.ps q q hb10 q q<|RunL.ps q q hb10 q q<|RunL.ps q q hb10 q q<|RunL.ps q q hb10 q q<|RunL.ps q q hb10 q q<|RunL.ps q q hb10 q q<|RunL.ps q q hb10 q q<|Rv (O.pkF (.lit q) hb10 (.k q))<|Va q<|Va q<|Fi (tn2 q q)
 refine Px.sq<|W.rt ?_
 obtain rfl:=sm h
 exact Px.fin (Fin.ro (.f q q (.f q q .nil)) q (ode (by kernel_rfl)) (.no (.no (.no .nil))) q (.inr q))
theorem con25 (a0:(List Pair)) (a1:Int) (r:Int) (h:pf25 a0 a1=some r):Con Try.prog 25 [iR ePair a0,I64 a1] [none,none] (I64 r):=by
 unfold pf25 at h
 refine Con.go (N:=⟨22,[]⟩) Try.func25 q q q q (W.fin ?_)
 refine W.st [(0,iR ePair a0),(1,I64 a1)] ?_
 refine W.sq'<|W.rx [(0,_),(1,_)] (Vk q<|Fi (tn2 q q)) ?_
 refine Px.sq<|W.sq' ?_
 refine W.sq'<|W.rx [(0,_),(1,_),(8,_)] (Vm q<|Rv (O.leq (.lit q) (.k q))<|Fi (tn3 q q q)) ?_
 refine Px.sq<|W.cnd q (fun hb1=>?_) (fun hb1=>?_)
 ·replace h:=cndT hb1 h
  refine W.sq'<|W.rx [(4,_)] (Vk q<|Fi (.n q .nil)) ?_
  refine Px.sq<|W.rt ?_
  refine Px.sqR ?_
  obtain rfl:=sm h
  exact Px.fin (Fin.ro (.f q q .nil) q (ode (by kernel_rfl)) (.no (.no .nil)) q (.inr q))
 ·replace h:=cndF hb1 h
  refine W.sk<|Px.sq ?_
  refine W.sq' ?_
  obtain ⟨x2,hx2,h⟩:=bnd h
  refine W.rx [(0,_),(5,_),(6,_)] (Rv (O.mv (.imm q))<|Vm q<|Rc (PC.go (.cc (.imm q) (.cc (.lit q) (.cc .func .nil))) (con66_67 a0 a1 _ hx2) call66 q)<|Rv (O.mv (.tupF q q))<|Rv (O.ex (y:=I64 x2.1) q q q)<|Rv (O.ex (y:=BB x2.2) q q q)<|Va q<|Va q<|Fi (tn3 q q q)) ?_
  refine Px.sq<|W.sq' ?_
  refine W.sq'<|W.rx [(0,_),(5,_),(16,_)] (Vm q<|Rv (O.not (.lit q))<|Fi (tn3 q q q)) ?_
  refine Px.sq<|W.cnd q (fun hb3=>?_) (fun hb3=>?_)
  ·replace h:=cndT hb3 h
   refine W.sq'<|W.rx [(4,_)] (Vk q<|Fi (.n q .nil)) ?_
   refine Px.sq<|W.rt ?_
   refine Px.sqR ?_
   obtain rfl:=sm h
   exact Px.fin (Fin.ro (.f q q .nil) q (ode (by kernel_rfl)) (.no (.no .nil)) q (.inr q))
  ·replace h:=cndF hb3 h
   refine W.sk<|Px.sq ?_
   refine W.sq' ?_
   obtain ⟨x4,hx4,h⟩:=bnd h
   refine W.rx [(4,_)] (Rv (O.mv (.imm q))<|Vm q<|Rv (O.ixI (.imm q) (.lit q) sl41 hx4)<|Rv (O.fI (.iptr q) fd49_1)<|Rv (O.ldI (x:=I64 x4.Val) (.iptr q) ct3 q)<|Va q<|Fi (.n q .nil)) ?_
   refine Px.sq<|W.rt ?_
   obtain rfl:=sm h
   exact Px.fin (Fin.ro (.f q q .nil) q (ode (by kernel_rfl)) (.no (.no .nil)) q (.inr q))
theorem con17  (r:Bool) (h:pf17 =some r):Con Try.prog 17 [] [] (BB r):=by
 unfold pf17 at h
 refine Con.go (N:=⟨53,[]⟩) Try.func17 q q q q (W.fin ?_)
 refine W.st [] ?_
 refine W.sq'<|W.rx [] (Vk q<|Fi .nil) ?_
 refine Px.sq<|W.sq' ?_
 obtain ⟨x1,hx1,h⟩:=bnd h
 refine W.rx [(1,_),(2,_)] (Rv (O.bu (cs:=[SS ({ data:=#[65] }),BB false,I64 0,I64 0]) sc59 ze59 q q q)<|Rv (O.bu (cs:=[SS ({ data:=#[43] }),BB true,I64 0,I64 0]) sc59 ze59 q q q)<|RunL.vi (x:=iR eSym [(⟨{ data:=#[65] },false,0,0⟩:Sym),(⟨{ data:=#[43] },true,0,0⟩:Sym)]) (O.bs (ys:=[.agg [SS ({ data:=#[65] }),BB false,I64 0,I64 0],.agg [SS ({ data:=#[43] }),BB true,I64 0,I64 0]]) eSym [(⟨{ data:=#[65] },false,0,0⟩:Sym),(⟨{ data:=#[43] },true,0,0⟩:Sym)] sl53 q q q q q q zt59 q q) q q .none<|Rv (O.bu (cs:=[I64 1,SS S0,iR eSym [(⟨{ data:=#[65] },false,0,0⟩:Sym),(⟨{ data:=#[43] },true,0,0⟩:Sym)],I64 0]) sc55 ze55 q q q)<|RunL.vi (x:=iR eDecl_0 [(⟨1,S0,[(⟨{ data:=#[65] },false,0,0⟩:Sym),(⟨{ data:=#[43] },true,0,0⟩:Sym)],0⟩:Decl)]) (O.bs (ys:=[.agg [I64 1,SS S0,iR eSym [(⟨{ data:=#[65] },false,0,0⟩:Sym),(⟨{ data:=#[43] },true,0,0⟩:Sym)],I64 0]]) eDecl_0 [(⟨1,S0,[(⟨{ data:=#[65] },false,0,0⟩:Sym),(⟨{ data:=#[43] },true,0,0⟩:Sym)],0⟩:Decl)] sl22 q q q q q q zt55 q q) q q .none<|RunL.vi (x:=.agg [iR ePart ([]:List Part),SS S0,BB false,I64 0,I64 0,I64 0]) (O.bu (cs:=[.nils,SS S0,BB false,I64 0,I64 0,I64 0]) sc62 ze62 q q q) q q .none<|RunL.vi (x:=iR eAlt_0 [(⟨([]:List Part),(⟨S0,false,0,0⟩:Sym),0⟩:Alt)]) (O.bs (ys:=[.agg [iR ePart ([]:List Part),SS S0,BB false,I64 0,I64 0,I64 0]]) eAlt_0 [(⟨([]:List Part),(⟨S0,false,0,0⟩:Sym),0⟩:Alt)] sl63 q q q q q q zt62 q q) q q .none<|Rv (O.bu (cs:=[SS ({ data:=#[115] }),iR eAlt_0 [(⟨([]:List Part),(⟨S0,false,0,0⟩:Sym),0⟩:Alt)],I64 0]) sc65 ze65 q q q)<|RunL.vi (x:=iR eRule_0 [(⟨{ data:=#[115] },[(⟨([]:List Part),(⟨S0,false,0,0⟩:Sym),0⟩:Alt)],0⟩:Rule)]) (O.bs (ys:=[.agg [SS ({ data:=#[115] }),iR eAlt_0 [(⟨([]:List Part),(⟨S0,false,0,0⟩:Sym),0⟩:Alt)],I64 0]]) eRule_0 [(⟨{ data:=#[115] },[(⟨([]:List Part),(⟨S0,false,0,0⟩:Sym),0⟩:Alt)],0⟩:Rule)] sl23 q q q q q q zt65 q q) q q .none<|Rv (O.bu (cs:=[SS S0,iR eDecl_0 [(⟨1,S0,[(⟨{ data:=#[65] },false,0,0⟩:Sym),(⟨{ data:=#[43] },true,0,0⟩:Sym)],0⟩:Decl)],iR eRule_0 [(⟨{ data:=#[115] },[(⟨([]:List Part),(⟨S0,false,0,0⟩:Sym),0⟩:Alt)],0⟩:Rule)],SS S0]) sc25 ze25 q q q)<|Rc (PC.go (.cc (.aggF q q) .nil) (con20 (⟨S0,[(⟨1,S0,[(⟨{ data:=#[65] },false,0,0⟩:Sym),(⟨{ data:=#[43] },true,0,0⟩:Sym)],0⟩:Decl)],[(⟨{ data:=#[115] },[(⟨([]:List Part),(⟨S0,false,0,0⟩:Sym),0⟩:Alt)],0⟩:Rule)],S0⟩:Source) _ hx1) call20 q)<|Rv (O.mv (.tup q q))<|Rv (O.ex (y:=.agg (eGrammar_0.cells x1.1)) q q q)<|Rv (O.ex (y:=BB x1.2) q q q)<|Rv (O.al (cs:=[.nils,.nils,.nils,SS S0,SS S0]) ze38 q q)<|RunL.sO (G2:=[(1,.obj (eGrammar_0.cells x1.1)),(17,BB x1.2)]) (cs2:=[iR eTok x1.1.Toks,iR eNon x1.1.Nons,iR eProd_0 x1.1.Prods,SS x1.1.Pro,SS x1.1.Tail]) q (.obj q) (.aggF q q) q sz38 q q q q (.b q (.n q q .nil))<|Va q<|Fi (tn2 q q)) ?_
 refine Px.sq<|W.sq' ?_
 obtain ⟨x2,hx2,h⟩:=bnd h
 refine W.rx [(2,_),(3,_)] (Rv (O.ldON (cs':=[iR eTok x1.1.Toks,iR eNon x1.1.Nons,iR eProd_0 x1.1.Prods,SS x1.1.Pro,SS x1.1.Tail]) q (.obj q) at38 q q)<|Rc (PC.go (.cc (.aggF q q) .nil) (con24 x1.1 _ hx2) call24 q)<|Rv (O.az (.imm q))<|Fi (tn2 q q)) ?_
 refine Px.sq<|W.sq' ?_
 obtain ⟨c15,hj,h⟩:=bnd h
 refine W.rx [(0,BB c15)] ?_ ?_
 ·refine Vm q<|Rv (O.mv (.lit q)) ?_
  rcases cnd hj with ⟨hb3,hj⟩ | ⟨hb3,hj⟩
  ·refine RunL.v (O.mv (.imm q)) q q (.yb q q hb3)<|RunL.v (O.bu (cs:=[I64 43,I64 4]) sc49 ze49 q q q) q q (.yb q q hb3)<|RunL.v (O.bu (cs:=[I64 57346,I64 3]) sc49 ze49 q q q) q q (.yb q q hb3)<|RunL.vi (x:=iR ePair [(⟨43,4⟩:Pair),(⟨57346,3⟩:Pair)]) (O.bs (ys:=[.agg [I64 43,I64 4],.agg [I64 57346,I64 3]]) ePair [(⟨43,4⟩:Pair),(⟨57346,3⟩:Pair)] sl41 q q q q q q zt49 q q) q q (.yb q q hb3) ?_
   obtain ⟨x4,hx4,hj⟩:=bnd hj
   refine RunL.c (PC.go (.cc (.imm q) (.cc (.imm q) .nil)) (con23 x2 [(⟨43,4⟩:Pair),(⟨57346,3⟩:Pair)] _ hx4) call23 q) q q (.yb q q hb3)<|Rv (O.pkT (.lit q) hb3 (.lit q))<|Rv (O.mv (.lit q)) ?_
   rcases cnd hj with ⟨hb5,hj⟩ | ⟨hb5,hj⟩
   ·refine RunL.v (O.mv (.imm q)) q q (.yb q q hb5) ?_
    obtain ⟨x6,hx6,hj⟩:=bnd hj
    refine RunL.c (PC.go (.cc (.imm q) (.cc (.k q) .nil)) (con25 x2 43 _ hx6) call25 q) q q (.yb q q hb5)<|RunL.v (O.eql (.lit q) (.k q)) q q (.yb q q hb5)<|Rv (O.pkT (.lit q) hb5 (.lit q))<|Rv (O.mv (.lit q)) ?_
    rcases cnd hj with ⟨hb7,hj⟩ | ⟨hb7,hj⟩
    ·refine RunL.v (O.mv (.imm q)) q q (.yb q q hb7) ?_
     obtain ⟨x8,hx8,hj⟩:=bnd hj
     refine RunL.c (PC.go (.cc (.imm q) (.cc (.k q) .nil)) (con25 x2 57346 _ hx8) call25 q) q q (.yb q q hb7)<|RunL.v (O.eql (.lit q) (.k q)) q q (.yb q q hb7)<|Rv (O.pkT (.lit q) hb7 (.lit q))<|Rv (O.mv (.lit q)) ?_
     rcases cnd hj with ⟨hb9,hj⟩ | ⟨hb9,hj⟩
     ·refine RunL.v (O.mv (.imm q)) q q (.yb q q hb9) ?_
      obtain ⟨x10,hx10,hj⟩:=bnd hj
      refine RunL.c (PC.go (.cc (.imm q) (.cc (.k q) .nil)) (con25 x2 44 _ hx10) call25 q) q q (.yb q q hb9)<|RunL.v (O.eql (.lit q) (.k q)) q q (.yb q q hb9)<|Rv (O.pkT (.lit q) hb9 (.lit q))<|Rv (O.mv (.lit q)) ?_
      rcases cnd hj with ⟨hb11,hj⟩ | ⟨hb11,hj⟩
      ·refine RunL.v (O.mv (.imm q)) q q (.yb q q hb11) ?_
       obtain ⟨x12,hx12,hj⟩:=bnd hj
       refine RunL.c (PC.go (.cc (.imm q) (.cc (.k q) .nil)) (con25 x2 0 _ hx12) call25 q) q q (.yb q q hb11)<|RunL.v (O.eql (.lit q) (.k q)) q q (.yb q q hb11)<|Rv (O.pkT (.lit q) hb11 (.lit q))<|Rv (O.mv (.lit q)) ?_
       rcases cnd hj with ⟨hb13,hj⟩ | ⟨hb13,hj⟩
       ·refine RunL.v (O.mv (.imm q)) q q (.yb q q hb13) ?_
        obtain ⟨x14,hx14,hj⟩:=bnd hj
        obtain rfl:=sm hj
        exact RunL.c (PC.go (.cc (.imm q) (.cc (.k q) .nil)) (con25 x2 (-5) _ hx14) call25 q) q q (.yb q q hb13)<|RunL.v (O.eql (.lit q) (.k q)) q q (.yb q q hb13)<|Rv (O.pkT (.lit q) hb13 (.lit q))<|Va q<|Fi (.n q .nil)
       ·obtain rfl:=sm hj
        exact RunL.ps q q hb13 q q<|RunL.ps q q hb13 q q<|RunL.ps q q hb13 q q<|Rv (O.pkF (.lit q) hb13 (.k q))<|Va q<|Fi (.n q .nil)
      ·obtain rfl:=sm hj
       exact RunL.ps q q hb11 q q<|RunL.ps q q hb11 q q<|RunL.ps q q hb11 q q<|Rv (O.pkF (.lit q) hb11 (.k q))<|Vm q<|RunL.ps q q q q q<|RunL.ps q q q q q<|RunL.ps q q q q q<|Rv (O.pkF (.lit q) q (.k q))<|Va q<|Fi (.n q .nil)
     ·obtain rfl:=sm hj
      exact RunL.ps q q hb9 q q<|RunL.ps q q hb9 q q<|RunL.ps q q hb9 q q<|Rv (O.pkF (.lit q) hb9 (.k q))<|Vm q<|RunL.ps q q q q q<|RunL.ps q q q q q<|RunL.ps q q q q q<|Rv (O.pkF (.lit q) q (.k q))<|Vm q<|RunL.ps q q q q q<|RunL.ps q q q q q<|RunL.ps q q q q q<|Rv (O.pkF (.lit q) q (.k q))<|Va q<|Fi (.n q .nil)
    ·obtain rfl:=sm hj
     exact RunL.ps q q hb7 q q<|RunL.ps q q hb7 q q<|RunL.ps q q hb7 q q<|Rv (O.pkF (.lit q) hb7 (.k q))<|Vm q<|RunL.ps q q q q q<|RunL.ps q q q q q<|RunL.ps q q q q q<|Rv (O.pkF (.lit q) q (.k q))<|Vm q<|RunL.ps q q q q q<|RunL.ps q q q q q<|RunL.ps q q q q q<|Rv (O.pkF (.lit q) q (.k q))<|Vm q<|RunL.ps q q q q q<|RunL.ps q q q q q<|RunL.ps q q q q q<|Rv (O.pkF (.lit q) q (.k q))<|Va q<|Fi (.n q .nil)
   ·obtain rfl:=sm hj
    exact RunL.ps q q hb5 q q<|RunL.ps q q hb5 q q<|RunL.ps q q hb5 q q<|Rv (O.pkF (.lit q) hb5 (.k q))<|Vm q<|RunL.ps q q q q q<|RunL.ps q q q q q<|RunL.ps q q q q q<|Rv (O.pkF (.lit q) q (.k q))<|Vm q<|RunL.ps q q q q q<|RunL.ps q q q q q<|RunL.ps q q q q q<|Rv (O.pkF (.lit q) q (.k q))<|Vm q<|RunL.ps q q q q q<|RunL.ps q q q q q<|RunL.ps q q q q q<|Rv (O.pkF (.lit q) q (.k q))<|Vm q<|RunL.ps q q q q q<|RunL.ps q q q q q<|RunL.ps q q q q q<|Rv (O.pkF (.lit q) q (.k q))<|Va q<|Fi (.n q .nil)
  ·obtain rfl:=sm hj
   exact RunL.ps q q hb3 q q<|RunL.ps q q hb3 q q<|RunL.ps q q hb3 q q<|RunL.ps q q hb3 q q<|RunL.ps q q hb3 q q<|Rv (O.pkF (.lit q) hb3 (.k q))<|Vm q<|RunL.ps q q q q q<|RunL.ps q q q q q<|RunL.ps q q q q q<|Rv (O.pkF (.lit q) q (.k q))<|Vm q<|RunL.ps q q q q q<|RunL.ps q q q q q<|RunL.ps q q q q q<|Rv (O.pkF (.lit q) q (.k q))<|Vm q<|RunL.ps q q q q q<|RunL.ps q q q q q<|RunL.ps q q q q q<|Rv (O.pkF (.lit q) q (.k q))<|Vm q<|RunL.ps q q q q q<|RunL.ps q q q q q<|RunL.ps q q q q q<|Rv (O.pkF (.lit q) q (.k q))<|Vm q<|RunL.ps q q q q q<|RunL.ps q q q q q<|RunL.ps q q q q q<|Rv (O.pkF (.lit q) q (.k q))<|Va q<|Fi (.n q .nil)
 refine Px.sq<|W.rt ?_
 obtain rfl:=sm h
 exact Px.fin (Fin.ro (.f q q .nil) q (ode (by kernel_rfl)) .nil q (.inr q))
theorem con22 (a0:Int) (a1:Int) (r:Int) (h:pf22 a0 a1=some r):Con Try.prog 22 [I64 a0,I64 a1] [none,none] (I64 r):=by
 unfold pf22 at h
 refine Con.go (N:=⟨15,[]⟩) Try.func22 q q q q (W.fin ?_)
 refine W.st [(0,I64 a0),(1,I64 a1)] ?_
 refine W.sq'<|W.rx [(0,_),(1,_)] (Vk q<|Fi (tn2 q q)) ?_
 refine Px.sq<|W.sq' ?_
 obtain ⟨x1,hx1,h⟩:=bnd h
 refine W.rx [(1,_),(5,_)] (Vm q<|Vm q<|Rv (O.rem (.lit q) (.lit q) hx1)<|Va q<|Fi (tn2 q q)) ?_
 refine Px.sq<|W.sq' ?_
 refine W.sq'<|W.rx [(1,_),(5,_),(10,_)] (Vm q<|Rv (O.lss (.lit q) (.k q))<|Fi (tn3 q q q)) ?_
 refine Px.sq ?_
 obtain ⟨j2,hj,h⟩:=bnd h
 refine W.jn [(5,I64 j2)] ?_ ?_
 ·clear h; have h:=hj; clear hj
  refine W.cnd q (fun hb3=>?_) (fun hb3=>?_)
  ·replace h:=cndT hb3 h
   refine W.rx [(5,_)] (Vm q<|Vm q<|Rv (O.add (.lit q) (.lit q))<|RunL.re (G1:=[(13,_)]) (.n q .nil)<|Va q<|Fi (.n q .nil)) ?_
   obtain rfl:=sm h
   exact Px.jn (.n q .nil)
  ·replace h:=cndF hb3 h
   refine W.sk ?_
   obtain rfl:=sm h
   exact Px.jn (.n q .nil)
 refine Px.sq<|W.sq' ?_
 refine W.rx [(4,_)] (Vm q<|Va q<|Fi (.n q .nil)) ?_
 refine Px.sq<|W.rt ?_
 obtain rfl:=sm h
 exact Px.fin (Fin.ro (.f q q .nil) q (ode (by kernel_rfl)) (.no (.no .nil)) q (.inr q))
theorem con27 (a0:(List Int)) (a1:Int) (r:Bool) (h:pf27 a0 a1=some r):Con Try.prog 27 [iR eI a0,I64 a1] [none,none] (BB r):=by
 unfold pf27 at h
 refine Con.go (N:=⟨18,[]⟩) Try.func27 q q q q (W.fin ?_)
 refine W.st [(0,iR eI a0),(1,I64 a1)] ?_
 refine W.sq'<|W.rx [(0,_),(1,_)] (Vk q<|Fi (tn2 q q)) ?_
 refine Px.sq<|W.sq' ?_
 refine W.sq'<|W.rx [(0,_),(1,_),(5,_)] (Vk q<|Fi (tn3 q q q)) ?_
 refine Px.sq<|W.bk ?_
 obtain ⟨x2,hl,h⟩:=bnd h
 refine W.tr (G1:=[(0,_),(1,_),(5,_)]) (tn3 q q q) ?_
 refine W.lp2 (s:=0) (fun (s1:Int)=>[(0,iR eI a0),(1,I64 a1),(5,I64 s1)]) 0 (fun (x3:Unit)=>[]) (fun (x4:Bool)=>[(4,BB x4)]) hl (fun s1 o h=>?_) (fun x3 hx=>?_) (fun x4 hx=>?_)
 ·clear hl
  refine W.sq'<|W.sq' ?_
  refine W.rx [(0,_),(1,_),(5,_),(9,_)] (Vm q<|Rv (O.mv (.imm q))<|Rv (O.lenI (.imm q) sl27)<|Rv (O.lss (.lit q) (.lit q))<|Fi (tn4 q q q q)) ?_
  refine Px.sq<|W.cnd q (fun hb5=>?_) (fun hb5=>?_)
  ·replace h:=cndT hb5 h
   refine W.sk<|Px.sq ?_
   refine W.sq'<|W.bk ?_
   refine W.sq' ?_
   obtain ⟨x6,hx6,h⟩:=bnd h
   refine W.rx [(0,_),(1,_),(5,_),(17,_)] (Rv (O.mv (.imm q))<|Vm q<|Rv (O.ixI (.imm q) (.lit q) sl27 hx6)<|Rv (O.ldI (x:=I64 x6) (.iptr q) ct3 q)<|Vm q<|Rv (O.eql (.lit q) (.lit q))<|Fi (tn4 q q q q)) ?_
   refine Px.sq<|W.cnd q (fun hb7=>?_) (fun hb7=>?_)
   ·replace h:=cndT hb7 h
    refine W.sq'<|W.rx [(4,_)] (Vk q<|Fi (.n q .nil)) ?_
    refine Px.sq<|W.rt ?_
    refine Px.bkR ?_
    refine Px.sqR ?_
    obtain rfl:=sm h
    exact Px.r2 (.n q .nil)
   ·replace h:=cndF hb7 h
    refine W.sk<|Px.bk ?_
    refine Px.sq<|W.rx [(0,_),(1,_),(5,_)] (Vm q<|Rv (O.add (.lit q) (.k q))<|RunL.re (G1:=[(0,_),(1,_),(11,_)]) (tn3 q q q)<|Va q<|Fi (tn3 q q q)) ?_
    obtain rfl:=sm h
    exact Px.go (tn3 q q q)
  ·replace h:=cndF hb5 h
   refine W.xi ?_
   refine Px.sqE ?_
   obtain rfl:=sm h
   exact Px.x2 .nil
 ·subst hx
  refine Px.bkH ?_
  refine Px.sq<|W.sq' ?_
  refine W.rx [(4,_)] (Vk q<|Fi (.n q .nil)) ?_
  refine Px.sq<|W.rt ?_
  obtain rfl:=sm h
  exact Px.fin (Fin.ro (.f q q .nil) q (ode (by kernel_rfl)) (.no (.no .nil)) q (.inr q))
 ·subst hx
  refine Px.bkR ?_
  refine Px.sqR ?_
  obtain rfl:=sm h
  exact Px.fin (Fin.ro (.f q q .nil) q (ode (by kernel_rfl)) (.no (.no .nil)) q (.inr q))
theorem con5 (a0:(List Int)) (a1:Int) (r:Bool) (h:pf5 a0 a1=some r):Con Try.prog 5 [iR eI a0,I64 a1] [none,none] (BB r):=by
 unfold pf5 at h
 refine Con.go (N:=⟨134,[]⟩) Try.func5 q q q q (W.fin ?_)
 refine W.st [(0,iR eI a0),(1,I64 a1)] ?_
 refine W.sq'<|W.rx [(0,_),(1,_)] (Vk q<|Fi (tn2 q q)) ?_
 refine Px.sq<|W.sq' ?_
 refine W.sq' ?_
 obtain ⟨x1,hx1,h⟩:=bnd h
 refine W.rx [(0,_),(1,_),(16,_)] (Rc (PC.go .nil (con17  _ hx1) call17 q)<|Rv (O.not (.lit q))<|Fi (tn3 q q q)) ?_
 refine Px.sq<|W.cnd q (fun hb2=>?_) (fun hb2=>?_)
 ·replace h:=cndT hb2 h
  refine W.sq'<|W.rx [(4,_)] (Vk q<|Fi (.n q .nil)) ?_
  refine Px.sq<|W.rt ?_
  refine Px.sqR ?_
  obtain rfl:=sm h
  exact Px.fin (Fin.ro (.f q q .nil) q (ode (by kernel_rfl)) (.no (.no .nil)) q (.inr q))
 ·replace h:=cndF hb2 h
  refine W.sk<|Px.sq ?_
  refine W.sq'<|W.rx [(0,_),(1,_),(5,_)] (Rv (O.bu (cs:=[I64 1,SS S0,.nils,I64 0]) sc55 ze55 q q q)<|Rv (O.al (cs:=[I64 0,SS S0,.nils,I64 0]) ze55 q q)<|RunL.sO (G2:=[(0,iR eI a0),(1,I64 a1),(5,.obj [I64 1,SS S0,.nils,I64 0])]) (cs2:=[I64 1,SS S0,.nils,I64 0]) q (.obj q) (.aggF q q) q sz55 q q q q (.n q q (.n q q (.b q .nil)))<|Fi (tn3 q q q)) ?_
  refine Px.sq<|W.sq' ?_
  refine W.rx [(0,_),(1,_),(5,_),(6,_)] (Rv (O.az .knil)<|Fi (tn4 q q q q)) ?_
  refine Px.sq<|W.sq' ?_
  refine W.sq'<|W.rx [(0,_),(1,_),(5,_),(6,_),(7,_)] (Vk q<|Fi (tn5 q q q q q)) ?_
  refine Px.sq<|W.bk ?_
  obtain ⟨x4,hl,h⟩:=bnd h
  refine W.tr (G1:=[(0,_),(1,_),(5,.obj [I64 1,SS S0,oR eSym ([]:List Sym),I64 0]),(6,oR eI ([]:List Int)),(7,_)]) (.n q (.n q (.w q q (WkL.obj (.f (.f (.o (.f .nil))))) (.w q q .nilOwn (.n q .nil))))) ?_
  refine W.lp1 (s:=(([]:List Sym),([]:List Int),0)) (fun (s3:List Sym × List Int × Int)=>[(0,iR eI a0),(1,I64 a1),(5,.obj [I64 1,SS S0,oR eSym s3.1,I64 0]),(6,oR eI s3.2.1),(7,I64 s3.2.2)]) 0 (fun (x4:List Sym × List Int)=>[(1,I64 a1),(5,.obj [I64 1,SS S0,oR eSym x4.1,I64 0]),(6,oR eI x4.2)]) hl (fun s3 o h=>?_) ?_
  ·clear hl
   refine W.sq'<|W.sq' ?_
   obtain ⟨c7,hj,h⟩:=bnd h
   refine W.rx [(0,iR eI a0),(1,I64 a1),(5,.obj [I64 1,SS S0,oR eSym s3.1,I64 0]),(6,oR eI s3.2.1),(7,I64 s3.2.2),(25,BB c7)] ?_ ?_
   ·refine Vm q<|Rv (O.mv (.imm q))<|Rv (O.lenI (.imm q) sl27)<|Rv (O.lss (.lit q) (.lit q))<|Rv (O.mv (.lit q)) ?_
    rcases cnd hj with ⟨hb6,hj⟩ | ⟨hb6,hj⟩
    ·obtain rfl:=sm hj
     exact RunL.v (O.mv (.lit q)) q q (.yb q q hb6)<|RunL.v (O.lss (.lit q) (.k q)) q q (.yb q q hb6)<|Rv (O.pkT (.lit q) hb6 (.lit q))<|Fi (tn6 q q q q q q)
    ·obtain rfl:=sm hj
     exact RunL.ps q q hb6 q q<|RunL.ps q q hb6 q q<|Rv (O.pkF (.lit q) hb6 (.k q))<|Fi (tn6 q q q q q q)
   refine Px.sq<|W.cnd q (fun hb8=>?_) (fun hb8=>?_)
   ·replace h:=cndT hb8 h
    refine W.sk<|Px.sq ?_
    refine W.sq' ?_
    obtain ⟨j9,hj,h⟩:=bnd h
    refine W.jn [(0,iR eI a0),(1,I64 a1),(5,.obj [I64 1,SS S0,oR eSym j9.1,I64 0]),(6,oR eI j9.2),(7,I64 s3.2.2)] ?_ ?_
    ·clear h; have h:=hj; clear hj
     refine W.bk<|W.sq' ?_
     obtain ⟨x10,hx10,h⟩:=bnd h
     obtain ⟨x11,hx11,h⟩:=bnd h
     refine W.rx [(0,_),(1,_),(5,_),(6,_),(7,_),(8,_)] (Rv (O.mv (.imm q))<|Vm q<|Rv (O.ixI (.imm q) (.lit q) sl27 hx10)<|Rv (O.ldI (x:=I64 x10) (.iptr q) ct3 q)<|Rc (PC.go (.cc (.lit q) (.cc (.k q) .nil)) (con22 x10 30 _ hx11) call22 q)<|Rv (O.add (.k q) (.lit q))<|Va q<|Fi (tn6 q q q q q q)) ?_
     refine Px.sq<|W.sq' ?_
     obtain ⟨x12,hx12,h⟩:=bnd h
     refine W.rx [(0,_),(1,_),(5,_),(6,_),(7,_),(8,_),(37,_)] (Rv (O.mv (.own q))<|Vm q<|Rc (PC.vw (ys:=[.brw eI.z ⟨6,[]⟩ s3.2.1.length,I64 (w64 (1+x11))]) q (.c (.row q) (.s .nil)) (con27 s3.2.1 (w64 (1+x11)) _ hx12) call27 q)<|Rv (O.not (.lit q))<|Fi (tn7 q q q q q q q)) ?_
     refine Px.sq ?_
     obtain ⟨j13,hj,h⟩:=bnd h
     refine W.jn [(0,iR eI a0),(1,I64 a1),(5,.obj [I64 1,SS S0,oR eSym j13.1,I64 0]),(6,oR eI j13.2),(7,I64 s3.2.2)] ?_ ?_
     ·clear h; have h:=hj; clear hj
      refine W.cnd q (fun hb14=>?_) (fun hb14=>?_)
      ·replace h:=cndT hb14 h
       refine W.sq' ?_
       obtain ⟨x15,hx15,h⟩:=bnd h
       refine W.rx [(0,_),(1,_),(5,_),(6,_),(7,_),(8,_)] (Rv (O.mv (.own q))<|Vm q<|RunL.vi (x:=iR eI [w64 (1+x11)]) (O.bs (ys:=[I64 (w64 (1+x11))]) eI [w64 (1+x11)] sl27 q q q q q q zt3 q q) q q .none<|Rv (O.ap (en:=eI) (r:=x15) (.brw q) q (.imm q) .i ap27 q hx15)<|RunL.ea (G2:=[(0,iR eI a0),(1,I64 a1),(5,.obj [I64 1,SS S0,oR eSym s3.1,I64 0]),(7,I64 s3.2.2),(8,I64 (w64 (1+x11)))]) q (EO.aP q q (.pend q) q q q (.n q q (.n q q (.n q q (.n q q (.n q q .nil))))) q q)<|Fi (tn6 q q q q q q)) ?_
       refine Px.sq ?_
       obtain ⟨x16,hx16,h⟩:=bnd h
       obtain ⟨x17,hx17,h⟩:=bnd h
       obtain ⟨x18,hx18,h⟩:=bnd h
       refine W.rd [[],[0],[],[2],[2,3],[],[2,3,4,5],rn 2 5 [],rn 0 8 [],rn 0 9 [],rn 0 10 []] [(0,_),(1,_),(5,_),(6,_),(7,_)] mixo (by kernel_rfl) (Dv 0 (O.fO q (.obj q) fd55_2 q)<|Dv 1 (O.ldO (y:=.brw eSym.z ⟨5,[2]⟩ s3.1.length) q (.ptr q) ct53 q q)<|Dv 2 (O.mv (.lit q))<|Dc 3 (PC.go (.cc (.lit q) .nil) (con28 (w64 (1+x11)) _ hx16) call28 q)<|Dv 4 (O.cat (.k q) (.lit q) hx17)<|Dv 5 (O.mv (.lit q))<|Dv 6 (O.bu (cs:=[SS x17,BB false,I64 (w64 (1+x11)),I64 0]) sc59 ze59 q q q)<|DL.vi 7 (x:=iR eSym [(⟨x17,false,w64 (1+x11),0⟩:Sym)]) (O.bs (ys:=[.agg [SS x17,BB false,I64 (w64 (1+x11)),I64 0]]) eSym [(⟨x17,false,w64 (1+x11),0⟩:Sym)] sl53 q q q q q q zt59 q q) q q q q .none<|Dv 8 (O.ap (en:=eSym) (r:=x18) (.brw q) q (.imm q) .i ap53 q hx18)<|Dv 9 (O.fO q (.obj q) fd55_2 q)<|DL.bp 10 (G2:=[(0,iR eI a0),(1,I64 a1),(5,.obj [I64 1,SS S0,oR eSym (s3.1++[(⟨x17,false,w64 (1+x11),0⟩:Sym)]),I64 0]),(6,oR eI (s3.2.1++[w64 (1+x11)])),(7,I64 s3.2.2)]) (EO.stP (g1:=_) (en:=eSym) (M:=[(⟨x17,false,w64 (1+x11),0⟩:Sym)]) (cs2:=[I64 1,SS S0,oR eSym (s3.1++[(⟨x17,false,w64 (1+x11),0⟩:Sym)]),I64 0]) q q (.ptr q) (.pend q) q q q .ns .rf q q sz53 q q q q (.n q q (.n q q (.b q (.n q q (.n q q .nil)))))) q q q q (by kernel_rfl) (by kernel_rfl)<|DL.fin q q q (tn5 q q q q q)) ?_
       obtain rfl:=sm h
       exact Px.jn (tn5 q q q q q)
      ·replace h:=cndF hb14 h
       refine W.sk ?_
       obtain rfl:=sm h
       exact Px.jn (tn5 q q q q q)
     refine Px.bk ?_
     obtain rfl:=sm h
     exact Px.jn (tn5 q q q q q)
    refine Px.sq<|W.rx [(0,_),(1,_),(5,_),(6,_),(7,_)] (Vm q<|Rv (O.add (.lit q) (.k q))<|RunL.re (G1:=[(0,_),(1,_),(5,_),(6,_),(27,_)]) (tn5 q q q q q)<|Va q<|Fi (tn5 q q q q q)) ?_
    obtain rfl:=sm h
    exact Px.go (tn5 q q q q q)
   ·replace h:=cndF hb8 h
    refine W.xi ?_
    refine Px.sqE ?_
    obtain rfl:=sm h
    exact Px.x1 (tn3 q q q)
  refine Px.bkH ?_
  refine Px.sq<|W.sq' ?_
  refine W.rx [(1,_),(5,_),(6,_),(9,_)] (RunL.vi (x:=.agg [iR ePart ([]:List Part),SS S0,BB false,I64 0,I64 0,I64 0]) (O.bu (cs:=[.nils,SS S0,BB false,I64 0,I64 0,I64 0]) sc62 ze62 q q q) q q .none<|RunL.vi (x:=iR eAlt_0 [(⟨([]:List Part),(⟨S0,false,0,0⟩:Sym),0⟩:Alt)]) (O.bs (ys:=[.agg [iR ePart ([]:List Part),SS S0,BB false,I64 0,I64 0,I64 0]]) eAlt_0 [(⟨([]:List Part),(⟨S0,false,0,0⟩:Sym),0⟩:Alt)] sl63 q q q q q q zt62 q q) q q .none<|Rv (O.bu (cs:=[SS ({ data:=#[115] }),iR eAlt_0 [(⟨([]:List Part),(⟨S0,false,0,0⟩:Sym),0⟩:Alt)],I64 0]) sc65 ze65 q q q)<|RunL.vi (x:=iR eRule_0 [(⟨{ data:=#[115] },[(⟨([]:List Part),(⟨S0,false,0,0⟩:Sym),0⟩:Alt)],0⟩:Rule)]) (O.bs (ys:=[.agg [SS ({ data:=#[115] }),iR eAlt_0 [(⟨([]:List Part),(⟨S0,false,0,0⟩:Sym),0⟩:Alt)],I64 0]]) eRule_0 [(⟨{ data:=#[115] },[(⟨([]:List Part),(⟨S0,false,0,0⟩:Sym),0⟩:Alt)],0⟩:Rule)] sl23 q q q q q q zt65 q q) q q .none<|Rv (O.bu (cs:=[SS S0,.nils,iR eRule_0 [(⟨{ data:=#[115] },[(⟨([]:List Part),(⟨S0,false,0,0⟩:Sym),0⟩:Alt)],0⟩:Rule)],SS S0]) sc25 ze25 q q q)<|Rv (O.al (cs:=[SS S0,.nils,.nils,SS S0]) ze25 q q)<|RunL.sO (G2:=[(1,I64 a1),(5,.obj [I64 1,SS S0,oR eSym x4.1,I64 0]),(6,oR eI x4.2),(9,.obj [SS S0,.nils,iR eRule_0 [(⟨{ data:=#[115] },[(⟨([]:List Part),(⟨S0,false,0,0⟩:Sym),0⟩:Alt)],0⟩:Rule)],SS S0])]) (cs2:=[SS S0,.nils,iR eRule_0 [(⟨{ data:=#[115] },[(⟨([]:List Part),(⟨S0,false,0,0⟩:Sym),0⟩:Alt)],0⟩:Rule)],SS S0]) q (.obj q) (.aggF q q) q sz25 q q q q (.n q q (.n q q (.n q q (.b q .nil))))<|Fi (tn4 q q q q)) ?_
  refine Px.sq<|W.sq' ?_
  refine W.sq'<|W.rx [(1,_),(5,_),(6,_),(9,_),(59,_)] (Rv (O.mv (.own q))<|Rv (O.lenO (.brw q) sl27)<|Rv (O.gtr (.lit q) (.k q))<|Fi (tn5 q q q q q)) ?_
  refine Px.sq ?_
  obtain ⟨j19,hj,h⟩:=bnd h
  refine W.jn [(1,I64 a1),(6,oR eI x4.2),(9,.obj [SS S0,oR eDecl_0 j19,iR eRule_0 [(⟨{ data:=#[115] },[(⟨([]:List Part),(⟨S0,false,0,0⟩:Sym),0⟩:Alt)],0⟩:Rule)],SS S0])] ?_ ?_
  ·clear h; have h:=hj; clear hj
   refine W.cnd q (fun hb20=>?_) (fun hb20=>?_)
   ·replace h:=cndT hb20 h
    refine W.fz (G1:=[(1,_),(5,.obj [I64 1,SS S0,iR eSym x4.1,I64 0]),(6,_),(9,_),(59,_)]) [5] (.n q q (.z q q (FzL.obj (.f (.f (.z (.f .nil))))) (.n q q (.n q q (.n q q .nil))))) ?_
    refine W.rx [(1,_),(6,_),(9,_)] (Rv (O.ldON (cs':=[I64 1,SS S0,iR eSym x4.1,I64 0]) q (.obj q) at55 q q)<|Rv (O.bs (ys:=[.agg [I64 1,SS S0,iR eSym x4.1,I64 0]]) eDecl_0 [(⟨1,S0,x4.1,0⟩:Decl)] sl22 q q q q q q zt55 q q)<|Rv (O.fO q (.obj q) fd25_1 q)<|RunL.ef (G2:=[(1,I64 a1),(6,oR eI x4.2),(9,.obj [SS S0,oR eDecl_0 [(⟨1,S0,x4.1,0⟩:Decl)],iR eRule_0 [(⟨{ data:=#[115] },[(⟨([]:List Part),(⟨S0,false,0,0⟩:Sym),0⟩:Alt)],0⟩:Rule)],SS S0])]) q (EO.stB (y':=oR eDecl_0 [(⟨1,S0,x4.1,0⟩:Decl)]) (cs2:=[SS S0,oR eDecl_0 [(⟨1,S0,x4.1,0⟩:Decl)],iR eRule_0 [(⟨{ data:=#[115] },[(⟨([]:List Part),(⟨S0,false,0,0⟩:Sym),0⟩:Alt)],0⟩:Rule)],SS S0]) q q (.ptr q) (.own q) (.r q .nil) .refl q sz22 q q q q q (.n q q (.n q q (.b q .nil))))<|Fi (tn3 q q q)) ?_
    obtain rfl:=sm h
    exact Px.jn (tn3 q q q)
   ·replace h:=cndF hb20 h
    refine W.sk ?_
    obtain rfl:=sm h
    exact Px.jn (.n q (.n q (.w q q (WkL.obj (.f (.o (.f (.f .nil))))) .nil)))
  refine Px.sq<|W.sq' ?_
  refine W.fz (G1:=[(1,_),(6,_),(9,.obj [SS S0,iR eDecl_0 j19,iR eRule_0 [(⟨{ data:=#[115] },[(⟨([]:List Part),(⟨S0,false,0,0⟩:Sym),0⟩:Alt)],0⟩:Rule)],SS S0])]) [9] (.n q q (.n q q (.z q q (FzL.obj (.f (.z (.f (.f .nil))))) .nil))) ?_
  obtain ⟨x21,hx21,h⟩:=bnd h
  refine W.rx [(1,_),(6,_),(10,_),(11,_)] (Rv (O.ldON (cs':=[SS S0,iR eDecl_0 j19,iR eRule_0 [(⟨{ data:=#[115] },[(⟨([]:List Part),(⟨S0,false,0,0⟩:Sym),0⟩:Alt)],0⟩:Rule)],SS S0]) q (.obj q) at25 q q)<|Rc (PC.go (.cc (.aggF q q) .nil) (con20 (⟨S0,j19,[(⟨{ data:=#[115] },[(⟨([]:List Part),(⟨S0,false,0,0⟩:Sym),0⟩:Alt)],0⟩:Rule)],S0⟩:Source) _ hx21) call20 q)<|Rv (O.mv (.tup q q))<|Rv (O.ex (y:=.agg (eGrammar_0.cells x21.1)) q q q)<|Rv (O.ex (y:=BB x21.2) q q q)<|Rv (O.al (cs:=[.nils,.nils,.nils,SS S0,SS S0]) ze38 q q)<|RunL.sO (G2:=[(1,I64 a1),(6,oR eI x4.2),(10,.obj (eGrammar_0.cells x21.1)),(67,BB x21.2)]) (cs2:=[iR eTok x21.1.Toks,iR eNon x21.1.Nons,iR eProd_0 x21.1.Prods,SS x21.1.Pro,SS x21.1.Tail]) q (.obj q) (.aggF q q) q sz38 q q q q (.n q q (.n q q (.b q (.n q q .nil))))<|Va q<|Fi (tn4 q q q q)) ?_
  refine Px.sq<|W.sq' ?_
  obtain ⟨x22,hx22,h⟩:=bnd h
  refine W.rx [(1,_),(6,_),(10,_),(11,_),(12,_)] (Rv (O.ldON (cs':=[iR eTok x21.1.Toks,iR eNon x21.1.Nons,iR eProd_0 x21.1.Prods,SS x21.1.Pro,SS x21.1.Tail]) q (.obj q) at38 q q)<|Rc (PC.go (.cc (.aggF q q) .nil) (con24 x21.1 _ hx22) call24 q)<|Rv (O.az (.imm q))<|Fi (tn5 q q q q q)) ?_
  refine Px.sq<|W.sq' ?_
  refine W.sq'<|W.rx [(1,_),(6,_),(10,_),(11,_),(12,_),(13,_)] (Vk q<|Fi (tn6 q q q q q q)) ?_
  refine Px.sq<|W.bk ?_
  obtain ⟨x24,hl,h⟩:=bnd h
  refine W.tr (G1:=[(1,_),(6,_),(10,_),(11,_),(12,_),(13,_)]) (tn6 q q q q q q) ?_
  refine W.lp2 (s:=(-3)) (fun (s23:Int)=>[(1,I64 a1),(6,oR eI x4.2),(10,.obj (eGrammar_0.cells x21.1)),(11,BB x21.2),(12,iR ePair x22),(13,I64 s23)]) 2 (fun (x25:Unit)=>[(1,I64 a1),(11,BB x21.2),(12,iR ePair x22)]) (fun (x26:Bool)=>[(4,BB x26)]) hl (fun s23 o h=>?_) (fun x25 hx=>?_) (fun x26 hx=>?_)
  ·clear hl
   refine W.sq'<|W.sq' ?_
   refine W.rx [(1,_),(6,_),(10,_),(11,_),(12,_),(13,_),(71,_)] (Vm q<|Rv (O.lss (.lit q) (.k q))<|Fi (tn7 q q q q q q q)) ?_
   refine Px.sq<|W.cnd q (fun hb27=>?_) (fun hb27=>?_)
   ·replace h:=cndT hb27 h
    refine W.sk<|Px.sq ?_
    refine W.sq'<|W.bk ?_
    refine W.sq' ?_
    obtain ⟨x28,hx28,h⟩:=bnd h
    refine W.rx [(1,_),(6,_),(10,_),(11,_),(12,_),(13,_),(14,_)] (Rv (O.mv (.imm q))<|Vm q<|Rc (PC.go (.cc (.imm q) (.cc (.lit q) .nil)) (con25 x22 s23 _ hx28) call25 q)<|Va q<|Fi (tn7 q q q q q q q)) ?_
    refine Px.sq<|W.bk ?_
    refine W.sq' ?_
    obtain ⟨c30,hj,h⟩:=bnd h
    refine W.rx [(1,I64 a1),(6,oR eI x4.2),(10,.obj (eGrammar_0.cells x21.1)),(11,BB x21.2),(12,iR ePair x22),(13,I64 s23),(14,I64 x28),(77,BB c30)] ?_ ?_
    ·refine Vm q<|Rv (O.leq (.lit q) (.k q))<|Rv (O.mv (.lit q)) ?_
     rcases cnd hj with ⟨hb29,hj⟩ | ⟨hb29,hj⟩
     ·obtain rfl:=sm hj
      exact RunL.v (O.mv (.lit q)) q q (.yb q q hb29)<|RunL.v (O.neq (.lit q) (.k q)) q q (.yb q q hb29)<|Rv (O.pkT (.lit q) hb29 (.lit q))<|Va q<|Fi (tn8 q q q q q q q q)
     ·obtain rfl:=sm hj
      exact RunL.ps q q hb29 q q<|RunL.ps q q hb29 q q<|Rv (O.pkF (.lit q) hb29 (.k q))<|Va q<|Fi (tn8 q q q q q q q q)
    refine Px.sq<|W.cnd q (fun hb31=>?_) (fun hb31=>?_)
    ·replace h:=cndT hb31 h
     refine W.sq'<|W.rx [(4,_)] (Vk q<|Fi (.n q .nil)) ?_
     refine Px.sq<|W.rt ?_
     refine Px.bkR ?_
     refine Px.bkR ?_
     refine Px.sqR ?_
     obtain rfl:=sm h
     exact Px.r2 (.n q .nil)
    ·replace h:=cndF hb31 h
     refine W.sq' ?_
     obtain ⟨c35,hj,h⟩:=bnd h
     refine W.rx [(1,I64 a1),(6,oR eI x4.2),(10,.obj (eGrammar_0.cells x21.1)),(11,BB x21.2),(12,iR ePair x22),(13,I64 s23),(14,I64 x28),(84,BB c35)] ?_ ?_
     ·refine Vm q<|Rv (O.gtr (.lit q) (.k q))<|Rv (O.mv (.lit q)) ?_
      rcases cnd hj with ⟨hb32,hj⟩ | ⟨hb32,hj⟩
      ·refine RunL.v (O.mv (.own q)) q q (.yb q q hb32)<|RunL.v (O.mv (.lit q)) q q (.yb q q hb32) ?_
       obtain ⟨x33,hx33,hj⟩:=bnd hj
       refine RunL.c (PC.vw (ys:=[.brw eI.z ⟨6,[]⟩ x4.2.length,I64 s23]) q (.c (.row q) (.s .nil)) (con27 x4.2 s23 _ hx33) call27 q) q q (.yb q q hb32)<|RunL.v (O.not (.lit q)) q q (.yb q q hb32)<|Rv (O.pkT (.lit q) hb32 (.lit q))<|Rv (O.mv (.lit q)) ?_
       rcases cnd hj with ⟨hb34,hj⟩ | ⟨hb34,hj⟩
       ·obtain rfl:=sm hj
        exact RunL.v (O.mv (.lit q)) q q (.yb q q hb34)<|RunL.v (O.neq (.lit q) (.k q)) q q (.yb q q hb34)<|Rv (O.pkT (.lit q) hb34 (.lit q))<|Va q<|Fi (tn8 q q q q q q q q)
       ·obtain rfl:=sm hj
        exact RunL.ps q q hb34 q q<|RunL.ps q q hb34 q q<|Rv (O.pkF (.lit q) hb34 (.k q))<|Va q<|Fi (tn8 q q q q q q q q)
      ·obtain rfl:=sm hj
       exact RunL.ps q q hb32 q q<|RunL.ps q q hb32 q q<|RunL.ps q q hb32 q q<|RunL.ps q q hb32 q q<|Rv (O.pkF (.lit q) hb32 (.k q))<|Vm q<|RunL.ps q q q q q<|RunL.ps q q q q q<|Rv (O.pkF (.lit q) q (.k q))<|Va q<|Fi (tn8 q q q q q q q q)
     refine Px.sq<|W.cnd q (fun hb36=>?_) (fun hb36=>?_)
     ·replace h:=cndT hb36 h
      refine W.sq'<|W.rx [(4,_)] (Vk q<|Fi (.n q .nil)) ?_
      refine Px.sq<|W.rt ?_
      refine Px.bkR ?_
      refine Px.bkR ?_
      refine Px.sqR ?_
      obtain rfl:=sm h
      exact Px.r2 (.n q .nil)
     ·replace h:=cndF hb36 h
      refine W.sq' ?_
      obtain ⟨c44,hj,h⟩:=bnd h
      refine W.rd [[],[],[0,1],[0,1,2],[0,1,2,3],rn 0 5 [],rn 0 6 [],rn 0 7 [],rn 0 7 [],rn 0 7 [8],rn 0 7 [8,9],rn 0 11 [],rn 0 12 [],rn 0 13 [],rn 0 14 [],rn 0 15 [],rn 0 14 [],rn 0 17 [],rn 0 18 [],rn 0 19 [],rn 0 14 [],rn 0 14 [20],rn 0 14 [20,21],rn 0 23 [],rn 0 24 [],rn 0 25 [],rn 0 26 []] [(1,I64 a1),(6,oR eI x4.2),(10,.obj (eGrammar_0.cells x21.1)),(11,BB x21.2),(12,iR ePair x22),(13,I64 s23),(97,BB c44)] mixo (by kernel_rfl) ?_ ?_
      ·refine Dv 0 (O.mv (.own q))<|Dv 1 (O.mv (.lit q)) ?_
       obtain ⟨x37,hx37,hj⟩:=bnd hj
       refine Dc 2 (PC.vw (ys:=[.brw eI.z ⟨6,[]⟩ x4.2.length,I64 s23]) q (.c (.row q) (.s .nil)) (con27 x4.2 s23 _ hx37) call27 q)<|Dv 3 (O.mv (.lit q)) ?_
       rcases cnd hj with ⟨hb38,hj⟩ | ⟨hb38,hj⟩
       ·refine DL.v 4 (O.mv (.lit q)) q q q q (.yb q q hb38)<|DL.v 5 (O.lss (.lit q) (.k q)) q q q q (.yb q q hb38)<|DL.v 6 (O.mv (.lit q)) q q q q (.yb q q hb38) ?_
        rcases cnd hj with ⟨hb39,hj⟩ | ⟨hb39,hj⟩
        ·obtain rfl:=sm hj
         exact DL.ps 7 q q hb39 q q q q<|DL.ps 8 q q hb39 q q q q<|DL.ps 9 q q hb39 q q q q<|DL.ps 10 q q hb39 q q q q<|DL.ps 11 q q hb39 q q q q<|DL.v 12 (O.pkT (.lit q) hb39 (.k q)) q q q q (.yb q q hb38)<|DL.v 13 (O.mv (.lit q)) q q q q (.yb q q hb38)<|DL.ps 14 q q q q q q q<|DL.ps 15 q q q q q q q<|DL.ps 16 q q q q q q q<|DL.ps 17 q q q q q q q<|DL.ps 18 q q q q q q q<|DL.ps 19 q q q q q q q<|DL.ps 20 q q q q q q q<|DL.ps 21 q q q q q q q<|DL.ps 22 q q q q q q q<|DL.ps 23 q q q q q q q<|DL.v 24 (O.pkT (.lit q) q (.k q)) q q q q (.yb q q hb38)<|Dv 25 (O.pkT (.lit q) hb38 (.lit q))<|Dv 26 (O.az (.lit q))<|DL.fin q q q (tn7 q q q q q q q)
        ·refine DL.v 7 (O.mv (.lit q)) q q q q (.yb q q hb39)<|DL.v 8 (O.fO q (.obj q) fd38_0 q) q q q q (.yb q q hb39)<|DL.v 9 (O.ldO (y:=iR eTok x21.1.Toks) q (.ptr q) ct34 q q) q q q q (.yb q q hb39)<|DL.v 10 (O.lenI (.imm q) sl34) q q q q (.yb q q hb39)<|DL.v 11 (O.geq (.lit q) (.lit q)) q q q q (.yb q q hb39)<|DL.v 12 (O.pkF (.lit q) hb39 (.lit q)) q q q q (.yb q q hb38)<|DL.v 13 (O.mv (.lit q)) q q q q (.yb q q hb38) ?_
         rcases cnd hj with ⟨hb40,hj⟩ | ⟨hb40,hj⟩
         ·obtain rfl:=sm hj
          exact DL.ps 14 q q hb40 q q q q<|DL.ps 15 q q hb40 q q q q<|DL.ps 16 q q hb40 q q q q<|DL.ps 17 q q hb40 q q q q<|DL.ps 18 q q hb40 q q q q<|DL.ps 19 q q hb40 q q q q<|DL.ps 20 q q hb40 q q q q<|DL.ps 21 q q hb40 q q q q<|DL.ps 22 q q hb40 q q q q<|DL.ps 23 q q hb40 q q q q<|DL.v 24 (O.pkT (.lit q) hb40 (.k q)) q q q q (.yb q q hb38)<|Dv 25 (O.pkT (.lit q) hb38 (.lit q))<|Dv 26 (O.az (.lit q))<|DL.fin q q q (tn7 q q q q q q q)
         ·refine DL.v 14 (O.fO q (.obj q) fd38_0 q) q q q q (.yb q q hb40)<|DL.v 15 (O.ldO (y:=iR eTok x21.1.Toks) q (.ptr q) ct34 q q) q q q q (.yb q q hb40)<|DL.v 16 (O.mv (.lit q)) q q q q (.yb q q hb40) ?_
          obtain ⟨x41,hx41,hj⟩:=bnd hj
          refine DL.v 17 (O.ixI (.imm q) (.lit q) sl34 hx41) q q q q (.yb q q hb40)<|DL.v 18 (O.fI (.iptr q) fd51_0) q q q q (.yb q q hb40)<|DL.v 19 (O.ldI (x:=SS x41.Name) (.iptr q) ct9 q) q q q q (.yb q q hb40)<|DL.v 20 (O.mv (.lit q)) q q q q (.yb q q hb40) ?_
          obtain ⟨x42,hx42,hj⟩:=bnd hj
          refine DL.c 21 (PC.go (.cc (.lit q) .nil) (con28 s23 _ hx42) call28 q) q q q q (.yb q q hb40) ?_
          obtain ⟨x43,hx43,hj⟩:=bnd hj
          obtain rfl:=sm hj
          exact DL.v 22 (O.cat (.k q) (.lit q) hx43) q q q q (.yb q q hb40)<|DL.v 23 (O.neS (.lit q) (.lit q)) q q q q (.yb q q hb40)<|DL.v 24 (O.pkF (.lit q) hb40 (.lit q)) q q q q (.yb q q hb38)<|Dv 25 (O.pkT (.lit q) hb38 (.lit q))<|Dv 26 (O.az (.lit q))<|DL.fin q q q (tn7 q q q q q q q)
       ·obtain rfl:=sm hj
        exact DL.ps 4 q q hb38 q q q q<|DL.ps 5 q q hb38 q q q q<|DL.ps 6 q q hb38 q q q q<|DL.pu 7 q q q q q q<|DL.pu 8 q q q q q q<|DL.pu 9 q q q q q q<|DL.pu 10 q q q q q q<|DL.pu 11 q q q q q q<|DL.ps 12 q q hb38 q q q q<|DL.ps 13 q q hb38 q q q q<|DL.pu 14 q q q q q q<|DL.pu 15 q q q q q q<|DL.pu 16 q q q q q q<|DL.pu 17 q q q q q q<|DL.pu 18 q q q q q q<|DL.pu 19 q q q q q q<|DL.pu 20 q q q q q q<|DL.pu 21 q q q q q q<|DL.pu 22 q q q q q q<|DL.pu 23 q q q q q q<|DL.ps 24 q q hb38 q q q q<|Dv 25 (O.pkF (.lit q) hb38 (.k q))<|Dv 26 (O.az (.lit q))<|DL.fin q q q (tn7 q q q q q q q)
      refine Px.sq<|W.cnd q (fun hb45=>?_) (fun hb45=>?_)
      ·replace h:=cndT hb45 h
       refine W.sq'<|W.rx [(4,_)] (Vk q<|Fi (.n q .nil)) ?_
       refine Px.sq<|W.rt ?_
       refine Px.bkR ?_
       refine Px.bkR ?_
       refine Px.sqR ?_
       obtain rfl:=sm h
       exact Px.r2 (.n q .nil)
      ·replace h:=cndF hb45 h
       refine W.sk<|Px.bk ?_
       refine Px.bk ?_
       refine Px.sq<|W.rx [(1,_),(6,_),(10,_),(11,_),(12,_),(13,_)] (Vm q<|Rv (O.add (.lit q) (.k q))<|RunL.re (G1:=[(1,_),(6,_),(10,_),(11,_),(12,_),(73,_)]) (tn6 q q q q q q)<|Va q<|Fi (tn6 q q q q q q)) ?_
       obtain rfl:=sm h
       exact Px.go (tn6 q q q q q q)
   ·replace h:=cndF hb27 h
    refine W.xi ?_
    refine Px.sqE ?_
    obtain rfl:=sm h
    exact Px.x2 (tn3 q q q)
  ·subst hx
   refine Px.bkH ?_
   refine Px.sq<|W.sq' ?_
   obtain ⟨c48,hj,h⟩:=bnd h
   refine W.rx [(4,BB c48)] ?_ ?_
   ·refine Vm q<|Rv (O.mv (.lit q)) ?_
    rcases cnd hj with ⟨hb46,hj⟩ | ⟨hb46,hj⟩
    ·refine RunL.v (O.mv (.lit q)) q q (.yb q q hb46)<|RunL.v (O.leq (.lit q) (.k q)) q q (.yb q q hb46)<|RunL.v (O.mv (.imm q)) q q (.yb q q hb46)<|RunL.v (O.mv (.lit q)) q q (.yb q q hb46) ?_
     obtain ⟨x47,hx47,hj⟩:=bnd hj
     obtain rfl:=sm hj
     exact RunL.c (PC.go (.cc (.imm q) (.cc (.lit q) .nil)) (con25 x22 a1 _ hx47) call25 q) q q (.yb q q hb46)<|RunL.v (O.eql (.lit q) (.k q)) q q (.yb q q hb46)<|RunL.v (O.eqB (.lit q) (.lit q) bt4) q q (.yb q q hb46)<|Rv (O.pkT (.lit q) hb46 (.lit q))<|Va q<|Fi (.n q .nil)
    ·obtain rfl:=sm hj
     exact RunL.ps q q hb46 q q<|RunL.ps q q hb46 q q<|RunL.ps q q hb46 q q<|RunL.ps q q hb46 q q<|RunL.ps q q hb46 q q<|RunL.ps q q hb46 q q<|RunL.ps q q hb46 q q<|Rv (O.pkF (.lit q) hb46 (.k q))<|Va q<|Fi (.n q .nil)
   refine Px.sq<|W.rt ?_
   obtain rfl:=sm h
   exact Px.fin (Fin.ro (.f q q .nil) q (ode (by kernel_rfl)) (.no (.no .nil)) q (.inr q))
  ·subst hx
   refine Px.bkR ?_
   refine Px.sqR ?_
   obtain rfl:=sm h
   exact Px.fin (Fin.ro (.f q q .nil) q (ode (by kernel_rfl)) (.no (.no .nil)) q (.inr q))
instance:Lts eItem:=⟨fun x=>[(.int .i64 x.Prod),(.int .i64 x.Dot)],fun _=>rfl,fun x v hv=>by simp only [List.mem_cons,List.not_mem_nil,or_false] at hv; rcases hv with rfl | rfl <;> rfl⟩
end Go.Proofs
namespace Go.Own
open Go Go.ChangeShapes Go.WideShapes Go.ChangeAt Go.RowKit
variable {H:Type}{enc:TypeId × Value->H}{P:Program}
theorem post_old {f:Func}{s:ChangeSpec}{apart fresh handsOn again:Bool}{W W':World}{args:Array Value}{v:Value}{ds gs:List (DataW H)}{before pa pv:List MemPlace}
  (hW:DataW.Whole enc P f.params.toList s.vars apart W args.toList ds gs before) (hk:Kp W W') (hps:before=pa++pv)
  (hres:∀ (b:Nat) (sp:Nat->Bool) (hd:Bool),DataW.TrodAll enc P W' b sp hd f.resultTypes.toList (v.resultList f.resultTypes.size) (s.fn H (ds++gs)).results [])
  (hargs:∀ sp:Nat->Bool,(∀ p∈before,sp p.block=true)->DataW.TrodAll enc P W' 0 sp true f.params.toList args.toList (s.fn H (ds++gs)).args pa)
  (hvars:∀ sp:Nat->Bool,(∀ p∈before,sp p.block=true)->DataW.TrodVars enc P W' sp s.vars (s.fn H (ds++gs)).vars pv)
  (hok:∀ (j:Nat) (t:TypeId) (r:Value),f.resultTypes[j]?=some t->(v.resultList f.resultTypes.size)[j]?=some r->Value.okWide P W' .any 0 t r) :
  s.post enc P f apart fresh handsOn again W args v W':=by
 subst hps
 have hlt:∀ p∈pa++pv,p.block<W.heap.size:=fun p hp=>hW.lt p hp
 have hsp:∀ p∈pa++pv,(fun b=>decide (b<W.heap.size)) p.block=true:=fun p hp=>decide_eq_true (hlt p hp)
 have hWh:=hW
 obtain ⟨_,_,_,_,_,hz,hn⟩:=hWh
 have ht:=trodAll_append (hargs (fun _=>true) (fun _ _=>rfl)) (hres 0 (fun _=>true) true)
 refine ⟨ds,gs,pa++pv,[],pa,pv,hW,hres _ _ _,hargs _ hsp,hvars _ hsp,hk.kept _,fun _=>⟨hok,_,_,pa++pv,⟨_,pv,ht,hvars _ (fun _ _=>rfl),rfl,fun b off hp=>?_,hn⟩,fun p hp _=>hp⟩⟩
 rw [hk.fz _ (hlt _ hp)]
 exact hz b off hp
end Go.Own
namespace Go.Proofs
open Go Go.Own
set_option maxRecDepth 100000
theorem uI:Try.prog.underlying 3=some (.int .i64):=by kernel_rfl
def okI (n:Int):Prop:=(Lit.int .i64 n).wf=true
def okL {α:Type}(p:α->Prop) (l:List α):Prop:=l.length<=maxLen/\∀ x∈l,p x
theorem aI:Ar Try.prog eI 3 okI:=.int uI (by kernel_rfl) fun _=>rfl
theorem uLI:Try.prog.underlying 27=some (.slice 3):=by kernel_rfl
theorem aLI:Ar Try.prog (eM eI) 27 (okL okI):=aI.slice (t:=27) uLI (by kernel_rfl) (by decide)
theorem pLaid:laidOutB Try.prog=true:=by kernel_rfl
theorem pMaps:mapsRowed Try.prog=true:=by kernel_rfl
theorem pFull:((List.range Try.prog.types.size).all fun t=>match Try.prog.underlying t with | some (.slice e)=>decide (0<Try.prog.cellsOf e) | _=>true)=true:=by kernel_rfl
end Go.Proofs
