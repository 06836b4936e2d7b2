/-
  What is proved here: parts of the proof that the last text states: rules for walks through code, and of this program's functions what they answer. No condition of their own.
-/
import Derived.Test.YtmddbjglblcegaaRows
import Derived.Test.YtmddbjglblcegaaE4
namespace Go.Proofs
open Go Go.Own
set_option maxRecDepth 100000
set_option linter.unusedVariables false
theorem it3:intT Try.prog 3 .i64=true:=by kernel_rfl
theorem it126:intT Try.prog 126 .u64=true:=by kernel_rfl
theorem it5:intT Try.prog 5 .u8=true:=by kernel_rfl
theorem zt5:zeroT Try.prog 5 1=true:=by kernel_rfl
theorem sl107:slT Try.prog 107 5 1=true:=by kernel_rfl
theorem by107_9:bytT Try.prog 107 9=true:=by kernel_rfl
theorem st9:strT Try.prog 9=true:=by kernel_rfl
theorem call144:callT Try.prog 144=true:=by kernel_rfl
theorem call145:callT Try.prog 145=true:=by kernel_rfl
theorem call132:callT Try.prog 132=true:=by kernel_rfl
theorem fd59_1:fldT Try.prog 59 1 1 4=true:=by kernel_rfl
theorem ct4:cellT Try.prog 4=true:=by kernel_rfl
theorem fd59_0:fldT Try.prog 59 0 0 9=true:=by kernel_rfl
theorem ct9:cellT Try.prog 9=true:=by kernel_rfl
theorem fd59_2:fldT Try.prog 59 2 2 3=true:=by kernel_rfl
theorem ct3:cellT Try.prog 3=true:=by kernel_rfl
theorem call130:callT Try.prog 130=true:=by kernel_rfl
theorem call105:callT Try.prog 105=true:=by kernel_rfl
theorem fd55_0:fldT Try.prog 55 0 0 3=true:=by kernel_rfl
theorem fd55_2:fldT Try.prog 55 2 2 53=true:=by kernel_rfl
theorem ct53:cellT Try.prog 53=true:=by kernel_rfl
theorem sl53:slT Try.prog 53 59 4=true:=by kernel_rfl
theorem fd55_1:fldT Try.prog 55 1 1 9=true:=by kernel_rfl
theorem at59:aggT Try.prog 59 4=true:=by kernel_rfl
theorem call131:callT Try.prog 131=true:=by kernel_rfl
theorem mixo:Try.prog.follows .mixedOrders=true:=by kernel_rfl
theorem call150:callT Try.prog 150=true:=by kernel_rfl
theorem call146:callT Try.prog 146=true:=by kernel_rfl
theorem fd62_0:fldT Try.prog 62 0 0 60=true:=by kernel_rfl
theorem ct60:cellT Try.prog 60=true:=by kernel_rfl
theorem sl60:slT Try.prog 60 109 6=true:=by kernel_rfl
theorem at109:aggT Try.prog 109 6=true:=by kernel_rfl
theorem ze109:(Try.prog.info? 109).bind (·.zero)=some (.agg #[.string { data:=#[] },.bool false,.int .i64 0,.int .i64 0,.string { data:=#[] },.int .i64 0]):=by kernel_rfl
theorem sz109:sizeT Try.prog 109 6=true:=by kernel_rfl
theorem fd109_1:fldT Try.prog 109 1 4 9=true:=by kernel_rfl
theorem fd109_0:fldT Try.prog 109 0 0 59=true:=by kernel_rfl
theorem call133:callT Try.prog 133=true:=by kernel_rfl
theorem call134:callT Try.prog 134=true:=by kernel_rfl
theorem fd62_1:fldT Try.prog 62 1 1 59=true:=by kernel_rfl
theorem fd25_0:fldT Try.prog 25 0 0 9=true:=by kernel_rfl
theorem fd25_1:fldT Try.prog 25 1 1 22=true:=by kernel_rfl
theorem ct22:cellT Try.prog 22=true:=by kernel_rfl
theorem sl22:slT Try.prog 22 55 4=true:=by kernel_rfl
theorem at55:aggT Try.prog 55 4=true:=by kernel_rfl
theorem call104:callT Try.prog 104=true:=by kernel_rfl
theorem fd25_2:fldT Try.prog 25 2 2 23=true:=by kernel_rfl
theorem ct23:cellT Try.prog 23=true:=by kernel_rfl
theorem sl23:slT Try.prog 23 65 3=true:=by kernel_rfl
theorem at65:aggT Try.prog 65 3=true:=by kernel_rfl
theorem ze65:(Try.prog.info? 65).bind (·.zero)=some (.agg #[.string { data:=#[] },.slice none 0 0,.int .i64 0]):=by kernel_rfl
theorem sz65:sizeT Try.prog 65 3=true:=by kernel_rfl
theorem fd65_0:fldT Try.prog 65 0 0 9=true:=by kernel_rfl
theorem fd65_1:fldT Try.prog 65 1 1 63=true:=by kernel_rfl
theorem ct63:cellT Try.prog 63=true:=by kernel_rfl
theorem sl63:slT Try.prog 63 62 6=true:=by kernel_rfl
theorem at62:aggT Try.prog 62 6=true:=by kernel_rfl
theorem call106:callT Try.prog 106=true:=by kernel_rfl
theorem fd143_4:fldT Try.prog 143 4 8 3=true:=by kernel_rfl
theorem sz3:sizeT Try.prog 3 1=true:=by kernel_rfl
theorem fd143_5:fldT Try.prog 143 5 9 3=true:=by kernel_rfl
theorem fd143_6:fldT Try.prog 143 6 10 9=true:=by kernel_rfl
theorem sz9:sizeT Try.prog 9 1=true:=by kernel_rfl
theorem fd143_2:fldT Try.prog 143 2 6 35=true:=by kernel_rfl
theorem ct35:cellT Try.prog 35=true:=by kernel_rfl
theorem sl35:slT Try.prog 35 134 2=true:=by kernel_rfl
theorem fd134_0:fldT Try.prog 134 0 0 9=true:=by kernel_rfl
theorem fd143_0:fldT Try.prog 143 0 0 38=true:=by kernel_rfl
theorem fd38_0:fldT Try.prog 38 0 0 34=true:=by kernel_rfl
theorem ct34:cellT Try.prog 34=true:=by kernel_rfl
theorem sl34:slT Try.prog 34 51 6=true:=by kernel_rfl
theorem fd51_0:fldT Try.prog 51 0 0 9=true:=by kernel_rfl
theorem fd51_1:fldT Try.prog 51 1 1 4=true:=by kernel_rfl
theorem bt4:boolT Try.prog 4=true:=by kernel_rfl
theorem fd51_2:fldT Try.prog 51 2 2 3=true:=by kernel_rfl
theorem call91:callT Try.prog 91=true:=by kernel_rfl
theorem ze51:(Try.prog.info? 51).bind (·.zero)=some (.agg #[.string { data:=#[] },.bool false,.int .i64 0,.int .i64 0,.int .i64 0,.string { data:=#[] }]):=by kernel_rfl
theorem sc51:structT Try.prog 51 [(0,1),(1,1),(2,1),(3,1),(4,1),(5,1)]=true:=by kernel_rfl
theorem sz51:sizeT Try.prog 51 6=true:=by kernel_rfl
theorem call108:callT Try.prog 108=true:=by kernel_rfl
theorem fd59_3:fldT Try.prog 59 3 3 3=true:=by kernel_rfl
theorem call90:callT Try.prog 90=true:=by kernel_rfl
theorem at51:aggT Try.prog 51 6=true:=by kernel_rfl
theorem zt51:zeroT Try.prog 51 6=true:=by kernel_rfl
theorem ap34:appT Try.prog 34 51 6 64=true:=by kernel_rfl
theorem sz34:sizeT Try.prog 34 1=true:=by kernel_rfl
theorem fd143_1:fldT Try.prog 143 1 5 116=true:=by kernel_rfl
theorem ct116:cellT Try.prog 116=true:=by kernel_rfl
theorem zt4:zeroT Try.prog 4 1=true:=by kernel_rfl
theorem sl116:slT Try.prog 116 4 1=true:=by kernel_rfl
theorem ap116:appT Try.prog 116 4 1 1=true:=by kernel_rfl
theorem sz116:sizeT Try.prog 116 1=true:=by kernel_rfl
theorem call94:callT Try.prog 94=true:=by kernel_rfl
theorem ze134:(Try.prog.info? 134).bind (·.zero)=some (.agg #[.string { data:=#[] },.string { data:=#[] }]):=by kernel_rfl
theorem sc134:structT Try.prog 134 [(0,1),(1,1)]=true:=by kernel_rfl
theorem zt134:zeroT Try.prog 134 2=true:=by kernel_rfl
theorem ap35:appT Try.prog 35 134 2 32=true:=by kernel_rfl
theorem sz35:sizeT Try.prog 35 1=true:=by kernel_rfl
theorem fd134_1:fldT Try.prog 134 1 1 9=true:=by kernel_rfl
theorem call107:callT Try.prog 107=true:=by kernel_rfl
theorem fd51_3:fldT Try.prog 51 3 3 3=true:=by kernel_rfl
theorem fd143_7:fldT Try.prog 143 7 11 3=true:=by kernel_rfl
theorem fd51_4:fldT Try.prog 51 4 4 3=true:=by kernel_rfl
theorem sz4:sizeT Try.prog 4 1=true:=by kernel_rfl
theorem fd51_5:fldT Try.prog 51 5 5 9=true:=by kernel_rfl
theorem fd143_3:fldT Try.prog 143 3 7 141=true:=by kernel_rfl
theorem ct141:cellT Try.prog 141=true:=by kernel_rfl
theorem sl141:slT Try.prog 141 9 1=true:=by kernel_rfl
theorem call92:callT Try.prog 92=true:=by kernel_rfl
theorem fd62_2:fldT Try.prog 62 2 5 3=true:=by kernel_rfl
theorem ze83:(Try.prog.info? 83).bind (·.zero)=some (.agg #[.int .i64 0,.slice none 0 0,.int .i64 0,.string { data:=#[] },.slice none 0 0,.int .i64 0]):=by kernel_rfl
theorem sc83:structT Try.prog 83 [(0,1),(1,1),(2,1),(3,1),(4,1),(5,1)]=true:=by kernel_rfl
theorem sz83:sizeT Try.prog 83 6=true:=by kernel_rfl
theorem fd83_1:fldT Try.prog 83 1 1 27=true:=by kernel_rfl
theorem ct27:cellT Try.prog 27=true:=by kernel_rfl
theorem call109:callT Try.prog 109=true:=by kernel_rfl
theorem zt3:zeroT Try.prog 3 1=true:=by kernel_rfl
theorem sl27:slT Try.prog 27 3 1=true:=by kernel_rfl
theorem ap27:appT Try.prog 27 3 1 8=true:=by kernel_rfl
theorem sz27:sizeT Try.prog 27 1=true:=by kernel_rfl
theorem fd109_2:fldT Try.prog 109 2 5 3=true:=by kernel_rfl
theorem fd83_3:fldT Try.prog 83 3 3 9=true:=by kernel_rfl
theorem fd83_5:fldT Try.prog 83 5 5 3=true:=by kernel_rfl
theorem fd143_8:fldT Try.prog 143 8 12 3=true:=by kernel_rfl
theorem fd38_2:fldT Try.prog 38 2 2 36=true:=by kernel_rfl
theorem ct36:cellT Try.prog 36=true:=by kernel_rfl
theorem zt83:zeroT Try.prog 83 6=true:=by kernel_rfl
theorem sl36:slT Try.prog 36 83 6=true:=by kernel_rfl
theorem ap36:appT Try.prog 36 83 6 88=true:=by kernel_rfl
theorem sz36:sizeT Try.prog 36 1=true:=by kernel_rfl
theorem fd83_2:fldT Try.prog 83 2 2 3=true:=by kernel_rfl
theorem fd83_4:fldT Try.prog 83 4 4 27=true:=by kernel_rfl
theorem at83:aggT Try.prog 83 6=true:=by kernel_rfl
theorem ze38:(Try.prog.info? 38).bind (·.zero)=some (.agg #[.slice none 0 0,.slice none 0 0,.slice none 0 0,.string { data:=#[] },.string { data:=#[] }]):=by kernel_rfl
theorem at25:aggT Try.prog 25 4=true:=by kernel_rfl
theorem call88:callT Try.prog 88=true:=by kernel_rfl
theorem sc38:structT Try.prog 38 [(0,1),(1,1),(2,1),(3,1),(4,1)]=true:=by kernel_rfl
theorem sz38:sizeT Try.prog 38 5=true:=by kernel_rfl
theorem at38:aggT Try.prog 38 5=true:=by kernel_rfl
theorem ze4:(Try.prog.info? 4).bind (·.zero)=some (.bool false):=by kernel_rfl
theorem bb4:(Try.prog.info? 4).map (·.bytes)=some 1:=by kernel_rfl
theorem ze143:(Try.prog.info? 143).bind (·.zero)=some (.agg #[.slice none 0 0,.slice none 0 0,.slice none 0 0,.string { data:=#[] },.string { data:=#[] },.slice none 0 0,.slice none 0 0,.slice none 0 0,.int .i64 0,.int .i64 0,.string { data:=#[] },.int .i64 0,.int .i64 0]):=by kernel_rfl
theorem sc143:structT Try.prog 143 [(0,5),(5,1),(6,1),(7,1),(8,1),(9,1),(10,1),(11,1),(12,1)]=true:=by kernel_rfl
theorem ze55:(Try.prog.info? 55).bind (·.zero)=some (.agg #[.int .i64 0,.string { data:=#[] },.slice none 0 0,.int .i64 0]):=by kernel_rfl
theorem sz55:sizeT Try.prog 55 4=true:=by kernel_rfl
theorem call89:callT Try.prog 89=true:=by kernel_rfl
theorem ze59:(Try.prog.info? 59).bind (·.zero)=some (.agg #[.string { data:=#[] },.bool false,.int .i64 0,.int .i64 0]):=by kernel_rfl
theorem sc59:structT Try.prog 59 [(0,1),(1,1),(2,1),(3,1)]=true:=by kernel_rfl
theorem fd65_2:fldT Try.prog 65 2 2 3=true:=by kernel_rfl
theorem zt9:zeroT Try.prog 9 1=true:=by kernel_rfl
theorem ap141:appT Try.prog 141 9 1 16=true:=by kernel_rfl
theorem sz141:sizeT Try.prog 141 1=true:=by kernel_rfl
theorem sz59:sizeT Try.prog 59 4=true:=by kernel_rfl
theorem call93:callT Try.prog 93=true:=by kernel_rfl
theorem fd38_1:fldT Try.prog 38 1 1 35=true:=by kernel_rfl
theorem sz134:sizeT Try.prog 134 2=true:=by kernel_rfl
theorem at134:aggT Try.prog 134 2=true:=by kernel_rfl
theorem call28:callT Try.prog 28=true:=by kernel_rfl
theorem fd25_3:fldT Try.prog 25 3 3 9=true:=by kernel_rfl
theorem fd38_3:fldT Try.prog 38 3 3 9=true:=by kernel_rfl
theorem fd38_4:fldT Try.prog 38 4 4 9=true:=by kernel_rfl
theorem call61:callT Try.prog 61=true:=by kernel_rfl
theorem call97:callT Try.prog 97=true:=by kernel_rfl
theorem call65:callT Try.prog 65=true:=by kernel_rfl
theorem ze62:(Try.prog.info? 62).bind (·.zero)=some (.agg #[.slice none 0 0,.string { data:=#[] },.bool false,.int .i64 0,.int .i64 0,.int .i64 0]):=by kernel_rfl
theorem sc62:structT Try.prog 62 [(0,1),(1,4),(5,1)]=true:=by kernel_rfl
theorem zt62:zeroT Try.prog 62 6=true:=by kernel_rfl
theorem sc65:structT Try.prog 65 [(0,1),(1,1),(2,1)]=true:=by kernel_rfl
theorem zt65:zeroT Try.prog 65 3=true:=by kernel_rfl
theorem ze25:(Try.prog.info? 25).bind (·.zero)=some (.agg #[.string { data:=#[] },.slice none 0 0,.slice none 0 0,.string { data:=#[] }]):=by kernel_rfl
theorem sc25:structT Try.prog 25 [(0,1),(1,1),(2,1),(3,1)]=true:=by kernel_rfl
theorem call20:callT Try.prog 20=true:=by kernel_rfl
theorem sz62:sizeT Try.prog 62 6=true:=by kernel_rfl
theorem sc109:structT Try.prog 109 [(0,4),(4,1),(5,1)]=true:=by kernel_rfl
theorem zt109:zeroT Try.prog 109 6=true:=by kernel_rfl
theorem ap60:appT Try.prog 60 109 6 64=true:=by kernel_rfl
theorem sz60:sizeT Try.prog 60 1=true:=by kernel_rfl
theorem ap63:appT Try.prog 63 62 6 72=true:=by kernel_rfl
theorem sz63:sizeT Try.prog 63 1=true:=by kernel_rfl
theorem call22:callT Try.prog 22=true:=by kernel_rfl
theorem fd72_0:fldT Try.prog 72 0 0 3=true:=by kernel_rfl
theorem fd72_1:fldT Try.prog 72 1 1 3=true:=by kernel_rfl
theorem at72:aggT Try.prog 72 2=true:=by kernel_rfl
theorem call68:callT Try.prog 68=true:=by kernel_rfl
theorem sl66:slT Try.prog 66 72 2=true:=by kernel_rfl
theorem eq72:eqAT Try.prog 72 [.i .i64,.i .i64]=true:=by kernel_rfl
theorem call99:callT Try.prog 99=true:=by kernel_rfl
theorem ze72:(Try.prog.info? 72).bind (·.zero)=some (.agg #[.int .i64 0,.int .i64 0]):=by kernel_rfl
theorem sz72:sizeT Try.prog 72 2=true:=by kernel_rfl
theorem zt72:zeroT Try.prog 72 2=true:=by kernel_rfl
theorem ap66:appT Try.prog 66 72 2 16=true:=by kernel_rfl
theorem call32:callT Try.prog 32=true:=by kernel_rfl
theorem fd83_0:fldT Try.prog 83 0 0 3=true:=by kernel_rfl
theorem sc72:structT Try.prog 72 [(0,1),(1,1)]=true:=by kernel_rfl
theorem call70:callT Try.prog 70=true:=by kernel_rfl
theorem call71:callT Try.prog 71=true:=by kernel_rfl
theorem call72:callT Try.prog 72=true:=by kernel_rfl
theorem call36:callT Try.prog 36=true:=by kernel_rfl
theorem call75:callT Try.prog 75=true:=by kernel_rfl
theorem call35:callT Try.prog 35=true:=by kernel_rfl
theorem ct66:cellT Try.prog 66=true:=by kernel_rfl
theorem con28 (a0:Int) (r:ByteArray) (h:pf28 a0=some r):Con Try.prog 28 [I64 a0] [none] (SS r):=by
 unfold pf28 at h
 refine Con.go (N:=⟨32,[]⟩) Try.func28 q q q q (W.fin ?_)
 refine W.st [(0,I64 a0)] ?_
 refine W.sq'<|W.rx [(0,_)] (Vk q<|Fi (.n q .nil)) ?_
 refine Px.sq<|W.sq' ?_
 refine W.rx [(0,_),(3,_)] (Vm q<|Rv (O.cvI (.lit q) it3 it126)<|Va q<|Fi (tn2 q q)) ?_
 refine Px.sq<|W.sq' ?_
 refine W.sq'<|W.rx [(0,_),(3,_),(8,_)] (Vm q<|Rv (O.lss (.lit q) (.k q))<|Fi (tn3 q q q)) ?_
 refine Px.sq ?_
 obtain ⟨j1,hj,h⟩:=bnd h
 refine W.jn [(0,I64 a0),(3,.lit (.int .u64 j1))] ?_ ?_
 ·clear h; have h:=hj; clear hj
  refine W.cnd q (fun hb2=>?_) (fun hb2=>?_)
  ·replace h:=cndT hb2 h
   refine W.rx [(0,_),(3,_)] (Vm q<|Rv (O.neg (.lit q))<|RunL.re (G1:=[(0,_),(10,_)]) (tn2 q q)<|Va q<|Fi (tn2 q q)) ?_
   obtain rfl:=sm h
   exact Px.jn (tn2 q q)
  ·replace h:=cndF hb2 h
   refine W.sk ?_
   obtain rfl:=sm h
   exact Px.jn (tn2 q q)
 refine Px.sq<|W.sq' ?_
 refine W.rx [(0,_),(3,_),(4,_)] (Vk q<|Fi (tn3 q q q)) ?_
 refine Px.sq<|W.sq' ?_
 refine W.bk ?_
 obtain ⟨x4,hl,h⟩:=bnd h
 refine W.tr (G1:=[(0,_),(3,_),(4,_)]) (tn3 q q q) ?_
 refine W.lp1 (s:=(j1,S0)) (fun (s3:Int × ByteArray)=>[(0,I64 a0),(3,.lit (.int .u64 s3.1)),(4,SS s3.2)]) 0 (fun (x4:ByteArray)=>[(0,I64 a0),(4,SS x4)]) hl (fun s3 o h=>?_) ?_
 ·clear hl
  refine W.sq'<|W.sq' ?_
  obtain ⟨c7,hj,h⟩:=bnd h
  refine W.rx [(0,I64 a0),(3,.lit (.int .u64 s3.1)),(4,SS s3.2),(16,BB c7)] ?_ ?_
  ·refine Vm q<|Rv (O.gtr (.lit q) (.k q))<|Rv (O.mv (.lit q)) ?_
   rcases cnd hj with ⟨hb6,hj⟩ | ⟨hb6,hj⟩
   ·obtain rfl:=sm hj
    exact RunL.ps q q hb6 q q<|RunL.ps q q hb6 q q<|Rv (O.pkT (.lit q) hb6 (.k q))<|Fi (tn4 q q q q)
   ·obtain rfl:=sm hj
    exact RunL.v (O.mv (.lit q)) q q (.yb q q hb6)<|RunL.v (O.eqS (.lit q) (.k q)) q q (.yb q q hb6)<|Rv (O.pkF (.lit q) hb6 (.lit q))<|Fi (tn4 q q q q)
  refine Px.sq<|W.cnd q (fun hb8=>?_) (fun hb8=>?_)
  ·replace h:=cndT hb8 h
   refine W.sk<|Px.sq ?_
   refine W.bk<|W.sq' ?_
   obtain ⟨x9,hx9,h⟩:=bnd h
   obtain ⟨x10,hx10,h⟩:=bnd h
   refine W.rx [(0,_),(3,_),(4,_)] (Vm q<|Rv (O.remU (.lit q) (.k q) hx9)<|Rv (O.add (.k q) (.lit q))<|Rv (O.cvI (.lit q) it126 it5)<|RunL.vi (x:=iR eU [w8 (IntKind.u64.wrap (48+x9))]) (O.bs (ys:=[U8 (w8 (IntKind.u64.wrap (48+x9)))]) eU [w8 (IntKind.u64.wrap (48+x9))] sl107 q q q q q q zt5 q q) q q .none<|Rv (O.cvC (.imm q) by107_9)<|Vm q<|Rv (O.cat (.lit q) (.lit q) hx10)<|RunL.re (G1:=[(0,_),(3,_),(24,_)]) (tn3 q q q)<|Va q<|Fi (tn3 q q q)) ?_
   refine Px.sq ?_
   obtain ⟨x11,hx11,h⟩:=bnd h
   refine W.rx [(0,_),(3,_),(4,_)] (Vm q<|Rv (O.quoU (.lit q) (.k q) hx11)<|RunL.re (G1:=[(0,_),(4,_),(26,_)]) (tn3 q q q)<|Va q<|Fi (tn3 q q q)) ?_
   refine Px.bk ?_
   obtain rfl:=sm h
   exact Px.go (tn3 q q q)
  ·replace h:=cndF hb8 h
   refine W.xi ?_
   refine Px.sqE ?_
   obtain rfl:=sm h
   exact Px.x1 (tn2 q q)
 refine Px.bkH ?_
 refine Px.sq<|W.sq' ?_
 refine W.sq'<|W.rx [(4,_),(28,_)] (Vm q<|Rv (O.lss (.lit q) (.k q))<|Fi (tn2 q q)) ?_
 refine Px.sq<|W.cnd q (fun hb12=>?_) (fun hb12=>?_)
 ·replace h:=cndT hb12 h
  refine W.sq' ?_
  obtain ⟨x13,hx13,h⟩:=bnd h
  refine W.rx [(2,_)] (Vm q<|Rv (O.cat (.k q) (.lit q) hx13)<|Va q<|Fi (.n q .nil)) ?_
  refine Px.sq<|W.rt ?_
  refine Px.sqR ?_
  obtain rfl:=sm h
  exact Px.fin (Fin.ro (.f q q .nil) q (ode (by kernel_rfl)) (.no .nil) q (.inr q))
 ·replace h:=cndF hb12 h
  refine W.sk<|Px.sq ?_
  refine W.sq'<|W.rx [(2,_)] (Vm q<|Va q<|Fi (.n q .nil)) ?_
  refine Px.sq<|W.rt ?_
  obtain rfl:=sm h
  exact Px.fin (Fin.ro (.f q q .nil) q (ode (by kernel_rfl)) (.no .nil) q (.inr q))
theorem con144 (a0:Int) (r:Bool) (h:pf144 a0=some r):Con Try.prog 144 [U8 a0] [none] (BB r):=by
 unfold pf144 at h
 refine Con.go (N:=⟨21,[]⟩) Try.func144 q q q q (W.fin ?_)
 refine W.st [(0,U8 a0)] ?_
 refine W.sq'<|W.rx [(0,_)] (Vk q<|Fi (.n q .nil)) ?_
 refine Px.sq<|W.sq' ?_
 obtain ⟨c7,hj,h⟩:=bnd h
 refine W.rx [(2,BB c7)] ?_ ?_
 ·refine Vm q<|Rv (O.geq (.lit q) (.k q))<|Rv (O.mv (.lit q)) ?_
  rcases cnd hj with ⟨hb1,hj⟩ | ⟨hb1,hj⟩
  ·refine RunL.v (O.mv (.lit q)) q q (.yb q q hb1)<|RunL.v (O.leq (.lit q) (.k q)) q q (.yb q q hb1)<|Rv (O.pkT (.lit q) hb1 (.lit q))<|Rv (O.mv (.lit q)) ?_
   rcases cnd hj with ⟨hb2,hj⟩ | ⟨hb2,hj⟩
   ·obtain rfl:=sm hj
    exact RunL.ps q q hb2 q q<|RunL.ps q q hb2 q q<|RunL.ps q q hb2 q q<|RunL.pu q q q q<|RunL.pu q q q q<|RunL.ps q q hb2 q q<|Rv (O.pkT (.lit q) hb2 (.k q))<|Vm q<|RunL.ps q q q q q<|RunL.ps q q q q q<|Rv (O.pkT (.lit q) q (.k q))<|Va q<|Fi (.n q .nil)
   ·refine RunL.v (O.mv (.lit q)) q q (.yb q q hb2)<|RunL.v (O.geq (.lit q) (.k q)) q q (.yb q q hb2)<|RunL.v (O.mv (.lit q)) q q (.yb q q hb2) ?_
    rcases cnd hj with ⟨hb3,hj⟩ | ⟨hb3,hj⟩
    ·refine RunL.v (O.mv (.lit q)) q q (.yb q q hb3)<|RunL.v (O.leq (.lit q) (.k q)) q q (.yb q q hb3)<|RunL.v (O.pkT (.lit q) hb3 (.lit q)) q q (.yb q q hb2)<|Rv (O.pkF (.lit q) hb2 (.lit q))<|Rv (O.mv (.lit q)) ?_
     rcases cnd hj with ⟨hb4,hj⟩ | ⟨hb4,hj⟩
     ·obtain rfl:=sm hj
      exact RunL.ps q q hb4 q q<|RunL.ps q q hb4 q q<|Rv (O.pkT (.lit q) hb4 (.k q))<|Va q<|Fi (.n q .nil)
     ·obtain rfl:=sm hj
      exact RunL.v (O.mv (.lit q)) q q (.yb q q hb4)<|RunL.v (O.eql (.lit q) (.k q)) q q (.yb q q hb4)<|Rv (O.pkF (.lit q) hb4 (.lit q))<|Va q<|Fi (.n q .nil)
    ·obtain rfl:=sm hj
     exact RunL.ps q q hb3 q q<|RunL.ps q q hb3 q q<|RunL.v (O.pkF (.lit q) hb3 (.k q)) q q (.yb q q hb2)<|Rv (O.pkF (.lit q) hb2 (.lit q))<|Vm q<|RunL.v (O.mv (.lit q)) q q (.yb q q q)<|RunL.v (O.eql (.lit q) (.k q)) q q (.yb q q q)<|Rv (O.pkF (.lit q) q (.lit q))<|Va q<|Fi (.n q .nil)
  ·refine RunL.ps q q hb1 q q<|RunL.ps q q hb1 q q<|Rv (O.pkF (.lit q) hb1 (.k q))<|Vm q<|RunL.v (O.mv (.lit q)) q q (.yb q q q)<|RunL.v (O.geq (.lit q) (.k q)) q q (.yb q q q)<|RunL.v (O.mv (.lit q)) q q (.yb q q q) ?_
   rcases cnd hj with ⟨hb5,hj⟩ | ⟨hb5,hj⟩
   ·refine RunL.v (O.mv (.lit q)) q q (.yb q q hb5)<|RunL.v (O.leq (.lit q) (.k q)) q q (.yb q q hb5)<|RunL.v (O.pkT (.lit q) hb5 (.lit q)) q q (.yb q q q)<|Rv (O.pkF (.lit q) q (.lit q))<|Rv (O.mv (.lit q)) ?_
    rcases cnd hj with ⟨hb6,hj⟩ | ⟨hb6,hj⟩
    ·obtain rfl:=sm hj
     exact RunL.ps q q hb6 q q<|RunL.ps q q hb6 q q<|Rv (O.pkT (.lit q) hb6 (.k q))<|Va q<|Fi (.n q .nil)
    ·obtain rfl:=sm hj
     exact RunL.v (O.mv (.lit q)) q q (.yb q q hb6)<|RunL.v (O.eql (.lit q) (.k q)) q q (.yb q q hb6)<|Rv (O.pkF (.lit q) hb6 (.lit q))<|Va q<|Fi (.n q .nil)
   ·obtain rfl:=sm hj
    exact RunL.ps q q hb5 q q<|RunL.ps q q hb5 q q<|RunL.v (O.pkF (.lit q) hb5 (.k q)) q q (.yb q q q)<|Rv (O.pkF (.lit q) q (.lit q))<|Vm q<|RunL.v (O.mv (.lit q)) q q (.yb q q q)<|RunL.v (O.eql (.lit q) (.k q)) q q (.yb q q q)<|Rv (O.pkF (.lit q) q (.lit q))<|Va q<|Fi (.n q .nil)
 refine Px.sq<|W.rt ?_
 obtain rfl:=sm h
 exact Px.fin (Fin.ro (.f q q .nil) q (ode (by kernel_rfl)) (.no .nil) q (.inr q))
theorem con145 (a0:Int) (r:Bool) (h:pf145 a0=some r):Con Try.prog 145 [U8 a0] [none] (BB r):=by
 unfold pf145 at h
 refine Con.go (N:=⟨9,[]⟩) Try.func145 q q q q (W.fin ?_)
 refine W.st [(0,U8 a0)] ?_
 refine W.sq'<|W.rx [(0,_)] (Vk q<|Fi (.n q .nil)) ?_
 refine Px.sq<|W.sq' ?_
 obtain ⟨c2,hj,h⟩:=bnd h
 refine W.rx [(2,BB c2)] ?_ ?_
 ·refine Vm q<|Rv (O.geq (.lit q) (.k q))<|Rv (O.mv (.lit q)) ?_
  rcases cnd hj with ⟨hb1,hj⟩ | ⟨hb1,hj⟩
  ·obtain rfl:=sm hj
   exact RunL.v (O.mv (.lit q)) q q (.yb q q hb1)<|RunL.v (O.leq (.lit q) (.k q)) q q (.yb q q hb1)<|Rv (O.pkT (.lit q) hb1 (.lit q))<|Va q<|Fi (.n q .nil)
  ·obtain rfl:=sm hj
   exact RunL.ps q q hb1 q q<|RunL.ps q q hb1 q q<|Rv (O.pkF (.lit q) hb1 (.k q))<|Va q<|Fi (.n q .nil)
 refine Px.sq<|W.rt ?_
 obtain rfl:=sm h
 exact Px.fin (Fin.ro (.f q q .nil) q (ode (by kernel_rfl)) (.no .nil) q (.inr q))
theorem con132 (a0:ByteArray) (a1:Int) (r:Int) (h:pf132 a0 a1=some r):Con Try.prog 132 [SS a0,I64 a1] [none,none] (I64 r):=by
 unfold pf132 at h
 refine Con.go (N:=⟨43,[]⟩) Try.func132 q q q q (W.fin ?_)
 refine W.st [(0,SS a0),(1,I64 a1)] ?_
 refine W.sq'<|W.rx [(0,_),(1,_)] (Vk q<|Fi (tn2 q q)) ?_
 refine Px.sq<|W.sq' ?_
 refine W.rx [(0,_),(1,_),(5,_)] (Vk q<|Fi (tn3 q q q)) ?_
 refine Px.sq<|W.sq' ?_
 refine W.bk ?_
 obtain ⟨x2,hl,h⟩:=bnd h
 refine W.tr (G1:=[(0,_),(1,_),(5,_)]) (tn3 q q q) ?_
 refine W.lp1 (s:=0) (fun (s1:Int)=>[(0,SS a0),(1,I64 a1),(5,I64 s1)]) 0 (fun (x2:Int)=>[(5,I64 x2)]) hl (fun s1 o h=>?_) ?_
 ·clear hl
  refine W.sq'<|W.sq' ?_
  obtain ⟨c13,hj,h⟩:=bnd h
  refine W.rx [(0,SS a0),(1,I64 a1),(5,I64 s1),(39,BB c13)] ?_ ?_
  ·refine Vm q<|Vm q<|Rv (O.add (.lit q) (.lit q))<|Vm q<|Rv (O.lenS (.lit q) st9)<|Rv (O.lss (.lit q) (.lit q))<|Rv (O.mv (.lit q)) ?_
   rcases cnd hj with ⟨hb4,hj⟩ | ⟨hb4,hj⟩
   ·refine RunL.v (O.mv (.lit q)) q q (.yb q q hb4)<|RunL.v (O.mv (.lit q)) q q (.yb q q hb4)<|RunL.v (O.mv (.lit q)) q q (.yb q q hb4)<|RunL.v (O.add (.lit q) (.lit q)) q q (.yb q q hb4) ?_
    obtain ⟨x5,hx5,hj⟩:=bnd hj
    refine RunL.v (O.at' (.lit q) (.lit q) st9 hx5) q q (.yb q q hb4) ?_
    obtain ⟨x6,hx6,hj⟩:=bnd hj
    refine RunL.c (PC.go (.cc (.lit q) .nil) (con144 x5 _ hx6) call144 q) q q (.yb q q hb4)<|RunL.v (O.mv (.lit q)) q q (.yb q q hb4) ?_
    rcases cnd hj with ⟨hb7,hj⟩ | ⟨hb7,hj⟩
    ·obtain rfl:=sm hj
     exact RunL.ps q q hb7 q q<|RunL.ps q q hb7 q q<|RunL.ps q q hb7 q q<|RunL.pu q q q q<|RunL.pu q q q q<|RunL.pu q q q q<|RunL.pu q q q q<|RunL.pu q q q q<|RunL.pu q q q q<|RunL.pu q q q q<|RunL.pu q q q q<|RunL.pu q q q q<|RunL.pu q q q q<|RunL.pu q q q q<|RunL.pu q q q q<|RunL.pu q q q q<|RunL.pu q q q q<|RunL.ps q q hb7 q q<|RunL.v (O.pkT (.lit q) hb7 (.k q)) q q (.yb q q hb4)<|Rv (O.pkT (.lit q) hb4 (.lit q))<|Fi (tn4 q q q q)
    ·refine RunL.v (O.mv (.lit q)) q q (.yb q q hb7)<|RunL.v (O.gtr (.lit q) (.k q)) q q (.yb q q hb7)<|RunL.v (O.mv (.lit q)) q q (.yb q q hb7) ?_
     rcases cnd hj with ⟨hb8,hj⟩ | ⟨hb8,hj⟩
     ·refine RunL.v (O.mv (.lit q)) q q (.yb q q hb8)<|RunL.v (O.mv (.lit q)) q q (.yb q q hb8)<|RunL.v (O.mv (.lit q)) q q (.yb q q hb8)<|RunL.v (O.add (.lit q) (.lit q)) q q (.yb q q hb8) ?_
      obtain ⟨x9,hx9,hj⟩:=bnd hj
      refine RunL.v (O.at' (.lit q) (.lit q) st9 hx9) q q (.yb q q hb8) ?_
      obtain ⟨x10,hx10,hj⟩:=bnd hj
      refine RunL.c (PC.go (.cc (.lit q) .nil) (con145 x9 _ hx10) call145 q) q q (.yb q q hb8)<|RunL.v (O.mv (.lit q)) q q (.yb q q hb8) ?_
      rcases cnd hj with ⟨hb11,hj⟩ | ⟨hb11,hj⟩
      ·obtain rfl:=sm hj
       exact RunL.ps q q hb11 q q<|RunL.ps q q hb11 q q<|RunL.ps q q hb11 q q<|RunL.ps q q hb11 q q<|RunL.ps q q hb11 q q<|RunL.ps q q hb11 q q<|RunL.v (O.pkT (.lit q) hb11 (.k q)) q q (.yb q q hb8)<|RunL.v (O.pkT (.lit q) hb8 (.lit q)) q q (.yb q q hb7)<|RunL.v (O.pkF (.lit q) hb7 (.lit q)) q q (.yb q q hb4)<|Rv (O.pkT (.lit q) hb4 (.lit q))<|Fi (tn4 q q q q)
      ·refine RunL.v (O.mv (.lit q)) q q (.yb q q hb11)<|RunL.v (O.mv (.lit q)) q q (.yb q q hb11)<|RunL.v (O.mv (.lit q)) q q (.yb q q hb11)<|RunL.v (O.add (.lit q) (.lit q)) q q (.yb q q hb11) ?_
       obtain ⟨x12,hx12,hj⟩:=bnd hj
       obtain rfl:=sm hj
       exact RunL.v (O.at' (.lit q) (.lit q) st9 hx12) q q (.yb q q hb11)<|RunL.v (O.eql (.lit q) (.k q)) q q (.yb q q hb11)<|RunL.v (O.pkF (.lit q) hb11 (.lit q)) q q (.yb q q hb8)<|RunL.v (O.pkT (.lit q) hb8 (.lit q)) q q (.yb q q hb7)<|RunL.v (O.pkF (.lit q) hb7 (.lit q)) q q (.yb q q hb4)<|Rv (O.pkT (.lit q) hb4 (.lit q))<|Fi (tn4 q q q q)
     ·obtain rfl:=sm hj
      exact RunL.ps q q hb8 q q<|RunL.ps q q hb8 q q<|RunL.ps q q hb8 q q<|RunL.ps q q hb8 q q<|RunL.ps q q hb8 q q<|RunL.ps q q hb8 q q<|RunL.ps q q hb8 q q<|RunL.pu q q q q<|RunL.pu q q q q<|RunL.pu q q q q<|RunL.pu q q q q<|RunL.pu q q q q<|RunL.pu q q q q<|RunL.ps q q hb8 q q<|RunL.v (O.pkF (.lit q) hb8 (.k q)) q q (.yb q q hb7)<|RunL.v (O.pkF (.lit q) hb7 (.lit q)) q q (.yb q q hb4)<|Rv (O.pkT (.lit q) hb4 (.lit q))<|Fi (tn4 q q q q)
   ·obtain rfl:=sm hj
    exact RunL.ps q q hb4 q q<|RunL.ps q q hb4 q q<|RunL.ps q q hb4 q q<|RunL.ps q q hb4 q q<|RunL.ps q q hb4 q q<|RunL.ps q q hb4 q q<|RunL.ps q q hb4 q q<|RunL.pu q q q q<|RunL.pu q q q q<|RunL.pu q q q q<|RunL.pu q q q q<|RunL.pu q q q q<|RunL.pu q q q q<|RunL.pu q q q q<|RunL.pu q q q q<|RunL.pu q q q q<|RunL.pu q q q q<|RunL.pu q q q q<|RunL.pu q q q q<|RunL.pu q q q q<|RunL.pu q q q q<|RunL.pu q q q q<|RunL.pu q q q q<|RunL.pu q q q q<|RunL.pu q q q q<|RunL.ps q q hb4 q q<|Rv (O.pkF (.lit q) hb4 (.k q))<|Fi (tn4 q q q q)
  refine Px.sq<|W.cnd q (fun hb14=>?_) (fun hb14=>?_)
  ·replace h:=cndT hb14 h
   refine W.sk<|Px.sq ?_
   refine W.bk<|W.rx [(0,_),(1,_),(5,_)] (Vm q<|Rv (O.add (.lit q) (.k q))<|RunL.re (G1:=[(0,_),(1,_),(41,_)]) (tn3 q q q)<|Va q<|Fi (tn3 q q q)) ?_
   refine Px.bk ?_
   obtain rfl:=sm h
   exact Px.go (tn3 q q q)
  ·replace h:=cndF hb14 h
   refine W.xi ?_
   refine Px.sqE ?_
   obtain rfl:=sm h
   exact Px.x1 (.n q .nil)
 refine Px.bkH ?_
 refine Px.sq<|W.sq' ?_
 refine W.rx [(4,_)] (Vm q<|Va q<|Fi (.n q .nil)) ?_
 refine Px.sq<|W.rt ?_
 obtain rfl:=sm h
 exact Px.fin (Fin.ro (.f q q .nil) q (ode (by kernel_rfl)) (.no (.no .nil)) q (.inr q))
theorem con105 (a0:ByteArray) (r:Bool) (h:pf105 a0=some r):Con Try.prog 105 [SS a0] [none] (BB r):=by
 unfold pf105 at h
 refine Con.go (N:=⟨18,[]⟩) Try.func105 q q q q (W.fin ?_)
 refine W.st [(0,SS a0)] ?_
 refine W.sq'<|W.rx [(0,_)] (Vk q<|Fi (.n q .nil)) ?_
 refine Px.sq<|W.sq' ?_
 obtain ⟨c4,hj,h⟩:=bnd h
 refine W.rx [(2,BB c4)] ?_ ?_
 ·refine Vm q<|Rv (O.lenS (.lit q) st9)<|Rv (O.geq (.lit q) (.k q))<|Rv (O.mv (.lit q)) ?_
  rcases cnd hj with ⟨hb1,hj⟩ | ⟨hb1,hj⟩
  ·refine RunL.v (O.mv (.lit q)) q q (.yb q q hb1)<|RunL.v (O.lenS (.lit q) st9) q q (.yb q q hb1)<|RunL.v (O.leq (.lit q) (.k q)) q q (.yb q q hb1)<|Rv (O.pkT (.lit q) hb1 (.lit q))<|Rv (O.mv (.lit q)) ?_
   rcases cnd hj with ⟨hb2,hj⟩ | ⟨hb2,hj⟩
   ·refine RunL.v (O.mv (.lit q)) q q (.yb q q hb2) ?_
    obtain ⟨x3,hx3,hj⟩:=bnd hj
    obtain rfl:=sm hj
    exact RunL.c (PC.go (.cc (.lit q) (.cc (.k q) .nil)) (con132 a0 0 _ hx3) call132 q) q q (.yb q q hb2)<|RunL.v (O.mv (.lit q)) q q (.yb q q hb2)<|RunL.v (O.lenS (.lit q) st9) q q (.yb q q hb2)<|RunL.v (O.eql (.lit q) (.lit q)) q q (.yb q q hb2)<|Rv (O.pkT (.lit q) hb2 (.lit q))<|Va q<|Fi (.n q .nil)
   ·obtain rfl:=sm hj
    exact RunL.ps q q hb2 q q<|RunL.ps q q hb2 q q<|RunL.ps q q hb2 q q<|RunL.ps q q hb2 q q<|RunL.ps q q hb2 q q<|Rv (O.pkF (.lit q) hb2 (.k q))<|Va q<|Fi (.n q .nil)
  ·obtain rfl:=sm hj
   exact RunL.ps q q hb1 q q<|RunL.ps q q hb1 q q<|RunL.ps q q hb1 q q<|Rv (O.pkF (.lit q) hb1 (.k q))<|Vm q<|RunL.ps q q q q q<|RunL.ps q q q q q<|RunL.ps q q q q q<|RunL.ps q q q q q<|RunL.ps q q q q q<|Rv (O.pkF (.lit q) q (.k q))<|Va q<|Fi (.n q .nil)
 refine Px.sq<|W.rt ?_
 obtain rfl:=sm h
 exact Px.fin (Fin.ro (.f q q .nil) q (ode (by kernel_rfl)) (.no .nil) q (.inr q))
theorem con130 (a0:Int) (r:Int × Bool) (h:pf130 a0=some r):Con Try.prog 130 [U8 a0] [none] (.tup [U8 r.1,BB r.2]):=by
 unfold pf130 at h
 refine Con.go (N:=⟨21,[]⟩) Try.func130 q q q q (W.fin ?_)
 refine W.st [(0,U8 a0)] ?_
 refine W.sq'<|W.rx [(0,_)] (Vk q<|Vk q<|Fi (.n q .nil)) ?_
 refine Px.sq<|W.sq' ?_
 refine W.sq'<|W.rx [(0,_),(4,_)] (Vm q<|Fi (tn2 q q)) ?_
 refine Px.sq<|W.bk ?_
 refine W.sq'<|W.rx [(0,_),(4,_),(5,_)] (Rv (O.eql (.lit q) (.k q))<|Va q<|Fi (tn3 q q q)) ?_
 refine Px.sq<|W.cnd q (fun hb1=>?_) (fun hb1=>?_)
 ·replace h:=cndT hb1 h
  refine W.sq'<|W.rx [(2,_),(3,_)] (Vk q<|Vk q<|Fi (tn2 q q)) ?_
  refine Px.sq<|W.rt ?_
  refine Px.bkR ?_
  refine Px.sqR ?_
  obtain rfl:=sm h
  exact Px.fin (Fin.ro (.f q q (.f q q .nil)) q (ode (by kernel_rfl)) (.no .nil) q (.inr q))
 ·replace h:=cndF hb1 h
  refine W.sq'<|W.rx [(0,_),(4,_),(7,_)] (Rv (O.eql (.lit q) (.k q))<|Va q<|Fi (tn3 q q q)) ?_
  refine Px.sq<|W.cnd q (fun hb2=>?_) (fun hb2=>?_)
  ·replace h:=cndT hb2 h
   refine W.sq'<|W.rx [(2,_),(3,_)] (Vk q<|Vk q<|Fi (tn2 q q)) ?_
   refine Px.sq<|W.rt ?_
   refine Px.bkR ?_
   refine Px.sqR ?_
   obtain rfl:=sm h
   exact Px.fin (Fin.ro (.f q q (.f q q .nil)) q (ode (by kernel_rfl)) (.no .nil) q (.inr q))
  ·replace h:=cndF hb2 h
   refine W.sq'<|W.rx [(0,_),(4,_),(9,_)] (Rv (O.eql (.lit q) (.k q))<|Va q<|Fi (tn3 q q q)) ?_
   refine Px.sq<|W.cnd q (fun hb3=>?_) (fun hb3=>?_)
   ·replace h:=cndT hb3 h
    refine W.sq'<|W.rx [(2,_),(3,_)] (Vk q<|Vk q<|Fi (tn2 q q)) ?_
    refine Px.sq<|W.rt ?_
    refine Px.bkR ?_
    refine Px.sqR ?_
    obtain rfl:=sm h
    exact Px.fin (Fin.ro (.f q q (.f q q .nil)) q (ode (by kernel_rfl)) (.no .nil) q (.inr q))
   ·replace h:=cndF hb3 h
    refine W.sq'<|W.sq' ?_
    refine W.rx [(0,_),(4,_),(11,_)] (Rv (O.eql (.lit q) (.k q))<|Va q<|Fi (tn3 q q q)) ?_
    refine Px.sq ?_
    obtain ⟨j4,hj,h⟩:=bnd h
    refine W.jn [(0,U8 a0),(11,BB j4)] ?_ ?_
    ·clear h; have h:=hj; clear hj
     refine W.cnd q (fun hb5=>?_) (fun hb5=>?_)
     ·replace h:=cndT hb5 h
      refine W.sk ?_
      obtain rfl:=sm h
      exact Px.jn (tn2 q q)
     ·replace h:=cndF hb5 h
      refine W.rx [(0,_),(11,_)] (Rv (O.eql (.lit q) (.k q))<|RunL.re (G1:=[(0,_),(13,_)]) (tn2 q q)<|Va q<|Fi (tn2 q q)) ?_
      obtain rfl:=sm h
      exact Px.jn (tn2 q q)
    refine Px.sq<|W.cnd q (fun hb6=>?_) (fun hb6=>?_)
    ·replace h:=cndT hb6 h
     refine W.sq'<|W.rx [(2,_),(3,_)] (Vm q<|Va q<|Vk q<|Fi (tn2 q q)) ?_
     refine Px.sq<|W.rt ?_
     refine Px.bkR ?_
     refine Px.sqR ?_
     obtain rfl:=sm h
     exact Px.fin (Fin.ro (.f q q (.f q q .nil)) q (ode (by kernel_rfl)) (.no .nil) q (.inr q))
    ·replace h:=cndF hb6 h
     refine W.sk<|Px.bk ?_
     refine Px.sq<|W.sq' ?_
     obtain ⟨c8,hj,h⟩:=bnd h
     refine W.rx [(2,U8 c8.1),(3,BB c8.2)] ?_ ?_
     ·refine Vm q<|Rv (O.geq (.lit q) (.k q))<|Rv (O.mv (.lit q)) ?_
      rcases cnd hj with ⟨hb7,hj⟩ | ⟨hb7,hj⟩
      ·obtain rfl:=sm hj
       exact RunL.v (O.mv (.lit q)) q q (.yb q q hb7)<|RunL.v (O.leq (.lit q) (.k q)) q q (.yb q q hb7)<|Rv (O.pkT (.lit q) hb7 (.lit q))<|Vk q<|Va q<|Fi (tn2 q q)
      ·obtain rfl:=sm hj
       exact RunL.ps q q hb7 q q<|RunL.ps q q hb7 q q<|Rv (O.pkF (.lit q) hb7 (.k q))<|Vk q<|Va q<|Fi (tn2 q q)
     refine Px.sq<|W.rt ?_
     obtain rfl:=sm h
     exact Px.fin (Fin.ro (.f q q (.f q q .nil)) q (ode (by kernel_rfl)) (.no .nil) q (.inr q))
theorem con131 (a0:Sym) (a1:Bool) (a2:Bool) (r:Bool) (h:pf131 a0 a1 a2=some r):Con Try.prog 131 [.agg [SS a0.Name,BB a0.Lit,I64 a0.Num,I64 a0.At],BB a1,BB a2] [none,none,none] (BB r):=by
 unfold pf131 at h
 refine Con.go (N:=⟨53,[]⟩) Try.func131 q q q q (W.fin ?_)
 refine W.st [(0,.agg [SS a0.Name,BB a0.Lit,I64 a0.Num,I64 a0.At]),(1,BB a1),(2,BB a2)] ?_
 refine W.sq'<|W.rx [(1,_),(2,_),(3,_)] (Rv (O.box (.aggF q q) q)<|Vk q<|Fi (tn3 q q q)) ?_
 refine Px.sq<|W.sq' ?_
 refine W.sq'<|W.rx [(1,_),(2,_),(3,_),(10,_)] (Rv (O.fO q (.obj q) fd59_1 q)<|Rv (O.ldO (y:=BB a0.Lit) q (.ptr q) ct4 q q)<|Fi (tn4 q q q q)) ?_
 refine Px.sq<|W.cnd q (fun hb1=>?_) (fun hb1=>?_)
 ·replace h:=cndT hb1 h
  refine W.sq'<|W.sq' ?_
  obtain ⟨c4,hj,h⟩:=bnd h
  refine W.rx [(3,.obj [SS a0.Name,BB a0.Lit,I64 a0.Num,I64 a0.At]),(23,BB c4)] ?_ ?_
  ·refine Vm q<|Rv (O.not (.lit q))<|Rv (O.mv (.lit q)) ?_
   rcases cnd hj with ⟨hb2,hj⟩ | ⟨hb2,hj⟩
   ·obtain rfl:=sm hj
    exact RunL.ps q q hb2 q q<|RunL.ps q q hb2 q q<|RunL.ps q q hb2 q q<|RunL.ps q q hb2 q q<|Rv (O.pkT (.lit q) hb2 (.k q))<|Vm q<|RunL.ps q q q q q<|RunL.ps q q q q q<|RunL.ps q q q q q<|Rv (O.pkT (.lit q) q (.k q))<|Fi (tn2 q q)
   ·refine RunL.v (O.fO q (.obj q) fd59_0 q) q q (.yb q q hb2)<|RunL.v (O.ldO (y:=SS a0.Name) q (.ptr q) ct9 q q) q q (.yb q q hb2)<|RunL.v (O.lenS (.lit q) st9) q q (.yb q q hb2)<|RunL.v (O.neq (.lit q) (.k q)) q q (.yb q q hb2)<|Rv (O.pkF (.lit q) hb2 (.lit q))<|Rv (O.mv (.lit q)) ?_
    rcases cnd hj with ⟨hb3,hj⟩ | ⟨hb3,hj⟩
    ·obtain rfl:=sm hj
     exact RunL.ps q q hb3 q q<|RunL.ps q q hb3 q q<|RunL.ps q q hb3 q q<|Rv (O.pkT (.lit q) hb3 (.k q))<|Fi (tn2 q q)
    ·obtain rfl:=sm hj
     exact RunL.v (O.fO q (.obj q) fd59_2 q) q q (.yb q q hb3)<|RunL.v (O.ldO (y:=I64 a0.Num) q (.ptr q) ct3 q q) q q (.yb q q hb3)<|RunL.v (O.neq (.lit q) (.k q)) q q (.yb q q hb3)<|Rv (O.pkF (.lit q) hb3 (.lit q))<|Fi (tn2 q q)
  refine Px.sq<|W.cnd q (fun hb5=>?_) (fun hb5=>?_)
  ·replace h:=cndT hb5 h
   refine W.sq'<|W.rx [(6,_)] (Vk q<|Fi (.n q .nil)) ?_
   refine Px.sq<|W.rt ?_
   refine Px.sqR ?_
   refine Px.sqR ?_
   obtain rfl:=sm h
   exact Px.fin (Fin.ro (.f q q .nil) q (ode (by kernel_rfl)) (.no (.no (.no .nil))) q (.inr q))
  ·replace h:=cndF hb5 h
   refine W.sk<|Px.sq ?_
   refine W.sq' ?_
   obtain ⟨x6,hx6,h⟩:=bnd h
   obtain ⟨x7,hx7,h⟩:=bnd h
   refine W.rx [(8,_)] (Rv (O.fO q (.obj q) fd59_0 q)<|Rv (O.ldO (y:=SS a0.Name) q (.ptr q) ct9 q q)<|Rv (O.at' (.lit q) (.k q) st9 hx6)<|Rc (PC.go (.cc (.lit q) .nil) (con130 x6 _ hx7) call130 q)<|Rv (O.mv (.tupF q q))<|Rv (O.ex (y:=U8 x7.1) q q q)<|Rv (O.ex (y:=BB x7.2) q q q)<|Va q<|Va q<|Fi (.n q .nil)) ?_
   refine Px.sq<|W.sq' ?_
   refine W.rx [(6,_)] (Vm q<|Va q<|Fi (.n q .nil)) ?_
   refine Px.sq<|W.rt ?_
   refine Px.sqR ?_
   obtain rfl:=sm h
   exact Px.fin (Fin.ro (.f q q .nil) q (ode (by kernel_rfl)) (.no (.no (.no .nil))) q (.inr q))
 ·replace h:=cndF hb1 h
  refine W.sk<|Px.sq ?_
  refine W.sq' ?_
  obtain ⟨c13,hj,h⟩:=bnd h
  refine W.rx [(6,BB c13)] ?_ ?_
  ·refine Rv (O.fO q (.obj q) fd59_0 q)<|Rv (O.ldO (y:=SS a0.Name) q (.ptr q) ct9 q q) ?_
   obtain ⟨x8,hx8,hj⟩:=bnd hj
   refine Rc (PC.go (.cc (.lit q) .nil) (con105 a0.Name _ hx8) call105 q)<|Rv (O.mv (.lit q)) ?_
   rcases cnd hj with ⟨hb9,hj⟩ | ⟨hb9,hj⟩
   ·refine RunL.v (O.fO q (.obj q) fd59_2 q) q q (.yb q q hb9)<|RunL.v (O.ldO (y:=I64 a0.Num) q (.ptr q) ct3 q q) q q (.yb q q hb9)<|RunL.v (O.eql (.lit q) (.k q)) q q (.yb q q hb9)<|RunL.v (O.mv (.lit q)) q q (.yb q q hb9) ?_
    rcases cnd hj with ⟨hb10,hj⟩ | ⟨hb10,hj⟩
    ·obtain rfl:=sm hj
     exact RunL.ps q q hb10 q q<|RunL.ps q q hb10 q q<|RunL.pu q q q q<|RunL.pu q q q q<|RunL.pu q q q q<|RunL.ps q q hb10 q q<|RunL.ps q q hb10 q q<|RunL.pu q q q q<|RunL.pu q q q q<|RunL.pu q q q q<|RunL.ps q q hb10 q q<|RunL.v (O.pkT (.lit q) hb10 (.k q)) q q (.yb q q hb9)<|Rv (O.pkT (.lit q) hb9 (.lit q))<|Va q<|Fi (.n q .nil)
    ·refine RunL.v (O.mv (.lit q)) q q (.yb q q hb10)<|RunL.v (O.mv (.lit q)) q q (.yb q q hb10) ?_
     rcases cnd hj with ⟨hb11,hj⟩ | ⟨hb11,hj⟩
     ·refine RunL.v (O.fO q (.obj q) fd59_2 q) q q (.yb q q hb11)<|RunL.v (O.ldO (y:=I64 a0.Num) q (.ptr q) ct3 q q) q q (.yb q q hb11)<|RunL.v (O.geq (.lit q) (.k q)) q q (.yb q q hb11)<|RunL.v (O.pkT (.lit q) hb11 (.lit q)) q q (.yb q q hb10)<|RunL.v (O.mv (.lit q)) q q (.yb q q hb10) ?_
      rcases cnd hj with ⟨hb12,hj⟩ | ⟨hb12,hj⟩
      ·obtain rfl:=sm hj
       exact RunL.v (O.fO q (.obj q) fd59_2 q) q q (.yb q q hb12)<|RunL.v (O.ldO (y:=I64 a0.Num) q (.ptr q) ct3 q q) q q (.yb q q hb12)<|RunL.v (O.leq (.lit q) (.k q)) q q (.yb q q hb12)<|RunL.v (O.pkT (.lit q) hb12 (.lit q)) q q (.yb q q hb10)<|RunL.v (O.pkF (.lit q) hb10 (.lit q)) q q (.yb q q hb9)<|Rv (O.pkT (.lit q) hb9 (.lit q))<|Va q<|Fi (.n q .nil)
      ·obtain rfl:=sm hj
       exact RunL.ps q q hb12 q q<|RunL.ps q q hb12 q q<|RunL.ps q q hb12 q q<|RunL.v (O.pkF (.lit q) hb12 (.k q)) q q (.yb q q hb10)<|RunL.v (O.pkF (.lit q) hb10 (.lit q)) q q (.yb q q hb9)<|Rv (O.pkT (.lit q) hb9 (.lit q))<|Va q<|Fi (.n q .nil)
     ·obtain rfl:=sm hj
      exact RunL.ps q q hb11 q q<|RunL.ps q q hb11 q q<|RunL.ps q q hb11 q q<|RunL.v (O.pkF (.lit q) hb11 (.k q)) q q (.yb q q hb10)<|RunL.v (O.mv (.lit q)) q q (.yb q q hb10)<|RunL.ps q q q q q<|RunL.ps q q q q q<|RunL.ps q q q q q<|RunL.v (O.pkF (.lit q) q (.k q)) q q (.yb q q hb10)<|RunL.v (O.pkF (.lit q) hb10 (.lit q)) q q (.yb q q hb9)<|Rv (O.pkT (.lit q) hb9 (.lit q))<|Va q<|Fi (.n q .nil)
   ·obtain rfl:=sm hj
    exact RunL.ps q q hb9 q q<|RunL.ps q q hb9 q q<|RunL.ps q q hb9 q q<|RunL.ps q q hb9 q q<|RunL.pu q q q q<|RunL.pu q q q q<|RunL.pu q q q q<|RunL.pu q q q q<|RunL.pu q q q q<|RunL.pu q q q q<|RunL.pu q q q q<|RunL.pu q q q q<|RunL.pu q q q q<|RunL.pu q q q q<|RunL.pu q q q q<|RunL.ps q q hb9 q q<|Rv (O.pkF (.lit q) hb9 (.k q))<|Va q<|Fi (.n q .nil)
  refine Px.sq<|W.rt ?_
  obtain rfl:=sm h
  exact Px.fin (Fin.ro (.f q q .nil) q (ode (by kernel_rfl)) (.no (.no (.no .nil))) q (.inr q))
theorem con104 (a0:Decl) (r:Bool) (h:pf104 a0=some r):Con Try.prog 104 [.agg [I64 a0.Kind,SS a0.Tag,iR eSym a0.Syms,I64 a0.At]] [none] (BB r):=by
 unfold pf104 at h
 refine Con.go (N:=⟨75,[]⟩) Try.func104 q q q q (W.fin ?_)
 refine W.st [(0,.agg [I64 a0.Kind,SS a0.Tag,iR eSym a0.Syms,I64 a0.At])] ?_
 refine W.sq'<|W.rx [(1,_)] (Rv (O.box (.aggF q q) q)<|Vk q<|Fi (.n q .nil)) ?_
 refine Px.sq<|W.sq' ?_
 refine W.sq' ?_
 obtain ⟨c15,hj,h⟩:=bnd h
 refine W.rx [(1,.obj [I64 a0.Kind,SS a0.Tag,iR eSym a0.Syms,I64 a0.At]),(54,BB c15)] ?_ ?_
 ·refine Rv (O.fO q (.obj q) fd55_0 q)<|Rv (O.ldO (y:=I64 a0.Kind) q (.ptr q) ct3 q q)<|Rv (O.lss (.lit q) (.k q))<|Rv (O.mv (.lit q)) ?_
  rcases cnd hj with ⟨hb1,hj⟩ | ⟨hb1,hj⟩
  ·obtain rfl:=sm hj
   exact RunL.ps q q hb1 q q<|RunL.ps q q hb1 q q<|RunL.ps q q hb1 q q<|Rv (O.pkT (.lit q) hb1 (.k q))<|Vm q<|RunL.ps q q q q q<|RunL.ps q q q q q<|RunL.ps q q q q q<|RunL.ps q q q q q<|Rv (O.pkT (.lit q) q (.k q))<|Vm q<|RunL.ps q q q q q<|RunL.ps q q q q q<|RunL.ps q q q q q<|RunL.ps q q q q q<|RunL.pu q q q q<|RunL.pu q q q q<|RunL.pu q q q q<|RunL.pu q q q q<|RunL.pu q q q q<|RunL.pu q q q q<|RunL.pu q q q q<|RunL.pu q q q q<|RunL.pu q q q q<|RunL.ps q q q q q<|Rv (O.pkT (.lit q) q (.k q))<|Vm q<|RunL.ps q q q q q<|RunL.ps q q q q q<|RunL.ps q q q q q<|RunL.ps q q q q q<|RunL.pu q q q q<|RunL.pu q q q q<|RunL.pu q q q q<|RunL.ps q q q q q<|Rv (O.pkT (.lit q) q (.k q))<|Vm q<|RunL.ps q q q q q<|RunL.ps q q q q q<|RunL.ps q q q q q<|RunL.ps q q q q q<|RunL.pu q q q q<|RunL.pu q q q q<|RunL.pu q q q q<|RunL.pu q q q q<|RunL.ps q q q q q<|Rv (O.pkT (.lit q) q (.k q))<|Fi (tn2 q q)
  ·refine RunL.v (O.fO q (.obj q) fd55_0 q) q q (.yb q q hb1)<|RunL.v (O.ldO (y:=I64 a0.Kind) q (.ptr q) ct3 q q) q q (.yb q q hb1)<|RunL.v (O.gtr (.lit q) (.k q)) q q (.yb q q hb1)<|Rv (O.pkF (.lit q) hb1 (.lit q))<|Rv (O.mv (.lit q)) ?_
   rcases cnd hj with ⟨hb2,hj⟩ | ⟨hb2,hj⟩
   ·obtain rfl:=sm hj
    exact RunL.ps q q hb2 q q<|RunL.ps q q hb2 q q<|RunL.ps q q hb2 q q<|RunL.ps q q hb2 q q<|Rv (O.pkT (.lit q) hb2 (.k q))<|Vm q<|RunL.ps q q q q q<|RunL.ps q q q q q<|RunL.ps q q q q q<|RunL.ps q q q q q<|RunL.pu q q q q<|RunL.pu q q q q<|RunL.pu q q q q<|RunL.pu q q q q<|RunL.pu q q q q<|RunL.pu q q q q<|RunL.pu q q q q<|RunL.pu q q q q<|RunL.pu q q q q<|RunL.ps q q q q q<|Rv (O.pkT (.lit q) q (.k q))<|Vm q<|RunL.ps q q q q q<|RunL.ps q q q q q<|RunL.ps q q q q q<|RunL.ps q q q q q<|RunL.pu q q q q<|RunL.pu q q q q<|RunL.pu q q q q<|RunL.ps q q q q q<|Rv (O.pkT (.lit q) q (.k q))<|Vm q<|RunL.ps q q q q q<|RunL.ps q q q q q<|RunL.ps q q q q q<|RunL.ps q q q q q<|RunL.pu q q q q<|RunL.pu q q q q<|RunL.pu q q q q<|RunL.pu q q q q<|RunL.ps q q q q q<|Rv (O.pkT (.lit q) q (.k q))<|Fi (tn2 q q)
   ·refine RunL.v (O.fO q (.obj q) fd55_2 q) q q (.yb q q hb2)<|RunL.v (O.ldO (y:=iR eSym a0.Syms) q (.ptr q) ct53 q q) q q (.yb q q hb2)<|RunL.v (O.lenI (.imm q) sl53) q q (.yb q q hb2)<|RunL.v (O.eql (.lit q) (.k q)) q q (.yb q q hb2)<|Rv (O.pkF (.lit q) hb2 (.lit q))<|Rv (O.mv (.lit q)) ?_
    rcases cnd hj with ⟨hb3,hj⟩ | ⟨hb3,hj⟩
    ·obtain rfl:=sm hj
     exact RunL.ps q q hb3 q q<|RunL.ps q q hb3 q q<|RunL.ps q q hb3 q q<|RunL.ps q q hb3 q q<|RunL.pu q q q q<|RunL.pu q q q q<|RunL.pu q q q q<|RunL.pu q q q q<|RunL.pu q q q q<|RunL.pu q q q q<|RunL.pu q q q q<|RunL.pu q q q q<|RunL.pu q q q q<|RunL.ps q q hb3 q q<|Rv (O.pkT (.lit q) hb3 (.k q))<|Vm q<|RunL.ps q q q q q<|RunL.ps q q q q q<|RunL.ps q q q q q<|RunL.ps q q q q q<|RunL.pu q q q q<|RunL.pu q q q q<|RunL.pu q q q q<|RunL.ps q q q q q<|Rv (O.pkT (.lit q) q (.k q))<|Vm q<|RunL.ps q q q q q<|RunL.ps q q q q q<|RunL.ps q q q q q<|RunL.ps q q q q q<|RunL.pu q q q q<|RunL.pu q q q q<|RunL.pu q q q q<|RunL.pu q q q q<|RunL.ps q q q q q<|Rv (O.pkT (.lit q) q (.k q))<|Fi (tn2 q q)
    ·refine RunL.v (O.fO q (.obj q) fd55_0 q) q q (.yb q q hb3)<|RunL.v (O.ldO (y:=I64 a0.Kind) q (.ptr q) ct3 q q) q q (.yb q q hb3)<|RunL.v (O.eql (.lit q) (.k q)) q q (.yb q q hb3)<|RunL.v (O.mv (.lit q)) q q (.yb q q hb3) ?_
     rcases cnd hj with ⟨hb4,hj⟩ | ⟨hb4,hj⟩
     ·refine RunL.v (O.fO q (.obj q) fd55_2 q) q q (.yb q q hb4)<|RunL.v (O.ldO (y:=iR eSym a0.Syms) q (.ptr q) ct53 q q) q q (.yb q q hb4)<|RunL.v (O.lenI (.imm q) sl53) q q (.yb q q hb4)<|RunL.v (O.neq (.lit q) (.k q)) q q (.yb q q hb4)<|RunL.v (O.mv (.lit q)) q q (.yb q q hb4) ?_
      rcases cnd hj with ⟨hb5,hj⟩ | ⟨hb5,hj⟩
      ·obtain rfl:=sm hj
       exact RunL.ps q q hb5 q q<|RunL.ps q q hb5 q q<|RunL.ps q q hb5 q q<|RunL.v (O.pkT (.lit q) hb5 (.k q)) q q (.yb q q hb4)<|RunL.v (O.pkT (.lit q) hb4 (.lit q)) q q (.yb q q hb3)<|Rv (O.pkF (.lit q) hb3 (.lit q))<|Vm q<|RunL.ps q q q q q<|RunL.ps q q q q q<|RunL.ps q q q q q<|RunL.ps q q q q q<|RunL.pu q q q q<|RunL.pu q q q q<|RunL.pu q q q q<|RunL.ps q q q q q<|Rv (O.pkT (.lit q) q (.k q))<|Vm q<|RunL.ps q q q q q<|RunL.ps q q q q q<|RunL.ps q q q q q<|RunL.ps q q q q q<|RunL.pu q q q q<|RunL.pu q q q q<|RunL.pu q q q q<|RunL.pu q q q q<|RunL.ps q q q q q<|Rv (O.pkT (.lit q) q (.k q))<|Fi (tn2 q q)
      ·refine RunL.v (O.fO q (.obj q) fd55_1 q) q q (.yb q q hb5)<|RunL.v (O.ldO (y:=SS a0.Tag) q (.ptr q) ct9 q q) q q (.yb q q hb5)<|RunL.v (O.neS (.lit q) (.k q)) q q (.yb q q hb5)<|RunL.v (O.pkF (.lit q) hb5 (.lit q)) q q (.yb q q hb4)<|RunL.v (O.pkT (.lit q) hb4 (.lit q)) q q (.yb q q hb3)<|Rv (O.pkF (.lit q) hb3 (.lit q))<|Rv (O.mv (.lit q)) ?_
       rcases cnd hj with ⟨hb6,hj⟩ | ⟨hb6,hj⟩
       ·obtain rfl:=sm hj
        exact RunL.ps q q hb6 q q<|RunL.ps q q hb6 q q<|RunL.ps q q hb6 q q<|RunL.ps q q hb6 q q<|RunL.pu q q q q<|RunL.pu q q q q<|RunL.pu q q q q<|RunL.ps q q hb6 q q<|Rv (O.pkT (.lit q) hb6 (.k q))<|Vm q<|RunL.ps q q q q q<|RunL.ps q q q q q<|RunL.ps q q q q q<|RunL.ps q q q q q<|RunL.pu q q q q<|RunL.pu q q q q<|RunL.pu q q q q<|RunL.pu q q q q<|RunL.ps q q q q q<|Rv (O.pkT (.lit q) q (.k q))<|Fi (tn2 q q)
       ·refine RunL.v (O.fO q (.obj q) fd55_0 q) q q (.yb q q hb6)<|RunL.v (O.ldO (y:=I64 a0.Kind) q (.ptr q) ct3 q q) q q (.yb q q hb6)<|RunL.v (O.eql (.lit q) (.k q)) q q (.yb q q hb6)<|RunL.v (O.mv (.lit q)) q q (.yb q q hb6) ?_
        rcases cnd hj with ⟨hb7,hj⟩ | ⟨hb7,hj⟩
        ·refine RunL.v (O.fO q (.obj q) fd55_1 q) q q (.yb q q hb7)<|RunL.v (O.ldO (y:=SS a0.Tag) q (.ptr q) ct9 q q) q q (.yb q q hb7)<|RunL.v (O.eqS (.lit q) (.k q)) q q (.yb q q hb7)<|RunL.v (O.pkT (.lit q) hb7 (.lit q)) q q (.yb q q hb6)<|Rv (O.pkF (.lit q) hb6 (.lit q))<|Rv (O.mv (.lit q)) ?_
         rcases cnd hj with ⟨hb8,hj⟩ | ⟨hb8,hj⟩
         ·obtain rfl:=sm hj
          exact RunL.ps q q hb8 q q<|RunL.ps q q hb8 q q<|RunL.ps q q hb8 q q<|RunL.ps q q hb8 q q<|RunL.pu q q q q<|RunL.pu q q q q<|RunL.pu q q q q<|RunL.pu q q q q<|RunL.ps q q hb8 q q<|Rv (O.pkT (.lit q) hb8 (.k q))<|Fi (tn2 q q)
         ·obtain rfl:=sm hj
          exact RunL.v (O.fO q (.obj q) fd55_1 q) q q (.yb q q hb8)<|RunL.v (O.ldO (y:=SS a0.Tag) q (.ptr q) ct9 q q) q q (.yb q q hb8)<|RunL.v (O.neS (.lit q) (.k q)) q q (.yb q q hb8)<|RunL.v (O.mv (.lit q)) q q (.yb q q hb8)<|RunL.ps q q hb6 q q<|RunL.ps q q hb6 q q<|RunL.ps q q hb6 q q<|RunL.ps q q hb6 q q<|RunL.v (O.pkF (.lit q) hb6 (.k q)) q q (.yb q q hb8)<|Rv (O.pkF (.lit q) hb8 (.lit q))<|Fi (tn2 q q)
        ·obtain rfl:=sm hj
         exact RunL.ps q q hb7 q q<|RunL.ps q q hb7 q q<|RunL.ps q q hb7 q q<|RunL.v (O.pkF (.lit q) hb7 (.k q)) q q (.yb q q hb6)<|Rv (O.pkF (.lit q) hb6 (.lit q))<|Vm q<|RunL.v (O.fO q (.obj q) fd55_1 q) q q (.yb q q q)<|RunL.v (O.ldO (y:=SS a0.Tag) q (.ptr q) ct9 q q) q q (.yb q q q)<|RunL.v (O.neS (.lit q) (.k q)) q q (.yb q q q)<|RunL.v (O.mv (.lit q)) q q (.yb q q q)<|RunL.ps q q hb6 q q<|RunL.ps q q hb6 q q<|RunL.ps q q hb6 q q<|RunL.ps q q hb6 q q<|RunL.v (O.pkF (.lit q) hb6 (.k q)) q q (.yb q q q)<|Rv (O.pkF (.lit q) q (.lit q))<|Fi (tn2 q q)
     ·refine RunL.ps q q hb4 q q<|RunL.ps q q hb4 q q<|RunL.ps q q hb4 q q<|RunL.ps q q hb4 q q<|RunL.ps q q hb4 q q<|RunL.pu q q q q<|RunL.pu q q q q<|RunL.pu q q q q<|RunL.ps q q hb4 q q<|RunL.v (O.pkF (.lit q) hb4 (.k q)) q q (.yb q q hb3)<|Rv (O.pkF (.lit q) hb3 (.lit q))<|Vm q<|RunL.v (O.fO q (.obj q) fd55_0 q) q q (.yb q q q)<|RunL.v (O.ldO (y:=I64 a0.Kind) q (.ptr q) ct3 q q) q q (.yb q q q)<|RunL.v (O.eql (.lit q) (.k q)) q q (.yb q q q)<|RunL.v (O.mv (.lit q)) q q (.yb q q q) ?_
      rcases cnd hj with ⟨hb9,hj⟩ | ⟨hb9,hj⟩
      ·refine RunL.v (O.fO q (.obj q) fd55_1 q) q q (.yb q q hb9)<|RunL.v (O.ldO (y:=SS a0.Tag) q (.ptr q) ct9 q q) q q (.yb q q hb9)<|RunL.v (O.eqS (.lit q) (.k q)) q q (.yb q q hb9)<|RunL.v (O.pkT (.lit q) hb9 (.lit q)) q q (.yb q q q)<|Rv (O.pkF (.lit q) q (.lit q))<|Rv (O.mv (.lit q)) ?_
       rcases cnd hj with ⟨hb10,hj⟩ | ⟨hb10,hj⟩
       ·obtain rfl:=sm hj
        exact RunL.ps q q hb10 q q<|RunL.ps q q hb10 q q<|RunL.ps q q hb10 q q<|RunL.ps q q hb10 q q<|RunL.pu q q q q<|RunL.pu q q q q<|RunL.pu q q q q<|RunL.pu q q q q<|RunL.ps q q hb10 q q<|Rv (O.pkT (.lit q) hb10 (.k q))<|Fi (tn2 q q)
       ·refine RunL.v (O.fO q (.obj q) fd55_1 q) q q (.yb q q hb10)<|RunL.v (O.ldO (y:=SS a0.Tag) q (.ptr q) ct9 q q) q q (.yb q q hb10)<|RunL.v (O.neS (.lit q) (.k q)) q q (.yb q q hb10)<|RunL.v (O.mv (.lit q)) q q (.yb q q hb10) ?_
        rcases cnd hj with ⟨hb11,hj⟩ | ⟨hb11,hj⟩
        ·refine RunL.v (O.fO q (.obj q) fd55_1 q) q q (.yb q q hb11)<|RunL.v (O.ldO (y:=SS a0.Tag) q (.ptr q) ct9 q q) q q (.yb q q hb11) ?_
         obtain ⟨x12,hx12,hj⟩:=bnd hj
         obtain rfl:=sm hj
         exact RunL.c (PC.go (.cc (.lit q) .nil) (con105 a0.Tag _ hx12) call105 q) q q (.yb q q hb11)<|RunL.v (O.not (.lit q)) q q (.yb q q hb11)<|RunL.v (O.pkT (.lit q) hb11 (.lit q)) q q (.yb q q hb10)<|Rv (O.pkF (.lit q) hb10 (.lit q))<|Fi (tn2 q q)
        ·obtain rfl:=sm hj
         exact RunL.ps q q hb11 q q<|RunL.ps q q hb11 q q<|RunL.ps q q hb11 q q<|RunL.ps q q hb11 q q<|RunL.v (O.pkF (.lit q) hb11 (.k q)) q q (.yb q q hb10)<|Rv (O.pkF (.lit q) hb10 (.lit q))<|Fi (tn2 q q)
      ·refine RunL.ps q q hb9 q q<|RunL.ps q q hb9 q q<|RunL.ps q q hb9 q q<|RunL.v (O.pkF (.lit q) hb9 (.k q)) q q (.yb q q q)<|Rv (O.pkF (.lit q) q (.lit q))<|Vm q<|RunL.v (O.fO q (.obj q) fd55_1 q) q q (.yb q q q)<|RunL.v (O.ldO (y:=SS a0.Tag) q (.ptr q) ct9 q q) q q (.yb q q q)<|RunL.v (O.neS (.lit q) (.k q)) q q (.yb q q q)<|RunL.v (O.mv (.lit q)) q q (.yb q q q) ?_
       rcases cnd hj with ⟨hb13,hj⟩ | ⟨hb13,hj⟩
       ·refine RunL.v (O.fO q (.obj q) fd55_1 q) q q (.yb q q hb13)<|RunL.v (O.ldO (y:=SS a0.Tag) q (.ptr q) ct9 q q) q q (.yb q q hb13) ?_
        obtain ⟨x14,hx14,hj⟩:=bnd hj
        obtain rfl:=sm hj
        exact RunL.c (PC.go (.cc (.lit q) .nil) (con105 a0.Tag _ hx14) call105 q) q q (.yb q q hb13)<|RunL.v (O.not (.lit q)) q q (.yb q q hb13)<|RunL.v (O.pkT (.lit q) hb13 (.lit q)) q q (.yb q q q)<|Rv (O.pkF (.lit q) q (.lit q))<|Fi (tn2 q q)
       ·obtain rfl:=sm hj
        exact RunL.ps q q hb13 q q<|RunL.ps q q hb13 q q<|RunL.ps q q hb13 q q<|RunL.ps q q hb13 q q<|RunL.v (O.pkF (.lit q) hb13 (.k q)) q q (.yb q q q)<|Rv (O.pkF (.lit q) q (.lit q))<|Fi (tn2 q q)
 refine Px.sq<|W.cnd q (fun hb16=>?_) (fun hb16=>?_)
 ·replace h:=cndT hb16 h
  refine W.sq'<|W.rx [(2,_)] (Vk q<|Fi (.n q .nil)) ?_
  refine Px.sq<|W.rt ?_
  refine Px.sqR ?_
  obtain rfl:=sm h
  exact Px.fin (Fin.ro (.f q q .nil) q (ode (by kernel_rfl)) (.no .nil) q (.inr q))
 ·replace h:=cndF hb16 h
  refine W.sk<|Px.sq ?_
  refine W.sq'<|W.sq' ?_
  refine W.rx [(1,_),(3,_)] (Vk q<|Fi (tn2 q q)) ?_
  refine Px.sq<|W.bk ?_
  obtain ⟨x18,hl,h⟩:=bnd h
  refine W.tr (G1:=[(1,_),(3,_)]) (tn2 q q) ?_
  refine W.lp2 (s:=0) (fun (s17:Int)=>[(1,.obj [I64 a0.Kind,SS a0.Tag,iR eSym a0.Syms,I64 a0.At]),(3,I64 s17)]) 0 (fun (x19:Unit)=>[]) (fun (x20:Bool)=>[(2,BB x20)]) hl (fun s17 o h=>?_) (fun x19 hx=>?_) (fun x20 hx=>?_)
  ·clear hl
   refine W.sq'<|W.sq' ?_
   refine W.rx [(1,_),(3,_),(59,_)] (Vm q<|Rv (O.fO q (.obj q) fd55_2 q)<|Rv (O.ldO (y:=iR eSym a0.Syms) q (.ptr q) ct53 q q)<|Rv (O.lenI (.imm q) sl53)<|Rv (O.lss (.lit q) (.lit q))<|Fi (tn3 q q q)) ?_
   refine Px.sq<|W.cnd q (fun hb21=>?_) (fun hb21=>?_)
   ·replace h:=cndT hb21 h
    refine W.sk<|Px.sq ?_
    refine W.sq'<|W.bk ?_
    refine W.sq' ?_
    obtain ⟨x22,hx22,h⟩:=bnd h
    obtain ⟨x23,hx23,h⟩:=bnd h
    refine W.rd [[],[0],[],[0,1,2],[0,1,2,3],[],[5],[5,6],[],[8],[8,9],rn 0 11 [],rn 0 12 []] [(1,_),(3,_),(74,_)] mixo (by kernel_rfl) (Dv 0 (O.fO q (.obj q) fd55_2 q)<|Dv 1 (O.ldO (y:=iR eSym a0.Syms) q (.ptr q) ct53 q q)<|Dv 2 (O.mv (.lit q))<|Dv 3 (O.ixI (.imm q) (.lit q) sl53 hx22)<|Dv 4 (O.ldIN (cs':=[SS x22.Name,BB x22.Lit,I64 x22.Num,I64 x22.At]) (.iptr q) at59 q q)<|Dv 5 (O.fO q (.obj q) fd55_0 q)<|Dv 6 (O.ldO (y:=I64 a0.Kind) q (.ptr q) ct3 q q)<|Dv 7 (O.eql (.lit q) (.k q))<|Dv 8 (O.fO q (.obj q) fd55_0 q)<|Dv 9 (O.ldO (y:=I64 a0.Kind) q (.ptr q) ct3 q q)<|Dv 10 (O.lss (.lit q) (.k q))<|Dc 11 (PC.go (.cc (.aggF q q) (.cc (.lit q) (.cc (.lit q) .nil))) (con131 x22 (decide (a0.Kind=1)) (decide (a0.Kind<5)) _ hx23) call131 q)<|Dv 12 (O.not (.lit q))<|DL.fin q q q (tn3 q q q)) ?_
    refine Px.sq<|W.cnd q (fun hb24=>?_) (fun hb24=>?_)
    ·replace h:=cndT hb24 h
     refine W.sq'<|W.rx [(2,_)] (Vk q<|Fi (.n q .nil)) ?_
     refine Px.sq<|W.rt ?_
     refine Px.bkR ?_
     refine Px.sqR ?_
     obtain rfl:=sm h
     exact Px.r2 (.n q .nil)
    ·replace h:=cndF hb24 h
     refine W.sk<|Px.bk ?_
     refine Px.sq<|W.rx [(1,_),(3,_)] (Vm q<|Rv (O.add (.lit q) (.k q))<|RunL.re (G1:=[(1,_),(61,_)]) (tn2 q q)<|Va q<|Fi (tn2 q q)) ?_
     obtain rfl:=sm h
     exact Px.go (tn2 q q)
   ·replace h:=cndF hb21 h
    refine W.xi ?_
    refine Px.sqE ?_
    obtain rfl:=sm h
    exact Px.x2 .nil
  ·subst hx
   refine Px.bkH ?_
   refine Px.sq<|W.sq' ?_
   refine W.rx [(2,_)] (Vk q<|Fi (.n q .nil)) ?_
   refine Px.sq<|W.rt ?_
   obtain rfl:=sm h
   exact Px.fin (Fin.ro (.f q q .nil) q (ode (by kernel_rfl)) (.no .nil) q (.inr q))
  ·subst hx
   refine Px.bkR ?_
   refine Px.sqR ?_
   obtain rfl:=sm h
   exact Px.fin (Fin.ro (.f q q .nil) q (ode (by kernel_rfl)) (.no .nil) q (.inr q))
theorem con133 (a0:Sym) (r:Bool) (h:pf133 a0=some r):Con Try.prog 133 [.agg (eSym.cells a0)] [none] (BB r):=by
 unfold pf133 at h
 refine Con.go (N:=⟨16,[]⟩) Try.func133 q q q q (W.fin ?_)
 refine W.st [(0,.agg (eSym.cells a0))] ?_
 refine W.sq'<|W.rx [(1,_)] (Rv (O.box (.aggF q q) q)<|Vk q<|Fi (.n q .nil)) ?_
 refine Px.sq<|W.sq' ?_
 obtain ⟨c3,hj,h⟩:=bnd h
 refine W.rx [(2,BB c3)] ?_ ?_
 ·refine Rv (O.fO q (.obj q) fd59_0 q)<|Rv (O.ldO (y:=SS a0.Name) q (.ptr q) ct9 q q)<|Rv (O.eqS (.lit q) (.k q))<|Rv (O.mv (.lit q)) ?_
  rcases cnd hj with ⟨hb1,hj⟩ | ⟨hb1,hj⟩
  ·refine RunL.v (O.fO q (.obj q) fd59_1 q) q q (.yb q q hb1)<|RunL.v (O.ldO (y:=BB a0.Lit) q (.ptr q) ct4 q q) q q (.yb q q hb1)<|RunL.v (O.not (.lit q)) q q (.yb q q hb1)<|Rv (O.pkT (.lit q) hb1 (.lit q))<|Rv (O.mv (.lit q)) ?_
   rcases cnd hj with ⟨hb2,hj⟩ | ⟨hb2,hj⟩
   ·obtain rfl:=sm hj
    exact RunL.v (O.fO q (.obj q) fd59_2 q) q q (.yb q q hb2)<|RunL.v (O.ldO (y:=I64 a0.Num) q (.ptr q) ct3 q q) q q (.yb q q hb2)<|RunL.v (O.eql (.lit q) (.k q)) q q (.yb q q hb2)<|Rv (O.pkT (.lit q) hb2 (.lit q))<|Va q<|Fi (.n q .nil)
   ·obtain rfl:=sm hj
    exact RunL.ps q q hb2 q q<|RunL.ps q q hb2 q q<|RunL.ps q q hb2 q q<|Rv (O.pkF (.lit q) hb2 (.k q))<|Va q<|Fi (.n q .nil)
  ·obtain rfl:=sm hj
   exact RunL.ps q q hb1 q q<|RunL.ps q q hb1 q q<|RunL.ps q q hb1 q q<|Rv (O.pkF (.lit q) hb1 (.k q))<|Vm q<|RunL.ps q q q q q<|RunL.ps q q q q q<|RunL.ps q q q q q<|Rv (O.pkF (.lit q) q (.k q))<|Va q<|Fi (.n q .nil)
 refine Px.sq<|W.rt ?_
 obtain rfl:=sm h
 exact Px.fin (Fin.ro (.f q q .nil) q (ode (by kernel_rfl)) (.no .nil) q (.inr q))
theorem con150 (a0:ByteArray) (a1:Int) (a2:ByteArray) (r:Bool) (h:pf150 a0 a1 a2=some r):Con Try.prog 150 [SS a0,I64 a1,SS a2] [none,none,none] (BB r):=by
 unfold pf150 at h
 refine Con.go (N:=⟨25,[]⟩) Try.func150 q q q q (W.fin ?_)
 refine W.st [(0,SS a0),(1,I64 a1),(2,SS a2)] ?_
 refine W.sq'<|W.rx [(0,_),(1,_),(2,_)] (Vk q<|Fi (tn3 q q q)) ?_
 refine Px.sq<|W.sq' ?_
 obtain ⟨c3,hj,h⟩:=bnd h
 refine W.rx [(6,BB c3)] ?_ ?_
 ·refine Vm q<|Rv (O.lenS (.lit q) st9)<|Vm q<|Rv (O.sub (.lit q) (.lit q))<|Vm q<|Rv (O.lenS (.lit q) st9)<|Rv (O.geq (.lit q) (.lit q))<|Rv (O.mv (.lit q)) ?_
  rcases cnd hj with ⟨hb1,hj⟩ | ⟨hb1,hj⟩
  ·refine RunL.v (O.mv (.lit q)) q q (.yb q q hb1)<|RunL.v (O.mv (.lit q)) q q (.yb q q hb1)<|RunL.v (O.mv (.lit q)) q q (.yb q q hb1)<|RunL.v (O.mv (.lit q)) q q (.yb q q hb1)<|RunL.v (O.lenS (.lit q) st9) q q (.yb q q hb1)<|RunL.v (O.add (.lit q) (.lit q)) q q (.yb q q hb1) ?_
   obtain ⟨x2,hx2,hj⟩:=bnd hj
   obtain rfl:=sm hj
   exact RunL.v (O.sl (.lit q) (.lit q) (.lit q) st9 hx2) q q (.yb q q hb1)<|RunL.v (O.mv (.lit q)) q q (.yb q q hb1)<|RunL.v (O.eqS (.lit q) (.lit q)) q q (.yb q q hb1)<|Rv (O.pkT (.lit q) hb1 (.lit q))<|Va q<|Fi (.n q .nil)
  ·obtain rfl:=sm hj
   exact RunL.ps q q hb1 q q<|RunL.ps q q hb1 q q<|RunL.ps q q hb1 q q<|RunL.ps q q hb1 q q<|RunL.ps q q hb1 q q<|RunL.ps q q hb1 q q<|RunL.ps q q hb1 q q<|RunL.ps q q hb1 q q<|RunL.ps q q hb1 q q<|Rv (O.pkF (.lit q) hb1 (.k q))<|Va q<|Fi (.n q .nil)
 refine Px.sq<|W.rt ?_
 obtain rfl:=sm h
 exact Px.fin (Fin.ro (.f q q .nil) q (ode (by kernel_rfl)) (.no (.no (.no .nil))) q (.inr q))
theorem con146 (a0:ByteArray) (a1:Int) (r:Int) (h:pf146 a0 a1=some r):Con Try.prog 146 [SS a0,I64 a1] [none,none] (I64 r):=by
 unfold pf146 at h
 refine Con.go (N:=⟨114,[]⟩) Try.func146 q q q q (W.fin ?_)
 refine W.st [(0,SS a0),(1,I64 a1)] ?_
 refine W.sq'<|W.rx [(0,_),(1,_)] (Vk q<|Fi (tn2 q q)) ?_
 refine Px.sq<|W.sq' ?_
 refine W.bk<|W.sq' ?_
 obtain ⟨c4,hj,h⟩:=bnd h
 refine W.rx [(0,SS a0),(1,I64 a1),(9,BB c4)] ?_ ?_
 ·refine Vm q<|Rv (O.mv (.lit q)) ?_
  obtain ⟨x1,hx1,hj⟩:=bnd hj
  refine Rv (O.at' (.lit q) (.lit q) st9 hx1)<|Rv (O.eql (.lit q) (.k q))<|Rv (O.mv (.lit q)) ?_
  rcases cnd hj with ⟨hb2,hj⟩ | ⟨hb2,hj⟩
  ·obtain rfl:=sm hj
   exact RunL.ps q q hb2 q q<|RunL.ps q q hb2 q q<|RunL.ps q q hb2 q q<|RunL.ps q q hb2 q q<|Rv (O.pkT (.lit q) hb2 (.k q))<|Va q<|Fi (tn3 q q q)
  ·refine RunL.v (O.mv (.lit q)) q q (.yb q q hb2)<|RunL.v (O.mv (.lit q)) q q (.yb q q hb2) ?_
   obtain ⟨x3,hx3,hj⟩:=bnd hj
   obtain rfl:=sm hj
   exact RunL.v (O.at' (.lit q) (.lit q) st9 hx3) q q (.yb q q hb2)<|RunL.v (O.eql (.lit q) (.k q)) q q (.yb q q hb2)<|Rv (O.pkF (.lit q) hb2 (.lit q))<|Va q<|Fi (tn3 q q q)
 refine Px.sq<|W.cnd q (fun hb5=>?_) (fun hb5=>?_)
 ·replace h:=cndT hb5 h
  refine W.sq'<|W.sq' ?_
  refine W.rx [(0,_),(1,_),(5,_)] (Vm q<|Rv (O.add (.lit q) (.k q))<|Va q<|Fi (tn3 q q q)) ?_
  refine Px.sq<|W.bk ?_
  obtain ⟨x7,hl,h⟩:=bnd h
  refine W.tr (G1:=[(0,_),(1,_),(5,_)]) (tn3 q q q) ?_
  refine W.lp2 (s:=w64 (a1+1)) (fun (s6:Int)=>[(0,SS a0),(1,I64 a1),(5,I64 s6)]) 1 (fun (x8:Unit)=>[]) (fun (x9:Int)=>[(4,I64 x9)]) hl (fun s6 o h=>?_) (fun x8 hx=>?_) (fun x9 hx=>?_)
  ·clear hl
   refine W.sq'<|W.sq' ?_
   obtain ⟨c12,hj,h⟩:=bnd h
   refine W.rx [(0,SS a0),(1,I64 a1),(5,I64 s6),(31,BB c12)] ?_ ?_
   ·refine Vm q<|Vm q<|Rv (O.lenS (.lit q) st9)<|Rv (O.lss (.lit q) (.lit q))<|Rv (O.mv (.lit q)) ?_
    rcases cnd hj with ⟨hb10,hj⟩ | ⟨hb10,hj⟩
    ·refine RunL.v (O.mv (.lit q)) q q (.yb q q hb10)<|RunL.v (O.mv (.lit q)) q q (.yb q q hb10) ?_
     obtain ⟨x11,hx11,hj⟩:=bnd hj
     obtain rfl:=sm hj
     exact RunL.v (O.at' (.lit q) (.lit q) st9 hx11) q q (.yb q q hb10)<|RunL.v (O.neq (.lit q) (.k q)) q q (.yb q q hb10)<|Rv (O.pkT (.lit q) hb10 (.lit q))<|Fi (tn4 q q q q)
    ·obtain rfl:=sm hj
     exact RunL.ps q q hb10 q q<|RunL.ps q q hb10 q q<|RunL.ps q q hb10 q q<|RunL.ps q q hb10 q q<|Rv (O.pkF (.lit q) hb10 (.k q))<|Fi (tn4 q q q q)
   refine Px.sq<|W.cnd q (fun hb13=>?_) (fun hb13=>?_)
   ·replace h:=cndT hb13 h
    refine W.sk<|Px.sq ?_
    refine W.sq'<|W.bk ?_
    refine W.sq'<|W.sq' ?_
    obtain ⟨x14,hx14,h⟩:=bnd h
    obtain ⟨x15,hx15,h⟩:=bnd h
    refine W.rd [[],[],[0,1],[],[],[3,4],rn 0 6 []] [(0,_),(1,_),(5,_),(40,_)] mixo (by kernel_rfl) (Dv 0 (O.mv (.lit q))<|Dv 1 (O.mv (.lit q))<|Dv 2 (O.at' (.lit q) (.lit q) st9 hx14)<|Dv 3 (O.mv (.lit q))<|Dv 4 (O.mv (.lit q))<|Dv 5 (O.at' (.lit q) (.lit q) st9 hx15)<|Dv 6 (O.eql (.lit q) (.lit q))<|DL.fin q q q (tn4 q q q q)) ?_
    refine Px.sq<|W.cnd q (fun hb16=>?_) (fun hb16=>?_)
    ·replace h:=cndT hb16 h
     refine W.sq'<|W.rx [(4,_)] (Vm q<|Rv (O.add (.lit q) (.k q))<|Va q<|Fi (.n q .nil)) ?_
     refine Px.sq<|W.rt ?_
     refine Px.sqR ?_
     refine Px.bkR ?_
     refine Px.sqR ?_
     obtain rfl:=sm h
     exact Px.r2 (.n q .nil)
    ·replace h:=cndF hb16 h
     refine W.sk<|Px.sq ?_
     refine W.sq' ?_
     obtain ⟨x17,hx17,h⟩:=bnd h
     refine W.rx [(0,_),(1,_),(5,_),(46,_)] (Vm q<|Vm q<|Rv (O.at' (.lit q) (.lit q) st9 hx17)<|Rv (O.eql (.lit q) (.k q))<|Fi (tn4 q q q q)) ?_
     refine Px.sq<|W.cnd q (fun hb18=>?_) (fun hb18=>?_)
     ·replace h:=cndT hb18 h
      refine W.sq'<|W.rx [(0,_),(1,_),(5,_)] (Vm q<|Rv (O.add (.lit q) (.k q))<|RunL.re (G1:=[(0,_),(1,_),(48,_)]) (tn3 q q q)<|Va q<|Fi (tn3 q q q)) ?_
      refine Px.sq<|W.sq' ?_
      obtain ⟨c21,hj,h⟩:=bnd h
      refine W.rx [(0,SS a0),(1,I64 a1),(5,I64 (w64 (s6+1))),(58,BB c21)] ?_ ?_
      ·refine Vm q<|Vm q<|Rv (O.lenS (.lit q) st9)<|Rv (O.lss (.lit q) (.lit q))<|Rv (O.mv (.lit q)) ?_
       rcases cnd hj with ⟨hb19,hj⟩ | ⟨hb19,hj⟩
       ·refine RunL.v (O.mv (.lit q)) q q (.yb q q hb19)<|RunL.v (O.mv (.lit q)) q q (.yb q q hb19) ?_
        obtain ⟨x20,hx20,hj⟩:=bnd hj
        obtain rfl:=sm hj
        exact RunL.v (O.at' (.lit q) (.lit q) st9 hx20) q q (.yb q q hb19)<|RunL.v (O.eql (.lit q) (.k q)) q q (.yb q q hb19)<|Rv (O.pkT (.lit q) hb19 (.lit q))<|Fi (tn4 q q q q)
       ·obtain rfl:=sm hj
        exact RunL.ps q q hb19 q q<|RunL.ps q q hb19 q q<|RunL.ps q q hb19 q q<|RunL.ps q q hb19 q q<|Rv (O.pkF (.lit q) hb19 (.k q))<|Fi (tn4 q q q q)
      refine Px.sq<|W.cnd q (fun hb22=>?_) (fun hb22=>?_)
      ·replace h:=cndT hb22 h
       refine W.sq'<|W.rx [(4,_)] (Vk q<|Fi (.n q .nil)) ?_
       refine Px.sq<|W.rt ?_
       refine Px.bkR ?_
       refine Px.sqR ?_
       obtain rfl:=sm h
       exact Px.r2 (.n q .nil)
      ·replace h:=cndF hb22 h
       refine W.sk<|Px.bk ?_
       refine Px.sq<|W.rx [(0,_),(1,_),(5,_)] (Vm q<|Rv (O.add (.lit q) (.k q))<|RunL.re (G1:=[(0,_),(1,_),(33,_)]) (tn3 q q q)<|Va q<|Fi (tn3 q q q)) ?_
       obtain rfl:=sm h
       exact Px.go (tn3 q q q)
     ·replace h:=cndF hb18 h
      refine W.sk<|Px.bk ?_
      refine Px.sq<|W.rx [(0,_),(1,_),(5,_)] (Vm q<|Rv (O.add (.lit q) (.k q))<|RunL.re (G1:=[(0,_),(1,_),(33,_)]) (tn3 q q q)<|Va q<|Fi (tn3 q q q)) ?_
      obtain rfl:=sm h
      exact Px.go (tn3 q q q)
   ·replace h:=cndF hb13 h
    refine W.xi ?_
    refine Px.sqE ?_
    obtain rfl:=sm h
    exact Px.x2 .nil
  ·subst hx
   refine Px.bkH ?_
   refine Px.sq<|W.sq' ?_
   refine W.rx [(4,_)] (Vk q<|Fi (.n q .nil)) ?_
   refine Px.sq<|W.rt ?_
   refine Px.bkR ?_
   refine Px.sqR ?_
   obtain rfl:=sm h
   exact Px.fin (Fin.ro (.f q q .nil) q (ode (by kernel_rfl)) (.no (.no .nil)) q (.inr q))
  ·subst hx
   refine Px.bkR ?_
   refine Px.sqR ?_
   refine Px.bkR ?_
   refine Px.sqR ?_
   obtain rfl:=sm h
   exact Px.fin (Fin.ro (.f q q .nil) q (ode (by kernel_rfl)) (.no (.no .nil)) q (.inr q))
 ·replace h:=cndF hb5 h
  refine W.sq' ?_
  obtain ⟨x23,hx23,h⟩:=bnd h
  refine W.rx [(0,_),(1,_),(59,_)] (Vm q<|Vm q<|Rv (O.at' (.lit q) (.lit q) st9 hx23)<|Rv (O.eql (.lit q) (.k q))<|Va q<|Fi (tn3 q q q)) ?_
  refine Px.sq<|W.cnd q (fun hb24=>?_) (fun hb24=>?_)
  ·replace h:=cndT hb24 h
   refine W.sq'<|W.sq' ?_
   refine W.rx [(0,_),(6,_)] (Vm q<|Rv (O.add (.lit q) (.k q))<|Va q<|Fi (tn2 q q)) ?_
   refine Px.sq<|W.bk ?_
   obtain ⟨x26,hl,h⟩:=bnd h
   refine W.tr (G1:=[(0,_),(6,_)]) (tn2 q q) ?_
   refine W.lp2 (s:=w64 (a1+1)) (fun (s25:Int)=>[(0,SS a0),(6,I64 s25)]) 3 (fun (x27:Unit)=>[]) (fun (x28:Int)=>[(4,I64 x28)]) hl (fun s25 o h=>?_) (fun x27 hx=>?_) (fun x28 hx=>?_)
   ·clear hl
    refine W.sq'<|W.sq' ?_
    refine W.rx [(0,_),(6,_),(69,_)] (Vm q<|Vm q<|Rv (O.lenS (.lit q) st9)<|Rv (O.lss (.lit q) (.lit q))<|Fi (tn3 q q q)) ?_
    refine Px.sq<|W.cnd q (fun hb29=>?_) (fun hb29=>?_)
    ·replace h:=cndT hb29 h
     refine W.sk<|Px.sq ?_
     refine W.sq'<|W.bk ?_
     refine W.sq' ?_
     obtain ⟨x30,hx30,h⟩:=bnd h
     refine W.rx [(0,_),(6,_),(75,_)] (Vm q<|Vm q<|Rv (O.at' (.lit q) (.lit q) st9 hx30)<|Rv (O.eql (.lit q) (.k q))<|Fi (tn3 q q q)) ?_
     refine Px.sq<|W.cnd q (fun hb31=>?_) (fun hb31=>?_)
     ·replace h:=cndT hb31 h
      refine W.sq'<|W.rx [(4,_)] (Vm q<|Rv (O.add (.lit q) (.k q))<|Va q<|Fi (.n q .nil)) ?_
      refine Px.sq<|W.rt ?_
      refine Px.bkR ?_
      refine Px.sqR ?_
      obtain rfl:=sm h
      exact Px.r2 (.n q .nil)
     ·replace h:=cndF hb31 h
      refine W.sk<|Px.bk ?_
      refine Px.sq<|W.rx [(0,_),(6,_)] (Vm q<|Rv (O.add (.lit q) (.k q))<|RunL.re (G1:=[(0,_),(71,_)]) (tn2 q q)<|Va q<|Fi (tn2 q q)) ?_
      obtain rfl:=sm h
      exact Px.go (tn2 q q)
    ·replace h:=cndF hb29 h
     refine W.xi ?_
     refine Px.sqE ?_
     obtain rfl:=sm h
     exact Px.x2 .nil
   ·subst hx
    refine Px.bkH ?_
    refine Px.sq<|W.sq' ?_
    refine W.rx [(4,_)] (Vk q<|Fi (.n q .nil)) ?_
    refine Px.sq<|W.rt ?_
    refine Px.bkR ?_
    refine Px.sqR ?_
    obtain rfl:=sm h
    exact Px.fin (Fin.ro (.f q q .nil) q (ode (by kernel_rfl)) (.no (.no .nil)) q (.inr q))
   ·subst hx
    refine Px.bkR ?_
    refine Px.sqR ?_
    refine Px.bkR ?_
    refine Px.sqR ?_
    obtain rfl:=sm h
    exact Px.fin (Fin.ro (.f q q .nil) q (ode (by kernel_rfl)) (.no (.no .nil)) q (.inr q))
  ·replace h:=cndF hb24 h
   refine W.sq' ?_
   obtain ⟨x32,hx32,h⟩:=bnd h
   refine W.rx [(0,_),(1,_),(78,_)] (Vm q<|Vm q<|Rc (PC.go (.cc (.lit q) (.cc (.lit q) (.cc (.k q) .nil))) (con150 a0 a1 ({ data:=#[47,47] }) _ hx32) call150 q)<|Va q<|Fi (tn3 q q q)) ?_
   refine Px.sq<|W.cnd q (fun hb33=>?_) (fun hb33=>?_)
   ·replace h:=cndT hb33 h
    refine W.sq'<|W.rx [(0,_),(7,_)] (Vm q<|Va q<|Fi (tn2 q q)) ?_
    refine Px.sq<|W.sq' ?_
    refine W.bk ?_
    obtain ⟨x35,hl,h⟩:=bnd h
    refine W.tr (G1:=[(0,_),(7,_)]) (tn2 q q) ?_
    refine W.lp1 (s:=a1) (fun (s34:Int)=>[(0,SS a0),(7,I64 s34)]) 5 (fun (x35:Int)=>[(7,I64 x35)]) hl (fun s34 o h=>?_) ?_
    ·clear hl
     refine W.sq'<|W.sq' ?_
     obtain ⟨c39,hj,h⟩:=bnd h
     refine W.rx [(0,SS a0),(7,I64 s34),(92,BB c39)] ?_ ?_
     ·refine Vm q<|Vm q<|Rv (O.lenS (.lit q) st9)<|Rv (O.lss (.lit q) (.lit q))<|Rv (O.mv (.lit q)) ?_
      rcases cnd hj with ⟨hb37,hj⟩ | ⟨hb37,hj⟩
      ·refine RunL.v (O.mv (.lit q)) q q (.yb q q hb37)<|RunL.v (O.mv (.lit q)) q q (.yb q q hb37) ?_
       obtain ⟨x38,hx38,hj⟩:=bnd hj
       obtain rfl:=sm hj
       exact RunL.v (O.at' (.lit q) (.lit q) st9 hx38) q q (.yb q q hb37)<|RunL.v (O.neq (.lit q) (.k q)) q q (.yb q q hb37)<|Rv (O.pkT (.lit q) hb37 (.lit q))<|Fi (tn3 q q q)
      ·obtain rfl:=sm hj
       exact RunL.ps q q hb37 q q<|RunL.ps q q hb37 q q<|RunL.ps q q hb37 q q<|RunL.ps q q hb37 q q<|Rv (O.pkF (.lit q) hb37 (.k q))<|Fi (tn3 q q q)
     refine Px.sq<|W.cnd q (fun hb40=>?_) (fun hb40=>?_)
     ·replace h:=cndT hb40 h
      refine W.sk<|Px.sq ?_
      refine W.bk<|W.rx [(0,_),(7,_)] (Vm q<|Rv (O.add (.lit q) (.k q))<|RunL.re (G1:=[(0,_),(94,_)]) (tn2 q q)<|Va q<|Fi (tn2 q q)) ?_
      refine Px.bk ?_
      obtain rfl:=sm h
      exact Px.go (tn2 q q)
     ·replace h:=cndF hb40 h
      refine W.xi ?_
      refine Px.sqE ?_
      obtain rfl:=sm h
      exact Px.x1 (.n q .nil)
    refine Px.bkH ?_
    refine Px.sq<|W.sq' ?_
    refine W.rx [(4,_)] (Vm q<|Va q<|Fi (.n q .nil)) ?_
    refine Px.sq<|W.rt ?_
    refine Px.bkR ?_
    refine Px.sqR ?_
    obtain rfl:=sm h
    exact Px.fin (Fin.ro (.f q q .nil) q (ode (by kernel_rfl)) (.no (.no .nil)) q (.inr q))
   ·replace h:=cndF hb33 h
    refine W.sq' ?_
    obtain ⟨x41,hx41,h⟩:=bnd h
    refine W.rx [(0,_),(1,_),(96,_)] (Vm q<|Vm q<|Rc (PC.go (.cc (.lit q) (.cc (.lit q) (.cc (.k q) .nil))) (con150 a0 a1 ({ data:=#[47,42] }) _ hx41) call150 q)<|Va q<|Fi (tn3 q q q)) ?_
    refine Px.sq<|W.cnd q (fun hb42=>?_) (fun hb42=>?_)
    ·replace h:=cndT hb42 h
     refine W.sq'<|W.sq' ?_
     refine W.rx [(0,_),(8,_)] (Vm q<|Rv (O.add (.lit q) (.k q))<|Va q<|Fi (tn2 q q)) ?_
     refine Px.sq<|W.bk ?_
     obtain ⟨x44,hl,h⟩:=bnd h
     refine W.tr (G1:=[(0,_),(8,_)]) (tn2 q q) ?_
     refine W.lp2 (s:=w64 (a1+2)) (fun (s43:Int)=>[(0,SS a0),(8,I64 s43)]) 7 (fun (x45:Unit)=>[]) (fun (x46:Int)=>[(4,I64 x46)]) hl (fun s43 o h=>?_) (fun x45 hx=>?_) (fun x46 hx=>?_)
     ·clear hl
      refine W.sq'<|W.sq' ?_
      refine W.rx [(0,_),(8,_),(105,_)] (Vm q<|Vm q<|Rv (O.lenS (.lit q) st9)<|Rv (O.lss (.lit q) (.lit q))<|Fi (tn3 q q q)) ?_
      refine Px.sq<|W.cnd q (fun hb47=>?_) (fun hb47=>?_)
      ·replace h:=cndT hb47 h
       refine W.sk<|Px.sq ?_
       refine W.sq'<|W.bk ?_
       refine W.sq' ?_
       obtain ⟨x48,hx48,h⟩:=bnd h
       refine W.rx [(0,_),(8,_),(110,_)] (Vm q<|Vm q<|Rc (PC.go (.cc (.lit q) (.cc (.lit q) (.cc (.k q) .nil))) (con150 a0 s43 ({ data:=#[42,47] }) _ hx48) call150 q)<|Fi (tn3 q q q)) ?_
       refine Px.sq<|W.cnd q (fun hb49=>?_) (fun hb49=>?_)
       ·replace h:=cndT hb49 h
        refine W.sq'<|W.rx [(4,_)] (Vm q<|Rv (O.add (.lit q) (.k q))<|Va q<|Fi (.n q .nil)) ?_
        refine Px.sq<|W.rt ?_
        refine Px.bkR ?_
        refine Px.sqR ?_
        obtain rfl:=sm h
        exact Px.r2 (.n q .nil)
       ·replace h:=cndF hb49 h
        refine W.sk<|Px.bk ?_
        refine Px.sq<|W.rx [(0,_),(8,_)] (Vm q<|Rv (O.add (.lit q) (.k q))<|RunL.re (G1:=[(0,_),(107,_)]) (tn2 q q)<|Va q<|Fi (tn2 q q)) ?_
        obtain rfl:=sm h
        exact Px.go (tn2 q q)
      ·replace h:=cndF hb47 h
       refine W.xi ?_
       refine Px.sqE ?_
       obtain rfl:=sm h
       exact Px.x2 .nil
     ·subst hx
      refine Px.bkH ?_
      refine Px.sq<|W.sq' ?_
      refine W.rx [(4,_)] (Vk q<|Fi (.n q .nil)) ?_
      refine Px.sq<|W.rt ?_
      refine Px.bkR ?_
      refine Px.sqR ?_
      obtain rfl:=sm h
      exact Px.fin (Fin.ro (.f q q .nil) q (ode (by kernel_rfl)) (.no (.no .nil)) q (.inr q))
     ·subst hx
      refine Px.bkR ?_
      refine Px.sqR ?_
      refine Px.bkR ?_
      refine Px.sqR ?_
      obtain rfl:=sm h
      exact Px.fin (Fin.ro (.f q q .nil) q (ode (by kernel_rfl)) (.no (.no .nil)) q (.inr q))
    ·replace h:=cndF hb42 h
     refine W.sk<|Px.bk ?_
     refine Px.sq<|W.sq' ?_
     refine W.rx [(4,_)] (Vm q<|Va q<|Fi (.n q .nil)) ?_
     refine Px.sq<|W.rt ?_
     obtain rfl:=sm h
     exact Px.fin (Fin.ro (.f q q .nil) q (ode (by kernel_rfl)) (.no (.no .nil)) q (.inr q))
theorem con134 (a0:ByteArray) (a1:Int) (r:Int) (h:pf134 a0 a1=some r):Con Try.prog 134 [SS a0,I64 a1] [none,none] (I64 r):=by
 unfold pf134 at h
 refine Con.go (N:=⟨53,[]⟩) Try.func134 q q q q (W.fin ?_)
 refine W.st [(0,SS a0),(1,I64 a1)] ?_
 refine W.sq'<|W.rx [(0,_),(1,_)] (Vk q<|Fi (tn2 q q)) ?_
 refine Px.sq<|W.sq' ?_
 refine W.sq' ?_
 obtain ⟨c4,hj,h⟩:=bnd h
 refine W.rx [(0,SS a0),(1,I64 a1),(21,BB c4)] ?_ ?_
 ·refine Vm q<|Rv (O.lss (.lit q) (.k q))<|Rv (O.mv (.lit q)) ?_
  rcases cnd hj with ⟨hb1,hj⟩ | ⟨hb1,hj⟩
  ·obtain rfl:=sm hj
   exact RunL.ps q q hb1 q q<|RunL.ps q q hb1 q q<|RunL.ps q q hb1 q q<|RunL.ps q q hb1 q q<|Rv (O.pkT (.lit q) hb1 (.k q))<|Vm q<|RunL.ps q q q q q<|RunL.ps q q q q q<|RunL.ps q q q q q<|RunL.ps q q q q q<|Rv (O.pkT (.lit q) q (.k q))<|Fi (tn3 q q q)
  ·refine RunL.v (O.mv (.lit q)) q q (.yb q q hb1)<|RunL.v (O.mv (.lit q)) q q (.yb q q hb1)<|RunL.v (O.lenS (.lit q) st9) q q (.yb q q hb1)<|RunL.v (O.geq (.lit q) (.lit q)) q q (.yb q q hb1)<|Rv (O.pkF (.lit q) hb1 (.lit q))<|Rv (O.mv (.lit q)) ?_
   rcases cnd hj with ⟨hb2,hj⟩ | ⟨hb2,hj⟩
   ·obtain rfl:=sm hj
    exact RunL.ps q q hb2 q q<|RunL.ps q q hb2 q q<|RunL.ps q q hb2 q q<|RunL.ps q q hb2 q q<|Rv (O.pkT (.lit q) hb2 (.k q))<|Fi (tn3 q q q)
   ·refine RunL.v (O.mv (.lit q)) q q (.yb q q hb2)<|RunL.v (O.mv (.lit q)) q q (.yb q q hb2) ?_
    obtain ⟨x3,hx3,hj⟩:=bnd hj
    obtain rfl:=sm hj
    exact RunL.v (O.at' (.lit q) (.lit q) st9 hx3) q q (.yb q q hb2)<|RunL.v (O.neq (.lit q) (.k q)) q q (.yb q q hb2)<|Rv (O.pkF (.lit q) hb2 (.lit q))<|Fi (tn3 q q q)
 refine Px.sq<|W.cnd q (fun hb5=>?_) (fun hb5=>?_)
 ·replace h:=cndT hb5 h
  refine W.sq'<|W.rx [(4,_)] (Vk q<|Fi (.n q .nil)) ?_
  refine Px.sq<|W.rt ?_
  refine Px.sqR ?_
  obtain rfl:=sm h
  exact Px.fin (Fin.ro (.f q q .nil) q (ode (by kernel_rfl)) (.no (.no .nil)) q (.inr q))
 ·replace h:=cndF hb5 h
  refine W.sk<|Px.sq ?_
  refine W.sq'<|W.rx [(0,_),(1,_),(5,_)] (Vk q<|Fi (tn3 q q q)) ?_
  refine Px.sq<|W.sq' ?_
  refine W.sq'<|W.rx [(0,_),(5,_),(6,_)] (Vm q<|Va q<|Fi (tn3 q q q)) ?_
  refine Px.sq<|W.bk ?_
  obtain ⟨x7,hl,h⟩:=bnd h
  refine W.tr (G1:=[(0,_),(5,_),(6,_)]) (tn3 q q q) ?_
  refine W.lp2 (s:=(0,a1)) (fun (s6:Int × Int)=>[(0,SS a0),(5,I64 s6.1),(6,I64 s6.2)]) 0 (fun (x8:Unit)=>[]) (fun (x9:Int)=>[(4,I64 x9)]) hl (fun s6 o h=>?_) (fun x8 hx=>?_) (fun x9 hx=>?_)
  ·clear hl
   refine W.sq'<|W.sq' ?_
   refine W.rx [(0,_),(5,_),(6,_),(26,_)] (Vm q<|Vm q<|Rv (O.lenS (.lit q) st9)<|Rv (O.lss (.lit q) (.lit q))<|Fi (tn4 q q q q)) ?_
   refine Px.sq<|W.cnd q (fun hb10=>?_) (fun hb10=>?_)
   ·replace h:=cndT hb10 h
    refine W.sk<|Px.sq ?_
    refine W.bk<|W.sq' ?_
    obtain ⟨x11,hx11,h⟩:=bnd h
    refine W.rx [(0,_),(5,_),(6,_),(7,_)] (Vm q<|Vm q<|Rc (PC.go (.cc (.lit q) (.cc (.lit q) .nil)) (con146 a0 s6.2 _ hx11) call146 q)<|Va q<|Fi (tn4 q q q q)) ?_
    refine Px.sq<|W.sq' ?_
    refine W.sq'<|W.rx [(0,_),(5,_),(6,_),(7,_),(31,_)] (Vm q<|Rv (O.lss (.lit q) (.k q))<|Fi (tn5 q q q q q)) ?_
    refine Px.sq<|W.cnd q (fun hb12=>?_) (fun hb12=>?_)
    ·replace h:=cndT hb12 h
     refine W.sq'<|W.rx [(4,_)] (Vk q<|Fi (.n q .nil)) ?_
     refine Px.sq<|W.rt ?_
     refine Px.sqR ?_
     refine Px.bkR ?_
     obtain rfl:=sm h
     exact Px.r2 (.n q .nil)
    ·replace h:=cndF hb12 h
     refine W.sk<|Px.sq ?_
     refine W.sq'<|W.sq' ?_
     refine W.rx [(0,_),(5,_),(6,_),(7,_),(34,_)] (Vm q<|Vm q<|Rv (O.gtr (.lit q) (.lit q))<|Fi (tn5 q q q q q)) ?_
     refine Px.sq<|W.cnd q (fun hb13=>?_) (fun hb13=>?_)
     ·replace h:=cndT hb13 h
      refine W.sq'<|W.rx [(0,_),(5,_),(6,_)] (Vm q<|RunL.re (G1:=[(0,_),(5,_),(35,_)]) (tn3 q q q)<|Va q<|Fi (tn3 q q q)) ?_
      refine Px.sq<|W.xi ?_
      refine Px.sqE ?_
      refine Px.bkH ?_
      obtain rfl:=sm h
      exact Px.go (tn3 q q q)
     ·replace h:=cndF hb13 h
      refine W.sk<|Px.sq ?_
      refine W.sq'<|W.sq' ?_
      obtain ⟨x14,hx14,h⟩:=bnd h
      refine W.rx [(0,_),(5,_),(6,_),(39,_)] (Vm q<|Vm q<|Rv (O.at' (.lit q) (.lit q) st9 hx14)<|Rv (O.eql (.lit q) (.k q))<|Fi (tn4 q q q q)) ?_
      refine Px.sq ?_
      obtain ⟨j15,hj,h⟩:=bnd h
      refine W.jn [(0,SS a0),(5,I64 j15),(6,I64 s6.2)] ?_ ?_
      ·clear h; have h:=hj; clear hj
       refine W.cnd q (fun hb16=>?_) (fun hb16=>?_)
       ·replace h:=cndT hb16 h
        refine W.rx [(0,_),(5,_),(6,_)] (Vm q<|Rv (O.add (.lit q) (.k q))<|RunL.re (G1:=[(0,_),(6,_),(41,_)]) (tn3 q q q)<|Va q<|Fi (tn3 q q q)) ?_
        obtain rfl:=sm h
        exact Px.jn (tn3 q q q)
       ·replace h:=cndF hb16 h
        refine W.sk ?_
        obtain rfl:=sm h
        exact Px.jn (tn3 q q q)
      refine Px.sq<|W.sq' ?_
      refine W.sq' ?_
      obtain ⟨x17,hx17,h⟩:=bnd h
      refine W.rx [(0,_),(5,_),(6,_),(45,_)] (Vm q<|Vm q<|Rv (O.at' (.lit q) (.lit q) st9 hx17)<|Rv (O.eql (.lit q) (.k q))<|Fi (tn4 q q q q)) ?_
      refine Px.sq ?_
      obtain ⟨j18,hj,h⟩:=bnd h
      refine W.jn [(0,SS a0),(5,I64 j18),(6,I64 s6.2)] ?_ ?_
      ·clear h; have h:=hj; clear hj
       refine W.cnd q (fun hb19=>?_) (fun hb19=>?_)
       ·replace h:=cndT hb19 h
        refine W.rx [(0,_),(5,_),(6,_)] (Vm q<|Rv (O.sub (.lit q) (.k q))<|RunL.re (G1:=[(0,_),(6,_),(47,_)]) (tn3 q q q)<|Va q<|Fi (tn3 q q q)) ?_
        obtain rfl:=sm h
        exact Px.jn (tn3 q q q)
       ·replace h:=cndF hb19 h
        refine W.sk ?_
        obtain rfl:=sm h
        exact Px.jn (tn3 q q q)
      refine Px.sq<|W.sq' ?_
      refine W.rx [(0,_),(5,_),(6,_)] (Vm q<|Rv (O.add (.lit q) (.k q))<|RunL.re (G1:=[(0,_),(5,_),(49,_)]) (tn3 q q q)<|Va q<|Fi (tn3 q q q)) ?_
      refine Px.sq<|W.sq' ?_
      refine W.rx [(0,_),(5,_),(6,_),(51,_)] (Vm q<|Rv (O.eql (.lit q) (.k q))<|Fi (tn4 q q q q)) ?_
      refine Px.sq<|W.cnd q (fun hb20=>?_) (fun hb20=>?_)
      ·replace h:=cndT hb20 h
       refine W.sq'<|W.rx [(4,_)] (Vm q<|Va q<|Fi (.n q .nil)) ?_
       refine Px.sq<|W.rt ?_
       refine Px.bkR ?_
       obtain rfl:=sm h
       exact Px.r2 (.n q .nil)
      ·replace h:=cndF hb20 h
       refine W.sk<|Px.bk ?_
       obtain rfl:=sm h
       exact Px.go (tn3 q q q)
   ·replace h:=cndF hb10 h
    refine W.xi ?_
    refine Px.sqE ?_
    obtain rfl:=sm h
    exact Px.x2 .nil
  ·subst hx
   refine Px.bkH ?_
   refine Px.sq<|W.sq' ?_
   refine W.rx [(4,_)] (Vk q<|Fi (.n q .nil)) ?_
   refine Px.sq<|W.rt ?_
   obtain rfl:=sm h
   exact Px.fin (Fin.ro (.f q q .nil) q (ode (by kernel_rfl)) (.no (.no .nil)) q (.inr q))
  ·subst hx
   refine Px.bkR ?_
   refine Px.sqR ?_
   obtain rfl:=sm h
   exact Px.fin (Fin.ro (.f q q .nil) q (ode (by kernel_rfl)) (.no (.no .nil)) q (.inr q))
theorem con106 (a0:Alt) (r:Bool) (h:pf106 a0=some r):Con Try.prog 106 [.agg [iR ePart a0.Parts,SS a0.Prec.Name,BB a0.Prec.Lit,I64 a0.Prec.Num,I64 a0.Prec.At,I64 a0.At]] [none] (BB r):=by
 unfold pf106 at h
 refine Con.go (N:=⟨54,[]⟩) Try.func106 q q q q (W.fin ?_)
 refine W.st [(0,.agg [iR ePart a0.Parts,SS a0.Prec.Name,BB a0.Prec.Lit,I64 a0.Prec.Num,I64 a0.Prec.At,I64 a0.At])] ?_
 refine W.sq'<|W.rx [(1,_)] (Rv (O.box (.aggF q q) q)<|Vk q<|Fi (.n q .nil)) ?_
 refine Px.sq<|W.sq' ?_
 refine W.sq'<|W.rx [(1,_),(3,_)] (Vk q<|Fi (tn2 q q)) ?_
 refine Px.sq<|W.bk ?_
 obtain ⟨x2,hl,h⟩:=bnd h
 refine W.tr (G1:=[(1,_),(3,_)]) (tn2 q q) ?_
 refine W.lp2 (s:=0) (fun (s1:Int)=>[(1,.obj [iR ePart a0.Parts,SS a0.Prec.Name,BB a0.Prec.Lit,I64 a0.Prec.Num,I64 a0.Prec.At,I64 a0.At]),(3,I64 s1)]) 0 (fun (x3:Unit)=>[(1,.obj [iR ePart a0.Parts,SS a0.Prec.Name,BB a0.Prec.Lit,I64 a0.Prec.Num,I64 a0.Prec.At,I64 a0.At])]) (fun (x4:Bool)=>[(2,BB x4)]) hl (fun s1 o h=>?_) (fun x3 hx=>?_) (fun x4 hx=>?_)
 ·clear hl
  refine W.sq'<|W.sq' ?_
  refine W.rx [(1,_),(3,_),(9,_)] (Vm q<|Rv (O.fO q (.obj q) fd62_0 q)<|Rv (O.ldO (y:=iR ePart a0.Parts) q (.ptr q) ct60 q q)<|Rv (O.lenI (.imm q) sl60)<|Rv (O.lss (.lit q) (.lit q))<|Fi (tn3 q q q)) ?_
  refine Px.sq<|W.cnd q (fun hb5=>?_) (fun hb5=>?_)
  ·replace h:=cndT hb5 h
   refine W.sk<|Px.sq ?_
   refine W.sq'<|W.bk ?_
   refine W.sq' ?_
   obtain ⟨x6,hx6,h⟩:=bnd h
   refine W.rx [(1,_),(3,_),(4,_)] (Rv (O.fO q (.obj q) fd62_0 q)<|Rv (O.ldO (y:=iR ePart a0.Parts) q (.ptr q) ct60 q q)<|Vm q<|Rv (O.ixI (.imm q) (.lit q) sl60 hx6)<|Rv (O.ldIN (cs':=[SS x6.Sym.Name,BB x6.Sym.Lit,I64 x6.Sym.Num,I64 x6.Sym.At,SS x6.Code,I64 x6.At]) (.iptr q) at109 q q)<|Rv (O.al (cs:=[SS S0,BB false,I64 0,I64 0,SS S0,I64 0]) ze109 q q)<|RunL.sO (G2:=[(1,.obj [iR ePart a0.Parts,SS a0.Prec.Name,BB a0.Prec.Lit,I64 a0.Prec.Num,I64 a0.Prec.At,I64 a0.At]),(3,I64 s1),(4,.obj (ePart.cells x6))]) (cs2:=[SS x6.Sym.Name,BB x6.Sym.Lit,I64 x6.Sym.Num,I64 x6.Sym.At,SS x6.Code,I64 x6.At]) q (.obj q) (.aggF q q) q sz109 q q q q (.n q q (.n q q (.b q .nil)))<|Fi (tn3 q q q)) ?_
   refine Px.sq<|W.sq' ?_
   obtain ⟨c18,hj,h⟩:=bnd h
   refine W.rd [[],[0],[0,1],[0,1,2],[0,1,2,3],rn 0 5 [],rn 0 6 [],rn 0 7 [],rn 0 8 [],rn 0 9 [],rn 0 10 [],rn 0 11 [],rn 0 12 [],rn 0 13 [],rn 0 14 [],rn 0 15 [],rn 0 16 [],rn 0 17 [],rn 0 18 [],rn 0 19 [],rn 0 20 [],rn 0 21 [],rn 0 19 [],rn 0 19 [22],rn 0 19 [22,23],rn 0 25 [],rn 0 26 [],rn 0 27 [],rn 0 28 []] [(1,.obj [iR ePart a0.Parts,SS a0.Prec.Name,BB a0.Prec.Lit,I64 a0.Prec.Num,I64 a0.Prec.At,I64 a0.At]),(3,I64 s1),(45,BB c18)] mixo (by kernel_rfl) ?_ ?_
   ·refine Dv 0 (O.fO q (.obj q) fd109_1 q)<|Dv 1 (O.ldO (y:=SS x6.Code) q (.ptr q) ct9 q q)<|Dv 2 (O.eqS (.lit q) (.k q))<|Dv 3 (O.mv (.lit q)) ?_
    rcases cnd hj with ⟨hb7,hj⟩ | ⟨hb7,hj⟩
    ·refine DL.v 4 (O.fO q (.obj q) fd109_0 q) q q q q (.yb q q hb7)<|DL.v 5 (O.ldON (cs':=[SS x6.Sym.Name,BB x6.Sym.Lit,I64 x6.Sym.Num,I64 x6.Sym.At]) q (.ptr q) at59 q q) q q q q (.yb q q hb7) ?_
     obtain ⟨x8,hx8,hj⟩:=bnd hj
     refine DL.c 6 (PC.go (.cc (.aggF q q) (.cc (.k q) (.cc (.k q) .nil))) (con131 x6.Sym false true _ hx8) call131 q) q q q q (.yb q q hb7)<|DL.v 7 (O.not (.lit q)) q q q q (.yb q q hb7)<|Dv 8 (O.pkT (.lit q) hb7 (.lit q))<|Dv 9 (O.mv (.lit q)) ?_
     rcases cnd hj with ⟨hb9,hj⟩ | ⟨hb9,hj⟩
     ·obtain rfl:=sm hj
      exact DL.ps 10 q q hb9 q q q q<|DL.ps 11 q q hb9 q q q q<|DL.ps 12 q q hb9 q q q q<|DL.ps 13 q q hb9 q q q q<|DL.pu 14 q q q q q q<|DL.pu 15 q q q q q q<|DL.pu 16 q q q q q q<|DL.pu 17 q q q q q q<|DL.pu 18 q q q q q q<|DL.pu 19 q q q q q q<|DL.pu 20 q q q q q q<|DL.pu 21 q q q q q q<|DL.pu 22 q q q q q q<|DL.pu 23 q q q q q q<|DL.pu 24 q q q q q q<|DL.pu 25 q q q q q q<|DL.pu 26 q q q q q q<|DL.ps 27 q q hb9 q q q q<|Dv 28 (O.pkT (.lit q) hb9 (.k q))<|DL.fin q q q (tn3 q q q)
     ·refine DL.v 10 (O.fO q (.obj q) fd109_1 q) q q q q (.yb q q hb9)<|DL.v 11 (O.ldO (y:=SS x6.Code) q (.ptr q) ct9 q q) q q q q (.yb q q hb9)<|DL.v 12 (O.neS (.lit q) (.k q)) q q q q (.yb q q hb9)<|DL.v 13 (O.mv (.lit q)) q q q q (.yb q q hb9) ?_
      rcases cnd hj with ⟨hb10,hj⟩ | ⟨hb10,hj⟩
      ·refine DL.v 14 (O.fO q (.obj q) fd109_0 q) q q q q (.yb q q hb10)<|DL.v 15 (O.ldON (cs':=[SS x6.Sym.Name,BB x6.Sym.Lit,I64 x6.Sym.Num,I64 x6.Sym.At]) q (.ptr q) at59 q q) q q q q (.yb q q hb10) ?_
       obtain ⟨x11,hx11,hj⟩:=bnd hj
       refine DL.c 16 (PC.go (.cc (.aggF q q) .nil) (con133 x6.Sym _ hx11) call133 q) q q q q (.yb q q hb10)<|DL.v 17 (O.not (.lit q)) q q q q (.yb q q hb10)<|DL.v 18 (O.mv (.lit q)) q q q q (.yb q q hb10) ?_
       rcases cnd hj with ⟨hb12,hj⟩ | ⟨hb12,hj⟩
       ·obtain rfl:=sm hj
        exact DL.ps 19 q q hb12 q q q q<|DL.ps 20 q q hb12 q q q q<|DL.ps 21 q q hb12 q q q q<|DL.ps 22 q q hb12 q q q q<|DL.ps 23 q q hb12 q q q q<|DL.ps 24 q q hb12 q q q q<|DL.ps 25 q q hb12 q q q q<|DL.v 26 (O.pkT (.lit q) hb12 (.k q)) q q q q (.yb q q hb10)<|DL.v 27 (O.pkT (.lit q) hb10 (.lit q)) q q q q (.yb q q hb9)<|Dv 28 (O.pkF (.lit q) hb9 (.lit q))<|DL.fin q q q (tn3 q q q)
       ·refine DL.v 19 (O.fO q (.obj q) fd109_1 q) q q q q (.yb q q hb12)<|DL.v 20 (O.ldO (y:=SS x6.Code) q (.ptr q) ct9 q q) q q q q (.yb q q hb12) ?_
        obtain ⟨x13,hx13,hj⟩:=bnd hj
        obtain rfl:=sm hj
        exact DL.c 21 (PC.go (.cc (.lit q) (.cc (.k q) .nil)) (con134 x6.Code 0 _ hx13) call134 q) q q q q (.yb q q hb12)<|DL.v 22 (O.fO q (.obj q) fd109_1 q) q q q q (.yb q q hb12)<|DL.v 23 (O.ldO (y:=SS x6.Code) q (.ptr q) ct9 q q) q q q q (.yb q q hb12)<|DL.v 24 (O.lenS (.lit q) st9) q q q q (.yb q q hb12)<|DL.v 25 (O.neq (.lit q) (.lit q)) q q q q (.yb q q hb12)<|DL.v 26 (O.pkF (.lit q) hb12 (.lit q)) q q q q (.yb q q hb10)<|DL.v 27 (O.pkT (.lit q) hb10 (.lit q)) q q q q (.yb q q hb9)<|Dv 28 (O.pkF (.lit q) hb9 (.lit q))<|DL.fin q q q (tn3 q q q)
      ·obtain rfl:=sm hj
       exact DL.ps 14 q q hb10 q q q q<|DL.ps 15 q q hb10 q q q q<|DL.ps 16 q q hb10 q q q q<|DL.ps 17 q q hb10 q q q q<|DL.ps 18 q q hb10 q q q q<|DL.pu 19 q q q q q q<|DL.pu 20 q q q q q q<|DL.pu 21 q q q q q q<|DL.pu 22 q q q q q q<|DL.pu 23 q q q q q q<|DL.pu 24 q q q q q q<|DL.pu 25 q q q q q q<|DL.ps 26 q q hb10 q q q q<|DL.v 27 (O.pkF (.lit q) hb10 (.k q)) q q q q (.yb q q hb9)<|Dv 28 (O.pkF (.lit q) hb9 (.lit q))<|DL.fin q q q (tn3 q q q)
    ·refine DL.ps 4 q q hb7 q q q q<|DL.ps 5 q q hb7 q q q q<|DL.ps 6 q q hb7 q q q q<|DL.ps 7 q q hb7 q q q q<|Dv 8 (O.pkF (.lit q) hb7 (.k q))<|Dv 9 (O.mv (.lit q))<|DL.v 10 (O.fO q (.obj q) fd109_1 q) q q q q (.yb q q q)<|DL.v 11 (O.ldO (y:=SS x6.Code) q (.ptr q) ct9 q q) q q q q (.yb q q q)<|DL.v 12 (O.neS (.lit q) (.k q)) q q q q (.yb q q q)<|DL.v 13 (O.mv (.lit q)) q q q q (.yb q q q) ?_
     rcases cnd hj with ⟨hb14,hj⟩ | ⟨hb14,hj⟩
     ·refine DL.v 14 (O.fO q (.obj q) fd109_0 q) q q q q (.yb q q hb14)<|DL.v 15 (O.ldON (cs':=[SS x6.Sym.Name,BB x6.Sym.Lit,I64 x6.Sym.Num,I64 x6.Sym.At]) q (.ptr q) at59 q q) q q q q (.yb q q hb14) ?_
      obtain ⟨x15,hx15,hj⟩:=bnd hj
      refine DL.c 16 (PC.go (.cc (.aggF q q) .nil) (con133 x6.Sym _ hx15) call133 q) q q q q (.yb q q hb14)<|DL.v 17 (O.not (.lit q)) q q q q (.yb q q hb14)<|DL.v 18 (O.mv (.lit q)) q q q q (.yb q q hb14) ?_
      rcases cnd hj with ⟨hb16,hj⟩ | ⟨hb16,hj⟩
      ·obtain rfl:=sm hj
       exact DL.ps 19 q q hb16 q q q q<|DL.ps 20 q q hb16 q q q q<|DL.ps 21 q q hb16 q q q q<|DL.ps 22 q q hb16 q q q q<|DL.ps 23 q q hb16 q q q q<|DL.ps 24 q q hb16 q q q q<|DL.ps 25 q q hb16 q q q q<|DL.v 26 (O.pkT (.lit q) hb16 (.k q)) q q q q (.yb q q hb14)<|DL.v 27 (O.pkT (.lit q) hb14 (.lit q)) q q q q (.yb q q q)<|Dv 28 (O.pkF (.lit q) q (.lit q))<|DL.fin q q q (tn3 q q q)
      ·refine DL.v 19 (O.fO q (.obj q) fd109_1 q) q q q q (.yb q q hb16)<|DL.v 20 (O.ldO (y:=SS x6.Code) q (.ptr q) ct9 q q) q q q q (.yb q q hb16) ?_
       obtain ⟨x17,hx17,hj⟩:=bnd hj
       obtain rfl:=sm hj
       exact DL.c 21 (PC.go (.cc (.lit q) (.cc (.k q) .nil)) (con134 x6.Code 0 _ hx17) call134 q) q q q q (.yb q q hb16)<|DL.v 22 (O.fO q (.obj q) fd109_1 q) q q q q (.yb q q hb16)<|DL.v 23 (O.ldO (y:=SS x6.Code) q (.ptr q) ct9 q q) q q q q (.yb q q hb16)<|DL.v 24 (O.lenS (.lit q) st9) q q q q (.yb q q hb16)<|DL.v 25 (O.neq (.lit q) (.lit q)) q q q q (.yb q q hb16)<|DL.v 26 (O.pkF (.lit q) hb16 (.lit q)) q q q q (.yb q q hb14)<|DL.v 27 (O.pkT (.lit q) hb14 (.lit q)) q q q q (.yb q q q)<|Dv 28 (O.pkF (.lit q) q (.lit q))<|DL.fin q q q (tn3 q q q)
     ·obtain rfl:=sm hj
      exact DL.ps 14 q q hb14 q q q q<|DL.ps 15 q q hb14 q q q q<|DL.ps 16 q q hb14 q q q q<|DL.ps 17 q q hb14 q q q q<|DL.ps 18 q q hb14 q q q q<|DL.pu 19 q q q q q q<|DL.pu 20 q q q q q q<|DL.pu 21 q q q q q q<|DL.pu 22 q q q q q q<|DL.pu 23 q q q q q q<|DL.pu 24 q q q q q q<|DL.pu 25 q q q q q q<|DL.ps 26 q q hb14 q q q q<|DL.v 27 (O.pkF (.lit q) hb14 (.k q)) q q q q (.yb q q q)<|Dv 28 (O.pkF (.lit q) q (.lit q))<|DL.fin q q q (tn3 q q q)
   refine Px.sq<|W.cnd q (fun hb19=>?_) (fun hb19=>?_)
   ·replace h:=cndT hb19 h
    refine W.sq'<|W.rx [(2,_)] (Vk q<|Fi (.n q .nil)) ?_
    refine Px.sq<|W.rt ?_
    refine Px.bkR ?_
    refine Px.sqR ?_
    obtain rfl:=sm h
    exact Px.r2 (.n q .nil)
   ·replace h:=cndF hb19 h
    refine W.sk<|Px.bk ?_
    refine Px.sq<|W.rx [(1,_),(3,_)] (Vm q<|Rv (O.add (.lit q) (.k q))<|RunL.re (G1:=[(1,_),(11,_)]) (tn2 q q)<|Va q<|Fi (tn2 q q)) ?_
    obtain rfl:=sm h
    exact Px.go (tn2 q q)
  ·replace h:=cndF hb5 h
   refine W.xi ?_
   refine Px.sqE ?_
   obtain rfl:=sm h
   exact Px.x2 (.n q .nil)
 ·subst hx
  refine Px.bkH ?_
  refine Px.sq<|W.sq' ?_
  obtain ⟨c23,hj,h⟩:=bnd h
  refine W.rx [(2,BB c23)] ?_ ?_
  ·refine Rv (O.fO q (.obj q) fd62_1 q)<|Rv (O.ldON (cs':=[SS a0.Prec.Name,BB a0.Prec.Lit,I64 a0.Prec.Num,I64 a0.Prec.At]) q (.ptr q) at59 q q) ?_
   obtain ⟨x20,hx20,hj⟩:=bnd hj
   refine Rc (PC.go (.cc (.aggF q q) .nil) (con133 a0.Prec _ hx20) call133 q)<|Rv (O.mv (.lit q)) ?_
   rcases cnd hj with ⟨hb21,hj⟩ | ⟨hb21,hj⟩
   ·obtain rfl:=sm hj
    exact RunL.ps q q hb21 q q<|RunL.ps q q hb21 q q<|RunL.ps q q hb21 q q<|Rv (O.pkT (.lit q) hb21 (.k q))<|Va q<|Fi (.n q .nil)
   ·refine RunL.v (O.fO q (.obj q) fd62_1 q) q q (.yb q q hb21)<|RunL.v (O.ldON (cs':=[SS a0.Prec.Name,BB a0.Prec.Lit,I64 a0.Prec.Num,I64 a0.Prec.At]) q (.ptr q) at59 q q) q q (.yb q q hb21) ?_
    obtain ⟨x22,hx22,hj⟩:=bnd hj
    obtain rfl:=sm hj
    exact RunL.c (PC.go (.cc (.aggF q q) (.cc (.k q) (.cc (.k q) .nil))) (con131 a0.Prec false true _ hx22) call131 q) q q (.yb q q hb21)<|Rv (O.pkF (.lit q) hb21 (.lit q))<|Va q<|Fi (.n q .nil)
  refine Px.sq<|W.rt ?_
  obtain rfl:=sm h
  exact Px.fin (Fin.ro (.f q q .nil) q (ode (by kernel_rfl)) (.no .nil) q (.inr q))
 ·subst hx
  refine Px.bkR ?_
  refine Px.sqR ?_
  obtain rfl:=sm h
  exact Px.fin (Fin.ro (.f q q .nil) q (ode (by kernel_rfl)) (.no .nil) q (.inr q))
theorem con88 (a0:Source) (r:Bool) (h:pf88 a0=some r):Con Try.prog 88 [.agg [SS a0.Pro,iR eDecl_0 a0.Decls,iR eRule_0 a0.Rules,SS a0.Tail]] [none] (BB r):=by
 unfold pf88 at h
 refine Con.go (N:=⟨77,[]⟩) Try.func88 q q q q (W.fin ?_)
 refine W.st [(0,.agg [SS a0.Pro,iR eDecl_0 a0.Decls,iR eRule_0 a0.Rules,SS a0.Tail])] ?_
 refine W.sq'<|W.rx [(1,_)] (Rv (O.box (.aggF q q) q)<|Vk q<|Fi (.n q .nil)) ?_
 refine Px.sq<|W.sq' ?_
 refine W.sq'<|W.rx [(1,_),(3,_)] (Vk q<|Fi (tn2 q q)) ?_
 refine Px.sq<|W.bk ?_
 obtain ⟨x2,hl,h⟩:=bnd h
 refine W.tr (G1:=[(1,_),(3,_)]) (tn2 q q) ?_
 refine W.lp2 (s:=0) (fun (s1:Int)=>[(1,.obj [SS a0.Pro,iR eDecl_0 a0.Decls,iR eRule_0 a0.Rules,SS a0.Tail]),(3,I64 s1)]) 0 (fun (x3:Unit)=>[(1,.obj [SS a0.Pro,iR eDecl_0 a0.Decls,iR eRule_0 a0.Rules,SS a0.Tail])]) (fun (x4:Bool)=>[(2,BB x4)]) hl (fun s1 o h=>?_) (fun x3 hx=>?_) (fun x4 hx=>?_)
 ·clear hl
  refine W.sq'<|W.sq' ?_
  refine W.rx [(1,_),(3,_),(13,_)] (Vm q<|Rv (O.add (.lit q) (.k q))<|Rv (O.fO q (.obj q) fd25_0 q)<|Rv (O.ldO (y:=SS a0.Pro) q (.ptr q) ct9 q q)<|Rv (O.lenS (.lit q) st9)<|Rv (O.lss (.lit q) (.lit q))<|Fi (tn3 q q q)) ?_
  refine Px.sq<|W.cnd q (fun hb5=>?_) (fun hb5=>?_)
  ·replace h:=cndT hb5 h
   refine W.sk<|Px.sq ?_
   refine W.sq'<|W.bk ?_
   refine W.sq' ?_
   obtain ⟨x6,hx6,h⟩:=bnd h
   refine W.rx [(1,_),(3,_),(22,_)] (Rv (O.fO q (.obj q) fd25_0 q)<|Rv (O.ldO (y:=SS a0.Pro) q (.ptr q) ct9 q q)<|Vm q<|Vm q<|Rv (O.add (.lit q) (.k q))<|Rv (O.sl (.lit q) (.lit q) (.lit q) st9 hx6)<|Rv (O.eqS (.lit q) (.k q))<|Fi (tn3 q q q)) ?_
   refine Px.sq<|W.cnd q (fun hb7=>?_) (fun hb7=>?_)
   ·replace h:=cndT hb7 h
    refine W.sq'<|W.rx [(2,_)] (Vk q<|Fi (.n q .nil)) ?_
    refine Px.sq<|W.rt ?_
    refine Px.bkR ?_
    refine Px.sqR ?_
    obtain rfl:=sm h
    exact Px.r2 (.n q .nil)
   ·replace h:=cndF hb7 h
    refine W.sk<|Px.bk ?_
    refine Px.sq<|W.rx [(1,_),(3,_)] (Vm q<|Rv (O.add (.lit q) (.k q))<|RunL.re (G1:=[(1,_),(15,_)]) (tn2 q q)<|Va q<|Fi (tn2 q q)) ?_
    obtain rfl:=sm h
    exact Px.go (tn2 q q)
  ·replace h:=cndF hb5 h
   refine W.xi ?_
   refine Px.sqE ?_
   obtain rfl:=sm h
   exact Px.x2 (.n q .nil)
 ·subst hx
  refine Px.bkH ?_
  refine Px.sq<|W.sq' ?_
  refine W.sq'<|W.rx [(1,_),(4,_)] (Vk q<|Fi (tn2 q q)) ?_
  refine Px.sq<|W.bk ?_
  obtain ⟨x9,hl,h⟩:=bnd h
  refine W.tr (G1:=[(1,_),(4,_)]) (tn2 q q) ?_
  refine W.lp2 (s:=0) (fun (s8:Int)=>[(1,.obj [SS a0.Pro,iR eDecl_0 a0.Decls,iR eRule_0 a0.Rules,SS a0.Tail]),(4,I64 s8)]) 2 (fun (x10:Unit)=>[(1,.obj [SS a0.Pro,iR eDecl_0 a0.Decls,iR eRule_0 a0.Rules,SS a0.Tail])]) (fun (x11:Bool)=>[(2,BB x11)]) hl (fun s8 o h=>?_) (fun x10 hx=>?_) (fun x11 hx=>?_)
  ·clear hl
   refine W.sq'<|W.sq' ?_
   refine W.rx [(1,_),(4,_),(27,_)] (Vm q<|Rv (O.fO q (.obj q) fd25_1 q)<|Rv (O.ldO (y:=iR eDecl_0 a0.Decls) q (.ptr q) ct22 q q)<|Rv (O.lenI (.imm q) sl22)<|Rv (O.lss (.lit q) (.lit q))<|Fi (tn3 q q q)) ?_
   refine Px.sq<|W.cnd q (fun hb12=>?_) (fun hb12=>?_)
   ·replace h:=cndT hb12 h
    refine W.sk<|Px.sq ?_
    refine W.sq'<|W.bk ?_
    refine W.sq' ?_
    obtain ⟨x13,hx13,h⟩:=bnd h
    obtain ⟨x14,hx14,h⟩:=bnd h
    refine W.rx [(1,_),(4,_),(36,_)] (Rv (O.fO q (.obj q) fd25_1 q)<|Rv (O.ldO (y:=iR eDecl_0 a0.Decls) q (.ptr q) ct22 q q)<|Vm q<|Rv (O.ixI (.imm q) (.lit q) sl22 hx13)<|Rv (O.ldIN (cs':=[I64 x13.Kind,SS x13.Tag,iR eSym x13.Syms,I64 x13.At]) (.iptr q) at55 q q)<|Rc (PC.go (.cc (.aggF q q) .nil) (con104 x13 _ hx14) call104 q)<|Rv (O.not (.lit q))<|Fi (tn3 q q q)) ?_
    refine Px.sq<|W.cnd q (fun hb15=>?_) (fun hb15=>?_)
    ·replace h:=cndT hb15 h
     refine W.sq'<|W.rx [(2,_)] (Vk q<|Fi (.n q .nil)) ?_
     refine Px.sq<|W.rt ?_
     refine Px.bkR ?_
     refine Px.sqR ?_
     obtain rfl:=sm h
     exact Px.r2 (.n q .nil)
    ·replace h:=cndF hb15 h
     refine W.sk<|Px.bk ?_
     refine Px.sq<|W.rx [(1,_),(4,_)] (Vm q<|Rv (O.add (.lit q) (.k q))<|RunL.re (G1:=[(1,_),(29,_)]) (tn2 q q)<|Va q<|Fi (tn2 q q)) ?_
     obtain rfl:=sm h
     exact Px.go (tn2 q q)
   ·replace h:=cndF hb12 h
    refine W.xi ?_
    refine Px.sqE ?_
    obtain rfl:=sm h
    exact Px.x2 (.n q .nil)
  ·subst hx
   refine Px.bkH ?_
   refine Px.sq<|W.sq' ?_
   refine W.sq'<|W.rx [(1,_),(5,_)] (Vk q<|Fi (tn2 q q)) ?_
   refine Px.sq<|W.bk ?_
   obtain ⟨x17,hl,h⟩:=bnd h
   refine W.tr (G1:=[(1,_),(5,_)]) (tn2 q q) ?_
   refine W.lp2 (s:=0) (fun (s16:Int)=>[(1,.obj [SS a0.Pro,iR eDecl_0 a0.Decls,iR eRule_0 a0.Rules,SS a0.Tail]),(5,I64 s16)]) 4 (fun (x18:Unit)=>[(1,.obj [SS a0.Pro,iR eDecl_0 a0.Decls,iR eRule_0 a0.Rules,SS a0.Tail])]) (fun (x19:Bool)=>[(2,BB x19)]) hl (fun s16 o h=>?_) (fun x18 hx=>?_) (fun x19 hx=>?_)
   ·clear hl
    refine W.sq'<|W.sq' ?_
    refine W.rx [(1,_),(5,_),(41,_)] (Vm q<|Rv (O.fO q (.obj q) fd25_2 q)<|Rv (O.ldO (y:=iR eRule_0 a0.Rules) q (.ptr q) ct23 q q)<|Rv (O.lenI (.imm q) sl23)<|Rv (O.lss (.lit q) (.lit q))<|Fi (tn3 q q q)) ?_
    refine Px.sq<|W.cnd q (fun hb20=>?_) (fun hb20=>?_)
    ·replace h:=cndT hb20 h
     refine W.sk<|Px.sq ?_
     refine W.sq'<|W.bk ?_
     refine W.sq' ?_
     obtain ⟨x21,hx21,h⟩:=bnd h
     refine W.rx [(1,_),(5,_),(6,_)] (Rv (O.fO q (.obj q) fd25_2 q)<|Rv (O.ldO (y:=iR eRule_0 a0.Rules) q (.ptr q) ct23 q q)<|Vm q<|Rv (O.ixI (.imm q) (.lit q) sl23 hx21)<|Rv (O.ldIN (cs':=[SS x21.Left,iR eAlt_0 x21.Alts,I64 x21.At]) (.iptr q) at65 q q)<|Rv (O.al (cs:=[SS S0,.nils,I64 0]) ze65 q q)<|RunL.sO (G2:=[(1,.obj [SS a0.Pro,iR eDecl_0 a0.Decls,iR eRule_0 a0.Rules,SS a0.Tail]),(5,I64 s16),(6,.obj (eRule_0.cells x21))]) (cs2:=[SS x21.Left,iR eAlt_0 x21.Alts,I64 x21.At]) q (.obj q) (.aggF q q) q sz65 q q q q (.n q q (.n q q (.b q .nil)))<|Fi (tn3 q q q)) ?_
     refine Px.sq<|W.sq' ?_
     refine W.sq' ?_
     obtain ⟨c24,hj,h⟩:=bnd h
     refine W.rx [(1,.obj [SS a0.Pro,iR eDecl_0 a0.Decls,iR eRule_0 a0.Rules,SS a0.Tail]),(5,I64 s16),(6,.obj (eRule_0.cells x21)),(58,BB c24)] ?_ ?_
     ·refine Rv (O.fO q (.obj q) fd65_0 q)<|Rv (O.ldO (y:=SS x21.Left) q (.ptr q) ct9 q q) ?_
      obtain ⟨x22,hx22,hj⟩:=bnd hj
      refine Rc (PC.go (.cc (.lit q) .nil) (con105 x21.Left _ hx22) call105 q)<|Rv (O.not (.lit q))<|Rv (O.mv (.lit q)) ?_
      rcases cnd hj with ⟨hb23,hj⟩ | ⟨hb23,hj⟩
      ·obtain rfl:=sm hj
       exact RunL.ps q q hb23 q q<|RunL.ps q q hb23 q q<|RunL.ps q q hb23 q q<|RunL.ps q q hb23 q q<|Rv (O.pkT (.lit q) hb23 (.k q))<|Fi (tn4 q q q q)
      ·obtain rfl:=sm hj
       exact RunL.v (O.fO q (.obj q) fd65_1 q) q q (.yb q q hb23)<|RunL.v (O.ldO (y:=iR eAlt_0 x21.Alts) q (.ptr q) ct63 q q) q q (.yb q q hb23)<|RunL.v (O.lenI (.imm q) sl63) q q (.yb q q hb23)<|RunL.v (O.eql (.lit q) (.k q)) q q (.yb q q hb23)<|Rv (O.pkF (.lit q) hb23 (.lit q))<|Fi (tn4 q q q q)
     refine Px.sq<|W.cnd q (fun hb25=>?_) (fun hb25=>?_)
     ·replace h:=cndT hb25 h
      refine W.sq'<|W.rx [(2,_)] (Vk q<|Fi (.n q .nil)) ?_
      refine Px.sq<|W.rt ?_
      refine Px.sqR ?_
      refine Px.bkR ?_
      refine Px.sqR ?_
      obtain rfl:=sm h
      exact Px.r2 (.n q .nil)
     ·replace h:=cndF hb25 h
      refine W.sk<|Px.sq ?_
      refine W.sq'<|W.rx [(1,_),(5,_),(6,_),(7,_)] (Vk q<|Fi (tn4 q q q q)) ?_
      refine Px.sq<|W.bk ?_
      obtain ⟨x27,hl,h⟩:=bnd h
      refine W.tr (G1:=[(1,_),(5,_),(6,_),(7,_)]) (tn4 q q q q) ?_
      refine W.lp2 (s:=0) (fun (s26:Int)=>[(1,.obj [SS a0.Pro,iR eDecl_0 a0.Decls,iR eRule_0 a0.Rules,SS a0.Tail]),(5,I64 s16),(6,.obj (eRule_0.cells x21)),(7,I64 s26)]) 6 (fun (x28:Unit)=>[(1,.obj [SS a0.Pro,iR eDecl_0 a0.Decls,iR eRule_0 a0.Rules,SS a0.Tail]),(5,I64 s16)]) (fun (x29:Bool)=>[(2,BB x29)]) hl (fun s26 o h=>?_) (fun x28 hx=>?_) (fun x29 hx=>?_)
      ·clear hl
       refine W.sq'<|W.sq' ?_
       refine W.rx [(1,_),(5,_),(6,_),(7,_),(63,_)] (Vm q<|Rv (O.fO q (.obj q) fd65_1 q)<|Rv (O.ldO (y:=iR eAlt_0 x21.Alts) q (.ptr q) ct63 q q)<|Rv (O.lenI (.imm q) sl63)<|Rv (O.lss (.lit q) (.lit q))<|Fi (tn5 q q q q q)) ?_
       refine Px.sq<|W.cnd q (fun hb30=>?_) (fun hb30=>?_)
       ·replace h:=cndT hb30 h
        refine W.sk<|Px.sq ?_
        refine W.sq'<|W.bk ?_
        refine W.sq' ?_
        obtain ⟨x31,hx31,h⟩:=bnd h
        obtain ⟨x32,hx32,h⟩:=bnd h
        refine W.rx [(1,_),(5,_),(6,_),(7,_),(72,_)] (Rv (O.fO q (.obj q) fd65_1 q)<|Rv (O.ldO (y:=iR eAlt_0 x21.Alts) q (.ptr q) ct63 q q)<|Vm q<|Rv (O.ixI (.imm q) (.lit q) sl63 hx31)<|Rv (O.ldIN (cs':=[iR ePart x31.Parts,SS x31.Prec.Name,BB x31.Prec.Lit,I64 x31.Prec.Num,I64 x31.Prec.At,I64 x31.At]) (.iptr q) at62 q q)<|Rc (PC.go (.cc (.aggF q q) .nil) (con106 x31 _ hx32) call106 q)<|Rv (O.not (.lit q))<|Fi (tn5 q q q q q)) ?_
        refine Px.sq<|W.cnd q (fun hb33=>?_) (fun hb33=>?_)
        ·replace h:=cndT hb33 h
         refine W.sq'<|W.rx [(2,_)] (Vk q<|Fi (.n q .nil)) ?_
         refine Px.sq<|W.rt ?_
         refine Px.bkR ?_
         refine Px.sqR ?_
         obtain rfl:=sm h
         exact Px.r2 (.n q .nil)
        ·replace h:=cndF hb33 h
         refine W.sk<|Px.bk ?_
         refine Px.sq<|W.rx [(1,_),(5,_),(6,_),(7,_)] (Vm q<|Rv (O.add (.lit q) (.k q))<|RunL.re (G1:=[(1,_),(5,_),(6,_),(65,_)]) (tn4 q q q q)<|Va q<|Fi (tn4 q q q q)) ?_
         obtain rfl:=sm h
         exact Px.go (tn4 q q q q)
       ·replace h:=cndF hb30 h
        refine W.xi ?_
        refine Px.sqE ?_
        obtain rfl:=sm h
        exact Px.x2 (tn2 q q)
      ·subst hx
       refine Px.bkH ?_
       refine Px.bk ?_
       refine Px.sq<|W.rx [(1,_),(5,_)] (Vm q<|Rv (O.add (.lit q) (.k q))<|RunL.re (G1:=[(1,_),(43,_)]) (tn2 q q)<|Va q<|Fi (tn2 q q)) ?_
       obtain rfl:=sm h
       exact Px.go (tn2 q q)
      ·subst hx
       refine Px.bkR ?_
       refine Px.bkR ?_
       refine Px.sqR ?_
       obtain rfl:=sm h
       exact Px.r2 (.n q .nil)
    ·replace h:=cndF hb20 h
     refine W.xi ?_
     refine Px.sqE ?_
     obtain rfl:=sm h
     exact Px.x2 (.n q .nil)
   ·subst hx
    refine Px.bkH ?_
    refine Px.sq<|W.sq' ?_
    refine W.rx [(2,_)] (Rv (O.fO q (.obj q) fd25_2 q)<|Rv (O.ldO (y:=iR eRule_0 a0.Rules) q (.ptr q) ct23 q q)<|Rv (O.lenI (.imm q) sl23)<|Rv (O.gtr (.lit q) (.k q))<|Va q<|Fi (.n q .nil)) ?_
    refine Px.sq<|W.rt ?_
    obtain rfl:=sm h
    exact Px.fin (Fin.ro (.f q q .nil) q (ode (by kernel_rfl)) (.no .nil) q (.inr q))
   ·subst hx
    refine Px.bkR ?_
    refine Px.sqR ?_
    obtain rfl:=sm h
    exact Px.fin (Fin.ro (.f q q .nil) q (ode (by kernel_rfl)) (.no .nil) q (.inr q))
  ·subst hx
   refine Px.bkR ?_
   refine Px.sqR ?_
   obtain rfl:=sm h
   exact Px.fin (Fin.ro (.f q q .nil) q (ode (by kernel_rfl)) (.no .nil) q (.inr q))
 ·subst hx
  refine Px.bkR ?_
  refine Px.sqR ?_
  obtain rfl:=sm h
  exact Px.fin (Fin.ro (.f q q .nil) q (ode (by kernel_rfl)) (.no .nil) q (.inr q))
theorem con90 (a0:yuccaref9_maker) (a1:Int) (a2:ByteArray) (r:yuccaref9_maker) (h:pf90 a0 a1 a2=some r):Con Try.prog 90 [.obj (eyuccaref9_maker_r.cells a0),I64 a1,SS a2] [some (.obj [oR eTok r.f_g.Toks,oR eNon r.f_g.Nons,oR eProd_0 r.f_g.Prods,SS r.f_g.Pro,SS r.f_g.Tail,oR eB r.f_given,oR eNon r.f_types,oR eS r.f_lefts,I64 r.f_e,I64 r.f_at,SS r.f_name,I64 r.f_level,I64 r.f_inner]),none,none] (.tup []):=by
 unfold pf90 at h
 refine Con.go (N:=⟨22,[0]⟩) Try.func90 q q q q (W.fin ?_)
 refine W.st [(0,.obj (eyuccaref9_maker_r.cells a0)),(1,I64 a1),(2,SS a2)] ?_
 refine W.sq'<|W.rx [(0,_),(1,_),(2,_),(10,_)] (Rv (O.mv (.obj q))<|Rv (O.nlP (.ptr q))<|Rv (O.fO q (.ptr q) fd143_4 q)<|Rv (O.ldO (y:=I64 a0.f_e) q (.ptr q) ct3 q q)<|Rv (O.eql (.lit q) (.k q))<|Fi (tn4 q q q q)) ?_
 refine Px.sq ?_
 obtain ⟨j1,hj,h⟩:=bnd h
 refine W.jn [(0,.obj (eyuccaref9_maker_r.cells j1))] ?_ ?_
 ·clear h; have h:=hj; clear hj
  refine W.cnd q (fun hb2=>?_) (fun hb2=>?_)
  ·replace h:=cndT hb2 h
   refine W.rx [(0,_)] (Rv (O.mv (.obj q))<|Rv (O.mv (.obj q))<|Rv (O.mv (.obj q))<|Vm q<|Vm q<|Rv (O.nlP (.ptr q))<|Rv (O.fO q (.ptr q) fd143_4 q)<|RunL.sO (G2:=[(0,.obj [oR eTok a0.f_g.Toks,oR eNon a0.f_g.Nons,oR eProd_0 a0.f_g.Prods,SS a0.f_g.Pro,SS a0.f_g.Tail,oR eB a0.f_given,oR eNon a0.f_types,oR eS a0.f_lefts,I64 3,I64 a0.f_at,SS a0.f_name,I64 a0.f_level,I64 a0.f_inner]),(12,.ptr ⟨0,[]⟩ 0),(13,.ptr ⟨0,[]⟩ 0),(14,I64 a1),(15,SS a2)]) (cs2:=[oR eTok a0.f_g.Toks,oR eNon a0.f_g.Nons,oR eProd_0 a0.f_g.Prods,SS a0.f_g.Pro,SS a0.f_g.Tail,oR eB a0.f_given,oR eNon a0.f_types,oR eS a0.f_lefts,I64 3,I64 a0.f_at,SS a0.f_name,I64 a0.f_level,I64 a0.f_inner]) q (.ptr q) (.k q) q sz3 q q q q (.b q (.p q q q q q q (.p q q q q q q (.n q q (.n q q .nil)))))<|Rv (O.nlP (.ptr q))<|Rv (O.fO q (.ptr q) fd143_5 q)<|RunL.sO (G2:=[(0,.obj [oR eTok a0.f_g.Toks,oR eNon a0.f_g.Nons,oR eProd_0 a0.f_g.Prods,SS a0.f_g.Pro,SS a0.f_g.Tail,oR eB a0.f_given,oR eNon a0.f_types,oR eS a0.f_lefts,I64 3,I64 a1,SS a0.f_name,I64 a0.f_level,I64 a0.f_inner]),(13,.ptr ⟨0,[]⟩ 0),(15,SS a2)]) (cs2:=[oR eTok a0.f_g.Toks,oR eNon a0.f_g.Nons,oR eProd_0 a0.f_g.Prods,SS a0.f_g.Pro,SS a0.f_g.Tail,oR eB a0.f_given,oR eNon a0.f_types,oR eS a0.f_lefts,I64 3,I64 a1,SS a0.f_name,I64 a0.f_level,I64 a0.f_inner]) q (.ptr q) (.lit q) q sz3 q q q q (.b q (.p q q q q q q (.n q q .nil)))<|Rv (O.nlP (.ptr q))<|Rv (O.fO q (.ptr q) fd143_6 q)<|RunL.sO (G2:=[(0,.obj [oR eTok a0.f_g.Toks,oR eNon a0.f_g.Nons,oR eProd_0 a0.f_g.Prods,SS a0.f_g.Pro,SS a0.f_g.Tail,oR eB a0.f_given,oR eNon a0.f_types,oR eS a0.f_lefts,I64 3,I64 a1,SS a2,I64 a0.f_level,I64 a0.f_inner])]) (cs2:=[oR eTok a0.f_g.Toks,oR eNon a0.f_g.Nons,oR eProd_0 a0.f_g.Prods,SS a0.f_g.Pro,SS a0.f_g.Tail,oR eB a0.f_given,oR eNon a0.f_types,oR eS a0.f_lefts,I64 3,I64 a1,SS a2,I64 a0.f_level,I64 a0.f_inner]) q (.ptr q) (.lit q) q sz9 q q q q (.b q .nil)<|Fi (.n q .nil)) ?_
   obtain rfl:=sm h
   exact Px.jn (.n q .nil)
  ·replace h:=cndF hb2 h
   refine W.sk ?_
   obtain rfl:=sm h
   exact Px.jn (.n q .nil)
 obtain rfl:=sm h
 exact Px.fin (Fin.ro .nil q (ode (by kernel_rfl)) (.so q q (.no (.no .nil))) q (.inl q))
theorem con94 (a0:yuccaref9_maker) (a1:ByteArray) (r:Int) (h:pf94 a0 a1=some r):Con Try.prog 94 [.iptr ([iR eTok a0.f_g.Toks,iR eNon a0.f_g.Nons,iR eProd_0 a0.f_g.Prods,SS a0.f_g.Pro,SS a0.f_g.Tail,iR eB a0.f_given,iR eNon a0.f_types,iR eS a0.f_lefts,I64 a0.f_e,I64 a0.f_at,SS a0.f_name,I64 a0.f_level,I64 a0.f_inner]),SS a1] [none,none] (I64 r):=by
 unfold pf94 at h
 refine Con.go (N:=⟨26,[]⟩) Try.func94 q q q q (W.fin ?_)
 refine W.st [(0,.iptr ([iR eTok a0.f_g.Toks,iR eNon a0.f_g.Nons,iR eProd_0 a0.f_g.Prods,SS a0.f_g.Pro,SS a0.f_g.Tail,iR eB a0.f_given,iR eNon a0.f_types,iR eS a0.f_lefts,I64 a0.f_e,I64 a0.f_at,SS a0.f_name,I64 a0.f_level,I64 a0.f_inner])),(1,SS a1)] ?_
 refine W.sq'<|W.rx [(0,_),(1,_)] (Vk q<|Fi (tn2 q q)) ?_
 refine Px.sq<|W.sq' ?_
 refine W.sq'<|W.rx [(0,_),(1,_),(5,_)] (Vk q<|Fi (tn3 q q q)) ?_
 refine Px.sq<|W.bk ?_
 obtain ⟨x2,hl,h⟩:=bnd h
 refine W.tr (G1:=[(0,_),(1,_),(5,_)]) (tn3 q q q) ?_
 refine W.lp2 (s:=0) (fun (s1:Int)=>[(0,.iptr ([iR eTok a0.f_g.Toks,iR eNon a0.f_g.Nons,iR eProd_0 a0.f_g.Prods,SS a0.f_g.Pro,SS a0.f_g.Tail,iR eB a0.f_given,iR eNon a0.f_types,iR eS a0.f_lefts,I64 a0.f_e,I64 a0.f_at,SS a0.f_name,I64 a0.f_level,I64 a0.f_inner])),(1,SS a1),(5,I64 s1)]) 0 (fun (x3:Unit)=>[]) (fun (x4:Int)=>[(4,I64 x4)]) hl (fun s1 o h=>?_) (fun x3 hx=>?_) (fun x4 hx=>?_)
 ·clear hl
  refine W.sq'<|W.sq' ?_
  refine W.rx [(0,_),(1,_),(5,_),(12,_)] (Vm q<|Rv (O.mv (.iptr q))<|Rv (O.nlI (.iptr q))<|Rv (O.fI (.iptr q) fd143_2)<|Rv (O.ldI (x:=iR eNon a0.f_types) (.iptr q) ct35 q)<|Rv (O.lenI (.imm q) sl35)<|Rv (O.lss (.lit q) (.lit q))<|Fi (tn4 q q q q)) ?_
  refine Px.sq<|W.cnd q (fun hb5=>?_) (fun hb5=>?_)
  ·replace h:=cndT hb5 h
   refine W.sk<|Px.sq ?_
   refine W.sq'<|W.bk ?_
   refine W.sq' ?_
   obtain ⟨x6,hx6,h⟩:=bnd h
   refine W.rx [(0,_),(1,_),(5,_),(24,_)] (Rv (O.mv (.iptr q))<|Rv (O.nlI (.iptr q))<|Rv (O.fI (.iptr q) fd143_2)<|Rv (O.ldI (x:=iR eNon a0.f_types) (.iptr q) ct35 q)<|Vm q<|Rv (O.ixI (.imm q) (.lit q) sl35 hx6)<|Rv (O.fI (.iptr q) fd134_0)<|Rv (O.ldI (x:=SS x6.Name) (.iptr q) ct9 q)<|Vm q<|Rv (O.eqS (.lit q) (.lit q))<|Fi (tn4 q q q q)) ?_
   refine Px.sq<|W.cnd q (fun hb7=>?_) (fun hb7=>?_)
   ·replace h:=cndT hb7 h
    refine W.sq'<|W.rx [(4,_)] (Vm q<|Va q<|Fi (.n q .nil)) ?_
    refine Px.sq<|W.rt ?_
    refine Px.bkR ?_
    refine Px.sqR ?_
    obtain rfl:=sm h
    exact Px.r2 (.n q .nil)
   ·replace h:=cndF hb7 h
    refine W.sk<|Px.bk ?_
    refine Px.sq<|W.rx [(0,_),(1,_),(5,_)] (Vm q<|Rv (O.add (.lit q) (.k q))<|RunL.re (G1:=[(0,_),(1,_),(14,_)]) (tn3 q q q)<|Va q<|Fi (tn3 q q q)) ?_
    obtain rfl:=sm h
    exact Px.go (tn3 q q q)
  ·replace h:=cndF hb5 h
   refine W.xi ?_
   refine Px.sqE ?_
   obtain rfl:=sm h
   exact Px.x2 .nil
 ·subst hx
  refine Px.bkH ?_
  refine Px.sq<|W.sq' ?_
  refine W.rx [(4,_)] (Vk q<|Fi (.n q .nil)) ?_
  refine Px.sq<|W.rt ?_
  obtain rfl:=sm h
  exact Px.fin (Fin.ro (.f q q .nil) q (ode (by kernel_rfl)) (.no (.no .nil)) q (.inr q))
 ·subst hx
  refine Px.bkR ?_
  refine Px.sqR ?_
  obtain rfl:=sm h
  exact Px.fin (Fin.ro (.f q q .nil) q (ode (by kernel_rfl)) (.no (.no .nil)) q (.inr q))
theorem con91 (a0:yuccaref9_maker) (a1:Sym) (r:Int) (h:pf91 a0 a1=some r):Con Try.prog 91 [.iptr ([iR eTok a0.f_g.Toks,iR eNon a0.f_g.Nons,iR eProd_0 a0.f_g.Prods,SS a0.f_g.Pro,SS a0.f_g.Tail,iR eB a0.f_given,iR eNon a0.f_types,iR eS a0.f_lefts,I64 a0.f_e,I64 a0.f_at,SS a0.f_name,I64 a0.f_level,I64 a0.f_inner]),.agg (eSym.cells a1)] [none,none] (I64 r):=by
 unfold pf91 at h
 refine Con.go (N:=⟨47,[]⟩) Try.func91 q q q q (W.fin ?_)
 refine W.st [(0,.iptr ([iR eTok a0.f_g.Toks,iR eNon a0.f_g.Nons,iR eProd_0 a0.f_g.Prods,SS a0.f_g.Pro,SS a0.f_g.Tail,iR eB a0.f_given,iR eNon a0.f_types,iR eS a0.f_lefts,I64 a0.f_e,I64 a0.f_at,SS a0.f_name,I64 a0.f_level,I64 a0.f_inner])),(1,.agg (eSym.cells a1))] ?_
 refine W.sq'<|W.rx [(0,_),(3,_)] (Rv (O.box (.aggF q q) q)<|Vk q<|Fi (tn2 q q)) ?_
 refine Px.sq<|W.sq' ?_
 refine W.sq'<|W.rx [(0,_),(3,_),(5,_)] (Vk q<|Fi (tn3 q q q)) ?_
 refine Px.sq<|W.bk ?_
 obtain ⟨x2,hl,h⟩:=bnd h
 refine W.tr (G1:=[(0,_),(3,_),(5,_)]) (tn3 q q q) ?_
 refine W.lp2 (s:=1) (fun (s1:Int)=>[(0,.iptr ([iR eTok a0.f_g.Toks,iR eNon a0.f_g.Nons,iR eProd_0 a0.f_g.Prods,SS a0.f_g.Pro,SS a0.f_g.Tail,iR eB a0.f_given,iR eNon a0.f_types,iR eS a0.f_lefts,I64 a0.f_e,I64 a0.f_at,SS a0.f_name,I64 a0.f_level,I64 a0.f_inner])),(3,.obj (eSym.cells a1)),(5,I64 s1)]) 0 (fun (x3:Unit)=>[]) (fun (x4:Int)=>[(4,I64 x4)]) hl (fun s1 o h=>?_) (fun x3 hx=>?_) (fun x4 hx=>?_)
 ·clear hl
  refine W.sq'<|W.sq' ?_
  refine W.rx [(0,_),(3,_),(5,_),(13,_)] (Vm q<|Rv (O.mv (.iptr q))<|Rv (O.nlI (.iptr q))<|Rv (O.fI (.iptr q) fd143_0)<|Rv (O.fI (.iptr q) fd38_0)<|Rv (O.ldI (x:=iR eTok a0.f_g.Toks) (.iptr q) ct34 q)<|Rv (O.lenI (.imm q) sl34)<|Rv (O.lss (.lit q) (.lit q))<|Fi (tn4 q q q q)) ?_
  refine Px.sq<|W.cnd q (fun hb5=>?_) (fun hb5=>?_)
  ·replace h:=cndT hb5 h
   refine W.sk<|Px.sq ?_
   refine W.sq'<|W.bk ?_
   refine W.sq' ?_
   obtain ⟨c10,hj,h⟩:=bnd h
   refine W.rd [[],[0],[0,1],[0,1,2],[0,1,2,3],[],rn 0 6 [],rn 0 7 [],rn 0 8 [],[],[9],rn 0 11 [],rn 0 12 [],rn 0 13 [],rn 0 14 [],rn 0 15 [],rn 0 16 [],rn 0 17 [],rn 0 13 [],rn 0 19 [],rn 0 20 [],rn 0 21 [],rn 0 13 [],rn 0 13 [22],rn 0 24 [],rn 0 25 [],rn 0 26 [],rn 0 27 [],rn 0 28 [],rn 0 29 []] [(0,.iptr ([iR eTok a0.f_g.Toks,iR eNon a0.f_g.Nons,iR eProd_0 a0.f_g.Prods,SS a0.f_g.Pro,SS a0.f_g.Tail,iR eB a0.f_given,iR eNon a0.f_types,iR eS a0.f_lefts,I64 a0.f_e,I64 a0.f_at,SS a0.f_name,I64 a0.f_level,I64 a0.f_inner])),(3,.obj (eSym.cells a1)),(5,I64 s1),(45,BB c10)] mixo (by kernel_rfl) ?_ ?_
   ·refine Dv 0 (O.mv (.iptr q))<|Dv 1 (O.nlI (.iptr q))<|Dv 2 (O.fI (.iptr q) fd143_0)<|Dv 3 (O.fI (.iptr q) fd38_0)<|Dv 4 (O.ldI (x:=iR eTok a0.f_g.Toks) (.iptr q) ct34 q)<|Dv 5 (O.mv (.lit q)) ?_
    obtain ⟨x6,hx6,hj⟩:=bnd hj
    refine Dv 6 (O.ixI (.imm q) (.lit q) sl34 hx6)<|Dv 7 (O.fI (.iptr q) fd51_0)<|Dv 8 (O.ldI (x:=SS x6.Name) (.iptr q) ct9 q)<|Dv 9 (O.fO q (.obj q) fd59_0 q)<|Dv 10 (O.ldO (y:=SS a1.Name) q (.ptr q) ct9 q q)<|Dv 11 (O.eqS (.lit q) (.lit q))<|Dv 12 (O.mv (.lit q)) ?_
    rcases cnd hj with ⟨hb7,hj⟩ | ⟨hb7,hj⟩
    ·refine DL.v 13 (O.mv (.iptr q)) q q q q (.yb q q hb7)<|DL.v 14 (O.nlI (.iptr q)) q q q q (.yb q q hb7)<|DL.v 15 (O.fI (.iptr q) fd143_0) q q q q (.yb q q hb7)<|DL.v 16 (O.fI (.iptr q) fd38_0) q q q q (.yb q q hb7)<|DL.v 17 (O.ldI (x:=iR eTok a0.f_g.Toks) (.iptr q) ct34 q) q q q q (.yb q q hb7)<|DL.v 18 (O.mv (.lit q)) q q q q (.yb q q hb7) ?_
     obtain ⟨x8,hx8,hj⟩:=bnd hj
     refine DL.v 19 (O.ixI (.imm q) (.lit q) sl34 hx8) q q q q (.yb q q hb7)<|DL.v 20 (O.fI (.iptr q) fd51_1) q q q q (.yb q q hb7)<|DL.v 21 (O.ldI (x:=BB x8.Lit) (.iptr q) ct4 q) q q q q (.yb q q hb7)<|DL.v 22 (O.fO q (.obj q) fd59_1 q) q q q q (.yb q q hb7)<|DL.v 23 (O.ldO (y:=BB a1.Lit) q (.ptr q) ct4 q q) q q q q (.yb q q hb7)<|DL.v 24 (O.eqB (.lit q) (.lit q) bt4) q q q q (.yb q q hb7)<|Dv 25 (O.pkT (.lit q) hb7 (.lit q))<|Dv 26 (O.mv (.lit q)) ?_
     rcases cnd hj with ⟨hb9,hj⟩ | ⟨hb9,hj⟩
     ·obtain rfl:=sm hj
      exact DL.v 27 (O.mv (.lit q)) q q q q (.yb q q hb9)<|DL.v 28 (O.neq (.lit q) (.k q)) q q q q (.yb q q hb9)<|Dv 29 (O.pkT (.lit q) hb9 (.lit q))<|DL.fin q q q (tn4 q q q q)
     ·obtain rfl:=sm hj
      exact DL.ps 27 q q hb9 q q q q<|DL.ps 28 q q hb9 q q q q<|Dv 29 (O.pkF (.lit q) hb9 (.k q))<|DL.fin q q q (tn4 q q q q)
    ·obtain rfl:=sm hj
     exact DL.ps 13 q q hb7 q q q q<|DL.ps 14 q q hb7 q q q q<|DL.ps 15 q q hb7 q q q q<|DL.ps 16 q q hb7 q q q q<|DL.ps 17 q q hb7 q q q q<|DL.ps 18 q q hb7 q q q q<|DL.ps 19 q q hb7 q q q q<|DL.ps 20 q q hb7 q q q q<|DL.ps 21 q q hb7 q q q q<|DL.ps 22 q q hb7 q q q q<|DL.ps 23 q q hb7 q q q q<|DL.ps 24 q q hb7 q q q q<|Dv 25 (O.pkF (.lit q) hb7 (.k q))<|Dv 26 (O.mv (.lit q))<|DL.ps 27 q q q q q q q<|DL.ps 28 q q q q q q q<|Dv 29 (O.pkF (.lit q) q (.k q))<|DL.fin q q q (tn4 q q q q)
   refine Px.sq<|W.cnd q (fun hb11=>?_) (fun hb11=>?_)
   ·replace h:=cndT hb11 h
    refine W.sq'<|W.rx [(4,_)] (Vm q<|Va q<|Fi (.n q .nil)) ?_
    refine Px.sq<|W.rt ?_
    refine Px.bkR ?_
    refine Px.sqR ?_
    obtain rfl:=sm h
    exact Px.r2 (.n q .nil)
   ·replace h:=cndF hb11 h
    refine W.sk<|Px.bk ?_
    refine Px.sq<|W.rx [(0,_),(3,_),(5,_)] (Vm q<|Rv (O.add (.lit q) (.k q))<|RunL.re (G1:=[(0,_),(3,_),(15,_)]) (tn3 q q q)<|Va q<|Fi (tn3 q q q)) ?_
    obtain rfl:=sm h
    exact Px.go (tn3 q q q)
  ·replace h:=cndF hb5 h
   refine W.xi ?_
   refine Px.sqE ?_
   obtain rfl:=sm h
   exact Px.x2 .nil
 ·subst hx
  refine Px.bkH ?_
  refine Px.sq<|W.sq' ?_
  refine W.rx [(4,_)] (Vk q<|Fi (.n q .nil)) ?_
  refine Px.sq<|W.rt ?_
  obtain rfl:=sm h
  exact Px.fin (Fin.ro (.f q q .nil) q (ode (by kernel_rfl)) (.no (.no .nil)) q (.inr q))
 ·subst hx
  refine Px.bkR ?_
  refine Px.sqR ?_
  obtain rfl:=sm h
  exact Px.fin (Fin.ro (.f q q .nil) q (ode (by kernel_rfl)) (.no (.no .nil)) q (.inr q))
theorem con108 (a0:yuccaref9_maker) (a1:Int) (r:Int) (h:pf108 a0 a1=some r):Con Try.prog 108 [.iptr ([iR eTok a0.f_g.Toks,iR eNon a0.f_g.Nons,iR eProd_0 a0.f_g.Prods,SS a0.f_g.Pro,SS a0.f_g.Tail,iR eB a0.f_given,iR eNon a0.f_types,iR eS a0.f_lefts,I64 a0.f_e,I64 a0.f_at,SS a0.f_name,I64 a0.f_level,I64 a0.f_inner]),I64 a1] [none,none] (I64 r):=by
 unfold pf108 at h
 refine Con.go (N:=⟨28,[]⟩) Try.func108 q q q q (W.fin ?_)
 refine W.st [(0,.iptr ([iR eTok a0.f_g.Toks,iR eNon a0.f_g.Nons,iR eProd_0 a0.f_g.Prods,SS a0.f_g.Pro,SS a0.f_g.Tail,iR eB a0.f_given,iR eNon a0.f_types,iR eS a0.f_lefts,I64 a0.f_e,I64 a0.f_at,SS a0.f_name,I64 a0.f_level,I64 a0.f_inner])),(1,I64 a1)] ?_
 refine W.sq'<|W.rx [(0,_),(1,_)] (Vk q<|Fi (tn2 q q)) ?_
 refine Px.sq<|W.sq' ?_
 refine W.sq'<|W.rx [(0,_),(1,_),(5,_)] (Vk q<|Fi (tn3 q q q)) ?_
 refine Px.sq<|W.bk ?_
 obtain ⟨x2,hl,h⟩:=bnd h
 refine W.tr (G1:=[(0,_),(1,_),(5,_)]) (tn3 q q q) ?_
 refine W.lp2 (s:=3) (fun (s1:Int)=>[(0,.iptr ([iR eTok a0.f_g.Toks,iR eNon a0.f_g.Nons,iR eProd_0 a0.f_g.Prods,SS a0.f_g.Pro,SS a0.f_g.Tail,iR eB a0.f_given,iR eNon a0.f_types,iR eS a0.f_lefts,I64 a0.f_e,I64 a0.f_at,SS a0.f_name,I64 a0.f_level,I64 a0.f_inner])),(1,I64 a1),(5,I64 s1)]) 0 (fun (x3:Unit)=>[]) (fun (x4:Int)=>[(4,I64 x4)]) hl (fun s1 o h=>?_) (fun x3 hx=>?_) (fun x4 hx=>?_)
 ·clear hl
  refine W.sq'<|W.sq' ?_
  refine W.rx [(0,_),(1,_),(5,_),(13,_)] (Vm q<|Rv (O.mv (.iptr q))<|Rv (O.nlI (.iptr q))<|Rv (O.fI (.iptr q) fd143_0)<|Rv (O.fI (.iptr q) fd38_0)<|Rv (O.ldI (x:=iR eTok a0.f_g.Toks) (.iptr q) ct34 q)<|Rv (O.lenI (.imm q) sl34)<|Rv (O.lss (.lit q) (.lit q))<|Fi (tn4 q q q q)) ?_
  refine Px.sq<|W.cnd q (fun hb5=>?_) (fun hb5=>?_)
  ·replace h:=cndT hb5 h
   refine W.sk<|Px.sq ?_
   refine W.sq'<|W.bk ?_
   refine W.sq' ?_
   obtain ⟨x6,hx6,h⟩:=bnd h
   refine W.rx [(0,_),(1,_),(5,_),(26,_)] (Rv (O.mv (.iptr q))<|Rv (O.nlI (.iptr q))<|Rv (O.fI (.iptr q) fd143_0)<|Rv (O.fI (.iptr q) fd38_0)<|Rv (O.ldI (x:=iR eTok a0.f_g.Toks) (.iptr q) ct34 q)<|Vm q<|Rv (O.ixI (.imm q) (.lit q) sl34 hx6)<|Rv (O.fI (.iptr q) fd51_2)<|Rv (O.ldI (x:=I64 x6.Num) (.iptr q) ct3 q)<|Vm q<|Rv (O.eql (.lit q) (.lit q))<|Fi (tn4 q q q q)) ?_
   refine Px.sq<|W.cnd q (fun hb7=>?_) (fun hb7=>?_)
   ·replace h:=cndT hb7 h
    refine W.sq'<|W.rx [(4,_)] (Vm q<|Va q<|Fi (.n q .nil)) ?_
    refine Px.sq<|W.rt ?_
    refine Px.bkR ?_
    refine Px.sqR ?_
    obtain rfl:=sm h
    exact Px.r2 (.n q .nil)
   ·replace h:=cndF hb7 h
    refine W.sk<|Px.bk ?_
    refine Px.sq<|W.rx [(0,_),(1,_),(5,_)] (Vm q<|Rv (O.add (.lit q) (.k q))<|RunL.re (G1:=[(0,_),(1,_),(15,_)]) (tn3 q q q)<|Va q<|Fi (tn3 q q q)) ?_
    obtain rfl:=sm h
    exact Px.go (tn3 q q q)
  ·replace h:=cndF hb5 h
   refine W.xi ?_
   refine Px.sqE ?_
   obtain rfl:=sm h
   exact Px.x2 .nil
 ·subst hx
  refine Px.bkH ?_
  refine Px.sq<|W.sq' ?_
  refine W.rx [(4,_)] (Vk q<|Fi (.n q .nil)) ?_
  refine Px.sq<|W.rt ?_
  obtain rfl:=sm h
  exact Px.fin (Fin.ro (.f q q .nil) q (ode (by kernel_rfl)) (.no (.no .nil)) q (.inr q))
 ·subst hx
  refine Px.bkR ?_
  refine Px.sqR ?_
  obtain rfl:=sm h
  exact Px.fin (Fin.ro (.f q q .nil) q (ode (by kernel_rfl)) (.no (.no .nil)) q (.inr q))
theorem con107 (a0:yuccaref9_maker) (a1:Sym) (r:Int × yuccaref9_maker) (h:pf107 a0 a1=some r):Con Try.prog 107 [.obj (eyuccaref9_maker_r.cells a0),.agg (eSym.cells a1)] [some (.obj [oR eTok r.2.f_g.Toks,oR eNon r.2.f_g.Nons,oR eProd_0 r.2.f_g.Prods,SS r.2.f_g.Pro,SS r.2.f_g.Tail,oR eB r.2.f_given,oR eNon r.2.f_types,oR eS r.2.f_lefts,I64 r.2.f_e,I64 r.2.f_at,SS r.2.f_name,I64 r.2.f_level,I64 r.2.f_inner]),none] (I64 r.1):=by
 unfold pf107 at h
 refine Con.go (N:=⟨66,[0]⟩) Try.func107 q q q q (W.fin ?_)
 refine W.st [(0,.obj (eyuccaref9_maker_r.cells a0)),(1,.agg (eSym.cells a1))] ?_
 refine W.sq'<|W.rx [(0,_),(3,_)] (Rv (O.box (.aggF q q) q)<|Vk q<|Fi (tn2 q q)) ?_
 refine Px.sq<|W.sq' ?_
 obtain ⟨x1,hx1,h⟩:=bnd h
 refine W.rx [(0,_),(3,_),(5,_)] (Rv (O.mv (.obj q))<|Rv (O.ldON (cs':=[SS a1.Name,BB a1.Lit,I64 a1.Num,I64 a1.At]) q (.obj q) at59 q q)<|Rc (PC.vw (ys:=[.ptr ⟨0,[]⟩ 0,.agg (eSym.cells a1)]) q (.c (View.p0 q q) (.c (.ag (.s (.s (.s (.s .nil))))) .nil)) (con91 a0 a1 _ hx1) call91 q)<|Va q<|Fi (tn3 q q q)) ?_
 refine Px.sq<|W.sq' ?_
 refine W.sq'<|W.rx [(0,_),(3,_),(5,_),(11,_)] (Vm q<|Rv (O.geq (.lit q) (.k q))<|Fi (tn4 q q q q)) ?_
 refine Px.sq<|W.cnd q (fun hb2=>?_) (fun hb2=>?_)
 ·replace h:=cndT hb2 h
  refine W.sq'<|W.rx [(0,_),(4,_)] (Vm q<|Va q<|Fi (tn2 q q)) ?_
  refine Px.sq<|W.rt ?_
  refine Px.sqR ?_
  obtain rfl:=sm h
  exact Px.fin (Fin.ro (.f q q .nil) q (ode (by kernel_rfl)) (.so q q (.no .nil)) q (.inr q))
 ·replace h:=cndF hb2 h
  refine W.sk<|Px.sq ?_
  refine W.sq'<|W.rx [(0,_),(3,_),(6,_)] (Rv (O.fO q (.obj q) fd59_0 q)<|Rv (O.ldO (y:=SS a1.Name) q (.ptr q) ct9 q q)<|Rv (O.fO q (.obj q) fd59_1 q)<|Rv (O.ldO (y:=BB a1.Lit) q (.ptr q) ct4 q q)<|Rv (O.bu (cs:=[SS a1.Name,BB a1.Lit,I64 0,I64 0,I64 0,SS S0]) sc51 ze51 q q q)<|Rv (O.al (cs:=[SS S0,BB false,I64 0,I64 0,I64 0,SS S0]) ze51 q q)<|RunL.sO (G2:=[(0,.obj (eyuccaref9_maker_r.cells a0)),(3,.obj (eSym.cells a1)),(6,.obj [SS a1.Name,BB a1.Lit,I64 0,I64 0,I64 0,SS S0])]) (cs2:=[SS a1.Name,BB a1.Lit,I64 0,I64 0,I64 0,SS S0]) q (.obj q) (.aggF q q) q sz51 q q q q (.n q q (.n q q (.b q .nil)))<|Fi (tn3 q q q)) ?_
  refine Px.sq<|W.sq' ?_
  refine W.sq'<|W.rx [(0,_),(3,_),(6,_),(19,_)] (Rv (O.fO q (.obj q) fd59_1 q)<|Rv (O.ldO (y:=BB a1.Lit) q (.ptr q) ct4 q q)<|Fi (tn4 q q q q)) ?_
  refine Px.sq ?_
  obtain ⟨j3,hj,h⟩:=bnd h
  refine W.jn [(0,.obj (eyuccaref9_maker_r.cells j3.1)),(3,.obj (eSym.cells a1)),(6,.obj [SS a1.Name,BB a1.Lit,I64 j3.2,I64 0,I64 0,SS S0])] ?_ ?_
  ·clear h; have h:=hj; clear hj
   refine W.cnd q (fun hb4=>?_) (fun hb4=>?_)
   ·replace h:=cndT hb4 h
    refine W.sq' ?_
    obtain ⟨x5,hx5,h⟩:=bnd h
    refine W.rx [(0,_),(3,_),(6,_)] (Rv (O.fO q (.obj q) fd59_0 q)<|Rv (O.ldO (y:=SS a1.Name) q (.ptr q) ct9 q q)<|Rv (O.at' (.lit q) (.k q) st9 hx5)<|Rv (O.cvI (.lit q) it5 it3)<|Rv (O.fO q (.obj q) fd51_2 q)<|RunL.sO (G2:=[(0,.obj (eyuccaref9_maker_r.cells a0)),(3,.obj (eSym.cells a1)),(6,.obj [SS a1.Name,BB a1.Lit,I64 (w64 x5),I64 0,I64 0,SS S0])]) (cs2:=[SS a1.Name,BB a1.Lit,I64 (w64 x5),I64 0,I64 0,SS S0]) q (.ptr q) (.lit q) q sz3 q q q q (.n q q (.n q q (.b q .nil)))<|Fi (tn3 q q q)) ?_
    refine Px.sq<|W.sq' ?_
    obtain ⟨x6,hx6,h⟩:=bnd h
    refine W.rx [(0,_),(3,_),(6,_),(29,_)] (Rv (O.mv (.obj q))<|Rv (O.fO q (.obj q) fd51_2 q)<|Rv (O.ldO (y:=I64 (w64 x5)) q (.ptr q) ct3 q q)<|Rc (PC.vw (ys:=[.ptr ⟨0,[]⟩ 0,I64 (w64 x5)]) q (.c (View.p0 q q) (.s .nil)) (con108 a0 (w64 x5) _ hx6) call108 q)<|Rv (O.geq (.lit q) (.k q))<|Fi (tn4 q q q q)) ?_
    refine Px.sq ?_
    obtain ⟨j7,hj,h⟩:=bnd h
    refine W.jn [(0,.obj (eyuccaref9_maker_r.cells j7)),(3,.obj (eSym.cells a1)),(6,.obj [SS a1.Name,BB a1.Lit,I64 (w64 x5),I64 0,I64 0,SS S0])] ?_ ?_
    ·clear h; have h:=hj; clear hj
     refine W.cnd q (fun hb8=>?_) (fun hb8=>?_)
     ·replace h:=cndT hb8 h
      obtain ⟨x9,hx9,h⟩:=bnd h
      refine W.rx [(0,_),(3,_),(6,_)] (Rv (O.mv (.obj q))<|Rv (O.fO q (.obj q) fd59_3 q)<|Rv (O.ldO (y:=I64 a1.At) q (.ptr q) ct3 q q)<|Rv (O.fO q (.obj q) fd59_0 q)<|Rv (O.ldO (y:=SS a1.Name) q (.ptr q) ct9 q q)<|RunL.ef (G2:=[(35,.tup []),(0,.obj [oR eTok x9.f_g.Toks,oR eNon x9.f_g.Nons,oR eProd_0 x9.f_g.Prods,SS x9.f_g.Pro,SS x9.f_g.Tail,oR eB x9.f_given,oR eNon x9.f_types,oR eS x9.f_lefts,I64 x9.f_e,I64 x9.f_at,SS x9.f_name,I64 x9.f_level,I64 x9.f_inner]),(3,.obj (eSym.cells a1)),(6,.obj [SS a1.Name,BB a1.Lit,I64 (w64 x5),I64 0,I64 0,SS S0])]) q (EO.call q q (CallOk.ln (G2:=[(3,.obj (eSym.cells a1)),(6,.obj [SS a1.Name,BB a1.Lit,I64 (w64 x5),I64 0,I64 0,SS S0])]) (A:=[]) (ys:=[.ptr ⟨0,[]⟩ 0,I64 a1.At,SS a1.Name]) (args:=[.obj (eyuccaref9_maker_r.cells a0),I64 a1.At,SS a1.Name]) (cs':=[oR eTok x9.f_g.Toks,oR eNon x9.f_g.Nons,oR eProd_0 x9.f_g.Prods,SS x9.f_g.Pro,SS x9.f_g.Tail,oR eB x9.f_given,oR eNon x9.f_types,oR eS x9.f_lefts,I64 x9.f_e,I64 x9.f_at,SS x9.f_name,I64 x9.f_level,I64 x9.f_inner]) (k0:=0) q q q q (.b q (.n q (.n q .nil))) q (con90 a0 a1.At a1.Name _ hx9) call90 (tn2 q q) q q (tn2 q q) .nil q))<|Fi (tn3 q q q)) ?_
      obtain rfl:=sm h
      exact Px.jn (tn3 q q q)
     ·replace h:=cndF hb8 h
      refine W.sk ?_
      obtain rfl:=sm h
      exact Px.jn (tn3 q q q)
    obtain rfl:=sm h
    exact Px.jn (tn3 q q q)
   ·replace h:=cndF hb4 h
    refine W.sk ?_
    obtain rfl:=sm h
    exact Px.jn (tn3 q q q)
  refine Px.sq<|W.sq' ?_
  obtain ⟨x10,hx10,h⟩:=bnd h
  refine W.rd [[],[],[1],[1,2],[1,2,3],[1,2,3,4],[],[6],rn 1 7 [],rn 0 9 [],rn 0 10 [],rn 0 11 [],rn 0 12 []] [(0,_),(3,_)] mixo (by kernel_rfl) (Dv 0 (O.mv (.obj q))<|Dv 1 (O.mv (.obj q))<|Dv 2 (O.nlP (.ptr q))<|Dv 3 (O.fO q (.ptr q) fd143_0 q)<|Dv 4 (O.fO q (.ptr q) fd38_0 q)<|Dv 5 (O.ldO (y:=.brw eTok.z ⟨0,[0]⟩ j3.1.f_g.Toks.length) q (.ptr q) ct34 q q)<|Dv 6 (O.ldON (cs':=[SS a1.Name,BB a1.Lit,I64 j3.2,I64 0,I64 0,SS S0]) q (.obj q) at51 q q)<|DL.vi 7 (x:=iR eTok [(⟨a1.Name,a1.Lit,j3.2,0,0,S0⟩:Tok)]) (O.bs (ys:=[.agg [SS a1.Name,BB a1.Lit,I64 j3.2,I64 0,I64 0,SS S0]]) eTok [(⟨a1.Name,a1.Lit,j3.2,0,0,S0⟩:Tok)] sl34 q q q q q q zt51 q q) q q q q .none<|Dv 8 (O.ap (en:=eTok) (r:=x10) (.brw q) q (.imm q) .i ap34 q hx10)<|Dv 9 (O.nlP (.ptr q))<|Dv 10 (O.fO q (.ptr q) fd143_0 q)<|Dv 11 (O.fO q (.ptr q) fd38_0 q)<|DL.bp 12 (G2:=[(0,.obj [oR eTok (j3.1.f_g.Toks++[(⟨a1.Name,a1.Lit,j3.2,0,0,S0⟩:Tok)]),oR eNon j3.1.f_g.Nons,oR eProd_0 j3.1.f_g.Prods,SS j3.1.f_g.Pro,SS j3.1.f_g.Tail,oR eB j3.1.f_given,oR eNon j3.1.f_types,oR eS j3.1.f_lefts,I64 j3.1.f_e,I64 j3.1.f_at,SS j3.1.f_name,I64 j3.1.f_level,I64 j3.1.f_inner]),(3,.obj (eSym.cells a1))]) (EO.stP (g1:=_) (en:=eTok) (M:=[(⟨a1.Name,a1.Lit,j3.2,0,0,S0⟩:Tok)]) (cs2:=[oR eTok (j3.1.f_g.Toks++[(⟨a1.Name,a1.Lit,j3.2,0,0,S0⟩:Tok)]),oR eNon j3.1.f_g.Nons,oR eProd_0 j3.1.f_g.Prods,SS j3.1.f_g.Pro,SS j3.1.f_g.Tail,oR eB j3.1.f_given,oR eNon j3.1.f_types,oR eS j3.1.f_lefts,I64 j3.1.f_e,I64 j3.1.f_at,SS j3.1.f_name,I64 j3.1.f_level,I64 j3.1.f_inner]) q q (.ptr q) (.pend q) q q q .ns .rf q q sz34 q q q q (.b q (.n q q .nil))) q q q q (by kernel_rfl) (by kernel_rfl)<|DL.fin q q q (tn2 q q)) ?_
  refine Px.sq<|W.sq' ?_
  obtain ⟨x11,hx11,h⟩:=bnd h
  refine W.rd [[],[],[1],[1,2],[1,2,3],[],[5],[5,6],rn 1 7 [],rn 0 9 [],rn 0 10 [],rn 0 11 []] [(0,_)] mixo (by kernel_rfl) (Dv 0 (O.mv (.obj q))<|Dv 1 (O.mv (.obj q))<|Dv 2 (O.nlP (.ptr q))<|Dv 3 (O.fO q (.ptr q) fd143_1 q)<|Dv 4 (O.ldO (y:=.brw eB.z ⟨0,[5]⟩ j3.1.f_given.length) q (.ptr q) ct116 q q)<|Dv 5 (O.fO q (.obj q) fd59_1 q)<|Dv 6 (O.ldO (y:=BB a1.Lit) q (.ptr q) ct4 q q)<|DL.vi 7 (x:=iR eB [a1.Lit]) (O.bs (ys:=[BB a1.Lit]) eB [a1.Lit] sl116 q q q q q q zt4 q q) q q q q .none<|Dv 8 (O.ap (en:=eB) (r:=x11) (.brw q) q (.imm q) .i ap116 q hx11)<|Dv 9 (O.nlP (.ptr q))<|Dv 10 (O.fO q (.ptr q) fd143_1 q)<|DL.bp 11 (G2:=[(0,.obj [oR eTok (j3.1.f_g.Toks++[(⟨a1.Name,a1.Lit,j3.2,0,0,S0⟩:Tok)]),oR eNon j3.1.f_g.Nons,oR eProd_0 j3.1.f_g.Prods,SS j3.1.f_g.Pro,SS j3.1.f_g.Tail,oR eB (j3.1.f_given++[a1.Lit]),oR eNon j3.1.f_types,oR eS j3.1.f_lefts,I64 j3.1.f_e,I64 j3.1.f_at,SS j3.1.f_name,I64 j3.1.f_level,I64 j3.1.f_inner])]) (EO.stP (g1:=_) (en:=eB) (M:=[a1.Lit]) (cs2:=[oR eTok (j3.1.f_g.Toks++[(⟨a1.Name,a1.Lit,j3.2,0,0,S0⟩:Tok)]),oR eNon j3.1.f_g.Nons,oR eProd_0 j3.1.f_g.Prods,SS j3.1.f_g.Pro,SS j3.1.f_g.Tail,oR eB (j3.1.f_given++[a1.Lit]),oR eNon j3.1.f_types,oR eS j3.1.f_lefts,I64 j3.1.f_e,I64 j3.1.f_at,SS j3.1.f_name,I64 j3.1.f_level,I64 j3.1.f_inner]) q q (.ptr q) (.pend q) q q q .ns .rf q q sz116 q q q q (.b q .nil)) q q q q (by kernel_rfl) (by kernel_rfl)<|DL.fin q q q (.n q .nil)) ?_
  refine Px.sq<|W.sq' ?_
  refine W.rx [(0,_),(4,_)] (Rv (O.mv (.obj q))<|Rv (O.nlP (.ptr q))<|Rv (O.fO q (.ptr q) fd143_0 q)<|Rv (O.fO q (.ptr q) fd38_0 q)<|Rv (O.ldO (y:=.brw eTok.z ⟨0,[0]⟩ (j3.1.f_g.Toks++[(⟨a1.Name,a1.Lit,j3.2,0,0,S0⟩:Tok)]).length) q (.ptr q) ct34 q q)<|Rv (O.lenO (.brw q) sl34)<|Rv (O.sub (.lit q) (.k q))<|Va q<|Fi (tn2 q q)) ?_
  refine Px.sq<|W.rt ?_
  obtain rfl:=sm h
  exact Px.fin (Fin.ro (.f q q .nil) q (ode (by kernel_rfl)) (.so q q (.no .nil)) q (.inr q))
theorem conq90_0 (v:Value) (a0:yuccaref9_maker) (a1:Int) (a2:ByteArray) (r:yuccaref9_maker) (h:pf90 a0 a1 a2=some r):Con Try.prog 90 [.obj [.lit v,oR eNon a0.f_g.Nons,oR eProd_0 a0.f_g.Prods,SS a0.f_g.Pro,SS a0.f_g.Tail,oR eB a0.f_given,oR eNon a0.f_types,oR eS a0.f_lefts,I64 a0.f_e,I64 a0.f_at,SS a0.f_name,I64 a0.f_level,I64 a0.f_inner],I64 a1,SS a2] [some (.obj [.lit v,oR eNon r.f_g.Nons,oR eProd_0 r.f_g.Prods,SS r.f_g.Pro,SS r.f_g.Tail,oR eB r.f_given,oR eNon r.f_types,oR eS r.f_lefts,I64 r.f_e,I64 r.f_at,SS r.f_name,I64 r.f_level,I64 r.f_inner]),none,none] (.tup []):=by
 unfold pf90 at h
 refine Con.go (N:=⟨22,[0]⟩) Try.func90 q q q q (W.fin ?_)
 refine W.st [(0,.obj [.lit v,oR eNon a0.f_g.Nons,oR eProd_0 a0.f_g.Prods,SS a0.f_g.Pro,SS a0.f_g.Tail,oR eB a0.f_given,oR eNon a0.f_types,oR eS a0.f_lefts,I64 a0.f_e,I64 a0.f_at,SS a0.f_name,I64 a0.f_level,I64 a0.f_inner]),(1,I64 a1),(2,SS a2)] ?_
 refine W.sq'<|W.rx [(0,_),(1,_),(2,_),(10,_)] (Rv (O.mv (.obj q))<|Rv (O.nlP (.ptr q))<|Rv (O.fO q (.ptr q) fd143_4 q)<|Rv (O.ldO (y:=I64 a0.f_e) q (.ptr q) ct3 q q)<|Rv (O.eql (.lit q) (.k q))<|Fi (tn4 q q q q)) ?_
 refine Px.sq ?_
 obtain ⟨j1,hj,h⟩:=bnd h
 refine W.jn [(0,.obj [.lit v,oR eNon j1.f_g.Nons,oR eProd_0 j1.f_g.Prods,SS j1.f_g.Pro,SS j1.f_g.Tail,oR eB j1.f_given,oR eNon j1.f_types,oR eS j1.f_lefts,I64 j1.f_e,I64 j1.f_at,SS j1.f_name,I64 j1.f_level,I64 j1.f_inner])] ?_ ?_
 ·clear h; have h:=hj; clear hj
  refine W.cnd q (fun hb2=>?_) (fun hb2=>?_)
  ·replace h:=cndT hb2 h
   refine W.rx [(0,_)] (Rv (O.mv (.obj q))<|Rv (O.mv (.obj q))<|Rv (O.mv (.obj q))<|Vm q<|Vm q<|Rv (O.nlP (.ptr q))<|Rv (O.fO q (.ptr q) fd143_4 q)<|RunL.sO (G2:=[(0,.obj [.lit v,oR eNon a0.f_g.Nons,oR eProd_0 a0.f_g.Prods,SS a0.f_g.Pro,SS a0.f_g.Tail,oR eB a0.f_given,oR eNon a0.f_types,oR eS a0.f_lefts,I64 3,I64 a0.f_at,SS a0.f_name,I64 a0.f_level,I64 a0.f_inner]),(12,.ptr ⟨0,[]⟩ 0),(13,.ptr ⟨0,[]⟩ 0),(14,I64 a1),(15,SS a2)]) (cs2:=[.lit v,oR eNon a0.f_g.Nons,oR eProd_0 a0.f_g.Prods,SS a0.f_g.Pro,SS a0.f_g.Tail,oR eB a0.f_given,oR eNon a0.f_types,oR eS a0.f_lefts,I64 3,I64 a0.f_at,SS a0.f_name,I64 a0.f_level,I64 a0.f_inner]) q (.ptr q) (.k q) q sz3 q q q q (.b q (.p q q q q q q (.p q q q q q q (.n q q (.n q q .nil)))))<|Rv (O.nlP (.ptr q))<|Rv (O.fO q (.ptr q) fd143_5 q)<|RunL.sO (G2:=[(0,.obj [.lit v,oR eNon a0.f_g.Nons,oR eProd_0 a0.f_g.Prods,SS a0.f_g.Pro,SS a0.f_g.Tail,oR eB a0.f_given,oR eNon a0.f_types,oR eS a0.f_lefts,I64 3,I64 a1,SS a0.f_name,I64 a0.f_level,I64 a0.f_inner]),(13,.ptr ⟨0,[]⟩ 0),(15,SS a2)]) (cs2:=[.lit v,oR eNon a0.f_g.Nons,oR eProd_0 a0.f_g.Prods,SS a0.f_g.Pro,SS a0.f_g.Tail,oR eB a0.f_given,oR eNon a0.f_types,oR eS a0.f_lefts,I64 3,I64 a1,SS a0.f_name,I64 a0.f_level,I64 a0.f_inner]) q (.ptr q) (.lit q) q sz3 q q q q (.b q (.p q q q q q q (.n q q .nil)))<|Rv (O.nlP (.ptr q))<|Rv (O.fO q (.ptr q) fd143_6 q)<|RunL.sO (G2:=[(0,.obj [.lit v,oR eNon a0.f_g.Nons,oR eProd_0 a0.f_g.Prods,SS a0.f_g.Pro,SS a0.f_g.Tail,oR eB a0.f_given,oR eNon a0.f_types,oR eS a0.f_lefts,I64 3,I64 a1,SS a2,I64 a0.f_level,I64 a0.f_inner])]) (cs2:=[.lit v,oR eNon a0.f_g.Nons,oR eProd_0 a0.f_g.Prods,SS a0.f_g.Pro,SS a0.f_g.Tail,oR eB a0.f_given,oR eNon a0.f_types,oR eS a0.f_lefts,I64 3,I64 a1,SS a2,I64 a0.f_level,I64 a0.f_inner]) q (.ptr q) (.lit q) q sz9 q q q q (.b q .nil)<|Fi (.n q .nil)) ?_
   obtain rfl:=sm h
   exact Px.jn (.n q .nil)
  ·replace h:=cndF hb2 h
   refine W.sk ?_
   obtain rfl:=sm h
   exact Px.jn (.n q .nil)
 obtain rfl:=sm h
 exact Px.fin (Fin.ro .nil q (ode (by kernel_rfl)) (.so q q (.no (.no .nil))) q (.inl q))
theorem con89 (a0:yuccaref9_maker) (a1:Decl) (a2:Sym) (r:yuccaref9_maker) (h:pf89 a0 a1 a2=some r):Con Try.prog 89 [.obj (eyuccaref9_maker_r.cells a0),.agg (eDecl_0.cells a1),.agg (eSym.cells a2)] [some (.obj [oR eTok r.f_g.Toks,oR eNon r.f_g.Nons,oR eProd_0 r.f_g.Prods,SS r.f_g.Pro,SS r.f_g.Tail,oR eB r.f_given,oR eNon r.f_types,oR eS r.f_lefts,I64 r.f_e,I64 r.f_at,SS r.f_name,I64 r.f_level,I64 r.f_inner]),none,none] (.tup []):=by
 unfold pf89 at h
 refine Con.go (N:=⟨152,[0]⟩) Try.func89 q q q q (W.fin ?_)
 refine W.st [(0,.obj (eyuccaref9_maker_r.cells a0)),(1,.agg (eDecl_0.cells a1)),(2,.agg (eSym.cells a2))] ?_
 refine W.sq'<|W.rx [(0,_),(4,_),(5,_)] (Rv (O.box (.aggF q q) q)<|Rv (O.box (.aggF q q) q)<|Fi (tn3 q q q)) ?_
 refine Px.sq<|W.sq' ?_
 refine W.sq'<|W.rx [(0,_),(4,_),(5,_),(11,_)] (Rv (O.fO q (.obj q) fd55_0 q)<|Rv (O.ldO (y:=I64 a1.Kind) q (.ptr q) ct3 q q)<|Rv (O.eql (.lit q) (.k q))<|Fi (tn4 q q q q)) ?_
 refine Px.sq<|W.cnd q (fun hb1=>?_) (fun hb1=>?_)
 ·replace h:=cndT hb1 h
  refine W.sq' ?_
  obtain ⟨x2,hx2,h⟩:=bnd h
  refine W.rx [(0,_),(4,_),(5,_),(6,_)] (Rv (O.mv (.obj q))<|Rv (O.fO q (.obj q) fd59_0 q)<|Rv (O.ldO (y:=SS a2.Name) q (.ptr q) ct9 q q)<|Rc (PC.vw (ys:=[.ptr ⟨0,[]⟩ 0,SS a2.Name]) q (.c (View.p0 q q) (.s .nil)) (con94 a0 a2.Name _ hx2) call94 q)<|Va q<|Fi (tn4 q q q q)) ?_
  refine Px.sq<|W.sq' ?_
  refine W.sq'<|W.rx [(0,_),(4,_),(5,_),(6,_),(17,_)] (Vm q<|Rv (O.lss (.lit q) (.k q))<|Fi (tn5 q q q q q)) ?_
  refine Px.sq ?_
  obtain ⟨j3,hj,h⟩:=bnd h
  refine W.jn [(0,.obj (eyuccaref9_maker_r.cells j3))] ?_ ?_
  ·clear h; have h:=hj; clear hj
   refine W.cnd q (fun hb4=>?_) (fun hb4=>?_)
   ·replace h:=cndT hb4 h
    obtain ⟨x5,hx5,h⟩:=bnd h
    refine W.rd [[],[],[1],[1,2],[1,2,3],[],[5],[],[7],[5,6,7,8],rn 5 5 [],rn 1 10 [],rn 0 12 [],rn 0 13 [],rn 0 14 []] [(0,_)] mixo (by kernel_rfl) (Dv 0 (O.mv (.obj q))<|Dv 1 (O.mv (.obj q))<|Dv 2 (O.nlP (.ptr q))<|Dv 3 (O.fO q (.ptr q) fd143_2 q)<|Dv 4 (O.ldO (y:=.brw eNon.z ⟨0,[6]⟩ a0.f_types.length) q (.ptr q) ct35 q q)<|Dv 5 (O.fO q (.obj q) fd59_0 q)<|Dv 6 (O.ldO (y:=SS a2.Name) q (.ptr q) ct9 q q)<|Dv 7 (O.fO q (.obj q) fd55_1 q)<|Dv 8 (O.ldO (y:=SS a1.Tag) q (.ptr q) ct9 q q)<|Dv 9 (O.bu (cs:=[SS a2.Name,SS a1.Tag]) sc134 ze134 q q q)<|DL.vi 10 (x:=iR eNon [(⟨a2.Name,a1.Tag⟩:Non)]) (O.bs (ys:=[.agg [SS a2.Name,SS a1.Tag]]) eNon [(⟨a2.Name,a1.Tag⟩:Non)] sl35 q q q q q q zt134 q q) q q q q .none<|Dv 11 (O.ap (en:=eNon) (r:=x5) (.brw q) q (.imm q) .i ap35 q hx5)<|Dv 12 (O.nlP (.ptr q))<|Dv 13 (O.fO q (.ptr q) fd143_2 q)<|DL.bp 14 (G2:=[(0,.obj [oR eTok a0.f_g.Toks,oR eNon a0.f_g.Nons,oR eProd_0 a0.f_g.Prods,SS a0.f_g.Pro,SS a0.f_g.Tail,oR eB a0.f_given,oR eNon (a0.f_types++[(⟨a2.Name,a1.Tag⟩:Non)]),oR eS a0.f_lefts,I64 a0.f_e,I64 a0.f_at,SS a0.f_name,I64 a0.f_level,I64 a0.f_inner])]) (EO.stP (g1:=_) (en:=eNon) (M:=[(⟨a2.Name,a1.Tag⟩:Non)]) (cs2:=[oR eTok a0.f_g.Toks,oR eNon a0.f_g.Nons,oR eProd_0 a0.f_g.Prods,SS a0.f_g.Pro,SS a0.f_g.Tail,oR eB a0.f_given,oR eNon (a0.f_types++[(⟨a2.Name,a1.Tag⟩:Non)]),oR eS a0.f_lefts,I64 a0.f_e,I64 a0.f_at,SS a0.f_name,I64 a0.f_level,I64 a0.f_inner]) q q (.ptr q) (.pend q) q q q .ns .rf q q sz35 q q q q (.b q .nil)) q q q q (by kernel_rfl) (by kernel_rfl)<|DL.fin q q q (.n q .nil)) ?_
    obtain rfl:=sm h
    exact Px.jn (.n q .nil)
   ·replace h:=cndF hb4 h
    refine W.sq' ?_
    obtain ⟨x6,hx6,h⟩:=bnd h
    refine W.rd [[],[0],[0,1],[0,1,2],[],rn 0 5 [],rn 0 6 [],rn 0 7 [],[],[8],rn 0 10 []] [(0,_),(5,_),(42,_)] mixo (by kernel_rfl) (Dv 0 (O.mv (.obj q))<|Dv 1 (O.nlP (.ptr q))<|Dv 2 (O.fO q (.ptr q) fd143_2 q)<|Dv 3 (O.ldO (y:=.brw eNon.z ⟨0,[6]⟩ a0.f_types.length) q (.ptr q) ct35 q q)<|Dv 4 (O.mv (.lit q))<|Dv 5 (O.ixO (en:=eNon) q (.brw q) (.lit q) sl35 hx6 q)<|Dv 6 (O.fE (en:=eNon) q (.ptr q) fd134_1 hx6 q q)<|Dv 7 (O.ldE (en:=eNon) (x':=SS x6.Tag) q (.ptr q) ct9 hx6 q q)<|Dv 8 (O.fO q (.obj q) fd55_1 q)<|Dv 9 (O.ldO (y:=SS a1.Tag) q (.ptr q) ct9 q q)<|Dv 10 (O.neS (.lit q) (.lit q))<|DL.fin q q q (tn3 q q q)) ?_
    refine Px.sq ?_
    obtain ⟨j7,hj,h⟩:=bnd h
    refine W.jn [(0,.obj (eyuccaref9_maker_r.cells j7))] ?_ ?_
    ·clear h; have h:=hj; clear hj
     refine W.cnd q (fun hb8=>?_) (fun hb8=>?_)
     ·replace h:=cndT hb8 h
      obtain ⟨x9,hx9,h⟩:=bnd h
      refine W.rx [(0,_)] (Rv (O.mv (.obj q))<|Rv (O.fO q (.obj q) fd59_3 q)<|Rv (O.ldO (y:=I64 a2.At) q (.ptr q) ct3 q q)<|Rv (O.fO q (.obj q) fd59_0 q)<|Rv (O.ldO (y:=SS a2.Name) q (.ptr q) ct9 q q)<|RunL.ef (G2:=[(48,.tup []),(0,.obj [oR eTok x9.f_g.Toks,oR eNon x9.f_g.Nons,oR eProd_0 x9.f_g.Prods,SS x9.f_g.Pro,SS x9.f_g.Tail,oR eB x9.f_given,oR eNon x9.f_types,oR eS x9.f_lefts,I64 x9.f_e,I64 x9.f_at,SS x9.f_name,I64 x9.f_level,I64 x9.f_inner])]) q (EO.call q q (CallOk.ln (G2:=[]) (A:=[]) (ys:=[.ptr ⟨0,[]⟩ 0,I64 a2.At,SS a2.Name]) (args:=[.obj (eyuccaref9_maker_r.cells a0),I64 a2.At,SS a2.Name]) (cs':=[oR eTok x9.f_g.Toks,oR eNon x9.f_g.Nons,oR eProd_0 x9.f_g.Prods,SS x9.f_g.Pro,SS x9.f_g.Tail,oR eB x9.f_given,oR eNon x9.f_types,oR eS x9.f_lefts,I64 x9.f_e,I64 x9.f_at,SS x9.f_name,I64 x9.f_level,I64 x9.f_inner]) (k0:=0) q q q q (.b q (.n q (.n q .nil))) q (con90 a0 a2.At a2.Name _ hx9) call90 .nil q q .nil .nil q))<|Fi (.n q .nil)) ?_
      obtain rfl:=sm h
      exact Px.jn (.n q .nil)
     ·replace h:=cndF hb8 h
      refine W.sk ?_
      obtain rfl:=sm h
      exact Px.jn (.n q .nil)
    obtain rfl:=sm h
    exact Px.jn (.n q .nil)
  refine Px.sq<|W.rt ?_
  refine Px.sqR ?_
  obtain rfl:=sm h
  exact Px.fin (Fin.ro .nil q (ode (by kernel_rfl)) (.so q q (.no (.no .nil))) q (.inr q))
 ·replace h:=cndF hb1 h
  refine W.sk<|Px.sq ?_
  refine W.sq' ?_
  obtain ⟨x10,hx10,h⟩:=bnd h
  refine W.rx [(0,_),(4,_),(5,_),(7,_)] (Rv (O.mv (.obj q))<|Rv (O.ldON (cs':=[SS a2.Name,BB a2.Lit,I64 a2.Num,I64 a2.At]) q (.obj q) at59 q q)<|RunL.ef (G2:=[(51,I64 x10.1),(0,.obj [oR eTok x10.2.f_g.Toks,oR eNon x10.2.f_g.Nons,oR eProd_0 x10.2.f_g.Prods,SS x10.2.f_g.Pro,SS x10.2.f_g.Tail,oR eB x10.2.f_given,oR eNon x10.2.f_types,oR eS x10.2.f_lefts,I64 x10.2.f_e,I64 x10.2.f_at,SS x10.2.f_name,I64 x10.2.f_level,I64 x10.2.f_inner]),(4,.obj (eDecl_0.cells a1)),(5,.obj (eSym.cells a2))]) q (EO.call q q (CallOk.ln (G2:=[(4,.obj (eDecl_0.cells a1)),(5,.obj (eSym.cells a2))]) (A:=[]) (ys:=[.ptr ⟨0,[]⟩ 0,.agg (eSym.cells a2)]) (args:=[.obj (eyuccaref9_maker_r.cells a0),.agg (eSym.cells a2)]) (cs':=[oR eTok x10.2.f_g.Toks,oR eNon x10.2.f_g.Nons,oR eProd_0 x10.2.f_g.Prods,SS x10.2.f_g.Pro,SS x10.2.f_g.Tail,oR eB x10.2.f_given,oR eNon x10.2.f_types,oR eS x10.2.f_lefts,I64 x10.2.f_e,I64 x10.2.f_at,SS x10.2.f_name,I64 x10.2.f_level,I64 x10.2.f_inner]) (k0:=0) q q q q (.b q (.n q .nil)) q (con107 a0 a2 _ hx10) call107 (tn2 q q) q q (tn2 q q) .nil q))<|Va q<|Fi (tn4 q q q q)) ?_
  refine Px.sq<|W.sq' ?_
  obtain ⟨x11,hx11,h⟩:=bnd h
  refine W.rx [(0,_),(4,_),(5,_),(7,_),(8,.ptr ⟨0,[0]⟩ (x10.1.toNat * eTok.z+0))] (Rv (O.mv (.obj q))<|Rv (O.nlP (.ptr q))<|Rv (O.fO q (.ptr q) fd143_0 q)<|Rv (O.fO q (.ptr q) fd38_0 q)<|Rv (O.ldO (y:=.brw eTok.z ⟨0,[0]⟩ x10.2.f_g.Toks.length) q (.ptr q) ct34 q q)<|Vm q<|Rv (O.ixO (en:=eTok) q (.brw q) (.lit q) sl34 hx11 q)<|Rv (O.az (.ptr q))<|Fi (.n q (.n q (.n q (.n q (.r q (RK.el (en:=eTok) q hx11 q) npPtr .nil)))))) ?_
  refine Px.sq<|W.sq' ?_
  refine W.sq'<|W.rx [(0,_),(4,_),(5,_),(7,_),(8,.ptr ⟨0,[0]⟩ (x10.1.toNat * eTok.z+0)),(61,_)] (Rv (O.fO q (.obj q) fd55_0 q)<|Rv (O.ldO (y:=I64 a1.Kind) q (.ptr q) ct3 q q)<|Rv (O.neq (.lit q) (.k q))<|Fi (.n q (.n q (.n q (.n q (.r q (RK.el (en:=eTok) q hx11 q) npPtr (.n q .nil))))))) ?_
  refine Px.sq ?_
  obtain ⟨j12,hj,h⟩:=bnd h
  refine W.jn [(0,.obj (eyuccaref9_maker_r.cells j12)),(4,.obj (eDecl_0.cells a1)),(5,.obj (eSym.cells a2)),(7,I64 x10.1),(8,.ptr ⟨0,[0]⟩ (x10.1.toNat * eTok.z+0))] ?_ ?_
  ·clear h; have h:=hj; clear hj
   refine W.cnd q (fun hb13=>?_) (fun hb13=>?_)
   ·replace h:=cndT hb13 h
    refine W.sq'<|W.sq' ?_
    refine W.rx [(0,_),(4,_),(5,_),(7,_),(8,.ptr ⟨0,[0]⟩ (x10.1.toNat * eTok.z+0)),(66,_)] (Rv (O.mv (.ptr q))<|Rv (O.nlP (.ptr q))<|Rv (O.fE (en:=eTok) q (.ptr q) fd51_3 hx11 q q)<|Rv (O.ldE (en:=eTok) (x':=I64 x11.Level) q (.ptr q) ct3 hx11 q q)<|Rv (O.gtr (.lit q) (.k q))<|Fi (.n q (.n q (.n q (.n q (.r q (RK.el (en:=eTok) q hx11 q) npPtr (.n q .nil))))))) ?_
    refine Px.sq ?_
    obtain ⟨j14,hj,h⟩:=bnd h
    refine W.jn [(0,.obj (eyuccaref9_maker_r.cells j14)),(4,.obj (eDecl_0.cells a1)),(5,.obj (eSym.cells a2)),(7,I64 x10.1),(8,.ptr ⟨0,[0]⟩ (x10.1.toNat * eTok.z+0))] ?_ ?_
    ·clear h; have h:=hj; clear hj
     refine W.cnd q (fun hb15=>?_) (fun hb15=>?_)
     ·replace h:=cndT hb15 h
      obtain ⟨x16,hx16,h⟩:=bnd h
      refine W.rx [(0,_),(4,_),(5,_),(7,_),(8,.ptr ⟨0,[0]⟩ (x10.1.toNat * eTok.z+0))] (Rv (O.mv (.obj q))<|Rv (O.fO q (.obj q) fd59_3 q)<|Rv (O.ldO (y:=I64 a2.At) q (.ptr q) ct3 q q)<|Rv (O.fO q (.obj q) fd59_0 q)<|Rv (O.ldO (y:=SS a2.Name) q (.ptr q) ct9 q q)<|RunL.ef (G2:=[(8,.ptr ⟨0,[0]⟩ (x10.1.toNat * eTok.z+0))]++[(72,.tup []),(0,.obj [oR eTok x10.2.f_g.Toks,oR eNon x16.f_g.Nons,oR eProd_0 x16.f_g.Prods,SS x16.f_g.Pro,SS x16.f_g.Tail,oR eB x16.f_given,oR eNon x16.f_types,oR eS x16.f_lefts,I64 x16.f_e,I64 x16.f_at,SS x16.f_name,I64 x16.f_level,I64 x16.f_inner]),(4,.obj (eDecl_0.cells a1)),(5,.obj (eSym.cells a2)),(7,I64 x10.1)]) q (EO.fr (r:=0) (k0:=0) (y:=oR eTok x10.2.f_g.Toks) (cs5:=[oR eTok x10.2.f_g.Toks,oR eNon x16.f_g.Nons,oR eProd_0 x16.f_g.Prods,SS x16.f_g.Pro,SS x16.f_g.Tail,oR eB x16.f_given,oR eNon x16.f_types,oR eS x16.f_lefts,I64 x16.f_e,I64 x16.f_at,SS x16.f_name,I64 x16.f_level,I64 x16.f_inner]) (G1:=fun v=>[(0,.obj [.lit v,oR eNon x10.2.f_g.Nons,oR eProd_0 x10.2.f_g.Prods,SS x10.2.f_g.Pro,SS x10.2.f_g.Tail,oR eB x10.2.f_given,oR eNon x10.2.f_types,oR eS x10.2.f_lefts,I64 x10.2.f_e,I64 x10.2.f_at,SS x10.2.f_name,I64 x10.2.f_level,I64 x10.2.f_inner]),(4,.obj (eDecl_0.cells a1)),(5,.obj (eSym.cells a2)),(7,I64 x10.1),(67,.ptr ⟨0,[]⟩ 0),(69,I64 a2.At),(71,SS a2.Name)]) (G4:=fun v=>[(72,.tup []),(0,.obj [.lit v,oR eNon x16.f_g.Nons,oR eProd_0 x16.f_g.Prods,SS x16.f_g.Pro,SS x16.f_g.Tail,oR eB x16.f_given,oR eNon x16.f_types,oR eS x16.f_lefts,I64 x16.f_e,I64 x16.f_at,SS x16.f_name,I64 x16.f_level,I64 x16.f_inner]),(4,.obj (eDecl_0.cells a1)),(5,.obj (eSym.cells a2)),(7,I64 x10.1)]) (c4:=fun v=>[.lit v,oR eNon x16.f_g.Nons,oR eProd_0 x16.f_g.Prods,SS x16.f_g.Pro,SS x16.f_g.Tail,oR eB x16.f_given,oR eNon x16.f_types,oR eS x16.f_lefts,I64 x16.f_e,I64 x16.f_at,SS x16.f_name,I64 x16.f_level,I64 x16.f_inner]) (G5:=[(72,.tup []),(0,.obj [oR eTok x10.2.f_g.Toks,oR eNon x16.f_g.Nons,oR eProd_0 x16.f_g.Prods,SS x16.f_g.Pro,SS x16.f_g.Tail,oR eB x16.f_given,oR eNon x16.f_types,oR eS x16.f_lefts,I64 x16.f_e,I64 x16.f_at,SS x16.f_name,I64 x16.f_level,I64 x16.f_inner]),(4,.obj (eDecl_0.cells a1)),(5,.obj (eSym.cells a2)),(7,I64 x10.1)]) (A:=[(8,.ptr ⟨0,[0]⟩ (x10.1.toNat * eTok.z+0))]) q q q q (fun v=>(.b q (.n q q (.n q q (.n q q (.p q q q q q q (.n q q (.n q q .nil)))))))) (fun v=>CallOk.ln (G2:=[(4,.obj (eDecl_0.cells a1)),(5,.obj (eSym.cells a2)),(7,I64 x10.1)]) (A:=[]) (ys:=[.ptr ⟨0,[]⟩ 0,I64 a2.At,SS a2.Name]) (args:=[.obj [.lit v,oR eNon x10.2.f_g.Nons,oR eProd_0 x10.2.f_g.Prods,SS x10.2.f_g.Pro,SS x10.2.f_g.Tail,oR eB x10.2.f_given,oR eNon x10.2.f_types,oR eS x10.2.f_lefts,I64 x10.2.f_e,I64 x10.2.f_at,SS x10.2.f_name,I64 x10.2.f_level,I64 x10.2.f_inner],I64 a2.At,SS a2.Name]) (cs':=[.lit v,oR eNon x16.f_g.Nons,oR eProd_0 x16.f_g.Prods,SS x16.f_g.Pro,SS x16.f_g.Tail,oR eB x16.f_given,oR eNon x16.f_types,oR eS x16.f_lefts,I64 x16.f_e,I64 x16.f_at,SS x16.f_name,I64 x16.f_level,I64 x16.f_inner]) (k0:=0) q q q q (.b q (.n q (.n q .nil))) q (conq90_0 v x10.2 a2.At a2.Name _ hx16) call90 (tn3 q q q) q q (tn3 q q q) .nil q) (fun v=>q) (fun v=>q) (fun v=>q) (fun v=>(.n q q (.b q (.n q q (.n q q (.n q q .nil)))))) q (.c (en:=eTok) (L:=x10.2.f_g.Toks) q q hx11 q q q .nil))<|Fi (.n q (.n q (.n q (.n q (.r q (RK.el (en:=eTok) q hx11 q) npPtr .nil)))))) ?_
      obtain rfl:=sm h
      exact Px.jn (.n q (.n q (.n q (.n q (.r q (RK.el (en:=eTok) q hx11 q) npPtr .nil)))))
     ·replace h:=cndF hb15 h
      refine W.sk ?_
      obtain rfl:=sm h
      exact Px.jn (.n q (.n q (.n q (.n q (.r q (RK.el (en:=eTok) q hx11 q) npPtr .nil)))))
    obtain ⟨x17,hx17,h⟩:=bnd h
    refine Px.sq<|W.rd [[],[],[],[2],[2,3],[2,3,4],[],[6],[6,7],[0,2,3,4,5],[0,2,3,4,5,9],[0,2,3,4,5,9,10],rn 0 12 [],rn 0 13 [],rn 0 14 []] [(0,_),(4,_),(5,_),(7,_),(8,.ptr ⟨0,[0]⟩ (x10.1.toNat * eTok.z+0))] mixo (by kernel_rfl) (Dv 0 (O.mv (.ptr q))<|Dv 1 (O.mv (.ptr q))<|Dv 2 (O.mv (.obj q))<|Dv 3 (O.nlP (.ptr q))<|Dv 4 (O.fO q (.ptr q) fd143_7 q)<|Dv 5 (O.ldO (y:=I64 j14.f_level) q (.ptr q) ct3 q q)<|Dv 6 (O.fO q (.obj q) fd55_0 q)<|Dv 7 (O.ldO (y:=I64 a1.Kind) q (.ptr q) ct3 q q)<|Dv 8 (O.sub (.lit q) (.k q))<|Dv 9 (O.nlP (.ptr q))<|Dv 10 (O.fE (en:=eTok) q (.ptr q) fd51_3 hx17 q q)<|DL.bu 11 (G2:=[(0,.obj [oR eTok (j14.f_g.Toks.set x10.1.toNat (⟨x17.Name,x17.Lit,x17.Num,j14.f_level,x17.Assoc,x17.Tag⟩:Tok)),oR eNon j14.f_g.Nons,oR eProd_0 j14.f_g.Prods,SS j14.f_g.Pro,SS j14.f_g.Tail,oR eB j14.f_given,oR eNon j14.f_types,oR eS j14.f_lefts,I64 j14.f_e,I64 j14.f_at,SS j14.f_name,I64 j14.f_level,I64 j14.f_inner]),(4,.obj (eDecl_0.cells a1)),(5,.obj (eSym.cells a2)),(7,I64 x10.1),(8,.ptr ⟨0,[0]⟩ (x10.1.toNat * eTok.z+0))]) (U:=[(8,81,some (I64 (w64 (a1.Kind - 1)))),(7,80,some (I64 a1.Kind)),(6,79,some (.ptr ⟨4,[]⟩ 0)),(1,74,some (.ptr ⟨0,[0]⟩ (x10.1.toNat * eTok.z+0)))]) (EffOk.v (EO.eff (EO.stE (en:=eTok) (y2:=(⟨x17.Name,x17.Lit,x17.Num,j14.f_level,x17.Assoc,x17.Tag⟩:Tok)) (cs':=[I64 j14.f_level]) (x2:=.obj [oR eTok (j14.f_g.Toks.set x10.1.toNat (⟨x17.Name,x17.Lit,x17.Num,j14.f_level,x17.Assoc,x17.Tag⟩:Tok)),oR eNon j14.f_g.Nons,oR eProd_0 j14.f_g.Prods,SS j14.f_g.Pro,SS j14.f_g.Tail,oR eB j14.f_given,oR eNon j14.f_types,oR eS j14.f_lefts,I64 j14.f_e,I64 j14.f_at,SS j14.f_name,I64 j14.f_level,I64 j14.f_inner]) q q (.ptr q) (.lit q) q hx17 sz3 q q q q q q q (.b q (.n q q (.n q q (.n q q (.e q q (.mk (en:=eTok) q hx17 q (idx_set_same hx17) q) q .nil)))))))) q q (by kernel_rfl) q q q (.c (.inr (.inl ⟨_,q⟩)) q q q q q (Gd.wanted .none) (O.sub (.lit q) (.k q)) (.c (.inr (.inl ⟨_,q⟩)) q q q q q (Gd.wanted .none) (O.ldO (y:=I64 a1.Kind) q (.ptr q) ct3 q q) (.c (.inr (.inr (.inr ⟨4,_,_,q,q,of_blt q,by simp⟩))) q q q q q (Gd.wanted .none) (O.fO q (.obj q) fd55_0 q) (.c (.inr (.inr (.inl ⟨8,_,_,q,q,q,by simp⟩))) q q q q q (Gd.wanted .none) (O.mv (.ptr q)) .nil)))) (by kernel_rfl)<|Dv 12 (O.nlP (.ptr q))<|Dv 13 (O.fE (en:=eTok) q (.ptr q) fd51_4 (idx_set_same hx17) q q)<|DL.bp 14 (G2:=[(0,.obj [oR eTok ((j14.f_g.Toks.set x10.1.toNat (⟨x17.Name,x17.Lit,x17.Num,j14.f_level,x17.Assoc,x17.Tag⟩:Tok)).set x10.1.toNat (⟨(⟨x17.Name,x17.Lit,x17.Num,j14.f_level,x17.Assoc,x17.Tag⟩:Tok).Name,(⟨x17.Name,x17.Lit,x17.Num,j14.f_level,x17.Assoc,x17.Tag⟩:Tok).Lit,(⟨x17.Name,x17.Lit,x17.Num,j14.f_level,x17.Assoc,x17.Tag⟩:Tok).Num,(⟨x17.Name,x17.Lit,x17.Num,j14.f_level,x17.Assoc,x17.Tag⟩:Tok).Level,w64 (a1.Kind - 1),(⟨x17.Name,x17.Lit,x17.Num,j14.f_level,x17.Assoc,x17.Tag⟩:Tok).Tag⟩:Tok)),oR eNon j14.f_g.Nons,oR eProd_0 j14.f_g.Prods,SS j14.f_g.Pro,SS j14.f_g.Tail,oR eB j14.f_given,oR eNon j14.f_types,oR eS j14.f_lefts,I64 j14.f_e,I64 j14.f_at,SS j14.f_name,I64 j14.f_level,I64 j14.f_inner]),(4,.obj (eDecl_0.cells a1)),(5,.obj (eSym.cells a2)),(7,I64 x10.1),(8,.ptr ⟨0,[0]⟩ (x10.1.toNat * eTok.z+0))]) (EO.stE (en:=eTok) (y2:=(⟨(⟨x17.Name,x17.Lit,x17.Num,j14.f_level,x17.Assoc,x17.Tag⟩:Tok).Name,(⟨x17.Name,x17.Lit,x17.Num,j14.f_level,x17.Assoc,x17.Tag⟩:Tok).Lit,(⟨x17.Name,x17.Lit,x17.Num,j14.f_level,x17.Assoc,x17.Tag⟩:Tok).Num,(⟨x17.Name,x17.Lit,x17.Num,j14.f_level,x17.Assoc,x17.Tag⟩:Tok).Level,w64 (a1.Kind - 1),(⟨x17.Name,x17.Lit,x17.Num,j14.f_level,x17.Assoc,x17.Tag⟩:Tok).Tag⟩:Tok)) (cs':=[I64 (w64 (a1.Kind - 1))]) (x2:=.obj [oR eTok ((j14.f_g.Toks.set x10.1.toNat (⟨x17.Name,x17.Lit,x17.Num,j14.f_level,x17.Assoc,x17.Tag⟩:Tok)).set x10.1.toNat (⟨(⟨x17.Name,x17.Lit,x17.Num,j14.f_level,x17.Assoc,x17.Tag⟩:Tok).Name,(⟨x17.Name,x17.Lit,x17.Num,j14.f_level,x17.Assoc,x17.Tag⟩:Tok).Lit,(⟨x17.Name,x17.Lit,x17.Num,j14.f_level,x17.Assoc,x17.Tag⟩:Tok).Num,(⟨x17.Name,x17.Lit,x17.Num,j14.f_level,x17.Assoc,x17.Tag⟩:Tok).Level,w64 (a1.Kind - 1),(⟨x17.Name,x17.Lit,x17.Num,j14.f_level,x17.Assoc,x17.Tag⟩:Tok).Tag⟩:Tok)),oR eNon j14.f_g.Nons,oR eProd_0 j14.f_g.Prods,SS j14.f_g.Pro,SS j14.f_g.Tail,oR eB j14.f_given,oR eNon j14.f_types,oR eS j14.f_lefts,I64 j14.f_e,I64 j14.f_at,SS j14.f_name,I64 j14.f_level,I64 j14.f_inner]) q q (.ptr q) (.lit q) q (idx_set_same hx17) sz3 q q q q q q q (.b q (.n q q (.n q q (.n q q (.e q q (.mk (en:=eTok) q (idx_set_same hx17) q (idx_set_same (idx_set_same hx17)) q) q .nil)))))) q q q q (by kernel_rfl) (by kernel_rfl)<|DL.fin q q q (.n q (.n q (.n q (.n q (.r q (RK.el (en:=eTok) q (idx_set_same (idx_set_same hx17)) q) npPtr .nil)))))) ?_
    obtain rfl:=sm h
    exact Px.jn (.n q (.n q (.n q (.n q (.r q (RK.el (en:=eTok) q (idx_set_same (idx_set_same hx17)) q) npPtr .nil)))))
   ·replace h:=cndF hb13 h
    refine W.sk ?_
    obtain rfl:=sm h
    exact Px.jn (.n q (.n q (.n q (.n q (.r q (RK.el (en:=eTok) q hx11 q) npPtr .nil)))))
  obtain ⟨x18,hx18,h⟩:=bnd h
  refine Px.sq<|W.sq' ?_
  refine W.sq'<|W.rx [(0,_),(4,_),(5,_),(7,_),(8,.ptr ⟨0,[0]⟩ (x10.1.toNat * eTok.z+0)),(88,_)] (Rv (O.fO q (.obj q) fd59_2 q)<|Rv (O.ldO (y:=I64 a2.Num) q (.ptr q) ct3 q q)<|Rv (O.gtr (.lit q) (.k q))<|Fi (.n q (.n q (.n q (.n q (.r q (RK.el (en:=eTok) q hx18 q) npPtr (.n q .nil))))))) ?_
  refine Px.sq ?_
  obtain ⟨j19,hj,h⟩:=bnd h
  refine W.jn [(0,.obj (eyuccaref9_maker_r.cells j19)),(4,.obj (eDecl_0.cells a1)),(5,.obj (eSym.cells a2)),(8,.ptr ⟨0,[0]⟩ (x10.1.toNat * eTok.z+0))] ?_ ?_
  ·clear h; have h:=hj; clear hj
   refine W.cnd q (fun hb20=>?_) (fun hb20=>?_)
   ·replace h:=cndT hb20 h
    refine W.sq'<|W.sq' ?_
    obtain ⟨c25,hj,h⟩:=bnd h
    refine W.rx [(0,.obj (eyuccaref9_maker_r.cells j12)),(4,.obj (eDecl_0.cells a1)),(5,.obj (eSym.cells a2)),(7,I64 x10.1),(8,.ptr ⟨0,[0]⟩ (x10.1.toNat * eTok.z+0)),(106,BB c25)] ?_ ?_
    ·refine Vm q<|Rv (O.eql (.lit q) (.k q))<|Rv (O.mv (.lit q)) ?_
     rcases cnd hj with ⟨hb21,hj⟩ | ⟨hb21,hj⟩
     ·obtain rfl:=sm hj
      exact RunL.ps q q hb21 q q<|RunL.ps q q hb21 q q<|RunL.ps q q hb21 q q<|RunL.ps q q hb21 q q<|RunL.ps q q hb21 q q<|RunL.ps q q hb21 q q<|RunL.ps q q hb21 q q<|Rv (O.pkT (.lit q) hb21 (.k q))<|Vm q<|RunL.ps q q q q q<|RunL.ps q q q q q<|RunL.ps q q q q q<|RunL.ps q q q q q<|RunL.ps q q q q q<|Rv (O.pkT (.lit q) q (.k q))<|Fi (.n q (.n q (.n q (.n q (.r q (RK.el (en:=eTok) q hx18 q) npPtr (.n q .nil))))))
     ·refine RunL.v (O.mv (.obj q)) q q (.yb q q hb21)<|RunL.v (O.nlP (.ptr q)) q q (.yb q q hb21)<|RunL.v (O.fO q (.ptr q) fd143_1 q) q q (.yb q q hb21)<|RunL.v (O.ldO (y:=.brw eB.z ⟨0,[5]⟩ j12.f_given.length) q (.ptr q) ct116 q q) q q (.yb q q hb21)<|RunL.v (O.mv (.lit q)) q q (.yb q q hb21) ?_
      obtain ⟨x22,hx22,hj⟩:=bnd hj
      refine RunL.v (O.ixO (en:=eB) q (.brw q) (.lit q) sl116 hx22 q) q q (.yb q q hb21)<|RunL.v (O.ldE (en:=eB) (x':=BB x22) q (.ptr q) ct4 hx22 q q) q q (.yb q q hb21)<|Rv (O.pkF (.lit q) hb21 (.lit q))<|Rv (O.mv (.lit q)) ?_
      rcases cnd hj with ⟨hb23,hj⟩ | ⟨hb23,hj⟩
      ·obtain rfl:=sm hj
       exact RunL.ps q q hb23 q q<|RunL.ps q q hb23 q q<|RunL.ps q q hb23 q q<|RunL.ps q q hb23 q q<|RunL.ps q q hb23 q q<|Rv (O.pkT (.lit q) hb23 (.k q))<|Fi (.n q (.n q (.n q (.n q (.r q (RK.el (en:=eTok) q hx18 q) npPtr (.n q .nil))))))
      ·refine RunL.v (O.mv (.obj q)) q q (.yb q q hb23)<|RunL.v (O.fO q (.obj q) fd59_2 q) q q (.yb q q hb23)<|RunL.v (O.ldO (y:=I64 a2.Num) q (.ptr q) ct3 q q) q q (.yb q q hb23) ?_
       obtain ⟨x24,hx24,hj⟩:=bnd hj
       obtain rfl:=sm hj
       exact RunL.c (PC.vw (ys:=[.ptr ⟨0,[]⟩ 0,I64 a2.Num]) q (.c (View.p0 q q) (.s .nil)) (con108 j12 a2.Num _ hx24) call108 q) q q (.yb q q hb23)<|RunL.v (O.geq (.lit q) (.k q)) q q (.yb q q hb23)<|Rv (O.pkF (.lit q) hb23 (.lit q))<|Fi (.n q (.n q (.n q (.n q (.r q (RK.el (en:=eTok) q hx18 q) npPtr (.n q .nil))))))
    refine Px.sq ?_
    obtain ⟨j26,hj,h⟩:=bnd h
    refine W.jn [(0,.obj (eyuccaref9_maker_r.cells j26)),(4,.obj (eDecl_0.cells a1)),(5,.obj (eSym.cells a2)),(7,I64 x10.1),(8,.ptr ⟨0,[0]⟩ (x10.1.toNat * eTok.z+0))] ?_ ?_
    ·clear h; have h:=hj; clear hj
     refine W.cnd q (fun hb27=>?_) (fun hb27=>?_)
     ·replace h:=cndT hb27 h
      obtain ⟨x28,hx28,h⟩:=bnd h
      refine W.rx [(0,_),(4,_),(5,_),(7,_),(8,.ptr ⟨0,[0]⟩ (x10.1.toNat * eTok.z+0))] (Rv (O.mv (.obj q))<|Rv (O.fO q (.obj q) fd59_3 q)<|Rv (O.ldO (y:=I64 a2.At) q (.ptr q) ct3 q q)<|Rv (O.fO q (.obj q) fd59_0 q)<|Rv (O.ldO (y:=SS a2.Name) q (.ptr q) ct9 q q)<|RunL.ef (G2:=[(8,.ptr ⟨0,[0]⟩ (x10.1.toNat * eTok.z+0))]++[(112,.tup []),(0,.obj [oR eTok j12.f_g.Toks,oR eNon x28.f_g.Nons,oR eProd_0 x28.f_g.Prods,SS x28.f_g.Pro,SS x28.f_g.Tail,oR eB x28.f_given,oR eNon x28.f_types,oR eS x28.f_lefts,I64 x28.f_e,I64 x28.f_at,SS x28.f_name,I64 x28.f_level,I64 x28.f_inner]),(4,.obj (eDecl_0.cells a1)),(5,.obj (eSym.cells a2)),(7,I64 x10.1)]) q (EO.fr (r:=0) (k0:=0) (y:=oR eTok j12.f_g.Toks) (cs5:=[oR eTok j12.f_g.Toks,oR eNon x28.f_g.Nons,oR eProd_0 x28.f_g.Prods,SS x28.f_g.Pro,SS x28.f_g.Tail,oR eB x28.f_given,oR eNon x28.f_types,oR eS x28.f_lefts,I64 x28.f_e,I64 x28.f_at,SS x28.f_name,I64 x28.f_level,I64 x28.f_inner]) (G1:=fun v=>[(0,.obj [.lit v,oR eNon j12.f_g.Nons,oR eProd_0 j12.f_g.Prods,SS j12.f_g.Pro,SS j12.f_g.Tail,oR eB j12.f_given,oR eNon j12.f_types,oR eS j12.f_lefts,I64 j12.f_e,I64 j12.f_at,SS j12.f_name,I64 j12.f_level,I64 j12.f_inner]),(4,.obj (eDecl_0.cells a1)),(5,.obj (eSym.cells a2)),(7,I64 x10.1),(107,.ptr ⟨0,[]⟩ 0),(109,I64 a2.At),(111,SS a2.Name)]) (G4:=fun v=>[(112,.tup []),(0,.obj [.lit v,oR eNon x28.f_g.Nons,oR eProd_0 x28.f_g.Prods,SS x28.f_g.Pro,SS x28.f_g.Tail,oR eB x28.f_given,oR eNon x28.f_types,oR eS x28.f_lefts,I64 x28.f_e,I64 x28.f_at,SS x28.f_name,I64 x28.f_level,I64 x28.f_inner]),(4,.obj (eDecl_0.cells a1)),(5,.obj (eSym.cells a2)),(7,I64 x10.1)]) (c4:=fun v=>[.lit v,oR eNon x28.f_g.Nons,oR eProd_0 x28.f_g.Prods,SS x28.f_g.Pro,SS x28.f_g.Tail,oR eB x28.f_given,oR eNon x28.f_types,oR eS x28.f_lefts,I64 x28.f_e,I64 x28.f_at,SS x28.f_name,I64 x28.f_level,I64 x28.f_inner]) (G5:=[(112,.tup []),(0,.obj [oR eTok j12.f_g.Toks,oR eNon x28.f_g.Nons,oR eProd_0 x28.f_g.Prods,SS x28.f_g.Pro,SS x28.f_g.Tail,oR eB x28.f_given,oR eNon x28.f_types,oR eS x28.f_lefts,I64 x28.f_e,I64 x28.f_at,SS x28.f_name,I64 x28.f_level,I64 x28.f_inner]),(4,.obj (eDecl_0.cells a1)),(5,.obj (eSym.cells a2)),(7,I64 x10.1)]) (A:=[(8,.ptr ⟨0,[0]⟩ (x10.1.toNat * eTok.z+0))]) q q q q (fun v=>(.b q (.n q q (.n q q (.n q q (.p q q q q q q (.n q q (.n q q .nil)))))))) (fun v=>CallOk.ln (G2:=[(4,.obj (eDecl_0.cells a1)),(5,.obj (eSym.cells a2)),(7,I64 x10.1)]) (A:=[]) (ys:=[.ptr ⟨0,[]⟩ 0,I64 a2.At,SS a2.Name]) (args:=[.obj [.lit v,oR eNon j12.f_g.Nons,oR eProd_0 j12.f_g.Prods,SS j12.f_g.Pro,SS j12.f_g.Tail,oR eB j12.f_given,oR eNon j12.f_types,oR eS j12.f_lefts,I64 j12.f_e,I64 j12.f_at,SS j12.f_name,I64 j12.f_level,I64 j12.f_inner],I64 a2.At,SS a2.Name]) (cs':=[.lit v,oR eNon x28.f_g.Nons,oR eProd_0 x28.f_g.Prods,SS x28.f_g.Pro,SS x28.f_g.Tail,oR eB x28.f_given,oR eNon x28.f_types,oR eS x28.f_lefts,I64 x28.f_e,I64 x28.f_at,SS x28.f_name,I64 x28.f_level,I64 x28.f_inner]) (k0:=0) q q q q (.b q (.n q (.n q .nil))) q (conq90_0 v j12 a2.At a2.Name _ hx28) call90 (tn3 q q q) q q (tn3 q q q) .nil q) (fun v=>q) (fun v=>q) (fun v=>q) (fun v=>(.n q q (.b q (.n q q (.n q q (.n q q .nil)))))) q (.c (en:=eTok) (L:=j12.f_g.Toks) q q hx18 q q q .nil))<|Fi (.n q (.n q (.n q (.n q (.r q (RK.el (en:=eTok) q hx18 q) npPtr .nil)))))) ?_
      obtain rfl:=sm h
      exact Px.jn (.n q (.n q (.n q (.n q (.r q (RK.el (en:=eTok) q hx18 q) npPtr .nil)))))
     ·replace h:=cndF hb27 h
      refine W.sk ?_
      obtain rfl:=sm h
      exact Px.jn (.n q (.n q (.n q (.n q (.r q (RK.el (en:=eTok) q hx18 q) npPtr .nil)))))
    obtain ⟨x29,hx29,h⟩:=bnd h
    refine Px.sq<|W.sq' ?_
    refine W.rx [(0,_),(4,_),(5,_),(7,_),(8,.ptr ⟨0,[0]⟩ (x10.1.toNat * eTok.z+0))] (Rv (O.mv (.ptr q))<|Rv (O.fO q (.obj q) fd59_2 q)<|Rv (O.ldO (y:=I64 a2.Num) q (.ptr q) ct3 q q)<|Rv (O.nlP (.ptr q))<|Rv (O.fE (en:=eTok) q (.ptr q) fd51_2 hx29 q q)<|RunL.ef (G2:=[(0,.obj [oR eTok (j26.f_g.Toks.set x10.1.toNat (⟨x29.Name,x29.Lit,a2.Num,x29.Level,x29.Assoc,x29.Tag⟩:Tok)),oR eNon j26.f_g.Nons,oR eProd_0 j26.f_g.Prods,SS j26.f_g.Pro,SS j26.f_g.Tail,oR eB j26.f_given,oR eNon j26.f_types,oR eS j26.f_lefts,I64 j26.f_e,I64 j26.f_at,SS j26.f_name,I64 j26.f_level,I64 j26.f_inner]),(4,.obj (eDecl_0.cells a1)),(5,.obj (eSym.cells a2)),(7,I64 x10.1),(8,.ptr ⟨0,[0]⟩ (x10.1.toNat * eTok.z+0))]) q (EO.stE (en:=eTok) (y2:=(⟨x29.Name,x29.Lit,a2.Num,x29.Level,x29.Assoc,x29.Tag⟩:Tok)) (cs':=[I64 a2.Num]) (x2:=.obj [oR eTok (j26.f_g.Toks.set x10.1.toNat (⟨x29.Name,x29.Lit,a2.Num,x29.Level,x29.Assoc,x29.Tag⟩:Tok)),oR eNon j26.f_g.Nons,oR eProd_0 j26.f_g.Prods,SS j26.f_g.Pro,SS j26.f_g.Tail,oR eB j26.f_given,oR eNon j26.f_types,oR eS j26.f_lefts,I64 j26.f_e,I64 j26.f_at,SS j26.f_name,I64 j26.f_level,I64 j26.f_inner]) q q (.ptr q) (.lit q) q hx29 sz3 q q q q q q q (.b q (.n q q (.n q q (.n q q (.e q q (.mk (en:=eTok) q hx29 q (idx_set_same hx29) q) q .nil))))))<|Fi (.n q (.n q (.n q (.n q (.r q (RK.el (en:=eTok) q (idx_set_same hx29) q) npPtr .nil)))))) ?_
    refine Px.sq ?_
    obtain ⟨x30,hx30,h⟩:=bnd h
    refine W.rx [(0,_),(4,_),(5,_),(8,.ptr ⟨0,[0]⟩ (x10.1.toNat * eTok.z+0))] (Rv (O.mv (.obj q))<|Rv (O.nlP (.ptr q))<|Rv (O.fO q (.ptr q) fd143_1 q)<|Rv (O.ldO (y:=.brw eB.z ⟨0,[5]⟩ j26.f_given.length) q (.ptr q) ct116 q q)<|Vm q<|Rv (O.ixO (en:=eB) q (.brw q) (.lit q) sl116 hx30 q)<|RunL.ef (G2:=[(0,.obj [oR eTok (j26.f_g.Toks.set x10.1.toNat (⟨x29.Name,x29.Lit,a2.Num,x29.Level,x29.Assoc,x29.Tag⟩:Tok)),oR eNon j26.f_g.Nons,oR eProd_0 j26.f_g.Prods,SS j26.f_g.Pro,SS j26.f_g.Tail,oR eB (j26.f_given.set x10.1.toNat true),oR eNon j26.f_types,oR eS j26.f_lefts,I64 j26.f_e,I64 j26.f_at,SS j26.f_name,I64 j26.f_level,I64 j26.f_inner]),(4,.obj (eDecl_0.cells a1)),(5,.obj (eSym.cells a2)),(8,.ptr ⟨0,[0]⟩ (x10.1.toNat * eTok.z+0))]) q (EO.stE (en:=eB) (y2:=true) (cs':=[BB true]) (x2:=.obj [oR eTok (j26.f_g.Toks.set x10.1.toNat (⟨x29.Name,x29.Lit,a2.Num,x29.Level,x29.Assoc,x29.Tag⟩:Tok)),oR eNon j26.f_g.Nons,oR eProd_0 j26.f_g.Prods,SS j26.f_g.Pro,SS j26.f_g.Tail,oR eB (j26.f_given.set x10.1.toNat true),oR eNon j26.f_types,oR eS j26.f_lefts,I64 j26.f_e,I64 j26.f_at,SS j26.f_name,I64 j26.f_level,I64 j26.f_inner]) q q (.ptr q) (.k q) q hx30 sz4 q q q q q q q (.b q (.n q q (.n q q (.e q q (.mk (en:=eTok) q (idx_set_same hx29) q (idx_set_same hx29) q) q .nil)))))<|Fi (.n q (.n q (.n q (.r q (RK.el (en:=eTok) q (idx_set_same hx29) q) npPtr .nil))))) ?_
    obtain rfl:=sm h
    exact Px.jn (.n q (.n q (.n q (.r q (RK.el (en:=eTok) q (idx_set_same hx29) q) npPtr .nil))))
   ·replace h:=cndF hb20 h
    refine W.sk ?_
    obtain rfl:=sm h
    exact Px.jn (.n q (.n q (.n q (.r q (RK.el (en:=eTok) q hx18 q) npPtr .nil))))
  obtain ⟨x31,hx31,h⟩:=bnd h
  refine Px.sq<|W.sq' ?_
  refine W.rx [(0,_),(4,_),(5,_),(8,.ptr ⟨0,[0]⟩ (x10.1.toNat * eTok.z+0)),(126,_)] (Rv (O.fO q (.obj q) fd55_1 q)<|Rv (O.ldO (y:=SS a1.Tag) q (.ptr q) ct9 q q)<|Rv (O.neS (.lit q) (.k q))<|Fi (.n q (.n q (.n q (.r q (RK.el (en:=eTok) q hx31 q) npPtr (.n q .nil)))))) ?_
  refine Px.sq ?_
  obtain ⟨j32,hj,h⟩:=bnd h
  refine W.jn [(0,.obj (eyuccaref9_maker_r.cells j32))] ?_ ?_
  ·clear h; have h:=hj; clear hj
   refine W.cnd q (fun hb33=>?_) (fun hb33=>?_)
   ·replace h:=cndT hb33 h
    refine W.sq'<|W.sq' ?_
    obtain ⟨c35,hj,h⟩:=bnd h
    refine W.rd [[],[0],[0,1],[0,1,2],[0,1,2,3],rn 0 5 [],rn 0 6 [],rn 0 7 [],rn 0 8 [],rn 0 9 [],rn 0 6 [],rn 0 6 [10],rn 0 12 [],rn 0 13 []] [(0,.obj (eyuccaref9_maker_r.cells j19)),(4,.obj (eDecl_0.cells a1)),(5,.obj (eSym.cells a2)),(8,.ptr ⟨0,[0]⟩ (x10.1.toNat * eTok.z+0)),(140,BB c35)] mixo (by kernel_rfl) ?_ ?_
    ·refine Dv 0 (O.mv (.ptr q))<|Dv 1 (O.nlP (.ptr q))<|Dv 2 (O.fE (en:=eTok) q (.ptr q) fd51_5 hx31 q q)<|Dv 3 (O.ldE (en:=eTok) (x':=SS x31.Tag) q (.ptr q) ct9 hx31 q q)<|Dv 4 (O.neS (.lit q) (.k q))<|Dv 5 (O.mv (.lit q)) ?_
     rcases cnd hj with ⟨hb34,hj⟩ | ⟨hb34,hj⟩
     ·obtain rfl:=sm hj
      exact DL.v 6 (O.mv (.ptr q)) q q q q (.yb q q hb34)<|DL.v 7 (O.nlP (.ptr q)) q q q q (.yb q q hb34)<|DL.v 8 (O.fE (en:=eTok) q (.ptr q) fd51_5 hx31 q q) q q q q (.yb q q hb34)<|DL.v 9 (O.ldE (en:=eTok) (x':=SS x31.Tag) q (.ptr q) ct9 hx31 q q) q q q q (.yb q q hb34)<|DL.v 10 (O.fO q (.obj q) fd55_1 q) q q q q (.yb q q hb34)<|DL.v 11 (O.ldO (y:=SS a1.Tag) q (.ptr q) ct9 q q) q q q q (.yb q q hb34)<|DL.v 12 (O.neS (.lit q) (.lit q)) q q q q (.yb q q hb34)<|Dv 13 (O.pkT (.lit q) hb34 (.lit q))<|DL.fin q q q (.n q (.n q (.n q (.r q (RK.el (en:=eTok) q hx31 q) npPtr (.n q .nil)))))
     ·obtain rfl:=sm hj
      exact DL.ps 6 q q hb34 q q q q<|DL.ps 7 q q hb34 q q q q<|DL.ps 8 q q hb34 q q q q<|DL.ps 9 q q hb34 q q q q<|DL.ps 10 q q hb34 q q q q<|DL.ps 11 q q hb34 q q q q<|DL.ps 12 q q hb34 q q q q<|Dv 13 (O.pkF (.lit q) hb34 (.k q))<|DL.fin q q q (.n q (.n q (.n q (.r q (RK.el (en:=eTok) q hx31 q) npPtr (.n q .nil)))))
    refine Px.sq ?_
    obtain ⟨j36,hj,h⟩:=bnd h
    refine W.jn [(0,.obj (eyuccaref9_maker_r.cells j36)),(4,.obj (eDecl_0.cells a1)),(8,.ptr ⟨0,[0]⟩ (x10.1.toNat * eTok.z+0))] ?_ ?_
    ·clear h; have h:=hj; clear hj
     refine W.cnd q (fun hb37=>?_) (fun hb37=>?_)
     ·replace h:=cndT hb37 h
      obtain ⟨x38,hx38,h⟩:=bnd h
      refine W.rx [(0,_),(4,_),(8,.ptr ⟨0,[0]⟩ (x10.1.toNat * eTok.z+0))] (Rv (O.mv (.obj q))<|Rv (O.fO q (.obj q) fd59_3 q)<|Rv (O.ldO (y:=I64 a2.At) q (.ptr q) ct3 q q)<|Rv (O.fO q (.obj q) fd59_0 q)<|Rv (O.ldO (y:=SS a2.Name) q (.ptr q) ct9 q q)<|RunL.ef (G2:=[(8,.ptr ⟨0,[0]⟩ (x10.1.toNat * eTok.z+0))]++[(146,.tup []),(0,.obj [oR eTok j19.f_g.Toks,oR eNon x38.f_g.Nons,oR eProd_0 x38.f_g.Prods,SS x38.f_g.Pro,SS x38.f_g.Tail,oR eB x38.f_given,oR eNon x38.f_types,oR eS x38.f_lefts,I64 x38.f_e,I64 x38.f_at,SS x38.f_name,I64 x38.f_level,I64 x38.f_inner]),(4,.obj (eDecl_0.cells a1))]) q (EO.fr (r:=0) (k0:=0) (y:=oR eTok j19.f_g.Toks) (cs5:=[oR eTok j19.f_g.Toks,oR eNon x38.f_g.Nons,oR eProd_0 x38.f_g.Prods,SS x38.f_g.Pro,SS x38.f_g.Tail,oR eB x38.f_given,oR eNon x38.f_types,oR eS x38.f_lefts,I64 x38.f_e,I64 x38.f_at,SS x38.f_name,I64 x38.f_level,I64 x38.f_inner]) (G1:=fun v=>[(0,.obj [.lit v,oR eNon j19.f_g.Nons,oR eProd_0 j19.f_g.Prods,SS j19.f_g.Pro,SS j19.f_g.Tail,oR eB j19.f_given,oR eNon j19.f_types,oR eS j19.f_lefts,I64 j19.f_e,I64 j19.f_at,SS j19.f_name,I64 j19.f_level,I64 j19.f_inner]),(4,.obj (eDecl_0.cells a1)),(141,.ptr ⟨0,[]⟩ 0),(143,I64 a2.At),(145,SS a2.Name)]) (G4:=fun v=>[(146,.tup []),(0,.obj [.lit v,oR eNon x38.f_g.Nons,oR eProd_0 x38.f_g.Prods,SS x38.f_g.Pro,SS x38.f_g.Tail,oR eB x38.f_given,oR eNon x38.f_types,oR eS x38.f_lefts,I64 x38.f_e,I64 x38.f_at,SS x38.f_name,I64 x38.f_level,I64 x38.f_inner]),(4,.obj (eDecl_0.cells a1))]) (c4:=fun v=>[.lit v,oR eNon x38.f_g.Nons,oR eProd_0 x38.f_g.Prods,SS x38.f_g.Pro,SS x38.f_g.Tail,oR eB x38.f_given,oR eNon x38.f_types,oR eS x38.f_lefts,I64 x38.f_e,I64 x38.f_at,SS x38.f_name,I64 x38.f_level,I64 x38.f_inner]) (G5:=[(146,.tup []),(0,.obj [oR eTok j19.f_g.Toks,oR eNon x38.f_g.Nons,oR eProd_0 x38.f_g.Prods,SS x38.f_g.Pro,SS x38.f_g.Tail,oR eB x38.f_given,oR eNon x38.f_types,oR eS x38.f_lefts,I64 x38.f_e,I64 x38.f_at,SS x38.f_name,I64 x38.f_level,I64 x38.f_inner]),(4,.obj (eDecl_0.cells a1))]) (A:=[(8,.ptr ⟨0,[0]⟩ (x10.1.toNat * eTok.z+0))]) q q q q (fun v=>(.b q (.n q q (.p q q q q q q (.n q q (.n q q .nil)))))) (fun v=>CallOk.ln (G2:=[(4,.obj (eDecl_0.cells a1))]) (A:=[]) (ys:=[.ptr ⟨0,[]⟩ 0,I64 a2.At,SS a2.Name]) (args:=[.obj [.lit v,oR eNon j19.f_g.Nons,oR eProd_0 j19.f_g.Prods,SS j19.f_g.Pro,SS j19.f_g.Tail,oR eB j19.f_given,oR eNon j19.f_types,oR eS j19.f_lefts,I64 j19.f_e,I64 j19.f_at,SS j19.f_name,I64 j19.f_level,I64 j19.f_inner],I64 a2.At,SS a2.Name]) (cs':=[.lit v,oR eNon x38.f_g.Nons,oR eProd_0 x38.f_g.Prods,SS x38.f_g.Pro,SS x38.f_g.Tail,oR eB x38.f_given,oR eNon x38.f_types,oR eS x38.f_lefts,I64 x38.f_e,I64 x38.f_at,SS x38.f_name,I64 x38.f_level,I64 x38.f_inner]) (k0:=0) q q q q (.b q (.n q (.n q .nil))) q (conq90_0 v j19 a2.At a2.Name _ hx38) call90 (.n q .nil) q q (.n q .nil) .nil q) (fun v=>q) (fun v=>q) (fun v=>q) (fun v=>(.n q q (.b q (.n q q .nil)))) q (.c (en:=eTok) (L:=j19.f_g.Toks) q q hx31 q q q .nil))<|Fi (.n q (.n q (.r q (RK.el (en:=eTok) q hx31 q) npPtr .nil)))) ?_
      obtain rfl:=sm h
      exact Px.jn (.n q (.n q (.r q (RK.el (en:=eTok) q hx31 q) npPtr .nil)))
     ·replace h:=cndF hb37 h
      refine W.sk ?_
      obtain rfl:=sm h
      exact Px.jn (.n q (.n q (.r q (RK.el (en:=eTok) q hx31 q) npPtr .nil)))
    obtain ⟨x39,hx39,h⟩:=bnd h
    refine Px.sq<|W.rx [(0,_)] (Rv (O.mv (.ptr q))<|Rv (O.fO q (.obj q) fd55_1 q)<|Rv (O.ldO (y:=SS a1.Tag) q (.ptr q) ct9 q q)<|Rv (O.nlP (.ptr q))<|Rv (O.fE (en:=eTok) q (.ptr q) fd51_5 hx39 q q)<|RunL.ef (G2:=[(0,.obj [oR eTok (j36.f_g.Toks.set x10.1.toNat (⟨x39.Name,x39.Lit,x39.Num,x39.Level,x39.Assoc,a1.Tag⟩:Tok)),oR eNon j36.f_g.Nons,oR eProd_0 j36.f_g.Prods,SS j36.f_g.Pro,SS j36.f_g.Tail,oR eB j36.f_given,oR eNon j36.f_types,oR eS j36.f_lefts,I64 j36.f_e,I64 j36.f_at,SS j36.f_name,I64 j36.f_level,I64 j36.f_inner])]) q (EO.stE (en:=eTok) (y2:=(⟨x39.Name,x39.Lit,x39.Num,x39.Level,x39.Assoc,a1.Tag⟩:Tok)) (cs':=[SS a1.Tag]) (x2:=.obj [oR eTok (j36.f_g.Toks.set x10.1.toNat (⟨x39.Name,x39.Lit,x39.Num,x39.Level,x39.Assoc,a1.Tag⟩:Tok)),oR eNon j36.f_g.Nons,oR eProd_0 j36.f_g.Prods,SS j36.f_g.Pro,SS j36.f_g.Tail,oR eB j36.f_given,oR eNon j36.f_types,oR eS j36.f_lefts,I64 j36.f_e,I64 j36.f_at,SS j36.f_name,I64 j36.f_level,I64 j36.f_inner]) q q (.ptr q) (.lit q) q hx39 sz9 q q q q q q q (.b q .nil))<|Fi (.n q .nil)) ?_
    obtain rfl:=sm h
    exact Px.jn (.n q .nil)
   ·replace h:=cndF hb33 h
    refine W.sk ?_
    obtain rfl:=sm h
    exact Px.jn (.n q .nil)
  obtain rfl:=sm h
  exact Px.fin (Fin.ro .nil q (ode (by kernel_rfl)) (.so q q (.no (.no .nil))) q (.inl q))
theorem con92 (a0:yuccaref9_maker) (a1:ByteArray) (r:Int) (h:pf92 a0 a1=some r):Con Try.prog 92 [.iptr ([iR eTok a0.f_g.Toks,iR eNon a0.f_g.Nons,iR eProd_0 a0.f_g.Prods,SS a0.f_g.Pro,SS a0.f_g.Tail,iR eB a0.f_given,iR eNon a0.f_types,iR eS a0.f_lefts,I64 a0.f_e,I64 a0.f_at,SS a0.f_name,I64 a0.f_level,I64 a0.f_inner]),SS a1] [none,none] (I64 r):=by
 unfold pf92 at h
 refine Con.go (N:=⟨25,[]⟩) Try.func92 q q q q (W.fin ?_)
 refine W.st [(0,.iptr ([iR eTok a0.f_g.Toks,iR eNon a0.f_g.Nons,iR eProd_0 a0.f_g.Prods,SS a0.f_g.Pro,SS a0.f_g.Tail,iR eB a0.f_given,iR eNon a0.f_types,iR eS a0.f_lefts,I64 a0.f_e,I64 a0.f_at,SS a0.f_name,I64 a0.f_level,I64 a0.f_inner])),(1,SS a1)] ?_
 refine W.sq'<|W.rx [(0,_),(1,_)] (Vk q<|Fi (tn2 q q)) ?_
 refine Px.sq<|W.sq' ?_
 refine W.sq'<|W.rx [(0,_),(1,_),(5,_)] (Vk q<|Fi (tn3 q q q)) ?_
 refine Px.sq<|W.bk ?_
 obtain ⟨x2,hl,h⟩:=bnd h
 refine W.tr (G1:=[(0,_),(1,_),(5,_)]) (tn3 q q q) ?_
 refine W.lp2 (s:=0) (fun (s1:Int)=>[(0,.iptr ([iR eTok a0.f_g.Toks,iR eNon a0.f_g.Nons,iR eProd_0 a0.f_g.Prods,SS a0.f_g.Pro,SS a0.f_g.Tail,iR eB a0.f_given,iR eNon a0.f_types,iR eS a0.f_lefts,I64 a0.f_e,I64 a0.f_at,SS a0.f_name,I64 a0.f_level,I64 a0.f_inner])),(1,SS a1),(5,I64 s1)]) 0 (fun (x3:Unit)=>[]) (fun (x4:Int)=>[(4,I64 x4)]) hl (fun s1 o h=>?_) (fun x3 hx=>?_) (fun x4 hx=>?_)
 ·clear hl
  refine W.sq'<|W.sq' ?_
  refine W.rx [(0,_),(1,_),(5,_),(12,_)] (Vm q<|Rv (O.mv (.iptr q))<|Rv (O.nlI (.iptr q))<|Rv (O.fI (.iptr q) fd143_3)<|Rv (O.ldI (x:=iR eS a0.f_lefts) (.iptr q) ct141 q)<|Rv (O.lenI (.imm q) sl141)<|Rv (O.lss (.lit q) (.lit q))<|Fi (tn4 q q q q)) ?_
  refine Px.sq<|W.cnd q (fun hb5=>?_) (fun hb5=>?_)
  ·replace h:=cndT hb5 h
   refine W.sk<|Px.sq ?_
   refine W.sq'<|W.bk ?_
   refine W.sq' ?_
   obtain ⟨x6,hx6,h⟩:=bnd h
   refine W.rx [(0,_),(1,_),(5,_),(23,_)] (Rv (O.mv (.iptr q))<|Rv (O.nlI (.iptr q))<|Rv (O.fI (.iptr q) fd143_3)<|Rv (O.ldI (x:=iR eS a0.f_lefts) (.iptr q) ct141 q)<|Vm q<|Rv (O.ixI (.imm q) (.lit q) sl141 hx6)<|Rv (O.ldI (x:=SS x6) (.iptr q) ct9 q)<|Vm q<|Rv (O.eqS (.lit q) (.lit q))<|Fi (tn4 q q q q)) ?_
   refine Px.sq<|W.cnd q (fun hb7=>?_) (fun hb7=>?_)
   ·replace h:=cndT hb7 h
    refine W.sq'<|W.rx [(4,_)] (Vm q<|Va q<|Fi (.n q .nil)) ?_
    refine Px.sq<|W.rt ?_
    refine Px.bkR ?_
    refine Px.sqR ?_
    obtain rfl:=sm h
    exact Px.r2 (.n q .nil)
   ·replace h:=cndF hb7 h
    refine W.sk<|Px.bk ?_
    refine Px.sq<|W.rx [(0,_),(1,_),(5,_)] (Vm q<|Rv (O.add (.lit q) (.k q))<|RunL.re (G1:=[(0,_),(1,_),(14,_)]) (tn3 q q q)<|Va q<|Fi (tn3 q q q)) ?_
    obtain rfl:=sm h
    exact Px.go (tn3 q q q)
  ·replace h:=cndF hb5 h
   refine W.xi ?_
   refine Px.sqE ?_
   obtain rfl:=sm h
   exact Px.x2 .nil
 ·subst hx
  refine Px.bkH ?_
  refine Px.sq<|W.sq' ?_
  refine W.rx [(4,_)] (Vk q<|Fi (.n q .nil)) ?_
  refine Px.sq<|W.rt ?_
  obtain rfl:=sm h
  exact Px.fin (Fin.ro (.f q q .nil) q (ode (by kernel_rfl)) (.no (.no .nil)) q (.inr q))
 ·subst hx
  refine Px.bkR ?_
  refine Px.sqR ?_
  obtain rfl:=sm h
  exact Px.fin (Fin.ro (.f q q .nil) q (ode (by kernel_rfl)) (.no (.no .nil)) q (.inr q))
theorem con109 (a0:yuccaref9_maker) (a1:Sym) (r:Int × yuccaref9_maker) (h:pf109 a0 a1=some r):Con Try.prog 109 [.obj (eyuccaref9_maker_r.cells a0),.agg (eSym.cells a1)] [some (.obj [oR eTok r.2.f_g.Toks,oR eNon r.2.f_g.Nons,oR eProd_0 r.2.f_g.Prods,SS r.2.f_g.Pro,SS r.2.f_g.Tail,oR eB r.2.f_given,oR eNon r.2.f_types,oR eS r.2.f_lefts,I64 r.2.f_e,I64 r.2.f_at,SS r.2.f_name,I64 r.2.f_level,I64 r.2.f_inner]),none] (I64 r.1):=by
 unfold pf109 at h
 refine Con.go (N:=⟨32,[0]⟩) Try.func109 q q q q (W.fin ?_)
 refine W.st [(0,.obj (eyuccaref9_maker_r.cells a0)),(1,.agg (eSym.cells a1))] ?_
 refine W.sq'<|W.rx [(0,_),(3,_)] (Rv (O.box (.aggF q q) q)<|Vk q<|Fi (tn2 q q)) ?_
 refine Px.sq<|W.sq' ?_
 refine W.sq'<|W.rx [(0,_),(3,_),(8,_)] (Rv (O.fO q (.obj q) fd59_1 q)<|Rv (O.ldO (y:=BB a1.Lit) q (.ptr q) ct4 q q)<|Fi (tn3 q q q)) ?_
 refine Px.sq<|W.cnd q (fun hb1=>?_) (fun hb1=>?_)
 ·replace h:=cndT hb1 h
  refine W.sq' ?_
  obtain ⟨x2,hx2,h⟩:=bnd h
  refine W.rx [(0,_),(4,_)] (Rv (O.mv (.obj q))<|Rv (O.ldON (cs':=[SS a1.Name,BB a1.Lit,I64 a1.Num,I64 a1.At]) q (.obj q) at59 q q)<|RunL.ef (G2:=[(11,I64 x2.1),(0,.obj [oR eTok x2.2.f_g.Toks,oR eNon x2.2.f_g.Nons,oR eProd_0 x2.2.f_g.Prods,SS x2.2.f_g.Pro,SS x2.2.f_g.Tail,oR eB x2.2.f_given,oR eNon x2.2.f_types,oR eS x2.2.f_lefts,I64 x2.2.f_e,I64 x2.2.f_at,SS x2.2.f_name,I64 x2.2.f_level,I64 x2.2.f_inner])]) q (EO.call q q (CallOk.ln (G2:=[]) (A:=[]) (ys:=[.ptr ⟨0,[]⟩ 0,.agg (eSym.cells a1)]) (args:=[.obj (eyuccaref9_maker_r.cells a0),.agg (eSym.cells a1)]) (cs':=[oR eTok x2.2.f_g.Toks,oR eNon x2.2.f_g.Nons,oR eProd_0 x2.2.f_g.Prods,SS x2.2.f_g.Pro,SS x2.2.f_g.Tail,oR eB x2.2.f_given,oR eNon x2.2.f_types,oR eS x2.2.f_lefts,I64 x2.2.f_e,I64 x2.2.f_at,SS x2.2.f_name,I64 x2.2.f_level,I64 x2.2.f_inner]) (k0:=0) q q q q (.b q (.n q .nil)) q (con107 a0 a1 _ hx2) call107 .nil q q .nil .nil q))<|Va q<|Fi (tn2 q q)) ?_
  refine Px.sq<|W.rt ?_
  refine Px.sqR ?_
  obtain rfl:=sm h
  exact Px.fin (Fin.ro (.f q q .nil) q (ode (by kernel_rfl)) (.so q q (.no .nil)) q (.inr q))
 ·replace h:=cndF hb1 h
  refine W.sk<|Px.sq ?_
  refine W.sq'<|W.sq' ?_
  obtain ⟨x3,hx3,h⟩:=bnd h
  refine W.rx [(0,_),(3,_),(5,_)] (Rv (O.mv (.obj q))<|Rv (O.fO q (.obj q) fd59_0 q)<|Rv (O.ldO (y:=SS a1.Name) q (.ptr q) ct9 q q)<|Rc (PC.vw (ys:=[.ptr ⟨0,[]⟩ 0,SS a1.Name]) q (.c (View.p0 q q) (.s .nil)) (con92 a0 a1.Name _ hx3) call92 q)<|Va q<|Fi (tn3 q q q)) ?_
  refine Px.sq<|W.sq' ?_
  refine W.rx [(0,_),(3,_),(5,_),(17,_)] (Vm q<|Rv (O.geq (.lit q) (.k q))<|Fi (tn4 q q q q)) ?_
  refine Px.sq<|W.cnd q (fun hb4=>?_) (fun hb4=>?_)
  ·replace h:=cndT hb4 h
   refine W.sq'<|W.rx [(0,_),(4,_)] (Vm q<|Rv (O.add (.k q) (.lit q))<|Va q<|Fi (tn2 q q)) ?_
   refine Px.sq<|W.rt ?_
   refine Px.sqR ?_
   obtain rfl:=sm h
   exact Px.fin (Fin.ro (.f q q .nil) q (ode (by kernel_rfl)) (.so q q (.no .nil)) q (.inr q))
  ·replace h:=cndF hb4 h
   refine W.sk<|Px.sq ?_
   refine W.sq' ?_
   obtain ⟨x5,hx5,h⟩:=bnd h
   refine W.rx [(0,_),(3,_),(6,_)] (Rv (O.mv (.obj q))<|Rv (O.ldON (cs':=[SS a1.Name,BB a1.Lit,I64 a1.Num,I64 a1.At]) q (.obj q) at59 q q)<|Rc (PC.vw (ys:=[.ptr ⟨0,[]⟩ 0,.agg (eSym.cells a1)]) q (.c (View.p0 q q) (.c (.ag (.s (.s (.s (.s .nil))))) .nil)) (con91 a0 a1 _ hx5) call91 q)<|Va q<|Fi (tn3 q q q)) ?_
   refine Px.sq<|W.sq' ?_
   refine W.sq'<|W.rx [(0,_),(3,_),(6,_),(24,_)] (Vm q<|Rv (O.lss (.lit q) (.k q))<|Fi (tn4 q q q q)) ?_
   refine Px.sq<|W.cnd q (fun hb6=>?_) (fun hb6=>?_)
   ·replace h:=cndT hb6 h
    refine W.sq' ?_
    obtain ⟨x7,hx7,h⟩:=bnd h
    refine W.rx [(0,_)] (Rv (O.mv (.obj q))<|Rv (O.fO q (.obj q) fd59_3 q)<|Rv (O.ldO (y:=I64 a1.At) q (.ptr q) ct3 q q)<|Rv (O.fO q (.obj q) fd59_0 q)<|Rv (O.ldO (y:=SS a1.Name) q (.ptr q) ct9 q q)<|RunL.ef (G2:=[(30,.tup []),(0,.obj [oR eTok x7.f_g.Toks,oR eNon x7.f_g.Nons,oR eProd_0 x7.f_g.Prods,SS x7.f_g.Pro,SS x7.f_g.Tail,oR eB x7.f_given,oR eNon x7.f_types,oR eS x7.f_lefts,I64 x7.f_e,I64 x7.f_at,SS x7.f_name,I64 x7.f_level,I64 x7.f_inner])]) q (EO.call q q (CallOk.ln (G2:=[]) (A:=[]) (ys:=[.ptr ⟨0,[]⟩ 0,I64 a1.At,SS a1.Name]) (args:=[.obj (eyuccaref9_maker_r.cells a0),I64 a1.At,SS a1.Name]) (cs':=[oR eTok x7.f_g.Toks,oR eNon x7.f_g.Nons,oR eProd_0 x7.f_g.Prods,SS x7.f_g.Pro,SS x7.f_g.Tail,oR eB x7.f_given,oR eNon x7.f_types,oR eS x7.f_lefts,I64 x7.f_e,I64 x7.f_at,SS x7.f_name,I64 x7.f_level,I64 x7.f_inner]) (k0:=0) q q q q (.b q (.n q (.n q .nil))) q (con90 a0 a1.At a1.Name _ hx7) call90 .nil q q .nil .nil q))<|Fi (.n q .nil)) ?_
    refine Px.sq<|W.sq' ?_
    refine W.rx [(0,_),(4,_)] (Vk q<|Fi (tn2 q q)) ?_
    refine Px.sq<|W.rt ?_
    refine Px.sqR ?_
    obtain rfl:=sm h
    exact Px.fin (Fin.ro (.f q q .nil) q (ode (by kernel_rfl)) (.so q q (.no .nil)) q (.inr q))
   ·replace h:=cndF hb6 h
    refine W.sk<|Px.sq ?_
    refine W.sq'<|W.rx [(0,_),(4,_)] (Vm q<|Va q<|Fi (tn2 q q)) ?_
    refine Px.sq<|W.rt ?_
    obtain rfl:=sm h
    exact Px.fin (Fin.ro (.f q q .nil) q (ode (by kernel_rfl)) (.so q q (.no .nil)) q (.inr q))
theorem con93 (a0:yuccaref9_maker) (a1:ByteArray) (a2:Alt) (r:yuccaref9_maker) (h:pf93 a0 a1 a2=some r):Con Try.prog 93 [.obj (eyuccaref9_maker_r.cells a0),SS a1,.agg (eAlt_0.cells a2)] [some (.obj [oR eTok r.f_g.Toks,oR eNon r.f_g.Nons,oR eProd_0 r.f_g.Prods,SS r.f_g.Pro,SS r.f_g.Tail,oR eB r.f_given,oR eNon r.f_types,oR eS r.f_lefts,I64 r.f_e,I64 r.f_at,SS r.f_name,I64 r.f_level,I64 r.f_inner]),none,none] (.tup []):=by
 unfold pf93 at h
 refine Con.go (N:=⟨173,[0]⟩) Try.func93 q q q q (W.fin ?_)
 refine W.st [(0,.obj (eyuccaref9_maker_r.cells a0)),(1,SS a1),(2,.agg (eAlt_0.cells a2))] ?_
 refine W.sq'<|W.rx [(0,_),(1,_),(5,_)] (Rv (O.box (.aggF q q) q)<|Fi (tn3 q q q)) ?_
 refine Px.sq<|W.sq' ?_
 obtain ⟨x1,hx1,h⟩:=bnd h
 refine W.rd [[],[],[0,1],[0,1,2],[],[4],rn 0 6 [],[],rn 0 8 []] [(0,_),(5,_),(6,_)] mixo (by kernel_rfl) (Dv 0 (O.mv (.obj q))<|Dv 1 (O.mv (.lit q))<|Dc 2 (PC.vw (ys:=[.ptr ⟨0,[]⟩ 0,SS a1]) q (.c (View.p0 q q) (.s .nil)) (con92 a0 a1 _ hx1) call92 q)<|Dv 3 (O.add (.k q) (.lit q))<|Dv 4 (O.fO q (.obj q) fd62_2 q)<|Dv 5 (O.ldO (y:=I64 a2.At) q (.ptr q) ct3 q q)<|Dv 6 (O.bu (cs:=[I64 (w64 (1+x1)),.nils,I64 (-1),SS S0,.nils,I64 a2.At]) sc83 ze83 q q q)<|Dv 7 (O.al (cs:=[I64 0,.nils,I64 0,SS S0,.nils,I64 0]) ze83 q q)<|DL.sO 8 (G2:=[(0,.obj (eyuccaref9_maker_r.cells a0)),(5,.obj (eAlt_0.cells a2)),(6,.obj [I64 (w64 (1+x1)),.nils,I64 (-1),SS S0,.nils,I64 a2.At])]) (cs2:=[I64 (w64 (1+x1)),.nils,I64 (-1),SS S0,.nils,I64 a2.At]) q (by kernel_rfl) (by kernel_rfl) q q q (.obj q) (.aggF q q) q sz83 q q q q (.n q q (.n q q (.b q .nil)))<|DL.fin q q q (tn3 q q q)) ?_
 refine Px.sq<|W.sq' ?_
 refine W.sq'<|W.rx [(0,_),(5,_),(6,_),(7,_)] (Vk q<|Fi (tn4 q q q q)) ?_
 refine Px.sq<|W.bk ?_
 obtain ⟨x3,hl,h⟩:=bnd h
 refine W.tr (G1:=[(0,_),(5,_),(6,.obj [I64 (w64 (1+x1)),oR eI ([]:List Int),I64 (-1),SS S0,.nils,I64 a2.At]),(7,_)]) (.n q (.n q (.w q q (WkL.obj (.f (.o (.f (.f (.f (.f .nil))))))) (.n q .nil)))) ?_
 refine W.lp1 (s:=(a0,([]:List Int),S0,a2.At,0)) (fun (s2:yuccaref9_maker × List Int × ByteArray × Int × Int)=>[(0,.obj (eyuccaref9_maker_r.cells s2.1)),(5,.obj (eAlt_0.cells a2)),(6,.obj [I64 (w64 (1+x1)),oR eI s2.2.1,I64 (-1),SS s2.2.2.1,.nils,I64 s2.2.2.2.1]),(7,I64 s2.2.2.2.2)]) 0 (fun (x3:yuccaref9_maker × List Int × ByteArray × Int)=>[(0,.obj (eyuccaref9_maker_r.cells x3.1)),(5,.obj (eAlt_0.cells a2)),(6,.obj [I64 (w64 (1+x1)),oR eI x3.2.1,I64 (-1),SS x3.2.2.1,.nils,I64 x3.2.2.2])]) hl (fun s2 o h=>?_) ?_
 ·clear hl
  refine W.sq'<|W.sq' ?_
  refine W.rx [(0,_),(5,_),(6,_),(7,_),(21,_)] (Vm q<|Rv (O.fO q (.obj q) fd62_0 q)<|Rv (O.ldO (y:=iR ePart a2.Parts) q (.ptr q) ct60 q q)<|Rv (O.lenI (.imm q) sl60)<|Rv (O.lss (.lit q) (.lit q))<|Fi (tn5 q q q q q)) ?_
  refine Px.sq<|W.cnd q (fun hb5=>?_) (fun hb5=>?_)
  ·replace h:=cndT hb5 h
   refine W.sk<|Px.sq ?_
   refine W.sq' ?_
   obtain ⟨j6,hj,h⟩:=bnd h
   refine W.jn [(0,.obj (eyuccaref9_maker_r.cells j6.1)),(5,.obj (eAlt_0.cells a2)),(6,.obj [I64 (w64 (1+x1)),oR eI j6.2.1,I64 (-1),SS j6.2.2.1,.nils,I64 j6.2.2.2]),(7,I64 s2.2.2.2.2)] ?_ ?_
   ·clear h; have h:=hj; clear hj
    refine W.bk<|W.sq' ?_
    obtain ⟨x7,hx7,h⟩:=bnd h
    refine W.rx [(0,_),(5,_),(6,_),(7,_),(8,_)] (Rv (O.fO q (.obj q) fd62_0 q)<|Rv (O.ldO (y:=iR ePart a2.Parts) q (.ptr q) ct60 q q)<|Vm q<|Rv (O.ixI (.imm q) (.lit q) sl60 hx7)<|Rv (O.ldIN (cs':=[SS x7.Sym.Name,BB x7.Sym.Lit,I64 x7.Sym.Num,I64 x7.Sym.At,SS x7.Code,I64 x7.At]) (.iptr q) at109 q q)<|Rv (O.al (cs:=[SS S0,BB false,I64 0,I64 0,SS S0,I64 0]) ze109 q q)<|RunL.sO (G2:=[(0,.obj (eyuccaref9_maker_r.cells s2.1)),(5,.obj (eAlt_0.cells a2)),(6,.obj [I64 (w64 (1+x1)),oR eI s2.2.1,I64 (-1),SS s2.2.2.1,.nils,I64 s2.2.2.2.1]),(7,I64 s2.2.2.2.2),(8,.obj (ePart.cells x7))]) (cs2:=[SS x7.Sym.Name,BB x7.Sym.Lit,I64 x7.Sym.Num,I64 x7.Sym.At,SS x7.Code,I64 x7.At]) q (.obj q) (.aggF q q) q sz109 q q q q (.n q q (.n q q (.n q q (.n q q (.b q .nil)))))<|Fi (tn5 q q q q q)) ?_
    refine Px.sq ?_
    obtain ⟨j8,hj,h⟩:=bnd h
    refine W.jn [(0,.obj (eyuccaref9_maker_r.cells j8.1)),(5,.obj (eAlt_0.cells a2)),(6,.obj [I64 (w64 (1+x1)),oR eI j8.2.1,I64 (-1),SS j8.2.2.1,.nils,I64 j8.2.2.2]),(7,I64 s2.2.2.2.2)] ?_ ?_
    ·clear h; have h:=hj; clear hj
     refine W.bk<|W.sq' ?_
     refine W.rx [(0,_),(5,_),(6,_),(7,_),(8,_),(82,_)] (Rv (O.fO q (.obj q) fd109_1 q)<|Rv (O.ldO (y:=SS x7.Code) q (.ptr q) ct9 q q)<|Rv (O.eqS (.lit q) (.k q))<|Va q<|Fi (tn6 q q q q q q)) ?_
     refine Px.sq ?_
     obtain ⟨j9,hj,h⟩:=bnd h
     refine W.jn [(0,.obj (eyuccaref9_maker_r.cells j9.1)),(5,.obj (eAlt_0.cells a2)),(6,.obj [I64 (w64 (1+x1)),oR eI j9.2.1,I64 (-1),SS j9.2.2.1,.nils,I64 j9.2.2.2]),(7,I64 s2.2.2.2.2)] ?_ ?_
     ·clear h; have h:=hj; clear hj
      refine W.cnd q (fun hb10=>?_) (fun hb10=>?_)
      ·replace h:=cndT hb10 h
       obtain ⟨x11,hx11,h⟩:=bnd h
       obtain ⟨x12,hx12,h⟩:=bnd h
       refine W.rd [[],[0],[],[],[3],[2,3,4],[2,3,4,5],rn 0 7 [],rn 0 8 [],rn 0 9 []] [(0,_),(5,_),(6,_),(7,_)] mixo (by kernel_rfl) (Dv 0 (O.fO q (.obj q) fd83_1 q)<|Dv 1 (O.ldO (y:=.brw eI.z ⟨6,[1]⟩ s2.2.1.length) q (.ptr q) ct27 q q)<|Dv 2 (O.mv (.obj q))<|Dv 3 (O.fO q (.obj q) fd109_0 q)<|Dv 4 (O.ldON (cs':=[SS x7.Sym.Name,BB x7.Sym.Lit,I64 x7.Sym.Num,I64 x7.Sym.At]) q (.ptr q) at59 q q)<|DL.bu 5 (G2:=(6,.obj [I64 (w64 (1+x1)),oR eI s2.2.1,I64 (-1),SS s2.2.2.1,.nils,I64 s2.2.2.2.1])::[(91,I64 x11.1),(0,.obj [oR eTok x11.2.f_g.Toks,oR eNon x11.2.f_g.Nons,oR eProd_0 x11.2.f_g.Prods,SS x11.2.f_g.Pro,SS x11.2.f_g.Tail,oR eB x11.2.f_given,oR eNon x11.2.f_types,oR eS x11.2.f_lefts,I64 x11.2.f_e,I64 x11.2.f_at,SS x11.2.f_name,I64 x11.2.f_level,I64 x11.2.f_inner]),(5,.obj (eAlt_0.cells a2)),(7,I64 s2.2.2.2.2)]) (U:=[(1,87,some (.brw eI.z ⟨6,[1]⟩ s2.2.1.length)),(0,86,some (.ptr ⟨6,[]⟩ 1))]) (EffV.box (r:=6) (G1:=[(0,.obj (eyuccaref9_maker_r.cells s2.1)),(5,.obj (eAlt_0.cells a2)),(7,I64 s2.2.2.2.2),(88,.ptr ⟨0,[]⟩ 0),(90,.agg (eSym.cells x7.Sym))]) (G2:=[(91,I64 x11.1),(0,.obj [oR eTok x11.2.f_g.Toks,oR eNon x11.2.f_g.Nons,oR eProd_0 x11.2.f_g.Prods,SS x11.2.f_g.Pro,SS x11.2.f_g.Tail,oR eB x11.2.f_given,oR eNon x11.2.f_types,oR eS x11.2.f_lefts,I64 x11.2.f_e,I64 x11.2.f_at,SS x11.2.f_name,I64 x11.2.f_level,I64 x11.2.f_inner]),(5,.obj (eAlt_0.cells a2)),(7,I64 s2.2.2.2.2)]) (EO.call q q (CallOk.ln (G2:=[(5,.obj (eAlt_0.cells a2)),(7,I64 s2.2.2.2.2)]) (A:=[]) (ys:=[.ptr ⟨0,[]⟩ 0,.agg (eSym.cells x7.Sym)]) (args:=[.obj (eyuccaref9_maker_r.cells s2.1),.agg (eSym.cells x7.Sym)]) (cs':=[oR eTok x11.2.f_g.Toks,oR eNon x11.2.f_g.Nons,oR eProd_0 x11.2.f_g.Prods,SS x11.2.f_g.Pro,SS x11.2.f_g.Tail,oR eB x11.2.f_given,oR eNon x11.2.f_types,oR eS x11.2.f_lefts,I64 x11.2.f_e,I64 x11.2.f_at,SS x11.2.f_name,I64 x11.2.f_level,I64 x11.2.f_inner]) (k0:=0) q q q q (.b q (.n q .nil)) q (con109 s2.1 x7.Sym _ hx11) call109 (tn2 q q) q q (tn2 q q) .nil q)) q (.n q (.n q (.n q (.q q q q (.n q .nil))))) q q q) q q (by kernel_rfl) q q q (.c (.inl ⟨6,[1],_,_,_,_,q,by simp [rsV],q,q,Nat.le_refl _⟩) q q q q q (Gd.wanted .none) (O.ldO (y:=.brw eI.z ⟨6,[1]⟩ s2.2.1.length) q (.ptr q) ct27 q q) (.c (.inr (.inr (.inr ⟨6,_,_,q,q,of_blt q,by simp⟩))) q q q q q (Gd.wanted .none) (O.fO q (.obj q) fd83_1 q) .nil)) (by kernel_rfl)<|DL.vi 6 (x:=iR eI [x11.1]) (O.bs (ys:=[I64 x11.1]) eI [x11.1] sl27 q q q q q q zt3 q q) q q q q .none<|Dv 7 (O.ap (en:=eI) (r:=x12) (.brw q) q (.imm q) .i ap27 q hx12)<|Dv 8 (O.fO q (.obj q) fd83_1 q)<|DL.bp 9 (G2:=[(0,.obj (eyuccaref9_maker_r.cells x11.2)),(5,.obj (eAlt_0.cells a2)),(6,.obj [I64 (w64 (1+x1)),oR eI (s2.2.1++[x11.1]),I64 (-1),SS s2.2.2.1,.nils,I64 s2.2.2.2.1]),(7,I64 s2.2.2.2.2)]) (EO.stP (g1:=_) (en:=eI) (M:=[x11.1]) (cs2:=[I64 (w64 (1+x1)),oR eI (s2.2.1++[x11.1]),I64 (-1),SS s2.2.2.1,.nils,I64 s2.2.2.2.1]) q q (.ptr q) (.pend q) q q q .ns .rf q q sz27 q q q q (.n q q (.n q q (.b q (.n q q .nil))))) q q q q (by kernel_rfl) (by kernel_rfl)<|DL.fin q q q (tn4 q q q q)) ?_
       obtain rfl:=sm h
       exact Px.jn (tn4 q q q q)
      ·replace h:=cndF hb10 h
       refine W.sq'<|W.rx [(0,_),(5,_),(6,_),(7,_),(8,_),(95,_)] (Vm q<|Rv (O.add (.lit q) (.k q))<|Rv (O.fO q (.obj q) fd62_0 q)<|Rv (O.ldO (y:=iR ePart a2.Parts) q (.ptr q) ct60 q q)<|Rv (O.lenI (.imm q) sl60)<|Rv (O.eql (.lit q) (.lit q))<|Va q<|Fi (tn6 q q q q q q)) ?_
       refine Px.sq ?_
       obtain ⟨j13,hj,h⟩:=bnd h
       refine W.jn [(0,.obj [oR eTok s2.1.f_g.Toks,oR eNon s2.1.f_g.Nons,oR eProd_0 j13.1,SS s2.1.f_g.Pro,SS s2.1.f_g.Tail,oR eB s2.1.f_given,oR eNon s2.1.f_types,oR eS s2.1.f_lefts,I64 s2.1.f_e,I64 s2.1.f_at,SS s2.1.f_name,I64 s2.1.f_level,I64 j13.2.1]),(5,.obj (eAlt_0.cells a2)),(6,.obj [I64 (w64 (1+x1)),oR eI j13.2.2.1,I64 (-1),SS j13.2.2.2.1,.nils,I64 j13.2.2.2.2]),(7,I64 s2.2.2.2.2)] ?_ ?_
       ·clear h; have h:=hj; clear hj
        refine W.cnd q (fun hb14=>?_) (fun hb14=>?_)
        ·replace h:=cndT hb14 h
         refine W.rd [[],[0],[],[2],[0,1],[0,1,4],rn 0 6 [],rn 0 7 []] [(0,_),(5,_),(6,_),(7,_)] mixo (by kernel_rfl) (Dv 0 (O.fO q (.obj q) fd109_1 q)<|Dv 1 (O.ldO (y:=SS x7.Code) q (.ptr q) ct9 q q)<|Dv 2 (O.fO q (.obj q) fd109_2 q)<|Dv 3 (O.ldO (y:=I64 x7.At) q (.ptr q) ct3 q q)<|Dv 4 (O.fO q (.obj q) fd83_3 q)<|DL.bu 5 (G2:=[(0,.obj (eyuccaref9_maker_r.cells s2.1)),(5,.obj (eAlt_0.cells a2)),(6,.obj [I64 (w64 (1+x1)),oR eI s2.2.1,I64 (-1),SS x7.Code,.nils,I64 s2.2.2.2.1]),(7,I64 s2.2.2.2.2),(8,.obj (ePart.cells x7))]) (U:=[(3,105,some (I64 x7.At)),(2,104,some (.ptr ⟨8,[]⟩ 5))]) (EffOk.v (EO.eff (EO.sO (G2:=[(0,.obj (eyuccaref9_maker_r.cells s2.1)),(5,.obj (eAlt_0.cells a2)),(6,.obj [I64 (w64 (1+x1)),oR eI s2.2.1,I64 (-1),SS x7.Code,.nils,I64 s2.2.2.2.1]),(7,I64 s2.2.2.2.2),(8,.obj (ePart.cells x7))]) (cs2:=[I64 (w64 (1+x1)),oR eI s2.2.1,I64 (-1),SS x7.Code,.nils,I64 s2.2.2.2.1]) q q q (.ptr q) (.lit q) q sz9 q q q q (.n q q (.n q q (.b q (.n q q (.n q q .nil)))))))) q q (by kernel_rfl) q q q (.c (.inr (.inl ⟨_,q⟩)) q q q q q (Gd.wanted .none) (O.ldO (y:=I64 x7.At) q (.ptr q) ct3 q q) (.c (.inr (.inr (.inr ⟨8,_,_,q,q,of_blt q,by simp⟩))) q q q q q (Gd.wanted .none) (O.fO q (.obj q) fd109_2 q) .nil)) (by kernel_rfl)<|Dv 6 (O.fO q (.obj q) fd83_5 q)<|DL.sO 7 (G2:=[(0,.obj (eyuccaref9_maker_r.cells s2.1)),(5,.obj (eAlt_0.cells a2)),(6,.obj [I64 (w64 (1+x1)),oR eI s2.2.1,I64 (-1),SS x7.Code,.nils,I64 x7.At]),(7,I64 s2.2.2.2.2)]) (cs2:=[I64 (w64 (1+x1)),oR eI s2.2.1,I64 (-1),SS x7.Code,.nils,I64 x7.At]) q (by kernel_rfl) (by kernel_rfl) q q q (.ptr q) (.lit q) q sz3 q q q q (.n q q (.n q q (.b q (.n q q .nil))))<|DL.fin q q q (tn4 q q q q)) ?_
         obtain rfl:=sm h
         exact Px.jn (tn4 q q q q)
        ·replace h:=cndF hb14 h
         refine W.sq'<|W.rx [(0,_),(5,_),(6,_),(7,_),(8,_)] (Rv (O.mv (.obj q))<|Rv (O.nlP (.ptr q))<|Rv (O.fO q (.ptr q) fd143_8 q)<|Rv (O.ldO (y:=I64 s2.1.f_inner) q (.ptr q) ct3 q q)<|Rv (O.add (.lit q) (.k q))<|Rv (O.nlP (.ptr q))<|Rv (O.fO q (.ptr q) fd143_8 q)<|RunL.sO (G2:=[(0,.obj [oR eTok s2.1.f_g.Toks,oR eNon s2.1.f_g.Nons,oR eProd_0 s2.1.f_g.Prods,SS s2.1.f_g.Pro,SS s2.1.f_g.Tail,oR eB s2.1.f_given,oR eNon s2.1.f_types,oR eS s2.1.f_lefts,I64 s2.1.f_e,I64 s2.1.f_at,SS s2.1.f_name,I64 s2.1.f_level,I64 (w64 (s2.1.f_inner+1))]),(5,.obj (eAlt_0.cells a2)),(6,.obj [I64 (w64 (1+x1)),oR eI s2.2.1,I64 (-1),SS s2.2.2.1,.nils,I64 s2.2.2.2.1]),(7,I64 s2.2.2.2.2),(8,.obj (ePart.cells x7))]) (cs2:=[oR eTok s2.1.f_g.Toks,oR eNon s2.1.f_g.Nons,oR eProd_0 s2.1.f_g.Prods,SS s2.1.f_g.Pro,SS s2.1.f_g.Tail,oR eB s2.1.f_given,oR eNon s2.1.f_types,oR eS s2.1.f_lefts,I64 s2.1.f_e,I64 s2.1.f_at,SS s2.1.f_name,I64 s2.1.f_level,I64 (w64 (s2.1.f_inner+1))]) q (.ptr q) (.lit q) q sz3 q q q q (.b q (.n q q (.n q q (.n q q (.n q q .nil)))))<|Fi (tn5 q q q q q)) ?_
         refine Px.sq<|W.sq' ?_
         obtain ⟨x15,hx15,h⟩:=bnd h
         obtain ⟨x16,hx16,h⟩:=bnd h
         refine W.rd [[],[],[1],[1,2],[1,2,3],[1,2,3,4],[],[6],[6,7],[6,7,8],[6,7,8,9],[],[11],[11,12],[11,12,13],rn 6 9 [],[],[16],[],[],[19],[18,19,20],[],[22],rn 6 18 [],rn 6 19 [],rn 1 25 [],rn 0 27 [],rn 0 28 [],rn 0 29 [],rn 0 30 []] [(0,_),(5,_),(6,_),(7,_)] mixo (by kernel_rfl) (Dv 0 (O.mv (.obj q))<|Dv 1 (O.mv (.obj q))<|Dv 2 (O.nlP (.ptr q))<|Dv 3 (O.fO q (.ptr q) fd143_0 q)<|Dv 4 (O.fO q (.ptr q) fd38_2 q)<|Dv 5 (O.ldO (y:=.brw eProd_0.z ⟨0,[2]⟩ s2.1.f_g.Prods.length) q (.ptr q) ct36 q q)<|Dv 6 (O.mv (.obj q))<|Dv 7 (O.nlP (.ptr q))<|Dv 8 (O.fO q (.ptr q) fd143_3 q)<|Dv 9 (O.ldO (y:=.brw eS.z ⟨0,[7]⟩ s2.1.f_lefts.length) q (.ptr q) ct141 q q)<|Dv 10 (O.lenO (.brw q) sl141)<|Dv 11 (O.mv (.obj q))<|Dv 12 (O.nlP (.ptr q))<|Dv 13 (O.fO q (.ptr q) fd143_8 q)<|Dv 14 (O.ldO (y:=I64 (w64 (s2.1.f_inner+1))) q (.ptr q) ct3 q q)<|Dv 15 (O.add (.lit q) (.lit q))<|Dv 16 (O.fO q (.obj q) fd109_1 q)<|Dv 17 (O.ldO (y:=SS x7.Code) q (.ptr q) ct9 q q)<|Dv 18 (O.bs (ys:=[]) eI ([]:List Int) sl27 q q q q q q zt3 q q)<|Dv 19 (O.fO q (.obj q) fd83_1 q)<|Dv 20 (O.ldO (y:=.brw eI.z ⟨6,[1]⟩ s2.2.1.length) q (.ptr q) ct27 q q)<|Dv 21 (O.ap (en:=eI) (r:=x15) (.own q) q (.brw q) (.flat eI q) ap27 q hx15)<|Dv 22 (O.fO q (.obj q) fd109_2 q)<|Dv 23 (O.ldO (y:=I64 x7.At) q (.ptr q) ct3 q q)<|Dv 24 (O.bu (cs:=[I64 (w64 ((s2.1.f_lefts.length:Int)+(w64 (s2.1.f_inner+1)))),.nils,I64 (-1),SS x7.Code,.brw eI.z ⟨57,[]⟩ (([]:List Int).length+s2.2.1.length),I64 x7.At]) sc83 ze83 q q q)<|Dv 25 (O.bsL (ys:=[.agg [I64 (w64 ((s2.1.f_lefts.length:Int)+(w64 (s2.1.f_inner+1)))),.nils,I64 (-1),SS x7.Code,.brw eI.z ⟨57,[]⟩ (([]:List Int).length+s2.2.1.length),I64 x7.At]]) (cs:=[I64 (w64 ((s2.1.f_lefts.length:Int)+(w64 (s2.1.f_inner+1)))),.nils,I64 (-1),SS x7.Code,.brw eI.z ⟨57,[]⟩ (([]:List Int).length+s2.2.1.length),I64 x7.At]) sl36 q q q q q zt83 q q)<|Dv 26 (O.apL' (en:=eProd_0) (M:=[(⟨w64 ((s2.1.f_lefts.length:Int)+(w64 (s2.1.f_inner+1))),([]:List Int),(-1),x7.Code,([]:List Int)++s2.2.1,x7.At⟩:Prod)]) (r:=x16) (.brw q) q (.own q) q q q q ap36 q hx16 (noQ_spec (by kernel_rfl) (by kernel_rfl)))<|Dv 27 (O.nlP (.ptr q))<|Dv 28 (O.fO q (.ptr q) fd143_0 q)<|Dv 29 (O.fO q (.ptr q) fd38_2 q)<|DL.bp 30 (G2:=[(0,.obj [oR eTok s2.1.f_g.Toks,oR eNon s2.1.f_g.Nons,oR eProd_0 (s2.1.f_g.Prods++[(⟨w64 ((s2.1.f_lefts.length:Int)+(w64 (s2.1.f_inner+1))),([]:List Int),(-1),x7.Code,([]:List Int)++s2.2.1,x7.At⟩:Prod)]),SS s2.1.f_g.Pro,SS s2.1.f_g.Tail,oR eB s2.1.f_given,oR eNon s2.1.f_types,oR eS s2.1.f_lefts,I64 s2.1.f_e,I64 s2.1.f_at,SS s2.1.f_name,I64 s2.1.f_level,I64 (w64 (s2.1.f_inner+1))]),(5,.obj (eAlt_0.cells a2)),(6,.obj [I64 (w64 (1+x1)),oR eI s2.2.1,I64 (-1),SS s2.2.2.1,.nils,I64 s2.2.2.2.1]),(7,I64 s2.2.2.2.2)]) (EO.stP (g1:=_) (en:=eProd_0) (M:=[(⟨w64 ((s2.1.f_lefts.length:Int)+(w64 (s2.1.f_inner+1))),([]:List Int),(-1),x7.Code,([]:List Int)++s2.2.1,x7.At⟩:Prod)]) (cs2:=[oR eTok s2.1.f_g.Toks,oR eNon s2.1.f_g.Nons,oR eProd_0 (s2.1.f_g.Prods++[(⟨w64 ((s2.1.f_lefts.length:Int)+(w64 (s2.1.f_inner+1))),([]:List Int),(-1),x7.Code,([]:List Int)++s2.2.1,x7.At⟩:Prod)]),SS s2.1.f_g.Pro,SS s2.1.f_g.Tail,oR eB s2.1.f_given,oR eNon s2.1.f_types,oR eS s2.1.f_lefts,I64 s2.1.f_e,I64 s2.1.f_at,SS s2.1.f_name,I64 s2.1.f_level,I64 (w64 (s2.1.f_inner+1))]) q q (.ptr q) (.pend q) q q q (.f (.f (.f (.f (.pn q q q .ns (.f .nil)))))) (.f (.z (.f (.f (.z (hv:=Vw.pn q q) (.f .nil)))))) q q sz36 q q q q (.b q (.n q q (.n q q (.n q q .nil))))) q q q q (by kernel_rfl) (by kernel_rfl)<|DL.fin q q q (tn4 q q q q)) ?_
         refine Px.sq ?_
         obtain ⟨x17,hx17,h⟩:=bnd h
         refine W.rd [[],[0],[],[2],[2,3],[2,3,4],[2,3,4,5],rn 2 5 [],[],[8],[8,9],[8,9,10],rn 2 10 [],rn 2 11 [],rn 0 14 [],rn 0 15 [],rn 0 16 []] [(0,_),(5,_),(6,_),(7,_)] mixo (by kernel_rfl) (Dv 0 (O.fO q (.obj q) fd83_1 q)<|Dv 1 (O.ldO (y:=.brw eI.z ⟨6,[1]⟩ s2.2.1.length) q (.ptr q) ct27 q q)<|Dv 2 (O.mv (.obj q))<|Dv 3 (O.nlP (.ptr q))<|Dv 4 (O.fO q (.ptr q) fd143_3 q)<|Dv 5 (O.ldO (y:=.brw eS.z ⟨0,[7]⟩ s2.1.f_lefts.length) q (.ptr q) ct141 q q)<|Dv 6 (O.lenO (.brw q) sl141)<|Dv 7 (O.add (.k q) (.lit q))<|Dv 8 (O.mv (.obj q))<|Dv 9 (O.nlP (.ptr q))<|Dv 10 (O.fO q (.ptr q) fd143_8 q)<|Dv 11 (O.ldO (y:=I64 (w64 (s2.1.f_inner+1))) q (.ptr q) ct3 q q)<|Dv 12 (O.add (.lit q) (.lit q))<|DL.vi 13 (x:=iR eI [w64 ((w64 (1000+(s2.1.f_lefts.length:Int)))+(w64 (s2.1.f_inner+1)))]) (O.bs (ys:=[I64 (w64 ((w64 (1000+(s2.1.f_lefts.length:Int)))+(w64 (s2.1.f_inner+1))))]) eI [w64 ((w64 (1000+(s2.1.f_lefts.length:Int)))+(w64 (s2.1.f_inner+1)))] sl27 q q q q q q zt3 q q) q q q q .none<|Dv 14 (O.ap (en:=eI) (r:=x17) (.brw q) q (.imm q) .i ap27 q hx17)<|Dv 15 (O.fO q (.obj q) fd83_1 q)<|DL.bp 16 (G2:=[(0,.obj [oR eTok s2.1.f_g.Toks,oR eNon s2.1.f_g.Nons,oR eProd_0 (s2.1.f_g.Prods++[(⟨w64 ((s2.1.f_lefts.length:Int)+(w64 (s2.1.f_inner+1))),([]:List Int),(-1),x7.Code,([]:List Int)++s2.2.1,x7.At⟩:Prod)]),SS s2.1.f_g.Pro,SS s2.1.f_g.Tail,oR eB s2.1.f_given,oR eNon s2.1.f_types,oR eS s2.1.f_lefts,I64 s2.1.f_e,I64 s2.1.f_at,SS s2.1.f_name,I64 s2.1.f_level,I64 (w64 (s2.1.f_inner+1))]),(5,.obj (eAlt_0.cells a2)),(6,.obj [I64 (w64 (1+x1)),oR eI (s2.2.1++[w64 ((w64 (1000+(s2.1.f_lefts.length:Int)))+(w64 (s2.1.f_inner+1)))]),I64 (-1),SS s2.2.2.1,.nils,I64 s2.2.2.2.1]),(7,I64 s2.2.2.2.2)]) (EO.stP (g1:=_) (en:=eI) (M:=[w64 ((w64 (1000+(s2.1.f_lefts.length:Int)))+(w64 (s2.1.f_inner+1)))]) (cs2:=[I64 (w64 (1+x1)),oR eI (s2.2.1++[w64 ((w64 (1000+(s2.1.f_lefts.length:Int)))+(w64 (s2.1.f_inner+1)))]),I64 (-1),SS s2.2.2.1,.nils,I64 s2.2.2.2.1]) q q (.ptr q) (.pend q) q q q .ns .rf q q sz27 q q q q (.n q q (.n q q (.b q (.n q q .nil))))) q q q q (by kernel_rfl) (by kernel_rfl)<|DL.fin q q q (tn4 q q q q)) ?_
         obtain rfl:=sm h
         exact Px.jn (tn4 q q q q)
       obtain rfl:=sm h
       exact Px.jn (tn4 q q q q)
     refine Px.bk ?_
     obtain rfl:=sm h
     exact Px.jn (tn4 q q q q)
    refine Px.bk ?_
    obtain rfl:=sm h
    exact Px.jn (tn4 q q q q)
   refine Px.sq<|W.rx [(0,_),(5,_),(6,_),(7,_)] (Vm q<|Rv (O.add (.lit q) (.k q))<|RunL.re (G1:=[(0,_),(5,_),(6,_),(23,_)]) (tn4 q q q q)<|Va q<|Fi (tn4 q q q q)) ?_
   obtain rfl:=sm h
   exact Px.go (tn4 q q q q)
  ·replace h:=cndF hb5 h
   refine W.xi ?_
   refine Px.sqE ?_
   obtain rfl:=sm h
   exact Px.x1 (tn3 q q q)
 refine Px.bkH ?_
 refine Px.sq<|W.sq' ?_
 refine W.sq'<|W.rx [(0,_),(5,_),(6,_),(9,_)] (Vk q<|Fi (tn4 q q q q)) ?_
 refine Px.sq<|W.bk ?_
 obtain ⟨x19,hl,h⟩:=bnd h
 refine W.tr (G1:=[(0,_),(5,_),(6,_),(9,_)]) (tn4 q q q q) ?_
 refine W.lp1 (s:=((-1),0)) (fun (s18:Int × Int)=>[(0,.obj (eyuccaref9_maker_r.cells x3.1)),(5,.obj (eAlt_0.cells a2)),(6,.obj [I64 (w64 (1+x1)),oR eI x3.2.1,I64 s18.1,SS x3.2.2.1,.nils,I64 x3.2.2.2]),(9,I64 s18.2)]) 3 (fun (x19:Int)=>[(0,.obj (eyuccaref9_maker_r.cells x3.1)),(5,.obj (eAlt_0.cells a2)),(6,.obj [I64 (w64 (1+x1)),oR eI x3.2.1,I64 x19,SS x3.2.2.1,.nils,I64 x3.2.2.2])]) hl (fun s18 o h=>?_) ?_
 ·clear hl
  refine W.sq'<|W.sq' ?_
  refine W.rx [(0,_),(5,_),(6,_),(9,_),(112,_)] (Vm q<|Rv (O.fO q (.obj q) fd83_1 q)<|Rv (O.ldO (y:=.brw eI.z ⟨6,[1]⟩ x3.2.1.length) q (.ptr q) ct27 q q)<|Rv (O.lenO (.brw q) sl27)<|Rv (O.lss (.lit q) (.lit q))<|Fi (tn5 q q q q q)) ?_
  refine Px.sq<|W.cnd q (fun hb21=>?_) (fun hb21=>?_)
  ·replace h:=cndT hb21 h
   refine W.sk<|Px.sq ?_
   refine W.sq' ?_
   obtain ⟨j22,hj,h⟩:=bnd h
   refine W.jn [(0,.obj (eyuccaref9_maker_r.cells x3.1)),(5,.obj (eAlt_0.cells a2)),(6,.obj [I64 (w64 (1+x1)),oR eI x3.2.1,I64 j22,SS x3.2.2.1,.nils,I64 x3.2.2.2]),(9,I64 s18.2)] ?_ ?_
   ·clear h; have h:=hj; clear hj
    refine W.bk<|W.sq' ?_
    obtain ⟨x23,hx23,h⟩:=bnd h
    refine W.rx [(0,_),(5,_),(6,_),(9,_),(120,_)] (Rv (O.fO q (.obj q) fd83_1 q)<|Rv (O.ldO (y:=.brw eI.z ⟨6,[1]⟩ x3.2.1.length) q (.ptr q) ct27 q q)<|Vm q<|Rv (O.ixO (en:=eI) q (.brw q) (.lit q) sl27 hx23 q)<|Rv (O.ldE (en:=eI) (x':=I64 x23) q (.ptr q) ct3 hx23 q q)<|Rv (O.lss (.lit q) (.k q))<|Fi (tn5 q q q q q)) ?_
    refine Px.sq ?_
    obtain ⟨j24,hj,h⟩:=bnd h
    refine W.jn [(0,.obj (eyuccaref9_maker_r.cells x3.1)),(5,.obj (eAlt_0.cells a2)),(6,.obj [I64 (w64 (1+x1)),oR eI x3.2.1,I64 j24,SS x3.2.2.1,.nils,I64 x3.2.2.2]),(9,I64 s18.2)] ?_ ?_
    ·clear h; have h:=hj; clear hj
     refine W.cnd q (fun hb25=>?_) (fun hb25=>?_)
     ·replace h:=cndT hb25 h
      obtain ⟨x26,hx26,h⟩:=bnd h
      refine W.rx [(0,_),(5,_),(6,_),(9,_)] (Rv (O.fO q (.obj q) fd83_1 q)<|Rv (O.ldO (y:=.brw eI.z ⟨6,[1]⟩ x3.2.1.length) q (.ptr q) ct27 q q)<|Vm q<|Rv (O.ixO (en:=eI) q (.brw q) (.lit q) sl27 hx26 q)<|Rv (O.ldE (en:=eI) (x':=I64 x26) q (.ptr q) ct3 hx26 q q)<|Rv (O.fO q (.obj q) fd83_2 q)<|RunL.sO (G2:=[(0,.obj (eyuccaref9_maker_r.cells x3.1)),(5,.obj (eAlt_0.cells a2)),(6,.obj [I64 (w64 (1+x1)),oR eI x3.2.1,I64 x26,SS x3.2.2.1,.nils,I64 x3.2.2.2]),(9,I64 s18.2)]) (cs2:=[I64 (w64 (1+x1)),oR eI x3.2.1,I64 x26,SS x3.2.2.1,.nils,I64 x3.2.2.2]) q (.ptr q) (.lit q) q sz3 q q q q (.n q q (.n q q (.b q (.n q q .nil))))<|Fi (tn4 q q q q)) ?_
      obtain rfl:=sm h
      exact Px.jn (tn4 q q q q)
     ·replace h:=cndF hb25 h
      refine W.sk ?_
      obtain rfl:=sm h
      exact Px.jn (tn4 q q q q)
    refine Px.bk ?_
    obtain rfl:=sm h
    exact Px.jn (tn4 q q q q)
   refine Px.sq<|W.rx [(0,_),(5,_),(6,_),(9,_)] (Vm q<|Rv (O.add (.lit q) (.k q))<|RunL.re (G1:=[(0,_),(5,_),(6,_),(114,_)]) (tn4 q q q q)<|Va q<|Fi (tn4 q q q q)) ?_
   obtain rfl:=sm h
   exact Px.go (tn4 q q q q)
  ·replace h:=cndF hb21 h
   refine W.xi ?_
   refine Px.sqE ?_
   obtain rfl:=sm h
   exact Px.x1 (tn3 q q q)
 refine Px.bkH ?_
 refine Px.sq<|W.sq' ?_
 refine W.sq'<|W.rx [(0,_),(5,_),(6,_),(130,_)] (Rv (O.fO q (.obj q) fd62_1 q)<|Rv (O.fO q (.ptr q) fd59_0 q)<|Rv (O.ldO (y:=SS a2.Prec.Name) q (.ptr q) ct9 q q)<|Rv (O.neS (.lit q) (.k q))<|Fi (tn4 q q q q)) ?_
 refine Px.sq ?_
 obtain ⟨j27,hj,h⟩:=bnd h
 refine W.jn [(0,.obj (eyuccaref9_maker_r.cells j27.1)),(6,.obj [I64 (w64 (1+x1)),oR eI x3.2.1,I64 j27.2,SS x3.2.2.1,.nils,I64 x3.2.2.2])] ?_ ?_
 ·clear h; have h:=hj; clear hj
  refine W.cnd q (fun hb28=>?_) (fun hb28=>?_)
  ·replace h:=cndT hb28 h
   refine W.sq'<|W.rx [(0,_),(5,_),(6,_)] (Rv (O.fO q (.obj q) fd83_2 q)<|RunL.sO (G2:=[(0,.obj (eyuccaref9_maker_r.cells x3.1)),(5,.obj (eAlt_0.cells a2)),(6,.obj [I64 (w64 (1+x1)),oR eI x3.2.1,I64 (-1),SS x3.2.2.1,.nils,I64 x3.2.2.2])]) (cs2:=[I64 (w64 (1+x1)),oR eI x3.2.1,I64 (-1),SS x3.2.2.1,.nils,I64 x3.2.2.2]) q (.ptr q) (.k q) q sz3 q q q q (.n q q (.n q q (.b q .nil)))<|Fi (tn3 q q q)) ?_
   refine Px.sq<|W.sq' ?_
   obtain ⟨c31,hj,h⟩:=bnd h
   refine W.rx [(0,.obj (eyuccaref9_maker_r.cells x3.1)),(5,.obj (eAlt_0.cells a2)),(6,.obj [I64 (w64 (1+x1)),oR eI x3.2.1,I64 (-1),SS x3.2.2.1,.nils,I64 x3.2.2.2]),(142,BB c31)] ?_ ?_
   ·refine Rv (O.fO q (.obj q) fd62_1 q)<|Rv (O.fO q (.ptr q) fd59_1 q)<|Rv (O.ldO (y:=BB a2.Prec.Lit) q (.ptr q) ct4 q q)<|Rv (O.mv (.lit q)) ?_
    rcases cnd hj with ⟨hb29,hj⟩ | ⟨hb29,hj⟩
    ·obtain rfl:=sm hj
     exact RunL.ps q q hb29 q q<|RunL.ps q q hb29 q q<|RunL.ps q q hb29 q q<|RunL.ps q q hb29 q q<|RunL.ps q q hb29 q q<|RunL.ps q q hb29 q q<|Rv (O.pkT (.lit q) hb29 (.k q))<|Fi (tn4 q q q q)
    ·refine RunL.v (O.mv (.obj q)) q q (.yb q q hb29)<|RunL.v (O.fO q (.obj q) fd62_1 q) q q (.yb q q hb29)<|RunL.v (O.fO q (.ptr q) fd59_0 q) q q (.yb q q hb29)<|RunL.v (O.ldO (y:=SS a2.Prec.Name) q (.ptr q) ct9 q q) q q (.yb q q hb29) ?_
     obtain ⟨x30,hx30,hj⟩:=bnd hj
     obtain rfl:=sm hj
     exact RunL.c (PC.vw (ys:=[.ptr ⟨0,[]⟩ 0,SS a2.Prec.Name]) q (.c (View.p0 q q) (.s .nil)) (con92 x3.1 a2.Prec.Name _ hx30) call92 q) q q (.yb q q hb29)<|RunL.v (O.lss (.lit q) (.k q)) q q (.yb q q hb29)<|Rv (O.pkF (.lit q) hb29 (.lit q))<|Fi (tn4 q q q q)
   refine Px.sq ?_
   obtain ⟨j32,hj,h⟩:=bnd h
   refine W.jn [(0,.obj (eyuccaref9_maker_r.cells j32.1)),(6,.obj [I64 (w64 (1+x1)),oR eI x3.2.1,I64 j32.2,SS x3.2.2.1,.nils,I64 x3.2.2.2])] ?_ ?_
   ·clear h; have h:=hj; clear hj
    refine W.cnd q (fun hb33=>?_) (fun hb33=>?_)
    ·replace h:=cndT hb33 h
     obtain ⟨x34,hx34,h⟩:=bnd h
     refine W.rx [(0,_),(6,_)] (Rv (O.mv (.obj q))<|Rv (O.fO q (.obj q) fd62_1 q)<|Rv (O.ldON (cs':=[SS a2.Prec.Name,BB a2.Prec.Lit,I64 a2.Prec.Num,I64 a2.Prec.At]) q (.ptr q) at59 q q)<|RunL.ef (G2:=[(146,I64 x34.1),(0,.obj [oR eTok x34.2.f_g.Toks,oR eNon x34.2.f_g.Nons,oR eProd_0 x34.2.f_g.Prods,SS x34.2.f_g.Pro,SS x34.2.f_g.Tail,oR eB x34.2.f_given,oR eNon x34.2.f_types,oR eS x34.2.f_lefts,I64 x34.2.f_e,I64 x34.2.f_at,SS x34.2.f_name,I64 x34.2.f_level,I64 x34.2.f_inner]),(6,.obj [I64 (w64 (1+x1)),oR eI x3.2.1,I64 (-1),SS x3.2.2.1,.nils,I64 x3.2.2.2])]) q (EO.call q q (CallOk.ln (G2:=[(6,.obj [I64 (w64 (1+x1)),oR eI x3.2.1,I64 (-1),SS x3.2.2.1,.nils,I64 x3.2.2.2])]) (A:=[]) (ys:=[.ptr ⟨0,[]⟩ 0,.agg (eSym.cells a2.Prec)]) (args:=[.obj (eyuccaref9_maker_r.cells x3.1),.agg (eSym.cells a2.Prec)]) (cs':=[oR eTok x34.2.f_g.Toks,oR eNon x34.2.f_g.Nons,oR eProd_0 x34.2.f_g.Prods,SS x34.2.f_g.Pro,SS x34.2.f_g.Tail,oR eB x34.2.f_given,oR eNon x34.2.f_types,oR eS x34.2.f_lefts,I64 x34.2.f_e,I64 x34.2.f_at,SS x34.2.f_name,I64 x34.2.f_level,I64 x34.2.f_inner]) (k0:=0) q q q q (.b q (.n q .nil)) q (con109 x3.1 a2.Prec _ hx34) call109 (.n q .nil) q q (.n q .nil) .nil q))<|Rv (O.fO q (.obj q) fd83_2 q)<|RunL.sO (G2:=[(0,.obj (eyuccaref9_maker_r.cells x34.2)),(6,.obj [I64 (w64 (1+x1)),oR eI x3.2.1,I64 x34.1,SS x3.2.2.1,.nils,I64 x3.2.2.2])]) (cs2:=[I64 (w64 (1+x1)),oR eI x3.2.1,I64 x34.1,SS x3.2.2.1,.nils,I64 x3.2.2.2]) q (.ptr q) (.lit q) q sz3 q q q q (.n q q (.b q .nil))<|Fi (tn2 q q)) ?_
     obtain rfl:=sm h
     exact Px.jn (tn2 q q)
    ·replace h:=cndF hb33 h
     obtain ⟨x35,hx35,h⟩:=bnd h
     refine W.rx [(0,_),(6,_)] (Rv (O.mv (.obj q))<|Rv (O.fO q (.obj q) fd62_1 q)<|Rv (O.fO q (.ptr q) fd59_3 q)<|Rv (O.ldO (y:=I64 a2.Prec.At) q (.ptr q) ct3 q q)<|Rv (O.fO q (.obj q) fd62_1 q)<|Rv (O.fO q (.ptr q) fd59_0 q)<|Rv (O.ldO (y:=SS a2.Prec.Name) q (.ptr q) ct9 q q)<|RunL.ef (G2:=[(155,.tup []),(0,.obj [oR eTok x35.f_g.Toks,oR eNon x35.f_g.Nons,oR eProd_0 x35.f_g.Prods,SS x35.f_g.Pro,SS x35.f_g.Tail,oR eB x35.f_given,oR eNon x35.f_types,oR eS x35.f_lefts,I64 x35.f_e,I64 x35.f_at,SS x35.f_name,I64 x35.f_level,I64 x35.f_inner]),(6,.obj [I64 (w64 (1+x1)),oR eI x3.2.1,I64 (-1),SS x3.2.2.1,.nils,I64 x3.2.2.2])]) q (EO.call q q (CallOk.ln (G2:=[(6,.obj [I64 (w64 (1+x1)),oR eI x3.2.1,I64 (-1),SS x3.2.2.1,.nils,I64 x3.2.2.2])]) (A:=[]) (ys:=[.ptr ⟨0,[]⟩ 0,I64 a2.Prec.At,SS a2.Prec.Name]) (args:=[.obj (eyuccaref9_maker_r.cells x3.1),I64 a2.Prec.At,SS a2.Prec.Name]) (cs':=[oR eTok x35.f_g.Toks,oR eNon x35.f_g.Nons,oR eProd_0 x35.f_g.Prods,SS x35.f_g.Pro,SS x35.f_g.Tail,oR eB x35.f_given,oR eNon x35.f_types,oR eS x35.f_lefts,I64 x35.f_e,I64 x35.f_at,SS x35.f_name,I64 x35.f_level,I64 x35.f_inner]) (k0:=0) q q q q (.b q (.n q (.n q .nil))) q (con90 x3.1 a2.Prec.At a2.Prec.Name _ hx35) call90 (.n q .nil) q q (.n q .nil) .nil q))<|Fi (tn2 q q)) ?_
     obtain rfl:=sm h
     exact Px.jn (tn2 q q)
   obtain rfl:=sm h
   exact Px.jn (tn2 q q)
  ·replace h:=cndF hb28 h
   refine W.sk ?_
   obtain rfl:=sm h
   exact Px.jn (tn2 q q)
 refine Px.sq<|W.sq' ?_
 obtain ⟨x36,hx36,h⟩:=bnd h
 refine W.rx [(0,_),(6,_)] (Rv (O.bs (ys:=[]) eI ([]:List Int) sl27 q q q q q q zt3 q q)<|Rv (O.fO q (.obj q) fd83_1 q)<|Rv (O.ldO (y:=.brw eI.z ⟨6,[1]⟩ x3.2.1.length) q (.ptr q) ct27 q q)<|Rv (O.ap (en:=eI) (r:=x36) (.own q) q (.brw q) (.flat eI q) ap27 q hx36)<|Rv (O.fO q (.obj q) fd83_4 q)<|RunL.ef (G2:=[(0,.obj (eyuccaref9_maker_r.cells j27.1)),(6,.obj [I64 (w64 (1+x1)),oR eI x3.2.1,I64 j27.2,SS x3.2.2.1,oR eI (([]:List Int)++x3.2.1),I64 x3.2.2.2])]) q (EO.stP (g1:=_) (en:=eI) (M:=x3.2.1) (cs2:=[I64 (w64 (1+x1)),oR eI x3.2.1,I64 j27.2,SS x3.2.2.1,oR eI (([]:List Int)++x3.2.1),I64 x3.2.2.2]) q q (.ptr q) (.pend q) q q q .ns .rf q q sz27 q q q q (.n q q (.b q .nil)))<|Fi (tn2 q q)) ?_
 refine Px.sq<|W.fz (G1:=[(0,_),(6,.obj [I64 (w64 (1+x1)),iR eI x3.2.1,I64 j27.2,SS x3.2.2.1,oR eI (([]:List Int)++x3.2.1),I64 x3.2.2.2])]) [6] (.n q q (.z q q (FzL.obj (.f (.z (.f (.f (.f (.f .nil))))))) .nil)) ?_
 refine W.fz (G1:=[(0,_),(6,.obj [I64 (w64 (1+x1)),iR eI x3.2.1,I64 j27.2,SS x3.2.2.1,iR eI (([]:List Int)++x3.2.1),I64 x3.2.2.2])]) [6] (.n q q (.z q q (FzL.obj (.f (.f (.f (.f (.z (.f .nil))))))) .nil)) ?_
 obtain ⟨x37,hx37,h⟩:=bnd h
 refine W.rd [[],[],[1],[1,2],[1,2,3],[1,2,3,4],[],[6],rn 1 7 [],rn 0 9 [],rn 0 10 [],rn 0 11 [],rn 0 12 []] [(0,_)] mixo (by kernel_rfl) (Dv 0 (O.mv (.obj q))<|Dv 1 (O.mv (.obj q))<|Dv 2 (O.nlP (.ptr q))<|Dv 3 (O.fO q (.ptr q) fd143_0 q)<|Dv 4 (O.fO q (.ptr q) fd38_2 q)<|Dv 5 (O.ldO (y:=.brw eProd_0.z ⟨0,[2]⟩ j27.1.f_g.Prods.length) q (.ptr q) ct36 q q)<|Dv 6 (O.ldON (cs':=[I64 (w64 (1+x1)),iR eI x3.2.1,I64 j27.2,SS x3.2.2.1,iR eI (([]:List Int)++x3.2.1),I64 x3.2.2.2]) q (.obj q) at83 q q)<|DL.vi 7 (x:=iR eProd_0 [(⟨w64 (1+x1),x3.2.1,j27.2,x3.2.2.1,([]:List Int)++x3.2.1,x3.2.2.2⟩:Prod)]) (O.bs (ys:=[.agg [I64 (w64 (1+x1)),iR eI x3.2.1,I64 j27.2,SS x3.2.2.1,iR eI (([]:List Int)++x3.2.1),I64 x3.2.2.2]]) eProd_0 [(⟨w64 (1+x1),x3.2.1,j27.2,x3.2.2.1,([]:List Int)++x3.2.1,x3.2.2.2⟩:Prod)] sl36 q q q q q q zt83 q q) q q q q .none<|Dv 8 (O.ap (en:=eProd_0) (r:=x37) (.brw q) q (.imm q) .i ap36 q hx37)<|Dv 9 (O.nlP (.ptr q))<|Dv 10 (O.fO q (.ptr q) fd143_0 q)<|Dv 11 (O.fO q (.ptr q) fd38_2 q)<|DL.bp 12 (G2:=[(0,.obj [oR eTok j27.1.f_g.Toks,oR eNon j27.1.f_g.Nons,oR eProd_0 (j27.1.f_g.Prods++[(⟨w64 (1+x1),x3.2.1,j27.2,x3.2.2.1,([]:List Int)++x3.2.1,x3.2.2.2⟩:Prod)]),SS j27.1.f_g.Pro,SS j27.1.f_g.Tail,oR eB j27.1.f_given,oR eNon j27.1.f_types,oR eS j27.1.f_lefts,I64 j27.1.f_e,I64 j27.1.f_at,SS j27.1.f_name,I64 j27.1.f_level,I64 j27.1.f_inner])]) (EO.stP (g1:=_) (en:=eProd_0) (M:=[(⟨w64 (1+x1),x3.2.1,j27.2,x3.2.2.1,([]:List Int)++x3.2.1,x3.2.2.2⟩:Prod)]) (cs2:=[oR eTok j27.1.f_g.Toks,oR eNon j27.1.f_g.Nons,oR eProd_0 (j27.1.f_g.Prods++[(⟨w64 (1+x1),x3.2.1,j27.2,x3.2.2.1,([]:List Int)++x3.2.1,x3.2.2.2⟩:Prod)]),SS j27.1.f_g.Pro,SS j27.1.f_g.Tail,oR eB j27.1.f_given,oR eNon j27.1.f_types,oR eS j27.1.f_lefts,I64 j27.1.f_e,I64 j27.1.f_at,SS j27.1.f_name,I64 j27.1.f_level,I64 j27.1.f_inner]) q q (.ptr q) (.pend q) q q q .ns .rf q q sz36 q q q q (.b q .nil)) q q q q (by kernel_rfl) (by kernel_rfl)<|DL.fin q q q (.n q .nil)) ?_
 obtain rfl:=sm h
 exact Px.fin (Fin.ro .nil q (ode (by kernel_rfl)) (.so q q (.no (.no .nil))) q (.inl q))
end Go.Proofs
