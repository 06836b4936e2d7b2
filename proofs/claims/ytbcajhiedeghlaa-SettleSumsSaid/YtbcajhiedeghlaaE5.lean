/-
  What is proved here: parts of the proof that the last text states: rules for walks through code, and of this program's functions what they answer. No condition of their own.
-/
import Derived.Test.YtbcajhiedeghlaaRows
import Derived.Test.YtbcajhiedeghlaaE4
namespace Go.Proofs
open Go Go.Own
set_option maxRecDepth 100000
set_option maxHeartbeats 2000000
set_option linter.unusedVariables false
theorem Fm:dy Try.prog 23 0 0 3=true:=by kernel_rfl
theorem cv:hI Try.prog 3=true:=by kernel_rfl
theorem zG:dy Try.prog 23 1 1 3=true:=by kernel_rfl
theorem qC:(Try.prog.info? 23).bind (·.zero)=some (.agg #[.int .i64 0,.int .i64 0]):=by kernel_rfl
theorem wZ:kN Try.prog 23 [(0,1),(1,1)]=true:=by kernel_rfl
theorem qA:gA Try.prog 23 2=true:=by kernel_rfl
theorem p7:iP Try.prog 23 2=true:=by kernel_rfl
theorem kf:qz Try.prog 9=true:=by kernel_rfl
theorem call121:dB Try.prog 121=true:=by kernel_rfl
theorem call122:dB Try.prog 122=true:=by kernel_rfl
theorem call117:dB Try.prog 117=true:=by kernel_rfl
theorem vE:dy Try.prog 88 1 1 4=true:=by kernel_rfl
theorem mx:hI Try.prog 4=true:=by kernel_rfl
theorem kB:dy Try.prog 88 0 0 9=true:=by kernel_rfl
theorem e4:hI Try.prog 9=true:=by kernel_rfl
theorem vF:dy Try.prog 88 2 2 3=true:=by kernel_rfl
theorem call120:dB Try.prog 120=true:=by kernel_rfl
theorem call111:dB Try.prog 111=true:=by kernel_rfl
theorem pd:dy Try.prog 100 0 0 3=true:=by kernel_rfl
theorem rT:dy Try.prog 100 2 2 98=true:=by kernel_rfl
theorem sG:hI Try.prog 98=true:=by kernel_rfl
theorem rv:ft Try.prog 98 88 4=true:=by kernel_rfl
theorem nU:dy Try.prog 100 1 1 9=true:=by kernel_rfl
theorem lj:iP Try.prog 88 4=true:=by kernel_rfl
theorem call116:dB Try.prog 116=true:=by kernel_rfl
theorem eM:Try.prog.follows .mixedOrders=true:=by kernel_rfl
theorem call124:dB Try.prog 124=true:=by kernel_rfl
theorem call123:dB Try.prog 123=true:=by kernel_rfl
theorem sM:dy Try.prog 93 0 0 91=true:=by kernel_rfl
theorem xM:hI Try.prog 91=true:=by kernel_rfl
theorem tr:ft Try.prog 91 90 6=true:=by kernel_rfl
theorem Cb:iP Try.prog 90 6=true:=by kernel_rfl
theorem sl:(Try.prog.info? 90).bind (·.zero)=some (.agg #[.string { data:=#[] },.bool false,.int .i64 0,.int .i64 0,.string { data:=#[] },.int .i64 0]):=by kernel_rfl
theorem Ix:gA Try.prog 90 6=true:=by kernel_rfl
theorem rY:dy Try.prog 90 1 4 9=true:=by kernel_rfl
theorem zN:dy Try.prog 90 0 0 88=true:=by kernel_rfl
theorem call118:dB Try.prog 118=true:=by kernel_rfl
theorem call119:dB Try.prog 119=true:=by kernel_rfl
theorem tW:dy Try.prog 93 1 1 88=true:=by kernel_rfl
theorem Fo:dy Try.prog 33 0 0 9=true:=by kernel_rfl
theorem tT:dy Try.prog 33 1 1 30=true:=by kernel_rfl
theorem xL:hI Try.prog 30=true:=by kernel_rfl
theorem tp:ft Try.prog 30 100 4=true:=by kernel_rfl
theorem EF:iP Try.prog 100 4=true:=by kernel_rfl
theorem call110:dB Try.prog 110=true:=by kernel_rfl
theorem oz:dy Try.prog 33 2 2 31=true:=by kernel_rfl
theorem p8:hI Try.prog 31=true:=by kernel_rfl
theorem pO:ft Try.prog 31 96 3=true:=by kernel_rfl
theorem EH:iP Try.prog 96 3=true:=by kernel_rfl
theorem BO:(Try.prog.info? 96).bind (·.zero)=some (.agg #[.string { data:=#[] },.slice none 0 0,.int .i64 0]):=by kernel_rfl
theorem IA:gA Try.prog 96 3=true:=by kernel_rfl
theorem tX:dy Try.prog 96 0 0 9=true:=by kernel_rfl
theorem rZ:dy Try.prog 96 1 1 94=true:=by kernel_rfl
theorem vu:hI Try.prog 94=true:=by kernel_rfl
theorem u2:ft Try.prog 94 93 6=true:=by kernel_rfl
theorem EG:iP Try.prog 93 6=true:=by kernel_rfl
theorem call112:dB Try.prog 112=true:=by kernel_rfl
theorem zC:dy Try.prog 169 4 8 3=true:=by kernel_rfl
theorem nH:gA Try.prog 3 1=true:=by kernel_rfl
theorem zD:dy Try.prog 169 5 9 3=true:=by kernel_rfl
theorem zE:dy Try.prog 169 6 10 9=true:=by kernel_rfl
theorem w6:gA Try.prog 9 1=true:=by kernel_rfl
theorem zB:dy Try.prog 169 2 6 41=true:=by kernel_rfl
theorem rR:hI Try.prog 41=true:=by kernel_rfl
theorem rr:ft Try.prog 41 176 2=true:=by kernel_rfl
theorem KG:dy Try.prog 176 0 0 9=true:=by kernel_rfl
theorem kl:dy Try.prog 169 0 0 44=true:=by kernel_rfl
theorem oA:dy Try.prog 44 0 0 40=true:=by kernel_rfl
theorem p9:hI Try.prog 40=true:=by kernel_rfl
theorem pP:ft Try.prog 40 78 6=true:=by kernel_rfl
theorem KM:dy Try.prog 78 0 0 9=true:=by kernel_rfl
theorem KN:dy Try.prog 78 1 1 4=true:=by kernel_rfl
theorem Pa:Cg Try.prog 4=true:=by kernel_rfl
theorem zK:dy Try.prog 78 2 2 3=true:=by kernel_rfl
theorem call95:dB Try.prog 95=true:=by kernel_rfl
theorem BN:(Try.prog.info? 78).bind (·.zero)=some (.agg #[.string { data:=#[] },.bool false,.int .i64 0,.int .i64 0,.int .i64 0,.string { data:=#[] }]):=by kernel_rfl
theorem D2:kN Try.prog 78 [(0,1),(1,1),(2,1),(3,1),(4,1),(5,1)]=true:=by kernel_rfl
theorem VE:gA Try.prog 78 6=true:=by kernel_rfl
theorem Dt:sa Try.prog 5 .u8=true:=by kernel_rfl
theorem wc:sa Try.prog 3 .i64=true:=by kernel_rfl
theorem call114:dB Try.prog 114=true:=by kernel_rfl
theorem rX:dy Try.prog 88 3 3 3=true:=by kernel_rfl
theorem call94:dB Try.prog 94=true:=by kernel_rfl
theorem OZ:iP Try.prog 78 6=true:=by kernel_rfl
theorem Oc:j7 Try.prog 78 6=true:=by kernel_rfl
theorem OI:iY Try.prog 40 78 6 64=true:=by kernel_rfl
theorem NQ:gA Try.prog 40 1=true:=by kernel_rfl
theorem xQ:dy Try.prog 169 1 5 103=true:=by kernel_rfl
theorem zr:hI Try.prog 103=true:=by kernel_rfl
theorem Wa:j7 Try.prog 4 1=true:=by kernel_rfl
theorem oS:ft Try.prog 103 4 1=true:=by kernel_rfl
theorem OD:iY Try.prog 103 4 1 1=true:=by kernel_rfl
theorem Vw:gA Try.prog 103 1=true:=by kernel_rfl
theorem call98:dB Try.prog 98=true:=by kernel_rfl
theorem BM:(Try.prog.info? 176).bind (·.zero)=some (.agg #[.string { data:=#[] },.string { data:=#[] }]):=by kernel_rfl
theorem D1:kN Try.prog 176 [(0,1),(1,1)]=true:=by kernel_rfl
theorem Ek:j7 Try.prog 176 2=true:=by kernel_rfl
theorem EB:iY Try.prog 41 176 2 32=true:=by kernel_rfl
theorem D':gA Try.prog 41 1=true:=by kernel_rfl
theorem CF:dy Try.prog 176 1 1 9=true:=by kernel_rfl
theorem call113:dB Try.prog 113=true:=by kernel_rfl
theorem CG:dy Try.prog 78 3 3 3=true:=by kernel_rfl
theorem CE:dy Try.prog 169 7 11 3=true:=by kernel_rfl
theorem CH:dy Try.prog 78 4 4 3=true:=by kernel_rfl
theorem u3:gA Try.prog 4 1=true:=by kernel_rfl
theorem CI:dy Try.prog 78 5 5 9=true:=by kernel_rfl
theorem xR:dy Try.prog 169 3 7 167=true:=by kernel_rfl
theorem zs:hI Try.prog 167=true:=by kernel_rfl
theorem By:ft Try.prog 167 9 1=true:=by kernel_rfl
theorem call96:dB Try.prog 96=true:=by kernel_rfl
theorem KO:dy Try.prog 93 2 5 3=true:=by kernel_rfl
theorem BL:(Try.prog.info? 148).bind (·.zero)=some (.agg #[.int .i64 0,.slice none 0 0,.int .i64 0,.string { data:=#[] },.slice none 0 0,.int .i64 0]):=by kernel_rfl
theorem Ik:kN Try.prog 148 [(0,1),(1,1),(2,1),(3,1),(4,1),(5,1)]=true:=by kernel_rfl
theorem NN:gA Try.prog 148 6=true:=by kernel_rfl
theorem nc:dy Try.prog 148 1 1 29=true:=by kernel_rfl
theorem gE:hI Try.prog 29=true:=by kernel_rfl
theorem call115:dB Try.prog 115=true:=by kernel_rfl
theorem nJ:j7 Try.prog 3 1=true:=by kernel_rfl
theorem eA:ft Try.prog 29 3 1=true:=by kernel_rfl
theorem p5:iY Try.prog 29 3 1 8=true:=by kernel_rfl
theorem w3:gA Try.prog 29 1=true:=by kernel_rfl
theorem CJ:dy Try.prog 90 2 5 3=true:=by kernel_rfl
theorem KD:dy Try.prog 148 3 3 9=true:=by kernel_rfl
theorem KF:dy Try.prog 148 5 5 3=true:=by kernel_rfl
theorem zF:dy Try.prog 169 8 12 3=true:=by kernel_rfl
theorem my:dy Try.prog 44 2 2 42=true:=by kernel_rfl
theorem nS:hI Try.prog 42=true:=by kernel_rfl
theorem IY:j7 Try.prog 148 6=true:=by kernel_rfl
theorem nG:ft Try.prog 42 148 6=true:=by kernel_rfl
theorem Jr:iY Try.prog 42 148 6 88=true:=by kernel_rfl
theorem Iw:gA Try.prog 42 1=true:=by kernel_rfl
theorem zz:dy Try.prog 148 2 2 3=true:=by kernel_rfl
theorem KE:dy Try.prog 148 4 4 29=true:=by kernel_rfl
theorem JA:iP Try.prog 148 6=true:=by kernel_rfl
theorem Ml:sa Try.prog 187 .u64=true:=by kernel_rfl
theorem I0:j7 Try.prog 5 1=true:=by kernel_rfl
theorem D5:ft Try.prog 123 5 1=true:=by kernel_rfl
theorem EM:vj Try.prog 123 9=true:=by kernel_rfl
theorem oX:(Try.prog.info? 44).bind (·.zero)=some (.agg #[.slice none 0 0,.slice none 0 0,.slice none 0 0,.string { data:=#[] },.string { data:=#[] }]):=by kernel_rfl
theorem rL:iP Try.prog 33 4=true:=by kernel_rfl
theorem call92:dB Try.prog 92=true:=by kernel_rfl
theorem Il:kN Try.prog 44 [(0,1),(1,1),(2,1),(3,1),(4,1)]=true:=by kernel_rfl
theorem nI:gA Try.prog 44 5=true:=by kernel_rfl
theorem gm:iP Try.prog 44 5=true:=by kernel_rfl
theorem IT:(Try.prog.info? 4).bind (·.zero)=some (.bool false):=by kernel_rfl
theorem EK:(Try.prog.info? 4).map (·.bytes)=some 1:=by kernel_rfl
theorem V7:(Try.prog.info? 169).bind (·.zero)=some (.agg #[.slice none 0 0,.slice none 0 0,.slice none 0 0,.string { data:=#[] },.string { data:=#[] },.slice none 0 0,.slice none 0 0,.slice none 0 0,.int .i64 0,.int .i64 0,.string { data:=#[] },.int .i64 0,.int .i64 0]):=by kernel_rfl
theorem Vc:kN Try.prog 169 [(0,5),(5,1),(6,1),(7,1),(8,1),(9,1),(10,1),(11,1),(12,1)]=true:=by kernel_rfl
theorem IQ:(Try.prog.info? 100).bind (·.zero)=some (.agg #[.int .i64 0,.string { data:=#[] },.slice none 0 0,.int .i64 0]):=by kernel_rfl
theorem Vv:gA Try.prog 100 4=true:=by kernel_rfl
theorem call93:dB Try.prog 93=true:=by kernel_rfl
theorem qD:(Try.prog.info? 88).bind (·.zero)=some (.agg #[.string { data:=#[] },.bool false,.int .i64 0,.int .i64 0]):=by kernel_rfl
theorem w0:kN Try.prog 88 [(0,1),(1,1),(2,1),(3,1)]=true:=by kernel_rfl
theorem KP:dy Try.prog 96 2 2 3=true:=by kernel_rfl
theorem Wd:j7 Try.prog 9 1=true:=by kernel_rfl
theorem OG:iY Try.prog 167 9 1 16=true:=by kernel_rfl
theorem VA:gA Try.prog 167 1=true:=by kernel_rfl
theorem w5:gA Try.prog 88 4=true:=by kernel_rfl
theorem call97:dB Try.prog 97=true:=by kernel_rfl
theorem rV:dy Try.prog 44 1 1 41=true:=by kernel_rfl
theorem VB:gA Try.prog 176 2=true:=by kernel_rfl
theorem OY:iP Try.prog 176 2=true:=by kernel_rfl
theorem call99:dB Try.prog 99=true:=by kernel_rfl
theorem Fp:dy Try.prog 33 3 3 9=true:=by kernel_rfl
theorem KK:dy Try.prog 44 3 3 9=true:=by kernel_rfl
theorem KL:dy Try.prog 44 4 4 9=true:=by kernel_rfl
theorem call78:dB Try.prog 78=true:=by kernel_rfl
theorem nw:dy Try.prog 137 0 0 3=true:=by kernel_rfl
theorem rU:dy Try.prog 137 1 1 3=true:=by kernel_rfl
theorem p6:iP Try.prog 137 2=true:=by kernel_rfl
theorem call102:dB Try.prog 102=true:=by kernel_rfl
theorem ke:ft Try.prog 132 137 2=true:=by kernel_rfl
theorem Kw:vA Try.prog 137 [.i .i64,.i .i64]=true:=by kernel_rfl
theorem IX:j7 Try.prog 137 2=true:=by kernel_rfl
theorem Ez:iY Try.prog 132 137 2 16=true:=by kernel_rfl
theorem call101:dB Try.prog 101=true:=by kernel_rfl
theorem call100:dB Try.prog 100=true:=by kernel_rfl
theorem call81:dB Try.prog 81=true:=by kernel_rfl
theorem zy:dy Try.prog 148 0 0 3=true:=by kernel_rfl
theorem Eh:(Try.prog.info? 137).bind (·.zero)=some (.agg #[.int .i64 0,.int .i64 0]):=by kernel_rfl
theorem Ij:kN Try.prog 137 [(0,1),(1,1)]=true:=by kernel_rfl
theorem call80:dB Try.prog 80=true:=by kernel_rfl
theorem kM:ft Try.prog 64 135 2=true:=by kernel_rfl
theorem vC:dy Try.prog 135 0 0 132=true:=by kernel_rfl
theorem vr:hI Try.prog 132=true:=by kernel_rfl
theorem call103:dB Try.prog 103=true:=by kernel_rfl
theorem IS:(Try.prog.info? 135).bind (·.zero)=some (.agg #[.slice none 0 0,.slice none 0 0]):=by kernel_rfl
theorem Nv:kN Try.prog 135 [(0,1),(1,1)]=true:=by kernel_rfl
theorem Oa:j7 Try.prog 135 2=true:=by kernel_rfl
theorem call79:dB Try.prog 79=true:=by kernel_rfl
theorem call67:dB Try.prog 67=true:=by kernel_rfl
theorem call70:dB Try.prog 70=true:=by kernel_rfl
theorem call82:dB Try.prog 82=true:=by kernel_rfl
theorem call83:dB Try.prog 83=true:=by kernel_rfl
theorem OK:iY Try.prog 64 135 2 48=true:=by kernel_rfl
theorem sK:dy Try.prog 135 1 1 133=true:=by kernel_rfl
theorem vt:hI Try.prog 133=true:=by kernel_rfl
theorem Ei:(Try.prog.info? 145).bind (·.zero)=some (.agg #[.int .i64 0,.int .i64 0]):=by kernel_rfl
theorem Nw:kN Try.prog 145 [(0,1),(1,1)]=true:=by kernel_rfl
theorem Ob:j7 Try.prog 145 2=true:=by kernel_rfl
theorem tn:ft Try.prog 133 145 2=true:=by kernel_rfl
theorem Jo:iY Try.prog 133 145 2 16=true:=by kernel_rfl
theorem NL:gA Try.prog 133 1=true:=by kernel_rfl
theorem call68:dB Try.prog 68=true:=by kernel_rfl
theorem call69:dB Try.prog 69=true:=by kernel_rfl
theorem CD:dy Try.prog 145 0 0 3=true:=by kernel_rfl
theorem KC:dy Try.prog 145 1 1 3=true:=by kernel_rfl
theorem rW:dy Try.prog 76 4 4 29=true:=by kernel_rfl
theorem vD:dy Try.prog 76 2 2 3=true:=by kernel_rfl
theorem sL:dy Try.prog 76 3 3 4=true:=by kernel_rfl
theorem call59:dB Try.prog 59=true:=by kernel_rfl
theorem IU:(Try.prog.info? 76).bind (·.zero)=some (.agg #[.int .i64 0,.int .i64 0,.int .i64 0,.bool false,.slice none 0 0]):=by kernel_rfl
theorem Ve:kN Try.prog 76 [(0,1),(1,1),(2,1),(3,1),(4,1)]=true:=by kernel_rfl
theorem NR:gA Try.prog 76 5=true:=by kernel_rfl
theorem Vy:gA Try.prog 137 2=true:=by kernel_rfl
theorem Bx:ft Try.prog 112 139 3=true:=by kernel_rfl
theorem KA:dy Try.prog 139 0 0 3=true:=by kernel_rfl
theorem CC:dy Try.prog 139 2 2 29=true:=by kernel_rfl
theorem KB:dy Try.prog 139 1 1 3=true:=by kernel_rfl
theorem zd:iP Try.prog 76 5=true:=by kernel_rfl
theorem call66:dB Try.prog 66=true:=by kernel_rfl
theorem Wc:j7 Try.prog 76 5=true:=by kernel_rfl
theorem mi:ft Try.prog 65 76 5=true:=by kernel_rfl
theorem OL:iY Try.prog 65 76 5 56=true:=by kernel_rfl
theorem kL:ft Try.prog 34 29 1=true:=by kernel_rfl
theorem V6:(Try.prog.info? 161).bind (·.zero)=some (.agg #[.int .i64 0,.int .i64 0]):=by kernel_rfl
theorem Vb:kN Try.prog 161 [(0,1),(1,1)]=true:=by kernel_rfl
theorem V':j7 Try.prog 161 2=true:=by kernel_rfl
theorem qx:ft Try.prog 158 161 2=true:=by kernel_rfl
theorem OF:iY Try.prog 158 161 2 16=true:=by kernel_rfl
theorem call88:dB Try.prog 88=true:=by kernel_rfl
theorem xP:dy Try.prog 161 0 0 3=true:=by kernel_rfl
theorem zA:dy Try.prog 161 1 1 3=true:=by kernel_rfl
theorem call104:dB Try.prog 104=true:=by kernel_rfl
theorem IZ:j7 Try.prog 29 1=true:=by kernel_rfl
theorem EA:iY Try.prog 34 29 1 24=true:=by kernel_rfl
theorem call107:dB Try.prog 107=true:=by kernel_rfl
theorem call105:dB Try.prog 105=true:=by kernel_rfl
theorem call106:dB Try.prog 106=true:=by kernel_rfl
theorem V8:(Try.prog.info? 29).bind (·.zero)=some (.slice none 0 0):=by kernel_rfl
theorem O6:(Try.prog.info? 29).map (·.bytes)=some 24:=by kernel_rfl
theorem call89:dB Try.prog 89=true:=by kernel_rfl
theorem call85:dB Try.prog 85=true:=by kernel_rfl
theorem call86:dB Try.prog 86=true:=by kernel_rfl
theorem call84:dB Try.prog 84=true:=by kernel_rfl
theorem call87:dB Try.prog 87=true:=by kernel_rfl
theorem call71:dB Try.prog 71=true:=by kernel_rfl
theorem call72:dB Try.prog 72=true:=by kernel_rfl
theorem N_:(Try.prog.info? 139).bind (·.zero)=some (.agg #[.int .i64 0,.int .i64 0,.slice none 0 0]):=by kernel_rfl
theorem Va:kN Try.prog 139 [(0,1),(1,1),(2,1)]=true:=by kernel_rfl
theorem Vz:gA Try.prog 139 3=true:=by kernel_rfl
theorem call73:dB Try.prog 73=true:=by kernel_rfl
theorem OX:iP Try.prog 139 3=true:=by kernel_rfl
theorem V_:j7 Try.prog 139 3=true:=by kernel_rfl
theorem OE:iY Try.prog 112 139 3 40=true:=by kernel_rfl
theorem call52:dB Try.prog 52=true:=by kernel_rfl
theorem call54:dB Try.prog 54=true:=by kernel_rfl
theorem call53:dB Try.prog 53=true:=by kernel_rfl
theorem zJ:dy Try.prog 76 0 0 3=true:=by kernel_rfl
theorem tV:dy Try.prog 76 1 1 3=true:=by kernel_rfl
theorem IV:(Try.prog.info? 82).bind (·.zero)=some (.agg #[.int .i64 0,.int .i64 0,.int .i64 0,.int .i64 0]):=by kernel_rfl
theorem Nx:kN Try.prog 82 [(0,1),(1,1),(2,1),(3,1)]=true:=by kernel_rfl
theorem Od:j7 Try.prog 82 4=true:=by kernel_rfl
theorem mj:ft Try.prog 68 82 4=true:=by kernel_rfl
theorem Js:iY Try.prog 68 82 4 32=true:=by kernel_rfl
theorem u7:(Try.prog.info? 47).bind (·.zero)=some (.agg #[.slice none 0 0,.slice none 0 0]):=by kernel_rfl
theorem tq:ft Try.prog 54 23 2=true:=by kernel_rfl
theorem O5:(Try.prog.info? 23).map (·.bytes)=some 16:=by kernel_rfl
theorem V9:(Try.prog.info? 3).bind (·.zero)=some (.int .i64 0):=by kernel_rfl
theorem O7:(Try.prog.info? 3).map (·.bytes)=some 8:=by kernel_rfl
theorem p_:dy Try.prog 47 0 0 45=true:=by kernel_rfl
theorem qR:hI Try.prog 45=true:=by kernel_rfl
theorem Wb:j7 Try.prog 54 1=true:=by kernel_rfl
theorem ru:ft Try.prog 45 54 1=true:=by kernel_rfl
theorem OJ:iY Try.prog 45 54 1 24=true:=by kernel_rfl
theorem tU:dy Try.prog 47 1 1 34=true:=by kernel_rfl
theorem qQ:hI Try.prog 34=true:=by kernel_rfl
theorem VD:gA Try.prog 45 1=true:=by kernel_rfl
theorem VC:gA Try.prog 34 1=true:=by kernel_rfl
theorem Ca:iP Try.prog 47 2=true:=by kernel_rfl
theorem w4:gA Try.prog 47 2=true:=by kernel_rfl
theorem call30:dB Try.prog 30=true:=by kernel_rfl
theorem Vk:ft Try.prog 57 62 2=true:=by kernel_rfl
theorem Vj:ft Try.prog 51 59 2=true:=by kernel_rfl
theorem QT:dy Try.prog 59 0 0 3=true:=by kernel_rfl
theorem QU:dy Try.prog 59 1 1 57=true:=by kernel_rfl
theorem Qp:hI Try.prog 57=true:=by kernel_rfl
theorem VT:Try.prog.underlying 3=some (.int .i64):=by kernel_rfl
noncomputable abbrev Xl:BY Try.prog 3 Int:=On VT
theorem We:(Try.prog.info? 3).bind (·.zero)=some (.int .i64 0):=by kernel_rfl
noncomputable abbrev Xm:BZ Try.prog 3 Int:=Oo We
theorem tR:hI Try.prog 54=true:=by kernel_rfl
theorem w1:kN Try.prog 90 [(0,4),(4,1),(5,1)]=true:=by kernel_rfl
theorem yX:j7 Try.prog 90 6=true:=by kernel_rfl
theorem Ej:(Try.prog.info? 93).bind (·.zero)=some (.agg #[.slice none 0 0,.string { data:=#[] },.bool false,.int .i64 0,.int .i64 0,.int .i64 0]):=by kernel_rfl
theorem Im:kN Try.prog 93 [(0,1),(1,4),(5,1)]=true:=by kernel_rfl
theorem El:j7 Try.prog 93 6=true:=by kernel_rfl
theorem Ny:kN Try.prog 96 [(0,1),(1,1),(2,1)]=true:=by kernel_rfl
theorem Oe:j7 Try.prog 96 3=true:=by kernel_rfl
theorem yW:(Try.prog.info? 33).bind (·.zero)=some (.agg #[.string { data:=#[] },.slice none 0 0,.slice none 0 0,.string { data:=#[] }]):=by kernel_rfl
theorem Vd:kN Try.prog 33 [(0,1),(1,1),(2,1),(3,1)]=true:=by kernel_rfl
theorem call14:dB Try.prog 14=true:=by kernel_rfl
theorem D_:gA Try.prog 33 4=true:=by kernel_rfl
theorem QS:dy Try.prog 100 3 3 3=true:=by kernel_rfl
theorem Nu:kN Try.prog 100 [(0,1),(1,1),(2,1),(3,1)]=true:=by kernel_rfl
theorem I1:j7 Try.prog 88 4=true:=by kernel_rfl
theorem OM:iY Try.prog 98 88 4 40=true:=by kernel_rfl
theorem VG:gA Try.prog 98 1=true:=by kernel_rfl
theorem N':j7 Try.prog 100 4=true:=by kernel_rfl
theorem Jq:iY Try.prog 30 100 4 56=true:=by kernel_rfl
theorem NO:gA Try.prog 30 1=true:=by kernel_rfl
theorem EC:iY Try.prog 91 90 6 64=true:=by kernel_rfl
theorem Iy:gA Try.prog 91 1=true:=by kernel_rfl
theorem ED:iY Try.prog 94 93 6 72=true:=by kernel_rfl
theorem Iz:gA Try.prog 94 1=true:=by kernel_rfl
theorem OH:iY Try.prog 31 96 3 48=true:=by kernel_rfl
theorem NP:gA Try.prog 31 1=true:=by kernel_rfl
theorem call65:dB Try.prog 65=true:=by kernel_rfl
theorem call47:dB Try.prog 47=true:=by kernel_rfl
theorem call45:dB Try.prog 45=true:=by kernel_rfl
theorem KH:dy Try.prog 36 0 0 3=true:=by kernel_rfl
theorem KI:dy Try.prog 36 2 2 29=true:=by kernel_rfl
theorem call44:dB Try.prog 44=true:=by kernel_rfl
theorem zH:dy Try.prog 36 1 1 34=true:=by kernel_rfl
theorem call46:dB Try.prog 46=true:=by kernel_rfl
theorem zI:dy Try.prog 36 3 3 29=true:=by kernel_rfl
theorem KJ:dy Try.prog 36 4 4 4=true:=by kernel_rfl
theorem JC:iP Try.prog 36 5=true:=by kernel_rfl
theorem call20:dB Try.prog 20=true:=by kernel_rfl
theorem Vi:ft Try.prog 39 33 4=true:=by kernel_rfl
theorem QV:dy Try.prog 62 0 0 3=true:=by kernel_rfl
theorem QW:dy Try.prog 62 1 1 3=true:=by kernel_rfl
theorem call109:dB Try.prog 109=true:=by kernel_rfl
theorem Hi:sa Try.prog 162 .u64=true:=by kernel_rfl
theorem call90:dB Try.prog 90=true:=by kernel_rfl
theorem OW:iP Try.prog 135 2=true:=by kernel_rfl
theorem Vx:gA Try.prog 135 2=true:=by kernel_rfl
theorem call74:dB Try.prog 74=true:=by kernel_rfl
theorem Jz:iP Try.prog 145 2=true:=by kernel_rfl
theorem NM:gA Try.prog 145 2=true:=by kernel_rfl
theorem call63:dB Try.prog 63=true:=by kernel_rfl
theorem call62:dB Try.prog 62=true:=by kernel_rfl
theorem call57:dB Try.prog 57=true:=by kernel_rfl
theorem call38:dB Try.prog 38=true:=by kernel_rfl
theorem call55:dB Try.prog 55=true:=by kernel_rfl
theorem call56:dB Try.prog 56=true:=by kernel_rfl
theorem O0:iP Try.prog 82 4=true:=by kernel_rfl
theorem VF:gA Try.prog 82 4=true:=by kernel_rfl
theorem zM:dy Try.prog 82 2 2 3=true:=by kernel_rfl
theorem call77:dB Try.prog 77=true:=by kernel_rfl
theorem call64:dB Try.prog 64=true:=by kernel_rfl
theorem call40:dB Try.prog 40=true:=by kernel_rfl
theorem call31:dB Try.prog 31=true:=by kernel_rfl
theorem call33:dB Try.prog 33=true:=by kernel_rfl
theorem Ft:dy Try.prog 82 3 3 3=true:=by kernel_rfl
theorem call41:dB Try.prog 41=true:=by kernel_rfl
theorem call29:dB Try.prog 29=true:=by kernel_rfl
theorem call37:dB Try.prog 37=true:=by kernel_rfl
theorem zL:dy Try.prog 82 0 0 3=true:=by kernel_rfl
theorem Fq:dy Try.prog 82 1 1 3=true:=by kernel_rfl
instance:dD Try.prog 23 0 0 3:=⟨Fm⟩
instance:gS Try.prog 3:=⟨cv⟩
instance:dD Try.prog 23 1 1 3:=⟨zG⟩
instance:so Try.prog 9:=⟨kf⟩
instance:dD Try.prog 88 1 1 4:=⟨vE⟩
instance:gS Try.prog 4:=⟨mx⟩
instance:dD Try.prog 88 0 0 9:=⟨kB⟩
instance:gS Try.prog 9:=⟨e4⟩
instance:dD Try.prog 88 2 2 3:=⟨vF⟩
instance:dD Try.prog 100 0 0 3:=⟨pd⟩
instance:dD Try.prog 100 2 2 98:=⟨rT⟩
instance:gS Try.prog 98:=⟨sG⟩
instance:hc Try.prog 98 88 4:=⟨rv⟩
instance:dD Try.prog 100 1 1 9:=⟨nU⟩
instance:dD Try.prog 93 0 0 91:=⟨sM⟩
instance:gS Try.prog 91:=⟨xM⟩
instance:hc Try.prog 91 90 6:=⟨tr⟩
instance:dD Try.prog 90 1 4 9:=⟨rY⟩
instance:dD Try.prog 90 0 0 88:=⟨zN⟩
instance:dD Try.prog 93 1 1 88:=⟨tW⟩
instance:dD Try.prog 33 0 0 9:=⟨Fo⟩
instance:dD Try.prog 33 1 1 30:=⟨tT⟩
instance:gS Try.prog 30:=⟨xL⟩
instance:hc Try.prog 30 100 4:=⟨tp⟩
instance:dD Try.prog 33 2 2 31:=⟨oz⟩
instance:gS Try.prog 31:=⟨p8⟩
instance:hc Try.prog 31 96 3:=⟨pO⟩
instance:dD Try.prog 96 0 0 9:=⟨tX⟩
instance:dD Try.prog 96 1 1 94:=⟨rZ⟩
instance:gS Try.prog 94:=⟨vu⟩
instance:hc Try.prog 94 93 6:=⟨u2⟩
instance:dD Try.prog 169 4 8 3:=⟨zC⟩
instance:dD Try.prog 169 5 9 3:=⟨zD⟩
instance:dD Try.prog 169 6 10 9:=⟨zE⟩
instance:dD Try.prog 169 2 6 41:=⟨zB⟩
instance:gS Try.prog 41:=⟨rR⟩
instance:hc Try.prog 41 176 2:=⟨rr⟩
instance:dD Try.prog 176 0 0 9:=⟨KG⟩
instance:dD Try.prog 169 0 0 44:=⟨kl⟩
instance:dD Try.prog 44 0 0 40:=⟨oA⟩
instance:gS Try.prog 40:=⟨p9⟩
instance:hc Try.prog 40 78 6:=⟨pP⟩
instance:dD Try.prog 78 0 0 9:=⟨KM⟩
instance:dD Try.prog 78 1 1 4:=⟨KN⟩
instance:dD Try.prog 78 2 2 3:=⟨zK⟩
instance:dD Try.prog 88 3 3 3:=⟨rX⟩
instance:dD Try.prog 169 1 5 103:=⟨xQ⟩
instance:gS Try.prog 103:=⟨zr⟩
instance:hc Try.prog 103 4 1:=⟨oS⟩
instance:dD Try.prog 176 1 1 9:=⟨CF⟩
instance:dD Try.prog 78 3 3 3:=⟨CG⟩
instance:dD Try.prog 169 7 11 3:=⟨CE⟩
instance:dD Try.prog 78 4 4 3:=⟨CH⟩
instance:dD Try.prog 78 5 5 9:=⟨CI⟩
instance:dD Try.prog 169 3 7 167:=⟨xR⟩
instance:gS Try.prog 167:=⟨zs⟩
instance:hc Try.prog 167 9 1:=⟨By⟩
instance:dD Try.prog 93 2 5 3:=⟨KO⟩
instance:dD Try.prog 148 1 1 29:=⟨nc⟩
instance:gS Try.prog 29:=⟨gE⟩
instance:hc Try.prog 29 3 1:=⟨eA⟩
instance:dD Try.prog 90 2 5 3:=⟨CJ⟩
instance:dD Try.prog 148 3 3 9:=⟨KD⟩
instance:dD Try.prog 148 5 5 3:=⟨KF⟩
instance:dD Try.prog 169 8 12 3:=⟨zF⟩
instance:dD Try.prog 44 2 2 42:=⟨my⟩
instance:gS Try.prog 42:=⟨nS⟩
instance:hc Try.prog 42 148 6:=⟨nG⟩
instance:dD Try.prog 148 2 2 3:=⟨zz⟩
instance:dD Try.prog 148 4 4 29:=⟨KE⟩
instance:hc Try.prog 123 5 1:=⟨D5⟩
instance:dD Try.prog 96 2 2 3:=⟨KP⟩
instance:dD Try.prog 44 1 1 41:=⟨rV⟩
instance:dD Try.prog 33 3 3 9:=⟨Fp⟩
instance:dD Try.prog 44 3 3 9:=⟨KK⟩
instance:dD Try.prog 44 4 4 9:=⟨KL⟩
instance:dD Try.prog 137 0 0 3:=⟨nw⟩
instance:dD Try.prog 137 1 1 3:=⟨rU⟩
instance:hc Try.prog 132 137 2:=⟨ke⟩
instance:dD Try.prog 148 0 0 3:=⟨zy⟩
instance:hc Try.prog 64 135 2:=⟨kM⟩
instance:dD Try.prog 135 0 0 132:=⟨vC⟩
instance:gS Try.prog 132:=⟨vr⟩
instance:dD Try.prog 135 1 1 133:=⟨sK⟩
instance:gS Try.prog 133:=⟨vt⟩
instance:hc Try.prog 133 145 2:=⟨tn⟩
instance:dD Try.prog 145 0 0 3:=⟨CD⟩
instance:dD Try.prog 145 1 1 3:=⟨KC⟩
instance:dD Try.prog 76 4 4 29:=⟨rW⟩
instance:dD Try.prog 76 2 2 3:=⟨vD⟩
instance:dD Try.prog 76 3 3 4:=⟨sL⟩
instance:hc Try.prog 112 139 3:=⟨Bx⟩
instance:dD Try.prog 139 0 0 3:=⟨KA⟩
instance:dD Try.prog 139 2 2 29:=⟨CC⟩
instance:dD Try.prog 139 1 1 3:=⟨KB⟩
instance:hc Try.prog 65 76 5:=⟨mi⟩
instance:hc Try.prog 34 29 1:=⟨kL⟩
instance:hc Try.prog 158 161 2:=⟨qx⟩
instance:dD Try.prog 161 0 0 3:=⟨xP⟩
instance:dD Try.prog 161 1 1 3:=⟨zA⟩
instance:dD Try.prog 76 0 0 3:=⟨zJ⟩
instance:dD Try.prog 76 1 1 3:=⟨tV⟩
instance:hc Try.prog 68 82 4:=⟨mj⟩
instance:hc Try.prog 54 23 2:=⟨tq⟩
instance:dD Try.prog 47 0 0 45:=⟨p_⟩
instance:gS Try.prog 45:=⟨qR⟩
instance:hc Try.prog 45 54 1:=⟨ru⟩
instance:dD Try.prog 47 1 1 34:=⟨tU⟩
instance:gS Try.prog 34:=⟨qQ⟩
instance:hc Try.prog 57 62 2:=⟨Vk⟩
instance:hc Try.prog 51 59 2:=⟨Vj⟩
instance:dD Try.prog 59 0 0 3:=⟨QT⟩
instance:dD Try.prog 59 1 1 57:=⟨QU⟩
instance:gS Try.prog 57:=⟨Qp⟩
instance:gS Try.prog 54:=⟨tR⟩
instance:dD Try.prog 100 3 3 3:=⟨QS⟩
instance:dD Try.prog 36 0 0 3:=⟨KH⟩
instance:dD Try.prog 36 2 2 29:=⟨KI⟩
instance:dD Try.prog 36 1 1 34:=⟨zH⟩
instance:dD Try.prog 36 3 3 29:=⟨zI⟩
instance:dD Try.prog 36 4 4 4:=⟨KJ⟩
instance:hc Try.prog 39 33 4:=⟨Vi⟩
instance:dD Try.prog 62 0 0 3:=⟨QV⟩
instance:dD Try.prog 62 1 1 3:=⟨QW⟩
instance:dD Try.prog 82 2 2 3:=⟨zM⟩
instance:dD Try.prog 82 3 3 3:=⟨Ft⟩
instance:dD Try.prog 82 0 0 3:=⟨zL⟩
instance:dD Try.prog 82 1 1 3:=⟨Fq⟩
theorem PO (a0:Int) (r:Bool) (h:A7 a0=some r):cc Try.prog 121 [lT a0] [none] (a' r):=by
 unfold A7 at h;refine cc.go (N:=⟨21,[]⟩) Try.func121 q q q q (W.fin ?_);refine W.st [(0,lT a0)] ?_;refine W.aY [0] ?_;obtain ⟨qO,aa,h⟩:=aB h;refine W.rs [(2,a' qO)] ?_ ?_
 ·refine bu q<|ai (O.geq (.lit q) (.k q))<|ai (O.aA (.lit q)) ?_;rcases cB aa with ⟨dw,aa⟩ | ⟨dw,aa⟩
  ·refine a7 dw (O.aA (.lit q))<|a7 dw (O.leq (.lit q) (.k q))<|ai (O.dx (.lit q) dw (.lit q))<|ai (O.aA (.lit q)) ?_;rcases cB aa with ⟨c6,aa⟩ | ⟨c6,aa⟩
   ·obtain rfl:=ax aa;exact av.aV
   ·refine a7 c6 (O.aA (.lit q))<|a7 c6 (O.geq (.lit q) (.k q))<|a7 c6 (O.aA (.lit q)) ?_;rcases cB aa with ⟨fe,aa⟩ | ⟨fe,aa⟩
    ·refine a7 fe (O.aA (.lit q))<|a7 fe (O.leq (.lit q) (.k q))<|a7 c6 (O.dx (.lit q) fe (.lit q))<|ai (O.cy (.lit q) c6 (.lit q))<|ai (O.aA (.lit q)) ?_;rcases cB aa with ⟨dq,aa⟩ | ⟨dq,aa⟩
     ·obtain rfl:=ax aa;exact av.aV
     ·obtain rfl:=ax aa;exact av.aV
    ·obtain rfl:=ax aa;exact cL fe<|cL fe<|a7 c6 (O.cy (.lit q) fe (.k q))<|av.aV
  ·refine cL dw<|cL dw<|ai (O.cy (.lit q) dw (.k q))<|bu q<|a7 q (O.aA (.lit q))<|a7 q (O.geq (.lit q) (.k q))<|a7 q (O.aA (.lit q)) ?_;rcases cB aa with ⟨dO,aa⟩ | ⟨dO,aa⟩
   ·refine a7 dO (O.aA (.lit q))<|a7 dO (O.leq (.lit q) (.k q))<|a7 q (O.dx (.lit q) dO (.lit q))<|ai (O.cy (.lit q) q (.lit q))<|ai (O.aA (.lit q)) ?_;rcases cB aa with ⟨dV,aa⟩ | ⟨dV,aa⟩
    ·obtain rfl:=ax aa;exact av.aV
    ·obtain rfl:=ax aa;exact av.aV
   ·obtain rfl:=ax aa;exact cL dO<|cL dO<|a7 q (O.cy (.lit q) dO (.k q))<|av.aV
 refine W.rt ?_;obtain rfl:=ax h;exact cE (.f q q .nil)
theorem PQ (a0:Int) (r:Bool) (h:A8 a0=some r):cc Try.prog 122 [lT a0] [none] (a' r):=by
 unfold A8 at h;refine cc.go (N:=⟨9,[]⟩) Try.func122 q q q q (W.fin ?_);refine W.st [(0,lT a0)] ?_;refine W.aY [0] ?_;obtain ⟨c2,aa,h⟩:=aB h;refine W.rs [(2,a' c2)] ?_ ?_
 ·refine bu q<|ai (O.geq (.lit q) (.k q))<|ai (O.aA (.lit q)) ?_;rcases cB aa with ⟨dw,aa⟩ | ⟨dw,aa⟩
  ·obtain rfl:=ax aa;exact av.aV
  ·obtain rfl:=ax aa;exact av.aV
 refine W.rt ?_;obtain rfl:=ax h;exact cE (.f q q .nil)
theorem PM (a0:ByteArray) (ay:Int) (r:Int) (h:A5 a0 ay=some r):cc Try.prog 117 [af a0,j ay] [none,none] (j r):=by
 unfold A5 at h;refine cc.go (N:=⟨43,[]⟩) Try.func117 q q q q (W.fin ?_);refine W.st [(0,af a0),(1,j ay)] ?_;refine W.aY [0,1] ?_;refine W.aY [0,1,5] ?_;refine W.a8<|W.bp ?_;obtain ⟨x2,ao,h⟩:=aB h;refine W.ck (G1:=[(0,_),(1,_),(5,_)]) (dF q q q) ?_;refine W.eZ (s:=0) (λ(s1:Int)=>[(0,af a0),(1,j ay),(5,j s1)]) 0 (λ(x2:Int)=>[(5,j x2)]) ao (λs1 o h=>?_) ?_
 ·clear ao;refine W.a8 ?_;obtain ⟨m',aa,h⟩:=aB h;refine W.rs [(0,af a0),(1,j ay),(5,j s1),(39,a' m')] ?_ ?_
  ·refine bu q<|bu q<|ai (O.add (.lit q) (.lit q))<|bu q<|ai (O.mR (.lit q) kf)<|ai (O.lss (.lit q) (.lit q))<|ai (O.aA (.lit q)) ?_;rcases cB aa with ⟨dq,aa⟩ | ⟨dq,aa⟩
   ·refine a7 dq (O.aA (.lit q))<|a7 dq (O.aA (.lit q))<|a7 dq (O.aA (.lit q))<|a7 dq (O.add (.lit q) (.lit q)) ?_;obtain ⟨cn,k5,aa⟩:=aB aa;refine a7 dq (O.qL (.lit q) (.lit q) kf k5) ?_;obtain ⟨br,fO,aa⟩:=aB aa;refine av.c (cu.go (.bX (.lit q) .nil) (PO cn _ fO) call121 q) q q (.jT q q dq)<|a7 dq (O.aA (.lit q)) ?_;rcases cB aa with ⟨cZ,aa⟩ | ⟨cZ,aa⟩
    ·obtain rfl:=ax aa;exact cL cZ<|cL cZ<|cL cZ<|hl<|hl<|hl<|hl<|hl<|hl<|hl<|hl<|hl<|hl<|hl<|hl<|hl<|hl<|cL cZ<|a7 dq (O.dx (.lit q) cZ (.k q))<|av.aV
    ·refine a7 cZ (O.aA (.lit q))<|a7 cZ (O.gtr (.lit q) (.k q))<|a7 cZ (O.aA (.lit q)) ?_;rcases cB aa with ⟨cX,aa⟩ | ⟨cX,aa⟩
     ·refine a7 cX (O.aA (.lit q))<|a7 cX (O.aA (.lit q))<|a7 cX (O.aA (.lit q))<|a7 cX (O.add (.lit q) (.lit q)) ?_;obtain ⟨cp,jd,aa⟩:=aB aa;refine a7 cX (O.qL (.lit q) (.lit q) kf jd) ?_;obtain ⟨bZ,jv,aa⟩:=aB aa;refine av.c (cu.go (.bX (.lit q) .nil) (PQ cp _ jv) call122 q) q q (.jT q q cX)<|a7 cX (O.aA (.lit q)) ?_;rcases cB aa with ⟨fw,aa⟩ | ⟨fw,aa⟩
      ·obtain rfl:=ax aa;exact cL fw<|cL fw<|cL fw<|cL fw<|cL fw<|cL fw<|a7 cX (O.dx (.lit q) fw (.k q))<|a7 cZ (O.dx (.lit q) cX (.lit q))<|a7 dq (O.cy (.lit q) cZ (.lit q))<|av.aV
      ·refine a7 fw (O.aA (.lit q))<|a7 fw (O.aA (.lit q))<|a7 fw (O.aA (.lit q))<|a7 fw (O.add (.lit q) (.lit q)) ?_;obtain ⟨cM,kG,aa⟩:=aB aa;obtain rfl:=ax aa;exact a7 fw (O.qL (.lit q) (.lit q) kf kG)<|a7 fw (O.eql (.lit q) (.k q))<|a7 cX (O.cy (.lit q) fw (.lit q))<|a7 cZ (O.dx (.lit q) cX (.lit q))<|a7 dq (O.cy (.lit q) cZ (.lit q))<|av.aV
     ·obtain rfl:=ax aa;exact cL cX<|cL cX<|cL cX<|cL cX<|cL cX<|cL cX<|cL cX<|hl<|hl<|hl<|hl<|hl<|hl<|cL cX<|a7 cZ (O.cy (.lit q) cX (.k q))<|a7 dq (O.cy (.lit q) cZ (.lit q))<|av.aV
   ·obtain rfl:=ax aa;exact av.aV
  refine W.bF h q (λeD h=>?_) (λeD h=>?_)
  ·refine W.bM<|ah.a1 ?_;refine W.bp<|W.bq [0,1,5] (bu q<|ai (O.add (.lit q) (.k q))<|av.bq [0,1,41] q<|av.aV) ?_;refine ah.bp ?_;obtain rfl:=ax h;exact ah.go (dF q q q)
  ·refine W.de ?_;refine ah.dd ?_;obtain rfl:=ax h;exact ah.aI (.n q .nil)
 refine ah.df ?_;refine ah.a1<|W.aY [4] ?_;refine W.rt ?_;obtain rfl:=ax h;exact cE (.f q q .nil)
theorem Cn (a0:ByteArray) (r:Bool) (h:uM a0=some r):cc Try.prog 111 [af a0] [none] (a' r):=by
 unfold uM at h;refine cc.go (N:=⟨18,[]⟩) Try.func111 q q q q (W.fin ?_);refine W.st [(0,af a0)] ?_;refine W.aY [0] ?_;obtain ⟨c4,aa,h⟩:=aB h;refine W.rs [(2,a' c4)] ?_ ?_
 ·refine bu q<|ai (O.mR (.lit q) kf)<|ai (O.geq (.lit q) (.k q))<|ai (O.aA (.lit q)) ?_;rcases cB aa with ⟨dw,aa⟩ | ⟨dw,aa⟩
  ·refine a7 dw (O.aA (.lit q))<|a7 dw (O.mR (.lit q) kf)<|a7 dw (O.leq (.lit q) (.k q))<|ai (O.dx (.lit q) dw (.lit q))<|ai (O.aA (.lit q)) ?_;rcases cB aa with ⟨c6,aa⟩ | ⟨c6,aa⟩
   ·refine a7 c6 (O.aA (.lit q)) ?_;obtain ⟨aZ,hE,aa⟩:=aB aa;obtain rfl:=ax aa;exact av.c (cu.go (.bX (.lit q) (.bX (.k q) .nil)) (PM a0 0 _ hE) call117 q) q q (.jT q q c6)<|av.aV
   ·obtain rfl:=ax aa;exact av.aV
  ·obtain rfl:=ax aa;exact av.aV
 refine W.rt ?_;obtain rfl:=ax h;exact cE (.f q q .nil)
theorem PN (a0:Int) (r:Int × Bool) (h:A6 a0=some r):cc Try.prog 120 [lT a0] [none] (.cC [lT r.1,a' r.2]):=by
 unfold A6 at h;refine cc.go (N:=⟨21,[]⟩) Try.func120 q q q q (W.fin ?_);refine W.st [(0,lT a0)] ?_;refine W.aY [0] ?_;refine W.a8<|W.aY [0,4] ?_;refine W.bp<|W.aY [0,4,5] ?_;refine W.bF h q (λdw h=>?_) (λdw h=>?_)
 ·refine W.aY [2,3] ?_;refine W.rt ?_;refine ah.dL ?_;refine ah.c0 ?_;obtain rfl:=ax h;exact cE (.f q q (.f q q .nil))
 ·refine W.aY [0,4,7] ?_;refine W.bF h q (λc6 h=>?_) (λc6 h=>?_)
  ·refine W.aY [2,3] ?_;refine W.rt ?_;refine ah.dL ?_;refine ah.c0 ?_;obtain rfl:=ax h;exact cE (.f q q (.f q q .nil))
  ·refine W.aY [0,4,9] ?_;refine W.bF h q (λfe h=>?_) (λfe h=>?_)
   ·refine W.aY [2,3] ?_;refine W.rt ?_;refine ah.dL ?_;refine ah.c0 ?_;obtain rfl:=ax h;exact cE (.f q q (.f q q .nil))
   ·refine W.a8<|W.aY [0,4,11] ?_;obtain ⟨Ho,aa,h⟩:=aB h;refine W.bH [(0,lT a0),(11,a' Ho)] ?_ ?_
    ·clear h; have h:=aa; clear aa;refine W.bF h q (λdO h=>?_) (λdO h=>?_)
     ·refine W.bM ?_;obtain rfl:=ax h;exact ah.bH (ff q q)
     ·refine W.bq [0,11] (ai (O.eql (.lit q) (.k q))<|av.bq [0,13] q<|av.aV) ?_;obtain rfl:=ax h;exact ah.bH (ff q q)
    refine ah.a1<|W.bF h q (λdV h=>?_) (λdV h=>?_)
    ·refine W.aY [2,3] ?_;refine W.rt ?_;refine ah.dL ?_;refine ah.c0 ?_;obtain rfl:=ax h;exact cE (.f q q (.f q q .nil))
    ·refine W.bM<|ah.bp ?_;refine ah.a1 ?_;obtain ⟨na,aa,h⟩:=aB h;refine W.rs [(2,lT na.1),(3,a' na.2)] ?_ ?_
     ·refine bu q<|ai (O.geq (.lit q) (.k q))<|ai (O.aA (.lit q)) ?_;rcases cB aa with ⟨cZ,aa⟩ | ⟨cZ,aa⟩
      ·obtain rfl:=ax aa;exact av.aV
      ·obtain rfl:=ax aa;exact av.aV
     refine W.rt ?_;obtain rfl:=ax h;exact cE (.f q q (.f q q .nil))
theorem E5 (a0:Sym) (ay:Bool) (a2:Bool) (r:Bool) (h:wD a0 ay a2=some r):cc Try.prog 116 [.agg (du.cells a0),a' ay,a' a2] [none,none,none] (a' r):=by
 unfold wD at h;refine cc.go (N:=⟨53,[]⟩) Try.func116 q q q q (W.fin ?_);refine W.st [(0,.agg (du.cells a0)),(1,a' ay),(2,a' a2)] ?_;refine W.bP [1,2,3] (ai (O.box (.cm q q) q)<|av.aV) ?_;refine W.a8<|W.aY [1,2,3,10] ?_;refine W.bF h q (λdw h=>?_) (λdw h=>?_)
 ·refine W.a8 ?_;obtain ⟨c4,aa,h⟩:=aB h;refine W.rs [(3,.obj (du.cells a0)),(23,a' c4)] ?_ ?_
  ·refine bu q<|ai (O.not (.lit q))<|ai (O.aA (.lit q)) ?_;rcases cB aa with ⟨c6,aa⟩ | ⟨c6,aa⟩
   ·obtain rfl:=ax aa;exact av.aV
   ·refine a7 c6 (O.bm q (.obj q) kB q)<|a7 c6 (O.cG q (.ptr q) e4 q)<|a7 c6 (O.mR (.lit q) kf)<|a7 c6 (O.neq (.lit q) (.k q))<|ai (O.cy (.lit q) c6 (.lit q))<|ai (O.aA (.lit q)) ?_;rcases cB aa with ⟨fe,aa⟩ | ⟨fe,aa⟩
    ·obtain rfl:=ax aa;exact av.aV
    ·obtain rfl:=ax aa;exact av.aV
  refine W.bF h q (λdO h=>?_) (λdO h=>?_)
  ·refine W.aY [6] ?_;refine W.rt ?_;refine ah.c0 ?_;refine ah.c0 ?_;obtain rfl:=ax h;exact cE (.f q q .nil)
  ·refine W.bM<|ah.a1 ?_;obtain ⟨br,fO,h⟩:=aB h;obtain ⟨bj,gu,h⟩:=aB h;refine W.bP [8] (ai (O.bm q (.obj q) kB q)<|ai (O.cG q (.ptr q) e4 q)<|ai (O.qL (.lit q) (.k q) kf fO)<|dJ (cu.go (.bX (.lit q) .nil) (PN br _ gu) call120 q)<|ai (O.aA (.u4 q q))<|ai (O.ex (y:=lT bj.1) q q q)<|ai (O.ex (y:=a' bj.2) q q q)<|av.aV) ?_;refine W.aY [6] ?_;refine W.rt ?_;refine ah.c0 ?_;obtain rfl:=ax h;exact cE (.f q q .nil)
 ·refine W.bM<|ah.a1 ?_;obtain ⟨m',aa,h⟩:=aB h;refine W.rs [(6,a' m')] ?_ ?_
  ·refine ai (O.bm q (.obj q) kB q)<|ai (O.cG q (.ptr q) e4 q) ?_;obtain ⟨b1,iB,aa⟩:=aB aa;refine dJ (cu.go (.bX (.lit q) .nil) (Cn a0.Name _ iB) call111 q)<|ai (O.aA (.lit q)) ?_;rcases cB aa with ⟨eH,aa⟩ | ⟨eH,aa⟩
   ·refine a7 eH (O.bm q (.obj q) vF q)<|a7 eH (O.cG q (.ptr q) cv q)<|a7 eH (O.eql (.lit q) (.k q))<|a7 eH (O.aA (.lit q)) ?_;rcases cB aa with ⟨eN,aa⟩ | ⟨eN,aa⟩
    ·obtain rfl:=ax aa;exact cL eN<|cL eN<|hl<|hl<|hl<|cL eN<|cL eN<|hl<|hl<|hl<|cL eN<|a7 eH (O.dx (.lit q) eN (.k q))<|av.aV
    ·refine a7 eN (O.aA (.lit q))<|a7 eN (O.aA (.lit q)) ?_;rcases cB aa with ⟨fw,aa⟩ | ⟨fw,aa⟩
     ·refine a7 fw (O.bm q (.obj q) vF q)<|a7 fw (O.cG q (.ptr q) cv q)<|a7 fw (O.geq (.lit q) (.k q))<|a7 eN (O.dx (.lit q) fw (.lit q))<|a7 eN (O.aA (.lit q)) ?_;rcases cB aa with ⟨eG,aa⟩ | ⟨eG,aa⟩
      ·obtain rfl:=ax aa;exact a7 eG (O.bm q (.obj q) vF q)<|a7 eG (O.cG q (.ptr q) cv q)<|a7 eG (O.leq (.lit q) (.k q))<|a7 eN (O.dx (.lit q) eG (.lit q))<|a7 eH (O.cy (.lit q) eN (.lit q))<|av.aV
      ·obtain rfl:=ax aa;exact cL eG<|cL eG<|cL eG<|a7 eN (O.cy (.lit q) eG (.k q))<|a7 eH (O.cy (.lit q) eN (.lit q))<|av.aV
     ·obtain rfl:=ax aa;exact cL fw<|cL fw<|cL fw<|a7 eN (O.cy (.lit q) fw (.k q))<|a7 eN (O.aA (.lit q))<|cL q<|cL q<|cL q<|a7 eN (O.cy (.lit q) q (.k q))<|a7 eH (O.cy (.lit q) eN (.lit q))<|av.aV
   ·obtain rfl:=ax aa;exact av.aV
  refine W.rt ?_;obtain rfl:=ax h;exact cE (.f q q .nil)
theorem PK (a0:Decl) (r:Bool) (h:wC a0=some r):cc Try.prog 110 [.agg (cO.cells a0)] [none] (a' r):=by
 unfold wC at h;refine cc.go (N:=⟨75,[]⟩) Try.func110 q q q q (W.fin ?_);refine W.st [(0,.agg (cO.cells a0))] ?_;refine W.bP [1] (ai (O.box (.cm q q) q)<|av.aV) ?_;refine W.a8 ?_;obtain ⟨tN,aa,h⟩:=aB h;refine W.rs [(1,.obj (cO.cells a0)),(54,a' tN)] ?_ ?_
 ·refine ai (O.bm q (.obj q) pd q)<|ai (O.cG q (.ptr q) cv q)<|ai (O.lss (.lit q) (.k q))<|ai (O.aA (.lit q)) ?_;rcases cB aa with ⟨dw,aa⟩ | ⟨dw,aa⟩
  ·obtain rfl:=ax aa;exact av.aV
  ·refine a7 dw (O.bm q (.obj q) pd q)<|a7 dw (O.cG q (.ptr q) cv q)<|a7 dw (O.gtr (.lit q) (.k q))<|ai (O.cy (.lit q) dw (.lit q))<|ai (O.aA (.lit q)) ?_;rcases cB aa with ⟨c6,aa⟩ | ⟨c6,aa⟩
   ·obtain rfl:=ax aa;exact av.aV
   ·refine a7 c6 (O.bm q (.obj q) rT q)<|a7 c6 (O.c' (y:=aj du a0.fg) q (.ptr q) sG q q)<|a7 c6 (O.gh (.aF q) rv)<|a7 c6 (O.eql (.lit q) (.k q))<|ai (O.cy (.lit q) c6 (.lit q))<|ai (O.aA (.lit q)) ?_;rcases cB aa with ⟨fe,aa⟩ | ⟨fe,aa⟩
    ·obtain rfl:=ax aa;exact av.aV
    ·refine a7 fe (O.bm q (.obj q) pd q)<|a7 fe (O.cG q (.ptr q) cv q)<|a7 fe (O.eql (.lit q) (.k q))<|a7 fe (O.aA (.lit q)) ?_;rcases cB aa with ⟨dq,aa⟩ | ⟨dq,aa⟩
     ·refine a7 dq (O.bm q (.obj q) rT q)<|a7 dq (O.c' (y:=aj du a0.fg) q (.ptr q) sG q q)<|a7 dq (O.gh (.aF q) rv)<|a7 dq (O.neq (.lit q) (.k q))<|a7 dq (O.aA (.lit q)) ?_;rcases cB aa with ⟨dO,aa⟩ | ⟨dO,aa⟩
      ·obtain rfl:=ax aa;exact cL dO<|cL dO<|cL dO<|a7 dq (O.dx (.lit q) dO (.k q))<|a7 fe (O.dx (.lit q) dq (.lit q))<|av.aV
      ·refine a7 dO (O.bm q (.obj q) nU q)<|a7 dO (O.cG q (.ptr q) e4 q)<|a7 dO (O.mc (.lit q) (.k q))<|a7 dq (O.cy (.lit q) dO (.lit q))<|a7 fe (O.dx (.lit q) dq (.lit q))<|ai (O.cy (.lit q) fe (.lit q))<|ai (O.aA (.lit q)) ?_;rcases cB aa with ⟨dV,aa⟩ | ⟨dV,aa⟩
       ·obtain rfl:=ax aa;exact av.aV
       ·refine a7 dV (O.bm q (.obj q) pd q)<|a7 dV (O.cG q (.ptr q) cv q)<|a7 dV (O.eql (.lit q) (.k q))<|a7 dV (O.aA (.lit q)) ?_;rcases cB aa with ⟨cZ,aa⟩ | ⟨cZ,aa⟩
        ·refine a7 cZ (O.bm q (.obj q) nU q)<|a7 cZ (O.cG q (.ptr q) e4 q)<|a7 cZ (O.oy (.lit q) (.k q))<|a7 dV (O.dx (.lit q) cZ (.lit q))<|ai (O.cy (.lit q) dV (.lit q))<|ai (O.aA (.lit q)) ?_;rcases cB aa with ⟨cX,aa⟩ | ⟨cX,aa⟩
         ·obtain rfl:=ax aa;exact av.aV
         ·obtain rfl:=ax aa;exact a7 cX (O.bm q (.obj q) nU q)<|a7 cX (O.cG q (.ptr q) e4 q)<|a7 cX (O.mc (.lit q) (.k q))<|a7 cX (O.aA (.lit q))<|cL dV<|cL dV<|cL dV<|cL dV<|a7 cX (O.cy (.lit q) dV (.k q))<|av.aV
        ·obtain rfl:=ax aa;exact cL cZ<|cL cZ<|cL cZ<|a7 dV (O.cy (.lit q) cZ (.k q))<|ai (O.cy (.lit q) dV (.lit q))<|bu q<|a7 q (O.bm q (.obj q) nU q)<|a7 q (O.cG q (.ptr q) e4 q)<|a7 q (O.mc (.lit q) (.k q))<|a7 q (O.aA (.lit q))<|cL dV<|cL dV<|cL dV<|cL dV<|a7 q (O.cy (.lit q) dV (.k q))<|av.aV
     ·refine cL dq<|cL dq<|cL dq<|cL dq<|cL dq<|hl<|hl<|hl<|cL dq<|a7 fe (O.cy (.lit q) dq (.k q))<|ai (O.cy (.lit q) fe (.lit q))<|bu q<|a7 q (O.bm q (.obj q) pd q)<|a7 q (O.cG q (.ptr q) cv q)<|a7 q (O.eql (.lit q) (.k q))<|a7 q (O.aA (.lit q)) ?_;rcases cB aa with ⟨eH,aa⟩ | ⟨eH,aa⟩
      ·refine a7 eH (O.bm q (.obj q) nU q)<|a7 eH (O.cG q (.ptr q) e4 q)<|a7 eH (O.oy (.lit q) (.k q))<|a7 q (O.dx (.lit q) eH (.lit q))<|ai (O.cy (.lit q) q (.lit q))<|ai (O.aA (.lit q)) ?_;rcases cB aa with ⟨eN,aa⟩ | ⟨eN,aa⟩
       ·obtain rfl:=ax aa;exact av.aV
       ·refine a7 eN (O.bm q (.obj q) nU q)<|a7 eN (O.cG q (.ptr q) e4 q)<|a7 eN (O.mc (.lit q) (.k q))<|a7 eN (O.aA (.lit q)) ?_;rcases cB aa with ⟨fw,aa⟩ | ⟨fw,aa⟩
        ·refine a7 fw (O.bm q (.obj q) nU q)<|a7 fw (O.cG q (.ptr q) e4 q) ?_;obtain ⟨cM,kG,aa⟩:=aB aa;obtain rfl:=ax aa;exact av.c (cu.go (.bX (.lit q) .nil) (Cn a0.Tag _ kG) call111 q) q q (.jT q q fw)<|a7 fw (O.not (.lit q))<|a7 eN (O.dx (.lit q) fw (.lit q))<|av.aV
        ·obtain rfl:=ax aa;exact cL fw<|cL fw<|cL fw<|cL fw<|a7 eN (O.cy (.lit q) fw (.k q))<|av.aV
      ·refine cL eH<|cL eH<|cL eH<|a7 q (O.cy (.lit q) eH (.k q))<|ai (O.cy (.lit q) q (.lit q))<|bu q<|a7 q (O.bm q (.obj q) nU q)<|a7 q (O.cG q (.ptr q) e4 q)<|a7 q (O.mc (.lit q) (.k q))<|a7 q (O.aA (.lit q)) ?_;rcases cB aa with ⟨j_,aa⟩ | ⟨j_,aa⟩
       ·refine a7 j_ (O.bm q (.obj q) nU q)<|a7 j_ (O.cG q (.ptr q) e4 q) ?_;obtain ⟨dU,kp,aa⟩:=aB aa;obtain rfl:=ax aa;exact av.c (cu.go (.bX (.lit q) .nil) (Cn a0.Tag _ kp) call111 q) q q (.jT q q j_)<|a7 j_ (O.not (.lit q))<|a7 q (O.dx (.lit q) j_ (.lit q))<|av.aV
       ·obtain rfl:=ax aa;exact cL j_<|cL j_<|cL j_<|cL j_<|a7 q (O.cy (.lit q) j_ (.k q))<|av.aV
 refine W.bF h q (λfJ h=>?_) (λfJ h=>?_)
 ·refine W.aY [2] ?_;refine W.rt ?_;refine ah.c0 ?_;obtain rfl:=ax h;exact cE (.f q q .nil)
 ·refine W.bM<|ah.a1 ?_;refine W.a8<|W.aY [1,3] ?_;refine W.bp ?_;obtain ⟨eX,ao,h⟩:=aB h;refine W.ck (G1:=[(1,_),(3,_)]) (ff q q) ?_;refine W.jz (s:=0) (λ(iI:Int)=>[(1,.obj (cO.cells a0)),(3,j iI)]) 0 (λ(fC:Unit)=>[]) (λ(eJ:Bool)=>[(2,a' eJ)]) ao (λiI o h=>?_) (λfC J=>?_) (λeJ J=>?_)
  ·clear ao;refine W.a8<|W.aY [1,3,59] ?_;refine W.bF h q (λjY h=>?_) (λjY h=>?_)
   ·refine W.bM<|ah.a1 ?_;refine W.a8<|W.bp ?_;refine W.a8 ?_;obtain ⟨hj,pA,h⟩:=aB h;obtain ⟨eF,mL,h⟩:=aB h;refine W.rd [[],[0],[],[0,1,2],[0,1,2,3],[],[5],[5,6],[],[8],[8,9],aH 0 11 [],aH 0 12 []] [(1,_),(3,_),(74,_)] eM (by kernel_rfl) (ar 0 (O.bm q (.obj q) rT q)<|ar 1 (O.c' (y:=aj du a0.fg) q (.ptr q) sG q q)<|ar 2 (O.aA (.lit q))<|ar 3 (O.cx (.aF q) (.lit q) rv pA)<|ar 4 (O.jy (cs':=[af hj.Name,a' hj.Lit,j hj.c9,j hj.At]) (.bk q) lj q q)<|ar 5 (O.bm q (.obj q) pd q)<|ar 6 (O.cG q (.ptr q) cv q)<|ar 7 (O.eql (.lit q) (.k q))<|ar 8 (O.bm q (.obj q) pd q)<|ar 9 (O.cG q (.ptr q) cv q)<|ar 10 (O.lss (.lit q) (.k q))<|iU 11 (cu.go (.bX (.cm q q) (.bX (.lit q) (.bX (.lit q) .nil))) (E5 hj (decide (a0.Kind=1)) (decide (a0.Kind<5)) _ mL) call116 q)<|ar 12 (O.not (.lit q))<|bN.fin q q q (dF q q q)) ?_;refine ah.a1<|W.bF h q (λvK h=>?_) (λvK h=>?_)
    ·refine W.aY [2] ?_;refine W.rt ?_;refine ah.dL ?_;refine ah.c0 ?_;obtain rfl:=ax h;exact ah.fY (.n q .nil)
    ·refine W.bM<|ah.bp ?_;refine ah.a1<|W.bq [1,3] (bu q<|ai (O.add (.lit q) (.k q))<|av.bq [1,61] q<|av.aV) ?_;obtain rfl:=ax h;exact ah.go (ff q q)
   ·refine W.de ?_;refine ah.dd ?_;obtain rfl:=ax h;exact ah.x2 .nil
  ·subst J;refine ah.df ?_;refine ah.a1<|W.aY [2] ?_;refine W.rt ?_;obtain rfl:=ax h;exact cE (.f q q .nil)
  ·subst J;refine ah.dL ?_;refine ah.c0 ?_;obtain rfl:=ax h;exact cE (.f q q .nil)
theorem E6 (a0:Sym) (r:Bool) (h:wE a0=some r):cc Try.prog 118 [.agg (du.cells a0)] [none] (a' r):=by
 unfold wE at h;refine cc.go (N:=⟨16,[]⟩) Try.func118 q q q q (W.fin ?_);refine W.st [(0,.agg (du.cells a0))] ?_;refine W.bP [1] (ai (O.box (.cm q q) q)<|av.aV) ?_;obtain ⟨mw,aa,h⟩:=aB h;refine W.rs [(2,a' mw)] ?_ ?_
 ·refine ai (O.bm q (.obj q) kB q)<|ai (O.cG q (.ptr q) e4 q)<|ai (O.oy (.lit q) (.k q))<|ai (O.aA (.lit q)) ?_;rcases cB aa with ⟨dw,aa⟩ | ⟨dw,aa⟩
  ·refine a7 dw (O.bm q (.obj q) vE q)<|a7 dw (O.cG q (.ptr q) mx q)<|a7 dw (O.not (.lit q))<|ai (O.dx (.lit q) dw (.lit q))<|ai (O.aA (.lit q)) ?_;rcases cB aa with ⟨c6,aa⟩ | ⟨c6,aa⟩
   ·obtain rfl:=ax aa;exact av.aV
   ·obtain rfl:=ax aa;exact av.aV
  ·obtain rfl:=ax aa;exact av.aV
 refine W.rt ?_;obtain rfl:=ax h;exact cE (.f q q .nil)
theorem E7 (a0:ByteArray) (ay:Int) (a2:ByteArray) (r:Bool) (h:wF a0 ay a2=some r):cc Try.prog 124 [af a0,j ay,af a2] [none,none,none] (a' r):=by
 unfold wF at h;refine cc.go (N:=⟨25,[]⟩) Try.func124 q q q q (W.fin ?_);refine W.st [(0,af a0),(1,j ay),(2,af a2)] ?_;refine W.aY [0,1,2] ?_;obtain ⟨mw,aa,h⟩:=aB h;refine W.rs [(6,a' mw)] ?_ ?_
 ·refine bu q<|ai (O.mR (.lit q) kf)<|bu q<|ai (O.sub (.lit q) (.lit q))<|bu q<|ai (O.mR (.lit q) kf)<|ai (O.geq (.lit q) (.lit q))<|ai (O.aA (.lit q)) ?_;rcases cB aa with ⟨dw,aa⟩ | ⟨dw,aa⟩
  ·refine a7 dw (O.aA (.lit q))<|a7 dw (O.aA (.lit q))<|a7 dw (O.aA (.lit q))<|a7 dw (O.aA (.lit q))<|a7 dw (O.mR (.lit q) kf)<|a7 dw (O.add (.lit q) (.lit q)) ?_;obtain ⟨x2,hD,aa⟩:=aB aa;obtain rfl:=ax aa;exact a7 dw (O.yP (.lit q) (.lit q) (.lit q) kf hD)<|av.aV
  ·obtain rfl:=ax aa;exact av.aV
 refine W.rt ?_;obtain rfl:=ax h;exact cE (.f q q .nil)
theorem PR (a0:ByteArray) (ay:Int) (r:Int) (h:A9 a0 ay=some r):cc Try.prog 123 [af a0,j ay] [none,none] (j r):=by
 unfold A9 at h;refine cc.go (N:=⟨114,[]⟩) Try.func123 q q q q (W.fin ?_);refine W.st [(0,af a0),(1,j ay)] ?_;refine W.aY [0,1] ?_;refine W.a8<|W.bp ?_;obtain ⟨c4,aa,h⟩:=aB h;refine W.rs [(0,af a0),(1,j ay),(9,a' c4)] ?_ ?_
 ·refine bu q<|ai (O.aA (.lit q)) ?_;obtain ⟨aI,fk,aa⟩:=aB aa;refine ai (O.qL (.lit q) (.lit q) kf fk)<|ai (O.eql (.lit q) (.k q))<|ai (O.aA (.lit q)) ?_;rcases cB aa with ⟨c6,aa⟩ | ⟨c6,aa⟩
  ·obtain rfl:=ax aa;exact av.aV
  ·refine a7 c6 (O.aA (.lit q))<|a7 c6 (O.aA (.lit q)) ?_;obtain ⟨aZ,hE,aa⟩:=aB aa;obtain rfl:=ax aa;exact av.aV
 refine W.bF h q (λdO h=>?_) (λdO h=>?_)
 ·refine W.a8<|W.aY [0,1,5] ?_;refine W.bp ?_;obtain ⟨bj,ao,h⟩:=aB h;refine W.ck (G1:=[(0,_),(1,_),(5,_)]) (dF q q q) ?_;refine W.jz (s:=aO (ay+1)) (λ(c_:Int)=>[(0,af a0),(1,j ay),(5,j c_)]) 1 (λ(b1:Unit)=>[]) (λ(cp:Int)=>[(4,j cp)]) ao (λc_ o h=>?_) (λb1 J=>?_) (λcp J=>?_)
  ·clear ao;refine W.a8 ?_;obtain ⟨vl,aa,h⟩:=aB h;refine W.rs [(0,af a0),(1,j ay),(5,j c_),(31,a' vl)] ?_ ?_
   ·refine bu q<|bu q<|ai (O.mR (.lit q) kf)<|ai (O.lss (.lit q) (.lit q))<|ai (O.aA (.lit q)) ?_;rcases cB aa with ⟨eN,aa⟩ | ⟨eN,aa⟩
    ·refine a7 eN (O.aA (.lit q))<|a7 eN (O.aA (.lit q)) ?_;obtain ⟨ct,iA,aa⟩:=aB aa;obtain rfl:=ax aa;exact av.aV
    ·obtain rfl:=ax aa;exact av.aV
   refine W.bF h q (λj_ h=>?_) (λj_ h=>?_)
   ·refine W.bM<|ah.a1 ?_;refine W.a8<|W.bp ?_;refine W.a8<|W.a8 ?_;obtain ⟨dU,kp,h⟩:=aB h;obtain ⟨dk,ia,h⟩:=aB h;refine W.rd [[],[],[0,1],[],[],[3,4],aH 0 6 []] [(0,_),(1,_),(5,_),(40,_)] eM (by kernel_rfl) (ar 0 (O.aA (.lit q))<|ar 1 (O.aA (.lit q))<|ar 2 (O.qL (.lit q) (.lit q) kf kp)<|ar 3 (O.aA (.lit q))<|ar 4 (O.aA (.lit q))<|ar 5 (O.qL (.lit q) (.lit q) kf ia)<|ar 6 (O.eql (.lit q) (.lit q))<|bN.fin q q q (dT q q q q)) ?_;refine ah.a1<|W.bF h q (λfJ h=>?_) (λfJ h=>?_)
    ·refine W.aY [4] ?_;refine W.rt ?_;refine ah.c0 ?_;refine ah.dL ?_;refine ah.c0 ?_;obtain rfl:=ax h;exact ah.fY (.n q .nil)
    ·refine W.bM<|ah.a1 ?_;obtain ⟨b9,ik,h⟩:=aB h;refine W.aY [0,1,5,46] ?_;refine W.bF h q (λhB h=>?_) (λhB h=>?_)
     ·refine W.bP [0,1,5] (bu q<|ai (O.add (.lit q) (.k q))<|av.bq [0,1,48] q<|av.aV) ?_;obtain ⟨tO,aa,h⟩:=aB h;refine W.rs [(0,af a0),(1,j ay),(5,j (aO (c_+1))),(58,a' tO)] ?_ ?_
      ·refine bu q<|bu q<|ai (O.mR (.lit q) kf)<|ai (O.lss (.lit q) (.lit q))<|ai (O.aA (.lit q)) ?_;rcases cB aa with ⟨hY,aa⟩ | ⟨hY,aa⟩
       ·refine a7 hY (O.aA (.lit q))<|a7 hY (O.aA (.lit q)) ?_;obtain ⟨eJ,q',aa⟩:=aB aa;obtain rfl:=ax aa;exact av.aV
       ·obtain rfl:=ax aa;exact av.aV
      refine W.bF h q (λfi h=>?_) (λfi h=>?_)
      ·refine W.aY [4] ?_;refine W.rt ?_;refine ah.dL ?_;refine ah.c0 ?_;obtain rfl:=ax h;exact ah.fY (.n q .nil)
      ·refine W.bM<|ah.bp ?_;refine ah.a1<|W.bq [0,1,5] (bu q<|ai (O.add (.lit q) (.k q))<|av.bq [0,1,33] q<|av.aV) ?_;obtain rfl:=ax h;exact ah.go (dF q q q)
     ·refine W.bM<|ah.bp ?_;refine ah.a1<|W.bq [0,1,5] (bu q<|ai (O.add (.lit q) (.k q))<|av.bq [0,1,33] q<|av.aV) ?_;obtain rfl:=ax h;exact ah.go (dF q q q)
   ·refine W.de ?_;refine ah.dd ?_;obtain rfl:=ax h;exact ah.x2 .nil
  ·subst J;refine ah.df ?_;refine ah.a1<|W.aY [4] ?_;refine W.rt ?_;refine ah.dL ?_;refine ah.c0 ?_;obtain rfl:=ax h;exact cE (.f q q .nil)
  ·subst J;refine ah.dL ?_;refine ah.c0 ?_;refine ah.dL ?_;refine ah.c0 ?_;obtain rfl:=ax h;exact cE (.f q q .nil)
 ·obtain ⟨eF,mL,h⟩:=aB h;refine W.aY [0,1,59] ?_;refine W.bF h q (λvK h=>?_) (λvK h=>?_)
  ·refine W.a8<|W.aY [0,6] ?_;refine W.bp ?_;obtain ⟨h4,ao,h⟩:=aB h;refine W.ck (G1:=[(0,_),(6,_)]) (ff q q) ?_;refine W.jz (s:=aO (ay+1)) (λ(wX:Int)=>[(0,af a0),(6,j wX)]) 3 (λ(gH:Unit)=>[]) (λ(c3:Int)=>[(4,j c3)]) ao (λwX o h=>?_) (λgH J=>?_) (λc3 J=>?_)
   ·clear ao;refine W.a8<|W.aY [0,6,69] ?_;refine W.bF h q (λqa h=>?_) (λqa h=>?_)
    ·refine W.bM<|ah.a1 ?_;refine W.a8<|W.bp ?_;obtain ⟨hU,n2,h⟩:=aB h;refine W.aY [0,6,75] ?_;refine W.bF h q (λl1 h=>?_) (λl1 h=>?_)
     ·refine W.aY [4] ?_;refine W.rt ?_;refine ah.dL ?_;refine ah.c0 ?_;obtain rfl:=ax h;exact ah.fY (.n q .nil)
     ·refine W.bM<|ah.bp ?_;refine ah.a1<|W.bq [0,6] (bu q<|ai (O.add (.lit q) (.k q))<|av.bq [0,71] q<|av.aV) ?_;obtain rfl:=ax h;exact ah.go (ff q q)
    ·refine W.de ?_;refine ah.dd ?_;obtain rfl:=ax h;exact ah.x2 .nil
   ·subst J;refine ah.df ?_;refine ah.a1<|W.aY [4] ?_;refine W.rt ?_;refine ah.dL ?_;refine ah.c0 ?_;obtain rfl:=ax h;exact cE (.f q q .nil)
   ·subst J;refine ah.dL ?_;refine ah.c0 ?_;refine ah.dL ?_;refine ah.c0 ?_;obtain rfl:=ax h;exact cE (.f q q .nil)
  ·obtain ⟨dS,vX,h⟩:=aB h;refine W.bP [0,1,78] (bu q<|bu q<|dJ (cu.go (.bX (.lit q) (.bX (.lit q) (.bX (.k q) .nil))) (E7 a0 ay ({ data:=#[47,47] }) _ vX) call124 q)<|av.aV) ?_;refine W.bF h q (λkE h=>?_) (λkE h=>?_)
   ·refine W.aY [0,7] ?_;refine W.a8<|W.bp ?_;obtain ⟨gf,ao,h⟩:=aB h;refine W.ck (G1:=[(0,_),(7,_)]) (ff q q) ?_;refine W.eZ (s:=ay) (λ(uY:Int)=>[(0,af a0),(7,j uY)]) 5 (λ(gf:Int)=>[(7,j gf)]) ao (λuY o h=>?_) ?_
    ·clear ao;refine W.a8 ?_;obtain ⟨Ck,aa,h⟩:=aB h;refine W.rs [(0,af a0),(7,j uY),(92,a' Ck)] ?_ ?_
     ·refine bu q<|bu q<|ai (O.mR (.lit q) kf)<|ai (O.lss (.lit q) (.lit q))<|ai (O.aA (.lit q)) ?_;rcases cB aa with ⟨jZ,aa⟩ | ⟨jZ,aa⟩
      ·refine a7 jZ (O.aA (.lit q))<|a7 jZ (O.aA (.lit q)) ?_;obtain ⟨cP,r8,aa⟩:=aB aa;obtain rfl:=ax aa;exact av.aV
      ·obtain rfl:=ax aa;exact av.aV
     refine W.bF h q (λR1 h=>?_) (λR1 h=>?_)
     ·refine W.bM<|ah.a1 ?_;refine W.bp<|W.bq [0,7] (bu q<|ai (O.add (.lit q) (.k q))<|av.bq [0,94] q<|av.aV) ?_;refine ah.bp ?_;obtain rfl:=ax h;exact ah.go (ff q q)
     ·refine W.de ?_;refine ah.dd ?_;obtain rfl:=ax h;exact ah.aI (.n q .nil)
    refine ah.df ?_;refine ah.a1<|W.aY [4] ?_;refine W.rt ?_;refine ah.dL ?_;refine ah.c0 ?_;obtain rfl:=ax h;exact cE (.f q q .nil)
   ·obtain ⟨N6,To,h⟩:=aB h;refine W.bP [0,1,96] (bu q<|bu q<|dJ (cu.go (.bX (.lit q) (.bX (.lit q) (.bX (.k q) .nil))) (E7 a0 ay ({ data:=#[47,42] }) _ To) call124 q)<|av.aV) ?_;refine W.bF h q (λhq h=>?_) (λhq h=>?_)
    ·refine W.a8<|W.aY [0,8] ?_;refine W.bp ?_;obtain ⟨tx,ao,h⟩:=aB h;refine W.ck (G1:=[(0,_),(8,_)]) (ff q q) ?_;refine W.jz (s:=aO (ay+2)) (λ(uZ:Int)=>[(0,af a0),(8,j uZ)]) 7 (λ(yS:Unit)=>[]) (λ(la:Int)=>[(4,j la)]) ao (λuZ o h=>?_) (λyS J=>?_) (λla J=>?_)
     ·clear ao;refine W.a8<|W.aY [0,8,105] ?_;refine W.bF h q (λnX h=>?_) (λnX h=>?_)
      ·refine W.bM<|ah.a1 ?_;refine W.a8<|W.bp ?_;obtain ⟨tz,Di,h⟩:=aB h;refine W.bP [0,8,110] (bu q<|bu q<|dJ (cu.go (.bX (.lit q) (.bX (.lit q) (.bX (.k q) .nil))) (E7 a0 uZ ({ data:=#[42,47] }) _ Di) call124 q)<|b3 q) ?_;refine W.bF h q (λF_ h=>?_) (λF_ h=>?_)
       ·refine W.aY [4] ?_;refine W.rt ?_;refine ah.dL ?_;refine ah.c0 ?_;obtain rfl:=ax h;exact ah.fY (.n q .nil)
       ·refine W.bM<|ah.bp ?_;refine ah.a1<|W.bq [0,8] (bu q<|ai (O.add (.lit q) (.k q))<|av.bq [0,107] q<|av.aV) ?_;obtain rfl:=ax h;exact ah.go (ff q q)
      ·refine W.de ?_;refine ah.dd ?_;obtain rfl:=ax h;exact ah.x2 .nil
     ·subst J;refine ah.df ?_;refine ah.a1<|W.aY [4] ?_;refine W.rt ?_;refine ah.dL ?_;refine ah.c0 ?_;obtain rfl:=ax h;exact cE (.f q q .nil)
     ·subst J;refine ah.dL ?_;refine ah.c0 ?_;refine ah.dL ?_;refine ah.c0 ?_;obtain rfl:=ax h;exact cE (.f q q .nil)
    ·refine W.bM<|ah.bp ?_;refine ah.a1<|W.aY [4] ?_;refine W.rt ?_;obtain rfl:=ax h;exact cE (.f q q .nil)
theorem J9 (a0:ByteArray) (ay:Int) (r:Int) (h:yz a0 ay=some r):cc Try.prog 119 [af a0,j ay] [none,none] (j r):=by
 unfold yz at h;refine cc.go (N:=⟨53,[]⟩) Try.func119 q q q q (W.fin ?_);refine W.st [(0,af a0),(1,j ay)] ?_;refine W.aY [0,1] ?_;refine W.a8 ?_;obtain ⟨c4,aa,h⟩:=aB h;refine W.rs [(0,af a0),(1,j ay),(21,a' c4)] ?_ ?_
 ·refine bu q<|ai (O.lss (.lit q) (.k q))<|ai (O.aA (.lit q)) ?_;rcases cB aa with ⟨dw,aa⟩ | ⟨dw,aa⟩
  ·obtain rfl:=ax aa;exact av.aV
  ·refine a7 dw (O.aA (.lit q))<|a7 dw (O.aA (.lit q))<|a7 dw (O.mR (.lit q) kf)<|a7 dw (O.geq (.lit q) (.lit q))<|ai (O.cy (.lit q) dw (.lit q))<|ai (O.aA (.lit q)) ?_;rcases cB aa with ⟨c6,aa⟩ | ⟨c6,aa⟩
   ·obtain rfl:=ax aa;exact av.aV
   ·refine a7 c6 (O.aA (.lit q))<|a7 c6 (O.aA (.lit q)) ?_;obtain ⟨aZ,hE,aa⟩:=aB aa;obtain rfl:=ax aa;exact av.aV
 refine W.bF h q (λdO h=>?_) (λdO h=>?_)
 ·refine W.aY [4] ?_;refine W.rt ?_;refine ah.c0 ?_;obtain rfl:=ax h;exact cE (.f q q .nil)
 ·refine W.bM<|ah.a1 ?_;refine W.aY [0,1,5] ?_;refine W.a8<|W.aY [0,5,6] ?_;refine W.bp ?_;obtain ⟨bj,ao,h⟩:=aB h;refine W.ck (G1:=[(0,_),(5,_),(6,_)]) (dF q q q) ?_;refine W.jz (s:=(0,ay)) (λ(c_:Int × Int)=>[(0,af a0),(5,j c_.1),(6,j c_.2)]) 0 (λ(b1:Unit)=>[]) (λ(cp:Int)=>[(4,j cp)]) ao (λc_ o h=>?_) (λb1 J=>?_) (λcp J=>?_)
  ·clear ao;refine W.a8<|W.aY [0,5,6,26] ?_;refine W.bF h q (λeN h=>?_) (λeN h=>?_)
   ·refine W.bM<|ah.a1 ?_;refine W.bp ?_;obtain ⟨ct,iA,h⟩:=aB h;refine W.bP [0,5,6,7] (bu q<|bu q<|dJ (cu.go (.bX (.lit q) (.bX (.lit q) .nil)) (PR a0 c_.2 _ iA) call123 q)<|av.aV) ?_;refine W.a8<|W.aY [0,5,6,7,31] ?_;refine W.bF h q (λeG h=>?_) (λeG h=>?_)
    ·refine W.aY [4] ?_;refine W.rt ?_;refine ah.c0 ?_;refine ah.dL ?_;obtain rfl:=ax h;exact ah.fY (.n q .nil)
    ·refine W.bM<|ah.a1 ?_;refine W.a8<|W.aY [0,5,6,7,34] ?_;refine W.bF h q (λj_ h=>?_) (λj_ h=>?_)
     ·refine W.bP [0,5,6] (bu q<|av.bq [0,5,35] q<|av.aV) ?_;refine W.de ?_;refine ah.dd ?_;refine ah.df ?_;obtain rfl:=ax h;exact ah.go (dF q q q)
     ·refine W.bM<|ah.a1 ?_;refine W.a8 ?_;obtain ⟨dU,kp,h⟩:=aB h;refine W.aY [0,5,6,39] ?_;obtain ⟨ql,aa,h⟩:=aB h;refine W.bH [(0,af a0),(5,j ql),(6,j c_.2)] ?_ ?_
      ·clear h; have h:=aa; clear aa;refine W.bF h q (λfJ h=>?_) (λfJ h=>?_)
       ·refine W.bq [0,5,6] (bu q<|ai (O.add (.lit q) (.k q))<|av.bq [0,6,41] q<|av.aV) ?_;obtain rfl:=ax h;exact ah.bH (dF q q q)
       ·refine W.bM ?_;obtain rfl:=ax h;exact ah.bH (dF q q q)
      refine ah.a1<|W.a8 ?_;obtain ⟨b9,ik,h⟩:=aB h;refine W.aY [0,5,6,45] ?_;obtain ⟨Dv,aa,h⟩:=aB h;refine W.bH [(0,af a0),(5,j Dv),(6,j c_.2)] ?_ ?_
      ·clear h; have h:=aa; clear aa;refine W.bF h q (λhY h=>?_) (λhY h=>?_)
       ·refine W.bq [0,5,6] (bu q<|ai (O.sub (.lit q) (.k q))<|av.bq [0,6,47] q<|av.aV) ?_;obtain rfl:=ax h;exact ah.bH (dF q q q)
       ·refine W.bM ?_;obtain rfl:=ax h;exact ah.bH (dF q q q)
      refine ah.a1<|W.bP [0,5,6] (bu q<|ai (O.add (.lit q) (.k q))<|av.bq [0,5,49] q<|av.aV) ?_;refine W.aY [0,5,6,51] ?_;refine W.bF h q (λfc h=>?_) (λfc h=>?_)
      ·refine W.aY [4] ?_;refine W.rt ?_;refine ah.dL ?_;obtain rfl:=ax h;exact ah.fY (.n q .nil)
      ·refine W.bM<|ah.bp ?_;obtain rfl:=ax h;exact ah.go (dF q q q)
   ·refine W.de ?_;refine ah.dd ?_;obtain rfl:=ax h;exact ah.x2 .nil
  ·subst J;refine ah.df ?_;refine ah.a1<|W.aY [4] ?_;refine W.rt ?_;obtain rfl:=ax h;exact cE (.f q q .nil)
  ·subst J;refine ah.dL ?_;refine ah.c0 ?_;obtain rfl:=ax h;exact cE (.f q q .nil)
theorem PL (a0:Alt) (r:Bool) (h:A4 a0=some r):cc Try.prog 112 [.agg (ef.cells a0)] [none] (a' r):=by
 unfold A4 at h;refine cc.go (N:=⟨54,[]⟩) Try.func112 q q q q (W.fin ?_);refine W.st [(0,.agg (ef.cells a0))] ?_;refine W.bP [1] (ai (O.box (.cm q q) q)<|av.aV) ?_;refine W.a8<|W.aY [1,3] ?_;refine W.bp ?_;obtain ⟨x2,ao,h⟩:=aB h;refine W.ck (G1:=[(1,_),(3,_)]) (ff q q) ?_;refine W.jz (s:=0) (λ(s1:Int)=>[(1,.obj (ef.cells a0)),(3,j s1)]) 0 (λ(aZ:Unit)=>[(1,.obj (ef.cells a0))]) (λ(bs:Bool)=>[(2,a' bs)]) ao (λs1 o h=>?_) (λaZ J=>?_) (λbs J=>?_)
 ·clear ao;refine W.a8<|W.aY [1,3,9] ?_;refine W.bF h q (λdO h=>?_) (λdO h=>?_)
  ·refine W.bM<|ah.a1 ?_;refine W.a8<|W.bp ?_;obtain ⟨br,fO,h⟩:=aB h;refine W.bP [1,3,4] (ai (O.bm q (.obj q) sM q)<|ai (O.c' (y:=aj fp a0.jJ) q (.ptr q) xM q q)<|bu q<|ai (O.cx (.aF q) (.lit q) tr fO)<|ai (O.jy (cs':=[af br.Sym.Name,a' br.Sym.Lit,j br.Sym.c9,j br.Sym.At,af br.Code,j br.At]) (.bk q) Cb q q)<|ai (O.fI (cs:=[af aC,a' false,j 0,j 0,af aC,j 0]) sl q q)<|av.dR (G2:=[(1,_),(3,_),(4,_)]) (cs2:=[af br.Sym.Name,a' br.Sym.Lit,j br.Sym.c9,j br.Sym.At,af br.Code,j br.At]) q (.obj q) (.cm q q) q Ix q q q q (.n q q (.n q q (.b q .nil)))<|b3 q) ?_;refine W.a8 ?_;obtain ⟨nQ,aa,h⟩:=aB h;refine W.rd [[],[0],[0,1],[0,1,2],[0,1,2,3],aH 0 5 [],aH 0 6 [],aH 0 7 [],aH 0 8 [],aH 0 9 [],aH 0 10 [],aH 0 11 [],aH 0 12 [],aH 0 13 [],aH 0 14 [],aH 0 15 [],aH 0 16 [],aH 0 17 [],aH 0 18 [],aH 0 19 [],aH 0 20 [],aH 0 21 [],aH 0 19 [],aH 0 19 [22],aH 0 19 [22,23],aH 0 25 [],aH 0 26 [],aH 0 27 [],aH 0 28 []] [(1,.obj (ef.cells a0)),(3,j s1),(45,a' nQ)] eM (by kernel_rfl) ?_ ?_
   ·refine ar 0 (O.bm q (.obj q) rY q)<|ar 1 (O.cG q (.ptr q) e4 q)<|ar 2 (O.oy (.lit q) (.k q))<|ar 3 (O.aA (.lit q)) ?_;rcases cB aa with ⟨cZ,aa⟩ | ⟨cZ,aa⟩
    ·refine bg 4 cZ (O.bm q (.obj q) zN q)<|bg 5 cZ (O.d_ (cs':=[af br.Sym.Name,a' br.Sym.Lit,j br.Sym.c9,j br.Sym.At]) q (.ptr q) lj q q) ?_;obtain ⟨b1,iB,aa⟩:=aB aa;refine bN.c 6 (cu.go (.bX (.cm q q) (.bX (.k q) (.bX (.k q) .nil))) (E5 br.Sym false true _ iB) call116 q) q q q q (.jT q q cZ)<|bg 7 cZ (O.not (.lit q))<|ar 8 (O.dx (.lit q) cZ (.lit q))<|ar 9 (O.aA (.lit q)) ?_;rcases cB aa with ⟨eH,aa⟩ | ⟨eH,aa⟩
     ·obtain rfl:=ax aa;exact aD 10 eH<|aD 11 eH<|aD 12 eH<|aD 13 eH<|bQ 14<|bQ 15<|bQ 16<|bQ 17<|bQ 18<|bQ 19<|bQ 20<|bQ 21<|bQ 22<|bQ 23<|bQ 24<|bQ 25<|bQ 26<|aD 27 eH<|ar 28 (O.dx (.lit q) eH (.k q))<|bN.fin q q q (dF q q q)
     ·refine bg 10 eH (O.bm q (.obj q) rY q)<|bg 11 eH (O.cG q (.ptr q) e4 q)<|bg 12 eH (O.mc (.lit q) (.k q))<|bg 13 eH (O.aA (.lit q)) ?_;rcases cB aa with ⟨eN,aa⟩ | ⟨eN,aa⟩
      ·refine bg 14 eN (O.bm q (.obj q) zN q)<|bg 15 eN (O.d_ (cs':=[af br.Sym.Name,a' br.Sym.Lit,j br.Sym.c9,j br.Sym.At]) q (.ptr q) lj q q) ?_;obtain ⟨ct,iA,aa⟩:=aB aa;refine bN.c 16 (cu.go (.bX (.cm q q) .nil) (E6 br.Sym _ iA) call118 q) q q q q (.jT q q eN)<|bg 17 eN (O.not (.lit q))<|bg 18 eN (O.aA (.lit q)) ?_;rcases cB aa with ⟨eG,aa⟩ | ⟨eG,aa⟩
       ·obtain rfl:=ax aa;exact aD 19 eG<|aD 20 eG<|aD 21 eG<|aD 22 eG<|aD 23 eG<|aD 24 eG<|aD 25 eG<|bg 26 eN (O.dx (.lit q) eG (.k q))<|bg 27 eH (O.dx (.lit q) eN (.lit q))<|ar 28 (O.cy (.lit q) eH (.lit q))<|bN.fin q q q (dF q q q)
       ·refine bg 19 eG (O.bm q (.obj q) rY q)<|bg 20 eG (O.cG q (.ptr q) e4 q) ?_;obtain ⟨dC,jw,aa⟩:=aB aa;obtain rfl:=ax aa;exact bN.c 21 (cu.go (.bX (.lit q) (.bX (.k q) .nil)) (J9 br.Code 0 _ jw) call119 q) q q q q (.jT q q eG)<|bg 22 eG (O.bm q (.obj q) rY q)<|bg 23 eG (O.cG q (.ptr q) e4 q)<|bg 24 eG (O.mR (.lit q) kf)<|bg 25 eG (O.neq (.lit q) (.lit q))<|bg 26 eN (O.cy (.lit q) eG (.lit q))<|bg 27 eH (O.dx (.lit q) eN (.lit q))<|ar 28 (O.cy (.lit q) eH (.lit q))<|bN.fin q q q (dF q q q)
      ·obtain rfl:=ax aa;exact aD 14 eN<|aD 15 eN<|aD 16 eN<|aD 17 eN<|aD 18 eN<|bQ 19<|bQ 20<|bQ 21<|bQ 22<|bQ 23<|bQ 24<|bQ 25<|aD 26 eN<|bg 27 eH (O.cy (.lit q) eN (.k q))<|ar 28 (O.cy (.lit q) eH (.lit q))<|bN.fin q q q (dF q q q)
    ·refine aD 4 cZ<|aD 5 cZ<|aD 6 cZ<|aD 7 cZ<|ar 8 (O.cy (.lit q) cZ (.k q))<|ar 9 (O.aA (.lit q))<|bg 10 q (O.bm q (.obj q) rY q)<|bg 11 q (O.cG q (.ptr q) e4 q)<|bg 12 q (O.mc (.lit q) (.k q))<|bg 13 q (O.aA (.lit q)) ?_;rcases cB aa with ⟨eD,aa⟩ | ⟨eD,aa⟩
     ·refine bg 14 eD (O.bm q (.obj q) zN q)<|bg 15 eD (O.d_ (cs':=[af br.Sym.Name,a' br.Sym.Lit,j br.Sym.c9,j br.Sym.At]) q (.ptr q) lj q q) ?_;obtain ⟨dk,ia,aa⟩:=aB aa;refine bN.c 16 (cu.go (.bX (.cm q q) .nil) (E6 br.Sym _ ia) call118 q) q q q q (.jT q q eD)<|bg 17 eD (O.not (.lit q))<|bg 18 eD (O.aA (.lit q)) ?_;rcases cB aa with ⟨fJ,aa⟩ | ⟨fJ,aa⟩
      ·obtain rfl:=ax aa;exact aD 19 fJ<|aD 20 fJ<|aD 21 fJ<|aD 22 fJ<|aD 23 fJ<|aD 24 fJ<|aD 25 fJ<|bg 26 eD (O.dx (.lit q) fJ (.k q))<|bg 27 q (O.dx (.lit q) eD (.lit q))<|ar 28 (O.cy (.lit q) q (.lit q))<|bN.fin q q q (dF q q q)
      ·refine bg 19 fJ (O.bm q (.obj q) rY q)<|bg 20 fJ (O.cG q (.ptr q) e4 q) ?_;obtain ⟨b9,ik,aa⟩:=aB aa;obtain rfl:=ax aa;exact bN.c 21 (cu.go (.bX (.lit q) (.bX (.k q) .nil)) (J9 br.Code 0 _ ik) call119 q) q q q q (.jT q q fJ)<|bg 22 fJ (O.bm q (.obj q) rY q)<|bg 23 fJ (O.cG q (.ptr q) e4 q)<|bg 24 fJ (O.mR (.lit q) kf)<|bg 25 fJ (O.neq (.lit q) (.lit q))<|bg 26 eD (O.cy (.lit q) fJ (.lit q))<|bg 27 q (O.dx (.lit q) eD (.lit q))<|ar 28 (O.cy (.lit q) q (.lit q))<|bN.fin q q q (dF q q q)
     ·obtain rfl:=ax aa;exact aD 14 eD<|aD 15 eD<|aD 16 eD<|aD 17 eD<|aD 18 eD<|bQ 19<|bQ 20<|bQ 21<|bQ 22<|bQ 23<|bQ 24<|bQ 25<|aD 26 eD<|bg 27 q (O.cy (.lit q) eD (.k q))<|ar 28 (O.cy (.lit q) q (.lit q))<|bN.fin q q q (dF q q q)
   refine ah.a1<|W.bF h q (λhY h=>?_) (λhY h=>?_)
   ·refine W.aY [2] ?_;refine W.rt ?_;refine ah.dL ?_;refine ah.c0 ?_;obtain rfl:=ax h;exact ah.fY (.n q .nil)
   ·refine W.bM<|ah.bp ?_;refine ah.a1<|W.bq [1,3] (bu q<|ai (O.add (.lit q) (.k q))<|av.bq [1,11] q<|av.aV) ?_;obtain rfl:=ax h;exact ah.go (ff q q)
  ·refine W.de ?_;refine ah.dd ?_;obtain rfl:=ax h;exact ah.x2 (.n q .nil)
 ·subst J;refine ah.df ?_;refine ah.a1 ?_;obtain ⟨Ch,aa,h⟩:=aB h;refine W.rs [(2,a' Ch)] ?_ ?_
  ·refine ai (O.bm q (.obj q) tW q)<|ai (O.d_ (cs':=[af a0.Prec.Name,a' a0.Prec.Lit,j a0.Prec.c9,j a0.Prec.At]) q (.ptr q) lj q q) ?_;obtain ⟨eJ,q',aa⟩:=aB aa;refine dJ (cu.go (.bX (.cm q q) .nil) (E6 a0.Prec _ q') call118 q)<|ai (O.aA (.lit q)) ?_;rcases cB aa with ⟨jY,aa⟩ | ⟨jY,aa⟩
   ·obtain rfl:=ax aa;exact av.aV
   ·refine a7 jY (O.bm q (.obj q) tW q)<|a7 jY (O.d_ (cs':=[af a0.Prec.Name,a' a0.Prec.Lit,j a0.Prec.c9,j a0.Prec.At]) q (.ptr q) lj q q) ?_;obtain ⟨hj,pA,aa⟩:=aB aa;obtain rfl:=ax aa;exact av.c (cu.go (.bX (.cm q q) (.bX (.k q) (.bX (.k q) .nil))) (E5 a0.Prec false true _ pA) call116 q) q q (.jT q q jY)<|av.aV
  refine W.rt ?_;obtain rfl:=ax h;exact cE (.f q q .nil)
 ·subst J;refine ah.dL ?_;refine ah.c0 ?_;obtain rfl:=ax h;exact cE (.f q q .nil)
theorem Qj (a0:Source) (r:Bool) (h:wP a0=some r):cc Try.prog 92 [.agg (d'.cells a0)] [none] (a' r):=by
 unfold wP at h;refine cc.go (N:=⟨77,[]⟩) Try.func92 q q q q (W.fin ?_);refine W.st [(0,.agg (d'.cells a0))] ?_;refine W.bP [1] (ai (O.box (.cm q q) q)<|av.aV) ?_;refine W.a8<|W.aY [1,3] ?_;refine W.bp ?_;obtain ⟨x2,ao,h⟩:=aB h;refine W.ck (G1:=[(1,_),(3,_)]) (ff q q) ?_;refine W.jz (s:=0) (λ(s1:Int)=>[(1,.obj (d'.cells a0)),(3,j s1)]) 0 (λ(aZ:Unit)=>[(1,.obj (d'.cells a0))]) (λ(bs:Bool)=>[(2,a' bs)]) ao (λs1 o h=>?_) (λaZ J=>?_) (λbs J=>?_)
 ·clear ao;refine W.a8<|W.aY [1,3,13] ?_;refine W.bF h q (λdO h=>?_) (λdO h=>?_)
  ·refine W.bM<|ah.a1 ?_;refine W.a8<|W.bp ?_;obtain ⟨br,fO,h⟩:=aB h;refine W.bP [1,3,22] (ai (O.bm q (.obj q) Fo q)<|ai (O.cG q (.ptr q) e4 q)<|bu q<|bu q<|ai (O.add (.lit q) (.k q))<|ai (O.yP (.lit q) (.lit q) (.lit q) kf fO)<|av.aV) ?_;refine W.bF h q (λcZ h=>?_) (λcZ h=>?_)
   ·refine W.aY [2] ?_;refine W.rt ?_;refine ah.dL ?_;refine ah.c0 ?_;obtain rfl:=ax h;exact ah.fY (.n q .nil)
   ·refine W.bM<|ah.bp ?_;refine ah.a1<|W.bq [1,3] (bu q<|ai (O.add (.lit q) (.k q))<|av.bq [1,15] q<|av.aV) ?_;obtain rfl:=ax h;exact ah.go (ff q q)
  ·refine W.de ?_;refine ah.dd ?_;obtain rfl:=ax h;exact ah.x2 (.n q .nil)
 ·subst J;refine ah.df ?_;refine ah.a1<|W.a8 ?_;refine W.aY [1,4] ?_;refine W.bp ?_;obtain ⟨cp,ao,h⟩:=aB h;refine W.ck (G1:=[(1,_),(4,_)]) (ff q q) ?_;refine W.jz (s:=0) (λ(cw:Int)=>[(1,.obj (d'.cells a0)),(4,j cw)]) 2 (λ(bZ:Unit)=>[(1,.obj (d'.cells a0))]) (λ(ct:Bool)=>[(2,a' ct)]) ao (λcw o h=>?_) (λbZ J=>?_) (λct J=>?_)
  ·clear ao;refine W.a8<|W.aY [1,4,27] ?_;refine W.bF h q (λeG h=>?_) (λeG h=>?_)
   ·refine W.bM<|ah.a1 ?_;refine W.a8<|W.bp ?_;obtain ⟨dC,jw,h⟩:=aB h;obtain ⟨dU,kp,h⟩:=aB h;refine W.bP [1,4,36] (ai (O.bm q (.obj q) tT q)<|ai (O.c' (y:=aj cO a0.Decls) q (.ptr q) xL q q)<|bu q<|ai (O.cx (.aF q) (.lit q) tp jw)<|ai (O.jy (cs':=[j dC.Kind,af dC.Tag,aj du dC.fg,j dC.At]) (.bk q) EF q q)<|dJ (cu.go (.bX (.cm q q) .nil) (PK dC _ kp) call110 q)<|av.aV) ?_;refine W.bF h q (λqX h=>?_) (λqX h=>?_)
    ·refine W.aY [2] ?_;refine W.rt ?_;refine ah.dL ?_;refine ah.c0 ?_;obtain rfl:=ax h;exact ah.fY (.n q .nil)
    ·refine W.bM<|ah.bp ?_;refine ah.a1<|W.bq [1,4] (bu q<|ai (O.add (.lit q) (.k q))<|av.bq [1,29] q<|av.aV) ?_;obtain rfl:=ax h;exact ah.go (ff q q)
   ·refine W.de ?_;refine ah.dd ?_;obtain rfl:=ax h;exact ah.x2 (.n q .nil)
  ·subst J;refine ah.df ?_;refine ah.a1<|W.a8 ?_;refine W.aY [1,5] ?_;refine W.bp ?_;obtain ⟨b9,ao,h⟩:=aB h;refine W.ck (G1:=[(1,_),(5,_)]) (ff q q) ?_;refine W.jz (s:=0) (λ(me:Int)=>[(1,.obj (d'.cells a0)),(5,j me)]) 4 (λ(eX:Unit)=>[(1,.obj (d'.cells a0))]) (λ(fC:Bool)=>[(2,a' fC)]) ao (λme o h=>?_) (λeX J=>?_) (λfC J=>?_)
   ·clear ao;refine W.a8<|W.aY [1,5,41] ?_;refine W.bF h q (λfc h=>?_) (λfc h=>?_)
    ·refine W.bM<|ah.a1 ?_;refine W.a8<|W.bp ?_;obtain ⟨dN,mK,h⟩:=aB h;refine W.bP [1,5,6] (ai (O.bm q (.obj q) oz q)<|ai (O.c' (y:=aj gT a0.ei) q (.ptr q) p8 q q)<|bu q<|ai (O.cx (.aF q) (.lit q) pO mK)<|ai (O.jy (cs':=[af dN.Left,aj ef dN.fR,j dN.At]) (.bk q) EH q q)<|ai (O.fI (cs:=[af aC,.aN,j 0]) BO q q)<|av.dR (G2:=[(1,_),(5,_),(6,_)]) (cs2:=[af dN.Left,aj ef dN.fR,j dN.At]) q (.obj q) (.cm q q) q IA q q q q (.n q q (.n q q (.b q .nil)))<|b3 q) ?_;refine W.a8 ?_;obtain ⟨xH,aa,h⟩:=aB h;refine W.rs [(1,.obj (d'.cells a0)),(5,j me),(6,.obj (gT.cells dN)),(58,a' xH)] ?_ ?_
     ·refine ai (O.bm q (.obj q) tX q)<|ai (O.cG q (.ptr q) e4 q) ?_;obtain ⟨hj,pA,aa⟩:=aB aa;refine dJ (cu.go (.bX (.lit q) .nil) (Cn dN.Left _ pA) call111 q)<|ai (O.not (.lit q))<|ai (O.aA (.lit q)) ?_;rcases cB aa with ⟨iF,aa⟩ | ⟨iF,aa⟩
      ·obtain rfl:=ax aa;exact av.aV
      ·obtain rfl:=ax aa;exact av.aV
     refine W.bF h q (λi' h=>?_) (λi' h=>?_)
     ·refine W.aY [2] ?_;refine W.rt ?_;refine ah.c0 ?_;refine ah.dL ?_;refine ah.c0 ?_;obtain rfl:=ax h;exact ah.fY (.n q .nil)
     ·refine W.bM<|ah.a1 ?_;refine W.aY [1,5,6,7] ?_;refine W.bp ?_;obtain ⟨gH,ao,h⟩:=aB h;refine W.ck (G1:=[(1,_),(5,_),(6,_),(7,_)]) (dT q q q q) ?_;refine W.jz (s:=0) (λ(yO:Int)=>[(1,.obj (d'.cells a0)),(5,j me),(6,.obj (gT.cells dN)),(7,j yO)]) 6 (λ(c3:Unit)=>[(1,.obj (d'.cells a0)),(5,j me)]) (λ(eR:Bool)=>[(2,a' eR)]) ao (λyO o h=>?_) (λc3 J=>?_) (λeR J=>?_)
      ·clear ao;refine W.a8<|W.aY [1,5,6,7,63] ?_;refine W.bF h q (λF9 h=>?_) (λF9 h=>?_)
       ·refine W.bM<|ah.a1 ?_;refine W.a8<|W.bp ?_;obtain ⟨iL,n3,h⟩:=aB h;obtain ⟨dS,vX,h⟩:=aB h;refine W.bP [1,5,6,7,72] (ai (O.bm q (.obj q) rZ q)<|ai (O.c' (y:=aj ef dN.fR) q (.ptr q) vu q q)<|bu q<|ai (O.cx (.aF q) (.lit q) u2 n3)<|ai (O.jy (cs':=[aj fp iL.jJ,af iL.Prec.Name,a' iL.Prec.Lit,j iL.Prec.c9,j iL.Prec.At,j iL.At]) (.bk q) EG q q)<|dJ (cu.go (.bX (.cm q q) .nil) (PL iL _ vX) call112 q)<|av.aV) ?_;refine W.bF h q (λkE h=>?_) (λkE h=>?_)
        ·refine W.aY [2] ?_;refine W.rt ?_;refine ah.dL ?_;refine ah.c0 ?_;obtain rfl:=ax h;exact ah.fY (.n q .nil)
        ·refine W.bM<|ah.bp ?_;refine ah.a1<|W.bq [1,5,6,7] (bu q<|ai (O.add (.lit q) (.k q))<|av.bq [1,5,6,65] q<|av.aV) ?_;obtain rfl:=ax h;exact ah.go (dT q q q q)
       ·refine W.de ?_;refine ah.dd ?_;obtain rfl:=ax h;exact ah.x2 (ff q q)
      ·subst J;refine ah.df ?_;refine ah.bp ?_;refine ah.a1<|W.bq [1,5] (bu q<|ai (O.add (.lit q) (.k q))<|av.bq [1,43] q<|av.aV) ?_;obtain rfl:=ax h;exact ah.go (ff q q)
      ·subst J;refine ah.dL ?_;refine ah.dL ?_;refine ah.c0 ?_;obtain rfl:=ax h;exact ah.fY (.n q .nil)
    ·refine W.de ?_;refine ah.dd ?_;obtain rfl:=ax h;exact ah.x2 (.n q .nil)
   ·subst J;refine ah.df ?_;refine ah.a1<|W.aY [2] ?_;refine W.rt ?_;obtain rfl:=ax h;exact cE (.f q q .nil)
   ·subst J;refine ah.dL ?_;refine ah.c0 ?_;obtain rfl:=ax h;exact cE (.f q q .nil)
  ·subst J;refine ah.dL ?_;refine ah.c0 ?_;obtain rfl:=ax h;exact cE (.f q q .nil)
 ·subst J;refine ah.dL ?_;refine ah.c0 ?_;obtain rfl:=ax h;exact cE (.f q q .nil)
theorem vq (a0:cR) (ay:Int) (a2:ByteArray) (r:cR) (h:np a0 ay a2=some r):cc Try.prog 94 [.obj (ea.cells a0),j ay,af a2] [some (.obj [ak bt r.aq.a6,ak bb r.aq.bx,ak bI r.aq.aX,af r.aq.bB,af r.aq.bE,ak bJ r.b4,ak bb r.b2,ak cA r.bG,j r.b7,j r.cd,af r.cb,j r.b0,j r.bD]),none,none] (.cC []):=by
 unfold np at h;refine cc.go (N:=⟨22,[0]⟩) Try.func94 q q q q (W.fin ?_);refine W.st [(0,.obj (ea.cells a0)),(1,j ay),(2,af a2)] ?_;refine W.aY [0,1,2,10] ?_;obtain ⟨ib,aa,h⟩:=aB h;refine W.bH [(0,.obj (ea.cells ib))] ?_ ?_
 ·clear h; have h:=aa; clear aa;refine W.bF h q (λc6 h=>?_) (λc6 h=>?_)
  ·refine W.bq [0] (ai (O.aA (.obj q))<|ai (O.aA (.obj q))<|ai (O.aA (.obj q))<|bu q<|bu q<|ai (O.e0 (.ptr q))<|ai (O.bm q (.ptr q) zC q)<|av.dR (G2:=[(0,_),(12,.ptr ⟨0,[]⟩ 0),(13,.ptr ⟨0,[]⟩ 0),(14,_),(15,_)]) (cs2:=[ak bt a0.aq.a6,ak bb a0.aq.bx,ak bI a0.aq.aX,af a0.aq.bB,af a0.aq.bE,ak bJ a0.b4,ak bb a0.b2,ak cA a0.bG,j 3,j a0.cd,af a0.cb,j a0.b0,j a0.bD]) q (.ptr q) (.k q) q nH q q q q (.b q (.p q q q q q q (.p q q q q q q (.n q q (.n q q .nil)))))<|ai (O.e0 (.ptr q))<|ai (O.bm q (.ptr q) zD q)<|av.dR (G2:=[(0,_),(13,.ptr ⟨0,[]⟩ 0),(15,_)]) (cs2:=[ak bt a0.aq.a6,ak bb a0.aq.bx,ak bI a0.aq.aX,af a0.aq.bB,af a0.aq.bE,ak bJ a0.b4,ak bb a0.b2,ak cA a0.bG,j 3,j ay,af a0.cb,j a0.b0,j a0.bD]) q (.ptr q) (.lit q) q nH q q q q (.b q (.p q q q q q q (.n q q .nil)))<|ai (O.e0 (.ptr q))<|ai (O.bm q (.ptr q) zE q)<|av.dR (G2:=[(0,_)]) (cs2:=[ak bt a0.aq.a6,ak bb a0.aq.bx,ak bI a0.aq.aX,af a0.aq.bB,af a0.aq.bE,ak bJ a0.b4,ak bb a0.b2,ak cA a0.bG,j 3,j ay,af a2,j a0.b0,j a0.bD]) q (.ptr q) (.lit q) q w6 q q q q (.b q .nil)<|b3 q) ?_;obtain rfl:=ax h;exact ah.bH (.n q .nil)
  ·refine W.bM ?_;obtain rfl:=ax h;exact ah.bH (.n q .nil)
 obtain rfl:=ax h;exact ah.fin (Fin.ro .nil q (oQ (by kernel_rfl)) (.au q q (.no (.no .nil))) q (.inl q))
theorem Kj (a0:cR) (ay:ByteArray) (r:Int) (h:yJ a0 ay=some r):cc Try.prog 98 [.bk ([aj bt a0.aq.a6,aj bb a0.aq.bx,aj bI a0.aq.aX,af a0.aq.bB,af a0.aq.bE,aj bJ a0.b4,aj bb a0.b2,aj cA a0.bG,j a0.b7,j a0.cd,af a0.cb,j a0.b0,j a0.bD]),af ay] [none,none] (j r):=by
 unfold yJ at h;refine cc.go (N:=⟨26,[]⟩) Try.func98 q q q q (W.fin ?_);refine W.st [(0,.bk ([aj bt a0.aq.a6,aj bb a0.aq.bx,aj bI a0.aq.aX,af a0.aq.bB,af a0.aq.bE,aj bJ a0.b4,aj bb a0.b2,aj cA a0.bG,j a0.b7,j a0.cd,af a0.cb,j a0.b0,j a0.bD])),(1,af ay)] ?_;refine W.aY [0,1] ?_;refine W.a8<|W.aY [0,1,5] ?_;refine W.bp ?_;obtain ⟨x2,ao,h⟩:=aB h;refine W.ck (G1:=[(0,_),(1,_),(5,_)]) (dF q q q) ?_;refine W.jz (s:=0) (λ(s1:Int)=>[(0,.bk ([aj bt a0.aq.a6,aj bb a0.aq.bx,aj bI a0.aq.aX,af a0.aq.bB,af a0.aq.bE,aj bJ a0.b4,aj bb a0.b2,aj cA a0.bG,j a0.b7,j a0.cd,af a0.cb,j a0.b0,j a0.bD])),(1,af ay),(5,j s1)]) 0 (λ(aZ:Unit)=>[]) (λ(bs:Int)=>[(4,j bs)]) ao (λs1 o h=>?_) (λaZ J=>?_) (λbs J=>?_)
 ·clear ao;refine W.a8<|W.aY [0,1,5,12] ?_;refine W.bF h q (λdO h=>?_) (λdO h=>?_)
  ·refine W.bM<|ah.a1 ?_;refine W.a8<|W.bp ?_;obtain ⟨br,fO,h⟩:=aB h;refine W.aY [0,1,5,24] ?_;refine W.bF h q (λcZ h=>?_) (λcZ h=>?_)
   ·refine W.aY [4] ?_;refine W.rt ?_;refine ah.dL ?_;refine ah.c0 ?_;obtain rfl:=ax h;exact ah.fY (.n q .nil)
   ·refine W.bM<|ah.bp ?_;refine ah.a1<|W.bq [0,1,5] (bu q<|ai (O.add (.lit q) (.k q))<|av.bq [0,1,14] q<|av.aV) ?_;obtain rfl:=ax h;exact ah.go (dF q q q)
  ·refine W.de ?_;refine ah.dd ?_;obtain rfl:=ax h;exact ah.x2 .nil
 ·subst J;refine ah.df ?_;refine ah.a1<|W.aY [4] ?_;refine W.rt ?_;obtain rfl:=ax h;exact cE (.f q q .nil)
 ·subst J;refine ah.dL ?_;refine ah.c0 ?_;obtain rfl:=ax h;exact cE (.f q q .nil)
theorem E_ (a0:cR) (ay:Sym) (r:Int) (h:tc a0 ay=some r):cc Try.prog 95 [.bk ([aj bt a0.aq.a6,aj bb a0.aq.bx,aj bI a0.aq.aX,af a0.aq.bB,af a0.aq.bE,aj bJ a0.b4,aj bb a0.b2,aj cA a0.bG,j a0.b7,j a0.cd,af a0.cb,j a0.b0,j a0.bD]),.agg (du.cells ay)] [none,none] (j r):=by
 unfold tc at h;refine cc.go (N:=⟨47,[]⟩) Try.func95 q q q q (W.fin ?_);refine W.st [(0,.bk ([aj bt a0.aq.a6,aj bb a0.aq.bx,aj bI a0.aq.aX,af a0.aq.bB,af a0.aq.bE,aj bJ a0.b4,aj bb a0.b2,aj cA a0.bG,j a0.b7,j a0.cd,af a0.cb,j a0.b0,j a0.bD])),(1,.agg (du.cells ay))] ?_;refine W.bP [0,3] (ai (O.box (.cm q q) q)<|av.aV) ?_;refine W.a8<|W.aY [0,3,5] ?_;refine W.bp ?_;obtain ⟨x2,ao,h⟩:=aB h;refine W.ck (G1:=[(0,_),(3,_),(5,_)]) (dF q q q) ?_;refine W.jz (s:=1) (λ(s1:Int)=>[(0,.bk ([aj bt a0.aq.a6,aj bb a0.aq.bx,aj bI a0.aq.aX,af a0.aq.bB,af a0.aq.bE,aj bJ a0.b4,aj bb a0.b2,aj cA a0.bG,j a0.b7,j a0.cd,af a0.cb,j a0.b0,j a0.bD])),(3,.obj (du.cells ay)),(5,j s1)]) 0 (λ(aZ:Unit)=>[]) (λ(bs:Int)=>[(4,j bs)]) ao (λs1 o h=>?_) (λaZ J=>?_) (λbs J=>?_)
 ·clear ao;refine W.a8<|W.aY [0,3,5,13] ?_;refine W.bF h q (λdO h=>?_) (λdO h=>?_)
  ·refine W.bM<|ah.a1 ?_;refine W.a8<|W.bp ?_;refine W.a8 ?_;obtain ⟨jn,aa,h⟩:=aB h;refine W.rd [[],[0],[0,1],[0,1,2],[0,1,2,3],[],aH 0 6 [],aH 0 7 [],aH 0 8 [],[],[9],aH 0 11 [],aH 0 12 [],aH 0 13 [],aH 0 14 [],aH 0 15 [],aH 0 16 [],aH 0 17 [],aH 0 13 [],aH 0 19 [],aH 0 20 [],aH 0 21 [],aH 0 13 [],aH 0 13 [22],aH 0 24 [],aH 0 25 [],aH 0 26 [],aH 0 27 [],aH 0 28 [],aH 0 29 []] [(0,.bk ([aj bt a0.aq.a6,aj bb a0.aq.bx,aj bI a0.aq.aX,af a0.aq.bB,af a0.aq.bE,aj bJ a0.b4,aj bb a0.b2,aj cA a0.bG,j a0.b7,j a0.cd,af a0.cb,j a0.b0,j a0.bD])),(3,.obj (du.cells ay)),(5,j s1),(45,a' jn)] eM (by kernel_rfl) ?_ ?_
   ·refine ar 0 (O.aA (.bk q))<|ar 1 (O.AS (.bk q))<|ar 2 (O.dP (.bk q) kl)<|ar 3 (O.dP (.bk q) oA)<|ar 4 (O.cQ (x:=aj bt a0.aq.a6) (.bk q) p9 q)<|ar 5 (O.aA (.lit q)) ?_;obtain ⟨br,fO,aa⟩:=aB aa;refine ar 6 (O.cx (.aF q) (.lit q) pP fO)<|ar 7 (O.dP (.bk q) KM)<|ar 8 (O.cQ (x:=af br.Name) (.bk q) e4 q)<|ar 9 (O.bm q (.obj q) kB q)<|ar 10 (O.cG q (.ptr q) e4 q)<|ar 11 (O.oy (.lit q) (.lit q))<|ar 12 (O.aA (.lit q)) ?_;rcases cB aa with ⟨cZ,aa⟩ | ⟨cZ,aa⟩
    ·refine bg 13 cZ (O.aA (.bk q))<|bg 14 cZ (O.AS (.bk q))<|bg 15 cZ (O.dP (.bk q) kl)<|bg 16 cZ (O.dP (.bk q) oA)<|bg 17 cZ (O.cQ (x:=aj bt a0.aq.a6) (.bk q) p9 q)<|bg 18 cZ (O.aA (.lit q)) ?_;obtain ⟨b1,iB,aa⟩:=aB aa;refine bg 19 cZ (O.cx (.aF q) (.lit q) pP iB)<|bg 20 cZ (O.dP (.bk q) KN)<|bg 21 cZ (O.cQ (x:=a' b1.Lit) (.bk q) mx q)<|bg 22 cZ (O.bm q (.obj q) vE q)<|bg 23 cZ (O.cG q (.ptr q) mx q)<|bg 24 cZ (O.QL (.lit q) (.lit q) Pa)<|ar 25 (O.dx (.lit q) cZ (.lit q))<|ar 26 (O.aA (.lit q)) ?_;rcases cB aa with ⟨eH,aa⟩ | ⟨eH,aa⟩
     ·obtain rfl:=ax aa;exact bg 27 eH (O.aA (.lit q))<|bg 28 eH (O.neq (.lit q) (.k q))<|ar 29 (O.dx (.lit q) eH (.lit q))<|bN.fin q q q (dT q q q q)
     ·obtain rfl:=ax aa;exact aD 27 eH<|aD 28 eH<|ar 29 (O.cy (.lit q) eH (.k q))<|bN.fin q q q (dT q q q q)
    ·obtain rfl:=ax aa;exact aD 13 cZ<|aD 14 cZ<|aD 15 cZ<|aD 16 cZ<|aD 17 cZ<|aD 18 cZ<|aD 19 cZ<|aD 20 cZ<|aD 21 cZ<|aD 22 cZ<|aD 23 cZ<|aD 24 cZ<|ar 25 (O.cy (.lit q) cZ (.k q))<|ar 26 (O.aA (.lit q))<|aD 27 q<|aD 28 q<|ar 29 (O.cy (.lit q) q (.k q))<|bN.fin q q q (dT q q q q)
   refine ah.a1<|W.bF h q (λfw h=>?_) (λfw h=>?_)
   ·refine W.aY [4] ?_;refine W.rt ?_;refine ah.dL ?_;refine ah.c0 ?_;obtain rfl:=ax h;exact ah.fY (.n q .nil)
   ·refine W.bM<|ah.bp ?_;refine ah.a1<|W.bq [0,3,5] (bu q<|ai (O.add (.lit q) (.k q))<|av.bq [0,3,15] q<|av.aV) ?_;obtain rfl:=ax h;exact ah.go (dF q q q)
  ·refine W.de ?_;refine ah.dd ?_;obtain rfl:=ax h;exact ah.x2 .nil
 ·subst J;refine ah.df ?_;refine ah.a1<|W.aY [4] ?_;refine W.rt ?_;obtain rfl:=ax h;exact cE (.f q q .nil)
 ·subst J;refine ah.dL ?_;refine ah.c0 ?_;obtain rfl:=ax h;exact cE (.f q q .nil)
theorem J7 (a0:cR) (ay:Int) (r:Int) (h:yy a0 ay=some r):cc Try.prog 114 [.bk ([aj bt a0.aq.a6,aj bb a0.aq.bx,aj bI a0.aq.aX,af a0.aq.bB,af a0.aq.bE,aj bJ a0.b4,aj bb a0.b2,aj cA a0.bG,j a0.b7,j a0.cd,af a0.cb,j a0.b0,j a0.bD]),j ay] [none,none] (j r):=by
 unfold yy at h;refine cc.go (N:=⟨28,[]⟩) Try.func114 q q q q (W.fin ?_);refine W.st [(0,.bk ([aj bt a0.aq.a6,aj bb a0.aq.bx,aj bI a0.aq.aX,af a0.aq.bB,af a0.aq.bE,aj bJ a0.b4,aj bb a0.b2,aj cA a0.bG,j a0.b7,j a0.cd,af a0.cb,j a0.b0,j a0.bD])),(1,j ay)] ?_;refine W.aY [0,1] ?_;refine W.a8<|W.aY [0,1,5] ?_;refine W.bp ?_;obtain ⟨x2,ao,h⟩:=aB h;refine W.ck (G1:=[(0,_),(1,_),(5,_)]) (dF q q q) ?_;refine W.jz (s:=3) (λ(s1:Int)=>[(0,.bk ([aj bt a0.aq.a6,aj bb a0.aq.bx,aj bI a0.aq.aX,af a0.aq.bB,af a0.aq.bE,aj bJ a0.b4,aj bb a0.b2,aj cA a0.bG,j a0.b7,j a0.cd,af a0.cb,j a0.b0,j a0.bD])),(1,j ay),(5,j s1)]) 0 (λ(aZ:Unit)=>[]) (λ(bs:Int)=>[(4,j bs)]) ao (λs1 o h=>?_) (λaZ J=>?_) (λbs J=>?_)
 ·clear ao;refine W.a8<|W.aY [0,1,5,13] ?_;refine W.bF h q (λdO h=>?_) (λdO h=>?_)
  ·refine W.bM<|ah.a1 ?_;refine W.a8<|W.bp ?_;obtain ⟨br,fO,h⟩:=aB h;refine W.aY [0,1,5,26] ?_;refine W.bF h q (λcZ h=>?_) (λcZ h=>?_)
   ·refine W.aY [4] ?_;refine W.rt ?_;refine ah.dL ?_;refine ah.c0 ?_;obtain rfl:=ax h;exact ah.fY (.n q .nil)
   ·refine W.bM<|ah.bp ?_;refine ah.a1<|W.bq [0,1,5] (bu q<|ai (O.add (.lit q) (.k q))<|av.bq [0,1,15] q<|av.aV) ?_;obtain rfl:=ax h;exact ah.go (dF q q q)
  ·refine W.de ?_;refine ah.dd ?_;obtain rfl:=ax h;exact ah.x2 .nil
 ·subst J;refine ah.df ?_;refine ah.a1<|W.aY [4] ?_;refine W.rt ?_;obtain rfl:=ax h;exact cE (.f q q .nil)
 ·subst J;refine ah.dL ?_;refine ah.c0 ?_;obtain rfl:=ax h;exact cE (.f q q .nil)
theorem J6 (a0:cR) (ay:Sym) (r:Int × cR) (h:uN a0 ay=some r):cc Try.prog 113 [.obj (ea.cells a0),.agg (du.cells ay)] [some (.obj [ak bt r.2.aq.a6,ak bb r.2.aq.bx,ak bI r.2.aq.aX,af r.2.aq.bB,af r.2.aq.bE,ak bJ r.2.b4,ak bb r.2.b2,ak cA r.2.bG,j r.2.b7,j r.2.cd,af r.2.cb,j r.2.b0,j r.2.bD]),none] (j r.1):=by
 unfold uN at h;refine cc.go (N:=⟨66,[0]⟩) Try.func113 q q q q (W.fin ?_);refine W.st [(0,.obj (ea.cells a0)),(1,.agg (du.cells ay))] ?_;refine W.bP [0,3] (ai (O.box (.cm q q) q)<|av.aV) ?_;obtain ⟨aI,fk,h⟩:=aB h;refine W.bP [0,3,5] (ai (O.aA (.obj q))<|ai (O.d_ (cs':=[af ay.Name,a' ay.Lit,j ay.c9,j ay.At]) q (.obj q) lj q q)<|dJ (cu.vw (ys:=[.ptr ⟨0,[]⟩ 0,.agg (du.cells ay)]) q (.c (View.ob q q) (.c (.sx (.s (.s (.s (.s .nil))))) .nil)) (E_ a0 ay _ fk) call95 q)<|av.aV) ?_;refine W.a8<|W.aY [0,3,5,11] ?_;refine W.bF h q (λc6 h=>?_) (λc6 h=>?_)
 ·refine W.aY [0,4] ?_;refine W.rt ?_;refine ah.c0 ?_;obtain rfl:=ax h;exact ah.fin (Fin.ro (.f q q .nil) q (oQ (by kernel_rfl)) (.au q q (.no .nil)) q (.inr q))
 ·refine W.bM<|ah.a1 ?_;refine W.bP [0,3,6] (ai (O.bm q (.obj q) kB q)<|ai (O.cG q (.ptr q) e4 q)<|ai (O.bm q (.obj q) vE q)<|ai (O.cG q (.ptr q) mx q)<|ai (O.e7 (cs:=[af ay.Name,a' ay.Lit,j 0,j 0,j 0,af aC]) D2 BN q q q)<|ai (O.fI (cs:=[af aC,a' false,j 0,j 0,j 0,af aC]) BN q q)<|av.dR (G2:=[(0,_),(3,_),(6,_)]) (cs2:=[af ay.Name,a' ay.Lit,j 0,j 0,j 0,af aC]) q (.obj q) (.cm q q) q VE q q q q (.n q q (.n q q (.b q .nil)))<|b3 q) ?_;refine W.a8<|W.aY [0,3,6,19] ?_;obtain ⟨dr,aa,h⟩:=aB h;refine W.bH [(0,.obj (ea.cells dr.1)),(3,.obj (du.cells ay)),(6,.obj [af ay.Name,a' ay.Lit,j dr.2,j 0,j 0,af aC])] ?_ ?_
  ·clear h; have h:=aa; clear aa;refine W.bF h q (λdq h=>?_) (λdq h=>?_)
   ·obtain ⟨cn,k5,h⟩:=aB h;refine W.bP [0,3,6] (ai (O.bm q (.obj q) kB q)<|ai (O.cG q (.ptr q) e4 q)<|ai (O.qL (.lit q) (.k q) kf k5)<|ai (O.tS (.lit q) Dt wc)<|ai (O.bm q (.obj q) zK q)<|av.dR (G2:=[(0,_),(3,_),(6,_)]) (cs2:=[af ay.Name,a' ay.Lit,j (aO cn),j 0,j 0,af aC]) q (.ptr q) (.lit q) q nH q q q q (.n q q (.n q q (.b q .nil)))<|b3 q) ?_;obtain ⟨br,fO,h⟩:=aB h;refine W.bP [0,3,6,29] (ai (O.aA (.obj q))<|ai (O.bm q (.obj q) zK q)<|ai (O.cG q (.ptr q) cv q)<|dJ (cu.vw (ys:=[.ptr ⟨0,[]⟩ 0,j (aO cn)]) q (.c (View.ob q q) (.s .nil)) (J7 a0 (aO cn) _ fO) call114 q)<|av.aV) ?_;obtain ⟨ma,aa,h⟩:=aB h;refine W.bH [(0,.obj (ea.cells ma)),(3,.obj (du.cells ay)),(6,.obj [af ay.Name,a' ay.Lit,j (aO cn),j 0,j 0,af aC])] ?_ ?_
    ·clear h; have h:=aa; clear aa;refine W.bF h q (λcX h=>?_) (λcX h=>?_)
     ·obtain ⟨cp,jd,h⟩:=aB h;refine W.bq [0,3,6] (ai (O.aA (.obj q))<|ai (O.bm q (.obj q) rX q)<|ai (O.cG q (.ptr q) cv q)<|ai (O.bm q (.obj q) kB q)<|ai (O.cG q (.ptr q) e4 q)<|av.hJ q (cq.call q q (hV.nC (G2:=[(3,.obj (du.cells ay)),(6,.obj [af ay.Name,a' ay.Lit,j (aO cn),j 0,j 0,af aC])]) (A:=[]) (ys:=[.ptr ⟨0,[]⟩ 0,j ay.At,af ay.Name]) (args:=[.obj (ea.cells a0),j ay.At,af ay.Name]) (cs':=[ak bt cp.aq.a6,ak bb cp.aq.bx,ak bI cp.aq.aX,af cp.aq.bB,af cp.aq.bE,ak bJ cp.b4,ak bb cp.b2,ak cA cp.bG,j cp.b7,j cp.cd,af cp.cb,j cp.b0,j cp.bD]) (k0:=0) q q q q (.b q (.n q (.n q .nil))) q (vq a0 ay.At ay.Name _ jd) call94 (ff q q) q q (ff q q) .nil q))<|b3 q) ?_;obtain rfl:=ax h;exact ah.bH (dF q q q)
     ·refine W.bM ?_;obtain rfl:=ax h;exact ah.bH (dF q q q)
    obtain rfl:=ax h;exact ah.bH (dF q q q)
   ·refine W.bM ?_;obtain rfl:=ax h;exact ah.bH (dF q q q)
  refine ah.a1<|W.a8 ?_;obtain ⟨bZ,jv,h⟩:=aB h;refine W.rd [[],[],[1],[1,2],[1,2,3],[1,2,3,4],[],[6],aH 1 7 [],aH 0 9 [],aH 0 10 [],aH 0 11 [],aH 0 12 []] [(0,_),(3,_)] eM (by kernel_rfl) (ar 0 (O.aA (.obj q))<|ar 1 (O.aA (.obj q))<|ar 2 (O.e0 (.ptr q))<|ar 3 (O.bm q (.ptr q) kl q)<|ar 4 (O.bm q (.ptr q) oA q)<|ar 5 (O.c' (y:=.bo bt.z ⟨0,[0]⟩ dr.1.aq.a6.length) q (.ptr q) p9 q q)<|ar 6 (O.d_ (cs':=[af ay.Name,a' ay.Lit,j dr.2,j 0,j 0,af aC]) q (.obj q) OZ q q)<|bN.gB 7 (x:=aj bt [(⟨ay.Name,ay.Lit,dr.2,0,0,aC⟩:bC)]) (O.dM (ys:=[.agg [af ay.Name,a' ay.Lit,j dr.2,j 0,j 0,af aC]]) bt [(⟨ay.Name,ay.Lit,dr.2,0,0,aC⟩:bC)] pP q q q q q q Oc q q) q q q q .none<|ar 8 (O.ap (en:=bt) (r:=bZ) (.bo q) q (.aF q) .i OI q jv)<|ar 9 (O.e0 (.ptr q))<|ar 10 (O.bm q (.ptr q) kl q)<|ar 11 (O.bm q (.ptr q) oA q)<|bN.jX 12 (G2:=[(0,.obj [ak bt (dr.1.aq.a6++[(⟨ay.Name,ay.Lit,dr.2,0,0,aC⟩:bC)]),ak bb dr.1.aq.bx,ak bI dr.1.aq.aX,af dr.1.aq.bB,af dr.1.aq.bE,ak bJ dr.1.b4,ak bb dr.1.b2,ak cA dr.1.bG,j dr.1.b7,j dr.1.cd,af dr.1.cb,j dr.1.b0,j dr.1.bD]),(3,.obj (du.cells ay))]) (cq.ml (g1:=_) (en:=bt) (M:=[(⟨ay.Name,ay.Lit,dr.2,0,0,aC⟩:bC)]) (cs2:=[ak bt (dr.1.aq.a6++[(⟨ay.Name,ay.Lit,dr.2,0,0,aC⟩:bC)]),ak bb dr.1.aq.bx,ak bI dr.1.aq.aX,af dr.1.aq.bB,af dr.1.aq.bE,ak bJ dr.1.b4,ak bb dr.1.b2,ak cA dr.1.bG,j dr.1.b7,j dr.1.cd,af dr.1.cb,j dr.1.b0,j dr.1.bD]) q q (.ptr q) (.b8 q) q q q .ly .hf q q NQ q q q q (.b q (.n q q .nil))) q q q q (by kernel_rfl) (by kernel_rfl)<|bN.fin q q q (ff q q)) ?_;refine ah.a1<|W.a8 ?_;obtain ⟨ct,iA,h⟩:=aB h;refine W.rd [[],[],[1],[1,2],[1,2,3],[],[5],[5,6],aH 1 7 [],aH 0 9 [],aH 0 10 [],aH 0 11 []] [(0,_)] eM (by kernel_rfl) (ar 0 (O.aA (.obj q))<|ar 1 (O.aA (.obj q))<|ar 2 (O.e0 (.ptr q))<|ar 3 (O.bm q (.ptr q) xQ q)<|ar 4 (O.c' (y:=.bo bJ.z ⟨0,[5]⟩ dr.1.b4.length) q (.ptr q) zr q q)<|ar 5 (O.bm q (.obj q) vE q)<|ar 6 (O.cG q (.ptr q) mx q)<|bN.gB 7 (x:=aj bJ [ay.Lit]) (O.dM (ys:=[a' ay.Lit]) bJ [ay.Lit] oS q q q q q q Wa q q) q q q q .none<|ar 8 (O.ap (en:=bJ) (r:=ct) (.bo q) q (.aF q) .i OD q iA)<|ar 9 (O.e0 (.ptr q))<|ar 10 (O.bm q (.ptr q) xQ q)<|bN.jX 11 (G2:=[(0,.obj [ak bt (dr.1.aq.a6++[(⟨ay.Name,ay.Lit,dr.2,0,0,aC⟩:bC)]),ak bb dr.1.aq.bx,ak bI dr.1.aq.aX,af dr.1.aq.bB,af dr.1.aq.bE,ak bJ (dr.1.b4++[ay.Lit]),ak bb dr.1.b2,ak cA dr.1.bG,j dr.1.b7,j dr.1.cd,af dr.1.cb,j dr.1.b0,j dr.1.bD])]) (cq.ml (g1:=_) (en:=bJ) (M:=[ay.Lit]) (cs2:=[ak bt (dr.1.aq.a6++[(⟨ay.Name,ay.Lit,dr.2,0,0,aC⟩:bC)]),ak bb dr.1.aq.bx,ak bI dr.1.aq.aX,af dr.1.aq.bB,af dr.1.aq.bE,ak bJ (dr.1.b4++[ay.Lit]),ak bb dr.1.b2,ak cA dr.1.bG,j dr.1.b7,j dr.1.cd,af dr.1.cb,j dr.1.b0,j dr.1.bD]) q q (.ptr q) (.b8 q) q q q .ly .hf q q Vw q q q q (.b q .nil)) q q q q (by kernel_rfl) (by kernel_rfl)<|bN.fin q q q (.n q .nil)) ?_;refine ah.a1<|W.aY [0,4] ?_;refine W.rt ?_;obtain rfl:=ax h;exact ah.fin (Fin.ro (.f q q .nil) q (oQ (by kernel_rfl)) (.au q q (.no .nil)) q (.inr q))
theorem Fa (v:Value) (a0:cR) (ay:Int) (a2:ByteArray) (r:cR) (h:np a0 ay a2=some r):cc Try.prog 94 [.obj [.lit v,ak bb a0.aq.bx,ak bI a0.aq.aX,af a0.aq.bB,af a0.aq.bE,ak bJ a0.b4,ak bb a0.b2,ak cA a0.bG,j a0.b7,j a0.cd,af a0.cb,j a0.b0,j a0.bD],j ay,af a2] [some (.obj [.lit v,ak bb r.aq.bx,ak bI r.aq.aX,af r.aq.bB,af r.aq.bE,ak bJ r.b4,ak bb r.b2,ak cA r.bG,j r.b7,j r.cd,af r.cb,j r.b0,j r.bD]),none,none] (.cC []):=by
 unfold np at h;refine cc.go (N:=⟨22,[0]⟩) Try.func94 q q q q (W.fin ?_);refine W.st [(0,.obj [.lit v,ak bb a0.aq.bx,ak bI a0.aq.aX,af a0.aq.bB,af a0.aq.bE,ak bJ a0.b4,ak bb a0.b2,ak cA a0.bG,j a0.b7,j a0.cd,af a0.cb,j a0.b0,j a0.bD]),(1,j ay),(2,af a2)] ?_;refine W.aY [0,1,2,10] ?_;obtain ⟨ib,aa,h⟩:=aB h;refine W.bH [(0,.obj [.lit v,ak bb ib.aq.bx,ak bI ib.aq.aX,af ib.aq.bB,af ib.aq.bE,ak bJ ib.b4,ak bb ib.b2,ak cA ib.bG,j ib.b7,j ib.cd,af ib.cb,j ib.b0,j ib.bD])] ?_ ?_
 ·clear h; have h:=aa; clear aa;refine W.bF h q (λc6 h=>?_) (λc6 h=>?_)
  ·refine W.bq [0] (ai (O.aA (.obj q))<|ai (O.aA (.obj q))<|ai (O.aA (.obj q))<|bu q<|bu q<|ai (O.e0 (.ptr q))<|ai (O.bm q (.ptr q) zC q)<|av.dR (G2:=[(0,_),(12,.ptr ⟨0,[]⟩ 0),(13,.ptr ⟨0,[]⟩ 0),(14,_),(15,_)]) (cs2:=[.lit v,ak bb a0.aq.bx,ak bI a0.aq.aX,af a0.aq.bB,af a0.aq.bE,ak bJ a0.b4,ak bb a0.b2,ak cA a0.bG,j 3,j a0.cd,af a0.cb,j a0.b0,j a0.bD]) q (.ptr q) (.k q) q nH q q q q (.b q (.p q q q q q q (.p q q q q q q (.n q q (.n q q .nil)))))<|ai (O.e0 (.ptr q))<|ai (O.bm q (.ptr q) zD q)<|av.dR (G2:=[(0,_),(13,.ptr ⟨0,[]⟩ 0),(15,_)]) (cs2:=[.lit v,ak bb a0.aq.bx,ak bI a0.aq.aX,af a0.aq.bB,af a0.aq.bE,ak bJ a0.b4,ak bb a0.b2,ak cA a0.bG,j 3,j ay,af a0.cb,j a0.b0,j a0.bD]) q (.ptr q) (.lit q) q nH q q q q (.b q (.p q q q q q q (.n q q .nil)))<|ai (O.e0 (.ptr q))<|ai (O.bm q (.ptr q) zE q)<|av.dR (G2:=[(0,_)]) (cs2:=[.lit v,ak bb a0.aq.bx,ak bI a0.aq.aX,af a0.aq.bB,af a0.aq.bE,ak bJ a0.b4,ak bb a0.b2,ak cA a0.bG,j 3,j ay,af a2,j a0.b0,j a0.bD]) q (.ptr q) (.lit q) q w6 q q q q (.b q .nil)<|b3 q) ?_;obtain rfl:=ax h;exact ah.bH (.n q .nil)
  ·refine W.bM ?_;obtain rfl:=ax h;exact ah.bH (.n q .nil)
 obtain rfl:=ax h;exact ah.fin (Fin.ro .nil q (oQ (by kernel_rfl)) (.au q q (.no (.no .nil))) q (.inl q))
theorem Qk (a0:cR) (ay:Decl) (a2:Sym) (r:cR) (h:wQ a0 ay a2=some r):cc Try.prog 93 [.obj (ea.cells a0),.agg (cO.cells ay),.agg (du.cells a2)] [some (.obj [ak bt r.aq.a6,ak bb r.aq.bx,ak bI r.aq.aX,af r.aq.bB,af r.aq.bE,ak bJ r.b4,ak bb r.b2,ak cA r.bG,j r.b7,j r.cd,af r.cb,j r.b0,j r.bD]),none,none] (.cC []):=by
 unfold wQ at h;refine cc.go (N:=⟨152,[0]⟩) Try.func93 q q q q (W.fin ?_);refine W.st [(0,.obj (ea.cells a0)),(1,.agg (cO.cells ay)),(2,.agg (du.cells a2))] ?_;refine W.bP [0,4,5] (ai (O.box (.cm q q) q)<|ai (O.box (.cm q q) q)<|b3 q) ?_;refine W.a8<|W.aY [0,4,5,11] ?_;refine W.bF h q (λdw h=>?_) (λdw h=>?_)
 ·obtain ⟨x2,hD,h⟩:=aB h;refine W.bP [0,4,5,6] (ai (O.aA (.obj q))<|ai (O.bm q (.obj q) kB q)<|ai (O.cG q (.ptr q) e4 q)<|dJ (cu.vw (ys:=[.ptr ⟨0,[]⟩ 0,af a2.Name]) q (.c (View.ob q q) (.s .nil)) (Kj a0 a2.Name _ hD) call98 q)<|av.aV) ?_;refine W.a8<|W.aY [0,4,5,6,17] ?_;obtain ⟨dr,aa,h⟩:=aB h;refine W.bH [(0,.obj (ea.cells dr))] ?_ ?_
  ·clear h; have h:=aa; clear aa;refine W.bF h q (λdq h=>?_) (λdq h=>?_)
   ·obtain ⟨cn,k5,h⟩:=aB h;refine W.rd [[],[],[1],[1,2],[1,2,3],[],[5],[],[7],[5,6,7,8],aH 5 5 [],aH 1 10 [],aH 0 12 [],aH 0 13 [],aH 0 14 []] [(0,_)] eM (by kernel_rfl) (ar 0 (O.aA (.obj q))<|ar 1 (O.aA (.obj q))<|ar 2 (O.e0 (.ptr q))<|ar 3 (O.bm q (.ptr q) zB q)<|ar 4 (O.c' (y:=.bo bb.z ⟨0,[6]⟩ a0.b2.length) q (.ptr q) rR q q)<|ar 5 (O.bm q (.obj q) kB q)<|ar 6 (O.cG q (.ptr q) e4 q)<|ar 7 (O.bm q (.obj q) nU q)<|ar 8 (O.cG q (.ptr q) e4 q)<|ar 9 (O.e7 (cs:=[af a2.Name,af ay.Tag]) D1 BM q q q)<|bN.gB 10 (x:=aj bb [(⟨a2.Name,ay.Tag⟩:eY)]) (O.dM (ys:=[.agg [af a2.Name,af ay.Tag]]) bb [(⟨a2.Name,ay.Tag⟩:eY)] rr q q q q q q Ek q q) q q q q .none<|ar 11 (O.ap (en:=bb) (r:=cn) (.bo q) q (.aF q) .i EB q k5)<|ar 12 (O.e0 (.ptr q))<|ar 13 (O.bm q (.ptr q) zB q)<|bN.jX 14 (G2:=[(0,.obj [ak bt a0.aq.a6,ak bb a0.aq.bx,ak bI a0.aq.aX,af a0.aq.bB,af a0.aq.bE,ak bJ a0.b4,ak bb (a0.b2++[(⟨a2.Name,ay.Tag⟩:eY)]),ak cA a0.bG,j a0.b7,j a0.cd,af a0.cb,j a0.b0,j a0.bD])]) (cq.ml (g1:=_) (en:=bb) (M:=[(⟨a2.Name,ay.Tag⟩:eY)]) (cs2:=[ak bt a0.aq.a6,ak bb a0.aq.bx,ak bI a0.aq.aX,af a0.aq.bB,af a0.aq.bE,ak bJ a0.b4,ak bb (a0.b2++[(⟨a2.Name,ay.Tag⟩:eY)]),ak cA a0.bG,j a0.b7,j a0.cd,af a0.cb,j a0.b0,j a0.bD]) q q (.ptr q) (.b8 q) q q q .ly .hf q q D' q q q q (.b q .nil)) q q q q (by kernel_rfl) (by kernel_rfl)<|bN.fin q q q (.n q .nil)) ?_;obtain rfl:=ax h;exact ah.bH (.n q .nil)
   ·refine W.a8 ?_;obtain ⟨br,fO,h⟩:=aB h;refine W.rd [[],[0],[0,1],[0,1,2],[],aH 0 5 [],aH 0 6 [],aH 0 7 [],[],[8],aH 0 10 []] [(0,_),(5,_),(42,_)] eM (by kernel_rfl) (ar 0 (O.aA (.obj q))<|ar 1 (O.e0 (.ptr q))<|ar 2 (O.bm q (.ptr q) zB q)<|ar 3 (O.c' (y:=.bo bb.z ⟨0,[6]⟩ a0.b2.length) q (.ptr q) rR q q)<|ar 4 (O.aA (.lit q))<|ar 5 (O.g_ (en:=bb) q (.bo q) (.lit q) rr fO q)<|ar 6 (O.kk (en:=bb) q (.ptr q) CF fO q q)<|ar 7 (O.jh (en:=bb) (x':=af br.Tag) q (.ptr q) e4 fO q q)<|ar 8 (O.bm q (.obj q) nU q)<|ar 9 (O.cG q (.ptr q) e4 q)<|ar 10 (O.mc (.lit q) (.lit q))<|bN.fin q q q (dF q q q)) ?_;refine ah.a1 ?_;obtain ⟨ma,aa,h⟩:=aB h;refine W.bH [(0,.obj (ea.cells ma))] ?_ ?_
    ·clear h; have h:=aa; clear aa;refine W.bF h q (λcX h=>?_) (λcX h=>?_)
     ·obtain ⟨cp,jd,h⟩:=aB h;refine W.bq [0] (ai (O.aA (.obj q))<|ai (O.bm q (.obj q) rX q)<|ai (O.cG q (.ptr q) cv q)<|ai (O.bm q (.obj q) kB q)<|ai (O.cG q (.ptr q) e4 q)<|av.hJ q (cq.call q q (hV.nC (G2:=[]) (A:=[]) (ys:=[.ptr ⟨0,[]⟩ 0,j a2.At,af a2.Name]) (args:=[.obj (ea.cells a0),j a2.At,af a2.Name]) (cs':=[ak bt cp.aq.a6,ak bb cp.aq.bx,ak bI cp.aq.aX,af cp.aq.bB,af cp.aq.bE,ak bJ cp.b4,ak bb cp.b2,ak cA cp.bG,j cp.b7,j cp.cd,af cp.cb,j cp.b0,j cp.bD]) (k0:=0) q q q q (.b q (.n q (.n q .nil))) q (vq a0 a2.At a2.Name _ jd) call94 .nil q q .nil .nil q))<|b3 q) ?_;obtain rfl:=ax h;exact ah.bH (.n q .nil)
     ·refine W.bM ?_;obtain rfl:=ax h;exact ah.bH (.n q .nil)
    obtain rfl:=ax h;exact ah.bH (.n q .nil)
  refine ah.a1<|W.rt ?_;refine ah.c0 ?_;obtain rfl:=ax h;exact ah.fin (Fin.ro .nil q (oQ (by kernel_rfl)) (.au q q (.no (.no .nil))) q (.inr q))
 ·refine W.bM<|ah.a1 ?_;obtain ⟨bZ,jv,h⟩:=aB h;refine W.bP [0,4,5,7] (ai (O.aA (.obj q))<|ai (O.d_ (cs':=[af a2.Name,a' a2.Lit,j a2.c9,j a2.At]) q (.obj q) lj q q)<|av.hJ q (cq.call q q (hV.nC (G2:=[(4,.obj (cO.cells ay)),(5,.obj (du.cells a2))]) (A:=[]) (ys:=[.ptr ⟨0,[]⟩ 0,.agg (du.cells a2)]) (args:=[.obj (ea.cells a0),.agg (du.cells a2)]) (cs':=[ak bt bZ.2.aq.a6,ak bb bZ.2.aq.bx,ak bI bZ.2.aq.aX,af bZ.2.aq.bB,af bZ.2.aq.bE,ak bJ bZ.2.b4,ak bb bZ.2.b2,ak cA bZ.2.bG,j bZ.2.b7,j bZ.2.cd,af bZ.2.cb,j bZ.2.b0,j bZ.2.bD]) (k0:=0) q q q q (.b q (.n q .nil)) q (J6 a0 a2 _ jv) call113 (ff q q) q q (ff q q) .nil q))<|av.aV) ?_;obtain ⟨ct,iA,h⟩:=aB h;refine W.rs [(0,_),(4,_),(5,_),(7,_),(8,.ptr ⟨0,[0]⟩ (bZ.1.toNat * bt.z+0))] (ai (O.aA (.obj q))<|ai (O.e0 (.ptr q))<|ai (O.bm q (.ptr q) kl q)<|ai (O.bm q (.ptr q) oA q)<|ai (O.c' (y:=.bo bt.z ⟨0,[0]⟩ bZ.2.aq.a6.length) q (.ptr q) p9 q q)<|bu q<|ai (O.g_ (en:=bt) q (.bo q) (.lit q) pP iA q)<|ai (O.dz (.ptr q))<|nK (.n q (.n q (.n q (.n q (.r q (e3.el (en:=bt) q iA q) j3 .nil)))))) ?_;refine W.a8<|W.rs [(0,_),(4,_),(5,_),(7,_),(8,.ptr ⟨0,[0]⟩ (bZ.1.toNat * bt.z+0)),(61,_)] (ai (O.bm q (.obj q) pd q)<|ai (O.cG q (.ptr q) cv q)<|ai (O.neq (.lit q) (.k q))<|nK (.n q (.n q (.n q (.n q (.r q (e3.el (en:=bt) q iA q) j3 (.n q .nil))))))) ?_;obtain ⟨fa,aa,h⟩:=aB h;refine W.bH [(0,.obj (ea.cells fa)),(4,.obj (cO.cells ay)),(5,.obj (du.cells a2)),(7,j bZ.1),(8,.ptr ⟨0,[0]⟩ (bZ.1.toNat * bt.z+0))] ?_ ?_
  ·clear h; have h:=aa; clear aa;refine W.bF h q (λj_ h=>?_) (λj_ h=>?_)
   ·refine W.a8<|W.rs [(0,_),(4,_),(5,_),(7,_),(8,.ptr ⟨0,[0]⟩ (bZ.1.toNat * bt.z+0)),(66,_)] (ai (O.aA (.ptr q))<|ai (O.e0 (.ptr q))<|ai (O.kk (en:=bt) q (.ptr q) CG iA q q)<|ai (O.jh (en:=bt) (x':=j ct.Level) q (.ptr q) cv iA q q)<|ai (O.gtr (.lit q) (.k q))<|nK (.n q (.n q (.n q (.n q (.r q (e3.el (en:=bt) q iA q) j3 (.n q .nil))))))) ?_;obtain ⟨dn,aa,h⟩:=aB h;refine W.bH [(0,.obj (ea.cells dn)),(4,.obj (cO.cells ay)),(5,.obj (du.cells a2)),(7,j bZ.1),(8,.ptr ⟨0,[0]⟩ (bZ.1.toNat * bt.z+0))] ?_ ?_
    ·clear h; have h:=aa; clear aa;refine W.bF h q (λqX h=>?_) (λqX h=>?_)
     ·obtain ⟨cr,lI,h⟩:=aB h;refine W.rx [(0,_),(4,_),(5,_),(7,_),(8,.ptr ⟨0,[0]⟩ (bZ.1.toNat * bt.z+0))] (ai (O.aA (.obj q))<|ai (O.bm q (.obj q) rX q)<|ai (O.cG q (.ptr q) cv q)<|ai (O.bm q (.obj q) kB q)<|ai (O.cG q (.ptr q) e4 q)<|av.hJ (G2:=[(8,.ptr ⟨0,[0]⟩ (bZ.1.toNat * bt.z+0))]++[(72,.cC []),(0,.obj [ak bt bZ.2.aq.a6,ak bb cr.aq.bx,ak bI cr.aq.aX,af cr.aq.bB,af cr.aq.bE,ak bJ cr.b4,ak bb cr.b2,ak cA cr.bG,j cr.b7,j cr.cd,af cr.cb,j cr.b0,j cr.bD]),(4,.obj (cO.cells ay)),(5,.obj (du.cells a2)),(7,j bZ.1)]) q (cq.fF (r:=0) (k0:=0) (y:=ak bt bZ.2.aq.a6) (cs5:=[ak bt bZ.2.aq.a6,ak bb cr.aq.bx,ak bI cr.aq.aX,af cr.aq.bB,af cr.aq.bE,ak bJ cr.b4,ak bb cr.b2,ak cA cr.bG,j cr.b7,j cr.cd,af cr.cb,j cr.b0,j cr.bD]) (G1:=λv=>[(0,.obj [.lit v,ak bb bZ.2.aq.bx,ak bI bZ.2.aq.aX,af bZ.2.aq.bB,af bZ.2.aq.bE,ak bJ bZ.2.b4,ak bb bZ.2.b2,ak cA bZ.2.bG,j bZ.2.b7,j bZ.2.cd,af bZ.2.cb,j bZ.2.b0,j bZ.2.bD]),(4,.obj (cO.cells ay)),(5,.obj (du.cells a2)),(7,j bZ.1),(67,.ptr ⟨0,[]⟩ 0),(69,j a2.At),(71,af a2.Name)]) (G4:=λv=>[(72,.cC []),(0,.obj [.lit v,ak bb cr.aq.bx,ak bI cr.aq.aX,af cr.aq.bB,af cr.aq.bE,ak bJ cr.b4,ak bb cr.b2,ak cA cr.bG,j cr.b7,j cr.cd,af cr.cb,j cr.b0,j cr.bD]),(4,.obj (cO.cells ay)),(5,.obj (du.cells a2)),(7,j bZ.1)]) (c4:=λv=>[.lit v,ak bb cr.aq.bx,ak bI cr.aq.aX,af cr.aq.bB,af cr.aq.bE,ak bJ cr.b4,ak bb cr.b2,ak cA cr.bG,j cr.b7,j cr.cd,af cr.cb,j cr.b0,j cr.bD]) (G5:=[(72,.cC []),(0,.obj [ak bt bZ.2.aq.a6,ak bb cr.aq.bx,ak bI cr.aq.aX,af cr.aq.bB,af cr.aq.bE,ak bJ cr.b4,ak bb cr.b2,ak cA cr.bG,j cr.b7,j cr.cd,af cr.cb,j cr.b0,j cr.bD]),(4,.obj (cO.cells ay)),(5,.obj (du.cells a2)),(7,j bZ.1)]) (A:=[(8,.ptr ⟨0,[0]⟩ (bZ.1.toNat * bt.z+0))]) q q q q (λv=>(.b q (.n q q (.n q q (.n q q (.p q q q q q q (.n q q (.n q q .nil)))))))) (λv=>hV.nC (G2:=[(4,.obj (cO.cells ay)),(5,.obj (du.cells a2)),(7,j bZ.1)]) (A:=[]) (ys:=[.ptr ⟨0,[]⟩ 0,j a2.At,af a2.Name]) (args:=[.obj [.lit v,ak bb bZ.2.aq.bx,ak bI bZ.2.aq.aX,af bZ.2.aq.bB,af bZ.2.aq.bE,ak bJ bZ.2.b4,ak bb bZ.2.b2,ak cA bZ.2.bG,j bZ.2.b7,j bZ.2.cd,af bZ.2.cb,j bZ.2.b0,j bZ.2.bD],j a2.At,af a2.Name]) (cs':=[.lit v,ak bb cr.aq.bx,ak bI cr.aq.aX,af cr.aq.bB,af cr.aq.bE,ak bJ cr.b4,ak bb cr.b2,ak cA cr.bG,j cr.b7,j cr.cd,af cr.cb,j cr.b0,j cr.bD]) (k0:=0) q q q q (.b q (.n q (.n q .nil))) q (Fa v bZ.2 a2.At a2.Name _ lI) call94 (dF q q q) q q (dF q q q) .nil q) (λv=>q) (λv=>q) (λv=>q) (λv=>(.n q q (.b q (.n q q (.n q q (.n q q .nil)))))) q (.c (en:=bt) (L:=bZ.2.aq.a6) q q iA q q q .nil))<|nK (.n q (.n q (.n q (.n q (.r q (e3.el (en:=bt) q iA q) j3 .nil)))))) ?_;obtain rfl:=ax h;exact ah.bH (.n q (.n q (.n q (.n q (.r q (e3.el (en:=bt) q iA q) j3 .nil)))))
     ·refine W.bM ?_;obtain rfl:=ax h;exact ah.bH (.n q (.n q (.n q (.n q (.r q (e3.el (en:=bt) q iA q) j3 .nil)))))
    obtain ⟨b9,ik,h⟩:=aB h;refine ah.a1<|W.rd [[],[],[],[2],[2,3],[2,3,4],[],[6],[6,7],[0,2,3,4,5],[0,2,3,4,5,9],[0,2,3,4,5,9,10],aH 0 12 [],aH 0 13 [],aH 0 14 []] [(0,_),(4,_),(5,_),(7,_),(8,.ptr ⟨0,[0]⟩ (bZ.1.toNat * bt.z+0))] eM (by kernel_rfl) (ar 0 (O.aA (.ptr q))<|ar 1 (O.aA (.ptr q))<|ar 2 (O.aA (.obj q))<|ar 3 (O.e0 (.ptr q))<|ar 4 (O.bm q (.ptr q) CE q)<|ar 5 (O.cG q (.ptr q) cv q)<|ar 6 (O.bm q (.obj q) pd q)<|ar 7 (O.cG q (.ptr q) cv q)<|ar 8 (O.sub (.lit q) (.k q))<|ar 9 (O.e0 (.ptr q))<|ar 10 (O.kk (en:=bt) q (.ptr q) CG ik q q)<|bN.e7 11 (G2:=[(0,.obj [ak bt (dn.aq.a6.set bZ.1.toNat (⟨b9.Name,b9.Lit,b9.c9,dn.b0,b9.eC,b9.Tag⟩:bC)),ak bb dn.aq.bx,ak bI dn.aq.aX,af dn.aq.bB,af dn.aq.bE,ak bJ dn.b4,ak bb dn.b2,ak cA dn.bG,j dn.b7,j dn.cd,af dn.cb,j dn.b0,j dn.bD]),(4,.obj (cO.cells ay)),(5,.obj (du.cells a2)),(7,j bZ.1),(8,.ptr ⟨0,[0]⟩ (bZ.1.toNat * bt.z+0))]) (U:=[(8,81,some (j (aO (ay.Kind - 1)))),(7,80,some (j ay.Kind)),(6,79,some (.ptr ⟨4,[]⟩ 0)),(1,74,some (.ptr ⟨0,[0]⟩ (bZ.1.toNat * bt.z+0)))]) (mu.v (cq.ox (cq.pR (en:=bt) (y2:=(⟨b9.Name,b9.Lit,b9.c9,dn.b0,b9.eC,b9.Tag⟩:bC)) (cs':=[j dn.b0]) (x2:=.obj [ak bt (dn.aq.a6.set bZ.1.toNat (⟨b9.Name,b9.Lit,b9.c9,dn.b0,b9.eC,b9.Tag⟩:bC)),ak bb dn.aq.bx,ak bI dn.aq.aX,af dn.aq.bB,af dn.aq.bE,ak bJ dn.b4,ak bb dn.b2,ak cA dn.bG,j dn.b7,j dn.cd,af dn.cb,j dn.b0,j dn.bD]) q q (.ptr q) (.lit q) q ik nH q q q q q q q (.b q (.n q q (.n q q (.n q q (.e q q (.mk (en:=bt) q ik q (nB ik) q) q .nil)))))))) q q (by kernel_rfl) q q q (.c (.inr (.inl ⟨_,q⟩)) q q q q q (gD.wanted .none) (O.sub (.lit q) (.k q)) (.c (.inr (.inl ⟨_,q⟩)) q q q q q (gD.wanted .none) (O.cG q (.ptr q) cv q) (.c (.inr (.inr (.inr (.inl ⟨4,_,_,q,q,jA q,by simp,_,q,jA q⟩)))) q q q q q (gD.wanted .none) (O.bm q (.obj q) pd q) (.c (.inr (.inr (.inl ⟨8,_,_,q,q,q,by simp⟩))) q q q q q (gD.wanted .none) (O.aA (.ptr q)) .nil)))) (by kernel_rfl)<|ar 12 (O.e0 (.ptr q))<|ar 13 (O.kk (en:=bt) q (.ptr q) CH (nB ik) q q)<|bN.jX 14 (G2:=[(0,.obj [ak bt ((dn.aq.a6.set bZ.1.toNat (⟨b9.Name,b9.Lit,b9.c9,dn.b0,b9.eC,b9.Tag⟩:bC)).set bZ.1.toNat (⟨(⟨b9.Name,b9.Lit,b9.c9,dn.b0,b9.eC,b9.Tag⟩:bC).Name,(⟨b9.Name,b9.Lit,b9.c9,dn.b0,b9.eC,b9.Tag⟩:bC).Lit,(⟨b9.Name,b9.Lit,b9.c9,dn.b0,b9.eC,b9.Tag⟩:bC).c9,(⟨b9.Name,b9.Lit,b9.c9,dn.b0,b9.eC,b9.Tag⟩:bC).Level,aO (ay.Kind - 1),(⟨b9.Name,b9.Lit,b9.c9,dn.b0,b9.eC,b9.Tag⟩:bC).Tag⟩:bC)),ak bb dn.aq.bx,ak bI dn.aq.aX,af dn.aq.bB,af dn.aq.bE,ak bJ dn.b4,ak bb dn.b2,ak cA dn.bG,j dn.b7,j dn.cd,af dn.cb,j dn.b0,j dn.bD]),(4,.obj (cO.cells ay)),(5,.obj (du.cells a2)),(7,j bZ.1),(8,.ptr ⟨0,[0]⟩ (bZ.1.toNat * bt.z+0))]) (cq.pR (en:=bt) (y2:=(⟨(⟨b9.Name,b9.Lit,b9.c9,dn.b0,b9.eC,b9.Tag⟩:bC).Name,(⟨b9.Name,b9.Lit,b9.c9,dn.b0,b9.eC,b9.Tag⟩:bC).Lit,(⟨b9.Name,b9.Lit,b9.c9,dn.b0,b9.eC,b9.Tag⟩:bC).c9,(⟨b9.Name,b9.Lit,b9.c9,dn.b0,b9.eC,b9.Tag⟩:bC).Level,aO (ay.Kind - 1),(⟨b9.Name,b9.Lit,b9.c9,dn.b0,b9.eC,b9.Tag⟩:bC).Tag⟩:bC)) (cs':=[j (aO (ay.Kind - 1))]) (x2:=.obj [ak bt ((dn.aq.a6.set bZ.1.toNat (⟨b9.Name,b9.Lit,b9.c9,dn.b0,b9.eC,b9.Tag⟩:bC)).set bZ.1.toNat (⟨(⟨b9.Name,b9.Lit,b9.c9,dn.b0,b9.eC,b9.Tag⟩:bC).Name,(⟨b9.Name,b9.Lit,b9.c9,dn.b0,b9.eC,b9.Tag⟩:bC).Lit,(⟨b9.Name,b9.Lit,b9.c9,dn.b0,b9.eC,b9.Tag⟩:bC).c9,(⟨b9.Name,b9.Lit,b9.c9,dn.b0,b9.eC,b9.Tag⟩:bC).Level,aO (ay.Kind - 1),(⟨b9.Name,b9.Lit,b9.c9,dn.b0,b9.eC,b9.Tag⟩:bC).Tag⟩:bC)),ak bb dn.aq.bx,ak bI dn.aq.aX,af dn.aq.bB,af dn.aq.bE,ak bJ dn.b4,ak bb dn.b2,ak cA dn.bG,j dn.b7,j dn.cd,af dn.cb,j dn.b0,j dn.bD]) q q (.ptr q) (.lit q) q (nB ik) nH q q q q q q q (.b q (.n q q (.n q q (.n q q (.e q q (.mk (en:=bt) q (nB ik) q (nB (nB ik)) q) q .nil)))))) q q q q (by kernel_rfl) (by kernel_rfl)<|bN.fin q q q (.n q (.n q (.n q (.n q (.r q (e3.el (en:=bt) q (nB (nB ik)) q) j3 .nil)))))) ?_;obtain rfl:=ax h;exact ah.bH (.n q (.n q (.n q (.n q (.r q (e3.el (en:=bt) q (nB (nB ik)) q) j3 .nil)))))
   ·refine W.bM ?_;obtain rfl:=ax h;exact ah.bH (.n q (.n q (.n q (.n q (.r q (e3.el (en:=bt) q iA q) j3 .nil)))))
  obtain ⟨eX,kc,h⟩:=aB h;refine ah.a1<|W.a8 ?_;refine W.rs [(0,_),(4,_),(5,_),(7,_),(8,.ptr ⟨0,[0]⟩ (bZ.1.toNat * bt.z+0)),(88,_)] (ai (O.bm q (.obj q) vF q)<|ai (O.cG q (.ptr q) cv q)<|ai (O.gtr (.lit q) (.k q))<|nK (.n q (.n q (.n q (.n q (.r q (e3.el (en:=bt) q kc q) j3 (.n q .nil))))))) ?_;obtain ⟨fH,aa,h⟩:=aB h;refine W.bH [(0,.obj (ea.cells fH)),(4,.obj (cO.cells ay)),(5,.obj (du.cells a2)),(8,.ptr ⟨0,[0]⟩ (bZ.1.toNat * bt.z+0))] ?_ ?_
  ·clear h; have h:=aa; clear aa;refine W.bF h q (λfc h=>?_) (λfc h=>?_)
   ·refine W.a8 ?_;obtain ⟨Ci,aa,h⟩:=aB h;refine W.rs [(0,.obj (ea.cells fa)),(4,.obj (cO.cells ay)),(5,.obj (du.cells a2)),(7,j bZ.1),(8,.ptr ⟨0,[0]⟩ (bZ.1.toNat * bt.z+0)),(106,a' Ci)] ?_ ?_
    ·refine bu q<|ai (O.eql (.lit q) (.k q))<|ai (O.aA (.lit q)) ?_;rcases cB aa with ⟨jY,aa⟩ | ⟨jY,aa⟩
     ·obtain rfl:=ax aa;exact cL jY<|cL jY<|cL jY<|cL jY<|cL jY<|cL jY<|cL jY<|ai (O.dx (.lit q) jY (.k q))<|bu q<|cL q<|cL q<|cL q<|cL q<|cL q<|ai (O.dx (.lit q) q (.k q))<|nK (.n q (.n q (.n q (.n q (.r q (e3.el (en:=bt) q kc q) j3 (.n q .nil))))))
     ·refine a7 jY (O.aA (.obj q))<|a7 jY (O.e0 (.ptr q))<|a7 jY (O.bm q (.ptr q) xQ q)<|a7 jY (O.c' (y:=.bo bJ.z ⟨0,[5]⟩ fa.b4.length) q (.ptr q) zr q q)<|a7 jY (O.aA (.lit q)) ?_;obtain ⟨hj,pA,aa⟩:=aB aa;refine a7 jY (O.g_ (en:=bJ) q (.bo q) (.lit q) oS pA q)<|a7 jY (O.jh (en:=bJ) (x':=a' hj) q (.ptr q) mx pA q q)<|ai (O.cy (.lit q) jY (.lit q))<|ai (O.aA (.lit q)) ?_;rcases cB aa with ⟨iF,aa⟩ | ⟨iF,aa⟩
      ·obtain rfl:=ax aa;exact cL iF<|cL iF<|cL iF<|cL iF<|cL iF<|ai (O.dx (.lit q) iF (.k q))<|nK (.n q (.n q (.n q (.n q (.r q (e3.el (en:=bt) q kc q) j3 (.n q .nil))))))
      ·refine a7 iF (O.aA (.obj q))<|a7 iF (O.bm q (.obj q) vF q)<|a7 iF (O.cG q (.ptr q) cv q) ?_;obtain ⟨fZ,lr,aa⟩:=aB aa;obtain rfl:=ax aa;exact av.c (cu.vw (ys:=[.ptr ⟨0,[]⟩ 0,j a2.c9]) q (.c (View.ob q q) (.s .nil)) (J7 fa a2.c9 _ lr) call114 q) q q (.jT q q iF)<|a7 iF (O.geq (.lit q) (.k q))<|ai (O.cy (.lit q) iF (.lit q))<|nK (.n q (.n q (.n q (.n q (.r q (e3.el (en:=bt) q kc q) j3 (.n q .nil))))))
    obtain ⟨ej,aa,h⟩:=aB h;refine W.bH [(0,.obj (ea.cells ej)),(4,.obj (cO.cells ay)),(5,.obj (du.cells a2)),(7,j bZ.1),(8,.ptr ⟨0,[0]⟩ (bZ.1.toNat * bt.z+0))] ?_ ?_
    ·clear h; have h:=aa; clear aa;refine W.bF h q (λF8 h=>?_) (λF8 h=>?_)
     ·obtain ⟨c3,vW,h⟩:=aB h;refine W.rx [(0,_),(4,_),(5,_),(7,_),(8,.ptr ⟨0,[0]⟩ (bZ.1.toNat * bt.z+0))] (ai (O.aA (.obj q))<|ai (O.bm q (.obj q) rX q)<|ai (O.cG q (.ptr q) cv q)<|ai (O.bm q (.obj q) kB q)<|ai (O.cG q (.ptr q) e4 q)<|av.hJ (G2:=[(8,.ptr ⟨0,[0]⟩ (bZ.1.toNat * bt.z+0))]++[(112,.cC []),(0,.obj [ak bt fa.aq.a6,ak bb c3.aq.bx,ak bI c3.aq.aX,af c3.aq.bB,af c3.aq.bE,ak bJ c3.b4,ak bb c3.b2,ak cA c3.bG,j c3.b7,j c3.cd,af c3.cb,j c3.b0,j c3.bD]),(4,.obj (cO.cells ay)),(5,.obj (du.cells a2)),(7,j bZ.1)]) q (cq.fF (r:=0) (k0:=0) (y:=ak bt fa.aq.a6) (cs5:=[ak bt fa.aq.a6,ak bb c3.aq.bx,ak bI c3.aq.aX,af c3.aq.bB,af c3.aq.bE,ak bJ c3.b4,ak bb c3.b2,ak cA c3.bG,j c3.b7,j c3.cd,af c3.cb,j c3.b0,j c3.bD]) (G1:=λv=>[(0,.obj [.lit v,ak bb fa.aq.bx,ak bI fa.aq.aX,af fa.aq.bB,af fa.aq.bE,ak bJ fa.b4,ak bb fa.b2,ak cA fa.bG,j fa.b7,j fa.cd,af fa.cb,j fa.b0,j fa.bD]),(4,.obj (cO.cells ay)),(5,.obj (du.cells a2)),(7,j bZ.1),(107,.ptr ⟨0,[]⟩ 0),(109,j a2.At),(111,af a2.Name)]) (G4:=λv=>[(112,.cC []),(0,.obj [.lit v,ak bb c3.aq.bx,ak bI c3.aq.aX,af c3.aq.bB,af c3.aq.bE,ak bJ c3.b4,ak bb c3.b2,ak cA c3.bG,j c3.b7,j c3.cd,af c3.cb,j c3.b0,j c3.bD]),(4,.obj (cO.cells ay)),(5,.obj (du.cells a2)),(7,j bZ.1)]) (c4:=λv=>[.lit v,ak bb c3.aq.bx,ak bI c3.aq.aX,af c3.aq.bB,af c3.aq.bE,ak bJ c3.b4,ak bb c3.b2,ak cA c3.bG,j c3.b7,j c3.cd,af c3.cb,j c3.b0,j c3.bD]) (G5:=[(112,.cC []),(0,.obj [ak bt fa.aq.a6,ak bb c3.aq.bx,ak bI c3.aq.aX,af c3.aq.bB,af c3.aq.bE,ak bJ c3.b4,ak bb c3.b2,ak cA c3.bG,j c3.b7,j c3.cd,af c3.cb,j c3.b0,j c3.bD]),(4,.obj (cO.cells ay)),(5,.obj (du.cells a2)),(7,j bZ.1)]) (A:=[(8,.ptr ⟨0,[0]⟩ (bZ.1.toNat * bt.z+0))]) q q q q (λv=>(.b q (.n q q (.n q q (.n q q (.p q q q q q q (.n q q (.n q q .nil)))))))) (λv=>hV.nC (G2:=[(4,.obj (cO.cells ay)),(5,.obj (du.cells a2)),(7,j bZ.1)]) (A:=[]) (ys:=[.ptr ⟨0,[]⟩ 0,j a2.At,af a2.Name]) (args:=[.obj [.lit v,ak bb fa.aq.bx,ak bI fa.aq.aX,af fa.aq.bB,af fa.aq.bE,ak bJ fa.b4,ak bb fa.b2,ak cA fa.bG,j fa.b7,j fa.cd,af fa.cb,j fa.b0,j fa.bD],j a2.At,af a2.Name]) (cs':=[.lit v,ak bb c3.aq.bx,ak bI c3.aq.aX,af c3.aq.bB,af c3.aq.bE,ak bJ c3.b4,ak bb c3.b2,ak cA c3.bG,j c3.b7,j c3.cd,af c3.cb,j c3.b0,j c3.bD]) (k0:=0) q q q q (.b q (.n q (.n q .nil))) q (Fa v fa a2.At a2.Name _ vW) call94 (dF q q q) q q (dF q q q) .nil q) (λv=>q) (λv=>q) (λv=>q) (λv=>(.n q q (.b q (.n q q (.n q q (.n q q .nil)))))) q (.c (en:=bt) (L:=fa.aq.a6) q q kc q q q .nil))<|nK (.n q (.n q (.n q (.n q (.r q (e3.el (en:=bt) q kc q) j3 .nil)))))) ?_;obtain rfl:=ax h;exact ah.bH (.n q (.n q (.n q (.n q (.r q (e3.el (en:=bt) q kc q) j3 .nil)))))
     ·refine W.bM ?_;obtain rfl:=ax h;exact ah.bH (.n q (.n q (.n q (.n q (.r q (e3.el (en:=bt) q kc q) j3 .nil)))))
    obtain ⟨eR,l_,h⟩:=aB h;refine ah.a1<|W.rs [(0,_),(4,_),(5,_),(7,_),(8,.ptr ⟨0,[0]⟩ (bZ.1.toNat * bt.z+0))] (ai (O.aA (.ptr q))<|ai (O.bm q (.obj q) vF q)<|ai (O.cG q (.ptr q) cv q)<|ai (O.e0 (.ptr q))<|ai (O.kk (en:=bt) q (.ptr q) zK l_ q q)<|av.hJ (G2:=[(0,.obj [ak bt (ej.aq.a6.set bZ.1.toNat (⟨eR.Name,eR.Lit,a2.c9,eR.Level,eR.eC,eR.Tag⟩:bC)),ak bb ej.aq.bx,ak bI ej.aq.aX,af ej.aq.bB,af ej.aq.bE,ak bJ ej.b4,ak bb ej.b2,ak cA ej.bG,j ej.b7,j ej.cd,af ej.cb,j ej.b0,j ej.bD]),(4,.obj (cO.cells ay)),(5,.obj (du.cells a2)),(7,j bZ.1),(8,.ptr ⟨0,[0]⟩ (bZ.1.toNat * bt.z+0))]) q (cq.pR (en:=bt) (y2:=(⟨eR.Name,eR.Lit,a2.c9,eR.Level,eR.eC,eR.Tag⟩:bC)) (cs':=[j a2.c9]) (x2:=.obj [ak bt (ej.aq.a6.set bZ.1.toNat (⟨eR.Name,eR.Lit,a2.c9,eR.Level,eR.eC,eR.Tag⟩:bC)),ak bb ej.aq.bx,ak bI ej.aq.aX,af ej.aq.bB,af ej.aq.bE,ak bJ ej.b4,ak bb ej.b2,ak cA ej.bG,j ej.b7,j ej.cd,af ej.cb,j ej.b0,j ej.bD]) q q (.ptr q) (.lit q) q l_ nH q q q q q q q (.b q (.n q q (.n q q (.n q q (.e q q (.mk (en:=bt) q l_ q (nB l_) q) q .nil))))))<|nK (.n q (.n q (.n q (.n q (.r q (e3.el (en:=bt) q (nB l_) q) j3 .nil)))))) ?_;obtain ⟨hU,n2,h⟩:=aB h;refine W.rx [(0,_),(4,_),(5,_),(8,.ptr ⟨0,[0]⟩ (bZ.1.toNat * bt.z+0))] (ai (O.aA (.obj q))<|ai (O.e0 (.ptr q))<|ai (O.bm q (.ptr q) xQ q)<|ai (O.c' (y:=.bo bJ.z ⟨0,[5]⟩ ej.b4.length) q (.ptr q) zr q q)<|bu q<|ai (O.g_ (en:=bJ) q (.bo q) (.lit q) oS n2 q)<|av.hJ (G2:=[(0,.obj [ak bt (ej.aq.a6.set bZ.1.toNat (⟨eR.Name,eR.Lit,a2.c9,eR.Level,eR.eC,eR.Tag⟩:bC)),ak bb ej.aq.bx,ak bI ej.aq.aX,af ej.aq.bB,af ej.aq.bE,ak bJ (ej.b4.set bZ.1.toNat true),ak bb ej.b2,ak cA ej.bG,j ej.b7,j ej.cd,af ej.cb,j ej.b0,j ej.bD]),(4,.obj (cO.cells ay)),(5,.obj (du.cells a2)),(8,.ptr ⟨0,[0]⟩ (bZ.1.toNat * bt.z+0))]) q (cq.pR (en:=bJ) (y2:=true) (cs':=[a' true]) (x2:=.obj [ak bt (ej.aq.a6.set bZ.1.toNat (⟨eR.Name,eR.Lit,a2.c9,eR.Level,eR.eC,eR.Tag⟩:bC)),ak bb ej.aq.bx,ak bI ej.aq.aX,af ej.aq.bB,af ej.aq.bE,ak bJ (ej.b4.set bZ.1.toNat true),ak bb ej.b2,ak cA ej.bG,j ej.b7,j ej.cd,af ej.cb,j ej.b0,j ej.bD]) q q (.ptr q) (.k q) q n2 u3 q q q q q q q (.b q (.n q q (.n q q (.e q q (.mk (en:=bt) q (nB l_) q (nB l_) q) q .nil)))))<|nK (.n q (.n q (.n q (.r q (e3.el (en:=bt) q (nB l_) q) j3 .nil))))) ?_;obtain rfl:=ax h;exact ah.bH (.n q (.n q (.n q (.r q (e3.el (en:=bt) q (nB l_) q) j3 .nil))))
   ·refine W.bM ?_;obtain rfl:=ax h;exact ah.bH (.n q (.n q (.n q (.r q (e3.el (en:=bt) q kc q) j3 .nil))))
  obtain ⟨iL,n3,h⟩:=aB h;refine ah.a1<|W.rs [(0,_),(4,_),(5,_),(8,.ptr ⟨0,[0]⟩ (bZ.1.toNat * bt.z+0)),(126,_)] (ai (O.bm q (.obj q) nU q)<|ai (O.cG q (.ptr q) e4 q)<|ai (O.mc (.lit q) (.k q))<|nK (.n q (.n q (.n q (.r q (e3.el (en:=bt) q n3 q) j3 (.n q .nil)))))) ?_;obtain ⟨oM,aa,h⟩:=aB h;refine W.bH [(0,.obj (ea.cells oM))] ?_ ?_
  ·clear h; have h:=aa; clear aa;refine W.bF h q (λkE h=>?_) (λkE h=>?_)
   ·refine W.a8<|W.a8 ?_;obtain ⟨qN,aa,h⟩:=aB h;refine W.rd [[],[0],[0,1],[0,1,2],[0,1,2,3],aH 0 5 [],aH 0 6 [],aH 0 7 [],aH 0 8 [],aH 0 9 [],aH 0 6 [],aH 0 6 [10],aH 0 12 [],aH 0 13 []] [(0,.obj (ea.cells fH)),(4,.obj (cO.cells ay)),(5,.obj (du.cells a2)),(8,.ptr ⟨0,[0]⟩ (bZ.1.toNat * bt.z+0)),(140,a' qN)] eM (by kernel_rfl) ?_ ?_
    ·refine ar 0 (O.aA (.ptr q))<|ar 1 (O.e0 (.ptr q))<|ar 2 (O.kk (en:=bt) q (.ptr q) CI n3 q q)<|ar 3 (O.jh (en:=bt) (x':=af iL.Tag) q (.ptr q) e4 n3 q q)<|ar 4 (O.mc (.lit q) (.k q))<|ar 5 (O.aA (.lit q)) ?_;rcases cB aa with ⟨fK,aa⟩ | ⟨fK,aa⟩
     ·obtain rfl:=ax aa;exact bg 6 fK (O.aA (.ptr q))<|bg 7 fK (O.e0 (.ptr q))<|bg 8 fK (O.kk (en:=bt) q (.ptr q) CI n3 q q)<|bg 9 fK (O.jh (en:=bt) (x':=af iL.Tag) q (.ptr q) e4 n3 q q)<|bg 10 fK (O.bm q (.obj q) nU q)<|bg 11 fK (O.cG q (.ptr q) e4 q)<|bg 12 fK (O.mc (.lit q) (.lit q))<|ar 13 (O.dx (.lit q) fK (.lit q))<|bN.fin q q q (.n q (.n q (.n q (.r q (e3.el (en:=bt) q n3 q) j3 (.n q .nil)))))
     ·obtain rfl:=ax aa;exact aD 6 fK<|aD 7 fK<|aD 8 fK<|aD 9 fK<|aD 10 fK<|aD 11 fK<|aD 12 fK<|ar 13 (O.cy (.lit q) fK (.k q))<|bN.fin q q q (.n q (.n q (.n q (.r q (e3.el (en:=bt) q n3 q) j3 (.n q .nil)))))
    refine ah.a1 ?_;obtain ⟨gy,aa,h⟩:=aB h;refine W.bH [(0,.obj (ea.cells gy)),(4,.obj (cO.cells ay)),(8,.ptr ⟨0,[0]⟩ (bZ.1.toNat * bt.z+0))] ?_ ?_
    ·clear h; have h:=aa; clear aa;refine W.bF h q (λjZ h=>?_) (λjZ h=>?_)
     ·obtain ⟨cP,r8,h⟩:=aB h;refine W.rx [(0,_),(4,_),(8,.ptr ⟨0,[0]⟩ (bZ.1.toNat * bt.z+0))] (ai (O.aA (.obj q))<|ai (O.bm q (.obj q) rX q)<|ai (O.cG q (.ptr q) cv q)<|ai (O.bm q (.obj q) kB q)<|ai (O.cG q (.ptr q) e4 q)<|av.hJ (G2:=[(8,.ptr ⟨0,[0]⟩ (bZ.1.toNat * bt.z+0))]++[(146,.cC []),(0,.obj [ak bt fH.aq.a6,ak bb cP.aq.bx,ak bI cP.aq.aX,af cP.aq.bB,af cP.aq.bE,ak bJ cP.b4,ak bb cP.b2,ak cA cP.bG,j cP.b7,j cP.cd,af cP.cb,j cP.b0,j cP.bD]),(4,.obj (cO.cells ay))]) q (cq.fF (r:=0) (k0:=0) (y:=ak bt fH.aq.a6) (cs5:=[ak bt fH.aq.a6,ak bb cP.aq.bx,ak bI cP.aq.aX,af cP.aq.bB,af cP.aq.bE,ak bJ cP.b4,ak bb cP.b2,ak cA cP.bG,j cP.b7,j cP.cd,af cP.cb,j cP.b0,j cP.bD]) (G1:=λv=>[(0,.obj [.lit v,ak bb fH.aq.bx,ak bI fH.aq.aX,af fH.aq.bB,af fH.aq.bE,ak bJ fH.b4,ak bb fH.b2,ak cA fH.bG,j fH.b7,j fH.cd,af fH.cb,j fH.b0,j fH.bD]),(4,.obj (cO.cells ay)),(141,.ptr ⟨0,[]⟩ 0),(143,j a2.At),(145,af a2.Name)]) (G4:=λv=>[(146,.cC []),(0,.obj [.lit v,ak bb cP.aq.bx,ak bI cP.aq.aX,af cP.aq.bB,af cP.aq.bE,ak bJ cP.b4,ak bb cP.b2,ak cA cP.bG,j cP.b7,j cP.cd,af cP.cb,j cP.b0,j cP.bD]),(4,.obj (cO.cells ay))]) (c4:=λv=>[.lit v,ak bb cP.aq.bx,ak bI cP.aq.aX,af cP.aq.bB,af cP.aq.bE,ak bJ cP.b4,ak bb cP.b2,ak cA cP.bG,j cP.b7,j cP.cd,af cP.cb,j cP.b0,j cP.bD]) (G5:=[(146,.cC []),(0,.obj [ak bt fH.aq.a6,ak bb cP.aq.bx,ak bI cP.aq.aX,af cP.aq.bB,af cP.aq.bE,ak bJ cP.b4,ak bb cP.b2,ak cA cP.bG,j cP.b7,j cP.cd,af cP.cb,j cP.b0,j cP.bD]),(4,.obj (cO.cells ay))]) (A:=[(8,.ptr ⟨0,[0]⟩ (bZ.1.toNat * bt.z+0))]) q q q q (λv=>(.b q (.n q q (.p q q q q q q (.n q q (.n q q .nil)))))) (λv=>hV.nC (G2:=[(4,.obj (cO.cells ay))]) (A:=[]) (ys:=[.ptr ⟨0,[]⟩ 0,j a2.At,af a2.Name]) (args:=[.obj [.lit v,ak bb fH.aq.bx,ak bI fH.aq.aX,af fH.aq.bB,af fH.aq.bE,ak bJ fH.b4,ak bb fH.b2,ak cA fH.bG,j fH.b7,j fH.cd,af fH.cb,j fH.b0,j fH.bD],j a2.At,af a2.Name]) (cs':=[.lit v,ak bb cP.aq.bx,ak bI cP.aq.aX,af cP.aq.bB,af cP.aq.bE,ak bJ cP.b4,ak bb cP.b2,ak cA cP.bG,j cP.b7,j cP.cd,af cP.cb,j cP.b0,j cP.bD]) (k0:=0) q q q q (.b q (.n q (.n q .nil))) q (Fa v fH a2.At a2.Name _ r8) call94 (.n q .nil) q q (.n q .nil) .nil q) (λv=>q) (λv=>q) (λv=>q) (λv=>(.n q q (.b q (.n q q .nil)))) q (.c (en:=bt) (L:=fH.aq.a6) q q n3 q q q .nil))<|nK (.n q (.n q (.r q (e3.el (en:=bt) q n3 q) j3 .nil)))) ?_;obtain rfl:=ax h;exact ah.bH (.n q (.n q (.r q (e3.el (en:=bt) q n3 q) j3 .nil)))
     ·refine W.bM ?_;obtain rfl:=ax h;exact ah.bH (.n q (.n q (.r q (e3.el (en:=bt) q n3 q) j3 .nil)))
    obtain ⟨h5,r9,h⟩:=aB h;refine ah.a1<|W.bq [0] (ai (O.aA (.ptr q))<|ai (O.bm q (.obj q) nU q)<|ai (O.cG q (.ptr q) e4 q)<|ai (O.e0 (.ptr q))<|ai (O.kk (en:=bt) q (.ptr q) CI r9 q q)<|av.hJ (G2:=[(0,.obj [ak bt (gy.aq.a6.set bZ.1.toNat (⟨h5.Name,h5.Lit,h5.c9,h5.Level,h5.eC,ay.Tag⟩:bC)),ak bb gy.aq.bx,ak bI gy.aq.aX,af gy.aq.bB,af gy.aq.bE,ak bJ gy.b4,ak bb gy.b2,ak cA gy.bG,j gy.b7,j gy.cd,af gy.cb,j gy.b0,j gy.bD])]) q (cq.pR (en:=bt) (y2:=(⟨h5.Name,h5.Lit,h5.c9,h5.Level,h5.eC,ay.Tag⟩:bC)) (cs':=[af ay.Tag]) (x2:=.obj [ak bt (gy.aq.a6.set bZ.1.toNat (⟨h5.Name,h5.Lit,h5.c9,h5.Level,h5.eC,ay.Tag⟩:bC)),ak bb gy.aq.bx,ak bI gy.aq.aX,af gy.aq.bB,af gy.aq.bE,ak bJ gy.b4,ak bb gy.b2,ak cA gy.bG,j gy.b7,j gy.cd,af gy.cb,j gy.b0,j gy.bD]) q q (.ptr q) (.lit q) q r9 w6 q q q q q q q (.b q .nil))<|b3 q) ?_;obtain rfl:=ax h;exact ah.bH (.n q .nil)
   ·refine W.bM ?_;obtain rfl:=ax h;exact ah.bH (.n q .nil)
  obtain rfl:=ax h;exact ah.fin (Fin.ro .nil q (oQ (by kernel_rfl)) (.au q q (.no (.no .nil))) q (.inl q))
theorem xJ (a0:cR) (ay:ByteArray) (r:Int) (h:qs a0 ay=some r):cc Try.prog 96 [.bk ([aj bt a0.aq.a6,aj bb a0.aq.bx,aj bI a0.aq.aX,af a0.aq.bB,af a0.aq.bE,aj bJ a0.b4,aj bb a0.b2,aj cA a0.bG,j a0.b7,j a0.cd,af a0.cb,j a0.b0,j a0.bD]),af ay] [none,none] (j r):=by
 unfold qs at h;refine cc.go (N:=⟨25,[]⟩) Try.func96 q q q q (W.fin ?_);refine W.st [(0,.bk ([aj bt a0.aq.a6,aj bb a0.aq.bx,aj bI a0.aq.aX,af a0.aq.bB,af a0.aq.bE,aj bJ a0.b4,aj bb a0.b2,aj cA a0.bG,j a0.b7,j a0.cd,af a0.cb,j a0.b0,j a0.bD])),(1,af ay)] ?_;refine W.aY [0,1] ?_;refine W.a8<|W.aY [0,1,5] ?_;refine W.bp ?_;obtain ⟨x2,ao,h⟩:=aB h;refine W.ck (G1:=[(0,_),(1,_),(5,_)]) (dF q q q) ?_;refine W.jz (s:=0) (λ(s1:Int)=>[(0,.bk ([aj bt a0.aq.a6,aj bb a0.aq.bx,aj bI a0.aq.aX,af a0.aq.bB,af a0.aq.bE,aj bJ a0.b4,aj bb a0.b2,aj cA a0.bG,j a0.b7,j a0.cd,af a0.cb,j a0.b0,j a0.bD])),(1,af ay),(5,j s1)]) 0 (λ(aZ:Unit)=>[]) (λ(bs:Int)=>[(4,j bs)]) ao (λs1 o h=>?_) (λaZ J=>?_) (λbs J=>?_)
 ·clear ao;refine W.a8<|W.aY [0,1,5,12] ?_;refine W.bF h q (λdO h=>?_) (λdO h=>?_)
  ·refine W.bM<|ah.a1 ?_;refine W.a8<|W.bp ?_;obtain ⟨br,fO,h⟩:=aB h;refine W.aY [0,1,5,23] ?_;refine W.bF h q (λcZ h=>?_) (λcZ h=>?_)
   ·refine W.aY [4] ?_;refine W.rt ?_;refine ah.dL ?_;refine ah.c0 ?_;obtain rfl:=ax h;exact ah.fY (.n q .nil)
   ·refine W.bM<|ah.bp ?_;refine ah.a1<|W.bq [0,1,5] (bu q<|ai (O.add (.lit q) (.k q))<|av.bq [0,1,14] q<|av.aV) ?_;obtain rfl:=ax h;exact ah.go (dF q q q)
  ·refine W.de ?_;refine ah.dd ?_;obtain rfl:=ax h;exact ah.x2 .nil
 ·subst J;refine ah.df ?_;refine ah.a1<|W.aY [4] ?_;refine W.rt ?_;obtain rfl:=ax h;exact cE (.f q q .nil)
 ·subst J;refine ah.dL ?_;refine ah.c0 ?_;obtain rfl:=ax h;exact cE (.f q q .nil)
theorem J8 (a0:cR) (ay:Sym) (r:Int × cR) (h:sc a0 ay=some r):cc Try.prog 115 [.obj (ea.cells a0),.agg (du.cells ay)] [some (.obj [ak bt r.2.aq.a6,ak bb r.2.aq.bx,ak bI r.2.aq.aX,af r.2.aq.bB,af r.2.aq.bE,ak bJ r.2.b4,ak bb r.2.b2,ak cA r.2.bG,j r.2.b7,j r.2.cd,af r.2.cb,j r.2.b0,j r.2.bD]),none] (j r.1):=by
 unfold sc at h;refine cc.go (N:=⟨32,[0]⟩) Try.func115 q q q q (W.fin ?_);refine W.st [(0,.obj (ea.cells a0)),(1,.agg (du.cells ay))] ?_;refine W.bP [0,3] (ai (O.box (.cm q q) q)<|av.aV) ?_;refine W.a8<|W.aY [0,3,8] ?_;refine W.bF h q (λdw h=>?_) (λdw h=>?_)
 ·obtain ⟨x2,hD,h⟩:=aB h;refine W.bP [0,4] (ai (O.aA (.obj q))<|ai (O.d_ (cs':=[af ay.Name,a' ay.Lit,j ay.c9,j ay.At]) q (.obj q) lj q q)<|av.hJ q (cq.call q q (hV.nC (G2:=[]) (A:=[]) (ys:=[.ptr ⟨0,[]⟩ 0,.agg (du.cells ay)]) (args:=[.obj (ea.cells a0),.agg (du.cells ay)]) (cs':=[ak bt x2.2.aq.a6,ak bb x2.2.aq.bx,ak bI x2.2.aq.aX,af x2.2.aq.bB,af x2.2.aq.bE,ak bJ x2.2.b4,ak bb x2.2.b2,ak cA x2.2.bG,j x2.2.b7,j x2.2.cd,af x2.2.cb,j x2.2.b0,j x2.2.bD]) (k0:=0) q q q q (.b q (.n q .nil)) q (J6 a0 ay _ hD) call113 .nil q q .nil .nil q))<|av.aV) ?_;refine W.rt ?_;refine ah.c0 ?_;obtain rfl:=ax h;exact ah.fin (Fin.ro (.f q q .nil) q (oQ (by kernel_rfl)) (.au q q (.no .nil)) q (.inr q))
 ·refine W.bM<|ah.a1 ?_;refine W.a8 ?_;obtain ⟨aZ,hE,h⟩:=aB h;refine W.bP [0,3,5] (ai (O.aA (.obj q))<|ai (O.bm q (.obj q) kB q)<|ai (O.cG q (.ptr q) e4 q)<|dJ (cu.vw (ys:=[.ptr ⟨0,[]⟩ 0,af ay.Name]) q (.c (View.ob q q) (.s .nil)) (xJ a0 ay.Name _ hE) call96 q)<|av.aV) ?_;refine W.aY [0,3,5,17] ?_;refine W.bF h q (λdq h=>?_) (λdq h=>?_)
  ·refine W.aY [0,4] ?_;refine W.rt ?_;refine ah.c0 ?_;obtain rfl:=ax h;exact ah.fin (Fin.ro (.f q q .nil) q (oQ (by kernel_rfl)) (.au q q (.no .nil)) q (.inr q))
  ·refine W.bM<|ah.a1 ?_;obtain ⟨cn,k5,h⟩:=aB h;refine W.bP [0,3,6] (ai (O.aA (.obj q))<|ai (O.d_ (cs':=[af ay.Name,a' ay.Lit,j ay.c9,j ay.At]) q (.obj q) lj q q)<|dJ (cu.vw (ys:=[.ptr ⟨0,[]⟩ 0,.agg (du.cells ay)]) q (.c (View.ob q q) (.c (.sx (.s (.s (.s (.s .nil))))) .nil)) (E_ a0 ay _ k5) call95 q)<|av.aV) ?_;refine W.a8<|W.aY [0,3,6,24] ?_;refine W.bF h q (λdV h=>?_) (λdV h=>?_)
   ·obtain ⟨bj,gu,h⟩:=aB h;refine W.bP [0] (ai (O.aA (.obj q))<|ai (O.bm q (.obj q) rX q)<|ai (O.cG q (.ptr q) cv q)<|ai (O.bm q (.obj q) kB q)<|ai (O.cG q (.ptr q) e4 q)<|av.hJ q (cq.call q q (hV.nC (G2:=[]) (A:=[]) (ys:=[.ptr ⟨0,[]⟩ 0,j ay.At,af ay.Name]) (args:=[.obj (ea.cells a0),j ay.At,af ay.Name]) (cs':=[ak bt bj.aq.a6,ak bb bj.aq.bx,ak bI bj.aq.aX,af bj.aq.bB,af bj.aq.bE,ak bJ bj.b4,ak bb bj.b2,ak cA bj.bG,j bj.b7,j bj.cd,af bj.cb,j bj.b0,j bj.bD]) (k0:=0) q q q q (.b q (.n q (.n q .nil))) q (vq a0 ay.At ay.Name _ gu) call94 .nil q q .nil .nil q))<|b3 q) ?_;refine W.aY [0,4] ?_;refine W.rt ?_;refine ah.c0 ?_;obtain rfl:=ax h;exact ah.fin (Fin.ro (.f q q .nil) q (oQ (by kernel_rfl)) (.au q q (.no .nil)) q (.inr q))
   ·refine W.bM<|ah.a1 ?_;refine W.aY [0,4] ?_;refine W.rt ?_;obtain rfl:=ax h;exact ah.fin (Fin.ro (.f q q .nil) q (oQ (by kernel_rfl)) (.au q q (.no .nil)) q (.inr q))
theorem Ql (a0:cR) (ay:ByteArray) (a2:Alt) (r:cR) (h:wR a0 ay a2=some r):cc Try.prog 97 [.obj (ea.cells a0),af ay,.agg (ef.cells a2)] [some (.obj [ak bt r.aq.a6,ak bb r.aq.bx,ak bI r.aq.aX,af r.aq.bB,af r.aq.bE,ak bJ r.b4,ak bb r.b2,ak cA r.bG,j r.b7,j r.cd,af r.cb,j r.b0,j r.bD]),none,none] (.cC []):=by
 unfold wR at h;refine cc.go (N:=⟨173,[0]⟩) Try.func97 q q q q (W.fin ?_);refine W.st [(0,.obj (ea.cells a0)),(1,af ay),(2,.agg (ef.cells a2))] ?_;refine W.bP [0,1,5] (ai (O.box (.cm q q) q)<|b3 q) ?_;refine W.a8 ?_;obtain ⟨aI,fk,h⟩:=aB h;refine W.rd [[],[],[0,1],[0,1,2],[],[4],aH 0 6 [],[],aH 0 8 []] [(0,_),(5,_),(6,_)] eM (by kernel_rfl) (ar 0 (O.aA (.obj q))<|ar 1 (O.aA (.lit q))<|iU 2 (cu.vw (ys:=[.ptr ⟨0,[]⟩ 0,af ay]) q (.c (View.ob q q) (.s .nil)) (xJ a0 ay _ fk) call96 q)<|ar 3 (O.add (.k q) (.lit q))<|ar 4 (O.bm q (.obj q) KO q)<|ar 5 (O.cG q (.ptr q) cv q)<|ar 6 (O.e7 (cs:=[j (aO (1+aI)),.aN,j (-1),af aC,.aN,j a2.At]) Ik BL q q q)<|ar 7 (O.fI (cs:=[j 0,.aN,j 0,af aC,.aN,j 0]) BL q q)<|bN.dR 8 (G2:=[(0,.obj (ea.cells a0)),(5,.obj (ef.cells a2)),(6,.obj [j (aO (1+aI)),.aN,j (-1),af aC,.aN,j a2.At])]) (cs2:=[j (aO (1+aI)),.aN,j (-1),af aC,.aN,j a2.At]) q (by kernel_rfl) (by kernel_rfl) q q q (.obj q) (.cm q q) q NN q q q q (.n q q (.n q q (.b q .nil)))<|bN.fin q q q (dF q q q)) ?_;refine ah.a1<|W.a8 ?_;refine W.aY [0,5,6,7] ?_;refine W.bp ?_;obtain ⟨aZ,ao,h⟩:=aB h;refine W.ck (G1:=[(0,_),(5,_),(6,.obj [j (aO (1+aI)),ak aM ([]:List Int),j (-1),af aC,.aN,j a2.At]),(7,_)]) (.n q (.n q (.w q q (lh.obj (.f (.o (.f (.f (.f (.f .nil))))))) (.n q .nil)))) ?_;refine W.eZ (s:=(a0,([]:List Int),aC,a2.At,0)) (λ(s2:cR × List Int × ByteArray × Int × Int)=>[(0,.obj (ea.cells s2.1)),(5,.obj (ef.cells a2)),(6,.obj [j (aO (1+aI)),ak aM s2.2.1,j (-1),af s2.2.2.1,.aN,j s2.2.2.2.1]),(7,j s2.2.2.2.2)]) 0 (λ(aZ:cR × List Int × ByteArray × Int)=>[(0,.obj (ea.cells aZ.1)),(5,.obj (ef.cells a2)),(6,.obj [j (aO (1+aI)),ak aM aZ.2.1,j (-1),af aZ.2.2.1,.aN,j aZ.2.2.2])]) ao (λs2 o h=>?_) ?_
 ·clear ao;refine W.a8<|W.aY [0,5,6,7,21] ?_;refine W.bF h q (λdO h=>?_) (λdO h=>?_)
  ·refine W.bM<|ah.a1 ?_;refine W.a8 ?_;obtain ⟨jg,aa,h⟩:=aB h;refine W.bH [(0,.obj (ea.cells jg.1)),(5,.obj (ef.cells a2)),(6,.obj [j (aO (1+aI)),ak aM jg.2.1,j (-1),af jg.2.2.1,.aN,j jg.2.2.2]),(7,j s2.2.2.2.2)] ?_ ?_
   ·clear h; have h:=aa; clear aa;refine W.bp ?_;obtain ⟨bj,gu,h⟩:=aB h;refine W.bP [0,5,6,7,8] (ai (O.bm q (.obj q) sM q)<|ai (O.c' (y:=aj fp a2.jJ) q (.ptr q) xM q q)<|bu q<|ai (O.cx (.aF q) (.lit q) tr gu)<|ai (O.jy (cs':=[af bj.Sym.Name,a' bj.Sym.Lit,j bj.Sym.c9,j bj.Sym.At,af bj.Code,j bj.At]) (.bk q) Cb q q)<|ai (O.fI (cs:=[af aC,a' false,j 0,j 0,af aC,j 0]) sl q q)<|av.dR (G2:=[(0,_),(5,_),(6,_),(7,_),(8,_)]) (cs2:=[af bj.Sym.Name,a' bj.Sym.Lit,j bj.Sym.c9,j bj.Sym.At,af bj.Code,j bj.At]) q (.obj q) (.cm q q) q Ix q q q q (.n q q (.n q q (.n q q (.n q q (.b q .nil)))))<|b3 q) ?_;obtain ⟨j1,aa,h⟩:=aB h;refine W.bH [(0,.obj (ea.cells j1.1)),(5,.obj (ef.cells a2)),(6,.obj [j (aO (1+aI)),ak aM j1.2.1,j (-1),af j1.2.2.1,.aN,j j1.2.2.2]),(7,j s2.2.2.2.2)] ?_ ?_
    ·clear h; have h:=aa; clear aa;refine W.bp<|W.aY [0,5,6,7,8,82] ?_;obtain ⟨pD,aa,h⟩:=aB h;refine W.bH [(0,.obj (ea.cells pD.1)),(5,.obj (ef.cells a2)),(6,.obj [j (aO (1+aI)),ak aM pD.2.1,j (-1),af pD.2.2.1,.aN,j pD.2.2.2]),(7,j s2.2.2.2.2)] ?_ ?_
     ·clear h; have h:=aa; clear aa;refine W.bF h q (λeN h=>?_) (λeN h=>?_)
      ·obtain ⟨ct,iA,h⟩:=aB h;obtain ⟨cM,kG,h⟩:=aB h;refine W.rd [[],[0],[],[],[3],[2,3,4],[2,3,4,5],aH 0 7 [],aH 0 8 [],aH 0 9 []] [(0,_),(5,_),(6,_),(7,_)] eM (by kernel_rfl) (ar 0 (O.bm q (.obj q) nc q)<|ar 1 (O.c' (y:=.bo aM.z ⟨6,[1]⟩ s2.2.1.length) q (.ptr q) gE q q)<|ar 2 (O.aA (.obj q))<|ar 3 (O.bm q (.obj q) zN q)<|ar 4 (O.d_ (cs':=[af bj.Sym.Name,a' bj.Sym.Lit,j bj.Sym.c9,j bj.Sym.At]) q (.ptr q) lj q q)<|bN.e7 5 (G2:=(6,.obj [j (aO (1+aI)),ak aM s2.2.1,j (-1),af s2.2.2.1,.aN,j s2.2.2.2.1])::[(91,j ct.1),(0,.obj [ak bt ct.2.aq.a6,ak bb ct.2.aq.bx,ak bI ct.2.aq.aX,af ct.2.aq.bB,af ct.2.aq.bE,ak bJ ct.2.b4,ak bb ct.2.b2,ak cA ct.2.bG,j ct.2.b7,j ct.2.cd,af ct.2.cb,j ct.2.b0,j ct.2.bD]),(5,.obj (ef.cells a2)),(7,j s2.2.2.2.2)]) (U:=[(1,87,some (.bo aM.z ⟨6,[1]⟩ s2.2.1.length)),(0,86,some (.ptr ⟨6,[]⟩ 1))]) (oZ.box (r:=6) (G1:=[(0,.obj (ea.cells s2.1)),(5,.obj (ef.cells a2)),(7,j s2.2.2.2.2),(88,.ptr ⟨0,[]⟩ 0),(90,.agg (du.cells bj.Sym))]) (G2:=[(91,j ct.1),(0,.obj [ak bt ct.2.aq.a6,ak bb ct.2.aq.bx,ak bI ct.2.aq.aX,af ct.2.aq.bB,af ct.2.aq.bE,ak bJ ct.2.b4,ak bb ct.2.b2,ak cA ct.2.bG,j ct.2.b7,j ct.2.cd,af ct.2.cb,j ct.2.b0,j ct.2.bD]),(5,.obj (ef.cells a2)),(7,j s2.2.2.2.2)]) (cq.call q q (hV.nC (G2:=[(5,.obj (ef.cells a2)),(7,j s2.2.2.2.2)]) (A:=[]) (ys:=[.ptr ⟨0,[]⟩ 0,.agg (du.cells bj.Sym)]) (args:=[.obj (ea.cells s2.1),.agg (du.cells bj.Sym)]) (cs':=[ak bt ct.2.aq.a6,ak bb ct.2.aq.bx,ak bI ct.2.aq.aX,af ct.2.aq.bB,af ct.2.aq.bE,ak bJ ct.2.b4,ak bb ct.2.b2,ak cA ct.2.bG,j ct.2.b7,j ct.2.cd,af ct.2.cb,j ct.2.b0,j ct.2.bD]) (k0:=0) q q q q (.b q (.n q .nil)) q (J8 s2.1 bj.Sym _ iA) call115 (ff q q) q q (ff q q) .nil q)) q (.n q (.n q (.n q (.q q q q (.n q .nil))))) q q q) q q (by kernel_rfl) q q q (.c (.inl ⟨6,[1],_,_,_,_,q,by simp [tj],q,q,Nat.le_refl _⟩) q q q q q (gD.wanted .none) (O.c' (y:=.bo aM.z ⟨6,[1]⟩ s2.2.1.length) q (.ptr q) gE q q) (.c (.inr (.inr (.inr (.inl ⟨6,_,_,q,q,jA q,by simp,_,q,jA q⟩)))) q q q q q (gD.wanted .none) (O.bm q (.obj q) nc q) .nil)) (by kernel_rfl)<|bN.gB 6 (x:=aj aM [ct.1]) (O.dM (ys:=[j ct.1]) aM [ct.1] eA q q q q q q nJ q q) q q q q .none<|ar 7 (O.ap (en:=aM) (r:=cM) (.bo q) q (.aF q) .i p5 q kG)<|ar 8 (O.bm q (.obj q) nc q)<|bN.jX 9 (G2:=[(0,.obj (ea.cells ct.2)),(5,.obj (ef.cells a2)),(6,.obj [j (aO (1+aI)),ak aM (s2.2.1++[ct.1]),j (-1),af s2.2.2.1,.aN,j s2.2.2.2.1]),(7,j s2.2.2.2.2)]) (cq.ml (g1:=_) (en:=aM) (M:=[ct.1]) (cs2:=[j (aO (1+aI)),ak aM (s2.2.1++[ct.1]),j (-1),af s2.2.2.1,.aN,j s2.2.2.2.1]) q q (.ptr q) (.b8 q) q q q .ly .hf q q w3 q q q q (.n q q (.n q q (.b q (.n q q .nil))))) q q q q (by kernel_rfl) (by kernel_rfl)<|bN.fin q q q (dT q q q q)) ?_;obtain rfl:=ax h;exact ah.bH (dT q q q q)
      ·refine W.aY [0,5,6,7,8,95] ?_;obtain ⟨jf,aa,h⟩:=aB h;refine W.bH [(0,.obj [ak bt s2.1.aq.a6,ak bb s2.1.aq.bx,ak bI jf.1,af s2.1.aq.bB,af s2.1.aq.bE,ak bJ s2.1.b4,ak bb s2.1.b2,ak cA s2.1.bG,j s2.1.b7,j s2.1.cd,af s2.1.cb,j s2.1.b0,j jf.2.1]),(5,.obj (ef.cells a2)),(6,.obj [j (aO (1+aI)),ak aM jf.2.2.1,j (-1),af jf.2.2.2.1,.aN,j jf.2.2.2.2]),(7,j s2.2.2.2.2)] ?_ ?_
       ·clear h; have h:=aa; clear aa;refine W.bF h q (λeD h=>?_) (λeD h=>?_)
        ·refine W.rd [[],[0],[],[2],[0,1],[0,1,4],aH 0 6 [],aH 0 7 []] [(0,_),(5,_),(6,_),(7,_)] eM (by kernel_rfl) (ar 0 (O.bm q (.obj q) rY q)<|ar 1 (O.cG q (.ptr q) e4 q)<|ar 2 (O.bm q (.obj q) CJ q)<|ar 3 (O.cG q (.ptr q) cv q)<|ar 4 (O.bm q (.obj q) KD q)<|bN.e7 5 (G2:=[(0,.obj (ea.cells s2.1)),(5,.obj (ef.cells a2)),(6,.obj [j (aO (1+aI)),ak aM s2.2.1,j (-1),af bj.Code,.aN,j s2.2.2.2.1]),(7,j s2.2.2.2.2),(8,.obj (fp.cells bj))]) (U:=[(3,105,some (j bj.At)),(2,104,some (.ptr ⟨8,[]⟩ 5))]) (mu.v (cq.ox (cq.dR (G2:=[(0,.obj (ea.cells s2.1)),(5,.obj (ef.cells a2)),(6,.obj [j (aO (1+aI)),ak aM s2.2.1,j (-1),af bj.Code,.aN,j s2.2.2.2.1]),(7,j s2.2.2.2.2),(8,.obj (fp.cells bj))]) (cs2:=[j (aO (1+aI)),ak aM s2.2.1,j (-1),af bj.Code,.aN,j s2.2.2.2.1]) q q q (.ptr q) (.lit q) q w6 q q q q (.n q q (.n q q (.b q (.n q q (.n q q .nil)))))))) q q (by kernel_rfl) q q q (.c (.inr (.inl ⟨_,q⟩)) q q q q q (gD.wanted .none) (O.cG q (.ptr q) cv q) (.c (.inr (.inr (.inr (.inl ⟨8,_,_,q,q,jA q,by simp,_,q,jA q⟩)))) q q q q q (gD.wanted .none) (O.bm q (.obj q) CJ q) .nil)) (by kernel_rfl)<|ar 6 (O.bm q (.obj q) KF q)<|bN.dR 7 (G2:=[(0,.obj (ea.cells s2.1)),(5,.obj (ef.cells a2)),(6,.obj [j (aO (1+aI)),ak aM s2.2.1,j (-1),af bj.Code,.aN,j bj.At]),(7,j s2.2.2.2.2)]) (cs2:=[j (aO (1+aI)),ak aM s2.2.1,j (-1),af bj.Code,.aN,j bj.At]) q (by kernel_rfl) (by kernel_rfl) q q q (.ptr q) (.lit q) q nH q q q q (.n q q (.n q q (.b q (.n q q .nil))))<|bN.fin q q q (dT q q q q)) ?_;obtain rfl:=ax h;exact ah.bH (dT q q q q)
        ·refine W.bP [0,5,6,7,8] (ai (O.aA (.obj q))<|ai (O.e0 (.ptr q))<|ai (O.bm q (.ptr q) zF q)<|ai (O.cG q (.ptr q) cv q)<|ai (O.add (.lit q) (.k q))<|ai (O.e0 (.ptr q))<|ai (O.bm q (.ptr q) zF q)<|av.dR (G2:=[(0,_),(5,_),(6,_),(7,_),(8,_)]) (cs2:=[ak bt s2.1.aq.a6,ak bb s2.1.aq.bx,ak bI s2.1.aq.aX,af s2.1.aq.bB,af s2.1.aq.bE,ak bJ s2.1.b4,ak bb s2.1.b2,ak cA s2.1.bG,j s2.1.b7,j s2.1.cd,af s2.1.cb,j s2.1.b0,j (aO (s2.1.bD+1))]) q (.ptr q) (.lit q) q nH q q q q (.b q (.n q q (.n q q (.n q q (.n q q .nil)))))<|b3 q) ?_;refine W.a8 ?_;obtain ⟨dk,ia,h⟩:=aB h;obtain ⟨cr,lI,h⟩:=aB h;refine W.rd [[],[],[1],[1,2],[1,2,3],[1,2,3,4],[],[6],[6,7],[6,7,8],[6,7,8,9],[],[11],[11,12],[11,12,13],aH 6 9 [],[],[16],[],[],[19],[18,19,20],[],[22],aH 6 18 [],aH 6 19 [],aH 1 25 [],aH 0 27 [],aH 0 28 [],aH 0 29 [],aH 0 30 []] [(0,_),(5,_),(6,_),(7,_)] eM (by kernel_rfl) (ar 0 (O.aA (.obj q))<|ar 1 (O.aA (.obj q))<|ar 2 (O.e0 (.ptr q))<|ar 3 (O.bm q (.ptr q) kl q)<|ar 4 (O.bm q (.ptr q) my q)<|ar 5 (O.c' (y:=.bo bI.z ⟨0,[2]⟩ s2.1.aq.aX.length) q (.ptr q) nS q q)<|ar 6 (O.aA (.obj q))<|ar 7 (O.e0 (.ptr q))<|ar 8 (O.bm q (.ptr q) xR q)<|ar 9 (O.c' (y:=.bo cA.z ⟨0,[7]⟩ s2.1.bG.length) q (.ptr q) zs q q)<|ar 10 (O.pH (.bo q) By)<|ar 11 (O.aA (.obj q))<|ar 12 (O.e0 (.ptr q))<|ar 13 (O.bm q (.ptr q) zF q)<|ar 14 (O.cG q (.ptr q) cv q)<|ar 15 (O.add (.lit q) (.lit q))<|ar 16 (O.bm q (.obj q) rY q)<|ar 17 (O.cG q (.ptr q) e4 q)<|ar 18 (O.dM (ys:=[]) aM ([]:List Int) eA q q q q q q nJ q q)<|ar 19 (O.bm q (.obj q) nc q)<|ar 20 (O.c' (y:=.bo aM.z ⟨6,[1]⟩ s2.2.1.length) q (.ptr q) gE q q)<|ar 21 (O.ap (en:=aM) (r:=dk) (.own q) q (.bo q) (.flat aM q) p5 q ia)<|ar 22 (O.bm q (.obj q) CJ q)<|ar 23 (O.cG q (.ptr q) cv q)<|ar 24 (O.e7 (cs:=[j (aO ((s2.1.bG.length:Int)+(aO (s2.1.bD+1)))),.aN,j (-1),af bj.Code,.bo aM.z ⟨57,[]⟩ (([]:List Int).length+s2.2.1.length),j bj.At]) Ik BL q q q)<|ar 25 (O.o' (ys:=[.agg [j (aO ((s2.1.bG.length:Int)+(aO (s2.1.bD+1)))),.aN,j (-1),af bj.Code,.bo aM.z ⟨57,[]⟩ (([]:List Int).length+s2.2.1.length),j bj.At]]) (cs:=[j (aO ((s2.1.bG.length:Int)+(aO (s2.1.bD+1)))),.aN,j (-1),af bj.Code,.bo aM.z ⟨57,[]⟩ (([]:List Int).length+s2.2.1.length),j bj.At]) nG q q q q q IY q q)<|ar 26 (O.ON (en:=bI) (M:=[(⟨aO ((s2.1.bG.length:Int)+(aO (s2.1.bD+1))),([]:List Int),(-1),bj.Code,([]:List Int)++s2.2.1,bj.At⟩:Prod)]) (r:=cr) (.bo q) q (.own q) q q q q Jr q lI (Um (by kernel_rfl) (by kernel_rfl)))<|ar 27 (O.e0 (.ptr q))<|ar 28 (O.bm q (.ptr q) kl q)<|ar 29 (O.bm q (.ptr q) my q)<|bN.jX 30 (G2:=[(0,.obj [ak bt s2.1.aq.a6,ak bb s2.1.aq.bx,ak bI (s2.1.aq.aX++[(⟨aO ((s2.1.bG.length:Int)+(aO (s2.1.bD+1))),([]:List Int),(-1),bj.Code,([]:List Int)++s2.2.1,bj.At⟩:Prod)]),af s2.1.aq.bB,af s2.1.aq.bE,ak bJ s2.1.b4,ak bb s2.1.b2,ak cA s2.1.bG,j s2.1.b7,j s2.1.cd,af s2.1.cb,j s2.1.b0,j (aO (s2.1.bD+1))]),(5,.obj (ef.cells a2)),(6,.obj [j (aO (1+aI)),ak aM s2.2.1,j (-1),af s2.2.2.1,.aN,j s2.2.2.2.1]),(7,j s2.2.2.2.2)]) (cq.ml (g1:=_) (en:=bI) (M:=[(⟨aO ((s2.1.bG.length:Int)+(aO (s2.1.bD+1))),([]:List Int),(-1),bj.Code,([]:List Int)++s2.2.1,bj.At⟩:Prod)]) (cs2:=[ak bt s2.1.aq.a6,ak bb s2.1.aq.bx,ak bI (s2.1.aq.aX++[(⟨aO ((s2.1.bG.length:Int)+(aO (s2.1.bD+1))),([]:List Int),(-1),bj.Code,([]:List Int)++s2.2.1,bj.At⟩:Prod)]),af s2.1.aq.bB,af s2.1.aq.bE,ak bJ s2.1.b4,ak bb s2.1.b2,ak cA s2.1.bG,j s2.1.b7,j s2.1.cd,af s2.1.cb,j s2.1.b0,j (aO (s2.1.bD+1))]) q q (.ptr q) (.b8 q) q q q (.f (.f (.f (.f (.jB q q q .ly (.f .nil)))))) (.f (.z (.f (.f (.z (hv:=ky.jB q q) (.f .nil)))))) q q Iw q q q q (.b q (.n q q (.n q q (.n q q .nil))))) q q q q (by kernel_rfl) (by kernel_rfl)<|bN.fin q q q (dT q q q q)) ?_;refine ah.a1 ?_;obtain ⟨b9,ik,h⟩:=aB h;refine W.rd [[],[0],[],[2],[2,3],[2,3,4],[2,3,4,5],aH 2 5 [],[],[8],[8,9],[8,9,10],aH 2 10 [],aH 2 11 [],aH 0 14 [],aH 0 15 [],aH 0 16 []] [(0,_),(5,_),(6,_),(7,_)] eM (by kernel_rfl) (ar 0 (O.bm q (.obj q) nc q)<|ar 1 (O.c' (y:=.bo aM.z ⟨6,[1]⟩ s2.2.1.length) q (.ptr q) gE q q)<|ar 2 (O.aA (.obj q))<|ar 3 (O.e0 (.ptr q))<|ar 4 (O.bm q (.ptr q) xR q)<|ar 5 (O.c' (y:=.bo cA.z ⟨0,[7]⟩ s2.1.bG.length) q (.ptr q) zs q q)<|ar 6 (O.pH (.bo q) By)<|ar 7 (O.add (.k q) (.lit q))<|ar 8 (O.aA (.obj q))<|ar 9 (O.e0 (.ptr q))<|ar 10 (O.bm q (.ptr q) zF q)<|ar 11 (O.cG q (.ptr q) cv q)<|ar 12 (O.add (.lit q) (.lit q))<|bN.gB 13 (x:=aj aM [aO ((aO (1000+(s2.1.bG.length:Int)))+(aO (s2.1.bD+1)))]) (O.dM (ys:=[j (aO ((aO (1000+(s2.1.bG.length:Int)))+(aO (s2.1.bD+1))))]) aM [aO ((aO (1000+(s2.1.bG.length:Int)))+(aO (s2.1.bD+1)))] eA q q q q q q nJ q q) q q q q .none<|ar 14 (O.ap (en:=aM) (r:=b9) (.bo q) q (.aF q) .i p5 q ik)<|ar 15 (O.bm q (.obj q) nc q)<|bN.jX 16 (G2:=[(0,.obj [ak bt s2.1.aq.a6,ak bb s2.1.aq.bx,ak bI (s2.1.aq.aX++[(⟨aO ((s2.1.bG.length:Int)+(aO (s2.1.bD+1))),([]:List Int),(-1),bj.Code,([]:List Int)++s2.2.1,bj.At⟩:Prod)]),af s2.1.aq.bB,af s2.1.aq.bE,ak bJ s2.1.b4,ak bb s2.1.b2,ak cA s2.1.bG,j s2.1.b7,j s2.1.cd,af s2.1.cb,j s2.1.b0,j (aO (s2.1.bD+1))]),(5,.obj (ef.cells a2)),(6,.obj [j (aO (1+aI)),ak aM (s2.2.1++[aO ((aO (1000+(s2.1.bG.length:Int)))+(aO (s2.1.bD+1)))]),j (-1),af s2.2.2.1,.aN,j s2.2.2.2.1]),(7,j s2.2.2.2.2)]) (cq.ml (g1:=_) (en:=aM) (M:=[aO ((aO (1000+(s2.1.bG.length:Int)))+(aO (s2.1.bD+1)))]) (cs2:=[j (aO (1+aI)),ak aM (s2.2.1++[aO ((aO (1000+(s2.1.bG.length:Int)))+(aO (s2.1.bD+1)))]),j (-1),af s2.2.2.1,.aN,j s2.2.2.2.1]) q q (.ptr q) (.b8 q) q q q .ly .hf q q w3 q q q q (.n q q (.n q q (.b q (.n q q .nil))))) q q q q (by kernel_rfl) (by kernel_rfl)<|bN.fin q q q (dT q q q q)) ?_;obtain rfl:=ax h;exact ah.bH (dT q q q q)
       obtain rfl:=ax h;exact ah.bH (dT q q q q)
     refine ah.bp ?_;obtain rfl:=ax h;exact ah.bH (dT q q q q)
    refine ah.bp ?_;obtain rfl:=ax h;exact ah.bH (dT q q q q)
   refine ah.a1<|W.bq [0,5,6,7] (bu q<|ai (O.add (.lit q) (.k q))<|av.bq [0,5,6,23] q<|av.aV) ?_;obtain rfl:=ax h;exact ah.go (dT q q q q)
  ·refine W.de ?_;refine ah.dd ?_;obtain rfl:=ax h;exact ah.aI (dF q q q)
 refine ah.df ?_;refine ah.a1<|W.a8 ?_;refine W.aY [0,5,6,9] ?_;refine W.bp ?_;obtain ⟨fC,ao,h⟩:=aB h;refine W.ck (G1:=[(0,_),(5,_),(6,_),(9,_)]) (dT q q q q) ?_;refine W.eZ (s:=((-1),0)) (λ(qw:Int × Int)=>[(0,.obj (ea.cells aZ.1)),(5,.obj (ef.cells a2)),(6,.obj [j (aO (1+aI)),ak aM aZ.2.1,j qw.1,af aZ.2.2.1,.aN,j aZ.2.2.2]),(9,j qw.2)]) 3 (λ(fC:Int)=>[(0,.obj (ea.cells aZ.1)),(5,.obj (ef.cells a2)),(6,.obj [j (aO (1+aI)),ak aM aZ.2.1,j fC,af aZ.2.2.1,.aN,j aZ.2.2.2])]) ao (λqw o h=>?_) ?_
 ·clear ao;refine W.a8<|W.aY [0,5,6,9,112] ?_;refine W.bF h q (λjY h=>?_) (λjY h=>?_)
  ·refine W.bM<|ah.a1 ?_;refine W.a8 ?_;obtain ⟨n_,aa,h⟩:=aB h;refine W.bH [(0,.obj (ea.cells aZ.1)),(5,.obj (ef.cells a2)),(6,.obj [j (aO (1+aI)),ak aM aZ.2.1,j n_,af aZ.2.2.1,.aN,j aZ.2.2.2]),(9,j qw.2)] ?_ ?_
   ·clear h; have h:=aa; clear aa;refine W.bp ?_;obtain ⟨eF,mL,h⟩:=aB h;refine W.bP [0,5,6,9,120] (ai (O.bm q (.obj q) nc q)<|ai (O.c' (y:=.bo aM.z ⟨6,[1]⟩ aZ.2.1.length) q (.ptr q) gE q q)<|bu q<|ai (O.g_ (en:=aM) q (.bo q) (.lit q) eA mL q)<|ai (O.jh (en:=aM) (x':=j eF) q (.ptr q) cv mL q q)<|av.aV) ?_;obtain ⟨AG,aa,h⟩:=aB h;refine W.bH [(0,.obj (ea.cells aZ.1)),(5,.obj (ef.cells a2)),(6,.obj [j (aO (1+aI)),ak aM aZ.2.1,j AG,af aZ.2.2.1,.aN,j aZ.2.2.2]),(9,j qw.2)] ?_ ?_
    ·clear h; have h:=aa; clear aa;refine W.bF h q (λi' h=>?_) (λi' h=>?_)
     ·obtain ⟨h4,qi,h⟩:=aB h;refine W.bq [0,5,6,9] (ai (O.bm q (.obj q) nc q)<|ai (O.c' (y:=.bo aM.z ⟨6,[1]⟩ aZ.2.1.length) q (.ptr q) gE q q)<|bu q<|ai (O.g_ (en:=aM) q (.bo q) (.lit q) eA qi q)<|ai (O.jh (en:=aM) (x':=j h4) q (.ptr q) cv qi q q)<|ai (O.bm q (.obj q) zz q)<|av.dR (G2:=[(0,_),(5,_),(6,_),(9,_)]) (cs2:=[j (aO (1+aI)),ak aM aZ.2.1,j h4,af aZ.2.2.1,.aN,j aZ.2.2.2]) q (.ptr q) (.lit q) q nH q q q q (.n q q (.n q q (.b q (.n q q .nil))))<|b3 q) ?_;obtain rfl:=ax h;exact ah.bH (dT q q q q)
     ·refine W.bM ?_;obtain rfl:=ax h;exact ah.bH (dT q q q q)
    refine ah.bp ?_;obtain rfl:=ax h;exact ah.bH (dT q q q q)
   refine ah.a1<|W.bq [0,5,6,9] (bu q<|ai (O.add (.lit q) (.k q))<|av.bq [0,5,6,114] q<|av.aV) ?_;obtain rfl:=ax h;exact ah.go (dT q q q q)
  ·refine W.de ?_;refine ah.dd ?_;obtain rfl:=ax h;exact ah.aI (dF q q q)
 refine ah.df ?_;refine ah.a1<|W.a8 ?_;refine W.aY [0,5,6,130] ?_;obtain ⟨fz,aa,h⟩:=aB h;refine W.bH [(0,.obj (ea.cells fz.1)),(6,.obj [j (aO (1+aI)),ak aM aZ.2.1,j fz.2,af aZ.2.2.1,.aN,j aZ.2.2.2])] ?_ ?_
 ·clear h; have h:=aa; clear aa;refine W.bF h q (λh8 h=>?_) (λh8 h=>?_)
  ·refine W.bP [0,5,6] (ai (O.bm q (.obj q) zz q)<|av.dR (G2:=[(0,_),(5,_),(6,_)]) (cs2:=[j (aO (1+aI)),ak aM aZ.2.1,j (-1),af aZ.2.2.1,.aN,j aZ.2.2.2]) q (.ptr q) (.k q) q nH q q q q (.n q q (.n q q (.b q .nil)))<|b3 q) ?_;obtain ⟨rN,aa,h⟩:=aB h;refine W.rs [(0,.obj (ea.cells aZ.1)),(5,.obj (ef.cells a2)),(6,.obj [j (aO (1+aI)),ak aM aZ.2.1,j (-1),af aZ.2.2.1,.aN,j aZ.2.2.2]),(142,a' rN)] ?_ ?_
   ·refine ai (O.bm q (.obj q) tW q)<|ai (O.bm q (.ptr q) vE q)<|ai (O.cG q (.ptr q) mx q)<|ai (O.aA (.lit q)) ?_;rcases cB aa with ⟨qa,aa⟩ | ⟨qa,aa⟩
    ·obtain rfl:=ax aa;exact av.aV
    ·refine a7 qa (O.aA (.obj q))<|a7 qa (O.bm q (.obj q) tW q)<|a7 qa (O.bm q (.ptr q) kB q)<|a7 qa (O.cG q (.ptr q) e4 q) ?_;obtain ⟨hU,n2,aa⟩:=aB aa;obtain rfl:=ax aa;exact av.c (cu.vw (ys:=[.ptr ⟨0,[]⟩ 0,af a2.Prec.Name]) q (.c (View.ob q q) (.s .nil)) (xJ aZ.1 a2.Prec.Name _ n2) call96 q) q q (.jT q q qa)<|av.aV
   obtain ⟨oM,aa,h⟩:=aB h;refine W.bH [(0,.obj (ea.cells oM.1)),(6,.obj [j (aO (1+aI)),ak aM aZ.2.1,j oM.2,af aZ.2.2.1,.aN,j aZ.2.2.2])] ?_ ?_
   ·clear h; have h:=aa; clear aa;refine W.bF h q (λkE h=>?_) (λkE h=>?_)
    ·obtain ⟨gR,pB,h⟩:=aB h;refine W.bq [0,6] (ai (O.aA (.obj q))<|ai (O.bm q (.obj q) tW q)<|ai (O.d_ (cs':=[af a2.Prec.Name,a' a2.Prec.Lit,j a2.Prec.c9,j a2.Prec.At]) q (.ptr q) lj q q)<|av.hJ q (cq.call q q (hV.nC (G2:=[(6,.obj [j (aO (1+aI)),ak aM aZ.2.1,j (-1),af aZ.2.2.1,.aN,j aZ.2.2.2])]) (A:=[]) (ys:=[.ptr ⟨0,[]⟩ 0,.agg (du.cells a2.Prec)]) (args:=[.obj (ea.cells aZ.1),.agg (du.cells a2.Prec)]) (cs':=[ak bt gR.2.aq.a6,ak bb gR.2.aq.bx,ak bI gR.2.aq.aX,af gR.2.aq.bB,af gR.2.aq.bE,ak bJ gR.2.b4,ak bb gR.2.b2,ak cA gR.2.bG,j gR.2.b7,j gR.2.cd,af gR.2.cb,j gR.2.b0,j gR.2.bD]) (k0:=0) q q q q (.b q (.n q .nil)) q (J8 aZ.1 a2.Prec _ pB) call115 (.n q .nil) q q (.n q .nil) .nil q))<|ai (O.bm q (.obj q) zz q)<|av.dR (G2:=[(0,_),(6,_)]) (cs2:=[j (aO (1+aI)),ak aM aZ.2.1,j gR.1,af aZ.2.2.1,.aN,j aZ.2.2.2]) q (.ptr q) (.lit q) q nH q q q q (.n q q (.b q .nil))<|b3 q) ?_;obtain rfl:=ax h;exact ah.bH (ff q q)
    ·obtain ⟨gf,ra,h⟩:=aB h;refine W.bq [0,6] (ai (O.aA (.obj q))<|ai (O.bm q (.obj q) tW q)<|ai (O.bm q (.ptr q) rX q)<|ai (O.cG q (.ptr q) cv q)<|ai (O.bm q (.obj q) tW q)<|ai (O.bm q (.ptr q) kB q)<|ai (O.cG q (.ptr q) e4 q)<|av.hJ q (cq.call q q (hV.nC (G2:=[(6,.obj [j (aO (1+aI)),ak aM aZ.2.1,j (-1),af aZ.2.2.1,.aN,j aZ.2.2.2])]) (A:=[]) (ys:=[.ptr ⟨0,[]⟩ 0,j a2.Prec.At,af a2.Prec.Name]) (args:=[.obj (ea.cells aZ.1),j a2.Prec.At,af a2.Prec.Name]) (cs':=[ak bt gf.aq.a6,ak bb gf.aq.bx,ak bI gf.aq.aX,af gf.aq.bB,af gf.aq.bE,ak bJ gf.b4,ak bb gf.b2,ak cA gf.bG,j gf.b7,j gf.cd,af gf.cb,j gf.b0,j gf.bD]) (k0:=0) q q q q (.b q (.n q (.n q .nil))) q (vq aZ.1 a2.Prec.At a2.Prec.Name _ ra) call94 (.n q .nil) q q (.n q .nil) .nil q))<|b3 q) ?_;obtain rfl:=ax h;exact ah.bH (ff q q)
   obtain rfl:=ax h;exact ah.bH (ff q q)
  ·refine W.bM ?_;obtain rfl:=ax h;exact ah.bH (ff q q)
 refine ah.a1 ?_;obtain ⟨hz,n4,h⟩:=aB h;refine W.bP [0,6] (ai (O.dM (ys:=[]) aM ([]:List Int) eA q q q q q q nJ q q)<|ai (O.bm q (.obj q) nc q)<|ai (O.c' (y:=.bo aM.z ⟨6,[1]⟩ aZ.2.1.length) q (.ptr q) gE q q)<|ai (O.ap (en:=aM) (r:=hz) (.own q) q (.bo q) (.flat aM q) p5 q n4)<|ai (O.bm q (.obj q) KE q)<|av.hJ (G2:=[(0,.obj (ea.cells fz.1)),(6,.obj [j (aO (1+aI)),ak aM aZ.2.1,j fz.2,af aZ.2.2.1,ak aM (([]:List Int)++aZ.2.1),j aZ.2.2.2])]) q (cq.ml (g1:=_) (en:=aM) (M:=aZ.2.1) (cs2:=[j (aO (1+aI)),ak aM aZ.2.1,j fz.2,af aZ.2.2.1,ak aM (([]:List Int)++aZ.2.1),j aZ.2.2.2]) q q (.ptr q) (.b8 q) q q q .ly .hf q q w3 q q q q (.n q q (.b q .nil)))<|b3 q) ?_;refine W.fM (G1:=[(0,_),(6,.obj [j (aO (1+aI)),aj aM aZ.2.1,j fz.2,af aZ.2.2.1,ak aM (([]:List Int)++aZ.2.1),j aZ.2.2.2])]) [6] (.n q q (.z q q (gC.obj (.f (.z (.f (.f (.f (.f .nil))))))) .nil)) ?_;refine W.fM (G1:=[(0,_),(6,.obj [j (aO (1+aI)),aj aM aZ.2.1,j fz.2,af aZ.2.2.1,aj aM (([]:List Int)++aZ.2.1),j aZ.2.2.2])]) [6] (.n q q (.z q q (gC.obj (.f (.f (.f (.f (.z (.f .nil))))))) .nil)) ?_;obtain ⟨ji,lJ,h⟩:=aB h;refine W.rd [[],[],[1],[1,2],[1,2,3],[1,2,3,4],[],[6],aH 1 7 [],aH 0 9 [],aH 0 10 [],aH 0 11 [],aH 0 12 []] [(0,_)] eM (by kernel_rfl) (ar 0 (O.aA (.obj q))<|ar 1 (O.aA (.obj q))<|ar 2 (O.e0 (.ptr q))<|ar 3 (O.bm q (.ptr q) kl q)<|ar 4 (O.bm q (.ptr q) my q)<|ar 5 (O.c' (y:=.bo bI.z ⟨0,[2]⟩ fz.1.aq.aX.length) q (.ptr q) nS q q)<|ar 6 (O.d_ (cs':=[j (aO (1+aI)),aj aM aZ.2.1,j fz.2,af aZ.2.2.1,aj aM (([]:List Int)++aZ.2.1),j aZ.2.2.2]) q (.obj q) JA q q)<|bN.gB 7 (x:=aj bI [(⟨aO (1+aI),aZ.2.1,fz.2,aZ.2.2.1,([]:List Int)++aZ.2.1,aZ.2.2.2⟩:Prod)]) (O.dM (ys:=[.agg [j (aO (1+aI)),aj aM aZ.2.1,j fz.2,af aZ.2.2.1,aj aM (([]:List Int)++aZ.2.1),j aZ.2.2.2]]) bI [(⟨aO (1+aI),aZ.2.1,fz.2,aZ.2.2.1,([]:List Int)++aZ.2.1,aZ.2.2.2⟩:Prod)] nG q q q q q q IY q q) q q q q .none<|ar 8 (O.ap (en:=bI) (r:=ji) (.bo q) q (.aF q) .i Jr q lJ)<|ar 9 (O.e0 (.ptr q))<|ar 10 (O.bm q (.ptr q) kl q)<|ar 11 (O.bm q (.ptr q) my q)<|bN.jX 12 (G2:=[(0,.obj [ak bt fz.1.aq.a6,ak bb fz.1.aq.bx,ak bI (fz.1.aq.aX++[(⟨aO (1+aI),aZ.2.1,fz.2,aZ.2.2.1,([]:List Int)++aZ.2.1,aZ.2.2.2⟩:Prod)]),af fz.1.aq.bB,af fz.1.aq.bE,ak bJ fz.1.b4,ak bb fz.1.b2,ak cA fz.1.bG,j fz.1.b7,j fz.1.cd,af fz.1.cb,j fz.1.b0,j fz.1.bD])]) (cq.ml (g1:=_) (en:=bI) (M:=[(⟨aO (1+aI),aZ.2.1,fz.2,aZ.2.2.1,([]:List Int)++aZ.2.1,aZ.2.2.2⟩:Prod)]) (cs2:=[ak bt fz.1.aq.a6,ak bb fz.1.aq.bx,ak bI (fz.1.aq.aX++[(⟨aO (1+aI),aZ.2.1,fz.2,aZ.2.2.1,([]:List Int)++aZ.2.1,aZ.2.2.2⟩:Prod)]),af fz.1.aq.bB,af fz.1.aq.bE,ak bJ fz.1.b4,ak bb fz.1.b2,ak cA fz.1.bG,j fz.1.b7,j fz.1.cd,af fz.1.cb,j fz.1.b0,j fz.1.bD]) q q (.ptr q) (.b8 q) q q q .ly .hf q q Iw q q q q (.b q .nil)) q q q q (by kernel_rfl) (by kernel_rfl)<|bN.fin q q q (.n q .nil)) ?_;obtain rfl:=ax h;exact ah.fin (Fin.ro .nil q (oQ (by kernel_rfl)) (.au q q (.no (.no .nil))) q (.inl q))
theorem Qm (a0:Int) (r:ByteArray) (h:Bq a0=some r):cc Try.prog 99 [j a0] [none] (af r):=by
 unfold Bq at h;refine cc.go (N:=⟨32,[]⟩) Try.func99 q q q q (W.fin ?_);refine W.st [(0,j a0)] ?_;refine W.aY [0] ?_;refine W.bP [0,3] (bu q<|ai (O.tS (.lit q) wc Ml)<|av.aV) ?_;refine W.a8<|W.aY [0,3,8] ?_;obtain ⟨ib,aa,h⟩:=aB h;refine W.bH [(0,j a0),(3,.lit (.int .u64 ib))] ?_ ?_
 ·clear h; have h:=aa; clear aa;refine W.bF h q (λc6 h=>?_) (λc6 h=>?_)
  ·refine W.bq [0,3] (bu q<|ai (O.neg (.lit q))<|av.bq [0,10] q<|av.aV) ?_;obtain rfl:=ax h;exact ah.bH (ff q q)
  ·refine W.bM ?_;obtain rfl:=ax h;exact ah.bH (ff q q)
 refine ah.a1<|W.aY [0,3,4] ?_;refine W.a8<|W.bp ?_;obtain ⟨bs,ao,h⟩:=aB h;refine W.ck (G1:=[(0,_),(3,_),(4,_)]) (dF q q q) ?_;refine W.eZ (s:=(ib,aC)) (λ(ee:Int × ByteArray)=>[(0,j a0),(3,.lit (.int .u64 ee.1)),(4,af ee.2)]) 0 (λ(bs:ByteArray)=>[(0,j a0),(4,af bs)]) ao (λee o h=>?_) ?_
 ·clear ao;refine W.a8 ?_;obtain ⟨qO,aa,h⟩:=aB h;refine W.rs [(0,j a0),(3,.lit (.int .u64 ee.1)),(4,af ee.2),(16,a' qO)] ?_ ?_
  ·refine bu q<|ai (O.gtr (.lit q) (.k q))<|ai (O.aA (.lit q)) ?_;rcases cB aa with ⟨dV,aa⟩ | ⟨dV,aa⟩
   ·obtain rfl:=ax aa;exact av.aV
   ·obtain rfl:=ax aa;exact av.aV
  refine W.bF h q (λcX h=>?_) (λcX h=>?_)
  ·refine W.bM<|ah.a1 ?_;refine W.bp ?_;obtain ⟨cp,jd,h⟩:=aB h;obtain ⟨bZ,jv,h⟩:=aB h;refine W.bP [0,3,4] (bu q<|ai (O.ti (.lit q) (.k q) jd)<|ai (O.add (.k q) (.lit q))<|ai (O.tS (.lit q) Ml Dt)<|av.gB (x:=aj nT [hh (IntKind.u64.wrap (48+cp))]) (O.dM (ys:=[lT (hh (IntKind.u64.wrap (48+cp)))]) nT [hh (IntKind.u64.wrap (48+cp))] D5 q q q q q q I0 q q) q q .none<|ai (O.Fb (.aF q) EM)<|bu q<|ai (O.cat (.lit q) (.lit q) jv)<|av.bq [0,3,24] q<|av.aV) ?_;obtain ⟨ct,iA,h⟩:=aB h;refine W.bq [0,3,4] (bu q<|ai (O.tf (.lit q) (.k q) iA)<|av.bq [0,4,26] q<|av.aV) ?_;refine ah.bp ?_;obtain rfl:=ax h;exact ah.go (dF q q q)
  ·refine W.de ?_;refine ah.dd ?_;obtain rfl:=ax h;exact ah.aI (ff q q)
 refine ah.df ?_;refine ah.a1<|W.a8 ?_;refine W.aY [4,28] ?_;refine W.bF h q (λeG h=>?_) (λeG h=>?_)
 ·obtain ⟨dC,jw,h⟩:=aB h;refine W.bP [2] (bu q<|ai (O.cat (.k q) (.lit q) jw)<|av.aV) ?_;refine W.rt ?_;refine ah.c0 ?_;obtain rfl:=ax h;exact cE (.f q q .nil)
 ·refine W.bM<|ah.a1 ?_;refine W.aY [2] ?_;refine W.rt ?_;obtain rfl:=ax h;exact cE (.f q q .nil)
theorem Qa (a0:Source) (r:bV × Int × Int × ByteArray) (h:wN a0=some r):cc Try.prog 78 [.agg (d'.cells a0)] [none] (.cC [.agg (b_.cells r.1),j r.2.1,j r.2.2.1,af r.2.2.2]):=by
 unfold wN at h;refine cc.go (N:=⟨435,[]⟩) Try.func78 q q q q (W.fin ?_);refine W.st [(0,.agg (d'.cells a0))] ?_;refine W.bP [1,2] (ai (O.box (.cm q q) q)<|ai (O.fI (cs:=[.aN,.aN,.aN,af aC,af aC]) oX q q)<|av.aV) ?_;refine W.a8 ?_;obtain ⟨aI,fk,h⟩:=aB h;refine W.bP [1,2,28] (ai (O.d_ (cs':=[af a0.bB,aj cO a0.Decls,aj gT a0.ei,af a0.bE]) q (.obj q) rL q q)<|dJ (cu.go (.bX (.cm q q) .nil) (Qj a0 _ fk) call92 q)<|av.aV) ?_;refine W.bF h q (λc6 h=>?_) (λc6 h=>?_)
 ·refine W.bP [2,3,4,5] (ai (O.e7 (cs:=[.aN,.aN,.aN,af aC,af aC]) Il oX q q q)<|av.dR (G2:=[(2,_)]) (cs2:=[.aN,.aN,.aN,af aC,af aC]) q (.obj q) (.cm q q) q nI q q q q (.b q .nil)<|av.aV) ?_;refine W.fM (G1:=[(2,.obj [aj bt ([]:List bC),aj bb ([]:List eY),aj bI ([]:List Prod),af aC,af aC]),(3,_),(4,_),(5,_)]) [2] (.z q q (gC.obj (.z (.z (.z (.f (.f .nil)))))) (.n q q (.n q q (.n q q .nil)))) ?_;refine W.rt ?_;refine ah.c0 ?_;obtain rfl:=ax h;exact cE (.c (ys0:=[aj bt ([]:List bC),aj bb ([]:List eY),aj bI ([]:List Prod),af aC,af aC]) q gm q q q (.f q (.f q (.f q (.f q (.f q .nil))))) (.f q q (.f q q (.f q q .nil))))
 ·refine W.bM<|ah.a1 ?_;obtain ⟨aZ,hE,h⟩:=aB h;refine W.bP [1,2,6] (ai (O.mk (en:=bJ) (z0:=false) oS (.k q) (.k q) IT q q hE EK q)<|ai (O.e7 (cs:=[.aN,.aN,.aN,af aC,af aC,.bo bJ.z ⟨30,[]⟩ aZ.length,.aN,.aN,j 0,j 0,af aC,j 0,j 0]) Vc V7 q q q)<|ai (O.box (.cm q q) q)<|av.gN (G2:=[(1,.obj (d'.cells a0)),(2,.obj [.aN,.aN,.aN,af aC,af aC])]) q (cq.B7 (y':=.obj [.aN,.aN,.aN,af aC,af aC,ak bJ aZ,.aN,.aN,j 0,j 0,af aC,j 0,j 0]) q q (.obj q) (.b q (.f (.f (.f (.f (.f (.r q (.f (.f (.f (.f (.f (.f (.f .nil))))))))))))) .nil) .refl (ff q q) q q)<|b3 q) ?_;refine W.bP [1,2,6] (ai (O.aA (.obj q))<|ai (O.e7 (cs:=[af ({ data:=#[36,101,110,100] }),a' false,j 0,j 0,j 0,af aC]) D2 BN q q q)<|ai (O.e7 (cs:=[af ({ data:=#[101,114,114,111,114] }),a' false,j (-1),j 0,j 0,af aC]) D2 BN q q q)<|ai (O.e7 (cs:=[af ({ data:=#[36,117,110,107] }),a' false,j (-1),j 0,j 0,af aC]) D2 BN q q q)<|ai (O.dM (ys:=[.agg [af ({ data:=#[36,101,110,100] }),a' false,j 0,j 0,j 0,af aC],.agg [af ({ data:=#[101,114,114,111,114] }),a' false,j (-1),j 0,j 0,af aC],.agg [af ({ data:=#[36,117,110,107] }),a' false,j (-1),j 0,j 0,af aC]]) bt [(⟨{ data:=#[36,101,110,100] },false,0,0,0,aC⟩:bC),(⟨{ data:=#[101,114,114,111,114] },false,(-1),0,0,aC⟩:bC),(⟨{ data:=#[36,117,110,107] },false,(-1),0,0,aC⟩:bC)] pP q q q q q q Oc q q)<|ai (O.e0 (.ptr q))<|ai (O.bm q (.ptr q) kl q)<|ai (O.bm q (.ptr q) oA q)<|av.hJ (G2:=[(1,.obj (d'.cells a0)),(2,.obj [.aN,.aN,.aN,af aC,af aC]),(6,.obj [ak bt [(⟨{ data:=#[36,101,110,100] },false,0,0,0,aC⟩:bC),(⟨{ data:=#[101,114,114,111,114] },false,(-1),0,0,aC⟩:bC),(⟨{ data:=#[36,117,110,107] },false,(-1),0,0,aC⟩:bC)],.aN,.aN,af aC,af aC,ak bJ aZ,.aN,.aN,j 0,j 0,af aC,j 0,j 0])]) q (cq.ts (y':=ak bt [(⟨{ data:=#[36,101,110,100] },false,0,0,0,aC⟩:bC),(⟨{ data:=#[101,114,114,111,114] },false,(-1),0,0,aC⟩:bC),(⟨{ data:=#[36,117,110,107] },false,(-1),0,0,aC⟩:bC)]) (cs2:=[ak bt [(⟨{ data:=#[36,101,110,100] },false,0,0,0,aC⟩:bC),(⟨{ data:=#[101,114,114,111,114] },false,(-1),0,0,aC⟩:bC),(⟨{ data:=#[36,117,110,107] },false,(-1),0,0,aC⟩:bC)],.aN,.aN,af aC,af aC,ak bJ aZ,.aN,.aN,j 0,j 0,af aC,j 0,j 0]) q q (.ptr q) (.own q) (.r q .nil) .refl q NQ q q q q q (.n q q (.n q q (.b q .nil))))<|b3 q) ?_;refine W.aY [1,2,6,7] ?_;refine W.a8<|W.aY [1,2,6,7,8] ?_;refine W.bp ?_;obtain ⟨cn,ao,h⟩:=aB h;refine W.ck (G1:=[(1,_),(2,_),(6,.obj [ak bt (((⟨(⟨[(⟨{ data:=#[36,101,110,100] },false,0,0,0,aC⟩:bC),(⟨{ data:=#[101,114,114,111,114] },false,(-1),0,0,aC⟩:bC),(⟨{ data:=#[36,117,110,107] },false,(-1),0,0,aC⟩:bC)],[],[],aC,aC⟩:bV),aZ,[],[],0,0,aC,0,0⟩:cR).aq).a6),ak bb (((⟨(⟨[(⟨{ data:=#[36,101,110,100] },false,0,0,0,aC⟩:bC),(⟨{ data:=#[101,114,114,111,114] },false,(-1),0,0,aC⟩:bC),(⟨{ data:=#[36,117,110,107] },false,(-1),0,0,aC⟩:bC)],[],[],aC,aC⟩:bV),aZ,[],[],0,0,aC,0,0⟩:cR).aq).bx),ak bI (((⟨(⟨[(⟨{ data:=#[36,101,110,100] },false,0,0,0,aC⟩:bC),(⟨{ data:=#[101,114,114,111,114] },false,(-1),0,0,aC⟩:bC),(⟨{ data:=#[36,117,110,107] },false,(-1),0,0,aC⟩:bC)],[],[],aC,aC⟩:bV),aZ,[],[],0,0,aC,0,0⟩:cR).aq).aX),af (((⟨(⟨[(⟨{ data:=#[36,101,110,100] },false,0,0,0,aC⟩:bC),(⟨{ data:=#[101,114,114,111,114] },false,(-1),0,0,aC⟩:bC),(⟨{ data:=#[36,117,110,107] },false,(-1),0,0,aC⟩:bC)],[],[],aC,aC⟩:bV),aZ,[],[],0,0,aC,0,0⟩:cR).aq).bB),af (((⟨(⟨[(⟨{ data:=#[36,101,110,100] },false,0,0,0,aC⟩:bC),(⟨{ data:=#[101,114,114,111,114] },false,(-1),0,0,aC⟩:bC),(⟨{ data:=#[36,117,110,107] },false,(-1),0,0,aC⟩:bC)],[],[],aC,aC⟩:bV),aZ,[],[],0,0,aC,0,0⟩:cR).aq).bE),ak bJ ((⟨(⟨[(⟨{ data:=#[36,101,110,100] },false,0,0,0,aC⟩:bC),(⟨{ data:=#[101,114,114,111,114] },false,(-1),0,0,aC⟩:bC),(⟨{ data:=#[36,117,110,107] },false,(-1),0,0,aC⟩:bC)],[],[],aC,aC⟩:bV),aZ,[],[],0,0,aC,0,0⟩:cR).b4),ak bb ((⟨(⟨[(⟨{ data:=#[36,101,110,100] },false,0,0,0,aC⟩:bC),(⟨{ data:=#[101,114,114,111,114] },false,(-1),0,0,aC⟩:bC),(⟨{ data:=#[36,117,110,107] },false,(-1),0,0,aC⟩:bC)],[],[],aC,aC⟩:bV),aZ,[],[],0,0,aC,0,0⟩:cR).b2),ak cA ((⟨(⟨[(⟨{ data:=#[36,101,110,100] },false,0,0,0,aC⟩:bC),(⟨{ data:=#[101,114,114,111,114] },false,(-1),0,0,aC⟩:bC),(⟨{ data:=#[36,117,110,107] },false,(-1),0,0,aC⟩:bC)],[],[],aC,aC⟩:bV),aZ,[],[],0,0,aC,0,0⟩:cR).bG),j ((⟨(⟨[(⟨{ data:=#[36,101,110,100] },false,0,0,0,aC⟩:bC),(⟨{ data:=#[101,114,114,111,114] },false,(-1),0,0,aC⟩:bC),(⟨{ data:=#[36,117,110,107] },false,(-1),0,0,aC⟩:bC)],[],[],aC,aC⟩:bV),aZ,[],[],0,0,aC,0,0⟩:cR).b7),j ((⟨(⟨[(⟨{ data:=#[36,101,110,100] },false,0,0,0,aC⟩:bC),(⟨{ data:=#[101,114,114,111,114] },false,(-1),0,0,aC⟩:bC),(⟨{ data:=#[36,117,110,107] },false,(-1),0,0,aC⟩:bC)],[],[],aC,aC⟩:bV),aZ,[],[],0,0,aC,0,0⟩:cR).cd),af ((⟨(⟨[(⟨{ data:=#[36,101,110,100] },false,0,0,0,aC⟩:bC),(⟨{ data:=#[101,114,114,111,114] },false,(-1),0,0,aC⟩:bC),(⟨{ data:=#[36,117,110,107] },false,(-1),0,0,aC⟩:bC)],[],[],aC,aC⟩:bV),aZ,[],[],0,0,aC,0,0⟩:cR).cb),j ((⟨(⟨[(⟨{ data:=#[36,101,110,100] },false,0,0,0,aC⟩:bC),(⟨{ data:=#[101,114,114,111,114] },false,(-1),0,0,aC⟩:bC),(⟨{ data:=#[36,117,110,107] },false,(-1),0,0,aC⟩:bC)],[],[],aC,aC⟩:bV),aZ,[],[],0,0,aC,0,0⟩:cR).b0),j ((⟨(⟨[(⟨{ data:=#[36,101,110,100] },false,0,0,0,aC⟩:bC),(⟨{ data:=#[101,114,114,111,114] },false,(-1),0,0,aC⟩:bC),(⟨{ data:=#[36,117,110,107] },false,(-1),0,0,aC⟩:bC)],[],[],aC,aC⟩:bV),aZ,[],[],0,0,aC,0,0⟩:cR).bD)]),(7,_),(8,_)]) (.n q (.n q (.w q q (lh.obj (.f (.o (.o (.f (.f (.f (.o (.o (.f (.f (.f (.f (.f .nil)))))))))))))) (ff q q)))) ?_;refine W.eZ (s:=((⟨(⟨[(⟨{ data:=#[36,101,110,100] },false,0,0,0,aC⟩:bC),(⟨{ data:=#[101,114,114,111,114] },false,(-1),0,0,aC⟩:bC),(⟨{ data:=#[36,117,110,107] },false,(-1),0,0,aC⟩:bC)],[],[],aC,aC⟩:bV),aZ,[],[],0,0,aC,0,0⟩:cR),aC,0)) (λ(bO:cR × ByteArray × Int)=>[(1,.obj (d'.cells a0)),(2,.obj [.aN,.aN,.aN,af aC,af aC]),(6,.obj (ea.cells bO.1)),(7,af bO.2.1),(8,j bO.2.2)]) 0 (λ(cn:cR × ByteArray)=>[(1,.obj (d'.cells a0)),(2,.obj [.aN,.aN,.aN,af aC,af aC]),(6,.obj (ea.cells cn.1)),(7,af cn.2)]) ao (λbO o h=>?_) ?_
  ·clear ao;refine W.a8<|W.aY [1,2,6,7,8,45] ?_;refine W.bF h q (λcZ h=>?_) (λcZ h=>?_)
   ·refine W.bM<|ah.a1 ?_;refine W.a8<|W.bp ?_;obtain ⟨b1,iB,h⟩:=aB h;refine W.bP [1,2,6,7,8,9] (ai (O.bm q (.obj q) tT q)<|ai (O.c' (y:=aj cO a0.Decls) q (.ptr q) xL q q)<|bu q<|ai (O.cx (.aF q) (.lit q) tp iB)<|ai (O.jy (cs':=[j b1.Kind,af b1.Tag,aj du b1.fg,j b1.At]) (.bk q) EF q q)<|ai (O.fI (cs:=[j 0,af aC,.aN,j 0]) IQ q q)<|av.dR (G2:=[(1,_),(2,_),(6,_),(7,_),(8,_),(9,_)]) (cs2:=[j b1.Kind,af b1.Tag,aj du b1.fg,j b1.At]) q (.obj q) (.cm q q) q Vv q q q q (.n q q (.n q q (.n q q (.n q q (.n q q (.b q .nil))))))<|b3 q) ?_;refine W.a8 ?_;obtain ⟨jn,aa,h⟩:=aB h;refine W.rs [(1,.obj (d'.cells a0)),(2,.obj [.aN,.aN,.aN,af aC,af aC]),(6,.obj (ea.cells bO.1)),(7,af bO.2.1),(8,j bO.2.2),(9,.obj (cO.cells b1)),(60,a' jn)] ?_ ?_
    ·refine ai (O.bm q (.obj q) pd q)<|ai (O.cG q (.ptr q) cv q)<|ai (O.geq (.lit q) (.k q))<|ai (O.aA (.lit q)) ?_;rcases cB aa with ⟨eH,aa⟩ | ⟨eH,aa⟩
     ·obtain rfl:=ax aa;exact av.aV
     ·obtain rfl:=ax aa;exact av.aV
    obtain ⟨gP,aa,h⟩:=aB h;refine W.bH [(1,.obj (d'.cells a0)),(2,.obj [.aN,.aN,.aN,af aC,af aC]),(6,.obj [ak bt bO.1.aq.a6,ak bb bO.1.aq.bx,ak bI bO.1.aq.aX,af bO.1.aq.bB,af bO.1.aq.bE,ak bJ bO.1.b4,ak bb bO.1.b2,ak cA bO.1.bG,j bO.1.b7,j bO.1.cd,af bO.1.cb,j gP,j bO.1.bD]),(7,af bO.2.1),(8,j bO.2.2),(9,.obj (cO.cells b1))] ?_ ?_
    ·clear h; have h:=aa; clear aa;refine W.bF h q (λeG h=>?_) (λeG h=>?_)
     ·refine W.bq [1,2,6,7,8,9] (ai (O.aA (.obj q))<|ai (O.e0 (.ptr q))<|ai (O.bm q (.ptr q) CE q)<|ai (O.cG q (.ptr q) cv q)<|ai (O.add (.lit q) (.k q))<|ai (O.e0 (.ptr q))<|ai (O.bm q (.ptr q) CE q)<|av.dR (G2:=[(1,_),(2,_),(6,_),(7,_),(8,_),(9,_)]) (cs2:=[ak bt bO.1.aq.a6,ak bb bO.1.aq.bx,ak bI bO.1.aq.aX,af bO.1.aq.bB,af bO.1.aq.bE,ak bJ bO.1.b4,ak bb bO.1.b2,ak cA bO.1.bG,j bO.1.b7,j bO.1.cd,af bO.1.cb,j (aO (bO.1.b0+1)),j bO.1.bD]) q (.ptr q) (.lit q) q nH q q q q (.n q q (.n q q (.b q (.n q q (.n q q (.n q q .nil))))))<|b3 q) ?_;obtain rfl:=ax h;exact ah.bH (eI q q q q q q)
     ·refine W.bM ?_;obtain rfl:=ax h;exact ah.bH (eI q q q q q q)
    refine ah.a1<|W.aY [1,2,6,7,8,9,10] ?_;refine W.bp ?_;obtain ⟨dU,ao,h⟩:=aB h;refine W.ck (G1:=[(1,_),(2,_),(6,.obj [ak bt (((⟨bO.1.aq,bO.1.b4,bO.1.b2,bO.1.bG,bO.1.b7,bO.1.cd,bO.1.cb,gP,bO.1.bD⟩:cR).aq).a6),ak bb (((⟨bO.1.aq,bO.1.b4,bO.1.b2,bO.1.bG,bO.1.b7,bO.1.cd,bO.1.cb,gP,bO.1.bD⟩:cR).aq).bx),ak bI (((⟨bO.1.aq,bO.1.b4,bO.1.b2,bO.1.bG,bO.1.b7,bO.1.cd,bO.1.cb,gP,bO.1.bD⟩:cR).aq).aX),af (((⟨bO.1.aq,bO.1.b4,bO.1.b2,bO.1.bG,bO.1.b7,bO.1.cd,bO.1.cb,gP,bO.1.bD⟩:cR).aq).bB),af (((⟨bO.1.aq,bO.1.b4,bO.1.b2,bO.1.bG,bO.1.b7,bO.1.cd,bO.1.cb,gP,bO.1.bD⟩:cR).aq).bE),ak bJ ((⟨bO.1.aq,bO.1.b4,bO.1.b2,bO.1.bG,bO.1.b7,bO.1.cd,bO.1.cb,gP,bO.1.bD⟩:cR).b4),ak bb ((⟨bO.1.aq,bO.1.b4,bO.1.b2,bO.1.bG,bO.1.b7,bO.1.cd,bO.1.cb,gP,bO.1.bD⟩:cR).b2),ak cA ((⟨bO.1.aq,bO.1.b4,bO.1.b2,bO.1.bG,bO.1.b7,bO.1.cd,bO.1.cb,gP,bO.1.bD⟩:cR).bG),j ((⟨bO.1.aq,bO.1.b4,bO.1.b2,bO.1.bG,bO.1.b7,bO.1.cd,bO.1.cb,gP,bO.1.bD⟩:cR).b7),j ((⟨bO.1.aq,bO.1.b4,bO.1.b2,bO.1.bG,bO.1.b7,bO.1.cd,bO.1.cb,gP,bO.1.bD⟩:cR).cd),af ((⟨bO.1.aq,bO.1.b4,bO.1.b2,bO.1.bG,bO.1.b7,bO.1.cd,bO.1.cb,gP,bO.1.bD⟩:cR).cb),j ((⟨bO.1.aq,bO.1.b4,bO.1.b2,bO.1.bG,bO.1.b7,bO.1.cd,bO.1.cb,gP,bO.1.bD⟩:cR).b0),j ((⟨bO.1.aq,bO.1.b4,bO.1.b2,bO.1.bG,bO.1.b7,bO.1.cd,bO.1.cb,gP,bO.1.bD⟩:cR).bD)]),(7,_),(8,_),(9,_),(10,_)]) (gv q q q q q q q) ?_;refine W.eZ (s:=((⟨bO.1.aq,bO.1.b4,bO.1.b2,bO.1.bG,bO.1.b7,bO.1.cd,bO.1.cb,gP,bO.1.bD⟩:cR),bO.2.1,0)) (λ(gz:cR × ByteArray × Int)=>[(1,.obj (d'.cells a0)),(2,.obj [.aN,.aN,.aN,af aC,af aC]),(6,.obj (ea.cells gz.1)),(7,af gz.2.1),(8,j bO.2.2),(9,.obj (cO.cells b1)),(10,j gz.2.2)]) 2 (λ(dU:cR × ByteArray)=>[(1,.obj (d'.cells a0)),(2,.obj [.aN,.aN,.aN,af aC,af aC]),(6,.obj (ea.cells dU.1)),(7,af dU.2),(8,j bO.2.2)]) ao (λgz o h=>?_) ?_
    ·clear ao;refine W.a8<|W.aY [1,2,6,7,8,9,10,72] ?_;refine W.bF h q (λfJ h=>?_) (λfJ h=>?_)
     ·refine W.bM<|ah.a1 ?_;refine W.a8 ?_;obtain ⟨n9,aa,h⟩:=aB h;refine W.bH [(1,.obj (d'.cells a0)),(2,.obj [.aN,.aN,.aN,af aC,af aC]),(6,.obj (ea.cells n9.1)),(7,af n9.2),(8,j bO.2.2),(9,.obj (cO.cells b1)),(10,j gz.2.2)] ?_ ?_
      ·clear h; have h:=aa; clear aa;refine W.bp<|W.a8 ?_;refine W.aY [1,2,6,7,8,9,10,77] ?_;refine W.bF h q (λhB h=>?_) (λhB h=>?_)
       ·refine W.a8 ?_;obtain ⟨fC,pz,h⟩:=aB h;obtain ⟨eJ,q',h⟩:=aB h;refine W.rd [[],[],[],[2],[],[2,3,4],[2,3,4,5],aH 0 7 []] [(1,_),(2,_),(6,_),(7,_),(8,_),(9,_),(10,_)] eM (by kernel_rfl) (ar 0 (O.aA (.obj q))<|ar 1 (O.d_ (cs':=[j b1.Kind,af b1.Tag,aj du b1.fg,j b1.At]) q (.obj q) EF q q)<|ar 2 (O.bm q (.obj q) rT q)<|ar 3 (O.c' (y:=aj du b1.fg) q (.ptr q) sG q q)<|ar 4 (O.aA (.lit q))<|ar 5 (O.cx (.aF q) (.lit q) rv pz)<|ar 6 (O.jy (cs':=[af fC.Name,a' fC.Lit,j fC.c9,j fC.At]) (.bk q) lj q q)<|bN.jX 7 (G2:=[(85,.cC []),(6,.obj [ak bt eJ.aq.a6,ak bb eJ.aq.bx,ak bI eJ.aq.aX,af eJ.aq.bB,af eJ.aq.bE,ak bJ eJ.b4,ak bb eJ.b2,ak cA eJ.bG,j eJ.b7,j eJ.cd,af eJ.cb,j eJ.b0,j eJ.bD]),(1,.obj (d'.cells a0)),(2,.obj [.aN,.aN,.aN,af aC,af aC]),(7,af gz.2.1),(8,j bO.2.2),(9,.obj (cO.cells b1)),(10,j gz.2.2)]) (cq.call q q (hV.nC (G2:=[(1,.obj (d'.cells a0)),(2,.obj [.aN,.aN,.aN,af aC,af aC]),(7,af gz.2.1),(8,j bO.2.2),(9,.obj (cO.cells b1)),(10,j gz.2.2)]) (A:=[]) (ys:=[.ptr ⟨6,[]⟩ 0,.agg (cO.cells b1),.agg (du.cells fC)]) (args:=[.obj (ea.cells gz.1),.agg (cO.cells b1),.agg (du.cells fC)]) (cs':=[ak bt eJ.aq.a6,ak bb eJ.aq.bx,ak bI eJ.aq.aX,af eJ.aq.bB,af eJ.aq.bE,ak bJ eJ.b4,ak bb eJ.b2,ak cA eJ.bG,j eJ.b7,j eJ.cd,af eJ.cb,j eJ.b0,j eJ.bD]) (k0:=0) q q q q (.b q (.n q (.n q .nil))) q (Qk gz.1 b1 fC _ q') call93 (eI q q q q q q) q q (eI q q q q q q) .nil q)) q q q q (by kernel_rfl) (by kernel_rfl)<|bN.fin q q q (gv q q q q q q q)) ?_;refine ah.a1<|W.de ?_;refine ah.dd ?_;refine ah.df ?_;obtain rfl:=ax h;exact ah.bH (gv q q q q q q q)
       ·refine W.bM<|ah.a1 ?_;refine W.a8<|W.aY [1,2,6,8,9,10,87] ?_;obtain ⟨oL,aa,h⟩:=aB h;refine W.bH [(1,.obj (d'.cells a0)),(2,.obj [.aN,.aN,.aN,af aC,af aC]),(6,.obj (ea.cells oL)),(8,j bO.2.2),(9,.obj (cO.cells b1)),(10,j gz.2.2)] ?_ ?_
        ·clear h; have h:=aa; clear aa;refine W.bF h q (λfi h=>?_) (λfi h=>?_)
         ·obtain ⟨eF,mL,h⟩:=aB h;obtain ⟨fZ,lr,h⟩:=aB h;obtain ⟨e2,ng,h⟩:=aB h;refine W.rd [[],[],[1],[],[1,2,3],[1,2,3,4],aH 1 5 [],[],[7],[],[7,8,9],[7,8,9,10],aH 7 5 [],aH 0 13 []] [(1,_),(2,_),(6,_),(8,_),(9,_),(10,_)] eM (by kernel_rfl) (ar 0 (O.aA (.obj q))<|ar 1 (O.bm q (.obj q) rT q)<|ar 2 (O.c' (y:=aj du b1.fg) q (.ptr q) sG q q)<|ar 3 (O.aA (.lit q))<|ar 4 (O.cx (.aF q) (.lit q) rv mL)<|ar 5 (O.dP (.bk q) rX)<|ar 6 (O.cQ (x:=j eF.At) (.bk q) cv q)<|ar 7 (O.bm q (.obj q) rT q)<|ar 8 (O.c' (y:=aj du b1.fg) q (.ptr q) sG q q)<|ar 9 (O.aA (.lit q))<|ar 10 (O.cx (.aF q) (.lit q) rv lr)<|ar 11 (O.dP (.bk q) kB)<|ar 12 (O.cQ (x:=af fZ.Name) (.bk q) e4 q)<|bN.jX 13 (G2:=[(101,.cC []),(6,.obj [ak bt e2.aq.a6,ak bb e2.aq.bx,ak bI e2.aq.aX,af e2.aq.bB,af e2.aq.bE,ak bJ e2.b4,ak bb e2.b2,ak cA e2.bG,j e2.b7,j e2.cd,af e2.cb,j e2.b0,j e2.bD]),(1,.obj (d'.cells a0)),(2,.obj [.aN,.aN,.aN,af aC,af aC]),(8,j bO.2.2),(9,.obj (cO.cells b1)),(10,j gz.2.2)]) (cq.call q q (hV.nC (G2:=[(1,.obj (d'.cells a0)),(2,.obj [.aN,.aN,.aN,af aC,af aC]),(8,j bO.2.2),(9,.obj (cO.cells b1)),(10,j gz.2.2)]) (A:=[]) (ys:=[.ptr ⟨6,[]⟩ 0,j eF.At,af fZ.Name]) (args:=[.obj (ea.cells gz.1),j eF.At,af fZ.Name]) (cs':=[ak bt e2.aq.a6,ak bb e2.aq.bx,ak bI e2.aq.aX,af e2.aq.bB,af e2.aq.bE,ak bJ e2.b4,ak bb e2.b2,ak cA e2.bG,j e2.b7,j e2.cd,af e2.cb,j e2.b0,j e2.bD]) (k0:=0) q q q q (.b q (.n q (.n q .nil))) q (vq gz.1 eF.At fZ.Name _ ng) call94 (e1 q q q q q) q q (e1 q q q q q) .nil q)) q q q q (by kernel_rfl) (by kernel_rfl)<|bN.fin q q q (eI q q q q q q)) ?_;obtain rfl:=ax h;exact ah.bH (eI q q q q q q)
         ·refine W.bM ?_;obtain rfl:=ax h;exact ah.bH (eI q q q q q q)
        refine ah.a1 ?_;obtain ⟨h4,qi,h⟩:=aB h;refine W.Jl [1,2,6,7,8,9,10] ?_;refine ah.bp ?_;obtain rfl:=ax h;exact ah.bH (gv q q q q q q q)
      refine ah.a1<|W.bq [1,2,6,7,8,9,10] (bu q<|ai (O.add (.lit q) (.k q))<|av.bq [1,2,6,7,8,9,74] q<|av.aV) ?_;obtain rfl:=ax h;exact ah.go (gv q q q q q q q)
     ·refine W.de ?_;refine ah.dd ?_;obtain rfl:=ax h;exact ah.aI (e1 q q q q q)
    refine ah.df ?_;refine ah.bp ?_;refine ah.a1<|W.bq [1,2,6,7,8] (bu q<|ai (O.add (.lit q) (.k q))<|av.bq [1,2,6,7,47] q<|av.aV) ?_;obtain rfl:=ax h;exact ah.go (e1 q q q q q)
   ·refine W.de ?_;refine ah.dd ?_;obtain rfl:=ax h;exact ah.aI (dT q q q q)
  refine ah.df ?_;refine ah.a1<|W.a8 ?_;refine W.aY [1,2,6,7,11] ?_;refine W.bp ?_;obtain ⟨c3,ao,h⟩:=aB h;refine W.ck (G1:=[(1,_),(2,_),(6,_),(7,_),(11,_)]) (e1 q q q q q) ?_;refine W.eZ (s:=(cn.1,0)) (λ(mf:cR × Int)=>[(1,.obj (d'.cells a0)),(2,.obj [.aN,.aN,.aN,af aC,af aC]),(6,.obj (ea.cells mf.1)),(7,af cn.2),(11,j mf.2)]) 4 (λ(c3:cR)=>[(1,.obj (d'.cells a0)),(2,.obj [.aN,.aN,.aN,af aC,af aC]),(6,.obj (ea.cells c3)),(7,af cn.2)]) ao (λmf o h=>?_) ?_
  ·clear ao;refine W.a8<|W.aY [1,2,6,7,11,112] ?_;refine W.bF h q (λF9 h=>?_) (λF9 h=>?_)
   ·refine W.bM<|ah.a1 ?_;refine W.a8 ?_;obtain ⟨wi,aa,h⟩:=aB h;refine W.bH [(1,.obj (d'.cells a0)),(2,.obj [.aN,.aN,.aN,af aC,af aC]),(6,.obj (ea.cells wi)),(7,af cn.2),(11,j mf.2)] ?_ ?_
    ·clear h; have h:=aa; clear aa;refine W.bp ?_;obtain ⟨dS,vX,h⟩:=aB h;refine W.bP [1,2,6,7,11,12] (ai (O.bm q (.obj q) oz q)<|ai (O.c' (y:=aj gT a0.ei) q (.ptr q) p8 q q)<|bu q<|ai (O.cx (.aF q) (.lit q) pO vX)<|ai (O.jy (cs':=[af dS.Left,aj ef dS.fR,j dS.At]) (.bk q) EH q q)<|ai (O.fI (cs:=[af aC,.aN,j 0]) BO q q)<|av.dR (G2:=[(1,_),(2,_),(6,_),(7,_),(11,_),(12,_)]) (cs2:=[af dS.Left,aj ef dS.fR,j dS.At]) q (.obj q) (.cm q q) q IA q q q q (.n q q (.n q q (.n q q (.n q q (.n q q (.b q .nil))))))<|b3 q) ?_;refine W.a8 ?_;obtain ⟨jS,vY,h⟩:=aB h;refine W.bP [1,2,6,7,11,12,125] (ai (O.aA (.obj q))<|ai (O.bm q (.obj q) tX q)<|ai (O.cG q (.ptr q) e4 q)<|ai (O.e7 (cs:=[af dS.Left,a' false,j 0,j 0]) w0 qD q q q)<|dJ (cu.vw (ys:=[.ptr ⟨6,[]⟩ 0,.agg [af dS.Left,a' false,j 0,j 0]]) q (.c (View.ob q q) (.c (.sx (.s (.s (.s (.s .nil))))) .nil)) (E_ mf.1 (⟨dS.Left,false,0,0⟩:Sym) _ vY) call95 q)<|av.aV) ?_;obtain ⟨fA,aa,h⟩:=aB h;refine W.bH [(1,.obj (d'.cells a0)),(2,.obj [.aN,.aN,.aN,af aC,af aC]),(6,.obj (ea.cells fA)),(7,af cn.2),(11,j mf.2),(12,.obj (gT.cells dS))] ?_ ?_
     ·clear h; have h:=aa; clear aa;refine W.bF h q (λRZ h=>?_) (λRZ h=>?_)
      ·obtain ⟨hz,n4,h⟩:=aB h;refine W.bq [1,2,6,7,11,12] (ai (O.aA (.obj q))<|ai (O.bm q (.obj q) KP q)<|ai (O.cG q (.ptr q) cv q)<|ai (O.bm q (.obj q) tX q)<|ai (O.cG q (.ptr q) e4 q)<|av.hJ q (cq.call q q (hV.nC (G2:=[(1,.obj (d'.cells a0)),(2,.obj [.aN,.aN,.aN,af aC,af aC]),(7,af cn.2),(11,j mf.2),(12,.obj (gT.cells dS))]) (A:=[]) (ys:=[.ptr ⟨6,[]⟩ 0,j dS.At,af dS.Left]) (args:=[.obj (ea.cells mf.1),j dS.At,af dS.Left]) (cs':=[ak bt hz.aq.a6,ak bb hz.aq.bx,ak bI hz.aq.aX,af hz.aq.bB,af hz.aq.bE,ak bJ hz.b4,ak bb hz.b2,ak cA hz.bG,j hz.b7,j hz.cd,af hz.cb,j hz.b0,j hz.bD]) (k0:=0) q q q q (.b q (.n q (.n q .nil))) q (vq mf.1 dS.At dS.Left _ n4) call94 (e1 q q q q q) q q (e1 q q q q q) .nil q))<|b3 q) ?_;obtain rfl:=ax h;exact ah.bH (eI q q q q q q)
      ·refine W.bM ?_;obtain rfl:=ax h;exact ah.bH (eI q q q q q q)
     refine ah.a1 ?_;obtain ⟨ji,lJ,h⟩:=aB h;refine W.bP [1,2,6,7,11,12,136] (ai (O.aA (.obj q))<|ai (O.bm q (.obj q) tX q)<|ai (O.cG q (.ptr q) e4 q)<|dJ (cu.vw (ys:=[.ptr ⟨6,[]⟩ 0,af dS.Left]) q (.c (View.ob q q) (.s .nil)) (xJ fA dS.Left _ lJ) call96 q)<|av.aV) ?_;obtain ⟨Hn,aa,h⟩:=aB h;refine W.bH [(1,.obj (d'.cells a0)),(2,.obj [.aN,.aN,.aN,af aC,af aC]),(6,.obj [ak bt fA.aq.a6,ak bb fA.aq.bx,ak bI fA.aq.aX,af fA.aq.bB,af fA.aq.bE,ak bJ fA.b4,ak bb fA.b2,ak cA Hn,j fA.b7,j fA.cd,af fA.cb,j fA.b0,j fA.bD]),(7,af cn.2),(11,j mf.2)] ?_ ?_
     ·clear h; have h:=aa; clear aa;refine W.bF h q (λl3 h=>?_) (λl3 h=>?_)
      ·obtain ⟨nr,s6,h⟩:=aB h;refine W.rd [[],[],[1],[1,2],[1,2,3],[],[5],[5,6],aH 1 7 [],aH 0 9 [],aH 0 10 [],aH 0 11 []] [(1,_),(2,_),(6,_),(7,_),(11,_)] eM (by kernel_rfl) (ar 0 (O.aA (.obj q))<|ar 1 (O.aA (.obj q))<|ar 2 (O.e0 (.ptr q))<|ar 3 (O.bm q (.ptr q) xR q)<|ar 4 (O.c' (y:=.bo cA.z ⟨6,[7]⟩ fA.bG.length) q (.ptr q) zs q q)<|ar 5 (O.bm q (.obj q) tX q)<|ar 6 (O.cG q (.ptr q) e4 q)<|bN.gB 7 (x:=aj cA [dS.Left]) (O.dM (ys:=[af dS.Left]) cA [dS.Left] By q q q q q q Wd q q) q q q q .none<|ar 8 (O.ap (en:=cA) (r:=nr) (.bo q) q (.aF q) .i OG q s6)<|ar 9 (O.e0 (.ptr q))<|ar 10 (O.bm q (.ptr q) xR q)<|bN.jX 11 (G2:=[(1,.obj (d'.cells a0)),(2,.obj [.aN,.aN,.aN,af aC,af aC]),(6,.obj [ak bt fA.aq.a6,ak bb fA.aq.bx,ak bI fA.aq.aX,af fA.aq.bB,af fA.aq.bE,ak bJ fA.b4,ak bb fA.b2,ak cA (fA.bG++[dS.Left]),j fA.b7,j fA.cd,af fA.cb,j fA.b0,j fA.bD]),(7,af cn.2),(11,j mf.2)]) (cq.ml (g1:=_) (en:=cA) (M:=[dS.Left]) (cs2:=[ak bt fA.aq.a6,ak bb fA.aq.bx,ak bI fA.aq.aX,af fA.aq.bB,af fA.aq.bE,ak bJ fA.b4,ak bb fA.b2,ak cA (fA.bG++[dS.Left]),j fA.b7,j fA.cd,af fA.cb,j fA.b0,j fA.bD]) q q (.ptr q) (.b8 q) q q q .ly .hf q q VA q q q q (.n q q (.n q q (.b q (.n q q (.n q q .nil)))))) q q q q (by kernel_rfl) (by kernel_rfl)<|bN.fin q q q (e1 q q q q q)) ?_;obtain rfl:=ax h;exact ah.bH (e1 q q q q q)
      ·refine W.bM ?_;obtain rfl:=ax h;exact ah.bH (e1 q q q q q)
     refine ah.bp ?_;obtain rfl:=ax h;exact ah.bH (e1 q q q q q)
    refine ah.a1<|W.bq [1,2,6,7,11] (bu q<|ai (O.add (.lit q) (.k q))<|av.bq [1,2,6,7,114] q<|av.aV) ?_;obtain rfl:=ax h;exact ah.go (e1 q q q q q)
   ·refine W.de ?_;refine ah.dd ?_;obtain rfl:=ax h;exact ah.aI (dT q q q q)
  refine ah.df ?_;refine ah.a1<|W.a8 ?_;refine W.aY [1,2,6,7,13] ?_;refine W.bp ?_;obtain ⟨bY,ao,h⟩:=aB h;refine W.ck (G1:=[(1,_),(2,_),(6,_),(7,_),(13,_)]) (e1 q q q q q) ?_;refine W.eZ (s:=(c3,0)) (λ(mU:cR × Int)=>[(1,.obj (d'.cells a0)),(2,.obj [.aN,.aN,.aN,af aC,af aC]),(6,.obj (ea.cells mU.1)),(7,af cn.2),(13,j mU.2)]) 6 (λ(bY:cR)=>[(1,.obj (d'.cells a0)),(2,.obj [.aN,.aN,.aN,af aC,af aC]),(6,.obj (ea.cells bY)),(7,af cn.2)]) ao (λmU o h=>?_) ?_
  ·clear ao;refine W.a8<|W.aY [1,2,6,7,13,152] ?_;refine W.bF h q (λj' h=>?_) (λj' h=>?_)
   ·refine W.bM<|ah.a1 ?_;refine W.a8<|W.bp ?_;refine W.aY [1,2,6,7,13,14] ?_;refine W.bp ?_;obtain ⟨la,ao,h⟩:=aB h;refine W.ck (G1:=[(1,_),(2,_),(6,_),(7,_),(13,_),(14,_)]) (eI q q q q q q) ?_;refine W.eZ (s:=(mU.1,0)) (λ(mg:cR × Int)=>[(1,.obj (d'.cells a0)),(2,.obj [.aN,.aN,.aN,af aC,af aC]),(6,.obj (ea.cells mg.1)),(7,af cn.2),(13,j mU.2),(14,j mg.2)]) 8 (λ(la:cR)=>[(1,.obj (d'.cells a0)),(2,.obj [.aN,.aN,.aN,af aC,af aC]),(6,.obj (ea.cells la)),(7,af cn.2),(13,j mU.2)]) ao (λmg o h=>?_) ?_
    ·clear ao;refine W.a8 ?_;obtain ⟨tz,Di,h⟩:=aB h;refine W.aY [1,2,6,7,13,14,163] ?_;refine W.bF h q (λF_ h=>?_) (λF_ h=>?_)
     ·refine W.bM<|ah.a1 ?_;refine W.a8 ?_;obtain ⟨Hq,aa,h⟩:=aB h;refine W.bH [(1,.obj (d'.cells a0)),(2,.obj [.aN,.aN,.aN,af aC,af aC]),(6,.obj (ea.cells Hq)),(7,af cn.2),(13,j mU.2),(14,j mg.2)] ?_ ?_
      ·clear h; have h:=aa; clear aa;refine W.bp ?_;obtain ⟨yU,G8,h⟩:=aB h;obtain ⟨jj,r_,h⟩:=aB h;refine W.bP [1,2,6,7,13,14,15] (ai (O.bm q (.obj q) tT q)<|ai (O.c' (y:=aj cO a0.Decls) q (.ptr q) xL q q)<|bu q<|ai (O.cx (.aF q) (.lit q) tp G8)<|ai (O.dP (.bk q) rT)<|ai (O.cQ (x:=aj du yU.fg) (.bk q) sG q)<|bu q<|ai (O.cx (.aF q) (.lit q) rv r_)<|ai (O.jy (cs':=[af jj.Name,a' jj.Lit,j jj.c9,j jj.At]) (.bk q) lj q q)<|ai (O.fI (cs:=[af aC,a' false,j 0,j 0]) qD q q)<|av.dR (G2:=[(1,_),(2,_),(6,_),(7,_),(13,_),(14,_),(15,_)]) (cs2:=[af jj.Name,a' jj.Lit,j jj.c9,j jj.At]) q (.obj q) (.cm q q) q w5 q q q q (.n q q (.n q q (.n q q (.n q q (.n q q (.n q q (.b q .nil)))))))<|b3 q) ?_;obtain ⟨EV,aa,h⟩:=aB h;refine W.rs [(1,.obj (d'.cells a0)),(2,.obj [.aN,.aN,.aN,af aC,af aC]),(6,.obj (ea.cells mg.1)),(7,af cn.2),(13,j mU.2),(14,j mg.2),(15,.obj (du.cells jj)),(188,a' EV)] ?_ ?_
       ·refine ai (O.bm q (.obj q) tT q)<|ai (O.c' (y:=aj cO a0.Decls) q (.ptr q) xL q q)<|ai (O.aA (.lit q)) ?_;obtain ⟨IJ,Ts,aa⟩:=aB aa;refine ai (O.cx (.aF q) (.lit q) tp Ts)<|ai (O.dP (.bk q) pd)<|ai (O.cQ (x:=j IJ.Kind) (.bk q) cv q)<|ai (O.geq (.lit q) (.k q))<|ai (O.aA (.lit q)) ?_;rcases cB aa with ⟨vL,aa⟩ | ⟨vL,aa⟩
        ·refine a7 vL (O.aA (.obj q))<|a7 vL (O.bm q (.obj q) kB q)<|a7 vL (O.cG q (.ptr q) e4 q) ?_;obtain ⟨lN,qj,aa⟩:=aB aa;obtain rfl:=ax aa;exact av.c (cu.vw (ys:=[.ptr ⟨6,[]⟩ 0,af jj.Name]) q (.c (View.ob q q) (.s .nil)) (xJ mg.1 jj.Name _ qj) call96 q) q q (.jT q q vL)<|av.aV
        ·obtain rfl:=ax aa;exact av.aV
       obtain ⟨Hr,aa,h⟩:=aB h;refine W.bH [(1,.obj (d'.cells a0)),(2,.obj [.aN,.aN,.aN,af aC,af aC]),(6,.obj (ea.cells Hr)),(7,af cn.2),(13,j mU.2),(14,j mg.2)] ?_ ?_
       ·clear h; have h:=aa; clear aa;refine W.bF h q (λl5 h=>?_) (λl5 h=>?_)
        ·obtain ⟨mo,G9,h⟩:=aB h;refine W.bq [1,2,6,7,13,14] (ai (O.aA (.obj q))<|ai (O.bm q (.obj q) rX q)<|ai (O.cG q (.ptr q) cv q)<|ai (O.bm q (.obj q) kB q)<|ai (O.cG q (.ptr q) e4 q)<|av.hJ q (cq.call q q (hV.nC (G2:=[(1,.obj (d'.cells a0)),(2,.obj [.aN,.aN,.aN,af aC,af aC]),(7,af cn.2),(13,j mU.2),(14,j mg.2)]) (A:=[]) (ys:=[.ptr ⟨6,[]⟩ 0,j jj.At,af jj.Name]) (args:=[.obj (ea.cells mg.1),j jj.At,af jj.Name]) (cs':=[ak bt mo.aq.a6,ak bb mo.aq.bx,ak bI mo.aq.aX,af mo.aq.bB,af mo.aq.bE,ak bJ mo.b4,ak bb mo.b2,ak cA mo.bG,j mo.b7,j mo.cd,af mo.cb,j mo.b0,j mo.bD]) (k0:=0) q q q q (.b q (.n q (.n q .nil))) q (vq mg.1 jj.At jj.Name _ G9) call94 (e1 q q q q q) q q (e1 q q q q q) .nil q))<|b3 q) ?_;obtain rfl:=ax h;exact ah.bH (eI q q q q q q)
        ·refine W.bM ?_;obtain rfl:=ax h;exact ah.bH (eI q q q q q q)
       refine ah.bp ?_;obtain rfl:=ax h;exact ah.bH (eI q q q q q q)
      refine ah.a1<|W.bq [1,2,6,7,13,14] (bu q<|ai (O.add (.lit q) (.k q))<|av.bq [1,2,6,7,13,165] q<|av.aV) ?_;obtain rfl:=ax h;exact ah.go (eI q q q q q q)
     ·refine W.de ?_;refine ah.dd ?_;obtain rfl:=ax h;exact ah.aI (e1 q q q q q)
    refine ah.df ?_;refine ah.bp ?_;refine ah.a1<|W.bq [1,2,6,7,13] (bu q<|ai (O.add (.lit q) (.k q))<|av.bq [1,2,6,7,154] q<|av.aV) ?_;obtain rfl:=ax h;exact ah.go (e1 q q q q q)
   ·refine W.de ?_;refine ah.dd ?_;obtain rfl:=ax h;exact ah.aI (dT q q q q)
  refine ah.df ?_;refine ah.a1<|W.a8 ?_;refine W.aY [1,2,6,7,196] ?_;obtain ⟨s8,aa,h⟩:=aB h;refine W.bH [(1,.obj (d'.cells a0)),(2,.obj [.aN,.aN,.aN,af aC,af aC]),(6,.obj (ea.cells bY)),(7,af s8)] ?_ ?_
  ·clear h; have h:=aa; clear aa;refine W.bF h q (λR7 h=>?_) (λR7 h=>?_)
   ·obtain ⟨qB,vZ,h⟩:=aB h;refine W.bq [1,2,6,7] (ai (O.bm q (.obj q) oz q)<|ai (O.c' (y:=aj gT a0.ei) q (.ptr q) p8 q q)<|ai (O.cx (.aF q) (.k q) pO vZ)<|ai (O.dP (.bk q) tX)<|ai (O.cQ (x:=af qB.Left) (.bk q) e4 q)<|av.bq [1,2,6,201] q<|av.aV) ?_;obtain rfl:=ax h;exact ah.bH (dT q q q q)
   ·refine W.bM ?_;obtain rfl:=ax h;exact ah.bH (dT q q q q)
  refine ah.a1 ?_;obtain ⟨h6,Tw,h⟩:=aB h;refine W.bP [1,2,6] (ai (O.aA (.obj q))<|ai (O.aA (.obj q))<|bu q<|dJ (cu.vw (ys:=[.ptr ⟨6,[]⟩ 0,af s8]) q (.c (View.ob q q) (.s .nil)) (xJ bY s8 _ Tw) call96 q)<|ai (O.add (.k q) (.lit q))<|av.gB (x:=aj aM [aO (1001+h6)]) (O.dM (ys:=[j (aO (1001+h6))]) aM [aO (1001+h6)] eA q q q q q q nJ q q) q q .none<|av.gB (x:=.agg [j 0,aj aM [aO (1001+h6)],j (-1),af aC,aj aM ([]:List Int),j 0]) (O.e7 (cs:=[j 0,aj aM [aO (1001+h6)],j (-1),af aC,.aN,j 0]) Ik BL q q q) q q .none<|ai (O.dM (ys:=[.agg [j 0,aj aM [aO (1001+h6)],j (-1),af aC,aj aM ([]:List Int),j 0]]) bI [(⟨0,[aO (1001+h6)],(-1),aC,([]:List Int),0⟩:Prod)] nG q q q q q q IY q q)<|ai (O.e0 (.ptr q))<|ai (O.bm q (.ptr q) kl q)<|ai (O.bm q (.ptr q) my q)<|av.hJ (G2:=[(1,.obj (d'.cells a0)),(2,.obj [.aN,.aN,.aN,af aC,af aC]),(6,.obj [ak bt bY.aq.a6,ak bb bY.aq.bx,ak bI [(⟨0,[aO (1001+h6)],(-1),aC,([]:List Int),0⟩:Prod)],af bY.aq.bB,af bY.aq.bE,ak bJ bY.b4,ak bb bY.b2,ak cA bY.bG,j bY.b7,j bY.cd,af bY.cb,j bY.b0,j bY.bD])]) q (cq.ts (y':=ak bI [(⟨0,[aO (1001+h6)],(-1),aC,([]:List Int),0⟩:Prod)]) (cs2:=[ak bt bY.aq.a6,ak bb bY.aq.bx,ak bI [(⟨0,[aO (1001+h6)],(-1),aC,([]:List Int),0⟩:Prod)],af bY.aq.bB,af bY.aq.bE,ak bJ bY.b4,ak bb bY.b2,ak cA bY.bG,j bY.b7,j bY.cd,af bY.cb,j bY.b0,j bY.bD]) q q (.ptr q) (.own q) (.r q .nil) .refl q Iw q q q q q (.n q q (.n q q (.b q .nil))))<|b3 q) ?_;refine W.a8<|W.aY [1,2,6,16] ?_;refine W.bp ?_;obtain ⟨bc,ao,h⟩:=aB h;refine W.ck (G1:=[(1,_),(2,_),(6,.obj [ak bt (((⟨(⟨bY.aq.a6,bY.aq.bx,[(⟨0,[aO (1001+h6)],(-1),aC,([]:List Int),0⟩:Prod)],bY.aq.bB,bY.aq.bE⟩:bV),bY.b4,bY.b2,bY.bG,bY.b7,bY.cd,bY.cb,bY.b0,bY.bD⟩:cR).aq).a6),ak bb (((⟨(⟨bY.aq.a6,bY.aq.bx,[(⟨0,[aO (1001+h6)],(-1),aC,([]:List Int),0⟩:Prod)],bY.aq.bB,bY.aq.bE⟩:bV),bY.b4,bY.b2,bY.bG,bY.b7,bY.cd,bY.cb,bY.b0,bY.bD⟩:cR).aq).bx),ak bI (((⟨(⟨bY.aq.a6,bY.aq.bx,[(⟨0,[aO (1001+h6)],(-1),aC,([]:List Int),0⟩:Prod)],bY.aq.bB,bY.aq.bE⟩:bV),bY.b4,bY.b2,bY.bG,bY.b7,bY.cd,bY.cb,bY.b0,bY.bD⟩:cR).aq).aX),af (((⟨(⟨bY.aq.a6,bY.aq.bx,[(⟨0,[aO (1001+h6)],(-1),aC,([]:List Int),0⟩:Prod)],bY.aq.bB,bY.aq.bE⟩:bV),bY.b4,bY.b2,bY.bG,bY.b7,bY.cd,bY.cb,bY.b0,bY.bD⟩:cR).aq).bB),af (((⟨(⟨bY.aq.a6,bY.aq.bx,[(⟨0,[aO (1001+h6)],(-1),aC,([]:List Int),0⟩:Prod)],bY.aq.bB,bY.aq.bE⟩:bV),bY.b4,bY.b2,bY.bG,bY.b7,bY.cd,bY.cb,bY.b0,bY.bD⟩:cR).aq).bE),ak bJ ((⟨(⟨bY.aq.a6,bY.aq.bx,[(⟨0,[aO (1001+h6)],(-1),aC,([]:List Int),0⟩:Prod)],bY.aq.bB,bY.aq.bE⟩:bV),bY.b4,bY.b2,bY.bG,bY.b7,bY.cd,bY.cb,bY.b0,bY.bD⟩:cR).b4),ak bb ((⟨(⟨bY.aq.a6,bY.aq.bx,[(⟨0,[aO (1001+h6)],(-1),aC,([]:List Int),0⟩:Prod)],bY.aq.bB,bY.aq.bE⟩:bV),bY.b4,bY.b2,bY.bG,bY.b7,bY.cd,bY.cb,bY.b0,bY.bD⟩:cR).b2),ak cA ((⟨(⟨bY.aq.a6,bY.aq.bx,[(⟨0,[aO (1001+h6)],(-1),aC,([]:List Int),0⟩:Prod)],bY.aq.bB,bY.aq.bE⟩:bV),bY.b4,bY.b2,bY.bG,bY.b7,bY.cd,bY.cb,bY.b0,bY.bD⟩:cR).bG),j ((⟨(⟨bY.aq.a6,bY.aq.bx,[(⟨0,[aO (1001+h6)],(-1),aC,([]:List Int),0⟩:Prod)],bY.aq.bB,bY.aq.bE⟩:bV),bY.b4,bY.b2,bY.bG,bY.b7,bY.cd,bY.cb,bY.b0,bY.bD⟩:cR).b7),j ((⟨(⟨bY.aq.a6,bY.aq.bx,[(⟨0,[aO (1001+h6)],(-1),aC,([]:List Int),0⟩:Prod)],bY.aq.bB,bY.aq.bE⟩:bV),bY.b4,bY.b2,bY.bG,bY.b7,bY.cd,bY.cb,bY.b0,bY.bD⟩:cR).cd),af ((⟨(⟨bY.aq.a6,bY.aq.bx,[(⟨0,[aO (1001+h6)],(-1),aC,([]:List Int),0⟩:Prod)],bY.aq.bB,bY.aq.bE⟩:bV),bY.b4,bY.b2,bY.bG,bY.b7,bY.cd,bY.cb,bY.b0,bY.bD⟩:cR).cb),j ((⟨(⟨bY.aq.a6,bY.aq.bx,[(⟨0,[aO (1001+h6)],(-1),aC,([]:List Int),0⟩:Prod)],bY.aq.bB,bY.aq.bE⟩:bV),bY.b4,bY.b2,bY.bG,bY.b7,bY.cd,bY.cb,bY.b0,bY.bD⟩:cR).b0),j ((⟨(⟨bY.aq.a6,bY.aq.bx,[(⟨0,[aO (1001+h6)],(-1),aC,([]:List Int),0⟩:Prod)],bY.aq.bB,bY.aq.bE⟩:bV),bY.b4,bY.b2,bY.bG,bY.b7,bY.cd,bY.cb,bY.b0,bY.bD⟩:cR).bD)]),(16,_)]) (dT q q q q) ?_;refine W.eZ (s:=((⟨(⟨bY.aq.a6,bY.aq.bx,[(⟨0,[aO (1001+h6)],(-1),aC,([]:List Int),0⟩:Prod)],bY.aq.bB,bY.aq.bE⟩:bV),bY.b4,bY.b2,bY.bG,bY.b7,bY.cd,bY.cb,bY.b0,bY.bD⟩:cR),0)) (λ(nF:cR × Int)=>[(1,.obj (d'.cells a0)),(2,.obj [.aN,.aN,.aN,af aC,af aC]),(6,.obj (ea.cells nF.1)),(16,j nF.2)]) 10 (λ(bc:cR)=>[(1,.obj (d'.cells a0)),(2,.obj [.aN,.aN,.aN,af aC,af aC]),(6,.obj (ea.cells bc))]) ao (λnF o h=>?_) ?_
  ·clear ao;refine W.a8<|W.aY [1,2,6,16,217] ?_;refine W.bF h q (λR8 h=>?_) (λR8 h=>?_)
   ·refine W.bM<|ah.a1 ?_;refine W.a8<|W.bp ?_;refine W.aY [1,2,6,16,17] ?_;refine W.bp ?_;obtain ⟨kq,ao,h⟩:=aB h;refine W.ck (G1:=[(1,_),(2,_),(6,_),(16,_),(17,_)]) (e1 q q q q q) ?_;refine W.eZ (s:=(nF.1,0)) (λ(pN:cR × Int)=>[(1,.obj (d'.cells a0)),(2,.obj [.aN,.aN,.aN,af aC,af aC]),(6,.obj (ea.cells pN.1)),(16,j nF.2),(17,j pN.2)]) 12 (λ(kq:cR)=>[(1,.obj (d'.cells a0)),(2,.obj [.aN,.aN,.aN,af aC,af aC]),(6,.obj (ea.cells kq)),(16,j nF.2)]) ao (λpN o h=>?_) ?_
    ·clear ao;refine W.a8 ?_;obtain ⟨BJ,Me,h⟩:=aB h;refine W.aY [1,2,6,16,17,228] ?_;refine W.bF h q (λR_ h=>?_) (λR_ h=>?_)
     ·refine W.bM<|ah.a1 ?_;refine W.a8<|W.bp ?_;obtain ⟨yV,Ty,h⟩:=aB h;obtain ⟨IN,Tz,h⟩:=aB h;obtain ⟨rB,TA,h⟩:=aB h;obtain ⟨jE,TB,h⟩:=aB h;refine W.rd [[],[],[1],[],[1,2,3],[1,2,3,4],aH 1 5 [],[],[7],[],[7,8,9],[7,8,9,10],aH 7 5 [],[],aH 7 7 [],aH 7 8 [],aH 0 16 []] [(1,_),(2,_),(6,_),(16,_),(17,_)] eM (by kernel_rfl) (ar 0 (O.aA (.obj q))<|ar 1 (O.bm q (.obj q) oz q)<|ar 2 (O.c' (y:=aj gT a0.ei) q (.ptr q) p8 q q)<|ar 3 (O.aA (.lit q))<|ar 4 (O.cx (.aF q) (.lit q) pO Ty)<|ar 5 (O.dP (.bk q) tX)<|ar 6 (O.cQ (x:=af yV.Left) (.bk q) e4 q)<|ar 7 (O.bm q (.obj q) oz q)<|ar 8 (O.c' (y:=aj gT a0.ei) q (.ptr q) p8 q q)<|ar 9 (O.aA (.lit q))<|ar 10 (O.cx (.aF q) (.lit q) pO Tz)<|ar 11 (O.dP (.bk q) rZ)<|ar 12 (O.cQ (x:=aj ef IN.fR) (.bk q) vu q)<|ar 13 (O.aA (.lit q))<|ar 14 (O.cx (.aF q) (.lit q) u2 TA)<|ar 15 (O.jy (cs':=[aj fp rB.jJ,af rB.Prec.Name,a' rB.Prec.Lit,j rB.Prec.c9,j rB.Prec.At,j rB.At]) (.bk q) EG q q)<|bN.jX 16 (G2:=[(247,.cC []),(6,.obj [ak bt jE.aq.a6,ak bb jE.aq.bx,ak bI jE.aq.aX,af jE.aq.bB,af jE.aq.bE,ak bJ jE.b4,ak bb jE.b2,ak cA jE.bG,j jE.b7,j jE.cd,af jE.cb,j jE.b0,j jE.bD]),(1,.obj (d'.cells a0)),(2,.obj [.aN,.aN,.aN,af aC,af aC]),(16,j nF.2),(17,j pN.2)]) (cq.call q q (hV.nC (G2:=[(1,.obj (d'.cells a0)),(2,.obj [.aN,.aN,.aN,af aC,af aC]),(16,j nF.2),(17,j pN.2)]) (A:=[]) (ys:=[.ptr ⟨6,[]⟩ 0,af yV.Left,.agg (ef.cells rB)]) (args:=[.obj (ea.cells pN.1),af yV.Left,.agg (ef.cells rB)]) (cs':=[ak bt jE.aq.a6,ak bb jE.aq.bx,ak bI jE.aq.aX,af jE.aq.bB,af jE.aq.bE,ak bJ jE.b4,ak bb jE.b2,ak cA jE.bG,j jE.b7,j jE.cd,af jE.cb,j jE.b0,j jE.bD]) (k0:=0) q q q q (.b q (.n q (.n q .nil))) q (Ql pN.1 yV.Left rB _ TB) call97 (dT q q q q) q q (dT q q q q) .nil q)) q q q q (by kernel_rfl) (by kernel_rfl)<|bN.fin q q q (e1 q q q q q)) ?_;refine ah.bp ?_;refine ah.a1<|W.bq [1,2,6,16,17] (bu q<|ai (O.add (.lit q) (.k q))<|av.bq [1,2,6,16,230] q<|av.aV) ?_;obtain rfl:=ax h;exact ah.go (e1 q q q q q)
     ·refine W.de ?_;refine ah.dd ?_;obtain rfl:=ax h;exact ah.aI (dT q q q q)
    refine ah.df ?_;refine ah.bp ?_;refine ah.a1<|W.bq [1,2,6,16] (bu q<|ai (O.add (.lit q) (.k q))<|av.bq [1,2,6,219] q<|av.aV) ?_;obtain rfl:=ax h;exact ah.go (dT q q q q)
   ·refine W.de ?_;refine ah.dd ?_;obtain rfl:=ax h;exact ah.aI (dF q q q)
  refine ah.df ?_;refine ah.a1<|W.a8 ?_;refine W.aY [1,2,6,252] ?_;refine W.bF h q (λSa h=>?_) (λSa h=>?_)
  ·refine W.a8<|W.rd [[],[],[1],[1,2],[1,2,3],[],[5],[5,6],[5,6,7],[],[9],[9,10],[9,10,11],[0],aH 0 5 [13],aH 0 9 [13,14],aH 0 16 []] [(2,_),(3,_),(4,_),(5,_)] eM (by kernel_rfl) (ar 0 (O.e7 (cs:=[.aN,.aN,.aN,af aC,af aC]) Il oX q q q)<|ar 1 (O.aA (.obj q))<|ar 2 (O.e0 (.ptr q))<|ar 3 (O.bm q (.ptr q) zC q)<|ar 4 (O.cG q (.ptr q) cv q)<|ar 5 (O.aA (.obj q))<|ar 6 (O.e0 (.ptr q))<|ar 7 (O.bm q (.ptr q) zD q)<|ar 8 (O.cG q (.ptr q) cv q)<|ar 9 (O.aA (.obj q))<|ar 10 (O.e0 (.ptr q))<|ar 11 (O.bm q (.ptr q) zE q)<|ar 12 (O.cG q (.ptr q) e4 q)<|bN.e7 13 (G2:=[(2,.obj [.aN,.aN,.aN,af aC,af aC]),(6,.obj (ea.cells bc))]) (U:=[(12,265,some (af bc.cb)),(11,264,some (.ptr ⟨6,[]⟩ 10)),(10,263,some (.ptr ⟨6,[]⟩ 0)),(9,262,some (.ptr ⟨6,[]⟩ 0)),(8,261,some (j bc.cd)),(7,260,some (.ptr ⟨6,[]⟩ 9)),(6,259,some (.ptr ⟨6,[]⟩ 0)),(5,258,some (.ptr ⟨6,[]⟩ 0)),(4,257,some (j bc.b7)),(3,256,some (.ptr ⟨6,[]⟩ 8)),(2,255,some (.ptr ⟨6,[]⟩ 0)),(1,254,some (.ptr ⟨6,[]⟩ 0))]) (mu.v (cq.ox (cq.dR (G2:=[(2,.obj [.aN,.aN,.aN,af aC,af aC]),(6,.obj (ea.cells bc))]) (cs2:=[.aN,.aN,.aN,af aC,af aC]) q q q (.obj q) (.cm q q) q nI q q q q (.b q (.n q q .nil))))) q q (by kernel_rfl) q q q (.c (.inr (.inl ⟨_,q⟩)) q q q q q (gD.wanted .none) (O.cG q (.ptr q) e4 q) (.c (.inr (.inr (.inr (.inl ⟨6,_,_,q,q,jA q,by simp,_,q,jA q⟩)))) q q q q q (gD.wanted .none) (O.bm q (.ptr q) zE q) (.c (.inr (.inr (.inr (.inl ⟨6,_,_,q,q,jA q,by simp,_,q,jA q⟩)))) q q q q q (gD.wanted .none) (O.e0 (.ptr q)) (.c (.inr (.inr (.inr (.inl ⟨6,_,_,q,q,jA q,by simp,_,q,jA q⟩)))) q q q q q (gD.wanted .none) (O.aA (.obj q)) (.c (.inr (.inl ⟨_,q⟩)) q q q q q (gD.wanted .none) (O.cG q (.ptr q) cv q) (.c (.inr (.inr (.inr (.inl ⟨6,_,_,q,q,jA q,by simp,_,q,jA q⟩)))) q q q q q (gD.wanted .none) (O.bm q (.ptr q) zD q) (.c (.inr (.inr (.inr (.inl ⟨6,_,_,q,q,jA q,by simp,_,q,jA q⟩)))) q q q q q (gD.wanted .none) (O.e0 (.ptr q)) (.c (.inr (.inr (.inr (.inl ⟨6,_,_,q,q,jA q,by simp,_,q,jA q⟩)))) q q q q q (gD.wanted .none) (O.aA (.obj q)) (.c (.inr (.inl ⟨_,q⟩)) q q q q q (gD.wanted .none) (O.cG q (.ptr q) cv q) (.c (.inr (.inr (.inr (.inl ⟨6,_,_,q,q,jA q,by simp,_,q,jA q⟩)))) q q q q q (gD.wanted .none) (O.bm q (.ptr q) zC q) (.c (.inr (.inr (.inr (.inl ⟨6,_,_,q,q,jA q,by simp,_,q,jA q⟩)))) q q q q q (gD.wanted .none) (O.e0 (.ptr q)) (.c (.inr (.inr (.inr (.inl ⟨6,_,_,q,q,jA q,by simp,_,q,jA q⟩)))) q q q q q (gD.wanted .none) (O.aA (.obj q)) .nil)))))))))))) (by kernel_rfl)<|ar 14 (O.dz (.lit q))<|ar 15 (O.dz (.lit q))<|ar 16 (O.dz (.lit q))<|bN.fin q q q (dT q q q q)) ?_;refine ah.a1<|W.fM (G1:=[(2,.obj [aj bt ([]:List bC),aj bb ([]:List eY),aj bI ([]:List Prod),af aC,af aC]),(3,_),(4,_),(5,_)]) [2] (.z q q (gC.obj (.z (.z (.z (.f (.f .nil)))))) (.n q q (.n q q (.n q q .nil)))) ?_;refine W.rt ?_;refine ah.c0 ?_;obtain rfl:=ax h;exact cE (.c (ys0:=[aj bt ([]:List bC),aj bb ([]:List eY),aj bI ([]:List Prod),af aC,af aC]) q gm q q q (.f q (.f q (.f q (.f q (.f q .nil))))) (.f q q (.f q q (.f q q .nil))))
  ·refine W.bM<|ah.a1 ?_;refine W.bP [1,2,6] (ai (O.aA (.obj q))<|ai (O.e7 (cs:=[af ({ data:=#[36,97,99,99,101,112,116] }),af aC]) D1 BM q q q)<|ai (O.dM (ys:=[.agg [af ({ data:=#[36,97,99,99,101,112,116] }),af aC]]) bb [(⟨{ data:=#[36,97,99,99,101,112,116] },aC⟩:eY)] rr q q q q q q Ek q q)<|ai (O.e0 (.ptr q))<|ai (O.bm q (.ptr q) kl q)<|ai (O.bm q (.ptr q) rV q)<|av.hJ (G2:=[(1,.obj (d'.cells a0)),(2,.obj [.aN,.aN,.aN,af aC,af aC]),(6,.obj [ak bt bc.aq.a6,ak bb [(⟨{ data:=#[36,97,99,99,101,112,116] },aC⟩:eY)],ak bI bc.aq.aX,af bc.aq.bB,af bc.aq.bE,ak bJ bc.b4,ak bb bc.b2,ak cA bc.bG,j bc.b7,j bc.cd,af bc.cb,j bc.b0,j bc.bD])]) q (cq.ts (y':=ak bb [(⟨{ data:=#[36,97,99,99,101,112,116] },aC⟩:eY)]) (cs2:=[ak bt bc.aq.a6,ak bb [(⟨{ data:=#[36,97,99,99,101,112,116] },aC⟩:eY)],ak bI bc.aq.aX,af bc.aq.bB,af bc.aq.bE,ak bJ bc.b4,ak bb bc.b2,ak cA bc.bG,j bc.b7,j bc.cd,af bc.cb,j bc.b0,j bc.bD]) q q (.ptr q) (.own q) (.r q .nil) .refl q D' q q q q q (.n q q (.n q q (.b q .nil))))<|b3 q) ?_;refine W.a8<|W.aY [1,2,6,18] ?_;refine W.bp ?_;obtain ⟨u6,ao,h⟩:=aB h;refine W.ck (G1:=[(1,_),(2,_),(6,_),(18,_)]) (dT q q q q) ?_;refine W.eZ (s:=([(⟨{ data:=#[36,97,99,99,101,112,116] },aC⟩:eY)],0)) (λ(mV:List eY × Int)=>[(1,.obj (d'.cells a0)),(2,.obj [.aN,.aN,.aN,af aC,af aC]),(6,.obj [ak bt bc.aq.a6,ak bb mV.1,ak bI bc.aq.aX,af bc.aq.bB,af bc.aq.bE,ak bJ bc.b4,ak bb bc.b2,ak cA bc.bG,j bc.b7,j bc.cd,af bc.cb,j bc.b0,j bc.bD]),(18,j mV.2)]) 14 (λ(u6:List eY)=>[(1,.obj (d'.cells a0)),(2,.obj [.aN,.aN,.aN,af aC,af aC]),(6,.obj [ak bt bc.aq.a6,ak bb u6,ak bI bc.aq.aX,af bc.aq.bB,af bc.aq.bE,ak bJ bc.b4,ak bb bc.b2,ak cA bc.bG,j bc.b7,j bc.cd,af bc.cb,j bc.b0,j bc.bD])]) ao (λmV o h=>?_) ?_
   ·clear ao;refine W.a8<|W.aY [1,2,6,18,278] ?_;refine W.bF h q (λSb h=>?_) (λSb h=>?_)
    ·refine W.bM<|ah.a1 ?_;refine W.a8<|W.bp ?_;obtain ⟨mq,Mf,h⟩:=aB h;refine W.bP [1,2,6,18,19] (ai (O.aA (.obj q))<|ai (O.e0 (.ptr q))<|ai (O.bm q (.ptr q) xR q)<|ai (O.c' (y:=.bo cA.z ⟨6,[7]⟩ bc.bG.length) q (.ptr q) zs q q)<|bu q<|ai (O.g_ (en:=cA) q (.bo q) (.lit q) By Mf q)<|ai (O.jh (en:=cA) (x':=af mq) q (.ptr q) e4 Mf q q)<|ai (O.e7 (cs:=[af mq,af aC]) D1 BM q q q)<|ai (O.fI (cs:=[af aC,af aC]) BM q q)<|av.dR (G2:=[(1,_),(2,_),(6,_),(18,_),(19,_)]) (cs2:=[af mq,af aC]) q (.obj q) (.cm q q) q VB q q q q (.n q q (.n q q (.n q q (.n q q (.b q .nil)))))<|b3 q) ?_;refine W.a8 ?_;obtain ⟨w_,TC,h⟩:=aB h;refine W.bP [1,2,6,18,19,20] (ai (O.aA (.obj q))<|ai (O.bm q (.obj q) KG q)<|ai (O.cG q (.ptr q) e4 q)<|dJ (cu.vw (ys:=[.ptr ⟨6,[]⟩ 0,af mq]) q (.c (View.ob q q) (.s .nil)) (Kj (⟨(⟨bc.aq.a6,mV.1,bc.aq.aX,bc.aq.bB,bc.aq.bE⟩:bV),bc.b4,bc.b2,bc.bG,bc.b7,bc.cd,bc.cb,bc.b0,bc.bD⟩:cR) mq _ TC) call98 q)<|av.aV) ?_;refine W.aY [1,2,6,18,19,20,294] ?_;obtain ⟨qm,aa,h⟩:=aB h;refine W.bH [(1,.obj (d'.cells a0)),(2,.obj [.aN,.aN,.aN,af aC,af aC]),(6,.obj [ak bt bc.aq.a6,ak bb mV.1,ak bI bc.aq.aX,af bc.aq.bB,af bc.aq.bE,ak bJ bc.b4,ak bb bc.b2,ak cA bc.bG,j bc.b7,j bc.cd,af bc.cb,j bc.b0,j bc.bD]),(18,j mV.2),(19,.obj [af mq,af qm])] ?_ ?_
     ·clear h; have h:=aa; clear aa;refine W.bF h q (λSc h=>?_) (λSc h=>?_)
      ·obtain ⟨Ee,G_,h⟩:=aB h;refine W.bq [1,2,6,18,19] (ai (O.aA (.obj q))<|ai (O.e0 (.ptr q))<|ai (O.bm q (.ptr q) zB q)<|ai (O.c' (y:=.bo bb.z ⟨6,[6]⟩ bc.b2.length) q (.ptr q) rR q q)<|bu q<|ai (O.g_ (en:=bb) q (.bo q) (.lit q) rr G_ q)<|ai (O.kk (en:=bb) q (.ptr q) CF G_ q q)<|ai (O.jh (en:=bb) (x':=af Ee.Tag) q (.ptr q) e4 G_ q q)<|ai (O.bm q (.obj q) CF q)<|av.dR (G2:=[(1,_),(2,_),(6,_),(18,_),(19,_)]) (cs2:=[af mq,af Ee.Tag]) q (.ptr q) (.lit q) q w6 q q q q (.n q q (.n q q (.n q q (.n q q (.b q .nil)))))<|b3 q) ?_;obtain rfl:=ax h;exact ah.bH (e1 q q q q q)
      ·refine W.bM ?_;obtain rfl:=ax h;exact ah.bH (e1 q q q q q)
     refine ah.a1 ?_;obtain ⟨N8,TD,h⟩:=aB h;refine W.rd [[],[],[1],[1,2],[1,2,3],[1,2,3,4],[],[6],aH 1 7 [],aH 0 9 [],aH 0 10 [],aH 0 11 [],aH 0 12 []] [(1,_),(2,_),(6,_),(18,_)] eM (by kernel_rfl) (ar 0 (O.aA (.obj q))<|ar 1 (O.aA (.obj q))<|ar 2 (O.e0 (.ptr q))<|ar 3 (O.bm q (.ptr q) kl q)<|ar 4 (O.bm q (.ptr q) rV q)<|ar 5 (O.c' (y:=.bo bb.z ⟨6,[1]⟩ mV.1.length) q (.ptr q) rR q q)<|ar 6 (O.d_ (cs':=[af mq,af qm]) q (.obj q) OY q q)<|bN.gB 7 (x:=aj bb [(⟨mq,qm⟩:eY)]) (O.dM (ys:=[.agg [af mq,af qm]]) bb [(⟨mq,qm⟩:eY)] rr q q q q q q Ek q q) q q q q .none<|ar 8 (O.ap (en:=bb) (r:=N8) (.bo q) q (.aF q) .i EB q TD)<|ar 9 (O.e0 (.ptr q))<|ar 10 (O.bm q (.ptr q) kl q)<|ar 11 (O.bm q (.ptr q) rV q)<|bN.jX 12 (G2:=[(1,.obj (d'.cells a0)),(2,.obj [.aN,.aN,.aN,af aC,af aC]),(6,.obj [ak bt bc.aq.a6,ak bb (mV.1++[(⟨mq,qm⟩:eY)]),ak bI bc.aq.aX,af bc.aq.bB,af bc.aq.bE,ak bJ bc.b4,ak bb bc.b2,ak cA bc.bG,j bc.b7,j bc.cd,af bc.cb,j bc.b0,j bc.bD]),(18,j mV.2)]) (cq.ml (g1:=_) (en:=bb) (M:=[(⟨mq,qm⟩:eY)]) (cs2:=[ak bt bc.aq.a6,ak bb (mV.1++[(⟨mq,qm⟩:eY)]),ak bI bc.aq.aX,af bc.aq.bB,af bc.aq.bE,ak bJ bc.b4,ak bb bc.b2,ak cA bc.bG,j bc.b7,j bc.cd,af bc.cb,j bc.b0,j bc.bD]) q q (.ptr q) (.b8 q) q q q .ly .hf q q D' q q q q (.n q q (.n q q (.b q (.n q q .nil))))) q q q q (by kernel_rfl) (by kernel_rfl)<|bN.fin q q q (dT q q q q)) ?_;refine ah.bp ?_;refine ah.a1<|W.bq [1,2,6,18] (bu q<|ai (O.add (.lit q) (.k q))<|av.bq [1,2,6,280] q<|av.aV) ?_;obtain rfl:=ax h;exact ah.go (dT q q q q)
    ·refine W.de ?_;refine ah.dd ?_;obtain rfl:=ax h;exact ah.aI (dF q q q)
   refine ah.df ?_;refine ah.a1<|W.a8 ?_;refine W.aY [1,2,6,21] ?_;refine W.bp ?_;obtain ⟨iT,ao,h⟩:=aB h;refine W.ck (G1:=[(1,_),(2,_),(6,_),(21,_)]) (dT q q q q) ?_;refine W.eZ (s:=(u6,1)) (λ(og:List eY × Int)=>[(1,.obj (d'.cells a0)),(2,.obj [.aN,.aN,.aN,af aC,af aC]),(6,.obj [ak bt bc.aq.a6,ak bb og.1,ak bI bc.aq.aX,af bc.aq.bB,af bc.aq.bE,ak bJ bc.b4,ak bb bc.b2,ak cA bc.bG,j bc.b7,j bc.cd,af bc.cb,j bc.b0,j bc.bD]),(21,j og.2)]) 16 (λ(iT:List eY)=>[(1,.obj (d'.cells a0)),(2,.obj [.aN,.aN,.aN,af aC,af aC]),(6,.obj [ak bt bc.aq.a6,ak bb iT,ak bI bc.aq.aX,af bc.aq.bB,af bc.aq.bE,ak bJ bc.b4,ak bb bc.b2,ak cA bc.bG,j bc.b7,j bc.cd,af bc.cb,j bc.b0,j bc.bD])]) ao (λog o h=>?_) ?_
   ·clear ao;refine W.a8<|W.aY [1,2,6,21,321] ?_;refine W.bF h q (λSd h=>?_) (λSd h=>?_)
    ·refine W.bM<|ah.a1 ?_;refine W.a8<|W.bp ?_;obtain ⟨Ef,TE,h⟩:=aB h;obtain ⟨rC,TF,h⟩:=aB h;obtain ⟨N9,TG,h⟩:=aB h;refine W.rd [[],[],[1],[1,2],[1,2,3],[1,2,3,4],[],[6],[6,7],[6,7,8],[6,7,8,9],aH 1 10 [],aH 0 12 [],aH 0 13 [],aH 0 14 [],aH 0 15 []] [(1,_),(2,_),(6,_),(21,_)] eM (by kernel_rfl) (ar 0 (O.aA (.obj q))<|ar 1 (O.aA (.obj q))<|ar 2 (O.e0 (.ptr q))<|ar 3 (O.bm q (.ptr q) kl q)<|ar 4 (O.bm q (.ptr q) rV q)<|ar 5 (O.c' (y:=.bo bb.z ⟨6,[1]⟩ og.1.length) q (.ptr q) rR q q)<|ar 6 (O.aA (.lit q))<|iU 7 (cu.go (.bX (.lit q) .nil) (Qm og.2 _ TE) call99 q)<|ar 8 (O.cat (.k q) (.lit q) TF)<|ar 9 (O.e7 (cs:=[af rC,af aC]) D1 BM q q q)<|bN.gB 10 (x:=aj bb [(⟨rC,aC⟩:eY)]) (O.dM (ys:=[.agg [af rC,af aC]]) bb [(⟨rC,aC⟩:eY)] rr q q q q q q Ek q q) q q q q .none<|ar 11 (O.ap (en:=bb) (r:=N9) (.bo q) q (.aF q) .i EB q TG)<|ar 12 (O.e0 (.ptr q))<|ar 13 (O.bm q (.ptr q) kl q)<|ar 14 (O.bm q (.ptr q) rV q)<|bN.jX 15 (G2:=[(1,.obj (d'.cells a0)),(2,.obj [.aN,.aN,.aN,af aC,af aC]),(6,.obj [ak bt bc.aq.a6,ak bb (og.1++[(⟨rC,aC⟩:eY)]),ak bI bc.aq.aX,af bc.aq.bB,af bc.aq.bE,ak bJ bc.b4,ak bb bc.b2,ak cA bc.bG,j bc.b7,j bc.cd,af bc.cb,j bc.b0,j bc.bD]),(21,j og.2)]) (cq.ml (g1:=_) (en:=bb) (M:=[(⟨rC,aC⟩:eY)]) (cs2:=[ak bt bc.aq.a6,ak bb (og.1++[(⟨rC,aC⟩:eY)]),ak bI bc.aq.aX,af bc.aq.bB,af bc.aq.bE,ak bJ bc.b4,ak bb bc.b2,ak cA bc.bG,j bc.b7,j bc.cd,af bc.cb,j bc.b0,j bc.bD]) q q (.ptr q) (.b8 q) q q q .ly .hf q q D' q q q q (.n q q (.n q q (.b q (.n q q .nil))))) q q q q (by kernel_rfl) (by kernel_rfl)<|bN.fin q q q (dT q q q q)) ?_;refine ah.bp ?_;refine ah.a1<|W.bq [1,2,6,21] (bu q<|ai (O.add (.lit q) (.k q))<|av.bq [1,2,6,323] q<|av.aV) ?_;obtain rfl:=ax h;exact ah.go (dT q q q q)
    ·refine W.de ?_;refine ah.dd ?_;obtain rfl:=ax h;exact ah.aI (dF q q q)
   refine ah.df ?_;refine ah.a1<|W.aY [1,2,6,22] ?_;refine W.a8<|W.aY [1,2,6,22,23] ?_;refine W.bp ?_;obtain ⟨kt,ao,h⟩:=aB h;refine W.ck (G1:=[(1,_),(2,_),(6,_),(22,_),(23,_)]) (e1 q q q q q) ?_;refine W.eZ (s:=(bc.aq.a6,57346,3)) (λ(iJ:List bC × Int × Int)=>[(1,.obj (d'.cells a0)),(2,.obj [.aN,.aN,.aN,af aC,af aC]),(6,.obj [ak bt iJ.1,ak bb iT,ak bI bc.aq.aX,af bc.aq.bB,af bc.aq.bE,ak bJ bc.b4,ak bb bc.b2,ak cA bc.bG,j bc.b7,j bc.cd,af bc.cb,j bc.b0,j bc.bD]),(22,j iJ.2.1),(23,j iJ.2.2)]) 18 (λ(kt:List bC)=>[(1,.obj (d'.cells a0)),(2,.obj [.aN,.aN,.aN,af aC,af aC]),(6,.obj [ak bt kt,ak bb iT,ak bI bc.aq.aX,af bc.aq.bB,af bc.aq.bE,ak bJ bc.b4,ak bb bc.b2,ak cA bc.bG,j bc.b7,j bc.cd,af bc.cb,j bc.b0,j bc.bD])]) ao (λiJ o h=>?_) ?_
   ·clear ao;refine W.a8<|W.aY [1,2,6,22,23,346] ?_;refine W.bF h q (λSe h=>?_) (λSe h=>?_)
    ·refine W.bM<|ah.a1 ?_;refine W.a8 ?_;obtain ⟨AH,aa,h⟩:=aB h;refine W.bH [(1,.obj (d'.cells a0)),(2,.obj [.aN,.aN,.aN,af aC,af aC]),(6,.obj [ak bt AH.1,ak bb iT,ak bI bc.aq.aX,af bc.aq.bB,af bc.aq.bE,ak bJ bc.b4,ak bb bc.b2,ak cA bc.bG,j bc.b7,j bc.cd,af bc.cb,j bc.b0,j bc.bD]),(22,j AH.2),(23,j iJ.2.2)] ?_ ?_
     ·clear h; have h:=aa; clear aa;refine W.bp ?_;obtain ⟨IF,Mc,h⟩:=aB h;refine W.bP [1,2,6,22,23,356] (ai (O.aA (.obj q))<|ai (O.e0 (.ptr q))<|ai (O.bm q (.ptr q) xQ q)<|ai (O.c' (y:=.bo bJ.z ⟨6,[5]⟩ bc.b4.length) q (.ptr q) zr q q)<|bu q<|ai (O.g_ (en:=bJ) q (.bo q) (.lit q) oS Mc q)<|ai (O.jh (en:=bJ) (x':=a' IF) q (.ptr q) mx Mc q q)<|av.aV) ?_;obtain ⟨AE,aa,h⟩:=aB h;refine W.bH [(1,.obj (d'.cells a0)),(2,.obj [.aN,.aN,.aN,af aC,af aC]),(6,.obj [ak bt AE.1,ak bb iT,ak bI bc.aq.aX,af bc.aq.bB,af bc.aq.bE,ak bJ bc.b4,ak bb bc.b2,ak cA bc.bG,j bc.b7,j bc.cd,af bc.cb,j bc.b0,j bc.bD]),(22,j AE.2),(23,j iJ.2.2)] ?_ ?_
      ·clear h; have h:=aa; clear aa;refine W.bF h q (λRW h=>?_) (λRW h=>?_)
       ·obtain ⟨lA,GZ,h⟩:=aB h;refine W.bP [1,2,6,22,23] (ai (O.aA (.obj q))<|ai (O.e0 (.ptr q))<|ai (O.bm q (.ptr q) kl q)<|ai (O.bm q (.ptr q) oA q)<|ai (O.c' (y:=.bo bt.z ⟨6,[0]⟩ iJ.1.length) q (.ptr q) p9 q q)<|bu q<|bu q<|ai (O.g_ (en:=bt) q (.bo q) (.lit q) pP GZ q)<|ai (O.kk (en:=bt) q (.ptr q) zK GZ q q)<|av.hJ (G2:=[(1,.obj (d'.cells a0)),(2,.obj [.aN,.aN,.aN,af aC,af aC]),(6,.obj [ak bt (iJ.1.set iJ.2.2.toNat (⟨lA.Name,lA.Lit,iJ.2.1,lA.Level,lA.eC,lA.Tag⟩:bC)),ak bb iT,ak bI bc.aq.aX,af bc.aq.bB,af bc.aq.bE,ak bJ bc.b4,ak bb bc.b2,ak cA bc.bG,j bc.b7,j bc.cd,af bc.cb,j bc.b0,j bc.bD]),(22,j iJ.2.1),(23,j iJ.2.2)]) q (cq.pR (en:=bt) (y2:=(⟨lA.Name,lA.Lit,iJ.2.1,lA.Level,lA.eC,lA.Tag⟩:bC)) (cs':=[j iJ.2.1]) (x2:=.obj [ak bt (iJ.1.set iJ.2.2.toNat (⟨lA.Name,lA.Lit,iJ.2.1,lA.Level,lA.eC,lA.Tag⟩:bC)),ak bb iT,ak bI bc.aq.aX,af bc.aq.bB,af bc.aq.bE,ak bJ bc.b4,ak bb bc.b2,ak cA bc.bG,j bc.b7,j bc.cd,af bc.cb,j bc.b0,j bc.bD]) q q (.ptr q) (.lit q) q GZ nH q q q q q q q (.n q q (.n q q (.b q (.n q q (.n q q .nil))))))<|b3 q) ?_;refine W.bq [1,2,6,22,23] (bu q<|ai (O.add (.lit q) (.k q))<|av.bq [1,2,6,23,367] q<|av.aV) ?_;obtain rfl:=ax h;exact ah.bH (e1 q q q q q)
       ·refine W.bM ?_;obtain rfl:=ax h;exact ah.bH (e1 q q q q q)
      refine ah.bp ?_;obtain rfl:=ax h;exact ah.bH (e1 q q q q q)
     refine ah.a1<|W.bq [1,2,6,22,23] (bu q<|ai (O.add (.lit q) (.k q))<|av.bq [1,2,6,22,348] q<|av.aV) ?_;obtain rfl:=ax h;exact ah.go (e1 q q q q q)
    ·refine W.de ?_;refine ah.dd ?_;obtain rfl:=ax h;exact ah.aI (dF q q q)
   refine ah.df ?_;refine ah.a1 ?_;obtain ⟨qM,aa,h⟩:=aB h;refine W.rs [(1,.obj (d'.cells a0)),(2,.obj [.aN,.aN,.aN,af aC,af aC]),(6,.obj [ak bt kt,ak bb iT,ak bI bc.aq.aX,af bc.aq.bB,af bc.aq.bE,ak bJ bc.b4,ak bb bc.b2,ak cA bc.bG,j bc.b7,j bc.cd,af bc.cb,j bc.b0,j bc.bD]),(24,a' qM)] ?_ ?_
   ·refine ai (O.aA (.obj q))<|ai (O.e0 (.ptr q))<|ai (O.bm q (.ptr q) kl q)<|ai (O.bm q (.ptr q) oA q)<|ai (O.c' (y:=.bo bt.z ⟨6,[0]⟩ kt.length) q (.ptr q) p9 q q)<|ai (O.pH (.bo q) pP)<|ai (O.gtr (.lit q) (.k q))<|ai (O.aA (.lit q)) ?_;rcases cB aa with ⟨sU,aa⟩ | ⟨sU,aa⟩
    ·obtain rfl:=ax aa;exact av.aV
    ·refine a7 sU (O.aA (.obj q))<|a7 sU (O.e0 (.ptr q))<|a7 sU (O.bm q (.ptr q) kl q)<|a7 sU (O.bm q (.ptr q) rV q)<|a7 sU (O.c' (y:=.bo bb.z ⟨6,[1]⟩ iT.length) q (.ptr q) rR q q)<|a7 sU (O.pH (.bo q) rr)<|a7 sU (O.gtr (.lit q) (.k q))<|ai (O.cy (.lit q) sU (.lit q))<|ai (O.aA (.lit q)) ?_;rcases cB aa with ⟨Ln,aa⟩ | ⟨Ln,aa⟩
     ·obtain rfl:=ax aa;exact av.aV
     ·obtain rfl:=ax aa;exact a7 Ln (O.aA (.obj q))<|av.aV
   refine W.a8<|W.aY [1,2,6,24,25] ?_;refine W.bp ?_;obtain ⟨yR,ao,h⟩:=aB h;refine W.ck (G1:=[(1,_),(2,_),(6,_),(24,_),(25,_)]) (e1 q q q q q) ?_;refine W.eZ (s:=(qM,0)) (λ(sg:Bool × Int)=>[(1,.obj (d'.cells a0)),(2,.obj [.aN,.aN,.aN,af aC,af aC]),(6,.obj [ak bt kt,ak bb iT,ak bI bc.aq.aX,af bc.aq.bB,af bc.aq.bE,ak bJ bc.b4,ak bb bc.b2,ak cA bc.bG,j bc.b7,j bc.cd,af bc.cb,j bc.b0,j bc.bD]),(24,a' sg.1),(25,j sg.2)]) 20 (λ(yR:Bool)=>[(1,.obj (d'.cells a0)),(2,.obj [.aN,.aN,.aN,af aC,af aC]),(6,.obj [ak bt kt,ak bb iT,ak bI bc.aq.aX,af bc.aq.bB,af bc.aq.bE,ak bJ bc.b4,ak bb bc.b2,ak cA bc.bG,j bc.b7,j bc.cd,af bc.cb,j bc.b0,j bc.bD]),(24,a' yR)]) ao (λsg o h=>?_) ?_
   ·clear ao;refine W.a8<|W.aY [1,2,6,24,25,400] ?_;refine W.bF h q (λRX h=>?_) (λRX h=>?_)
    ·refine W.bM<|ah.a1 ?_;refine W.a8<|W.bp ?_;obtain ⟨EP,aa,h⟩:=aB h;refine W.rx [(1,.obj (d'.cells a0)),(2,.obj [.aN,.aN,.aN,af aC,af aC]),(6,.obj [ak bt kt,ak bb iT,ak bI bc.aq.aX,af bc.aq.bB,af bc.aq.bE,ak bJ bc.b4,ak bb bc.b2,ak cA bc.bG,j bc.b7,j bc.cd,af bc.cb,j bc.b0,j bc.bD]),(24,a' EP),(25,j sg.2)] ?_ ?_
     ·refine bu q<|ai (O.aA (.lit q)) ?_;rcases cB aa with ⟨j9,aa⟩ | ⟨j9,aa⟩
      ·obtain rfl:=ax aa;exact cL j9<|cL j9<|cL j9<|cL j9<|cL j9<|cL j9<|cL j9<|cL j9<|cL j9<|cL j9<|cL j9<|ai (O.dx (.lit q) j9 (.k q))<|av.bq [1,2,6,25,416] q<|av.aV
      ·refine a7 j9 (O.aA (.obj q))<|a7 j9 (O.e0 (.ptr q))<|a7 j9 (O.bm q (.ptr q) kl q)<|a7 j9 (O.bm q (.ptr q) my q)<|a7 j9 (O.c' (y:=.bo bI.z ⟨6,[2]⟩ bc.aq.aX.length) q (.ptr q) nS q q)<|a7 j9 (O.aA (.lit q)) ?_;obtain ⟨IG,G0,aa⟩:=aB aa;obtain rfl:=ax aa;exact a7 j9 (O.g_ (en:=bI) q (.bo q) (.lit q) nG G0 q)<|a7 j9 (O.kk (en:=bI) q (.ptr q) nc G0 q q)<|a7 j9 (O.jh (en:=bI) (x':=aj aM IG.fm) q (.ptr q) gE G0 q q)<|a7 j9 (O.gh (.aF q) eA)<|a7 j9 (O.gtr (.lit q) (.k q))<|ai (O.cy (.lit q) j9 (.lit q))<|av.bq [1,2,6,25,416] q<|av.aV
     refine ah.bp ?_;refine ah.a1<|W.bq [1,2,6,24,25] (bu q<|ai (O.add (.lit q) (.k q))<|av.bq [1,2,6,24,402] q<|av.aV) ?_;obtain rfl:=ax h;exact ah.go (e1 q q q q q)
    ·refine W.de ?_;refine ah.dd ?_;obtain rfl:=ax h;exact ah.aI (dT q q q q)
   refine ah.df ?_;refine ah.a1<|W.a8 ?_;refine W.aY [1,2,6,417] ?_;refine W.bF h q (λRY h=>?_) (λRY h=>?_)
   ·refine W.bP [2,3,4,5] (ai (O.e7 (cs:=[.aN,.aN,.aN,af aC,af aC]) Il oX q q q)<|av.dR (G2:=[(2,_)]) (cs2:=[.aN,.aN,.aN,af aC,af aC]) q (.obj q) (.cm q q) q nI q q q q (.b q .nil)<|av.aV) ?_;refine W.fM (G1:=[(2,.obj [aj bt ([]:List bC),aj bb ([]:List eY),aj bI ([]:List Prod),af aC,af aC]),(3,_),(4,_),(5,_)]) [2] (.z q q (gC.obj (.z (.z (.z (.f (.f .nil)))))) (.n q q (.n q q (.n q q .nil)))) ?_;refine W.rt ?_;refine ah.c0 ?_;obtain rfl:=ax h;exact cE (.c (ys0:=[aj bt ([]:List bC),aj bb ([]:List eY),aj bI ([]:List Prod),af aC,af aC]) q gm q q q (.f q (.f q (.f q (.f q (.f q .nil))))) (.f q q (.f q q (.f q q .nil))))
   ·refine W.bM<|ah.a1 ?_;refine W.a8<|W.rd [[],[],[],[2],[],[4],[0,2,3],[0,2,3,6],[0,2,3,6,7],[0,2,3,6,7,8],aH 0 10 [],aH 0 11 [],aH 0 12 [],aH 0 13 []] [(2,_),(6,_)] eM (by kernel_rfl) (ar 0 (O.aA (.obj q))<|ar 1 (O.aA (.obj q))<|ar 2 (O.bm q (.obj q) Fo q)<|ar 3 (O.cG q (.ptr q) e4 q)<|ar 4 (O.bm q (.obj q) Fp q)<|ar 5 (O.cG q (.ptr q) e4 q)<|ar 6 (O.e0 (.ptr q))<|ar 7 (O.bm q (.ptr q) kl q)<|ar 8 (O.bm q (.ptr q) KK q)<|bN.e7 9 (G2:=[(1,.obj (d'.cells a0)),(2,.obj [.aN,.aN,.aN,af aC,af aC]),(6,.obj [ak bt kt,ak bb iT,ak bI bc.aq.aX,af a0.bB,af bc.aq.bE,ak bJ bc.b4,ak bb bc.b2,ak cA bc.bG,j bc.b7,j bc.cd,af bc.cb,j bc.b0,j bc.bD])]) (U:=[(5,424,some (af a0.bE)),(4,423,some (.ptr ⟨1,[]⟩ 3)),(1,420,some (.ptr ⟨6,[]⟩ 0))]) (mu.v (cq.ox (cq.dR (G2:=[(1,.obj (d'.cells a0)),(2,.obj [.aN,.aN,.aN,af aC,af aC]),(6,.obj [ak bt kt,ak bb iT,ak bI bc.aq.aX,af a0.bB,af bc.aq.bE,ak bJ bc.b4,ak bb bc.b2,ak cA bc.bG,j bc.b7,j bc.cd,af bc.cb,j bc.b0,j bc.bD])]) (cs2:=[ak bt kt,ak bb iT,ak bI bc.aq.aX,af a0.bB,af bc.aq.bE,ak bJ bc.b4,ak bb bc.b2,ak cA bc.bG,j bc.b7,j bc.cd,af bc.cb,j bc.b0,j bc.bD]) q q q (.ptr q) (.lit q) q w6 q q q q (.n q q (.n q q (.b q .nil)))))) q q (by kernel_rfl) q q q (.c (.inr (.inl ⟨_,q⟩)) q q q q q (gD.wanted .none) (O.cG q (.ptr q) e4 q) (.c (.inr (.inr (.inr (.inl ⟨1,_,_,q,q,jA q,by simp,_,q,jA q⟩)))) q q q q q (gD.wanted .none) (O.bm q (.obj q) Fp q) (.c (.inr (.inr (.inr (.inl ⟨6,_,_,q,q,jA q,by simp,_,q,jA q⟩)))) q q q q q (gD.wanted .none) (O.aA (.obj q)) .nil))) (by kernel_rfl)<|ar 10 (O.e0 (.ptr q))<|ar 11 (O.bm q (.ptr q) kl q)<|ar 12 (O.bm q (.ptr q) KL q)<|bN.dR 13 (G2:=[(2,.obj [.aN,.aN,.aN,af aC,af aC]),(6,.obj [ak bt kt,ak bb iT,ak bI bc.aq.aX,af a0.bB,af a0.bE,ak bJ bc.b4,ak bb bc.b2,ak cA bc.bG,j bc.b7,j bc.cd,af bc.cb,j bc.b0,j bc.bD])]) (cs2:=[ak bt kt,ak bb iT,ak bI bc.aq.aX,af a0.bB,af a0.bE,ak bJ bc.b4,ak bb bc.b2,ak cA bc.bG,j bc.b7,j bc.cd,af bc.cb,j bc.b0,j bc.bD]) q (by kernel_rfl) (by kernel_rfl) q q q (.ptr q) (.lit q) q w6 q q q q (.n q q (.b q .nil))<|bN.fin q q q (ff q q)) ?_;refine ah.a1<|W.a8 ?_;refine W.fM (G1:=[(2,_),(6,.obj [aj bt kt,aj bb iT,aj bI bc.aq.aX,af a0.bB,af a0.bE,ak bJ bc.b4,ak bb bc.b2,ak cA bc.bG,j bc.b7,j bc.cd,af bc.cb,j bc.b0,j bc.bD])]) [6] (.n q q (.z q q (gC.obj (.z (.z (.z (.f (.f (.f (.f (.f (.f (.f (.f (.f (.f .nil)))))))))))))) .nil)) ?_;refine W.bq [2,3,4,5] (ai (O.aA (.obj q))<|ai (O.e0 (.ptr q))<|ai (O.bm q (.ptr q) kl q)<|ai (O.d_ (cs':=[aj bt kt,aj bb iT,aj bI bc.aq.aX,af a0.bB,af a0.bE]) q (.ptr q) gm q q)<|av.dR (G2:=[(2,_)]) (cs2:=[aj bt kt,aj bb iT,aj bI bc.aq.aX,af a0.bB,af a0.bE]) q (.obj q) (.cm q q) q nI q q q q (.b q .nil)<|av.aV) ?_;refine ah.a1<|W.rt ?_;obtain rfl:=ax h;exact cE (.c (ys0:=[aj bt kt,aj bb iT,aj bI bc.aq.aX,af a0.bB,af a0.bE]) q gm q q q (.f q (.f q (.f q (.f q (.f q .nil))))) (.f q q (.f q q (.f q q .nil))))
theorem P5 (a0:Source) (r:bV × Bool) (h:wL a0=some r):cc Try.prog 68 [.agg (d'.cells a0)] [none] (.cC [.agg (b_.cells r.1),a' r.2]):=by
 unfold wL at h;refine cc.go (N:=⟨18,[]⟩) Try.func68 q q q q (W.fin ?_);refine W.st [(0,.agg (d'.cells a0))] ?_;refine W.bP [1,2] (ai (O.box (.cm q q) q)<|ai (O.fI (cs:=[.aN,.aN,.aN,af aC,af aC]) oX q q)<|av.aV) ?_;obtain ⟨aI,fk,h⟩:=aB h;refine W.bP [2,4,5] (ai (O.d_ (cs':=[af a0.bB,aj cO a0.Decls,aj gT a0.ei,af a0.bE]) q (.obj q) rL q q)<|dJ (cu.go (.bX (.cm q q) .nil) (Qa a0 _ fk) call78 q)<|ai (O.aA (.cC q q))<|ai (O.ex (y:=.agg (b_.cells aI.1)) q q q)<|ai (O.ex (y:=j aI.2.1) q q q)<|ai (O.ex (y:=j aI.2.2.1) q q q)<|ai (O.ex (y:=af aI.2.2.2) q q q)<|ai (O.fI (cs:=[.aN,.aN,.aN,af aC,af aC]) oX q q)<|av.dR (G2:=[(2,_),(4,_),(12,_),(13,_),(14,_)]) (cs2:=[aj bt aI.1.a6,aj bb aI.1.bx,aj bI aI.1.aX,af aI.1.bB,af aI.1.bE]) q (.obj q) (.cm q q) q nI q q q q (.n q q (.b q (.n q q (.n q q (.n q q .nil)))))<|av.aV) ?_;refine W.bP [2,3] (ai (O.d_ (cs':=[aj bt aI.1.a6,aj bb aI.1.bx,aj bI aI.1.aX,af aI.1.bB,af aI.1.bE]) q (.obj q) gm q q)<|bu q<|ai (O.eql (.lit q) (.k q))<|av.dR (G2:=[(2,_),(17,_)]) (cs2:=[aj bt aI.1.a6,aj bb aI.1.bx,aj bI aI.1.aX,af aI.1.bB,af aI.1.bE]) q (.obj q) (.cm q q) q nI q q q q (.b q (.n q q .nil))<|av.aV) ?_;refine W.rt ?_;obtain rfl:=ax h;exact cE (.c (ys0:=[aj bt aI.1.a6,aj bb aI.1.bx,aj bI aI.1.aX,af aI.1.bB,af aI.1.bE]) q gm q q q (.f q (.f q (.f q (.f q (.f q .nil))))) (.f q q .nil))
theorem vp (a0:(List Int)) (ay:Int) (r:(List Int)) (h:oc a0 ay=some r):cc Try.prog 67 [aj aM a0,j ay] [none,none] (aj aM r):=by
 unfold oc at h;refine cc.go (N:=⟨47,[]⟩) Try.func67 q q q q (W.fin ?_);refine W.st [(0,aj aM a0),(1,j ay)] ?_;refine W.aY [0,1] ?_;refine W.aY [0,1,5] ?_;refine W.a8<|W.bp ?_;obtain ⟨x2,ao,h⟩:=aB h;refine W.ck (G1:=[(0,_),(1,_),(5,_)]) (dF q q q) ?_;refine W.eZ (s:=(a0.length:Int)) (λ(s1:Int)=>[(0,aj aM a0),(1,j ay),(5,j s1)]) 0 (λ(x2:Int)=>[(0,aj aM a0),(1,j ay),(5,j x2)]) ao (λs1 o h=>?_) ?_
 ·clear ao;refine W.a8 ?_;obtain ⟨vm,aa,h⟩:=aB h;refine W.rs [(0,aj aM a0),(1,j ay),(5,j s1),(19,a' vm)] ?_ ?_
  ·refine bu q<|ai (O.gtr (.lit q) (.k q))<|ai (O.aA (.lit q)) ?_;rcases cB aa with ⟨dq,aa⟩ | ⟨dq,aa⟩
   ·refine a7 dq (O.aA (.aF q))<|a7 dq (O.aA (.lit q))<|a7 dq (O.sub (.lit q) (.k q)) ?_;obtain ⟨cn,k5,aa⟩:=aB aa;obtain rfl:=ax aa;exact av.aV
   ·obtain rfl:=ax aa;exact av.aV
  refine W.bF h q (λcZ h=>?_) (λcZ h=>?_)
  ·refine W.bM<|ah.a1 ?_;refine W.bp<|W.bq [0,1,5] (bu q<|ai (O.sub (.lit q) (.k q))<|av.bq [0,1,21] q<|av.aV) ?_;refine ah.bp ?_;obtain rfl:=ax h;exact ah.go (dF q q q)
  ·refine W.de ?_;refine ah.dd ?_;obtain rfl:=ax h;exact ah.aI (dF q q q)
 refine ah.df ?_;refine ah.a1<|W.a8 ?_;obtain ⟨jn,aa,h⟩:=aB h;refine W.rs [(0,aj aM a0),(1,j ay),(5,j x2),(32,a' jn)] ?_ ?_
 ·refine bu q<|ai (O.gtr (.lit q) (.k q))<|ai (O.aA (.lit q)) ?_;rcases cB aa with ⟨cX,aa⟩ | ⟨cX,aa⟩
  ·refine a7 cX (O.aA (.aF q))<|a7 cX (O.aA (.lit q))<|a7 cX (O.sub (.lit q) (.k q)) ?_;obtain ⟨cp,jd,aa⟩:=aB aa;obtain rfl:=ax aa;exact av.aV
  ·obtain rfl:=ax aa;exact av.aV
 refine W.bF h q (λfw h=>?_) (λfw h=>?_)
 ·refine W.aY [4] ?_;refine W.rt ?_;refine ah.c0 ?_;obtain rfl:=ax h;exact cE (.f q q .nil)
 ·refine W.bM<|ah.a1 ?_;obtain ⟨cM,kG,h⟩:=aB h;obtain ⟨dC,jw,h⟩:=aB h;refine W.bP [0,1,5,6] (ai (O.dM (ys:=[]) aM ([]:List Int) eA q q q q q q nJ q q)<|ai (O.aA (.aF q))<|bu q<|ai (O.Iq (.aF q) (.lit q) eA kG)<|ai (O.ap (en:=aM) (r:=dC) (.own q) q (.aF q) .i p5 q jw)<|av.gN (G2:=[(0,aj aM a0),(1,j ay),(5,j x2)]) q (cq.o8 q q (.b8 q) q q q (.n q q (.n q q (.n q q .nil))) q q)<|b3 q) ?_;refine W.a8 ?_;obtain ⟨dU,kp,h⟩:=aB h;obtain ⟨dk,ia,h⟩:=aB h;obtain ⟨cr,lI,h⟩:=aB h;refine W.rd [[],[],[1],[0,1,2],[],[],[4,5],aH 0 7 [],aH 0 8 []] [(4,_)] eM (by kernel_rfl) (ar 0 (O.aA (.own q))<|ar 1 (O.aA (.lit q))<|bN.gB 2 (x:=aj aM [ay]) (O.dM (ys:=[j ay]) aM [ay] eA q q q q q q nJ q q) q q q q .none<|ar 3 (O.ap (en:=aM) (r:=dU) (.bo q) q (.aF q) .i p5 q kp)<|ar 4 (O.aA (.aF q))<|ar 5 (O.aA (.lit q))<|ar 6 (O.Ir (.aF q) (.lit q) eA ia)<|ar 7 (O.Jp (en:=aM) (r:=cr) (.b8 q) q q (.aF q) .i p5 q lI)<|bN.bv 8 (G2:=[]) (cq.Ji q q (.b8 q) q q q q q q .nil q q) q q q q (by kernel_rfl) (by kernel_rfl)<|bN.fin q q q (.n q .nil)) ?_;refine ah.a1<|W.fM (G1:=[(4,aj aM ((([]:List Int)++cM)++[ay]++dk))]) [4] (.z q q .jF .nil) ?_;refine W.rt ?_;obtain rfl:=ax h;exact cE (.f q q .nil)
theorem Kg (a0:(List Int)) (ay:Int) (r:Bool) (h:uQ a0 ay=some r):cc Try.prog 70 [aj aM a0,j ay] [none,none] (a' r):=by
 unfold uQ at h;refine cc.go (N:=⟨18,[]⟩) Try.func70 q q q q (W.fin ?_);refine W.st [(0,aj aM a0),(1,j ay)] ?_;refine W.aY [0,1] ?_;refine W.a8<|W.aY [0,1,5] ?_;refine W.bp ?_;obtain ⟨x2,ao,h⟩:=aB h;refine W.ck (G1:=[(0,_),(1,_),(5,_)]) (dF q q q) ?_;refine W.jz (s:=0) (λ(s1:Int)=>[(0,aj aM a0),(1,j ay),(5,j s1)]) 0 (λ(aZ:Unit)=>[]) (λ(bs:Bool)=>[(4,a' bs)]) ao (λs1 o h=>?_) (λaZ J=>?_) (λbs J=>?_)
 ·clear ao;refine W.a8<|W.aY [0,1,5,9] ?_;refine W.bF h q (λdO h=>?_) (λdO h=>?_)
  ·refine W.bM<|ah.a1 ?_;refine W.a8<|W.bp ?_;obtain ⟨br,fO,h⟩:=aB h;refine W.aY [0,1,5,17] ?_;refine W.bF h q (λcZ h=>?_) (λcZ h=>?_)
   ·refine W.aY [4] ?_;refine W.rt ?_;refine ah.dL ?_;refine ah.c0 ?_;obtain rfl:=ax h;exact ah.fY (.n q .nil)
   ·refine W.bM<|ah.bp ?_;refine ah.a1<|W.bq [0,1,5] (bu q<|ai (O.add (.lit q) (.k q))<|av.bq [0,1,11] q<|av.aV) ?_;obtain rfl:=ax h;exact ah.go (dF q q q)
  ·refine W.de ?_;refine ah.dd ?_;obtain rfl:=ax h;exact ah.x2 .nil
 ·subst J;refine ah.df ?_;refine ah.a1<|W.aY [4] ?_;refine W.rt ?_;obtain rfl:=ax h;exact cE (.f q q .nil)
 ·subst J;refine ah.dL ?_;refine ah.c0 ?_;obtain rfl:=ax h;exact cE (.f q q .nil)
theorem Qb (a0:bV) (r:(List Int)) (h:Bj a0=some r):cc Try.prog 79 [.agg (b_.cells a0)] [none] (aj aM r):=by
 unfold Bj at h;refine cc.go (N:=⟨30,[]⟩) Try.func79 q q q q (W.fin ?_);refine W.st [(0,.agg (b_.cells a0))] ?_;refine W.bP [1] (ai (O.box (.cm q q) q)<|av.aV) ?_;refine W.aY [1,3] ?_;refine W.a8<|W.aY [1,3,4] ?_;refine W.bp ?_;obtain ⟨x2,ao,h⟩:=aB h;refine W.ck (G1:=[(1,_),(3,ak aM ([]:List Int)),(4,_)]) (.n q (.w q q .pJ (.n q .nil))) ?_;refine W.eZ (s:=(([]:List Int),0)) (λ(s1:List Int × Int)=>[(1,.obj (b_.cells a0)),(3,ak aM s1.1),(4,j s1.2)]) 0 (λ(x2:List Int)=>[(1,.obj (b_.cells a0)),(3,ak aM x2)]) ao (λs1 o h=>?_) ?_
 ·clear ao;refine W.a8<|W.aY [1,3,4,10] ?_;refine W.bF h q (λdq h=>?_) (λdq h=>?_)
  ·refine W.bM<|ah.a1 ?_;refine W.a8<|W.bp ?_;obtain ⟨cn,k5,h⟩:=aB h;refine W.bq [1,3,4] (ai (O.aA (.own q))<|bu q<|av.gB (x:=aj aM [s1.2]) (O.dM (ys:=[j s1.2]) aM [s1.2] eA q q q q q q nJ q q) q q .none<|ai (O.ap (en:=aM) (r:=cn) (.bo q) q (.aF q) .i p5 q k5)<|av.gN (G2:=[(1,.obj (b_.cells a0)),(4,j s1.2)]) q (cq.o8 q q (.b8 q) q q q (.n q q (.n q q .nil)) q q)<|b3 q) ?_;refine ah.bp ?_;refine ah.a1<|W.bq [1,3,4] (bu q<|ai (O.add (.lit q) (.k q))<|av.bq [1,3,12] q<|av.aV) ?_;obtain rfl:=ax h;exact ah.go (dF q q q)
  ·refine W.de ?_;refine ah.dd ?_;obtain rfl:=ax h;exact ah.aI (ff q q)
 refine ah.df ?_;refine ah.a1<|W.a8 ?_;refine W.aY [1,3,5] ?_;refine W.bp ?_;obtain ⟨bj,ao,h⟩:=aB h;refine W.ck (G1:=[(1,_),(3,_),(5,_)]) (dF q q q) ?_;refine W.eZ (s:=(x2,0)) (λ(c_:List Int × Int)=>[(1,.obj (b_.cells a0)),(3,ak aM c_.1),(5,j c_.2)]) 2 (λ(bj:List Int)=>[(3,ak aM bj)]) ao (λc_ o h=>?_) ?_
 ·clear ao;refine W.a8<|W.aY [1,3,5,21] ?_;refine W.bF h q (λeH h=>?_) (λeH h=>?_)
  ·refine W.bM<|ah.a1 ?_;refine W.a8<|W.bp ?_;obtain ⟨bZ,jv,h⟩:=aB h;refine W.bq [1,3,5] (ai (O.aA (.own q))<|bu q<|ai (O.add (.k q) (.lit q))<|av.gB (x:=aj aM [aO (1000+c_.2)]) (O.dM (ys:=[j (aO (1000+c_.2))]) aM [aO (1000+c_.2)] eA q q q q q q nJ q q) q q .none<|ai (O.ap (en:=aM) (r:=bZ) (.bo q) q (.aF q) .i p5 q jv)<|av.gN (G2:=[(1,.obj (b_.cells a0)),(5,j c_.2)]) q (cq.o8 q q (.b8 q) q q q (.n q q (.n q q .nil)) q q)<|b3 q) ?_;refine ah.bp ?_;refine ah.a1<|W.bq [1,3,5] (bu q<|ai (O.add (.lit q) (.k q))<|av.bq [1,3,23] q<|av.aV) ?_;obtain rfl:=ax h;exact ah.go (dF q q q)
  ·refine W.de ?_;refine ah.dd ?_;obtain rfl:=ax h;exact ah.aI (.n q .nil)
 refine ah.df ?_;refine ah.a1<|W.bP [2] (ai (O.aA (.own q))<|av.gN (G2:=[]) q (cq.kT q q (.bo q) q .nil q q)<|b3 q) ?_;refine W.fM (G1:=[(2,aj aM bj)]) [2] (.z q q .jF .nil) ?_;refine W.rt ?_;obtain rfl:=ax h;exact cE (.f q q .nil)
theorem J2 (a0:bV) (ay:Item) (r:Bool) (h:yu a0 ay=some r):cc Try.prog 102 [.agg (b_.cells a0),.agg [j ay.Prod,j ay.dH]] [none,none] (a' r):=by
 unfold yu at h;refine cc.go (N:=⟨34,[]⟩) Try.func102 q q q q (W.fin ?_);refine W.st [(0,.agg (b_.cells a0)),(1,.agg [j ay.Prod,j ay.dH])] ?_;refine W.bP [2,3] (ai (O.box (.cm q q) q)<|ai (O.box (.cm q q) q)<|av.aV) ?_;refine W.a8 ?_;obtain ⟨kA,aa,h⟩:=aB h;refine W.rd [[],[0],[0,1],[0,1,2],[0,1,2,3],aH 0 5 [],[0,1,2,3],[0,1,2,3,6],[0,1,2,3,6,7],aH 0 9 [],aH 0 10 [],aH 0 11 [],aH 0 12 [],aH 0 13 [],aH 0 14 [],aH 0 15 [],aH 0 16 [],aH 0 17 [],aH 0 18 [],aH 0 17 [],aH 0 17 [19],aH 0 17 [],aH 0 17 [21],aH 0 17 [19,20,21,22],aH 0 17 (aH 19 5 []),aH 0 17 (aH 19 6 []),aH 0 17 (aH 19 7 []),aH 0 27 [],aH 0 28 [],aH 0 29 []] [(4,a' kA)] eM (by kernel_rfl) ?_ ?_
 ·refine ar 0 (O.bm q (.obj q) nw q)<|ar 1 (O.cG q (.ptr q) cv q)<|ar 2 (O.geq (.lit q) (.k q))<|ar 3 (O.aA (.lit q)) ?_;rcases cB aa with ⟨dw,aa⟩ | ⟨dw,aa⟩
  ·refine bg 4 dw (O.bm q (.obj q) nw q)<|bg 5 dw (O.cG q (.ptr q) cv q)<|bg 6 dw (O.bm q (.obj q) my q)<|bg 7 dw (O.c' (y:=aj bI a0.aX) q (.ptr q) nS q q)<|bg 8 dw (O.gh (.aF q) nG)<|bg 9 dw (O.lss (.lit q) (.lit q))<|ar 10 (O.dx (.lit q) dw (.lit q))<|ar 11 (O.aA (.lit q)) ?_;rcases cB aa with ⟨c6,aa⟩ | ⟨c6,aa⟩
   ·refine bg 12 c6 (O.bm q (.obj q) rU q)<|bg 13 c6 (O.cG q (.ptr q) cv q)<|bg 14 c6 (O.geq (.lit q) (.k q))<|ar 15 (O.dx (.lit q) c6 (.lit q))<|ar 16 (O.aA (.lit q)) ?_;rcases cB aa with ⟨fe,aa⟩ | ⟨fe,aa⟩
    ·refine bg 17 fe (O.bm q (.obj q) rU q)<|bg 18 fe (O.cG q (.ptr q) cv q)<|bg 19 fe (O.bm q (.obj q) my q)<|bg 20 fe (O.c' (y:=aj bI a0.aX) q (.ptr q) nS q q)<|bg 21 fe (O.bm q (.obj q) nw q)<|bg 22 fe (O.cG q (.ptr q) cv q) ?_;obtain ⟨bs,l',aa⟩:=aB aa;obtain rfl:=ax aa;exact bg 23 fe (O.cx (.aF q) (.lit q) nG l')<|bg 24 fe (O.dP (.bk q) nc)<|bg 25 fe (O.cQ (x:=aj aM bs.fm) (.bk q) gE q)<|bg 26 fe (O.gh (.aF q) eA)<|bg 27 fe (O.leq (.lit q) (.lit q))<|ar 28 (O.dx (.lit q) fe (.lit q))<|ar 29 (O.dz (.lit q))<|bN.fin q q q (.n q .nil)
    ·obtain rfl:=ax aa;exact aD 17 fe<|aD 18 fe<|aD 19 fe<|aD 20 fe<|aD 21 fe<|aD 22 fe<|aD 23 fe<|aD 24 fe<|aD 25 fe<|aD 26 fe<|aD 27 fe<|ar 28 (O.cy (.lit q) fe (.k q))<|ar 29 (O.dz (.lit q))<|bN.fin q q q (.n q .nil)
   ·obtain rfl:=ax aa;exact aD 12 c6<|aD 13 c6<|aD 14 c6<|ar 15 (O.cy (.lit q) c6 (.k q))<|ar 16 (O.aA (.lit q))<|aD 17 q<|aD 18 q<|aD 19 q<|aD 20 q<|aD 21 q<|aD 22 q<|aD 23 q<|aD 24 q<|aD 25 q<|aD 26 q<|aD 27 q<|ar 28 (O.cy (.lit q) q (.k q))<|ar 29 (O.dz (.lit q))<|bN.fin q q q (.n q .nil)
  ·obtain rfl:=ax aa;exact aD 4 dw<|aD 5 dw<|aD 6 dw<|aD 7 dw<|aD 8 dw<|aD 9 dw<|ar 10 (O.cy (.lit q) dw (.k q))<|ar 11 (O.aA (.lit q))<|aD 12 q<|aD 13 q<|aD 14 q<|ar 15 (O.cy (.lit q) q (.k q))<|ar 16 (O.aA (.lit q))<|aD 17 q<|aD 18 q<|aD 19 q<|aD 20 q<|aD 21 q<|aD 22 q<|aD 23 q<|aD 24 q<|aD 25 q<|aD 26 q<|aD 27 q<|ar 28 (O.cy (.lit q) q (.k q))<|ar 29 (O.dz (.lit q))<|bN.fin q q q (.n q .nil)
 refine ah.a1<|W.rt ?_;obtain rfl:=ax h;exact cE (.f q q .nil)
theorem E9 (a0:bV) (ay:Item) (r:Int) (h:tb a0 ay=some r):cc Try.prog 81 [.agg (b_.cells a0),.agg [j ay.Prod,j ay.dH]] [none,none] (j r):=by
 unfold tb at h;refine cc.go (N:=⟨33,[]⟩) Try.func81 q q q q (W.fin ?_);refine W.st [(0,.agg (b_.cells a0)),(1,.agg [j ay.Prod,j ay.dH])] ?_;refine W.bP [2,3] (ai (O.box (.cm q q) q)<|ai (O.box (.cm q q) q)<|av.aV) ?_;refine W.a8<|W.a8 ?_;obtain ⟨c4,aa,h⟩:=aB h;refine W.rd [[],[],[0,1],[0,1,2],[0,1,2,3],aH 0 5 [],aH 0 6 [],aH 0 5 [],aH 0 5 [7],aH 0 5 [],aH 0 5 [9],aH 0 5 [7,8,9,10],aH 0 5 (aH 7 5 []),aH 0 5 (aH 7 6 []),aH 0 5 (aH 7 7 []),aH 0 15 [],aH 0 16 []] [(2,.obj (b_.cells a0)),(3,.obj [j ay.Prod,j ay.dH]),(21,a' c4)] eM (by kernel_rfl) ?_ ?_
 ·refine ar 0 (O.d_ (cs':=[aj bt a0.a6,aj bb a0.bx,aj bI a0.aX,af a0.bB,af a0.bE]) q (.obj q) gm q q)<|ar 1 (O.d_ (cs':=[j ay.Prod,j ay.dH]) q (.obj q) p6 q q) ?_;obtain ⟨aI,fk,aa⟩:=aB aa;refine iU 2 (cu.go (.bX (.cm q q) (.bX (.cm q q) .nil)) (J2 a0 ay _ fk) call102 q)<|ar 3 (O.not (.lit q))<|ar 4 (O.aA (.lit q)) ?_;rcases cB aa with ⟨c6,aa⟩ | ⟨c6,aa⟩
  ·obtain rfl:=ax aa;exact aD 5 c6<|aD 6 c6<|aD 7 c6<|aD 8 c6<|aD 9 c6<|aD 10 c6<|aD 11 c6<|aD 12 c6<|aD 13 c6<|aD 14 c6<|aD 15 c6<|ar 16 (O.dx (.lit q) c6 (.k q))<|bN.fin q q q (dF q q q)
  ·refine bg 5 c6 (O.bm q (.obj q) rU q)<|bg 6 c6 (O.cG q (.ptr q) cv q)<|bg 7 c6 (O.bm q (.obj q) my q)<|bg 8 c6 (O.c' (y:=aj bI a0.aX) q (.ptr q) nS q q)<|bg 9 c6 (O.bm q (.obj q) nw q)<|bg 10 c6 (O.cG q (.ptr q) cv q) ?_;obtain ⟨aZ,hE,aa⟩:=aB aa;obtain rfl:=ax aa;exact bg 11 c6 (O.cx (.aF q) (.lit q) nG hE)<|bg 12 c6 (O.dP (.bk q) nc)<|bg 13 c6 (O.cQ (x:=aj aM aZ.fm) (.bk q) gE q)<|bg 14 c6 (O.gh (.aF q) eA)<|bg 15 c6 (O.eql (.lit q) (.lit q))<|ar 16 (O.cy (.lit q) c6 (.lit q))<|bN.fin q q q (dF q q q)
 refine ah.a1<|W.bF h q (λdO h=>?_) (λdO h=>?_)
 ·refine W.aY [4] ?_;refine W.rt ?_;refine ah.c0 ?_;obtain rfl:=ax h;exact cE (.f q q .nil)
 ·refine W.bM<|ah.a1 ?_;refine W.a8 ?_;obtain ⟨br,fO,h⟩:=aB h;obtain ⟨bj,gu,h⟩:=aB h;refine W.rd [[],[0],[],[2],[0,1,2,3],aH 0 5 [],aH 0 6 [],[],[7],aH 0 9 [],aH 0 10 [],aH 0 11 []] [(4,_)] eM (by kernel_rfl) (ar 0 (O.bm q (.obj q) my q)<|ar 1 (O.c' (y:=aj bI a0.aX) q (.ptr q) nS q q)<|ar 2 (O.bm q (.obj q) nw q)<|ar 3 (O.cG q (.ptr q) cv q)<|ar 4 (O.cx (.aF q) (.lit q) nG fO)<|ar 5 (O.dP (.bk q) nc)<|ar 6 (O.cQ (x:=aj aM br.fm) (.bk q) gE q)<|ar 7 (O.bm q (.obj q) rU q)<|ar 8 (O.cG q (.ptr q) cv q)<|ar 9 (O.cx (.aF q) (.lit q) eA gu)<|ar 10 (O.cQ (x:=j bj) (.bk q) cv q)<|ar 11 (O.dz (.lit q))<|bN.fin q q q (.n q .nil)) ?_;refine ah.a1<|W.rt ?_;obtain rfl:=ax h;exact cE (.f q q .nil)
theorem E4 (a0:(List Item)) (ay:Item) (r:(List Item)) (h:wB a0 ay=some r):cc Try.prog 101 [aj dj a0,.agg [j ay.Prod,j ay.dH]] [none,none] (aj dj r):=by
 unfold wB at h;refine cc.go (N:=⟨71,[]⟩) Try.func101 q q q q (W.fin ?_);refine W.st [(0,aj dj a0),(1,.agg [j ay.Prod,j ay.dH])] ?_;refine W.bP [0,3] (ai (O.box (.cm q q) q)<|av.aV) ?_;refine W.aY [0,3,5] ?_;refine W.a8<|W.bp ?_;obtain ⟨x2,ao,h⟩:=aB h;refine W.ck (G1:=[(0,_),(3,_),(5,_)]) (dF q q q) ?_;refine W.eZ (s:=(a0.length:Int)) (λ(s1:Int)=>[(0,aj dj a0),(3,.obj [j ay.Prod,j ay.dH]),(5,j s1)]) 0 (λ(x2:Int)=>[(0,aj dj a0),(3,.obj [j ay.Prod,j ay.dH]),(5,j x2)]) ao (λs1 o h=>?_) ?_
 ·clear ao;refine W.a8<|W.a8 ?_;obtain ⟨jn,aa,h⟩:=aB h;refine W.rd [[],[0],[0,1],[0,1,2],[0,1,2],[0,1,2,4],aH 0 6 [],aH 0 7 [],aH 0 8 [],[0,1,2],[0,1,2,9],aH 0 11 [],aH 0 12 [],aH 0 13 [],aH 0 13 [],aH 0 13 [14],aH 0 16 [],aH 0 17 [],aH 0 18 [],aH 0 13 [],aH 0 13 [19],aH 0 21 [],aH 0 22 [],aH 0 23 [],aH 0 23 [],aH 0 23 [24],aH 0 26 [],aH 0 27 [],aH 0 28 [],aH 0 23 [],aH 0 23 [29],aH 0 31 [],aH 0 32 [],aH 0 33 [],aH 0 34 []] [(0,aj dj a0),(3,.obj [j ay.Prod,j ay.dH]),(5,j s1),(43,a' jn)] eM (by kernel_rfl) ?_ ?_
  ·refine ar 0 (O.aA (.lit q))<|ar 1 (O.gtr (.lit q) (.k q))<|ar 2 (O.aA (.lit q)) ?_;rcases cB aa with ⟨dq,aa⟩ | ⟨dq,aa⟩
   ·refine bg 3 dq (O.aA (.aF q))<|bg 4 dq (O.aA (.lit q))<|bg 5 dq (O.sub (.lit q) (.k q)) ?_;obtain ⟨cn,k5,aa⟩:=aB aa;refine bg 6 dq (O.cx (.aF q) (.lit q) ke k5)<|bg 7 dq (O.dP (.bk q) nw)<|bg 8 dq (O.cQ (x:=j cn.Prod) (.bk q) cv q)<|bg 9 dq (O.bm q (.obj q) nw q)<|bg 10 dq (O.cG q (.ptr q) cv q)<|bg 11 dq (O.gtr (.lit q) (.lit q))<|bg 12 dq (O.aA (.lit q)) ?_;rcases cB aa with ⟨dV,aa⟩ | ⟨dV,aa⟩
    ·obtain rfl:=ax aa;exact aD 13 dV<|aD 14 dV<|aD 15 dV<|aD 16 dV<|aD 17 dV<|aD 18 dV<|aD 19 dV<|aD 20 dV<|aD 21 dV<|aD 22 dV<|bQ 23<|bQ 24<|bQ 25<|bQ 26<|bQ 27<|bQ 28<|bQ 29<|bQ 30<|bQ 31<|aD 32 dV<|bg 33 dq (O.dx (.lit q) dV (.k q))<|ar 34 (O.dx (.lit q) dq (.lit q))<|bN.fin q q q (dT q q q q)
    ·refine bg 13 dV (O.aA (.aF q))<|bg 14 dV (O.aA (.lit q))<|bg 15 dV (O.sub (.lit q) (.k q)) ?_;obtain ⟨bj,gu,aa⟩:=aB aa;refine bg 16 dV (O.cx (.aF q) (.lit q) ke gu)<|bg 17 dV (O.dP (.bk q) nw)<|bg 18 dV (O.cQ (x:=j bj.Prod) (.bk q) cv q)<|bg 19 dV (O.bm q (.obj q) nw q)<|bg 20 dV (O.cG q (.ptr q) cv q)<|bg 21 dV (O.eql (.lit q) (.lit q))<|bg 22 dV (O.aA (.lit q)) ?_;rcases cB aa with ⟨cX,aa⟩ | ⟨cX,aa⟩
     ·refine bg 23 cX (O.aA (.aF q))<|bg 24 cX (O.aA (.lit q))<|bg 25 cX (O.sub (.lit q) (.k q)) ?_;obtain ⟨cp,jd,aa⟩:=aB aa;obtain rfl:=ax aa;exact bg 26 cX (O.cx (.aF q) (.lit q) ke jd)<|bg 27 cX (O.dP (.bk q) rU)<|bg 28 cX (O.cQ (x:=j cp.dH) (.bk q) cv q)<|bg 29 cX (O.bm q (.obj q) rU q)<|bg 30 cX (O.cG q (.ptr q) cv q)<|bg 31 cX (O.gtr (.lit q) (.lit q))<|bg 32 dV (O.dx (.lit q) cX (.lit q))<|bg 33 dq (O.cy (.lit q) dV (.lit q))<|ar 34 (O.dx (.lit q) dq (.lit q))<|bN.fin q q q (dT q q q q)
     ·obtain rfl:=ax aa;exact aD 23 cX<|aD 24 cX<|aD 25 cX<|aD 26 cX<|aD 27 cX<|aD 28 cX<|aD 29 cX<|aD 30 cX<|aD 31 cX<|bg 32 dV (O.cy (.lit q) cX (.k q))<|bg 33 dq (O.cy (.lit q) dV (.lit q))<|ar 34 (O.dx (.lit q) dq (.lit q))<|bN.fin q q q (dT q q q q)
   ·obtain rfl:=ax aa;exact aD 3 dq<|aD 4 dq<|aD 5 dq<|aD 6 dq<|aD 7 dq<|aD 8 dq<|aD 9 dq<|aD 10 dq<|aD 11 dq<|aD 12 dq<|bQ 13<|bQ 14<|bQ 15<|bQ 16<|bQ 17<|bQ 18<|bQ 19<|bQ 20<|bQ 21<|bQ 22<|bQ 23<|bQ 24<|bQ 25<|bQ 26<|bQ 27<|bQ 28<|bQ 29<|bQ 30<|bQ 31<|bQ 32<|aD 33 dq<|ar 34 (O.cy (.lit q) dq (.k q))<|bN.fin q q q (dT q q q q)
  refine ah.a1<|W.bF h q (λfw h=>?_) (λfw h=>?_)
  ·refine W.bM<|ah.a1 ?_;refine W.bp<|W.bq [0,3,5] (bu q<|ai (O.sub (.lit q) (.k q))<|av.bq [0,3,45] q<|av.aV) ?_;refine ah.bp ?_;obtain rfl:=ax h;exact ah.go (dF q q q)
  ·refine W.de ?_;refine ah.dd ?_;obtain rfl:=ax h;exact ah.aI (dF q q q)
 refine ah.df ?_;refine ah.a1<|W.a8 ?_;refine W.a8 ?_;obtain ⟨sC,aa,h⟩:=aB h;refine W.rd [[],[0],[0,1],[0,1,2],[0,1,2],[0,1,2,4],aH 0 6 [],aH 0 7 [],[0,1,2],aH 0 9 [],aH 0 10 []] [(0,aj dj a0),(3,.obj [j ay.Prod,j ay.dH]),(5,j x2),(56,a' sC)] eM (by kernel_rfl) ?_ ?_
 ·refine ar 0 (O.aA (.lit q))<|ar 1 (O.gtr (.lit q) (.k q))<|ar 2 (O.aA (.lit q)) ?_;rcases cB aa with ⟨eG,aa⟩ | ⟨eG,aa⟩
  ·refine bg 3 eG (O.aA (.aF q))<|bg 4 eG (O.aA (.lit q))<|bg 5 eG (O.sub (.lit q) (.k q)) ?_;obtain ⟨dC,jw,aa⟩:=aB aa;obtain rfl:=ax aa;exact bg 6 eG (O.cx (.aF q) (.lit q) ke jw)<|bg 7 eG (O.jy (cs':=[j dC.Prod,j dC.dH]) (.bk q) p6 q q)<|bg 8 eG (O.d_ (cs':=[j ay.Prod,j ay.dH]) q (.obj q) p6 q q)<|bg 9 eG (O.QN (va:=[.int .i64 dC.Prod,.int .i64 dC.dH]) (vb:=[.int .i64 ay.Prod,.int .i64 ay.dH]) (.cm q q) (.cm q q) q q Kw)<|ar 10 (O.dx (.lit q) eG (.lit q))<|bN.fin q q q (dT q q q q)
  ·obtain rfl:=ax aa;exact aD 3 eG<|aD 4 eG<|aD 5 eG<|aD 6 eG<|aD 7 eG<|aD 8 eG<|aD 9 eG<|ar 10 (O.cy (.lit q) eG (.k q))<|bN.fin q q q (dT q q q q)
 refine ah.a1<|W.bF h q (λqX h=>?_) (λqX h=>?_)
 ·refine W.aY [4] ?_;refine W.rt ?_;refine ah.c0 ?_;obtain rfl:=ax h;exact cE (.f q q .nil)
 ·refine W.bM<|ah.a1 ?_;obtain ⟨cr,lI,h⟩:=aB h;obtain ⟨b9,ik,h⟩:=aB h;refine W.bP [0,3,5,6] (ai (O.dM (ys:=[]) dj ([]:List Item) ke q q q q q q IX q q)<|ai (O.aA (.aF q))<|bu q<|ai (O.Iq (.aF q) (.lit q) ke lI)<|ai (O.ap (en:=dj) (r:=b9) (.own q) q (.aF q) .i Ez q ik)<|av.gN (G2:=[(0,aj dj a0),(3,.obj [j ay.Prod,j ay.dH]),(5,j x2)]) q (cq.o8 q q (.b8 q) q q q (.n q q (.n q q (.n q q .nil))) q q)<|b3 q) ?_;refine W.a8 ?_;obtain ⟨eX,kc,h⟩:=aB h;obtain ⟨fC,pz,h⟩:=aB h;obtain ⟨eJ,q',h⟩:=aB h;refine W.rd [[],[],[1],[0,1,2],[],[],[4,5],aH 0 7 [],aH 0 8 []] [(4,_)] eM (by kernel_rfl) (ar 0 (O.aA (.own q))<|ar 1 (O.d_ (cs':=[j ay.Prod,j ay.dH]) q (.obj q) p6 q q)<|bN.gB 2 (x:=aj dj [ay]) (O.dM (ys:=[.agg [j ay.Prod,j ay.dH]]) dj [ay] ke q q q q q q IX q q) q q q q .none<|ar 3 (O.ap (en:=dj) (r:=eX) (.bo q) q (.aF q) .i Ez q kc)<|ar 4 (O.aA (.aF q))<|ar 5 (O.aA (.lit q))<|ar 6 (O.Ir (.aF q) (.lit q) ke pz)<|ar 7 (O.Jp (en:=dj) (r:=eJ) (.b8 q) q q (.aF q) .i Ez q q')<|bN.bv 8 (G2:=[]) (cq.Ji q q (.b8 q) q q q q q q .nil q q) q q q q (by kernel_rfl) (by kernel_rfl)<|bN.fin q q q (.n q .nil)) ?_;refine ah.a1<|W.fM (G1:=[(4,aj dj ((([]:List Item)++cr)++[ay]++fC))]) [4] (.z q q .jF .nil) ?_;refine W.rt ?_;obtain rfl:=ax h;exact cE (.f q q .nil)
theorem PG (a0:bV) (ay:(List Item)) (r:(List Item)) (h:A1 a0 ay=some r):cc Try.prog 100 [.agg (b_.cells a0),aj dj ay] [none,none] (aj dj r):=by
 unfold A1 at h;refine cc.go (N:=⟨26,[]⟩) Try.func100 q q q q (W.fin ?_);refine W.st [(0,.agg (b_.cells a0)),(1,aj dj ay)] ?_;refine W.bP [1,2] (ai (O.box (.cm q q) q)<|av.aV) ?_;refine W.aY [1,2,5] ?_;refine W.a8<|W.aY [1,2,5,6] ?_;refine W.bp ?_;obtain ⟨x2,ao,h⟩:=aB h;refine W.ck (G1:=[(1,_),(2,_),(5,aj dj ([]:List Item)),(6,_)]) (.n q (.n q (.w q q .yn (.n q .nil)))) ?_;refine W.eZ (s:=(([]:List Item),0)) (λ(s1:List Item × Int)=>[(1,aj dj ay),(2,.obj (b_.cells a0)),(5,aj dj s1.1),(6,j s1.2)]) 0 (λ(x2:List Item)=>[(5,aj dj x2)]) ao (λs1 o h=>?_) ?_
 ·clear ao;refine W.a8<|W.aY [1,2,5,6,10] ?_;refine W.bF h q (λdq h=>?_) (λdq h=>?_)
  ·refine W.bM<|ah.a1 ?_;refine W.a8 ?_;obtain ⟨mQ,aa,h⟩:=aB h;refine W.bH [(1,aj dj ay),(2,.obj (b_.cells a0)),(5,aj dj mQ),(6,j s1.2)] ?_ ?_
   ·clear h; have h:=aa; clear aa;refine W.bp<|W.a8 ?_;obtain ⟨br,fO,h⟩:=aB h;obtain ⟨bj,gu,h⟩:=aB h;refine W.rd [[],[],[],[1,2],[1,2,3],aH 0 5 []] [(1,_),(2,_),(5,_),(6,_),(18,_)] eM (by kernel_rfl) (ar 0 (O.d_ (cs':=[aj bt a0.a6,aj bb a0.bx,aj bI a0.aX,af a0.bB,af a0.bE]) q (.obj q) gm q q)<|ar 1 (O.aA (.aF q))<|ar 2 (O.aA (.lit q))<|ar 3 (O.cx (.aF q) (.lit q) ke fO)<|ar 4 (O.jy (cs':=[j br.Prod,j br.dH]) (.bk q) p6 q q)<|iU 5 (cu.go (.bX (.cm q q) (.bX (.cm q q) .nil)) (J2 a0 br _ gu) call102 q)<|bN.fin q q q (e1 q q q q q)) ?_;refine ah.a1 ?_;obtain ⟨j1,aa,h⟩:=aB h;refine W.bH [(1,aj dj ay),(2,.obj (b_.cells a0)),(5,aj dj j1),(6,j s1.2)] ?_ ?_
    ·clear h; have h:=aa; clear aa;refine W.bF h q (λeH h=>?_) (λeH h=>?_)
     ·obtain ⟨bZ,jv,h⟩:=aB h;obtain ⟨ct,iA,h⟩:=aB h;refine W.bq [1,2,5,6] (ai (O.aA (.aF q))<|ai (O.aA (.aF q))<|bu q<|ai (O.cx (.aF q) (.lit q) ke jv)<|ai (O.jy (cs':=[j bZ.Prod,j bZ.dH]) (.bk q) p6 q q)<|dJ (cu.go (.bX (.aF q) (.bX (.cm q q) .nil)) (E4 s1.1 bZ _ iA) call101 q)<|av.bq [1,2,6,24] q<|av.aV) ?_;obtain rfl:=ax h;exact ah.bH (dT q q q q)
     ·refine W.bM ?_;obtain rfl:=ax h;exact ah.bH (dT q q q q)
    refine ah.bp ?_;obtain rfl:=ax h;exact ah.bH (dT q q q q)
   refine ah.a1<|W.bq [1,2,5,6] (bu q<|ai (O.add (.lit q) (.k q))<|av.bq [1,2,5,12] q<|av.aV) ?_;obtain rfl:=ax h;exact ah.go (dT q q q q)
  ·refine W.de ?_;refine ah.dd ?_;obtain rfl:=ax h;exact ah.aI (.n q .nil)
 refine ah.df ?_;refine ah.a1<|W.aY [4] ?_;refine W.rt ?_;obtain rfl:=ax h;exact cE (.f q q .nil)
theorem E8 (a0:bV) (ay:(List Item)) (r:(List Item)) (h:wO a0 ay=some r):cc Try.prog 80 [.agg (b_.cells a0),aj dj ay] [none,none] (aj dj r):=by
 unfold wO at h;refine cc.go (N:=⟨59,[]⟩) Try.func80 q q q q (W.fin ?_);refine W.st [(0,.agg (b_.cells a0)),(1,aj dj ay)] ?_;refine W.bP [1,2] (ai (O.box (.cm q q) q)<|av.aV) ?_;obtain ⟨aI,fk,h⟩:=aB h;refine W.bP [2,5] (ai (O.d_ (cs':=[aj bt a0.a6,aj bb a0.bx,aj bI a0.aX,af a0.bB,af a0.bE]) q (.obj q) gm q q)<|ai (O.aA (.aF q))<|dJ (cu.go (.bX (.cm q q) (.bX (.aF q) .nil)) (PG a0 ay _ fk) call100 q)<|av.aV) ?_;refine W.a8<|W.aY [2,5,6] ?_;refine W.bp ?_;obtain ⟨aZ,ao,h⟩:=aB h;refine W.ck (G1:=[(2,_),(5,_),(6,_)]) (dF q q q) ?_;refine W.eZ (s:=(aI,(-1))) (λ(s2:List Item × Int)=>[(2,.obj (b_.cells a0)),(5,aj dj s2.1),(6,j s2.2)]) 0 (λ(aZ:List Item)=>[(5,aj dj aZ)]) ao (λs2 o h=>?_) ?_
 ·clear ao;refine W.a8<|W.aY [2,5,16] ?_;refine W.bF h q (λdO h=>?_) (λdO h=>?_)
  ·refine W.bM<|ah.a1 ?_;obtain ⟨jg,aa,h⟩:=aB h;refine W.bH [(2,.obj (b_.cells a0)),(5,aj dj jg.1),(6,j jg.2)] ?_ ?_
   ·clear h; have h:=aa; clear aa;refine W.bp<|W.aY [2,5,6] ?_;refine W.aY [2,5,6,7] ?_;obtain ⟨ma,aa,h⟩:=aB h;refine W.bH [(2,.obj (b_.cells a0)),(5,aj dj ma),(6,j (s2.1.length:Int))] ?_ ?_
    ·clear h; have h:=aa; clear aa;refine W.bp ?_;obtain ⟨cp,ao,h⟩:=aB h;refine W.ck (G1:=[(2,_),(5,_),(6,_),(7,_)]) (dT q q q q) ?_;refine W.eZ (s:=(s2.1,0)) (λ(cw:List Item × Int)=>[(2,.obj (b_.cells a0)),(5,aj dj cw.1),(6,j (s2.1.length:Int)),(7,j cw.2)]) 2 (λ(cp:List Item)=>[(2,.obj (b_.cells a0)),(5,aj dj cp),(6,j (s2.1.length:Int))]) ao (λcw o h=>?_) ?_
     ·clear ao;refine W.a8<|W.aY [2,5,6,7,21] ?_;refine W.bF h q (λfw h=>?_) (λfw h=>?_)
      ·refine W.bM<|ah.a1 ?_;refine W.a8<|W.bp ?_;refine W.a8 ?_;obtain ⟨cM,kG,h⟩:=aB h;obtain ⟨dC,jw,h⟩:=aB h;refine W.rd [[],[],[],[1,2],[1,2,3],aH 0 5 [],aH 0 6 []] [(2,_),(5,_),(6,_),(7,_),(8,_)] eM (by kernel_rfl) (ar 0 (O.d_ (cs':=[aj bt a0.a6,aj bb a0.bx,aj bI a0.aX,af a0.bB,af a0.bE]) q (.obj q) gm q q)<|ar 1 (O.aA (.aF q))<|ar 2 (O.aA (.lit q))<|ar 3 (O.cx (.aF q) (.lit q) ke kG)<|ar 4 (O.jy (cs':=[j cM.Prod,j cM.dH]) (.bk q) p6 q q)<|iU 5 (cu.go (.bX (.cm q q) (.bX (.cm q q) .nil)) (E9 a0 cM _ jw) call81 q)<|ar 6 (O.dz (.lit q))<|bN.fin q q q (e1 q q q q q)) ?_;refine ah.a1<|W.a8 ?_;refine W.aY [2,5,6,7,8,9] ?_;refine W.bp ?_;obtain ⟨dk,ao,h⟩:=aB h;refine W.ck (G1:=[(2,_),(5,_),(6,_),(7,_),(8,_),(9,_)]) (eI q q q q q q) ?_;refine W.eZ (s:=(cw.1,0)) (λ(iq:List Item × Int)=>[(2,.obj (b_.cells a0)),(5,aj dj iq.1),(6,j (s2.1.length:Int)),(7,j cw.2),(8,j dC),(9,j iq.2)]) 4 (λ(dk:List Item)=>[(2,.obj (b_.cells a0)),(5,aj dj dk),(6,j (s2.1.length:Int)),(7,j cw.2)]) ao (λiq o h=>?_) ?_
       ·clear ao;refine W.a8 ?_;obtain ⟨nQ,aa,h⟩:=aB h;refine W.rs [(2,.obj (b_.cells a0)),(5,aj dj iq.1),(6,j (s2.1.length:Int)),(7,j cw.2),(8,j dC),(9,j iq.2),(38,a' nQ)] ?_ ?_
        ·refine bu q<|ai (O.bm q (.obj q) my q)<|ai (O.c' (y:=aj bI a0.aX) q (.ptr q) nS q q)<|ai (O.gh (.aF q) nG)<|ai (O.lss (.lit q) (.lit q))<|ai (O.aA (.lit q)) ?_;rcases cB aa with ⟨vJ,aa⟩ | ⟨vJ,aa⟩
         ·obtain rfl:=ax aa;exact av.aV
         ·obtain rfl:=ax aa;exact av.aV
        refine W.bF h q (λhY h=>?_) (λhY h=>?_)
        ·refine W.bM<|ah.a1 ?_;refine W.a8 ?_;obtain ⟨AF,aa,h⟩:=aB h;refine W.bH [(2,.obj (b_.cells a0)),(5,aj dj AF),(6,j (s2.1.length:Int)),(7,j cw.2),(8,j dC),(9,j iq.2)] ?_ ?_
         ·clear h; have h:=aa; clear aa;refine W.bp ?_;obtain ⟨dN,mK,h⟩:=aB h;refine W.aY [2,5,6,7,8,9,49] ?_;obtain ⟨n_,aa,h⟩:=aB h;refine W.bH [(2,.obj (b_.cells a0)),(5,aj dj n_),(6,j (s2.1.length:Int)),(7,j cw.2),(8,j dC),(9,j iq.2)] ?_ ?_
          ·clear h; have h:=aa; clear aa;refine W.bF h q (λiF h=>?_) (λiF h=>?_)
           ·obtain ⟨fZ,lr,h⟩:=aB h;refine W.bq [2,5,6,7,8,9] (ai (O.aA (.aF q))<|bu q<|ai (O.e7 (cs:=[j iq.2,j 0]) Ij Eh q q q)<|dJ (cu.go (.bX (.aF q) (.bX (.cm q q) .nil)) (E4 iq.1 (⟨iq.2,0⟩:Item) _ lr) call101 q)<|av.bq [2,6,7,8,9,53] q<|av.aV) ?_;obtain rfl:=ax h;exact ah.bH (eI q q q q q q)
           ·refine W.bM ?_;obtain rfl:=ax h;exact ah.bH (eI q q q q q q)
          refine ah.bp ?_;obtain rfl:=ax h;exact ah.bH (eI q q q q q q)
         refine ah.a1<|W.bq [2,5,6,7,8,9] (bu q<|ai (O.add (.lit q) (.k q))<|av.bq [2,5,6,7,8,40] q<|av.aV) ?_;obtain rfl:=ax h;exact ah.go (eI q q q q q q)
        ·refine W.de ?_;refine ah.dd ?_;obtain rfl:=ax h;exact ah.aI (dT q q q q)
       refine ah.df ?_;refine ah.a1<|W.aY [2,5,6,7,57] ?_;refine W.bF h q (λi' h=>?_) (λi' h=>?_)
       ·refine W.de ?_;refine ah.O9 q ?_;refine ah.dd ?_;obtain rfl:=ax h;exact ah.aI (dF q q q)
       ·refine W.bM<|ah.bp ?_;refine ah.a1<|W.bq [2,5,6,7] (bu q<|ai (O.add (.lit q) (.k q))<|av.bq [2,5,6,23] q<|av.aV) ?_;obtain rfl:=ax h;exact ah.go (dT q q q q)
      ·refine W.de ?_;refine ah.dd ?_;obtain rfl:=ax h;exact ah.aI (dF q q q)
     refine ah.df ?_;obtain rfl:=ax h;exact ah.bH (dF q q q)
    refine ah.bp ?_;obtain rfl:=ax h;exact ah.bH (dF q q q)
   obtain rfl:=ax h;exact ah.go (dF q q q)
  ·refine W.de ?_;refine ah.dd ?_;obtain rfl:=ax h;exact ah.aI (.n q .nil)
 refine ah.df ?_;refine ah.a1<|W.aY [4] ?_;refine W.rt ?_;obtain rfl:=ax h;exact cE (.f q q .nil)
theorem Qc (a0:bV) (ay:(List Item)) (a2:Int) (r:(List Item)) (h:Bk a0 ay a2=some r):cc Try.prog 82 [.agg (b_.cells a0),aj dj ay,j a2] [none,none,none] (aj dj r):=by
 unfold Bk at h;refine cc.go (N:=⟨48,[]⟩) Try.func82 q q q q (W.fin ?_);refine W.st [(0,.agg (b_.cells a0)),(1,aj dj ay),(2,j a2)] ?_;refine W.bP [1,2,3] (ai (O.box (.cm q q) q)<|av.aV) ?_;refine W.aY [1,2,3,7] ?_;obtain ⟨aI,fk,h⟩:=aB h;refine W.bP [2,3,7,8] (ai (O.d_ (cs':=[aj bt a0.a6,aj bb a0.bx,aj bI a0.aX,af a0.bB,af a0.bE]) q (.obj q) gm q q)<|ai (O.aA (.aF q))<|dJ (cu.go (.bX (.cm q q) (.bX (.aF q) .nil)) (E8 a0 ay _ fk) call80 q)<|av.aV) ?_;refine W.a8<|W.aY [2,3,7,8,9] ?_;refine W.bp ?_;obtain ⟨aZ,ao,h⟩:=aB h;refine W.ck (G1:=[(2,_),(3,_),(7,aj dj ([]:List Item)),(8,_),(9,_)]) (.n q (.n q (.w q q .yn (ff q q)))) ?_;refine W.eZ (s:=(([]:List Item),0)) (λ(s2:List Item × Int)=>[(2,j a2),(3,.obj (b_.cells a0)),(7,aj dj s2.1),(8,aj dj aI),(9,j s2.2)]) 0 (λ(aZ:List Item)=>[(7,aj dj aZ)]) ao (λs2 o h=>?_) ?_
 ·clear ao;refine W.a8<|W.aY [2,3,7,8,9,17] ?_;refine W.bF h q (λdO h=>?_) (λdO h=>?_)
  ·refine W.bM<|ah.a1 ?_;refine W.a8 ?_;obtain ⟨jg,aa,h⟩:=aB h;refine W.bH [(2,j a2),(3,.obj (b_.cells a0)),(7,aj dj jg),(8,aj dj aI),(9,j s2.2)] ?_ ?_
   ·clear h; have h:=aa; clear aa;refine W.bp<|W.a8 ?_;obtain ⟨bj,gu,h⟩:=aB h;obtain ⟨b1,iB,h⟩:=aB h;refine W.rd [[],[],[],[1,2],[1,2,3],aH 0 5 [],aH 0 6 []] [(2,_),(3,_),(7,_),(8,_),(9,_),(10,_)] eM (by kernel_rfl) (ar 0 (O.d_ (cs':=[aj bt a0.a6,aj bb a0.bx,aj bI a0.aX,af a0.bB,af a0.bE]) q (.obj q) gm q q)<|ar 1 (O.aA (.aF q))<|ar 2 (O.aA (.lit q))<|ar 3 (O.cx (.aF q) (.lit q) ke gu)<|ar 4 (O.jy (cs':=[j bj.Prod,j bj.dH]) (.bk q) p6 q q)<|iU 5 (cu.go (.bX (.cm q q) (.bX (.cm q q) .nil)) (E9 a0 bj _ iB) call81 q)<|ar 6 (O.dz (.lit q))<|bN.fin q q q (eI q q q q q q)) ?_;refine ah.a1 ?_;obtain ⟨jn,aa,h⟩:=aB h;refine W.rs [(2,j a2),(3,.obj (b_.cells a0)),(7,aj dj s2.1),(8,aj dj aI),(9,j s2.2),(32,a' jn)] ?_ ?_
    ·refine bu q<|ai (O.geq (.lit q) (.k q))<|ai (O.aA (.lit q)) ?_;rcases cB aa with ⟨eH,aa⟩ | ⟨eH,aa⟩
     ·obtain rfl:=ax aa;exact av.aV
     ·obtain rfl:=ax aa;exact av.aV
    obtain ⟨gP,aa,h⟩:=aB h;refine W.bH [(2,j a2),(3,.obj (b_.cells a0)),(7,aj dj gP),(8,aj dj aI),(9,j s2.2)] ?_ ?_
    ·clear h; have h:=aa; clear aa;refine W.bF h q (λeG h=>?_) (λeG h=>?_)
     ·refine W.ck (G1:=[(2,_),(3,_),(7,_),(8,_),(9,_)]) (e1 q q q q q) ?_;obtain ⟨dC,jw,h⟩:=aB h;obtain ⟨dU,kp,h⟩:=aB h;obtain ⟨dk,ia,h⟩:=aB h;refine W.rd [[],[],[],[1,2],[1,2,3],[1,2,3,4],[],[],[6,7],[6,7,8],[6,7,8,9],aH 6 5 [],aH 1 11 [],aH 0 13 [],aH 0 14 []] [(2,_),(3,_),(7,_),(8,_),(9,_)] eM (by kernel_rfl) (ar 0 (O.aA (.aF q))<|ar 1 (O.aA (.aF q))<|ar 2 (O.aA (.lit q))<|ar 3 (O.cx (.aF q) (.lit q) ke jw)<|ar 4 (O.dP (.bk q) nw)<|ar 5 (O.cQ (x:=j dC.Prod) (.bk q) cv q)<|ar 6 (O.aA (.aF q))<|ar 7 (O.aA (.lit q))<|ar 8 (O.cx (.aF q) (.lit q) ke kp)<|ar 9 (O.dP (.bk q) rU)<|ar 10 (O.cQ (x:=j dU.dH) (.bk q) cv q)<|ar 11 (O.add (.lit q) (.k q))<|ar 12 (O.e7 (cs:=[j dC.Prod,j (aO (dU.dH+1))]) Ij Eh q q q)<|iU 13 (cu.go (.bX (.aF q) (.bX (.cm q q) .nil)) (E4 s2.1 (⟨dC.Prod,aO (dU.dH+1)⟩:Item) _ ia) call101 q)<|bN.bv 14 (G2:=[(2,j a2),(3,.obj (b_.cells a0)),(8,aj dj aI),(9,j s2.2)]) (cq.B7 (y':=aj dj dk) q q (.aF q) (.f .nil) .refl (dT q q q q) q q) q q q q (by kernel_rfl) (by kernel_rfl)<|bN.fin q q q (e1 q q q q q)) ?_;obtain rfl:=ax h;exact ah.bH (e1 q q q q q)
     ·refine W.bM ?_;obtain rfl:=ax h;exact ah.bH (e1 q q q q q)
    refine ah.bp ?_;obtain rfl:=ax h;exact ah.bH (e1 q q q q q)
   refine ah.a1<|W.bq [2,3,7,8,9] (bu q<|ai (O.add (.lit q) (.k q))<|av.bq [2,3,7,8,19] q<|av.aV) ?_;obtain rfl:=ax h;exact ah.go (e1 q q q q q)
  ·refine W.de ?_;refine ah.dd ?_;obtain rfl:=ax h;exact ah.aI (.n q .nil)
 refine ah.df ?_;refine ah.a1<|W.aY [6] ?_;refine W.rt ?_;obtain rfl:=ax h;exact cE (.f q q .nil)
theorem PH (a0:(List Item)) (ay:(List Item)) (r:Bool) (h:A2 a0 ay=some r):cc Try.prog 103 [aj dj a0,aj dj ay] [none,none] (a' r):=by
 unfold A2 at h;refine cc.go (N:=⟨26,[]⟩) Try.func103 q q q q (W.fin ?_);refine W.st [(0,aj dj a0),(1,aj dj ay)] ?_;refine W.aY [0,1] ?_;refine W.a8<|W.aY [0,1,10] ?_;refine W.bF h q (λdw h=>?_) (λdw h=>?_)
 ·refine W.aY [4] ?_;refine W.rt ?_;refine ah.c0 ?_;obtain rfl:=ax h;exact cE (.f q q .nil)
 ·refine W.bM<|ah.a1 ?_;refine W.a8<|W.aY [0,1,5] ?_;refine W.bp ?_;obtain ⟨aZ,ao,h⟩:=aB h;refine W.ck (G1:=[(0,_),(1,_),(5,_)]) (dF q q q) ?_;refine W.jz (s:=0) (λ(s2:Int)=>[(0,aj dj a0),(1,aj dj ay),(5,j s2)]) 0 (λ(bs:Unit)=>[]) (λ(cn:Bool)=>[(4,a' cn)]) ao (λs2 o h=>?_) (λbs J=>?_) (λcn J=>?_)
  ·clear ao;refine W.a8<|W.aY [0,1,5,14] ?_;refine W.bF h q (λdV h=>?_) (λdV h=>?_)
   ·refine W.bM<|ah.a1 ?_;refine W.a8<|W.bp ?_;refine W.a8 ?_;obtain ⟨bj,gu,h⟩:=aB h;obtain ⟨b1,iB,h⟩:=aB h;refine W.rd [[],[],[0,1],[0,1,2],[],[],[4,5],[4,5,6],aH 0 8 []] [(0,_),(1,_),(5,_),(25,_)] eM (by kernel_rfl) (ar 0 (O.aA (.aF q))<|ar 1 (O.aA (.lit q))<|ar 2 (O.cx (.aF q) (.lit q) ke gu)<|ar 3 (O.jy (cs':=[j bj.Prod,j bj.dH]) (.bk q) p6 q q)<|ar 4 (O.aA (.aF q))<|ar 5 (O.aA (.lit q))<|ar 6 (O.cx (.aF q) (.lit q) ke iB)<|ar 7 (O.jy (cs':=[j b1.Prod,j b1.dH]) (.bk q) p6 q q)<|ar 8 (O.Uk (va:=[.int .i64 bj.Prod,.int .i64 bj.dH]) (vb:=[.int .i64 b1.Prod,.int .i64 b1.dH]) (.cm q q) (.cm q q) q q Kw)<|bN.fin q q q (dT q q q q)) ?_;refine ah.a1<|W.bF h q (λeH h=>?_) (λeH h=>?_)
    ·refine W.aY [4] ?_;refine W.rt ?_;refine ah.dL ?_;refine ah.c0 ?_;obtain rfl:=ax h;exact ah.fY (.n q .nil)
    ·refine W.bM<|ah.bp ?_;refine ah.a1<|W.bq [0,1,5] (bu q<|ai (O.add (.lit q) (.k q))<|av.bq [0,1,16] q<|av.aV) ?_;obtain rfl:=ax h;exact ah.go (dF q q q)
   ·refine W.de ?_;refine ah.dd ?_;obtain rfl:=ax h;exact ah.x2 .nil
  ·subst J;refine ah.df ?_;refine ah.a1<|W.aY [4] ?_;refine W.rt ?_;obtain rfl:=ax h;exact cE (.f q q .nil)
  ·subst J;refine ah.dL ?_;refine ah.c0 ?_;obtain rfl:=ax h;exact cE (.f q q .nil)
theorem Qd (a0:(List State)) (ay:(List Item)) (r:Int) (h:Bl a0 ay=some r):cc Try.prog 83 [aj cI a0,aj dj ay] [none,none] (j r):=by
 unfold Bl at h;refine cc.go (N:=⟨20,[]⟩) Try.func83 q q q q (W.fin ?_);refine W.st [(0,aj cI a0),(1,aj dj ay)] ?_;refine W.aY [0,1] ?_;refine W.a8<|W.aY [0,1,5] ?_;refine W.bp ?_;obtain ⟨x2,ao,h⟩:=aB h;refine W.ck (G1:=[(0,_),(1,_),(5,_)]) (dF q q q) ?_;refine W.jz (s:=0) (λ(s1:Int)=>[(0,aj cI a0),(1,aj dj ay),(5,j s1)]) 0 (λ(aZ:Unit)=>[]) (λ(bs:Int)=>[(4,j bs)]) ao (λs1 o h=>?_) (λaZ J=>?_) (λbs J=>?_)
 ·clear ao;refine W.a8<|W.aY [0,1,5,9] ?_;refine W.bF h q (λdO h=>?_) (λdO h=>?_)
  ·refine W.bM<|ah.a1 ?_;refine W.a8<|W.bp ?_;obtain ⟨br,fO,h⟩:=aB h;obtain ⟨bj,gu,h⟩:=aB h;refine W.bP [0,1,5,18] (ai (O.aA (.aF q))<|bu q<|ai (O.cx (.aF q) (.lit q) kM fO)<|ai (O.dP (.bk q) vC)<|ai (O.cQ (x:=aj dj br.Kernel) (.bk q) vr q)<|ai (O.aA (.aF q))<|dJ (cu.go (.bX (.aF q) (.bX (.aF q) .nil)) (PH br.Kernel ay _ gu) call103 q)<|b3 q) ?_;refine W.bF h q (λcX h=>?_) (λcX h=>?_)
   ·refine W.aY [4] ?_;refine W.rt ?_;refine ah.dL ?_;refine ah.c0 ?_;obtain rfl:=ax h;exact ah.fY (.n q .nil)
   ·refine W.bM<|ah.bp ?_;refine ah.a1<|W.bq [0,1,5] (bu q<|ai (O.add (.lit q) (.k q))<|av.bq [0,1,11] q<|av.aV) ?_;obtain rfl:=ax h;exact ah.go (dF q q q)
  ·refine W.de ?_;refine ah.dd ?_;obtain rfl:=ax h;exact ah.x2 .nil
 ·subst J;refine ah.df ?_;refine ah.a1<|W.aY [4] ?_;refine W.rt ?_;obtain rfl:=ax h;exact cE (.f q q .nil)
 ·subst J;refine ah.dL ?_;refine ah.c0 ?_;obtain rfl:=ax h;exact cE (.f q q .nil)
end Go.Proofs
