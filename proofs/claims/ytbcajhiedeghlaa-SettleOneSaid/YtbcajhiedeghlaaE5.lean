/-
  What is proved here: parts of the proof that the last text states: rules for walks through code, and of this program's functions what they answer. No condition of their own.
-/
import Derived.Test.YtbcajhiedeghlaaRows
import Derived.Test.YtbcajhiedeghlaaE4
namespace Go.Proofs
open Go Go.Own
set_option maxRecDepth 100000
set_option linter.unusedVariables false
theorem Er:du Try.prog 23 0 0 3=true:=by kernel_rfl
theorem cz:hr Try.prog 3=true:=by kernel_rfl
theorem Jp:du Try.prog 23 1 1 3=true:=by kernel_rfl
theorem nQ:(Try.prog.info? 23).bind (·.zero)=some (.agg #[.int .i64 0,.int .i64 0]):=by kernel_rfl
theorem rv:ky Try.prog 23 [(0,1),(1,1)]=true:=by kernel_rfl
theorem oq:gp Try.prog 23 2=true:=by kernel_rfl
theorem oI:iH Try.prog 23 2=true:=by kernel_rfl
theorem j2:pW Try.prog 9=true:=by kernel_rfl
theorem call121:dw Try.prog 121=true:=by kernel_rfl
theorem call122:dw Try.prog 122=true:=by kernel_rfl
theorem call117:dw Try.prog 117=true:=by kernel_rfl
theorem uT:du Try.prog 88 1 1 4=true:=by kernel_rfl
theorem nu:hr Try.prog 4=true:=by kernel_rfl
theorem km:du Try.prog 88 0 0 9=true:=by kernel_rfl
theorem eZ:hr Try.prog 9=true:=by kernel_rfl
theorem uU:du Try.prog 88 2 2 3=true:=by kernel_rfl
theorem call120:dw Try.prog 120=true:=by kernel_rfl
theorem call111:dw Try.prog 111=true:=by kernel_rfl
theorem oN:du Try.prog 100 0 0 3=true:=by kernel_rfl
theorem q5:du Try.prog 100 2 2 98=true:=by kernel_rfl
theorem rX:hr Try.prog 98=true:=by kernel_rfl
theorem qF:fm Try.prog 98 88 4=true:=by kernel_rfl
theorem nx:du Try.prog 100 1 1 9=true:=by kernel_rfl
theorem k1:iH Try.prog 88 4=true:=by kernel_rfl
theorem call116:dw Try.prog 116=true:=by kernel_rfl
theorem e1:Try.prog.follows .mixedOrders=true:=by kernel_rfl
theorem call124:dw Try.prog 124=true:=by kernel_rfl
theorem call123:dw Try.prog 123=true:=by kernel_rfl
theorem r3:du Try.prog 93 0 0 91=true:=by kernel_rfl
theorem wR:hr Try.prog 91=true:=by kernel_rfl
theorem sJ:fm Try.prog 91 90 6=true:=by kernel_rfl
theorem Bo:iH Try.prog 90 6=true:=by kernel_rfl
theorem rD:(Try.prog.info? 90).bind (·.zero)=some (.agg #[.string { data:=#[] },.bool false,.int .i64 0,.int .i64 0,.string { data:=#[] },.int .i64 0]):=by kernel_rfl
theorem Hr:gp Try.prog 90 6=true:=by kernel_rfl
theorem q8:du Try.prog 90 1 4 9=true:=by kernel_rfl
theorem yK:du Try.prog 90 0 0 88=true:=by kernel_rfl
theorem call118:dw Try.prog 118=true:=by kernel_rfl
theorem call119:dw Try.prog 119=true:=by kernel_rfl
theorem ta:du Try.prog 93 1 1 88=true:=by kernel_rfl
theorem Es:du Try.prog 33 0 0 9=true:=by kernel_rfl
theorem s':du Try.prog 33 1 1 30=true:=by kernel_rfl
theorem wQ:hr Try.prog 30=true:=by kernel_rfl
theorem sG:fm Try.prog 30 100 4=true:=by kernel_rfl
theorem DL:iH Try.prog 100 4=true:=by kernel_rfl
theorem call110:dw Try.prog 110=true:=by kernel_rfl
theorem n1:du Try.prog 33 2 2 31=true:=by kernel_rfl
theorem py:hr Try.prog 31=true:=by kernel_rfl
theorem o_:fm Try.prog 31 96 3=true:=by kernel_rfl
theorem DN:iH Try.prog 96 3=true:=by kernel_rfl
theorem A3:(Try.prog.info? 96).bind (·.zero)=some (.agg #[.string { data:=#[] },.slice none 0 0,.int .i64 0]):=by kernel_rfl
theorem Hu:gp Try.prog 96 3=true:=by kernel_rfl
theorem tb:du Try.prog 96 0 0 9=true:=by kernel_rfl
theorem q9:du Try.prog 96 1 1 94=true:=by kernel_rfl
theorem uI:hr Try.prog 94=true:=by kernel_rfl
theorem uc:fm Try.prog 94 93 6=true:=by kernel_rfl
theorem DM:iH Try.prog 93 6=true:=by kernel_rfl
theorem call112:dw Try.prog 112=true:=by kernel_rfl
theorem yC:du Try.prog 169 4 8 3=true:=by kernel_rfl
theorem nk:gp Try.prog 3 1=true:=by kernel_rfl
theorem yD:du Try.prog 169 5 9 3=true:=by kernel_rfl
theorem yE:du Try.prog 169 6 10 9=true:=by kernel_rfl
theorem vW:gp Try.prog 9 1=true:=by kernel_rfl
theorem yB:du Try.prog 169 2 6 41=true:=by kernel_rfl
theorem rW:hr Try.prog 41=true:=by kernel_rfl
theorem ry:fm Try.prog 41 176 2=true:=by kernel_rfl
theorem Jo:du Try.prog 176 0 0 9=true:=by kernel_rfl
theorem j_:du Try.prog 169 0 0 44=true:=by kernel_rfl
theorem pz:du Try.prog 44 0 0 40=true:=by kernel_rfl
theorem q2:hr Try.prog 40=true:=by kernel_rfl
theorem qD:fm Try.prog 40 78 6=true:=by kernel_rfl
theorem Jv:du Try.prog 78 0 0 9=true:=by kernel_rfl
theorem Jw:du Try.prog 78 1 1 4=true:=by kernel_rfl
theorem NN:Bt Try.prog 4=true:=by kernel_rfl
theorem yJ:du Try.prog 78 2 2 3=true:=by kernel_rfl
theorem call95:dw Try.prog 95=true:=by kernel_rfl
theorem A2:(Try.prog.info? 78).bind (·.zero)=some (.agg #[.string { data:=#[] },.bool false,.int .i64 0,.int .i64 0,.int .i64 0,.string { data:=#[] }]):=by kernel_rfl
theorem C_:ky Try.prog 78 [(0,1),(1,1),(2,1),(3,1),(4,1),(5,1)]=true:=by kernel_rfl
theorem Ui:gp Try.prog 78 6=true:=by kernel_rfl
theorem CA:rn Try.prog 5 .u8=true:=by kernel_rfl
theorem vi:rn Try.prog 3 .i64=true:=by kernel_rfl
theorem call114:dw Try.prog 114=true:=by kernel_rfl
theorem q7:du Try.prog 88 3 3 3=true:=by kernel_rfl
theorem call94:dw Try.prog 94=true:=by kernel_rfl
theorem Ny:iH Try.prog 78 6=true:=by kernel_rfl
theorem ML:jT Try.prog 78 6=true:=by kernel_rfl
theorem Nd:iQ Try.prog 40 78 6 64=true:=by kernel_rfl
theorem Mn:gp Try.prog 40 1=true:=by kernel_rfl
theorem wV:du Try.prog 169 1 5 103=true:=by kernel_rfl
theorem yq:hr Try.prog 103=true:=by kernel_rfl
theorem UQ:jT Try.prog 4 1=true:=by kernel_rfl
theorem oo:fm Try.prog 103 4 1=true:=by kernel_rfl
theorem M_:iQ Try.prog 103 4 1 1=true:=by kernel_rfl
theorem Ua:gp Try.prog 103 1=true:=by kernel_rfl
theorem call98:dw Try.prog 98=true:=by kernel_rfl
theorem A1:(Try.prog.info? 176).bind (·.zero)=some (.agg #[.string { data:=#[] },.string { data:=#[] }]):=by kernel_rfl
theorem C9:ky Try.prog 176 [(0,1),(1,1)]=true:=by kernel_rfl
theorem Du:jT Try.prog 176 2=true:=by kernel_rfl
theorem DI:iQ Try.prog 41 176 2 32=true:=by kernel_rfl
theorem Dg:gp Try.prog 41 1=true:=by kernel_rfl
theorem BS:du Try.prog 176 1 1 9=true:=by kernel_rfl
theorem call113:dw Try.prog 113=true:=by kernel_rfl
theorem BT:du Try.prog 78 3 3 3=true:=by kernel_rfl
theorem BR:du Try.prog 169 7 11 3=true:=by kernel_rfl
theorem Eu:du Try.prog 78 4 4 3=true:=by kernel_rfl
theorem ud:gp Try.prog 4 1=true:=by kernel_rfl
theorem BU:du Try.prog 78 5 5 9=true:=by kernel_rfl
theorem wW:du Try.prog 169 3 7 167=true:=by kernel_rfl
theorem yr:hr Try.prog 167=true:=by kernel_rfl
theorem AL:fm Try.prog 167 9 1=true:=by kernel_rfl
theorem call96:dw Try.prog 96=true:=by kernel_rfl
theorem Jz:du Try.prog 93 2 5 3=true:=by kernel_rfl
theorem A0:(Try.prog.info? 148).bind (·.zero)=some (.agg #[.int .i64 0,.slice none 0 0,.int .i64 0,.string { data:=#[] },.slice none 0 0,.int .i64 0]):=by kernel_rfl
theorem Hf:ky Try.prog 148 [(0,1),(1,1),(2,1),(3,1),(4,1),(5,1)]=true:=by kernel_rfl
theorem Mk:gp Try.prog 148 6=true:=by kernel_rfl
theorem mE:du Try.prog 148 1 1 29=true:=by kernel_rfl
theorem gX:hr Try.prog 29=true:=by kernel_rfl
theorem call115:dw Try.prog 115=true:=by kernel_rfl
theorem nm:jT Try.prog 3 1=true:=by kernel_rfl
theorem eI:fm Try.prog 29 3 1=true:=by kernel_rfl
theorem pt:iQ Try.prog 29 3 1 8=true:=by kernel_rfl
theorem vU:gp Try.prog 29 1=true:=by kernel_rfl
theorem BV:du Try.prog 90 2 5 3=true:=by kernel_rfl
theorem Jl:du Try.prog 148 3 3 9=true:=by kernel_rfl
theorem Jn:du Try.prog 148 5 5 3=true:=by kernel_rfl
theorem yF:du Try.prog 169 8 12 3=true:=by kernel_rfl
theorem l5:du Try.prog 44 2 2 42=true:=by kernel_rfl
theorem nv:hr Try.prog 42=true:=by kernel_rfl
theorem HL:jT Try.prog 148 6=true:=by kernel_rfl
theorem nj:fm Try.prog 42 148 6=true:=by kernel_rfl
theorem Ig:iQ Try.prog 42 148 6 88=true:=by kernel_rfl
theorem Hp:gp Try.prog 42 1=true:=by kernel_rfl
theorem yz:du Try.prog 148 2 2 3=true:=by kernel_rfl
theorem Jm:du Try.prog 148 4 4 29=true:=by kernel_rfl
theorem Iq:iH Try.prog 148 6=true:=by kernel_rfl
theorem K9:rn Try.prog 187 .u64=true:=by kernel_rfl
theorem HN:jT Try.prog 5 1=true:=by kernel_rfl
theorem Da:fm Try.prog 123 5 1=true:=by kernel_rfl
theorem DS:uy Try.prog 123 9=true:=by kernel_rfl
theorem pe:(Try.prog.info? 44).bind (·.zero)=some (.agg #[.slice none 0 0,.slice none 0 0,.slice none 0 0,.string { data:=#[] },.string { data:=#[] }]):=by kernel_rfl
theorem qV:iH Try.prog 33 4=true:=by kernel_rfl
theorem call92:dw Try.prog 92=true:=by kernel_rfl
theorem Hg:ky Try.prog 44 [(0,1),(1,1),(2,1),(3,1),(4,1)]=true:=by kernel_rfl
theorem nL:gp Try.prog 44 5=true:=by kernel_rfl
theorem gg:iH Try.prog 44 5=true:=by kernel_rfl
theorem HH:(Try.prog.info? 4).bind (·.zero)=some (.bool false):=by kernel_rfl
theorem DQ:(Try.prog.info? 4).map (·.bytes)=some 1:=by kernel_rfl
theorem UL:(Try.prog.info? 169).bind (·.zero)=some (.agg #[.slice none 0 0,.slice none 0 0,.slice none 0 0,.string { data:=#[] },.string { data:=#[] },.slice none 0 0,.slice none 0 0,.slice none 0 0,.int .i64 0,.int .i64 0,.string { data:=#[] },.int .i64 0,.int .i64 0]):=by kernel_rfl
theorem TR:ky Try.prog 169 [(0,5),(5,1),(6,1),(7,1),(8,1),(9,1),(10,1),(11,1),(12,1)]=true:=by kernel_rfl
theorem HF:(Try.prog.info? 100).bind (·.zero)=some (.agg #[.int .i64 0,.string { data:=#[] },.slice none 0 0,.int .i64 0]):=by kernel_rfl
theorem T_:gp Try.prog 100 4=true:=by kernel_rfl
theorem call93:dw Try.prog 93=true:=by kernel_rfl
theorem pY:(Try.prog.info? 88).bind (·.zero)=some (.agg #[.string { data:=#[] },.bool false,.int .i64 0,.int .i64 0]):=by kernel_rfl
theorem vR:ky Try.prog 88 [(0,1),(1,1),(2,1),(3,1)]=true:=by kernel_rfl
theorem JA:du Try.prog 96 2 2 3=true:=by kernel_rfl
theorem UT:jT Try.prog 9 1=true:=by kernel_rfl
theorem Nb:iQ Try.prog 167 9 1 16=true:=by kernel_rfl
theorem Ue:gp Try.prog 167 1=true:=by kernel_rfl
theorem vV:gp Try.prog 88 4=true:=by kernel_rfl
theorem call97:dw Try.prog 97=true:=by kernel_rfl
theorem r2:du Try.prog 44 1 1 41=true:=by kernel_rfl
theorem Uf:gp Try.prog 176 2=true:=by kernel_rfl
theorem Nw:iH Try.prog 176 2=true:=by kernel_rfl
theorem call99:dw Try.prog 99=true:=by kernel_rfl
theorem Et:du Try.prog 33 3 3 9=true:=by kernel_rfl
theorem Jt:du Try.prog 44 3 3 9=true:=by kernel_rfl
theorem Ju:du Try.prog 44 4 4 9=true:=by kernel_rfl
theorem call78:dw Try.prog 78=true:=by kernel_rfl
theorem mX:du Try.prog 137 0 0 3=true:=by kernel_rfl
theorem q6:du Try.prog 137 1 1 3=true:=by kernel_rfl
theorem pw:iH Try.prog 137 2=true:=by kernel_rfl
theorem call102:dw Try.prog 102=true:=by kernel_rfl
theorem j1:fm Try.prog 132 137 2=true:=by kernel_rfl
theorem Je:s_ Try.prog 137 [.i .i64,.i .i64]=true:=by kernel_rfl
theorem HK:jT Try.prog 137 2=true:=by kernel_rfl
theorem DG:iQ Try.prog 132 137 2 16=true:=by kernel_rfl
theorem call101:dw Try.prog 101=true:=by kernel_rfl
theorem call100:dw Try.prog 100=true:=by kernel_rfl
theorem call81:dw Try.prog 81=true:=by kernel_rfl
theorem yy:du Try.prog 148 0 0 3=true:=by kernel_rfl
theorem Dq:(Try.prog.info? 137).bind (·.zero)=some (.agg #[.int .i64 0,.int .i64 0]):=by kernel_rfl
theorem He:ky Try.prog 137 [(0,1),(1,1)]=true:=by kernel_rfl
theorem call80:dw Try.prog 80=true:=by kernel_rfl
theorem kV:fm Try.prog 64 135 2=true:=by kernel_rfl
theorem uO:du Try.prog 135 0 0 132=true:=by kernel_rfl
theorem uG:hr Try.prog 132=true:=by kernel_rfl
theorem call103:dw Try.prog 103=true:=by kernel_rfl
theorem HG:(Try.prog.info? 135).bind (·.zero)=some (.agg #[.slice none 0 0,.slice none 0 0]):=by kernel_rfl
theorem L5:ky Try.prog 135 [(0,1),(1,1)]=true:=by kernel_rfl
theorem MJ:jT Try.prog 135 2=true:=by kernel_rfl
theorem call79:dw Try.prog 79=true:=by kernel_rfl
theorem call67:dw Try.prog 67=true:=by kernel_rfl
theorem call70:dw Try.prog 70=true:=by kernel_rfl
theorem call82:dw Try.prog 82=true:=by kernel_rfl
theorem call83:dw Try.prog 83=true:=by kernel_rfl
theorem Ng:iQ Try.prog 64 135 2 48=true:=by kernel_rfl
theorem r1:du Try.prog 135 1 1 133=true:=by kernel_rfl
theorem uH:hr Try.prog 133=true:=by kernel_rfl
theorem Dr:(Try.prog.info? 145).bind (·.zero)=some (.agg #[.int .i64 0,.int .i64 0]):=by kernel_rfl
theorem L6:ky Try.prog 145 [(0,1),(1,1)]=true:=by kernel_rfl
theorem MK:jT Try.prog 145 2=true:=by kernel_rfl
theorem sF:fm Try.prog 133 145 2=true:=by kernel_rfl
theorem Ib:iQ Try.prog 133 145 2 16=true:=by kernel_rfl
theorem Mi:gp Try.prog 133 1=true:=by kernel_rfl
theorem call68:dw Try.prog 68=true:=by kernel_rfl
theorem call69:dw Try.prog 69=true:=by kernel_rfl
theorem BQ:du Try.prog 145 0 0 3=true:=by kernel_rfl
theorem Jk:du Try.prog 145 1 1 3=true:=by kernel_rfl
theorem uS:du Try.prog 76 4 4 29=true:=by kernel_rfl
theorem yI:du Try.prog 76 2 2 3=true:=by kernel_rfl
theorem wX:du Try.prog 76 3 3 4=true:=by kernel_rfl
theorem call59:dw Try.prog 59=true:=by kernel_rfl
theorem Ds:(Try.prog.info? 76).bind (·.zero)=some (.agg #[.int .i64 0,.int .i64 0,.int .i64 0,.bool false,.slice none 0 0]):=by kernel_rfl
theorem TT:ky Try.prog 76 [(0,1),(1,1),(2,1),(3,1),(4,1)]=true:=by kernel_rfl
theorem Hq:gp Try.prog 76 5=true:=by kernel_rfl
theorem Uc:gp Try.prog 137 2=true:=by kernel_rfl
theorem AK:fm Try.prog 112 139 3=true:=by kernel_rfl
theorem Ji:du Try.prog 139 0 0 3=true:=by kernel_rfl
theorem BP:du Try.prog 139 2 2 29=true:=by kernel_rfl
theorem Jj:du Try.prog 139 1 1 3=true:=by kernel_rfl
theorem wG:iH Try.prog 76 5=true:=by kernel_rfl
theorem call66:dw Try.prog 66=true:=by kernel_rfl
theorem US:jT Try.prog 76 5=true:=by kernel_rfl
theorem o':fm Try.prog 65 76 5=true:=by kernel_rfl
theorem Nh:iQ Try.prog 65 76 5 56=true:=by kernel_rfl
theorem kU:fm Try.prog 34 29 1=true:=by kernel_rfl
theorem UK:(Try.prog.info? 161).bind (·.zero)=some (.agg #[.int .i64 0,.int .i64 0]):=by kernel_rfl
theorem TQ:ky Try.prog 161 [(0,1),(1,1)]=true:=by kernel_rfl
theorem UP:jT Try.prog 161 2=true:=by kernel_rfl
theorem pU:fm Try.prog 158 161 2=true:=by kernel_rfl
theorem Na:iQ Try.prog 158 161 2 16=true:=by kernel_rfl
theorem call88:dw Try.prog 88=true:=by kernel_rfl
theorem wU:du Try.prog 161 0 0 3=true:=by kernel_rfl
theorem yA:du Try.prog 161 1 1 3=true:=by kernel_rfl
theorem call104:dw Try.prog 104=true:=by kernel_rfl
theorem HM:jT Try.prog 29 1=true:=by kernel_rfl
theorem DH:iQ Try.prog 34 29 1 24=true:=by kernel_rfl
theorem call107:dw Try.prog 107=true:=by kernel_rfl
theorem call105:dw Try.prog 105=true:=by kernel_rfl
theorem call106:dw Try.prog 106=true:=by kernel_rfl
theorem UM:(Try.prog.info? 29).bind (·.zero)=some (.slice none 0 0):=by kernel_rfl
theorem NH:(Try.prog.info? 29).map (·.bytes)=some 24:=by kernel_rfl
theorem call89:dw Try.prog 89=true:=by kernel_rfl
theorem call85:dw Try.prog 85=true:=by kernel_rfl
theorem call86:dw Try.prog 86=true:=by kernel_rfl
theorem call84:dw Try.prog 84=true:=by kernel_rfl
theorem call87:dw Try.prog 87=true:=by kernel_rfl
theorem call71:dw Try.prog 71=true:=by kernel_rfl
theorem call72:dw Try.prog 72=true:=by kernel_rfl
theorem MH:(Try.prog.info? 139).bind (·.zero)=some (.agg #[.int .i64 0,.int .i64 0,.slice none 0 0]):=by kernel_rfl
theorem TP:ky Try.prog 139 [(0,1),(1,1),(2,1)]=true:=by kernel_rfl
theorem Ud:gp Try.prog 139 3=true:=by kernel_rfl
theorem call73:dw Try.prog 73=true:=by kernel_rfl
theorem Nv:iH Try.prog 139 3=true:=by kernel_rfl
theorem UO:jT Try.prog 139 3=true:=by kernel_rfl
theorem M':iQ Try.prog 112 139 3 40=true:=by kernel_rfl
theorem call52:dw Try.prog 52=true:=by kernel_rfl
theorem call54:dw Try.prog 54=true:=by kernel_rfl
theorem call53:dw Try.prog 53=true:=by kernel_rfl
theorem uQ:du Try.prog 76 0 0 3=true:=by kernel_rfl
theorem uR:du Try.prog 76 1 1 3=true:=by kernel_rfl
theorem HI:(Try.prog.info? 82).bind (·.zero)=some (.agg #[.int .i64 0,.int .i64 0,.int .i64 0,.int .i64 0]):=by kernel_rfl
theorem L7:ky Try.prog 82 [(0,1),(1,1),(2,1),(3,1)]=true:=by kernel_rfl
theorem MM:jT Try.prog 82 4=true:=by kernel_rfl
theorem sI:fm Try.prog 68 82 4=true:=by kernel_rfl
theorem Ih:iQ Try.prog 68 82 4 32=true:=by kernel_rfl
theorem v_:(Try.prog.info? 47).bind (·.zero)=some (.agg #[.slice none 0 0,.slice none 0 0]):=by kernel_rfl
theorem sH:fm Try.prog 54 23 2=true:=by kernel_rfl
theorem NG:(Try.prog.info? 23).map (·.bytes)=some 16:=by kernel_rfl
theorem UN:(Try.prog.info? 3).bind (·.zero)=some (.int .i64 0):=by kernel_rfl
theorem NI:(Try.prog.info? 3).map (·.bytes)=some 8:=by kernel_rfl
theorem pA:du Try.prog 47 0 0 45=true:=by kernel_rfl
theorem p9:hr Try.prog 45=true:=by kernel_rfl
theorem UR:jT Try.prog 54 1=true:=by kernel_rfl
theorem qE:fm Try.prog 45 54 1=true:=by kernel_rfl
theorem Nf:iQ Try.prog 45 54 1 24=true:=by kernel_rfl
theorem uP:du Try.prog 47 1 1 34=true:=by kernel_rfl
theorem q1:hr Try.prog 34=true:=by kernel_rfl
theorem Uh:gp Try.prog 45 1=true:=by kernel_rfl
theorem Ug:gp Try.prog 34 1=true:=by kernel_rfl
theorem Bn:iH Try.prog 47 2=true:=by kernel_rfl
theorem xV:gp Try.prog 47 2=true:=by kernel_rfl
theorem call30:dw Try.prog 30=true:=by kernel_rfl
theorem TZ:fm Try.prog 57 62 2=true:=by kernel_rfl
theorem TY:fm Try.prog 51 59 2=true:=by kernel_rfl
theorem PD:du Try.prog 59 0 0 3=true:=by kernel_rfl
theorem PE:du Try.prog 59 1 1 57=true:=by kernel_rfl
theorem O8:hr Try.prog 57=true:=by kernel_rfl
theorem Uw:Try.prog.underlying 3=some (.int .i64):=by kernel_rfl
noncomputable abbrev V2:Bb Try.prog 3 Int:=MU Uw
theorem UU:(Try.prog.info? 3).bind (·.zero)=some (.int .i64 0):=by kernel_rfl
noncomputable abbrev V3:Bc Try.prog 3 Int:=MV UU
theorem s8:hr Try.prog 54=true:=by kernel_rfl
theorem vS:ky Try.prog 90 [(0,4),(4,1),(5,1)]=true:=by kernel_rfl
theorem xZ:jT Try.prog 90 6=true:=by kernel_rfl
theorem Dt:(Try.prog.info? 93).bind (·.zero)=some (.agg #[.slice none 0 0,.string { data:=#[] },.bool false,.int .i64 0,.int .i64 0,.int .i64 0]):=by kernel_rfl
theorem Hh:ky Try.prog 93 [(0,1),(1,4),(5,1)]=true:=by kernel_rfl
theorem Dv:jT Try.prog 93 6=true:=by kernel_rfl
theorem L8:ky Try.prog 96 [(0,1),(1,1),(2,1)]=true:=by kernel_rfl
theorem MN:jT Try.prog 96 3=true:=by kernel_rfl
theorem xY:(Try.prog.info? 33).bind (·.zero)=some (.agg #[.string { data:=#[] },.slice none 0 0,.slice none 0 0,.string { data:=#[] }]):=by kernel_rfl
theorem TS:ky Try.prog 33 [(0,1),(1,1),(2,1),(3,1)]=true:=by kernel_rfl
theorem Pu:s_ Try.prog 23 [.i .i64,.i .i64]=true:=by kernel_rfl
theorem call14:dw Try.prog 14=true:=by kernel_rfl
theorem Df:gp Try.prog 33 4=true:=by kernel_rfl
theorem PC:du Try.prog 100 3 3 3=true:=by kernel_rfl
theorem L4:ky Try.prog 100 [(0,1),(1,1),(2,1),(3,1)]=true:=by kernel_rfl
theorem HO:jT Try.prog 88 4=true:=by kernel_rfl
theorem Ni:iQ Try.prog 98 88 4 40=true:=by kernel_rfl
theorem Uk:gp Try.prog 98 1=true:=by kernel_rfl
theorem MI:jT Try.prog 100 4=true:=by kernel_rfl
theorem Ie:iQ Try.prog 30 100 4 56=true:=by kernel_rfl
theorem Ml:gp Try.prog 30 1=true:=by kernel_rfl
theorem DJ:iQ Try.prog 91 90 6 64=true:=by kernel_rfl
theorem Hs:gp Try.prog 91 1=true:=by kernel_rfl
theorem DK:iQ Try.prog 94 93 6 72=true:=by kernel_rfl
theorem Ht:gp Try.prog 94 1=true:=by kernel_rfl
theorem Nc:iQ Try.prog 31 96 3 48=true:=by kernel_rfl
theorem Mm:gp Try.prog 31 1=true:=by kernel_rfl
theorem call65:dw Try.prog 65=true:=by kernel_rfl
theorem call47:dw Try.prog 47=true:=by kernel_rfl
theorem call45:dw Try.prog 45=true:=by kernel_rfl
theorem Jq:du Try.prog 36 0 0 3=true:=by kernel_rfl
theorem Jr:du Try.prog 36 2 2 29=true:=by kernel_rfl
theorem call44:dw Try.prog 44=true:=by kernel_rfl
theorem yG:du Try.prog 36 1 1 34=true:=by kernel_rfl
theorem call46:dw Try.prog 46=true:=by kernel_rfl
theorem yH:du Try.prog 36 3 3 29=true:=by kernel_rfl
theorem Js:du Try.prog 36 4 4 4=true:=by kernel_rfl
theorem Nx:iH Try.prog 36 5=true:=by kernel_rfl
theorem call20:dw Try.prog 20=true:=by kernel_rfl
theorem TX:fm Try.prog 39 33 4=true:=by kernel_rfl
theorem PF:du Try.prog 62 0 0 3=true:=by kernel_rfl
theorem PG:du Try.prog 62 1 1 3=true:=by kernel_rfl
theorem call109:dw Try.prog 109=true:=by kernel_rfl
theorem Gb:rn Try.prog 162 .u64=true:=by kernel_rfl
theorem call90:dw Try.prog 90=true:=by kernel_rfl
theorem Nu:iH Try.prog 135 2=true:=by kernel_rfl
theorem Ub:gp Try.prog 135 2=true:=by kernel_rfl
theorem call74:dw Try.prog 74=true:=by kernel_rfl
theorem Ip:iH Try.prog 145 2=true:=by kernel_rfl
theorem Mj:gp Try.prog 145 2=true:=by kernel_rfl
theorem call63:dw Try.prog 63=true:=by kernel_rfl
theorem call62:dw Try.prog 62=true:=by kernel_rfl
theorem call57:dw Try.prog 57=true:=by kernel_rfl
theorem call38:dw Try.prog 38=true:=by kernel_rfl
theorem call55:dw Try.prog 55=true:=by kernel_rfl
theorem call56:dw Try.prog 56=true:=by kernel_rfl
theorem Nz:iH Try.prog 82 4=true:=by kernel_rfl
theorem Uj:gp Try.prog 82 4=true:=by kernel_rfl
theorem Jx:du Try.prog 82 2 2 3=true:=by kernel_rfl
theorem call77:dw Try.prog 77=true:=by kernel_rfl
theorem call64:dw Try.prog 64=true:=by kernel_rfl
theorem call40:dw Try.prog 40=true:=by kernel_rfl
theorem call31:dw Try.prog 31=true:=by kernel_rfl
theorem call33:dw Try.prog 33=true:=by kernel_rfl
theorem Jy:du Try.prog 82 3 3 3=true:=by kernel_rfl
theorem call41:dw Try.prog 41=true:=by kernel_rfl
theorem call29:dw Try.prog 29=true:=by kernel_rfl
theorem call37:dw Try.prog 37=true:=by kernel_rfl
theorem PH:du Try.prog 82 0 0 3=true:=by kernel_rfl
theorem PI:du Try.prog 82 1 1 3=true:=by kernel_rfl
instance:dy Try.prog 23 0 0 3:=⟨Er⟩
instance:gM Try.prog 3:=⟨cz⟩
instance:dy Try.prog 23 1 1 3:=⟨Jp⟩
instance:rF Try.prog 9:=⟨j2⟩
instance:dy Try.prog 88 1 1 4:=⟨uT⟩
instance:gM Try.prog 4:=⟨nu⟩
instance:dy Try.prog 88 0 0 9:=⟨km⟩
instance:gM Try.prog 9:=⟨eZ⟩
instance:dy Try.prog 88 2 2 3:=⟨uU⟩
instance:dy Try.prog 100 0 0 3:=⟨oN⟩
instance:dy Try.prog 100 2 2 98:=⟨q5⟩
instance:gM Try.prog 98:=⟨rX⟩
instance:gW Try.prog 98 88 4:=⟨qF⟩
instance:dy Try.prog 100 1 1 9:=⟨nx⟩
instance:dy Try.prog 93 0 0 91:=⟨r3⟩
instance:gM Try.prog 91:=⟨wR⟩
instance:gW Try.prog 91 90 6:=⟨sJ⟩
instance:dy Try.prog 90 1 4 9:=⟨q8⟩
instance:dy Try.prog 90 0 0 88:=⟨yK⟩
instance:dy Try.prog 93 1 1 88:=⟨ta⟩
instance:dy Try.prog 33 0 0 9:=⟨Es⟩
instance:dy Try.prog 33 1 1 30:=⟨s'⟩
instance:gM Try.prog 30:=⟨wQ⟩
instance:gW Try.prog 30 100 4:=⟨sG⟩
instance:dy Try.prog 33 2 2 31:=⟨n1⟩
instance:gM Try.prog 31:=⟨py⟩
instance:gW Try.prog 31 96 3:=⟨o_⟩
instance:dy Try.prog 96 0 0 9:=⟨tb⟩
instance:dy Try.prog 96 1 1 94:=⟨q9⟩
instance:gM Try.prog 94:=⟨uI⟩
instance:gW Try.prog 94 93 6:=⟨uc⟩
instance:dy Try.prog 169 4 8 3:=⟨yC⟩
instance:dy Try.prog 169 5 9 3:=⟨yD⟩
instance:dy Try.prog 169 6 10 9:=⟨yE⟩
instance:dy Try.prog 169 2 6 41:=⟨yB⟩
instance:gM Try.prog 41:=⟨rW⟩
instance:gW Try.prog 41 176 2:=⟨ry⟩
instance:dy Try.prog 176 0 0 9:=⟨Jo⟩
instance:dy Try.prog 169 0 0 44:=⟨j_⟩
instance:dy Try.prog 44 0 0 40:=⟨pz⟩
instance:gM Try.prog 40:=⟨q2⟩
instance:gW Try.prog 40 78 6:=⟨qD⟩
instance:dy Try.prog 78 0 0 9:=⟨Jv⟩
instance:dy Try.prog 78 1 1 4:=⟨Jw⟩
instance:dy Try.prog 78 2 2 3:=⟨yJ⟩
instance:dy Try.prog 88 3 3 3:=⟨q7⟩
instance:dy Try.prog 169 1 5 103:=⟨wV⟩
instance:gM Try.prog 103:=⟨yq⟩
instance:gW Try.prog 103 4 1:=⟨oo⟩
instance:dy Try.prog 176 1 1 9:=⟨BS⟩
instance:dy Try.prog 78 3 3 3:=⟨BT⟩
instance:dy Try.prog 169 7 11 3:=⟨BR⟩
instance:dy Try.prog 78 4 4 3:=⟨Eu⟩
instance:dy Try.prog 78 5 5 9:=⟨BU⟩
instance:dy Try.prog 169 3 7 167:=⟨wW⟩
instance:gM Try.prog 167:=⟨yr⟩
instance:gW Try.prog 167 9 1:=⟨AL⟩
instance:dy Try.prog 93 2 5 3:=⟨Jz⟩
instance:dy Try.prog 148 1 1 29:=⟨mE⟩
instance:gM Try.prog 29:=⟨gX⟩
instance:gW Try.prog 29 3 1:=⟨eI⟩
instance:dy Try.prog 90 2 5 3:=⟨BV⟩
instance:dy Try.prog 148 3 3 9:=⟨Jl⟩
instance:dy Try.prog 148 5 5 3:=⟨Jn⟩
instance:dy Try.prog 169 8 12 3:=⟨yF⟩
instance:dy Try.prog 44 2 2 42:=⟨l5⟩
instance:gM Try.prog 42:=⟨nv⟩
instance:gW Try.prog 42 148 6:=⟨nj⟩
instance:dy Try.prog 148 2 2 3:=⟨yz⟩
instance:dy Try.prog 148 4 4 29:=⟨Jm⟩
instance:gW Try.prog 123 5 1:=⟨Da⟩
instance:dy Try.prog 96 2 2 3:=⟨JA⟩
instance:dy Try.prog 44 1 1 41:=⟨r2⟩
instance:dy Try.prog 33 3 3 9:=⟨Et⟩
instance:dy Try.prog 44 3 3 9:=⟨Jt⟩
instance:dy Try.prog 44 4 4 9:=⟨Ju⟩
instance:dy Try.prog 137 0 0 3:=⟨mX⟩
instance:dy Try.prog 137 1 1 3:=⟨q6⟩
instance:gW Try.prog 132 137 2:=⟨j1⟩
instance:dy Try.prog 148 0 0 3:=⟨yy⟩
instance:gW Try.prog 64 135 2:=⟨kV⟩
instance:dy Try.prog 135 0 0 132:=⟨uO⟩
instance:gM Try.prog 132:=⟨uG⟩
instance:dy Try.prog 135 1 1 133:=⟨r1⟩
instance:gM Try.prog 133:=⟨uH⟩
instance:gW Try.prog 133 145 2:=⟨sF⟩
instance:dy Try.prog 145 0 0 3:=⟨BQ⟩
instance:dy Try.prog 145 1 1 3:=⟨Jk⟩
instance:dy Try.prog 76 4 4 29:=⟨uS⟩
instance:dy Try.prog 76 2 2 3:=⟨yI⟩
instance:dy Try.prog 76 3 3 4:=⟨wX⟩
instance:gW Try.prog 112 139 3:=⟨AK⟩
instance:dy Try.prog 139 0 0 3:=⟨Ji⟩
instance:dy Try.prog 139 2 2 29:=⟨BP⟩
instance:dy Try.prog 139 1 1 3:=⟨Jj⟩
instance:gW Try.prog 65 76 5:=⟨o'⟩
instance:gW Try.prog 34 29 1:=⟨kU⟩
instance:gW Try.prog 158 161 2:=⟨pU⟩
instance:dy Try.prog 161 0 0 3:=⟨wU⟩
instance:dy Try.prog 161 1 1 3:=⟨yA⟩
instance:dy Try.prog 76 0 0 3:=⟨uQ⟩
instance:dy Try.prog 76 1 1 3:=⟨uR⟩
instance:gW Try.prog 68 82 4:=⟨sI⟩
instance:gW Try.prog 54 23 2:=⟨sH⟩
instance:dy Try.prog 47 0 0 45:=⟨pA⟩
instance:gM Try.prog 45:=⟨p9⟩
instance:gW Try.prog 45 54 1:=⟨qE⟩
instance:dy Try.prog 47 1 1 34:=⟨uP⟩
instance:gM Try.prog 34:=⟨q1⟩
instance:gW Try.prog 57 62 2:=⟨TZ⟩
instance:gW Try.prog 51 59 2:=⟨TY⟩
instance:dy Try.prog 59 0 0 3:=⟨PD⟩
instance:dy Try.prog 59 1 1 57:=⟨PE⟩
instance:gM Try.prog 57:=⟨O8⟩
instance:gM Try.prog 54:=⟨s8⟩
instance:dy Try.prog 100 3 3 3:=⟨PC⟩
instance:dy Try.prog 36 0 0 3:=⟨Jq⟩
instance:dy Try.prog 36 2 2 29:=⟨Jr⟩
instance:dy Try.prog 36 1 1 34:=⟨yG⟩
instance:dy Try.prog 36 3 3 29:=⟨yH⟩
instance:dy Try.prog 36 4 4 4:=⟨Js⟩
instance:gW Try.prog 39 33 4:=⟨TX⟩
instance:dy Try.prog 62 0 0 3:=⟨PF⟩
instance:dy Try.prog 62 1 1 3:=⟨PG⟩
instance:dy Try.prog 82 2 2 3:=⟨Jx⟩
instance:dy Try.prog 82 3 3 3:=⟨Jy⟩
instance:dy Try.prog 82 0 0 3:=⟨PH⟩
instance:dy Try.prog 82 1 1 3:=⟨PI⟩
theorem call39:dw Try.prog 39=true:=by kernel_rfl
theorem Oq (a0:Int) (r:Bool) (h:z7 a0=some r):b_ Try.prog 121 [lE a0] [none] (ba r):=by
 unfold z7 at h
 refine b_.go (N:=⟨21,[]⟩) Try.func121 q q q q (W.fin ?_)
 refine W.st [(0,lE a0)] ?_
 refine W.aZ [0] ?_
 obtain ⟨p7,aa,h⟩:=aB h
 refine W.rs [(2,ba p7)] ?_ ?_
 ·refine br q<|ah (O.geq (.lit q) (.k q))<|ah (O.aA (.lit q)) ?_
  rcases cI aa with ⟨ds,aa⟩ | ⟨ds,aa⟩
  ·refine a1 ds (O.aA (.lit q))<|a1 ds (O.leq (.lit q) (.k q))<|ah (O.eu (.lit q) ds (.lit q))<|ah (O.aA (.lit q)) ?_
   rcases cI aa with ⟨cX,aa⟩ | ⟨cX,aa⟩
   ·obtain rfl:=ax aa
    exact ar.aW
   ·refine a1 cX (O.aA (.lit q))<|a1 cX (O.geq (.lit q) (.k q))<|a1 cX (O.aA (.lit q)) ?_
    rcases cI aa with ⟨fb,aa⟩ | ⟨fb,aa⟩
    ·refine a1 fb (O.aA (.lit q))<|a1 fb (O.leq (.lit q) (.k q))<|a1 cX (O.eu (.lit q) fb (.lit q))<|ah (O.cC (.lit q) cX (.lit q))<|ah (O.aA (.lit q)) ?_
     rcases cI aa with ⟨df,aa⟩ | ⟨df,aa⟩
     ·obtain rfl:=ax aa
      exact ar.aW
     ·obtain rfl:=ax aa
      exact ar.aW
    ·obtain rfl:=ax aa
     exact cH fb<|cH fb<|a1 cX (O.cC (.lit q) fb (.k q))<|ar.aW
  ·refine cH ds<|cH ds<|ah (O.cC (.lit q) ds (.k q))<|br q<|a1 q (O.aA (.lit q))<|a1 q (O.geq (.lit q) (.k q))<|a1 q (O.aA (.lit q)) ?_
   rcases cI aa with ⟨dK,aa⟩ | ⟨dK,aa⟩
   ·refine a1 dK (O.aA (.lit q))<|a1 dK (O.leq (.lit q) (.k q))<|a1 q (O.eu (.lit q) dK (.lit q))<|ah (O.cC (.lit q) q (.lit q))<|ah (O.aA (.lit q)) ?_
    rcases cI aa with ⟨dN,aa⟩ | ⟨dN,aa⟩
    ·obtain rfl:=ax aa
     exact ar.aW
    ·obtain rfl:=ax aa
     exact ar.aW
   ·obtain rfl:=ax aa
    exact cH dK<|cH dK<|a1 q (O.cC (.lit q) dK (.k q))<|ar.aW
 refine W.rt ?_
 obtain rfl:=ax h
 exact cA (.f q q .nil)
theorem Ot (a0:Int) (r:Bool) (h:z8 a0=some r):b_ Try.prog 122 [lE a0] [none] (ba r):=by
 unfold z8 at h
 refine b_.go (N:=⟨9,[]⟩) Try.func122 q q q q (W.fin ?_)
 refine W.st [(0,lE a0)] ?_
 refine W.aZ [0] ?_
 obtain ⟨c2,aa,h⟩:=aB h
 refine W.rs [(2,ba c2)] ?_ ?_
 ·refine br q<|ah (O.geq (.lit q) (.k q))<|ah (O.aA (.lit q)) ?_
  rcases cI aa with ⟨ds,aa⟩ | ⟨ds,aa⟩
  ·obtain rfl:=ax aa
   exact ar.aW
  ·obtain rfl:=ax aa
   exact ar.aW
 refine W.rt ?_
 obtain rfl:=ax h
 exact cA (.f q q .nil)
theorem On (a0:ByteArray) (av:Int) (r:Int) (h:z1 a0 av=some r):b_ Try.prog 117 [af a0,j av] [none,none] (j r):=by
 unfold z1 at h
 refine b_.go (N:=⟨43,[]⟩) Try.func117 q q q q (W.fin ?_)
 refine W.st [(0,af a0),(1,j av)] ?_
 refine W.aZ [0,1] ?_
 refine W.aZ [0,1,5] ?_
 refine W.bb<|W.bq ?_
 obtain ⟨x2,ao,h⟩:=aB h
 refine W.cj (G1:=[(0,_),(1,_),(5,_)]) (dB q q q) ?_
 refine W.e0 (s:=0) (λ(s1:Int)=>[(0,af a0),(1,j av),(5,j s1)]) 0 (λ(x2:Int)=>[(5,j x2)]) ao (λs1 o h=>?_) ?_
 ·clear ao
  refine W.bb ?_
  obtain ⟨mC,aa,h⟩:=aB h
  refine W.rs [(0,af a0),(1,j av),(5,j s1),(39,ba mC)] ?_ ?_
  ·refine br q<|br q<|ah (O.add (.lit q) (.lit q))<|br q<|ah (O.mo (.lit q) j2)<|ah (O.lss (.lit q) (.lit q))<|ah (O.aA (.lit q)) ?_
   rcases cI aa with ⟨df,aa⟩ | ⟨df,aa⟩
   ·refine a1 df (O.aA (.lit q))<|a1 df (O.aA (.lit q))<|a1 df (O.aA (.lit q))<|a1 df (O.add (.lit q) (.lit q)) ?_
    obtain ⟨ck,kQ,aa⟩:=aB aa
    refine a1 df (O.p4 (.lit q) (.lit q) j2 kQ) ?_
    obtain ⟨bu,fH,aa⟩:=aB aa
    refine ar.c (cu.go (.bX (.lit q) .nil) (Oq ck _ fH) call121 q) q q (.jS q q df)<|a1 df (O.aA (.lit q)) ?_
    rcases cI aa with ⟨cU,aa⟩ | ⟨cU,aa⟩
    ·obtain rfl:=ax aa
     exact cH cU<|cH cU<|cH cU<|hb<|hb<|hb<|hb<|hb<|hb<|hb<|hb<|hb<|hb<|hb<|hb<|hb<|hb<|cH cU<|a1 df (O.eu (.lit q) cU (.k q))<|ar.aW
    ·refine a1 cU (O.aA (.lit q))<|a1 cU (O.gtr (.lit q) (.k q))<|a1 cU (O.aA (.lit q)) ?_
     rcases cI aa with ⟨cR,aa⟩ | ⟨cR,aa⟩
     ·refine a1 cR (O.aA (.lit q))<|a1 cR (O.aA (.lit q))<|a1 cR (O.aA (.lit q))<|a1 cR (O.add (.lit q) (.lit q)) ?_
      obtain ⟨ct,iV,aa⟩:=aB aa
      refine a1 cR (O.p4 (.lit q) (.lit q) j2 iV) ?_
      obtain ⟨bQ,jk,aa⟩:=aB aa
      refine ar.c (cu.go (.bX (.lit q) .nil) (Ot ct _ jk) call122 q) q q (.jS q q cR)<|a1 cR (O.aA (.lit q)) ?_
      rcases cI aa with ⟨ft,aa⟩ | ⟨ft,aa⟩
      ·obtain rfl:=ax aa
       exact cH ft<|cH ft<|cH ft<|cH ft<|cH ft<|cH ft<|a1 cR (O.eu (.lit q) ft (.k q))<|a1 cU (O.eu (.lit q) cR (.lit q))<|a1 df (O.cC (.lit q) cU (.lit q))<|ar.aW
      ·refine a1 ft (O.aA (.lit q))<|a1 ft (O.aA (.lit q))<|a1 ft (O.aA (.lit q))<|a1 ft (O.add (.lit q) (.lit q)) ?_
       obtain ⟨cO,kq,aa⟩:=aB aa
       obtain rfl:=ax aa
       exact a1 ft (O.p4 (.lit q) (.lit q) j2 kq)<|a1 ft (O.eql (.lit q) (.k q))<|a1 cR (O.cC (.lit q) ft (.lit q))<|a1 cU (O.eu (.lit q) cR (.lit q))<|a1 df (O.cC (.lit q) cU (.lit q))<|ar.aW
     ·obtain rfl:=ax aa
      exact cH cR<|cH cR<|cH cR<|cH cR<|cH cR<|cH cR<|cH cR<|hb<|hb<|hb<|hb<|hb<|hb<|cH cR<|a1 cU (O.cC (.lit q) cR (.k q))<|a1 df (O.cC (.lit q) cU (.lit q))<|ar.aW
   ·obtain rfl:=ax aa
    exact ar.aW
  refine W.bH h q (λeE h=>?_) (λeE h=>?_)
  ·refine W.bO<|ai.a_ ?_
   refine W.bq<|W.bp [0,1,5] (br q<|ah (O.add (.lit q) (.k q))<|ar.bp [0,1,41] q<|ar.aW) ?_
   refine ai.bq ?_
   obtain rfl:=ax h
   exact ai.go (dB q q q)
  ·refine W.dd ?_
   refine ai.dc ?_
   obtain rfl:=ax h
   exact ai.aE (.n q .nil)
 refine ai.de ?_
 refine ai.a_<|W.aZ [4] ?_
 refine W.rt ?_
 obtain rfl:=ax h
 exact cA (.f q q .nil)
theorem BD (a0:ByteArray) (r:Bool) (h:tP a0=some r):b_ Try.prog 111 [af a0] [none] (ba r):=by
 unfold tP at h
 refine b_.go (N:=⟨18,[]⟩) Try.func111 q q q q (W.fin ?_)
 refine W.st [(0,af a0)] ?_
 refine W.aZ [0] ?_
 obtain ⟨c4,aa,h⟩:=aB h
 refine W.rs [(2,ba c4)] ?_ ?_
 ·refine br q<|ah (O.mo (.lit q) j2)<|ah (O.geq (.lit q) (.k q))<|ah (O.aA (.lit q)) ?_
  rcases cI aa with ⟨ds,aa⟩ | ⟨ds,aa⟩
  ·refine a1 ds (O.aA (.lit q))<|a1 ds (O.mo (.lit q) j2)<|a1 ds (O.leq (.lit q) (.k q))<|ah (O.eu (.lit q) ds (.lit q))<|ah (O.aA (.lit q)) ?_
   rcases cI aa with ⟨cX,aa⟩ | ⟨cX,aa⟩
   ·refine a1 cX (O.aA (.lit q)) ?_
    obtain ⟨aX,hL,aa⟩:=aB aa
    obtain rfl:=ax aa
    exact ar.c (cu.go (.bX (.lit q) (.bX (.k q) .nil)) (On a0 0 _ hL) call117 q) q q (.jS q q cX)<|ar.aW
   ·obtain rfl:=ax aa
    exact ar.aW
  ·obtain rfl:=ax aa
   exact ar.aW
 refine W.rt ?_
 obtain rfl:=ax h
 exact cA (.f q q .nil)
theorem Oo (a0:Int) (r:Int × Bool) (h:z6 a0=some r):b_ Try.prog 120 [lE a0] [none] (.cw [lE r.1,ba r.2]):=by
 unfold z6 at h
 refine b_.go (N:=⟨21,[]⟩) Try.func120 q q q q (W.fin ?_)
 refine W.st [(0,lE a0)] ?_
 refine W.aZ [0] ?_
 refine W.bb<|W.aZ [0,4] ?_
 refine W.bq<|W.aZ [0,4,5] ?_
 refine W.bH h q (λds h=>?_) (λds h=>?_)
 ·refine W.aZ [2,3] ?_
  refine W.rt ?_
  refine ai.ee ?_
  refine ai.c_ ?_
  obtain rfl:=ax h
  exact cA (.f q q (.f q q .nil))
 ·refine W.aZ [0,4,7] ?_
  refine W.bH h q (λcX h=>?_) (λcX h=>?_)
  ·refine W.aZ [2,3] ?_
   refine W.rt ?_
   refine ai.ee ?_
   refine ai.c_ ?_
   obtain rfl:=ax h
   exact cA (.f q q (.f q q .nil))
  ·refine W.aZ [0,4,9] ?_
   refine W.bH h q (λfb h=>?_) (λfb h=>?_)
   ·refine W.aZ [2,3] ?_
    refine W.rt ?_
    refine ai.ee ?_
    refine ai.c_ ?_
    obtain rfl:=ax h
    exact cA (.f q q (.f q q .nil))
   ·refine W.bb<|W.aZ [0,4,11] ?_
    obtain ⟨Gi,aa,h⟩:=aB h
    refine W.bC [(0,lE a0),(11,ba Gi)] ?_ ?_
    ·clear h; have h:=aa; clear aa
     refine W.bH h q (λdK h=>?_) (λdK h=>?_)
     ·refine W.bO ?_
      obtain rfl:=ax h
      exact ai.bC (fe q q)
     ·refine W.bp [0,11] (ah (O.eql (.lit q) (.k q))<|ar.bp [0,13] q<|ar.aW) ?_
      obtain rfl:=ax h
      exact ai.bC (fe q q)
    refine ai.a_<|W.bH h q (λdN h=>?_) (λdN h=>?_)
    ·refine W.aZ [2,3] ?_
     refine W.rt ?_
     refine ai.ee ?_
     refine ai.c_ ?_
     obtain rfl:=ax h
     exact cA (.f q q (.f q q .nil))
    ·refine W.bO<|ai.bq ?_
     refine ai.a_ ?_
     obtain ⟨oL,aa,h⟩:=aB h
     refine W.rs [(2,lE oL.1),(3,ba oL.2)] ?_ ?_
     ·refine br q<|ah (O.geq (.lit q) (.k q))<|ah (O.aA (.lit q)) ?_
      rcases cI aa with ⟨cU,aa⟩ | ⟨cU,aa⟩
      ·obtain rfl:=ax aa
       exact ar.aW
      ·obtain rfl:=ax aa
       exact ar.aW
     refine W.rt ?_
     obtain rfl:=ax h
     exact cA (.f q q (.f q q .nil))
theorem D8 (a0:Sym) (av:Bool) (a2:Bool) (r:Bool) (h:vB a0 av a2=some r):b_ Try.prog 116 [.agg (dq.cells a0),ba av,ba a2] [none,none,none] (ba r):=by
 unfold vB at h
 refine b_.go (N:=⟨53,[]⟩) Try.func116 q q q q (W.fin ?_)
 refine W.st [(0,.agg (dq.cells a0)),(1,ba av),(2,ba a2)] ?_
 refine W.bM [1,2,3] (ah (O.box (.cg q q) q)<|ar.aW) ?_
 refine W.bb<|W.aZ [1,2,3,10] ?_
 refine W.bH h q (λds h=>?_) (λds h=>?_)
 ·refine W.bb ?_
  obtain ⟨c4,aa,h⟩:=aB h
  refine W.rs [(3,.obj (dq.cells a0)),(23,ba c4)] ?_ ?_
  ·refine br q<|ah (O.not (.lit q))<|ah (O.aA (.lit q)) ?_
   rcases cI aa with ⟨cX,aa⟩ | ⟨cX,aa⟩
   ·obtain rfl:=ax aa
    exact ar.aW
   ·refine a1 cX (O.bk q (.obj q) km q)<|a1 cX (O.cB q (.ptr q) eZ q)<|a1 cX (O.mo (.lit q) j2)<|a1 cX (O.neq (.lit q) (.k q))<|ah (O.cC (.lit q) cX (.lit q))<|ah (O.aA (.lit q)) ?_
    rcases cI aa with ⟨fb,aa⟩ | ⟨fb,aa⟩
    ·obtain rfl:=ax aa
     exact ar.aW
    ·obtain rfl:=ax aa
     exact ar.aW
  refine W.bH h q (λdK h=>?_) (λdK h=>?_)
  ·refine W.aZ [6] ?_
   refine W.rt ?_
   refine ai.c_ ?_
   refine ai.c_ ?_
   obtain rfl:=ax h
   exact cA (.f q q .nil)
  ·refine W.bO<|ai.a_ ?_
   obtain ⟨bu,fH,h⟩:=aB h
   obtain ⟨bl,gb,h⟩:=aB h
   refine W.bM [8] (ah (O.bk q (.obj q) km q)<|ah (O.cB q (.ptr q) eZ q)<|ah (O.p4 (.lit q) (.k q) j2 fH)<|dL (cu.go (.bX (.lit q) .nil) (Oo bu _ gb) call120 q)<|ah (O.aA (.vX q q))<|ah (O.ex (y:=lE bl.1) q q q)<|ah (O.ex (y:=ba bl.2) q q q)<|ar.aW) ?_
   refine W.aZ [6] ?_
   refine W.rt ?_
   refine ai.c_ ?_
   obtain rfl:=ax h
   exact cA (.f q q .nil)
 ·refine W.bO<|ai.a_ ?_
  obtain ⟨mC,aa,h⟩:=aB h
  refine W.rs [(6,ba mC)] ?_ ?_
  ·refine ah (O.bk q (.obj q) km q)<|ah (O.cB q (.ptr q) eZ q) ?_
   obtain ⟨bT,im,aa⟩:=aB aa
   refine dL (cu.go (.bX (.lit q) .nil) (BD a0.Name _ im) call111 q)<|ah (O.aA (.lit q)) ?_
   rcases cI aa with ⟨ey,aa⟩ | ⟨ey,aa⟩
   ·refine a1 ey (O.bk q (.obj q) uU q)<|a1 ey (O.cB q (.ptr q) cz q)<|a1 ey (O.eql (.lit q) (.k q))<|a1 ey (O.aA (.lit q)) ?_
    rcases cI aa with ⟨eG,aa⟩ | ⟨eG,aa⟩
    ·obtain rfl:=ax aa
     exact cH eG<|cH eG<|hb<|hb<|hb<|cH eG<|cH eG<|hb<|hb<|hb<|cH eG<|a1 ey (O.eu (.lit q) eG (.k q))<|ar.aW
    ·refine a1 eG (O.aA (.lit q))<|a1 eG (O.aA (.lit q)) ?_
     rcases cI aa with ⟨ft,aa⟩ | ⟨ft,aa⟩
     ·refine a1 ft (O.bk q (.obj q) uU q)<|a1 ft (O.cB q (.ptr q) cz q)<|a1 ft (O.geq (.lit q) (.k q))<|a1 eG (O.eu (.lit q) ft (.lit q))<|a1 eG (O.aA (.lit q)) ?_
      rcases cI aa with ⟨ew,aa⟩ | ⟨ew,aa⟩
      ·obtain rfl:=ax aa
       exact a1 ew (O.bk q (.obj q) uU q)<|a1 ew (O.cB q (.ptr q) cz q)<|a1 ew (O.leq (.lit q) (.k q))<|a1 eG (O.eu (.lit q) ew (.lit q))<|a1 ey (O.cC (.lit q) eG (.lit q))<|ar.aW
      ·obtain rfl:=ax aa
       exact cH ew<|cH ew<|cH ew<|a1 eG (O.cC (.lit q) ew (.k q))<|a1 ey (O.cC (.lit q) eG (.lit q))<|ar.aW
     ·obtain rfl:=ax aa
      exact cH ft<|cH ft<|cH ft<|a1 eG (O.cC (.lit q) ft (.k q))<|a1 eG (O.aA (.lit q))<|cH q<|cH q<|cH q<|a1 eG (O.cC (.lit q) q (.k q))<|a1 ey (O.cC (.lit q) eG (.lit q))<|ar.aW
   ·obtain rfl:=ax aa
    exact ar.aW
  refine W.rt ?_
  obtain rfl:=ax h
  exact cA (.f q q .nil)
theorem Ol (a0:Decl) (r:Bool) (h:zY a0=some r):b_ Try.prog 110 [.agg (cM.cells a0)] [none] (ba r):=by
 unfold zY at h
 refine b_.go (N:=⟨75,[]⟩) Try.func110 q q q q (W.fin ?_)
 refine W.st [(0,.agg (cM.cells a0))] ?_
 refine W.bM [1] (ah (O.box (.cg q q) q)<|ar.aW) ?_
 refine W.bb ?_
 obtain ⟨s5,aa,h⟩:=aB h
 refine W.rs [(1,.obj (cM.cells a0)),(54,ba s5)] ?_ ?_
 ·refine ah (O.bk q (.obj q) oN q)<|ah (O.cB q (.ptr q) cz q)<|ah (O.lss (.lit q) (.k q))<|ah (O.aA (.lit q)) ?_
  rcases cI aa with ⟨ds,aa⟩ | ⟨ds,aa⟩
  ·obtain rfl:=ax aa
   exact ar.aW
  ·refine a1 ds (O.bk q (.obj q) oN q)<|a1 ds (O.cB q (.ptr q) cz q)<|a1 ds (O.gtr (.lit q) (.k q))<|ah (O.cC (.lit q) ds (.lit q))<|ah (O.aA (.lit q)) ?_
   rcases cI aa with ⟨cX,aa⟩ | ⟨cX,aa⟩
   ·obtain rfl:=ax aa
    exact ar.aW
   ·refine a1 cX (O.bk q (.obj q) q5 q)<|a1 cX (O.c9 (y:=aj dq a0.fc) q (.ptr q) rX q q)<|a1 cX (O.gz (.aD q) qF)<|a1 cX (O.eql (.lit q) (.k q))<|ah (O.cC (.lit q) cX (.lit q))<|ah (O.aA (.lit q)) ?_
    rcases cI aa with ⟨fb,aa⟩ | ⟨fb,aa⟩
    ·obtain rfl:=ax aa
     exact ar.aW
    ·refine a1 fb (O.bk q (.obj q) oN q)<|a1 fb (O.cB q (.ptr q) cz q)<|a1 fb (O.eql (.lit q) (.k q))<|a1 fb (O.aA (.lit q)) ?_
     rcases cI aa with ⟨df,aa⟩ | ⟨df,aa⟩
     ·refine a1 df (O.bk q (.obj q) q5 q)<|a1 df (O.c9 (y:=aj dq a0.fc) q (.ptr q) rX q q)<|a1 df (O.gz (.aD q) qF)<|a1 df (O.neq (.lit q) (.k q))<|a1 df (O.aA (.lit q)) ?_
      rcases cI aa with ⟨dK,aa⟩ | ⟨dK,aa⟩
      ·obtain rfl:=ax aa
       exact cH dK<|cH dK<|cH dK<|a1 df (O.eu (.lit q) dK (.k q))<|a1 fb (O.eu (.lit q) df (.lit q))<|ar.aW
      ·refine a1 dK (O.bk q (.obj q) nx q)<|a1 dK (O.cB q (.ptr q) eZ q)<|a1 dK (O.lS (.lit q) (.k q))<|a1 df (O.cC (.lit q) dK (.lit q))<|a1 fb (O.eu (.lit q) df (.lit q))<|ah (O.cC (.lit q) fb (.lit q))<|ah (O.aA (.lit q)) ?_
       rcases cI aa with ⟨dN,aa⟩ | ⟨dN,aa⟩
       ·obtain rfl:=ax aa
        exact ar.aW
       ·refine a1 dN (O.bk q (.obj q) oN q)<|a1 dN (O.cB q (.ptr q) cz q)<|a1 dN (O.eql (.lit q) (.k q))<|a1 dN (O.aA (.lit q)) ?_
        rcases cI aa with ⟨cU,aa⟩ | ⟨cU,aa⟩
        ·refine a1 cU (O.bk q (.obj q) nx q)<|a1 cU (O.cB q (.ptr q) eZ q)<|a1 cU (O.n0 (.lit q) (.k q))<|a1 dN (O.eu (.lit q) cU (.lit q))<|ah (O.cC (.lit q) dN (.lit q))<|ah (O.aA (.lit q)) ?_
         rcases cI aa with ⟨cR,aa⟩ | ⟨cR,aa⟩
         ·obtain rfl:=ax aa
          exact ar.aW
         ·obtain rfl:=ax aa
          exact a1 cR (O.bk q (.obj q) nx q)<|a1 cR (O.cB q (.ptr q) eZ q)<|a1 cR (O.lS (.lit q) (.k q))<|a1 cR (O.aA (.lit q))<|cH dN<|cH dN<|cH dN<|cH dN<|a1 cR (O.cC (.lit q) dN (.k q))<|ar.aW
        ·obtain rfl:=ax aa
         exact cH cU<|cH cU<|cH cU<|a1 dN (O.cC (.lit q) cU (.k q))<|ah (O.cC (.lit q) dN (.lit q))<|br q<|a1 q (O.bk q (.obj q) nx q)<|a1 q (O.cB q (.ptr q) eZ q)<|a1 q (O.lS (.lit q) (.k q))<|a1 q (O.aA (.lit q))<|cH dN<|cH dN<|cH dN<|cH dN<|a1 q (O.cC (.lit q) dN (.k q))<|ar.aW
     ·refine cH df<|cH df<|cH df<|cH df<|cH df<|hb<|hb<|hb<|cH df<|a1 fb (O.cC (.lit q) df (.k q))<|ah (O.cC (.lit q) fb (.lit q))<|br q<|a1 q (O.bk q (.obj q) oN q)<|a1 q (O.cB q (.ptr q) cz q)<|a1 q (O.eql (.lit q) (.k q))<|a1 q (O.aA (.lit q)) ?_
      rcases cI aa with ⟨ey,aa⟩ | ⟨ey,aa⟩
      ·refine a1 ey (O.bk q (.obj q) nx q)<|a1 ey (O.cB q (.ptr q) eZ q)<|a1 ey (O.n0 (.lit q) (.k q))<|a1 q (O.eu (.lit q) ey (.lit q))<|ah (O.cC (.lit q) q (.lit q))<|ah (O.aA (.lit q)) ?_
       rcases cI aa with ⟨eG,aa⟩ | ⟨eG,aa⟩
       ·obtain rfl:=ax aa
        exact ar.aW
       ·refine a1 eG (O.bk q (.obj q) nx q)<|a1 eG (O.cB q (.ptr q) eZ q)<|a1 eG (O.lS (.lit q) (.k q))<|a1 eG (O.aA (.lit q)) ?_
        rcases cI aa with ⟨ft,aa⟩ | ⟨ft,aa⟩
        ·refine a1 ft (O.bk q (.obj q) nx q)<|a1 ft (O.cB q (.ptr q) eZ q) ?_
         obtain ⟨cO,kq,aa⟩:=aB aa
         obtain rfl:=ax aa
         exact ar.c (cu.go (.bX (.lit q) .nil) (BD a0.Tag _ kq) call111 q) q q (.jS q q ft)<|a1 ft (O.not (.lit q))<|a1 eG (O.eu (.lit q) ft (.lit q))<|ar.aW
        ·obtain rfl:=ax aa
         exact cH ft<|cH ft<|cH ft<|cH ft<|a1 eG (O.cC (.lit q) ft (.k q))<|ar.aW
      ·refine cH ey<|cH ey<|cH ey<|a1 q (O.cC (.lit q) ey (.k q))<|ah (O.cC (.lit q) q (.lit q))<|br q<|a1 q (O.bk q (.obj q) nx q)<|a1 q (O.cB q (.ptr q) eZ q)<|a1 q (O.lS (.lit q) (.k q))<|a1 q (O.aA (.lit q)) ?_
       rcases cI aa with ⟨jB,aa⟩ | ⟨jB,aa⟩
       ·refine a1 jB (O.bk q (.obj q) nx q)<|a1 jB (O.cB q (.ptr q) eZ q) ?_
        obtain ⟨d',kr,aa⟩:=aB aa
        obtain rfl:=ax aa
        exact ar.c (cu.go (.bX (.lit q) .nil) (BD a0.Tag _ kr) call111 q) q q (.jS q q jB)<|a1 jB (O.not (.lit q))<|a1 q (O.eu (.lit q) jB (.lit q))<|ar.aW
       ·obtain rfl:=ax aa
        exact cH jB<|cH jB<|cH jB<|cH jB<|a1 q (O.cC (.lit q) jB (.k q))<|ar.aW
 refine W.bH h q (λiw h=>?_) (λiw h=>?_)
 ·refine W.aZ [2] ?_
  refine W.rt ?_
  refine ai.c_ ?_
  obtain rfl:=ax h
  exact cA (.f q q .nil)
 ·refine W.bO<|ai.a_ ?_
  refine W.bb<|W.aZ [1,3] ?_
  refine W.bq ?_
  obtain ⟨eJ,ao,h⟩:=aB h
  refine W.cj (G1:=[(1,_),(3,_)]) (fe q q) ?_
  refine W.jM (s:=0) (λ(iA:Int)=>[(1,.obj (cM.cells a0)),(3,j iA)]) 0 (λ(fL:Unit)=>[]) (λ(eB:Bool)=>[(2,ba eB)]) ao (λiA o h=>?_) (λfL J=>?_) (λeB J=>?_)
  ·clear ao
   refine W.bb<|W.aZ [1,3,59] ?_
   refine W.bH h q (λjJ h=>?_) (λjJ h=>?_)
   ·refine W.bO<|ai.a_ ?_
    refine W.bb<|W.bq ?_
    refine W.bb ?_
    obtain ⟨gi,nD,h⟩:=aB h
    obtain ⟨eK,mH,h⟩:=aB h
    refine W.rd [[],[0],[],[0,1,2],[0,1,2,3],[],[5],[5,6],[],[8],[8,9],aO 0 11 [],aO 0 12 []] [(1,_),(3,_),(74,_)] e1 (by kernel_rfl) (au 0 (O.bk q (.obj q) q5 q)<|au 1 (O.c9 (y:=aj dq a0.fc) q (.ptr q) rX q q)<|au 2 (O.aA (.lit q))<|au 3 (O.cE (.aD q) (.lit q) qF nD)<|au 4 (O.jn (cs':=[af gi.Name,ba gi.Lit,j gi.c0,j gi.At]) (.bn q) k1 q q)<|au 5 (O.bk q (.obj q) oN q)<|au 6 (O.cB q (.ptr q) cz q)<|au 7 (O.eql (.lit q) (.k q))<|au 8 (O.bk q (.obj q) oN q)<|au 9 (O.cB q (.ptr q) cz q)<|au 10 (O.lss (.lit q) (.k q))<|iM 11 (cu.go (.bX (.cg q q) (.bX (.lit q) (.bX (.lit q) .nil))) (D8 gi (decide (a0.Kind=1)) (decide (a0.Kind<5)) _ mH) call116 q)<|au 12 (O.not (.lit q))<|bV.fin q q q (dB q q q)) ?_
    refine ai.a_<|W.bH h q (λgP h=>?_) (λgP h=>?_)
    ·refine W.aZ [2] ?_
     refine W.rt ?_
     refine ai.ee ?_
     refine ai.c_ ?_
     obtain rfl:=ax h
     exact ai.gm (.n q .nil)
    ·refine W.bO<|ai.bq ?_
     refine ai.a_<|W.bp [1,3] (br q<|ah (O.add (.lit q) (.k q))<|ar.bp [1,61] q<|ar.aW) ?_
     obtain rfl:=ax h
     exact ai.go (fe q q)
   ·refine W.dd ?_
    refine ai.dc ?_
    obtain rfl:=ax h
    exact ai.x2 .nil
  ·subst J
   refine ai.de ?_
   refine ai.a_<|W.aZ [2] ?_
   refine W.rt ?_
   obtain rfl:=ax h
   exact cA (.f q q .nil)
  ·subst J
   refine ai.ee ?_
   refine ai.c_ ?_
   obtain rfl:=ax h
   exact cA (.f q q .nil)
theorem D9 (a0:Sym) (r:Bool) (h:vC a0=some r):b_ Try.prog 118 [.agg (dq.cells a0)] [none] (ba r):=by
 unfold vC at h
 refine b_.go (N:=⟨16,[]⟩) Try.func118 q q q q (W.fin ?_)
 refine W.st [(0,.agg (dq.cells a0))] ?_
 refine W.bM [1] (ah (O.box (.cg q q) q)<|ar.aW) ?_
 obtain ⟨l4,aa,h⟩:=aB h
 refine W.rs [(2,ba l4)] ?_ ?_
 ·refine ah (O.bk q (.obj q) km q)<|ah (O.cB q (.ptr q) eZ q)<|ah (O.n0 (.lit q) (.k q))<|ah (O.aA (.lit q)) ?_
  rcases cI aa with ⟨ds,aa⟩ | ⟨ds,aa⟩
  ·refine a1 ds (O.bk q (.obj q) uT q)<|a1 ds (O.cB q (.ptr q) nu q)<|a1 ds (O.not (.lit q))<|ah (O.eu (.lit q) ds (.lit q))<|ah (O.aA (.lit q)) ?_
   rcases cI aa with ⟨cX,aa⟩ | ⟨cX,aa⟩
   ·obtain rfl:=ax aa
    exact ar.aW
   ·obtain rfl:=ax aa
    exact ar.aW
  ·obtain rfl:=ax aa
   exact ar.aW
 refine W.rt ?_
 obtain rfl:=ax h
 exact cA (.f q q .nil)
theorem D_ (a0:ByteArray) (av:Int) (a2:ByteArray) (r:Bool) (h:vD a0 av a2=some r):b_ Try.prog 124 [af a0,j av,af a2] [none,none,none] (ba r):=by
 unfold vD at h
 refine b_.go (N:=⟨25,[]⟩) Try.func124 q q q q (W.fin ?_)
 refine W.st [(0,af a0),(1,j av),(2,af a2)] ?_
 refine W.aZ [0,1,2] ?_
 obtain ⟨l4,aa,h⟩:=aB h
 refine W.rs [(6,ba l4)] ?_ ?_
 ·refine br q<|ah (O.mo (.lit q) j2)<|br q<|ah (O.sub (.lit q) (.lit q))<|br q<|ah (O.mo (.lit q) j2)<|ah (O.geq (.lit q) (.lit q))<|ah (O.aA (.lit q)) ?_
  rcases cI aa with ⟨ds,aa⟩ | ⟨ds,aa⟩
  ·refine a1 ds (O.aA (.lit q))<|a1 ds (O.aA (.lit q))<|a1 ds (O.aA (.lit q))<|a1 ds (O.aA (.lit q))<|a1 ds (O.mo (.lit q) j2)<|a1 ds (O.add (.lit q) (.lit q)) ?_
   obtain ⟨x2,ho,aa⟩:=aB aa
   obtain rfl:=ax aa
   exact a1 ds (O.xT (.lit q) (.lit q) (.lit q) j2 ho)<|ar.aW
  ·obtain rfl:=ax aa
   exact ar.aW
 refine W.rt ?_
 obtain rfl:=ax h
 exact cA (.f q q .nil)
theorem Ou (a0:ByteArray) (av:Int) (r:Int) (h:z_ a0 av=some r):b_ Try.prog 123 [af a0,j av] [none,none] (j r):=by
 unfold z_ at h
 refine b_.go (N:=⟨114,[]⟩) Try.func123 q q q q (W.fin ?_)
 refine W.st [(0,af a0),(1,j av)] ?_
 refine W.aZ [0,1] ?_
 refine W.bb<|W.bq ?_
 obtain ⟨c4,aa,h⟩:=aB h
 refine W.rs [(0,af a0),(1,j av),(9,ba c4)] ?_ ?_
 ·refine br q<|ah (O.aA (.lit q)) ?_
  obtain ⟨aE,fp,aa⟩:=aB aa
  refine ah (O.p4 (.lit q) (.lit q) j2 fp)<|ah (O.eql (.lit q) (.k q))<|ah (O.aA (.lit q)) ?_
  rcases cI aa with ⟨cX,aa⟩ | ⟨cX,aa⟩
  ·obtain rfl:=ax aa
   exact ar.aW
  ·refine a1 cX (O.aA (.lit q))<|a1 cX (O.aA (.lit q)) ?_
   obtain ⟨aX,hL,aa⟩:=aB aa
   obtain rfl:=ax aa
   exact ar.aW
 refine W.bH h q (λdK h=>?_) (λdK h=>?_)
 ·refine W.bb<|W.aZ [0,1,5] ?_
  refine W.bq ?_
  obtain ⟨bl,ao,h⟩:=aB h
  refine W.cj (G1:=[(0,_),(1,_),(5,_)]) (dB q q q) ?_
  refine W.jM (s:=aM (av+1)) (λ(cY:Int)=>[(0,af a0),(1,j av),(5,j cY)]) 1 (λ(bT:Unit)=>[]) (λ(ct:Int)=>[(4,j ct)]) ao (λcY o h=>?_) (λbT J=>?_) (λct J=>?_)
  ·clear ao
   refine W.bb ?_
   obtain ⟨uA,aa,h⟩:=aB h
   refine W.rs [(0,af a0),(1,j av),(5,j cY),(31,ba uA)] ?_ ?_
   ·refine br q<|br q<|ah (O.mo (.lit q) j2)<|ah (O.lss (.lit q) (.lit q))<|ah (O.aA (.lit q)) ?_
    rcases cI aa with ⟨eG,aa⟩ | ⟨eG,aa⟩
    ·refine a1 eG (O.aA (.lit q))<|a1 eG (O.aA (.lit q)) ?_
     obtain ⟨cp,il,aa⟩:=aB aa
     obtain rfl:=ax aa
     exact ar.aW
    ·obtain rfl:=ax aa
     exact ar.aW
   refine W.bH h q (λjB h=>?_) (λjB h=>?_)
   ·refine W.bO<|ai.a_ ?_
    refine W.bb<|W.bq ?_
    refine W.bb<|W.bb ?_
    obtain ⟨d',kr,h⟩:=aB h
    obtain ⟨dt,iJ,h⟩:=aB h
    refine W.rd [[],[],[0,1],[],[],[3,4],aO 0 6 []] [(0,_),(1,_),(5,_),(40,_)] e1 (by kernel_rfl) (au 0 (O.aA (.lit q))<|au 1 (O.aA (.lit q))<|au 2 (O.p4 (.lit q) (.lit q) j2 kr)<|au 3 (O.aA (.lit q))<|au 4 (O.aA (.lit q))<|au 5 (O.p4 (.lit q) (.lit q) j2 iJ)<|au 6 (O.eql (.lit q) (.lit q))<|bV.fin q q q (dA q q q q)) ?_
    refine ai.a_<|W.bH h q (λiw h=>?_) (λiw h=>?_)
    ·refine W.aZ [4] ?_
     refine W.rt ?_
     refine ai.c_ ?_
     refine ai.ee ?_
     refine ai.c_ ?_
     obtain rfl:=ax h
     exact ai.gm (.n q .nil)
    ·refine W.bO<|ai.a_ ?_
     obtain ⟨b4,h8,h⟩:=aB h
     refine W.aZ [0,1,5,46] ?_
     refine W.bH h q (λhJ h=>?_) (λhJ h=>?_)
     ·refine W.bM [0,1,5] (br q<|ah (O.add (.lit q) (.k q))<|ar.bp [0,1,48] q<|ar.aW) ?_
      obtain ⟨s6,aa,h⟩:=aB h
      refine W.rs [(0,af a0),(1,j av),(5,j (aM (cY+1))),(58,ba s6)] ?_ ?_
      ·refine br q<|br q<|ah (O.mo (.lit q) j2)<|ah (O.lss (.lit q) (.lit q))<|ah (O.aA (.lit q)) ?_
       rcases cI aa with ⟨h6,aa⟩ | ⟨h6,aa⟩
       ·refine a1 h6 (O.aA (.lit q))<|a1 h6 (O.aA (.lit q)) ?_
        obtain ⟨eB,qp,aa⟩:=aB aa
        obtain rfl:=ax aa
        exact ar.aW
       ·obtain rfl:=ax aa
        exact ar.aW
      refine W.bH h q (λjC h=>?_) (λjC h=>?_)
      ·refine W.aZ [4] ?_
       refine W.rt ?_
       refine ai.ee ?_
       refine ai.c_ ?_
       obtain rfl:=ax h
       exact ai.gm (.n q .nil)
      ·refine W.bO<|ai.bq ?_
       refine ai.a_<|W.bp [0,1,5] (br q<|ah (O.add (.lit q) (.k q))<|ar.bp [0,1,33] q<|ar.aW) ?_
       obtain rfl:=ax h
       exact ai.go (dB q q q)
     ·refine W.bO<|ai.bq ?_
      refine ai.a_<|W.bp [0,1,5] (br q<|ah (O.add (.lit q) (.k q))<|ar.bp [0,1,33] q<|ar.aW) ?_
      obtain rfl:=ax h
      exact ai.go (dB q q q)
   ·refine W.dd ?_
    refine ai.dc ?_
    obtain rfl:=ax h
    exact ai.x2 .nil
  ·subst J
   refine ai.de ?_
   refine ai.a_<|W.aZ [4] ?_
   refine W.rt ?_
   refine ai.ee ?_
   refine ai.c_ ?_
   obtain rfl:=ax h
   exact cA (.f q q .nil)
  ·subst J
   refine ai.ee ?_
   refine ai.c_ ?_
   refine ai.ee ?_
   refine ai.c_ ?_
   obtain rfl:=ax h
   exact cA (.f q q .nil)
 ·obtain ⟨eK,mH,h⟩:=aB h
  refine W.aZ [0,1,59] ?_
  refine W.bH h q (λgP h=>?_) (λgP h=>?_)
  ·refine W.bb<|W.aZ [0,6] ?_
   refine W.bq ?_
   obtain ⟨ib,ao,h⟩:=aB h
   refine W.cj (G1:=[(0,_),(6,_)]) (fe q q) ?_
   refine W.jM (s:=aM (av+1)) (λ(vP:Int)=>[(0,af a0),(6,j vP)]) 3 (λ(gr:Unit)=>[]) (λ(cV:Int)=>[(4,j cV)]) ao (λvP o h=>?_) (λgr J=>?_) (λcV J=>?_)
   ·clear ao
    refine W.bb<|W.aZ [0,6,69] ?_
    refine W.bH h q (λtl h=>?_) (λtl h=>?_)
    ·refine W.bO<|ai.a_ ?_
     refine W.bb<|W.bq ?_
     obtain ⟨ha,mJ,h⟩:=aB h
     refine W.aZ [0,6,75] ?_
     refine W.bH h q (λlK h=>?_) (λlK h=>?_)
     ·refine W.aZ [4] ?_
      refine W.rt ?_
      refine ai.ee ?_
      refine ai.c_ ?_
      obtain rfl:=ax h
      exact ai.gm (.n q .nil)
     ·refine W.bO<|ai.bq ?_
      refine ai.a_<|W.bp [0,6] (br q<|ah (O.add (.lit q) (.k q))<|ar.bp [0,71] q<|ar.aW) ?_
      obtain rfl:=ax h
      exact ai.go (fe q q)
    ·refine W.dd ?_
     refine ai.dc ?_
     obtain rfl:=ax h
     exact ai.x2 .nil
   ·subst J
    refine ai.de ?_
    refine ai.a_<|W.aZ [4] ?_
    refine W.rt ?_
    refine ai.ee ?_
    refine ai.c_ ?_
    obtain rfl:=ax h
    exact cA (.f q q .nil)
   ·subst J
    refine ai.ee ?_
    refine ai.c_ ?_
    refine ai.ee ?_
    refine ai.c_ ?_
    obtain rfl:=ax h
    exact cA (.f q q .nil)
  ·obtain ⟨dH,sl,h⟩:=aB h
   refine W.bM [0,1,78] (br q<|br q<|dL (cu.go (.bX (.lit q) (.bX (.lit q) (.bX (.k q) .nil))) (D_ a0 av ({ data:=#[47,47] }) _ sl) call124 q)<|ar.aW) ?_
   refine W.bH h q (λkp h=>?_) (λkp h=>?_)
   ·refine W.aZ [0,7] ?_
    refine W.bb<|W.bq ?_
    obtain ⟨gL,ao,h⟩:=aB h
    refine W.cj (G1:=[(0,_),(7,_)]) (fe q q) ?_
    refine W.e0 (s:=av) (λ(t_:Int)=>[(0,af a0),(7,j t_)]) 5 (λ(gL:Int)=>[(7,j gL)]) ao (λt_ o h=>?_) ?_
    ·clear ao
     refine W.bb ?_
     obtain ⟨ym,aa,h⟩:=aB h
     refine W.rs [(0,af a0),(7,j t_),(92,ba ym)] ?_ ?_
     ·refine br q<|br q<|ah (O.mo (.lit q) j2)<|ah (O.lss (.lit q) (.lit q))<|ah (O.aA (.lit q)) ?_
      rcases cI aa with ⟨ra,aa⟩ | ⟨ra,aa⟩
      ·refine a1 ra (O.aA (.lit q))<|a1 ra (O.aA (.lit q)) ?_
       obtain ⟨c7,xg,aa⟩:=aB aa
       obtain rfl:=ax aa
       exact ar.aW
      ·obtain rfl:=ax aa
       exact ar.aW
     refine W.bH h q (λQR h=>?_) (λQR h=>?_)
     ·refine W.bO<|ai.a_ ?_
      refine W.bq<|W.bp [0,7] (br q<|ah (O.add (.lit q) (.k q))<|ar.bp [0,94] q<|ar.aW) ?_
      refine ai.bq ?_
      obtain rfl:=ax h
      exact ai.go (fe q q)
     ·refine W.dd ?_
      refine ai.dc ?_
      obtain rfl:=ax h
      exact ai.aE (.n q .nil)
    refine ai.de ?_
    refine ai.a_<|W.aZ [4] ?_
    refine W.rt ?_
    refine ai.ee ?_
    refine ai.c_ ?_
    obtain rfl:=ax h
    exact cA (.f q q .nil)
   ·obtain ⟨MB,Se,h⟩:=aB h
    refine W.bM [0,1,96] (br q<|br q<|dL (cu.go (.bX (.lit q) (.bX (.lit q) (.bX (.k q) .nil))) (D_ a0 av ({ data:=#[47,42] }) _ Se) call124 q)<|ar.aW) ?_
    refine W.bH h q (λQS h=>?_) (λQS h=>?_)
    ·refine W.bb<|W.aZ [0,8] ?_
     refine W.bq ?_
     obtain ⟨AW,ao,h⟩:=aB h
     refine W.cj (G1:=[(0,_),(8,_)]) (fe q q) ?_
     refine W.jM (s:=aM (av+2)) (λ(t':Int)=>[(0,af a0),(8,j t')]) 7 (λ(MC:Unit)=>[]) (λ(ow:Int)=>[(4,j ow)]) ao (λt' o h=>?_) (λMC J=>?_) (λow J=>?_)
     ·clear ao
      refine W.bb<|W.aZ [0,8,105] ?_
      refine W.bH h q (λQV h=>?_) (λQV h=>?_)
      ·refine W.bO<|ai.a_ ?_
       refine W.bb<|W.bq ?_
       obtain ⟨AX,KZ,h⟩:=aB h
       refine W.bM [0,8,110] (br q<|br q<|dL (cu.go (.bX (.lit q) (.bX (.lit q) (.bX (.k q) .nil))) (D_ a0 t' ({ data:=#[42,47] }) _ KZ) call124 q)<|bR q) ?_
       refine W.bH h q (λE7 h=>?_) (λE7 h=>?_)
       ·refine W.aZ [4] ?_
        refine W.rt ?_
        refine ai.ee ?_
        refine ai.c_ ?_
        obtain rfl:=ax h
        exact ai.gm (.n q .nil)
       ·refine W.bO<|ai.bq ?_
        refine ai.a_<|W.bp [0,8] (br q<|ah (O.add (.lit q) (.k q))<|ar.bp [0,107] q<|ar.aW) ?_
        obtain rfl:=ax h
        exact ai.go (fe q q)
      ·refine W.dd ?_
       refine ai.dc ?_
       obtain rfl:=ax h
       exact ai.x2 .nil
     ·subst J
      refine ai.de ?_
      refine ai.a_<|W.aZ [4] ?_
      refine W.rt ?_
      refine ai.ee ?_
      refine ai.c_ ?_
      obtain rfl:=ax h
      exact cA (.f q q .nil)
     ·subst J
      refine ai.ee ?_
      refine ai.c_ ?_
      refine ai.ee ?_
      refine ai.c_ ?_
      obtain rfl:=ax h
      exact cA (.f q q .nil)
    ·refine W.bO<|ai.bq ?_
     refine ai.a_<|W.aZ [4] ?_
     refine W.rt ?_
     obtain rfl:=ax h
     exact cA (.f q q .nil)
theorem IW (a0:ByteArray) (av:Int) (r:Int) (h:xD a0 av=some r):b_ Try.prog 119 [af a0,j av] [none,none] (j r):=by
 unfold xD at h
 refine b_.go (N:=⟨53,[]⟩) Try.func119 q q q q (W.fin ?_)
 refine W.st [(0,af a0),(1,j av)] ?_
 refine W.aZ [0,1] ?_
 refine W.bb ?_
 obtain ⟨c4,aa,h⟩:=aB h
 refine W.rs [(0,af a0),(1,j av),(21,ba c4)] ?_ ?_
 ·refine br q<|ah (O.lss (.lit q) (.k q))<|ah (O.aA (.lit q)) ?_
  rcases cI aa with ⟨ds,aa⟩ | ⟨ds,aa⟩
  ·obtain rfl:=ax aa
   exact ar.aW
  ·refine a1 ds (O.aA (.lit q))<|a1 ds (O.aA (.lit q))<|a1 ds (O.mo (.lit q) j2)<|a1 ds (O.geq (.lit q) (.lit q))<|ah (O.cC (.lit q) ds (.lit q))<|ah (O.aA (.lit q)) ?_
   rcases cI aa with ⟨cX,aa⟩ | ⟨cX,aa⟩
   ·obtain rfl:=ax aa
    exact ar.aW
   ·refine a1 cX (O.aA (.lit q))<|a1 cX (O.aA (.lit q)) ?_
    obtain ⟨aX,hL,aa⟩:=aB aa
    obtain rfl:=ax aa
    exact ar.aW
 refine W.bH h q (λdK h=>?_) (λdK h=>?_)
 ·refine W.aZ [4] ?_
  refine W.rt ?_
  refine ai.c_ ?_
  obtain rfl:=ax h
  exact cA (.f q q .nil)
 ·refine W.bO<|ai.a_ ?_
  refine W.aZ [0,1,5] ?_
  refine W.bb<|W.aZ [0,5,6] ?_
  refine W.bq ?_
  obtain ⟨bl,ao,h⟩:=aB h
  refine W.cj (G1:=[(0,_),(5,_),(6,_)]) (dB q q q) ?_
  refine W.jM (s:=(0,av)) (λ(cY:Int × Int)=>[(0,af a0),(5,j cY.1),(6,j cY.2)]) 0 (λ(bT:Unit)=>[]) (λ(ct:Int)=>[(4,j ct)]) ao (λcY o h=>?_) (λbT J=>?_) (λct J=>?_)
  ·clear ao
   refine W.bb<|W.aZ [0,5,6,26] ?_
   refine W.bH h q (λeG h=>?_) (λeG h=>?_)
   ·refine W.bO<|ai.a_ ?_
    refine W.bq ?_
    obtain ⟨cp,il,h⟩:=aB h
    refine W.bM [0,5,6,7] (br q<|br q<|dL (cu.go (.bX (.lit q) (.bX (.lit q) .nil)) (Ou a0 cY.2 _ il) call123 q)<|ar.aW) ?_
    refine W.bb<|W.aZ [0,5,6,7,31] ?_
    refine W.bH h q (λew h=>?_) (λew h=>?_)
    ·refine W.aZ [4] ?_
     refine W.rt ?_
     refine ai.c_ ?_
     refine ai.ee ?_
     obtain rfl:=ax h
     exact ai.gm (.n q .nil)
    ·refine W.bO<|ai.a_ ?_
     refine W.bb<|W.aZ [0,5,6,7,34] ?_
     refine W.bH h q (λjB h=>?_) (λjB h=>?_)
     ·refine W.bM [0,5,6] (br q<|ar.bp [0,5,35] q<|ar.aW) ?_
      refine W.dd ?_
      refine ai.dc ?_
      refine ai.de ?_
      obtain rfl:=ax h
      exact ai.go (dB q q q)
     ·refine W.bO<|ai.a_ ?_
      refine W.bb ?_
      obtain ⟨d',kr,h⟩:=aB h
      refine W.aZ [0,5,6,39] ?_
      obtain ⟨mm,aa,h⟩:=aB h
      refine W.bC [(0,af a0),(5,j mm),(6,j cY.2)] ?_ ?_
      ·clear h; have h:=aa; clear aa
       refine W.bH h q (λiw h=>?_) (λiw h=>?_)
       ·refine W.bp [0,5,6] (br q<|ah (O.add (.lit q) (.k q))<|ar.bp [0,6,41] q<|ar.aW) ?_
        obtain rfl:=ax h
        exact ai.bC (dB q q q)
       ·refine W.bO ?_
        obtain rfl:=ax h
        exact ai.bC (dB q q q)
      refine ai.a_<|W.bb ?_
      obtain ⟨b4,h8,h⟩:=aB h
      refine W.aZ [0,5,6,45] ?_
      obtain ⟨CC,aa,h⟩:=aB h
      refine W.bC [(0,af a0),(5,j CC),(6,j cY.2)] ?_ ?_
      ·clear h; have h:=aa; clear aa
       refine W.bH h q (λh6 h=>?_) (λh6 h=>?_)
       ·refine W.bp [0,5,6] (br q<|ah (O.sub (.lit q) (.k q))<|ar.bp [0,6,47] q<|ar.aW) ?_
        obtain rfl:=ax h
        exact ai.bC (dB q q q)
       ·refine W.bO ?_
        obtain rfl:=ax h
        exact ai.bC (dB q q q)
      refine ai.a_<|W.bM [0,5,6] (br q<|ah (O.add (.lit q) (.k q))<|ar.bp [0,5,49] q<|ar.aW) ?_
      refine W.aZ [0,5,6,51] ?_
      refine W.bH h q (λgF h=>?_) (λgF h=>?_)
      ·refine W.aZ [4] ?_
       refine W.rt ?_
       refine ai.ee ?_
       obtain rfl:=ax h
       exact ai.gm (.n q .nil)
      ·refine W.bO<|ai.bq ?_
       obtain rfl:=ax h
       exact ai.go (dB q q q)
   ·refine W.dd ?_
    refine ai.dc ?_
    obtain rfl:=ax h
    exact ai.x2 .nil
  ·subst J
   refine ai.de ?_
   refine ai.a_<|W.aZ [4] ?_
   refine W.rt ?_
   obtain rfl:=ax h
   exact cA (.f q q .nil)
  ·subst J
   refine ai.ee ?_
   refine ai.c_ ?_
   obtain rfl:=ax h
   exact cA (.f q q .nil)
theorem Om (a0:Alt) (r:Bool) (h:zZ a0=some r):b_ Try.prog 112 [.agg (dY.cells a0)] [none] (ba r):=by
 unfold zZ at h
 refine b_.go (N:=⟨54,[]⟩) Try.func112 q q q q (W.fin ?_)
 refine W.st [(0,.agg (dY.cells a0))] ?_
 refine W.bM [1] (ah (O.box (.cg q q) q)<|ar.aW) ?_
 refine W.bb<|W.aZ [1,3] ?_
 refine W.bq ?_
 obtain ⟨x2,ao,h⟩:=aB h
 refine W.cj (G1:=[(1,_),(3,_)]) (fe q q) ?_
 refine W.jM (s:=0) (λ(s1:Int)=>[(1,.obj (dY.cells a0)),(3,j s1)]) 0 (λ(aX:Unit)=>[(1,.obj (dY.cells a0))]) (λ(bN:Bool)=>[(2,ba bN)]) ao (λs1 o h=>?_) (λaX J=>?_) (λbN J=>?_)
 ·clear ao
  refine W.bb<|W.aZ [1,3,9] ?_
  refine W.bH h q (λdK h=>?_) (λdK h=>?_)
  ·refine W.bO<|ai.a_ ?_
   refine W.bb<|W.bq ?_
   obtain ⟨bu,fH,h⟩:=aB h
   refine W.bM [1,3,4] (ah (O.bk q (.obj q) r3 q)<|ah (O.c9 (y:=aj fj a0.jw) q (.ptr q) wR q q)<|br q<|ah (O.cE (.aD q) (.lit q) sJ fH)<|ah (O.jn (cs':=[af bu.Sym.Name,ba bu.Sym.Lit,j bu.Sym.c0,j bu.Sym.At,af bu.Code,j bu.At]) (.bn q) Bo q q)<|ah (O.fD (cs:=[af aC,ba false,j 0,j 0,af aC,j 0]) rD q q)<|ar.dI (G2:=[(1,_),(3,_),(4,_)]) (cs2:=[af bu.Sym.Name,ba bu.Sym.Lit,j bu.Sym.c0,j bu.Sym.At,af bu.Code,j bu.At]) q (.obj q) (.cg q q) q Hr q q q q (.n q q (.n q q (.b q .nil)))<|bR q) ?_
   refine W.bb ?_
   obtain ⟨p5,aa,h⟩:=aB h
   refine W.rd [[],[0],[0,1],[0,1,2],[0,1,2,3],aO 0 5 [],aO 0 6 [],aO 0 7 [],aO 0 8 [],aO 0 9 [],aO 0 10 [],aO 0 11 [],aO 0 12 [],aO 0 13 [],aO 0 14 [],aO 0 15 [],aO 0 16 [],aO 0 17 [],aO 0 18 [],aO 0 19 [],aO 0 20 [],aO 0 21 [],aO 0 19 [],aO 0 19 [22],aO 0 19 [22,23],aO 0 25 [],aO 0 26 [],aO 0 27 [],aO 0 28 []] [(1,.obj (dY.cells a0)),(3,j s1),(45,ba p5)] e1 (by kernel_rfl) ?_ ?_
   ·refine au 0 (O.bk q (.obj q) q8 q)<|au 1 (O.cB q (.ptr q) eZ q)<|au 2 (O.n0 (.lit q) (.k q))<|au 3 (O.aA (.lit q)) ?_
    rcases cI aa with ⟨cU,aa⟩ | ⟨cU,aa⟩
    ·refine bx 4 cU (O.bk q (.obj q) yK q)<|bx 5 cU (O.dT (cs':=[af bu.Sym.Name,ba bu.Sym.Lit,j bu.Sym.c0,j bu.Sym.At]) q (.ptr q) k1 q q) ?_
     obtain ⟨bT,im,aa⟩:=aB aa
     refine bV.c 6 (cu.go (.bX (.cg q q) (.bX (.k q) (.bX (.k q) .nil))) (D8 bu.Sym false true _ im) call116 q) q q q q (.jS q q cU)<|bx 7 cU (O.not (.lit q))<|au 8 (O.eu (.lit q) cU (.lit q))<|au 9 (O.aA (.lit q)) ?_
     rcases cI aa with ⟨ey,aa⟩ | ⟨ey,aa⟩
     ·obtain rfl:=ax aa
      exact aH 10 ey<|aH 11 ey<|aH 12 ey<|aH 13 ey<|fw 14<|fw 15<|fw 16<|fw 17<|fw 18<|fw 19<|fw 20<|fw 21<|fw 22<|fw 23<|fw 24<|fw 25<|fw 26<|aH 27 ey<|au 28 (O.eu (.lit q) ey (.k q))<|bV.fin q q q (dB q q q)
     ·refine bx 10 ey (O.bk q (.obj q) q8 q)<|bx 11 ey (O.cB q (.ptr q) eZ q)<|bx 12 ey (O.lS (.lit q) (.k q))<|bx 13 ey (O.aA (.lit q)) ?_
      rcases cI aa with ⟨eG,aa⟩ | ⟨eG,aa⟩
      ·refine bx 14 eG (O.bk q (.obj q) yK q)<|bx 15 eG (O.dT (cs':=[af bu.Sym.Name,ba bu.Sym.Lit,j bu.Sym.c0,j bu.Sym.At]) q (.ptr q) k1 q q) ?_
       obtain ⟨cp,il,aa⟩:=aB aa
       refine bV.c 16 (cu.go (.bX (.cg q q) .nil) (D9 bu.Sym _ il) call118 q) q q q q (.jS q q eG)<|bx 17 eG (O.not (.lit q))<|bx 18 eG (O.aA (.lit q)) ?_
       rcases cI aa with ⟨ew,aa⟩ | ⟨ew,aa⟩
       ·obtain rfl:=ax aa
        exact aH 19 ew<|aH 20 ew<|aH 21 ew<|aH 22 ew<|aH 23 ew<|aH 24 ew<|aH 25 ew<|bx 26 eG (O.eu (.lit q) ew (.k q))<|bx 27 ey (O.eu (.lit q) eG (.lit q))<|au 28 (O.cC (.lit q) ey (.lit q))<|bV.fin q q q (dB q q q)
       ·refine bx 19 ew (O.bk q (.obj q) q8 q)<|bx 20 ew (O.cB q (.ptr q) eZ q) ?_
        obtain ⟨dR,jE,aa⟩:=aB aa
        obtain rfl:=ax aa
        exact bV.c 21 (cu.go (.bX (.lit q) (.bX (.k q) .nil)) (IW bu.Code 0 _ jE) call119 q) q q q q (.jS q q ew)<|bx 22 ew (O.bk q (.obj q) q8 q)<|bx 23 ew (O.cB q (.ptr q) eZ q)<|bx 24 ew (O.mo (.lit q) j2)<|bx 25 ew (O.neq (.lit q) (.lit q))<|bx 26 eG (O.cC (.lit q) ew (.lit q))<|bx 27 ey (O.eu (.lit q) eG (.lit q))<|au 28 (O.cC (.lit q) ey (.lit q))<|bV.fin q q q (dB q q q)
      ·obtain rfl:=ax aa
       exact aH 14 eG<|aH 15 eG<|aH 16 eG<|aH 17 eG<|aH 18 eG<|fw 19<|fw 20<|fw 21<|fw 22<|fw 23<|fw 24<|fw 25<|aH 26 eG<|bx 27 ey (O.cC (.lit q) eG (.k q))<|au 28 (O.cC (.lit q) ey (.lit q))<|bV.fin q q q (dB q q q)
    ·refine aH 4 cU<|aH 5 cU<|aH 6 cU<|aH 7 cU<|au 8 (O.cC (.lit q) cU (.k q))<|au 9 (O.aA (.lit q))<|bx 10 q (O.bk q (.obj q) q8 q)<|bx 11 q (O.cB q (.ptr q) eZ q)<|bx 12 q (O.lS (.lit q) (.k q))<|bx 13 q (O.aA (.lit q)) ?_
     rcases cI aa with ⟨eE,aa⟩ | ⟨eE,aa⟩
     ·refine bx 14 eE (O.bk q (.obj q) yK q)<|bx 15 eE (O.dT (cs':=[af bu.Sym.Name,ba bu.Sym.Lit,j bu.Sym.c0,j bu.Sym.At]) q (.ptr q) k1 q q) ?_
      obtain ⟨dt,iJ,aa⟩:=aB aa
      refine bV.c 16 (cu.go (.bX (.cg q q) .nil) (D9 bu.Sym _ iJ) call118 q) q q q q (.jS q q eE)<|bx 17 eE (O.not (.lit q))<|bx 18 eE (O.aA (.lit q)) ?_
      rcases cI aa with ⟨iw,aa⟩ | ⟨iw,aa⟩
      ·obtain rfl:=ax aa
       exact aH 19 iw<|aH 20 iw<|aH 21 iw<|aH 22 iw<|aH 23 iw<|aH 24 iw<|aH 25 iw<|bx 26 eE (O.eu (.lit q) iw (.k q))<|bx 27 q (O.eu (.lit q) eE (.lit q))<|au 28 (O.cC (.lit q) q (.lit q))<|bV.fin q q q (dB q q q)
      ·refine bx 19 iw (O.bk q (.obj q) q8 q)<|bx 20 iw (O.cB q (.ptr q) eZ q) ?_
       obtain ⟨b4,h8,aa⟩:=aB aa
       obtain rfl:=ax aa
       exact bV.c 21 (cu.go (.bX (.lit q) (.bX (.k q) .nil)) (IW bu.Code 0 _ h8) call119 q) q q q q (.jS q q iw)<|bx 22 iw (O.bk q (.obj q) q8 q)<|bx 23 iw (O.cB q (.ptr q) eZ q)<|bx 24 iw (O.mo (.lit q) j2)<|bx 25 iw (O.neq (.lit q) (.lit q))<|bx 26 eE (O.cC (.lit q) iw (.lit q))<|bx 27 q (O.eu (.lit q) eE (.lit q))<|au 28 (O.cC (.lit q) q (.lit q))<|bV.fin q q q (dB q q q)
     ·obtain rfl:=ax aa
      exact aH 14 eE<|aH 15 eE<|aH 16 eE<|aH 17 eE<|aH 18 eE<|fw 19<|fw 20<|fw 21<|fw 22<|fw 23<|fw 24<|fw 25<|aH 26 eE<|bx 27 q (O.cC (.lit q) eE (.k q))<|au 28 (O.cC (.lit q) q (.lit q))<|bV.fin q q q (dB q q q)
   refine ai.a_<|W.bH h q (λh6 h=>?_) (λh6 h=>?_)
   ·refine W.aZ [2] ?_
    refine W.rt ?_
    refine ai.ee ?_
    refine ai.c_ ?_
    obtain rfl:=ax h
    exact ai.gm (.n q .nil)
   ·refine W.bO<|ai.bq ?_
    refine ai.a_<|W.bp [1,3] (br q<|ah (O.add (.lit q) (.k q))<|ar.bp [1,11] q<|ar.aW) ?_
    obtain rfl:=ax h
    exact ai.go (fe q q)
  ·refine W.dd ?_
   refine ai.dc ?_
   obtain rfl:=ax h
   exact ai.x2 (.n q .nil)
 ·subst J
  refine ai.de ?_
  refine ai.a_ ?_
  obtain ⟨Bu,aa,h⟩:=aB h
  refine W.rs [(2,ba Bu)] ?_ ?_
  ·refine ah (O.bk q (.obj q) ta q)<|ah (O.dT (cs':=[af a0.Prec.Name,ba a0.Prec.Lit,j a0.Prec.c0,j a0.Prec.At]) q (.ptr q) k1 q q) ?_
   obtain ⟨eB,qp,aa⟩:=aB aa
   refine dL (cu.go (.bX (.cg q q) .nil) (D9 a0.Prec _ qp) call118 q)<|ah (O.aA (.lit q)) ?_
   rcases cI aa with ⟨jJ,aa⟩ | ⟨jJ,aa⟩
   ·obtain rfl:=ax aa
    exact ar.aW
   ·refine a1 jJ (O.bk q (.obj q) ta q)<|a1 jJ (O.dT (cs':=[af a0.Prec.Name,ba a0.Prec.Lit,j a0.Prec.c0,j a0.Prec.At]) q (.ptr q) k1 q q) ?_
    obtain ⟨gi,nD,aa⟩:=aB aa
    obtain rfl:=ax aa
    exact ar.c (cu.go (.bX (.cg q q) (.bX (.k q) (.bX (.k q) .nil))) (D8 a0.Prec false true _ nD) call116 q) q q (.jS q q jJ)<|ar.aW
  refine W.rt ?_
  obtain rfl:=ax h
  exact cA (.f q q .nil)
 ·subst J
  refine ai.ee ?_
  refine ai.c_ ?_
  obtain rfl:=ax h
  exact cA (.f q q .nil)
theorem O2 (a0:Source) (r:Bool) (h:Az a0=some r):b_ Try.prog 92 [.agg (dU.cells a0)] [none] (ba r):=by
 unfold Az at h
 refine b_.go (N:=⟨77,[]⟩) Try.func92 q q q q (W.fin ?_)
 refine W.st [(0,.agg (dU.cells a0))] ?_
 refine W.bM [1] (ah (O.box (.cg q q) q)<|ar.aW) ?_
 refine W.bb<|W.aZ [1,3] ?_
 refine W.bq ?_
 obtain ⟨x2,ao,h⟩:=aB h
 refine W.cj (G1:=[(1,_),(3,_)]) (fe q q) ?_
 refine W.jM (s:=0) (λ(s1:Int)=>[(1,.obj (dU.cells a0)),(3,j s1)]) 0 (λ(aX:Unit)=>[(1,.obj (dU.cells a0))]) (λ(bN:Bool)=>[(2,ba bN)]) ao (λs1 o h=>?_) (λaX J=>?_) (λbN J=>?_)
 ·clear ao
  refine W.bb<|W.aZ [1,3,13] ?_
  refine W.bH h q (λdK h=>?_) (λdK h=>?_)
  ·refine W.bO<|ai.a_ ?_
   refine W.bb<|W.bq ?_
   obtain ⟨bu,fH,h⟩:=aB h
   refine W.bM [1,3,22] (ah (O.bk q (.obj q) Es q)<|ah (O.cB q (.ptr q) eZ q)<|br q<|br q<|ah (O.add (.lit q) (.k q))<|ah (O.xT (.lit q) (.lit q) (.lit q) j2 fH)<|ar.aW) ?_
   refine W.bH h q (λcU h=>?_) (λcU h=>?_)
   ·refine W.aZ [2] ?_
    refine W.rt ?_
    refine ai.ee ?_
    refine ai.c_ ?_
    obtain rfl:=ax h
    exact ai.gm (.n q .nil)
   ·refine W.bO<|ai.bq ?_
    refine ai.a_<|W.bp [1,3] (br q<|ah (O.add (.lit q) (.k q))<|ar.bp [1,15] q<|ar.aW) ?_
    obtain rfl:=ax h
    exact ai.go (fe q q)
  ·refine W.dd ?_
   refine ai.dc ?_
   obtain rfl:=ax h
   exact ai.x2 (.n q .nil)
 ·subst J
  refine ai.de ?_
  refine ai.a_<|W.bb ?_
  refine W.aZ [1,4] ?_
  refine W.bq ?_
  obtain ⟨ct,ao,h⟩:=aB h
  refine W.cj (G1:=[(1,_),(4,_)]) (fe q q) ?_
  refine W.jM (s:=0) (λ(cL:Int)=>[(1,.obj (dU.cells a0)),(4,j cL)]) 2 (λ(bQ:Unit)=>[(1,.obj (dU.cells a0))]) (λ(cp:Bool)=>[(2,ba cp)]) ao (λcL o h=>?_) (λbQ J=>?_) (λcp J=>?_)
  ·clear ao
   refine W.bb<|W.aZ [1,4,27] ?_
   refine W.bH h q (λew h=>?_) (λew h=>?_)
   ·refine W.bO<|ai.a_ ?_
    refine W.bb<|W.bq ?_
    obtain ⟨dR,jE,h⟩:=aB h
    obtain ⟨d',kr,h⟩:=aB h
    refine W.bM [1,4,36] (ah (O.bk q (.obj q) s' q)<|ah (O.c9 (y:=aj cM a0.Decls) q (.ptr q) wQ q q)<|br q<|ah (O.cE (.aD q) (.lit q) sG jE)<|ah (O.jn (cs':=[j dR.Kind,af dR.Tag,aj dq dR.fc,j dR.At]) (.bn q) DL q q)<|dL (cu.go (.bX (.cg q q) .nil) (Ol dR _ kr) call110 q)<|ar.aW) ?_
    refine W.bH h q (λqe h=>?_) (λqe h=>?_)
    ·refine W.aZ [2] ?_
     refine W.rt ?_
     refine ai.ee ?_
     refine ai.c_ ?_
     obtain rfl:=ax h
     exact ai.gm (.n q .nil)
    ·refine W.bO<|ai.bq ?_
     refine ai.a_<|W.bp [1,4] (br q<|ah (O.add (.lit q) (.k q))<|ar.bp [1,29] q<|ar.aW) ?_
     obtain rfl:=ax h
     exact ai.go (fe q q)
   ·refine W.dd ?_
    refine ai.dc ?_
    obtain rfl:=ax h
    exact ai.x2 (.n q .nil)
  ·subst J
   refine ai.de ?_
   refine ai.a_<|W.bb ?_
   refine W.aZ [1,5] ?_
   refine W.bq ?_
   obtain ⟨b4,ao,h⟩:=aB h
   refine W.cj (G1:=[(1,_),(5,_)]) (fe q q) ?_
   refine W.jM (s:=0) (λ(lT:Int)=>[(1,.obj (dU.cells a0)),(5,j lT)]) 4 (λ(eJ:Unit)=>[(1,.obj (dU.cells a0))]) (λ(fL:Bool)=>[(2,ba fL)]) ao (λlT o h=>?_) (λeJ J=>?_) (λfL J=>?_)
   ·clear ao
    refine W.bb<|W.aZ [1,5,41] ?_
    refine W.bH h q (λgF h=>?_) (λgF h=>?_)
    ·refine W.bO<|ai.a_ ?_
     refine W.bb<|W.bq ?_
     obtain ⟨dO,mg,h⟩:=aB h
     refine W.bM [1,5,6] (ah (O.bk q (.obj q) n1 q)<|ah (O.c9 (y:=aj gN a0.ea) q (.ptr q) py q q)<|br q<|ah (O.cE (.aD q) (.lit q) o_ mg)<|ah (O.jn (cs':=[af dO.Left,aj dY dO.fM,j dO.At]) (.bn q) DN q q)<|ah (O.fD (cs:=[af aC,.aJ,j 0]) A3 q q)<|ar.dI (G2:=[(1,_),(5,_),(6,_)]) (cs2:=[af dO.Left,aj dY dO.fM,j dO.At]) q (.obj q) (.cg q q) q Hu q q q q (.n q q (.n q q (.b q .nil)))<|bR q) ?_
     refine W.bb ?_
     obtain ⟨wL,aa,h⟩:=aB h
     refine W.rs [(1,.obj (dU.cells a0)),(5,j lT),(6,.obj (gN.cells dO)),(58,ba wL)] ?_ ?_
     ·refine ah (O.bk q (.obj q) tb q)<|ah (O.cB q (.ptr q) eZ q) ?_
      obtain ⟨gi,nD,aa⟩:=aB aa
      refine dL (cu.go (.bX (.lit q) .nil) (BD dO.Left _ nD) call111 q)<|ah (O.not (.lit q))<|ah (O.aA (.lit q)) ?_
      rcases cI aa with ⟨ix,aa⟩ | ⟨ix,aa⟩
      ·obtain rfl:=ax aa
       exact ar.aW
      ·obtain rfl:=ax aa
       exact ar.aW
     refine W.bH h q (λiS h=>?_) (λiS h=>?_)
     ·refine W.aZ [2] ?_
      refine W.rt ?_
      refine ai.c_ ?_
      refine ai.ee ?_
      refine ai.c_ ?_
      obtain rfl:=ax h
      exact ai.gm (.n q .nil)
     ·refine W.bO<|ai.a_ ?_
      refine W.aZ [1,5,6,7] ?_
      refine W.bq ?_
      obtain ⟨gr,ao,h⟩:=aB h
      refine W.cj (G1:=[(1,_),(5,_),(6,_),(7,_)]) (dA q q q q) ?_
      refine W.jM (s:=0) (λ(xS:Int)=>[(1,.obj (dU.cells a0)),(5,j lT),(6,.obj (gN.cells dO)),(7,j xS)]) 6 (λ(cV:Unit)=>[(1,.obj (dU.cells a0)),(5,j lT)]) (λ(ev:Bool)=>[(2,ba ev)]) ao (λxS o h=>?_) (λcV J=>?_) (λev J=>?_)
      ·clear ao
       refine W.bb<|W.aZ [1,5,6,7,63] ?_
       refine W.bH h q (λE6 h=>?_) (λE6 h=>?_)
       ·refine W.bO<|ai.a_ ?_
        refine W.bb<|W.bq ?_
        obtain ⟨i_,mK,h⟩:=aB h
        obtain ⟨dH,sl,h⟩:=aB h
        refine W.bM [1,5,6,7,72] (ah (O.bk q (.obj q) q9 q)<|ah (O.c9 (y:=aj dY dO.fM) q (.ptr q) uI q q)<|br q<|ah (O.cE (.aD q) (.lit q) uc mK)<|ah (O.jn (cs':=[aj fj i_.jw,af i_.Prec.Name,ba i_.Prec.Lit,j i_.Prec.c0,j i_.Prec.At,j i_.At]) (.bn q) DM q q)<|dL (cu.go (.bX (.cg q q) .nil) (Om i_ _ sl) call112 q)<|ar.aW) ?_
        refine W.bH h q (λkp h=>?_) (λkp h=>?_)
        ·refine W.aZ [2] ?_
         refine W.rt ?_
         refine ai.ee ?_
         refine ai.c_ ?_
         obtain rfl:=ax h
         exact ai.gm (.n q .nil)
        ·refine W.bO<|ai.bq ?_
         refine ai.a_<|W.bp [1,5,6,7] (br q<|ah (O.add (.lit q) (.k q))<|ar.bp [1,5,6,65] q<|ar.aW) ?_
         obtain rfl:=ax h
         exact ai.go (dA q q q q)
       ·refine W.dd ?_
        refine ai.dc ?_
        obtain rfl:=ax h
        exact ai.x2 (fe q q)
      ·subst J
       refine ai.de ?_
       refine ai.bq ?_
       refine ai.a_<|W.bp [1,5] (br q<|ah (O.add (.lit q) (.k q))<|ar.bp [1,43] q<|ar.aW) ?_
       obtain rfl:=ax h
       exact ai.go (fe q q)
      ·subst J
       refine ai.ee ?_
       refine ai.ee ?_
       refine ai.c_ ?_
       obtain rfl:=ax h
       exact ai.gm (.n q .nil)
    ·refine W.dd ?_
     refine ai.dc ?_
     obtain rfl:=ax h
     exact ai.x2 (.n q .nil)
   ·subst J
    refine ai.de ?_
    refine ai.a_<|W.aZ [2] ?_
    refine W.rt ?_
    obtain rfl:=ax h
    exact cA (.f q q .nil)
   ·subst J
    refine ai.ee ?_
    refine ai.c_ ?_
    obtain rfl:=ax h
    exact cA (.f q q .nil)
  ·subst J
   refine ai.ee ?_
   refine ai.c_ ?_
   obtain rfl:=ax h
   exact cA (.f q q .nil)
 ·subst J
  refine ai.ee ?_
  refine ai.c_ ?_
  obtain rfl:=ax h
  exact cA (.f q q .nil)
theorem uF (a0:cN) (av:Int) (a2:ByteArray) (r:cN) (h:nh a0 av a2=some r):b_ Try.prog 94 [.obj (dV.cells a0),j av,af a2] [some (.obj [ak bo r.aq.a',ak a8 r.aq.bw,ak bE r.aq.aY,af r.aq.bz,af r.aq.bA,ak bF r.b0,ak a8 r.bW,ak cr r.bD,j r.ca,j r.cb,af r.b',j r.bU,j r.bB]),none,none] (.cw []):=by
 unfold nh at h
 refine b_.go (N:=⟨22,[0]⟩) Try.func94 q q q q (W.fin ?_)
 refine W.st [(0,.obj (dV.cells a0)),(1,j av),(2,af a2)] ?_
 refine W.aZ [0,1,2,10] ?_
 obtain ⟨h0,aa,h⟩:=aB h
 refine W.bC [(0,.obj (dV.cells h0))] ?_ ?_
 ·clear h; have h:=aa; clear aa
  refine W.bH h q (λcX h=>?_) (λcX h=>?_)
  ·refine W.bp [0] (ah (O.aA (.obj q))<|ah (O.aA (.obj q))<|ah (O.aA (.obj q))<|br q<|br q<|ah (O.eX (.ptr q))<|ah (O.bk q (.ptr q) yC q)<|ar.dI (G2:=[(0,_),(12,.ptr ⟨0,[]⟩ 0),(13,.ptr ⟨0,[]⟩ 0),(14,_),(15,_)]) (cs2:=[ak bo a0.aq.a',ak a8 a0.aq.bw,ak bE a0.aq.aY,af a0.aq.bz,af a0.aq.bA,ak bF a0.b0,ak a8 a0.bW,ak cr a0.bD,j 3,j a0.cb,af a0.b',j a0.bU,j a0.bB]) q (.ptr q) (.k q) q nk q q q q (.b q (.p q q q q q q (.p q q q q q q (.n q q (.n q q .nil)))))<|ah (O.eX (.ptr q))<|ah (O.bk q (.ptr q) yD q)<|ar.dI (G2:=[(0,_),(13,.ptr ⟨0,[]⟩ 0),(15,_)]) (cs2:=[ak bo a0.aq.a',ak a8 a0.aq.bw,ak bE a0.aq.aY,af a0.aq.bz,af a0.aq.bA,ak bF a0.b0,ak a8 a0.bW,ak cr a0.bD,j 3,j av,af a0.b',j a0.bU,j a0.bB]) q (.ptr q) (.lit q) q nk q q q q (.b q (.p q q q q q q (.n q q .nil)))<|ah (O.eX (.ptr q))<|ah (O.bk q (.ptr q) yE q)<|ar.dI (G2:=[(0,_)]) (cs2:=[ak bo a0.aq.a',ak a8 a0.aq.bw,ak bE a0.aq.aY,af a0.aq.bz,af a0.aq.bA,ak bF a0.b0,ak a8 a0.bW,ak cr a0.bD,j 3,j av,af a2,j a0.bU,j a0.bB]) q (.ptr q) (.lit q) q vW q q q q (.b q .nil)<|bR q) ?_
   obtain rfl:=ax h
   exact ai.bC (.n q .nil)
  ·refine W.bO ?_
   obtain rfl:=ax h
   exact ai.bC (.n q .nil)
 obtain rfl:=ax h
 exact ai.fin (Fin.ro .nil q (oi (by kernel_rfl)) (.az q q (.no (.no .nil))) q (.inl q))
theorem I4 (a0:cN) (av:ByteArray) (r:Int) (h:xM a0 av=some r):b_ Try.prog 98 [.bn ([aj bo a0.aq.a',aj a8 a0.aq.bw,aj bE a0.aq.aY,af a0.aq.bz,af a0.aq.bA,aj bF a0.b0,aj a8 a0.bW,aj cr a0.bD,j a0.ca,j a0.cb,af a0.b',j a0.bU,j a0.bB]),af av] [none,none] (j r):=by
 unfold xM at h
 refine b_.go (N:=⟨26,[]⟩) Try.func98 q q q q (W.fin ?_)
 refine W.st [(0,.bn ([aj bo a0.aq.a',aj a8 a0.aq.bw,aj bE a0.aq.aY,af a0.aq.bz,af a0.aq.bA,aj bF a0.b0,aj a8 a0.bW,aj cr a0.bD,j a0.ca,j a0.cb,af a0.b',j a0.bU,j a0.bB])),(1,af av)] ?_
 refine W.aZ [0,1] ?_
 refine W.bb<|W.aZ [0,1,5] ?_
 refine W.bq ?_
 obtain ⟨x2,ao,h⟩:=aB h
 refine W.cj (G1:=[(0,_),(1,_),(5,_)]) (dB q q q) ?_
 refine W.jM (s:=0) (λ(s1:Int)=>[(0,.bn ([aj bo a0.aq.a',aj a8 a0.aq.bw,aj bE a0.aq.aY,af a0.aq.bz,af a0.aq.bA,aj bF a0.b0,aj a8 a0.bW,aj cr a0.bD,j a0.ca,j a0.cb,af a0.b',j a0.bU,j a0.bB])),(1,af av),(5,j s1)]) 0 (λ(aX:Unit)=>[]) (λ(bN:Int)=>[(4,j bN)]) ao (λs1 o h=>?_) (λaX J=>?_) (λbN J=>?_)
 ·clear ao
  refine W.bb<|W.aZ [0,1,5,12] ?_
  refine W.bH h q (λdK h=>?_) (λdK h=>?_)
  ·refine W.bO<|ai.a_ ?_
   refine W.bb<|W.bq ?_
   obtain ⟨bu,fH,h⟩:=aB h
   refine W.aZ [0,1,5,24] ?_
   refine W.bH h q (λcU h=>?_) (λcU h=>?_)
   ·refine W.aZ [4] ?_
    refine W.rt ?_
    refine ai.ee ?_
    refine ai.c_ ?_
    obtain rfl:=ax h
    exact ai.gm (.n q .nil)
   ·refine W.bO<|ai.bq ?_
    refine ai.a_<|W.bp [0,1,5] (br q<|ah (O.add (.lit q) (.k q))<|ar.bp [0,1,14] q<|ar.aW) ?_
    obtain rfl:=ax h
    exact ai.go (dB q q q)
  ·refine W.dd ?_
   refine ai.dc ?_
   obtain rfl:=ax h
   exact ai.x2 .nil
 ·subst J
  refine ai.de ?_
  refine ai.a_<|W.aZ [4] ?_
  refine W.rt ?_
  obtain rfl:=ax h
  exact cA (.f q q .nil)
 ·subst J
  refine ai.ee ?_
  refine ai.c_ ?_
  obtain rfl:=ax h
  exact cA (.f q q .nil)
theorem Ed (a0:cN) (av:Sym) (r:Int) (h:vJ a0 av=some r):b_ Try.prog 95 [.bn ([aj bo a0.aq.a',aj a8 a0.aq.bw,aj bE a0.aq.aY,af a0.aq.bz,af a0.aq.bA,aj bF a0.b0,aj a8 a0.bW,aj cr a0.bD,j a0.ca,j a0.cb,af a0.b',j a0.bU,j a0.bB]),.agg (dq.cells av)] [none,none] (j r):=by
 unfold vJ at h
 refine b_.go (N:=⟨47,[]⟩) Try.func95 q q q q (W.fin ?_)
 refine W.st [(0,.bn ([aj bo a0.aq.a',aj a8 a0.aq.bw,aj bE a0.aq.aY,af a0.aq.bz,af a0.aq.bA,aj bF a0.b0,aj a8 a0.bW,aj cr a0.bD,j a0.ca,j a0.cb,af a0.b',j a0.bU,j a0.bB])),(1,.agg (dq.cells av))] ?_
 refine W.bM [0,3] (ah (O.box (.cg q q) q)<|ar.aW) ?_
 refine W.bb<|W.aZ [0,3,5] ?_
 refine W.bq ?_
 obtain ⟨x2,ao,h⟩:=aB h
 refine W.cj (G1:=[(0,_),(3,_),(5,_)]) (dB q q q) ?_
 refine W.jM (s:=1) (λ(s1:Int)=>[(0,.bn ([aj bo a0.aq.a',aj a8 a0.aq.bw,aj bE a0.aq.aY,af a0.aq.bz,af a0.aq.bA,aj bF a0.b0,aj a8 a0.bW,aj cr a0.bD,j a0.ca,j a0.cb,af a0.b',j a0.bU,j a0.bB])),(3,.obj (dq.cells av)),(5,j s1)]) 0 (λ(aX:Unit)=>[]) (λ(bN:Int)=>[(4,j bN)]) ao (λs1 o h=>?_) (λaX J=>?_) (λbN J=>?_)
 ·clear ao
  refine W.bb<|W.aZ [0,3,5,13] ?_
  refine W.bH h q (λdK h=>?_) (λdK h=>?_)
  ·refine W.bO<|ai.a_ ?_
   refine W.bb<|W.bq ?_
   refine W.bb ?_
   obtain ⟨je,aa,h⟩:=aB h
   refine W.rd [[],[0],[0,1],[0,1,2],[0,1,2,3],[],aO 0 6 [],aO 0 7 [],aO 0 8 [],[],[9],aO 0 11 [],aO 0 12 [],aO 0 13 [],aO 0 14 [],aO 0 15 [],aO 0 16 [],aO 0 17 [],aO 0 13 [],aO 0 19 [],aO 0 20 [],aO 0 21 [],aO 0 13 [],aO 0 13 [22],aO 0 24 [],aO 0 25 [],aO 0 26 [],aO 0 27 [],aO 0 28 [],aO 0 29 []] [(0,.bn ([aj bo a0.aq.a',aj a8 a0.aq.bw,aj bE a0.aq.aY,af a0.aq.bz,af a0.aq.bA,aj bF a0.b0,aj a8 a0.bW,aj cr a0.bD,j a0.ca,j a0.cb,af a0.b',j a0.bU,j a0.bB])),(3,.obj (dq.cells av)),(5,j s1),(45,ba je)] e1 (by kernel_rfl) ?_ ?_
   ·refine au 0 (O.aA (.bn q))<|au 1 (O.zM (.bn q))<|au 2 (O.eP (.bn q) j_)<|au 3 (O.eP (.bn q) pz)<|au 4 (O.c8 (x:=aj bo a0.aq.a') (.bn q) q2 q)<|au 5 (O.aA (.lit q)) ?_
    obtain ⟨bu,fH,aa⟩:=aB aa
    refine au 6 (O.cE (.aD q) (.lit q) qD fH)<|au 7 (O.eP (.bn q) Jv)<|au 8 (O.c8 (x:=af bu.Name) (.bn q) eZ q)<|au 9 (O.bk q (.obj q) km q)<|au 10 (O.cB q (.ptr q) eZ q)<|au 11 (O.n0 (.lit q) (.lit q))<|au 12 (O.aA (.lit q)) ?_
    rcases cI aa with ⟨cU,aa⟩ | ⟨cU,aa⟩
    ·refine bx 13 cU (O.aA (.bn q))<|bx 14 cU (O.zM (.bn q))<|bx 15 cU (O.eP (.bn q) j_)<|bx 16 cU (O.eP (.bn q) pz)<|bx 17 cU (O.c8 (x:=aj bo a0.aq.a') (.bn q) q2 q)<|bx 18 cU (O.aA (.lit q)) ?_
     obtain ⟨bT,im,aa⟩:=aB aa
     refine bx 19 cU (O.cE (.aD q) (.lit q) qD im)<|bx 20 cU (O.eP (.bn q) Jw)<|bx 21 cU (O.c8 (x:=ba bT.Lit) (.bn q) nu q)<|bx 22 cU (O.bk q (.obj q) uT q)<|bx 23 cU (O.cB q (.ptr q) nu q)<|bx 24 cU (O.Pv (.lit q) (.lit q) NN)<|au 25 (O.eu (.lit q) cU (.lit q))<|au 26 (O.aA (.lit q)) ?_
     rcases cI aa with ⟨ey,aa⟩ | ⟨ey,aa⟩
     ·obtain rfl:=ax aa
      exact bx 27 ey (O.aA (.lit q))<|bx 28 ey (O.neq (.lit q) (.k q))<|au 29 (O.eu (.lit q) ey (.lit q))<|bV.fin q q q (dA q q q q)
     ·obtain rfl:=ax aa
      exact aH 27 ey<|aH 28 ey<|au 29 (O.cC (.lit q) ey (.k q))<|bV.fin q q q (dA q q q q)
    ·obtain rfl:=ax aa
     exact aH 13 cU<|aH 14 cU<|aH 15 cU<|aH 16 cU<|aH 17 cU<|aH 18 cU<|aH 19 cU<|aH 20 cU<|aH 21 cU<|aH 22 cU<|aH 23 cU<|aH 24 cU<|au 25 (O.cC (.lit q) cU (.k q))<|au 26 (O.aA (.lit q))<|aH 27 q<|aH 28 q<|au 29 (O.cC (.lit q) q (.k q))<|bV.fin q q q (dA q q q q)
   refine ai.a_<|W.bH h q (λft h=>?_) (λft h=>?_)
   ·refine W.aZ [4] ?_
    refine W.rt ?_
    refine ai.ee ?_
    refine ai.c_ ?_
    obtain rfl:=ax h
    exact ai.gm (.n q .nil)
   ·refine W.bO<|ai.bq ?_
    refine ai.a_<|W.bp [0,3,5] (br q<|ah (O.add (.lit q) (.k q))<|ar.bp [0,3,15] q<|ar.aW) ?_
    obtain rfl:=ax h
    exact ai.go (dB q q q)
  ·refine W.dd ?_
   refine ai.dc ?_
   obtain rfl:=ax h
   exact ai.x2 .nil
 ·subst J
  refine ai.de ?_
  refine ai.a_<|W.aZ [4] ?_
  refine W.rt ?_
  obtain rfl:=ax h
  exact cA (.f q q .nil)
 ·subst J
  refine ai.ee ?_
  refine ai.c_ ?_
  obtain rfl:=ax h
  exact cA (.f q q .nil)
theorem IU (a0:cN) (av:Int) (r:Int) (h:xC a0 av=some r):b_ Try.prog 114 [.bn ([aj bo a0.aq.a',aj a8 a0.aq.bw,aj bE a0.aq.aY,af a0.aq.bz,af a0.aq.bA,aj bF a0.b0,aj a8 a0.bW,aj cr a0.bD,j a0.ca,j a0.cb,af a0.b',j a0.bU,j a0.bB]),j av] [none,none] (j r):=by
 unfold xC at h
 refine b_.go (N:=⟨28,[]⟩) Try.func114 q q q q (W.fin ?_)
 refine W.st [(0,.bn ([aj bo a0.aq.a',aj a8 a0.aq.bw,aj bE a0.aq.aY,af a0.aq.bz,af a0.aq.bA,aj bF a0.b0,aj a8 a0.bW,aj cr a0.bD,j a0.ca,j a0.cb,af a0.b',j a0.bU,j a0.bB])),(1,j av)] ?_
 refine W.aZ [0,1] ?_
 refine W.bb<|W.aZ [0,1,5] ?_
 refine W.bq ?_
 obtain ⟨x2,ao,h⟩:=aB h
 refine W.cj (G1:=[(0,_),(1,_),(5,_)]) (dB q q q) ?_
 refine W.jM (s:=3) (λ(s1:Int)=>[(0,.bn ([aj bo a0.aq.a',aj a8 a0.aq.bw,aj bE a0.aq.aY,af a0.aq.bz,af a0.aq.bA,aj bF a0.b0,aj a8 a0.bW,aj cr a0.bD,j a0.ca,j a0.cb,af a0.b',j a0.bU,j a0.bB])),(1,j av),(5,j s1)]) 0 (λ(aX:Unit)=>[]) (λ(bN:Int)=>[(4,j bN)]) ao (λs1 o h=>?_) (λaX J=>?_) (λbN J=>?_)
 ·clear ao
  refine W.bb<|W.aZ [0,1,5,13] ?_
  refine W.bH h q (λdK h=>?_) (λdK h=>?_)
  ·refine W.bO<|ai.a_ ?_
   refine W.bb<|W.bq ?_
   obtain ⟨bu,fH,h⟩:=aB h
   refine W.aZ [0,1,5,26] ?_
   refine W.bH h q (λcU h=>?_) (λcU h=>?_)
   ·refine W.aZ [4] ?_
    refine W.rt ?_
    refine ai.ee ?_
    refine ai.c_ ?_
    obtain rfl:=ax h
    exact ai.gm (.n q .nil)
   ·refine W.bO<|ai.bq ?_
    refine ai.a_<|W.bp [0,1,5] (br q<|ah (O.add (.lit q) (.k q))<|ar.bp [0,1,15] q<|ar.aW) ?_
    obtain rfl:=ax h
    exact ai.go (dB q q q)
  ·refine W.dd ?_
   refine ai.dc ?_
   obtain rfl:=ax h
   exact ai.x2 .nil
 ·subst J
  refine ai.de ?_
  refine ai.a_<|W.aZ [4] ?_
  refine W.rt ?_
  obtain rfl:=ax h
  exact cA (.f q q .nil)
 ·subst J
  refine ai.ee ?_
  refine ai.c_ ?_
  obtain rfl:=ax h
  exact cA (.f q q .nil)
theorem IT (a0:cN) (av:Sym) (r:Int × cN) (h:xB a0 av=some r):b_ Try.prog 113 [.obj (dV.cells a0),.agg (dq.cells av)] [some (.obj [ak bo r.2.aq.a',ak a8 r.2.aq.bw,ak bE r.2.aq.aY,af r.2.aq.bz,af r.2.aq.bA,ak bF r.2.b0,ak a8 r.2.bW,ak cr r.2.bD,j r.2.ca,j r.2.cb,af r.2.b',j r.2.bU,j r.2.bB]),none] (j r.1):=by
 unfold xB at h
 refine b_.go (N:=⟨66,[0]⟩) Try.func113 q q q q (W.fin ?_)
 refine W.st [(0,.obj (dV.cells a0)),(1,.agg (dq.cells av))] ?_
 refine W.bM [0,3] (ah (O.box (.cg q q) q)<|ar.aW) ?_
 obtain ⟨aE,fp,h⟩:=aB h
 refine W.bM [0,3,5] (ah (O.aA (.obj q))<|ah (O.dT (cs':=[af av.Name,ba av.Lit,j av.c0,j av.At]) q (.obj q) k1 q q)<|dL (cu.vw (ys:=[.ptr ⟨0,[]⟩ 0,.agg (dq.cells av)]) q (.c (View.om q q) (.c (.rM (.s (.s (.s (.s .nil))))) .nil)) (Ed a0 av _ fp) call95 q)<|ar.aW) ?_
 refine W.bb<|W.aZ [0,3,5,11] ?_
 refine W.bH h q (λcX h=>?_) (λcX h=>?_)
 ·refine W.aZ [0,4] ?_
  refine W.rt ?_
  refine ai.c_ ?_
  obtain rfl:=ax h
  exact ai.fin (Fin.ro (.f q q .nil) q (oi (by kernel_rfl)) (.az q q (.no .nil)) q (.inr q))
 ·refine W.bO<|ai.a_ ?_
  refine W.bM [0,3,6] (ah (O.bk q (.obj q) km q)<|ah (O.cB q (.ptr q) eZ q)<|ah (O.bk q (.obj q) uT q)<|ah (O.cB q (.ptr q) nu q)<|ah (O.eS (cs:=[af av.Name,ba av.Lit,j 0,j 0,j 0,af aC]) C_ A2 q q q)<|ah (O.fD (cs:=[af aC,ba false,j 0,j 0,j 0,af aC]) A2 q q)<|ar.dI (G2:=[(0,_),(3,_),(6,_)]) (cs2:=[af av.Name,ba av.Lit,j 0,j 0,j 0,af aC]) q (.obj q) (.cg q q) q Ui q q q q (.n q q (.n q q (.b q .nil)))<|bR q) ?_
  refine W.bb<|W.aZ [0,3,6,19] ?_
  obtain ⟨dm,aa,h⟩:=aB h
  refine W.bC [(0,.obj (dV.cells dm.1)),(3,.obj (dq.cells av)),(6,.obj [af av.Name,ba av.Lit,j dm.2,j 0,j 0,af aC])] ?_ ?_
  ·clear h; have h:=aa; clear aa
   refine W.bH h q (λdf h=>?_) (λdf h=>?_)
   ·obtain ⟨ck,kQ,h⟩:=aB h
    refine W.bM [0,3,6] (ah (O.bk q (.obj q) km q)<|ah (O.cB q (.ptr q) eZ q)<|ah (O.p4 (.lit q) (.k q) j2 kQ)<|ah (O.s9 (.lit q) CA vi)<|ah (O.bk q (.obj q) yJ q)<|ar.dI (G2:=[(0,_),(3,_),(6,_)]) (cs2:=[af av.Name,ba av.Lit,j (aM ck),j 0,j 0,af aC]) q (.ptr q) (.lit q) q nk q q q q (.n q q (.n q q (.b q .nil)))<|bR q) ?_
    obtain ⟨bu,fH,h⟩:=aB h
    refine W.bM [0,3,6,29] (ah (O.aA (.obj q))<|ah (O.bk q (.obj q) yJ q)<|ah (O.cB q (.ptr q) cz q)<|dL (cu.vw (ys:=[.ptr ⟨0,[]⟩ 0,j (aM ck)]) q (.c (View.om q q) (.s .nil)) (IU a0 (aM ck) _ fH) call114 q)<|ar.aW) ?_
    obtain ⟨lQ,aa,h⟩:=aB h
    refine W.bC [(0,.obj (dV.cells lQ)),(3,.obj (dq.cells av)),(6,.obj [af av.Name,ba av.Lit,j (aM ck),j 0,j 0,af aC])] ?_ ?_
    ·clear h; have h:=aa; clear aa
     refine W.bH h q (λcR h=>?_) (λcR h=>?_)
     ·obtain ⟨ct,iV,h⟩:=aB h
      refine W.bp [0,3,6] (ah (O.aA (.obj q))<|ah (O.bk q (.obj q) q7 q)<|ah (O.cB q (.ptr q) cz q)<|ah (O.bk q (.obj q) km q)<|ah (O.cB q (.ptr q) eZ q)<|ar.hs q (cm.call q q (hQ.nf (G2:=[(3,.obj (dq.cells av)),(6,.obj [af av.Name,ba av.Lit,j (aM ck),j 0,j 0,af aC])]) (A:=[]) (ys:=[.ptr ⟨0,[]⟩ 0,j av.At,af av.Name]) (args:=[.obj (dV.cells a0),j av.At,af av.Name]) (cs':=[ak bo ct.aq.a',ak a8 ct.aq.bw,ak bE ct.aq.aY,af ct.aq.bz,af ct.aq.bA,ak bF ct.b0,ak a8 ct.bW,ak cr ct.bD,j ct.ca,j ct.cb,af ct.b',j ct.bU,j ct.bB]) (k0:=0) q q q q (.b q (.n q (.n q .nil))) q (uF a0 av.At av.Name _ iV) call94 (fe q q) q q (fe q q) .nil q))<|bR q) ?_
      obtain rfl:=ax h
      exact ai.bC (dB q q q)
     ·refine W.bO ?_
      obtain rfl:=ax h
      exact ai.bC (dB q q q)
    obtain rfl:=ax h
    exact ai.bC (dB q q q)
   ·refine W.bO ?_
    obtain rfl:=ax h
    exact ai.bC (dB q q q)
  refine ai.a_<|W.bb ?_
  obtain ⟨bQ,jk,h⟩:=aB h
  refine W.rd [[],[],[1],[1,2],[1,2,3],[1,2,3,4],[],[6],aO 1 7 [],aO 0 9 [],aO 0 10 [],aO 0 11 [],aO 0 12 []] [(0,_),(3,_)] e1 (by kernel_rfl) (au 0 (O.aA (.obj q))<|au 1 (O.aA (.obj q))<|au 2 (O.eX (.ptr q))<|au 3 (O.bk q (.ptr q) j_ q)<|au 4 (O.bk q (.ptr q) pz q)<|au 5 (O.c9 (y:=.bm bo.z ⟨0,[0]⟩ dm.1.aq.a'.length) q (.ptr q) q2 q q)<|au 6 (O.dT (cs':=[af av.Name,ba av.Lit,j dm.2,j 0,j 0,af aC]) q (.obj q) Ny q q)<|bV.gq 7 (x:=aj bo [(⟨av.Name,av.Lit,dm.2,0,0,aC⟩:bJ)]) (O.dF (ys:=[.agg [af av.Name,ba av.Lit,j dm.2,j 0,j 0,af aC]]) bo [(⟨av.Name,av.Lit,dm.2,0,0,aC⟩:bJ)] qD q q q q q q ML q q) q q q q .none<|au 8 (O.ap (en:=bo) (r:=bQ) (.bm q) q (.aD q) .i Nd q jk)<|au 9 (O.eX (.ptr q))<|au 10 (O.bk q (.ptr q) j_ q)<|au 11 (O.bk q (.ptr q) pz q)<|bV.jI 12 (G2:=[(0,.obj [ak bo (dm.1.aq.a'++[(⟨av.Name,av.Lit,dm.2,0,0,aC⟩:bJ)]),ak a8 dm.1.aq.bw,ak bE dm.1.aq.aY,af dm.1.aq.bz,af dm.1.aq.bA,ak bF dm.1.b0,ak a8 dm.1.bW,ak cr dm.1.bD,j dm.1.ca,j dm.1.cb,af dm.1.b',j dm.1.bU,j dm.1.bB]),(3,.obj (dq.cells av))]) (cm.lW (g1:=_) (en:=bo) (M:=[(⟨av.Name,av.Lit,dm.2,0,0,aC⟩:bJ)]) (cs2:=[ak bo (dm.1.aq.a'++[(⟨av.Name,av.Lit,dm.2,0,0,aC⟩:bJ)]),ak a8 dm.1.aq.bw,ak bE dm.1.aq.aY,af dm.1.aq.bz,af dm.1.aq.bA,ak bF dm.1.b0,ak a8 dm.1.bW,ak cr dm.1.bD,j dm.1.ca,j dm.1.cb,af dm.1.b',j dm.1.bU,j dm.1.bB]) q q (.ptr q) (.b2 q) q q q .lb .gZ q q Mn q q q q (.b q (.n q q .nil))) q q q q (by kernel_rfl) (by kernel_rfl)<|bV.fin q q q (fe q q)) ?_
  refine ai.a_<|W.bb ?_
  obtain ⟨cp,il,h⟩:=aB h
  refine W.rd [[],[],[1],[1,2],[1,2,3],[],[5],[5,6],aO 1 7 [],aO 0 9 [],aO 0 10 [],aO 0 11 []] [(0,_)] e1 (by kernel_rfl) (au 0 (O.aA (.obj q))<|au 1 (O.aA (.obj q))<|au 2 (O.eX (.ptr q))<|au 3 (O.bk q (.ptr q) wV q)<|au 4 (O.c9 (y:=.bm bF.z ⟨0,[5]⟩ dm.1.b0.length) q (.ptr q) yq q q)<|au 5 (O.bk q (.obj q) uT q)<|au 6 (O.cB q (.ptr q) nu q)<|bV.gq 7 (x:=aj bF [av.Lit]) (O.dF (ys:=[ba av.Lit]) bF [av.Lit] oo q q q q q q UQ q q) q q q q .none<|au 8 (O.ap (en:=bF) (r:=cp) (.bm q) q (.aD q) .i M_ q il)<|au 9 (O.eX (.ptr q))<|au 10 (O.bk q (.ptr q) wV q)<|bV.jI 11 (G2:=[(0,.obj [ak bo (dm.1.aq.a'++[(⟨av.Name,av.Lit,dm.2,0,0,aC⟩:bJ)]),ak a8 dm.1.aq.bw,ak bE dm.1.aq.aY,af dm.1.aq.bz,af dm.1.aq.bA,ak bF (dm.1.b0++[av.Lit]),ak a8 dm.1.bW,ak cr dm.1.bD,j dm.1.ca,j dm.1.cb,af dm.1.b',j dm.1.bU,j dm.1.bB])]) (cm.lW (g1:=_) (en:=bF) (M:=[av.Lit]) (cs2:=[ak bo (dm.1.aq.a'++[(⟨av.Name,av.Lit,dm.2,0,0,aC⟩:bJ)]),ak a8 dm.1.aq.bw,ak bE dm.1.aq.aY,af dm.1.aq.bz,af dm.1.aq.bA,ak bF (dm.1.b0++[av.Lit]),ak a8 dm.1.bW,ak cr dm.1.bD,j dm.1.ca,j dm.1.cb,af dm.1.b',j dm.1.bU,j dm.1.bB]) q q (.ptr q) (.b2 q) q q q .lb .gZ q q Ua q q q q (.b q .nil)) q q q q (by kernel_rfl) (by kernel_rfl)<|bV.fin q q q (.n q .nil)) ?_
  refine ai.a_<|W.aZ [0,4] ?_
  refine W.rt ?_
  obtain rfl:=ax h
  exact ai.fin (Fin.ro (.f q q .nil) q (oi (by kernel_rfl)) (.az q q (.no .nil)) q (.inr q))
theorem Ef (v:Value) (a0:cN) (av:Int) (a2:ByteArray) (r:cN) (h:nh a0 av a2=some r):b_ Try.prog 94 [.obj [.lit v,ak a8 a0.aq.bw,ak bE a0.aq.aY,af a0.aq.bz,af a0.aq.bA,ak bF a0.b0,ak a8 a0.bW,ak cr a0.bD,j a0.ca,j a0.cb,af a0.b',j a0.bU,j a0.bB],j av,af a2] [some (.obj [.lit v,ak a8 r.aq.bw,ak bE r.aq.aY,af r.aq.bz,af r.aq.bA,ak bF r.b0,ak a8 r.bW,ak cr r.bD,j r.ca,j r.cb,af r.b',j r.bU,j r.bB]),none,none] (.cw []):=by
 unfold nh at h
 refine b_.go (N:=⟨22,[0]⟩) Try.func94 q q q q (W.fin ?_)
 refine W.st [(0,.obj [.lit v,ak a8 a0.aq.bw,ak bE a0.aq.aY,af a0.aq.bz,af a0.aq.bA,ak bF a0.b0,ak a8 a0.bW,ak cr a0.bD,j a0.ca,j a0.cb,af a0.b',j a0.bU,j a0.bB]),(1,j av),(2,af a2)] ?_
 refine W.aZ [0,1,2,10] ?_
 obtain ⟨h0,aa,h⟩:=aB h
 refine W.bC [(0,.obj [.lit v,ak a8 h0.aq.bw,ak bE h0.aq.aY,af h0.aq.bz,af h0.aq.bA,ak bF h0.b0,ak a8 h0.bW,ak cr h0.bD,j h0.ca,j h0.cb,af h0.b',j h0.bU,j h0.bB])] ?_ ?_
 ·clear h; have h:=aa; clear aa
  refine W.bH h q (λcX h=>?_) (λcX h=>?_)
  ·refine W.bp [0] (ah (O.aA (.obj q))<|ah (O.aA (.obj q))<|ah (O.aA (.obj q))<|br q<|br q<|ah (O.eX (.ptr q))<|ah (O.bk q (.ptr q) yC q)<|ar.dI (G2:=[(0,_),(12,.ptr ⟨0,[]⟩ 0),(13,.ptr ⟨0,[]⟩ 0),(14,_),(15,_)]) (cs2:=[.lit v,ak a8 a0.aq.bw,ak bE a0.aq.aY,af a0.aq.bz,af a0.aq.bA,ak bF a0.b0,ak a8 a0.bW,ak cr a0.bD,j 3,j a0.cb,af a0.b',j a0.bU,j a0.bB]) q (.ptr q) (.k q) q nk q q q q (.b q (.p q q q q q q (.p q q q q q q (.n q q (.n q q .nil)))))<|ah (O.eX (.ptr q))<|ah (O.bk q (.ptr q) yD q)<|ar.dI (G2:=[(0,_),(13,.ptr ⟨0,[]⟩ 0),(15,_)]) (cs2:=[.lit v,ak a8 a0.aq.bw,ak bE a0.aq.aY,af a0.aq.bz,af a0.aq.bA,ak bF a0.b0,ak a8 a0.bW,ak cr a0.bD,j 3,j av,af a0.b',j a0.bU,j a0.bB]) q (.ptr q) (.lit q) q nk q q q q (.b q (.p q q q q q q (.n q q .nil)))<|ah (O.eX (.ptr q))<|ah (O.bk q (.ptr q) yE q)<|ar.dI (G2:=[(0,_)]) (cs2:=[.lit v,ak a8 a0.aq.bw,ak bE a0.aq.aY,af a0.aq.bz,af a0.aq.bA,ak bF a0.b0,ak a8 a0.bW,ak cr a0.bD,j 3,j av,af a2,j a0.bU,j a0.bB]) q (.ptr q) (.lit q) q vW q q q q (.b q .nil)<|bR q) ?_
   obtain rfl:=ax h
   exact ai.bC (.n q .nil)
  ·refine W.bO ?_
   obtain rfl:=ax h
   exact ai.bC (.n q .nil)
 obtain rfl:=ax h
 exact ai.fin (Fin.ro .nil q (oi (by kernel_rfl)) (.az q q (.no (.no .nil))) q (.inl q))
theorem O3 (a0:cN) (av:Decl) (a2:Sym) (r:cN) (h:AA a0 av a2=some r):b_ Try.prog 93 [.obj (dV.cells a0),.agg (cM.cells av),.agg (dq.cells a2)] [some (.obj [ak bo r.aq.a',ak a8 r.aq.bw,ak bE r.aq.aY,af r.aq.bz,af r.aq.bA,ak bF r.b0,ak a8 r.bW,ak cr r.bD,j r.ca,j r.cb,af r.b',j r.bU,j r.bB]),none,none] (.cw []):=by
 unfold AA at h
 refine b_.go (N:=⟨152,[0]⟩) Try.func93 q q q q (W.fin ?_)
 refine W.st [(0,.obj (dV.cells a0)),(1,.agg (cM.cells av)),(2,.agg (dq.cells a2))] ?_
 refine W.bM [0,4,5] (ah (O.box (.cg q q) q)<|ah (O.box (.cg q q) q)<|bR q) ?_
 refine W.bb<|W.aZ [0,4,5,11] ?_
 refine W.bH h q (λds h=>?_) (λds h=>?_)
 ·obtain ⟨x2,ho,h⟩:=aB h
  refine W.bM [0,4,5,6] (ah (O.aA (.obj q))<|ah (O.bk q (.obj q) km q)<|ah (O.cB q (.ptr q) eZ q)<|dL (cu.vw (ys:=[.ptr ⟨0,[]⟩ 0,af a2.Name]) q (.c (View.om q q) (.s .nil)) (I4 a0 a2.Name _ ho) call98 q)<|ar.aW) ?_
  refine W.bb<|W.aZ [0,4,5,6,17] ?_
  obtain ⟨dm,aa,h⟩:=aB h
  refine W.bC [(0,.obj (dV.cells dm))] ?_ ?_
  ·clear h; have h:=aa; clear aa
   refine W.bH h q (λdf h=>?_) (λdf h=>?_)
   ·obtain ⟨ck,kQ,h⟩:=aB h
    refine W.rd [[],[],[1],[1,2],[1,2,3],[],[5],[],[7],[5,6,7,8],aO 5 5 [],aO 1 10 [],aO 0 12 [],aO 0 13 [],aO 0 14 []] [(0,_)] e1 (by kernel_rfl) (au 0 (O.aA (.obj q))<|au 1 (O.aA (.obj q))<|au 2 (O.eX (.ptr q))<|au 3 (O.bk q (.ptr q) yB q)<|au 4 (O.c9 (y:=.bm a8.z ⟨0,[6]⟩ a0.bW.length) q (.ptr q) rW q q)<|au 5 (O.bk q (.obj q) km q)<|au 6 (O.cB q (.ptr q) eZ q)<|au 7 (O.bk q (.obj q) nx q)<|au 8 (O.cB q (.ptr q) eZ q)<|au 9 (O.eS (cs:=[af a2.Name,af av.Tag]) C9 A1 q q q)<|bV.gq 10 (x:=aj a8 [(⟨a2.Name,av.Tag⟩:eW)]) (O.dF (ys:=[.agg [af a2.Name,af av.Tag]]) a8 [(⟨a2.Name,av.Tag⟩:eW)] ry q q q q q q Du q q) q q q q .none<|au 11 (O.ap (en:=a8) (r:=ck) (.bm q) q (.aD q) .i DI q kQ)<|au 12 (O.eX (.ptr q))<|au 13 (O.bk q (.ptr q) yB q)<|bV.jI 14 (G2:=[(0,.obj [ak bo a0.aq.a',ak a8 a0.aq.bw,ak bE a0.aq.aY,af a0.aq.bz,af a0.aq.bA,ak bF a0.b0,ak a8 (a0.bW++[(⟨a2.Name,av.Tag⟩:eW)]),ak cr a0.bD,j a0.ca,j a0.cb,af a0.b',j a0.bU,j a0.bB])]) (cm.lW (g1:=_) (en:=a8) (M:=[(⟨a2.Name,av.Tag⟩:eW)]) (cs2:=[ak bo a0.aq.a',ak a8 a0.aq.bw,ak bE a0.aq.aY,af a0.aq.bz,af a0.aq.bA,ak bF a0.b0,ak a8 (a0.bW++[(⟨a2.Name,av.Tag⟩:eW)]),ak cr a0.bD,j a0.ca,j a0.cb,af a0.b',j a0.bU,j a0.bB]) q q (.ptr q) (.b2 q) q q q .lb .gZ q q Dg q q q q (.b q .nil)) q q q q (by kernel_rfl) (by kernel_rfl)<|bV.fin q q q (.n q .nil)) ?_
    obtain rfl:=ax h
    exact ai.bC (.n q .nil)
   ·refine W.bb ?_
    obtain ⟨bu,fH,h⟩:=aB h
    refine W.rd [[],[0],[0,1],[0,1,2],[],aO 0 5 [],aO 0 6 [],aO 0 7 [],[],[8],aO 0 10 []] [(0,_),(5,_),(42,_)] e1 (by kernel_rfl) (au 0 (O.aA (.obj q))<|au 1 (O.eX (.ptr q))<|au 2 (O.bk q (.ptr q) yB q)<|au 3 (O.c9 (y:=.bm a8.z ⟨0,[6]⟩ a0.bW.length) q (.ptr q) rW q q)<|au 4 (O.aA (.lit q))<|au 5 (O.gS (en:=a8) q (.bm q) (.lit q) ry fH q)<|au 6 (O.j9 (en:=a8) q (.ptr q) BS fH q q)<|au 7 (O.iZ (en:=a8) (x':=af bu.Tag) q (.ptr q) eZ fH q q)<|au 8 (O.bk q (.obj q) nx q)<|au 9 (O.cB q (.ptr q) eZ q)<|au 10 (O.lS (.lit q) (.lit q))<|bV.fin q q q (dB q q q)) ?_
    refine ai.a_ ?_
    obtain ⟨lQ,aa,h⟩:=aB h
    refine W.bC [(0,.obj (dV.cells lQ))] ?_ ?_
    ·clear h; have h:=aa; clear aa
     refine W.bH h q (λcR h=>?_) (λcR h=>?_)
     ·obtain ⟨ct,iV,h⟩:=aB h
      refine W.bp [0] (ah (O.aA (.obj q))<|ah (O.bk q (.obj q) q7 q)<|ah (O.cB q (.ptr q) cz q)<|ah (O.bk q (.obj q) km q)<|ah (O.cB q (.ptr q) eZ q)<|ar.hs q (cm.call q q (hQ.nf (G2:=[]) (A:=[]) (ys:=[.ptr ⟨0,[]⟩ 0,j a2.At,af a2.Name]) (args:=[.obj (dV.cells a0),j a2.At,af a2.Name]) (cs':=[ak bo ct.aq.a',ak a8 ct.aq.bw,ak bE ct.aq.aY,af ct.aq.bz,af ct.aq.bA,ak bF ct.b0,ak a8 ct.bW,ak cr ct.bD,j ct.ca,j ct.cb,af ct.b',j ct.bU,j ct.bB]) (k0:=0) q q q q (.b q (.n q (.n q .nil))) q (uF a0 a2.At a2.Name _ iV) call94 .nil q q .nil .nil q))<|bR q) ?_
      obtain rfl:=ax h
      exact ai.bC (.n q .nil)
     ·refine W.bO ?_
      obtain rfl:=ax h
      exact ai.bC (.n q .nil)
    obtain rfl:=ax h
    exact ai.bC (.n q .nil)
  refine ai.a_<|W.rt ?_
  refine ai.c_ ?_
  obtain rfl:=ax h
  exact ai.fin (Fin.ro .nil q (oi (by kernel_rfl)) (.az q q (.no (.no .nil))) q (.inr q))
 ·refine W.bO<|ai.a_ ?_
  obtain ⟨bQ,jk,h⟩:=aB h
  refine W.bM [0,4,5,7] (ah (O.aA (.obj q))<|ah (O.dT (cs':=[af a2.Name,ba a2.Lit,j a2.c0,j a2.At]) q (.obj q) k1 q q)<|ar.hs q (cm.call q q (hQ.nf (G2:=[(4,.obj (cM.cells av)),(5,.obj (dq.cells a2))]) (A:=[]) (ys:=[.ptr ⟨0,[]⟩ 0,.agg (dq.cells a2)]) (args:=[.obj (dV.cells a0),.agg (dq.cells a2)]) (cs':=[ak bo bQ.2.aq.a',ak a8 bQ.2.aq.bw,ak bE bQ.2.aq.aY,af bQ.2.aq.bz,af bQ.2.aq.bA,ak bF bQ.2.b0,ak a8 bQ.2.bW,ak cr bQ.2.bD,j bQ.2.ca,j bQ.2.cb,af bQ.2.b',j bQ.2.bU,j bQ.2.bB]) (k0:=0) q q q q (.b q (.n q .nil)) q (IT a0 a2 _ jk) call113 (fe q q) q q (fe q q) .nil q))<|ar.aW) ?_
  obtain ⟨cp,il,h⟩:=aB h
  refine W.rs [(0,_),(4,_),(5,_),(7,_),(8,.ptr ⟨0,[0]⟩ (bQ.1.toNat * bo.z+0))] (ah (O.aA (.obj q))<|ah (O.eX (.ptr q))<|ah (O.bk q (.ptr q) j_ q)<|ah (O.bk q (.ptr q) pz q)<|ah (O.c9 (y:=.bm bo.z ⟨0,[0]⟩ bQ.2.aq.a'.length) q (.ptr q) q2 q q)<|br q<|ah (O.gS (en:=bo) q (.bm q) (.lit q) qD il q)<|ah (O.dv (.ptr q))<|np (.n q (.n q (.n q (.n q (.r q (eY.el (en:=bo) q il q) jP .nil)))))) ?_
  refine W.bb<|W.rs [(0,_),(4,_),(5,_),(7,_),(8,.ptr ⟨0,[0]⟩ (bQ.1.toNat * bo.z+0)),(61,_)] (ah (O.bk q (.obj q) oN q)<|ah (O.cB q (.ptr q) cz q)<|ah (O.neq (.lit q) (.k q))<|np (.n q (.n q (.n q (.n q (.r q (eY.el (en:=bo) q il q) jP (.n q .nil))))))) ?_
  obtain ⟨fz,aa,h⟩:=aB h
  refine W.bC [(0,.obj (dV.cells fz)),(4,.obj (cM.cells av)),(5,.obj (dq.cells a2)),(7,j bQ.1),(8,.ptr ⟨0,[0]⟩ (bQ.1.toNat * bo.z+0))] ?_ ?_
  ·clear h; have h:=aa; clear aa
   refine W.bH h q (λjB h=>?_) (λjB h=>?_)
   ·refine W.bb<|W.rs [(0,_),(4,_),(5,_),(7,_),(8,.ptr ⟨0,[0]⟩ (bQ.1.toNat * bo.z+0)),(66,_)] (ah (O.aA (.ptr q))<|ah (O.eX (.ptr q))<|ah (O.j9 (en:=bo) q (.ptr q) BT il q q)<|ah (O.iZ (en:=bo) (x':=j cp.Level) q (.ptr q) cz il q q)<|ah (O.gtr (.lit q) (.k q))<|np (.n q (.n q (.n q (.n q (.r q (eY.el (en:=bo) q il q) jP (.n q .nil))))))) ?_
    obtain ⟨dk,aa,h⟩:=aB h
    refine W.bC [(0,.obj (dV.cells dk)),(4,.obj (cM.cells av)),(5,.obj (dq.cells a2)),(7,j bQ.1),(8,.ptr ⟨0,[0]⟩ (bQ.1.toNat * bo.z+0))] ?_ ?_
    ·clear h; have h:=aa; clear aa
     refine W.bH h q (λqe h=>?_) (λqe h=>?_)
     ·obtain ⟨cn,lq,h⟩:=aB h
      refine W.rx [(0,_),(4,_),(5,_),(7,_),(8,.ptr ⟨0,[0]⟩ (bQ.1.toNat * bo.z+0))] (ah (O.aA (.obj q))<|ah (O.bk q (.obj q) q7 q)<|ah (O.cB q (.ptr q) cz q)<|ah (O.bk q (.obj q) km q)<|ah (O.cB q (.ptr q) eZ q)<|ar.hs (G2:=[(8,.ptr ⟨0,[0]⟩ (bQ.1.toNat * bo.z+0))]++[(72,.cw []),(0,.obj [ak bo bQ.2.aq.a',ak a8 cn.aq.bw,ak bE cn.aq.aY,af cn.aq.bz,af cn.aq.bA,ak bF cn.b0,ak a8 cn.bW,ak cr cn.bD,j cn.ca,j cn.cb,af cn.b',j cn.bU,j cn.bB]),(4,.obj (cM.cells av)),(5,.obj (dq.cells a2)),(7,j bQ.1)]) q (cm.fy (r:=0) (k0:=0) (y:=ak bo bQ.2.aq.a') (cs5:=[ak bo bQ.2.aq.a',ak a8 cn.aq.bw,ak bE cn.aq.aY,af cn.aq.bz,af cn.aq.bA,ak bF cn.b0,ak a8 cn.bW,ak cr cn.bD,j cn.ca,j cn.cb,af cn.b',j cn.bU,j cn.bB]) (G1:=λv=>[(0,.obj [.lit v,ak a8 bQ.2.aq.bw,ak bE bQ.2.aq.aY,af bQ.2.aq.bz,af bQ.2.aq.bA,ak bF bQ.2.b0,ak a8 bQ.2.bW,ak cr bQ.2.bD,j bQ.2.ca,j bQ.2.cb,af bQ.2.b',j bQ.2.bU,j bQ.2.bB]),(4,.obj (cM.cells av)),(5,.obj (dq.cells a2)),(7,j bQ.1),(67,.ptr ⟨0,[]⟩ 0),(69,j a2.At),(71,af a2.Name)]) (G4:=λv=>[(72,.cw []),(0,.obj [.lit v,ak a8 cn.aq.bw,ak bE cn.aq.aY,af cn.aq.bz,af cn.aq.bA,ak bF cn.b0,ak a8 cn.bW,ak cr cn.bD,j cn.ca,j cn.cb,af cn.b',j cn.bU,j cn.bB]),(4,.obj (cM.cells av)),(5,.obj (dq.cells a2)),(7,j bQ.1)]) (c4:=λv=>[.lit v,ak a8 cn.aq.bw,ak bE cn.aq.aY,af cn.aq.bz,af cn.aq.bA,ak bF cn.b0,ak a8 cn.bW,ak cr cn.bD,j cn.ca,j cn.cb,af cn.b',j cn.bU,j cn.bB]) (G5:=[(72,.cw []),(0,.obj [ak bo bQ.2.aq.a',ak a8 cn.aq.bw,ak bE cn.aq.aY,af cn.aq.bz,af cn.aq.bA,ak bF cn.b0,ak a8 cn.bW,ak cr cn.bD,j cn.ca,j cn.cb,af cn.b',j cn.bU,j cn.bB]),(4,.obj (cM.cells av)),(5,.obj (dq.cells a2)),(7,j bQ.1)]) (A:=[(8,.ptr ⟨0,[0]⟩ (bQ.1.toNat * bo.z+0))]) q q q q (λv=>(.b q (.n q q (.n q q (.n q q (.p q q q q q q (.n q q (.n q q .nil)))))))) (λv=>hQ.nf (G2:=[(4,.obj (cM.cells av)),(5,.obj (dq.cells a2)),(7,j bQ.1)]) (A:=[]) (ys:=[.ptr ⟨0,[]⟩ 0,j a2.At,af a2.Name]) (args:=[.obj [.lit v,ak a8 bQ.2.aq.bw,ak bE bQ.2.aq.aY,af bQ.2.aq.bz,af bQ.2.aq.bA,ak bF bQ.2.b0,ak a8 bQ.2.bW,ak cr bQ.2.bD,j bQ.2.ca,j bQ.2.cb,af bQ.2.b',j bQ.2.bU,j bQ.2.bB],j a2.At,af a2.Name]) (cs':=[.lit v,ak a8 cn.aq.bw,ak bE cn.aq.aY,af cn.aq.bz,af cn.aq.bA,ak bF cn.b0,ak a8 cn.bW,ak cr cn.bD,j cn.ca,j cn.cb,af cn.b',j cn.bU,j cn.bB]) (k0:=0) q q q q (.b q (.n q (.n q .nil))) q (Ef v bQ.2 a2.At a2.Name _ lq) call94 (dB q q q) q q (dB q q q) .nil q) (λv=>q) (λv=>q) (λv=>q) (λv=>(.n q q (.b q (.n q q (.n q q (.n q q .nil)))))) q (.c (en:=bo) (L:=bQ.2.aq.a') q q il q q q .nil))<|np (.n q (.n q (.n q (.n q (.r q (eY.el (en:=bo) q il q) jP .nil)))))) ?_
      obtain rfl:=ax h
      exact ai.bC (.n q (.n q (.n q (.n q (.r q (eY.el (en:=bo) q il q) jP .nil)))))
     ·refine W.bO ?_
      obtain rfl:=ax h
      exact ai.bC (.n q (.n q (.n q (.n q (.r q (eY.el (en:=bo) q il q) jP .nil)))))
    obtain ⟨b4,h8,h⟩:=aB h
    refine ai.a_<|W.rd [[],[],[],[2],[2,3],[2,3,4],[],[6],[6,7],[0,2,3,4,5],[0,2,3,4,5,9],[0,2,3,4,5,9,10],aO 0 12 [],aO 0 13 [],aO 0 14 []] [(0,_),(4,_),(5,_),(7,_),(8,.ptr ⟨0,[0]⟩ (bQ.1.toNat * bo.z+0))] e1 (by kernel_rfl) (au 0 (O.aA (.ptr q))<|au 1 (O.aA (.ptr q))<|au 2 (O.aA (.obj q))<|au 3 (O.eX (.ptr q))<|au 4 (O.bk q (.ptr q) BR q)<|au 5 (O.cB q (.ptr q) cz q)<|au 6 (O.bk q (.obj q) oN q)<|au 7 (O.cB q (.ptr q) cz q)<|au 8 (O.sub (.lit q) (.k q))<|au 9 (O.eX (.ptr q))<|au 10 (O.j9 (en:=bo) q (.ptr q) BT h8 q q)<|bV.eS 11 (G2:=[(0,.obj [ak bo (dk.aq.a'.set bQ.1.toNat (⟨b4.Name,b4.Lit,b4.c0,dk.bU,b4.fi,b4.Tag⟩:bJ)),ak a8 dk.aq.bw,ak bE dk.aq.aY,af dk.aq.bz,af dk.aq.bA,ak bF dk.b0,ak a8 dk.bW,ak cr dk.bD,j dk.ca,j dk.cb,af dk.b',j dk.bU,j dk.bB]),(4,.obj (cM.cells av)),(5,.obj (dq.cells a2)),(7,j bQ.1),(8,.ptr ⟨0,[0]⟩ (bQ.1.toNat * bo.z+0))]) (U:=[(8,81,some (j (aM (av.Kind - 1)))),(7,80,some (j av.Kind)),(6,79,some (.ptr ⟨4,[]⟩ 0)),(1,74,some (.ptr ⟨0,[0]⟩ (bQ.1.toNat * bo.z+0)))]) (l1.v (cm.nZ (cm.pb (en:=bo) (y2:=(⟨b4.Name,b4.Lit,b4.c0,dk.bU,b4.fi,b4.Tag⟩:bJ)) (cs':=[j dk.bU]) (x2:=.obj [ak bo (dk.aq.a'.set bQ.1.toNat (⟨b4.Name,b4.Lit,b4.c0,dk.bU,b4.fi,b4.Tag⟩:bJ)),ak a8 dk.aq.bw,ak bE dk.aq.aY,af dk.aq.bz,af dk.aq.bA,ak bF dk.b0,ak a8 dk.bW,ak cr dk.bD,j dk.ca,j dk.cb,af dk.b',j dk.bU,j dk.bB]) q q (.ptr q) (.lit q) q h8 nk q q q q q q q (.b q (.n q q (.n q q (.n q q (.e q q (.mk (en:=bo) q h8 q (nb h8) q) q .nil)))))))) q q (by kernel_rfl) q q q (.c (.inr (.inl ⟨_,q⟩)) q q q q q (gv.wanted .none) (O.sub (.lit q) (.k q)) (.c (.inr (.inl ⟨_,q⟩)) q q q q q (gv.wanted .none) (O.cB q (.ptr q) cz q) (.c (.inr (.inr (.inr (.inl ⟨4,_,_,q,q,jo q,by simp,_,q,jo q⟩)))) q q q q q (gv.wanted .none) (O.bk q (.obj q) oN q) (.c (.inr (.inr (.inl ⟨8,_,_,q,q,q,by simp⟩))) q q q q q (gv.wanted .none) (O.aA (.ptr q)) .nil)))) (by kernel_rfl)<|au 12 (O.eX (.ptr q))<|au 13 (O.j9 (en:=bo) q (.ptr q) Eu (nb h8) q q)<|bV.jI 14 (G2:=[(0,.obj [ak bo ((dk.aq.a'.set bQ.1.toNat (⟨b4.Name,b4.Lit,b4.c0,dk.bU,b4.fi,b4.Tag⟩:bJ)).set bQ.1.toNat (⟨(⟨b4.Name,b4.Lit,b4.c0,dk.bU,b4.fi,b4.Tag⟩:bJ).Name,(⟨b4.Name,b4.Lit,b4.c0,dk.bU,b4.fi,b4.Tag⟩:bJ).Lit,(⟨b4.Name,b4.Lit,b4.c0,dk.bU,b4.fi,b4.Tag⟩:bJ).c0,(⟨b4.Name,b4.Lit,b4.c0,dk.bU,b4.fi,b4.Tag⟩:bJ).Level,aM (av.Kind - 1),(⟨b4.Name,b4.Lit,b4.c0,dk.bU,b4.fi,b4.Tag⟩:bJ).Tag⟩:bJ)),ak a8 dk.aq.bw,ak bE dk.aq.aY,af dk.aq.bz,af dk.aq.bA,ak bF dk.b0,ak a8 dk.bW,ak cr dk.bD,j dk.ca,j dk.cb,af dk.b',j dk.bU,j dk.bB]),(4,.obj (cM.cells av)),(5,.obj (dq.cells a2)),(7,j bQ.1),(8,.ptr ⟨0,[0]⟩ (bQ.1.toNat * bo.z+0))]) (cm.pb (en:=bo) (y2:=(⟨(⟨b4.Name,b4.Lit,b4.c0,dk.bU,b4.fi,b4.Tag⟩:bJ).Name,(⟨b4.Name,b4.Lit,b4.c0,dk.bU,b4.fi,b4.Tag⟩:bJ).Lit,(⟨b4.Name,b4.Lit,b4.c0,dk.bU,b4.fi,b4.Tag⟩:bJ).c0,(⟨b4.Name,b4.Lit,b4.c0,dk.bU,b4.fi,b4.Tag⟩:bJ).Level,aM (av.Kind - 1),(⟨b4.Name,b4.Lit,b4.c0,dk.bU,b4.fi,b4.Tag⟩:bJ).Tag⟩:bJ)) (cs':=[j (aM (av.Kind - 1))]) (x2:=.obj [ak bo ((dk.aq.a'.set bQ.1.toNat (⟨b4.Name,b4.Lit,b4.c0,dk.bU,b4.fi,b4.Tag⟩:bJ)).set bQ.1.toNat (⟨(⟨b4.Name,b4.Lit,b4.c0,dk.bU,b4.fi,b4.Tag⟩:bJ).Name,(⟨b4.Name,b4.Lit,b4.c0,dk.bU,b4.fi,b4.Tag⟩:bJ).Lit,(⟨b4.Name,b4.Lit,b4.c0,dk.bU,b4.fi,b4.Tag⟩:bJ).c0,(⟨b4.Name,b4.Lit,b4.c0,dk.bU,b4.fi,b4.Tag⟩:bJ).Level,aM (av.Kind - 1),(⟨b4.Name,b4.Lit,b4.c0,dk.bU,b4.fi,b4.Tag⟩:bJ).Tag⟩:bJ)),ak a8 dk.aq.bw,ak bE dk.aq.aY,af dk.aq.bz,af dk.aq.bA,ak bF dk.b0,ak a8 dk.bW,ak cr dk.bD,j dk.ca,j dk.cb,af dk.b',j dk.bU,j dk.bB]) q q (.ptr q) (.lit q) q (nb h8) nk q q q q q q q (.b q (.n q q (.n q q (.n q q (.e q q (.mk (en:=bo) q (nb h8) q (nb (nb h8)) q) q .nil)))))) q q q q (by kernel_rfl) (by kernel_rfl)<|bV.fin q q q (.n q (.n q (.n q (.n q (.r q (eY.el (en:=bo) q (nb (nb h8)) q) jP .nil)))))) ?_
    obtain rfl:=ax h
    exact ai.bC (.n q (.n q (.n q (.n q (.r q (eY.el (en:=bo) q (nb (nb h8)) q) jP .nil)))))
   ·refine W.bO ?_
    obtain rfl:=ax h
    exact ai.bC (.n q (.n q (.n q (.n q (.r q (eY.el (en:=bo) q il q) jP .nil)))))
  obtain ⟨eJ,jL,h⟩:=aB h
  refine ai.a_<|W.bb ?_
  refine W.rs [(0,_),(4,_),(5,_),(7,_),(8,.ptr ⟨0,[0]⟩ (bQ.1.toNat * bo.z+0)),(88,_)] (ah (O.bk q (.obj q) uU q)<|ah (O.cB q (.ptr q) cz q)<|ah (O.gtr (.lit q) (.k q))<|np (.n q (.n q (.n q (.n q (.r q (eY.el (en:=bo) q jL q) jP (.n q .nil))))))) ?_
  obtain ⟨e_,aa,h⟩:=aB h
  refine W.bC [(0,.obj (dV.cells e_)),(4,.obj (cM.cells av)),(5,.obj (dq.cells a2)),(8,.ptr ⟨0,[0]⟩ (bQ.1.toNat * bo.z+0))] ?_ ?_
  ·clear h; have h:=aa; clear aa
   refine W.bH h q (λgF h=>?_) (λgF h=>?_)
   ·refine W.bb ?_
    obtain ⟨Bv,aa,h⟩:=aB h
    refine W.rs [(0,.obj (dV.cells fz)),(4,.obj (cM.cells av)),(5,.obj (dq.cells a2)),(7,j bQ.1),(8,.ptr ⟨0,[0]⟩ (bQ.1.toNat * bo.z+0)),(106,ba Bv)] ?_ ?_
    ·refine br q<|ah (O.eql (.lit q) (.k q))<|ah (O.aA (.lit q)) ?_
     rcases cI aa with ⟨jJ,aa⟩ | ⟨jJ,aa⟩
     ·obtain rfl:=ax aa
      exact cH jJ<|cH jJ<|cH jJ<|cH jJ<|cH jJ<|cH jJ<|cH jJ<|ah (O.eu (.lit q) jJ (.k q))<|br q<|cH q<|cH q<|cH q<|cH q<|cH q<|ah (O.eu (.lit q) q (.k q))<|np (.n q (.n q (.n q (.n q (.r q (eY.el (en:=bo) q jL q) jP (.n q .nil))))))
     ·refine a1 jJ (O.aA (.obj q))<|a1 jJ (O.eX (.ptr q))<|a1 jJ (O.bk q (.ptr q) wV q)<|a1 jJ (O.c9 (y:=.bm bF.z ⟨0,[5]⟩ fz.b0.length) q (.ptr q) yq q q)<|a1 jJ (O.aA (.lit q)) ?_
      obtain ⟨gi,nD,aa⟩:=aB aa
      refine a1 jJ (O.gS (en:=bF) q (.bm q) (.lit q) oo nD q)<|a1 jJ (O.iZ (en:=bF) (x':=ba gi) q (.ptr q) nu nD q q)<|ah (O.cC (.lit q) jJ (.lit q))<|ah (O.aA (.lit q)) ?_
      rcases cI aa with ⟨ix,aa⟩ | ⟨ix,aa⟩
      ·obtain rfl:=ax aa
       exact cH ix<|cH ix<|cH ix<|cH ix<|cH ix<|ah (O.eu (.lit q) ix (.k q))<|np (.n q (.n q (.n q (.n q (.r q (eY.el (en:=bo) q jL q) jP (.n q .nil))))))
      ·refine a1 ix (O.aA (.obj q))<|a1 ix (O.bk q (.obj q) uU q)<|a1 ix (O.cB q (.ptr q) cz q) ?_
       obtain ⟨gj,lP,aa⟩:=aB aa
       obtain rfl:=ax aa
       exact ar.c (cu.vw (ys:=[.ptr ⟨0,[]⟩ 0,j a2.c0]) q (.c (View.om q q) (.s .nil)) (IU fz a2.c0 _ lP) call114 q) q q (.jS q q ix)<|a1 ix (O.geq (.lit q) (.k q))<|ah (O.cC (.lit q) ix (.lit q))<|np (.n q (.n q (.n q (.n q (.r q (eY.el (en:=bo) q jL q) jP (.n q .nil))))))
    obtain ⟨ec,aa,h⟩:=aB h
    refine W.bC [(0,.obj (dV.cells ec)),(4,.obj (cM.cells av)),(5,.obj (dq.cells a2)),(7,j bQ.1),(8,.ptr ⟨0,[0]⟩ (bQ.1.toNat * bo.z+0))] ?_ ?_
    ·clear h; have h:=aa; clear aa
     refine W.bH h q (λE5 h=>?_) (λE5 h=>?_)
     ·obtain ⟨cV,u9,h⟩:=aB h
      refine W.rx [(0,_),(4,_),(5,_),(7,_),(8,.ptr ⟨0,[0]⟩ (bQ.1.toNat * bo.z+0))] (ah (O.aA (.obj q))<|ah (O.bk q (.obj q) q7 q)<|ah (O.cB q (.ptr q) cz q)<|ah (O.bk q (.obj q) km q)<|ah (O.cB q (.ptr q) eZ q)<|ar.hs (G2:=[(8,.ptr ⟨0,[0]⟩ (bQ.1.toNat * bo.z+0))]++[(112,.cw []),(0,.obj [ak bo fz.aq.a',ak a8 cV.aq.bw,ak bE cV.aq.aY,af cV.aq.bz,af cV.aq.bA,ak bF cV.b0,ak a8 cV.bW,ak cr cV.bD,j cV.ca,j cV.cb,af cV.b',j cV.bU,j cV.bB]),(4,.obj (cM.cells av)),(5,.obj (dq.cells a2)),(7,j bQ.1)]) q (cm.fy (r:=0) (k0:=0) (y:=ak bo fz.aq.a') (cs5:=[ak bo fz.aq.a',ak a8 cV.aq.bw,ak bE cV.aq.aY,af cV.aq.bz,af cV.aq.bA,ak bF cV.b0,ak a8 cV.bW,ak cr cV.bD,j cV.ca,j cV.cb,af cV.b',j cV.bU,j cV.bB]) (G1:=λv=>[(0,.obj [.lit v,ak a8 fz.aq.bw,ak bE fz.aq.aY,af fz.aq.bz,af fz.aq.bA,ak bF fz.b0,ak a8 fz.bW,ak cr fz.bD,j fz.ca,j fz.cb,af fz.b',j fz.bU,j fz.bB]),(4,.obj (cM.cells av)),(5,.obj (dq.cells a2)),(7,j bQ.1),(107,.ptr ⟨0,[]⟩ 0),(109,j a2.At),(111,af a2.Name)]) (G4:=λv=>[(112,.cw []),(0,.obj [.lit v,ak a8 cV.aq.bw,ak bE cV.aq.aY,af cV.aq.bz,af cV.aq.bA,ak bF cV.b0,ak a8 cV.bW,ak cr cV.bD,j cV.ca,j cV.cb,af cV.b',j cV.bU,j cV.bB]),(4,.obj (cM.cells av)),(5,.obj (dq.cells a2)),(7,j bQ.1)]) (c4:=λv=>[.lit v,ak a8 cV.aq.bw,ak bE cV.aq.aY,af cV.aq.bz,af cV.aq.bA,ak bF cV.b0,ak a8 cV.bW,ak cr cV.bD,j cV.ca,j cV.cb,af cV.b',j cV.bU,j cV.bB]) (G5:=[(112,.cw []),(0,.obj [ak bo fz.aq.a',ak a8 cV.aq.bw,ak bE cV.aq.aY,af cV.aq.bz,af cV.aq.bA,ak bF cV.b0,ak a8 cV.bW,ak cr cV.bD,j cV.ca,j cV.cb,af cV.b',j cV.bU,j cV.bB]),(4,.obj (cM.cells av)),(5,.obj (dq.cells a2)),(7,j bQ.1)]) (A:=[(8,.ptr ⟨0,[0]⟩ (bQ.1.toNat * bo.z+0))]) q q q q (λv=>(.b q (.n q q (.n q q (.n q q (.p q q q q q q (.n q q (.n q q .nil)))))))) (λv=>hQ.nf (G2:=[(4,.obj (cM.cells av)),(5,.obj (dq.cells a2)),(7,j bQ.1)]) (A:=[]) (ys:=[.ptr ⟨0,[]⟩ 0,j a2.At,af a2.Name]) (args:=[.obj [.lit v,ak a8 fz.aq.bw,ak bE fz.aq.aY,af fz.aq.bz,af fz.aq.bA,ak bF fz.b0,ak a8 fz.bW,ak cr fz.bD,j fz.ca,j fz.cb,af fz.b',j fz.bU,j fz.bB],j a2.At,af a2.Name]) (cs':=[.lit v,ak a8 cV.aq.bw,ak bE cV.aq.aY,af cV.aq.bz,af cV.aq.bA,ak bF cV.b0,ak a8 cV.bW,ak cr cV.bD,j cV.ca,j cV.cb,af cV.b',j cV.bU,j cV.bB]) (k0:=0) q q q q (.b q (.n q (.n q .nil))) q (Ef v fz a2.At a2.Name _ u9) call94 (dB q q q) q q (dB q q q) .nil q) (λv=>q) (λv=>q) (λv=>q) (λv=>(.n q q (.b q (.n q q (.n q q (.n q q .nil)))))) q (.c (en:=bo) (L:=fz.aq.a') q q jL q q q .nil))<|np (.n q (.n q (.n q (.n q (.r q (eY.el (en:=bo) q jL q) jP .nil)))))) ?_
      obtain rfl:=ax h
      exact ai.bC (.n q (.n q (.n q (.n q (.r q (eY.el (en:=bo) q jL q) jP .nil)))))
     ·refine W.bO ?_
      obtain rfl:=ax h
      exact ai.bC (.n q (.n q (.n q (.n q (.r q (eY.el (en:=bo) q jL q) jP .nil)))))
    obtain ⟨ev,k8,h⟩:=aB h
    refine ai.a_<|W.rs [(0,_),(4,_),(5,_),(7,_),(8,.ptr ⟨0,[0]⟩ (bQ.1.toNat * bo.z+0))] (ah (O.aA (.ptr q))<|ah (O.bk q (.obj q) uU q)<|ah (O.cB q (.ptr q) cz q)<|ah (O.eX (.ptr q))<|ah (O.j9 (en:=bo) q (.ptr q) yJ k8 q q)<|ar.hs (G2:=[(0,.obj [ak bo (ec.aq.a'.set bQ.1.toNat (⟨ev.Name,ev.Lit,a2.c0,ev.Level,ev.fi,ev.Tag⟩:bJ)),ak a8 ec.aq.bw,ak bE ec.aq.aY,af ec.aq.bz,af ec.aq.bA,ak bF ec.b0,ak a8 ec.bW,ak cr ec.bD,j ec.ca,j ec.cb,af ec.b',j ec.bU,j ec.bB]),(4,.obj (cM.cells av)),(5,.obj (dq.cells a2)),(7,j bQ.1),(8,.ptr ⟨0,[0]⟩ (bQ.1.toNat * bo.z+0))]) q (cm.pb (en:=bo) (y2:=(⟨ev.Name,ev.Lit,a2.c0,ev.Level,ev.fi,ev.Tag⟩:bJ)) (cs':=[j a2.c0]) (x2:=.obj [ak bo (ec.aq.a'.set bQ.1.toNat (⟨ev.Name,ev.Lit,a2.c0,ev.Level,ev.fi,ev.Tag⟩:bJ)),ak a8 ec.aq.bw,ak bE ec.aq.aY,af ec.aq.bz,af ec.aq.bA,ak bF ec.b0,ak a8 ec.bW,ak cr ec.bD,j ec.ca,j ec.cb,af ec.b',j ec.bU,j ec.bB]) q q (.ptr q) (.lit q) q k8 nk q q q q q q q (.b q (.n q q (.n q q (.n q q (.e q q (.mk (en:=bo) q k8 q (nb k8) q) q .nil))))))<|np (.n q (.n q (.n q (.n q (.r q (eY.el (en:=bo) q (nb k8) q) jP .nil)))))) ?_
    obtain ⟨ha,mJ,h⟩:=aB h
    refine W.rx [(0,_),(4,_),(5,_),(8,.ptr ⟨0,[0]⟩ (bQ.1.toNat * bo.z+0))] (ah (O.aA (.obj q))<|ah (O.eX (.ptr q))<|ah (O.bk q (.ptr q) wV q)<|ah (O.c9 (y:=.bm bF.z ⟨0,[5]⟩ ec.b0.length) q (.ptr q) yq q q)<|br q<|ah (O.gS (en:=bF) q (.bm q) (.lit q) oo mJ q)<|ar.hs (G2:=[(0,.obj [ak bo (ec.aq.a'.set bQ.1.toNat (⟨ev.Name,ev.Lit,a2.c0,ev.Level,ev.fi,ev.Tag⟩:bJ)),ak a8 ec.aq.bw,ak bE ec.aq.aY,af ec.aq.bz,af ec.aq.bA,ak bF (ec.b0.set bQ.1.toNat true),ak a8 ec.bW,ak cr ec.bD,j ec.ca,j ec.cb,af ec.b',j ec.bU,j ec.bB]),(4,.obj (cM.cells av)),(5,.obj (dq.cells a2)),(8,.ptr ⟨0,[0]⟩ (bQ.1.toNat * bo.z+0))]) q (cm.pb (en:=bF) (y2:=true) (cs':=[ba true]) (x2:=.obj [ak bo (ec.aq.a'.set bQ.1.toNat (⟨ev.Name,ev.Lit,a2.c0,ev.Level,ev.fi,ev.Tag⟩:bJ)),ak a8 ec.aq.bw,ak bE ec.aq.aY,af ec.aq.bz,af ec.aq.bA,ak bF (ec.b0.set bQ.1.toNat true),ak a8 ec.bW,ak cr ec.bD,j ec.ca,j ec.cb,af ec.b',j ec.bU,j ec.bB]) q q (.ptr q) (.k q) q mJ ud q q q q q q q (.b q (.n q q (.n q q (.e q q (.mk (en:=bo) q (nb k8) q (nb k8) q) q .nil)))))<|np (.n q (.n q (.n q (.r q (eY.el (en:=bo) q (nb k8) q) jP .nil))))) ?_
    obtain rfl:=ax h
    exact ai.bC (.n q (.n q (.n q (.r q (eY.el (en:=bo) q (nb k8) q) jP .nil))))
   ·refine W.bO ?_
    obtain rfl:=ax h
    exact ai.bC (.n q (.n q (.n q (.r q (eY.el (en:=bo) q jL q) jP .nil))))
  obtain ⟨i_,mK,h⟩:=aB h
  refine ai.a_<|W.rs [(0,_),(4,_),(5,_),(8,.ptr ⟨0,[0]⟩ (bQ.1.toNat * bo.z+0)),(126,_)] (ah (O.bk q (.obj q) nx q)<|ah (O.cB q (.ptr q) eZ q)<|ah (O.lS (.lit q) (.k q))<|np (.n q (.n q (.n q (.r q (eY.el (en:=bo) q mK q) jP (.n q .nil)))))) ?_
  obtain ⟨oe,aa,h⟩:=aB h
  refine W.bC [(0,.obj (dV.cells oe))] ?_ ?_
  ·clear h; have h:=aa; clear aa
   refine W.bH h q (λkp h=>?_) (λkp h=>?_)
   ·refine W.bb<|W.bb ?_
    obtain ⟨p6,aa,h⟩:=aB h
    refine W.rd [[],[0],[0,1],[0,1,2],[0,1,2,3],aO 0 5 [],aO 0 6 [],aO 0 7 [],aO 0 8 [],aO 0 9 [],aO 0 6 [],aO 0 6 [10],aO 0 12 [],aO 0 13 []] [(0,.obj (dV.cells e_)),(4,.obj (cM.cells av)),(5,.obj (dq.cells a2)),(8,.ptr ⟨0,[0]⟩ (bQ.1.toNat * bo.z+0)),(140,ba p6)] e1 (by kernel_rfl) ?_ ?_
    ·refine au 0 (O.aA (.ptr q))<|au 1 (O.eX (.ptr q))<|au 2 (O.j9 (en:=bo) q (.ptr q) BU mK q q)<|au 3 (O.iZ (en:=bo) (x':=af i_.Tag) q (.ptr q) eZ mK q q)<|au 4 (O.lS (.lit q) (.k q))<|au 5 (O.aA (.lit q)) ?_
     rcases cI aa with ⟨fK,aa⟩ | ⟨fK,aa⟩
     ·obtain rfl:=ax aa
      exact bx 6 fK (O.aA (.ptr q))<|bx 7 fK (O.eX (.ptr q))<|bx 8 fK (O.j9 (en:=bo) q (.ptr q) BU mK q q)<|bx 9 fK (O.iZ (en:=bo) (x':=af i_.Tag) q (.ptr q) eZ mK q q)<|bx 10 fK (O.bk q (.obj q) nx q)<|bx 11 fK (O.cB q (.ptr q) eZ q)<|bx 12 fK (O.lS (.lit q) (.lit q))<|au 13 (O.eu (.lit q) fK (.lit q))<|bV.fin q q q (.n q (.n q (.n q (.r q (eY.el (en:=bo) q mK q) jP (.n q .nil)))))
     ·obtain rfl:=ax aa
      exact aH 6 fK<|aH 7 fK<|aH 8 fK<|aH 9 fK<|aH 10 fK<|aH 11 fK<|aH 12 fK<|au 13 (O.cC (.lit q) fK (.k q))<|bV.fin q q q (.n q (.n q (.n q (.r q (eY.el (en:=bo) q mK q) jP (.n q .nil)))))
    refine ai.a_ ?_
    obtain ⟨gy,aa,h⟩:=aB h
    refine W.bC [(0,.obj (dV.cells gy)),(4,.obj (cM.cells av)),(8,.ptr ⟨0,[0]⟩ (bQ.1.toNat * bo.z+0))] ?_ ?_
    ·clear h; have h:=aa; clear aa
     refine W.bH h q (λra h=>?_) (λra h=>?_)
     ·obtain ⟨c7,xg,h⟩:=aB h
      refine W.rx [(0,_),(4,_),(8,.ptr ⟨0,[0]⟩ (bQ.1.toNat * bo.z+0))] (ah (O.aA (.obj q))<|ah (O.bk q (.obj q) q7 q)<|ah (O.cB q (.ptr q) cz q)<|ah (O.bk q (.obj q) km q)<|ah (O.cB q (.ptr q) eZ q)<|ar.hs (G2:=[(8,.ptr ⟨0,[0]⟩ (bQ.1.toNat * bo.z+0))]++[(146,.cw []),(0,.obj [ak bo e_.aq.a',ak a8 c7.aq.bw,ak bE c7.aq.aY,af c7.aq.bz,af c7.aq.bA,ak bF c7.b0,ak a8 c7.bW,ak cr c7.bD,j c7.ca,j c7.cb,af c7.b',j c7.bU,j c7.bB]),(4,.obj (cM.cells av))]) q (cm.fy (r:=0) (k0:=0) (y:=ak bo e_.aq.a') (cs5:=[ak bo e_.aq.a',ak a8 c7.aq.bw,ak bE c7.aq.aY,af c7.aq.bz,af c7.aq.bA,ak bF c7.b0,ak a8 c7.bW,ak cr c7.bD,j c7.ca,j c7.cb,af c7.b',j c7.bU,j c7.bB]) (G1:=λv=>[(0,.obj [.lit v,ak a8 e_.aq.bw,ak bE e_.aq.aY,af e_.aq.bz,af e_.aq.bA,ak bF e_.b0,ak a8 e_.bW,ak cr e_.bD,j e_.ca,j e_.cb,af e_.b',j e_.bU,j e_.bB]),(4,.obj (cM.cells av)),(141,.ptr ⟨0,[]⟩ 0),(143,j a2.At),(145,af a2.Name)]) (G4:=λv=>[(146,.cw []),(0,.obj [.lit v,ak a8 c7.aq.bw,ak bE c7.aq.aY,af c7.aq.bz,af c7.aq.bA,ak bF c7.b0,ak a8 c7.bW,ak cr c7.bD,j c7.ca,j c7.cb,af c7.b',j c7.bU,j c7.bB]),(4,.obj (cM.cells av))]) (c4:=λv=>[.lit v,ak a8 c7.aq.bw,ak bE c7.aq.aY,af c7.aq.bz,af c7.aq.bA,ak bF c7.b0,ak a8 c7.bW,ak cr c7.bD,j c7.ca,j c7.cb,af c7.b',j c7.bU,j c7.bB]) (G5:=[(146,.cw []),(0,.obj [ak bo e_.aq.a',ak a8 c7.aq.bw,ak bE c7.aq.aY,af c7.aq.bz,af c7.aq.bA,ak bF c7.b0,ak a8 c7.bW,ak cr c7.bD,j c7.ca,j c7.cb,af c7.b',j c7.bU,j c7.bB]),(4,.obj (cM.cells av))]) (A:=[(8,.ptr ⟨0,[0]⟩ (bQ.1.toNat * bo.z+0))]) q q q q (λv=>(.b q (.n q q (.p q q q q q q (.n q q (.n q q .nil)))))) (λv=>hQ.nf (G2:=[(4,.obj (cM.cells av))]) (A:=[]) (ys:=[.ptr ⟨0,[]⟩ 0,j a2.At,af a2.Name]) (args:=[.obj [.lit v,ak a8 e_.aq.bw,ak bE e_.aq.aY,af e_.aq.bz,af e_.aq.bA,ak bF e_.b0,ak a8 e_.bW,ak cr e_.bD,j e_.ca,j e_.cb,af e_.b',j e_.bU,j e_.bB],j a2.At,af a2.Name]) (cs':=[.lit v,ak a8 c7.aq.bw,ak bE c7.aq.aY,af c7.aq.bz,af c7.aq.bA,ak bF c7.b0,ak a8 c7.bW,ak cr c7.bD,j c7.ca,j c7.cb,af c7.b',j c7.bU,j c7.bB]) (k0:=0) q q q q (.b q (.n q (.n q .nil))) q (Ef v e_ a2.At a2.Name _ xg) call94 (.n q .nil) q q (.n q .nil) .nil q) (λv=>q) (λv=>q) (λv=>q) (λv=>(.n q q (.b q (.n q q .nil)))) q (.c (en:=bo) (L:=e_.aq.a') q q mK q q q .nil))<|np (.n q (.n q (.r q (eY.el (en:=bo) q mK q) jP .nil)))) ?_
      obtain rfl:=ax h
      exact ai.bC (.n q (.n q (.r q (eY.el (en:=bo) q mK q) jP .nil)))
     ·refine W.bO ?_
      obtain rfl:=ax h
      exact ai.bC (.n q (.n q (.r q (eY.el (en:=bo) q mK q) jP .nil)))
    obtain ⟨hW,rl,h⟩:=aB h
    refine ai.a_<|W.bp [0] (ah (O.aA (.ptr q))<|ah (O.bk q (.obj q) nx q)<|ah (O.cB q (.ptr q) eZ q)<|ah (O.eX (.ptr q))<|ah (O.j9 (en:=bo) q (.ptr q) BU rl q q)<|ar.hs (G2:=[(0,.obj [ak bo (gy.aq.a'.set bQ.1.toNat (⟨hW.Name,hW.Lit,hW.c0,hW.Level,hW.fi,av.Tag⟩:bJ)),ak a8 gy.aq.bw,ak bE gy.aq.aY,af gy.aq.bz,af gy.aq.bA,ak bF gy.b0,ak a8 gy.bW,ak cr gy.bD,j gy.ca,j gy.cb,af gy.b',j gy.bU,j gy.bB])]) q (cm.pb (en:=bo) (y2:=(⟨hW.Name,hW.Lit,hW.c0,hW.Level,hW.fi,av.Tag⟩:bJ)) (cs':=[af av.Tag]) (x2:=.obj [ak bo (gy.aq.a'.set bQ.1.toNat (⟨hW.Name,hW.Lit,hW.c0,hW.Level,hW.fi,av.Tag⟩:bJ)),ak a8 gy.aq.bw,ak bE gy.aq.aY,af gy.aq.bz,af gy.aq.bA,ak bF gy.b0,ak a8 gy.bW,ak cr gy.bD,j gy.ca,j gy.cb,af gy.b',j gy.bU,j gy.bB]) q q (.ptr q) (.lit q) q rl vW q q q q q q q (.b q .nil))<|bR q) ?_
    obtain rfl:=ax h
    exact ai.bC (.n q .nil)
   ·refine W.bO ?_
    obtain rfl:=ax h
    exact ai.bC (.n q .nil)
  obtain rfl:=ax h
  exact ai.fin (Fin.ro .nil q (oi (by kernel_rfl)) (.az q q (.no (.no .nil))) q (.inl q))
theorem wO (a0:cN) (av:ByteArray) (r:Int) (h:rp a0 av=some r):b_ Try.prog 96 [.bn ([aj bo a0.aq.a',aj a8 a0.aq.bw,aj bE a0.aq.aY,af a0.aq.bz,af a0.aq.bA,aj bF a0.b0,aj a8 a0.bW,aj cr a0.bD,j a0.ca,j a0.cb,af a0.b',j a0.bU,j a0.bB]),af av] [none,none] (j r):=by
 unfold rp at h
 refine b_.go (N:=⟨25,[]⟩) Try.func96 q q q q (W.fin ?_)
 refine W.st [(0,.bn ([aj bo a0.aq.a',aj a8 a0.aq.bw,aj bE a0.aq.aY,af a0.aq.bz,af a0.aq.bA,aj bF a0.b0,aj a8 a0.bW,aj cr a0.bD,j a0.ca,j a0.cb,af a0.b',j a0.bU,j a0.bB])),(1,af av)] ?_
 refine W.aZ [0,1] ?_
 refine W.bb<|W.aZ [0,1,5] ?_
 refine W.bq ?_
 obtain ⟨x2,ao,h⟩:=aB h
 refine W.cj (G1:=[(0,_),(1,_),(5,_)]) (dB q q q) ?_
 refine W.jM (s:=0) (λ(s1:Int)=>[(0,.bn ([aj bo a0.aq.a',aj a8 a0.aq.bw,aj bE a0.aq.aY,af a0.aq.bz,af a0.aq.bA,aj bF a0.b0,aj a8 a0.bW,aj cr a0.bD,j a0.ca,j a0.cb,af a0.b',j a0.bU,j a0.bB])),(1,af av),(5,j s1)]) 0 (λ(aX:Unit)=>[]) (λ(bN:Int)=>[(4,j bN)]) ao (λs1 o h=>?_) (λaX J=>?_) (λbN J=>?_)
 ·clear ao
  refine W.bb<|W.aZ [0,1,5,12] ?_
  refine W.bH h q (λdK h=>?_) (λdK h=>?_)
  ·refine W.bO<|ai.a_ ?_
   refine W.bb<|W.bq ?_
   obtain ⟨bu,fH,h⟩:=aB h
   refine W.aZ [0,1,5,23] ?_
   refine W.bH h q (λcU h=>?_) (λcU h=>?_)
   ·refine W.aZ [4] ?_
    refine W.rt ?_
    refine ai.ee ?_
    refine ai.c_ ?_
    obtain rfl:=ax h
    exact ai.gm (.n q .nil)
   ·refine W.bO<|ai.bq ?_
    refine ai.a_<|W.bp [0,1,5] (br q<|ah (O.add (.lit q) (.k q))<|ar.bp [0,1,14] q<|ar.aW) ?_
    obtain rfl:=ax h
    exact ai.go (dB q q q)
  ·refine W.dd ?_
   refine ai.dc ?_
   obtain rfl:=ax h
   exact ai.x2 .nil
 ·subst J
  refine ai.de ?_
  refine ai.a_<|W.aZ [4] ?_
  refine W.rt ?_
  obtain rfl:=ax h
  exact cA (.f q q .nil)
 ·subst J
  refine ai.ee ?_
  refine ai.c_ ?_
  obtain rfl:=ax h
  exact cA (.f q q .nil)
theorem IV (a0:cN) (av:Sym) (r:Int × cN) (h:tQ a0 av=some r):b_ Try.prog 115 [.obj (dV.cells a0),.agg (dq.cells av)] [some (.obj [ak bo r.2.aq.a',ak a8 r.2.aq.bw,ak bE r.2.aq.aY,af r.2.aq.bz,af r.2.aq.bA,ak bF r.2.b0,ak a8 r.2.bW,ak cr r.2.bD,j r.2.ca,j r.2.cb,af r.2.b',j r.2.bU,j r.2.bB]),none] (j r.1):=by
 unfold tQ at h
 refine b_.go (N:=⟨32,[0]⟩) Try.func115 q q q q (W.fin ?_)
 refine W.st [(0,.obj (dV.cells a0)),(1,.agg (dq.cells av))] ?_
 refine W.bM [0,3] (ah (O.box (.cg q q) q)<|ar.aW) ?_
 refine W.bb<|W.aZ [0,3,8] ?_
 refine W.bH h q (λds h=>?_) (λds h=>?_)
 ·obtain ⟨x2,ho,h⟩:=aB h
  refine W.bM [0,4] (ah (O.aA (.obj q))<|ah (O.dT (cs':=[af av.Name,ba av.Lit,j av.c0,j av.At]) q (.obj q) k1 q q)<|ar.hs q (cm.call q q (hQ.nf (G2:=[]) (A:=[]) (ys:=[.ptr ⟨0,[]⟩ 0,.agg (dq.cells av)]) (args:=[.obj (dV.cells a0),.agg (dq.cells av)]) (cs':=[ak bo x2.2.aq.a',ak a8 x2.2.aq.bw,ak bE x2.2.aq.aY,af x2.2.aq.bz,af x2.2.aq.bA,ak bF x2.2.b0,ak a8 x2.2.bW,ak cr x2.2.bD,j x2.2.ca,j x2.2.cb,af x2.2.b',j x2.2.bU,j x2.2.bB]) (k0:=0) q q q q (.b q (.n q .nil)) q (IT a0 av _ ho) call113 .nil q q .nil .nil q))<|ar.aW) ?_
  refine W.rt ?_
  refine ai.c_ ?_
  obtain rfl:=ax h
  exact ai.fin (Fin.ro (.f q q .nil) q (oi (by kernel_rfl)) (.az q q (.no .nil)) q (.inr q))
 ·refine W.bO<|ai.a_ ?_
  refine W.bb ?_
  obtain ⟨aX,hL,h⟩:=aB h
  refine W.bM [0,3,5] (ah (O.aA (.obj q))<|ah (O.bk q (.obj q) km q)<|ah (O.cB q (.ptr q) eZ q)<|dL (cu.vw (ys:=[.ptr ⟨0,[]⟩ 0,af av.Name]) q (.c (View.om q q) (.s .nil)) (wO a0 av.Name _ hL) call96 q)<|ar.aW) ?_
  refine W.aZ [0,3,5,17] ?_
  refine W.bH h q (λdf h=>?_) (λdf h=>?_)
  ·refine W.aZ [0,4] ?_
   refine W.rt ?_
   refine ai.c_ ?_
   obtain rfl:=ax h
   exact ai.fin (Fin.ro (.f q q .nil) q (oi (by kernel_rfl)) (.az q q (.no .nil)) q (.inr q))
  ·refine W.bO<|ai.a_ ?_
   obtain ⟨ck,kQ,h⟩:=aB h
   refine W.bM [0,3,6] (ah (O.aA (.obj q))<|ah (O.dT (cs':=[af av.Name,ba av.Lit,j av.c0,j av.At]) q (.obj q) k1 q q)<|dL (cu.vw (ys:=[.ptr ⟨0,[]⟩ 0,.agg (dq.cells av)]) q (.c (View.om q q) (.c (.rM (.s (.s (.s (.s .nil))))) .nil)) (Ed a0 av _ kQ) call95 q)<|ar.aW) ?_
   refine W.bb<|W.aZ [0,3,6,24] ?_
   refine W.bH h q (λdN h=>?_) (λdN h=>?_)
   ·obtain ⟨bl,gb,h⟩:=aB h
    refine W.bM [0] (ah (O.aA (.obj q))<|ah (O.bk q (.obj q) q7 q)<|ah (O.cB q (.ptr q) cz q)<|ah (O.bk q (.obj q) km q)<|ah (O.cB q (.ptr q) eZ q)<|ar.hs q (cm.call q q (hQ.nf (G2:=[]) (A:=[]) (ys:=[.ptr ⟨0,[]⟩ 0,j av.At,af av.Name]) (args:=[.obj (dV.cells a0),j av.At,af av.Name]) (cs':=[ak bo bl.aq.a',ak a8 bl.aq.bw,ak bE bl.aq.aY,af bl.aq.bz,af bl.aq.bA,ak bF bl.b0,ak a8 bl.bW,ak cr bl.bD,j bl.ca,j bl.cb,af bl.b',j bl.bU,j bl.bB]) (k0:=0) q q q q (.b q (.n q (.n q .nil))) q (uF a0 av.At av.Name _ gb) call94 .nil q q .nil .nil q))<|bR q) ?_
    refine W.aZ [0,4] ?_
    refine W.rt ?_
    refine ai.c_ ?_
    obtain rfl:=ax h
    exact ai.fin (Fin.ro (.f q q .nil) q (oi (by kernel_rfl)) (.az q q (.no .nil)) q (.inr q))
   ·refine W.bO<|ai.a_ ?_
    refine W.aZ [0,4] ?_
    refine W.rt ?_
    obtain rfl:=ax h
    exact ai.fin (Fin.ro (.f q q .nil) q (oi (by kernel_rfl)) (.az q q (.no .nil)) q (.inr q))
theorem O4 (a0:cN) (av:ByteArray) (a2:Alt) (r:cN) (h:AB a0 av a2=some r):b_ Try.prog 97 [.obj (dV.cells a0),af av,.agg (dY.cells a2)] [some (.obj [ak bo r.aq.a',ak a8 r.aq.bw,ak bE r.aq.aY,af r.aq.bz,af r.aq.bA,ak bF r.b0,ak a8 r.bW,ak cr r.bD,j r.ca,j r.cb,af r.b',j r.bU,j r.bB]),none,none] (.cw []):=by
 unfold AB at h
 refine b_.go (N:=⟨173,[0]⟩) Try.func97 q q q q (W.fin ?_)
 refine W.st [(0,.obj (dV.cells a0)),(1,af av),(2,.agg (dY.cells a2))] ?_
 refine W.bM [0,1,5] (ah (O.box (.cg q q) q)<|bR q) ?_
 refine W.bb ?_
 obtain ⟨aE,fp,h⟩:=aB h
 refine W.rd [[],[],[0,1],[0,1,2],[],[4],aO 0 6 [],[],aO 0 8 []] [(0,_),(5,_),(6,_)] e1 (by kernel_rfl) (au 0 (O.aA (.obj q))<|au 1 (O.aA (.lit q))<|iM 2 (cu.vw (ys:=[.ptr ⟨0,[]⟩ 0,af av]) q (.c (View.om q q) (.s .nil)) (wO a0 av _ fp) call96 q)<|au 3 (O.add (.k q) (.lit q))<|au 4 (O.bk q (.obj q) Jz q)<|au 5 (O.cB q (.ptr q) cz q)<|au 6 (O.eS (cs:=[j (aM (1+aE)),.aJ,j (-1),af aC,.aJ,j a2.At]) Hf A0 q q q)<|au 7 (O.fD (cs:=[j 0,.aJ,j 0,af aC,.aJ,j 0]) A0 q q)<|bV.dI 8 (G2:=[(0,.obj (dV.cells a0)),(5,.obj (dY.cells a2)),(6,.obj [j (aM (1+aE)),.aJ,j (-1),af aC,.aJ,j a2.At])]) (cs2:=[j (aM (1+aE)),.aJ,j (-1),af aC,.aJ,j a2.At]) q (by kernel_rfl) (by kernel_rfl) q q q (.obj q) (.cg q q) q Mk q q q q (.n q q (.n q q (.b q .nil)))<|bV.fin q q q (dB q q q)) ?_
 refine ai.a_<|W.bb ?_
 refine W.aZ [0,5,6,7] ?_
 refine W.bq ?_
 obtain ⟨aX,ao,h⟩:=aB h
 refine W.cj (G1:=[(0,_),(5,_),(6,.obj [j (aM (1+aE)),ak aL ([]:List Int),j (-1),af aC,.aJ,j a2.At]),(7,_)]) (.n q (.n q (.w q q (kZ.obj (.f (.o (.f (.f (.f (.f .nil))))))) (.n q .nil)))) ?_
 refine W.e0 (s:=(a0,([]:List Int),aC,a2.At,0)) (λ(s2:cN × List Int × ByteArray × Int × Int)=>[(0,.obj (dV.cells s2.1)),(5,.obj (dY.cells a2)),(6,.obj [j (aM (1+aE)),ak aL s2.2.1,j (-1),af s2.2.2.1,.aJ,j s2.2.2.2.1]),(7,j s2.2.2.2.2)]) 0 (λ(aX:cN × List Int × ByteArray × Int)=>[(0,.obj (dV.cells aX.1)),(5,.obj (dY.cells a2)),(6,.obj [j (aM (1+aE)),ak aL aX.2.1,j (-1),af aX.2.2.1,.aJ,j aX.2.2.2])]) ao (λs2 o h=>?_) ?_
 ·clear ao
  refine W.bb<|W.aZ [0,5,6,7,21] ?_
  refine W.bH h q (λdK h=>?_) (λdK h=>?_)
  ·refine W.bO<|ai.a_ ?_
   refine W.bb ?_
   obtain ⟨iY,aa,h⟩:=aB h
   refine W.bC [(0,.obj (dV.cells iY.1)),(5,.obj (dY.cells a2)),(6,.obj [j (aM (1+aE)),ak aL iY.2.1,j (-1),af iY.2.2.1,.aJ,j iY.2.2.2]),(7,j s2.2.2.2.2)] ?_ ?_
   ·clear h; have h:=aa; clear aa
    refine W.bq ?_
    obtain ⟨bl,gb,h⟩:=aB h
    refine W.bM [0,5,6,7,8] (ah (O.bk q (.obj q) r3 q)<|ah (O.c9 (y:=aj fj a2.jw) q (.ptr q) wR q q)<|br q<|ah (O.cE (.aD q) (.lit q) sJ gb)<|ah (O.jn (cs':=[af bl.Sym.Name,ba bl.Sym.Lit,j bl.Sym.c0,j bl.Sym.At,af bl.Code,j bl.At]) (.bn q) Bo q q)<|ah (O.fD (cs:=[af aC,ba false,j 0,j 0,af aC,j 0]) rD q q)<|ar.dI (G2:=[(0,_),(5,_),(6,_),(7,_),(8,_)]) (cs2:=[af bl.Sym.Name,ba bl.Sym.Lit,j bl.Sym.c0,j bl.Sym.At,af bl.Code,j bl.At]) q (.obj q) (.cg q q) q Hr q q q q (.n q q (.n q q (.n q q (.n q q (.b q .nil)))))<|bR q) ?_
    obtain ⟨jm,aa,h⟩:=aB h
    refine W.bC [(0,.obj (dV.cells jm.1)),(5,.obj (dY.cells a2)),(6,.obj [j (aM (1+aE)),ak aL jm.2.1,j (-1),af jm.2.2.1,.aJ,j jm.2.2.2]),(7,j s2.2.2.2.2)] ?_ ?_
    ·clear h; have h:=aa; clear aa
     refine W.bq<|W.aZ [0,5,6,7,8,82] ?_
     obtain ⟨oZ,aa,h⟩:=aB h
     refine W.bC [(0,.obj (dV.cells oZ.1)),(5,.obj (dY.cells a2)),(6,.obj [j (aM (1+aE)),ak aL oZ.2.1,j (-1),af oZ.2.2.1,.aJ,j oZ.2.2.2]),(7,j s2.2.2.2.2)] ?_ ?_
     ·clear h; have h:=aa; clear aa
      refine W.bH h q (λeG h=>?_) (λeG h=>?_)
      ·obtain ⟨cp,il,h⟩:=aB h
       obtain ⟨cO,kq,h⟩:=aB h
       refine W.rd [[],[0],[],[],[3],[2,3,4],[2,3,4,5],aO 0 7 [],aO 0 8 [],aO 0 9 []] [(0,_),(5,_),(6,_),(7,_)] e1 (by kernel_rfl) (au 0 (O.bk q (.obj q) mE q)<|au 1 (O.c9 (y:=.bm aL.z ⟨6,[1]⟩ s2.2.1.length) q (.ptr q) gX q q)<|au 2 (O.aA (.obj q))<|au 3 (O.bk q (.obj q) yK q)<|au 4 (O.dT (cs':=[af bl.Sym.Name,ba bl.Sym.Lit,j bl.Sym.c0,j bl.Sym.At]) q (.ptr q) k1 q q)<|bV.eS 5 (G2:=(6,.obj [j (aM (1+aE)),ak aL s2.2.1,j (-1),af s2.2.2.1,.aJ,j s2.2.2.2.1])::[(91,j cp.1),(0,.obj [ak bo cp.2.aq.a',ak a8 cp.2.aq.bw,ak bE cp.2.aq.aY,af cp.2.aq.bz,af cp.2.aq.bA,ak bF cp.2.b0,ak a8 cp.2.bW,ak cr cp.2.bD,j cp.2.ca,j cp.2.cb,af cp.2.b',j cp.2.bU,j cp.2.bB]),(5,.obj (dY.cells a2)),(7,j s2.2.2.2.2)]) (U:=[(1,87,some (.bm aL.z ⟨6,[1]⟩ s2.2.1.length)),(0,86,some (.ptr ⟨6,[]⟩ 1))]) (oy.box (r:=6) (G1:=[(0,.obj (dV.cells s2.1)),(5,.obj (dY.cells a2)),(7,j s2.2.2.2.2),(88,.ptr ⟨0,[]⟩ 0),(90,.agg (dq.cells bl.Sym))]) (G2:=[(91,j cp.1),(0,.obj [ak bo cp.2.aq.a',ak a8 cp.2.aq.bw,ak bE cp.2.aq.aY,af cp.2.aq.bz,af cp.2.aq.bA,ak bF cp.2.b0,ak a8 cp.2.bW,ak cr cp.2.bD,j cp.2.ca,j cp.2.cb,af cp.2.b',j cp.2.bU,j cp.2.bB]),(5,.obj (dY.cells a2)),(7,j s2.2.2.2.2)]) (cm.call q q (hQ.nf (G2:=[(5,.obj (dY.cells a2)),(7,j s2.2.2.2.2)]) (A:=[]) (ys:=[.ptr ⟨0,[]⟩ 0,.agg (dq.cells bl.Sym)]) (args:=[.obj (dV.cells s2.1),.agg (dq.cells bl.Sym)]) (cs':=[ak bo cp.2.aq.a',ak a8 cp.2.aq.bw,ak bE cp.2.aq.aY,af cp.2.aq.bz,af cp.2.aq.bA,ak bF cp.2.b0,ak a8 cp.2.bW,ak cr cp.2.bD,j cp.2.ca,j cp.2.cb,af cp.2.b',j cp.2.bU,j cp.2.bB]) (k0:=0) q q q q (.b q (.n q .nil)) q (IV s2.1 bl.Sym _ il) call115 (fe q q) q q (fe q q) .nil q)) q (.n q (.n q (.n q (.q q q q (.n q .nil))))) q q q) q q (by kernel_rfl) q q q (.c (.inl ⟨6,[1],_,_,_,_,q,by simp [sB],q,q,Nat.le_refl _⟩) q q q q q (gv.wanted .none) (O.c9 (y:=.bm aL.z ⟨6,[1]⟩ s2.2.1.length) q (.ptr q) gX q q) (.c (.inr (.inr (.inr (.inl ⟨6,_,_,q,q,jo q,by simp,_,q,jo q⟩)))) q q q q q (gv.wanted .none) (O.bk q (.obj q) mE q) .nil)) (by kernel_rfl)<|bV.gq 6 (x:=aj aL [cp.1]) (O.dF (ys:=[j cp.1]) aL [cp.1] eI q q q q q q nm q q) q q q q .none<|au 7 (O.ap (en:=aL) (r:=cO) (.bm q) q (.aD q) .i pt q kq)<|au 8 (O.bk q (.obj q) mE q)<|bV.jI 9 (G2:=[(0,.obj (dV.cells cp.2)),(5,.obj (dY.cells a2)),(6,.obj [j (aM (1+aE)),ak aL (s2.2.1++[cp.1]),j (-1),af s2.2.2.1,.aJ,j s2.2.2.2.1]),(7,j s2.2.2.2.2)]) (cm.lW (g1:=_) (en:=aL) (M:=[cp.1]) (cs2:=[j (aM (1+aE)),ak aL (s2.2.1++[cp.1]),j (-1),af s2.2.2.1,.aJ,j s2.2.2.2.1]) q q (.ptr q) (.b2 q) q q q .lb .gZ q q vU q q q q (.n q q (.n q q (.b q (.n q q .nil))))) q q q q (by kernel_rfl) (by kernel_rfl)<|bV.fin q q q (dA q q q q)) ?_
       obtain rfl:=ax h
       exact ai.bC (dA q q q q)
      ·refine W.aZ [0,5,6,7,8,95] ?_
       obtain ⟨iX,aa,h⟩:=aB h
       refine W.bC [(0,.obj [ak bo s2.1.aq.a',ak a8 s2.1.aq.bw,ak bE iX.1,af s2.1.aq.bz,af s2.1.aq.bA,ak bF s2.1.b0,ak a8 s2.1.bW,ak cr s2.1.bD,j s2.1.ca,j s2.1.cb,af s2.1.b',j s2.1.bU,j iX.2.1]),(5,.obj (dY.cells a2)),(6,.obj [j (aM (1+aE)),ak aL iX.2.2.1,j (-1),af iX.2.2.2.1,.aJ,j iX.2.2.2.2]),(7,j s2.2.2.2.2)] ?_ ?_
       ·clear h; have h:=aa; clear aa
        refine W.bH h q (λeE h=>?_) (λeE h=>?_)
        ·refine W.rd [[],[0],[],[2],[0,1],[0,1,4],aO 0 6 [],aO 0 7 []] [(0,_),(5,_),(6,_),(7,_)] e1 (by kernel_rfl) (au 0 (O.bk q (.obj q) q8 q)<|au 1 (O.cB q (.ptr q) eZ q)<|au 2 (O.bk q (.obj q) BV q)<|au 3 (O.cB q (.ptr q) cz q)<|au 4 (O.bk q (.obj q) Jl q)<|bV.eS 5 (G2:=[(0,.obj (dV.cells s2.1)),(5,.obj (dY.cells a2)),(6,.obj [j (aM (1+aE)),ak aL s2.2.1,j (-1),af bl.Code,.aJ,j s2.2.2.2.1]),(7,j s2.2.2.2.2),(8,.obj (fj.cells bl))]) (U:=[(3,105,some (j bl.At)),(2,104,some (.ptr ⟨8,[]⟩ 5))]) (l1.v (cm.nZ (cm.dI (G2:=[(0,.obj (dV.cells s2.1)),(5,.obj (dY.cells a2)),(6,.obj [j (aM (1+aE)),ak aL s2.2.1,j (-1),af bl.Code,.aJ,j s2.2.2.2.1]),(7,j s2.2.2.2.2),(8,.obj (fj.cells bl))]) (cs2:=[j (aM (1+aE)),ak aL s2.2.1,j (-1),af bl.Code,.aJ,j s2.2.2.2.1]) q q q (.ptr q) (.lit q) q vW q q q q (.n q q (.n q q (.b q (.n q q (.n q q .nil)))))))) q q (by kernel_rfl) q q q (.c (.inr (.inl ⟨_,q⟩)) q q q q q (gv.wanted .none) (O.cB q (.ptr q) cz q) (.c (.inr (.inr (.inr (.inl ⟨8,_,_,q,q,jo q,by simp,_,q,jo q⟩)))) q q q q q (gv.wanted .none) (O.bk q (.obj q) BV q) .nil)) (by kernel_rfl)<|au 6 (O.bk q (.obj q) Jn q)<|bV.dI 7 (G2:=[(0,.obj (dV.cells s2.1)),(5,.obj (dY.cells a2)),(6,.obj [j (aM (1+aE)),ak aL s2.2.1,j (-1),af bl.Code,.aJ,j bl.At]),(7,j s2.2.2.2.2)]) (cs2:=[j (aM (1+aE)),ak aL s2.2.1,j (-1),af bl.Code,.aJ,j bl.At]) q (by kernel_rfl) (by kernel_rfl) q q q (.ptr q) (.lit q) q nk q q q q (.n q q (.n q q (.b q (.n q q .nil))))<|bV.fin q q q (dA q q q q)) ?_
         obtain rfl:=ax h
         exact ai.bC (dA q q q q)
        ·refine W.bM [0,5,6,7,8] (ah (O.aA (.obj q))<|ah (O.eX (.ptr q))<|ah (O.bk q (.ptr q) yF q)<|ah (O.cB q (.ptr q) cz q)<|ah (O.add (.lit q) (.k q))<|ah (O.eX (.ptr q))<|ah (O.bk q (.ptr q) yF q)<|ar.dI (G2:=[(0,_),(5,_),(6,_),(7,_),(8,_)]) (cs2:=[ak bo s2.1.aq.a',ak a8 s2.1.aq.bw,ak bE s2.1.aq.aY,af s2.1.aq.bz,af s2.1.aq.bA,ak bF s2.1.b0,ak a8 s2.1.bW,ak cr s2.1.bD,j s2.1.ca,j s2.1.cb,af s2.1.b',j s2.1.bU,j (aM (s2.1.bB+1))]) q (.ptr q) (.lit q) q nk q q q q (.b q (.n q q (.n q q (.n q q (.n q q .nil)))))<|bR q) ?_
         refine W.bb ?_
         obtain ⟨dt,iJ,h⟩:=aB h
         obtain ⟨cn,lq,h⟩:=aB h
         refine W.rd [[],[],[1],[1,2],[1,2,3],[1,2,3,4],[],[6],[6,7],[6,7,8],[6,7,8,9],[],[11],[11,12],[11,12,13],aO 6 9 [],[],[16],[],[],[19],[18,19,20],[],[22],aO 6 18 [],aO 6 19 [],aO 1 25 [],aO 0 27 [],aO 0 28 [],aO 0 29 [],aO 0 30 []] [(0,_),(5,_),(6,_),(7,_)] e1 (by kernel_rfl) (au 0 (O.aA (.obj q))<|au 1 (O.aA (.obj q))<|au 2 (O.eX (.ptr q))<|au 3 (O.bk q (.ptr q) j_ q)<|au 4 (O.bk q (.ptr q) l5 q)<|au 5 (O.c9 (y:=.bm bE.z ⟨0,[2]⟩ s2.1.aq.aY.length) q (.ptr q) nv q q)<|au 6 (O.aA (.obj q))<|au 7 (O.eX (.ptr q))<|au 8 (O.bk q (.ptr q) wW q)<|au 9 (O.c9 (y:=.bm cr.z ⟨0,[7]⟩ s2.1.bD.length) q (.ptr q) yr q q)<|au 10 (O.o2 (.bm q) AL)<|au 11 (O.aA (.obj q))<|au 12 (O.eX (.ptr q))<|au 13 (O.bk q (.ptr q) yF q)<|au 14 (O.cB q (.ptr q) cz q)<|au 15 (O.add (.lit q) (.lit q))<|au 16 (O.bk q (.obj q) q8 q)<|au 17 (O.cB q (.ptr q) eZ q)<|au 18 (O.dF (ys:=[]) aL ([]:List Int) eI q q q q q q nm q q)<|au 19 (O.bk q (.obj q) mE q)<|au 20 (O.c9 (y:=.bm aL.z ⟨6,[1]⟩ s2.2.1.length) q (.ptr q) gX q q)<|au 21 (O.ap (en:=aL) (r:=dt) (.own q) q (.bm q) (.flat aL q) pt q iJ)<|au 22 (O.bk q (.obj q) BV q)<|au 23 (O.cB q (.ptr q) cz q)<|au 24 (O.eS (cs:=[j (aM ((s2.1.bD.length:Int)+(aM (s2.1.bB+1)))),.aJ,j (-1),af bl.Code,.bm aL.z ⟨57,[]⟩ (([]:List Int).length+s2.2.1.length),j bl.At]) Hf A0 q q q)<|au 25 (O.oK (ys:=[.agg [j (aM ((s2.1.bD.length:Int)+(aM (s2.1.bB+1)))),.aJ,j (-1),af bl.Code,.bm aL.z ⟨57,[]⟩ (([]:List Int).length+s2.2.1.length),j bl.At]]) (cs:=[j (aM ((s2.1.bD.length:Int)+(aM (s2.1.bB+1)))),.aJ,j (-1),af bl.Code,.bm aL.z ⟨57,[]⟩ (([]:List Int).length+s2.2.1.length),j bl.At]) nj q q q q q HL q q)<|au 26 (O.Nj (en:=bE) (M:=[(⟨aM ((s2.1.bD.length:Int)+(aM (s2.1.bB+1))),([]:List Int),(-1),bl.Code,([]:List Int)++s2.2.1,bl.At⟩:Prod)]) (r:=cn) (.bm q) q (.own q) q q q q Ig q lq (S' (by kernel_rfl) (by kernel_rfl)))<|au 27 (O.eX (.ptr q))<|au 28 (O.bk q (.ptr q) j_ q)<|au 29 (O.bk q (.ptr q) l5 q)<|bV.jI 30 (G2:=[(0,.obj [ak bo s2.1.aq.a',ak a8 s2.1.aq.bw,ak bE (s2.1.aq.aY++[(⟨aM ((s2.1.bD.length:Int)+(aM (s2.1.bB+1))),([]:List Int),(-1),bl.Code,([]:List Int)++s2.2.1,bl.At⟩:Prod)]),af s2.1.aq.bz,af s2.1.aq.bA,ak bF s2.1.b0,ak a8 s2.1.bW,ak cr s2.1.bD,j s2.1.ca,j s2.1.cb,af s2.1.b',j s2.1.bU,j (aM (s2.1.bB+1))]),(5,.obj (dY.cells a2)),(6,.obj [j (aM (1+aE)),ak aL s2.2.1,j (-1),af s2.2.2.1,.aJ,j s2.2.2.2.1]),(7,j s2.2.2.2.2)]) (cm.lW (g1:=_) (en:=bE) (M:=[(⟨aM ((s2.1.bD.length:Int)+(aM (s2.1.bB+1))),([]:List Int),(-1),bl.Code,([]:List Int)++s2.2.1,bl.At⟩:Prod)]) (cs2:=[ak bo s2.1.aq.a',ak a8 s2.1.aq.bw,ak bE (s2.1.aq.aY++[(⟨aM ((s2.1.bD.length:Int)+(aM (s2.1.bB+1))),([]:List Int),(-1),bl.Code,([]:List Int)++s2.2.1,bl.At⟩:Prod)]),af s2.1.aq.bz,af s2.1.aq.bA,ak bF s2.1.b0,ak a8 s2.1.bW,ak cr s2.1.bD,j s2.1.ca,j s2.1.cb,af s2.1.b',j s2.1.bU,j (aM (s2.1.bB+1))]) q q (.ptr q) (.b2 q) q q q (.f (.f (.f (.f (.mS q q q .lb (.f .nil)))))) (.f (.z (.f (.f (.z (hv:=kh.mS q q) (.f .nil)))))) q q Hp q q q q (.b q (.n q q (.n q q (.n q q .nil))))) q q q q (by kernel_rfl) (by kernel_rfl)<|bV.fin q q q (dA q q q q)) ?_
         refine ai.a_ ?_
         obtain ⟨b4,h8,h⟩:=aB h
         refine W.rd [[],[0],[],[2],[2,3],[2,3,4],[2,3,4,5],aO 2 5 [],[],[8],[8,9],[8,9,10],aO 2 10 [],aO 2 11 [],aO 0 14 [],aO 0 15 [],aO 0 16 []] [(0,_),(5,_),(6,_),(7,_)] e1 (by kernel_rfl) (au 0 (O.bk q (.obj q) mE q)<|au 1 (O.c9 (y:=.bm aL.z ⟨6,[1]⟩ s2.2.1.length) q (.ptr q) gX q q)<|au 2 (O.aA (.obj q))<|au 3 (O.eX (.ptr q))<|au 4 (O.bk q (.ptr q) wW q)<|au 5 (O.c9 (y:=.bm cr.z ⟨0,[7]⟩ s2.1.bD.length) q (.ptr q) yr q q)<|au 6 (O.o2 (.bm q) AL)<|au 7 (O.add (.k q) (.lit q))<|au 8 (O.aA (.obj q))<|au 9 (O.eX (.ptr q))<|au 10 (O.bk q (.ptr q) yF q)<|au 11 (O.cB q (.ptr q) cz q)<|au 12 (O.add (.lit q) (.lit q))<|bV.gq 13 (x:=aj aL [aM ((aM (1000+(s2.1.bD.length:Int)))+(aM (s2.1.bB+1)))]) (O.dF (ys:=[j (aM ((aM (1000+(s2.1.bD.length:Int)))+(aM (s2.1.bB+1))))]) aL [aM ((aM (1000+(s2.1.bD.length:Int)))+(aM (s2.1.bB+1)))] eI q q q q q q nm q q) q q q q .none<|au 14 (O.ap (en:=aL) (r:=b4) (.bm q) q (.aD q) .i pt q h8)<|au 15 (O.bk q (.obj q) mE q)<|bV.jI 16 (G2:=[(0,.obj [ak bo s2.1.aq.a',ak a8 s2.1.aq.bw,ak bE (s2.1.aq.aY++[(⟨aM ((s2.1.bD.length:Int)+(aM (s2.1.bB+1))),([]:List Int),(-1),bl.Code,([]:List Int)++s2.2.1,bl.At⟩:Prod)]),af s2.1.aq.bz,af s2.1.aq.bA,ak bF s2.1.b0,ak a8 s2.1.bW,ak cr s2.1.bD,j s2.1.ca,j s2.1.cb,af s2.1.b',j s2.1.bU,j (aM (s2.1.bB+1))]),(5,.obj (dY.cells a2)),(6,.obj [j (aM (1+aE)),ak aL (s2.2.1++[aM ((aM (1000+(s2.1.bD.length:Int)))+(aM (s2.1.bB+1)))]),j (-1),af s2.2.2.1,.aJ,j s2.2.2.2.1]),(7,j s2.2.2.2.2)]) (cm.lW (g1:=_) (en:=aL) (M:=[aM ((aM (1000+(s2.1.bD.length:Int)))+(aM (s2.1.bB+1)))]) (cs2:=[j (aM (1+aE)),ak aL (s2.2.1++[aM ((aM (1000+(s2.1.bD.length:Int)))+(aM (s2.1.bB+1)))]),j (-1),af s2.2.2.1,.aJ,j s2.2.2.2.1]) q q (.ptr q) (.b2 q) q q q .lb .gZ q q vU q q q q (.n q q (.n q q (.b q (.n q q .nil))))) q q q q (by kernel_rfl) (by kernel_rfl)<|bV.fin q q q (dA q q q q)) ?_
         obtain rfl:=ax h
         exact ai.bC (dA q q q q)
       obtain rfl:=ax h
       exact ai.bC (dA q q q q)
     refine ai.bq ?_
     obtain rfl:=ax h
     exact ai.bC (dA q q q q)
    refine ai.bq ?_
    obtain rfl:=ax h
    exact ai.bC (dA q q q q)
   refine ai.a_<|W.bp [0,5,6,7] (br q<|ah (O.add (.lit q) (.k q))<|ar.bp [0,5,6,23] q<|ar.aW) ?_
   obtain rfl:=ax h
   exact ai.go (dA q q q q)
  ·refine W.dd ?_
   refine ai.dc ?_
   obtain rfl:=ax h
   exact ai.aE (dB q q q)
 refine ai.de ?_
 refine ai.a_<|W.bb ?_
 refine W.aZ [0,5,6,9] ?_
 refine W.bq ?_
 obtain ⟨fL,ao,h⟩:=aB h
 refine W.cj (G1:=[(0,_),(5,_),(6,_),(9,_)]) (dA q q q q) ?_
 refine W.e0 (s:=((-1),0)) (λ(pT:Int × Int)=>[(0,.obj (dV.cells aX.1)),(5,.obj (dY.cells a2)),(6,.obj [j (aM (1+aE)),ak aL aX.2.1,j pT.1,af aX.2.2.1,.aJ,j aX.2.2.2]),(9,j pT.2)]) 3 (λ(fL:Int)=>[(0,.obj (dV.cells aX.1)),(5,.obj (dY.cells a2)),(6,.obj [j (aM (1+aE)),ak aL aX.2.1,j fL,af aX.2.2.1,.aJ,j aX.2.2.2])]) ao (λpT o h=>?_) ?_
 ·clear ao
  refine W.bb<|W.aZ [0,5,6,9,112] ?_
  refine W.bH h q (λjJ h=>?_) (λjJ h=>?_)
  ·refine W.bO<|ai.a_ ?_
   refine W.bb ?_
   obtain ⟨nF,aa,h⟩:=aB h
   refine W.bC [(0,.obj (dV.cells aX.1)),(5,.obj (dY.cells a2)),(6,.obj [j (aM (1+aE)),ak aL aX.2.1,j nF,af aX.2.2.1,.aJ,j aX.2.2.2]),(9,j pT.2)] ?_ ?_
   ·clear h; have h:=aa; clear aa
    refine W.bq ?_
    obtain ⟨eK,mH,h⟩:=aB h
    refine W.bM [0,5,6,9,120] (ah (O.bk q (.obj q) mE q)<|ah (O.c9 (y:=.bm aL.z ⟨6,[1]⟩ aX.2.1.length) q (.ptr q) gX q q)<|br q<|ah (O.gS (en:=aL) q (.bm q) (.lit q) eI mH q)<|ah (O.iZ (en:=aL) (x':=j eK) q (.ptr q) cz mH q q)<|ar.aW) ?_
    obtain ⟨zA,aa,h⟩:=aB h
    refine W.bC [(0,.obj (dV.cells aX.1)),(5,.obj (dY.cells a2)),(6,.obj [j (aM (1+aE)),ak aL aX.2.1,j zA,af aX.2.2.1,.aJ,j aX.2.2.2]),(9,j pT.2)] ?_ ?_
    ·clear h; have h:=aa; clear aa
     refine W.bH h q (λiS h=>?_) (λiS h=>?_)
     ·obtain ⟨ib,qq,h⟩:=aB h
      refine W.bp [0,5,6,9] (ah (O.bk q (.obj q) mE q)<|ah (O.c9 (y:=.bm aL.z ⟨6,[1]⟩ aX.2.1.length) q (.ptr q) gX q q)<|br q<|ah (O.gS (en:=aL) q (.bm q) (.lit q) eI qq q)<|ah (O.iZ (en:=aL) (x':=j ib) q (.ptr q) cz qq q q)<|ah (O.bk q (.obj q) yz q)<|ar.dI (G2:=[(0,_),(5,_),(6,_),(9,_)]) (cs2:=[j (aM (1+aE)),ak aL aX.2.1,j ib,af aX.2.2.1,.aJ,j aX.2.2.2]) q (.ptr q) (.lit q) q nk q q q q (.n q q (.n q q (.b q (.n q q .nil))))<|bR q) ?_
      obtain rfl:=ax h
      exact ai.bC (dA q q q q)
     ·refine W.bO ?_
      obtain rfl:=ax h
      exact ai.bC (dA q q q q)
    refine ai.bq ?_
    obtain rfl:=ax h
    exact ai.bC (dA q q q q)
   refine ai.a_<|W.bp [0,5,6,9] (br q<|ah (O.add (.lit q) (.k q))<|ar.bp [0,5,6,114] q<|ar.aW) ?_
   obtain rfl:=ax h
   exact ai.go (dA q q q q)
  ·refine W.dd ?_
   refine ai.dc ?_
   obtain rfl:=ax h
   exact ai.aE (dB q q q)
 refine ai.de ?_
 refine ai.a_<|W.bb ?_
 refine W.aZ [0,5,6,130] ?_
 obtain ⟨fr,aa,h⟩:=aB h
 refine W.bC [(0,.obj (dV.cells fr.1)),(6,.obj [j (aM (1+aE)),ak aL aX.2.1,j fr.2,af aX.2.2.1,.aJ,j aX.2.2.2])] ?_ ?_
 ·clear h; have h:=aa; clear aa
  refine W.bH h q (λer h=>?_) (λer h=>?_)
  ·refine W.bM [0,5,6] (ah (O.bk q (.obj q) yz q)<|ar.dI (G2:=[(0,_),(5,_),(6,_)]) (cs2:=[j (aM (1+aE)),ak aL aX.2.1,j (-1),af aX.2.2.1,.aJ,j aX.2.2.2]) q (.ptr q) (.k q) q nk q q q q (.n q q (.n q q (.b q .nil)))<|bR q) ?_
   obtain ⟨rS,aa,h⟩:=aB h
   refine W.rs [(0,.obj (dV.cells aX.1)),(5,.obj (dY.cells a2)),(6,.obj [j (aM (1+aE)),ak aL aX.2.1,j (-1),af aX.2.2.1,.aJ,j aX.2.2.2]),(142,ba rS)] ?_ ?_
   ·refine ah (O.bk q (.obj q) ta q)<|ah (O.bk q (.ptr q) uT q)<|ah (O.cB q (.ptr q) nu q)<|ah (O.aA (.lit q)) ?_
    rcases cI aa with ⟨tl,aa⟩ | ⟨tl,aa⟩
    ·obtain rfl:=ax aa
     exact ar.aW
    ·refine a1 tl (O.aA (.obj q))<|a1 tl (O.bk q (.obj q) ta q)<|a1 tl (O.bk q (.ptr q) km q)<|a1 tl (O.cB q (.ptr q) eZ q) ?_
     obtain ⟨ha,mJ,aa⟩:=aB aa
     obtain rfl:=ax aa
     exact ar.c (cu.vw (ys:=[.ptr ⟨0,[]⟩ 0,af a2.Prec.Name]) q (.c (View.om q q) (.s .nil)) (wO aX.1 a2.Prec.Name _ mJ) call96 q) q q (.jS q q tl)<|ar.aW
   obtain ⟨oe,aa,h⟩:=aB h
   refine W.bC [(0,.obj (dV.cells oe.1)),(6,.obj [j (aM (1+aE)),ak aL aX.2.1,j oe.2,af aX.2.2.1,.aJ,j aX.2.2.2])] ?_ ?_
   ·clear h; have h:=aa; clear aa
    refine W.bH h q (λkp h=>?_) (λkp h=>?_)
    ·obtain ⟨gK,oX,h⟩:=aB h
     refine W.bp [0,6] (ah (O.aA (.obj q))<|ah (O.bk q (.obj q) ta q)<|ah (O.dT (cs':=[af a2.Prec.Name,ba a2.Prec.Lit,j a2.Prec.c0,j a2.Prec.At]) q (.ptr q) k1 q q)<|ar.hs q (cm.call q q (hQ.nf (G2:=[(6,.obj [j (aM (1+aE)),ak aL aX.2.1,j (-1),af aX.2.2.1,.aJ,j aX.2.2.2])]) (A:=[]) (ys:=[.ptr ⟨0,[]⟩ 0,.agg (dq.cells a2.Prec)]) (args:=[.obj (dV.cells aX.1),.agg (dq.cells a2.Prec)]) (cs':=[ak bo gK.2.aq.a',ak a8 gK.2.aq.bw,ak bE gK.2.aq.aY,af gK.2.aq.bz,af gK.2.aq.bA,ak bF gK.2.b0,ak a8 gK.2.bW,ak cr gK.2.bD,j gK.2.ca,j gK.2.cb,af gK.2.b',j gK.2.bU,j gK.2.bB]) (k0:=0) q q q q (.b q (.n q .nil)) q (IV aX.1 a2.Prec _ oX) call115 (.n q .nil) q q (.n q .nil) .nil q))<|ah (O.bk q (.obj q) yz q)<|ar.dI (G2:=[(0,_),(6,_)]) (cs2:=[j (aM (1+aE)),ak aL aX.2.1,j gK.1,af aX.2.2.1,.aJ,j aX.2.2.2]) q (.ptr q) (.lit q) q nk q q q q (.n q q (.b q .nil))<|bR q) ?_
     obtain rfl:=ax h
     exact ai.bC (fe q q)
    ·obtain ⟨gL,u',h⟩:=aB h
     refine W.bp [0,6] (ah (O.aA (.obj q))<|ah (O.bk q (.obj q) ta q)<|ah (O.bk q (.ptr q) q7 q)<|ah (O.cB q (.ptr q) cz q)<|ah (O.bk q (.obj q) ta q)<|ah (O.bk q (.ptr q) km q)<|ah (O.cB q (.ptr q) eZ q)<|ar.hs q (cm.call q q (hQ.nf (G2:=[(6,.obj [j (aM (1+aE)),ak aL aX.2.1,j (-1),af aX.2.2.1,.aJ,j aX.2.2.2])]) (A:=[]) (ys:=[.ptr ⟨0,[]⟩ 0,j a2.Prec.At,af a2.Prec.Name]) (args:=[.obj (dV.cells aX.1),j a2.Prec.At,af a2.Prec.Name]) (cs':=[ak bo gL.aq.a',ak a8 gL.aq.bw,ak bE gL.aq.aY,af gL.aq.bz,af gL.aq.bA,ak bF gL.b0,ak a8 gL.bW,ak cr gL.bD,j gL.ca,j gL.cb,af gL.b',j gL.bU,j gL.bB]) (k0:=0) q q q q (.b q (.n q (.n q .nil))) q (uF aX.1 a2.Prec.At a2.Prec.Name _ u') call94 (.n q .nil) q q (.n q .nil) .nil q))<|bR q) ?_
     obtain rfl:=ax h
     exact ai.bC (fe q q)
   obtain rfl:=ax h
   exact ai.bC (fe q q)
  ·refine W.bO ?_
   obtain rfl:=ax h
   exact ai.bC (fe q q)
 refine ai.a_ ?_
 obtain ⟨iD,qs,h⟩:=aB h
 refine W.bM [0,6] (ah (O.dF (ys:=[]) aL ([]:List Int) eI q q q q q q nm q q)<|ah (O.bk q (.obj q) mE q)<|ah (O.c9 (y:=.bm aL.z ⟨6,[1]⟩ aX.2.1.length) q (.ptr q) gX q q)<|ah (O.ap (en:=aL) (r:=iD) (.own q) q (.bm q) (.flat aL q) pt q qs)<|ah (O.bk q (.obj q) Jm q)<|ar.hs (G2:=[(0,.obj (dV.cells fr.1)),(6,.obj [j (aM (1+aE)),ak aL aX.2.1,j fr.2,af aX.2.2.1,ak aL (([]:List Int)++aX.2.1),j aX.2.2.2])]) q (cm.lW (g1:=_) (en:=aL) (M:=aX.2.1) (cs2:=[j (aM (1+aE)),ak aL aX.2.1,j fr.2,af aX.2.2.1,ak aL (([]:List Int)++aX.2.1),j aX.2.2.2]) q q (.ptr q) (.b2 q) q q q .lb .gZ q q vU q q q q (.n q q (.b q .nil)))<|bR q) ?_
 refine W.fE (G1:=[(0,_),(6,.obj [j (aM (1+aE)),aj aL aX.2.1,j fr.2,af aX.2.2.1,ak aL (([]:List Int)++aX.2.1),j aX.2.2.2])]) [6] (.n q q (.z q q (gu.obj (.f (.z (.f (.f (.f (.f .nil))))))) .nil)) ?_
 refine W.fE (G1:=[(0,_),(6,.obj [j (aM (1+aE)),aj aL aX.2.1,j fr.2,af aX.2.2.1,aj aL (([]:List Int)++aX.2.1),j aX.2.2.2])]) [6] (.n q q (.z q q (gu.obj (.f (.f (.f (.f (.z (.f .nil))))))) .nil)) ?_
 obtain ⟨j3,mh,h⟩:=aB h
 refine W.rd [[],[],[1],[1,2],[1,2,3],[1,2,3,4],[],[6],aO 1 7 [],aO 0 9 [],aO 0 10 [],aO 0 11 [],aO 0 12 []] [(0,_)] e1 (by kernel_rfl) (au 0 (O.aA (.obj q))<|au 1 (O.aA (.obj q))<|au 2 (O.eX (.ptr q))<|au 3 (O.bk q (.ptr q) j_ q)<|au 4 (O.bk q (.ptr q) l5 q)<|au 5 (O.c9 (y:=.bm bE.z ⟨0,[2]⟩ fr.1.aq.aY.length) q (.ptr q) nv q q)<|au 6 (O.dT (cs':=[j (aM (1+aE)),aj aL aX.2.1,j fr.2,af aX.2.2.1,aj aL (([]:List Int)++aX.2.1),j aX.2.2.2]) q (.obj q) Iq q q)<|bV.gq 7 (x:=aj bE [(⟨aM (1+aE),aX.2.1,fr.2,aX.2.2.1,([]:List Int)++aX.2.1,aX.2.2.2⟩:Prod)]) (O.dF (ys:=[.agg [j (aM (1+aE)),aj aL aX.2.1,j fr.2,af aX.2.2.1,aj aL (([]:List Int)++aX.2.1),j aX.2.2.2]]) bE [(⟨aM (1+aE),aX.2.1,fr.2,aX.2.2.1,([]:List Int)++aX.2.1,aX.2.2.2⟩:Prod)] nj q q q q q q HL q q) q q q q .none<|au 8 (O.ap (en:=bE) (r:=j3) (.bm q) q (.aD q) .i Ig q mh)<|au 9 (O.eX (.ptr q))<|au 10 (O.bk q (.ptr q) j_ q)<|au 11 (O.bk q (.ptr q) l5 q)<|bV.jI 12 (G2:=[(0,.obj [ak bo fr.1.aq.a',ak a8 fr.1.aq.bw,ak bE (fr.1.aq.aY++[(⟨aM (1+aE),aX.2.1,fr.2,aX.2.2.1,([]:List Int)++aX.2.1,aX.2.2.2⟩:Prod)]),af fr.1.aq.bz,af fr.1.aq.bA,ak bF fr.1.b0,ak a8 fr.1.bW,ak cr fr.1.bD,j fr.1.ca,j fr.1.cb,af fr.1.b',j fr.1.bU,j fr.1.bB])]) (cm.lW (g1:=_) (en:=bE) (M:=[(⟨aM (1+aE),aX.2.1,fr.2,aX.2.2.1,([]:List Int)++aX.2.1,aX.2.2.2⟩:Prod)]) (cs2:=[ak bo fr.1.aq.a',ak a8 fr.1.aq.bw,ak bE (fr.1.aq.aY++[(⟨aM (1+aE),aX.2.1,fr.2,aX.2.2.1,([]:List Int)++aX.2.1,aX.2.2.2⟩:Prod)]),af fr.1.aq.bz,af fr.1.aq.bA,ak bF fr.1.b0,ak a8 fr.1.bW,ak cr fr.1.bD,j fr.1.ca,j fr.1.cb,af fr.1.b',j fr.1.bU,j fr.1.bB]) q q (.ptr q) (.b2 q) q q q .lb .gZ q q Hp q q q q (.b q .nil)) q q q q (by kernel_rfl) (by kernel_rfl)<|bV.fin q q q (.n q .nil)) ?_
 obtain rfl:=ax h
 exact ai.fin (Fin.ro .nil q (oi (by kernel_rfl)) (.az q q (.no (.no .nil))) q (.inl q))
theorem O5 (a0:Int) (r:ByteArray) (h:AD a0=some r):b_ Try.prog 99 [j a0] [none] (af r):=by
 unfold AD at h
 refine b_.go (N:=⟨32,[]⟩) Try.func99 q q q q (W.fin ?_)
 refine W.st [(0,j a0)] ?_
 refine W.aZ [0] ?_
 refine W.bM [0,3] (br q<|ah (O.s9 (.lit q) vi K9)<|ar.aW) ?_
 refine W.bb<|W.aZ [0,3,8] ?_
 obtain ⟨h0,aa,h⟩:=aB h
 refine W.bC [(0,j a0),(3,.lit (.int .u64 h0))] ?_ ?_
 ·clear h; have h:=aa; clear aa
  refine W.bH h q (λcX h=>?_) (λcX h=>?_)
  ·refine W.bp [0,3] (br q<|ah (O.neg (.lit q))<|ar.bp [0,10] q<|ar.aW) ?_
   obtain rfl:=ax h
   exact ai.bC (fe q q)
  ·refine W.bO ?_
   obtain rfl:=ax h
   exact ai.bC (fe q q)
 refine ai.a_<|W.aZ [0,3,4] ?_
 refine W.bb<|W.bq ?_
 obtain ⟨bN,ao,h⟩:=aB h
 refine W.cj (G1:=[(0,_),(3,_),(4,_)]) (dB q q q) ?_
 refine W.e0 (s:=(h0,aC)) (λ(dX:Int × ByteArray)=>[(0,j a0),(3,.lit (.int .u64 dX.1)),(4,af dX.2)]) 0 (λ(bN:ByteArray)=>[(0,j a0),(4,af bN)]) ao (λdX o h=>?_) ?_
 ·clear ao
  refine W.bb ?_
  obtain ⟨p7,aa,h⟩:=aB h
  refine W.rs [(0,j a0),(3,.lit (.int .u64 dX.1)),(4,af dX.2),(16,ba p7)] ?_ ?_
  ·refine br q<|ah (O.gtr (.lit q) (.k q))<|ah (O.aA (.lit q)) ?_
   rcases cI aa with ⟨dN,aa⟩ | ⟨dN,aa⟩
   ·obtain rfl:=ax aa
    exact ar.aW
   ·obtain rfl:=ax aa
    exact ar.aW
  refine W.bH h q (λcR h=>?_) (λcR h=>?_)
  ·refine W.bO<|ai.a_ ?_
   refine W.bq ?_
   obtain ⟨ct,iV,h⟩:=aB h
   obtain ⟨bQ,jk,h⟩:=aB h
   refine W.bM [0,3,4] (br q<|ah (O.sA (.lit q) (.k q) iV)<|ah (O.add (.k q) (.lit q))<|ah (O.s9 (.lit q) K9 CA)<|ar.gq (x:=aj nw [g_ (IntKind.u64.wrap (48+ct))]) (O.dF (ys:=[lE (g_ (IntKind.u64.wrap (48+ct)))]) nw [g_ (IntKind.u64.wrap (48+ct))] Da q q q q q q HN q q) q q .none<|ah (O.Eg (.aD q) DS)<|br q<|ah (O.cat (.lit q) (.lit q) jk)<|ar.bp [0,3,24] q<|ar.aW) ?_
   obtain ⟨cp,il,h⟩:=aB h
   refine W.bp [0,3,4] (br q<|ah (O.sx (.lit q) (.k q) il)<|ar.bp [0,4,26] q<|ar.aW) ?_
   refine ai.bq ?_
   obtain rfl:=ax h
   exact ai.go (dB q q q)
  ·refine W.dd ?_
   refine ai.dc ?_
   obtain rfl:=ax h
   exact ai.aE (fe q q)
 refine ai.de ?_
 refine ai.a_<|W.bb ?_
 refine W.aZ [4,28] ?_
 refine W.bH h q (λew h=>?_) (λew h=>?_)
 ·obtain ⟨dR,jE,h⟩:=aB h
  refine W.bM [2] (br q<|ah (O.cat (.k q) (.lit q) jE)<|ar.aW) ?_
  refine W.rt ?_
  refine ai.c_ ?_
  obtain rfl:=ax h
  exact cA (.f q q .nil)
 ·refine W.bO<|ai.a_ ?_
  refine W.aZ [2] ?_
  refine W.rt ?_
  obtain rfl:=ax h
  exact cA (.f q q .nil)
theorem OU (a0:Source) (r:bZ × Int × Int × ByteArray) (h:Ar a0=some r):b_ Try.prog 78 [.agg (dU.cells a0)] [none] (.cw [.agg (ch.cells r.1),j r.2.1,j r.2.2.1,af r.2.2.2]):=by
 unfold Ar at h
 refine b_.go (N:=⟨435,[]⟩) Try.func78 q q q q (W.fin ?_)
 refine W.st [(0,.agg (dU.cells a0))] ?_
 refine W.bM [1,2] (ah (O.box (.cg q q) q)<|ah (O.fD (cs:=[.aJ,.aJ,.aJ,af aC,af aC]) pe q q)<|ar.aW) ?_
 refine W.bb ?_
 obtain ⟨aE,fp,h⟩:=aB h
 refine W.bM [1,2,28] (ah (O.dT (cs':=[af a0.bz,aj cM a0.Decls,aj gN a0.ea,af a0.bA]) q (.obj q) qV q q)<|dL (cu.go (.bX (.cg q q) .nil) (O2 a0 _ fp) call92 q)<|ar.aW) ?_
 refine W.bH h q (λcX h=>?_) (λcX h=>?_)
 ·refine W.bM [2,3,4,5] (ah (O.eS (cs:=[.aJ,.aJ,.aJ,af aC,af aC]) Hg pe q q q)<|ar.dI (G2:=[(2,_)]) (cs2:=[.aJ,.aJ,.aJ,af aC,af aC]) q (.obj q) (.cg q q) q nL q q q q (.b q .nil)<|ar.aW) ?_
  refine W.fE (G1:=[(2,.obj [aj bo ([]:List bJ),aj a8 ([]:List eW),aj bE ([]:List Prod),af aC,af aC]),(3,_),(4,_),(5,_)]) [2] (.z q q (gu.obj (.z (.z (.z (.f (.f .nil)))))) (.n q q (.n q q (.n q q .nil)))) ?_
  refine W.rt ?_
  refine ai.c_ ?_
  obtain rfl:=ax h
  exact cA (.c (ys0:=[aj bo ([]:List bJ),aj a8 ([]:List eW),aj bE ([]:List Prod),af aC,af aC]) q gg q q q (.f q (.f q (.f q (.f q (.f q .nil))))) (.f q q (.f q q (.f q q .nil))))
 ·refine W.bO<|ai.a_ ?_
  obtain ⟨aX,hL,h⟩:=aB h
  refine W.bM [1,2,6] (ah (O.mk (en:=bF) (z0:=false) oo (.k q) (.k q) HH q q hL DQ q)<|ah (O.eS (cs:=[.aJ,.aJ,.aJ,af aC,af aC,.bm bF.z ⟨30,[]⟩ aX.length,.aJ,.aJ,j 0,j 0,af aC,j 0,j 0]) TR UL q q q)<|ah (O.box (.cg q q) q)<|ar.gI (G2:=[(1,.obj (dU.cells a0)),(2,.obj [.aJ,.aJ,.aJ,af aC,af aC])]) q (cm.Bj (y':=.obj [.aJ,.aJ,.aJ,af aC,af aC,ak bF aX,.aJ,.aJ,j 0,j 0,af aC,j 0,j 0]) q q (.obj q) (.b q (.f (.f (.f (.f (.f (.r q (.f (.f (.f (.f (.f (.f (.f .nil))))))))))))) .nil) .refl (fe q q) q q)<|bR q) ?_
  refine W.bM [1,2,6] (ah (O.aA (.obj q))<|ah (O.eS (cs:=[af ({ data:=#[36,101,110,100] }),ba false,j 0,j 0,j 0,af aC]) C_ A2 q q q)<|ah (O.eS (cs:=[af ({ data:=#[101,114,114,111,114] }),ba false,j (-1),j 0,j 0,af aC]) C_ A2 q q q)<|ah (O.eS (cs:=[af ({ data:=#[36,117,110,107] }),ba false,j (-1),j 0,j 0,af aC]) C_ A2 q q q)<|ah (O.dF (ys:=[.agg [af ({ data:=#[36,101,110,100] }),ba false,j 0,j 0,j 0,af aC],.agg [af ({ data:=#[101,114,114,111,114] }),ba false,j (-1),j 0,j 0,af aC],.agg [af ({ data:=#[36,117,110,107] }),ba false,j (-1),j 0,j 0,af aC]]) bo [(⟨{ data:=#[36,101,110,100] },false,0,0,0,aC⟩:bJ),(⟨{ data:=#[101,114,114,111,114] },false,(-1),0,0,aC⟩:bJ),(⟨{ data:=#[36,117,110,107] },false,(-1),0,0,aC⟩:bJ)] qD q q q q q q ML q q)<|ah (O.eX (.ptr q))<|ah (O.bk q (.ptr q) j_ q)<|ah (O.bk q (.ptr q) pz q)<|ar.hs (G2:=[(1,.obj (dU.cells a0)),(2,.obj [.aJ,.aJ,.aJ,af aC,af aC]),(6,.obj [ak bo [(⟨{ data:=#[36,101,110,100] },false,0,0,0,aC⟩:bJ),(⟨{ data:=#[101,114,114,111,114] },false,(-1),0,0,aC⟩:bJ),(⟨{ data:=#[36,117,110,107] },false,(-1),0,0,aC⟩:bJ)],.aJ,.aJ,af aC,af aC,ak bF aX,.aJ,.aJ,j 0,j 0,af aC,j 0,j 0])]) q (cm.sK (y':=ak bo [(⟨{ data:=#[36,101,110,100] },false,0,0,0,aC⟩:bJ),(⟨{ data:=#[101,114,114,111,114] },false,(-1),0,0,aC⟩:bJ),(⟨{ data:=#[36,117,110,107] },false,(-1),0,0,aC⟩:bJ)]) (cs2:=[ak bo [(⟨{ data:=#[36,101,110,100] },false,0,0,0,aC⟩:bJ),(⟨{ data:=#[101,114,114,111,114] },false,(-1),0,0,aC⟩:bJ),(⟨{ data:=#[36,117,110,107] },false,(-1),0,0,aC⟩:bJ)],.aJ,.aJ,af aC,af aC,ak bF aX,.aJ,.aJ,j 0,j 0,af aC,j 0,j 0]) q q (.ptr q) (.own q) (.r q .nil) .refl q Mn q q q q q (.n q q (.n q q (.b q .nil))))<|bR q) ?_
  refine W.aZ [1,2,6,7] ?_
  refine W.bb<|W.aZ [1,2,6,7,8] ?_
  refine W.bq ?_
  obtain ⟨ck,ao,h⟩:=aB h
  refine W.cj (G1:=[(1,_),(2,_),(6,.obj [ak bo (((⟨(⟨[(⟨{ data:=#[36,101,110,100] },false,0,0,0,aC⟩:bJ),(⟨{ data:=#[101,114,114,111,114] },false,(-1),0,0,aC⟩:bJ),(⟨{ data:=#[36,117,110,107] },false,(-1),0,0,aC⟩:bJ)],[],[],aC,aC⟩:bZ),aX,[],[],0,0,aC,0,0⟩:cN).aq).a'),ak a8 (((⟨(⟨[(⟨{ data:=#[36,101,110,100] },false,0,0,0,aC⟩:bJ),(⟨{ data:=#[101,114,114,111,114] },false,(-1),0,0,aC⟩:bJ),(⟨{ data:=#[36,117,110,107] },false,(-1),0,0,aC⟩:bJ)],[],[],aC,aC⟩:bZ),aX,[],[],0,0,aC,0,0⟩:cN).aq).bw),ak bE (((⟨(⟨[(⟨{ data:=#[36,101,110,100] },false,0,0,0,aC⟩:bJ),(⟨{ data:=#[101,114,114,111,114] },false,(-1),0,0,aC⟩:bJ),(⟨{ data:=#[36,117,110,107] },false,(-1),0,0,aC⟩:bJ)],[],[],aC,aC⟩:bZ),aX,[],[],0,0,aC,0,0⟩:cN).aq).aY),af (((⟨(⟨[(⟨{ data:=#[36,101,110,100] },false,0,0,0,aC⟩:bJ),(⟨{ data:=#[101,114,114,111,114] },false,(-1),0,0,aC⟩:bJ),(⟨{ data:=#[36,117,110,107] },false,(-1),0,0,aC⟩:bJ)],[],[],aC,aC⟩:bZ),aX,[],[],0,0,aC,0,0⟩:cN).aq).bz),af (((⟨(⟨[(⟨{ data:=#[36,101,110,100] },false,0,0,0,aC⟩:bJ),(⟨{ data:=#[101,114,114,111,114] },false,(-1),0,0,aC⟩:bJ),(⟨{ data:=#[36,117,110,107] },false,(-1),0,0,aC⟩:bJ)],[],[],aC,aC⟩:bZ),aX,[],[],0,0,aC,0,0⟩:cN).aq).bA),ak bF ((⟨(⟨[(⟨{ data:=#[36,101,110,100] },false,0,0,0,aC⟩:bJ),(⟨{ data:=#[101,114,114,111,114] },false,(-1),0,0,aC⟩:bJ),(⟨{ data:=#[36,117,110,107] },false,(-1),0,0,aC⟩:bJ)],[],[],aC,aC⟩:bZ),aX,[],[],0,0,aC,0,0⟩:cN).b0),ak a8 ((⟨(⟨[(⟨{ data:=#[36,101,110,100] },false,0,0,0,aC⟩:bJ),(⟨{ data:=#[101,114,114,111,114] },false,(-1),0,0,aC⟩:bJ),(⟨{ data:=#[36,117,110,107] },false,(-1),0,0,aC⟩:bJ)],[],[],aC,aC⟩:bZ),aX,[],[],0,0,aC,0,0⟩:cN).bW),ak cr ((⟨(⟨[(⟨{ data:=#[36,101,110,100] },false,0,0,0,aC⟩:bJ),(⟨{ data:=#[101,114,114,111,114] },false,(-1),0,0,aC⟩:bJ),(⟨{ data:=#[36,117,110,107] },false,(-1),0,0,aC⟩:bJ)],[],[],aC,aC⟩:bZ),aX,[],[],0,0,aC,0,0⟩:cN).bD),j ((⟨(⟨[(⟨{ data:=#[36,101,110,100] },false,0,0,0,aC⟩:bJ),(⟨{ data:=#[101,114,114,111,114] },false,(-1),0,0,aC⟩:bJ),(⟨{ data:=#[36,117,110,107] },false,(-1),0,0,aC⟩:bJ)],[],[],aC,aC⟩:bZ),aX,[],[],0,0,aC,0,0⟩:cN).ca),j ((⟨(⟨[(⟨{ data:=#[36,101,110,100] },false,0,0,0,aC⟩:bJ),(⟨{ data:=#[101,114,114,111,114] },false,(-1),0,0,aC⟩:bJ),(⟨{ data:=#[36,117,110,107] },false,(-1),0,0,aC⟩:bJ)],[],[],aC,aC⟩:bZ),aX,[],[],0,0,aC,0,0⟩:cN).cb),af ((⟨(⟨[(⟨{ data:=#[36,101,110,100] },false,0,0,0,aC⟩:bJ),(⟨{ data:=#[101,114,114,111,114] },false,(-1),0,0,aC⟩:bJ),(⟨{ data:=#[36,117,110,107] },false,(-1),0,0,aC⟩:bJ)],[],[],aC,aC⟩:bZ),aX,[],[],0,0,aC,0,0⟩:cN).b'),j ((⟨(⟨[(⟨{ data:=#[36,101,110,100] },false,0,0,0,aC⟩:bJ),(⟨{ data:=#[101,114,114,111,114] },false,(-1),0,0,aC⟩:bJ),(⟨{ data:=#[36,117,110,107] },false,(-1),0,0,aC⟩:bJ)],[],[],aC,aC⟩:bZ),aX,[],[],0,0,aC,0,0⟩:cN).bU),j ((⟨(⟨[(⟨{ data:=#[36,101,110,100] },false,0,0,0,aC⟩:bJ),(⟨{ data:=#[101,114,114,111,114] },false,(-1),0,0,aC⟩:bJ),(⟨{ data:=#[36,117,110,107] },false,(-1),0,0,aC⟩:bJ)],[],[],aC,aC⟩:bZ),aX,[],[],0,0,aC,0,0⟩:cN).bB)]),(7,_),(8,_)]) (.n q (.n q (.w q q (kZ.obj (.f (.o (.o (.f (.f (.f (.o (.o (.f (.f (.f (.f (.f .nil)))))))))))))) (fe q q)))) ?_
  refine W.e0 (s:=((⟨(⟨[(⟨{ data:=#[36,101,110,100] },false,0,0,0,aC⟩:bJ),(⟨{ data:=#[101,114,114,111,114] },false,(-1),0,0,aC⟩:bJ),(⟨{ data:=#[36,117,110,107] },false,(-1),0,0,aC⟩:bJ)],[],[],aC,aC⟩:bZ),aX,[],[],0,0,aC,0,0⟩:cN),aC,0)) (λ(bK:cN × ByteArray × Int)=>[(1,.obj (dU.cells a0)),(2,.obj [.aJ,.aJ,.aJ,af aC,af aC]),(6,.obj (dV.cells bK.1)),(7,af bK.2.1),(8,j bK.2.2)]) 0 (λ(ck:cN × ByteArray)=>[(1,.obj (dU.cells a0)),(2,.obj [.aJ,.aJ,.aJ,af aC,af aC]),(6,.obj (dV.cells ck.1)),(7,af ck.2)]) ao (λbK o h=>?_) ?_
  ·clear ao
   refine W.bb<|W.aZ [1,2,6,7,8,45] ?_
   refine W.bH h q (λcU h=>?_) (λcU h=>?_)
   ·refine W.bO<|ai.a_ ?_
    refine W.bb<|W.bq ?_
    obtain ⟨bT,im,h⟩:=aB h
    refine W.bM [1,2,6,7,8,9] (ah (O.bk q (.obj q) s' q)<|ah (O.c9 (y:=aj cM a0.Decls) q (.ptr q) wQ q q)<|br q<|ah (O.cE (.aD q) (.lit q) sG im)<|ah (O.jn (cs':=[j bT.Kind,af bT.Tag,aj dq bT.fc,j bT.At]) (.bn q) DL q q)<|ah (O.fD (cs:=[j 0,af aC,.aJ,j 0]) HF q q)<|ar.dI (G2:=[(1,_),(2,_),(6,_),(7,_),(8,_),(9,_)]) (cs2:=[j bT.Kind,af bT.Tag,aj dq bT.fc,j bT.At]) q (.obj q) (.cg q q) q T_ q q q q (.n q q (.n q q (.n q q (.n q q (.n q q (.b q .nil))))))<|bR q) ?_
    refine W.bb ?_
    obtain ⟨je,aa,h⟩:=aB h
    refine W.rs [(1,.obj (dU.cells a0)),(2,.obj [.aJ,.aJ,.aJ,af aC,af aC]),(6,.obj (dV.cells bK.1)),(7,af bK.2.1),(8,j bK.2.2),(9,.obj (cM.cells bT)),(60,ba je)] ?_ ?_
    ·refine ah (O.bk q (.obj q) oN q)<|ah (O.cB q (.ptr q) cz q)<|ah (O.geq (.lit q) (.k q))<|ah (O.aA (.lit q)) ?_
     rcases cI aa with ⟨ey,aa⟩ | ⟨ey,aa⟩
     ·obtain rfl:=ax aa
      exact ar.aW
     ·obtain rfl:=ax aa
      exact ar.aW
    obtain ⟨gT,aa,h⟩:=aB h
    refine W.bC [(1,.obj (dU.cells a0)),(2,.obj [.aJ,.aJ,.aJ,af aC,af aC]),(6,.obj [ak bo bK.1.aq.a',ak a8 bK.1.aq.bw,ak bE bK.1.aq.aY,af bK.1.aq.bz,af bK.1.aq.bA,ak bF bK.1.b0,ak a8 bK.1.bW,ak cr bK.1.bD,j bK.1.ca,j bK.1.cb,af bK.1.b',j gT,j bK.1.bB]),(7,af bK.2.1),(8,j bK.2.2),(9,.obj (cM.cells bT))] ?_ ?_
    ·clear h; have h:=aa; clear aa
     refine W.bH h q (λew h=>?_) (λew h=>?_)
     ·refine W.bp [1,2,6,7,8,9] (ah (O.aA (.obj q))<|ah (O.eX (.ptr q))<|ah (O.bk q (.ptr q) BR q)<|ah (O.cB q (.ptr q) cz q)<|ah (O.add (.lit q) (.k q))<|ah (O.eX (.ptr q))<|ah (O.bk q (.ptr q) BR q)<|ar.dI (G2:=[(1,_),(2,_),(6,_),(7,_),(8,_),(9,_)]) (cs2:=[ak bo bK.1.aq.a',ak a8 bK.1.aq.bw,ak bE bK.1.aq.aY,af bK.1.aq.bz,af bK.1.aq.bA,ak bF bK.1.b0,ak a8 bK.1.bW,ak cr bK.1.bD,j bK.1.ca,j bK.1.cb,af bK.1.b',j (aM (bK.1.bU+1)),j bK.1.bB]) q (.ptr q) (.lit q) q nk q q q q (.n q q (.n q q (.b q (.n q q (.n q q (.n q q .nil))))))<|bR q) ?_
      obtain rfl:=ax h
      exact ai.bC (fC q q q q q q)
     ·refine W.bO ?_
      obtain rfl:=ax h
      exact ai.bC (fC q q q q q q)
    refine ai.a_<|W.aZ [1,2,6,7,8,9,10] ?_
    refine W.bq ?_
    obtain ⟨d',ao,h⟩:=aB h
    refine W.cj (G1:=[(1,_),(2,_),(6,.obj [ak bo (((⟨bK.1.aq,bK.1.b0,bK.1.bW,bK.1.bD,bK.1.ca,bK.1.cb,bK.1.b',gT,bK.1.bB⟩:cN).aq).a'),ak a8 (((⟨bK.1.aq,bK.1.b0,bK.1.bW,bK.1.bD,bK.1.ca,bK.1.cb,bK.1.b',gT,bK.1.bB⟩:cN).aq).bw),ak bE (((⟨bK.1.aq,bK.1.b0,bK.1.bW,bK.1.bD,bK.1.ca,bK.1.cb,bK.1.b',gT,bK.1.bB⟩:cN).aq).aY),af (((⟨bK.1.aq,bK.1.b0,bK.1.bW,bK.1.bD,bK.1.ca,bK.1.cb,bK.1.b',gT,bK.1.bB⟩:cN).aq).bz),af (((⟨bK.1.aq,bK.1.b0,bK.1.bW,bK.1.bD,bK.1.ca,bK.1.cb,bK.1.b',gT,bK.1.bB⟩:cN).aq).bA),ak bF ((⟨bK.1.aq,bK.1.b0,bK.1.bW,bK.1.bD,bK.1.ca,bK.1.cb,bK.1.b',gT,bK.1.bB⟩:cN).b0),ak a8 ((⟨bK.1.aq,bK.1.b0,bK.1.bW,bK.1.bD,bK.1.ca,bK.1.cb,bK.1.b',gT,bK.1.bB⟩:cN).bW),ak cr ((⟨bK.1.aq,bK.1.b0,bK.1.bW,bK.1.bD,bK.1.ca,bK.1.cb,bK.1.b',gT,bK.1.bB⟩:cN).bD),j ((⟨bK.1.aq,bK.1.b0,bK.1.bW,bK.1.bD,bK.1.ca,bK.1.cb,bK.1.b',gT,bK.1.bB⟩:cN).ca),j ((⟨bK.1.aq,bK.1.b0,bK.1.bW,bK.1.bD,bK.1.ca,bK.1.cb,bK.1.b',gT,bK.1.bB⟩:cN).cb),af ((⟨bK.1.aq,bK.1.b0,bK.1.bW,bK.1.bD,bK.1.ca,bK.1.cb,bK.1.b',gT,bK.1.bB⟩:cN).b'),j ((⟨bK.1.aq,bK.1.b0,bK.1.bW,bK.1.bD,bK.1.ca,bK.1.cb,bK.1.b',gT,bK.1.bB⟩:cN).bU),j ((⟨bK.1.aq,bK.1.b0,bK.1.bW,bK.1.bD,bK.1.ca,bK.1.cb,bK.1.b',gT,bK.1.bB⟩:cN).bB)]),(7,_),(8,_),(9,_),(10,_)]) (hg q q q q q q q) ?_
    refine W.e0 (s:=((⟨bK.1.aq,bK.1.b0,bK.1.bW,bK.1.bD,bK.1.ca,bK.1.cb,bK.1.b',gT,bK.1.bB⟩:cN),bK.2.1,0)) (λ(gn:cN × ByteArray × Int)=>[(1,.obj (dU.cells a0)),(2,.obj [.aJ,.aJ,.aJ,af aC,af aC]),(6,.obj (dV.cells gn.1)),(7,af gn.2.1),(8,j bK.2.2),(9,.obj (cM.cells bT)),(10,j gn.2.2)]) 2 (λ(d':cN × ByteArray)=>[(1,.obj (dU.cells a0)),(2,.obj [.aJ,.aJ,.aJ,af aC,af aC]),(6,.obj (dV.cells d'.1)),(7,af d'.2),(8,j bK.2.2)]) ao (λgn o h=>?_) ?_
    ·clear ao
     refine W.bb<|W.aZ [1,2,6,7,8,9,10,72] ?_
     refine W.bH h q (λiw h=>?_) (λiw h=>?_)
     ·refine W.bO<|ai.a_ ?_
      refine W.bb ?_
      obtain ⟨so,aa,h⟩:=aB h
      refine W.bC [(1,.obj (dU.cells a0)),(2,.obj [.aJ,.aJ,.aJ,af aC,af aC]),(6,.obj (dV.cells so.1)),(7,af so.2),(8,j bK.2.2),(9,.obj (cM.cells bT)),(10,j gn.2.2)] ?_ ?_
      ·clear h; have h:=aa; clear aa
       refine W.bq<|W.bb ?_
       refine W.aZ [1,2,6,7,8,9,10,77] ?_
       refine W.bH h q (λhJ h=>?_) (λhJ h=>?_)
       ·refine W.bb ?_
        obtain ⟨fL,qo,h⟩:=aB h
        obtain ⟨eB,qp,h⟩:=aB h
        refine W.rd [[],[],[],[2],[],[2,3,4],[2,3,4,5],aO 0 7 []] [(1,_),(2,_),(6,_),(7,_),(8,_),(9,_),(10,_)] e1 (by kernel_rfl) (au 0 (O.aA (.obj q))<|au 1 (O.dT (cs':=[j bT.Kind,af bT.Tag,aj dq bT.fc,j bT.At]) q (.obj q) DL q q)<|au 2 (O.bk q (.obj q) q5 q)<|au 3 (O.c9 (y:=aj dq bT.fc) q (.ptr q) rX q q)<|au 4 (O.aA (.lit q))<|au 5 (O.cE (.aD q) (.lit q) qF qo)<|au 6 (O.jn (cs':=[af fL.Name,ba fL.Lit,j fL.c0,j fL.At]) (.bn q) k1 q q)<|bV.jI 7 (G2:=[(85,.cw []),(6,.obj [ak bo eB.aq.a',ak a8 eB.aq.bw,ak bE eB.aq.aY,af eB.aq.bz,af eB.aq.bA,ak bF eB.b0,ak a8 eB.bW,ak cr eB.bD,j eB.ca,j eB.cb,af eB.b',j eB.bU,j eB.bB]),(1,.obj (dU.cells a0)),(2,.obj [.aJ,.aJ,.aJ,af aC,af aC]),(7,af gn.2.1),(8,j bK.2.2),(9,.obj (cM.cells bT)),(10,j gn.2.2)]) (cm.call q q (hQ.nf (G2:=[(1,.obj (dU.cells a0)),(2,.obj [.aJ,.aJ,.aJ,af aC,af aC]),(7,af gn.2.1),(8,j bK.2.2),(9,.obj (cM.cells bT)),(10,j gn.2.2)]) (A:=[]) (ys:=[.ptr ⟨6,[]⟩ 0,.agg (cM.cells bT),.agg (dq.cells fL)]) (args:=[.obj (dV.cells gn.1),.agg (cM.cells bT),.agg (dq.cells fL)]) (cs':=[ak bo eB.aq.a',ak a8 eB.aq.bw,ak bE eB.aq.aY,af eB.aq.bz,af eB.aq.bA,ak bF eB.b0,ak a8 eB.bW,ak cr eB.bD,j eB.ca,j eB.cb,af eB.b',j eB.bU,j eB.bB]) (k0:=0) q q q q (.b q (.n q (.n q .nil))) q (O3 gn.1 bT fL _ qp) call93 (fC q q q q q q) q q (fC q q q q q q) .nil q)) q q q q (by kernel_rfl) (by kernel_rfl)<|bV.fin q q q (hg q q q q q q q)) ?_
        refine ai.a_<|W.dd ?_
        refine ai.dc ?_
        refine ai.de ?_
        obtain rfl:=ax h
        exact ai.bC (hg q q q q q q q)
       ·refine W.bO<|ai.a_ ?_
        refine W.bb<|W.aZ [1,2,6,8,9,10,87] ?_
        obtain ⟨od,aa,h⟩:=aB h
        refine W.bC [(1,.obj (dU.cells a0)),(2,.obj [.aJ,.aJ,.aJ,af aC,af aC]),(6,.obj (dV.cells od)),(8,j bK.2.2),(9,.obj (cM.cells bT)),(10,j gn.2.2)] ?_ ?_
        ·clear h; have h:=aa; clear aa
         refine W.bH h q (λjC h=>?_) (λjC h=>?_)
         ·obtain ⟨eK,mH,h⟩:=aB h
          obtain ⟨gj,lP,h⟩:=aB h
          obtain ⟨e3,mI,h⟩:=aB h
          refine W.rd [[],[],[1],[],[1,2,3],[1,2,3,4],aO 1 5 [],[],[7],[],[7,8,9],[7,8,9,10],aO 7 5 [],aO 0 13 []] [(1,_),(2,_),(6,_),(8,_),(9,_),(10,_)] e1 (by kernel_rfl) (au 0 (O.aA (.obj q))<|au 1 (O.bk q (.obj q) q5 q)<|au 2 (O.c9 (y:=aj dq bT.fc) q (.ptr q) rX q q)<|au 3 (O.aA (.lit q))<|au 4 (O.cE (.aD q) (.lit q) qF mH)<|au 5 (O.eP (.bn q) q7)<|au 6 (O.c8 (x:=j eK.At) (.bn q) cz q)<|au 7 (O.bk q (.obj q) q5 q)<|au 8 (O.c9 (y:=aj dq bT.fc) q (.ptr q) rX q q)<|au 9 (O.aA (.lit q))<|au 10 (O.cE (.aD q) (.lit q) qF lP)<|au 11 (O.eP (.bn q) km)<|au 12 (O.c8 (x:=af gj.Name) (.bn q) eZ q)<|bV.jI 13 (G2:=[(101,.cw []),(6,.obj [ak bo e3.aq.a',ak a8 e3.aq.bw,ak bE e3.aq.aY,af e3.aq.bz,af e3.aq.bA,ak bF e3.b0,ak a8 e3.bW,ak cr e3.bD,j e3.ca,j e3.cb,af e3.b',j e3.bU,j e3.bB]),(1,.obj (dU.cells a0)),(2,.obj [.aJ,.aJ,.aJ,af aC,af aC]),(8,j bK.2.2),(9,.obj (cM.cells bT)),(10,j gn.2.2)]) (cm.call q q (hQ.nf (G2:=[(1,.obj (dU.cells a0)),(2,.obj [.aJ,.aJ,.aJ,af aC,af aC]),(8,j bK.2.2),(9,.obj (cM.cells bT)),(10,j gn.2.2)]) (A:=[]) (ys:=[.ptr ⟨6,[]⟩ 0,j eK.At,af gj.Name]) (args:=[.obj (dV.cells gn.1),j eK.At,af gj.Name]) (cs':=[ak bo e3.aq.a',ak a8 e3.aq.bw,ak bE e3.aq.aY,af e3.aq.bz,af e3.aq.bA,ak bF e3.b0,ak a8 e3.bW,ak cr e3.bD,j e3.ca,j e3.cb,af e3.b',j e3.bU,j e3.bB]) (k0:=0) q q q q (.b q (.n q (.n q .nil))) q (uF gn.1 eK.At gj.Name _ mI) call94 (e' q q q q q) q q (e' q q q q q) .nil q)) q q q q (by kernel_rfl) (by kernel_rfl)<|bV.fin q q q (fC q q q q q q)) ?_
          obtain rfl:=ax h
          exact ai.bC (fC q q q q q q)
         ·refine W.bO ?_
          obtain rfl:=ax h
          exact ai.bC (fC q q q q q q)
        refine ai.a_ ?_
        obtain ⟨ib,qq,h⟩:=aB h
        refine W.H_ [1,2,6,7,8,9,10] ?_
        refine ai.bq ?_
        obtain rfl:=ax h
        exact ai.bC (hg q q q q q q q)
      refine ai.a_<|W.bp [1,2,6,7,8,9,10] (br q<|ah (O.add (.lit q) (.k q))<|ar.bp [1,2,6,7,8,9,74] q<|ar.aW) ?_
      obtain rfl:=ax h
      exact ai.go (hg q q q q q q q)
     ·refine W.dd ?_
      refine ai.dc ?_
      obtain rfl:=ax h
      exact ai.aE (e' q q q q q)
    refine ai.de ?_
    refine ai.bq ?_
    refine ai.a_<|W.bp [1,2,6,7,8] (br q<|ah (O.add (.lit q) (.k q))<|ar.bp [1,2,6,7,47] q<|ar.aW) ?_
    obtain rfl:=ax h
    exact ai.go (e' q q q q q)
   ·refine W.dd ?_
    refine ai.dc ?_
    obtain rfl:=ax h
    exact ai.aE (dA q q q q)
  refine ai.de ?_
  refine ai.a_<|W.bb ?_
  refine W.aZ [1,2,6,7,11] ?_
  refine W.bq ?_
  obtain ⟨cV,ao,h⟩:=aB h
  refine W.cj (G1:=[(1,_),(2,_),(6,_),(7,_),(11,_)]) (e' q q q q q) ?_
  refine W.e0 (s:=(ck.1,0)) (λ(lU:cN × Int)=>[(1,.obj (dU.cells a0)),(2,.obj [.aJ,.aJ,.aJ,af aC,af aC]),(6,.obj (dV.cells lU.1)),(7,af ck.2),(11,j lU.2)]) 4 (λ(cV:cN)=>[(1,.obj (dU.cells a0)),(2,.obj [.aJ,.aJ,.aJ,af aC,af aC]),(6,.obj (dV.cells cV)),(7,af ck.2)]) ao (λlU o h=>?_) ?_
  ·clear ao
   refine W.bb<|W.aZ [1,2,6,7,11,112] ?_
   refine W.bH h q (λE6 h=>?_) (λE6 h=>?_)
   ·refine W.bO<|ai.a_ ?_
    refine W.bb ?_
    obtain ⟨vk,aa,h⟩:=aB h
    refine W.bC [(1,.obj (dU.cells a0)),(2,.obj [.aJ,.aJ,.aJ,af aC,af aC]),(6,.obj (dV.cells vk)),(7,af ck.2),(11,j lU.2)] ?_ ?_
    ·clear h; have h:=aa; clear aa
     refine W.bq ?_
     obtain ⟨dH,sl,h⟩:=aB h
     refine W.bM [1,2,6,7,11,12] (ah (O.bk q (.obj q) n1 q)<|ah (O.c9 (y:=aj gN a0.ea) q (.ptr q) py q q)<|br q<|ah (O.cE (.aD q) (.lit q) o_ sl)<|ah (O.jn (cs':=[af dH.Left,aj dY dH.fM,j dH.At]) (.bn q) DN q q)<|ah (O.fD (cs:=[af aC,.aJ,j 0]) A3 q q)<|ar.dI (G2:=[(1,_),(2,_),(6,_),(7,_),(11,_),(12,_)]) (cs2:=[af dH.Left,aj dY dH.fM,j dH.At]) q (.obj q) (.cg q q) q Hu q q q q (.n q q (.n q q (.n q q (.n q q (.n q q (.b q .nil))))))<|bR q) ?_
     refine W.bb ?_
     obtain ⟨mT,u_,h⟩:=aB h
     refine W.bM [1,2,6,7,11,12,125] (ah (O.aA (.obj q))<|ah (O.bk q (.obj q) tb q)<|ah (O.cB q (.ptr q) eZ q)<|ah (O.eS (cs:=[af dH.Left,ba false,j 0,j 0]) vR pY q q q)<|dL (cu.vw (ys:=[.ptr ⟨6,[]⟩ 0,.agg [af dH.Left,ba false,j 0,j 0]]) q (.c (View.om q q) (.c (.rM (.s (.s (.s (.s .nil))))) .nil)) (Ed lU.1 (⟨dH.Left,false,0,0⟩:Sym) _ u_) call95 q)<|ar.aW) ?_
     obtain ⟨fA,aa,h⟩:=aB h
     refine W.bC [(1,.obj (dU.cells a0)),(2,.obj [.aJ,.aJ,.aJ,af aC,af aC]),(6,.obj (dV.cells fA)),(7,af ck.2),(11,j lU.2),(12,.obj (gN.cells dH))] ?_ ?_
     ·clear h; have h:=aa; clear aa
      refine W.bH h q (λQO h=>?_) (λQO h=>?_)
      ·obtain ⟨iD,qs,h⟩:=aB h
       refine W.bp [1,2,6,7,11,12] (ah (O.aA (.obj q))<|ah (O.bk q (.obj q) JA q)<|ah (O.cB q (.ptr q) cz q)<|ah (O.bk q (.obj q) tb q)<|ah (O.cB q (.ptr q) eZ q)<|ar.hs q (cm.call q q (hQ.nf (G2:=[(1,.obj (dU.cells a0)),(2,.obj [.aJ,.aJ,.aJ,af aC,af aC]),(7,af ck.2),(11,j lU.2),(12,.obj (gN.cells dH))]) (A:=[]) (ys:=[.ptr ⟨6,[]⟩ 0,j dH.At,af dH.Left]) (args:=[.obj (dV.cells lU.1),j dH.At,af dH.Left]) (cs':=[ak bo iD.aq.a',ak a8 iD.aq.bw,ak bE iD.aq.aY,af iD.aq.bz,af iD.aq.bA,ak bF iD.b0,ak a8 iD.bW,ak cr iD.bD,j iD.ca,j iD.cb,af iD.b',j iD.bU,j iD.bB]) (k0:=0) q q q q (.b q (.n q (.n q .nil))) q (uF lU.1 dH.At dH.Left _ qs) call94 (e' q q q q q) q q (e' q q q q q) .nil q))<|bR q) ?_
       obtain rfl:=ax h
       exact ai.bC (fC q q q q q q)
      ·refine W.bO ?_
       obtain rfl:=ax h
       exact ai.bC (fC q q q q q q)
     refine ai.a_ ?_
     obtain ⟨j3,mh,h⟩:=aB h
     refine W.bM [1,2,6,7,11,12,136] (ah (O.aA (.obj q))<|ah (O.bk q (.obj q) tb q)<|ah (O.cB q (.ptr q) eZ q)<|dL (cu.vw (ys:=[.ptr ⟨6,[]⟩ 0,af dH.Left]) q (.c (View.om q q) (.s .nil)) (wO fA dH.Left _ mh) call96 q)<|ar.aW) ?_
     obtain ⟨Gh,aa,h⟩:=aB h
     refine W.bC [(1,.obj (dU.cells a0)),(2,.obj [.aJ,.aJ,.aJ,af aC,af aC]),(6,.obj [ak bo fA.aq.a',ak a8 fA.aq.bw,ak bE fA.aq.aY,af fA.aq.bz,af fA.aq.bA,ak bF fA.b0,ak a8 fA.bW,ak cr Gh,j fA.ca,j fA.cb,af fA.b',j fA.bU,j fA.bB]),(7,af ck.2),(11,j lU.2)] ?_ ?_
     ·clear h; have h:=aa; clear aa
      refine W.bH h q (λQQ h=>?_) (λQQ h=>?_)
      ·obtain ⟨sP,zu,h⟩:=aB h
       refine W.rd [[],[],[1],[1,2],[1,2,3],[],[5],[5,6],aO 1 7 [],aO 0 9 [],aO 0 10 [],aO 0 11 []] [(1,_),(2,_),(6,_),(7,_),(11,_)] e1 (by kernel_rfl) (au 0 (O.aA (.obj q))<|au 1 (O.aA (.obj q))<|au 2 (O.eX (.ptr q))<|au 3 (O.bk q (.ptr q) wW q)<|au 4 (O.c9 (y:=.bm cr.z ⟨6,[7]⟩ fA.bD.length) q (.ptr q) yr q q)<|au 5 (O.bk q (.obj q) tb q)<|au 6 (O.cB q (.ptr q) eZ q)<|bV.gq 7 (x:=aj cr [dH.Left]) (O.dF (ys:=[af dH.Left]) cr [dH.Left] AL q q q q q q UT q q) q q q q .none<|au 8 (O.ap (en:=cr) (r:=sP) (.bm q) q (.aD q) .i Nb q zu)<|au 9 (O.eX (.ptr q))<|au 10 (O.bk q (.ptr q) wW q)<|bV.jI 11 (G2:=[(1,.obj (dU.cells a0)),(2,.obj [.aJ,.aJ,.aJ,af aC,af aC]),(6,.obj [ak bo fA.aq.a',ak a8 fA.aq.bw,ak bE fA.aq.aY,af fA.aq.bz,af fA.aq.bA,ak bF fA.b0,ak a8 fA.bW,ak cr (fA.bD++[dH.Left]),j fA.ca,j fA.cb,af fA.b',j fA.bU,j fA.bB]),(7,af ck.2),(11,j lU.2)]) (cm.lW (g1:=_) (en:=cr) (M:=[dH.Left]) (cs2:=[ak bo fA.aq.a',ak a8 fA.aq.bw,ak bE fA.aq.aY,af fA.aq.bz,af fA.aq.bA,ak bF fA.b0,ak a8 fA.bW,ak cr (fA.bD++[dH.Left]),j fA.ca,j fA.cb,af fA.b',j fA.bU,j fA.bB]) q q (.ptr q) (.b2 q) q q q .lb .gZ q q Ue q q q q (.n q q (.n q q (.b q (.n q q (.n q q .nil)))))) q q q q (by kernel_rfl) (by kernel_rfl)<|bV.fin q q q (e' q q q q q)) ?_
       obtain rfl:=ax h
       exact ai.bC (e' q q q q q)
      ·refine W.bO ?_
       obtain rfl:=ax h
       exact ai.bC (e' q q q q q)
     refine ai.bq ?_
     obtain rfl:=ax h
     exact ai.bC (e' q q q q q)
    refine ai.a_<|W.bp [1,2,6,7,11] (br q<|ah (O.add (.lit q) (.k q))<|ar.bp [1,2,6,7,114] q<|ar.aW) ?_
    obtain rfl:=ax h
    exact ai.go (e' q q q q q)
   ·refine W.dd ?_
    refine ai.dc ?_
    obtain rfl:=ax h
    exact ai.aE (dA q q q q)
  refine ai.de ?_
  refine ai.a_<|W.bb ?_
  refine W.aZ [1,2,6,7,13] ?_
  refine W.bq ?_
  obtain ⟨bS,ao,h⟩:=aB h
  refine W.cj (G1:=[(1,_),(2,_),(6,_),(7,_),(13,_)]) (e' q q q q q) ?_
  refine W.e0 (s:=(cV,0)) (λ(mu:cN × Int)=>[(1,.obj (dU.cells a0)),(2,.obj [.aJ,.aJ,.aJ,af aC,af aC]),(6,.obj (dV.cells mu.1)),(7,af ck.2),(13,j mu.2)]) 6 (λ(bS:cN)=>[(1,.obj (dU.cells a0)),(2,.obj [.aJ,.aJ,.aJ,af aC,af aC]),(6,.obj (dV.cells bS)),(7,af ck.2)]) ao (λmu o h=>?_) ?_
  ·clear ao
   refine W.bb<|W.aZ [1,2,6,7,13,152] ?_
   refine W.bH h q (λQU h=>?_) (λQU h=>?_)
   ·refine W.bO<|ai.a_ ?_
    refine W.bb<|W.bq ?_
    refine W.aZ [1,2,6,7,13,14] ?_
    refine W.bq ?_
    obtain ⟨ow,ao,h⟩:=aB h
    refine W.cj (G1:=[(1,_),(2,_),(6,_),(7,_),(13,_),(14,_)]) (fC q q q q q q) ?_
    refine W.e0 (s:=(mu.1,0)) (λ(lV:cN × Int)=>[(1,.obj (dU.cells a0)),(2,.obj [.aJ,.aJ,.aJ,af aC,af aC]),(6,.obj (dV.cells lV.1)),(7,af ck.2),(13,j mu.2),(14,j lV.2)]) 8 (λ(ow:cN)=>[(1,.obj (dU.cells a0)),(2,.obj [.aJ,.aJ,.aJ,af aC,af aC]),(6,.obj (dV.cells ow)),(7,af ck.2),(13,j mu.2)]) ao (λlV o h=>?_) ?_
    ·clear ao
     refine W.bb ?_
     obtain ⟨AX,KZ,h⟩:=aB h
     refine W.aZ [1,2,6,7,13,14,163] ?_
     refine W.bH h q (λE7 h=>?_) (λE7 h=>?_)
     ·refine W.bO<|ai.a_ ?_
      refine W.bb ?_
      obtain ⟨Gk,aa,h⟩:=aB h
      refine W.bC [(1,.obj (dU.cells a0)),(2,.obj [.aJ,.aJ,.aJ,af aC,af aC]),(6,.obj (dV.cells Gk)),(7,af ck.2),(13,j mu.2),(14,j lV.2)] ?_ ?_
      ·clear h; have h:=aa; clear aa
       refine W.bq ?_
       obtain ⟨xW,F1,h⟩:=aB h
       obtain ⟨j4,tI,h⟩:=aB h
       refine W.bM [1,2,6,7,13,14,15] (ah (O.bk q (.obj q) s' q)<|ah (O.c9 (y:=aj cM a0.Decls) q (.ptr q) wQ q q)<|br q<|ah (O.cE (.aD q) (.lit q) sG F1)<|ah (O.eP (.bn q) q5)<|ah (O.c8 (x:=aj dq xW.fc) (.bn q) rX q)<|br q<|ah (O.cE (.aD q) (.lit q) qF tI)<|ah (O.jn (cs':=[af j4.Name,ba j4.Lit,j j4.c0,j j4.At]) (.bn q) k1 q q)<|ah (O.fD (cs:=[af aC,ba false,j 0,j 0]) pY q q)<|ar.dI (G2:=[(1,_),(2,_),(6,_),(7,_),(13,_),(14,_),(15,_)]) (cs2:=[af j4.Name,ba j4.Lit,j j4.c0,j j4.At]) q (.obj q) (.cg q q) q vV q q q q (.n q q (.n q q (.n q q (.n q q (.n q q (.n q q (.b q .nil)))))))<|bR q) ?_
       obtain ⟨DZ,aa,h⟩:=aB h
       refine W.rs [(1,.obj (dU.cells a0)),(2,.obj [.aJ,.aJ,.aJ,af aC,af aC]),(6,.obj (dV.cells lV.1)),(7,af ck.2),(13,j mu.2),(14,j lV.2),(15,.obj (dq.cells j4)),(188,ba DZ)] ?_ ?_
       ·refine ah (O.bk q (.obj q) s' q)<|ah (O.c9 (y:=aj cM a0.Decls) q (.ptr q) wQ q q)<|ah (O.aA (.lit q)) ?_
        obtain ⟨HB,Si,aa⟩:=aB aa
        refine ah (O.cE (.aD q) (.lit q) sG Si)<|ah (O.eP (.bn q) oN)<|ah (O.c8 (x:=j HB.Kind) (.bn q) cz q)<|ah (O.geq (.lit q) (.k q))<|ah (O.aA (.lit q)) ?_
        rcases cI aa with ⟨y5,aa⟩ | ⟨y5,aa⟩
        ·refine a1 y5 (O.aA (.obj q))<|a1 y5 (O.bk q (.obj q) km q)<|a1 y5 (O.cB q (.ptr q) eZ q) ?_
         obtain ⟨ly,pL,aa⟩:=aB aa
         obtain rfl:=ax aa
         exact ar.c (cu.vw (ys:=[.ptr ⟨6,[]⟩ 0,af j4.Name]) q (.c (View.om q q) (.s .nil)) (wO lV.1 j4.Name _ pL) call96 q) q q (.jS q q y5)<|ar.aW
        ·obtain rfl:=ax aa
         exact ar.aW
       obtain ⟨Gl,aa,h⟩:=aB h
       refine W.bC [(1,.obj (dU.cells a0)),(2,.obj [.aJ,.aJ,.aJ,af aC,af aC]),(6,.obj (dV.cells Gl)),(7,af ck.2),(13,j mu.2),(14,j lV.2)] ?_ ?_
       ·clear h; have h:=aa; clear aa
        refine W.bH h q (λQX h=>?_) (λQX h=>?_)
        ·obtain ⟨nP,Sk,h⟩:=aB h
         refine W.bp [1,2,6,7,13,14] (ah (O.aA (.obj q))<|ah (O.bk q (.obj q) q7 q)<|ah (O.cB q (.ptr q) cz q)<|ah (O.bk q (.obj q) km q)<|ah (O.cB q (.ptr q) eZ q)<|ar.hs q (cm.call q q (hQ.nf (G2:=[(1,.obj (dU.cells a0)),(2,.obj [.aJ,.aJ,.aJ,af aC,af aC]),(7,af ck.2),(13,j mu.2),(14,j lV.2)]) (A:=[]) (ys:=[.ptr ⟨6,[]⟩ 0,j j4.At,af j4.Name]) (args:=[.obj (dV.cells lV.1),j j4.At,af j4.Name]) (cs':=[ak bo nP.aq.a',ak a8 nP.aq.bw,ak bE nP.aq.aY,af nP.aq.bz,af nP.aq.bA,ak bF nP.b0,ak a8 nP.bW,ak cr nP.bD,j nP.ca,j nP.cb,af nP.b',j nP.bU,j nP.bB]) (k0:=0) q q q q (.b q (.n q (.n q .nil))) q (uF lV.1 j4.At j4.Name _ Sk) call94 (e' q q q q q) q q (e' q q q q q) .nil q))<|bR q) ?_
         obtain rfl:=ax h
         exact ai.bC (fC q q q q q q)
        ·refine W.bO ?_
         obtain rfl:=ax h
         exact ai.bC (fC q q q q q q)
       refine ai.bq ?_
       obtain rfl:=ax h
       exact ai.bC (fC q q q q q q)
      refine ai.a_<|W.bp [1,2,6,7,13,14] (br q<|ah (O.add (.lit q) (.k q))<|ar.bp [1,2,6,7,13,165] q<|ar.aW) ?_
      obtain rfl:=ax h
      exact ai.go (fC q q q q q q)
     ·refine W.dd ?_
      refine ai.dc ?_
      obtain rfl:=ax h
      exact ai.aE (e' q q q q q)
    refine ai.de ?_
    refine ai.bq ?_
    refine ai.a_<|W.bp [1,2,6,7,13] (br q<|ah (O.add (.lit q) (.k q))<|ar.bp [1,2,6,7,154] q<|ar.aW) ?_
    obtain rfl:=ax h
    exact ai.go (e' q q q q q)
   ·refine W.dd ?_
    refine ai.dc ?_
    obtain rfl:=ax h
    exact ai.aE (dA q q q q)
  refine ai.de ?_
  refine ai.a_<|W.bb ?_
  refine W.aZ [1,2,6,7,196] ?_
  obtain ⟨vl,aa,h⟩:=aB h
  refine W.bC [(1,.obj (dU.cells a0)),(2,.obj [.aJ,.aJ,.aJ,af aC,af aC]),(6,.obj (dV.cells bS)),(7,af vl)] ?_ ?_
  ·clear h; have h:=aa; clear aa
   refine W.bH h q (λQZ h=>?_) (λQZ h=>?_)
   ·obtain ⟨uf,zv,h⟩:=aB h
    refine W.bp [1,2,6,7] (ah (O.bk q (.obj q) n1 q)<|ah (O.c9 (y:=aj gN a0.ea) q (.ptr q) py q q)<|ah (O.cE (.aD q) (.k q) o_ zv)<|ah (O.eP (.bn q) tb)<|ah (O.c8 (x:=af uf.Left) (.bn q) eZ q)<|ar.bp [1,2,6,201] q<|ar.aW) ?_
    obtain rfl:=ax h
    exact ai.bC (dA q q q q)
   ·refine W.bO ?_
    obtain rfl:=ax h
    exact ai.bC (dA q q q q)
  refine ai.a_ ?_
  obtain ⟨h3,Sl,h⟩:=aB h
  refine W.bM [1,2,6] (ah (O.aA (.obj q))<|ah (O.aA (.obj q))<|br q<|dL (cu.vw (ys:=[.ptr ⟨6,[]⟩ 0,af vl]) q (.c (View.om q q) (.s .nil)) (wO bS vl _ Sl) call96 q)<|ah (O.add (.k q) (.lit q))<|ar.gq (x:=aj aL [aM (1001+h3)]) (O.dF (ys:=[j (aM (1001+h3))]) aL [aM (1001+h3)] eI q q q q q q nm q q) q q .none<|ar.gq (x:=.agg [j 0,aj aL [aM (1001+h3)],j (-1),af aC,aj aL ([]:List Int),j 0]) (O.eS (cs:=[j 0,aj aL [aM (1001+h3)],j (-1),af aC,.aJ,j 0]) Hf A0 q q q) q q .none<|ah (O.dF (ys:=[.agg [j 0,aj aL [aM (1001+h3)],j (-1),af aC,aj aL ([]:List Int),j 0]]) bE [(⟨0,[aM (1001+h3)],(-1),aC,([]:List Int),0⟩:Prod)] nj q q q q q q HL q q)<|ah (O.eX (.ptr q))<|ah (O.bk q (.ptr q) j_ q)<|ah (O.bk q (.ptr q) l5 q)<|ar.hs (G2:=[(1,.obj (dU.cells a0)),(2,.obj [.aJ,.aJ,.aJ,af aC,af aC]),(6,.obj [ak bo bS.aq.a',ak a8 bS.aq.bw,ak bE [(⟨0,[aM (1001+h3)],(-1),aC,([]:List Int),0⟩:Prod)],af bS.aq.bz,af bS.aq.bA,ak bF bS.b0,ak a8 bS.bW,ak cr bS.bD,j bS.ca,j bS.cb,af bS.b',j bS.bU,j bS.bB])]) q (cm.sK (y':=ak bE [(⟨0,[aM (1001+h3)],(-1),aC,([]:List Int),0⟩:Prod)]) (cs2:=[ak bo bS.aq.a',ak a8 bS.aq.bw,ak bE [(⟨0,[aM (1001+h3)],(-1),aC,([]:List Int),0⟩:Prod)],af bS.aq.bz,af bS.aq.bA,ak bF bS.b0,ak a8 bS.bW,ak cr bS.bD,j bS.ca,j bS.cb,af bS.b',j bS.bU,j bS.bB]) q q (.ptr q) (.own q) (.r q .nil) .refl q Hp q q q q q (.n q q (.n q q (.b q .nil))))<|bR q) ?_
  refine W.bb<|W.aZ [1,2,6,16] ?_
  refine W.bq ?_
  obtain ⟨a6,ao,h⟩:=aB h
  refine W.cj (G1:=[(1,_),(2,_),(6,.obj [ak bo (((⟨(⟨bS.aq.a',bS.aq.bw,[(⟨0,[aM (1001+h3)],(-1),aC,([]:List Int),0⟩:Prod)],bS.aq.bz,bS.aq.bA⟩:bZ),bS.b0,bS.bW,bS.bD,bS.ca,bS.cb,bS.b',bS.bU,bS.bB⟩:cN).aq).a'),ak a8 (((⟨(⟨bS.aq.a',bS.aq.bw,[(⟨0,[aM (1001+h3)],(-1),aC,([]:List Int),0⟩:Prod)],bS.aq.bz,bS.aq.bA⟩:bZ),bS.b0,bS.bW,bS.bD,bS.ca,bS.cb,bS.b',bS.bU,bS.bB⟩:cN).aq).bw),ak bE (((⟨(⟨bS.aq.a',bS.aq.bw,[(⟨0,[aM (1001+h3)],(-1),aC,([]:List Int),0⟩:Prod)],bS.aq.bz,bS.aq.bA⟩:bZ),bS.b0,bS.bW,bS.bD,bS.ca,bS.cb,bS.b',bS.bU,bS.bB⟩:cN).aq).aY),af (((⟨(⟨bS.aq.a',bS.aq.bw,[(⟨0,[aM (1001+h3)],(-1),aC,([]:List Int),0⟩:Prod)],bS.aq.bz,bS.aq.bA⟩:bZ),bS.b0,bS.bW,bS.bD,bS.ca,bS.cb,bS.b',bS.bU,bS.bB⟩:cN).aq).bz),af (((⟨(⟨bS.aq.a',bS.aq.bw,[(⟨0,[aM (1001+h3)],(-1),aC,([]:List Int),0⟩:Prod)],bS.aq.bz,bS.aq.bA⟩:bZ),bS.b0,bS.bW,bS.bD,bS.ca,bS.cb,bS.b',bS.bU,bS.bB⟩:cN).aq).bA),ak bF ((⟨(⟨bS.aq.a',bS.aq.bw,[(⟨0,[aM (1001+h3)],(-1),aC,([]:List Int),0⟩:Prod)],bS.aq.bz,bS.aq.bA⟩:bZ),bS.b0,bS.bW,bS.bD,bS.ca,bS.cb,bS.b',bS.bU,bS.bB⟩:cN).b0),ak a8 ((⟨(⟨bS.aq.a',bS.aq.bw,[(⟨0,[aM (1001+h3)],(-1),aC,([]:List Int),0⟩:Prod)],bS.aq.bz,bS.aq.bA⟩:bZ),bS.b0,bS.bW,bS.bD,bS.ca,bS.cb,bS.b',bS.bU,bS.bB⟩:cN).bW),ak cr ((⟨(⟨bS.aq.a',bS.aq.bw,[(⟨0,[aM (1001+h3)],(-1),aC,([]:List Int),0⟩:Prod)],bS.aq.bz,bS.aq.bA⟩:bZ),bS.b0,bS.bW,bS.bD,bS.ca,bS.cb,bS.b',bS.bU,bS.bB⟩:cN).bD),j ((⟨(⟨bS.aq.a',bS.aq.bw,[(⟨0,[aM (1001+h3)],(-1),aC,([]:List Int),0⟩:Prod)],bS.aq.bz,bS.aq.bA⟩:bZ),bS.b0,bS.bW,bS.bD,bS.ca,bS.cb,bS.b',bS.bU,bS.bB⟩:cN).ca),j ((⟨(⟨bS.aq.a',bS.aq.bw,[(⟨0,[aM (1001+h3)],(-1),aC,([]:List Int),0⟩:Prod)],bS.aq.bz,bS.aq.bA⟩:bZ),bS.b0,bS.bW,bS.bD,bS.ca,bS.cb,bS.b',bS.bU,bS.bB⟩:cN).cb),af ((⟨(⟨bS.aq.a',bS.aq.bw,[(⟨0,[aM (1001+h3)],(-1),aC,([]:List Int),0⟩:Prod)],bS.aq.bz,bS.aq.bA⟩:bZ),bS.b0,bS.bW,bS.bD,bS.ca,bS.cb,bS.b',bS.bU,bS.bB⟩:cN).b'),j ((⟨(⟨bS.aq.a',bS.aq.bw,[(⟨0,[aM (1001+h3)],(-1),aC,([]:List Int),0⟩:Prod)],bS.aq.bz,bS.aq.bA⟩:bZ),bS.b0,bS.bW,bS.bD,bS.ca,bS.cb,bS.b',bS.bU,bS.bB⟩:cN).bU),j ((⟨(⟨bS.aq.a',bS.aq.bw,[(⟨0,[aM (1001+h3)],(-1),aC,([]:List Int),0⟩:Prod)],bS.aq.bz,bS.aq.bA⟩:bZ),bS.b0,bS.bW,bS.bD,bS.ca,bS.cb,bS.b',bS.bU,bS.bB⟩:cN).bB)]),(16,_)]) (dA q q q q) ?_
  refine W.e0 (s:=((⟨(⟨bS.aq.a',bS.aq.bw,[(⟨0,[aM (1001+h3)],(-1),aC,([]:List Int),0⟩:Prod)],bS.aq.bz,bS.aq.bA⟩:bZ),bS.b0,bS.bW,bS.bD,bS.ca,bS.cb,bS.b',bS.bU,bS.bB⟩:cN),0)) (λ(ni:cN × Int)=>[(1,.obj (dU.cells a0)),(2,.obj [.aJ,.aJ,.aJ,af aC,af aC]),(6,.obj (dV.cells ni.1)),(16,j ni.2)]) 10 (λ(a6:cN)=>[(1,.obj (dU.cells a0)),(2,.obj [.aJ,.aJ,.aJ,af aC,af aC]),(6,.obj (dV.cells a6))]) ao (λni o h=>?_) ?_
  ·clear ao
   refine W.bb<|W.aZ [1,2,6,16,217] ?_
   refine W.bH h q (λQ0 h=>?_) (λQ0 h=>?_)
   ·refine W.bO<|ai.a_ ?_
    refine W.bb<|W.bq ?_
    refine W.aZ [1,2,6,16,17] ?_
    refine W.bq ?_
    obtain ⟨kc,ao,h⟩:=aB h
    refine W.cj (G1:=[(1,_),(2,_),(6,_),(16,_),(17,_)]) (e' q q q q q) ?_
    refine W.e0 (s:=(ni.1,0)) (λ(o9:cN × Int)=>[(1,.obj (dU.cells a0)),(2,.obj [.aJ,.aJ,.aJ,af aC,af aC]),(6,.obj (dV.cells o9.1)),(16,j ni.2),(17,j o9.2)]) 12 (λ(kc:cN)=>[(1,.obj (dU.cells a0)),(2,.obj [.aJ,.aJ,.aJ,af aC,af aC]),(6,.obj (dV.cells kc)),(16,j ni.2)]) ao (λo9 o h=>?_) ?_
    ·clear ao
     refine W.bb ?_
     obtain ⟨AY,K1,h⟩:=aB h
     refine W.aZ [1,2,6,16,17,228] ?_
     refine W.bH h q (λQ2 h=>?_) (λQ2 h=>?_)
     ·refine W.bO<|ai.a_ ?_
      refine W.bb<|W.bq ?_
      obtain ⟨xX,Sn,h⟩:=aB h
      obtain ⟨HD,Sp,h⟩:=aB h
      obtain ⟨qJ,Sq,h⟩:=aB h
      obtain ⟨jr,Sr,h⟩:=aB h
      refine W.rd [[],[],[1],[],[1,2,3],[1,2,3,4],aO 1 5 [],[],[7],[],[7,8,9],[7,8,9,10],aO 7 5 [],[],aO 7 7 [],aO 7 8 [],aO 0 16 []] [(1,_),(2,_),(6,_),(16,_),(17,_)] e1 (by kernel_rfl) (au 0 (O.aA (.obj q))<|au 1 (O.bk q (.obj q) n1 q)<|au 2 (O.c9 (y:=aj gN a0.ea) q (.ptr q) py q q)<|au 3 (O.aA (.lit q))<|au 4 (O.cE (.aD q) (.lit q) o_ Sn)<|au 5 (O.eP (.bn q) tb)<|au 6 (O.c8 (x:=af xX.Left) (.bn q) eZ q)<|au 7 (O.bk q (.obj q) n1 q)<|au 8 (O.c9 (y:=aj gN a0.ea) q (.ptr q) py q q)<|au 9 (O.aA (.lit q))<|au 10 (O.cE (.aD q) (.lit q) o_ Sp)<|au 11 (O.eP (.bn q) q9)<|au 12 (O.c8 (x:=aj dY HD.fM) (.bn q) uI q)<|au 13 (O.aA (.lit q))<|au 14 (O.cE (.aD q) (.lit q) uc Sq)<|au 15 (O.jn (cs':=[aj fj qJ.jw,af qJ.Prec.Name,ba qJ.Prec.Lit,j qJ.Prec.c0,j qJ.Prec.At,j qJ.At]) (.bn q) DM q q)<|bV.jI 16 (G2:=[(247,.cw []),(6,.obj [ak bo jr.aq.a',ak a8 jr.aq.bw,ak bE jr.aq.aY,af jr.aq.bz,af jr.aq.bA,ak bF jr.b0,ak a8 jr.bW,ak cr jr.bD,j jr.ca,j jr.cb,af jr.b',j jr.bU,j jr.bB]),(1,.obj (dU.cells a0)),(2,.obj [.aJ,.aJ,.aJ,af aC,af aC]),(16,j ni.2),(17,j o9.2)]) (cm.call q q (hQ.nf (G2:=[(1,.obj (dU.cells a0)),(2,.obj [.aJ,.aJ,.aJ,af aC,af aC]),(16,j ni.2),(17,j o9.2)]) (A:=[]) (ys:=[.ptr ⟨6,[]⟩ 0,af xX.Left,.agg (dY.cells qJ)]) (args:=[.obj (dV.cells o9.1),af xX.Left,.agg (dY.cells qJ)]) (cs':=[ak bo jr.aq.a',ak a8 jr.aq.bw,ak bE jr.aq.aY,af jr.aq.bz,af jr.aq.bA,ak bF jr.b0,ak a8 jr.bW,ak cr jr.bD,j jr.ca,j jr.cb,af jr.b',j jr.bU,j jr.bB]) (k0:=0) q q q q (.b q (.n q (.n q .nil))) q (O4 o9.1 xX.Left qJ _ Sr) call97 (dA q q q q) q q (dA q q q q) .nil q)) q q q q (by kernel_rfl) (by kernel_rfl)<|bV.fin q q q (e' q q q q q)) ?_
      refine ai.bq ?_
      refine ai.a_<|W.bp [1,2,6,16,17] (br q<|ah (O.add (.lit q) (.k q))<|ar.bp [1,2,6,16,230] q<|ar.aW) ?_
      obtain rfl:=ax h
      exact ai.go (e' q q q q q)
     ·refine W.dd ?_
      refine ai.dc ?_
      obtain rfl:=ax h
      exact ai.aE (dA q q q q)
    refine ai.de ?_
    refine ai.bq ?_
    refine ai.a_<|W.bp [1,2,6,16] (br q<|ah (O.add (.lit q) (.k q))<|ar.bp [1,2,6,219] q<|ar.aW) ?_
    obtain rfl:=ax h
    exact ai.go (dA q q q q)
   ·refine W.dd ?_
    refine ai.dc ?_
    obtain rfl:=ax h
    exact ai.aE (dB q q q)
  refine ai.de ?_
  refine ai.a_<|W.bb ?_
  refine W.aZ [1,2,6,252] ?_
  refine W.bH h q (λQ3 h=>?_) (λQ3 h=>?_)
  ·refine W.bb<|W.rd [[],[],[1],[1,2],[1,2,3],[],[5],[5,6],[5,6,7],[],[9],[9,10],[9,10,11],[0],aO 0 5 [13],aO 0 9 [13,14],aO 0 16 []] [(2,_),(3,_),(4,_),(5,_)] e1 (by kernel_rfl) (au 0 (O.eS (cs:=[.aJ,.aJ,.aJ,af aC,af aC]) Hg pe q q q)<|au 1 (O.aA (.obj q))<|au 2 (O.eX (.ptr q))<|au 3 (O.bk q (.ptr q) yC q)<|au 4 (O.cB q (.ptr q) cz q)<|au 5 (O.aA (.obj q))<|au 6 (O.eX (.ptr q))<|au 7 (O.bk q (.ptr q) yD q)<|au 8 (O.cB q (.ptr q) cz q)<|au 9 (O.aA (.obj q))<|au 10 (O.eX (.ptr q))<|au 11 (O.bk q (.ptr q) yE q)<|au 12 (O.cB q (.ptr q) eZ q)<|bV.eS 13 (G2:=[(2,.obj [.aJ,.aJ,.aJ,af aC,af aC]),(6,.obj (dV.cells a6))]) (U:=[(12,265,some (af a6.b')),(11,264,some (.ptr ⟨6,[]⟩ 10)),(10,263,some (.ptr ⟨6,[]⟩ 0)),(9,262,some (.ptr ⟨6,[]⟩ 0)),(8,261,some (j a6.cb)),(7,260,some (.ptr ⟨6,[]⟩ 9)),(6,259,some (.ptr ⟨6,[]⟩ 0)),(5,258,some (.ptr ⟨6,[]⟩ 0)),(4,257,some (j a6.ca)),(3,256,some (.ptr ⟨6,[]⟩ 8)),(2,255,some (.ptr ⟨6,[]⟩ 0)),(1,254,some (.ptr ⟨6,[]⟩ 0))]) (l1.v (cm.nZ (cm.dI (G2:=[(2,.obj [.aJ,.aJ,.aJ,af aC,af aC]),(6,.obj (dV.cells a6))]) (cs2:=[.aJ,.aJ,.aJ,af aC,af aC]) q q q (.obj q) (.cg q q) q nL q q q q (.b q (.n q q .nil))))) q q (by kernel_rfl) q q q (.c (.inr (.inl ⟨_,q⟩)) q q q q q (gv.wanted .none) (O.cB q (.ptr q) eZ q) (.c (.inr (.inr (.inr (.inl ⟨6,_,_,q,q,jo q,by simp,_,q,jo q⟩)))) q q q q q (gv.wanted .none) (O.bk q (.ptr q) yE q) (.c (.inr (.inr (.inr (.inl ⟨6,_,_,q,q,jo q,by simp,_,q,jo q⟩)))) q q q q q (gv.wanted .none) (O.eX (.ptr q)) (.c (.inr (.inr (.inr (.inl ⟨6,_,_,q,q,jo q,by simp,_,q,jo q⟩)))) q q q q q (gv.wanted .none) (O.aA (.obj q)) (.c (.inr (.inl ⟨_,q⟩)) q q q q q (gv.wanted .none) (O.cB q (.ptr q) cz q) (.c (.inr (.inr (.inr (.inl ⟨6,_,_,q,q,jo q,by simp,_,q,jo q⟩)))) q q q q q (gv.wanted .none) (O.bk q (.ptr q) yD q) (.c (.inr (.inr (.inr (.inl ⟨6,_,_,q,q,jo q,by simp,_,q,jo q⟩)))) q q q q q (gv.wanted .none) (O.eX (.ptr q)) (.c (.inr (.inr (.inr (.inl ⟨6,_,_,q,q,jo q,by simp,_,q,jo q⟩)))) q q q q q (gv.wanted .none) (O.aA (.obj q)) (.c (.inr (.inl ⟨_,q⟩)) q q q q q (gv.wanted .none) (O.cB q (.ptr q) cz q) (.c (.inr (.inr (.inr (.inl ⟨6,_,_,q,q,jo q,by simp,_,q,jo q⟩)))) q q q q q (gv.wanted .none) (O.bk q (.ptr q) yC q) (.c (.inr (.inr (.inr (.inl ⟨6,_,_,q,q,jo q,by simp,_,q,jo q⟩)))) q q q q q (gv.wanted .none) (O.eX (.ptr q)) (.c (.inr (.inr (.inr (.inl ⟨6,_,_,q,q,jo q,by simp,_,q,jo q⟩)))) q q q q q (gv.wanted .none) (O.aA (.obj q)) .nil)))))))))))) (by kernel_rfl)<|au 14 (O.dv (.lit q))<|au 15 (O.dv (.lit q))<|au 16 (O.dv (.lit q))<|bV.fin q q q (dA q q q q)) ?_
   refine ai.a_<|W.fE (G1:=[(2,.obj [aj bo ([]:List bJ),aj a8 ([]:List eW),aj bE ([]:List Prod),af aC,af aC]),(3,_),(4,_),(5,_)]) [2] (.z q q (gu.obj (.z (.z (.z (.f (.f .nil)))))) (.n q q (.n q q (.n q q .nil)))) ?_
   refine W.rt ?_
   refine ai.c_ ?_
   obtain rfl:=ax h
   exact cA (.c (ys0:=[aj bo ([]:List bJ),aj a8 ([]:List eW),aj bE ([]:List Prod),af aC,af aC]) q gg q q q (.f q (.f q (.f q (.f q (.f q .nil))))) (.f q q (.f q q (.f q q .nil))))
  ·refine W.bO<|ai.a_ ?_
   refine W.bM [1,2,6] (ah (O.aA (.obj q))<|ah (O.eS (cs:=[af ({ data:=#[36,97,99,99,101,112,116] }),af aC]) C9 A1 q q q)<|ah (O.dF (ys:=[.agg [af ({ data:=#[36,97,99,99,101,112,116] }),af aC]]) a8 [(⟨{ data:=#[36,97,99,99,101,112,116] },aC⟩:eW)] ry q q q q q q Du q q)<|ah (O.eX (.ptr q))<|ah (O.bk q (.ptr q) j_ q)<|ah (O.bk q (.ptr q) r2 q)<|ar.hs (G2:=[(1,.obj (dU.cells a0)),(2,.obj [.aJ,.aJ,.aJ,af aC,af aC]),(6,.obj [ak bo a6.aq.a',ak a8 [(⟨{ data:=#[36,97,99,99,101,112,116] },aC⟩:eW)],ak bE a6.aq.aY,af a6.aq.bz,af a6.aq.bA,ak bF a6.b0,ak a8 a6.bW,ak cr a6.bD,j a6.ca,j a6.cb,af a6.b',j a6.bU,j a6.bB])]) q (cm.sK (y':=ak a8 [(⟨{ data:=#[36,97,99,99,101,112,116] },aC⟩:eW)]) (cs2:=[ak bo a6.aq.a',ak a8 [(⟨{ data:=#[36,97,99,99,101,112,116] },aC⟩:eW)],ak bE a6.aq.aY,af a6.aq.bz,af a6.aq.bA,ak bF a6.b0,ak a8 a6.bW,ak cr a6.bD,j a6.ca,j a6.cb,af a6.b',j a6.bU,j a6.bB]) q q (.ptr q) (.own q) (.r q .nil) .refl q Dg q q q q q (.n q q (.n q q (.b q .nil))))<|bR q) ?_
   refine W.bb<|W.aZ [1,2,6,18] ?_
   refine W.bq ?_
   obtain ⟨v7,ao,h⟩:=aB h
   refine W.cj (G1:=[(1,_),(2,_),(6,_),(18,_)]) (dA q q q q) ?_
   refine W.e0 (s:=([(⟨{ data:=#[36,97,99,99,101,112,116] },aC⟩:eW)],0)) (λ(mv:List eW × Int)=>[(1,.obj (dU.cells a0)),(2,.obj [.aJ,.aJ,.aJ,af aC,af aC]),(6,.obj [ak bo a6.aq.a',ak a8 mv.1,ak bE a6.aq.aY,af a6.aq.bz,af a6.aq.bA,ak bF a6.b0,ak a8 a6.bW,ak cr a6.bD,j a6.ca,j a6.cb,af a6.b',j a6.bU,j a6.bB]),(18,j mv.2)]) 14 (λ(v7:List eW)=>[(1,.obj (dU.cells a0)),(2,.obj [.aJ,.aJ,.aJ,af aC,af aC]),(6,.obj [ak bo a6.aq.a',ak a8 v7,ak bE a6.aq.aY,af a6.aq.bz,af a6.aq.bA,ak bF a6.b0,ak a8 a6.bW,ak cr a6.bD,j a6.ca,j a6.cb,af a6.b',j a6.bU,j a6.bB])]) ao (λmv o h=>?_) ?_
   ·clear ao
    refine W.bb<|W.aZ [1,2,6,18,278] ?_
    refine W.bH h q (λQ4 h=>?_) (λQ4 h=>?_)
    ·refine W.bO<|ai.a_ ?_
     refine W.bb<|W.bq ?_
     obtain ⟨lZ,K2,h⟩:=aB h
     refine W.bM [1,2,6,18,19] (ah (O.aA (.obj q))<|ah (O.eX (.ptr q))<|ah (O.bk q (.ptr q) wW q)<|ah (O.c9 (y:=.bm cr.z ⟨6,[7]⟩ a6.bD.length) q (.ptr q) yr q q)<|br q<|ah (O.gS (en:=cr) q (.bm q) (.lit q) AL K2 q)<|ah (O.iZ (en:=cr) (x':=af lZ) q (.ptr q) eZ K2 q q)<|ah (O.eS (cs:=[af lZ,af aC]) C9 A1 q q q)<|ah (O.fD (cs:=[af aC,af aC]) A1 q q)<|ar.dI (G2:=[(1,_),(2,_),(6,_),(18,_),(19,_)]) (cs2:=[af lZ,af aC]) q (.obj q) (.cg q q) q Uf q q q q (.n q q (.n q q (.n q q (.n q q (.b q .nil)))))<|bR q) ?_
     refine W.bb ?_
     obtain ⟨v8,Ss,h⟩:=aB h
     refine W.bM [1,2,6,18,19,20] (ah (O.aA (.obj q))<|ah (O.bk q (.obj q) Jo q)<|ah (O.cB q (.ptr q) eZ q)<|dL (cu.vw (ys:=[.ptr ⟨6,[]⟩ 0,af lZ]) q (.c (View.om q q) (.s .nil)) (I4 (⟨(⟨a6.aq.a',mv.1,a6.aq.aY,a6.aq.bz,a6.aq.bA⟩:bZ),a6.b0,a6.bW,a6.bD,a6.ca,a6.cb,a6.b',a6.bU,a6.bB⟩:cN) lZ _ Ss) call98 q)<|ar.aW) ?_
     refine W.aZ [1,2,6,18,19,20,294] ?_
     obtain ⟨pN,aa,h⟩:=aB h
     refine W.bC [(1,.obj (dU.cells a0)),(2,.obj [.aJ,.aJ,.aJ,af aC,af aC]),(6,.obj [ak bo a6.aq.a',ak a8 mv.1,ak bE a6.aq.aY,af a6.aq.bz,af a6.aq.bA,ak bF a6.b0,ak a8 a6.bW,ak cr a6.bD,j a6.ca,j a6.cb,af a6.b',j a6.bU,j a6.bB]),(18,j mv.2),(19,.obj [af lZ,af pN])] ?_ ?_
     ·clear h; have h:=aa; clear aa
      refine W.bH h q (λQ5 h=>?_) (λQ5 h=>?_)
      ·obtain ⟨Dm,F2,h⟩:=aB h
       refine W.bp [1,2,6,18,19] (ah (O.aA (.obj q))<|ah (O.eX (.ptr q))<|ah (O.bk q (.ptr q) yB q)<|ah (O.c9 (y:=.bm a8.z ⟨6,[6]⟩ a6.bW.length) q (.ptr q) rW q q)<|br q<|ah (O.gS (en:=a8) q (.bm q) (.lit q) ry F2 q)<|ah (O.j9 (en:=a8) q (.ptr q) BS F2 q q)<|ah (O.iZ (en:=a8) (x':=af Dm.Tag) q (.ptr q) eZ F2 q q)<|ah (O.bk q (.obj q) BS q)<|ar.dI (G2:=[(1,_),(2,_),(6,_),(18,_),(19,_)]) (cs2:=[af lZ,af Dm.Tag]) q (.ptr q) (.lit q) q vW q q q q (.n q q (.n q q (.n q q (.n q q (.b q .nil)))))<|bR q) ?_
       obtain rfl:=ax h
       exact ai.bC (e' q q q q q)
      ·refine W.bO ?_
       obtain rfl:=ax h
       exact ai.bC (e' q q q q q)
     refine ai.a_ ?_
     obtain ⟨MF,St,h⟩:=aB h
     refine W.rd [[],[],[1],[1,2],[1,2,3],[1,2,3,4],[],[6],aO 1 7 [],aO 0 9 [],aO 0 10 [],aO 0 11 [],aO 0 12 []] [(1,_),(2,_),(6,_),(18,_)] e1 (by kernel_rfl) (au 0 (O.aA (.obj q))<|au 1 (O.aA (.obj q))<|au 2 (O.eX (.ptr q))<|au 3 (O.bk q (.ptr q) j_ q)<|au 4 (O.bk q (.ptr q) r2 q)<|au 5 (O.c9 (y:=.bm a8.z ⟨6,[1]⟩ mv.1.length) q (.ptr q) rW q q)<|au 6 (O.dT (cs':=[af lZ,af pN]) q (.obj q) Nw q q)<|bV.gq 7 (x:=aj a8 [(⟨lZ,pN⟩:eW)]) (O.dF (ys:=[.agg [af lZ,af pN]]) a8 [(⟨lZ,pN⟩:eW)] ry q q q q q q Du q q) q q q q .none<|au 8 (O.ap (en:=a8) (r:=MF) (.bm q) q (.aD q) .i DI q St)<|au 9 (O.eX (.ptr q))<|au 10 (O.bk q (.ptr q) j_ q)<|au 11 (O.bk q (.ptr q) r2 q)<|bV.jI 12 (G2:=[(1,.obj (dU.cells a0)),(2,.obj [.aJ,.aJ,.aJ,af aC,af aC]),(6,.obj [ak bo a6.aq.a',ak a8 (mv.1++[(⟨lZ,pN⟩:eW)]),ak bE a6.aq.aY,af a6.aq.bz,af a6.aq.bA,ak bF a6.b0,ak a8 a6.bW,ak cr a6.bD,j a6.ca,j a6.cb,af a6.b',j a6.bU,j a6.bB]),(18,j mv.2)]) (cm.lW (g1:=_) (en:=a8) (M:=[(⟨lZ,pN⟩:eW)]) (cs2:=[ak bo a6.aq.a',ak a8 (mv.1++[(⟨lZ,pN⟩:eW)]),ak bE a6.aq.aY,af a6.aq.bz,af a6.aq.bA,ak bF a6.b0,ak a8 a6.bW,ak cr a6.bD,j a6.ca,j a6.cb,af a6.b',j a6.bU,j a6.bB]) q q (.ptr q) (.b2 q) q q q .lb .gZ q q Dg q q q q (.n q q (.n q q (.b q (.n q q .nil))))) q q q q (by kernel_rfl) (by kernel_rfl)<|bV.fin q q q (dA q q q q)) ?_
     refine ai.bq ?_
     refine ai.a_<|W.bp [1,2,6,18] (br q<|ah (O.add (.lit q) (.k q))<|ar.bp [1,2,6,280] q<|ar.aW) ?_
     obtain rfl:=ax h
     exact ai.go (dA q q q q)
    ·refine W.dd ?_
     refine ai.dc ?_
     obtain rfl:=ax h
     exact ai.aE (dB q q q)
   refine ai.de ?_
   refine ai.a_<|W.bb ?_
   refine W.aZ [1,2,6,21] ?_
   refine W.bq ?_
   obtain ⟨i',ao,h⟩:=aB h
   refine W.cj (G1:=[(1,_),(2,_),(6,_),(21,_)]) (dA q q q q) ?_
   refine W.e0 (s:=(v7,1)) (λ(nK:List eW × Int)=>[(1,.obj (dU.cells a0)),(2,.obj [.aJ,.aJ,.aJ,af aC,af aC]),(6,.obj [ak bo a6.aq.a',ak a8 nK.1,ak bE a6.aq.aY,af a6.aq.bz,af a6.aq.bA,ak bF a6.b0,ak a8 a6.bW,ak cr a6.bD,j a6.ca,j a6.cb,af a6.b',j a6.bU,j a6.bB]),(21,j nK.2)]) 16 (λ(i':List eW)=>[(1,.obj (dU.cells a0)),(2,.obj [.aJ,.aJ,.aJ,af aC,af aC]),(6,.obj [ak bo a6.aq.a',ak a8 i',ak bE a6.aq.aY,af a6.aq.bz,af a6.aq.bA,ak bF a6.b0,ak a8 a6.bW,ak cr a6.bD,j a6.ca,j a6.cb,af a6.b',j a6.bU,j a6.bB])]) ao (λnK o h=>?_) ?_
   ·clear ao
    refine W.bb<|W.aZ [1,2,6,21,321] ?_
    refine W.bH h q (λQ6 h=>?_) (λQ6 h=>?_)
    ·refine W.bO<|ai.a_ ?_
     refine W.bb<|W.bq ?_
     obtain ⟨Dn,Su,h⟩:=aB h
     obtain ⟨qK,Sv,h⟩:=aB h
     obtain ⟨MG,Sw,h⟩:=aB h
     refine W.rd [[],[],[1],[1,2],[1,2,3],[1,2,3,4],[],[6],[6,7],[6,7,8],[6,7,8,9],aO 1 10 [],aO 0 12 [],aO 0 13 [],aO 0 14 [],aO 0 15 []] [(1,_),(2,_),(6,_),(21,_)] e1 (by kernel_rfl) (au 0 (O.aA (.obj q))<|au 1 (O.aA (.obj q))<|au 2 (O.eX (.ptr q))<|au 3 (O.bk q (.ptr q) j_ q)<|au 4 (O.bk q (.ptr q) r2 q)<|au 5 (O.c9 (y:=.bm a8.z ⟨6,[1]⟩ nK.1.length) q (.ptr q) rW q q)<|au 6 (O.aA (.lit q))<|iM 7 (cu.go (.bX (.lit q) .nil) (O5 nK.2 _ Su) call99 q)<|au 8 (O.cat (.k q) (.lit q) Sv)<|au 9 (O.eS (cs:=[af qK,af aC]) C9 A1 q q q)<|bV.gq 10 (x:=aj a8 [(⟨qK,aC⟩:eW)]) (O.dF (ys:=[.agg [af qK,af aC]]) a8 [(⟨qK,aC⟩:eW)] ry q q q q q q Du q q) q q q q .none<|au 11 (O.ap (en:=a8) (r:=MG) (.bm q) q (.aD q) .i DI q Sw)<|au 12 (O.eX (.ptr q))<|au 13 (O.bk q (.ptr q) j_ q)<|au 14 (O.bk q (.ptr q) r2 q)<|bV.jI 15 (G2:=[(1,.obj (dU.cells a0)),(2,.obj [.aJ,.aJ,.aJ,af aC,af aC]),(6,.obj [ak bo a6.aq.a',ak a8 (nK.1++[(⟨qK,aC⟩:eW)]),ak bE a6.aq.aY,af a6.aq.bz,af a6.aq.bA,ak bF a6.b0,ak a8 a6.bW,ak cr a6.bD,j a6.ca,j a6.cb,af a6.b',j a6.bU,j a6.bB]),(21,j nK.2)]) (cm.lW (g1:=_) (en:=a8) (M:=[(⟨qK,aC⟩:eW)]) (cs2:=[ak bo a6.aq.a',ak a8 (nK.1++[(⟨qK,aC⟩:eW)]),ak bE a6.aq.aY,af a6.aq.bz,af a6.aq.bA,ak bF a6.b0,ak a8 a6.bW,ak cr a6.bD,j a6.ca,j a6.cb,af a6.b',j a6.bU,j a6.bB]) q q (.ptr q) (.b2 q) q q q .lb .gZ q q Dg q q q q (.n q q (.n q q (.b q (.n q q .nil))))) q q q q (by kernel_rfl) (by kernel_rfl)<|bV.fin q q q (dA q q q q)) ?_
     refine ai.bq ?_
     refine ai.a_<|W.bp [1,2,6,21] (br q<|ah (O.add (.lit q) (.k q))<|ar.bp [1,2,6,323] q<|ar.aW) ?_
     obtain rfl:=ax h
     exact ai.go (dA q q q q)
    ·refine W.dd ?_
     refine ai.dc ?_
     obtain rfl:=ax h
     exact ai.aE (dB q q q)
   refine ai.de ?_
   refine ai.a_<|W.aZ [1,2,6,22] ?_
   refine W.bb<|W.aZ [1,2,6,22,23] ?_
   refine W.bq ?_
   obtain ⟨kB,ao,h⟩:=aB h
   refine W.cj (G1:=[(1,_),(2,_),(6,_),(22,_),(23,_)]) (e' q q q q q) ?_
   refine W.e0 (s:=(a6.aq.a',57346,3)) (λ(iB:List bJ × Int × Int)=>[(1,.obj (dU.cells a0)),(2,.obj [.aJ,.aJ,.aJ,af aC,af aC]),(6,.obj [ak bo iB.1,ak a8 i',ak bE a6.aq.aY,af a6.aq.bz,af a6.aq.bA,ak bF a6.b0,ak a8 a6.bW,ak cr a6.bD,j a6.ca,j a6.cb,af a6.b',j a6.bU,j a6.bB]),(22,j iB.2.1),(23,j iB.2.2)]) 18 (λ(kB:List bJ)=>[(1,.obj (dU.cells a0)),(2,.obj [.aJ,.aJ,.aJ,af aC,af aC]),(6,.obj [ak bo kB,ak a8 i',ak bE a6.aq.aY,af a6.aq.bz,af a6.aq.bA,ak bF a6.b0,ak a8 a6.bW,ak cr a6.bD,j a6.ca,j a6.cb,af a6.b',j a6.bU,j a6.bB])]) ao (λiB o h=>?_) ?_
   ·clear ao
    refine W.bb<|W.aZ [1,2,6,22,23,346] ?_
    refine W.bH h q (λQ7 h=>?_) (λQ7 h=>?_)
    ·refine W.bO<|ai.a_ ?_
     refine W.bb ?_
     obtain ⟨zB,aa,h⟩:=aB h
     refine W.bC [(1,.obj (dU.cells a0)),(2,.obj [.aJ,.aJ,.aJ,af aC,af aC]),(6,.obj [ak bo zB.1,ak a8 i',ak bE a6.aq.aY,af a6.aq.bz,af a6.aq.bA,ak bF a6.b0,ak a8 a6.bW,ak cr a6.bD,j a6.ca,j a6.cb,af a6.b',j a6.bU,j a6.bB]),(22,j zB.2),(23,j iB.2.2)] ?_ ?_
     ·clear h; have h:=aa; clear aa
      refine W.bq ?_
      obtain ⟨Hz,KY,h⟩:=aB h
      refine W.bM [1,2,6,22,23,356] (ah (O.aA (.obj q))<|ah (O.eX (.ptr q))<|ah (O.bk q (.ptr q) wV q)<|ah (O.c9 (y:=.bm bF.z ⟨6,[5]⟩ a6.b0.length) q (.ptr q) yq q q)<|br q<|ah (O.gS (en:=bF) q (.bm q) (.lit q) oo KY q)<|ah (O.iZ (en:=bF) (x':=ba Hz) q (.ptr q) nu KY q q)<|ar.aW) ?_
      obtain ⟨zy,aa,h⟩:=aB h
      refine W.bC [(1,.obj (dU.cells a0)),(2,.obj [.aJ,.aJ,.aJ,af aC,af aC]),(6,.obj [ak bo zy.1,ak a8 i',ak bE a6.aq.aY,af a6.aq.bz,af a6.aq.bA,ak bF a6.b0,ak a8 a6.bW,ak cr a6.bD,j a6.ca,j a6.cb,af a6.b',j a6.bU,j a6.bB]),(22,j zy.2),(23,j iB.2.2)] ?_ ?_
      ·clear h; have h:=aa; clear aa
       refine W.bH h q (λQL h=>?_) (λQL h=>?_)
       ·obtain ⟨lg,FZ,h⟩:=aB h
        refine W.bM [1,2,6,22,23] (ah (O.aA (.obj q))<|ah (O.eX (.ptr q))<|ah (O.bk q (.ptr q) j_ q)<|ah (O.bk q (.ptr q) pz q)<|ah (O.c9 (y:=.bm bo.z ⟨6,[0]⟩ iB.1.length) q (.ptr q) q2 q q)<|br q<|br q<|ah (O.gS (en:=bo) q (.bm q) (.lit q) qD FZ q)<|ah (O.j9 (en:=bo) q (.ptr q) yJ FZ q q)<|ar.hs (G2:=[(1,.obj (dU.cells a0)),(2,.obj [.aJ,.aJ,.aJ,af aC,af aC]),(6,.obj [ak bo (iB.1.set iB.2.2.toNat (⟨lg.Name,lg.Lit,iB.2.1,lg.Level,lg.fi,lg.Tag⟩:bJ)),ak a8 i',ak bE a6.aq.aY,af a6.aq.bz,af a6.aq.bA,ak bF a6.b0,ak a8 a6.bW,ak cr a6.bD,j a6.ca,j a6.cb,af a6.b',j a6.bU,j a6.bB]),(22,j iB.2.1),(23,j iB.2.2)]) q (cm.pb (en:=bo) (y2:=(⟨lg.Name,lg.Lit,iB.2.1,lg.Level,lg.fi,lg.Tag⟩:bJ)) (cs':=[j iB.2.1]) (x2:=.obj [ak bo (iB.1.set iB.2.2.toNat (⟨lg.Name,lg.Lit,iB.2.1,lg.Level,lg.fi,lg.Tag⟩:bJ)),ak a8 i',ak bE a6.aq.aY,af a6.aq.bz,af a6.aq.bA,ak bF a6.b0,ak a8 a6.bW,ak cr a6.bD,j a6.ca,j a6.cb,af a6.b',j a6.bU,j a6.bB]) q q (.ptr q) (.lit q) q FZ nk q q q q q q q (.n q q (.n q q (.b q (.n q q (.n q q .nil))))))<|bR q) ?_
        refine W.bp [1,2,6,22,23] (br q<|ah (O.add (.lit q) (.k q))<|ar.bp [1,2,6,23,367] q<|ar.aW) ?_
        obtain rfl:=ax h
        exact ai.bC (e' q q q q q)
       ·refine W.bO ?_
        obtain rfl:=ax h
        exact ai.bC (e' q q q q q)
      refine ai.bq ?_
      obtain rfl:=ax h
      exact ai.bC (e' q q q q q)
     refine ai.a_<|W.bp [1,2,6,22,23] (br q<|ah (O.add (.lit q) (.k q))<|ar.bp [1,2,6,22,348] q<|ar.aW) ?_
     obtain rfl:=ax h
     exact ai.go (e' q q q q q)
    ·refine W.dd ?_
     refine ai.dc ?_
     obtain rfl:=ax h
     exact ai.aE (dB q q q)
   refine ai.de ?_
   refine ai.a_ ?_
   obtain ⟨qX,aa,h⟩:=aB h
   refine W.rs [(1,.obj (dU.cells a0)),(2,.obj [.aJ,.aJ,.aJ,af aC,af aC]),(6,.obj [ak bo kB,ak a8 i',ak bE a6.aq.aY,af a6.aq.bz,af a6.aq.bA,ak bF a6.b0,ak a8 a6.bW,ak cr a6.bD,j a6.ca,j a6.cb,af a6.b',j a6.bU,j a6.bB]),(24,ba qX)] ?_ ?_
   ·refine ah (O.aA (.obj q))<|ah (O.eX (.ptr q))<|ah (O.bk q (.ptr q) j_ q)<|ah (O.bk q (.ptr q) pz q)<|ah (O.c9 (y:=.bm bo.z ⟨6,[0]⟩ kB.length) q (.ptr q) q2 q q)<|ah (O.o2 (.bm q) qD)<|ah (O.gtr (.lit q) (.k q))<|ah (O.aA (.lit q)) ?_
    rcases cI aa with ⟨r_,aa⟩ | ⟨r_,aa⟩
    ·obtain rfl:=ax aa
     exact ar.aW
    ·refine a1 r_ (O.aA (.obj q))<|a1 r_ (O.eX (.ptr q))<|a1 r_ (O.bk q (.ptr q) j_ q)<|a1 r_ (O.bk q (.ptr q) r2 q)<|a1 r_ (O.c9 (y:=.bm a8.z ⟨6,[1]⟩ i'.length) q (.ptr q) rW q q)<|a1 r_ (O.o2 (.bm q) ry)<|a1 r_ (O.gtr (.lit q) (.k q))<|ah (O.cC (.lit q) r_ (.lit q))<|ah (O.aA (.lit q)) ?_
     rcases cI aa with ⟨J_,aa⟩ | ⟨J_,aa⟩
     ·obtain rfl:=ax aa
      exact ar.aW
     ·obtain rfl:=ax aa
      exact a1 J_ (O.aA (.obj q))<|ar.aW
   refine W.bb<|W.aZ [1,2,6,24,25] ?_
   refine W.bq ?_
   obtain ⟨AV,ao,h⟩:=aB h
   refine W.cj (G1:=[(1,_),(2,_),(6,_),(24,_),(25,_)]) (e' q q q q q) ?_
   refine W.e0 (s:=(qX,0)) (λ(ru:Bool × Int)=>[(1,.obj (dU.cells a0)),(2,.obj [.aJ,.aJ,.aJ,af aC,af aC]),(6,.obj [ak bo kB,ak a8 i',ak bE a6.aq.aY,af a6.aq.bz,af a6.aq.bA,ak bF a6.b0,ak a8 a6.bW,ak cr a6.bD,j a6.ca,j a6.cb,af a6.b',j a6.bU,j a6.bB]),(24,ba ru.1),(25,j ru.2)]) 20 (λ(AV:Bool)=>[(1,.obj (dU.cells a0)),(2,.obj [.aJ,.aJ,.aJ,af aC,af aC]),(6,.obj [ak bo kB,ak a8 i',ak bE a6.aq.aY,af a6.aq.bz,af a6.aq.bA,ak bF a6.b0,ak a8 a6.bW,ak cr a6.bD,j a6.ca,j a6.cb,af a6.b',j a6.bU,j a6.bB]),(24,ba AV)]) ao (λru o h=>?_) ?_
   ·clear ao
    refine W.bb<|W.aZ [1,2,6,24,25,400] ?_
    refine W.bH h q (λQM h=>?_) (λQM h=>?_)
    ·refine W.bO<|ai.a_ ?_
     refine W.bb<|W.bq ?_
     obtain ⟨DV,aa,h⟩:=aB h
     refine W.rx [(1,.obj (dU.cells a0)),(2,.obj [.aJ,.aJ,.aJ,af aC,af aC]),(6,.obj [ak bo kB,ak a8 i',ak bE a6.aq.aY,af a6.aq.bz,af a6.aq.bA,ak bF a6.b0,ak a8 a6.bW,ak cr a6.bD,j a6.ca,j a6.cb,af a6.b',j a6.bU,j a6.bB]),(24,ba DV),(25,j ru.2)] ?_ ?_
     ·refine br q<|ah (O.aA (.lit q)) ?_
      rcases cI aa with ⟨jX,aa⟩ | ⟨jX,aa⟩
      ·obtain rfl:=ax aa
       exact cH jX<|cH jX<|cH jX<|cH jX<|cH jX<|cH jX<|cH jX<|cH jX<|cH jX<|cH jX<|cH jX<|ah (O.eu (.lit q) jX (.k q))<|ar.bp [1,2,6,25,416] q<|ar.aW
      ·refine a1 jX (O.aA (.obj q))<|a1 jX (O.eX (.ptr q))<|a1 jX (O.bk q (.ptr q) j_ q)<|a1 jX (O.bk q (.ptr q) l5 q)<|a1 jX (O.c9 (y:=.bm bE.z ⟨6,[2]⟩ a6.aq.aY.length) q (.ptr q) nv q q)<|a1 jX (O.aA (.lit q)) ?_
       obtain ⟨HA,F0,aa⟩:=aB aa
       obtain rfl:=ax aa
       exact a1 jX (O.gS (en:=bE) q (.bm q) (.lit q) nj F0 q)<|a1 jX (O.j9 (en:=bE) q (.ptr q) mE F0 q q)<|a1 jX (O.iZ (en:=bE) (x':=aj aL HA.fo) q (.ptr q) gX F0 q q)<|a1 jX (O.gz (.aD q) eI)<|a1 jX (O.gtr (.lit q) (.k q))<|ah (O.cC (.lit q) jX (.lit q))<|ar.bp [1,2,6,25,416] q<|ar.aW
     refine ai.bq ?_
     refine ai.a_<|W.bp [1,2,6,24,25] (br q<|ah (O.add (.lit q) (.k q))<|ar.bp [1,2,6,24,402] q<|ar.aW) ?_
     obtain rfl:=ax h
     exact ai.go (e' q q q q q)
    ·refine W.dd ?_
     refine ai.dc ?_
     obtain rfl:=ax h
     exact ai.aE (dA q q q q)
   refine ai.de ?_
   refine ai.a_<|W.bb ?_
   refine W.aZ [1,2,6,417] ?_
   refine W.bH h q (λQN h=>?_) (λQN h=>?_)
   ·refine W.bM [2,3,4,5] (ah (O.eS (cs:=[.aJ,.aJ,.aJ,af aC,af aC]) Hg pe q q q)<|ar.dI (G2:=[(2,_)]) (cs2:=[.aJ,.aJ,.aJ,af aC,af aC]) q (.obj q) (.cg q q) q nL q q q q (.b q .nil)<|ar.aW) ?_
    refine W.fE (G1:=[(2,.obj [aj bo ([]:List bJ),aj a8 ([]:List eW),aj bE ([]:List Prod),af aC,af aC]),(3,_),(4,_),(5,_)]) [2] (.z q q (gu.obj (.z (.z (.z (.f (.f .nil)))))) (.n q q (.n q q (.n q q .nil)))) ?_
    refine W.rt ?_
    refine ai.c_ ?_
    obtain rfl:=ax h
    exact cA (.c (ys0:=[aj bo ([]:List bJ),aj a8 ([]:List eW),aj bE ([]:List Prod),af aC,af aC]) q gg q q q (.f q (.f q (.f q (.f q (.f q .nil))))) (.f q q (.f q q (.f q q .nil))))
   ·refine W.bO<|ai.a_ ?_
    refine W.bb<|W.rd [[],[],[],[2],[],[4],[0,2,3],[0,2,3,6],[0,2,3,6,7],[0,2,3,6,7,8],aO 0 10 [],aO 0 11 [],aO 0 12 [],aO 0 13 []] [(2,_),(6,_)] e1 (by kernel_rfl) (au 0 (O.aA (.obj q))<|au 1 (O.aA (.obj q))<|au 2 (O.bk q (.obj q) Es q)<|au 3 (O.cB q (.ptr q) eZ q)<|au 4 (O.bk q (.obj q) Et q)<|au 5 (O.cB q (.ptr q) eZ q)<|au 6 (O.eX (.ptr q))<|au 7 (O.bk q (.ptr q) j_ q)<|au 8 (O.bk q (.ptr q) Jt q)<|bV.eS 9 (G2:=[(1,.obj (dU.cells a0)),(2,.obj [.aJ,.aJ,.aJ,af aC,af aC]),(6,.obj [ak bo kB,ak a8 i',ak bE a6.aq.aY,af a0.bz,af a6.aq.bA,ak bF a6.b0,ak a8 a6.bW,ak cr a6.bD,j a6.ca,j a6.cb,af a6.b',j a6.bU,j a6.bB])]) (U:=[(5,424,some (af a0.bA)),(4,423,some (.ptr ⟨1,[]⟩ 3)),(1,420,some (.ptr ⟨6,[]⟩ 0))]) (l1.v (cm.nZ (cm.dI (G2:=[(1,.obj (dU.cells a0)),(2,.obj [.aJ,.aJ,.aJ,af aC,af aC]),(6,.obj [ak bo kB,ak a8 i',ak bE a6.aq.aY,af a0.bz,af a6.aq.bA,ak bF a6.b0,ak a8 a6.bW,ak cr a6.bD,j a6.ca,j a6.cb,af a6.b',j a6.bU,j a6.bB])]) (cs2:=[ak bo kB,ak a8 i',ak bE a6.aq.aY,af a0.bz,af a6.aq.bA,ak bF a6.b0,ak a8 a6.bW,ak cr a6.bD,j a6.ca,j a6.cb,af a6.b',j a6.bU,j a6.bB]) q q q (.ptr q) (.lit q) q vW q q q q (.n q q (.n q q (.b q .nil)))))) q q (by kernel_rfl) q q q (.c (.inr (.inl ⟨_,q⟩)) q q q q q (gv.wanted .none) (O.cB q (.ptr q) eZ q) (.c (.inr (.inr (.inr (.inl ⟨1,_,_,q,q,jo q,by simp,_,q,jo q⟩)))) q q q q q (gv.wanted .none) (O.bk q (.obj q) Et q) (.c (.inr (.inr (.inr (.inl ⟨6,_,_,q,q,jo q,by simp,_,q,jo q⟩)))) q q q q q (gv.wanted .none) (O.aA (.obj q)) .nil))) (by kernel_rfl)<|au 10 (O.eX (.ptr q))<|au 11 (O.bk q (.ptr q) j_ q)<|au 12 (O.bk q (.ptr q) Ju q)<|bV.dI 13 (G2:=[(2,.obj [.aJ,.aJ,.aJ,af aC,af aC]),(6,.obj [ak bo kB,ak a8 i',ak bE a6.aq.aY,af a0.bz,af a0.bA,ak bF a6.b0,ak a8 a6.bW,ak cr a6.bD,j a6.ca,j a6.cb,af a6.b',j a6.bU,j a6.bB])]) (cs2:=[ak bo kB,ak a8 i',ak bE a6.aq.aY,af a0.bz,af a0.bA,ak bF a6.b0,ak a8 a6.bW,ak cr a6.bD,j a6.ca,j a6.cb,af a6.b',j a6.bU,j a6.bB]) q (by kernel_rfl) (by kernel_rfl) q q q (.ptr q) (.lit q) q vW q q q q (.n q q (.b q .nil))<|bV.fin q q q (fe q q)) ?_
    refine ai.a_<|W.bb ?_
    refine W.fE (G1:=[(2,_),(6,.obj [aj bo kB,aj a8 i',aj bE a6.aq.aY,af a0.bz,af a0.bA,ak bF a6.b0,ak a8 a6.bW,ak cr a6.bD,j a6.ca,j a6.cb,af a6.b',j a6.bU,j a6.bB])]) [6] (.n q q (.z q q (gu.obj (.z (.z (.z (.f (.f (.f (.f (.f (.f (.f (.f (.f (.f .nil)))))))))))))) .nil)) ?_
    refine W.bp [2,3,4,5] (ah (O.aA (.obj q))<|ah (O.eX (.ptr q))<|ah (O.bk q (.ptr q) j_ q)<|ah (O.dT (cs':=[aj bo kB,aj a8 i',aj bE a6.aq.aY,af a0.bz,af a0.bA]) q (.ptr q) gg q q)<|ar.dI (G2:=[(2,_)]) (cs2:=[aj bo kB,aj a8 i',aj bE a6.aq.aY,af a0.bz,af a0.bA]) q (.obj q) (.cg q q) q nL q q q q (.b q .nil)<|ar.aW) ?_
    refine ai.a_<|W.rt ?_
    obtain rfl:=ax h
    exact cA (.c (ys0:=[aj bo kB,aj a8 i',aj bE a6.aq.aY,af a0.bz,af a0.bA]) q gg q q q (.f q (.f q (.f q (.f q (.f q .nil))))) (.f q q (.f q q (.f q q .nil))))
theorem ON (a0:Source) (r:bZ × Bool) (h:Am a0=some r):b_ Try.prog 68 [.agg (dU.cells a0)] [none] (.cw [.agg (ch.cells r.1),ba r.2]):=by
 unfold Am at h
 refine b_.go (N:=⟨18,[]⟩) Try.func68 q q q q (W.fin ?_)
 refine W.st [(0,.agg (dU.cells a0))] ?_
 refine W.bM [1,2] (ah (O.box (.cg q q) q)<|ah (O.fD (cs:=[.aJ,.aJ,.aJ,af aC,af aC]) pe q q)<|ar.aW) ?_
 obtain ⟨aE,fp,h⟩:=aB h
 refine W.bM [2,4,5] (ah (O.dT (cs':=[af a0.bz,aj cM a0.Decls,aj gN a0.ea,af a0.bA]) q (.obj q) qV q q)<|dL (cu.go (.bX (.cg q q) .nil) (OU a0 _ fp) call78 q)<|ah (O.aA (.cw q q))<|ah (O.ex (y:=.agg (ch.cells aE.1)) q q q)<|ah (O.ex (y:=j aE.2.1) q q q)<|ah (O.ex (y:=j aE.2.2.1) q q q)<|ah (O.ex (y:=af aE.2.2.2) q q q)<|ah (O.fD (cs:=[.aJ,.aJ,.aJ,af aC,af aC]) pe q q)<|ar.dI (G2:=[(2,_),(4,_),(12,_),(13,_),(14,_)]) (cs2:=[aj bo aE.1.a',aj a8 aE.1.bw,aj bE aE.1.aY,af aE.1.bz,af aE.1.bA]) q (.obj q) (.cg q q) q nL q q q q (.n q q (.b q (.n q q (.n q q (.n q q .nil)))))<|ar.aW) ?_
 refine W.bM [2,3] (ah (O.dT (cs':=[aj bo aE.1.a',aj a8 aE.1.bw,aj bE aE.1.aY,af aE.1.bz,af aE.1.bA]) q (.obj q) gg q q)<|br q<|ah (O.eql (.lit q) (.k q))<|ar.dI (G2:=[(2,_),(17,_)]) (cs2:=[aj bo aE.1.a',aj a8 aE.1.bw,aj bE aE.1.aY,af aE.1.bz,af aE.1.bA]) q (.obj q) (.cg q q) q nL q q q q (.b q (.n q q .nil))<|ar.aW) ?_
 refine W.rt ?_
 obtain rfl:=ax h
 exact cA (.c (ys0:=[aj bo aE.1.a',aj a8 aE.1.bw,aj bE aE.1.aY,af aE.1.bz,af aE.1.bA]) q gg q q q (.f q (.f q (.f q (.f q (.f q .nil))))) (.f q q .nil))
theorem uE (a0:(List Int)) (av:Int) (r:(List Int)) (h:o6 a0 av=some r):b_ Try.prog 67 [aj aL a0,j av] [none,none] (aj aL r):=by
 unfold o6 at h
 refine b_.go (N:=⟨47,[]⟩) Try.func67 q q q q (W.fin ?_)
 refine W.st [(0,aj aL a0),(1,j av)] ?_
 refine W.aZ [0,1] ?_
 refine W.aZ [0,1,5] ?_
 refine W.bb<|W.bq ?_
 obtain ⟨x2,ao,h⟩:=aB h
 refine W.cj (G1:=[(0,_),(1,_),(5,_)]) (dB q q q) ?_
 refine W.e0 (s:=(a0.length:Int)) (λ(s1:Int)=>[(0,aj aL a0),(1,j av),(5,j s1)]) 0 (λ(x2:Int)=>[(0,aj aL a0),(1,j av),(5,j x2)]) ao (λs1 o h=>?_) ?_
 ·clear ao
  refine W.bb ?_
  obtain ⟨uB,aa,h⟩:=aB h
  refine W.rs [(0,aj aL a0),(1,j av),(5,j s1),(19,ba uB)] ?_ ?_
  ·refine br q<|ah (O.gtr (.lit q) (.k q))<|ah (O.aA (.lit q)) ?_
   rcases cI aa with ⟨df,aa⟩ | ⟨df,aa⟩
   ·refine a1 df (O.aA (.aD q))<|a1 df (O.aA (.lit q))<|a1 df (O.sub (.lit q) (.k q)) ?_
    obtain ⟨ck,kQ,aa⟩:=aB aa
    obtain rfl:=ax aa
    exact ar.aW
   ·obtain rfl:=ax aa
    exact ar.aW
  refine W.bH h q (λcU h=>?_) (λcU h=>?_)
  ·refine W.bO<|ai.a_ ?_
   refine W.bq<|W.bp [0,1,5] (br q<|ah (O.sub (.lit q) (.k q))<|ar.bp [0,1,21] q<|ar.aW) ?_
   refine ai.bq ?_
   obtain rfl:=ax h
   exact ai.go (dB q q q)
  ·refine W.dd ?_
   refine ai.dc ?_
   obtain rfl:=ax h
   exact ai.aE (dB q q q)
 refine ai.de ?_
 refine ai.a_<|W.bb ?_
 obtain ⟨je,aa,h⟩:=aB h
 refine W.rs [(0,aj aL a0),(1,j av),(5,j x2),(32,ba je)] ?_ ?_
 ·refine br q<|ah (O.gtr (.lit q) (.k q))<|ah (O.aA (.lit q)) ?_
  rcases cI aa with ⟨cR,aa⟩ | ⟨cR,aa⟩
  ·refine a1 cR (O.aA (.aD q))<|a1 cR (O.aA (.lit q))<|a1 cR (O.sub (.lit q) (.k q)) ?_
   obtain ⟨ct,iV,aa⟩:=aB aa
   obtain rfl:=ax aa
   exact ar.aW
  ·obtain rfl:=ax aa
   exact ar.aW
 refine W.bH h q (λft h=>?_) (λft h=>?_)
 ·refine W.aZ [4] ?_
  refine W.rt ?_
  refine ai.c_ ?_
  obtain rfl:=ax h
  exact cA (.f q q .nil)
 ·refine W.bO<|ai.a_ ?_
  obtain ⟨cO,kq,h⟩:=aB h
  obtain ⟨dR,jE,h⟩:=aB h
  refine W.bM [0,1,5,6] (ah (O.dF (ys:=[]) aL ([]:List Int) eI q q q q q q nm q q)<|ah (O.aA (.aD q))<|br q<|ah (O.Hj (.aD q) (.lit q) eI kq)<|ah (O.ap (en:=aL) (r:=dR) (.own q) q (.aD q) .i pt q jE)<|ar.gI (G2:=[(0,aj aL a0),(1,j av),(5,j x2)]) q (cm.oG q q (.b2 q) q q q (.n q q (.n q q (.n q q .nil))) q q)<|bR q) ?_
  refine W.bb ?_
  obtain ⟨d',kr,h⟩:=aB h
  obtain ⟨dt,iJ,h⟩:=aB h
  obtain ⟨cn,lq,h⟩:=aB h
  refine W.rd [[],[],[1],[0,1,2],[],[],[4,5],aO 0 7 [],aO 0 8 []] [(4,_)] e1 (by kernel_rfl) (au 0 (O.aA (.own q))<|au 1 (O.aA (.lit q))<|bV.gq 2 (x:=aj aL [av]) (O.dF (ys:=[j av]) aL [av] eI q q q q q q nm q q) q q q q .none<|au 3 (O.ap (en:=aL) (r:=d') (.bm q) q (.aD q) .i pt q kr)<|au 4 (O.aA (.aD q))<|au 5 (O.aA (.lit q))<|au 6 (O.Hk (.aD q) (.lit q) eI iJ)<|au 7 (O.Ic (en:=aL) (r:=cn) (.b2 q) q q (.aD q) .i pt q lq)<|bV.bv 8 (G2:=[]) (cm.H7 q q (.b2 q) q q q q q q .nil q q) q q q q (by kernel_rfl) (by kernel_rfl)<|bV.fin q q q (.n q .nil)) ?_
  refine ai.a_<|W.fE (G1:=[(4,aj aL ((([]:List Int)++cO)++[av]++dt))]) [4] (.z q q .js .nil) ?_
  refine W.rt ?_
  obtain rfl:=ax h
  exact cA (.f q q .nil)
theorem I1 (a0:(List Int)) (av:Int) (r:Bool) (h:xJ a0 av=some r):b_ Try.prog 70 [aj aL a0,j av] [none,none] (ba r):=by
 unfold xJ at h
 refine b_.go (N:=⟨18,[]⟩) Try.func70 q q q q (W.fin ?_)
 refine W.st [(0,aj aL a0),(1,j av)] ?_
 refine W.aZ [0,1] ?_
 refine W.bb<|W.aZ [0,1,5] ?_
 refine W.bq ?_
 obtain ⟨x2,ao,h⟩:=aB h
 refine W.cj (G1:=[(0,_),(1,_),(5,_)]) (dB q q q) ?_
 refine W.jM (s:=0) (λ(s1:Int)=>[(0,aj aL a0),(1,j av),(5,j s1)]) 0 (λ(aX:Unit)=>[]) (λ(bN:Bool)=>[(4,ba bN)]) ao (λs1 o h=>?_) (λaX J=>?_) (λbN J=>?_)
 ·clear ao
  refine W.bb<|W.aZ [0,1,5,9] ?_
  refine W.bH h q (λdK h=>?_) (λdK h=>?_)
  ·refine W.bO<|ai.a_ ?_
   refine W.bb<|W.bq ?_
   obtain ⟨bu,fH,h⟩:=aB h
   refine W.aZ [0,1,5,17] ?_
   refine W.bH h q (λcU h=>?_) (λcU h=>?_)
   ·refine W.aZ [4] ?_
    refine W.rt ?_
    refine ai.ee ?_
    refine ai.c_ ?_
    obtain rfl:=ax h
    exact ai.gm (.n q .nil)
   ·refine W.bO<|ai.bq ?_
    refine ai.a_<|W.bp [0,1,5] (br q<|ah (O.add (.lit q) (.k q))<|ar.bp [0,1,11] q<|ar.aW) ?_
    obtain rfl:=ax h
    exact ai.go (dB q q q)
  ·refine W.dd ?_
   refine ai.dc ?_
   obtain rfl:=ax h
   exact ai.x2 .nil
 ·subst J
  refine ai.de ?_
  refine ai.a_<|W.aZ [4] ?_
  refine W.rt ?_
  obtain rfl:=ax h
  exact cA (.f q q .nil)
 ·subst J
  refine ai.ee ?_
  refine ai.c_ ?_
  obtain rfl:=ax h
  exact cA (.f q q .nil)
theorem OV (a0:bZ) (r:(List Int)) (h:As a0=some r):b_ Try.prog 79 [.agg (ch.cells a0)] [none] (aj aL r):=by
 unfold As at h
 refine b_.go (N:=⟨30,[]⟩) Try.func79 q q q q (W.fin ?_)
 refine W.st [(0,.agg (ch.cells a0))] ?_
 refine W.bM [1] (ah (O.box (.cg q q) q)<|ar.aW) ?_
 refine W.aZ [1,3] ?_
 refine W.bb<|W.aZ [1,3,4] ?_
 refine W.bq ?_
 obtain ⟨x2,ao,h⟩:=aB h
 refine W.cj (G1:=[(1,_),(3,ak aL ([]:List Int)),(4,_)]) (.n q (.w q q .o4 (.n q .nil))) ?_
 refine W.e0 (s:=(([]:List Int),0)) (λ(s1:List Int × Int)=>[(1,.obj (ch.cells a0)),(3,ak aL s1.1),(4,j s1.2)]) 0 (λ(x2:List Int)=>[(1,.obj (ch.cells a0)),(3,ak aL x2)]) ao (λs1 o h=>?_) ?_
 ·clear ao
  refine W.bb<|W.aZ [1,3,4,10] ?_
  refine W.bH h q (λdf h=>?_) (λdf h=>?_)
  ·refine W.bO<|ai.a_ ?_
   refine W.bb<|W.bq ?_
   obtain ⟨ck,kQ,h⟩:=aB h
   refine W.bp [1,3,4] (ah (O.aA (.own q))<|br q<|ar.gq (x:=aj aL [s1.2]) (O.dF (ys:=[j s1.2]) aL [s1.2] eI q q q q q q nm q q) q q .none<|ah (O.ap (en:=aL) (r:=ck) (.bm q) q (.aD q) .i pt q kQ)<|ar.gI (G2:=[(1,.obj (ch.cells a0)),(4,j s1.2)]) q (cm.oG q q (.b2 q) q q q (.n q q (.n q q .nil)) q q)<|bR q) ?_
   refine ai.bq ?_
   refine ai.a_<|W.bp [1,3,4] (br q<|ah (O.add (.lit q) (.k q))<|ar.bp [1,3,12] q<|ar.aW) ?_
   obtain rfl:=ax h
   exact ai.go (dB q q q)
  ·refine W.dd ?_
   refine ai.dc ?_
   obtain rfl:=ax h
   exact ai.aE (fe q q)
 refine ai.de ?_
 refine ai.a_<|W.bb ?_
 refine W.aZ [1,3,5] ?_
 refine W.bq ?_
 obtain ⟨bl,ao,h⟩:=aB h
 refine W.cj (G1:=[(1,_),(3,_),(5,_)]) (dB q q q) ?_
 refine W.e0 (s:=(x2,0)) (λ(cY:List Int × Int)=>[(1,.obj (ch.cells a0)),(3,ak aL cY.1),(5,j cY.2)]) 2 (λ(bl:List Int)=>[(3,ak aL bl)]) ao (λcY o h=>?_) ?_
 ·clear ao
  refine W.bb<|W.aZ [1,3,5,21] ?_
  refine W.bH h q (λey h=>?_) (λey h=>?_)
  ·refine W.bO<|ai.a_ ?_
   refine W.bb<|W.bq ?_
   obtain ⟨bQ,jk,h⟩:=aB h
   refine W.bp [1,3,5] (ah (O.aA (.own q))<|br q<|ah (O.add (.k q) (.lit q))<|ar.gq (x:=aj aL [aM (1000+cY.2)]) (O.dF (ys:=[j (aM (1000+cY.2))]) aL [aM (1000+cY.2)] eI q q q q q q nm q q) q q .none<|ah (O.ap (en:=aL) (r:=bQ) (.bm q) q (.aD q) .i pt q jk)<|ar.gI (G2:=[(1,.obj (ch.cells a0)),(5,j cY.2)]) q (cm.oG q q (.b2 q) q q q (.n q q (.n q q .nil)) q q)<|bR q) ?_
   refine ai.bq ?_
   refine ai.a_<|W.bp [1,3,5] (br q<|ah (O.add (.lit q) (.k q))<|ar.bp [1,3,23] q<|ar.aW) ?_
   obtain rfl:=ax h
   exact ai.go (dB q q q)
  ·refine W.dd ?_
   refine ai.dc ?_
   obtain rfl:=ax h
   exact ai.aE (.n q .nil)
 refine ai.de ?_
 refine ai.a_<|W.bM [2] (ah (O.aA (.own q))<|ar.gI (G2:=[]) q (cm.kG q q (.bm q) q .nil q q)<|bR q) ?_
 refine W.fE (G1:=[(2,aj aL bl)]) [2] (.z q q .js .nil) ?_
 refine W.rt ?_
 obtain rfl:=ax h
 exact cA (.f q q .nil)
theorem IN (a0:bZ) (av:Item) (r:Bool) (h:xx a0 av=some r):b_ Try.prog 102 [.agg (ch.cells a0),.agg [j av.Prod,j av.dC]] [none,none] (ba r):=by
 unfold xx at h
 refine b_.go (N:=⟨34,[]⟩) Try.func102 q q q q (W.fin ?_)
 refine W.st [(0,.agg (ch.cells a0)),(1,.agg [j av.Prod,j av.dC])] ?_
 refine W.bM [2,3] (ah (O.box (.cg q q) q)<|ah (O.box (.cg q q) q)<|ar.aW) ?_
 refine W.bb ?_
 obtain ⟨kk,aa,h⟩:=aB h
 refine W.rd [[],[0],[0,1],[0,1,2],[0,1,2,3],aO 0 5 [],[0,1,2,3],[0,1,2,3,6],[0,1,2,3,6,7],aO 0 9 [],aO 0 10 [],aO 0 11 [],aO 0 12 [],aO 0 13 [],aO 0 14 [],aO 0 15 [],aO 0 16 [],aO 0 17 [],aO 0 18 [],aO 0 17 [],aO 0 17 [19],aO 0 17 [],aO 0 17 [21],aO 0 17 [19,20,21,22],aO 0 17 (aO 19 5 []),aO 0 17 (aO 19 6 []),aO 0 17 (aO 19 7 []),aO 0 27 [],aO 0 28 [],aO 0 29 []] [(4,ba kk)] e1 (by kernel_rfl) ?_ ?_
 ·refine au 0 (O.bk q (.obj q) mX q)<|au 1 (O.cB q (.ptr q) cz q)<|au 2 (O.geq (.lit q) (.k q))<|au 3 (O.aA (.lit q)) ?_
  rcases cI aa with ⟨ds,aa⟩ | ⟨ds,aa⟩
  ·refine bx 4 ds (O.bk q (.obj q) mX q)<|bx 5 ds (O.cB q (.ptr q) cz q)<|bx 6 ds (O.bk q (.obj q) l5 q)<|bx 7 ds (O.c9 (y:=aj bE a0.aY) q (.ptr q) nv q q)<|bx 8 ds (O.gz (.aD q) nj)<|bx 9 ds (O.lss (.lit q) (.lit q))<|au 10 (O.eu (.lit q) ds (.lit q))<|au 11 (O.aA (.lit q)) ?_
   rcases cI aa with ⟨cX,aa⟩ | ⟨cX,aa⟩
   ·refine bx 12 cX (O.bk q (.obj q) q6 q)<|bx 13 cX (O.cB q (.ptr q) cz q)<|bx 14 cX (O.geq (.lit q) (.k q))<|au 15 (O.eu (.lit q) cX (.lit q))<|au 16 (O.aA (.lit q)) ?_
    rcases cI aa with ⟨fb,aa⟩ | ⟨fb,aa⟩
    ·refine bx 17 fb (O.bk q (.obj q) q6 q)<|bx 18 fb (O.cB q (.ptr q) cz q)<|bx 19 fb (O.bk q (.obj q) l5 q)<|bx 20 fb (O.c9 (y:=aj bE a0.aY) q (.ptr q) nv q q)<|bx 21 fb (O.bk q (.obj q) mX q)<|bx 22 fb (O.cB q (.ptr q) cz q) ?_
     obtain ⟨bN,mL,aa⟩:=aB aa
     obtain rfl:=ax aa
     exact bx 23 fb (O.cE (.aD q) (.lit q) nj mL)<|bx 24 fb (O.eP (.bn q) mE)<|bx 25 fb (O.c8 (x:=aj aL bN.fo) (.bn q) gX q)<|bx 26 fb (O.gz (.aD q) eI)<|bx 27 fb (O.leq (.lit q) (.lit q))<|au 28 (O.eu (.lit q) fb (.lit q))<|au 29 (O.dv (.lit q))<|bV.fin q q q (.n q .nil)
    ·obtain rfl:=ax aa
     exact aH 17 fb<|aH 18 fb<|aH 19 fb<|aH 20 fb<|aH 21 fb<|aH 22 fb<|aH 23 fb<|aH 24 fb<|aH 25 fb<|aH 26 fb<|aH 27 fb<|au 28 (O.cC (.lit q) fb (.k q))<|au 29 (O.dv (.lit q))<|bV.fin q q q (.n q .nil)
   ·obtain rfl:=ax aa
    exact aH 12 cX<|aH 13 cX<|aH 14 cX<|au 15 (O.cC (.lit q) cX (.k q))<|au 16 (O.aA (.lit q))<|aH 17 q<|aH 18 q<|aH 19 q<|aH 20 q<|aH 21 q<|aH 22 q<|aH 23 q<|aH 24 q<|aH 25 q<|aH 26 q<|aH 27 q<|au 28 (O.cC (.lit q) q (.k q))<|au 29 (O.dv (.lit q))<|bV.fin q q q (.n q .nil)
  ·obtain rfl:=ax aa
   exact aH 4 ds<|aH 5 ds<|aH 6 ds<|aH 7 ds<|aH 8 ds<|aH 9 ds<|au 10 (O.cC (.lit q) ds (.k q))<|au 11 (O.aA (.lit q))<|aH 12 q<|aH 13 q<|aH 14 q<|au 15 (O.cC (.lit q) q (.k q))<|au 16 (O.aA (.lit q))<|aH 17 q<|aH 18 q<|aH 19 q<|aH 20 q<|aH 21 q<|aH 22 q<|aH 23 q<|aH 24 q<|aH 25 q<|aH 26 q<|aH 27 q<|au 28 (O.cC (.lit q) q (.k q))<|au 29 (O.dv (.lit q))<|bV.fin q q q (.n q .nil)
 refine ai.a_<|W.rt ?_
 obtain rfl:=ax h
 exact cA (.f q q .nil)
theorem Ec (a0:bZ) (av:Item) (r:Int) (h:vI a0 av=some r):b_ Try.prog 81 [.agg (ch.cells a0),.agg [j av.Prod,j av.dC]] [none,none] (j r):=by
 unfold vI at h
 refine b_.go (N:=⟨33,[]⟩) Try.func81 q q q q (W.fin ?_)
 refine W.st [(0,.agg (ch.cells a0)),(1,.agg [j av.Prod,j av.dC])] ?_
 refine W.bM [2,3] (ah (O.box (.cg q q) q)<|ah (O.box (.cg q q) q)<|ar.aW) ?_
 refine W.bb<|W.bb ?_
 obtain ⟨c4,aa,h⟩:=aB h
 refine W.rd [[],[],[0,1],[0,1,2],[0,1,2,3],aO 0 5 [],aO 0 6 [],aO 0 5 [],aO 0 5 [7],aO 0 5 [],aO 0 5 [9],aO 0 5 [7,8,9,10],aO 0 5 (aO 7 5 []),aO 0 5 (aO 7 6 []),aO 0 5 (aO 7 7 []),aO 0 15 [],aO 0 16 []] [(2,.obj (ch.cells a0)),(3,.obj [j av.Prod,j av.dC]),(21,ba c4)] e1 (by kernel_rfl) ?_ ?_
 ·refine au 0 (O.dT (cs':=[aj bo a0.a',aj a8 a0.bw,aj bE a0.aY,af a0.bz,af a0.bA]) q (.obj q) gg q q)<|au 1 (O.dT (cs':=[j av.Prod,j av.dC]) q (.obj q) pw q q) ?_
  obtain ⟨aE,fp,aa⟩:=aB aa
  refine iM 2 (cu.go (.bX (.cg q q) (.bX (.cg q q) .nil)) (IN a0 av _ fp) call102 q)<|au 3 (O.not (.lit q))<|au 4 (O.aA (.lit q)) ?_
  rcases cI aa with ⟨cX,aa⟩ | ⟨cX,aa⟩
  ·obtain rfl:=ax aa
   exact aH 5 cX<|aH 6 cX<|aH 7 cX<|aH 8 cX<|aH 9 cX<|aH 10 cX<|aH 11 cX<|aH 12 cX<|aH 13 cX<|aH 14 cX<|aH 15 cX<|au 16 (O.eu (.lit q) cX (.k q))<|bV.fin q q q (dB q q q)
  ·refine bx 5 cX (O.bk q (.obj q) q6 q)<|bx 6 cX (O.cB q (.ptr q) cz q)<|bx 7 cX (O.bk q (.obj q) l5 q)<|bx 8 cX (O.c9 (y:=aj bE a0.aY) q (.ptr q) nv q q)<|bx 9 cX (O.bk q (.obj q) mX q)<|bx 10 cX (O.cB q (.ptr q) cz q) ?_
   obtain ⟨aX,hL,aa⟩:=aB aa
   obtain rfl:=ax aa
   exact bx 11 cX (O.cE (.aD q) (.lit q) nj hL)<|bx 12 cX (O.eP (.bn q) mE)<|bx 13 cX (O.c8 (x:=aj aL aX.fo) (.bn q) gX q)<|bx 14 cX (O.gz (.aD q) eI)<|bx 15 cX (O.eql (.lit q) (.lit q))<|au 16 (O.cC (.lit q) cX (.lit q))<|bV.fin q q q (dB q q q)
 refine ai.a_<|W.bH h q (λdK h=>?_) (λdK h=>?_)
 ·refine W.aZ [4] ?_
  refine W.rt ?_
  refine ai.c_ ?_
  obtain rfl:=ax h
  exact cA (.f q q .nil)
 ·refine W.bO<|ai.a_ ?_
  refine W.bb ?_
  obtain ⟨bu,fH,h⟩:=aB h
  obtain ⟨bl,gb,h⟩:=aB h
  refine W.rd [[],[0],[],[2],[0,1,2,3],aO 0 5 [],aO 0 6 [],[],[7],aO 0 9 [],aO 0 10 [],aO 0 11 []] [(4,_)] e1 (by kernel_rfl) (au 0 (O.bk q (.obj q) l5 q)<|au 1 (O.c9 (y:=aj bE a0.aY) q (.ptr q) nv q q)<|au 2 (O.bk q (.obj q) mX q)<|au 3 (O.cB q (.ptr q) cz q)<|au 4 (O.cE (.aD q) (.lit q) nj fH)<|au 5 (O.eP (.bn q) mE)<|au 6 (O.c8 (x:=aj aL bu.fo) (.bn q) gX q)<|au 7 (O.bk q (.obj q) q6 q)<|au 8 (O.cB q (.ptr q) cz q)<|au 9 (O.cE (.aD q) (.lit q) eI gb)<|au 10 (O.c8 (x:=j bl) (.bn q) cz q)<|au 11 (O.dv (.lit q))<|bV.fin q q q (.n q .nil)) ?_
  refine ai.a_<|W.rt ?_
  obtain rfl:=ax h
  exact cA (.f q q .nil)
theorem D7 (a0:(List Item)) (av:Item) (r:(List Item)) (h:vA a0 av=some r):b_ Try.prog 101 [aj db a0,.agg [j av.Prod,j av.dC]] [none,none] (aj db r):=by
 unfold vA at h
 refine b_.go (N:=⟨71,[]⟩) Try.func101 q q q q (W.fin ?_)
 refine W.st [(0,aj db a0),(1,.agg [j av.Prod,j av.dC])] ?_
 refine W.bM [0,3] (ah (O.box (.cg q q) q)<|ar.aW) ?_
 refine W.aZ [0,3,5] ?_
 refine W.bb<|W.bq ?_
 obtain ⟨x2,ao,h⟩:=aB h
 refine W.cj (G1:=[(0,_),(3,_),(5,_)]) (dB q q q) ?_
 refine W.e0 (s:=(a0.length:Int)) (λ(s1:Int)=>[(0,aj db a0),(3,.obj [j av.Prod,j av.dC]),(5,j s1)]) 0 (λ(x2:Int)=>[(0,aj db a0),(3,.obj [j av.Prod,j av.dC]),(5,j x2)]) ao (λs1 o h=>?_) ?_
 ·clear ao
  refine W.bb<|W.bb ?_
  obtain ⟨je,aa,h⟩:=aB h
  refine W.rd [[],[0],[0,1],[0,1,2],[0,1,2],[0,1,2,4],aO 0 6 [],aO 0 7 [],aO 0 8 [],[0,1,2],[0,1,2,9],aO 0 11 [],aO 0 12 [],aO 0 13 [],aO 0 13 [],aO 0 13 [14],aO 0 16 [],aO 0 17 [],aO 0 18 [],aO 0 13 [],aO 0 13 [19],aO 0 21 [],aO 0 22 [],aO 0 23 [],aO 0 23 [],aO 0 23 [24],aO 0 26 [],aO 0 27 [],aO 0 28 [],aO 0 23 [],aO 0 23 [29],aO 0 31 [],aO 0 32 [],aO 0 33 [],aO 0 34 []] [(0,aj db a0),(3,.obj [j av.Prod,j av.dC]),(5,j s1),(43,ba je)] e1 (by kernel_rfl) ?_ ?_
  ·refine au 0 (O.aA (.lit q))<|au 1 (O.gtr (.lit q) (.k q))<|au 2 (O.aA (.lit q)) ?_
   rcases cI aa with ⟨df,aa⟩ | ⟨df,aa⟩
   ·refine bx 3 df (O.aA (.aD q))<|bx 4 df (O.aA (.lit q))<|bx 5 df (O.sub (.lit q) (.k q)) ?_
    obtain ⟨ck,kQ,aa⟩:=aB aa
    refine bx 6 df (O.cE (.aD q) (.lit q) j1 kQ)<|bx 7 df (O.eP (.bn q) mX)<|bx 8 df (O.c8 (x:=j ck.Prod) (.bn q) cz q)<|bx 9 df (O.bk q (.obj q) mX q)<|bx 10 df (O.cB q (.ptr q) cz q)<|bx 11 df (O.gtr (.lit q) (.lit q))<|bx 12 df (O.aA (.lit q)) ?_
    rcases cI aa with ⟨dN,aa⟩ | ⟨dN,aa⟩
    ·obtain rfl:=ax aa
     exact aH 13 dN<|aH 14 dN<|aH 15 dN<|aH 16 dN<|aH 17 dN<|aH 18 dN<|aH 19 dN<|aH 20 dN<|aH 21 dN<|aH 22 dN<|fw 23<|fw 24<|fw 25<|fw 26<|fw 27<|fw 28<|fw 29<|fw 30<|fw 31<|aH 32 dN<|bx 33 df (O.eu (.lit q) dN (.k q))<|au 34 (O.eu (.lit q) df (.lit q))<|bV.fin q q q (dA q q q q)
    ·refine bx 13 dN (O.aA (.aD q))<|bx 14 dN (O.aA (.lit q))<|bx 15 dN (O.sub (.lit q) (.k q)) ?_
     obtain ⟨bl,gb,aa⟩:=aB aa
     refine bx 16 dN (O.cE (.aD q) (.lit q) j1 gb)<|bx 17 dN (O.eP (.bn q) mX)<|bx 18 dN (O.c8 (x:=j bl.Prod) (.bn q) cz q)<|bx 19 dN (O.bk q (.obj q) mX q)<|bx 20 dN (O.cB q (.ptr q) cz q)<|bx 21 dN (O.eql (.lit q) (.lit q))<|bx 22 dN (O.aA (.lit q)) ?_
     rcases cI aa with ⟨cR,aa⟩ | ⟨cR,aa⟩
     ·refine bx 23 cR (O.aA (.aD q))<|bx 24 cR (O.aA (.lit q))<|bx 25 cR (O.sub (.lit q) (.k q)) ?_
      obtain ⟨ct,iV,aa⟩:=aB aa
      obtain rfl:=ax aa
      exact bx 26 cR (O.cE (.aD q) (.lit q) j1 iV)<|bx 27 cR (O.eP (.bn q) q6)<|bx 28 cR (O.c8 (x:=j ct.dC) (.bn q) cz q)<|bx 29 cR (O.bk q (.obj q) q6 q)<|bx 30 cR (O.cB q (.ptr q) cz q)<|bx 31 cR (O.gtr (.lit q) (.lit q))<|bx 32 dN (O.eu (.lit q) cR (.lit q))<|bx 33 df (O.cC (.lit q) dN (.lit q))<|au 34 (O.eu (.lit q) df (.lit q))<|bV.fin q q q (dA q q q q)
     ·obtain rfl:=ax aa
      exact aH 23 cR<|aH 24 cR<|aH 25 cR<|aH 26 cR<|aH 27 cR<|aH 28 cR<|aH 29 cR<|aH 30 cR<|aH 31 cR<|bx 32 dN (O.cC (.lit q) cR (.k q))<|bx 33 df (O.cC (.lit q) dN (.lit q))<|au 34 (O.eu (.lit q) df (.lit q))<|bV.fin q q q (dA q q q q)
   ·obtain rfl:=ax aa
    exact aH 3 df<|aH 4 df<|aH 5 df<|aH 6 df<|aH 7 df<|aH 8 df<|aH 9 df<|aH 10 df<|aH 11 df<|aH 12 df<|fw 13<|fw 14<|fw 15<|fw 16<|fw 17<|fw 18<|fw 19<|fw 20<|fw 21<|fw 22<|fw 23<|fw 24<|fw 25<|fw 26<|fw 27<|fw 28<|fw 29<|fw 30<|fw 31<|fw 32<|aH 33 df<|au 34 (O.cC (.lit q) df (.k q))<|bV.fin q q q (dA q q q q)
  refine ai.a_<|W.bH h q (λft h=>?_) (λft h=>?_)
  ·refine W.bO<|ai.a_ ?_
   refine W.bq<|W.bp [0,3,5] (br q<|ah (O.sub (.lit q) (.k q))<|ar.bp [0,3,45] q<|ar.aW) ?_
   refine ai.bq ?_
   obtain rfl:=ax h
   exact ai.go (dB q q q)
  ·refine W.dd ?_
   refine ai.dc ?_
   obtain rfl:=ax h
   exact ai.aE (dB q q q)
 refine ai.de ?_
 refine ai.a_<|W.bb ?_
 refine W.bb ?_
 obtain ⟨rR,aa,h⟩:=aB h
 refine W.rd [[],[0],[0,1],[0,1,2],[0,1,2],[0,1,2,4],aO 0 6 [],aO 0 7 [],[0,1,2],aO 0 9 [],aO 0 10 []] [(0,aj db a0),(3,.obj [j av.Prod,j av.dC]),(5,j x2),(56,ba rR)] e1 (by kernel_rfl) ?_ ?_
 ·refine au 0 (O.aA (.lit q))<|au 1 (O.gtr (.lit q) (.k q))<|au 2 (O.aA (.lit q)) ?_
  rcases cI aa with ⟨ew,aa⟩ | ⟨ew,aa⟩
  ·refine bx 3 ew (O.aA (.aD q))<|bx 4 ew (O.aA (.lit q))<|bx 5 ew (O.sub (.lit q) (.k q)) ?_
   obtain ⟨dR,jE,aa⟩:=aB aa
   obtain rfl:=ax aa
   exact bx 6 ew (O.cE (.aD q) (.lit q) j1 jE)<|bx 7 ew (O.jn (cs':=[j dR.Prod,j dR.dC]) (.bn q) pw q q)<|bx 8 ew (O.dT (cs':=[j av.Prod,j av.dC]) q (.obj q) pw q q)<|bx 9 ew (O.Px (va:=[.int .i64 dR.Prod,.int .i64 dR.dC]) (vb:=[.int .i64 av.Prod,.int .i64 av.dC]) (.cg q q) (.cg q q) q q Je)<|au 10 (O.eu (.lit q) ew (.lit q))<|bV.fin q q q (dA q q q q)
  ·obtain rfl:=ax aa
   exact aH 3 ew<|aH 4 ew<|aH 5 ew<|aH 6 ew<|aH 7 ew<|aH 8 ew<|aH 9 ew<|au 10 (O.cC (.lit q) ew (.k q))<|bV.fin q q q (dA q q q q)
 refine ai.a_<|W.bH h q (λqe h=>?_) (λqe h=>?_)
 ·refine W.aZ [4] ?_
  refine W.rt ?_
  refine ai.c_ ?_
  obtain rfl:=ax h
  exact cA (.f q q .nil)
 ·refine W.bO<|ai.a_ ?_
  obtain ⟨cn,lq,h⟩:=aB h
  obtain ⟨b4,h8,h⟩:=aB h
  refine W.bM [0,3,5,6] (ah (O.dF (ys:=[]) db ([]:List Item) j1 q q q q q q HK q q)<|ah (O.aA (.aD q))<|br q<|ah (O.Hj (.aD q) (.lit q) j1 lq)<|ah (O.ap (en:=db) (r:=b4) (.own q) q (.aD q) .i DG q h8)<|ar.gI (G2:=[(0,aj db a0),(3,.obj [j av.Prod,j av.dC]),(5,j x2)]) q (cm.oG q q (.b2 q) q q q (.n q q (.n q q (.n q q .nil))) q q)<|bR q) ?_
  refine W.bb ?_
  obtain ⟨eJ,jL,h⟩:=aB h
  obtain ⟨fL,qo,h⟩:=aB h
  obtain ⟨eB,qp,h⟩:=aB h
  refine W.rd [[],[],[1],[0,1,2],[],[],[4,5],aO 0 7 [],aO 0 8 []] [(4,_)] e1 (by kernel_rfl) (au 0 (O.aA (.own q))<|au 1 (O.dT (cs':=[j av.Prod,j av.dC]) q (.obj q) pw q q)<|bV.gq 2 (x:=aj db [av]) (O.dF (ys:=[.agg [j av.Prod,j av.dC]]) db [av] j1 q q q q q q HK q q) q q q q .none<|au 3 (O.ap (en:=db) (r:=eJ) (.bm q) q (.aD q) .i DG q jL)<|au 4 (O.aA (.aD q))<|au 5 (O.aA (.lit q))<|au 6 (O.Hk (.aD q) (.lit q) j1 qo)<|au 7 (O.Ic (en:=db) (r:=eB) (.b2 q) q q (.aD q) .i DG q qp)<|bV.bv 8 (G2:=[]) (cm.H7 q q (.b2 q) q q q q q q .nil q q) q q q q (by kernel_rfl) (by kernel_rfl)<|bV.fin q q q (.n q .nil)) ?_
  refine ai.a_<|W.fE (G1:=[(4,aj db ((([]:List Item)++cn)++[av]++fL))]) [4] (.z q q .js .nil) ?_
  refine W.rt ?_
  obtain rfl:=ax h
  exact cA (.f q q .nil)
theorem Oe (a0:bZ) (av:(List Item)) (r:(List Item)) (h:zU a0 av=some r):b_ Try.prog 100 [.agg (ch.cells a0),aj db av] [none,none] (aj db r):=by
 unfold zU at h
 refine b_.go (N:=⟨26,[]⟩) Try.func100 q q q q (W.fin ?_)
 refine W.st [(0,.agg (ch.cells a0)),(1,aj db av)] ?_
 refine W.bM [1,2] (ah (O.box (.cg q q) q)<|ar.aW) ?_
 refine W.aZ [1,2,5] ?_
 refine W.bb<|W.aZ [1,2,5,6] ?_
 refine W.bq ?_
 obtain ⟨x2,ao,h⟩:=aB h
 refine W.cj (G1:=[(1,_),(2,_),(5,aj db ([]:List Item)),(6,_)]) (.n q (.n q (.w q q .xq (.n q .nil)))) ?_
 refine W.e0 (s:=(([]:List Item),0)) (λ(s1:List Item × Int)=>[(1,aj db av),(2,.obj (ch.cells a0)),(5,aj db s1.1),(6,j s1.2)]) 0 (λ(x2:List Item)=>[(5,aj db x2)]) ao (λs1 o h=>?_) ?_
 ·clear ao
  refine W.bb<|W.aZ [1,2,5,6,10] ?_
  refine W.bH h q (λdf h=>?_) (λdf h=>?_)
  ·refine W.bO<|ai.a_ ?_
   refine W.bb ?_
   obtain ⟨lr,aa,h⟩:=aB h
   refine W.bC [(1,aj db av),(2,.obj (ch.cells a0)),(5,aj db lr),(6,j s1.2)] ?_ ?_
   ·clear h; have h:=aa; clear aa
    refine W.bq<|W.bb ?_
    obtain ⟨bu,fH,h⟩:=aB h
    obtain ⟨bl,gb,h⟩:=aB h
    refine W.rd [[],[],[],[1,2],[1,2,3],aO 0 5 []] [(1,_),(2,_),(5,_),(6,_),(18,_)] e1 (by kernel_rfl) (au 0 (O.dT (cs':=[aj bo a0.a',aj a8 a0.bw,aj bE a0.aY,af a0.bz,af a0.bA]) q (.obj q) gg q q)<|au 1 (O.aA (.aD q))<|au 2 (O.aA (.lit q))<|au 3 (O.cE (.aD q) (.lit q) j1 fH)<|au 4 (O.jn (cs':=[j bu.Prod,j bu.dC]) (.bn q) pw q q)<|iM 5 (cu.go (.bX (.cg q q) (.bX (.cg q q) .nil)) (IN a0 bu _ gb) call102 q)<|bV.fin q q q (e' q q q q q)) ?_
    refine ai.a_ ?_
    obtain ⟨jm,aa,h⟩:=aB h
    refine W.bC [(1,aj db av),(2,.obj (ch.cells a0)),(5,aj db jm),(6,j s1.2)] ?_ ?_
    ·clear h; have h:=aa; clear aa
     refine W.bH h q (λey h=>?_) (λey h=>?_)
     ·obtain ⟨bQ,jk,h⟩:=aB h
      obtain ⟨cp,il,h⟩:=aB h
      refine W.bp [1,2,5,6] (ah (O.aA (.aD q))<|ah (O.aA (.aD q))<|br q<|ah (O.cE (.aD q) (.lit q) j1 jk)<|ah (O.jn (cs':=[j bQ.Prod,j bQ.dC]) (.bn q) pw q q)<|dL (cu.go (.bX (.aD q) (.bX (.cg q q) .nil)) (D7 s1.1 bQ _ il) call101 q)<|ar.bp [1,2,6,24] q<|ar.aW) ?_
      obtain rfl:=ax h
      exact ai.bC (dA q q q q)
     ·refine W.bO ?_
      obtain rfl:=ax h
      exact ai.bC (dA q q q q)
    refine ai.bq ?_
    obtain rfl:=ax h
    exact ai.bC (dA q q q q)
   refine ai.a_<|W.bp [1,2,5,6] (br q<|ah (O.add (.lit q) (.k q))<|ar.bp [1,2,5,12] q<|ar.aW) ?_
   obtain rfl:=ax h
   exact ai.go (dA q q q q)
  ·refine W.dd ?_
   refine ai.dc ?_
   obtain rfl:=ax h
   exact ai.aE (.n q .nil)
 refine ai.de ?_
 refine ai.a_<|W.aZ [4] ?_
 refine W.rt ?_
 obtain rfl:=ax h
 exact cA (.f q q .nil)
theorem Eb (a0:bZ) (av:(List Item)) (r:(List Item)) (h:vH a0 av=some r):b_ Try.prog 80 [.agg (ch.cells a0),aj db av] [none,none] (aj db r):=by
 unfold vH at h
 refine b_.go (N:=⟨59,[]⟩) Try.func80 q q q q (W.fin ?_)
 refine W.st [(0,.agg (ch.cells a0)),(1,aj db av)] ?_
 refine W.bM [1,2] (ah (O.box (.cg q q) q)<|ar.aW) ?_
 obtain ⟨aE,fp,h⟩:=aB h
 refine W.bM [2,5] (ah (O.dT (cs':=[aj bo a0.a',aj a8 a0.bw,aj bE a0.aY,af a0.bz,af a0.bA]) q (.obj q) gg q q)<|ah (O.aA (.aD q))<|dL (cu.go (.bX (.cg q q) (.bX (.aD q) .nil)) (Oe a0 av _ fp) call100 q)<|ar.aW) ?_
 refine W.bb<|W.aZ [2,5,6] ?_
 refine W.bq ?_
 obtain ⟨aX,ao,h⟩:=aB h
 refine W.cj (G1:=[(2,_),(5,_),(6,_)]) (dB q q q) ?_
 refine W.e0 (s:=(aE,(-1))) (λ(s2:List Item × Int)=>[(2,.obj (ch.cells a0)),(5,aj db s2.1),(6,j s2.2)]) 0 (λ(aX:List Item)=>[(5,aj db aX)]) ao (λs2 o h=>?_) ?_
 ·clear ao
  refine W.bb<|W.aZ [2,5,16] ?_
  refine W.bH h q (λdK h=>?_) (λdK h=>?_)
  ·refine W.bO<|ai.a_ ?_
   obtain ⟨iY,aa,h⟩:=aB h
   refine W.bC [(2,.obj (ch.cells a0)),(5,aj db iY.1),(6,j iY.2)] ?_ ?_
   ·clear h; have h:=aa; clear aa
    refine W.bq<|W.aZ [2,5,6] ?_
    refine W.aZ [2,5,6,7] ?_
    obtain ⟨lQ,aa,h⟩:=aB h
    refine W.bC [(2,.obj (ch.cells a0)),(5,aj db lQ),(6,j (s2.1.length:Int))] ?_ ?_
    ·clear h; have h:=aa; clear aa
     refine W.bq ?_
     obtain ⟨ct,ao,h⟩:=aB h
     refine W.cj (G1:=[(2,_),(5,_),(6,_),(7,_)]) (dA q q q q) ?_
     refine W.e0 (s:=(s2.1,0)) (λ(cL:List Item × Int)=>[(2,.obj (ch.cells a0)),(5,aj db cL.1),(6,j (s2.1.length:Int)),(7,j cL.2)]) 2 (λ(ct:List Item)=>[(2,.obj (ch.cells a0)),(5,aj db ct),(6,j (s2.1.length:Int))]) ao (λcL o h=>?_) ?_
     ·clear ao
      refine W.bb<|W.aZ [2,5,6,7,21] ?_
      refine W.bH h q (λft h=>?_) (λft h=>?_)
      ·refine W.bO<|ai.a_ ?_
       refine W.bb<|W.bq ?_
       refine W.bb ?_
       obtain ⟨cO,kq,h⟩:=aB h
       obtain ⟨dR,jE,h⟩:=aB h
       refine W.rd [[],[],[],[1,2],[1,2,3],aO 0 5 [],aO 0 6 []] [(2,_),(5,_),(6,_),(7,_),(8,_)] e1 (by kernel_rfl) (au 0 (O.dT (cs':=[aj bo a0.a',aj a8 a0.bw,aj bE a0.aY,af a0.bz,af a0.bA]) q (.obj q) gg q q)<|au 1 (O.aA (.aD q))<|au 2 (O.aA (.lit q))<|au 3 (O.cE (.aD q) (.lit q) j1 kq)<|au 4 (O.jn (cs':=[j cO.Prod,j cO.dC]) (.bn q) pw q q)<|iM 5 (cu.go (.bX (.cg q q) (.bX (.cg q q) .nil)) (Ec a0 cO _ jE) call81 q)<|au 6 (O.dv (.lit q))<|bV.fin q q q (e' q q q q q)) ?_
       refine ai.a_<|W.bb ?_
       refine W.aZ [2,5,6,7,8,9] ?_
       refine W.bq ?_
       obtain ⟨dt,ao,h⟩:=aB h
       refine W.cj (G1:=[(2,_),(5,_),(6,_),(7,_),(8,_),(9,_)]) (fC q q q q q q) ?_
       refine W.e0 (s:=(cL.1,0)) (λ(h':List Item × Int)=>[(2,.obj (ch.cells a0)),(5,aj db h'.1),(6,j (s2.1.length:Int)),(7,j cL.2),(8,j dR),(9,j h'.2)]) 4 (λ(dt:List Item)=>[(2,.obj (ch.cells a0)),(5,aj db dt),(6,j (s2.1.length:Int)),(7,j cL.2)]) ao (λh' o h=>?_) ?_
       ·clear ao
        refine W.bb ?_
        obtain ⟨p5,aa,h⟩:=aB h
        refine W.rs [(2,.obj (ch.cells a0)),(5,aj db h'.1),(6,j (s2.1.length:Int)),(7,j cL.2),(8,j dR),(9,j h'.2),(38,ba p5)] ?_ ?_
        ·refine br q<|ah (O.bk q (.obj q) l5 q)<|ah (O.c9 (y:=aj bE a0.aY) q (.ptr q) nv q q)<|ah (O.gz (.aD q) nj)<|ah (O.lss (.lit q) (.lit q))<|ah (O.aA (.lit q)) ?_
         rcases cI aa with ⟨uX,aa⟩ | ⟨uX,aa⟩
         ·obtain rfl:=ax aa
          exact ar.aW
         ·obtain rfl:=ax aa
          exact ar.aW
        refine W.bH h q (λh6 h=>?_) (λh6 h=>?_)
        ·refine W.bO<|ai.a_ ?_
         refine W.bb ?_
         obtain ⟨zz,aa,h⟩:=aB h
         refine W.bC [(2,.obj (ch.cells a0)),(5,aj db zz),(6,j (s2.1.length:Int)),(7,j cL.2),(8,j dR),(9,j h'.2)] ?_ ?_
         ·clear h; have h:=aa; clear aa
          refine W.bq ?_
          obtain ⟨dO,mg,h⟩:=aB h
          refine W.aZ [2,5,6,7,8,9,49] ?_
          obtain ⟨nF,aa,h⟩:=aB h
          refine W.bC [(2,.obj (ch.cells a0)),(5,aj db nF),(6,j (s2.1.length:Int)),(7,j cL.2),(8,j dR),(9,j h'.2)] ?_ ?_
          ·clear h; have h:=aa; clear aa
           refine W.bH h q (λix h=>?_) (λix h=>?_)
           ·obtain ⟨gj,lP,h⟩:=aB h
            refine W.bp [2,5,6,7,8,9] (ah (O.aA (.aD q))<|br q<|ah (O.eS (cs:=[j h'.2,j 0]) He Dq q q q)<|dL (cu.go (.bX (.aD q) (.bX (.cg q q) .nil)) (D7 h'.1 (⟨h'.2,0⟩:Item) _ lP) call101 q)<|ar.bp [2,6,7,8,9,53] q<|ar.aW) ?_
            obtain rfl:=ax h
            exact ai.bC (fC q q q q q q)
           ·refine W.bO ?_
            obtain rfl:=ax h
            exact ai.bC (fC q q q q q q)
          refine ai.bq ?_
          obtain rfl:=ax h
          exact ai.bC (fC q q q q q q)
         refine ai.a_<|W.bp [2,5,6,7,8,9] (br q<|ah (O.add (.lit q) (.k q))<|ar.bp [2,5,6,7,8,40] q<|ar.aW) ?_
         obtain rfl:=ax h
         exact ai.go (fC q q q q q q)
        ·refine W.dd ?_
         refine ai.dc ?_
         obtain rfl:=ax h
         exact ai.aE (dA q q q q)
       refine ai.de ?_
       refine ai.a_<|W.aZ [2,5,6,7,57] ?_
       refine W.bH h q (λiS h=>?_) (λiS h=>?_)
       ·refine W.dd ?_
        refine ai.NK q ?_
        refine ai.dc ?_
        obtain rfl:=ax h
        exact ai.aE (dB q q q)
       ·refine W.bO<|ai.bq ?_
        refine ai.a_<|W.bp [2,5,6,7] (br q<|ah (O.add (.lit q) (.k q))<|ar.bp [2,5,6,23] q<|ar.aW) ?_
        obtain rfl:=ax h
        exact ai.go (dA q q q q)
      ·refine W.dd ?_
       refine ai.dc ?_
       obtain rfl:=ax h
       exact ai.aE (dB q q q)
     refine ai.de ?_
     obtain rfl:=ax h
     exact ai.bC (dB q q q)
    refine ai.bq ?_
    obtain rfl:=ax h
    exact ai.bC (dB q q q)
   obtain rfl:=ax h
   exact ai.go (dB q q q)
  ·refine W.dd ?_
   refine ai.dc ?_
   obtain rfl:=ax h
   exact ai.aE (.n q .nil)
 refine ai.de ?_
 refine ai.a_<|W.aZ [4] ?_
 refine W.rt ?_
 obtain rfl:=ax h
 exact cA (.f q q .nil)
theorem OW (a0:bZ) (av:(List Item)) (a2:Int) (r:(List Item)) (h:Au a0 av a2=some r):b_ Try.prog 82 [.agg (ch.cells a0),aj db av,j a2] [none,none,none] (aj db r):=by
 unfold Au at h
 refine b_.go (N:=⟨48,[]⟩) Try.func82 q q q q (W.fin ?_)
 refine W.st [(0,.agg (ch.cells a0)),(1,aj db av),(2,j a2)] ?_
 refine W.bM [1,2,3] (ah (O.box (.cg q q) q)<|ar.aW) ?_
 refine W.aZ [1,2,3,7] ?_
 obtain ⟨aE,fp,h⟩:=aB h
 refine W.bM [2,3,7,8] (ah (O.dT (cs':=[aj bo a0.a',aj a8 a0.bw,aj bE a0.aY,af a0.bz,af a0.bA]) q (.obj q) gg q q)<|ah (O.aA (.aD q))<|dL (cu.go (.bX (.cg q q) (.bX (.aD q) .nil)) (Eb a0 av _ fp) call80 q)<|ar.aW) ?_
 refine W.bb<|W.aZ [2,3,7,8,9] ?_
 refine W.bq ?_
 obtain ⟨aX,ao,h⟩:=aB h
 refine W.cj (G1:=[(2,_),(3,_),(7,aj db ([]:List Item)),(8,_),(9,_)]) (.n q (.n q (.w q q .xq (fe q q)))) ?_
 refine W.e0 (s:=(([]:List Item),0)) (λ(s2:List Item × Int)=>[(2,j a2),(3,.obj (ch.cells a0)),(7,aj db s2.1),(8,aj db aE),(9,j s2.2)]) 0 (λ(aX:List Item)=>[(7,aj db aX)]) ao (λs2 o h=>?_) ?_
 ·clear ao
  refine W.bb<|W.aZ [2,3,7,8,9,17] ?_
  refine W.bH h q (λdK h=>?_) (λdK h=>?_)
  ·refine W.bO<|ai.a_ ?_
   refine W.bb ?_
   obtain ⟨iY,aa,h⟩:=aB h
   refine W.bC [(2,j a2),(3,.obj (ch.cells a0)),(7,aj db iY),(8,aj db aE),(9,j s2.2)] ?_ ?_
   ·clear h; have h:=aa; clear aa
    refine W.bq<|W.bb ?_
    obtain ⟨bl,gb,h⟩:=aB h
    obtain ⟨bT,im,h⟩:=aB h
    refine W.rd [[],[],[],[1,2],[1,2,3],aO 0 5 [],aO 0 6 []] [(2,_),(3,_),(7,_),(8,_),(9,_),(10,_)] e1 (by kernel_rfl) (au 0 (O.dT (cs':=[aj bo a0.a',aj a8 a0.bw,aj bE a0.aY,af a0.bz,af a0.bA]) q (.obj q) gg q q)<|au 1 (O.aA (.aD q))<|au 2 (O.aA (.lit q))<|au 3 (O.cE (.aD q) (.lit q) j1 gb)<|au 4 (O.jn (cs':=[j bl.Prod,j bl.dC]) (.bn q) pw q q)<|iM 5 (cu.go (.bX (.cg q q) (.bX (.cg q q) .nil)) (Ec a0 bl _ im) call81 q)<|au 6 (O.dv (.lit q))<|bV.fin q q q (fC q q q q q q)) ?_
    refine ai.a_ ?_
    obtain ⟨je,aa,h⟩:=aB h
    refine W.rs [(2,j a2),(3,.obj (ch.cells a0)),(7,aj db s2.1),(8,aj db aE),(9,j s2.2),(32,ba je)] ?_ ?_
    ·refine br q<|ah (O.geq (.lit q) (.k q))<|ah (O.aA (.lit q)) ?_
     rcases cI aa with ⟨ey,aa⟩ | ⟨ey,aa⟩
     ·obtain rfl:=ax aa
      exact ar.aW
     ·obtain rfl:=ax aa
      exact ar.aW
    obtain ⟨gT,aa,h⟩:=aB h
    refine W.bC [(2,j a2),(3,.obj (ch.cells a0)),(7,aj db gT),(8,aj db aE),(9,j s2.2)] ?_ ?_
    ·clear h; have h:=aa; clear aa
     refine W.bH h q (λew h=>?_) (λew h=>?_)
     ·refine W.cj (G1:=[(2,_),(3,_),(7,_),(8,_),(9,_)]) (e' q q q q q) ?_
      obtain ⟨dR,jE,h⟩:=aB h
      obtain ⟨d',kr,h⟩:=aB h
      obtain ⟨dt,iJ,h⟩:=aB h
      refine W.rd [[],[],[],[1,2],[1,2,3],[1,2,3,4],[],[],[6,7],[6,7,8],[6,7,8,9],aO 6 5 [],aO 1 11 [],aO 0 13 [],aO 0 14 []] [(2,_),(3,_),(7,_),(8,_),(9,_)] e1 (by kernel_rfl) (au 0 (O.aA (.aD q))<|au 1 (O.aA (.aD q))<|au 2 (O.aA (.lit q))<|au 3 (O.cE (.aD q) (.lit q) j1 jE)<|au 4 (O.eP (.bn q) mX)<|au 5 (O.c8 (x:=j dR.Prod) (.bn q) cz q)<|au 6 (O.aA (.aD q))<|au 7 (O.aA (.lit q))<|au 8 (O.cE (.aD q) (.lit q) j1 kr)<|au 9 (O.eP (.bn q) q6)<|au 10 (O.c8 (x:=j d'.dC) (.bn q) cz q)<|au 11 (O.add (.lit q) (.k q))<|au 12 (O.eS (cs:=[j dR.Prod,j (aM (d'.dC+1))]) He Dq q q q)<|iM 13 (cu.go (.bX (.aD q) (.bX (.cg q q) .nil)) (D7 s2.1 (⟨dR.Prod,aM (d'.dC+1)⟩:Item) _ iJ) call101 q)<|bV.bv 14 (G2:=[(2,j a2),(3,.obj (ch.cells a0)),(8,aj db aE),(9,j s2.2)]) (cm.Bj (y':=aj db dt) q q (.aD q) (.f .nil) .refl (dA q q q q) q q) q q q q (by kernel_rfl) (by kernel_rfl)<|bV.fin q q q (e' q q q q q)) ?_
      obtain rfl:=ax h
      exact ai.bC (e' q q q q q)
     ·refine W.bO ?_
      obtain rfl:=ax h
      exact ai.bC (e' q q q q q)
    refine ai.bq ?_
    obtain rfl:=ax h
    exact ai.bC (e' q q q q q)
   refine ai.a_<|W.bp [2,3,7,8,9] (br q<|ah (O.add (.lit q) (.k q))<|ar.bp [2,3,7,8,19] q<|ar.aW) ?_
   obtain rfl:=ax h
   exact ai.go (e' q q q q q)
  ·refine W.dd ?_
   refine ai.dc ?_
   obtain rfl:=ax h
   exact ai.aE (.n q .nil)
 refine ai.de ?_
 refine ai.a_<|W.aZ [6] ?_
 refine W.rt ?_
 obtain rfl:=ax h
 exact cA (.f q q .nil)
theorem Og (a0:(List Item)) (av:(List Item)) (r:Bool) (h:zV a0 av=some r):b_ Try.prog 103 [aj db a0,aj db av] [none,none] (ba r):=by
 unfold zV at h
 refine b_.go (N:=⟨26,[]⟩) Try.func103 q q q q (W.fin ?_)
 refine W.st [(0,aj db a0),(1,aj db av)] ?_
 refine W.aZ [0,1] ?_
 refine W.bb<|W.aZ [0,1,10] ?_
 refine W.bH h q (λds h=>?_) (λds h=>?_)
 ·refine W.aZ [4] ?_
  refine W.rt ?_
  refine ai.c_ ?_
  obtain rfl:=ax h
  exact cA (.f q q .nil)
 ·refine W.bO<|ai.a_ ?_
  refine W.bb<|W.aZ [0,1,5] ?_
  refine W.bq ?_
  obtain ⟨aX,ao,h⟩:=aB h
  refine W.cj (G1:=[(0,_),(1,_),(5,_)]) (dB q q q) ?_
  refine W.jM (s:=0) (λ(s2:Int)=>[(0,aj db a0),(1,aj db av),(5,j s2)]) 0 (λ(bN:Unit)=>[]) (λ(ck:Bool)=>[(4,ba ck)]) ao (λs2 o h=>?_) (λbN J=>?_) (λck J=>?_)
  ·clear ao
   refine W.bb<|W.aZ [0,1,5,14] ?_
   refine W.bH h q (λdN h=>?_) (λdN h=>?_)
   ·refine W.bO<|ai.a_ ?_
    refine W.bb<|W.bq ?_
    refine W.bb ?_
    obtain ⟨bl,gb,h⟩:=aB h
    obtain ⟨bT,im,h⟩:=aB h
    refine W.rd [[],[],[0,1],[0,1,2],[],[],[4,5],[4,5,6],aO 0 8 []] [(0,_),(1,_),(5,_),(25,_)] e1 (by kernel_rfl) (au 0 (O.aA (.aD q))<|au 1 (O.aA (.lit q))<|au 2 (O.cE (.aD q) (.lit q) j1 gb)<|au 3 (O.jn (cs':=[j bl.Prod,j bl.dC]) (.bn q) pw q q)<|au 4 (O.aA (.aD q))<|au 5 (O.aA (.lit q))<|au 6 (O.cE (.aD q) (.lit q) j1 im)<|au 7 (O.jn (cs':=[j bT.Prod,j bT.dC]) (.bn q) pw q q)<|au 8 (O.Lg (va:=[.int .i64 bl.Prod,.int .i64 bl.dC]) (vb:=[.int .i64 bT.Prod,.int .i64 bT.dC]) (.cg q q) (.cg q q) q q Je)<|bV.fin q q q (dA q q q q)) ?_
    refine ai.a_<|W.bH h q (λey h=>?_) (λey h=>?_)
    ·refine W.aZ [4] ?_
     refine W.rt ?_
     refine ai.ee ?_
     refine ai.c_ ?_
     obtain rfl:=ax h
     exact ai.gm (.n q .nil)
    ·refine W.bO<|ai.bq ?_
     refine ai.a_<|W.bp [0,1,5] (br q<|ah (O.add (.lit q) (.k q))<|ar.bp [0,1,16] q<|ar.aW) ?_
     obtain rfl:=ax h
     exact ai.go (dB q q q)
   ·refine W.dd ?_
    refine ai.dc ?_
    obtain rfl:=ax h
    exact ai.x2 .nil
  ·subst J
   refine ai.de ?_
   refine ai.a_<|W.aZ [4] ?_
   refine W.rt ?_
   obtain rfl:=ax h
   exact cA (.f q q .nil)
  ·subst J
   refine ai.ee ?_
   refine ai.c_ ?_
   obtain rfl:=ax h
   exact cA (.f q q .nil)
theorem OX (a0:(List State)) (av:(List Item)) (r:Int) (h:Av a0 av=some r):b_ Try.prog 83 [aj cF a0,aj db av] [none,none] (j r):=by
 unfold Av at h
 refine b_.go (N:=⟨20,[]⟩) Try.func83 q q q q (W.fin ?_)
 refine W.st [(0,aj cF a0),(1,aj db av)] ?_
 refine W.aZ [0,1] ?_
 refine W.bb<|W.aZ [0,1,5] ?_
 refine W.bq ?_
 obtain ⟨x2,ao,h⟩:=aB h
 refine W.cj (G1:=[(0,_),(1,_),(5,_)]) (dB q q q) ?_
 refine W.jM (s:=0) (λ(s1:Int)=>[(0,aj cF a0),(1,aj db av),(5,j s1)]) 0 (λ(aX:Unit)=>[]) (λ(bN:Int)=>[(4,j bN)]) ao (λs1 o h=>?_) (λaX J=>?_) (λbN J=>?_)
 ·clear ao
  refine W.bb<|W.aZ [0,1,5,9] ?_
  refine W.bH h q (λdK h=>?_) (λdK h=>?_)
  ·refine W.bO<|ai.a_ ?_
   refine W.bb<|W.bq ?_
   obtain ⟨bu,fH,h⟩:=aB h
   obtain ⟨bl,gb,h⟩:=aB h
   refine W.bM [0,1,5,18] (ah (O.aA (.aD q))<|br q<|ah (O.cE (.aD q) (.lit q) kV fH)<|ah (O.eP (.bn q) uO)<|ah (O.c8 (x:=aj db bu.Kernel) (.bn q) uG q)<|ah (O.aA (.aD q))<|dL (cu.go (.bX (.aD q) (.bX (.aD q) .nil)) (Og bu.Kernel av _ gb) call103 q)<|bR q) ?_
   refine W.bH h q (λcR h=>?_) (λcR h=>?_)
   ·refine W.aZ [4] ?_
    refine W.rt ?_
    refine ai.ee ?_
    refine ai.c_ ?_
    obtain rfl:=ax h
    exact ai.gm (.n q .nil)
   ·refine W.bO<|ai.bq ?_
    refine ai.a_<|W.bp [0,1,5] (br q<|ah (O.add (.lit q) (.k q))<|ar.bp [0,1,11] q<|ar.aW) ?_
    obtain rfl:=ax h
    exact ai.go (dB q q q)
  ·refine W.dd ?_
   refine ai.dc ?_
   obtain rfl:=ax h
   exact ai.x2 .nil
 ·subst J
  refine ai.de ?_
  refine ai.a_<|W.aZ [4] ?_
  refine W.rt ?_
  obtain rfl:=ax h
  exact cA (.f q q .nil)
 ·subst J
  refine ai.ee ?_
  refine ai.c_ ?_
  obtain rfl:=ax h
  exact cA (.f q q .nil)
end Go.Proofs
