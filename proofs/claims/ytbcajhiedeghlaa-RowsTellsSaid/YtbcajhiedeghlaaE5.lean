/-
  What is proved here: parts of the proof that the last text states: rules for walks through code, and of this program's functions what they answer. No condition of their own.
-/
import Derived.Test.YtbcajhiedeghlaaRows
import Derived.Test.YtbcajhiedeghlaaE4
namespace Go.Proofs
open Go Go.Own
set_option maxRecDepth 100000
set_option linter.unusedVariables false
theorem pb:dP Try.prog 23 0 0 3=true:=by kernel_rfl
theorem ct:hB Try.prog 3=true:=by kernel_rfl
theorem qM:dP Try.prog 23 1 1 3=true:=by kernel_rfl
theorem lS:(Try.prog.info? 23).bind (·.zero)=some (.agg #[.int .i64 0,.int .i64 0]):=by kernel_rfl
theorem qq:j5 Try.prog 23 [(0,1),(1,1)]=true:=by kernel_rfl
theorem mP:gG Try.prog 23 2=true:=by kernel_rfl
theorem lG:iY Try.prog 23 2=true:=by kernel_rfl
theorem j4:oU Try.prog 9=true:=by kernel_rfl
theorem call121:dI Try.prog 121=true:=by kernel_rfl
theorem call122:dI Try.prog 122=true:=by kernel_rfl
theorem call117:dI Try.prog 117=true:=by kernel_rfl
theorem tC:dP Try.prog 88 1 1 4=true:=by kernel_rfl
theorem mW:hB Try.prog 4=true:=by kernel_rfl
theorem kq:dP Try.prog 88 0 0 9=true:=by kernel_rfl
theorem eI:hB Try.prog 9=true:=by kernel_rfl
theorem tD:dP Try.prog 88 2 2 3=true:=by kernel_rfl
theorem call120:dI Try.prog 120=true:=by kernel_rfl
theorem call111:dI Try.prog 111=true:=by kernel_rfl
theorem oB:dP Try.prog 100 0 0 3=true:=by kernel_rfl
theorem oC:dP Try.prog 100 2 2 98=true:=by kernel_rfl
theorem p1:hB Try.prog 98=true:=by kernel_rfl
theorem pG:fB Try.prog 98 88 4=true:=by kernel_rfl
theorem nz:dP Try.prog 100 1 1 9=true:=by kernel_rfl
theorem kD:iY Try.prog 88 4=true:=by kernel_rfl
theorem call116:dI Try.prog 116=true:=by kernel_rfl
theorem ei:Try.prog.follows .mixedOrders=true:=by kernel_rfl
theorem call124:dI Try.prog 124=true:=by kernel_rfl
theorem call123:dI Try.prog 123=true:=by kernel_rfl
theorem pd:dP Try.prog 93 0 0 91=true:=by kernel_rfl
theorem sx:hB Try.prog 91=true:=by kernel_rfl
theorem qu:fB Try.prog 91 90 6=true:=by kernel_rfl
theorem uT:iY Try.prog 90 6=true:=by kernel_rfl
theorem oZ:(Try.prog.info? 90).bind (·.zero)=some (.agg #[.string { data:=#[] },.bool false,.int .i64 0,.int .i64 0,.string { data:=#[] },.int .i64 0]):=by kernel_rfl
theorem yz:gG Try.prog 90 6=true:=by kernel_rfl
theorem qP:dP Try.prog 90 1 4 9=true:=by kernel_rfl
theorem xq:dP Try.prog 90 0 0 88=true:=by kernel_rfl
theorem call118:dI Try.prog 118=true:=by kernel_rfl
theorem call119:dI Try.prog 119=true:=by kernel_rfl
theorem sE:dP Try.prog 93 1 1 88=true:=by kernel_rfl
theorem CB:dP Try.prog 33 0 0 9=true:=by kernel_rfl
theorem pc:dP Try.prog 33 1 1 30=true:=by kernel_rfl
theorem pX:hB Try.prog 30=true:=by kernel_rfl
theorem oe:fB Try.prog 30 100 4=true:=by kernel_rfl
theorem B_:iY Try.prog 100 4=true:=by kernel_rfl
theorem call110:dI Try.prog 110=true:=by kernel_rfl
theorem kH:dP Try.prog 33 2 2 31=true:=by kernel_rfl
theorem lr:hB Try.prog 31=true:=by kernel_rfl
theorem lh:fB Try.prog 31 96 3=true:=by kernel_rfl
theorem Ep:iY Try.prog 96 3=true:=by kernel_rfl
theorem yF:(Try.prog.info? 96).bind (·.zero)=some (.agg #[.string { data:=#[] },.slice none 0 0,.int .i64 0]):=by kernel_rfl
theorem H2:gG Try.prog 96 3=true:=by kernel_rfl
theorem sF:dP Try.prog 96 0 0 9=true:=by kernel_rfl
theorem nY:dP Try.prog 96 1 1 94=true:=by kernel_rfl
theorem p0:hB Try.prog 94=true:=by kernel_rfl
theorem pF:fB Try.prog 94 93 6=true:=by kernel_rfl
theorem Cb:iY Try.prog 93 6=true:=by kernel_rfl
theorem call112:dI Try.prog 112=true:=by kernel_rfl
theorem zn:dP Try.prog 169 4 8 3=true:=by kernel_rfl
theorem nP:gG Try.prog 3 1=true:=by kernel_rfl
theorem zo:dP Try.prog 169 5 9 3=true:=by kernel_rfl
theorem zp:dP Try.prog 169 6 10 9=true:=by kernel_rfl
theorem wA:gG Try.prog 9 1=true:=by kernel_rfl
theorem zm:dP Try.prog 169 2 6 41=true:=by kernel_rfl
theorem sw:hB Try.prog 41=true:=by kernel_rfl
theorem r5:fB Try.prog 41 176 2=true:=by kernel_rfl
theorem J1:dP Try.prog 176 0 0 9=true:=by kernel_rfl
theorem kp:dP Try.prog 169 0 0 44=true:=by kernel_rfl
theorem oD:dP Try.prog 44 0 0 40=true:=by kernel_rfl
theorem pZ:hB Try.prog 40=true:=by kernel_rfl
theorem qt:fB Try.prog 40 78 6=true:=by kernel_rfl
theorem J7:dP Try.prog 78 0 0 9=true:=by kernel_rfl
theorem J8:dP Try.prog 78 1 1 4=true:=by kernel_rfl
theorem Om:Cf Try.prog 4=true:=by kernel_rfl
theorem zv:dP Try.prog 78 2 2 3=true:=by kernel_rfl
theorem call95:dI Try.prog 95=true:=by kernel_rfl
theorem wH:(Try.prog.info? 78).bind (·.zero)=some (.agg #[.string { data:=#[] },.bool false,.int .i64 0,.int .i64 0,.int .i64 0,.string { data:=#[] }]):=by kernel_rfl
theorem DM:j5 Try.prog 78 [(0,1),(1,1),(2,1),(3,1),(4,1),(5,1)]=true:=by kernel_rfl
theorem HY:gG Try.prog 78 6=true:=by kernel_rfl
theorem GP:s4 Try.prog 5 .u8=true:=by kernel_rfl
theorem GO:s4 Try.prog 3 .i64=true:=by kernel_rfl
theorem call114:dI Try.prog 114=true:=by kernel_rfl
theorem qO:dP Try.prog 88 3 3 3=true:=by kernel_rfl
theorem call94:dI Try.prog 94=true:=by kernel_rfl
theorem Eo:iY Try.prog 78 6=true:=by kernel_rfl
theorem Nh:jm Try.prog 78 6=true:=by kernel_rfl
theorem NW:ix Try.prog 40 78 6 64=true:=by kernel_rfl
theorem MO:gG Try.prog 40 1=true:=by kernel_rfl
theorem xm:dP Try.prog 169 1 5 103=true:=by kernel_rfl
theorem y_:hB Try.prog 103=true:=by kernel_rfl
theorem Vs:jm Try.prog 4 1=true:=by kernel_rfl
theorem oT:fB Try.prog 103 4 1=true:=by kernel_rfl
theorem NS:ix Try.prog 103 4 1 1=true:=by kernel_rfl
theorem UI:gG Try.prog 103 1=true:=by kernel_rfl
theorem call98:dI Try.prog 98=true:=by kernel_rfl
theorem BN:(Try.prog.info? 176).bind (·.zero)=some (.agg #[.string { data:=#[] },.string { data:=#[] }]):=by kernel_rfl
theorem DL:j5 Try.prog 176 [(0,1),(1,1)]=true:=by kernel_rfl
theorem D5:jm Try.prog 176 2=true:=by kernel_rfl
theorem Ej:ix Try.prog 41 176 2 32=true:=by kernel_rfl
theorem DR:gG Try.prog 41 1=true:=by kernel_rfl
theorem CA:dP Try.prog 176 1 1 9=true:=by kernel_rfl
theorem call113:dI Try.prog 113=true:=by kernel_rfl
theorem CD:dP Try.prog 78 3 3 3=true:=by kernel_rfl
theorem Cz:dP Try.prog 169 7 11 3=true:=by kernel_rfl
theorem E1:dP Try.prog 78 4 4 3=true:=by kernel_rfl
theorem uH:gG Try.prog 4 1=true:=by kernel_rfl
theorem CE:dP Try.prog 78 5 5 9=true:=by kernel_rfl
theorem xn:dP Try.prog 169 3 7 167=true:=by kernel_rfl
theorem zb:hB Try.prog 167=true:=by kernel_rfl
theorem Bu:fB Try.prog 167 9 1=true:=by kernel_rfl
theorem call96:dI Try.prog 96=true:=by kernel_rfl
theorem E2:dP Try.prog 93 2 5 3=true:=by kernel_rfl
theorem BM:(Try.prog.info? 148).bind (·.zero)=some (.agg #[.int .i64 0,.slice none 0 0,.int .i64 0,.string { data:=#[] },.slice none 0 0,.int .i64 0]):=by kernel_rfl
theorem HH:j5 Try.prog 148 [(0,1),(1,1),(2,1),(3,1),(4,1),(5,1)]=true:=by kernel_rfl
theorem MM:gG Try.prog 148 6=true:=by kernel_rfl
theorem mZ:dP Try.prog 148 1 1 29=true:=by kernel_rfl
theorem hC:hB Try.prog 29=true:=by kernel_rfl
theorem call115:dI Try.prog 115=true:=by kernel_rfl
theorem nR:jm Try.prog 3 1=true:=by kernel_rfl
theorem eS:fB Try.prog 29 3 1=true:=by kernel_rfl
theorem nx:ix Try.prog 29 3 1 8=true:=by kernel_rfl
theorem wy:gG Try.prog 29 1=true:=by kernel_rfl
theorem zw:dP Try.prog 90 2 5 3=true:=by kernel_rfl
theorem JY:dP Try.prog 148 3 3 9=true:=by kernel_rfl
theorem J0:dP Try.prog 148 5 5 3=true:=by kernel_rfl
theorem zq:dP Try.prog 169 8 12 3=true:=by kernel_rfl
theorem lI:dP Try.prog 44 2 2 42=true:=by kernel_rfl
theorem mX:hB Try.prog 42=true:=by kernel_rfl
theorem Ii:jm Try.prog 148 6=true:=by kernel_rfl
theorem ns:fB Try.prog 42 148 6=true:=by kernel_rfl
theorem IQ:ix Try.prog 42 148 6 88=true:=by kernel_rfl
theorem HX:gG Try.prog 42 1=true:=by kernel_rfl
theorem zk:dP Try.prog 148 2 2 3=true:=by kernel_rfl
theorem JZ:dP Try.prog 148 4 4 29=true:=by kernel_rfl
theorem IX:iY Try.prog 148 6=true:=by kernel_rfl
theorem LG:s4 Try.prog 187 .u64=true:=by kernel_rfl
theorem Ng:jm Try.prog 5 1=true:=by kernel_rfl
theorem HO:fB Try.prog 123 5 1=true:=by kernel_rfl
theorem I7:uY Try.prog 123 9=true:=by kernel_rfl
theorem oY:(Try.prog.info? 44).bind (·.zero)=some (.agg #[.slice none 0 0,.slice none 0 0,.slice none 0 0,.string { data:=#[] },.string { data:=#[] }]):=by kernel_rfl
theorem qE:iY Try.prog 33 4=true:=by kernel_rfl
theorem call92:dI Try.prog 92=true:=by kernel_rfl
theorem HJ:j5 Try.prog 44 [(0,1),(1,1),(2,1),(3,1),(4,1)]=true:=by kernel_rfl
theorem nt:gG Try.prog 44 5=true:=by kernel_rfl
theorem gA:iY Try.prog 44 5=true:=by kernel_rfl
theorem Ie:(Try.prog.info? 4).bind (·.zero)=some (.bool false):=by kernel_rfl
theorem Et:(Try.prog.info? 4).map (·.bytes)=some 1:=by kernel_rfl
theorem Vm:(Try.prog.info? 169).bind (·.zero)=some (.agg #[.slice none 0 0,.slice none 0 0,.slice none 0 0,.string { data:=#[] },.string { data:=#[] },.slice none 0 0,.slice none 0 0,.slice none 0 0,.int .i64 0,.int .i64 0,.string { data:=#[] },.int .i64 0,.int .i64 0]):=by kernel_rfl
theorem Ur:j5 Try.prog 169 [(0,5),(5,1),(6,1),(7,1),(8,1),(9,1),(10,1),(11,1),(12,1)]=true:=by kernel_rfl
theorem D3:(Try.prog.info? 100).bind (·.zero)=some (.agg #[.int .i64 0,.string { data:=#[] },.slice none 0 0,.int .i64 0]):=by kernel_rfl
theorem MK:gG Try.prog 100 4=true:=by kernel_rfl
theorem call93:dI Try.prog 93=true:=by kernel_rfl
theorem pK:(Try.prog.info? 88).bind (·.zero)=some (.agg #[.string { data:=#[] },.bool false,.int .i64 0,.int .i64 0]):=by kernel_rfl
theorem uD:j5 Try.prog 88 [(0,1),(1,1),(2,1),(3,1)]=true:=by kernel_rfl
theorem E3:dP Try.prog 96 2 2 3=true:=by kernel_rfl
theorem Vv:jm Try.prog 9 1=true:=by kernel_rfl
theorem NV:ix Try.prog 167 9 1 16=true:=by kernel_rfl
theorem UL:gG Try.prog 167 1=true:=by kernel_rfl
theorem wz:gG Try.prog 88 4=true:=by kernel_rfl
theorem call97:dI Try.prog 97=true:=by kernel_rfl
theorem sC:dP Try.prog 44 1 1 41=true:=by kernel_rfl
theorem UM:gG Try.prog 176 2=true:=by kernel_rfl
theorem N_:iY Try.prog 176 2=true:=by kernel_rfl
theorem call99:dI Try.prog 99=true:=by kernel_rfl
theorem CC:dP Try.prog 33 3 3 9=true:=by kernel_rfl
theorem J5:dP Try.prog 44 3 3 9=true:=by kernel_rfl
theorem J6:dP Try.prog 44 4 4 9=true:=by kernel_rfl
theorem call78:dI Try.prog 78=true:=by kernel_rfl
theorem nA:dP Try.prog 137 0 0 3=true:=by kernel_rfl
theorem rN:dP Try.prog 137 1 1 3=true:=by kernel_rfl
theorem pV:iY Try.prog 137 2=true:=by kernel_rfl
theorem call102:dI Try.prog 102=true:=by kernel_rfl
theorem ki:fB Try.prog 132 137 2=true:=by kernel_rfl
theorem JR:sA Try.prog 137 [.i .i64,.i .i64]=true:=by kernel_rfl
theorem Ih:jm Try.prog 137 2=true:=by kernel_rfl
theorem Eh:ix Try.prog 132 137 2 16=true:=by kernel_rfl
theorem call101:dI Try.prog 101=true:=by kernel_rfl
theorem call100:dI Try.prog 100=true:=by kernel_rfl
theorem call81:dI Try.prog 81=true:=by kernel_rfl
theorem zj:dP Try.prog 148 0 0 3=true:=by kernel_rfl
theorem D4:(Try.prog.info? 137).bind (·.zero)=some (.agg #[.int .i64 0,.int .i64 0]):=by kernel_rfl
theorem HG:j5 Try.prog 137 [(0,1),(1,1)]=true:=by kernel_rfl
theorem call80:dI Try.prog 80=true:=by kernel_rfl
theorem mO:fB Try.prog 64 135 2=true:=by kernel_rfl
theorem u9:dP Try.prog 135 0 0 132=true:=by kernel_rfl
theorem u5:hB Try.prog 132=true:=by kernel_rfl
theorem call103:dI Try.prog 103=true:=by kernel_rfl
theorem M9:(Try.prog.info? 135).bind (·.zero)=some (.agg #[.slice none 0 0,.slice none 0 0]):=by kernel_rfl
theorem Mx:j5 Try.prog 135 [(0,1),(1,1)]=true:=by kernel_rfl
theorem Nd:jm Try.prog 135 2=true:=by kernel_rfl
theorem call79:dI Try.prog 79=true:=by kernel_rfl
theorem call67:dI Try.prog 67=true:=by kernel_rfl
theorem call70:dI Try.prog 70=true:=by kernel_rfl
theorem call82:dI Try.prog 82=true:=by kernel_rfl
theorem call83:dI Try.prog 83=true:=by kernel_rfl
theorem NY:ix Try.prog 64 135 2 48=true:=by kernel_rfl
theorem u_:dP Try.prog 135 1 1 133=true:=by kernel_rfl
theorem za:hB Try.prog 133=true:=by kernel_rfl
theorem M':(Try.prog.info? 145).bind (·.zero)=some (.agg #[.int .i64 0,.int .i64 0]):=by kernel_rfl
theorem My:j5 Try.prog 145 [(0,1),(1,1)]=true:=by kernel_rfl
theorem Nf:jm Try.prog 145 2=true:=by kernel_rfl
theorem Bt:fB Try.prog 133 145 2=true:=by kernel_rfl
theorem IL:ix Try.prog 133 145 2 16=true:=by kernel_rfl
theorem ML:gG Try.prog 133 1=true:=by kernel_rfl
theorem call68:dI Try.prog 68=true:=by kernel_rfl
theorem call69:dI Try.prog 69=true:=by kernel_rfl
theorem EY:dP Try.prog 145 0 0 3=true:=by kernel_rfl
theorem PZ:dP Try.prog 145 1 1 3=true:=by kernel_rfl
theorem zu:dP Try.prog 76 4 4 29=true:=by kernel_rfl
theorem E0:dP Try.prog 76 2 2 3=true:=by kernel_rfl
theorem u':dP Try.prog 76 3 3 4=true:=by kernel_rfl
theorem call59:dI Try.prog 59=true:=by kernel_rfl
theorem Na:(Try.prog.info? 76).bind (·.zero)=some (.agg #[.int .i64 0,.int .i64 0,.int .i64 0,.bool false,.slice none 0 0]):=by kernel_rfl
theorem Ut:j5 Try.prog 76 [(0,1),(1,1),(2,1),(3,1),(4,1)]=true:=by kernel_rfl
theorem UQ:gG Try.prog 76 5=true:=by kernel_rfl
theorem UJ:gG Try.prog 137 2=true:=by kernel_rfl
theorem Bs:fB Try.prog 112 139 3=true:=by kernel_rfl
theorem JW:dP Try.prog 139 0 0 3=true:=by kernel_rfl
theorem Cy:dP Try.prog 139 2 2 29=true:=by kernel_rfl
theorem JX:dP Try.prog 139 1 1 3=true:=by kernel_rfl
theorem Ca:iY Try.prog 76 5=true:=by kernel_rfl
theorem call66:dI Try.prog 66=true:=by kernel_rfl
theorem Vu:jm Try.prog 76 5=true:=by kernel_rfl
theorem Bw:fB Try.prog 65 76 5=true:=by kernel_rfl
theorem NZ:ix Try.prog 65 76 5 56=true:=by kernel_rfl
theorem kQ:fB Try.prog 34 29 1=true:=by kernel_rfl
theorem Vl:(Try.prog.info? 161).bind (·.zero)=some (.agg #[.int .i64 0,.int .i64 0]):=by kernel_rfl
theorem Uq:j5 Try.prog 161 [(0,1),(1,1)]=true:=by kernel_rfl
theorem Vq:jm Try.prog 161 2=true:=by kernel_rfl
theorem qs:fB Try.prog 158 161 2=true:=by kernel_rfl
theorem NU:ix Try.prog 158 161 2 16=true:=by kernel_rfl
theorem call88:dI Try.prog 88=true:=by kernel_rfl
theorem xl:dP Try.prog 161 0 0 3=true:=by kernel_rfl
theorem zl:dP Try.prog 161 1 1 3=true:=by kernel_rfl
theorem call104:dI Try.prog 104=true:=by kernel_rfl
theorem Ij:jm Try.prog 29 1=true:=by kernel_rfl
theorem Ei:ix Try.prog 34 29 1 24=true:=by kernel_rfl
theorem call107:dI Try.prog 107=true:=by kernel_rfl
theorem call105:dI Try.prog 105=true:=by kernel_rfl
theorem call106:dI Try.prog 106=true:=by kernel_rfl
theorem Vn:(Try.prog.info? 29).bind (·.zero)=some (.slice none 0 0):=by kernel_rfl
theorem Oe:(Try.prog.info? 29).map (·.bytes)=some 24:=by kernel_rfl
theorem call89:dI Try.prog 89=true:=by kernel_rfl
theorem call85:dI Try.prog 85=true:=by kernel_rfl
theorem call86:dI Try.prog 86=true:=by kernel_rfl
theorem call84:dI Try.prog 84=true:=by kernel_rfl
theorem call87:dI Try.prog 87=true:=by kernel_rfl
theorem call71:dI Try.prog 71=true:=by kernel_rfl
theorem call72:dI Try.prog 72=true:=by kernel_rfl
theorem M_:(Try.prog.info? 139).bind (·.zero)=some (.agg #[.int .i64 0,.int .i64 0,.slice none 0 0]):=by kernel_rfl
theorem Up:j5 Try.prog 139 [(0,1),(1,1),(2,1)]=true:=by kernel_rfl
theorem UK:gG Try.prog 139 3=true:=by kernel_rfl
theorem call73:dI Try.prog 73=true:=by kernel_rfl
theorem N9:iY Try.prog 139 3=true:=by kernel_rfl
theorem Vp:jm Try.prog 139 3=true:=by kernel_rfl
theorem NT:ix Try.prog 112 139 3 40=true:=by kernel_rfl
theorem call52:dI Try.prog 52=true:=by kernel_rfl
theorem call54:dI Try.prog 54=true:=by kernel_rfl
theorem call53:dI Try.prog 53=true:=by kernel_rfl
theorem call91:dI Try.prog 91=true:=by kernel_rfl
theorem EZ:dP Try.prog 76 0 0 3=true:=by kernel_rfl
theorem zt:dP Try.prog 76 1 1 3=true:=by kernel_rfl
theorem Nb:(Try.prog.info? 82).bind (·.zero)=some (.agg #[.int .i64 0,.int .i64 0,.int .i64 0,.int .i64 0]):=by kernel_rfl
theorem Mz:j5 Try.prog 82 [(0,1),(1,1),(2,1),(3,1)]=true:=by kernel_rfl
theorem Ni:jm Try.prog 82 4=true:=by kernel_rfl
theorem HQ:fB Try.prog 68 82 4=true:=by kernel_rfl
theorem Ek:ix Try.prog 68 82 4 32=true:=by kernel_rfl
theorem call75:dI Try.prog 75=true:=by kernel_rfl
theorem wG:(Try.prog.info? 47).bind (·.zero)=some (.agg #[.slice none 0 0,.slice none 0 0]):=by kernel_rfl
theorem ta:fB Try.prog 54 23 2=true:=by kernel_rfl
theorem Od:(Try.prog.info? 23).map (·.bytes)=some 16:=by kernel_rfl
theorem call58:dI Try.prog 58=true:=by kernel_rfl
theorem Vo:(Try.prog.info? 3).bind (·.zero)=some (.int .i64 0):=by kernel_rfl
theorem Og:(Try.prog.info? 3).map (·.bytes)=some 8:=by kernel_rfl
theorem xo:dP Try.prog 47 0 0 45=true:=by kernel_rfl
theorem zc:hB Try.prog 45=true:=by kernel_rfl
theorem Vt:jm Try.prog 54 1=true:=by kernel_rfl
theorem Bv:fB Try.prog 45 54 1=true:=by kernel_rfl
theorem NX:ix Try.prog 45 54 1 24=true:=by kernel_rfl
theorem sD:dP Try.prog 47 1 1 34=true:=by kernel_rfl
theorem pY:hB Try.prog 34=true:=by kernel_rfl
theorem UP:gG Try.prog 45 1=true:=by kernel_rfl
theorem UO:gG Try.prog 34 1=true:=by kernel_rfl
theorem pW:iY Try.prog 47 2=true:=by kernel_rfl
theorem yy:gG Try.prog 47 2=true:=by kernel_rfl
theorem call30:dI Try.prog 30=true:=by kernel_rfl
theorem Us:j5 Try.prog 47 [(0,1),(1,1)]=true:=by kernel_rfl
theorem call32:dI Try.prog 32=true:=by kernel_rfl
theorem call48:dI Try.prog 48=true:=by kernel_rfl
theorem r6:fB Try.prog 57 62 2=true:=by kernel_rfl
theorem IZ:iY Try.prog 62 2=true:=by kernel_rfl
theorem PT:sA Try.prog 62 [.i .i64,.i .i64]=true:=by kernel_rfl
theorem rn:fB Try.prog 51 59 2=true:=by kernel_rfl
theorem xp:dP Try.prog 59 0 0 3=true:=by kernel_rfl
theorem qN:dP Try.prog 59 1 1 57=true:=by kernel_rfl
theorem u6:hB Try.prog 57=true:=by kernel_rfl
theorem call49:dI Try.prog 49=true:=by kernel_rfl
theorem U8:Try.prog.underlying 3=some (.int .i64):=by kernel_rfl
noncomputable abbrev qe:yN Try.prog 3 Int:=Nr U8
theorem Vw:(Try.prog.info? 3).bind (·.zero)=some (.int .i64 0):=by kernel_rfl
noncomputable abbrev qg:yO Try.prog 3 Int:=Ns Vw
theorem DX:Try.prog.underlying 126=some (.map 3 3):=by kernel_rfl
theorem EO:hB Try.prog 54=true:=by kernel_rfl
theorem call50:dI Try.prog 50=true:=by kernel_rfl
theorem om:(Try.prog.info? 59).bind (·.zero)=some (.agg #[.int .i64 0,.slice none 0 0]):=by kernel_rfl
theorem rl:j5 Try.prog 59 [(0,1),(1,1)]=true:=by kernel_rfl
theorem DT:gG Try.prog 59 2=true:=by kernel_rfl
theorem call15:dI Try.prog 15=true:=by kernel_rfl
theorem uL:(Try.prog.info? 62).bind (·.zero)=some (.agg #[.int .i64 0,.int .i64 0]):=by kernel_rfl
theorem uC:j5 Try.prog 62 [(0,1),(1,1)]=true:=by kernel_rfl
theorem wJ:jm Try.prog 62 2=true:=by kernel_rfl
theorem B6:ix Try.prog 57 62 2 16=true:=by kernel_rfl
theorem DS:gG Try.prog 57 1=true:=by kernel_rfl
theorem B':iY Try.prog 59 2=true:=by kernel_rfl
theorem yG:jm Try.prog 59 2=true:=by kernel_rfl
theorem B5:ix Try.prog 51 59 2 32=true:=by kernel_rfl
theorem uE:j5 Try.prog 90 [(0,4),(4,1),(5,1)]=true:=by kernel_rfl
theorem wK:jm Try.prog 90 6=true:=by kernel_rfl
theorem yE:(Try.prog.info? 93).bind (·.zero)=some (.agg #[.slice none 0 0,.string { data:=#[] },.bool false,.int .i64 0,.int .i64 0,.int .i64 0]):=by kernel_rfl
theorem DN:j5 Try.prog 93 [(0,1),(1,4),(5,1)]=true:=by kernel_rfl
theorem D6:jm Try.prog 93 6=true:=by kernel_rfl
theorem HK:j5 Try.prog 96 [(0,1),(1,1),(2,1)]=true:=by kernel_rfl
theorem Il:jm Try.prog 96 3=true:=by kernel_rfl
theorem wF:(Try.prog.info? 33).bind (·.zero)=some (.agg #[.string { data:=#[] },.slice none 0 0,.slice none 0 0,.string { data:=#[] }]):=by kernel_rfl
theorem HI:j5 Try.prog 33 [(0,1),(1,1),(2,1),(3,1)]=true:=by kernel_rfl
theorem call21:dI Try.prog 21=true:=by kernel_rfl
theorem call23:dI Try.prog 23=true:=by kernel_rfl
theorem call22:dI Try.prog 22=true:=by kernel_rfl
theorem call25:dI Try.prog 25=true:=by kernel_rfl
theorem call17:dI Try.prog 17=true:=by kernel_rfl
theorem PS:sA Try.prog 23 [.i .i64,.i .i64]=true:=by kernel_rfl
theorem call13:dI Try.prog 13=true:=by kernel_rfl
theorem call14:dI Try.prog 14=true:=by kernel_rfl
theorem call16:dI Try.prog 16=true:=by kernel_rfl
theorem call42:dI Try.prog 42=true:=by kernel_rfl
theorem DQ:gG Try.prog 33 4=true:=by kernel_rfl
theorem JV:dP Try.prog 100 3 3 3=true:=by kernel_rfl
theorem Mw:j5 Try.prog 100 [(0,1),(1,1),(2,1),(3,1)]=true:=by kernel_rfl
theorem call43:dI Try.prog 43=true:=by kernel_rfl
theorem Ik:jm Try.prog 88 4=true:=by kernel_rfl
theorem IS:ix Try.prog 98 88 4 40=true:=by kernel_rfl
theorem MP:gG Try.prog 98 1=true:=by kernel_rfl
theorem Nc:jm Try.prog 100 4=true:=by kernel_rfl
theorem IN:ix Try.prog 30 100 4 56=true:=by kernel_rfl
theorem UN:gG Try.prog 30 1=true:=by kernel_rfl
theorem UR:gG Try.prog 93 6=true:=by kernel_rfl
theorem B7:ix Try.prog 91 90 6 64=true:=by kernel_rfl
theorem DU:gG Try.prog 91 1=true:=by kernel_rfl
theorem El:ix Try.prog 94 93 6 72=true:=by kernel_rfl
theorem HZ:gG Try.prog 94 1=true:=by kernel_rfl
theorem IP:ix Try.prog 31 96 3 48=true:=by kernel_rfl
theorem MN:gG Try.prog 31 1=true:=by kernel_rfl
theorem call65:dI Try.prog 65=true:=by kernel_rfl
theorem call47:dI Try.prog 47=true:=by kernel_rfl
theorem call45:dI Try.prog 45=true:=by kernel_rfl
theorem J2:dP Try.prog 36 0 0 3=true:=by kernel_rfl
theorem J3:dP Try.prog 36 2 2 29=true:=by kernel_rfl
theorem call44:dI Try.prog 44=true:=by kernel_rfl
theorem zr:dP Try.prog 36 1 1 34=true:=by kernel_rfl
theorem call46:dI Try.prog 46=true:=by kernel_rfl
theorem zs:dP Try.prog 36 3 3 29=true:=by kernel_rfl
theorem J4:dP Try.prog 36 4 4 4=true:=by kernel_rfl
theorem call51:dI Try.prog 51=true:=by kernel_rfl
theorem call19:dI Try.prog 19=true:=by kernel_rfl
theorem N':iY Try.prog 36 5=true:=by kernel_rfl
theorem call20:dI Try.prog 20=true:=by kernel_rfl
theorem Vr:jm Try.prog 33 4=true:=by kernel_rfl
theorem HP:fB Try.prog 39 33 4=true:=by kernel_rfl
theorem call24:dI Try.prog 24=true:=by kernel_rfl
theorem call26:dI Try.prog 26=true:=by kernel_rfl
theorem P0:dP Try.prog 62 0 0 3=true:=by kernel_rfl
theorem P1:dP Try.prog 62 1 1 3=true:=by kernel_rfl
theorem P4:dP Try.prog 82 2 2 3=true:=by kernel_rfl
theorem P5:dP Try.prog 82 3 3 3=true:=by kernel_rfl
theorem P2:dP Try.prog 82 0 0 3=true:=by kernel_rfl
theorem P3:dP Try.prog 82 1 1 3=true:=by kernel_rfl
instance:dV Try.prog 23 0 0 3:=⟨pb⟩
instance:gU Try.prog 3:=⟨ct⟩
instance:dV Try.prog 23 1 1 3:=⟨qM⟩
instance:sb Try.prog 9:=⟨j4⟩
instance:dV Try.prog 88 1 1 4:=⟨tC⟩
instance:gU Try.prog 4:=⟨mW⟩
instance:dV Try.prog 88 0 0 9:=⟨kq⟩
instance:gU Try.prog 9:=⟨eI⟩
instance:dV Try.prog 88 2 2 3:=⟨tD⟩
instance:dV Try.prog 100 0 0 3:=⟨oB⟩
instance:dV Try.prog 100 2 2 98:=⟨oC⟩
instance:gU Try.prog 98:=⟨p1⟩
instance:hb Try.prog 98 88 4:=⟨pG⟩
instance:dV Try.prog 100 1 1 9:=⟨nz⟩
instance:dV Try.prog 93 0 0 91:=⟨pd⟩
instance:gU Try.prog 91:=⟨sx⟩
instance:hb Try.prog 91 90 6:=⟨qu⟩
instance:dV Try.prog 90 1 4 9:=⟨qP⟩
instance:dV Try.prog 90 0 0 88:=⟨xq⟩
instance:dV Try.prog 93 1 1 88:=⟨sE⟩
instance:dV Try.prog 33 0 0 9:=⟨CB⟩
instance:dV Try.prog 33 1 1 30:=⟨pc⟩
instance:gU Try.prog 30:=⟨pX⟩
instance:hb Try.prog 30 100 4:=⟨oe⟩
instance:dV Try.prog 33 2 2 31:=⟨kH⟩
instance:gU Try.prog 31:=⟨lr⟩
instance:hb Try.prog 31 96 3:=⟨lh⟩
instance:dV Try.prog 96 0 0 9:=⟨sF⟩
instance:dV Try.prog 96 1 1 94:=⟨nY⟩
instance:gU Try.prog 94:=⟨p0⟩
instance:hb Try.prog 94 93 6:=⟨pF⟩
instance:dV Try.prog 169 4 8 3:=⟨zn⟩
instance:dV Try.prog 169 5 9 3:=⟨zo⟩
instance:dV Try.prog 169 6 10 9:=⟨zp⟩
instance:dV Try.prog 169 2 6 41:=⟨zm⟩
instance:gU Try.prog 41:=⟨sw⟩
instance:hb Try.prog 41 176 2:=⟨r5⟩
instance:dV Try.prog 176 0 0 9:=⟨J1⟩
instance:dV Try.prog 169 0 0 44:=⟨kp⟩
instance:dV Try.prog 44 0 0 40:=⟨oD⟩
instance:gU Try.prog 40:=⟨pZ⟩
instance:hb Try.prog 40 78 6:=⟨qt⟩
instance:dV Try.prog 78 0 0 9:=⟨J7⟩
instance:dV Try.prog 78 1 1 4:=⟨J8⟩
instance:dV Try.prog 78 2 2 3:=⟨zv⟩
instance:dV Try.prog 88 3 3 3:=⟨qO⟩
instance:dV Try.prog 169 1 5 103:=⟨xm⟩
instance:gU Try.prog 103:=⟨y_⟩
instance:hb Try.prog 103 4 1:=⟨oT⟩
instance:dV Try.prog 176 1 1 9:=⟨CA⟩
instance:dV Try.prog 78 3 3 3:=⟨CD⟩
instance:dV Try.prog 169 7 11 3:=⟨Cz⟩
instance:dV Try.prog 78 4 4 3:=⟨E1⟩
instance:dV Try.prog 78 5 5 9:=⟨CE⟩
instance:dV Try.prog 169 3 7 167:=⟨xn⟩
instance:gU Try.prog 167:=⟨zb⟩
instance:hb Try.prog 167 9 1:=⟨Bu⟩
instance:dV Try.prog 93 2 5 3:=⟨E2⟩
instance:dV Try.prog 148 1 1 29:=⟨mZ⟩
instance:gU Try.prog 29:=⟨hC⟩
instance:hb Try.prog 29 3 1:=⟨eS⟩
instance:dV Try.prog 90 2 5 3:=⟨zw⟩
instance:dV Try.prog 148 3 3 9:=⟨JY⟩
instance:dV Try.prog 148 5 5 3:=⟨J0⟩
instance:dV Try.prog 169 8 12 3:=⟨zq⟩
instance:dV Try.prog 44 2 2 42:=⟨lI⟩
instance:gU Try.prog 42:=⟨mX⟩
instance:hb Try.prog 42 148 6:=⟨ns⟩
instance:dV Try.prog 148 2 2 3:=⟨zk⟩
instance:dV Try.prog 148 4 4 29:=⟨JZ⟩
instance:hb Try.prog 123 5 1:=⟨HO⟩
instance:dV Try.prog 96 2 2 3:=⟨E3⟩
instance:dV Try.prog 44 1 1 41:=⟨sC⟩
instance:dV Try.prog 33 3 3 9:=⟨CC⟩
instance:dV Try.prog 44 3 3 9:=⟨J5⟩
instance:dV Try.prog 44 4 4 9:=⟨J6⟩
instance:dV Try.prog 137 0 0 3:=⟨nA⟩
instance:dV Try.prog 137 1 1 3:=⟨rN⟩
instance:hb Try.prog 132 137 2:=⟨ki⟩
instance:dV Try.prog 148 0 0 3:=⟨zj⟩
instance:hb Try.prog 64 135 2:=⟨mO⟩
instance:dV Try.prog 135 0 0 132:=⟨u9⟩
instance:gU Try.prog 132:=⟨u5⟩
instance:dV Try.prog 135 1 1 133:=⟨u_⟩
instance:gU Try.prog 133:=⟨za⟩
instance:hb Try.prog 133 145 2:=⟨Bt⟩
instance:dV Try.prog 145 0 0 3:=⟨EY⟩
instance:dV Try.prog 145 1 1 3:=⟨PZ⟩
instance:dV Try.prog 76 4 4 29:=⟨zu⟩
instance:dV Try.prog 76 2 2 3:=⟨E0⟩
instance:dV Try.prog 76 3 3 4:=⟨u'⟩
instance:hb Try.prog 112 139 3:=⟨Bs⟩
instance:dV Try.prog 139 0 0 3:=⟨JW⟩
instance:dV Try.prog 139 2 2 29:=⟨Cy⟩
instance:dV Try.prog 139 1 1 3:=⟨JX⟩
instance:hb Try.prog 65 76 5:=⟨Bw⟩
instance:hb Try.prog 34 29 1:=⟨kQ⟩
instance:hb Try.prog 158 161 2:=⟨qs⟩
instance:dV Try.prog 161 0 0 3:=⟨xl⟩
instance:dV Try.prog 161 1 1 3:=⟨zl⟩
instance:dV Try.prog 76 0 0 3:=⟨EZ⟩
instance:dV Try.prog 76 1 1 3:=⟨zt⟩
instance:hb Try.prog 68 82 4:=⟨HQ⟩
instance:hb Try.prog 54 23 2:=⟨ta⟩
instance:dV Try.prog 47 0 0 45:=⟨xo⟩
instance:gU Try.prog 45:=⟨zc⟩
instance:hb Try.prog 45 54 1:=⟨Bv⟩
instance:dV Try.prog 47 1 1 34:=⟨sD⟩
instance:gU Try.prog 34:=⟨pY⟩
instance:hb Try.prog 57 62 2:=⟨r6⟩
instance:hb Try.prog 51 59 2:=⟨rn⟩
instance:dV Try.prog 59 0 0 3:=⟨xp⟩
instance:dV Try.prog 59 1 1 57:=⟨qN⟩
instance:gU Try.prog 57:=⟨u6⟩
instance:gU Try.prog 54:=⟨EO⟩
instance:dV Try.prog 100 3 3 3:=⟨JV⟩
instance:dV Try.prog 36 0 0 3:=⟨J2⟩
instance:dV Try.prog 36 2 2 29:=⟨J3⟩
instance:dV Try.prog 36 1 1 34:=⟨zr⟩
instance:dV Try.prog 36 3 3 29:=⟨zs⟩
instance:dV Try.prog 36 4 4 4:=⟨J4⟩
instance:hb Try.prog 39 33 4:=⟨HP⟩
instance:dV Try.prog 62 0 0 3:=⟨P0⟩
instance:dV Try.prog 62 1 1 3:=⟨P1⟩
instance:dV Try.prog 82 2 2 3:=⟨P4⟩
instance:dV Try.prog 82 3 3 3:=⟨P5⟩
instance:dV Try.prog 82 0 0 3:=⟨P2⟩
instance:dV Try.prog 82 1 1 3:=⟨P3⟩
theorem Jt (a0:Act) (r:Int) (h:v' a0=some r):b_ Try.prog 15 [.agg [j a0.Kind,j a0.N]] [none] (j r):=by
 unfold v' at h
 refine b_.go (N:=⟨55,[]⟩) Try.func15 q q q q (W.fin ?_)
 refine W.st [(0,.agg [j a0.Kind,j a0.N])] ?_
 refine W.bV [1] (ai (O.box (.b2 q q) q)<|aq.aV) ?_
 refine W.aX<|W.bf ?_
 obtain ⟨kn,aa,h⟩:=ax h
 refine W.rs [(1,.obj [j a0.Kind,j a0.N]),(3,a1 kn)] ?_ ?_
 ·refine ai (O.a_ q (.obj q) pb q)<|ai (O.cq q (.ptr q) ct q)<|ai (O.eql (.lit q) (.k q))<|ai (O.aC (.lit q)) ?_
  rcases cB aa with ⟨db,aa⟩ | ⟨db,aa⟩
  ·refine aW db (O.a_ q (.obj q) qM q)<|aW db (O.cq q (.ptr q) ct q)<|aW db (O.geq (.lit q) (.k q))<|ai (O.eB (.lit q) db (.lit q))<|ai (O.aC (.lit q)) ?_
   rcases cB aa with ⟨cP,aa⟩ | ⟨cP,aa⟩
   ·obtain rfl:=au aa
    exact aq.aV
   ·obtain rfl:=au aa
    exact aq.aV
  ·obtain rfl:=au aa
   exact aq.aV
 refine W.bu h q (λc0 h=>?_) (λc0 h=>?_)
 ·refine W.aT [2] ?_
  refine W.rt ?_
  refine ah.d_ ?_
  refine ah.c5 ?_
  obtain rfl:=au h
  exact cw (.f q q .nil)
 ·obtain ⟨lX,aa,h⟩:=ax h
  refine W.rs [(1,.obj [j a0.Kind,j a0.N]),(20,a1 lX)] ?_ ?_
  ·refine ai (O.a_ q (.obj q) pb q)<|ai (O.cq q (.ptr q) ct q)<|ai (O.eql (.lit q) (.k q))<|ai (O.aC (.lit q)) ?_
   rcases cB aa with ⟨dH,aa⟩ | ⟨dH,aa⟩
   ·refine aW dH (O.a_ q (.obj q) qM q)<|aW dH (O.cq q (.ptr q) ct q)<|aW dH (O.gtr (.lit q) (.k q))<|ai (O.eB (.lit q) dH (.lit q))<|ai (O.aC (.lit q)) ?_
    rcases cB aa with ⟨ee,aa⟩ | ⟨ee,aa⟩
    ·obtain rfl:=au aa
     exact aq.aV
    ·obtain rfl:=au aa
     exact aq.aV
   ·obtain rfl:=au aa
    exact aq.aV
  refine W.bu h q (λc3 h=>?_) (λc3 h=>?_)
  ·refine W.bV [2] (ai (O.a_ q (.obj q) qM q)<|ai (O.cq q (.ptr q) ct q)<|ai (O.neg (.lit q))<|aq.aV) ?_
   refine W.rt ?_
   refine ah.d_ ?_
   refine ah.c5 ?_
   obtain rfl:=au h
   exact cw (.f q q .nil)
  ·obtain ⟨iz,aa,h⟩:=ax h
   refine W.rs [(1,.obj [j a0.Kind,j a0.N]),(37,a1 iz)] ?_ ?_
   ·refine ai (O.a_ q (.obj q) pb q)<|ai (O.cq q (.ptr q) ct q)<|ai (O.eql (.lit q) (.k q))<|ai (O.aC (.lit q)) ?_
    rcases cB aa with ⟨di,aa⟩ | ⟨di,aa⟩
    ·obtain rfl:=au aa
     exact aq.aV
    ·obtain rfl:=au aa
     exact aq.aV
   refine W.bu h q (λe_ h=>?_) (λe_ h=>?_)
   ·refine W.aT [2] ?_
    refine W.rt ?_
    refine ah.d_ ?_
    refine ah.c5 ?_
    obtain rfl:=au h
    exact cw (.f q q .nil)
   ·obtain ⟨jK,aa,h⟩:=ax h
    refine W.rs [(46,a1 jK)] ?_ ?_
    ·refine ai (O.a_ q (.obj q) pb q)<|ai (O.cq q (.ptr q) ct q)<|ai (O.eql (.lit q) (.k q))<|ai (O.aC (.lit q)) ?_
     rcases cB aa with ⟨dz,aa⟩ | ⟨dz,aa⟩
     ·obtain rfl:=au aa
      exact aq.aV
     ·obtain rfl:=au aa
      exact aq.aV
    refine W.bu h q (λeD h=>?_) (λeD h=>?_)
    ·refine W.aT [2] ?_
     refine W.rt ?_
     refine ah.d_ ?_
     refine ah.c5 ?_
     obtain rfl:=au h
     exact cw (.f q q .nil)
    ·refine W.bF<|ah.bf ?_
     refine ah.aU<|W.aT [2] ?_
     refine W.rt ?_
     obtain rfl:=au h
     exact cw (.f q q .nil)
theorem O0 (a0:Int) (r:Act) (h:Hs a0=some r):b_ Try.prog 17 [j a0] [none] (.agg [j r.Kind,j r.N]):=by
 unfold Hs at h
 refine b_.go (N:=⟨32,[]⟩) Try.func17 q q q q (W.fin ?_)
 refine W.st [(0,j a0)] ?_
 refine W.bV [0,2] (ai (O.fq (cs:=[j 0,j 0]) lS q q)<|bK q) ?_
 refine W.aX<|W.bf ?_
 obtain ⟨c2,aa,h⟩:=ax h
 refine W.rs [(0,j a0),(2,.obj [j 0,j 0]),(3,a1 c2)] ?_ ?_
 ·refine bp q<|ai (O.gtr (.lit q) (.k q))<|ai (O.aC (.lit q)) ?_
  rcases cB aa with ⟨db,aa⟩ | ⟨db,aa⟩
  ·obtain rfl:=au aa
   exact aq.aV
  ·obtain rfl:=au aa
   exact aq.aV
 refine W.bu h q (λfe h=>?_) (λfe h=>?_)
 ·refine W.bV [2] (bp q<|ai (O.sub (.lit q) (.k q))<|ai (O.dE (cs:=[j 1,j (aO (a0 - 1))]) qq lS q q q)<|aq.dx (G2:=[(2,_)]) (cs2:=[j 1,j (aO (a0 - 1))]) q (.obj q) (.b2 q q) q mP q q q q (.b q .nil)<|bK q) ?_
  refine W.rt ?_
  refine ah.d_ ?_
  refine ah.c5 ?_
  obtain rfl:=au h
  exact cw (.c (ys0:=[j 1,j (aO (a0 - 1))]) q lG q q q (.f q (.f q .nil)) .nil)
 ·obtain ⟨kF,aa,h⟩:=ax h
  refine W.rs [(0,j a0),(2,.obj [j 0,j 0]),(13,a1 kF)] ?_ ?_
  ·refine bp q<|ai (O.lss (.lit q) (.k q))<|ai (O.aC (.lit q)) ?_
   rcases cB aa with ⟨c0,aa⟩ | ⟨c0,aa⟩
   ·obtain rfl:=au aa
    exact aq.aV
   ·obtain rfl:=au aa
    exact aq.aV
  refine W.bu h q (λee h=>?_) (λee h=>?_)
  ·refine W.bV [2] (bp q<|ai (O.neg (.lit q))<|ai (O.dE (cs:=[j 2,j (aO (-a0))]) qq lS q q q)<|aq.dx (G2:=[(2,_)]) (cs2:=[j 2,j (aO (-a0))]) q (.obj q) (.b2 q q) q mP q q q q (.b q .nil)<|bK q) ?_
   refine W.rt ?_
   refine ah.d_ ?_
   refine ah.c5 ?_
   obtain rfl:=au h
   exact cw (.c (ys0:=[j 2,j (aO (-a0))]) q lG q q q (.f q (.f q .nil)) .nil)
  ·refine W.aT [0,2,23] ?_
   refine W.bu h q (λdn h=>?_) (λdn h=>?_)
   ·refine W.bV [2] (ai (O.dE (cs:=[j 3,j 0]) qq lS q q q)<|aq.dx (G2:=[(2,_)]) (cs2:=[j 3,j 0]) q (.obj q) (.b2 q q) q mP q q q q (.b q .nil)<|bK q) ?_
    refine W.rt ?_
    refine ah.d_ ?_
    refine ah.c5 ?_
    obtain rfl:=au h
    exact cw (.c (ys0:=[j 3,j 0]) q lG q q q (.f q (.f q .nil)) .nil)
   ·refine W.aT [2,27] ?_
    refine W.bu h q (λc3 h=>?_) (λc3 h=>?_)
    ·refine W.bV [2] (ai (O.dE (cs:=[j 4,j 0]) qq lS q q q)<|aq.dx (G2:=[(2,_)]) (cs2:=[j 4,j 0]) q (.obj q) (.b2 q q) q mP q q q q (.b q .nil)<|bK q) ?_
     refine W.rt ?_
     refine ah.d_ ?_
     refine ah.c5 ?_
     obtain rfl:=au h
     exact cw (.c (ys0:=[j 4,j 0]) q lG q q q (.f q (.f q .nil)) .nil)
    ·refine W.bF<|ah.bf ?_
     refine ah.aU<|W.bV [2] (ai (O.dE (cs:=[j 0,j 0]) qq lS q q q)<|aq.dx (G2:=[(2,_)]) (cs2:=[j 0,j 0]) q (.obj q) (.b2 q q) q mP q q q q (.b q .nil)<|bK q) ?_
     refine W.rt ?_
     obtain rfl:=au h
     exact cw (.c (ys0:=[j 0,j 0]) q lG q q q (.f q (.f q .nil)) .nil)
theorem OV (a0:Int) (r:Bool) (h:AT a0=some r):b_ Try.prog 121 [mo a0] [none] (a1 r):=by
 unfold AT at h
 refine b_.go (N:=⟨21,[]⟩) Try.func121 q q q q (W.fin ?_)
 refine W.st [(0,mo a0)] ?_
 refine W.aT [0] ?_
 obtain ⟨lX,aa,h⟩:=ax h
 refine W.rs [(2,a1 lX)] ?_ ?_
 ·refine bp q<|ai (O.geq (.lit q) (.k q))<|ai (O.aC (.lit q)) ?_
  rcases cB aa with ⟨db,aa⟩ | ⟨db,aa⟩
  ·refine aW db (O.aC (.lit q))<|aW db (O.leq (.lit q) (.k q))<|ai (O.eB (.lit q) db (.lit q))<|ai (O.aC (.lit q)) ?_
   rcases cB aa with ⟨cP,aa⟩ | ⟨cP,aa⟩
   ·obtain rfl:=au aa
    exact aq.aV
   ·refine aW cP (O.aC (.lit q))<|aW cP (O.geq (.lit q) (.k q))<|aW cP (O.aC (.lit q)) ?_
    rcases cB aa with ⟨fe,aa⟩ | ⟨fe,aa⟩
    ·refine aW fe (O.aC (.lit q))<|aW fe (O.leq (.lit q) (.k q))<|aW cP (O.eB (.lit q) fe (.lit q))<|ai (O.dL (.lit q) cP (.lit q))<|ai (O.aC (.lit q)) ?_
     rcases cB aa with ⟨c0,aa⟩ | ⟨c0,aa⟩
     ·obtain rfl:=au aa
      exact aq.aV
     ·obtain rfl:=au aa
      exact aq.aV
    ·obtain rfl:=au aa
     exact cF fe<|cF fe<|aW cP (O.dL (.lit q) fe (.k q))<|aq.aV
  ·refine cF db<|cF db<|ai (O.dL (.lit q) db (.k q))<|bp q<|aW q (O.aC (.lit q))<|aW q (O.geq (.lit q) (.k q))<|aW q (O.aC (.lit q)) ?_
   rcases cB aa with ⟨dH,aa⟩ | ⟨dH,aa⟩
   ·refine aW dH (O.aC (.lit q))<|aW dH (O.leq (.lit q) (.k q))<|aW q (O.eB (.lit q) dH (.lit q))<|ai (O.dL (.lit q) q (.lit q))<|ai (O.aC (.lit q)) ?_
    rcases cB aa with ⟨ee,aa⟩ | ⟨ee,aa⟩
    ·obtain rfl:=au aa
     exact aq.aV
    ·obtain rfl:=au aa
     exact aq.aV
   ·obtain rfl:=au aa
    exact cF dH<|cF dH<|aW q (O.dL (.lit q) dH (.k q))<|aq.aV
 refine W.rt ?_
 obtain rfl:=au h
 exact cw (.f q q .nil)
theorem OW (a0:Int) (r:Bool) (h:AU a0=some r):b_ Try.prog 122 [mo a0] [none] (a1 r):=by
 unfold AU at h
 refine b_.go (N:=⟨9,[]⟩) Try.func122 q q q q (W.fin ?_)
 refine W.st [(0,mo a0)] ?_
 refine W.aT [0] ?_
 obtain ⟨c2,aa,h⟩:=ax h
 refine W.rs [(2,a1 c2)] ?_ ?_
 ·refine bp q<|ai (O.geq (.lit q) (.k q))<|ai (O.aC (.lit q)) ?_
  rcases cB aa with ⟨db,aa⟩ | ⟨db,aa⟩
  ·obtain rfl:=au aa
   exact aq.aV
  ·obtain rfl:=au aa
   exact aq.aV
 refine W.rt ?_
 obtain rfl:=au h
 exact cw (.f q q .nil)
theorem OT (a0:ByteArray) (aw:Int) (r:Int) (h:AR a0 aw=some r):b_ Try.prog 117 [ae a0,j aw] [none,none] (j r):=by
 unfold AR at h
 refine b_.go (N:=⟨43,[]⟩) Try.func117 q q q q (W.fin ?_)
 refine W.st [(0,ae a0),(1,j aw)] ?_
 refine W.aT [0,1] ?_
 refine W.aT [0,1,5] ?_
 refine W.aX<|W.bf ?_
 obtain ⟨x2,ao,h⟩:=ax h
 refine W.ca (G1:=[(0,_),(1,_),(5,_)]) (dt q q q) ?_
 refine W.eg (s:=0) (λ(s1:Int)=>[(0,ae a0),(1,j aw),(5,j s1)]) 0 (λ(x2:Int)=>[(5,j x2)]) ao (λs1 o h=>?_) ?_
 ·clear ao
  refine W.aX ?_
  obtain ⟨jK,aa,h⟩:=ax h
  refine W.rs [(0,ae a0),(1,j aw),(5,j s1),(39,a1 jK)] ?_ ?_
  ·refine bp q<|bp q<|ai (O.add (.lit q) (.lit q))<|bp q<|ai (O.mI (.lit q) j4)<|ai (O.lss (.lit q) (.lit q))<|ai (O.aC (.lit q)) ?_
   rcases cB aa with ⟨c0,aa⟩ | ⟨c0,aa⟩
   ·refine aW c0 (O.aC (.lit q))<|aW c0 (O.aC (.lit q))<|aW c0 (O.aC (.lit q))<|aW c0 (O.add (.lit q) (.lit q)) ?_
    obtain ⟨cn,kM,aa⟩:=ax aa
    refine aW c0 (O.qD (.lit q) (.lit q) j4 kM) ?_
    obtain ⟨bP,ga,aa⟩:=ax aa
    refine aq.c (cr.go (.bT (.lit q) .nil) (OV cn _ ga) call121 q) q q (.hf q q c0)<|aW c0 (O.aC (.lit q)) ?_
    rcases cB aa with ⟨dn,aa⟩ | ⟨dn,aa⟩
    ·obtain rfl:=au aa
     exact cF dn<|cF dn<|cF dn<|hh<|hh<|hh<|hh<|hh<|hh<|hh<|hh<|hh<|hh<|hh<|hh<|hh<|hh<|cF dn<|aW c0 (O.eB (.lit q) dn (.k q))<|aq.aV
    ·refine aW dn (O.aC (.lit q))<|aW dn (O.gtr (.lit q) (.k q))<|aW dn (O.aC (.lit q)) ?_
     rcases cB aa with ⟨c3,aa⟩ | ⟨c3,aa⟩
     ·refine aW c3 (O.aC (.lit q))<|aW c3 (O.aC (.lit q))<|aW c3 (O.aC (.lit q))<|aW c3 (O.add (.lit q) (.lit q)) ?_
      obtain ⟨cv,jx,aa⟩:=ax aa
      refine aW c3 (O.qD (.lit q) (.lit q) j4 jx) ?_
      obtain ⟨bM,iF,aa⟩:=ax aa
      refine aq.c (cr.go (.bT (.lit q) .nil) (OW cv _ iF) call122 q) q q (.hf q q c3)<|aW c3 (O.aC (.lit q)) ?_
      rcases cB aa with ⟨e_,aa⟩ | ⟨e_,aa⟩
      ·obtain rfl:=au aa
       exact cF e_<|cF e_<|cF e_<|cF e_<|cF e_<|cF e_<|aW c3 (O.eB (.lit q) e_ (.k q))<|aW dn (O.eB (.lit q) c3 (.lit q))<|aW c0 (O.dL (.lit q) dn (.lit q))<|aq.aV
      ·refine aW e_ (O.aC (.lit q))<|aW e_ (O.aC (.lit q))<|aW e_ (O.aC (.lit q))<|aW e_ (O.add (.lit q) (.lit q)) ?_
       obtain ⟨dh,kL,aa⟩:=ax aa
       obtain rfl:=au aa
       exact aW e_ (O.qD (.lit q) (.lit q) j4 kL)<|aW e_ (O.eql (.lit q) (.k q))<|aW c3 (O.dL (.lit q) e_ (.lit q))<|aW dn (O.eB (.lit q) c3 (.lit q))<|aW c0 (O.dL (.lit q) dn (.lit q))<|aq.aV
     ·obtain rfl:=au aa
      exact cF c3<|cF c3<|cF c3<|cF c3<|cF c3<|cF c3<|cF c3<|hh<|hh<|hh<|hh<|hh<|hh<|cF c3<|aW dn (O.dL (.lit q) c3 (.k q))<|aW c0 (O.dL (.lit q) dn (.lit q))<|aq.aV
   ·obtain rfl:=au aa
    exact aq.aV
  refine W.bu h q (λeD h=>?_) (λeD h=>?_)
  ·refine W.bF<|ah.aU ?_
   refine W.bf<|W.bk [0,1,5] (bp q<|ai (O.add (.lit q) (.k q))<|aq.bk [0,1,41] q<|aq.aV) ?_
   refine ah.bf ?_
   obtain rfl:=au h
   exact ah.go (dt q q q)
  ·refine W.c9 ?_
   refine ah.c7 ?_
   obtain rfl:=au h
   exact ah.aD (.n q .nil)
 refine ah.c' ?_
 refine ah.aU<|W.aT [4] ?_
 refine W.rt ?_
 obtain rfl:=au h
 exact cw (.f q q .nil)
theorem Cm (a0:ByteArray) (r:Bool) (h:uu a0=some r):b_ Try.prog 111 [ae a0] [none] (a1 r):=by
 unfold uu at h
 refine b_.go (N:=⟨18,[]⟩) Try.func111 q q q q (W.fin ?_)
 refine W.st [(0,ae a0)] ?_
 refine W.aT [0] ?_
 obtain ⟨c4,aa,h⟩:=ax h
 refine W.rs [(2,a1 c4)] ?_ ?_
 ·refine bp q<|ai (O.mI (.lit q) j4)<|ai (O.geq (.lit q) (.k q))<|ai (O.aC (.lit q)) ?_
  rcases cB aa with ⟨db,aa⟩ | ⟨db,aa⟩
  ·refine aW db (O.aC (.lit q))<|aW db (O.mI (.lit q) j4)<|aW db (O.leq (.lit q) (.k q))<|ai (O.eB (.lit q) db (.lit q))<|ai (O.aC (.lit q)) ?_
   rcases cB aa with ⟨cP,aa⟩ | ⟨cP,aa⟩
   ·refine aW cP (O.aC (.lit q)) ?_
    obtain ⟨a8,hJ,aa⟩:=ax aa
    obtain rfl:=au aa
    exact aq.c (cr.go (.bT (.lit q) (.bT (.k q) .nil)) (OT a0 0 _ hJ) call117 q) q q (.hf q q cP)<|aq.aV
   ·obtain rfl:=au aa
    exact aq.aV
  ·obtain rfl:=au aa
   exact aq.aV
 refine W.rt ?_
 obtain rfl:=au h
 exact cw (.f q q .nil)
theorem OU (a0:Int) (r:Int × Bool) (h:AS a0=some r):b_ Try.prog 120 [mo a0] [none] (.cG [mo r.1,a1 r.2]):=by
 unfold AS at h
 refine b_.go (N:=⟨21,[]⟩) Try.func120 q q q q (W.fin ?_)
 refine W.st [(0,mo a0)] ?_
 refine W.aT [0] ?_
 refine W.aX<|W.aT [0,4] ?_
 refine W.bf<|W.aT [0,4,5] ?_
 refine W.bu h q (λdb h=>?_) (λdb h=>?_)
 ·refine W.aT [2,3] ?_
  refine W.rt ?_
  refine ah.d_ ?_
  refine ah.c5 ?_
  obtain rfl:=au h
  exact cw (.f q q (.f q q .nil))
 ·refine W.aT [0,4,7] ?_
  refine W.bu h q (λcP h=>?_) (λcP h=>?_)
  ·refine W.aT [2,3] ?_
   refine W.rt ?_
   refine ah.d_ ?_
   refine ah.c5 ?_
   obtain rfl:=au h
   exact cw (.f q q (.f q q .nil))
  ·refine W.aT [0,4,9] ?_
   refine W.bu h q (λfe h=>?_) (λfe h=>?_)
   ·refine W.aT [2,3] ?_
    refine W.rt ?_
    refine ah.d_ ?_
    refine ah.c5 ?_
    obtain rfl:=au h
    exact cw (.f q q (.f q q .nil))
   ·refine W.aX<|W.aT [0,4,11] ?_
    obtain ⟨GW,aa,h⟩:=ax h
    refine W.bs [(0,mo a0),(11,a1 GW)] ?_ ?_
    ·clear h; have h:=aa; clear aa
     refine W.bu h q (λdH h=>?_) (λdH h=>?_)
     ·refine W.bF ?_
      obtain rfl:=au h
      exact ah.bs (fC q q)
     ·refine W.bk [0,11] (ai (O.eql (.lit q) (.k q))<|aq.bk [0,13] q<|aq.aV) ?_
      obtain rfl:=au h
      exact ah.bs (fC q q)
    refine ah.aU<|W.bu h q (λee h=>?_) (λee h=>?_)
    ·refine W.aT [2,3] ?_
     refine W.rt ?_
     refine ah.d_ ?_
     refine ah.c5 ?_
     obtain rfl:=au h
     exact cw (.f q q (.f q q .nil))
    ·refine W.bF<|ah.bf ?_
     refine ah.aU ?_
     obtain ⟨sq,aa,h⟩:=ax h
     refine W.rs [(2,mo sq.1),(3,a1 sq.2)] ?_ ?_
     ·refine bp q<|ai (O.geq (.lit q) (.k q))<|ai (O.aC (.lit q)) ?_
      rcases cB aa with ⟨dn,aa⟩ | ⟨dn,aa⟩
      ·obtain rfl:=au aa
       exact aq.aV
      ·obtain rfl:=au aa
       exact aq.aV
     refine W.rt ?_
     obtain rfl:=au h
     exact cw (.f q q (.f q q .nil))
theorem EG (a0:Sym) (aw:Bool) (a2:Bool) (r:Bool) (h:v7 a0 aw a2=some r):b_ Try.prog 116 [.agg (dc.cells a0),a1 aw,a1 a2] [none,none,none] (a1 r):=by
 unfold v7 at h
 refine b_.go (N:=⟨53,[]⟩) Try.func116 q q q q (W.fin ?_)
 refine W.st [(0,.agg (dc.cells a0)),(1,a1 aw),(2,a1 a2)] ?_
 refine W.bV [1,2,3] (ai (O.box (.b2 q q) q)<|aq.aV) ?_
 refine W.aX<|W.aT [1,2,3,10] ?_
 refine W.bu h q (λdb h=>?_) (λdb h=>?_)
 ·refine W.aX ?_
  obtain ⟨c4,aa,h⟩:=ax h
  refine W.rs [(3,.obj (dc.cells a0)),(23,a1 c4)] ?_ ?_
  ·refine bp q<|ai (O.not (.lit q))<|ai (O.aC (.lit q)) ?_
   rcases cB aa with ⟨cP,aa⟩ | ⟨cP,aa⟩
   ·obtain rfl:=au aa
    exact aq.aV
   ·refine aW cP (O.a_ q (.obj q) kq q)<|aW cP (O.cq q (.ptr q) eI q)<|aW cP (O.mI (.lit q) j4)<|aW cP (O.neq (.lit q) (.k q))<|ai (O.dL (.lit q) cP (.lit q))<|ai (O.aC (.lit q)) ?_
    rcases cB aa with ⟨fe,aa⟩ | ⟨fe,aa⟩
    ·obtain rfl:=au aa
     exact aq.aV
    ·obtain rfl:=au aa
     exact aq.aV
  refine W.bu h q (λdH h=>?_) (λdH h=>?_)
  ·refine W.aT [6] ?_
   refine W.rt ?_
   refine ah.c5 ?_
   refine ah.c5 ?_
   obtain rfl:=au h
   exact cw (.f q q .nil)
  ·refine W.bF<|ah.aU ?_
   obtain ⟨bP,ga,h⟩:=ax h
   obtain ⟨bz,gw,h⟩:=ax h
   refine W.bV [8] (ai (O.a_ q (.obj q) kq q)<|ai (O.cq q (.ptr q) eI q)<|ai (O.qD (.lit q) (.k q) j4 ga)<|eE (cr.go (.bT (.lit q) .nil) (OU bP _ gw) call120 q)<|ai (O.aC (.H3 q q))<|ai (O.ex (y:=mo bz.1) q q q)<|ai (O.ex (y:=a1 bz.2) q q q)<|aq.aV) ?_
   refine W.aT [6] ?_
   refine W.rt ?_
   refine ah.c5 ?_
   obtain rfl:=au h
   exact cw (.f q q .nil)
 ·refine W.bF<|ah.aU ?_
  obtain ⟨jK,aa,h⟩:=ax h
  refine W.rs [(6,a1 jK)] ?_ ?_
  ·refine ai (O.a_ q (.obj q) kq q)<|ai (O.cq q (.ptr q) eI q) ?_
   obtain ⟨b1,hK,aa⟩:=ax aa
   refine eE (cr.go (.bT (.lit q) .nil) (Cm a0.Name _ hK) call111 q)<|ai (O.aC (.lit q)) ?_
   rcases cB aa with ⟨di,aa⟩ | ⟨di,aa⟩
   ·refine aW di (O.a_ q (.obj q) tD q)<|aW di (O.cq q (.ptr q) ct q)<|aW di (O.eql (.lit q) (.k q))<|aW di (O.aC (.lit q)) ?_
    rcases cB aa with ⟨eJ,aa⟩ | ⟨eJ,aa⟩
    ·obtain rfl:=au aa
     exact cF eJ<|cF eJ<|hh<|hh<|hh<|cF eJ<|cF eJ<|hh<|hh<|hh<|cF eJ<|aW di (O.eB (.lit q) eJ (.k q))<|aq.aV
    ·refine aW eJ (O.aC (.lit q))<|aW eJ (O.aC (.lit q)) ?_
     rcases cB aa with ⟨e_,aa⟩ | ⟨e_,aa⟩
     ·refine aW e_ (O.a_ q (.obj q) tD q)<|aW e_ (O.cq q (.ptr q) ct q)<|aW e_ (O.geq (.lit q) (.k q))<|aW eJ (O.eB (.lit q) e_ (.lit q))<|aW eJ (O.aC (.lit q)) ?_
      rcases cB aa with ⟨dz,aa⟩ | ⟨dz,aa⟩
      ·obtain rfl:=au aa
       exact aW dz (O.a_ q (.obj q) tD q)<|aW dz (O.cq q (.ptr q) ct q)<|aW dz (O.leq (.lit q) (.k q))<|aW eJ (O.eB (.lit q) dz (.lit q))<|aW di (O.dL (.lit q) eJ (.lit q))<|aq.aV
      ·obtain rfl:=au aa
       exact cF dz<|cF dz<|cF dz<|aW eJ (O.dL (.lit q) dz (.k q))<|aW di (O.dL (.lit q) eJ (.lit q))<|aq.aV
     ·obtain rfl:=au aa
      exact cF e_<|cF e_<|cF e_<|aW eJ (O.dL (.lit q) e_ (.k q))<|aW eJ (O.aC (.lit q))<|cF q<|cF q<|cF q<|aW eJ (O.dL (.lit q) q (.k q))<|aW di (O.dL (.lit q) eJ (.lit q))<|aq.aV
   ·obtain rfl:=au aa
    exact aq.aV
  refine W.rt ?_
  obtain rfl:=au h
  exact cw (.f q q .nil)
theorem OR (a0:Decl) (r:Bool) (h:AP a0=some r):b_ Try.prog 110 [.agg (cx.cells a0)] [none] (a1 r):=by
 unfold AP at h
 refine b_.go (N:=⟨75,[]⟩) Try.func110 q q q q (W.fin ?_)
 refine W.st [(0,.agg (cx.cells a0))] ?_
 refine W.bV [1] (ai (O.box (.b2 q q) q)<|aq.aV) ?_
 refine W.aX ?_
 obtain ⟨tz,aa,h⟩:=ax h
 refine W.rs [(1,.obj (cx.cells a0)),(54,a1 tz)] ?_ ?_
 ·refine ai (O.a_ q (.obj q) oB q)<|ai (O.cq q (.ptr q) ct q)<|ai (O.lss (.lit q) (.k q))<|ai (O.aC (.lit q)) ?_
  rcases cB aa with ⟨db,aa⟩ | ⟨db,aa⟩
  ·obtain rfl:=au aa
   exact aq.aV
  ·refine aW db (O.a_ q (.obj q) oB q)<|aW db (O.cq q (.ptr q) ct q)<|aW db (O.gtr (.lit q) (.k q))<|ai (O.dL (.lit q) db (.lit q))<|ai (O.aC (.lit q)) ?_
   rcases cB aa with ⟨cP,aa⟩ | ⟨cP,aa⟩
   ·obtain rfl:=au aa
    exact aq.aV
   ·refine aW cP (O.a_ q (.obj q) oC q)<|aW cP (O.cU (y:=ag dc a0.eV) q (.ptr q) p1 q q)<|aW cP (O.hc (.aF q) pG)<|aW cP (O.eql (.lit q) (.k q))<|ai (O.dL (.lit q) cP (.lit q))<|ai (O.aC (.lit q)) ?_
    rcases cB aa with ⟨fe,aa⟩ | ⟨fe,aa⟩
    ·obtain rfl:=au aa
     exact aq.aV
    ·refine aW fe (O.a_ q (.obj q) oB q)<|aW fe (O.cq q (.ptr q) ct q)<|aW fe (O.eql (.lit q) (.k q))<|aW fe (O.aC (.lit q)) ?_
     rcases cB aa with ⟨c0,aa⟩ | ⟨c0,aa⟩
     ·refine aW c0 (O.a_ q (.obj q) oC q)<|aW c0 (O.cU (y:=ag dc a0.eV) q (.ptr q) p1 q q)<|aW c0 (O.hc (.aF q) pG)<|aW c0 (O.neq (.lit q) (.k q))<|aW c0 (O.aC (.lit q)) ?_
      rcases cB aa with ⟨dH,aa⟩ | ⟨dH,aa⟩
      ·obtain rfl:=au aa
       exact cF dH<|cF dH<|cF dH<|aW c0 (O.eB (.lit q) dH (.k q))<|aW fe (O.eB (.lit q) c0 (.lit q))<|aq.aV
      ·refine aW dH (O.a_ q (.obj q) nz q)<|aW dH (O.cq q (.ptr q) eI q)<|aW dH (O.l' (.lit q) (.k q))<|aW c0 (O.dL (.lit q) dH (.lit q))<|aW fe (O.eB (.lit q) c0 (.lit q))<|ai (O.dL (.lit q) fe (.lit q))<|ai (O.aC (.lit q)) ?_
       rcases cB aa with ⟨ee,aa⟩ | ⟨ee,aa⟩
       ·obtain rfl:=au aa
        exact aq.aV
       ·refine aW ee (O.a_ q (.obj q) oB q)<|aW ee (O.cq q (.ptr q) ct q)<|aW ee (O.eql (.lit q) (.k q))<|aW ee (O.aC (.lit q)) ?_
        rcases cB aa with ⟨dn,aa⟩ | ⟨dn,aa⟩
        ·refine aW dn (O.a_ q (.obj q) nz q)<|aW dn (O.cq q (.ptr q) eI q)<|aW dn (O.oA (.lit q) (.k q))<|aW ee (O.eB (.lit q) dn (.lit q))<|ai (O.dL (.lit q) ee (.lit q))<|ai (O.aC (.lit q)) ?_
         rcases cB aa with ⟨c3,aa⟩ | ⟨c3,aa⟩
         ·obtain rfl:=au aa
          exact aq.aV
         ·obtain rfl:=au aa
          exact aW c3 (O.a_ q (.obj q) nz q)<|aW c3 (O.cq q (.ptr q) eI q)<|aW c3 (O.l' (.lit q) (.k q))<|aW c3 (O.aC (.lit q))<|cF ee<|cF ee<|cF ee<|cF ee<|aW c3 (O.dL (.lit q) ee (.k q))<|aq.aV
        ·obtain rfl:=au aa
         exact cF dn<|cF dn<|cF dn<|aW ee (O.dL (.lit q) dn (.k q))<|ai (O.dL (.lit q) ee (.lit q))<|bp q<|aW q (O.a_ q (.obj q) nz q)<|aW q (O.cq q (.ptr q) eI q)<|aW q (O.l' (.lit q) (.k q))<|aW q (O.aC (.lit q))<|cF ee<|cF ee<|cF ee<|cF ee<|aW q (O.dL (.lit q) ee (.k q))<|aq.aV
     ·refine cF c0<|cF c0<|cF c0<|cF c0<|cF c0<|hh<|hh<|hh<|cF c0<|aW fe (O.dL (.lit q) c0 (.k q))<|ai (O.dL (.lit q) fe (.lit q))<|bp q<|aW q (O.a_ q (.obj q) oB q)<|aW q (O.cq q (.ptr q) ct q)<|aW q (O.eql (.lit q) (.k q))<|aW q (O.aC (.lit q)) ?_
      rcases cB aa with ⟨di,aa⟩ | ⟨di,aa⟩
      ·refine aW di (O.a_ q (.obj q) nz q)<|aW di (O.cq q (.ptr q) eI q)<|aW di (O.oA (.lit q) (.k q))<|aW q (O.eB (.lit q) di (.lit q))<|ai (O.dL (.lit q) q (.lit q))<|ai (O.aC (.lit q)) ?_
       rcases cB aa with ⟨eJ,aa⟩ | ⟨eJ,aa⟩
       ·obtain rfl:=au aa
        exact aq.aV
       ·refine aW eJ (O.a_ q (.obj q) nz q)<|aW eJ (O.cq q (.ptr q) eI q)<|aW eJ (O.l' (.lit q) (.k q))<|aW eJ (O.aC (.lit q)) ?_
        rcases cB aa with ⟨e_,aa⟩ | ⟨e_,aa⟩
        ·refine aW e_ (O.a_ q (.obj q) nz q)<|aW e_ (O.cq q (.ptr q) eI q) ?_
         obtain ⟨dh,kL,aa⟩:=ax aa
         obtain rfl:=au aa
         exact aq.c (cr.go (.bT (.lit q) .nil) (Cm a0.Tag _ kL) call111 q) q q (.hf q q e_)<|aW e_ (O.not (.lit q))<|aW eJ (O.eB (.lit q) e_ (.lit q))<|aq.aV
        ·obtain rfl:=au aa
         exact cF e_<|cF e_<|cF e_<|cF e_<|aW eJ (O.dL (.lit q) e_ (.k q))<|aq.aV
      ·refine cF di<|cF di<|cF di<|aW q (O.dL (.lit q) di (.k q))<|ai (O.dL (.lit q) q (.lit q))<|bp q<|aW q (O.a_ q (.obj q) nz q)<|aW q (O.cq q (.ptr q) eI q)<|aW q (O.l' (.lit q) (.k q))<|aW q (O.aC (.lit q)) ?_
       rcases cB aa with ⟨hn,aa⟩ | ⟨hn,aa⟩
       ·refine aW hn (O.a_ q (.obj q) nz q)<|aW hn (O.cq q (.ptr q) eI q) ?_
        obtain ⟨dU,jP,aa⟩:=ax aa
        obtain rfl:=au aa
        exact aq.c (cr.go (.bT (.lit q) .nil) (Cm a0.Tag _ jP) call111 q) q q (.hf q q hn)<|aW hn (O.not (.lit q))<|aW q (O.eB (.lit q) hn (.lit q))<|aq.aV
       ·obtain rfl:=au aa
        exact cF hn<|cF hn<|cF hn<|cF hn<|aW q (O.dL (.lit q) hn (.k q))<|aq.aV
 refine W.bu h q (λgf h=>?_) (λgf h=>?_)
 ·refine W.aT [2] ?_
  refine W.rt ?_
  refine ah.c5 ?_
  obtain rfl:=au h
  exact cw (.f q q .nil)
 ·refine W.bF<|ah.aU ?_
  refine W.aX<|W.aT [1,3] ?_
  refine W.bf ?_
  obtain ⟨dS,ao,h⟩:=ax h
  refine W.ca (G1:=[(1,_),(3,_)]) (fC q q) ?_
  refine W.jZ (s:=0) (λ(iQ:Int)=>[(1,.obj (cx.cells a0)),(3,j iQ)]) 0 (λ(fp:Unit)=>[]) (λ(dj:Bool)=>[(2,a1 dj)]) ao (λiQ o h=>?_) (λfp J=>?_) (λdj J=>?_)
  ·clear ao
   refine W.aX<|W.aT [1,3,59] ?_
   refine W.bu h q (λi_ h=>?_) (λi_ h=>?_)
   ·refine W.bF<|ah.aU ?_
    refine W.aX<|W.bf ?_
    refine W.aX ?_
    obtain ⟨fx,nG,h⟩:=ax h
    obtain ⟨e2,nf,h⟩:=ax h
    refine W.rd [[],[0],[],[0,1,2],[0,1,2,3],[],[5],[5,6],[],[8],[8,9],aN 0 11 [],aN 0 12 []] [(1,_),(3,_),(74,_)] ei (by kernel_rfl) (av 0 (O.a_ q (.obj q) oC q)<|av 1 (O.cU (y:=ag dc a0.eV) q (.ptr q) p1 q q)<|av 2 (O.aC (.lit q))<|av 3 (O.cC (.aF q) (.lit q) pG nG)<|av 4 (O.iq (cs':=[ae fx.Name,a1 fx.Lit,j fx.cJ,j fx.At]) (.bo q) kD q q)<|av 5 (O.a_ q (.obj q) oB q)<|av 6 (O.cq q (.ptr q) ct q)<|av 7 (O.eql (.lit q) (.k q))<|av 8 (O.a_ q (.obj q) oB q)<|av 9 (O.cq q (.ptr q) ct q)<|av 10 (O.lss (.lit q) (.k q))<|gR 11 (cr.go (.bT (.b2 q q) (.bT (.lit q) (.bT (.lit q) .nil))) (EG fx (decide (a0.Kind=1)) (decide (a0.Kind<5)) _ nf) call116 q)<|av 12 (O.not (.lit q))<|bC.fin q q q (dt q q q)) ?_
    refine ah.aU<|W.bu h q (λvi h=>?_) (λvi h=>?_)
    ·refine W.aT [2] ?_
     refine W.rt ?_
     refine ah.d_ ?_
     refine ah.c5 ?_
     obtain rfl:=au h
     exact ah.gx (.n q .nil)
    ·refine W.bF<|ah.bf ?_
     refine ah.aU<|W.bk [1,3] (bp q<|ai (O.add (.lit q) (.k q))<|aq.bk [1,61] q<|aq.aV) ?_
     obtain rfl:=au h
     exact ah.go (fC q q)
   ·refine W.c9 ?_
    refine ah.c7 ?_
    obtain rfl:=au h
    exact ah.x2 .nil
  ·subst J
   refine ah.c' ?_
   refine ah.aU<|W.aT [2] ?_
   refine W.rt ?_
   obtain rfl:=au h
   exact cw (.f q q .nil)
  ·subst J
   refine ah.d_ ?_
   refine ah.c5 ?_
   obtain rfl:=au h
   exact cw (.f q q .nil)
theorem EH (a0:Sym) (r:Bool) (h:v8 a0=some r):b_ Try.prog 118 [.agg (dc.cells a0)] [none] (a1 r):=by
 unfold v8 at h
 refine b_.go (N:=⟨16,[]⟩) Try.func118 q q q q (W.fin ?_)
 refine W.st [(0,.agg (dc.cells a0))] ?_
 refine W.bV [1] (ai (O.box (.b2 q q) q)<|aq.aV) ?_
 obtain ⟨kn,aa,h⟩:=ax h
 refine W.rs [(2,a1 kn)] ?_ ?_
 ·refine ai (O.a_ q (.obj q) kq q)<|ai (O.cq q (.ptr q) eI q)<|ai (O.oA (.lit q) (.k q))<|ai (O.aC (.lit q)) ?_
  rcases cB aa with ⟨db,aa⟩ | ⟨db,aa⟩
  ·refine aW db (O.a_ q (.obj q) tC q)<|aW db (O.cq q (.ptr q) mW q)<|aW db (O.not (.lit q))<|ai (O.eB (.lit q) db (.lit q))<|ai (O.aC (.lit q)) ?_
   rcases cB aa with ⟨cP,aa⟩ | ⟨cP,aa⟩
   ·obtain rfl:=au aa
    exact aq.aV
   ·obtain rfl:=au aa
    exact aq.aV
  ·obtain rfl:=au aa
   exact aq.aV
 refine W.rt ?_
 obtain rfl:=au h
 exact cw (.f q q .nil)
theorem EI (a0:ByteArray) (aw:Int) (a2:ByteArray) (r:Bool) (h:v_ a0 aw a2=some r):b_ Try.prog 124 [ae a0,j aw,ae a2] [none,none,none] (a1 r):=by
 unfold v_ at h
 refine b_.go (N:=⟨25,[]⟩) Try.func124 q q q q (W.fin ?_)
 refine W.st [(0,ae a0),(1,j aw),(2,ae a2)] ?_
 refine W.aT [0,1,2] ?_
 obtain ⟨kn,aa,h⟩:=ax h
 refine W.rs [(6,a1 kn)] ?_ ?_
 ·refine bp q<|ai (O.mI (.lit q) j4)<|bp q<|ai (O.sub (.lit q) (.lit q))<|bp q<|ai (O.mI (.lit q) j4)<|ai (O.geq (.lit q) (.lit q))<|ai (O.aC (.lit q)) ?_
  rcases cB aa with ⟨db,aa⟩ | ⟨db,aa⟩
  ·refine aW db (O.aC (.lit q))<|aW db (O.aC (.lit q))<|aW db (O.aC (.lit q))<|aW db (O.aC (.lit q))<|aW db (O.mI (.lit q) j4)<|aW db (O.add (.lit q) (.lit q)) ?_
   obtain ⟨x2,ho,aa⟩:=ax aa
   obtain rfl:=au aa
   exact aW db (O.yu (.lit q) (.lit q) (.lit q) j4 ho)<|aq.aV
  ·obtain rfl:=au aa
   exact aq.aV
 refine W.rt ?_
 obtain rfl:=au h
 exact cw (.f q q .nil)
theorem OX (a0:ByteArray) (aw:Int) (r:Int) (h:AV a0 aw=some r):b_ Try.prog 123 [ae a0,j aw] [none,none] (j r):=by
 unfold AV at h
 refine b_.go (N:=⟨114,[]⟩) Try.func123 q q q q (W.fin ?_)
 refine W.st [(0,ae a0),(1,j aw)] ?_
 refine W.aT [0,1] ?_
 refine W.aX<|W.bf ?_
 obtain ⟨c4,aa,h⟩:=ax h
 refine W.rs [(0,ae a0),(1,j aw),(9,a1 c4)] ?_ ?_
 ·refine bp q<|ai (O.aC (.lit q)) ?_
  obtain ⟨aD,fF,aa⟩:=ax aa
  refine ai (O.qD (.lit q) (.lit q) j4 fF)<|ai (O.eql (.lit q) (.k q))<|ai (O.aC (.lit q)) ?_
  rcases cB aa with ⟨cP,aa⟩ | ⟨cP,aa⟩
  ·obtain rfl:=au aa
   exact aq.aV
  ·refine aW cP (O.aC (.lit q))<|aW cP (O.aC (.lit q)) ?_
   obtain ⟨a8,hJ,aa⟩:=ax aa
   obtain rfl:=au aa
   exact aq.aV
 refine W.bu h q (λdH h=>?_) (λdH h=>?_)
 ·refine W.aX<|W.aT [0,1,5] ?_
  refine W.bf ?_
  obtain ⟨bz,ao,h⟩:=ax h
  refine W.ca (G1:=[(0,_),(1,_),(5,_)]) (dt q q q) ?_
  refine W.jZ (s:=aO (aw+1)) (λ(cM:Int)=>[(0,ae a0),(1,j aw),(5,j cM)]) 1 (λ(b1:Unit)=>[]) (λ(cv:Int)=>[(4,j cv)]) ao (λcM o h=>?_) (λb1 J=>?_) (λcv J=>?_)
  ·clear ao
   refine W.aX ?_
   obtain ⟨qF,aa,h⟩:=ax h
   refine W.rs [(0,ae a0),(1,j aw),(5,j cM),(31,a1 qF)] ?_ ?_
   ·refine bp q<|bp q<|ai (O.mI (.lit q) j4)<|ai (O.lss (.lit q) (.lit q))<|ai (O.aC (.lit q)) ?_
    rcases cB aa with ⟨eJ,aa⟩ | ⟨eJ,aa⟩
    ·refine aW eJ (O.aC (.lit q))<|aW eJ (O.aC (.lit q)) ?_
     obtain ⟨bD,gQ,aa⟩:=ax aa
     obtain rfl:=au aa
     exact aq.aV
    ·obtain rfl:=au aa
     exact aq.aV
   refine W.bu h q (λhn h=>?_) (λhn h=>?_)
   ·refine W.bF<|ah.aU ?_
    refine W.aX<|W.bf ?_
    refine W.aX<|W.aX ?_
    obtain ⟨dU,jP,h⟩:=ax h
    obtain ⟨cH,hI,h⟩:=ax h
    refine W.rd [[],[],[0,1],[],[],[3,4],aN 0 6 []] [(0,_),(1,_),(5,_),(40,_)] ei (by kernel_rfl) (av 0 (O.aC (.lit q))<|av 1 (O.aC (.lit q))<|av 2 (O.qD (.lit q) (.lit q) j4 jP)<|av 3 (O.aC (.lit q))<|av 4 (O.aC (.lit q))<|av 5 (O.qD (.lit q) (.lit q) j4 hI)<|av 6 (O.eql (.lit q) (.lit q))<|bC.fin q q q (dM q q q q)) ?_
    refine ah.aU<|W.bu h q (λgf h=>?_) (λgf h=>?_)
    ·refine W.aT [4] ?_
     refine W.rt ?_
     refine ah.c5 ?_
     refine ah.d_ ?_
     refine ah.c5 ?_
     obtain rfl:=au h
     exact ah.gx (.n q .nil)
    ·refine W.bF<|ah.aU ?_
     obtain ⟨bZ,gS,h⟩:=ax h
     refine W.aT [0,1,5,46] ?_
     refine W.bu h q (λht h=>?_) (λht h=>?_)
     ·refine W.bV [0,1,5] (bp q<|ai (O.add (.lit q) (.k q))<|aq.bk [0,1,48] q<|aq.aV) ?_
      obtain ⟨sn,aa,h⟩:=ax h
      refine W.rs [(0,ae a0),(1,j aw),(5,j (aO (cM+1))),(58,a1 sn)] ?_ ?_
      ·refine bp q<|bp q<|ai (O.mI (.lit q) j4)<|ai (O.lss (.lit q) (.lit q))<|ai (O.aC (.lit q)) ?_
       rcases cB aa with ⟨kJ,aa⟩ | ⟨kJ,aa⟩
       ·refine aW kJ (O.aC (.lit q))<|aW kJ (O.aC (.lit q)) ?_
        obtain ⟨dj,n2,aa⟩:=ax aa
        obtain rfl:=au aa
        exact aq.aV
       ·obtain rfl:=au aa
        exact aq.aV
      refine W.bu h q (λm_ h=>?_) (λm_ h=>?_)
      ·refine W.aT [4] ?_
       refine W.rt ?_
       refine ah.d_ ?_
       refine ah.c5 ?_
       obtain rfl:=au h
       exact ah.gx (.n q .nil)
      ·refine W.bF<|ah.bf ?_
       refine ah.aU<|W.bk [0,1,5] (bp q<|ai (O.add (.lit q) (.k q))<|aq.bk [0,1,33] q<|aq.aV) ?_
       obtain rfl:=au h
       exact ah.go (dt q q q)
     ·refine W.bF<|ah.bf ?_
      refine ah.aU<|W.bk [0,1,5] (bp q<|ai (O.add (.lit q) (.k q))<|aq.bk [0,1,33] q<|aq.aV) ?_
      obtain rfl:=au h
      exact ah.go (dt q q q)
   ·refine W.c9 ?_
    refine ah.c7 ?_
    obtain rfl:=au h
    exact ah.x2 .nil
  ·subst J
   refine ah.c' ?_
   refine ah.aU<|W.aT [4] ?_
   refine W.rt ?_
   refine ah.d_ ?_
   refine ah.c5 ?_
   obtain rfl:=au h
   exact cw (.f q q .nil)
  ·subst J
   refine ah.d_ ?_
   refine ah.c5 ?_
   refine ah.d_ ?_
   refine ah.c5 ?_
   obtain rfl:=au h
   exact cw (.f q q .nil)
 ·obtain ⟨e2,nf,h⟩:=ax h
  refine W.aT [0,1,59] ?_
  refine W.bu h q (λvi h=>?_) (λvi h=>?_)
  ·refine W.aX<|W.aT [0,6] ?_
   refine W.bf ?_
   obtain ⟨gh,ao,h⟩:=ax h
   refine W.ca (G1:=[(0,_),(6,_)]) (fC q q) ?_
   refine W.jZ (s:=aO (aw+1)) (λ(f_:Int)=>[(0,ae a0),(6,j f_)]) 3 (λ(fE:Unit)=>[]) (λ(c8:Int)=>[(4,j c8)]) ao (λf_ o h=>?_) (λfE J=>?_) (λc8 J=>?_)
   ·clear ao
    refine W.aX<|W.aT [0,6,69] ?_
    refine W.bu h q (λtO h=>?_) (λtO h=>?_)
    ·refine W.bF<|ah.aU ?_
     refine W.aX<|W.bf ?_
     obtain ⟨iK,po,h⟩:=ax h
     refine W.aT [0,6,75] ?_
     refine W.bu h q (λvl h=>?_) (λvl h=>?_)
     ·refine W.aT [4] ?_
      refine W.rt ?_
      refine ah.d_ ?_
      refine ah.c5 ?_
      obtain rfl:=au h
      exact ah.gx (.n q .nil)
     ·refine W.bF<|ah.bf ?_
      refine ah.aU<|W.bk [0,6] (bp q<|ai (O.add (.lit q) (.k q))<|aq.bk [0,71] q<|aq.aV) ?_
      obtain rfl:=au h
      exact ah.go (fC q q)
    ·refine W.c9 ?_
     refine ah.c7 ?_
     obtain rfl:=au h
     exact ah.x2 .nil
   ·subst J
    refine ah.c' ?_
    refine ah.aU<|W.aT [4] ?_
    refine W.rt ?_
    refine ah.d_ ?_
    refine ah.c5 ?_
    obtain rfl:=au h
    exact cw (.f q q .nil)
   ·subst J
    refine ah.d_ ?_
    refine ah.c5 ?_
    refine ah.d_ ?_
    refine ah.c5 ?_
    obtain rfl:=au h
    exact cw (.f q q .nil)
  ·obtain ⟨cZ,n3,h⟩:=ax h
   refine W.bV [0,1,78] (bp q<|bp q<|eE (cr.go (.bT (.lit q) (.bT (.lit q) (.bT (.k q) .nil))) (EI a0 aw ({ data:=#[47,47] }) _ n3) call124 q)<|aq.aV) ?_
   refine W.bu h q (λkK h=>?_) (λkK h=>?_)
   ·refine W.aT [0,7] ?_
    refine W.aX<|W.bf ?_
    obtain ⟨fT,ao,h⟩:=ax h
    refine W.ca (G1:=[(0,_),(7,_)]) (fC q q) ?_
    refine W.eg (s:=aw) (λ(hr:Int)=>[(0,ae a0),(7,j hr)]) 5 (λ(fT:Int)=>[(7,j fT)]) ao (λhr o h=>?_) ?_
    ·clear ao
     refine W.aX ?_
     obtain ⟨u1,aa,h⟩:=ax h
     refine W.rs [(0,ae a0),(7,j hr),(92,a1 u1)] ?_ ?_
     ·refine bp q<|bp q<|ai (O.mI (.lit q) j4)<|ai (O.lss (.lit q) (.lit q))<|ai (O.aC (.lit q)) ?_
      rcases cB aa with ⟨rQ,aa⟩ | ⟨rQ,aa⟩
      ·refine aW rQ (O.aC (.lit q))<|aW rQ (O.aC (.lit q)) ?_
       obtain ⟨dm,xO,aa⟩:=ax aa
       obtain rfl:=au aa
       exact aq.aV
      ·obtain rfl:=au aa
       exact aq.aV
     refine W.bu h q (λFA h=>?_) (λFA h=>?_)
     ·refine W.bF<|ah.aU ?_
      refine W.bf<|W.bk [0,7] (bp q<|ai (O.add (.lit q) (.k q))<|aq.bk [0,94] q<|aq.aV) ?_
      refine ah.bf ?_
      obtain rfl:=au h
      exact ah.go (fC q q)
     ·refine W.c9 ?_
      refine ah.c7 ?_
      obtain rfl:=au h
      exact ah.aD (.n q .nil)
    refine ah.c' ?_
    refine ah.aU<|W.aT [4] ?_
    refine W.rt ?_
    refine ah.d_ ?_
    refine ah.c5 ?_
    obtain rfl:=au h
    exact cw (.f q q .nil)
   ·obtain ⟨yB,Gv,h⟩:=ax h
    refine W.bV [0,1,96] (bp q<|bp q<|eE (cr.go (.bT (.lit q) (.bT (.lit q) (.bT (.k q) .nil))) (EI a0 aw ({ data:=#[47,42] }) _ Gv) call124 q)<|aq.aV) ?_
    refine W.bu h q (λRi h=>?_) (λRi h=>?_)
    ·refine W.aX<|W.aT [0,8] ?_
     refine W.bf ?_
     obtain ⟨tf,ao,h⟩:=ax h
     refine W.ca (G1:=[(0,_),(8,_)]) (fC q q) ?_
     refine W.jZ (s:=aO (aw+2)) (λ(uB:Int)=>[(0,ae a0),(8,j uB)]) 7 (λ(ku:Unit)=>[]) (λ(oX:Int)=>[(4,j oX)]) ao (λuB o h=>?_) (λku J=>?_) (λoX J=>?_)
     ·clear ao
      refine W.aX<|W.aT [0,8,105] ?_
      refine W.bu h q (λRl h=>?_) (λRl h=>?_)
      ·refine W.bF<|ah.aU ?_
       refine W.aX<|W.bf ?_
       obtain ⟨BJ,Lu,h⟩:=ax h
       refine W.bV [0,8,110] (bp q<|bp q<|eE (cr.go (.bT (.lit q) (.bT (.lit q) (.bT (.k q) .nil))) (EI a0 uB ({ data:=#[42,47] }) _ Lu) call124 q)<|bK q) ?_
       refine W.bu h q (λFB h=>?_) (λFB h=>?_)
       ·refine W.aT [4] ?_
        refine W.rt ?_
        refine ah.d_ ?_
        refine ah.c5 ?_
        obtain rfl:=au h
        exact ah.gx (.n q .nil)
       ·refine W.bF<|ah.bf ?_
        refine ah.aU<|W.bk [0,8] (bp q<|ai (O.add (.lit q) (.k q))<|aq.bk [0,107] q<|aq.aV) ?_
        obtain rfl:=au h
        exact ah.go (fC q q)
      ·refine W.c9 ?_
       refine ah.c7 ?_
       obtain rfl:=au h
       exact ah.x2 .nil
     ·subst J
      refine ah.c' ?_
      refine ah.aU<|W.aT [4] ?_
      refine W.rt ?_
      refine ah.d_ ?_
      refine ah.c5 ?_
      obtain rfl:=au h
      exact cw (.f q q .nil)
     ·subst J
      refine ah.d_ ?_
      refine ah.c5 ?_
      refine ah.d_ ?_
      refine ah.c5 ?_
      obtain rfl:=au h
      exact cw (.f q q .nil)
    ·refine W.bF<|ah.bf ?_
     refine ah.aU<|W.aT [4] ?_
     refine W.rt ?_
     obtain rfl:=au h
     exact cw (.f q q .nil)
theorem Js (a0:ByteArray) (aw:Int) (r:Int) (h:ya a0 aw=some r):b_ Try.prog 119 [ae a0,j aw] [none,none] (j r):=by
 unfold ya at h
 refine b_.go (N:=⟨53,[]⟩) Try.func119 q q q q (W.fin ?_)
 refine W.st [(0,ae a0),(1,j aw)] ?_
 refine W.aT [0,1] ?_
 refine W.aX ?_
 obtain ⟨c4,aa,h⟩:=ax h
 refine W.rs [(0,ae a0),(1,j aw),(21,a1 c4)] ?_ ?_
 ·refine bp q<|ai (O.lss (.lit q) (.k q))<|ai (O.aC (.lit q)) ?_
  rcases cB aa with ⟨db,aa⟩ | ⟨db,aa⟩
  ·obtain rfl:=au aa
   exact aq.aV
  ·refine aW db (O.aC (.lit q))<|aW db (O.aC (.lit q))<|aW db (O.mI (.lit q) j4)<|aW db (O.geq (.lit q) (.lit q))<|ai (O.dL (.lit q) db (.lit q))<|ai (O.aC (.lit q)) ?_
   rcases cB aa with ⟨cP,aa⟩ | ⟨cP,aa⟩
   ·obtain rfl:=au aa
    exact aq.aV
   ·refine aW cP (O.aC (.lit q))<|aW cP (O.aC (.lit q)) ?_
    obtain ⟨a8,hJ,aa⟩:=ax aa
    obtain rfl:=au aa
    exact aq.aV
 refine W.bu h q (λdH h=>?_) (λdH h=>?_)
 ·refine W.aT [4] ?_
  refine W.rt ?_
  refine ah.c5 ?_
  obtain rfl:=au h
  exact cw (.f q q .nil)
 ·refine W.bF<|ah.aU ?_
  refine W.aT [0,1,5] ?_
  refine W.aX<|W.aT [0,5,6] ?_
  refine W.bf ?_
  obtain ⟨bz,ao,h⟩:=ax h
  refine W.ca (G1:=[(0,_),(5,_),(6,_)]) (dt q q q) ?_
  refine W.jZ (s:=(0,aw)) (λ(cM:Int × Int)=>[(0,ae a0),(5,j cM.1),(6,j cM.2)]) 0 (λ(b1:Unit)=>[]) (λ(cv:Int)=>[(4,j cv)]) ao (λcM o h=>?_) (λb1 J=>?_) (λcv J=>?_)
  ·clear ao
   refine W.aX<|W.aT [0,5,6,26] ?_
   refine W.bu h q (λeJ h=>?_) (λeJ h=>?_)
   ·refine W.bF<|ah.aU ?_
    refine W.bf ?_
    obtain ⟨bD,gQ,h⟩:=ax h
    refine W.bV [0,5,6,7] (bp q<|bp q<|eE (cr.go (.bT (.lit q) (.bT (.lit q) .nil)) (OX a0 cM.2 _ gQ) call123 q)<|aq.aV) ?_
    refine W.aX<|W.aT [0,5,6,7,31] ?_
    refine W.bu h q (λdz h=>?_) (λdz h=>?_)
    ·refine W.aT [4] ?_
     refine W.rt ?_
     refine ah.c5 ?_
     refine ah.d_ ?_
     obtain rfl:=au h
     exact ah.gx (.n q .nil)
    ·refine W.bF<|ah.aU ?_
     refine W.aX<|W.aT [0,5,6,7,34] ?_
     refine W.bu h q (λhn h=>?_) (λhn h=>?_)
     ·refine W.bV [0,5,6] (bp q<|aq.bk [0,5,35] q<|aq.aV) ?_
      refine W.c9 ?_
      refine ah.c7 ?_
      refine ah.c' ?_
      obtain rfl:=au h
      exact ah.go (dt q q q)
     ·refine W.bF<|ah.aU ?_
      refine W.aX ?_
      obtain ⟨dU,jP,h⟩:=ax h
      refine W.aT [0,5,6,39] ?_
      obtain ⟨nK,aa,h⟩:=ax h
      refine W.bs [(0,ae a0),(5,j nK),(6,j cM.2)] ?_ ?_
      ·clear h; have h:=aa; clear aa
       refine W.bu h q (λgf h=>?_) (λgf h=>?_)
       ·refine W.bk [0,5,6] (bp q<|ai (O.add (.lit q) (.k q))<|aq.bk [0,6,41] q<|aq.aV) ?_
        obtain rfl:=au h
        exact ah.bs (dt q q q)
       ·refine W.bF ?_
        obtain rfl:=au h
        exact ah.bs (dt q q q)
      refine ah.aU<|W.aX ?_
      obtain ⟨bZ,gS,h⟩:=ax h
      refine W.aT [0,5,6,45] ?_
      obtain ⟨Dg,aa,h⟩:=ax h
      refine W.bs [(0,ae a0),(5,j Dg),(6,j cM.2)] ?_ ?_
      ·clear h; have h:=aa; clear aa
       refine W.bu h q (λkJ h=>?_) (λkJ h=>?_)
       ·refine W.bk [0,5,6] (bp q<|ai (O.sub (.lit q) (.k q))<|aq.bk [0,6,47] q<|aq.aV) ?_
        obtain rfl:=au h
        exact ah.bs (dt q q q)
       ·refine W.bF ?_
        obtain rfl:=au h
        exact ah.bs (dt q q q)
      refine ah.aU<|W.bV [0,5,6] (bp q<|ai (O.add (.lit q) (.k q))<|aq.bk [0,5,49] q<|aq.aV) ?_
      refine W.aT [0,5,6,51] ?_
      refine W.bu h q (λka h=>?_) (λka h=>?_)
      ·refine W.aT [4] ?_
       refine W.rt ?_
       refine ah.d_ ?_
       obtain rfl:=au h
       exact ah.gx (.n q .nil)
      ·refine W.bF<|ah.bf ?_
       obtain rfl:=au h
       exact ah.go (dt q q q)
   ·refine W.c9 ?_
    refine ah.c7 ?_
    obtain rfl:=au h
    exact ah.x2 .nil
  ·subst J
   refine ah.c' ?_
   refine ah.aU<|W.aT [4] ?_
   refine W.rt ?_
   obtain rfl:=au h
   exact cw (.f q q .nil)
  ·subst J
   refine ah.d_ ?_
   refine ah.c5 ?_
   obtain rfl:=au h
   exact cw (.f q q .nil)
theorem OS (a0:Alt) (r:Bool) (h:AQ a0=some r):b_ Try.prog 112 [.agg (dN.cells a0)] [none] (a1 r):=by
 unfold AQ at h
 refine b_.go (N:=⟨54,[]⟩) Try.func112 q q q q (W.fin ?_)
 refine W.st [(0,.agg (dN.cells a0))] ?_
 refine W.bV [1] (ai (O.box (.b2 q q) q)<|aq.aV) ?_
 refine W.aX<|W.aT [1,3] ?_
 refine W.bf ?_
 obtain ⟨x2,ao,h⟩:=ax h
 refine W.ca (G1:=[(1,_),(3,_)]) (fC q q) ?_
 refine W.jZ (s:=0) (λ(s1:Int)=>[(1,.obj (dN.cells a0)),(3,j s1)]) 0 (λ(a8:Unit)=>[(1,.obj (dN.cells a0))]) (λ(b4:Bool)=>[(2,a1 b4)]) ao (λs1 o h=>?_) (λa8 J=>?_) (λb4 J=>?_)
 ·clear ao
  refine W.aX<|W.aT [1,3,9] ?_
  refine W.bu h q (λdH h=>?_) (λdH h=>?_)
  ·refine W.bF<|ah.aU ?_
   refine W.aX<|W.bf ?_
   obtain ⟨bP,ga,h⟩:=ax h
   refine W.bV [1,3,4] (ai (O.a_ q (.obj q) pd q)<|ai (O.cU (y:=ag ed a0.h9) q (.ptr q) sx q q)<|bp q<|ai (O.cC (.aF q) (.lit q) qu ga)<|ai (O.iq (cs':=[ae bP.Sym.Name,a1 bP.Sym.Lit,j bP.Sym.cJ,j bP.Sym.At,ae bP.Code,j bP.At]) (.bo q) uT q q)<|ai (O.fq (cs:=[ae aA,a1 false,j 0,j 0,ae aA,j 0]) oZ q q)<|aq.dx (G2:=[(1,_),(3,_),(4,_)]) (cs2:=[ae bP.Sym.Name,a1 bP.Sym.Lit,j bP.Sym.cJ,j bP.Sym.At,ae bP.Code,j bP.At]) q (.obj q) (.b2 q q) q yz q q q q (.n q q (.n q q (.b q .nil)))<|bK q) ?_
   refine W.aX ?_
   obtain ⟨nW,aa,h⟩:=ax h
   refine W.rd [[],[0],[0,1],[0,1,2],[0,1,2,3],aN 0 5 [],aN 0 6 [],aN 0 7 [],aN 0 8 [],aN 0 9 [],aN 0 10 [],aN 0 11 [],aN 0 12 [],aN 0 13 [],aN 0 14 [],aN 0 15 [],aN 0 16 [],aN 0 17 [],aN 0 18 [],aN 0 19 [],aN 0 20 [],aN 0 21 [],aN 0 19 [],aN 0 19 [22],aN 0 19 [22,23],aN 0 25 [],aN 0 26 [],aN 0 27 [],aN 0 28 []] [(1,.obj (dN.cells a0)),(3,j s1),(45,a1 nW)] ei (by kernel_rfl) ?_ ?_
   ·refine av 0 (O.a_ q (.obj q) qP q)<|av 1 (O.cq q (.ptr q) eI q)<|av 2 (O.oA (.lit q) (.k q))<|av 3 (O.aC (.lit q)) ?_
    rcases cB aa with ⟨dn,aa⟩ | ⟨dn,aa⟩
    ·refine b8 4 dn (O.a_ q (.obj q) xq q)<|b8 5 dn (O.dR (cs':=[ae bP.Sym.Name,a1 bP.Sym.Lit,j bP.Sym.cJ,j bP.Sym.At]) q (.ptr q) kD q q) ?_
     obtain ⟨b1,hK,aa⟩:=ax aa
     refine bC.c 6 (cr.go (.bT (.b2 q q) (.bT (.k q) (.bT (.k q) .nil))) (EG bP.Sym false true _ hK) call116 q) q q q q (.hf q q dn)<|b8 7 dn (O.not (.lit q))<|av 8 (O.eB (.lit q) dn (.lit q))<|av 9 (O.aC (.lit q)) ?_
     rcases cB aa with ⟨di,aa⟩ | ⟨di,aa⟩
     ·obtain rfl:=au aa
      exact bS 10 di<|bS 11 di<|bS 12 di<|bS 13 di<|fm 14<|fm 15<|fm 16<|fm 17<|fm 18<|fm 19<|fm 20<|fm 21<|fm 22<|fm 23<|fm 24<|fm 25<|fm 26<|bS 27 di<|av 28 (O.eB (.lit q) di (.k q))<|bC.fin q q q (dt q q q)
     ·refine b8 10 di (O.a_ q (.obj q) qP q)<|b8 11 di (O.cq q (.ptr q) eI q)<|b8 12 di (O.l' (.lit q) (.k q))<|b8 13 di (O.aC (.lit q)) ?_
      rcases cB aa with ⟨eJ,aa⟩ | ⟨eJ,aa⟩
      ·refine b8 14 eJ (O.a_ q (.obj q) xq q)<|b8 15 eJ (O.dR (cs':=[ae bP.Sym.Name,a1 bP.Sym.Lit,j bP.Sym.cJ,j bP.Sym.At]) q (.ptr q) kD q q) ?_
       obtain ⟨bD,gQ,aa⟩:=ax aa
       refine bC.c 16 (cr.go (.bT (.b2 q q) .nil) (EH bP.Sym _ gQ) call118 q) q q q q (.hf q q eJ)<|b8 17 eJ (O.not (.lit q))<|b8 18 eJ (O.aC (.lit q)) ?_
       rcases cB aa with ⟨dz,aa⟩ | ⟨dz,aa⟩
       ·obtain rfl:=au aa
        exact bS 19 dz<|bS 20 dz<|bS 21 dz<|bS 22 dz<|bS 23 dz<|bS 24 dz<|bS 25 dz<|b8 26 eJ (O.eB (.lit q) dz (.k q))<|b8 27 di (O.eB (.lit q) eJ (.lit q))<|av 28 (O.dL (.lit q) di (.lit q))<|bC.fin q q q (dt q q q)
       ·refine b8 19 dz (O.a_ q (.obj q) qP q)<|b8 20 dz (O.cq q (.ptr q) eI q) ?_
        obtain ⟨eb,jX,aa⟩:=ax aa
        obtain rfl:=au aa
        exact bC.c 21 (cr.go (.bT (.lit q) (.bT (.k q) .nil)) (Js bP.Code 0 _ jX) call119 q) q q q q (.hf q q dz)<|b8 22 dz (O.a_ q (.obj q) qP q)<|b8 23 dz (O.cq q (.ptr q) eI q)<|b8 24 dz (O.mI (.lit q) j4)<|b8 25 dz (O.neq (.lit q) (.lit q))<|b8 26 eJ (O.dL (.lit q) dz (.lit q))<|b8 27 di (O.eB (.lit q) eJ (.lit q))<|av 28 (O.dL (.lit q) di (.lit q))<|bC.fin q q q (dt q q q)
      ·obtain rfl:=au aa
       exact bS 14 eJ<|bS 15 eJ<|bS 16 eJ<|bS 17 eJ<|bS 18 eJ<|fm 19<|fm 20<|fm 21<|fm 22<|fm 23<|fm 24<|fm 25<|bS 26 eJ<|b8 27 di (O.dL (.lit q) eJ (.k q))<|av 28 (O.dL (.lit q) di (.lit q))<|bC.fin q q q (dt q q q)
    ·refine bS 4 dn<|bS 5 dn<|bS 6 dn<|bS 7 dn<|av 8 (O.dL (.lit q) dn (.k q))<|av 9 (O.aC (.lit q))<|b8 10 q (O.a_ q (.obj q) qP q)<|b8 11 q (O.cq q (.ptr q) eI q)<|b8 12 q (O.l' (.lit q) (.k q))<|b8 13 q (O.aC (.lit q)) ?_
     rcases cB aa with ⟨eD,aa⟩ | ⟨eD,aa⟩
     ·refine b8 14 eD (O.a_ q (.obj q) xq q)<|b8 15 eD (O.dR (cs':=[ae bP.Sym.Name,a1 bP.Sym.Lit,j bP.Sym.cJ,j bP.Sym.At]) q (.ptr q) kD q q) ?_
      obtain ⟨cH,hI,aa⟩:=ax aa
      refine bC.c 16 (cr.go (.bT (.b2 q q) .nil) (EH bP.Sym _ hI) call118 q) q q q q (.hf q q eD)<|b8 17 eD (O.not (.lit q))<|b8 18 eD (O.aC (.lit q)) ?_
      rcases cB aa with ⟨gf,aa⟩ | ⟨gf,aa⟩
      ·obtain rfl:=au aa
       exact bS 19 gf<|bS 20 gf<|bS 21 gf<|bS 22 gf<|bS 23 gf<|bS 24 gf<|bS 25 gf<|b8 26 eD (O.eB (.lit q) gf (.k q))<|b8 27 q (O.eB (.lit q) eD (.lit q))<|av 28 (O.dL (.lit q) q (.lit q))<|bC.fin q q q (dt q q q)
      ·refine b8 19 gf (O.a_ q (.obj q) qP q)<|b8 20 gf (O.cq q (.ptr q) eI q) ?_
       obtain ⟨bZ,gS,aa⟩:=ax aa
       obtain rfl:=au aa
       exact bC.c 21 (cr.go (.bT (.lit q) (.bT (.k q) .nil)) (Js bP.Code 0 _ gS) call119 q) q q q q (.hf q q gf)<|b8 22 gf (O.a_ q (.obj q) qP q)<|b8 23 gf (O.cq q (.ptr q) eI q)<|b8 24 gf (O.mI (.lit q) j4)<|b8 25 gf (O.neq (.lit q) (.lit q))<|b8 26 eD (O.dL (.lit q) gf (.lit q))<|b8 27 q (O.eB (.lit q) eD (.lit q))<|av 28 (O.dL (.lit q) q (.lit q))<|bC.fin q q q (dt q q q)
     ·obtain rfl:=au aa
      exact bS 14 eD<|bS 15 eD<|bS 16 eD<|bS 17 eD<|bS 18 eD<|fm 19<|fm 20<|fm 21<|fm 22<|fm 23<|fm 24<|fm 25<|bS 26 eD<|b8 27 q (O.dL (.lit q) eD (.k q))<|av 28 (O.dL (.lit q) q (.lit q))<|bC.fin q q q (dt q q q)
   refine ah.aU<|W.bu h q (λkJ h=>?_) (λkJ h=>?_)
   ·refine W.aT [2] ?_
    refine W.rt ?_
    refine ah.d_ ?_
    refine ah.c5 ?_
    obtain rfl:=au h
    exact ah.gx (.n q .nil)
   ·refine W.bF<|ah.bf ?_
    refine ah.aU<|W.bk [1,3] (bp q<|ai (O.add (.lit q) (.k q))<|aq.bk [1,11] q<|aq.aV) ?_
    obtain rfl:=au h
    exact ah.go (fC q q)
  ·refine W.c9 ?_
   refine ah.c7 ?_
   obtain rfl:=au h
   exact ah.x2 (.n q .nil)
 ·subst J
  refine ah.c' ?_
  refine ah.aU ?_
  obtain ⟨y4,aa,h⟩:=ax h
  refine W.rs [(2,a1 y4)] ?_ ?_
  ·refine ai (O.a_ q (.obj q) sE q)<|ai (O.dR (cs':=[ae a0.Prec.Name,a1 a0.Prec.Lit,j a0.Prec.cJ,j a0.Prec.At]) q (.ptr q) kD q q) ?_
   obtain ⟨dj,n2,aa⟩:=ax aa
   refine eE (cr.go (.bT (.b2 q q) .nil) (EH a0.Prec _ n2) call118 q)<|ai (O.aC (.lit q)) ?_
   rcases cB aa with ⟨i_,aa⟩ | ⟨i_,aa⟩
   ·obtain rfl:=au aa
    exact aq.aV
   ·refine aW i_ (O.a_ q (.obj q) sE q)<|aW i_ (O.dR (cs':=[ae a0.Prec.Name,a1 a0.Prec.Lit,j a0.Prec.cJ,j a0.Prec.At]) q (.ptr q) kD q q) ?_
    obtain ⟨fx,nG,aa⟩:=ax aa
    obtain rfl:=au aa
    exact aq.c (cr.go (.bT (.b2 q q) (.bT (.k q) (.bT (.k q) .nil))) (EG a0.Prec false true _ nG) call116 q) q q (.hf q q i_)<|aq.aV
  refine W.rt ?_
  obtain rfl:=au h
  exact cw (.f q q .nil)
 ·subst J
  refine ah.d_ ?_
  refine ah.c5 ?_
  obtain rfl:=au h
  exact cw (.f q q .nil)
theorem Pu (a0:Source) (r:Bool) (h:Bl a0=some r):b_ Try.prog 92 [.agg (da.cells a0)] [none] (a1 r):=by
 unfold Bl at h
 refine b_.go (N:=⟨77,[]⟩) Try.func92 q q q q (W.fin ?_)
 refine W.st [(0,.agg (da.cells a0))] ?_
 refine W.bV [1] (ai (O.box (.b2 q q) q)<|aq.aV) ?_
 refine W.aX<|W.aT [1,3] ?_
 refine W.bf ?_
 obtain ⟨x2,ao,h⟩:=ax h
 refine W.ca (G1:=[(1,_),(3,_)]) (fC q q) ?_
 refine W.jZ (s:=0) (λ(s1:Int)=>[(1,.obj (da.cells a0)),(3,j s1)]) 0 (λ(a8:Unit)=>[(1,.obj (da.cells a0))]) (λ(b4:Bool)=>[(2,a1 b4)]) ao (λs1 o h=>?_) (λa8 J=>?_) (λb4 J=>?_)
 ·clear ao
  refine W.aX<|W.aT [1,3,13] ?_
  refine W.bu h q (λdH h=>?_) (λdH h=>?_)
  ·refine W.bF<|ah.aU ?_
   refine W.aX<|W.bf ?_
   obtain ⟨bP,ga,h⟩:=ax h
   refine W.bV [1,3,22] (ai (O.a_ q (.obj q) CB q)<|ai (O.cq q (.ptr q) eI q)<|bp q<|bp q<|ai (O.add (.lit q) (.k q))<|ai (O.yu (.lit q) (.lit q) (.lit q) j4 ga)<|aq.aV) ?_
   refine W.bu h q (λdn h=>?_) (λdn h=>?_)
   ·refine W.aT [2] ?_
    refine W.rt ?_
    refine ah.d_ ?_
    refine ah.c5 ?_
    obtain rfl:=au h
    exact ah.gx (.n q .nil)
   ·refine W.bF<|ah.bf ?_
    refine ah.aU<|W.bk [1,3] (bp q<|ai (O.add (.lit q) (.k q))<|aq.bk [1,15] q<|aq.aV) ?_
    obtain rfl:=au h
    exact ah.go (fC q q)
  ·refine W.c9 ?_
   refine ah.c7 ?_
   obtain rfl:=au h
   exact ah.x2 (.n q .nil)
 ·subst J
  refine ah.c' ?_
  refine ah.aU<|W.aX ?_
  refine W.aT [1,4] ?_
  refine W.bf ?_
  obtain ⟨cv,ao,h⟩:=ax h
  refine W.ca (G1:=[(1,_),(4,_)]) (fC q q) ?_
  refine W.jZ (s:=0) (λ(dT:Int)=>[(1,.obj (da.cells a0)),(4,j dT)]) 2 (λ(bM:Unit)=>[(1,.obj (da.cells a0))]) (λ(bD:Bool)=>[(2,a1 bD)]) ao (λdT o h=>?_) (λbM J=>?_) (λbD J=>?_)
  ·clear ao
   refine W.aX<|W.aT [1,4,27] ?_
   refine W.bu h q (λdz h=>?_) (λdz h=>?_)
   ·refine W.bF<|ah.aU ?_
    refine W.aX<|W.bf ?_
    obtain ⟨eb,jX,h⟩:=ax h
    obtain ⟨dU,jP,h⟩:=ax h
    refine W.bV [1,4,36] (ai (O.a_ q (.obj q) pc q)<|ai (O.cU (y:=ag cx a0.Decls) q (.ptr q) pX q q)<|bp q<|ai (O.cC (.aF q) (.lit q) oe jX)<|ai (O.iq (cs':=[j eb.Kind,ae eb.Tag,ag dc eb.eV,j eb.At]) (.bo q) B_ q q)<|eE (cr.go (.bT (.b2 q q) .nil) (OR eb _ jP) call110 q)<|aq.aV) ?_
    refine W.bu h q (λpg h=>?_) (λpg h=>?_)
    ·refine W.aT [2] ?_
     refine W.rt ?_
     refine ah.d_ ?_
     refine ah.c5 ?_
     obtain rfl:=au h
     exact ah.gx (.n q .nil)
    ·refine W.bF<|ah.bf ?_
     refine ah.aU<|W.bk [1,4] (bp q<|ai (O.add (.lit q) (.k q))<|aq.bk [1,29] q<|aq.aV) ?_
     obtain rfl:=au h
     exact ah.go (fC q q)
   ·refine W.c9 ?_
    refine ah.c7 ?_
    obtain rfl:=au h
    exact ah.x2 (.n q .nil)
  ·subst J
   refine ah.c' ?_
   refine ah.aU<|W.aX ?_
   refine W.aT [1,5] ?_
   refine W.bf ?_
   obtain ⟨bZ,ao,h⟩:=ax h
   refine W.ca (G1:=[(1,_),(5,_)]) (fC q q) ?_
   refine W.jZ (s:=0) (λ(hq:Int)=>[(1,.obj (da.cells a0)),(5,j hq)]) 4 (λ(dS:Unit)=>[(1,.obj (da.cells a0))]) (λ(fp:Bool)=>[(2,a1 fp)]) ao (λhq o h=>?_) (λdS J=>?_) (λfp J=>?_)
   ·clear ao
    refine W.aX<|W.aT [1,5,41] ?_
    refine W.bu h q (λka h=>?_) (λka h=>?_)
    ·refine W.bF<|ah.aU ?_
     refine W.aX<|W.bf ?_
     obtain ⟨dk,nF,h⟩:=ax h
     refine W.bV [1,5,6] (ai (O.a_ q (.obj q) kH q)<|ai (O.cU (y:=ag eM a0.dD) q (.ptr q) lr q q)<|bp q<|ai (O.cC (.aF q) (.lit q) lh nF)<|ai (O.iq (cs':=[ae dk.Left,ag dN dk.eT,j dk.At]) (.bo q) Ep q q)<|ai (O.fq (cs:=[ae aA,.aI,j 0]) yF q q)<|aq.dx (G2:=[(1,_),(5,_),(6,_)]) (cs2:=[ae dk.Left,ag dN dk.eT,j dk.At]) q (.obj q) (.b2 q q) q H2 q q q q (.n q q (.n q q (.b q .nil)))<|bK q) ?_
     refine W.aX ?_
     obtain ⟨so,aa,h⟩:=ax h
     refine W.rs [(1,.obj (da.cells a0)),(5,j hq),(6,.obj (eM.cells dk)),(58,a1 so)] ?_ ?_
     ·refine ai (O.a_ q (.obj q) sF q)<|ai (O.cq q (.ptr q) eI q) ?_
      obtain ⟨fx,nG,aa⟩:=ax aa
      refine eE (cr.go (.bT (.lit q) .nil) (Cm dk.Left _ nG) call111 q)<|ai (O.not (.lit q))<|ai (O.aC (.lit q)) ?_
      rcases cB aa with ⟨gn,aa⟩ | ⟨gn,aa⟩
      ·obtain rfl:=au aa
       exact aq.aV
      ·obtain rfl:=au aa
       exact aq.aV
     refine W.bu h q (λvj h=>?_) (λvj h=>?_)
     ·refine W.aT [2] ?_
      refine W.rt ?_
      refine ah.c5 ?_
      refine ah.d_ ?_
      refine ah.c5 ?_
      obtain rfl:=au h
      exact ah.gx (.n q .nil)
     ·refine W.bF<|ah.aU ?_
      refine W.aT [1,5,6,7] ?_
      refine W.bf ?_
      obtain ⟨fE,ao,h⟩:=ax h
      refine W.ca (G1:=[(1,_),(5,_),(6,_),(7,_)]) (dM q q q q) ?_
      refine W.jZ (s:=0) (λ(yt:Int)=>[(1,.obj (da.cells a0)),(5,j hq),(6,.obj (eM.cells dk)),(7,j yt)]) 6 (λ(c8:Unit)=>[(1,.obj (da.cells a0)),(5,j hq)]) (λ(e3:Bool)=>[(2,a1 e3)]) ao (λyt o h=>?_) (λc8 J=>?_) (λe3 J=>?_)
      ·clear ao
       refine W.aX<|W.aT [1,5,6,7,63] ?_
       refine W.bu h q (λvk h=>?_) (λvk h=>?_)
       ·refine W.bF<|ah.aU ?_
        refine W.aX<|W.bf ?_
        obtain ⟨hs,l8,h⟩:=ax h
        obtain ⟨cZ,n3,h⟩:=ax h
        refine W.bV [1,5,6,7,72] (ai (O.a_ q (.obj q) nY q)<|ai (O.cU (y:=ag dN dk.eT) q (.ptr q) p0 q q)<|bp q<|ai (O.cC (.aF q) (.lit q) pF l8)<|ai (O.iq (cs':=[ag ed hs.h9,ae hs.Prec.Name,a1 hs.Prec.Lit,j hs.Prec.cJ,j hs.Prec.At,j hs.At]) (.bo q) Cb q q)<|eE (cr.go (.bT (.b2 q q) .nil) (OS hs _ n3) call112 q)<|aq.aV) ?_
        refine W.bu h q (λkK h=>?_) (λkK h=>?_)
        ·refine W.aT [2] ?_
         refine W.rt ?_
         refine ah.d_ ?_
         refine ah.c5 ?_
         obtain rfl:=au h
         exact ah.gx (.n q .nil)
        ·refine W.bF<|ah.bf ?_
         refine ah.aU<|W.bk [1,5,6,7] (bp q<|ai (O.add (.lit q) (.k q))<|aq.bk [1,5,6,65] q<|aq.aV) ?_
         obtain rfl:=au h
         exact ah.go (dM q q q q)
       ·refine W.c9 ?_
        refine ah.c7 ?_
        obtain rfl:=au h
        exact ah.x2 (fC q q)
      ·subst J
       refine ah.c' ?_
       refine ah.bf ?_
       refine ah.aU<|W.bk [1,5] (bp q<|ai (O.add (.lit q) (.k q))<|aq.bk [1,43] q<|aq.aV) ?_
       obtain rfl:=au h
       exact ah.go (fC q q)
      ·subst J
       refine ah.d_ ?_
       refine ah.d_ ?_
       refine ah.c5 ?_
       obtain rfl:=au h
       exact ah.gx (.n q .nil)
    ·refine W.c9 ?_
     refine ah.c7 ?_
     obtain rfl:=au h
     exact ah.x2 (.n q .nil)
   ·subst J
    refine ah.c' ?_
    refine ah.aU<|W.aT [2] ?_
    refine W.rt ?_
    obtain rfl:=au h
    exact cw (.f q q .nil)
   ·subst J
    refine ah.d_ ?_
    refine ah.c5 ?_
    obtain rfl:=au h
    exact cw (.f q q .nil)
  ·subst J
   refine ah.d_ ?_
   refine ah.c5 ?_
   obtain rfl:=au h
   exact cw (.f q q .nil)
 ·subst J
  refine ah.d_ ?_
  refine ah.c5 ?_
  obtain rfl:=au h
  exact cw (.f q q .nil)
theorem u4 (a0:cT) (aw:Int) (a2:ByteArray) (r:cT) (h:nN a0 aw a2=some r):b_ Try.prog 94 [.obj (ej.cells a0),j aw,ae a2] [some (.obj [ak bq r.ar.ba,ak a7 r.ar.bw,ak bE r.ar.bc,ae r.ar.bx,ae r.ar.bA,ak bH r.b0,ak a7 r.bX,ak cy r.bG,j r.cf,j r.cg,ae r.cd,j r.bW,j r.bB]),none,none] (.cG []):=by
 unfold nN at h
 refine b_.go (N:=⟨22,[0]⟩) Try.func94 q q q q (W.fin ?_)
 refine W.st [(0,.obj (ej.cells a0)),(1,j aw),(2,ae a2)] ?_
 refine W.aT [0,1,2,10] ?_
 obtain ⟨jk,aa,h⟩:=ax h
 refine W.bs [(0,.obj (ej.cells jk))] ?_ ?_
 ·clear h; have h:=aa; clear aa
  refine W.bu h q (λcP h=>?_) (λcP h=>?_)
  ·refine W.bk [0] (ai (O.aC (.obj q))<|ai (O.aC (.obj q))<|ai (O.aC (.obj q))<|bp q<|bp q<|ai (O.e5 (.ptr q))<|ai (O.a_ q (.ptr q) zn q)<|aq.dx (G2:=[(0,_),(12,.ptr ⟨0,[]⟩ 0),(13,.ptr ⟨0,[]⟩ 0),(14,_),(15,_)]) (cs2:=[ak bq a0.ar.ba,ak a7 a0.ar.bw,ak bE a0.ar.bc,ae a0.ar.bx,ae a0.ar.bA,ak bH a0.b0,ak a7 a0.bX,ak cy a0.bG,j 3,j a0.cg,ae a0.cd,j a0.bW,j a0.bB]) q (.ptr q) (.k q) q nP q q q q (.b q (.p q q q q q q (.p q q q q q q (.n q q (.n q q .nil)))))<|ai (O.e5 (.ptr q))<|ai (O.a_ q (.ptr q) zo q)<|aq.dx (G2:=[(0,_),(13,.ptr ⟨0,[]⟩ 0),(15,_)]) (cs2:=[ak bq a0.ar.ba,ak a7 a0.ar.bw,ak bE a0.ar.bc,ae a0.ar.bx,ae a0.ar.bA,ak bH a0.b0,ak a7 a0.bX,ak cy a0.bG,j 3,j aw,ae a0.cd,j a0.bW,j a0.bB]) q (.ptr q) (.lit q) q nP q q q q (.b q (.p q q q q q q (.n q q .nil)))<|ai (O.e5 (.ptr q))<|ai (O.a_ q (.ptr q) zp q)<|aq.dx (G2:=[(0,_)]) (cs2:=[ak bq a0.ar.ba,ak a7 a0.ar.bw,ak bE a0.ar.bc,ae a0.ar.bx,ae a0.ar.bA,ak bH a0.b0,ak a7 a0.bX,ak cy a0.bG,j 3,j aw,ae a2,j a0.bW,j a0.bB]) q (.ptr q) (.lit q) q wA q q q q (.b q .nil)<|bK q) ?_
   obtain rfl:=au h
   exact ah.bs (.n q .nil)
  ·refine W.bF ?_
   obtain rfl:=au h
   exact ah.bs (.n q .nil)
 obtain rfl:=au h
 exact ah.fin (Fin.ro .nil q (pz (by kernel_rfl)) (.aB q q (.no (.no .nil))) q (.inl q))
theorem JE (a0:cT) (aw:ByteArray) (r:Int) (h:yl a0 aw=some r):b_ Try.prog 98 [.bo ([ag bq a0.ar.ba,ag a7 a0.ar.bw,ag bE a0.ar.bc,ae a0.ar.bx,ae a0.ar.bA,ag bH a0.b0,ag a7 a0.bX,ag cy a0.bG,j a0.cf,j a0.cg,ae a0.cd,j a0.bW,j a0.bB]),ae aw] [none,none] (j r):=by
 unfold yl at h
 refine b_.go (N:=⟨26,[]⟩) Try.func98 q q q q (W.fin ?_)
 refine W.st [(0,.bo ([ag bq a0.ar.ba,ag a7 a0.ar.bw,ag bE a0.ar.bc,ae a0.ar.bx,ae a0.ar.bA,ag bH a0.b0,ag a7 a0.bX,ag cy a0.bG,j a0.cf,j a0.cg,ae a0.cd,j a0.bW,j a0.bB])),(1,ae aw)] ?_
 refine W.aT [0,1] ?_
 refine W.aX<|W.aT [0,1,5] ?_
 refine W.bf ?_
 obtain ⟨x2,ao,h⟩:=ax h
 refine W.ca (G1:=[(0,_),(1,_),(5,_)]) (dt q q q) ?_
 refine W.jZ (s:=0) (λ(s1:Int)=>[(0,.bo ([ag bq a0.ar.ba,ag a7 a0.ar.bw,ag bE a0.ar.bc,ae a0.ar.bx,ae a0.ar.bA,ag bH a0.b0,ag a7 a0.bX,ag cy a0.bG,j a0.cf,j a0.cg,ae a0.cd,j a0.bW,j a0.bB])),(1,ae aw),(5,j s1)]) 0 (λ(a8:Unit)=>[]) (λ(b4:Int)=>[(4,j b4)]) ao (λs1 o h=>?_) (λa8 J=>?_) (λb4 J=>?_)
 ·clear ao
  refine W.aX<|W.aT [0,1,5,12] ?_
  refine W.bu h q (λdH h=>?_) (λdH h=>?_)
  ·refine W.bF<|ah.aU ?_
   refine W.aX<|W.bf ?_
   obtain ⟨bP,ga,h⟩:=ax h
   refine W.aT [0,1,5,24] ?_
   refine W.bu h q (λdn h=>?_) (λdn h=>?_)
   ·refine W.aT [4] ?_
    refine W.rt ?_
    refine ah.d_ ?_
    refine ah.c5 ?_
    obtain rfl:=au h
    exact ah.gx (.n q .nil)
   ·refine W.bF<|ah.bf ?_
    refine ah.aU<|W.bk [0,1,5] (bp q<|ai (O.add (.lit q) (.k q))<|aq.bk [0,1,14] q<|aq.aV) ?_
    obtain rfl:=au h
    exact ah.go (dt q q q)
  ·refine W.c9 ?_
   refine ah.c7 ?_
   obtain rfl:=au h
   exact ah.x2 .nil
 ·subst J
  refine ah.c' ?_
  refine ah.aU<|W.aT [4] ?_
  refine W.rt ?_
  obtain rfl:=au h
  exact cw (.f q q .nil)
 ·subst J
  refine ah.d_ ?_
  refine ah.c5 ?_
  obtain rfl:=au h
  exact cw (.f q q .nil)
theorem EM (a0:cT) (aw:Sym) (r:Int) (h:wh a0 aw=some r):b_ Try.prog 95 [.bo ([ag bq a0.ar.ba,ag a7 a0.ar.bw,ag bE a0.ar.bc,ae a0.ar.bx,ae a0.ar.bA,ag bH a0.b0,ag a7 a0.bX,ag cy a0.bG,j a0.cf,j a0.cg,ae a0.cd,j a0.bW,j a0.bB]),.agg (dc.cells aw)] [none,none] (j r):=by
 unfold wh at h
 refine b_.go (N:=⟨47,[]⟩) Try.func95 q q q q (W.fin ?_)
 refine W.st [(0,.bo ([ag bq a0.ar.ba,ag a7 a0.ar.bw,ag bE a0.ar.bc,ae a0.ar.bx,ae a0.ar.bA,ag bH a0.b0,ag a7 a0.bX,ag cy a0.bG,j a0.cf,j a0.cg,ae a0.cd,j a0.bW,j a0.bB])),(1,.agg (dc.cells aw))] ?_
 refine W.bV [0,3] (ai (O.box (.b2 q q) q)<|aq.aV) ?_
 refine W.aX<|W.aT [0,3,5] ?_
 refine W.bf ?_
 obtain ⟨x2,ao,h⟩:=ax h
 refine W.ca (G1:=[(0,_),(3,_),(5,_)]) (dt q q q) ?_
 refine W.jZ (s:=1) (λ(s1:Int)=>[(0,.bo ([ag bq a0.ar.ba,ag a7 a0.ar.bw,ag bE a0.ar.bc,ae a0.ar.bx,ae a0.ar.bA,ag bH a0.b0,ag a7 a0.bX,ag cy a0.bG,j a0.cf,j a0.cg,ae a0.cd,j a0.bW,j a0.bB])),(3,.obj (dc.cells aw)),(5,j s1)]) 0 (λ(a8:Unit)=>[]) (λ(b4:Int)=>[(4,j b4)]) ao (λs1 o h=>?_) (λa8 J=>?_) (λb4 J=>?_)
 ·clear ao
  refine W.aX<|W.aT [0,3,5,13] ?_
  refine W.bu h q (λdH h=>?_) (λdH h=>?_)
  ·refine W.bF<|ah.aU ?_
   refine W.aX<|W.bf ?_
   refine W.aX ?_
   obtain ⟨iz,aa,h⟩:=ax h
   refine W.rd [[],[0],[0,1],[0,1,2],[0,1,2,3],[],aN 0 6 [],aN 0 7 [],aN 0 8 [],[],[9],aN 0 11 [],aN 0 12 [],aN 0 13 [],aN 0 14 [],aN 0 15 [],aN 0 16 [],aN 0 17 [],aN 0 13 [],aN 0 19 [],aN 0 20 [],aN 0 21 [],aN 0 13 [],aN 0 13 [22],aN 0 24 [],aN 0 25 [],aN 0 26 [],aN 0 27 [],aN 0 28 [],aN 0 29 []] [(0,.bo ([ag bq a0.ar.ba,ag a7 a0.ar.bw,ag bE a0.ar.bc,ae a0.ar.bx,ae a0.ar.bA,ag bH a0.b0,ag a7 a0.bX,ag cy a0.bG,j a0.cf,j a0.cg,ae a0.cd,j a0.bW,j a0.bB])),(3,.obj (dc.cells aw)),(5,j s1),(45,a1 iz)] ei (by kernel_rfl) ?_ ?_
   ·refine av 0 (O.aC (.bo q))<|av 1 (O.AE (.bo q))<|av 2 (O.ez (.bo q) kp)<|av 3 (O.ez (.bo q) oD)<|av 4 (O.dd (x:=ag bq a0.ar.ba) (.bo q) pZ q)<|av 5 (O.aC (.lit q)) ?_
    obtain ⟨bP,ga,aa⟩:=ax aa
    refine av 6 (O.cC (.aF q) (.lit q) qt ga)<|av 7 (O.ez (.bo q) J7)<|av 8 (O.dd (x:=ae bP.Name) (.bo q) eI q)<|av 9 (O.a_ q (.obj q) kq q)<|av 10 (O.cq q (.ptr q) eI q)<|av 11 (O.oA (.lit q) (.lit q))<|av 12 (O.aC (.lit q)) ?_
    rcases cB aa with ⟨dn,aa⟩ | ⟨dn,aa⟩
    ·refine b8 13 dn (O.aC (.bo q))<|b8 14 dn (O.AE (.bo q))<|b8 15 dn (O.ez (.bo q) kp)<|b8 16 dn (O.ez (.bo q) oD)<|b8 17 dn (O.dd (x:=ag bq a0.ar.ba) (.bo q) pZ q)<|b8 18 dn (O.aC (.lit q)) ?_
     obtain ⟨b1,hK,aa⟩:=ax aa
     refine b8 19 dn (O.cC (.aF q) (.lit q) qt hK)<|b8 20 dn (O.ez (.bo q) J8)<|b8 21 dn (O.dd (x:=a1 b1.Lit) (.bo q) mW q)<|b8 22 dn (O.a_ q (.obj q) tC q)<|b8 23 dn (O.cq q (.ptr q) mW q)<|b8 24 dn (O.PU (.lit q) (.lit q) Om)<|av 25 (O.eB (.lit q) dn (.lit q))<|av 26 (O.aC (.lit q)) ?_
     rcases cB aa with ⟨di,aa⟩ | ⟨di,aa⟩
     ·obtain rfl:=au aa
      exact b8 27 di (O.aC (.lit q))<|b8 28 di (O.neq (.lit q) (.k q))<|av 29 (O.eB (.lit q) di (.lit q))<|bC.fin q q q (dM q q q q)
     ·obtain rfl:=au aa
      exact bS 27 di<|bS 28 di<|av 29 (O.dL (.lit q) di (.k q))<|bC.fin q q q (dM q q q q)
    ·obtain rfl:=au aa
     exact bS 13 dn<|bS 14 dn<|bS 15 dn<|bS 16 dn<|bS 17 dn<|bS 18 dn<|bS 19 dn<|bS 20 dn<|bS 21 dn<|bS 22 dn<|bS 23 dn<|bS 24 dn<|av 25 (O.dL (.lit q) dn (.k q))<|av 26 (O.aC (.lit q))<|bS 27 q<|bS 28 q<|av 29 (O.dL (.lit q) q (.k q))<|bC.fin q q q (dM q q q q)
   refine ah.aU<|W.bu h q (λe_ h=>?_) (λe_ h=>?_)
   ·refine W.aT [4] ?_
    refine W.rt ?_
    refine ah.d_ ?_
    refine ah.c5 ?_
    obtain rfl:=au h
    exact ah.gx (.n q .nil)
   ·refine W.bF<|ah.bf ?_
    refine ah.aU<|W.bk [0,3,5] (bp q<|ai (O.add (.lit q) (.k q))<|aq.bk [0,3,15] q<|aq.aV) ?_
    obtain rfl:=au h
    exact ah.go (dt q q q)
  ·refine W.c9 ?_
   refine ah.c7 ?_
   obtain rfl:=au h
   exact ah.x2 .nil
 ·subst J
  refine ah.c' ?_
  refine ah.aU<|W.aT [4] ?_
  refine W.rt ?_
  obtain rfl:=au h
  exact cw (.f q q .nil)
 ·subst J
  refine ah.d_ ?_
  refine ah.c5 ?_
  obtain rfl:=au h
  exact cw (.f q q .nil)
theorem Jq (a0:cT) (aw:Int) (r:Int) (h:x_ a0 aw=some r):b_ Try.prog 114 [.bo ([ag bq a0.ar.ba,ag a7 a0.ar.bw,ag bE a0.ar.bc,ae a0.ar.bx,ae a0.ar.bA,ag bH a0.b0,ag a7 a0.bX,ag cy a0.bG,j a0.cf,j a0.cg,ae a0.cd,j a0.bW,j a0.bB]),j aw] [none,none] (j r):=by
 unfold x_ at h
 refine b_.go (N:=⟨28,[]⟩) Try.func114 q q q q (W.fin ?_)
 refine W.st [(0,.bo ([ag bq a0.ar.ba,ag a7 a0.ar.bw,ag bE a0.ar.bc,ae a0.ar.bx,ae a0.ar.bA,ag bH a0.b0,ag a7 a0.bX,ag cy a0.bG,j a0.cf,j a0.cg,ae a0.cd,j a0.bW,j a0.bB])),(1,j aw)] ?_
 refine W.aT [0,1] ?_
 refine W.aX<|W.aT [0,1,5] ?_
 refine W.bf ?_
 obtain ⟨x2,ao,h⟩:=ax h
 refine W.ca (G1:=[(0,_),(1,_),(5,_)]) (dt q q q) ?_
 refine W.jZ (s:=3) (λ(s1:Int)=>[(0,.bo ([ag bq a0.ar.ba,ag a7 a0.ar.bw,ag bE a0.ar.bc,ae a0.ar.bx,ae a0.ar.bA,ag bH a0.b0,ag a7 a0.bX,ag cy a0.bG,j a0.cf,j a0.cg,ae a0.cd,j a0.bW,j a0.bB])),(1,j aw),(5,j s1)]) 0 (λ(a8:Unit)=>[]) (λ(b4:Int)=>[(4,j b4)]) ao (λs1 o h=>?_) (λa8 J=>?_) (λb4 J=>?_)
 ·clear ao
  refine W.aX<|W.aT [0,1,5,13] ?_
  refine W.bu h q (λdH h=>?_) (λdH h=>?_)
  ·refine W.bF<|ah.aU ?_
   refine W.aX<|W.bf ?_
   obtain ⟨bP,ga,h⟩:=ax h
   refine W.aT [0,1,5,26] ?_
   refine W.bu h q (λdn h=>?_) (λdn h=>?_)
   ·refine W.aT [4] ?_
    refine W.rt ?_
    refine ah.d_ ?_
    refine ah.c5 ?_
    obtain rfl:=au h
    exact ah.gx (.n q .nil)
   ·refine W.bF<|ah.bf ?_
    refine ah.aU<|W.bk [0,1,5] (bp q<|ai (O.add (.lit q) (.k q))<|aq.bk [0,1,15] q<|aq.aV) ?_
    obtain rfl:=au h
    exact ah.go (dt q q q)
  ·refine W.c9 ?_
   refine ah.c7 ?_
   obtain rfl:=au h
   exact ah.x2 .nil
 ·subst J
  refine ah.c' ?_
  refine ah.aU<|W.aT [4] ?_
  refine W.rt ?_
  obtain rfl:=au h
  exact cw (.f q q .nil)
 ·subst J
  refine ah.d_ ?_
  refine ah.c5 ?_
  obtain rfl:=au h
  exact cw (.f q q .nil)
theorem Jp (a0:cT) (aw:Sym) (r:Int × cT) (h:x9 a0 aw=some r):b_ Try.prog 113 [.obj (ej.cells a0),.agg (dc.cells aw)] [some (.obj [ak bq r.2.ar.ba,ak a7 r.2.ar.bw,ak bE r.2.ar.bc,ae r.2.ar.bx,ae r.2.ar.bA,ak bH r.2.b0,ak a7 r.2.bX,ak cy r.2.bG,j r.2.cf,j r.2.cg,ae r.2.cd,j r.2.bW,j r.2.bB]),none] (j r.1):=by
 unfold x9 at h
 refine b_.go (N:=⟨66,[0]⟩) Try.func113 q q q q (W.fin ?_)
 refine W.st [(0,.obj (ej.cells a0)),(1,.agg (dc.cells aw))] ?_
 refine W.bV [0,3] (ai (O.box (.b2 q q) q)<|aq.aV) ?_
 obtain ⟨aD,fF,h⟩:=ax h
 refine W.bV [0,3,5] (ai (O.aC (.obj q))<|ai (O.dR (cs':=[ae aw.Name,a1 aw.Lit,j aw.cJ,j aw.At]) q (.obj q) kD q q)<|eE (cr.vw (ys:=[.ptr ⟨0,[]⟩ 0,.agg (dc.cells aw)]) q (.c (View.oS q q) (.c (.yW (.s (.s (.s (.s .nil))))) .nil)) (EM a0 aw _ fF) call95 q)<|aq.aV) ?_
 refine W.aX<|W.aT [0,3,5,11] ?_
 refine W.bu h q (λcP h=>?_) (λcP h=>?_)
 ·refine W.aT [0,4] ?_
  refine W.rt ?_
  refine ah.c5 ?_
  obtain rfl:=au h
  exact ah.fin (Fin.ro (.f q q .nil) q (pz (by kernel_rfl)) (.aB q q (.no .nil)) q (.inr q))
 ·refine W.bF<|ah.aU ?_
  refine W.bV [0,3,6] (ai (O.a_ q (.obj q) kq q)<|ai (O.cq q (.ptr q) eI q)<|ai (O.a_ q (.obj q) tC q)<|ai (O.cq q (.ptr q) mW q)<|ai (O.dE (cs:=[ae aw.Name,a1 aw.Lit,j 0,j 0,j 0,ae aA]) DM wH q q q)<|ai (O.fq (cs:=[ae aA,a1 false,j 0,j 0,j 0,ae aA]) wH q q)<|aq.dx (G2:=[(0,_),(3,_),(6,_)]) (cs2:=[ae aw.Name,a1 aw.Lit,j 0,j 0,j 0,ae aA]) q (.obj q) (.b2 q q) q HY q q q q (.n q q (.n q q (.b q .nil)))<|bK q) ?_
  refine W.aX<|W.aT [0,3,6,19] ?_
  obtain ⟨dK,aa,h⟩:=ax h
  refine W.bs [(0,.obj (ej.cells dK.1)),(3,.obj (dc.cells aw)),(6,.obj [ae aw.Name,a1 aw.Lit,j dK.2,j 0,j 0,ae aA])] ?_ ?_
  ·clear h; have h:=aa; clear aa
   refine W.bu h q (λc0 h=>?_) (λc0 h=>?_)
   ·obtain ⟨cn,kM,h⟩:=ax h
    refine W.bV [0,3,6] (ai (O.a_ q (.obj q) kq q)<|ai (O.cq q (.ptr q) eI q)<|ai (O.qD (.lit q) (.k q) j4 kM)<|ai (O.Ct (.lit q) GP GO)<|ai (O.a_ q (.obj q) zv q)<|aq.dx (G2:=[(0,_),(3,_),(6,_)]) (cs2:=[ae aw.Name,a1 aw.Lit,j (aO cn),j 0,j 0,ae aA]) q (.ptr q) (.lit q) q nP q q q q (.n q q (.n q q (.b q .nil)))<|bK q) ?_
    obtain ⟨bP,ga,h⟩:=ax h
    refine W.bV [0,3,6,29] (ai (O.aC (.obj q))<|ai (O.a_ q (.obj q) zv q)<|ai (O.cq q (.ptr q) ct q)<|eE (cr.vw (ys:=[.ptr ⟨0,[]⟩ 0,j (aO cn)]) q (.c (View.oS q q) (.s .nil)) (Jq a0 (aO cn) _ ga) call114 q)<|aq.aV) ?_
    obtain ⟨n_,aa,h⟩:=ax h
    refine W.bs [(0,.obj (ej.cells n_)),(3,.obj (dc.cells aw)),(6,.obj [ae aw.Name,a1 aw.Lit,j (aO cn),j 0,j 0,ae aA])] ?_ ?_
    ·clear h; have h:=aa; clear aa
     refine W.bu h q (λc3 h=>?_) (λc3 h=>?_)
     ·obtain ⟨cv,jx,h⟩:=ax h
      refine W.bk [0,3,6] (ai (O.aC (.obj q))<|ai (O.a_ q (.obj q) qO q)<|ai (O.cq q (.ptr q) ct q)<|ai (O.a_ q (.obj q) kq q)<|ai (O.cq q (.ptr q) eI q)<|aq.h_ q (b9.call q q (h2.nM (G2:=[(3,.obj (dc.cells aw)),(6,.obj [ae aw.Name,a1 aw.Lit,j (aO cn),j 0,j 0,ae aA])]) (A:=[]) (ys:=[.ptr ⟨0,[]⟩ 0,j aw.At,ae aw.Name]) (args:=[.obj (ej.cells a0),j aw.At,ae aw.Name]) (cs':=[ak bq cv.ar.ba,ak a7 cv.ar.bw,ak bE cv.ar.bc,ae cv.ar.bx,ae cv.ar.bA,ak bH cv.b0,ak a7 cv.bX,ak cy cv.bG,j cv.cf,j cv.cg,ae cv.cd,j cv.bW,j cv.bB]) (k0:=0) q q q q (.b q (.n q (.n q .nil))) q (u4 a0 aw.At aw.Name _ jx) call94 (fC q q) q q (fC q q) .nil q))<|bK q) ?_
      obtain rfl:=au h
      exact ah.bs (dt q q q)
     ·refine W.bF ?_
      obtain rfl:=au h
      exact ah.bs (dt q q q)
    obtain rfl:=au h
    exact ah.bs (dt q q q)
   ·refine W.bF ?_
    obtain rfl:=au h
    exact ah.bs (dt q q q)
  refine ah.aU<|W.aX ?_
  obtain ⟨bM,iF,h⟩:=ax h
  refine W.rd [[],[],[1],[1,2],[1,2,3],[1,2,3,4],[],[6],aN 1 7 [],aN 0 9 [],aN 0 10 [],aN 0 11 [],aN 0 12 []] [(0,_),(3,_)] ei (by kernel_rfl) (av 0 (O.aC (.obj q))<|av 1 (O.aC (.obj q))<|av 2 (O.e5 (.ptr q))<|av 3 (O.a_ q (.ptr q) kp q)<|av 4 (O.a_ q (.ptr q) oD q)<|av 5 (O.cU (y:=.bl bq.z ⟨0,[0]⟩ dK.1.ar.ba.length) q (.ptr q) pZ q q)<|av 6 (O.dR (cs':=[ae aw.Name,a1 aw.Lit,j dK.2,j 0,j 0,ae aA]) q (.obj q) Eo q q)<|bC.eY 7 (x:=ag bq [(⟨aw.Name,aw.Lit,dK.2,0,0,aA⟩:b5)]) (O.dg (ys:=[.agg [ae aw.Name,a1 aw.Lit,j dK.2,j 0,j 0,ae aA]]) bq [(⟨aw.Name,aw.Lit,dK.2,0,0,aA⟩:b5)] qt q q q q q q Nh q q) q q q q .none<|av 8 (O.ap (en:=bq) (r:=bM) (.bl q) q (.aF q) .i NW q iF)<|av 9 (O.e5 (.ptr q))<|av 10 (O.a_ q (.ptr q) kp q)<|av 11 (O.a_ q (.ptr q) oD q)<|bC.iZ 12 (G2:=[(0,.obj [ak bq (dK.1.ar.ba++[(⟨aw.Name,aw.Lit,dK.2,0,0,aA⟩:b5)]),ak a7 dK.1.ar.bw,ak bE dK.1.ar.bc,ae dK.1.ar.bx,ae dK.1.ar.bA,ak bH dK.1.b0,ak a7 dK.1.bX,ak cy dK.1.bG,j dK.1.cf,j dK.1.cg,ae dK.1.cd,j dK.1.bW,j dK.1.bB]),(3,.obj (dc.cells aw))]) (b9.kt (g1:=_) (en:=bq) (M:=[(⟨aw.Name,aw.Lit,dK.2,0,0,aA⟩:b5)]) (cs2:=[ak bq (dK.1.ar.ba++[(⟨aw.Name,aw.Lit,dK.2,0,0,aA⟩:b5)]),ak a7 dK.1.ar.bw,ak bE dK.1.ar.bc,ae dK.1.ar.bx,ae dK.1.ar.bA,ak bH dK.1.b0,ak a7 dK.1.bX,ak cy dK.1.bG,j dK.1.cf,j dK.1.cg,ae dK.1.cd,j dK.1.bW,j dK.1.bB]) q q (.ptr q) (.bR q) q q q .iH .gk q q MO q q q q (.b q (.n q q .nil))) q q q q (by kernel_rfl) (by kernel_rfl)<|bC.fin q q q (fC q q)) ?_
  refine ah.aU<|W.aX ?_
  obtain ⟨bD,gQ,h⟩:=ax h
  refine W.rd [[],[],[1],[1,2],[1,2,3],[],[5],[5,6],aN 1 7 [],aN 0 9 [],aN 0 10 [],aN 0 11 []] [(0,_)] ei (by kernel_rfl) (av 0 (O.aC (.obj q))<|av 1 (O.aC (.obj q))<|av 2 (O.e5 (.ptr q))<|av 3 (O.a_ q (.ptr q) xm q)<|av 4 (O.cU (y:=.bl bH.z ⟨0,[5]⟩ dK.1.b0.length) q (.ptr q) y_ q q)<|av 5 (O.a_ q (.obj q) tC q)<|av 6 (O.cq q (.ptr q) mW q)<|bC.eY 7 (x:=ag bH [aw.Lit]) (O.dg (ys:=[a1 aw.Lit]) bH [aw.Lit] oT q q q q q q Vs q q) q q q q .none<|av 8 (O.ap (en:=bH) (r:=bD) (.bl q) q (.aF q) .i NS q gQ)<|av 9 (O.e5 (.ptr q))<|av 10 (O.a_ q (.ptr q) xm q)<|bC.iZ 11 (G2:=[(0,.obj [ak bq (dK.1.ar.ba++[(⟨aw.Name,aw.Lit,dK.2,0,0,aA⟩:b5)]),ak a7 dK.1.ar.bw,ak bE dK.1.ar.bc,ae dK.1.ar.bx,ae dK.1.ar.bA,ak bH (dK.1.b0++[aw.Lit]),ak a7 dK.1.bX,ak cy dK.1.bG,j dK.1.cf,j dK.1.cg,ae dK.1.cd,j dK.1.bW,j dK.1.bB])]) (b9.kt (g1:=_) (en:=bH) (M:=[aw.Lit]) (cs2:=[ak bq (dK.1.ar.ba++[(⟨aw.Name,aw.Lit,dK.2,0,0,aA⟩:b5)]),ak a7 dK.1.ar.bw,ak bE dK.1.ar.bc,ae dK.1.ar.bx,ae dK.1.ar.bA,ak bH (dK.1.b0++[aw.Lit]),ak a7 dK.1.bX,ak cy dK.1.bG,j dK.1.cf,j dK.1.cg,ae dK.1.cd,j dK.1.bW,j dK.1.bB]) q q (.ptr q) (.bR q) q q q .iH .gk q q UI q q q q (.b q .nil)) q q q q (by kernel_rfl) (by kernel_rfl)<|bC.fin q q q (.n q .nil)) ?_
  refine ah.aU<|W.aT [0,4] ?_
  refine W.rt ?_
  obtain rfl:=au h
  exact ah.fin (Fin.ro (.f q q .nil) q (pz (by kernel_rfl)) (.aB q q (.no .nil)) q (.inr q))
theorem EN (v:Value) (a0:cT) (aw:Int) (a2:ByteArray) (r:cT) (h:nN a0 aw a2=some r):b_ Try.prog 94 [.obj [.lit v,ak a7 a0.ar.bw,ak bE a0.ar.bc,ae a0.ar.bx,ae a0.ar.bA,ak bH a0.b0,ak a7 a0.bX,ak cy a0.bG,j a0.cf,j a0.cg,ae a0.cd,j a0.bW,j a0.bB],j aw,ae a2] [some (.obj [.lit v,ak a7 r.ar.bw,ak bE r.ar.bc,ae r.ar.bx,ae r.ar.bA,ak bH r.b0,ak a7 r.bX,ak cy r.bG,j r.cf,j r.cg,ae r.cd,j r.bW,j r.bB]),none,none] (.cG []):=by
 unfold nN at h
 refine b_.go (N:=⟨22,[0]⟩) Try.func94 q q q q (W.fin ?_)
 refine W.st [(0,.obj [.lit v,ak a7 a0.ar.bw,ak bE a0.ar.bc,ae a0.ar.bx,ae a0.ar.bA,ak bH a0.b0,ak a7 a0.bX,ak cy a0.bG,j a0.cf,j a0.cg,ae a0.cd,j a0.bW,j a0.bB]),(1,j aw),(2,ae a2)] ?_
 refine W.aT [0,1,2,10] ?_
 obtain ⟨jk,aa,h⟩:=ax h
 refine W.bs [(0,.obj [.lit v,ak a7 jk.ar.bw,ak bE jk.ar.bc,ae jk.ar.bx,ae jk.ar.bA,ak bH jk.b0,ak a7 jk.bX,ak cy jk.bG,j jk.cf,j jk.cg,ae jk.cd,j jk.bW,j jk.bB])] ?_ ?_
 ·clear h; have h:=aa; clear aa
  refine W.bu h q (λcP h=>?_) (λcP h=>?_)
  ·refine W.bk [0] (ai (O.aC (.obj q))<|ai (O.aC (.obj q))<|ai (O.aC (.obj q))<|bp q<|bp q<|ai (O.e5 (.ptr q))<|ai (O.a_ q (.ptr q) zn q)<|aq.dx (G2:=[(0,_),(12,.ptr ⟨0,[]⟩ 0),(13,.ptr ⟨0,[]⟩ 0),(14,_),(15,_)]) (cs2:=[.lit v,ak a7 a0.ar.bw,ak bE a0.ar.bc,ae a0.ar.bx,ae a0.ar.bA,ak bH a0.b0,ak a7 a0.bX,ak cy a0.bG,j 3,j a0.cg,ae a0.cd,j a0.bW,j a0.bB]) q (.ptr q) (.k q) q nP q q q q (.b q (.p q q q q q q (.p q q q q q q (.n q q (.n q q .nil)))))<|ai (O.e5 (.ptr q))<|ai (O.a_ q (.ptr q) zo q)<|aq.dx (G2:=[(0,_),(13,.ptr ⟨0,[]⟩ 0),(15,_)]) (cs2:=[.lit v,ak a7 a0.ar.bw,ak bE a0.ar.bc,ae a0.ar.bx,ae a0.ar.bA,ak bH a0.b0,ak a7 a0.bX,ak cy a0.bG,j 3,j aw,ae a0.cd,j a0.bW,j a0.bB]) q (.ptr q) (.lit q) q nP q q q q (.b q (.p q q q q q q (.n q q .nil)))<|ai (O.e5 (.ptr q))<|ai (O.a_ q (.ptr q) zp q)<|aq.dx (G2:=[(0,_)]) (cs2:=[.lit v,ak a7 a0.ar.bw,ak bE a0.ar.bc,ae a0.ar.bx,ae a0.ar.bA,ak bH a0.b0,ak a7 a0.bX,ak cy a0.bG,j 3,j aw,ae a2,j a0.bW,j a0.bB]) q (.ptr q) (.lit q) q wA q q q q (.b q .nil)<|bK q) ?_
   obtain rfl:=au h
   exact ah.bs (.n q .nil)
  ·refine W.bF ?_
   obtain rfl:=au h
   exact ah.bs (.n q .nil)
 obtain rfl:=au h
 exact ah.fin (Fin.ro .nil q (pz (by kernel_rfl)) (.aB q q (.no (.no .nil))) q (.inl q))
theorem Pv (a0:cT) (aw:Decl) (a2:Sym) (r:cT) (h:Bm a0 aw a2=some r):b_ Try.prog 93 [.obj (ej.cells a0),.agg (cx.cells aw),.agg (dc.cells a2)] [some (.obj [ak bq r.ar.ba,ak a7 r.ar.bw,ak bE r.ar.bc,ae r.ar.bx,ae r.ar.bA,ak bH r.b0,ak a7 r.bX,ak cy r.bG,j r.cf,j r.cg,ae r.cd,j r.bW,j r.bB]),none,none] (.cG []):=by
 unfold Bm at h
 refine b_.go (N:=⟨152,[0]⟩) Try.func93 q q q q (W.fin ?_)
 refine W.st [(0,.obj (ej.cells a0)),(1,.agg (cx.cells aw)),(2,.agg (dc.cells a2))] ?_
 refine W.bV [0,4,5] (ai (O.box (.b2 q q) q)<|ai (O.box (.b2 q q) q)<|bK q) ?_
 refine W.aX<|W.aT [0,4,5,11] ?_
 refine W.bu h q (λdb h=>?_) (λdb h=>?_)
 ·obtain ⟨x2,ho,h⟩:=ax h
  refine W.bV [0,4,5,6] (ai (O.aC (.obj q))<|ai (O.a_ q (.obj q) kq q)<|ai (O.cq q (.ptr q) eI q)<|eE (cr.vw (ys:=[.ptr ⟨0,[]⟩ 0,ae a2.Name]) q (.c (View.oS q q) (.s .nil)) (JE a0 a2.Name _ ho) call98 q)<|aq.aV) ?_
  refine W.aX<|W.aT [0,4,5,6,17] ?_
  obtain ⟨dK,aa,h⟩:=ax h
  refine W.bs [(0,.obj (ej.cells dK))] ?_ ?_
  ·clear h; have h:=aa; clear aa
   refine W.bu h q (λc0 h=>?_) (λc0 h=>?_)
   ·obtain ⟨cn,kM,h⟩:=ax h
    refine W.rd [[],[],[1],[1,2],[1,2,3],[],[5],[],[7],[5,6,7,8],aN 5 5 [],aN 1 10 [],aN 0 12 [],aN 0 13 [],aN 0 14 []] [(0,_)] ei (by kernel_rfl) (av 0 (O.aC (.obj q))<|av 1 (O.aC (.obj q))<|av 2 (O.e5 (.ptr q))<|av 3 (O.a_ q (.ptr q) zm q)<|av 4 (O.cU (y:=.bl a7.z ⟨0,[6]⟩ a0.bX.length) q (.ptr q) sw q q)<|av 5 (O.a_ q (.obj q) kq q)<|av 6 (O.cq q (.ptr q) eI q)<|av 7 (O.a_ q (.obj q) nz q)<|av 8 (O.cq q (.ptr q) eI q)<|av 9 (O.dE (cs:=[ae a2.Name,ae aw.Tag]) DL BN q q q)<|bC.eY 10 (x:=ag a7 [(⟨a2.Name,aw.Tag⟩:e4)]) (O.dg (ys:=[.agg [ae a2.Name,ae aw.Tag]]) a7 [(⟨a2.Name,aw.Tag⟩:e4)] r5 q q q q q q D5 q q) q q q q .none<|av 11 (O.ap (en:=a7) (r:=cn) (.bl q) q (.aF q) .i Ej q kM)<|av 12 (O.e5 (.ptr q))<|av 13 (O.a_ q (.ptr q) zm q)<|bC.iZ 14 (G2:=[(0,.obj [ak bq a0.ar.ba,ak a7 a0.ar.bw,ak bE a0.ar.bc,ae a0.ar.bx,ae a0.ar.bA,ak bH a0.b0,ak a7 (a0.bX++[(⟨a2.Name,aw.Tag⟩:e4)]),ak cy a0.bG,j a0.cf,j a0.cg,ae a0.cd,j a0.bW,j a0.bB])]) (b9.kt (g1:=_) (en:=a7) (M:=[(⟨a2.Name,aw.Tag⟩:e4)]) (cs2:=[ak bq a0.ar.ba,ak a7 a0.ar.bw,ak bE a0.ar.bc,ae a0.ar.bx,ae a0.ar.bA,ak bH a0.b0,ak a7 (a0.bX++[(⟨a2.Name,aw.Tag⟩:e4)]),ak cy a0.bG,j a0.cf,j a0.cg,ae a0.cd,j a0.bW,j a0.bB]) q q (.ptr q) (.bR q) q q q .iH .gk q q DR q q q q (.b q .nil)) q q q q (by kernel_rfl) (by kernel_rfl)<|bC.fin q q q (.n q .nil)) ?_
    obtain rfl:=au h
    exact ah.bs (.n q .nil)
   ·refine W.aX ?_
    obtain ⟨bP,ga,h⟩:=ax h
    refine W.rd [[],[0],[0,1],[0,1,2],[],aN 0 5 [],aN 0 6 [],aN 0 7 [],[],[8],aN 0 10 []] [(0,_),(5,_),(42,_)] ei (by kernel_rfl) (av 0 (O.aC (.obj q))<|av 1 (O.e5 (.ptr q))<|av 2 (O.a_ q (.ptr q) zm q)<|av 3 (O.cU (y:=.bl a7.z ⟨0,[6]⟩ a0.bX.length) q (.ptr q) sw q q)<|av 4 (O.aC (.lit q))<|av 5 (O.gY (en:=a7) q (.bl q) (.lit q) r5 ga q)<|av 6 (O.ko (en:=a7) q (.ptr q) CA ga q q)<|av 7 (O.jz (en:=a7) (x':=ae bP.Tag) q (.ptr q) eI ga q q)<|av 8 (O.a_ q (.obj q) nz q)<|av 9 (O.cq q (.ptr q) eI q)<|av 10 (O.l' (.lit q) (.lit q))<|bC.fin q q q (dt q q q)) ?_
    refine ah.aU ?_
    obtain ⟨n_,aa,h⟩:=ax h
    refine W.bs [(0,.obj (ej.cells n_))] ?_ ?_
    ·clear h; have h:=aa; clear aa
     refine W.bu h q (λc3 h=>?_) (λc3 h=>?_)
     ·obtain ⟨cv,jx,h⟩:=ax h
      refine W.bk [0] (ai (O.aC (.obj q))<|ai (O.a_ q (.obj q) qO q)<|ai (O.cq q (.ptr q) ct q)<|ai (O.a_ q (.obj q) kq q)<|ai (O.cq q (.ptr q) eI q)<|aq.h_ q (b9.call q q (h2.nM (G2:=[]) (A:=[]) (ys:=[.ptr ⟨0,[]⟩ 0,j a2.At,ae a2.Name]) (args:=[.obj (ej.cells a0),j a2.At,ae a2.Name]) (cs':=[ak bq cv.ar.ba,ak a7 cv.ar.bw,ak bE cv.ar.bc,ae cv.ar.bx,ae cv.ar.bA,ak bH cv.b0,ak a7 cv.bX,ak cy cv.bG,j cv.cf,j cv.cg,ae cv.cd,j cv.bW,j cv.bB]) (k0:=0) q q q q (.b q (.n q (.n q .nil))) q (u4 a0 a2.At a2.Name _ jx) call94 .nil q q .nil .nil q))<|bK q) ?_
      obtain rfl:=au h
      exact ah.bs (.n q .nil)
     ·refine W.bF ?_
      obtain rfl:=au h
      exact ah.bs (.n q .nil)
    obtain rfl:=au h
    exact ah.bs (.n q .nil)
  refine ah.aU<|W.rt ?_
  refine ah.c5 ?_
  obtain rfl:=au h
  exact ah.fin (Fin.ro .nil q (pz (by kernel_rfl)) (.aB q q (.no (.no .nil))) q (.inr q))
 ·refine W.bF<|ah.aU ?_
  obtain ⟨bM,iF,h⟩:=ax h
  refine W.bV [0,4,5,7] (ai (O.aC (.obj q))<|ai (O.dR (cs':=[ae a2.Name,a1 a2.Lit,j a2.cJ,j a2.At]) q (.obj q) kD q q)<|aq.h_ q (b9.call q q (h2.nM (G2:=[(4,.obj (cx.cells aw)),(5,.obj (dc.cells a2))]) (A:=[]) (ys:=[.ptr ⟨0,[]⟩ 0,.agg (dc.cells a2)]) (args:=[.obj (ej.cells a0),.agg (dc.cells a2)]) (cs':=[ak bq bM.2.ar.ba,ak a7 bM.2.ar.bw,ak bE bM.2.ar.bc,ae bM.2.ar.bx,ae bM.2.ar.bA,ak bH bM.2.b0,ak a7 bM.2.bX,ak cy bM.2.bG,j bM.2.cf,j bM.2.cg,ae bM.2.cd,j bM.2.bW,j bM.2.bB]) (k0:=0) q q q q (.b q (.n q .nil)) q (Jp a0 a2 _ iF) call113 (fC q q) q q (fC q q) .nil q))<|aq.aV) ?_
  obtain ⟨bD,gQ,h⟩:=ax h
  refine W.rs [(0,_),(4,_),(5,_),(7,_),(8,.ptr ⟨0,[0]⟩ (bM.1.toNat * bq.z+0))] (ai (O.aC (.obj q))<|ai (O.e5 (.ptr q))<|ai (O.a_ q (.ptr q) kp q)<|ai (O.a_ q (.ptr q) oD q)<|ai (O.cU (y:=.bl bq.z ⟨0,[0]⟩ bM.2.ar.ba.length) q (.ptr q) pZ q q)<|bp q<|ai (O.gY (en:=bq) q (.bl q) (.lit q) qt gQ q)<|ai (O.ec (.ptr q))<|nS (.n q (.n q (.n q (.n q (.r q (e7.el (en:=bq) q gQ q) j2 .nil)))))) ?_
  refine W.aX<|W.rs [(0,_),(4,_),(5,_),(7,_),(8,.ptr ⟨0,[0]⟩ (bM.1.toNat * bq.z+0)),(61,_)] (ai (O.a_ q (.obj q) oB q)<|ai (O.cq q (.ptr q) ct q)<|ai (O.neq (.lit q) (.k q))<|nS (.n q (.n q (.n q (.n q (.r q (e7.el (en:=bq) q gQ q) j2 (.n q .nil))))))) ?_
  obtain ⟨fj,aa,h⟩:=ax h
  refine W.bs [(0,.obj (ej.cells fj)),(4,.obj (cx.cells aw)),(5,.obj (dc.cells a2)),(7,j bM.1),(8,.ptr ⟨0,[0]⟩ (bM.1.toNat * bq.z+0))] ?_ ?_
  ·clear h; have h:=aa; clear aa
   refine W.bu h q (λhn h=>?_) (λhn h=>?_)
   ·refine W.aX<|W.rs [(0,_),(4,_),(5,_),(7,_),(8,.ptr ⟨0,[0]⟩ (bM.1.toNat * bq.z+0)),(66,_)] (ai (O.aC (.ptr q))<|ai (O.e5 (.ptr q))<|ai (O.ko (en:=bq) q (.ptr q) CD gQ q q)<|ai (O.jz (en:=bq) (x':=j bD.Level) q (.ptr q) ct gQ q q)<|ai (O.gtr (.lit q) (.k q))<|nS (.n q (.n q (.n q (.n q (.r q (e7.el (en:=bq) q gQ q) j2 (.n q .nil))))))) ?_
    obtain ⟨dv,aa,h⟩:=ax h
    refine W.bs [(0,.obj (ej.cells dv)),(4,.obj (cx.cells aw)),(5,.obj (dc.cells a2)),(7,j bM.1),(8,.ptr ⟨0,[0]⟩ (bM.1.toNat * bq.z+0))] ?_ ?_
    ·clear h; have h:=aa; clear aa
     refine W.bu h q (λpg h=>?_) (λpg h=>?_)
     ·obtain ⟨cj,jY,h⟩:=ax h
      refine W.rx [(0,_),(4,_),(5,_),(7,_),(8,.ptr ⟨0,[0]⟩ (bM.1.toNat * bq.z+0))] (ai (O.aC (.obj q))<|ai (O.a_ q (.obj q) qO q)<|ai (O.cq q (.ptr q) ct q)<|ai (O.a_ q (.obj q) kq q)<|ai (O.cq q (.ptr q) eI q)<|aq.h_ (G2:=[(8,.ptr ⟨0,[0]⟩ (bM.1.toNat * bq.z+0))]++[(72,.cG []),(0,.obj [ak bq bM.2.ar.ba,ak a7 cj.ar.bw,ak bE cj.ar.bc,ae cj.ar.bx,ae cj.ar.bA,ak bH cj.b0,ak a7 cj.bX,ak cy cj.bG,j cj.cf,j cj.cg,ae cj.cd,j cj.bW,j cj.bB]),(4,.obj (cx.cells aw)),(5,.obj (dc.cells a2)),(7,j bM.1)]) q (b9.fJ (r:=0) (k0:=0) (y:=ak bq bM.2.ar.ba) (cs5:=[ak bq bM.2.ar.ba,ak a7 cj.ar.bw,ak bE cj.ar.bc,ae cj.ar.bx,ae cj.ar.bA,ak bH cj.b0,ak a7 cj.bX,ak cy cj.bG,j cj.cf,j cj.cg,ae cj.cd,j cj.bW,j cj.bB]) (G1:=λv=>[(0,.obj [.lit v,ak a7 bM.2.ar.bw,ak bE bM.2.ar.bc,ae bM.2.ar.bx,ae bM.2.ar.bA,ak bH bM.2.b0,ak a7 bM.2.bX,ak cy bM.2.bG,j bM.2.cf,j bM.2.cg,ae bM.2.cd,j bM.2.bW,j bM.2.bB]),(4,.obj (cx.cells aw)),(5,.obj (dc.cells a2)),(7,j bM.1),(67,.ptr ⟨0,[]⟩ 0),(69,j a2.At),(71,ae a2.Name)]) (G4:=λv=>[(72,.cG []),(0,.obj [.lit v,ak a7 cj.ar.bw,ak bE cj.ar.bc,ae cj.ar.bx,ae cj.ar.bA,ak bH cj.b0,ak a7 cj.bX,ak cy cj.bG,j cj.cf,j cj.cg,ae cj.cd,j cj.bW,j cj.bB]),(4,.obj (cx.cells aw)),(5,.obj (dc.cells a2)),(7,j bM.1)]) (c4:=λv=>[.lit v,ak a7 cj.ar.bw,ak bE cj.ar.bc,ae cj.ar.bx,ae cj.ar.bA,ak bH cj.b0,ak a7 cj.bX,ak cy cj.bG,j cj.cf,j cj.cg,ae cj.cd,j cj.bW,j cj.bB]) (G5:=[(72,.cG []),(0,.obj [ak bq bM.2.ar.ba,ak a7 cj.ar.bw,ak bE cj.ar.bc,ae cj.ar.bx,ae cj.ar.bA,ak bH cj.b0,ak a7 cj.bX,ak cy cj.bG,j cj.cf,j cj.cg,ae cj.cd,j cj.bW,j cj.bB]),(4,.obj (cx.cells aw)),(5,.obj (dc.cells a2)),(7,j bM.1)]) (A:=[(8,.ptr ⟨0,[0]⟩ (bM.1.toNat * bq.z+0))]) q q q q (λv=>(.b q (.n q q (.n q q (.n q q (.p q q q q q q (.n q q (.n q q .nil)))))))) (λv=>h2.nM (G2:=[(4,.obj (cx.cells aw)),(5,.obj (dc.cells a2)),(7,j bM.1)]) (A:=[]) (ys:=[.ptr ⟨0,[]⟩ 0,j a2.At,ae a2.Name]) (args:=[.obj [.lit v,ak a7 bM.2.ar.bw,ak bE bM.2.ar.bc,ae bM.2.ar.bx,ae bM.2.ar.bA,ak bH bM.2.b0,ak a7 bM.2.bX,ak cy bM.2.bG,j bM.2.cf,j bM.2.cg,ae bM.2.cd,j bM.2.bW,j bM.2.bB],j a2.At,ae a2.Name]) (cs':=[.lit v,ak a7 cj.ar.bw,ak bE cj.ar.bc,ae cj.ar.bx,ae cj.ar.bA,ak bH cj.b0,ak a7 cj.bX,ak cy cj.bG,j cj.cf,j cj.cg,ae cj.cd,j cj.bW,j cj.bB]) (k0:=0) q q q q (.b q (.n q (.n q .nil))) q (EN v bM.2 a2.At a2.Name _ jY) call94 (dt q q q) q q (dt q q q) .nil q) (λv=>q) (λv=>q) (λv=>q) (λv=>(.n q q (.b q (.n q q (.n q q (.n q q .nil)))))) q (.c (en:=bq) (L:=bM.2.ar.ba) q q gQ q q q .nil))<|nS (.n q (.n q (.n q (.n q (.r q (e7.el (en:=bq) q gQ q) j2 .nil)))))) ?_
      obtain rfl:=au h
      exact ah.bs (.n q (.n q (.n q (.n q (.r q (e7.el (en:=bq) q gQ q) j2 .nil)))))
     ·refine W.bF ?_
      obtain rfl:=au h
      exact ah.bs (.n q (.n q (.n q (.n q (.r q (e7.el (en:=bq) q gQ q) j2 .nil)))))
    obtain ⟨bZ,gS,h⟩:=ax h
    refine ah.aU<|W.rd [[],[],[],[2],[2,3],[2,3,4],[],[6],[6,7],[0,2,3,4,5],[0,2,3,4,5,9],[0,2,3,4,5,9,10],aN 0 12 [],aN 0 13 [],aN 0 14 []] [(0,_),(4,_),(5,_),(7,_),(8,.ptr ⟨0,[0]⟩ (bM.1.toNat * bq.z+0))] ei (by kernel_rfl) (av 0 (O.aC (.ptr q))<|av 1 (O.aC (.ptr q))<|av 2 (O.aC (.obj q))<|av 3 (O.e5 (.ptr q))<|av 4 (O.a_ q (.ptr q) Cz q)<|av 5 (O.cq q (.ptr q) ct q)<|av 6 (O.a_ q (.obj q) oB q)<|av 7 (O.cq q (.ptr q) ct q)<|av 8 (O.sub (.lit q) (.k q))<|av 9 (O.e5 (.ptr q))<|av 10 (O.ko (en:=bq) q (.ptr q) CD gS q q)<|bC.dE 11 (G2:=[(0,.obj [ak bq (dv.ar.ba.set bM.1.toNat (⟨bZ.Name,bZ.Lit,bZ.cJ,dv.bW,bZ.fy,bZ.Tag⟩:b5)),ak a7 dv.ar.bw,ak bE dv.ar.bc,ae dv.ar.bx,ae dv.ar.bA,ak bH dv.b0,ak a7 dv.bX,ak cy dv.bG,j dv.cf,j dv.cg,ae dv.cd,j dv.bW,j dv.bB]),(4,.obj (cx.cells aw)),(5,.obj (dc.cells a2)),(7,j bM.1),(8,.ptr ⟨0,[0]⟩ (bM.1.toNat * bq.z+0))]) (U:=[(8,81,some (j (aO (aw.Kind - 1)))),(7,80,some (j aw.Kind)),(6,79,some (.ptr ⟨4,[]⟩ 0)),(1,74,some (.ptr ⟨0,[0]⟩ (bM.1.toNat * bq.z+0)))]) (kV.v (b9.mY (b9.pI (en:=bq) (y2:=(⟨bZ.Name,bZ.Lit,bZ.cJ,dv.bW,bZ.fy,bZ.Tag⟩:b5)) (cs':=[j dv.bW]) (x2:=.obj [ak bq (dv.ar.ba.set bM.1.toNat (⟨bZ.Name,bZ.Lit,bZ.cJ,dv.bW,bZ.fy,bZ.Tag⟩:b5)),ak a7 dv.ar.bw,ak bE dv.ar.bc,ae dv.ar.bx,ae dv.ar.bA,ak bH dv.b0,ak a7 dv.bX,ak cy dv.bG,j dv.cf,j dv.cg,ae dv.cd,j dv.bW,j dv.bB]) q q (.ptr q) (.lit q) q gS nP q q q q q q q (.b q (.n q q (.n q q (.n q q (.e q q (.mk (en:=bq) q gS q (nJ gS) q) q .nil)))))))) q q (by kernel_rfl) q q q (.c (.inr (.inl ⟨_,q⟩)) q q q q q (gz.wanted .none) (O.sub (.lit q) (.k q)) (.c (.inr (.inl ⟨_,q⟩)) q q q q q (gz.wanted .none) (O.cq q (.ptr q) ct q) (.c (.inr (.inr (.inr (.inl ⟨4,_,_,q,q,jA q,by simp,_,q,jA q⟩)))) q q q q q (gz.wanted .none) (O.a_ q (.obj q) oB q) (.c (.inr (.inr (.inl ⟨8,_,_,q,q,q,by simp⟩))) q q q q q (gz.wanted .none) (O.aC (.ptr q)) .nil)))) (by kernel_rfl)<|av 12 (O.e5 (.ptr q))<|av 13 (O.ko (en:=bq) q (.ptr q) E1 (nJ gS) q q)<|bC.iZ 14 (G2:=[(0,.obj [ak bq ((dv.ar.ba.set bM.1.toNat (⟨bZ.Name,bZ.Lit,bZ.cJ,dv.bW,bZ.fy,bZ.Tag⟩:b5)).set bM.1.toNat (⟨(⟨bZ.Name,bZ.Lit,bZ.cJ,dv.bW,bZ.fy,bZ.Tag⟩:b5).Name,(⟨bZ.Name,bZ.Lit,bZ.cJ,dv.bW,bZ.fy,bZ.Tag⟩:b5).Lit,(⟨bZ.Name,bZ.Lit,bZ.cJ,dv.bW,bZ.fy,bZ.Tag⟩:b5).cJ,(⟨bZ.Name,bZ.Lit,bZ.cJ,dv.bW,bZ.fy,bZ.Tag⟩:b5).Level,aO (aw.Kind - 1),(⟨bZ.Name,bZ.Lit,bZ.cJ,dv.bW,bZ.fy,bZ.Tag⟩:b5).Tag⟩:b5)),ak a7 dv.ar.bw,ak bE dv.ar.bc,ae dv.ar.bx,ae dv.ar.bA,ak bH dv.b0,ak a7 dv.bX,ak cy dv.bG,j dv.cf,j dv.cg,ae dv.cd,j dv.bW,j dv.bB]),(4,.obj (cx.cells aw)),(5,.obj (dc.cells a2)),(7,j bM.1),(8,.ptr ⟨0,[0]⟩ (bM.1.toNat * bq.z+0))]) (b9.pI (en:=bq) (y2:=(⟨(⟨bZ.Name,bZ.Lit,bZ.cJ,dv.bW,bZ.fy,bZ.Tag⟩:b5).Name,(⟨bZ.Name,bZ.Lit,bZ.cJ,dv.bW,bZ.fy,bZ.Tag⟩:b5).Lit,(⟨bZ.Name,bZ.Lit,bZ.cJ,dv.bW,bZ.fy,bZ.Tag⟩:b5).cJ,(⟨bZ.Name,bZ.Lit,bZ.cJ,dv.bW,bZ.fy,bZ.Tag⟩:b5).Level,aO (aw.Kind - 1),(⟨bZ.Name,bZ.Lit,bZ.cJ,dv.bW,bZ.fy,bZ.Tag⟩:b5).Tag⟩:b5)) (cs':=[j (aO (aw.Kind - 1))]) (x2:=.obj [ak bq ((dv.ar.ba.set bM.1.toNat (⟨bZ.Name,bZ.Lit,bZ.cJ,dv.bW,bZ.fy,bZ.Tag⟩:b5)).set bM.1.toNat (⟨(⟨bZ.Name,bZ.Lit,bZ.cJ,dv.bW,bZ.fy,bZ.Tag⟩:b5).Name,(⟨bZ.Name,bZ.Lit,bZ.cJ,dv.bW,bZ.fy,bZ.Tag⟩:b5).Lit,(⟨bZ.Name,bZ.Lit,bZ.cJ,dv.bW,bZ.fy,bZ.Tag⟩:b5).cJ,(⟨bZ.Name,bZ.Lit,bZ.cJ,dv.bW,bZ.fy,bZ.Tag⟩:b5).Level,aO (aw.Kind - 1),(⟨bZ.Name,bZ.Lit,bZ.cJ,dv.bW,bZ.fy,bZ.Tag⟩:b5).Tag⟩:b5)),ak a7 dv.ar.bw,ak bE dv.ar.bc,ae dv.ar.bx,ae dv.ar.bA,ak bH dv.b0,ak a7 dv.bX,ak cy dv.bG,j dv.cf,j dv.cg,ae dv.cd,j dv.bW,j dv.bB]) q q (.ptr q) (.lit q) q (nJ gS) nP q q q q q q q (.b q (.n q q (.n q q (.n q q (.e q q (.mk (en:=bq) q (nJ gS) q (nJ (nJ gS)) q) q .nil)))))) q q q q (by kernel_rfl) (by kernel_rfl)<|bC.fin q q q (.n q (.n q (.n q (.n q (.r q (e7.el (en:=bq) q (nJ (nJ gS)) q) j2 .nil)))))) ?_
    obtain rfl:=au h
    exact ah.bs (.n q (.n q (.n q (.n q (.r q (e7.el (en:=bq) q (nJ (nJ gS)) q) j2 .nil)))))
   ·refine W.bF ?_
    obtain rfl:=au h
    exact ah.bs (.n q (.n q (.n q (.n q (.r q (e7.el (en:=bq) q gQ q) j2 .nil)))))
  obtain ⟨dS,iG,h⟩:=ax h
  refine ah.aU<|W.aX ?_
  refine W.rs [(0,_),(4,_),(5,_),(7,_),(8,.ptr ⟨0,[0]⟩ (bM.1.toNat * bq.z+0)),(88,_)] (ai (O.a_ q (.obj q) tD q)<|ai (O.cq q (.ptr q) ct q)<|ai (O.gtr (.lit q) (.k q))<|nS (.n q (.n q (.n q (.n q (.r q (e7.el (en:=bq) q iG q) j2 (.n q .nil))))))) ?_
  obtain ⟨fX,aa,h⟩:=ax h
  refine W.bs [(0,.obj (ej.cells fX)),(4,.obj (cx.cells aw)),(5,.obj (dc.cells a2)),(8,.ptr ⟨0,[0]⟩ (bM.1.toNat * bq.z+0))] ?_ ?_
  ·clear h; have h:=aa; clear aa
   refine W.bu h q (λka h=>?_) (λka h=>?_)
   ·refine W.aX ?_
    obtain ⟨y5,aa,h⟩:=ax h
    refine W.rs [(0,.obj (ej.cells fj)),(4,.obj (cx.cells aw)),(5,.obj (dc.cells a2)),(7,j bM.1),(8,.ptr ⟨0,[0]⟩ (bM.1.toNat * bq.z+0)),(106,a1 y5)] ?_ ?_
    ·refine bp q<|ai (O.eql (.lit q) (.k q))<|ai (O.aC (.lit q)) ?_
     rcases cB aa with ⟨i_,aa⟩ | ⟨i_,aa⟩
     ·obtain rfl:=au aa
      exact cF i_<|cF i_<|cF i_<|cF i_<|cF i_<|cF i_<|cF i_<|ai (O.eB (.lit q) i_ (.k q))<|bp q<|cF q<|cF q<|cF q<|cF q<|cF q<|ai (O.eB (.lit q) q (.k q))<|nS (.n q (.n q (.n q (.n q (.r q (e7.el (en:=bq) q iG q) j2 (.n q .nil))))))
     ·refine aW i_ (O.aC (.obj q))<|aW i_ (O.e5 (.ptr q))<|aW i_ (O.a_ q (.ptr q) xm q)<|aW i_ (O.cU (y:=.bl bH.z ⟨0,[5]⟩ fj.b0.length) q (.ptr q) y_ q q)<|aW i_ (O.aC (.lit q)) ?_
      obtain ⟨fx,nG,aa⟩:=ax aa
      refine aW i_ (O.gY (en:=bH) q (.bl q) (.lit q) oT nG q)<|aW i_ (O.jz (en:=bH) (x':=a1 fx) q (.ptr q) mW nG q q)<|ai (O.dL (.lit q) i_ (.lit q))<|ai (O.aC (.lit q)) ?_
      rcases cB aa with ⟨gn,aa⟩ | ⟨gn,aa⟩
      ·obtain rfl:=au aa
       exact cF gn<|cF gn<|cF gn<|cF gn<|cF gn<|ai (O.eB (.lit q) gn (.k q))<|nS (.n q (.n q (.n q (.n q (.r q (e7.el (en:=bq) q iG q) j2 (.n q .nil))))))
      ·refine aW gn (O.aC (.obj q))<|aW gn (O.a_ q (.obj q) tD q)<|aW gn (O.cq q (.ptr q) ct q) ?_
       obtain ⟨gg,lO,aa⟩:=ax aa
       obtain rfl:=au aa
       exact aq.c (cr.vw (ys:=[.ptr ⟨0,[]⟩ 0,j a2.cJ]) q (.c (View.oS q q) (.s .nil)) (Jq fj a2.cJ _ lO) call114 q) q q (.hf q q gn)<|aW gn (O.geq (.lit q) (.k q))<|ai (O.dL (.lit q) gn (.lit q))<|nS (.n q (.n q (.n q (.n q (.r q (e7.el (en:=bq) q iG q) j2 (.n q .nil))))))
    obtain ⟨eu,aa,h⟩:=ax h
    refine W.bs [(0,.obj (ej.cells eu)),(4,.obj (cx.cells aw)),(5,.obj (dc.cells a2)),(7,j bM.1),(8,.ptr ⟨0,[0]⟩ (bM.1.toNat * bq.z+0))] ?_ ?_
    ·clear h; have h:=aa; clear aa
     refine W.bu h q (λqV h=>?_) (λqV h=>?_)
     ·obtain ⟨c8,sY,h⟩:=ax h
      refine W.rx [(0,_),(4,_),(5,_),(7,_),(8,.ptr ⟨0,[0]⟩ (bM.1.toNat * bq.z+0))] (ai (O.aC (.obj q))<|ai (O.a_ q (.obj q) qO q)<|ai (O.cq q (.ptr q) ct q)<|ai (O.a_ q (.obj q) kq q)<|ai (O.cq q (.ptr q) eI q)<|aq.h_ (G2:=[(8,.ptr ⟨0,[0]⟩ (bM.1.toNat * bq.z+0))]++[(112,.cG []),(0,.obj [ak bq fj.ar.ba,ak a7 c8.ar.bw,ak bE c8.ar.bc,ae c8.ar.bx,ae c8.ar.bA,ak bH c8.b0,ak a7 c8.bX,ak cy c8.bG,j c8.cf,j c8.cg,ae c8.cd,j c8.bW,j c8.bB]),(4,.obj (cx.cells aw)),(5,.obj (dc.cells a2)),(7,j bM.1)]) q (b9.fJ (r:=0) (k0:=0) (y:=ak bq fj.ar.ba) (cs5:=[ak bq fj.ar.ba,ak a7 c8.ar.bw,ak bE c8.ar.bc,ae c8.ar.bx,ae c8.ar.bA,ak bH c8.b0,ak a7 c8.bX,ak cy c8.bG,j c8.cf,j c8.cg,ae c8.cd,j c8.bW,j c8.bB]) (G1:=λv=>[(0,.obj [.lit v,ak a7 fj.ar.bw,ak bE fj.ar.bc,ae fj.ar.bx,ae fj.ar.bA,ak bH fj.b0,ak a7 fj.bX,ak cy fj.bG,j fj.cf,j fj.cg,ae fj.cd,j fj.bW,j fj.bB]),(4,.obj (cx.cells aw)),(5,.obj (dc.cells a2)),(7,j bM.1),(107,.ptr ⟨0,[]⟩ 0),(109,j a2.At),(111,ae a2.Name)]) (G4:=λv=>[(112,.cG []),(0,.obj [.lit v,ak a7 c8.ar.bw,ak bE c8.ar.bc,ae c8.ar.bx,ae c8.ar.bA,ak bH c8.b0,ak a7 c8.bX,ak cy c8.bG,j c8.cf,j c8.cg,ae c8.cd,j c8.bW,j c8.bB]),(4,.obj (cx.cells aw)),(5,.obj (dc.cells a2)),(7,j bM.1)]) (c4:=λv=>[.lit v,ak a7 c8.ar.bw,ak bE c8.ar.bc,ae c8.ar.bx,ae c8.ar.bA,ak bH c8.b0,ak a7 c8.bX,ak cy c8.bG,j c8.cf,j c8.cg,ae c8.cd,j c8.bW,j c8.bB]) (G5:=[(112,.cG []),(0,.obj [ak bq fj.ar.ba,ak a7 c8.ar.bw,ak bE c8.ar.bc,ae c8.ar.bx,ae c8.ar.bA,ak bH c8.b0,ak a7 c8.bX,ak cy c8.bG,j c8.cf,j c8.cg,ae c8.cd,j c8.bW,j c8.bB]),(4,.obj (cx.cells aw)),(5,.obj (dc.cells a2)),(7,j bM.1)]) (A:=[(8,.ptr ⟨0,[0]⟩ (bM.1.toNat * bq.z+0))]) q q q q (λv=>(.b q (.n q q (.n q q (.n q q (.p q q q q q q (.n q q (.n q q .nil)))))))) (λv=>h2.nM (G2:=[(4,.obj (cx.cells aw)),(5,.obj (dc.cells a2)),(7,j bM.1)]) (A:=[]) (ys:=[.ptr ⟨0,[]⟩ 0,j a2.At,ae a2.Name]) (args:=[.obj [.lit v,ak a7 fj.ar.bw,ak bE fj.ar.bc,ae fj.ar.bx,ae fj.ar.bA,ak bH fj.b0,ak a7 fj.bX,ak cy fj.bG,j fj.cf,j fj.cg,ae fj.cd,j fj.bW,j fj.bB],j a2.At,ae a2.Name]) (cs':=[.lit v,ak a7 c8.ar.bw,ak bE c8.ar.bc,ae c8.ar.bx,ae c8.ar.bA,ak bH c8.b0,ak a7 c8.bX,ak cy c8.bG,j c8.cf,j c8.cg,ae c8.cd,j c8.bW,j c8.bB]) (k0:=0) q q q q (.b q (.n q (.n q .nil))) q (EN v fj a2.At a2.Name _ sY) call94 (dt q q q) q q (dt q q q) .nil q) (λv=>q) (λv=>q) (λv=>q) (λv=>(.n q q (.b q (.n q q (.n q q (.n q q .nil)))))) q (.c (en:=bq) (L:=fj.ar.ba) q q iG q q q .nil))<|nS (.n q (.n q (.n q (.n q (.r q (e7.el (en:=bq) q iG q) j2 .nil)))))) ?_
      obtain rfl:=au h
      exact ah.bs (.n q (.n q (.n q (.n q (.r q (e7.el (en:=bq) q iG q) j2 .nil)))))
     ·refine W.bF ?_
      obtain rfl:=au h
      exact ah.bs (.n q (.n q (.n q (.n q (.r q (e7.el (en:=bq) q iG q) j2 .nil)))))
    obtain ⟨e3,l7,h⟩:=ax h
    refine ah.aU<|W.rs [(0,_),(4,_),(5,_),(7,_),(8,.ptr ⟨0,[0]⟩ (bM.1.toNat * bq.z+0))] (ai (O.aC (.ptr q))<|ai (O.a_ q (.obj q) tD q)<|ai (O.cq q (.ptr q) ct q)<|ai (O.e5 (.ptr q))<|ai (O.ko (en:=bq) q (.ptr q) zv l7 q q)<|aq.h_ (G2:=[(0,.obj [ak bq (eu.ar.ba.set bM.1.toNat (⟨e3.Name,e3.Lit,a2.cJ,e3.Level,e3.fy,e3.Tag⟩:b5)),ak a7 eu.ar.bw,ak bE eu.ar.bc,ae eu.ar.bx,ae eu.ar.bA,ak bH eu.b0,ak a7 eu.bX,ak cy eu.bG,j eu.cf,j eu.cg,ae eu.cd,j eu.bW,j eu.bB]),(4,.obj (cx.cells aw)),(5,.obj (dc.cells a2)),(7,j bM.1),(8,.ptr ⟨0,[0]⟩ (bM.1.toNat * bq.z+0))]) q (b9.pI (en:=bq) (y2:=(⟨e3.Name,e3.Lit,a2.cJ,e3.Level,e3.fy,e3.Tag⟩:b5)) (cs':=[j a2.cJ]) (x2:=.obj [ak bq (eu.ar.ba.set bM.1.toNat (⟨e3.Name,e3.Lit,a2.cJ,e3.Level,e3.fy,e3.Tag⟩:b5)),ak a7 eu.ar.bw,ak bE eu.ar.bc,ae eu.ar.bx,ae eu.ar.bA,ak bH eu.b0,ak a7 eu.bX,ak cy eu.bG,j eu.cf,j eu.cg,ae eu.cd,j eu.bW,j eu.bB]) q q (.ptr q) (.lit q) q l7 nP q q q q q q q (.b q (.n q q (.n q q (.n q q (.e q q (.mk (en:=bq) q l7 q (nJ l7) q) q .nil))))))<|nS (.n q (.n q (.n q (.n q (.r q (e7.el (en:=bq) q (nJ l7) q) j2 .nil)))))) ?_
    obtain ⟨iK,po,h⟩:=ax h
    refine W.rx [(0,_),(4,_),(5,_),(8,.ptr ⟨0,[0]⟩ (bM.1.toNat * bq.z+0))] (ai (O.aC (.obj q))<|ai (O.e5 (.ptr q))<|ai (O.a_ q (.ptr q) xm q)<|ai (O.cU (y:=.bl bH.z ⟨0,[5]⟩ eu.b0.length) q (.ptr q) y_ q q)<|bp q<|ai (O.gY (en:=bH) q (.bl q) (.lit q) oT po q)<|aq.h_ (G2:=[(0,.obj [ak bq (eu.ar.ba.set bM.1.toNat (⟨e3.Name,e3.Lit,a2.cJ,e3.Level,e3.fy,e3.Tag⟩:b5)),ak a7 eu.ar.bw,ak bE eu.ar.bc,ae eu.ar.bx,ae eu.ar.bA,ak bH (eu.b0.set bM.1.toNat true),ak a7 eu.bX,ak cy eu.bG,j eu.cf,j eu.cg,ae eu.cd,j eu.bW,j eu.bB]),(4,.obj (cx.cells aw)),(5,.obj (dc.cells a2)),(8,.ptr ⟨0,[0]⟩ (bM.1.toNat * bq.z+0))]) q (b9.pI (en:=bH) (y2:=true) (cs':=[a1 true]) (x2:=.obj [ak bq (eu.ar.ba.set bM.1.toNat (⟨e3.Name,e3.Lit,a2.cJ,e3.Level,e3.fy,e3.Tag⟩:b5)),ak a7 eu.ar.bw,ak bE eu.ar.bc,ae eu.ar.bx,ae eu.ar.bA,ak bH (eu.b0.set bM.1.toNat true),ak a7 eu.bX,ak cy eu.bG,j eu.cf,j eu.cg,ae eu.cd,j eu.bW,j eu.bB]) q q (.ptr q) (.k q) q po uH q q q q q q q (.b q (.n q q (.n q q (.e q q (.mk (en:=bq) q (nJ l7) q (nJ l7) q) q .nil)))))<|nS (.n q (.n q (.n q (.r q (e7.el (en:=bq) q (nJ l7) q) j2 .nil))))) ?_
    obtain rfl:=au h
    exact ah.bs (.n q (.n q (.n q (.r q (e7.el (en:=bq) q (nJ l7) q) j2 .nil))))
   ·refine W.bF ?_
    obtain rfl:=au h
    exact ah.bs (.n q (.n q (.n q (.r q (e7.el (en:=bq) q iG q) j2 .nil))))
  obtain ⟨hs,l8,h⟩:=ax h
  refine ah.aU<|W.rs [(0,_),(4,_),(5,_),(8,.ptr ⟨0,[0]⟩ (bM.1.toNat * bq.z+0)),(126,_)] (ai (O.a_ q (.obj q) nz q)<|ai (O.cq q (.ptr q) eI q)<|ai (O.l' (.lit q) (.k q))<|nS (.n q (.n q (.n q (.r q (e7.el (en:=bq) q l8 q) j2 (.n q .nil)))))) ?_
  obtain ⟨oO,aa,h⟩:=ax h
  refine W.bs [(0,.obj (ej.cells oO))] ?_ ?_
  ·clear h; have h:=aa; clear aa
   refine W.bu h q (λkK h=>?_) (λkK h=>?_)
   ·refine W.aX<|W.aX ?_
    obtain ⟨qI,aa,h⟩:=ax h
    refine W.rd [[],[0],[0,1],[0,1,2],[0,1,2,3],aN 0 5 [],aN 0 6 [],aN 0 7 [],aN 0 8 [],aN 0 9 [],aN 0 6 [],aN 0 6 [10],aN 0 12 [],aN 0 13 []] [(0,.obj (ej.cells fX)),(4,.obj (cx.cells aw)),(5,.obj (dc.cells a2)),(8,.ptr ⟨0,[0]⟩ (bM.1.toNat * bq.z+0)),(140,a1 qI)] ei (by kernel_rfl) ?_ ?_
    ·refine av 0 (O.aC (.ptr q))<|av 1 (O.e5 (.ptr q))<|av 2 (O.ko (en:=bq) q (.ptr q) CE l8 q q)<|av 3 (O.jz (en:=bq) (x':=ae hs.Tag) q (.ptr q) eI l8 q q)<|av 4 (O.l' (.lit q) (.k q))<|av 5 (O.aC (.lit q)) ?_
     rcases cB aa with ⟨jN,aa⟩ | ⟨jN,aa⟩
     ·obtain rfl:=au aa
      exact b8 6 jN (O.aC (.ptr q))<|b8 7 jN (O.e5 (.ptr q))<|b8 8 jN (O.ko (en:=bq) q (.ptr q) CE l8 q q)<|b8 9 jN (O.jz (en:=bq) (x':=ae hs.Tag) q (.ptr q) eI l8 q q)<|b8 10 jN (O.a_ q (.obj q) nz q)<|b8 11 jN (O.cq q (.ptr q) eI q)<|b8 12 jN (O.l' (.lit q) (.lit q))<|av 13 (O.eB (.lit q) jN (.lit q))<|bC.fin q q q (.n q (.n q (.n q (.r q (e7.el (en:=bq) q l8 q) j2 (.n q .nil)))))
     ·obtain rfl:=au aa
      exact bS 6 jN<|bS 7 jN<|bS 8 jN<|bS 9 jN<|bS 10 jN<|bS 11 jN<|bS 12 jN<|av 13 (O.dL (.lit q) jN (.k q))<|bC.fin q q q (.n q (.n q (.n q (.r q (e7.el (en:=bq) q l8 q) j2 (.n q .nil)))))
    refine ah.aU ?_
    obtain ⟨gF,aa,h⟩:=ax h
    refine W.bs [(0,.obj (ej.cells gF)),(4,.obj (cx.cells aw)),(8,.ptr ⟨0,[0]⟩ (bM.1.toNat * bq.z+0))] ?_ ?_
    ·clear h; have h:=aa; clear aa
     refine W.bu h q (λrQ h=>?_) (λrQ h=>?_)
     ·obtain ⟨dm,xO,h⟩:=ax h
      refine W.rx [(0,_),(4,_),(8,.ptr ⟨0,[0]⟩ (bM.1.toNat * bq.z+0))] (ai (O.aC (.obj q))<|ai (O.a_ q (.obj q) qO q)<|ai (O.cq q (.ptr q) ct q)<|ai (O.a_ q (.obj q) kq q)<|ai (O.cq q (.ptr q) eI q)<|aq.h_ (G2:=[(8,.ptr ⟨0,[0]⟩ (bM.1.toNat * bq.z+0))]++[(146,.cG []),(0,.obj [ak bq fX.ar.ba,ak a7 dm.ar.bw,ak bE dm.ar.bc,ae dm.ar.bx,ae dm.ar.bA,ak bH dm.b0,ak a7 dm.bX,ak cy dm.bG,j dm.cf,j dm.cg,ae dm.cd,j dm.bW,j dm.bB]),(4,.obj (cx.cells aw))]) q (b9.fJ (r:=0) (k0:=0) (y:=ak bq fX.ar.ba) (cs5:=[ak bq fX.ar.ba,ak a7 dm.ar.bw,ak bE dm.ar.bc,ae dm.ar.bx,ae dm.ar.bA,ak bH dm.b0,ak a7 dm.bX,ak cy dm.bG,j dm.cf,j dm.cg,ae dm.cd,j dm.bW,j dm.bB]) (G1:=λv=>[(0,.obj [.lit v,ak a7 fX.ar.bw,ak bE fX.ar.bc,ae fX.ar.bx,ae fX.ar.bA,ak bH fX.b0,ak a7 fX.bX,ak cy fX.bG,j fX.cf,j fX.cg,ae fX.cd,j fX.bW,j fX.bB]),(4,.obj (cx.cells aw)),(141,.ptr ⟨0,[]⟩ 0),(143,j a2.At),(145,ae a2.Name)]) (G4:=λv=>[(146,.cG []),(0,.obj [.lit v,ak a7 dm.ar.bw,ak bE dm.ar.bc,ae dm.ar.bx,ae dm.ar.bA,ak bH dm.b0,ak a7 dm.bX,ak cy dm.bG,j dm.cf,j dm.cg,ae dm.cd,j dm.bW,j dm.bB]),(4,.obj (cx.cells aw))]) (c4:=λv=>[.lit v,ak a7 dm.ar.bw,ak bE dm.ar.bc,ae dm.ar.bx,ae dm.ar.bA,ak bH dm.b0,ak a7 dm.bX,ak cy dm.bG,j dm.cf,j dm.cg,ae dm.cd,j dm.bW,j dm.bB]) (G5:=[(146,.cG []),(0,.obj [ak bq fX.ar.ba,ak a7 dm.ar.bw,ak bE dm.ar.bc,ae dm.ar.bx,ae dm.ar.bA,ak bH dm.b0,ak a7 dm.bX,ak cy dm.bG,j dm.cf,j dm.cg,ae dm.cd,j dm.bW,j dm.bB]),(4,.obj (cx.cells aw))]) (A:=[(8,.ptr ⟨0,[0]⟩ (bM.1.toNat * bq.z+0))]) q q q q (λv=>(.b q (.n q q (.p q q q q q q (.n q q (.n q q .nil)))))) (λv=>h2.nM (G2:=[(4,.obj (cx.cells aw))]) (A:=[]) (ys:=[.ptr ⟨0,[]⟩ 0,j a2.At,ae a2.Name]) (args:=[.obj [.lit v,ak a7 fX.ar.bw,ak bE fX.ar.bc,ae fX.ar.bx,ae fX.ar.bA,ak bH fX.b0,ak a7 fX.bX,ak cy fX.bG,j fX.cf,j fX.cg,ae fX.cd,j fX.bW,j fX.bB],j a2.At,ae a2.Name]) (cs':=[.lit v,ak a7 dm.ar.bw,ak bE dm.ar.bc,ae dm.ar.bx,ae dm.ar.bA,ak bH dm.b0,ak a7 dm.bX,ak cy dm.bG,j dm.cf,j dm.cg,ae dm.cd,j dm.bW,j dm.bB]) (k0:=0) q q q q (.b q (.n q (.n q .nil))) q (EN v fX a2.At a2.Name _ xO) call94 (.n q .nil) q q (.n q .nil) .nil q) (λv=>q) (λv=>q) (λv=>q) (λv=>(.n q q (.b q (.n q q .nil)))) q (.c (en:=bq) (L:=fX.ar.ba) q q l8 q q q .nil))<|nS (.n q (.n q (.r q (e7.el (en:=bq) q l8 q) j2 .nil)))) ?_
      obtain rfl:=au h
      exact ah.bs (.n q (.n q (.r q (e7.el (en:=bq) q l8 q) j2 .nil)))
     ·refine W.bF ?_
      obtain rfl:=au h
      exact ah.bs (.n q (.n q (.r q (e7.el (en:=bq) q l8 q) j2 .nil)))
    obtain ⟨iT,ui,h⟩:=ax h
    refine ah.aU<|W.bk [0] (ai (O.aC (.ptr q))<|ai (O.a_ q (.obj q) nz q)<|ai (O.cq q (.ptr q) eI q)<|ai (O.e5 (.ptr q))<|ai (O.ko (en:=bq) q (.ptr q) CE ui q q)<|aq.h_ (G2:=[(0,.obj [ak bq (gF.ar.ba.set bM.1.toNat (⟨iT.Name,iT.Lit,iT.cJ,iT.Level,iT.fy,aw.Tag⟩:b5)),ak a7 gF.ar.bw,ak bE gF.ar.bc,ae gF.ar.bx,ae gF.ar.bA,ak bH gF.b0,ak a7 gF.bX,ak cy gF.bG,j gF.cf,j gF.cg,ae gF.cd,j gF.bW,j gF.bB])]) q (b9.pI (en:=bq) (y2:=(⟨iT.Name,iT.Lit,iT.cJ,iT.Level,iT.fy,aw.Tag⟩:b5)) (cs':=[ae aw.Tag]) (x2:=.obj [ak bq (gF.ar.ba.set bM.1.toNat (⟨iT.Name,iT.Lit,iT.cJ,iT.Level,iT.fy,aw.Tag⟩:b5)),ak a7 gF.ar.bw,ak bE gF.ar.bc,ae gF.ar.bx,ae gF.ar.bA,ak bH gF.b0,ak a7 gF.bX,ak cy gF.bG,j gF.cf,j gF.cg,ae gF.cd,j gF.bW,j gF.bB]) q q (.ptr q) (.lit q) q ui wA q q q q q q q (.b q .nil))<|bK q) ?_
    obtain rfl:=au h
    exact ah.bs (.n q .nil)
   ·refine W.bF ?_
    obtain rfl:=au h
    exact ah.bs (.n q .nil)
  obtain rfl:=au h
  exact ah.fin (Fin.ro .nil q (pz (by kernel_rfl)) (.aB q q (.no (.no .nil))) q (.inl q))
theorem xh (a0:cT) (aw:ByteArray) (r:Int) (h:r0 a0 aw=some r):b_ Try.prog 96 [.bo ([ag bq a0.ar.ba,ag a7 a0.ar.bw,ag bE a0.ar.bc,ae a0.ar.bx,ae a0.ar.bA,ag bH a0.b0,ag a7 a0.bX,ag cy a0.bG,j a0.cf,j a0.cg,ae a0.cd,j a0.bW,j a0.bB]),ae aw] [none,none] (j r):=by
 unfold r0 at h
 refine b_.go (N:=⟨25,[]⟩) Try.func96 q q q q (W.fin ?_)
 refine W.st [(0,.bo ([ag bq a0.ar.ba,ag a7 a0.ar.bw,ag bE a0.ar.bc,ae a0.ar.bx,ae a0.ar.bA,ag bH a0.b0,ag a7 a0.bX,ag cy a0.bG,j a0.cf,j a0.cg,ae a0.cd,j a0.bW,j a0.bB])),(1,ae aw)] ?_
 refine W.aT [0,1] ?_
 refine W.aX<|W.aT [0,1,5] ?_
 refine W.bf ?_
 obtain ⟨x2,ao,h⟩:=ax h
 refine W.ca (G1:=[(0,_),(1,_),(5,_)]) (dt q q q) ?_
 refine W.jZ (s:=0) (λ(s1:Int)=>[(0,.bo ([ag bq a0.ar.ba,ag a7 a0.ar.bw,ag bE a0.ar.bc,ae a0.ar.bx,ae a0.ar.bA,ag bH a0.b0,ag a7 a0.bX,ag cy a0.bG,j a0.cf,j a0.cg,ae a0.cd,j a0.bW,j a0.bB])),(1,ae aw),(5,j s1)]) 0 (λ(a8:Unit)=>[]) (λ(b4:Int)=>[(4,j b4)]) ao (λs1 o h=>?_) (λa8 J=>?_) (λb4 J=>?_)
 ·clear ao
  refine W.aX<|W.aT [0,1,5,12] ?_
  refine W.bu h q (λdH h=>?_) (λdH h=>?_)
  ·refine W.bF<|ah.aU ?_
   refine W.aX<|W.bf ?_
   obtain ⟨bP,ga,h⟩:=ax h
   refine W.aT [0,1,5,23] ?_
   refine W.bu h q (λdn h=>?_) (λdn h=>?_)
   ·refine W.aT [4] ?_
    refine W.rt ?_
    refine ah.d_ ?_
    refine ah.c5 ?_
    obtain rfl:=au h
    exact ah.gx (.n q .nil)
   ·refine W.bF<|ah.bf ?_
    refine ah.aU<|W.bk [0,1,5] (bp q<|ai (O.add (.lit q) (.k q))<|aq.bk [0,1,14] q<|aq.aV) ?_
    obtain rfl:=au h
    exact ah.go (dt q q q)
  ·refine W.c9 ?_
   refine ah.c7 ?_
   obtain rfl:=au h
   exact ah.x2 .nil
 ·subst J
  refine ah.c' ?_
  refine ah.aU<|W.aT [4] ?_
  refine W.rt ?_
  obtain rfl:=au h
  exact cw (.f q q .nil)
 ·subst J
  refine ah.d_ ?_
  refine ah.c5 ?_
  obtain rfl:=au h
  exact cw (.f q q .nil)
theorem Jr (a0:cT) (aw:Sym) (r:Int × cT) (h:uv a0 aw=some r):b_ Try.prog 115 [.obj (ej.cells a0),.agg (dc.cells aw)] [some (.obj [ak bq r.2.ar.ba,ak a7 r.2.ar.bw,ak bE r.2.ar.bc,ae r.2.ar.bx,ae r.2.ar.bA,ak bH r.2.b0,ak a7 r.2.bX,ak cy r.2.bG,j r.2.cf,j r.2.cg,ae r.2.cd,j r.2.bW,j r.2.bB]),none] (j r.1):=by
 unfold uv at h
 refine b_.go (N:=⟨32,[0]⟩) Try.func115 q q q q (W.fin ?_)
 refine W.st [(0,.obj (ej.cells a0)),(1,.agg (dc.cells aw))] ?_
 refine W.bV [0,3] (ai (O.box (.b2 q q) q)<|aq.aV) ?_
 refine W.aX<|W.aT [0,3,8] ?_
 refine W.bu h q (λdb h=>?_) (λdb h=>?_)
 ·obtain ⟨x2,ho,h⟩:=ax h
  refine W.bV [0,4] (ai (O.aC (.obj q))<|ai (O.dR (cs':=[ae aw.Name,a1 aw.Lit,j aw.cJ,j aw.At]) q (.obj q) kD q q)<|aq.h_ q (b9.call q q (h2.nM (G2:=[]) (A:=[]) (ys:=[.ptr ⟨0,[]⟩ 0,.agg (dc.cells aw)]) (args:=[.obj (ej.cells a0),.agg (dc.cells aw)]) (cs':=[ak bq x2.2.ar.ba,ak a7 x2.2.ar.bw,ak bE x2.2.ar.bc,ae x2.2.ar.bx,ae x2.2.ar.bA,ak bH x2.2.b0,ak a7 x2.2.bX,ak cy x2.2.bG,j x2.2.cf,j x2.2.cg,ae x2.2.cd,j x2.2.bW,j x2.2.bB]) (k0:=0) q q q q (.b q (.n q .nil)) q (Jp a0 aw _ ho) call113 .nil q q .nil .nil q))<|aq.aV) ?_
  refine W.rt ?_
  refine ah.c5 ?_
  obtain rfl:=au h
  exact ah.fin (Fin.ro (.f q q .nil) q (pz (by kernel_rfl)) (.aB q q (.no .nil)) q (.inr q))
 ·refine W.bF<|ah.aU ?_
  refine W.aX ?_
  obtain ⟨a8,hJ,h⟩:=ax h
  refine W.bV [0,3,5] (ai (O.aC (.obj q))<|ai (O.a_ q (.obj q) kq q)<|ai (O.cq q (.ptr q) eI q)<|eE (cr.vw (ys:=[.ptr ⟨0,[]⟩ 0,ae aw.Name]) q (.c (View.oS q q) (.s .nil)) (xh a0 aw.Name _ hJ) call96 q)<|aq.aV) ?_
  refine W.aT [0,3,5,17] ?_
  refine W.bu h q (λc0 h=>?_) (λc0 h=>?_)
  ·refine W.aT [0,4] ?_
   refine W.rt ?_
   refine ah.c5 ?_
   obtain rfl:=au h
   exact ah.fin (Fin.ro (.f q q .nil) q (pz (by kernel_rfl)) (.aB q q (.no .nil)) q (.inr q))
  ·refine W.bF<|ah.aU ?_
   obtain ⟨cn,kM,h⟩:=ax h
   refine W.bV [0,3,6] (ai (O.aC (.obj q))<|ai (O.dR (cs':=[ae aw.Name,a1 aw.Lit,j aw.cJ,j aw.At]) q (.obj q) kD q q)<|eE (cr.vw (ys:=[.ptr ⟨0,[]⟩ 0,.agg (dc.cells aw)]) q (.c (View.oS q q) (.c (.yW (.s (.s (.s (.s .nil))))) .nil)) (EM a0 aw _ kM) call95 q)<|aq.aV) ?_
   refine W.aX<|W.aT [0,3,6,24] ?_
   refine W.bu h q (λee h=>?_) (λee h=>?_)
   ·obtain ⟨bz,gw,h⟩:=ax h
    refine W.bV [0] (ai (O.aC (.obj q))<|ai (O.a_ q (.obj q) qO q)<|ai (O.cq q (.ptr q) ct q)<|ai (O.a_ q (.obj q) kq q)<|ai (O.cq q (.ptr q) eI q)<|aq.h_ q (b9.call q q (h2.nM (G2:=[]) (A:=[]) (ys:=[.ptr ⟨0,[]⟩ 0,j aw.At,ae aw.Name]) (args:=[.obj (ej.cells a0),j aw.At,ae aw.Name]) (cs':=[ak bq bz.ar.ba,ak a7 bz.ar.bw,ak bE bz.ar.bc,ae bz.ar.bx,ae bz.ar.bA,ak bH bz.b0,ak a7 bz.bX,ak cy bz.bG,j bz.cf,j bz.cg,ae bz.cd,j bz.bW,j bz.bB]) (k0:=0) q q q q (.b q (.n q (.n q .nil))) q (u4 a0 aw.At aw.Name _ gw) call94 .nil q q .nil .nil q))<|bK q) ?_
    refine W.aT [0,4] ?_
    refine W.rt ?_
    refine ah.c5 ?_
    obtain rfl:=au h
    exact ah.fin (Fin.ro (.f q q .nil) q (pz (by kernel_rfl)) (.aB q q (.no .nil)) q (.inr q))
   ·refine W.bF<|ah.aU ?_
    refine W.aT [0,4] ?_
    refine W.rt ?_
    obtain rfl:=au h
    exact ah.fin (Fin.ro (.f q q .nil) q (pz (by kernel_rfl)) (.aB q q (.no .nil)) q (.inr q))
theorem Pw (a0:cT) (aw:ByteArray) (a2:Alt) (r:cT) (h:Bn a0 aw a2=some r):b_ Try.prog 97 [.obj (ej.cells a0),ae aw,.agg (dN.cells a2)] [some (.obj [ak bq r.ar.ba,ak a7 r.ar.bw,ak bE r.ar.bc,ae r.ar.bx,ae r.ar.bA,ak bH r.b0,ak a7 r.bX,ak cy r.bG,j r.cf,j r.cg,ae r.cd,j r.bW,j r.bB]),none,none] (.cG []):=by
 unfold Bn at h
 refine b_.go (N:=⟨173,[0]⟩) Try.func97 q q q q (W.fin ?_)
 refine W.st [(0,.obj (ej.cells a0)),(1,ae aw),(2,.agg (dN.cells a2))] ?_
 refine W.bV [0,1,5] (ai (O.box (.b2 q q) q)<|bK q) ?_
 refine W.aX ?_
 obtain ⟨aD,fF,h⟩:=ax h
 refine W.rd [[],[],[0,1],[0,1,2],[],[4],aN 0 6 [],[],aN 0 8 []] [(0,_),(5,_),(6,_)] ei (by kernel_rfl) (av 0 (O.aC (.obj q))<|av 1 (O.aC (.lit q))<|gR 2 (cr.vw (ys:=[.ptr ⟨0,[]⟩ 0,ae aw]) q (.c (View.oS q q) (.s .nil)) (xh a0 aw _ fF) call96 q)<|av 3 (O.add (.k q) (.lit q))<|av 4 (O.a_ q (.obj q) E2 q)<|av 5 (O.cq q (.ptr q) ct q)<|av 6 (O.dE (cs:=[j (aO (1+aD)),.aI,j (-1),ae aA,.aI,j a2.At]) HH BM q q q)<|av 7 (O.fq (cs:=[j 0,.aI,j 0,ae aA,.aI,j 0]) BM q q)<|bC.dx 8 (G2:=[(0,.obj (ej.cells a0)),(5,.obj (dN.cells a2)),(6,.obj [j (aO (1+aD)),.aI,j (-1),ae aA,.aI,j a2.At])]) (cs2:=[j (aO (1+aD)),.aI,j (-1),ae aA,.aI,j a2.At]) q (by kernel_rfl) (by kernel_rfl) q q q (.obj q) (.b2 q q) q MM q q q q (.n q q (.n q q (.b q .nil)))<|bC.fin q q q (dt q q q)) ?_
 refine ah.aU<|W.aX ?_
 refine W.aT [0,5,6,7] ?_
 refine W.bf ?_
 obtain ⟨a8,ao,h⟩:=ax h
 refine W.ca (G1:=[(0,_),(5,_),(6,.obj [j (aO (1+aD)),ak aG ([]:List Int),j (-1),ae aA,.aI,j a2.At]),(7,_)]) (.n q (.n q (.w q q (jg.obj (.f (.o (.f (.f (.f (.f .nil))))))) (.n q .nil)))) ?_
 refine W.eg (s:=(a0,([]:List Int),aA,a2.At,0)) (λ(s2:cT × List Int × ByteArray × Int × Int)=>[(0,.obj (ej.cells s2.1)),(5,.obj (dN.cells a2)),(6,.obj [j (aO (1+aD)),ak aG s2.2.1,j (-1),ae s2.2.2.1,.aI,j s2.2.2.2.1]),(7,j s2.2.2.2.2)]) 0 (λ(a8:cT × List Int × ByteArray × Int)=>[(0,.obj (ej.cells a8.1)),(5,.obj (dN.cells a2)),(6,.obj [j (aO (1+aD)),ak aG a8.2.1,j (-1),ae a8.2.2.1,.aI,j a8.2.2.2])]) ao (λs2 o h=>?_) ?_
 ·clear ao
  refine W.aX<|W.aT [0,5,6,7,21] ?_
  refine W.bu h q (λdH h=>?_) (λdH h=>?_)
  ·refine W.bF<|ah.aU ?_
   refine W.aX ?_
   obtain ⟨kN,aa,h⟩:=ax h
   refine W.bs [(0,.obj (ej.cells kN.1)),(5,.obj (dN.cells a2)),(6,.obj [j (aO (1+aD)),ak aG kN.2.1,j (-1),ae kN.2.2.1,.aI,j kN.2.2.2]),(7,j s2.2.2.2.2)] ?_ ?_
   ·clear h; have h:=aa; clear aa
    refine W.bf ?_
    obtain ⟨bz,gw,h⟩:=ax h
    refine W.bV [0,5,6,7,8] (ai (O.a_ q (.obj q) pd q)<|ai (O.cU (y:=ag ed a2.h9) q (.ptr q) sx q q)<|bp q<|ai (O.cC (.aF q) (.lit q) qu gw)<|ai (O.iq (cs':=[ae bz.Sym.Name,a1 bz.Sym.Lit,j bz.Sym.cJ,j bz.Sym.At,ae bz.Code,j bz.At]) (.bo q) uT q q)<|ai (O.fq (cs:=[ae aA,a1 false,j 0,j 0,ae aA,j 0]) oZ q q)<|aq.dx (G2:=[(0,_),(5,_),(6,_),(7,_),(8,_)]) (cs2:=[ae bz.Sym.Name,a1 bz.Sym.Lit,j bz.Sym.cJ,j bz.Sym.At,ae bz.Code,j bz.At]) q (.obj q) (.b2 q q) q yz q q q q (.n q q (.n q q (.n q q (.n q q (.b q .nil)))))<|bK q) ?_
    obtain ⟨fk,aa,h⟩:=ax h
    refine W.bs [(0,.obj (ej.cells fk.1)),(5,.obj (dN.cells a2)),(6,.obj [j (aO (1+aD)),ak aG fk.2.1,j (-1),ae fk.2.2.1,.aI,j fk.2.2.2]),(7,j s2.2.2.2.2)] ?_ ?_
    ·clear h; have h:=aa; clear aa
     refine W.bf<|W.aT [0,5,6,7,8,82] ?_
     obtain ⟨pt,aa,h⟩:=ax h
     refine W.bs [(0,.obj (ej.cells pt.1)),(5,.obj (dN.cells a2)),(6,.obj [j (aO (1+aD)),ak aG pt.2.1,j (-1),ae pt.2.2.1,.aI,j pt.2.2.2]),(7,j s2.2.2.2.2)] ?_ ?_
     ·clear h; have h:=aa; clear aa
      refine W.bu h q (λeJ h=>?_) (λeJ h=>?_)
      ·obtain ⟨bD,gQ,h⟩:=ax h
       obtain ⟨dh,kL,h⟩:=ax h
       refine W.rd [[],[0],[],[],[3],[2,3,4],[2,3,4,5],aN 0 7 [],aN 0 8 [],aN 0 9 []] [(0,_),(5,_),(6,_),(7,_)] ei (by kernel_rfl) (av 0 (O.a_ q (.obj q) mZ q)<|av 1 (O.cU (y:=.bl aG.z ⟨6,[1]⟩ s2.2.1.length) q (.ptr q) hC q q)<|av 2 (O.aC (.obj q))<|av 3 (O.a_ q (.obj q) xq q)<|av 4 (O.dR (cs':=[ae bz.Sym.Name,a1 bz.Sym.Lit,j bz.Sym.cJ,j bz.Sym.At]) q (.ptr q) kD q q)<|bC.dE 5 (G2:=(6,.obj [j (aO (1+aD)),ak aG s2.2.1,j (-1),ae s2.2.2.1,.aI,j s2.2.2.2.1])::[(91,j bD.1),(0,.obj [ak bq bD.2.ar.ba,ak a7 bD.2.ar.bw,ak bE bD.2.ar.bc,ae bD.2.ar.bx,ae bD.2.ar.bA,ak bH bD.2.b0,ak a7 bD.2.bX,ak cy bD.2.bG,j bD.2.cf,j bD.2.cg,ae bD.2.cd,j bD.2.bW,j bD.2.bB]),(5,.obj (dN.cells a2)),(7,j s2.2.2.2.2)]) (U:=[(1,87,some (.bl aG.z ⟨6,[1]⟩ s2.2.1.length)),(0,86,some (.ptr ⟨6,[]⟩ 1))]) (o1.box (r:=6) (G1:=[(0,.obj (ej.cells s2.1)),(5,.obj (dN.cells a2)),(7,j s2.2.2.2.2),(88,.ptr ⟨0,[]⟩ 0),(90,.agg (dc.cells bz.Sym))]) (G2:=[(91,j bD.1),(0,.obj [ak bq bD.2.ar.ba,ak a7 bD.2.ar.bw,ak bE bD.2.ar.bc,ae bD.2.ar.bx,ae bD.2.ar.bA,ak bH bD.2.b0,ak a7 bD.2.bX,ak cy bD.2.bG,j bD.2.cf,j bD.2.cg,ae bD.2.cd,j bD.2.bW,j bD.2.bB]),(5,.obj (dN.cells a2)),(7,j s2.2.2.2.2)]) (b9.call q q (h2.nM (G2:=[(5,.obj (dN.cells a2)),(7,j s2.2.2.2.2)]) (A:=[]) (ys:=[.ptr ⟨0,[]⟩ 0,.agg (dc.cells bz.Sym)]) (args:=[.obj (ej.cells s2.1),.agg (dc.cells bz.Sym)]) (cs':=[ak bq bD.2.ar.ba,ak a7 bD.2.ar.bw,ak bE bD.2.ar.bc,ae bD.2.ar.bx,ae bD.2.ar.bA,ak bH bD.2.b0,ak a7 bD.2.bX,ak cy bD.2.bG,j bD.2.cf,j bD.2.cg,ae bD.2.cd,j bD.2.bW,j bD.2.bB]) (k0:=0) q q q q (.b q (.n q .nil)) q (Jr s2.1 bz.Sym _ gQ) call115 (fC q q) q q (fC q q) .nil q)) q (.n q (.n q (.n q (.q q q q (.n q .nil))))) q q q) q q (by kernel_rfl) q q q (.c (.inl ⟨6,[1],_,_,_,_,q,by simp [rj],q,q,Nat.le_refl _⟩) q q q q q (gz.wanted .none) (O.cU (y:=.bl aG.z ⟨6,[1]⟩ s2.2.1.length) q (.ptr q) hC q q) (.c (.inr (.inr (.inr (.inl ⟨6,_,_,q,q,jA q,by simp,_,q,jA q⟩)))) q q q q q (gz.wanted .none) (O.a_ q (.obj q) mZ q) .nil)) (by kernel_rfl)<|bC.eY 6 (x:=ag aG [bD.1]) (O.dg (ys:=[j bD.1]) aG [bD.1] eS q q q q q q nR q q) q q q q .none<|av 7 (O.ap (en:=aG) (r:=dh) (.bl q) q (.aF q) .i nx q kL)<|av 8 (O.a_ q (.obj q) mZ q)<|bC.iZ 9 (G2:=[(0,.obj (ej.cells bD.2)),(5,.obj (dN.cells a2)),(6,.obj [j (aO (1+aD)),ak aG (s2.2.1++[bD.1]),j (-1),ae s2.2.2.1,.aI,j s2.2.2.2.1]),(7,j s2.2.2.2.2)]) (b9.kt (g1:=_) (en:=aG) (M:=[bD.1]) (cs2:=[j (aO (1+aD)),ak aG (s2.2.1++[bD.1]),j (-1),ae s2.2.2.1,.aI,j s2.2.2.2.1]) q q (.ptr q) (.bR q) q q q .iH .gk q q wy q q q q (.n q q (.n q q (.b q (.n q q .nil))))) q q q q (by kernel_rfl) (by kernel_rfl)<|bC.fin q q q (dM q q q q)) ?_
       obtain rfl:=au h
       exact ah.bs (dM q q q q)
      ·refine W.aT [0,5,6,7,8,95] ?_
       obtain ⟨jQ,aa,h⟩:=ax h
       refine W.bs [(0,.obj [ak bq s2.1.ar.ba,ak a7 s2.1.ar.bw,ak bE jQ.1,ae s2.1.ar.bx,ae s2.1.ar.bA,ak bH s2.1.b0,ak a7 s2.1.bX,ak cy s2.1.bG,j s2.1.cf,j s2.1.cg,ae s2.1.cd,j s2.1.bW,j jQ.2.1]),(5,.obj (dN.cells a2)),(6,.obj [j (aO (1+aD)),ak aG jQ.2.2.1,j (-1),ae jQ.2.2.2.1,.aI,j jQ.2.2.2.2]),(7,j s2.2.2.2.2)] ?_ ?_
       ·clear h; have h:=aa; clear aa
        refine W.bu h q (λeD h=>?_) (λeD h=>?_)
        ·refine W.rd [[],[0],[],[2],[0,1],[0,1,4],aN 0 6 [],aN 0 7 []] [(0,_),(5,_),(6,_),(7,_)] ei (by kernel_rfl) (av 0 (O.a_ q (.obj q) qP q)<|av 1 (O.cq q (.ptr q) eI q)<|av 2 (O.a_ q (.obj q) zw q)<|av 3 (O.cq q (.ptr q) ct q)<|av 4 (O.a_ q (.obj q) JY q)<|bC.dE 5 (G2:=[(0,.obj (ej.cells s2.1)),(5,.obj (dN.cells a2)),(6,.obj [j (aO (1+aD)),ak aG s2.2.1,j (-1),ae bz.Code,.aI,j s2.2.2.2.1]),(7,j s2.2.2.2.2),(8,.obj (ed.cells bz))]) (U:=[(3,105,some (j bz.At)),(2,104,some (.ptr ⟨8,[]⟩ 5))]) (kV.v (b9.mY (b9.dx (G2:=[(0,.obj (ej.cells s2.1)),(5,.obj (dN.cells a2)),(6,.obj [j (aO (1+aD)),ak aG s2.2.1,j (-1),ae bz.Code,.aI,j s2.2.2.2.1]),(7,j s2.2.2.2.2),(8,.obj (ed.cells bz))]) (cs2:=[j (aO (1+aD)),ak aG s2.2.1,j (-1),ae bz.Code,.aI,j s2.2.2.2.1]) q q q (.ptr q) (.lit q) q wA q q q q (.n q q (.n q q (.b q (.n q q (.n q q .nil)))))))) q q (by kernel_rfl) q q q (.c (.inr (.inl ⟨_,q⟩)) q q q q q (gz.wanted .none) (O.cq q (.ptr q) ct q) (.c (.inr (.inr (.inr (.inl ⟨8,_,_,q,q,jA q,by simp,_,q,jA q⟩)))) q q q q q (gz.wanted .none) (O.a_ q (.obj q) zw q) .nil)) (by kernel_rfl)<|av 6 (O.a_ q (.obj q) J0 q)<|bC.dx 7 (G2:=[(0,.obj (ej.cells s2.1)),(5,.obj (dN.cells a2)),(6,.obj [j (aO (1+aD)),ak aG s2.2.1,j (-1),ae bz.Code,.aI,j bz.At]),(7,j s2.2.2.2.2)]) (cs2:=[j (aO (1+aD)),ak aG s2.2.1,j (-1),ae bz.Code,.aI,j bz.At]) q (by kernel_rfl) (by kernel_rfl) q q q (.ptr q) (.lit q) q nP q q q q (.n q q (.n q q (.b q (.n q q .nil))))<|bC.fin q q q (dM q q q q)) ?_
         obtain rfl:=au h
         exact ah.bs (dM q q q q)
        ·refine W.bV [0,5,6,7,8] (ai (O.aC (.obj q))<|ai (O.e5 (.ptr q))<|ai (O.a_ q (.ptr q) zq q)<|ai (O.cq q (.ptr q) ct q)<|ai (O.add (.lit q) (.k q))<|ai (O.e5 (.ptr q))<|ai (O.a_ q (.ptr q) zq q)<|aq.dx (G2:=[(0,_),(5,_),(6,_),(7,_),(8,_)]) (cs2:=[ak bq s2.1.ar.ba,ak a7 s2.1.ar.bw,ak bE s2.1.ar.bc,ae s2.1.ar.bx,ae s2.1.ar.bA,ak bH s2.1.b0,ak a7 s2.1.bX,ak cy s2.1.bG,j s2.1.cf,j s2.1.cg,ae s2.1.cd,j s2.1.bW,j (aO (s2.1.bB+1))]) q (.ptr q) (.lit q) q nP q q q q (.b q (.n q q (.n q q (.n q q (.n q q .nil)))))<|bK q) ?_
         refine W.aX ?_
         obtain ⟨cH,hI,h⟩:=ax h
         obtain ⟨cj,jY,h⟩:=ax h
         refine W.rd [[],[],[1],[1,2],[1,2,3],[1,2,3,4],[],[6],[6,7],[6,7,8],[6,7,8,9],[],[11],[11,12],[11,12,13],aN 6 9 [],[],[16],[],[],[19],[18,19,20],[],[22],aN 6 18 [],aN 6 19 [],aN 1 25 [],aN 0 27 [],aN 0 28 [],aN 0 29 [],aN 0 30 []] [(0,_),(5,_),(6,_),(7,_)] ei (by kernel_rfl) (av 0 (O.aC (.obj q))<|av 1 (O.aC (.obj q))<|av 2 (O.e5 (.ptr q))<|av 3 (O.a_ q (.ptr q) kp q)<|av 4 (O.a_ q (.ptr q) lI q)<|av 5 (O.cU (y:=.bl bE.z ⟨0,[2]⟩ s2.1.ar.bc.length) q (.ptr q) mX q q)<|av 6 (O.aC (.obj q))<|av 7 (O.e5 (.ptr q))<|av 8 (O.a_ q (.ptr q) xn q)<|av 9 (O.cU (y:=.bl cy.z ⟨0,[7]⟩ s2.1.bG.length) q (.ptr q) zb q q)<|av 10 (O.px (.bl q) Bu)<|av 11 (O.aC (.obj q))<|av 12 (O.e5 (.ptr q))<|av 13 (O.a_ q (.ptr q) zq q)<|av 14 (O.cq q (.ptr q) ct q)<|av 15 (O.add (.lit q) (.lit q))<|av 16 (O.a_ q (.obj q) qP q)<|av 17 (O.cq q (.ptr q) eI q)<|av 18 (O.dg (ys:=[]) aG ([]:List Int) eS q q q q q q nR q q)<|av 19 (O.a_ q (.obj q) mZ q)<|av 20 (O.cU (y:=.bl aG.z ⟨6,[1]⟩ s2.2.1.length) q (.ptr q) hC q q)<|av 21 (O.ap (en:=aG) (r:=cH) (.own q) q (.bl q) (.flat aG q) nx q hI)<|av 22 (O.a_ q (.obj q) zw q)<|av 23 (O.cq q (.ptr q) ct q)<|av 24 (O.dE (cs:=[j (aO ((s2.1.bG.length:Int)+(aO (s2.1.bB+1)))),.aI,j (-1),ae bz.Code,.bl aG.z ⟨57,[]⟩ (([]:List Int).length+s2.2.1.length),j bz.At]) HH BM q q q)<|av 25 (O.uX (ys:=[.agg [j (aO ((s2.1.bG.length:Int)+(aO (s2.1.bB+1)))),.aI,j (-1),ae bz.Code,.bl aG.z ⟨57,[]⟩ (([]:List Int).length+s2.2.1.length),j bz.At]]) (cs:=[j (aO ((s2.1.bG.length:Int)+(aO (s2.1.bB+1)))),.aI,j (-1),ae bz.Code,.bl aG.z ⟨57,[]⟩ (([]:List Int).length+s2.2.1.length),j bz.At]) ns q q q q q Ii q q)<|av 26 (O.N0 (en:=bE) (M:=[(⟨aO ((s2.1.bG.length:Int)+(aO (s2.1.bB+1))),([]:List Int),(-1),bz.Code,([]:List Int)++s2.2.1,bz.At⟩:Prod)]) (r:=cj) (.bl q) q (.own q) q q q q IQ q jY (LS (by kernel_rfl) (by kernel_rfl)))<|av 27 (O.e5 (.ptr q))<|av 28 (O.a_ q (.ptr q) kp q)<|av 29 (O.a_ q (.ptr q) lI q)<|bC.iZ 30 (G2:=[(0,.obj [ak bq s2.1.ar.ba,ak a7 s2.1.ar.bw,ak bE (s2.1.ar.bc++[(⟨aO ((s2.1.bG.length:Int)+(aO (s2.1.bB+1))),([]:List Int),(-1),bz.Code,([]:List Int)++s2.2.1,bz.At⟩:Prod)]),ae s2.1.ar.bx,ae s2.1.ar.bA,ak bH s2.1.b0,ak a7 s2.1.bX,ak cy s2.1.bG,j s2.1.cf,j s2.1.cg,ae s2.1.cd,j s2.1.bW,j (aO (s2.1.bB+1))]),(5,.obj (dN.cells a2)),(6,.obj [j (aO (1+aD)),ak aG s2.2.1,j (-1),ae s2.2.2.1,.aI,j s2.2.2.2.1]),(7,j s2.2.2.2.2)]) (b9.kt (g1:=_) (en:=bE) (M:=[(⟨aO ((s2.1.bG.length:Int)+(aO (s2.1.bB+1))),([]:List Int),(-1),bz.Code,([]:List Int)++s2.2.1,bz.At⟩:Prod)]) (cs2:=[ak bq s2.1.ar.ba,ak a7 s2.1.ar.bw,ak bE (s2.1.ar.bc++[(⟨aO ((s2.1.bG.length:Int)+(aO (s2.1.bB+1))),([]:List Int),(-1),bz.Code,([]:List Int)++s2.2.1,bz.At⟩:Prod)]),ae s2.1.ar.bx,ae s2.1.ar.bA,ak bH s2.1.b0,ak a7 s2.1.bX,ak cy s2.1.bG,j s2.1.cf,j s2.1.cg,ae s2.1.cd,j s2.1.bW,j (aO (s2.1.bB+1))]) q q (.ptr q) (.bR q) q q q (.f (.f (.f (.f (.lR q q q .iH (.f .nil)))))) (.f (.z (.f (.f (.z (hv:=ln.lR q q) (.f .nil)))))) q q HX q q q q (.b q (.n q q (.n q q (.n q q .nil))))) q q q q (by kernel_rfl) (by kernel_rfl)<|bC.fin q q q (dM q q q q)) ?_
         refine ah.aU ?_
         obtain ⟨bZ,gS,h⟩:=ax h
         refine W.rd [[],[0],[],[2],[2,3],[2,3,4],[2,3,4,5],aN 2 5 [],[],[8],[8,9],[8,9,10],aN 2 10 [],aN 2 11 [],aN 0 14 [],aN 0 15 [],aN 0 16 []] [(0,_),(5,_),(6,_),(7,_)] ei (by kernel_rfl) (av 0 (O.a_ q (.obj q) mZ q)<|av 1 (O.cU (y:=.bl aG.z ⟨6,[1]⟩ s2.2.1.length) q (.ptr q) hC q q)<|av 2 (O.aC (.obj q))<|av 3 (O.e5 (.ptr q))<|av 4 (O.a_ q (.ptr q) xn q)<|av 5 (O.cU (y:=.bl cy.z ⟨0,[7]⟩ s2.1.bG.length) q (.ptr q) zb q q)<|av 6 (O.px (.bl q) Bu)<|av 7 (O.add (.k q) (.lit q))<|av 8 (O.aC (.obj q))<|av 9 (O.e5 (.ptr q))<|av 10 (O.a_ q (.ptr q) zq q)<|av 11 (O.cq q (.ptr q) ct q)<|av 12 (O.add (.lit q) (.lit q))<|bC.eY 13 (x:=ag aG [aO ((aO (1000+(s2.1.bG.length:Int)))+(aO (s2.1.bB+1)))]) (O.dg (ys:=[j (aO ((aO (1000+(s2.1.bG.length:Int)))+(aO (s2.1.bB+1))))]) aG [aO ((aO (1000+(s2.1.bG.length:Int)))+(aO (s2.1.bB+1)))] eS q q q q q q nR q q) q q q q .none<|av 14 (O.ap (en:=aG) (r:=bZ) (.bl q) q (.aF q) .i nx q gS)<|av 15 (O.a_ q (.obj q) mZ q)<|bC.iZ 16 (G2:=[(0,.obj [ak bq s2.1.ar.ba,ak a7 s2.1.ar.bw,ak bE (s2.1.ar.bc++[(⟨aO ((s2.1.bG.length:Int)+(aO (s2.1.bB+1))),([]:List Int),(-1),bz.Code,([]:List Int)++s2.2.1,bz.At⟩:Prod)]),ae s2.1.ar.bx,ae s2.1.ar.bA,ak bH s2.1.b0,ak a7 s2.1.bX,ak cy s2.1.bG,j s2.1.cf,j s2.1.cg,ae s2.1.cd,j s2.1.bW,j (aO (s2.1.bB+1))]),(5,.obj (dN.cells a2)),(6,.obj [j (aO (1+aD)),ak aG (s2.2.1++[aO ((aO (1000+(s2.1.bG.length:Int)))+(aO (s2.1.bB+1)))]),j (-1),ae s2.2.2.1,.aI,j s2.2.2.2.1]),(7,j s2.2.2.2.2)]) (b9.kt (g1:=_) (en:=aG) (M:=[aO ((aO (1000+(s2.1.bG.length:Int)))+(aO (s2.1.bB+1)))]) (cs2:=[j (aO (1+aD)),ak aG (s2.2.1++[aO ((aO (1000+(s2.1.bG.length:Int)))+(aO (s2.1.bB+1)))]),j (-1),ae s2.2.2.1,.aI,j s2.2.2.2.1]) q q (.ptr q) (.bR q) q q q .iH .gk q q wy q q q q (.n q q (.n q q (.b q (.n q q .nil))))) q q q q (by kernel_rfl) (by kernel_rfl)<|bC.fin q q q (dM q q q q)) ?_
         obtain rfl:=au h
         exact ah.bs (dM q q q q)
       obtain rfl:=au h
       exact ah.bs (dM q q q q)
     refine ah.bf ?_
     obtain rfl:=au h
     exact ah.bs (dM q q q q)
    refine ah.bf ?_
    obtain rfl:=au h
    exact ah.bs (dM q q q q)
   refine ah.aU<|W.bk [0,5,6,7] (bp q<|ai (O.add (.lit q) (.k q))<|aq.bk [0,5,6,23] q<|aq.aV) ?_
   obtain rfl:=au h
   exact ah.go (dM q q q q)
  ·refine W.c9 ?_
   refine ah.c7 ?_
   obtain rfl:=au h
   exact ah.aD (dt q q q)
 refine ah.c' ?_
 refine ah.aU<|W.aX ?_
 refine W.aT [0,5,6,9] ?_
 refine W.bf ?_
 obtain ⟨fp,ao,h⟩:=ax h
 refine W.ca (G1:=[(0,_),(5,_),(6,_),(9,_)]) (dM q q q q) ?_
 refine W.eg (s:=((-1),0)) (λ(qp:Int × Int)=>[(0,.obj (ej.cells a8.1)),(5,.obj (dN.cells a2)),(6,.obj [j (aO (1+aD)),ak aG a8.2.1,j qp.1,ae a8.2.2.1,.aI,j a8.2.2.2]),(9,j qp.2)]) 3 (λ(fp:Int)=>[(0,.obj (ej.cells a8.1)),(5,.obj (dN.cells a2)),(6,.obj [j (aO (1+aD)),ak aG a8.2.1,j fp,ae a8.2.2.1,.aI,j a8.2.2.2])]) ao (λqp o h=>?_) ?_
 ·clear ao
  refine W.aX<|W.aT [0,5,6,9,112] ?_
  refine W.bu h q (λi_ h=>?_) (λi_ h=>?_)
  ·refine W.bF<|ah.aU ?_
   refine W.aX ?_
   obtain ⟨q9,aa,h⟩:=ax h
   refine W.bs [(0,.obj (ej.cells a8.1)),(5,.obj (dN.cells a2)),(6,.obj [j (aO (1+aD)),ak aG a8.2.1,j q9,ae a8.2.2.1,.aI,j a8.2.2.2]),(9,j qp.2)] ?_ ?_
   ·clear h; have h:=aa; clear aa
    refine W.bf ?_
    obtain ⟨e2,nf,h⟩:=ax h
    refine W.bV [0,5,6,9,120] (ai (O.a_ q (.obj q) mZ q)<|ai (O.cU (y:=.bl aG.z ⟨6,[1]⟩ a8.2.1.length) q (.ptr q) hC q q)<|bp q<|ai (O.gY (en:=aG) q (.bl q) (.lit q) eS nf q)<|ai (O.jz (en:=aG) (x':=j e2) q (.ptr q) ct nf q q)<|aq.aV) ?_
    obtain ⟨vF,aa,h⟩:=ax h
    refine W.bs [(0,.obj (ej.cells a8.1)),(5,.obj (dN.cells a2)),(6,.obj [j (aO (1+aD)),ak aG a8.2.1,j vF,ae a8.2.2.1,.aI,j a8.2.2.2]),(9,j qp.2)] ?_ ?_
    ·clear h; have h:=aa; clear aa
     refine W.bu h q (λvj h=>?_) (λvj h=>?_)
     ·obtain ⟨gh,qa,h⟩:=ax h
      refine W.bk [0,5,6,9] (ai (O.a_ q (.obj q) mZ q)<|ai (O.cU (y:=.bl aG.z ⟨6,[1]⟩ a8.2.1.length) q (.ptr q) hC q q)<|bp q<|ai (O.gY (en:=aG) q (.bl q) (.lit q) eS qa q)<|ai (O.jz (en:=aG) (x':=j gh) q (.ptr q) ct qa q q)<|ai (O.a_ q (.obj q) zk q)<|aq.dx (G2:=[(0,_),(5,_),(6,_),(9,_)]) (cs2:=[j (aO (1+aD)),ak aG a8.2.1,j gh,ae a8.2.2.1,.aI,j a8.2.2.2]) q (.ptr q) (.lit q) q nP q q q q (.n q q (.n q q (.b q (.n q q .nil))))<|bK q) ?_
      obtain rfl:=au h
      exact ah.bs (dM q q q q)
     ·refine W.bF ?_
      obtain rfl:=au h
      exact ah.bs (dM q q q q)
    refine ah.bf ?_
    obtain rfl:=au h
    exact ah.bs (dM q q q q)
   refine ah.aU<|W.bk [0,5,6,9] (bp q<|ai (O.add (.lit q) (.k q))<|aq.bk [0,5,6,114] q<|aq.aV) ?_
   obtain rfl:=au h
   exact ah.go (dM q q q q)
  ·refine W.c9 ?_
   refine ah.c7 ?_
   obtain rfl:=au h
   exact ah.aD (dt q q q)
 refine ah.c' ?_
 refine ah.aU<|W.aX ?_
 refine W.aT [0,5,6,130] ?_
 obtain ⟨fD,aa,h⟩:=ax h
 refine W.bs [(0,.obj (ej.cells fD.1)),(6,.obj [j (aO (1+aD)),ak aG a8.2.1,j fD.2,ae a8.2.2.1,.aI,j a8.2.2.2])] ?_ ?_
 ·clear h; have h:=aa; clear aa
  refine W.bu h q (λi' h=>?_) (λi' h=>?_)
  ·refine W.bV [0,5,6] (ai (O.a_ q (.obj q) zk q)<|aq.dx (G2:=[(0,_),(5,_),(6,_)]) (cs2:=[j (aO (1+aD)),ak aG a8.2.1,j (-1),ae a8.2.2.1,.aI,j a8.2.2.2]) q (.ptr q) (.k q) q nP q q q q (.n q q (.n q q (.b q .nil)))<|bK q) ?_
   obtain ⟨u0,aa,h⟩:=ax h
   refine W.rs [(0,.obj (ej.cells a8.1)),(5,.obj (dN.cells a2)),(6,.obj [j (aO (1+aD)),ak aG a8.2.1,j (-1),ae a8.2.2.1,.aI,j a8.2.2.2]),(142,a1 u0)] ?_ ?_
   ·refine ai (O.a_ q (.obj q) sE q)<|ai (O.a_ q (.ptr q) tC q)<|ai (O.cq q (.ptr q) mW q)<|ai (O.aC (.lit q)) ?_
    rcases cB aa with ⟨tO,aa⟩ | ⟨tO,aa⟩
    ·obtain rfl:=au aa
     exact aq.aV
    ·refine aW tO (O.aC (.obj q))<|aW tO (O.a_ q (.obj q) sE q)<|aW tO (O.a_ q (.ptr q) kq q)<|aW tO (O.cq q (.ptr q) eI q) ?_
     obtain ⟨iK,po,aa⟩:=ax aa
     obtain rfl:=au aa
     exact aq.c (cr.vw (ys:=[.ptr ⟨0,[]⟩ 0,ae a2.Prec.Name]) q (.c (View.oS q q) (.s .nil)) (xh a8.1 a2.Prec.Name _ po) call96 q) q q (.hf q q tO)<|aq.aV
   obtain ⟨oO,aa,h⟩:=ax h
   refine W.bs [(0,.obj (ej.cells oO.1)),(6,.obj [j (aO (1+aD)),ak aG a8.2.1,j oO.2,ae a8.2.2.1,.aI,j a8.2.2.2])] ?_ ?_
   ·clear h; have h:=aa; clear aa
    refine W.bu h q (λkK h=>?_) (λkK h=>?_)
    ·obtain ⟨gI,n4,h⟩:=ax h
     refine W.bk [0,6] (ai (O.aC (.obj q))<|ai (O.a_ q (.obj q) sE q)<|ai (O.dR (cs':=[ae a2.Prec.Name,a1 a2.Prec.Lit,j a2.Prec.cJ,j a2.Prec.At]) q (.ptr q) kD q q)<|aq.h_ q (b9.call q q (h2.nM (G2:=[(6,.obj [j (aO (1+aD)),ak aG a8.2.1,j (-1),ae a8.2.2.1,.aI,j a8.2.2.2])]) (A:=[]) (ys:=[.ptr ⟨0,[]⟩ 0,.agg (dc.cells a2.Prec)]) (args:=[.obj (ej.cells a8.1),.agg (dc.cells a2.Prec)]) (cs':=[ak bq gI.2.ar.ba,ak a7 gI.2.ar.bw,ak bE gI.2.ar.bc,ae gI.2.ar.bx,ae gI.2.ar.bA,ak bH gI.2.b0,ak a7 gI.2.bX,ak cy gI.2.bG,j gI.2.cf,j gI.2.cg,ae gI.2.cd,j gI.2.bW,j gI.2.bB]) (k0:=0) q q q q (.b q (.n q .nil)) q (Jr a8.1 a2.Prec _ n4) call115 (.n q .nil) q q (.n q .nil) .nil q))<|ai (O.a_ q (.obj q) zk q)<|aq.dx (G2:=[(0,_),(6,_)]) (cs2:=[j (aO (1+aD)),ak aG a8.2.1,j gI.1,ae a8.2.2.1,.aI,j a8.2.2.2]) q (.ptr q) (.lit q) q nP q q q q (.n q q (.b q .nil))<|bK q) ?_
     obtain rfl:=au h
     exact ah.bs (fC q q)
    ·obtain ⟨fT,Al,h⟩:=ax h
     refine W.bk [0,6] (ai (O.aC (.obj q))<|ai (O.a_ q (.obj q) sE q)<|ai (O.a_ q (.ptr q) qO q)<|ai (O.cq q (.ptr q) ct q)<|ai (O.a_ q (.obj q) sE q)<|ai (O.a_ q (.ptr q) kq q)<|ai (O.cq q (.ptr q) eI q)<|aq.h_ q (b9.call q q (h2.nM (G2:=[(6,.obj [j (aO (1+aD)),ak aG a8.2.1,j (-1),ae a8.2.2.1,.aI,j a8.2.2.2])]) (A:=[]) (ys:=[.ptr ⟨0,[]⟩ 0,j a2.Prec.At,ae a2.Prec.Name]) (args:=[.obj (ej.cells a8.1),j a2.Prec.At,ae a2.Prec.Name]) (cs':=[ak bq fT.ar.ba,ak a7 fT.ar.bw,ak bE fT.ar.bc,ae fT.ar.bx,ae fT.ar.bA,ak bH fT.b0,ak a7 fT.bX,ak cy fT.bG,j fT.cf,j fT.cg,ae fT.cd,j fT.bW,j fT.bB]) (k0:=0) q q q q (.b q (.n q (.n q .nil))) q (u4 a8.1 a2.Prec.At a2.Prec.Name _ Al) call94 (.n q .nil) q q (.n q .nil) .nil q))<|bK q) ?_
     obtain rfl:=au h
     exact ah.bs (fC q q)
   obtain rfl:=au h
   exact ah.bs (fC q q)
  ·refine W.bF ?_
   obtain rfl:=au h
   exact ah.bs (fC q q)
 refine ah.aU ?_
 obtain ⟨jS,sZ,h⟩:=ax h
 refine W.bV [0,6] (ai (O.dg (ys:=[]) aG ([]:List Int) eS q q q q q q nR q q)<|ai (O.a_ q (.obj q) mZ q)<|ai (O.cU (y:=.bl aG.z ⟨6,[1]⟩ a8.2.1.length) q (.ptr q) hC q q)<|ai (O.ap (en:=aG) (r:=jS) (.own q) q (.bl q) (.flat aG q) nx q sZ)<|ai (O.a_ q (.obj q) JZ q)<|aq.h_ (G2:=[(0,.obj (ej.cells fD.1)),(6,.obj [j (aO (1+aD)),ak aG a8.2.1,j fD.2,ae a8.2.2.1,ak aG (([]:List Int)++a8.2.1),j a8.2.2.2])]) q (b9.kt (g1:=_) (en:=aG) (M:=a8.2.1) (cs2:=[j (aO (1+aD)),ak aG a8.2.1,j fD.2,ae a8.2.2.1,ak aG (([]:List Int)++a8.2.1),j a8.2.2.2]) q q (.ptr q) (.bR q) q q q .iH .gk q q wy q q q q (.n q q (.b q .nil)))<|bK q) ?_
 refine W.eF (G1:=[(0,_),(6,.obj [j (aO (1+aD)),ag aG a8.2.1,j fD.2,ae a8.2.2.1,ak aG (([]:List Int)++a8.2.1),j a8.2.2.2])]) [6] (.n q q (.z q q (gr.obj (.f (.z (.f (.f (.f (.f .nil))))))) .nil)) ?_
 refine W.eF (G1:=[(0,_),(6,.obj [j (aO (1+aD)),ag aG a8.2.1,j fD.2,ae a8.2.2.1,ag aG (([]:List Int)++a8.2.1),j a8.2.2.2])]) [6] (.n q q (.z q q (gr.obj (.f (.f (.f (.f (.z (.f .nil))))))) .nil)) ?_
 obtain ⟨j7,mE,h⟩:=ax h
 refine W.rd [[],[],[1],[1,2],[1,2,3],[1,2,3,4],[],[6],aN 1 7 [],aN 0 9 [],aN 0 10 [],aN 0 11 [],aN 0 12 []] [(0,_)] ei (by kernel_rfl) (av 0 (O.aC (.obj q))<|av 1 (O.aC (.obj q))<|av 2 (O.e5 (.ptr q))<|av 3 (O.a_ q (.ptr q) kp q)<|av 4 (O.a_ q (.ptr q) lI q)<|av 5 (O.cU (y:=.bl bE.z ⟨0,[2]⟩ fD.1.ar.bc.length) q (.ptr q) mX q q)<|av 6 (O.dR (cs':=[j (aO (1+aD)),ag aG a8.2.1,j fD.2,ae a8.2.2.1,ag aG (([]:List Int)++a8.2.1),j a8.2.2.2]) q (.obj q) IX q q)<|bC.eY 7 (x:=ag bE [(⟨aO (1+aD),a8.2.1,fD.2,a8.2.2.1,([]:List Int)++a8.2.1,a8.2.2.2⟩:Prod)]) (O.dg (ys:=[.agg [j (aO (1+aD)),ag aG a8.2.1,j fD.2,ae a8.2.2.1,ag aG (([]:List Int)++a8.2.1),j a8.2.2.2]]) bE [(⟨aO (1+aD),a8.2.1,fD.2,a8.2.2.1,([]:List Int)++a8.2.1,a8.2.2.2⟩:Prod)] ns q q q q q q Ii q q) q q q q .none<|av 8 (O.ap (en:=bE) (r:=j7) (.bl q) q (.aF q) .i IQ q mE)<|av 9 (O.e5 (.ptr q))<|av 10 (O.a_ q (.ptr q) kp q)<|av 11 (O.a_ q (.ptr q) lI q)<|bC.iZ 12 (G2:=[(0,.obj [ak bq fD.1.ar.ba,ak a7 fD.1.ar.bw,ak bE (fD.1.ar.bc++[(⟨aO (1+aD),a8.2.1,fD.2,a8.2.2.1,([]:List Int)++a8.2.1,a8.2.2.2⟩:Prod)]),ae fD.1.ar.bx,ae fD.1.ar.bA,ak bH fD.1.b0,ak a7 fD.1.bX,ak cy fD.1.bG,j fD.1.cf,j fD.1.cg,ae fD.1.cd,j fD.1.bW,j fD.1.bB])]) (b9.kt (g1:=_) (en:=bE) (M:=[(⟨aO (1+aD),a8.2.1,fD.2,a8.2.2.1,([]:List Int)++a8.2.1,a8.2.2.2⟩:Prod)]) (cs2:=[ak bq fD.1.ar.ba,ak a7 fD.1.ar.bw,ak bE (fD.1.ar.bc++[(⟨aO (1+aD),a8.2.1,fD.2,a8.2.2.1,([]:List Int)++a8.2.1,a8.2.2.2⟩:Prod)]),ae fD.1.ar.bx,ae fD.1.ar.bA,ak bH fD.1.b0,ak a7 fD.1.bX,ak cy fD.1.bG,j fD.1.cf,j fD.1.cg,ae fD.1.cd,j fD.1.bW,j fD.1.bB]) q q (.ptr q) (.bR q) q q q .iH .gk q q HX q q q q (.b q .nil)) q q q q (by kernel_rfl) (by kernel_rfl)<|bC.fin q q q (.n q .nil)) ?_
 obtain rfl:=au h
 exact ah.fin (Fin.ro .nil q (pz (by kernel_rfl)) (.aB q q (.no (.no .nil))) q (.inl q))
theorem Px (a0:Int) (r:ByteArray) (h:Bo a0=some r):b_ Try.prog 99 [j a0] [none] (ae r):=by
 unfold Bo at h
 refine b_.go (N:=⟨32,[]⟩) Try.func99 q q q q (W.fin ?_)
 refine W.st [(0,j a0)] ?_
 refine W.aT [0] ?_
 refine W.bV [0,3] (bp q<|ai (O.Ct (.lit q) GO LG)<|aq.aV) ?_
 refine W.aX<|W.aT [0,3,8] ?_
 obtain ⟨jk,aa,h⟩:=ax h
 refine W.bs [(0,j a0),(3,.lit (.int .u64 jk))] ?_ ?_
 ·clear h; have h:=aa; clear aa
  refine W.bu h q (λcP h=>?_) (λcP h=>?_)
  ·refine W.bk [0,3] (bp q<|ai (O.neg (.lit q))<|aq.bk [0,10] q<|aq.aV) ?_
   obtain rfl:=au h
   exact ah.bs (fC q q)
  ·refine W.bF ?_
   obtain rfl:=au h
   exact ah.bs (fC q q)
 refine ah.aU<|W.aT [0,3,4] ?_
 refine W.aX<|W.bf ?_
 obtain ⟨b4,ao,h⟩:=ax h
 refine W.ca (G1:=[(0,_),(3,_),(4,_)]) (dt q q q) ?_
 refine W.eg (s:=(jk,aA)) (λ(cK:Int × ByteArray)=>[(0,j a0),(3,.lit (.int .u64 cK.1)),(4,ae cK.2)]) 0 (λ(b4:ByteArray)=>[(0,j a0),(4,ae b4)]) ao (λcK o h=>?_) ?_
 ·clear ao
  refine W.aX ?_
  obtain ⟨lX,aa,h⟩:=ax h
  refine W.rs [(0,j a0),(3,.lit (.int .u64 cK.1)),(4,ae cK.2),(16,a1 lX)] ?_ ?_
  ·refine bp q<|ai (O.gtr (.lit q) (.k q))<|ai (O.aC (.lit q)) ?_
   rcases cB aa with ⟨ee,aa⟩ | ⟨ee,aa⟩
   ·obtain rfl:=au aa
    exact aq.aV
   ·obtain rfl:=au aa
    exact aq.aV
  refine W.bu h q (λc3 h=>?_) (λc3 h=>?_)
  ·refine W.bF<|ah.aU ?_
   refine W.bf ?_
   obtain ⟨cv,jx,h⟩:=ax h
   obtain ⟨bM,iF,h⟩:=ax h
   refine W.bV [0,3,4] (bp q<|ai (O.s' (.lit q) (.k q) jx)<|ai (O.add (.k q) (.lit q))<|ai (O.Ct (.lit q) LG GP)<|aq.eY (x:=ag o' [uJ (IntKind.u64.wrap (48+cv))]) (O.dg (ys:=[mo (uJ (IntKind.u64.wrap (48+cv)))]) o' [uJ (IntKind.u64.wrap (48+cv))] HO q q q q q q Ng q q) q q .none<|ai (O.JJ (.aF q) I7)<|bp q<|ai (O.cat (.lit q) (.lit q) iF)<|aq.bk [0,3,24] q<|aq.aV) ?_
   obtain ⟨bD,gQ,h⟩:=ax h
   refine W.bk [0,3,4] (bp q<|ai (O.s7 (.lit q) (.k q) gQ)<|aq.bk [0,4,26] q<|aq.aV) ?_
   refine ah.bf ?_
   obtain rfl:=au h
   exact ah.go (dt q q q)
  ·refine W.c9 ?_
   refine ah.c7 ?_
   obtain rfl:=au h
   exact ah.aD (fC q q)
 refine ah.c' ?_
 refine ah.aU<|W.aX ?_
 refine W.aT [4,28] ?_
 refine W.bu h q (λdz h=>?_) (λdz h=>?_)
 ·obtain ⟨eb,jX,h⟩:=ax h
  refine W.bV [2] (bp q<|ai (O.cat (.k q) (.lit q) jX)<|aq.aV) ?_
  refine W.rt ?_
  refine ah.c5 ?_
  obtain rfl:=au h
  exact cw (.f q q .nil)
 ·refine W.bF<|ah.aU ?_
  refine W.aT [2] ?_
  refine W.rt ?_
  obtain rfl:=au h
  exact cw (.f q q .nil)
theorem Pm (a0:Source) (r:b' × Int × Int × ByteArray) (h:Bd a0=some r):b_ Try.prog 78 [.agg (da.cells a0)] [none] (.cG [.agg (ck.cells r.1),j r.2.1,j r.2.2.1,ae r.2.2.2]):=by
 unfold Bd at h
 refine b_.go (N:=⟨435,[]⟩) Try.func78 q q q q (W.fin ?_)
 refine W.st [(0,.agg (da.cells a0))] ?_
 refine W.bV [1,2] (ai (O.box (.b2 q q) q)<|ai (O.fq (cs:=[.aI,.aI,.aI,ae aA,ae aA]) oY q q)<|aq.aV) ?_
 refine W.aX ?_
 obtain ⟨aD,fF,h⟩:=ax h
 refine W.bV [1,2,28] (ai (O.dR (cs':=[ae a0.bx,ag cx a0.Decls,ag eM a0.dD,ae a0.bA]) q (.obj q) qE q q)<|eE (cr.go (.bT (.b2 q q) .nil) (Pu a0 _ fF) call92 q)<|aq.aV) ?_
 refine W.bu h q (λcP h=>?_) (λcP h=>?_)
 ·refine W.bV [2,3,4,5] (ai (O.dE (cs:=[.aI,.aI,.aI,ae aA,ae aA]) HJ oY q q q)<|aq.dx (G2:=[(2,_)]) (cs2:=[.aI,.aI,.aI,ae aA,ae aA]) q (.obj q) (.b2 q q) q nt q q q q (.b q .nil)<|aq.aV) ?_
  refine W.eF (G1:=[(2,.obj [ag bq ([]:List b5),ag a7 ([]:List e4),ag bE ([]:List Prod),ae aA,ae aA]),(3,_),(4,_),(5,_)]) [2] (.z q q (gr.obj (.z (.z (.z (.f (.f .nil)))))) (.n q q (.n q q (.n q q .nil)))) ?_
  refine W.rt ?_
  refine ah.c5 ?_
  obtain rfl:=au h
  exact cw (.c (ys0:=[ag bq ([]:List b5),ag a7 ([]:List e4),ag bE ([]:List Prod),ae aA,ae aA]) q gA q q q (.f q (.f q (.f q (.f q (.f q .nil))))) (.f q q (.f q q (.f q q .nil))))
 ·refine W.bF<|ah.aU ?_
  obtain ⟨a8,hJ,h⟩:=ax h
  refine W.bV [1,2,6] (ai (O.mk (en:=bH) (z0:=false) oT (.k q) (.k q) Ie q q hJ Et q)<|ai (O.dE (cs:=[.aI,.aI,.aI,ae aA,ae aA,.bl bH.z ⟨30,[]⟩ a8.length,.aI,.aI,j 0,j 0,ae aA,j 0,j 0]) Ur Vm q q q)<|ai (O.box (.b2 q q) q)<|aq.fN (G2:=[(1,.obj (da.cells a0)),(2,.obj [.aI,.aI,.aI,ae aA,ae aA])]) q (b9.B3 (y':=.obj [.aI,.aI,.aI,ae aA,ae aA,ak bH a8,.aI,.aI,j 0,j 0,ae aA,j 0,j 0]) q q (.obj q) (.b q (.f (.f (.f (.f (.f (.r q (.f (.f (.f (.f (.f (.f (.f .nil))))))))))))) .nil) .refl (fC q q) q q)<|bK q) ?_
  refine W.bV [1,2,6] (ai (O.aC (.obj q))<|ai (O.dE (cs:=[ae ({ data:=#[36,101,110,100] }),a1 false,j 0,j 0,j 0,ae aA]) DM wH q q q)<|ai (O.dE (cs:=[ae ({ data:=#[101,114,114,111,114] }),a1 false,j (-1),j 0,j 0,ae aA]) DM wH q q q)<|ai (O.dE (cs:=[ae ({ data:=#[36,117,110,107] }),a1 false,j (-1),j 0,j 0,ae aA]) DM wH q q q)<|ai (O.dg (ys:=[.agg [ae ({ data:=#[36,101,110,100] }),a1 false,j 0,j 0,j 0,ae aA],.agg [ae ({ data:=#[101,114,114,111,114] }),a1 false,j (-1),j 0,j 0,ae aA],.agg [ae ({ data:=#[36,117,110,107] }),a1 false,j (-1),j 0,j 0,ae aA]]) bq [(⟨{ data:=#[36,101,110,100] },false,0,0,0,aA⟩:b5),(⟨{ data:=#[101,114,114,111,114] },false,(-1),0,0,aA⟩:b5),(⟨{ data:=#[36,117,110,107] },false,(-1),0,0,aA⟩:b5)] qt q q q q q q Nh q q)<|ai (O.e5 (.ptr q))<|ai (O.a_ q (.ptr q) kp q)<|ai (O.a_ q (.ptr q) oD q)<|aq.h_ (G2:=[(1,.obj (da.cells a0)),(2,.obj [.aI,.aI,.aI,ae aA,ae aA]),(6,.obj [ak bq [(⟨{ data:=#[36,101,110,100] },false,0,0,0,aA⟩:b5),(⟨{ data:=#[101,114,114,111,114] },false,(-1),0,0,aA⟩:b5),(⟨{ data:=#[36,117,110,107] },false,(-1),0,0,aA⟩:b5)],.aI,.aI,ae aA,ae aA,ak bH a8,.aI,.aI,j 0,j 0,ae aA,j 0,j 0])]) q (b9.yv (y':=ak bq [(⟨{ data:=#[36,101,110,100] },false,0,0,0,aA⟩:b5),(⟨{ data:=#[101,114,114,111,114] },false,(-1),0,0,aA⟩:b5),(⟨{ data:=#[36,117,110,107] },false,(-1),0,0,aA⟩:b5)]) (cs2:=[ak bq [(⟨{ data:=#[36,101,110,100] },false,0,0,0,aA⟩:b5),(⟨{ data:=#[101,114,114,111,114] },false,(-1),0,0,aA⟩:b5),(⟨{ data:=#[36,117,110,107] },false,(-1),0,0,aA⟩:b5)],.aI,.aI,ae aA,ae aA,ak bH a8,.aI,.aI,j 0,j 0,ae aA,j 0,j 0]) q q (.ptr q) (.own q) (.r q .nil) .refl q MO q q q q q (.n q q (.n q q (.b q .nil))))<|bK q) ?_
  refine W.aT [1,2,6,7] ?_
  refine W.aX<|W.aT [1,2,6,7,8] ?_
  refine W.bf ?_
  obtain ⟨cn,ao,h⟩:=ax h
  refine W.ca (G1:=[(1,_),(2,_),(6,.obj [ak bq (((⟨(⟨[(⟨{ data:=#[36,101,110,100] },false,0,0,0,aA⟩:b5),(⟨{ data:=#[101,114,114,111,114] },false,(-1),0,0,aA⟩:b5),(⟨{ data:=#[36,117,110,107] },false,(-1),0,0,aA⟩:b5)],[],[],aA,aA⟩:b'),a8,[],[],0,0,aA,0,0⟩:cT).ar).ba),ak a7 (((⟨(⟨[(⟨{ data:=#[36,101,110,100] },false,0,0,0,aA⟩:b5),(⟨{ data:=#[101,114,114,111,114] },false,(-1),0,0,aA⟩:b5),(⟨{ data:=#[36,117,110,107] },false,(-1),0,0,aA⟩:b5)],[],[],aA,aA⟩:b'),a8,[],[],0,0,aA,0,0⟩:cT).ar).bw),ak bE (((⟨(⟨[(⟨{ data:=#[36,101,110,100] },false,0,0,0,aA⟩:b5),(⟨{ data:=#[101,114,114,111,114] },false,(-1),0,0,aA⟩:b5),(⟨{ data:=#[36,117,110,107] },false,(-1),0,0,aA⟩:b5)],[],[],aA,aA⟩:b'),a8,[],[],0,0,aA,0,0⟩:cT).ar).bc),ae (((⟨(⟨[(⟨{ data:=#[36,101,110,100] },false,0,0,0,aA⟩:b5),(⟨{ data:=#[101,114,114,111,114] },false,(-1),0,0,aA⟩:b5),(⟨{ data:=#[36,117,110,107] },false,(-1),0,0,aA⟩:b5)],[],[],aA,aA⟩:b'),a8,[],[],0,0,aA,0,0⟩:cT).ar).bx),ae (((⟨(⟨[(⟨{ data:=#[36,101,110,100] },false,0,0,0,aA⟩:b5),(⟨{ data:=#[101,114,114,111,114] },false,(-1),0,0,aA⟩:b5),(⟨{ data:=#[36,117,110,107] },false,(-1),0,0,aA⟩:b5)],[],[],aA,aA⟩:b'),a8,[],[],0,0,aA,0,0⟩:cT).ar).bA),ak bH ((⟨(⟨[(⟨{ data:=#[36,101,110,100] },false,0,0,0,aA⟩:b5),(⟨{ data:=#[101,114,114,111,114] },false,(-1),0,0,aA⟩:b5),(⟨{ data:=#[36,117,110,107] },false,(-1),0,0,aA⟩:b5)],[],[],aA,aA⟩:b'),a8,[],[],0,0,aA,0,0⟩:cT).b0),ak a7 ((⟨(⟨[(⟨{ data:=#[36,101,110,100] },false,0,0,0,aA⟩:b5),(⟨{ data:=#[101,114,114,111,114] },false,(-1),0,0,aA⟩:b5),(⟨{ data:=#[36,117,110,107] },false,(-1),0,0,aA⟩:b5)],[],[],aA,aA⟩:b'),a8,[],[],0,0,aA,0,0⟩:cT).bX),ak cy ((⟨(⟨[(⟨{ data:=#[36,101,110,100] },false,0,0,0,aA⟩:b5),(⟨{ data:=#[101,114,114,111,114] },false,(-1),0,0,aA⟩:b5),(⟨{ data:=#[36,117,110,107] },false,(-1),0,0,aA⟩:b5)],[],[],aA,aA⟩:b'),a8,[],[],0,0,aA,0,0⟩:cT).bG),j ((⟨(⟨[(⟨{ data:=#[36,101,110,100] },false,0,0,0,aA⟩:b5),(⟨{ data:=#[101,114,114,111,114] },false,(-1),0,0,aA⟩:b5),(⟨{ data:=#[36,117,110,107] },false,(-1),0,0,aA⟩:b5)],[],[],aA,aA⟩:b'),a8,[],[],0,0,aA,0,0⟩:cT).cf),j ((⟨(⟨[(⟨{ data:=#[36,101,110,100] },false,0,0,0,aA⟩:b5),(⟨{ data:=#[101,114,114,111,114] },false,(-1),0,0,aA⟩:b5),(⟨{ data:=#[36,117,110,107] },false,(-1),0,0,aA⟩:b5)],[],[],aA,aA⟩:b'),a8,[],[],0,0,aA,0,0⟩:cT).cg),ae ((⟨(⟨[(⟨{ data:=#[36,101,110,100] },false,0,0,0,aA⟩:b5),(⟨{ data:=#[101,114,114,111,114] },false,(-1),0,0,aA⟩:b5),(⟨{ data:=#[36,117,110,107] },false,(-1),0,0,aA⟩:b5)],[],[],aA,aA⟩:b'),a8,[],[],0,0,aA,0,0⟩:cT).cd),j ((⟨(⟨[(⟨{ data:=#[36,101,110,100] },false,0,0,0,aA⟩:b5),(⟨{ data:=#[101,114,114,111,114] },false,(-1),0,0,aA⟩:b5),(⟨{ data:=#[36,117,110,107] },false,(-1),0,0,aA⟩:b5)],[],[],aA,aA⟩:b'),a8,[],[],0,0,aA,0,0⟩:cT).bW),j ((⟨(⟨[(⟨{ data:=#[36,101,110,100] },false,0,0,0,aA⟩:b5),(⟨{ data:=#[101,114,114,111,114] },false,(-1),0,0,aA⟩:b5),(⟨{ data:=#[36,117,110,107] },false,(-1),0,0,aA⟩:b5)],[],[],aA,aA⟩:b'),a8,[],[],0,0,aA,0,0⟩:cT).bB)]),(7,_),(8,_)]) (.n q (.n q (.w q q (jg.obj (.f (.o (.o (.f (.f (.f (.o (.o (.f (.f (.f (.f (.f .nil)))))))))))))) (fC q q)))) ?_
  refine W.eg (s:=((⟨(⟨[(⟨{ data:=#[36,101,110,100] },false,0,0,0,aA⟩:b5),(⟨{ data:=#[101,114,114,111,114] },false,(-1),0,0,aA⟩:b5),(⟨{ data:=#[36,117,110,107] },false,(-1),0,0,aA⟩:b5)],[],[],aA,aA⟩:b'),a8,[],[],0,0,aA,0,0⟩:cT),aA,0)) (λ(bL:cT × ByteArray × Int)=>[(1,.obj (da.cells a0)),(2,.obj [.aI,.aI,.aI,ae aA,ae aA]),(6,.obj (ej.cells bL.1)),(7,ae bL.2.1),(8,j bL.2.2)]) 0 (λ(cn:cT × ByteArray)=>[(1,.obj (da.cells a0)),(2,.obj [.aI,.aI,.aI,ae aA,ae aA]),(6,.obj (ej.cells cn.1)),(7,ae cn.2)]) ao (λbL o h=>?_) ?_
  ·clear ao
   refine W.aX<|W.aT [1,2,6,7,8,45] ?_
   refine W.bu h q (λdn h=>?_) (λdn h=>?_)
   ·refine W.bF<|ah.aU ?_
    refine W.aX<|W.bf ?_
    obtain ⟨b1,hK,h⟩:=ax h
    refine W.bV [1,2,6,7,8,9] (ai (O.a_ q (.obj q) pc q)<|ai (O.cU (y:=ag cx a0.Decls) q (.ptr q) pX q q)<|bp q<|ai (O.cC (.aF q) (.lit q) oe hK)<|ai (O.iq (cs':=[j b1.Kind,ae b1.Tag,ag dc b1.eV,j b1.At]) (.bo q) B_ q q)<|ai (O.fq (cs:=[j 0,ae aA,.aI,j 0]) D3 q q)<|aq.dx (G2:=[(1,_),(2,_),(6,_),(7,_),(8,_),(9,_)]) (cs2:=[j b1.Kind,ae b1.Tag,ag dc b1.eV,j b1.At]) q (.obj q) (.b2 q q) q MK q q q q (.n q q (.n q q (.n q q (.n q q (.n q q (.b q .nil))))))<|bK q) ?_
    refine W.aX ?_
    obtain ⟨iz,aa,h⟩:=ax h
    refine W.rs [(1,.obj (da.cells a0)),(2,.obj [.aI,.aI,.aI,ae aA,ae aA]),(6,.obj (ej.cells bL.1)),(7,ae bL.2.1),(8,j bL.2.2),(9,.obj (cx.cells b1)),(60,a1 iz)] ?_ ?_
    ·refine ai (O.a_ q (.obj q) oB q)<|ai (O.cq q (.ptr q) ct q)<|ai (O.geq (.lit q) (.k q))<|ai (O.aC (.lit q)) ?_
     rcases cB aa with ⟨di,aa⟩ | ⟨di,aa⟩
     ·obtain rfl:=au aa
      exact aq.aV
     ·obtain rfl:=au aa
      exact aq.aV
    obtain ⟨gT,aa,h⟩:=ax h
    refine W.bs [(1,.obj (da.cells a0)),(2,.obj [.aI,.aI,.aI,ae aA,ae aA]),(6,.obj [ak bq bL.1.ar.ba,ak a7 bL.1.ar.bw,ak bE bL.1.ar.bc,ae bL.1.ar.bx,ae bL.1.ar.bA,ak bH bL.1.b0,ak a7 bL.1.bX,ak cy bL.1.bG,j bL.1.cf,j bL.1.cg,ae bL.1.cd,j gT,j bL.1.bB]),(7,ae bL.2.1),(8,j bL.2.2),(9,.obj (cx.cells b1))] ?_ ?_
    ·clear h; have h:=aa; clear aa
     refine W.bu h q (λdz h=>?_) (λdz h=>?_)
     ·refine W.bk [1,2,6,7,8,9] (ai (O.aC (.obj q))<|ai (O.e5 (.ptr q))<|ai (O.a_ q (.ptr q) Cz q)<|ai (O.cq q (.ptr q) ct q)<|ai (O.add (.lit q) (.k q))<|ai (O.e5 (.ptr q))<|ai (O.a_ q (.ptr q) Cz q)<|aq.dx (G2:=[(1,_),(2,_),(6,_),(7,_),(8,_),(9,_)]) (cs2:=[ak bq bL.1.ar.ba,ak a7 bL.1.ar.bw,ak bE bL.1.ar.bc,ae bL.1.ar.bx,ae bL.1.ar.bA,ak bH bL.1.b0,ak a7 bL.1.bX,ak cy bL.1.bG,j bL.1.cf,j bL.1.cg,ae bL.1.cd,j (aO (bL.1.bW+1)),j bL.1.bB]) q (.ptr q) (.lit q) q nP q q q q (.n q q (.n q q (.b q (.n q q (.n q q (.n q q .nil))))))<|bK q) ?_
      obtain rfl:=au h
      exact ah.bs (fw q q q q q q)
     ·refine W.bF ?_
      obtain rfl:=au h
      exact ah.bs (fw q q q q q q)
    refine ah.aU<|W.aT [1,2,6,7,8,9,10] ?_
    refine W.bf ?_
    obtain ⟨dU,ao,h⟩:=ax h
    refine W.ca (G1:=[(1,_),(2,_),(6,.obj [ak bq (((⟨bL.1.ar,bL.1.b0,bL.1.bX,bL.1.bG,bL.1.cf,bL.1.cg,bL.1.cd,gT,bL.1.bB⟩:cT).ar).ba),ak a7 (((⟨bL.1.ar,bL.1.b0,bL.1.bX,bL.1.bG,bL.1.cf,bL.1.cg,bL.1.cd,gT,bL.1.bB⟩:cT).ar).bw),ak bE (((⟨bL.1.ar,bL.1.b0,bL.1.bX,bL.1.bG,bL.1.cf,bL.1.cg,bL.1.cd,gT,bL.1.bB⟩:cT).ar).bc),ae (((⟨bL.1.ar,bL.1.b0,bL.1.bX,bL.1.bG,bL.1.cf,bL.1.cg,bL.1.cd,gT,bL.1.bB⟩:cT).ar).bx),ae (((⟨bL.1.ar,bL.1.b0,bL.1.bX,bL.1.bG,bL.1.cf,bL.1.cg,bL.1.cd,gT,bL.1.bB⟩:cT).ar).bA),ak bH ((⟨bL.1.ar,bL.1.b0,bL.1.bX,bL.1.bG,bL.1.cf,bL.1.cg,bL.1.cd,gT,bL.1.bB⟩:cT).b0),ak a7 ((⟨bL.1.ar,bL.1.b0,bL.1.bX,bL.1.bG,bL.1.cf,bL.1.cg,bL.1.cd,gT,bL.1.bB⟩:cT).bX),ak cy ((⟨bL.1.ar,bL.1.b0,bL.1.bX,bL.1.bG,bL.1.cf,bL.1.cg,bL.1.cd,gT,bL.1.bB⟩:cT).bG),j ((⟨bL.1.ar,bL.1.b0,bL.1.bX,bL.1.bG,bL.1.cf,bL.1.cg,bL.1.cd,gT,bL.1.bB⟩:cT).cf),j ((⟨bL.1.ar,bL.1.b0,bL.1.bX,bL.1.bG,bL.1.cf,bL.1.cg,bL.1.cd,gT,bL.1.bB⟩:cT).cg),ae ((⟨bL.1.ar,bL.1.b0,bL.1.bX,bL.1.bG,bL.1.cf,bL.1.cg,bL.1.cd,gT,bL.1.bB⟩:cT).cd),j ((⟨bL.1.ar,bL.1.b0,bL.1.bX,bL.1.bG,bL.1.cf,bL.1.cg,bL.1.cd,gT,bL.1.bB⟩:cT).bW),j ((⟨bL.1.ar,bL.1.b0,bL.1.bX,bL.1.bG,bL.1.cf,bL.1.cg,bL.1.cd,gT,bL.1.bB⟩:cT).bB)]),(7,_),(8,_),(9,_),(10,_)]) (g_ q q q q q q q) ?_
    refine W.eg (s:=((⟨bL.1.ar,bL.1.b0,bL.1.bX,bL.1.bG,bL.1.cf,bL.1.cg,bL.1.cd,gT,bL.1.bB⟩:cT),bL.2.1,0)) (λ(gl:cT × ByteArray × Int)=>[(1,.obj (da.cells a0)),(2,.obj [.aI,.aI,.aI,ae aA,ae aA]),(6,.obj (ej.cells gl.1)),(7,ae gl.2.1),(8,j bL.2.2),(9,.obj (cx.cells b1)),(10,j gl.2.2)]) 2 (λ(dU:cT × ByteArray)=>[(1,.obj (da.cells a0)),(2,.obj [.aI,.aI,.aI,ae aA,ae aA]),(6,.obj (ej.cells dU.1)),(7,ae dU.2),(8,j bL.2.2)]) ao (λgl o h=>?_) ?_
    ·clear ao
     refine W.aX<|W.aT [1,2,6,7,8,9,10,72] ?_
     refine W.bu h q (λgf h=>?_) (λgf h=>?_)
     ·refine W.bF<|ah.aU ?_
      refine W.aX ?_
      obtain ⟨Ar,aa,h⟩:=ax h
      refine W.bs [(1,.obj (da.cells a0)),(2,.obj [.aI,.aI,.aI,ae aA,ae aA]),(6,.obj (ej.cells Ar.1)),(7,ae Ar.2),(8,j bL.2.2),(9,.obj (cx.cells b1)),(10,j gl.2.2)] ?_ ?_
      ·clear h; have h:=aa; clear aa
       refine W.bf<|W.aX ?_
       refine W.aT [1,2,6,7,8,9,10,77] ?_
       refine W.bu h q (λht h=>?_) (λht h=>?_)
       ·refine W.aX ?_
        obtain ⟨fp,l5,h⟩:=ax h
        obtain ⟨dj,n2,h⟩:=ax h
        refine W.rd [[],[],[],[2],[],[2,3,4],[2,3,4,5],aN 0 7 []] [(1,_),(2,_),(6,_),(7,_),(8,_),(9,_),(10,_)] ei (by kernel_rfl) (av 0 (O.aC (.obj q))<|av 1 (O.dR (cs':=[j b1.Kind,ae b1.Tag,ag dc b1.eV,j b1.At]) q (.obj q) B_ q q)<|av 2 (O.a_ q (.obj q) oC q)<|av 3 (O.cU (y:=ag dc b1.eV) q (.ptr q) p1 q q)<|av 4 (O.aC (.lit q))<|av 5 (O.cC (.aF q) (.lit q) pG l5)<|av 6 (O.iq (cs':=[ae fp.Name,a1 fp.Lit,j fp.cJ,j fp.At]) (.bo q) kD q q)<|bC.iZ 7 (G2:=[(85,.cG []),(6,.obj [ak bq dj.ar.ba,ak a7 dj.ar.bw,ak bE dj.ar.bc,ae dj.ar.bx,ae dj.ar.bA,ak bH dj.b0,ak a7 dj.bX,ak cy dj.bG,j dj.cf,j dj.cg,ae dj.cd,j dj.bW,j dj.bB]),(1,.obj (da.cells a0)),(2,.obj [.aI,.aI,.aI,ae aA,ae aA]),(7,ae gl.2.1),(8,j bL.2.2),(9,.obj (cx.cells b1)),(10,j gl.2.2)]) (b9.call q q (h2.nM (G2:=[(1,.obj (da.cells a0)),(2,.obj [.aI,.aI,.aI,ae aA,ae aA]),(7,ae gl.2.1),(8,j bL.2.2),(9,.obj (cx.cells b1)),(10,j gl.2.2)]) (A:=[]) (ys:=[.ptr ⟨6,[]⟩ 0,.agg (cx.cells b1),.agg (dc.cells fp)]) (args:=[.obj (ej.cells gl.1),.agg (cx.cells b1),.agg (dc.cells fp)]) (cs':=[ak bq dj.ar.ba,ak a7 dj.ar.bw,ak bE dj.ar.bc,ae dj.ar.bx,ae dj.ar.bA,ak bH dj.b0,ak a7 dj.bX,ak cy dj.bG,j dj.cf,j dj.cg,ae dj.cd,j dj.bW,j dj.bB]) (k0:=0) q q q q (.b q (.n q (.n q .nil))) q (Pv gl.1 b1 fp _ n2) call93 (fw q q q q q q) q q (fw q q q q q q) .nil q)) q q q q (by kernel_rfl) (by kernel_rfl)<|bC.fin q q q (g_ q q q q q q q)) ?_
        refine ah.aU<|W.c9 ?_
        refine ah.c7 ?_
        refine ah.c' ?_
        obtain rfl:=au h
        exact ah.bs (g_ q q q q q q q)
       ·refine W.bF<|ah.aU ?_
        refine W.aX<|W.aT [1,2,6,8,9,10,87] ?_
        obtain ⟨nj,aa,h⟩:=ax h
        refine W.bs [(1,.obj (da.cells a0)),(2,.obj [.aI,.aI,.aI,ae aA,ae aA]),(6,.obj (ej.cells nj)),(8,j bL.2.2),(9,.obj (cx.cells b1)),(10,j gl.2.2)] ?_ ?_
        ·clear h; have h:=aa; clear aa
         refine W.bu h q (λm_ h=>?_) (λm_ h=>?_)
         ·obtain ⟨e2,nf,h⟩:=ax h
          obtain ⟨gg,lO,h⟩:=ax h
          obtain ⟨e6,k',h⟩:=ax h
          refine W.rd [[],[],[1],[],[1,2,3],[1,2,3,4],aN 1 5 [],[],[7],[],[7,8,9],[7,8,9,10],aN 7 5 [],aN 0 13 []] [(1,_),(2,_),(6,_),(8,_),(9,_),(10,_)] ei (by kernel_rfl) (av 0 (O.aC (.obj q))<|av 1 (O.a_ q (.obj q) oC q)<|av 2 (O.cU (y:=ag dc b1.eV) q (.ptr q) p1 q q)<|av 3 (O.aC (.lit q))<|av 4 (O.cC (.aF q) (.lit q) pG nf)<|av 5 (O.ez (.bo q) qO)<|av 6 (O.dd (x:=j e2.At) (.bo q) ct q)<|av 7 (O.a_ q (.obj q) oC q)<|av 8 (O.cU (y:=ag dc b1.eV) q (.ptr q) p1 q q)<|av 9 (O.aC (.lit q))<|av 10 (O.cC (.aF q) (.lit q) pG lO)<|av 11 (O.ez (.bo q) kq)<|av 12 (O.dd (x:=ae gg.Name) (.bo q) eI q)<|bC.iZ 13 (G2:=[(101,.cG []),(6,.obj [ak bq e6.ar.ba,ak a7 e6.ar.bw,ak bE e6.ar.bc,ae e6.ar.bx,ae e6.ar.bA,ak bH e6.b0,ak a7 e6.bX,ak cy e6.bG,j e6.cf,j e6.cg,ae e6.cd,j e6.bW,j e6.bB]),(1,.obj (da.cells a0)),(2,.obj [.aI,.aI,.aI,ae aA,ae aA]),(8,j bL.2.2),(9,.obj (cx.cells b1)),(10,j gl.2.2)]) (b9.call q q (h2.nM (G2:=[(1,.obj (da.cells a0)),(2,.obj [.aI,.aI,.aI,ae aA,ae aA]),(8,j bL.2.2),(9,.obj (cx.cells b1)),(10,j gl.2.2)]) (A:=[]) (ys:=[.ptr ⟨6,[]⟩ 0,j e2.At,ae gg.Name]) (args:=[.obj (ej.cells gl.1),j e2.At,ae gg.Name]) (cs':=[ak bq e6.ar.ba,ak a7 e6.ar.bw,ak bE e6.ar.bc,ae e6.ar.bx,ae e6.ar.bA,ak bH e6.b0,ak a7 e6.bX,ak cy e6.bG,j e6.cf,j e6.cg,ae e6.cd,j e6.bW,j e6.bB]) (k0:=0) q q q q (.b q (.n q (.n q .nil))) q (u4 gl.1 e2.At gg.Name _ k') call94 (dX q q q q q) q q (dX q q q q q) .nil q)) q q q q (by kernel_rfl) (by kernel_rfl)<|bC.fin q q q (fw q q q q q q)) ?_
          obtain rfl:=au h
          exact ah.bs (fw q q q q q q)
         ·refine W.bF ?_
          obtain rfl:=au h
          exact ah.bs (fw q q q q q q)
        refine ah.aU ?_
        obtain ⟨gh,qa,h⟩:=ax h
        refine W.II [1,2,6,7,8,9,10] ?_
        refine ah.bf ?_
        obtain rfl:=au h
        exact ah.bs (g_ q q q q q q q)
      refine ah.aU<|W.bk [1,2,6,7,8,9,10] (bp q<|ai (O.add (.lit q) (.k q))<|aq.bk [1,2,6,7,8,9,74] q<|aq.aV) ?_
      obtain rfl:=au h
      exact ah.go (g_ q q q q q q q)
     ·refine W.c9 ?_
      refine ah.c7 ?_
      obtain rfl:=au h
      exact ah.aD (dX q q q q q)
    refine ah.c' ?_
    refine ah.bf ?_
    refine ah.aU<|W.bk [1,2,6,7,8] (bp q<|ai (O.add (.lit q) (.k q))<|aq.bk [1,2,6,7,47] q<|aq.aV) ?_
    obtain rfl:=au h
    exact ah.go (dX q q q q q)
   ·refine W.c9 ?_
    refine ah.c7 ?_
    obtain rfl:=au h
    exact ah.aD (dM q q q q)
  refine ah.c' ?_
  refine ah.aU<|W.aX ?_
  refine W.aT [1,2,6,7,11] ?_
  refine W.bf ?_
  obtain ⟨c8,ao,h⟩:=ax h
  refine W.ca (G1:=[(1,_),(2,_),(6,_),(7,_),(11,_)]) (dX q q q q q) ?_
  refine W.eg (s:=(cn.1,0)) (λ(me:cT × Int)=>[(1,.obj (da.cells a0)),(2,.obj [.aI,.aI,.aI,ae aA,ae aA]),(6,.obj (ej.cells me.1)),(7,ae cn.2),(11,j me.2)]) 4 (λ(c8:cT)=>[(1,.obj (da.cells a0)),(2,.obj [.aI,.aI,.aI,ae aA,ae aA]),(6,.obj (ej.cells c8)),(7,ae cn.2)]) ao (λme o h=>?_) ?_
  ·clear ao
   refine W.aX<|W.aT [1,2,6,7,11,112] ?_
   refine W.bu h q (λvk h=>?_) (λvk h=>?_)
   ·refine W.bF<|ah.aU ?_
    refine W.aX ?_
    obtain ⟨vI,aa,h⟩:=ax h
    refine W.bs [(1,.obj (da.cells a0)),(2,.obj [.aI,.aI,.aI,ae aA,ae aA]),(6,.obj (ej.cells vI)),(7,ae cn.2),(11,j me.2)] ?_ ?_
    ·clear h; have h:=aa; clear aa
     refine W.bf ?_
     obtain ⟨cZ,n3,h⟩:=ax h
     refine W.bV [1,2,6,7,11,12] (ai (O.a_ q (.obj q) kH q)<|ai (O.cU (y:=ag eM a0.dD) q (.ptr q) lr q q)<|bp q<|ai (O.cC (.aF q) (.lit q) lh n3)<|ai (O.iq (cs':=[ae cZ.Left,ag dN cZ.eT,j cZ.At]) (.bo q) Ep q q)<|ai (O.fq (cs:=[ae aA,.aI,j 0]) yF q q)<|aq.dx (G2:=[(1,_),(2,_),(6,_),(7,_),(11,_),(12,_)]) (cs2:=[ae cZ.Left,ag dN cZ.eT,j cZ.At]) q (.obj q) (.b2 q q) q H2 q q q q (.n q q (.n q q (.n q q (.n q q (.n q q (.b q .nil))))))<|bK q) ?_
     refine W.aX ?_
     obtain ⟨gy,pq,h⟩:=ax h
     refine W.bV [1,2,6,7,11,12,125] (ai (O.aC (.obj q))<|ai (O.a_ q (.obj q) sF q)<|ai (O.cq q (.ptr q) eI q)<|ai (O.dE (cs:=[ae cZ.Left,a1 false,j 0,j 0]) uD pK q q q)<|eE (cr.vw (ys:=[.ptr ⟨6,[]⟩ 0,.agg [ae cZ.Left,a1 false,j 0,j 0]]) q (.c (View.oS q q) (.c (.yW (.s (.s (.s (.s .nil))))) .nil)) (EM me.1 (⟨cZ.Left,false,0,0⟩:Sym) _ pq) call95 q)<|aq.aV) ?_
     obtain ⟨fK,aa,h⟩:=ax h
     refine W.bs [(1,.obj (da.cells a0)),(2,.obj [.aI,.aI,.aI,ae aA,ae aA]),(6,.obj (ej.cells fK)),(7,ae cn.2),(11,j me.2),(12,.obj (eM.cells cZ))] ?_ ?_
     ·clear h; have h:=aa; clear aa
      refine W.bu h q (λRf h=>?_) (λRf h=>?_)
      ·obtain ⟨jS,sZ,h⟩:=ax h
       refine W.bk [1,2,6,7,11,12] (ai (O.aC (.obj q))<|ai (O.a_ q (.obj q) E3 q)<|ai (O.cq q (.ptr q) ct q)<|ai (O.a_ q (.obj q) sF q)<|ai (O.cq q (.ptr q) eI q)<|aq.h_ q (b9.call q q (h2.nM (G2:=[(1,.obj (da.cells a0)),(2,.obj [.aI,.aI,.aI,ae aA,ae aA]),(7,ae cn.2),(11,j me.2),(12,.obj (eM.cells cZ))]) (A:=[]) (ys:=[.ptr ⟨6,[]⟩ 0,j cZ.At,ae cZ.Left]) (args:=[.obj (ej.cells me.1),j cZ.At,ae cZ.Left]) (cs':=[ak bq jS.ar.ba,ak a7 jS.ar.bw,ak bE jS.ar.bc,ae jS.ar.bx,ae jS.ar.bA,ak bH jS.b0,ak a7 jS.bX,ak cy jS.bG,j jS.cf,j jS.cg,ae jS.cd,j jS.bW,j jS.bB]) (k0:=0) q q q q (.b q (.n q (.n q .nil))) q (u4 me.1 cZ.At cZ.Left _ sZ) call94 (dX q q q q q) q q (dX q q q q q) .nil q))<|bK q) ?_
       obtain rfl:=au h
       exact ah.bs (fw q q q q q q)
      ·refine W.bF ?_
       obtain rfl:=au h
       exact ah.bs (fw q q q q q q)
     refine ah.aU ?_
     obtain ⟨j7,mE,h⟩:=ax h
     refine W.bV [1,2,6,7,11,12,136] (ai (O.aC (.obj q))<|ai (O.a_ q (.obj q) sF q)<|ai (O.cq q (.ptr q) eI q)<|eE (cr.vw (ys:=[.ptr ⟨6,[]⟩ 0,ae cZ.Left]) q (.c (View.oS q q) (.s .nil)) (xh fK cZ.Left _ mE) call96 q)<|aq.aV) ?_
     obtain ⟨GV,aa,h⟩:=ax h
     refine W.bs [(1,.obj (da.cells a0)),(2,.obj [.aI,.aI,.aI,ae aA,ae aA]),(6,.obj [ak bq fK.ar.ba,ak a7 fK.ar.bw,ak bE fK.ar.bc,ae fK.ar.bx,ae fK.ar.bA,ak bH fK.b0,ak a7 fK.bX,ak cy GV,j fK.cf,j fK.cg,ae fK.cd,j fK.bW,j fK.bB]),(7,ae cn.2),(11,j me.2)] ?_ ?_
     ·clear h; have h:=aa; clear aa
      refine W.bu h q (λRh h=>?_) (λRh h=>?_)
      ·obtain ⟨BI,Gu,h⟩:=ax h
       refine W.rd [[],[],[1],[1,2],[1,2,3],[],[5],[5,6],aN 1 7 [],aN 0 9 [],aN 0 10 [],aN 0 11 []] [(1,_),(2,_),(6,_),(7,_),(11,_)] ei (by kernel_rfl) (av 0 (O.aC (.obj q))<|av 1 (O.aC (.obj q))<|av 2 (O.e5 (.ptr q))<|av 3 (O.a_ q (.ptr q) xn q)<|av 4 (O.cU (y:=.bl cy.z ⟨6,[7]⟩ fK.bG.length) q (.ptr q) zb q q)<|av 5 (O.a_ q (.obj q) sF q)<|av 6 (O.cq q (.ptr q) eI q)<|bC.eY 7 (x:=ag cy [cZ.Left]) (O.dg (ys:=[ae cZ.Left]) cy [cZ.Left] Bu q q q q q q Vv q q) q q q q .none<|av 8 (O.ap (en:=cy) (r:=BI) (.bl q) q (.aF q) .i NV q Gu)<|av 9 (O.e5 (.ptr q))<|av 10 (O.a_ q (.ptr q) xn q)<|bC.iZ 11 (G2:=[(1,.obj (da.cells a0)),(2,.obj [.aI,.aI,.aI,ae aA,ae aA]),(6,.obj [ak bq fK.ar.ba,ak a7 fK.ar.bw,ak bE fK.ar.bc,ae fK.ar.bx,ae fK.ar.bA,ak bH fK.b0,ak a7 fK.bX,ak cy (fK.bG++[cZ.Left]),j fK.cf,j fK.cg,ae fK.cd,j fK.bW,j fK.bB]),(7,ae cn.2),(11,j me.2)]) (b9.kt (g1:=_) (en:=cy) (M:=[cZ.Left]) (cs2:=[ak bq fK.ar.ba,ak a7 fK.ar.bw,ak bE fK.ar.bc,ae fK.ar.bx,ae fK.ar.bA,ak bH fK.b0,ak a7 fK.bX,ak cy (fK.bG++[cZ.Left]),j fK.cf,j fK.cg,ae fK.cd,j fK.bW,j fK.bB]) q q (.ptr q) (.bR q) q q q .iH .gk q q UL q q q q (.n q q (.n q q (.b q (.n q q (.n q q .nil)))))) q q q q (by kernel_rfl) (by kernel_rfl)<|bC.fin q q q (dX q q q q q)) ?_
       obtain rfl:=au h
       exact ah.bs (dX q q q q q)
      ·refine W.bF ?_
       obtain rfl:=au h
       exact ah.bs (dX q q q q q)
     refine ah.bf ?_
     obtain rfl:=au h
     exact ah.bs (dX q q q q q)
    refine ah.aU<|W.bk [1,2,6,7,11] (bp q<|ai (O.add (.lit q) (.k q))<|aq.bk [1,2,6,7,114] q<|aq.aV) ?_
    obtain rfl:=au h
    exact ah.go (dX q q q q q)
   ·refine W.c9 ?_
    refine ah.c7 ?_
    obtain rfl:=au h
    exact ah.aD (dM q q q q)
  refine ah.c' ?_
  refine ah.aU<|W.aX ?_
  refine W.aT [1,2,6,7,13] ?_
  refine W.bf ?_
  obtain ⟨bQ,ao,h⟩:=ax h
  refine W.ca (G1:=[(1,_),(2,_),(6,_),(7,_),(13,_)]) (dX q q q q q) ?_
  refine W.eg (s:=(c8,0)) (λ(mL:cT × Int)=>[(1,.obj (da.cells a0)),(2,.obj [.aI,.aI,.aI,ae aA,ae aA]),(6,.obj (ej.cells mL.1)),(7,ae cn.2),(13,j mL.2)]) 6 (λ(bQ:cT)=>[(1,.obj (da.cells a0)),(2,.obj [.aI,.aI,.aI,ae aA,ae aA]),(6,.obj (ej.cells bQ)),(7,ae cn.2)]) ao (λmL o h=>?_) ?_
  ·clear ao
   refine W.aX<|W.aT [1,2,6,7,13,152] ?_
   refine W.bu h q (λRk h=>?_) (λRk h=>?_)
   ·refine W.bF<|ah.aU ?_
    refine W.aX<|W.bf ?_
    refine W.aT [1,2,6,7,13,14] ?_
    refine W.bf ?_
    obtain ⟨oX,ao,h⟩:=ax h
    refine W.ca (G1:=[(1,_),(2,_),(6,_),(7,_),(13,_),(14,_)]) (fw q q q q q q) ?_
    refine W.eg (s:=(mL.1,0)) (λ(mf:cT × Int)=>[(1,.obj (da.cells a0)),(2,.obj [.aI,.aI,.aI,ae aA,ae aA]),(6,.obj (ej.cells mf.1)),(7,ae cn.2),(13,j mL.2),(14,j mf.2)]) 8 (λ(oX:cT)=>[(1,.obj (da.cells a0)),(2,.obj [.aI,.aI,.aI,ae aA,ae aA]),(6,.obj (ej.cells oX)),(7,ae cn.2),(13,j mL.2)]) ao (λmf o h=>?_) ?_
    ·clear ao
     refine W.aX ?_
     obtain ⟨BJ,Lu,h⟩:=ax h
     refine W.aT [1,2,6,7,13,14,163] ?_
     refine W.bu h q (λFB h=>?_) (λFB h=>?_)
     ·refine W.bF<|ah.aU ?_
      refine W.aX ?_
      obtain ⟨GY,aa,h⟩:=ax h
      refine W.bs [(1,.obj (da.cells a0)),(2,.obj [.aI,.aI,.aI,ae aA,ae aA]),(6,.obj (ej.cells GY)),(7,ae cn.2),(13,j mL.2),(14,j mf.2)] ?_ ?_
      ·clear h; have h:=aa; clear aa
       refine W.bf ?_
       obtain ⟨yC,Gx,h⟩:=ax h
       obtain ⟨kj,uj,h⟩:=ax h
       refine W.bV [1,2,6,7,13,14,15] (ai (O.a_ q (.obj q) pc q)<|ai (O.cU (y:=ag cx a0.Decls) q (.ptr q) pX q q)<|bp q<|ai (O.cC (.aF q) (.lit q) oe Gx)<|ai (O.ez (.bo q) oC)<|ai (O.dd (x:=ag dc yC.eV) (.bo q) p1 q)<|bp q<|ai (O.cC (.aF q) (.lit q) pG uj)<|ai (O.iq (cs':=[ae kj.Name,a1 kj.Lit,j kj.cJ,j kj.At]) (.bo q) kD q q)<|ai (O.fq (cs:=[ae aA,a1 false,j 0,j 0]) pK q q)<|aq.dx (G2:=[(1,_),(2,_),(6,_),(7,_),(13,_),(14,_),(15,_)]) (cs2:=[ae kj.Name,a1 kj.Lit,j kj.cJ,j kj.At]) q (.obj q) (.b2 q q) q wz q q q q (.n q q (.n q q (.n q q (.n q q (.n q q (.n q q (.b q .nil)))))))<|bK q) ?_
       obtain ⟨Ex,aa,h⟩:=ax h
       refine W.rs [(1,.obj (da.cells a0)),(2,.obj [.aI,.aI,.aI,ae aA,ae aA]),(6,.obj (ej.cells mf.1)),(7,ae cn.2),(13,j mL.2),(14,j mf.2),(15,.obj (dc.cells kj)),(188,a1 Ex)] ?_ ?_
       ·refine ai (O.a_ q (.obj q) pc q)<|ai (O.cU (y:=ag cx a0.Decls) q (.ptr q) pX q q)<|ai (O.aC (.lit q)) ?_
        obtain ⟨H_,SQ,aa⟩:=ax aa
        refine ai (O.cC (.aF q) (.lit q) oe SQ)<|ai (O.ez (.bo q) oB)<|ai (O.dd (x:=j H_.Kind) (.bo q) ct q)<|ai (O.geq (.lit q) (.k q))<|ai (O.aC (.lit q)) ?_
        rcases cB aa with ⟨zR,aa⟩ | ⟨zR,aa⟩
        ·refine aW zR (O.aC (.obj q))<|aW zR (O.a_ q (.obj q) kq q)<|aW zR (O.cq q (.ptr q) eI q) ?_
         obtain ⟨kv,oN,aa⟩:=ax aa
         obtain rfl:=au aa
         exact aq.c (cr.vw (ys:=[.ptr ⟨6,[]⟩ 0,ae kj.Name]) q (.c (View.oS q q) (.s .nil)) (xh mf.1 kj.Name _ oN) call96 q) q q (.hf q q zR)<|aq.aV
        ·obtain rfl:=au aa
         exact aq.aV
       obtain ⟨GZ,aa,h⟩:=ax h
       refine W.bs [(1,.obj (da.cells a0)),(2,.obj [.aI,.aI,.aI,ae aA,ae aA]),(6,.obj (ej.cells GZ)),(7,ae cn.2),(13,j mL.2),(14,j mf.2)] ?_ ?_
       ·clear h; have h:=aa; clear aa
        refine W.bu h q (λRo h=>?_) (λRo h=>?_)
        ·obtain ⟨mR,Gz,h⟩:=ax h
         refine W.bk [1,2,6,7,13,14] (ai (O.aC (.obj q))<|ai (O.a_ q (.obj q) qO q)<|ai (O.cq q (.ptr q) ct q)<|ai (O.a_ q (.obj q) kq q)<|ai (O.cq q (.ptr q) eI q)<|aq.h_ q (b9.call q q (h2.nM (G2:=[(1,.obj (da.cells a0)),(2,.obj [.aI,.aI,.aI,ae aA,ae aA]),(7,ae cn.2),(13,j mL.2),(14,j mf.2)]) (A:=[]) (ys:=[.ptr ⟨6,[]⟩ 0,j kj.At,ae kj.Name]) (args:=[.obj (ej.cells mf.1),j kj.At,ae kj.Name]) (cs':=[ak bq mR.ar.ba,ak a7 mR.ar.bw,ak bE mR.ar.bc,ae mR.ar.bx,ae mR.ar.bA,ak bH mR.b0,ak a7 mR.bX,ak cy mR.bG,j mR.cf,j mR.cg,ae mR.cd,j mR.bW,j mR.bB]) (k0:=0) q q q q (.b q (.n q (.n q .nil))) q (u4 mf.1 kj.At kj.Name _ Gz) call94 (dX q q q q q) q q (dX q q q q q) .nil q))<|bK q) ?_
         obtain rfl:=au h
         exact ah.bs (fw q q q q q q)
        ·refine W.bF ?_
         obtain rfl:=au h
         exact ah.bs (fw q q q q q q)
       refine ah.bf ?_
       obtain rfl:=au h
       exact ah.bs (fw q q q q q q)
      refine ah.aU<|W.bk [1,2,6,7,13,14] (bp q<|ai (O.add (.lit q) (.k q))<|aq.bk [1,2,6,7,13,165] q<|aq.aV) ?_
      obtain rfl:=au h
      exact ah.go (fw q q q q q q)
     ·refine W.c9 ?_
      refine ah.c7 ?_
      obtain rfl:=au h
      exact ah.aD (dX q q q q q)
    refine ah.c' ?_
    refine ah.bf ?_
    refine ah.aU<|W.bk [1,2,6,7,13] (bp q<|ai (O.add (.lit q) (.k q))<|aq.bk [1,2,6,7,154] q<|aq.aV) ?_
    obtain rfl:=au h
    exact ah.go (dX q q q q q)
   ·refine W.c9 ?_
    refine ah.c7 ?_
    obtain rfl:=au h
    exact ah.aD (dM q q q q)
  refine ah.c' ?_
  refine ah.aU<|W.aX ?_
  refine W.aT [1,2,6,7,196] ?_
  obtain ⟨vJ,aa,h⟩:=ax h
  refine W.bs [(1,.obj (da.cells a0)),(2,.obj [.aI,.aI,.aI,ae aA,ae aA]),(6,.obj (ej.cells bQ)),(7,ae vJ)] ?_ ?_
  ·clear h; have h:=aa; clear aa
   refine W.bu h q (λRq h=>?_) (λRq h=>?_)
   ·obtain ⟨uK,Am,h⟩:=ax h
    refine W.bk [1,2,6,7] (ai (O.a_ q (.obj q) kH q)<|ai (O.cU (y:=ag eM a0.dD) q (.ptr q) lr q q)<|ai (O.cC (.aF q) (.k q) lh Am)<|ai (O.ez (.bo q) sF)<|ai (O.dd (x:=ae uK.Left) (.bo q) eI q)<|aq.bk [1,2,6,201] q<|aq.aV) ?_
    obtain rfl:=au h
    exact ah.bs (dM q q q q)
   ·refine W.bF ?_
    obtain rfl:=au h
    exact ah.bs (dM q q q q)
  refine ah.aU ?_
  obtain ⟨ig,SY,h⟩:=ax h
  refine W.bV [1,2,6] (ai (O.aC (.obj q))<|ai (O.aC (.obj q))<|bp q<|eE (cr.vw (ys:=[.ptr ⟨6,[]⟩ 0,ae vJ]) q (.c (View.oS q q) (.s .nil)) (xh bQ vJ _ SY) call96 q)<|ai (O.add (.k q) (.lit q))<|aq.eY (x:=ag aG [aO (1001+ig)]) (O.dg (ys:=[j (aO (1001+ig))]) aG [aO (1001+ig)] eS q q q q q q nR q q) q q .none<|aq.eY (x:=.agg [j 0,ag aG [aO (1001+ig)],j (-1),ae aA,ag aG ([]:List Int),j 0]) (O.dE (cs:=[j 0,ag aG [aO (1001+ig)],j (-1),ae aA,.aI,j 0]) HH BM q q q) q q .none<|ai (O.dg (ys:=[.agg [j 0,ag aG [aO (1001+ig)],j (-1),ae aA,ag aG ([]:List Int),j 0]]) bE [(⟨0,[aO (1001+ig)],(-1),aA,([]:List Int),0⟩:Prod)] ns q q q q q q Ii q q)<|ai (O.e5 (.ptr q))<|ai (O.a_ q (.ptr q) kp q)<|ai (O.a_ q (.ptr q) lI q)<|aq.h_ (G2:=[(1,.obj (da.cells a0)),(2,.obj [.aI,.aI,.aI,ae aA,ae aA]),(6,.obj [ak bq bQ.ar.ba,ak a7 bQ.ar.bw,ak bE [(⟨0,[aO (1001+ig)],(-1),aA,([]:List Int),0⟩:Prod)],ae bQ.ar.bx,ae bQ.ar.bA,ak bH bQ.b0,ak a7 bQ.bX,ak cy bQ.bG,j bQ.cf,j bQ.cg,ae bQ.cd,j bQ.bW,j bQ.bB])]) q (b9.yv (y':=ak bE [(⟨0,[aO (1001+ig)],(-1),aA,([]:List Int),0⟩:Prod)]) (cs2:=[ak bq bQ.ar.ba,ak a7 bQ.ar.bw,ak bE [(⟨0,[aO (1001+ig)],(-1),aA,([]:List Int),0⟩:Prod)],ae bQ.ar.bx,ae bQ.ar.bA,ak bH bQ.b0,ak a7 bQ.bX,ak cy bQ.bG,j bQ.cf,j bQ.cg,ae bQ.cd,j bQ.bW,j bQ.bB]) q q (.ptr q) (.own q) (.r q .nil) .refl q HX q q q q q (.n q q (.n q q (.b q .nil))))<|bK q) ?_
  refine W.aX<|W.aT [1,2,6,16] ?_
  refine W.bf ?_
  obtain ⟨a6,ao,h⟩:=ax h
  refine W.ca (G1:=[(1,_),(2,_),(6,.obj [ak bq (((⟨(⟨bQ.ar.ba,bQ.ar.bw,[(⟨0,[aO (1001+ig)],(-1),aA,([]:List Int),0⟩:Prod)],bQ.ar.bx,bQ.ar.bA⟩:b'),bQ.b0,bQ.bX,bQ.bG,bQ.cf,bQ.cg,bQ.cd,bQ.bW,bQ.bB⟩:cT).ar).ba),ak a7 (((⟨(⟨bQ.ar.ba,bQ.ar.bw,[(⟨0,[aO (1001+ig)],(-1),aA,([]:List Int),0⟩:Prod)],bQ.ar.bx,bQ.ar.bA⟩:b'),bQ.b0,bQ.bX,bQ.bG,bQ.cf,bQ.cg,bQ.cd,bQ.bW,bQ.bB⟩:cT).ar).bw),ak bE (((⟨(⟨bQ.ar.ba,bQ.ar.bw,[(⟨0,[aO (1001+ig)],(-1),aA,([]:List Int),0⟩:Prod)],bQ.ar.bx,bQ.ar.bA⟩:b'),bQ.b0,bQ.bX,bQ.bG,bQ.cf,bQ.cg,bQ.cd,bQ.bW,bQ.bB⟩:cT).ar).bc),ae (((⟨(⟨bQ.ar.ba,bQ.ar.bw,[(⟨0,[aO (1001+ig)],(-1),aA,([]:List Int),0⟩:Prod)],bQ.ar.bx,bQ.ar.bA⟩:b'),bQ.b0,bQ.bX,bQ.bG,bQ.cf,bQ.cg,bQ.cd,bQ.bW,bQ.bB⟩:cT).ar).bx),ae (((⟨(⟨bQ.ar.ba,bQ.ar.bw,[(⟨0,[aO (1001+ig)],(-1),aA,([]:List Int),0⟩:Prod)],bQ.ar.bx,bQ.ar.bA⟩:b'),bQ.b0,bQ.bX,bQ.bG,bQ.cf,bQ.cg,bQ.cd,bQ.bW,bQ.bB⟩:cT).ar).bA),ak bH ((⟨(⟨bQ.ar.ba,bQ.ar.bw,[(⟨0,[aO (1001+ig)],(-1),aA,([]:List Int),0⟩:Prod)],bQ.ar.bx,bQ.ar.bA⟩:b'),bQ.b0,bQ.bX,bQ.bG,bQ.cf,bQ.cg,bQ.cd,bQ.bW,bQ.bB⟩:cT).b0),ak a7 ((⟨(⟨bQ.ar.ba,bQ.ar.bw,[(⟨0,[aO (1001+ig)],(-1),aA,([]:List Int),0⟩:Prod)],bQ.ar.bx,bQ.ar.bA⟩:b'),bQ.b0,bQ.bX,bQ.bG,bQ.cf,bQ.cg,bQ.cd,bQ.bW,bQ.bB⟩:cT).bX),ak cy ((⟨(⟨bQ.ar.ba,bQ.ar.bw,[(⟨0,[aO (1001+ig)],(-1),aA,([]:List Int),0⟩:Prod)],bQ.ar.bx,bQ.ar.bA⟩:b'),bQ.b0,bQ.bX,bQ.bG,bQ.cf,bQ.cg,bQ.cd,bQ.bW,bQ.bB⟩:cT).bG),j ((⟨(⟨bQ.ar.ba,bQ.ar.bw,[(⟨0,[aO (1001+ig)],(-1),aA,([]:List Int),0⟩:Prod)],bQ.ar.bx,bQ.ar.bA⟩:b'),bQ.b0,bQ.bX,bQ.bG,bQ.cf,bQ.cg,bQ.cd,bQ.bW,bQ.bB⟩:cT).cf),j ((⟨(⟨bQ.ar.ba,bQ.ar.bw,[(⟨0,[aO (1001+ig)],(-1),aA,([]:List Int),0⟩:Prod)],bQ.ar.bx,bQ.ar.bA⟩:b'),bQ.b0,bQ.bX,bQ.bG,bQ.cf,bQ.cg,bQ.cd,bQ.bW,bQ.bB⟩:cT).cg),ae ((⟨(⟨bQ.ar.ba,bQ.ar.bw,[(⟨0,[aO (1001+ig)],(-1),aA,([]:List Int),0⟩:Prod)],bQ.ar.bx,bQ.ar.bA⟩:b'),bQ.b0,bQ.bX,bQ.bG,bQ.cf,bQ.cg,bQ.cd,bQ.bW,bQ.bB⟩:cT).cd),j ((⟨(⟨bQ.ar.ba,bQ.ar.bw,[(⟨0,[aO (1001+ig)],(-1),aA,([]:List Int),0⟩:Prod)],bQ.ar.bx,bQ.ar.bA⟩:b'),bQ.b0,bQ.bX,bQ.bG,bQ.cf,bQ.cg,bQ.cd,bQ.bW,bQ.bB⟩:cT).bW),j ((⟨(⟨bQ.ar.ba,bQ.ar.bw,[(⟨0,[aO (1001+ig)],(-1),aA,([]:List Int),0⟩:Prod)],bQ.ar.bx,bQ.ar.bA⟩:b'),bQ.b0,bQ.bX,bQ.bG,bQ.cf,bQ.cg,bQ.cd,bQ.bW,bQ.bB⟩:cT).bB)]),(16,_)]) (dM q q q q) ?_
  refine W.eg (s:=((⟨(⟨bQ.ar.ba,bQ.ar.bw,[(⟨0,[aO (1001+ig)],(-1),aA,([]:List Int),0⟩:Prod)],bQ.ar.bx,bQ.ar.bA⟩:b'),bQ.b0,bQ.bX,bQ.bG,bQ.cf,bQ.cg,bQ.cd,bQ.bW,bQ.bB⟩:cT),0)) (λ(nO:cT × Int)=>[(1,.obj (da.cells a0)),(2,.obj [.aI,.aI,.aI,ae aA,ae aA]),(6,.obj (ej.cells nO.1)),(16,j nO.2)]) 10 (λ(a6:cT)=>[(1,.obj (da.cells a0)),(2,.obj [.aI,.aI,.aI,ae aA,ae aA]),(6,.obj (ej.cells a6))]) ao (λnO o h=>?_) ?_
  ·clear ao
   refine W.aX<|W.aT [1,2,6,16,217] ?_
   refine W.bu h q (λRr h=>?_) (λRr h=>?_)
   ·refine W.bF<|ah.aU ?_
    refine W.aX<|W.bf ?_
    refine W.aT [1,2,6,16,17] ?_
    refine W.bf ?_
    obtain ⟨kx,ao,h⟩:=ax h
    refine W.ca (G1:=[(1,_),(2,_),(6,_),(16,_),(17,_)]) (dX q q q q q) ?_
    refine W.eg (s:=(nO.1,0)) (λ(pE:cT × Int)=>[(1,.obj (da.cells a0)),(2,.obj [.aI,.aI,.aI,ae aA,ae aA]),(6,.obj (ej.cells pE.1)),(16,j nO.2),(17,j pE.2)]) 12 (λ(kx:cT)=>[(1,.obj (da.cells a0)),(2,.obj [.aI,.aI,.aI,ae aA,ae aA]),(6,.obj (ej.cells kx)),(16,j nO.2)]) ao (λpE o h=>?_) ?_
    ·clear ao
     refine W.aX ?_
     obtain ⟨BK,Lw,h⟩:=ax h
     refine W.aT [1,2,6,16,17,228] ?_
     refine W.bu h q (λRt h=>?_) (λRt h=>?_)
     ·refine W.bF<|ah.aU ?_
      refine W.aX<|W.bf ?_
      obtain ⟨yD,S0,h⟩:=ax h
      obtain ⟨Ib,S1,h⟩:=ax h
      obtain ⟨rr,S2,h⟩:=ax h
      obtain ⟨jD,S3,h⟩:=ax h
      refine W.rd [[],[],[1],[],[1,2,3],[1,2,3,4],aN 1 5 [],[],[7],[],[7,8,9],[7,8,9,10],aN 7 5 [],[],aN 7 7 [],aN 7 8 [],aN 0 16 []] [(1,_),(2,_),(6,_),(16,_),(17,_)] ei (by kernel_rfl) (av 0 (O.aC (.obj q))<|av 1 (O.a_ q (.obj q) kH q)<|av 2 (O.cU (y:=ag eM a0.dD) q (.ptr q) lr q q)<|av 3 (O.aC (.lit q))<|av 4 (O.cC (.aF q) (.lit q) lh S0)<|av 5 (O.ez (.bo q) sF)<|av 6 (O.dd (x:=ae yD.Left) (.bo q) eI q)<|av 7 (O.a_ q (.obj q) kH q)<|av 8 (O.cU (y:=ag eM a0.dD) q (.ptr q) lr q q)<|av 9 (O.aC (.lit q))<|av 10 (O.cC (.aF q) (.lit q) lh S1)<|av 11 (O.ez (.bo q) nY)<|av 12 (O.dd (x:=ag dN Ib.eT) (.bo q) p0 q)<|av 13 (O.aC (.lit q))<|av 14 (O.cC (.aF q) (.lit q) pF S2)<|av 15 (O.iq (cs':=[ag ed rr.h9,ae rr.Prec.Name,a1 rr.Prec.Lit,j rr.Prec.cJ,j rr.Prec.At,j rr.At]) (.bo q) Cb q q)<|bC.iZ 16 (G2:=[(247,.cG []),(6,.obj [ak bq jD.ar.ba,ak a7 jD.ar.bw,ak bE jD.ar.bc,ae jD.ar.bx,ae jD.ar.bA,ak bH jD.b0,ak a7 jD.bX,ak cy jD.bG,j jD.cf,j jD.cg,ae jD.cd,j jD.bW,j jD.bB]),(1,.obj (da.cells a0)),(2,.obj [.aI,.aI,.aI,ae aA,ae aA]),(16,j nO.2),(17,j pE.2)]) (b9.call q q (h2.nM (G2:=[(1,.obj (da.cells a0)),(2,.obj [.aI,.aI,.aI,ae aA,ae aA]),(16,j nO.2),(17,j pE.2)]) (A:=[]) (ys:=[.ptr ⟨6,[]⟩ 0,ae yD.Left,.agg (dN.cells rr)]) (args:=[.obj (ej.cells pE.1),ae yD.Left,.agg (dN.cells rr)]) (cs':=[ak bq jD.ar.ba,ak a7 jD.ar.bw,ak bE jD.ar.bc,ae jD.ar.bx,ae jD.ar.bA,ak bH jD.b0,ak a7 jD.bX,ak cy jD.bG,j jD.cf,j jD.cg,ae jD.cd,j jD.bW,j jD.bB]) (k0:=0) q q q q (.b q (.n q (.n q .nil))) q (Pw pE.1 yD.Left rr _ S3) call97 (dM q q q q) q q (dM q q q q) .nil q)) q q q q (by kernel_rfl) (by kernel_rfl)<|bC.fin q q q (dX q q q q q)) ?_
      refine ah.bf ?_
      refine ah.aU<|W.bk [1,2,6,16,17] (bp q<|ai (O.add (.lit q) (.k q))<|aq.bk [1,2,6,16,230] q<|aq.aV) ?_
      obtain rfl:=au h
      exact ah.go (dX q q q q q)
     ·refine W.c9 ?_
      refine ah.c7 ?_
      obtain rfl:=au h
      exact ah.aD (dM q q q q)
    refine ah.c' ?_
    refine ah.bf ?_
    refine ah.aU<|W.bk [1,2,6,16] (bp q<|ai (O.add (.lit q) (.k q))<|aq.bk [1,2,6,219] q<|aq.aV) ?_
    obtain rfl:=au h
    exact ah.go (dM q q q q)
   ·refine W.c9 ?_
    refine ah.c7 ?_
    obtain rfl:=au h
    exact ah.aD (dt q q q)
  refine ah.c' ?_
  refine ah.aU<|W.aX ?_
  refine W.aT [1,2,6,252] ?_
  refine W.bu h q (λRu h=>?_) (λRu h=>?_)
  ·refine W.aX<|W.rd [[],[],[1],[1,2],[1,2,3],[],[5],[5,6],[5,6,7],[],[9],[9,10],[9,10,11],[0],aN 0 5 [13],aN 0 9 [13,14],aN 0 16 []] [(2,_),(3,_),(4,_),(5,_)] ei (by kernel_rfl) (av 0 (O.dE (cs:=[.aI,.aI,.aI,ae aA,ae aA]) HJ oY q q q)<|av 1 (O.aC (.obj q))<|av 2 (O.e5 (.ptr q))<|av 3 (O.a_ q (.ptr q) zn q)<|av 4 (O.cq q (.ptr q) ct q)<|av 5 (O.aC (.obj q))<|av 6 (O.e5 (.ptr q))<|av 7 (O.a_ q (.ptr q) zo q)<|av 8 (O.cq q (.ptr q) ct q)<|av 9 (O.aC (.obj q))<|av 10 (O.e5 (.ptr q))<|av 11 (O.a_ q (.ptr q) zp q)<|av 12 (O.cq q (.ptr q) eI q)<|bC.dE 13 (G2:=[(2,.obj [.aI,.aI,.aI,ae aA,ae aA]),(6,.obj (ej.cells a6))]) (U:=[(12,265,some (ae a6.cd)),(11,264,some (.ptr ⟨6,[]⟩ 10)),(10,263,some (.ptr ⟨6,[]⟩ 0)),(9,262,some (.ptr ⟨6,[]⟩ 0)),(8,261,some (j a6.cg)),(7,260,some (.ptr ⟨6,[]⟩ 9)),(6,259,some (.ptr ⟨6,[]⟩ 0)),(5,258,some (.ptr ⟨6,[]⟩ 0)),(4,257,some (j a6.cf)),(3,256,some (.ptr ⟨6,[]⟩ 8)),(2,255,some (.ptr ⟨6,[]⟩ 0)),(1,254,some (.ptr ⟨6,[]⟩ 0))]) (kV.v (b9.mY (b9.dx (G2:=[(2,.obj [.aI,.aI,.aI,ae aA,ae aA]),(6,.obj (ej.cells a6))]) (cs2:=[.aI,.aI,.aI,ae aA,ae aA]) q q q (.obj q) (.b2 q q) q nt q q q q (.b q (.n q q .nil))))) q q (by kernel_rfl) q q q (.c (.inr (.inl ⟨_,q⟩)) q q q q q (gz.wanted .none) (O.cq q (.ptr q) eI q) (.c (.inr (.inr (.inr (.inl ⟨6,_,_,q,q,jA q,by simp,_,q,jA q⟩)))) q q q q q (gz.wanted .none) (O.a_ q (.ptr q) zp q) (.c (.inr (.inr (.inr (.inl ⟨6,_,_,q,q,jA q,by simp,_,q,jA q⟩)))) q q q q q (gz.wanted .none) (O.e5 (.ptr q)) (.c (.inr (.inr (.inr (.inl ⟨6,_,_,q,q,jA q,by simp,_,q,jA q⟩)))) q q q q q (gz.wanted .none) (O.aC (.obj q)) (.c (.inr (.inl ⟨_,q⟩)) q q q q q (gz.wanted .none) (O.cq q (.ptr q) ct q) (.c (.inr (.inr (.inr (.inl ⟨6,_,_,q,q,jA q,by simp,_,q,jA q⟩)))) q q q q q (gz.wanted .none) (O.a_ q (.ptr q) zo q) (.c (.inr (.inr (.inr (.inl ⟨6,_,_,q,q,jA q,by simp,_,q,jA q⟩)))) q q q q q (gz.wanted .none) (O.e5 (.ptr q)) (.c (.inr (.inr (.inr (.inl ⟨6,_,_,q,q,jA q,by simp,_,q,jA q⟩)))) q q q q q (gz.wanted .none) (O.aC (.obj q)) (.c (.inr (.inl ⟨_,q⟩)) q q q q q (gz.wanted .none) (O.cq q (.ptr q) ct q) (.c (.inr (.inr (.inr (.inl ⟨6,_,_,q,q,jA q,by simp,_,q,jA q⟩)))) q q q q q (gz.wanted .none) (O.a_ q (.ptr q) zn q) (.c (.inr (.inr (.inr (.inl ⟨6,_,_,q,q,jA q,by simp,_,q,jA q⟩)))) q q q q q (gz.wanted .none) (O.e5 (.ptr q)) (.c (.inr (.inr (.inr (.inl ⟨6,_,_,q,q,jA q,by simp,_,q,jA q⟩)))) q q q q q (gz.wanted .none) (O.aC (.obj q)) .nil)))))))))))) (by kernel_rfl)<|av 14 (O.ec (.lit q))<|av 15 (O.ec (.lit q))<|av 16 (O.ec (.lit q))<|bC.fin q q q (dM q q q q)) ?_
   refine ah.aU<|W.eF (G1:=[(2,.obj [ag bq ([]:List b5),ag a7 ([]:List e4),ag bE ([]:List Prod),ae aA,ae aA]),(3,_),(4,_),(5,_)]) [2] (.z q q (gr.obj (.z (.z (.z (.f (.f .nil)))))) (.n q q (.n q q (.n q q .nil)))) ?_
   refine W.rt ?_
   refine ah.c5 ?_
   obtain rfl:=au h
   exact cw (.c (ys0:=[ag bq ([]:List b5),ag a7 ([]:List e4),ag bE ([]:List Prod),ae aA,ae aA]) q gA q q q (.f q (.f q (.f q (.f q (.f q .nil))))) (.f q q (.f q q (.f q q .nil))))
  ·refine W.bF<|ah.aU ?_
   refine W.bV [1,2,6] (ai (O.aC (.obj q))<|ai (O.dE (cs:=[ae ({ data:=#[36,97,99,99,101,112,116] }),ae aA]) DL BN q q q)<|ai (O.dg (ys:=[.agg [ae ({ data:=#[36,97,99,99,101,112,116] }),ae aA]]) a7 [(⟨{ data:=#[36,97,99,99,101,112,116] },aA⟩:e4)] r5 q q q q q q D5 q q)<|ai (O.e5 (.ptr q))<|ai (O.a_ q (.ptr q) kp q)<|ai (O.a_ q (.ptr q) sC q)<|aq.h_ (G2:=[(1,.obj (da.cells a0)),(2,.obj [.aI,.aI,.aI,ae aA,ae aA]),(6,.obj [ak bq a6.ar.ba,ak a7 [(⟨{ data:=#[36,97,99,99,101,112,116] },aA⟩:e4)],ak bE a6.ar.bc,ae a6.ar.bx,ae a6.ar.bA,ak bH a6.b0,ak a7 a6.bX,ak cy a6.bG,j a6.cf,j a6.cg,ae a6.cd,j a6.bW,j a6.bB])]) q (b9.yv (y':=ak a7 [(⟨{ data:=#[36,97,99,99,101,112,116] },aA⟩:e4)]) (cs2:=[ak bq a6.ar.ba,ak a7 [(⟨{ data:=#[36,97,99,99,101,112,116] },aA⟩:e4)],ak bE a6.ar.bc,ae a6.ar.bx,ae a6.ar.bA,ak bH a6.b0,ak a7 a6.bX,ak cy a6.bG,j a6.cf,j a6.cg,ae a6.cd,j a6.bW,j a6.bB]) q q (.ptr q) (.own q) (.r q .nil) .refl q DR q q q q q (.n q q (.n q q (.b q .nil))))<|bK q) ?_
   refine W.aX<|W.aT [1,2,6,18] ?_
   refine W.bf ?_
   obtain ⟨wD,ao,h⟩:=ax h
   refine W.ca (G1:=[(1,_),(2,_),(6,_),(18,_)]) (dM q q q q) ?_
   refine W.eg (s:=([(⟨{ data:=#[36,97,99,99,101,112,116] },aA⟩:e4)],0)) (λ(mM:List e4 × Int)=>[(1,.obj (da.cells a0)),(2,.obj [.aI,.aI,.aI,ae aA,ae aA]),(6,.obj [ak bq a6.ar.ba,ak a7 mM.1,ak bE a6.ar.bc,ae a6.ar.bx,ae a6.ar.bA,ak bH a6.b0,ak a7 a6.bX,ak cy a6.bG,j a6.cf,j a6.cg,ae a6.cd,j a6.bW,j a6.bB]),(18,j mM.2)]) 14 (λ(wD:List e4)=>[(1,.obj (da.cells a0)),(2,.obj [.aI,.aI,.aI,ae aA,ae aA]),(6,.obj [ak bq a6.ar.ba,ak a7 wD,ak bE a6.ar.bc,ae a6.ar.bx,ae a6.ar.bA,ak bH a6.b0,ak a7 a6.bX,ak cy a6.bG,j a6.cf,j a6.cg,ae a6.cd,j a6.bW,j a6.bB])]) ao (λmM o h=>?_) ?_
   ·clear ao
    refine W.aX<|W.aT [1,2,6,18,278] ?_
    refine W.bu h q (λRv h=>?_) (λRv h=>?_)
    ·refine W.bF<|ah.aU ?_
     refine W.aX<|W.bf ?_
     obtain ⟨mj,Lx,h⟩:=ax h
     refine W.bV [1,2,6,18,19] (ai (O.aC (.obj q))<|ai (O.e5 (.ptr q))<|ai (O.a_ q (.ptr q) xn q)<|ai (O.cU (y:=.bl cy.z ⟨6,[7]⟩ a6.bG.length) q (.ptr q) zb q q)<|bp q<|ai (O.gY (en:=cy) q (.bl q) (.lit q) Bu Lx q)<|ai (O.jz (en:=cy) (x':=ae mj) q (.ptr q) eI Lx q q)<|ai (O.dE (cs:=[ae mj,ae aA]) DL BN q q q)<|ai (O.fq (cs:=[ae aA,ae aA]) BN q q)<|aq.dx (G2:=[(1,_),(2,_),(6,_),(18,_),(19,_)]) (cs2:=[ae mj,ae aA]) q (.obj q) (.b2 q q) q UM q q q q (.n q q (.n q q (.n q q (.n q q (.b q .nil)))))<|bK q) ?_
     refine W.aX ?_
     obtain ⟨wE,S4,h⟩:=ax h
     refine W.bV [1,2,6,18,19,20] (ai (O.aC (.obj q))<|ai (O.a_ q (.obj q) J1 q)<|ai (O.cq q (.ptr q) eI q)<|eE (cr.vw (ys:=[.ptr ⟨6,[]⟩ 0,ae mj]) q (.c (View.oS q q) (.s .nil)) (JE (⟨(⟨a6.ar.ba,mM.1,a6.ar.bc,a6.ar.bx,a6.ar.bA⟩:b'),a6.b0,a6.bX,a6.bG,a6.cf,a6.cg,a6.cd,a6.bW,a6.bB⟩:cT) mj _ S4) call98 q)<|aq.aV) ?_
     refine W.aT [1,2,6,18,19,20,294] ?_
     obtain ⟨qc,aa,h⟩:=ax h
     refine W.bs [(1,.obj (da.cells a0)),(2,.obj [.aI,.aI,.aI,ae aA,ae aA]),(6,.obj [ak bq a6.ar.ba,ak a7 mM.1,ak bE a6.ar.bc,ae a6.ar.bx,ae a6.ar.bA,ak bH a6.b0,ak a7 a6.bX,ak cy a6.bG,j a6.cf,j a6.cg,ae a6.cd,j a6.bW,j a6.bB]),(18,j mM.2),(19,.obj [ae mj,ae qc])] ?_ ?_
     ·clear h; have h:=aa; clear aa
      refine W.bu h q (λRw h=>?_) (λRw h=>?_)
      ·obtain ⟨D0,GA,h⟩:=ax h
       refine W.bk [1,2,6,18,19] (ai (O.aC (.obj q))<|ai (O.e5 (.ptr q))<|ai (O.a_ q (.ptr q) zm q)<|ai (O.cU (y:=.bl a7.z ⟨6,[6]⟩ a6.bX.length) q (.ptr q) sw q q)<|bp q<|ai (O.gY (en:=a7) q (.bl q) (.lit q) r5 GA q)<|ai (O.ko (en:=a7) q (.ptr q) CA GA q q)<|ai (O.jz (en:=a7) (x':=ae D0.Tag) q (.ptr q) eI GA q q)<|ai (O.a_ q (.obj q) CA q)<|aq.dx (G2:=[(1,_),(2,_),(6,_),(18,_),(19,_)]) (cs2:=[ae mj,ae D0.Tag]) q (.ptr q) (.lit q) q wA q q q q (.n q q (.n q q (.n q q (.n q q (.b q .nil)))))<|bK q) ?_
       obtain rfl:=au h
       exact ah.bs (dX q q q q q)
      ·refine W.bF ?_
       obtain rfl:=au h
       exact ah.bs (dX q q q q q)
     refine ah.aU ?_
     obtain ⟨M7,S5,h⟩:=ax h
     refine W.rd [[],[],[1],[1,2],[1,2,3],[1,2,3,4],[],[6],aN 1 7 [],aN 0 9 [],aN 0 10 [],aN 0 11 [],aN 0 12 []] [(1,_),(2,_),(6,_),(18,_)] ei (by kernel_rfl) (av 0 (O.aC (.obj q))<|av 1 (O.aC (.obj q))<|av 2 (O.e5 (.ptr q))<|av 3 (O.a_ q (.ptr q) kp q)<|av 4 (O.a_ q (.ptr q) sC q)<|av 5 (O.cU (y:=.bl a7.z ⟨6,[1]⟩ mM.1.length) q (.ptr q) sw q q)<|av 6 (O.dR (cs':=[ae mj,ae qc]) q (.obj q) N_ q q)<|bC.eY 7 (x:=ag a7 [(⟨mj,qc⟩:e4)]) (O.dg (ys:=[.agg [ae mj,ae qc]]) a7 [(⟨mj,qc⟩:e4)] r5 q q q q q q D5 q q) q q q q .none<|av 8 (O.ap (en:=a7) (r:=M7) (.bl q) q (.aF q) .i Ej q S5)<|av 9 (O.e5 (.ptr q))<|av 10 (O.a_ q (.ptr q) kp q)<|av 11 (O.a_ q (.ptr q) sC q)<|bC.iZ 12 (G2:=[(1,.obj (da.cells a0)),(2,.obj [.aI,.aI,.aI,ae aA,ae aA]),(6,.obj [ak bq a6.ar.ba,ak a7 (mM.1++[(⟨mj,qc⟩:e4)]),ak bE a6.ar.bc,ae a6.ar.bx,ae a6.ar.bA,ak bH a6.b0,ak a7 a6.bX,ak cy a6.bG,j a6.cf,j a6.cg,ae a6.cd,j a6.bW,j a6.bB]),(18,j mM.2)]) (b9.kt (g1:=_) (en:=a7) (M:=[(⟨mj,qc⟩:e4)]) (cs2:=[ak bq a6.ar.ba,ak a7 (mM.1++[(⟨mj,qc⟩:e4)]),ak bE a6.ar.bc,ae a6.ar.bx,ae a6.ar.bA,ak bH a6.b0,ak a7 a6.bX,ak cy a6.bG,j a6.cf,j a6.cg,ae a6.cd,j a6.bW,j a6.bB]) q q (.ptr q) (.bR q) q q q .iH .gk q q DR q q q q (.n q q (.n q q (.b q (.n q q .nil))))) q q q q (by kernel_rfl) (by kernel_rfl)<|bC.fin q q q (dM q q q q)) ?_
     refine ah.bf ?_
     refine ah.aU<|W.bk [1,2,6,18] (bp q<|ai (O.add (.lit q) (.k q))<|aq.bk [1,2,6,280] q<|aq.aV) ?_
     obtain rfl:=au h
     exact ah.go (dM q q q q)
    ·refine W.c9 ?_
     refine ah.c7 ?_
     obtain rfl:=au h
     exact ah.aD (dt q q q)
   refine ah.c' ?_
   refine ah.aU<|W.aX ?_
   refine W.aT [1,2,6,21] ?_
   refine W.bf ?_
   obtain ⟨jl,ao,h⟩:=ax h
   refine W.ca (G1:=[(1,_),(2,_),(6,_),(21,_)]) (dM q q q q) ?_
   refine W.eg (s:=(wD,1)) (λ(od:List e4 × Int)=>[(1,.obj (da.cells a0)),(2,.obj [.aI,.aI,.aI,ae aA,ae aA]),(6,.obj [ak bq a6.ar.ba,ak a7 od.1,ak bE a6.ar.bc,ae a6.ar.bx,ae a6.ar.bA,ak bH a6.b0,ak a7 a6.bX,ak cy a6.bG,j a6.cf,j a6.cg,ae a6.cd,j a6.bW,j a6.bB]),(21,j od.2)]) 16 (λ(jl:List e4)=>[(1,.obj (da.cells a0)),(2,.obj [.aI,.aI,.aI,ae aA,ae aA]),(6,.obj [ak bq a6.ar.ba,ak a7 jl,ak bE a6.ar.bc,ae a6.ar.bx,ae a6.ar.bA,ak bH a6.b0,ak a7 a6.bX,ak cy a6.bG,j a6.cf,j a6.cg,ae a6.cd,j a6.bW,j a6.bB])]) ao (λod o h=>?_) ?_
   ·clear ao
    refine W.aX<|W.aT [1,2,6,21,321] ?_
    refine W.bu h q (λRx h=>?_) (λRx h=>?_)
    ·refine W.bF<|ah.aU ?_
     refine W.aX<|W.bf ?_
     obtain ⟨D1,S6,h⟩:=ax h
     obtain ⟨ru,S7,h⟩:=ax h
     obtain ⟨M8,S8,h⟩:=ax h
     refine W.rd [[],[],[1],[1,2],[1,2,3],[1,2,3,4],[],[6],[6,7],[6,7,8],[6,7,8,9],aN 1 10 [],aN 0 12 [],aN 0 13 [],aN 0 14 [],aN 0 15 []] [(1,_),(2,_),(6,_),(21,_)] ei (by kernel_rfl) (av 0 (O.aC (.obj q))<|av 1 (O.aC (.obj q))<|av 2 (O.e5 (.ptr q))<|av 3 (O.a_ q (.ptr q) kp q)<|av 4 (O.a_ q (.ptr q) sC q)<|av 5 (O.cU (y:=.bl a7.z ⟨6,[1]⟩ od.1.length) q (.ptr q) sw q q)<|av 6 (O.aC (.lit q))<|gR 7 (cr.go (.bT (.lit q) .nil) (Px od.2 _ S6) call99 q)<|av 8 (O.cat (.k q) (.lit q) S7)<|av 9 (O.dE (cs:=[ae ru,ae aA]) DL BN q q q)<|bC.eY 10 (x:=ag a7 [(⟨ru,aA⟩:e4)]) (O.dg (ys:=[.agg [ae ru,ae aA]]) a7 [(⟨ru,aA⟩:e4)] r5 q q q q q q D5 q q) q q q q .none<|av 11 (O.ap (en:=a7) (r:=M8) (.bl q) q (.aF q) .i Ej q S8)<|av 12 (O.e5 (.ptr q))<|av 13 (O.a_ q (.ptr q) kp q)<|av 14 (O.a_ q (.ptr q) sC q)<|bC.iZ 15 (G2:=[(1,.obj (da.cells a0)),(2,.obj [.aI,.aI,.aI,ae aA,ae aA]),(6,.obj [ak bq a6.ar.ba,ak a7 (od.1++[(⟨ru,aA⟩:e4)]),ak bE a6.ar.bc,ae a6.ar.bx,ae a6.ar.bA,ak bH a6.b0,ak a7 a6.bX,ak cy a6.bG,j a6.cf,j a6.cg,ae a6.cd,j a6.bW,j a6.bB]),(21,j od.2)]) (b9.kt (g1:=_) (en:=a7) (M:=[(⟨ru,aA⟩:e4)]) (cs2:=[ak bq a6.ar.ba,ak a7 (od.1++[(⟨ru,aA⟩:e4)]),ak bE a6.ar.bc,ae a6.ar.bx,ae a6.ar.bA,ak bH a6.b0,ak a7 a6.bX,ak cy a6.bG,j a6.cf,j a6.cg,ae a6.cd,j a6.bW,j a6.bB]) q q (.ptr q) (.bR q) q q q .iH .gk q q DR q q q q (.n q q (.n q q (.b q (.n q q .nil))))) q q q q (by kernel_rfl) (by kernel_rfl)<|bC.fin q q q (dM q q q q)) ?_
     refine ah.bf ?_
     refine ah.aU<|W.bk [1,2,6,21] (bp q<|ai (O.add (.lit q) (.k q))<|aq.bk [1,2,6,323] q<|aq.aV) ?_
     obtain rfl:=au h
     exact ah.go (dM q q q q)
    ·refine W.c9 ?_
     refine ah.c7 ?_
     obtain rfl:=au h
     exact ah.aD (dt q q q)
   refine ah.c' ?_
   refine ah.aU<|W.aT [1,2,6,22] ?_
   refine W.aX<|W.aT [1,2,6,22,23] ?_
   refine W.bf ?_
   obtain ⟨kS,ao,h⟩:=ax h
   refine W.ca (G1:=[(1,_),(2,_),(6,_),(22,_),(23,_)]) (dX q q q q q) ?_
   refine W.eg (s:=(a6.ar.ba,57346,3)) (λ(iR:List b5 × Int × Int)=>[(1,.obj (da.cells a0)),(2,.obj [.aI,.aI,.aI,ae aA,ae aA]),(6,.obj [ak bq iR.1,ak a7 jl,ak bE a6.ar.bc,ae a6.ar.bx,ae a6.ar.bA,ak bH a6.b0,ak a7 a6.bX,ak cy a6.bG,j a6.cf,j a6.cg,ae a6.cd,j a6.bW,j a6.bB]),(22,j iR.2.1),(23,j iR.2.2)]) 18 (λ(kS:List b5)=>[(1,.obj (da.cells a0)),(2,.obj [.aI,.aI,.aI,ae aA,ae aA]),(6,.obj [ak bq kS,ak a7 jl,ak bE a6.ar.bc,ae a6.ar.bx,ae a6.ar.bA,ak bH a6.b0,ak a7 a6.bX,ak cy a6.bG,j a6.cf,j a6.cg,ae a6.cd,j a6.bW,j a6.bB])]) ao (λiR o h=>?_) ?_
   ·clear ao
    refine W.aX<|W.aT [1,2,6,22,23,346] ?_
    refine W.bu h q (λRy h=>?_) (λRy h=>?_)
    ·refine W.bF<|ah.aU ?_
     refine W.aX ?_
     obtain ⟨As,aa,h⟩:=ax h
     refine W.bs [(1,.obj (da.cells a0)),(2,.obj [.aI,.aI,.aI,ae aA,ae aA]),(6,.obj [ak bq As.1,ak a7 jl,ak bE a6.ar.bc,ae a6.ar.bx,ae a6.ar.bA,ak bH a6.b0,ak a7 a6.bX,ak cy a6.bG,j a6.cf,j a6.cg,ae a6.cd,j a6.bW,j a6.bB]),(22,j As.2),(23,j iR.2.2)] ?_ ?_
     ·clear h; have h:=aa; clear aa
      refine W.bf ?_
      obtain ⟨H6,Lt,h⟩:=ax h
      refine W.bV [1,2,6,22,23,356] (ai (O.aC (.obj q))<|ai (O.e5 (.ptr q))<|ai (O.a_ q (.ptr q) xm q)<|ai (O.cU (y:=.bl bH.z ⟨6,[5]⟩ a6.b0.length) q (.ptr q) y_ q q)<|bp q<|ai (O.gY (en:=bH) q (.bl q) (.lit q) oT Lt q)<|ai (O.jz (en:=bH) (x':=a1 H6) q (.ptr q) mW Lt q q)<|aq.aV) ?_
      obtain ⟨Aq,aa,h⟩:=ax h
      refine W.bs [(1,.obj (da.cells a0)),(2,.obj [.aI,.aI,.aI,ae aA,ae aA]),(6,.obj [ak bq Aq.1,ak a7 jl,ak bE a6.ar.bc,ae a6.ar.bx,ae a6.ar.bA,ak bH a6.b0,ak a7 a6.bX,ak cy a6.bG,j a6.cf,j a6.cg,ae a6.cd,j a6.bW,j a6.bB]),(22,j Aq.2),(23,j iR.2.2)] ?_ ?_
      ·clear h; have h:=aa; clear aa
       refine W.bu h q (λRb h=>?_) (λRb h=>?_)
       ·obtain ⟨lE,Gs,h⟩:=ax h
        refine W.bV [1,2,6,22,23] (ai (O.aC (.obj q))<|ai (O.e5 (.ptr q))<|ai (O.a_ q (.ptr q) kp q)<|ai (O.a_ q (.ptr q) oD q)<|ai (O.cU (y:=.bl bq.z ⟨6,[0]⟩ iR.1.length) q (.ptr q) pZ q q)<|bp q<|bp q<|ai (O.gY (en:=bq) q (.bl q) (.lit q) qt Gs q)<|ai (O.ko (en:=bq) q (.ptr q) zv Gs q q)<|aq.h_ (G2:=[(1,.obj (da.cells a0)),(2,.obj [.aI,.aI,.aI,ae aA,ae aA]),(6,.obj [ak bq (iR.1.set iR.2.2.toNat (⟨lE.Name,lE.Lit,iR.2.1,lE.Level,lE.fy,lE.Tag⟩:b5)),ak a7 jl,ak bE a6.ar.bc,ae a6.ar.bx,ae a6.ar.bA,ak bH a6.b0,ak a7 a6.bX,ak cy a6.bG,j a6.cf,j a6.cg,ae a6.cd,j a6.bW,j a6.bB]),(22,j iR.2.1),(23,j iR.2.2)]) q (b9.pI (en:=bq) (y2:=(⟨lE.Name,lE.Lit,iR.2.1,lE.Level,lE.fy,lE.Tag⟩:b5)) (cs':=[j iR.2.1]) (x2:=.obj [ak bq (iR.1.set iR.2.2.toNat (⟨lE.Name,lE.Lit,iR.2.1,lE.Level,lE.fy,lE.Tag⟩:b5)),ak a7 jl,ak bE a6.ar.bc,ae a6.ar.bx,ae a6.ar.bA,ak bH a6.b0,ak a7 a6.bX,ak cy a6.bG,j a6.cf,j a6.cg,ae a6.cd,j a6.bW,j a6.bB]) q q (.ptr q) (.lit q) q Gs nP q q q q q q q (.n q q (.n q q (.b q (.n q q (.n q q .nil))))))<|bK q) ?_
        refine W.bk [1,2,6,22,23] (bp q<|ai (O.add (.lit q) (.k q))<|aq.bk [1,2,6,23,367] q<|aq.aV) ?_
        obtain rfl:=au h
        exact ah.bs (dX q q q q q)
       ·refine W.bF ?_
        obtain rfl:=au h
        exact ah.bs (dX q q q q q)
      refine ah.bf ?_
      obtain rfl:=au h
      exact ah.bs (dX q q q q q)
     refine ah.aU<|W.bk [1,2,6,22,23] (bp q<|ai (O.add (.lit q) (.k q))<|aq.bk [1,2,6,22,348] q<|aq.aV) ?_
     obtain rfl:=au h
     exact ah.go (dX q q q q q)
    ·refine W.c9 ?_
     refine ah.c7 ?_
     obtain rfl:=au h
     exact ah.aD (dt q q q)
   refine ah.c' ?_
   refine ah.aU ?_
   obtain ⟨rH,aa,h⟩:=ax h
   refine W.rs [(1,.obj (da.cells a0)),(2,.obj [.aI,.aI,.aI,ae aA,ae aA]),(6,.obj [ak bq kS,ak a7 jl,ak bE a6.ar.bc,ae a6.ar.bx,ae a6.ar.bA,ak bH a6.b0,ak a7 a6.bX,ak cy a6.bG,j a6.cf,j a6.cg,ae a6.cd,j a6.bW,j a6.bB]),(24,a1 rH)] ?_ ?_
   ·refine ai (O.aC (.obj q))<|ai (O.e5 (.ptr q))<|ai (O.a_ q (.ptr q) kp q)<|ai (O.a_ q (.ptr q) oD q)<|ai (O.cU (y:=.bl bq.z ⟨6,[0]⟩ kS.length) q (.ptr q) pZ q q)<|ai (O.px (.bl q) qt)<|ai (O.gtr (.lit q) (.k q))<|ai (O.aC (.lit q)) ?_
    rcases cB aa with ⟨sL,aa⟩ | ⟨sL,aa⟩
    ·obtain rfl:=au aa
     exact aq.aV
    ·refine aW sL (O.aC (.obj q))<|aW sL (O.e5 (.ptr q))<|aW sL (O.a_ q (.ptr q) kp q)<|aW sL (O.a_ q (.ptr q) sC q)<|aW sL (O.cU (y:=.bl a7.z ⟨6,[1]⟩ jl.length) q (.ptr q) sw q q)<|aW sL (O.px (.bl q) r5)<|aW sL (O.gtr (.lit q) (.k q))<|ai (O.dL (.lit q) sL (.lit q))<|ai (O.aC (.lit q)) ?_
     rcases cB aa with ⟨KG,aa⟩ | ⟨KG,aa⟩
     ·obtain rfl:=au aa
      exact aq.aV
     ·obtain rfl:=au aa
      exact aW KG (O.aC (.obj q))<|aq.aV
   refine W.aX<|W.aT [1,2,6,24,25] ?_
   refine W.bf ?_
   obtain ⟨BH,ao,h⟩:=ax h
   refine W.ca (G1:=[(1,_),(2,_),(6,_),(24,_),(25,_)]) (dX q q q q q) ?_
   refine W.eg (s:=(rH,0)) (λ(r4:Bool × Int)=>[(1,.obj (da.cells a0)),(2,.obj [.aI,.aI,.aI,ae aA,ae aA]),(6,.obj [ak bq kS,ak a7 jl,ak bE a6.ar.bc,ae a6.ar.bx,ae a6.ar.bA,ak bH a6.b0,ak a7 a6.bX,ak cy a6.bG,j a6.cf,j a6.cg,ae a6.cd,j a6.bW,j a6.bB]),(24,a1 r4.1),(25,j r4.2)]) 20 (λ(BH:Bool)=>[(1,.obj (da.cells a0)),(2,.obj [.aI,.aI,.aI,ae aA,ae aA]),(6,.obj [ak bq kS,ak a7 jl,ak bE a6.ar.bc,ae a6.ar.bx,ae a6.ar.bA,ak bH a6.b0,ak a7 a6.bX,ak cy a6.bG,j a6.cf,j a6.cg,ae a6.cd,j a6.bW,j a6.bB]),(24,a1 BH)]) ao (λr4 o h=>?_) ?_
   ·clear ao
    refine W.aX<|W.aT [1,2,6,24,25,400] ?_
    refine W.bu h q (λRc h=>?_) (λRc h=>?_)
    ·refine W.bF<|ah.aU ?_
     refine W.aX<|W.bf ?_
     obtain ⟨Ew,aa,h⟩:=ax h
     refine W.rx [(1,.obj (da.cells a0)),(2,.obj [.aI,.aI,.aI,ae aA,ae aA]),(6,.obj [ak bq kS,ak a7 jl,ak bE a6.ar.bc,ae a6.ar.bx,ae a6.ar.bA,ak bH a6.b0,ak a7 a6.bX,ak cy a6.bG,j a6.cf,j a6.cg,ae a6.cd,j a6.bW,j a6.bB]),(24,a1 Ew),(25,j r4.2)] ?_ ?_
     ·refine bp q<|ai (O.aC (.lit q)) ?_
      rcases cB aa with ⟨j',aa⟩ | ⟨j',aa⟩
      ·obtain rfl:=au aa
       exact cF j'<|cF j'<|cF j'<|cF j'<|cF j'<|cF j'<|cF j'<|cF j'<|cF j'<|cF j'<|cF j'<|ai (O.eB (.lit q) j' (.k q))<|aq.bk [1,2,6,25,416] q<|aq.aV
      ·refine aW j' (O.aC (.obj q))<|aW j' (O.e5 (.ptr q))<|aW j' (O.a_ q (.ptr q) kp q)<|aW j' (O.a_ q (.ptr q) lI q)<|aW j' (O.cU (y:=.bl bE.z ⟨6,[2]⟩ a6.ar.bc.length) q (.ptr q) mX q q)<|aW j' (O.aC (.lit q)) ?_
       obtain ⟨H7,Gt,aa⟩:=ax aa
       obtain rfl:=au aa
       exact aW j' (O.gY (en:=bE) q (.bl q) (.lit q) ns Gt q)<|aW j' (O.ko (en:=bE) q (.ptr q) mZ Gt q q)<|aW j' (O.jz (en:=bE) (x':=ag aG H7.fz) q (.ptr q) hC Gt q q)<|aW j' (O.hc (.aF q) eS)<|aW j' (O.gtr (.lit q) (.k q))<|ai (O.dL (.lit q) j' (.lit q))<|aq.bk [1,2,6,25,416] q<|aq.aV
     refine ah.bf ?_
     refine ah.aU<|W.bk [1,2,6,24,25] (bp q<|ai (O.add (.lit q) (.k q))<|aq.bk [1,2,6,24,402] q<|aq.aV) ?_
     obtain rfl:=au h
     exact ah.go (dX q q q q q)
    ·refine W.c9 ?_
     refine ah.c7 ?_
     obtain rfl:=au h
     exact ah.aD (dM q q q q)
   refine ah.c' ?_
   refine ah.aU<|W.aX ?_
   refine W.aT [1,2,6,417] ?_
   refine W.bu h q (λRe h=>?_) (λRe h=>?_)
   ·refine W.bV [2,3,4,5] (ai (O.dE (cs:=[.aI,.aI,.aI,ae aA,ae aA]) HJ oY q q q)<|aq.dx (G2:=[(2,_)]) (cs2:=[.aI,.aI,.aI,ae aA,ae aA]) q (.obj q) (.b2 q q) q nt q q q q (.b q .nil)<|aq.aV) ?_
    refine W.eF (G1:=[(2,.obj [ag bq ([]:List b5),ag a7 ([]:List e4),ag bE ([]:List Prod),ae aA,ae aA]),(3,_),(4,_),(5,_)]) [2] (.z q q (gr.obj (.z (.z (.z (.f (.f .nil)))))) (.n q q (.n q q (.n q q .nil)))) ?_
    refine W.rt ?_
    refine ah.c5 ?_
    obtain rfl:=au h
    exact cw (.c (ys0:=[ag bq ([]:List b5),ag a7 ([]:List e4),ag bE ([]:List Prod),ae aA,ae aA]) q gA q q q (.f q (.f q (.f q (.f q (.f q .nil))))) (.f q q (.f q q (.f q q .nil))))
   ·refine W.bF<|ah.aU ?_
    refine W.aX<|W.rd [[],[],[],[2],[],[4],[0,2,3],[0,2,3,6],[0,2,3,6,7],[0,2,3,6,7,8],aN 0 10 [],aN 0 11 [],aN 0 12 [],aN 0 13 []] [(2,_),(6,_)] ei (by kernel_rfl) (av 0 (O.aC (.obj q))<|av 1 (O.aC (.obj q))<|av 2 (O.a_ q (.obj q) CB q)<|av 3 (O.cq q (.ptr q) eI q)<|av 4 (O.a_ q (.obj q) CC q)<|av 5 (O.cq q (.ptr q) eI q)<|av 6 (O.e5 (.ptr q))<|av 7 (O.a_ q (.ptr q) kp q)<|av 8 (O.a_ q (.ptr q) J5 q)<|bC.dE 9 (G2:=[(1,.obj (da.cells a0)),(2,.obj [.aI,.aI,.aI,ae aA,ae aA]),(6,.obj [ak bq kS,ak a7 jl,ak bE a6.ar.bc,ae a0.bx,ae a6.ar.bA,ak bH a6.b0,ak a7 a6.bX,ak cy a6.bG,j a6.cf,j a6.cg,ae a6.cd,j a6.bW,j a6.bB])]) (U:=[(5,424,some (ae a0.bA)),(4,423,some (.ptr ⟨1,[]⟩ 3)),(1,420,some (.ptr ⟨6,[]⟩ 0))]) (kV.v (b9.mY (b9.dx (G2:=[(1,.obj (da.cells a0)),(2,.obj [.aI,.aI,.aI,ae aA,ae aA]),(6,.obj [ak bq kS,ak a7 jl,ak bE a6.ar.bc,ae a0.bx,ae a6.ar.bA,ak bH a6.b0,ak a7 a6.bX,ak cy a6.bG,j a6.cf,j a6.cg,ae a6.cd,j a6.bW,j a6.bB])]) (cs2:=[ak bq kS,ak a7 jl,ak bE a6.ar.bc,ae a0.bx,ae a6.ar.bA,ak bH a6.b0,ak a7 a6.bX,ak cy a6.bG,j a6.cf,j a6.cg,ae a6.cd,j a6.bW,j a6.bB]) q q q (.ptr q) (.lit q) q wA q q q q (.n q q (.n q q (.b q .nil)))))) q q (by kernel_rfl) q q q (.c (.inr (.inl ⟨_,q⟩)) q q q q q (gz.wanted .none) (O.cq q (.ptr q) eI q) (.c (.inr (.inr (.inr (.inl ⟨1,_,_,q,q,jA q,by simp,_,q,jA q⟩)))) q q q q q (gz.wanted .none) (O.a_ q (.obj q) CC q) (.c (.inr (.inr (.inr (.inl ⟨6,_,_,q,q,jA q,by simp,_,q,jA q⟩)))) q q q q q (gz.wanted .none) (O.aC (.obj q)) .nil))) (by kernel_rfl)<|av 10 (O.e5 (.ptr q))<|av 11 (O.a_ q (.ptr q) kp q)<|av 12 (O.a_ q (.ptr q) J6 q)<|bC.dx 13 (G2:=[(2,.obj [.aI,.aI,.aI,ae aA,ae aA]),(6,.obj [ak bq kS,ak a7 jl,ak bE a6.ar.bc,ae a0.bx,ae a0.bA,ak bH a6.b0,ak a7 a6.bX,ak cy a6.bG,j a6.cf,j a6.cg,ae a6.cd,j a6.bW,j a6.bB])]) (cs2:=[ak bq kS,ak a7 jl,ak bE a6.ar.bc,ae a0.bx,ae a0.bA,ak bH a6.b0,ak a7 a6.bX,ak cy a6.bG,j a6.cf,j a6.cg,ae a6.cd,j a6.bW,j a6.bB]) q (by kernel_rfl) (by kernel_rfl) q q q (.ptr q) (.lit q) q wA q q q q (.n q q (.b q .nil))<|bC.fin q q q (fC q q)) ?_
    refine ah.aU<|W.aX ?_
    refine W.eF (G1:=[(2,_),(6,.obj [ag bq kS,ag a7 jl,ag bE a6.ar.bc,ae a0.bx,ae a0.bA,ak bH a6.b0,ak a7 a6.bX,ak cy a6.bG,j a6.cf,j a6.cg,ae a6.cd,j a6.bW,j a6.bB])]) [6] (.n q q (.z q q (gr.obj (.z (.z (.z (.f (.f (.f (.f (.f (.f (.f (.f (.f (.f .nil)))))))))))))) .nil)) ?_
    refine W.bk [2,3,4,5] (ai (O.aC (.obj q))<|ai (O.e5 (.ptr q))<|ai (O.a_ q (.ptr q) kp q)<|ai (O.dR (cs':=[ag bq kS,ag a7 jl,ag bE a6.ar.bc,ae a0.bx,ae a0.bA]) q (.ptr q) gA q q)<|aq.dx (G2:=[(2,_)]) (cs2:=[ag bq kS,ag a7 jl,ag bE a6.ar.bc,ae a0.bx,ae a0.bA]) q (.obj q) (.b2 q q) q nt q q q q (.b q .nil)<|aq.aV) ?_
    refine ah.aU<|W.rt ?_
    obtain rfl:=au h
    exact cw (.c (ys0:=[ag bq kS,ag a7 jl,ag bE a6.ar.bc,ae a0.bx,ae a0.bA]) q gA q q q (.f q (.f q (.f q (.f q (.f q .nil))))) (.f q q (.f q q (.f q q .nil))))
theorem Pf (a0:Source) (r:b' × Bool) (h:A9 a0=some r):b_ Try.prog 68 [.agg (da.cells a0)] [none] (.cG [.agg (ck.cells r.1),a1 r.2]):=by
 unfold A9 at h
 refine b_.go (N:=⟨18,[]⟩) Try.func68 q q q q (W.fin ?_)
 refine W.st [(0,.agg (da.cells a0))] ?_
 refine W.bV [1,2] (ai (O.box (.b2 q q) q)<|ai (O.fq (cs:=[.aI,.aI,.aI,ae aA,ae aA]) oY q q)<|aq.aV) ?_
 obtain ⟨aD,fF,h⟩:=ax h
 refine W.bV [2,4,5] (ai (O.dR (cs':=[ae a0.bx,ag cx a0.Decls,ag eM a0.dD,ae a0.bA]) q (.obj q) qE q q)<|eE (cr.go (.bT (.b2 q q) .nil) (Pm a0 _ fF) call78 q)<|ai (O.aC (.cG q q))<|ai (O.ex (y:=.agg (ck.cells aD.1)) q q q)<|ai (O.ex (y:=j aD.2.1) q q q)<|ai (O.ex (y:=j aD.2.2.1) q q q)<|ai (O.ex (y:=ae aD.2.2.2) q q q)<|ai (O.fq (cs:=[.aI,.aI,.aI,ae aA,ae aA]) oY q q)<|aq.dx (G2:=[(2,_),(4,_),(12,_),(13,_),(14,_)]) (cs2:=[ag bq aD.1.ba,ag a7 aD.1.bw,ag bE aD.1.bc,ae aD.1.bx,ae aD.1.bA]) q (.obj q) (.b2 q q) q nt q q q q (.n q q (.b q (.n q q (.n q q (.n q q .nil)))))<|aq.aV) ?_
 refine W.bV [2,3] (ai (O.dR (cs':=[ag bq aD.1.ba,ag a7 aD.1.bw,ag bE aD.1.bc,ae aD.1.bx,ae aD.1.bA]) q (.obj q) gA q q)<|bp q<|ai (O.eql (.lit q) (.k q))<|aq.dx (G2:=[(2,_),(17,_)]) (cs2:=[ag bq aD.1.ba,ag a7 aD.1.bw,ag bE aD.1.bc,ae aD.1.bx,ae aD.1.bA]) q (.obj q) (.b2 q q) q nt q q q q (.b q (.n q q .nil))<|aq.aV) ?_
 refine W.rt ?_
 obtain rfl:=au h
 exact cw (.c (ys0:=[ag bq aD.1.ba,ag a7 aD.1.bw,ag bE aD.1.bc,ae aD.1.bx,ae aD.1.bA]) q gA q q q (.f q (.f q (.f q (.f q (.f q .nil))))) (.f q q .nil))
theorem tB (a0:(List Int)) (aw:Int) (r:(List Int)) (h:pB a0 aw=some r):b_ Try.prog 67 [ag aG a0,j aw] [none,none] (ag aG r):=by
 unfold pB at h
 refine b_.go (N:=⟨47,[]⟩) Try.func67 q q q q (W.fin ?_)
 refine W.st [(0,ag aG a0),(1,j aw)] ?_
 refine W.aT [0,1] ?_
 refine W.aT [0,1,5] ?_
 refine W.aX<|W.bf ?_
 obtain ⟨x2,ao,h⟩:=ax h
 refine W.ca (G1:=[(0,_),(1,_),(5,_)]) (dt q q q) ?_
 refine W.eg (s:=(a0.length:Int)) (λ(s1:Int)=>[(0,ag aG a0),(1,j aw),(5,j s1)]) 0 (λ(x2:Int)=>[(0,ag aG a0),(1,j aw),(5,j x2)]) ao (λs1 o h=>?_) ?_
 ·clear ao
  refine W.aX ?_
  obtain ⟨qJ,aa,h⟩:=ax h
  refine W.rs [(0,ag aG a0),(1,j aw),(5,j s1),(19,a1 qJ)] ?_ ?_
  ·refine bp q<|ai (O.gtr (.lit q) (.k q))<|ai (O.aC (.lit q)) ?_
   rcases cB aa with ⟨c0,aa⟩ | ⟨c0,aa⟩
   ·refine aW c0 (O.aC (.aF q))<|aW c0 (O.aC (.lit q))<|aW c0 (O.sub (.lit q) (.k q)) ?_
    obtain ⟨cn,kM,aa⟩:=ax aa
    obtain rfl:=au aa
    exact aq.aV
   ·obtain rfl:=au aa
    exact aq.aV
  refine W.bu h q (λdn h=>?_) (λdn h=>?_)
  ·refine W.bF<|ah.aU ?_
   refine W.bf<|W.bk [0,1,5] (bp q<|ai (O.sub (.lit q) (.k q))<|aq.bk [0,1,21] q<|aq.aV) ?_
   refine ah.bf ?_
   obtain rfl:=au h
   exact ah.go (dt q q q)
  ·refine W.c9 ?_
   refine ah.c7 ?_
   obtain rfl:=au h
   exact ah.aD (dt q q q)
 refine ah.c' ?_
 refine ah.aU<|W.aX ?_
 obtain ⟨iz,aa,h⟩:=ax h
 refine W.rs [(0,ag aG a0),(1,j aw),(5,j x2),(32,a1 iz)] ?_ ?_
 ·refine bp q<|ai (O.gtr (.lit q) (.k q))<|ai (O.aC (.lit q)) ?_
  rcases cB aa with ⟨c3,aa⟩ | ⟨c3,aa⟩
  ·refine aW c3 (O.aC (.aF q))<|aW c3 (O.aC (.lit q))<|aW c3 (O.sub (.lit q) (.k q)) ?_
   obtain ⟨cv,jx,aa⟩:=ax aa
   obtain rfl:=au aa
   exact aq.aV
  ·obtain rfl:=au aa
   exact aq.aV
 refine W.bu h q (λe_ h=>?_) (λe_ h=>?_)
 ·refine W.aT [4] ?_
  refine W.rt ?_
  refine ah.c5 ?_
  obtain rfl:=au h
  exact cw (.f q q .nil)
 ·refine W.bF<|ah.aU ?_
  obtain ⟨dh,kL,h⟩:=ax h
  obtain ⟨eb,jX,h⟩:=ax h
  refine W.bV [0,1,5,6] (ai (O.dg (ys:=[]) aG ([]:List Int) eS q q q q q q nR q q)<|ai (O.aC (.aF q))<|bp q<|ai (O.HR (.aF q) (.lit q) eS kL)<|ai (O.ap (en:=aG) (r:=eb) (.own q) q (.aF q) .i nx q jX)<|aq.fN (G2:=[(0,ag aG a0),(1,j aw),(5,j x2)]) q (b9.lp q q (.bR q) q q q (.n q q (.n q q (.n q q .nil))) q q)<|bK q) ?_
  refine W.aX ?_
  obtain ⟨dU,jP,h⟩:=ax h
  obtain ⟨cH,hI,h⟩:=ax h
  obtain ⟨cj,jY,h⟩:=ax h
  refine W.rd [[],[],[1],[0,1,2],[],[],[4,5],aN 0 7 [],aN 0 8 []] [(4,_)] ei (by kernel_rfl) (av 0 (O.aC (.own q))<|av 1 (O.aC (.lit q))<|bC.eY 2 (x:=ag aG [aw]) (O.dg (ys:=[j aw]) aG [aw] eS q q q q q q nR q q) q q q q .none<|av 3 (O.ap (en:=aG) (r:=dU) (.bl q) q (.aF q) .i nx q jP)<|av 4 (O.aC (.aF q))<|av 5 (O.aC (.lit q))<|av 6 (O.HS (.aF q) (.lit q) eS hI)<|av 7 (O.IM (en:=aG) (r:=cj) (.bR q) q q (.aF q) .i nx q jY)<|bC.bv 8 (G2:=[]) (b9.IF q q (.bR q) q q q q q q .nil q q) q q q q (by kernel_rfl) (by kernel_rfl)<|bC.fin q q q (.n q .nil)) ?_
  refine ah.aU<|W.eF (G1:=[(4,ag aG ((([]:List Int)++dh)++[aw]++cH))]) [4] (.z q q .ha .nil) ?_
  refine W.rt ?_
  obtain rfl:=au h
  exact cw (.f q q .nil)
theorem JB (a0:(List Int)) (aw:Int) (r:Bool) (h:yi a0 aw=some r):b_ Try.prog 70 [ag aG a0,j aw] [none,none] (a1 r):=by
 unfold yi at h
 refine b_.go (N:=⟨18,[]⟩) Try.func70 q q q q (W.fin ?_)
 refine W.st [(0,ag aG a0),(1,j aw)] ?_
 refine W.aT [0,1] ?_
 refine W.aX<|W.aT [0,1,5] ?_
 refine W.bf ?_
 obtain ⟨x2,ao,h⟩:=ax h
 refine W.ca (G1:=[(0,_),(1,_),(5,_)]) (dt q q q) ?_
 refine W.jZ (s:=0) (λ(s1:Int)=>[(0,ag aG a0),(1,j aw),(5,j s1)]) 0 (λ(a8:Unit)=>[]) (λ(b4:Bool)=>[(4,a1 b4)]) ao (λs1 o h=>?_) (λa8 J=>?_) (λb4 J=>?_)
 ·clear ao
  refine W.aX<|W.aT [0,1,5,9] ?_
  refine W.bu h q (λdH h=>?_) (λdH h=>?_)
  ·refine W.bF<|ah.aU ?_
   refine W.aX<|W.bf ?_
   obtain ⟨bP,ga,h⟩:=ax h
   refine W.aT [0,1,5,17] ?_
   refine W.bu h q (λdn h=>?_) (λdn h=>?_)
   ·refine W.aT [4] ?_
    refine W.rt ?_
    refine ah.d_ ?_
    refine ah.c5 ?_
    obtain rfl:=au h
    exact ah.gx (.n q .nil)
   ·refine W.bF<|ah.bf ?_
    refine ah.aU<|W.bk [0,1,5] (bp q<|ai (O.add (.lit q) (.k q))<|aq.bk [0,1,11] q<|aq.aV) ?_
    obtain rfl:=au h
    exact ah.go (dt q q q)
  ·refine W.c9 ?_
   refine ah.c7 ?_
   obtain rfl:=au h
   exact ah.x2 .nil
 ·subst J
  refine ah.c' ?_
  refine ah.aU<|W.aT [4] ?_
  refine W.rt ?_
  obtain rfl:=au h
  exact cw (.f q q .nil)
 ·subst J
  refine ah.d_ ?_
  refine ah.c5 ?_
  obtain rfl:=au h
  exact cw (.f q q .nil)
theorem Pn (a0:b') (r:(List Int)) (h:Be a0=some r):b_ Try.prog 79 [.agg (ck.cells a0)] [none] (ag aG r):=by
 unfold Be at h
 refine b_.go (N:=⟨30,[]⟩) Try.func79 q q q q (W.fin ?_)
 refine W.st [(0,.agg (ck.cells a0))] ?_
 refine W.bV [1] (ai (O.box (.b2 q q) q)<|aq.aV) ?_
 refine W.aT [1,3] ?_
 refine W.aX<|W.aT [1,3,4] ?_
 refine W.bf ?_
 obtain ⟨x2,ao,h⟩:=ax h
 refine W.ca (G1:=[(1,_),(3,ak aG ([]:List Int)),(4,_)]) (.n q (.w q q .lb (.n q .nil))) ?_
 refine W.eg (s:=(([]:List Int),0)) (λ(s1:List Int × Int)=>[(1,.obj (ck.cells a0)),(3,ak aG s1.1),(4,j s1.2)]) 0 (λ(x2:List Int)=>[(1,.obj (ck.cells a0)),(3,ak aG x2)]) ao (λs1 o h=>?_) ?_
 ·clear ao
  refine W.aX<|W.aT [1,3,4,10] ?_
  refine W.bu h q (λc0 h=>?_) (λc0 h=>?_)
  ·refine W.bF<|ah.aU ?_
   refine W.aX<|W.bf ?_
   obtain ⟨cn,kM,h⟩:=ax h
   refine W.bk [1,3,4] (ai (O.aC (.own q))<|bp q<|aq.eY (x:=ag aG [s1.2]) (O.dg (ys:=[j s1.2]) aG [s1.2] eS q q q q q q nR q q) q q .none<|ai (O.ap (en:=aG) (r:=cn) (.bl q) q (.aF q) .i nx q kM)<|aq.fN (G2:=[(1,.obj (ck.cells a0)),(4,j s1.2)]) q (b9.lp q q (.bR q) q q q (.n q q (.n q q .nil)) q q)<|bK q) ?_
   refine ah.bf ?_
   refine ah.aU<|W.bk [1,3,4] (bp q<|ai (O.add (.lit q) (.k q))<|aq.bk [1,3,12] q<|aq.aV) ?_
   obtain rfl:=au h
   exact ah.go (dt q q q)
  ·refine W.c9 ?_
   refine ah.c7 ?_
   obtain rfl:=au h
   exact ah.aD (fC q q)
 refine ah.c' ?_
 refine ah.aU<|W.aX ?_
 refine W.aT [1,3,5] ?_
 refine W.bf ?_
 obtain ⟨bz,ao,h⟩:=ax h
 refine W.ca (G1:=[(1,_),(3,_),(5,_)]) (dt q q q) ?_
 refine W.eg (s:=(x2,0)) (λ(cM:List Int × Int)=>[(1,.obj (ck.cells a0)),(3,ak aG cM.1),(5,j cM.2)]) 2 (λ(bz:List Int)=>[(3,ak aG bz)]) ao (λcM o h=>?_) ?_
 ·clear ao
  refine W.aX<|W.aT [1,3,5,21] ?_
  refine W.bu h q (λdi h=>?_) (λdi h=>?_)
  ·refine W.bF<|ah.aU ?_
   refine W.aX<|W.bf ?_
   obtain ⟨bM,iF,h⟩:=ax h
   refine W.bk [1,3,5] (ai (O.aC (.own q))<|bp q<|ai (O.add (.k q) (.lit q))<|aq.eY (x:=ag aG [aO (1000+cM.2)]) (O.dg (ys:=[j (aO (1000+cM.2))]) aG [aO (1000+cM.2)] eS q q q q q q nR q q) q q .none<|ai (O.ap (en:=aG) (r:=bM) (.bl q) q (.aF q) .i nx q iF)<|aq.fN (G2:=[(1,.obj (ck.cells a0)),(5,j cM.2)]) q (b9.lp q q (.bR q) q q q (.n q q (.n q q .nil)) q q)<|bK q) ?_
   refine ah.bf ?_
   refine ah.aU<|W.bk [1,3,5] (bp q<|ai (O.add (.lit q) (.k q))<|aq.bk [1,3,23] q<|aq.aV) ?_
   obtain rfl:=au h
   exact ah.go (dt q q q)
  ·refine W.c9 ?_
   refine ah.c7 ?_
   obtain rfl:=au h
   exact ah.aD (.n q .nil)
 refine ah.c' ?_
 refine ah.aU<|W.bV [2] (ai (O.aC (.own q))<|aq.fN (G2:=[]) q (b9.ik q q (.bl q) q .nil q q)<|bK q) ?_
 refine W.eF (G1:=[(2,ag aG bz)]) [2] (.z q q .ha .nil) ?_
 refine W.rt ?_
 obtain rfl:=au h
 exact cw (.f q q .nil)
theorem Jl (a0:b') (aw:Item) (r:Bool) (h:x5 a0 aw=some r):b_ Try.prog 102 [.agg (ck.cells a0),.agg [j aw.Prod,j aw.dY]] [none,none] (a1 r):=by
 unfold x5 at h
 refine b_.go (N:=⟨34,[]⟩) Try.func102 q q q q (W.fin ?_)
 refine W.st [(0,.agg (ck.cells a0)),(1,.agg [j aw.Prod,j aw.dY])] ?_
 refine W.bV [2,3] (ai (O.box (.b2 q q) q)<|ai (O.box (.b2 q q) q)<|aq.aV) ?_
 refine W.aX ?_
 obtain ⟨kF,aa,h⟩:=ax h
 refine W.rd [[],[0],[0,1],[0,1,2],[0,1,2,3],aN 0 5 [],[0,1,2,3],[0,1,2,3,6],[0,1,2,3,6,7],aN 0 9 [],aN 0 10 [],aN 0 11 [],aN 0 12 [],aN 0 13 [],aN 0 14 [],aN 0 15 [],aN 0 16 [],aN 0 17 [],aN 0 18 [],aN 0 17 [],aN 0 17 [19],aN 0 17 [],aN 0 17 [21],aN 0 17 [19,20,21,22],aN 0 17 (aN 19 5 []),aN 0 17 (aN 19 6 []),aN 0 17 (aN 19 7 []),aN 0 27 [],aN 0 28 [],aN 0 29 []] [(4,a1 kF)] ei (by kernel_rfl) ?_ ?_
 ·refine av 0 (O.a_ q (.obj q) nA q)<|av 1 (O.cq q (.ptr q) ct q)<|av 2 (O.geq (.lit q) (.k q))<|av 3 (O.aC (.lit q)) ?_
  rcases cB aa with ⟨db,aa⟩ | ⟨db,aa⟩
  ·refine b8 4 db (O.a_ q (.obj q) nA q)<|b8 5 db (O.cq q (.ptr q) ct q)<|b8 6 db (O.a_ q (.obj q) lI q)<|b8 7 db (O.cU (y:=ag bE a0.bc) q (.ptr q) mX q q)<|b8 8 db (O.hc (.aF q) ns)<|b8 9 db (O.lss (.lit q) (.lit q))<|av 10 (O.eB (.lit q) db (.lit q))<|av 11 (O.aC (.lit q)) ?_
   rcases cB aa with ⟨cP,aa⟩ | ⟨cP,aa⟩
   ·refine b8 12 cP (O.a_ q (.obj q) rN q)<|b8 13 cP (O.cq q (.ptr q) ct q)<|b8 14 cP (O.geq (.lit q) (.k q))<|av 15 (O.eB (.lit q) cP (.lit q))<|av 16 (O.aC (.lit q)) ?_
    rcases cB aa with ⟨fe,aa⟩ | ⟨fe,aa⟩
    ·refine b8 17 fe (O.a_ q (.obj q) rN q)<|b8 18 fe (O.cq q (.ptr q) ct q)<|b8 19 fe (O.a_ q (.obj q) lI q)<|b8 20 fe (O.cU (y:=ag bE a0.bc) q (.ptr q) mX q q)<|b8 21 fe (O.a_ q (.obj q) nA q)<|b8 22 fe (O.cq q (.ptr q) ct q) ?_
     obtain ⟨b4,n5,aa⟩:=ax aa
     obtain rfl:=au aa
     exact b8 23 fe (O.cC (.aF q) (.lit q) ns n5)<|b8 24 fe (O.ez (.bo q) mZ)<|b8 25 fe (O.dd (x:=ag aG b4.fz) (.bo q) hC q)<|b8 26 fe (O.hc (.aF q) eS)<|b8 27 fe (O.leq (.lit q) (.lit q))<|av 28 (O.eB (.lit q) fe (.lit q))<|av 29 (O.ec (.lit q))<|bC.fin q q q (.n q .nil)
    ·obtain rfl:=au aa
     exact bS 17 fe<|bS 18 fe<|bS 19 fe<|bS 20 fe<|bS 21 fe<|bS 22 fe<|bS 23 fe<|bS 24 fe<|bS 25 fe<|bS 26 fe<|bS 27 fe<|av 28 (O.dL (.lit q) fe (.k q))<|av 29 (O.ec (.lit q))<|bC.fin q q q (.n q .nil)
   ·obtain rfl:=au aa
    exact bS 12 cP<|bS 13 cP<|bS 14 cP<|av 15 (O.dL (.lit q) cP (.k q))<|av 16 (O.aC (.lit q))<|bS 17 q<|bS 18 q<|bS 19 q<|bS 20 q<|bS 21 q<|bS 22 q<|bS 23 q<|bS 24 q<|bS 25 q<|bS 26 q<|bS 27 q<|av 28 (O.dL (.lit q) q (.k q))<|av 29 (O.ec (.lit q))<|bC.fin q q q (.n q .nil)
  ·obtain rfl:=au aa
   exact bS 4 db<|bS 5 db<|bS 6 db<|bS 7 db<|bS 8 db<|bS 9 db<|av 10 (O.dL (.lit q) db (.k q))<|av 11 (O.aC (.lit q))<|bS 12 q<|bS 13 q<|bS 14 q<|av 15 (O.dL (.lit q) q (.k q))<|av 16 (O.aC (.lit q))<|bS 17 q<|bS 18 q<|bS 19 q<|bS 20 q<|bS 21 q<|bS 22 q<|bS 23 q<|bS 24 q<|bS 25 q<|bS 26 q<|bS 27 q<|av 28 (O.dL (.lit q) q (.k q))<|av 29 (O.ec (.lit q))<|bC.fin q q q (.n q .nil)
 refine ah.aU<|W.rt ?_
 obtain rfl:=au h
 exact cw (.f q q .nil)
theorem EL (a0:b') (aw:Item) (r:Int) (h:wg a0 aw=some r):b_ Try.prog 81 [.agg (ck.cells a0),.agg [j aw.Prod,j aw.dY]] [none,none] (j r):=by
 unfold wg at h
 refine b_.go (N:=⟨33,[]⟩) Try.func81 q q q q (W.fin ?_)
 refine W.st [(0,.agg (ck.cells a0)),(1,.agg [j aw.Prod,j aw.dY])] ?_
 refine W.bV [2,3] (ai (O.box (.b2 q q) q)<|ai (O.box (.b2 q q) q)<|aq.aV) ?_
 refine W.aX<|W.aX ?_
 obtain ⟨c4,aa,h⟩:=ax h
 refine W.rd [[],[],[0,1],[0,1,2],[0,1,2,3],aN 0 5 [],aN 0 6 [],aN 0 5 [],aN 0 5 [7],aN 0 5 [],aN 0 5 [9],aN 0 5 [7,8,9,10],aN 0 5 (aN 7 5 []),aN 0 5 (aN 7 6 []),aN 0 5 (aN 7 7 []),aN 0 15 [],aN 0 16 []] [(2,.obj (ck.cells a0)),(3,.obj [j aw.Prod,j aw.dY]),(21,a1 c4)] ei (by kernel_rfl) ?_ ?_
 ·refine av 0 (O.dR (cs':=[ag bq a0.ba,ag a7 a0.bw,ag bE a0.bc,ae a0.bx,ae a0.bA]) q (.obj q) gA q q)<|av 1 (O.dR (cs':=[j aw.Prod,j aw.dY]) q (.obj q) pV q q) ?_
  obtain ⟨aD,fF,aa⟩:=ax aa
  refine gR 2 (cr.go (.bT (.b2 q q) (.bT (.b2 q q) .nil)) (Jl a0 aw _ fF) call102 q)<|av 3 (O.not (.lit q))<|av 4 (O.aC (.lit q)) ?_
  rcases cB aa with ⟨cP,aa⟩ | ⟨cP,aa⟩
  ·obtain rfl:=au aa
   exact bS 5 cP<|bS 6 cP<|bS 7 cP<|bS 8 cP<|bS 9 cP<|bS 10 cP<|bS 11 cP<|bS 12 cP<|bS 13 cP<|bS 14 cP<|bS 15 cP<|av 16 (O.eB (.lit q) cP (.k q))<|bC.fin q q q (dt q q q)
  ·refine b8 5 cP (O.a_ q (.obj q) rN q)<|b8 6 cP (O.cq q (.ptr q) ct q)<|b8 7 cP (O.a_ q (.obj q) lI q)<|b8 8 cP (O.cU (y:=ag bE a0.bc) q (.ptr q) mX q q)<|b8 9 cP (O.a_ q (.obj q) nA q)<|b8 10 cP (O.cq q (.ptr q) ct q) ?_
   obtain ⟨a8,hJ,aa⟩:=ax aa
   obtain rfl:=au aa
   exact b8 11 cP (O.cC (.aF q) (.lit q) ns hJ)<|b8 12 cP (O.ez (.bo q) mZ)<|b8 13 cP (O.dd (x:=ag aG a8.fz) (.bo q) hC q)<|b8 14 cP (O.hc (.aF q) eS)<|b8 15 cP (O.eql (.lit q) (.lit q))<|av 16 (O.dL (.lit q) cP (.lit q))<|bC.fin q q q (dt q q q)
 refine ah.aU<|W.bu h q (λdH h=>?_) (λdH h=>?_)
 ·refine W.aT [4] ?_
  refine W.rt ?_
  refine ah.c5 ?_
  obtain rfl:=au h
  exact cw (.f q q .nil)
 ·refine W.bF<|ah.aU ?_
  refine W.aX ?_
  obtain ⟨bP,ga,h⟩:=ax h
  obtain ⟨bz,gw,h⟩:=ax h
  refine W.rd [[],[0],[],[2],[0,1,2,3],aN 0 5 [],aN 0 6 [],[],[7],aN 0 9 [],aN 0 10 [],aN 0 11 []] [(4,_)] ei (by kernel_rfl) (av 0 (O.a_ q (.obj q) lI q)<|av 1 (O.cU (y:=ag bE a0.bc) q (.ptr q) mX q q)<|av 2 (O.a_ q (.obj q) nA q)<|av 3 (O.cq q (.ptr q) ct q)<|av 4 (O.cC (.aF q) (.lit q) ns ga)<|av 5 (O.ez (.bo q) mZ)<|av 6 (O.dd (x:=ag aG bP.fz) (.bo q) hC q)<|av 7 (O.a_ q (.obj q) rN q)<|av 8 (O.cq q (.ptr q) ct q)<|av 9 (O.cC (.aF q) (.lit q) eS gw)<|av 10 (O.dd (x:=j bz) (.bo q) ct q)<|av 11 (O.ec (.lit q))<|bC.fin q q q (.n q .nil)) ?_
  refine ah.aU<|W.rt ?_
  obtain rfl:=au h
  exact cw (.f q q .nil)
theorem EF (a0:(List Item)) (aw:Item) (r:(List Item)) (h:vZ a0 aw=some r):b_ Try.prog 101 [ag dB a0,.agg [j aw.Prod,j aw.dY]] [none,none] (ag dB r):=by
 unfold vZ at h
 refine b_.go (N:=⟨71,[]⟩) Try.func101 q q q q (W.fin ?_)
 refine W.st [(0,ag dB a0),(1,.agg [j aw.Prod,j aw.dY])] ?_
 refine W.bV [0,3] (ai (O.box (.b2 q q) q)<|aq.aV) ?_
 refine W.aT [0,3,5] ?_
 refine W.aX<|W.bf ?_
 obtain ⟨x2,ao,h⟩:=ax h
 refine W.ca (G1:=[(0,_),(3,_),(5,_)]) (dt q q q) ?_
 refine W.eg (s:=(a0.length:Int)) (λ(s1:Int)=>[(0,ag dB a0),(3,.obj [j aw.Prod,j aw.dY]),(5,j s1)]) 0 (λ(x2:Int)=>[(0,ag dB a0),(3,.obj [j aw.Prod,j aw.dY]),(5,j x2)]) ao (λs1 o h=>?_) ?_
 ·clear ao
  refine W.aX<|W.aX ?_
  obtain ⟨iz,aa,h⟩:=ax h
  refine W.rd [[],[0],[0,1],[0,1,2],[0,1,2],[0,1,2,4],aN 0 6 [],aN 0 7 [],aN 0 8 [],[0,1,2],[0,1,2,9],aN 0 11 [],aN 0 12 [],aN 0 13 [],aN 0 13 [],aN 0 13 [14],aN 0 16 [],aN 0 17 [],aN 0 18 [],aN 0 13 [],aN 0 13 [19],aN 0 21 [],aN 0 22 [],aN 0 23 [],aN 0 23 [],aN 0 23 [24],aN 0 26 [],aN 0 27 [],aN 0 28 [],aN 0 23 [],aN 0 23 [29],aN 0 31 [],aN 0 32 [],aN 0 33 [],aN 0 34 []] [(0,ag dB a0),(3,.obj [j aw.Prod,j aw.dY]),(5,j s1),(43,a1 iz)] ei (by kernel_rfl) ?_ ?_
  ·refine av 0 (O.aC (.lit q))<|av 1 (O.gtr (.lit q) (.k q))<|av 2 (O.aC (.lit q)) ?_
   rcases cB aa with ⟨c0,aa⟩ | ⟨c0,aa⟩
   ·refine b8 3 c0 (O.aC (.aF q))<|b8 4 c0 (O.aC (.lit q))<|b8 5 c0 (O.sub (.lit q) (.k q)) ?_
    obtain ⟨cn,kM,aa⟩:=ax aa
    refine b8 6 c0 (O.cC (.aF q) (.lit q) ki kM)<|b8 7 c0 (O.ez (.bo q) nA)<|b8 8 c0 (O.dd (x:=j cn.Prod) (.bo q) ct q)<|b8 9 c0 (O.a_ q (.obj q) nA q)<|b8 10 c0 (O.cq q (.ptr q) ct q)<|b8 11 c0 (O.gtr (.lit q) (.lit q))<|b8 12 c0 (O.aC (.lit q)) ?_
    rcases cB aa with ⟨ee,aa⟩ | ⟨ee,aa⟩
    ·obtain rfl:=au aa
     exact bS 13 ee<|bS 14 ee<|bS 15 ee<|bS 16 ee<|bS 17 ee<|bS 18 ee<|bS 19 ee<|bS 20 ee<|bS 21 ee<|bS 22 ee<|fm 23<|fm 24<|fm 25<|fm 26<|fm 27<|fm 28<|fm 29<|fm 30<|fm 31<|bS 32 ee<|b8 33 c0 (O.eB (.lit q) ee (.k q))<|av 34 (O.eB (.lit q) c0 (.lit q))<|bC.fin q q q (dM q q q q)
    ·refine b8 13 ee (O.aC (.aF q))<|b8 14 ee (O.aC (.lit q))<|b8 15 ee (O.sub (.lit q) (.k q)) ?_
     obtain ⟨bz,gw,aa⟩:=ax aa
     refine b8 16 ee (O.cC (.aF q) (.lit q) ki gw)<|b8 17 ee (O.ez (.bo q) nA)<|b8 18 ee (O.dd (x:=j bz.Prod) (.bo q) ct q)<|b8 19 ee (O.a_ q (.obj q) nA q)<|b8 20 ee (O.cq q (.ptr q) ct q)<|b8 21 ee (O.eql (.lit q) (.lit q))<|b8 22 ee (O.aC (.lit q)) ?_
     rcases cB aa with ⟨c3,aa⟩ | ⟨c3,aa⟩
     ·refine b8 23 c3 (O.aC (.aF q))<|b8 24 c3 (O.aC (.lit q))<|b8 25 c3 (O.sub (.lit q) (.k q)) ?_
      obtain ⟨cv,jx,aa⟩:=ax aa
      obtain rfl:=au aa
      exact b8 26 c3 (O.cC (.aF q) (.lit q) ki jx)<|b8 27 c3 (O.ez (.bo q) rN)<|b8 28 c3 (O.dd (x:=j cv.dY) (.bo q) ct q)<|b8 29 c3 (O.a_ q (.obj q) rN q)<|b8 30 c3 (O.cq q (.ptr q) ct q)<|b8 31 c3 (O.gtr (.lit q) (.lit q))<|b8 32 ee (O.eB (.lit q) c3 (.lit q))<|b8 33 c0 (O.dL (.lit q) ee (.lit q))<|av 34 (O.eB (.lit q) c0 (.lit q))<|bC.fin q q q (dM q q q q)
     ·obtain rfl:=au aa
      exact bS 23 c3<|bS 24 c3<|bS 25 c3<|bS 26 c3<|bS 27 c3<|bS 28 c3<|bS 29 c3<|bS 30 c3<|bS 31 c3<|b8 32 ee (O.dL (.lit q) c3 (.k q))<|b8 33 c0 (O.dL (.lit q) ee (.lit q))<|av 34 (O.eB (.lit q) c0 (.lit q))<|bC.fin q q q (dM q q q q)
   ·obtain rfl:=au aa
    exact bS 3 c0<|bS 4 c0<|bS 5 c0<|bS 6 c0<|bS 7 c0<|bS 8 c0<|bS 9 c0<|bS 10 c0<|bS 11 c0<|bS 12 c0<|fm 13<|fm 14<|fm 15<|fm 16<|fm 17<|fm 18<|fm 19<|fm 20<|fm 21<|fm 22<|fm 23<|fm 24<|fm 25<|fm 26<|fm 27<|fm 28<|fm 29<|fm 30<|fm 31<|fm 32<|bS 33 c0<|av 34 (O.dL (.lit q) c0 (.k q))<|bC.fin q q q (dM q q q q)
  refine ah.aU<|W.bu h q (λe_ h=>?_) (λe_ h=>?_)
  ·refine W.bF<|ah.aU ?_
   refine W.bf<|W.bk [0,3,5] (bp q<|ai (O.sub (.lit q) (.k q))<|aq.bk [0,3,45] q<|aq.aV) ?_
   refine ah.bf ?_
   obtain rfl:=au h
   exact ah.go (dt q q q)
  ·refine W.c9 ?_
   refine ah.c7 ?_
   obtain rfl:=au h
   exact ah.aD (dt q q q)
 refine ah.c' ?_
 refine ah.aU<|W.aX ?_
 refine W.aX ?_
 obtain ⟨qG,aa,h⟩:=ax h
 refine W.rd [[],[0],[0,1],[0,1,2],[0,1,2],[0,1,2,4],aN 0 6 [],aN 0 7 [],[0,1,2],aN 0 9 [],aN 0 10 []] [(0,ag dB a0),(3,.obj [j aw.Prod,j aw.dY]),(5,j x2),(56,a1 qG)] ei (by kernel_rfl) ?_ ?_
 ·refine av 0 (O.aC (.lit q))<|av 1 (O.gtr (.lit q) (.k q))<|av 2 (O.aC (.lit q)) ?_
  rcases cB aa with ⟨dz,aa⟩ | ⟨dz,aa⟩
  ·refine b8 3 dz (O.aC (.aF q))<|b8 4 dz (O.aC (.lit q))<|b8 5 dz (O.sub (.lit q) (.k q)) ?_
   obtain ⟨eb,jX,aa⟩:=ax aa
   obtain rfl:=au aa
   exact b8 6 dz (O.cC (.aF q) (.lit q) ki jX)<|b8 7 dz (O.iq (cs':=[j eb.Prod,j eb.dY]) (.bo q) pV q q)<|b8 8 dz (O.dR (cs':=[j aw.Prod,j aw.dY]) q (.obj q) pV q q)<|b8 9 dz (O.JU (va:=[.int .i64 eb.Prod,.int .i64 eb.dY]) (vb:=[.int .i64 aw.Prod,.int .i64 aw.dY]) (.b2 q q) (.b2 q q) q q JR)<|av 10 (O.eB (.lit q) dz (.lit q))<|bC.fin q q q (dM q q q q)
  ·obtain rfl:=au aa
   exact bS 3 dz<|bS 4 dz<|bS 5 dz<|bS 6 dz<|bS 7 dz<|bS 8 dz<|bS 9 dz<|av 10 (O.dL (.lit q) dz (.k q))<|bC.fin q q q (dM q q q q)
 refine ah.aU<|W.bu h q (λpg h=>?_) (λpg h=>?_)
 ·refine W.aT [4] ?_
  refine W.rt ?_
  refine ah.c5 ?_
  obtain rfl:=au h
  exact cw (.f q q .nil)
 ·refine W.bF<|ah.aU ?_
  obtain ⟨cj,jY,h⟩:=ax h
  obtain ⟨bZ,gS,h⟩:=ax h
  refine W.bV [0,3,5,6] (ai (O.dg (ys:=[]) dB ([]:List Item) ki q q q q q q Ih q q)<|ai (O.aC (.aF q))<|bp q<|ai (O.HR (.aF q) (.lit q) ki jY)<|ai (O.ap (en:=dB) (r:=bZ) (.own q) q (.aF q) .i Eh q gS)<|aq.fN (G2:=[(0,ag dB a0),(3,.obj [j aw.Prod,j aw.dY]),(5,j x2)]) q (b9.lp q q (.bR q) q q q (.n q q (.n q q (.n q q .nil))) q q)<|bK q) ?_
  refine W.aX ?_
  obtain ⟨dS,iG,h⟩:=ax h
  obtain ⟨fp,l5,h⟩:=ax h
  obtain ⟨dj,n2,h⟩:=ax h
  refine W.rd [[],[],[1],[0,1,2],[],[],[4,5],aN 0 7 [],aN 0 8 []] [(4,_)] ei (by kernel_rfl) (av 0 (O.aC (.own q))<|av 1 (O.dR (cs':=[j aw.Prod,j aw.dY]) q (.obj q) pV q q)<|bC.eY 2 (x:=ag dB [aw]) (O.dg (ys:=[.agg [j aw.Prod,j aw.dY]]) dB [aw] ki q q q q q q Ih q q) q q q q .none<|av 3 (O.ap (en:=dB) (r:=dS) (.bl q) q (.aF q) .i Eh q iG)<|av 4 (O.aC (.aF q))<|av 5 (O.aC (.lit q))<|av 6 (O.HS (.aF q) (.lit q) ki l5)<|av 7 (O.IM (en:=dB) (r:=dj) (.bR q) q q (.aF q) .i Eh q n2)<|bC.bv 8 (G2:=[]) (b9.IF q q (.bR q) q q q q q q .nil q q) q q q q (by kernel_rfl) (by kernel_rfl)<|bC.fin q q q (.n q .nil)) ?_
  refine ah.aU<|W.eF (G1:=[(4,ag dB ((([]:List Item)++cj)++[aw]++fp))]) [4] (.z q q .ha .nil) ?_
  refine W.rt ?_
  obtain rfl:=au h
  exact cw (.f q q .nil)
theorem OO (a0:b') (aw:(List Item)) (r:(List Item)) (h:AM a0 aw=some r):b_ Try.prog 100 [.agg (ck.cells a0),ag dB aw] [none,none] (ag dB r):=by
 unfold AM at h
 refine b_.go (N:=⟨26,[]⟩) Try.func100 q q q q (W.fin ?_)
 refine W.st [(0,.agg (ck.cells a0)),(1,ag dB aw)] ?_
 refine W.bV [1,2] (ai (O.box (.b2 q q) q)<|aq.aV) ?_
 refine W.aT [1,2,5] ?_
 refine W.aX<|W.aT [1,2,5,6] ?_
 refine W.bf ?_
 obtain ⟨x2,ao,h⟩:=ax h
 refine W.ca (G1:=[(1,_),(2,_),(5,ag dB ([]:List Item)),(6,_)]) (.n q (.n q (.w q q .vS (.n q .nil)))) ?_
 refine W.eg (s:=(([]:List Item),0)) (λ(s1:List Item × Int)=>[(1,ag dB aw),(2,.obj (ck.cells a0)),(5,ag dB s1.1),(6,j s1.2)]) 0 (λ(x2:List Item)=>[(5,ag dB x2)]) ao (λs1 o h=>?_) ?_
 ·clear ao
  refine W.aX<|W.aT [1,2,5,6,10] ?_
  refine W.bu h q (λc0 h=>?_) (λc0 h=>?_)
  ·refine W.bF<|ah.aU ?_
   refine W.aX ?_
   obtain ⟨nk,aa,h⟩:=ax h
   refine W.bs [(1,ag dB aw),(2,.obj (ck.cells a0)),(5,ag dB nk),(6,j s1.2)] ?_ ?_
   ·clear h; have h:=aa; clear aa
    refine W.bf<|W.aX ?_
    obtain ⟨bP,ga,h⟩:=ax h
    obtain ⟨bz,gw,h⟩:=ax h
    refine W.rd [[],[],[],[1,2],[1,2,3],aN 0 5 []] [(1,_),(2,_),(5,_),(6,_),(18,_)] ei (by kernel_rfl) (av 0 (O.dR (cs':=[ag bq a0.ba,ag a7 a0.bw,ag bE a0.bc,ae a0.bx,ae a0.bA]) q (.obj q) gA q q)<|av 1 (O.aC (.aF q))<|av 2 (O.aC (.lit q))<|av 3 (O.cC (.aF q) (.lit q) ki ga)<|av 4 (O.iq (cs':=[j bP.Prod,j bP.dY]) (.bo q) pV q q)<|gR 5 (cr.go (.bT (.b2 q q) (.bT (.b2 q q) .nil)) (Jl a0 bP _ gw) call102 q)<|bC.fin q q q (dX q q q q q)) ?_
    refine ah.aU ?_
    obtain ⟨fk,aa,h⟩:=ax h
    refine W.bs [(1,ag dB aw),(2,.obj (ck.cells a0)),(5,ag dB fk),(6,j s1.2)] ?_ ?_
    ·clear h; have h:=aa; clear aa
     refine W.bu h q (λdi h=>?_) (λdi h=>?_)
     ·obtain ⟨bM,iF,h⟩:=ax h
      obtain ⟨bD,gQ,h⟩:=ax h
      refine W.bk [1,2,5,6] (ai (O.aC (.aF q))<|ai (O.aC (.aF q))<|bp q<|ai (O.cC (.aF q) (.lit q) ki iF)<|ai (O.iq (cs':=[j bM.Prod,j bM.dY]) (.bo q) pV q q)<|eE (cr.go (.bT (.aF q) (.bT (.b2 q q) .nil)) (EF s1.1 bM _ gQ) call101 q)<|aq.bk [1,2,6,24] q<|aq.aV) ?_
      obtain rfl:=au h
      exact ah.bs (dM q q q q)
     ·refine W.bF ?_
      obtain rfl:=au h
      exact ah.bs (dM q q q q)
    refine ah.bf ?_
    obtain rfl:=au h
    exact ah.bs (dM q q q q)
   refine ah.aU<|W.bk [1,2,5,6] (bp q<|ai (O.add (.lit q) (.k q))<|aq.bk [1,2,5,12] q<|aq.aV) ?_
   obtain rfl:=au h
   exact ah.go (dM q q q q)
  ·refine W.c9 ?_
   refine ah.c7 ?_
   obtain rfl:=au h
   exact ah.aD (.n q .nil)
 refine ah.c' ?_
 refine ah.aU<|W.aT [4] ?_
 refine W.rt ?_
 obtain rfl:=au h
 exact cw (.f q q .nil)
theorem EK (a0:b') (aw:(List Item)) (r:(List Item)) (h:we a0 aw=some r):b_ Try.prog 80 [.agg (ck.cells a0),ag dB aw] [none,none] (ag dB r):=by
 unfold we at h
 refine b_.go (N:=⟨59,[]⟩) Try.func80 q q q q (W.fin ?_)
 refine W.st [(0,.agg (ck.cells a0)),(1,ag dB aw)] ?_
 refine W.bV [1,2] (ai (O.box (.b2 q q) q)<|aq.aV) ?_
 obtain ⟨aD,fF,h⟩:=ax h
 refine W.bV [2,5] (ai (O.dR (cs':=[ag bq a0.ba,ag a7 a0.bw,ag bE a0.bc,ae a0.bx,ae a0.bA]) q (.obj q) gA q q)<|ai (O.aC (.aF q))<|eE (cr.go (.bT (.b2 q q) (.bT (.aF q) .nil)) (OO a0 aw _ fF) call100 q)<|aq.aV) ?_
 refine W.aX<|W.aT [2,5,6] ?_
 refine W.bf ?_
 obtain ⟨a8,ao,h⟩:=ax h
 refine W.ca (G1:=[(2,_),(5,_),(6,_)]) (dt q q q) ?_
 refine W.eg (s:=(aD,(-1))) (λ(s2:List Item × Int)=>[(2,.obj (ck.cells a0)),(5,ag dB s2.1),(6,j s2.2)]) 0 (λ(a8:List Item)=>[(5,ag dB a8)]) ao (λs2 o h=>?_) ?_
 ·clear ao
  refine W.aX<|W.aT [2,5,16] ?_
  refine W.bu h q (λdH h=>?_) (λdH h=>?_)
  ·refine W.bF<|ah.aU ?_
   obtain ⟨kN,aa,h⟩:=ax h
   refine W.bs [(2,.obj (ck.cells a0)),(5,ag dB kN.1),(6,j kN.2)] ?_ ?_
   ·clear h; have h:=aa; clear aa
    refine W.bf<|W.aT [2,5,6] ?_
    refine W.aT [2,5,6,7] ?_
    obtain ⟨n_,aa,h⟩:=ax h
    refine W.bs [(2,.obj (ck.cells a0)),(5,ag dB n_),(6,j (s2.1.length:Int))] ?_ ?_
    ·clear h; have h:=aa; clear aa
     refine W.bf ?_
     obtain ⟨cv,ao,h⟩:=ax h
     refine W.ca (G1:=[(2,_),(5,_),(6,_),(7,_)]) (dM q q q q) ?_
     refine W.eg (s:=(s2.1,0)) (λ(dT:List Item × Int)=>[(2,.obj (ck.cells a0)),(5,ag dB dT.1),(6,j (s2.1.length:Int)),(7,j dT.2)]) 2 (λ(cv:List Item)=>[(2,.obj (ck.cells a0)),(5,ag dB cv),(6,j (s2.1.length:Int))]) ao (λdT o h=>?_) ?_
     ·clear ao
      refine W.aX<|W.aT [2,5,6,7,21] ?_
      refine W.bu h q (λe_ h=>?_) (λe_ h=>?_)
      ·refine W.bF<|ah.aU ?_
       refine W.aX<|W.bf ?_
       refine W.aX ?_
       obtain ⟨dh,kL,h⟩:=ax h
       obtain ⟨eb,jX,h⟩:=ax h
       refine W.rd [[],[],[],[1,2],[1,2,3],aN 0 5 [],aN 0 6 []] [(2,_),(5,_),(6,_),(7,_),(8,_)] ei (by kernel_rfl) (av 0 (O.dR (cs':=[ag bq a0.ba,ag a7 a0.bw,ag bE a0.bc,ae a0.bx,ae a0.bA]) q (.obj q) gA q q)<|av 1 (O.aC (.aF q))<|av 2 (O.aC (.lit q))<|av 3 (O.cC (.aF q) (.lit q) ki kL)<|av 4 (O.iq (cs':=[j dh.Prod,j dh.dY]) (.bo q) pV q q)<|gR 5 (cr.go (.bT (.b2 q q) (.bT (.b2 q q) .nil)) (EL a0 dh _ jX) call81 q)<|av 6 (O.ec (.lit q))<|bC.fin q q q (dX q q q q q)) ?_
       refine ah.aU<|W.aX ?_
       refine W.aT [2,5,6,7,8,9] ?_
       refine W.bf ?_
       obtain ⟨cH,ao,h⟩:=ax h
       refine W.ca (G1:=[(2,_),(5,_),(6,_),(7,_),(8,_),(9,_)]) (fw q q q q q q) ?_
       refine W.eg (s:=(dT.1,0)) (λ(iu:List Item × Int)=>[(2,.obj (ck.cells a0)),(5,ag dB iu.1),(6,j (s2.1.length:Int)),(7,j dT.2),(8,j eb),(9,j iu.2)]) 4 (λ(cH:List Item)=>[(2,.obj (ck.cells a0)),(5,ag dB cH),(6,j (s2.1.length:Int)),(7,j dT.2)]) ao (λiu o h=>?_) ?_
       ·clear ao
        refine W.aX ?_
        obtain ⟨nW,aa,h⟩:=ax h
        refine W.rs [(2,.obj (ck.cells a0)),(5,ag dB iu.1),(6,j (s2.1.length:Int)),(7,j dT.2),(8,j eb),(9,j iu.2),(38,a1 nW)] ?_ ?_
        ·refine bp q<|ai (O.a_ q (.obj q) lI q)<|ai (O.cU (y:=ag bE a0.bc) q (.ptr q) mX q q)<|ai (O.hc (.aF q) ns)<|ai (O.lss (.lit q) (.lit q))<|ai (O.aC (.lit q)) ?_
         rcases cB aa with ⟨vh,aa⟩ | ⟨vh,aa⟩
         ·obtain rfl:=au aa
          exact aq.aV
         ·obtain rfl:=au aa
          exact aq.aV
        refine W.bu h q (λkJ h=>?_) (λkJ h=>?_)
        ·refine W.bF<|ah.aU ?_
         refine W.aX ?_
         obtain ⟨vE,aa,h⟩:=ax h
         refine W.bs [(2,.obj (ck.cells a0)),(5,ag dB vE),(6,j (s2.1.length:Int)),(7,j dT.2),(8,j eb),(9,j iu.2)] ?_ ?_
         ·clear h; have h:=aa; clear aa
          refine W.bf ?_
          obtain ⟨dk,nF,h⟩:=ax h
          refine W.aT [2,5,6,7,8,9,49] ?_
          obtain ⟨q9,aa,h⟩:=ax h
          refine W.bs [(2,.obj (ck.cells a0)),(5,ag dB q9),(6,j (s2.1.length:Int)),(7,j dT.2),(8,j eb),(9,j iu.2)] ?_ ?_
          ·clear h; have h:=aa; clear aa
           refine W.bu h q (λgn h=>?_) (λgn h=>?_)
           ·obtain ⟨gg,lO,h⟩:=ax h
            refine W.bk [2,5,6,7,8,9] (ai (O.aC (.aF q))<|bp q<|ai (O.dE (cs:=[j iu.2,j 0]) HG D4 q q q)<|eE (cr.go (.bT (.aF q) (.bT (.b2 q q) .nil)) (EF iu.1 (⟨iu.2,0⟩:Item) _ lO) call101 q)<|aq.bk [2,6,7,8,9,53] q<|aq.aV) ?_
            obtain rfl:=au h
            exact ah.bs (fw q q q q q q)
           ·refine W.bF ?_
            obtain rfl:=au h
            exact ah.bs (fw q q q q q q)
          refine ah.bf ?_
          obtain rfl:=au h
          exact ah.bs (fw q q q q q q)
         refine ah.aU<|W.bk [2,5,6,7,8,9] (bp q<|ai (O.add (.lit q) (.k q))<|aq.bk [2,5,6,7,8,40] q<|aq.aV) ?_
         obtain rfl:=au h
         exact ah.go (fw q q q q q q)
        ·refine W.c9 ?_
         refine ah.c7 ?_
         obtain rfl:=au h
         exact ah.aD (dM q q q q)
       refine ah.c' ?_
       refine ah.aU<|W.aT [2,5,6,7,57] ?_
       refine W.bu h q (λvj h=>?_) (λvj h=>?_)
       ·refine W.c9 ?_
        refine ah.Oi q ?_
        refine ah.c7 ?_
        obtain rfl:=au h
        exact ah.aD (dt q q q)
       ·refine W.bF<|ah.bf ?_
        refine ah.aU<|W.bk [2,5,6,7] (bp q<|ai (O.add (.lit q) (.k q))<|aq.bk [2,5,6,23] q<|aq.aV) ?_
        obtain rfl:=au h
        exact ah.go (dM q q q q)
      ·refine W.c9 ?_
       refine ah.c7 ?_
       obtain rfl:=au h
       exact ah.aD (dt q q q)
     refine ah.c' ?_
     obtain rfl:=au h
     exact ah.bs (dt q q q)
    refine ah.bf ?_
    obtain rfl:=au h
    exact ah.bs (dt q q q)
   obtain rfl:=au h
   exact ah.go (dt q q q)
  ·refine W.c9 ?_
   refine ah.c7 ?_
   obtain rfl:=au h
   exact ah.aD (.n q .nil)
 refine ah.c' ?_
 refine ah.aU<|W.aT [4] ?_
 refine W.rt ?_
 obtain rfl:=au h
 exact cw (.f q q .nil)
theorem Po (a0:b') (aw:(List Item)) (a2:Int) (r:(List Item)) (h:Bf a0 aw a2=some r):b_ Try.prog 82 [.agg (ck.cells a0),ag dB aw,j a2] [none,none,none] (ag dB r):=by
 unfold Bf at h
 refine b_.go (N:=⟨48,[]⟩) Try.func82 q q q q (W.fin ?_)
 refine W.st [(0,.agg (ck.cells a0)),(1,ag dB aw),(2,j a2)] ?_
 refine W.bV [1,2,3] (ai (O.box (.b2 q q) q)<|aq.aV) ?_
 refine W.aT [1,2,3,7] ?_
 obtain ⟨aD,fF,h⟩:=ax h
 refine W.bV [2,3,7,8] (ai (O.dR (cs':=[ag bq a0.ba,ag a7 a0.bw,ag bE a0.bc,ae a0.bx,ae a0.bA]) q (.obj q) gA q q)<|ai (O.aC (.aF q))<|eE (cr.go (.bT (.b2 q q) (.bT (.aF q) .nil)) (EK a0 aw _ fF) call80 q)<|aq.aV) ?_
 refine W.aX<|W.aT [2,3,7,8,9] ?_
 refine W.bf ?_
 obtain ⟨a8,ao,h⟩:=ax h
 refine W.ca (G1:=[(2,_),(3,_),(7,ag dB ([]:List Item)),(8,_),(9,_)]) (.n q (.n q (.w q q .vS (fC q q)))) ?_
 refine W.eg (s:=(([]:List Item),0)) (λ(s2:List Item × Int)=>[(2,j a2),(3,.obj (ck.cells a0)),(7,ag dB s2.1),(8,ag dB aD),(9,j s2.2)]) 0 (λ(a8:List Item)=>[(7,ag dB a8)]) ao (λs2 o h=>?_) ?_
 ·clear ao
  refine W.aX<|W.aT [2,3,7,8,9,17] ?_
  refine W.bu h q (λdH h=>?_) (λdH h=>?_)
  ·refine W.bF<|ah.aU ?_
   refine W.aX ?_
   obtain ⟨kN,aa,h⟩:=ax h
   refine W.bs [(2,j a2),(3,.obj (ck.cells a0)),(7,ag dB kN),(8,ag dB aD),(9,j s2.2)] ?_ ?_
   ·clear h; have h:=aa; clear aa
    refine W.bf<|W.aX ?_
    obtain ⟨bz,gw,h⟩:=ax h
    obtain ⟨b1,hK,h⟩:=ax h
    refine W.rd [[],[],[],[1,2],[1,2,3],aN 0 5 [],aN 0 6 []] [(2,_),(3,_),(7,_),(8,_),(9,_),(10,_)] ei (by kernel_rfl) (av 0 (O.dR (cs':=[ag bq a0.ba,ag a7 a0.bw,ag bE a0.bc,ae a0.bx,ae a0.bA]) q (.obj q) gA q q)<|av 1 (O.aC (.aF q))<|av 2 (O.aC (.lit q))<|av 3 (O.cC (.aF q) (.lit q) ki gw)<|av 4 (O.iq (cs':=[j bz.Prod,j bz.dY]) (.bo q) pV q q)<|gR 5 (cr.go (.bT (.b2 q q) (.bT (.b2 q q) .nil)) (EL a0 bz _ hK) call81 q)<|av 6 (O.ec (.lit q))<|bC.fin q q q (fw q q q q q q)) ?_
    refine ah.aU ?_
    obtain ⟨iz,aa,h⟩:=ax h
    refine W.rs [(2,j a2),(3,.obj (ck.cells a0)),(7,ag dB s2.1),(8,ag dB aD),(9,j s2.2),(32,a1 iz)] ?_ ?_
    ·refine bp q<|ai (O.geq (.lit q) (.k q))<|ai (O.aC (.lit q)) ?_
     rcases cB aa with ⟨di,aa⟩ | ⟨di,aa⟩
     ·obtain rfl:=au aa
      exact aq.aV
     ·obtain rfl:=au aa
      exact aq.aV
    obtain ⟨gT,aa,h⟩:=ax h
    refine W.bs [(2,j a2),(3,.obj (ck.cells a0)),(7,ag dB gT),(8,ag dB aD),(9,j s2.2)] ?_ ?_
    ·clear h; have h:=aa; clear aa
     refine W.bu h q (λdz h=>?_) (λdz h=>?_)
     ·refine W.ca (G1:=[(2,_),(3,_),(7,_),(8,_),(9,_)]) (dX q q q q q) ?_
      obtain ⟨eb,jX,h⟩:=ax h
      obtain ⟨dU,jP,h⟩:=ax h
      obtain ⟨cH,hI,h⟩:=ax h
      refine W.rd [[],[],[],[1,2],[1,2,3],[1,2,3,4],[],[],[6,7],[6,7,8],[6,7,8,9],aN 6 5 [],aN 1 11 [],aN 0 13 [],aN 0 14 []] [(2,_),(3,_),(7,_),(8,_),(9,_)] ei (by kernel_rfl) (av 0 (O.aC (.aF q))<|av 1 (O.aC (.aF q))<|av 2 (O.aC (.lit q))<|av 3 (O.cC (.aF q) (.lit q) ki jX)<|av 4 (O.ez (.bo q) nA)<|av 5 (O.dd (x:=j eb.Prod) (.bo q) ct q)<|av 6 (O.aC (.aF q))<|av 7 (O.aC (.lit q))<|av 8 (O.cC (.aF q) (.lit q) ki jP)<|av 9 (O.ez (.bo q) rN)<|av 10 (O.dd (x:=j dU.dY) (.bo q) ct q)<|av 11 (O.add (.lit q) (.k q))<|av 12 (O.dE (cs:=[j eb.Prod,j (aO (dU.dY+1))]) HG D4 q q q)<|gR 13 (cr.go (.bT (.aF q) (.bT (.b2 q q) .nil)) (EF s2.1 (⟨eb.Prod,aO (dU.dY+1)⟩:Item) _ hI) call101 q)<|bC.bv 14 (G2:=[(2,j a2),(3,.obj (ck.cells a0)),(8,ag dB aD),(9,j s2.2)]) (b9.B3 (y':=ag dB cH) q q (.aF q) (.f .nil) .refl (dM q q q q) q q) q q q q (by kernel_rfl) (by kernel_rfl)<|bC.fin q q q (dX q q q q q)) ?_
      obtain rfl:=au h
      exact ah.bs (dX q q q q q)
     ·refine W.bF ?_
      obtain rfl:=au h
      exact ah.bs (dX q q q q q)
    refine ah.bf ?_
    obtain rfl:=au h
    exact ah.bs (dX q q q q q)
   refine ah.aU<|W.bk [2,3,7,8,9] (bp q<|ai (O.add (.lit q) (.k q))<|aq.bk [2,3,7,8,19] q<|aq.aV) ?_
   obtain rfl:=au h
   exact ah.go (dX q q q q q)
  ·refine W.c9 ?_
   refine ah.c7 ?_
   obtain rfl:=au h
   exact ah.aD (.n q .nil)
 refine ah.c' ?_
 refine ah.aU<|W.aT [6] ?_
 refine W.rt ?_
 obtain rfl:=au h
 exact cw (.f q q .nil)
theorem OP (a0:(List Item)) (aw:(List Item)) (r:Bool) (h:AN a0 aw=some r):b_ Try.prog 103 [ag dB a0,ag dB aw] [none,none] (a1 r):=by
 unfold AN at h
 refine b_.go (N:=⟨26,[]⟩) Try.func103 q q q q (W.fin ?_)
 refine W.st [(0,ag dB a0),(1,ag dB aw)] ?_
 refine W.aT [0,1] ?_
 refine W.aX<|W.aT [0,1,10] ?_
 refine W.bu h q (λdb h=>?_) (λdb h=>?_)
 ·refine W.aT [4] ?_
  refine W.rt ?_
  refine ah.c5 ?_
  obtain rfl:=au h
  exact cw (.f q q .nil)
 ·refine W.bF<|ah.aU ?_
  refine W.aX<|W.aT [0,1,5] ?_
  refine W.bf ?_
  obtain ⟨a8,ao,h⟩:=ax h
  refine W.ca (G1:=[(0,_),(1,_),(5,_)]) (dt q q q) ?_
  refine W.jZ (s:=0) (λ(s2:Int)=>[(0,ag dB a0),(1,ag dB aw),(5,j s2)]) 0 (λ(b4:Unit)=>[]) (λ(cn:Bool)=>[(4,a1 cn)]) ao (λs2 o h=>?_) (λb4 J=>?_) (λcn J=>?_)
  ·clear ao
   refine W.aX<|W.aT [0,1,5,14] ?_
   refine W.bu h q (λee h=>?_) (λee h=>?_)
   ·refine W.bF<|ah.aU ?_
    refine W.aX<|W.bf ?_
    refine W.aX ?_
    obtain ⟨bz,gw,h⟩:=ax h
    obtain ⟨b1,hK,h⟩:=ax h
    refine W.rd [[],[],[0,1],[0,1,2],[],[],[4,5],[4,5,6],aN 0 8 []] [(0,_),(1,_),(5,_),(25,_)] ei (by kernel_rfl) (av 0 (O.aC (.aF q))<|av 1 (O.aC (.lit q))<|av 2 (O.cC (.aF q) (.lit q) ki gw)<|av 3 (O.iq (cs':=[j bz.Prod,j bz.dY]) (.bo q) pV q q)<|av 4 (O.aC (.aF q))<|av 5 (O.aC (.lit q))<|av 6 (O.cC (.aF q) (.lit q) ki hK)<|av 7 (O.iq (cs':=[j b1.Prod,j b1.dY]) (.bo q) pV q q)<|av 8 (O.LR (va:=[.int .i64 bz.Prod,.int .i64 bz.dY]) (vb:=[.int .i64 b1.Prod,.int .i64 b1.dY]) (.b2 q q) (.b2 q q) q q JR)<|bC.fin q q q (dM q q q q)) ?_
    refine ah.aU<|W.bu h q (λdi h=>?_) (λdi h=>?_)
    ·refine W.aT [4] ?_
     refine W.rt ?_
     refine ah.d_ ?_
     refine ah.c5 ?_
     obtain rfl:=au h
     exact ah.gx (.n q .nil)
    ·refine W.bF<|ah.bf ?_
     refine ah.aU<|W.bk [0,1,5] (bp q<|ai (O.add (.lit q) (.k q))<|aq.bk [0,1,16] q<|aq.aV) ?_
     obtain rfl:=au h
     exact ah.go (dt q q q)
   ·refine W.c9 ?_
    refine ah.c7 ?_
    obtain rfl:=au h
    exact ah.x2 .nil
  ·subst J
   refine ah.c' ?_
   refine ah.aU<|W.aT [4] ?_
   refine W.rt ?_
   obtain rfl:=au h
   exact cw (.f q q .nil)
  ·subst J
   refine ah.d_ ?_
   refine ah.c5 ?_
   obtain rfl:=au h
   exact cw (.f q q .nil)
theorem Pp (a0:(List State)) (aw:(List Item)) (r:Int) (h:Bg a0 aw=some r):b_ Try.prog 83 [ag cR a0,ag dB aw] [none,none] (j r):=by
 unfold Bg at h
 refine b_.go (N:=⟨20,[]⟩) Try.func83 q q q q (W.fin ?_)
 refine W.st [(0,ag cR a0),(1,ag dB aw)] ?_
 refine W.aT [0,1] ?_
 refine W.aX<|W.aT [0,1,5] ?_
 refine W.bf ?_
 obtain ⟨x2,ao,h⟩:=ax h
 refine W.ca (G1:=[(0,_),(1,_),(5,_)]) (dt q q q) ?_
 refine W.jZ (s:=0) (λ(s1:Int)=>[(0,ag cR a0),(1,ag dB aw),(5,j s1)]) 0 (λ(a8:Unit)=>[]) (λ(b4:Int)=>[(4,j b4)]) ao (λs1 o h=>?_) (λa8 J=>?_) (λb4 J=>?_)
 ·clear ao
  refine W.aX<|W.aT [0,1,5,9] ?_
  refine W.bu h q (λdH h=>?_) (λdH h=>?_)
  ·refine W.bF<|ah.aU ?_
   refine W.aX<|W.bf ?_
   obtain ⟨bP,ga,h⟩:=ax h
   obtain ⟨bz,gw,h⟩:=ax h
   refine W.bV [0,1,5,18] (ai (O.aC (.aF q))<|bp q<|ai (O.cC (.aF q) (.lit q) mO ga)<|ai (O.ez (.bo q) u9)<|ai (O.dd (x:=ag dB bP.Kernel) (.bo q) u5 q)<|ai (O.aC (.aF q))<|eE (cr.go (.bT (.aF q) (.bT (.aF q) .nil)) (OP bP.Kernel aw _ gw) call103 q)<|bK q) ?_
   refine W.bu h q (λc3 h=>?_) (λc3 h=>?_)
   ·refine W.aT [4] ?_
    refine W.rt ?_
    refine ah.d_ ?_
    refine ah.c5 ?_
    obtain rfl:=au h
    exact ah.gx (.n q .nil)
   ·refine W.bF<|ah.bf ?_
    refine ah.aU<|W.bk [0,1,5] (bp q<|ai (O.add (.lit q) (.k q))<|aq.bk [0,1,11] q<|aq.aV) ?_
    obtain rfl:=au h
    exact ah.go (dt q q q)
  ·refine W.c9 ?_
   refine ah.c7 ?_
   obtain rfl:=au h
   exact ah.x2 .nil
 ·subst J
  refine ah.c' ?_
  refine ah.aU<|W.aT [4] ?_
  refine W.rt ?_
  obtain rfl:=au h
  exact cw (.f q q .nil)
 ·subst J
  refine ah.d_ ?_
  refine ah.c5 ?_
  obtain rfl:=au h
  exact cw (.f q q .nil)
end Go.Proofs
