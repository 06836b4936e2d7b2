/-
  What is proved here: parts of the proof that the last text states: rules for walks through code, and of this program's functions what they answer. No condition of their own.
-/
import Derived.Test.YtbcajhiedeghlaaRows
import Derived.Test.YtbcajhiedeghlaaE4
namespace Go.Proofs
open Go Go.Own
set_option maxRecDepth 100000
set_option linter.unusedVariables false
theorem qA:dH Try.prog 23 0 0 3=true:=by kernel_rfl
theorem cr:hs Try.prog 3=true:=by kernel_rfl
theorem sm:dH Try.prog 23 1 1 3=true:=by kernel_rfl
theorem lD:(Try.prog.info? 23).bind (·.zero)=some (.agg #[.int .i64 0,.int .i64 0]):=by kernel_rfl
theorem pz:jT Try.prog 23 [(0,1),(1,1)]=true:=by kernel_rfl
theorem mQ:gJ Try.prog 23 2=true:=by kernel_rfl
theorem lf:i' Try.prog 23 2=true:=by kernel_rfl
theorem kc:qg Try.prog 9=true:=by kernel_rfl
theorem call121:dM Try.prog 121=true:=by kernel_rfl
theorem call122:dM Try.prog 122=true:=by kernel_rfl
theorem call117:dM Try.prog 117=true:=by kernel_rfl
theorem u7:dH Try.prog 88 1 1 4=true:=by kernel_rfl
theorem ns:hs Try.prog 4=true:=by kernel_rfl
theorem kB:dH Try.prog 88 0 0 9=true:=by kernel_rfl
theorem e4:hs Try.prog 9=true:=by kernel_rfl
theorem u9:dH Try.prog 88 2 2 3=true:=by kernel_rfl
theorem call120:dM Try.prog 120=true:=by kernel_rfl
theorem call111:dM Try.prog 111=true:=by kernel_rfl
theorem o7:dH Try.prog 100 0 0 3=true:=by kernel_rfl
theorem rB:dH Try.prog 100 2 2 98=true:=by kernel_rfl
theorem sh:hs Try.prog 98=true:=by kernel_rfl
theorem rV:fy Try.prog 98 88 4=true:=by kernel_rfl
theorem nS:dH Try.prog 100 1 1 9=true:=by kernel_rfl
theorem lW:i' Try.prog 88 4=true:=by kernel_rfl
theorem call116:dM Try.prog 116=true:=by kernel_rfl
theorem ez:Try.prog.follows .mixedOrders=true:=by kernel_rfl
theorem call124:dM Try.prog 124=true:=by kernel_rfl
theorem call123:dM Try.prog 123=true:=by kernel_rfl
theorem sq:dH Try.prog 93 0 0 91=true:=by kernel_rfl
theorem xd:hs Try.prog 91=true:=by kernel_rfl
theorem s7:fy Try.prog 91 90 6=true:=by kernel_rfl
theorem w1:i' Try.prog 90 6=true:=by kernel_rfl
theorem qi:(Try.prog.info? 90).bind (·.zero)=some (.agg #[.string { data:=#[] },.bool false,.int .i64 0,.int .i64 0,.string { data:=#[] },.int .i64 0]):=by kernel_rfl
theorem Bv:gJ Try.prog 90 6=true:=by kernel_rfl
theorem rE:dH Try.prog 90 1 4 9=true:=by kernel_rfl
theorem zr:dH Try.prog 90 0 0 88=true:=by kernel_rfl
theorem call118:dM Try.prog 118=true:=by kernel_rfl
theorem call119:dM Try.prog 119=true:=by kernel_rfl
theorem tx:dH Try.prog 93 1 1 88=true:=by kernel_rfl
theorem ER:dH Try.prog 33 0 0 9=true:=by kernel_rfl
theorem zl:dH Try.prog 33 1 1 30=true:=by kernel_rfl
theorem y7:hs Try.prog 30=true:=by kernel_rfl
theorem uB:fy Try.prog 30 100 4=true:=by kernel_rfl
theorem D_:i' Try.prog 100 4=true:=by kernel_rfl
theorem call110:dM Try.prog 110=true:=by kernel_rfl
theorem o8:dH Try.prog 33 2 2 31=true:=by kernel_rfl
theorem pQ:hs Try.prog 31=true:=by kernel_rfl
theorem pA:fy Try.prog 31 96 3=true:=by kernel_rfl
theorem IP:i' Try.prog 96 3=true:=by kernel_rfl
theorem DQ:(Try.prog.info? 96).bind (·.zero)=some (.agg #[.string { data:=#[] },.slice none 0 0,.int .i64 0]):=by kernel_rfl
theorem MQ:gJ Try.prog 96 3=true:=by kernel_rfl
theorem tz:dH Try.prog 96 0 0 9=true:=by kernel_rfl
theorem tA:dH Try.prog 96 1 1 94=true:=by kernel_rfl
theorem xe:hs Try.prog 94=true:=by kernel_rfl
theorem wo:fy Try.prog 94 93 6=true:=by kernel_rfl
theorem Ea:i' Try.prog 93 6=true:=by kernel_rfl
theorem call112:dM Try.prog 112=true:=by kernel_rfl
theorem zh:dH Try.prog 169 4 8 3=true:=by kernel_rfl
theorem nJ:gJ Try.prog 3 1=true:=by kernel_rfl
theorem zi:dH Try.prog 169 5 9 3=true:=by kernel_rfl
theorem zj:dH Try.prog 169 6 10 9=true:=by kernel_rfl
theorem wx:gJ Try.prog 9 1=true:=by kernel_rfl
theorem zg:dH Try.prog 169 2 6 41=true:=by kernel_rfl
theorem sg:hs Try.prog 41=true:=by kernel_rfl
theorem rU:fy Try.prog 41 176 2=true:=by kernel_rfl
theorem JV:dH Try.prog 176 0 0 9=true:=by kernel_rfl
theorem kj:dH Try.prog 169 0 0 44=true:=by kernel_rfl
theorem ox:dH Try.prog 44 0 0 40=true:=by kernel_rfl
theorem pR:hs Try.prog 40=true:=by kernel_rfl
theorem qe:fy Try.prog 40 78 6=true:=by kernel_rfl
theorem J1:dH Try.prog 78 0 0 9=true:=by kernel_rfl
theorem J2:dH Try.prog 78 1 1 4=true:=by kernel_rfl
theorem IX:yT Try.prog 4=true:=by kernel_rfl
theorem zq:dH Try.prog 78 2 2 3=true:=by kernel_rfl
theorem call95:dM Try.prog 95=true:=by kernel_rfl
theorem wD:(Try.prog.info? 78).bind (·.zero)=some (.agg #[.string { data:=#[] },.bool false,.int .i64 0,.int .i64 0,.int .i64 0,.string { data:=#[] }]):=by kernel_rfl
theorem DA:jT Try.prog 78 [(0,1),(1,1),(2,1),(3,1),(4,1),(5,1)]=true:=by kernel_rfl
theorem HP:gJ Try.prog 78 6=true:=by kernel_rfl
theorem GI:sQ Try.prog 5 .u8=true:=by kernel_rfl
theorem GH:sQ Try.prog 3 .i64=true:=by kernel_rfl
theorem call114:dM Try.prog 114=true:=by kernel_rfl
theorem rD:dH Try.prog 88 3 3 3=true:=by kernel_rfl
theorem call94:dM Try.prog 94=true:=by kernel_rfl
theorem D':i' Try.prog 78 6=true:=by kernel_rfl
theorem Nk:jz Try.prog 78 6=true:=by kernel_rfl
theorem NT:im Try.prog 40 78 6 64=true:=by kernel_rfl
theorem MM:gJ Try.prog 40 1=true:=by kernel_rfl
theorem xi:dH Try.prog 169 1 5 103=true:=by kernel_rfl
theorem y4:hs Try.prog 103=true:=by kernel_rfl
theorem U6:jz Try.prog 4 1=true:=by kernel_rfl
theorem oN:fy Try.prog 103 4 1=true:=by kernel_rfl
theorem NN:im Try.prog 103 4 1 1=true:=by kernel_rfl
theorem Un:gJ Try.prog 103 1=true:=by kernel_rfl
theorem call98:dM Try.prog 98=true:=by kernel_rfl
theorem BK:(Try.prog.info? 176).bind (·.zero)=some (.agg #[.string { data:=#[] },.string { data:=#[] }]):=by kernel_rfl
theorem Dz:jT Try.prog 176 [(0,1),(1,1)]=true:=by kernel_rfl
theorem DR:jz Try.prog 176 2=true:=by kernel_rfl
theorem D5:im Try.prog 41 176 2 32=true:=by kernel_rfl
theorem DE:gJ Try.prog 41 1=true:=by kernel_rfl
theorem Cp:dH Try.prog 176 1 1 9=true:=by kernel_rfl
theorem call113:dM Try.prog 113=true:=by kernel_rfl
theorem Cq:dH Try.prog 78 3 3 3=true:=by kernel_rfl
theorem Co:dH Try.prog 169 7 11 3=true:=by kernel_rfl
theorem EW:dH Try.prog 78 4 4 3=true:=by kernel_rfl
theorem uD:gJ Try.prog 4 1=true:=by kernel_rfl
theorem Cr:dH Try.prog 78 5 5 9=true:=by kernel_rfl
theorem xj:dH Try.prog 169 3 7 167=true:=by kernel_rfl
theorem y6:hs Try.prog 167=true:=by kernel_rfl
theorem Bq:fy Try.prog 167 9 1=true:=by kernel_rfl
theorem call96:dM Try.prog 96=true:=by kernel_rfl
theorem J3:dH Try.prog 93 2 5 3=true:=by kernel_rfl
theorem BJ:(Try.prog.info? 148).bind (·.zero)=some (.agg #[.int .i64 0,.slice none 0 0,.int .i64 0,.string { data:=#[] },.slice none 0 0,.int .i64 0]):=by kernel_rfl
theorem HA:jT Try.prog 148 [(0,1),(1,1),(2,1),(3,1),(4,1),(5,1)]=true:=by kernel_rfl
theorem MK:gJ Try.prog 148 6=true:=by kernel_rfl
theorem m_:dH Try.prog 148 1 1 29=true:=by kernel_rfl
theorem hM:hs Try.prog 29=true:=by kernel_rfl
theorem call115:dM Try.prog 115=true:=by kernel_rfl
theorem oS:jz Try.prog 3 1=true:=by kernel_rfl
theorem fk:fy Try.prog 29 3 1=true:=by kernel_rfl
theorem ov:im Try.prog 29 3 1 8=true:=by kernel_rfl
theorem wu:gJ Try.prog 29 1=true:=by kernel_rfl
theorem Cs:dH Try.prog 90 2 5 3=true:=by kernel_rfl
theorem JS:dH Try.prog 148 3 3 9=true:=by kernel_rfl
theorem JU:dH Try.prog 148 5 5 3=true:=by kernel_rfl
theorem zk:dH Try.prog 169 8 12 3=true:=by kernel_rfl
theorem lG:dH Try.prog 44 2 2 42=true:=by kernel_rfl
theorem mY:hs Try.prog 42=true:=by kernel_rfl
theorem H5:jz Try.prog 148 6=true:=by kernel_rfl
theorem nm:fy Try.prog 42 148 6=true:=by kernel_rfl
theorem IA:im Try.prog 42 148 6 88=true:=by kernel_rfl
theorem HO:gJ Try.prog 42 1=true:=by kernel_rfl
theorem ze:dH Try.prog 148 2 2 3=true:=by kernel_rfl
theorem JT:dH Try.prog 148 4 4 29=true:=by kernel_rfl
theorem IJ:i' Try.prog 148 6=true:=by kernel_rfl
theorem LC:sQ Try.prog 187 .u64=true:=by kernel_rfl
theorem Nj:jz Try.prog 5 1=true:=by kernel_rfl
theorem HG:fy Try.prog 123 5 1=true:=by kernel_rfl
theorem I0:uV Try.prog 123 9=true:=by kernel_rfl
theorem og:(Try.prog.info? 44).bind (·.zero)=some (.agg #[.slice none 0 0,.slice none 0 0,.slice none 0 0,.string { data:=#[] },.string { data:=#[] }]):=by kernel_rfl
theorem uQ:i' Try.prog 33 4=true:=by kernel_rfl
theorem call92:dM Try.prog 92=true:=by kernel_rfl
theorem HB:jT Try.prog 44 [(0,1),(1,1),(2,1),(3,1),(4,1)]=true:=by kernel_rfl
theorem mR:gJ Try.prog 44 5=true:=by kernel_rfl
theorem gv:i' Try.prog 44 5=true:=by kernel_rfl
theorem H2:(Try.prog.info? 4).bind (·.zero)=some (.bool false):=by kernel_rfl
theorem Ed:(Try.prog.info? 4).map (·.bytes)=some 1:=by kernel_rfl
theorem U0:(Try.prog.info? 169).bind (·.zero)=some (.agg #[.slice none 0 0,.slice none 0 0,.slice none 0 0,.string { data:=#[] },.string { data:=#[] },.slice none 0 0,.slice none 0 0,.slice none 0 0,.int .i64 0,.int .i64 0,.string { data:=#[] },.int .i64 0,.int .i64 0]):=by kernel_rfl
theorem T7:jT Try.prog 169 [(0,5),(5,1),(6,1),(7,1),(8,1),(9,1),(10,1),(11,1),(12,1)]=true:=by kernel_rfl
theorem Na:(Try.prog.info? 100).bind (·.zero)=some (.agg #[.int .i64 0,.string { data:=#[] },.slice none 0 0,.int .i64 0]):=by kernel_rfl
theorem Um:gJ Try.prog 100 4=true:=by kernel_rfl
theorem call93:dM Try.prog 93=true:=by kernel_rfl
theorem rf:(Try.prog.info? 88).bind (·.zero)=some (.agg #[.string { data:=#[] },.bool false,.int .i64 0,.int .i64 0]):=by kernel_rfl
theorem wk:jT Try.prog 88 [(0,1),(1,1),(2,1),(3,1)]=true:=by kernel_rfl
theorem J4:dH Try.prog 96 2 2 3=true:=by kernel_rfl
theorem U9:jz Try.prog 9 1=true:=by kernel_rfl
theorem NQ:im Try.prog 167 9 1 16=true:=by kernel_rfl
theorem Uq:gJ Try.prog 167 1=true:=by kernel_rfl
theorem yq:gJ Try.prog 88 4=true:=by kernel_rfl
theorem call97:dM Try.prog 97=true:=by kernel_rfl
theorem sn:dH Try.prog 44 1 1 41=true:=by kernel_rfl
theorem Ur:gJ Try.prog 176 2=true:=by kernel_rfl
theorem N7:i' Try.prog 176 2=true:=by kernel_rfl
theorem call99:dM Try.prog 99=true:=by kernel_rfl
theorem ES:dH Try.prog 33 3 3 9=true:=by kernel_rfl
theorem JZ:dH Try.prog 44 3 3 9=true:=by kernel_rfl
theorem J0:dH Try.prog 44 4 4 9=true:=by kernel_rfl
theorem call78:dM Try.prog 78=true:=by kernel_rfl
theorem nt:dH Try.prog 137 0 0 3=true:=by kernel_rfl
theorem rC:dH Try.prog 137 1 1 3=true:=by kernel_rfl
theorem pP:i' Try.prog 137 2=true:=by kernel_rfl
theorem call102:dM Try.prog 102=true:=by kernel_rfl
theorem kb:fy Try.prog 132 137 2=true:=by kernel_rfl
theorem JM:sk Try.prog 137 [.i .i64,.i .i64]=true:=by kernel_rfl
theorem H4:jz Try.prog 137 2=true:=by kernel_rfl
theorem D3:im Try.prog 132 137 2 16=true:=by kernel_rfl
theorem call101:dM Try.prog 101=true:=by kernel_rfl
theorem call100:dM Try.prog 100=true:=by kernel_rfl
theorem call81:dM Try.prog 81=true:=by kernel_rfl
theorem zd:dH Try.prog 148 0 0 3=true:=by kernel_rfl
theorem DN:(Try.prog.info? 137).bind (·.zero)=some (.agg #[.int .i64 0,.int .i64 0]):=by kernel_rfl
theorem Hz:jT Try.prog 137 [(0,1),(1,1)]=true:=by kernel_rfl
theorem call80:dM Try.prog 80=true:=by kernel_rfl
theorem mP:fy Try.prog 64 135 2=true:=by kernel_rfl
theorem u4:dH Try.prog 135 0 0 132=true:=by kernel_rfl
theorem u0:hs Try.prog 132=true:=by kernel_rfl
theorem call103:dM Try.prog 103=true:=by kernel_rfl
theorem Nb:(Try.prog.info? 135).bind (·.zero)=some (.agg #[.slice none 0 0,.slice none 0 0]):=by kernel_rfl
theorem Mu:jT Try.prog 135 [(0,1),(1,1)]=true:=by kernel_rfl
theorem Nh:jz Try.prog 135 2=true:=by kernel_rfl
theorem call79:dM Try.prog 79=true:=by kernel_rfl
theorem call67:dM Try.prog 67=true:=by kernel_rfl
theorem call70:dM Try.prog 70=true:=by kernel_rfl
theorem call82:dM Try.prog 82=true:=by kernel_rfl
theorem call83:dM Try.prog 83=true:=by kernel_rfl
theorem NV:im Try.prog 64 135 2 48=true:=by kernel_rfl
theorem u5:dH Try.prog 135 1 1 133=true:=by kernel_rfl
theorem y5:hs Try.prog 133=true:=by kernel_rfl
theorem Nd:(Try.prog.info? 145).bind (·.zero)=some (.agg #[.int .i64 0,.int .i64 0]):=by kernel_rfl
theorem Mv:jT Try.prog 145 [(0,1),(1,1)]=true:=by kernel_rfl
theorem Ni:jz Try.prog 145 2=true:=by kernel_rfl
theorem Bp:fy Try.prog 133 145 2=true:=by kernel_rfl
theorem Iy:im Try.prog 133 145 2 16=true:=by kernel_rfl
theorem MJ:gJ Try.prog 133 1=true:=by kernel_rfl
theorem call68:dM Try.prog 68=true:=by kernel_rfl
theorem call69:dM Try.prog 69=true:=by kernel_rfl
theorem EP:dH Try.prog 145 0 0 3=true:=by kernel_rfl
theorem PN:dH Try.prog 145 1 1 3=true:=by kernel_rfl
theorem zp:dH Try.prog 76 4 4 29=true:=by kernel_rfl
theorem EV:dH Try.prog 76 2 2 3=true:=by kernel_rfl
theorem u6:dH Try.prog 76 3 3 4=true:=by kernel_rfl
theorem call59:dM Try.prog 59=true:=by kernel_rfl
theorem Nf:(Try.prog.info? 76).bind (·.zero)=some (.agg #[.int .i64 0,.int .i64 0,.int .i64 0,.bool false,.slice none 0 0]):=by kernel_rfl
theorem T9:jT Try.prog 76 [(0,1),(1,1),(2,1),(3,1),(4,1)]=true:=by kernel_rfl
theorem Uv:gJ Try.prog 76 5=true:=by kernel_rfl
theorem Uo:gJ Try.prog 137 2=true:=by kernel_rfl
theorem Bo:fy Try.prog 112 139 3=true:=by kernel_rfl
theorem JQ:dH Try.prog 139 0 0 3=true:=by kernel_rfl
theorem Cn:dH Try.prog 139 2 2 29=true:=by kernel_rfl
theorem JR:dH Try.prog 139 1 1 3=true:=by kernel_rfl
theorem B5:i' Try.prog 76 5=true:=by kernel_rfl
theorem call66:dM Try.prog 66=true:=by kernel_rfl
theorem U8:jz Try.prog 76 5=true:=by kernel_rfl
theorem Br:fy Try.prog 65 76 5=true:=by kernel_rfl
theorem NW:im Try.prog 65 76 5 56=true:=by kernel_rfl
theorem ly:fy Try.prog 34 29 1=true:=by kernel_rfl
theorem UZ:(Try.prog.info? 161).bind (·.zero)=some (.agg #[.int .i64 0,.int .i64 0]):=by kernel_rfl
theorem T6:jT Try.prog 161 [(0,1),(1,1)]=true:=by kernel_rfl
theorem U5:jz Try.prog 161 2=true:=by kernel_rfl
theorem qd:fy Try.prog 158 161 2=true:=by kernel_rfl
theorem NP:im Try.prog 158 161 2 16=true:=by kernel_rfl
theorem call88:dM Try.prog 88=true:=by kernel_rfl
theorem xh:dH Try.prog 161 0 0 3=true:=by kernel_rfl
theorem zf:dH Try.prog 161 1 1 3=true:=by kernel_rfl
theorem call104:dM Try.prog 104=true:=by kernel_rfl
theorem H6:jz Try.prog 29 1=true:=by kernel_rfl
theorem D4:im Try.prog 34 29 1 24=true:=by kernel_rfl
theorem call107:dM Try.prog 107=true:=by kernel_rfl
theorem call105:dM Try.prog 105=true:=by kernel_rfl
theorem call106:dM Try.prog 106=true:=by kernel_rfl
theorem U1:(Try.prog.info? 29).bind (·.zero)=some (.slice none 0 0):=by kernel_rfl
theorem Oa:(Try.prog.info? 29).map (·.bytes)=some 24:=by kernel_rfl
theorem call89:dM Try.prog 89=true:=by kernel_rfl
theorem call85:dM Try.prog 85=true:=by kernel_rfl
theorem call86:dM Try.prog 86=true:=by kernel_rfl
theorem call84:dM Try.prog 84=true:=by kernel_rfl
theorem call87:dM Try.prog 87=true:=by kernel_rfl
theorem call71:dM Try.prog 71=true:=by kernel_rfl
theorem call72:dM Try.prog 72=true:=by kernel_rfl
theorem Nc:(Try.prog.info? 139).bind (·.zero)=some (.agg #[.int .i64 0,.int .i64 0,.slice none 0 0]):=by kernel_rfl
theorem T5:jT Try.prog 139 [(0,1),(1,1),(2,1)]=true:=by kernel_rfl
theorem Up:gJ Try.prog 139 3=true:=by kernel_rfl
theorem call73:dM Try.prog 73=true:=by kernel_rfl
theorem N6:i' Try.prog 139 3=true:=by kernel_rfl
theorem U4:jz Try.prog 139 3=true:=by kernel_rfl
theorem NO:im Try.prog 112 139 3 40=true:=by kernel_rfl
theorem call52:dM Try.prog 52=true:=by kernel_rfl
theorem call54:dM Try.prog 54=true:=by kernel_rfl
theorem call53:dM Try.prog 53=true:=by kernel_rfl
theorem call91:dM Try.prog 91=true:=by kernel_rfl
theorem EU:dH Try.prog 76 0 0 3=true:=by kernel_rfl
theorem zo:dH Try.prog 76 1 1 3=true:=by kernel_rfl
theorem Ng:(Try.prog.info? 82).bind (·.zero)=some (.agg #[.int .i64 0,.int .i64 0,.int .i64 0,.int .i64 0]):=by kernel_rfl
theorem Mx:jT Try.prog 82 [(0,1),(1,1),(2,1),(3,1)]=true:=by kernel_rfl
theorem Nl:jz Try.prog 82 4=true:=by kernel_rfl
theorem HH:fy Try.prog 68 82 4=true:=by kernel_rfl
theorem D6:im Try.prog 68 82 4 32=true:=by kernel_rfl
theorem call75:dM Try.prog 75=true:=by kernel_rfl
theorem uH:(Try.prog.info? 47).bind (·.zero)=some (.agg #[.slice none 0 0,.slice none 0 0]):=by kernel_rfl
theorem s6:fy Try.prog 54 23 2=true:=by kernel_rfl
theorem N':(Try.prog.info? 23).map (·.bytes)=some 16:=by kernel_rfl
theorem call58:dM Try.prog 58=true:=by kernel_rfl
theorem U2:(Try.prog.info? 3).bind (·.zero)=some (.int .i64 0):=by kernel_rfl
theorem Ob:(Try.prog.info? 3).map (·.bytes)=some 8:=by kernel_rfl
theorem so:dH Try.prog 47 0 0 45=true:=by kernel_rfl
theorem tw:hs Try.prog 45=true:=by kernel_rfl
theorem U7:jz Try.prog 54 1=true:=by kernel_rfl
theorem uC:fy Try.prog 45 54 1=true:=by kernel_rfl
theorem NU:im Try.prog 45 54 1 24=true:=by kernel_rfl
theorem xk:dH Try.prog 47 1 1 34=true:=by kernel_rfl
theorem sf:hs Try.prog 34=true:=by kernel_rfl
theorem Uu:gJ Try.prog 45 1=true:=by kernel_rfl
theorem Ut:gJ Try.prog 34 1=true:=by kernel_rfl
theorem rn:i' Try.prog 47 2=true:=by kernel_rfl
theorem wv:gJ Try.prog 47 2=true:=by kernel_rfl
theorem call30:dM Try.prog 30=true:=by kernel_rfl
theorem T8:jT Try.prog 47 [(0,1),(1,1)]=true:=by kernel_rfl
theorem call32:dM Try.prog 32=true:=by kernel_rfl
theorem call48:dM Try.prog 48=true:=by kernel_rfl
theorem q8:fy Try.prog 57 62 2=true:=by kernel_rfl
theorem IN:i' Try.prog 62 2=true:=by kernel_rfl
theorem PG:sk Try.prog 62 [.i .i64,.i .i64]=true:=by kernel_rfl
theorem kn:fy Try.prog 51 59 2=true:=by kernel_rfl
theorem nT:dH Try.prog 59 0 0 3=true:=by kernel_rfl
theorem pS:dH Try.prog 59 1 1 57=true:=by kernel_rfl
theorem ry:hs Try.prog 57=true:=by kernel_rfl
theorem call49:dM Try.prog 49=true:=by kernel_rfl
theorem UK:Try.prog.underlying 3=some (.int .i64):=by kernel_rfl
noncomputable abbrev p5:yG Try.prog 3 Int:=Nw UK
theorem U_:(Try.prog.info? 3).bind (·.zero)=some (.int .i64 0):=by kernel_rfl
noncomputable abbrev p7:yH Try.prog 3 Int:=Nx U_
theorem DH:Try.prog.underlying 126=some (.map 3 3):=by kernel_rfl
theorem xc:hs Try.prog 54=true:=by kernel_rfl
theorem call50:dM Try.prog 50=true:=by kernel_rfl
theorem re:(Try.prog.info? 59).bind (·.zero)=some (.agg #[.int .i64 0,.slice none 0 0]):=by kernel_rfl
theorem s5:jT Try.prog 59 [(0,1),(1,1)]=true:=by kernel_rfl
theorem MO:gJ Try.prog 59 2=true:=by kernel_rfl
theorem call15:dM Try.prog 15=true:=by kernel_rfl
theorem yx:(Try.prog.info? 62).bind (·.zero)=some (.agg #[.int .i64 0,.int .i64 0]):=by kernel_rfl
theorem ym:jT Try.prog 62 [(0,1),(1,1)]=true:=by kernel_rfl
theorem BL:jz Try.prog 62 2=true:=by kernel_rfl
theorem IC:im Try.prog 57 62 2 16=true:=by kernel_rfl
theorem MN:gJ Try.prog 57 1=true:=by kernel_rfl
theorem IM:i' Try.prog 59 2=true:=by kernel_rfl
theorem DS:jz Try.prog 59 2=true:=by kernel_rfl
theorem IB:im Try.prog 51 59 2 32=true:=by kernel_rfl
theorem wm:jT Try.prog 90 [(0,4),(4,1),(5,1)]=true:=by kernel_rfl
theorem yy:jz Try.prog 90 6=true:=by kernel_rfl
theorem DP:(Try.prog.info? 93).bind (·.zero)=some (.agg #[.slice none 0 0,.string { data:=#[] },.bool false,.int .i64 0,.int .i64 0,.int .i64 0]):=by kernel_rfl
theorem HC:jT Try.prog 93 [(0,1),(1,4),(5,1)]=true:=by kernel_rfl
theorem H7:jz Try.prog 93 6=true:=by kernel_rfl
theorem My:jT Try.prog 96 [(0,1),(1,1),(2,1)]=true:=by kernel_rfl
theorem Np:jz Try.prog 96 3=true:=by kernel_rfl
theorem DO:(Try.prog.info? 33).bind (·.zero)=some (.agg #[.string { data:=#[] },.slice none 0 0,.slice none 0 0,.string { data:=#[] }]):=by kernel_rfl
theorem Mw:jT Try.prog 33 [(0,1),(1,1),(2,1),(3,1)]=true:=by kernel_rfl
theorem call21:dM Try.prog 21=true:=by kernel_rfl
theorem call23:dM Try.prog 23=true:=by kernel_rfl
theorem call22:dM Try.prog 22=true:=by kernel_rfl
theorem call25:dM Try.prog 25=true:=by kernel_rfl
theorem call17:dM Try.prog 17=true:=by kernel_rfl
theorem EN:sk Try.prog 23 [.i .i64,.i .i64]=true:=by kernel_rfl
theorem call13:dM Try.prog 13=true:=by kernel_rfl
theorem call14:dM Try.prog 14=true:=by kernel_rfl
theorem ML:gJ Try.prog 33 4=true:=by kernel_rfl
theorem PM:dH Try.prog 100 3 3 3=true:=by kernel_rfl
theorem T4:jT Try.prog 100 [(0,1),(1,1),(2,1),(3,1)]=true:=by kernel_rfl
theorem Nn:jz Try.prog 88 4=true:=by kernel_rfl
theorem NX:im Try.prog 98 88 4 40=true:=by kernel_rfl
theorem Uw:gJ Try.prog 98 1=true:=by kernel_rfl
theorem U3:jz Try.prog 100 4=true:=by kernel_rfl
theorem NR:im Try.prog 30 100 4 56=true:=by kernel_rfl
theorem D7:im Try.prog 91 90 6 64=true:=by kernel_rfl
theorem HQ:gJ Try.prog 91 1=true:=by kernel_rfl
theorem ID:im Try.prog 94 93 6 72=true:=by kernel_rfl
theorem MP:gJ Try.prog 94 1=true:=by kernel_rfl
theorem NS:im Try.prog 31 96 3 48=true:=by kernel_rfl
theorem Us:gJ Try.prog 31 1=true:=by kernel_rfl
theorem call65:dM Try.prog 65=true:=by kernel_rfl
theorem call47:dM Try.prog 47=true:=by kernel_rfl
theorem call45:dM Try.prog 45=true:=by kernel_rfl
theorem JW:dH Try.prog 36 0 0 3=true:=by kernel_rfl
theorem JX:dH Try.prog 36 2 2 29=true:=by kernel_rfl
theorem call44:dM Try.prog 44=true:=by kernel_rfl
theorem zm:dH Try.prog 36 1 1 34=true:=by kernel_rfl
theorem call46:dM Try.prog 46=true:=by kernel_rfl
theorem zn:dH Try.prog 36 3 3 29=true:=by kernel_rfl
theorem JY:dH Try.prog 36 4 4 4=true:=by kernel_rfl
theorem IL:i' Try.prog 36 5=true:=by kernel_rfl
theorem call20:dM Try.prog 20=true:=by kernel_rfl
theorem Ud:fy Try.prog 39 33 4=true:=by kernel_rfl
theorem ET:dH Try.prog 62 0 0 3=true:=by kernel_rfl
theorem PO:dH Try.prog 62 1 1 3=true:=by kernel_rfl
theorem call27:dM Try.prog 27=true:=by kernel_rfl
theorem call28:dM Try.prog 28=true:=by kernel_rfl
theorem PS:dH Try.prog 82 2 2 3=true:=by kernel_rfl
theorem PT:dH Try.prog 82 3 3 3=true:=by kernel_rfl
theorem PQ:dH Try.prog 82 0 0 3=true:=by kernel_rfl
theorem PR:dH Try.prog 82 1 1 3=true:=by kernel_rfl
instance:dL Try.prog 23 0 0 3:=⟨qA⟩
instance:gL Try.prog 3:=⟨cr⟩
instance:dL Try.prog 23 1 1 3:=⟨sm⟩
instance:r2 Try.prog 9:=⟨kc⟩
instance:dL Try.prog 88 1 1 4:=⟨u7⟩
instance:gL Try.prog 4:=⟨ns⟩
instance:dL Try.prog 88 0 0 9:=⟨kB⟩
instance:gL Try.prog 9:=⟨e4⟩
instance:dL Try.prog 88 2 2 3:=⟨u9⟩
instance:dL Try.prog 100 0 0 3:=⟨o7⟩
instance:dL Try.prog 100 2 2 98:=⟨rB⟩
instance:gL Try.prog 98:=⟨sh⟩
instance:gT Try.prog 98 88 4:=⟨rV⟩
instance:dL Try.prog 100 1 1 9:=⟨nS⟩
instance:dL Try.prog 93 0 0 91:=⟨sq⟩
instance:gL Try.prog 91:=⟨xd⟩
instance:gT Try.prog 91 90 6:=⟨s7⟩
instance:dL Try.prog 90 1 4 9:=⟨rE⟩
instance:dL Try.prog 90 0 0 88:=⟨zr⟩
instance:dL Try.prog 93 1 1 88:=⟨tx⟩
instance:dL Try.prog 33 0 0 9:=⟨ER⟩
instance:dL Try.prog 33 1 1 30:=⟨zl⟩
instance:gL Try.prog 30:=⟨y7⟩
instance:gT Try.prog 30 100 4:=⟨uB⟩
instance:dL Try.prog 33 2 2 31:=⟨o8⟩
instance:gL Try.prog 31:=⟨pQ⟩
instance:gT Try.prog 31 96 3:=⟨pA⟩
instance:dL Try.prog 96 0 0 9:=⟨tz⟩
instance:dL Try.prog 96 1 1 94:=⟨tA⟩
instance:gL Try.prog 94:=⟨xe⟩
instance:gT Try.prog 94 93 6:=⟨wo⟩
instance:dL Try.prog 169 4 8 3:=⟨zh⟩
instance:dL Try.prog 169 5 9 3:=⟨zi⟩
instance:dL Try.prog 169 6 10 9:=⟨zj⟩
instance:dL Try.prog 169 2 6 41:=⟨zg⟩
instance:gL Try.prog 41:=⟨sg⟩
instance:gT Try.prog 41 176 2:=⟨rU⟩
instance:dL Try.prog 176 0 0 9:=⟨JV⟩
instance:dL Try.prog 169 0 0 44:=⟨kj⟩
instance:dL Try.prog 44 0 0 40:=⟨ox⟩
instance:gL Try.prog 40:=⟨pR⟩
instance:gT Try.prog 40 78 6:=⟨qe⟩
instance:dL Try.prog 78 0 0 9:=⟨J1⟩
instance:dL Try.prog 78 1 1 4:=⟨J2⟩
instance:dL Try.prog 78 2 2 3:=⟨zq⟩
instance:dL Try.prog 88 3 3 3:=⟨rD⟩
instance:dL Try.prog 169 1 5 103:=⟨xi⟩
instance:gL Try.prog 103:=⟨y4⟩
instance:gT Try.prog 103 4 1:=⟨oN⟩
instance:dL Try.prog 176 1 1 9:=⟨Cp⟩
instance:dL Try.prog 78 3 3 3:=⟨Cq⟩
instance:dL Try.prog 169 7 11 3:=⟨Co⟩
instance:dL Try.prog 78 4 4 3:=⟨EW⟩
instance:dL Try.prog 78 5 5 9:=⟨Cr⟩
instance:dL Try.prog 169 3 7 167:=⟨xj⟩
instance:gL Try.prog 167:=⟨y6⟩
instance:gT Try.prog 167 9 1:=⟨Bq⟩
instance:dL Try.prog 93 2 5 3:=⟨J3⟩
instance:dL Try.prog 148 1 1 29:=⟨m_⟩
instance:gL Try.prog 29:=⟨hM⟩
instance:gT Try.prog 29 3 1:=⟨fk⟩
instance:dL Try.prog 90 2 5 3:=⟨Cs⟩
instance:dL Try.prog 148 3 3 9:=⟨JS⟩
instance:dL Try.prog 148 5 5 3:=⟨JU⟩
instance:dL Try.prog 169 8 12 3:=⟨zk⟩
instance:dL Try.prog 44 2 2 42:=⟨lG⟩
instance:gL Try.prog 42:=⟨mY⟩
instance:gT Try.prog 42 148 6:=⟨nm⟩
instance:dL Try.prog 148 2 2 3:=⟨ze⟩
instance:dL Try.prog 148 4 4 29:=⟨JT⟩
instance:gT Try.prog 123 5 1:=⟨HG⟩
instance:dL Try.prog 96 2 2 3:=⟨J4⟩
instance:dL Try.prog 44 1 1 41:=⟨sn⟩
instance:dL Try.prog 33 3 3 9:=⟨ES⟩
instance:dL Try.prog 44 3 3 9:=⟨JZ⟩
instance:dL Try.prog 44 4 4 9:=⟨J0⟩
instance:dL Try.prog 137 0 0 3:=⟨nt⟩
instance:dL Try.prog 137 1 1 3:=⟨rC⟩
instance:gT Try.prog 132 137 2:=⟨kb⟩
instance:dL Try.prog 148 0 0 3:=⟨zd⟩
instance:gT Try.prog 64 135 2:=⟨mP⟩
instance:dL Try.prog 135 0 0 132:=⟨u4⟩
instance:gL Try.prog 132:=⟨u0⟩
instance:dL Try.prog 135 1 1 133:=⟨u5⟩
instance:gL Try.prog 133:=⟨y5⟩
instance:gT Try.prog 133 145 2:=⟨Bp⟩
instance:dL Try.prog 145 0 0 3:=⟨EP⟩
instance:dL Try.prog 145 1 1 3:=⟨PN⟩
instance:dL Try.prog 76 4 4 29:=⟨zp⟩
instance:dL Try.prog 76 2 2 3:=⟨EV⟩
instance:dL Try.prog 76 3 3 4:=⟨u6⟩
instance:gT Try.prog 112 139 3:=⟨Bo⟩
instance:dL Try.prog 139 0 0 3:=⟨JQ⟩
instance:dL Try.prog 139 2 2 29:=⟨Cn⟩
instance:dL Try.prog 139 1 1 3:=⟨JR⟩
instance:gT Try.prog 65 76 5:=⟨Br⟩
instance:gT Try.prog 34 29 1:=⟨ly⟩
instance:gT Try.prog 158 161 2:=⟨qd⟩
instance:dL Try.prog 161 0 0 3:=⟨xh⟩
instance:dL Try.prog 161 1 1 3:=⟨zf⟩
instance:dL Try.prog 76 0 0 3:=⟨EU⟩
instance:dL Try.prog 76 1 1 3:=⟨zo⟩
instance:gT Try.prog 68 82 4:=⟨HH⟩
instance:gT Try.prog 54 23 2:=⟨s6⟩
instance:dL Try.prog 47 0 0 45:=⟨so⟩
instance:gL Try.prog 45:=⟨tw⟩
instance:gT Try.prog 45 54 1:=⟨uC⟩
instance:dL Try.prog 47 1 1 34:=⟨xk⟩
instance:gL Try.prog 34:=⟨sf⟩
instance:gT Try.prog 57 62 2:=⟨q8⟩
instance:gT Try.prog 51 59 2:=⟨kn⟩
instance:dL Try.prog 59 0 0 3:=⟨nT⟩
instance:dL Try.prog 59 1 1 57:=⟨pS⟩
instance:gL Try.prog 57:=⟨ry⟩
instance:gL Try.prog 54:=⟨xc⟩
instance:dL Try.prog 100 3 3 3:=⟨PM⟩
instance:dL Try.prog 36 0 0 3:=⟨JW⟩
instance:dL Try.prog 36 2 2 29:=⟨JX⟩
instance:dL Try.prog 36 1 1 34:=⟨zm⟩
instance:dL Try.prog 36 3 3 29:=⟨zn⟩
instance:dL Try.prog 36 4 4 4:=⟨JY⟩
instance:gT Try.prog 39 33 4:=⟨Ud⟩
instance:dL Try.prog 62 0 0 3:=⟨ET⟩
instance:dL Try.prog 62 1 1 3:=⟨PO⟩
instance:dL Try.prog 82 2 2 3:=⟨PS⟩
instance:dL Try.prog 82 3 3 3:=⟨PT⟩
instance:dL Try.prog 82 0 0 3:=⟨PQ⟩
instance:dL Try.prog 82 1 1 3:=⟨PR⟩
theorem Jm (a0:Act) (r:Int) (h:vV a0=some r):cb Try.prog 15 [.agg [j a0.Kind,j a0.N]] [none] (j r):=by
 unfold vV at h
 refine cb.go (N:=⟨55,[]⟩) Try.func15 q q q q (W.fin ?_)
 refine W.st [(0,.agg [j a0.Kind,j a0.N])] ?_
 refine W.bY [1] (aj (O.box (.b' q q) q)<|ar.aW) ?_
 refine W.aZ<|W.bk ?_
 obtain ⟨kW,aa,h⟩:=ay h
 refine W.rs [(1,.obj [j a0.Kind,j a0.N]),(3,a1 kW)] ?_ ?_
 ·refine aj (O.bh q (.obj q) qA q)<|aj (O.cw q (.ptr q) cr q)<|aj (O.eql (.lit q) (.k q))<|aj (O.aA (.lit q)) ?_
  rcases cz aa with ⟨dg,aa⟩ | ⟨dg,aa⟩
  ·refine aM dg (O.bh q (.obj q) sm q)<|aM dg (O.cw q (.ptr q) cr q)<|aM dg (O.geq (.lit q) (.k q))<|aj (O.dS (.lit q) dg (.lit q))<|aj (O.aA (.lit q)) ?_
   rcases cz aa with ⟨cO,aa⟩ | ⟨cO,aa⟩
   ·obtain rfl:=au aa
    exact ar.aW
   ·obtain rfl:=au aa
    exact ar.aW
  ·obtain rfl:=au aa
   exact ar.aW
 refine W.bw h q (λdd h=>?_) (λdd h=>?_)
 ·refine W.aU [2] ?_
  refine W.rt ?_
  refine af.dv ?_
  refine af.cK ?_
  obtain rfl:=au h
  exact cx (.f q q .nil)
 ·obtain ⟨o4,aa,h⟩:=ay h
  refine W.rs [(1,.obj [j a0.Kind,j a0.N]),(20,a1 o4)] ?_ ?_
  ·refine aj (O.bh q (.obj q) qA q)<|aj (O.cw q (.ptr q) cr q)<|aj (O.eql (.lit q) (.k q))<|aj (O.aA (.lit q)) ?_
   rcases cz aa with ⟨dD,aa⟩ | ⟨dD,aa⟩
   ·refine aM dD (O.bh q (.obj q) sm q)<|aM dD (O.cw q (.ptr q) cr q)<|aM dD (O.gtr (.lit q) (.k q))<|aj (O.dS (.lit q) dD (.lit q))<|aj (O.aA (.lit q)) ?_
    rcases cz aa with ⟨ec,aa⟩ | ⟨ec,aa⟩
    ·obtain rfl:=au aa
     exact ar.aW
    ·obtain rfl:=au aa
     exact ar.aW
   ·obtain rfl:=au aa
    exact ar.aW
  refine W.bw h q (λc6 h=>?_) (λc6 h=>?_)
  ·refine W.bY [2] (aj (O.bh q (.obj q) sm q)<|aj (O.cw q (.ptr q) cr q)<|aj (O.neg (.lit q))<|ar.aW) ?_
   refine W.rt ?_
   refine af.dv ?_
   refine af.cK ?_
   obtain rfl:=au h
   exact cx (.f q q .nil)
  ·obtain ⟨iS,aa,h⟩:=ay h
   refine W.rs [(1,.obj [j a0.Kind,j a0.N]),(37,a1 iS)] ?_ ?_
   ·refine aj (O.bh q (.obj q) qA q)<|aj (O.cw q (.ptr q) cr q)<|aj (O.eql (.lit q) (.k q))<|aj (O.aA (.lit q)) ?_
    rcases cz aa with ⟨dp,aa⟩ | ⟨dp,aa⟩
    ·obtain rfl:=au aa
     exact ar.aW
    ·obtain rfl:=au aa
     exact ar.aW
   refine W.bw h q (λfh h=>?_) (λfh h=>?_)
   ·refine W.aU [2] ?_
    refine W.rt ?_
    refine af.dv ?_
    refine af.cK ?_
    obtain rfl:=au h
    exact cx (.f q q .nil)
   ·obtain ⟨jX,aa,h⟩:=ay h
    refine W.rs [(46,a1 jX)] ?_ ?_
    ·refine aj (O.bh q (.obj q) qA q)<|aj (O.cw q (.ptr q) cr q)<|aj (O.eql (.lit q) (.k q))<|aj (O.aA (.lit q)) ?_
     rcases cz aa with ⟨eb,aa⟩ | ⟨eb,aa⟩
     ·obtain rfl:=au aa
      exact ar.aW
     ·obtain rfl:=au aa
      exact ar.aW
    refine W.bw h q (λeM h=>?_) (λeM h=>?_)
    ·refine W.aU [2] ?_
     refine W.rt ?_
     refine af.dv ?_
     refine af.cK ?_
     obtain rfl:=au h
     exact cx (.f q q .nil)
    ·refine W.bI<|af.bk ?_
     refine af.aX<|W.aU [2] ?_
     refine W.rt ?_
     obtain rfl:=au h
     exact cx (.f q q .nil)
theorem Jn (a0:Int) (r:Act) (h:vW a0=some r):cb Try.prog 17 [j a0] [none] (.agg [j r.Kind,j r.N]):=by
 unfold vW at h
 refine cb.go (N:=⟨32,[]⟩) Try.func17 q q q q (W.fin ?_)
 refine W.st [(0,j a0)] ?_
 refine W.bY [0,2] (aj (O.fL (cs:=[j 0,j 0]) lD q q)<|bS q) ?_
 refine W.aZ<|W.bk ?_
 obtain ⟨c2,aa,h⟩:=ay h
 refine W.rs [(0,j a0),(2,.obj [j 0,j 0]),(3,a1 c2)] ?_ ?_
 ·refine bq q<|aj (O.gtr (.lit q) (.k q))<|aj (O.aA (.lit q)) ?_
  rcases cz aa with ⟨dg,aa⟩ | ⟨dg,aa⟩
  ·obtain rfl:=au aa
   exact ar.aW
  ·obtain rfl:=au aa
   exact ar.aW
 refine W.bw h q (λfb h=>?_) (λfb h=>?_)
 ·refine W.bY [2] (bq q<|aj (O.sub (.lit q) (.k q))<|aj (O.dR (cs:=[j 1,j (aQ (a0 - 1))]) pz lD q q q)<|ar.dI (G2:=[(2,_)]) (cs2:=[j 1,j (aQ (a0 - 1))]) q (.obj q) (.b' q q) q mQ q q q q (.b q .nil)<|bS q) ?_
  refine W.rt ?_
  refine af.dv ?_
  refine af.cK ?_
  obtain rfl:=au h
  exact cx (.c (ys0:=[j 1,j (aQ (a0 - 1))]) q lf q q q (.f q (.f q .nil)) .nil)
 ·obtain ⟨kA,aa,h⟩:=ay h
  refine W.rs [(0,j a0),(2,.obj [j 0,j 0]),(13,a1 kA)] ?_ ?_
  ·refine bq q<|aj (O.lss (.lit q) (.k q))<|aj (O.aA (.lit q)) ?_
   rcases cz aa with ⟨dd,aa⟩ | ⟨dd,aa⟩
   ·obtain rfl:=au aa
    exact ar.aW
   ·obtain rfl:=au aa
    exact ar.aW
  refine W.bw h q (λec h=>?_) (λec h=>?_)
  ·refine W.bY [2] (bq q<|aj (O.neg (.lit q))<|aj (O.dR (cs:=[j 2,j (aQ (-a0))]) pz lD q q q)<|ar.dI (G2:=[(2,_)]) (cs2:=[j 2,j (aQ (-a0))]) q (.obj q) (.b' q q) q mQ q q q q (.b q .nil)<|bS q) ?_
   refine W.rt ?_
   refine af.dv ?_
   refine af.cK ?_
   obtain rfl:=au h
   exact cx (.c (ys0:=[j 2,j (aQ (-a0))]) q lf q q q (.f q (.f q .nil)) .nil)
  ·refine W.aU [0,2,23] ?_
   refine W.bw h q (λc5 h=>?_) (λc5 h=>?_)
   ·refine W.bY [2] (aj (O.dR (cs:=[j 3,j 0]) pz lD q q q)<|ar.dI (G2:=[(2,_)]) (cs2:=[j 3,j 0]) q (.obj q) (.b' q q) q mQ q q q q (.b q .nil)<|bS q) ?_
    refine W.rt ?_
    refine af.dv ?_
    refine af.cK ?_
    obtain rfl:=au h
    exact cx (.c (ys0:=[j 3,j 0]) q lf q q q (.f q (.f q .nil)) .nil)
   ·refine W.aU [2,27] ?_
    refine W.bw h q (λc6 h=>?_) (λc6 h=>?_)
    ·refine W.bY [2] (aj (O.dR (cs:=[j 4,j 0]) pz lD q q q)<|ar.dI (G2:=[(2,_)]) (cs2:=[j 4,j 0]) q (.obj q) (.b' q q) q mQ q q q q (.b q .nil)<|bS q) ?_
     refine W.rt ?_
     refine af.dv ?_
     refine af.cK ?_
     obtain rfl:=au h
     exact cx (.c (ys0:=[j 4,j 0]) q lf q q q (.f q (.f q .nil)) .nil)
    ·refine W.bI<|af.bk ?_
     refine af.aX<|W.bY [2] (aj (O.dR (cs:=[j 0,j 0]) pz lD q q q)<|ar.dI (G2:=[(2,_)]) (cs2:=[j 0,j 0]) q (.obj q) (.b' q q) q mQ q q q q (.b q .nil)<|bS q) ?_
     refine W.rt ?_
     obtain rfl:=au h
     exact cx (.c (ys0:=[j 0,j 0]) q lf q q q (.f q (.f q .nil)) .nil)
theorem OQ (a0:Int) (r:Bool) (h:AR a0=some r):cb Try.prog 121 [ml a0] [none] (a1 r):=by
 unfold AR at h
 refine cb.go (N:=⟨21,[]⟩) Try.func121 q q q q (W.fin ?_)
 refine W.st [(0,ml a0)] ?_
 refine W.aU [0] ?_
 obtain ⟨o4,aa,h⟩:=ay h
 refine W.rs [(2,a1 o4)] ?_ ?_
 ·refine bq q<|aj (O.geq (.lit q) (.k q))<|aj (O.aA (.lit q)) ?_
  rcases cz aa with ⟨dg,aa⟩ | ⟨dg,aa⟩
  ·refine aM dg (O.aA (.lit q))<|aM dg (O.leq (.lit q) (.k q))<|aj (O.dS (.lit q) dg (.lit q))<|aj (O.aA (.lit q)) ?_
   rcases cz aa with ⟨cO,aa⟩ | ⟨cO,aa⟩
   ·obtain rfl:=au aa
    exact ar.aW
   ·refine aM cO (O.aA (.lit q))<|aM cO (O.geq (.lit q) (.k q))<|aM cO (O.aA (.lit q)) ?_
    rcases cz aa with ⟨fb,aa⟩ | ⟨fb,aa⟩
    ·refine aM fb (O.aA (.lit q))<|aM fb (O.leq (.lit q) (.k q))<|aM cO (O.dS (.lit q) fb (.lit q))<|aj (O.cZ (.lit q) cO (.lit q))<|aj (O.aA (.lit q)) ?_
     rcases cz aa with ⟨dd,aa⟩ | ⟨dd,aa⟩
     ·obtain rfl:=au aa
      exact ar.aW
     ·obtain rfl:=au aa
      exact ar.aW
    ·obtain rfl:=au aa
     exact b6 fb<|b6 fb<|aM cO (O.cZ (.lit q) fb (.k q))<|ar.aW
  ·refine b6 dg<|b6 dg<|aj (O.cZ (.lit q) dg (.k q))<|bq q<|aM q (O.aA (.lit q))<|aM q (O.geq (.lit q) (.k q))<|aM q (O.aA (.lit q)) ?_
   rcases cz aa with ⟨dD,aa⟩ | ⟨dD,aa⟩
   ·refine aM dD (O.aA (.lit q))<|aM dD (O.leq (.lit q) (.k q))<|aM q (O.dS (.lit q) dD (.lit q))<|aj (O.cZ (.lit q) q (.lit q))<|aj (O.aA (.lit q)) ?_
    rcases cz aa with ⟨ec,aa⟩ | ⟨ec,aa⟩
    ·obtain rfl:=au aa
     exact ar.aW
    ·obtain rfl:=au aa
     exact ar.aW
   ·obtain rfl:=au aa
    exact b6 dD<|b6 dD<|aM q (O.cZ (.lit q) dD (.k q))<|ar.aW
 refine W.rt ?_
 obtain rfl:=au h
 exact cx (.f q q .nil)
theorem OR (a0:Int) (r:Bool) (h:AS a0=some r):cb Try.prog 122 [ml a0] [none] (a1 r):=by
 unfold AS at h
 refine cb.go (N:=⟨9,[]⟩) Try.func122 q q q q (W.fin ?_)
 refine W.st [(0,ml a0)] ?_
 refine W.aU [0] ?_
 obtain ⟨c2,aa,h⟩:=ay h
 refine W.rs [(2,a1 c2)] ?_ ?_
 ·refine bq q<|aj (O.geq (.lit q) (.k q))<|aj (O.aA (.lit q)) ?_
  rcases cz aa with ⟨dg,aa⟩ | ⟨dg,aa⟩
  ·obtain rfl:=au aa
   exact ar.aW
  ·obtain rfl:=au aa
   exact ar.aW
 refine W.rt ?_
 obtain rfl:=au h
 exact cx (.f q q .nil)
theorem OO (a0:ByteArray) (aw:Int) (r:Int) (h:AP a0 aw=some r):cb Try.prog 117 [ai a0,j aw] [none,none] (j r):=by
 unfold AP at h
 refine cb.go (N:=⟨43,[]⟩) Try.func117 q q q q (W.fin ?_)
 refine W.st [(0,ai a0),(1,j aw)] ?_
 refine W.aU [0,1] ?_
 refine W.aU [0,1,5] ?_
 refine W.aZ<|W.bk ?_
 obtain ⟨x2,ao,h⟩:=ay h
 refine W.cf (G1:=[(0,_),(1,_),(5,_)]) (dq q q q) ?_
 refine W.eO (s:=0) (λ(s1:Int)=>[(0,ai a0),(1,j aw),(5,j s1)]) 0 (λ(x2:Int)=>[(5,j x2)]) ao (λs1 o h=>?_) ?_
 ·clear ao
  refine W.aZ ?_
  obtain ⟨jX,aa,h⟩:=ay h
  refine W.rs [(0,ai a0),(1,j aw),(5,j s1),(39,a1 jX)] ?_ ?_
  ·refine bq q<|bq q<|aj (O.add (.lit q) (.lit q))<|bq q<|aj (O.mI (.lit q) kc)<|aj (O.lss (.lit q) (.lit q))<|aj (O.aA (.lit q)) ?_
   rcases cz aa with ⟨dd,aa⟩ | ⟨dd,aa⟩
   ·refine aM dd (O.aA (.lit q))<|aM dd (O.aA (.lit q))<|aM dd (O.aA (.lit q))<|aM dd (O.add (.lit q) (.lit q)) ?_
    obtain ⟨cq,lP,aa⟩:=ay aa
    refine aM dd (O.qq (.lit q) (.lit q) kc lP) ?_
    obtain ⟨bx,fJ,aa⟩:=ay aa
    refine ar.c (cu.go (.b0 (.lit q) .nil) (OQ cq _ fJ) call121 q) q q (.hh q q dd)<|aM dd (O.aA (.lit q)) ?_
    rcases cz aa with ⟨c5,aa⟩ | ⟨c5,aa⟩
    ·obtain rfl:=au aa
     exact b6 c5<|b6 c5<|b6 c5<|gZ<|gZ<|gZ<|gZ<|gZ<|gZ<|gZ<|gZ<|gZ<|gZ<|gZ<|gZ<|gZ<|gZ<|b6 c5<|aM dd (O.dS (.lit q) c5 (.k q))<|ar.aW
    ·refine aM c5 (O.aA (.lit q))<|aM c5 (O.gtr (.lit q) (.k q))<|aM c5 (O.aA (.lit q)) ?_
     rcases cz aa with ⟨c6,aa⟩ | ⟨c6,aa⟩
     ·refine aM c6 (O.aA (.lit q))<|aM c6 (O.aA (.lit q))<|aM c6 (O.aA (.lit q))<|aM c6 (O.add (.lit q) (.lit q)) ?_
      obtain ⟨cF,jP,aa⟩:=ay aa
      refine aM c6 (O.qq (.lit q) (.lit q) kc jP) ?_
      obtain ⟨bQ,jJ,aa⟩:=ay aa
      refine ar.c (cu.go (.b0 (.lit q) .nil) (OR cF _ jJ) call122 q) q q (.hh q q c6)<|aM c6 (O.aA (.lit q)) ?_
      rcases cz aa with ⟨fh,aa⟩ | ⟨fh,aa⟩
      ·obtain rfl:=au aa
       exact b6 fh<|b6 fh<|b6 fh<|b6 fh<|b6 fh<|b6 fh<|aM c6 (O.dS (.lit q) fh (.k q))<|aM c5 (O.dS (.lit q) c6 (.lit q))<|aM dd (O.cZ (.lit q) c5 (.lit q))<|ar.aW
      ·refine aM fh (O.aA (.lit q))<|aM fh (O.aA (.lit q))<|aM fh (O.aA (.lit q))<|aM fh (O.add (.lit q) (.lit q)) ?_
       obtain ⟨dU,lO,aa⟩:=ay aa
       obtain rfl:=au aa
       exact aM fh (O.qq (.lit q) (.lit q) kc lO)<|aM fh (O.eql (.lit q) (.k q))<|aM c6 (O.cZ (.lit q) fh (.lit q))<|aM c5 (O.dS (.lit q) c6 (.lit q))<|aM dd (O.cZ (.lit q) c5 (.lit q))<|ar.aW
     ·obtain rfl:=au aa
      exact b6 c6<|b6 c6<|b6 c6<|b6 c6<|b6 c6<|b6 c6<|b6 c6<|gZ<|gZ<|gZ<|gZ<|gZ<|gZ<|b6 c6<|aM c5 (O.cZ (.lit q) c6 (.k q))<|aM dd (O.cZ (.lit q) c5 (.lit q))<|ar.aW
   ·obtain rfl:=au aa
    exact ar.aW
  refine W.bw h q (λeM h=>?_) (λeM h=>?_)
  ·refine W.bI<|af.aX ?_
   refine W.bk<|W.bm [0,1,5] (bq q<|aj (O.add (.lit q) (.k q))<|ar.bm [0,1,41] q<|ar.aW) ?_
   refine af.bk ?_
   obtain rfl:=au h
   exact af.go (dq q q q)
  ·refine W.da ?_
   refine af.c' ?_
   obtain rfl:=au h
   exact af.aF (.n q .nil)
 refine af.db ?_
 refine af.aX<|W.aU [4] ?_
 refine W.rt ?_
 obtain rfl:=au h
 exact cx (.f q q .nil)
theorem Cb (a0:ByteArray) (r:Bool) (h:uj a0=some r):cb Try.prog 111 [ai a0] [none] (a1 r):=by
 unfold uj at h
 refine cb.go (N:=⟨18,[]⟩) Try.func111 q q q q (W.fin ?_)
 refine W.st [(0,ai a0)] ?_
 refine W.aU [0] ?_
 obtain ⟨c4,aa,h⟩:=ay h
 refine W.rs [(2,a1 c4)] ?_ ?_
 ·refine bq q<|aj (O.mI (.lit q) kc)<|aj (O.geq (.lit q) (.k q))<|aj (O.aA (.lit q)) ?_
  rcases cz aa with ⟨dg,aa⟩ | ⟨dg,aa⟩
  ·refine aM dg (O.aA (.lit q))<|aM dg (O.mI (.lit q) kc)<|aM dg (O.leq (.lit q) (.k q))<|aj (O.dS (.lit q) dg (.lit q))<|aj (O.aA (.lit q)) ?_
   rcases cz aa with ⟨cO,aa⟩ | ⟨cO,aa⟩
   ·refine aM cO (O.aA (.lit q)) ?_
    obtain ⟨a_,hd,aa⟩:=ay aa
    obtain rfl:=au aa
    exact ar.c (cu.go (.b0 (.lit q) (.b0 (.k q) .nil)) (OO a0 0 _ hd) call117 q) q q (.hh q q cO)<|ar.aW
   ·obtain rfl:=au aa
    exact ar.aW
  ·obtain rfl:=au aa
   exact ar.aW
 refine W.rt ?_
 obtain rfl:=au h
 exact cx (.f q q .nil)
theorem OP (a0:Int) (r:Int × Bool) (h:AQ a0=some r):cb Try.prog 120 [ml a0] [none] (.cB [ml r.1,a1 r.2]):=by
 unfold AQ at h
 refine cb.go (N:=⟨21,[]⟩) Try.func120 q q q q (W.fin ?_)
 refine W.st [(0,ml a0)] ?_
 refine W.aU [0] ?_
 refine W.aZ<|W.aU [0,4] ?_
 refine W.bk<|W.aU [0,4,5] ?_
 refine W.bw h q (λdg h=>?_) (λdg h=>?_)
 ·refine W.aU [2,3] ?_
  refine W.rt ?_
  refine af.dv ?_
  refine af.cK ?_
  obtain rfl:=au h
  exact cx (.f q q (.f q q .nil))
 ·refine W.aU [0,4,7] ?_
  refine W.bw h q (λcO h=>?_) (λcO h=>?_)
  ·refine W.aU [2,3] ?_
   refine W.rt ?_
   refine af.dv ?_
   refine af.cK ?_
   obtain rfl:=au h
   exact cx (.f q q (.f q q .nil))
  ·refine W.aU [0,4,9] ?_
   refine W.bw h q (λfb h=>?_) (λfb h=>?_)
   ·refine W.aU [2,3] ?_
    refine W.rt ?_
    refine af.dv ?_
    refine af.cK ?_
    obtain rfl:=au h
    exact cx (.f q q (.f q q .nil))
   ·refine W.aZ<|W.aU [0,4,11] ?_
    obtain ⟨GP,aa,h⟩:=ay h
    refine W.bB [(0,ml a0),(11,a1 GP)] ?_ ?_
    ·clear h; have h:=aa; clear aa
     refine W.bw h q (λdD h=>?_) (λdD h=>?_)
     ·refine W.bI ?_
      obtain rfl:=au h
      exact af.bB (fG q q)
     ·refine W.bm [0,11] (aj (O.eql (.lit q) (.k q))<|ar.bm [0,13] q<|ar.aW) ?_
      obtain rfl:=au h
      exact af.bB (fG q q)
    refine af.aX<|W.bw h q (λec h=>?_) (λec h=>?_)
    ·refine W.aU [2,3] ?_
     refine W.rt ?_
     refine af.dv ?_
     refine af.cK ?_
     obtain rfl:=au h
     exact cx (.f q q (.f q q .nil))
    ·refine W.bI<|af.bk ?_
     refine af.aX ?_
     obtain ⟨sc,aa,h⟩:=ay h
     refine W.rs [(2,ml sc.1),(3,a1 sc.2)] ?_ ?_
     ·refine bq q<|aj (O.geq (.lit q) (.k q))<|aj (O.aA (.lit q)) ?_
      rcases cz aa with ⟨c5,aa⟩ | ⟨c5,aa⟩
      ·obtain rfl:=au aa
       exact ar.aW
      ·obtain rfl:=au aa
       exact ar.aW
     refine W.rt ?_
     obtain rfl:=au h
     exact cx (.f q q (.f q q .nil))
theorem Ew (a0:Sym) (aw:Bool) (a2:Bool) (r:Bool) (h:vS a0 aw a2=some r):cb Try.prog 116 [.agg (dJ.cells a0),a1 aw,a1 a2] [none,none,none] (a1 r):=by
 unfold vS at h
 refine cb.go (N:=⟨53,[]⟩) Try.func116 q q q q (W.fin ?_)
 refine W.st [(0,.agg (dJ.cells a0)),(1,a1 aw),(2,a1 a2)] ?_
 refine W.bY [1,2,3] (aj (O.box (.b' q q) q)<|ar.aW) ?_
 refine W.aZ<|W.aU [1,2,3,10] ?_
 refine W.bw h q (λdg h=>?_) (λdg h=>?_)
 ·refine W.aZ ?_
  obtain ⟨c4,aa,h⟩:=ay h
  refine W.rs [(3,.obj (dJ.cells a0)),(23,a1 c4)] ?_ ?_
  ·refine bq q<|aj (O.not (.lit q))<|aj (O.aA (.lit q)) ?_
   rcases cz aa with ⟨cO,aa⟩ | ⟨cO,aa⟩
   ·obtain rfl:=au aa
    exact ar.aW
   ·refine aM cO (O.bh q (.obj q) kB q)<|aM cO (O.cw q (.ptr q) e4 q)<|aM cO (O.mI (.lit q) kc)<|aM cO (O.neq (.lit q) (.k q))<|aj (O.cZ (.lit q) cO (.lit q))<|aj (O.aA (.lit q)) ?_
    rcases cz aa with ⟨fb,aa⟩ | ⟨fb,aa⟩
    ·obtain rfl:=au aa
     exact ar.aW
    ·obtain rfl:=au aa
     exact ar.aW
  refine W.bw h q (λdD h=>?_) (λdD h=>?_)
  ·refine W.aU [6] ?_
   refine W.rt ?_
   refine af.cK ?_
   refine af.cK ?_
   obtain rfl:=au h
   exact cx (.f q q .nil)
  ·refine W.bI<|af.aX ?_
   obtain ⟨bx,fJ,h⟩:=ay h
   obtain ⟨bz,gq,h⟩:=ay h
   refine W.bY [8] (aj (O.bh q (.obj q) kB q)<|aj (O.cw q (.ptr q) e4 q)<|aj (O.qq (.lit q) (.k q) kc fJ)<|ee (cu.go (.b0 (.lit q) .nil) (OP bx _ gq) call120 q)<|aj (O.aA (.Bw q q))<|aj (O.ex (y:=ml bz.1) q q q)<|aj (O.ex (y:=a1 bz.2) q q q)<|ar.aW) ?_
   refine W.aU [6] ?_
   refine W.rt ?_
   refine af.cK ?_
   obtain rfl:=au h
   exact cx (.f q q .nil)
 ·refine W.bI<|af.aX ?_
  obtain ⟨jX,aa,h⟩:=ay h
  refine W.rs [(6,a1 jX)] ?_ ?_
  ·refine aj (O.bh q (.obj q) kB q)<|aj (O.cw q (.ptr q) e4 q) ?_
   obtain ⟨b3,ho,aa⟩:=ay aa
   refine ee (cu.go (.b0 (.lit q) .nil) (Cb a0.Name _ ho) call111 q)<|aj (O.aA (.lit q)) ?_
   rcases cz aa with ⟨dp,aa⟩ | ⟨dp,aa⟩
   ·refine aM dp (O.bh q (.obj q) u9 q)<|aM dp (O.cw q (.ptr q) cr q)<|aM dp (O.eql (.lit q) (.k q))<|aM dp (O.aA (.lit q)) ?_
    rcases cz aa with ⟨eU,aa⟩ | ⟨eU,aa⟩
    ·obtain rfl:=au aa
     exact b6 eU<|b6 eU<|gZ<|gZ<|gZ<|b6 eU<|b6 eU<|gZ<|gZ<|gZ<|b6 eU<|aM dp (O.dS (.lit q) eU (.k q))<|ar.aW
    ·refine aM eU (O.aA (.lit q))<|aM eU (O.aA (.lit q)) ?_
     rcases cz aa with ⟨fh,aa⟩ | ⟨fh,aa⟩
     ·refine aM fh (O.bh q (.obj q) u9 q)<|aM fh (O.cw q (.ptr q) cr q)<|aM fh (O.geq (.lit q) (.k q))<|aM eU (O.dS (.lit q) fh (.lit q))<|aM eU (O.aA (.lit q)) ?_
      rcases cz aa with ⟨eb,aa⟩ | ⟨eb,aa⟩
      ·obtain rfl:=au aa
       exact aM eb (O.bh q (.obj q) u9 q)<|aM eb (O.cw q (.ptr q) cr q)<|aM eb (O.leq (.lit q) (.k q))<|aM eU (O.dS (.lit q) eb (.lit q))<|aM dp (O.cZ (.lit q) eU (.lit q))<|ar.aW
      ·obtain rfl:=au aa
       exact b6 eb<|b6 eb<|b6 eb<|aM eU (O.cZ (.lit q) eb (.k q))<|aM dp (O.cZ (.lit q) eU (.lit q))<|ar.aW
     ·obtain rfl:=au aa
      exact b6 fh<|b6 fh<|b6 fh<|aM eU (O.cZ (.lit q) fh (.k q))<|aM eU (O.aA (.lit q))<|b6 q<|b6 q<|b6 q<|aM eU (O.cZ (.lit q) q (.k q))<|aM dp (O.cZ (.lit q) eU (.lit q))<|ar.aW
   ·obtain rfl:=au aa
    exact ar.aW
  refine W.rt ?_
  obtain rfl:=au h
  exact cx (.f q q .nil)
theorem OM (a0:Decl) (r:Bool) (h:AN a0=some r):cb Try.prog 110 [.agg (de.cells a0)] [none] (a1 r):=by
 unfold AN at h
 refine cb.go (N:=⟨75,[]⟩) Try.func110 q q q q (W.fin ?_)
 refine W.st [(0,.agg (de.cells a0))] ?_
 refine W.bY [1] (aj (O.box (.b' q q) q)<|ar.aW) ?_
 refine W.aZ ?_
 obtain ⟨r',aa,h⟩:=ay h
 refine W.rs [(1,.obj (de.cells a0)),(54,a1 r')] ?_ ?_
 ·refine aj (O.bh q (.obj q) o7 q)<|aj (O.cw q (.ptr q) cr q)<|aj (O.lss (.lit q) (.k q))<|aj (O.aA (.lit q)) ?_
  rcases cz aa with ⟨dg,aa⟩ | ⟨dg,aa⟩
  ·obtain rfl:=au aa
   exact ar.aW
  ·refine aM dg (O.bh q (.obj q) o7 q)<|aM dg (O.cw q (.ptr q) cr q)<|aM dg (O.gtr (.lit q) (.k q))<|aj (O.cZ (.lit q) dg (.lit q))<|aj (O.aA (.lit q)) ?_
   rcases cz aa with ⟨cO,aa⟩ | ⟨cO,aa⟩
   ·obtain rfl:=au aa
    exact ar.aW
   ·refine aM cO (O.bh q (.obj q) rB q)<|aM cO (O.dm (y:=ah dJ a0.fo) q (.ptr q) sh q q)<|aM cO (O.h0 (.aE q) rV)<|aM cO (O.eql (.lit q) (.k q))<|aj (O.cZ (.lit q) cO (.lit q))<|aj (O.aA (.lit q)) ?_
    rcases cz aa with ⟨fb,aa⟩ | ⟨fb,aa⟩
    ·obtain rfl:=au aa
     exact ar.aW
    ·refine aM fb (O.bh q (.obj q) o7 q)<|aM fb (O.cw q (.ptr q) cr q)<|aM fb (O.eql (.lit q) (.k q))<|aM fb (O.aA (.lit q)) ?_
     rcases cz aa with ⟨dd,aa⟩ | ⟨dd,aa⟩
     ·refine aM dd (O.bh q (.obj q) rB q)<|aM dd (O.dm (y:=ah dJ a0.fo) q (.ptr q) sh q q)<|aM dd (O.h0 (.aE q) rV)<|aM dd (O.neq (.lit q) (.k q))<|aM dd (O.aA (.lit q)) ?_
      rcases cz aa with ⟨dD,aa⟩ | ⟨dD,aa⟩
      ·obtain rfl:=au aa
       exact b6 dD<|b6 dD<|b6 dD<|aM dd (O.dS (.lit q) dD (.k q))<|aM fb (O.dS (.lit q) dd (.lit q))<|ar.aW
      ·refine aM dD (O.bh q (.obj q) nS q)<|aM dD (O.cw q (.ptr q) e4 q)<|aM dD (O.l8 (.lit q) (.k q))<|aM dd (O.cZ (.lit q) dD (.lit q))<|aM fb (O.dS (.lit q) dd (.lit q))<|aj (O.cZ (.lit q) fb (.lit q))<|aj (O.aA (.lit q)) ?_
       rcases cz aa with ⟨ec,aa⟩ | ⟨ec,aa⟩
       ·obtain rfl:=au aa
        exact ar.aW
       ·refine aM ec (O.bh q (.obj q) o7 q)<|aM ec (O.cw q (.ptr q) cr q)<|aM ec (O.eql (.lit q) (.k q))<|aM ec (O.aA (.lit q)) ?_
        rcases cz aa with ⟨c5,aa⟩ | ⟨c5,aa⟩
        ·refine aM c5 (O.bh q (.obj q) nS q)<|aM c5 (O.cw q (.ptr q) e4 q)<|aM c5 (O.ow (.lit q) (.k q))<|aM ec (O.dS (.lit q) c5 (.lit q))<|aj (O.cZ (.lit q) ec (.lit q))<|aj (O.aA (.lit q)) ?_
         rcases cz aa with ⟨c6,aa⟩ | ⟨c6,aa⟩
         ·obtain rfl:=au aa
          exact ar.aW
         ·obtain rfl:=au aa
          exact aM c6 (O.bh q (.obj q) nS q)<|aM c6 (O.cw q (.ptr q) e4 q)<|aM c6 (O.l8 (.lit q) (.k q))<|aM c6 (O.aA (.lit q))<|b6 ec<|b6 ec<|b6 ec<|b6 ec<|aM c6 (O.cZ (.lit q) ec (.k q))<|ar.aW
        ·obtain rfl:=au aa
         exact b6 c5<|b6 c5<|b6 c5<|aM ec (O.cZ (.lit q) c5 (.k q))<|aj (O.cZ (.lit q) ec (.lit q))<|bq q<|aM q (O.bh q (.obj q) nS q)<|aM q (O.cw q (.ptr q) e4 q)<|aM q (O.l8 (.lit q) (.k q))<|aM q (O.aA (.lit q))<|b6 ec<|b6 ec<|b6 ec<|b6 ec<|aM q (O.cZ (.lit q) ec (.k q))<|ar.aW
     ·refine b6 dd<|b6 dd<|b6 dd<|b6 dd<|b6 dd<|gZ<|gZ<|gZ<|b6 dd<|aM fb (O.cZ (.lit q) dd (.k q))<|aj (O.cZ (.lit q) fb (.lit q))<|bq q<|aM q (O.bh q (.obj q) o7 q)<|aM q (O.cw q (.ptr q) cr q)<|aM q (O.eql (.lit q) (.k q))<|aM q (O.aA (.lit q)) ?_
      rcases cz aa with ⟨dp,aa⟩ | ⟨dp,aa⟩
      ·refine aM dp (O.bh q (.obj q) nS q)<|aM dp (O.cw q (.ptr q) e4 q)<|aM dp (O.ow (.lit q) (.k q))<|aM q (O.dS (.lit q) dp (.lit q))<|aj (O.cZ (.lit q) q (.lit q))<|aj (O.aA (.lit q)) ?_
       rcases cz aa with ⟨eU,aa⟩ | ⟨eU,aa⟩
       ·obtain rfl:=au aa
        exact ar.aW
       ·refine aM eU (O.bh q (.obj q) nS q)<|aM eU (O.cw q (.ptr q) e4 q)<|aM eU (O.l8 (.lit q) (.k q))<|aM eU (O.aA (.lit q)) ?_
        rcases cz aa with ⟨fh,aa⟩ | ⟨fh,aa⟩
        ·refine aM fh (O.bh q (.obj q) nS q)<|aM fh (O.cw q (.ptr q) e4 q) ?_
         obtain ⟨dU,lO,aa⟩:=ay aa
         obtain rfl:=au aa
         exact ar.c (cu.go (.b0 (.lit q) .nil) (Cb a0.Tag _ lO) call111 q) q q (.hh q q fh)<|aM fh (O.not (.lit q))<|aM eU (O.dS (.lit q) fh (.lit q))<|ar.aW
        ·obtain rfl:=au aa
         exact b6 fh<|b6 fh<|b6 fh<|b6 fh<|aM eU (O.cZ (.lit q) fh (.k q))<|ar.aW
      ·refine b6 dp<|b6 dp<|b6 dp<|aM q (O.cZ (.lit q) dp (.k q))<|aj (O.cZ (.lit q) q (.lit q))<|bq q<|aM q (O.bh q (.obj q) nS q)<|aM q (O.cw q (.ptr q) e4 q)<|aM q (O.l8 (.lit q) (.k q))<|aM q (O.aA (.lit q)) ?_
       rcases cz aa with ⟨hc,aa⟩ | ⟨hc,aa⟩
       ·refine aM hc (O.bh q (.obj q) nS q)<|aM hc (O.cw q (.ptr q) e4 q) ?_
        obtain ⟨eo,km,aa⟩:=ay aa
        obtain rfl:=au aa
        exact ar.c (cu.go (.b0 (.lit q) .nil) (Cb a0.Tag _ km) call111 q) q q (.hh q q hc)<|aM hc (O.not (.lit q))<|aM q (O.dS (.lit q) hc (.lit q))<|ar.aW
       ·obtain rfl:=au aa
        exact b6 hc<|b6 hc<|b6 hc<|b6 hc<|aM q (O.cZ (.lit q) hc (.k q))<|ar.aW
 refine W.bw h q (λiE h=>?_) (λiE h=>?_)
 ·refine W.aU [2] ?_
  refine W.rt ?_
  refine af.cK ?_
  obtain rfl:=au h
  exact cx (.f q q .nil)
 ·refine W.bI<|af.aX ?_
  refine W.aZ<|W.aU [1,3] ?_
  refine W.bk ?_
  obtain ⟨eZ,ao,h⟩:=ay h
  refine W.cf (G1:=[(1,_),(3,_)]) (fG q q) ?_
  refine W.iH (s:=0) (λ(iJ:Int)=>[(1,.obj (de.cells a0)),(3,j iJ)]) 0 (λ(eD:Unit)=>[]) (λ(c0:Bool)=>[(2,a1 c0)]) ao (λiJ o h=>?_) (λeD J=>?_) (λc0 J=>?_)
  ·clear ao
   refine W.aZ<|W.aU [1,3,59] ?_
   refine W.bw h q (λjr h=>?_) (λjr h=>?_)
   ·refine W.bI<|af.aX ?_
    refine W.aZ<|W.bk ?_
    refine W.aZ ?_
    obtain ⟨gf,n0,h⟩:=ay h
    obtain ⟨fm,pd,h⟩:=ay h
    refine W.rd [[],[0],[],[0,1,2],[0,1,2,3],[],[5],[5,6],[],[8],[8,9],aP 0 11 [],aP 0 12 []] [(1,_),(3,_),(74,_)] ez (by kernel_rfl) (av 0 (O.bh q (.obj q) rB q)<|av 1 (O.dm (y:=ah dJ a0.fo) q (.ptr q) sh q q)<|av 2 (O.aA (.lit q))<|av 3 (O.cC (.aE q) (.lit q) rV n0)<|av 4 (O.iV (cs':=[ai gf.Name,a1 gf.Lit,j gf.c7,j gf.At]) (.bo q) lW q q)<|av 5 (O.bh q (.obj q) o7 q)<|av 6 (O.cw q (.ptr q) cr q)<|av 7 (O.eql (.lit q) (.k q))<|av 8 (O.bh q (.obj q) o7 q)<|av 9 (O.cw q (.ptr q) cr q)<|av 10 (O.lss (.lit q) (.k q))<|iN 11 (cu.go (.b0 (.b' q q) (.b0 (.lit q) (.b0 (.lit q) .nil))) (Ew gf (decide (a0.Kind=1)) (decide (a0.Kind<5)) _ pd) call116 q)<|av 12 (O.not (.lit q))<|bL.fin q q q (dq q q q)) ?_
    refine af.aX<|W.bw h q (λj1 h=>?_) (λj1 h=>?_)
    ·refine W.aU [2] ?_
     refine W.rt ?_
     refine af.dv ?_
     refine af.cK ?_
     obtain rfl:=au h
     exact af.fP (.n q .nil)
    ·refine W.bI<|af.bk ?_
     refine af.aX<|W.bm [1,3] (bq q<|aj (O.add (.lit q) (.k q))<|ar.bm [1,61] q<|ar.aW) ?_
     obtain rfl:=au h
     exact af.go (fG q q)
   ·refine W.da ?_
    refine af.c' ?_
    obtain rfl:=au h
    exact af.x2 .nil
  ·subst J
   refine af.db ?_
   refine af.aX<|W.aU [2] ?_
   refine W.rt ?_
   obtain rfl:=au h
   exact cx (.f q q .nil)
  ·subst J
   refine af.dv ?_
   refine af.cK ?_
   obtain rfl:=au h
   exact cx (.f q q .nil)
theorem Ex (a0:Sym) (r:Bool) (h:vT a0=some r):cb Try.prog 118 [.agg (dJ.cells a0)] [none] (a1 r):=by
 unfold vT at h
 refine cb.go (N:=⟨16,[]⟩) Try.func118 q q q q (W.fin ?_)
 refine W.st [(0,.agg (dJ.cells a0))] ?_
 refine W.bY [1] (aj (O.box (.b' q q) q)<|ar.aW) ?_
 obtain ⟨kW,aa,h⟩:=ay h
 refine W.rs [(2,a1 kW)] ?_ ?_
 ·refine aj (O.bh q (.obj q) kB q)<|aj (O.cw q (.ptr q) e4 q)<|aj (O.ow (.lit q) (.k q))<|aj (O.aA (.lit q)) ?_
  rcases cz aa with ⟨dg,aa⟩ | ⟨dg,aa⟩
  ·refine aM dg (O.bh q (.obj q) u7 q)<|aM dg (O.cw q (.ptr q) ns q)<|aM dg (O.not (.lit q))<|aj (O.dS (.lit q) dg (.lit q))<|aj (O.aA (.lit q)) ?_
   rcases cz aa with ⟨cO,aa⟩ | ⟨cO,aa⟩
   ·obtain rfl:=au aa
    exact ar.aW
   ·obtain rfl:=au aa
    exact ar.aW
  ·obtain rfl:=au aa
   exact ar.aW
 refine W.rt ?_
 obtain rfl:=au h
 exact cx (.f q q .nil)
theorem Ey (a0:ByteArray) (aw:Int) (a2:ByteArray) (r:Bool) (h:vU a0 aw a2=some r):cb Try.prog 124 [ai a0,j aw,ai a2] [none,none,none] (a1 r):=by
 unfold vU at h
 refine cb.go (N:=⟨25,[]⟩) Try.func124 q q q q (W.fin ?_)
 refine W.st [(0,ai a0),(1,j aw),(2,ai a2)] ?_
 refine W.aU [0,1,2] ?_
 obtain ⟨kW,aa,h⟩:=ay h
 refine W.rs [(6,a1 kW)] ?_ ?_
 ·refine bq q<|aj (O.mI (.lit q) kc)<|bq q<|aj (O.sub (.lit q) (.lit q))<|bq q<|aj (O.mI (.lit q) kc)<|aj (O.geq (.lit q) (.lit q))<|aj (O.aA (.lit q)) ?_
  rcases cz aa with ⟨dg,aa⟩ | ⟨dg,aa⟩
  ·refine aM dg (O.aA (.lit q))<|aM dg (O.aA (.lit q))<|aM dg (O.aA (.lit q))<|aM dg (O.aA (.lit q))<|aM dg (O.mI (.lit q) kc)<|aM dg (O.add (.lit q) (.lit q)) ?_
   obtain ⟨x2,hZ,aa⟩:=ay aa
   obtain rfl:=au aa
   exact aM dg (O.yn (.lit q) (.lit q) (.lit q) kc hZ)<|ar.aW
  ·obtain rfl:=au aa
   exact ar.aW
 refine W.rt ?_
 obtain rfl:=au h
 exact cx (.f q q .nil)
theorem OS (a0:ByteArray) (aw:Int) (r:Int) (h:AT a0 aw=some r):cb Try.prog 123 [ai a0,j aw] [none,none] (j r):=by
 unfold AT at h
 refine cb.go (N:=⟨114,[]⟩) Try.func123 q q q q (W.fin ?_)
 refine W.st [(0,ai a0),(1,j aw)] ?_
 refine W.aU [0,1] ?_
 refine W.aZ<|W.bk ?_
 obtain ⟨c4,aa,h⟩:=ay h
 refine W.rs [(0,ai a0),(1,j aw),(9,a1 c4)] ?_ ?_
 ·refine bq q<|aj (O.aA (.lit q)) ?_
  obtain ⟨aF,fI,aa⟩:=ay aa
  refine aj (O.qq (.lit q) (.lit q) kc fI)<|aj (O.eql (.lit q) (.k q))<|aj (O.aA (.lit q)) ?_
  rcases cz aa with ⟨cO,aa⟩ | ⟨cO,aa⟩
  ·obtain rfl:=au aa
   exact ar.aW
  ·refine aM cO (O.aA (.lit q))<|aM cO (O.aA (.lit q)) ?_
   obtain ⟨a_,hd,aa⟩:=ay aa
   obtain rfl:=au aa
   exact ar.aW
 refine W.bw h q (λdD h=>?_) (λdD h=>?_)
 ·refine W.aZ<|W.aU [0,1,5] ?_
  refine W.bk ?_
  obtain ⟨bz,ao,h⟩:=ay h
  refine W.cf (G1:=[(0,_),(1,_),(5,_)]) (dq q q q) ?_
  refine W.iH (s:=aQ (aw+1)) (λ(cH:Int)=>[(0,ai a0),(1,j aw),(5,j cH)]) 1 (λ(b3:Unit)=>[]) (λ(cF:Int)=>[(4,j cF)]) ao (λcH o h=>?_) (λb3 J=>?_) (λcF J=>?_)
  ·clear ao
   refine W.aZ ?_
   obtain ⟨qs,aa,h⟩:=ay h
   refine W.rs [(0,ai a0),(1,j aw),(5,j cH),(31,a1 qs)] ?_ ?_
   ·refine bq q<|bq q<|aj (O.mI (.lit q) kc)<|aj (O.lss (.lit q) (.lit q))<|aj (O.aA (.lit q)) ?_
    rcases cz aa with ⟨eU,aa⟩ | ⟨eU,aa⟩
    ·refine aM eU (O.aA (.lit q))<|aM eU (O.aA (.lit q)) ?_
     obtain ⟨b1,hn,aa⟩:=ay aa
     obtain rfl:=au aa
     exact ar.aW
    ·obtain rfl:=au aa
     exact ar.aW
   refine W.bw h q (λhc h=>?_) (λhc h=>?_)
   ·refine W.bI<|af.aX ?_
    refine W.aZ<|W.bk ?_
    refine W.aZ<|W.aZ ?_
    obtain ⟨eo,km,h⟩:=ay h
    obtain ⟨cA,ic,h⟩:=ay h
    refine W.rd [[],[],[0,1],[],[],[3,4],aP 0 6 []] [(0,_),(1,_),(5,_),(40,_)] ez (by kernel_rfl) (av 0 (O.aA (.lit q))<|av 1 (O.aA (.lit q))<|av 2 (O.qq (.lit q) (.lit q) kc km)<|av 3 (O.aA (.lit q))<|av 4 (O.aA (.lit q))<|av 5 (O.qq (.lit q) (.lit q) kc ic)<|av 6 (O.eql (.lit q) (.lit q))<|bL.fin q q q (dA q q q q)) ?_
    refine af.aX<|W.bw h q (λiE h=>?_) (λiE h=>?_)
    ·refine W.aU [4] ?_
     refine W.rt ?_
     refine af.cK ?_
     refine af.dv ?_
     refine af.cK ?_
     obtain rfl:=au h
     exact af.fP (.n q .nil)
    ·refine W.bI<|af.aX ?_
     obtain ⟨b2,hY,h⟩:=ay h
     refine W.aU [0,1,5,46] ?_
     refine W.bw h q (λgW h=>?_) (λgW h=>?_)
     ·refine W.bY [0,1,5] (bq q<|aj (O.add (.lit q) (.k q))<|ar.bm [0,1,48] q<|ar.aW) ?_
      obtain ⟨rr,aa,h⟩:=ay h
      refine W.rs [(0,ai a0),(1,j aw),(5,j (aQ (cH+1))),(58,a1 rr)] ?_ ?_
      ·refine bq q<|bq q<|aj (O.mI (.lit q) kc)<|aj (O.lss (.lit q) (.lit q))<|aj (O.aA (.lit q)) ?_
       rcases cz aa with ⟨lp,aa⟩ | ⟨lp,aa⟩
       ·refine aM lp (O.aA (.lit q))<|aM lp (O.aA (.lit q)) ?_
        obtain ⟨c0,nZ,aa⟩:=ay aa
        obtain rfl:=au aa
        exact ar.aW
       ·obtain rfl:=au aa
        exact ar.aW
      refine W.bw h q (λeE h=>?_) (λeE h=>?_)
      ·refine W.aU [4] ?_
       refine W.rt ?_
       refine af.dv ?_
       refine af.cK ?_
       obtain rfl:=au h
       exact af.fP (.n q .nil)
      ·refine W.bI<|af.bk ?_
       refine af.aX<|W.bm [0,1,5] (bq q<|aj (O.add (.lit q) (.k q))<|ar.bm [0,1,33] q<|ar.aW) ?_
       obtain rfl:=au h
       exact af.go (dq q q q)
     ·refine W.bI<|af.bk ?_
      refine af.aX<|W.bm [0,1,5] (bq q<|aj (O.add (.lit q) (.k q))<|ar.bm [0,1,33] q<|ar.aW) ?_
      obtain rfl:=au h
      exact af.go (dq q q q)
   ·refine W.da ?_
    refine af.c' ?_
    obtain rfl:=au h
    exact af.x2 .nil
  ·subst J
   refine af.db ?_
   refine af.aX<|W.aU [4] ?_
   refine W.rt ?_
   refine af.dv ?_
   refine af.cK ?_
   obtain rfl:=au h
   exact cx (.f q q .nil)
  ·subst J
   refine af.dv ?_
   refine af.cK ?_
   refine af.dv ?_
   refine af.cK ?_
   obtain rfl:=au h
   exact cx (.f q q .nil)
 ·obtain ⟨fm,pd,h⟩:=ay h
  refine W.aU [0,1,59] ?_
  refine W.bw h q (λj1 h=>?_) (λj1 h=>?_)
  ·refine W.aZ<|W.aU [0,6] ?_
   refine W.bk ?_
   obtain ⟨iM,ao,h⟩:=ay h
   refine W.cf (G1:=[(0,_),(6,_)]) (fG q q) ?_
   refine W.iH (s:=aQ (aw+1)) (λ(wh:Int)=>[(0,ai a0),(6,j wh)]) 3 (λ(gg:Unit)=>[]) (λ(cV:Int)=>[(4,j cV)]) ao (λwh o h=>?_) (λgg J=>?_) (λcV J=>?_)
   ·clear ao
    refine W.aZ<|W.aU [0,6,69] ?_
    refine W.bw h q (λjs h=>?_) (λjs h=>?_)
    ·refine W.bI<|af.aX ?_
     refine W.aZ<|W.bk ?_
     obtain ⟨gK,nb,h⟩:=ay h
     refine W.aU [0,6,75] ?_
     refine W.bw h q (λqH h=>?_) (λqH h=>?_)
     ·refine W.aU [4] ?_
      refine W.rt ?_
      refine af.dv ?_
      refine af.cK ?_
      obtain rfl:=au h
      exact af.fP (.n q .nil)
     ·refine W.bI<|af.bk ?_
      refine af.aX<|W.bm [0,6] (bq q<|aj (O.add (.lit q) (.k q))<|ar.bm [0,71] q<|ar.aW) ?_
      obtain rfl:=au h
      exact af.go (fG q q)
    ·refine W.da ?_
     refine af.c' ?_
     obtain rfl:=au h
     exact af.x2 .nil
   ·subst J
    refine af.db ?_
    refine af.aX<|W.aU [4] ?_
    refine W.rt ?_
    refine af.dv ?_
    refine af.cK ?_
    obtain rfl:=au h
    exact cx (.f q q .nil)
   ·subst J
    refine af.dv ?_
    refine af.cK ?_
    refine af.dv ?_
    refine af.cK ?_
    obtain rfl:=au h
    exact cx (.f q q .nil)
  ·obtain ⟨d_,sM,h⟩:=ay h
   refine W.bY [0,1,78] (bq q<|bq q<|ee (cu.go (.b0 (.lit q) (.b0 (.lit q) (.b0 (.k q) .nil))) (Ey a0 aw ({ data:=#[47,47] }) _ sM) call124 q)<|ar.aW) ?_
   refine W.bw h q (λey h=>?_) (λey h=>?_)
   ·refine W.aU [0,7] ?_
    refine W.aZ<|W.bk ?_
    obtain ⟨gS,ao,h⟩:=ay h
    refine W.cf (G1:=[(0,_),(7,_)]) (fG q q) ?_
    refine W.eO (s:=aw) (λ(ux:Int)=>[(0,ai a0),(7,j ux)]) 5 (λ(gS:Int)=>[(7,j gS)]) ao (λux o h=>?_) ?_
    ·clear ao
     refine W.aZ ?_
     obtain ⟨Ej,aa,h⟩:=ay h
     refine W.rs [(0,ai a0),(7,j ux),(92,a1 Ej)] ?_ ?_
     ·refine bq q<|bq q<|aj (O.mI (.lit q) kc)<|aj (O.lss (.lit q) (.lit q))<|aj (O.aA (.lit q)) ?_
      rcases cz aa with ⟨pV,aa⟩ | ⟨pV,aa⟩
      ·refine aM pV (O.aA (.lit q))<|aM pV (O.aA (.lit q)) ?_
       obtain ⟨dc,uc,aa⟩:=ay aa
       obtain rfl:=au aa
       exact ar.aW
      ·obtain rfl:=au aa
       exact ar.aW
     refine W.bw h q (λQX h=>?_) (λQX h=>?_)
     ·refine W.bI<|af.aX ?_
      refine W.bk<|W.bm [0,7] (bq q<|aj (O.add (.lit q) (.k q))<|ar.bm [0,94] q<|ar.aW) ?_
      refine af.bk ?_
      obtain rfl:=au h
      exact af.go (fG q q)
     ·refine W.da ?_
      refine af.c' ?_
      obtain rfl:=au h
      exact af.aF (.n q .nil)
    refine af.db ?_
    refine af.aX<|W.aU [4] ?_
    refine W.rt ?_
    refine af.dv ?_
    refine af.cK ?_
    obtain rfl:=au h
    exact cx (.f q q .nil)
   ·obtain ⟨BF,Gp,h⟩:=ay h
    refine W.bY [0,1,96] (bq q<|bq q<|ee (cu.go (.b0 (.lit q) (.b0 (.lit q) (.b0 (.k q) .nil))) (Ey a0 aw ({ data:=#[47,42] }) _ Gp) call124 q)<|ar.aW) ?_
    refine W.bw h q (λQZ h=>?_) (λQZ h=>?_)
    ·refine W.aZ<|W.aU [0,8] ?_
     refine W.bk ?_
     obtain ⟨q',ao,h⟩:=ay h
     refine W.cf (G1:=[(0,_),(8,_)]) (fG q q) ?_
     refine W.iH (s:=aQ (aw+2)) (λ(uy:Int)=>[(0,ai a0),(8,j uy)]) 7 (λ(M8:Unit)=>[]) (λ(mS:Int)=>[(4,j mS)]) ao (λuy o h=>?_) (λM8 J=>?_) (λmS J=>?_)
     ·clear ao
      refine W.aZ<|W.aU [0,8,105] ?_
      refine W.bw h q (λQ3 h=>?_) (λQ3 h=>?_)
      ·refine W.bI<|af.aX ?_
       refine W.aZ<|W.bk ?_
       obtain ⟨BG,Lp,h⟩:=ay h
       refine W.bY [0,8,110] (bq q<|bq q<|ee (cu.go (.b0 (.lit q) (.b0 (.lit q) (.b0 (.k q) .nil))) (Ey a0 uy ({ data:=#[42,47] }) _ Lp) call124 q)<|bS q) ?_
       refine W.bw h q (λFw h=>?_) (λFw h=>?_)
       ·refine W.aU [4] ?_
        refine W.rt ?_
        refine af.dv ?_
        refine af.cK ?_
        obtain rfl:=au h
        exact af.fP (.n q .nil)
       ·refine W.bI<|af.bk ?_
        refine af.aX<|W.bm [0,8] (bq q<|aj (O.add (.lit q) (.k q))<|ar.bm [0,107] q<|ar.aW) ?_
        obtain rfl:=au h
        exact af.go (fG q q)
      ·refine W.da ?_
       refine af.c' ?_
       obtain rfl:=au h
       exact af.x2 .nil
     ·subst J
      refine af.db ?_
      refine af.aX<|W.aU [4] ?_
      refine W.rt ?_
      refine af.dv ?_
      refine af.cK ?_
      obtain rfl:=au h
      exact cx (.f q q .nil)
     ·subst J
      refine af.dv ?_
      refine af.cK ?_
      refine af.dv ?_
      refine af.cK ?_
      obtain rfl:=au h
      exact cx (.f q q .nil)
    ·refine W.bI<|af.bk ?_
     refine af.aX<|W.aU [4] ?_
     refine W.rt ?_
     obtain rfl:=au h
     exact cx (.f q q .nil)
theorem Jk (a0:ByteArray) (aw:Int) (r:Int) (h:x4 a0 aw=some r):cb Try.prog 119 [ai a0,j aw] [none,none] (j r):=by
 unfold x4 at h
 refine cb.go (N:=⟨53,[]⟩) Try.func119 q q q q (W.fin ?_)
 refine W.st [(0,ai a0),(1,j aw)] ?_
 refine W.aU [0,1] ?_
 refine W.aZ ?_
 obtain ⟨c4,aa,h⟩:=ay h
 refine W.rs [(0,ai a0),(1,j aw),(21,a1 c4)] ?_ ?_
 ·refine bq q<|aj (O.lss (.lit q) (.k q))<|aj (O.aA (.lit q)) ?_
  rcases cz aa with ⟨dg,aa⟩ | ⟨dg,aa⟩
  ·obtain rfl:=au aa
   exact ar.aW
  ·refine aM dg (O.aA (.lit q))<|aM dg (O.aA (.lit q))<|aM dg (O.mI (.lit q) kc)<|aM dg (O.geq (.lit q) (.lit q))<|aj (O.cZ (.lit q) dg (.lit q))<|aj (O.aA (.lit q)) ?_
   rcases cz aa with ⟨cO,aa⟩ | ⟨cO,aa⟩
   ·obtain rfl:=au aa
    exact ar.aW
   ·refine aM cO (O.aA (.lit q))<|aM cO (O.aA (.lit q)) ?_
    obtain ⟨a_,hd,aa⟩:=ay aa
    obtain rfl:=au aa
    exact ar.aW
 refine W.bw h q (λdD h=>?_) (λdD h=>?_)
 ·refine W.aU [4] ?_
  refine W.rt ?_
  refine af.cK ?_
  obtain rfl:=au h
  exact cx (.f q q .nil)
 ·refine W.bI<|af.aX ?_
  refine W.aU [0,1,5] ?_
  refine W.aZ<|W.aU [0,5,6] ?_
  refine W.bk ?_
  obtain ⟨bz,ao,h⟩:=ay h
  refine W.cf (G1:=[(0,_),(5,_),(6,_)]) (dq q q q) ?_
  refine W.iH (s:=(0,aw)) (λ(cH:Int × Int)=>[(0,ai a0),(5,j cH.1),(6,j cH.2)]) 0 (λ(b3:Unit)=>[]) (λ(cF:Int)=>[(4,j cF)]) ao (λcH o h=>?_) (λb3 J=>?_) (λcF J=>?_)
  ·clear ao
   refine W.aZ<|W.aU [0,5,6,26] ?_
   refine W.bw h q (λeU h=>?_) (λeU h=>?_)
   ·refine W.bI<|af.aX ?_
    refine W.bk ?_
    obtain ⟨b1,hn,h⟩:=ay h
    refine W.bY [0,5,6,7] (bq q<|bq q<|ee (cu.go (.b0 (.lit q) (.b0 (.lit q) .nil)) (OS a0 cH.2 _ hn) call123 q)<|ar.aW) ?_
    refine W.aZ<|W.aU [0,5,6,7,31] ?_
    refine W.bw h q (λeb h=>?_) (λeb h=>?_)
    ·refine W.aU [4] ?_
     refine W.rt ?_
     refine af.cK ?_
     refine af.dv ?_
     obtain rfl:=au h
     exact af.fP (.n q .nil)
    ·refine W.bI<|af.aX ?_
     refine W.aZ<|W.aU [0,5,6,7,34] ?_
     refine W.bw h q (λhc h=>?_) (λhc h=>?_)
     ·refine W.bY [0,5,6] (bq q<|ar.bm [0,5,35] q<|ar.aW) ?_
      refine W.da ?_
      refine af.c' ?_
      refine af.db ?_
      obtain rfl:=au h
      exact af.go (dq q q q)
     ·refine W.bI<|af.aX ?_
      refine W.aZ ?_
      obtain ⟨eo,km,h⟩:=ay h
      refine W.aU [0,5,6,39] ?_
      obtain ⟨oH,aa,h⟩:=ay h
      refine W.bB [(0,ai a0),(5,j oH),(6,j cH.2)] ?_ ?_
      ·clear h; have h:=aa; clear aa
       refine W.bw h q (λiE h=>?_) (λiE h=>?_)
       ·refine W.bm [0,5,6] (bq q<|aj (O.add (.lit q) (.k q))<|ar.bm [0,6,41] q<|ar.aW) ?_
        obtain rfl:=au h
        exact af.bB (dq q q q)
       ·refine W.bI ?_
        obtain rfl:=au h
        exact af.bB (dq q q q)
      refine af.aX<|W.aZ ?_
      obtain ⟨b2,hY,h⟩:=ay h
      refine W.aU [0,5,6,45] ?_
      obtain ⟨C5,aa,h⟩:=ay h
      refine W.bB [(0,ai a0),(5,j C5),(6,j cH.2)] ?_ ?_
      ·clear h; have h:=aa; clear aa
       refine W.bw h q (λlp h=>?_) (λlp h=>?_)
       ·refine W.bm [0,5,6] (bq q<|aj (O.sub (.lit q) (.k q))<|ar.bm [0,6,47] q<|ar.aW) ?_
        obtain rfl:=au h
        exact af.bB (dq q q q)
       ·refine W.bI ?_
        obtain rfl:=au h
        exact af.bB (dq q q q)
      refine af.aX<|W.bY [0,5,6] (bq q<|aj (O.add (.lit q) (.k q))<|ar.bm [0,5,49] q<|ar.aW) ?_
      refine W.aU [0,5,6,51] ?_
      refine W.bw h q (λkD h=>?_) (λkD h=>?_)
      ·refine W.aU [4] ?_
       refine W.rt ?_
       refine af.dv ?_
       obtain rfl:=au h
       exact af.fP (.n q .nil)
      ·refine W.bI<|af.bk ?_
       obtain rfl:=au h
       exact af.go (dq q q q)
   ·refine W.da ?_
    refine af.c' ?_
    obtain rfl:=au h
    exact af.x2 .nil
  ·subst J
   refine af.db ?_
   refine af.aX<|W.aU [4] ?_
   refine W.rt ?_
   obtain rfl:=au h
   exact cx (.f q q .nil)
  ·subst J
   refine af.dv ?_
   refine af.cK ?_
   obtain rfl:=au h
   exact cx (.f q q .nil)
theorem ON (a0:Alt) (r:Bool) (h:AO a0=some r):cb Try.prog 112 [.agg (e1.cells a0)] [none] (a1 r):=by
 unfold AO at h
 refine cb.go (N:=⟨54,[]⟩) Try.func112 q q q q (W.fin ?_)
 refine W.st [(0,.agg (e1.cells a0))] ?_
 refine W.bY [1] (aj (O.box (.b' q q) q)<|ar.aW) ?_
 refine W.aZ<|W.aU [1,3] ?_
 refine W.bk ?_
 obtain ⟨x2,ao,h⟩:=ay h
 refine W.cf (G1:=[(1,_),(3,_)]) (fG q q) ?_
 refine W.iH (s:=0) (λ(s1:Int)=>[(1,.obj (e1.cells a0)),(3,j s1)]) 0 (λ(a_:Unit)=>[(1,.obj (e1.cells a0))]) (λ(bE:Bool)=>[(2,a1 bE)]) ao (λs1 o h=>?_) (λa_ J=>?_) (λbE J=>?_)
 ·clear ao
  refine W.aZ<|W.aU [1,3,9] ?_
  refine W.bw h q (λdD h=>?_) (λdD h=>?_)
  ·refine W.bI<|af.aX ?_
   refine W.aZ<|W.bk ?_
   obtain ⟨bx,fJ,h⟩:=ay h
   refine W.bY [1,3,4] (aj (O.bh q (.obj q) sq q)<|aj (O.dm (y:=ah e6 a0.jC) q (.ptr q) xd q q)<|bq q<|aj (O.cC (.aE q) (.lit q) s7 fJ)<|aj (O.iV (cs':=[ai bx.Sym.Name,a1 bx.Sym.Lit,j bx.Sym.c7,j bx.Sym.At,ai bx.Code,j bx.At]) (.bo q) w1 q q)<|aj (O.fL (cs:=[ai aC,a1 false,j 0,j 0,ai aC,j 0]) qi q q)<|ar.dI (G2:=[(1,_),(3,_),(4,_)]) (cs2:=[ai bx.Sym.Name,a1 bx.Sym.Lit,j bx.Sym.c7,j bx.Sym.At,ai bx.Code,j bx.At]) q (.obj q) (.b' q q) q Bv q q q q (.n q q (.n q q (.b q .nil)))<|bS q) ?_
   refine W.aZ ?_
   obtain ⟨qu,aa,h⟩:=ay h
   refine W.rd [[],[0],[0,1],[0,1,2],[0,1,2,3],aP 0 5 [],aP 0 6 [],aP 0 7 [],aP 0 8 [],aP 0 9 [],aP 0 10 [],aP 0 11 [],aP 0 12 [],aP 0 13 [],aP 0 14 [],aP 0 15 [],aP 0 16 [],aP 0 17 [],aP 0 18 [],aP 0 19 [],aP 0 20 [],aP 0 21 [],aP 0 19 [],aP 0 19 [22],aP 0 19 [22,23],aP 0 25 [],aP 0 26 [],aP 0 27 [],aP 0 28 []] [(1,.obj (e1.cells a0)),(3,j s1),(45,a1 qu)] ez (by kernel_rfl) ?_ ?_
   ·refine av 0 (O.bh q (.obj q) rE q)<|av 1 (O.cw q (.ptr q) e4 q)<|av 2 (O.ow (.lit q) (.k q))<|av 3 (O.aA (.lit q)) ?_
    rcases cz aa with ⟨c5,aa⟩ | ⟨c5,aa⟩
    ·refine bC 4 c5 (O.bh q (.obj q) zr q)<|bC 5 c5 (O.dW (cs':=[ai bx.Sym.Name,a1 bx.Sym.Lit,j bx.Sym.c7,j bx.Sym.At]) q (.ptr q) lW q q) ?_
     obtain ⟨b3,ho,aa⟩:=ay aa
     refine bL.c 6 (cu.go (.b0 (.b' q q) (.b0 (.k q) (.b0 (.k q) .nil))) (Ew bx.Sym false true _ ho) call116 q) q q q q (.hh q q c5)<|bC 7 c5 (O.not (.lit q))<|av 8 (O.dS (.lit q) c5 (.lit q))<|av 9 (O.aA (.lit q)) ?_
     rcases cz aa with ⟨dp,aa⟩ | ⟨dp,aa⟩
     ·obtain rfl:=au aa
      exact bs 10 dp<|bs 11 dp<|bs 12 dp<|bs 13 dp<|dy 14<|dy 15<|dy 16<|dy 17<|dy 18<|dy 19<|dy 20<|dy 21<|dy 22<|dy 23<|dy 24<|dy 25<|dy 26<|bs 27 dp<|av 28 (O.dS (.lit q) dp (.k q))<|bL.fin q q q (dq q q q)
     ·refine bC 10 dp (O.bh q (.obj q) rE q)<|bC 11 dp (O.cw q (.ptr q) e4 q)<|bC 12 dp (O.l8 (.lit q) (.k q))<|bC 13 dp (O.aA (.lit q)) ?_
      rcases cz aa with ⟨eU,aa⟩ | ⟨eU,aa⟩
      ·refine bC 14 eU (O.bh q (.obj q) zr q)<|bC 15 eU (O.dW (cs':=[ai bx.Sym.Name,a1 bx.Sym.Lit,j bx.Sym.c7,j bx.Sym.At]) q (.ptr q) lW q q) ?_
       obtain ⟨b1,hn,aa⟩:=ay aa
       refine bL.c 16 (cu.go (.b0 (.b' q q) .nil) (Ex bx.Sym _ hn) call118 q) q q q q (.hh q q eU)<|bC 17 eU (O.not (.lit q))<|bC 18 eU (O.aA (.lit q)) ?_
       rcases cz aa with ⟨eb,aa⟩ | ⟨eb,aa⟩
       ·obtain rfl:=au aa
        exact bs 19 eb<|bs 20 eb<|bs 21 eb<|bs 22 eb<|bs 23 eb<|bs 24 eb<|bs 25 eb<|bC 26 eU (O.dS (.lit q) eb (.k q))<|bC 27 dp (O.dS (.lit q) eU (.lit q))<|av 28 (O.cZ (.lit q) dp (.lit q))<|bL.fin q q q (dq q q q)
       ·refine bC 19 eb (O.bh q (.obj q) rE q)<|bC 20 eb (O.cw q (.ptr q) e4 q) ?_
        obtain ⟨ei,kG,aa⟩:=ay aa
        obtain rfl:=au aa
        exact bL.c 21 (cu.go (.b0 (.lit q) (.b0 (.k q) .nil)) (Jk bx.Code 0 _ kG) call119 q) q q q q (.hh q q eb)<|bC 22 eb (O.bh q (.obj q) rE q)<|bC 23 eb (O.cw q (.ptr q) e4 q)<|bC 24 eb (O.mI (.lit q) kc)<|bC 25 eb (O.neq (.lit q) (.lit q))<|bC 26 eU (O.cZ (.lit q) eb (.lit q))<|bC 27 dp (O.dS (.lit q) eU (.lit q))<|av 28 (O.cZ (.lit q) dp (.lit q))<|bL.fin q q q (dq q q q)
      ·obtain rfl:=au aa
       exact bs 14 eU<|bs 15 eU<|bs 16 eU<|bs 17 eU<|bs 18 eU<|dy 19<|dy 20<|dy 21<|dy 22<|dy 23<|dy 24<|dy 25<|bs 26 eU<|bC 27 dp (O.cZ (.lit q) eU (.k q))<|av 28 (O.cZ (.lit q) dp (.lit q))<|bL.fin q q q (dq q q q)
    ·refine bs 4 c5<|bs 5 c5<|bs 6 c5<|bs 7 c5<|av 8 (O.cZ (.lit q) c5 (.k q))<|av 9 (O.aA (.lit q))<|bC 10 q (O.bh q (.obj q) rE q)<|bC 11 q (O.cw q (.ptr q) e4 q)<|bC 12 q (O.l8 (.lit q) (.k q))<|bC 13 q (O.aA (.lit q)) ?_
     rcases cz aa with ⟨eM,aa⟩ | ⟨eM,aa⟩
     ·refine bC 14 eM (O.bh q (.obj q) zr q)<|bC 15 eM (O.dW (cs':=[ai bx.Sym.Name,a1 bx.Sym.Lit,j bx.Sym.c7,j bx.Sym.At]) q (.ptr q) lW q q) ?_
      obtain ⟨cA,ic,aa⟩:=ay aa
      refine bL.c 16 (cu.go (.b0 (.b' q q) .nil) (Ex bx.Sym _ ic) call118 q) q q q q (.hh q q eM)<|bC 17 eM (O.not (.lit q))<|bC 18 eM (O.aA (.lit q)) ?_
      rcases cz aa with ⟨iE,aa⟩ | ⟨iE,aa⟩
      ·obtain rfl:=au aa
       exact bs 19 iE<|bs 20 iE<|bs 21 iE<|bs 22 iE<|bs 23 iE<|bs 24 iE<|bs 25 iE<|bC 26 eM (O.dS (.lit q) iE (.k q))<|bC 27 q (O.dS (.lit q) eM (.lit q))<|av 28 (O.cZ (.lit q) q (.lit q))<|bL.fin q q q (dq q q q)
      ·refine bC 19 iE (O.bh q (.obj q) rE q)<|bC 20 iE (O.cw q (.ptr q) e4 q) ?_
       obtain ⟨b2,hY,aa⟩:=ay aa
       obtain rfl:=au aa
       exact bL.c 21 (cu.go (.b0 (.lit q) (.b0 (.k q) .nil)) (Jk bx.Code 0 _ hY) call119 q) q q q q (.hh q q iE)<|bC 22 iE (O.bh q (.obj q) rE q)<|bC 23 iE (O.cw q (.ptr q) e4 q)<|bC 24 iE (O.mI (.lit q) kc)<|bC 25 iE (O.neq (.lit q) (.lit q))<|bC 26 eM (O.cZ (.lit q) iE (.lit q))<|bC 27 q (O.dS (.lit q) eM (.lit q))<|av 28 (O.cZ (.lit q) q (.lit q))<|bL.fin q q q (dq q q q)
     ·obtain rfl:=au aa
      exact bs 14 eM<|bs 15 eM<|bs 16 eM<|bs 17 eM<|bs 18 eM<|dy 19<|dy 20<|dy 21<|dy 22<|dy 23<|dy 24<|dy 25<|bs 26 eM<|bC 27 q (O.cZ (.lit q) eM (.k q))<|av 28 (O.cZ (.lit q) q (.lit q))<|bL.fin q q q (dq q q q)
   refine af.aX<|W.bw h q (λlp h=>?_) (λlp h=>?_)
   ·refine W.aU [2] ?_
    refine W.rt ?_
    refine af.dv ?_
    refine af.cK ?_
    obtain rfl:=au h
    exact af.fP (.n q .nil)
   ·refine W.bI<|af.bk ?_
    refine af.aX<|W.bm [1,3] (bq q<|aj (O.add (.lit q) (.k q))<|ar.bm [1,11] q<|ar.aW) ?_
    obtain rfl:=au h
    exact af.go (fG q q)
  ·refine W.da ?_
   refine af.c' ?_
   obtain rfl:=au h
   exact af.x2 (.n q .nil)
 ·subst J
  refine af.db ?_
  refine af.aX ?_
  obtain ⟨yW,aa,h⟩:=ay h
  refine W.rs [(2,a1 yW)] ?_ ?_
  ·refine aj (O.bh q (.obj q) tx q)<|aj (O.dW (cs':=[ai a0.Prec.Name,a1 a0.Prec.Lit,j a0.Prec.c7,j a0.Prec.At]) q (.ptr q) lW q q) ?_
   obtain ⟨c0,nZ,aa⟩:=ay aa
   refine ee (cu.go (.b0 (.b' q q) .nil) (Ex a0.Prec _ nZ) call118 q)<|aj (O.aA (.lit q)) ?_
   rcases cz aa with ⟨jr,aa⟩ | ⟨jr,aa⟩
   ·obtain rfl:=au aa
    exact ar.aW
   ·refine aM jr (O.bh q (.obj q) tx q)<|aM jr (O.dW (cs':=[ai a0.Prec.Name,a1 a0.Prec.Lit,j a0.Prec.c7,j a0.Prec.At]) q (.ptr q) lW q q) ?_
    obtain ⟨gf,n0,aa⟩:=ay aa
    obtain rfl:=au aa
    exact ar.c (cu.go (.b0 (.b' q q) (.b0 (.k q) (.b0 (.k q) .nil))) (Ew a0.Prec false true _ n0) call116 q) q q (.hh q q jr)<|ar.aW
  refine W.rt ?_
  obtain rfl:=au h
  exact cx (.f q q .nil)
 ·subst J
  refine af.dv ?_
  refine af.cK ?_
  obtain rfl:=au h
  exact cx (.f q q .nil)
theorem Pj (a0:Source) (r:Bool) (h:Bh a0=some r):cb Try.prog 92 [.agg (dY.cells a0)] [none] (a1 r):=by
 unfold Bh at h
 refine cb.go (N:=⟨77,[]⟩) Try.func92 q q q q (W.fin ?_)
 refine W.st [(0,.agg (dY.cells a0))] ?_
 refine W.bY [1] (aj (O.box (.b' q q) q)<|ar.aW) ?_
 refine W.aZ<|W.aU [1,3] ?_
 refine W.bk ?_
 obtain ⟨x2,ao,h⟩:=ay h
 refine W.cf (G1:=[(1,_),(3,_)]) (fG q q) ?_
 refine W.iH (s:=0) (λ(s1:Int)=>[(1,.obj (dY.cells a0)),(3,j s1)]) 0 (λ(a_:Unit)=>[(1,.obj (dY.cells a0))]) (λ(bE:Bool)=>[(2,a1 bE)]) ao (λs1 o h=>?_) (λa_ J=>?_) (λbE J=>?_)
 ·clear ao
  refine W.aZ<|W.aU [1,3,13] ?_
  refine W.bw h q (λdD h=>?_) (λdD h=>?_)
  ·refine W.bI<|af.aX ?_
   refine W.aZ<|W.bk ?_
   obtain ⟨bx,fJ,h⟩:=ay h
   refine W.bY [1,3,22] (aj (O.bh q (.obj q) ER q)<|aj (O.cw q (.ptr q) e4 q)<|bq q<|bq q<|aj (O.add (.lit q) (.k q))<|aj (O.yn (.lit q) (.lit q) (.lit q) kc fJ)<|ar.aW) ?_
   refine W.bw h q (λc5 h=>?_) (λc5 h=>?_)
   ·refine W.aU [2] ?_
    refine W.rt ?_
    refine af.dv ?_
    refine af.cK ?_
    obtain rfl:=au h
    exact af.fP (.n q .nil)
   ·refine W.bI<|af.bk ?_
    refine af.aX<|W.bm [1,3] (bq q<|aj (O.add (.lit q) (.k q))<|ar.bm [1,15] q<|ar.aW) ?_
    obtain rfl:=au h
    exact af.go (fG q q)
  ·refine W.da ?_
   refine af.c' ?_
   obtain rfl:=au h
   exact af.x2 (.n q .nil)
 ·subst J
  refine af.db ?_
  refine af.aX<|W.aZ ?_
  refine W.aU [1,4] ?_
  refine W.bk ?_
  obtain ⟨cF,ao,h⟩:=ay h
  refine W.cf (G1:=[(1,_),(4,_)]) (fG q q) ?_
  refine W.iH (s:=0) (λ(cI:Int)=>[(1,.obj (dY.cells a0)),(4,j cI)]) 2 (λ(bQ:Unit)=>[(1,.obj (dY.cells a0))]) (λ(b1:Bool)=>[(2,a1 b1)]) ao (λcI o h=>?_) (λbQ J=>?_) (λb1 J=>?_)
  ·clear ao
   refine W.aZ<|W.aU [1,4,27] ?_
   refine W.bw h q (λeb h=>?_) (λeb h=>?_)
   ·refine W.bI<|af.aX ?_
    refine W.aZ<|W.bk ?_
    obtain ⟨ei,kG,h⟩:=ay h
    obtain ⟨eo,km,h⟩:=ay h
    refine W.bY [1,4,36] (aj (O.bh q (.obj q) zl q)<|aj (O.dm (y:=ah de a0.Decls) q (.ptr q) y7 q q)<|bq q<|aj (O.cC (.aE q) (.lit q) uB kG)<|aj (O.iV (cs':=[j ei.Kind,ai ei.Tag,ah dJ ei.fo,j ei.At]) (.bo q) D_ q q)<|ee (cu.go (.b0 (.b' q q) .nil) (OM ei _ km) call110 q)<|ar.aW) ?_
    refine W.bw h q (λqG h=>?_) (λqG h=>?_)
    ·refine W.aU [2] ?_
     refine W.rt ?_
     refine af.dv ?_
     refine af.cK ?_
     obtain rfl:=au h
     exact af.fP (.n q .nil)
    ·refine W.bI<|af.bk ?_
     refine af.aX<|W.bm [1,4] (bq q<|aj (O.add (.lit q) (.k q))<|ar.bm [1,29] q<|ar.aW) ?_
     obtain rfl:=au h
     exact af.go (fG q q)
   ·refine W.da ?_
    refine af.c' ?_
    obtain rfl:=au h
    exact af.x2 (.n q .nil)
  ·subst J
   refine af.db ?_
   refine af.aX<|W.aZ ?_
   refine W.aU [1,5] ?_
   refine W.bk ?_
   obtain ⟨b2,ao,h⟩:=ay h
   refine W.cf (G1:=[(1,_),(5,_)]) (fG q q) ?_
   refine W.iH (s:=0) (λ(hg:Int)=>[(1,.obj (dY.cells a0)),(5,j hg)]) 4 (λ(eZ:Unit)=>[(1,.obj (dY.cells a0))]) (λ(eD:Bool)=>[(2,a1 eD)]) ao (λhg o h=>?_) (λeZ J=>?_) (λeD J=>?_)
   ·clear ao
    refine W.aZ<|W.aU [1,5,41] ?_
    refine W.bw h q (λkD h=>?_) (λkD h=>?_)
    ·refine W.bI<|af.aX ?_
     refine W.aZ<|W.bk ?_
     obtain ⟨c8,mB,h⟩:=ay h
     refine W.bY [1,5,6] (aj (O.bh q (.obj q) o8 q)<|aj (O.dm (y:=ah ia a0.eG) q (.ptr q) pQ q q)<|bq q<|aj (O.cC (.aE q) (.lit q) pA mB)<|aj (O.iV (cs':=[ai c8.Left,ah e1 c8.fU,j c8.At]) (.bo q) IP q q)<|aj (O.fL (cs:=[ai aC,.aK,j 0]) DQ q q)<|ar.dI (G2:=[(1,_),(5,_),(6,_)]) (cs2:=[ai c8.Left,ah e1 c8.fU,j c8.At]) q (.obj q) (.b' q q) q MQ q q q q (.n q q (.n q q (.b q .nil)))<|bS q) ?_
     refine W.aZ ?_
     obtain ⟨tu,aa,h⟩:=ay h
     refine W.rs [(1,.obj (dY.cells a0)),(5,j hg),(6,.obj (ia.cells c8)),(58,a1 tu)] ?_ ?_
     ·refine aj (O.bh q (.obj q) tz q)<|aj (O.cw q (.ptr q) e4 q) ?_
      obtain ⟨gf,n0,aa⟩:=ay aa
      refine ee (cu.go (.b0 (.lit q) .nil) (Cb c8.Left _ n0) call111 q)<|aj (O.not (.lit q))<|aj (O.aA (.lit q)) ?_
      rcases cz aa with ⟨eu,aa⟩ | ⟨eu,aa⟩
      ·obtain rfl:=au aa
       exact ar.aW
      ·obtain rfl:=au aa
       exact ar.aW
     refine W.bw h q (λj2 h=>?_) (λj2 h=>?_)
     ·refine W.aU [2] ?_
      refine W.rt ?_
      refine af.cK ?_
      refine af.dv ?_
      refine af.cK ?_
      obtain rfl:=au h
      exact af.fP (.n q .nil)
     ·refine W.bI<|af.aX ?_
      refine W.aU [1,5,6,7] ?_
      refine W.bk ?_
      obtain ⟨gg,ao,h⟩:=ay h
      refine W.cf (G1:=[(1,_),(5,_),(6,_),(7,_)]) (dA q q q q) ?_
      refine W.iH (s:=0) (λ(yl:Int)=>[(1,.obj (dY.cells a0)),(5,j hg),(6,.obj (ia.cells c8)),(7,j yl)]) 6 (λ(cV:Unit)=>[(1,.obj (dY.cells a0)),(5,j hg)]) (λ(eJ:Bool)=>[(2,a1 eJ)]) ao (λyl o h=>?_) (λcV J=>?_) (λeJ J=>?_)
      ·clear ao
       refine W.aZ<|W.aU [1,5,6,7,63] ?_
       refine W.bw h q (λzO h=>?_) (λzO h=>?_)
       ·refine W.bI<|af.aX ?_
        refine W.aZ<|W.bk ?_
        obtain ⟨h9,nc,h⟩:=ay h
        obtain ⟨d_,sM,h⟩:=ay h
        refine W.bY [1,5,6,7,72] (aj (O.bh q (.obj q) tA q)<|aj (O.dm (y:=ah e1 c8.fU) q (.ptr q) xe q q)<|bq q<|aj (O.cC (.aE q) (.lit q) wo nc)<|aj (O.iV (cs':=[ah e6 h9.jC,ai h9.Prec.Name,a1 h9.Prec.Lit,j h9.Prec.c7,j h9.Prec.At,j h9.At]) (.bo q) Ea q q)<|ee (cu.go (.b0 (.b' q q) .nil) (ON h9 _ sM) call112 q)<|ar.aW) ?_
        refine W.bw h q (λey h=>?_) (λey h=>?_)
        ·refine W.aU [2] ?_
         refine W.rt ?_
         refine af.dv ?_
         refine af.cK ?_
         obtain rfl:=au h
         exact af.fP (.n q .nil)
        ·refine W.bI<|af.bk ?_
         refine af.aX<|W.bm [1,5,6,7] (bq q<|aj (O.add (.lit q) (.k q))<|ar.bm [1,5,6,65] q<|ar.aW) ?_
         obtain rfl:=au h
         exact af.go (dA q q q q)
       ·refine W.da ?_
        refine af.c' ?_
        obtain rfl:=au h
        exact af.x2 (fG q q)
      ·subst J
       refine af.db ?_
       refine af.bk ?_
       refine af.aX<|W.bm [1,5] (bq q<|aj (O.add (.lit q) (.k q))<|ar.bm [1,43] q<|ar.aW) ?_
       obtain rfl:=au h
       exact af.go (fG q q)
      ·subst J
       refine af.dv ?_
       refine af.dv ?_
       refine af.cK ?_
       obtain rfl:=au h
       exact af.fP (.n q .nil)
    ·refine W.da ?_
     refine af.c' ?_
     obtain rfl:=au h
     exact af.x2 (.n q .nil)
   ·subst J
    refine af.db ?_
    refine af.aX<|W.aU [2] ?_
    refine W.rt ?_
    obtain rfl:=au h
    exact cx (.f q q .nil)
   ·subst J
    refine af.dv ?_
    refine af.cK ?_
    obtain rfl:=au h
    exact cx (.f q q .nil)
  ·subst J
   refine af.dv ?_
   refine af.cK ?_
   obtain rfl:=au h
   exact cx (.f q q .nil)
 ·subst J
  refine af.dv ?_
  refine af.cK ?_
  obtain rfl:=au h
  exact cx (.f q q .nil)
theorem uZ (a0:cR) (aw:Int) (a2:ByteArray) (r:cR) (h:nH a0 aw a2=some r):cb Try.prog 94 [.obj (d'.cells a0),j aw,ai a2] [some (.obj [ak bp r.aq.a',ak a6 r.aq.bu,ak bG r.aq.ba,ai r.aq.bA,ai r.aq.bF,ak bJ r.bZ,ak a6 r.bV,ak cy r.bH,j r.cd,j r.cg,ai r.cc,j r.bU,j r.bD]),none,none] (.cB []):=by
 unfold nH at h
 refine cb.go (N:=⟨22,[0]⟩) Try.func94 q q q q (W.fin ?_)
 refine W.st [(0,.obj (d'.cells a0)),(1,j aw),(2,ai a2)] ?_
 refine W.aU [0,1,2,10] ?_
 obtain ⟨je,aa,h⟩:=ay h
 refine W.bB [(0,.obj (d'.cells je))] ?_ ?_
 ·clear h; have h:=aa; clear aa
  refine W.bw h q (λcO h=>?_) (λcO h=>?_)
  ·refine W.bm [0] (aj (O.aA (.obj q))<|aj (O.aA (.obj q))<|aj (O.aA (.obj q))<|bq q<|bq q<|aj (O.fj (.ptr q))<|aj (O.bh q (.ptr q) zh q)<|ar.dI (G2:=[(0,_),(12,.ptr ⟨0,[]⟩ 0),(13,.ptr ⟨0,[]⟩ 0),(14,_),(15,_)]) (cs2:=[ak bp a0.aq.a',ak a6 a0.aq.bu,ak bG a0.aq.ba,ai a0.aq.bA,ai a0.aq.bF,ak bJ a0.bZ,ak a6 a0.bV,ak cy a0.bH,j 3,j a0.cg,ai a0.cc,j a0.bU,j a0.bD]) q (.ptr q) (.k q) q nJ q q q q (.b q (.p q q q q q q (.p q q q q q q (.n q q (.n q q .nil)))))<|aj (O.fj (.ptr q))<|aj (O.bh q (.ptr q) zi q)<|ar.dI (G2:=[(0,_),(13,.ptr ⟨0,[]⟩ 0),(15,_)]) (cs2:=[ak bp a0.aq.a',ak a6 a0.aq.bu,ak bG a0.aq.ba,ai a0.aq.bA,ai a0.aq.bF,ak bJ a0.bZ,ak a6 a0.bV,ak cy a0.bH,j 3,j aw,ai a0.cc,j a0.bU,j a0.bD]) q (.ptr q) (.lit q) q nJ q q q q (.b q (.p q q q q q q (.n q q .nil)))<|aj (O.fj (.ptr q))<|aj (O.bh q (.ptr q) zj q)<|ar.dI (G2:=[(0,_)]) (cs2:=[ak bp a0.aq.a',ak a6 a0.aq.bu,ak bG a0.aq.ba,ai a0.aq.bA,ai a0.aq.bF,ak bJ a0.bZ,ak a6 a0.bV,ak cy a0.bH,j 3,j aw,ai a2,j a0.bU,j a0.bD]) q (.ptr q) (.lit q) q wx q q q q (.b q .nil)<|bS q) ?_
   obtain rfl:=au h
   exact af.bB (.n q .nil)
  ·refine W.bI ?_
   obtain rfl:=au h
   exact af.bB (.n q .nil)
 obtain rfl:=au h
 exact af.fin (Fin.ro .nil q (pn (by kernel_rfl)) (.aB q q (.no (.no .nil))) q (.inl q))
theorem Jz (a0:cR) (aw:ByteArray) (r:Int) (h:ye a0 aw=some r):cb Try.prog 98 [.bo ([ah bp a0.aq.a',ah a6 a0.aq.bu,ah bG a0.aq.ba,ai a0.aq.bA,ai a0.aq.bF,ah bJ a0.bZ,ah a6 a0.bV,ah cy a0.bH,j a0.cd,j a0.cg,ai a0.cc,j a0.bU,j a0.bD]),ai aw] [none,none] (j r):=by
 unfold ye at h
 refine cb.go (N:=⟨26,[]⟩) Try.func98 q q q q (W.fin ?_)
 refine W.st [(0,.bo ([ah bp a0.aq.a',ah a6 a0.aq.bu,ah bG a0.aq.ba,ai a0.aq.bA,ai a0.aq.bF,ah bJ a0.bZ,ah a6 a0.bV,ah cy a0.bH,j a0.cd,j a0.cg,ai a0.cc,j a0.bU,j a0.bD])),(1,ai aw)] ?_
 refine W.aU [0,1] ?_
 refine W.aZ<|W.aU [0,1,5] ?_
 refine W.bk ?_
 obtain ⟨x2,ao,h⟩:=ay h
 refine W.cf (G1:=[(0,_),(1,_),(5,_)]) (dq q q q) ?_
 refine W.iH (s:=0) (λ(s1:Int)=>[(0,.bo ([ah bp a0.aq.a',ah a6 a0.aq.bu,ah bG a0.aq.ba,ai a0.aq.bA,ai a0.aq.bF,ah bJ a0.bZ,ah a6 a0.bV,ah cy a0.bH,j a0.cd,j a0.cg,ai a0.cc,j a0.bU,j a0.bD])),(1,ai aw),(5,j s1)]) 0 (λ(a_:Unit)=>[]) (λ(bE:Int)=>[(4,j bE)]) ao (λs1 o h=>?_) (λa_ J=>?_) (λbE J=>?_)
 ·clear ao
  refine W.aZ<|W.aU [0,1,5,12] ?_
  refine W.bw h q (λdD h=>?_) (λdD h=>?_)
  ·refine W.bI<|af.aX ?_
   refine W.aZ<|W.bk ?_
   obtain ⟨bx,fJ,h⟩:=ay h
   refine W.aU [0,1,5,24] ?_
   refine W.bw h q (λc5 h=>?_) (λc5 h=>?_)
   ·refine W.aU [4] ?_
    refine W.rt ?_
    refine af.dv ?_
    refine af.cK ?_
    obtain rfl:=au h
    exact af.fP (.n q .nil)
   ·refine W.bI<|af.bk ?_
    refine af.aX<|W.bm [0,1,5] (bq q<|aj (O.add (.lit q) (.k q))<|ar.bm [0,1,14] q<|ar.aW) ?_
    obtain rfl:=au h
    exact af.go (dq q q q)
  ·refine W.da ?_
   refine af.c' ?_
   obtain rfl:=au h
   exact af.x2 .nil
 ·subst J
  refine af.db ?_
  refine af.aX<|W.aU [4] ?_
  refine W.rt ?_
  obtain rfl:=au h
  exact cx (.f q q .nil)
 ·subst J
  refine af.dv ?_
  refine af.cK ?_
  obtain rfl:=au h
  exact cx (.f q q .nil)
theorem EC (a0:cR) (aw:Sym) (r:Int) (h:v_ a0 aw=some r):cb Try.prog 95 [.bo ([ah bp a0.aq.a',ah a6 a0.aq.bu,ah bG a0.aq.ba,ai a0.aq.bA,ai a0.aq.bF,ah bJ a0.bZ,ah a6 a0.bV,ah cy a0.bH,j a0.cd,j a0.cg,ai a0.cc,j a0.bU,j a0.bD]),.agg (dJ.cells aw)] [none,none] (j r):=by
 unfold v_ at h
 refine cb.go (N:=⟨47,[]⟩) Try.func95 q q q q (W.fin ?_)
 refine W.st [(0,.bo ([ah bp a0.aq.a',ah a6 a0.aq.bu,ah bG a0.aq.ba,ai a0.aq.bA,ai a0.aq.bF,ah bJ a0.bZ,ah a6 a0.bV,ah cy a0.bH,j a0.cd,j a0.cg,ai a0.cc,j a0.bU,j a0.bD])),(1,.agg (dJ.cells aw))] ?_
 refine W.bY [0,3] (aj (O.box (.b' q q) q)<|ar.aW) ?_
 refine W.aZ<|W.aU [0,3,5] ?_
 refine W.bk ?_
 obtain ⟨x2,ao,h⟩:=ay h
 refine W.cf (G1:=[(0,_),(3,_),(5,_)]) (dq q q q) ?_
 refine W.iH (s:=1) (λ(s1:Int)=>[(0,.bo ([ah bp a0.aq.a',ah a6 a0.aq.bu,ah bG a0.aq.ba,ai a0.aq.bA,ai a0.aq.bF,ah bJ a0.bZ,ah a6 a0.bV,ah cy a0.bH,j a0.cd,j a0.cg,ai a0.cc,j a0.bU,j a0.bD])),(3,.obj (dJ.cells aw)),(5,j s1)]) 0 (λ(a_:Unit)=>[]) (λ(bE:Int)=>[(4,j bE)]) ao (λs1 o h=>?_) (λa_ J=>?_) (λbE J=>?_)
 ·clear ao
  refine W.aZ<|W.aU [0,3,5,13] ?_
  refine W.bw h q (λdD h=>?_) (λdD h=>?_)
  ·refine W.bI<|af.aX ?_
   refine W.aZ<|W.bk ?_
   refine W.aZ ?_
   obtain ⟨iS,aa,h⟩:=ay h
   refine W.rd [[],[0],[0,1],[0,1,2],[0,1,2,3],[],aP 0 6 [],aP 0 7 [],aP 0 8 [],[],[9],aP 0 11 [],aP 0 12 [],aP 0 13 [],aP 0 14 [],aP 0 15 [],aP 0 16 [],aP 0 17 [],aP 0 13 [],aP 0 19 [],aP 0 20 [],aP 0 21 [],aP 0 13 [],aP 0 13 [22],aP 0 24 [],aP 0 25 [],aP 0 26 [],aP 0 27 [],aP 0 28 [],aP 0 29 []] [(0,.bo ([ah bp a0.aq.a',ah a6 a0.aq.bu,ah bG a0.aq.ba,ai a0.aq.bA,ai a0.aq.bF,ah bJ a0.bZ,ah a6 a0.bV,ah cy a0.bH,j a0.cd,j a0.cg,ai a0.cc,j a0.bU,j a0.bD])),(3,.obj (dJ.cells aw)),(5,j s1),(45,a1 iS)] ez (by kernel_rfl) ?_ ?_
   ·refine av 0 (O.aA (.bo q))<|av 1 (O.Hd (.bo q))<|av 2 (O.ej (.bo q) kj)<|av 3 (O.ej (.bo q) ox)<|av 4 (O.c9 (x:=ah bp a0.aq.a') (.bo q) pR q)<|av 5 (O.aA (.lit q)) ?_
    obtain ⟨bx,fJ,aa⟩:=ay aa
    refine av 6 (O.cC (.aE q) (.lit q) qe fJ)<|av 7 (O.ej (.bo q) J1)<|av 8 (O.c9 (x:=ai bx.Name) (.bo q) e4 q)<|av 9 (O.bh q (.obj q) kB q)<|av 10 (O.cw q (.ptr q) e4 q)<|av 11 (O.ow (.lit q) (.lit q))<|av 12 (O.aA (.lit q)) ?_
    rcases cz aa with ⟨c5,aa⟩ | ⟨c5,aa⟩
    ·refine bC 13 c5 (O.aA (.bo q))<|bC 14 c5 (O.Hd (.bo q))<|bC 15 c5 (O.ej (.bo q) kj)<|bC 16 c5 (O.ej (.bo q) ox)<|bC 17 c5 (O.c9 (x:=ah bp a0.aq.a') (.bo q) pR q)<|bC 18 c5 (O.aA (.lit q)) ?_
     obtain ⟨b3,ho,aa⟩:=ay aa
     refine bC 19 c5 (O.cC (.aE q) (.lit q) qe ho)<|bC 20 c5 (O.ej (.bo q) J2)<|bC 21 c5 (O.c9 (x:=a1 b3.Lit) (.bo q) ns q)<|bC 22 c5 (O.bh q (.obj q) u7 q)<|bC 23 c5 (O.cw q (.ptr q) ns q)<|bC 24 c5 (O.PH (.lit q) (.lit q) IX)<|av 25 (O.dS (.lit q) c5 (.lit q))<|av 26 (O.aA (.lit q)) ?_
     rcases cz aa with ⟨dp,aa⟩ | ⟨dp,aa⟩
     ·obtain rfl:=au aa
      exact bC 27 dp (O.aA (.lit q))<|bC 28 dp (O.neq (.lit q) (.k q))<|av 29 (O.dS (.lit q) dp (.lit q))<|bL.fin q q q (dA q q q q)
     ·obtain rfl:=au aa
      exact bs 27 dp<|bs 28 dp<|av 29 (O.cZ (.lit q) dp (.k q))<|bL.fin q q q (dA q q q q)
    ·obtain rfl:=au aa
     exact bs 13 c5<|bs 14 c5<|bs 15 c5<|bs 16 c5<|bs 17 c5<|bs 18 c5<|bs 19 c5<|bs 20 c5<|bs 21 c5<|bs 22 c5<|bs 23 c5<|bs 24 c5<|av 25 (O.cZ (.lit q) c5 (.k q))<|av 26 (O.aA (.lit q))<|bs 27 q<|bs 28 q<|av 29 (O.cZ (.lit q) q (.k q))<|bL.fin q q q (dA q q q q)
   refine af.aX<|W.bw h q (λfh h=>?_) (λfh h=>?_)
   ·refine W.aU [4] ?_
    refine W.rt ?_
    refine af.dv ?_
    refine af.cK ?_
    obtain rfl:=au h
    exact af.fP (.n q .nil)
   ·refine W.bI<|af.bk ?_
    refine af.aX<|W.bm [0,3,5] (bq q<|aj (O.add (.lit q) (.k q))<|ar.bm [0,3,15] q<|ar.aW) ?_
    obtain rfl:=au h
    exact af.go (dq q q q)
  ·refine W.da ?_
   refine af.c' ?_
   obtain rfl:=au h
   exact af.x2 .nil
 ·subst J
  refine af.db ?_
  refine af.aX<|W.aU [4] ?_
  refine W.rt ?_
  obtain rfl:=au h
  exact cx (.f q q .nil)
 ·subst J
  refine af.dv ?_
  refine af.cK ?_
  obtain rfl:=au h
  exact cx (.f q q .nil)
theorem Ji (a0:cR) (aw:Int) (r:Int) (h:x3 a0 aw=some r):cb Try.prog 114 [.bo ([ah bp a0.aq.a',ah a6 a0.aq.bu,ah bG a0.aq.ba,ai a0.aq.bA,ai a0.aq.bF,ah bJ a0.bZ,ah a6 a0.bV,ah cy a0.bH,j a0.cd,j a0.cg,ai a0.cc,j a0.bU,j a0.bD]),j aw] [none,none] (j r):=by
 unfold x3 at h
 refine cb.go (N:=⟨28,[]⟩) Try.func114 q q q q (W.fin ?_)
 refine W.st [(0,.bo ([ah bp a0.aq.a',ah a6 a0.aq.bu,ah bG a0.aq.ba,ai a0.aq.bA,ai a0.aq.bF,ah bJ a0.bZ,ah a6 a0.bV,ah cy a0.bH,j a0.cd,j a0.cg,ai a0.cc,j a0.bU,j a0.bD])),(1,j aw)] ?_
 refine W.aU [0,1] ?_
 refine W.aZ<|W.aU [0,1,5] ?_
 refine W.bk ?_
 obtain ⟨x2,ao,h⟩:=ay h
 refine W.cf (G1:=[(0,_),(1,_),(5,_)]) (dq q q q) ?_
 refine W.iH (s:=3) (λ(s1:Int)=>[(0,.bo ([ah bp a0.aq.a',ah a6 a0.aq.bu,ah bG a0.aq.ba,ai a0.aq.bA,ai a0.aq.bF,ah bJ a0.bZ,ah a6 a0.bV,ah cy a0.bH,j a0.cd,j a0.cg,ai a0.cc,j a0.bU,j a0.bD])),(1,j aw),(5,j s1)]) 0 (λ(a_:Unit)=>[]) (λ(bE:Int)=>[(4,j bE)]) ao (λs1 o h=>?_) (λa_ J=>?_) (λbE J=>?_)
 ·clear ao
  refine W.aZ<|W.aU [0,1,5,13] ?_
  refine W.bw h q (λdD h=>?_) (λdD h=>?_)
  ·refine W.bI<|af.aX ?_
   refine W.aZ<|W.bk ?_
   obtain ⟨bx,fJ,h⟩:=ay h
   refine W.aU [0,1,5,26] ?_
   refine W.bw h q (λc5 h=>?_) (λc5 h=>?_)
   ·refine W.aU [4] ?_
    refine W.rt ?_
    refine af.dv ?_
    refine af.cK ?_
    obtain rfl:=au h
    exact af.fP (.n q .nil)
   ·refine W.bI<|af.bk ?_
    refine af.aX<|W.bm [0,1,5] (bq q<|aj (O.add (.lit q) (.k q))<|ar.bm [0,1,15] q<|ar.aW) ?_
    obtain rfl:=au h
    exact af.go (dq q q q)
  ·refine W.da ?_
   refine af.c' ?_
   obtain rfl:=au h
   exact af.x2 .nil
 ·subst J
  refine af.db ?_
  refine af.aX<|W.aU [4] ?_
  refine W.rt ?_
  obtain rfl:=au h
  exact cx (.f q q .nil)
 ·subst J
  refine af.dv ?_
  refine af.cK ?_
  obtain rfl:=au h
  exact cx (.f q q .nil)
theorem Jh (a0:cR) (aw:Sym) (r:Int × cR) (h:x1 a0 aw=some r):cb Try.prog 113 [.obj (d'.cells a0),.agg (dJ.cells aw)] [some (.obj [ak bp r.2.aq.a',ak a6 r.2.aq.bu,ak bG r.2.aq.ba,ai r.2.aq.bA,ai r.2.aq.bF,ak bJ r.2.bZ,ak a6 r.2.bV,ak cy r.2.bH,j r.2.cd,j r.2.cg,ai r.2.cc,j r.2.bU,j r.2.bD]),none] (j r.1):=by
 unfold x1 at h
 refine cb.go (N:=⟨66,[0]⟩) Try.func113 q q q q (W.fin ?_)
 refine W.st [(0,.obj (d'.cells a0)),(1,.agg (dJ.cells aw))] ?_
 refine W.bY [0,3] (aj (O.box (.b' q q) q)<|ar.aW) ?_
 obtain ⟨aF,fI,h⟩:=ay h
 refine W.bY [0,3,5] (aj (O.aA (.obj q))<|aj (O.dW (cs':=[ai aw.Name,a1 aw.Lit,j aw.c7,j aw.At]) q (.obj q) lW q q)<|ee (cu.vw (ys:=[.ptr ⟨0,[]⟩ 0,.agg (dJ.cells aw)]) q (.c (View.n9 q q) (.c (.yP (.s (.s (.s (.s .nil))))) .nil)) (EC a0 aw _ fI) call95 q)<|ar.aW) ?_
 refine W.aZ<|W.aU [0,3,5,11] ?_
 refine W.bw h q (λcO h=>?_) (λcO h=>?_)
 ·refine W.aU [0,4] ?_
  refine W.rt ?_
  refine af.cK ?_
  obtain rfl:=au h
  exact af.fin (Fin.ro (.f q q .nil) q (pn (by kernel_rfl)) (.aB q q (.no .nil)) q (.inr q))
 ·refine W.bI<|af.aX ?_
  refine W.bY [0,3,6] (aj (O.bh q (.obj q) kB q)<|aj (O.cw q (.ptr q) e4 q)<|aj (O.bh q (.obj q) u7 q)<|aj (O.cw q (.ptr q) ns q)<|aj (O.dR (cs:=[ai aw.Name,a1 aw.Lit,j 0,j 0,j 0,ai aC]) DA wD q q q)<|aj (O.fL (cs:=[ai aC,a1 false,j 0,j 0,j 0,ai aC]) wD q q)<|ar.dI (G2:=[(0,_),(3,_),(6,_)]) (cs2:=[ai aw.Name,a1 aw.Lit,j 0,j 0,j 0,ai aC]) q (.obj q) (.b' q q) q HP q q q q (.n q q (.n q q (.b q .nil)))<|bS q) ?_
  refine W.aZ<|W.aU [0,3,6,19] ?_
  obtain ⟨dG,aa,h⟩:=ay h
  refine W.bB [(0,.obj (d'.cells dG.1)),(3,.obj (dJ.cells aw)),(6,.obj [ai aw.Name,a1 aw.Lit,j dG.2,j 0,j 0,ai aC])] ?_ ?_
  ·clear h; have h:=aa; clear aa
   refine W.bw h q (λdd h=>?_) (λdd h=>?_)
   ·obtain ⟨cq,lP,h⟩:=ay h
    refine W.bY [0,3,6] (aj (O.bh q (.obj q) kB q)<|aj (O.cw q (.ptr q) e4 q)<|aj (O.qq (.lit q) (.k q) kc lP)<|aj (O.Ci (.lit q) GI GH)<|aj (O.bh q (.obj q) zq q)<|ar.dI (G2:=[(0,_),(3,_),(6,_)]) (cs2:=[ai aw.Name,a1 aw.Lit,j (aQ cq),j 0,j 0,ai aC]) q (.ptr q) (.lit q) q nJ q q q q (.n q q (.n q q (.b q .nil)))<|bS q) ?_
    obtain ⟨bx,fJ,h⟩:=ay h
    refine W.bY [0,3,6,29] (aj (O.aA (.obj q))<|aj (O.bh q (.obj q) zq q)<|aj (O.cw q (.ptr q) cr q)<|ee (cu.vw (ys:=[.ptr ⟨0,[]⟩ 0,j (aQ cq)]) q (.c (View.n9 q q) (.s .nil)) (Ji a0 (aQ cq) _ fJ) call114 q)<|ar.aW) ?_
    obtain ⟨n3,aa,h⟩:=ay h
    refine W.bB [(0,.obj (d'.cells n3)),(3,.obj (dJ.cells aw)),(6,.obj [ai aw.Name,a1 aw.Lit,j (aQ cq),j 0,j 0,ai aC])] ?_ ?_
    ·clear h; have h:=aa; clear aa
     refine W.bw h q (λc6 h=>?_) (λc6 h=>?_)
     ·obtain ⟨cF,jP,h⟩:=ay h
      refine W.bm [0,3,6] (aj (O.aA (.obj q))<|aj (O.bh q (.obj q) rD q)<|aj (O.cw q (.ptr q) cr q)<|aj (O.bh q (.obj q) kB q)<|aj (O.cw q (.ptr q) e4 q)<|ar.iT q (cj.call q q (hV.nG (G2:=[(3,.obj (dJ.cells aw)),(6,.obj [ai aw.Name,a1 aw.Lit,j (aQ cq),j 0,j 0,ai aC])]) (A:=[]) (ys:=[.ptr ⟨0,[]⟩ 0,j aw.At,ai aw.Name]) (args:=[.obj (d'.cells a0),j aw.At,ai aw.Name]) (cs':=[ak bp cF.aq.a',ak a6 cF.aq.bu,ak bG cF.aq.ba,ai cF.aq.bA,ai cF.aq.bF,ak bJ cF.bZ,ak a6 cF.bV,ak cy cF.bH,j cF.cd,j cF.cg,ai cF.cc,j cF.bU,j cF.bD]) (k0:=0) q q q q (.b q (.n q (.n q .nil))) q (uZ a0 aw.At aw.Name _ jP) call94 (fG q q) q q (fG q q) .nil q))<|bS q) ?_
      obtain rfl:=au h
      exact af.bB (dq q q q)
     ·refine W.bI ?_
      obtain rfl:=au h
      exact af.bB (dq q q q)
    obtain rfl:=au h
    exact af.bB (dq q q q)
   ·refine W.bI ?_
    obtain rfl:=au h
    exact af.bB (dq q q q)
  refine af.aX<|W.aZ ?_
  obtain ⟨bQ,jJ,h⟩:=ay h
  refine W.rd [[],[],[1],[1,2],[1,2,3],[1,2,3,4],[],[6],aP 1 7 [],aP 0 9 [],aP 0 10 [],aP 0 11 [],aP 0 12 []] [(0,_),(3,_)] ez (by kernel_rfl) (av 0 (O.aA (.obj q))<|av 1 (O.aA (.obj q))<|av 2 (O.fj (.ptr q))<|av 3 (O.bh q (.ptr q) kj q)<|av 4 (O.bh q (.ptr q) ox q)<|av 5 (O.dm (y:=.bn bp.z ⟨0,[0]⟩ dG.1.aq.a'.length) q (.ptr q) pR q q)<|av 6 (O.dW (cs':=[ai aw.Name,a1 aw.Lit,j dG.2,j 0,j 0,ai aC]) q (.obj q) D' q q)<|bL.fC 7 (x:=ah bp [(⟨aw.Name,aw.Lit,dG.2,0,0,aC⟩:b5)]) (O.dz (ys:=[.agg [ai aw.Name,a1 aw.Lit,j dG.2,j 0,j 0,ai aC]]) bp [(⟨aw.Name,aw.Lit,dG.2,0,0,aC⟩:b5)] qe q q q q q q Nk q q) q q q q .none<|av 8 (O.ap (en:=bp) (r:=bQ) (.bn q) q (.aE q) .i NT q jJ)<|av 9 (O.fj (.ptr q))<|av 10 (O.bh q (.ptr q) kj q)<|av 11 (O.bh q (.ptr q) ox q)<|bL.jG 12 (G2:=[(0,.obj [ak bp (dG.1.aq.a'++[(⟨aw.Name,aw.Lit,dG.2,0,0,aC⟩:b5)]),ak a6 dG.1.aq.bu,ak bG dG.1.aq.ba,ai dG.1.aq.bA,ai dG.1.aq.bF,ak bJ dG.1.bZ,ak a6 dG.1.bV,ak cy dG.1.bH,j dG.1.cd,j dG.1.cg,ai dG.1.cc,j dG.1.bU,j dG.1.bD]),(3,.obj (dJ.cells aw))]) (cj.nn (g1:=_) (en:=bp) (M:=[(⟨aw.Name,aw.Lit,dG.2,0,0,aC⟩:b5)]) (cs2:=[ak bp (dG.1.aq.a'++[(⟨aw.Name,aw.Lit,dG.2,0,0,aC⟩:b5)]),ak a6 dG.1.aq.bu,ak bG dG.1.aq.ba,ai dG.1.aq.bA,ai dG.1.aq.bF,ak bJ dG.1.bZ,ak a6 dG.1.bV,ak cy dG.1.bH,j dG.1.cd,j dG.1.cg,ai dG.1.cc,j dG.1.bU,j dG.1.bD]) q q (.ptr q) (.bX q) q q q .j8 .gR q q MM q q q q (.b q (.n q q .nil))) q q q q (by kernel_rfl) (by kernel_rfl)<|bL.fin q q q (fG q q)) ?_
  refine af.aX<|W.aZ ?_
  obtain ⟨b1,hn,h⟩:=ay h
  refine W.rd [[],[],[1],[1,2],[1,2,3],[],[5],[5,6],aP 1 7 [],aP 0 9 [],aP 0 10 [],aP 0 11 []] [(0,_)] ez (by kernel_rfl) (av 0 (O.aA (.obj q))<|av 1 (O.aA (.obj q))<|av 2 (O.fj (.ptr q))<|av 3 (O.bh q (.ptr q) xi q)<|av 4 (O.dm (y:=.bn bJ.z ⟨0,[5]⟩ dG.1.bZ.length) q (.ptr q) y4 q q)<|av 5 (O.bh q (.obj q) u7 q)<|av 6 (O.cw q (.ptr q) ns q)<|bL.fC 7 (x:=ah bJ [aw.Lit]) (O.dz (ys:=[a1 aw.Lit]) bJ [aw.Lit] oN q q q q q q U6 q q) q q q q .none<|av 8 (O.ap (en:=bJ) (r:=b1) (.bn q) q (.aE q) .i NN q hn)<|av 9 (O.fj (.ptr q))<|av 10 (O.bh q (.ptr q) xi q)<|bL.jG 11 (G2:=[(0,.obj [ak bp (dG.1.aq.a'++[(⟨aw.Name,aw.Lit,dG.2,0,0,aC⟩:b5)]),ak a6 dG.1.aq.bu,ak bG dG.1.aq.ba,ai dG.1.aq.bA,ai dG.1.aq.bF,ak bJ (dG.1.bZ++[aw.Lit]),ak a6 dG.1.bV,ak cy dG.1.bH,j dG.1.cd,j dG.1.cg,ai dG.1.cc,j dG.1.bU,j dG.1.bD])]) (cj.nn (g1:=_) (en:=bJ) (M:=[aw.Lit]) (cs2:=[ak bp (dG.1.aq.a'++[(⟨aw.Name,aw.Lit,dG.2,0,0,aC⟩:b5)]),ak a6 dG.1.aq.bu,ak bG dG.1.aq.ba,ai dG.1.aq.bA,ai dG.1.aq.bF,ak bJ (dG.1.bZ++[aw.Lit]),ak a6 dG.1.bV,ak cy dG.1.bH,j dG.1.cd,j dG.1.cg,ai dG.1.cc,j dG.1.bU,j dG.1.bD]) q q (.ptr q) (.bX q) q q q .j8 .gR q q Un q q q q (.b q .nil)) q q q q (by kernel_rfl) (by kernel_rfl)<|bL.fin q q q (.n q .nil)) ?_
  refine af.aX<|W.aU [0,4] ?_
  refine W.rt ?_
  obtain rfl:=au h
  exact af.fin (Fin.ro (.f q q .nil) q (pn (by kernel_rfl)) (.aB q q (.no .nil)) q (.inr q))
theorem ED (v:Value) (a0:cR) (aw:Int) (a2:ByteArray) (r:cR) (h:nH a0 aw a2=some r):cb Try.prog 94 [.obj [.lit v,ak a6 a0.aq.bu,ak bG a0.aq.ba,ai a0.aq.bA,ai a0.aq.bF,ak bJ a0.bZ,ak a6 a0.bV,ak cy a0.bH,j a0.cd,j a0.cg,ai a0.cc,j a0.bU,j a0.bD],j aw,ai a2] [some (.obj [.lit v,ak a6 r.aq.bu,ak bG r.aq.ba,ai r.aq.bA,ai r.aq.bF,ak bJ r.bZ,ak a6 r.bV,ak cy r.bH,j r.cd,j r.cg,ai r.cc,j r.bU,j r.bD]),none,none] (.cB []):=by
 unfold nH at h
 refine cb.go (N:=⟨22,[0]⟩) Try.func94 q q q q (W.fin ?_)
 refine W.st [(0,.obj [.lit v,ak a6 a0.aq.bu,ak bG a0.aq.ba,ai a0.aq.bA,ai a0.aq.bF,ak bJ a0.bZ,ak a6 a0.bV,ak cy a0.bH,j a0.cd,j a0.cg,ai a0.cc,j a0.bU,j a0.bD]),(1,j aw),(2,ai a2)] ?_
 refine W.aU [0,1,2,10] ?_
 obtain ⟨je,aa,h⟩:=ay h
 refine W.bB [(0,.obj [.lit v,ak a6 je.aq.bu,ak bG je.aq.ba,ai je.aq.bA,ai je.aq.bF,ak bJ je.bZ,ak a6 je.bV,ak cy je.bH,j je.cd,j je.cg,ai je.cc,j je.bU,j je.bD])] ?_ ?_
 ·clear h; have h:=aa; clear aa
  refine W.bw h q (λcO h=>?_) (λcO h=>?_)
  ·refine W.bm [0] (aj (O.aA (.obj q))<|aj (O.aA (.obj q))<|aj (O.aA (.obj q))<|bq q<|bq q<|aj (O.fj (.ptr q))<|aj (O.bh q (.ptr q) zh q)<|ar.dI (G2:=[(0,_),(12,.ptr ⟨0,[]⟩ 0),(13,.ptr ⟨0,[]⟩ 0),(14,_),(15,_)]) (cs2:=[.lit v,ak a6 a0.aq.bu,ak bG a0.aq.ba,ai a0.aq.bA,ai a0.aq.bF,ak bJ a0.bZ,ak a6 a0.bV,ak cy a0.bH,j 3,j a0.cg,ai a0.cc,j a0.bU,j a0.bD]) q (.ptr q) (.k q) q nJ q q q q (.b q (.p q q q q q q (.p q q q q q q (.n q q (.n q q .nil)))))<|aj (O.fj (.ptr q))<|aj (O.bh q (.ptr q) zi q)<|ar.dI (G2:=[(0,_),(13,.ptr ⟨0,[]⟩ 0),(15,_)]) (cs2:=[.lit v,ak a6 a0.aq.bu,ak bG a0.aq.ba,ai a0.aq.bA,ai a0.aq.bF,ak bJ a0.bZ,ak a6 a0.bV,ak cy a0.bH,j 3,j aw,ai a0.cc,j a0.bU,j a0.bD]) q (.ptr q) (.lit q) q nJ q q q q (.b q (.p q q q q q q (.n q q .nil)))<|aj (O.fj (.ptr q))<|aj (O.bh q (.ptr q) zj q)<|ar.dI (G2:=[(0,_)]) (cs2:=[.lit v,ak a6 a0.aq.bu,ak bG a0.aq.ba,ai a0.aq.bA,ai a0.aq.bF,ak bJ a0.bZ,ak a6 a0.bV,ak cy a0.bH,j 3,j aw,ai a2,j a0.bU,j a0.bD]) q (.ptr q) (.lit q) q wx q q q q (.b q .nil)<|bS q) ?_
   obtain rfl:=au h
   exact af.bB (.n q .nil)
  ·refine W.bI ?_
   obtain rfl:=au h
   exact af.bB (.n q .nil)
 obtain rfl:=au h
 exact af.fin (Fin.ro .nil q (pn (by kernel_rfl)) (.aB q q (.no (.no .nil))) q (.inl q))
theorem Pk (a0:cR) (aw:Decl) (a2:Sym) (r:cR) (h:Bi a0 aw a2=some r):cb Try.prog 93 [.obj (d'.cells a0),.agg (de.cells aw),.agg (dJ.cells a2)] [some (.obj [ak bp r.aq.a',ak a6 r.aq.bu,ak bG r.aq.ba,ai r.aq.bA,ai r.aq.bF,ak bJ r.bZ,ak a6 r.bV,ak cy r.bH,j r.cd,j r.cg,ai r.cc,j r.bU,j r.bD]),none,none] (.cB []):=by
 unfold Bi at h
 refine cb.go (N:=⟨152,[0]⟩) Try.func93 q q q q (W.fin ?_)
 refine W.st [(0,.obj (d'.cells a0)),(1,.agg (de.cells aw)),(2,.agg (dJ.cells a2))] ?_
 refine W.bY [0,4,5] (aj (O.box (.b' q q) q)<|aj (O.box (.b' q q) q)<|bS q) ?_
 refine W.aZ<|W.aU [0,4,5,11] ?_
 refine W.bw h q (λdg h=>?_) (λdg h=>?_)
 ·obtain ⟨x2,hZ,h⟩:=ay h
  refine W.bY [0,4,5,6] (aj (O.aA (.obj q))<|aj (O.bh q (.obj q) kB q)<|aj (O.cw q (.ptr q) e4 q)<|ee (cu.vw (ys:=[.ptr ⟨0,[]⟩ 0,ai a2.Name]) q (.c (View.n9 q q) (.s .nil)) (Jz a0 a2.Name _ hZ) call98 q)<|ar.aW) ?_
  refine W.aZ<|W.aU [0,4,5,6,17] ?_
  obtain ⟨dG,aa,h⟩:=ay h
  refine W.bB [(0,.obj (d'.cells dG))] ?_ ?_
  ·clear h; have h:=aa; clear aa
   refine W.bw h q (λdd h=>?_) (λdd h=>?_)
   ·obtain ⟨cq,lP,h⟩:=ay h
    refine W.rd [[],[],[1],[1,2],[1,2,3],[],[5],[],[7],[5,6,7,8],aP 5 5 [],aP 1 10 [],aP 0 12 [],aP 0 13 [],aP 0 14 []] [(0,_)] ez (by kernel_rfl) (av 0 (O.aA (.obj q))<|av 1 (O.aA (.obj q))<|av 2 (O.fj (.ptr q))<|av 3 (O.bh q (.ptr q) zg q)<|av 4 (O.dm (y:=.bn a6.z ⟨0,[6]⟩ a0.bV.length) q (.ptr q) sg q q)<|av 5 (O.bh q (.obj q) kB q)<|av 6 (O.cw q (.ptr q) e4 q)<|av 7 (O.bh q (.obj q) nS q)<|av 8 (O.cw q (.ptr q) e4 q)<|av 9 (O.dR (cs:=[ai a2.Name,ai aw.Tag]) Dz BK q q q)<|bL.fC 10 (x:=ah a6 [(⟨a2.Name,aw.Tag⟩:e2)]) (O.dz (ys:=[.agg [ai a2.Name,ai aw.Tag]]) a6 [(⟨a2.Name,aw.Tag⟩:e2)] rU q q q q q q DR q q) q q q q .none<|av 11 (O.ap (en:=a6) (r:=cq) (.bn q) q (.aE q) .i D5 q lP)<|av 12 (O.fj (.ptr q))<|av 13 (O.bh q (.ptr q) zg q)<|bL.jG 14 (G2:=[(0,.obj [ak bp a0.aq.a',ak a6 a0.aq.bu,ak bG a0.aq.ba,ai a0.aq.bA,ai a0.aq.bF,ak bJ a0.bZ,ak a6 (a0.bV++[(⟨a2.Name,aw.Tag⟩:e2)]),ak cy a0.bH,j a0.cd,j a0.cg,ai a0.cc,j a0.bU,j a0.bD])]) (cj.nn (g1:=_) (en:=a6) (M:=[(⟨a2.Name,aw.Tag⟩:e2)]) (cs2:=[ak bp a0.aq.a',ak a6 a0.aq.bu,ak bG a0.aq.ba,ai a0.aq.bA,ai a0.aq.bF,ak bJ a0.bZ,ak a6 (a0.bV++[(⟨a2.Name,aw.Tag⟩:e2)]),ak cy a0.bH,j a0.cd,j a0.cg,ai a0.cc,j a0.bU,j a0.bD]) q q (.ptr q) (.bX q) q q q .j8 .gR q q DE q q q q (.b q .nil)) q q q q (by kernel_rfl) (by kernel_rfl)<|bL.fin q q q (.n q .nil)) ?_
    obtain rfl:=au h
    exact af.bB (.n q .nil)
   ·refine W.aZ ?_
    obtain ⟨bx,fJ,h⟩:=ay h
    refine W.rd [[],[0],[0,1],[0,1,2],[],aP 0 5 [],aP 0 6 [],aP 0 7 [],[],[8],aP 0 10 []] [(0,_),(5,_),(42,_)] ez (by kernel_rfl) (av 0 (O.aA (.obj q))<|av 1 (O.fj (.ptr q))<|av 2 (O.bh q (.ptr q) zg q)<|av 3 (O.dm (y:=.bn a6.z ⟨0,[6]⟩ a0.bV.length) q (.ptr q) sg q q)<|av 4 (O.aA (.lit q))<|av 5 (O.gX (en:=a6) q (.bn q) (.lit q) rU fJ q)<|av 6 (O.ki (en:=a6) q (.ptr q) Cp fJ q q)<|av 7 (O.jv (en:=a6) (x':=ai bx.Tag) q (.ptr q) e4 fJ q q)<|av 8 (O.bh q (.obj q) nS q)<|av 9 (O.cw q (.ptr q) e4 q)<|av 10 (O.l8 (.lit q) (.lit q))<|bL.fin q q q (dq q q q)) ?_
    refine af.aX ?_
    obtain ⟨n3,aa,h⟩:=ay h
    refine W.bB [(0,.obj (d'.cells n3))] ?_ ?_
    ·clear h; have h:=aa; clear aa
     refine W.bw h q (λc6 h=>?_) (λc6 h=>?_)
     ·obtain ⟨cF,jP,h⟩:=ay h
      refine W.bm [0] (aj (O.aA (.obj q))<|aj (O.bh q (.obj q) rD q)<|aj (O.cw q (.ptr q) cr q)<|aj (O.bh q (.obj q) kB q)<|aj (O.cw q (.ptr q) e4 q)<|ar.iT q (cj.call q q (hV.nG (G2:=[]) (A:=[]) (ys:=[.ptr ⟨0,[]⟩ 0,j a2.At,ai a2.Name]) (args:=[.obj (d'.cells a0),j a2.At,ai a2.Name]) (cs':=[ak bp cF.aq.a',ak a6 cF.aq.bu,ak bG cF.aq.ba,ai cF.aq.bA,ai cF.aq.bF,ak bJ cF.bZ,ak a6 cF.bV,ak cy cF.bH,j cF.cd,j cF.cg,ai cF.cc,j cF.bU,j cF.bD]) (k0:=0) q q q q (.b q (.n q (.n q .nil))) q (uZ a0 a2.At a2.Name _ jP) call94 .nil q q .nil .nil q))<|bS q) ?_
      obtain rfl:=au h
      exact af.bB (.n q .nil)
     ·refine W.bI ?_
      obtain rfl:=au h
      exact af.bB (.n q .nil)
    obtain rfl:=au h
    exact af.bB (.n q .nil)
  refine af.aX<|W.rt ?_
  refine af.cK ?_
  obtain rfl:=au h
  exact af.fin (Fin.ro .nil q (pn (by kernel_rfl)) (.aB q q (.no (.no .nil))) q (.inr q))
 ·refine W.bI<|af.aX ?_
  obtain ⟨bQ,jJ,h⟩:=ay h
  refine W.bY [0,4,5,7] (aj (O.aA (.obj q))<|aj (O.dW (cs':=[ai a2.Name,a1 a2.Lit,j a2.c7,j a2.At]) q (.obj q) lW q q)<|ar.iT q (cj.call q q (hV.nG (G2:=[(4,.obj (de.cells aw)),(5,.obj (dJ.cells a2))]) (A:=[]) (ys:=[.ptr ⟨0,[]⟩ 0,.agg (dJ.cells a2)]) (args:=[.obj (d'.cells a0),.agg (dJ.cells a2)]) (cs':=[ak bp bQ.2.aq.a',ak a6 bQ.2.aq.bu,ak bG bQ.2.aq.ba,ai bQ.2.aq.bA,ai bQ.2.aq.bF,ak bJ bQ.2.bZ,ak a6 bQ.2.bV,ak cy bQ.2.bH,j bQ.2.cd,j bQ.2.cg,ai bQ.2.cc,j bQ.2.bU,j bQ.2.bD]) (k0:=0) q q q q (.b q (.n q .nil)) q (Jh a0 a2 _ jJ) call113 (fG q q) q q (fG q q) .nil q))<|ar.aW) ?_
  obtain ⟨b1,hn,h⟩:=ay h
  refine W.rs [(0,_),(4,_),(5,_),(7,_),(8,.ptr ⟨0,[0]⟩ (bQ.1.toNat * bp.z+0))] (aj (O.aA (.obj q))<|aj (O.fj (.ptr q))<|aj (O.bh q (.ptr q) kj q)<|aj (O.bh q (.ptr q) ox q)<|aj (O.dm (y:=.bn bp.z ⟨0,[0]⟩ bQ.2.aq.a'.length) q (.ptr q) pR q q)<|bq q<|aj (O.gX (en:=bp) q (.bn q) (.lit q) qe hn q)<|aj (O.dO (.ptr q))<|nL (.n q (.n q (.n q (.n q (.r q (e3.el (en:=bp) q hn q) jS .nil)))))) ?_
  refine W.aZ<|W.rs [(0,_),(4,_),(5,_),(7,_),(8,.ptr ⟨0,[0]⟩ (bQ.1.toNat * bp.z+0)),(61,_)] (aj (O.bh q (.obj q) o7 q)<|aj (O.cw q (.ptr q) cr q)<|aj (O.neq (.lit q) (.k q))<|nL (.n q (.n q (.n q (.n q (.r q (e3.el (en:=bp) q hn q) jS (.n q .nil))))))) ?_
  obtain ⟨fr,aa,h⟩:=ay h
  refine W.bB [(0,.obj (d'.cells fr)),(4,.obj (de.cells aw)),(5,.obj (dJ.cells a2)),(7,j bQ.1),(8,.ptr ⟨0,[0]⟩ (bQ.1.toNat * bp.z+0))] ?_ ?_
  ·clear h; have h:=aa; clear aa
   refine W.bw h q (λhc h=>?_) (λhc h=>?_)
   ·refine W.aZ<|W.rs [(0,_),(4,_),(5,_),(7,_),(8,.ptr ⟨0,[0]⟩ (bQ.1.toNat * bp.z+0)),(66,_)] (aj (O.aA (.ptr q))<|aj (O.fj (.ptr q))<|aj (O.ki (en:=bp) q (.ptr q) Cq hn q q)<|aj (O.jv (en:=bp) (x':=j b1.Level) q (.ptr q) cr hn q q)<|aj (O.gtr (.lit q) (.k q))<|nL (.n q (.n q (.n q (.n q (.r q (e3.el (en:=bp) q hn q) jS (.n q .nil))))))) ?_
    obtain ⟨dr,aa,h⟩:=ay h
    refine W.bB [(0,.obj (d'.cells dr)),(4,.obj (de.cells aw)),(5,.obj (dJ.cells a2)),(7,j bQ.1),(8,.ptr ⟨0,[0]⟩ (bQ.1.toNat * bp.z+0))] ?_ ?_
    ·clear h; have h:=aa; clear aa
     refine W.bw h q (λqG h=>?_) (λqG h=>?_)
     ·obtain ⟨ck,k6,h⟩:=ay h
      refine W.rx [(0,_),(4,_),(5,_),(7,_),(8,.ptr ⟨0,[0]⟩ (bQ.1.toNat * bp.z+0))] (aj (O.aA (.obj q))<|aj (O.bh q (.obj q) rD q)<|aj (O.cw q (.ptr q) cr q)<|aj (O.bh q (.obj q) kB q)<|aj (O.cw q (.ptr q) e4 q)<|ar.iT (G2:=[(8,.ptr ⟨0,[0]⟩ (bQ.1.toNat * bp.z+0))]++[(72,.cB []),(0,.obj [ak bp bQ.2.aq.a',ak a6 ck.aq.bu,ak bG ck.aq.ba,ai ck.aq.bA,ai ck.aq.bF,ak bJ ck.bZ,ak a6 ck.bV,ak cy ck.bH,j ck.cd,j ck.cg,ai ck.cc,j ck.bU,j ck.bD]),(4,.obj (de.cells aw)),(5,.obj (dJ.cells a2)),(7,j bQ.1)]) q (cj.fE (r:=0) (k0:=0) (y:=ak bp bQ.2.aq.a') (cs5:=[ak bp bQ.2.aq.a',ak a6 ck.aq.bu,ak bG ck.aq.ba,ai ck.aq.bA,ai ck.aq.bF,ak bJ ck.bZ,ak a6 ck.bV,ak cy ck.bH,j ck.cd,j ck.cg,ai ck.cc,j ck.bU,j ck.bD]) (G1:=λv=>[(0,.obj [.lit v,ak a6 bQ.2.aq.bu,ak bG bQ.2.aq.ba,ai bQ.2.aq.bA,ai bQ.2.aq.bF,ak bJ bQ.2.bZ,ak a6 bQ.2.bV,ak cy bQ.2.bH,j bQ.2.cd,j bQ.2.cg,ai bQ.2.cc,j bQ.2.bU,j bQ.2.bD]),(4,.obj (de.cells aw)),(5,.obj (dJ.cells a2)),(7,j bQ.1),(67,.ptr ⟨0,[]⟩ 0),(69,j a2.At),(71,ai a2.Name)]) (G4:=λv=>[(72,.cB []),(0,.obj [.lit v,ak a6 ck.aq.bu,ak bG ck.aq.ba,ai ck.aq.bA,ai ck.aq.bF,ak bJ ck.bZ,ak a6 ck.bV,ak cy ck.bH,j ck.cd,j ck.cg,ai ck.cc,j ck.bU,j ck.bD]),(4,.obj (de.cells aw)),(5,.obj (dJ.cells a2)),(7,j bQ.1)]) (c4:=λv=>[.lit v,ak a6 ck.aq.bu,ak bG ck.aq.ba,ai ck.aq.bA,ai ck.aq.bF,ak bJ ck.bZ,ak a6 ck.bV,ak cy ck.bH,j ck.cd,j ck.cg,ai ck.cc,j ck.bU,j ck.bD]) (G5:=[(72,.cB []),(0,.obj [ak bp bQ.2.aq.a',ak a6 ck.aq.bu,ak bG ck.aq.ba,ai ck.aq.bA,ai ck.aq.bF,ak bJ ck.bZ,ak a6 ck.bV,ak cy ck.bH,j ck.cd,j ck.cg,ai ck.cc,j ck.bU,j ck.bD]),(4,.obj (de.cells aw)),(5,.obj (dJ.cells a2)),(7,j bQ.1)]) (A:=[(8,.ptr ⟨0,[0]⟩ (bQ.1.toNat * bp.z+0))]) q q q q (λv=>(.b q (.n q q (.n q q (.n q q (.p q q q q q q (.n q q (.n q q .nil)))))))) (λv=>hV.nG (G2:=[(4,.obj (de.cells aw)),(5,.obj (dJ.cells a2)),(7,j bQ.1)]) (A:=[]) (ys:=[.ptr ⟨0,[]⟩ 0,j a2.At,ai a2.Name]) (args:=[.obj [.lit v,ak a6 bQ.2.aq.bu,ak bG bQ.2.aq.ba,ai bQ.2.aq.bA,ai bQ.2.aq.bF,ak bJ bQ.2.bZ,ak a6 bQ.2.bV,ak cy bQ.2.bH,j bQ.2.cd,j bQ.2.cg,ai bQ.2.cc,j bQ.2.bU,j bQ.2.bD],j a2.At,ai a2.Name]) (cs':=[.lit v,ak a6 ck.aq.bu,ak bG ck.aq.ba,ai ck.aq.bA,ai ck.aq.bF,ak bJ ck.bZ,ak a6 ck.bV,ak cy ck.bH,j ck.cd,j ck.cg,ai ck.cc,j ck.bU,j ck.bD]) (k0:=0) q q q q (.b q (.n q (.n q .nil))) q (ED v bQ.2 a2.At a2.Name _ k6) call94 (dq q q q) q q (dq q q q) .nil q) (λv=>q) (λv=>q) (λv=>q) (λv=>(.n q q (.b q (.n q q (.n q q (.n q q .nil)))))) q (.c (en:=bp) (L:=bQ.2.aq.a') q q hn q q q .nil))<|nL (.n q (.n q (.n q (.n q (.r q (e3.el (en:=bp) q hn q) jS .nil)))))) ?_
      obtain rfl:=au h
      exact af.bB (.n q (.n q (.n q (.n q (.r q (e3.el (en:=bp) q hn q) jS .nil)))))
     ·refine W.bI ?_
      obtain rfl:=au h
      exact af.bB (.n q (.n q (.n q (.n q (.r q (e3.el (en:=bp) q hn q) jS .nil)))))
    obtain ⟨b2,hY,h⟩:=ay h
    refine af.aX<|W.rd [[],[],[],[2],[2,3],[2,3,4],[],[6],[6,7],[0,2,3,4,5],[0,2,3,4,5,9],[0,2,3,4,5,9,10],aP 0 12 [],aP 0 13 [],aP 0 14 []] [(0,_),(4,_),(5,_),(7,_),(8,.ptr ⟨0,[0]⟩ (bQ.1.toNat * bp.z+0))] ez (by kernel_rfl) (av 0 (O.aA (.ptr q))<|av 1 (O.aA (.ptr q))<|av 2 (O.aA (.obj q))<|av 3 (O.fj (.ptr q))<|av 4 (O.bh q (.ptr q) Co q)<|av 5 (O.cw q (.ptr q) cr q)<|av 6 (O.bh q (.obj q) o7 q)<|av 7 (O.cw q (.ptr q) cr q)<|av 8 (O.sub (.lit q) (.k q))<|av 9 (O.fj (.ptr q))<|av 10 (O.ki (en:=bp) q (.ptr q) Cq hY q q)<|bL.dR 11 (G2:=[(0,.obj [ak bp (dr.aq.a'.set bQ.1.toNat (⟨b2.Name,b2.Lit,b2.c7,dr.bU,b2.fw,b2.Tag⟩:b5)),ak a6 dr.aq.bu,ak bG dr.aq.ba,ai dr.aq.bA,ai dr.aq.bF,ak bJ dr.bZ,ak a6 dr.bV,ak cy dr.bH,j dr.cd,j dr.cg,ai dr.cc,j dr.bU,j dr.bD]),(4,.obj (de.cells aw)),(5,.obj (dJ.cells a2)),(7,j bQ.1),(8,.ptr ⟨0,[0]⟩ (bQ.1.toNat * bp.z+0))]) (U:=[(8,81,some (j (aQ (aw.Kind - 1)))),(7,80,some (j aw.Kind)),(6,79,some (.ptr ⟨4,[]⟩ 0)),(1,74,some (.ptr ⟨0,[0]⟩ (bQ.1.toNat * bp.z+0)))]) (kO.v (cj.mZ (cj.pC (en:=bp) (y2:=(⟨b2.Name,b2.Lit,b2.c7,dr.bU,b2.fw,b2.Tag⟩:b5)) (cs':=[j dr.bU]) (x2:=.obj [ak bp (dr.aq.a'.set bQ.1.toNat (⟨b2.Name,b2.Lit,b2.c7,dr.bU,b2.fw,b2.Tag⟩:b5)),ak a6 dr.aq.bu,ak bG dr.aq.ba,ai dr.aq.bA,ai dr.aq.bF,ak bJ dr.bZ,ak a6 dr.bV,ak cy dr.bH,j dr.cd,j dr.cg,ai dr.cc,j dr.bU,j dr.bD]) q q (.ptr q) (.lit q) q hY nJ q q q q q q q (.b q (.n q q (.n q q (.n q q (.e q q (.mk (en:=bp) q hY q (nD hY) q) q .nil)))))))) q q (by kernel_rfl) q q q (.c (.inr (.inl ⟨_,q⟩)) q q q q q (gu.wanted .none) (O.sub (.lit q) (.k q)) (.c (.inr (.inl ⟨_,q⟩)) q q q q q (gu.wanted .none) (O.cw q (.ptr q) cr q) (.c (.inr (.inr (.inr (.inl ⟨4,_,_,q,q,jw q,by simp,_,q,jw q⟩)))) q q q q q (gu.wanted .none) (O.bh q (.obj q) o7 q) (.c (.inr (.inr (.inl ⟨8,_,_,q,q,q,by simp⟩))) q q q q q (gu.wanted .none) (O.aA (.ptr q)) .nil)))) (by kernel_rfl)<|av 12 (O.fj (.ptr q))<|av 13 (O.ki (en:=bp) q (.ptr q) EW (nD hY) q q)<|bL.jG 14 (G2:=[(0,.obj [ak bp ((dr.aq.a'.set bQ.1.toNat (⟨b2.Name,b2.Lit,b2.c7,dr.bU,b2.fw,b2.Tag⟩:b5)).set bQ.1.toNat (⟨(⟨b2.Name,b2.Lit,b2.c7,dr.bU,b2.fw,b2.Tag⟩:b5).Name,(⟨b2.Name,b2.Lit,b2.c7,dr.bU,b2.fw,b2.Tag⟩:b5).Lit,(⟨b2.Name,b2.Lit,b2.c7,dr.bU,b2.fw,b2.Tag⟩:b5).c7,(⟨b2.Name,b2.Lit,b2.c7,dr.bU,b2.fw,b2.Tag⟩:b5).Level,aQ (aw.Kind - 1),(⟨b2.Name,b2.Lit,b2.c7,dr.bU,b2.fw,b2.Tag⟩:b5).Tag⟩:b5)),ak a6 dr.aq.bu,ak bG dr.aq.ba,ai dr.aq.bA,ai dr.aq.bF,ak bJ dr.bZ,ak a6 dr.bV,ak cy dr.bH,j dr.cd,j dr.cg,ai dr.cc,j dr.bU,j dr.bD]),(4,.obj (de.cells aw)),(5,.obj (dJ.cells a2)),(7,j bQ.1),(8,.ptr ⟨0,[0]⟩ (bQ.1.toNat * bp.z+0))]) (cj.pC (en:=bp) (y2:=(⟨(⟨b2.Name,b2.Lit,b2.c7,dr.bU,b2.fw,b2.Tag⟩:b5).Name,(⟨b2.Name,b2.Lit,b2.c7,dr.bU,b2.fw,b2.Tag⟩:b5).Lit,(⟨b2.Name,b2.Lit,b2.c7,dr.bU,b2.fw,b2.Tag⟩:b5).c7,(⟨b2.Name,b2.Lit,b2.c7,dr.bU,b2.fw,b2.Tag⟩:b5).Level,aQ (aw.Kind - 1),(⟨b2.Name,b2.Lit,b2.c7,dr.bU,b2.fw,b2.Tag⟩:b5).Tag⟩:b5)) (cs':=[j (aQ (aw.Kind - 1))]) (x2:=.obj [ak bp ((dr.aq.a'.set bQ.1.toNat (⟨b2.Name,b2.Lit,b2.c7,dr.bU,b2.fw,b2.Tag⟩:b5)).set bQ.1.toNat (⟨(⟨b2.Name,b2.Lit,b2.c7,dr.bU,b2.fw,b2.Tag⟩:b5).Name,(⟨b2.Name,b2.Lit,b2.c7,dr.bU,b2.fw,b2.Tag⟩:b5).Lit,(⟨b2.Name,b2.Lit,b2.c7,dr.bU,b2.fw,b2.Tag⟩:b5).c7,(⟨b2.Name,b2.Lit,b2.c7,dr.bU,b2.fw,b2.Tag⟩:b5).Level,aQ (aw.Kind - 1),(⟨b2.Name,b2.Lit,b2.c7,dr.bU,b2.fw,b2.Tag⟩:b5).Tag⟩:b5)),ak a6 dr.aq.bu,ak bG dr.aq.ba,ai dr.aq.bA,ai dr.aq.bF,ak bJ dr.bZ,ak a6 dr.bV,ak cy dr.bH,j dr.cd,j dr.cg,ai dr.cc,j dr.bU,j dr.bD]) q q (.ptr q) (.lit q) q (nD hY) nJ q q q q q q q (.b q (.n q q (.n q q (.n q q (.e q q (.mk (en:=bp) q (nD hY) q (nD (nD hY)) q) q .nil)))))) q q q q (by kernel_rfl) (by kernel_rfl)<|bL.fin q q q (.n q (.n q (.n q (.n q (.r q (e3.el (en:=bp) q (nD (nD hY)) q) jS .nil)))))) ?_
    obtain rfl:=au h
    exact af.bB (.n q (.n q (.n q (.n q (.r q (e3.el (en:=bp) q (nD (nD hY)) q) jS .nil)))))
   ·refine W.bI ?_
    obtain rfl:=au h
    exact af.bB (.n q (.n q (.n q (.n q (.r q (e3.el (en:=bp) q hn q) jS .nil)))))
  obtain ⟨eZ,j5,h⟩:=ay h
  refine af.aX<|W.aZ ?_
  refine W.rs [(0,_),(4,_),(5,_),(7,_),(8,.ptr ⟨0,[0]⟩ (bQ.1.toNat * bp.z+0)),(88,_)] (aj (O.bh q (.obj q) u9 q)<|aj (O.cw q (.ptr q) cr q)<|aj (O.gtr (.lit q) (.k q))<|nL (.n q (.n q (.n q (.n q (.r q (e3.el (en:=bp) q j5 q) jS (.n q .nil))))))) ?_
  obtain ⟨f',aa,h⟩:=ay h
  refine W.bB [(0,.obj (d'.cells f')),(4,.obj (de.cells aw)),(5,.obj (dJ.cells a2)),(8,.ptr ⟨0,[0]⟩ (bQ.1.toNat * bp.z+0))] ?_ ?_
  ·clear h; have h:=aa; clear aa
   refine W.bw h q (λkD h=>?_) (λkD h=>?_)
   ·refine W.aZ ?_
    obtain ⟨yX,aa,h⟩:=ay h
    refine W.rs [(0,.obj (d'.cells fr)),(4,.obj (de.cells aw)),(5,.obj (dJ.cells a2)),(7,j bQ.1),(8,.ptr ⟨0,[0]⟩ (bQ.1.toNat * bp.z+0)),(106,a1 yX)] ?_ ?_
    ·refine bq q<|aj (O.eql (.lit q) (.k q))<|aj (O.aA (.lit q)) ?_
     rcases cz aa with ⟨jr,aa⟩ | ⟨jr,aa⟩
     ·obtain rfl:=au aa
      exact b6 jr<|b6 jr<|b6 jr<|b6 jr<|b6 jr<|b6 jr<|b6 jr<|aj (O.dS (.lit q) jr (.k q))<|bq q<|b6 q<|b6 q<|b6 q<|b6 q<|b6 q<|aj (O.dS (.lit q) q (.k q))<|nL (.n q (.n q (.n q (.n q (.r q (e3.el (en:=bp) q j5 q) jS (.n q .nil))))))
     ·refine aM jr (O.aA (.obj q))<|aM jr (O.fj (.ptr q))<|aM jr (O.bh q (.ptr q) xi q)<|aM jr (O.dm (y:=.bn bJ.z ⟨0,[5]⟩ fr.bZ.length) q (.ptr q) y4 q q)<|aM jr (O.aA (.lit q)) ?_
      obtain ⟨gf,n0,aa⟩:=ay aa
      refine aM jr (O.gX (en:=bJ) q (.bn q) (.lit q) oN n0 q)<|aM jr (O.jv (en:=bJ) (x':=a1 gf) q (.ptr q) ns n0 q q)<|aj (O.cZ (.lit q) jr (.lit q))<|aj (O.aA (.lit q)) ?_
      rcases cz aa with ⟨eu,aa⟩ | ⟨eu,aa⟩
      ·obtain rfl:=au aa
       exact b6 eu<|b6 eu<|b6 eu<|b6 eu<|b6 eu<|aj (O.dS (.lit q) eu (.k q))<|nL (.n q (.n q (.n q (.n q (.r q (e3.el (en:=bp) q j5 q) jS (.n q .nil))))))
      ·refine aM eu (O.aA (.obj q))<|aM eu (O.bh q (.obj q) u9 q)<|aM eu (O.cw q (.ptr q) cr q) ?_
       obtain ⟨gr,mC,aa⟩:=ay aa
       obtain rfl:=au aa
       exact ar.c (cu.vw (ys:=[.ptr ⟨0,[]⟩ 0,j a2.c7]) q (.c (View.n9 q q) (.s .nil)) (Ji fr a2.c7 _ mC) call114 q) q q (.hh q q eu)<|aM eu (O.geq (.lit q) (.k q))<|aj (O.cZ (.lit q) eu (.lit q))<|nL (.n q (.n q (.n q (.n q (.r q (e3.el (en:=bp) q j5 q) jS (.n q .nil))))))
    obtain ⟨ek,aa,h⟩:=ay h
    refine W.bB [(0,.obj (d'.cells ek)),(4,.obj (de.cells aw)),(5,.obj (dJ.cells a2)),(7,j bQ.1),(8,.ptr ⟨0,[0]⟩ (bQ.1.toNat * bp.z+0))] ?_ ?_
    ·clear h; have h:=aa; clear aa
     refine W.bw h q (λrH h=>?_) (λrH h=>?_)
     ·obtain ⟨cV,qT,h⟩:=ay h
      refine W.rx [(0,_),(4,_),(5,_),(7,_),(8,.ptr ⟨0,[0]⟩ (bQ.1.toNat * bp.z+0))] (aj (O.aA (.obj q))<|aj (O.bh q (.obj q) rD q)<|aj (O.cw q (.ptr q) cr q)<|aj (O.bh q (.obj q) kB q)<|aj (O.cw q (.ptr q) e4 q)<|ar.iT (G2:=[(8,.ptr ⟨0,[0]⟩ (bQ.1.toNat * bp.z+0))]++[(112,.cB []),(0,.obj [ak bp fr.aq.a',ak a6 cV.aq.bu,ak bG cV.aq.ba,ai cV.aq.bA,ai cV.aq.bF,ak bJ cV.bZ,ak a6 cV.bV,ak cy cV.bH,j cV.cd,j cV.cg,ai cV.cc,j cV.bU,j cV.bD]),(4,.obj (de.cells aw)),(5,.obj (dJ.cells a2)),(7,j bQ.1)]) q (cj.fE (r:=0) (k0:=0) (y:=ak bp fr.aq.a') (cs5:=[ak bp fr.aq.a',ak a6 cV.aq.bu,ak bG cV.aq.ba,ai cV.aq.bA,ai cV.aq.bF,ak bJ cV.bZ,ak a6 cV.bV,ak cy cV.bH,j cV.cd,j cV.cg,ai cV.cc,j cV.bU,j cV.bD]) (G1:=λv=>[(0,.obj [.lit v,ak a6 fr.aq.bu,ak bG fr.aq.ba,ai fr.aq.bA,ai fr.aq.bF,ak bJ fr.bZ,ak a6 fr.bV,ak cy fr.bH,j fr.cd,j fr.cg,ai fr.cc,j fr.bU,j fr.bD]),(4,.obj (de.cells aw)),(5,.obj (dJ.cells a2)),(7,j bQ.1),(107,.ptr ⟨0,[]⟩ 0),(109,j a2.At),(111,ai a2.Name)]) (G4:=λv=>[(112,.cB []),(0,.obj [.lit v,ak a6 cV.aq.bu,ak bG cV.aq.ba,ai cV.aq.bA,ai cV.aq.bF,ak bJ cV.bZ,ak a6 cV.bV,ak cy cV.bH,j cV.cd,j cV.cg,ai cV.cc,j cV.bU,j cV.bD]),(4,.obj (de.cells aw)),(5,.obj (dJ.cells a2)),(7,j bQ.1)]) (c4:=λv=>[.lit v,ak a6 cV.aq.bu,ak bG cV.aq.ba,ai cV.aq.bA,ai cV.aq.bF,ak bJ cV.bZ,ak a6 cV.bV,ak cy cV.bH,j cV.cd,j cV.cg,ai cV.cc,j cV.bU,j cV.bD]) (G5:=[(112,.cB []),(0,.obj [ak bp fr.aq.a',ak a6 cV.aq.bu,ak bG cV.aq.ba,ai cV.aq.bA,ai cV.aq.bF,ak bJ cV.bZ,ak a6 cV.bV,ak cy cV.bH,j cV.cd,j cV.cg,ai cV.cc,j cV.bU,j cV.bD]),(4,.obj (de.cells aw)),(5,.obj (dJ.cells a2)),(7,j bQ.1)]) (A:=[(8,.ptr ⟨0,[0]⟩ (bQ.1.toNat * bp.z+0))]) q q q q (λv=>(.b q (.n q q (.n q q (.n q q (.p q q q q q q (.n q q (.n q q .nil)))))))) (λv=>hV.nG (G2:=[(4,.obj (de.cells aw)),(5,.obj (dJ.cells a2)),(7,j bQ.1)]) (A:=[]) (ys:=[.ptr ⟨0,[]⟩ 0,j a2.At,ai a2.Name]) (args:=[.obj [.lit v,ak a6 fr.aq.bu,ak bG fr.aq.ba,ai fr.aq.bA,ai fr.aq.bF,ak bJ fr.bZ,ak a6 fr.bV,ak cy fr.bH,j fr.cd,j fr.cg,ai fr.cc,j fr.bU,j fr.bD],j a2.At,ai a2.Name]) (cs':=[.lit v,ak a6 cV.aq.bu,ak bG cV.aq.ba,ai cV.aq.bA,ai cV.aq.bF,ak bJ cV.bZ,ak a6 cV.bV,ak cy cV.bH,j cV.cd,j cV.cg,ai cV.cc,j cV.bU,j cV.bD]) (k0:=0) q q q q (.b q (.n q (.n q .nil))) q (ED v fr a2.At a2.Name _ qT) call94 (dq q q q) q q (dq q q q) .nil q) (λv=>q) (λv=>q) (λv=>q) (λv=>(.n q q (.b q (.n q q (.n q q (.n q q .nil)))))) q (.c (en:=bp) (L:=fr.aq.a') q q j5 q q q .nil))<|nL (.n q (.n q (.n q (.n q (.r q (e3.el (en:=bp) q j5 q) jS .nil)))))) ?_
      obtain rfl:=au h
      exact af.bB (.n q (.n q (.n q (.n q (.r q (e3.el (en:=bp) q j5 q) jS .nil)))))
     ·refine W.bI ?_
      obtain rfl:=au h
      exact af.bB (.n q (.n q (.n q (.n q (.r q (e3.el (en:=bp) q j5 q) jS .nil)))))
    obtain ⟨eJ,lr,h⟩:=ay h
    refine af.aX<|W.rs [(0,_),(4,_),(5,_),(7,_),(8,.ptr ⟨0,[0]⟩ (bQ.1.toNat * bp.z+0))] (aj (O.aA (.ptr q))<|aj (O.bh q (.obj q) u9 q)<|aj (O.cw q (.ptr q) cr q)<|aj (O.fj (.ptr q))<|aj (O.ki (en:=bp) q (.ptr q) zq lr q q)<|ar.iT (G2:=[(0,.obj [ak bp (ek.aq.a'.set bQ.1.toNat (⟨eJ.Name,eJ.Lit,a2.c7,eJ.Level,eJ.fw,eJ.Tag⟩:b5)),ak a6 ek.aq.bu,ak bG ek.aq.ba,ai ek.aq.bA,ai ek.aq.bF,ak bJ ek.bZ,ak a6 ek.bV,ak cy ek.bH,j ek.cd,j ek.cg,ai ek.cc,j ek.bU,j ek.bD]),(4,.obj (de.cells aw)),(5,.obj (dJ.cells a2)),(7,j bQ.1),(8,.ptr ⟨0,[0]⟩ (bQ.1.toNat * bp.z+0))]) q (cj.pC (en:=bp) (y2:=(⟨eJ.Name,eJ.Lit,a2.c7,eJ.Level,eJ.fw,eJ.Tag⟩:b5)) (cs':=[j a2.c7]) (x2:=.obj [ak bp (ek.aq.a'.set bQ.1.toNat (⟨eJ.Name,eJ.Lit,a2.c7,eJ.Level,eJ.fw,eJ.Tag⟩:b5)),ak a6 ek.aq.bu,ak bG ek.aq.ba,ai ek.aq.bA,ai ek.aq.bF,ak bJ ek.bZ,ak a6 ek.bV,ak cy ek.bH,j ek.cd,j ek.cg,ai ek.cc,j ek.bU,j ek.bD]) q q (.ptr q) (.lit q) q lr nJ q q q q q q q (.b q (.n q q (.n q q (.n q q (.e q q (.mk (en:=bp) q lr q (nD lr) q) q .nil))))))<|nL (.n q (.n q (.n q (.n q (.r q (e3.el (en:=bp) q (nD lr) q) jS .nil)))))) ?_
    obtain ⟨gK,nb,h⟩:=ay h
    refine W.rx [(0,_),(4,_),(5,_),(8,.ptr ⟨0,[0]⟩ (bQ.1.toNat * bp.z+0))] (aj (O.aA (.obj q))<|aj (O.fj (.ptr q))<|aj (O.bh q (.ptr q) xi q)<|aj (O.dm (y:=.bn bJ.z ⟨0,[5]⟩ ek.bZ.length) q (.ptr q) y4 q q)<|bq q<|aj (O.gX (en:=bJ) q (.bn q) (.lit q) oN nb q)<|ar.iT (G2:=[(0,.obj [ak bp (ek.aq.a'.set bQ.1.toNat (⟨eJ.Name,eJ.Lit,a2.c7,eJ.Level,eJ.fw,eJ.Tag⟩:b5)),ak a6 ek.aq.bu,ak bG ek.aq.ba,ai ek.aq.bA,ai ek.aq.bF,ak bJ (ek.bZ.set bQ.1.toNat true),ak a6 ek.bV,ak cy ek.bH,j ek.cd,j ek.cg,ai ek.cc,j ek.bU,j ek.bD]),(4,.obj (de.cells aw)),(5,.obj (dJ.cells a2)),(8,.ptr ⟨0,[0]⟩ (bQ.1.toNat * bp.z+0))]) q (cj.pC (en:=bJ) (y2:=true) (cs':=[a1 true]) (x2:=.obj [ak bp (ek.aq.a'.set bQ.1.toNat (⟨eJ.Name,eJ.Lit,a2.c7,eJ.Level,eJ.fw,eJ.Tag⟩:b5)),ak a6 ek.aq.bu,ak bG ek.aq.ba,ai ek.aq.bA,ai ek.aq.bF,ak bJ (ek.bZ.set bQ.1.toNat true),ak a6 ek.bV,ak cy ek.bH,j ek.cd,j ek.cg,ai ek.cc,j ek.bU,j ek.bD]) q q (.ptr q) (.k q) q nb uD q q q q q q q (.b q (.n q q (.n q q (.e q q (.mk (en:=bp) q (nD lr) q (nD lr) q) q .nil)))))<|nL (.n q (.n q (.n q (.r q (e3.el (en:=bp) q (nD lr) q) jS .nil))))) ?_
    obtain rfl:=au h
    exact af.bB (.n q (.n q (.n q (.r q (e3.el (en:=bp) q (nD lr) q) jS .nil))))
   ·refine W.bI ?_
    obtain rfl:=au h
    exact af.bB (.n q (.n q (.n q (.r q (e3.el (en:=bp) q j5 q) jS .nil))))
  obtain ⟨h9,nc,h⟩:=ay h
  refine af.aX<|W.rs [(0,_),(4,_),(5,_),(8,.ptr ⟨0,[0]⟩ (bQ.1.toNat * bp.z+0)),(126,_)] (aj (O.bh q (.obj q) nS q)<|aj (O.cw q (.ptr q) e4 q)<|aj (O.l8 (.lit q) (.k q))<|nL (.n q (.n q (.n q (.r q (e3.el (en:=bp) q nc q) jS (.n q .nil)))))) ?_
  obtain ⟨oJ,aa,h⟩:=ay h
  refine W.bB [(0,.obj (d'.cells oJ))] ?_ ?_
  ·clear h; have h:=aa; clear aa
   refine W.bw h q (λey h=>?_) (λey h=>?_)
   ·refine W.aZ<|W.aZ ?_
    obtain ⟨nQ,aa,h⟩:=ay h
    refine W.rd [[],[0],[0,1],[0,1,2],[0,1,2,3],aP 0 5 [],aP 0 6 [],aP 0 7 [],aP 0 8 [],aP 0 9 [],aP 0 6 [],aP 0 6 [10],aP 0 12 [],aP 0 13 []] [(0,.obj (d'.cells f')),(4,.obj (de.cells aw)),(5,.obj (dJ.cells a2)),(8,.ptr ⟨0,[0]⟩ (bQ.1.toNat * bp.z+0)),(140,a1 nQ)] ez (by kernel_rfl) ?_ ?_
    ·refine av 0 (O.aA (.ptr q))<|av 1 (O.fj (.ptr q))<|av 2 (O.ki (en:=bp) q (.ptr q) Cr nc q q)<|av 3 (O.jv (en:=bp) (x':=ai h9.Tag) q (.ptr q) e4 nc q q)<|av 4 (O.l8 (.lit q) (.k q))<|av 5 (O.aA (.lit q)) ?_
     rcases cz aa with ⟨iw,aa⟩ | ⟨iw,aa⟩
     ·obtain rfl:=au aa
      exact bC 6 iw (O.aA (.ptr q))<|bC 7 iw (O.fj (.ptr q))<|bC 8 iw (O.ki (en:=bp) q (.ptr q) Cr nc q q)<|bC 9 iw (O.jv (en:=bp) (x':=ai h9.Tag) q (.ptr q) e4 nc q q)<|bC 10 iw (O.bh q (.obj q) nS q)<|bC 11 iw (O.cw q (.ptr q) e4 q)<|bC 12 iw (O.l8 (.lit q) (.lit q))<|av 13 (O.dS (.lit q) iw (.lit q))<|bL.fin q q q (.n q (.n q (.n q (.r q (e3.el (en:=bp) q nc q) jS (.n q .nil)))))
     ·obtain rfl:=au aa
      exact bs 6 iw<|bs 7 iw<|bs 8 iw<|bs 9 iw<|bs 10 iw<|bs 11 iw<|bs 12 iw<|av 13 (O.cZ (.lit q) iw (.k q))<|bL.fin q q q (.n q (.n q (.n q (.r q (e3.el (en:=bp) q nc q) jS (.n q .nil)))))
    refine af.aX ?_
    obtain ⟨gA,aa,h⟩:=ay h
    refine W.bB [(0,.obj (d'.cells gA)),(4,.obj (de.cells aw)),(8,.ptr ⟨0,[0]⟩ (bQ.1.toNat * bp.z+0))] ?_ ?_
    ·clear h; have h:=aa; clear aa
     refine W.bw h q (λpV h=>?_) (λpV h=>?_)
     ·obtain ⟨dc,uc,h⟩:=ay h
      refine W.rx [(0,_),(4,_),(8,.ptr ⟨0,[0]⟩ (bQ.1.toNat * bp.z+0))] (aj (O.aA (.obj q))<|aj (O.bh q (.obj q) rD q)<|aj (O.cw q (.ptr q) cr q)<|aj (O.bh q (.obj q) kB q)<|aj (O.cw q (.ptr q) e4 q)<|ar.iT (G2:=[(8,.ptr ⟨0,[0]⟩ (bQ.1.toNat * bp.z+0))]++[(146,.cB []),(0,.obj [ak bp f'.aq.a',ak a6 dc.aq.bu,ak bG dc.aq.ba,ai dc.aq.bA,ai dc.aq.bF,ak bJ dc.bZ,ak a6 dc.bV,ak cy dc.bH,j dc.cd,j dc.cg,ai dc.cc,j dc.bU,j dc.bD]),(4,.obj (de.cells aw))]) q (cj.fE (r:=0) (k0:=0) (y:=ak bp f'.aq.a') (cs5:=[ak bp f'.aq.a',ak a6 dc.aq.bu,ak bG dc.aq.ba,ai dc.aq.bA,ai dc.aq.bF,ak bJ dc.bZ,ak a6 dc.bV,ak cy dc.bH,j dc.cd,j dc.cg,ai dc.cc,j dc.bU,j dc.bD]) (G1:=λv=>[(0,.obj [.lit v,ak a6 f'.aq.bu,ak bG f'.aq.ba,ai f'.aq.bA,ai f'.aq.bF,ak bJ f'.bZ,ak a6 f'.bV,ak cy f'.bH,j f'.cd,j f'.cg,ai f'.cc,j f'.bU,j f'.bD]),(4,.obj (de.cells aw)),(141,.ptr ⟨0,[]⟩ 0),(143,j a2.At),(145,ai a2.Name)]) (G4:=λv=>[(146,.cB []),(0,.obj [.lit v,ak a6 dc.aq.bu,ak bG dc.aq.ba,ai dc.aq.bA,ai dc.aq.bF,ak bJ dc.bZ,ak a6 dc.bV,ak cy dc.bH,j dc.cd,j dc.cg,ai dc.cc,j dc.bU,j dc.bD]),(4,.obj (de.cells aw))]) (c4:=λv=>[.lit v,ak a6 dc.aq.bu,ak bG dc.aq.ba,ai dc.aq.bA,ai dc.aq.bF,ak bJ dc.bZ,ak a6 dc.bV,ak cy dc.bH,j dc.cd,j dc.cg,ai dc.cc,j dc.bU,j dc.bD]) (G5:=[(146,.cB []),(0,.obj [ak bp f'.aq.a',ak a6 dc.aq.bu,ak bG dc.aq.ba,ai dc.aq.bA,ai dc.aq.bF,ak bJ dc.bZ,ak a6 dc.bV,ak cy dc.bH,j dc.cd,j dc.cg,ai dc.cc,j dc.bU,j dc.bD]),(4,.obj (de.cells aw))]) (A:=[(8,.ptr ⟨0,[0]⟩ (bQ.1.toNat * bp.z+0))]) q q q q (λv=>(.b q (.n q q (.p q q q q q q (.n q q (.n q q .nil)))))) (λv=>hV.nG (G2:=[(4,.obj (de.cells aw))]) (A:=[]) (ys:=[.ptr ⟨0,[]⟩ 0,j a2.At,ai a2.Name]) (args:=[.obj [.lit v,ak a6 f'.aq.bu,ak bG f'.aq.ba,ai f'.aq.bA,ai f'.aq.bF,ak bJ f'.bZ,ak a6 f'.bV,ak cy f'.bH,j f'.cd,j f'.cg,ai f'.cc,j f'.bU,j f'.bD],j a2.At,ai a2.Name]) (cs':=[.lit v,ak a6 dc.aq.bu,ak bG dc.aq.ba,ai dc.aq.bA,ai dc.aq.bF,ak bJ dc.bZ,ak a6 dc.bV,ak cy dc.bH,j dc.cd,j dc.cg,ai dc.cc,j dc.bU,j dc.bD]) (k0:=0) q q q q (.b q (.n q (.n q .nil))) q (ED v f' a2.At a2.Name _ uc) call94 (.n q .nil) q q (.n q .nil) .nil q) (λv=>q) (λv=>q) (λv=>q) (λv=>(.n q q (.b q (.n q q .nil)))) q (.c (en:=bp) (L:=f'.aq.a') q q nc q q q .nil))<|nL (.n q (.n q (.r q (e3.el (en:=bp) q nc q) jS .nil)))) ?_
      obtain rfl:=au h
      exact af.bB (.n q (.n q (.r q (e3.el (en:=bp) q nc q) jS .nil)))
     ·refine W.bI ?_
      obtain rfl:=au h
      exact af.bB (.n q (.n q (.r q (e3.el (en:=bp) q nc q) jS .nil)))
    obtain ⟨hU,ud,h⟩:=ay h
    refine af.aX<|W.bm [0] (aj (O.aA (.ptr q))<|aj (O.bh q (.obj q) nS q)<|aj (O.cw q (.ptr q) e4 q)<|aj (O.fj (.ptr q))<|aj (O.ki (en:=bp) q (.ptr q) Cr ud q q)<|ar.iT (G2:=[(0,.obj [ak bp (gA.aq.a'.set bQ.1.toNat (⟨hU.Name,hU.Lit,hU.c7,hU.Level,hU.fw,aw.Tag⟩:b5)),ak a6 gA.aq.bu,ak bG gA.aq.ba,ai gA.aq.bA,ai gA.aq.bF,ak bJ gA.bZ,ak a6 gA.bV,ak cy gA.bH,j gA.cd,j gA.cg,ai gA.cc,j gA.bU,j gA.bD])]) q (cj.pC (en:=bp) (y2:=(⟨hU.Name,hU.Lit,hU.c7,hU.Level,hU.fw,aw.Tag⟩:b5)) (cs':=[ai aw.Tag]) (x2:=.obj [ak bp (gA.aq.a'.set bQ.1.toNat (⟨hU.Name,hU.Lit,hU.c7,hU.Level,hU.fw,aw.Tag⟩:b5)),ak a6 gA.aq.bu,ak bG gA.aq.ba,ai gA.aq.bA,ai gA.aq.bF,ak bJ gA.bZ,ak a6 gA.bV,ak cy gA.bH,j gA.cd,j gA.cg,ai gA.cc,j gA.bU,j gA.bD]) q q (.ptr q) (.lit q) q ud wx q q q q q q q (.b q .nil))<|bS q) ?_
    obtain rfl:=au h
    exact af.bB (.n q .nil)
   ·refine W.bI ?_
    obtain rfl:=au h
    exact af.bB (.n q .nil)
  obtain rfl:=au h
  exact af.fin (Fin.ro .nil q (pn (by kernel_rfl)) (.aB q q (.no (.no .nil))) q (.inl q))
theorem xa (a0:cR) (aw:ByteArray) (r:Int) (h:rQ a0 aw=some r):cb Try.prog 96 [.bo ([ah bp a0.aq.a',ah a6 a0.aq.bu,ah bG a0.aq.ba,ai a0.aq.bA,ai a0.aq.bF,ah bJ a0.bZ,ah a6 a0.bV,ah cy a0.bH,j a0.cd,j a0.cg,ai a0.cc,j a0.bU,j a0.bD]),ai aw] [none,none] (j r):=by
 unfold rQ at h
 refine cb.go (N:=⟨25,[]⟩) Try.func96 q q q q (W.fin ?_)
 refine W.st [(0,.bo ([ah bp a0.aq.a',ah a6 a0.aq.bu,ah bG a0.aq.ba,ai a0.aq.bA,ai a0.aq.bF,ah bJ a0.bZ,ah a6 a0.bV,ah cy a0.bH,j a0.cd,j a0.cg,ai a0.cc,j a0.bU,j a0.bD])),(1,ai aw)] ?_
 refine W.aU [0,1] ?_
 refine W.aZ<|W.aU [0,1,5] ?_
 refine W.bk ?_
 obtain ⟨x2,ao,h⟩:=ay h
 refine W.cf (G1:=[(0,_),(1,_),(5,_)]) (dq q q q) ?_
 refine W.iH (s:=0) (λ(s1:Int)=>[(0,.bo ([ah bp a0.aq.a',ah a6 a0.aq.bu,ah bG a0.aq.ba,ai a0.aq.bA,ai a0.aq.bF,ah bJ a0.bZ,ah a6 a0.bV,ah cy a0.bH,j a0.cd,j a0.cg,ai a0.cc,j a0.bU,j a0.bD])),(1,ai aw),(5,j s1)]) 0 (λ(a_:Unit)=>[]) (λ(bE:Int)=>[(4,j bE)]) ao (λs1 o h=>?_) (λa_ J=>?_) (λbE J=>?_)
 ·clear ao
  refine W.aZ<|W.aU [0,1,5,12] ?_
  refine W.bw h q (λdD h=>?_) (λdD h=>?_)
  ·refine W.bI<|af.aX ?_
   refine W.aZ<|W.bk ?_
   obtain ⟨bx,fJ,h⟩:=ay h
   refine W.aU [0,1,5,23] ?_
   refine W.bw h q (λc5 h=>?_) (λc5 h=>?_)
   ·refine W.aU [4] ?_
    refine W.rt ?_
    refine af.dv ?_
    refine af.cK ?_
    obtain rfl:=au h
    exact af.fP (.n q .nil)
   ·refine W.bI<|af.bk ?_
    refine af.aX<|W.bm [0,1,5] (bq q<|aj (O.add (.lit q) (.k q))<|ar.bm [0,1,14] q<|ar.aW) ?_
    obtain rfl:=au h
    exact af.go (dq q q q)
  ·refine W.da ?_
   refine af.c' ?_
   obtain rfl:=au h
   exact af.x2 .nil
 ·subst J
  refine af.db ?_
  refine af.aX<|W.aU [4] ?_
  refine W.rt ?_
  obtain rfl:=au h
  exact cx (.f q q .nil)
 ·subst J
  refine af.dv ?_
  refine af.cK ?_
  obtain rfl:=au h
  exact cx (.f q q .nil)
theorem Jj (a0:cR) (aw:Sym) (r:Int × cR) (h:uk a0 aw=some r):cb Try.prog 115 [.obj (d'.cells a0),.agg (dJ.cells aw)] [some (.obj [ak bp r.2.aq.a',ak a6 r.2.aq.bu,ak bG r.2.aq.ba,ai r.2.aq.bA,ai r.2.aq.bF,ak bJ r.2.bZ,ak a6 r.2.bV,ak cy r.2.bH,j r.2.cd,j r.2.cg,ai r.2.cc,j r.2.bU,j r.2.bD]),none] (j r.1):=by
 unfold uk at h
 refine cb.go (N:=⟨32,[0]⟩) Try.func115 q q q q (W.fin ?_)
 refine W.st [(0,.obj (d'.cells a0)),(1,.agg (dJ.cells aw))] ?_
 refine W.bY [0,3] (aj (O.box (.b' q q) q)<|ar.aW) ?_
 refine W.aZ<|W.aU [0,3,8] ?_
 refine W.bw h q (λdg h=>?_) (λdg h=>?_)
 ·obtain ⟨x2,hZ,h⟩:=ay h
  refine W.bY [0,4] (aj (O.aA (.obj q))<|aj (O.dW (cs':=[ai aw.Name,a1 aw.Lit,j aw.c7,j aw.At]) q (.obj q) lW q q)<|ar.iT q (cj.call q q (hV.nG (G2:=[]) (A:=[]) (ys:=[.ptr ⟨0,[]⟩ 0,.agg (dJ.cells aw)]) (args:=[.obj (d'.cells a0),.agg (dJ.cells aw)]) (cs':=[ak bp x2.2.aq.a',ak a6 x2.2.aq.bu,ak bG x2.2.aq.ba,ai x2.2.aq.bA,ai x2.2.aq.bF,ak bJ x2.2.bZ,ak a6 x2.2.bV,ak cy x2.2.bH,j x2.2.cd,j x2.2.cg,ai x2.2.cc,j x2.2.bU,j x2.2.bD]) (k0:=0) q q q q (.b q (.n q .nil)) q (Jh a0 aw _ hZ) call113 .nil q q .nil .nil q))<|ar.aW) ?_
  refine W.rt ?_
  refine af.cK ?_
  obtain rfl:=au h
  exact af.fin (Fin.ro (.f q q .nil) q (pn (by kernel_rfl)) (.aB q q (.no .nil)) q (.inr q))
 ·refine W.bI<|af.aX ?_
  refine W.aZ ?_
  obtain ⟨a_,hd,h⟩:=ay h
  refine W.bY [0,3,5] (aj (O.aA (.obj q))<|aj (O.bh q (.obj q) kB q)<|aj (O.cw q (.ptr q) e4 q)<|ee (cu.vw (ys:=[.ptr ⟨0,[]⟩ 0,ai aw.Name]) q (.c (View.n9 q q) (.s .nil)) (xa a0 aw.Name _ hd) call96 q)<|ar.aW) ?_
  refine W.aU [0,3,5,17] ?_
  refine W.bw h q (λdd h=>?_) (λdd h=>?_)
  ·refine W.aU [0,4] ?_
   refine W.rt ?_
   refine af.cK ?_
   obtain rfl:=au h
   exact af.fin (Fin.ro (.f q q .nil) q (pn (by kernel_rfl)) (.aB q q (.no .nil)) q (.inr q))
  ·refine W.bI<|af.aX ?_
   obtain ⟨cq,lP,h⟩:=ay h
   refine W.bY [0,3,6] (aj (O.aA (.obj q))<|aj (O.dW (cs':=[ai aw.Name,a1 aw.Lit,j aw.c7,j aw.At]) q (.obj q) lW q q)<|ee (cu.vw (ys:=[.ptr ⟨0,[]⟩ 0,.agg (dJ.cells aw)]) q (.c (View.n9 q q) (.c (.yP (.s (.s (.s (.s .nil))))) .nil)) (EC a0 aw _ lP) call95 q)<|ar.aW) ?_
   refine W.aZ<|W.aU [0,3,6,24] ?_
   refine W.bw h q (λec h=>?_) (λec h=>?_)
   ·obtain ⟨bz,gq,h⟩:=ay h
    refine W.bY [0] (aj (O.aA (.obj q))<|aj (O.bh q (.obj q) rD q)<|aj (O.cw q (.ptr q) cr q)<|aj (O.bh q (.obj q) kB q)<|aj (O.cw q (.ptr q) e4 q)<|ar.iT q (cj.call q q (hV.nG (G2:=[]) (A:=[]) (ys:=[.ptr ⟨0,[]⟩ 0,j aw.At,ai aw.Name]) (args:=[.obj (d'.cells a0),j aw.At,ai aw.Name]) (cs':=[ak bp bz.aq.a',ak a6 bz.aq.bu,ak bG bz.aq.ba,ai bz.aq.bA,ai bz.aq.bF,ak bJ bz.bZ,ak a6 bz.bV,ak cy bz.bH,j bz.cd,j bz.cg,ai bz.cc,j bz.bU,j bz.bD]) (k0:=0) q q q q (.b q (.n q (.n q .nil))) q (uZ a0 aw.At aw.Name _ gq) call94 .nil q q .nil .nil q))<|bS q) ?_
    refine W.aU [0,4] ?_
    refine W.rt ?_
    refine af.cK ?_
    obtain rfl:=au h
    exact af.fin (Fin.ro (.f q q .nil) q (pn (by kernel_rfl)) (.aB q q (.no .nil)) q (.inr q))
   ·refine W.bI<|af.aX ?_
    refine W.aU [0,4] ?_
    refine W.rt ?_
    obtain rfl:=au h
    exact af.fin (Fin.ro (.f q q .nil) q (pn (by kernel_rfl)) (.aB q q (.no .nil)) q (.inr q))
theorem Pl (a0:cR) (aw:ByteArray) (a2:Alt) (r:cR) (h:Bj a0 aw a2=some r):cb Try.prog 97 [.obj (d'.cells a0),ai aw,.agg (e1.cells a2)] [some (.obj [ak bp r.aq.a',ak a6 r.aq.bu,ak bG r.aq.ba,ai r.aq.bA,ai r.aq.bF,ak bJ r.bZ,ak a6 r.bV,ak cy r.bH,j r.cd,j r.cg,ai r.cc,j r.bU,j r.bD]),none,none] (.cB []):=by
 unfold Bj at h
 refine cb.go (N:=⟨173,[0]⟩) Try.func97 q q q q (W.fin ?_)
 refine W.st [(0,.obj (d'.cells a0)),(1,ai aw),(2,.agg (e1.cells a2))] ?_
 refine W.bY [0,1,5] (aj (O.box (.b' q q) q)<|bS q) ?_
 refine W.aZ ?_
 obtain ⟨aF,fI,h⟩:=ay h
 refine W.rd [[],[],[0,1],[0,1,2],[],[4],aP 0 6 [],[],aP 0 8 []] [(0,_),(5,_),(6,_)] ez (by kernel_rfl) (av 0 (O.aA (.obj q))<|av 1 (O.aA (.lit q))<|iN 2 (cu.vw (ys:=[.ptr ⟨0,[]⟩ 0,ai aw]) q (.c (View.n9 q q) (.s .nil)) (xa a0 aw _ fI) call96 q)<|av 3 (O.add (.k q) (.lit q))<|av 4 (O.bh q (.obj q) J3 q)<|av 5 (O.cw q (.ptr q) cr q)<|av 6 (O.dR (cs:=[j (aQ (1+aF)),.aK,j (-1),ai aC,.aK,j a2.At]) HA BJ q q q)<|av 7 (O.fL (cs:=[j 0,.aK,j 0,ai aC,.aK,j 0]) BJ q q)<|bL.dI 8 (G2:=[(0,.obj (d'.cells a0)),(5,.obj (e1.cells a2)),(6,.obj [j (aQ (1+aF)),.aK,j (-1),ai aC,.aK,j a2.At])]) (cs2:=[j (aQ (1+aF)),.aK,j (-1),ai aC,.aK,j a2.At]) q (by kernel_rfl) (by kernel_rfl) q q q (.obj q) (.b' q q) q MK q q q q (.n q q (.n q q (.b q .nil)))<|bL.fin q q q (dq q q q)) ?_
 refine af.aX<|W.aZ ?_
 refine W.aU [0,5,6,7] ?_
 refine W.bk ?_
 obtain ⟨a_,ao,h⟩:=ay h
 refine W.cf (G1:=[(0,_),(5,_),(6,.obj [j (aQ (1+aF)),ak aI ([]:List Int),j (-1),ai aC,.aK,j a2.At]),(7,_)]) (.n q (.n q (.w q q (kT.obj (.f (.o (.f (.f (.f (.f .nil))))))) (.n q .nil)))) ?_
 refine W.eO (s:=(a0,([]:List Int),aC,a2.At,0)) (λ(s2:cR × List Int × ByteArray × Int × Int)=>[(0,.obj (d'.cells s2.1)),(5,.obj (e1.cells a2)),(6,.obj [j (aQ (1+aF)),ak aI s2.2.1,j (-1),ai s2.2.2.1,.aK,j s2.2.2.2.1]),(7,j s2.2.2.2.2)]) 0 (λ(a_:cR × List Int × ByteArray × Int)=>[(0,.obj (d'.cells a_.1)),(5,.obj (e1.cells a2)),(6,.obj [j (aQ (1+aF)),ak aI a_.2.1,j (-1),ai a_.2.2.1,.aK,j a_.2.2.2])]) ao (λs2 o h=>?_) ?_
 ·clear ao
  refine W.aZ<|W.aU [0,5,6,7,21] ?_
  refine W.bw h q (λdD h=>?_) (λdD h=>?_)
  ·refine W.bI<|af.aX ?_
   refine W.aZ ?_
   obtain ⟨kH,aa,h⟩:=ay h
   refine W.bB [(0,.obj (d'.cells kH.1)),(5,.obj (e1.cells a2)),(6,.obj [j (aQ (1+aF)),ak aI kH.2.1,j (-1),ai kH.2.2.1,.aK,j kH.2.2.2]),(7,j s2.2.2.2.2)] ?_ ?_
   ·clear h; have h:=aa; clear aa
    refine W.bk ?_
    obtain ⟨bz,gq,h⟩:=ay h
    refine W.bY [0,5,6,7,8] (aj (O.bh q (.obj q) sq q)<|aj (O.dm (y:=ah e6 a2.jC) q (.ptr q) xd q q)<|bq q<|aj (O.cC (.aE q) (.lit q) s7 gq)<|aj (O.iV (cs':=[ai bz.Sym.Name,a1 bz.Sym.Lit,j bz.Sym.c7,j bz.Sym.At,ai bz.Code,j bz.At]) (.bo q) w1 q q)<|aj (O.fL (cs:=[ai aC,a1 false,j 0,j 0,ai aC,j 0]) qi q q)<|ar.dI (G2:=[(0,_),(5,_),(6,_),(7,_),(8,_)]) (cs2:=[ai bz.Sym.Name,a1 bz.Sym.Lit,j bz.Sym.c7,j bz.Sym.At,ai bz.Code,j bz.At]) q (.obj q) (.b' q q) q Bv q q q q (.n q q (.n q q (.n q q (.n q q (.b q .nil)))))<|bS q) ?_
    obtain ⟨fi,aa,h⟩:=ay h
    refine W.bB [(0,.obj (d'.cells fi.1)),(5,.obj (e1.cells a2)),(6,.obj [j (aQ (1+aF)),ak aI fi.2.1,j (-1),ai fi.2.2.1,.aK,j fi.2.2.2]),(7,j s2.2.2.2.2)] ?_ ?_
    ·clear h; have h:=aa; clear aa
     refine W.bk<|W.aU [0,5,6,7,8,82] ?_
     obtain ⟨pf,aa,h⟩:=ay h
     refine W.bB [(0,.obj (d'.cells pf.1)),(5,.obj (e1.cells a2)),(6,.obj [j (aQ (1+aF)),ak aI pf.2.1,j (-1),ai pf.2.2.1,.aK,j pf.2.2.2]),(7,j s2.2.2.2.2)] ?_ ?_
     ·clear h; have h:=aa; clear aa
      refine W.bw h q (λeU h=>?_) (λeU h=>?_)
      ·obtain ⟨b1,hn,h⟩:=ay h
       obtain ⟨dU,lO,h⟩:=ay h
       refine W.rd [[],[0],[],[],[3],[2,3,4],[2,3,4,5],aP 0 7 [],aP 0 8 [],aP 0 9 []] [(0,_),(5,_),(6,_),(7,_)] ez (by kernel_rfl) (av 0 (O.bh q (.obj q) m_ q)<|av 1 (O.dm (y:=.bn aI.z ⟨6,[1]⟩ s2.2.1.length) q (.ptr q) hM q q)<|av 2 (O.aA (.obj q))<|av 3 (O.bh q (.obj q) zr q)<|av 4 (O.dW (cs':=[ai bz.Sym.Name,a1 bz.Sym.Lit,j bz.Sym.c7,j bz.Sym.At]) q (.ptr q) lW q q)<|bL.dR 5 (G2:=(6,.obj [j (aQ (1+aF)),ak aI s2.2.1,j (-1),ai s2.2.2.1,.aK,j s2.2.2.2.1])::[(91,j b1.1),(0,.obj [ak bp b1.2.aq.a',ak a6 b1.2.aq.bu,ak bG b1.2.aq.ba,ai b1.2.aq.bA,ai b1.2.aq.bF,ak bJ b1.2.bZ,ak a6 b1.2.bV,ak cy b1.2.bH,j b1.2.cd,j b1.2.cg,ai b1.2.cc,j b1.2.bU,j b1.2.bD]),(5,.obj (e1.cells a2)),(7,j s2.2.2.2.2)]) (U:=[(1,87,some (.bn aI.z ⟨6,[1]⟩ s2.2.1.length)),(0,86,some (.ptr ⟨6,[]⟩ 1))]) (oU.box (r:=6) (G1:=[(0,.obj (d'.cells s2.1)),(5,.obj (e1.cells a2)),(7,j s2.2.2.2.2),(88,.ptr ⟨0,[]⟩ 0),(90,.agg (dJ.cells bz.Sym))]) (G2:=[(91,j b1.1),(0,.obj [ak bp b1.2.aq.a',ak a6 b1.2.aq.bu,ak bG b1.2.aq.ba,ai b1.2.aq.bA,ai b1.2.aq.bF,ak bJ b1.2.bZ,ak a6 b1.2.bV,ak cy b1.2.bH,j b1.2.cd,j b1.2.cg,ai b1.2.cc,j b1.2.bU,j b1.2.bD]),(5,.obj (e1.cells a2)),(7,j s2.2.2.2.2)]) (cj.call q q (hV.nG (G2:=[(5,.obj (e1.cells a2)),(7,j s2.2.2.2.2)]) (A:=[]) (ys:=[.ptr ⟨0,[]⟩ 0,.agg (dJ.cells bz.Sym)]) (args:=[.obj (d'.cells s2.1),.agg (dJ.cells bz.Sym)]) (cs':=[ak bp b1.2.aq.a',ak a6 b1.2.aq.bu,ak bG b1.2.aq.ba,ai b1.2.aq.bA,ai b1.2.aq.bF,ak bJ b1.2.bZ,ak a6 b1.2.bV,ak cy b1.2.bH,j b1.2.cd,j b1.2.cg,ai b1.2.cc,j b1.2.bU,j b1.2.bD]) (k0:=0) q q q q (.b q (.n q .nil)) q (Jj s2.1 bz.Sym _ hn) call115 (fG q q) q q (fG q q) .nil q)) q (.n q (.n q (.n q (.q q q q (.n q .nil))))) q q q) q q (by kernel_rfl) q q q (.c (.inl ⟨6,[1],_,_,_,_,q,by simp [q5],q,q,Nat.le_refl _⟩) q q q q q (gu.wanted .none) (O.dm (y:=.bn aI.z ⟨6,[1]⟩ s2.2.1.length) q (.ptr q) hM q q) (.c (.inr (.inr (.inr (.inl ⟨6,_,_,q,q,jw q,by simp,_,q,jw q⟩)))) q q q q q (gu.wanted .none) (O.bh q (.obj q) m_ q) .nil)) (by kernel_rfl)<|bL.fC 6 (x:=ah aI [b1.1]) (O.dz (ys:=[j b1.1]) aI [b1.1] fk q q q q q q oS q q) q q q q .none<|av 7 (O.ap (en:=aI) (r:=dU) (.bn q) q (.aE q) .i ov q lO)<|av 8 (O.bh q (.obj q) m_ q)<|bL.jG 9 (G2:=[(0,.obj (d'.cells b1.2)),(5,.obj (e1.cells a2)),(6,.obj [j (aQ (1+aF)),ak aI (s2.2.1++[b1.1]),j (-1),ai s2.2.2.1,.aK,j s2.2.2.2.1]),(7,j s2.2.2.2.2)]) (cj.nn (g1:=_) (en:=aI) (M:=[b1.1]) (cs2:=[j (aQ (1+aF)),ak aI (s2.2.1++[b1.1]),j (-1),ai s2.2.2.1,.aK,j s2.2.2.2.1]) q q (.ptr q) (.bX q) q q q .j8 .gR q q wu q q q q (.n q q (.n q q (.b q (.n q q .nil))))) q q q q (by kernel_rfl) (by kernel_rfl)<|bL.fin q q q (dA q q q q)) ?_
       obtain rfl:=au h
       exact af.bB (dA q q q q)
      ·refine W.aU [0,5,6,7,8,95] ?_
       obtain ⟨j7,aa,h⟩:=ay h
       refine W.bB [(0,.obj [ak bp s2.1.aq.a',ak a6 s2.1.aq.bu,ak bG j7.1,ai s2.1.aq.bA,ai s2.1.aq.bF,ak bJ s2.1.bZ,ak a6 s2.1.bV,ak cy s2.1.bH,j s2.1.cd,j s2.1.cg,ai s2.1.cc,j s2.1.bU,j j7.2.1]),(5,.obj (e1.cells a2)),(6,.obj [j (aQ (1+aF)),ak aI j7.2.2.1,j (-1),ai j7.2.2.2.1,.aK,j j7.2.2.2.2]),(7,j s2.2.2.2.2)] ?_ ?_
       ·clear h; have h:=aa; clear aa
        refine W.bw h q (λeM h=>?_) (λeM h=>?_)
        ·refine W.rd [[],[0],[],[2],[0,1],[0,1,4],aP 0 6 [],aP 0 7 []] [(0,_),(5,_),(6,_),(7,_)] ez (by kernel_rfl) (av 0 (O.bh q (.obj q) rE q)<|av 1 (O.cw q (.ptr q) e4 q)<|av 2 (O.bh q (.obj q) Cs q)<|av 3 (O.cw q (.ptr q) cr q)<|av 4 (O.bh q (.obj q) JS q)<|bL.dR 5 (G2:=[(0,.obj (d'.cells s2.1)),(5,.obj (e1.cells a2)),(6,.obj [j (aQ (1+aF)),ak aI s2.2.1,j (-1),ai bz.Code,.aK,j s2.2.2.2.1]),(7,j s2.2.2.2.2),(8,.obj (e6.cells bz))]) (U:=[(3,105,some (j bz.At)),(2,104,some (.ptr ⟨8,[]⟩ 5))]) (kO.v (cj.mZ (cj.dI (G2:=[(0,.obj (d'.cells s2.1)),(5,.obj (e1.cells a2)),(6,.obj [j (aQ (1+aF)),ak aI s2.2.1,j (-1),ai bz.Code,.aK,j s2.2.2.2.1]),(7,j s2.2.2.2.2),(8,.obj (e6.cells bz))]) (cs2:=[j (aQ (1+aF)),ak aI s2.2.1,j (-1),ai bz.Code,.aK,j s2.2.2.2.1]) q q q (.ptr q) (.lit q) q wx q q q q (.n q q (.n q q (.b q (.n q q (.n q q .nil)))))))) q q (by kernel_rfl) q q q (.c (.inr (.inl ⟨_,q⟩)) q q q q q (gu.wanted .none) (O.cw q (.ptr q) cr q) (.c (.inr (.inr (.inr (.inl ⟨8,_,_,q,q,jw q,by simp,_,q,jw q⟩)))) q q q q q (gu.wanted .none) (O.bh q (.obj q) Cs q) .nil)) (by kernel_rfl)<|av 6 (O.bh q (.obj q) JU q)<|bL.dI 7 (G2:=[(0,.obj (d'.cells s2.1)),(5,.obj (e1.cells a2)),(6,.obj [j (aQ (1+aF)),ak aI s2.2.1,j (-1),ai bz.Code,.aK,j bz.At]),(7,j s2.2.2.2.2)]) (cs2:=[j (aQ (1+aF)),ak aI s2.2.1,j (-1),ai bz.Code,.aK,j bz.At]) q (by kernel_rfl) (by kernel_rfl) q q q (.ptr q) (.lit q) q nJ q q q q (.n q q (.n q q (.b q (.n q q .nil))))<|bL.fin q q q (dA q q q q)) ?_
         obtain rfl:=au h
         exact af.bB (dA q q q q)
        ·refine W.bY [0,5,6,7,8] (aj (O.aA (.obj q))<|aj (O.fj (.ptr q))<|aj (O.bh q (.ptr q) zk q)<|aj (O.cw q (.ptr q) cr q)<|aj (O.add (.lit q) (.k q))<|aj (O.fj (.ptr q))<|aj (O.bh q (.ptr q) zk q)<|ar.dI (G2:=[(0,_),(5,_),(6,_),(7,_),(8,_)]) (cs2:=[ak bp s2.1.aq.a',ak a6 s2.1.aq.bu,ak bG s2.1.aq.ba,ai s2.1.aq.bA,ai s2.1.aq.bF,ak bJ s2.1.bZ,ak a6 s2.1.bV,ak cy s2.1.bH,j s2.1.cd,j s2.1.cg,ai s2.1.cc,j s2.1.bU,j (aQ (s2.1.bD+1))]) q (.ptr q) (.lit q) q nJ q q q q (.b q (.n q q (.n q q (.n q q (.n q q .nil)))))<|bS q) ?_
         refine W.aZ ?_
         obtain ⟨cA,ic,h⟩:=ay h
         obtain ⟨ck,k6,h⟩:=ay h
         refine W.rd [[],[],[1],[1,2],[1,2,3],[1,2,3,4],[],[6],[6,7],[6,7,8],[6,7,8,9],[],[11],[11,12],[11,12,13],aP 6 9 [],[],[16],[],[],[19],[18,19,20],[],[22],aP 6 18 [],aP 6 19 [],aP 1 25 [],aP 0 27 [],aP 0 28 [],aP 0 29 [],aP 0 30 []] [(0,_),(5,_),(6,_),(7,_)] ez (by kernel_rfl) (av 0 (O.aA (.obj q))<|av 1 (O.aA (.obj q))<|av 2 (O.fj (.ptr q))<|av 3 (O.bh q (.ptr q) kj q)<|av 4 (O.bh q (.ptr q) lG q)<|av 5 (O.dm (y:=.bn bG.z ⟨0,[2]⟩ s2.1.aq.ba.length) q (.ptr q) mY q q)<|av 6 (O.aA (.obj q))<|av 7 (O.fj (.ptr q))<|av 8 (O.bh q (.ptr q) xj q)<|av 9 (O.dm (y:=.bn cy.z ⟨0,[7]⟩ s2.1.bH.length) q (.ptr q) y6 q q)<|av 10 (O.ph (.bn q) Bq)<|av 11 (O.aA (.obj q))<|av 12 (O.fj (.ptr q))<|av 13 (O.bh q (.ptr q) zk q)<|av 14 (O.cw q (.ptr q) cr q)<|av 15 (O.add (.lit q) (.lit q))<|av 16 (O.bh q (.obj q) rE q)<|av 17 (O.cw q (.ptr q) e4 q)<|av 18 (O.dz (ys:=[]) aI ([]:List Int) fk q q q q q q oS q q)<|av 19 (O.bh q (.obj q) m_ q)<|av 20 (O.dm (y:=.bn aI.z ⟨6,[1]⟩ s2.2.1.length) q (.ptr q) hM q q)<|av 21 (O.ap (en:=aI) (r:=cA) (.own q) q (.bn q) (.flat aI q) ov q ic)<|av 22 (O.bh q (.obj q) Cs q)<|av 23 (O.cw q (.ptr q) cr q)<|av 24 (O.dR (cs:=[j (aQ ((s2.1.bH.length:Int)+(aQ (s2.1.bD+1)))),.aK,j (-1),ai bz.Code,.bn aI.z ⟨57,[]⟩ (([]:List Int).length+s2.2.1.length),j bz.At]) HA BJ q q q)<|av 25 (O.uU (ys:=[.agg [j (aQ ((s2.1.bH.length:Int)+(aQ (s2.1.bD+1)))),.aK,j (-1),ai bz.Code,.bn aI.z ⟨57,[]⟩ (([]:List Int).length+s2.2.1.length),j bz.At]]) (cs:=[j (aQ ((s2.1.bH.length:Int)+(aQ (s2.1.bD+1)))),.aK,j (-1),ai bz.Code,.bn aI.z ⟨57,[]⟩ (([]:List Int).length+s2.2.1.length),j bz.At]) nm q q q q q H5 q q)<|av 26 (O.NY (en:=bG) (M:=[(⟨aQ ((s2.1.bH.length:Int)+(aQ (s2.1.bD+1))),([]:List Int),(-1),bz.Code,([]:List Int)++s2.2.1,bz.At⟩:Prod)]) (r:=ck) (.bn q) q (.own q) q q q q IA q k6 (LQ (by kernel_rfl) (by kernel_rfl)))<|av 27 (O.fj (.ptr q))<|av 28 (O.bh q (.ptr q) kj q)<|av 29 (O.bh q (.ptr q) lG q)<|bL.jG 30 (G2:=[(0,.obj [ak bp s2.1.aq.a',ak a6 s2.1.aq.bu,ak bG (s2.1.aq.ba++[(⟨aQ ((s2.1.bH.length:Int)+(aQ (s2.1.bD+1))),([]:List Int),(-1),bz.Code,([]:List Int)++s2.2.1,bz.At⟩:Prod)]),ai s2.1.aq.bA,ai s2.1.aq.bF,ak bJ s2.1.bZ,ak a6 s2.1.bV,ak cy s2.1.bH,j s2.1.cd,j s2.1.cg,ai s2.1.cc,j s2.1.bU,j (aQ (s2.1.bD+1))]),(5,.obj (e1.cells a2)),(6,.obj [j (aQ (1+aF)),ak aI s2.2.1,j (-1),ai s2.2.2.1,.aK,j s2.2.2.2.1]),(7,j s2.2.2.2.2)]) (cj.nn (g1:=_) (en:=bG) (M:=[(⟨aQ ((s2.1.bH.length:Int)+(aQ (s2.1.bD+1))),([]:List Int),(-1),bz.Code,([]:List Int)++s2.2.1,bz.At⟩:Prod)]) (cs2:=[ak bp s2.1.aq.a',ak a6 s2.1.aq.bu,ak bG (s2.1.aq.ba++[(⟨aQ ((s2.1.bH.length:Int)+(aQ (s2.1.bD+1))),([]:List Int),(-1),bz.Code,([]:List Int)++s2.2.1,bz.At⟩:Prod)]),ai s2.1.aq.bA,ai s2.1.aq.bF,ak bJ s2.1.bZ,ak a6 s2.1.bV,ak cy s2.1.bH,j s2.1.cd,j s2.1.cg,ai s2.1.cc,j s2.1.bU,j (aQ (s2.1.bD+1))]) q q (.ptr q) (.bX q) q q q (.f (.f (.f (.f (.lx q q q .j8 (.f .nil)))))) (.f (.z (.f (.f (.z (hv:=lb.lx q q) (.f .nil)))))) q q HO q q q q (.b q (.n q q (.n q q (.n q q .nil))))) q q q q (by kernel_rfl) (by kernel_rfl)<|bL.fin q q q (dA q q q q)) ?_
         refine af.aX ?_
         obtain ⟨b2,hY,h⟩:=ay h
         refine W.rd [[],[0],[],[2],[2,3],[2,3,4],[2,3,4,5],aP 2 5 [],[],[8],[8,9],[8,9,10],aP 2 10 [],aP 2 11 [],aP 0 14 [],aP 0 15 [],aP 0 16 []] [(0,_),(5,_),(6,_),(7,_)] ez (by kernel_rfl) (av 0 (O.bh q (.obj q) m_ q)<|av 1 (O.dm (y:=.bn aI.z ⟨6,[1]⟩ s2.2.1.length) q (.ptr q) hM q q)<|av 2 (O.aA (.obj q))<|av 3 (O.fj (.ptr q))<|av 4 (O.bh q (.ptr q) xj q)<|av 5 (O.dm (y:=.bn cy.z ⟨0,[7]⟩ s2.1.bH.length) q (.ptr q) y6 q q)<|av 6 (O.ph (.bn q) Bq)<|av 7 (O.add (.k q) (.lit q))<|av 8 (O.aA (.obj q))<|av 9 (O.fj (.ptr q))<|av 10 (O.bh q (.ptr q) zk q)<|av 11 (O.cw q (.ptr q) cr q)<|av 12 (O.add (.lit q) (.lit q))<|bL.fC 13 (x:=ah aI [aQ ((aQ (1000+(s2.1.bH.length:Int)))+(aQ (s2.1.bD+1)))]) (O.dz (ys:=[j (aQ ((aQ (1000+(s2.1.bH.length:Int)))+(aQ (s2.1.bD+1))))]) aI [aQ ((aQ (1000+(s2.1.bH.length:Int)))+(aQ (s2.1.bD+1)))] fk q q q q q q oS q q) q q q q .none<|av 14 (O.ap (en:=aI) (r:=b2) (.bn q) q (.aE q) .i ov q hY)<|av 15 (O.bh q (.obj q) m_ q)<|bL.jG 16 (G2:=[(0,.obj [ak bp s2.1.aq.a',ak a6 s2.1.aq.bu,ak bG (s2.1.aq.ba++[(⟨aQ ((s2.1.bH.length:Int)+(aQ (s2.1.bD+1))),([]:List Int),(-1),bz.Code,([]:List Int)++s2.2.1,bz.At⟩:Prod)]),ai s2.1.aq.bA,ai s2.1.aq.bF,ak bJ s2.1.bZ,ak a6 s2.1.bV,ak cy s2.1.bH,j s2.1.cd,j s2.1.cg,ai s2.1.cc,j s2.1.bU,j (aQ (s2.1.bD+1))]),(5,.obj (e1.cells a2)),(6,.obj [j (aQ (1+aF)),ak aI (s2.2.1++[aQ ((aQ (1000+(s2.1.bH.length:Int)))+(aQ (s2.1.bD+1)))]),j (-1),ai s2.2.2.1,.aK,j s2.2.2.2.1]),(7,j s2.2.2.2.2)]) (cj.nn (g1:=_) (en:=aI) (M:=[aQ ((aQ (1000+(s2.1.bH.length:Int)))+(aQ (s2.1.bD+1)))]) (cs2:=[j (aQ (1+aF)),ak aI (s2.2.1++[aQ ((aQ (1000+(s2.1.bH.length:Int)))+(aQ (s2.1.bD+1)))]),j (-1),ai s2.2.2.1,.aK,j s2.2.2.2.1]) q q (.ptr q) (.bX q) q q q .j8 .gR q q wu q q q q (.n q q (.n q q (.b q (.n q q .nil))))) q q q q (by kernel_rfl) (by kernel_rfl)<|bL.fin q q q (dA q q q q)) ?_
         obtain rfl:=au h
         exact af.bB (dA q q q q)
       obtain rfl:=au h
       exact af.bB (dA q q q q)
     refine af.bk ?_
     obtain rfl:=au h
     exact af.bB (dA q q q q)
    refine af.bk ?_
    obtain rfl:=au h
    exact af.bB (dA q q q q)
   refine af.aX<|W.bm [0,5,6,7] (bq q<|aj (O.add (.lit q) (.k q))<|ar.bm [0,5,6,23] q<|ar.aW) ?_
   obtain rfl:=au h
   exact af.go (dA q q q q)
  ·refine W.da ?_
   refine af.c' ?_
   obtain rfl:=au h
   exact af.aF (dq q q q)
 refine af.db ?_
 refine af.aX<|W.aZ ?_
 refine W.aU [0,5,6,9] ?_
 refine W.bk ?_
 obtain ⟨eD,ao,h⟩:=ay h
 refine W.cf (G1:=[(0,_),(5,_),(6,_),(9,_)]) (dA q q q q) ?_
 refine W.eO (s:=((-1),0)) (λ(qb:Int × Int)=>[(0,.obj (d'.cells a_.1)),(5,.obj (e1.cells a2)),(6,.obj [j (aQ (1+aF)),ak aI a_.2.1,j qb.1,ai a_.2.2.1,.aK,j a_.2.2.2]),(9,j qb.2)]) 3 (λ(eD:Int)=>[(0,.obj (d'.cells a_.1)),(5,.obj (e1.cells a2)),(6,.obj [j (aQ (1+aF)),ak aI a_.2.1,j eD,ai a_.2.2.1,.aK,j a_.2.2.2])]) ao (λqb o h=>?_) ?_
 ·clear ao
  refine W.aZ<|W.aU [0,5,6,9,112] ?_
  refine W.bw h q (λjr h=>?_) (λjr h=>?_)
  ·refine W.bI<|af.aX ?_
   refine W.aZ ?_
   obtain ⟨qZ,aa,h⟩:=ay h
   refine W.bB [(0,.obj (d'.cells a_.1)),(5,.obj (e1.cells a2)),(6,.obj [j (aQ (1+aF)),ak aI a_.2.1,j qZ,ai a_.2.2.1,.aK,j a_.2.2.2]),(9,j qb.2)] ?_ ?_
   ·clear h; have h:=aa; clear aa
    refine W.bk ?_
    obtain ⟨fm,pd,h⟩:=ay h
    refine W.bY [0,5,6,9,120] (aj (O.bh q (.obj q) m_ q)<|aj (O.dm (y:=.bn aI.z ⟨6,[1]⟩ a_.2.1.length) q (.ptr q) hM q q)<|bq q<|aj (O.gX (en:=aI) q (.bn q) (.lit q) fk pd q)<|aj (O.jv (en:=aI) (x':=j fm) q (.ptr q) cr pd q q)<|ar.aW) ?_
    obtain ⟨Ap,aa,h⟩:=ay h
    refine W.bB [(0,.obj (d'.cells a_.1)),(5,.obj (e1.cells a2)),(6,.obj [j (aQ (1+aF)),ak aI a_.2.1,j Ap,ai a_.2.2.1,.aK,j a_.2.2.2]),(9,j qb.2)] ?_ ?_
    ·clear h; have h:=aa; clear aa
     refine W.bw h q (λj2 h=>?_) (λj2 h=>?_)
     ·obtain ⟨iM,qS,h⟩:=ay h
      refine W.bm [0,5,6,9] (aj (O.bh q (.obj q) m_ q)<|aj (O.dm (y:=.bn aI.z ⟨6,[1]⟩ a_.2.1.length) q (.ptr q) hM q q)<|bq q<|aj (O.gX (en:=aI) q (.bn q) (.lit q) fk qS q)<|aj (O.jv (en:=aI) (x':=j iM) q (.ptr q) cr qS q q)<|aj (O.bh q (.obj q) ze q)<|ar.dI (G2:=[(0,_),(5,_),(6,_),(9,_)]) (cs2:=[j (aQ (1+aF)),ak aI a_.2.1,j iM,ai a_.2.2.1,.aK,j a_.2.2.2]) q (.ptr q) (.lit q) q nJ q q q q (.n q q (.n q q (.b q (.n q q .nil))))<|bS q) ?_
      obtain rfl:=au h
      exact af.bB (dA q q q q)
     ·refine W.bI ?_
      obtain rfl:=au h
      exact af.bB (dA q q q q)
    refine af.bk ?_
    obtain rfl:=au h
    exact af.bB (dA q q q q)
   refine af.aX<|W.bm [0,5,6,9] (bq q<|aj (O.add (.lit q) (.k q))<|ar.bm [0,5,6,114] q<|ar.aW) ?_
   obtain rfl:=au h
   exact af.go (dA q q q q)
  ·refine W.da ?_
   refine af.c' ?_
   obtain rfl:=au h
   exact af.aF (dq q q q)
 refine af.db ?_
 refine af.aX<|W.aZ ?_
 refine W.aU [0,5,6,130] ?_
 obtain ⟨fz,aa,h⟩:=ay h
 refine W.bB [(0,.obj (d'.cells fz.1)),(6,.obj [j (aQ (1+aF)),ak aI a_.2.1,j fz.2,ai a_.2.2.1,.aK,j a_.2.2.2])] ?_ ?_
 ·clear h; have h:=aa; clear aa
  refine W.bw h q (λk2 h=>?_) (λk2 h=>?_)
  ·refine W.bY [0,5,6] (aj (O.bh q (.obj q) ze q)<|ar.dI (G2:=[(0,_),(5,_),(6,_)]) (cs2:=[j (aQ (1+aF)),ak aI a_.2.1,j (-1),ai a_.2.2.1,.aK,j a_.2.2.2]) q (.ptr q) (.k q) q nJ q q q q (.n q q (.n q q (.b q .nil)))<|bS q) ?_
   obtain ⟨qv,aa,h⟩:=ay h
   refine W.rs [(0,.obj (d'.cells a_.1)),(5,.obj (e1.cells a2)),(6,.obj [j (aQ (1+aF)),ak aI a_.2.1,j (-1),ai a_.2.2.1,.aK,j a_.2.2.2]),(142,a1 qv)] ?_ ?_
   ·refine aj (O.bh q (.obj q) tx q)<|aj (O.bh q (.ptr q) u7 q)<|aj (O.cw q (.ptr q) ns q)<|aj (O.aA (.lit q)) ?_
    rcases cz aa with ⟨js,aa⟩ | ⟨js,aa⟩
    ·obtain rfl:=au aa
     exact ar.aW
    ·refine aM js (O.aA (.obj q))<|aM js (O.bh q (.obj q) tx q)<|aM js (O.bh q (.ptr q) kB q)<|aM js (O.cw q (.ptr q) e4 q) ?_
     obtain ⟨gK,nb,aa⟩:=ay aa
     obtain rfl:=au aa
     exact ar.c (cu.vw (ys:=[.ptr ⟨0,[]⟩ 0,ai a2.Prec.Name]) q (.c (View.n9 q q) (.s .nil)) (xa a_.1 a2.Prec.Name _ nb) call96 q) q q (.hh q q js)<|ar.aW
   obtain ⟨oJ,aa,h⟩:=ay h
   refine W.bB [(0,.obj (d'.cells oJ.1)),(6,.obj [j (aQ (1+aF)),ak aI a_.2.1,j oJ.2,ai a_.2.2.1,.aK,j a_.2.2.2])] ?_ ?_
   ·clear h; have h:=aa; clear aa
    refine W.bw h q (λey h=>?_) (λey h=>?_)
    ·obtain ⟨gm,n1,h⟩:=ay h
     refine W.bm [0,6] (aj (O.aA (.obj q))<|aj (O.bh q (.obj q) tx q)<|aj (O.dW (cs':=[ai a2.Prec.Name,a1 a2.Prec.Lit,j a2.Prec.c7,j a2.Prec.At]) q (.ptr q) lW q q)<|ar.iT q (cj.call q q (hV.nG (G2:=[(6,.obj [j (aQ (1+aF)),ak aI a_.2.1,j (-1),ai a_.2.2.1,.aK,j a_.2.2.2])]) (A:=[]) (ys:=[.ptr ⟨0,[]⟩ 0,.agg (dJ.cells a2.Prec)]) (args:=[.obj (d'.cells a_.1),.agg (dJ.cells a2.Prec)]) (cs':=[ak bp gm.2.aq.a',ak a6 gm.2.aq.bu,ak bG gm.2.aq.ba,ai gm.2.aq.bA,ai gm.2.aq.bF,ak bJ gm.2.bZ,ak a6 gm.2.bV,ak cy gm.2.bH,j gm.2.cd,j gm.2.cg,ai gm.2.cc,j gm.2.bU,j gm.2.bD]) (k0:=0) q q q q (.b q (.n q .nil)) q (Jj a_.1 a2.Prec _ n1) call115 (.n q .nil) q q (.n q .nil) .nil q))<|aj (O.bh q (.obj q) ze q)<|ar.dI (G2:=[(0,_),(6,_)]) (cs2:=[j (aQ (1+aF)),ak aI a_.2.1,j gm.1,ai a_.2.2.1,.aK,j a_.2.2.2]) q (.ptr q) (.lit q) q nJ q q q q (.n q q (.b q .nil))<|bS q) ?_
     obtain rfl:=au h
     exact af.bB (fG q q)
    ·obtain ⟨gS,vu,h⟩:=ay h
     refine W.bm [0,6] (aj (O.aA (.obj q))<|aj (O.bh q (.obj q) tx q)<|aj (O.bh q (.ptr q) rD q)<|aj (O.cw q (.ptr q) cr q)<|aj (O.bh q (.obj q) tx q)<|aj (O.bh q (.ptr q) kB q)<|aj (O.cw q (.ptr q) e4 q)<|ar.iT q (cj.call q q (hV.nG (G2:=[(6,.obj [j (aQ (1+aF)),ak aI a_.2.1,j (-1),ai a_.2.2.1,.aK,j a_.2.2.2])]) (A:=[]) (ys:=[.ptr ⟨0,[]⟩ 0,j a2.Prec.At,ai a2.Prec.Name]) (args:=[.obj (d'.cells a_.1),j a2.Prec.At,ai a2.Prec.Name]) (cs':=[ak bp gS.aq.a',ak a6 gS.aq.bu,ak bG gS.aq.ba,ai gS.aq.bA,ai gS.aq.bF,ak bJ gS.bZ,ak a6 gS.bV,ak cy gS.bH,j gS.cd,j gS.cg,ai gS.cc,j gS.bU,j gS.bD]) (k0:=0) q q q q (.b q (.n q (.n q .nil))) q (uZ a_.1 a2.Prec.At a2.Prec.Name _ vu) call94 (.n q .nil) q q (.n q .nil) .nil q))<|bS q) ?_
     obtain rfl:=au h
     exact af.bB (fG q q)
   obtain rfl:=au h
   exact af.bB (fG q q)
  ·refine W.bI ?_
   obtain rfl:=au h
   exact af.bB (fG q q)
 refine af.aX ?_
 obtain ⟨iA,qU,h⟩:=ay h
 refine W.bY [0,6] (aj (O.dz (ys:=[]) aI ([]:List Int) fk q q q q q q oS q q)<|aj (O.bh q (.obj q) m_ q)<|aj (O.dm (y:=.bn aI.z ⟨6,[1]⟩ a_.2.1.length) q (.ptr q) hM q q)<|aj (O.ap (en:=aI) (r:=iA) (.own q) q (.bn q) (.flat aI q) ov q qU)<|aj (O.bh q (.obj q) JT q)<|ar.iT (G2:=[(0,.obj (d'.cells fz.1)),(6,.obj [j (aQ (1+aF)),ak aI a_.2.1,j fz.2,ai a_.2.2.1,ak aI (([]:List Int)++a_.2.1),j a_.2.2.2])]) q (cj.nn (g1:=_) (en:=aI) (M:=a_.2.1) (cs2:=[j (aQ (1+aF)),ak aI a_.2.1,j fz.2,ai a_.2.2.1,ak aI (([]:List Int)++a_.2.1),j a_.2.2.2]) q q (.ptr q) (.bX q) q q q .j8 .gR q q wu q q q q (.n q q (.b q .nil)))<|bS q) ?_
 refine W.e7 (G1:=[(0,_),(6,.obj [j (aQ (1+aF)),ah aI a_.2.1,j fz.2,ai a_.2.2.1,ak aI (([]:List Int)++a_.2.1),j a_.2.2.2])]) [6] (.n q q (.z q q (gU.obj (.f (.z (.f (.f (.f (.f .nil))))))) .nil)) ?_
 refine W.e7 (G1:=[(0,_),(6,.obj [j (aQ (1+aF)),ah aI a_.2.1,j fz.2,ai a_.2.2.1,ah aI (([]:List Int)++a_.2.1),j a_.2.2.2])]) [6] (.n q q (.z q q (gU.obj (.f (.f (.f (.f (.z (.f .nil))))))) .nil)) ?_
 obtain ⟨jK,mE,h⟩:=ay h
 refine W.rd [[],[],[1],[1,2],[1,2,3],[1,2,3,4],[],[6],aP 1 7 [],aP 0 9 [],aP 0 10 [],aP 0 11 [],aP 0 12 []] [(0,_)] ez (by kernel_rfl) (av 0 (O.aA (.obj q))<|av 1 (O.aA (.obj q))<|av 2 (O.fj (.ptr q))<|av 3 (O.bh q (.ptr q) kj q)<|av 4 (O.bh q (.ptr q) lG q)<|av 5 (O.dm (y:=.bn bG.z ⟨0,[2]⟩ fz.1.aq.ba.length) q (.ptr q) mY q q)<|av 6 (O.dW (cs':=[j (aQ (1+aF)),ah aI a_.2.1,j fz.2,ai a_.2.2.1,ah aI (([]:List Int)++a_.2.1),j a_.2.2.2]) q (.obj q) IJ q q)<|bL.fC 7 (x:=ah bG [(⟨aQ (1+aF),a_.2.1,fz.2,a_.2.2.1,([]:List Int)++a_.2.1,a_.2.2.2⟩:Prod)]) (O.dz (ys:=[.agg [j (aQ (1+aF)),ah aI a_.2.1,j fz.2,ai a_.2.2.1,ah aI (([]:List Int)++a_.2.1),j a_.2.2.2]]) bG [(⟨aQ (1+aF),a_.2.1,fz.2,a_.2.2.1,([]:List Int)++a_.2.1,a_.2.2.2⟩:Prod)] nm q q q q q q H5 q q) q q q q .none<|av 8 (O.ap (en:=bG) (r:=jK) (.bn q) q (.aE q) .i IA q mE)<|av 9 (O.fj (.ptr q))<|av 10 (O.bh q (.ptr q) kj q)<|av 11 (O.bh q (.ptr q) lG q)<|bL.jG 12 (G2:=[(0,.obj [ak bp fz.1.aq.a',ak a6 fz.1.aq.bu,ak bG (fz.1.aq.ba++[(⟨aQ (1+aF),a_.2.1,fz.2,a_.2.2.1,([]:List Int)++a_.2.1,a_.2.2.2⟩:Prod)]),ai fz.1.aq.bA,ai fz.1.aq.bF,ak bJ fz.1.bZ,ak a6 fz.1.bV,ak cy fz.1.bH,j fz.1.cd,j fz.1.cg,ai fz.1.cc,j fz.1.bU,j fz.1.bD])]) (cj.nn (g1:=_) (en:=bG) (M:=[(⟨aQ (1+aF),a_.2.1,fz.2,a_.2.2.1,([]:List Int)++a_.2.1,a_.2.2.2⟩:Prod)]) (cs2:=[ak bp fz.1.aq.a',ak a6 fz.1.aq.bu,ak bG (fz.1.aq.ba++[(⟨aQ (1+aF),a_.2.1,fz.2,a_.2.2.1,([]:List Int)++a_.2.1,a_.2.2.2⟩:Prod)]),ai fz.1.aq.bA,ai fz.1.aq.bF,ak bJ fz.1.bZ,ak a6 fz.1.bV,ak cy fz.1.bH,j fz.1.cd,j fz.1.cg,ai fz.1.cc,j fz.1.bU,j fz.1.bD]) q q (.ptr q) (.bX q) q q q .j8 .gR q q HO q q q q (.b q .nil)) q q q q (by kernel_rfl) (by kernel_rfl)<|bL.fin q q q (.n q .nil)) ?_
 obtain rfl:=au h
 exact af.fin (Fin.ro .nil q (pn (by kernel_rfl)) (.aB q q (.no (.no .nil))) q (.inl q))
theorem Pm (a0:Int) (r:ByteArray) (h:Bk a0=some r):cb Try.prog 99 [j a0] [none] (ai r):=by
 unfold Bk at h
 refine cb.go (N:=⟨32,[]⟩) Try.func99 q q q q (W.fin ?_)
 refine W.st [(0,j a0)] ?_
 refine W.aU [0] ?_
 refine W.bY [0,3] (bq q<|aj (O.Ci (.lit q) GH LC)<|ar.aW) ?_
 refine W.aZ<|W.aU [0,3,8] ?_
 obtain ⟨je,aa,h⟩:=ay h
 refine W.bB [(0,j a0),(3,.lit (.int .u64 je))] ?_ ?_
 ·clear h; have h:=aa; clear aa
  refine W.bw h q (λcO h=>?_) (λcO h=>?_)
  ·refine W.bm [0,3] (bq q<|aj (O.neg (.lit q))<|ar.bm [0,10] q<|ar.aW) ?_
   obtain rfl:=au h
   exact af.bB (fG q q)
  ·refine W.bI ?_
   obtain rfl:=au h
   exact af.bB (fG q q)
 refine af.aX<|W.aU [0,3,4] ?_
 refine W.aZ<|W.bk ?_
 obtain ⟨bE,ao,h⟩:=ay h
 refine W.cf (G1:=[(0,_),(3,_),(4,_)]) (dq q q q) ?_
 refine W.eO (s:=(je,aC)) (λ(dh:Int × ByteArray)=>[(0,j a0),(3,.lit (.int .u64 dh.1)),(4,ai dh.2)]) 0 (λ(bE:ByteArray)=>[(0,j a0),(4,ai bE)]) ao (λdh o h=>?_) ?_
 ·clear ao
  refine W.aZ ?_
  obtain ⟨o4,aa,h⟩:=ay h
  refine W.rs [(0,j a0),(3,.lit (.int .u64 dh.1)),(4,ai dh.2),(16,a1 o4)] ?_ ?_
  ·refine bq q<|aj (O.gtr (.lit q) (.k q))<|aj (O.aA (.lit q)) ?_
   rcases cz aa with ⟨ec,aa⟩ | ⟨ec,aa⟩
   ·obtain rfl:=au aa
    exact ar.aW
   ·obtain rfl:=au aa
    exact ar.aW
  refine W.bw h q (λc6 h=>?_) (λc6 h=>?_)
  ·refine W.bI<|af.aX ?_
   refine W.bk ?_
   obtain ⟨cF,jP,h⟩:=ay h
   obtain ⟨bQ,jJ,h⟩:=ay h
   refine W.bY [0,3,4] (bq q<|aj (O.s3 (.lit q) (.k q) jP)<|aj (O.add (.k q) (.lit q))<|aj (O.Ci (.lit q) LC GI)<|ar.fC (x:=ah o5 [uF (IntKind.u64.wrap (48+cF))]) (O.dz (ys:=[ml (uF (IntKind.u64.wrap (48+cF)))]) o5 [uF (IntKind.u64.wrap (48+cF))] HG q q q q q q Nj q q) q q .none<|aj (O.JE (.aE q) I0)<|bq q<|aj (O.cat (.lit q) (.lit q) jJ)<|ar.bm [0,3,24] q<|ar.aW) ?_
   obtain ⟨b1,hn,h⟩:=ay h
   refine W.bm [0,3,4] (bq q<|aj (O.sX (.lit q) (.k q) hn)<|ar.bm [0,4,26] q<|ar.aW) ?_
   refine af.bk ?_
   obtain rfl:=au h
   exact af.go (dq q q q)
  ·refine W.da ?_
   refine af.c' ?_
   obtain rfl:=au h
   exact af.aF (fG q q)
 refine af.db ?_
 refine af.aX<|W.aZ ?_
 refine W.aU [4,28] ?_
 refine W.bw h q (λeb h=>?_) (λeb h=>?_)
 ·obtain ⟨ei,kG,h⟩:=ay h
  refine W.bY [2] (bq q<|aj (O.cat (.k q) (.lit q) kG)<|ar.aW) ?_
  refine W.rt ?_
  refine af.cK ?_
  obtain rfl:=au h
  exact cx (.f q q .nil)
 ·refine W.bI<|af.aX ?_
  refine W.aU [2] ?_
  refine W.rt ?_
  obtain rfl:=au h
  exact cx (.f q q .nil)
theorem Pa (a0:Source) (r:b_ × Int × Int × ByteArray) (h:A' a0=some r):cb Try.prog 78 [.agg (dY.cells a0)] [none] (.cB [.agg (cm.cells r.1),j r.2.1,j r.2.2.1,ai r.2.2.2]):=by
 unfold A' at h
 refine cb.go (N:=⟨435,[]⟩) Try.func78 q q q q (W.fin ?_)
 refine W.st [(0,.agg (dY.cells a0))] ?_
 refine W.bY [1,2] (aj (O.box (.b' q q) q)<|aj (O.fL (cs:=[.aK,.aK,.aK,ai aC,ai aC]) og q q)<|ar.aW) ?_
 refine W.aZ ?_
 obtain ⟨aF,fI,h⟩:=ay h
 refine W.bY [1,2,28] (aj (O.dW (cs':=[ai a0.bA,ah de a0.Decls,ah ia a0.eG,ai a0.bF]) q (.obj q) uQ q q)<|ee (cu.go (.b0 (.b' q q) .nil) (Pj a0 _ fI) call92 q)<|ar.aW) ?_
 refine W.bw h q (λcO h=>?_) (λcO h=>?_)
 ·refine W.bY [2,3,4,5] (aj (O.dR (cs:=[.aK,.aK,.aK,ai aC,ai aC]) HB og q q q)<|ar.dI (G2:=[(2,_)]) (cs2:=[.aK,.aK,.aK,ai aC,ai aC]) q (.obj q) (.b' q q) q mR q q q q (.b q .nil)<|ar.aW) ?_
  refine W.e7 (G1:=[(2,.obj [ah bp ([]:List b5),ah a6 ([]:List e2),ah bG ([]:List Prod),ai aC,ai aC]),(3,_),(4,_),(5,_)]) [2] (.z q q (gU.obj (.z (.z (.z (.f (.f .nil)))))) (.n q q (.n q q (.n q q .nil)))) ?_
  refine W.rt ?_
  refine af.cK ?_
  obtain rfl:=au h
  exact cx (.c (ys0:=[ah bp ([]:List b5),ah a6 ([]:List e2),ah bG ([]:List Prod),ai aC,ai aC]) q gv q q q (.f q (.f q (.f q (.f q (.f q .nil))))) (.f q q (.f q q (.f q q .nil))))
 ·refine W.bI<|af.aX ?_
  obtain ⟨a_,hd,h⟩:=ay h
  refine W.bY [1,2,6] (aj (O.mk (en:=bJ) (z0:=false) oN (.k q) (.k q) H2 q q hd Ed q)<|aj (O.dR (cs:=[.aK,.aK,.aK,ai aC,ai aC,.bn bJ.z ⟨30,[]⟩ a_.length,.aK,.aK,j 0,j 0,ai aC,j 0,j 0]) T7 U0 q q q)<|aj (O.box (.b' q q) q)<|ar.gd (G2:=[(1,.obj (dY.cells a0)),(2,.obj [.aK,.aK,.aK,ai aC,ai aC])]) q (cj.B1 (y':=.obj [.aK,.aK,.aK,ai aC,ai aC,ak bJ a_,.aK,.aK,j 0,j 0,ai aC,j 0,j 0]) q q (.obj q) (.b q (.f (.f (.f (.f (.f (.r q (.f (.f (.f (.f (.f (.f (.f .nil))))))))))))) .nil) .refl (fG q q) q q)<|bS q) ?_
  refine W.bY [1,2,6] (aj (O.aA (.obj q))<|aj (O.dR (cs:=[ai ({ data:=#[36,101,110,100] }),a1 false,j 0,j 0,j 0,ai aC]) DA wD q q q)<|aj (O.dR (cs:=[ai ({ data:=#[101,114,114,111,114] }),a1 false,j (-1),j 0,j 0,ai aC]) DA wD q q q)<|aj (O.dR (cs:=[ai ({ data:=#[36,117,110,107] }),a1 false,j (-1),j 0,j 0,ai aC]) DA wD q q q)<|aj (O.dz (ys:=[.agg [ai ({ data:=#[36,101,110,100] }),a1 false,j 0,j 0,j 0,ai aC],.agg [ai ({ data:=#[101,114,114,111,114] }),a1 false,j (-1),j 0,j 0,ai aC],.agg [ai ({ data:=#[36,117,110,107] }),a1 false,j (-1),j 0,j 0,ai aC]]) bp [(⟨{ data:=#[36,101,110,100] },false,0,0,0,aC⟩:b5),(⟨{ data:=#[101,114,114,111,114] },false,(-1),0,0,aC⟩:b5),(⟨{ data:=#[36,117,110,107] },false,(-1),0,0,aC⟩:b5)] qe q q q q q q Nk q q)<|aj (O.fj (.ptr q))<|aj (O.bh q (.ptr q) kj q)<|aj (O.bh q (.ptr q) ox q)<|ar.iT (G2:=[(1,.obj (dY.cells a0)),(2,.obj [.aK,.aK,.aK,ai aC,ai aC]),(6,.obj [ak bp [(⟨{ data:=#[36,101,110,100] },false,0,0,0,aC⟩:b5),(⟨{ data:=#[101,114,114,111,114] },false,(-1),0,0,aC⟩:b5),(⟨{ data:=#[36,117,110,107] },false,(-1),0,0,aC⟩:b5)],.aK,.aK,ai aC,ai aC,ak bJ a_,.aK,.aK,j 0,j 0,ai aC,j 0,j 0])]) q (cj.yo (y':=ak bp [(⟨{ data:=#[36,101,110,100] },false,0,0,0,aC⟩:b5),(⟨{ data:=#[101,114,114,111,114] },false,(-1),0,0,aC⟩:b5),(⟨{ data:=#[36,117,110,107] },false,(-1),0,0,aC⟩:b5)]) (cs2:=[ak bp [(⟨{ data:=#[36,101,110,100] },false,0,0,0,aC⟩:b5),(⟨{ data:=#[101,114,114,111,114] },false,(-1),0,0,aC⟩:b5),(⟨{ data:=#[36,117,110,107] },false,(-1),0,0,aC⟩:b5)],.aK,.aK,ai aC,ai aC,ak bJ a_,.aK,.aK,j 0,j 0,ai aC,j 0,j 0]) q q (.ptr q) (.own q) (.r q .nil) .refl q MM q q q q q (.n q q (.n q q (.b q .nil))))<|bS q) ?_
  refine W.aU [1,2,6,7] ?_
  refine W.aZ<|W.aU [1,2,6,7,8] ?_
  refine W.bk ?_
  obtain ⟨cq,ao,h⟩:=ay h
  refine W.cf (G1:=[(1,_),(2,_),(6,.obj [ak bp (((⟨(⟨[(⟨{ data:=#[36,101,110,100] },false,0,0,0,aC⟩:b5),(⟨{ data:=#[101,114,114,111,114] },false,(-1),0,0,aC⟩:b5),(⟨{ data:=#[36,117,110,107] },false,(-1),0,0,aC⟩:b5)],[],[],aC,aC⟩:b_),a_,[],[],0,0,aC,0,0⟩:cR).aq).a'),ak a6 (((⟨(⟨[(⟨{ data:=#[36,101,110,100] },false,0,0,0,aC⟩:b5),(⟨{ data:=#[101,114,114,111,114] },false,(-1),0,0,aC⟩:b5),(⟨{ data:=#[36,117,110,107] },false,(-1),0,0,aC⟩:b5)],[],[],aC,aC⟩:b_),a_,[],[],0,0,aC,0,0⟩:cR).aq).bu),ak bG (((⟨(⟨[(⟨{ data:=#[36,101,110,100] },false,0,0,0,aC⟩:b5),(⟨{ data:=#[101,114,114,111,114] },false,(-1),0,0,aC⟩:b5),(⟨{ data:=#[36,117,110,107] },false,(-1),0,0,aC⟩:b5)],[],[],aC,aC⟩:b_),a_,[],[],0,0,aC,0,0⟩:cR).aq).ba),ai (((⟨(⟨[(⟨{ data:=#[36,101,110,100] },false,0,0,0,aC⟩:b5),(⟨{ data:=#[101,114,114,111,114] },false,(-1),0,0,aC⟩:b5),(⟨{ data:=#[36,117,110,107] },false,(-1),0,0,aC⟩:b5)],[],[],aC,aC⟩:b_),a_,[],[],0,0,aC,0,0⟩:cR).aq).bA),ai (((⟨(⟨[(⟨{ data:=#[36,101,110,100] },false,0,0,0,aC⟩:b5),(⟨{ data:=#[101,114,114,111,114] },false,(-1),0,0,aC⟩:b5),(⟨{ data:=#[36,117,110,107] },false,(-1),0,0,aC⟩:b5)],[],[],aC,aC⟩:b_),a_,[],[],0,0,aC,0,0⟩:cR).aq).bF),ak bJ ((⟨(⟨[(⟨{ data:=#[36,101,110,100] },false,0,0,0,aC⟩:b5),(⟨{ data:=#[101,114,114,111,114] },false,(-1),0,0,aC⟩:b5),(⟨{ data:=#[36,117,110,107] },false,(-1),0,0,aC⟩:b5)],[],[],aC,aC⟩:b_),a_,[],[],0,0,aC,0,0⟩:cR).bZ),ak a6 ((⟨(⟨[(⟨{ data:=#[36,101,110,100] },false,0,0,0,aC⟩:b5),(⟨{ data:=#[101,114,114,111,114] },false,(-1),0,0,aC⟩:b5),(⟨{ data:=#[36,117,110,107] },false,(-1),0,0,aC⟩:b5)],[],[],aC,aC⟩:b_),a_,[],[],0,0,aC,0,0⟩:cR).bV),ak cy ((⟨(⟨[(⟨{ data:=#[36,101,110,100] },false,0,0,0,aC⟩:b5),(⟨{ data:=#[101,114,114,111,114] },false,(-1),0,0,aC⟩:b5),(⟨{ data:=#[36,117,110,107] },false,(-1),0,0,aC⟩:b5)],[],[],aC,aC⟩:b_),a_,[],[],0,0,aC,0,0⟩:cR).bH),j ((⟨(⟨[(⟨{ data:=#[36,101,110,100] },false,0,0,0,aC⟩:b5),(⟨{ data:=#[101,114,114,111,114] },false,(-1),0,0,aC⟩:b5),(⟨{ data:=#[36,117,110,107] },false,(-1),0,0,aC⟩:b5)],[],[],aC,aC⟩:b_),a_,[],[],0,0,aC,0,0⟩:cR).cd),j ((⟨(⟨[(⟨{ data:=#[36,101,110,100] },false,0,0,0,aC⟩:b5),(⟨{ data:=#[101,114,114,111,114] },false,(-1),0,0,aC⟩:b5),(⟨{ data:=#[36,117,110,107] },false,(-1),0,0,aC⟩:b5)],[],[],aC,aC⟩:b_),a_,[],[],0,0,aC,0,0⟩:cR).cg),ai ((⟨(⟨[(⟨{ data:=#[36,101,110,100] },false,0,0,0,aC⟩:b5),(⟨{ data:=#[101,114,114,111,114] },false,(-1),0,0,aC⟩:b5),(⟨{ data:=#[36,117,110,107] },false,(-1),0,0,aC⟩:b5)],[],[],aC,aC⟩:b_),a_,[],[],0,0,aC,0,0⟩:cR).cc),j ((⟨(⟨[(⟨{ data:=#[36,101,110,100] },false,0,0,0,aC⟩:b5),(⟨{ data:=#[101,114,114,111,114] },false,(-1),0,0,aC⟩:b5),(⟨{ data:=#[36,117,110,107] },false,(-1),0,0,aC⟩:b5)],[],[],aC,aC⟩:b_),a_,[],[],0,0,aC,0,0⟩:cR).bU),j ((⟨(⟨[(⟨{ data:=#[36,101,110,100] },false,0,0,0,aC⟩:b5),(⟨{ data:=#[101,114,114,111,114] },false,(-1),0,0,aC⟩:b5),(⟨{ data:=#[36,117,110,107] },false,(-1),0,0,aC⟩:b5)],[],[],aC,aC⟩:b_),a_,[],[],0,0,aC,0,0⟩:cR).bD)]),(7,_),(8,_)]) (.n q (.n q (.w q q (kT.obj (.f (.o (.o (.f (.f (.f (.o (.o (.f (.f (.f (.f (.f .nil)))))))))))))) (fG q q)))) ?_
  refine W.eO (s:=((⟨(⟨[(⟨{ data:=#[36,101,110,100] },false,0,0,0,aC⟩:b5),(⟨{ data:=#[101,114,114,111,114] },false,(-1),0,0,aC⟩:b5),(⟨{ data:=#[36,117,110,107] },false,(-1),0,0,aC⟩:b5)],[],[],aC,aC⟩:b_),a_,[],[],0,0,aC,0,0⟩:cR),aC,0)) (λ(bN:cR × ByteArray × Int)=>[(1,.obj (dY.cells a0)),(2,.obj [.aK,.aK,.aK,ai aC,ai aC]),(6,.obj (d'.cells bN.1)),(7,ai bN.2.1),(8,j bN.2.2)]) 0 (λ(cq:cR × ByteArray)=>[(1,.obj (dY.cells a0)),(2,.obj [.aK,.aK,.aK,ai aC,ai aC]),(6,.obj (d'.cells cq.1)),(7,ai cq.2)]) ao (λbN o h=>?_) ?_
  ·clear ao
   refine W.aZ<|W.aU [1,2,6,7,8,45] ?_
   refine W.bw h q (λc5 h=>?_) (λc5 h=>?_)
   ·refine W.bI<|af.aX ?_
    refine W.aZ<|W.bk ?_
    obtain ⟨b3,ho,h⟩:=ay h
    refine W.bY [1,2,6,7,8,9] (aj (O.bh q (.obj q) zl q)<|aj (O.dm (y:=ah de a0.Decls) q (.ptr q) y7 q q)<|bq q<|aj (O.cC (.aE q) (.lit q) uB ho)<|aj (O.iV (cs':=[j b3.Kind,ai b3.Tag,ah dJ b3.fo,j b3.At]) (.bo q) D_ q q)<|aj (O.fL (cs:=[j 0,ai aC,.aK,j 0]) Na q q)<|ar.dI (G2:=[(1,_),(2,_),(6,_),(7,_),(8,_),(9,_)]) (cs2:=[j b3.Kind,ai b3.Tag,ah dJ b3.fo,j b3.At]) q (.obj q) (.b' q q) q Um q q q q (.n q q (.n q q (.n q q (.n q q (.n q q (.b q .nil))))))<|bS q) ?_
    refine W.aZ ?_
    obtain ⟨iS,aa,h⟩:=ay h
    refine W.rs [(1,.obj (dY.cells a0)),(2,.obj [.aK,.aK,.aK,ai aC,ai aC]),(6,.obj (d'.cells bN.1)),(7,ai bN.2.1),(8,j bN.2.2),(9,.obj (de.cells b3)),(60,a1 iS)] ?_ ?_
    ·refine aj (O.bh q (.obj q) o7 q)<|aj (O.cw q (.ptr q) cr q)<|aj (O.geq (.lit q) (.k q))<|aj (O.aA (.lit q)) ?_
     rcases cz aa with ⟨dp,aa⟩ | ⟨dp,aa⟩
     ·obtain rfl:=au aa
      exact ar.aW
     ·obtain rfl:=au aa
      exact ar.aW
    obtain ⟨hf,aa,h⟩:=ay h
    refine W.bB [(1,.obj (dY.cells a0)),(2,.obj [.aK,.aK,.aK,ai aC,ai aC]),(6,.obj [ak bp bN.1.aq.a',ak a6 bN.1.aq.bu,ak bG bN.1.aq.ba,ai bN.1.aq.bA,ai bN.1.aq.bF,ak bJ bN.1.bZ,ak a6 bN.1.bV,ak cy bN.1.bH,j bN.1.cd,j bN.1.cg,ai bN.1.cc,j hf,j bN.1.bD]),(7,ai bN.2.1),(8,j bN.2.2),(9,.obj (de.cells b3))] ?_ ?_
    ·clear h; have h:=aa; clear aa
     refine W.bw h q (λeb h=>?_) (λeb h=>?_)
     ·refine W.bm [1,2,6,7,8,9] (aj (O.aA (.obj q))<|aj (O.fj (.ptr q))<|aj (O.bh q (.ptr q) Co q)<|aj (O.cw q (.ptr q) cr q)<|aj (O.add (.lit q) (.k q))<|aj (O.fj (.ptr q))<|aj (O.bh q (.ptr q) Co q)<|ar.dI (G2:=[(1,_),(2,_),(6,_),(7,_),(8,_),(9,_)]) (cs2:=[ak bp bN.1.aq.a',ak a6 bN.1.aq.bu,ak bG bN.1.aq.ba,ai bN.1.aq.bA,ai bN.1.aq.bF,ak bJ bN.1.bZ,ak a6 bN.1.bV,ak cy bN.1.bH,j bN.1.cd,j bN.1.cg,ai bN.1.cc,j (aQ (bN.1.bU+1)),j bN.1.bD]) q (.ptr q) (.lit q) q nJ q q q q (.n q q (.n q q (.b q (.n q q (.n q q (.n q q .nil))))))<|bS q) ?_
      obtain rfl:=au h
      exact af.bB (fp q q q q q q)
     ·refine W.bI ?_
      obtain rfl:=au h
      exact af.bB (fp q q q q q q)
    refine af.aX<|W.aU [1,2,6,7,8,9,10] ?_
    refine W.bk ?_
    obtain ⟨eo,ao,h⟩:=ay h
    refine W.cf (G1:=[(1,_),(2,_),(6,.obj [ak bp (((⟨bN.1.aq,bN.1.bZ,bN.1.bV,bN.1.bH,bN.1.cd,bN.1.cg,bN.1.cc,hf,bN.1.bD⟩:cR).aq).a'),ak a6 (((⟨bN.1.aq,bN.1.bZ,bN.1.bV,bN.1.bH,bN.1.cd,bN.1.cg,bN.1.cc,hf,bN.1.bD⟩:cR).aq).bu),ak bG (((⟨bN.1.aq,bN.1.bZ,bN.1.bV,bN.1.bH,bN.1.cd,bN.1.cg,bN.1.cc,hf,bN.1.bD⟩:cR).aq).ba),ai (((⟨bN.1.aq,bN.1.bZ,bN.1.bV,bN.1.bH,bN.1.cd,bN.1.cg,bN.1.cc,hf,bN.1.bD⟩:cR).aq).bA),ai (((⟨bN.1.aq,bN.1.bZ,bN.1.bV,bN.1.bH,bN.1.cd,bN.1.cg,bN.1.cc,hf,bN.1.bD⟩:cR).aq).bF),ak bJ ((⟨bN.1.aq,bN.1.bZ,bN.1.bV,bN.1.bH,bN.1.cd,bN.1.cg,bN.1.cc,hf,bN.1.bD⟩:cR).bZ),ak a6 ((⟨bN.1.aq,bN.1.bZ,bN.1.bV,bN.1.bH,bN.1.cd,bN.1.cg,bN.1.cc,hf,bN.1.bD⟩:cR).bV),ak cy ((⟨bN.1.aq,bN.1.bZ,bN.1.bV,bN.1.bH,bN.1.cd,bN.1.cg,bN.1.cc,hf,bN.1.bD⟩:cR).bH),j ((⟨bN.1.aq,bN.1.bZ,bN.1.bV,bN.1.bH,bN.1.cd,bN.1.cg,bN.1.cc,hf,bN.1.bD⟩:cR).cd),j ((⟨bN.1.aq,bN.1.bZ,bN.1.bV,bN.1.bH,bN.1.cd,bN.1.cg,bN.1.cc,hf,bN.1.bD⟩:cR).cg),ai ((⟨bN.1.aq,bN.1.bZ,bN.1.bV,bN.1.bH,bN.1.cd,bN.1.cg,bN.1.cc,hf,bN.1.bD⟩:cR).cc),j ((⟨bN.1.aq,bN.1.bZ,bN.1.bV,bN.1.bH,bN.1.cd,bN.1.cg,bN.1.cc,hf,bN.1.bD⟩:cR).bU),j ((⟨bN.1.aq,bN.1.bZ,bN.1.bV,bN.1.bH,bN.1.cd,bN.1.cg,bN.1.cc,hf,bN.1.bD⟩:cR).bD)]),(7,_),(8,_),(9,_),(10,_)]) (hq q q q q q q q) ?_
    refine W.eO (s:=((⟨bN.1.aq,bN.1.bZ,bN.1.bV,bN.1.bH,bN.1.cd,bN.1.cg,bN.1.cc,hf,bN.1.bD⟩:cR),bN.2.1,0)) (λ(eA:cR × ByteArray × Int)=>[(1,.obj (dY.cells a0)),(2,.obj [.aK,.aK,.aK,ai aC,ai aC]),(6,.obj (d'.cells eA.1)),(7,ai eA.2.1),(8,j bN.2.2),(9,.obj (de.cells b3)),(10,j eA.2.2)]) 2 (λ(eo:cR × ByteArray)=>[(1,.obj (dY.cells a0)),(2,.obj [.aK,.aK,.aK,ai aC,ai aC]),(6,.obj (d'.cells eo.1)),(7,ai eo.2),(8,j bN.2.2)]) ao (λeA o h=>?_) ?_
    ·clear ao
     refine W.aZ<|W.aU [1,2,6,7,8,9,10,72] ?_
     refine W.bw h q (λiE h=>?_) (λiE h=>?_)
     ·refine W.bI<|af.aX ?_
      refine W.aZ ?_
      obtain ⟨Ao,aa,h⟩:=ay h
      refine W.bB [(1,.obj (dY.cells a0)),(2,.obj [.aK,.aK,.aK,ai aC,ai aC]),(6,.obj (d'.cells Ao.1)),(7,ai Ao.2),(8,j bN.2.2),(9,.obj (de.cells b3)),(10,j eA.2.2)] ?_ ?_
      ·clear h; have h:=aa; clear aa
       refine W.bk<|W.aZ ?_
       refine W.aU [1,2,6,7,8,9,10,77] ?_
       refine W.bw h q (λgW h=>?_) (λgW h=>?_)
       ·refine W.aZ ?_
        obtain ⟨eD,mA,h⟩:=ay h
        obtain ⟨c0,nZ,h⟩:=ay h
        refine W.rd [[],[],[],[2],[],[2,3,4],[2,3,4,5],aP 0 7 []] [(1,_),(2,_),(6,_),(7,_),(8,_),(9,_),(10,_)] ez (by kernel_rfl) (av 0 (O.aA (.obj q))<|av 1 (O.dW (cs':=[j b3.Kind,ai b3.Tag,ah dJ b3.fo,j b3.At]) q (.obj q) D_ q q)<|av 2 (O.bh q (.obj q) rB q)<|av 3 (O.dm (y:=ah dJ b3.fo) q (.ptr q) sh q q)<|av 4 (O.aA (.lit q))<|av 5 (O.cC (.aE q) (.lit q) rV mA)<|av 6 (O.iV (cs':=[ai eD.Name,a1 eD.Lit,j eD.c7,j eD.At]) (.bo q) lW q q)<|bL.jG 7 (G2:=[(85,.cB []),(6,.obj [ak bp c0.aq.a',ak a6 c0.aq.bu,ak bG c0.aq.ba,ai c0.aq.bA,ai c0.aq.bF,ak bJ c0.bZ,ak a6 c0.bV,ak cy c0.bH,j c0.cd,j c0.cg,ai c0.cc,j c0.bU,j c0.bD]),(1,.obj (dY.cells a0)),(2,.obj [.aK,.aK,.aK,ai aC,ai aC]),(7,ai eA.2.1),(8,j bN.2.2),(9,.obj (de.cells b3)),(10,j eA.2.2)]) (cj.call q q (hV.nG (G2:=[(1,.obj (dY.cells a0)),(2,.obj [.aK,.aK,.aK,ai aC,ai aC]),(7,ai eA.2.1),(8,j bN.2.2),(9,.obj (de.cells b3)),(10,j eA.2.2)]) (A:=[]) (ys:=[.ptr ⟨6,[]⟩ 0,.agg (de.cells b3),.agg (dJ.cells eD)]) (args:=[.obj (d'.cells eA.1),.agg (de.cells b3),.agg (dJ.cells eD)]) (cs':=[ak bp c0.aq.a',ak a6 c0.aq.bu,ak bG c0.aq.ba,ai c0.aq.bA,ai c0.aq.bF,ak bJ c0.bZ,ak a6 c0.bV,ak cy c0.bH,j c0.cd,j c0.cg,ai c0.cc,j c0.bU,j c0.bD]) (k0:=0) q q q q (.b q (.n q (.n q .nil))) q (Pk eA.1 b3 eD _ nZ) call93 (fp q q q q q q) q q (fp q q q q q q) .nil q)) q q q q (by kernel_rfl) (by kernel_rfl)<|bL.fin q q q (hq q q q q q q q)) ?_
        refine af.aX<|W.da ?_
        refine af.c' ?_
        refine af.db ?_
        obtain rfl:=au h
        exact af.bB (hq q q q q q q q)
       ·refine W.bI<|af.aX ?_
        refine W.aZ<|W.aU [1,2,6,8,9,10,87] ?_
        obtain ⟨oI,aa,h⟩:=ay h
        refine W.bB [(1,.obj (dY.cells a0)),(2,.obj [.aK,.aK,.aK,ai aC,ai aC]),(6,.obj (d'.cells oI)),(8,j bN.2.2),(9,.obj (de.cells b3)),(10,j eA.2.2)] ?_ ?_
        ·clear h; have h:=aa; clear aa
         refine W.bw h q (λeE h=>?_) (λeE h=>?_)
         ·obtain ⟨fm,pd,h⟩:=ay h
          obtain ⟨gr,mC,h⟩:=ay h
          obtain ⟨eQ,k7,h⟩:=ay h
          refine W.rd [[],[],[1],[],[1,2,3],[1,2,3,4],aP 1 5 [],[],[7],[],[7,8,9],[7,8,9,10],aP 7 5 [],aP 0 13 []] [(1,_),(2,_),(6,_),(8,_),(9,_),(10,_)] ez (by kernel_rfl) (av 0 (O.aA (.obj q))<|av 1 (O.bh q (.obj q) rB q)<|av 2 (O.dm (y:=ah dJ b3.fo) q (.ptr q) sh q q)<|av 3 (O.aA (.lit q))<|av 4 (O.cC (.aE q) (.lit q) rV pd)<|av 5 (O.ej (.bo q) rD)<|av 6 (O.c9 (x:=j fm.At) (.bo q) cr q)<|av 7 (O.bh q (.obj q) rB q)<|av 8 (O.dm (y:=ah dJ b3.fo) q (.ptr q) sh q q)<|av 9 (O.aA (.lit q))<|av 10 (O.cC (.aE q) (.lit q) rV mC)<|av 11 (O.ej (.bo q) kB)<|av 12 (O.c9 (x:=ai gr.Name) (.bo q) e4 q)<|bL.jG 13 (G2:=[(101,.cB []),(6,.obj [ak bp eQ.aq.a',ak a6 eQ.aq.bu,ak bG eQ.aq.ba,ai eQ.aq.bA,ai eQ.aq.bF,ak bJ eQ.bZ,ak a6 eQ.bV,ak cy eQ.bH,j eQ.cd,j eQ.cg,ai eQ.cc,j eQ.bU,j eQ.bD]),(1,.obj (dY.cells a0)),(2,.obj [.aK,.aK,.aK,ai aC,ai aC]),(8,j bN.2.2),(9,.obj (de.cells b3)),(10,j eA.2.2)]) (cj.call q q (hV.nG (G2:=[(1,.obj (dY.cells a0)),(2,.obj [.aK,.aK,.aK,ai aC,ai aC]),(8,j bN.2.2),(9,.obj (de.cells b3)),(10,j eA.2.2)]) (A:=[]) (ys:=[.ptr ⟨6,[]⟩ 0,j fm.At,ai gr.Name]) (args:=[.obj (d'.cells eA.1),j fm.At,ai gr.Name]) (cs':=[ak bp eQ.aq.a',ak a6 eQ.aq.bu,ak bG eQ.aq.ba,ai eQ.aq.bA,ai eQ.aq.bF,ak bJ eQ.bZ,ak a6 eQ.bV,ak cy eQ.bH,j eQ.cd,j eQ.cg,ai eQ.cc,j eQ.bU,j eQ.bD]) (k0:=0) q q q q (.b q (.n q (.n q .nil))) q (uZ eA.1 fm.At gr.Name _ k7) call94 (eW q q q q q) q q (eW q q q q q) .nil q)) q q q q (by kernel_rfl) (by kernel_rfl)<|bL.fin q q q (fp q q q q q q)) ?_
          obtain rfl:=au h
          exact af.bB (fp q q q q q q)
         ·refine W.bI ?_
          obtain rfl:=au h
          exact af.bB (fp q q q q q q)
        refine af.aX ?_
        obtain ⟨iM,qS,h⟩:=ay h
        refine W.Iv [1,2,6,7,8,9,10] ?_
        refine af.bk ?_
        obtain rfl:=au h
        exact af.bB (hq q q q q q q q)
      refine af.aX<|W.bm [1,2,6,7,8,9,10] (bq q<|aj (O.add (.lit q) (.k q))<|ar.bm [1,2,6,7,8,9,74] q<|ar.aW) ?_
      obtain rfl:=au h
      exact af.go (hq q q q q q q q)
     ·refine W.da ?_
      refine af.c' ?_
      obtain rfl:=au h
      exact af.aF (eW q q q q q)
    refine af.db ?_
    refine af.bk ?_
    refine af.aX<|W.bm [1,2,6,7,8] (bq q<|aj (O.add (.lit q) (.k q))<|ar.bm [1,2,6,7,47] q<|ar.aW) ?_
    obtain rfl:=au h
    exact af.go (eW q q q q q)
   ·refine W.da ?_
    refine af.c' ?_
    obtain rfl:=au h
    exact af.aF (dA q q q q)
  refine af.db ?_
  refine af.aX<|W.aZ ?_
  refine W.aU [1,2,6,7,11] ?_
  refine W.bk ?_
  obtain ⟨cV,ao,h⟩:=ay h
  refine W.cf (G1:=[(1,_),(2,_),(6,_),(7,_),(11,_)]) (eW q q q q q) ?_
  refine W.eO (s:=(cq.1,0)) (λ(l':cR × Int)=>[(1,.obj (dY.cells a0)),(2,.obj [.aK,.aK,.aK,ai aC,ai aC]),(6,.obj (d'.cells l'.1)),(7,ai cq.2),(11,j l'.2)]) 4 (λ(cV:cR)=>[(1,.obj (dY.cells a0)),(2,.obj [.aK,.aK,.aK,ai aC,ai aC]),(6,.obj (d'.cells cV)),(7,ai cq.2)]) ao (λl' o h=>?_) ?_
  ·clear ao
   refine W.aZ<|W.aU [1,2,6,7,11,112] ?_
   refine W.bw h q (λzO h=>?_) (λzO h=>?_)
   ·refine W.bI<|af.aX ?_
    refine W.aZ ?_
    obtain ⟨vB,aa,h⟩:=ay h
    refine W.bB [(1,.obj (dY.cells a0)),(2,.obj [.aK,.aK,.aK,ai aC,ai aC]),(6,.obj (d'.cells vB)),(7,ai cq.2),(11,j l'.2)] ?_ ?_
    ·clear h; have h:=aa; clear aa
     refine W.bk ?_
     obtain ⟨d_,sM,h⟩:=ay h
     refine W.bY [1,2,6,7,11,12] (aj (O.bh q (.obj q) o8 q)<|aj (O.dm (y:=ah ia a0.eG) q (.ptr q) pQ q q)<|bq q<|aj (O.cC (.aE q) (.lit q) pA sM)<|aj (O.iV (cs':=[ai d_.Left,ah e1 d_.fU,j d_.At]) (.bo q) IP q q)<|aj (O.fL (cs:=[ai aC,.aK,j 0]) DQ q q)<|ar.dI (G2:=[(1,_),(2,_),(6,_),(7,_),(11,_),(12,_)]) (cs2:=[ai d_.Left,ah e1 d_.fU,j d_.At]) q (.obj q) (.b' q q) q MQ q q q q (.n q q (.n q q (.n q q (.n q q (.n q q (.b q .nil))))))<|bS q) ?_
     refine W.aZ ?_
     obtain ⟨mf,sN,h⟩:=ay h
     refine W.bY [1,2,6,7,11,12,125] (aj (O.aA (.obj q))<|aj (O.bh q (.obj q) tz q)<|aj (O.cw q (.ptr q) e4 q)<|aj (O.dR (cs:=[ai d_.Left,a1 false,j 0,j 0]) wk rf q q q)<|ee (cu.vw (ys:=[.ptr ⟨6,[]⟩ 0,.agg [ai d_.Left,a1 false,j 0,j 0]]) q (.c (View.n9 q q) (.c (.yP (.s (.s (.s (.s .nil))))) .nil)) (EC l'.1 (⟨d_.Left,false,0,0⟩:Sym) _ sN) call95 q)<|ar.aW) ?_
     obtain ⟨fF,aa,h⟩:=ay h
     refine W.bB [(1,.obj (dY.cells a0)),(2,.obj [.aK,.aK,.aK,ai aC,ai aC]),(6,.obj (d'.cells fF)),(7,ai cq.2),(11,j l'.2),(12,.obj (ia.cells d_))] ?_ ?_
     ·clear h; have h:=aa; clear aa
      refine W.bw h q (λQW h=>?_) (λQW h=>?_)
      ·obtain ⟨iA,qU,h⟩:=ay h
       refine W.bm [1,2,6,7,11,12] (aj (O.aA (.obj q))<|aj (O.bh q (.obj q) J4 q)<|aj (O.cw q (.ptr q) cr q)<|aj (O.bh q (.obj q) tz q)<|aj (O.cw q (.ptr q) e4 q)<|ar.iT q (cj.call q q (hV.nG (G2:=[(1,.obj (dY.cells a0)),(2,.obj [.aK,.aK,.aK,ai aC,ai aC]),(7,ai cq.2),(11,j l'.2),(12,.obj (ia.cells d_))]) (A:=[]) (ys:=[.ptr ⟨6,[]⟩ 0,j d_.At,ai d_.Left]) (args:=[.obj (d'.cells l'.1),j d_.At,ai d_.Left]) (cs':=[ak bp iA.aq.a',ak a6 iA.aq.bu,ak bG iA.aq.ba,ai iA.aq.bA,ai iA.aq.bF,ak bJ iA.bZ,ak a6 iA.bV,ak cy iA.bH,j iA.cd,j iA.cg,ai iA.cc,j iA.bU,j iA.bD]) (k0:=0) q q q q (.b q (.n q (.n q .nil))) q (uZ l'.1 d_.At d_.Left _ qU) call94 (eW q q q q q) q q (eW q q q q q) .nil q))<|bS q) ?_
       obtain rfl:=au h
       exact af.bB (fp q q q q q q)
      ·refine W.bI ?_
       obtain rfl:=au h
       exact af.bB (fp q q q q q q)
     refine af.aX ?_
     obtain ⟨jK,mE,h⟩:=ay h
     refine W.bY [1,2,6,7,11,12,136] (aj (O.aA (.obj q))<|aj (O.bh q (.obj q) tz q)<|aj (O.cw q (.ptr q) e4 q)<|ee (cu.vw (ys:=[.ptr ⟨6,[]⟩ 0,ai d_.Left]) q (.c (View.n9 q q) (.s .nil)) (xa fF d_.Left _ mE) call96 q)<|ar.aW) ?_
     obtain ⟨GO,aa,h⟩:=ay h
     refine W.bB [(1,.obj (dY.cells a0)),(2,.obj [.aK,.aK,.aK,ai aC,ai aC]),(6,.obj [ak bp fF.aq.a',ak a6 fF.aq.bu,ak bG fF.aq.ba,ai fF.aq.bA,ai fF.aq.bF,ak bJ fF.bZ,ak a6 fF.bV,ak cy GO,j fF.cd,j fF.cg,ai fF.cc,j fF.bU,j fF.bD]),(7,ai cq.2),(11,j l'.2)] ?_ ?_
     ·clear h; have h:=aa; clear aa
      refine W.bw h q (λfY h=>?_) (λfY h=>?_)
      ·obtain ⟨r0,Ai,h⟩:=ay h
       refine W.rd [[],[],[1],[1,2],[1,2,3],[],[5],[5,6],aP 1 7 [],aP 0 9 [],aP 0 10 [],aP 0 11 []] [(1,_),(2,_),(6,_),(7,_),(11,_)] ez (by kernel_rfl) (av 0 (O.aA (.obj q))<|av 1 (O.aA (.obj q))<|av 2 (O.fj (.ptr q))<|av 3 (O.bh q (.ptr q) xj q)<|av 4 (O.dm (y:=.bn cy.z ⟨6,[7]⟩ fF.bH.length) q (.ptr q) y6 q q)<|av 5 (O.bh q (.obj q) tz q)<|av 6 (O.cw q (.ptr q) e4 q)<|bL.fC 7 (x:=ah cy [d_.Left]) (O.dz (ys:=[ai d_.Left]) cy [d_.Left] Bq q q q q q q U9 q q) q q q q .none<|av 8 (O.ap (en:=cy) (r:=r0) (.bn q) q (.aE q) .i NQ q Ai)<|av 9 (O.fj (.ptr q))<|av 10 (O.bh q (.ptr q) xj q)<|bL.jG 11 (G2:=[(1,.obj (dY.cells a0)),(2,.obj [.aK,.aK,.aK,ai aC,ai aC]),(6,.obj [ak bp fF.aq.a',ak a6 fF.aq.bu,ak bG fF.aq.ba,ai fF.aq.bA,ai fF.aq.bF,ak bJ fF.bZ,ak a6 fF.bV,ak cy (fF.bH++[d_.Left]),j fF.cd,j fF.cg,ai fF.cc,j fF.bU,j fF.bD]),(7,ai cq.2),(11,j l'.2)]) (cj.nn (g1:=_) (en:=cy) (M:=[d_.Left]) (cs2:=[ak bp fF.aq.a',ak a6 fF.aq.bu,ak bG fF.aq.ba,ai fF.aq.bA,ai fF.aq.bF,ak bJ fF.bZ,ak a6 fF.bV,ak cy (fF.bH++[d_.Left]),j fF.cd,j fF.cg,ai fF.cc,j fF.bU,j fF.bD]) q q (.ptr q) (.bX q) q q q .j8 .gR q q Uq q q q q (.n q q (.n q q (.b q (.n q q (.n q q .nil)))))) q q q q (by kernel_rfl) (by kernel_rfl)<|bL.fin q q q (eW q q q q q)) ?_
       obtain rfl:=au h
       exact af.bB (eW q q q q q)
      ·refine W.bI ?_
       obtain rfl:=au h
       exact af.bB (eW q q q q q)
     refine af.bk ?_
     obtain rfl:=au h
     exact af.bB (eW q q q q q)
    refine af.aX<|W.bm [1,2,6,7,11] (bq q<|aj (O.add (.lit q) (.k q))<|ar.bm [1,2,6,7,114] q<|ar.aW) ?_
    obtain rfl:=au h
    exact af.go (eW q q q q q)
   ·refine W.da ?_
    refine af.c' ?_
    obtain rfl:=au h
    exact af.aF (dA q q q q)
  refine af.db ?_
  refine af.aX<|W.aZ ?_
  refine W.aU [1,2,6,7,13] ?_
  refine W.bk ?_
  obtain ⟨bR,ao,h⟩:=ay h
  refine W.cf (G1:=[(1,_),(2,_),(6,_),(7,_),(13,_)]) (eW q q q q q) ?_
  refine W.eO (s:=(cV,0)) (λ(mM:cR × Int)=>[(1,.obj (dY.cells a0)),(2,.obj [.aK,.aK,.aK,ai aC,ai aC]),(6,.obj (d'.cells mM.1)),(7,ai cq.2),(13,j mM.2)]) 6 (λ(bR:cR)=>[(1,.obj (dY.cells a0)),(2,.obj [.aK,.aK,.aK,ai aC,ai aC]),(6,.obj (d'.cells bR)),(7,ai cq.2)]) ao (λmM o h=>?_) ?_
  ·clear ao
   refine W.aZ<|W.aU [1,2,6,7,13,152] ?_
   refine W.bw h q (λQ1 h=>?_) (λQ1 h=>?_)
   ·refine W.bI<|af.aX ?_
    refine W.aZ<|W.bk ?_
    refine W.aU [1,2,6,7,13,14] ?_
    refine W.bk ?_
    obtain ⟨mS,ao,h⟩:=ay h
    refine W.cf (G1:=[(1,_),(2,_),(6,_),(7,_),(13,_),(14,_)]) (fp q q q q q q) ?_
    refine W.eO (s:=(mM.1,0)) (λ(ma:cR × Int)=>[(1,.obj (dY.cells a0)),(2,.obj [.aK,.aK,.aK,ai aC,ai aC]),(6,.obj (d'.cells ma.1)),(7,ai cq.2),(13,j mM.2),(14,j ma.2)]) 8 (λ(mS:cR)=>[(1,.obj (dY.cells a0)),(2,.obj [.aK,.aK,.aK,ai aC,ai aC]),(6,.obj (d'.cells mS)),(7,ai cq.2),(13,j mM.2)]) ao (λma o h=>?_) ?_
    ·clear ao
     refine W.aZ ?_
     obtain ⟨BG,Lp,h⟩:=ay h
     refine W.aU [1,2,6,7,13,14,163] ?_
     refine W.bw h q (λFw h=>?_) (λFw h=>?_)
     ·refine W.bI<|af.aX ?_
      refine W.aZ ?_
      obtain ⟨GR,aa,h⟩:=ay h
      refine W.bB [(1,.obj (dY.cells a0)),(2,.obj [.aK,.aK,.aK,ai aC,ai aC]),(6,.obj (d'.cells GR)),(7,ai cq.2),(13,j mM.2),(14,j ma.2)] ?_ ?_
      ·clear h; have h:=aa; clear aa
       refine W.bk ?_
       obtain ⟨ta,Gs,h⟩:=ay h
       obtain ⟨iY,ue,h⟩:=ay h
       refine W.bY [1,2,6,7,13,14,15] (aj (O.bh q (.obj q) zl q)<|aj (O.dm (y:=ah de a0.Decls) q (.ptr q) y7 q q)<|bq q<|aj (O.cC (.aE q) (.lit q) uB Gs)<|aj (O.ej (.bo q) rB)<|aj (O.c9 (x:=ah dJ ta.fo) (.bo q) sh q)<|bq q<|aj (O.cC (.aE q) (.lit q) rV ue)<|aj (O.iV (cs':=[ai iY.Name,a1 iY.Lit,j iY.c7,j iY.At]) (.bo q) lW q q)<|aj (O.fL (cs:=[ai aC,a1 false,j 0,j 0]) rf q q)<|ar.dI (G2:=[(1,_),(2,_),(6,_),(7,_),(13,_),(14,_),(15,_)]) (cs2:=[ai iY.Name,a1 iY.Lit,j iY.c7,j iY.At]) q (.obj q) (.b' q q) q yq q q q q (.n q q (.n q q (.n q q (.n q q (.n q q (.n q q (.b q .nil)))))))<|bS q) ?_
       obtain ⟨El,aa,h⟩:=ay h
       refine W.rs [(1,.obj (dY.cells a0)),(2,.obj [.aK,.aK,.aK,ai aC,ai aC]),(6,.obj (d'.cells ma.1)),(7,ai cq.2),(13,j mM.2),(14,j ma.2),(15,.obj (dJ.cells iY)),(188,a1 El)] ?_ ?_
       ·refine aj (O.bh q (.obj q) zl q)<|aj (O.dm (y:=ah de a0.Decls) q (.ptr q) y7 q q)<|aj (O.aA (.lit q)) ?_
        obtain ⟨yu,Lq,aa⟩:=ay aa
        refine aj (O.cC (.aE q) (.lit q) uB Lq)<|aj (O.ej (.bo q) o7)<|aj (O.c9 (x:=j yu.Kind) (.bo q) cr q)<|aj (O.geq (.lit q) (.k q))<|aj (O.aA (.lit q)) ?_
        rcases cz aa with ⟨vi,aa⟩ | ⟨vi,aa⟩
        ·refine aM vi (O.aA (.obj q))<|aM vi (O.bh q (.obj q) kB q)<|aM vi (O.cw q (.ptr q) e4 q) ?_
         obtain ⟨kp,oG,aa⟩:=ay aa
         obtain rfl:=au aa
         exact ar.c (cu.vw (ys:=[.ptr ⟨6,[]⟩ 0,ai iY.Name]) q (.c (View.n9 q q) (.s .nil)) (xa ma.1 iY.Name _ oG) call96 q) q q (.hh q q vi)<|ar.aW
        ·obtain rfl:=au aa
         exact ar.aW
       obtain ⟨GS,aa,h⟩:=ay h
       refine W.bB [(1,.obj (dY.cells a0)),(2,.obj [.aK,.aK,.aK,ai aC,ai aC]),(6,.obj (d'.cells GS)),(7,ai cq.2),(13,j mM.2),(14,j ma.2)] ?_ ?_
       ·clear h; have h:=aa; clear aa
        refine W.bw h q (λQ6 h=>?_) (λQ6 h=>?_)
        ·obtain ⟨oe,SA,h⟩:=ay h
         refine W.bm [1,2,6,7,13,14] (aj (O.aA (.obj q))<|aj (O.bh q (.obj q) rD q)<|aj (O.cw q (.ptr q) cr q)<|aj (O.bh q (.obj q) kB q)<|aj (O.cw q (.ptr q) e4 q)<|ar.iT q (cj.call q q (hV.nG (G2:=[(1,.obj (dY.cells a0)),(2,.obj [.aK,.aK,.aK,ai aC,ai aC]),(7,ai cq.2),(13,j mM.2),(14,j ma.2)]) (A:=[]) (ys:=[.ptr ⟨6,[]⟩ 0,j iY.At,ai iY.Name]) (args:=[.obj (d'.cells ma.1),j iY.At,ai iY.Name]) (cs':=[ak bp oe.aq.a',ak a6 oe.aq.bu,ak bG oe.aq.ba,ai oe.aq.bA,ai oe.aq.bF,ak bJ oe.bZ,ak a6 oe.bV,ak cy oe.bH,j oe.cd,j oe.cg,ai oe.cc,j oe.bU,j oe.bD]) (k0:=0) q q q q (.b q (.n q (.n q .nil))) q (uZ ma.1 iY.At iY.Name _ SA) call94 (eW q q q q q) q q (eW q q q q q) .nil q))<|bS q) ?_
         obtain rfl:=au h
         exact af.bB (fp q q q q q q)
        ·refine W.bI ?_
         obtain rfl:=au h
         exact af.bB (fp q q q q q q)
       refine af.bk ?_
       obtain rfl:=au h
       exact af.bB (fp q q q q q q)
      refine af.aX<|W.bm [1,2,6,7,13,14] (bq q<|aj (O.add (.lit q) (.k q))<|ar.bm [1,2,6,7,13,165] q<|ar.aW) ?_
      obtain rfl:=au h
      exact af.go (fp q q q q q q)
     ·refine W.da ?_
      refine af.c' ?_
      obtain rfl:=au h
      exact af.aF (eW q q q q q)
    refine af.db ?_
    refine af.bk ?_
    refine af.aX<|W.bm [1,2,6,7,13] (bq q<|aj (O.add (.lit q) (.k q))<|ar.bm [1,2,6,7,154] q<|ar.aW) ?_
    obtain rfl:=au h
    exact af.go (eW q q q q q)
   ·refine W.da ?_
    refine af.c' ?_
    obtain rfl:=au h
    exact af.aF (dA q q q q)
  refine af.db ?_
  refine af.aX<|W.aZ ?_
  refine W.aU [1,2,6,7,196] ?_
  obtain ⟨vD,aa,h⟩:=ay h
  refine W.bB [(1,.obj (dY.cells a0)),(2,.obj [.aK,.aK,.aK,ai aC,ai aC]),(6,.obj (d'.cells bR)),(7,ai vD)] ?_ ?_
  ·clear h; have h:=aa; clear aa
   refine W.bw h q (λQ9 h=>?_) (λQ9 h=>?_)
   ·obtain ⟨uG,Aj,h⟩:=ay h
    refine W.bm [1,2,6,7] (aj (O.bh q (.obj q) o8 q)<|aj (O.dm (y:=ah ia a0.eG) q (.ptr q) pQ q q)<|aj (O.cC (.aE q) (.k q) pA Aj)<|aj (O.ej (.bo q) tz)<|aj (O.c9 (x:=ai uG.Left) (.bo q) e4 q)<|ar.bm [1,2,6,201] q<|ar.aW) ?_
    obtain rfl:=au h
    exact af.bB (dA q q q q)
   ·refine W.bI ?_
    obtain rfl:=au h
    exact af.bB (dA q q q q)
  refine af.aX ?_
  obtain ⟨h_,SB,h⟩:=ay h
  refine W.bY [1,2,6] (aj (O.aA (.obj q))<|aj (O.aA (.obj q))<|bq q<|ee (cu.vw (ys:=[.ptr ⟨6,[]⟩ 0,ai vD]) q (.c (View.n9 q q) (.s .nil)) (xa bR vD _ SB) call96 q)<|aj (O.add (.k q) (.lit q))<|ar.fC (x:=ah aI [aQ (1001+h_)]) (O.dz (ys:=[j (aQ (1001+h_))]) aI [aQ (1001+h_)] fk q q q q q q oS q q) q q .none<|ar.fC (x:=.agg [j 0,ah aI [aQ (1001+h_)],j (-1),ai aC,ah aI ([]:List Int),j 0]) (O.dR (cs:=[j 0,ah aI [aQ (1001+h_)],j (-1),ai aC,.aK,j 0]) HA BJ q q q) q q .none<|aj (O.dz (ys:=[.agg [j 0,ah aI [aQ (1001+h_)],j (-1),ai aC,ah aI ([]:List Int),j 0]]) bG [(⟨0,[aQ (1001+h_)],(-1),aC,([]:List Int),0⟩:Prod)] nm q q q q q q H5 q q)<|aj (O.fj (.ptr q))<|aj (O.bh q (.ptr q) kj q)<|aj (O.bh q (.ptr q) lG q)<|ar.iT (G2:=[(1,.obj (dY.cells a0)),(2,.obj [.aK,.aK,.aK,ai aC,ai aC]),(6,.obj [ak bp bR.aq.a',ak a6 bR.aq.bu,ak bG [(⟨0,[aQ (1001+h_)],(-1),aC,([]:List Int),0⟩:Prod)],ai bR.aq.bA,ai bR.aq.bF,ak bJ bR.bZ,ak a6 bR.bV,ak cy bR.bH,j bR.cd,j bR.cg,ai bR.cc,j bR.bU,j bR.bD])]) q (cj.yo (y':=ak bG [(⟨0,[aQ (1001+h_)],(-1),aC,([]:List Int),0⟩:Prod)]) (cs2:=[ak bp bR.aq.a',ak a6 bR.aq.bu,ak bG [(⟨0,[aQ (1001+h_)],(-1),aC,([]:List Int),0⟩:Prod)],ai bR.aq.bA,ai bR.aq.bF,ak bJ bR.bZ,ak a6 bR.bV,ak cy bR.bH,j bR.cd,j bR.cg,ai bR.cc,j bR.bU,j bR.bD]) q q (.ptr q) (.own q) (.r q .nil) .refl q HO q q q q q (.n q q (.n q q (.b q .nil))))<|bS q) ?_
  refine W.aZ<|W.aU [1,2,6,16] ?_
  refine W.bk ?_
  obtain ⟨a7,ao,h⟩:=ay h
  refine W.cf (G1:=[(1,_),(2,_),(6,.obj [ak bp (((⟨(⟨bR.aq.a',bR.aq.bu,[(⟨0,[aQ (1001+h_)],(-1),aC,([]:List Int),0⟩:Prod)],bR.aq.bA,bR.aq.bF⟩:b_),bR.bZ,bR.bV,bR.bH,bR.cd,bR.cg,bR.cc,bR.bU,bR.bD⟩:cR).aq).a'),ak a6 (((⟨(⟨bR.aq.a',bR.aq.bu,[(⟨0,[aQ (1001+h_)],(-1),aC,([]:List Int),0⟩:Prod)],bR.aq.bA,bR.aq.bF⟩:b_),bR.bZ,bR.bV,bR.bH,bR.cd,bR.cg,bR.cc,bR.bU,bR.bD⟩:cR).aq).bu),ak bG (((⟨(⟨bR.aq.a',bR.aq.bu,[(⟨0,[aQ (1001+h_)],(-1),aC,([]:List Int),0⟩:Prod)],bR.aq.bA,bR.aq.bF⟩:b_),bR.bZ,bR.bV,bR.bH,bR.cd,bR.cg,bR.cc,bR.bU,bR.bD⟩:cR).aq).ba),ai (((⟨(⟨bR.aq.a',bR.aq.bu,[(⟨0,[aQ (1001+h_)],(-1),aC,([]:List Int),0⟩:Prod)],bR.aq.bA,bR.aq.bF⟩:b_),bR.bZ,bR.bV,bR.bH,bR.cd,bR.cg,bR.cc,bR.bU,bR.bD⟩:cR).aq).bA),ai (((⟨(⟨bR.aq.a',bR.aq.bu,[(⟨0,[aQ (1001+h_)],(-1),aC,([]:List Int),0⟩:Prod)],bR.aq.bA,bR.aq.bF⟩:b_),bR.bZ,bR.bV,bR.bH,bR.cd,bR.cg,bR.cc,bR.bU,bR.bD⟩:cR).aq).bF),ak bJ ((⟨(⟨bR.aq.a',bR.aq.bu,[(⟨0,[aQ (1001+h_)],(-1),aC,([]:List Int),0⟩:Prod)],bR.aq.bA,bR.aq.bF⟩:b_),bR.bZ,bR.bV,bR.bH,bR.cd,bR.cg,bR.cc,bR.bU,bR.bD⟩:cR).bZ),ak a6 ((⟨(⟨bR.aq.a',bR.aq.bu,[(⟨0,[aQ (1001+h_)],(-1),aC,([]:List Int),0⟩:Prod)],bR.aq.bA,bR.aq.bF⟩:b_),bR.bZ,bR.bV,bR.bH,bR.cd,bR.cg,bR.cc,bR.bU,bR.bD⟩:cR).bV),ak cy ((⟨(⟨bR.aq.a',bR.aq.bu,[(⟨0,[aQ (1001+h_)],(-1),aC,([]:List Int),0⟩:Prod)],bR.aq.bA,bR.aq.bF⟩:b_),bR.bZ,bR.bV,bR.bH,bR.cd,bR.cg,bR.cc,bR.bU,bR.bD⟩:cR).bH),j ((⟨(⟨bR.aq.a',bR.aq.bu,[(⟨0,[aQ (1001+h_)],(-1),aC,([]:List Int),0⟩:Prod)],bR.aq.bA,bR.aq.bF⟩:b_),bR.bZ,bR.bV,bR.bH,bR.cd,bR.cg,bR.cc,bR.bU,bR.bD⟩:cR).cd),j ((⟨(⟨bR.aq.a',bR.aq.bu,[(⟨0,[aQ (1001+h_)],(-1),aC,([]:List Int),0⟩:Prod)],bR.aq.bA,bR.aq.bF⟩:b_),bR.bZ,bR.bV,bR.bH,bR.cd,bR.cg,bR.cc,bR.bU,bR.bD⟩:cR).cg),ai ((⟨(⟨bR.aq.a',bR.aq.bu,[(⟨0,[aQ (1001+h_)],(-1),aC,([]:List Int),0⟩:Prod)],bR.aq.bA,bR.aq.bF⟩:b_),bR.bZ,bR.bV,bR.bH,bR.cd,bR.cg,bR.cc,bR.bU,bR.bD⟩:cR).cc),j ((⟨(⟨bR.aq.a',bR.aq.bu,[(⟨0,[aQ (1001+h_)],(-1),aC,([]:List Int),0⟩:Prod)],bR.aq.bA,bR.aq.bF⟩:b_),bR.bZ,bR.bV,bR.bH,bR.cd,bR.cg,bR.cc,bR.bU,bR.bD⟩:cR).bU),j ((⟨(⟨bR.aq.a',bR.aq.bu,[(⟨0,[aQ (1001+h_)],(-1),aC,([]:List Int),0⟩:Prod)],bR.aq.bA,bR.aq.bF⟩:b_),bR.bZ,bR.bV,bR.bH,bR.cd,bR.cg,bR.cc,bR.bU,bR.bD⟩:cR).bD)]),(16,_)]) (dA q q q q) ?_
  refine W.eO (s:=((⟨(⟨bR.aq.a',bR.aq.bu,[(⟨0,[aQ (1001+h_)],(-1),aC,([]:List Int),0⟩:Prod)],bR.aq.bA,bR.aq.bF⟩:b_),bR.bZ,bR.bV,bR.bH,bR.cd,bR.cg,bR.cc,bR.bU,bR.bD⟩:cR),0)) (λ(nI:cR × Int)=>[(1,.obj (dY.cells a0)),(2,.obj [.aK,.aK,.aK,ai aC,ai aC]),(6,.obj (d'.cells nI.1)),(16,j nI.2)]) 10 (λ(a7:cR)=>[(1,.obj (dY.cells a0)),(2,.obj [.aK,.aK,.aK,ai aC,ai aC]),(6,.obj (d'.cells a7))]) ao (λnI o h=>?_) ?_
  ·clear ao
   refine W.aZ<|W.aU [1,2,6,16,217] ?_
   refine W.bw h q (λQ_ h=>?_) (λQ_ h=>?_)
   ·refine W.bI<|af.aX ?_
    refine W.aZ<|W.bk ?_
    refine W.aU [1,2,6,16,17] ?_
    refine W.bk ?_
    obtain ⟨kq,ao,h⟩:=ay h
    refine W.cf (G1:=[(1,_),(2,_),(6,_),(16,_),(17,_)]) (eW q q q q q) ?_
    refine W.eO (s:=(nI.1,0)) (λ(py:cR × Int)=>[(1,.obj (dY.cells a0)),(2,.obj [.aK,.aK,.aK,ai aC,ai aC]),(6,.obj (d'.cells py.1)),(16,j nI.2),(17,j py.2)]) 12 (λ(kq:cR)=>[(1,.obj (dY.cells a0)),(2,.obj [.aK,.aK,.aK,ai aC,ai aC]),(6,.obj (d'.cells kq)),(16,j nI.2)]) ao (λpy o h=>?_) ?_
    ·clear ao
     refine W.aZ ?_
     obtain ⟨BH,Ls,h⟩:=ay h
     refine W.aU [1,2,6,16,17,228] ?_
     refine W.bw h q (λRa h=>?_) (λRa h=>?_)
     ·refine W.bI<|af.aX ?_
      refine W.aZ<|W.bk ?_
      obtain ⟨yw,SD,h⟩:=ay h
      obtain ⟨HY,SE,h⟩:=ay h
      obtain ⟨ra,SF,h⟩:=ay h
      obtain ⟨jy,SG,h⟩:=ay h
      refine W.rd [[],[],[1],[],[1,2,3],[1,2,3,4],aP 1 5 [],[],[7],[],[7,8,9],[7,8,9,10],aP 7 5 [],[],aP 7 7 [],aP 7 8 [],aP 0 16 []] [(1,_),(2,_),(6,_),(16,_),(17,_)] ez (by kernel_rfl) (av 0 (O.aA (.obj q))<|av 1 (O.bh q (.obj q) o8 q)<|av 2 (O.dm (y:=ah ia a0.eG) q (.ptr q) pQ q q)<|av 3 (O.aA (.lit q))<|av 4 (O.cC (.aE q) (.lit q) pA SD)<|av 5 (O.ej (.bo q) tz)<|av 6 (O.c9 (x:=ai yw.Left) (.bo q) e4 q)<|av 7 (O.bh q (.obj q) o8 q)<|av 8 (O.dm (y:=ah ia a0.eG) q (.ptr q) pQ q q)<|av 9 (O.aA (.lit q))<|av 10 (O.cC (.aE q) (.lit q) pA SE)<|av 11 (O.ej (.bo q) tA)<|av 12 (O.c9 (x:=ah e1 HY.fU) (.bo q) xe q)<|av 13 (O.aA (.lit q))<|av 14 (O.cC (.aE q) (.lit q) wo SF)<|av 15 (O.iV (cs':=[ah e6 ra.jC,ai ra.Prec.Name,a1 ra.Prec.Lit,j ra.Prec.c7,j ra.Prec.At,j ra.At]) (.bo q) Ea q q)<|bL.jG 16 (G2:=[(247,.cB []),(6,.obj [ak bp jy.aq.a',ak a6 jy.aq.bu,ak bG jy.aq.ba,ai jy.aq.bA,ai jy.aq.bF,ak bJ jy.bZ,ak a6 jy.bV,ak cy jy.bH,j jy.cd,j jy.cg,ai jy.cc,j jy.bU,j jy.bD]),(1,.obj (dY.cells a0)),(2,.obj [.aK,.aK,.aK,ai aC,ai aC]),(16,j nI.2),(17,j py.2)]) (cj.call q q (hV.nG (G2:=[(1,.obj (dY.cells a0)),(2,.obj [.aK,.aK,.aK,ai aC,ai aC]),(16,j nI.2),(17,j py.2)]) (A:=[]) (ys:=[.ptr ⟨6,[]⟩ 0,ai yw.Left,.agg (e1.cells ra)]) (args:=[.obj (d'.cells py.1),ai yw.Left,.agg (e1.cells ra)]) (cs':=[ak bp jy.aq.a',ak a6 jy.aq.bu,ak bG jy.aq.ba,ai jy.aq.bA,ai jy.aq.bF,ak bJ jy.bZ,ak a6 jy.bV,ak cy jy.bH,j jy.cd,j jy.cg,ai jy.cc,j jy.bU,j jy.bD]) (k0:=0) q q q q (.b q (.n q (.n q .nil))) q (Pl py.1 yw.Left ra _ SG) call97 (dA q q q q) q q (dA q q q q) .nil q)) q q q q (by kernel_rfl) (by kernel_rfl)<|bL.fin q q q (eW q q q q q)) ?_
      refine af.bk ?_
      refine af.aX<|W.bm [1,2,6,16,17] (bq q<|aj (O.add (.lit q) (.k q))<|ar.bm [1,2,6,16,230] q<|ar.aW) ?_
      obtain rfl:=au h
      exact af.go (eW q q q q q)
     ·refine W.da ?_
      refine af.c' ?_
      obtain rfl:=au h
      exact af.aF (dA q q q q)
    refine af.db ?_
    refine af.bk ?_
    refine af.aX<|W.bm [1,2,6,16] (bq q<|aj (O.add (.lit q) (.k q))<|ar.bm [1,2,6,219] q<|ar.aW) ?_
    obtain rfl:=au h
    exact af.go (dA q q q q)
   ·refine W.da ?_
    refine af.c' ?_
    obtain rfl:=au h
    exact af.aF (dq q q q)
  refine af.db ?_
  refine af.aX<|W.aZ ?_
  refine W.aU [1,2,6,252] ?_
  refine W.bw h q (λRb h=>?_) (λRb h=>?_)
  ·refine W.aZ<|W.rd [[],[],[1],[1,2],[1,2,3],[],[5],[5,6],[5,6,7],[],[9],[9,10],[9,10,11],[0],aP 0 5 [13],aP 0 9 [13,14],aP 0 16 []] [(2,_),(3,_),(4,_),(5,_)] ez (by kernel_rfl) (av 0 (O.dR (cs:=[.aK,.aK,.aK,ai aC,ai aC]) HB og q q q)<|av 1 (O.aA (.obj q))<|av 2 (O.fj (.ptr q))<|av 3 (O.bh q (.ptr q) zh q)<|av 4 (O.cw q (.ptr q) cr q)<|av 5 (O.aA (.obj q))<|av 6 (O.fj (.ptr q))<|av 7 (O.bh q (.ptr q) zi q)<|av 8 (O.cw q (.ptr q) cr q)<|av 9 (O.aA (.obj q))<|av 10 (O.fj (.ptr q))<|av 11 (O.bh q (.ptr q) zj q)<|av 12 (O.cw q (.ptr q) e4 q)<|bL.dR 13 (G2:=[(2,.obj [.aK,.aK,.aK,ai aC,ai aC]),(6,.obj (d'.cells a7))]) (U:=[(12,265,some (ai a7.cc)),(11,264,some (.ptr ⟨6,[]⟩ 10)),(10,263,some (.ptr ⟨6,[]⟩ 0)),(9,262,some (.ptr ⟨6,[]⟩ 0)),(8,261,some (j a7.cg)),(7,260,some (.ptr ⟨6,[]⟩ 9)),(6,259,some (.ptr ⟨6,[]⟩ 0)),(5,258,some (.ptr ⟨6,[]⟩ 0)),(4,257,some (j a7.cd)),(3,256,some (.ptr ⟨6,[]⟩ 8)),(2,255,some (.ptr ⟨6,[]⟩ 0)),(1,254,some (.ptr ⟨6,[]⟩ 0))]) (kO.v (cj.mZ (cj.dI (G2:=[(2,.obj [.aK,.aK,.aK,ai aC,ai aC]),(6,.obj (d'.cells a7))]) (cs2:=[.aK,.aK,.aK,ai aC,ai aC]) q q q (.obj q) (.b' q q) q mR q q q q (.b q (.n q q .nil))))) q q (by kernel_rfl) q q q (.c (.inr (.inl ⟨_,q⟩)) q q q q q (gu.wanted .none) (O.cw q (.ptr q) e4 q) (.c (.inr (.inr (.inr (.inl ⟨6,_,_,q,q,jw q,by simp,_,q,jw q⟩)))) q q q q q (gu.wanted .none) (O.bh q (.ptr q) zj q) (.c (.inr (.inr (.inr (.inl ⟨6,_,_,q,q,jw q,by simp,_,q,jw q⟩)))) q q q q q (gu.wanted .none) (O.fj (.ptr q)) (.c (.inr (.inr (.inr (.inl ⟨6,_,_,q,q,jw q,by simp,_,q,jw q⟩)))) q q q q q (gu.wanted .none) (O.aA (.obj q)) (.c (.inr (.inl ⟨_,q⟩)) q q q q q (gu.wanted .none) (O.cw q (.ptr q) cr q) (.c (.inr (.inr (.inr (.inl ⟨6,_,_,q,q,jw q,by simp,_,q,jw q⟩)))) q q q q q (gu.wanted .none) (O.bh q (.ptr q) zi q) (.c (.inr (.inr (.inr (.inl ⟨6,_,_,q,q,jw q,by simp,_,q,jw q⟩)))) q q q q q (gu.wanted .none) (O.fj (.ptr q)) (.c (.inr (.inr (.inr (.inl ⟨6,_,_,q,q,jw q,by simp,_,q,jw q⟩)))) q q q q q (gu.wanted .none) (O.aA (.obj q)) (.c (.inr (.inl ⟨_,q⟩)) q q q q q (gu.wanted .none) (O.cw q (.ptr q) cr q) (.c (.inr (.inr (.inr (.inl ⟨6,_,_,q,q,jw q,by simp,_,q,jw q⟩)))) q q q q q (gu.wanted .none) (O.bh q (.ptr q) zh q) (.c (.inr (.inr (.inr (.inl ⟨6,_,_,q,q,jw q,by simp,_,q,jw q⟩)))) q q q q q (gu.wanted .none) (O.fj (.ptr q)) (.c (.inr (.inr (.inr (.inl ⟨6,_,_,q,q,jw q,by simp,_,q,jw q⟩)))) q q q q q (gu.wanted .none) (O.aA (.obj q)) .nil)))))))))))) (by kernel_rfl)<|av 14 (O.dO (.lit q))<|av 15 (O.dO (.lit q))<|av 16 (O.dO (.lit q))<|bL.fin q q q (dA q q q q)) ?_
   refine af.aX<|W.e7 (G1:=[(2,.obj [ah bp ([]:List b5),ah a6 ([]:List e2),ah bG ([]:List Prod),ai aC,ai aC]),(3,_),(4,_),(5,_)]) [2] (.z q q (gU.obj (.z (.z (.z (.f (.f .nil)))))) (.n q q (.n q q (.n q q .nil)))) ?_
   refine W.rt ?_
   refine af.cK ?_
   obtain rfl:=au h
   exact cx (.c (ys0:=[ah bp ([]:List b5),ah a6 ([]:List e2),ah bG ([]:List Prod),ai aC,ai aC]) q gv q q q (.f q (.f q (.f q (.f q (.f q .nil))))) (.f q q (.f q q (.f q q .nil))))
  ·refine W.bI<|af.aX ?_
   refine W.bY [1,2,6] (aj (O.aA (.obj q))<|aj (O.dR (cs:=[ai ({ data:=#[36,97,99,99,101,112,116] }),ai aC]) Dz BK q q q)<|aj (O.dz (ys:=[.agg [ai ({ data:=#[36,97,99,99,101,112,116] }),ai aC]]) a6 [(⟨{ data:=#[36,97,99,99,101,112,116] },aC⟩:e2)] rU q q q q q q DR q q)<|aj (O.fj (.ptr q))<|aj (O.bh q (.ptr q) kj q)<|aj (O.bh q (.ptr q) sn q)<|ar.iT (G2:=[(1,.obj (dY.cells a0)),(2,.obj [.aK,.aK,.aK,ai aC,ai aC]),(6,.obj [ak bp a7.aq.a',ak a6 [(⟨{ data:=#[36,97,99,99,101,112,116] },aC⟩:e2)],ak bG a7.aq.ba,ai a7.aq.bA,ai a7.aq.bF,ak bJ a7.bZ,ak a6 a7.bV,ak cy a7.bH,j a7.cd,j a7.cg,ai a7.cc,j a7.bU,j a7.bD])]) q (cj.yo (y':=ak a6 [(⟨{ data:=#[36,97,99,99,101,112,116] },aC⟩:e2)]) (cs2:=[ak bp a7.aq.a',ak a6 [(⟨{ data:=#[36,97,99,99,101,112,116] },aC⟩:e2)],ak bG a7.aq.ba,ai a7.aq.bA,ai a7.aq.bF,ak bJ a7.bZ,ak a6 a7.bV,ak cy a7.bH,j a7.cd,j a7.cg,ai a7.cc,j a7.bU,j a7.bD]) q q (.ptr q) (.own q) (.r q .nil) .refl q DE q q q q q (.n q q (.n q q (.b q .nil))))<|bS q) ?_
   refine W.aZ<|W.aU [1,2,6,18] ?_
   refine W.bk ?_
   obtain ⟨wB,ao,h⟩:=ay h
   refine W.cf (G1:=[(1,_),(2,_),(6,_),(18,_)]) (dA q q q q) ?_
   refine W.eO (s:=([(⟨{ data:=#[36,97,99,99,101,112,116] },aC⟩:e2)],0)) (λ(mN:List e2 × Int)=>[(1,.obj (dY.cells a0)),(2,.obj [.aK,.aK,.aK,ai aC,ai aC]),(6,.obj [ak bp a7.aq.a',ak a6 mN.1,ak bG a7.aq.ba,ai a7.aq.bA,ai a7.aq.bF,ak bJ a7.bZ,ak a6 a7.bV,ak cy a7.bH,j a7.cd,j a7.cg,ai a7.cc,j a7.bU,j a7.bD]),(18,j mN.2)]) 14 (λ(wB:List e2)=>[(1,.obj (dY.cells a0)),(2,.obj [.aK,.aK,.aK,ai aC,ai aC]),(6,.obj [ak bp a7.aq.a',ak a6 wB,ak bG a7.aq.ba,ai a7.aq.bA,ai a7.aq.bF,ak bJ a7.bZ,ak a6 a7.bV,ak cy a7.bH,j a7.cd,j a7.cg,ai a7.cc,j a7.bU,j a7.bD])]) ao (λmN o h=>?_) ?_
   ·clear ao
    refine W.aZ<|W.aU [1,2,6,18,278] ?_
    refine W.bw h q (λRc h=>?_) (λRc h=>?_)
    ·refine W.bI<|af.aX ?_
     refine W.aZ<|W.bk ?_
     obtain ⟨mg,Lt,h⟩:=ay h
     refine W.bY [1,2,6,18,19] (aj (O.aA (.obj q))<|aj (O.fj (.ptr q))<|aj (O.bh q (.ptr q) xj q)<|aj (O.dm (y:=.bn cy.z ⟨6,[7]⟩ a7.bH.length) q (.ptr q) y6 q q)<|bq q<|aj (O.gX (en:=cy) q (.bn q) (.lit q) Bq Lt q)<|aj (O.jv (en:=cy) (x':=ai mg) q (.ptr q) e4 Lt q q)<|aj (O.dR (cs:=[ai mg,ai aC]) Dz BK q q q)<|aj (O.fL (cs:=[ai aC,ai aC]) BK q q)<|ar.dI (G2:=[(1,_),(2,_),(6,_),(18,_),(19,_)]) (cs2:=[ai mg,ai aC]) q (.obj q) (.b' q q) q Ur q q q q (.n q q (.n q q (.n q q (.n q q (.b q .nil)))))<|bS q) ?_
     refine W.aZ ?_
     obtain ⟨wC,SH,h⟩:=ay h
     refine W.bY [1,2,6,18,19,20] (aj (O.aA (.obj q))<|aj (O.bh q (.obj q) JV q)<|aj (O.cw q (.ptr q) e4 q)<|ee (cu.vw (ys:=[.ptr ⟨6,[]⟩ 0,ai mg]) q (.c (View.n9 q q) (.s .nil)) (Jz (⟨(⟨a7.aq.a',mN.1,a7.aq.ba,a7.aq.bA,a7.aq.bF⟩:b_),a7.bZ,a7.bV,a7.bH,a7.cd,a7.cg,a7.cc,a7.bU,a7.bD⟩:cR) mg _ SH) call98 q)<|ar.aW) ?_
     refine W.aU [1,2,6,18,19,20,294] ?_
     obtain ⟨p3,aa,h⟩:=ay h
     refine W.bB [(1,.obj (dY.cells a0)),(2,.obj [.aK,.aK,.aK,ai aC,ai aC]),(6,.obj [ak bp a7.aq.a',ak a6 mN.1,ak bG a7.aq.ba,ai a7.aq.bA,ai a7.aq.bF,ak bJ a7.bZ,ak a6 a7.bV,ak cy a7.bH,j a7.cd,j a7.cg,ai a7.cc,j a7.bU,j a7.bD]),(18,j mN.2),(19,.obj [ai mg,ai p3])] ?_ ?_
     ·clear h; have h:=aa; clear aa
      refine W.bw h q (λRe h=>?_) (λRe h=>?_)
      ·obtain ⟨DK,Gu,h⟩:=ay h
       refine W.bm [1,2,6,18,19] (aj (O.aA (.obj q))<|aj (O.fj (.ptr q))<|aj (O.bh q (.ptr q) zg q)<|aj (O.dm (y:=.bn a6.z ⟨6,[6]⟩ a7.bV.length) q (.ptr q) sg q q)<|bq q<|aj (O.gX (en:=a6) q (.bn q) (.lit q) rU Gu q)<|aj (O.ki (en:=a6) q (.ptr q) Cp Gu q q)<|aj (O.jv (en:=a6) (x':=ai DK.Tag) q (.ptr q) e4 Gu q q)<|aj (O.bh q (.obj q) Cp q)<|ar.dI (G2:=[(1,_),(2,_),(6,_),(18,_),(19,_)]) (cs2:=[ai mg,ai DK.Tag]) q (.ptr q) (.lit q) q wx q q q q (.n q q (.n q q (.n q q (.n q q (.b q .nil)))))<|bS q) ?_
       obtain rfl:=au h
       exact af.bB (eW q q q q q)
      ·refine W.bI ?_
       obtain rfl:=au h
       exact af.bB (eW q q q q q)
     refine af.aX ?_
     obtain ⟨M_,SI,h⟩:=ay h
     refine W.rd [[],[],[1],[1,2],[1,2,3],[1,2,3,4],[],[6],aP 1 7 [],aP 0 9 [],aP 0 10 [],aP 0 11 [],aP 0 12 []] [(1,_),(2,_),(6,_),(18,_)] ez (by kernel_rfl) (av 0 (O.aA (.obj q))<|av 1 (O.aA (.obj q))<|av 2 (O.fj (.ptr q))<|av 3 (O.bh q (.ptr q) kj q)<|av 4 (O.bh q (.ptr q) sn q)<|av 5 (O.dm (y:=.bn a6.z ⟨6,[1]⟩ mN.1.length) q (.ptr q) sg q q)<|av 6 (O.dW (cs':=[ai mg,ai p3]) q (.obj q) N7 q q)<|bL.fC 7 (x:=ah a6 [(⟨mg,p3⟩:e2)]) (O.dz (ys:=[.agg [ai mg,ai p3]]) a6 [(⟨mg,p3⟩:e2)] rU q q q q q q DR q q) q q q q .none<|av 8 (O.ap (en:=a6) (r:=M_) (.bn q) q (.aE q) .i D5 q SI)<|av 9 (O.fj (.ptr q))<|av 10 (O.bh q (.ptr q) kj q)<|av 11 (O.bh q (.ptr q) sn q)<|bL.jG 12 (G2:=[(1,.obj (dY.cells a0)),(2,.obj [.aK,.aK,.aK,ai aC,ai aC]),(6,.obj [ak bp a7.aq.a',ak a6 (mN.1++[(⟨mg,p3⟩:e2)]),ak bG a7.aq.ba,ai a7.aq.bA,ai a7.aq.bF,ak bJ a7.bZ,ak a6 a7.bV,ak cy a7.bH,j a7.cd,j a7.cg,ai a7.cc,j a7.bU,j a7.bD]),(18,j mN.2)]) (cj.nn (g1:=_) (en:=a6) (M:=[(⟨mg,p3⟩:e2)]) (cs2:=[ak bp a7.aq.a',ak a6 (mN.1++[(⟨mg,p3⟩:e2)]),ak bG a7.aq.ba,ai a7.aq.bA,ai a7.aq.bF,ak bJ a7.bZ,ak a6 a7.bV,ak cy a7.bH,j a7.cd,j a7.cg,ai a7.cc,j a7.bU,j a7.bD]) q q (.ptr q) (.bX q) q q q .j8 .gR q q DE q q q q (.n q q (.n q q (.b q (.n q q .nil))))) q q q q (by kernel_rfl) (by kernel_rfl)<|bL.fin q q q (dA q q q q)) ?_
     refine af.bk ?_
     refine af.aX<|W.bm [1,2,6,18] (bq q<|aj (O.add (.lit q) (.k q))<|ar.bm [1,2,6,280] q<|ar.aW) ?_
     obtain rfl:=au h
     exact af.go (dA q q q q)
    ·refine W.da ?_
     refine af.c' ?_
     obtain rfl:=au h
     exact af.aF (dq q q q)
   refine af.db ?_
   refine af.aX<|W.aZ ?_
   refine W.aU [1,2,6,21] ?_
   refine W.bk ?_
   obtain ⟨jh,ao,h⟩:=ay h
   refine W.cf (G1:=[(1,_),(2,_),(6,_),(21,_)]) (dA q q q q) ?_
   refine W.eO (s:=(wB,1)) (λ(n':List e2 × Int)=>[(1,.obj (dY.cells a0)),(2,.obj [.aK,.aK,.aK,ai aC,ai aC]),(6,.obj [ak bp a7.aq.a',ak a6 n'.1,ak bG a7.aq.ba,ai a7.aq.bA,ai a7.aq.bF,ak bJ a7.bZ,ak a6 a7.bV,ak cy a7.bH,j a7.cd,j a7.cg,ai a7.cc,j a7.bU,j a7.bD]),(21,j n'.2)]) 16 (λ(jh:List e2)=>[(1,.obj (dY.cells a0)),(2,.obj [.aK,.aK,.aK,ai aC,ai aC]),(6,.obj [ak bp a7.aq.a',ak a6 jh,ak bG a7.aq.ba,ai a7.aq.bA,ai a7.aq.bF,ak bJ a7.bZ,ak a6 a7.bV,ak cy a7.bH,j a7.cd,j a7.cg,ai a7.cc,j a7.bU,j a7.bD])]) ao (λn' o h=>?_) ?_
   ·clear ao
    refine W.aZ<|W.aU [1,2,6,21,321] ?_
    refine W.bw h q (λRf h=>?_) (λRf h=>?_)
    ·refine W.bI<|af.aX ?_
     refine W.aZ<|W.bk ?_
     obtain ⟨DL,SJ,h⟩:=ay h
     obtain ⟨rb,SK,h⟩:=ay h
     obtain ⟨M',SL,h⟩:=ay h
     refine W.rd [[],[],[1],[1,2],[1,2,3],[1,2,3,4],[],[6],[6,7],[6,7,8],[6,7,8,9],aP 1 10 [],aP 0 12 [],aP 0 13 [],aP 0 14 [],aP 0 15 []] [(1,_),(2,_),(6,_),(21,_)] ez (by kernel_rfl) (av 0 (O.aA (.obj q))<|av 1 (O.aA (.obj q))<|av 2 (O.fj (.ptr q))<|av 3 (O.bh q (.ptr q) kj q)<|av 4 (O.bh q (.ptr q) sn q)<|av 5 (O.dm (y:=.bn a6.z ⟨6,[1]⟩ n'.1.length) q (.ptr q) sg q q)<|av 6 (O.aA (.lit q))<|iN 7 (cu.go (.b0 (.lit q) .nil) (Pm n'.2 _ SJ) call99 q)<|av 8 (O.cat (.k q) (.lit q) SK)<|av 9 (O.dR (cs:=[ai rb,ai aC]) Dz BK q q q)<|bL.fC 10 (x:=ah a6 [(⟨rb,aC⟩:e2)]) (O.dz (ys:=[.agg [ai rb,ai aC]]) a6 [(⟨rb,aC⟩:e2)] rU q q q q q q DR q q) q q q q .none<|av 11 (O.ap (en:=a6) (r:=M') (.bn q) q (.aE q) .i D5 q SL)<|av 12 (O.fj (.ptr q))<|av 13 (O.bh q (.ptr q) kj q)<|av 14 (O.bh q (.ptr q) sn q)<|bL.jG 15 (G2:=[(1,.obj (dY.cells a0)),(2,.obj [.aK,.aK,.aK,ai aC,ai aC]),(6,.obj [ak bp a7.aq.a',ak a6 (n'.1++[(⟨rb,aC⟩:e2)]),ak bG a7.aq.ba,ai a7.aq.bA,ai a7.aq.bF,ak bJ a7.bZ,ak a6 a7.bV,ak cy a7.bH,j a7.cd,j a7.cg,ai a7.cc,j a7.bU,j a7.bD]),(21,j n'.2)]) (cj.nn (g1:=_) (en:=a6) (M:=[(⟨rb,aC⟩:e2)]) (cs2:=[ak bp a7.aq.a',ak a6 (n'.1++[(⟨rb,aC⟩:e2)]),ak bG a7.aq.ba,ai a7.aq.bA,ai a7.aq.bF,ak bJ a7.bZ,ak a6 a7.bV,ak cy a7.bH,j a7.cd,j a7.cg,ai a7.cc,j a7.bU,j a7.bD]) q q (.ptr q) (.bX q) q q q .j8 .gR q q DE q q q q (.n q q (.n q q (.b q (.n q q .nil))))) q q q q (by kernel_rfl) (by kernel_rfl)<|bL.fin q q q (dA q q q q)) ?_
     refine af.bk ?_
     refine af.aX<|W.bm [1,2,6,21] (bq q<|aj (O.add (.lit q) (.k q))<|ar.bm [1,2,6,323] q<|ar.aW) ?_
     obtain rfl:=au h
     exact af.go (dA q q q q)
    ·refine W.da ?_
     refine af.c' ?_
     obtain rfl:=au h
     exact af.aF (dq q q q)
   refine af.db ?_
   refine af.aX<|W.aU [1,2,6,22] ?_
   refine W.aZ<|W.aU [1,2,6,22,23] ?_
   refine W.bk ?_
   obtain ⟨kL,ao,h⟩:=ay h
   refine W.cf (G1:=[(1,_),(2,_),(6,_),(22,_),(23,_)]) (eW q q q q q) ?_
   refine W.eO (s:=(a7.aq.a',57346,3)) (λ(iK:List b5 × Int × Int)=>[(1,.obj (dY.cells a0)),(2,.obj [.aK,.aK,.aK,ai aC,ai aC]),(6,.obj [ak bp iK.1,ak a6 jh,ak bG a7.aq.ba,ai a7.aq.bA,ai a7.aq.bF,ak bJ a7.bZ,ak a6 a7.bV,ak cy a7.bH,j a7.cd,j a7.cg,ai a7.cc,j a7.bU,j a7.bD]),(22,j iK.2.1),(23,j iK.2.2)]) 18 (λ(kL:List b5)=>[(1,.obj (dY.cells a0)),(2,.obj [.aK,.aK,.aK,ai aC,ai aC]),(6,.obj [ak bp kL,ak a6 jh,ak bG a7.aq.ba,ai a7.aq.bA,ai a7.aq.bF,ak bJ a7.bZ,ak a6 a7.bV,ak cy a7.bH,j a7.cd,j a7.cg,ai a7.cc,j a7.bU,j a7.bD])]) ao (λiK o h=>?_) ?_
   ·clear ao
    refine W.aZ<|W.aU [1,2,6,22,23,346] ?_
    refine W.bw h q (λRg h=>?_) (λRg h=>?_)
    ·refine W.bI<|af.aX ?_
     refine W.aZ ?_
     obtain ⟨Ar,aa,h⟩:=ay h
     refine W.bB [(1,.obj (dY.cells a0)),(2,.obj [.aK,.aK,.aK,ai aC,ai aC]),(6,.obj [ak bp Ar.1,ak a6 jh,ak bG a7.aq.ba,ai a7.aq.bA,ai a7.aq.bF,ak bJ a7.bZ,ak a6 a7.bV,ak cy a7.bH,j a7.cd,j a7.cg,ai a7.cc,j a7.bU,j a7.bD]),(22,j Ar.2),(23,j iK.2.2)] ?_ ?_
     ·clear h; have h:=aa; clear aa
      refine W.bk ?_
      obtain ⟨HT,Ln,h⟩:=ay h
      refine W.bY [1,2,6,22,23,356] (aj (O.aA (.obj q))<|aj (O.fj (.ptr q))<|aj (O.bh q (.ptr q) xi q)<|aj (O.dm (y:=.bn bJ.z ⟨6,[5]⟩ a7.bZ.length) q (.ptr q) y4 q q)<|bq q<|aj (O.gX (en:=bJ) q (.bn q) (.lit q) oN Ln q)<|aj (O.jv (en:=bJ) (x':=a1 HT) q (.ptr q) ns Ln q q)<|ar.aW) ?_
      obtain ⟨An,aa,h⟩:=ay h
      refine W.bB [(1,.obj (dY.cells a0)),(2,.obj [.aK,.aK,.aK,ai aC,ai aC]),(6,.obj [ak bp An.1,ak a6 jh,ak bG a7.aq.ba,ai a7.aq.bA,ai a7.aq.bF,ak bJ a7.bZ,ak a6 a7.bV,ak cy a7.bH,j a7.cd,j a7.cg,ai a7.cc,j a7.bU,j a7.bD]),(22,j An.2),(23,j iK.2.2)] ?_ ?_
      ·clear h; have h:=aa; clear aa
       refine W.bw h q (λQT h=>?_) (λQT h=>?_)
       ·obtain ⟨lC,Gm,h⟩:=ay h
        refine W.bY [1,2,6,22,23] (aj (O.aA (.obj q))<|aj (O.fj (.ptr q))<|aj (O.bh q (.ptr q) kj q)<|aj (O.bh q (.ptr q) ox q)<|aj (O.dm (y:=.bn bp.z ⟨6,[0]⟩ iK.1.length) q (.ptr q) pR q q)<|bq q<|bq q<|aj (O.gX (en:=bp) q (.bn q) (.lit q) qe Gm q)<|aj (O.ki (en:=bp) q (.ptr q) zq Gm q q)<|ar.iT (G2:=[(1,.obj (dY.cells a0)),(2,.obj [.aK,.aK,.aK,ai aC,ai aC]),(6,.obj [ak bp (iK.1.set iK.2.2.toNat (⟨lC.Name,lC.Lit,iK.2.1,lC.Level,lC.fw,lC.Tag⟩:b5)),ak a6 jh,ak bG a7.aq.ba,ai a7.aq.bA,ai a7.aq.bF,ak bJ a7.bZ,ak a6 a7.bV,ak cy a7.bH,j a7.cd,j a7.cg,ai a7.cc,j a7.bU,j a7.bD]),(22,j iK.2.1),(23,j iK.2.2)]) q (cj.pC (en:=bp) (y2:=(⟨lC.Name,lC.Lit,iK.2.1,lC.Level,lC.fw,lC.Tag⟩:b5)) (cs':=[j iK.2.1]) (x2:=.obj [ak bp (iK.1.set iK.2.2.toNat (⟨lC.Name,lC.Lit,iK.2.1,lC.Level,lC.fw,lC.Tag⟩:b5)),ak a6 jh,ak bG a7.aq.ba,ai a7.aq.bA,ai a7.aq.bF,ak bJ a7.bZ,ak a6 a7.bV,ak cy a7.bH,j a7.cd,j a7.cg,ai a7.cc,j a7.bU,j a7.bD]) q q (.ptr q) (.lit q) q Gm nJ q q q q q q q (.n q q (.n q q (.b q (.n q q (.n q q .nil))))))<|bS q) ?_
        refine W.bm [1,2,6,22,23] (bq q<|aj (O.add (.lit q) (.k q))<|ar.bm [1,2,6,23,367] q<|ar.aW) ?_
        obtain rfl:=au h
        exact af.bB (eW q q q q q)
       ·refine W.bI ?_
        obtain rfl:=au h
        exact af.bB (eW q q q q q)
      refine af.bk ?_
      obtain rfl:=au h
      exact af.bB (eW q q q q q)
     refine af.aX<|W.bm [1,2,6,22,23] (bq q<|aj (O.add (.lit q) (.k q))<|ar.bm [1,2,6,22,348] q<|ar.aW) ?_
     obtain rfl:=au h
     exact af.go (eW q q q q q)
    ·refine W.da ?_
     refine af.c' ?_
     obtain rfl:=au h
     exact af.aF (dq q q q)
   refine af.db ?_
   refine af.aX ?_
   obtain ⟨rq,aa,h⟩:=ay h
   refine W.rs [(1,.obj (dY.cells a0)),(2,.obj [.aK,.aK,.aK,ai aC,ai aC]),(6,.obj [ak bp kL,ak a6 jh,ak bG a7.aq.ba,ai a7.aq.bA,ai a7.aq.bF,ak bJ a7.bZ,ak a6 a7.bV,ak cy a7.bH,j a7.cd,j a7.cg,ai a7.cc,j a7.bU,j a7.bD]),(24,a1 rq)] ?_ ?_
   ·refine aj (O.aA (.obj q))<|aj (O.fj (.ptr q))<|aj (O.bh q (.ptr q) kj q)<|aj (O.bh q (.ptr q) ox q)<|aj (O.dm (y:=.bn bp.z ⟨6,[0]⟩ kL.length) q (.ptr q) pR q q)<|aj (O.ph (.bn q) qe)<|aj (O.gtr (.lit q) (.k q))<|aj (O.aA (.lit q)) ?_
    rcases cz aa with ⟨sx,aa⟩ | ⟨sx,aa⟩
    ·obtain rfl:=au aa
     exact ar.aW
    ·refine aM sx (O.aA (.obj q))<|aM sx (O.fj (.ptr q))<|aM sx (O.bh q (.ptr q) kj q)<|aM sx (O.bh q (.ptr q) sn q)<|aM sx (O.dm (y:=.bn a6.z ⟨6,[1]⟩ jh.length) q (.ptr q) sg q q)<|aM sx (O.ph (.bn q) rU)<|aM sx (O.gtr (.lit q) (.k q))<|aj (O.cZ (.lit q) sx (.lit q))<|aj (O.aA (.lit q)) ?_
     rcases cz aa with ⟨KA,aa⟩ | ⟨KA,aa⟩
     ·obtain rfl:=au aa
      exact ar.aW
     ·obtain rfl:=au aa
      exact aM KA (O.aA (.obj q))<|aM KA (O.fj (.ptr q))<|ar.aW
   refine W.aZ<|W.aU [1,2,6,24,25] ?_
   refine W.bk ?_
   obtain ⟨BE,ao,h⟩:=ay h
   refine W.cf (G1:=[(1,_),(2,_),(6,_),(24,_),(25,_)]) (eW q q q q q) ?_
   refine W.eO (s:=(rq,0)) (λ(rT:Bool × Int)=>[(1,.obj (dY.cells a0)),(2,.obj [.aK,.aK,.aK,ai aC,ai aC]),(6,.obj [ak bp kL,ak a6 jh,ak bG a7.aq.ba,ai a7.aq.bA,ai a7.aq.bF,ak bJ a7.bZ,ak a6 a7.bV,ak cy a7.bH,j a7.cd,j a7.cg,ai a7.cc,j a7.bU,j a7.bD]),(24,a1 rT.1),(25,j rT.2)]) 20 (λ(BE:Bool)=>[(1,.obj (dY.cells a0)),(2,.obj [.aK,.aK,.aK,ai aC,ai aC]),(6,.obj [ak bp kL,ak a6 jh,ak bG a7.aq.ba,ai a7.aq.bA,ai a7.aq.bF,ak bJ a7.bZ,ak a6 a7.bV,ak cy a7.bH,j a7.cd,j a7.cg,ai a7.cc,j a7.bU,j a7.bD]),(24,a1 BE)]) ao (λrT o h=>?_) ?_
   ·clear ao
    refine W.aZ<|W.aU [1,2,6,24,25,400] ?_
    refine W.bw h q (λQU h=>?_) (λQU h=>?_)
    ·refine W.bI<|af.aX ?_
     refine W.aZ<|W.bk ?_
     obtain ⟨Eg,aa,h⟩:=ay h
     refine W.rx [(1,.obj (dY.cells a0)),(2,.obj [.aK,.aK,.aK,ai aC,ai aC]),(6,.obj [ak bp kL,ak a6 jh,ak bG a7.aq.ba,ai a7.aq.bA,ai a7.aq.bF,ak bJ a7.bZ,ak a6 a7.bV,ak cy a7.bH,j a7.cd,j a7.cg,ai a7.cc,j a7.bU,j a7.bD]),(24,a1 Eg),(25,j rT.2)] ?_ ?_
     ·refine bq q<|aj (O.aA (.lit q)) ?_
      rcases cz aa with ⟨j0,aa⟩ | ⟨j0,aa⟩
      ·obtain rfl:=au aa
       exact b6 j0<|b6 j0<|b6 j0<|b6 j0<|b6 j0<|b6 j0<|b6 j0<|b6 j0<|b6 j0<|b6 j0<|b6 j0<|aj (O.dS (.lit q) j0 (.k q))<|ar.bm [1,2,6,25,416] q<|ar.aW
      ·refine aM j0 (O.aA (.obj q))<|aM j0 (O.fj (.ptr q))<|aM j0 (O.bh q (.ptr q) kj q)<|aM j0 (O.bh q (.ptr q) lG q)<|aM j0 (O.dm (y:=.bn bG.z ⟨6,[2]⟩ a7.aq.ba.length) q (.ptr q) mY q q)<|aM j0 (O.aA (.lit q)) ?_
       obtain ⟨HU,Gn,aa⟩:=ay aa
       obtain rfl:=au aa
       exact aM j0 (O.gX (en:=bG) q (.bn q) (.lit q) nm Gn q)<|aM j0 (O.ki (en:=bG) q (.ptr q) m_ Gn q q)<|aM j0 (O.jv (en:=bG) (x':=ah aI HU.fx) q (.ptr q) hM Gn q q)<|aM j0 (O.h0 (.aE q) fk)<|aM j0 (O.gtr (.lit q) (.k q))<|aj (O.cZ (.lit q) j0 (.lit q))<|ar.bm [1,2,6,25,416] q<|ar.aW
     refine af.bk ?_
     refine af.aX<|W.bm [1,2,6,24,25] (bq q<|aj (O.add (.lit q) (.k q))<|ar.bm [1,2,6,24,402] q<|ar.aW) ?_
     obtain rfl:=au h
     exact af.go (eW q q q q q)
    ·refine W.da ?_
     refine af.c' ?_
     obtain rfl:=au h
     exact af.aF (dA q q q q)
   refine af.db ?_
   refine af.aX<|W.aZ ?_
   refine W.aU [1,2,6,417] ?_
   refine W.bw h q (λQV h=>?_) (λQV h=>?_)
   ·refine W.bY [2,3,4,5] (aj (O.dR (cs:=[.aK,.aK,.aK,ai aC,ai aC]) HB og q q q)<|ar.dI (G2:=[(2,_)]) (cs2:=[.aK,.aK,.aK,ai aC,ai aC]) q (.obj q) (.b' q q) q mR q q q q (.b q .nil)<|ar.aW) ?_
    refine W.e7 (G1:=[(2,.obj [ah bp ([]:List b5),ah a6 ([]:List e2),ah bG ([]:List Prod),ai aC,ai aC]),(3,_),(4,_),(5,_)]) [2] (.z q q (gU.obj (.z (.z (.z (.f (.f .nil)))))) (.n q q (.n q q (.n q q .nil)))) ?_
    refine W.rt ?_
    refine af.cK ?_
    obtain rfl:=au h
    exact cx (.c (ys0:=[ah bp ([]:List b5),ah a6 ([]:List e2),ah bG ([]:List Prod),ai aC,ai aC]) q gv q q q (.f q (.f q (.f q (.f q (.f q .nil))))) (.f q q (.f q q (.f q q .nil))))
   ·refine W.bI<|af.aX ?_
    refine W.aZ<|W.rd [[],[],[],[2],[],[4],[0,2,3],[0,2,3,6],[0,2,3,6,7],[0,2,3,6,7,8],aP 0 10 [],aP 0 11 [],aP 0 12 [],aP 0 13 []] [(2,_),(6,_)] ez (by kernel_rfl) (av 0 (O.aA (.obj q))<|av 1 (O.aA (.obj q))<|av 2 (O.bh q (.obj q) ER q)<|av 3 (O.cw q (.ptr q) e4 q)<|av 4 (O.bh q (.obj q) ES q)<|av 5 (O.cw q (.ptr q) e4 q)<|av 6 (O.fj (.ptr q))<|av 7 (O.bh q (.ptr q) kj q)<|av 8 (O.bh q (.ptr q) JZ q)<|bL.dR 9 (G2:=[(1,.obj (dY.cells a0)),(2,.obj [.aK,.aK,.aK,ai aC,ai aC]),(6,.obj [ak bp kL,ak a6 jh,ak bG a7.aq.ba,ai a0.bA,ai a7.aq.bF,ak bJ a7.bZ,ak a6 a7.bV,ak cy a7.bH,j a7.cd,j a7.cg,ai a7.cc,j a7.bU,j a7.bD])]) (U:=[(5,424,some (ai a0.bF)),(4,423,some (.ptr ⟨1,[]⟩ 3)),(1,420,some (.ptr ⟨6,[]⟩ 0))]) (kO.v (cj.mZ (cj.dI (G2:=[(1,.obj (dY.cells a0)),(2,.obj [.aK,.aK,.aK,ai aC,ai aC]),(6,.obj [ak bp kL,ak a6 jh,ak bG a7.aq.ba,ai a0.bA,ai a7.aq.bF,ak bJ a7.bZ,ak a6 a7.bV,ak cy a7.bH,j a7.cd,j a7.cg,ai a7.cc,j a7.bU,j a7.bD])]) (cs2:=[ak bp kL,ak a6 jh,ak bG a7.aq.ba,ai a0.bA,ai a7.aq.bF,ak bJ a7.bZ,ak a6 a7.bV,ak cy a7.bH,j a7.cd,j a7.cg,ai a7.cc,j a7.bU,j a7.bD]) q q q (.ptr q) (.lit q) q wx q q q q (.n q q (.n q q (.b q .nil)))))) q q (by kernel_rfl) q q q (.c (.inr (.inl ⟨_,q⟩)) q q q q q (gu.wanted .none) (O.cw q (.ptr q) e4 q) (.c (.inr (.inr (.inr (.inl ⟨1,_,_,q,q,jw q,by simp,_,q,jw q⟩)))) q q q q q (gu.wanted .none) (O.bh q (.obj q) ES q) (.c (.inr (.inr (.inr (.inl ⟨6,_,_,q,q,jw q,by simp,_,q,jw q⟩)))) q q q q q (gu.wanted .none) (O.aA (.obj q)) .nil))) (by kernel_rfl)<|av 10 (O.fj (.ptr q))<|av 11 (O.bh q (.ptr q) kj q)<|av 12 (O.bh q (.ptr q) J0 q)<|bL.dI 13 (G2:=[(2,.obj [.aK,.aK,.aK,ai aC,ai aC]),(6,.obj [ak bp kL,ak a6 jh,ak bG a7.aq.ba,ai a0.bA,ai a0.bF,ak bJ a7.bZ,ak a6 a7.bV,ak cy a7.bH,j a7.cd,j a7.cg,ai a7.cc,j a7.bU,j a7.bD])]) (cs2:=[ak bp kL,ak a6 jh,ak bG a7.aq.ba,ai a0.bA,ai a0.bF,ak bJ a7.bZ,ak a6 a7.bV,ak cy a7.bH,j a7.cd,j a7.cg,ai a7.cc,j a7.bU,j a7.bD]) q (by kernel_rfl) (by kernel_rfl) q q q (.ptr q) (.lit q) q wx q q q q (.n q q (.b q .nil))<|bL.fin q q q (fG q q)) ?_
    refine af.aX<|W.aZ ?_
    refine W.e7 (G1:=[(2,_),(6,.obj [ah bp kL,ah a6 jh,ah bG a7.aq.ba,ai a0.bA,ai a0.bF,ak bJ a7.bZ,ak a6 a7.bV,ak cy a7.bH,j a7.cd,j a7.cg,ai a7.cc,j a7.bU,j a7.bD])]) [6] (.n q q (.z q q (gU.obj (.z (.z (.z (.f (.f (.f (.f (.f (.f (.f (.f (.f (.f .nil)))))))))))))) .nil)) ?_
    refine W.bm [2,3,4,5] (aj (O.aA (.obj q))<|aj (O.fj (.ptr q))<|aj (O.bh q (.ptr q) kj q)<|aj (O.dW (cs':=[ah bp kL,ah a6 jh,ah bG a7.aq.ba,ai a0.bA,ai a0.bF]) q (.ptr q) gv q q)<|ar.dI (G2:=[(2,_)]) (cs2:=[ah bp kL,ah a6 jh,ah bG a7.aq.ba,ai a0.bA,ai a0.bF]) q (.obj q) (.b' q q) q mR q q q q (.b q .nil)<|ar.aW) ?_
    refine af.aX<|W.rt ?_
    obtain rfl:=au h
    exact cx (.c (ys0:=[ah bp kL,ah a6 jh,ah bG a7.aq.ba,ai a0.bA,ai a0.bF]) q gv q q q (.f q (.f q (.f q (.f q (.f q .nil))))) (.f q q (.f q q (.f q q .nil))))
theorem O5 (a0:Source) (r:b_ × Bool) (h:A4 a0=some r):cb Try.prog 68 [.agg (dY.cells a0)] [none] (.cB [.agg (cm.cells r.1),a1 r.2]):=by
 unfold A4 at h
 refine cb.go (N:=⟨18,[]⟩) Try.func68 q q q q (W.fin ?_)
 refine W.st [(0,.agg (dY.cells a0))] ?_
 refine W.bY [1,2] (aj (O.box (.b' q q) q)<|aj (O.fL (cs:=[.aK,.aK,.aK,ai aC,ai aC]) og q q)<|ar.aW) ?_
 obtain ⟨aF,fI,h⟩:=ay h
 refine W.bY [2,4,5] (aj (O.dW (cs':=[ai a0.bA,ah de a0.Decls,ah ia a0.eG,ai a0.bF]) q (.obj q) uQ q q)<|ee (cu.go (.b0 (.b' q q) .nil) (Pa a0 _ fI) call78 q)<|aj (O.aA (.cB q q))<|aj (O.ex (y:=.agg (cm.cells aF.1)) q q q)<|aj (O.ex (y:=j aF.2.1) q q q)<|aj (O.ex (y:=j aF.2.2.1) q q q)<|aj (O.ex (y:=ai aF.2.2.2) q q q)<|aj (O.fL (cs:=[.aK,.aK,.aK,ai aC,ai aC]) og q q)<|ar.dI (G2:=[(2,_),(4,_),(12,_),(13,_),(14,_)]) (cs2:=[ah bp aF.1.a',ah a6 aF.1.bu,ah bG aF.1.ba,ai aF.1.bA,ai aF.1.bF]) q (.obj q) (.b' q q) q mR q q q q (.n q q (.b q (.n q q (.n q q (.n q q .nil)))))<|ar.aW) ?_
 refine W.bY [2,3] (aj (O.dW (cs':=[ah bp aF.1.a',ah a6 aF.1.bu,ah bG aF.1.ba,ai aF.1.bA,ai aF.1.bF]) q (.obj q) gv q q)<|bq q<|aj (O.eql (.lit q) (.k q))<|ar.dI (G2:=[(2,_),(17,_)]) (cs2:=[ah bp aF.1.a',ah a6 aF.1.bu,ah bG aF.1.ba,ai aF.1.bA,ai aF.1.bF]) q (.obj q) (.b' q q) q mR q q q q (.b q (.n q q .nil))<|ar.aW) ?_
 refine W.rt ?_
 obtain rfl:=au h
 exact cx (.c (ys0:=[ah bp aF.1.a',ah a6 aF.1.bu,ah bG aF.1.ba,ai aF.1.bA,ai aF.1.bF]) q gv q q q (.f q (.f q (.f q (.f q (.f q .nil))))) (.f q q .nil))
theorem uY (a0:(List Int)) (aw:Int) (r:(List Int)) (h:pq a0 aw=some r):cb Try.prog 67 [ah aI a0,j aw] [none,none] (ah aI r):=by
 unfold pq at h
 refine cb.go (N:=⟨47,[]⟩) Try.func67 q q q q (W.fin ?_)
 refine W.st [(0,ah aI a0),(1,j aw)] ?_
 refine W.aU [0,1] ?_
 refine W.aU [0,1,5] ?_
 refine W.aZ<|W.bk ?_
 obtain ⟨x2,ao,h⟩:=ay h
 refine W.cf (G1:=[(0,_),(1,_),(5,_)]) (dq q q q) ?_
 refine W.eO (s:=(a0.length:Int)) (λ(s1:Int)=>[(0,ah aI a0),(1,j aw),(5,j s1)]) 0 (λ(x2:Int)=>[(0,ah aI a0),(1,j aw),(5,j x2)]) ao (λs1 o h=>?_) ?_
 ·clear ao
  refine W.aZ ?_
  obtain ⟨sb,aa,h⟩:=ay h
  refine W.rs [(0,ah aI a0),(1,j aw),(5,j s1),(19,a1 sb)] ?_ ?_
  ·refine bq q<|aj (O.gtr (.lit q) (.k q))<|aj (O.aA (.lit q)) ?_
   rcases cz aa with ⟨dd,aa⟩ | ⟨dd,aa⟩
   ·refine aM dd (O.aA (.aE q))<|aM dd (O.aA (.lit q))<|aM dd (O.sub (.lit q) (.k q)) ?_
    obtain ⟨cq,lP,aa⟩:=ay aa
    obtain rfl:=au aa
    exact ar.aW
   ·obtain rfl:=au aa
    exact ar.aW
  refine W.bw h q (λc5 h=>?_) (λc5 h=>?_)
  ·refine W.bI<|af.aX ?_
   refine W.bk<|W.bm [0,1,5] (bq q<|aj (O.sub (.lit q) (.k q))<|ar.bm [0,1,21] q<|ar.aW) ?_
   refine af.bk ?_
   obtain rfl:=au h
   exact af.go (dq q q q)
  ·refine W.da ?_
   refine af.c' ?_
   obtain rfl:=au h
   exact af.aF (dq q q q)
 refine af.db ?_
 refine af.aX<|W.aZ ?_
 obtain ⟨iS,aa,h⟩:=ay h
 refine W.rs [(0,ah aI a0),(1,j aw),(5,j x2),(32,a1 iS)] ?_ ?_
 ·refine bq q<|aj (O.gtr (.lit q) (.k q))<|aj (O.aA (.lit q)) ?_
  rcases cz aa with ⟨c6,aa⟩ | ⟨c6,aa⟩
  ·refine aM c6 (O.aA (.aE q))<|aM c6 (O.aA (.lit q))<|aM c6 (O.sub (.lit q) (.k q)) ?_
   obtain ⟨cF,jP,aa⟩:=ay aa
   obtain rfl:=au aa
   exact ar.aW
  ·obtain rfl:=au aa
   exact ar.aW
 refine W.bw h q (λfh h=>?_) (λfh h=>?_)
 ·refine W.aU [4] ?_
  refine W.rt ?_
  refine af.cK ?_
  obtain rfl:=au h
  exact cx (.f q q .nil)
 ·refine W.bI<|af.aX ?_
  obtain ⟨dU,lO,h⟩:=ay h
  obtain ⟨ei,kG,h⟩:=ay h
  refine W.bY [0,1,5,6] (aj (O.dz (ys:=[]) aI ([]:List Int) fk q q q q q q oS q q)<|aj (O.aA (.aE q))<|bq q<|aj (O.HI (.aE q) (.lit q) fk lO)<|aj (O.ap (en:=aI) (r:=ei) (.own q) q (.aE q) .i ov q kG)<|ar.gd (G2:=[(0,ah aI a0),(1,j aw),(5,j x2)]) q (cj.mV q q (.bX q) q q q (.n q q (.n q q (.n q q .nil))) q q)<|bS q) ?_
  refine W.aZ ?_
  obtain ⟨eo,km,h⟩:=ay h
  obtain ⟨cA,ic,h⟩:=ay h
  obtain ⟨ck,k6,h⟩:=ay h
  refine W.rd [[],[],[1],[0,1,2],[],[],[4,5],aP 0 7 [],aP 0 8 []] [(4,_)] ez (by kernel_rfl) (av 0 (O.aA (.own q))<|av 1 (O.aA (.lit q))<|bL.fC 2 (x:=ah aI [aw]) (O.dz (ys:=[j aw]) aI [aw] fk q q q q q q oS q q) q q q q .none<|av 3 (O.ap (en:=aI) (r:=eo) (.bn q) q (.aE q) .i ov q km)<|av 4 (O.aA (.aE q))<|av 5 (O.aA (.lit q))<|av 6 (O.HJ (.aE q) (.lit q) fk ic)<|av 7 (O.Iz (en:=aI) (r:=ck) (.bX q) q q (.aE q) .i ov q k6)<|bL.bv 8 (G2:=[]) (cj.Is q q (.bX q) q q q q q q .nil q q) q q q q (by kernel_rfl) (by kernel_rfl)<|bL.fin q q q (.n q .nil)) ?_
  refine af.aX<|W.e7 (G1:=[(4,ah aI ((([]:List Int)++dU)++[aw]++cA))]) [4] (.z q q .hj .nil) ?_
  refine W.rt ?_
  obtain rfl:=au h
  exact cx (.f q q .nil)
theorem Jw (a0:(List Int)) (aw:Int) (r:Bool) (h:yb a0 aw=some r):cb Try.prog 70 [ah aI a0,j aw] [none,none] (a1 r):=by
 unfold yb at h
 refine cb.go (N:=⟨18,[]⟩) Try.func70 q q q q (W.fin ?_)
 refine W.st [(0,ah aI a0),(1,j aw)] ?_
 refine W.aU [0,1] ?_
 refine W.aZ<|W.aU [0,1,5] ?_
 refine W.bk ?_
 obtain ⟨x2,ao,h⟩:=ay h
 refine W.cf (G1:=[(0,_),(1,_),(5,_)]) (dq q q q) ?_
 refine W.iH (s:=0) (λ(s1:Int)=>[(0,ah aI a0),(1,j aw),(5,j s1)]) 0 (λ(a_:Unit)=>[]) (λ(bE:Bool)=>[(4,a1 bE)]) ao (λs1 o h=>?_) (λa_ J=>?_) (λbE J=>?_)
 ·clear ao
  refine W.aZ<|W.aU [0,1,5,9] ?_
  refine W.bw h q (λdD h=>?_) (λdD h=>?_)
  ·refine W.bI<|af.aX ?_
   refine W.aZ<|W.bk ?_
   obtain ⟨bx,fJ,h⟩:=ay h
   refine W.aU [0,1,5,17] ?_
   refine W.bw h q (λc5 h=>?_) (λc5 h=>?_)
   ·refine W.aU [4] ?_
    refine W.rt ?_
    refine af.dv ?_
    refine af.cK ?_
    obtain rfl:=au h
    exact af.fP (.n q .nil)
   ·refine W.bI<|af.bk ?_
    refine af.aX<|W.bm [0,1,5] (bq q<|aj (O.add (.lit q) (.k q))<|ar.bm [0,1,11] q<|ar.aW) ?_
    obtain rfl:=au h
    exact af.go (dq q q q)
  ·refine W.da ?_
   refine af.c' ?_
   obtain rfl:=au h
   exact af.x2 .nil
 ·subst J
  refine af.db ?_
  refine af.aX<|W.aU [4] ?_
  refine W.rt ?_
  obtain rfl:=au h
  exact cx (.f q q .nil)
 ·subst J
  refine af.dv ?_
  refine af.cK ?_
  obtain rfl:=au h
  exact cx (.f q q .nil)
theorem Pb (a0:b_) (r:(List Int)) (h:Ba a0=some r):cb Try.prog 79 [.agg (cm.cells a0)] [none] (ah aI r):=by
 unfold Ba at h
 refine cb.go (N:=⟨30,[]⟩) Try.func79 q q q q (W.fin ?_)
 refine W.st [(0,.agg (cm.cells a0))] ?_
 refine W.bY [1] (aj (O.box (.b' q q) q)<|ar.aW) ?_
 refine W.aU [1,3] ?_
 refine W.aZ<|W.aU [1,3,4] ?_
 refine W.bk ?_
 obtain ⟨x2,ao,h⟩:=ay h
 refine W.cf (G1:=[(1,_),(3,ak aI ([]:List Int)),(4,_)]) (.n q (.w q q .mK (.n q .nil))) ?_
 refine W.eO (s:=(([]:List Int),0)) (λ(s1:List Int × Int)=>[(1,.obj (cm.cells a0)),(3,ak aI s1.1),(4,j s1.2)]) 0 (λ(x2:List Int)=>[(1,.obj (cm.cells a0)),(3,ak aI x2)]) ao (λs1 o h=>?_) ?_
 ·clear ao
  refine W.aZ<|W.aU [1,3,4,10] ?_
  refine W.bw h q (λdd h=>?_) (λdd h=>?_)
  ·refine W.bI<|af.aX ?_
   refine W.aZ<|W.bk ?_
   obtain ⟨cq,lP,h⟩:=ay h
   refine W.bm [1,3,4] (aj (O.aA (.own q))<|bq q<|ar.fC (x:=ah aI [s1.2]) (O.dz (ys:=[j s1.2]) aI [s1.2] fk q q q q q q oS q q) q q .none<|aj (O.ap (en:=aI) (r:=cq) (.bn q) q (.aE q) .i ov q lP)<|ar.gd (G2:=[(1,.obj (cm.cells a0)),(4,j s1.2)]) q (cj.mV q q (.bX q) q q q (.n q q (.n q q .nil)) q q)<|bS q) ?_
   refine af.bk ?_
   refine af.aX<|W.bm [1,3,4] (bq q<|aj (O.add (.lit q) (.k q))<|ar.bm [1,3,12] q<|ar.aW) ?_
   obtain rfl:=au h
   exact af.go (dq q q q)
  ·refine W.da ?_
   refine af.c' ?_
   obtain rfl:=au h
   exact af.aF (fG q q)
 refine af.db ?_
 refine af.aX<|W.aZ ?_
 refine W.aU [1,3,5] ?_
 refine W.bk ?_
 obtain ⟨bz,ao,h⟩:=ay h
 refine W.cf (G1:=[(1,_),(3,_),(5,_)]) (dq q q q) ?_
 refine W.eO (s:=(x2,0)) (λ(cH:List Int × Int)=>[(1,.obj (cm.cells a0)),(3,ak aI cH.1),(5,j cH.2)]) 2 (λ(bz:List Int)=>[(3,ak aI bz)]) ao (λcH o h=>?_) ?_
 ·clear ao
  refine W.aZ<|W.aU [1,3,5,21] ?_
  refine W.bw h q (λdp h=>?_) (λdp h=>?_)
  ·refine W.bI<|af.aX ?_
   refine W.aZ<|W.bk ?_
   obtain ⟨bQ,jJ,h⟩:=ay h
   refine W.bm [1,3,5] (aj (O.aA (.own q))<|bq q<|aj (O.add (.k q) (.lit q))<|ar.fC (x:=ah aI [aQ (1000+cH.2)]) (O.dz (ys:=[j (aQ (1000+cH.2))]) aI [aQ (1000+cH.2)] fk q q q q q q oS q q) q q .none<|aj (O.ap (en:=aI) (r:=bQ) (.bn q) q (.aE q) .i ov q jJ)<|ar.gd (G2:=[(1,.obj (cm.cells a0)),(5,j cH.2)]) q (cj.mV q q (.bX q) q q q (.n q q (.n q q .nil)) q q)<|bS q) ?_
   refine af.bk ?_
   refine af.aX<|W.bm [1,3,5] (bq q<|aj (O.add (.lit q) (.k q))<|ar.bm [1,3,23] q<|ar.aW) ?_
   obtain rfl:=au h
   exact af.go (dq q q q)
  ·refine W.da ?_
   refine af.c' ?_
   obtain rfl:=au h
   exact af.aF (.n q .nil)
 refine af.db ?_
 refine af.aX<|W.bY [2] (aj (O.aA (.own q))<|ar.gd (G2:=[]) q (cj.iR q q (.bn q) q .nil q q)<|bS q) ?_
 refine W.e7 (G1:=[(2,ah aI bz)]) [2] (.z q q .hj .nil) ?_
 refine W.rt ?_
 obtain rfl:=au h
 exact cx (.f q q .nil)
theorem Jd (a0:b_) (aw:Item) (r:Bool) (h:xX a0 aw=some r):cb Try.prog 102 [.agg (cm.cells a0),.agg [j aw.Prod,j aw.dP]] [none,none] (a1 r):=by
 unfold xX at h
 refine cb.go (N:=⟨34,[]⟩) Try.func102 q q q q (W.fin ?_)
 refine W.st [(0,.agg (cm.cells a0)),(1,.agg [j aw.Prod,j aw.dP])] ?_
 refine W.bY [2,3] (aj (O.box (.b' q q) q)<|aj (O.box (.b' q q) q)<|ar.aW) ?_
 refine W.aZ ?_
 obtain ⟨kA,aa,h⟩:=ay h
 refine W.rd [[],[0],[0,1],[0,1,2],[0,1,2,3],aP 0 5 [],[0,1,2,3],[0,1,2,3,6],[0,1,2,3,6,7],aP 0 9 [],aP 0 10 [],aP 0 11 [],aP 0 12 [],aP 0 13 [],aP 0 14 [],aP 0 15 [],aP 0 16 [],aP 0 17 [],aP 0 18 [],aP 0 17 [],aP 0 17 [19],aP 0 17 [],aP 0 17 [21],aP 0 17 [19,20,21,22],aP 0 17 (aP 19 5 []),aP 0 17 (aP 19 6 []),aP 0 17 (aP 19 7 []),aP 0 27 [],aP 0 28 [],aP 0 29 []] [(4,a1 kA)] ez (by kernel_rfl) ?_ ?_
 ·refine av 0 (O.bh q (.obj q) nt q)<|av 1 (O.cw q (.ptr q) cr q)<|av 2 (O.geq (.lit q) (.k q))<|av 3 (O.aA (.lit q)) ?_
  rcases cz aa with ⟨dg,aa⟩ | ⟨dg,aa⟩
  ·refine bC 4 dg (O.bh q (.obj q) nt q)<|bC 5 dg (O.cw q (.ptr q) cr q)<|bC 6 dg (O.bh q (.obj q) lG q)<|bC 7 dg (O.dm (y:=ah bG a0.ba) q (.ptr q) mY q q)<|bC 8 dg (O.h0 (.aE q) nm)<|bC 9 dg (O.lss (.lit q) (.lit q))<|av 10 (O.dS (.lit q) dg (.lit q))<|av 11 (O.aA (.lit q)) ?_
   rcases cz aa with ⟨cO,aa⟩ | ⟨cO,aa⟩
   ·refine bC 12 cO (O.bh q (.obj q) rC q)<|bC 13 cO (O.cw q (.ptr q) cr q)<|bC 14 cO (O.geq (.lit q) (.k q))<|av 15 (O.dS (.lit q) cO (.lit q))<|av 16 (O.aA (.lit q)) ?_
    rcases cz aa with ⟨fb,aa⟩ | ⟨fb,aa⟩
    ·refine bC 17 fb (O.bh q (.obj q) rC q)<|bC 18 fb (O.cw q (.ptr q) cr q)<|bC 19 fb (O.bh q (.obj q) lG q)<|bC 20 fb (O.dm (y:=ah bG a0.ba) q (.ptr q) mY q q)<|bC 21 fb (O.bh q (.obj q) nt q)<|bC 22 fb (O.cw q (.ptr q) cr q) ?_
     obtain ⟨bE,nf,aa⟩:=ay aa
     obtain rfl:=au aa
     exact bC 23 fb (O.cC (.aE q) (.lit q) nm nf)<|bC 24 fb (O.ej (.bo q) m_)<|bC 25 fb (O.c9 (x:=ah aI bE.fx) (.bo q) hM q)<|bC 26 fb (O.h0 (.aE q) fk)<|bC 27 fb (O.leq (.lit q) (.lit q))<|av 28 (O.dS (.lit q) fb (.lit q))<|av 29 (O.dO (.lit q))<|bL.fin q q q (.n q .nil)
    ·obtain rfl:=au aa
     exact bs 17 fb<|bs 18 fb<|bs 19 fb<|bs 20 fb<|bs 21 fb<|bs 22 fb<|bs 23 fb<|bs 24 fb<|bs 25 fb<|bs 26 fb<|bs 27 fb<|av 28 (O.cZ (.lit q) fb (.k q))<|av 29 (O.dO (.lit q))<|bL.fin q q q (.n q .nil)
   ·obtain rfl:=au aa
    exact bs 12 cO<|bs 13 cO<|bs 14 cO<|av 15 (O.cZ (.lit q) cO (.k q))<|av 16 (O.aA (.lit q))<|bs 17 q<|bs 18 q<|bs 19 q<|bs 20 q<|bs 21 q<|bs 22 q<|bs 23 q<|bs 24 q<|bs 25 q<|bs 26 q<|bs 27 q<|av 28 (O.cZ (.lit q) q (.k q))<|av 29 (O.dO (.lit q))<|bL.fin q q q (.n q .nil)
  ·obtain rfl:=au aa
   exact bs 4 dg<|bs 5 dg<|bs 6 dg<|bs 7 dg<|bs 8 dg<|bs 9 dg<|av 10 (O.cZ (.lit q) dg (.k q))<|av 11 (O.aA (.lit q))<|bs 12 q<|bs 13 q<|bs 14 q<|av 15 (O.cZ (.lit q) q (.k q))<|av 16 (O.aA (.lit q))<|bs 17 q<|bs 18 q<|bs 19 q<|bs 20 q<|bs 21 q<|bs 22 q<|bs 23 q<|bs 24 q<|bs 25 q<|bs 26 q<|bs 27 q<|av 28 (O.cZ (.lit q) q (.k q))<|av 29 (O.dO (.lit q))<|bL.fin q q q (.n q .nil)
 refine af.aX<|W.rt ?_
 obtain rfl:=au h
 exact cx (.f q q .nil)
theorem EB (a0:b_) (aw:Item) (r:Int) (h:v8 a0 aw=some r):cb Try.prog 81 [.agg (cm.cells a0),.agg [j aw.Prod,j aw.dP]] [none,none] (j r):=by
 unfold v8 at h
 refine cb.go (N:=⟨33,[]⟩) Try.func81 q q q q (W.fin ?_)
 refine W.st [(0,.agg (cm.cells a0)),(1,.agg [j aw.Prod,j aw.dP])] ?_
 refine W.bY [2,3] (aj (O.box (.b' q q) q)<|aj (O.box (.b' q q) q)<|ar.aW) ?_
 refine W.aZ<|W.aZ ?_
 obtain ⟨c4,aa,h⟩:=ay h
 refine W.rd [[],[],[0,1],[0,1,2],[0,1,2,3],aP 0 5 [],aP 0 6 [],aP 0 5 [],aP 0 5 [7],aP 0 5 [],aP 0 5 [9],aP 0 5 [7,8,9,10],aP 0 5 (aP 7 5 []),aP 0 5 (aP 7 6 []),aP 0 5 (aP 7 7 []),aP 0 15 [],aP 0 16 []] [(2,.obj (cm.cells a0)),(3,.obj [j aw.Prod,j aw.dP]),(21,a1 c4)] ez (by kernel_rfl) ?_ ?_
 ·refine av 0 (O.dW (cs':=[ah bp a0.a',ah a6 a0.bu,ah bG a0.ba,ai a0.bA,ai a0.bF]) q (.obj q) gv q q)<|av 1 (O.dW (cs':=[j aw.Prod,j aw.dP]) q (.obj q) pP q q) ?_
  obtain ⟨aF,fI,aa⟩:=ay aa
  refine iN 2 (cu.go (.b0 (.b' q q) (.b0 (.b' q q) .nil)) (Jd a0 aw _ fI) call102 q)<|av 3 (O.not (.lit q))<|av 4 (O.aA (.lit q)) ?_
  rcases cz aa with ⟨cO,aa⟩ | ⟨cO,aa⟩
  ·obtain rfl:=au aa
   exact bs 5 cO<|bs 6 cO<|bs 7 cO<|bs 8 cO<|bs 9 cO<|bs 10 cO<|bs 11 cO<|bs 12 cO<|bs 13 cO<|bs 14 cO<|bs 15 cO<|av 16 (O.dS (.lit q) cO (.k q))<|bL.fin q q q (dq q q q)
  ·refine bC 5 cO (O.bh q (.obj q) rC q)<|bC 6 cO (O.cw q (.ptr q) cr q)<|bC 7 cO (O.bh q (.obj q) lG q)<|bC 8 cO (O.dm (y:=ah bG a0.ba) q (.ptr q) mY q q)<|bC 9 cO (O.bh q (.obj q) nt q)<|bC 10 cO (O.cw q (.ptr q) cr q) ?_
   obtain ⟨a_,hd,aa⟩:=ay aa
   obtain rfl:=au aa
   exact bC 11 cO (O.cC (.aE q) (.lit q) nm hd)<|bC 12 cO (O.ej (.bo q) m_)<|bC 13 cO (O.c9 (x:=ah aI a_.fx) (.bo q) hM q)<|bC 14 cO (O.h0 (.aE q) fk)<|bC 15 cO (O.eql (.lit q) (.lit q))<|av 16 (O.cZ (.lit q) cO (.lit q))<|bL.fin q q q (dq q q q)
 refine af.aX<|W.bw h q (λdD h=>?_) (λdD h=>?_)
 ·refine W.aU [4] ?_
  refine W.rt ?_
  refine af.cK ?_
  obtain rfl:=au h
  exact cx (.f q q .nil)
 ·refine W.bI<|af.aX ?_
  refine W.aZ ?_
  obtain ⟨bx,fJ,h⟩:=ay h
  obtain ⟨bz,gq,h⟩:=ay h
  refine W.rd [[],[0],[],[2],[0,1,2,3],aP 0 5 [],aP 0 6 [],[],[7],aP 0 9 [],aP 0 10 [],aP 0 11 []] [(4,_)] ez (by kernel_rfl) (av 0 (O.bh q (.obj q) lG q)<|av 1 (O.dm (y:=ah bG a0.ba) q (.ptr q) mY q q)<|av 2 (O.bh q (.obj q) nt q)<|av 3 (O.cw q (.ptr q) cr q)<|av 4 (O.cC (.aE q) (.lit q) nm fJ)<|av 5 (O.ej (.bo q) m_)<|av 6 (O.c9 (x:=ah aI bx.fx) (.bo q) hM q)<|av 7 (O.bh q (.obj q) rC q)<|av 8 (O.cw q (.ptr q) cr q)<|av 9 (O.cC (.aE q) (.lit q) fk gq)<|av 10 (O.c9 (x:=j bz) (.bo q) cr q)<|av 11 (O.dO (.lit q))<|bL.fin q q q (.n q .nil)) ?_
  refine af.aX<|W.rt ?_
  obtain rfl:=au h
  exact cx (.f q q .nil)
theorem Ev (a0:(List Item)) (aw:Item) (r:(List Item)) (h:vR a0 aw=some r):cb Try.prog 101 [ah dw a0,.agg [j aw.Prod,j aw.dP]] [none,none] (ah dw r):=by
 unfold vR at h
 refine cb.go (N:=⟨71,[]⟩) Try.func101 q q q q (W.fin ?_)
 refine W.st [(0,ah dw a0),(1,.agg [j aw.Prod,j aw.dP])] ?_
 refine W.bY [0,3] (aj (O.box (.b' q q) q)<|ar.aW) ?_
 refine W.aU [0,3,5] ?_
 refine W.aZ<|W.bk ?_
 obtain ⟨x2,ao,h⟩:=ay h
 refine W.cf (G1:=[(0,_),(3,_),(5,_)]) (dq q q q) ?_
 refine W.eO (s:=(a0.length:Int)) (λ(s1:Int)=>[(0,ah dw a0),(3,.obj [j aw.Prod,j aw.dP]),(5,j s1)]) 0 (λ(x2:Int)=>[(0,ah dw a0),(3,.obj [j aw.Prod,j aw.dP]),(5,j x2)]) ao (λs1 o h=>?_) ?_
 ·clear ao
  refine W.aZ<|W.aZ ?_
  obtain ⟨iS,aa,h⟩:=ay h
  refine W.rd [[],[0],[0,1],[0,1,2],[0,1,2],[0,1,2,4],aP 0 6 [],aP 0 7 [],aP 0 8 [],[0,1,2],[0,1,2,9],aP 0 11 [],aP 0 12 [],aP 0 13 [],aP 0 13 [],aP 0 13 [14],aP 0 16 [],aP 0 17 [],aP 0 18 [],aP 0 13 [],aP 0 13 [19],aP 0 21 [],aP 0 22 [],aP 0 23 [],aP 0 23 [],aP 0 23 [24],aP 0 26 [],aP 0 27 [],aP 0 28 [],aP 0 23 [],aP 0 23 [29],aP 0 31 [],aP 0 32 [],aP 0 33 [],aP 0 34 []] [(0,ah dw a0),(3,.obj [j aw.Prod,j aw.dP]),(5,j s1),(43,a1 iS)] ez (by kernel_rfl) ?_ ?_
  ·refine av 0 (O.aA (.lit q))<|av 1 (O.gtr (.lit q) (.k q))<|av 2 (O.aA (.lit q)) ?_
   rcases cz aa with ⟨dd,aa⟩ | ⟨dd,aa⟩
   ·refine bC 3 dd (O.aA (.aE q))<|bC 4 dd (O.aA (.lit q))<|bC 5 dd (O.sub (.lit q) (.k q)) ?_
    obtain ⟨cq,lP,aa⟩:=ay aa
    refine bC 6 dd (O.cC (.aE q) (.lit q) kb lP)<|bC 7 dd (O.ej (.bo q) nt)<|bC 8 dd (O.c9 (x:=j cq.Prod) (.bo q) cr q)<|bC 9 dd (O.bh q (.obj q) nt q)<|bC 10 dd (O.cw q (.ptr q) cr q)<|bC 11 dd (O.gtr (.lit q) (.lit q))<|bC 12 dd (O.aA (.lit q)) ?_
    rcases cz aa with ⟨ec,aa⟩ | ⟨ec,aa⟩
    ·obtain rfl:=au aa
     exact bs 13 ec<|bs 14 ec<|bs 15 ec<|bs 16 ec<|bs 17 ec<|bs 18 ec<|bs 19 ec<|bs 20 ec<|bs 21 ec<|bs 22 ec<|dy 23<|dy 24<|dy 25<|dy 26<|dy 27<|dy 28<|dy 29<|dy 30<|dy 31<|bs 32 ec<|bC 33 dd (O.dS (.lit q) ec (.k q))<|av 34 (O.dS (.lit q) dd (.lit q))<|bL.fin q q q (dA q q q q)
    ·refine bC 13 ec (O.aA (.aE q))<|bC 14 ec (O.aA (.lit q))<|bC 15 ec (O.sub (.lit q) (.k q)) ?_
     obtain ⟨bz,gq,aa⟩:=ay aa
     refine bC 16 ec (O.cC (.aE q) (.lit q) kb gq)<|bC 17 ec (O.ej (.bo q) nt)<|bC 18 ec (O.c9 (x:=j bz.Prod) (.bo q) cr q)<|bC 19 ec (O.bh q (.obj q) nt q)<|bC 20 ec (O.cw q (.ptr q) cr q)<|bC 21 ec (O.eql (.lit q) (.lit q))<|bC 22 ec (O.aA (.lit q)) ?_
     rcases cz aa with ⟨c6,aa⟩ | ⟨c6,aa⟩
     ·refine bC 23 c6 (O.aA (.aE q))<|bC 24 c6 (O.aA (.lit q))<|bC 25 c6 (O.sub (.lit q) (.k q)) ?_
      obtain ⟨cF,jP,aa⟩:=ay aa
      obtain rfl:=au aa
      exact bC 26 c6 (O.cC (.aE q) (.lit q) kb jP)<|bC 27 c6 (O.ej (.bo q) rC)<|bC 28 c6 (O.c9 (x:=j cF.dP) (.bo q) cr q)<|bC 29 c6 (O.bh q (.obj q) rC q)<|bC 30 c6 (O.cw q (.ptr q) cr q)<|bC 31 c6 (O.gtr (.lit q) (.lit q))<|bC 32 ec (O.dS (.lit q) c6 (.lit q))<|bC 33 dd (O.cZ (.lit q) ec (.lit q))<|av 34 (O.dS (.lit q) dd (.lit q))<|bL.fin q q q (dA q q q q)
     ·obtain rfl:=au aa
      exact bs 23 c6<|bs 24 c6<|bs 25 c6<|bs 26 c6<|bs 27 c6<|bs 28 c6<|bs 29 c6<|bs 30 c6<|bs 31 c6<|bC 32 ec (O.cZ (.lit q) c6 (.k q))<|bC 33 dd (O.cZ (.lit q) ec (.lit q))<|av 34 (O.dS (.lit q) dd (.lit q))<|bL.fin q q q (dA q q q q)
   ·obtain rfl:=au aa
    exact bs 3 dd<|bs 4 dd<|bs 5 dd<|bs 6 dd<|bs 7 dd<|bs 8 dd<|bs 9 dd<|bs 10 dd<|bs 11 dd<|bs 12 dd<|dy 13<|dy 14<|dy 15<|dy 16<|dy 17<|dy 18<|dy 19<|dy 20<|dy 21<|dy 22<|dy 23<|dy 24<|dy 25<|dy 26<|dy 27<|dy 28<|dy 29<|dy 30<|dy 31<|dy 32<|bs 33 dd<|av 34 (O.cZ (.lit q) dd (.k q))<|bL.fin q q q (dA q q q q)
  refine af.aX<|W.bw h q (λfh h=>?_) (λfh h=>?_)
  ·refine W.bI<|af.aX ?_
   refine W.bk<|W.bm [0,3,5] (bq q<|aj (O.sub (.lit q) (.k q))<|ar.bm [0,3,45] q<|ar.aW) ?_
   refine af.bk ?_
   obtain rfl:=au h
   exact af.go (dq q q q)
  ·refine W.da ?_
   refine af.c' ?_
   obtain rfl:=au h
   exact af.aF (dq q q q)
 refine af.db ?_
 refine af.aX<|W.aZ ?_
 refine W.aZ ?_
 obtain ⟨qt,aa,h⟩:=ay h
 refine W.rd [[],[0],[0,1],[0,1,2],[0,1,2],[0,1,2,4],aP 0 6 [],aP 0 7 [],[0,1,2],aP 0 9 [],aP 0 10 []] [(0,ah dw a0),(3,.obj [j aw.Prod,j aw.dP]),(5,j x2),(56,a1 qt)] ez (by kernel_rfl) ?_ ?_
 ·refine av 0 (O.aA (.lit q))<|av 1 (O.gtr (.lit q) (.k q))<|av 2 (O.aA (.lit q)) ?_
  rcases cz aa with ⟨eb,aa⟩ | ⟨eb,aa⟩
  ·refine bC 3 eb (O.aA (.aE q))<|bC 4 eb (O.aA (.lit q))<|bC 5 eb (O.sub (.lit q) (.k q)) ?_
   obtain ⟨ei,kG,aa⟩:=ay aa
   obtain rfl:=au aa
   exact bC 6 eb (O.cC (.aE q) (.lit q) kb kG)<|bC 7 eb (O.iV (cs':=[j ei.Prod,j ei.dP]) (.bo q) pP q q)<|bC 8 eb (O.dW (cs':=[j aw.Prod,j aw.dP]) q (.obj q) pP q q)<|bC 9 eb (O.JP (va:=[.int .i64 ei.Prod,.int .i64 ei.dP]) (vb:=[.int .i64 aw.Prod,.int .i64 aw.dP]) (.b' q q) (.b' q q) q q JM)<|av 10 (O.dS (.lit q) eb (.lit q))<|bL.fin q q q (dA q q q q)
  ·obtain rfl:=au aa
   exact bs 3 eb<|bs 4 eb<|bs 5 eb<|bs 6 eb<|bs 7 eb<|bs 8 eb<|bs 9 eb<|av 10 (O.cZ (.lit q) eb (.k q))<|bL.fin q q q (dA q q q q)
 refine af.aX<|W.bw h q (λqG h=>?_) (λqG h=>?_)
 ·refine W.aU [4] ?_
  refine W.rt ?_
  refine af.cK ?_
  obtain rfl:=au h
  exact cx (.f q q .nil)
 ·refine W.bI<|af.aX ?_
  obtain ⟨ck,k6,h⟩:=ay h
  obtain ⟨b2,hY,h⟩:=ay h
  refine W.bY [0,3,5,6] (aj (O.dz (ys:=[]) dw ([]:List Item) kb q q q q q q H4 q q)<|aj (O.aA (.aE q))<|bq q<|aj (O.HI (.aE q) (.lit q) kb k6)<|aj (O.ap (en:=dw) (r:=b2) (.own q) q (.aE q) .i D3 q hY)<|ar.gd (G2:=[(0,ah dw a0),(3,.obj [j aw.Prod,j aw.dP]),(5,j x2)]) q (cj.mV q q (.bX q) q q q (.n q q (.n q q (.n q q .nil))) q q)<|bS q) ?_
  refine W.aZ ?_
  obtain ⟨eZ,j5,h⟩:=ay h
  obtain ⟨eD,mA,h⟩:=ay h
  obtain ⟨c0,nZ,h⟩:=ay h
  refine W.rd [[],[],[1],[0,1,2],[],[],[4,5],aP 0 7 [],aP 0 8 []] [(4,_)] ez (by kernel_rfl) (av 0 (O.aA (.own q))<|av 1 (O.dW (cs':=[j aw.Prod,j aw.dP]) q (.obj q) pP q q)<|bL.fC 2 (x:=ah dw [aw]) (O.dz (ys:=[.agg [j aw.Prod,j aw.dP]]) dw [aw] kb q q q q q q H4 q q) q q q q .none<|av 3 (O.ap (en:=dw) (r:=eZ) (.bn q) q (.aE q) .i D3 q j5)<|av 4 (O.aA (.aE q))<|av 5 (O.aA (.lit q))<|av 6 (O.HJ (.aE q) (.lit q) kb mA)<|av 7 (O.Iz (en:=dw) (r:=c0) (.bX q) q q (.aE q) .i D3 q nZ)<|bL.bv 8 (G2:=[]) (cj.Is q q (.bX q) q q q q q q .nil q q) q q q q (by kernel_rfl) (by kernel_rfl)<|bL.fin q q q (.n q .nil)) ?_
  refine af.aX<|W.e7 (G1:=[(4,ah dw ((([]:List Item)++ck)++[aw]++eD))]) [4] (.z q q .hj .nil) ?_
  refine W.rt ?_
  obtain rfl:=au h
  exact cx (.f q q .nil)
theorem OJ (a0:b_) (aw:(List Item)) (r:(List Item)) (h:AK a0 aw=some r):cb Try.prog 100 [.agg (cm.cells a0),ah dw aw] [none,none] (ah dw r):=by
 unfold AK at h
 refine cb.go (N:=⟨26,[]⟩) Try.func100 q q q q (W.fin ?_)
 refine W.st [(0,.agg (cm.cells a0)),(1,ah dw aw)] ?_
 refine W.bY [1,2] (aj (O.box (.b' q q) q)<|ar.aW) ?_
 refine W.aU [1,2,5] ?_
 refine W.aZ<|W.aU [1,2,5,6] ?_
 refine W.bk ?_
 obtain ⟨x2,ao,h⟩:=ay h
 refine W.cf (G1:=[(1,_),(2,_),(5,ah dw ([]:List Item)),(6,_)]) (.n q (.n q (.w q q .xP (.n q .nil)))) ?_
 refine W.eO (s:=(([]:List Item),0)) (λ(s1:List Item × Int)=>[(1,ah dw aw),(2,.obj (cm.cells a0)),(5,ah dw s1.1),(6,j s1.2)]) 0 (λ(x2:List Item)=>[(5,ah dw x2)]) ao (λs1 o h=>?_) ?_
 ·clear ao
  refine W.aZ<|W.aU [1,2,5,6,10] ?_
  refine W.bw h q (λdd h=>?_) (λdd h=>?_)
  ·refine W.bI<|af.aX ?_
   refine W.aZ ?_
   obtain ⟨l6,aa,h⟩:=ay h
   refine W.bB [(1,ah dw aw),(2,.obj (cm.cells a0)),(5,ah dw l6),(6,j s1.2)] ?_ ?_
   ·clear h; have h:=aa; clear aa
    refine W.bk<|W.aZ ?_
    obtain ⟨bx,fJ,h⟩:=ay h
    obtain ⟨bz,gq,h⟩:=ay h
    refine W.rd [[],[],[],[1,2],[1,2,3],aP 0 5 []] [(1,_),(2,_),(5,_),(6,_),(18,_)] ez (by kernel_rfl) (av 0 (O.dW (cs':=[ah bp a0.a',ah a6 a0.bu,ah bG a0.ba,ai a0.bA,ai a0.bF]) q (.obj q) gv q q)<|av 1 (O.aA (.aE q))<|av 2 (O.aA (.lit q))<|av 3 (O.cC (.aE q) (.lit q) kb fJ)<|av 4 (O.iV (cs':=[j bx.Prod,j bx.dP]) (.bo q) pP q q)<|iN 5 (cu.go (.b0 (.b' q q) (.b0 (.b' q q) .nil)) (Jd a0 bx _ gq) call102 q)<|bL.fin q q q (eW q q q q q)) ?_
    refine af.aX ?_
    obtain ⟨fi,aa,h⟩:=ay h
    refine W.bB [(1,ah dw aw),(2,.obj (cm.cells a0)),(5,ah dw fi),(6,j s1.2)] ?_ ?_
    ·clear h; have h:=aa; clear aa
     refine W.bw h q (λdp h=>?_) (λdp h=>?_)
     ·obtain ⟨bQ,jJ,h⟩:=ay h
      obtain ⟨b1,hn,h⟩:=ay h
      refine W.bm [1,2,5,6] (aj (O.aA (.aE q))<|aj (O.aA (.aE q))<|bq q<|aj (O.cC (.aE q) (.lit q) kb jJ)<|aj (O.iV (cs':=[j bQ.Prod,j bQ.dP]) (.bo q) pP q q)<|ee (cu.go (.b0 (.aE q) (.b0 (.b' q q) .nil)) (Ev s1.1 bQ _ hn) call101 q)<|ar.bm [1,2,6,24] q<|ar.aW) ?_
      obtain rfl:=au h
      exact af.bB (dA q q q q)
     ·refine W.bI ?_
      obtain rfl:=au h
      exact af.bB (dA q q q q)
    refine af.bk ?_
    obtain rfl:=au h
    exact af.bB (dA q q q q)
   refine af.aX<|W.bm [1,2,5,6] (bq q<|aj (O.add (.lit q) (.k q))<|ar.bm [1,2,5,12] q<|ar.aW) ?_
   obtain rfl:=au h
   exact af.go (dA q q q q)
  ·refine W.da ?_
   refine af.c' ?_
   obtain rfl:=au h
   exact af.aF (.n q .nil)
 refine af.db ?_
 refine af.aX<|W.aU [4] ?_
 refine W.rt ?_
 obtain rfl:=au h
 exact cx (.f q q .nil)
theorem EA (a0:b_) (aw:(List Item)) (r:(List Item)) (h:v7 a0 aw=some r):cb Try.prog 80 [.agg (cm.cells a0),ah dw aw] [none,none] (ah dw r):=by
 unfold v7 at h
 refine cb.go (N:=⟨59,[]⟩) Try.func80 q q q q (W.fin ?_)
 refine W.st [(0,.agg (cm.cells a0)),(1,ah dw aw)] ?_
 refine W.bY [1,2] (aj (O.box (.b' q q) q)<|ar.aW) ?_
 obtain ⟨aF,fI,h⟩:=ay h
 refine W.bY [2,5] (aj (O.dW (cs':=[ah bp a0.a',ah a6 a0.bu,ah bG a0.ba,ai a0.bA,ai a0.bF]) q (.obj q) gv q q)<|aj (O.aA (.aE q))<|ee (cu.go (.b0 (.b' q q) (.b0 (.aE q) .nil)) (OJ a0 aw _ fI) call100 q)<|ar.aW) ?_
 refine W.aZ<|W.aU [2,5,6] ?_
 refine W.bk ?_
 obtain ⟨a_,ao,h⟩:=ay h
 refine W.cf (G1:=[(2,_),(5,_),(6,_)]) (dq q q q) ?_
 refine W.eO (s:=(aF,(-1))) (λ(s2:List Item × Int)=>[(2,.obj (cm.cells a0)),(5,ah dw s2.1),(6,j s2.2)]) 0 (λ(a_:List Item)=>[(5,ah dw a_)]) ao (λs2 o h=>?_) ?_
 ·clear ao
  refine W.aZ<|W.aU [2,5,16] ?_
  refine W.bw h q (λdD h=>?_) (λdD h=>?_)
  ·refine W.bI<|af.aX ?_
   obtain ⟨kH,aa,h⟩:=ay h
   refine W.bB [(2,.obj (cm.cells a0)),(5,ah dw kH.1),(6,j kH.2)] ?_ ?_
   ·clear h; have h:=aa; clear aa
    refine W.bk<|W.aU [2,5,6] ?_
    refine W.aU [2,5,6,7] ?_
    obtain ⟨n3,aa,h⟩:=ay h
    refine W.bB [(2,.obj (cm.cells a0)),(5,ah dw n3),(6,j (s2.1.length:Int))] ?_ ?_
    ·clear h; have h:=aa; clear aa
     refine W.bk ?_
     obtain ⟨cF,ao,h⟩:=ay h
     refine W.cf (G1:=[(2,_),(5,_),(6,_),(7,_)]) (dA q q q q) ?_
     refine W.eO (s:=(s2.1,0)) (λ(cI:List Item × Int)=>[(2,.obj (cm.cells a0)),(5,ah dw cI.1),(6,j (s2.1.length:Int)),(7,j cI.2)]) 2 (λ(cF:List Item)=>[(2,.obj (cm.cells a0)),(5,ah dw cF),(6,j (s2.1.length:Int))]) ao (λcI o h=>?_) ?_
     ·clear ao
      refine W.aZ<|W.aU [2,5,6,7,21] ?_
      refine W.bw h q (λfh h=>?_) (λfh h=>?_)
      ·refine W.bI<|af.aX ?_
       refine W.aZ<|W.bk ?_
       refine W.aZ ?_
       obtain ⟨dU,lO,h⟩:=ay h
       obtain ⟨ei,kG,h⟩:=ay h
       refine W.rd [[],[],[],[1,2],[1,2,3],aP 0 5 [],aP 0 6 []] [(2,_),(5,_),(6,_),(7,_),(8,_)] ez (by kernel_rfl) (av 0 (O.dW (cs':=[ah bp a0.a',ah a6 a0.bu,ah bG a0.ba,ai a0.bA,ai a0.bF]) q (.obj q) gv q q)<|av 1 (O.aA (.aE q))<|av 2 (O.aA (.lit q))<|av 3 (O.cC (.aE q) (.lit q) kb lO)<|av 4 (O.iV (cs':=[j dU.Prod,j dU.dP]) (.bo q) pP q q)<|iN 5 (cu.go (.b0 (.b' q q) (.b0 (.b' q q) .nil)) (EB a0 dU _ kG) call81 q)<|av 6 (O.dO (.lit q))<|bL.fin q q q (eW q q q q q)) ?_
       refine af.aX<|W.aZ ?_
       refine W.aU [2,5,6,7,8,9] ?_
       refine W.bk ?_
       obtain ⟨cA,ao,h⟩:=ay h
       refine W.cf (G1:=[(2,_),(5,_),(6,_),(7,_),(8,_),(9,_)]) (fp q q q q q q) ?_
       refine W.eO (s:=(cI.1,0)) (λ(ij:List Item × Int)=>[(2,.obj (cm.cells a0)),(5,ah dw ij.1),(6,j (s2.1.length:Int)),(7,j cI.2),(8,j ei),(9,j ij.2)]) 4 (λ(cA:List Item)=>[(2,.obj (cm.cells a0)),(5,ah dw cA),(6,j (s2.1.length:Int)),(7,j cI.2)]) ao (λij o h=>?_) ?_
       ·clear ao
        refine W.aZ ?_
        obtain ⟨qu,aa,h⟩:=ay h
        refine W.rs [(2,.obj (cm.cells a0)),(5,ah dw ij.1),(6,j (s2.1.length:Int)),(7,j cI.2),(8,j ei),(9,j ij.2),(38,a1 qu)] ?_ ?_
        ·refine bq q<|aj (O.bh q (.obj q) lG q)<|aj (O.dm (y:=ah bG a0.ba) q (.ptr q) mY q q)<|aj (O.h0 (.aE q) nm)<|aj (O.lss (.lit q) (.lit q))<|aj (O.aA (.lit q)) ?_
         rcases cz aa with ⟨vh,aa⟩ | ⟨vh,aa⟩
         ·obtain rfl:=au aa
          exact ar.aW
         ·obtain rfl:=au aa
          exact ar.aW
        refine W.bw h q (λlp h=>?_) (λlp h=>?_)
        ·refine W.bI<|af.aX ?_
         refine W.aZ ?_
         obtain ⟨vA,aa,h⟩:=ay h
         refine W.bB [(2,.obj (cm.cells a0)),(5,ah dw vA),(6,j (s2.1.length:Int)),(7,j cI.2),(8,j ei),(9,j ij.2)] ?_ ?_
         ·clear h; have h:=aa; clear aa
          refine W.bk ?_
          obtain ⟨c8,mB,h⟩:=ay h
          refine W.aU [2,5,6,7,8,9,49] ?_
          obtain ⟨qZ,aa,h⟩:=ay h
          refine W.bB [(2,.obj (cm.cells a0)),(5,ah dw qZ),(6,j (s2.1.length:Int)),(7,j cI.2),(8,j ei),(9,j ij.2)] ?_ ?_
          ·clear h; have h:=aa; clear aa
           refine W.bw h q (λeu h=>?_) (λeu h=>?_)
           ·obtain ⟨gr,mC,h⟩:=ay h
            refine W.bm [2,5,6,7,8,9] (aj (O.aA (.aE q))<|bq q<|aj (O.dR (cs:=[j ij.2,j 0]) Hz DN q q q)<|ee (cu.go (.b0 (.aE q) (.b0 (.b' q q) .nil)) (Ev ij.1 (⟨ij.2,0⟩:Item) _ mC) call101 q)<|ar.bm [2,6,7,8,9,53] q<|ar.aW) ?_
            obtain rfl:=au h
            exact af.bB (fp q q q q q q)
           ·refine W.bI ?_
            obtain rfl:=au h
            exact af.bB (fp q q q q q q)
          refine af.bk ?_
          obtain rfl:=au h
          exact af.bB (fp q q q q q q)
         refine af.aX<|W.bm [2,5,6,7,8,9] (bq q<|aj (O.add (.lit q) (.k q))<|ar.bm [2,5,6,7,8,40] q<|ar.aW) ?_
         obtain rfl:=au h
         exact af.go (fp q q q q q q)
        ·refine W.da ?_
         refine af.c' ?_
         obtain rfl:=au h
         exact af.aF (dA q q q q)
       refine af.db ?_
       refine af.aX<|W.aU [2,5,6,7,57] ?_
       refine W.bw h q (λj2 h=>?_) (λj2 h=>?_)
       ·refine W.da ?_
        refine af.Od q ?_
        refine af.c' ?_
        obtain rfl:=au h
        exact af.aF (dq q q q)
       ·refine W.bI<|af.bk ?_
        refine af.aX<|W.bm [2,5,6,7] (bq q<|aj (O.add (.lit q) (.k q))<|ar.bm [2,5,6,23] q<|ar.aW) ?_
        obtain rfl:=au h
        exact af.go (dA q q q q)
      ·refine W.da ?_
       refine af.c' ?_
       obtain rfl:=au h
       exact af.aF (dq q q q)
     refine af.db ?_
     obtain rfl:=au h
     exact af.bB (dq q q q)
    refine af.bk ?_
    obtain rfl:=au h
    exact af.bB (dq q q q)
   obtain rfl:=au h
   exact af.go (dq q q q)
  ·refine W.da ?_
   refine af.c' ?_
   obtain rfl:=au h
   exact af.aF (.n q .nil)
 refine af.db ?_
 refine af.aX<|W.aU [4] ?_
 refine W.rt ?_
 obtain rfl:=au h
 exact cx (.f q q .nil)
theorem Pc (a0:b_) (aw:(List Item)) (a2:Int) (r:(List Item)) (h:Bb a0 aw a2=some r):cb Try.prog 82 [.agg (cm.cells a0),ah dw aw,j a2] [none,none,none] (ah dw r):=by
 unfold Bb at h
 refine cb.go (N:=⟨48,[]⟩) Try.func82 q q q q (W.fin ?_)
 refine W.st [(0,.agg (cm.cells a0)),(1,ah dw aw),(2,j a2)] ?_
 refine W.bY [1,2,3] (aj (O.box (.b' q q) q)<|ar.aW) ?_
 refine W.aU [1,2,3,7] ?_
 obtain ⟨aF,fI,h⟩:=ay h
 refine W.bY [2,3,7,8] (aj (O.dW (cs':=[ah bp a0.a',ah a6 a0.bu,ah bG a0.ba,ai a0.bA,ai a0.bF]) q (.obj q) gv q q)<|aj (O.aA (.aE q))<|ee (cu.go (.b0 (.b' q q) (.b0 (.aE q) .nil)) (EA a0 aw _ fI) call80 q)<|ar.aW) ?_
 refine W.aZ<|W.aU [2,3,7,8,9] ?_
 refine W.bk ?_
 obtain ⟨a_,ao,h⟩:=ay h
 refine W.cf (G1:=[(2,_),(3,_),(7,ah dw ([]:List Item)),(8,_),(9,_)]) (.n q (.n q (.w q q .xP (fG q q)))) ?_
 refine W.eO (s:=(([]:List Item),0)) (λ(s2:List Item × Int)=>[(2,j a2),(3,.obj (cm.cells a0)),(7,ah dw s2.1),(8,ah dw aF),(9,j s2.2)]) 0 (λ(a_:List Item)=>[(7,ah dw a_)]) ao (λs2 o h=>?_) ?_
 ·clear ao
  refine W.aZ<|W.aU [2,3,7,8,9,17] ?_
  refine W.bw h q (λdD h=>?_) (λdD h=>?_)
  ·refine W.bI<|af.aX ?_
   refine W.aZ ?_
   obtain ⟨kH,aa,h⟩:=ay h
   refine W.bB [(2,j a2),(3,.obj (cm.cells a0)),(7,ah dw kH),(8,ah dw aF),(9,j s2.2)] ?_ ?_
   ·clear h; have h:=aa; clear aa
    refine W.bk<|W.aZ ?_
    obtain ⟨bz,gq,h⟩:=ay h
    obtain ⟨b3,ho,h⟩:=ay h
    refine W.rd [[],[],[],[1,2],[1,2,3],aP 0 5 [],aP 0 6 []] [(2,_),(3,_),(7,_),(8,_),(9,_),(10,_)] ez (by kernel_rfl) (av 0 (O.dW (cs':=[ah bp a0.a',ah a6 a0.bu,ah bG a0.ba,ai a0.bA,ai a0.bF]) q (.obj q) gv q q)<|av 1 (O.aA (.aE q))<|av 2 (O.aA (.lit q))<|av 3 (O.cC (.aE q) (.lit q) kb gq)<|av 4 (O.iV (cs':=[j bz.Prod,j bz.dP]) (.bo q) pP q q)<|iN 5 (cu.go (.b0 (.b' q q) (.b0 (.b' q q) .nil)) (EB a0 bz _ ho) call81 q)<|av 6 (O.dO (.lit q))<|bL.fin q q q (fp q q q q q q)) ?_
    refine af.aX ?_
    obtain ⟨iS,aa,h⟩:=ay h
    refine W.rs [(2,j a2),(3,.obj (cm.cells a0)),(7,ah dw s2.1),(8,ah dw aF),(9,j s2.2),(32,a1 iS)] ?_ ?_
    ·refine bq q<|aj (O.geq (.lit q) (.k q))<|aj (O.aA (.lit q)) ?_
     rcases cz aa with ⟨dp,aa⟩ | ⟨dp,aa⟩
     ·obtain rfl:=au aa
      exact ar.aW
     ·obtain rfl:=au aa
      exact ar.aW
    obtain ⟨hf,aa,h⟩:=ay h
    refine W.bB [(2,j a2),(3,.obj (cm.cells a0)),(7,ah dw hf),(8,ah dw aF),(9,j s2.2)] ?_ ?_
    ·clear h; have h:=aa; clear aa
     refine W.bw h q (λeb h=>?_) (λeb h=>?_)
     ·refine W.cf (G1:=[(2,_),(3,_),(7,_),(8,_),(9,_)]) (eW q q q q q) ?_
      obtain ⟨ei,kG,h⟩:=ay h
      obtain ⟨eo,km,h⟩:=ay h
      obtain ⟨cA,ic,h⟩:=ay h
      refine W.rd [[],[],[],[1,2],[1,2,3],[1,2,3,4],[],[],[6,7],[6,7,8],[6,7,8,9],aP 6 5 [],aP 1 11 [],aP 0 13 [],aP 0 14 []] [(2,_),(3,_),(7,_),(8,_),(9,_)] ez (by kernel_rfl) (av 0 (O.aA (.aE q))<|av 1 (O.aA (.aE q))<|av 2 (O.aA (.lit q))<|av 3 (O.cC (.aE q) (.lit q) kb kG)<|av 4 (O.ej (.bo q) nt)<|av 5 (O.c9 (x:=j ei.Prod) (.bo q) cr q)<|av 6 (O.aA (.aE q))<|av 7 (O.aA (.lit q))<|av 8 (O.cC (.aE q) (.lit q) kb km)<|av 9 (O.ej (.bo q) rC)<|av 10 (O.c9 (x:=j eo.dP) (.bo q) cr q)<|av 11 (O.add (.lit q) (.k q))<|av 12 (O.dR (cs:=[j ei.Prod,j (aQ (eo.dP+1))]) Hz DN q q q)<|iN 13 (cu.go (.b0 (.aE q) (.b0 (.b' q q) .nil)) (Ev s2.1 (⟨ei.Prod,aQ (eo.dP+1)⟩:Item) _ ic) call101 q)<|bL.bv 14 (G2:=[(2,j a2),(3,.obj (cm.cells a0)),(8,ah dw aF),(9,j s2.2)]) (cj.B1 (y':=ah dw cA) q q (.aE q) (.f .nil) .refl (dA q q q q) q q) q q q q (by kernel_rfl) (by kernel_rfl)<|bL.fin q q q (eW q q q q q)) ?_
      obtain rfl:=au h
      exact af.bB (eW q q q q q)
     ·refine W.bI ?_
      obtain rfl:=au h
      exact af.bB (eW q q q q q)
    refine af.bk ?_
    obtain rfl:=au h
    exact af.bB (eW q q q q q)
   refine af.aX<|W.bm [2,3,7,8,9] (bq q<|aj (O.add (.lit q) (.k q))<|ar.bm [2,3,7,8,19] q<|ar.aW) ?_
   obtain rfl:=au h
   exact af.go (eW q q q q q)
  ·refine W.da ?_
   refine af.c' ?_
   obtain rfl:=au h
   exact af.aF (.n q .nil)
 refine af.db ?_
 refine af.aX<|W.aU [6] ?_
 refine W.rt ?_
 obtain rfl:=au h
 exact cx (.f q q .nil)
theorem OK (a0:(List Item)) (aw:(List Item)) (r:Bool) (h:AL a0 aw=some r):cb Try.prog 103 [ah dw a0,ah dw aw] [none,none] (a1 r):=by
 unfold AL at h
 refine cb.go (N:=⟨26,[]⟩) Try.func103 q q q q (W.fin ?_)
 refine W.st [(0,ah dw a0),(1,ah dw aw)] ?_
 refine W.aU [0,1] ?_
 refine W.aZ<|W.aU [0,1,10] ?_
 refine W.bw h q (λdg h=>?_) (λdg h=>?_)
 ·refine W.aU [4] ?_
  refine W.rt ?_
  refine af.cK ?_
  obtain rfl:=au h
  exact cx (.f q q .nil)
 ·refine W.bI<|af.aX ?_
  refine W.aZ<|W.aU [0,1,5] ?_
  refine W.bk ?_
  obtain ⟨a_,ao,h⟩:=ay h
  refine W.cf (G1:=[(0,_),(1,_),(5,_)]) (dq q q q) ?_
  refine W.iH (s:=0) (λ(s2:Int)=>[(0,ah dw a0),(1,ah dw aw),(5,j s2)]) 0 (λ(bE:Unit)=>[]) (λ(cq:Bool)=>[(4,a1 cq)]) ao (λs2 o h=>?_) (λbE J=>?_) (λcq J=>?_)
  ·clear ao
   refine W.aZ<|W.aU [0,1,5,14] ?_
   refine W.bw h q (λec h=>?_) (λec h=>?_)
   ·refine W.bI<|af.aX ?_
    refine W.aZ<|W.bk ?_
    refine W.aZ ?_
    obtain ⟨bz,gq,h⟩:=ay h
    obtain ⟨b3,ho,h⟩:=ay h
    refine W.rd [[],[],[0,1],[0,1,2],[],[],[4,5],[4,5,6],aP 0 8 []] [(0,_),(1,_),(5,_),(25,_)] ez (by kernel_rfl) (av 0 (O.aA (.aE q))<|av 1 (O.aA (.lit q))<|av 2 (O.cC (.aE q) (.lit q) kb gq)<|av 3 (O.iV (cs':=[j bz.Prod,j bz.dP]) (.bo q) pP q q)<|av 4 (O.aA (.aE q))<|av 5 (O.aA (.lit q))<|av 6 (O.cC (.aE q) (.lit q) kb ho)<|av 7 (O.iV (cs':=[j b3.Prod,j b3.dP]) (.bo q) pP q q)<|av 8 (O.Dc (va:=[.int .i64 bz.Prod,.int .i64 bz.dP]) (vb:=[.int .i64 b3.Prod,.int .i64 b3.dP]) (.b' q q) (.b' q q) q q JM)<|bL.fin q q q (dA q q q q)) ?_
    refine af.aX<|W.bw h q (λdp h=>?_) (λdp h=>?_)
    ·refine W.aU [4] ?_
     refine W.rt ?_
     refine af.dv ?_
     refine af.cK ?_
     obtain rfl:=au h
     exact af.fP (.n q .nil)
    ·refine W.bI<|af.bk ?_
     refine af.aX<|W.bm [0,1,5] (bq q<|aj (O.add (.lit q) (.k q))<|ar.bm [0,1,16] q<|ar.aW) ?_
     obtain rfl:=au h
     exact af.go (dq q q q)
   ·refine W.da ?_
    refine af.c' ?_
    obtain rfl:=au h
    exact af.x2 .nil
  ·subst J
   refine af.db ?_
   refine af.aX<|W.aU [4] ?_
   refine W.rt ?_
   obtain rfl:=au h
   exact cx (.f q q .nil)
  ·subst J
   refine af.dv ?_
   refine af.cK ?_
   obtain rfl:=au h
   exact cx (.f q q .nil)
theorem Pd (a0:(List State)) (aw:(List Item)) (r:Int) (h:Bc a0 aw=some r):cb Try.prog 83 [ah cP a0,ah dw aw] [none,none] (j r):=by
 unfold Bc at h
 refine cb.go (N:=⟨20,[]⟩) Try.func83 q q q q (W.fin ?_)
 refine W.st [(0,ah cP a0),(1,ah dw aw)] ?_
 refine W.aU [0,1] ?_
 refine W.aZ<|W.aU [0,1,5] ?_
 refine W.bk ?_
 obtain ⟨x2,ao,h⟩:=ay h
 refine W.cf (G1:=[(0,_),(1,_),(5,_)]) (dq q q q) ?_
 refine W.iH (s:=0) (λ(s1:Int)=>[(0,ah cP a0),(1,ah dw aw),(5,j s1)]) 0 (λ(a_:Unit)=>[]) (λ(bE:Int)=>[(4,j bE)]) ao (λs1 o h=>?_) (λa_ J=>?_) (λbE J=>?_)
 ·clear ao
  refine W.aZ<|W.aU [0,1,5,9] ?_
  refine W.bw h q (λdD h=>?_) (λdD h=>?_)
  ·refine W.bI<|af.aX ?_
   refine W.aZ<|W.bk ?_
   obtain ⟨bx,fJ,h⟩:=ay h
   obtain ⟨bz,gq,h⟩:=ay h
   refine W.bY [0,1,5,18] (aj (O.aA (.aE q))<|bq q<|aj (O.cC (.aE q) (.lit q) mP fJ)<|aj (O.ej (.bo q) u4)<|aj (O.c9 (x:=ah dw bx.Kernel) (.bo q) u0 q)<|aj (O.aA (.aE q))<|ee (cu.go (.b0 (.aE q) (.b0 (.aE q) .nil)) (OK bx.Kernel aw _ gq) call103 q)<|bS q) ?_
   refine W.bw h q (λc6 h=>?_) (λc6 h=>?_)
   ·refine W.aU [4] ?_
    refine W.rt ?_
    refine af.dv ?_
    refine af.cK ?_
    obtain rfl:=au h
    exact af.fP (.n q .nil)
   ·refine W.bI<|af.bk ?_
    refine af.aX<|W.bm [0,1,5] (bq q<|aj (O.add (.lit q) (.k q))<|ar.bm [0,1,11] q<|ar.aW) ?_
    obtain rfl:=au h
    exact af.go (dq q q q)
  ·refine W.da ?_
   refine af.c' ?_
   obtain rfl:=au h
   exact af.x2 .nil
 ·subst J
  refine af.db ?_
  refine af.aX<|W.aU [4] ?_
  refine W.rt ?_
  obtain rfl:=au h
  exact cx (.f q q .nil)
 ·subst J
  refine af.dv ?_
  refine af.cK ?_
  obtain rfl:=au h
  exact cx (.f q q .nil)
end Go.Proofs
