/-
  What is proved here: parts of the proof that the last text states: rules for walks through code, and of this program's functions what they answer. No condition of their own.
-/
import Derived.Test.YtbcajhiedeghlaaRows
import Derived.Test.YtbcajhiedeghlaaE4
namespace Go.Proofs
open Go Go.Own
set_option maxRecDepth 100000
set_option maxHeartbeats 2000000
set_option linter.unusedVariables false
theorem D9:dm Try.prog 23 0 0 3=true:=by kernel_rfl
theorem cH:hh Try.prog 3=true:=by kernel_rfl
theorem I_:dm Try.prog 23 1 1 3=true:=by kernel_rfl
theorem mD:(Try.prog.info? 23).bind (·.zero)=some (.agg #[.int .i64 0,.int .i64 0]):=by kernel_rfl
theorem q9:kM Try.prog 23 [(0,1),(1,1)]=true:=by kernel_rfl
theorem mU:gn Try.prog 23 2=true:=by kernel_rfl
theorem lU:iM Try.prog 23 2=true:=by kernel_rfl
theorem j7:pJ Try.prog 9=true:=by kernel_rfl
theorem call121:dD Try.prog 121=true:=by kernel_rfl
theorem call122:dD Try.prog 122=true:=by kernel_rfl
theorem call117:dD Try.prog 117=true:=by kernel_rfl
theorem wF:dm Try.prog 88 1 1 4=true:=by kernel_rfl
theorem pT:hh Try.prog 4=true:=by kernel_rfl
theorem kz:dm Try.prog 88 0 0 9=true:=by kernel_rfl
theorem eP:hh Try.prog 9=true:=by kernel_rfl
theorem uv:dm Try.prog 88 2 2 3=true:=by kernel_rfl
theorem call120:dD Try.prog 120=true:=by kernel_rfl
theorem call111:dD Try.prog 111=true:=by kernel_rfl
theorem ow:dm Try.prog 100 0 0 3=true:=by kernel_rfl
theorem sL:dm Try.prog 100 2 2 98=true:=by kernel_rfl
theorem sJ:hh Try.prog 98=true:=by kernel_rfl
theorem sl:e' Try.prog 98 88 4=true:=by kernel_rfl
theorem nb:dm Try.prog 100 1 1 9=true:=by kernel_rfl
theorem mH:iM Try.prog 88 4=true:=by kernel_rfl
theorem call116:dD Try.prog 116=true:=by kernel_rfl
theorem eY:Try.prog.follows .mixedOrders=true:=by kernel_rfl
theorem call124:dD Try.prog 124=true:=by kernel_rfl
theorem call123:dD Try.prog 123=true:=by kernel_rfl
theorem Eb:dm Try.prog 93 0 0 91=true:=by kernel_rfl
theorem DZ:hh Try.prog 91=true:=by kernel_rfl
theorem As:e' Try.prog 91 90 6=true:=by kernel_rfl
theorem A7:iM Try.prog 90 6=true:=by kernel_rfl
theorem xN:(Try.prog.info? 90).bind (·.zero)=some (.agg #[.string { data:=#[] },.bool false,.int .i64 0,.int .i64 0,.string { data:=#[] },.int .i64 0]):=by kernel_rfl
theorem G7:gn Try.prog 90 6=true:=by kernel_rfl
theorem qQ:dm Try.prog 90 1 4 9=true:=by kernel_rfl
theorem yz:dm Try.prog 90 0 0 88=true:=by kernel_rfl
theorem call118:dD Try.prog 118=true:=by kernel_rfl
theorem call119:dD Try.prog 119=true:=by kernel_rfl
theorem sN:dm Try.prog 93 1 1 88=true:=by kernel_rfl
theorem D_:dm Try.prog 33 0 0 9=true:=by kernel_rfl
theorem sM:dm Try.prog 33 1 1 30=true:=by kernel_rfl
theorem wq:hh Try.prog 30=true:=by kernel_rfl
theorem xB:e' Try.prog 30 100 4=true:=by kernel_rfl
theorem Dv:iM Try.prog 100 4=true:=by kernel_rfl
theorem call110:dD Try.prog 110=true:=by kernel_rfl
theorem ur:dm Try.prog 33 2 2 31=true:=by kernel_rfl
theorem wu:hh Try.prog 31=true:=by kernel_rfl
theorem vv:e' Try.prog 31 96 3=true:=by kernel_rfl
theorem Dw:iM Try.prog 96 3=true:=by kernel_rfl
theorem Dc:(Try.prog.info? 96).bind (·.zero)=some (.agg #[.string { data:=#[] },.slice none 0 0,.int .i64 0]):=by kernel_rfl
theorem G8:gn Try.prog 96 3=true:=by kernel_rfl
theorem sO:dm Try.prog 96 0 0 9=true:=by kernel_rfl
theorem yA:dm Try.prog 96 1 1 94=true:=by kernel_rfl
theorem Br:hh Try.prog 94=true:=by kernel_rfl
theorem Au:e' Try.prog 94 93 6=true:=by kernel_rfl
theorem H4:iM Try.prog 93 6=true:=by kernel_rfl
theorem call112:dD Try.prog 112=true:=by kernel_rfl
theorem yt:dm Try.prog 169 4 8 3=true:=by kernel_rfl
theorem mV:gn Try.prog 3 1=true:=by kernel_rfl
theorem yu:dm Try.prog 169 5 9 3=true:=by kernel_rfl
theorem yv:dm Try.prog 169 6 10 9=true:=by kernel_rfl
theorem vz:gn Try.prog 9 1=true:=by kernel_rfl
theorem yr:dm Try.prog 169 2 6 41=true:=by kernel_rfl
theorem rG:hh Try.prog 41=true:=by kernel_rfl
theorem q_:e' Try.prog 41 176 2=true:=by kernel_rfl
theorem I9:dm Try.prog 176 0 0 9=true:=by kernel_rfl
theorem j2:dm Try.prog 169 0 0 44=true:=by kernel_rfl
theorem pd:dm Try.prog 44 0 0 40=true:=by kernel_rfl
theorem qL:hh Try.prog 40=true:=by kernel_rfl
theorem qo:e' Try.prog 40 78 6=true:=by kernel_rfl
theorem Jc:dm Try.prog 78 0 0 9=true:=by kernel_rfl
theorem Jd:dm Try.prog 78 1 1 4=true:=by kernel_rfl
theorem NK:Ba Try.prog 4=true:=by kernel_rfl
theorem yy:dm Try.prog 78 2 2 3=true:=by kernel_rfl
theorem call95:dD Try.prog 95=true:=by kernel_rfl
theorem AI:(Try.prog.info? 78).bind (·.zero)=some (.agg #[.string { data:=#[] },.bool false,.int .i64 0,.int .i64 0,.int .i64 0,.string { data:=#[] }]):=by kernel_rfl
theorem CW:kM Try.prog 78 [(0,1),(1,1),(2,1),(3,1),(4,1),(5,1)]=true:=by kernel_rfl
theorem Ut:gn Try.prog 78 6=true:=by kernel_rfl
theorem FX:qZ Try.prog 5 .u8=true:=by kernel_rfl
theorem w1:qZ Try.prog 3 .i64=true:=by kernel_rfl
theorem call114:dD Try.prog 114=true:=by kernel_rfl
theorem qP:dm Try.prog 88 3 3 3=true:=by kernel_rfl
theorem call94:dD Try.prog 94=true:=by kernel_rfl
theorem Nv:iM Try.prog 78 6=true:=by kernel_rfl
theorem MI:jC Try.prog 78 6=true:=by kernel_rfl
theorem Na:jG Try.prog 40 78 6 64=true:=by kernel_rfl
theorem L9:gn Try.prog 40 1=true:=by kernel_rfl
theorem wB:dm Try.prog 169 1 5 103=true:=by kernel_rfl
theorem ye:hh Try.prog 103=true:=by kernel_rfl
theorem U3:jC Try.prog 4 1=true:=by kernel_rfl
theorem sj:e' Try.prog 103 4 1=true:=by kernel_rfl
theorem M7:jG Try.prog 103 4 1 1=true:=by kernel_rfl
theorem Uk:gn Try.prog 103 1=true:=by kernel_rfl
theorem call98:dD Try.prog 98=true:=by kernel_rfl
theorem AH:(Try.prog.info? 176).bind (·.zero)=some (.agg #[.string { data:=#[] },.string { data:=#[] }]):=by kernel_rfl
theorem CV:kM Try.prog 176 [(0,1),(1,1)]=true:=by kernel_rfl
theorem Dd:jC Try.prog 176 2=true:=by kernel_rfl
theorem Du:jG Try.prog 41 176 2 32=true:=by kernel_rfl
theorem C3:gn Try.prog 41 1=true:=by kernel_rfl
theorem BA:dm Try.prog 176 1 1 9=true:=by kernel_rfl
theorem call113:dD Try.prog 113=true:=by kernel_rfl
theorem BD:dm Try.prog 78 3 3 3=true:=by kernel_rfl
theorem Bz:dm Try.prog 169 7 11 3=true:=by kernel_rfl
theorem Ea:dm Try.prog 78 4 4 3=true:=by kernel_rfl
theorem xF:gn Try.prog 4 1=true:=by kernel_rfl
theorem BE:dm Try.prog 78 5 5 9=true:=by kernel_rfl
theorem wC:dm Try.prog 169 3 7 167=true:=by kernel_rfl
theorem yf:hh Try.prog 167=true:=by kernel_rfl
theorem Ar:e' Try.prog 167 9 1=true:=by kernel_rfl
theorem call96:dD Try.prog 96=true:=by kernel_rfl
theorem Jg:dm Try.prog 93 2 5 3=true:=by kernel_rfl
theorem AG:(Try.prog.info? 148).bind (·.zero)=some (.agg #[.int .i64 0,.slice none 0 0,.int .i64 0,.string { data:=#[] },.slice none 0 0,.int .i64 0]):=by kernel_rfl
theorem GQ:kM Try.prog 148 [(0,1),(1,1),(2,1),(3,1),(4,1),(5,1)]=true:=by kernel_rfl
theorem L6:gn Try.prog 148 6=true:=by kernel_rfl
theorem mv:dm Try.prog 148 1 1 29=true:=by kernel_rfl
theorem ig:hh Try.prog 29=true:=by kernel_rfl
theorem call115:dD Try.prog 115=true:=by kernel_rfl
theorem mj:jC Try.prog 3 1=true:=by kernel_rfl
theorem eS:e' Try.prog 29 3 1=true:=by kernel_rfl
theorem pa:jG Try.prog 29 3 1 8=true:=by kernel_rfl
theorem vy:gn Try.prog 29 1=true:=by kernel_rfl
theorem BF:dm Try.prog 90 2 5 3=true:=by kernel_rfl
theorem I6:dm Try.prog 148 3 3 9=true:=by kernel_rfl
theorem I8:dm Try.prog 148 5 5 3=true:=by kernel_rfl
theorem yw:dm Try.prog 169 8 12 3=true:=by kernel_rfl
theorem lW:dm Try.prog 44 2 2 42=true:=by kernel_rfl
theorem na:hh Try.prog 42=true:=by kernel_rfl
theorem Hr:jC Try.prog 148 6=true:=by kernel_rfl
theorem mT:e' Try.prog 42 148 6=true:=by kernel_rfl
theorem HS:jG Try.prog 42 148 6 88=true:=by kernel_rfl
theorem G3:gn Try.prog 42 1=true:=by kernel_rfl
theorem yp:dm Try.prog 148 2 2 3=true:=by kernel_rfl
theorem I7:dm Try.prog 148 4 4 29=true:=by kernel_rfl
theorem H2:iM Try.prog 148 6=true:=by kernel_rfl
theorem KP:qZ Try.prog 187 .u64=true:=by kernel_rfl
theorem MH:jC Try.prog 5 1=true:=by kernel_rfl
theorem GU:e' Try.prog 123 5 1=true:=by kernel_rfl
theorem Ia:tY Try.prog 123 9=true:=by kernel_rfl
theorem o2:(Try.prog.info? 44).bind (·.zero)=some (.agg #[.slice none 0 0,.slice none 0 0,.slice none 0 0,.string { data:=#[] },.string { data:=#[] }]):=by kernel_rfl
theorem sF:iM Try.prog 33 4=true:=by kernel_rfl
theorem call92:dD Try.prog 92=true:=by kernel_rfl
theorem GR:kM Try.prog 44 [(0,1),(1,1),(2,1),(3,1),(4,1)]=true:=by kernel_rfl
theorem nx:gn Try.prog 44 5=true:=by kernel_rfl
theorem fY:iM Try.prog 44 5=true:=by kernel_rfl
theorem MC:(Try.prog.info? 4).bind (·.zero)=some (.bool false):=by kernel_rfl
theorem H9:(Try.prog.info? 4).map (·.bytes)=some 1:=by kernel_rfl
theorem UW:(Try.prog.info? 169).bind (·.zero)=some (.agg #[.slice none 0 0,.slice none 0 0,.slice none 0 0,.string { data:=#[] },.string { data:=#[] },.slice none 0 0,.slice none 0 0,.slice none 0 0,.int .i64 0,.int .i64 0,.string { data:=#[] },.int .i64 0,.int .i64 0]):=by kernel_rfl
theorem T0:kM Try.prog 169 [(0,5),(5,1),(6,1),(7,1),(8,1),(9,1),(10,1),(11,1),(12,1)]=true:=by kernel_rfl
theorem MA:(Try.prog.info? 100).bind (·.zero)=some (.agg #[.int .i64 0,.string { data:=#[] },.slice none 0 0,.int .i64 0]):=by kernel_rfl
theorem Uj:gn Try.prog 100 4=true:=by kernel_rfl
theorem call93:dD Try.prog 93=true:=by kernel_rfl
theorem xM:(Try.prog.info? 88).bind (·.zero)=some (.agg #[.string { data:=#[] },.bool false,.int .i64 0,.int .i64 0]):=by kernel_rfl
theorem CX:kM Try.prog 88 [(0,1),(1,1),(2,1),(3,1)]=true:=by kernel_rfl
theorem Jh:dm Try.prog 96 2 2 3=true:=by kernel_rfl
theorem U7:jC Try.prog 9 1=true:=by kernel_rfl
theorem M_:jG Try.prog 167 9 1 16=true:=by kernel_rfl
theorem Uo:gn Try.prog 167 1=true:=by kernel_rfl
theorem L_:gn Try.prog 88 4=true:=by kernel_rfl
theorem call97:dD Try.prog 97=true:=by kernel_rfl
theorem rL:dm Try.prog 44 1 1 41=true:=by kernel_rfl
theorem Up:gn Try.prog 176 2=true:=by kernel_rfl
theorem Nu:iM Try.prog 176 2=true:=by kernel_rfl
theorem call99:dD Try.prog 99=true:=by kernel_rfl
theorem D':dm Try.prog 33 3 3 9=true:=by kernel_rfl
theorem Ja:dm Try.prog 44 3 3 9=true:=by kernel_rfl
theorem Jb:dm Try.prog 44 4 4 9=true:=by kernel_rfl
theorem call78:dD Try.prog 78=true:=by kernel_rfl
theorem mI:dm Try.prog 137 0 0 3=true:=by kernel_rfl
theorem qO:dm Try.prog 137 1 1 3=true:=by kernel_rfl
theorem pb:iM Try.prog 137 2=true:=by kernel_rfl
theorem call102:dD Try.prog 102=true:=by kernel_rfl
theorem jW:e' Try.prog 132 137 2=true:=by kernel_rfl
theorem IZ:sK Try.prog 137 [.i .i64,.i .i64]=true:=by kernel_rfl
theorem Hq:jC Try.prog 137 2=true:=by kernel_rfl
theorem Ds:jG Try.prog 132 137 2 16=true:=by kernel_rfl
theorem call101:dD Try.prog 101=true:=by kernel_rfl
theorem call100:dD Try.prog 100=true:=by kernel_rfl
theorem call81:dD Try.prog 81=true:=by kernel_rfl
theorem yo:dm Try.prog 148 0 0 3=true:=by kernel_rfl
theorem C':(Try.prog.info? 137).bind (·.zero)=some (.agg #[.int .i64 0,.int .i64 0]):=by kernel_rfl
theorem GP:kM Try.prog 137 [(0,1),(1,1)]=true:=by kernel_rfl
theorem call80:dD Try.prog 80=true:=by kernel_rfl
theorem kL:e' Try.prog 64 135 2=true:=by kernel_rfl
theorem uq:dm Try.prog 135 0 0 132=true:=by kernel_rfl
theorem uf:hh Try.prog 132=true:=by kernel_rfl
theorem call103:dD Try.prog 103=true:=by kernel_rfl
theorem Hm:(Try.prog.info? 135).bind (·.zero)=some (.agg #[.slice none 0 0,.slice none 0 0]):=by kernel_rfl
theorem LK:kM Try.prog 135 [(0,1),(1,1)]=true:=by kernel_rfl
theorem MF:jC Try.prog 135 2=true:=by kernel_rfl
theorem call79:dD Try.prog 79=true:=by kernel_rfl
theorem call67:dD Try.prog 67=true:=by kernel_rfl
theorem call70:dD Try.prog 70=true:=by kernel_rfl
theorem call82:dD Try.prog 82=true:=by kernel_rfl
theorem call83:dD Try.prog 83=true:=by kernel_rfl
theorem Nc:jG Try.prog 64 135 2 48=true:=by kernel_rfl
theorem rK:dm Try.prog 135 1 1 133=true:=by kernel_rfl
theorem ug:hh Try.prog 133=true:=by kernel_rfl
theorem Da:(Try.prog.info? 145).bind (·.zero)=some (.agg #[.int .i64 0,.int .i64 0]):=by kernel_rfl
theorem LM:kM Try.prog 145 [(0,1),(1,1)]=true:=by kernel_rfl
theorem MG:jC Try.prog 145 2=true:=by kernel_rfl
theorem sk:e' Try.prog 133 145 2=true:=by kernel_rfl
theorem HQ:jG Try.prog 133 145 2 16=true:=by kernel_rfl
theorem L4:gn Try.prog 133 1=true:=by kernel_rfl
theorem call68:dD Try.prog 68=true:=by kernel_rfl
theorem call69:dD Try.prog 69=true:=by kernel_rfl
theorem By:dm Try.prog 145 0 0 3=true:=by kernel_rfl
theorem I5:dm Try.prog 145 1 1 3=true:=by kernel_rfl
theorem wE:dm Try.prog 76 4 4 29=true:=by kernel_rfl
theorem BC:dm Try.prog 76 2 2 3=true:=by kernel_rfl
theorem wD:dm Try.prog 76 3 3 4=true:=by kernel_rfl
theorem call59:dD Try.prog 59=true:=by kernel_rfl
theorem Db:(Try.prog.info? 76).bind (·.zero)=some (.agg #[.int .i64 0,.int .i64 0,.int .i64 0,.bool false,.slice none 0 0]):=by kernel_rfl
theorem T1:kM Try.prog 76 [(0,1),(1,1),(2,1),(3,1),(4,1)]=true:=by kernel_rfl
theorem G6:gn Try.prog 76 5=true:=by kernel_rfl
theorem Um:gn Try.prog 137 2=true:=by kernel_rfl
theorem Aq:e' Try.prog 112 139 3=true:=by kernel_rfl
theorem I3:dm Try.prog 139 0 0 3=true:=by kernel_rfl
theorem Bx:dm Try.prog 139 2 2 29=true:=by kernel_rfl
theorem I4:dm Try.prog 139 1 1 3=true:=by kernel_rfl
theorem wb:iM Try.prog 76 5=true:=by kernel_rfl
theorem call66:dD Try.prog 66=true:=by kernel_rfl
theorem U5:jC Try.prog 76 5=true:=by kernel_rfl
theorem xC:e' Try.prog 65 76 5=true:=by kernel_rfl
theorem Nd:jG Try.prog 65 76 5 56=true:=by kernel_rfl
theorem mi:e' Try.prog 34 29 1=true:=by kernel_rfl
theorem UU:(Try.prog.info? 161).bind (·.zero)=some (.agg #[.int .i64 0,.int .i64 0]):=by kernel_rfl
theorem TZ:kM Try.prog 161 [(0,1),(1,1)]=true:=by kernel_rfl
theorem U1:jC Try.prog 161 2=true:=by kernel_rfl
theorem pH:e' Try.prog 158 161 2=true:=by kernel_rfl
theorem M9:jG Try.prog 158 161 2 16=true:=by kernel_rfl
theorem call88:dD Try.prog 88=true:=by kernel_rfl
theorem wA:dm Try.prog 161 0 0 3=true:=by kernel_rfl
theorem yq:dm Try.prog 161 1 1 3=true:=by kernel_rfl
theorem call104:dD Try.prog 104=true:=by kernel_rfl
theorem Hs:jC Try.prog 29 1=true:=by kernel_rfl
theorem Dt:jG Try.prog 34 29 1 24=true:=by kernel_rfl
theorem call107:dD Try.prog 107=true:=by kernel_rfl
theorem call105:dD Try.prog 105=true:=by kernel_rfl
theorem call106:dD Try.prog 106=true:=by kernel_rfl
theorem UX:(Try.prog.info? 29).bind (·.zero)=some (.slice none 0 0):=by kernel_rfl
theorem ND:(Try.prog.info? 29).map (·.bytes)=some 24:=by kernel_rfl
theorem call89:dD Try.prog 89=true:=by kernel_rfl
theorem call85:dD Try.prog 85=true:=by kernel_rfl
theorem call86:dD Try.prog 86=true:=by kernel_rfl
theorem call84:dD Try.prog 84=true:=by kernel_rfl
theorem call87:dD Try.prog 87=true:=by kernel_rfl
theorem call71:dD Try.prog 71=true:=by kernel_rfl
theorem call72:dD Try.prog 72=true:=by kernel_rfl
theorem MB:(Try.prog.info? 139).bind (·.zero)=some (.agg #[.int .i64 0,.int .i64 0,.slice none 0 0]):=by kernel_rfl
theorem TY:kM Try.prog 139 [(0,1),(1,1),(2,1)]=true:=by kernel_rfl
theorem Un:gn Try.prog 139 3=true:=by kernel_rfl
theorem call73:dD Try.prog 73=true:=by kernel_rfl
theorem Nt:iM Try.prog 139 3=true:=by kernel_rfl
theorem U0:jC Try.prog 139 3=true:=by kernel_rfl
theorem M8:jG Try.prog 112 139 3 40=true:=by kernel_rfl
theorem call52:dD Try.prog 52=true:=by kernel_rfl
theorem call54:dD Try.prog 54=true:=by kernel_rfl
theorem call53:dD Try.prog 53=true:=by kernel_rfl
theorem BB:dm Try.prog 76 0 0 3=true:=by kernel_rfl
theorem yx:dm Try.prog 76 1 1 3=true:=by kernel_rfl
theorem Ho:(Try.prog.info? 82).bind (·.zero)=some (.agg #[.int .i64 0,.int .i64 0,.int .i64 0,.int .i64 0]):=by kernel_rfl
theorem LN:kM Try.prog 82 [(0,1),(1,1),(2,1),(3,1)]=true:=by kernel_rfl
theorem MJ:jC Try.prog 82 4=true:=by kernel_rfl
theorem rb:e' Try.prog 68 82 4=true:=by kernel_rfl
theorem HT:jG Try.prog 68 82 4 32=true:=by kernel_rfl
theorem vE:(Try.prog.info? 47).bind (·.zero)=some (.agg #[.slice none 0 0,.slice none 0 0]):=by kernel_rfl
theorem ra:e' Try.prog 54 23 2=true:=by kernel_rfl
theorem NC:(Try.prog.info? 23).map (·.bytes)=some 16:=by kernel_rfl
theorem UY:(Try.prog.info? 3).bind (·.zero)=some (.int .i64 0):=by kernel_rfl
theorem NF:(Try.prog.info? 3).map (·.bytes)=some 8:=by kernel_rfl
theorem pe:dm Try.prog 47 0 0 45=true:=by kernel_rfl
theorem pU:hh Try.prog 45=true:=by kernel_rfl
theorem U4:jC Try.prog 54 1=true:=by kernel_rfl
theorem q':e' Try.prog 45 54 1=true:=by kernel_rfl
theorem Nb:jG Try.prog 45 54 1 24=true:=by kernel_rfl
theorem uu:dm Try.prog 47 1 1 34=true:=by kernel_rfl
theorem wv:hh Try.prog 34=true:=by kernel_rfl
theorem Us:gn Try.prog 45 1=true:=by kernel_rfl
theorem Ur:gn Try.prog 34 1=true:=by kernel_rfl
theorem A6:iM Try.prog 47 2=true:=by kernel_rfl
theorem xG:gn Try.prog 47 2=true:=by kernel_rfl
theorem call30:dD Try.prog 30=true:=by kernel_rfl
theorem T8:e' Try.prog 57 62 2=true:=by kernel_rfl
theorem T7:e' Try.prog 51 59 2=true:=by kernel_rfl
theorem PR:dm Try.prog 59 0 0 3=true:=by kernel_rfl
theorem PS:dm Try.prog 59 1 1 57=true:=by kernel_rfl
theorem O3:hh Try.prog 57=true:=by kernel_rfl
theorem UG:Try.prog.underlying 3=some (.int .i64):=by kernel_rfl
noncomputable abbrev Wa:AS Try.prog 3 Int:=MS UG
theorem U9:(Try.prog.info? 3).bind (·.zero)=some (.int .i64 0):=by kernel_rfl
noncomputable abbrev Wb:AT Try.prog 3 Int:=MT U9
theorem uh:hh Try.prog 54=true:=by kernel_rfl
theorem GS:kM Try.prog 90 [(0,4),(4,1),(5,1)]=true:=by kernel_rfl
theorem MK:jC Try.prog 90 6=true:=by kernel_rfl
theorem MD:(Try.prog.info? 93).bind (·.zero)=some (.agg #[.slice none 0 0,.string { data:=#[] },.bool false,.int .i64 0,.int .i64 0,.int .i64 0]):=by kernel_rfl
theorem LO:kM Try.prog 93 [(0,1),(1,4),(5,1)]=true:=by kernel_rfl
theorem ML:jC Try.prog 93 6=true:=by kernel_rfl
theorem T2:kM Try.prog 96 [(0,1),(1,1),(2,1)]=true:=by kernel_rfl
theorem U8:jC Try.prog 96 3=true:=by kernel_rfl
theorem Hn:(Try.prog.info? 33).bind (·.zero)=some (.agg #[.string { data:=#[] },.slice none 0 0,.slice none 0 0,.string { data:=#[] }]):=by kernel_rfl
theorem PC:sK Try.prog 23 [.i .i64,.i .i64]=true:=by kernel_rfl
theorem call14:dD Try.prog 14=true:=by kernel_rfl
theorem L8:gn Try.prog 33 4=true:=by kernel_rfl
theorem PK:dm Try.prog 100 3 3 3=true:=by kernel_rfl
theorem TX:kM Try.prog 100 [(0,1),(1,1),(2,1),(3,1)]=true:=by kernel_rfl
theorem U6:jC Try.prog 88 4=true:=by kernel_rfl
theorem UZ:jC Try.prog 100 4=true:=by kernel_rfl
theorem M':jG Try.prog 30 100 4 56=true:=by kernel_rfl
theorem L7:gn Try.prog 30 1=true:=by kernel_rfl
theorem Nf:jG Try.prog 94 93 6 72=true:=by kernel_rfl
theorem Uv:gn Try.prog 94 1=true:=by kernel_rfl
theorem Uq:gn Try.prog 31 1=true:=by kernel_rfl
theorem PL:dm Try.prog 36 0 0 3=true:=by kernel_rfl
theorem PN:dm Try.prog 36 2 2 29=true:=by kernel_rfl
theorem PM:dm Try.prog 36 1 1 34=true:=by kernel_rfl
theorem PO:dm Try.prog 36 3 3 29=true:=by kernel_rfl
theorem PQ:dm Try.prog 36 4 4 4=true:=by kernel_rfl
theorem T6:e' Try.prog 39 33 4=true:=by kernel_rfl
theorem PT:dm Try.prog 62 0 0 3=true:=by kernel_rfl
theorem PU:dm Try.prog 62 1 1 3=true:=by kernel_rfl
theorem call109:dD Try.prog 109=true:=by kernel_rfl
theorem FW:qZ Try.prog 162 .u64=true:=by kernel_rfl
theorem call90:dD Try.prog 90=true:=by kernel_rfl
theorem Ns:iM Try.prog 135 2=true:=by kernel_rfl
theorem Ul:gn Try.prog 135 2=true:=by kernel_rfl
theorem call74:dD Try.prog 74=true:=by kernel_rfl
theorem HZ:iM Try.prog 145 2=true:=by kernel_rfl
theorem L5:gn Try.prog 145 2=true:=by kernel_rfl
theorem call63:dD Try.prog 63=true:=by kernel_rfl
theorem call62:dD Try.prog 62=true:=by kernel_rfl
theorem call57:dD Try.prog 57=true:=by kernel_rfl
theorem call38:dD Try.prog 38=true:=by kernel_rfl
theorem call55:dD Try.prog 55=true:=by kernel_rfl
theorem call56:dD Try.prog 56=true:=by kernel_rfl
theorem Nw:iM Try.prog 82 4=true:=by kernel_rfl
theorem Uu:gn Try.prog 82 4=true:=by kernel_rfl
theorem Je:dm Try.prog 82 2 2 3=true:=by kernel_rfl
theorem call77:dD Try.prog 77=true:=by kernel_rfl
theorem call64:dD Try.prog 64=true:=by kernel_rfl
theorem call40:dD Try.prog 40=true:=by kernel_rfl
theorem call31:dD Try.prog 31=true:=by kernel_rfl
theorem call33:dD Try.prog 33=true:=by kernel_rfl
theorem Jf:dm Try.prog 82 3 3 3=true:=by kernel_rfl
theorem call41:dD Try.prog 41=true:=by kernel_rfl
theorem call29:dD Try.prog 29=true:=by kernel_rfl
theorem call37:dD Try.prog 37=true:=by kernel_rfl
theorem PV:dm Try.prog 82 0 0 3=true:=by kernel_rfl
theorem PW:dm Try.prog 82 1 1 3=true:=by kernel_rfl
instance:dr Try.prog 23 0 0 3:=⟨D9⟩
instance:gw Try.prog 3:=⟨cH⟩
instance:dr Try.prog 23 1 1 3:=⟨I_⟩
instance:rl Try.prog 9:=⟨j7⟩
instance:dr Try.prog 88 1 1 4:=⟨wF⟩
instance:gw Try.prog 4:=⟨pT⟩
instance:dr Try.prog 88 0 0 9:=⟨kz⟩
instance:gw Try.prog 9:=⟨eP⟩
instance:dr Try.prog 88 2 2 3:=⟨uv⟩
instance:dr Try.prog 100 0 0 3:=⟨ow⟩
instance:dr Try.prog 100 2 2 98:=⟨sL⟩
instance:gw Try.prog 98:=⟨sJ⟩
instance:gM Try.prog 98 88 4:=⟨sl⟩
instance:dr Try.prog 100 1 1 9:=⟨nb⟩
instance:dr Try.prog 93 0 0 91:=⟨Eb⟩
instance:gw Try.prog 91:=⟨DZ⟩
instance:gM Try.prog 91 90 6:=⟨As⟩
instance:dr Try.prog 90 1 4 9:=⟨qQ⟩
instance:dr Try.prog 90 0 0 88:=⟨yz⟩
instance:dr Try.prog 93 1 1 88:=⟨sN⟩
instance:dr Try.prog 33 0 0 9:=⟨D_⟩
instance:dr Try.prog 33 1 1 30:=⟨sM⟩
instance:gw Try.prog 30:=⟨wq⟩
instance:gM Try.prog 30 100 4:=⟨xB⟩
instance:dr Try.prog 33 2 2 31:=⟨ur⟩
instance:gw Try.prog 31:=⟨wu⟩
instance:gM Try.prog 31 96 3:=⟨vv⟩
instance:dr Try.prog 96 0 0 9:=⟨sO⟩
instance:dr Try.prog 96 1 1 94:=⟨yA⟩
instance:gw Try.prog 94:=⟨Br⟩
instance:gM Try.prog 94 93 6:=⟨Au⟩
instance:dr Try.prog 169 4 8 3:=⟨yt⟩
instance:dr Try.prog 169 5 9 3:=⟨yu⟩
instance:dr Try.prog 169 6 10 9:=⟨yv⟩
instance:dr Try.prog 169 2 6 41:=⟨yr⟩
instance:gw Try.prog 41:=⟨rG⟩
instance:gM Try.prog 41 176 2:=⟨q_⟩
instance:dr Try.prog 176 0 0 9:=⟨I9⟩
instance:dr Try.prog 169 0 0 44:=⟨j2⟩
instance:dr Try.prog 44 0 0 40:=⟨pd⟩
instance:gw Try.prog 40:=⟨qL⟩
instance:gM Try.prog 40 78 6:=⟨qo⟩
instance:dr Try.prog 78 0 0 9:=⟨Jc⟩
instance:dr Try.prog 78 1 1 4:=⟨Jd⟩
instance:dr Try.prog 78 2 2 3:=⟨yy⟩
instance:dr Try.prog 88 3 3 3:=⟨qP⟩
instance:dr Try.prog 169 1 5 103:=⟨wB⟩
instance:gw Try.prog 103:=⟨ye⟩
instance:gM Try.prog 103 4 1:=⟨sj⟩
instance:dr Try.prog 176 1 1 9:=⟨BA⟩
instance:dr Try.prog 78 3 3 3:=⟨BD⟩
instance:dr Try.prog 169 7 11 3:=⟨Bz⟩
instance:dr Try.prog 78 4 4 3:=⟨Ea⟩
instance:dr Try.prog 78 5 5 9:=⟨BE⟩
instance:dr Try.prog 169 3 7 167:=⟨wC⟩
instance:gw Try.prog 167:=⟨yf⟩
instance:gM Try.prog 167 9 1:=⟨Ar⟩
instance:dr Try.prog 93 2 5 3:=⟨Jg⟩
instance:dr Try.prog 148 1 1 29:=⟨mv⟩
instance:gw Try.prog 29:=⟨ig⟩
instance:gM Try.prog 29 3 1:=⟨eS⟩
instance:dr Try.prog 90 2 5 3:=⟨BF⟩
instance:dr Try.prog 148 3 3 9:=⟨I6⟩
instance:dr Try.prog 148 5 5 3:=⟨I8⟩
instance:dr Try.prog 169 8 12 3:=⟨yw⟩
instance:dr Try.prog 44 2 2 42:=⟨lW⟩
instance:gw Try.prog 42:=⟨na⟩
instance:gM Try.prog 42 148 6:=⟨mT⟩
instance:dr Try.prog 148 2 2 3:=⟨yp⟩
instance:dr Try.prog 148 4 4 29:=⟨I7⟩
instance:gM Try.prog 123 5 1:=⟨GU⟩
instance:dr Try.prog 96 2 2 3:=⟨Jh⟩
instance:dr Try.prog 44 1 1 41:=⟨rL⟩
instance:dr Try.prog 33 3 3 9:=⟨D'⟩
instance:dr Try.prog 44 3 3 9:=⟨Ja⟩
instance:dr Try.prog 44 4 4 9:=⟨Jb⟩
instance:dr Try.prog 137 0 0 3:=⟨mI⟩
instance:dr Try.prog 137 1 1 3:=⟨qO⟩
instance:gM Try.prog 132 137 2:=⟨jW⟩
instance:dr Try.prog 148 0 0 3:=⟨yo⟩
instance:gM Try.prog 64 135 2:=⟨kL⟩
instance:dr Try.prog 135 0 0 132:=⟨uq⟩
instance:gw Try.prog 132:=⟨uf⟩
instance:dr Try.prog 135 1 1 133:=⟨rK⟩
instance:gw Try.prog 133:=⟨ug⟩
instance:gM Try.prog 133 145 2:=⟨sk⟩
instance:dr Try.prog 145 0 0 3:=⟨By⟩
instance:dr Try.prog 145 1 1 3:=⟨I5⟩
instance:dr Try.prog 76 4 4 29:=⟨wE⟩
instance:dr Try.prog 76 2 2 3:=⟨BC⟩
instance:dr Try.prog 76 3 3 4:=⟨wD⟩
instance:gM Try.prog 112 139 3:=⟨Aq⟩
instance:dr Try.prog 139 0 0 3:=⟨I3⟩
instance:dr Try.prog 139 2 2 29:=⟨Bx⟩
instance:dr Try.prog 139 1 1 3:=⟨I4⟩
instance:gM Try.prog 65 76 5:=⟨xC⟩
instance:gM Try.prog 34 29 1:=⟨mi⟩
instance:gM Try.prog 158 161 2:=⟨pH⟩
instance:dr Try.prog 161 0 0 3:=⟨wA⟩
instance:dr Try.prog 161 1 1 3:=⟨yq⟩
instance:dr Try.prog 76 0 0 3:=⟨BB⟩
instance:dr Try.prog 76 1 1 3:=⟨yx⟩
instance:gM Try.prog 68 82 4:=⟨rb⟩
instance:gM Try.prog 54 23 2:=⟨ra⟩
instance:dr Try.prog 47 0 0 45:=⟨pe⟩
instance:gw Try.prog 45:=⟨pU⟩
instance:gM Try.prog 45 54 1:=⟨q'⟩
instance:dr Try.prog 47 1 1 34:=⟨uu⟩
instance:gw Try.prog 34:=⟨wv⟩
instance:gM Try.prog 57 62 2:=⟨T8⟩
instance:gM Try.prog 51 59 2:=⟨T7⟩
instance:dr Try.prog 59 0 0 3:=⟨PR⟩
instance:dr Try.prog 59 1 1 57:=⟨PS⟩
instance:gw Try.prog 57:=⟨O3⟩
instance:gw Try.prog 54:=⟨uh⟩
instance:dr Try.prog 100 3 3 3:=⟨PK⟩
instance:dr Try.prog 36 0 0 3:=⟨PL⟩
instance:dr Try.prog 36 2 2 29:=⟨PN⟩
instance:dr Try.prog 36 1 1 34:=⟨PM⟩
instance:dr Try.prog 36 3 3 29:=⟨PO⟩
instance:dr Try.prog 36 4 4 4:=⟨PQ⟩
instance:gM Try.prog 39 33 4:=⟨T6⟩
instance:dr Try.prog 62 0 0 3:=⟨PT⟩
instance:dr Try.prog 62 1 1 3:=⟨PU⟩
instance:dr Try.prog 82 2 2 3:=⟨Je⟩
instance:dr Try.prog 82 3 3 3:=⟨Jf⟩
instance:dr Try.prog 82 0 0 3:=⟨PV⟩
instance:dr Try.prog 82 1 1 3:=⟨PW⟩
theorem call39:dD Try.prog 39=true:=by kernel_rfl
theorem U2:jC Try.prog 23 2=true:=by kernel_rfl
theorem Oq (a0:Int) (r:Bool) (h:zU a0=some r):cf Try.prog 121 [lT a0] [none] (bk r):=by
 unfold zU at h;refine cf.go (N:=⟨21,[]⟩) Try.func121 q q q q (W.fin ?_);refine W.st [(0,lT a0)] ?_;refine W.a7 [0] ?_;obtain ⟨pR,ab,h⟩:=aB h;refine W.rs [(2,bk pR)] ?_ ?_
 ·refine bu q<|ai (O.geq (.lit q) (.k q))<|ai (O.aA (.lit q)) ?_;rcases cM ab with ⟨dh,ab⟩ | ⟨dh,ab⟩
  ·refine a' dh (O.aA (.lit q))<|a' dh (O.leq (.lit q) (.k q))<|ai (O.eQ (.lit q) dh (.lit q))<|ai (O.aA (.lit q)) ?_;rcases cM ab with ⟨cY,ab⟩ | ⟨cY,ab⟩
   ·obtain rfl:=ax ab;exact au.a_
   ·refine a' cY (O.aA (.lit q))<|a' cY (O.geq (.lit q) (.k q))<|a' cY (O.aA (.lit q)) ?_;rcases cM ab with ⟨eX,ab⟩ | ⟨eX,ab⟩
    ·refine a' eX (O.aA (.lit q))<|a' eX (O.leq (.lit q) (.k q))<|a' cY (O.eQ (.lit q) eX (.lit q))<|ai (O.cB (.lit q) cY (.lit q))<|ai (O.aA (.lit q)) ?_;rcases cM ab with ⟨db,ab⟩ | ⟨db,ab⟩
     ·obtain rfl:=ax ab;exact au.a_
     ·obtain rfl:=ax ab;exact au.a_
    ·obtain rfl:=ax ab;exact cN eX<|cN eX<|a' cY (O.cB (.lit q) eX (.k q))<|au.a_
  ·refine cN dh<|cN dh<|ai (O.cB (.lit q) dh (.k q))<|bu q<|a' q (O.aA (.lit q))<|a' q (O.geq (.lit q) (.k q))<|a' q (O.aA (.lit q)) ?_;rcases cM ab with ⟨dN,ab⟩ | ⟨dN,ab⟩
   ·refine a' dN (O.aA (.lit q))<|a' dN (O.leq (.lit q) (.k q))<|a' q (O.eQ (.lit q) dN (.lit q))<|ai (O.cB (.lit q) q (.lit q))<|ai (O.aA (.lit q)) ?_;rcases cM ab with ⟨dB,ab⟩ | ⟨dB,ab⟩
    ·obtain rfl:=ax ab;exact au.a_
    ·obtain rfl:=ax ab;exact au.a_
   ·obtain rfl:=ax ab;exact cN dN<|cN dN<|a' q (O.cB (.lit q) dN (.k q))<|au.a_
 refine W.rt ?_;obtain rfl:=ax h;exact cF (.f q q .nil)
theorem Ot (a0:Int) (r:Bool) (h:zV a0=some r):cf Try.prog 122 [lT a0] [none] (bk r):=by
 unfold zV at h;refine cf.go (N:=⟨9,[]⟩) Try.func122 q q q q (W.fin ?_);refine W.st [(0,lT a0)] ?_;refine W.a7 [0] ?_;obtain ⟨c2,ab,h⟩:=aB h;refine W.rs [(2,bk c2)] ?_ ?_
 ·refine bu q<|ai (O.geq (.lit q) (.k q))<|ai (O.aA (.lit q)) ?_;rcases cM ab with ⟨dh,ab⟩ | ⟨dh,ab⟩
  ·obtain rfl:=ax ab;exact au.a_
  ·obtain rfl:=ax ab;exact au.a_
 refine W.rt ?_;obtain rfl:=ax h;exact cF (.f q q .nil)
theorem Om (a0:ByteArray) (ar:Int) (r:Int) (h:zR a0 ar=some r):cf Try.prog 117 [ah a0,j ar] [none,none] (j r):=by
 unfold zR at h;refine cf.go (N:=⟨43,[]⟩) Try.func117 q q q q (W.fin ?_);refine W.st [(0,ah a0),(1,j ar)] ?_;refine W.a7 [0,1] ?_;refine W.a7 [0,1,5] ?_;refine W.bc<|W.bo ?_;obtain ⟨x2,ao,h⟩:=aB h;refine W.cj (G1:=[(0,_),(1,_),(5,_)]) (dH q q q) ?_;refine W.e4 (s:=0) (λ(s1:Int)=>[(0,ah a0),(1,j ar),(5,j s1)]) 0 (λ(x2:Int)=>[(5,j x2)]) ao (λs1 o h=>?_) ?_
 ·clear ao;refine W.bc ?_;obtain ⟨oj,ab,h⟩:=aB h;refine W.rs [(0,ah a0),(1,j ar),(5,j s1),(39,bk oj)] ?_ ?_
  ·refine bu q<|bu q<|ai (O.add (.lit q) (.lit q))<|bu q<|ai (O.ma (.lit q) j7)<|ai (O.lss (.lit q) (.lit q))<|ai (O.aA (.lit q)) ?_;rcases cM ab with ⟨db,ab⟩ | ⟨db,ab⟩
   ·refine a' db (O.aA (.lit q))<|a' db (O.aA (.lit q))<|a' db (O.aA (.lit q))<|a' db (O.add (.lit q) (.lit q)) ?_;obtain ⟨b5,j6,ab⟩:=aB ab;refine a' db (O.og (.lit q) (.lit q) j7 j6) ?_;obtain ⟨bF,fM,ab⟩:=aB ab;refine au.c (cw.go (.b2 (.lit q) .nil) (Oq b5 _ fM) call121 q) q q (.jA q q db)<|a' db (O.aA (.lit q)) ?_;rcases cM ab with ⟨cP,ab⟩ | ⟨cP,ab⟩
    ·obtain rfl:=ax ab;exact cN cP<|cN cP<|cN cP<|hp<|hp<|hp<|hp<|hp<|hp<|hp<|hp<|hp<|hp<|hp<|hp<|hp<|hp<|cN cP<|a' db (O.eQ (.lit q) cP (.k q))<|au.a_
    ·refine a' cP (O.aA (.lit q))<|a' cP (O.gtr (.lit q) (.k q))<|a' cP (O.aA (.lit q)) ?_;rcases cM ab with ⟨cS,ab⟩ | ⟨cS,ab⟩
     ·refine a' cS (O.aA (.lit q))<|a' cS (O.aA (.lit q))<|a' cS (O.aA (.lit q))<|a' cS (O.add (.lit q) (.lit q)) ?_;obtain ⟨cu,jV,ab⟩:=aB ab;refine a' cS (O.og (.lit q) (.lit q) j7 jV) ?_;obtain ⟨bQ,jJ,ab⟩:=aB ab;refine au.c (cw.go (.b2 (.lit q) .nil) (Ot cu _ jJ) call122 q) q q (.jA q q cS)<|a' cS (O.aA (.lit q)) ?_;rcases cM ab with ⟨ft,ab⟩ | ⟨ft,ab⟩
      ·obtain rfl:=ax ab;exact cN ft<|cN ft<|cN ft<|cN ft<|cN ft<|cN ft<|a' cS (O.eQ (.lit q) ft (.k q))<|a' cP (O.eQ (.lit q) cS (.lit q))<|a' db (O.cB (.lit q) cP (.lit q))<|au.a_
      ·refine a' ft (O.aA (.lit q))<|a' ft (O.aA (.lit q))<|a' ft (O.aA (.lit q))<|a' ft (O.add (.lit q) (.lit q)) ?_;obtain ⟨cL,kh,ab⟩:=aB ab;obtain rfl:=ax ab;exact a' ft (O.og (.lit q) (.lit q) j7 kh)<|a' ft (O.eql (.lit q) (.k q))<|a' cS (O.cB (.lit q) ft (.lit q))<|a' cP (O.eQ (.lit q) cS (.lit q))<|a' db (O.cB (.lit q) cP (.lit q))<|au.a_
     ·obtain rfl:=ax ab;exact cN cS<|cN cS<|cN cS<|cN cS<|cN cS<|cN cS<|cN cS<|hp<|hp<|hp<|hp<|hp<|hp<|cN cS<|a' cP (O.cB (.lit q) cS (.k q))<|a' db (O.cB (.lit q) cP (.lit q))<|au.a_
   ·obtain rfl:=ax ab;exact au.a_
  refine W.bJ h q (λey h=>?_) (λey h=>?_)
  ·refine W.bS<|ag.bb ?_;refine W.bo<|W.br [0,1,5] (bu q<|ai (O.add (.lit q) (.k q))<|au.br [0,1,41] q<|au.a_) ?_;refine ag.bo ?_;obtain rfl:=ax h;exact ag.go (dH q q q)
  ·refine W.dj ?_;refine ag.di ?_;obtain rfl:=ax h;exact ag.aH (.n q .nil)
 refine ag.dk ?_;refine ag.bb<|W.a7 [4] ?_;refine W.rt ?_;obtain rfl:=ax h;exact cF (.f q q .nil)
theorem Bk (a0:ByteArray) (r:Bool) (h:r9 a0=some r):cf Try.prog 111 [ah a0] [none] (bk r):=by
 unfold r9 at h;refine cf.go (N:=⟨18,[]⟩) Try.func111 q q q q (W.fin ?_);refine W.st [(0,ah a0)] ?_;refine W.a7 [0] ?_;obtain ⟨c4,ab,h⟩:=aB h;refine W.rs [(2,bk c4)] ?_ ?_
 ·refine bu q<|ai (O.ma (.lit q) j7)<|ai (O.geq (.lit q) (.k q))<|ai (O.aA (.lit q)) ?_;rcases cM ab with ⟨dh,ab⟩ | ⟨dh,ab⟩
  ·refine a' dh (O.aA (.lit q))<|a' dh (O.ma (.lit q) j7)<|a' dh (O.leq (.lit q) (.k q))<|ai (O.eQ (.lit q) dh (.lit q))<|ai (O.aA (.lit q)) ?_;rcases cM ab with ⟨cY,ab⟩ | ⟨cY,ab⟩
   ·refine a' cY (O.aA (.lit q)) ?_;obtain ⟨a6,h_,ab⟩:=aB ab;obtain rfl:=ax ab;exact au.c (cw.go (.b2 (.lit q) (.b2 (.k q) .nil)) (Om a0 0 _ h_) call117 q) q q (.jA q q cY)<|au.a_
   ·obtain rfl:=ax ab;exact au.a_
  ·obtain rfl:=ax ab;exact au.a_
 refine W.rt ?_;obtain rfl:=ax h;exact cF (.f q q .nil)
theorem Oo (a0:Int) (r:Int × Bool) (h:zT a0=some r):cf Try.prog 120 [lT a0] [none] (.cr [lT r.1,bk r.2]):=by
 unfold zT at h;refine cf.go (N:=⟨21,[]⟩) Try.func120 q q q q (W.fin ?_);refine W.st [(0,lT a0)] ?_;refine W.a7 [0] ?_;refine W.bc<|W.a7 [0,4] ?_;refine W.bo<|W.a7 [0,4,5] ?_;refine W.bJ h q (λdh h=>?_) (λdh h=>?_)
 ·refine W.a7 [2,3] ?_;refine W.rt ?_;refine ag.dY ?_;refine ag.c5 ?_;obtain rfl:=ax h;exact cF (.f q q (.f q q .nil))
 ·refine W.a7 [0,4,7] ?_;refine W.bJ h q (λcY h=>?_) (λcY h=>?_)
  ·refine W.a7 [2,3] ?_;refine W.rt ?_;refine ag.dY ?_;refine ag.c5 ?_;obtain rfl:=ax h;exact cF (.f q q (.f q q .nil))
  ·refine W.a7 [0,4,9] ?_;refine W.bJ h q (λeX h=>?_) (λeX h=>?_)
   ·refine W.a7 [2,3] ?_;refine W.rt ?_;refine ag.dY ?_;refine ag.c5 ?_;obtain rfl:=ax h;exact cF (.f q q (.f q q .nil))
   ·refine W.bc<|W.a7 [0,4,11] ?_;obtain ⟨F4,ab,h⟩:=aB h;refine W.bH [(0,lT a0),(11,bk F4)] ?_ ?_
    ·clear h; have h:=ab; clear ab;refine W.bJ h q (λdN h=>?_) (λdN h=>?_)
     ·refine W.bS ?_;obtain rfl:=ax h;exact ag.bH (fc q q)
     ·refine W.br [0,11] (ai (O.eql (.lit q) (.k q))<|au.br [0,13] q<|au.a_) ?_;obtain rfl:=ax h;exact ag.bH (fc q q)
    refine ag.bb<|W.bJ h q (λdB h=>?_) (λdB h=>?_)
    ·refine W.a7 [2,3] ?_;refine W.rt ?_;refine ag.dY ?_;refine ag.c5 ?_;obtain rfl:=ax h;exact cF (.f q q (.f q q .nil))
    ·refine W.bS<|ag.bo ?_;refine ag.bb ?_;obtain ⟨om,ab,h⟩:=aB h;refine W.rs [(2,lT om.1),(3,bk om.2)] ?_ ?_
     ·refine bu q<|ai (O.geq (.lit q) (.k q))<|ai (O.aA (.lit q)) ?_;rcases cM ab with ⟨cP,ab⟩ | ⟨cP,ab⟩
      ·obtain rfl:=ax ab;exact au.a_
      ·obtain rfl:=ax ab;exact au.a_
     refine W.rt ?_;obtain rfl:=ax h;exact cF (.f q q (.f q q .nil))
theorem DP (a0:Sym) (ar:Bool) (a2:Bool) (r:Bool) (h:u9 a0 ar a2=some r):cf Try.prog 116 [.agg (dF.cells a0),bk ar,bk a2] [none,none,none] (bk r):=by
 unfold u9 at h;refine cf.go (N:=⟨53,[]⟩) Try.func116 q q q q (W.fin ?_);refine W.st [(0,.agg (dF.cells a0)),(1,bk ar),(2,bk a2)] ?_;refine W.bV [1,2,3] (ai (O.box (.ck q q) q)<|au.a_) ?_;refine W.bc<|W.a7 [1,2,3,10] ?_;refine W.bJ h q (λdh h=>?_) (λdh h=>?_)
 ·refine W.bc ?_;obtain ⟨c4,ab,h⟩:=aB h;refine W.rs [(3,.obj (dF.cells a0)),(23,bk c4)] ?_ ?_
  ·refine bu q<|ai (O.not (.lit q))<|ai (O.aA (.lit q)) ?_;rcases cM ab with ⟨cY,ab⟩ | ⟨cY,ab⟩
   ·obtain rfl:=ax ab;exact au.a_
   ·refine a' cY (O.bm q (.obj q) kz q)<|a' cY (O.cA q (.ptr q) eP q)<|a' cY (O.ma (.lit q) j7)<|a' cY (O.neq (.lit q) (.k q))<|ai (O.cB (.lit q) cY (.lit q))<|ai (O.aA (.lit q)) ?_;rcases cM ab with ⟨eX,ab⟩ | ⟨eX,ab⟩
    ·obtain rfl:=ax ab;exact au.a_
    ·obtain rfl:=ax ab;exact au.a_
  refine W.bJ h q (λdN h=>?_) (λdN h=>?_)
  ·refine W.a7 [6] ?_;refine W.rt ?_;refine ag.c5 ?_;refine ag.c5 ?_;obtain rfl:=ax h;exact cF (.f q q .nil)
  ·refine W.bS<|ag.bb ?_;obtain ⟨bF,fM,h⟩:=aB h;obtain ⟨bj,f_,h⟩:=aB h;refine W.bV [8] (ai (O.bm q (.obj q) kz q)<|ai (O.cA q (.ptr q) eP q)<|ai (O.og (.lit q) (.k q) j7 fM)<|d' (cw.go (.b2 (.lit q) .nil) (Oo bF _ f_) call120 q)<|ai (O.aA (.vA q q))<|ai (O.ex (y:=lT bj.1) q q q)<|ai (O.ex (y:=bk bj.2) q q q)<|au.a_) ?_;refine W.a7 [6] ?_;refine W.rt ?_;refine ag.c5 ?_;obtain rfl:=ax h;exact cF (.f q q .nil)
 ·refine W.bS<|ag.bb ?_;obtain ⟨oj,ab,h⟩:=aB h;refine W.rs [(6,bk oj)] ?_ ?_
  ·refine ai (O.bm q (.obj q) kz q)<|ai (O.cA q (.ptr q) eP q) ?_;obtain ⟨b4,iB,ab⟩:=aB ab;refine d' (cw.go (.b2 (.lit q) .nil) (Bk a0.Name _ iB) call111 q)<|ai (O.aA (.lit q)) ?_;rcases cM ab with ⟨ek,ab⟩ | ⟨ek,ab⟩
   ·refine a' ek (O.bm q (.obj q) uv q)<|a' ek (O.cA q (.ptr q) cH q)<|a' ek (O.eql (.lit q) (.k q))<|a' ek (O.aA (.lit q)) ?_;rcases cM ab with ⟨ej,ab⟩ | ⟨ej,ab⟩
    ·obtain rfl:=ax ab;exact cN ej<|cN ej<|hp<|hp<|hp<|cN ej<|cN ej<|hp<|hp<|hp<|cN ej<|a' ek (O.eQ (.lit q) ej (.k q))<|au.a_
    ·refine a' ej (O.aA (.lit q))<|a' ej (O.aA (.lit q)) ?_;rcases cM ab with ⟨ft,ab⟩ | ⟨ft,ab⟩
     ·refine a' ft (O.bm q (.obj q) uv q)<|a' ft (O.cA q (.ptr q) cH q)<|a' ft (O.geq (.lit q) (.k q))<|a' ej (O.eQ (.lit q) ft (.lit q))<|a' ej (O.aA (.lit q)) ?_;rcases cM ab with ⟨et,ab⟩ | ⟨et,ab⟩
      ·obtain rfl:=ax ab;exact a' et (O.bm q (.obj q) uv q)<|a' et (O.cA q (.ptr q) cH q)<|a' et (O.leq (.lit q) (.k q))<|a' ej (O.eQ (.lit q) et (.lit q))<|a' ek (O.cB (.lit q) ej (.lit q))<|au.a_
      ·obtain rfl:=ax ab;exact cN et<|cN et<|cN et<|a' ej (O.cB (.lit q) et (.k q))<|a' ek (O.cB (.lit q) ej (.lit q))<|au.a_
     ·obtain rfl:=ax ab;exact cN ft<|cN ft<|cN ft<|a' ej (O.cB (.lit q) ft (.k q))<|a' ej (O.aA (.lit q))<|cN q<|cN q<|cN q<|a' ej (O.cB (.lit q) q (.k q))<|a' ek (O.cB (.lit q) ej (.lit q))<|au.a_
   ·obtain rfl:=ax ab;exact au.a_
  refine W.rt ?_;obtain rfl:=ax h;exact cF (.f q q .nil)
theorem Oj (a0:Decl) (r:Bool) (h:r8 a0=some r):cf Try.prog 110 [.agg (dJ.cells a0)] [none] (bk r):=by
 unfold r8 at h;refine cf.go (N:=⟨75,[]⟩) Try.func110 q q q q (W.fin ?_);refine W.st [(0,.agg (dJ.cells a0))] ?_;refine W.bV [1] (ai (O.box (.ck q q) q)<|au.a_) ?_;refine W.bc ?_;obtain ⟨sH,ab,h⟩:=aB h;refine W.rs [(1,.obj (dJ.cells a0)),(54,bk sH)] ?_ ?_
 ·refine ai (O.bm q (.obj q) ow q)<|ai (O.cA q (.ptr q) cH q)<|ai (O.lss (.lit q) (.k q))<|ai (O.aA (.lit q)) ?_;rcases cM ab with ⟨dh,ab⟩ | ⟨dh,ab⟩
  ·obtain rfl:=ax ab;exact au.a_
  ·refine a' dh (O.bm q (.obj q) ow q)<|a' dh (O.cA q (.ptr q) cH q)<|a' dh (O.gtr (.lit q) (.k q))<|ai (O.cB (.lit q) dh (.lit q))<|ai (O.aA (.lit q)) ?_;rcases cM ab with ⟨cY,ab⟩ | ⟨cY,ab⟩
   ·obtain rfl:=ax ab;exact au.a_
   ·refine a' cY (O.bm q (.obj q) sL q)<|a' cY (O.dz (y:=aj dF a0.fh) q (.ptr q) sJ q q)<|a' cY (O.gN (.aD q) sl)<|a' cY (O.eql (.lit q) (.k q))<|ai (O.cB (.lit q) cY (.lit q))<|ai (O.aA (.lit q)) ?_;rcases cM ab with ⟨eX,ab⟩ | ⟨eX,ab⟩
    ·obtain rfl:=ax ab;exact au.a_
    ·refine a' eX (O.bm q (.obj q) ow q)<|a' eX (O.cA q (.ptr q) cH q)<|a' eX (O.eql (.lit q) (.k q))<|a' eX (O.aA (.lit q)) ?_;rcases cM ab with ⟨db,ab⟩ | ⟨db,ab⟩
     ·refine a' db (O.bm q (.obj q) sL q)<|a' db (O.dz (y:=aj dF a0.fh) q (.ptr q) sJ q q)<|a' db (O.gN (.aD q) sl)<|a' db (O.neq (.lit q) (.k q))<|a' db (O.aA (.lit q)) ?_;rcases cM ab with ⟨dN,ab⟩ | ⟨dN,ab⟩
      ·obtain rfl:=ax ab;exact cN dN<|cN dN<|cN dN<|a' db (O.eQ (.lit q) dN (.k q))<|a' eX (O.eQ (.lit q) db (.lit q))<|au.a_
      ·refine a' dN (O.bm q (.obj q) nb q)<|a' dN (O.cA q (.ptr q) eP q)<|a' dN (O.lH (.lit q) (.k q))<|a' db (O.cB (.lit q) dN (.lit q))<|a' eX (O.eQ (.lit q) db (.lit q))<|ai (O.cB (.lit q) eX (.lit q))<|ai (O.aA (.lit q)) ?_;rcases cM ab with ⟨dB,ab⟩ | ⟨dB,ab⟩
       ·obtain rfl:=ax ab;exact au.a_
       ·refine a' dB (O.bm q (.obj q) ow q)<|a' dB (O.cA q (.ptr q) cH q)<|a' dB (O.eql (.lit q) (.k q))<|a' dB (O.aA (.lit q)) ?_;rcases cM ab with ⟨cP,ab⟩ | ⟨cP,ab⟩
        ·refine a' cP (O.bm q (.obj q) nb q)<|a' cP (O.cA q (.ptr q) eP q)<|a' cP (O.ou (.lit q) (.k q))<|a' dB (O.eQ (.lit q) cP (.lit q))<|ai (O.cB (.lit q) dB (.lit q))<|ai (O.aA (.lit q)) ?_;rcases cM ab with ⟨cS,ab⟩ | ⟨cS,ab⟩
         ·obtain rfl:=ax ab;exact au.a_
         ·obtain rfl:=ax ab;exact a' cS (O.bm q (.obj q) nb q)<|a' cS (O.cA q (.ptr q) eP q)<|a' cS (O.lH (.lit q) (.k q))<|a' cS (O.aA (.lit q))<|cN dB<|cN dB<|cN dB<|cN dB<|a' cS (O.cB (.lit q) dB (.k q))<|au.a_
        ·obtain rfl:=ax ab;exact cN cP<|cN cP<|cN cP<|a' dB (O.cB (.lit q) cP (.k q))<|ai (O.cB (.lit q) dB (.lit q))<|bu q<|a' q (O.bm q (.obj q) nb q)<|a' q (O.cA q (.ptr q) eP q)<|a' q (O.lH (.lit q) (.k q))<|a' q (O.aA (.lit q))<|cN dB<|cN dB<|cN dB<|cN dB<|a' q (O.cB (.lit q) dB (.k q))<|au.a_
     ·refine cN db<|cN db<|cN db<|cN db<|cN db<|hp<|hp<|hp<|cN db<|a' eX (O.cB (.lit q) db (.k q))<|ai (O.cB (.lit q) eX (.lit q))<|bu q<|a' q (O.bm q (.obj q) ow q)<|a' q (O.cA q (.ptr q) cH q)<|a' q (O.eql (.lit q) (.k q))<|a' q (O.aA (.lit q)) ?_;rcases cM ab with ⟨ek,ab⟩ | ⟨ek,ab⟩
      ·refine a' ek (O.bm q (.obj q) nb q)<|a' ek (O.cA q (.ptr q) eP q)<|a' ek (O.ou (.lit q) (.k q))<|a' q (O.eQ (.lit q) ek (.lit q))<|ai (O.cB (.lit q) q (.lit q))<|ai (O.aA (.lit q)) ?_;rcases cM ab with ⟨ej,ab⟩ | ⟨ej,ab⟩
       ·obtain rfl:=ax ab;exact au.a_
       ·refine a' ej (O.bm q (.obj q) nb q)<|a' ej (O.cA q (.ptr q) eP q)<|a' ej (O.lH (.lit q) (.k q))<|a' ej (O.aA (.lit q)) ?_;rcases cM ab with ⟨ft,ab⟩ | ⟨ft,ab⟩
        ·refine a' ft (O.bm q (.obj q) nb q)<|a' ft (O.cA q (.ptr q) eP q) ?_;obtain ⟨cL,kh,ab⟩:=aB ab;obtain rfl:=ax ab;exact au.c (cw.go (.b2 (.lit q) .nil) (Bk a0.Tag _ kh) call111 q) q q (.jA q q ft)<|a' ft (O.not (.lit q))<|a' ej (O.eQ (.lit q) ft (.lit q))<|au.a_
        ·obtain rfl:=ax ab;exact cN ft<|cN ft<|cN ft<|cN ft<|a' ej (O.cB (.lit q) ft (.k q))<|au.a_
      ·refine cN ek<|cN ek<|cN ek<|a' q (O.cB (.lit q) ek (.k q))<|ai (O.cB (.lit q) q (.lit q))<|bu q<|a' q (O.bm q (.obj q) nb q)<|a' q (O.cA q (.ptr q) eP q)<|a' q (O.lH (.lit q) (.k q))<|a' q (O.aA (.lit q)) ?_;rcases cM ab with ⟨kf,ab⟩ | ⟨kf,ab⟩
       ·refine a' kf (O.bm q (.obj q) nb q)<|a' kf (O.cA q (.ptr q) eP q) ?_;obtain ⟨dS,kG,ab⟩:=aB ab;obtain rfl:=ax ab;exact au.c (cw.go (.b2 (.lit q) .nil) (Bk a0.Tag _ kG) call111 q) q q (.jA q q kf)<|a' kf (O.not (.lit q))<|a' q (O.eQ (.lit q) kf (.lit q))<|au.a_
       ·obtain rfl:=ax ab;exact cN kf<|cN kf<|cN kf<|cN kf<|a' q (O.cB (.lit q) kf (.k q))<|au.a_
 refine W.bJ h q (λiP h=>?_) (λiP h=>?_)
 ·refine W.a7 [2] ?_;refine W.rt ?_;refine ag.c5 ?_;obtain rfl:=ax h;exact cF (.f q q .nil)
 ·refine W.bS<|ag.bb ?_;refine W.bc<|W.a7 [1,3] ?_;refine W.bo ?_;obtain ⟨ff,ao,h⟩:=aB h;refine W.cj (G1:=[(1,_),(3,_)]) (fc q q) ?_;refine W.jz (s:=0) (λ(im:Int)=>[(1,.obj (dJ.cells a0)),(3,j im)]) 0 (λ(gL:Unit)=>[]) (λ(eZ:Bool)=>[(2,bk eZ)]) ao (λim o h=>?_) (λgL J=>?_) (λeZ J=>?_)
  ·clear ao;refine W.bc<|W.a7 [1,3,59] ?_;refine W.bJ h q (λjd h=>?_) (λjd h=>?_)
   ·refine W.bS<|ag.bb ?_;refine W.bc<|W.bo ?_;refine W.bc ?_;obtain ⟨gQ,oI,h⟩:=aB h;obtain ⟨fQ,nj,h⟩:=aB h;refine W.rd [[],[0],[],[0,1,2],[0,1,2,3],[],[5],[5,6],[],[8],[8,9],aT 0 11 [],aT 0 12 []] [(1,_),(3,_),(74,_)] eY (by kernel_rfl) (aw 0 (O.bm q (.obj q) sL q)<|aw 1 (O.dz (y:=aj dF a0.fh) q (.ptr q) sJ q q)<|aw 2 (O.aA (.lit q))<|aw 3 (O.cQ (.aD q) (.lit q) sl oI)<|aw 4 (O.iW (cs':=[ah gQ.Name,bk gQ.Lit,j gQ.c_,j gQ.At]) (.bs q) mH q q)<|aw 5 (O.bm q (.obj q) ow q)<|aw 6 (O.cA q (.ptr q) cH q)<|aw 7 (O.eql (.lit q) (.k q))<|aw 8 (O.bm q (.obj q) ow q)<|aw 9 (O.cA q (.ptr q) cH q)<|aw 10 (O.lss (.lit q) (.k q))<|jn 11 (cw.go (.b2 (.ck q q) (.b2 (.lit q) (.b2 (.lit q) .nil))) (DP gQ (decide (a0.Kind=1)) (decide (a0.Kind<5)) _ nj) call116 q)<|aw 12 (O.not (.lit q))<|b1.fin q q q (dH q q q)) ?_;refine ag.bb<|W.bJ h q (λyQ h=>?_) (λyQ h=>?_)
    ·refine W.a7 [2] ?_;refine W.rt ?_;refine ag.dY ?_;refine ag.c5 ?_;obtain rfl:=ax h;exact ag.fX (.n q .nil)
    ·refine W.bS<|ag.bo ?_;refine ag.bb<|W.br [1,3] (bu q<|ai (O.add (.lit q) (.k q))<|au.br [1,61] q<|au.a_) ?_;obtain rfl:=ax h;exact ag.go (fc q q)
   ·refine W.dj ?_;refine ag.di ?_;obtain rfl:=ax h;exact ag.x2 .nil
  ·subst J;refine ag.dk ?_;refine ag.bb<|W.a7 [2] ?_;refine W.rt ?_;obtain rfl:=ax h;exact cF (.f q q .nil)
  ·subst J;refine ag.dY ?_;refine ag.c5 ?_;obtain rfl:=ax h;exact cF (.f q q .nil)
theorem DQ (a0:Sym) (r:Bool) (h:u_ a0=some r):cf Try.prog 118 [.agg (dF.cells a0)] [none] (bk r):=by
 unfold u_ at h;refine cf.go (N:=⟨16,[]⟩) Try.func118 q q q q (W.fin ?_);refine W.st [(0,.agg (dF.cells a0))] ?_;refine W.bV [1] (ai (O.box (.ck q q) q)<|au.a_) ?_;obtain ⟨lV,ab,h⟩:=aB h;refine W.rs [(2,bk lV)] ?_ ?_
 ·refine ai (O.bm q (.obj q) kz q)<|ai (O.cA q (.ptr q) eP q)<|ai (O.ou (.lit q) (.k q))<|ai (O.aA (.lit q)) ?_;rcases cM ab with ⟨dh,ab⟩ | ⟨dh,ab⟩
  ·refine a' dh (O.bm q (.obj q) wF q)<|a' dh (O.cA q (.ptr q) pT q)<|a' dh (O.not (.lit q))<|ai (O.eQ (.lit q) dh (.lit q))<|ai (O.aA (.lit q)) ?_;rcases cM ab with ⟨cY,ab⟩ | ⟨cY,ab⟩
   ·obtain rfl:=ax ab;exact au.a_
   ·obtain rfl:=ax ab;exact au.a_
  ·obtain rfl:=ax ab;exact au.a_
 refine W.rt ?_;obtain rfl:=ax h;exact cF (.f q q .nil)
theorem DR (a0:ByteArray) (ar:Int) (a2:ByteArray) (r:Bool) (h:u' a0 ar a2=some r):cf Try.prog 124 [ah a0,j ar,ah a2] [none,none,none] (bk r):=by
 unfold u' at h;refine cf.go (N:=⟨25,[]⟩) Try.func124 q q q q (W.fin ?_);refine W.st [(0,ah a0),(1,j ar),(2,ah a2)] ?_;refine W.a7 [0,1,2] ?_;obtain ⟨lV,ab,h⟩:=aB h;refine W.rs [(6,bk lV)] ?_ ?_
 ·refine bu q<|ai (O.ma (.lit q) j7)<|bu q<|ai (O.sub (.lit q) (.lit q))<|bu q<|ai (O.ma (.lit q) j7)<|ai (O.geq (.lit q) (.lit q))<|ai (O.aA (.lit q)) ?_;rcases cM ab with ⟨dh,ab⟩ | ⟨dh,ab⟩
  ·refine a' dh (O.aA (.lit q))<|a' dh (O.aA (.lit q))<|a' dh (O.aA (.lit q))<|a' dh (O.aA (.lit q))<|a' dh (O.ma (.lit q) j7)<|a' dh (O.add (.lit q) (.lit q)) ?_;obtain ⟨x2,hM,ab⟩:=aB ab;obtain rfl:=ax ab;exact a' dh (O.Ap (.lit q) (.lit q) (.lit q) j7 hM)<|au.a_
  ·obtain rfl:=ax ab;exact au.a_
 refine W.rt ?_;obtain rfl:=ax h;exact cF (.f q q .nil)
theorem Ou (a0:ByteArray) (ar:Int) (r:Int) (h:zW a0 ar=some r):cf Try.prog 123 [ah a0,j ar] [none,none] (j r):=by
 unfold zW at h;refine cf.go (N:=⟨114,[]⟩) Try.func123 q q q q (W.fin ?_);refine W.st [(0,ah a0),(1,j ar)] ?_;refine W.a7 [0,1] ?_;refine W.bc<|W.bo ?_;obtain ⟨c4,ab,h⟩:=aB h;refine W.rs [(0,ah a0),(1,j ar),(9,bk c4)] ?_ ?_
 ·refine bu q<|ai (O.aA (.lit q)) ?_;obtain ⟨aH,fA,ab⟩:=aB ab;refine ai (O.og (.lit q) (.lit q) j7 fA)<|ai (O.eql (.lit q) (.k q))<|ai (O.aA (.lit q)) ?_;rcases cM ab with ⟨cY,ab⟩ | ⟨cY,ab⟩
  ·obtain rfl:=ax ab;exact au.a_
  ·refine a' cY (O.aA (.lit q))<|a' cY (O.aA (.lit q)) ?_;obtain ⟨a6,h_,ab⟩:=aB ab;obtain rfl:=ax ab;exact au.a_
 refine W.bJ h q (λdN h=>?_) (λdN h=>?_)
 ·refine W.bc<|W.a7 [0,1,5] ?_;refine W.bo ?_;obtain ⟨bj,ao,h⟩:=aB h;refine W.cj (G1:=[(0,_),(1,_),(5,_)]) (dH q q q) ?_;refine W.jz (s:=aM (ar+1)) (λ(cW:Int)=>[(0,ah a0),(1,j ar),(5,j cW)]) 1 (λ(b4:Unit)=>[]) (λ(cu:Int)=>[(4,j cu)]) ao (λcW o h=>?_) (λb4 J=>?_) (λcu J=>?_)
  ·clear ao;refine W.bc ?_;obtain ⟨t_,ab,h⟩:=aB h;refine W.rs [(0,ah a0),(1,j ar),(5,j cW),(31,bk t_)] ?_ ?_
   ·refine bu q<|bu q<|ai (O.ma (.lit q) j7)<|ai (O.lss (.lit q) (.lit q))<|ai (O.aA (.lit q)) ?_;rcases cM ab with ⟨ej,ab⟩ | ⟨ej,ab⟩
    ·refine a' ej (O.aA (.lit q))<|a' ej (O.aA (.lit q)) ?_;obtain ⟨cy,h9,ab⟩:=aB ab;obtain rfl:=ax ab;exact au.a_
    ·obtain rfl:=ax ab;exact au.a_
   refine W.bJ h q (λkf h=>?_) (λkf h=>?_)
   ·refine W.bS<|ag.bb ?_;refine W.bc<|W.bo ?_;refine W.bc<|W.bc ?_;obtain ⟨dS,kG,h⟩:=aB h;obtain ⟨eg,kH,h⟩:=aB h;refine W.rd [[],[],[0,1],[],[],[3,4],aT 0 6 []] [(0,_),(1,_),(5,_),(40,_)] eY (by kernel_rfl) (aw 0 (O.aA (.lit q))<|aw 1 (O.aA (.lit q))<|aw 2 (O.og (.lit q) (.lit q) j7 kG)<|aw 3 (O.aA (.lit q))<|aw 4 (O.aA (.lit q))<|aw 5 (O.og (.lit q) (.lit q) j7 kH)<|aw 6 (O.eql (.lit q) (.lit q))<|b1.fin q q q (dA q q q q)) ?_;refine ag.bb<|W.bJ h q (λiP h=>?_) (λiP h=>?_)
    ·refine W.a7 [4] ?_;refine W.rt ?_;refine ag.c5 ?_;refine ag.dY ?_;refine ag.c5 ?_;obtain rfl:=ax h;exact ag.fX (.n q .nil)
    ·refine W.bS<|ag.bb ?_;obtain ⟨b7,ji,h⟩:=aB h;refine W.a7 [0,1,5,46] ?_;refine W.bJ h q (λgV h=>?_) (λgV h=>?_)
     ·refine W.bV [0,1,5] (bu q<|ai (O.add (.lit q) (.k q))<|au.br [0,1,48] q<|au.a_) ?_;obtain ⟨sI,ab,h⟩:=aB h;refine W.rs [(0,ah a0),(1,j ar),(5,j (aM (cW+1))),(58,bk sI)] ?_ ?_
      ·refine bu q<|bu q<|ai (O.ma (.lit q) j7)<|ai (O.lss (.lit q) (.lit q))<|ai (O.aA (.lit q)) ?_;rcases cM ab with ⟨hT,ab⟩ | ⟨hT,ab⟩
       ·refine a' hT (O.aA (.lit q))<|a' hT (O.aA (.lit q)) ?_;obtain ⟨eZ,uQ,ab⟩:=aB ab;obtain rfl:=ax ab;exact au.a_
       ·obtain rfl:=ax ab;exact au.a_
      refine W.bJ h q (λjx h=>?_) (λjx h=>?_)
      ·refine W.a7 [4] ?_;refine W.rt ?_;refine ag.dY ?_;refine ag.c5 ?_;obtain rfl:=ax h;exact ag.fX (.n q .nil)
      ·refine W.bS<|ag.bo ?_;refine ag.bb<|W.br [0,1,5] (bu q<|ai (O.add (.lit q) (.k q))<|au.br [0,1,33] q<|au.a_) ?_;obtain rfl:=ax h;exact ag.go (dH q q q)
     ·refine W.bS<|ag.bo ?_;refine ag.bb<|W.br [0,1,5] (bu q<|ai (O.add (.lit q) (.k q))<|au.br [0,1,33] q<|au.a_) ?_;obtain rfl:=ax h;exact ag.go (dH q q q)
   ·refine W.dj ?_;refine ag.di ?_;obtain rfl:=ax h;exact ag.x2 .nil
  ·subst J;refine ag.dk ?_;refine ag.bb<|W.a7 [4] ?_;refine W.rt ?_;refine ag.dY ?_;refine ag.c5 ?_;obtain rfl:=ax h;exact cF (.f q q .nil)
  ·subst J;refine ag.dY ?_;refine ag.c5 ?_;refine ag.dY ?_;refine ag.c5 ?_;obtain rfl:=ax h;exact cF (.f q q .nil)
 ·obtain ⟨fQ,nj,h⟩:=aB h;refine W.a7 [0,1,59] ?_;refine W.bJ h q (λyQ h=>?_) (λyQ h=>?_)
  ·refine W.bc<|W.a7 [0,6] ?_;refine W.bo ?_;obtain ⟨iY,ao,h⟩:=aB h;refine W.cj (G1:=[(0,_),(6,_)]) (fc q q) ?_;refine W.jz (s:=aM (ar+1)) (λ(vt:Int)=>[(0,ah a0),(6,j vt)]) 3 (λ(fB:Unit)=>[]) (λ(cU:Int)=>[(4,j cU)]) ao (λvt o h=>?_) (λfB J=>?_) (λcU J=>?_)
   ·clear ao;refine W.bc<|W.a7 [0,6,69] ?_;refine W.bJ h q (λsW h=>?_) (λsW h=>?_)
    ·refine W.bS<|ag.bb ?_;refine W.bc<|W.bo ?_;obtain ⟨ic,oK,h⟩:=aB h;refine W.a7 [0,6,75] ?_;refine W.bJ h q (λlz h=>?_) (λlz h=>?_)
     ·refine W.a7 [4] ?_;refine W.rt ?_;refine ag.dY ?_;refine ag.c5 ?_;obtain rfl:=ax h;exact ag.fX (.n q .nil)
     ·refine W.bS<|ag.bo ?_;refine ag.bb<|W.br [0,6] (bu q<|ai (O.add (.lit q) (.k q))<|au.br [0,71] q<|au.a_) ?_;obtain rfl:=ax h;exact ag.go (fc q q)
    ·refine W.dj ?_;refine ag.di ?_;obtain rfl:=ax h;exact ag.x2 .nil
   ·subst J;refine ag.dk ?_;refine ag.bb<|W.a7 [4] ?_;refine W.rt ?_;refine ag.dY ?_;refine ag.c5 ?_;obtain rfl:=ax h;exact cF (.f q q .nil)
   ·subst J;refine ag.dY ?_;refine ag.c5 ?_;refine ag.dY ?_;refine ag.c5 ?_;obtain rfl:=ax h;exact cF (.f q q .nil)
  ·obtain ⟨gd,zk,h⟩:=aB h;refine W.bV [0,1,78] (bu q<|bu q<|d' (cw.go (.b2 (.lit q) (.b2 (.lit q) (.b2 (.k q) .nil))) (DR a0 ar ({ data:=#[47,47] }) _ zk) call124 q)<|au.a_) ?_;refine W.bJ h q (λrS h=>?_) (λrS h=>?_)
   ·refine W.a7 [0,7] ?_;refine W.bc<|W.bo ?_;obtain ⟨fG,ao,h⟩:=aB h;refine W.cj (G1:=[(0,_),(7,_)]) (fc q q) ?_;refine W.e4 (s:=ar) (λ(tB:Int)=>[(0,ah a0),(7,j tB)]) 5 (λ(fG:Int)=>[(7,j fG)]) ao (λtB o h=>?_) ?_
    ·clear ao;refine W.bc ?_;obtain ⟨yb,ab,h⟩:=aB h;refine W.rs [(0,ah a0),(7,j tB),(92,bk yb)] ?_ ?_
     ·refine bu q<|bu q<|ai (O.ma (.lit q) j7)<|ai (O.lss (.lit q) (.lit q))<|ai (O.aA (.lit q)) ?_;rcases cM ab with ⟨yS,ab⟩ | ⟨yS,ab⟩
      ·refine a' yS (O.aA (.lit q))<|a' yS (O.aA (.lit q)) ?_;obtain ⟨c3,wX,ab⟩:=aB ab;obtain rfl:=ax ab;exact au.a_
      ·obtain rfl:=ax ab;exact au.a_
     refine W.bJ h q (λQX h=>?_) (λQX h=>?_)
     ·refine W.bS<|ag.bb ?_;refine W.bo<|W.br [0,7] (bu q<|ai (O.add (.lit q) (.k q))<|au.br [0,94] q<|au.a_) ?_;refine ag.bo ?_;obtain rfl:=ax h;exact ag.go (fc q q)
     ·refine W.dj ?_;refine ag.di ?_;obtain rfl:=ax h;exact ag.aH (.n q .nil)
    refine ag.dk ?_;refine ag.bb<|W.a7 [4] ?_;refine W.rt ?_;refine ag.dY ?_;refine ag.c5 ?_;obtain rfl:=ax h;exact cF (.f q q .nil)
   ·obtain ⟨Ms,Sg,h⟩:=aB h;refine W.bV [0,1,96] (bu q<|bu q<|d' (cw.go (.b2 (.lit q) (.b2 (.lit q) (.b2 (.k q) .nil))) (DR a0 ar ({ data:=#[47,42] }) _ Sg) call124 q)<|au.a_) ?_;refine W.bJ h q (λQY h=>?_) (λQY h=>?_)
    ·refine W.bc<|W.a7 [0,8] ?_;refine W.bo ?_;obtain ⟨Mt,ao,h⟩:=aB h;refine W.cj (G1:=[(0,_),(8,_)]) (fc q q) ?_;refine W.jz (s:=aM (ar+2)) (λ(tC:Int)=>[(0,ah a0),(8,j tC)]) 7 (λ(Mu:Unit)=>[]) (λ(rj:Int)=>[(4,j rj)]) ao (λtC o h=>?_) (λMu J=>?_) (λrj J=>?_)
     ·clear ao;refine W.bc<|W.a7 [0,8,105] ?_;refine W.bJ h q (λQ0 h=>?_) (λQ0 h=>?_)
      ·refine W.bS<|ag.bb ?_;refine W.bc<|W.bo ?_;obtain ⟨AE,KH,h⟩:=aB h;refine W.bV [0,8,110] (bu q<|bu q<|d' (cw.go (.b2 (.lit q) (.b2 (.lit q) (.b2 (.k q) .nil))) (DR a0 tC ({ data:=#[42,47] }) _ KH) call124 q)<|bZ q) ?_;refine W.bJ h q (λER h=>?_) (λER h=>?_)
       ·refine W.a7 [4] ?_;refine W.rt ?_;refine ag.dY ?_;refine ag.c5 ?_;obtain rfl:=ax h;exact ag.fX (.n q .nil)
       ·refine W.bS<|ag.bo ?_;refine ag.bb<|W.br [0,8] (bu q<|ai (O.add (.lit q) (.k q))<|au.br [0,107] q<|au.a_) ?_;obtain rfl:=ax h;exact ag.go (fc q q)
      ·refine W.dj ?_;refine ag.di ?_;obtain rfl:=ax h;exact ag.x2 .nil
     ·subst J;refine ag.dk ?_;refine ag.bb<|W.a7 [4] ?_;refine W.rt ?_;refine ag.dY ?_;refine ag.c5 ?_;obtain rfl:=ax h;exact cF (.f q q .nil)
     ·subst J;refine ag.dY ?_;refine ag.c5 ?_;refine ag.dY ?_;refine ag.c5 ?_;obtain rfl:=ax h;exact cF (.f q q .nil)
    ·refine W.bS<|ag.bo ?_;refine ag.bb<|W.a7 [4] ?_;refine W.rt ?_;obtain rfl:=ax h;exact cF (.f q q .nil)
theorem Iz (a0:ByteArray) (ar:Int) (r:Int) (h:xk a0 ar=some r):cf Try.prog 119 [ah a0,j ar] [none,none] (j r):=by
 unfold xk at h;refine cf.go (N:=⟨53,[]⟩) Try.func119 q q q q (W.fin ?_);refine W.st [(0,ah a0),(1,j ar)] ?_;refine W.a7 [0,1] ?_;refine W.bc ?_;obtain ⟨c4,ab,h⟩:=aB h;refine W.rs [(0,ah a0),(1,j ar),(21,bk c4)] ?_ ?_
 ·refine bu q<|ai (O.lss (.lit q) (.k q))<|ai (O.aA (.lit q)) ?_;rcases cM ab with ⟨dh,ab⟩ | ⟨dh,ab⟩
  ·obtain rfl:=ax ab;exact au.a_
  ·refine a' dh (O.aA (.lit q))<|a' dh (O.aA (.lit q))<|a' dh (O.ma (.lit q) j7)<|a' dh (O.geq (.lit q) (.lit q))<|ai (O.cB (.lit q) dh (.lit q))<|ai (O.aA (.lit q)) ?_;rcases cM ab with ⟨cY,ab⟩ | ⟨cY,ab⟩
   ·obtain rfl:=ax ab;exact au.a_
   ·refine a' cY (O.aA (.lit q))<|a' cY (O.aA (.lit q)) ?_;obtain ⟨a6,h_,ab⟩:=aB ab;obtain rfl:=ax ab;exact au.a_
 refine W.bJ h q (λdN h=>?_) (λdN h=>?_)
 ·refine W.a7 [4] ?_;refine W.rt ?_;refine ag.c5 ?_;obtain rfl:=ax h;exact cF (.f q q .nil)
 ·refine W.bS<|ag.bb ?_;refine W.a7 [0,1,5] ?_;refine W.bc<|W.a7 [0,5,6] ?_;refine W.bo ?_;obtain ⟨bj,ao,h⟩:=aB h;refine W.cj (G1:=[(0,_),(5,_),(6,_)]) (dH q q q) ?_;refine W.jz (s:=(0,ar)) (λ(cW:Int × Int)=>[(0,ah a0),(5,j cW.1),(6,j cW.2)]) 0 (λ(b4:Unit)=>[]) (λ(cu:Int)=>[(4,j cu)]) ao (λcW o h=>?_) (λb4 J=>?_) (λcu J=>?_)
  ·clear ao;refine W.bc<|W.a7 [0,5,6,26] ?_;refine W.bJ h q (λej h=>?_) (λej h=>?_)
   ·refine W.bS<|ag.bb ?_;refine W.bo ?_;obtain ⟨cy,h9,h⟩:=aB h;refine W.bV [0,5,6,7] (bu q<|bu q<|d' (cw.go (.b2 (.lit q) (.b2 (.lit q) .nil)) (Ou a0 cW.2 _ h9) call123 q)<|au.a_) ?_;refine W.bc<|W.a7 [0,5,6,7,31] ?_;refine W.bJ h q (λet h=>?_) (λet h=>?_)
    ·refine W.a7 [4] ?_;refine W.rt ?_;refine ag.c5 ?_;refine ag.dY ?_;obtain rfl:=ax h;exact ag.fX (.n q .nil)
    ·refine W.bS<|ag.bb ?_;refine W.bc<|W.a7 [0,5,6,7,34] ?_;refine W.bJ h q (λkf h=>?_) (λkf h=>?_)
     ·refine W.bV [0,5,6] (bu q<|au.br [0,5,35] q<|au.a_) ?_;refine W.dj ?_;refine ag.di ?_;refine ag.dk ?_;obtain rfl:=ax h;exact ag.go (dH q q q)
     ·refine W.bS<|ag.bb ?_;refine W.bc ?_;obtain ⟨dS,kG,h⟩:=aB h;refine W.a7 [0,5,6,39] ?_;obtain ⟨pw,ab,h⟩:=aB h;refine W.bH [(0,ah a0),(5,j pw),(6,j cW.2)] ?_ ?_
      ·clear h; have h:=ab; clear ab;refine W.bJ h q (λiP h=>?_) (λiP h=>?_)
       ·refine W.br [0,5,6] (bu q<|ai (O.add (.lit q) (.k q))<|au.br [0,6,41] q<|au.a_) ?_;obtain rfl:=ax h;exact ag.bH (dH q q q)
       ·refine W.bS ?_;obtain rfl:=ax h;exact ag.bH (dH q q q)
      refine ag.bb<|W.bc ?_;obtain ⟨b7,ji,h⟩:=aB h;refine W.a7 [0,5,6,45] ?_;obtain ⟨Co,ab,h⟩:=aB h;refine W.bH [(0,ah a0),(5,j Co),(6,j cW.2)] ?_ ?_
      ·clear h; have h:=ab; clear ab;refine W.bJ h q (λhT h=>?_) (λhT h=>?_)
       ·refine W.br [0,5,6] (bu q<|ai (O.sub (.lit q) (.k q))<|au.br [0,6,47] q<|au.a_) ?_;obtain rfl:=ax h;exact ag.bH (dH q q q)
       ·refine W.bS ?_;obtain rfl:=ax h;exact ag.bH (dH q q q)
      refine ag.bb<|W.bV [0,5,6] (bu q<|ai (O.add (.lit q) (.k q))<|au.br [0,5,49] q<|au.a_) ?_;refine W.a7 [0,5,6,51] ?_;refine W.bJ h q (λgB h=>?_) (λgB h=>?_)
      ·refine W.a7 [4] ?_;refine W.rt ?_;refine ag.dY ?_;obtain rfl:=ax h;exact ag.fX (.n q .nil)
      ·refine W.bS<|ag.bo ?_;obtain rfl:=ax h;exact ag.go (dH q q q)
   ·refine W.dj ?_;refine ag.di ?_;obtain rfl:=ax h;exact ag.x2 .nil
  ·subst J;refine ag.dk ?_;refine ag.bb<|W.a7 [4] ?_;refine W.rt ?_;obtain rfl:=ax h;exact cF (.f q q .nil)
  ·subst J;refine ag.dY ?_;refine ag.c5 ?_;obtain rfl:=ax h;exact cF (.f q q .nil)
theorem Ol (a0:Alt) (r:Bool) (h:q1 a0=some r):cf Try.prog 112 [.agg (eD.cells a0)] [none] (bk r):=by
 unfold q1 at h;refine cf.go (N:=⟨54,[]⟩) Try.func112 q q q q (W.fin ?_);refine W.st [(0,.agg (eD.cells a0))] ?_;refine W.bV [1] (ai (O.box (.ck q q) q)<|au.a_) ?_;refine W.bc<|W.a7 [1,3] ?_;refine W.bo ?_;obtain ⟨x2,ao,h⟩:=aB h;refine W.cj (G1:=[(1,_),(3,_)]) (fc q q) ?_;refine W.jz (s:=0) (λ(s1:Int)=>[(1,.obj (eD.cells a0)),(3,j s1)]) 0 (λ(a6:Unit)=>[(1,.obj (eD.cells a0))]) (λ(bX:Bool)=>[(2,bk bX)]) ao (λs1 o h=>?_) (λa6 J=>?_) (λbX J=>?_)
 ·clear ao;refine W.bc<|W.a7 [1,3,9] ?_;refine W.bJ h q (λdN h=>?_) (λdN h=>?_)
  ·refine W.bS<|ag.bb ?_;refine W.bc<|W.bo ?_;obtain ⟨bF,fM,h⟩:=aB h;refine W.bV [1,3,4] (ai (O.bm q (.obj q) Eb q)<|ai (O.dz (y:=aj lu a0.jr) q (.ptr q) DZ q q)<|bu q<|ai (O.cQ (.aD q) (.lit q) As fM)<|ai (O.iW (cs':=[ah bF.Sym.Name,bk bF.Sym.Lit,j bF.Sym.c_,j bF.Sym.At,ah bF.Code,j bF.At]) (.bs q) A7 q q)<|ai (O.e8 (cs:=[ah aQ,bk false,j 0,j 0,ah aQ,j 0]) xN q q)<|au.dQ (G2:=[(1,_),(3,_),(4,_)]) (cs2:=[ah bF.Sym.Name,bk bF.Sym.Lit,j bF.Sym.c_,j bF.Sym.At,ah bF.Code,j bF.At]) q (.obj q) (.ck q q) q G7 q q q q (.n q q (.n q q (.b q .nil)))<|bZ q) ?_;refine W.bc ?_;obtain ⟨pQ,ab,h⟩:=aB h;refine W.rd [[],[0],[0,1],[0,1,2],[0,1,2,3],aT 0 5 [],aT 0 6 [],aT 0 7 [],aT 0 8 [],aT 0 9 [],aT 0 10 [],aT 0 11 [],aT 0 12 [],aT 0 13 [],aT 0 14 [],aT 0 15 [],aT 0 16 [],aT 0 17 [],aT 0 18 [],aT 0 19 [],aT 0 20 [],aT 0 21 [],aT 0 19 [],aT 0 19 [22],aT 0 19 [22,23],aT 0 25 [],aT 0 26 [],aT 0 27 [],aT 0 28 []] [(1,.obj (eD.cells a0)),(3,j s1),(45,bk pQ)] eY (by kernel_rfl) ?_ ?_
   ·refine aw 0 (O.bm q (.obj q) qQ q)<|aw 1 (O.cA q (.ptr q) eP q)<|aw 2 (O.ou (.lit q) (.k q))<|aw 3 (O.aA (.lit q)) ?_;rcases cM ab with ⟨cP,ab⟩ | ⟨cP,ab⟩
    ·refine bG 4 cP (O.bm q (.obj q) yz q)<|bG 5 cP (O.dP (cs':=[ah bF.Sym.Name,bk bF.Sym.Lit,j bF.Sym.c_,j bF.Sym.At]) q (.ptr q) mH q q) ?_;obtain ⟨b4,iB,ab⟩:=aB ab;refine b1.c 6 (cw.go (.b2 (.ck q q) (.b2 (.k q) (.b2 (.k q) .nil))) (DP bF.Sym false true _ iB) call116 q) q q q q (.jA q q cP)<|bG 7 cP (O.not (.lit q))<|aw 8 (O.eQ (.lit q) cP (.lit q))<|aw 9 (O.aA (.lit q)) ?_;rcases cM ab with ⟨ek,ab⟩ | ⟨ek,ab⟩
     ·obtain rfl:=ax ab;exact aI 10 ek<|aI 11 ek<|aI 12 ek<|aI 13 ek<|fl 14<|fl 15<|fl 16<|fl 17<|fl 18<|fl 19<|fl 20<|fl 21<|fl 22<|fl 23<|fl 24<|fl 25<|fl 26<|aI 27 ek<|aw 28 (O.eQ (.lit q) ek (.k q))<|b1.fin q q q (dH q q q)
     ·refine bG 10 ek (O.bm q (.obj q) qQ q)<|bG 11 ek (O.cA q (.ptr q) eP q)<|bG 12 ek (O.lH (.lit q) (.k q))<|bG 13 ek (O.aA (.lit q)) ?_;rcases cM ab with ⟨ej,ab⟩ | ⟨ej,ab⟩
      ·refine bG 14 ej (O.bm q (.obj q) yz q)<|bG 15 ej (O.dP (cs':=[ah bF.Sym.Name,bk bF.Sym.Lit,j bF.Sym.c_,j bF.Sym.At]) q (.ptr q) mH q q) ?_;obtain ⟨cy,h9,ab⟩:=aB ab;refine b1.c 16 (cw.go (.b2 (.ck q q) .nil) (DQ bF.Sym _ h9) call118 q) q q q q (.jA q q ej)<|bG 17 ej (O.not (.lit q))<|bG 18 ej (O.aA (.lit q)) ?_;rcases cM ab with ⟨et,ab⟩ | ⟨et,ab⟩
       ·obtain rfl:=ax ab;exact aI 19 et<|aI 20 et<|aI 21 et<|aI 22 et<|aI 23 et<|aI 24 et<|aI 25 et<|bG 26 ej (O.eQ (.lit q) et (.k q))<|bG 27 ek (O.eQ (.lit q) ej (.lit q))<|aw 28 (O.cB (.lit q) ek (.lit q))<|b1.fin q q q (dH q q q)
       ·refine bG 19 et (O.bm q (.obj q) qQ q)<|bG 20 et (O.cA q (.ptr q) eP q) ?_;obtain ⟨dG,jy,ab⟩:=aB ab;obtain rfl:=ax ab;exact b1.c 21 (cw.go (.b2 (.lit q) (.b2 (.k q) .nil)) (Iz bF.Code 0 _ jy) call119 q) q q q q (.jA q q et)<|bG 22 et (O.bm q (.obj q) qQ q)<|bG 23 et (O.cA q (.ptr q) eP q)<|bG 24 et (O.ma (.lit q) j7)<|bG 25 et (O.neq (.lit q) (.lit q))<|bG 26 ej (O.cB (.lit q) et (.lit q))<|bG 27 ek (O.eQ (.lit q) ej (.lit q))<|aw 28 (O.cB (.lit q) ek (.lit q))<|b1.fin q q q (dH q q q)
      ·obtain rfl:=ax ab;exact aI 14 ej<|aI 15 ej<|aI 16 ej<|aI 17 ej<|aI 18 ej<|fl 19<|fl 20<|fl 21<|fl 22<|fl 23<|fl 24<|fl 25<|aI 26 ej<|bG 27 ek (O.cB (.lit q) ej (.k q))<|aw 28 (O.cB (.lit q) ek (.lit q))<|b1.fin q q q (dH q q q)
    ·refine aI 4 cP<|aI 5 cP<|aI 6 cP<|aI 7 cP<|aw 8 (O.cB (.lit q) cP (.k q))<|aw 9 (O.aA (.lit q))<|bG 10 q (O.bm q (.obj q) qQ q)<|bG 11 q (O.cA q (.ptr q) eP q)<|bG 12 q (O.lH (.lit q) (.k q))<|bG 13 q (O.aA (.lit q)) ?_;rcases cM ab with ⟨ey,ab⟩ | ⟨ey,ab⟩
     ·refine bG 14 ey (O.bm q (.obj q) yz q)<|bG 15 ey (O.dP (cs':=[ah bF.Sym.Name,bk bF.Sym.Lit,j bF.Sym.c_,j bF.Sym.At]) q (.ptr q) mH q q) ?_;obtain ⟨eg,kH,ab⟩:=aB ab;refine b1.c 16 (cw.go (.b2 (.ck q q) .nil) (DQ bF.Sym _ kH) call118 q) q q q q (.jA q q ey)<|bG 17 ey (O.not (.lit q))<|bG 18 ey (O.aA (.lit q)) ?_;rcases cM ab with ⟨iP,ab⟩ | ⟨iP,ab⟩
      ·obtain rfl:=ax ab;exact aI 19 iP<|aI 20 iP<|aI 21 iP<|aI 22 iP<|aI 23 iP<|aI 24 iP<|aI 25 iP<|bG 26 ey (O.eQ (.lit q) iP (.k q))<|bG 27 q (O.eQ (.lit q) ey (.lit q))<|aw 28 (O.cB (.lit q) q (.lit q))<|b1.fin q q q (dH q q q)
      ·refine bG 19 iP (O.bm q (.obj q) qQ q)<|bG 20 iP (O.cA q (.ptr q) eP q) ?_;obtain ⟨b7,ji,ab⟩:=aB ab;obtain rfl:=ax ab;exact b1.c 21 (cw.go (.b2 (.lit q) (.b2 (.k q) .nil)) (Iz bF.Code 0 _ ji) call119 q) q q q q (.jA q q iP)<|bG 22 iP (O.bm q (.obj q) qQ q)<|bG 23 iP (O.cA q (.ptr q) eP q)<|bG 24 iP (O.ma (.lit q) j7)<|bG 25 iP (O.neq (.lit q) (.lit q))<|bG 26 ey (O.cB (.lit q) iP (.lit q))<|bG 27 q (O.eQ (.lit q) ey (.lit q))<|aw 28 (O.cB (.lit q) q (.lit q))<|b1.fin q q q (dH q q q)
     ·obtain rfl:=ax ab;exact aI 14 ey<|aI 15 ey<|aI 16 ey<|aI 17 ey<|aI 18 ey<|fl 19<|fl 20<|fl 21<|fl 22<|fl 23<|fl 24<|fl 25<|aI 26 ey<|bG 27 q (O.cB (.lit q) ey (.k q))<|aw 28 (O.cB (.lit q) q (.lit q))<|b1.fin q q q (dH q q q)
   refine ag.bb<|W.bJ h q (λhT h=>?_) (λhT h=>?_)
   ·refine W.a7 [2] ?_;refine W.rt ?_;refine ag.dY ?_;refine ag.c5 ?_;obtain rfl:=ax h;exact ag.fX (.n q .nil)
   ·refine W.bS<|ag.bo ?_;refine ag.bb<|W.br [1,3] (bu q<|ai (O.add (.lit q) (.k q))<|au.br [1,11] q<|au.a_) ?_;obtain rfl:=ax h;exact ag.go (fc q q)
  ·refine W.dj ?_;refine ag.di ?_;obtain rfl:=ax h;exact ag.x2 (.n q .nil)
 ·subst J;refine ag.dk ?_;refine ag.bb ?_;obtain ⟨Bc,ab,h⟩:=aB h;refine W.rs [(2,bk Bc)] ?_ ?_
  ·refine ai (O.bm q (.obj q) sN q)<|ai (O.dP (cs':=[ah a0.Prec.Name,bk a0.Prec.Lit,j a0.Prec.c_,j a0.Prec.At]) q (.ptr q) mH q q) ?_;obtain ⟨eZ,uQ,ab⟩:=aB ab;refine d' (cw.go (.b2 (.ck q q) .nil) (DQ a0.Prec _ uQ) call118 q)<|ai (O.aA (.lit q)) ?_;rcases cM ab with ⟨jd,ab⟩ | ⟨jd,ab⟩
   ·obtain rfl:=ax ab;exact au.a_
   ·refine a' jd (O.bm q (.obj q) sN q)<|a' jd (O.dP (cs':=[ah a0.Prec.Name,bk a0.Prec.Lit,j a0.Prec.c_,j a0.Prec.At]) q (.ptr q) mH q q) ?_;obtain ⟨gQ,oI,ab⟩:=aB ab;obtain rfl:=ax ab;exact au.c (cw.go (.b2 (.ck q q) (.b2 (.k q) (.b2 (.k q) .nil))) (DP a0.Prec false true _ oI) call116 q) q q (.jA q q jd)<|au.a_
  refine W.rt ?_;obtain rfl:=ax h;exact cF (.f q q .nil)
 ·subst J;refine ag.dY ?_;refine ag.c5 ?_;obtain rfl:=ax h;exact cF (.f q q .nil)
theorem OX (a0:Source) (r:Bool) (h:vl a0=some r):cf Try.prog 92 [.agg (dT.cells a0)] [none] (bk r):=by
 unfold vl at h;refine cf.go (N:=⟨77,[]⟩) Try.func92 q q q q (W.fin ?_);refine W.st [(0,.agg (dT.cells a0))] ?_;refine W.bV [1] (ai (O.box (.ck q q) q)<|au.a_) ?_;refine W.bc<|W.a7 [1,3] ?_;refine W.bo ?_;obtain ⟨x2,ao,h⟩:=aB h;refine W.cj (G1:=[(1,_),(3,_)]) (fc q q) ?_;refine W.jz (s:=0) (λ(s1:Int)=>[(1,.obj (dT.cells a0)),(3,j s1)]) 0 (λ(a6:Unit)=>[(1,.obj (dT.cells a0))]) (λ(bX:Bool)=>[(2,bk bX)]) ao (λs1 o h=>?_) (λa6 J=>?_) (λbX J=>?_)
 ·clear ao;refine W.bc<|W.a7 [1,3,13] ?_;refine W.bJ h q (λdN h=>?_) (λdN h=>?_)
  ·refine W.bS<|ag.bb ?_;refine W.bc<|W.bo ?_;obtain ⟨bF,fM,h⟩:=aB h;refine W.bV [1,3,22] (ai (O.bm q (.obj q) D_ q)<|ai (O.cA q (.ptr q) eP q)<|bu q<|bu q<|ai (O.add (.lit q) (.k q))<|ai (O.Ap (.lit q) (.lit q) (.lit q) j7 fM)<|au.a_) ?_;refine W.bJ h q (λcP h=>?_) (λcP h=>?_)
   ·refine W.a7 [2] ?_;refine W.rt ?_;refine ag.dY ?_;refine ag.c5 ?_;obtain rfl:=ax h;exact ag.fX (.n q .nil)
   ·refine W.bS<|ag.bo ?_;refine ag.bb<|W.br [1,3] (bu q<|ai (O.add (.lit q) (.k q))<|au.br [1,15] q<|au.a_) ?_;obtain rfl:=ax h;exact ag.go (fc q q)
  ·refine W.dj ?_;refine ag.di ?_;obtain rfl:=ax h;exact ag.x2 (.n q .nil)
 ·subst J;refine ag.dk ?_;refine ag.bb<|W.bc ?_;refine W.a7 [1,4] ?_;refine W.bo ?_;obtain ⟨cu,ao,h⟩:=aB h;refine W.cj (G1:=[(1,_),(4,_)]) (fc q q) ?_;refine W.jz (s:=0) (λ(cJ:Int)=>[(1,.obj (dT.cells a0)),(4,j cJ)]) 2 (λ(bQ:Unit)=>[(1,.obj (dT.cells a0))]) (λ(cy:Bool)=>[(2,bk cy)]) ao (λcJ o h=>?_) (λbQ J=>?_) (λcy J=>?_)
  ·clear ao;refine W.bc<|W.a7 [1,4,27] ?_;refine W.bJ h q (λet h=>?_) (λet h=>?_)
   ·refine W.bS<|ag.bb ?_;refine W.bc<|W.bo ?_;obtain ⟨dG,jy,h⟩:=aB h;obtain ⟨dS,kG,h⟩:=aB h;refine W.bV [1,4,36] (ai (O.bm q (.obj q) sM q)<|ai (O.dz (y:=aj dJ a0.Decls) q (.ptr q) wq q q)<|bu q<|ai (O.cQ (.aD q) (.lit q) xB jy)<|ai (O.iW (cs':=[j dG.Kind,ah dG.Tag,aj dF dG.fh,j dG.At]) (.bs q) Dv q q)<|d' (cw.go (.b2 (.ck q q) .nil) (Oj dG _ kG) call110 q)<|au.a_) ?_;refine W.bJ h q (λp1 h=>?_) (λp1 h=>?_)
    ·refine W.a7 [2] ?_;refine W.rt ?_;refine ag.dY ?_;refine ag.c5 ?_;obtain rfl:=ax h;exact ag.fX (.n q .nil)
    ·refine W.bS<|ag.bo ?_;refine ag.bb<|W.br [1,4] (bu q<|ai (O.add (.lit q) (.k q))<|au.br [1,29] q<|au.a_) ?_;obtain rfl:=ax h;exact ag.go (fc q q)
   ·refine W.dj ?_;refine ag.di ?_;obtain rfl:=ax h;exact ag.x2 (.n q .nil)
  ·subst J;refine ag.dk ?_;refine ag.bb<|W.bc ?_;refine W.a7 [1,5] ?_;refine W.bo ?_;obtain ⟨b7,ao,h⟩:=aB h;refine W.cj (G1:=[(1,_),(5,_)]) (fc q q) ?_;refine W.jz (s:=0) (λ(lJ:Int)=>[(1,.obj (dT.cells a0)),(5,j lJ)]) 4 (λ(ff:Unit)=>[(1,.obj (dT.cells a0))]) (λ(gL:Bool)=>[(2,bk gL)]) ao (λlJ o h=>?_) (λff J=>?_) (λgL J=>?_)
   ·clear ao;refine W.bc<|W.a7 [1,5,41] ?_;refine W.bJ h q (λgB h=>?_) (λgB h=>?_)
    ·refine W.bS<|ag.bb ?_;refine W.bc<|W.bo ?_;obtain ⟨fP,nV,h⟩:=aB h;refine W.bV [1,5,6] (ai (O.bm q (.obj q) ur q)<|ai (O.dz (y:=aj hj a0.e1) q (.ptr q) wu q q)<|bu q<|ai (O.cQ (.aD q) (.lit q) vv nV)<|ai (O.iW (cs':=[ah fP.Left,aj eD fP.gZ,j fP.At]) (.bs q) Dw q q)<|ai (O.e8 (cs:=[ah aQ,.aO,j 0]) Dc q q)<|au.dQ (G2:=[(1,_),(5,_),(6,_)]) (cs2:=[ah fP.Left,aj eD fP.gZ,j fP.At]) q (.obj q) (.ck q q) q G8 q q q q (.n q q (.n q q (.b q .nil)))<|bZ q) ?_;refine W.bc ?_;obtain ⟨wj,ab,h⟩:=aB h;refine W.rs [(1,.obj (dT.cells a0)),(5,j lJ),(6,.obj (hj.cells fP)),(58,bk wj)] ?_ ?_
     ·refine ai (O.bm q (.obj q) sO q)<|ai (O.cA q (.ptr q) eP q) ?_;obtain ⟨gQ,oI,ab⟩:=aB ab;refine d' (cw.go (.b2 (.lit q) .nil) (Bk fP.Left _ oI) call111 q)<|ai (O.not (.lit q))<|ai (O.aA (.lit q)) ?_;rcases cM ab with ⟨ij,ab⟩ | ⟨ij,ab⟩
      ·obtain rfl:=ax ab;exact au.a_
      ·obtain rfl:=ax ab;exact au.a_
     refine W.bJ h q (λiQ h=>?_) (λiQ h=>?_)
     ·refine W.a7 [2] ?_;refine W.rt ?_;refine ag.c5 ?_;refine ag.dY ?_;refine ag.c5 ?_;obtain rfl:=ax h;exact ag.fX (.n q .nil)
     ·refine W.bS<|ag.bb ?_;refine W.a7 [1,5,6,7] ?_;refine W.bo ?_;obtain ⟨fB,ao,h⟩:=aB h;refine W.cj (G1:=[(1,_),(5,_),(6,_),(7,_)]) (dA q q q q) ?_;refine W.jz (s:=0) (λ(q8:Int)=>[(1,.obj (dT.cells a0)),(5,j lJ),(6,.obj (hj.cells fP)),(7,j q8)]) 6 (λ(cU:Unit)=>[(1,.obj (dT.cells a0)),(5,j lJ)]) (λ(eB:Bool)=>[(2,bk eB)]) ao (λq8 o h=>?_) (λcU J=>?_) (λeB J=>?_)
      ·clear ao;refine W.bc<|W.a7 [1,5,6,7,63] ?_;refine W.bJ h q (λyR h=>?_) (λyR h=>?_)
       ·refine W.bS<|ag.bb ?_;refine W.bc<|W.bo ?_;obtain ⟨lg,oL,h⟩:=aB h;obtain ⟨gd,zk,h⟩:=aB h;refine W.bV [1,5,6,7,72] (ai (O.bm q (.obj q) yA q)<|ai (O.dz (y:=aj eD fP.gZ) q (.ptr q) Br q q)<|bu q<|ai (O.cQ (.aD q) (.lit q) Au oL)<|ai (O.iW (cs':=[aj lu lg.jr,ah lg.Prec.Name,bk lg.Prec.Lit,j lg.Prec.c_,j lg.Prec.At,j lg.At]) (.bs q) H4 q q)<|d' (cw.go (.b2 (.ck q q) .nil) (Ol lg _ zk) call112 q)<|au.a_) ?_;refine W.bJ h q (λrS h=>?_) (λrS h=>?_)
        ·refine W.a7 [2] ?_;refine W.rt ?_;refine ag.dY ?_;refine ag.c5 ?_;obtain rfl:=ax h;exact ag.fX (.n q .nil)
        ·refine W.bS<|ag.bo ?_;refine ag.bb<|W.br [1,5,6,7] (bu q<|ai (O.add (.lit q) (.k q))<|au.br [1,5,6,65] q<|au.a_) ?_;obtain rfl:=ax h;exact ag.go (dA q q q q)
       ·refine W.dj ?_;refine ag.di ?_;obtain rfl:=ax h;exact ag.x2 (fc q q)
      ·subst J;refine ag.dk ?_;refine ag.bo ?_;refine ag.bb<|W.br [1,5] (bu q<|ai (O.add (.lit q) (.k q))<|au.br [1,43] q<|au.a_) ?_;obtain rfl:=ax h;exact ag.go (fc q q)
      ·subst J;refine ag.dY ?_;refine ag.dY ?_;refine ag.c5 ?_;obtain rfl:=ax h;exact ag.fX (.n q .nil)
    ·refine W.dj ?_;refine ag.di ?_;obtain rfl:=ax h;exact ag.x2 (.n q .nil)
   ·subst J;refine ag.dk ?_;refine ag.bb<|W.a7 [2] ?_;refine W.rt ?_;obtain rfl:=ax h;exact cF (.f q q .nil)
   ·subst J;refine ag.dY ?_;refine ag.c5 ?_;obtain rfl:=ax h;exact cF (.f q q .nil)
  ·subst J;refine ag.dY ?_;refine ag.c5 ?_;obtain rfl:=ax h;exact cF (.f q q .nil)
 ·subst J;refine ag.dY ?_;refine ag.c5 ?_;obtain rfl:=ax h;exact cF (.f q q .nil)
theorem ue (a0:cC) (ar:Int) (a2:ByteArray) (r:cC) (h:mR a0 ar a2=some r):cf Try.prog 94 [.obj (dR.cells a0),j ar,ah a2] [some (.obj [al bl r.aq.aX,al a1 r.aq.bt,al bD r.aq.aW,ah r.aq.bw,ah r.aq.bz,al b0 r.bT,al a1 r.bN,al cp r.bA,j r.b',j r.cb,ah r.ca,j r.bO,j r.bx]),none,none] (.cr []):=by
 unfold mR at h;refine cf.go (N:=⟨22,[0]⟩) Try.func94 q q q q (W.fin ?_);refine W.st [(0,.obj (dR.cells a0)),(1,j ar),(2,ah a2)] ?_;refine W.a7 [0,1,2,10] ?_;obtain ⟨hN,ab,h⟩:=aB h;refine W.bH [(0,.obj (dR.cells hN))] ?_ ?_
 ·clear h; have h:=ab; clear ab;refine W.bJ h q (λcY h=>?_) (λcY h=>?_)
  ·refine W.br [0] (ai (O.aA (.obj q))<|ai (O.aA (.obj q))<|ai (O.aA (.obj q))<|bu q<|bu q<|ai (O.eJ (.ptr q))<|ai (O.bm q (.ptr q) yt q)<|au.dQ (G2:=[(0,_),(12,.ptr ⟨0,[]⟩ 0),(13,.ptr ⟨0,[]⟩ 0),(14,_),(15,_)]) (cs2:=[al bl a0.aq.aX,al a1 a0.aq.bt,al bD a0.aq.aW,ah a0.aq.bw,ah a0.aq.bz,al b0 a0.bT,al a1 a0.bN,al cp a0.bA,j 3,j a0.cb,ah a0.ca,j a0.bO,j a0.bx]) q (.ptr q) (.k q) q mV q q q q (.b q (.p q q q q q q (.p q q q q q q (.n q q (.n q q .nil)))))<|ai (O.eJ (.ptr q))<|ai (O.bm q (.ptr q) yu q)<|au.dQ (G2:=[(0,_),(13,.ptr ⟨0,[]⟩ 0),(15,_)]) (cs2:=[al bl a0.aq.aX,al a1 a0.aq.bt,al bD a0.aq.aW,ah a0.aq.bw,ah a0.aq.bz,al b0 a0.bT,al a1 a0.bN,al cp a0.bA,j 3,j ar,ah a0.ca,j a0.bO,j a0.bx]) q (.ptr q) (.lit q) q mV q q q q (.b q (.p q q q q q q (.n q q .nil)))<|ai (O.eJ (.ptr q))<|ai (O.bm q (.ptr q) yv q)<|au.dQ (G2:=[(0,_)]) (cs2:=[al bl a0.aq.aX,al a1 a0.aq.bt,al bD a0.aq.aW,ah a0.aq.bw,ah a0.aq.bz,al b0 a0.bT,al a1 a0.bN,al cp a0.bA,j 3,j ar,ah a2,j a0.bO,j a0.bx]) q (.ptr q) (.lit q) q vz q q q q (.b q .nil)<|bZ q) ?_;obtain rfl:=ax h;exact ag.bH (.n q .nil)
  ·refine W.bS ?_;obtain rfl:=ax h;exact ag.bH (.n q .nil)
 obtain rfl:=ax h;exact ag.fin (Fin.ro .nil q (oU (by kernel_rfl)) (.az q q (.no (.no .nil))) q (.inl q))
theorem IH (a0:cC) (ar:ByteArray) (r:Int) (h:xv a0 ar=some r):cf Try.prog 98 [.bs ([aj bl a0.aq.aX,aj a1 a0.aq.bt,aj bD a0.aq.aW,ah a0.aq.bw,ah a0.aq.bz,aj b0 a0.bT,aj a1 a0.bN,aj cp a0.bA,j a0.b',j a0.cb,ah a0.ca,j a0.bO,j a0.bx]),ah ar] [none,none] (j r):=by
 unfold xv at h;refine cf.go (N:=⟨26,[]⟩) Try.func98 q q q q (W.fin ?_);refine W.st [(0,.bs ([aj bl a0.aq.aX,aj a1 a0.aq.bt,aj bD a0.aq.aW,ah a0.aq.bw,ah a0.aq.bz,aj b0 a0.bT,aj a1 a0.bN,aj cp a0.bA,j a0.b',j a0.cb,ah a0.ca,j a0.bO,j a0.bx])),(1,ah ar)] ?_;refine W.a7 [0,1] ?_;refine W.bc<|W.a7 [0,1,5] ?_;refine W.bo ?_;obtain ⟨x2,ao,h⟩:=aB h;refine W.cj (G1:=[(0,_),(1,_),(5,_)]) (dH q q q) ?_;refine W.jz (s:=0) (λ(s1:Int)=>[(0,.bs ([aj bl a0.aq.aX,aj a1 a0.aq.bt,aj bD a0.aq.aW,ah a0.aq.bw,ah a0.aq.bz,aj b0 a0.bT,aj a1 a0.bN,aj cp a0.bA,j a0.b',j a0.cb,ah a0.ca,j a0.bO,j a0.bx])),(1,ah ar),(5,j s1)]) 0 (λ(a6:Unit)=>[]) (λ(bX:Int)=>[(4,j bX)]) ao (λs1 o h=>?_) (λa6 J=>?_) (λbX J=>?_)
 ·clear ao;refine W.bc<|W.a7 [0,1,5,12] ?_;refine W.bJ h q (λdN h=>?_) (λdN h=>?_)
  ·refine W.bS<|ag.bb ?_;refine W.bc<|W.bo ?_;obtain ⟨bF,fM,h⟩:=aB h;refine W.a7 [0,1,5,24] ?_;refine W.bJ h q (λcP h=>?_) (λcP h=>?_)
   ·refine W.a7 [4] ?_;refine W.rt ?_;refine ag.dY ?_;refine ag.c5 ?_;obtain rfl:=ax h;exact ag.fX (.n q .nil)
   ·refine W.bS<|ag.bo ?_;refine ag.bb<|W.br [0,1,5] (bu q<|ai (O.add (.lit q) (.k q))<|au.br [0,1,14] q<|au.a_) ?_;obtain rfl:=ax h;exact ag.go (dH q q q)
  ·refine W.dj ?_;refine ag.di ?_;obtain rfl:=ax h;exact ag.x2 .nil
 ·subst J;refine ag.dk ?_;refine ag.bb<|W.a7 [4] ?_;refine W.rt ?_;obtain rfl:=ax h;exact cF (.f q q .nil)
 ·subst J;refine ag.dY ?_;refine ag.c5 ?_;obtain rfl:=ax h;exact cF (.f q q .nil)
theorem DW (a0:cC) (ar:Sym) (r:Int) (h:r_ a0 ar=some r):cf Try.prog 95 [.bs ([aj bl a0.aq.aX,aj a1 a0.aq.bt,aj bD a0.aq.aW,ah a0.aq.bw,ah a0.aq.bz,aj b0 a0.bT,aj a1 a0.bN,aj cp a0.bA,j a0.b',j a0.cb,ah a0.ca,j a0.bO,j a0.bx]),.agg (dF.cells ar)] [none,none] (j r):=by
 unfold r_ at h;refine cf.go (N:=⟨47,[]⟩) Try.func95 q q q q (W.fin ?_);refine W.st [(0,.bs ([aj bl a0.aq.aX,aj a1 a0.aq.bt,aj bD a0.aq.aW,ah a0.aq.bw,ah a0.aq.bz,aj b0 a0.bT,aj a1 a0.bN,aj cp a0.bA,j a0.b',j a0.cb,ah a0.ca,j a0.bO,j a0.bx])),(1,.agg (dF.cells ar))] ?_;refine W.bV [0,3] (ai (O.box (.ck q q) q)<|au.a_) ?_;refine W.bc<|W.a7 [0,3,5] ?_;refine W.bo ?_;obtain ⟨x2,ao,h⟩:=aB h;refine W.cj (G1:=[(0,_),(3,_),(5,_)]) (dH q q q) ?_;refine W.jz (s:=1) (λ(s1:Int)=>[(0,.bs ([aj bl a0.aq.aX,aj a1 a0.aq.bt,aj bD a0.aq.aW,ah a0.aq.bw,ah a0.aq.bz,aj b0 a0.bT,aj a1 a0.bN,aj cp a0.bA,j a0.b',j a0.cb,ah a0.ca,j a0.bO,j a0.bx])),(3,.obj (dF.cells ar)),(5,j s1)]) 0 (λ(a6:Unit)=>[]) (λ(bX:Int)=>[(4,j bX)]) ao (λs1 o h=>?_) (λa6 J=>?_) (λbX J=>?_)
 ·clear ao;refine W.bc<|W.a7 [0,3,5,13] ?_;refine W.bJ h q (λdN h=>?_) (λdN h=>?_)
  ·refine W.bS<|ag.bb ?_;refine W.bc<|W.bo ?_;refine W.bc ?_;obtain ⟨ja,ab,h⟩:=aB h;refine W.rd [[],[0],[0,1],[0,1,2],[0,1,2,3],[],aT 0 6 [],aT 0 7 [],aT 0 8 [],[],[9],aT 0 11 [],aT 0 12 [],aT 0 13 [],aT 0 14 [],aT 0 15 [],aT 0 16 [],aT 0 17 [],aT 0 13 [],aT 0 19 [],aT 0 20 [],aT 0 21 [],aT 0 13 [],aT 0 13 [22],aT 0 24 [],aT 0 25 [],aT 0 26 [],aT 0 27 [],aT 0 28 [],aT 0 29 []] [(0,.bs ([aj bl a0.aq.aX,aj a1 a0.aq.bt,aj bD a0.aq.aW,ah a0.aq.bw,ah a0.aq.bz,aj b0 a0.bT,aj a1 a0.bN,aj cp a0.bA,j a0.b',j a0.cb,ah a0.ca,j a0.bO,j a0.bx])),(3,.obj (dF.cells ar)),(5,j s1),(45,bk ja)] eY (by kernel_rfl) ?_ ?_
   ·refine aw 0 (O.aA (.bs q))<|aw 1 (O.zF (.bs q))<|aw 2 (O.e2 (.bs q) j2)<|aw 3 (O.e2 (.bs q) pd)<|aw 4 (O.du (x:=aj bl a0.aq.aX) (.bs q) qL q)<|aw 5 (O.aA (.lit q)) ?_;obtain ⟨bF,fM,ab⟩:=aB ab;refine aw 6 (O.cQ (.aD q) (.lit q) qo fM)<|aw 7 (O.e2 (.bs q) Jc)<|aw 8 (O.du (x:=ah bF.Name) (.bs q) eP q)<|aw 9 (O.bm q (.obj q) kz q)<|aw 10 (O.cA q (.ptr q) eP q)<|aw 11 (O.ou (.lit q) (.lit q))<|aw 12 (O.aA (.lit q)) ?_;rcases cM ab with ⟨cP,ab⟩ | ⟨cP,ab⟩
    ·refine bG 13 cP (O.aA (.bs q))<|bG 14 cP (O.zF (.bs q))<|bG 15 cP (O.e2 (.bs q) j2)<|bG 16 cP (O.e2 (.bs q) pd)<|bG 17 cP (O.du (x:=aj bl a0.aq.aX) (.bs q) qL q)<|bG 18 cP (O.aA (.lit q)) ?_;obtain ⟨b4,iB,ab⟩:=aB ab;refine bG 19 cP (O.cQ (.aD q) (.lit q) qo iB)<|bG 20 cP (O.e2 (.bs q) Jd)<|bG 21 cP (O.du (x:=bk b4.Lit) (.bs q) pT q)<|bG 22 cP (O.bm q (.obj q) wF q)<|bG 23 cP (O.cA q (.ptr q) pT q)<|bG 24 cP (O.PD (.lit q) (.lit q) NK)<|aw 25 (O.eQ (.lit q) cP (.lit q))<|aw 26 (O.aA (.lit q)) ?_;rcases cM ab with ⟨ek,ab⟩ | ⟨ek,ab⟩
     ·obtain rfl:=ax ab;exact bG 27 ek (O.aA (.lit q))<|bG 28 ek (O.neq (.lit q) (.k q))<|aw 29 (O.eQ (.lit q) ek (.lit q))<|b1.fin q q q (dA q q q q)
     ·obtain rfl:=ax ab;exact aI 27 ek<|aI 28 ek<|aw 29 (O.cB (.lit q) ek (.k q))<|b1.fin q q q (dA q q q q)
    ·obtain rfl:=ax ab;exact aI 13 cP<|aI 14 cP<|aI 15 cP<|aI 16 cP<|aI 17 cP<|aI 18 cP<|aI 19 cP<|aI 20 cP<|aI 21 cP<|aI 22 cP<|aI 23 cP<|aI 24 cP<|aw 25 (O.cB (.lit q) cP (.k q))<|aw 26 (O.aA (.lit q))<|aI 27 q<|aI 28 q<|aw 29 (O.cB (.lit q) q (.k q))<|b1.fin q q q (dA q q q q)
   refine ag.bb<|W.bJ h q (λft h=>?_) (λft h=>?_)
   ·refine W.a7 [4] ?_;refine W.rt ?_;refine ag.dY ?_;refine ag.c5 ?_;obtain rfl:=ax h;exact ag.fX (.n q .nil)
   ·refine W.bS<|ag.bo ?_;refine ag.bb<|W.br [0,3,5] (bu q<|ai (O.add (.lit q) (.k q))<|au.br [0,3,15] q<|au.a_) ?_;obtain rfl:=ax h;exact ag.go (dH q q q)
  ·refine W.dj ?_;refine ag.di ?_;obtain rfl:=ax h;exact ag.x2 .nil
 ·subst J;refine ag.dk ?_;refine ag.bb<|W.a7 [4] ?_;refine W.rt ?_;obtain rfl:=ax h;exact cF (.f q q .nil)
 ·subst J;refine ag.dY ?_;refine ag.c5 ?_;obtain rfl:=ax h;exact cF (.f q q .nil)
theorem Ix (a0:cC) (ar:Int) (r:Int) (h:xj a0 ar=some r):cf Try.prog 114 [.bs ([aj bl a0.aq.aX,aj a1 a0.aq.bt,aj bD a0.aq.aW,ah a0.aq.bw,ah a0.aq.bz,aj b0 a0.bT,aj a1 a0.bN,aj cp a0.bA,j a0.b',j a0.cb,ah a0.ca,j a0.bO,j a0.bx]),j ar] [none,none] (j r):=by
 unfold xj at h;refine cf.go (N:=⟨28,[]⟩) Try.func114 q q q q (W.fin ?_);refine W.st [(0,.bs ([aj bl a0.aq.aX,aj a1 a0.aq.bt,aj bD a0.aq.aW,ah a0.aq.bw,ah a0.aq.bz,aj b0 a0.bT,aj a1 a0.bN,aj cp a0.bA,j a0.b',j a0.cb,ah a0.ca,j a0.bO,j a0.bx])),(1,j ar)] ?_;refine W.a7 [0,1] ?_;refine W.bc<|W.a7 [0,1,5] ?_;refine W.bo ?_;obtain ⟨x2,ao,h⟩:=aB h;refine W.cj (G1:=[(0,_),(1,_),(5,_)]) (dH q q q) ?_;refine W.jz (s:=3) (λ(s1:Int)=>[(0,.bs ([aj bl a0.aq.aX,aj a1 a0.aq.bt,aj bD a0.aq.aW,ah a0.aq.bw,ah a0.aq.bz,aj b0 a0.bT,aj a1 a0.bN,aj cp a0.bA,j a0.b',j a0.cb,ah a0.ca,j a0.bO,j a0.bx])),(1,j ar),(5,j s1)]) 0 (λ(a6:Unit)=>[]) (λ(bX:Int)=>[(4,j bX)]) ao (λs1 o h=>?_) (λa6 J=>?_) (λbX J=>?_)
 ·clear ao;refine W.bc<|W.a7 [0,1,5,13] ?_;refine W.bJ h q (λdN h=>?_) (λdN h=>?_)
  ·refine W.bS<|ag.bb ?_;refine W.bc<|W.bo ?_;obtain ⟨bF,fM,h⟩:=aB h;refine W.a7 [0,1,5,26] ?_;refine W.bJ h q (λcP h=>?_) (λcP h=>?_)
   ·refine W.a7 [4] ?_;refine W.rt ?_;refine ag.dY ?_;refine ag.c5 ?_;obtain rfl:=ax h;exact ag.fX (.n q .nil)
   ·refine W.bS<|ag.bo ?_;refine ag.bb<|W.br [0,1,5] (bu q<|ai (O.add (.lit q) (.k q))<|au.br [0,1,15] q<|au.a_) ?_;obtain rfl:=ax h;exact ag.go (dH q q q)
  ·refine W.dj ?_;refine ag.di ?_;obtain rfl:=ax h;exact ag.x2 .nil
 ·subst J;refine ag.dk ?_;refine ag.bb<|W.a7 [4] ?_;refine W.rt ?_;obtain rfl:=ax h;exact cF (.f q q .nil)
 ·subst J;refine ag.dY ?_;refine ag.c5 ?_;obtain rfl:=ax h;exact cF (.f q q .nil)
theorem Iw (a0:cC) (ar:Sym) (r:Int × cC) (h:xi a0 ar=some r):cf Try.prog 113 [.obj (dR.cells a0),.agg (dF.cells ar)] [some (.obj [al bl r.2.aq.aX,al a1 r.2.aq.bt,al bD r.2.aq.aW,ah r.2.aq.bw,ah r.2.aq.bz,al b0 r.2.bT,al a1 r.2.bN,al cp r.2.bA,j r.2.b',j r.2.cb,ah r.2.ca,j r.2.bO,j r.2.bx]),none] (j r.1):=by
 unfold xi at h;refine cf.go (N:=⟨66,[0]⟩) Try.func113 q q q q (W.fin ?_);refine W.st [(0,.obj (dR.cells a0)),(1,.agg (dF.cells ar))] ?_;refine W.bV [0,3] (ai (O.box (.ck q q) q)<|au.a_) ?_;obtain ⟨aH,fA,h⟩:=aB h;refine W.bV [0,3,5] (ai (O.aA (.obj q))<|ai (O.dP (cs':=[ah ar.Name,bk ar.Lit,j ar.c_,j ar.At]) q (.obj q) mH q q)<|d' (cw.vw (ys:=[.ptr ⟨0,[]⟩ 0,.agg (dF.cells ar)]) q (.c (View.n0 q q) (.c (.ry (.s (.s (.s (.s .nil))))) .nil)) (DW a0 ar _ fA) call95 q)<|au.a_) ?_;refine W.bc<|W.a7 [0,3,5,11] ?_;refine W.bJ h q (λcY h=>?_) (λcY h=>?_)
 ·refine W.a7 [0,4] ?_;refine W.rt ?_;refine ag.c5 ?_;obtain rfl:=ax h;exact ag.fin (Fin.ro (.f q q .nil) q (oU (by kernel_rfl)) (.az q q (.no .nil)) q (.inr q))
 ·refine W.bS<|ag.bb ?_;refine W.bV [0,3,6] (ai (O.bm q (.obj q) kz q)<|ai (O.cA q (.ptr q) eP q)<|ai (O.bm q (.obj q) wF q)<|ai (O.cA q (.ptr q) pT q)<|ai (O.fi (cs:=[ah ar.Name,bk ar.Lit,j 0,j 0,j 0,ah aQ]) CW AI q q q)<|ai (O.e8 (cs:=[ah aQ,bk false,j 0,j 0,j 0,ah aQ]) AI q q)<|au.dQ (G2:=[(0,_),(3,_),(6,_)]) (cs2:=[ah ar.Name,bk ar.Lit,j 0,j 0,j 0,ah aQ]) q (.obj q) (.ck q q) q Ut q q q q (.n q q (.n q q (.b q .nil)))<|bZ q) ?_;refine W.bc<|W.a7 [0,3,6,19] ?_;obtain ⟨dd,ab,h⟩:=aB h;refine W.bH [(0,.obj (dR.cells dd.1)),(3,.obj (dF.cells ar)),(6,.obj [ah ar.Name,bk ar.Lit,j dd.2,j 0,j 0,ah aQ])] ?_ ?_
  ·clear h; have h:=ab; clear ab;refine W.bJ h q (λdb h=>?_) (λdb h=>?_)
   ·obtain ⟨b5,j6,h⟩:=aB h;refine W.bV [0,3,6] (ai (O.bm q (.obj q) kz q)<|ai (O.cA q (.ptr q) eP q)<|ai (O.og (.lit q) (.k q) j7 j6)<|ai (O.ui (.lit q) FX w1)<|ai (O.bm q (.obj q) yy q)<|au.dQ (G2:=[(0,_),(3,_),(6,_)]) (cs2:=[ah ar.Name,bk ar.Lit,j (aM b5),j 0,j 0,ah aQ]) q (.ptr q) (.lit q) q mV q q q q (.n q q (.n q q (.b q .nil)))<|bZ q) ?_;obtain ⟨bF,fM,h⟩:=aB h;refine W.bV [0,3,6,29] (ai (O.aA (.obj q))<|ai (O.bm q (.obj q) yy q)<|ai (O.cA q (.ptr q) cH q)<|d' (cw.vw (ys:=[.ptr ⟨0,[]⟩ 0,j (aM b5)]) q (.c (View.n0 q q) (.s .nil)) (Ix a0 (aM b5) _ fM) call114 q)<|au.a_) ?_;obtain ⟨np,ab,h⟩:=aB h;refine W.bH [(0,.obj (dR.cells np)),(3,.obj (dF.cells ar)),(6,.obj [ah ar.Name,bk ar.Lit,j (aM b5),j 0,j 0,ah aQ])] ?_ ?_
    ·clear h; have h:=ab; clear ab;refine W.bJ h q (λcS h=>?_) (λcS h=>?_)
     ·obtain ⟨cu,jV,h⟩:=aB h;refine W.br [0,3,6] (ai (O.aA (.obj q))<|ai (O.bm q (.obj q) qP q)<|ai (O.cA q (.ptr q) cH q)<|ai (O.bm q (.obj q) kz q)<|ai (O.cA q (.ptr q) eP q)<|au.h4 q (cq.call q q (hB.mP (G2:=[(3,.obj (dF.cells ar)),(6,.obj [ah ar.Name,bk ar.Lit,j (aM b5),j 0,j 0,ah aQ])]) (A:=[]) (ys:=[.ptr ⟨0,[]⟩ 0,j ar.At,ah ar.Name]) (args:=[.obj (dR.cells a0),j ar.At,ah ar.Name]) (cs':=[al bl cu.aq.aX,al a1 cu.aq.bt,al bD cu.aq.aW,ah cu.aq.bw,ah cu.aq.bz,al b0 cu.bT,al a1 cu.bN,al cp cu.bA,j cu.b',j cu.cb,ah cu.ca,j cu.bO,j cu.bx]) (k0:=0) q q q q (.b q (.n q (.n q .nil))) q (ue a0 ar.At ar.Name _ jV) call94 (fc q q) q q (fc q q) .nil q))<|bZ q) ?_;obtain rfl:=ax h;exact ag.bH (dH q q q)
     ·refine W.bS ?_;obtain rfl:=ax h;exact ag.bH (dH q q q)
    obtain rfl:=ax h;exact ag.bH (dH q q q)
   ·refine W.bS ?_;obtain rfl:=ax h;exact ag.bH (dH q q q)
  refine ag.bb<|W.bc ?_;obtain ⟨bQ,jJ,h⟩:=aB h;refine W.rd [[],[],[1],[1,2],[1,2,3],[1,2,3,4],[],[6],aT 1 7 [],aT 0 9 [],aT 0 10 [],aT 0 11 [],aT 0 12 []] [(0,_),(3,_)] eY (by kernel_rfl) (aw 0 (O.aA (.obj q))<|aw 1 (O.aA (.obj q))<|aw 2 (O.eJ (.ptr q))<|aw 3 (O.bm q (.ptr q) j2 q)<|aw 4 (O.bm q (.ptr q) pd q)<|aw 5 (O.dz (y:=.bq bl.z ⟨0,[0]⟩ dd.1.aq.aX.length) q (.ptr q) qL q q)<|aw 6 (O.dP (cs':=[ah ar.Name,bk ar.Lit,j dd.2,j 0,j 0,ah aQ]) q (.obj q) Nv q q)<|b1.gP 7 (x:=aj bl [(⟨ar.Name,ar.Lit,dd.2,0,0,aQ⟩:bC)]) (O.dI (ys:=[.agg [ah ar.Name,bk ar.Lit,j dd.2,j 0,j 0,ah aQ]]) bl [(⟨ar.Name,ar.Lit,dd.2,0,0,aQ⟩:bC)] qo q q q q q q MI q q) q q q q .none<|aw 8 (O.ap (en:=bl) (r:=bQ) (.bq q) q (.aD q) .i Na q jJ)<|aw 9 (O.eJ (.ptr q))<|aw 10 (O.bm q (.ptr q) j2 q)<|aw 11 (O.bm q (.ptr q) pd q)<|b1.ky 12 (G2:=[(0,.obj [al bl (dd.1.aq.aX++[(⟨ar.Name,ar.Lit,dd.2,0,0,aQ⟩:bC)]),al a1 dd.1.aq.bt,al bD dd.1.aq.aW,ah dd.1.aq.bw,ah dd.1.aq.bz,al b0 dd.1.bT,al a1 dd.1.bN,al cp dd.1.bA,j dd.1.b',j dd.1.cb,ah dd.1.ca,j dd.1.bO,j dd.1.bx]),(3,.obj (dF.cells ar))]) (cq.nw (g1:=_) (en:=bl) (M:=[(⟨ar.Name,ar.Lit,dd.2,0,0,aQ⟩:bC)]) (cs2:=[al bl (dd.1.aq.aX++[(⟨ar.Name,ar.Lit,dd.2,0,0,aQ⟩:bC)]),al a1 dd.1.aq.bt,al bD dd.1.aq.aW,ah dd.1.aq.bw,ah dd.1.aq.bz,al b0 dd.1.bT,al a1 dd.1.bN,al cp dd.1.bA,j dd.1.b',j dd.1.cb,ah dd.1.ca,j dd.1.bO,j dd.1.bx]) q q (.ptr q) (.b3 q) q q q .nq .hP q q L9 q q q q (.b q (.n q q .nil))) q q q q (by kernel_rfl) (by kernel_rfl)<|b1.fin q q q (fc q q)) ?_;refine ag.bb<|W.bc ?_;obtain ⟨cy,h9,h⟩:=aB h;refine W.rd [[],[],[1],[1,2],[1,2,3],[],[5],[5,6],aT 1 7 [],aT 0 9 [],aT 0 10 [],aT 0 11 []] [(0,_)] eY (by kernel_rfl) (aw 0 (O.aA (.obj q))<|aw 1 (O.aA (.obj q))<|aw 2 (O.eJ (.ptr q))<|aw 3 (O.bm q (.ptr q) wB q)<|aw 4 (O.dz (y:=.bq b0.z ⟨0,[5]⟩ dd.1.bT.length) q (.ptr q) ye q q)<|aw 5 (O.bm q (.obj q) wF q)<|aw 6 (O.cA q (.ptr q) pT q)<|b1.gP 7 (x:=aj b0 [ar.Lit]) (O.dI (ys:=[bk ar.Lit]) b0 [ar.Lit] sj q q q q q q U3 q q) q q q q .none<|aw 8 (O.ap (en:=b0) (r:=cy) (.bq q) q (.aD q) .i M7 q h9)<|aw 9 (O.eJ (.ptr q))<|aw 10 (O.bm q (.ptr q) wB q)<|b1.ky 11 (G2:=[(0,.obj [al bl (dd.1.aq.aX++[(⟨ar.Name,ar.Lit,dd.2,0,0,aQ⟩:bC)]),al a1 dd.1.aq.bt,al bD dd.1.aq.aW,ah dd.1.aq.bw,ah dd.1.aq.bz,al b0 (dd.1.bT++[ar.Lit]),al a1 dd.1.bN,al cp dd.1.bA,j dd.1.b',j dd.1.cb,ah dd.1.ca,j dd.1.bO,j dd.1.bx])]) (cq.nw (g1:=_) (en:=b0) (M:=[ar.Lit]) (cs2:=[al bl (dd.1.aq.aX++[(⟨ar.Name,ar.Lit,dd.2,0,0,aQ⟩:bC)]),al a1 dd.1.aq.bt,al bD dd.1.aq.aW,ah dd.1.aq.bw,ah dd.1.aq.bz,al b0 (dd.1.bT++[ar.Lit]),al a1 dd.1.bN,al cp dd.1.bA,j dd.1.b',j dd.1.cb,ah dd.1.ca,j dd.1.bO,j dd.1.bx]) q q (.ptr q) (.b3 q) q q q .nq .hP q q Uk q q q q (.b q .nil)) q q q q (by kernel_rfl) (by kernel_rfl)<|b1.fin q q q (.n q .nil)) ?_;refine ag.bb<|W.a7 [0,4] ?_;refine W.rt ?_;obtain rfl:=ax h;exact ag.fin (Fin.ro (.f q q .nil) q (oU (by kernel_rfl)) (.az q q (.no .nil)) q (.inr q))
theorem DY (v:Value) (a0:cC) (ar:Int) (a2:ByteArray) (r:cC) (h:mR a0 ar a2=some r):cf Try.prog 94 [.obj [.lit v,al a1 a0.aq.bt,al bD a0.aq.aW,ah a0.aq.bw,ah a0.aq.bz,al b0 a0.bT,al a1 a0.bN,al cp a0.bA,j a0.b',j a0.cb,ah a0.ca,j a0.bO,j a0.bx],j ar,ah a2] [some (.obj [.lit v,al a1 r.aq.bt,al bD r.aq.aW,ah r.aq.bw,ah r.aq.bz,al b0 r.bT,al a1 r.bN,al cp r.bA,j r.b',j r.cb,ah r.ca,j r.bO,j r.bx]),none,none] (.cr []):=by
 unfold mR at h;refine cf.go (N:=⟨22,[0]⟩) Try.func94 q q q q (W.fin ?_);refine W.st [(0,.obj [.lit v,al a1 a0.aq.bt,al bD a0.aq.aW,ah a0.aq.bw,ah a0.aq.bz,al b0 a0.bT,al a1 a0.bN,al cp a0.bA,j a0.b',j a0.cb,ah a0.ca,j a0.bO,j a0.bx]),(1,j ar),(2,ah a2)] ?_;refine W.a7 [0,1,2,10] ?_;obtain ⟨hN,ab,h⟩:=aB h;refine W.bH [(0,.obj [.lit v,al a1 hN.aq.bt,al bD hN.aq.aW,ah hN.aq.bw,ah hN.aq.bz,al b0 hN.bT,al a1 hN.bN,al cp hN.bA,j hN.b',j hN.cb,ah hN.ca,j hN.bO,j hN.bx])] ?_ ?_
 ·clear h; have h:=ab; clear ab;refine W.bJ h q (λcY h=>?_) (λcY h=>?_)
  ·refine W.br [0] (ai (O.aA (.obj q))<|ai (O.aA (.obj q))<|ai (O.aA (.obj q))<|bu q<|bu q<|ai (O.eJ (.ptr q))<|ai (O.bm q (.ptr q) yt q)<|au.dQ (G2:=[(0,_),(12,.ptr ⟨0,[]⟩ 0),(13,.ptr ⟨0,[]⟩ 0),(14,_),(15,_)]) (cs2:=[.lit v,al a1 a0.aq.bt,al bD a0.aq.aW,ah a0.aq.bw,ah a0.aq.bz,al b0 a0.bT,al a1 a0.bN,al cp a0.bA,j 3,j a0.cb,ah a0.ca,j a0.bO,j a0.bx]) q (.ptr q) (.k q) q mV q q q q (.b q (.p q q q q q q (.p q q q q q q (.n q q (.n q q .nil)))))<|ai (O.eJ (.ptr q))<|ai (O.bm q (.ptr q) yu q)<|au.dQ (G2:=[(0,_),(13,.ptr ⟨0,[]⟩ 0),(15,_)]) (cs2:=[.lit v,al a1 a0.aq.bt,al bD a0.aq.aW,ah a0.aq.bw,ah a0.aq.bz,al b0 a0.bT,al a1 a0.bN,al cp a0.bA,j 3,j ar,ah a0.ca,j a0.bO,j a0.bx]) q (.ptr q) (.lit q) q mV q q q q (.b q (.p q q q q q q (.n q q .nil)))<|ai (O.eJ (.ptr q))<|ai (O.bm q (.ptr q) yv q)<|au.dQ (G2:=[(0,_)]) (cs2:=[.lit v,al a1 a0.aq.bt,al bD a0.aq.aW,ah a0.aq.bw,ah a0.aq.bz,al b0 a0.bT,al a1 a0.bN,al cp a0.bA,j 3,j ar,ah a2,j a0.bO,j a0.bx]) q (.ptr q) (.lit q) q vz q q q q (.b q .nil)<|bZ q) ?_;obtain rfl:=ax h;exact ag.bH (.n q .nil)
  ·refine W.bS ?_;obtain rfl:=ax h;exact ag.bH (.n q .nil)
 obtain rfl:=ax h;exact ag.fin (Fin.ro .nil q (oU (by kernel_rfl)) (.az q q (.no (.no .nil))) q (.inl q))
theorem OY (a0:cC) (ar:Decl) (a2:Sym) (r:cC) (h:vm a0 ar a2=some r):cf Try.prog 93 [.obj (dR.cells a0),.agg (dJ.cells ar),.agg (dF.cells a2)] [some (.obj [al bl r.aq.aX,al a1 r.aq.bt,al bD r.aq.aW,ah r.aq.bw,ah r.aq.bz,al b0 r.bT,al a1 r.bN,al cp r.bA,j r.b',j r.cb,ah r.ca,j r.bO,j r.bx]),none,none] (.cr []):=by
 unfold vm at h;refine cf.go (N:=⟨152,[0]⟩) Try.func93 q q q q (W.fin ?_);refine W.st [(0,.obj (dR.cells a0)),(1,.agg (dJ.cells ar)),(2,.agg (dF.cells a2))] ?_;refine W.bV [0,4,5] (ai (O.box (.ck q q) q)<|ai (O.box (.ck q q) q)<|bZ q) ?_;refine W.bc<|W.a7 [0,4,5,11] ?_;refine W.bJ h q (λdh h=>?_) (λdh h=>?_)
 ·obtain ⟨x2,hM,h⟩:=aB h;refine W.bV [0,4,5,6] (ai (O.aA (.obj q))<|ai (O.bm q (.obj q) kz q)<|ai (O.cA q (.ptr q) eP q)<|d' (cw.vw (ys:=[.ptr ⟨0,[]⟩ 0,ah a2.Name]) q (.c (View.n0 q q) (.s .nil)) (IH a0 a2.Name _ hM) call98 q)<|au.a_) ?_;refine W.bc<|W.a7 [0,4,5,6,17] ?_;obtain ⟨dd,ab,h⟩:=aB h;refine W.bH [(0,.obj (dR.cells dd))] ?_ ?_
  ·clear h; have h:=ab; clear ab;refine W.bJ h q (λdb h=>?_) (λdb h=>?_)
   ·obtain ⟨b5,j6,h⟩:=aB h;refine W.rd [[],[],[1],[1,2],[1,2,3],[],[5],[],[7],[5,6,7,8],aT 5 5 [],aT 1 10 [],aT 0 12 [],aT 0 13 [],aT 0 14 []] [(0,_)] eY (by kernel_rfl) (aw 0 (O.aA (.obj q))<|aw 1 (O.aA (.obj q))<|aw 2 (O.eJ (.ptr q))<|aw 3 (O.bm q (.ptr q) yr q)<|aw 4 (O.dz (y:=.bq a1.z ⟨0,[6]⟩ a0.bN.length) q (.ptr q) rG q q)<|aw 5 (O.bm q (.obj q) kz q)<|aw 6 (O.cA q (.ptr q) eP q)<|aw 7 (O.bm q (.obj q) nb q)<|aw 8 (O.cA q (.ptr q) eP q)<|aw 9 (O.fi (cs:=[ah a2.Name,ah ar.Tag]) CV AH q q q)<|b1.gP 10 (x:=aj a1 [(⟨a2.Name,ar.Tag⟩:eH)]) (O.dI (ys:=[.agg [ah a2.Name,ah ar.Tag]]) a1 [(⟨a2.Name,ar.Tag⟩:eH)] q_ q q q q q q Dd q q) q q q q .none<|aw 11 (O.ap (en:=a1) (r:=b5) (.bq q) q (.aD q) .i Du q j6)<|aw 12 (O.eJ (.ptr q))<|aw 13 (O.bm q (.ptr q) yr q)<|b1.ky 14 (G2:=[(0,.obj [al bl a0.aq.aX,al a1 a0.aq.bt,al bD a0.aq.aW,ah a0.aq.bw,ah a0.aq.bz,al b0 a0.bT,al a1 (a0.bN++[(⟨a2.Name,ar.Tag⟩:eH)]),al cp a0.bA,j a0.b',j a0.cb,ah a0.ca,j a0.bO,j a0.bx])]) (cq.nw (g1:=_) (en:=a1) (M:=[(⟨a2.Name,ar.Tag⟩:eH)]) (cs2:=[al bl a0.aq.aX,al a1 a0.aq.bt,al bD a0.aq.aW,ah a0.aq.bw,ah a0.aq.bz,al b0 a0.bT,al a1 (a0.bN++[(⟨a2.Name,ar.Tag⟩:eH)]),al cp a0.bA,j a0.b',j a0.cb,ah a0.ca,j a0.bO,j a0.bx]) q q (.ptr q) (.b3 q) q q q .nq .hP q q C3 q q q q (.b q .nil)) q q q q (by kernel_rfl) (by kernel_rfl)<|b1.fin q q q (.n q .nil)) ?_;obtain rfl:=ax h;exact ag.bH (.n q .nil)
   ·refine W.bc ?_;obtain ⟨bF,fM,h⟩:=aB h;refine W.rd [[],[0],[0,1],[0,1,2],[],aT 0 5 [],aT 0 6 [],aT 0 7 [],[],[8],aT 0 10 []] [(0,_),(5,_),(42,_)] eY (by kernel_rfl) (aw 0 (O.aA (.obj q))<|aw 1 (O.eJ (.ptr q))<|aw 2 (O.bm q (.ptr q) yr q)<|aw 3 (O.dz (y:=.bq a1.z ⟨0,[6]⟩ a0.bN.length) q (.ptr q) rG q q)<|aw 4 (O.aA (.lit q))<|aw 5 (O.iC (en:=a1) q (.bq q) (.lit q) q_ fM q)<|aw 6 (O.mu (en:=a1) q (.ptr q) BA fM q q)<|aw 7 (O.kj (en:=a1) (x':=ah bF.Tag) q (.ptr q) eP fM q q)<|aw 8 (O.bm q (.obj q) nb q)<|aw 9 (O.cA q (.ptr q) eP q)<|aw 10 (O.lH (.lit q) (.lit q))<|b1.fin q q q (dH q q q)) ?_;refine ag.bb ?_;obtain ⟨np,ab,h⟩:=aB h;refine W.bH [(0,.obj (dR.cells np))] ?_ ?_
    ·clear h; have h:=ab; clear ab;refine W.bJ h q (λcS h=>?_) (λcS h=>?_)
     ·obtain ⟨cu,jV,h⟩:=aB h;refine W.br [0] (ai (O.aA (.obj q))<|ai (O.bm q (.obj q) qP q)<|ai (O.cA q (.ptr q) cH q)<|ai (O.bm q (.obj q) kz q)<|ai (O.cA q (.ptr q) eP q)<|au.h4 q (cq.call q q (hB.mP (G2:=[]) (A:=[]) (ys:=[.ptr ⟨0,[]⟩ 0,j a2.At,ah a2.Name]) (args:=[.obj (dR.cells a0),j a2.At,ah a2.Name]) (cs':=[al bl cu.aq.aX,al a1 cu.aq.bt,al bD cu.aq.aW,ah cu.aq.bw,ah cu.aq.bz,al b0 cu.bT,al a1 cu.bN,al cp cu.bA,j cu.b',j cu.cb,ah cu.ca,j cu.bO,j cu.bx]) (k0:=0) q q q q (.b q (.n q (.n q .nil))) q (ue a0 a2.At a2.Name _ jV) call94 .nil q q .nil .nil q))<|bZ q) ?_;obtain rfl:=ax h;exact ag.bH (.n q .nil)
     ·refine W.bS ?_;obtain rfl:=ax h;exact ag.bH (.n q .nil)
    obtain rfl:=ax h;exact ag.bH (.n q .nil)
  refine ag.bb<|W.rt ?_;refine ag.c5 ?_;obtain rfl:=ax h;exact ag.fin (Fin.ro .nil q (oU (by kernel_rfl)) (.az q q (.no (.no .nil))) q (.inr q))
 ·refine W.bS<|ag.bb ?_;obtain ⟨bQ,jJ,h⟩:=aB h;refine W.bV [0,4,5,7] (ai (O.aA (.obj q))<|ai (O.dP (cs':=[ah a2.Name,bk a2.Lit,j a2.c_,j a2.At]) q (.obj q) mH q q)<|au.h4 q (cq.call q q (hB.mP (G2:=[(4,.obj (dJ.cells ar)),(5,.obj (dF.cells a2))]) (A:=[]) (ys:=[.ptr ⟨0,[]⟩ 0,.agg (dF.cells a2)]) (args:=[.obj (dR.cells a0),.agg (dF.cells a2)]) (cs':=[al bl bQ.2.aq.aX,al a1 bQ.2.aq.bt,al bD bQ.2.aq.aW,ah bQ.2.aq.bw,ah bQ.2.aq.bz,al b0 bQ.2.bT,al a1 bQ.2.bN,al cp bQ.2.bA,j bQ.2.b',j bQ.2.cb,ah bQ.2.ca,j bQ.2.bO,j bQ.2.bx]) (k0:=0) q q q q (.b q (.n q .nil)) q (Iw a0 a2 _ jJ) call113 (fc q q) q q (fc q q) .nil q))<|au.a_) ?_;obtain ⟨cy,h9,h⟩:=aB h;refine W.rs [(0,_),(4,_),(5,_),(7,_),(8,.ptr ⟨0,[0]⟩ (bQ.1.toNat * bl.z+0))] (ai (O.aA (.obj q))<|ai (O.eJ (.ptr q))<|ai (O.bm q (.ptr q) j2 q)<|ai (O.bm q (.ptr q) pd q)<|ai (O.dz (y:=.bq bl.z ⟨0,[0]⟩ bQ.2.aq.aX.length) q (.ptr q) qL q q)<|bu q<|ai (O.iC (en:=bl) q (.bq q) (.lit q) qo h9 q)<|ai (O.dq (.ptr q))<|mX (.n q (.n q (.n q (.n q (.r q (eK.el (en:=bl) q h9 q) jM .nil)))))) ?_;refine W.bc<|W.rs [(0,_),(4,_),(5,_),(7,_),(8,.ptr ⟨0,[0]⟩ (bQ.1.toNat * bl.z+0)),(61,_)] (ai (O.bm q (.obj q) ow q)<|ai (O.cA q (.ptr q) cH q)<|ai (O.neq (.lit q) (.k q))<|mX (.n q (.n q (.n q (.n q (.r q (eK.el (en:=bl) q h9 q) jM (.n q .nil))))))) ?_;obtain ⟨fq,ab,h⟩:=aB h;refine W.bH [(0,.obj (dR.cells fq)),(4,.obj (dJ.cells ar)),(5,.obj (dF.cells a2)),(7,j bQ.1),(8,.ptr ⟨0,[0]⟩ (bQ.1.toNat * bl.z+0))] ?_ ?_
  ·clear h; have h:=ab; clear ab;refine W.bJ h q (λkf h=>?_) (λkf h=>?_)
   ·refine W.bc<|W.rs [(0,_),(4,_),(5,_),(7,_),(8,.ptr ⟨0,[0]⟩ (bQ.1.toNat * bl.z+0)),(66,_)] (ai (O.aA (.ptr q))<|ai (O.eJ (.ptr q))<|ai (O.mu (en:=bl) q (.ptr q) BD h9 q q)<|ai (O.kj (en:=bl) (x':=j cy.Level) q (.ptr q) cH h9 q q)<|ai (O.gtr (.lit q) (.k q))<|mX (.n q (.n q (.n q (.n q (.r q (eK.el (en:=bl) q h9 q) jM (.n q .nil))))))) ?_;obtain ⟨dc,ab,h⟩:=aB h;refine W.bH [(0,.obj (dR.cells dc)),(4,.obj (dJ.cells ar)),(5,.obj (dF.cells a2)),(7,j bQ.1),(8,.ptr ⟨0,[0]⟩ (bQ.1.toNat * bl.z+0))] ?_ ?_
    ·clear h; have h:=ab; clear ab;refine W.bJ h q (λp1 h=>?_) (λp1 h=>?_)
     ·obtain ⟨cm,k_,h⟩:=aB h;refine W.rx [(0,_),(4,_),(5,_),(7,_),(8,.ptr ⟨0,[0]⟩ (bQ.1.toNat * bl.z+0))] (ai (O.aA (.obj q))<|ai (O.bm q (.obj q) qP q)<|ai (O.cA q (.ptr q) cH q)<|ai (O.bm q (.obj q) kz q)<|ai (O.cA q (.ptr q) eP q)<|au.h4 (G2:=[(8,.ptr ⟨0,[0]⟩ (bQ.1.toNat * bl.z+0))]++[(72,.cr []),(0,.obj [al bl bQ.2.aq.aX,al a1 cm.aq.bt,al bD cm.aq.aW,ah cm.aq.bw,ah cm.aq.bz,al b0 cm.bT,al a1 cm.bN,al cp cm.bA,j cm.b',j cm.cb,ah cm.ca,j cm.bO,j cm.bx]),(4,.obj (dJ.cells ar)),(5,.obj (dF.cells a2)),(7,j bQ.1)]) q (cq.fp (r:=0) (k0:=0) (y:=al bl bQ.2.aq.aX) (cs5:=[al bl bQ.2.aq.aX,al a1 cm.aq.bt,al bD cm.aq.aW,ah cm.aq.bw,ah cm.aq.bz,al b0 cm.bT,al a1 cm.bN,al cp cm.bA,j cm.b',j cm.cb,ah cm.ca,j cm.bO,j cm.bx]) (G1:=λv=>[(0,.obj [.lit v,al a1 bQ.2.aq.bt,al bD bQ.2.aq.aW,ah bQ.2.aq.bw,ah bQ.2.aq.bz,al b0 bQ.2.bT,al a1 bQ.2.bN,al cp bQ.2.bA,j bQ.2.b',j bQ.2.cb,ah bQ.2.ca,j bQ.2.bO,j bQ.2.bx]),(4,.obj (dJ.cells ar)),(5,.obj (dF.cells a2)),(7,j bQ.1),(67,.ptr ⟨0,[]⟩ 0),(69,j a2.At),(71,ah a2.Name)]) (G4:=λv=>[(72,.cr []),(0,.obj [.lit v,al a1 cm.aq.bt,al bD cm.aq.aW,ah cm.aq.bw,ah cm.aq.bz,al b0 cm.bT,al a1 cm.bN,al cp cm.bA,j cm.b',j cm.cb,ah cm.ca,j cm.bO,j cm.bx]),(4,.obj (dJ.cells ar)),(5,.obj (dF.cells a2)),(7,j bQ.1)]) (c4:=λv=>[.lit v,al a1 cm.aq.bt,al bD cm.aq.aW,ah cm.aq.bw,ah cm.aq.bz,al b0 cm.bT,al a1 cm.bN,al cp cm.bA,j cm.b',j cm.cb,ah cm.ca,j cm.bO,j cm.bx]) (G5:=[(72,.cr []),(0,.obj [al bl bQ.2.aq.aX,al a1 cm.aq.bt,al bD cm.aq.aW,ah cm.aq.bw,ah cm.aq.bz,al b0 cm.bT,al a1 cm.bN,al cp cm.bA,j cm.b',j cm.cb,ah cm.ca,j cm.bO,j cm.bx]),(4,.obj (dJ.cells ar)),(5,.obj (dF.cells a2)),(7,j bQ.1)]) (A:=[(8,.ptr ⟨0,[0]⟩ (bQ.1.toNat * bl.z+0))]) q q q q (λv=>(.b q (.n q q (.n q q (.n q q (.p q q q q q q (.n q q (.n q q .nil)))))))) (λv=>hB.mP (G2:=[(4,.obj (dJ.cells ar)),(5,.obj (dF.cells a2)),(7,j bQ.1)]) (A:=[]) (ys:=[.ptr ⟨0,[]⟩ 0,j a2.At,ah a2.Name]) (args:=[.obj [.lit v,al a1 bQ.2.aq.bt,al bD bQ.2.aq.aW,ah bQ.2.aq.bw,ah bQ.2.aq.bz,al b0 bQ.2.bT,al a1 bQ.2.bN,al cp bQ.2.bA,j bQ.2.b',j bQ.2.cb,ah bQ.2.ca,j bQ.2.bO,j bQ.2.bx],j a2.At,ah a2.Name]) (cs':=[.lit v,al a1 cm.aq.bt,al bD cm.aq.aW,ah cm.aq.bw,ah cm.aq.bz,al b0 cm.bT,al a1 cm.bN,al cp cm.bA,j cm.b',j cm.cb,ah cm.ca,j cm.bO,j cm.bx]) (k0:=0) q q q q (.b q (.n q (.n q .nil))) q (DY v bQ.2 a2.At a2.Name _ k_) call94 (dH q q q) q q (dH q q q) .nil q) (λv=>q) (λv=>q) (λv=>q) (λv=>(.n q q (.b q (.n q q (.n q q (.n q q .nil)))))) q (.c (en:=bl) (L:=bQ.2.aq.aX) q q h9 q q q .nil))<|mX (.n q (.n q (.n q (.n q (.r q (eK.el (en:=bl) q h9 q) jM .nil)))))) ?_;obtain rfl:=ax h;exact ag.bH (.n q (.n q (.n q (.n q (.r q (eK.el (en:=bl) q h9 q) jM .nil)))))
     ·refine W.bS ?_;obtain rfl:=ax h;exact ag.bH (.n q (.n q (.n q (.n q (.r q (eK.el (en:=bl) q h9 q) jM .nil)))))
    obtain ⟨b7,ji,h⟩:=aB h;refine ag.bb<|W.rd [[],[],[],[2],[2,3],[2,3,4],[],[6],[6,7],[0,2,3,4,5],[0,2,3,4,5,9],[0,2,3,4,5,9,10],aT 0 12 [],aT 0 13 [],aT 0 14 []] [(0,_),(4,_),(5,_),(7,_),(8,.ptr ⟨0,[0]⟩ (bQ.1.toNat * bl.z+0))] eY (by kernel_rfl) (aw 0 (O.aA (.ptr q))<|aw 1 (O.aA (.ptr q))<|aw 2 (O.aA (.obj q))<|aw 3 (O.eJ (.ptr q))<|aw 4 (O.bm q (.ptr q) Bz q)<|aw 5 (O.cA q (.ptr q) cH q)<|aw 6 (O.bm q (.obj q) ow q)<|aw 7 (O.cA q (.ptr q) cH q)<|aw 8 (O.sub (.lit q) (.k q))<|aw 9 (O.eJ (.ptr q))<|aw 10 (O.mu (en:=bl) q (.ptr q) BD ji q q)<|b1.fi 11 (G2:=[(0,.obj [al bl (dc.aq.aX.set bQ.1.toNat (⟨b7.Name,b7.Lit,b7.c_,dc.bO,b7.eN,b7.Tag⟩:bC)),al a1 dc.aq.bt,al bD dc.aq.aW,ah dc.aq.bw,ah dc.aq.bz,al b0 dc.bT,al a1 dc.bN,al cp dc.bA,j dc.b',j dc.cb,ah dc.ca,j dc.bO,j dc.bx]),(4,.obj (dJ.cells ar)),(5,.obj (dF.cells a2)),(7,j bQ.1),(8,.ptr ⟨0,[0]⟩ (bQ.1.toNat * bl.z+0))]) (U:=[(8,81,some (j (aM (ar.Kind - 1)))),(7,80,some (j ar.Kind)),(6,79,some (.ptr ⟨4,[]⟩ 0)),(1,74,some (.ptr ⟨0,[0]⟩ (bQ.1.toNat * bl.z+0)))]) (lS.v (cq.nJ (cq.qp (en:=bl) (y2:=(⟨b7.Name,b7.Lit,b7.c_,dc.bO,b7.eN,b7.Tag⟩:bC)) (cs':=[j dc.bO]) (x2:=.obj [al bl (dc.aq.aX.set bQ.1.toNat (⟨b7.Name,b7.Lit,b7.c_,dc.bO,b7.eN,b7.Tag⟩:bC)),al a1 dc.aq.bt,al bD dc.aq.aW,ah dc.aq.bw,ah dc.aq.bz,al b0 dc.bT,al a1 dc.bN,al cp dc.bA,j dc.b',j dc.cb,ah dc.ca,j dc.bO,j dc.bx]) q q (.ptr q) (.lit q) q ji mV q q q q q q q (.b q (.n q q (.n q q (.n q q (.e q q (.mk (en:=bl) q ji q (mO ji) q) q .nil)))))))) q q (by kernel_rfl) q q q (.c (.inr (.inl ⟨_,q⟩)) q q q q q (gg.wanted .none) (O.sub (.lit q) (.k q)) (.c (.inr (.inl ⟨_,q⟩)) q q q q q (gg.wanted .none) (O.cA q (.ptr q) cH q) (.c (.inr (.inr (.inr (.inl ⟨4,_,_,q,q,jl q,by simp,_,q,jl q⟩)))) q q q q q (gg.wanted .none) (O.bm q (.obj q) ow q) (.c (.inr (.inr (.inl ⟨8,_,_,q,q,q,by simp⟩))) q q q q q (gg.wanted .none) (O.aA (.ptr q)) .nil)))) (by kernel_rfl)<|aw 12 (O.eJ (.ptr q))<|aw 13 (O.mu (en:=bl) q (.ptr q) Ea (mO ji) q q)<|b1.ky 14 (G2:=[(0,.obj [al bl ((dc.aq.aX.set bQ.1.toNat (⟨b7.Name,b7.Lit,b7.c_,dc.bO,b7.eN,b7.Tag⟩:bC)).set bQ.1.toNat (⟨(⟨b7.Name,b7.Lit,b7.c_,dc.bO,b7.eN,b7.Tag⟩:bC).Name,(⟨b7.Name,b7.Lit,b7.c_,dc.bO,b7.eN,b7.Tag⟩:bC).Lit,(⟨b7.Name,b7.Lit,b7.c_,dc.bO,b7.eN,b7.Tag⟩:bC).c_,(⟨b7.Name,b7.Lit,b7.c_,dc.bO,b7.eN,b7.Tag⟩:bC).Level,aM (ar.Kind - 1),(⟨b7.Name,b7.Lit,b7.c_,dc.bO,b7.eN,b7.Tag⟩:bC).Tag⟩:bC)),al a1 dc.aq.bt,al bD dc.aq.aW,ah dc.aq.bw,ah dc.aq.bz,al b0 dc.bT,al a1 dc.bN,al cp dc.bA,j dc.b',j dc.cb,ah dc.ca,j dc.bO,j dc.bx]),(4,.obj (dJ.cells ar)),(5,.obj (dF.cells a2)),(7,j bQ.1),(8,.ptr ⟨0,[0]⟩ (bQ.1.toNat * bl.z+0))]) (cq.qp (en:=bl) (y2:=(⟨(⟨b7.Name,b7.Lit,b7.c_,dc.bO,b7.eN,b7.Tag⟩:bC).Name,(⟨b7.Name,b7.Lit,b7.c_,dc.bO,b7.eN,b7.Tag⟩:bC).Lit,(⟨b7.Name,b7.Lit,b7.c_,dc.bO,b7.eN,b7.Tag⟩:bC).c_,(⟨b7.Name,b7.Lit,b7.c_,dc.bO,b7.eN,b7.Tag⟩:bC).Level,aM (ar.Kind - 1),(⟨b7.Name,b7.Lit,b7.c_,dc.bO,b7.eN,b7.Tag⟩:bC).Tag⟩:bC)) (cs':=[j (aM (ar.Kind - 1))]) (x2:=.obj [al bl ((dc.aq.aX.set bQ.1.toNat (⟨b7.Name,b7.Lit,b7.c_,dc.bO,b7.eN,b7.Tag⟩:bC)).set bQ.1.toNat (⟨(⟨b7.Name,b7.Lit,b7.c_,dc.bO,b7.eN,b7.Tag⟩:bC).Name,(⟨b7.Name,b7.Lit,b7.c_,dc.bO,b7.eN,b7.Tag⟩:bC).Lit,(⟨b7.Name,b7.Lit,b7.c_,dc.bO,b7.eN,b7.Tag⟩:bC).c_,(⟨b7.Name,b7.Lit,b7.c_,dc.bO,b7.eN,b7.Tag⟩:bC).Level,aM (ar.Kind - 1),(⟨b7.Name,b7.Lit,b7.c_,dc.bO,b7.eN,b7.Tag⟩:bC).Tag⟩:bC)),al a1 dc.aq.bt,al bD dc.aq.aW,ah dc.aq.bw,ah dc.aq.bz,al b0 dc.bT,al a1 dc.bN,al cp dc.bA,j dc.b',j dc.cb,ah dc.ca,j dc.bO,j dc.bx]) q q (.ptr q) (.lit q) q (mO ji) mV q q q q q q q (.b q (.n q q (.n q q (.n q q (.e q q (.mk (en:=bl) q (mO ji) q (mO (mO ji)) q) q .nil)))))) q q q q (by kernel_rfl) (by kernel_rfl)<|b1.fin q q q (.n q (.n q (.n q (.n q (.r q (eK.el (en:=bl) q (mO (mO ji)) q) jM .nil)))))) ?_;obtain rfl:=ax h;exact ag.bH (.n q (.n q (.n q (.n q (.r q (eK.el (en:=bl) q (mO (mO ji)) q) jM .nil)))))
   ·refine W.bS ?_;obtain rfl:=ax h;exact ag.bH (.n q (.n q (.n q (.n q (.r q (eK.el (en:=bl) q h9 q) jM .nil)))))
  obtain ⟨ff,ki,h⟩:=aB h;refine ag.bb<|W.bc ?_;refine W.rs [(0,_),(4,_),(5,_),(7,_),(8,.ptr ⟨0,[0]⟩ (bQ.1.toNat * bl.z+0)),(88,_)] (ai (O.bm q (.obj q) uv q)<|ai (O.cA q (.ptr q) cH q)<|ai (O.gtr (.lit q) (.k q))<|mX (.n q (.n q (.n q (.n q (.r q (eK.el (en:=bl) q ki q) jM (.n q .nil))))))) ?_;obtain ⟨fx,ab,h⟩:=aB h;refine W.bH [(0,.obj (dR.cells fx)),(4,.obj (dJ.cells ar)),(5,.obj (dF.cells a2)),(8,.ptr ⟨0,[0]⟩ (bQ.1.toNat * bl.z+0))] ?_ ?_
  ·clear h; have h:=ab; clear ab;refine W.bJ h q (λgB h=>?_) (λgB h=>?_)
   ·refine W.bc ?_;obtain ⟨Bd,ab,h⟩:=aB h;refine W.rs [(0,.obj (dR.cells fq)),(4,.obj (dJ.cells ar)),(5,.obj (dF.cells a2)),(7,j bQ.1),(8,.ptr ⟨0,[0]⟩ (bQ.1.toNat * bl.z+0)),(106,bk Bd)] ?_ ?_
    ·refine bu q<|ai (O.eql (.lit q) (.k q))<|ai (O.aA (.lit q)) ?_;rcases cM ab with ⟨jd,ab⟩ | ⟨jd,ab⟩
     ·obtain rfl:=ax ab;exact cN jd<|cN jd<|cN jd<|cN jd<|cN jd<|cN jd<|cN jd<|ai (O.eQ (.lit q) jd (.k q))<|bu q<|cN q<|cN q<|cN q<|cN q<|cN q<|ai (O.eQ (.lit q) q (.k q))<|mX (.n q (.n q (.n q (.n q (.r q (eK.el (en:=bl) q ki q) jM (.n q .nil))))))
     ·refine a' jd (O.aA (.obj q))<|a' jd (O.eJ (.ptr q))<|a' jd (O.bm q (.ptr q) wB q)<|a' jd (O.dz (y:=.bq b0.z ⟨0,[5]⟩ fq.bT.length) q (.ptr q) ye q q)<|a' jd (O.aA (.lit q)) ?_;obtain ⟨gQ,oI,ab⟩:=aB ab;refine a' jd (O.iC (en:=b0) q (.bq q) (.lit q) sj oI q)<|a' jd (O.kj (en:=b0) (x':=bk gQ) q (.ptr q) pT oI q q)<|ai (O.cB (.lit q) jd (.lit q))<|ai (O.aA (.lit q)) ?_;rcases cM ab with ⟨ij,ab⟩ | ⟨ij,ab⟩
      ·obtain rfl:=ax ab;exact cN ij<|cN ij<|cN ij<|cN ij<|cN ij<|ai (O.eQ (.lit q) ij (.k q))<|mX (.n q (.n q (.n q (.n q (.r q (eK.el (en:=bl) q ki q) jM (.n q .nil))))))
      ·refine a' ij (O.aA (.obj q))<|a' ij (O.bm q (.obj q) uv q)<|a' ij (O.cA q (.ptr q) cH q) ?_;obtain ⟨fR,lD,ab⟩:=aB ab;obtain rfl:=ax ab;exact au.c (cw.vw (ys:=[.ptr ⟨0,[]⟩ 0,j a2.c_]) q (.c (View.n0 q q) (.s .nil)) (Ix fq a2.c_ _ lD) call114 q) q q (.jA q q ij)<|a' ij (O.geq (.lit q) (.k q))<|ai (O.cB (.lit q) ij (.lit q))<|mX (.n q (.n q (.n q (.n q (.r q (eK.el (en:=bl) q ki q) jM (.n q .nil))))))
    obtain ⟨dZ,ab,h⟩:=aB h;refine W.bH [(0,.obj (dR.cells dZ)),(4,.obj (dJ.cells ar)),(5,.obj (dF.cells a2)),(7,j bQ.1),(8,.ptr ⟨0,[0]⟩ (bQ.1.toNat * bl.z+0))] ?_ ?_
    ·clear h; have h:=ab; clear ab;refine W.bJ h q (λEP h=>?_) (λEP h=>?_)
     ·obtain ⟨cU,uR,h⟩:=aB h;refine W.rx [(0,_),(4,_),(5,_),(7,_),(8,.ptr ⟨0,[0]⟩ (bQ.1.toNat * bl.z+0))] (ai (O.aA (.obj q))<|ai (O.bm q (.obj q) qP q)<|ai (O.cA q (.ptr q) cH q)<|ai (O.bm q (.obj q) kz q)<|ai (O.cA q (.ptr q) eP q)<|au.h4 (G2:=[(8,.ptr ⟨0,[0]⟩ (bQ.1.toNat * bl.z+0))]++[(112,.cr []),(0,.obj [al bl fq.aq.aX,al a1 cU.aq.bt,al bD cU.aq.aW,ah cU.aq.bw,ah cU.aq.bz,al b0 cU.bT,al a1 cU.bN,al cp cU.bA,j cU.b',j cU.cb,ah cU.ca,j cU.bO,j cU.bx]),(4,.obj (dJ.cells ar)),(5,.obj (dF.cells a2)),(7,j bQ.1)]) q (cq.fp (r:=0) (k0:=0) (y:=al bl fq.aq.aX) (cs5:=[al bl fq.aq.aX,al a1 cU.aq.bt,al bD cU.aq.aW,ah cU.aq.bw,ah cU.aq.bz,al b0 cU.bT,al a1 cU.bN,al cp cU.bA,j cU.b',j cU.cb,ah cU.ca,j cU.bO,j cU.bx]) (G1:=λv=>[(0,.obj [.lit v,al a1 fq.aq.bt,al bD fq.aq.aW,ah fq.aq.bw,ah fq.aq.bz,al b0 fq.bT,al a1 fq.bN,al cp fq.bA,j fq.b',j fq.cb,ah fq.ca,j fq.bO,j fq.bx]),(4,.obj (dJ.cells ar)),(5,.obj (dF.cells a2)),(7,j bQ.1),(107,.ptr ⟨0,[]⟩ 0),(109,j a2.At),(111,ah a2.Name)]) (G4:=λv=>[(112,.cr []),(0,.obj [.lit v,al a1 cU.aq.bt,al bD cU.aq.aW,ah cU.aq.bw,ah cU.aq.bz,al b0 cU.bT,al a1 cU.bN,al cp cU.bA,j cU.b',j cU.cb,ah cU.ca,j cU.bO,j cU.bx]),(4,.obj (dJ.cells ar)),(5,.obj (dF.cells a2)),(7,j bQ.1)]) (c4:=λv=>[.lit v,al a1 cU.aq.bt,al bD cU.aq.aW,ah cU.aq.bw,ah cU.aq.bz,al b0 cU.bT,al a1 cU.bN,al cp cU.bA,j cU.b',j cU.cb,ah cU.ca,j cU.bO,j cU.bx]) (G5:=[(112,.cr []),(0,.obj [al bl fq.aq.aX,al a1 cU.aq.bt,al bD cU.aq.aW,ah cU.aq.bw,ah cU.aq.bz,al b0 cU.bT,al a1 cU.bN,al cp cU.bA,j cU.b',j cU.cb,ah cU.ca,j cU.bO,j cU.bx]),(4,.obj (dJ.cells ar)),(5,.obj (dF.cells a2)),(7,j bQ.1)]) (A:=[(8,.ptr ⟨0,[0]⟩ (bQ.1.toNat * bl.z+0))]) q q q q (λv=>(.b q (.n q q (.n q q (.n q q (.p q q q q q q (.n q q (.n q q .nil)))))))) (λv=>hB.mP (G2:=[(4,.obj (dJ.cells ar)),(5,.obj (dF.cells a2)),(7,j bQ.1)]) (A:=[]) (ys:=[.ptr ⟨0,[]⟩ 0,j a2.At,ah a2.Name]) (args:=[.obj [.lit v,al a1 fq.aq.bt,al bD fq.aq.aW,ah fq.aq.bw,ah fq.aq.bz,al b0 fq.bT,al a1 fq.bN,al cp fq.bA,j fq.b',j fq.cb,ah fq.ca,j fq.bO,j fq.bx],j a2.At,ah a2.Name]) (cs':=[.lit v,al a1 cU.aq.bt,al bD cU.aq.aW,ah cU.aq.bw,ah cU.aq.bz,al b0 cU.bT,al a1 cU.bN,al cp cU.bA,j cU.b',j cU.cb,ah cU.ca,j cU.bO,j cU.bx]) (k0:=0) q q q q (.b q (.n q (.n q .nil))) q (DY v fq a2.At a2.Name _ uR) call94 (dH q q q) q q (dH q q q) .nil q) (λv=>q) (λv=>q) (λv=>q) (λv=>(.n q q (.b q (.n q q (.n q q (.n q q .nil)))))) q (.c (en:=bl) (L:=fq.aq.aX) q q ki q q q .nil))<|mX (.n q (.n q (.n q (.n q (.r q (eK.el (en:=bl) q ki q) jM .nil)))))) ?_;obtain rfl:=ax h;exact ag.bH (.n q (.n q (.n q (.n q (.r q (eK.el (en:=bl) q ki q) jM .nil)))))
     ·refine W.bS ?_;obtain rfl:=ax h;exact ag.bH (.n q (.n q (.n q (.n q (.r q (eK.el (en:=bl) q ki q) jM .nil)))))
    obtain ⟨eB,lE,h⟩:=aB h;refine ag.bb<|W.rs [(0,_),(4,_),(5,_),(7,_),(8,.ptr ⟨0,[0]⟩ (bQ.1.toNat * bl.z+0))] (ai (O.aA (.ptr q))<|ai (O.bm q (.obj q) uv q)<|ai (O.cA q (.ptr q) cH q)<|ai (O.eJ (.ptr q))<|ai (O.mu (en:=bl) q (.ptr q) yy lE q q)<|au.h4 (G2:=[(0,.obj [al bl (dZ.aq.aX.set bQ.1.toNat (⟨eB.Name,eB.Lit,a2.c_,eB.Level,eB.eN,eB.Tag⟩:bC)),al a1 dZ.aq.bt,al bD dZ.aq.aW,ah dZ.aq.bw,ah dZ.aq.bz,al b0 dZ.bT,al a1 dZ.bN,al cp dZ.bA,j dZ.b',j dZ.cb,ah dZ.ca,j dZ.bO,j dZ.bx]),(4,.obj (dJ.cells ar)),(5,.obj (dF.cells a2)),(7,j bQ.1),(8,.ptr ⟨0,[0]⟩ (bQ.1.toNat * bl.z+0))]) q (cq.qp (en:=bl) (y2:=(⟨eB.Name,eB.Lit,a2.c_,eB.Level,eB.eN,eB.Tag⟩:bC)) (cs':=[j a2.c_]) (x2:=.obj [al bl (dZ.aq.aX.set bQ.1.toNat (⟨eB.Name,eB.Lit,a2.c_,eB.Level,eB.eN,eB.Tag⟩:bC)),al a1 dZ.aq.bt,al bD dZ.aq.aW,ah dZ.aq.bw,ah dZ.aq.bz,al b0 dZ.bT,al a1 dZ.bN,al cp dZ.bA,j dZ.b',j dZ.cb,ah dZ.ca,j dZ.bO,j dZ.bx]) q q (.ptr q) (.lit q) q lE mV q q q q q q q (.b q (.n q q (.n q q (.n q q (.e q q (.mk (en:=bl) q lE q (mO lE) q) q .nil))))))<|mX (.n q (.n q (.n q (.n q (.r q (eK.el (en:=bl) q (mO lE) q) jM .nil)))))) ?_;obtain ⟨ic,oK,h⟩:=aB h;refine W.rx [(0,_),(4,_),(5,_),(8,.ptr ⟨0,[0]⟩ (bQ.1.toNat * bl.z+0))] (ai (O.aA (.obj q))<|ai (O.eJ (.ptr q))<|ai (O.bm q (.ptr q) wB q)<|ai (O.dz (y:=.bq b0.z ⟨0,[5]⟩ dZ.bT.length) q (.ptr q) ye q q)<|bu q<|ai (O.iC (en:=b0) q (.bq q) (.lit q) sj oK q)<|au.h4 (G2:=[(0,.obj [al bl (dZ.aq.aX.set bQ.1.toNat (⟨eB.Name,eB.Lit,a2.c_,eB.Level,eB.eN,eB.Tag⟩:bC)),al a1 dZ.aq.bt,al bD dZ.aq.aW,ah dZ.aq.bw,ah dZ.aq.bz,al b0 (dZ.bT.set bQ.1.toNat true),al a1 dZ.bN,al cp dZ.bA,j dZ.b',j dZ.cb,ah dZ.ca,j dZ.bO,j dZ.bx]),(4,.obj (dJ.cells ar)),(5,.obj (dF.cells a2)),(8,.ptr ⟨0,[0]⟩ (bQ.1.toNat * bl.z+0))]) q (cq.qp (en:=b0) (y2:=true) (cs':=[bk true]) (x2:=.obj [al bl (dZ.aq.aX.set bQ.1.toNat (⟨eB.Name,eB.Lit,a2.c_,eB.Level,eB.eN,eB.Tag⟩:bC)),al a1 dZ.aq.bt,al bD dZ.aq.aW,ah dZ.aq.bw,ah dZ.aq.bz,al b0 (dZ.bT.set bQ.1.toNat true),al a1 dZ.bN,al cp dZ.bA,j dZ.b',j dZ.cb,ah dZ.ca,j dZ.bO,j dZ.bx]) q q (.ptr q) (.k q) q oK xF q q q q q q q (.b q (.n q q (.n q q (.e q q (.mk (en:=bl) q (mO lE) q (mO lE) q) q .nil)))))<|mX (.n q (.n q (.n q (.r q (eK.el (en:=bl) q (mO lE) q) jM .nil))))) ?_;obtain rfl:=ax h;exact ag.bH (.n q (.n q (.n q (.r q (eK.el (en:=bl) q (mO lE) q) jM .nil))))
   ·refine W.bS ?_;obtain rfl:=ax h;exact ag.bH (.n q (.n q (.n q (.r q (eK.el (en:=bl) q ki q) jM .nil))))
  obtain ⟨lg,oL,h⟩:=aB h;refine ag.bb<|W.rs [(0,_),(4,_),(5,_),(8,.ptr ⟨0,[0]⟩ (bQ.1.toNat * bl.z+0)),(126,_)] (ai (O.bm q (.obj q) nb q)<|ai (O.cA q (.ptr q) eP q)<|ai (O.lH (.lit q) (.k q))<|mX (.n q (.n q (.n q (.r q (eK.el (en:=bl) q oL q) jM (.n q .nil)))))) ?_;obtain ⟨nX,ab,h⟩:=aB h;refine W.bH [(0,.obj (dR.cells nX))] ?_ ?_
  ·clear h; have h:=ab; clear ab;refine W.bJ h q (λrS h=>?_) (λrS h=>?_)
   ·refine W.bc<|W.bc ?_;obtain ⟨DF,ab,h⟩:=aB h;refine W.rd [[],[0],[0,1],[0,1,2],[0,1,2,3],aT 0 5 [],aT 0 6 [],aT 0 7 [],aT 0 8 [],aT 0 9 [],aT 0 6 [],aT 0 6 [10],aT 0 12 [],aT 0 13 []] [(0,.obj (dR.cells fx)),(4,.obj (dJ.cells ar)),(5,.obj (dF.cells a2)),(8,.ptr ⟨0,[0]⟩ (bQ.1.toNat * bl.z+0)),(140,bk DF)] eY (by kernel_rfl) ?_ ?_
    ·refine aw 0 (O.aA (.ptr q))<|aw 1 (O.eJ (.ptr q))<|aw 2 (O.mu (en:=bl) q (.ptr q) BE oL q q)<|aw 3 (O.kj (en:=bl) (x':=ah lg.Tag) q (.ptr q) eP oL q q)<|aw 4 (O.lH (.lit q) (.k q))<|aw 5 (O.aA (.lit q)) ?_;rcases cM ab with ⟨gC,ab⟩ | ⟨gC,ab⟩
     ·obtain rfl:=ax ab;exact bG 6 gC (O.aA (.ptr q))<|bG 7 gC (O.eJ (.ptr q))<|bG 8 gC (O.mu (en:=bl) q (.ptr q) BE oL q q)<|bG 9 gC (O.kj (en:=bl) (x':=ah lg.Tag) q (.ptr q) eP oL q q)<|bG 10 gC (O.bm q (.obj q) nb q)<|bG 11 gC (O.cA q (.ptr q) eP q)<|bG 12 gC (O.lH (.lit q) (.lit q))<|aw 13 (O.eQ (.lit q) gC (.lit q))<|b1.fin q q q (.n q (.n q (.n q (.r q (eK.el (en:=bl) q oL q) jM (.n q .nil)))))
     ·obtain rfl:=ax ab;exact aI 6 gC<|aI 7 gC<|aI 8 gC<|aI 9 gC<|aI 10 gC<|aI 11 gC<|aI 12 gC<|aw 13 (O.cB (.lit q) gC (.k q))<|b1.fin q q q (.n q (.n q (.n q (.r q (eK.el (en:=bl) q oL q) jM (.n q .nil)))))
    refine ag.bb ?_;obtain ⟨gi,ab,h⟩:=aB h;refine W.bH [(0,.obj (dR.cells gi)),(4,.obj (dJ.cells ar)),(8,.ptr ⟨0,[0]⟩ (bQ.1.toNat * bl.z+0))] ?_ ?_
    ·clear h; have h:=ab; clear ab;refine W.bJ h q (λyS h=>?_) (λyS h=>?_)
     ·obtain ⟨c3,wX,h⟩:=aB h;refine W.rx [(0,_),(4,_),(8,.ptr ⟨0,[0]⟩ (bQ.1.toNat * bl.z+0))] (ai (O.aA (.obj q))<|ai (O.bm q (.obj q) qP q)<|ai (O.cA q (.ptr q) cH q)<|ai (O.bm q (.obj q) kz q)<|ai (O.cA q (.ptr q) eP q)<|au.h4 (G2:=[(8,.ptr ⟨0,[0]⟩ (bQ.1.toNat * bl.z+0))]++[(146,.cr []),(0,.obj [al bl fx.aq.aX,al a1 c3.aq.bt,al bD c3.aq.aW,ah c3.aq.bw,ah c3.aq.bz,al b0 c3.bT,al a1 c3.bN,al cp c3.bA,j c3.b',j c3.cb,ah c3.ca,j c3.bO,j c3.bx]),(4,.obj (dJ.cells ar))]) q (cq.fp (r:=0) (k0:=0) (y:=al bl fx.aq.aX) (cs5:=[al bl fx.aq.aX,al a1 c3.aq.bt,al bD c3.aq.aW,ah c3.aq.bw,ah c3.aq.bz,al b0 c3.bT,al a1 c3.bN,al cp c3.bA,j c3.b',j c3.cb,ah c3.ca,j c3.bO,j c3.bx]) (G1:=λv=>[(0,.obj [.lit v,al a1 fx.aq.bt,al bD fx.aq.aW,ah fx.aq.bw,ah fx.aq.bz,al b0 fx.bT,al a1 fx.bN,al cp fx.bA,j fx.b',j fx.cb,ah fx.ca,j fx.bO,j fx.bx]),(4,.obj (dJ.cells ar)),(141,.ptr ⟨0,[]⟩ 0),(143,j a2.At),(145,ah a2.Name)]) (G4:=λv=>[(146,.cr []),(0,.obj [.lit v,al a1 c3.aq.bt,al bD c3.aq.aW,ah c3.aq.bw,ah c3.aq.bz,al b0 c3.bT,al a1 c3.bN,al cp c3.bA,j c3.b',j c3.cb,ah c3.ca,j c3.bO,j c3.bx]),(4,.obj (dJ.cells ar))]) (c4:=λv=>[.lit v,al a1 c3.aq.bt,al bD c3.aq.aW,ah c3.aq.bw,ah c3.aq.bz,al b0 c3.bT,al a1 c3.bN,al cp c3.bA,j c3.b',j c3.cb,ah c3.ca,j c3.bO,j c3.bx]) (G5:=[(146,.cr []),(0,.obj [al bl fx.aq.aX,al a1 c3.aq.bt,al bD c3.aq.aW,ah c3.aq.bw,ah c3.aq.bz,al b0 c3.bT,al a1 c3.bN,al cp c3.bA,j c3.b',j c3.cb,ah c3.ca,j c3.bO,j c3.bx]),(4,.obj (dJ.cells ar))]) (A:=[(8,.ptr ⟨0,[0]⟩ (bQ.1.toNat * bl.z+0))]) q q q q (λv=>(.b q (.n q q (.p q q q q q q (.n q q (.n q q .nil)))))) (λv=>hB.mP (G2:=[(4,.obj (dJ.cells ar))]) (A:=[]) (ys:=[.ptr ⟨0,[]⟩ 0,j a2.At,ah a2.Name]) (args:=[.obj [.lit v,al a1 fx.aq.bt,al bD fx.aq.aW,ah fx.aq.bw,ah fx.aq.bz,al b0 fx.bT,al a1 fx.bN,al cp fx.bA,j fx.b',j fx.cb,ah fx.ca,j fx.bO,j fx.bx],j a2.At,ah a2.Name]) (cs':=[.lit v,al a1 c3.aq.bt,al bD c3.aq.aW,ah c3.aq.bw,ah c3.aq.bz,al b0 c3.bT,al a1 c3.bN,al cp c3.bA,j c3.b',j c3.cb,ah c3.ca,j c3.bO,j c3.bx]) (k0:=0) q q q q (.b q (.n q (.n q .nil))) q (DY v fx a2.At a2.Name _ wX) call94 (.n q .nil) q q (.n q .nil) .nil q) (λv=>q) (λv=>q) (λv=>q) (λv=>(.n q q (.b q (.n q q .nil)))) q (.c (en:=bl) (L:=fx.aq.aX) q q oL q q q .nil))<|mX (.n q (.n q (.r q (eK.el (en:=bl) q oL q) jM .nil)))) ?_;obtain rfl:=ax h;exact ag.bH (.n q (.n q (.r q (eK.el (en:=bl) q oL q) jM .nil)))
     ·refine W.bS ?_;obtain rfl:=ax h;exact ag.bH (.n q (.n q (.r q (eK.el (en:=bl) q oL q) jM .nil)))
    obtain ⟨iv,ti,h⟩:=aB h;refine ag.bb<|W.br [0] (ai (O.aA (.ptr q))<|ai (O.bm q (.obj q) nb q)<|ai (O.cA q (.ptr q) eP q)<|ai (O.eJ (.ptr q))<|ai (O.mu (en:=bl) q (.ptr q) BE ti q q)<|au.h4 (G2:=[(0,.obj [al bl (gi.aq.aX.set bQ.1.toNat (⟨iv.Name,iv.Lit,iv.c_,iv.Level,iv.eN,ar.Tag⟩:bC)),al a1 gi.aq.bt,al bD gi.aq.aW,ah gi.aq.bw,ah gi.aq.bz,al b0 gi.bT,al a1 gi.bN,al cp gi.bA,j gi.b',j gi.cb,ah gi.ca,j gi.bO,j gi.bx])]) q (cq.qp (en:=bl) (y2:=(⟨iv.Name,iv.Lit,iv.c_,iv.Level,iv.eN,ar.Tag⟩:bC)) (cs':=[ah ar.Tag]) (x2:=.obj [al bl (gi.aq.aX.set bQ.1.toNat (⟨iv.Name,iv.Lit,iv.c_,iv.Level,iv.eN,ar.Tag⟩:bC)),al a1 gi.aq.bt,al bD gi.aq.aW,ah gi.aq.bw,ah gi.aq.bz,al b0 gi.bT,al a1 gi.bN,al cp gi.bA,j gi.b',j gi.cb,ah gi.ca,j gi.bO,j gi.bx]) q q (.ptr q) (.lit q) q ti vz q q q q q q q (.b q .nil))<|bZ q) ?_;obtain rfl:=ax h;exact ag.bH (.n q .nil)
   ·refine W.bS ?_;obtain rfl:=ax h;exact ag.bH (.n q .nil)
  obtain rfl:=ax h;exact ag.fin (Fin.ro .nil q (oU (by kernel_rfl)) (.az q q (.no (.no .nil))) q (.inl q))
theorem wm (a0:cC) (ar:ByteArray) (r:Int) (h:pD a0 ar=some r):cf Try.prog 96 [.bs ([aj bl a0.aq.aX,aj a1 a0.aq.bt,aj bD a0.aq.aW,ah a0.aq.bw,ah a0.aq.bz,aj b0 a0.bT,aj a1 a0.bN,aj cp a0.bA,j a0.b',j a0.cb,ah a0.ca,j a0.bO,j a0.bx]),ah ar] [none,none] (j r):=by
 unfold pD at h;refine cf.go (N:=⟨25,[]⟩) Try.func96 q q q q (W.fin ?_);refine W.st [(0,.bs ([aj bl a0.aq.aX,aj a1 a0.aq.bt,aj bD a0.aq.aW,ah a0.aq.bw,ah a0.aq.bz,aj b0 a0.bT,aj a1 a0.bN,aj cp a0.bA,j a0.b',j a0.cb,ah a0.ca,j a0.bO,j a0.bx])),(1,ah ar)] ?_;refine W.a7 [0,1] ?_;refine W.bc<|W.a7 [0,1,5] ?_;refine W.bo ?_;obtain ⟨x2,ao,h⟩:=aB h;refine W.cj (G1:=[(0,_),(1,_),(5,_)]) (dH q q q) ?_;refine W.jz (s:=0) (λ(s1:Int)=>[(0,.bs ([aj bl a0.aq.aX,aj a1 a0.aq.bt,aj bD a0.aq.aW,ah a0.aq.bw,ah a0.aq.bz,aj b0 a0.bT,aj a1 a0.bN,aj cp a0.bA,j a0.b',j a0.cb,ah a0.ca,j a0.bO,j a0.bx])),(1,ah ar),(5,j s1)]) 0 (λ(a6:Unit)=>[]) (λ(bX:Int)=>[(4,j bX)]) ao (λs1 o h=>?_) (λa6 J=>?_) (λbX J=>?_)
 ·clear ao;refine W.bc<|W.a7 [0,1,5,12] ?_;refine W.bJ h q (λdN h=>?_) (λdN h=>?_)
  ·refine W.bS<|ag.bb ?_;refine W.bc<|W.bo ?_;obtain ⟨bF,fM,h⟩:=aB h;refine W.a7 [0,1,5,23] ?_;refine W.bJ h q (λcP h=>?_) (λcP h=>?_)
   ·refine W.a7 [4] ?_;refine W.rt ?_;refine ag.dY ?_;refine ag.c5 ?_;obtain rfl:=ax h;exact ag.fX (.n q .nil)
   ·refine W.bS<|ag.bo ?_;refine ag.bb<|W.br [0,1,5] (bu q<|ai (O.add (.lit q) (.k q))<|au.br [0,1,14] q<|au.a_) ?_;obtain rfl:=ax h;exact ag.go (dH q q q)
  ·refine W.dj ?_;refine ag.di ?_;obtain rfl:=ax h;exact ag.x2 .nil
 ·subst J;refine ag.dk ?_;refine ag.bb<|W.a7 [4] ?_;refine W.rt ?_;obtain rfl:=ax h;exact cF (.f q q .nil)
 ·subst J;refine ag.dY ?_;refine ag.c5 ?_;obtain rfl:=ax h;exact cF (.f q q .nil)
theorem Iy (a0:cC) (ar:Sym) (r:Int × cC) (h:tr a0 ar=some r):cf Try.prog 115 [.obj (dR.cells a0),.agg (dF.cells ar)] [some (.obj [al bl r.2.aq.aX,al a1 r.2.aq.bt,al bD r.2.aq.aW,ah r.2.aq.bw,ah r.2.aq.bz,al b0 r.2.bT,al a1 r.2.bN,al cp r.2.bA,j r.2.b',j r.2.cb,ah r.2.ca,j r.2.bO,j r.2.bx]),none] (j r.1):=by
 unfold tr at h;refine cf.go (N:=⟨32,[0]⟩) Try.func115 q q q q (W.fin ?_);refine W.st [(0,.obj (dR.cells a0)),(1,.agg (dF.cells ar))] ?_;refine W.bV [0,3] (ai (O.box (.ck q q) q)<|au.a_) ?_;refine W.bc<|W.a7 [0,3,8] ?_;refine W.bJ h q (λdh h=>?_) (λdh h=>?_)
 ·obtain ⟨x2,hM,h⟩:=aB h;refine W.bV [0,4] (ai (O.aA (.obj q))<|ai (O.dP (cs':=[ah ar.Name,bk ar.Lit,j ar.c_,j ar.At]) q (.obj q) mH q q)<|au.h4 q (cq.call q q (hB.mP (G2:=[]) (A:=[]) (ys:=[.ptr ⟨0,[]⟩ 0,.agg (dF.cells ar)]) (args:=[.obj (dR.cells a0),.agg (dF.cells ar)]) (cs':=[al bl x2.2.aq.aX,al a1 x2.2.aq.bt,al bD x2.2.aq.aW,ah x2.2.aq.bw,ah x2.2.aq.bz,al b0 x2.2.bT,al a1 x2.2.bN,al cp x2.2.bA,j x2.2.b',j x2.2.cb,ah x2.2.ca,j x2.2.bO,j x2.2.bx]) (k0:=0) q q q q (.b q (.n q .nil)) q (Iw a0 ar _ hM) call113 .nil q q .nil .nil q))<|au.a_) ?_;refine W.rt ?_;refine ag.c5 ?_;obtain rfl:=ax h;exact ag.fin (Fin.ro (.f q q .nil) q (oU (by kernel_rfl)) (.az q q (.no .nil)) q (.inr q))
 ·refine W.bS<|ag.bb ?_;refine W.bc ?_;obtain ⟨a6,h_,h⟩:=aB h;refine W.bV [0,3,5] (ai (O.aA (.obj q))<|ai (O.bm q (.obj q) kz q)<|ai (O.cA q (.ptr q) eP q)<|d' (cw.vw (ys:=[.ptr ⟨0,[]⟩ 0,ah ar.Name]) q (.c (View.n0 q q) (.s .nil)) (wm a0 ar.Name _ h_) call96 q)<|au.a_) ?_;refine W.a7 [0,3,5,17] ?_;refine W.bJ h q (λdb h=>?_) (λdb h=>?_)
  ·refine W.a7 [0,4] ?_;refine W.rt ?_;refine ag.c5 ?_;obtain rfl:=ax h;exact ag.fin (Fin.ro (.f q q .nil) q (oU (by kernel_rfl)) (.az q q (.no .nil)) q (.inr q))
  ·refine W.bS<|ag.bb ?_;obtain ⟨b5,j6,h⟩:=aB h;refine W.bV [0,3,6] (ai (O.aA (.obj q))<|ai (O.dP (cs':=[ah ar.Name,bk ar.Lit,j ar.c_,j ar.At]) q (.obj q) mH q q)<|d' (cw.vw (ys:=[.ptr ⟨0,[]⟩ 0,.agg (dF.cells ar)]) q (.c (View.n0 q q) (.c (.ry (.s (.s (.s (.s .nil))))) .nil)) (DW a0 ar _ j6) call95 q)<|au.a_) ?_;refine W.bc<|W.a7 [0,3,6,24] ?_;refine W.bJ h q (λdB h=>?_) (λdB h=>?_)
   ·obtain ⟨bj,f_,h⟩:=aB h;refine W.bV [0] (ai (O.aA (.obj q))<|ai (O.bm q (.obj q) qP q)<|ai (O.cA q (.ptr q) cH q)<|ai (O.bm q (.obj q) kz q)<|ai (O.cA q (.ptr q) eP q)<|au.h4 q (cq.call q q (hB.mP (G2:=[]) (A:=[]) (ys:=[.ptr ⟨0,[]⟩ 0,j ar.At,ah ar.Name]) (args:=[.obj (dR.cells a0),j ar.At,ah ar.Name]) (cs':=[al bl bj.aq.aX,al a1 bj.aq.bt,al bD bj.aq.aW,ah bj.aq.bw,ah bj.aq.bz,al b0 bj.bT,al a1 bj.bN,al cp bj.bA,j bj.b',j bj.cb,ah bj.ca,j bj.bO,j bj.bx]) (k0:=0) q q q q (.b q (.n q (.n q .nil))) q (ue a0 ar.At ar.Name _ f_) call94 .nil q q .nil .nil q))<|bZ q) ?_;refine W.a7 [0,4] ?_;refine W.rt ?_;refine ag.c5 ?_;obtain rfl:=ax h;exact ag.fin (Fin.ro (.f q q .nil) q (oU (by kernel_rfl)) (.az q q (.no .nil)) q (.inr q))
   ·refine W.bS<|ag.bb ?_;refine W.a7 [0,4] ?_;refine W.rt ?_;obtain rfl:=ax h;exact ag.fin (Fin.ro (.f q q .nil) q (oU (by kernel_rfl)) (.az q q (.no .nil)) q (.inr q))
theorem OZ (a0:cC) (ar:ByteArray) (a2:Alt) (r:cC) (h:q4 a0 ar a2=some r):cf Try.prog 97 [.obj (dR.cells a0),ah ar,.agg (eD.cells a2)] [some (.obj [al bl r.aq.aX,al a1 r.aq.bt,al bD r.aq.aW,ah r.aq.bw,ah r.aq.bz,al b0 r.bT,al a1 r.bN,al cp r.bA,j r.b',j r.cb,ah r.ca,j r.bO,j r.bx]),none,none] (.cr []):=by
 unfold q4 at h;refine cf.go (N:=⟨173,[0]⟩) Try.func97 q q q q (W.fin ?_);refine W.st [(0,.obj (dR.cells a0)),(1,ah ar),(2,.agg (eD.cells a2))] ?_;refine W.bV [0,1,5] (ai (O.box (.ck q q) q)<|bZ q) ?_;refine W.bc ?_;obtain ⟨aH,fA,h⟩:=aB h;refine W.rd [[],[],[0,1],[0,1,2],[],[4],aT 0 6 [],[],aT 0 8 []] [(0,_),(5,_),(6,_)] eY (by kernel_rfl) (aw 0 (O.aA (.obj q))<|aw 1 (O.aA (.lit q))<|jn 2 (cw.vw (ys:=[.ptr ⟨0,[]⟩ 0,ah ar]) q (.c (View.n0 q q) (.s .nil)) (wm a0 ar _ fA) call96 q)<|aw 3 (O.add (.k q) (.lit q))<|aw 4 (O.bm q (.obj q) Jg q)<|aw 5 (O.cA q (.ptr q) cH q)<|aw 6 (O.fi (cs:=[j (aM (1+aH)),.aO,j (-1),ah aQ,.aO,j a2.At]) GQ AG q q q)<|aw 7 (O.e8 (cs:=[j 0,.aO,j 0,ah aQ,.aO,j 0]) AG q q)<|b1.dQ 8 (G2:=[(0,.obj (dR.cells a0)),(5,.obj (eD.cells a2)),(6,.obj [j (aM (1+aH)),.aO,j (-1),ah aQ,.aO,j a2.At])]) (cs2:=[j (aM (1+aH)),.aO,j (-1),ah aQ,.aO,j a2.At]) q (by kernel_rfl) (by kernel_rfl) q q q (.obj q) (.ck q q) q L6 q q q q (.n q q (.n q q (.b q .nil)))<|b1.fin q q q (dH q q q)) ?_;refine ag.bb<|W.bc ?_;refine W.a7 [0,5,6,7] ?_;refine W.bo ?_;obtain ⟨a6,ao,h⟩:=aB h;refine W.cj (G1:=[(0,_),(5,_),(6,.obj [j (aM (1+aH)),al aG ([]:List Int),j (-1),ah aQ,.aO,j a2.At]),(7,_)]) (.n q (.n q (.w q q (ln.obj (.f (.o (.f (.f (.f (.f .nil))))))) (.n q .nil)))) ?_;refine W.e4 (s:=(a0,([]:List Int),aQ,a2.At,0)) (λ(s2:cC × List Int × ByteArray × Int × Int)=>[(0,.obj (dR.cells s2.1)),(5,.obj (eD.cells a2)),(6,.obj [j (aM (1+aH)),al aG s2.2.1,j (-1),ah s2.2.2.1,.aO,j s2.2.2.2.1]),(7,j s2.2.2.2.2)]) 0 (λ(a6:cC × List Int × ByteArray × Int)=>[(0,.obj (dR.cells a6.1)),(5,.obj (eD.cells a2)),(6,.obj [j (aM (1+aH)),al aG a6.2.1,j (-1),ah a6.2.2.1,.aO,j a6.2.2.2])]) ao (λs2 o h=>?_) ?_
 ·clear ao;refine W.bc<|W.a7 [0,5,6,7,21] ?_;refine W.bJ h q (λdN h=>?_) (λdN h=>?_)
  ·refine W.bS<|ag.bb ?_;refine W.bc ?_;obtain ⟨iV,ab,h⟩:=aB h;refine W.bH [(0,.obj (dR.cells iV.1)),(5,.obj (eD.cells a2)),(6,.obj [j (aM (1+aH)),al aG iV.2.1,j (-1),ah iV.2.2.1,.aO,j iV.2.2.2]),(7,j s2.2.2.2.2)] ?_ ?_
   ·clear h; have h:=ab; clear ab;refine W.bo ?_;obtain ⟨bj,f_,h⟩:=aB h;refine W.bV [0,5,6,7,8] (ai (O.bm q (.obj q) Eb q)<|ai (O.dz (y:=aj lu a2.jr) q (.ptr q) DZ q q)<|bu q<|ai (O.cQ (.aD q) (.lit q) As f_)<|ai (O.iW (cs':=[ah bj.Sym.Name,bk bj.Sym.Lit,j bj.Sym.c_,j bj.Sym.At,ah bj.Code,j bj.At]) (.bs q) A7 q q)<|ai (O.e8 (cs:=[ah aQ,bk false,j 0,j 0,ah aQ,j 0]) xN q q)<|au.dQ (G2:=[(0,_),(5,_),(6,_),(7,_),(8,_)]) (cs2:=[ah bj.Sym.Name,bk bj.Sym.Lit,j bj.Sym.c_,j bj.Sym.At,ah bj.Code,j bj.At]) q (.obj q) (.ck q q) q G7 q q q q (.n q q (.n q q (.n q q (.n q q (.b q .nil)))))<|bZ q) ?_;obtain ⟨jk,ab,h⟩:=aB h;refine W.bH [(0,.obj (dR.cells jk.1)),(5,.obj (eD.cells a2)),(6,.obj [j (aM (1+aH)),al aG jk.2.1,j (-1),ah jk.2.2.1,.aO,j jk.2.2.2]),(7,j s2.2.2.2.2)] ?_ ?_
    ·clear h; have h:=ab; clear ab;refine W.bo<|W.a7 [0,5,6,7,8,82] ?_;obtain ⟨oP,ab,h⟩:=aB h;refine W.bH [(0,.obj (dR.cells oP.1)),(5,.obj (eD.cells a2)),(6,.obj [j (aM (1+aH)),al aG oP.2.1,j (-1),ah oP.2.2.1,.aO,j oP.2.2.2]),(7,j s2.2.2.2.2)] ?_ ?_
     ·clear h; have h:=ab; clear ab;refine W.bJ h q (λej h=>?_) (λej h=>?_)
      ·obtain ⟨cy,h9,h⟩:=aB h;obtain ⟨cL,kh,h⟩:=aB h;refine W.rd [[],[0],[],[],[3],[2,3,4],[2,3,4,5],aT 0 7 [],aT 0 8 [],aT 0 9 []] [(0,_),(5,_),(6,_),(7,_)] eY (by kernel_rfl) (aw 0 (O.bm q (.obj q) mv q)<|aw 1 (O.dz (y:=.bq aG.z ⟨6,[1]⟩ s2.2.1.length) q (.ptr q) ig q q)<|aw 2 (O.aA (.obj q))<|aw 3 (O.bm q (.obj q) yz q)<|aw 4 (O.dP (cs':=[ah bj.Sym.Name,bk bj.Sym.Lit,j bj.Sym.c_,j bj.Sym.At]) q (.ptr q) mH q q)<|b1.fi 5 (G2:=(6,.obj [j (aM (1+aH)),al aG s2.2.1,j (-1),ah s2.2.2.1,.aO,j s2.2.2.2.1])::[(91,j cy.1),(0,.obj [al bl cy.2.aq.aX,al a1 cy.2.aq.bt,al bD cy.2.aq.aW,ah cy.2.aq.bw,ah cy.2.aq.bz,al b0 cy.2.bT,al a1 cy.2.bN,al cp cy.2.bA,j cy.2.b',j cy.2.cb,ah cy.2.ca,j cy.2.bO,j cy.2.bx]),(5,.obj (eD.cells a2)),(7,j s2.2.2.2.2)]) (U:=[(1,87,some (.bq aG.z ⟨6,[1]⟩ s2.2.1.length)),(0,86,some (.ptr ⟨6,[]⟩ 1))]) (n4.box (r:=6) (G1:=[(0,.obj (dR.cells s2.1)),(5,.obj (eD.cells a2)),(7,j s2.2.2.2.2),(88,.ptr ⟨0,[]⟩ 0),(90,.agg (dF.cells bj.Sym))]) (G2:=[(91,j cy.1),(0,.obj [al bl cy.2.aq.aX,al a1 cy.2.aq.bt,al bD cy.2.aq.aW,ah cy.2.aq.bw,ah cy.2.aq.bz,al b0 cy.2.bT,al a1 cy.2.bN,al cp cy.2.bA,j cy.2.b',j cy.2.cb,ah cy.2.ca,j cy.2.bO,j cy.2.bx]),(5,.obj (eD.cells a2)),(7,j s2.2.2.2.2)]) (cq.call q q (hB.mP (G2:=[(5,.obj (eD.cells a2)),(7,j s2.2.2.2.2)]) (A:=[]) (ys:=[.ptr ⟨0,[]⟩ 0,.agg (dF.cells bj.Sym)]) (args:=[.obj (dR.cells s2.1),.agg (dF.cells bj.Sym)]) (cs':=[al bl cy.2.aq.aX,al a1 cy.2.aq.bt,al bD cy.2.aq.aW,ah cy.2.aq.bw,ah cy.2.aq.bz,al b0 cy.2.bT,al a1 cy.2.bN,al cp cy.2.bA,j cy.2.b',j cy.2.cb,ah cy.2.ca,j cy.2.bO,j cy.2.bx]) (k0:=0) q q q q (.b q (.n q .nil)) q (Iy s2.1 bj.Sym _ h9) call115 (fc q q) q q (fc q q) .nil q)) q (.n q (.n q (.n q (.q q q q (.n q .nil))))) q q q) q q (by kernel_rfl) q q q (.c (.inl ⟨6,[1],_,_,_,_,q,by simp [sf],q,q,Nat.le_refl _⟩) q q q q q (gg.wanted .none) (O.dz (y:=.bq aG.z ⟨6,[1]⟩ s2.2.1.length) q (.ptr q) ig q q) (.c (.inr (.inr (.inr (.inl ⟨6,_,_,q,q,jl q,by simp,_,q,jl q⟩)))) q q q q q (gg.wanted .none) (O.bm q (.obj q) mv q) .nil)) (by kernel_rfl)<|b1.gP 6 (x:=aj aG [cy.1]) (O.dI (ys:=[j cy.1]) aG [cy.1] eS q q q q q q mj q q) q q q q .none<|aw 7 (O.ap (en:=aG) (r:=cL) (.bq q) q (.aD q) .i pa q kh)<|aw 8 (O.bm q (.obj q) mv q)<|b1.ky 9 (G2:=[(0,.obj (dR.cells cy.2)),(5,.obj (eD.cells a2)),(6,.obj [j (aM (1+aH)),al aG (s2.2.1++[cy.1]),j (-1),ah s2.2.2.1,.aO,j s2.2.2.2.1]),(7,j s2.2.2.2.2)]) (cq.nw (g1:=_) (en:=aG) (M:=[cy.1]) (cs2:=[j (aM (1+aH)),al aG (s2.2.1++[cy.1]),j (-1),ah s2.2.2.1,.aO,j s2.2.2.2.1]) q q (.ptr q) (.b3 q) q q q .nq .hP q q vy q q q q (.n q q (.n q q (.b q (.n q q .nil))))) q q q q (by kernel_rfl) (by kernel_rfl)<|b1.fin q q q (dA q q q q)) ?_;obtain rfl:=ax h;exact ag.bH (dA q q q q)
      ·refine W.a7 [0,5,6,7,8,95] ?_;obtain ⟨iU,ab,h⟩:=aB h;refine W.bH [(0,.obj [al bl s2.1.aq.aX,al a1 s2.1.aq.bt,al bD iU.1,ah s2.1.aq.bw,ah s2.1.aq.bz,al b0 s2.1.bT,al a1 s2.1.bN,al cp s2.1.bA,j s2.1.b',j s2.1.cb,ah s2.1.ca,j s2.1.bO,j iU.2.1]),(5,.obj (eD.cells a2)),(6,.obj [j (aM (1+aH)),al aG iU.2.2.1,j (-1),ah iU.2.2.2.1,.aO,j iU.2.2.2.2]),(7,j s2.2.2.2.2)] ?_ ?_
       ·clear h; have h:=ab; clear ab;refine W.bJ h q (λey h=>?_) (λey h=>?_)
        ·refine W.rd [[],[0],[],[2],[0,1],[0,1,4],aT 0 6 [],aT 0 7 []] [(0,_),(5,_),(6,_),(7,_)] eY (by kernel_rfl) (aw 0 (O.bm q (.obj q) qQ q)<|aw 1 (O.cA q (.ptr q) eP q)<|aw 2 (O.bm q (.obj q) BF q)<|aw 3 (O.cA q (.ptr q) cH q)<|aw 4 (O.bm q (.obj q) I6 q)<|b1.fi 5 (G2:=[(0,.obj (dR.cells s2.1)),(5,.obj (eD.cells a2)),(6,.obj [j (aM (1+aH)),al aG s2.2.1,j (-1),ah bj.Code,.aO,j s2.2.2.2.1]),(7,j s2.2.2.2.2),(8,.obj (lu.cells bj))]) (U:=[(3,105,some (j bj.At)),(2,104,some (.ptr ⟨8,[]⟩ 5))]) (lS.v (cq.nJ (cq.dQ (G2:=[(0,.obj (dR.cells s2.1)),(5,.obj (eD.cells a2)),(6,.obj [j (aM (1+aH)),al aG s2.2.1,j (-1),ah bj.Code,.aO,j s2.2.2.2.1]),(7,j s2.2.2.2.2),(8,.obj (lu.cells bj))]) (cs2:=[j (aM (1+aH)),al aG s2.2.1,j (-1),ah bj.Code,.aO,j s2.2.2.2.1]) q q q (.ptr q) (.lit q) q vz q q q q (.n q q (.n q q (.b q (.n q q (.n q q .nil)))))))) q q (by kernel_rfl) q q q (.c (.inr (.inl ⟨_,q⟩)) q q q q q (gg.wanted .none) (O.cA q (.ptr q) cH q) (.c (.inr (.inr (.inr (.inl ⟨8,_,_,q,q,jl q,by simp,_,q,jl q⟩)))) q q q q q (gg.wanted .none) (O.bm q (.obj q) BF q) .nil)) (by kernel_rfl)<|aw 6 (O.bm q (.obj q) I8 q)<|b1.dQ 7 (G2:=[(0,.obj (dR.cells s2.1)),(5,.obj (eD.cells a2)),(6,.obj [j (aM (1+aH)),al aG s2.2.1,j (-1),ah bj.Code,.aO,j bj.At]),(7,j s2.2.2.2.2)]) (cs2:=[j (aM (1+aH)),al aG s2.2.1,j (-1),ah bj.Code,.aO,j bj.At]) q (by kernel_rfl) (by kernel_rfl) q q q (.ptr q) (.lit q) q mV q q q q (.n q q (.n q q (.b q (.n q q .nil))))<|b1.fin q q q (dA q q q q)) ?_;obtain rfl:=ax h;exact ag.bH (dA q q q q)
        ·refine W.bV [0,5,6,7,8] (ai (O.aA (.obj q))<|ai (O.eJ (.ptr q))<|ai (O.bm q (.ptr q) yw q)<|ai (O.cA q (.ptr q) cH q)<|ai (O.add (.lit q) (.k q))<|ai (O.eJ (.ptr q))<|ai (O.bm q (.ptr q) yw q)<|au.dQ (G2:=[(0,_),(5,_),(6,_),(7,_),(8,_)]) (cs2:=[al bl s2.1.aq.aX,al a1 s2.1.aq.bt,al bD s2.1.aq.aW,ah s2.1.aq.bw,ah s2.1.aq.bz,al b0 s2.1.bT,al a1 s2.1.bN,al cp s2.1.bA,j s2.1.b',j s2.1.cb,ah s2.1.ca,j s2.1.bO,j (aM (s2.1.bx+1))]) q (.ptr q) (.lit q) q mV q q q q (.b q (.n q q (.n q q (.n q q (.n q q .nil)))))<|bZ q) ?_;refine W.bc ?_;obtain ⟨eg,kH,h⟩:=aB h;obtain ⟨cm,k_,h⟩:=aB h;refine W.rd [[],[],[1],[1,2],[1,2,3],[1,2,3,4],[],[6],[6,7],[6,7,8],[6,7,8,9],[],[11],[11,12],[11,12,13],aT 6 9 [],[],[16],[],[],[19],[18,19,20],[],[22],aT 6 18 [],aT 6 19 [],aT 1 25 [],aT 0 27 [],aT 0 28 [],aT 0 29 [],aT 0 30 []] [(0,_),(5,_),(6,_),(7,_)] eY (by kernel_rfl) (aw 0 (O.aA (.obj q))<|aw 1 (O.aA (.obj q))<|aw 2 (O.eJ (.ptr q))<|aw 3 (O.bm q (.ptr q) j2 q)<|aw 4 (O.bm q (.ptr q) lW q)<|aw 5 (O.dz (y:=.bq bD.z ⟨0,[2]⟩ s2.1.aq.aW.length) q (.ptr q) na q q)<|aw 6 (O.aA (.obj q))<|aw 7 (O.eJ (.ptr q))<|aw 8 (O.bm q (.ptr q) wC q)<|aw 9 (O.dz (y:=.bq cp.z ⟨0,[7]⟩ s2.1.bA.length) q (.ptr q) yf q q)<|aw 10 (O.py (.bq q) Ar)<|aw 11 (O.aA (.obj q))<|aw 12 (O.eJ (.ptr q))<|aw 13 (O.bm q (.ptr q) yw q)<|aw 14 (O.cA q (.ptr q) cH q)<|aw 15 (O.add (.lit q) (.lit q))<|aw 16 (O.bm q (.obj q) qQ q)<|aw 17 (O.cA q (.ptr q) eP q)<|aw 18 (O.dI (ys:=[]) aG ([]:List Int) eS q q q q q q mj q q)<|aw 19 (O.bm q (.obj q) mv q)<|aw 20 (O.dz (y:=.bq aG.z ⟨6,[1]⟩ s2.2.1.length) q (.ptr q) ig q q)<|aw 21 (O.ap (en:=aG) (r:=eg) (.own q) q (.bq q) (.flat aG q) pa q kH)<|aw 22 (O.bm q (.obj q) BF q)<|aw 23 (O.cA q (.ptr q) cH q)<|aw 24 (O.fi (cs:=[j (aM ((s2.1.bA.length:Int)+(aM (s2.1.bx+1)))),.aO,j (-1),ah bj.Code,.bq aG.z ⟨57,[]⟩ (([]:List Int).length+s2.2.1.length),j bj.At]) GQ AG q q q)<|aw 25 (O.qH (ys:=[.agg [j (aM ((s2.1.bA.length:Int)+(aM (s2.1.bx+1)))),.aO,j (-1),ah bj.Code,.bq aG.z ⟨57,[]⟩ (([]:List Int).length+s2.2.1.length),j bj.At]]) (cs:=[j (aM ((s2.1.bA.length:Int)+(aM (s2.1.bx+1)))),.aO,j (-1),ah bj.Code,.bq aG.z ⟨57,[]⟩ (([]:List Int).length+s2.2.1.length),j bj.At]) mT q q q q q Hr q q)<|aw 26 (O.Nh (en:=bD) (M:=[(⟨aM ((s2.1.bA.length:Int)+(aM (s2.1.bx+1))),([]:List Int),(-1),bj.Code,([]:List Int)++s2.2.1,bj.At⟩:Prod)]) (r:=cm) (.bq q) q (.own q) q q q q HS q k_ (Tc (by kernel_rfl) (by kernel_rfl)))<|aw 27 (O.eJ (.ptr q))<|aw 28 (O.bm q (.ptr q) j2 q)<|aw 29 (O.bm q (.ptr q) lW q)<|b1.ky 30 (G2:=[(0,.obj [al bl s2.1.aq.aX,al a1 s2.1.aq.bt,al bD (s2.1.aq.aW++[(⟨aM ((s2.1.bA.length:Int)+(aM (s2.1.bx+1))),([]:List Int),(-1),bj.Code,([]:List Int)++s2.2.1,bj.At⟩:Prod)]),ah s2.1.aq.bw,ah s2.1.aq.bz,al b0 s2.1.bT,al a1 s2.1.bN,al cp s2.1.bA,j s2.1.b',j s2.1.cb,ah s2.1.ca,j s2.1.bO,j (aM (s2.1.bx+1))]),(5,.obj (eD.cells a2)),(6,.obj [j (aM (1+aH)),al aG s2.2.1,j (-1),ah s2.2.2.1,.aO,j s2.2.2.2.1]),(7,j s2.2.2.2.2)]) (cq.nw (g1:=_) (en:=bD) (M:=[(⟨aM ((s2.1.bA.length:Int)+(aM (s2.1.bx+1))),([]:List Int),(-1),bj.Code,([]:List Int)++s2.2.1,bj.At⟩:Prod)]) (cs2:=[al bl s2.1.aq.aX,al a1 s2.1.aq.bt,al bD (s2.1.aq.aW++[(⟨aM ((s2.1.bA.length:Int)+(aM (s2.1.bx+1))),([]:List Int),(-1),bj.Code,([]:List Int)++s2.2.1,bj.At⟩:Prod)]),ah s2.1.aq.bw,ah s2.1.aq.bz,al b0 s2.1.bT,al a1 s2.1.bN,al cp s2.1.bA,j s2.1.b',j s2.1.cb,ah s2.1.ca,j s2.1.bO,j (aM (s2.1.bx+1))]) q q (.ptr q) (.b3 q) q q q (.f (.f (.f (.f (.lI q q q .nq (.f .nil)))))) (.f (.z (.f (.f (.z (hv:=kb.lI q q) (.f .nil)))))) q q G3 q q q q (.b q (.n q q (.n q q (.n q q .nil))))) q q q q (by kernel_rfl) (by kernel_rfl)<|b1.fin q q q (dA q q q q)) ?_;refine ag.bb ?_;obtain ⟨b7,ji,h⟩:=aB h;refine W.rd [[],[0],[],[2],[2,3],[2,3,4],[2,3,4,5],aT 2 5 [],[],[8],[8,9],[8,9,10],aT 2 10 [],aT 2 11 [],aT 0 14 [],aT 0 15 [],aT 0 16 []] [(0,_),(5,_),(6,_),(7,_)] eY (by kernel_rfl) (aw 0 (O.bm q (.obj q) mv q)<|aw 1 (O.dz (y:=.bq aG.z ⟨6,[1]⟩ s2.2.1.length) q (.ptr q) ig q q)<|aw 2 (O.aA (.obj q))<|aw 3 (O.eJ (.ptr q))<|aw 4 (O.bm q (.ptr q) wC q)<|aw 5 (O.dz (y:=.bq cp.z ⟨0,[7]⟩ s2.1.bA.length) q (.ptr q) yf q q)<|aw 6 (O.py (.bq q) Ar)<|aw 7 (O.add (.k q) (.lit q))<|aw 8 (O.aA (.obj q))<|aw 9 (O.eJ (.ptr q))<|aw 10 (O.bm q (.ptr q) yw q)<|aw 11 (O.cA q (.ptr q) cH q)<|aw 12 (O.add (.lit q) (.lit q))<|b1.gP 13 (x:=aj aG [aM ((aM (1000+(s2.1.bA.length:Int)))+(aM (s2.1.bx+1)))]) (O.dI (ys:=[j (aM ((aM (1000+(s2.1.bA.length:Int)))+(aM (s2.1.bx+1))))]) aG [aM ((aM (1000+(s2.1.bA.length:Int)))+(aM (s2.1.bx+1)))] eS q q q q q q mj q q) q q q q .none<|aw 14 (O.ap (en:=aG) (r:=b7) (.bq q) q (.aD q) .i pa q ji)<|aw 15 (O.bm q (.obj q) mv q)<|b1.ky 16 (G2:=[(0,.obj [al bl s2.1.aq.aX,al a1 s2.1.aq.bt,al bD (s2.1.aq.aW++[(⟨aM ((s2.1.bA.length:Int)+(aM (s2.1.bx+1))),([]:List Int),(-1),bj.Code,([]:List Int)++s2.2.1,bj.At⟩:Prod)]),ah s2.1.aq.bw,ah s2.1.aq.bz,al b0 s2.1.bT,al a1 s2.1.bN,al cp s2.1.bA,j s2.1.b',j s2.1.cb,ah s2.1.ca,j s2.1.bO,j (aM (s2.1.bx+1))]),(5,.obj (eD.cells a2)),(6,.obj [j (aM (1+aH)),al aG (s2.2.1++[aM ((aM (1000+(s2.1.bA.length:Int)))+(aM (s2.1.bx+1)))]),j (-1),ah s2.2.2.1,.aO,j s2.2.2.2.1]),(7,j s2.2.2.2.2)]) (cq.nw (g1:=_) (en:=aG) (M:=[aM ((aM (1000+(s2.1.bA.length:Int)))+(aM (s2.1.bx+1)))]) (cs2:=[j (aM (1+aH)),al aG (s2.2.1++[aM ((aM (1000+(s2.1.bA.length:Int)))+(aM (s2.1.bx+1)))]),j (-1),ah s2.2.2.1,.aO,j s2.2.2.2.1]) q q (.ptr q) (.b3 q) q q q .nq .hP q q vy q q q q (.n q q (.n q q (.b q (.n q q .nil))))) q q q q (by kernel_rfl) (by kernel_rfl)<|b1.fin q q q (dA q q q q)) ?_;obtain rfl:=ax h;exact ag.bH (dA q q q q)
       obtain rfl:=ax h;exact ag.bH (dA q q q q)
     refine ag.bo ?_;obtain rfl:=ax h;exact ag.bH (dA q q q q)
    refine ag.bo ?_;obtain rfl:=ax h;exact ag.bH (dA q q q q)
   refine ag.bb<|W.br [0,5,6,7] (bu q<|ai (O.add (.lit q) (.k q))<|au.br [0,5,6,23] q<|au.a_) ?_;obtain rfl:=ax h;exact ag.go (dA q q q q)
  ·refine W.dj ?_;refine ag.di ?_;obtain rfl:=ax h;exact ag.aH (dH q q q)
 refine ag.dk ?_;refine ag.bb<|W.bc ?_;refine W.a7 [0,5,6,9] ?_;refine W.bo ?_;obtain ⟨gL,ao,h⟩:=aB h;refine W.cj (G1:=[(0,_),(5,_),(6,_),(9,_)]) (dA q q q q) ?_;refine W.e4 (s:=((-1),0)) (λ(pG:Int × Int)=>[(0,.obj (dR.cells a6.1)),(5,.obj (eD.cells a2)),(6,.obj [j (aM (1+aH)),al aG a6.2.1,j pG.1,ah a6.2.2.1,.aO,j a6.2.2.2]),(9,j pG.2)]) 3 (λ(gL:Int)=>[(0,.obj (dR.cells a6.1)),(5,.obj (eD.cells a2)),(6,.obj [j (aM (1+aH)),al aG a6.2.1,j gL,ah a6.2.2.1,.aO,j a6.2.2.2])]) ao (λpG o h=>?_) ?_
 ·clear ao;refine W.bc<|W.a7 [0,5,6,9,112] ?_;refine W.bJ h q (λjd h=>?_) (λjd h=>?_)
  ·refine W.bS<|ag.bb ?_;refine W.bc ?_;obtain ⟨nn,ab,h⟩:=aB h;refine W.bH [(0,.obj (dR.cells a6.1)),(5,.obj (eD.cells a2)),(6,.obj [j (aM (1+aH)),al aG a6.2.1,j nn,ah a6.2.2.1,.aO,j a6.2.2.2]),(9,j pG.2)] ?_ ?_
   ·clear h; have h:=ab; clear ab;refine W.bo ?_;obtain ⟨fQ,nj,h⟩:=aB h;refine W.bV [0,5,6,9,120] (ai (O.bm q (.obj q) mv q)<|ai (O.dz (y:=.bq aG.z ⟨6,[1]⟩ a6.2.1.length) q (.ptr q) ig q q)<|bu q<|ai (O.iC (en:=aG) q (.bq q) (.lit q) eS nj q)<|ai (O.kj (en:=aG) (x':=j fQ) q (.ptr q) cH nj q q)<|au.a_) ?_;obtain ⟨zp,ab,h⟩:=aB h;refine W.bH [(0,.obj (dR.cells a6.1)),(5,.obj (eD.cells a2)),(6,.obj [j (aM (1+aH)),al aG a6.2.1,j zp,ah a6.2.2.1,.aO,j a6.2.2.2]),(9,j pG.2)] ?_ ?_
    ·clear h; have h:=ab; clear ab;refine W.bJ h q (λiQ h=>?_) (λiQ h=>?_)
     ·obtain ⟨iY,rZ,h⟩:=aB h;refine W.br [0,5,6,9] (ai (O.bm q (.obj q) mv q)<|ai (O.dz (y:=.bq aG.z ⟨6,[1]⟩ a6.2.1.length) q (.ptr q) ig q q)<|bu q<|ai (O.iC (en:=aG) q (.bq q) (.lit q) eS rZ q)<|ai (O.kj (en:=aG) (x':=j iY) q (.ptr q) cH rZ q q)<|ai (O.bm q (.obj q) yp q)<|au.dQ (G2:=[(0,_),(5,_),(6,_),(9,_)]) (cs2:=[j (aM (1+aH)),al aG a6.2.1,j iY,ah a6.2.2.1,.aO,j a6.2.2.2]) q (.ptr q) (.lit q) q mV q q q q (.n q q (.n q q (.b q (.n q q .nil))))<|bZ q) ?_;obtain rfl:=ax h;exact ag.bH (dA q q q q)
     ·refine W.bS ?_;obtain rfl:=ax h;exact ag.bH (dA q q q q)
    refine ag.bo ?_;obtain rfl:=ax h;exact ag.bH (dA q q q q)
   refine ag.bb<|W.br [0,5,6,9] (bu q<|ai (O.add (.lit q) (.k q))<|au.br [0,5,6,114] q<|au.a_) ?_;obtain rfl:=ax h;exact ag.go (dA q q q q)
  ·refine W.dj ?_;refine ag.di ?_;obtain rfl:=ax h;exact ag.aH (dH q q q)
 refine ag.dk ?_;refine ag.bb<|W.bc ?_;refine W.a7 [0,5,6,130] ?_;obtain ⟨fb,ab,h⟩:=aB h;refine W.bH [(0,.obj (dR.cells fb.1)),(6,.obj [j (aM (1+aH)),al aG a6.2.1,j fb.2,ah a6.2.2.1,.aO,j a6.2.2.2])] ?_ ?_
 ·clear h; have h:=ab; clear ab;refine W.bJ h q (λh8 h=>?_) (λh8 h=>?_)
  ·refine W.bV [0,5,6] (ai (O.bm q (.obj q) yp q)<|au.dQ (G2:=[(0,_),(5,_),(6,_)]) (cs2:=[j (aM (1+aH)),al aG a6.2.1,j (-1),ah a6.2.2.1,.aO,j a6.2.2.2]) q (.ptr q) (.k q) q mV q q q q (.n q q (.n q q (.b q .nil)))<|bZ q) ?_;obtain ⟨rD,ab,h⟩:=aB h;refine W.rs [(0,.obj (dR.cells a6.1)),(5,.obj (eD.cells a2)),(6,.obj [j (aM (1+aH)),al aG a6.2.1,j (-1),ah a6.2.2.1,.aO,j a6.2.2.2]),(142,bk rD)] ?_ ?_
   ·refine ai (O.bm q (.obj q) sN q)<|ai (O.bm q (.ptr q) wF q)<|ai (O.cA q (.ptr q) pT q)<|ai (O.aA (.lit q)) ?_;rcases cM ab with ⟨sW,ab⟩ | ⟨sW,ab⟩
    ·obtain rfl:=ax ab;exact au.a_
    ·refine a' sW (O.aA (.obj q))<|a' sW (O.bm q (.obj q) sN q)<|a' sW (O.bm q (.ptr q) kz q)<|a' sW (O.cA q (.ptr q) eP q) ?_;obtain ⟨ic,oK,ab⟩:=aB ab;obtain rfl:=ax ab;exact au.c (cw.vw (ys:=[.ptr ⟨0,[]⟩ 0,ah a2.Prec.Name]) q (.c (View.n0 q q) (.s .nil)) (wm a6.1 a2.Prec.Name _ oK) call96 q) q q (.jA q q sW)<|au.a_
   obtain ⟨nX,ab,h⟩:=aB h;refine W.bH [(0,.obj (dR.cells nX.1)),(6,.obj [j (aM (1+aH)),al aG a6.2.1,j nX.2,ah a6.2.2.1,.aO,j a6.2.2.2])] ?_ ?_
   ·clear h; have h:=ab; clear ab;refine W.bJ h q (λrS h=>?_) (λrS h=>?_)
    ·obtain ⟨gf,nk,h⟩:=aB h;refine W.br [0,6] (ai (O.aA (.obj q))<|ai (O.bm q (.obj q) sN q)<|ai (O.dP (cs':=[ah a2.Prec.Name,bk a2.Prec.Lit,j a2.Prec.c_,j a2.Prec.At]) q (.ptr q) mH q q)<|au.h4 q (cq.call q q (hB.mP (G2:=[(6,.obj [j (aM (1+aH)),al aG a6.2.1,j (-1),ah a6.2.2.1,.aO,j a6.2.2.2])]) (A:=[]) (ys:=[.ptr ⟨0,[]⟩ 0,.agg (dF.cells a2.Prec)]) (args:=[.obj (dR.cells a6.1),.agg (dF.cells a2.Prec)]) (cs':=[al bl gf.2.aq.aX,al a1 gf.2.aq.bt,al bD gf.2.aq.aW,ah gf.2.aq.bw,ah gf.2.aq.bz,al b0 gf.2.bT,al a1 gf.2.bN,al cp gf.2.bA,j gf.2.b',j gf.2.cb,ah gf.2.ca,j gf.2.bO,j gf.2.bx]) (k0:=0) q q q q (.b q (.n q .nil)) q (Iy a6.1 a2.Prec _ nk) call115 (.n q .nil) q q (.n q .nil) .nil q))<|ai (O.bm q (.obj q) yp q)<|au.dQ (G2:=[(0,_),(6,_)]) (cs2:=[j (aM (1+aH)),al aG a6.2.1,j gf.1,ah a6.2.2.1,.aO,j a6.2.2.2]) q (.ptr q) (.lit q) q mV q q q q (.n q q (.b q .nil))<|bZ q) ?_;obtain rfl:=ax h;exact ag.bH (fc q q)
    ·obtain ⟨fG,r1,h⟩:=aB h;refine W.br [0,6] (ai (O.aA (.obj q))<|ai (O.bm q (.obj q) sN q)<|ai (O.bm q (.ptr q) qP q)<|ai (O.cA q (.ptr q) cH q)<|ai (O.bm q (.obj q) sN q)<|ai (O.bm q (.ptr q) kz q)<|ai (O.cA q (.ptr q) eP q)<|au.h4 q (cq.call q q (hB.mP (G2:=[(6,.obj [j (aM (1+aH)),al aG a6.2.1,j (-1),ah a6.2.2.1,.aO,j a6.2.2.2])]) (A:=[]) (ys:=[.ptr ⟨0,[]⟩ 0,j a2.Prec.At,ah a2.Prec.Name]) (args:=[.obj (dR.cells a6.1),j a2.Prec.At,ah a2.Prec.Name]) (cs':=[al bl fG.aq.aX,al a1 fG.aq.bt,al bD fG.aq.aW,ah fG.aq.bw,ah fG.aq.bz,al b0 fG.bT,al a1 fG.bN,al cp fG.bA,j fG.b',j fG.cb,ah fG.ca,j fG.bO,j fG.bx]) (k0:=0) q q q q (.b q (.n q (.n q .nil))) q (ue a6.1 a2.Prec.At a2.Prec.Name _ r1) call94 (.n q .nil) q q (.n q .nil) .nil q))<|bZ q) ?_;obtain rfl:=ax h;exact ag.bH (fc q q)
   obtain rfl:=ax h;exact ag.bH (fc q q)
  ·refine W.bS ?_;obtain rfl:=ax h;exact ag.bH (fc q q)
 refine ag.bb ?_;obtain ⟨ie,qb,h⟩:=aB h;refine W.bV [0,6] (ai (O.dI (ys:=[]) aG ([]:List Int) eS q q q q q q mj q q)<|ai (O.bm q (.obj q) mv q)<|ai (O.dz (y:=.bq aG.z ⟨6,[1]⟩ a6.2.1.length) q (.ptr q) ig q q)<|ai (O.ap (en:=aG) (r:=ie) (.own q) q (.bq q) (.flat aG q) pa q qb)<|ai (O.bm q (.obj q) I7 q)<|au.h4 (G2:=[(0,.obj (dR.cells fb.1)),(6,.obj [j (aM (1+aH)),al aG a6.2.1,j fb.2,ah a6.2.2.1,al aG (([]:List Int)++a6.2.1),j a6.2.2.2])]) q (cq.nw (g1:=_) (en:=aG) (M:=a6.2.1) (cs2:=[j (aM (1+aH)),al aG a6.2.1,j fb.2,ah a6.2.2.1,al aG (([]:List Int)++a6.2.1),j a6.2.2.2]) q q (.ptr q) (.b3 q) q q q .nq .hP q q vy q q q q (.n q q (.b q .nil)))<|bZ q) ?_;refine W.fI (G1:=[(0,_),(6,.obj [j (aM (1+aH)),aj aG a6.2.1,j fb.2,ah a6.2.2.1,al aG (([]:List Int)++a6.2.1),j a6.2.2.2])]) [6] (.n q q (.z q q (gp.obj (.f (.z (.f (.f (.f (.f .nil))))))) .nil)) ?_;refine W.fI (G1:=[(0,_),(6,.obj [j (aM (1+aH)),aj aG a6.2.1,j fb.2,ah a6.2.2.1,aj aG (([]:List Int)++a6.2.1),j a6.2.2.2])]) [6] (.n q q (.z q q (gp.obj (.f (.f (.f (.f (.z (.f .nil))))))) .nil)) ?_;obtain ⟨h0,k',h⟩:=aB h;refine W.rd [[],[],[1],[1,2],[1,2,3],[1,2,3,4],[],[6],aT 1 7 [],aT 0 9 [],aT 0 10 [],aT 0 11 [],aT 0 12 []] [(0,_)] eY (by kernel_rfl) (aw 0 (O.aA (.obj q))<|aw 1 (O.aA (.obj q))<|aw 2 (O.eJ (.ptr q))<|aw 3 (O.bm q (.ptr q) j2 q)<|aw 4 (O.bm q (.ptr q) lW q)<|aw 5 (O.dz (y:=.bq bD.z ⟨0,[2]⟩ fb.1.aq.aW.length) q (.ptr q) na q q)<|aw 6 (O.dP (cs':=[j (aM (1+aH)),aj aG a6.2.1,j fb.2,ah a6.2.2.1,aj aG (([]:List Int)++a6.2.1),j a6.2.2.2]) q (.obj q) H2 q q)<|b1.gP 7 (x:=aj bD [(⟨aM (1+aH),a6.2.1,fb.2,a6.2.2.1,([]:List Int)++a6.2.1,a6.2.2.2⟩:Prod)]) (O.dI (ys:=[.agg [j (aM (1+aH)),aj aG a6.2.1,j fb.2,ah a6.2.2.1,aj aG (([]:List Int)++a6.2.1),j a6.2.2.2]]) bD [(⟨aM (1+aH),a6.2.1,fb.2,a6.2.2.1,([]:List Int)++a6.2.1,a6.2.2.2⟩:Prod)] mT q q q q q q Hr q q) q q q q .none<|aw 8 (O.ap (en:=bD) (r:=h0) (.bq q) q (.aD q) .i HS q k')<|aw 9 (O.eJ (.ptr q))<|aw 10 (O.bm q (.ptr q) j2 q)<|aw 11 (O.bm q (.ptr q) lW q)<|b1.ky 12 (G2:=[(0,.obj [al bl fb.1.aq.aX,al a1 fb.1.aq.bt,al bD (fb.1.aq.aW++[(⟨aM (1+aH),a6.2.1,fb.2,a6.2.2.1,([]:List Int)++a6.2.1,a6.2.2.2⟩:Prod)]),ah fb.1.aq.bw,ah fb.1.aq.bz,al b0 fb.1.bT,al a1 fb.1.bN,al cp fb.1.bA,j fb.1.b',j fb.1.cb,ah fb.1.ca,j fb.1.bO,j fb.1.bx])]) (cq.nw (g1:=_) (en:=bD) (M:=[(⟨aM (1+aH),a6.2.1,fb.2,a6.2.2.1,([]:List Int)++a6.2.1,a6.2.2.2⟩:Prod)]) (cs2:=[al bl fb.1.aq.aX,al a1 fb.1.aq.bt,al bD (fb.1.aq.aW++[(⟨aM (1+aH),a6.2.1,fb.2,a6.2.2.1,([]:List Int)++a6.2.1,a6.2.2.2⟩:Prod)]),ah fb.1.aq.bw,ah fb.1.aq.bz,al b0 fb.1.bT,al a1 fb.1.bN,al cp fb.1.bA,j fb.1.b',j fb.1.cb,ah fb.1.ca,j fb.1.bO,j fb.1.bx]) q q (.ptr q) (.b3 q) q q q .nq .hP q q G3 q q q q (.b q .nil)) q q q q (by kernel_rfl) (by kernel_rfl)<|b1.fin q q q (.n q .nil)) ?_;obtain rfl:=ax h;exact ag.fin (Fin.ro .nil q (oU (by kernel_rfl)) (.az q q (.no (.no .nil))) q (.inl q))
theorem O0 (a0:Int) (r:ByteArray) (h:Ah a0=some r):cf Try.prog 99 [j a0] [none] (ah r):=by
 unfold Ah at h;refine cf.go (N:=⟨32,[]⟩) Try.func99 q q q q (W.fin ?_);refine W.st [(0,j a0)] ?_;refine W.a7 [0] ?_;refine W.bV [0,3] (bu q<|ai (O.ui (.lit q) w1 KP)<|au.a_) ?_;refine W.bc<|W.a7 [0,3,8] ?_;obtain ⟨hN,ab,h⟩:=aB h;refine W.bH [(0,j a0),(3,.lit (.int .u64 hN))] ?_ ?_
 ·clear h; have h:=ab; clear ab;refine W.bJ h q (λcY h=>?_) (λcY h=>?_)
  ·refine W.br [0,3] (bu q<|ai (O.neg (.lit q))<|au.br [0,10] q<|au.a_) ?_;obtain rfl:=ax h;exact ag.bH (fc q q)
  ·refine W.bS ?_;obtain rfl:=ax h;exact ag.bH (fc q q)
 refine ag.bb<|W.a7 [0,3,4] ?_;refine W.bc<|W.bo ?_;obtain ⟨bX,ao,h⟩:=aB h;refine W.cj (G1:=[(0,_),(3,_),(4,_)]) (dH q q q) ?_;refine W.e4 (s:=(hN,aQ)) (λ(dV:Int × ByteArray)=>[(0,j a0),(3,.lit (.int .u64 dV.1)),(4,ah dV.2)]) 0 (λ(bX:ByteArray)=>[(0,j a0),(4,ah bX)]) ao (λdV o h=>?_) ?_
 ·clear ao;refine W.bc ?_;obtain ⟨pR,ab,h⟩:=aB h;refine W.rs [(0,j a0),(3,.lit (.int .u64 dV.1)),(4,ah dV.2),(16,bk pR)] ?_ ?_
  ·refine bu q<|ai (O.gtr (.lit q) (.k q))<|ai (O.aA (.lit q)) ?_;rcases cM ab with ⟨dB,ab⟩ | ⟨dB,ab⟩
   ·obtain rfl:=ax ab;exact au.a_
   ·obtain rfl:=ax ab;exact au.a_
  refine W.bJ h q (λcS h=>?_) (λcS h=>?_)
  ·refine W.bS<|ag.bb ?_;refine W.bo ?_;obtain ⟨cu,jV,h⟩:=aB h;obtain ⟨bQ,jJ,h⟩:=aB h;refine W.bV [0,3,4] (bu q<|ai (O.se (.lit q) (.k q) jV)<|ai (O.add (.k q) (.lit q))<|ai (O.ui (.lit q) KP FX)<|au.gP (x:=aj ot [hg (IntKind.u64.wrap (48+cu))]) (O.dI (ys:=[lT (hg (IntKind.u64.wrap (48+cu)))]) ot [hg (IntKind.u64.wrap (48+cu))] GU q q q q q q MH q q) q q .none<|ai (O.IK (.aD q) Ia)<|bu q<|ai (O.cat (.lit q) (.lit q) jJ)<|au.br [0,3,24] q<|au.a_) ?_;obtain ⟨cy,h9,h⟩:=aB h;refine W.br [0,3,4] (bu q<|ai (O.sb (.lit q) (.k q) h9)<|au.br [0,4,26] q<|au.a_) ?_;refine ag.bo ?_;obtain rfl:=ax h;exact ag.go (dH q q q)
  ·refine W.dj ?_;refine ag.di ?_;obtain rfl:=ax h;exact ag.aH (fc q q)
 refine ag.dk ?_;refine ag.bb<|W.bc ?_;refine W.a7 [4,28] ?_;refine W.bJ h q (λet h=>?_) (λet h=>?_)
 ·obtain ⟨dG,jy,h⟩:=aB h;refine W.bV [2] (bu q<|ai (O.cat (.k q) (.lit q) jy)<|au.a_) ?_;refine W.rt ?_;refine ag.c5 ?_;obtain rfl:=ax h;exact cF (.f q q .nil)
 ·refine W.bS<|ag.bb ?_;refine W.a7 [2] ?_;refine W.rt ?_;obtain rfl:=ax h;exact cF (.f q q .nil)
theorem OP (a0:Source) (r:bR × Int × Int × ByteArray) (h:vi a0=some r):cf Try.prog 78 [.agg (dT.cells a0)] [none] (.cr [.agg (cg.cells r.1),j r.2.1,j r.2.2.1,ah r.2.2.2]):=by
 unfold vi at h;refine cf.go (N:=⟨435,[]⟩) Try.func78 q q q q (W.fin ?_);refine W.st [(0,.agg (dT.cells a0))] ?_;refine W.bV [1,2] (ai (O.box (.ck q q) q)<|ai (O.e8 (cs:=[.aO,.aO,.aO,ah aQ,ah aQ]) o2 q q)<|au.a_) ?_;refine W.bc ?_;obtain ⟨aH,fA,h⟩:=aB h;refine W.bV [1,2,28] (ai (O.dP (cs':=[ah a0.bw,aj dJ a0.Decls,aj hj a0.e1,ah a0.bz]) q (.obj q) sF q q)<|d' (cw.go (.b2 (.ck q q) .nil) (OX a0 _ fA) call92 q)<|au.a_) ?_;refine W.bJ h q (λcY h=>?_) (λcY h=>?_)
 ·refine W.bV [2,3,4,5] (ai (O.fi (cs:=[.aO,.aO,.aO,ah aQ,ah aQ]) GR o2 q q q)<|au.dQ (G2:=[(2,_)]) (cs2:=[.aO,.aO,.aO,ah aQ,ah aQ]) q (.obj q) (.ck q q) q nx q q q q (.b q .nil)<|au.a_) ?_;refine W.fI (G1:=[(2,.obj [aj bl ([]:List bC),aj a1 ([]:List eH),aj bD ([]:List Prod),ah aQ,ah aQ]),(3,_),(4,_),(5,_)]) [2] (.z q q (gp.obj (.z (.z (.z (.f (.f .nil)))))) (.n q q (.n q q (.n q q .nil)))) ?_;refine W.rt ?_;refine ag.c5 ?_;obtain rfl:=ax h;exact cF (.c (ys0:=[aj bl ([]:List bC),aj a1 ([]:List eH),aj bD ([]:List Prod),ah aQ,ah aQ]) q fY q q q (.f q (.f q (.f q (.f q (.f q .nil))))) (.f q q (.f q q (.f q q .nil))))
 ·refine W.bS<|ag.bb ?_;obtain ⟨a6,h_,h⟩:=aB h;refine W.bV [1,2,6] (ai (O.mk (en:=b0) (z0:=false) sj (.k q) (.k q) MC q q h_ H9 q)<|ai (O.fi (cs:=[.aO,.aO,.aO,ah aQ,ah aQ,.bq b0.z ⟨30,[]⟩ a6.length,.aO,.aO,j 0,j 0,ah aQ,j 0,j 0]) T0 UW q q q)<|ai (O.box (.ck q q) q)<|au.gz (G2:=[(1,.obj (dT.cells a0)),(2,.obj [.aO,.aO,.aO,ah aQ,ah aQ])]) q (cq.A1 (y':=.obj [.aO,.aO,.aO,ah aQ,ah aQ,al b0 a6,.aO,.aO,j 0,j 0,ah aQ,j 0,j 0]) q q (.obj q) (.b q (.f (.f (.f (.f (.f (.r q (.f (.f (.f (.f (.f (.f (.f .nil))))))))))))) .nil) .refl (fc q q) q q)<|bZ q) ?_;refine W.bV [1,2,6] (ai (O.aA (.obj q))<|ai (O.fi (cs:=[ah ({ data:=#[36,101,110,100] }),bk false,j 0,j 0,j 0,ah aQ]) CW AI q q q)<|ai (O.fi (cs:=[ah ({ data:=#[101,114,114,111,114] }),bk false,j (-1),j 0,j 0,ah aQ]) CW AI q q q)<|ai (O.fi (cs:=[ah ({ data:=#[36,117,110,107] }),bk false,j (-1),j 0,j 0,ah aQ]) CW AI q q q)<|ai (O.dI (ys:=[.agg [ah ({ data:=#[36,101,110,100] }),bk false,j 0,j 0,j 0,ah aQ],.agg [ah ({ data:=#[101,114,114,111,114] }),bk false,j (-1),j 0,j 0,ah aQ],.agg [ah ({ data:=#[36,117,110,107] }),bk false,j (-1),j 0,j 0,ah aQ]]) bl [(⟨{ data:=#[36,101,110,100] },false,0,0,0,aQ⟩:bC),(⟨{ data:=#[101,114,114,111,114] },false,(-1),0,0,aQ⟩:bC),(⟨{ data:=#[36,117,110,107] },false,(-1),0,0,aQ⟩:bC)] qo q q q q q q MI q q)<|ai (O.eJ (.ptr q))<|ai (O.bm q (.ptr q) j2 q)<|ai (O.bm q (.ptr q) pd q)<|au.h4 (G2:=[(1,.obj (dT.cells a0)),(2,.obj [.aO,.aO,.aO,ah aQ,ah aQ]),(6,.obj [al bl [(⟨{ data:=#[36,101,110,100] },false,0,0,0,aQ⟩:bC),(⟨{ data:=#[101,114,114,111,114] },false,(-1),0,0,aQ⟩:bC),(⟨{ data:=#[36,117,110,107] },false,(-1),0,0,aQ⟩:bC)],.aO,.aO,ah aQ,ah aQ,al b0 a6,.aO,.aO,j 0,j 0,ah aQ,j 0,j 0])]) q (cq.sm (y':=al bl [(⟨{ data:=#[36,101,110,100] },false,0,0,0,aQ⟩:bC),(⟨{ data:=#[101,114,114,111,114] },false,(-1),0,0,aQ⟩:bC),(⟨{ data:=#[36,117,110,107] },false,(-1),0,0,aQ⟩:bC)]) (cs2:=[al bl [(⟨{ data:=#[36,101,110,100] },false,0,0,0,aQ⟩:bC),(⟨{ data:=#[101,114,114,111,114] },false,(-1),0,0,aQ⟩:bC),(⟨{ data:=#[36,117,110,107] },false,(-1),0,0,aQ⟩:bC)],.aO,.aO,ah aQ,ah aQ,al b0 a6,.aO,.aO,j 0,j 0,ah aQ,j 0,j 0]) q q (.ptr q) (.own q) (.r q .nil) .refl q L9 q q q q q (.n q q (.n q q (.b q .nil))))<|bZ q) ?_;refine W.a7 [1,2,6,7] ?_;refine W.bc<|W.a7 [1,2,6,7,8] ?_;refine W.bo ?_;obtain ⟨b5,ao,h⟩:=aB h;refine W.cj (G1:=[(1,_),(2,_),(6,.obj [al bl (((⟨(⟨[(⟨{ data:=#[36,101,110,100] },false,0,0,0,aQ⟩:bC),(⟨{ data:=#[101,114,114,111,114] },false,(-1),0,0,aQ⟩:bC),(⟨{ data:=#[36,117,110,107] },false,(-1),0,0,aQ⟩:bC)],[],[],aQ,aQ⟩:bR),a6,[],[],0,0,aQ,0,0⟩:cC).aq).aX),al a1 (((⟨(⟨[(⟨{ data:=#[36,101,110,100] },false,0,0,0,aQ⟩:bC),(⟨{ data:=#[101,114,114,111,114] },false,(-1),0,0,aQ⟩:bC),(⟨{ data:=#[36,117,110,107] },false,(-1),0,0,aQ⟩:bC)],[],[],aQ,aQ⟩:bR),a6,[],[],0,0,aQ,0,0⟩:cC).aq).bt),al bD (((⟨(⟨[(⟨{ data:=#[36,101,110,100] },false,0,0,0,aQ⟩:bC),(⟨{ data:=#[101,114,114,111,114] },false,(-1),0,0,aQ⟩:bC),(⟨{ data:=#[36,117,110,107] },false,(-1),0,0,aQ⟩:bC)],[],[],aQ,aQ⟩:bR),a6,[],[],0,0,aQ,0,0⟩:cC).aq).aW),ah (((⟨(⟨[(⟨{ data:=#[36,101,110,100] },false,0,0,0,aQ⟩:bC),(⟨{ data:=#[101,114,114,111,114] },false,(-1),0,0,aQ⟩:bC),(⟨{ data:=#[36,117,110,107] },false,(-1),0,0,aQ⟩:bC)],[],[],aQ,aQ⟩:bR),a6,[],[],0,0,aQ,0,0⟩:cC).aq).bw),ah (((⟨(⟨[(⟨{ data:=#[36,101,110,100] },false,0,0,0,aQ⟩:bC),(⟨{ data:=#[101,114,114,111,114] },false,(-1),0,0,aQ⟩:bC),(⟨{ data:=#[36,117,110,107] },false,(-1),0,0,aQ⟩:bC)],[],[],aQ,aQ⟩:bR),a6,[],[],0,0,aQ,0,0⟩:cC).aq).bz),al b0 ((⟨(⟨[(⟨{ data:=#[36,101,110,100] },false,0,0,0,aQ⟩:bC),(⟨{ data:=#[101,114,114,111,114] },false,(-1),0,0,aQ⟩:bC),(⟨{ data:=#[36,117,110,107] },false,(-1),0,0,aQ⟩:bC)],[],[],aQ,aQ⟩:bR),a6,[],[],0,0,aQ,0,0⟩:cC).bT),al a1 ((⟨(⟨[(⟨{ data:=#[36,101,110,100] },false,0,0,0,aQ⟩:bC),(⟨{ data:=#[101,114,114,111,114] },false,(-1),0,0,aQ⟩:bC),(⟨{ data:=#[36,117,110,107] },false,(-1),0,0,aQ⟩:bC)],[],[],aQ,aQ⟩:bR),a6,[],[],0,0,aQ,0,0⟩:cC).bN),al cp ((⟨(⟨[(⟨{ data:=#[36,101,110,100] },false,0,0,0,aQ⟩:bC),(⟨{ data:=#[101,114,114,111,114] },false,(-1),0,0,aQ⟩:bC),(⟨{ data:=#[36,117,110,107] },false,(-1),0,0,aQ⟩:bC)],[],[],aQ,aQ⟩:bR),a6,[],[],0,0,aQ,0,0⟩:cC).bA),j ((⟨(⟨[(⟨{ data:=#[36,101,110,100] },false,0,0,0,aQ⟩:bC),(⟨{ data:=#[101,114,114,111,114] },false,(-1),0,0,aQ⟩:bC),(⟨{ data:=#[36,117,110,107] },false,(-1),0,0,aQ⟩:bC)],[],[],aQ,aQ⟩:bR),a6,[],[],0,0,aQ,0,0⟩:cC).b'),j ((⟨(⟨[(⟨{ data:=#[36,101,110,100] },false,0,0,0,aQ⟩:bC),(⟨{ data:=#[101,114,114,111,114] },false,(-1),0,0,aQ⟩:bC),(⟨{ data:=#[36,117,110,107] },false,(-1),0,0,aQ⟩:bC)],[],[],aQ,aQ⟩:bR),a6,[],[],0,0,aQ,0,0⟩:cC).cb),ah ((⟨(⟨[(⟨{ data:=#[36,101,110,100] },false,0,0,0,aQ⟩:bC),(⟨{ data:=#[101,114,114,111,114] },false,(-1),0,0,aQ⟩:bC),(⟨{ data:=#[36,117,110,107] },false,(-1),0,0,aQ⟩:bC)],[],[],aQ,aQ⟩:bR),a6,[],[],0,0,aQ,0,0⟩:cC).ca),j ((⟨(⟨[(⟨{ data:=#[36,101,110,100] },false,0,0,0,aQ⟩:bC),(⟨{ data:=#[101,114,114,111,114] },false,(-1),0,0,aQ⟩:bC),(⟨{ data:=#[36,117,110,107] },false,(-1),0,0,aQ⟩:bC)],[],[],aQ,aQ⟩:bR),a6,[],[],0,0,aQ,0,0⟩:cC).bO),j ((⟨(⟨[(⟨{ data:=#[36,101,110,100] },false,0,0,0,aQ⟩:bC),(⟨{ data:=#[101,114,114,111,114] },false,(-1),0,0,aQ⟩:bC),(⟨{ data:=#[36,117,110,107] },false,(-1),0,0,aQ⟩:bC)],[],[],aQ,aQ⟩:bR),a6,[],[],0,0,aQ,0,0⟩:cC).bx)]),(7,_),(8,_)]) (.n q (.n q (.w q q (ln.obj (.f (.o (.o (.f (.f (.f (.o (.o (.f (.f (.f (.f (.f .nil)))))))))))))) (fc q q)))) ?_;refine W.e4 (s:=((⟨(⟨[(⟨{ data:=#[36,101,110,100] },false,0,0,0,aQ⟩:bC),(⟨{ data:=#[101,114,114,111,114] },false,(-1),0,0,aQ⟩:bC),(⟨{ data:=#[36,117,110,107] },false,(-1),0,0,aQ⟩:bC)],[],[],aQ,aQ⟩:bR),a6,[],[],0,0,aQ,0,0⟩:cC),aQ,0)) (λ(bM:cC × ByteArray × Int)=>[(1,.obj (dT.cells a0)),(2,.obj [.aO,.aO,.aO,ah aQ,ah aQ]),(6,.obj (dR.cells bM.1)),(7,ah bM.2.1),(8,j bM.2.2)]) 0 (λ(b5:cC × ByteArray)=>[(1,.obj (dT.cells a0)),(2,.obj [.aO,.aO,.aO,ah aQ,ah aQ]),(6,.obj (dR.cells b5.1)),(7,ah b5.2)]) ao (λbM o h=>?_) ?_
  ·clear ao;refine W.bc<|W.a7 [1,2,6,7,8,45] ?_;refine W.bJ h q (λcP h=>?_) (λcP h=>?_)
   ·refine W.bS<|ag.bb ?_;refine W.bc<|W.bo ?_;obtain ⟨b4,iB,h⟩:=aB h;refine W.bV [1,2,6,7,8,9] (ai (O.bm q (.obj q) sM q)<|ai (O.dz (y:=aj dJ a0.Decls) q (.ptr q) wq q q)<|bu q<|ai (O.cQ (.aD q) (.lit q) xB iB)<|ai (O.iW (cs':=[j b4.Kind,ah b4.Tag,aj dF b4.fh,j b4.At]) (.bs q) Dv q q)<|ai (O.e8 (cs:=[j 0,ah aQ,.aO,j 0]) MA q q)<|au.dQ (G2:=[(1,_),(2,_),(6,_),(7,_),(8,_),(9,_)]) (cs2:=[j b4.Kind,ah b4.Tag,aj dF b4.fh,j b4.At]) q (.obj q) (.ck q q) q Uj q q q q (.n q q (.n q q (.n q q (.n q q (.n q q (.b q .nil))))))<|bZ q) ?_;refine W.bc ?_;obtain ⟨ja,ab,h⟩:=aB h;refine W.rs [(1,.obj (dT.cells a0)),(2,.obj [.aO,.aO,.aO,ah aQ,ah aQ]),(6,.obj (dR.cells bM.1)),(7,ah bM.2.1),(8,j bM.2.2),(9,.obj (dJ.cells b4)),(60,bk ja)] ?_ ?_
    ·refine ai (O.bm q (.obj q) ow q)<|ai (O.cA q (.ptr q) cH q)<|ai (O.geq (.lit q) (.k q))<|ai (O.aA (.lit q)) ?_;rcases cM ab with ⟨ek,ab⟩ | ⟨ek,ab⟩
     ·obtain rfl:=ax ab;exact au.a_
     ·obtain rfl:=ax ab;exact au.a_
    obtain ⟨gG,ab,h⟩:=aB h;refine W.bH [(1,.obj (dT.cells a0)),(2,.obj [.aO,.aO,.aO,ah aQ,ah aQ]),(6,.obj [al bl bM.1.aq.aX,al a1 bM.1.aq.bt,al bD bM.1.aq.aW,ah bM.1.aq.bw,ah bM.1.aq.bz,al b0 bM.1.bT,al a1 bM.1.bN,al cp bM.1.bA,j bM.1.b',j bM.1.cb,ah bM.1.ca,j gG,j bM.1.bx]),(7,ah bM.2.1),(8,j bM.2.2),(9,.obj (dJ.cells b4))] ?_ ?_
    ·clear h; have h:=ab; clear ab;refine W.bJ h q (λet h=>?_) (λet h=>?_)
     ·refine W.br [1,2,6,7,8,9] (ai (O.aA (.obj q))<|ai (O.eJ (.ptr q))<|ai (O.bm q (.ptr q) Bz q)<|ai (O.cA q (.ptr q) cH q)<|ai (O.add (.lit q) (.k q))<|ai (O.eJ (.ptr q))<|ai (O.bm q (.ptr q) Bz q)<|au.dQ (G2:=[(1,_),(2,_),(6,_),(7,_),(8,_),(9,_)]) (cs2:=[al bl bM.1.aq.aX,al a1 bM.1.aq.bt,al bD bM.1.aq.aW,ah bM.1.aq.bw,ah bM.1.aq.bz,al b0 bM.1.bT,al a1 bM.1.bN,al cp bM.1.bA,j bM.1.b',j bM.1.cb,ah bM.1.ca,j (aM (bM.1.bO+1)),j bM.1.bx]) q (.ptr q) (.lit q) q mV q q q q (.n q q (.n q q (.b q (.n q q (.n q q (.n q q .nil))))))<|bZ q) ?_;obtain rfl:=ax h;exact ag.bH (gv q q q q q q)
     ·refine W.bS ?_;obtain rfl:=ax h;exact ag.bH (gv q q q q q q)
    refine ag.bb<|W.a7 [1,2,6,7,8,9,10] ?_;refine W.bo ?_;obtain ⟨dS,ao,h⟩:=aB h;refine W.cj (G1:=[(1,_),(2,_),(6,.obj [al bl (((⟨bM.1.aq,bM.1.bT,bM.1.bN,bM.1.bA,bM.1.b',bM.1.cb,bM.1.ca,gG,bM.1.bx⟩:cC).aq).aX),al a1 (((⟨bM.1.aq,bM.1.bT,bM.1.bN,bM.1.bA,bM.1.b',bM.1.cb,bM.1.ca,gG,bM.1.bx⟩:cC).aq).bt),al bD (((⟨bM.1.aq,bM.1.bT,bM.1.bN,bM.1.bA,bM.1.b',bM.1.cb,bM.1.ca,gG,bM.1.bx⟩:cC).aq).aW),ah (((⟨bM.1.aq,bM.1.bT,bM.1.bN,bM.1.bA,bM.1.b',bM.1.cb,bM.1.ca,gG,bM.1.bx⟩:cC).aq).bw),ah (((⟨bM.1.aq,bM.1.bT,bM.1.bN,bM.1.bA,bM.1.b',bM.1.cb,bM.1.ca,gG,bM.1.bx⟩:cC).aq).bz),al b0 ((⟨bM.1.aq,bM.1.bT,bM.1.bN,bM.1.bA,bM.1.b',bM.1.cb,bM.1.ca,gG,bM.1.bx⟩:cC).bT),al a1 ((⟨bM.1.aq,bM.1.bT,bM.1.bN,bM.1.bA,bM.1.b',bM.1.cb,bM.1.ca,gG,bM.1.bx⟩:cC).bN),al cp ((⟨bM.1.aq,bM.1.bT,bM.1.bN,bM.1.bA,bM.1.b',bM.1.cb,bM.1.ca,gG,bM.1.bx⟩:cC).bA),j ((⟨bM.1.aq,bM.1.bT,bM.1.bN,bM.1.bA,bM.1.b',bM.1.cb,bM.1.ca,gG,bM.1.bx⟩:cC).b'),j ((⟨bM.1.aq,bM.1.bT,bM.1.bN,bM.1.bA,bM.1.b',bM.1.cb,bM.1.ca,gG,bM.1.bx⟩:cC).cb),ah ((⟨bM.1.aq,bM.1.bT,bM.1.bN,bM.1.bA,bM.1.b',bM.1.cb,bM.1.ca,gG,bM.1.bx⟩:cC).ca),j ((⟨bM.1.aq,bM.1.bT,bM.1.bN,bM.1.bA,bM.1.b',bM.1.cb,bM.1.ca,gG,bM.1.bx⟩:cC).bO),j ((⟨bM.1.aq,bM.1.bT,bM.1.bN,bM.1.bA,bM.1.b',bM.1.cb,bM.1.ca,gG,bM.1.bx⟩:cC).bx)]),(7,_),(8,_),(9,_),(10,_)]) (gJ q q q q q q q) ?_;refine W.e4 (s:=((⟨bM.1.aq,bM.1.bT,bM.1.bN,bM.1.bA,bM.1.b',bM.1.cb,bM.1.ca,gG,bM.1.bx⟩:cC),bM.2.1,0)) (λ(gb:cC × ByteArray × Int)=>[(1,.obj (dT.cells a0)),(2,.obj [.aO,.aO,.aO,ah aQ,ah aQ]),(6,.obj (dR.cells gb.1)),(7,ah gb.2.1),(8,j bM.2.2),(9,.obj (dJ.cells b4)),(10,j gb.2.2)]) 2 (λ(dS:cC × ByteArray)=>[(1,.obj (dT.cells a0)),(2,.obj [.aO,.aO,.aO,ah aQ,ah aQ]),(6,.obj (dR.cells dS.1)),(7,ah dS.2),(8,j bM.2.2)]) ao (λgb o h=>?_) ?_
    ·clear ao;refine W.bc<|W.a7 [1,2,6,7,8,9,10,72] ?_;refine W.bJ h q (λiP h=>?_) (λiP h=>?_)
     ·refine W.bS<|ag.bb ?_;refine W.bc ?_;obtain ⟨r3,ab,h⟩:=aB h;refine W.bH [(1,.obj (dT.cells a0)),(2,.obj [.aO,.aO,.aO,ah aQ,ah aQ]),(6,.obj (dR.cells r3.1)),(7,ah r3.2),(8,j bM.2.2),(9,.obj (dJ.cells b4)),(10,j gb.2.2)] ?_ ?_
      ·clear h; have h:=ab; clear ab;refine W.bo<|W.bc ?_;refine W.a7 [1,2,6,7,8,9,10,77] ?_;refine W.bJ h q (λgV h=>?_) (λgV h=>?_)
       ·refine W.bc ?_;obtain ⟨gL,th,h⟩:=aB h;obtain ⟨eZ,uQ,h⟩:=aB h;refine W.rd [[],[],[],[2],[],[2,3,4],[2,3,4,5],aT 0 7 []] [(1,_),(2,_),(6,_),(7,_),(8,_),(9,_),(10,_)] eY (by kernel_rfl) (aw 0 (O.aA (.obj q))<|aw 1 (O.dP (cs':=[j b4.Kind,ah b4.Tag,aj dF b4.fh,j b4.At]) q (.obj q) Dv q q)<|aw 2 (O.bm q (.obj q) sL q)<|aw 3 (O.dz (y:=aj dF b4.fh) q (.ptr q) sJ q q)<|aw 4 (O.aA (.lit q))<|aw 5 (O.cQ (.aD q) (.lit q) sl th)<|aw 6 (O.iW (cs':=[ah gL.Name,bk gL.Lit,j gL.c_,j gL.At]) (.bs q) mH q q)<|b1.ky 7 (G2:=[(85,.cr []),(6,.obj [al bl eZ.aq.aX,al a1 eZ.aq.bt,al bD eZ.aq.aW,ah eZ.aq.bw,ah eZ.aq.bz,al b0 eZ.bT,al a1 eZ.bN,al cp eZ.bA,j eZ.b',j eZ.cb,ah eZ.ca,j eZ.bO,j eZ.bx]),(1,.obj (dT.cells a0)),(2,.obj [.aO,.aO,.aO,ah aQ,ah aQ]),(7,ah gb.2.1),(8,j bM.2.2),(9,.obj (dJ.cells b4)),(10,j gb.2.2)]) (cq.call q q (hB.mP (G2:=[(1,.obj (dT.cells a0)),(2,.obj [.aO,.aO,.aO,ah aQ,ah aQ]),(7,ah gb.2.1),(8,j bM.2.2),(9,.obj (dJ.cells b4)),(10,j gb.2.2)]) (A:=[]) (ys:=[.ptr ⟨6,[]⟩ 0,.agg (dJ.cells b4),.agg (dF.cells gL)]) (args:=[.obj (dR.cells gb.1),.agg (dJ.cells b4),.agg (dF.cells gL)]) (cs':=[al bl eZ.aq.aX,al a1 eZ.aq.bt,al bD eZ.aq.aW,ah eZ.aq.bw,ah eZ.aq.bz,al b0 eZ.bT,al a1 eZ.bN,al cp eZ.bA,j eZ.b',j eZ.cb,ah eZ.ca,j eZ.bO,j eZ.bx]) (k0:=0) q q q q (.b q (.n q (.n q .nil))) q (OY gb.1 b4 gL _ uQ) call93 (gv q q q q q q) q q (gv q q q q q q) .nil q)) q q q q (by kernel_rfl) (by kernel_rfl)<|b1.fin q q q (gJ q q q q q q q)) ?_;refine ag.bb<|W.dj ?_;refine ag.di ?_;refine ag.dk ?_;obtain rfl:=ax h;exact ag.bH (gJ q q q q q q q)
       ·refine W.bS<|ag.bb ?_;refine W.bc<|W.a7 [1,2,6,8,9,10,87] ?_;obtain ⟨nW,ab,h⟩:=aB h;refine W.bH [(1,.obj (dT.cells a0)),(2,.obj [.aO,.aO,.aO,ah aQ,ah aQ]),(6,.obj (dR.cells nW)),(8,j bM.2.2),(9,.obj (dJ.cells b4)),(10,j gb.2.2)] ?_ ?_
        ·clear h; have h:=ab; clear ab;refine W.bJ h q (λjx h=>?_) (λjx h=>?_)
         ·obtain ⟨fQ,nj,h⟩:=aB h;obtain ⟨fR,lD,h⟩:=aB h;obtain ⟨e0,oJ,h⟩:=aB h;refine W.rd [[],[],[1],[],[1,2,3],[1,2,3,4],aT 1 5 [],[],[7],[],[7,8,9],[7,8,9,10],aT 7 5 [],aT 0 13 []] [(1,_),(2,_),(6,_),(8,_),(9,_),(10,_)] eY (by kernel_rfl) (aw 0 (O.aA (.obj q))<|aw 1 (O.bm q (.obj q) sL q)<|aw 2 (O.dz (y:=aj dF b4.fh) q (.ptr q) sJ q q)<|aw 3 (O.aA (.lit q))<|aw 4 (O.cQ (.aD q) (.lit q) sl nj)<|aw 5 (O.e2 (.bs q) qP)<|aw 6 (O.du (x:=j fQ.At) (.bs q) cH q)<|aw 7 (O.bm q (.obj q) sL q)<|aw 8 (O.dz (y:=aj dF b4.fh) q (.ptr q) sJ q q)<|aw 9 (O.aA (.lit q))<|aw 10 (O.cQ (.aD q) (.lit q) sl lD)<|aw 11 (O.e2 (.bs q) kz)<|aw 12 (O.du (x:=ah fR.Name) (.bs q) eP q)<|b1.ky 13 (G2:=[(101,.cr []),(6,.obj [al bl e0.aq.aX,al a1 e0.aq.bt,al bD e0.aq.aW,ah e0.aq.bw,ah e0.aq.bz,al b0 e0.bT,al a1 e0.bN,al cp e0.bA,j e0.b',j e0.cb,ah e0.ca,j e0.bO,j e0.bx]),(1,.obj (dT.cells a0)),(2,.obj [.aO,.aO,.aO,ah aQ,ah aQ]),(8,j bM.2.2),(9,.obj (dJ.cells b4)),(10,j gb.2.2)]) (cq.call q q (hB.mP (G2:=[(1,.obj (dT.cells a0)),(2,.obj [.aO,.aO,.aO,ah aQ,ah aQ]),(8,j bM.2.2),(9,.obj (dJ.cells b4)),(10,j gb.2.2)]) (A:=[]) (ys:=[.ptr ⟨6,[]⟩ 0,j fQ.At,ah fR.Name]) (args:=[.obj (dR.cells gb.1),j fQ.At,ah fR.Name]) (cs':=[al bl e0.aq.aX,al a1 e0.aq.bt,al bD e0.aq.aW,ah e0.aq.bw,ah e0.aq.bz,al b0 e0.bT,al a1 e0.bN,al cp e0.bA,j e0.b',j e0.cb,ah e0.ca,j e0.bO,j e0.bx]) (k0:=0) q q q q (.b q (.n q (.n q .nil))) q (ue gb.1 fQ.At fR.Name _ oJ) call94 (fe q q q q q) q q (fe q q q q q) .nil q)) q q q q (by kernel_rfl) (by kernel_rfl)<|b1.fin q q q (gv q q q q q q)) ?_;obtain rfl:=ax h;exact ag.bH (gv q q q q q q)
         ·refine W.bS ?_;obtain rfl:=ax h;exact ag.bH (gv q q q q q q)
        refine ag.bb ?_;obtain ⟨iY,rZ,h⟩:=aB h;refine W.HO [1,2,6,7,8,9,10] ?_;refine ag.bo ?_;obtain rfl:=ax h;exact ag.bH (gJ q q q q q q q)
      refine ag.bb<|W.br [1,2,6,7,8,9,10] (bu q<|ai (O.add (.lit q) (.k q))<|au.br [1,2,6,7,8,9,74] q<|au.a_) ?_;obtain rfl:=ax h;exact ag.go (gJ q q q q q q q)
     ·refine W.dj ?_;refine ag.di ?_;obtain rfl:=ax h;exact ag.aH (fe q q q q q)
    refine ag.dk ?_;refine ag.bo ?_;refine ag.bb<|W.br [1,2,6,7,8] (bu q<|ai (O.add (.lit q) (.k q))<|au.br [1,2,6,7,47] q<|au.a_) ?_;obtain rfl:=ax h;exact ag.go (fe q q q q q)
   ·refine W.dj ?_;refine ag.di ?_;obtain rfl:=ax h;exact ag.aH (dA q q q q)
  refine ag.dk ?_;refine ag.bb<|W.bc ?_;refine W.a7 [1,2,6,7,11] ?_;refine W.bo ?_;obtain ⟨cU,ao,h⟩:=aB h;refine W.cj (G1:=[(1,_),(2,_),(6,_),(7,_),(11,_)]) (fe q q q q q) ?_;refine W.e4 (s:=(b5.1,0)) (λ(lK:cC × Int)=>[(1,.obj (dT.cells a0)),(2,.obj [.aO,.aO,.aO,ah aQ,ah aQ]),(6,.obj (dR.cells lK.1)),(7,ah b5.2),(11,j lK.2)]) 4 (λ(cU:cC)=>[(1,.obj (dT.cells a0)),(2,.obj [.aO,.aO,.aO,ah aQ,ah aQ]),(6,.obj (dR.cells cU)),(7,ah b5.2)]) ao (λlK o h=>?_) ?_
  ·clear ao;refine W.bc<|W.a7 [1,2,6,7,11,112] ?_;refine W.bJ h q (λyR h=>?_) (λyR h=>?_)
   ·refine W.bS<|ag.bb ?_;refine W.bc ?_;obtain ⟨oO,ab,h⟩:=aB h;refine W.bH [(1,.obj (dT.cells a0)),(2,.obj [.aO,.aO,.aO,ah aQ,ah aQ]),(6,.obj (dR.cells oO)),(7,ah b5.2),(11,j lK.2)] ?_ ?_
    ·clear h; have h:=ab; clear ab;refine W.bo ?_;obtain ⟨gd,zk,h⟩:=aB h;refine W.bV [1,2,6,7,11,12] (ai (O.bm q (.obj q) ur q)<|ai (O.dz (y:=aj hj a0.e1) q (.ptr q) wu q q)<|bu q<|ai (O.cQ (.aD q) (.lit q) vv zk)<|ai (O.iW (cs':=[ah gd.Left,aj eD gd.gZ,j gd.At]) (.bs q) Dw q q)<|ai (O.e8 (cs:=[ah aQ,.aO,j 0]) Dc q q)<|au.dQ (G2:=[(1,_),(2,_),(6,_),(7,_),(11,_),(12,_)]) (cs2:=[ah gd.Left,aj eD gd.gZ,j gd.At]) q (.obj q) (.ck q q) q G8 q q q q (.n q q (.n q q (.n q q (.n q q (.n q q (.b q .nil))))))<|bZ q) ?_;refine W.bc ?_;obtain ⟨kN,r0,h⟩:=aB h;refine W.bV [1,2,6,7,11,12,125] (ai (O.aA (.obj q))<|ai (O.bm q (.obj q) sO q)<|ai (O.cA q (.ptr q) eP q)<|ai (O.fi (cs:=[ah gd.Left,bk false,j 0,j 0]) CX xM q q q)<|d' (cw.vw (ys:=[.ptr ⟨6,[]⟩ 0,.agg [ah gd.Left,bk false,j 0,j 0]]) q (.c (View.n0 q q) (.c (.ry (.s (.s (.s (.s .nil))))) .nil)) (DW lK.1 (⟨gd.Left,false,0,0⟩:Sym) _ r0) call95 q)<|au.a_) ?_;obtain ⟨fr,ab,h⟩:=aB h;refine W.bH [(1,.obj (dT.cells a0)),(2,.obj [.aO,.aO,.aO,ah aQ,ah aQ]),(6,.obj (dR.cells fr)),(7,ah b5.2),(11,j lK.2),(12,.obj (hj.cells gd))] ?_ ?_
     ·clear h; have h:=ab; clear ab;refine W.bJ h q (λQU h=>?_) (λQU h=>?_)
      ·obtain ⟨ie,qb,h⟩:=aB h;refine W.br [1,2,6,7,11,12] (ai (O.aA (.obj q))<|ai (O.bm q (.obj q) Jh q)<|ai (O.cA q (.ptr q) cH q)<|ai (O.bm q (.obj q) sO q)<|ai (O.cA q (.ptr q) eP q)<|au.h4 q (cq.call q q (hB.mP (G2:=[(1,.obj (dT.cells a0)),(2,.obj [.aO,.aO,.aO,ah aQ,ah aQ]),(7,ah b5.2),(11,j lK.2),(12,.obj (hj.cells gd))]) (A:=[]) (ys:=[.ptr ⟨6,[]⟩ 0,j gd.At,ah gd.Left]) (args:=[.obj (dR.cells lK.1),j gd.At,ah gd.Left]) (cs':=[al bl ie.aq.aX,al a1 ie.aq.bt,al bD ie.aq.aW,ah ie.aq.bw,ah ie.aq.bz,al b0 ie.bT,al a1 ie.bN,al cp ie.bA,j ie.b',j ie.cb,ah ie.ca,j ie.bO,j ie.bx]) (k0:=0) q q q q (.b q (.n q (.n q .nil))) q (ue lK.1 gd.At gd.Left _ qb) call94 (fe q q q q q) q q (fe q q q q q) .nil q))<|bZ q) ?_;obtain rfl:=ax h;exact ag.bH (gv q q q q q q)
      ·refine W.bS ?_;obtain rfl:=ax h;exact ag.bH (gv q q q q q q)
     refine ag.bb ?_;obtain ⟨h0,k',h⟩:=aB h;refine W.bV [1,2,6,7,11,12,136] (ai (O.aA (.obj q))<|ai (O.bm q (.obj q) sO q)<|ai (O.cA q (.ptr q) eP q)<|d' (cw.vw (ys:=[.ptr ⟨6,[]⟩ 0,ah gd.Left]) q (.c (View.n0 q q) (.s .nil)) (wm fr gd.Left _ k') call96 q)<|au.a_) ?_;obtain ⟨F3,ab,h⟩:=aB h;refine W.bH [(1,.obj (dT.cells a0)),(2,.obj [.aO,.aO,.aO,ah aQ,ah aQ]),(6,.obj [al bl fr.aq.aX,al a1 fr.aq.bt,al bD fr.aq.aW,ah fr.aq.bw,ah fr.aq.bz,al b0 fr.bT,al a1 fr.bN,al cp F3,j fr.b',j fr.cb,ah fr.ca,j fr.bO,j fr.bx]),(7,ah b5.2),(11,j lK.2)] ?_ ?_
     ·clear h; have h:=ab; clear ab;refine W.bJ h q (λQW h=>?_) (λQW h=>?_)
      ·obtain ⟨xJ,FJ,h⟩:=aB h;refine W.rd [[],[],[1],[1,2],[1,2,3],[],[5],[5,6],aT 1 7 [],aT 0 9 [],aT 0 10 [],aT 0 11 []] [(1,_),(2,_),(6,_),(7,_),(11,_)] eY (by kernel_rfl) (aw 0 (O.aA (.obj q))<|aw 1 (O.aA (.obj q))<|aw 2 (O.eJ (.ptr q))<|aw 3 (O.bm q (.ptr q) wC q)<|aw 4 (O.dz (y:=.bq cp.z ⟨6,[7]⟩ fr.bA.length) q (.ptr q) yf q q)<|aw 5 (O.bm q (.obj q) sO q)<|aw 6 (O.cA q (.ptr q) eP q)<|b1.gP 7 (x:=aj cp [gd.Left]) (O.dI (ys:=[ah gd.Left]) cp [gd.Left] Ar q q q q q q U7 q q) q q q q .none<|aw 8 (O.ap (en:=cp) (r:=xJ) (.bq q) q (.aD q) .i M_ q FJ)<|aw 9 (O.eJ (.ptr q))<|aw 10 (O.bm q (.ptr q) wC q)<|b1.ky 11 (G2:=[(1,.obj (dT.cells a0)),(2,.obj [.aO,.aO,.aO,ah aQ,ah aQ]),(6,.obj [al bl fr.aq.aX,al a1 fr.aq.bt,al bD fr.aq.aW,ah fr.aq.bw,ah fr.aq.bz,al b0 fr.bT,al a1 fr.bN,al cp (fr.bA++[gd.Left]),j fr.b',j fr.cb,ah fr.ca,j fr.bO,j fr.bx]),(7,ah b5.2),(11,j lK.2)]) (cq.nw (g1:=_) (en:=cp) (M:=[gd.Left]) (cs2:=[al bl fr.aq.aX,al a1 fr.aq.bt,al bD fr.aq.aW,ah fr.aq.bw,ah fr.aq.bz,al b0 fr.bT,al a1 fr.bN,al cp (fr.bA++[gd.Left]),j fr.b',j fr.cb,ah fr.ca,j fr.bO,j fr.bx]) q q (.ptr q) (.b3 q) q q q .nq .hP q q Uo q q q q (.n q q (.n q q (.b q (.n q q (.n q q .nil)))))) q q q q (by kernel_rfl) (by kernel_rfl)<|b1.fin q q q (fe q q q q q)) ?_;obtain rfl:=ax h;exact ag.bH (fe q q q q q)
      ·refine W.bS ?_;obtain rfl:=ax h;exact ag.bH (fe q q q q q)
     refine ag.bo ?_;obtain rfl:=ax h;exact ag.bH (fe q q q q q)
    refine ag.bb<|W.br [1,2,6,7,11] (bu q<|ai (O.add (.lit q) (.k q))<|au.br [1,2,6,7,114] q<|au.a_) ?_;obtain rfl:=ax h;exact ag.go (fe q q q q q)
   ·refine W.dj ?_;refine ag.di ?_;obtain rfl:=ax h;exact ag.aH (dA q q q q)
  refine ag.dk ?_;refine ag.bb<|W.bc ?_;refine W.a7 [1,2,6,7,13] ?_;refine W.bo ?_;obtain ⟨bL,ao,h⟩:=aB h;refine W.cj (G1:=[(1,_),(2,_),(6,_),(7,_),(13,_)]) (fe q q q q q) ?_;refine W.e4 (s:=(cU,0)) (λ(mf:cC × Int)=>[(1,.obj (dT.cells a0)),(2,.obj [.aO,.aO,.aO,ah aQ,ah aQ]),(6,.obj (dR.cells mf.1)),(7,ah b5.2),(13,j mf.2)]) 6 (λ(bL:cC)=>[(1,.obj (dT.cells a0)),(2,.obj [.aO,.aO,.aO,ah aQ,ah aQ]),(6,.obj (dR.cells bL)),(7,ah b5.2)]) ao (λmf o h=>?_) ?_
  ·clear ao;refine W.bc<|W.a7 [1,2,6,7,13,152] ?_;refine W.bJ h q (λQZ h=>?_) (λQZ h=>?_)
   ·refine W.bS<|ag.bb ?_;refine W.bc<|W.bo ?_;refine W.a7 [1,2,6,7,13,14] ?_;refine W.bo ?_;obtain ⟨rj,ao,h⟩:=aB h;refine W.cj (G1:=[(1,_),(2,_),(6,_),(7,_),(13,_),(14,_)]) (gv q q q q q q) ?_;refine W.e4 (s:=(mf.1,0)) (λ(lL:cC × Int)=>[(1,.obj (dT.cells a0)),(2,.obj [.aO,.aO,.aO,ah aQ,ah aQ]),(6,.obj (dR.cells lL.1)),(7,ah b5.2),(13,j mf.2),(14,j lL.2)]) 8 (λ(rj:cC)=>[(1,.obj (dT.cells a0)),(2,.obj [.aO,.aO,.aO,ah aQ,ah aQ]),(6,.obj (dR.cells rj)),(7,ah b5.2),(13,j mf.2)]) ao (λlL o h=>?_) ?_
    ·clear ao;refine W.bc ?_;obtain ⟨AE,KH,h⟩:=aB h;refine W.a7 [1,2,6,7,13,14,163] ?_;refine W.bJ h q (λER h=>?_) (λER h=>?_)
     ·refine W.bS<|ag.bb ?_;refine W.bc ?_;obtain ⟨F5,ab,h⟩:=aB h;refine W.bH [(1,.obj (dT.cells a0)),(2,.obj [.aO,.aO,.aO,ah aQ,ah aQ]),(6,.obj (dR.cells F5)),(7,ah b5.2),(13,j mf.2),(14,j lL.2)] ?_ ?_
      ·clear h; have h:=ab; clear ab;refine W.bo ?_;obtain ⟨Hh,Sh,h⟩:=aB h;obtain ⟨k4,Si,h⟩:=aB h;refine W.bV [1,2,6,7,13,14,15] (ai (O.bm q (.obj q) sM q)<|ai (O.dz (y:=aj dJ a0.Decls) q (.ptr q) wq q q)<|bu q<|ai (O.cQ (.aD q) (.lit q) xB Sh)<|ai (O.e2 (.bs q) sL)<|ai (O.du (x:=aj dF Hh.fh) (.bs q) sJ q)<|bu q<|ai (O.cQ (.aD q) (.lit q) sl Si)<|ai (O.iW (cs':=[ah k4.Name,bk k4.Lit,j k4.c_,j k4.At]) (.bs q) mH q q)<|ai (O.e8 (cs:=[ah aQ,bk false,j 0,j 0]) xM q q)<|au.dQ (G2:=[(1,_),(2,_),(6,_),(7,_),(13,_),(14,_),(15,_)]) (cs2:=[ah k4.Name,bk k4.Lit,j k4.c_,j k4.At]) q (.obj q) (.ck q q) q L_ q q q q (.n q q (.n q q (.n q q (.n q q (.n q q (.n q q (.b q .nil)))))))<|bZ q) ?_;obtain ⟨DH,ab,h⟩:=aB h;refine W.rs [(1,.obj (dT.cells a0)),(2,.obj [.aO,.aO,.aO,ah aQ,ah aQ]),(6,.obj (dR.cells lL.1)),(7,ah b5.2),(13,j mf.2),(14,j lL.2),(15,.obj (dF.cells k4)),(188,bk DH)] ?_ ?_
       ·refine ai (O.bm q (.obj q) sM q)<|ai (O.dz (y:=aj dJ a0.Decls) q (.ptr q) wq q q)<|ai (O.aA (.lit q)) ?_;obtain ⟨Hi,Sj,ab⟩:=aB ab;refine ai (O.cQ (.aD q) (.lit q) xB Sj)<|ai (O.e2 (.bs q) ow)<|ai (O.du (x:=j Hi.Kind) (.bs q) cH q)<|ai (O.geq (.lit q) (.k q))<|ai (O.aA (.lit q)) ?_;rcases cM ab with ⟨yT,ab⟩ | ⟨yT,ab⟩
        ·refine a' yT (O.aA (.obj q))<|a' yT (O.bm q (.obj q) kz q)<|a' yT (O.cA q (.ptr q) eP q) ?_;obtain ⟨Mv,Sk,ab⟩:=aB ab;obtain rfl:=ax ab;exact au.c (cw.vw (ys:=[.ptr ⟨6,[]⟩ 0,ah k4.Name]) q (.c (View.n0 q q) (.s .nil)) (wm lL.1 k4.Name _ Sk) call96 q) q q (.jA q q yT)<|au.a_
        ·obtain rfl:=ax ab;exact au.a_
       obtain ⟨F6,ab,h⟩:=aB h;refine W.bH [(1,.obj (dT.cells a0)),(2,.obj [.aO,.aO,.aO,ah aQ,ah aQ]),(6,.obj (dR.cells F6)),(7,ah b5.2),(13,j mf.2),(14,j lL.2)] ?_ ?_
       ·clear h; have h:=ab; clear ab;refine W.bJ h q (λQ1 h=>?_) (λQ1 h=>?_)
        ·obtain ⟨nB,Sl,h⟩:=aB h;refine W.br [1,2,6,7,13,14] (ai (O.aA (.obj q))<|ai (O.bm q (.obj q) qP q)<|ai (O.cA q (.ptr q) cH q)<|ai (O.bm q (.obj q) kz q)<|ai (O.cA q (.ptr q) eP q)<|au.h4 q (cq.call q q (hB.mP (G2:=[(1,.obj (dT.cells a0)),(2,.obj [.aO,.aO,.aO,ah aQ,ah aQ]),(7,ah b5.2),(13,j mf.2),(14,j lL.2)]) (A:=[]) (ys:=[.ptr ⟨6,[]⟩ 0,j k4.At,ah k4.Name]) (args:=[.obj (dR.cells lL.1),j k4.At,ah k4.Name]) (cs':=[al bl nB.aq.aX,al a1 nB.aq.bt,al bD nB.aq.aW,ah nB.aq.bw,ah nB.aq.bz,al b0 nB.bT,al a1 nB.bN,al cp nB.bA,j nB.b',j nB.cb,ah nB.ca,j nB.bO,j nB.bx]) (k0:=0) q q q q (.b q (.n q (.n q .nil))) q (ue lL.1 k4.At k4.Name _ Sl) call94 (fe q q q q q) q q (fe q q q q q) .nil q))<|bZ q) ?_;obtain rfl:=ax h;exact ag.bH (gv q q q q q q)
        ·refine W.bS ?_;obtain rfl:=ax h;exact ag.bH (gv q q q q q q)
       refine ag.bo ?_;obtain rfl:=ax h;exact ag.bH (gv q q q q q q)
      refine ag.bb<|W.br [1,2,6,7,13,14] (bu q<|ai (O.add (.lit q) (.k q))<|au.br [1,2,6,7,13,165] q<|au.a_) ?_;obtain rfl:=ax h;exact ag.go (gv q q q q q q)
     ·refine W.dj ?_;refine ag.di ?_;obtain rfl:=ax h;exact ag.aH (fe q q q q q)
    refine ag.dk ?_;refine ag.bo ?_;refine ag.bb<|W.br [1,2,6,7,13] (bu q<|ai (O.add (.lit q) (.k q))<|au.br [1,2,6,7,154] q<|au.a_) ?_;obtain rfl:=ax h;exact ag.go (fe q q q q q)
   ·refine W.dj ?_;refine ag.di ?_;obtain rfl:=ax h;exact ag.aH (dA q q q q)
  refine ag.dk ?_;refine ag.bb<|W.bc ?_;refine W.a7 [1,2,6,7,196] ?_;obtain ⟨uY,ab,h⟩:=aB h;refine W.bH [(1,.obj (dT.cells a0)),(2,.obj [.aO,.aO,.aO,ah aQ,ah aQ]),(6,.obj (dR.cells bL)),(7,ah uY)] ?_ ?_
  ·clear h; have h:=ab; clear ab;refine W.bJ h q (λQ2 h=>?_) (λQ2 h=>?_)
   ·obtain ⟨Hj,Sm,h⟩:=aB h;refine W.br [1,2,6,7] (ai (O.bm q (.obj q) ur q)<|ai (O.dz (y:=aj hj a0.e1) q (.ptr q) wu q q)<|ai (O.cQ (.aD q) (.k q) vv Sm)<|ai (O.e2 (.bs q) sO)<|ai (O.du (x:=ah Hj.Left) (.bs q) eP q)<|au.br [1,2,6,201] q<|au.a_) ?_;obtain rfl:=ax h;exact ag.bH (dA q q q q)
   ·refine W.bS ?_;obtain rfl:=ax h;exact ag.bH (dA q q q q)
  refine ag.bb ?_;obtain ⟨hQ,Sn,h⟩:=aB h;refine W.bV [1,2,6] (ai (O.aA (.obj q))<|ai (O.aA (.obj q))<|bu q<|d' (cw.vw (ys:=[.ptr ⟨6,[]⟩ 0,ah uY]) q (.c (View.n0 q q) (.s .nil)) (wm bL uY _ Sn) call96 q)<|ai (O.add (.k q) (.lit q))<|au.gP (x:=aj aG [aM (1001+hQ)]) (O.dI (ys:=[j (aM (1001+hQ))]) aG [aM (1001+hQ)] eS q q q q q q mj q q) q q .none<|au.gP (x:=.agg [j 0,aj aG [aM (1001+hQ)],j (-1),ah aQ,aj aG ([]:List Int),j 0]) (O.fi (cs:=[j 0,aj aG [aM (1001+hQ)],j (-1),ah aQ,.aO,j 0]) GQ AG q q q) q q .none<|ai (O.dI (ys:=[.agg [j 0,aj aG [aM (1001+hQ)],j (-1),ah aQ,aj aG ([]:List Int),j 0]]) bD [(⟨0,[aM (1001+hQ)],(-1),aQ,([]:List Int),0⟩:Prod)] mT q q q q q q Hr q q)<|ai (O.eJ (.ptr q))<|ai (O.bm q (.ptr q) j2 q)<|ai (O.bm q (.ptr q) lW q)<|au.h4 (G2:=[(1,.obj (dT.cells a0)),(2,.obj [.aO,.aO,.aO,ah aQ,ah aQ]),(6,.obj [al bl bL.aq.aX,al a1 bL.aq.bt,al bD [(⟨0,[aM (1001+hQ)],(-1),aQ,([]:List Int),0⟩:Prod)],ah bL.aq.bw,ah bL.aq.bz,al b0 bL.bT,al a1 bL.bN,al cp bL.bA,j bL.b',j bL.cb,ah bL.ca,j bL.bO,j bL.bx])]) q (cq.sm (y':=al bD [(⟨0,[aM (1001+hQ)],(-1),aQ,([]:List Int),0⟩:Prod)]) (cs2:=[al bl bL.aq.aX,al a1 bL.aq.bt,al bD [(⟨0,[aM (1001+hQ)],(-1),aQ,([]:List Int),0⟩:Prod)],ah bL.aq.bw,ah bL.aq.bz,al b0 bL.bT,al a1 bL.bN,al cp bL.bA,j bL.b',j bL.cb,ah bL.ca,j bL.bO,j bL.bx]) q q (.ptr q) (.own q) (.r q .nil) .refl q G3 q q q q q (.n q q (.n q q (.b q .nil))))<|bZ q) ?_;refine W.bc<|W.a7 [1,2,6,16] ?_;refine W.bo ?_;obtain ⟨aZ,ao,h⟩:=aB h;refine W.cj (G1:=[(1,_),(2,_),(6,.obj [al bl (((⟨(⟨bL.aq.aX,bL.aq.bt,[(⟨0,[aM (1001+hQ)],(-1),aQ,([]:List Int),0⟩:Prod)],bL.aq.bw,bL.aq.bz⟩:bR),bL.bT,bL.bN,bL.bA,bL.b',bL.cb,bL.ca,bL.bO,bL.bx⟩:cC).aq).aX),al a1 (((⟨(⟨bL.aq.aX,bL.aq.bt,[(⟨0,[aM (1001+hQ)],(-1),aQ,([]:List Int),0⟩:Prod)],bL.aq.bw,bL.aq.bz⟩:bR),bL.bT,bL.bN,bL.bA,bL.b',bL.cb,bL.ca,bL.bO,bL.bx⟩:cC).aq).bt),al bD (((⟨(⟨bL.aq.aX,bL.aq.bt,[(⟨0,[aM (1001+hQ)],(-1),aQ,([]:List Int),0⟩:Prod)],bL.aq.bw,bL.aq.bz⟩:bR),bL.bT,bL.bN,bL.bA,bL.b',bL.cb,bL.ca,bL.bO,bL.bx⟩:cC).aq).aW),ah (((⟨(⟨bL.aq.aX,bL.aq.bt,[(⟨0,[aM (1001+hQ)],(-1),aQ,([]:List Int),0⟩:Prod)],bL.aq.bw,bL.aq.bz⟩:bR),bL.bT,bL.bN,bL.bA,bL.b',bL.cb,bL.ca,bL.bO,bL.bx⟩:cC).aq).bw),ah (((⟨(⟨bL.aq.aX,bL.aq.bt,[(⟨0,[aM (1001+hQ)],(-1),aQ,([]:List Int),0⟩:Prod)],bL.aq.bw,bL.aq.bz⟩:bR),bL.bT,bL.bN,bL.bA,bL.b',bL.cb,bL.ca,bL.bO,bL.bx⟩:cC).aq).bz),al b0 ((⟨(⟨bL.aq.aX,bL.aq.bt,[(⟨0,[aM (1001+hQ)],(-1),aQ,([]:List Int),0⟩:Prod)],bL.aq.bw,bL.aq.bz⟩:bR),bL.bT,bL.bN,bL.bA,bL.b',bL.cb,bL.ca,bL.bO,bL.bx⟩:cC).bT),al a1 ((⟨(⟨bL.aq.aX,bL.aq.bt,[(⟨0,[aM (1001+hQ)],(-1),aQ,([]:List Int),0⟩:Prod)],bL.aq.bw,bL.aq.bz⟩:bR),bL.bT,bL.bN,bL.bA,bL.b',bL.cb,bL.ca,bL.bO,bL.bx⟩:cC).bN),al cp ((⟨(⟨bL.aq.aX,bL.aq.bt,[(⟨0,[aM (1001+hQ)],(-1),aQ,([]:List Int),0⟩:Prod)],bL.aq.bw,bL.aq.bz⟩:bR),bL.bT,bL.bN,bL.bA,bL.b',bL.cb,bL.ca,bL.bO,bL.bx⟩:cC).bA),j ((⟨(⟨bL.aq.aX,bL.aq.bt,[(⟨0,[aM (1001+hQ)],(-1),aQ,([]:List Int),0⟩:Prod)],bL.aq.bw,bL.aq.bz⟩:bR),bL.bT,bL.bN,bL.bA,bL.b',bL.cb,bL.ca,bL.bO,bL.bx⟩:cC).b'),j ((⟨(⟨bL.aq.aX,bL.aq.bt,[(⟨0,[aM (1001+hQ)],(-1),aQ,([]:List Int),0⟩:Prod)],bL.aq.bw,bL.aq.bz⟩:bR),bL.bT,bL.bN,bL.bA,bL.b',bL.cb,bL.ca,bL.bO,bL.bx⟩:cC).cb),ah ((⟨(⟨bL.aq.aX,bL.aq.bt,[(⟨0,[aM (1001+hQ)],(-1),aQ,([]:List Int),0⟩:Prod)],bL.aq.bw,bL.aq.bz⟩:bR),bL.bT,bL.bN,bL.bA,bL.b',bL.cb,bL.ca,bL.bO,bL.bx⟩:cC).ca),j ((⟨(⟨bL.aq.aX,bL.aq.bt,[(⟨0,[aM (1001+hQ)],(-1),aQ,([]:List Int),0⟩:Prod)],bL.aq.bw,bL.aq.bz⟩:bR),bL.bT,bL.bN,bL.bA,bL.b',bL.cb,bL.ca,bL.bO,bL.bx⟩:cC).bO),j ((⟨(⟨bL.aq.aX,bL.aq.bt,[(⟨0,[aM (1001+hQ)],(-1),aQ,([]:List Int),0⟩:Prod)],bL.aq.bw,bL.aq.bz⟩:bR),bL.bT,bL.bN,bL.bA,bL.b',bL.cb,bL.ca,bL.bO,bL.bx⟩:cC).bx)]),(16,_)]) (dA q q q q) ?_;refine W.e4 (s:=((⟨(⟨bL.aq.aX,bL.aq.bt,[(⟨0,[aM (1001+hQ)],(-1),aQ,([]:List Int),0⟩:Prod)],bL.aq.bw,bL.aq.bz⟩:bR),bL.bT,bL.bN,bL.bA,bL.b',bL.cb,bL.ca,bL.bO,bL.bx⟩:cC),0)) (λ(mS:cC × Int)=>[(1,.obj (dT.cells a0)),(2,.obj [.aO,.aO,.aO,ah aQ,ah aQ]),(6,.obj (dR.cells mS.1)),(16,j mS.2)]) 10 (λ(aZ:cC)=>[(1,.obj (dT.cells a0)),(2,.obj [.aO,.aO,.aO,ah aQ,ah aQ]),(6,.obj (dR.cells aZ))]) ao (λmS o h=>?_) ?_
  ·clear ao;refine W.bc<|W.a7 [1,2,6,16,217] ?_;refine W.bJ h q (λQ3 h=>?_) (λQ3 h=>?_)
   ·refine W.bS<|ag.bb ?_;refine W.bc<|W.bo ?_;refine W.a7 [1,2,6,16,17] ?_;refine W.bo ?_;obtain ⟨xK,ao,h⟩:=aB h;refine W.cj (G1:=[(1,_),(2,_),(6,_),(16,_),(17,_)]) (fe q q q q q) ?_;refine W.e4 (s:=(mS.1,0)) (λ(lM:cC × Int)=>[(1,.obj (dT.cells a0)),(2,.obj [.aO,.aO,.aO,ah aQ,ah aQ]),(6,.obj (dR.cells lM.1)),(16,j mS.2),(17,j lM.2)]) 12 (λ(xK:cC)=>[(1,.obj (dT.cells a0)),(2,.obj [.aO,.aO,.aO,ah aQ,ah aQ]),(6,.obj (dR.cells xK)),(16,j mS.2)]) ao (λlM o h=>?_) ?_
    ·clear ao;refine W.bc ?_;obtain ⟨Mw,V8,h⟩:=aB h;refine W.a7 [1,2,6,16,17,228] ?_;refine W.bJ h q (λQ4 h=>?_) (λQ4 h=>?_)
     ·refine W.bS<|ag.bb ?_;refine W.bc<|W.bo ?_;obtain ⟨xL,Sp,h⟩:=aB h;obtain ⟨Hk,Sq,h⟩:=aB h;obtain ⟨o1,Sr,h⟩:=aB h;obtain ⟨iF,Ss,h⟩:=aB h;refine W.rd [[],[],[1],[],[1,2,3],[1,2,3,4],aT 1 5 [],[],[7],[],[7,8,9],[7,8,9,10],aT 7 5 [],[],aT 7 7 [],aT 7 8 [],aT 0 16 []] [(1,_),(2,_),(6,_),(16,_),(17,_)] eY (by kernel_rfl) (aw 0 (O.aA (.obj q))<|aw 1 (O.bm q (.obj q) ur q)<|aw 2 (O.dz (y:=aj hj a0.e1) q (.ptr q) wu q q)<|aw 3 (O.aA (.lit q))<|aw 4 (O.cQ (.aD q) (.lit q) vv Sp)<|aw 5 (O.e2 (.bs q) sO)<|aw 6 (O.du (x:=ah xL.Left) (.bs q) eP q)<|aw 7 (O.bm q (.obj q) ur q)<|aw 8 (O.dz (y:=aj hj a0.e1) q (.ptr q) wu q q)<|aw 9 (O.aA (.lit q))<|aw 10 (O.cQ (.aD q) (.lit q) vv Sq)<|aw 11 (O.e2 (.bs q) yA)<|aw 12 (O.du (x:=aj eD Hk.gZ) (.bs q) Br q)<|aw 13 (O.aA (.lit q))<|aw 14 (O.cQ (.aD q) (.lit q) Au Sr)<|aw 15 (O.iW (cs':=[aj lu o1.jr,ah o1.Prec.Name,bk o1.Prec.Lit,j o1.Prec.c_,j o1.Prec.At,j o1.At]) (.bs q) H4 q q)<|b1.ky 16 (G2:=[(247,.cr []),(6,.obj [al bl iF.aq.aX,al a1 iF.aq.bt,al bD iF.aq.aW,ah iF.aq.bw,ah iF.aq.bz,al b0 iF.bT,al a1 iF.bN,al cp iF.bA,j iF.b',j iF.cb,ah iF.ca,j iF.bO,j iF.bx]),(1,.obj (dT.cells a0)),(2,.obj [.aO,.aO,.aO,ah aQ,ah aQ]),(16,j mS.2),(17,j lM.2)]) (cq.call q q (hB.mP (G2:=[(1,.obj (dT.cells a0)),(2,.obj [.aO,.aO,.aO,ah aQ,ah aQ]),(16,j mS.2),(17,j lM.2)]) (A:=[]) (ys:=[.ptr ⟨6,[]⟩ 0,ah xL.Left,.agg (eD.cells o1)]) (args:=[.obj (dR.cells lM.1),ah xL.Left,.agg (eD.cells o1)]) (cs':=[al bl iF.aq.aX,al a1 iF.aq.bt,al bD iF.aq.aW,ah iF.aq.bw,ah iF.aq.bz,al b0 iF.bT,al a1 iF.bN,al cp iF.bA,j iF.b',j iF.cb,ah iF.ca,j iF.bO,j iF.bx]) (k0:=0) q q q q (.b q (.n q (.n q .nil))) q (OZ lM.1 xL.Left o1 _ Ss) call97 (dA q q q q) q q (dA q q q q) .nil q)) q q q q (by kernel_rfl) (by kernel_rfl)<|b1.fin q q q (fe q q q q q)) ?_;refine ag.bo ?_;refine ag.bb<|W.br [1,2,6,16,17] (bu q<|ai (O.add (.lit q) (.k q))<|au.br [1,2,6,16,230] q<|au.a_) ?_;obtain rfl:=ax h;exact ag.go (fe q q q q q)
     ·refine W.dj ?_;refine ag.di ?_;obtain rfl:=ax h;exact ag.aH (dA q q q q)
    refine ag.dk ?_;refine ag.bo ?_;refine ag.bb<|W.br [1,2,6,16] (bu q<|ai (O.add (.lit q) (.k q))<|au.br [1,2,6,219] q<|au.a_) ?_;obtain rfl:=ax h;exact ag.go (dA q q q q)
   ·refine W.dj ?_;refine ag.di ?_;obtain rfl:=ax h;exact ag.aH (dH q q q)
  refine ag.dk ?_;refine ag.bb<|W.bc ?_;refine W.a7 [1,2,6,252] ?_;refine W.bJ h q (λQ5 h=>?_) (λQ5 h=>?_)
  ·refine W.bc<|W.rd [[],[],[1],[1,2],[1,2,3],[],[5],[5,6],[5,6,7],[],[9],[9,10],[9,10,11],[0],aT 0 5 [13],aT 0 9 [13,14],aT 0 16 []] [(2,_),(3,_),(4,_),(5,_)] eY (by kernel_rfl) (aw 0 (O.fi (cs:=[.aO,.aO,.aO,ah aQ,ah aQ]) GR o2 q q q)<|aw 1 (O.aA (.obj q))<|aw 2 (O.eJ (.ptr q))<|aw 3 (O.bm q (.ptr q) yt q)<|aw 4 (O.cA q (.ptr q) cH q)<|aw 5 (O.aA (.obj q))<|aw 6 (O.eJ (.ptr q))<|aw 7 (O.bm q (.ptr q) yu q)<|aw 8 (O.cA q (.ptr q) cH q)<|aw 9 (O.aA (.obj q))<|aw 10 (O.eJ (.ptr q))<|aw 11 (O.bm q (.ptr q) yv q)<|aw 12 (O.cA q (.ptr q) eP q)<|b1.fi 13 (G2:=[(2,.obj [.aO,.aO,.aO,ah aQ,ah aQ]),(6,.obj (dR.cells aZ))]) (U:=[(12,265,some (ah aZ.ca)),(11,264,some (.ptr ⟨6,[]⟩ 10)),(10,263,some (.ptr ⟨6,[]⟩ 0)),(9,262,some (.ptr ⟨6,[]⟩ 0)),(8,261,some (j aZ.cb)),(7,260,some (.ptr ⟨6,[]⟩ 9)),(6,259,some (.ptr ⟨6,[]⟩ 0)),(5,258,some (.ptr ⟨6,[]⟩ 0)),(4,257,some (j aZ.b')),(3,256,some (.ptr ⟨6,[]⟩ 8)),(2,255,some (.ptr ⟨6,[]⟩ 0)),(1,254,some (.ptr ⟨6,[]⟩ 0))]) (lS.v (cq.nJ (cq.dQ (G2:=[(2,.obj [.aO,.aO,.aO,ah aQ,ah aQ]),(6,.obj (dR.cells aZ))]) (cs2:=[.aO,.aO,.aO,ah aQ,ah aQ]) q q q (.obj q) (.ck q q) q nx q q q q (.b q (.n q q .nil))))) q q (by kernel_rfl) q q q (.c (.inr (.inl ⟨_,q⟩)) q q q q q (gg.wanted .none) (O.cA q (.ptr q) eP q) (.c (.inr (.inr (.inr (.inl ⟨6,_,_,q,q,jl q,by simp,_,q,jl q⟩)))) q q q q q (gg.wanted .none) (O.bm q (.ptr q) yv q) (.c (.inr (.inr (.inr (.inl ⟨6,_,_,q,q,jl q,by simp,_,q,jl q⟩)))) q q q q q (gg.wanted .none) (O.eJ (.ptr q)) (.c (.inr (.inr (.inr (.inl ⟨6,_,_,q,q,jl q,by simp,_,q,jl q⟩)))) q q q q q (gg.wanted .none) (O.aA (.obj q)) (.c (.inr (.inl ⟨_,q⟩)) q q q q q (gg.wanted .none) (O.cA q (.ptr q) cH q) (.c (.inr (.inr (.inr (.inl ⟨6,_,_,q,q,jl q,by simp,_,q,jl q⟩)))) q q q q q (gg.wanted .none) (O.bm q (.ptr q) yu q) (.c (.inr (.inr (.inr (.inl ⟨6,_,_,q,q,jl q,by simp,_,q,jl q⟩)))) q q q q q (gg.wanted .none) (O.eJ (.ptr q)) (.c (.inr (.inr (.inr (.inl ⟨6,_,_,q,q,jl q,by simp,_,q,jl q⟩)))) q q q q q (gg.wanted .none) (O.aA (.obj q)) (.c (.inr (.inl ⟨_,q⟩)) q q q q q (gg.wanted .none) (O.cA q (.ptr q) cH q) (.c (.inr (.inr (.inr (.inl ⟨6,_,_,q,q,jl q,by simp,_,q,jl q⟩)))) q q q q q (gg.wanted .none) (O.bm q (.ptr q) yt q) (.c (.inr (.inr (.inr (.inl ⟨6,_,_,q,q,jl q,by simp,_,q,jl q⟩)))) q q q q q (gg.wanted .none) (O.eJ (.ptr q)) (.c (.inr (.inr (.inr (.inl ⟨6,_,_,q,q,jl q,by simp,_,q,jl q⟩)))) q q q q q (gg.wanted .none) (O.aA (.obj q)) .nil)))))))))))) (by kernel_rfl)<|aw 14 (O.dq (.lit q))<|aw 15 (O.dq (.lit q))<|aw 16 (O.dq (.lit q))<|b1.fin q q q (dA q q q q)) ?_;refine ag.bb<|W.fI (G1:=[(2,.obj [aj bl ([]:List bC),aj a1 ([]:List eH),aj bD ([]:List Prod),ah aQ,ah aQ]),(3,_),(4,_),(5,_)]) [2] (.z q q (gp.obj (.z (.z (.z (.f (.f .nil)))))) (.n q q (.n q q (.n q q .nil)))) ?_;refine W.rt ?_;refine ag.c5 ?_;obtain rfl:=ax h;exact cF (.c (ys0:=[aj bl ([]:List bC),aj a1 ([]:List eH),aj bD ([]:List Prod),ah aQ,ah aQ]) q fY q q q (.f q (.f q (.f q (.f q (.f q .nil))))) (.f q q (.f q q (.f q q .nil))))
  ·refine W.bS<|ag.bb ?_;refine W.bV [1,2,6] (ai (O.aA (.obj q))<|ai (O.fi (cs:=[ah ({ data:=#[36,97,99,99,101,112,116] }),ah aQ]) CV AH q q q)<|ai (O.dI (ys:=[.agg [ah ({ data:=#[36,97,99,99,101,112,116] }),ah aQ]]) a1 [(⟨{ data:=#[36,97,99,99,101,112,116] },aQ⟩:eH)] q_ q q q q q q Dd q q)<|ai (O.eJ (.ptr q))<|ai (O.bm q (.ptr q) j2 q)<|ai (O.bm q (.ptr q) rL q)<|au.h4 (G2:=[(1,.obj (dT.cells a0)),(2,.obj [.aO,.aO,.aO,ah aQ,ah aQ]),(6,.obj [al bl aZ.aq.aX,al a1 [(⟨{ data:=#[36,97,99,99,101,112,116] },aQ⟩:eH)],al bD aZ.aq.aW,ah aZ.aq.bw,ah aZ.aq.bz,al b0 aZ.bT,al a1 aZ.bN,al cp aZ.bA,j aZ.b',j aZ.cb,ah aZ.ca,j aZ.bO,j aZ.bx])]) q (cq.sm (y':=al a1 [(⟨{ data:=#[36,97,99,99,101,112,116] },aQ⟩:eH)]) (cs2:=[al bl aZ.aq.aX,al a1 [(⟨{ data:=#[36,97,99,99,101,112,116] },aQ⟩:eH)],al bD aZ.aq.aW,ah aZ.aq.bw,ah aZ.aq.bz,al b0 aZ.bT,al a1 aZ.bN,al cp aZ.bA,j aZ.b',j aZ.cb,ah aZ.ca,j aZ.bO,j aZ.bx]) q q (.ptr q) (.own q) (.r q .nil) .refl q C3 q q q q q (.n q q (.n q q (.b q .nil))))<|bZ q) ?_;refine W.bc<|W.a7 [1,2,6,18] ?_;refine W.bo ?_;obtain ⟨tG,ao,h⟩:=aB h;refine W.cj (G1:=[(1,_),(2,_),(6,_),(18,_)]) (dA q q q q) ?_;refine W.e4 (s:=([(⟨{ data:=#[36,97,99,99,101,112,116] },aQ⟩:eH)],0)) (λ(mg:List eH × Int)=>[(1,.obj (dT.cells a0)),(2,.obj [.aO,.aO,.aO,ah aQ,ah aQ]),(6,.obj [al bl aZ.aq.aX,al a1 mg.1,al bD aZ.aq.aW,ah aZ.aq.bw,ah aZ.aq.bz,al b0 aZ.bT,al a1 aZ.bN,al cp aZ.bA,j aZ.b',j aZ.cb,ah aZ.ca,j aZ.bO,j aZ.bx]),(18,j mg.2)]) 14 (λ(tG:List eH)=>[(1,.obj (dT.cells a0)),(2,.obj [.aO,.aO,.aO,ah aQ,ah aQ]),(6,.obj [al bl aZ.aq.aX,al a1 tG,al bD aZ.aq.aW,ah aZ.aq.bw,ah aZ.aq.bz,al b0 aZ.bT,al a1 aZ.bN,al cp aZ.bA,j aZ.b',j aZ.cb,ah aZ.ca,j aZ.bO,j aZ.bx])]) ao (λmg o h=>?_) ?_
   ·clear ao;refine W.bc<|W.a7 [1,2,6,18,278] ?_;refine W.bJ h q (λQ6 h=>?_) (λQ6 h=>?_)
    ·refine W.bS<|ag.bb ?_;refine W.bc<|W.bo ?_;obtain ⟨lQ,KI,h⟩:=aB h;refine W.bV [1,2,6,18,19] (ai (O.aA (.obj q))<|ai (O.eJ (.ptr q))<|ai (O.bm q (.ptr q) wC q)<|ai (O.dz (y:=.bq cp.z ⟨6,[7]⟩ aZ.bA.length) q (.ptr q) yf q q)<|bu q<|ai (O.iC (en:=cp) q (.bq q) (.lit q) Ar KI q)<|ai (O.kj (en:=cp) (x':=ah lQ) q (.ptr q) eP KI q q)<|ai (O.fi (cs:=[ah lQ,ah aQ]) CV AH q q q)<|ai (O.e8 (cs:=[ah aQ,ah aQ]) AH q q)<|au.dQ (G2:=[(1,_),(2,_),(6,_),(18,_),(19,_)]) (cs2:=[ah lQ,ah aQ]) q (.obj q) (.ck q q) q Up q q q q (.n q q (.n q q (.n q q (.n q q (.b q .nil)))))<|bZ q) ?_;refine W.bc ?_;obtain ⟨vD,St,h⟩:=aB h;refine W.bV [1,2,6,18,19,20] (ai (O.aA (.obj q))<|ai (O.bm q (.obj q) I9 q)<|ai (O.cA q (.ptr q) eP q)<|d' (cw.vw (ys:=[.ptr ⟨6,[]⟩ 0,ah lQ]) q (.c (View.n0 q q) (.s .nil)) (IH (⟨(⟨aZ.aq.aX,mg.1,aZ.aq.aW,aZ.aq.bw,aZ.aq.bz⟩:bR),aZ.bT,aZ.bN,aZ.bA,aZ.b',aZ.cb,aZ.ca,aZ.bO,aZ.bx⟩:cC) lQ _ St) call98 q)<|au.a_) ?_;refine W.a7 [1,2,6,18,19,20,294] ?_;obtain ⟨px,ab,h⟩:=aB h;refine W.bH [(1,.obj (dT.cells a0)),(2,.obj [.aO,.aO,.aO,ah aQ,ah aQ]),(6,.obj [al bl aZ.aq.aX,al a1 mg.1,al bD aZ.aq.aW,ah aZ.aq.bw,ah aZ.aq.bz,al b0 aZ.bT,al a1 aZ.bN,al cp aZ.bA,j aZ.b',j aZ.cb,ah aZ.ca,j aZ.bO,j aZ.bx]),(18,j mg.2),(19,.obj [ah lQ,ah px])] ?_ ?_
     ·clear h; have h:=ab; clear ab;refine W.bJ h q (λQ7 h=>?_) (λQ7 h=>?_)
      ·obtain ⟨C8,FK,h⟩:=aB h;refine W.br [1,2,6,18,19] (ai (O.aA (.obj q))<|ai (O.eJ (.ptr q))<|ai (O.bm q (.ptr q) yr q)<|ai (O.dz (y:=.bq a1.z ⟨6,[6]⟩ aZ.bN.length) q (.ptr q) rG q q)<|bu q<|ai (O.iC (en:=a1) q (.bq q) (.lit q) q_ FK q)<|ai (O.mu (en:=a1) q (.ptr q) BA FK q q)<|ai (O.kj (en:=a1) (x':=ah C8.Tag) q (.ptr q) eP FK q q)<|ai (O.bm q (.obj q) BA q)<|au.dQ (G2:=[(1,_),(2,_),(6,_),(18,_),(19,_)]) (cs2:=[ah lQ,ah C8.Tag]) q (.ptr q) (.lit q) q vz q q q q (.n q q (.n q q (.n q q (.n q q (.b q .nil)))))<|bZ q) ?_;obtain rfl:=ax h;exact ag.bH (fe q q q q q)
      ·refine W.bS ?_;obtain rfl:=ax h;exact ag.bH (fe q q q q q)
     refine ag.bb ?_;obtain ⟨Mx,Su,h⟩:=aB h;refine W.rd [[],[],[1],[1,2],[1,2,3],[1,2,3,4],[],[6],aT 1 7 [],aT 0 9 [],aT 0 10 [],aT 0 11 [],aT 0 12 []] [(1,_),(2,_),(6,_),(18,_)] eY (by kernel_rfl) (aw 0 (O.aA (.obj q))<|aw 1 (O.aA (.obj q))<|aw 2 (O.eJ (.ptr q))<|aw 3 (O.bm q (.ptr q) j2 q)<|aw 4 (O.bm q (.ptr q) rL q)<|aw 5 (O.dz (y:=.bq a1.z ⟨6,[1]⟩ mg.1.length) q (.ptr q) rG q q)<|aw 6 (O.dP (cs':=[ah lQ,ah px]) q (.obj q) Nu q q)<|b1.gP 7 (x:=aj a1 [(⟨lQ,px⟩:eH)]) (O.dI (ys:=[.agg [ah lQ,ah px]]) a1 [(⟨lQ,px⟩:eH)] q_ q q q q q q Dd q q) q q q q .none<|aw 8 (O.ap (en:=a1) (r:=Mx) (.bq q) q (.aD q) .i Du q Su)<|aw 9 (O.eJ (.ptr q))<|aw 10 (O.bm q (.ptr q) j2 q)<|aw 11 (O.bm q (.ptr q) rL q)<|b1.ky 12 (G2:=[(1,.obj (dT.cells a0)),(2,.obj [.aO,.aO,.aO,ah aQ,ah aQ]),(6,.obj [al bl aZ.aq.aX,al a1 (mg.1++[(⟨lQ,px⟩:eH)]),al bD aZ.aq.aW,ah aZ.aq.bw,ah aZ.aq.bz,al b0 aZ.bT,al a1 aZ.bN,al cp aZ.bA,j aZ.b',j aZ.cb,ah aZ.ca,j aZ.bO,j aZ.bx]),(18,j mg.2)]) (cq.nw (g1:=_) (en:=a1) (M:=[(⟨lQ,px⟩:eH)]) (cs2:=[al bl aZ.aq.aX,al a1 (mg.1++[(⟨lQ,px⟩:eH)]),al bD aZ.aq.aW,ah aZ.aq.bw,ah aZ.aq.bz,al b0 aZ.bT,al a1 aZ.bN,al cp aZ.bA,j aZ.b',j aZ.cb,ah aZ.ca,j aZ.bO,j aZ.bx]) q q (.ptr q) (.b3 q) q q q .nq .hP q q C3 q q q q (.n q q (.n q q (.b q (.n q q .nil))))) q q q q (by kernel_rfl) (by kernel_rfl)<|b1.fin q q q (dA q q q q)) ?_;refine ag.bo ?_;refine ag.bb<|W.br [1,2,6,18] (bu q<|ai (O.add (.lit q) (.k q))<|au.br [1,2,6,280] q<|au.a_) ?_;obtain rfl:=ax h;exact ag.go (dA q q q q)
    ·refine W.dj ?_;refine ag.di ?_;obtain rfl:=ax h;exact ag.aH (dH q q q)
   refine ag.dk ?_;refine ag.bb<|W.bc ?_;refine W.a7 [1,2,6,21] ?_;refine W.bo ?_;obtain ⟨iG,ao,h⟩:=aB h;refine W.cj (G1:=[(1,_),(2,_),(6,_),(21,_)]) (dA q q q q) ?_;refine W.e4 (s:=(tG,1)) (λ(nv:List eH × Int)=>[(1,.obj (dT.cells a0)),(2,.obj [.aO,.aO,.aO,ah aQ,ah aQ]),(6,.obj [al bl aZ.aq.aX,al a1 nv.1,al bD aZ.aq.aW,ah aZ.aq.bw,ah aZ.aq.bz,al b0 aZ.bT,al a1 aZ.bN,al cp aZ.bA,j aZ.b',j aZ.cb,ah aZ.ca,j aZ.bO,j aZ.bx]),(21,j nv.2)]) 16 (λ(iG:List eH)=>[(1,.obj (dT.cells a0)),(2,.obj [.aO,.aO,.aO,ah aQ,ah aQ]),(6,.obj [al bl aZ.aq.aX,al a1 iG,al bD aZ.aq.aW,ah aZ.aq.bw,ah aZ.aq.bz,al b0 aZ.bT,al a1 aZ.bN,al cp aZ.bA,j aZ.b',j aZ.cb,ah aZ.ca,j aZ.bO,j aZ.bx])]) ao (λnv o h=>?_) ?_
   ·clear ao;refine W.bc<|W.a7 [1,2,6,21,321] ?_;refine W.bJ h q (λQ8 h=>?_) (λQ8 h=>?_)
    ·refine W.bS<|ag.bb ?_;refine W.bc<|W.bo ?_;obtain ⟨C9,Sv,h⟩:=aB h;obtain ⟨qx,Sw,h⟩:=aB h;obtain ⟨My,Sx,h⟩:=aB h;refine W.rd [[],[],[1],[1,2],[1,2,3],[1,2,3,4],[],[6],[6,7],[6,7,8],[6,7,8,9],aT 1 10 [],aT 0 12 [],aT 0 13 [],aT 0 14 [],aT 0 15 []] [(1,_),(2,_),(6,_),(21,_)] eY (by kernel_rfl) (aw 0 (O.aA (.obj q))<|aw 1 (O.aA (.obj q))<|aw 2 (O.eJ (.ptr q))<|aw 3 (O.bm q (.ptr q) j2 q)<|aw 4 (O.bm q (.ptr q) rL q)<|aw 5 (O.dz (y:=.bq a1.z ⟨6,[1]⟩ nv.1.length) q (.ptr q) rG q q)<|aw 6 (O.aA (.lit q))<|jn 7 (cw.go (.b2 (.lit q) .nil) (O0 nv.2 _ Sv) call99 q)<|aw 8 (O.cat (.k q) (.lit q) Sw)<|aw 9 (O.fi (cs:=[ah qx,ah aQ]) CV AH q q q)<|b1.gP 10 (x:=aj a1 [(⟨qx,aQ⟩:eH)]) (O.dI (ys:=[.agg [ah qx,ah aQ]]) a1 [(⟨qx,aQ⟩:eH)] q_ q q q q q q Dd q q) q q q q .none<|aw 11 (O.ap (en:=a1) (r:=My) (.bq q) q (.aD q) .i Du q Sx)<|aw 12 (O.eJ (.ptr q))<|aw 13 (O.bm q (.ptr q) j2 q)<|aw 14 (O.bm q (.ptr q) rL q)<|b1.ky 15 (G2:=[(1,.obj (dT.cells a0)),(2,.obj [.aO,.aO,.aO,ah aQ,ah aQ]),(6,.obj [al bl aZ.aq.aX,al a1 (nv.1++[(⟨qx,aQ⟩:eH)]),al bD aZ.aq.aW,ah aZ.aq.bw,ah aZ.aq.bz,al b0 aZ.bT,al a1 aZ.bN,al cp aZ.bA,j aZ.b',j aZ.cb,ah aZ.ca,j aZ.bO,j aZ.bx]),(21,j nv.2)]) (cq.nw (g1:=_) (en:=a1) (M:=[(⟨qx,aQ⟩:eH)]) (cs2:=[al bl aZ.aq.aX,al a1 (nv.1++[(⟨qx,aQ⟩:eH)]),al bD aZ.aq.aW,ah aZ.aq.bw,ah aZ.aq.bz,al b0 aZ.bT,al a1 aZ.bN,al cp aZ.bA,j aZ.b',j aZ.cb,ah aZ.ca,j aZ.bO,j aZ.bx]) q q (.ptr q) (.b3 q) q q q .nq .hP q q C3 q q q q (.n q q (.n q q (.b q (.n q q .nil))))) q q q q (by kernel_rfl) (by kernel_rfl)<|b1.fin q q q (dA q q q q)) ?_;refine ag.bo ?_;refine ag.bb<|W.br [1,2,6,21] (bu q<|ai (O.add (.lit q) (.k q))<|au.br [1,2,6,323] q<|au.a_) ?_;obtain rfl:=ax h;exact ag.go (dA q q q q)
    ·refine W.dj ?_;refine ag.di ?_;obtain rfl:=ax h;exact ag.aH (dH q q q)
   refine ag.dk ?_;refine ag.bb<|W.a7 [1,2,6,22] ?_;refine W.bc<|W.a7 [1,2,6,22,23] ?_;refine W.bo ?_;obtain ⟨j9,ao,h⟩:=aB h;refine W.cj (G1:=[(1,_),(2,_),(6,_),(22,_),(23,_)]) (fe q q q q q) ?_;refine W.e4 (s:=(aZ.aq.aX,57346,3)) (λ(iq:List bC × Int × Int)=>[(1,.obj (dT.cells a0)),(2,.obj [.aO,.aO,.aO,ah aQ,ah aQ]),(6,.obj [al bl iq.1,al a1 iG,al bD aZ.aq.aW,ah aZ.aq.bw,ah aZ.aq.bz,al b0 aZ.bT,al a1 aZ.bN,al cp aZ.bA,j aZ.b',j aZ.cb,ah aZ.ca,j aZ.bO,j aZ.bx]),(22,j iq.2.1),(23,j iq.2.2)]) 18 (λ(j9:List bC)=>[(1,.obj (dT.cells a0)),(2,.obj [.aO,.aO,.aO,ah aQ,ah aQ]),(6,.obj [al bl j9,al a1 iG,al bD aZ.aq.aW,ah aZ.aq.bw,ah aZ.aq.bz,al b0 aZ.bT,al a1 aZ.bN,al cp aZ.bA,j aZ.b',j aZ.cb,ah aZ.ca,j aZ.bO,j aZ.bx])]) ao (λiq o h=>?_) ?_
   ·clear ao;refine W.bc<|W.a7 [1,2,6,22,23,346] ?_;refine W.bJ h q (λQ9 h=>?_) (λQ9 h=>?_)
    ·refine W.bS<|ag.bb ?_;refine W.bc ?_;obtain ⟨zq,ab,h⟩:=aB h;refine W.bH [(1,.obj (dT.cells a0)),(2,.obj [.aO,.aO,.aO,ah aQ,ah aQ]),(6,.obj [al bl zq.1,al a1 iG,al bD aZ.aq.aW,ah aZ.aq.bw,ah aZ.aq.bz,al b0 aZ.bT,al a1 aZ.bN,al cp aZ.bA,j aZ.b',j aZ.cb,ah aZ.ca,j aZ.bO,j aZ.bx]),(22,j zq.2),(23,j iq.2.2)] ?_ ?_
     ·clear h; have h:=ab; clear ab;refine W.bo ?_;obtain ⟨Hf,KG,h⟩:=aB h;refine W.bV [1,2,6,22,23,356] (ai (O.aA (.obj q))<|ai (O.eJ (.ptr q))<|ai (O.bm q (.ptr q) wB q)<|ai (O.dz (y:=.bq b0.z ⟨6,[5]⟩ aZ.bT.length) q (.ptr q) ye q q)<|bu q<|ai (O.iC (en:=b0) q (.bq q) (.lit q) sj KG q)<|ai (O.kj (en:=b0) (x':=bk Hf) q (.ptr q) pT KG q q)<|au.a_) ?_;obtain ⟨zn,ab,h⟩:=aB h;refine W.bH [(1,.obj (dT.cells a0)),(2,.obj [.aO,.aO,.aO,ah aQ,ah aQ]),(6,.obj [al bl zn.1,al a1 iG,al bD aZ.aq.aW,ah aZ.aq.bw,ah aZ.aq.bz,al b0 aZ.bT,al a1 aZ.bN,al cp aZ.bA,j aZ.b',j aZ.cb,ah aZ.ca,j aZ.bO,j aZ.bx]),(22,j zn.2),(23,j iq.2.2)] ?_ ?_
      ·clear h; have h:=ab; clear ab;refine W.bJ h q (λQR h=>?_) (λQR h=>?_)
       ·obtain ⟨k3,FH,h⟩:=aB h;refine W.bV [1,2,6,22,23] (ai (O.aA (.obj q))<|ai (O.eJ (.ptr q))<|ai (O.bm q (.ptr q) j2 q)<|ai (O.bm q (.ptr q) pd q)<|ai (O.dz (y:=.bq bl.z ⟨6,[0]⟩ iq.1.length) q (.ptr q) qL q q)<|bu q<|bu q<|ai (O.iC (en:=bl) q (.bq q) (.lit q) qo FH q)<|ai (O.mu (en:=bl) q (.ptr q) yy FH q q)<|au.h4 (G2:=[(1,.obj (dT.cells a0)),(2,.obj [.aO,.aO,.aO,ah aQ,ah aQ]),(6,.obj [al bl (iq.1.set iq.2.2.toNat (⟨k3.Name,k3.Lit,iq.2.1,k3.Level,k3.eN,k3.Tag⟩:bC)),al a1 iG,al bD aZ.aq.aW,ah aZ.aq.bw,ah aZ.aq.bz,al b0 aZ.bT,al a1 aZ.bN,al cp aZ.bA,j aZ.b',j aZ.cb,ah aZ.ca,j aZ.bO,j aZ.bx]),(22,j iq.2.1),(23,j iq.2.2)]) q (cq.qp (en:=bl) (y2:=(⟨k3.Name,k3.Lit,iq.2.1,k3.Level,k3.eN,k3.Tag⟩:bC)) (cs':=[j iq.2.1]) (x2:=.obj [al bl (iq.1.set iq.2.2.toNat (⟨k3.Name,k3.Lit,iq.2.1,k3.Level,k3.eN,k3.Tag⟩:bC)),al a1 iG,al bD aZ.aq.aW,ah aZ.aq.bw,ah aZ.aq.bz,al b0 aZ.bT,al a1 aZ.bN,al cp aZ.bA,j aZ.b',j aZ.cb,ah aZ.ca,j aZ.bO,j aZ.bx]) q q (.ptr q) (.lit q) q FH mV q q q q q q q (.n q q (.n q q (.b q (.n q q (.n q q .nil))))))<|bZ q) ?_;refine W.br [1,2,6,22,23] (bu q<|ai (O.add (.lit q) (.k q))<|au.br [1,2,6,23,367] q<|au.a_) ?_;obtain rfl:=ax h;exact ag.bH (fe q q q q q)
       ·refine W.bS ?_;obtain rfl:=ax h;exact ag.bH (fe q q q q q)
      refine ag.bo ?_;obtain rfl:=ax h;exact ag.bH (fe q q q q q)
     refine ag.bb<|W.br [1,2,6,22,23] (bu q<|ai (O.add (.lit q) (.k q))<|au.br [1,2,6,22,348] q<|au.a_) ?_;obtain rfl:=ax h;exact ag.go (fe q q q q q)
    ·refine W.dj ?_;refine ag.di ?_;obtain rfl:=ax h;exact ag.aH (dH q q q)
   refine ag.dk ?_;refine ag.bb ?_;obtain ⟨qI,ab,h⟩:=aB h;refine W.rs [(1,.obj (dT.cells a0)),(2,.obj [.aO,.aO,.aO,ah aQ,ah aQ]),(6,.obj [al bl j9,al a1 iG,al bD aZ.aq.aW,ah aZ.aq.bw,ah aZ.aq.bz,al b0 aZ.bT,al a1 aZ.bN,al cp aZ.bA,j aZ.b',j aZ.cb,ah aZ.ca,j aZ.bO,j aZ.bx]),(24,bk qI)] ?_ ?_
   ·refine ai (O.aA (.obj q))<|ai (O.eJ (.ptr q))<|ai (O.bm q (.ptr q) j2 q)<|ai (O.bm q (.ptr q) pd q)<|ai (O.dz (y:=.bq bl.z ⟨6,[0]⟩ j9.length) q (.ptr q) qL q q)<|ai (O.py (.bq q) qo)<|ai (O.gtr (.lit q) (.k q))<|ai (O.aA (.lit q)) ?_;rcases cM ab with ⟨rR,ab⟩ | ⟨rR,ab⟩
    ·obtain rfl:=ax ab;exact au.a_
    ·refine a' rR (O.aA (.obj q))<|a' rR (O.eJ (.ptr q))<|a' rR (O.bm q (.ptr q) j2 q)<|a' rR (O.bm q (.ptr q) rL q)<|a' rR (O.dz (y:=.bq a1.z ⟨6,[1]⟩ iG.length) q (.ptr q) rG q q)<|a' rR (O.py (.bq q) q_)<|a' rR (O.gtr (.lit q) (.k q))<|ai (O.cB (.lit q) rR (.lit q))<|ai (O.aA (.lit q)) ?_;rcases cM ab with ⟨JS,ab⟩ | ⟨JS,ab⟩
     ·obtain rfl:=ax ab;exact au.a_
     ·obtain rfl:=ax ab;exact a' JS (O.aA (.obj q))<|au.a_
   refine W.bc<|W.a7 [1,2,6,24,25] ?_;refine W.bo ?_;obtain ⟨xI,ao,h⟩:=aB h;refine W.cj (G1:=[(1,_),(2,_),(6,_),(24,_),(25,_)]) (fe q q q q q) ?_;refine W.e4 (s:=(qI,0)) (λ(q7:Bool × Int)=>[(1,.obj (dT.cells a0)),(2,.obj [.aO,.aO,.aO,ah aQ,ah aQ]),(6,.obj [al bl j9,al a1 iG,al bD aZ.aq.aW,ah aZ.aq.bw,ah aZ.aq.bz,al b0 aZ.bT,al a1 aZ.bN,al cp aZ.bA,j aZ.b',j aZ.cb,ah aZ.ca,j aZ.bO,j aZ.bx]),(24,bk q7.1),(25,j q7.2)]) 20 (λ(xI:Bool)=>[(1,.obj (dT.cells a0)),(2,.obj [.aO,.aO,.aO,ah aQ,ah aQ]),(6,.obj [al bl j9,al a1 iG,al bD aZ.aq.aW,ah aZ.aq.bw,ah aZ.aq.bz,al b0 aZ.bT,al a1 aZ.bN,al cp aZ.bA,j aZ.b',j aZ.cb,ah aZ.ca,j aZ.bO,j aZ.bx]),(24,bk xI)]) ao (λq7 o h=>?_) ?_
   ·clear ao;refine W.bc<|W.a7 [1,2,6,24,25,400] ?_;refine W.bJ h q (λQS h=>?_) (λQS h=>?_)
    ·refine W.bS<|ag.bb ?_;refine W.bc<|W.bo ?_;obtain ⟨DC,ab,h⟩:=aB h;refine W.rx [(1,.obj (dT.cells a0)),(2,.obj [.aO,.aO,.aO,ah aQ,ah aQ]),(6,.obj [al bl j9,al a1 iG,al bD aZ.aq.aW,ah aZ.aq.bw,ah aZ.aq.bz,al b0 aZ.bT,al a1 aZ.bN,al cp aZ.bA,j aZ.b',j aZ.cb,ah aZ.ca,j aZ.bO,j aZ.bx]),(24,bk DC),(25,j q7.2)] ?_ ?_
     ·refine bu q<|ai (O.aA (.lit q)) ?_;rcases cM ab with ⟨jS,ab⟩ | ⟨jS,ab⟩
      ·obtain rfl:=ax ab;exact cN jS<|cN jS<|cN jS<|cN jS<|cN jS<|cN jS<|cN jS<|cN jS<|cN jS<|cN jS<|cN jS<|ai (O.eQ (.lit q) jS (.k q))<|au.br [1,2,6,25,416] q<|au.a_
      ·refine a' jS (O.aA (.obj q))<|a' jS (O.eJ (.ptr q))<|a' jS (O.bm q (.ptr q) j2 q)<|a' jS (O.bm q (.ptr q) lW q)<|a' jS (O.dz (y:=.bq bD.z ⟨6,[2]⟩ aZ.aq.aW.length) q (.ptr q) na q q)<|a' jS (O.aA (.lit q)) ?_;obtain ⟨Hg,FI,ab⟩:=aB ab;obtain rfl:=ax ab;exact a' jS (O.iC (en:=bD) q (.bq q) (.lit q) mT FI q)<|a' jS (O.mu (en:=bD) q (.ptr q) mv FI q q)<|a' jS (O.kj (en:=bD) (x':=aj aG Hg.e7) q (.ptr q) ig FI q q)<|a' jS (O.gN (.aD q) eS)<|a' jS (O.gtr (.lit q) (.k q))<|ai (O.cB (.lit q) jS (.lit q))<|au.br [1,2,6,25,416] q<|au.a_
     refine ag.bo ?_;refine ag.bb<|W.br [1,2,6,24,25] (bu q<|ai (O.add (.lit q) (.k q))<|au.br [1,2,6,24,402] q<|au.a_) ?_;obtain rfl:=ax h;exact ag.go (fe q q q q q)
    ·refine W.dj ?_;refine ag.di ?_;obtain rfl:=ax h;exact ag.aH (dA q q q q)
   refine ag.dk ?_;refine ag.bb<|W.bc ?_;refine W.a7 [1,2,6,417] ?_;refine W.bJ h q (λQT h=>?_) (λQT h=>?_)
   ·refine W.bV [2,3,4,5] (ai (O.fi (cs:=[.aO,.aO,.aO,ah aQ,ah aQ]) GR o2 q q q)<|au.dQ (G2:=[(2,_)]) (cs2:=[.aO,.aO,.aO,ah aQ,ah aQ]) q (.obj q) (.ck q q) q nx q q q q (.b q .nil)<|au.a_) ?_;refine W.fI (G1:=[(2,.obj [aj bl ([]:List bC),aj a1 ([]:List eH),aj bD ([]:List Prod),ah aQ,ah aQ]),(3,_),(4,_),(5,_)]) [2] (.z q q (gp.obj (.z (.z (.z (.f (.f .nil)))))) (.n q q (.n q q (.n q q .nil)))) ?_;refine W.rt ?_;refine ag.c5 ?_;obtain rfl:=ax h;exact cF (.c (ys0:=[aj bl ([]:List bC),aj a1 ([]:List eH),aj bD ([]:List Prod),ah aQ,ah aQ]) q fY q q q (.f q (.f q (.f q (.f q (.f q .nil))))) (.f q q (.f q q (.f q q .nil))))
   ·refine W.bS<|ag.bb ?_;refine W.bc<|W.rd [[],[],[],[2],[],[4],[0,2,3],[0,2,3,6],[0,2,3,6,7],[0,2,3,6,7,8],aT 0 10 [],aT 0 11 [],aT 0 12 [],aT 0 13 []] [(2,_),(6,_)] eY (by kernel_rfl) (aw 0 (O.aA (.obj q))<|aw 1 (O.aA (.obj q))<|aw 2 (O.bm q (.obj q) D_ q)<|aw 3 (O.cA q (.ptr q) eP q)<|aw 4 (O.bm q (.obj q) D' q)<|aw 5 (O.cA q (.ptr q) eP q)<|aw 6 (O.eJ (.ptr q))<|aw 7 (O.bm q (.ptr q) j2 q)<|aw 8 (O.bm q (.ptr q) Ja q)<|b1.fi 9 (G2:=[(1,.obj (dT.cells a0)),(2,.obj [.aO,.aO,.aO,ah aQ,ah aQ]),(6,.obj [al bl j9,al a1 iG,al bD aZ.aq.aW,ah a0.bw,ah aZ.aq.bz,al b0 aZ.bT,al a1 aZ.bN,al cp aZ.bA,j aZ.b',j aZ.cb,ah aZ.ca,j aZ.bO,j aZ.bx])]) (U:=[(5,424,some (ah a0.bz)),(4,423,some (.ptr ⟨1,[]⟩ 3)),(1,420,some (.ptr ⟨6,[]⟩ 0))]) (lS.v (cq.nJ (cq.dQ (G2:=[(1,.obj (dT.cells a0)),(2,.obj [.aO,.aO,.aO,ah aQ,ah aQ]),(6,.obj [al bl j9,al a1 iG,al bD aZ.aq.aW,ah a0.bw,ah aZ.aq.bz,al b0 aZ.bT,al a1 aZ.bN,al cp aZ.bA,j aZ.b',j aZ.cb,ah aZ.ca,j aZ.bO,j aZ.bx])]) (cs2:=[al bl j9,al a1 iG,al bD aZ.aq.aW,ah a0.bw,ah aZ.aq.bz,al b0 aZ.bT,al a1 aZ.bN,al cp aZ.bA,j aZ.b',j aZ.cb,ah aZ.ca,j aZ.bO,j aZ.bx]) q q q (.ptr q) (.lit q) q vz q q q q (.n q q (.n q q (.b q .nil)))))) q q (by kernel_rfl) q q q (.c (.inr (.inl ⟨_,q⟩)) q q q q q (gg.wanted .none) (O.cA q (.ptr q) eP q) (.c (.inr (.inr (.inr (.inl ⟨1,_,_,q,q,jl q,by simp,_,q,jl q⟩)))) q q q q q (gg.wanted .none) (O.bm q (.obj q) D' q) (.c (.inr (.inr (.inr (.inl ⟨6,_,_,q,q,jl q,by simp,_,q,jl q⟩)))) q q q q q (gg.wanted .none) (O.aA (.obj q)) .nil))) (by kernel_rfl)<|aw 10 (O.eJ (.ptr q))<|aw 11 (O.bm q (.ptr q) j2 q)<|aw 12 (O.bm q (.ptr q) Jb q)<|b1.dQ 13 (G2:=[(2,.obj [.aO,.aO,.aO,ah aQ,ah aQ]),(6,.obj [al bl j9,al a1 iG,al bD aZ.aq.aW,ah a0.bw,ah a0.bz,al b0 aZ.bT,al a1 aZ.bN,al cp aZ.bA,j aZ.b',j aZ.cb,ah aZ.ca,j aZ.bO,j aZ.bx])]) (cs2:=[al bl j9,al a1 iG,al bD aZ.aq.aW,ah a0.bw,ah a0.bz,al b0 aZ.bT,al a1 aZ.bN,al cp aZ.bA,j aZ.b',j aZ.cb,ah aZ.ca,j aZ.bO,j aZ.bx]) q (by kernel_rfl) (by kernel_rfl) q q q (.ptr q) (.lit q) q vz q q q q (.n q q (.b q .nil))<|b1.fin q q q (fc q q)) ?_;refine ag.bb<|W.bc ?_;refine W.fI (G1:=[(2,_),(6,.obj [aj bl j9,aj a1 iG,aj bD aZ.aq.aW,ah a0.bw,ah a0.bz,al b0 aZ.bT,al a1 aZ.bN,al cp aZ.bA,j aZ.b',j aZ.cb,ah aZ.ca,j aZ.bO,j aZ.bx])]) [6] (.n q q (.z q q (gp.obj (.z (.z (.z (.f (.f (.f (.f (.f (.f (.f (.f (.f (.f .nil)))))))))))))) .nil)) ?_;refine W.br [2,3,4,5] (ai (O.aA (.obj q))<|ai (O.eJ (.ptr q))<|ai (O.bm q (.ptr q) j2 q)<|ai (O.dP (cs':=[aj bl j9,aj a1 iG,aj bD aZ.aq.aW,ah a0.bw,ah a0.bz]) q (.ptr q) fY q q)<|au.dQ (G2:=[(2,_)]) (cs2:=[aj bl j9,aj a1 iG,aj bD aZ.aq.aW,ah a0.bw,ah a0.bz]) q (.obj q) (.ck q q) q nx q q q q (.b q .nil)<|au.a_) ?_;refine ag.bb<|W.rt ?_;obtain rfl:=ax h;exact cF (.c (ys0:=[aj bl j9,aj a1 iG,aj bD aZ.aq.aW,ah a0.bw,ah a0.bz]) q fY q q q (.f q (.f q (.f q (.f q (.f q .nil))))) (.f q q (.f q q (.f q q .nil))))
theorem OI (a0:Source) (r:bR × Bool) (h:xq a0=some r):cf Try.prog 68 [.agg (dT.cells a0)] [none] (.cr [.agg (cg.cells r.1),bk r.2]):=by
 unfold xq at h;refine cf.go (N:=⟨18,[]⟩) Try.func68 q q q q (W.fin ?_);refine W.st [(0,.agg (dT.cells a0))] ?_;refine W.bV [1,2] (ai (O.box (.ck q q) q)<|ai (O.e8 (cs:=[.aO,.aO,.aO,ah aQ,ah aQ]) o2 q q)<|au.a_) ?_;obtain ⟨aH,fA,h⟩:=aB h;refine W.bV [2,4,5] (ai (O.dP (cs':=[ah a0.bw,aj dJ a0.Decls,aj hj a0.e1,ah a0.bz]) q (.obj q) sF q q)<|d' (cw.go (.b2 (.ck q q) .nil) (OP a0 _ fA) call78 q)<|ai (O.aA (.cr q q))<|ai (O.ex (y:=.agg (cg.cells aH.1)) q q q)<|ai (O.ex (y:=j aH.2.1) q q q)<|ai (O.ex (y:=j aH.2.2.1) q q q)<|ai (O.ex (y:=ah aH.2.2.2) q q q)<|ai (O.e8 (cs:=[.aO,.aO,.aO,ah aQ,ah aQ]) o2 q q)<|au.dQ (G2:=[(2,_),(4,_),(12,_),(13,_),(14,_)]) (cs2:=[aj bl aH.1.aX,aj a1 aH.1.bt,aj bD aH.1.aW,ah aH.1.bw,ah aH.1.bz]) q (.obj q) (.ck q q) q nx q q q q (.n q q (.b q (.n q q (.n q q (.n q q .nil)))))<|au.a_) ?_;refine W.bV [2,3] (ai (O.dP (cs':=[aj bl aH.1.aX,aj a1 aH.1.bt,aj bD aH.1.aW,ah aH.1.bw,ah aH.1.bz]) q (.obj q) fY q q)<|bu q<|ai (O.eql (.lit q) (.k q))<|au.dQ (G2:=[(2,_),(17,_)]) (cs2:=[aj bl aH.1.aX,aj a1 aH.1.bt,aj bD aH.1.aW,ah aH.1.bw,ah aH.1.bz]) q (.obj q) (.ck q q) q nx q q q q (.b q (.n q q .nil))<|au.a_) ?_;refine W.rt ?_;obtain rfl:=ax h;exact cF (.c (ys0:=[aj bl aH.1.aX,aj a1 aH.1.bt,aj bD aH.1.aW,ah aH.1.bw,ah aH.1.bz]) q fY q q q (.f q (.f q (.f q (.f q (.f q .nil))))) (.f q q .nil))
theorem ud (a0:(List Int)) (ar:Int) (r:(List Int)) (h:oW a0 ar=some r):cf Try.prog 67 [aj aG a0,j ar] [none,none] (aj aG r):=by
 unfold oW at h;refine cf.go (N:=⟨47,[]⟩) Try.func67 q q q q (W.fin ?_);refine W.st [(0,aj aG a0),(1,j ar)] ?_;refine W.a7 [0,1] ?_;refine W.a7 [0,1,5] ?_;refine W.bc<|W.bo ?_;obtain ⟨x2,ao,h⟩:=aB h;refine W.cj (G1:=[(0,_),(1,_),(5,_)]) (dH q q q) ?_;refine W.e4 (s:=(a0.length:Int)) (λ(s1:Int)=>[(0,aj aG a0),(1,j ar),(5,j s1)]) 0 (λ(x2:Int)=>[(0,aj aG a0),(1,j ar),(5,j x2)]) ao (λs1 o h=>?_) ?_
 ·clear ao;refine W.bc ?_;obtain ⟨ua,ab,h⟩:=aB h;refine W.rs [(0,aj aG a0),(1,j ar),(5,j s1),(19,bk ua)] ?_ ?_
  ·refine bu q<|ai (O.gtr (.lit q) (.k q))<|ai (O.aA (.lit q)) ?_;rcases cM ab with ⟨db,ab⟩ | ⟨db,ab⟩
   ·refine a' db (O.aA (.aD q))<|a' db (O.aA (.lit q))<|a' db (O.sub (.lit q) (.k q)) ?_;obtain ⟨b5,j6,ab⟩:=aB ab;obtain rfl:=ax ab;exact au.a_
   ·obtain rfl:=ax ab;exact au.a_
  refine W.bJ h q (λcP h=>?_) (λcP h=>?_)
  ·refine W.bS<|ag.bb ?_;refine W.bo<|W.br [0,1,5] (bu q<|ai (O.sub (.lit q) (.k q))<|au.br [0,1,21] q<|au.a_) ?_;refine ag.bo ?_;obtain rfl:=ax h;exact ag.go (dH q q q)
  ·refine W.dj ?_;refine ag.di ?_;obtain rfl:=ax h;exact ag.aH (dH q q q)
 refine ag.dk ?_;refine ag.bb<|W.bc ?_;obtain ⟨ja,ab,h⟩:=aB h;refine W.rs [(0,aj aG a0),(1,j ar),(5,j x2),(32,bk ja)] ?_ ?_
 ·refine bu q<|ai (O.gtr (.lit q) (.k q))<|ai (O.aA (.lit q)) ?_;rcases cM ab with ⟨cS,ab⟩ | ⟨cS,ab⟩
  ·refine a' cS (O.aA (.aD q))<|a' cS (O.aA (.lit q))<|a' cS (O.sub (.lit q) (.k q)) ?_;obtain ⟨cu,jV,ab⟩:=aB ab;obtain rfl:=ax ab;exact au.a_
  ·obtain rfl:=ax ab;exact au.a_
 refine W.bJ h q (λft h=>?_) (λft h=>?_)
 ·refine W.a7 [4] ?_;refine W.rt ?_;refine ag.c5 ?_;obtain rfl:=ax h;exact cF (.f q q .nil)
 ·refine W.bS<|ag.bb ?_;obtain ⟨cL,kh,h⟩:=aB h;obtain ⟨dG,jy,h⟩:=aB h;refine W.bV [0,1,5,6] (ai (O.dI (ys:=[]) aG ([]:List Int) eS q q q q q q mj q q)<|ai (O.aA (.aD q))<|bu q<|ai (O.GV (.aD q) (.lit q) eS kh)<|ai (O.ap (en:=aG) (r:=dG) (.own q) q (.aD q) .i pa q jy)<|au.gz (G2:=[(0,aj aG a0),(1,j ar),(5,j x2)]) q (cq.od q q (.b3 q) q q q (.n q q (.n q q (.n q q .nil))) q q)<|bZ q) ?_;refine W.bc ?_;obtain ⟨dS,kG,h⟩:=aB h;obtain ⟨eg,kH,h⟩:=aB h;obtain ⟨cm,k_,h⟩:=aB h;refine W.rd [[],[],[1],[0,1,2],[],[],[4,5],aT 0 7 [],aT 0 8 []] [(4,_)] eY (by kernel_rfl) (aw 0 (O.aA (.own q))<|aw 1 (O.aA (.lit q))<|b1.gP 2 (x:=aj aG [ar]) (O.dI (ys:=[j ar]) aG [ar] eS q q q q q q mj q q) q q q q .none<|aw 3 (O.ap (en:=aG) (r:=dS) (.bq q) q (.aD q) .i pa q kG)<|aw 4 (O.aA (.aD q))<|aw 5 (O.aA (.lit q))<|aw 6 (O.GW (.aD q) (.lit q) eS kH)<|aw 7 (O.HR (en:=aG) (r:=cm) (.b3 q) q q (.aD q) .i pa q k_)<|b1.bv 8 (G2:=[]) (cq.HK q q (.b3 q) q q q q q q .nil q q) q q q q (by kernel_rfl) (by kernel_rfl)<|b1.fin q q q (.n q .nil)) ?_;refine ag.bb<|W.fI (G1:=[(4,aj aG ((([]:List Int)++cL)++[ar]++eg))]) [4] (.z q q .iH .nil) ?_;refine W.rt ?_;obtain rfl:=ax h;exact cF (.f q q .nil)
theorem IE (a0:(List Int)) (ar:Int) (r:Bool) (h:xr a0 ar=some r):cf Try.prog 70 [aj aG a0,j ar] [none,none] (bk r):=by
 unfold xr at h;refine cf.go (N:=⟨18,[]⟩) Try.func70 q q q q (W.fin ?_);refine W.st [(0,aj aG a0),(1,j ar)] ?_;refine W.a7 [0,1] ?_;refine W.bc<|W.a7 [0,1,5] ?_;refine W.bo ?_;obtain ⟨x2,ao,h⟩:=aB h;refine W.cj (G1:=[(0,_),(1,_),(5,_)]) (dH q q q) ?_;refine W.jz (s:=0) (λ(s1:Int)=>[(0,aj aG a0),(1,j ar),(5,j s1)]) 0 (λ(a6:Unit)=>[]) (λ(bX:Bool)=>[(4,bk bX)]) ao (λs1 o h=>?_) (λa6 J=>?_) (λbX J=>?_)
 ·clear ao;refine W.bc<|W.a7 [0,1,5,9] ?_;refine W.bJ h q (λdN h=>?_) (λdN h=>?_)
  ·refine W.bS<|ag.bb ?_;refine W.bc<|W.bo ?_;obtain ⟨bF,fM,h⟩:=aB h;refine W.a7 [0,1,5,17] ?_;refine W.bJ h q (λcP h=>?_) (λcP h=>?_)
   ·refine W.a7 [4] ?_;refine W.rt ?_;refine ag.dY ?_;refine ag.c5 ?_;obtain rfl:=ax h;exact ag.fX (.n q .nil)
   ·refine W.bS<|ag.bo ?_;refine ag.bb<|W.br [0,1,5] (bu q<|ai (O.add (.lit q) (.k q))<|au.br [0,1,11] q<|au.a_) ?_;obtain rfl:=ax h;exact ag.go (dH q q q)
  ·refine W.dj ?_;refine ag.di ?_;obtain rfl:=ax h;exact ag.x2 .nil
 ·subst J;refine ag.dk ?_;refine ag.bb<|W.a7 [4] ?_;refine W.rt ?_;obtain rfl:=ax h;exact cF (.f q q .nil)
 ·subst J;refine ag.dY ?_;refine ag.c5 ?_;obtain rfl:=ax h;exact cF (.f q q .nil)
theorem OQ (a0:bR) (r:(List Int)) (h:Ab a0=some r):cf Try.prog 79 [.agg (cg.cells a0)] [none] (aj aG r):=by
 unfold Ab at h;refine cf.go (N:=⟨30,[]⟩) Try.func79 q q q q (W.fin ?_);refine W.st [(0,.agg (cg.cells a0))] ?_;refine W.bV [1] (ai (O.box (.ck q q) q)<|au.a_) ?_;refine W.a7 [1,3] ?_;refine W.bc<|W.a7 [1,3,4] ?_;refine W.bo ?_;obtain ⟨x2,ao,h⟩:=aB h;refine W.cj (G1:=[(1,_),(3,al aG ([]:List Int)),(4,_)]) (.n q (.w q q .pB (.n q .nil))) ?_;refine W.e4 (s:=(([]:List Int),0)) (λ(s1:List Int × Int)=>[(1,.obj (cg.cells a0)),(3,al aG s1.1),(4,j s1.2)]) 0 (λ(x2:List Int)=>[(1,.obj (cg.cells a0)),(3,al aG x2)]) ao (λs1 o h=>?_) ?_
 ·clear ao;refine W.bc<|W.a7 [1,3,4,10] ?_;refine W.bJ h q (λdb h=>?_) (λdb h=>?_)
  ·refine W.bS<|ag.bb ?_;refine W.bc<|W.bo ?_;obtain ⟨b5,j6,h⟩:=aB h;refine W.br [1,3,4] (ai (O.aA (.own q))<|bu q<|au.gP (x:=aj aG [s1.2]) (O.dI (ys:=[j s1.2]) aG [s1.2] eS q q q q q q mj q q) q q .none<|ai (O.ap (en:=aG) (r:=b5) (.bq q) q (.aD q) .i pa q j6)<|au.gz (G2:=[(1,.obj (cg.cells a0)),(4,j s1.2)]) q (cq.od q q (.b3 q) q q q (.n q q (.n q q .nil)) q q)<|bZ q) ?_;refine ag.bo ?_;refine ag.bb<|W.br [1,3,4] (bu q<|ai (O.add (.lit q) (.k q))<|au.br [1,3,12] q<|au.a_) ?_;obtain rfl:=ax h;exact ag.go (dH q q q)
  ·refine W.dj ?_;refine ag.di ?_;obtain rfl:=ax h;exact ag.aH (fc q q)
 refine ag.dk ?_;refine ag.bb<|W.bc ?_;refine W.a7 [1,3,5] ?_;refine W.bo ?_;obtain ⟨bj,ao,h⟩:=aB h;refine W.cj (G1:=[(1,_),(3,_),(5,_)]) (dH q q q) ?_;refine W.e4 (s:=(x2,0)) (λ(cW:List Int × Int)=>[(1,.obj (cg.cells a0)),(3,al aG cW.1),(5,j cW.2)]) 2 (λ(bj:List Int)=>[(3,al aG bj)]) ao (λcW o h=>?_) ?_
 ·clear ao;refine W.bc<|W.a7 [1,3,5,21] ?_;refine W.bJ h q (λek h=>?_) (λek h=>?_)
  ·refine W.bS<|ag.bb ?_;refine W.bc<|W.bo ?_;obtain ⟨bQ,jJ,h⟩:=aB h;refine W.br [1,3,5] (ai (O.aA (.own q))<|bu q<|ai (O.add (.k q) (.lit q))<|au.gP (x:=aj aG [aM (1000+cW.2)]) (O.dI (ys:=[j (aM (1000+cW.2))]) aG [aM (1000+cW.2)] eS q q q q q q mj q q) q q .none<|ai (O.ap (en:=aG) (r:=bQ) (.bq q) q (.aD q) .i pa q jJ)<|au.gz (G2:=[(1,.obj (cg.cells a0)),(5,j cW.2)]) q (cq.od q q (.b3 q) q q q (.n q q (.n q q .nil)) q q)<|bZ q) ?_;refine ag.bo ?_;refine ag.bb<|W.br [1,3,5] (bu q<|ai (O.add (.lit q) (.k q))<|au.br [1,3,23] q<|au.a_) ?_;obtain rfl:=ax h;exact ag.go (dH q q q)
  ·refine W.dj ?_;refine ag.di ?_;obtain rfl:=ax h;exact ag.aH (.n q .nil)
 refine ag.dk ?_;refine ag.bb<|W.bV [2] (ai (O.aA (.own q))<|au.gz (G2:=[]) q (cq.k6 q q (.bq q) q .nil q q)<|bZ q) ?_;refine W.fI (G1:=[(2,aj aG bj)]) [2] (.z q q .iH .nil) ?_;refine W.rt ?_;obtain rfl:=ax h;exact cF (.f q q .nil)
theorem Is (a0:bR) (ar:Item) (r:Bool) (h:xe a0 ar=some r):cf Try.prog 102 [.agg (cg.cells a0),.agg [j ar.Prod,j ar.dw]] [none,none] (bk r):=by
 unfold xe at h;refine cf.go (N:=⟨34,[]⟩) Try.func102 q q q q (W.fin ?_);refine W.st [(0,.agg (cg.cells a0)),(1,.agg [j ar.Prod,j ar.dw])] ?_;refine W.bV [2,3] (ai (O.box (.ck q q) q)<|ai (O.box (.ck q q) q)<|au.a_) ?_;refine W.bc ?_;obtain ⟨lq,ab,h⟩:=aB h;refine W.rd [[],[0],[0,1],[0,1,2],[0,1,2,3],aT 0 5 [],[0,1,2,3],[0,1,2,3,6],[0,1,2,3,6,7],aT 0 9 [],aT 0 10 [],aT 0 11 [],aT 0 12 [],aT 0 13 [],aT 0 14 [],aT 0 15 [],aT 0 16 [],aT 0 17 [],aT 0 18 [],aT 0 17 [],aT 0 17 [19],aT 0 17 [],aT 0 17 [21],aT 0 17 [19,20,21,22],aT 0 17 (aT 19 5 []),aT 0 17 (aT 19 6 []),aT 0 17 (aT 19 7 []),aT 0 27 [],aT 0 28 [],aT 0 29 []] [(4,bk lq)] eY (by kernel_rfl) ?_ ?_
 ·refine aw 0 (O.bm q (.obj q) mI q)<|aw 1 (O.cA q (.ptr q) cH q)<|aw 2 (O.geq (.lit q) (.k q))<|aw 3 (O.aA (.lit q)) ?_;rcases cM ab with ⟨dh,ab⟩ | ⟨dh,ab⟩
  ·refine bG 4 dh (O.bm q (.obj q) mI q)<|bG 5 dh (O.cA q (.ptr q) cH q)<|bG 6 dh (O.bm q (.obj q) lW q)<|bG 7 dh (O.dz (y:=aj bD a0.aW) q (.ptr q) na q q)<|bG 8 dh (O.gN (.aD q) mT)<|bG 9 dh (O.lss (.lit q) (.lit q))<|aw 10 (O.eQ (.lit q) dh (.lit q))<|aw 11 (O.aA (.lit q)) ?_;rcases cM ab with ⟨cY,ab⟩ | ⟨cY,ab⟩
   ·refine bG 12 cY (O.bm q (.obj q) qO q)<|bG 13 cY (O.cA q (.ptr q) cH q)<|bG 14 cY (O.geq (.lit q) (.k q))<|aw 15 (O.eQ (.lit q) cY (.lit q))<|aw 16 (O.aA (.lit q)) ?_;rcases cM ab with ⟨eX,ab⟩ | ⟨eX,ab⟩
    ·refine bG 17 eX (O.bm q (.obj q) qO q)<|bG 18 eX (O.cA q (.ptr q) cH q)<|bG 19 eX (O.bm q (.obj q) lW q)<|bG 20 eX (O.dz (y:=aj bD a0.aW) q (.ptr q) na q q)<|bG 21 eX (O.bm q (.obj q) mI q)<|bG 22 eX (O.cA q (.ptr q) cH q) ?_;obtain ⟨bX,oM,ab⟩:=aB ab;obtain rfl:=ax ab;exact bG 23 eX (O.cQ (.aD q) (.lit q) mT oM)<|bG 24 eX (O.e2 (.bs q) mv)<|bG 25 eX (O.du (x:=aj aG bX.e7) (.bs q) ig q)<|bG 26 eX (O.gN (.aD q) eS)<|bG 27 eX (O.leq (.lit q) (.lit q))<|aw 28 (O.eQ (.lit q) eX (.lit q))<|aw 29 (O.dq (.lit q))<|b1.fin q q q (.n q .nil)
    ·obtain rfl:=ax ab;exact aI 17 eX<|aI 18 eX<|aI 19 eX<|aI 20 eX<|aI 21 eX<|aI 22 eX<|aI 23 eX<|aI 24 eX<|aI 25 eX<|aI 26 eX<|aI 27 eX<|aw 28 (O.cB (.lit q) eX (.k q))<|aw 29 (O.dq (.lit q))<|b1.fin q q q (.n q .nil)
   ·obtain rfl:=ax ab;exact aI 12 cY<|aI 13 cY<|aI 14 cY<|aw 15 (O.cB (.lit q) cY (.k q))<|aw 16 (O.aA (.lit q))<|aI 17 q<|aI 18 q<|aI 19 q<|aI 20 q<|aI 21 q<|aI 22 q<|aI 23 q<|aI 24 q<|aI 25 q<|aI 26 q<|aI 27 q<|aw 28 (O.cB (.lit q) q (.k q))<|aw 29 (O.dq (.lit q))<|b1.fin q q q (.n q .nil)
  ·obtain rfl:=ax ab;exact aI 4 dh<|aI 5 dh<|aI 6 dh<|aI 7 dh<|aI 8 dh<|aI 9 dh<|aw 10 (O.cB (.lit q) dh (.k q))<|aw 11 (O.aA (.lit q))<|aI 12 q<|aI 13 q<|aI 14 q<|aw 15 (O.cB (.lit q) q (.k q))<|aw 16 (O.aA (.lit q))<|aI 17 q<|aI 18 q<|aI 19 q<|aI 20 q<|aI 21 q<|aI 22 q<|aI 23 q<|aI 24 q<|aI 25 q<|aI 26 q<|aI 27 q<|aw 28 (O.cB (.lit q) q (.k q))<|aw 29 (O.dq (.lit q))<|b1.fin q q q (.n q .nil)
 refine ag.bb<|W.rt ?_;obtain rfl:=ax h;exact cF (.f q q .nil)
theorem DV (a0:bR) (ar:Item) (r:Int) (h:vk a0 ar=some r):cf Try.prog 81 [.agg (cg.cells a0),.agg [j ar.Prod,j ar.dw]] [none,none] (j r):=by
 unfold vk at h;refine cf.go (N:=⟨33,[]⟩) Try.func81 q q q q (W.fin ?_);refine W.st [(0,.agg (cg.cells a0)),(1,.agg [j ar.Prod,j ar.dw])] ?_;refine W.bV [2,3] (ai (O.box (.ck q q) q)<|ai (O.box (.ck q q) q)<|au.a_) ?_;refine W.bc<|W.bc ?_;obtain ⟨c4,ab,h⟩:=aB h;refine W.rd [[],[],[0,1],[0,1,2],[0,1,2,3],aT 0 5 [],aT 0 6 [],aT 0 5 [],aT 0 5 [7],aT 0 5 [],aT 0 5 [9],aT 0 5 [7,8,9,10],aT 0 5 (aT 7 5 []),aT 0 5 (aT 7 6 []),aT 0 5 (aT 7 7 []),aT 0 15 [],aT 0 16 []] [(2,.obj (cg.cells a0)),(3,.obj [j ar.Prod,j ar.dw]),(21,bk c4)] eY (by kernel_rfl) ?_ ?_
 ·refine aw 0 (O.dP (cs':=[aj bl a0.aX,aj a1 a0.bt,aj bD a0.aW,ah a0.bw,ah a0.bz]) q (.obj q) fY q q)<|aw 1 (O.dP (cs':=[j ar.Prod,j ar.dw]) q (.obj q) pb q q) ?_;obtain ⟨aH,fA,ab⟩:=aB ab;refine jn 2 (cw.go (.b2 (.ck q q) (.b2 (.ck q q) .nil)) (Is a0 ar _ fA) call102 q)<|aw 3 (O.not (.lit q))<|aw 4 (O.aA (.lit q)) ?_;rcases cM ab with ⟨cY,ab⟩ | ⟨cY,ab⟩
  ·obtain rfl:=ax ab;exact aI 5 cY<|aI 6 cY<|aI 7 cY<|aI 8 cY<|aI 9 cY<|aI 10 cY<|aI 11 cY<|aI 12 cY<|aI 13 cY<|aI 14 cY<|aI 15 cY<|aw 16 (O.eQ (.lit q) cY (.k q))<|b1.fin q q q (dH q q q)
  ·refine bG 5 cY (O.bm q (.obj q) qO q)<|bG 6 cY (O.cA q (.ptr q) cH q)<|bG 7 cY (O.bm q (.obj q) lW q)<|bG 8 cY (O.dz (y:=aj bD a0.aW) q (.ptr q) na q q)<|bG 9 cY (O.bm q (.obj q) mI q)<|bG 10 cY (O.cA q (.ptr q) cH q) ?_;obtain ⟨a6,h_,ab⟩:=aB ab;obtain rfl:=ax ab;exact bG 11 cY (O.cQ (.aD q) (.lit q) mT h_)<|bG 12 cY (O.e2 (.bs q) mv)<|bG 13 cY (O.du (x:=aj aG a6.e7) (.bs q) ig q)<|bG 14 cY (O.gN (.aD q) eS)<|bG 15 cY (O.eql (.lit q) (.lit q))<|aw 16 (O.cB (.lit q) cY (.lit q))<|b1.fin q q q (dH q q q)
 refine ag.bb<|W.bJ h q (λdN h=>?_) (λdN h=>?_)
 ·refine W.a7 [4] ?_;refine W.rt ?_;refine ag.c5 ?_;obtain rfl:=ax h;exact cF (.f q q .nil)
 ·refine W.bS<|ag.bb ?_;refine W.bc ?_;obtain ⟨bF,fM,h⟩:=aB h;obtain ⟨bj,f_,h⟩:=aB h;refine W.rd [[],[0],[],[2],[0,1,2,3],aT 0 5 [],aT 0 6 [],[],[7],aT 0 9 [],aT 0 10 [],aT 0 11 []] [(4,_)] eY (by kernel_rfl) (aw 0 (O.bm q (.obj q) lW q)<|aw 1 (O.dz (y:=aj bD a0.aW) q (.ptr q) na q q)<|aw 2 (O.bm q (.obj q) mI q)<|aw 3 (O.cA q (.ptr q) cH q)<|aw 4 (O.cQ (.aD q) (.lit q) mT fM)<|aw 5 (O.e2 (.bs q) mv)<|aw 6 (O.du (x:=aj aG bF.e7) (.bs q) ig q)<|aw 7 (O.bm q (.obj q) qO q)<|aw 8 (O.cA q (.ptr q) cH q)<|aw 9 (O.cQ (.aD q) (.lit q) eS f_)<|aw 10 (O.du (x:=j bj) (.bs q) cH q)<|aw 11 (O.dq (.lit q))<|b1.fin q q q (.n q .nil)) ?_;refine ag.bb<|W.rt ?_;obtain rfl:=ax h;exact cF (.f q q .nil)
theorem DO (a0:(List Item)) (ar:Item) (r:(List Item)) (h:u7 a0 ar=some r):cf Try.prog 101 [aj c8 a0,.agg [j ar.Prod,j ar.dw]] [none,none] (aj c8 r):=by
 unfold u7 at h;refine cf.go (N:=⟨71,[]⟩) Try.func101 q q q q (W.fin ?_);refine W.st [(0,aj c8 a0),(1,.agg [j ar.Prod,j ar.dw])] ?_;refine W.bV [0,3] (ai (O.box (.ck q q) q)<|au.a_) ?_;refine W.a7 [0,3,5] ?_;refine W.bc<|W.bo ?_;obtain ⟨x2,ao,h⟩:=aB h;refine W.cj (G1:=[(0,_),(3,_),(5,_)]) (dH q q q) ?_;refine W.e4 (s:=(a0.length:Int)) (λ(s1:Int)=>[(0,aj c8 a0),(3,.obj [j ar.Prod,j ar.dw]),(5,j s1)]) 0 (λ(x2:Int)=>[(0,aj c8 a0),(3,.obj [j ar.Prod,j ar.dw]),(5,j x2)]) ao (λs1 o h=>?_) ?_
 ·clear ao;refine W.bc<|W.bc ?_;obtain ⟨ja,ab,h⟩:=aB h;refine W.rd [[],[0],[0,1],[0,1,2],[0,1,2],[0,1,2,4],aT 0 6 [],aT 0 7 [],aT 0 8 [],[0,1,2],[0,1,2,9],aT 0 11 [],aT 0 12 [],aT 0 13 [],aT 0 13 [],aT 0 13 [14],aT 0 16 [],aT 0 17 [],aT 0 18 [],aT 0 13 [],aT 0 13 [19],aT 0 21 [],aT 0 22 [],aT 0 23 [],aT 0 23 [],aT 0 23 [24],aT 0 26 [],aT 0 27 [],aT 0 28 [],aT 0 23 [],aT 0 23 [29],aT 0 31 [],aT 0 32 [],aT 0 33 [],aT 0 34 []] [(0,aj c8 a0),(3,.obj [j ar.Prod,j ar.dw]),(5,j s1),(43,bk ja)] eY (by kernel_rfl) ?_ ?_
  ·refine aw 0 (O.aA (.lit q))<|aw 1 (O.gtr (.lit q) (.k q))<|aw 2 (O.aA (.lit q)) ?_;rcases cM ab with ⟨db,ab⟩ | ⟨db,ab⟩
   ·refine bG 3 db (O.aA (.aD q))<|bG 4 db (O.aA (.lit q))<|bG 5 db (O.sub (.lit q) (.k q)) ?_;obtain ⟨b5,j6,ab⟩:=aB ab;refine bG 6 db (O.cQ (.aD q) (.lit q) jW j6)<|bG 7 db (O.e2 (.bs q) mI)<|bG 8 db (O.du (x:=j b5.Prod) (.bs q) cH q)<|bG 9 db (O.bm q (.obj q) mI q)<|bG 10 db (O.cA q (.ptr q) cH q)<|bG 11 db (O.gtr (.lit q) (.lit q))<|bG 12 db (O.aA (.lit q)) ?_;rcases cM ab with ⟨dB,ab⟩ | ⟨dB,ab⟩
    ·obtain rfl:=ax ab;exact aI 13 dB<|aI 14 dB<|aI 15 dB<|aI 16 dB<|aI 17 dB<|aI 18 dB<|aI 19 dB<|aI 20 dB<|aI 21 dB<|aI 22 dB<|fl 23<|fl 24<|fl 25<|fl 26<|fl 27<|fl 28<|fl 29<|fl 30<|fl 31<|aI 32 dB<|bG 33 db (O.eQ (.lit q) dB (.k q))<|aw 34 (O.eQ (.lit q) db (.lit q))<|b1.fin q q q (dA q q q q)
    ·refine bG 13 dB (O.aA (.aD q))<|bG 14 dB (O.aA (.lit q))<|bG 15 dB (O.sub (.lit q) (.k q)) ?_;obtain ⟨bj,f_,ab⟩:=aB ab;refine bG 16 dB (O.cQ (.aD q) (.lit q) jW f_)<|bG 17 dB (O.e2 (.bs q) mI)<|bG 18 dB (O.du (x:=j bj.Prod) (.bs q) cH q)<|bG 19 dB (O.bm q (.obj q) mI q)<|bG 20 dB (O.cA q (.ptr q) cH q)<|bG 21 dB (O.eql (.lit q) (.lit q))<|bG 22 dB (O.aA (.lit q)) ?_;rcases cM ab with ⟨cS,ab⟩ | ⟨cS,ab⟩
     ·refine bG 23 cS (O.aA (.aD q))<|bG 24 cS (O.aA (.lit q))<|bG 25 cS (O.sub (.lit q) (.k q)) ?_;obtain ⟨cu,jV,ab⟩:=aB ab;obtain rfl:=ax ab;exact bG 26 cS (O.cQ (.aD q) (.lit q) jW jV)<|bG 27 cS (O.e2 (.bs q) qO)<|bG 28 cS (O.du (x:=j cu.dw) (.bs q) cH q)<|bG 29 cS (O.bm q (.obj q) qO q)<|bG 30 cS (O.cA q (.ptr q) cH q)<|bG 31 cS (O.gtr (.lit q) (.lit q))<|bG 32 dB (O.eQ (.lit q) cS (.lit q))<|bG 33 db (O.cB (.lit q) dB (.lit q))<|aw 34 (O.eQ (.lit q) db (.lit q))<|b1.fin q q q (dA q q q q)
     ·obtain rfl:=ax ab;exact aI 23 cS<|aI 24 cS<|aI 25 cS<|aI 26 cS<|aI 27 cS<|aI 28 cS<|aI 29 cS<|aI 30 cS<|aI 31 cS<|bG 32 dB (O.cB (.lit q) cS (.k q))<|bG 33 db (O.cB (.lit q) dB (.lit q))<|aw 34 (O.eQ (.lit q) db (.lit q))<|b1.fin q q q (dA q q q q)
   ·obtain rfl:=ax ab;exact aI 3 db<|aI 4 db<|aI 5 db<|aI 6 db<|aI 7 db<|aI 8 db<|aI 9 db<|aI 10 db<|aI 11 db<|aI 12 db<|fl 13<|fl 14<|fl 15<|fl 16<|fl 17<|fl 18<|fl 19<|fl 20<|fl 21<|fl 22<|fl 23<|fl 24<|fl 25<|fl 26<|fl 27<|fl 28<|fl 29<|fl 30<|fl 31<|fl 32<|aI 33 db<|aw 34 (O.cB (.lit q) db (.k q))<|b1.fin q q q (dA q q q q)
  refine ag.bb<|W.bJ h q (λft h=>?_) (λft h=>?_)
  ·refine W.bS<|ag.bb ?_;refine W.bo<|W.br [0,3,5] (bu q<|ai (O.sub (.lit q) (.k q))<|au.br [0,3,45] q<|au.a_) ?_;refine ag.bo ?_;obtain rfl:=ax h;exact ag.go (dH q q q)
  ·refine W.dj ?_;refine ag.di ?_;obtain rfl:=ax h;exact ag.aH (dH q q q)
 refine ag.dk ?_;refine ag.bb<|W.bc ?_;refine W.bc ?_;obtain ⟨ya,ab,h⟩:=aB h;refine W.rd [[],[0],[0,1],[0,1,2],[0,1,2],[0,1,2,4],aT 0 6 [],aT 0 7 [],[0,1,2],aT 0 9 [],aT 0 10 []] [(0,aj c8 a0),(3,.obj [j ar.Prod,j ar.dw]),(5,j x2),(56,bk ya)] eY (by kernel_rfl) ?_ ?_
 ·refine aw 0 (O.aA (.lit q))<|aw 1 (O.gtr (.lit q) (.k q))<|aw 2 (O.aA (.lit q)) ?_;rcases cM ab with ⟨et,ab⟩ | ⟨et,ab⟩
  ·refine bG 3 et (O.aA (.aD q))<|bG 4 et (O.aA (.lit q))<|bG 5 et (O.sub (.lit q) (.k q)) ?_;obtain ⟨dG,jy,ab⟩:=aB ab;obtain rfl:=ax ab;exact bG 6 et (O.cQ (.aD q) (.lit q) jW jy)<|bG 7 et (O.iW (cs':=[j dG.Prod,j dG.dw]) (.bs q) pb q q)<|bG 8 et (O.dP (cs':=[j ar.Prod,j ar.dw]) q (.obj q) pb q q)<|bG 9 et (O.PF (va:=[.int .i64 dG.Prod,.int .i64 dG.dw]) (vb:=[.int .i64 ar.Prod,.int .i64 ar.dw]) (.ck q q) (.ck q q) q q IZ)<|aw 10 (O.eQ (.lit q) et (.lit q))<|b1.fin q q q (dA q q q q)
  ·obtain rfl:=ax ab;exact aI 3 et<|aI 4 et<|aI 5 et<|aI 6 et<|aI 7 et<|aI 8 et<|aI 9 et<|aw 10 (O.cB (.lit q) et (.k q))<|b1.fin q q q (dA q q q q)
 refine ag.bb<|W.bJ h q (λp1 h=>?_) (λp1 h=>?_)
 ·refine W.a7 [4] ?_;refine W.rt ?_;refine ag.c5 ?_;obtain rfl:=ax h;exact cF (.f q q .nil)
 ·refine W.bS<|ag.bb ?_;obtain ⟨cm,k_,h⟩:=aB h;obtain ⟨b7,ji,h⟩:=aB h;refine W.bV [0,3,5,6] (ai (O.dI (ys:=[]) c8 ([]:List Item) jW q q q q q q Hq q q)<|ai (O.aA (.aD q))<|bu q<|ai (O.GV (.aD q) (.lit q) jW k_)<|ai (O.ap (en:=c8) (r:=b7) (.own q) q (.aD q) .i Ds q ji)<|au.gz (G2:=[(0,aj c8 a0),(3,.obj [j ar.Prod,j ar.dw]),(5,j x2)]) q (cq.od q q (.b3 q) q q q (.n q q (.n q q (.n q q .nil))) q q)<|bZ q) ?_;refine W.bc ?_;obtain ⟨ff,ki,h⟩:=aB h;obtain ⟨gL,th,h⟩:=aB h;obtain ⟨eZ,uQ,h⟩:=aB h;refine W.rd [[],[],[1],[0,1,2],[],[],[4,5],aT 0 7 [],aT 0 8 []] [(4,_)] eY (by kernel_rfl) (aw 0 (O.aA (.own q))<|aw 1 (O.dP (cs':=[j ar.Prod,j ar.dw]) q (.obj q) pb q q)<|b1.gP 2 (x:=aj c8 [ar]) (O.dI (ys:=[.agg [j ar.Prod,j ar.dw]]) c8 [ar] jW q q q q q q Hq q q) q q q q .none<|aw 3 (O.ap (en:=c8) (r:=ff) (.bq q) q (.aD q) .i Ds q ki)<|aw 4 (O.aA (.aD q))<|aw 5 (O.aA (.lit q))<|aw 6 (O.GW (.aD q) (.lit q) jW th)<|aw 7 (O.HR (en:=c8) (r:=eZ) (.b3 q) q q (.aD q) .i Ds q uQ)<|b1.bv 8 (G2:=[]) (cq.HK q q (.b3 q) q q q q q q .nil q q) q q q q (by kernel_rfl) (by kernel_rfl)<|b1.fin q q q (.n q .nil)) ?_;refine ag.bb<|W.fI (G1:=[(4,aj c8 ((([]:List Item)++cm)++[ar]++gL))]) [4] (.z q q .iH .nil) ?_;refine W.rt ?_;obtain rfl:=ax h;exact cF (.f q q .nil)
theorem Oe (a0:bR) (ar:(List Item)) (r:(List Item)) (h:zO a0 ar=some r):cf Try.prog 100 [.agg (cg.cells a0),aj c8 ar] [none,none] (aj c8 r):=by
 unfold zO at h;refine cf.go (N:=⟨26,[]⟩) Try.func100 q q q q (W.fin ?_);refine W.st [(0,.agg (cg.cells a0)),(1,aj c8 ar)] ?_;refine W.bV [1,2] (ai (O.box (.ck q q) q)<|au.a_) ?_;refine W.a7 [1,2,5] ?_;refine W.bc<|W.a7 [1,2,5,6] ?_;refine W.bo ?_;obtain ⟨x2,ao,h⟩:=aB h;refine W.cj (G1:=[(1,_),(2,_),(5,aj c8 ([]:List Item)),(6,_)]) (.n q (.n q (.w q q .w9 (.n q .nil)))) ?_;refine W.e4 (s:=(([]:List Item),0)) (λ(s1:List Item × Int)=>[(1,aj c8 ar),(2,.obj (cg.cells a0)),(5,aj c8 s1.1),(6,j s1.2)]) 0 (λ(x2:List Item)=>[(5,aj c8 x2)]) ao (λs1 o h=>?_) ?_
 ·clear ao;refine W.bc<|W.a7 [1,2,5,6,10] ?_;refine W.bJ h q (λdb h=>?_) (λdb h=>?_)
  ·refine W.bS<|ag.bb ?_;refine W.bc ?_;obtain ⟨la,ab,h⟩:=aB h;refine W.bH [(1,aj c8 ar),(2,.obj (cg.cells a0)),(5,aj c8 la),(6,j s1.2)] ?_ ?_
   ·clear h; have h:=ab; clear ab;refine W.bo<|W.bc ?_;obtain ⟨bF,fM,h⟩:=aB h;obtain ⟨bj,f_,h⟩:=aB h;refine W.rd [[],[],[],[1,2],[1,2,3],aT 0 5 []] [(1,_),(2,_),(5,_),(6,_),(18,_)] eY (by kernel_rfl) (aw 0 (O.dP (cs':=[aj bl a0.aX,aj a1 a0.bt,aj bD a0.aW,ah a0.bw,ah a0.bz]) q (.obj q) fY q q)<|aw 1 (O.aA (.aD q))<|aw 2 (O.aA (.lit q))<|aw 3 (O.cQ (.aD q) (.lit q) jW fM)<|aw 4 (O.iW (cs':=[j bF.Prod,j bF.dw]) (.bs q) pb q q)<|jn 5 (cw.go (.b2 (.ck q q) (.b2 (.ck q q) .nil)) (Is a0 bF _ f_) call102 q)<|b1.fin q q q (fe q q q q q)) ?_;refine ag.bb ?_;obtain ⟨jk,ab,h⟩:=aB h;refine W.bH [(1,aj c8 ar),(2,.obj (cg.cells a0)),(5,aj c8 jk),(6,j s1.2)] ?_ ?_
    ·clear h; have h:=ab; clear ab;refine W.bJ h q (λek h=>?_) (λek h=>?_)
     ·obtain ⟨bQ,jJ,h⟩:=aB h;obtain ⟨cy,h9,h⟩:=aB h;refine W.br [1,2,5,6] (ai (O.aA (.aD q))<|ai (O.aA (.aD q))<|bu q<|ai (O.cQ (.aD q) (.lit q) jW jJ)<|ai (O.iW (cs':=[j bQ.Prod,j bQ.dw]) (.bs q) pb q q)<|d' (cw.go (.b2 (.aD q) (.b2 (.ck q q) .nil)) (DO s1.1 bQ _ h9) call101 q)<|au.br [1,2,6,24] q<|au.a_) ?_;obtain rfl:=ax h;exact ag.bH (dA q q q q)
     ·refine W.bS ?_;obtain rfl:=ax h;exact ag.bH (dA q q q q)
    refine ag.bo ?_;obtain rfl:=ax h;exact ag.bH (dA q q q q)
   refine ag.bb<|W.br [1,2,5,6] (bu q<|ai (O.add (.lit q) (.k q))<|au.br [1,2,5,12] q<|au.a_) ?_;obtain rfl:=ax h;exact ag.go (dA q q q q)
  ·refine W.dj ?_;refine ag.di ?_;obtain rfl:=ax h;exact ag.aH (.n q .nil)
 refine ag.dk ?_;refine ag.bb<|W.a7 [4] ?_;refine W.rt ?_;obtain rfl:=ax h;exact cF (.f q q .nil)
theorem DU (a0:bR) (ar:(List Item)) (r:(List Item)) (h:vj a0 ar=some r):cf Try.prog 80 [.agg (cg.cells a0),aj c8 ar] [none,none] (aj c8 r):=by
 unfold vj at h;refine cf.go (N:=⟨59,[]⟩) Try.func80 q q q q (W.fin ?_);refine W.st [(0,.agg (cg.cells a0)),(1,aj c8 ar)] ?_;refine W.bV [1,2] (ai (O.box (.ck q q) q)<|au.a_) ?_;obtain ⟨aH,fA,h⟩:=aB h;refine W.bV [2,5] (ai (O.dP (cs':=[aj bl a0.aX,aj a1 a0.bt,aj bD a0.aW,ah a0.bw,ah a0.bz]) q (.obj q) fY q q)<|ai (O.aA (.aD q))<|d' (cw.go (.b2 (.ck q q) (.b2 (.aD q) .nil)) (Oe a0 ar _ fA) call100 q)<|au.a_) ?_;refine W.bc<|W.a7 [2,5,6] ?_;refine W.bo ?_;obtain ⟨a6,ao,h⟩:=aB h;refine W.cj (G1:=[(2,_),(5,_),(6,_)]) (dH q q q) ?_;refine W.e4 (s:=(aH,(-1))) (λ(s2:List Item × Int)=>[(2,.obj (cg.cells a0)),(5,aj c8 s2.1),(6,j s2.2)]) 0 (λ(a6:List Item)=>[(5,aj c8 a6)]) ao (λs2 o h=>?_) ?_
 ·clear ao;refine W.bc<|W.a7 [2,5,16] ?_;refine W.bJ h q (λdN h=>?_) (λdN h=>?_)
  ·refine W.bS<|ag.bb ?_;obtain ⟨iV,ab,h⟩:=aB h;refine W.bH [(2,.obj (cg.cells a0)),(5,aj c8 iV.1),(6,j iV.2)] ?_ ?_
   ·clear h; have h:=ab; clear ab;refine W.bo<|W.a7 [2,5,6] ?_;refine W.a7 [2,5,6,7] ?_;obtain ⟨np,ab,h⟩:=aB h;refine W.bH [(2,.obj (cg.cells a0)),(5,aj c8 np),(6,j (s2.1.length:Int))] ?_ ?_
    ·clear h; have h:=ab; clear ab;refine W.bo ?_;obtain ⟨cu,ao,h⟩:=aB h;refine W.cj (G1:=[(2,_),(5,_),(6,_),(7,_)]) (dA q q q q) ?_;refine W.e4 (s:=(s2.1,0)) (λ(cJ:List Item × Int)=>[(2,.obj (cg.cells a0)),(5,aj c8 cJ.1),(6,j (s2.1.length:Int)),(7,j cJ.2)]) 2 (λ(cu:List Item)=>[(2,.obj (cg.cells a0)),(5,aj c8 cu),(6,j (s2.1.length:Int))]) ao (λcJ o h=>?_) ?_
     ·clear ao;refine W.bc<|W.a7 [2,5,6,7,21] ?_;refine W.bJ h q (λft h=>?_) (λft h=>?_)
      ·refine W.bS<|ag.bb ?_;refine W.bc<|W.bo ?_;refine W.bc ?_;obtain ⟨cL,kh,h⟩:=aB h;obtain ⟨dG,jy,h⟩:=aB h;refine W.rd [[],[],[],[1,2],[1,2,3],aT 0 5 [],aT 0 6 []] [(2,_),(5,_),(6,_),(7,_),(8,_)] eY (by kernel_rfl) (aw 0 (O.dP (cs':=[aj bl a0.aX,aj a1 a0.bt,aj bD a0.aW,ah a0.bw,ah a0.bz]) q (.obj q) fY q q)<|aw 1 (O.aA (.aD q))<|aw 2 (O.aA (.lit q))<|aw 3 (O.cQ (.aD q) (.lit q) jW kh)<|aw 4 (O.iW (cs':=[j cL.Prod,j cL.dw]) (.bs q) pb q q)<|jn 5 (cw.go (.b2 (.ck q q) (.b2 (.ck q q) .nil)) (DV a0 cL _ jy) call81 q)<|aw 6 (O.dq (.lit q))<|b1.fin q q q (fe q q q q q)) ?_;refine ag.bb<|W.bc ?_;refine W.a7 [2,5,6,7,8,9] ?_;refine W.bo ?_;obtain ⟨eg,ao,h⟩:=aB h;refine W.cj (G1:=[(2,_),(5,_),(6,_),(7,_),(8,_),(9,_)]) (gv q q q q q q) ?_;refine W.e4 (s:=(cJ.1,0)) (λ(hY:List Item × Int)=>[(2,.obj (cg.cells a0)),(5,aj c8 hY.1),(6,j (s2.1.length:Int)),(7,j cJ.2),(8,j dG),(9,j hY.2)]) 4 (λ(eg:List Item)=>[(2,.obj (cg.cells a0)),(5,aj c8 eg),(6,j (s2.1.length:Int)),(7,j cJ.2)]) ao (λhY o h=>?_) ?_
       ·clear ao;refine W.bc ?_;obtain ⟨pQ,ab,h⟩:=aB h;refine W.rs [(2,.obj (cg.cells a0)),(5,aj c8 hY.1),(6,j (s2.1.length:Int)),(7,j cJ.2),(8,j dG),(9,j hY.2),(38,bk pQ)] ?_ ?_
        ·refine bu q<|ai (O.bm q (.obj q) lW q)<|ai (O.dz (y:=aj bD a0.aW) q (.ptr q) na q q)<|ai (O.gN (.aD q) mT)<|ai (O.lss (.lit q) (.lit q))<|ai (O.aA (.lit q)) ?_;rcases cM ab with ⟨nf,ab⟩ | ⟨nf,ab⟩
         ·obtain rfl:=ax ab;exact au.a_
         ·obtain rfl:=ax ab;exact au.a_
        refine W.bJ h q (λhT h=>?_) (λhT h=>?_)
        ·refine W.bS<|ag.bb ?_;refine W.bc ?_;obtain ⟨zo,ab,h⟩:=aB h;refine W.bH [(2,.obj (cg.cells a0)),(5,aj c8 zo),(6,j (s2.1.length:Int)),(7,j cJ.2),(8,j dG),(9,j hY.2)] ?_ ?_
         ·clear h; have h:=ab; clear ab;refine W.bo ?_;obtain ⟨fP,nV,h⟩:=aB h;refine W.a7 [2,5,6,7,8,9,49] ?_;obtain ⟨nn,ab,h⟩:=aB h;refine W.bH [(2,.obj (cg.cells a0)),(5,aj c8 nn),(6,j (s2.1.length:Int)),(7,j cJ.2),(8,j dG),(9,j hY.2)] ?_ ?_
          ·clear h; have h:=ab; clear ab;refine W.bJ h q (λij h=>?_) (λij h=>?_)
           ·obtain ⟨fR,lD,h⟩:=aB h;refine W.br [2,5,6,7,8,9] (ai (O.aA (.aD q))<|bu q<|ai (O.fi (cs:=[j hY.2,j 0]) GP C' q q q)<|d' (cw.go (.b2 (.aD q) (.b2 (.ck q q) .nil)) (DO hY.1 (⟨hY.2,0⟩:Item) _ lD) call101 q)<|au.br [2,6,7,8,9,53] q<|au.a_) ?_;obtain rfl:=ax h;exact ag.bH (gv q q q q q q)
           ·refine W.bS ?_;obtain rfl:=ax h;exact ag.bH (gv q q q q q q)
          refine ag.bo ?_;obtain rfl:=ax h;exact ag.bH (gv q q q q q q)
         refine ag.bb<|W.br [2,5,6,7,8,9] (bu q<|ai (O.add (.lit q) (.k q))<|au.br [2,5,6,7,8,40] q<|au.a_) ?_;obtain rfl:=ax h;exact ag.go (gv q q q q q q)
        ·refine W.dj ?_;refine ag.di ?_;obtain rfl:=ax h;exact ag.aH (dA q q q q)
       refine ag.dk ?_;refine ag.bb<|W.a7 [2,5,6,7,57] ?_;refine W.bJ h q (λiQ h=>?_) (λiQ h=>?_)
       ·refine W.dj ?_;refine ag.NH q ?_;refine ag.di ?_;obtain rfl:=ax h;exact ag.aH (dH q q q)
       ·refine W.bS<|ag.bo ?_;refine ag.bb<|W.br [2,5,6,7] (bu q<|ai (O.add (.lit q) (.k q))<|au.br [2,5,6,23] q<|au.a_) ?_;obtain rfl:=ax h;exact ag.go (dA q q q q)
      ·refine W.dj ?_;refine ag.di ?_;obtain rfl:=ax h;exact ag.aH (dH q q q)
     refine ag.dk ?_;obtain rfl:=ax h;exact ag.bH (dH q q q)
    refine ag.bo ?_;obtain rfl:=ax h;exact ag.bH (dH q q q)
   obtain rfl:=ax h;exact ag.go (dH q q q)
  ·refine W.dj ?_;refine ag.di ?_;obtain rfl:=ax h;exact ag.aH (.n q .nil)
 refine ag.dk ?_;refine ag.bb<|W.a7 [4] ?_;refine W.rt ?_;obtain rfl:=ax h;exact cF (.f q q .nil)
theorem OR (a0:bR) (ar:(List Item)) (a2:Int) (r:(List Item)) (h:Ac a0 ar a2=some r):cf Try.prog 82 [.agg (cg.cells a0),aj c8 ar,j a2] [none,none,none] (aj c8 r):=by
 unfold Ac at h;refine cf.go (N:=⟨48,[]⟩) Try.func82 q q q q (W.fin ?_);refine W.st [(0,.agg (cg.cells a0)),(1,aj c8 ar),(2,j a2)] ?_;refine W.bV [1,2,3] (ai (O.box (.ck q q) q)<|au.a_) ?_;refine W.a7 [1,2,3,7] ?_;obtain ⟨aH,fA,h⟩:=aB h;refine W.bV [2,3,7,8] (ai (O.dP (cs':=[aj bl a0.aX,aj a1 a0.bt,aj bD a0.aW,ah a0.bw,ah a0.bz]) q (.obj q) fY q q)<|ai (O.aA (.aD q))<|d' (cw.go (.b2 (.ck q q) (.b2 (.aD q) .nil)) (DU a0 ar _ fA) call80 q)<|au.a_) ?_;refine W.bc<|W.a7 [2,3,7,8,9] ?_;refine W.bo ?_;obtain ⟨a6,ao,h⟩:=aB h;refine W.cj (G1:=[(2,_),(3,_),(7,aj c8 ([]:List Item)),(8,_),(9,_)]) (.n q (.n q (.w q q .w9 (fc q q)))) ?_;refine W.e4 (s:=(([]:List Item),0)) (λ(s2:List Item × Int)=>[(2,j a2),(3,.obj (cg.cells a0)),(7,aj c8 s2.1),(8,aj c8 aH),(9,j s2.2)]) 0 (λ(a6:List Item)=>[(7,aj c8 a6)]) ao (λs2 o h=>?_) ?_
 ·clear ao;refine W.bc<|W.a7 [2,3,7,8,9,17] ?_;refine W.bJ h q (λdN h=>?_) (λdN h=>?_)
  ·refine W.bS<|ag.bb ?_;refine W.bc ?_;obtain ⟨iV,ab,h⟩:=aB h;refine W.bH [(2,j a2),(3,.obj (cg.cells a0)),(7,aj c8 iV),(8,aj c8 aH),(9,j s2.2)] ?_ ?_
   ·clear h; have h:=ab; clear ab;refine W.bo<|W.bc ?_;obtain ⟨bj,f_,h⟩:=aB h;obtain ⟨b4,iB,h⟩:=aB h;refine W.rd [[],[],[],[1,2],[1,2,3],aT 0 5 [],aT 0 6 []] [(2,_),(3,_),(7,_),(8,_),(9,_),(10,_)] eY (by kernel_rfl) (aw 0 (O.dP (cs':=[aj bl a0.aX,aj a1 a0.bt,aj bD a0.aW,ah a0.bw,ah a0.bz]) q (.obj q) fY q q)<|aw 1 (O.aA (.aD q))<|aw 2 (O.aA (.lit q))<|aw 3 (O.cQ (.aD q) (.lit q) jW f_)<|aw 4 (O.iW (cs':=[j bj.Prod,j bj.dw]) (.bs q) pb q q)<|jn 5 (cw.go (.b2 (.ck q q) (.b2 (.ck q q) .nil)) (DV a0 bj _ iB) call81 q)<|aw 6 (O.dq (.lit q))<|b1.fin q q q (gv q q q q q q)) ?_;refine ag.bb ?_;obtain ⟨ja,ab,h⟩:=aB h;refine W.rs [(2,j a2),(3,.obj (cg.cells a0)),(7,aj c8 s2.1),(8,aj c8 aH),(9,j s2.2),(32,bk ja)] ?_ ?_
    ·refine bu q<|ai (O.geq (.lit q) (.k q))<|ai (O.aA (.lit q)) ?_;rcases cM ab with ⟨ek,ab⟩ | ⟨ek,ab⟩
     ·obtain rfl:=ax ab;exact au.a_
     ·obtain rfl:=ax ab;exact au.a_
    obtain ⟨gG,ab,h⟩:=aB h;refine W.bH [(2,j a2),(3,.obj (cg.cells a0)),(7,aj c8 gG),(8,aj c8 aH),(9,j s2.2)] ?_ ?_
    ·clear h; have h:=ab; clear ab;refine W.bJ h q (λet h=>?_) (λet h=>?_)
     ·refine W.cj (G1:=[(2,_),(3,_),(7,_),(8,_),(9,_)]) (fe q q q q q) ?_;obtain ⟨dG,jy,h⟩:=aB h;obtain ⟨dS,kG,h⟩:=aB h;obtain ⟨eg,kH,h⟩:=aB h;refine W.rd [[],[],[],[1,2],[1,2,3],[1,2,3,4],[],[],[6,7],[6,7,8],[6,7,8,9],aT 6 5 [],aT 1 11 [],aT 0 13 [],aT 0 14 []] [(2,_),(3,_),(7,_),(8,_),(9,_)] eY (by kernel_rfl) (aw 0 (O.aA (.aD q))<|aw 1 (O.aA (.aD q))<|aw 2 (O.aA (.lit q))<|aw 3 (O.cQ (.aD q) (.lit q) jW jy)<|aw 4 (O.e2 (.bs q) mI)<|aw 5 (O.du (x:=j dG.Prod) (.bs q) cH q)<|aw 6 (O.aA (.aD q))<|aw 7 (O.aA (.lit q))<|aw 8 (O.cQ (.aD q) (.lit q) jW kG)<|aw 9 (O.e2 (.bs q) qO)<|aw 10 (O.du (x:=j dS.dw) (.bs q) cH q)<|aw 11 (O.add (.lit q) (.k q))<|aw 12 (O.fi (cs:=[j dG.Prod,j (aM (dS.dw+1))]) GP C' q q q)<|jn 13 (cw.go (.b2 (.aD q) (.b2 (.ck q q) .nil)) (DO s2.1 (⟨dG.Prod,aM (dS.dw+1)⟩:Item) _ kH) call101 q)<|b1.bv 14 (G2:=[(2,j a2),(3,.obj (cg.cells a0)),(8,aj c8 aH),(9,j s2.2)]) (cq.A1 (y':=aj c8 eg) q q (.aD q) (.f .nil) .refl (dA q q q q) q q) q q q q (by kernel_rfl) (by kernel_rfl)<|b1.fin q q q (fe q q q q q)) ?_;obtain rfl:=ax h;exact ag.bH (fe q q q q q)
     ·refine W.bS ?_;obtain rfl:=ax h;exact ag.bH (fe q q q q q)
    refine ag.bo ?_;obtain rfl:=ax h;exact ag.bH (fe q q q q q)
   refine ag.bb<|W.br [2,3,7,8,9] (bu q<|ai (O.add (.lit q) (.k q))<|au.br [2,3,7,8,19] q<|au.a_) ?_;obtain rfl:=ax h;exact ag.go (fe q q q q q)
  ·refine W.dj ?_;refine ag.di ?_;obtain rfl:=ax h;exact ag.aH (.n q .nil)
 refine ag.dk ?_;refine ag.bb<|W.a7 [6] ?_;refine W.rt ?_;obtain rfl:=ax h;exact cF (.f q q .nil)
theorem Og (a0:(List Item)) (ar:(List Item)) (r:Bool) (h:zP a0 ar=some r):cf Try.prog 103 [aj c8 a0,aj c8 ar] [none,none] (bk r):=by
 unfold zP at h;refine cf.go (N:=⟨26,[]⟩) Try.func103 q q q q (W.fin ?_);refine W.st [(0,aj c8 a0),(1,aj c8 ar)] ?_;refine W.a7 [0,1] ?_;refine W.bc<|W.a7 [0,1,10] ?_;refine W.bJ h q (λdh h=>?_) (λdh h=>?_)
 ·refine W.a7 [4] ?_;refine W.rt ?_;refine ag.c5 ?_;obtain rfl:=ax h;exact cF (.f q q .nil)
 ·refine W.bS<|ag.bb ?_;refine W.bc<|W.a7 [0,1,5] ?_;refine W.bo ?_;obtain ⟨a6,ao,h⟩:=aB h;refine W.cj (G1:=[(0,_),(1,_),(5,_)]) (dH q q q) ?_;refine W.jz (s:=0) (λ(s2:Int)=>[(0,aj c8 a0),(1,aj c8 ar),(5,j s2)]) 0 (λ(bX:Unit)=>[]) (λ(b5:Bool)=>[(4,bk b5)]) ao (λs2 o h=>?_) (λbX J=>?_) (λb5 J=>?_)
  ·clear ao;refine W.bc<|W.a7 [0,1,5,14] ?_;refine W.bJ h q (λdB h=>?_) (λdB h=>?_)
   ·refine W.bS<|ag.bb ?_;refine W.bc<|W.bo ?_;refine W.bc ?_;obtain ⟨bj,f_,h⟩:=aB h;obtain ⟨b4,iB,h⟩:=aB h;refine W.rd [[],[],[0,1],[0,1,2],[],[],[4,5],[4,5,6],aT 0 8 []] [(0,_),(1,_),(5,_),(25,_)] eY (by kernel_rfl) (aw 0 (O.aA (.aD q))<|aw 1 (O.aA (.lit q))<|aw 2 (O.cQ (.aD q) (.lit q) jW f_)<|aw 3 (O.iW (cs':=[j bj.Prod,j bj.dw]) (.bs q) pb q q)<|aw 4 (O.aA (.aD q))<|aw 5 (O.aA (.lit q))<|aw 6 (O.cQ (.aD q) (.lit q) jW iB)<|aw 7 (O.iW (cs':=[j b4.Prod,j b4.dw]) (.bs q) pb q q)<|aw 8 (O.K1 (va:=[.int .i64 bj.Prod,.int .i64 bj.dw]) (vb:=[.int .i64 b4.Prod,.int .i64 b4.dw]) (.ck q q) (.ck q q) q q IZ)<|b1.fin q q q (dA q q q q)) ?_;refine ag.bb<|W.bJ h q (λek h=>?_) (λek h=>?_)
    ·refine W.a7 [4] ?_;refine W.rt ?_;refine ag.dY ?_;refine ag.c5 ?_;obtain rfl:=ax h;exact ag.fX (.n q .nil)
    ·refine W.bS<|ag.bo ?_;refine ag.bb<|W.br [0,1,5] (bu q<|ai (O.add (.lit q) (.k q))<|au.br [0,1,16] q<|au.a_) ?_;obtain rfl:=ax h;exact ag.go (dH q q q)
   ·refine W.dj ?_;refine ag.di ?_;obtain rfl:=ax h;exact ag.x2 .nil
  ·subst J;refine ag.dk ?_;refine ag.bb<|W.a7 [4] ?_;refine W.rt ?_;obtain rfl:=ax h;exact cF (.f q q .nil)
  ·subst J;refine ag.dY ?_;refine ag.c5 ?_;obtain rfl:=ax h;exact cF (.f q q .nil)
theorem OS (a0:(List State)) (ar:(List Item)) (r:Int) (h:Ad a0 ar=some r):cf Try.prog 83 [aj ct a0,aj c8 ar] [none,none] (j r):=by
 unfold Ad at h;refine cf.go (N:=⟨20,[]⟩) Try.func83 q q q q (W.fin ?_);refine W.st [(0,aj ct a0),(1,aj c8 ar)] ?_;refine W.a7 [0,1] ?_;refine W.bc<|W.a7 [0,1,5] ?_;refine W.bo ?_;obtain ⟨x2,ao,h⟩:=aB h;refine W.cj (G1:=[(0,_),(1,_),(5,_)]) (dH q q q) ?_;refine W.jz (s:=0) (λ(s1:Int)=>[(0,aj ct a0),(1,aj c8 ar),(5,j s1)]) 0 (λ(a6:Unit)=>[]) (λ(bX:Int)=>[(4,j bX)]) ao (λs1 o h=>?_) (λa6 J=>?_) (λbX J=>?_)
 ·clear ao;refine W.bc<|W.a7 [0,1,5,9] ?_;refine W.bJ h q (λdN h=>?_) (λdN h=>?_)
  ·refine W.bS<|ag.bb ?_;refine W.bc<|W.bo ?_;obtain ⟨bF,fM,h⟩:=aB h;obtain ⟨bj,f_,h⟩:=aB h;refine W.bV [0,1,5,18] (ai (O.aA (.aD q))<|bu q<|ai (O.cQ (.aD q) (.lit q) kL fM)<|ai (O.e2 (.bs q) uq)<|ai (O.du (x:=aj c8 bF.Kernel) (.bs q) uf q)<|ai (O.aA (.aD q))<|d' (cw.go (.b2 (.aD q) (.b2 (.aD q) .nil)) (Og bF.Kernel ar _ f_) call103 q)<|bZ q) ?_;refine W.bJ h q (λcS h=>?_) (λcS h=>?_)
   ·refine W.a7 [4] ?_;refine W.rt ?_;refine ag.dY ?_;refine ag.c5 ?_;obtain rfl:=ax h;exact ag.fX (.n q .nil)
   ·refine W.bS<|ag.bo ?_;refine ag.bb<|W.br [0,1,5] (bu q<|ai (O.add (.lit q) (.k q))<|au.br [0,1,11] q<|au.a_) ?_;obtain rfl:=ax h;exact ag.go (dH q q q)
  ·refine W.dj ?_;refine ag.di ?_;obtain rfl:=ax h;exact ag.x2 .nil
 ·subst J;refine ag.dk ?_;refine ag.bb<|W.a7 [4] ?_;refine W.rt ?_;obtain rfl:=ax h;exact cF (.f q q .nil)
 ·subst J;refine ag.dY ?_;refine ag.c5 ?_;obtain rfl:=ax h;exact cF (.f q q .nil)
end Go.Proofs
