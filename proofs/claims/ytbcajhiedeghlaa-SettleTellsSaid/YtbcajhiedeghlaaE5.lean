/-
  What is proved here: parts of the proof that the last text states: rules for walks through code, and of this program's functions what they answer. No condition of their own.
-/
import Derived.Test.YtbcajhiedeghlaaRows
import Derived.Test.YtbcajhiedeghlaaE4
namespace Go.Proofs
open Go Go.Own
set_option maxRecDepth 100000
set_option maxHeartbeats 2000000
set_option linter.unusedVariables false
theorem Fl:dN Try.prog 23 0 0 3=true:=by kernel_rfl
theorem cx:hE Try.prog 3=true:=by kernel_rfl
theorem Kv:dN Try.prog 23 1 1 3=true:=by kernel_rfl
theorem lR:(Try.prog.info? 23).bind (·.zero)=some (.agg #[.int .i64 0,.int .i64 0]):=by kernel_rfl
theorem qn:kP Try.prog 23 [(0,1),(1,1)]=true:=by kernel_rfl
theorem lC:gz Try.prog 23 2=true:=by kernel_rfl
theorem kD:iI Try.prog 23 2=true:=by kernel_rfl
theorem j6:o1 Try.prog 9=true:=by kernel_rfl
theorem call121:du Try.prog 121=true:=by kernel_rfl
theorem call122:du Try.prog 122=true:=by kernel_rfl
theorem call117:du Try.prog 117=true:=by kernel_rfl
theorem tH:dN Try.prog 88 1 1 4=true:=by kernel_rfl
theorem mX:hE Try.prog 4=true:=by kernel_rfl
theorem ko:dN Try.prog 88 0 0 9=true:=by kernel_rfl
theorem eN:hE Try.prog 9=true:=by kernel_rfl
theorem tI:dN Try.prog 88 2 2 3=true:=by kernel_rfl
theorem call120:du Try.prog 120=true:=by kernel_rfl
theorem call111:du Try.prog 111=true:=by kernel_rfl
theorem oB:dN Try.prog 100 0 0 3=true:=by kernel_rfl
theorem oC:dN Try.prog 100 2 2 98=true:=by kernel_rfl
theorem p6:hE Try.prog 98=true:=by kernel_rfl
theorem o0:fu Try.prog 98 88 4=true:=by kernel_rfl
theorem nw:dN Try.prog 100 1 1 9=true:=by kernel_rfl
theorem j9:iI Try.prog 88 4=true:=by kernel_rfl
theorem call116:du Try.prog 116=true:=by kernel_rfl
theorem d_:Try.prog.follows .mixedOrders=true:=by kernel_rfl
theorem call124:du Try.prog 124=true:=by kernel_rfl
theorem call123:du Try.prog 123=true:=by kernel_rfl
theorem pr:dN Try.prog 93 0 0 91=true:=by kernel_rfl
theorem sr:hE Try.prog 91=true:=by kernel_rfl
theorem qp:fu Try.prog 91 90 6=true:=by kernel_rfl
theorem yR:iI Try.prog 90 6=true:=by kernel_rfl
theorem qt:(Try.prog.info? 90).bind (·.zero)=some (.agg #[.string { data:=#[] },.bool false,.int .i64 0,.int .i64 0,.string { data:=#[] },.int .i64 0]):=by kernel_rfl
theorem D7:gz Try.prog 90 6=true:=by kernel_rfl
theorem qG:dN Try.prog 90 1 4 9=true:=by kernel_rfl
theorem xr:dN Try.prog 90 0 0 88=true:=by kernel_rfl
theorem call118:du Try.prog 118=true:=by kernel_rfl
theorem call119:du Try.prog 119=true:=by kernel_rfl
theorem sz:dN Try.prog 93 1 1 88=true:=by kernel_rfl
theorem CC:dN Try.prog 33 0 0 9=true:=by kernel_rfl
theorem ny:dN Try.prog 33 1 1 30=true:=by kernel_rfl
theorem pj:hE Try.prog 30=true:=by kernel_rfl
theorem nK:fu Try.prog 30 100 4=true:=by kernel_rfl
theorem B_:iI Try.prog 100 4=true:=by kernel_rfl
theorem call110:du Try.prog 110=true:=by kernel_rfl
theorem kn:dN Try.prog 33 2 2 31=true:=by kernel_rfl
theorem ll:hE Try.prog 31=true:=by kernel_rfl
theorem lb:fu Try.prog 31 96 3=true:=by kernel_rfl
theorem Ca:iI Try.prog 96 3=true:=by kernel_rfl
theorem wE:(Try.prog.info? 96).bind (·.zero)=some (.agg #[.string { data:=#[] },.slice none 0 0,.int .i64 0]):=by kernel_rfl
theorem D_:gz Try.prog 96 3=true:=by kernel_rfl
theorem sA:dN Try.prog 96 0 0 9=true:=by kernel_rfl
theorem m':dN Try.prog 96 1 1 94=true:=by kernel_rfl
theorem po:hE Try.prog 94=true:=by kernel_rfl
theorem oZ:fu Try.prog 94 93 6=true:=by kernel_rfl
theorem B':iI Try.prog 93 6=true:=by kernel_rfl
theorem call112:du Try.prog 112=true:=by kernel_rfl
theorem zf:dN Try.prog 169 4 8 3=true:=by kernel_rfl
theorem nr:gz Try.prog 3 1=true:=by kernel_rfl
theorem zg:dN Try.prog 169 5 9 3=true:=by kernel_rfl
theorem zh:dN Try.prog 169 6 10 9=true:=by kernel_rfl
theorem wy:gz Try.prog 9 1=true:=by kernel_rfl
theorem ze:dN Try.prog 169 2 6 41=true:=by kernel_rfl
theorem rD:hE Try.prog 41=true:=by kernel_rfl
theorem q_:fu Try.prog 41 176 2=true:=by kernel_rfl
theorem Ku:dN Try.prog 176 0 0 9=true:=by kernel_rfl
theorem km:dN Try.prog 169 0 0 44=true:=by kernel_rfl
theorem m_:dN Try.prog 44 0 0 40=true:=by kernel_rfl
theorem nX:hE Try.prog 40=true:=by kernel_rfl
theorem oe:fu Try.prog 40 78 6=true:=by kernel_rfl
theorem KB:dN Try.prog 78 0 0 9=true:=by kernel_rfl
theorem KC:dN Try.prog 78 1 1 4=true:=by kernel_rfl
theorem OU:Cf Try.prog 4=true:=by kernel_rfl
theorem zl:dN Try.prog 78 2 2 3=true:=by kernel_rfl
theorem call95:du Try.prog 95=true:=by kernel_rfl
theorem wD:(Try.prog.info? 78).bind (·.zero)=some (.agg #[.string { data:=#[] },.bool false,.int .i64 0,.int .i64 0,.int .i64 0,.string { data:=#[] }]):=by kernel_rfl
theorem DY:kP Try.prog 78 [(0,1),(1,1),(2,1),(3,1),(4,1),(5,1)]=true:=by kernel_rfl
theorem Iy:gz Try.prog 78 6=true:=by kernel_rfl
theorem Dm:rV Try.prog 5 .u8=true:=by kernel_rfl
theorem vK:rV Try.prog 3 .i64=true:=by kernel_rfl
theorem call114:du Try.prog 114=true:=by kernel_rfl
theorem qF:dN Try.prog 88 3 3 3=true:=by kernel_rfl
theorem call94:du Try.prog 94=true:=by kernel_rfl
theorem EF:iI Try.prog 78 6=true:=by kernel_rfl
theorem NR:jY Try.prog 78 6=true:=by kernel_rfl
theorem Ov:iV Try.prog 40 78 6 64=true:=by kernel_rfl
theorem Ns:gz Try.prog 40 1=true:=by kernel_rfl
theorem xn:dN Try.prog 169 1 5 103=true:=by kernel_rfl
theorem y4:hE Try.prog 103=true:=by kernel_rfl
theorem Wd:jY Try.prog 4 1=true:=by kernel_rfl
theorem oY:fu Try.prog 103 4 1=true:=by kernel_rfl
theorem Oo:iV Try.prog 103 4 1 1=true:=by kernel_rfl
theorem Vy:gz Try.prog 103 1=true:=by kernel_rfl
theorem call98:du Try.prog 98=true:=by kernel_rfl
theorem BH:(Try.prog.info? 176).bind (·.zero)=some (.agg #[.string { data:=#[] },.string { data:=#[] }]):=by kernel_rfl
theorem DX:kP Try.prog 176 [(0,1),(1,1)]=true:=by kernel_rfl
theorem Ek:jY Try.prog 176 2=true:=by kernel_rfl
theorem ED:iV Try.prog 41 176 2 32=true:=by kernel_rfl
theorem D6:gz Try.prog 41 1=true:=by kernel_rfl
theorem CB:dN Try.prog 176 1 1 9=true:=by kernel_rfl
theorem call113:du Try.prog 113=true:=by kernel_rfl
theorem zm:dN Try.prog 78 3 3 3=true:=by kernel_rfl
theorem CA:dN Try.prog 169 7 11 3=true:=by kernel_rfl
theorem CE:dN Try.prog 78 4 4 3=true:=by kernel_rfl
theorem uQ:gz Try.prog 4 1=true:=by kernel_rfl
theorem CF:dN Try.prog 78 5 5 9=true:=by kernel_rfl
theorem xo:dN Try.prog 169 3 7 167=true:=by kernel_rfl
theorem y5:hE Try.prog 167=true:=by kernel_rfl
theorem Bs:fu Try.prog 167 9 1=true:=by kernel_rfl
theorem call96:du Try.prog 96=true:=by kernel_rfl
theorem Fm:dN Try.prog 93 2 5 3=true:=by kernel_rfl
theorem BG:(Try.prog.info? 148).bind (·.zero)=some (.agg #[.int .i64 0,.slice none 0 0,.int .i64 0,.string { data:=#[] },.slice none 0 0,.int .i64 0]):=by kernel_rfl
theorem Ij:kP Try.prog 148 [(0,1),(1,1),(2,1),(3,1),(4,1),(5,1)]=true:=by kernel_rfl
theorem Nq:gz Try.prog 148 6=true:=by kernel_rfl
theorem mZ:dN Try.prog 148 1 1 29=true:=by kernel_rfl
theorem gN:hE Try.prog 29=true:=by kernel_rfl
theorem call115:du Try.prog 115=true:=by kernel_rfl
theorem nN:jY Try.prog 3 1=true:=by kernel_rfl
theorem eE:fu Try.prog 29 3 1=true:=by kernel_rfl
theorem p4:iV Try.prog 29 3 1 8=true:=by kernel_rfl
theorem wx:gz Try.prog 29 1=true:=by kernel_rfl
theorem zn:dN Try.prog 90 2 5 3=true:=by kernel_rfl
theorem Kr:dN Try.prog 148 3 3 9=true:=by kernel_rfl
theorem Kt:dN Try.prog 148 5 5 3=true:=by kernel_rfl
theorem zi:dN Try.prog 169 8 12 3=true:=by kernel_rfl
theorem ln:dN Try.prog 44 2 2 42=true:=by kernel_rfl
theorem mo:hE Try.prog 42=true:=by kernel_rfl
theorem IT:jY Try.prog 148 6=true:=by kernel_rfl
theorem mP:fu Try.prog 42 148 6=true:=by kernel_rfl
theorem Jk:iV Try.prog 42 148 6 88=true:=by kernel_rfl
theorem Ix:gz Try.prog 42 1=true:=by kernel_rfl
theorem xl:dN Try.prog 148 2 2 3=true:=by kernel_rfl
theorem Ks:dN Try.prog 148 4 4 29=true:=by kernel_rfl
theorem Jt:iI Try.prog 148 6=true:=by kernel_rfl
theorem Me:rV Try.prog 187 .u64=true:=by kernel_rfl
theorem IU:jY Try.prog 5 1=true:=by kernel_rfl
theorem D2:fu Try.prog 123 5 1=true:=by kernel_rfl
theorem EL:u6 Try.prog 123 9=true:=by kernel_rfl
theorem pU:(Try.prog.info? 44).bind (·.zero)=some (.agg #[.slice none 0 0,.slice none 0 0,.slice none 0 0,.string { data:=#[] },.string { data:=#[] }]):=by kernel_rfl
theorem oz:iI Try.prog 33 4=true:=by kernel_rfl
theorem call92:du Try.prog 92=true:=by kernel_rfl
theorem Ik:kP Try.prog 44 [(0,1),(1,1),(2,1),(3,1),(4,1)]=true:=by kernel_rfl
theorem oh:gz Try.prog 44 5=true:=by kernel_rfl
theorem gh:iI Try.prog 44 5=true:=by kernel_rfl
theorem IM:(Try.prog.info? 4).bind (·.zero)=some (.bool false):=by kernel_rfl
theorem EJ:(Try.prog.info? 4).map (·.bytes)=some 1:=by kernel_rfl
theorem V_:(Try.prog.info? 169).bind (·.zero)=some (.agg #[.slice none 0 0,.slice none 0 0,.slice none 0 0,.string { data:=#[] },.string { data:=#[] },.slice none 0 0,.slice none 0 0,.slice none 0 0,.int .i64 0,.int .i64 0,.string { data:=#[] },.int .i64 0,.int .i64 0]):=by kernel_rfl
theorem Vf:kP Try.prog 169 [(0,5),(5,1),(6,1),(7,1),(8,1),(9,1),(10,1),(11,1),(12,1)]=true:=by kernel_rfl
theorem BF:(Try.prog.info? 100).bind (·.zero)=some (.agg #[.int .i64 0,.string { data:=#[] },.slice none 0 0,.int .i64 0]):=by kernel_rfl
theorem Nl:gz Try.prog 100 4=true:=by kernel_rfl
theorem call93:du Try.prog 93=true:=by kernel_rfl
theorem o5:(Try.prog.info? 88).bind (·.zero)=some (.agg #[.string { data:=#[] },.bool false,.int .i64 0,.int .i64 0]):=by kernel_rfl
theorem uM:kP Try.prog 88 [(0,1),(1,1),(2,1),(3,1)]=true:=by kernel_rfl
theorem Fo:dN Try.prog 96 2 2 3=true:=by kernel_rfl
theorem Wf:jY Try.prog 9 1=true:=by kernel_rfl
theorem Ou:iV Try.prog 167 9 1 16=true:=by kernel_rfl
theorem VC:gz Try.prog 167 1=true:=by kernel_rfl
theorem uS:gz Try.prog 88 4=true:=by kernel_rfl
theorem call97:du Try.prog 97=true:=by kernel_rfl
theorem rJ:dN Try.prog 44 1 1 41=true:=by kernel_rfl
theorem VD:gz Try.prog 176 2=true:=by kernel_rfl
theorem OJ:iI Try.prog 176 2=true:=by kernel_rfl
theorem call99:du Try.prog 99=true:=by kernel_rfl
theorem CD:dN Try.prog 33 3 3 9=true:=by kernel_rfl
theorem Kz:dN Try.prog 44 3 3 9=true:=by kernel_rfl
theorem KA:dN Try.prog 44 4 4 9=true:=by kernel_rfl
theorem call78:du Try.prog 78=true:=by kernel_rfl
theorem nx:dN Try.prog 137 0 0 3=true:=by kernel_rfl
theorem rI:dN Try.prog 137 1 1 3=true:=by kernel_rfl
theorem p5:iI Try.prog 137 2=true:=by kernel_rfl
theorem call102:du Try.prog 102=true:=by kernel_rfl
theorem kf:fu Try.prog 132 137 2=true:=by kernel_rfl
theorem Kj:sv Try.prog 137 [.i .i64,.i .i64]=true:=by kernel_rfl
theorem IS:jY Try.prog 137 2=true:=by kernel_rfl
theorem EB:iV Try.prog 132 137 2 16=true:=by kernel_rfl
theorem call101:du Try.prog 101=true:=by kernel_rfl
theorem call100:du Try.prog 100=true:=by kernel_rfl
theorem call81:du Try.prog 81=true:=by kernel_rfl
theorem zc:dN Try.prog 148 0 0 3=true:=by kernel_rfl
theorem Ei:(Try.prog.info? 137).bind (·.zero)=some (.agg #[.int .i64 0,.int .i64 0]):=by kernel_rfl
theorem Ii:kP Try.prog 137 [(0,1),(1,1)]=true:=by kernel_rfl
theorem call80:du Try.prog 80=true:=by kernel_rfl
theorem lf:fu Try.prog 64 135 2=true:=by kernel_rfl
theorem vl:dN Try.prog 135 0 0 132=true:=by kernel_rfl
theorem vg:hE Try.prog 132=true:=by kernel_rfl
theorem call103:du Try.prog 103=true:=by kernel_rfl
theorem IL:(Try.prog.info? 135).bind (·.zero)=some (.agg #[.slice none 0 0,.slice none 0 0]):=by kernel_rfl
theorem M9:kP Try.prog 135 [(0,1),(1,1)]=true:=by kernel_rfl
theorem NO:jY Try.prog 135 2=true:=by kernel_rfl
theorem call79:du Try.prog 79=true:=by kernel_rfl
theorem call67:du Try.prog 67=true:=by kernel_rfl
theorem call70:du Try.prog 70=true:=by kernel_rfl
theorem call82:du Try.prog 82=true:=by kernel_rfl
theorem call83:du Try.prog 83=true:=by kernel_rfl
theorem Ow:iV Try.prog 64 135 2 48=true:=by kernel_rfl
theorem sx:dN Try.prog 135 1 1 133=true:=by kernel_rfl
theorem vh:hE Try.prog 133=true:=by kernel_rfl
theorem Ej:(Try.prog.info? 145).bind (·.zero)=some (.agg #[.int .i64 0,.int .i64 0]):=by kernel_rfl
theorem M_:kP Try.prog 145 [(0,1),(1,1)]=true:=by kernel_rfl
theorem NP:jY Try.prog 145 2=true:=by kernel_rfl
theorem tb:fu Try.prog 133 145 2=true:=by kernel_rfl
theorem Jh:iV Try.prog 133 145 2 16=true:=by kernel_rfl
theorem Nn:gz Try.prog 133 1=true:=by kernel_rfl
theorem call68:du Try.prog 68=true:=by kernel_rfl
theorem call69:du Try.prog 69=true:=by kernel_rfl
theorem Cz:dN Try.prog 145 0 0 3=true:=by kernel_rfl
theorem Kq:dN Try.prog 145 1 1 3=true:=by kernel_rfl
theorem tG:dN Try.prog 76 4 4 29=true:=by kernel_rfl
theorem xq:dN Try.prog 76 2 2 3=true:=by kernel_rfl
theorem vm:dN Try.prog 76 3 3 4=true:=by kernel_rfl
theorem call59:du Try.prog 59=true:=by kernel_rfl
theorem IN:(Try.prog.info? 76).bind (·.zero)=some (.agg #[.int .i64 0,.int .i64 0,.int .i64 0,.bool false,.slice none 0 0]):=by kernel_rfl
theorem Vg:kP Try.prog 76 [(0,1),(1,1),(2,1),(3,1),(4,1)]=true:=by kernel_rfl
theorem Nu:gz Try.prog 76 5=true:=by kernel_rfl
theorem VA:gz Try.prog 137 2=true:=by kernel_rfl
theorem Br:fu Try.prog 112 139 3=true:=by kernel_rfl
theorem Ko:dN Try.prog 139 0 0 3=true:=by kernel_rfl
theorem Cy:dN Try.prog 139 2 2 29=true:=by kernel_rfl
theorem Kp:dN Try.prog 139 1 1 3=true:=by kernel_rfl
theorem yQ:iI Try.prog 76 5=true:=by kernel_rfl
theorem call66:du Try.prog 66=true:=by kernel_rfl
theorem We:jY Try.prog 76 5=true:=by kernel_rfl
theorem yu:fu Try.prog 65 76 5=true:=by kernel_rfl
theorem Ox:iV Try.prog 65 76 5 56=true:=by kernel_rfl
theorem kg:fu Try.prog 34 29 1=true:=by kernel_rfl
theorem V9:(Try.prog.info? 161).bind (·.zero)=some (.agg #[.int .i64 0,.int .i64 0]):=by kernel_rfl
theorem Ve:kP Try.prog 161 [(0,1),(1,1)]=true:=by kernel_rfl
theorem Wb:jY Try.prog 161 2=true:=by kernel_rfl
theorem qo:fu Try.prog 158 161 2=true:=by kernel_rfl
theorem Ot:iV Try.prog 158 161 2 16=true:=by kernel_rfl
theorem call88:du Try.prog 88=true:=by kernel_rfl
theorem xm:dN Try.prog 161 0 0 3=true:=by kernel_rfl
theorem zd:dN Try.prog 161 1 1 3=true:=by kernel_rfl
theorem call104:du Try.prog 104=true:=by kernel_rfl
theorem El:jY Try.prog 29 1=true:=by kernel_rfl
theorem B5:iV Try.prog 34 29 1 24=true:=by kernel_rfl
theorem call107:du Try.prog 107=true:=by kernel_rfl
theorem call105:du Try.prog 105=true:=by kernel_rfl
theorem call106:du Try.prog 106=true:=by kernel_rfl
theorem V':(Try.prog.info? 29).bind (·.zero)=some (.slice none 0 0):=by kernel_rfl
theorem OP:(Try.prog.info? 29).map (·.bytes)=some 24:=by kernel_rfl
theorem call89:du Try.prog 89=true:=by kernel_rfl
theorem call85:du Try.prog 85=true:=by kernel_rfl
theorem call86:du Try.prog 86=true:=by kernel_rfl
theorem call84:du Try.prog 84=true:=by kernel_rfl
theorem call87:du Try.prog 87=true:=by kernel_rfl
theorem call71:du Try.prog 71=true:=by kernel_rfl
theorem call72:du Try.prog 72=true:=by kernel_rfl
theorem NM:(Try.prog.info? 139).bind (·.zero)=some (.agg #[.int .i64 0,.int .i64 0,.slice none 0 0]):=by kernel_rfl
theorem Vd:kP Try.prog 139 [(0,1),(1,1),(2,1)]=true:=by kernel_rfl
theorem VB:gz Try.prog 139 3=true:=by kernel_rfl
theorem call73:du Try.prog 73=true:=by kernel_rfl
theorem OI:iI Try.prog 139 3=true:=by kernel_rfl
theorem Wa:jY Try.prog 139 3=true:=by kernel_rfl
theorem Oq:iV Try.prog 112 139 3 40=true:=by kernel_rfl
theorem call52:du Try.prog 52=true:=by kernel_rfl
theorem call54:du Try.prog 54=true:=by kernel_rfl
theorem call53:du Try.prog 53=true:=by kernel_rfl
theorem call91:du Try.prog 91=true:=by kernel_rfl
theorem xp:dN Try.prog 76 0 0 3=true:=by kernel_rfl
theorem sy:dN Try.prog 76 1 1 3=true:=by kernel_rfl
theorem BI:(Try.prog.info? 82).bind (·.zero)=some (.agg #[.int .i64 0,.int .i64 0,.int .i64 0,.int .i64 0]):=by kernel_rfl
theorem DZ:kP Try.prog 82 [(0,1),(1,1),(2,1),(3,1)]=true:=by kernel_rfl
theorem Em:jY Try.prog 82 4=true:=by kernel_rfl
theorem pR:fu Try.prog 68 82 4=true:=by kernel_rfl
theorem yP:iV Try.prog 68 82 4 32=true:=by kernel_rfl
theorem call75:du Try.prog 75=true:=by kernel_rfl
theorem r6:(Try.prog.info? 47).bind (·.zero)=some (.agg #[.slice none 0 0,.slice none 0 0]):=by kernel_rfl
theorem q':fu Try.prog 54 23 2=true:=by kernel_rfl
theorem Jz:(Try.prog.info? 23).map (·.bytes)=some 16:=by kernel_rfl
theorem call58:du Try.prog 58=true:=by kernel_rfl
theorem NN:(Try.prog.info? 3).bind (·.zero)=some (.int .i64 0):=by kernel_rfl
theorem JA:(Try.prog.info? 3).map (·.bytes)=some 8:=by kernel_rfl
theorem nZ:dN Try.prog 47 0 0 45=true:=by kernel_rfl
theorem pn:hE Try.prog 45=true:=by kernel_rfl
theorem NQ:jY Try.prog 54 1=true:=by kernel_rfl
theorem pQ:fu Try.prog 45 54 1=true:=by kernel_rfl
theorem Jl:iV Try.prog 45 54 1 24=true:=by kernel_rfl
theorem qE:dN Try.prog 47 1 1 34=true:=by kernel_rfl
theorem pk:hE Try.prog 34=true:=by kernel_rfl
theorem Nt:gz Try.prog 45 1=true:=by kernel_rfl
theorem Nr:gz Try.prog 34 1=true:=by kernel_rfl
theorem tz:iI Try.prog 47 2=true:=by kernel_rfl
theorem uR:gz Try.prog 47 2=true:=by kernel_rfl
theorem call30:du Try.prog 30=true:=by kernel_rfl
theorem call32:du Try.prog 32=true:=by kernel_rfl
theorem Vm:fu Try.prog 57 62 2=true:=by kernel_rfl
theorem Vl:fu Try.prog 51 59 2=true:=by kernel_rfl
theorem QR:dN Try.prog 59 0 0 3=true:=by kernel_rfl
theorem QS:dN Try.prog 59 1 1 57=true:=by kernel_rfl
theorem Qj:hE Try.prog 57=true:=by kernel_rfl
theorem VV:Try.prog.underlying 3=some (.int .i64):=by kernel_rfl
noncomputable abbrev Xs:BV Try.prog 3 Int:=NY VV
theorem Wg:(Try.prog.info? 3).bind (·.zero)=some (.int .i64 0):=by kernel_rfl
noncomputable abbrev Xt:BW Try.prog 3 Int:=NZ Wg
theorem tE:hE Try.prog 54=true:=by kernel_rfl
theorem uN:kP Try.prog 90 [(0,4),(4,1),(5,1)]=true:=by kernel_rfl
theorem wG:jY Try.prog 90 6=true:=by kernel_rfl
theorem yC:(Try.prog.info? 93).bind (·.zero)=some (.agg #[.slice none 0 0,.string { data:=#[] },.bool false,.int .i64 0,.int .i64 0,.int .i64 0]):=by kernel_rfl
theorem D0:kP Try.prog 93 [(0,1),(1,4),(5,1)]=true:=by kernel_rfl
theorem BJ:jY Try.prog 93 6=true:=by kernel_rfl
theorem Il:kP Try.prog 96 [(0,1),(1,1),(2,1)]=true:=by kernel_rfl
theorem IV:jY Try.prog 96 3=true:=by kernel_rfl
theorem tj:(Try.prog.info? 33).bind (·.zero)=some (.agg #[.string { data:=#[] },.slice none 0 0,.slice none 0 0,.string { data:=#[] }]):=by kernel_rfl
theorem M':kP Try.prog 33 [(0,1),(1,1),(2,1),(3,1)]=true:=by kernel_rfl
theorem QJ:sv Try.prog 23 [.i .i64,.i .i64]=true:=by kernel_rfl
theorem call14:du Try.prog 14=true:=by kernel_rfl
theorem call42:du Try.prog 42=true:=by kernel_rfl
theorem yx:gz Try.prog 33 4=true:=by kernel_rfl
theorem Kn:dN Try.prog 100 3 3 3=true:=by kernel_rfl
theorem Ih:kP Try.prog 100 [(0,1),(1,1),(2,1),(3,1)]=true:=by kernel_rfl
theorem call43:du Try.prog 43=true:=by kernel_rfl
theorem En:jY Try.prog 88 4=true:=by kernel_rfl
theorem Jm:iV Try.prog 98 88 4 40=true:=by kernel_rfl
theorem Nv:gz Try.prog 98 1=true:=by kernel_rfl
theorem IQ:jY Try.prog 100 4=true:=by kernel_rfl
theorem EC:iV Try.prog 30 100 4 56=true:=by kernel_rfl
theorem Iv:gz Try.prog 30 1=true:=by kernel_rfl
theorem VF:gz Try.prog 93 6=true:=by kernel_rfl
theorem B6:iV Try.prog 91 90 6 64=true:=by kernel_rfl
theorem D8:gz Try.prog 91 1=true:=by kernel_rfl
theorem B7:iV Try.prog 94 93 6 72=true:=by kernel_rfl
theorem D9:gz Try.prog 94 1=true:=by kernel_rfl
theorem Jj:iV Try.prog 31 96 3 48=true:=by kernel_rfl
theorem Iw:gz Try.prog 31 1=true:=by kernel_rfl
theorem call65:du Try.prog 65=true:=by kernel_rfl
theorem call47:du Try.prog 47=true:=by kernel_rfl
theorem call45:du Try.prog 45=true:=by kernel_rfl
theorem Kw:dN Try.prog 36 0 0 3=true:=by kernel_rfl
theorem Kx:dN Try.prog 36 2 2 29=true:=by kernel_rfl
theorem call44:du Try.prog 44=true:=by kernel_rfl
theorem zj:dN Try.prog 36 1 1 34=true:=by kernel_rfl
theorem call46:du Try.prog 46=true:=by kernel_rfl
theorem zk:dN Try.prog 36 3 3 29=true:=by kernel_rfl
theorem Ky:dN Try.prog 36 4 4 4=true:=by kernel_rfl
theorem call19:du Try.prog 19=true:=by kernel_rfl
theorem OK:iI Try.prog 36 5=true:=by kernel_rfl
theorem call20:du Try.prog 20=true:=by kernel_rfl
theorem Wc:jY Try.prog 33 4=true:=by kernel_rfl
theorem Io:fu Try.prog 39 33 4=true:=by kernel_rfl
theorem QT:dN Try.prog 62 0 0 3=true:=by kernel_rfl
theorem QU:dN Try.prog 62 1 1 3=true:=by kernel_rfl
theorem call109:du Try.prog 109=true:=by kernel_rfl
theorem He:rV Try.prog 162 .u64=true:=by kernel_rfl
theorem call90:du Try.prog 90=true:=by kernel_rfl
theorem OH:iI Try.prog 135 2=true:=by kernel_rfl
theorem Vz:gz Try.prog 135 2=true:=by kernel_rfl
theorem call74:du Try.prog 74=true:=by kernel_rfl
theorem Js:iI Try.prog 145 2=true:=by kernel_rfl
theorem Np:gz Try.prog 145 2=true:=by kernel_rfl
theorem call63:du Try.prog 63=true:=by kernel_rfl
theorem call62:du Try.prog 62=true:=by kernel_rfl
theorem call57:du Try.prog 57=true:=by kernel_rfl
theorem call38:du Try.prog 38=true:=by kernel_rfl
theorem call55:du Try.prog 55=true:=by kernel_rfl
theorem call56:du Try.prog 56=true:=by kernel_rfl
theorem EG:iI Try.prog 82 4=true:=by kernel_rfl
theorem VE:gz Try.prog 82 4=true:=by kernel_rfl
theorem KD:dN Try.prog 82 2 2 3=true:=by kernel_rfl
theorem call77:du Try.prog 77=true:=by kernel_rfl
theorem call64:du Try.prog 64=true:=by kernel_rfl
theorem call40:du Try.prog 40=true:=by kernel_rfl
theorem call31:du Try.prog 31=true:=by kernel_rfl
theorem call33:du Try.prog 33=true:=by kernel_rfl
theorem KE:dN Try.prog 82 3 3 3=true:=by kernel_rfl
theorem call41:du Try.prog 41=true:=by kernel_rfl
theorem call76:du Try.prog 76=true:=by kernel_rfl
theorem call60:du Try.prog 60=true:=by kernel_rfl
theorem call61:du Try.prog 61=true:=by kernel_rfl
theorem QK:sv Try.prog 82 [.i .i64,.i .i64,.i .i64,.i .i64]=true:=by kernel_rfl
theorem call29:du Try.prog 29=true:=by kernel_rfl
theorem call34:du Try.prog 34=true:=by kernel_rfl
theorem call35:du Try.prog 35=true:=by kernel_rfl
theorem call36:du Try.prog 36=true:=by kernel_rfl
theorem QV:dN Try.prog 82 0 0 3=true:=by kernel_rfl
theorem QW:dN Try.prog 82 1 1 3=true:=by kernel_rfl
instance:dR Try.prog 23 0 0 3:=⟨Fl⟩
instance:gX Try.prog 3:=⟨cx⟩
instance:dR Try.prog 23 1 1 3:=⟨Kv⟩
instance:r8 Try.prog 9:=⟨j6⟩
instance:dR Try.prog 88 1 1 4:=⟨tH⟩
instance:gX Try.prog 4:=⟨mX⟩
instance:dR Try.prog 88 0 0 9:=⟨ko⟩
instance:gX Try.prog 9:=⟨eN⟩
instance:dR Try.prog 88 2 2 3:=⟨tI⟩
instance:dR Try.prog 100 0 0 3:=⟨oB⟩
instance:dR Try.prog 100 2 2 98:=⟨oC⟩
instance:gX Try.prog 98:=⟨p6⟩
instance:hl Try.prog 98 88 4:=⟨o0⟩
instance:dR Try.prog 100 1 1 9:=⟨nw⟩
instance:dR Try.prog 93 0 0 91:=⟨pr⟩
instance:gX Try.prog 91:=⟨sr⟩
instance:hl Try.prog 91 90 6:=⟨qp⟩
instance:dR Try.prog 90 1 4 9:=⟨qG⟩
instance:dR Try.prog 90 0 0 88:=⟨xr⟩
instance:dR Try.prog 93 1 1 88:=⟨sz⟩
instance:dR Try.prog 33 0 0 9:=⟨CC⟩
instance:dR Try.prog 33 1 1 30:=⟨ny⟩
instance:gX Try.prog 30:=⟨pj⟩
instance:hl Try.prog 30 100 4:=⟨nK⟩
instance:dR Try.prog 33 2 2 31:=⟨kn⟩
instance:gX Try.prog 31:=⟨ll⟩
instance:hl Try.prog 31 96 3:=⟨lb⟩
instance:dR Try.prog 96 0 0 9:=⟨sA⟩
instance:dR Try.prog 96 1 1 94:=⟨m'⟩
instance:gX Try.prog 94:=⟨po⟩
instance:hl Try.prog 94 93 6:=⟨oZ⟩
instance:dR Try.prog 169 4 8 3:=⟨zf⟩
instance:dR Try.prog 169 5 9 3:=⟨zg⟩
instance:dR Try.prog 169 6 10 9:=⟨zh⟩
instance:dR Try.prog 169 2 6 41:=⟨ze⟩
instance:gX Try.prog 41:=⟨rD⟩
instance:hl Try.prog 41 176 2:=⟨q_⟩
instance:dR Try.prog 176 0 0 9:=⟨Ku⟩
instance:dR Try.prog 169 0 0 44:=⟨km⟩
instance:dR Try.prog 44 0 0 40:=⟨m_⟩
instance:gX Try.prog 40:=⟨nX⟩
instance:hl Try.prog 40 78 6:=⟨oe⟩
instance:dR Try.prog 78 0 0 9:=⟨KB⟩
instance:dR Try.prog 78 1 1 4:=⟨KC⟩
instance:dR Try.prog 78 2 2 3:=⟨zl⟩
instance:dR Try.prog 88 3 3 3:=⟨qF⟩
instance:dR Try.prog 169 1 5 103:=⟨xn⟩
instance:gX Try.prog 103:=⟨y4⟩
instance:hl Try.prog 103 4 1:=⟨oY⟩
instance:dR Try.prog 176 1 1 9:=⟨CB⟩
instance:dR Try.prog 78 3 3 3:=⟨zm⟩
instance:dR Try.prog 169 7 11 3:=⟨CA⟩
instance:dR Try.prog 78 4 4 3:=⟨CE⟩
instance:dR Try.prog 78 5 5 9:=⟨CF⟩
instance:dR Try.prog 169 3 7 167:=⟨xo⟩
instance:gX Try.prog 167:=⟨y5⟩
instance:hl Try.prog 167 9 1:=⟨Bs⟩
instance:dR Try.prog 93 2 5 3:=⟨Fm⟩
instance:dR Try.prog 148 1 1 29:=⟨mZ⟩
instance:gX Try.prog 29:=⟨gN⟩
instance:hl Try.prog 29 3 1:=⟨eE⟩
instance:dR Try.prog 90 2 5 3:=⟨zn⟩
instance:dR Try.prog 148 3 3 9:=⟨Kr⟩
instance:dR Try.prog 148 5 5 3:=⟨Kt⟩
instance:dR Try.prog 169 8 12 3:=⟨zi⟩
instance:dR Try.prog 44 2 2 42:=⟨ln⟩
instance:gX Try.prog 42:=⟨mo⟩
instance:hl Try.prog 42 148 6:=⟨mP⟩
instance:dR Try.prog 148 2 2 3:=⟨xl⟩
instance:dR Try.prog 148 4 4 29:=⟨Ks⟩
instance:hl Try.prog 123 5 1:=⟨D2⟩
instance:dR Try.prog 96 2 2 3:=⟨Fo⟩
instance:dR Try.prog 44 1 1 41:=⟨rJ⟩
instance:dR Try.prog 33 3 3 9:=⟨CD⟩
instance:dR Try.prog 44 3 3 9:=⟨Kz⟩
instance:dR Try.prog 44 4 4 9:=⟨KA⟩
instance:dR Try.prog 137 0 0 3:=⟨nx⟩
instance:dR Try.prog 137 1 1 3:=⟨rI⟩
instance:hl Try.prog 132 137 2:=⟨kf⟩
instance:dR Try.prog 148 0 0 3:=⟨zc⟩
instance:hl Try.prog 64 135 2:=⟨lf⟩
instance:dR Try.prog 135 0 0 132:=⟨vl⟩
instance:gX Try.prog 132:=⟨vg⟩
instance:dR Try.prog 135 1 1 133:=⟨sx⟩
instance:gX Try.prog 133:=⟨vh⟩
instance:hl Try.prog 133 145 2:=⟨tb⟩
instance:dR Try.prog 145 0 0 3:=⟨Cz⟩
instance:dR Try.prog 145 1 1 3:=⟨Kq⟩
instance:dR Try.prog 76 4 4 29:=⟨tG⟩
instance:dR Try.prog 76 2 2 3:=⟨xq⟩
instance:dR Try.prog 76 3 3 4:=⟨vm⟩
instance:hl Try.prog 112 139 3:=⟨Br⟩
instance:dR Try.prog 139 0 0 3:=⟨Ko⟩
instance:dR Try.prog 139 2 2 29:=⟨Cy⟩
instance:dR Try.prog 139 1 1 3:=⟨Kp⟩
instance:hl Try.prog 65 76 5:=⟨yu⟩
instance:hl Try.prog 34 29 1:=⟨kg⟩
instance:hl Try.prog 158 161 2:=⟨qo⟩
instance:dR Try.prog 161 0 0 3:=⟨xm⟩
instance:dR Try.prog 161 1 1 3:=⟨zd⟩
instance:dR Try.prog 76 0 0 3:=⟨xp⟩
instance:dR Try.prog 76 1 1 3:=⟨sy⟩
instance:hl Try.prog 68 82 4:=⟨pR⟩
instance:hl Try.prog 54 23 2:=⟨q'⟩
instance:dR Try.prog 47 0 0 45:=⟨nZ⟩
instance:gX Try.prog 45:=⟨pn⟩
instance:hl Try.prog 45 54 1:=⟨pQ⟩
instance:dR Try.prog 47 1 1 34:=⟨qE⟩
instance:gX Try.prog 34:=⟨pk⟩
instance:hl Try.prog 57 62 2:=⟨Vm⟩
instance:hl Try.prog 51 59 2:=⟨Vl⟩
instance:dR Try.prog 59 0 0 3:=⟨QR⟩
instance:dR Try.prog 59 1 1 57:=⟨QS⟩
instance:gX Try.prog 57:=⟨Qj⟩
instance:gX Try.prog 54:=⟨tE⟩
instance:dR Try.prog 100 3 3 3:=⟨Kn⟩
instance:dR Try.prog 36 0 0 3:=⟨Kw⟩
instance:dR Try.prog 36 2 2 29:=⟨Kx⟩
instance:dR Try.prog 36 1 1 34:=⟨zj⟩
instance:dR Try.prog 36 3 3 29:=⟨zk⟩
instance:dR Try.prog 36 4 4 4:=⟨Ky⟩
instance:hl Try.prog 39 33 4:=⟨Io⟩
instance:dR Try.prog 62 0 0 3:=⟨QT⟩
instance:dR Try.prog 62 1 1 3:=⟨QU⟩
instance:dR Try.prog 82 2 2 3:=⟨KD⟩
instance:dR Try.prog 82 3 3 3:=⟨KE⟩
instance:dR Try.prog 82 0 0 3:=⟨QV⟩
instance:dR Try.prog 82 1 1 3:=⟨QW⟩
theorem Pv (a0:Int) (r:Bool) (h:AJ a0=some r):b6 Try.prog 121 [lX a0] [none] (aY r):=by
 unfold AJ at h;refine b6.go (N:=⟨21,[]⟩) Try.func121 q q q q (W.fin ?_);refine W.st [(0,lX a0)] ?_;refine W.aT [0] ?_;obtain ⟨nV,aa,h⟩:=ay h;refine W.rs [(2,aY nV)] ?_ ?_
 ·refine bq q<|ag (O.geq (.lit q) (.k q))<|ag (O.az (.lit q)) ?_;rcases cG aa with ⟨c3,aa⟩ | ⟨c3,aa⟩
  ·refine a1 c3 (O.az (.lit q))<|a1 c3 (O.leq (.lit q) (.k q))<|ag (O.eQ (.lit q) c3 (.lit q))<|ag (O.az (.lit q)) ?_;rcases cG aa with ⟨cZ,aa⟩ | ⟨cZ,aa⟩
   ·obtain rfl:=aw aa;exact au.aV
   ·refine a1 cZ (O.az (.lit q))<|a1 cZ (O.geq (.lit q) (.k q))<|a1 cZ (O.az (.lit q)) ?_;rcases cG aa with ⟨eP,aa⟩ | ⟨eP,aa⟩
    ·refine a1 eP (O.az (.lit q))<|a1 eP (O.leq (.lit q) (.k q))<|a1 cZ (O.eQ (.lit q) eP (.lit q))<|ag (O.cL (.lit q) cZ (.lit q))<|ag (O.az (.lit q)) ?_;rcases cG aa with ⟨dg,aa⟩ | ⟨dg,aa⟩
     ·obtain rfl:=aw aa;exact au.aV
     ·obtain rfl:=aw aa;exact au.aV
    ·obtain rfl:=aw aa;exact cO eP<|cO eP<|a1 cZ (O.cL (.lit q) eP (.k q))<|au.aV
  ·refine cO c3<|cO c3<|ag (O.cL (.lit q) c3 (.k q))<|bq q<|a1 q (O.az (.lit q))<|a1 q (O.geq (.lit q) (.k q))<|a1 q (O.az (.lit q)) ?_;rcases cG aa with ⟨dZ,aa⟩ | ⟨dZ,aa⟩
   ·refine a1 dZ (O.az (.lit q))<|a1 dZ (O.leq (.lit q) (.k q))<|a1 q (O.eQ (.lit q) dZ (.lit q))<|ag (O.cL (.lit q) q (.lit q))<|ag (O.az (.lit q)) ?_;rcases cG aa with ⟨dO,aa⟩ | ⟨dO,aa⟩
    ·obtain rfl:=aw aa;exact au.aV
    ·obtain rfl:=aw aa;exact au.aV
   ·obtain rfl:=aw aa;exact cO dZ<|cO dZ<|a1 q (O.cL (.lit q) dZ (.k q))<|au.aV
 refine W.rt ?_;obtain rfl:=aw h;exact cu (.f q q .nil)
theorem Pw (a0:Int) (r:Bool) (h:AK a0=some r):b6 Try.prog 122 [lX a0] [none] (aY r):=by
 unfold AK at h;refine b6.go (N:=⟨9,[]⟩) Try.func122 q q q q (W.fin ?_);refine W.st [(0,lX a0)] ?_;refine W.aT [0] ?_;obtain ⟨c2,aa,h⟩:=ay h;refine W.rs [(2,aY c2)] ?_ ?_
 ·refine bq q<|ag (O.geq (.lit q) (.k q))<|ag (O.az (.lit q)) ?_;rcases cG aa with ⟨c3,aa⟩ | ⟨c3,aa⟩
  ·obtain rfl:=aw aa;exact au.aV
  ·obtain rfl:=aw aa;exact au.aV
 refine W.rt ?_;obtain rfl:=aw h;exact cu (.f q q .nil)
theorem Pt (a0:ByteArray) (ar:Int) (r:Int) (h:AH a0 ar=some r):b6 Try.prog 117 [ab a0,j ar] [none,none] (j r):=by
 unfold AH at h;refine b6.go (N:=⟨43,[]⟩) Try.func117 q q q q (W.fin ?_);refine W.st [(0,ab a0),(1,j ar)] ?_;refine W.aT [0,1] ?_;refine W.aT [0,1,5] ?_;refine W.aX<|W.bl ?_;obtain ⟨x2,aq,h⟩:=ay h;refine W.cf (G1:=[(0,_),(1,_),(5,_)]) (dj q q q) ?_;refine W.eH (s:=0) (λ(s1:Int)=>[(0,ab a0),(1,j ar),(5,j s1)]) 0 (λ(x2:Int)=>[(5,j x2)]) aq (λs1 o h=>?_) ?_
 ·clear aq;refine W.aX ?_;obtain ⟨lZ,aa,h⟩:=ay h;refine W.rs [(0,ab a0),(1,j ar),(5,j s1),(39,aY lZ)] ?_ ?_
  ·refine bq q<|bq q<|ag (O.add (.lit q) (.lit q))<|bq q<|ag (O.mK (.lit q) j6)<|ag (O.lss (.lit q) (.lit q))<|ag (O.az (.lit q)) ?_;rcases cG aa with ⟨dg,aa⟩ | ⟨dg,aa⟩
   ·refine a1 dg (O.az (.lit q))<|a1 dg (O.az (.lit q))<|a1 dg (O.az (.lit q))<|a1 dg (O.add (.lit q) (.lit q)) ?_;obtain ⟨b',jV,aa⟩:=ay aa;refine a1 dg (O.qA (.lit q) (.lit q) j6 jV) ?_;obtain ⟨bJ,fL,aa⟩:=ay aa;refine au.c (ct.go (.bF (.lit q) .nil) (Pv b' _ fL) call121 q) q q (.jJ q q dg)<|a1 dg (O.az (.lit q)) ?_;rcases cG aa with ⟨c7,aa⟩ | ⟨c7,aa⟩
    ·obtain rfl:=aw aa;exact cO c7<|cO c7<|cO c7<|hp<|hp<|hp<|hp<|hp<|hp<|hp<|hp<|hp<|hp<|hp<|hp<|hp<|hp<|cO c7<|a1 dg (O.eQ (.lit q) c7 (.k q))<|au.aV
    ·refine a1 c7 (O.az (.lit q))<|a1 c7 (O.gtr (.lit q) (.k q))<|a1 c7 (O.az (.lit q)) ?_;rcases cG aa with ⟨cW,aa⟩ | ⟨cW,aa⟩
     ·refine a1 cW (O.az (.lit q))<|a1 cW (O.az (.lit q))<|a1 cW (O.az (.lit q))<|a1 cW (O.add (.lit q) (.lit q)) ?_;obtain ⟨cn,ir,aa⟩:=ay aa;refine a1 cW (O.qA (.lit q) (.lit q) j6 ir) ?_;obtain ⟨bS,h8,aa⟩:=ay aa;refine au.c (ct.go (.bF (.lit q) .nil) (Pw cn _ h8) call122 q) q q (.jJ q q cW)<|a1 cW (O.az (.lit q)) ?_;rcases cG aa with ⟨fx,aa⟩ | ⟨fx,aa⟩
      ·obtain rfl:=aw aa;exact cO fx<|cO fx<|cO fx<|cO fx<|cO fx<|cO fx<|a1 cW (O.eQ (.lit q) fx (.k q))<|a1 c7 (O.eQ (.lit q) cW (.lit q))<|a1 dg (O.cL (.lit q) c7 (.lit q))<|au.aV
      ·refine a1 fx (O.az (.lit q))<|a1 fx (O.az (.lit q))<|a1 fx (O.az (.lit q))<|a1 fx (O.add (.lit q) (.lit q)) ?_;obtain ⟨cH,jT,aa⟩:=ay aa;obtain rfl:=aw aa;exact a1 fx (O.qA (.lit q) (.lit q) j6 jT)<|a1 fx (O.eql (.lit q) (.k q))<|a1 cW (O.cL (.lit q) fx (.lit q))<|a1 c7 (O.eQ (.lit q) cW (.lit q))<|a1 dg (O.cL (.lit q) c7 (.lit q))<|au.aV
     ·obtain rfl:=aw aa;exact cO cW<|cO cW<|cO cW<|cO cW<|cO cW<|cO cW<|cO cW<|hp<|hp<|hp<|hp<|hp<|hp<|cO cW<|a1 c7 (O.cL (.lit q) cW (.k q))<|a1 dg (O.cL (.lit q) c7 (.lit q))<|au.aV
   ·obtain rfl:=aw aa;exact au.aV
  refine W.bz h q (λeK h=>?_) (λeK h=>?_)
  ·refine W.bE<|ah.aW ?_;refine W.bl<|W.bo [0,1,5] (bq q<|ag (O.add (.lit q) (.k q))<|au.bo [0,1,41] q<|au.aV) ?_;refine ah.bl ?_;obtain rfl:=aw h;exact ah.go (dj q q q)
  ·refine W.c9 ?_;refine ah.c8 ?_;obtain rfl:=aw h;exact ah.aE (.n q .nil)
 refine ah.c_ ?_;refine ah.aW<|W.aT [4] ?_;refine W.rt ?_;obtain rfl:=aw h;exact cu (.f q q .nil)
theorem Co (a0:ByteArray) (r:Bool) (h:uz a0=some r):b6 Try.prog 111 [ab a0] [none] (aY r):=by
 unfold uz at h;refine b6.go (N:=⟨18,[]⟩) Try.func111 q q q q (W.fin ?_);refine W.st [(0,ab a0)] ?_;refine W.aT [0] ?_;obtain ⟨c4,aa,h⟩:=ay h;refine W.rs [(2,aY c4)] ?_ ?_
 ·refine bq q<|ag (O.mK (.lit q) j6)<|ag (O.geq (.lit q) (.k q))<|ag (O.az (.lit q)) ?_;rcases cG aa with ⟨c3,aa⟩ | ⟨c3,aa⟩
  ·refine a1 c3 (O.az (.lit q))<|a1 c3 (O.mK (.lit q) j6)<|a1 c3 (O.leq (.lit q) (.k q))<|ag (O.eQ (.lit q) c3 (.lit q))<|ag (O.az (.lit q)) ?_;rcases cG aa with ⟨cZ,aa⟩ | ⟨cZ,aa⟩
   ·refine a1 cZ (O.az (.lit q)) ?_;obtain ⟨a6,hK,aa⟩:=ay aa;obtain rfl:=aw aa;exact au.c (ct.go (.bF (.lit q) (.bF (.k q) .nil)) (Pt a0 0 _ hK) call117 q) q q (.jJ q q cZ)<|au.aV
   ·obtain rfl:=aw aa;exact au.aV
  ·obtain rfl:=aw aa;exact au.aV
 refine W.rt ?_;obtain rfl:=aw h;exact cu (.f q q .nil)
theorem Pu (a0:Int) (r:Int × Bool) (h:AI a0=some r):b6 Try.prog 120 [lX a0] [none] (.cA [lX r.1,aY r.2]):=by
 unfold AI at h;refine b6.go (N:=⟨21,[]⟩) Try.func120 q q q q (W.fin ?_);refine W.st [(0,lX a0)] ?_;refine W.aT [0] ?_;refine W.aX<|W.aT [0,4] ?_;refine W.bl<|W.aT [0,4,5] ?_;refine W.bz h q (λc3 h=>?_) (λc3 h=>?_)
 ·refine W.aT [2,3] ?_;refine W.rt ?_;refine ah.dP ?_;refine ah.cP ?_;obtain rfl:=aw h;exact cu (.f q q (.f q q .nil))
 ·refine W.aT [0,4,7] ?_;refine W.bz h q (λcZ h=>?_) (λcZ h=>?_)
  ·refine W.aT [2,3] ?_;refine W.rt ?_;refine ah.dP ?_;refine ah.cP ?_;obtain rfl:=aw h;exact cu (.f q q (.f q q .nil))
  ·refine W.aT [0,4,9] ?_;refine W.bz h q (λeP h=>?_) (λeP h=>?_)
   ·refine W.aT [2,3] ?_;refine W.rt ?_;refine ah.dP ?_;refine ah.cP ?_;obtain rfl:=aw h;exact cu (.f q q (.f q q .nil))
   ·refine W.aX<|W.aT [0,4,11] ?_;obtain ⟨Hl,aa,h⟩:=ay h;refine W.bL [(0,lX a0),(11,aY Hl)] ?_ ?_
    ·clear h; have h:=aa; clear aa;refine W.bz h q (λdZ h=>?_) (λdZ h=>?_)
     ·refine W.bE ?_;obtain rfl:=aw h;exact ah.bL (e_ q q)
     ·refine W.bo [0,11] (ag (O.eql (.lit q) (.k q))<|au.bo [0,13] q<|au.aV) ?_;obtain rfl:=aw h;exact ah.bL (e_ q q)
    refine ah.aW<|W.bz h q (λdO h=>?_) (λdO h=>?_)
    ·refine W.aT [2,3] ?_;refine W.rt ?_;refine ah.dP ?_;refine ah.cP ?_;obtain rfl:=aw h;exact cu (.f q q (.f q q .nil))
    ·refine W.bE<|ah.bl ?_;refine ah.aW ?_;obtain ⟨ph,aa,h⟩:=ay h;refine W.rs [(2,lX ph.1),(3,aY ph.2)] ?_ ?_
     ·refine bq q<|ag (O.geq (.lit q) (.k q))<|ag (O.az (.lit q)) ?_;rcases cG aa with ⟨c7,aa⟩ | ⟨c7,aa⟩
      ·obtain rfl:=aw aa;exact au.aV
      ·obtain rfl:=aw aa;exact au.aV
     refine W.rt ?_;obtain rfl:=aw h;exact cu (.f q q (.f q q .nil))
theorem E2 (a0:Sym) (ar:Bool) (a2:Bool) (r:Bool) (h:v8 a0 ar a2=some r):b6 Try.prog 116 [.agg (c6.cells a0),aY ar,aY a2] [none,none,none] (aY r):=by
 unfold v8 at h;refine b6.go (N:=⟨53,[]⟩) Try.func116 q q q q (W.fin ?_);refine W.st [(0,.agg (c6.cells a0)),(1,aY ar),(2,aY a2)] ?_;refine W.bI [1,2,3] (ag (O.box (.b2 q q) q)<|au.aV) ?_;refine W.aX<|W.aT [1,2,3,10] ?_;refine W.bz h q (λc3 h=>?_) (λc3 h=>?_)
 ·refine W.aX ?_;obtain ⟨c4,aa,h⟩:=ay h;refine W.rs [(3,.obj (c6.cells a0)),(23,aY c4)] ?_ ?_
  ·refine bq q<|ag (O.not (.lit q))<|ag (O.az (.lit q)) ?_;rcases cG aa with ⟨cZ,aa⟩ | ⟨cZ,aa⟩
   ·obtain rfl:=aw aa;exact au.aV
   ·refine a1 cZ (O.bd q (.obj q) ko q)<|a1 cZ (O.cw q (.ptr q) eN q)<|a1 cZ (O.mK (.lit q) j6)<|a1 cZ (O.neq (.lit q) (.k q))<|ag (O.cL (.lit q) cZ (.lit q))<|ag (O.az (.lit q)) ?_;rcases cG aa with ⟨eP,aa⟩ | ⟨eP,aa⟩
    ·obtain rfl:=aw aa;exact au.aV
    ·obtain rfl:=aw aa;exact au.aV
  refine W.bz h q (λdZ h=>?_) (λdZ h=>?_)
  ·refine W.aT [6] ?_;refine W.rt ?_;refine ah.cP ?_;refine ah.cP ?_;obtain rfl:=aw h;exact cu (.f q q .nil)
  ·refine W.bE<|ah.aW ?_;obtain ⟨bJ,fL,h⟩:=ay h;obtain ⟨a_,fJ,h⟩:=ay h;refine W.bI [8] (ag (O.bd q (.obj q) ko q)<|ag (O.cw q (.ptr q) eN q)<|ag (O.qA (.lit q) (.k q) j6 fL)<|dV (ct.go (.bF (.lit q) .nil) (Pu bJ _ fJ) call120 q)<|ag (O.az (.r4 q q))<|ag (O.ex (y:=lX a_.1) q q q)<|ag (O.ex (y:=aY a_.2) q q q)<|au.aV) ?_;refine W.aT [6] ?_;refine W.rt ?_;refine ah.cP ?_;obtain rfl:=aw h;exact cu (.f q q .nil)
 ·refine W.bE<|ah.aW ?_;obtain ⟨lZ,aa,h⟩:=ay h;refine W.rs [(6,aY lZ)] ?_ ?_
  ·refine ag (O.bd q (.obj q) ko q)<|ag (O.cw q (.ptr q) eN q) ?_;obtain ⟨bA,gU,aa⟩:=ay aa;refine dV (ct.go (.bF (.lit q) .nil) (Co a0.Name _ gU) call111 q)<|ag (O.az (.lit q)) ?_;rcases cG aa with ⟨dX,aa⟩ | ⟨dX,aa⟩
   ·refine a1 dX (O.bd q (.obj q) tI q)<|a1 dX (O.cw q (.ptr q) cx q)<|a1 dX (O.eql (.lit q) (.k q))<|a1 dX (O.az (.lit q)) ?_;rcases cG aa with ⟨ev,aa⟩ | ⟨ev,aa⟩
    ·obtain rfl:=aw aa;exact cO ev<|cO ev<|hp<|hp<|hp<|cO ev<|cO ev<|hp<|hp<|hp<|cO ev<|a1 dX (O.eQ (.lit q) ev (.k q))<|au.aV
    ·refine a1 ev (O.az (.lit q))<|a1 ev (O.az (.lit q)) ?_;rcases cG aa with ⟨fx,aa⟩ | ⟨fx,aa⟩
     ·refine a1 fx (O.bd q (.obj q) tI q)<|a1 fx (O.cw q (.ptr q) cx q)<|a1 fx (O.geq (.lit q) (.k q))<|a1 ev (O.eQ (.lit q) fx (.lit q))<|a1 ev (O.az (.lit q)) ?_;rcases cG aa with ⟨ek,aa⟩ | ⟨ek,aa⟩
      ·obtain rfl:=aw aa;exact a1 ek (O.bd q (.obj q) tI q)<|a1 ek (O.cw q (.ptr q) cx q)<|a1 ek (O.leq (.lit q) (.k q))<|a1 ev (O.eQ (.lit q) ek (.lit q))<|a1 dX (O.cL (.lit q) ev (.lit q))<|au.aV
      ·obtain rfl:=aw aa;exact cO ek<|cO ek<|cO ek<|a1 ev (O.cL (.lit q) ek (.k q))<|a1 dX (O.cL (.lit q) ev (.lit q))<|au.aV
     ·obtain rfl:=aw aa;exact cO fx<|cO fx<|cO fx<|a1 ev (O.cL (.lit q) fx (.k q))<|a1 ev (O.az (.lit q))<|cO q<|cO q<|cO q<|a1 ev (O.cL (.lit q) q (.k q))<|a1 dX (O.cL (.lit q) ev (.lit q))<|au.aV
   ·obtain rfl:=aw aa;exact au.aV
  refine W.rt ?_;obtain rfl:=aw h;exact cu (.f q q .nil)
theorem Pr (a0:Decl) (r:Bool) (h:AF a0=some r):b6 Try.prog 110 [.agg (cq.cells a0)] [none] (aY r):=by
 unfold AF at h;refine b6.go (N:=⟨75,[]⟩) Try.func110 q q q q (W.fin ?_);refine W.st [(0,.agg (cq.cells a0))] ?_;refine W.bI [1] (ag (O.box (.b2 q q) q)<|au.aV) ?_;refine W.aX ?_;obtain ⟨tB,aa,h⟩:=ay h;refine W.rs [(1,.obj (cq.cells a0)),(54,aY tB)] ?_ ?_
 ·refine ag (O.bd q (.obj q) oB q)<|ag (O.cw q (.ptr q) cx q)<|ag (O.lss (.lit q) (.k q))<|ag (O.az (.lit q)) ?_;rcases cG aa with ⟨c3,aa⟩ | ⟨c3,aa⟩
  ·obtain rfl:=aw aa;exact au.aV
  ·refine a1 c3 (O.bd q (.obj q) oB q)<|a1 c3 (O.cw q (.ptr q) cx q)<|a1 c3 (O.gtr (.lit q) (.k q))<|ag (O.cL (.lit q) c3 (.lit q))<|ag (O.az (.lit q)) ?_;rcases cG aa with ⟨cZ,aa⟩ | ⟨cZ,aa⟩
   ·obtain rfl:=aw aa;exact au.aV
   ·refine a1 cZ (O.bd q (.obj q) oC q)<|a1 cZ (O.cK (y:=ai c6 a0.e0) q (.ptr q) p6 q q)<|a1 cZ (O.fY (.aD q) o0)<|a1 cZ (O.eql (.lit q) (.k q))<|ag (O.cL (.lit q) cZ (.lit q))<|ag (O.az (.lit q)) ?_;rcases cG aa with ⟨eP,aa⟩ | ⟨eP,aa⟩
    ·obtain rfl:=aw aa;exact au.aV
    ·refine a1 eP (O.bd q (.obj q) oB q)<|a1 eP (O.cw q (.ptr q) cx q)<|a1 eP (O.eql (.lit q) (.k q))<|a1 eP (O.az (.lit q)) ?_;rcases cG aa with ⟨dg,aa⟩ | ⟨dg,aa⟩
     ·refine a1 dg (O.bd q (.obj q) oC q)<|a1 dg (O.cK (y:=ai c6 a0.e0) q (.ptr q) p6 q q)<|a1 dg (O.fY (.aD q) o0)<|a1 dg (O.neq (.lit q) (.k q))<|a1 dg (O.az (.lit q)) ?_;rcases cG aa with ⟨dZ,aa⟩ | ⟨dZ,aa⟩
      ·obtain rfl:=aw aa;exact cO dZ<|cO dZ<|cO dZ<|a1 dg (O.eQ (.lit q) dZ (.k q))<|a1 eP (O.eQ (.lit q) dg (.lit q))<|au.aV
      ·refine a1 dZ (O.bd q (.obj q) nw q)<|a1 dZ (O.cw q (.ptr q) eN q)<|a1 dZ (O.ma (.lit q) (.k q))<|a1 dg (O.cL (.lit q) dZ (.lit q))<|a1 eP (O.eQ (.lit q) dg (.lit q))<|ag (O.cL (.lit q) eP (.lit q))<|ag (O.az (.lit q)) ?_;rcases cG aa with ⟨dO,aa⟩ | ⟨dO,aa⟩
       ·obtain rfl:=aw aa;exact au.aV
       ·refine a1 dO (O.bd q (.obj q) oB q)<|a1 dO (O.cw q (.ptr q) cx q)<|a1 dO (O.eql (.lit q) (.k q))<|a1 dO (O.az (.lit q)) ?_;rcases cG aa with ⟨c7,aa⟩ | ⟨c7,aa⟩
        ·refine a1 c7 (O.bd q (.obj q) nw q)<|a1 c7 (O.cw q (.ptr q) eN q)<|a1 c7 (O.oA (.lit q) (.k q))<|a1 dO (O.eQ (.lit q) c7 (.lit q))<|ag (O.cL (.lit q) dO (.lit q))<|ag (O.az (.lit q)) ?_;rcases cG aa with ⟨cW,aa⟩ | ⟨cW,aa⟩
         ·obtain rfl:=aw aa;exact au.aV
         ·obtain rfl:=aw aa;exact a1 cW (O.bd q (.obj q) nw q)<|a1 cW (O.cw q (.ptr q) eN q)<|a1 cW (O.ma (.lit q) (.k q))<|a1 cW (O.az (.lit q))<|cO dO<|cO dO<|cO dO<|cO dO<|a1 cW (O.cL (.lit q) dO (.k q))<|au.aV
        ·obtain rfl:=aw aa;exact cO c7<|cO c7<|cO c7<|a1 dO (O.cL (.lit q) c7 (.k q))<|ag (O.cL (.lit q) dO (.lit q))<|bq q<|a1 q (O.bd q (.obj q) nw q)<|a1 q (O.cw q (.ptr q) eN q)<|a1 q (O.ma (.lit q) (.k q))<|a1 q (O.az (.lit q))<|cO dO<|cO dO<|cO dO<|cO dO<|a1 q (O.cL (.lit q) dO (.k q))<|au.aV
     ·refine cO dg<|cO dg<|cO dg<|cO dg<|cO dg<|hp<|hp<|hp<|cO dg<|a1 eP (O.cL (.lit q) dg (.k q))<|ag (O.cL (.lit q) eP (.lit q))<|bq q<|a1 q (O.bd q (.obj q) oB q)<|a1 q (O.cw q (.ptr q) cx q)<|a1 q (O.eql (.lit q) (.k q))<|a1 q (O.az (.lit q)) ?_;rcases cG aa with ⟨dX,aa⟩ | ⟨dX,aa⟩
      ·refine a1 dX (O.bd q (.obj q) nw q)<|a1 dX (O.cw q (.ptr q) eN q)<|a1 dX (O.oA (.lit q) (.k q))<|a1 q (O.eQ (.lit q) dX (.lit q))<|ag (O.cL (.lit q) q (.lit q))<|ag (O.az (.lit q)) ?_;rcases cG aa with ⟨ev,aa⟩ | ⟨ev,aa⟩
       ·obtain rfl:=aw aa;exact au.aV
       ·refine a1 ev (O.bd q (.obj q) nw q)<|a1 ev (O.cw q (.ptr q) eN q)<|a1 ev (O.ma (.lit q) (.k q))<|a1 ev (O.az (.lit q)) ?_;rcases cG aa with ⟨fx,aa⟩ | ⟨fx,aa⟩
        ·refine a1 fx (O.bd q (.obj q) nw q)<|a1 fx (O.cw q (.ptr q) eN q) ?_;obtain ⟨cH,jT,aa⟩:=ay aa;obtain rfl:=aw aa;exact au.c (ct.go (.bF (.lit q) .nil) (Co a0.Tag _ jT) call111 q) q q (.jJ q q fx)<|a1 fx (O.not (.lit q))<|a1 ev (O.eQ (.lit q) fx (.lit q))<|au.aV
        ·obtain rfl:=aw aa;exact cO fx<|cO fx<|cO fx<|cO fx<|a1 ev (O.cL (.lit q) fx (.k q))<|au.aV
      ·refine cO dX<|cO dX<|cO dX<|a1 q (O.cL (.lit q) dX (.k q))<|ag (O.cL (.lit q) q (.lit q))<|bq q<|a1 q (O.bd q (.obj q) nw q)<|a1 q (O.cw q (.ptr q) eN q)<|a1 q (O.ma (.lit q) (.k q))<|a1 q (O.az (.lit q)) ?_;rcases cG aa with ⟨jg,aa⟩ | ⟨jg,aa⟩
       ·refine a1 jg (O.bd q (.obj q) nw q)<|a1 jg (O.cw q (.ptr q) eN q) ?_;obtain ⟨db,j1,aa⟩:=ay aa;obtain rfl:=aw aa;exact au.c (ct.go (.bF (.lit q) .nil) (Co a0.Tag _ j1) call111 q) q q (.jJ q q jg)<|a1 jg (O.not (.lit q))<|a1 q (O.eQ (.lit q) jg (.lit q))<|au.aV
       ·obtain rfl:=aw aa;exact cO jg<|cO jg<|cO jg<|cO jg<|a1 q (O.cL (.lit q) jg (.k q))<|au.aV
 refine W.bz h q (λiK h=>?_) (λiK h=>?_)
 ·refine W.aT [2] ?_;refine W.rt ?_;refine ah.cP ?_;obtain rfl:=aw h;exact cu (.f q q .nil)
 ·refine W.bE<|ah.aW ?_;refine W.aX<|W.aT [1,3] ?_;refine W.bl ?_;obtain ⟨eV,aq,h⟩:=ay h;refine W.cf (G1:=[(1,_),(3,_)]) (e_ q q) ?_;refine W.iM (s:=0) (λ(iO:Int)=>[(1,.obj (cq.cells a0)),(3,j iO)]) 0 (λ(fv:Unit)=>[]) (λ(ez:Bool)=>[(2,aY ez)]) aq (λiO o h=>?_) (λfv J=>?_) (λez J=>?_)
  ·clear aq;refine W.aX<|W.aT [1,3,59] ?_;refine W.bz h q (λiY h=>?_) (λiY h=>?_)
   ·refine W.bE<|ah.aW ?_;refine W.aX<|W.bl ?_;refine W.aX ?_;obtain ⟨gf,n4,h⟩:=ay h;obtain ⟨eW,nc,h⟩:=ay h;refine W.rd [[],[0],[],[0,1,2],[0,1,2,3],[],[5],[5,6],[],[8],[8,9],aM 0 11 [],aM 0 12 []] [(1,_),(3,_),(74,_)] d_ (by kernel_rfl) (ao 0 (O.bd q (.obj q) oC q)<|ao 1 (O.cK (y:=ai c6 a0.e0) q (.ptr q) p6 q q)<|ao 2 (O.az (.lit q))<|ao 3 (O.cv (.aD q) (.lit q) o0 n4)<|ao 4 (O.hX (cs':=[ab gf.Name,aY gf.Lit,j gf.cM,j gf.At]) (.bn q) j9 q q)<|ao 5 (O.bd q (.obj q) oB q)<|ao 6 (O.cw q (.ptr q) cx q)<|ao 7 (O.eql (.lit q) (.k q))<|ao 8 (O.bd q (.obj q) oB q)<|ao 9 (O.cw q (.ptr q) cx q)<|ao 10 (O.lss (.lit q) (.k q))<|gL 11 (ct.go (.bF (.b2 q q) (.bF (.lit q) (.bF (.lit q) .nil))) (E2 gf (decide (a0.Kind=1)) (decide (a0.Kind<5)) _ nc) call116 q)<|ao 12 (O.not (.lit q))<|bC.fin q q q (dj q q q)) ?_;refine ah.aW<|W.bz h q (λzD h=>?_) (λzD h=>?_)
    ·refine W.aT [2] ?_;refine W.rt ?_;refine ah.dP ?_;refine ah.cP ?_;obtain rfl:=aw h;exact ah.fR (.n q .nil)
    ·refine W.bE<|ah.bl ?_;refine ah.aW<|W.bo [1,3] (bq q<|ag (O.add (.lit q) (.k q))<|au.bo [1,61] q<|au.aV) ?_;obtain rfl:=aw h;exact ah.go (e_ q q)
   ·refine W.c9 ?_;refine ah.c8 ?_;obtain rfl:=aw h;exact ah.x2 .nil
  ·subst J;refine ah.c_ ?_;refine ah.aW<|W.aT [2] ?_;refine W.rt ?_;obtain rfl:=aw h;exact cu (.f q q .nil)
  ·subst J;refine ah.dP ?_;refine ah.cP ?_;obtain rfl:=aw h;exact cu (.f q q .nil)
theorem E3 (a0:Sym) (r:Bool) (h:v_ a0=some r):b6 Try.prog 118 [.agg (c6.cells a0)] [none] (aY r):=by
 unfold v_ at h;refine b6.go (N:=⟨16,[]⟩) Try.func118 q q q q (W.fin ?_);refine W.st [(0,.agg (c6.cells a0))] ?_;refine W.bI [1] (ag (O.box (.b2 q q) q)<|au.aV) ?_;obtain ⟨k1,aa,h⟩:=ay h;refine W.rs [(2,aY k1)] ?_ ?_
 ·refine ag (O.bd q (.obj q) ko q)<|ag (O.cw q (.ptr q) eN q)<|ag (O.oA (.lit q) (.k q))<|ag (O.az (.lit q)) ?_;rcases cG aa with ⟨c3,aa⟩ | ⟨c3,aa⟩
  ·refine a1 c3 (O.bd q (.obj q) tH q)<|a1 c3 (O.cw q (.ptr q) mX q)<|a1 c3 (O.not (.lit q))<|ag (O.eQ (.lit q) c3 (.lit q))<|ag (O.az (.lit q)) ?_;rcases cG aa with ⟨cZ,aa⟩ | ⟨cZ,aa⟩
   ·obtain rfl:=aw aa;exact au.aV
   ·obtain rfl:=aw aa;exact au.aV
  ·obtain rfl:=aw aa;exact au.aV
 refine W.rt ?_;obtain rfl:=aw h;exact cu (.f q q .nil)
theorem E4 (a0:ByteArray) (ar:Int) (a2:ByteArray) (r:Bool) (h:v' a0 ar a2=some r):b6 Try.prog 124 [ab a0,j ar,ab a2] [none,none,none] (aY r):=by
 unfold v' at h;refine b6.go (N:=⟨25,[]⟩) Try.func124 q q q q (W.fin ?_);refine W.st [(0,ab a0),(1,j ar),(2,ab a2)] ?_;refine W.aT [0,1,2] ?_;obtain ⟨k1,aa,h⟩:=ay h;refine W.rs [(6,aY k1)] ?_ ?_
 ·refine bq q<|ag (O.mK (.lit q) j6)<|bq q<|ag (O.sub (.lit q) (.lit q))<|bq q<|ag (O.mK (.lit q) j6)<|ag (O.geq (.lit q) (.lit q))<|ag (O.az (.lit q)) ?_;rcases cG aa with ⟨c3,aa⟩ | ⟨c3,aa⟩
  ·refine a1 c3 (O.az (.lit q))<|a1 c3 (O.az (.lit q))<|a1 c3 (O.az (.lit q))<|a1 c3 (O.az (.lit q))<|a1 c3 (O.mK (.lit q) j6)<|a1 c3 (O.add (.lit q) (.lit q)) ?_;obtain ⟨x2,gG,aa⟩:=ay aa;obtain rfl:=aw aa;exact a1 c3 (O.yt (.lit q) (.lit q) (.lit q) j6 gG)<|au.aV
  ·obtain rfl:=aw aa;exact au.aV
 refine W.rt ?_;obtain rfl:=aw h;exact cu (.f q q .nil)
theorem Px (a0:ByteArray) (ar:Int) (r:Int) (h:AL a0 ar=some r):b6 Try.prog 123 [ab a0,j ar] [none,none] (j r):=by
 unfold AL at h;refine b6.go (N:=⟨114,[]⟩) Try.func123 q q q q (W.fin ?_);refine W.st [(0,ab a0),(1,j ar)] ?_;refine W.aT [0,1] ?_;refine W.aX<|W.bl ?_;obtain ⟨c4,aa,h⟩:=ay h;refine W.rs [(0,ab a0),(1,j ar),(9,aY c4)] ?_ ?_
 ·refine bq q<|ag (O.az (.lit q)) ?_;obtain ⟨aE,ff,aa⟩:=ay aa;refine ag (O.qA (.lit q) (.lit q) j6 ff)<|ag (O.eql (.lit q) (.k q))<|ag (O.az (.lit q)) ?_;rcases cG aa with ⟨cZ,aa⟩ | ⟨cZ,aa⟩
  ·obtain rfl:=aw aa;exact au.aV
  ·refine a1 cZ (O.az (.lit q))<|a1 cZ (O.az (.lit q)) ?_;obtain ⟨a6,hK,aa⟩:=ay aa;obtain rfl:=aw aa;exact au.aV
 refine W.bz h q (λdZ h=>?_) (λdZ h=>?_)
 ·refine W.aX<|W.aT [0,1,5] ?_;refine W.bl ?_;obtain ⟨a_,aq,h⟩:=ay h;refine W.cf (G1:=[(0,_),(1,_),(5,_)]) (dj q q q) ?_;refine W.iM (s:=aL (ar+1)) (λ(cQ:Int)=>[(0,ab a0),(1,j ar),(5,j cQ)]) 1 (λ(bA:Unit)=>[]) (λ(cn:Int)=>[(4,j cn)]) aq (λcQ o h=>?_) (λbA J=>?_) (λcn J=>?_)
  ·clear aq;refine W.aX ?_;obtain ⟨u9,aa,h⟩:=ay h;refine W.rs [(0,ab a0),(1,j ar),(5,j cQ),(31,aY u9)] ?_ ?_
   ·refine bq q<|bq q<|ag (O.mK (.lit q) j6)<|ag (O.lss (.lit q) (.lit q))<|ag (O.az (.lit q)) ?_;rcases cG aa with ⟨ev,aa⟩ | ⟨ev,aa⟩
    ·refine a1 ev (O.az (.lit q))<|a1 ev (O.az (.lit q)) ?_;obtain ⟨bO,hn,aa⟩:=ay aa;obtain rfl:=aw aa;exact au.aV
    ·obtain rfl:=aw aa;exact au.aV
   refine W.bz h q (λjg h=>?_) (λjg h=>?_)
   ·refine W.bE<|ah.aW ?_;refine W.aX<|W.bl ?_;refine W.aX<|W.aX ?_;obtain ⟨db,j1,h⟩:=ay h;obtain ⟨cS,hU,h⟩:=ay h;refine W.rd [[],[],[0,1],[],[],[3,4],aM 0 6 []] [(0,_),(1,_),(5,_),(40,_)] d_ (by kernel_rfl) (ao 0 (O.az (.lit q))<|ao 1 (O.az (.lit q))<|ao 2 (O.qA (.lit q) (.lit q) j6 j1)<|ao 3 (O.az (.lit q))<|ao 4 (O.az (.lit q))<|ao 5 (O.qA (.lit q) (.lit q) j6 hU)<|ao 6 (O.eql (.lit q) (.lit q))<|bC.fin q q q (dQ q q q q)) ?_;refine ah.aW<|W.bz h q (λiK h=>?_) (λiK h=>?_)
    ·refine W.aT [4] ?_;refine W.rt ?_;refine ah.cP ?_;refine ah.dP ?_;refine ah.cP ?_;obtain rfl:=aw h;exact ah.fR (.n q .nil)
    ·refine W.bE<|ah.aW ?_;obtain ⟨b9,hV,h⟩:=ay h;refine W.aT [0,1,5,46] ?_;refine W.bz h q (λgB h=>?_) (λgB h=>?_)
     ·refine W.bI [0,1,5] (bq q<|ag (O.add (.lit q) (.k q))<|au.bo [0,1,48] q<|au.aV) ?_;obtain ⟨tC,aa,h⟩:=ay h;refine W.rs [(0,ab a0),(1,j ar),(5,j (aL (cQ+1))),(58,aY tC)] ?_ ?_
      ·refine bq q<|bq q<|ag (O.mK (.lit q) j6)<|ag (O.lss (.lit q) (.lit q))<|ag (O.az (.lit q)) ?_;rcases cG aa with ⟨h6,aa⟩ | ⟨h6,aa⟩
       ·refine a1 h6 (O.az (.lit q))<|a1 h6 (O.az (.lit q)) ?_;obtain ⟨ez,pC,aa⟩:=ay aa;obtain rfl:=aw aa;exact au.aV
       ·obtain rfl:=aw aa;exact au.aV
      refine W.bz h q (λjS h=>?_) (λjS h=>?_)
      ·refine W.aT [4] ?_;refine W.rt ?_;refine ah.dP ?_;refine ah.cP ?_;obtain rfl:=aw h;exact ah.fR (.n q .nil)
      ·refine W.bE<|ah.bl ?_;refine ah.aW<|W.bo [0,1,5] (bq q<|ag (O.add (.lit q) (.k q))<|au.bo [0,1,33] q<|au.aV) ?_;obtain rfl:=aw h;exact ah.go (dj q q q)
     ·refine W.bE<|ah.bl ?_;refine ah.aW<|W.bo [0,1,5] (bq q<|ag (O.add (.lit q) (.k q))<|au.bo [0,1,33] q<|au.aV) ?_;obtain rfl:=aw h;exact ah.go (dj q q q)
   ·refine W.c9 ?_;refine ah.c8 ?_;obtain rfl:=aw h;exact ah.x2 .nil
  ·subst J;refine ah.c_ ?_;refine ah.aW<|W.aT [4] ?_;refine W.rt ?_;refine ah.dP ?_;refine ah.cP ?_;obtain rfl:=aw h;exact cu (.f q q .nil)
  ·subst J;refine ah.dP ?_;refine ah.cP ?_;refine ah.dP ?_;refine ah.cP ?_;obtain rfl:=aw h;exact cu (.f q q .nil)
 ·obtain ⟨eW,nc,h⟩:=ay h;refine W.aT [0,1,59] ?_;refine W.bz h q (λzD h=>?_) (λzD h=>?_)
  ·refine W.aX<|W.aT [0,6] ?_;refine W.bl ?_;obtain ⟨gV,aq,h⟩:=ay h;refine W.cf (G1:=[(0,_),(6,_)]) (e_ q q) ?_;refine W.iM (s:=aL (ar+1)) (λ(gd:Int)=>[(0,ab a0),(6,j gd)]) 3 (λ(gS:Unit)=>[]) (λ(dc:Int)=>[(4,j dc)]) aq (λgd o h=>?_) (λgS J=>?_) (λdc J=>?_)
   ·clear aq;refine W.aX<|W.aT [0,6,69] ?_;refine W.bz h q (λtR h=>?_) (λtR h=>?_)
    ·refine W.bE<|ah.aW ?_;refine W.aX<|W.bl ?_;obtain ⟨h2,n5,h⟩:=ay h;refine W.aT [0,6,75] ?_;refine W.bz h q (λl4 h=>?_) (λl4 h=>?_)
     ·refine W.aT [4] ?_;refine W.rt ?_;refine ah.dP ?_;refine ah.cP ?_;obtain rfl:=aw h;exact ah.fR (.n q .nil)
     ·refine W.bE<|ah.bl ?_;refine ah.aW<|W.bo [0,6] (bq q<|ag (O.add (.lit q) (.k q))<|au.bo [0,71] q<|au.aV) ?_;obtain rfl:=aw h;exact ah.go (e_ q q)
    ·refine W.c9 ?_;refine ah.c8 ?_;obtain rfl:=aw h;exact ah.x2 .nil
   ·subst J;refine ah.c_ ?_;refine ah.aW<|W.aT [4] ?_;refine W.rt ?_;refine ah.dP ?_;refine ah.cP ?_;obtain rfl:=aw h;exact cu (.f q q .nil)
   ·subst J;refine ah.dP ?_;refine ah.cP ?_;refine ah.dP ?_;refine ah.cP ?_;obtain rfl:=aw h;exact cu (.f q q .nil)
  ·obtain ⟨dk,sY,h⟩:=ay h;refine W.bI [0,1,78] (bq q<|bq q<|dV (ct.go (.bF (.lit q) (.bF (.lit q) (.bF (.k q) .nil))) (E4 a0 ar ({ data:=#[47,47] }) _ sY) call124 q)<|au.aV) ?_;refine W.bz h q (λkI h=>?_) (λkI h=>?_)
   ·refine W.aT [0,7] ?_;refine W.aX<|W.bl ?_;obtain ⟨fC,aq,h⟩:=ay h;refine W.cf (G1:=[(0,_),(7,_)]) (e_ q q) ?_;refine W.eH (s:=ar) (λ(hx:Int)=>[(0,ab a0),(7,j hx)]) 5 (λ(fC:Int)=>[(7,j fC)]) aq (λhx o h=>?_) ?_
    ·clear aq;refine W.aX ?_;obtain ⟨u',aa,h⟩:=ay h;refine W.rs [(0,ab a0),(7,j hx),(92,aY u')] ?_ ?_
     ·refine bq q<|bq q<|ag (O.mK (.lit q) j6)<|ag (O.lss (.lit q) (.lit q))<|ag (O.az (.lit q)) ?_;rcases cG aa with ⟨rM,aa⟩ | ⟨rM,aa⟩
      ·refine a1 rM (O.az (.lit q))<|a1 rM (O.az (.lit q)) ?_;obtain ⟨dm,xP,aa⟩:=ay aa;obtain rfl:=aw aa;exact au.aV
      ·obtain rfl:=aw aa;exact au.aV
     refine W.bz h q (λF2 h=>?_) (λF2 h=>?_)
     ·refine W.bE<|ah.aW ?_;refine W.bl<|W.bo [0,7] (bq q<|ag (O.add (.lit q) (.k q))<|au.bo [0,94] q<|au.aV) ?_;refine ah.bl ?_;obtain rfl:=aw h;exact ah.go (e_ q q)
     ·refine W.c9 ?_;refine ah.c8 ?_;obtain rfl:=aw h;exact ah.aE (.n q .nil)
    refine ah.c_ ?_;refine ah.aW<|W.aT [4] ?_;refine W.rt ?_;refine ah.dP ?_;refine ah.cP ?_;obtain rfl:=aw h;exact cu (.f q q .nil)
   ·obtain ⟨yz,GV,h⟩:=ay h;refine W.bI [0,1,96] (bq q<|bq q<|dV (ct.go (.bF (.lit q) (.bF (.lit q) (.bF (.k q) .nil))) (E4 a0 ar ({ data:=#[47,42] }) _ GV) call124 q)<|au.aV) ?_;refine W.bz h q (λR9 h=>?_) (λR9 h=>?_)
    ·refine W.aX<|W.aT [0,8] ?_;refine W.bl ?_;obtain ⟨th,aq,h⟩:=ay h;refine W.cf (G1:=[(0,_),(8,_)]) (e_ q q) ?_;refine W.iM (s:=aL (ar+2)) (λ(uL:Int)=>[(0,ab a0),(8,j uL)]) 7 (λ(ku:Unit)=>[]) (λ(o4:Int)=>[(4,j o4)]) aq (λuL o h=>?_) (λku J=>?_) (λo4 J=>?_)
     ·clear aq;refine W.aX<|W.aT [0,8,105] ?_;refine W.bz h q (λSb h=>?_) (λSb h=>?_)
      ·refine W.bE<|ah.aW ?_;refine W.aX<|W.bl ?_;obtain ⟨BC,L6,h⟩:=ay h;refine W.bI [0,8,110] (bq q<|bq q<|dV (ct.go (.bF (.lit q) (.bF (.lit q) (.bF (.k q) .nil))) (E4 a0 uL ({ data:=#[42,47] }) _ L6) call124 q)<|bR q) ?_;refine W.bz h q (λF3 h=>?_) (λF3 h=>?_)
       ·refine W.aT [4] ?_;refine W.rt ?_;refine ah.dP ?_;refine ah.cP ?_;obtain rfl:=aw h;exact ah.fR (.n q .nil)
       ·refine W.bE<|ah.bl ?_;refine ah.aW<|W.bo [0,8] (bq q<|ag (O.add (.lit q) (.k q))<|au.bo [0,107] q<|au.aV) ?_;obtain rfl:=aw h;exact ah.go (e_ q q)
      ·refine W.c9 ?_;refine ah.c8 ?_;obtain rfl:=aw h;exact ah.x2 .nil
     ·subst J;refine ah.c_ ?_;refine ah.aW<|W.aT [4] ?_;refine W.rt ?_;refine ah.dP ?_;refine ah.cP ?_;obtain rfl:=aw h;exact cu (.f q q .nil)
     ·subst J;refine ah.dP ?_;refine ah.cP ?_;refine ah.dP ?_;refine ah.cP ?_;obtain rfl:=aw h;exact cu (.f q q .nil)
    ·refine W.bE<|ah.bl ?_;refine ah.aW<|W.aT [4] ?_;refine W.rt ?_;obtain rfl:=aw h;exact cu (.f q q .nil)
theorem J1 (a0:ByteArray) (ar:Int) (r:Int) (h:yb a0 ar=some r):b6 Try.prog 119 [ab a0,j ar] [none,none] (j r):=by
 unfold yb at h;refine b6.go (N:=⟨53,[]⟩) Try.func119 q q q q (W.fin ?_);refine W.st [(0,ab a0),(1,j ar)] ?_;refine W.aT [0,1] ?_;refine W.aX ?_;obtain ⟨c4,aa,h⟩:=ay h;refine W.rs [(0,ab a0),(1,j ar),(21,aY c4)] ?_ ?_
 ·refine bq q<|ag (O.lss (.lit q) (.k q))<|ag (O.az (.lit q)) ?_;rcases cG aa with ⟨c3,aa⟩ | ⟨c3,aa⟩
  ·obtain rfl:=aw aa;exact au.aV
  ·refine a1 c3 (O.az (.lit q))<|a1 c3 (O.az (.lit q))<|a1 c3 (O.mK (.lit q) j6)<|a1 c3 (O.geq (.lit q) (.lit q))<|ag (O.cL (.lit q) c3 (.lit q))<|ag (O.az (.lit q)) ?_;rcases cG aa with ⟨cZ,aa⟩ | ⟨cZ,aa⟩
   ·obtain rfl:=aw aa;exact au.aV
   ·refine a1 cZ (O.az (.lit q))<|a1 cZ (O.az (.lit q)) ?_;obtain ⟨a6,hK,aa⟩:=ay aa;obtain rfl:=aw aa;exact au.aV
 refine W.bz h q (λdZ h=>?_) (λdZ h=>?_)
 ·refine W.aT [4] ?_;refine W.rt ?_;refine ah.cP ?_;obtain rfl:=aw h;exact cu (.f q q .nil)
 ·refine W.bE<|ah.aW ?_;refine W.aT [0,1,5] ?_;refine W.aX<|W.aT [0,5,6] ?_;refine W.bl ?_;obtain ⟨a_,aq,h⟩:=ay h;refine W.cf (G1:=[(0,_),(5,_),(6,_)]) (dj q q q) ?_;refine W.iM (s:=(0,ar)) (λ(cQ:Int × Int)=>[(0,ab a0),(5,j cQ.1),(6,j cQ.2)]) 0 (λ(bA:Unit)=>[]) (λ(cn:Int)=>[(4,j cn)]) aq (λcQ o h=>?_) (λbA J=>?_) (λcn J=>?_)
  ·clear aq;refine W.aX<|W.aT [0,5,6,26] ?_;refine W.bz h q (λev h=>?_) (λev h=>?_)
   ·refine W.bE<|ah.aW ?_;refine W.bl ?_;obtain ⟨bO,hn,h⟩:=ay h;refine W.bI [0,5,6,7] (bq q<|bq q<|dV (ct.go (.bF (.lit q) (.bF (.lit q) .nil)) (Px a0 cQ.2 _ hn) call123 q)<|au.aV) ?_;refine W.aX<|W.aT [0,5,6,7,31] ?_;refine W.bz h q (λek h=>?_) (λek h=>?_)
    ·refine W.aT [4] ?_;refine W.rt ?_;refine ah.cP ?_;refine ah.dP ?_;obtain rfl:=aw h;exact ah.fR (.n q .nil)
    ·refine W.bE<|ah.aW ?_;refine W.aX<|W.aT [0,5,6,7,34] ?_;refine W.bz h q (λjg h=>?_) (λjg h=>?_)
     ·refine W.bI [0,5,6] (bq q<|au.bo [0,5,35] q<|au.aV) ?_;refine W.c9 ?_;refine ah.c8 ?_;refine ah.c_ ?_;obtain rfl:=aw h;exact ah.go (dj q q q)
     ·refine W.bE<|ah.aW ?_;refine W.aX ?_;obtain ⟨db,j1,h⟩:=ay h;refine W.aT [0,5,6,39] ?_;obtain ⟨qf,aa,h⟩:=ay h;refine W.bL [(0,ab a0),(5,j qf),(6,j cQ.2)] ?_ ?_
      ·clear h; have h:=aa; clear aa;refine W.bz h q (λiK h=>?_) (λiK h=>?_)
       ·refine W.bo [0,5,6] (bq q<|ag (O.add (.lit q) (.k q))<|au.bo [0,6,41] q<|au.aV) ?_;obtain rfl:=aw h;exact ah.bL (dj q q q)
       ·refine W.bE ?_;obtain rfl:=aw h;exact ah.bL (dj q q q)
      refine ah.aW<|W.aX ?_;obtain ⟨b9,hV,h⟩:=ay h;refine W.aT [0,5,6,45] ?_;obtain ⟨Dp,aa,h⟩:=ay h;refine W.bL [(0,ab a0),(5,j Dp),(6,j cQ.2)] ?_ ?_
      ·clear h; have h:=aa; clear aa;refine W.bz h q (λh6 h=>?_) (λh6 h=>?_)
       ·refine W.bo [0,5,6] (bq q<|ag (O.sub (.lit q) (.k q))<|au.bo [0,6,47] q<|au.aV) ?_;obtain rfl:=aw h;exact ah.bL (dj q q q)
       ·refine W.bE ?_;obtain rfl:=aw h;exact ah.bL (dj q q q)
      refine ah.aW<|W.bI [0,5,6] (bq q<|ag (O.add (.lit q) (.k q))<|au.bo [0,5,49] q<|au.aV) ?_;refine W.aT [0,5,6,51] ?_;refine W.bz h q (λgn h=>?_) (λgn h=>?_)
      ·refine W.aT [4] ?_;refine W.rt ?_;refine ah.dP ?_;obtain rfl:=aw h;exact ah.fR (.n q .nil)
      ·refine W.bE<|ah.bl ?_;obtain rfl:=aw h;exact ah.go (dj q q q)
   ·refine W.c9 ?_;refine ah.c8 ?_;obtain rfl:=aw h;exact ah.x2 .nil
  ·subst J;refine ah.c_ ?_;refine ah.aW<|W.aT [4] ?_;refine W.rt ?_;obtain rfl:=aw h;exact cu (.f q q .nil)
  ·subst J;refine ah.dP ?_;refine ah.cP ?_;obtain rfl:=aw h;exact cu (.f q q .nil)
theorem Ps (a0:Alt) (r:Bool) (h:AG a0=some r):b6 Try.prog 112 [.agg (dq.cells a0)] [none] (aY r):=by
 unfold AG at h;refine b6.go (N:=⟨54,[]⟩) Try.func112 q q q q (W.fin ?_);refine W.st [(0,.agg (dq.cells a0))] ?_;refine W.bI [1] (ag (O.box (.b2 q q) q)<|au.aV) ?_;refine W.aX<|W.aT [1,3] ?_;refine W.bl ?_;obtain ⟨x2,aq,h⟩:=ay h;refine W.cf (G1:=[(1,_),(3,_)]) (e_ q q) ?_;refine W.iM (s:=0) (λ(s1:Int)=>[(1,.obj (dq.cells a0)),(3,j s1)]) 0 (λ(a6:Unit)=>[(1,.obj (dq.cells a0))]) (λ(bQ:Bool)=>[(2,aY bQ)]) aq (λs1 o h=>?_) (λa6 J=>?_) (λbQ J=>?_)
 ·clear aq;refine W.aX<|W.aT [1,3,9] ?_;refine W.bz h q (λdZ h=>?_) (λdZ h=>?_)
  ·refine W.bE<|ah.aW ?_;refine W.aX<|W.bl ?_;obtain ⟨bJ,fL,h⟩:=ay h;refine W.bI [1,3,4] (ag (O.bd q (.obj q) pr q)<|ag (O.cK (y:=ai er a0.ia) q (.ptr q) sr q q)<|bq q<|ag (O.cv (.aD q) (.lit q) qp fL)<|ag (O.hX (cs':=[ab bJ.Sym.Name,aY bJ.Sym.Lit,j bJ.Sym.cM,j bJ.Sym.At,ab bJ.Code,j bJ.At]) (.bn q) yR q q)<|ag (O.e6 (cs:=[ab aB,aY false,j 0,j 0,ab aB,j 0]) qt q q)<|au.dx (G2:=[(1,_),(3,_),(4,_)]) (cs2:=[ab bJ.Sym.Name,aY bJ.Sym.Lit,j bJ.Sym.cM,j bJ.Sym.At,ab bJ.Code,j bJ.At]) q (.obj q) (.b2 q q) q D7 q q q q (.n q q (.n q q (.b q .nil)))<|bR q) ?_;refine W.aX ?_;obtain ⟨nU,aa,h⟩:=ay h;refine W.rd [[],[0],[0,1],[0,1,2],[0,1,2,3],aM 0 5 [],aM 0 6 [],aM 0 7 [],aM 0 8 [],aM 0 9 [],aM 0 10 [],aM 0 11 [],aM 0 12 [],aM 0 13 [],aM 0 14 [],aM 0 15 [],aM 0 16 [],aM 0 17 [],aM 0 18 [],aM 0 19 [],aM 0 20 [],aM 0 21 [],aM 0 19 [],aM 0 19 [22],aM 0 19 [22,23],aM 0 25 [],aM 0 26 [],aM 0 27 [],aM 0 28 []] [(1,.obj (dq.cells a0)),(3,j s1),(45,aY nU)] d_ (by kernel_rfl) ?_ ?_
   ·refine ao 0 (O.bd q (.obj q) qG q)<|ao 1 (O.cw q (.ptr q) eN q)<|ao 2 (O.oA (.lit q) (.k q))<|ao 3 (O.az (.lit q)) ?_;rcases cG aa with ⟨c7,aa⟩ | ⟨c7,aa⟩
    ·refine bV 4 c7 (O.bd q (.obj q) xr q)<|bV 5 c7 (O.dJ (cs':=[ab bJ.Sym.Name,aY bJ.Sym.Lit,j bJ.Sym.cM,j bJ.Sym.At]) q (.ptr q) j9 q q) ?_;obtain ⟨bA,gU,aa⟩:=ay aa;refine bC.c 6 (ct.go (.bF (.b2 q q) (.bF (.k q) (.bF (.k q) .nil))) (E2 bJ.Sym false true _ gU) call116 q) q q q q (.jJ q q c7)<|bV 7 c7 (O.not (.lit q))<|ao 8 (O.eQ (.lit q) c7 (.lit q))<|ao 9 (O.az (.lit q)) ?_;rcases cG aa with ⟨dX,aa⟩ | ⟨dX,aa⟩
     ·obtain rfl:=aw aa;exact aN 10 dX<|aN 11 dX<|aN 12 dX<|aN 13 dX<|fG 14<|fG 15<|fG 16<|fG 17<|fG 18<|fG 19<|fG 20<|fG 21<|fG 22<|fG 23<|fG 24<|fG 25<|fG 26<|aN 27 dX<|ao 28 (O.eQ (.lit q) dX (.k q))<|bC.fin q q q (dj q q q)
     ·refine bV 10 dX (O.bd q (.obj q) qG q)<|bV 11 dX (O.cw q (.ptr q) eN q)<|bV 12 dX (O.ma (.lit q) (.k q))<|bV 13 dX (O.az (.lit q)) ?_;rcases cG aa with ⟨ev,aa⟩ | ⟨ev,aa⟩
      ·refine bV 14 ev (O.bd q (.obj q) xr q)<|bV 15 ev (O.dJ (cs':=[ab bJ.Sym.Name,aY bJ.Sym.Lit,j bJ.Sym.cM,j bJ.Sym.At]) q (.ptr q) j9 q q) ?_;obtain ⟨bO,hn,aa⟩:=ay aa;refine bC.c 16 (ct.go (.bF (.b2 q q) .nil) (E3 bJ.Sym _ hn) call118 q) q q q q (.jJ q q ev)<|bV 17 ev (O.not (.lit q))<|bV 18 ev (O.az (.lit q)) ?_;rcases cG aa with ⟨ek,aa⟩ | ⟨ek,aa⟩
       ·obtain rfl:=aw aa;exact aN 19 ek<|aN 20 ek<|aN 21 ek<|aN 22 ek<|aN 23 ek<|aN 24 ek<|aN 25 ek<|bV 26 ev (O.eQ (.lit q) ek (.k q))<|bV 27 dX (O.eQ (.lit q) ev (.lit q))<|ao 28 (O.cL (.lit q) dX (.lit q))<|bC.fin q q q (dj q q q)
       ·refine bV 19 ek (O.bd q (.obj q) qG q)<|bV 20 ek (O.cw q (.ptr q) eN q) ?_;obtain ⟨dL,jl,aa⟩:=ay aa;obtain rfl:=aw aa;exact bC.c 21 (ct.go (.bF (.lit q) (.bF (.k q) .nil)) (J1 bJ.Code 0 _ jl) call119 q) q q q q (.jJ q q ek)<|bV 22 ek (O.bd q (.obj q) qG q)<|bV 23 ek (O.cw q (.ptr q) eN q)<|bV 24 ek (O.mK (.lit q) j6)<|bV 25 ek (O.neq (.lit q) (.lit q))<|bV 26 ev (O.cL (.lit q) ek (.lit q))<|bV 27 dX (O.eQ (.lit q) ev (.lit q))<|ao 28 (O.cL (.lit q) dX (.lit q))<|bC.fin q q q (dj q q q)
      ·obtain rfl:=aw aa;exact aN 14 ev<|aN 15 ev<|aN 16 ev<|aN 17 ev<|aN 18 ev<|fG 19<|fG 20<|fG 21<|fG 22<|fG 23<|fG 24<|fG 25<|aN 26 ev<|bV 27 dX (O.cL (.lit q) ev (.k q))<|ao 28 (O.cL (.lit q) dX (.lit q))<|bC.fin q q q (dj q q q)
    ·refine aN 4 c7<|aN 5 c7<|aN 6 c7<|aN 7 c7<|ao 8 (O.cL (.lit q) c7 (.k q))<|ao 9 (O.az (.lit q))<|bV 10 q (O.bd q (.obj q) qG q)<|bV 11 q (O.cw q (.ptr q) eN q)<|bV 12 q (O.ma (.lit q) (.k q))<|bV 13 q (O.az (.lit q)) ?_;rcases cG aa with ⟨eK,aa⟩ | ⟨eK,aa⟩
     ·refine bV 14 eK (O.bd q (.obj q) xr q)<|bV 15 eK (O.dJ (cs':=[ab bJ.Sym.Name,aY bJ.Sym.Lit,j bJ.Sym.cM,j bJ.Sym.At]) q (.ptr q) j9 q q) ?_;obtain ⟨cS,hU,aa⟩:=ay aa;refine bC.c 16 (ct.go (.bF (.b2 q q) .nil) (E3 bJ.Sym _ hU) call118 q) q q q q (.jJ q q eK)<|bV 17 eK (O.not (.lit q))<|bV 18 eK (O.az (.lit q)) ?_;rcases cG aa with ⟨iK,aa⟩ | ⟨iK,aa⟩
      ·obtain rfl:=aw aa;exact aN 19 iK<|aN 20 iK<|aN 21 iK<|aN 22 iK<|aN 23 iK<|aN 24 iK<|aN 25 iK<|bV 26 eK (O.eQ (.lit q) iK (.k q))<|bV 27 q (O.eQ (.lit q) eK (.lit q))<|ao 28 (O.cL (.lit q) q (.lit q))<|bC.fin q q q (dj q q q)
      ·refine bV 19 iK (O.bd q (.obj q) qG q)<|bV 20 iK (O.cw q (.ptr q) eN q) ?_;obtain ⟨b9,hV,aa⟩:=ay aa;obtain rfl:=aw aa;exact bC.c 21 (ct.go (.bF (.lit q) (.bF (.k q) .nil)) (J1 bJ.Code 0 _ hV) call119 q) q q q q (.jJ q q iK)<|bV 22 iK (O.bd q (.obj q) qG q)<|bV 23 iK (O.cw q (.ptr q) eN q)<|bV 24 iK (O.mK (.lit q) j6)<|bV 25 iK (O.neq (.lit q) (.lit q))<|bV 26 eK (O.cL (.lit q) iK (.lit q))<|bV 27 q (O.eQ (.lit q) eK (.lit q))<|ao 28 (O.cL (.lit q) q (.lit q))<|bC.fin q q q (dj q q q)
     ·obtain rfl:=aw aa;exact aN 14 eK<|aN 15 eK<|aN 16 eK<|aN 17 eK<|aN 18 eK<|fG 19<|fG 20<|fG 21<|fG 22<|fG 23<|fG 24<|fG 25<|aN 26 eK<|bV 27 q (O.cL (.lit q) eK (.k q))<|ao 28 (O.cL (.lit q) q (.lit q))<|bC.fin q q q (dj q q q)
   refine ah.aW<|W.bz h q (λh6 h=>?_) (λh6 h=>?_)
   ·refine W.aT [2] ?_;refine W.rt ?_;refine ah.dP ?_;refine ah.cP ?_;obtain rfl:=aw h;exact ah.fR (.n q .nil)
   ·refine W.bE<|ah.bl ?_;refine ah.aW<|W.bo [1,3] (bq q<|ag (O.add (.lit q) (.k q))<|au.bo [1,11] q<|au.aV) ?_;obtain rfl:=aw h;exact ah.go (e_ q q)
  ·refine W.c9 ?_;refine ah.c8 ?_;obtain rfl:=aw h;exact ah.x2 (.n q .nil)
 ·subst J;refine ah.c_ ?_;refine ah.aW ?_;obtain ⟨Ch,aa,h⟩:=ay h;refine W.rs [(2,aY Ch)] ?_ ?_
  ·refine ag (O.bd q (.obj q) sz q)<|ag (O.dJ (cs':=[ab a0.Prec.Name,aY a0.Prec.Lit,j a0.Prec.cM,j a0.Prec.At]) q (.ptr q) j9 q q) ?_;obtain ⟨ez,pC,aa⟩:=ay aa;refine dV (ct.go (.bF (.b2 q q) .nil) (E3 a0.Prec _ pC) call118 q)<|ag (O.az (.lit q)) ?_;rcases cG aa with ⟨iY,aa⟩ | ⟨iY,aa⟩
   ·obtain rfl:=aw aa;exact au.aV
   ·refine a1 iY (O.bd q (.obj q) sz q)<|a1 iY (O.dJ (cs':=[ab a0.Prec.Name,aY a0.Prec.Lit,j a0.Prec.cM,j a0.Prec.At]) q (.ptr q) j9 q q) ?_;obtain ⟨gf,n4,aa⟩:=ay aa;obtain rfl:=aw aa;exact au.c (ct.go (.bF (.b2 q q) (.bF (.k q) (.bF (.k q) .nil))) (E2 a0.Prec false true _ n4) call116 q) q q (.jJ q q iY)<|au.aV
  refine W.rt ?_;obtain rfl:=aw h;exact cu (.f q q .nil)
 ·subst J;refine ah.dP ?_;refine ah.cP ?_;obtain rfl:=aw h;exact cu (.f q q .nil)
theorem Qd (a0:Source) (r:Bool) (h:Bg a0=some r):b6 Try.prog 92 [.agg (da.cells a0)] [none] (aY r):=by
 unfold Bg at h;refine b6.go (N:=⟨77,[]⟩) Try.func92 q q q q (W.fin ?_);refine W.st [(0,.agg (da.cells a0))] ?_;refine W.bI [1] (ag (O.box (.b2 q q) q)<|au.aV) ?_;refine W.aX<|W.aT [1,3] ?_;refine W.bl ?_;obtain ⟨x2,aq,h⟩:=ay h;refine W.cf (G1:=[(1,_),(3,_)]) (e_ q q) ?_;refine W.iM (s:=0) (λ(s1:Int)=>[(1,.obj (da.cells a0)),(3,j s1)]) 0 (λ(a6:Unit)=>[(1,.obj (da.cells a0))]) (λ(bQ:Bool)=>[(2,aY bQ)]) aq (λs1 o h=>?_) (λa6 J=>?_) (λbQ J=>?_)
 ·clear aq;refine W.aX<|W.aT [1,3,13] ?_;refine W.bz h q (λdZ h=>?_) (λdZ h=>?_)
  ·refine W.bE<|ah.aW ?_;refine W.aX<|W.bl ?_;obtain ⟨bJ,fL,h⟩:=ay h;refine W.bI [1,3,22] (ag (O.bd q (.obj q) CC q)<|ag (O.cw q (.ptr q) eN q)<|bq q<|bq q<|ag (O.add (.lit q) (.k q))<|ag (O.yt (.lit q) (.lit q) (.lit q) j6 fL)<|au.aV) ?_;refine W.bz h q (λc7 h=>?_) (λc7 h=>?_)
   ·refine W.aT [2] ?_;refine W.rt ?_;refine ah.dP ?_;refine ah.cP ?_;obtain rfl:=aw h;exact ah.fR (.n q .nil)
   ·refine W.bE<|ah.bl ?_;refine ah.aW<|W.bo [1,3] (bq q<|ag (O.add (.lit q) (.k q))<|au.bo [1,15] q<|au.aV) ?_;obtain rfl:=aw h;exact ah.go (e_ q q)
  ·refine W.c9 ?_;refine ah.c8 ?_;obtain rfl:=aw h;exact ah.x2 (.n q .nil)
 ·subst J;refine ah.c_ ?_;refine ah.aW<|W.aX ?_;refine W.aT [1,4] ?_;refine W.bl ?_;obtain ⟨cn,aq,h⟩:=ay h;refine W.cf (G1:=[(1,_),(4,_)]) (e_ q q) ?_;refine W.iM (s:=0) (λ(cT:Int)=>[(1,.obj (da.cells a0)),(4,j cT)]) 2 (λ(bS:Unit)=>[(1,.obj (da.cells a0))]) (λ(bO:Bool)=>[(2,aY bO)]) aq (λcT o h=>?_) (λbS J=>?_) (λbO J=>?_)
  ·clear aq;refine W.aX<|W.aT [1,4,27] ?_;refine W.bz h q (λek h=>?_) (λek h=>?_)
   ·refine W.bE<|ah.aW ?_;refine W.aX<|W.bl ?_;obtain ⟨dL,jl,h⟩:=ay h;obtain ⟨db,j1,h⟩:=ay h;refine W.bI [1,4,36] (ag (O.bd q (.obj q) ny q)<|ag (O.cK (y:=ai cq a0.Decls) q (.ptr q) pj q q)<|bq q<|ag (O.cv (.aD q) (.lit q) nK jl)<|ag (O.hX (cs':=[j dL.Kind,ab dL.Tag,ai c6 dL.e0,j dL.At]) (.bn q) B_ q q)<|dV (ct.go (.bF (.b2 q q) .nil) (Pr dL _ j1) call110 q)<|au.aV) ?_;refine W.bz h q (λqM h=>?_) (λqM h=>?_)
    ·refine W.aT [2] ?_;refine W.rt ?_;refine ah.dP ?_;refine ah.cP ?_;obtain rfl:=aw h;exact ah.fR (.n q .nil)
    ·refine W.bE<|ah.bl ?_;refine ah.aW<|W.bo [1,4] (bq q<|ag (O.add (.lit q) (.k q))<|au.bo [1,29] q<|au.aV) ?_;obtain rfl:=aw h;exact ah.go (e_ q q)
   ·refine W.c9 ?_;refine ah.c8 ?_;obtain rfl:=aw h;exact ah.x2 (.n q .nil)
  ·subst J;refine ah.c_ ?_;refine ah.aW<|W.aX ?_;refine W.aT [1,5] ?_;refine W.bl ?_;obtain ⟨b9,aq,h⟩:=ay h;refine W.cf (G1:=[(1,_),(5,_)]) (e_ q q) ?_;refine W.iM (s:=0) (λ(mc:Int)=>[(1,.obj (da.cells a0)),(5,j mc)]) 4 (λ(eV:Unit)=>[(1,.obj (da.cells a0))]) (λ(fv:Bool)=>[(2,aY fv)]) aq (λmc o h=>?_) (λeV J=>?_) (λfv J=>?_)
   ·clear aq;refine W.aX<|W.aT [1,5,41] ?_;refine W.bz h q (λgn h=>?_) (λgn h=>?_)
    ·refine W.bE<|ah.aW ?_;refine W.aX<|W.bl ?_;obtain ⟨dt,mF,h⟩:=ay h;refine W.bI [1,5,6] (ag (O.bd q (.obj q) kn q)<|ag (O.cK (y:=ai ei a0.dw) q (.ptr q) ll q q)<|bq q<|ag (O.cv (.aD q) (.lit q) lb mF)<|ag (O.hX (cs':=[ab dt.Left,ai dq dt.eY,j dt.At]) (.bn q) Ca q q)<|ag (O.e6 (cs:=[ab aB,.aF,j 0]) wE q q)<|au.dx (G2:=[(1,_),(5,_),(6,_)]) (cs2:=[ab dt.Left,ai dq dt.eY,j dt.At]) q (.obj q) (.b2 q q) q D_ q q q q (.n q q (.n q q (.b q .nil)))<|bR q) ?_;refine W.aX ?_;obtain ⟨xd,aa,h⟩:=ay h;refine W.rs [(1,.obj (da.cells a0)),(5,j mc),(6,.obj (ei.cells dt)),(58,aY xd)] ?_ ?_
     ·refine ag (O.bd q (.obj q) sA q)<|ag (O.cw q (.ptr q) eN q) ?_;obtain ⟨gf,n4,aa⟩:=ay aa;refine dV (ct.go (.bF (.lit q) .nil) (Co dt.Left _ n4) call111 q)<|ag (O.not (.lit q))<|ag (O.az (.lit q)) ?_;rcases cG aa with ⟨h7,aa⟩ | ⟨h7,aa⟩
      ·obtain rfl:=aw aa;exact au.aV
      ·obtain rfl:=aw aa;exact au.aV
     refine W.bz h q (λjh h=>?_) (λjh h=>?_)
     ·refine W.aT [2] ?_;refine W.rt ?_;refine ah.cP ?_;refine ah.dP ?_;refine ah.cP ?_;obtain rfl:=aw h;exact ah.fR (.n q .nil)
     ·refine W.bE<|ah.aW ?_;refine W.aT [1,5,6,7] ?_;refine W.bl ?_;obtain ⟨gS,aq,h⟩:=ay h;refine W.cf (G1:=[(1,_),(5,_),(6,_),(7,_)]) (dQ q q q q) ?_;refine W.iM (s:=0) (λ(yr:Int)=>[(1,.obj (da.cells a0)),(5,j mc),(6,.obj (ei.cells dt)),(7,j yr)]) 6 (λ(dc:Unit)=>[(1,.obj (da.cells a0)),(5,j mc)]) (λ(eX:Bool)=>[(2,aY eX)]) aq (λyr o h=>?_) (λdc J=>?_) (λeX J=>?_)
      ·clear aq;refine W.aX<|W.aT [1,5,6,7,63] ?_;refine W.bz h q (λzE h=>?_) (λzE h=>?_)
       ·refine W.bE<|ah.aW ?_;refine W.aX<|W.bl ?_;obtain ⟨jb,nf,h⟩:=ay h;obtain ⟨dk,sY,h⟩:=ay h;refine W.bI [1,5,6,7,72] (ag (O.bd q (.obj q) m' q)<|ag (O.cK (y:=ai dq dt.eY) q (.ptr q) po q q)<|bq q<|ag (O.cv (.aD q) (.lit q) oZ nf)<|ag (O.hX (cs':=[ai er jb.ia,ab jb.Prec.Name,aY jb.Prec.Lit,j jb.Prec.cM,j jb.Prec.At,j jb.At]) (.bn q) B' q q)<|dV (ct.go (.bF (.b2 q q) .nil) (Ps jb _ sY) call112 q)<|au.aV) ?_;refine W.bz h q (λkI h=>?_) (λkI h=>?_)
        ·refine W.aT [2] ?_;refine W.rt ?_;refine ah.dP ?_;refine ah.cP ?_;obtain rfl:=aw h;exact ah.fR (.n q .nil)
        ·refine W.bE<|ah.bl ?_;refine ah.aW<|W.bo [1,5,6,7] (bq q<|ag (O.add (.lit q) (.k q))<|au.bo [1,5,6,65] q<|au.aV) ?_;obtain rfl:=aw h;exact ah.go (dQ q q q q)
       ·refine W.c9 ?_;refine ah.c8 ?_;obtain rfl:=aw h;exact ah.x2 (e_ q q)
      ·subst J;refine ah.c_ ?_;refine ah.bl ?_;refine ah.aW<|W.bo [1,5] (bq q<|ag (O.add (.lit q) (.k q))<|au.bo [1,43] q<|au.aV) ?_;obtain rfl:=aw h;exact ah.go (e_ q q)
      ·subst J;refine ah.dP ?_;refine ah.dP ?_;refine ah.cP ?_;obtain rfl:=aw h;exact ah.fR (.n q .nil)
    ·refine W.c9 ?_;refine ah.c8 ?_;obtain rfl:=aw h;exact ah.x2 (.n q .nil)
   ·subst J;refine ah.c_ ?_;refine ah.aW<|W.aT [2] ?_;refine W.rt ?_;obtain rfl:=aw h;exact cu (.f q q .nil)
   ·subst J;refine ah.dP ?_;refine ah.cP ?_;obtain rfl:=aw h;exact cu (.f q q .nil)
  ·subst J;refine ah.dP ?_;refine ah.cP ?_;obtain rfl:=aw h;exact cu (.f q q .nil)
 ·subst J;refine ah.dP ?_;refine ah.cP ?_;obtain rfl:=aw h;exact cu (.f q q .nil)
theorem vf (a0:cU) (ar:Int) (a2:ByteArray) (r:cU) (h:nH a0 ar a2=some r):b6 Try.prog 94 [.obj (ee.cells a0),j ar,ab a2] [some (.obj [ak br r.av.a',ak ba r.av.bw,ak bG r.av.a8,ab r.av.bx,ab r.av.bB,ak bN r.b4,ak ba r.b0,ak cy r.bK,j r.ck,j r.cm,ab r.ch,j r.bZ,j r.bD]),none,none] (.cA []):=by
 unfold nH at h;refine b6.go (N:=⟨22,[0]⟩) Try.func94 q q q q (W.fin ?_);refine W.st [(0,.obj (ee.cells a0)),(1,j ar),(2,ab a2)] ?_;refine W.aT [0,1,2,10] ?_;obtain ⟨jn,aa,h⟩:=ay h;refine W.bL [(0,.obj (ee.cells jn))] ?_ ?_
 ·clear h; have h:=aa; clear aa;refine W.bz h q (λcZ h=>?_) (λcZ h=>?_)
  ·refine W.bo [0] (ag (O.az (.obj q))<|ag (O.az (.obj q))<|ag (O.az (.obj q))<|bq q<|bq q<|ag (O.e9 (.ptr q))<|ag (O.bd q (.ptr q) zf q)<|au.dx (G2:=[(0,_),(12,.ptr ⟨0,[]⟩ 0),(13,.ptr ⟨0,[]⟩ 0),(14,_),(15,_)]) (cs2:=[ak br a0.av.a',ak ba a0.av.bw,ak bG a0.av.a8,ab a0.av.bx,ab a0.av.bB,ak bN a0.b4,ak ba a0.b0,ak cy a0.bK,j 3,j a0.cm,ab a0.ch,j a0.bZ,j a0.bD]) q (.ptr q) (.k q) q nr q q q q (.b q (.p q q q q q q (.p q q q q q q (.n q q (.n q q .nil)))))<|ag (O.e9 (.ptr q))<|ag (O.bd q (.ptr q) zg q)<|au.dx (G2:=[(0,_),(13,.ptr ⟨0,[]⟩ 0),(15,_)]) (cs2:=[ak br a0.av.a',ak ba a0.av.bw,ak bG a0.av.a8,ab a0.av.bx,ab a0.av.bB,ak bN a0.b4,ak ba a0.b0,ak cy a0.bK,j 3,j ar,ab a0.ch,j a0.bZ,j a0.bD]) q (.ptr q) (.lit q) q nr q q q q (.b q (.p q q q q q q (.n q q .nil)))<|ag (O.e9 (.ptr q))<|ag (O.bd q (.ptr q) zh q)<|au.dx (G2:=[(0,_)]) (cs2:=[ak br a0.av.a',ak ba a0.av.bw,ak bG a0.av.a8,ab a0.av.bx,ab a0.av.bB,ak bN a0.b4,ak ba a0.b0,ak cy a0.bK,j 3,j ar,ab a2,j a0.bZ,j a0.bD]) q (.ptr q) (.lit q) q wy q q q q (.b q .nil)<|bR q) ?_;obtain rfl:=aw h;exact ah.bL (.n q .nil)
  ·refine W.bE ?_;obtain rfl:=aw h;exact ah.bL (.n q .nil)
 obtain rfl:=aw h;exact ah.fin (Fin.ro .nil q (oT (by kernel_rfl)) (.aC q q (.no (.no .nil))) q (.inl q))
theorem J_ (a0:cU) (ar:ByteArray) (r:Int) (h:yl a0 ar=some r):b6 Try.prog 98 [.bn ([ai br a0.av.a',ai ba a0.av.bw,ai bG a0.av.a8,ab a0.av.bx,ab a0.av.bB,ai bN a0.b4,ai ba a0.b0,ai cy a0.bK,j a0.ck,j a0.cm,ab a0.ch,j a0.bZ,j a0.bD]),ab ar] [none,none] (j r):=by
 unfold yl at h;refine b6.go (N:=⟨26,[]⟩) Try.func98 q q q q (W.fin ?_);refine W.st [(0,.bn ([ai br a0.av.a',ai ba a0.av.bw,ai bG a0.av.a8,ab a0.av.bx,ab a0.av.bB,ai bN a0.b4,ai ba a0.b0,ai cy a0.bK,j a0.ck,j a0.cm,ab a0.ch,j a0.bZ,j a0.bD])),(1,ab ar)] ?_;refine W.aT [0,1] ?_;refine W.aX<|W.aT [0,1,5] ?_;refine W.bl ?_;obtain ⟨x2,aq,h⟩:=ay h;refine W.cf (G1:=[(0,_),(1,_),(5,_)]) (dj q q q) ?_;refine W.iM (s:=0) (λ(s1:Int)=>[(0,.bn ([ai br a0.av.a',ai ba a0.av.bw,ai bG a0.av.a8,ab a0.av.bx,ab a0.av.bB,ai bN a0.b4,ai ba a0.b0,ai cy a0.bK,j a0.ck,j a0.cm,ab a0.ch,j a0.bZ,j a0.bD])),(1,ab ar),(5,j s1)]) 0 (λ(a6:Unit)=>[]) (λ(bQ:Int)=>[(4,j bQ)]) aq (λs1 o h=>?_) (λa6 J=>?_) (λbQ J=>?_)
 ·clear aq;refine W.aX<|W.aT [0,1,5,12] ?_;refine W.bz h q (λdZ h=>?_) (λdZ h=>?_)
  ·refine W.bE<|ah.aW ?_;refine W.aX<|W.bl ?_;obtain ⟨bJ,fL,h⟩:=ay h;refine W.aT [0,1,5,24] ?_;refine W.bz h q (λc7 h=>?_) (λc7 h=>?_)
   ·refine W.aT [4] ?_;refine W.rt ?_;refine ah.dP ?_;refine ah.cP ?_;obtain rfl:=aw h;exact ah.fR (.n q .nil)
   ·refine W.bE<|ah.bl ?_;refine ah.aW<|W.bo [0,1,5] (bq q<|ag (O.add (.lit q) (.k q))<|au.bo [0,1,14] q<|au.aV) ?_;obtain rfl:=aw h;exact ah.go (dj q q q)
  ·refine W.c9 ?_;refine ah.c8 ?_;obtain rfl:=aw h;exact ah.x2 .nil
 ·subst J;refine ah.c_ ?_;refine ah.aW<|W.aT [4] ?_;refine W.rt ?_;obtain rfl:=aw h;exact cu (.f q q .nil)
 ·subst J;refine ah.dP ?_;refine ah.cP ?_;obtain rfl:=aw h;exact cu (.f q q .nil)
theorem E_ (a0:cU) (ar:Sym) (r:Int) (h:wi a0 ar=some r):b6 Try.prog 95 [.bn ([ai br a0.av.a',ai ba a0.av.bw,ai bG a0.av.a8,ab a0.av.bx,ab a0.av.bB,ai bN a0.b4,ai ba a0.b0,ai cy a0.bK,j a0.ck,j a0.cm,ab a0.ch,j a0.bZ,j a0.bD]),.agg (c6.cells ar)] [none,none] (j r):=by
 unfold wi at h;refine b6.go (N:=⟨47,[]⟩) Try.func95 q q q q (W.fin ?_);refine W.st [(0,.bn ([ai br a0.av.a',ai ba a0.av.bw,ai bG a0.av.a8,ab a0.av.bx,ab a0.av.bB,ai bN a0.b4,ai ba a0.b0,ai cy a0.bK,j a0.ck,j a0.cm,ab a0.ch,j a0.bZ,j a0.bD])),(1,.agg (c6.cells ar))] ?_;refine W.bI [0,3] (ag (O.box (.b2 q q) q)<|au.aV) ?_;refine W.aX<|W.aT [0,3,5] ?_;refine W.bl ?_;obtain ⟨x2,aq,h⟩:=ay h;refine W.cf (G1:=[(0,_),(3,_),(5,_)]) (dj q q q) ?_;refine W.iM (s:=1) (λ(s1:Int)=>[(0,.bn ([ai br a0.av.a',ai ba a0.av.bw,ai bG a0.av.a8,ab a0.av.bx,ab a0.av.bB,ai bN a0.b4,ai ba a0.b0,ai cy a0.bK,j a0.ck,j a0.cm,ab a0.ch,j a0.bZ,j a0.bD])),(3,.obj (c6.cells ar)),(5,j s1)]) 0 (λ(a6:Unit)=>[]) (λ(bQ:Int)=>[(4,j bQ)]) aq (λs1 o h=>?_) (λa6 J=>?_) (λbQ J=>?_)
 ·clear aq;refine W.aX<|W.aT [0,3,5,13] ?_;refine W.bz h q (λdZ h=>?_) (λdZ h=>?_)
  ·refine W.bE<|ah.aW ?_;refine W.aX<|W.bl ?_;refine W.aX ?_;obtain ⟨jA,aa,h⟩:=ay h;refine W.rd [[],[0],[0,1],[0,1,2],[0,1,2,3],[],aM 0 6 [],aM 0 7 [],aM 0 8 [],[],[9],aM 0 11 [],aM 0 12 [],aM 0 13 [],aM 0 14 [],aM 0 15 [],aM 0 16 [],aM 0 17 [],aM 0 13 [],aM 0 19 [],aM 0 20 [],aM 0 21 [],aM 0 13 [],aM 0 13 [22],aM 0 24 [],aM 0 25 [],aM 0 26 [],aM 0 27 [],aM 0 28 [],aM 0 29 []] [(0,.bn ([ai br a0.av.a',ai ba a0.av.bw,ai bG a0.av.a8,ab a0.av.bx,ab a0.av.bB,ai bN a0.b4,ai ba a0.b0,ai cy a0.bK,j a0.ck,j a0.cm,ab a0.ch,j a0.bZ,j a0.bD])),(3,.obj (c6.cells ar)),(5,j s1),(45,aY jA)] d_ (by kernel_rfl) ?_ ?_
   ·refine ao 0 (O.az (.bn q))<|ao 1 (O.As (.bn q))<|ao 2 (O.ef (.bn q) km)<|ao 3 (O.ef (.bn q) m_)<|ao 4 (O.cX (x:=ai br a0.av.a') (.bn q) nX q)<|ao 5 (O.az (.lit q)) ?_;obtain ⟨bJ,fL,aa⟩:=ay aa;refine ao 6 (O.cv (.aD q) (.lit q) oe fL)<|ao 7 (O.ef (.bn q) KB)<|ao 8 (O.cX (x:=ab bJ.Name) (.bn q) eN q)<|ao 9 (O.bd q (.obj q) ko q)<|ao 10 (O.cw q (.ptr q) eN q)<|ao 11 (O.oA (.lit q) (.lit q))<|ao 12 (O.az (.lit q)) ?_;rcases cG aa with ⟨c7,aa⟩ | ⟨c7,aa⟩
    ·refine bV 13 c7 (O.az (.bn q))<|bV 14 c7 (O.As (.bn q))<|bV 15 c7 (O.ef (.bn q) km)<|bV 16 c7 (O.ef (.bn q) m_)<|bV 17 c7 (O.cX (x:=ai br a0.av.a') (.bn q) nX q)<|bV 18 c7 (O.az (.lit q)) ?_;obtain ⟨bA,gU,aa⟩:=ay aa;refine bV 19 c7 (O.cv (.aD q) (.lit q) oe gU)<|bV 20 c7 (O.ef (.bn q) KC)<|bV 21 c7 (O.cX (x:=aY bA.Lit) (.bn q) mX q)<|bV 22 c7 (O.bd q (.obj q) tH q)<|bV 23 c7 (O.cw q (.ptr q) mX q)<|bV 24 c7 (O.QL (.lit q) (.lit q) OU)<|ao 25 (O.eQ (.lit q) c7 (.lit q))<|ao 26 (O.az (.lit q)) ?_;rcases cG aa with ⟨dX,aa⟩ | ⟨dX,aa⟩
     ·obtain rfl:=aw aa;exact bV 27 dX (O.az (.lit q))<|bV 28 dX (O.neq (.lit q) (.k q))<|ao 29 (O.eQ (.lit q) dX (.lit q))<|bC.fin q q q (dQ q q q q)
     ·obtain rfl:=aw aa;exact aN 27 dX<|aN 28 dX<|ao 29 (O.cL (.lit q) dX (.k q))<|bC.fin q q q (dQ q q q q)
    ·obtain rfl:=aw aa;exact aN 13 c7<|aN 14 c7<|aN 15 c7<|aN 16 c7<|aN 17 c7<|aN 18 c7<|aN 19 c7<|aN 20 c7<|aN 21 c7<|aN 22 c7<|aN 23 c7<|aN 24 c7<|ao 25 (O.cL (.lit q) c7 (.k q))<|ao 26 (O.az (.lit q))<|aN 27 q<|aN 28 q<|ao 29 (O.cL (.lit q) q (.k q))<|bC.fin q q q (dQ q q q q)
   refine ah.aW<|W.bz h q (λfx h=>?_) (λfx h=>?_)
   ·refine W.aT [4] ?_;refine W.rt ?_;refine ah.dP ?_;refine ah.cP ?_;obtain rfl:=aw h;exact ah.fR (.n q .nil)
   ·refine W.bE<|ah.bl ?_;refine ah.aW<|W.bo [0,3,5] (bq q<|ag (O.add (.lit q) (.k q))<|au.bo [0,3,15] q<|au.aV) ?_;obtain rfl:=aw h;exact ah.go (dj q q q)
  ·refine W.c9 ?_;refine ah.c8 ?_;obtain rfl:=aw h;exact ah.x2 .nil
 ·subst J;refine ah.c_ ?_;refine ah.aW<|W.aT [4] ?_;refine W.rt ?_;obtain rfl:=aw h;exact cu (.f q q .nil)
 ·subst J;refine ah.dP ?_;refine ah.cP ?_;obtain rfl:=aw h;exact cu (.f q q .nil)
theorem JZ (a0:cU) (ar:Int) (r:Int) (h:ya a0 ar=some r):b6 Try.prog 114 [.bn ([ai br a0.av.a',ai ba a0.av.bw,ai bG a0.av.a8,ab a0.av.bx,ab a0.av.bB,ai bN a0.b4,ai ba a0.b0,ai cy a0.bK,j a0.ck,j a0.cm,ab a0.ch,j a0.bZ,j a0.bD]),j ar] [none,none] (j r):=by
 unfold ya at h;refine b6.go (N:=⟨28,[]⟩) Try.func114 q q q q (W.fin ?_);refine W.st [(0,.bn ([ai br a0.av.a',ai ba a0.av.bw,ai bG a0.av.a8,ab a0.av.bx,ab a0.av.bB,ai bN a0.b4,ai ba a0.b0,ai cy a0.bK,j a0.ck,j a0.cm,ab a0.ch,j a0.bZ,j a0.bD])),(1,j ar)] ?_;refine W.aT [0,1] ?_;refine W.aX<|W.aT [0,1,5] ?_;refine W.bl ?_;obtain ⟨x2,aq,h⟩:=ay h;refine W.cf (G1:=[(0,_),(1,_),(5,_)]) (dj q q q) ?_;refine W.iM (s:=3) (λ(s1:Int)=>[(0,.bn ([ai br a0.av.a',ai ba a0.av.bw,ai bG a0.av.a8,ab a0.av.bx,ab a0.av.bB,ai bN a0.b4,ai ba a0.b0,ai cy a0.bK,j a0.ck,j a0.cm,ab a0.ch,j a0.bZ,j a0.bD])),(1,j ar),(5,j s1)]) 0 (λ(a6:Unit)=>[]) (λ(bQ:Int)=>[(4,j bQ)]) aq (λs1 o h=>?_) (λa6 J=>?_) (λbQ J=>?_)
 ·clear aq;refine W.aX<|W.aT [0,1,5,13] ?_;refine W.bz h q (λdZ h=>?_) (λdZ h=>?_)
  ·refine W.bE<|ah.aW ?_;refine W.aX<|W.bl ?_;obtain ⟨bJ,fL,h⟩:=ay h;refine W.aT [0,1,5,26] ?_;refine W.bz h q (λc7 h=>?_) (λc7 h=>?_)
   ·refine W.aT [4] ?_;refine W.rt ?_;refine ah.dP ?_;refine ah.cP ?_;obtain rfl:=aw h;exact ah.fR (.n q .nil)
   ·refine W.bE<|ah.bl ?_;refine ah.aW<|W.bo [0,1,5] (bq q<|ag (O.add (.lit q) (.k q))<|au.bo [0,1,15] q<|au.aV) ?_;obtain rfl:=aw h;exact ah.go (dj q q q)
  ·refine W.c9 ?_;refine ah.c8 ?_;obtain rfl:=aw h;exact ah.x2 .nil
 ·subst J;refine ah.c_ ?_;refine ah.aW<|W.aT [4] ?_;refine W.rt ?_;obtain rfl:=aw h;exact cu (.f q q .nil)
 ·subst J;refine ah.dP ?_;refine ah.cP ?_;obtain rfl:=aw h;exact cu (.f q q .nil)
theorem JY (a0:cU) (ar:Sym) (r:Int × cU) (h:x_ a0 ar=some r):b6 Try.prog 113 [.obj (ee.cells a0),.agg (c6.cells ar)] [some (.obj [ak br r.2.av.a',ak ba r.2.av.bw,ak bG r.2.av.a8,ab r.2.av.bx,ab r.2.av.bB,ak bN r.2.b4,ak ba r.2.b0,ak cy r.2.bK,j r.2.ck,j r.2.cm,ab r.2.ch,j r.2.bZ,j r.2.bD]),none] (j r.1):=by
 unfold x_ at h;refine b6.go (N:=⟨66,[0]⟩) Try.func113 q q q q (W.fin ?_);refine W.st [(0,.obj (ee.cells a0)),(1,.agg (c6.cells ar))] ?_;refine W.bI [0,3] (ag (O.box (.b2 q q) q)<|au.aV) ?_;obtain ⟨aE,ff,h⟩:=ay h;refine W.bI [0,3,5] (ag (O.az (.obj q))<|ag (O.dJ (cs':=[ab ar.Name,aY ar.Lit,j ar.cM,j ar.At]) q (.obj q) j9 q q)<|dV (ct.vw (ys:=[.ptr ⟨0,[]⟩ 0,.agg (c6.cells ar)]) q (.c (View.oW q q) (.c (.sf (.s (.s (.s (.s .nil))))) .nil)) (E_ a0 ar _ ff) call95 q)<|au.aV) ?_;refine W.aX<|W.aT [0,3,5,11] ?_;refine W.bz h q (λcZ h=>?_) (λcZ h=>?_)
 ·refine W.aT [0,4] ?_;refine W.rt ?_;refine ah.cP ?_;obtain rfl:=aw h;exact ah.fin (Fin.ro (.f q q .nil) q (oT (by kernel_rfl)) (.aC q q (.no .nil)) q (.inr q))
 ·refine W.bE<|ah.aW ?_;refine W.bI [0,3,6] (ag (O.bd q (.obj q) ko q)<|ag (O.cw q (.ptr q) eN q)<|ag (O.bd q (.obj q) tH q)<|ag (O.cw q (.ptr q) mX q)<|ag (O.eh (cs:=[ab ar.Name,aY ar.Lit,j 0,j 0,j 0,ab aB]) DY wD q q q)<|ag (O.e6 (cs:=[ab aB,aY false,j 0,j 0,j 0,ab aB]) wD q q)<|au.dx (G2:=[(0,_),(3,_),(6,_)]) (cs2:=[ab ar.Name,aY ar.Lit,j 0,j 0,j 0,ab aB]) q (.obj q) (.b2 q q) q Iy q q q q (.n q q (.n q q (.b q .nil)))<|bR q) ?_;refine W.aX<|W.aT [0,3,6,19] ?_;obtain ⟨dM,aa,h⟩:=ay h;refine W.bL [(0,.obj (ee.cells dM.1)),(3,.obj (c6.cells ar)),(6,.obj [ab ar.Name,aY ar.Lit,j dM.2,j 0,j 0,ab aB])] ?_ ?_
  ·clear h; have h:=aa; clear aa;refine W.bz h q (λdg h=>?_) (λdg h=>?_)
   ·obtain ⟨b',jV,h⟩:=ay h;refine W.bI [0,3,6] (ag (O.bd q (.obj q) ko q)<|ag (O.cw q (.ptr q) eN q)<|ag (O.qA (.lit q) (.k q) j6 jV)<|ag (O.tF (.lit q) Dm vK)<|ag (O.bd q (.obj q) zl q)<|au.dx (G2:=[(0,_),(3,_),(6,_)]) (cs2:=[ab ar.Name,aY ar.Lit,j (aL b'),j 0,j 0,ab aB]) q (.ptr q) (.lit q) q nr q q q q (.n q q (.n q q (.b q .nil)))<|bR q) ?_;obtain ⟨bJ,fL,h⟩:=ay h;refine W.bI [0,3,6,29] (ag (O.az (.obj q))<|ag (O.bd q (.obj q) zl q)<|ag (O.cw q (.ptr q) cx q)<|dV (ct.vw (ys:=[.ptr ⟨0,[]⟩ 0,j (aL b')]) q (.c (View.oW q q) (.s .nil)) (JZ a0 (aL b') _ fL) call114 q)<|au.aV) ?_;obtain ⟨kK,aa,h⟩:=ay h;refine W.bL [(0,.obj (ee.cells kK)),(3,.obj (c6.cells ar)),(6,.obj [ab ar.Name,aY ar.Lit,j (aL b'),j 0,j 0,ab aB])] ?_ ?_
    ·clear h; have h:=aa; clear aa;refine W.bz h q (λcW h=>?_) (λcW h=>?_)
     ·obtain ⟨cn,ir,h⟩:=ay h;refine W.bo [0,3,6] (ag (O.az (.obj q))<|ag (O.bd q (.obj q) qF q)<|ag (O.cw q (.ptr q) cx q)<|ag (O.bd q (.obj q) ko q)<|ag (O.cw q (.ptr q) eN q)<|au.ha q (cc.call q q (h4.nF (G2:=[(3,.obj (c6.cells ar)),(6,.obj [ab ar.Name,aY ar.Lit,j (aL b'),j 0,j 0,ab aB])]) (A:=[]) (ys:=[.ptr ⟨0,[]⟩ 0,j ar.At,ab ar.Name]) (args:=[.obj (ee.cells a0),j ar.At,ab ar.Name]) (cs':=[ak br cn.av.a',ak ba cn.av.bw,ak bG cn.av.a8,ab cn.av.bx,ab cn.av.bB,ak bN cn.b4,ak ba cn.b0,ak cy cn.bK,j cn.ck,j cn.cm,ab cn.ch,j cn.bZ,j cn.bD]) (k0:=0) q q q q (.b q (.n q (.n q .nil))) q (vf a0 ar.At ar.Name _ ir) call94 (e_ q q) q q (e_ q q) .nil q))<|bR q) ?_;obtain rfl:=aw h;exact ah.bL (dj q q q)
     ·refine W.bE ?_;obtain rfl:=aw h;exact ah.bL (dj q q q)
    obtain rfl:=aw h;exact ah.bL (dj q q q)
   ·refine W.bE ?_;obtain rfl:=aw h;exact ah.bL (dj q q q)
  refine ah.aW<|W.aX ?_;obtain ⟨bS,h8,h⟩:=ay h;refine W.rd [[],[],[1],[1,2],[1,2,3],[1,2,3,4],[],[6],aM 1 7 [],aM 0 9 [],aM 0 10 [],aM 0 11 [],aM 0 12 []] [(0,_),(3,_)] d_ (by kernel_rfl) (ao 0 (O.az (.obj q))<|ao 1 (O.az (.obj q))<|ao 2 (O.e9 (.ptr q))<|ao 3 (O.bd q (.ptr q) km q)<|ao 4 (O.bd q (.ptr q) m_ q)<|ao 5 (O.cK (y:=.bh br.z ⟨0,[0]⟩ dM.1.av.a'.length) q (.ptr q) nX q q)<|ao 6 (O.dJ (cs':=[ab ar.Name,aY ar.Lit,j dM.2,j 0,j 0,ab aB]) q (.obj q) EF q q)<|bC.fT 7 (x:=ai br [(⟨ar.Name,ar.Lit,dM.2,0,0,aB⟩:bM)]) (O.dF (ys:=[.agg [ab ar.Name,aY ar.Lit,j dM.2,j 0,j 0,ab aB]]) br [(⟨ar.Name,ar.Lit,dM.2,0,0,aB⟩:bM)] oe q q q q q q NR q q) q q q q .none<|ao 8 (O.ap (en:=br) (r:=bS) (.bh q) q (.aD q) .i Ov q h8)<|ao 9 (O.e9 (.ptr q))<|ao 10 (O.bd q (.ptr q) km q)<|ao 11 (O.bd q (.ptr q) m_ q)<|bC.iX 12 (G2:=[(0,.obj [ak br (dM.1.av.a'++[(⟨ar.Name,ar.Lit,dM.2,0,0,aB⟩:bM)]),ak ba dM.1.av.bw,ak bG dM.1.av.a8,ab dM.1.av.bx,ab dM.1.av.bB,ak bN dM.1.b4,ak ba dM.1.b0,ak cy dM.1.bK,j dM.1.ck,j dM.1.cm,ab dM.1.ch,j dM.1.bZ,j dM.1.bD]),(3,.obj (c6.cells ar))]) (cc.kr (g1:=_) (en:=br) (M:=[(⟨ar.Name,ar.Lit,dM.2,0,0,aB⟩:bM)]) (cs2:=[ak br (dM.1.av.a'++[(⟨ar.Name,ar.Lit,dM.2,0,0,aB⟩:bM)]),ak ba dM.1.av.bw,ak bG dM.1.av.a8,ab dM.1.av.bx,ab dM.1.av.bB,ak bN dM.1.b4,ak ba dM.1.b0,ak cy dM.1.bK,j dM.1.ck,j dM.1.cm,ab dM.1.ch,j dM.1.bZ,j dM.1.bD]) q q (.ptr q) (.bY q) q q q .js .gE q q Ns q q q q (.b q (.n q q .nil))) q q q q (by kernel_rfl) (by kernel_rfl)<|bC.fin q q q (e_ q q)) ?_;refine ah.aW<|W.aX ?_;obtain ⟨bO,hn,h⟩:=ay h;refine W.rd [[],[],[1],[1,2],[1,2,3],[],[5],[5,6],aM 1 7 [],aM 0 9 [],aM 0 10 [],aM 0 11 []] [(0,_)] d_ (by kernel_rfl) (ao 0 (O.az (.obj q))<|ao 1 (O.az (.obj q))<|ao 2 (O.e9 (.ptr q))<|ao 3 (O.bd q (.ptr q) xn q)<|ao 4 (O.cK (y:=.bh bN.z ⟨0,[5]⟩ dM.1.b4.length) q (.ptr q) y4 q q)<|ao 5 (O.bd q (.obj q) tH q)<|ao 6 (O.cw q (.ptr q) mX q)<|bC.fT 7 (x:=ai bN [ar.Lit]) (O.dF (ys:=[aY ar.Lit]) bN [ar.Lit] oY q q q q q q Wd q q) q q q q .none<|ao 8 (O.ap (en:=bN) (r:=bO) (.bh q) q (.aD q) .i Oo q hn)<|ao 9 (O.e9 (.ptr q))<|ao 10 (O.bd q (.ptr q) xn q)<|bC.iX 11 (G2:=[(0,.obj [ak br (dM.1.av.a'++[(⟨ar.Name,ar.Lit,dM.2,0,0,aB⟩:bM)]),ak ba dM.1.av.bw,ak bG dM.1.av.a8,ab dM.1.av.bx,ab dM.1.av.bB,ak bN (dM.1.b4++[ar.Lit]),ak ba dM.1.b0,ak cy dM.1.bK,j dM.1.ck,j dM.1.cm,ab dM.1.ch,j dM.1.bZ,j dM.1.bD])]) (cc.kr (g1:=_) (en:=bN) (M:=[ar.Lit]) (cs2:=[ak br (dM.1.av.a'++[(⟨ar.Name,ar.Lit,dM.2,0,0,aB⟩:bM)]),ak ba dM.1.av.bw,ak bG dM.1.av.a8,ab dM.1.av.bx,ab dM.1.av.bB,ak bN (dM.1.b4++[ar.Lit]),ak ba dM.1.b0,ak cy dM.1.bK,j dM.1.ck,j dM.1.cm,ab dM.1.ch,j dM.1.bZ,j dM.1.bD]) q q (.ptr q) (.bY q) q q q .js .gE q q Vy q q q q (.b q .nil)) q q q q (by kernel_rfl) (by kernel_rfl)<|bC.fin q q q (.n q .nil)) ?_;refine ah.aW<|W.aT [0,4] ?_;refine W.rt ?_;obtain rfl:=aw h;exact ah.fin (Fin.ro (.f q q .nil) q (oT (by kernel_rfl)) (.aC q q (.no .nil)) q (.inr q))
theorem Fa (v:Value) (a0:cU) (ar:Int) (a2:ByteArray) (r:cU) (h:nH a0 ar a2=some r):b6 Try.prog 94 [.obj [.lit v,ak ba a0.av.bw,ak bG a0.av.a8,ab a0.av.bx,ab a0.av.bB,ak bN a0.b4,ak ba a0.b0,ak cy a0.bK,j a0.ck,j a0.cm,ab a0.ch,j a0.bZ,j a0.bD],j ar,ab a2] [some (.obj [.lit v,ak ba r.av.bw,ak bG r.av.a8,ab r.av.bx,ab r.av.bB,ak bN r.b4,ak ba r.b0,ak cy r.bK,j r.ck,j r.cm,ab r.ch,j r.bZ,j r.bD]),none,none] (.cA []):=by
 unfold nH at h;refine b6.go (N:=⟨22,[0]⟩) Try.func94 q q q q (W.fin ?_);refine W.st [(0,.obj [.lit v,ak ba a0.av.bw,ak bG a0.av.a8,ab a0.av.bx,ab a0.av.bB,ak bN a0.b4,ak ba a0.b0,ak cy a0.bK,j a0.ck,j a0.cm,ab a0.ch,j a0.bZ,j a0.bD]),(1,j ar),(2,ab a2)] ?_;refine W.aT [0,1,2,10] ?_;obtain ⟨jn,aa,h⟩:=ay h;refine W.bL [(0,.obj [.lit v,ak ba jn.av.bw,ak bG jn.av.a8,ab jn.av.bx,ab jn.av.bB,ak bN jn.b4,ak ba jn.b0,ak cy jn.bK,j jn.ck,j jn.cm,ab jn.ch,j jn.bZ,j jn.bD])] ?_ ?_
 ·clear h; have h:=aa; clear aa;refine W.bz h q (λcZ h=>?_) (λcZ h=>?_)
  ·refine W.bo [0] (ag (O.az (.obj q))<|ag (O.az (.obj q))<|ag (O.az (.obj q))<|bq q<|bq q<|ag (O.e9 (.ptr q))<|ag (O.bd q (.ptr q) zf q)<|au.dx (G2:=[(0,_),(12,.ptr ⟨0,[]⟩ 0),(13,.ptr ⟨0,[]⟩ 0),(14,_),(15,_)]) (cs2:=[.lit v,ak ba a0.av.bw,ak bG a0.av.a8,ab a0.av.bx,ab a0.av.bB,ak bN a0.b4,ak ba a0.b0,ak cy a0.bK,j 3,j a0.cm,ab a0.ch,j a0.bZ,j a0.bD]) q (.ptr q) (.k q) q nr q q q q (.b q (.p q q q q q q (.p q q q q q q (.n q q (.n q q .nil)))))<|ag (O.e9 (.ptr q))<|ag (O.bd q (.ptr q) zg q)<|au.dx (G2:=[(0,_),(13,.ptr ⟨0,[]⟩ 0),(15,_)]) (cs2:=[.lit v,ak ba a0.av.bw,ak bG a0.av.a8,ab a0.av.bx,ab a0.av.bB,ak bN a0.b4,ak ba a0.b0,ak cy a0.bK,j 3,j ar,ab a0.ch,j a0.bZ,j a0.bD]) q (.ptr q) (.lit q) q nr q q q q (.b q (.p q q q q q q (.n q q .nil)))<|ag (O.e9 (.ptr q))<|ag (O.bd q (.ptr q) zh q)<|au.dx (G2:=[(0,_)]) (cs2:=[.lit v,ak ba a0.av.bw,ak bG a0.av.a8,ab a0.av.bx,ab a0.av.bB,ak bN a0.b4,ak ba a0.b0,ak cy a0.bK,j 3,j ar,ab a2,j a0.bZ,j a0.bD]) q (.ptr q) (.lit q) q wy q q q q (.b q .nil)<|bR q) ?_;obtain rfl:=aw h;exact ah.bL (.n q .nil)
  ·refine W.bE ?_;obtain rfl:=aw h;exact ah.bL (.n q .nil)
 obtain rfl:=aw h;exact ah.fin (Fin.ro .nil q (oT (by kernel_rfl)) (.aC q q (.no (.no .nil))) q (.inl q))
theorem Qe (a0:cU) (ar:Decl) (a2:Sym) (r:cU) (h:Bh a0 ar a2=some r):b6 Try.prog 93 [.obj (ee.cells a0),.agg (cq.cells ar),.agg (c6.cells a2)] [some (.obj [ak br r.av.a',ak ba r.av.bw,ak bG r.av.a8,ab r.av.bx,ab r.av.bB,ak bN r.b4,ak ba r.b0,ak cy r.bK,j r.ck,j r.cm,ab r.ch,j r.bZ,j r.bD]),none,none] (.cA []):=by
 unfold Bh at h;refine b6.go (N:=⟨152,[0]⟩) Try.func93 q q q q (W.fin ?_);refine W.st [(0,.obj (ee.cells a0)),(1,.agg (cq.cells ar)),(2,.agg (c6.cells a2))] ?_;refine W.bI [0,4,5] (ag (O.box (.b2 q q) q)<|ag (O.box (.b2 q q) q)<|bR q) ?_;refine W.aX<|W.aT [0,4,5,11] ?_;refine W.bz h q (λc3 h=>?_) (λc3 h=>?_)
 ·obtain ⟨x2,gG,h⟩:=ay h;refine W.bI [0,4,5,6] (ag (O.az (.obj q))<|ag (O.bd q (.obj q) ko q)<|ag (O.cw q (.ptr q) eN q)<|dV (ct.vw (ys:=[.ptr ⟨0,[]⟩ 0,ab a2.Name]) q (.c (View.oW q q) (.s .nil)) (J_ a0 a2.Name _ gG) call98 q)<|au.aV) ?_;refine W.aX<|W.aT [0,4,5,6,17] ?_;obtain ⟨dM,aa,h⟩:=ay h;refine W.bL [(0,.obj (ee.cells dM))] ?_ ?_
  ·clear h; have h:=aa; clear aa;refine W.bz h q (λdg h=>?_) (λdg h=>?_)
   ·obtain ⟨b',jV,h⟩:=ay h;refine W.rd [[],[],[1],[1,2],[1,2,3],[],[5],[],[7],[5,6,7,8],aM 5 5 [],aM 1 10 [],aM 0 12 [],aM 0 13 [],aM 0 14 []] [(0,_)] d_ (by kernel_rfl) (ao 0 (O.az (.obj q))<|ao 1 (O.az (.obj q))<|ao 2 (O.e9 (.ptr q))<|ao 3 (O.bd q (.ptr q) ze q)<|ao 4 (O.cK (y:=.bh ba.z ⟨0,[6]⟩ a0.b0.length) q (.ptr q) rD q q)<|ao 5 (O.bd q (.obj q) ko q)<|ao 6 (O.cw q (.ptr q) eN q)<|ao 7 (O.bd q (.obj q) nw q)<|ao 8 (O.cw q (.ptr q) eN q)<|ao 9 (O.eh (cs:=[ab a2.Name,ab ar.Tag]) DX BH q q q)<|bC.fT 10 (x:=ai ba [(⟨a2.Name,ar.Tag⟩:e5)]) (O.dF (ys:=[.agg [ab a2.Name,ab ar.Tag]]) ba [(⟨a2.Name,ar.Tag⟩:e5)] q_ q q q q q q Ek q q) q q q q .none<|ao 11 (O.ap (en:=ba) (r:=b') (.bh q) q (.aD q) .i ED q jV)<|ao 12 (O.e9 (.ptr q))<|ao 13 (O.bd q (.ptr q) ze q)<|bC.iX 14 (G2:=[(0,.obj [ak br a0.av.a',ak ba a0.av.bw,ak bG a0.av.a8,ab a0.av.bx,ab a0.av.bB,ak bN a0.b4,ak ba (a0.b0++[(⟨a2.Name,ar.Tag⟩:e5)]),ak cy a0.bK,j a0.ck,j a0.cm,ab a0.ch,j a0.bZ,j a0.bD])]) (cc.kr (g1:=_) (en:=ba) (M:=[(⟨a2.Name,ar.Tag⟩:e5)]) (cs2:=[ak br a0.av.a',ak ba a0.av.bw,ak bG a0.av.a8,ab a0.av.bx,ab a0.av.bB,ak bN a0.b4,ak ba (a0.b0++[(⟨a2.Name,ar.Tag⟩:e5)]),ak cy a0.bK,j a0.ck,j a0.cm,ab a0.ch,j a0.bZ,j a0.bD]) q q (.ptr q) (.bY q) q q q .js .gE q q D6 q q q q (.b q .nil)) q q q q (by kernel_rfl) (by kernel_rfl)<|bC.fin q q q (.n q .nil)) ?_;obtain rfl:=aw h;exact ah.bL (.n q .nil)
   ·refine W.aX ?_;obtain ⟨bJ,fL,h⟩:=ay h;refine W.rd [[],[0],[0,1],[0,1,2],[],aM 0 5 [],aM 0 6 [],aM 0 7 [],[],[8],aM 0 10 []] [(0,_),(5,_),(42,_)] d_ (by kernel_rfl) (ao 0 (O.az (.obj q))<|ao 1 (O.e9 (.ptr q))<|ao 2 (O.bd q (.ptr q) ze q)<|ao 3 (O.cK (y:=.bh ba.z ⟨0,[6]⟩ a0.b0.length) q (.ptr q) rD q q)<|ao 4 (O.az (.lit q))<|ao 5 (O.gH (en:=ba) q (.bh q) (.lit q) q_ fL q)<|ao 6 (O.kl (en:=ba) q (.ptr q) CB fL q q)<|ao 7 (O.jr (en:=ba) (x':=ab bJ.Tag) q (.ptr q) eN fL q q)<|ao 8 (O.bd q (.obj q) nw q)<|ao 9 (O.cw q (.ptr q) eN q)<|ao 10 (O.ma (.lit q) (.lit q))<|bC.fin q q q (dj q q q)) ?_;refine ah.aW ?_;obtain ⟨kK,aa,h⟩:=ay h;refine W.bL [(0,.obj (ee.cells kK))] ?_ ?_
    ·clear h; have h:=aa; clear aa;refine W.bz h q (λcW h=>?_) (λcW h=>?_)
     ·obtain ⟨cn,ir,h⟩:=ay h;refine W.bo [0] (ag (O.az (.obj q))<|ag (O.bd q (.obj q) qF q)<|ag (O.cw q (.ptr q) cx q)<|ag (O.bd q (.obj q) ko q)<|ag (O.cw q (.ptr q) eN q)<|au.ha q (cc.call q q (h4.nF (G2:=[]) (A:=[]) (ys:=[.ptr ⟨0,[]⟩ 0,j a2.At,ab a2.Name]) (args:=[.obj (ee.cells a0),j a2.At,ab a2.Name]) (cs':=[ak br cn.av.a',ak ba cn.av.bw,ak bG cn.av.a8,ab cn.av.bx,ab cn.av.bB,ak bN cn.b4,ak ba cn.b0,ak cy cn.bK,j cn.ck,j cn.cm,ab cn.ch,j cn.bZ,j cn.bD]) (k0:=0) q q q q (.b q (.n q (.n q .nil))) q (vf a0 a2.At a2.Name _ ir) call94 .nil q q .nil .nil q))<|bR q) ?_;obtain rfl:=aw h;exact ah.bL (.n q .nil)
     ·refine W.bE ?_;obtain rfl:=aw h;exact ah.bL (.n q .nil)
    obtain rfl:=aw h;exact ah.bL (.n q .nil)
  refine ah.aW<|W.rt ?_;refine ah.cP ?_;obtain rfl:=aw h;exact ah.fin (Fin.ro .nil q (oT (by kernel_rfl)) (.aC q q (.no (.no .nil))) q (.inr q))
 ·refine W.bE<|ah.aW ?_;obtain ⟨bS,h8,h⟩:=ay h;refine W.bI [0,4,5,7] (ag (O.az (.obj q))<|ag (O.dJ (cs':=[ab a2.Name,aY a2.Lit,j a2.cM,j a2.At]) q (.obj q) j9 q q)<|au.ha q (cc.call q q (h4.nF (G2:=[(4,.obj (cq.cells ar)),(5,.obj (c6.cells a2))]) (A:=[]) (ys:=[.ptr ⟨0,[]⟩ 0,.agg (c6.cells a2)]) (args:=[.obj (ee.cells a0),.agg (c6.cells a2)]) (cs':=[ak br bS.2.av.a',ak ba bS.2.av.bw,ak bG bS.2.av.a8,ab bS.2.av.bx,ab bS.2.av.bB,ak bN bS.2.b4,ak ba bS.2.b0,ak cy bS.2.bK,j bS.2.ck,j bS.2.cm,ab bS.2.ch,j bS.2.bZ,j bS.2.bD]) (k0:=0) q q q q (.b q (.n q .nil)) q (JY a0 a2 _ h8) call113 (e_ q q) q q (e_ q q) .nil q))<|au.aV) ?_;obtain ⟨bO,hn,h⟩:=ay h;refine W.rs [(0,_),(4,_),(5,_),(7,_),(8,.ptr ⟨0,[0]⟩ (bS.1.toNat * br.z+0))] (ag (O.az (.obj q))<|ag (O.e9 (.ptr q))<|ag (O.bd q (.ptr q) km q)<|ag (O.bd q (.ptr q) m_ q)<|ag (O.cK (y:=.bh br.z ⟨0,[0]⟩ bS.2.av.a'.length) q (.ptr q) nX q q)<|bq q<|ag (O.gH (en:=br) q (.bh q) (.lit q) oe hn q)<|ag (O.dK (.ptr q))<|nP (.n q (.n q (.n q (.n q (.r q (e'.el (en:=br) q hn q) j5 .nil)))))) ?_;refine W.aX<|W.rs [(0,_),(4,_),(5,_),(7,_),(8,.ptr ⟨0,[0]⟩ (bS.1.toNat * br.z+0)),(61,_)] (ag (O.bd q (.obj q) oB q)<|ag (O.cw q (.ptr q) cx q)<|ag (O.neq (.lit q) (.k q))<|nP (.n q (.n q (.n q (.n q (.r q (e'.el (en:=br) q hn q) j5 (.n q .nil))))))) ?_;obtain ⟨fy,aa,h⟩:=ay h;refine W.bL [(0,.obj (ee.cells fy)),(4,.obj (cq.cells ar)),(5,.obj (c6.cells a2)),(7,j bS.1),(8,.ptr ⟨0,[0]⟩ (bS.1.toNat * br.z+0))] ?_ ?_
  ·clear h; have h:=aa; clear aa;refine W.bz h q (λjg h=>?_) (λjg h=>?_)
   ·refine W.aX<|W.rs [(0,_),(4,_),(5,_),(7,_),(8,.ptr ⟨0,[0]⟩ (bS.1.toNat * br.z+0)),(66,_)] (ag (O.az (.ptr q))<|ag (O.e9 (.ptr q))<|ag (O.kl (en:=br) q (.ptr q) zm hn q q)<|ag (O.jr (en:=br) (x':=j bO.Level) q (.ptr q) cx hn q q)<|ag (O.gtr (.lit q) (.k q))<|nP (.n q (.n q (.n q (.n q (.r q (e'.el (en:=br) q hn q) j5 (.n q .nil))))))) ?_;obtain ⟨dG,aa,h⟩:=ay h;refine W.bL [(0,.obj (ee.cells dG)),(4,.obj (cq.cells ar)),(5,.obj (c6.cells a2)),(7,j bS.1),(8,.ptr ⟨0,[0]⟩ (bS.1.toNat * br.z+0))] ?_ ?_
    ·clear h; have h:=aa; clear aa;refine W.bz h q (λqM h=>?_) (λqM h=>?_)
     ·obtain ⟨cr,j2,h⟩:=ay h;refine W.rx [(0,_),(4,_),(5,_),(7,_),(8,.ptr ⟨0,[0]⟩ (bS.1.toNat * br.z+0))] (ag (O.az (.obj q))<|ag (O.bd q (.obj q) qF q)<|ag (O.cw q (.ptr q) cx q)<|ag (O.bd q (.obj q) ko q)<|ag (O.cw q (.ptr q) eN q)<|au.ha (G2:=[(8,.ptr ⟨0,[0]⟩ (bS.1.toNat * br.z+0))]++[(72,.cA []),(0,.obj [ak br bS.2.av.a',ak ba cr.av.bw,ak bG cr.av.a8,ab cr.av.bx,ab cr.av.bB,ak bN cr.b4,ak ba cr.b0,ak cy cr.bK,j cr.ck,j cr.cm,ab cr.ch,j cr.bZ,j cr.bD]),(4,.obj (cq.cells ar)),(5,.obj (c6.cells a2)),(7,j bS.1)]) q (cc.fI (r:=0) (k0:=0) (y:=ak br bS.2.av.a') (cs5:=[ak br bS.2.av.a',ak ba cr.av.bw,ak bG cr.av.a8,ab cr.av.bx,ab cr.av.bB,ak bN cr.b4,ak ba cr.b0,ak cy cr.bK,j cr.ck,j cr.cm,ab cr.ch,j cr.bZ,j cr.bD]) (G1:=λv=>[(0,.obj [.lit v,ak ba bS.2.av.bw,ak bG bS.2.av.a8,ab bS.2.av.bx,ab bS.2.av.bB,ak bN bS.2.b4,ak ba bS.2.b0,ak cy bS.2.bK,j bS.2.ck,j bS.2.cm,ab bS.2.ch,j bS.2.bZ,j bS.2.bD]),(4,.obj (cq.cells ar)),(5,.obj (c6.cells a2)),(7,j bS.1),(67,.ptr ⟨0,[]⟩ 0),(69,j a2.At),(71,ab a2.Name)]) (G4:=λv=>[(72,.cA []),(0,.obj [.lit v,ak ba cr.av.bw,ak bG cr.av.a8,ab cr.av.bx,ab cr.av.bB,ak bN cr.b4,ak ba cr.b0,ak cy cr.bK,j cr.ck,j cr.cm,ab cr.ch,j cr.bZ,j cr.bD]),(4,.obj (cq.cells ar)),(5,.obj (c6.cells a2)),(7,j bS.1)]) (c4:=λv=>[.lit v,ak ba cr.av.bw,ak bG cr.av.a8,ab cr.av.bx,ab cr.av.bB,ak bN cr.b4,ak ba cr.b0,ak cy cr.bK,j cr.ck,j cr.cm,ab cr.ch,j cr.bZ,j cr.bD]) (G5:=[(72,.cA []),(0,.obj [ak br bS.2.av.a',ak ba cr.av.bw,ak bG cr.av.a8,ab cr.av.bx,ab cr.av.bB,ak bN cr.b4,ak ba cr.b0,ak cy cr.bK,j cr.ck,j cr.cm,ab cr.ch,j cr.bZ,j cr.bD]),(4,.obj (cq.cells ar)),(5,.obj (c6.cells a2)),(7,j bS.1)]) (A:=[(8,.ptr ⟨0,[0]⟩ (bS.1.toNat * br.z+0))]) q q q q (λv=>(.b q (.n q q (.n q q (.n q q (.p q q q q q q (.n q q (.n q q .nil)))))))) (λv=>h4.nF (G2:=[(4,.obj (cq.cells ar)),(5,.obj (c6.cells a2)),(7,j bS.1)]) (A:=[]) (ys:=[.ptr ⟨0,[]⟩ 0,j a2.At,ab a2.Name]) (args:=[.obj [.lit v,ak ba bS.2.av.bw,ak bG bS.2.av.a8,ab bS.2.av.bx,ab bS.2.av.bB,ak bN bS.2.b4,ak ba bS.2.b0,ak cy bS.2.bK,j bS.2.ck,j bS.2.cm,ab bS.2.ch,j bS.2.bZ,j bS.2.bD],j a2.At,ab a2.Name]) (cs':=[.lit v,ak ba cr.av.bw,ak bG cr.av.a8,ab cr.av.bx,ab cr.av.bB,ak bN cr.b4,ak ba cr.b0,ak cy cr.bK,j cr.ck,j cr.cm,ab cr.ch,j cr.bZ,j cr.bD]) (k0:=0) q q q q (.b q (.n q (.n q .nil))) q (Fa v bS.2 a2.At a2.Name _ j2) call94 (dj q q q) q q (dj q q q) .nil q) (λv=>q) (λv=>q) (λv=>q) (λv=>(.n q q (.b q (.n q q (.n q q (.n q q .nil)))))) q (.c (en:=br) (L:=bS.2.av.a') q q hn q q q .nil))<|nP (.n q (.n q (.n q (.n q (.r q (e'.el (en:=br) q hn q) j5 .nil)))))) ?_;obtain rfl:=aw h;exact ah.bL (.n q (.n q (.n q (.n q (.r q (e'.el (en:=br) q hn q) j5 .nil)))))
     ·refine W.bE ?_;obtain rfl:=aw h;exact ah.bL (.n q (.n q (.n q (.n q (.r q (e'.el (en:=br) q hn q) j5 .nil)))))
    obtain ⟨b9,hV,h⟩:=ay h;refine ah.aW<|W.rd [[],[],[],[2],[2,3],[2,3,4],[],[6],[6,7],[0,2,3,4,5],[0,2,3,4,5,9],[0,2,3,4,5,9,10],aM 0 12 [],aM 0 13 [],aM 0 14 []] [(0,_),(4,_),(5,_),(7,_),(8,.ptr ⟨0,[0]⟩ (bS.1.toNat * br.z+0))] d_ (by kernel_rfl) (ao 0 (O.az (.ptr q))<|ao 1 (O.az (.ptr q))<|ao 2 (O.az (.obj q))<|ao 3 (O.e9 (.ptr q))<|ao 4 (O.bd q (.ptr q) CA q)<|ao 5 (O.cw q (.ptr q) cx q)<|ao 6 (O.bd q (.obj q) oB q)<|ao 7 (O.cw q (.ptr q) cx q)<|ao 8 (O.sub (.lit q) (.k q))<|ao 9 (O.e9 (.ptr q))<|ao 10 (O.kl (en:=br) q (.ptr q) zm hV q q)<|bC.eh 11 (G2:=[(0,.obj [ak br (dG.av.a'.set bS.1.toNat (⟨b9.Name,b9.Lit,b9.cM,dG.bZ,b9.fh,b9.Tag⟩:bM)),ak ba dG.av.bw,ak bG dG.av.a8,ab dG.av.bx,ab dG.av.bB,ak bN dG.b4,ak ba dG.b0,ak cy dG.bK,j dG.ck,j dG.cm,ab dG.ch,j dG.bZ,j dG.bD]),(4,.obj (cq.cells ar)),(5,.obj (c6.cells a2)),(7,j bS.1),(8,.ptr ⟨0,[0]⟩ (bS.1.toNat * br.z+0))]) (U:=[(8,81,some (j (aL (ar.Kind - 1)))),(7,80,some (j ar.Kind)),(6,79,some (.ptr ⟨4,[]⟩ 0)),(1,74,some (.ptr ⟨0,[0]⟩ (bS.1.toNat * br.z+0)))]) (kU.v (cc.mY (cc.og (en:=br) (y2:=(⟨b9.Name,b9.Lit,b9.cM,dG.bZ,b9.fh,b9.Tag⟩:bM)) (cs':=[j dG.bZ]) (x2:=.obj [ak br (dG.av.a'.set bS.1.toNat (⟨b9.Name,b9.Lit,b9.cM,dG.bZ,b9.fh,b9.Tag⟩:bM)),ak ba dG.av.bw,ak bG dG.av.a8,ab dG.av.bx,ab dG.av.bB,ak bN dG.b4,ak ba dG.b0,ak cy dG.bK,j dG.ck,j dG.cm,ab dG.ch,j dG.bZ,j dG.bD]) q q (.ptr q) (.lit q) q hV nr q q q q q q q (.b q (.n q q (.n q q (.n q q (.e q q (.mk (en:=br) q hV q (nD hV) q) q .nil)))))))) q q (by kernel_rfl) q q q (.c (.inr (.inl ⟨_,q⟩)) q q q q q (gA.wanted .none) (O.sub (.lit q) (.k q)) (.c (.inr (.inl ⟨_,q⟩)) q q q q q (gA.wanted .none) (O.cw q (.ptr q) cx q) (.c (.inr (.inr (.inr (.inl ⟨4,_,_,q,q,jG q,by simp,_,q,jG q⟩)))) q q q q q (gA.wanted .none) (O.bd q (.obj q) oB q) (.c (.inr (.inr (.inl ⟨8,_,_,q,q,q,by simp⟩))) q q q q q (gA.wanted .none) (O.az (.ptr q)) .nil)))) (by kernel_rfl)<|ao 12 (O.e9 (.ptr q))<|ao 13 (O.kl (en:=br) q (.ptr q) CE (nD hV) q q)<|bC.iX 14 (G2:=[(0,.obj [ak br ((dG.av.a'.set bS.1.toNat (⟨b9.Name,b9.Lit,b9.cM,dG.bZ,b9.fh,b9.Tag⟩:bM)).set bS.1.toNat (⟨(⟨b9.Name,b9.Lit,b9.cM,dG.bZ,b9.fh,b9.Tag⟩:bM).Name,(⟨b9.Name,b9.Lit,b9.cM,dG.bZ,b9.fh,b9.Tag⟩:bM).Lit,(⟨b9.Name,b9.Lit,b9.cM,dG.bZ,b9.fh,b9.Tag⟩:bM).cM,(⟨b9.Name,b9.Lit,b9.cM,dG.bZ,b9.fh,b9.Tag⟩:bM).Level,aL (ar.Kind - 1),(⟨b9.Name,b9.Lit,b9.cM,dG.bZ,b9.fh,b9.Tag⟩:bM).Tag⟩:bM)),ak ba dG.av.bw,ak bG dG.av.a8,ab dG.av.bx,ab dG.av.bB,ak bN dG.b4,ak ba dG.b0,ak cy dG.bK,j dG.ck,j dG.cm,ab dG.ch,j dG.bZ,j dG.bD]),(4,.obj (cq.cells ar)),(5,.obj (c6.cells a2)),(7,j bS.1),(8,.ptr ⟨0,[0]⟩ (bS.1.toNat * br.z+0))]) (cc.og (en:=br) (y2:=(⟨(⟨b9.Name,b9.Lit,b9.cM,dG.bZ,b9.fh,b9.Tag⟩:bM).Name,(⟨b9.Name,b9.Lit,b9.cM,dG.bZ,b9.fh,b9.Tag⟩:bM).Lit,(⟨b9.Name,b9.Lit,b9.cM,dG.bZ,b9.fh,b9.Tag⟩:bM).cM,(⟨b9.Name,b9.Lit,b9.cM,dG.bZ,b9.fh,b9.Tag⟩:bM).Level,aL (ar.Kind - 1),(⟨b9.Name,b9.Lit,b9.cM,dG.bZ,b9.fh,b9.Tag⟩:bM).Tag⟩:bM)) (cs':=[j (aL (ar.Kind - 1))]) (x2:=.obj [ak br ((dG.av.a'.set bS.1.toNat (⟨b9.Name,b9.Lit,b9.cM,dG.bZ,b9.fh,b9.Tag⟩:bM)).set bS.1.toNat (⟨(⟨b9.Name,b9.Lit,b9.cM,dG.bZ,b9.fh,b9.Tag⟩:bM).Name,(⟨b9.Name,b9.Lit,b9.cM,dG.bZ,b9.fh,b9.Tag⟩:bM).Lit,(⟨b9.Name,b9.Lit,b9.cM,dG.bZ,b9.fh,b9.Tag⟩:bM).cM,(⟨b9.Name,b9.Lit,b9.cM,dG.bZ,b9.fh,b9.Tag⟩:bM).Level,aL (ar.Kind - 1),(⟨b9.Name,b9.Lit,b9.cM,dG.bZ,b9.fh,b9.Tag⟩:bM).Tag⟩:bM)),ak ba dG.av.bw,ak bG dG.av.a8,ab dG.av.bx,ab dG.av.bB,ak bN dG.b4,ak ba dG.b0,ak cy dG.bK,j dG.ck,j dG.cm,ab dG.ch,j dG.bZ,j dG.bD]) q q (.ptr q) (.lit q) q (nD hV) nr q q q q q q q (.b q (.n q q (.n q q (.n q q (.e q q (.mk (en:=br) q (nD hV) q (nD (nD hV)) q) q .nil)))))) q q q q (by kernel_rfl) (by kernel_rfl)<|bC.fin q q q (.n q (.n q (.n q (.n q (.r q (e'.el (en:=br) q (nD (nD hV)) q) j5 .nil)))))) ?_;obtain rfl:=aw h;exact ah.bL (.n q (.n q (.n q (.n q (.r q (e'.el (en:=br) q (nD (nD hV)) q) j5 .nil)))))
   ·refine W.bE ?_;obtain rfl:=aw h;exact ah.bL (.n q (.n q (.n q (.n q (.r q (e'.el (en:=br) q hn q) j5 .nil)))))
  obtain ⟨eV,jU,h⟩:=ay h;refine ah.aW<|W.aX ?_;refine W.rs [(0,_),(4,_),(5,_),(7,_),(8,.ptr ⟨0,[0]⟩ (bS.1.toNat * br.z+0)),(88,_)] (ag (O.bd q (.obj q) tI q)<|ag (O.cw q (.ptr q) cx q)<|ag (O.gtr (.lit q) (.k q))<|nP (.n q (.n q (.n q (.n q (.r q (e'.el (en:=br) q jU q) j5 (.n q .nil))))))) ?_;obtain ⟨fQ,aa,h⟩:=ay h;refine W.bL [(0,.obj (ee.cells fQ)),(4,.obj (cq.cells ar)),(5,.obj (c6.cells a2)),(8,.ptr ⟨0,[0]⟩ (bS.1.toNat * br.z+0))] ?_ ?_
  ·clear h; have h:=aa; clear aa;refine W.bz h q (λgn h=>?_) (λgn h=>?_)
   ·refine W.aX ?_;obtain ⟨Ci,aa,h⟩:=ay h;refine W.rs [(0,.obj (ee.cells fy)),(4,.obj (cq.cells ar)),(5,.obj (c6.cells a2)),(7,j bS.1),(8,.ptr ⟨0,[0]⟩ (bS.1.toNat * br.z+0)),(106,aY Ci)] ?_ ?_
    ·refine bq q<|ag (O.eql (.lit q) (.k q))<|ag (O.az (.lit q)) ?_;rcases cG aa with ⟨iY,aa⟩ | ⟨iY,aa⟩
     ·obtain rfl:=aw aa;exact cO iY<|cO iY<|cO iY<|cO iY<|cO iY<|cO iY<|cO iY<|ag (O.eQ (.lit q) iY (.k q))<|bq q<|cO q<|cO q<|cO q<|cO q<|cO q<|ag (O.eQ (.lit q) q (.k q))<|nP (.n q (.n q (.n q (.n q (.r q (e'.el (en:=br) q jU q) j5 (.n q .nil))))))
     ·refine a1 iY (O.az (.obj q))<|a1 iY (O.e9 (.ptr q))<|a1 iY (O.bd q (.ptr q) xn q)<|a1 iY (O.cK (y:=.bh bN.z ⟨0,[5]⟩ fy.b4.length) q (.ptr q) y4 q q)<|a1 iY (O.az (.lit q)) ?_;obtain ⟨gf,n4,aa⟩:=ay aa;refine a1 iY (O.gH (en:=bN) q (.bh q) (.lit q) oY n4 q)<|a1 iY (O.jr (en:=bN) (x':=aY gf) q (.ptr q) mX n4 q q)<|ag (O.cL (.lit q) iY (.lit q))<|ag (O.az (.lit q)) ?_;rcases cG aa with ⟨h7,aa⟩ | ⟨h7,aa⟩
      ·obtain rfl:=aw aa;exact cO h7<|cO h7<|cO h7<|cO h7<|cO h7<|ag (O.eQ (.lit q) h7 (.k q))<|nP (.n q (.n q (.n q (.n q (.r q (e'.el (en:=br) q jU q) j5 (.n q .nil))))))
      ·refine a1 h7 (O.az (.obj q))<|a1 h7 (O.bd q (.obj q) tI q)<|a1 h7 (O.cw q (.ptr q) cx q) ?_;obtain ⟨fU,kJ,aa⟩:=ay aa;obtain rfl:=aw aa;exact au.c (ct.vw (ys:=[.ptr ⟨0,[]⟩ 0,j a2.cM]) q (.c (View.oW q q) (.s .nil)) (JZ fy a2.cM _ kJ) call114 q) q q (.jJ q q h7)<|a1 h7 (O.geq (.lit q) (.k q))<|ag (O.cL (.lit q) h7 (.lit q))<|nP (.n q (.n q (.n q (.n q (.r q (e'.el (en:=br) q jU q) j5 (.n q .nil))))))
    obtain ⟨ey,aa,h⟩:=ay h;refine W.bL [(0,.obj (ee.cells ey)),(4,.obj (cq.cells ar)),(5,.obj (c6.cells a2)),(7,j bS.1),(8,.ptr ⟨0,[0]⟩ (bS.1.toNat * br.z+0))] ?_ ?_
    ·clear h; have h:=aa; clear aa;refine W.bz h q (λF1 h=>?_) (λF1 h=>?_)
     ·obtain ⟨dc,vC,h⟩:=ay h;refine W.rx [(0,_),(4,_),(5,_),(7,_),(8,.ptr ⟨0,[0]⟩ (bS.1.toNat * br.z+0))] (ag (O.az (.obj q))<|ag (O.bd q (.obj q) qF q)<|ag (O.cw q (.ptr q) cx q)<|ag (O.bd q (.obj q) ko q)<|ag (O.cw q (.ptr q) eN q)<|au.ha (G2:=[(8,.ptr ⟨0,[0]⟩ (bS.1.toNat * br.z+0))]++[(112,.cA []),(0,.obj [ak br fy.av.a',ak ba dc.av.bw,ak bG dc.av.a8,ab dc.av.bx,ab dc.av.bB,ak bN dc.b4,ak ba dc.b0,ak cy dc.bK,j dc.ck,j dc.cm,ab dc.ch,j dc.bZ,j dc.bD]),(4,.obj (cq.cells ar)),(5,.obj (c6.cells a2)),(7,j bS.1)]) q (cc.fI (r:=0) (k0:=0) (y:=ak br fy.av.a') (cs5:=[ak br fy.av.a',ak ba dc.av.bw,ak bG dc.av.a8,ab dc.av.bx,ab dc.av.bB,ak bN dc.b4,ak ba dc.b0,ak cy dc.bK,j dc.ck,j dc.cm,ab dc.ch,j dc.bZ,j dc.bD]) (G1:=λv=>[(0,.obj [.lit v,ak ba fy.av.bw,ak bG fy.av.a8,ab fy.av.bx,ab fy.av.bB,ak bN fy.b4,ak ba fy.b0,ak cy fy.bK,j fy.ck,j fy.cm,ab fy.ch,j fy.bZ,j fy.bD]),(4,.obj (cq.cells ar)),(5,.obj (c6.cells a2)),(7,j bS.1),(107,.ptr ⟨0,[]⟩ 0),(109,j a2.At),(111,ab a2.Name)]) (G4:=λv=>[(112,.cA []),(0,.obj [.lit v,ak ba dc.av.bw,ak bG dc.av.a8,ab dc.av.bx,ab dc.av.bB,ak bN dc.b4,ak ba dc.b0,ak cy dc.bK,j dc.ck,j dc.cm,ab dc.ch,j dc.bZ,j dc.bD]),(4,.obj (cq.cells ar)),(5,.obj (c6.cells a2)),(7,j bS.1)]) (c4:=λv=>[.lit v,ak ba dc.av.bw,ak bG dc.av.a8,ab dc.av.bx,ab dc.av.bB,ak bN dc.b4,ak ba dc.b0,ak cy dc.bK,j dc.ck,j dc.cm,ab dc.ch,j dc.bZ,j dc.bD]) (G5:=[(112,.cA []),(0,.obj [ak br fy.av.a',ak ba dc.av.bw,ak bG dc.av.a8,ab dc.av.bx,ab dc.av.bB,ak bN dc.b4,ak ba dc.b0,ak cy dc.bK,j dc.ck,j dc.cm,ab dc.ch,j dc.bZ,j dc.bD]),(4,.obj (cq.cells ar)),(5,.obj (c6.cells a2)),(7,j bS.1)]) (A:=[(8,.ptr ⟨0,[0]⟩ (bS.1.toNat * br.z+0))]) q q q q (λv=>(.b q (.n q q (.n q q (.n q q (.p q q q q q q (.n q q (.n q q .nil)))))))) (λv=>h4.nF (G2:=[(4,.obj (cq.cells ar)),(5,.obj (c6.cells a2)),(7,j bS.1)]) (A:=[]) (ys:=[.ptr ⟨0,[]⟩ 0,j a2.At,ab a2.Name]) (args:=[.obj [.lit v,ak ba fy.av.bw,ak bG fy.av.a8,ab fy.av.bx,ab fy.av.bB,ak bN fy.b4,ak ba fy.b0,ak cy fy.bK,j fy.ck,j fy.cm,ab fy.ch,j fy.bZ,j fy.bD],j a2.At,ab a2.Name]) (cs':=[.lit v,ak ba dc.av.bw,ak bG dc.av.a8,ab dc.av.bx,ab dc.av.bB,ak bN dc.b4,ak ba dc.b0,ak cy dc.bK,j dc.ck,j dc.cm,ab dc.ch,j dc.bZ,j dc.bD]) (k0:=0) q q q q (.b q (.n q (.n q .nil))) q (Fa v fy a2.At a2.Name _ vC) call94 (dj q q q) q q (dj q q q) .nil q) (λv=>q) (λv=>q) (λv=>q) (λv=>(.n q q (.b q (.n q q (.n q q (.n q q .nil)))))) q (.c (en:=br) (L:=fy.av.a') q q jU q q q .nil))<|nP (.n q (.n q (.n q (.n q (.r q (e'.el (en:=br) q jU q) j5 .nil)))))) ?_;obtain rfl:=aw h;exact ah.bL (.n q (.n q (.n q (.n q (.r q (e'.el (en:=br) q jU q) j5 .nil)))))
     ·refine W.bE ?_;obtain rfl:=aw h;exact ah.bL (.n q (.n q (.n q (.n q (.r q (e'.el (en:=br) q jU q) j5 .nil)))))
    obtain ⟨eX,l_,h⟩:=ay h;refine ah.aW<|W.rs [(0,_),(4,_),(5,_),(7,_),(8,.ptr ⟨0,[0]⟩ (bS.1.toNat * br.z+0))] (ag (O.az (.ptr q))<|ag (O.bd q (.obj q) tI q)<|ag (O.cw q (.ptr q) cx q)<|ag (O.e9 (.ptr q))<|ag (O.kl (en:=br) q (.ptr q) zl l_ q q)<|au.ha (G2:=[(0,.obj [ak br (ey.av.a'.set bS.1.toNat (⟨eX.Name,eX.Lit,a2.cM,eX.Level,eX.fh,eX.Tag⟩:bM)),ak ba ey.av.bw,ak bG ey.av.a8,ab ey.av.bx,ab ey.av.bB,ak bN ey.b4,ak ba ey.b0,ak cy ey.bK,j ey.ck,j ey.cm,ab ey.ch,j ey.bZ,j ey.bD]),(4,.obj (cq.cells ar)),(5,.obj (c6.cells a2)),(7,j bS.1),(8,.ptr ⟨0,[0]⟩ (bS.1.toNat * br.z+0))]) q (cc.og (en:=br) (y2:=(⟨eX.Name,eX.Lit,a2.cM,eX.Level,eX.fh,eX.Tag⟩:bM)) (cs':=[j a2.cM]) (x2:=.obj [ak br (ey.av.a'.set bS.1.toNat (⟨eX.Name,eX.Lit,a2.cM,eX.Level,eX.fh,eX.Tag⟩:bM)),ak ba ey.av.bw,ak bG ey.av.a8,ab ey.av.bx,ab ey.av.bB,ak bN ey.b4,ak ba ey.b0,ak cy ey.bK,j ey.ck,j ey.cm,ab ey.ch,j ey.bZ,j ey.bD]) q q (.ptr q) (.lit q) q l_ nr q q q q q q q (.b q (.n q q (.n q q (.n q q (.e q q (.mk (en:=br) q l_ q (nD l_) q) q .nil))))))<|nP (.n q (.n q (.n q (.n q (.r q (e'.el (en:=br) q (nD l_) q) j5 .nil)))))) ?_;obtain ⟨h2,n5,h⟩:=ay h;refine W.rx [(0,_),(4,_),(5,_),(8,.ptr ⟨0,[0]⟩ (bS.1.toNat * br.z+0))] (ag (O.az (.obj q))<|ag (O.e9 (.ptr q))<|ag (O.bd q (.ptr q) xn q)<|ag (O.cK (y:=.bh bN.z ⟨0,[5]⟩ ey.b4.length) q (.ptr q) y4 q q)<|bq q<|ag (O.gH (en:=bN) q (.bh q) (.lit q) oY n5 q)<|au.ha (G2:=[(0,.obj [ak br (ey.av.a'.set bS.1.toNat (⟨eX.Name,eX.Lit,a2.cM,eX.Level,eX.fh,eX.Tag⟩:bM)),ak ba ey.av.bw,ak bG ey.av.a8,ab ey.av.bx,ab ey.av.bB,ak bN (ey.b4.set bS.1.toNat true),ak ba ey.b0,ak cy ey.bK,j ey.ck,j ey.cm,ab ey.ch,j ey.bZ,j ey.bD]),(4,.obj (cq.cells ar)),(5,.obj (c6.cells a2)),(8,.ptr ⟨0,[0]⟩ (bS.1.toNat * br.z+0))]) q (cc.og (en:=bN) (y2:=true) (cs':=[aY true]) (x2:=.obj [ak br (ey.av.a'.set bS.1.toNat (⟨eX.Name,eX.Lit,a2.cM,eX.Level,eX.fh,eX.Tag⟩:bM)),ak ba ey.av.bw,ak bG ey.av.a8,ab ey.av.bx,ab ey.av.bB,ak bN (ey.b4.set bS.1.toNat true),ak ba ey.b0,ak cy ey.bK,j ey.ck,j ey.cm,ab ey.ch,j ey.bZ,j ey.bD]) q q (.ptr q) (.k q) q n5 uQ q q q q q q q (.b q (.n q q (.n q q (.e q q (.mk (en:=br) q (nD l_) q (nD l_) q) q .nil)))))<|nP (.n q (.n q (.n q (.r q (e'.el (en:=br) q (nD l_) q) j5 .nil))))) ?_;obtain rfl:=aw h;exact ah.bL (.n q (.n q (.n q (.r q (e'.el (en:=br) q (nD l_) q) j5 .nil))))
   ·refine W.bE ?_;obtain rfl:=aw h;exact ah.bL (.n q (.n q (.n q (.r q (e'.el (en:=br) q jU q) j5 .nil))))
  obtain ⟨jb,nf,h⟩:=ay h;refine ah.aW<|W.rs [(0,_),(4,_),(5,_),(8,.ptr ⟨0,[0]⟩ (bS.1.toNat * br.z+0)),(126,_)] (ag (O.bd q (.obj q) nw q)<|ag (O.cw q (.ptr q) eN q)<|ag (O.ma (.lit q) (.k q))<|nP (.n q (.n q (.n q (.r q (e'.el (en:=br) q nf q) j5 (.n q .nil)))))) ?_;obtain ⟨oQ,aa,h⟩:=ay h;refine W.bL [(0,.obj (ee.cells oQ))] ?_ ?_
  ·clear h; have h:=aa; clear aa;refine W.bz h q (λkI h=>?_) (λkI h=>?_)
   ·refine W.aX<|W.aX ?_;obtain ⟨qB,aa,h⟩:=ay h;refine W.rd [[],[0],[0,1],[0,1,2],[0,1,2,3],aM 0 5 [],aM 0 6 [],aM 0 7 [],aM 0 8 [],aM 0 9 [],aM 0 6 [],aM 0 6 [10],aM 0 12 [],aM 0 13 []] [(0,.obj (ee.cells fQ)),(4,.obj (cq.cells ar)),(5,.obj (c6.cells a2)),(8,.ptr ⟨0,[0]⟩ (bS.1.toNat * br.z+0)),(140,aY qB)] d_ (by kernel_rfl) ?_ ?_
    ·refine ao 0 (O.az (.ptr q))<|ao 1 (O.e9 (.ptr q))<|ao 2 (O.kl (en:=br) q (.ptr q) CF nf q q)<|ao 3 (O.jr (en:=br) (x':=ab jb.Tag) q (.ptr q) eN nf q q)<|ao 4 (O.ma (.lit q) (.k q))<|ao 5 (O.az (.lit q)) ?_;rcases cG aa with ⟨gb,aa⟩ | ⟨gb,aa⟩
     ·obtain rfl:=aw aa;exact bV 6 gb (O.az (.ptr q))<|bV 7 gb (O.e9 (.ptr q))<|bV 8 gb (O.kl (en:=br) q (.ptr q) CF nf q q)<|bV 9 gb (O.jr (en:=br) (x':=ab jb.Tag) q (.ptr q) eN nf q q)<|bV 10 gb (O.bd q (.obj q) nw q)<|bV 11 gb (O.cw q (.ptr q) eN q)<|bV 12 gb (O.ma (.lit q) (.lit q))<|ao 13 (O.eQ (.lit q) gb (.lit q))<|bC.fin q q q (.n q (.n q (.n q (.r q (e'.el (en:=br) q nf q) j5 (.n q .nil)))))
     ·obtain rfl:=aw aa;exact aN 6 gb<|aN 7 gb<|aN 8 gb<|aN 9 gb<|aN 10 gb<|aN 11 gb<|aN 12 gb<|ao 13 (O.cL (.lit q) gb (.k q))<|bC.fin q q q (.n q (.n q (.n q (.r q (e'.el (en:=br) q nf q) j5 (.n q .nil)))))
    refine ah.aW ?_;obtain ⟨gI,aa,h⟩:=ay h;refine W.bL [(0,.obj (ee.cells gI)),(4,.obj (cq.cells ar)),(8,.ptr ⟨0,[0]⟩ (bS.1.toNat * br.z+0))] ?_ ?_
    ·clear h; have h:=aa; clear aa;refine W.bz h q (λrM h=>?_) (λrM h=>?_)
     ·obtain ⟨dm,xP,h⟩:=ay h;refine W.rx [(0,_),(4,_),(8,.ptr ⟨0,[0]⟩ (bS.1.toNat * br.z+0))] (ag (O.az (.obj q))<|ag (O.bd q (.obj q) qF q)<|ag (O.cw q (.ptr q) cx q)<|ag (O.bd q (.obj q) ko q)<|ag (O.cw q (.ptr q) eN q)<|au.ha (G2:=[(8,.ptr ⟨0,[0]⟩ (bS.1.toNat * br.z+0))]++[(146,.cA []),(0,.obj [ak br fQ.av.a',ak ba dm.av.bw,ak bG dm.av.a8,ab dm.av.bx,ab dm.av.bB,ak bN dm.b4,ak ba dm.b0,ak cy dm.bK,j dm.ck,j dm.cm,ab dm.ch,j dm.bZ,j dm.bD]),(4,.obj (cq.cells ar))]) q (cc.fI (r:=0) (k0:=0) (y:=ak br fQ.av.a') (cs5:=[ak br fQ.av.a',ak ba dm.av.bw,ak bG dm.av.a8,ab dm.av.bx,ab dm.av.bB,ak bN dm.b4,ak ba dm.b0,ak cy dm.bK,j dm.ck,j dm.cm,ab dm.ch,j dm.bZ,j dm.bD]) (G1:=λv=>[(0,.obj [.lit v,ak ba fQ.av.bw,ak bG fQ.av.a8,ab fQ.av.bx,ab fQ.av.bB,ak bN fQ.b4,ak ba fQ.b0,ak cy fQ.bK,j fQ.ck,j fQ.cm,ab fQ.ch,j fQ.bZ,j fQ.bD]),(4,.obj (cq.cells ar)),(141,.ptr ⟨0,[]⟩ 0),(143,j a2.At),(145,ab a2.Name)]) (G4:=λv=>[(146,.cA []),(0,.obj [.lit v,ak ba dm.av.bw,ak bG dm.av.a8,ab dm.av.bx,ab dm.av.bB,ak bN dm.b4,ak ba dm.b0,ak cy dm.bK,j dm.ck,j dm.cm,ab dm.ch,j dm.bZ,j dm.bD]),(4,.obj (cq.cells ar))]) (c4:=λv=>[.lit v,ak ba dm.av.bw,ak bG dm.av.a8,ab dm.av.bx,ab dm.av.bB,ak bN dm.b4,ak ba dm.b0,ak cy dm.bK,j dm.ck,j dm.cm,ab dm.ch,j dm.bZ,j dm.bD]) (G5:=[(146,.cA []),(0,.obj [ak br fQ.av.a',ak ba dm.av.bw,ak bG dm.av.a8,ab dm.av.bx,ab dm.av.bB,ak bN dm.b4,ak ba dm.b0,ak cy dm.bK,j dm.ck,j dm.cm,ab dm.ch,j dm.bZ,j dm.bD]),(4,.obj (cq.cells ar))]) (A:=[(8,.ptr ⟨0,[0]⟩ (bS.1.toNat * br.z+0))]) q q q q (λv=>(.b q (.n q q (.p q q q q q q (.n q q (.n q q .nil)))))) (λv=>h4.nF (G2:=[(4,.obj (cq.cells ar))]) (A:=[]) (ys:=[.ptr ⟨0,[]⟩ 0,j a2.At,ab a2.Name]) (args:=[.obj [.lit v,ak ba fQ.av.bw,ak bG fQ.av.a8,ab fQ.av.bx,ab fQ.av.bB,ak bN fQ.b4,ak ba fQ.b0,ak cy fQ.bK,j fQ.ck,j fQ.cm,ab fQ.ch,j fQ.bZ,j fQ.bD],j a2.At,ab a2.Name]) (cs':=[.lit v,ak ba dm.av.bw,ak bG dm.av.a8,ab dm.av.bx,ab dm.av.bB,ak bN dm.b4,ak ba dm.b0,ak cy dm.bK,j dm.ck,j dm.cm,ab dm.ch,j dm.bZ,j dm.bD]) (k0:=0) q q q q (.b q (.n q (.n q .nil))) q (Fa v fQ a2.At a2.Name _ xP) call94 (.n q .nil) q q (.n q .nil) .nil q) (λv=>q) (λv=>q) (λv=>q) (λv=>(.n q q (.b q (.n q q .nil)))) q (.c (en:=br) (L:=fQ.av.a') q q nf q q q .nil))<|nP (.n q (.n q (.r q (e'.el (en:=br) q nf q) j5 .nil)))) ?_;obtain rfl:=aw h;exact ah.bL (.n q (.n q (.r q (e'.el (en:=br) q nf q) j5 .nil)))
     ·refine W.bE ?_;obtain rfl:=aw h;exact ah.bL (.n q (.n q (.r q (e'.el (en:=br) q nf q) j5 .nil)))
    obtain ⟨h',rT,h⟩:=ay h;refine ah.aW<|W.bo [0] (ag (O.az (.ptr q))<|ag (O.bd q (.obj q) nw q)<|ag (O.cw q (.ptr q) eN q)<|ag (O.e9 (.ptr q))<|ag (O.kl (en:=br) q (.ptr q) CF rT q q)<|au.ha (G2:=[(0,.obj [ak br (gI.av.a'.set bS.1.toNat (⟨h'.Name,h'.Lit,h'.cM,h'.Level,h'.fh,ar.Tag⟩:bM)),ak ba gI.av.bw,ak bG gI.av.a8,ab gI.av.bx,ab gI.av.bB,ak bN gI.b4,ak ba gI.b0,ak cy gI.bK,j gI.ck,j gI.cm,ab gI.ch,j gI.bZ,j gI.bD])]) q (cc.og (en:=br) (y2:=(⟨h'.Name,h'.Lit,h'.cM,h'.Level,h'.fh,ar.Tag⟩:bM)) (cs':=[ab ar.Tag]) (x2:=.obj [ak br (gI.av.a'.set bS.1.toNat (⟨h'.Name,h'.Lit,h'.cM,h'.Level,h'.fh,ar.Tag⟩:bM)),ak ba gI.av.bw,ak bG gI.av.a8,ab gI.av.bx,ab gI.av.bB,ak bN gI.b4,ak ba gI.b0,ak cy gI.bK,j gI.ck,j gI.cm,ab gI.ch,j gI.bZ,j gI.bD]) q q (.ptr q) (.lit q) q rT wy q q q q q q q (.b q .nil))<|bR q) ?_;obtain rfl:=aw h;exact ah.bL (.n q .nil)
   ·refine W.bE ?_;obtain rfl:=aw h;exact ah.bL (.n q .nil)
  obtain rfl:=aw h;exact ah.fin (Fin.ro .nil q (oT (by kernel_rfl)) (.aC q q (.no (.no .nil))) q (.inl q))
theorem xh (a0:cU) (ar:ByteArray) (r:Int) (h:rY a0 ar=some r):b6 Try.prog 96 [.bn ([ai br a0.av.a',ai ba a0.av.bw,ai bG a0.av.a8,ab a0.av.bx,ab a0.av.bB,ai bN a0.b4,ai ba a0.b0,ai cy a0.bK,j a0.ck,j a0.cm,ab a0.ch,j a0.bZ,j a0.bD]),ab ar] [none,none] (j r):=by
 unfold rY at h;refine b6.go (N:=⟨25,[]⟩) Try.func96 q q q q (W.fin ?_);refine W.st [(0,.bn ([ai br a0.av.a',ai ba a0.av.bw,ai bG a0.av.a8,ab a0.av.bx,ab a0.av.bB,ai bN a0.b4,ai ba a0.b0,ai cy a0.bK,j a0.ck,j a0.cm,ab a0.ch,j a0.bZ,j a0.bD])),(1,ab ar)] ?_;refine W.aT [0,1] ?_;refine W.aX<|W.aT [0,1,5] ?_;refine W.bl ?_;obtain ⟨x2,aq,h⟩:=ay h;refine W.cf (G1:=[(0,_),(1,_),(5,_)]) (dj q q q) ?_;refine W.iM (s:=0) (λ(s1:Int)=>[(0,.bn ([ai br a0.av.a',ai ba a0.av.bw,ai bG a0.av.a8,ab a0.av.bx,ab a0.av.bB,ai bN a0.b4,ai ba a0.b0,ai cy a0.bK,j a0.ck,j a0.cm,ab a0.ch,j a0.bZ,j a0.bD])),(1,ab ar),(5,j s1)]) 0 (λ(a6:Unit)=>[]) (λ(bQ:Int)=>[(4,j bQ)]) aq (λs1 o h=>?_) (λa6 J=>?_) (λbQ J=>?_)
 ·clear aq;refine W.aX<|W.aT [0,1,5,12] ?_;refine W.bz h q (λdZ h=>?_) (λdZ h=>?_)
  ·refine W.bE<|ah.aW ?_;refine W.aX<|W.bl ?_;obtain ⟨bJ,fL,h⟩:=ay h;refine W.aT [0,1,5,23] ?_;refine W.bz h q (λc7 h=>?_) (λc7 h=>?_)
   ·refine W.aT [4] ?_;refine W.rt ?_;refine ah.dP ?_;refine ah.cP ?_;obtain rfl:=aw h;exact ah.fR (.n q .nil)
   ·refine W.bE<|ah.bl ?_;refine ah.aW<|W.bo [0,1,5] (bq q<|ag (O.add (.lit q) (.k q))<|au.bo [0,1,14] q<|au.aV) ?_;obtain rfl:=aw h;exact ah.go (dj q q q)
  ·refine W.c9 ?_;refine ah.c8 ?_;obtain rfl:=aw h;exact ah.x2 .nil
 ·subst J;refine ah.c_ ?_;refine ah.aW<|W.aT [4] ?_;refine W.rt ?_;obtain rfl:=aw h;exact cu (.f q q .nil)
 ·subst J;refine ah.dP ?_;refine ah.cP ?_;obtain rfl:=aw h;exact cu (.f q q .nil)
theorem J0 (a0:cU) (ar:Sym) (r:Int × cU) (h:uA a0 ar=some r):b6 Try.prog 115 [.obj (ee.cells a0),.agg (c6.cells ar)] [some (.obj [ak br r.2.av.a',ak ba r.2.av.bw,ak bG r.2.av.a8,ab r.2.av.bx,ab r.2.av.bB,ak bN r.2.b4,ak ba r.2.b0,ak cy r.2.bK,j r.2.ck,j r.2.cm,ab r.2.ch,j r.2.bZ,j r.2.bD]),none] (j r.1):=by
 unfold uA at h;refine b6.go (N:=⟨32,[0]⟩) Try.func115 q q q q (W.fin ?_);refine W.st [(0,.obj (ee.cells a0)),(1,.agg (c6.cells ar))] ?_;refine W.bI [0,3] (ag (O.box (.b2 q q) q)<|au.aV) ?_;refine W.aX<|W.aT [0,3,8] ?_;refine W.bz h q (λc3 h=>?_) (λc3 h=>?_)
 ·obtain ⟨x2,gG,h⟩:=ay h;refine W.bI [0,4] (ag (O.az (.obj q))<|ag (O.dJ (cs':=[ab ar.Name,aY ar.Lit,j ar.cM,j ar.At]) q (.obj q) j9 q q)<|au.ha q (cc.call q q (h4.nF (G2:=[]) (A:=[]) (ys:=[.ptr ⟨0,[]⟩ 0,.agg (c6.cells ar)]) (args:=[.obj (ee.cells a0),.agg (c6.cells ar)]) (cs':=[ak br x2.2.av.a',ak ba x2.2.av.bw,ak bG x2.2.av.a8,ab x2.2.av.bx,ab x2.2.av.bB,ak bN x2.2.b4,ak ba x2.2.b0,ak cy x2.2.bK,j x2.2.ck,j x2.2.cm,ab x2.2.ch,j x2.2.bZ,j x2.2.bD]) (k0:=0) q q q q (.b q (.n q .nil)) q (JY a0 ar _ gG) call113 .nil q q .nil .nil q))<|au.aV) ?_;refine W.rt ?_;refine ah.cP ?_;obtain rfl:=aw h;exact ah.fin (Fin.ro (.f q q .nil) q (oT (by kernel_rfl)) (.aC q q (.no .nil)) q (.inr q))
 ·refine W.bE<|ah.aW ?_;refine W.aX ?_;obtain ⟨a6,hK,h⟩:=ay h;refine W.bI [0,3,5] (ag (O.az (.obj q))<|ag (O.bd q (.obj q) ko q)<|ag (O.cw q (.ptr q) eN q)<|dV (ct.vw (ys:=[.ptr ⟨0,[]⟩ 0,ab ar.Name]) q (.c (View.oW q q) (.s .nil)) (xh a0 ar.Name _ hK) call96 q)<|au.aV) ?_;refine W.aT [0,3,5,17] ?_;refine W.bz h q (λdg h=>?_) (λdg h=>?_)
  ·refine W.aT [0,4] ?_;refine W.rt ?_;refine ah.cP ?_;obtain rfl:=aw h;exact ah.fin (Fin.ro (.f q q .nil) q (oT (by kernel_rfl)) (.aC q q (.no .nil)) q (.inr q))
  ·refine W.bE<|ah.aW ?_;obtain ⟨b',jV,h⟩:=ay h;refine W.bI [0,3,6] (ag (O.az (.obj q))<|ag (O.dJ (cs':=[ab ar.Name,aY ar.Lit,j ar.cM,j ar.At]) q (.obj q) j9 q q)<|dV (ct.vw (ys:=[.ptr ⟨0,[]⟩ 0,.agg (c6.cells ar)]) q (.c (View.oW q q) (.c (.sf (.s (.s (.s (.s .nil))))) .nil)) (E_ a0 ar _ jV) call95 q)<|au.aV) ?_;refine W.aX<|W.aT [0,3,6,24] ?_;refine W.bz h q (λdO h=>?_) (λdO h=>?_)
   ·obtain ⟨a_,fJ,h⟩:=ay h;refine W.bI [0] (ag (O.az (.obj q))<|ag (O.bd q (.obj q) qF q)<|ag (O.cw q (.ptr q) cx q)<|ag (O.bd q (.obj q) ko q)<|ag (O.cw q (.ptr q) eN q)<|au.ha q (cc.call q q (h4.nF (G2:=[]) (A:=[]) (ys:=[.ptr ⟨0,[]⟩ 0,j ar.At,ab ar.Name]) (args:=[.obj (ee.cells a0),j ar.At,ab ar.Name]) (cs':=[ak br a_.av.a',ak ba a_.av.bw,ak bG a_.av.a8,ab a_.av.bx,ab a_.av.bB,ak bN a_.b4,ak ba a_.b0,ak cy a_.bK,j a_.ck,j a_.cm,ab a_.ch,j a_.bZ,j a_.bD]) (k0:=0) q q q q (.b q (.n q (.n q .nil))) q (vf a0 ar.At ar.Name _ fJ) call94 .nil q q .nil .nil q))<|bR q) ?_;refine W.aT [0,4] ?_;refine W.rt ?_;refine ah.cP ?_;obtain rfl:=aw h;exact ah.fin (Fin.ro (.f q q .nil) q (oT (by kernel_rfl)) (.aC q q (.no .nil)) q (.inr q))
   ·refine W.bE<|ah.aW ?_;refine W.aT [0,4] ?_;refine W.rt ?_;obtain rfl:=aw h;exact ah.fin (Fin.ro (.f q q .nil) q (oT (by kernel_rfl)) (.aC q q (.no .nil)) q (.inr q))
theorem Qf (a0:cU) (ar:ByteArray) (a2:Alt) (r:cU) (h:Bi a0 ar a2=some r):b6 Try.prog 97 [.obj (ee.cells a0),ab ar,.agg (dq.cells a2)] [some (.obj [ak br r.av.a',ak ba r.av.bw,ak bG r.av.a8,ab r.av.bx,ab r.av.bB,ak bN r.b4,ak ba r.b0,ak cy r.bK,j r.ck,j r.cm,ab r.ch,j r.bZ,j r.bD]),none,none] (.cA []):=by
 unfold Bi at h;refine b6.go (N:=⟨173,[0]⟩) Try.func97 q q q q (W.fin ?_);refine W.st [(0,.obj (ee.cells a0)),(1,ab ar),(2,.agg (dq.cells a2))] ?_;refine W.bI [0,1,5] (ag (O.box (.b2 q q) q)<|bR q) ?_;refine W.aX ?_;obtain ⟨aE,ff,h⟩:=ay h;refine W.rd [[],[],[0,1],[0,1,2],[],[4],aM 0 6 [],[],aM 0 8 []] [(0,_),(5,_),(6,_)] d_ (by kernel_rfl) (ao 0 (O.az (.obj q))<|ao 1 (O.az (.lit q))<|gL 2 (ct.vw (ys:=[.ptr ⟨0,[]⟩ 0,ab ar]) q (.c (View.oW q q) (.s .nil)) (xh a0 ar _ ff) call96 q)<|ao 3 (O.add (.k q) (.lit q))<|ao 4 (O.bd q (.obj q) Fm q)<|ao 5 (O.cw q (.ptr q) cx q)<|ao 6 (O.eh (cs:=[j (aL (1+aE)),.aF,j (-1),ab aB,.aF,j a2.At]) Ij BG q q q)<|ao 7 (O.e6 (cs:=[j 0,.aF,j 0,ab aB,.aF,j 0]) BG q q)<|bC.dx 8 (G2:=[(0,.obj (ee.cells a0)),(5,.obj (dq.cells a2)),(6,.obj [j (aL (1+aE)),.aF,j (-1),ab aB,.aF,j a2.At])]) (cs2:=[j (aL (1+aE)),.aF,j (-1),ab aB,.aF,j a2.At]) q (by kernel_rfl) (by kernel_rfl) q q q (.obj q) (.b2 q q) q Nq q q q q (.n q q (.n q q (.b q .nil)))<|bC.fin q q q (dj q q q)) ?_;refine ah.aW<|W.aX ?_;refine W.aT [0,5,6,7] ?_;refine W.bl ?_;obtain ⟨a6,aq,h⟩:=ay h;refine W.cf (G1:=[(0,_),(5,_),(6,.obj [j (aL (1+aE)),ak aI ([]:List Int),j (-1),ab aB,.aF,j a2.At]),(7,_)]) (.n q (.n q (.w q q (jO.obj (.f (.o (.f (.f (.f (.f .nil))))))) (.n q .nil)))) ?_;refine W.eH (s:=(a0,([]:List Int),aB,a2.At,0)) (λ(s2:cU × List Int × ByteArray × Int × Int)=>[(0,.obj (ee.cells s2.1)),(5,.obj (dq.cells a2)),(6,.obj [j (aL (1+aE)),ak aI s2.2.1,j (-1),ab s2.2.2.1,.aF,j s2.2.2.2.1]),(7,j s2.2.2.2.2)]) 0 (λ(a6:cU × List Int × ByteArray × Int)=>[(0,.obj (ee.cells a6.1)),(5,.obj (dq.cells a2)),(6,.obj [j (aL (1+aE)),ak aI a6.2.1,j (-1),ab a6.2.2.1,.aF,j a6.2.2.2])]) aq (λs2 o h=>?_) ?_
 ·clear aq;refine W.aX<|W.aT [0,5,6,7,21] ?_;refine W.bz h q (λdZ h=>?_) (λdZ h=>?_)
  ·refine W.bE<|ah.aW ?_;refine W.aX ?_;obtain ⟨jq,aa,h⟩:=ay h;refine W.bL [(0,.obj (ee.cells jq.1)),(5,.obj (dq.cells a2)),(6,.obj [j (aL (1+aE)),ak aI jq.2.1,j (-1),ab jq.2.2.1,.aF,j jq.2.2.2]),(7,j s2.2.2.2.2)] ?_ ?_
   ·clear h; have h:=aa; clear aa;refine W.bl ?_;obtain ⟨a_,fJ,h⟩:=ay h;refine W.bI [0,5,6,7,8] (ag (O.bd q (.obj q) pr q)<|ag (O.cK (y:=ai er a2.ia) q (.ptr q) sr q q)<|bq q<|ag (O.cv (.aD q) (.lit q) qp fJ)<|ag (O.hX (cs':=[ab a_.Sym.Name,aY a_.Sym.Lit,j a_.Sym.cM,j a_.Sym.At,ab a_.Code,j a_.At]) (.bn q) yR q q)<|ag (O.e6 (cs:=[ab aB,aY false,j 0,j 0,ab aB,j 0]) qt q q)<|au.dx (G2:=[(0,_),(5,_),(6,_),(7,_),(8,_)]) (cs2:=[ab a_.Sym.Name,aY a_.Sym.Lit,j a_.Sym.cM,j a_.Sym.At,ab a_.Code,j a_.At]) q (.obj q) (.b2 q q) q D7 q q q q (.n q q (.n q q (.n q q (.n q q (.b q .nil)))))<|bR q) ?_;obtain ⟨fq,aa,h⟩:=ay h;refine W.bL [(0,.obj (ee.cells fq.1)),(5,.obj (dq.cells a2)),(6,.obj [j (aL (1+aE)),ak aI fq.2.1,j (-1),ab fq.2.2.1,.aF,j fq.2.2.2]),(7,j s2.2.2.2.2)] ?_ ?_
    ·clear h; have h:=aa; clear aa;refine W.bl<|W.aT [0,5,6,7,8,82] ?_;obtain ⟨pG,aa,h⟩:=ay h;refine W.bL [(0,.obj (ee.cells pG.1)),(5,.obj (dq.cells a2)),(6,.obj [j (aL (1+aE)),ak aI pG.2.1,j (-1),ab pG.2.2.1,.aF,j pG.2.2.2]),(7,j s2.2.2.2.2)] ?_ ?_
     ·clear h; have h:=aa; clear aa;refine W.bz h q (λev h=>?_) (λev h=>?_)
      ·obtain ⟨bO,hn,h⟩:=ay h;obtain ⟨cH,jT,h⟩:=ay h;refine W.rd [[],[0],[],[],[3],[2,3,4],[2,3,4,5],aM 0 7 [],aM 0 8 [],aM 0 9 []] [(0,_),(5,_),(6,_),(7,_)] d_ (by kernel_rfl) (ao 0 (O.bd q (.obj q) mZ q)<|ao 1 (O.cK (y:=.bh aI.z ⟨6,[1]⟩ s2.2.1.length) q (.ptr q) gN q q)<|ao 2 (O.az (.obj q))<|ao 3 (O.bd q (.obj q) xr q)<|ao 4 (O.dJ (cs':=[ab a_.Sym.Name,aY a_.Sym.Lit,j a_.Sym.cM,j a_.Sym.At]) q (.ptr q) j9 q q)<|bC.eh 5 (G2:=(6,.obj [j (aL (1+aE)),ak aI s2.2.1,j (-1),ab s2.2.2.1,.aF,j s2.2.2.2.1])::[(91,j bO.1),(0,.obj [ak br bO.2.av.a',ak ba bO.2.av.bw,ak bG bO.2.av.a8,ab bO.2.av.bx,ab bO.2.av.bB,ak bN bO.2.b4,ak ba bO.2.b0,ak cy bO.2.bK,j bO.2.ck,j bO.2.cm,ab bO.2.ch,j bO.2.bZ,j bO.2.bD]),(5,.obj (dq.cells a2)),(7,j s2.2.2.2.2)]) (U:=[(1,87,some (.bh aI.z ⟨6,[1]⟩ s2.2.1.length)),(0,86,some (.ptr ⟨6,[]⟩ 1))]) (o7.box (r:=6) (G1:=[(0,.obj (ee.cells s2.1)),(5,.obj (dq.cells a2)),(7,j s2.2.2.2.2),(88,.ptr ⟨0,[]⟩ 0),(90,.agg (c6.cells a_.Sym))]) (G2:=[(91,j bO.1),(0,.obj [ak br bO.2.av.a',ak ba bO.2.av.bw,ak bG bO.2.av.a8,ab bO.2.av.bx,ab bO.2.av.bB,ak bN bO.2.b4,ak ba bO.2.b0,ak cy bO.2.bK,j bO.2.ck,j bO.2.cm,ab bO.2.ch,j bO.2.bZ,j bO.2.bD]),(5,.obj (dq.cells a2)),(7,j s2.2.2.2.2)]) (cc.call q q (h4.nF (G2:=[(5,.obj (dq.cells a2)),(7,j s2.2.2.2.2)]) (A:=[]) (ys:=[.ptr ⟨0,[]⟩ 0,.agg (c6.cells a_.Sym)]) (args:=[.obj (ee.cells s2.1),.agg (c6.cells a_.Sym)]) (cs':=[ak br bO.2.av.a',ak ba bO.2.av.bw,ak bG bO.2.av.a8,ab bO.2.av.bx,ab bO.2.av.bB,ak bN bO.2.b4,ak ba bO.2.b0,ak cy bO.2.bK,j bO.2.ck,j bO.2.cm,ab bO.2.ch,j bO.2.bZ,j bO.2.bD]) (k0:=0) q q q q (.b q (.n q .nil)) q (J0 s2.1 a_.Sym _ hn) call115 (e_ q q) q q (e_ q q) .nil q)) q (.n q (.n q (.n q (.q q q q (.n q .nil))))) q q q) q q (by kernel_rfl) q q q (.c (.inl ⟨6,[1],_,_,_,_,q,by simp [q7],q,q,Nat.le_refl _⟩) q q q q q (gA.wanted .none) (O.cK (y:=.bh aI.z ⟨6,[1]⟩ s2.2.1.length) q (.ptr q) gN q q) (.c (.inr (.inr (.inr (.inl ⟨6,_,_,q,q,jG q,by simp,_,q,jG q⟩)))) q q q q q (gA.wanted .none) (O.bd q (.obj q) mZ q) .nil)) (by kernel_rfl)<|bC.fT 6 (x:=ai aI [bO.1]) (O.dF (ys:=[j bO.1]) aI [bO.1] eE q q q q q q nN q q) q q q q .none<|ao 7 (O.ap (en:=aI) (r:=cH) (.bh q) q (.aD q) .i p4 q jT)<|ao 8 (O.bd q (.obj q) mZ q)<|bC.iX 9 (G2:=[(0,.obj (ee.cells bO.2)),(5,.obj (dq.cells a2)),(6,.obj [j (aL (1+aE)),ak aI (s2.2.1++[bO.1]),j (-1),ab s2.2.2.1,.aF,j s2.2.2.2.1]),(7,j s2.2.2.2.2)]) (cc.kr (g1:=_) (en:=aI) (M:=[bO.1]) (cs2:=[j (aL (1+aE)),ak aI (s2.2.1++[bO.1]),j (-1),ab s2.2.2.1,.aF,j s2.2.2.2.1]) q q (.ptr q) (.bY q) q q q .js .gE q q wx q q q q (.n q q (.n q q (.b q (.n q q .nil))))) q q q q (by kernel_rfl) (by kernel_rfl)<|bC.fin q q q (dQ q q q q)) ?_;obtain rfl:=aw h;exact ah.bL (dQ q q q q)
      ·refine W.aT [0,5,6,7,8,95] ?_;obtain ⟨jo,aa,h⟩:=ay h;refine W.bL [(0,.obj [ak br s2.1.av.a',ak ba s2.1.av.bw,ak bG jo.1,ab s2.1.av.bx,ab s2.1.av.bB,ak bN s2.1.b4,ak ba s2.1.b0,ak cy s2.1.bK,j s2.1.ck,j s2.1.cm,ab s2.1.ch,j s2.1.bZ,j jo.2.1]),(5,.obj (dq.cells a2)),(6,.obj [j (aL (1+aE)),ak aI jo.2.2.1,j (-1),ab jo.2.2.2.1,.aF,j jo.2.2.2.2]),(7,j s2.2.2.2.2)] ?_ ?_
       ·clear h; have h:=aa; clear aa;refine W.bz h q (λeK h=>?_) (λeK h=>?_)
        ·refine W.rd [[],[0],[],[2],[0,1],[0,1,4],aM 0 6 [],aM 0 7 []] [(0,_),(5,_),(6,_),(7,_)] d_ (by kernel_rfl) (ao 0 (O.bd q (.obj q) qG q)<|ao 1 (O.cw q (.ptr q) eN q)<|ao 2 (O.bd q (.obj q) zn q)<|ao 3 (O.cw q (.ptr q) cx q)<|ao 4 (O.bd q (.obj q) Kr q)<|bC.eh 5 (G2:=[(0,.obj (ee.cells s2.1)),(5,.obj (dq.cells a2)),(6,.obj [j (aL (1+aE)),ak aI s2.2.1,j (-1),ab a_.Code,.aF,j s2.2.2.2.1]),(7,j s2.2.2.2.2),(8,.obj (er.cells a_))]) (U:=[(3,105,some (j a_.At)),(2,104,some (.ptr ⟨8,[]⟩ 5))]) (kU.v (cc.mY (cc.dx (G2:=[(0,.obj (ee.cells s2.1)),(5,.obj (dq.cells a2)),(6,.obj [j (aL (1+aE)),ak aI s2.2.1,j (-1),ab a_.Code,.aF,j s2.2.2.2.1]),(7,j s2.2.2.2.2),(8,.obj (er.cells a_))]) (cs2:=[j (aL (1+aE)),ak aI s2.2.1,j (-1),ab a_.Code,.aF,j s2.2.2.2.1]) q q q (.ptr q) (.lit q) q wy q q q q (.n q q (.n q q (.b q (.n q q (.n q q .nil)))))))) q q (by kernel_rfl) q q q (.c (.inr (.inl ⟨_,q⟩)) q q q q q (gA.wanted .none) (O.cw q (.ptr q) cx q) (.c (.inr (.inr (.inr (.inl ⟨8,_,_,q,q,jG q,by simp,_,q,jG q⟩)))) q q q q q (gA.wanted .none) (O.bd q (.obj q) zn q) .nil)) (by kernel_rfl)<|ao 6 (O.bd q (.obj q) Kt q)<|bC.dx 7 (G2:=[(0,.obj (ee.cells s2.1)),(5,.obj (dq.cells a2)),(6,.obj [j (aL (1+aE)),ak aI s2.2.1,j (-1),ab a_.Code,.aF,j a_.At]),(7,j s2.2.2.2.2)]) (cs2:=[j (aL (1+aE)),ak aI s2.2.1,j (-1),ab a_.Code,.aF,j a_.At]) q (by kernel_rfl) (by kernel_rfl) q q q (.ptr q) (.lit q) q nr q q q q (.n q q (.n q q (.b q (.n q q .nil))))<|bC.fin q q q (dQ q q q q)) ?_;obtain rfl:=aw h;exact ah.bL (dQ q q q q)
        ·refine W.bI [0,5,6,7,8] (ag (O.az (.obj q))<|ag (O.e9 (.ptr q))<|ag (O.bd q (.ptr q) zi q)<|ag (O.cw q (.ptr q) cx q)<|ag (O.add (.lit q) (.k q))<|ag (O.e9 (.ptr q))<|ag (O.bd q (.ptr q) zi q)<|au.dx (G2:=[(0,_),(5,_),(6,_),(7,_),(8,_)]) (cs2:=[ak br s2.1.av.a',ak ba s2.1.av.bw,ak bG s2.1.av.a8,ab s2.1.av.bx,ab s2.1.av.bB,ak bN s2.1.b4,ak ba s2.1.b0,ak cy s2.1.bK,j s2.1.ck,j s2.1.cm,ab s2.1.ch,j s2.1.bZ,j (aL (s2.1.bD+1))]) q (.ptr q) (.lit q) q nr q q q q (.b q (.n q q (.n q q (.n q q (.n q q .nil)))))<|bR q) ?_;refine W.aX ?_;obtain ⟨cS,hU,h⟩:=ay h;obtain ⟨cr,j2,h⟩:=ay h;refine W.rd [[],[],[1],[1,2],[1,2,3],[1,2,3,4],[],[6],[6,7],[6,7,8],[6,7,8,9],[],[11],[11,12],[11,12,13],aM 6 9 [],[],[16],[],[],[19],[18,19,20],[],[22],aM 6 18 [],aM 6 19 [],aM 1 25 [],aM 0 27 [],aM 0 28 [],aM 0 29 [],aM 0 30 []] [(0,_),(5,_),(6,_),(7,_)] d_ (by kernel_rfl) (ao 0 (O.az (.obj q))<|ao 1 (O.az (.obj q))<|ao 2 (O.e9 (.ptr q))<|ao 3 (O.bd q (.ptr q) km q)<|ao 4 (O.bd q (.ptr q) ln q)<|ao 5 (O.cK (y:=.bh bG.z ⟨0,[2]⟩ s2.1.av.a8.length) q (.ptr q) mo q q)<|ao 6 (O.az (.obj q))<|ao 7 (O.e9 (.ptr q))<|ao 8 (O.bd q (.ptr q) xo q)<|ao 9 (O.cK (y:=.bh cy.z ⟨0,[7]⟩ s2.1.bK.length) q (.ptr q) y5 q q)<|ao 10 (O.pJ (.bh q) Bs)<|ao 11 (O.az (.obj q))<|ao 12 (O.e9 (.ptr q))<|ao 13 (O.bd q (.ptr q) zi q)<|ao 14 (O.cw q (.ptr q) cx q)<|ao 15 (O.add (.lit q) (.lit q))<|ao 16 (O.bd q (.obj q) qG q)<|ao 17 (O.cw q (.ptr q) eN q)<|ao 18 (O.dF (ys:=[]) aI ([]:List Int) eE q q q q q q nN q q)<|ao 19 (O.bd q (.obj q) mZ q)<|ao 20 (O.cK (y:=.bh aI.z ⟨6,[1]⟩ s2.2.1.length) q (.ptr q) gN q q)<|ao 21 (O.ap (en:=aI) (r:=cS) (.own q) q (.bh q) (.flat aI q) p4 q hU)<|ao 22 (O.bd q (.obj q) zn q)<|ao 23 (O.cw q (.ptr q) cx q)<|ao 24 (O.eh (cs:=[j (aL ((s2.1.bK.length:Int)+(aL (s2.1.bD+1)))),.aF,j (-1),ab a_.Code,.bh aI.z ⟨57,[]⟩ (([]:List Int).length+s2.2.1.length),j a_.At]) Ij BG q q q)<|ao 25 (O.pg (ys:=[.agg [j (aL ((s2.1.bK.length:Int)+(aL (s2.1.bD+1)))),.aF,j (-1),ab a_.Code,.bh aI.z ⟨57,[]⟩ (([]:List Int).length+s2.2.1.length),j a_.At]]) (cs:=[j (aL ((s2.1.bK.length:Int)+(aL (s2.1.bD+1)))),.aF,j (-1),ab a_.Code,.bh aI.z ⟨57,[]⟩ (([]:List Int).length+s2.2.1.length),j a_.At]) mP q q q q q IT q q)<|ao 26 (O.Oy (en:=bG) (M:=[(⟨aL ((s2.1.bK.length:Int)+(aL (s2.1.bD+1))),([]:List Int),(-1),a_.Code,([]:List Int)++s2.2.1,a_.At⟩:Prod)]) (r:=cr) (.bh q) q (.own q) q q q q Jk q j2 (Mo (by kernel_rfl) (by kernel_rfl)))<|ao 27 (O.e9 (.ptr q))<|ao 28 (O.bd q (.ptr q) km q)<|ao 29 (O.bd q (.ptr q) ln q)<|bC.iX 30 (G2:=[(0,.obj [ak br s2.1.av.a',ak ba s2.1.av.bw,ak bG (s2.1.av.a8++[(⟨aL ((s2.1.bK.length:Int)+(aL (s2.1.bD+1))),([]:List Int),(-1),a_.Code,([]:List Int)++s2.2.1,a_.At⟩:Prod)]),ab s2.1.av.bx,ab s2.1.av.bB,ak bN s2.1.b4,ak ba s2.1.b0,ak cy s2.1.bK,j s2.1.ck,j s2.1.cm,ab s2.1.ch,j s2.1.bZ,j (aL (s2.1.bD+1))]),(5,.obj (dq.cells a2)),(6,.obj [j (aL (1+aE)),ak aI s2.2.1,j (-1),ab s2.2.2.1,.aF,j s2.2.2.2.1]),(7,j s2.2.2.2.2)]) (cc.kr (g1:=_) (en:=bG) (M:=[(⟨aL ((s2.1.bK.length:Int)+(aL (s2.1.bD+1))),([]:List Int),(-1),a_.Code,([]:List Int)++s2.2.1,a_.At⟩:Prod)]) (cs2:=[ak br s2.1.av.a',ak ba s2.1.av.bw,ak bG (s2.1.av.a8++[(⟨aL ((s2.1.bK.length:Int)+(aL (s2.1.bD+1))),([]:List Int),(-1),a_.Code,([]:List Int)++s2.2.1,a_.At⟩:Prod)]),ab s2.1.av.bx,ab s2.1.av.bB,ak bN s2.1.b4,ak ba s2.1.b0,ak cy s2.1.bK,j s2.1.ck,j s2.1.cm,ab s2.1.ch,j s2.1.bZ,j (aL (s2.1.bD+1))]) q q (.ptr q) (.bY q) q q q (.f (.f (.f (.f (.lP q q q .js (.f .nil)))))) (.f (.z (.f (.f (.z (hv:=kC.lP q q) (.f .nil)))))) q q Ix q q q q (.b q (.n q q (.n q q (.n q q .nil))))) q q q q (by kernel_rfl) (by kernel_rfl)<|bC.fin q q q (dQ q q q q)) ?_;refine ah.aW ?_;obtain ⟨b9,hV,h⟩:=ay h;refine W.rd [[],[0],[],[2],[2,3],[2,3,4],[2,3,4,5],aM 2 5 [],[],[8],[8,9],[8,9,10],aM 2 10 [],aM 2 11 [],aM 0 14 [],aM 0 15 [],aM 0 16 []] [(0,_),(5,_),(6,_),(7,_)] d_ (by kernel_rfl) (ao 0 (O.bd q (.obj q) mZ q)<|ao 1 (O.cK (y:=.bh aI.z ⟨6,[1]⟩ s2.2.1.length) q (.ptr q) gN q q)<|ao 2 (O.az (.obj q))<|ao 3 (O.e9 (.ptr q))<|ao 4 (O.bd q (.ptr q) xo q)<|ao 5 (O.cK (y:=.bh cy.z ⟨0,[7]⟩ s2.1.bK.length) q (.ptr q) y5 q q)<|ao 6 (O.pJ (.bh q) Bs)<|ao 7 (O.add (.k q) (.lit q))<|ao 8 (O.az (.obj q))<|ao 9 (O.e9 (.ptr q))<|ao 10 (O.bd q (.ptr q) zi q)<|ao 11 (O.cw q (.ptr q) cx q)<|ao 12 (O.add (.lit q) (.lit q))<|bC.fT 13 (x:=ai aI [aL ((aL (1000+(s2.1.bK.length:Int)))+(aL (s2.1.bD+1)))]) (O.dF (ys:=[j (aL ((aL (1000+(s2.1.bK.length:Int)))+(aL (s2.1.bD+1))))]) aI [aL ((aL (1000+(s2.1.bK.length:Int)))+(aL (s2.1.bD+1)))] eE q q q q q q nN q q) q q q q .none<|ao 14 (O.ap (en:=aI) (r:=b9) (.bh q) q (.aD q) .i p4 q hV)<|ao 15 (O.bd q (.obj q) mZ q)<|bC.iX 16 (G2:=[(0,.obj [ak br s2.1.av.a',ak ba s2.1.av.bw,ak bG (s2.1.av.a8++[(⟨aL ((s2.1.bK.length:Int)+(aL (s2.1.bD+1))),([]:List Int),(-1),a_.Code,([]:List Int)++s2.2.1,a_.At⟩:Prod)]),ab s2.1.av.bx,ab s2.1.av.bB,ak bN s2.1.b4,ak ba s2.1.b0,ak cy s2.1.bK,j s2.1.ck,j s2.1.cm,ab s2.1.ch,j s2.1.bZ,j (aL (s2.1.bD+1))]),(5,.obj (dq.cells a2)),(6,.obj [j (aL (1+aE)),ak aI (s2.2.1++[aL ((aL (1000+(s2.1.bK.length:Int)))+(aL (s2.1.bD+1)))]),j (-1),ab s2.2.2.1,.aF,j s2.2.2.2.1]),(7,j s2.2.2.2.2)]) (cc.kr (g1:=_) (en:=aI) (M:=[aL ((aL (1000+(s2.1.bK.length:Int)))+(aL (s2.1.bD+1)))]) (cs2:=[j (aL (1+aE)),ak aI (s2.2.1++[aL ((aL (1000+(s2.1.bK.length:Int)))+(aL (s2.1.bD+1)))]),j (-1),ab s2.2.2.1,.aF,j s2.2.2.2.1]) q q (.ptr q) (.bY q) q q q .js .gE q q wx q q q q (.n q q (.n q q (.b q (.n q q .nil))))) q q q q (by kernel_rfl) (by kernel_rfl)<|bC.fin q q q (dQ q q q q)) ?_;obtain rfl:=aw h;exact ah.bL (dQ q q q q)
       obtain rfl:=aw h;exact ah.bL (dQ q q q q)
     refine ah.bl ?_;obtain rfl:=aw h;exact ah.bL (dQ q q q q)
    refine ah.bl ?_;obtain rfl:=aw h;exact ah.bL (dQ q q q q)
   refine ah.aW<|W.bo [0,5,6,7] (bq q<|ag (O.add (.lit q) (.k q))<|au.bo [0,5,6,23] q<|au.aV) ?_;obtain rfl:=aw h;exact ah.go (dQ q q q q)
  ·refine W.c9 ?_;refine ah.c8 ?_;obtain rfl:=aw h;exact ah.aE (dj q q q)
 refine ah.c_ ?_;refine ah.aW<|W.aX ?_;refine W.aT [0,5,6,9] ?_;refine W.bl ?_;obtain ⟨fv,aq,h⟩:=ay h;refine W.cf (G1:=[(0,_),(5,_),(6,_),(9,_)]) (dQ q q q q) ?_;refine W.eH (s:=((-1),0)) (λ(qm:Int × Int)=>[(0,.obj (ee.cells a6.1)),(5,.obj (dq.cells a2)),(6,.obj [j (aL (1+aE)),ak aI a6.2.1,j qm.1,ab a6.2.2.1,.aF,j a6.2.2.2]),(9,j qm.2)]) 3 (λ(fv:Int)=>[(0,.obj (ee.cells a6.1)),(5,.obj (dq.cells a2)),(6,.obj [j (aL (1+aE)),ak aI a6.2.1,j fv,ab a6.2.2.1,.aF,j a6.2.2.2])]) aq (λqm o h=>?_) ?_
 ·clear aq;refine W.aX<|W.aT [0,5,6,9,112] ?_;refine W.bz h q (λiY h=>?_) (λiY h=>?_)
  ·refine W.bE<|ah.aW ?_;refine W.aX ?_;obtain ⟨n_,aa,h⟩:=ay h;refine W.bL [(0,.obj (ee.cells a6.1)),(5,.obj (dq.cells a2)),(6,.obj [j (aL (1+aE)),ak aI a6.2.1,j n_,ab a6.2.2.1,.aF,j a6.2.2.2]),(9,j qm.2)] ?_ ?_
   ·clear h; have h:=aa; clear aa;refine W.bl ?_;obtain ⟨eW,nc,h⟩:=ay h;refine W.bI [0,5,6,9,120] (ag (O.bd q (.obj q) mZ q)<|ag (O.cK (y:=.bh aI.z ⟨6,[1]⟩ a6.2.1.length) q (.ptr q) gN q q)<|bq q<|ag (O.gH (en:=aI) q (.bh q) (.lit q) eE nc q)<|ag (O.jr (en:=aI) (x':=j eW) q (.ptr q) cx nc q q)<|au.aV) ?_;obtain ⟨Ah,aa,h⟩:=ay h;refine W.bL [(0,.obj (ee.cells a6.1)),(5,.obj (dq.cells a2)),(6,.obj [j (aL (1+aE)),ak aI a6.2.1,j Ah,ab a6.2.2.1,.aF,j a6.2.2.2]),(9,j qm.2)] ?_ ?_
    ·clear h; have h:=aa; clear aa;refine W.bz h q (λjh h=>?_) (λjh h=>?_)
     ·obtain ⟨gV,qW,h⟩:=ay h;refine W.bo [0,5,6,9] (ag (O.bd q (.obj q) mZ q)<|ag (O.cK (y:=.bh aI.z ⟨6,[1]⟩ a6.2.1.length) q (.ptr q) gN q q)<|bq q<|ag (O.gH (en:=aI) q (.bh q) (.lit q) eE qW q)<|ag (O.jr (en:=aI) (x':=j gV) q (.ptr q) cx qW q q)<|ag (O.bd q (.obj q) xl q)<|au.dx (G2:=[(0,_),(5,_),(6,_),(9,_)]) (cs2:=[j (aL (1+aE)),ak aI a6.2.1,j gV,ab a6.2.2.1,.aF,j a6.2.2.2]) q (.ptr q) (.lit q) q nr q q q q (.n q q (.n q q (.b q (.n q q .nil))))<|bR q) ?_;obtain rfl:=aw h;exact ah.bL (dQ q q q q)
     ·refine W.bE ?_;obtain rfl:=aw h;exact ah.bL (dQ q q q q)
    refine ah.bl ?_;obtain rfl:=aw h;exact ah.bL (dQ q q q q)
   refine ah.aW<|W.bo [0,5,6,9] (bq q<|ag (O.add (.lit q) (.k q))<|au.bo [0,5,6,114] q<|au.aV) ?_;obtain rfl:=aw h;exact ah.go (dQ q q q q)
  ·refine W.c9 ?_;refine ah.c8 ?_;obtain rfl:=aw h;exact ah.aE (dj q q q)
 refine ah.c_ ?_;refine ah.aW<|W.aX ?_;refine W.aT [0,5,6,130] ?_;obtain ⟨fA,aa,h⟩:=ay h;refine W.bL [(0,.obj (ee.cells fA.1)),(6,.obj [j (aL (1+aE)),ak aI a6.2.1,j fA.2,ab a6.2.2.1,.aF,j a6.2.2.2])] ?_ ?_
 ·clear h; have h:=aa; clear aa;refine W.bz h q (λhT h=>?_) (λhT h=>?_)
  ·refine W.bI [0,5,6] (ag (O.bd q (.obj q) xl q)<|au.dx (G2:=[(0,_),(5,_),(6,_)]) (cs2:=[j (aL (1+aE)),ak aI a6.2.1,j (-1),ab a6.2.2.1,.aF,j a6.2.2.2]) q (.ptr q) (.k q) q nr q q q q (.n q q (.n q q (.b q .nil)))<|bR q) ?_;obtain ⟨sl,aa,h⟩:=ay h;refine W.rs [(0,.obj (ee.cells a6.1)),(5,.obj (dq.cells a2)),(6,.obj [j (aL (1+aE)),ak aI a6.2.1,j (-1),ab a6.2.2.1,.aF,j a6.2.2.2]),(142,aY sl)] ?_ ?_
   ·refine ag (O.bd q (.obj q) sz q)<|ag (O.bd q (.ptr q) tH q)<|ag (O.cw q (.ptr q) mX q)<|ag (O.az (.lit q)) ?_;rcases cG aa with ⟨tR,aa⟩ | ⟨tR,aa⟩
    ·obtain rfl:=aw aa;exact au.aV
    ·refine a1 tR (O.az (.obj q))<|a1 tR (O.bd q (.obj q) sz q)<|a1 tR (O.bd q (.ptr q) ko q)<|a1 tR (O.cw q (.ptr q) eN q) ?_;obtain ⟨h2,n5,aa⟩:=ay aa;obtain rfl:=aw aa;exact au.c (ct.vw (ys:=[.ptr ⟨0,[]⟩ 0,ab a2.Prec.Name]) q (.c (View.oW q q) (.s .nil)) (xh a6.1 a2.Prec.Name _ n5) call96 q) q q (.jJ q q tR)<|au.aV
   obtain ⟨oQ,aa,h⟩:=ay h;refine W.bL [(0,.obj (ee.cells oQ.1)),(6,.obj [j (aL (1+aE)),ak aI a6.2.1,j oQ.2,ab a6.2.2.1,.aF,j a6.2.2.2])] ?_ ?_
   ·clear h; have h:=aa; clear aa;refine W.bz h q (λkI h=>?_) (λkI h=>?_)
    ·obtain ⟨gW,pD,h⟩:=ay h;refine W.bo [0,6] (ag (O.az (.obj q))<|ag (O.bd q (.obj q) sz q)<|ag (O.dJ (cs':=[ab a2.Prec.Name,aY a2.Prec.Lit,j a2.Prec.cM,j a2.Prec.At]) q (.ptr q) j9 q q)<|au.ha q (cc.call q q (h4.nF (G2:=[(6,.obj [j (aL (1+aE)),ak aI a6.2.1,j (-1),ab a6.2.2.1,.aF,j a6.2.2.2])]) (A:=[]) (ys:=[.ptr ⟨0,[]⟩ 0,.agg (c6.cells a2.Prec)]) (args:=[.obj (ee.cells a6.1),.agg (c6.cells a2.Prec)]) (cs':=[ak br gW.2.av.a',ak ba gW.2.av.bw,ak bG gW.2.av.a8,ab gW.2.av.bx,ab gW.2.av.bB,ak bN gW.2.b4,ak ba gW.2.b0,ak cy gW.2.bK,j gW.2.ck,j gW.2.cm,ab gW.2.ch,j gW.2.bZ,j gW.2.bD]) (k0:=0) q q q q (.b q (.n q .nil)) q (J0 a6.1 a2.Prec _ pD) call115 (.n q .nil) q q (.n q .nil) .nil q))<|ag (O.bd q (.obj q) xl q)<|au.dx (G2:=[(0,_),(6,_)]) (cs2:=[j (aL (1+aE)),ak aI a6.2.1,j gW.1,ab a6.2.2.1,.aF,j a6.2.2.2]) q (.ptr q) (.lit q) q nr q q q q (.n q q (.b q .nil))<|bR q) ?_;obtain rfl:=aw h;exact ah.bL (e_ q q)
    ·obtain ⟨fC,vD,h⟩:=ay h;refine W.bo [0,6] (ag (O.az (.obj q))<|ag (O.bd q (.obj q) sz q)<|ag (O.bd q (.ptr q) qF q)<|ag (O.cw q (.ptr q) cx q)<|ag (O.bd q (.obj q) sz q)<|ag (O.bd q (.ptr q) ko q)<|ag (O.cw q (.ptr q) eN q)<|au.ha q (cc.call q q (h4.nF (G2:=[(6,.obj [j (aL (1+aE)),ak aI a6.2.1,j (-1),ab a6.2.2.1,.aF,j a6.2.2.2])]) (A:=[]) (ys:=[.ptr ⟨0,[]⟩ 0,j a2.Prec.At,ab a2.Prec.Name]) (args:=[.obj (ee.cells a6.1),j a2.Prec.At,ab a2.Prec.Name]) (cs':=[ak br fC.av.a',ak ba fC.av.bw,ak bG fC.av.a8,ab fC.av.bx,ab fC.av.bB,ak bN fC.b4,ak ba fC.b0,ak cy fC.bK,j fC.ck,j fC.cm,ab fC.ch,j fC.bZ,j fC.bD]) (k0:=0) q q q q (.b q (.n q (.n q .nil))) q (vf a6.1 a2.Prec.At a2.Prec.Name _ vD) call94 (.n q .nil) q q (.n q .nil) .nil q))<|bR q) ?_;obtain rfl:=aw h;exact ah.bL (e_ q q)
   obtain rfl:=aw h;exact ah.bL (e_ q q)
  ·refine W.bE ?_;obtain rfl:=aw h;exact ah.bL (e_ q q)
 refine ah.aW ?_;obtain ⟨iR,qX,h⟩:=ay h;refine W.bI [0,6] (ag (O.dF (ys:=[]) aI ([]:List Int) eE q q q q q q nN q q)<|ag (O.bd q (.obj q) mZ q)<|ag (O.cK (y:=.bh aI.z ⟨6,[1]⟩ a6.2.1.length) q (.ptr q) gN q q)<|ag (O.ap (en:=aI) (r:=iR) (.own q) q (.bh q) (.flat aI q) p4 q qX)<|ag (O.bd q (.obj q) Ks q)<|au.ha (G2:=[(0,.obj (ee.cells fA.1)),(6,.obj [j (aL (1+aE)),ak aI a6.2.1,j fA.2,ab a6.2.2.1,ak aI (([]:List Int)++a6.2.1),j a6.2.2.2])]) q (cc.kr (g1:=_) (en:=aI) (M:=a6.2.1) (cs2:=[j (aL (1+aE)),ak aI a6.2.1,j fA.2,ab a6.2.2.1,ak aI (([]:List Int)++a6.2.1),j a6.2.2.2]) q q (.ptr q) (.bY q) q q q .js .gE q q wx q q q q (.n q q (.b q .nil)))<|bR q) ?_;refine W.e7 (G1:=[(0,_),(6,.obj [j (aL (1+aE)),ai aI a6.2.1,j fA.2,ab a6.2.2.1,ak aI (([]:List Int)++a6.2.1),j a6.2.2.2])]) [6] (.n q q (.z q q (gl.obj (.f (.z (.f (.f (.f (.f .nil))))))) .nil)) ?_;refine W.e7 (G1:=[(0,_),(6,.obj [j (aL (1+aE)),ai aI a6.2.1,j fA.2,ab a6.2.2.1,ai aI (([]:List Int)++a6.2.1),j a6.2.2.2])]) [6] (.n q q (.z q q (gl.obj (.f (.f (.f (.f (.z (.f .nil))))))) .nil)) ?_;obtain ⟨jt,lL,h⟩:=ay h;refine W.rd [[],[],[1],[1,2],[1,2,3],[1,2,3,4],[],[6],aM 1 7 [],aM 0 9 [],aM 0 10 [],aM 0 11 [],aM 0 12 []] [(0,_)] d_ (by kernel_rfl) (ao 0 (O.az (.obj q))<|ao 1 (O.az (.obj q))<|ao 2 (O.e9 (.ptr q))<|ao 3 (O.bd q (.ptr q) km q)<|ao 4 (O.bd q (.ptr q) ln q)<|ao 5 (O.cK (y:=.bh bG.z ⟨0,[2]⟩ fA.1.av.a8.length) q (.ptr q) mo q q)<|ao 6 (O.dJ (cs':=[j (aL (1+aE)),ai aI a6.2.1,j fA.2,ab a6.2.2.1,ai aI (([]:List Int)++a6.2.1),j a6.2.2.2]) q (.obj q) Jt q q)<|bC.fT 7 (x:=ai bG [(⟨aL (1+aE),a6.2.1,fA.2,a6.2.2.1,([]:List Int)++a6.2.1,a6.2.2.2⟩:Prod)]) (O.dF (ys:=[.agg [j (aL (1+aE)),ai aI a6.2.1,j fA.2,ab a6.2.2.1,ai aI (([]:List Int)++a6.2.1),j a6.2.2.2]]) bG [(⟨aL (1+aE),a6.2.1,fA.2,a6.2.2.1,([]:List Int)++a6.2.1,a6.2.2.2⟩:Prod)] mP q q q q q q IT q q) q q q q .none<|ao 8 (O.ap (en:=bG) (r:=jt) (.bh q) q (.aD q) .i Jk q lL)<|ao 9 (O.e9 (.ptr q))<|ao 10 (O.bd q (.ptr q) km q)<|ao 11 (O.bd q (.ptr q) ln q)<|bC.iX 12 (G2:=[(0,.obj [ak br fA.1.av.a',ak ba fA.1.av.bw,ak bG (fA.1.av.a8++[(⟨aL (1+aE),a6.2.1,fA.2,a6.2.2.1,([]:List Int)++a6.2.1,a6.2.2.2⟩:Prod)]),ab fA.1.av.bx,ab fA.1.av.bB,ak bN fA.1.b4,ak ba fA.1.b0,ak cy fA.1.bK,j fA.1.ck,j fA.1.cm,ab fA.1.ch,j fA.1.bZ,j fA.1.bD])]) (cc.kr (g1:=_) (en:=bG) (M:=[(⟨aL (1+aE),a6.2.1,fA.2,a6.2.2.1,([]:List Int)++a6.2.1,a6.2.2.2⟩:Prod)]) (cs2:=[ak br fA.1.av.a',ak ba fA.1.av.bw,ak bG (fA.1.av.a8++[(⟨aL (1+aE),a6.2.1,fA.2,a6.2.2.1,([]:List Int)++a6.2.1,a6.2.2.2⟩:Prod)]),ab fA.1.av.bx,ab fA.1.av.bB,ak bN fA.1.b4,ak ba fA.1.b0,ak cy fA.1.bK,j fA.1.ck,j fA.1.cm,ab fA.1.ch,j fA.1.bZ,j fA.1.bD]) q q (.ptr q) (.bY q) q q q .js .gE q q Ix q q q q (.b q .nil)) q q q q (by kernel_rfl) (by kernel_rfl)<|bC.fin q q q (.n q .nil)) ?_;obtain rfl:=aw h;exact ah.fin (Fin.ro .nil q (oT (by kernel_rfl)) (.aC q q (.no (.no .nil))) q (.inl q))
theorem Qg (a0:Int) (r:ByteArray) (h:Bj a0=some r):b6 Try.prog 99 [j a0] [none] (ab r):=by
 unfold Bj at h;refine b6.go (N:=⟨32,[]⟩) Try.func99 q q q q (W.fin ?_);refine W.st [(0,j a0)] ?_;refine W.aT [0] ?_;refine W.bI [0,3] (bq q<|ag (O.tF (.lit q) vK Me)<|au.aV) ?_;refine W.aX<|W.aT [0,3,8] ?_;obtain ⟨jn,aa,h⟩:=ay h;refine W.bL [(0,j a0),(3,.lit (.int .u64 jn))] ?_ ?_
 ·clear h; have h:=aa; clear aa;refine W.bz h q (λcZ h=>?_) (λcZ h=>?_)
  ·refine W.bo [0,3] (bq q<|ag (O.neg (.lit q))<|au.bo [0,10] q<|au.aV) ?_;obtain rfl:=aw h;exact ah.bL (e_ q q)
  ·refine W.bE ?_;obtain rfl:=aw h;exact ah.bL (e_ q q)
 refine ah.aW<|W.aT [0,3,4] ?_;refine W.aX<|W.bl ?_;obtain ⟨bQ,aq,h⟩:=ay h;refine W.cf (G1:=[(0,_),(3,_),(4,_)]) (dj q q q) ?_;refine W.eH (s:=(jn,aB)) (λ(df:Int × ByteArray)=>[(0,j a0),(3,.lit (.int .u64 df.1)),(4,ab df.2)]) 0 (λ(bQ:ByteArray)=>[(0,j a0),(4,ab bQ)]) aq (λdf o h=>?_) ?_
 ·clear aq;refine W.aX ?_;obtain ⟨nV,aa,h⟩:=ay h;refine W.rs [(0,j a0),(3,.lit (.int .u64 df.1)),(4,ab df.2),(16,aY nV)] ?_ ?_
  ·refine bq q<|ag (O.gtr (.lit q) (.k q))<|ag (O.az (.lit q)) ?_;rcases cG aa with ⟨dO,aa⟩ | ⟨dO,aa⟩
   ·obtain rfl:=aw aa;exact au.aV
   ·obtain rfl:=aw aa;exact au.aV
  refine W.bz h q (λcW h=>?_) (λcW h=>?_)
  ·refine W.bE<|ah.aW ?_;refine W.bl ?_;obtain ⟨cn,ir,h⟩:=ay h;obtain ⟨bS,h8,h⟩:=ay h;refine W.bI [0,3,4] (bq q<|ag (O.s_ (.lit q) (.k q) ir)<|ag (O.add (.k q) (.lit q))<|ag (O.tF (.lit q) Me Dm)<|au.fT (x:=ai nY [ho (IntKind.u64.wrap (48+cn))]) (O.dF (ys:=[lX (ho (IntKind.u64.wrap (48+cn)))]) nY [ho (IntKind.u64.wrap (48+cn))] D2 q q q q q q IU q q) q q .none<|ag (O.Fb (.aD q) EL)<|bq q<|ag (O.cat (.lit q) (.lit q) h8)<|au.bo [0,3,24] q<|au.aV) ?_;obtain ⟨bO,hn,h⟩:=ay h;refine W.bo [0,3,4] (bq q<|ag (O.s8 (.lit q) (.k q) hn)<|au.bo [0,4,26] q<|au.aV) ?_;refine ah.bl ?_;obtain rfl:=aw h;exact ah.go (dj q q q)
  ·refine W.c9 ?_;refine ah.c8 ?_;obtain rfl:=aw h;exact ah.aE (e_ q q)
 refine ah.c_ ?_;refine ah.aW<|W.aX ?_;refine W.aT [4,28] ?_;refine W.bz h q (λek h=>?_) (λek h=>?_)
 ·obtain ⟨dL,jl,h⟩:=ay h;refine W.bI [2] (bq q<|ag (O.cat (.k q) (.lit q) jl)<|au.aV) ?_;refine W.rt ?_;refine ah.cP ?_;obtain rfl:=aw h;exact cu (.f q q .nil)
 ·refine W.bE<|ah.aW ?_;refine W.aT [2] ?_;refine W.rt ?_;obtain rfl:=aw h;exact cu (.f q q .nil)
theorem P5 (a0:Source) (r:b3 × Int × Int × ByteArray) (h:A9 a0=some r):b6 Try.prog 78 [.agg (da.cells a0)] [none] (.cA [.agg (b8.cells r.1),j r.2.1,j r.2.2.1,ab r.2.2.2]):=by
 unfold A9 at h;refine b6.go (N:=⟨435,[]⟩) Try.func78 q q q q (W.fin ?_);refine W.st [(0,.agg (da.cells a0))] ?_;refine W.bI [1,2] (ag (O.box (.b2 q q) q)<|ag (O.e6 (cs:=[.aF,.aF,.aF,ab aB,ab aB]) pU q q)<|au.aV) ?_;refine W.aX ?_;obtain ⟨aE,ff,h⟩:=ay h;refine W.bI [1,2,28] (ag (O.dJ (cs':=[ab a0.bx,ai cq a0.Decls,ai ei a0.dw,ab a0.bB]) q (.obj q) oz q q)<|dV (ct.go (.bF (.b2 q q) .nil) (Qd a0 _ ff) call92 q)<|au.aV) ?_;refine W.bz h q (λcZ h=>?_) (λcZ h=>?_)
 ·refine W.bI [2,3,4,5] (ag (O.eh (cs:=[.aF,.aF,.aF,ab aB,ab aB]) Ik pU q q q)<|au.dx (G2:=[(2,_)]) (cs2:=[.aF,.aF,.aF,ab aB,ab aB]) q (.obj q) (.b2 q q) q oh q q q q (.b q .nil)<|au.aV) ?_;refine W.e7 (G1:=[(2,.obj [ai br ([]:List bM),ai ba ([]:List e5),ai bG ([]:List Prod),ab aB,ab aB]),(3,_),(4,_),(5,_)]) [2] (.z q q (gl.obj (.z (.z (.z (.f (.f .nil)))))) (.n q q (.n q q (.n q q .nil)))) ?_;refine W.rt ?_;refine ah.cP ?_;obtain rfl:=aw h;exact cu (.c (ys0:=[ai br ([]:List bM),ai ba ([]:List e5),ai bG ([]:List Prod),ab aB,ab aB]) q gh q q q (.f q (.f q (.f q (.f q (.f q .nil))))) (.f q q (.f q q (.f q q .nil))))
 ·refine W.bE<|ah.aW ?_;obtain ⟨a6,hK,h⟩:=ay h;refine W.bI [1,2,6] (ag (O.mk (en:=bN) (z0:=false) oY (.k q) (.k q) IM q q hK EJ q)<|ag (O.eh (cs:=[.aF,.aF,.aF,ab aB,ab aB,.bh bN.z ⟨30,[]⟩ a6.length,.aF,.aF,j 0,j 0,ab aB,j 0,j 0]) Vf V_ q q q)<|ag (O.box (.b2 q q) q)<|au.gm (G2:=[(1,.obj (da.cells a0)),(2,.obj [.aF,.aF,.aF,ab aB,ab aB])]) q (cc.B3 (y':=.obj [.aF,.aF,.aF,ab aB,ab aB,ak bN a6,.aF,.aF,j 0,j 0,ab aB,j 0,j 0]) q q (.obj q) (.b q (.f (.f (.f (.f (.f (.r q (.f (.f (.f (.f (.f (.f (.f .nil))))))))))))) .nil) .refl (e_ q q) q q)<|bR q) ?_;refine W.bI [1,2,6] (ag (O.az (.obj q))<|ag (O.eh (cs:=[ab ({ data:=#[36,101,110,100] }),aY false,j 0,j 0,j 0,ab aB]) DY wD q q q)<|ag (O.eh (cs:=[ab ({ data:=#[101,114,114,111,114] }),aY false,j (-1),j 0,j 0,ab aB]) DY wD q q q)<|ag (O.eh (cs:=[ab ({ data:=#[36,117,110,107] }),aY false,j (-1),j 0,j 0,ab aB]) DY wD q q q)<|ag (O.dF (ys:=[.agg [ab ({ data:=#[36,101,110,100] }),aY false,j 0,j 0,j 0,ab aB],.agg [ab ({ data:=#[101,114,114,111,114] }),aY false,j (-1),j 0,j 0,ab aB],.agg [ab ({ data:=#[36,117,110,107] }),aY false,j (-1),j 0,j 0,ab aB]]) br [(⟨{ data:=#[36,101,110,100] },false,0,0,0,aB⟩:bM),(⟨{ data:=#[101,114,114,111,114] },false,(-1),0,0,aB⟩:bM),(⟨{ data:=#[36,117,110,107] },false,(-1),0,0,aB⟩:bM)] oe q q q q q q NR q q)<|ag (O.e9 (.ptr q))<|ag (O.bd q (.ptr q) km q)<|ag (O.bd q (.ptr q) m_ q)<|au.ha (G2:=[(1,.obj (da.cells a0)),(2,.obj [.aF,.aF,.aF,ab aB,ab aB]),(6,.obj [ak br [(⟨{ data:=#[36,101,110,100] },false,0,0,0,aB⟩:bM),(⟨{ data:=#[101,114,114,111,114] },false,(-1),0,0,aB⟩:bM),(⟨{ data:=#[36,117,110,107] },false,(-1),0,0,aB⟩:bM)],.aF,.aF,ab aB,ab aB,ak bN a6,.aF,.aF,j 0,j 0,ab aB,j 0,j 0])]) q (cc.ra (y':=ak br [(⟨{ data:=#[36,101,110,100] },false,0,0,0,aB⟩:bM),(⟨{ data:=#[101,114,114,111,114] },false,(-1),0,0,aB⟩:bM),(⟨{ data:=#[36,117,110,107] },false,(-1),0,0,aB⟩:bM)]) (cs2:=[ak br [(⟨{ data:=#[36,101,110,100] },false,0,0,0,aB⟩:bM),(⟨{ data:=#[101,114,114,111,114] },false,(-1),0,0,aB⟩:bM),(⟨{ data:=#[36,117,110,107] },false,(-1),0,0,aB⟩:bM)],.aF,.aF,ab aB,ab aB,ak bN a6,.aF,.aF,j 0,j 0,ab aB,j 0,j 0]) q q (.ptr q) (.own q) (.r q .nil) .refl q Ns q q q q q (.n q q (.n q q (.b q .nil))))<|bR q) ?_;refine W.aT [1,2,6,7] ?_;refine W.aX<|W.aT [1,2,6,7,8] ?_;refine W.bl ?_;obtain ⟨b',aq,h⟩:=ay h;refine W.cf (G1:=[(1,_),(2,_),(6,.obj [ak br (((⟨(⟨[(⟨{ data:=#[36,101,110,100] },false,0,0,0,aB⟩:bM),(⟨{ data:=#[101,114,114,111,114] },false,(-1),0,0,aB⟩:bM),(⟨{ data:=#[36,117,110,107] },false,(-1),0,0,aB⟩:bM)],[],[],aB,aB⟩:b3),a6,[],[],0,0,aB,0,0⟩:cU).av).a'),ak ba (((⟨(⟨[(⟨{ data:=#[36,101,110,100] },false,0,0,0,aB⟩:bM),(⟨{ data:=#[101,114,114,111,114] },false,(-1),0,0,aB⟩:bM),(⟨{ data:=#[36,117,110,107] },false,(-1),0,0,aB⟩:bM)],[],[],aB,aB⟩:b3),a6,[],[],0,0,aB,0,0⟩:cU).av).bw),ak bG (((⟨(⟨[(⟨{ data:=#[36,101,110,100] },false,0,0,0,aB⟩:bM),(⟨{ data:=#[101,114,114,111,114] },false,(-1),0,0,aB⟩:bM),(⟨{ data:=#[36,117,110,107] },false,(-1),0,0,aB⟩:bM)],[],[],aB,aB⟩:b3),a6,[],[],0,0,aB,0,0⟩:cU).av).a8),ab (((⟨(⟨[(⟨{ data:=#[36,101,110,100] },false,0,0,0,aB⟩:bM),(⟨{ data:=#[101,114,114,111,114] },false,(-1),0,0,aB⟩:bM),(⟨{ data:=#[36,117,110,107] },false,(-1),0,0,aB⟩:bM)],[],[],aB,aB⟩:b3),a6,[],[],0,0,aB,0,0⟩:cU).av).bx),ab (((⟨(⟨[(⟨{ data:=#[36,101,110,100] },false,0,0,0,aB⟩:bM),(⟨{ data:=#[101,114,114,111,114] },false,(-1),0,0,aB⟩:bM),(⟨{ data:=#[36,117,110,107] },false,(-1),0,0,aB⟩:bM)],[],[],aB,aB⟩:b3),a6,[],[],0,0,aB,0,0⟩:cU).av).bB),ak bN ((⟨(⟨[(⟨{ data:=#[36,101,110,100] },false,0,0,0,aB⟩:bM),(⟨{ data:=#[101,114,114,111,114] },false,(-1),0,0,aB⟩:bM),(⟨{ data:=#[36,117,110,107] },false,(-1),0,0,aB⟩:bM)],[],[],aB,aB⟩:b3),a6,[],[],0,0,aB,0,0⟩:cU).b4),ak ba ((⟨(⟨[(⟨{ data:=#[36,101,110,100] },false,0,0,0,aB⟩:bM),(⟨{ data:=#[101,114,114,111,114] },false,(-1),0,0,aB⟩:bM),(⟨{ data:=#[36,117,110,107] },false,(-1),0,0,aB⟩:bM)],[],[],aB,aB⟩:b3),a6,[],[],0,0,aB,0,0⟩:cU).b0),ak cy ((⟨(⟨[(⟨{ data:=#[36,101,110,100] },false,0,0,0,aB⟩:bM),(⟨{ data:=#[101,114,114,111,114] },false,(-1),0,0,aB⟩:bM),(⟨{ data:=#[36,117,110,107] },false,(-1),0,0,aB⟩:bM)],[],[],aB,aB⟩:b3),a6,[],[],0,0,aB,0,0⟩:cU).bK),j ((⟨(⟨[(⟨{ data:=#[36,101,110,100] },false,0,0,0,aB⟩:bM),(⟨{ data:=#[101,114,114,111,114] },false,(-1),0,0,aB⟩:bM),(⟨{ data:=#[36,117,110,107] },false,(-1),0,0,aB⟩:bM)],[],[],aB,aB⟩:b3),a6,[],[],0,0,aB,0,0⟩:cU).ck),j ((⟨(⟨[(⟨{ data:=#[36,101,110,100] },false,0,0,0,aB⟩:bM),(⟨{ data:=#[101,114,114,111,114] },false,(-1),0,0,aB⟩:bM),(⟨{ data:=#[36,117,110,107] },false,(-1),0,0,aB⟩:bM)],[],[],aB,aB⟩:b3),a6,[],[],0,0,aB,0,0⟩:cU).cm),ab ((⟨(⟨[(⟨{ data:=#[36,101,110,100] },false,0,0,0,aB⟩:bM),(⟨{ data:=#[101,114,114,111,114] },false,(-1),0,0,aB⟩:bM),(⟨{ data:=#[36,117,110,107] },false,(-1),0,0,aB⟩:bM)],[],[],aB,aB⟩:b3),a6,[],[],0,0,aB,0,0⟩:cU).ch),j ((⟨(⟨[(⟨{ data:=#[36,101,110,100] },false,0,0,0,aB⟩:bM),(⟨{ data:=#[101,114,114,111,114] },false,(-1),0,0,aB⟩:bM),(⟨{ data:=#[36,117,110,107] },false,(-1),0,0,aB⟩:bM)],[],[],aB,aB⟩:b3),a6,[],[],0,0,aB,0,0⟩:cU).bZ),j ((⟨(⟨[(⟨{ data:=#[36,101,110,100] },false,0,0,0,aB⟩:bM),(⟨{ data:=#[101,114,114,111,114] },false,(-1),0,0,aB⟩:bM),(⟨{ data:=#[36,117,110,107] },false,(-1),0,0,aB⟩:bM)],[],[],aB,aB⟩:b3),a6,[],[],0,0,aB,0,0⟩:cU).bD)]),(7,_),(8,_)]) (.n q (.n q (.w q q (jO.obj (.f (.o (.o (.f (.f (.f (.o (.o (.f (.f (.f (.f (.f .nil)))))))))))))) (e_ q q)))) ?_;refine W.eH (s:=((⟨(⟨[(⟨{ data:=#[36,101,110,100] },false,0,0,0,aB⟩:bM),(⟨{ data:=#[101,114,114,111,114] },false,(-1),0,0,aB⟩:bM),(⟨{ data:=#[36,117,110,107] },false,(-1),0,0,aB⟩:bM)],[],[],aB,aB⟩:b3),a6,[],[],0,0,aB,0,0⟩:cU),aB,0)) (λ(bU:cU × ByteArray × Int)=>[(1,.obj (da.cells a0)),(2,.obj [.aF,.aF,.aF,ab aB,ab aB]),(6,.obj (ee.cells bU.1)),(7,ab bU.2.1),(8,j bU.2.2)]) 0 (λ(b':cU × ByteArray)=>[(1,.obj (da.cells a0)),(2,.obj [.aF,.aF,.aF,ab aB,ab aB]),(6,.obj (ee.cells b'.1)),(7,ab b'.2)]) aq (λbU o h=>?_) ?_
  ·clear aq;refine W.aX<|W.aT [1,2,6,7,8,45] ?_;refine W.bz h q (λc7 h=>?_) (λc7 h=>?_)
   ·refine W.bE<|ah.aW ?_;refine W.aX<|W.bl ?_;obtain ⟨bA,gU,h⟩:=ay h;refine W.bI [1,2,6,7,8,9] (ag (O.bd q (.obj q) ny q)<|ag (O.cK (y:=ai cq a0.Decls) q (.ptr q) pj q q)<|bq q<|ag (O.cv (.aD q) (.lit q) nK gU)<|ag (O.hX (cs':=[j bA.Kind,ab bA.Tag,ai c6 bA.e0,j bA.At]) (.bn q) B_ q q)<|ag (O.e6 (cs:=[j 0,ab aB,.aF,j 0]) BF q q)<|au.dx (G2:=[(1,_),(2,_),(6,_),(7,_),(8,_),(9,_)]) (cs2:=[j bA.Kind,ab bA.Tag,ai c6 bA.e0,j bA.At]) q (.obj q) (.b2 q q) q Nl q q q q (.n q q (.n q q (.n q q (.n q q (.n q q (.b q .nil))))))<|bR q) ?_;refine W.aX ?_;obtain ⟨jA,aa,h⟩:=ay h;refine W.rs [(1,.obj (da.cells a0)),(2,.obj [.aF,.aF,.aF,ab aB,ab aB]),(6,.obj (ee.cells bU.1)),(7,ab bU.2.1),(8,j bU.2.2),(9,.obj (cq.cells bA)),(60,aY jA)] ?_ ?_
    ·refine ag (O.bd q (.obj q) oB q)<|ag (O.cw q (.ptr q) cx q)<|ag (O.geq (.lit q) (.k q))<|ag (O.az (.lit q)) ?_;rcases cG aa with ⟨dX,aa⟩ | ⟨dX,aa⟩
     ·obtain rfl:=aw aa;exact au.aV
     ·obtain rfl:=aw aa;exact au.aV
    obtain ⟨hg,aa,h⟩:=ay h;refine W.bL [(1,.obj (da.cells a0)),(2,.obj [.aF,.aF,.aF,ab aB,ab aB]),(6,.obj [ak br bU.1.av.a',ak ba bU.1.av.bw,ak bG bU.1.av.a8,ab bU.1.av.bx,ab bU.1.av.bB,ak bN bU.1.b4,ak ba bU.1.b0,ak cy bU.1.bK,j bU.1.ck,j bU.1.cm,ab bU.1.ch,j hg,j bU.1.bD]),(7,ab bU.2.1),(8,j bU.2.2),(9,.obj (cq.cells bA))] ?_ ?_
    ·clear h; have h:=aa; clear aa;refine W.bz h q (λek h=>?_) (λek h=>?_)
     ·refine W.bo [1,2,6,7,8,9] (ag (O.az (.obj q))<|ag (O.e9 (.ptr q))<|ag (O.bd q (.ptr q) CA q)<|ag (O.cw q (.ptr q) cx q)<|ag (O.add (.lit q) (.k q))<|ag (O.e9 (.ptr q))<|ag (O.bd q (.ptr q) CA q)<|au.dx (G2:=[(1,_),(2,_),(6,_),(7,_),(8,_),(9,_)]) (cs2:=[ak br bU.1.av.a',ak ba bU.1.av.bw,ak bG bU.1.av.a8,ab bU.1.av.bx,ab bU.1.av.bB,ak bN bU.1.b4,ak ba bU.1.b0,ak cy bU.1.bK,j bU.1.ck,j bU.1.cm,ab bU.1.ch,j (aL (bU.1.bZ+1)),j bU.1.bD]) q (.ptr q) (.lit q) q nr q q q q (.n q q (.n q q (.b q (.n q q (.n q q (.n q q .nil))))))<|bR q) ?_;obtain rfl:=aw h;exact ah.bL (fB q q q q q q)
     ·refine W.bE ?_;obtain rfl:=aw h;exact ah.bL (fB q q q q q q)
    refine ah.aW<|W.aT [1,2,6,7,8,9,10] ?_;refine W.bl ?_;obtain ⟨db,aq,h⟩:=ay h;refine W.cf (G1:=[(1,_),(2,_),(6,.obj [ak br (((⟨bU.1.av,bU.1.b4,bU.1.b0,bU.1.bK,bU.1.ck,bU.1.cm,bU.1.ch,hg,bU.1.bD⟩:cU).av).a'),ak ba (((⟨bU.1.av,bU.1.b4,bU.1.b0,bU.1.bK,bU.1.ck,bU.1.cm,bU.1.ch,hg,bU.1.bD⟩:cU).av).bw),ak bG (((⟨bU.1.av,bU.1.b4,bU.1.b0,bU.1.bK,bU.1.ck,bU.1.cm,bU.1.ch,hg,bU.1.bD⟩:cU).av).a8),ab (((⟨bU.1.av,bU.1.b4,bU.1.b0,bU.1.bK,bU.1.ck,bU.1.cm,bU.1.ch,hg,bU.1.bD⟩:cU).av).bx),ab (((⟨bU.1.av,bU.1.b4,bU.1.b0,bU.1.bK,bU.1.ck,bU.1.cm,bU.1.ch,hg,bU.1.bD⟩:cU).av).bB),ak bN ((⟨bU.1.av,bU.1.b4,bU.1.b0,bU.1.bK,bU.1.ck,bU.1.cm,bU.1.ch,hg,bU.1.bD⟩:cU).b4),ak ba ((⟨bU.1.av,bU.1.b4,bU.1.b0,bU.1.bK,bU.1.ck,bU.1.cm,bU.1.ch,hg,bU.1.bD⟩:cU).b0),ak cy ((⟨bU.1.av,bU.1.b4,bU.1.b0,bU.1.bK,bU.1.ck,bU.1.cm,bU.1.ch,hg,bU.1.bD⟩:cU).bK),j ((⟨bU.1.av,bU.1.b4,bU.1.b0,bU.1.bK,bU.1.ck,bU.1.cm,bU.1.ch,hg,bU.1.bD⟩:cU).ck),j ((⟨bU.1.av,bU.1.b4,bU.1.b0,bU.1.bK,bU.1.ck,bU.1.cm,bU.1.ch,hg,bU.1.bD⟩:cU).cm),ab ((⟨bU.1.av,bU.1.b4,bU.1.b0,bU.1.bK,bU.1.ck,bU.1.cm,bU.1.ch,hg,bU.1.bD⟩:cU).ch),j ((⟨bU.1.av,bU.1.b4,bU.1.b0,bU.1.bK,bU.1.ck,bU.1.cm,bU.1.ch,hg,bU.1.bD⟩:cU).bZ),j ((⟨bU.1.av,bU.1.b4,bU.1.b0,bU.1.bK,bU.1.ck,bU.1.cm,bU.1.ch,hg,bU.1.bD⟩:cU).bD)]),(7,_),(8,_),(9,_),(10,_)]) (gR q q q q q q q) ?_;refine W.eH (s:=((⟨bU.1.av,bU.1.b4,bU.1.b0,bU.1.bK,bU.1.ck,bU.1.cm,bU.1.ch,hg,bU.1.bD⟩:cU),bU.2.1,0)) (λ(fm:cU × ByteArray × Int)=>[(1,.obj (da.cells a0)),(2,.obj [.aF,.aF,.aF,ab aB,ab aB]),(6,.obj (ee.cells fm.1)),(7,ab fm.2.1),(8,j bU.2.2),(9,.obj (cq.cells bA)),(10,j fm.2.2)]) 2 (λ(db:cU × ByteArray)=>[(1,.obj (da.cells a0)),(2,.obj [.aF,.aF,.aF,ab aB,ab aB]),(6,.obj (ee.cells db.1)),(7,ab db.2),(8,j bU.2.2)]) aq (λfm o h=>?_) ?_
    ·clear aq;refine W.aX<|W.aT [1,2,6,7,8,9,10,72] ?_;refine W.bz h q (λiK h=>?_) (λiK h=>?_)
     ·refine W.bE<|ah.aW ?_;refine W.aX ?_;obtain ⟨s3,aa,h⟩:=ay h;refine W.bL [(1,.obj (da.cells a0)),(2,.obj [.aF,.aF,.aF,ab aB,ab aB]),(6,.obj (ee.cells s3.1)),(7,ab s3.2),(8,j bU.2.2),(9,.obj (cq.cells bA)),(10,j fm.2.2)] ?_ ?_
      ·clear h; have h:=aa; clear aa;refine W.bl<|W.aX ?_;refine W.aT [1,2,6,7,8,9,10,77] ?_;refine W.bz h q (λgB h=>?_) (λgB h=>?_)
       ·refine W.aX ?_;obtain ⟨fv,nb,h⟩:=ay h;obtain ⟨ez,pC,h⟩:=ay h;refine W.rd [[],[],[],[2],[],[2,3,4],[2,3,4,5],aM 0 7 []] [(1,_),(2,_),(6,_),(7,_),(8,_),(9,_),(10,_)] d_ (by kernel_rfl) (ao 0 (O.az (.obj q))<|ao 1 (O.dJ (cs':=[j bA.Kind,ab bA.Tag,ai c6 bA.e0,j bA.At]) q (.obj q) B_ q q)<|ao 2 (O.bd q (.obj q) oC q)<|ao 3 (O.cK (y:=ai c6 bA.e0) q (.ptr q) p6 q q)<|ao 4 (O.az (.lit q))<|ao 5 (O.cv (.aD q) (.lit q) o0 nb)<|ao 6 (O.hX (cs':=[ab fv.Name,aY fv.Lit,j fv.cM,j fv.At]) (.bn q) j9 q q)<|bC.iX 7 (G2:=[(85,.cA []),(6,.obj [ak br ez.av.a',ak ba ez.av.bw,ak bG ez.av.a8,ab ez.av.bx,ab ez.av.bB,ak bN ez.b4,ak ba ez.b0,ak cy ez.bK,j ez.ck,j ez.cm,ab ez.ch,j ez.bZ,j ez.bD]),(1,.obj (da.cells a0)),(2,.obj [.aF,.aF,.aF,ab aB,ab aB]),(7,ab fm.2.1),(8,j bU.2.2),(9,.obj (cq.cells bA)),(10,j fm.2.2)]) (cc.call q q (h4.nF (G2:=[(1,.obj (da.cells a0)),(2,.obj [.aF,.aF,.aF,ab aB,ab aB]),(7,ab fm.2.1),(8,j bU.2.2),(9,.obj (cq.cells bA)),(10,j fm.2.2)]) (A:=[]) (ys:=[.ptr ⟨6,[]⟩ 0,.agg (cq.cells bA),.agg (c6.cells fv)]) (args:=[.obj (ee.cells fm.1),.agg (cq.cells bA),.agg (c6.cells fv)]) (cs':=[ak br ez.av.a',ak ba ez.av.bw,ak bG ez.av.a8,ab ez.av.bx,ab ez.av.bB,ak bN ez.b4,ak ba ez.b0,ak cy ez.bK,j ez.ck,j ez.cm,ab ez.ch,j ez.bZ,j ez.bD]) (k0:=0) q q q q (.b q (.n q (.n q .nil))) q (Qe fm.1 bA fv _ pC) call93 (fB q q q q q q) q q (fB q q q q q q) .nil q)) q q q q (by kernel_rfl) (by kernel_rfl)<|bC.fin q q q (gR q q q q q q q)) ?_;refine ah.aW<|W.c9 ?_;refine ah.c8 ?_;refine ah.c_ ?_;obtain rfl:=aw h;exact ah.bL (gR q q q q q q q)
       ·refine W.bE<|ah.aW ?_;refine W.aX<|W.aT [1,2,6,8,9,10,87] ?_;obtain ⟨oP,aa,h⟩:=ay h;refine W.bL [(1,.obj (da.cells a0)),(2,.obj [.aF,.aF,.aF,ab aB,ab aB]),(6,.obj (ee.cells oP)),(8,j bU.2.2),(9,.obj (cq.cells bA)),(10,j fm.2.2)] ?_ ?_
        ·clear h; have h:=aa; clear aa;refine W.bz h q (λjS h=>?_) (λjS h=>?_)
         ·obtain ⟨eW,nc,h⟩:=ay h;obtain ⟨fU,kJ,h⟩:=ay h;obtain ⟨fo,mG,h⟩:=ay h;refine W.rd [[],[],[1],[],[1,2,3],[1,2,3,4],aM 1 5 [],[],[7],[],[7,8,9],[7,8,9,10],aM 7 5 [],aM 0 13 []] [(1,_),(2,_),(6,_),(8,_),(9,_),(10,_)] d_ (by kernel_rfl) (ao 0 (O.az (.obj q))<|ao 1 (O.bd q (.obj q) oC q)<|ao 2 (O.cK (y:=ai c6 bA.e0) q (.ptr q) p6 q q)<|ao 3 (O.az (.lit q))<|ao 4 (O.cv (.aD q) (.lit q) o0 nc)<|ao 5 (O.ef (.bn q) qF)<|ao 6 (O.cX (x:=j eW.At) (.bn q) cx q)<|ao 7 (O.bd q (.obj q) oC q)<|ao 8 (O.cK (y:=ai c6 bA.e0) q (.ptr q) p6 q q)<|ao 9 (O.az (.lit q))<|ao 10 (O.cv (.aD q) (.lit q) o0 kJ)<|ao 11 (O.ef (.bn q) ko)<|ao 12 (O.cX (x:=ab fU.Name) (.bn q) eN q)<|bC.iX 13 (G2:=[(101,.cA []),(6,.obj [ak br fo.av.a',ak ba fo.av.bw,ak bG fo.av.a8,ab fo.av.bx,ab fo.av.bB,ak bN fo.b4,ak ba fo.b0,ak cy fo.bK,j fo.ck,j fo.cm,ab fo.ch,j fo.bZ,j fo.bD]),(1,.obj (da.cells a0)),(2,.obj [.aF,.aF,.aF,ab aB,ab aB]),(8,j bU.2.2),(9,.obj (cq.cells bA)),(10,j fm.2.2)]) (cc.call q q (h4.nF (G2:=[(1,.obj (da.cells a0)),(2,.obj [.aF,.aF,.aF,ab aB,ab aB]),(8,j bU.2.2),(9,.obj (cq.cells bA)),(10,j fm.2.2)]) (A:=[]) (ys:=[.ptr ⟨6,[]⟩ 0,j eW.At,ab fU.Name]) (args:=[.obj (ee.cells fm.1),j eW.At,ab fU.Name]) (cs':=[ak br fo.av.a',ak ba fo.av.bw,ak bG fo.av.a8,ab fo.av.bx,ab fo.av.bB,ak bN fo.b4,ak ba fo.b0,ak cy fo.bK,j fo.ck,j fo.cm,ab fo.ch,j fo.bZ,j fo.bD]) (k0:=0) q q q q (.b q (.n q (.n q .nil))) q (vf fm.1 eW.At fU.Name _ mG) call94 (fb q q q q q) q q (fb q q q q q) .nil q)) q q q q (by kernel_rfl) (by kernel_rfl)<|bC.fin q q q (fB q q q q q q)) ?_;obtain rfl:=aw h;exact ah.bL (fB q q q q q q)
         ·refine W.bE ?_;obtain rfl:=aw h;exact ah.bL (fB q q q q q q)
        refine ah.aW ?_;obtain ⟨gV,qW,h⟩:=ay h;refine W.Je [1,2,6,7,8,9,10] ?_;refine ah.bl ?_;obtain rfl:=aw h;exact ah.bL (gR q q q q q q q)
      refine ah.aW<|W.bo [1,2,6,7,8,9,10] (bq q<|ag (O.add (.lit q) (.k q))<|au.bo [1,2,6,7,8,9,74] q<|au.aV) ?_;obtain rfl:=aw h;exact ah.go (gR q q q q q q q)
     ·refine W.c9 ?_;refine ah.c8 ?_;obtain rfl:=aw h;exact ah.aE (fb q q q q q)
    refine ah.c_ ?_;refine ah.bl ?_;refine ah.aW<|W.bo [1,2,6,7,8] (bq q<|ag (O.add (.lit q) (.k q))<|au.bo [1,2,6,7,47] q<|au.aV) ?_;obtain rfl:=aw h;exact ah.go (fb q q q q q)
   ·refine W.c9 ?_;refine ah.c8 ?_;obtain rfl:=aw h;exact ah.aE (dQ q q q q)
  refine ah.c_ ?_;refine ah.aW<|W.aX ?_;refine W.aT [1,2,6,7,11] ?_;refine W.bl ?_;obtain ⟨dc,aq,h⟩:=ay h;refine W.cf (G1:=[(1,_),(2,_),(6,_),(7,_),(11,_)]) (fb q q q q q) ?_;refine W.eH (s:=(b'.1,0)) (λ(mf:cU × Int)=>[(1,.obj (da.cells a0)),(2,.obj [.aF,.aF,.aF,ab aB,ab aB]),(6,.obj (ee.cells mf.1)),(7,ab b'.2),(11,j mf.2)]) 4 (λ(dc:cU)=>[(1,.obj (da.cells a0)),(2,.obj [.aF,.aF,.aF,ab aB,ab aB]),(6,.obj (ee.cells dc)),(7,ab b'.2)]) aq (λmf o h=>?_) ?_
  ·clear aq;refine W.aX<|W.aT [1,2,6,7,11,112] ?_;refine W.bz h q (λzE h=>?_) (λzE h=>?_)
   ·refine W.bE<|ah.aW ?_;refine W.aX ?_;obtain ⟨vM,aa,h⟩:=ay h;refine W.bL [(1,.obj (da.cells a0)),(2,.obj [.aF,.aF,.aF,ab aB,ab aB]),(6,.obj (ee.cells vM)),(7,ab b'.2),(11,j mf.2)] ?_ ?_
    ·clear h; have h:=aa; clear aa;refine W.bl ?_;obtain ⟨dk,sY,h⟩:=ay h;refine W.bI [1,2,6,7,11,12] (ag (O.bd q (.obj q) kn q)<|ag (O.cK (y:=ai ei a0.dw) q (.ptr q) ll q q)<|bq q<|ag (O.cv (.aD q) (.lit q) lb sY)<|ag (O.hX (cs':=[ab dk.Left,ai dq dk.eY,j dk.At]) (.bn q) Ca q q)<|ag (O.e6 (cs:=[ab aB,.aF,j 0]) wE q q)<|au.dx (G2:=[(1,_),(2,_),(6,_),(7,_),(11,_),(12,_)]) (cs2:=[ab dk.Left,ai dq dk.eY,j dk.At]) q (.obj q) (.b2 q q) q D_ q q q q (.n q q (.n q q (.n q q (.n q q (.n q q (.b q .nil))))))<|bR q) ?_;refine W.aX ?_;obtain ⟨gK,sZ,h⟩:=ay h;refine W.bI [1,2,6,7,11,12,125] (ag (O.az (.obj q))<|ag (O.bd q (.obj q) sA q)<|ag (O.cw q (.ptr q) eN q)<|ag (O.eh (cs:=[ab dk.Left,aY false,j 0,j 0]) uM o5 q q q)<|dV (ct.vw (ys:=[.ptr ⟨6,[]⟩ 0,.agg [ab dk.Left,aY false,j 0,j 0]]) q (.c (View.oW q q) (.c (.sf (.s (.s (.s (.s .nil))))) .nil)) (E_ mf.1 (⟨dk.Left,false,0,0⟩:Sym) _ sZ) call95 q)<|au.aV) ?_;obtain ⟨fK,aa,h⟩:=ay h;refine W.bL [(1,.obj (da.cells a0)),(2,.obj [.aF,.aF,.aF,ab aB,ab aB]),(6,.obj (ee.cells fK)),(7,ab b'.2),(11,j mf.2),(12,.obj (ei.cells dk))] ?_ ?_
     ·clear h; have h:=aa; clear aa;refine W.bz h q (λR6 h=>?_) (λR6 h=>?_)
      ·obtain ⟨iR,qX,h⟩:=ay h;refine W.bo [1,2,6,7,11,12] (ag (O.az (.obj q))<|ag (O.bd q (.obj q) Fo q)<|ag (O.cw q (.ptr q) cx q)<|ag (O.bd q (.obj q) sA q)<|ag (O.cw q (.ptr q) eN q)<|au.ha q (cc.call q q (h4.nF (G2:=[(1,.obj (da.cells a0)),(2,.obj [.aF,.aF,.aF,ab aB,ab aB]),(7,ab b'.2),(11,j mf.2),(12,.obj (ei.cells dk))]) (A:=[]) (ys:=[.ptr ⟨6,[]⟩ 0,j dk.At,ab dk.Left]) (args:=[.obj (ee.cells mf.1),j dk.At,ab dk.Left]) (cs':=[ak br iR.av.a',ak ba iR.av.bw,ak bG iR.av.a8,ab iR.av.bx,ab iR.av.bB,ak bN iR.b4,ak ba iR.b0,ak cy iR.bK,j iR.ck,j iR.cm,ab iR.ch,j iR.bZ,j iR.bD]) (k0:=0) q q q q (.b q (.n q (.n q .nil))) q (vf mf.1 dk.At dk.Left _ qX) call94 (fb q q q q q) q q (fb q q q q q) .nil q))<|bR q) ?_;obtain rfl:=aw h;exact ah.bL (fB q q q q q q)
      ·refine W.bE ?_;obtain rfl:=aw h;exact ah.bL (fB q q q q q q)
     refine ah.aW ?_;obtain ⟨jt,lL,h⟩:=ay h;refine W.bI [1,2,6,7,11,12,136] (ag (O.az (.obj q))<|ag (O.bd q (.obj q) sA q)<|ag (O.cw q (.ptr q) eN q)<|dV (ct.vw (ys:=[.ptr ⟨6,[]⟩ 0,ab dk.Left]) q (.c (View.oW q q) (.s .nil)) (xh fK dk.Left _ lL) call96 q)<|au.aV) ?_;obtain ⟨Hk,aa,h⟩:=ay h;refine W.bL [(1,.obj (da.cells a0)),(2,.obj [.aF,.aF,.aF,ab aB,ab aB]),(6,.obj [ak br fK.av.a',ak ba fK.av.bw,ak bG fK.av.a8,ab fK.av.bx,ab fK.av.bB,ak bN fK.b4,ak ba fK.b0,ak cy Hk,j fK.ck,j fK.cm,ab fK.ch,j fK.bZ,j fK.bD]),(7,ab b'.2),(11,j mf.2)] ?_ ?_
     ·clear h; have h:=aa; clear aa;refine W.bz h q (λR8 h=>?_) (λR8 h=>?_)
      ·obtain ⟨tg,Ab,h⟩:=ay h;refine W.rd [[],[],[1],[1,2],[1,2,3],[],[5],[5,6],aM 1 7 [],aM 0 9 [],aM 0 10 [],aM 0 11 []] [(1,_),(2,_),(6,_),(7,_),(11,_)] d_ (by kernel_rfl) (ao 0 (O.az (.obj q))<|ao 1 (O.az (.obj q))<|ao 2 (O.e9 (.ptr q))<|ao 3 (O.bd q (.ptr q) xo q)<|ao 4 (O.cK (y:=.bh cy.z ⟨6,[7]⟩ fK.bK.length) q (.ptr q) y5 q q)<|ao 5 (O.bd q (.obj q) sA q)<|ao 6 (O.cw q (.ptr q) eN q)<|bC.fT 7 (x:=ai cy [dk.Left]) (O.dF (ys:=[ab dk.Left]) cy [dk.Left] Bs q q q q q q Wf q q) q q q q .none<|ao 8 (O.ap (en:=cy) (r:=tg) (.bh q) q (.aD q) .i Ou q Ab)<|ao 9 (O.e9 (.ptr q))<|ao 10 (O.bd q (.ptr q) xo q)<|bC.iX 11 (G2:=[(1,.obj (da.cells a0)),(2,.obj [.aF,.aF,.aF,ab aB,ab aB]),(6,.obj [ak br fK.av.a',ak ba fK.av.bw,ak bG fK.av.a8,ab fK.av.bx,ab fK.av.bB,ak bN fK.b4,ak ba fK.b0,ak cy (fK.bK++[dk.Left]),j fK.ck,j fK.cm,ab fK.ch,j fK.bZ,j fK.bD]),(7,ab b'.2),(11,j mf.2)]) (cc.kr (g1:=_) (en:=cy) (M:=[dk.Left]) (cs2:=[ak br fK.av.a',ak ba fK.av.bw,ak bG fK.av.a8,ab fK.av.bx,ab fK.av.bB,ak bN fK.b4,ak ba fK.b0,ak cy (fK.bK++[dk.Left]),j fK.ck,j fK.cm,ab fK.ch,j fK.bZ,j fK.bD]) q q (.ptr q) (.bY q) q q q .js .gE q q VC q q q q (.n q q (.n q q (.b q (.n q q (.n q q .nil)))))) q q q q (by kernel_rfl) (by kernel_rfl)<|bC.fin q q q (fb q q q q q)) ?_;obtain rfl:=aw h;exact ah.bL (fb q q q q q)
      ·refine W.bE ?_;obtain rfl:=aw h;exact ah.bL (fb q q q q q)
     refine ah.bl ?_;obtain rfl:=aw h;exact ah.bL (fb q q q q q)
    refine ah.aW<|W.bo [1,2,6,7,11] (bq q<|ag (O.add (.lit q) (.k q))<|au.bo [1,2,6,7,114] q<|au.aV) ?_;obtain rfl:=aw h;exact ah.go (fb q q q q q)
   ·refine W.c9 ?_;refine ah.c8 ?_;obtain rfl:=aw h;exact ah.aE (dQ q q q q)
  refine ah.c_ ?_;refine ah.aW<|W.aX ?_;refine W.aT [1,2,6,7,13] ?_;refine W.bl ?_;obtain ⟨bX,aq,h⟩:=ay h;refine W.cf (G1:=[(1,_),(2,_),(6,_),(7,_),(13,_)]) (fb q q q q q) ?_;refine W.eH (s:=(dc,0)) (λ(mM:cU × Int)=>[(1,.obj (da.cells a0)),(2,.obj [.aF,.aF,.aF,ab aB,ab aB]),(6,.obj (ee.cells mM.1)),(7,ab b'.2),(13,j mM.2)]) 6 (λ(bX:cU)=>[(1,.obj (da.cells a0)),(2,.obj [.aF,.aF,.aF,ab aB,ab aB]),(6,.obj (ee.cells bX)),(7,ab b'.2)]) aq (λmM o h=>?_) ?_
  ·clear aq;refine W.aX<|W.aT [1,2,6,7,13,152] ?_;refine W.bz h q (λSa h=>?_) (λSa h=>?_)
   ·refine W.bE<|ah.aW ?_;refine W.aX<|W.bl ?_;refine W.aT [1,2,6,7,13,14] ?_;refine W.bl ?_;obtain ⟨o4,aq,h⟩:=ay h;refine W.cf (G1:=[(1,_),(2,_),(6,_),(7,_),(13,_),(14,_)]) (fB q q q q q q) ?_;refine W.eH (s:=(mM.1,0)) (λ(mg:cU × Int)=>[(1,.obj (da.cells a0)),(2,.obj [.aF,.aF,.aF,ab aB,ab aB]),(6,.obj (ee.cells mg.1)),(7,ab b'.2),(13,j mM.2),(14,j mg.2)]) 8 (λ(o4:cU)=>[(1,.obj (da.cells a0)),(2,.obj [.aF,.aF,.aF,ab aB,ab aB]),(6,.obj (ee.cells o4)),(7,ab b'.2),(13,j mM.2)]) aq (λmg o h=>?_) ?_
    ·clear aq;refine W.aX ?_;obtain ⟨BC,L6,h⟩:=ay h;refine W.aT [1,2,6,7,13,14,163] ?_;refine W.bz h q (λF3 h=>?_) (λF3 h=>?_)
     ·refine W.bE<|ah.aW ?_;refine W.aX ?_;obtain ⟨Hn,aa,h⟩:=ay h;refine W.bL [(1,.obj (da.cells a0)),(2,.obj [.aF,.aF,.aF,ab aB,ab aB]),(6,.obj (ee.cells Hn)),(7,ab b'.2),(13,j mM.2),(14,j mg.2)] ?_ ?_
      ·clear h; have h:=aa; clear aa;refine W.bl ?_;obtain ⟨yA,GX,h⟩:=ay h;obtain ⟨kh,uk,h⟩:=ay h;refine W.bI [1,2,6,7,13,14,15] (ag (O.bd q (.obj q) ny q)<|ag (O.cK (y:=ai cq a0.Decls) q (.ptr q) pj q q)<|bq q<|ag (O.cv (.aD q) (.lit q) nK GX)<|ag (O.ef (.bn q) oC)<|ag (O.cX (x:=ai c6 yA.e0) (.bn q) p6 q)<|bq q<|ag (O.cv (.aD q) (.lit q) o0 uk)<|ag (O.hX (cs':=[ab kh.Name,aY kh.Lit,j kh.cM,j kh.At]) (.bn q) j9 q q)<|ag (O.e6 (cs:=[ab aB,aY false,j 0,j 0]) o5 q q)<|au.dx (G2:=[(1,_),(2,_),(6,_),(7,_),(13,_),(14,_),(15,_)]) (cs2:=[ab kh.Name,aY kh.Lit,j kh.cM,j kh.At]) q (.obj q) (.b2 q q) q uS q q q q (.n q q (.n q q (.n q q (.n q q (.n q q (.n q q (.b q .nil)))))))<|bR q) ?_;obtain ⟨ET,aa,h⟩:=ay h;refine W.rs [(1,.obj (da.cells a0)),(2,.obj [.aF,.aF,.aF,ab aB,ab aB]),(6,.obj (ee.cells mg.1)),(7,ab b'.2),(13,j mM.2),(14,j mg.2),(15,.obj (c6.cells kh)),(188,aY ET)] ?_ ?_
       ·refine ag (O.bd q (.obj q) ny q)<|ag (O.cK (y:=ai cq a0.Decls) q (.ptr q) pj q q)<|ag (O.az (.lit q)) ?_;obtain ⟨IG,TF,aa⟩:=ay aa;refine ag (O.cv (.aD q) (.lit q) nK TF)<|ag (O.ef (.bn q) oB)<|ag (O.cX (x:=j IG.Kind) (.bn q) cx q)<|ag (O.geq (.lit q) (.k q))<|ag (O.az (.lit q)) ?_;rcases cG aa with ⟨zF,aa⟩ | ⟨zF,aa⟩
        ·refine a1 zF (O.az (.obj q))<|a1 zF (O.bd q (.obj q) ko q)<|a1 zF (O.cw q (.ptr q) eN q) ?_;obtain ⟨kv,oO,aa⟩:=ay aa;obtain rfl:=aw aa;exact au.c (ct.vw (ys:=[.ptr ⟨6,[]⟩ 0,ab kh.Name]) q (.c (View.oW q q) (.s .nil)) (xh mg.1 kh.Name _ oO) call96 q) q q (.jJ q q zF)<|au.aV
        ·obtain rfl:=aw aa;exact au.aV
       obtain ⟨Ho,aa,h⟩:=ay h;refine W.bL [(1,.obj (da.cells a0)),(2,.obj [.aF,.aF,.aF,ab aB,ab aB]),(6,.obj (ee.cells Ho)),(7,ab b'.2),(13,j mM.2),(14,j mg.2)] ?_ ?_
       ·clear h; have h:=aa; clear aa;refine W.bz h q (λSe h=>?_) (λSe h=>?_)
        ·obtain ⟨mR,GZ,h⟩:=ay h;refine W.bo [1,2,6,7,13,14] (ag (O.az (.obj q))<|ag (O.bd q (.obj q) qF q)<|ag (O.cw q (.ptr q) cx q)<|ag (O.bd q (.obj q) ko q)<|ag (O.cw q (.ptr q) eN q)<|au.ha q (cc.call q q (h4.nF (G2:=[(1,.obj (da.cells a0)),(2,.obj [.aF,.aF,.aF,ab aB,ab aB]),(7,ab b'.2),(13,j mM.2),(14,j mg.2)]) (A:=[]) (ys:=[.ptr ⟨6,[]⟩ 0,j kh.At,ab kh.Name]) (args:=[.obj (ee.cells mg.1),j kh.At,ab kh.Name]) (cs':=[ak br mR.av.a',ak ba mR.av.bw,ak bG mR.av.a8,ab mR.av.bx,ab mR.av.bB,ak bN mR.b4,ak ba mR.b0,ak cy mR.bK,j mR.ck,j mR.cm,ab mR.ch,j mR.bZ,j mR.bD]) (k0:=0) q q q q (.b q (.n q (.n q .nil))) q (vf mg.1 kh.At kh.Name _ GZ) call94 (fb q q q q q) q q (fb q q q q q) .nil q))<|bR q) ?_;obtain rfl:=aw h;exact ah.bL (fB q q q q q q)
        ·refine W.bE ?_;obtain rfl:=aw h;exact ah.bL (fB q q q q q q)
       refine ah.bl ?_;obtain rfl:=aw h;exact ah.bL (fB q q q q q q)
      refine ah.aW<|W.bo [1,2,6,7,13,14] (bq q<|ag (O.add (.lit q) (.k q))<|au.bo [1,2,6,7,13,165] q<|au.aV) ?_;obtain rfl:=aw h;exact ah.go (fB q q q q q q)
     ·refine W.c9 ?_;refine ah.c8 ?_;obtain rfl:=aw h;exact ah.aE (fb q q q q q)
    refine ah.c_ ?_;refine ah.bl ?_;refine ah.aW<|W.bo [1,2,6,7,13] (bq q<|ag (O.add (.lit q) (.k q))<|au.bo [1,2,6,7,154] q<|au.aV) ?_;obtain rfl:=aw h;exact ah.go (fb q q q q q)
   ·refine W.c9 ?_;refine ah.c8 ?_;obtain rfl:=aw h;exact ah.aE (dQ q q q q)
  refine ah.c_ ?_;refine ah.aW<|W.aX ?_;refine W.aT [1,2,6,7,196] ?_;obtain ⟨vN,aa,h⟩:=ay h;refine W.bL [(1,.obj (da.cells a0)),(2,.obj [.aF,.aF,.aF,ab aB,ab aB]),(6,.obj (ee.cells bX)),(7,ab vN)] ?_ ?_
  ·clear h; have h:=aa; clear aa;refine W.bz h q (λSg h=>?_) (λSg h=>?_)
   ·obtain ⟨uU,Ac,h⟩:=ay h;refine W.bo [1,2,6,7] (ag (O.bd q (.obj q) kn q)<|ag (O.cK (y:=ai ei a0.dw) q (.ptr q) ll q q)<|ag (O.cv (.aD q) (.k q) lb Ac)<|ag (O.ef (.bn q) sA)<|ag (O.cX (x:=ab uU.Left) (.bn q) eN q)<|au.bo [1,2,6,201] q<|au.aV) ?_;obtain rfl:=aw h;exact ah.bL (dQ q q q q)
   ·refine W.bE ?_;obtain rfl:=aw h;exact ah.bL (dQ q q q q)
  refine ah.aW ?_;obtain ⟨ij,TL,h⟩:=ay h;refine W.bI [1,2,6] (ag (O.az (.obj q))<|ag (O.az (.obj q))<|bq q<|dV (ct.vw (ys:=[.ptr ⟨6,[]⟩ 0,ab vN]) q (.c (View.oW q q) (.s .nil)) (xh bX vN _ TL) call96 q)<|ag (O.add (.k q) (.lit q))<|au.fT (x:=ai aI [aL (1001+ij)]) (O.dF (ys:=[j (aL (1001+ij))]) aI [aL (1001+ij)] eE q q q q q q nN q q) q q .none<|au.fT (x:=.agg [j 0,ai aI [aL (1001+ij)],j (-1),ab aB,ai aI ([]:List Int),j 0]) (O.eh (cs:=[j 0,ai aI [aL (1001+ij)],j (-1),ab aB,.aF,j 0]) Ij BG q q q) q q .none<|ag (O.dF (ys:=[.agg [j 0,ai aI [aL (1001+ij)],j (-1),ab aB,ai aI ([]:List Int),j 0]]) bG [(⟨0,[aL (1001+ij)],(-1),aB,([]:List Int),0⟩:Prod)] mP q q q q q q IT q q)<|ag (O.e9 (.ptr q))<|ag (O.bd q (.ptr q) km q)<|ag (O.bd q (.ptr q) ln q)<|au.ha (G2:=[(1,.obj (da.cells a0)),(2,.obj [.aF,.aF,.aF,ab aB,ab aB]),(6,.obj [ak br bX.av.a',ak ba bX.av.bw,ak bG [(⟨0,[aL (1001+ij)],(-1),aB,([]:List Int),0⟩:Prod)],ab bX.av.bx,ab bX.av.bB,ak bN bX.b4,ak ba bX.b0,ak cy bX.bK,j bX.ck,j bX.cm,ab bX.ch,j bX.bZ,j bX.bD])]) q (cc.ra (y':=ak bG [(⟨0,[aL (1001+ij)],(-1),aB,([]:List Int),0⟩:Prod)]) (cs2:=[ak br bX.av.a',ak ba bX.av.bw,ak bG [(⟨0,[aL (1001+ij)],(-1),aB,([]:List Int),0⟩:Prod)],ab bX.av.bx,ab bX.av.bB,ak bN bX.b4,ak ba bX.b0,ak cy bX.bK,j bX.ck,j bX.cm,ab bX.ch,j bX.bZ,j bX.bD]) q q (.ptr q) (.own q) (.r q .nil) .refl q Ix q q q q q (.n q q (.n q q (.b q .nil))))<|bR q) ?_;refine W.aX<|W.aT [1,2,6,16] ?_;refine W.bl ?_;obtain ⟨bc,aq,h⟩:=ay h;refine W.cf (G1:=[(1,_),(2,_),(6,.obj [ak br (((⟨(⟨bX.av.a',bX.av.bw,[(⟨0,[aL (1001+ij)],(-1),aB,([]:List Int),0⟩:Prod)],bX.av.bx,bX.av.bB⟩:b3),bX.b4,bX.b0,bX.bK,bX.ck,bX.cm,bX.ch,bX.bZ,bX.bD⟩:cU).av).a'),ak ba (((⟨(⟨bX.av.a',bX.av.bw,[(⟨0,[aL (1001+ij)],(-1),aB,([]:List Int),0⟩:Prod)],bX.av.bx,bX.av.bB⟩:b3),bX.b4,bX.b0,bX.bK,bX.ck,bX.cm,bX.ch,bX.bZ,bX.bD⟩:cU).av).bw),ak bG (((⟨(⟨bX.av.a',bX.av.bw,[(⟨0,[aL (1001+ij)],(-1),aB,([]:List Int),0⟩:Prod)],bX.av.bx,bX.av.bB⟩:b3),bX.b4,bX.b0,bX.bK,bX.ck,bX.cm,bX.ch,bX.bZ,bX.bD⟩:cU).av).a8),ab (((⟨(⟨bX.av.a',bX.av.bw,[(⟨0,[aL (1001+ij)],(-1),aB,([]:List Int),0⟩:Prod)],bX.av.bx,bX.av.bB⟩:b3),bX.b4,bX.b0,bX.bK,bX.ck,bX.cm,bX.ch,bX.bZ,bX.bD⟩:cU).av).bx),ab (((⟨(⟨bX.av.a',bX.av.bw,[(⟨0,[aL (1001+ij)],(-1),aB,([]:List Int),0⟩:Prod)],bX.av.bx,bX.av.bB⟩:b3),bX.b4,bX.b0,bX.bK,bX.ck,bX.cm,bX.ch,bX.bZ,bX.bD⟩:cU).av).bB),ak bN ((⟨(⟨bX.av.a',bX.av.bw,[(⟨0,[aL (1001+ij)],(-1),aB,([]:List Int),0⟩:Prod)],bX.av.bx,bX.av.bB⟩:b3),bX.b4,bX.b0,bX.bK,bX.ck,bX.cm,bX.ch,bX.bZ,bX.bD⟩:cU).b4),ak ba ((⟨(⟨bX.av.a',bX.av.bw,[(⟨0,[aL (1001+ij)],(-1),aB,([]:List Int),0⟩:Prod)],bX.av.bx,bX.av.bB⟩:b3),bX.b4,bX.b0,bX.bK,bX.ck,bX.cm,bX.ch,bX.bZ,bX.bD⟩:cU).b0),ak cy ((⟨(⟨bX.av.a',bX.av.bw,[(⟨0,[aL (1001+ij)],(-1),aB,([]:List Int),0⟩:Prod)],bX.av.bx,bX.av.bB⟩:b3),bX.b4,bX.b0,bX.bK,bX.ck,bX.cm,bX.ch,bX.bZ,bX.bD⟩:cU).bK),j ((⟨(⟨bX.av.a',bX.av.bw,[(⟨0,[aL (1001+ij)],(-1),aB,([]:List Int),0⟩:Prod)],bX.av.bx,bX.av.bB⟩:b3),bX.b4,bX.b0,bX.bK,bX.ck,bX.cm,bX.ch,bX.bZ,bX.bD⟩:cU).ck),j ((⟨(⟨bX.av.a',bX.av.bw,[(⟨0,[aL (1001+ij)],(-1),aB,([]:List Int),0⟩:Prod)],bX.av.bx,bX.av.bB⟩:b3),bX.b4,bX.b0,bX.bK,bX.ck,bX.cm,bX.ch,bX.bZ,bX.bD⟩:cU).cm),ab ((⟨(⟨bX.av.a',bX.av.bw,[(⟨0,[aL (1001+ij)],(-1),aB,([]:List Int),0⟩:Prod)],bX.av.bx,bX.av.bB⟩:b3),bX.b4,bX.b0,bX.bK,bX.ck,bX.cm,bX.ch,bX.bZ,bX.bD⟩:cU).ch),j ((⟨(⟨bX.av.a',bX.av.bw,[(⟨0,[aL (1001+ij)],(-1),aB,([]:List Int),0⟩:Prod)],bX.av.bx,bX.av.bB⟩:b3),bX.b4,bX.b0,bX.bK,bX.ck,bX.cm,bX.ch,bX.bZ,bX.bD⟩:cU).bZ),j ((⟨(⟨bX.av.a',bX.av.bw,[(⟨0,[aL (1001+ij)],(-1),aB,([]:List Int),0⟩:Prod)],bX.av.bx,bX.av.bB⟩:b3),bX.b4,bX.b0,bX.bK,bX.ck,bX.cm,bX.ch,bX.bZ,bX.bD⟩:cU).bD)]),(16,_)]) (dQ q q q q) ?_;refine W.eH (s:=((⟨(⟨bX.av.a',bX.av.bw,[(⟨0,[aL (1001+ij)],(-1),aB,([]:List Int),0⟩:Prod)],bX.av.bx,bX.av.bB⟩:b3),bX.b4,bX.b0,bX.bK,bX.ck,bX.cm,bX.ch,bX.bZ,bX.bD⟩:cU),0)) (λ(nJ:cU × Int)=>[(1,.obj (da.cells a0)),(2,.obj [.aF,.aF,.aF,ab aB,ab aB]),(6,.obj (ee.cells nJ.1)),(16,j nJ.2)]) 10 (λ(bc:cU)=>[(1,.obj (da.cells a0)),(2,.obj [.aF,.aF,.aF,ab aB,ab aB]),(6,.obj (ee.cells bc))]) aq (λnJ o h=>?_) ?_
  ·clear aq;refine W.aX<|W.aT [1,2,6,16,217] ?_;refine W.bz h q (λSh h=>?_) (λSh h=>?_)
   ·refine W.bE<|ah.aW ?_;refine W.aX<|W.bl ?_;refine W.aT [1,2,6,16,17] ?_;refine W.bl ?_;obtain ⟨kx,aq,h⟩:=ay h;refine W.cf (G1:=[(1,_),(2,_),(6,_),(16,_),(17,_)]) (fb q q q q q) ?_;refine W.eH (s:=(nJ.1,0)) (λ(pP:cU × Int)=>[(1,.obj (da.cells a0)),(2,.obj [.aF,.aF,.aF,ab aB,ab aB]),(6,.obj (ee.cells pP.1)),(16,j nJ.2),(17,j pP.2)]) 12 (λ(kx:cU)=>[(1,.obj (da.cells a0)),(2,.obj [.aF,.aF,.aF,ab aB,ab aB]),(6,.obj (ee.cells kx)),(16,j nJ.2)]) aq (λpP o h=>?_) ?_
    ·clear aq;refine W.aX ?_;obtain ⟨BD,L8,h⟩:=ay h;refine W.aT [1,2,6,16,17,228] ?_;refine W.bz h q (λSj h=>?_) (λSj h=>?_)
     ·refine W.bE<|ah.aW ?_;refine W.aX<|W.bl ?_;obtain ⟨yB,TN,h⟩:=ay h;obtain ⟨IJ,TO,h⟩:=ay h;obtain ⟨rh,TP,h⟩:=ay h;obtain ⟨jI,TQ,h⟩:=ay h;refine W.rd [[],[],[1],[],[1,2,3],[1,2,3,4],aM 1 5 [],[],[7],[],[7,8,9],[7,8,9,10],aM 7 5 [],[],aM 7 7 [],aM 7 8 [],aM 0 16 []] [(1,_),(2,_),(6,_),(16,_),(17,_)] d_ (by kernel_rfl) (ao 0 (O.az (.obj q))<|ao 1 (O.bd q (.obj q) kn q)<|ao 2 (O.cK (y:=ai ei a0.dw) q (.ptr q) ll q q)<|ao 3 (O.az (.lit q))<|ao 4 (O.cv (.aD q) (.lit q) lb TN)<|ao 5 (O.ef (.bn q) sA)<|ao 6 (O.cX (x:=ab yB.Left) (.bn q) eN q)<|ao 7 (O.bd q (.obj q) kn q)<|ao 8 (O.cK (y:=ai ei a0.dw) q (.ptr q) ll q q)<|ao 9 (O.az (.lit q))<|ao 10 (O.cv (.aD q) (.lit q) lb TO)<|ao 11 (O.ef (.bn q) m')<|ao 12 (O.cX (x:=ai dq IJ.eY) (.bn q) po q)<|ao 13 (O.az (.lit q))<|ao 14 (O.cv (.aD q) (.lit q) oZ TP)<|ao 15 (O.hX (cs':=[ai er rh.ia,ab rh.Prec.Name,aY rh.Prec.Lit,j rh.Prec.cM,j rh.Prec.At,j rh.At]) (.bn q) B' q q)<|bC.iX 16 (G2:=[(247,.cA []),(6,.obj [ak br jI.av.a',ak ba jI.av.bw,ak bG jI.av.a8,ab jI.av.bx,ab jI.av.bB,ak bN jI.b4,ak ba jI.b0,ak cy jI.bK,j jI.ck,j jI.cm,ab jI.ch,j jI.bZ,j jI.bD]),(1,.obj (da.cells a0)),(2,.obj [.aF,.aF,.aF,ab aB,ab aB]),(16,j nJ.2),(17,j pP.2)]) (cc.call q q (h4.nF (G2:=[(1,.obj (da.cells a0)),(2,.obj [.aF,.aF,.aF,ab aB,ab aB]),(16,j nJ.2),(17,j pP.2)]) (A:=[]) (ys:=[.ptr ⟨6,[]⟩ 0,ab yB.Left,.agg (dq.cells rh)]) (args:=[.obj (ee.cells pP.1),ab yB.Left,.agg (dq.cells rh)]) (cs':=[ak br jI.av.a',ak ba jI.av.bw,ak bG jI.av.a8,ab jI.av.bx,ab jI.av.bB,ak bN jI.b4,ak ba jI.b0,ak cy jI.bK,j jI.ck,j jI.cm,ab jI.ch,j jI.bZ,j jI.bD]) (k0:=0) q q q q (.b q (.n q (.n q .nil))) q (Qf pP.1 yB.Left rh _ TQ) call97 (dQ q q q q) q q (dQ q q q q) .nil q)) q q q q (by kernel_rfl) (by kernel_rfl)<|bC.fin q q q (fb q q q q q)) ?_;refine ah.bl ?_;refine ah.aW<|W.bo [1,2,6,16,17] (bq q<|ag (O.add (.lit q) (.k q))<|au.bo [1,2,6,16,230] q<|au.aV) ?_;obtain rfl:=aw h;exact ah.go (fb q q q q q)
     ·refine W.c9 ?_;refine ah.c8 ?_;obtain rfl:=aw h;exact ah.aE (dQ q q q q)
    refine ah.c_ ?_;refine ah.bl ?_;refine ah.aW<|W.bo [1,2,6,16] (bq q<|ag (O.add (.lit q) (.k q))<|au.bo [1,2,6,219] q<|au.aV) ?_;obtain rfl:=aw h;exact ah.go (dQ q q q q)
   ·refine W.c9 ?_;refine ah.c8 ?_;obtain rfl:=aw h;exact ah.aE (dj q q q)
  refine ah.c_ ?_;refine ah.aW<|W.aX ?_;refine W.aT [1,2,6,252] ?_;refine W.bz h q (λSk h=>?_) (λSk h=>?_)
  ·refine W.aX<|W.rd [[],[],[1],[1,2],[1,2,3],[],[5],[5,6],[5,6,7],[],[9],[9,10],[9,10,11],[0],aM 0 5 [13],aM 0 9 [13,14],aM 0 16 []] [(2,_),(3,_),(4,_),(5,_)] d_ (by kernel_rfl) (ao 0 (O.eh (cs:=[.aF,.aF,.aF,ab aB,ab aB]) Ik pU q q q)<|ao 1 (O.az (.obj q))<|ao 2 (O.e9 (.ptr q))<|ao 3 (O.bd q (.ptr q) zf q)<|ao 4 (O.cw q (.ptr q) cx q)<|ao 5 (O.az (.obj q))<|ao 6 (O.e9 (.ptr q))<|ao 7 (O.bd q (.ptr q) zg q)<|ao 8 (O.cw q (.ptr q) cx q)<|ao 9 (O.az (.obj q))<|ao 10 (O.e9 (.ptr q))<|ao 11 (O.bd q (.ptr q) zh q)<|ao 12 (O.cw q (.ptr q) eN q)<|bC.eh 13 (G2:=[(2,.obj [.aF,.aF,.aF,ab aB,ab aB]),(6,.obj (ee.cells bc))]) (U:=[(12,265,some (ab bc.ch)),(11,264,some (.ptr ⟨6,[]⟩ 10)),(10,263,some (.ptr ⟨6,[]⟩ 0)),(9,262,some (.ptr ⟨6,[]⟩ 0)),(8,261,some (j bc.cm)),(7,260,some (.ptr ⟨6,[]⟩ 9)),(6,259,some (.ptr ⟨6,[]⟩ 0)),(5,258,some (.ptr ⟨6,[]⟩ 0)),(4,257,some (j bc.ck)),(3,256,some (.ptr ⟨6,[]⟩ 8)),(2,255,some (.ptr ⟨6,[]⟩ 0)),(1,254,some (.ptr ⟨6,[]⟩ 0))]) (kU.v (cc.mY (cc.dx (G2:=[(2,.obj [.aF,.aF,.aF,ab aB,ab aB]),(6,.obj (ee.cells bc))]) (cs2:=[.aF,.aF,.aF,ab aB,ab aB]) q q q (.obj q) (.b2 q q) q oh q q q q (.b q (.n q q .nil))))) q q (by kernel_rfl) q q q (.c (.inr (.inl ⟨_,q⟩)) q q q q q (gA.wanted .none) (O.cw q (.ptr q) eN q) (.c (.inr (.inr (.inr (.inl ⟨6,_,_,q,q,jG q,by simp,_,q,jG q⟩)))) q q q q q (gA.wanted .none) (O.bd q (.ptr q) zh q) (.c (.inr (.inr (.inr (.inl ⟨6,_,_,q,q,jG q,by simp,_,q,jG q⟩)))) q q q q q (gA.wanted .none) (O.e9 (.ptr q)) (.c (.inr (.inr (.inr (.inl ⟨6,_,_,q,q,jG q,by simp,_,q,jG q⟩)))) q q q q q (gA.wanted .none) (O.az (.obj q)) (.c (.inr (.inl ⟨_,q⟩)) q q q q q (gA.wanted .none) (O.cw q (.ptr q) cx q) (.c (.inr (.inr (.inr (.inl ⟨6,_,_,q,q,jG q,by simp,_,q,jG q⟩)))) q q q q q (gA.wanted .none) (O.bd q (.ptr q) zg q) (.c (.inr (.inr (.inr (.inl ⟨6,_,_,q,q,jG q,by simp,_,q,jG q⟩)))) q q q q q (gA.wanted .none) (O.e9 (.ptr q)) (.c (.inr (.inr (.inr (.inl ⟨6,_,_,q,q,jG q,by simp,_,q,jG q⟩)))) q q q q q (gA.wanted .none) (O.az (.obj q)) (.c (.inr (.inl ⟨_,q⟩)) q q q q q (gA.wanted .none) (O.cw q (.ptr q) cx q) (.c (.inr (.inr (.inr (.inl ⟨6,_,_,q,q,jG q,by simp,_,q,jG q⟩)))) q q q q q (gA.wanted .none) (O.bd q (.ptr q) zf q) (.c (.inr (.inr (.inr (.inl ⟨6,_,_,q,q,jG q,by simp,_,q,jG q⟩)))) q q q q q (gA.wanted .none) (O.e9 (.ptr q)) (.c (.inr (.inr (.inr (.inl ⟨6,_,_,q,q,jG q,by simp,_,q,jG q⟩)))) q q q q q (gA.wanted .none) (O.az (.obj q)) .nil)))))))))))) (by kernel_rfl)<|ao 14 (O.dK (.lit q))<|ao 15 (O.dK (.lit q))<|ao 16 (O.dK (.lit q))<|bC.fin q q q (dQ q q q q)) ?_;refine ah.aW<|W.e7 (G1:=[(2,.obj [ai br ([]:List bM),ai ba ([]:List e5),ai bG ([]:List Prod),ab aB,ab aB]),(3,_),(4,_),(5,_)]) [2] (.z q q (gl.obj (.z (.z (.z (.f (.f .nil)))))) (.n q q (.n q q (.n q q .nil)))) ?_;refine W.rt ?_;refine ah.cP ?_;obtain rfl:=aw h;exact cu (.c (ys0:=[ai br ([]:List bM),ai ba ([]:List e5),ai bG ([]:List Prod),ab aB,ab aB]) q gh q q q (.f q (.f q (.f q (.f q (.f q .nil))))) (.f q q (.f q q (.f q q .nil))))
  ·refine W.bE<|ah.aW ?_;refine W.bI [1,2,6] (ag (O.az (.obj q))<|ag (O.eh (cs:=[ab ({ data:=#[36,97,99,99,101,112,116] }),ab aB]) DX BH q q q)<|ag (O.dF (ys:=[.agg [ab ({ data:=#[36,97,99,99,101,112,116] }),ab aB]]) ba [(⟨{ data:=#[36,97,99,99,101,112,116] },aB⟩:e5)] q_ q q q q q q Ek q q)<|ag (O.e9 (.ptr q))<|ag (O.bd q (.ptr q) km q)<|ag (O.bd q (.ptr q) rJ q)<|au.ha (G2:=[(1,.obj (da.cells a0)),(2,.obj [.aF,.aF,.aF,ab aB,ab aB]),(6,.obj [ak br bc.av.a',ak ba [(⟨{ data:=#[36,97,99,99,101,112,116] },aB⟩:e5)],ak bG bc.av.a8,ab bc.av.bx,ab bc.av.bB,ak bN bc.b4,ak ba bc.b0,ak cy bc.bK,j bc.ck,j bc.cm,ab bc.ch,j bc.bZ,j bc.bD])]) q (cc.ra (y':=ak ba [(⟨{ data:=#[36,97,99,99,101,112,116] },aB⟩:e5)]) (cs2:=[ak br bc.av.a',ak ba [(⟨{ data:=#[36,97,99,99,101,112,116] },aB⟩:e5)],ak bG bc.av.a8,ab bc.av.bx,ab bc.av.bB,ak bN bc.b4,ak ba bc.b0,ak cy bc.bK,j bc.ck,j bc.cm,ab bc.ch,j bc.bZ,j bc.bD]) q q (.ptr q) (.own q) (.r q .nil) .refl q D6 q q q q q (.n q q (.n q q (.b q .nil))))<|bR q) ?_;refine W.aX<|W.aT [1,2,6,18] ?_;refine W.bl ?_;obtain ⟨wB,aq,h⟩:=ay h;refine W.cf (G1:=[(1,_),(2,_),(6,_),(18,_)]) (dQ q q q q) ?_;refine W.eH (s:=([(⟨{ data:=#[36,97,99,99,101,112,116] },aB⟩:e5)],0)) (λ(mN:List e5 × Int)=>[(1,.obj (da.cells a0)),(2,.obj [.aF,.aF,.aF,ab aB,ab aB]),(6,.obj [ak br bc.av.a',ak ba mN.1,ak bG bc.av.a8,ab bc.av.bx,ab bc.av.bB,ak bN bc.b4,ak ba bc.b0,ak cy bc.bK,j bc.ck,j bc.cm,ab bc.ch,j bc.bZ,j bc.bD]),(18,j mN.2)]) 14 (λ(wB:List e5)=>[(1,.obj (da.cells a0)),(2,.obj [.aF,.aF,.aF,ab aB,ab aB]),(6,.obj [ak br bc.av.a',ak ba wB,ak bG bc.av.a8,ab bc.av.bx,ab bc.av.bB,ak bN bc.b4,ak ba bc.b0,ak cy bc.bK,j bc.ck,j bc.cm,ab bc.ch,j bc.bZ,j bc.bD])]) aq (λmN o h=>?_) ?_
   ·clear aq;refine W.aX<|W.aT [1,2,6,18,278] ?_;refine W.bz h q (λSl h=>?_) (λSl h=>?_)
    ·refine W.bE<|ah.aW ?_;refine W.aX<|W.bl ?_;obtain ⟨ml,L9,h⟩:=ay h;refine W.bI [1,2,6,18,19] (ag (O.az (.obj q))<|ag (O.e9 (.ptr q))<|ag (O.bd q (.ptr q) xo q)<|ag (O.cK (y:=.bh cy.z ⟨6,[7]⟩ bc.bK.length) q (.ptr q) y5 q q)<|bq q<|ag (O.gH (en:=cy) q (.bh q) (.lit q) Bs L9 q)<|ag (O.jr (en:=cy) (x':=ab ml) q (.ptr q) eN L9 q q)<|ag (O.eh (cs:=[ab ml,ab aB]) DX BH q q q)<|ag (O.e6 (cs:=[ab aB,ab aB]) BH q q)<|au.dx (G2:=[(1,_),(2,_),(6,_),(18,_),(19,_)]) (cs2:=[ab ml,ab aB]) q (.obj q) (.b2 q q) q VD q q q q (.n q q (.n q q (.n q q (.n q q (.b q .nil)))))<|bR q) ?_;refine W.aX ?_;obtain ⟨wC,TR,h⟩:=ay h;refine W.bI [1,2,6,18,19,20] (ag (O.az (.obj q))<|ag (O.bd q (.obj q) Ku q)<|ag (O.cw q (.ptr q) eN q)<|dV (ct.vw (ys:=[.ptr ⟨6,[]⟩ 0,ab ml]) q (.c (View.oW q q) (.s .nil)) (J_ (⟨(⟨bc.av.a',mN.1,bc.av.a8,bc.av.bx,bc.av.bB⟩:b3),bc.b4,bc.b0,bc.bK,bc.ck,bc.cm,bc.ch,bc.bZ,bc.bD⟩:cU) ml _ TR) call98 q)<|au.aV) ?_;refine W.aT [1,2,6,18,19,20,294] ?_;obtain ⟨qg,aa,h⟩:=ay h;refine W.bL [(1,.obj (da.cells a0)),(2,.obj [.aF,.aF,.aF,ab aB,ab aB]),(6,.obj [ak br bc.av.a',ak ba mN.1,ak bG bc.av.a8,ab bc.av.bx,ab bc.av.bB,ak bN bc.b4,ak ba bc.b0,ak cy bc.bK,j bc.ck,j bc.cm,ab bc.ch,j bc.bZ,j bc.bD]),(18,j mN.2),(19,.obj [ab ml,ab qg])] ?_ ?_
     ·clear h; have h:=aa; clear aa;refine W.bz h q (λSm h=>?_) (λSm h=>?_)
      ·obtain ⟨Ef,G0,h⟩:=ay h;refine W.bo [1,2,6,18,19] (ag (O.az (.obj q))<|ag (O.e9 (.ptr q))<|ag (O.bd q (.ptr q) ze q)<|ag (O.cK (y:=.bh ba.z ⟨6,[6]⟩ bc.b0.length) q (.ptr q) rD q q)<|bq q<|ag (O.gH (en:=ba) q (.bh q) (.lit q) q_ G0 q)<|ag (O.kl (en:=ba) q (.ptr q) CB G0 q q)<|ag (O.jr (en:=ba) (x':=ab Ef.Tag) q (.ptr q) eN G0 q q)<|ag (O.bd q (.obj q) CB q)<|au.dx (G2:=[(1,_),(2,_),(6,_),(18,_),(19,_)]) (cs2:=[ab ml,ab Ef.Tag]) q (.ptr q) (.lit q) q wy q q q q (.n q q (.n q q (.n q q (.n q q (.b q .nil)))))<|bR q) ?_;obtain rfl:=aw h;exact ah.bL (fb q q q q q)
      ·refine W.bE ?_;obtain rfl:=aw h;exact ah.bL (fb q q q q q)
     refine ah.aW ?_;obtain ⟨NK,TS,h⟩:=ay h;refine W.rd [[],[],[1],[1,2],[1,2,3],[1,2,3,4],[],[6],aM 1 7 [],aM 0 9 [],aM 0 10 [],aM 0 11 [],aM 0 12 []] [(1,_),(2,_),(6,_),(18,_)] d_ (by kernel_rfl) (ao 0 (O.az (.obj q))<|ao 1 (O.az (.obj q))<|ao 2 (O.e9 (.ptr q))<|ao 3 (O.bd q (.ptr q) km q)<|ao 4 (O.bd q (.ptr q) rJ q)<|ao 5 (O.cK (y:=.bh ba.z ⟨6,[1]⟩ mN.1.length) q (.ptr q) rD q q)<|ao 6 (O.dJ (cs':=[ab ml,ab qg]) q (.obj q) OJ q q)<|bC.fT 7 (x:=ai ba [(⟨ml,qg⟩:e5)]) (O.dF (ys:=[.agg [ab ml,ab qg]]) ba [(⟨ml,qg⟩:e5)] q_ q q q q q q Ek q q) q q q q .none<|ao 8 (O.ap (en:=ba) (r:=NK) (.bh q) q (.aD q) .i ED q TS)<|ao 9 (O.e9 (.ptr q))<|ao 10 (O.bd q (.ptr q) km q)<|ao 11 (O.bd q (.ptr q) rJ q)<|bC.iX 12 (G2:=[(1,.obj (da.cells a0)),(2,.obj [.aF,.aF,.aF,ab aB,ab aB]),(6,.obj [ak br bc.av.a',ak ba (mN.1++[(⟨ml,qg⟩:e5)]),ak bG bc.av.a8,ab bc.av.bx,ab bc.av.bB,ak bN bc.b4,ak ba bc.b0,ak cy bc.bK,j bc.ck,j bc.cm,ab bc.ch,j bc.bZ,j bc.bD]),(18,j mN.2)]) (cc.kr (g1:=_) (en:=ba) (M:=[(⟨ml,qg⟩:e5)]) (cs2:=[ak br bc.av.a',ak ba (mN.1++[(⟨ml,qg⟩:e5)]),ak bG bc.av.a8,ab bc.av.bx,ab bc.av.bB,ak bN bc.b4,ak ba bc.b0,ak cy bc.bK,j bc.ck,j bc.cm,ab bc.ch,j bc.bZ,j bc.bD]) q q (.ptr q) (.bY q) q q q .js .gE q q D6 q q q q (.n q q (.n q q (.b q (.n q q .nil))))) q q q q (by kernel_rfl) (by kernel_rfl)<|bC.fin q q q (dQ q q q q)) ?_;refine ah.bl ?_;refine ah.aW<|W.bo [1,2,6,18] (bq q<|ag (O.add (.lit q) (.k q))<|au.bo [1,2,6,280] q<|au.aV) ?_;obtain rfl:=aw h;exact ah.go (dQ q q q q)
    ·refine W.c9 ?_;refine ah.c8 ?_;obtain rfl:=aw h;exact ah.aE (dj q q q)
   refine ah.c_ ?_;refine ah.aW<|W.aX ?_;refine W.aT [1,2,6,21] ?_;refine W.bl ?_;obtain ⟨ju,aq,h⟩:=ay h;refine W.cf (G1:=[(1,_),(2,_),(6,_),(21,_)]) (dQ q q q q) ?_;refine W.eH (s:=(wB,1)) (λ(od:List e5 × Int)=>[(1,.obj (da.cells a0)),(2,.obj [.aF,.aF,.aF,ab aB,ab aB]),(6,.obj [ak br bc.av.a',ak ba od.1,ak bG bc.av.a8,ab bc.av.bx,ab bc.av.bB,ak bN bc.b4,ak ba bc.b0,ak cy bc.bK,j bc.ck,j bc.cm,ab bc.ch,j bc.bZ,j bc.bD]),(21,j od.2)]) 16 (λ(ju:List e5)=>[(1,.obj (da.cells a0)),(2,.obj [.aF,.aF,.aF,ab aB,ab aB]),(6,.obj [ak br bc.av.a',ak ba ju,ak bG bc.av.a8,ab bc.av.bx,ab bc.av.bB,ak bN bc.b4,ak ba bc.b0,ak cy bc.bK,j bc.ck,j bc.cm,ab bc.ch,j bc.bZ,j bc.bD])]) aq (λod o h=>?_) ?_
   ·clear aq;refine W.aX<|W.aT [1,2,6,21,321] ?_;refine W.bz h q (λSn h=>?_) (λSn h=>?_)
    ·refine W.bE<|ah.aW ?_;refine W.aX<|W.bl ?_;obtain ⟨Eg,TT,h⟩:=ay h;obtain ⟨ri,TU,h⟩:=ay h;obtain ⟨NL,TV,h⟩:=ay h;refine W.rd [[],[],[1],[1,2],[1,2,3],[1,2,3,4],[],[6],[6,7],[6,7,8],[6,7,8,9],aM 1 10 [],aM 0 12 [],aM 0 13 [],aM 0 14 [],aM 0 15 []] [(1,_),(2,_),(6,_),(21,_)] d_ (by kernel_rfl) (ao 0 (O.az (.obj q))<|ao 1 (O.az (.obj q))<|ao 2 (O.e9 (.ptr q))<|ao 3 (O.bd q (.ptr q) km q)<|ao 4 (O.bd q (.ptr q) rJ q)<|ao 5 (O.cK (y:=.bh ba.z ⟨6,[1]⟩ od.1.length) q (.ptr q) rD q q)<|ao 6 (O.az (.lit q))<|gL 7 (ct.go (.bF (.lit q) .nil) (Qg od.2 _ TT) call99 q)<|ao 8 (O.cat (.k q) (.lit q) TU)<|ao 9 (O.eh (cs:=[ab ri,ab aB]) DX BH q q q)<|bC.fT 10 (x:=ai ba [(⟨ri,aB⟩:e5)]) (O.dF (ys:=[.agg [ab ri,ab aB]]) ba [(⟨ri,aB⟩:e5)] q_ q q q q q q Ek q q) q q q q .none<|ao 11 (O.ap (en:=ba) (r:=NL) (.bh q) q (.aD q) .i ED q TV)<|ao 12 (O.e9 (.ptr q))<|ao 13 (O.bd q (.ptr q) km q)<|ao 14 (O.bd q (.ptr q) rJ q)<|bC.iX 15 (G2:=[(1,.obj (da.cells a0)),(2,.obj [.aF,.aF,.aF,ab aB,ab aB]),(6,.obj [ak br bc.av.a',ak ba (od.1++[(⟨ri,aB⟩:e5)]),ak bG bc.av.a8,ab bc.av.bx,ab bc.av.bB,ak bN bc.b4,ak ba bc.b0,ak cy bc.bK,j bc.ck,j bc.cm,ab bc.ch,j bc.bZ,j bc.bD]),(21,j od.2)]) (cc.kr (g1:=_) (en:=ba) (M:=[(⟨ri,aB⟩:e5)]) (cs2:=[ak br bc.av.a',ak ba (od.1++[(⟨ri,aB⟩:e5)]),ak bG bc.av.a8,ab bc.av.bx,ab bc.av.bB,ak bN bc.b4,ak ba bc.b0,ak cy bc.bK,j bc.ck,j bc.cm,ab bc.ch,j bc.bZ,j bc.bD]) q q (.ptr q) (.bY q) q q q .js .gE q q D6 q q q q (.n q q (.n q q (.b q (.n q q .nil))))) q q q q (by kernel_rfl) (by kernel_rfl)<|bC.fin q q q (dQ q q q q)) ?_;refine ah.bl ?_;refine ah.aW<|W.bo [1,2,6,21] (bq q<|ag (O.add (.lit q) (.k q))<|au.bo [1,2,6,323] q<|au.aV) ?_;obtain rfl:=aw h;exact ah.go (dQ q q q q)
    ·refine W.c9 ?_;refine ah.c8 ?_;obtain rfl:=aw h;exact ah.aE (dj q q q)
   refine ah.c_ ?_;refine ah.aW<|W.aT [1,2,6,22] ?_;refine W.aX<|W.aT [1,2,6,22,23] ?_;refine W.bl ?_;obtain ⟨kS,aq,h⟩:=ay h;refine W.cf (G1:=[(1,_),(2,_),(6,_),(22,_),(23,_)]) (fb q q q q q) ?_;refine W.eH (s:=(bc.av.a',57346,3)) (λ(iP:List bM × Int × Int)=>[(1,.obj (da.cells a0)),(2,.obj [.aF,.aF,.aF,ab aB,ab aB]),(6,.obj [ak br iP.1,ak ba ju,ak bG bc.av.a8,ab bc.av.bx,ab bc.av.bB,ak bN bc.b4,ak ba bc.b0,ak cy bc.bK,j bc.ck,j bc.cm,ab bc.ch,j bc.bZ,j bc.bD]),(22,j iP.2.1),(23,j iP.2.2)]) 18 (λ(kS:List bM)=>[(1,.obj (da.cells a0)),(2,.obj [.aF,.aF,.aF,ab aB,ab aB]),(6,.obj [ak br kS,ak ba ju,ak bG bc.av.a8,ab bc.av.bx,ab bc.av.bB,ak bN bc.b4,ak ba bc.b0,ak cy bc.bK,j bc.ck,j bc.cm,ab bc.ch,j bc.bZ,j bc.bD])]) aq (λiP o h=>?_) ?_
   ·clear aq;refine W.aX<|W.aT [1,2,6,22,23,346] ?_;refine W.bz h q (λSp h=>?_) (λSp h=>?_)
    ·refine W.bE<|ah.aW ?_;refine W.aX ?_;obtain ⟨Ai,aa,h⟩:=ay h;refine W.bL [(1,.obj (da.cells a0)),(2,.obj [.aF,.aF,.aF,ab aB,ab aB]),(6,.obj [ak br Ai.1,ak ba ju,ak bG bc.av.a8,ab bc.av.bx,ab bc.av.bB,ak bN bc.b4,ak ba bc.b0,ak cy bc.bK,j bc.ck,j bc.cm,ab bc.ch,j bc.bZ,j bc.bD]),(22,j Ai.2),(23,j iP.2.2)] ?_ ?_
     ·clear h; have h:=aa; clear aa;refine W.bl ?_;obtain ⟨IC,L5,h⟩:=ay h;refine W.bI [1,2,6,22,23,356] (ag (O.az (.obj q))<|ag (O.e9 (.ptr q))<|ag (O.bd q (.ptr q) xn q)<|ag (O.cK (y:=.bh bN.z ⟨6,[5]⟩ bc.b4.length) q (.ptr q) y4 q q)<|bq q<|ag (O.gH (en:=bN) q (.bh q) (.lit q) oY L5 q)<|ag (O.jr (en:=bN) (x':=aY IC) q (.ptr q) mX L5 q q)<|au.aV) ?_;obtain ⟨Af,aa,h⟩:=ay h;refine W.bL [(1,.obj (da.cells a0)),(2,.obj [.aF,.aF,.aF,ab aB,ab aB]),(6,.obj [ak br Af.1,ak ba ju,ak bG bc.av.a8,ab bc.av.bx,ab bc.av.bB,ak bN bc.b4,ak ba bc.b0,ak cy bc.bK,j bc.ck,j bc.cm,ab bc.ch,j bc.bZ,j bc.bD]),(22,j Af.2),(23,j iP.2.2)] ?_ ?_
      ·clear h; have h:=aa; clear aa;refine W.bz h q (λR3 h=>?_) (λR3 h=>?_)
       ·obtain ⟨lF,GS,h⟩:=ay h;refine W.bI [1,2,6,22,23] (ag (O.az (.obj q))<|ag (O.e9 (.ptr q))<|ag (O.bd q (.ptr q) km q)<|ag (O.bd q (.ptr q) m_ q)<|ag (O.cK (y:=.bh br.z ⟨6,[0]⟩ iP.1.length) q (.ptr q) nX q q)<|bq q<|bq q<|ag (O.gH (en:=br) q (.bh q) (.lit q) oe GS q)<|ag (O.kl (en:=br) q (.ptr q) zl GS q q)<|au.ha (G2:=[(1,.obj (da.cells a0)),(2,.obj [.aF,.aF,.aF,ab aB,ab aB]),(6,.obj [ak br (iP.1.set iP.2.2.toNat (⟨lF.Name,lF.Lit,iP.2.1,lF.Level,lF.fh,lF.Tag⟩:bM)),ak ba ju,ak bG bc.av.a8,ab bc.av.bx,ab bc.av.bB,ak bN bc.b4,ak ba bc.b0,ak cy bc.bK,j bc.ck,j bc.cm,ab bc.ch,j bc.bZ,j bc.bD]),(22,j iP.2.1),(23,j iP.2.2)]) q (cc.og (en:=br) (y2:=(⟨lF.Name,lF.Lit,iP.2.1,lF.Level,lF.fh,lF.Tag⟩:bM)) (cs':=[j iP.2.1]) (x2:=.obj [ak br (iP.1.set iP.2.2.toNat (⟨lF.Name,lF.Lit,iP.2.1,lF.Level,lF.fh,lF.Tag⟩:bM)),ak ba ju,ak bG bc.av.a8,ab bc.av.bx,ab bc.av.bB,ak bN bc.b4,ak ba bc.b0,ak cy bc.bK,j bc.ck,j bc.cm,ab bc.ch,j bc.bZ,j bc.bD]) q q (.ptr q) (.lit q) q GS nr q q q q q q q (.n q q (.n q q (.b q (.n q q (.n q q .nil))))))<|bR q) ?_;refine W.bo [1,2,6,22,23] (bq q<|ag (O.add (.lit q) (.k q))<|au.bo [1,2,6,23,367] q<|au.aV) ?_;obtain rfl:=aw h;exact ah.bL (fb q q q q q)
       ·refine W.bE ?_;obtain rfl:=aw h;exact ah.bL (fb q q q q q)
      refine ah.bl ?_;obtain rfl:=aw h;exact ah.bL (fb q q q q q)
     refine ah.aW<|W.bo [1,2,6,22,23] (bq q<|ag (O.add (.lit q) (.k q))<|au.bo [1,2,6,22,348] q<|au.aV) ?_;obtain rfl:=aw h;exact ah.go (fb q q q q q)
    ·refine W.c9 ?_;refine ah.c8 ?_;obtain rfl:=aw h;exact ah.aE (dj q q q)
   refine ah.c_ ?_;refine ah.aW ?_;obtain ⟨ry,aa,h⟩:=ay h;refine W.rs [(1,.obj (da.cells a0)),(2,.obj [.aF,.aF,.aF,ab aB,ab aB]),(6,.obj [ak br kS,ak ba ju,ak bG bc.av.a8,ab bc.av.bx,ab bc.av.bB,ak bN bc.b4,ak ba bc.b0,ak cy bc.bK,j bc.ck,j bc.cm,ab bc.ch,j bc.bZ,j bc.bD]),(24,aY ry)] ?_ ?_
   ·refine ag (O.az (.obj q))<|ag (O.e9 (.ptr q))<|ag (O.bd q (.ptr q) km q)<|ag (O.bd q (.ptr q) m_ q)<|ag (O.cK (y:=.bh br.z ⟨6,[0]⟩ kS.length) q (.ptr q) nX q q)<|ag (O.pJ (.bh q) oe)<|ag (O.gtr (.lit q) (.k q))<|ag (O.az (.lit q)) ?_;rcases cG aa with ⟨sI,aa⟩ | ⟨sI,aa⟩
    ·obtain rfl:=aw aa;exact au.aV
    ·refine a1 sI (O.az (.obj q))<|a1 sI (O.e9 (.ptr q))<|a1 sI (O.bd q (.ptr q) km q)<|a1 sI (O.bd q (.ptr q) rJ q)<|a1 sI (O.cK (y:=.bh ba.z ⟨6,[1]⟩ ju.length) q (.ptr q) rD q q)<|a1 sI (O.pJ (.bh q) q_)<|a1 sI (O.gtr (.lit q) (.k q))<|ag (O.cL (.lit q) sI (.lit q))<|ag (O.az (.lit q)) ?_;rcases cG aa with ⟨Lc,aa⟩ | ⟨Lc,aa⟩
     ·obtain rfl:=aw aa;exact au.aV
     ·obtain rfl:=aw aa;exact a1 Lc (O.az (.obj q))<|au.aV
   refine W.aX<|W.aT [1,2,6,24,25] ?_;refine W.bl ?_;obtain ⟨BB,aq,h⟩:=ay h;refine W.cf (G1:=[(1,_),(2,_),(6,_),(24,_),(25,_)]) (fb q q q q q) ?_;refine W.eH (s:=(ry,0)) (λ(r1:Bool × Int)=>[(1,.obj (da.cells a0)),(2,.obj [.aF,.aF,.aF,ab aB,ab aB]),(6,.obj [ak br kS,ak ba ju,ak bG bc.av.a8,ab bc.av.bx,ab bc.av.bB,ak bN bc.b4,ak ba bc.b0,ak cy bc.bK,j bc.ck,j bc.cm,ab bc.ch,j bc.bZ,j bc.bD]),(24,aY r1.1),(25,j r1.2)]) 20 (λ(BB:Bool)=>[(1,.obj (da.cells a0)),(2,.obj [.aF,.aF,.aF,ab aB,ab aB]),(6,.obj [ak br kS,ak ba ju,ak bG bc.av.a8,ab bc.av.bx,ab bc.av.bB,ak bN bc.b4,ak ba bc.b0,ak cy bc.bK,j bc.ck,j bc.cm,ab bc.ch,j bc.bZ,j bc.bD]),(24,aY BB)]) aq (λr1 o h=>?_) ?_
   ·clear aq;refine W.aX<|W.aT [1,2,6,24,25,400] ?_;refine W.bz h q (λR4 h=>?_) (λR4 h=>?_)
    ·refine W.bE<|ah.aW ?_;refine W.aX<|W.bl ?_;obtain ⟨EO,aa,h⟩:=ay h;refine W.rx [(1,.obj (da.cells a0)),(2,.obj [.aF,.aF,.aF,ab aB,ab aB]),(6,.obj [ak br kS,ak ba ju,ak bG bc.av.a8,ab bc.av.bx,ab bc.av.bB,ak bN bc.b4,ak ba bc.b0,ak cy bc.bK,j bc.ck,j bc.cm,ab bc.ch,j bc.bZ,j bc.bD]),(24,aY EO),(25,j r1.2)] ?_ ?_
     ·refine bq q<|ag (O.az (.lit q)) ?_;rcases cG aa with ⟨kb,aa⟩ | ⟨kb,aa⟩
      ·obtain rfl:=aw aa;exact cO kb<|cO kb<|cO kb<|cO kb<|cO kb<|cO kb<|cO kb<|cO kb<|cO kb<|cO kb<|cO kb<|ag (O.eQ (.lit q) kb (.k q))<|au.bo [1,2,6,25,416] q<|au.aV
      ·refine a1 kb (O.az (.obj q))<|a1 kb (O.e9 (.ptr q))<|a1 kb (O.bd q (.ptr q) km q)<|a1 kb (O.bd q (.ptr q) ln q)<|a1 kb (O.cK (y:=.bh bG.z ⟨6,[2]⟩ bc.av.a8.length) q (.ptr q) mo q q)<|a1 kb (O.az (.lit q)) ?_;obtain ⟨ID,GU,aa⟩:=ay aa;obtain rfl:=aw aa;exact a1 kb (O.gH (en:=bG) q (.bh q) (.lit q) mP GU q)<|a1 kb (O.kl (en:=bG) q (.ptr q) mZ GU q q)<|a1 kb (O.jr (en:=bG) (x':=ai aI ID.fw) q (.ptr q) gN GU q q)<|a1 kb (O.fY (.aD q) eE)<|a1 kb (O.gtr (.lit q) (.k q))<|ag (O.cL (.lit q) kb (.lit q))<|au.bo [1,2,6,25,416] q<|au.aV
     refine ah.bl ?_;refine ah.aW<|W.bo [1,2,6,24,25] (bq q<|ag (O.add (.lit q) (.k q))<|au.bo [1,2,6,24,402] q<|au.aV) ?_;obtain rfl:=aw h;exact ah.go (fb q q q q q)
    ·refine W.c9 ?_;refine ah.c8 ?_;obtain rfl:=aw h;exact ah.aE (dQ q q q q)
   refine ah.c_ ?_;refine ah.aW<|W.aX ?_;refine W.aT [1,2,6,417] ?_;refine W.bz h q (λR5 h=>?_) (λR5 h=>?_)
   ·refine W.bI [2,3,4,5] (ag (O.eh (cs:=[.aF,.aF,.aF,ab aB,ab aB]) Ik pU q q q)<|au.dx (G2:=[(2,_)]) (cs2:=[.aF,.aF,.aF,ab aB,ab aB]) q (.obj q) (.b2 q q) q oh q q q q (.b q .nil)<|au.aV) ?_;refine W.e7 (G1:=[(2,.obj [ai br ([]:List bM),ai ba ([]:List e5),ai bG ([]:List Prod),ab aB,ab aB]),(3,_),(4,_),(5,_)]) [2] (.z q q (gl.obj (.z (.z (.z (.f (.f .nil)))))) (.n q q (.n q q (.n q q .nil)))) ?_;refine W.rt ?_;refine ah.cP ?_;obtain rfl:=aw h;exact cu (.c (ys0:=[ai br ([]:List bM),ai ba ([]:List e5),ai bG ([]:List Prod),ab aB,ab aB]) q gh q q q (.f q (.f q (.f q (.f q (.f q .nil))))) (.f q q (.f q q (.f q q .nil))))
   ·refine W.bE<|ah.aW ?_;refine W.aX<|W.rd [[],[],[],[2],[],[4],[0,2,3],[0,2,3,6],[0,2,3,6,7],[0,2,3,6,7,8],aM 0 10 [],aM 0 11 [],aM 0 12 [],aM 0 13 []] [(2,_),(6,_)] d_ (by kernel_rfl) (ao 0 (O.az (.obj q))<|ao 1 (O.az (.obj q))<|ao 2 (O.bd q (.obj q) CC q)<|ao 3 (O.cw q (.ptr q) eN q)<|ao 4 (O.bd q (.obj q) CD q)<|ao 5 (O.cw q (.ptr q) eN q)<|ao 6 (O.e9 (.ptr q))<|ao 7 (O.bd q (.ptr q) km q)<|ao 8 (O.bd q (.ptr q) Kz q)<|bC.eh 9 (G2:=[(1,.obj (da.cells a0)),(2,.obj [.aF,.aF,.aF,ab aB,ab aB]),(6,.obj [ak br kS,ak ba ju,ak bG bc.av.a8,ab a0.bx,ab bc.av.bB,ak bN bc.b4,ak ba bc.b0,ak cy bc.bK,j bc.ck,j bc.cm,ab bc.ch,j bc.bZ,j bc.bD])]) (U:=[(5,424,some (ab a0.bB)),(4,423,some (.ptr ⟨1,[]⟩ 3)),(1,420,some (.ptr ⟨6,[]⟩ 0))]) (kU.v (cc.mY (cc.dx (G2:=[(1,.obj (da.cells a0)),(2,.obj [.aF,.aF,.aF,ab aB,ab aB]),(6,.obj [ak br kS,ak ba ju,ak bG bc.av.a8,ab a0.bx,ab bc.av.bB,ak bN bc.b4,ak ba bc.b0,ak cy bc.bK,j bc.ck,j bc.cm,ab bc.ch,j bc.bZ,j bc.bD])]) (cs2:=[ak br kS,ak ba ju,ak bG bc.av.a8,ab a0.bx,ab bc.av.bB,ak bN bc.b4,ak ba bc.b0,ak cy bc.bK,j bc.ck,j bc.cm,ab bc.ch,j bc.bZ,j bc.bD]) q q q (.ptr q) (.lit q) q wy q q q q (.n q q (.n q q (.b q .nil)))))) q q (by kernel_rfl) q q q (.c (.inr (.inl ⟨_,q⟩)) q q q q q (gA.wanted .none) (O.cw q (.ptr q) eN q) (.c (.inr (.inr (.inr (.inl ⟨1,_,_,q,q,jG q,by simp,_,q,jG q⟩)))) q q q q q (gA.wanted .none) (O.bd q (.obj q) CD q) (.c (.inr (.inr (.inr (.inl ⟨6,_,_,q,q,jG q,by simp,_,q,jG q⟩)))) q q q q q (gA.wanted .none) (O.az (.obj q)) .nil))) (by kernel_rfl)<|ao 10 (O.e9 (.ptr q))<|ao 11 (O.bd q (.ptr q) km q)<|ao 12 (O.bd q (.ptr q) KA q)<|bC.dx 13 (G2:=[(2,.obj [.aF,.aF,.aF,ab aB,ab aB]),(6,.obj [ak br kS,ak ba ju,ak bG bc.av.a8,ab a0.bx,ab a0.bB,ak bN bc.b4,ak ba bc.b0,ak cy bc.bK,j bc.ck,j bc.cm,ab bc.ch,j bc.bZ,j bc.bD])]) (cs2:=[ak br kS,ak ba ju,ak bG bc.av.a8,ab a0.bx,ab a0.bB,ak bN bc.b4,ak ba bc.b0,ak cy bc.bK,j bc.ck,j bc.cm,ab bc.ch,j bc.bZ,j bc.bD]) q (by kernel_rfl) (by kernel_rfl) q q q (.ptr q) (.lit q) q wy q q q q (.n q q (.b q .nil))<|bC.fin q q q (e_ q q)) ?_;refine ah.aW<|W.aX ?_;refine W.e7 (G1:=[(2,_),(6,.obj [ai br kS,ai ba ju,ai bG bc.av.a8,ab a0.bx,ab a0.bB,ak bN bc.b4,ak ba bc.b0,ak cy bc.bK,j bc.ck,j bc.cm,ab bc.ch,j bc.bZ,j bc.bD])]) [6] (.n q q (.z q q (gl.obj (.z (.z (.z (.f (.f (.f (.f (.f (.f (.f (.f (.f (.f .nil)))))))))))))) .nil)) ?_;refine W.bo [2,3,4,5] (ag (O.az (.obj q))<|ag (O.e9 (.ptr q))<|ag (O.bd q (.ptr q) km q)<|ag (O.dJ (cs':=[ai br kS,ai ba ju,ai bG bc.av.a8,ab a0.bx,ab a0.bB]) q (.ptr q) gh q q)<|au.dx (G2:=[(2,_)]) (cs2:=[ai br kS,ai ba ju,ai bG bc.av.a8,ab a0.bx,ab a0.bB]) q (.obj q) (.b2 q q) q oh q q q q (.b q .nil)<|au.aV) ?_;refine ah.aW<|W.rt ?_;obtain rfl:=aw h;exact cu (.c (ys0:=[ai br kS,ai ba ju,ai bG bc.av.a8,ab a0.bx,ab a0.bB]) q gh q q q (.f q (.f q (.f q (.f q (.f q .nil))))) (.f q q (.f q q (.f q q .nil))))
theorem PW (a0:Source) (r:b3 × Bool) (h:A2 a0=some r):b6 Try.prog 68 [.agg (da.cells a0)] [none] (.cA [.agg (b8.cells r.1),aY r.2]):=by
 unfold A2 at h;refine b6.go (N:=⟨18,[]⟩) Try.func68 q q q q (W.fin ?_);refine W.st [(0,.agg (da.cells a0))] ?_;refine W.bI [1,2] (ag (O.box (.b2 q q) q)<|ag (O.e6 (cs:=[.aF,.aF,.aF,ab aB,ab aB]) pU q q)<|au.aV) ?_;obtain ⟨aE,ff,h⟩:=ay h;refine W.bI [2,4,5] (ag (O.dJ (cs':=[ab a0.bx,ai cq a0.Decls,ai ei a0.dw,ab a0.bB]) q (.obj q) oz q q)<|dV (ct.go (.bF (.b2 q q) .nil) (P5 a0 _ ff) call78 q)<|ag (O.az (.cA q q))<|ag (O.ex (y:=.agg (b8.cells aE.1)) q q q)<|ag (O.ex (y:=j aE.2.1) q q q)<|ag (O.ex (y:=j aE.2.2.1) q q q)<|ag (O.ex (y:=ab aE.2.2.2) q q q)<|ag (O.e6 (cs:=[.aF,.aF,.aF,ab aB,ab aB]) pU q q)<|au.dx (G2:=[(2,_),(4,_),(12,_),(13,_),(14,_)]) (cs2:=[ai br aE.1.a',ai ba aE.1.bw,ai bG aE.1.a8,ab aE.1.bx,ab aE.1.bB]) q (.obj q) (.b2 q q) q oh q q q q (.n q q (.b q (.n q q (.n q q (.n q q .nil)))))<|au.aV) ?_;refine W.bI [2,3] (ag (O.dJ (cs':=[ai br aE.1.a',ai ba aE.1.bw,ai bG aE.1.a8,ab aE.1.bx,ab aE.1.bB]) q (.obj q) gh q q)<|bq q<|ag (O.eql (.lit q) (.k q))<|au.dx (G2:=[(2,_),(17,_)]) (cs2:=[ai br aE.1.a',ai ba aE.1.bw,ai bG aE.1.a8,ab aE.1.bx,ab aE.1.bB]) q (.obj q) (.b2 q q) q oh q q q q (.b q (.n q q .nil))<|au.aV) ?_;refine W.rt ?_;obtain rfl:=aw h;exact cu (.c (ys0:=[ai br aE.1.a',ai ba aE.1.bw,ai bG aE.1.a8,ab aE.1.bx,ab aE.1.bB]) q gh q q q (.f q (.f q (.f q (.f q (.f q .nil))))) (.f q q .nil))
theorem ve (a0:(List Int)) (ar:Int) (r:(List Int)) (h:pM a0 ar=some r):b6 Try.prog 67 [ai aI a0,j ar] [none,none] (ai aI r):=by
 unfold pM at h;refine b6.go (N:=⟨47,[]⟩) Try.func67 q q q q (W.fin ?_);refine W.st [(0,ai aI a0),(1,j ar)] ?_;refine W.aT [0,1] ?_;refine W.aT [0,1,5] ?_;refine W.aX<|W.bl ?_;obtain ⟨x2,aq,h⟩:=ay h;refine W.cf (G1:=[(0,_),(1,_),(5,_)]) (dj q q q) ?_;refine W.eH (s:=(a0.length:Int)) (λ(s1:Int)=>[(0,ai aI a0),(1,j ar),(5,j s1)]) 0 (λ(x2:Int)=>[(0,ai aI a0),(1,j ar),(5,j x2)]) aq (λs1 o h=>?_) ?_
 ·clear aq;refine W.aX ?_;obtain ⟨sm,aa,h⟩:=ay h;refine W.rs [(0,ai aI a0),(1,j ar),(5,j s1),(19,aY sm)] ?_ ?_
  ·refine bq q<|ag (O.gtr (.lit q) (.k q))<|ag (O.az (.lit q)) ?_;rcases cG aa with ⟨dg,aa⟩ | ⟨dg,aa⟩
   ·refine a1 dg (O.az (.aD q))<|a1 dg (O.az (.lit q))<|a1 dg (O.sub (.lit q) (.k q)) ?_;obtain ⟨b',jV,aa⟩:=ay aa;obtain rfl:=aw aa;exact au.aV
   ·obtain rfl:=aw aa;exact au.aV
  refine W.bz h q (λc7 h=>?_) (λc7 h=>?_)
  ·refine W.bE<|ah.aW ?_;refine W.bl<|W.bo [0,1,5] (bq q<|ag (O.sub (.lit q) (.k q))<|au.bo [0,1,21] q<|au.aV) ?_;refine ah.bl ?_;obtain rfl:=aw h;exact ah.go (dj q q q)
  ·refine W.c9 ?_;refine ah.c8 ?_;obtain rfl:=aw h;exact ah.aE (dj q q q)
 refine ah.c_ ?_;refine ah.aW<|W.aX ?_;obtain ⟨jA,aa,h⟩:=ay h;refine W.rs [(0,ai aI a0),(1,j ar),(5,j x2),(32,aY jA)] ?_ ?_
 ·refine bq q<|ag (O.gtr (.lit q) (.k q))<|ag (O.az (.lit q)) ?_;rcases cG aa with ⟨cW,aa⟩ | ⟨cW,aa⟩
  ·refine a1 cW (O.az (.aD q))<|a1 cW (O.az (.lit q))<|a1 cW (O.sub (.lit q) (.k q)) ?_;obtain ⟨cn,ir,aa⟩:=ay aa;obtain rfl:=aw aa;exact au.aV
  ·obtain rfl:=aw aa;exact au.aV
 refine W.bz h q (λfx h=>?_) (λfx h=>?_)
 ·refine W.aT [4] ?_;refine W.rt ?_;refine ah.cP ?_;obtain rfl:=aw h;exact cu (.f q q .nil)
 ·refine W.bE<|ah.aW ?_;obtain ⟨cH,jT,h⟩:=ay h;obtain ⟨dL,jl,h⟩:=ay h;refine W.bI [0,1,5,6] (ag (O.dF (ys:=[]) aI ([]:List Int) eE q q q q q q nN q q)<|ag (O.az (.aD q))<|bq q<|ag (O.Ip (.aD q) (.lit q) eE jT)<|ag (O.ap (en:=aI) (r:=dL) (.own q) q (.aD q) .i p4 q jl)<|au.gm (G2:=[(0,ai aI a0),(1,j ar),(5,j x2)]) q (cc.nT q q (.bY q) q q q (.n q q (.n q q (.n q q .nil))) q q)<|bR q) ?_;refine W.aX ?_;obtain ⟨db,j1,h⟩:=ay h;obtain ⟨cS,hU,h⟩:=ay h;obtain ⟨cr,j2,h⟩:=ay h;refine W.rd [[],[],[1],[0,1,2],[],[],[4,5],aM 0 7 [],aM 0 8 []] [(4,_)] d_ (by kernel_rfl) (ao 0 (O.az (.own q))<|ao 1 (O.az (.lit q))<|bC.fT 2 (x:=ai aI [ar]) (O.dF (ys:=[j ar]) aI [ar] eE q q q q q q nN q q) q q q q .none<|ao 3 (O.ap (en:=aI) (r:=db) (.bh q) q (.aD q) .i p4 q j1)<|ao 4 (O.az (.aD q))<|ao 5 (O.az (.lit q))<|ao 6 (O.Iq (.aD q) (.lit q) eE hU)<|ao 7 (O.Ji (en:=aI) (r:=cr) (.bY q) q q (.aD q) .i p4 q j2)<|bC.bv 8 (G2:=[]) (cc.Jb q q (.bY q) q q q q q q .nil q q) q q q q (by kernel_rfl) (by kernel_rfl)<|bC.fin q q q (.n q .nil)) ?_;refine ah.aW<|W.e7 (G1:=[(4,ai aI ((([]:List Int)++cH)++[ar]++cS))]) [4] (.z q q .hP .nil) ?_;refine W.rt ?_;obtain rfl:=aw h;exact cu (.f q q .nil)
theorem J7 (a0:(List Int)) (ar:Int) (r:Bool) (h:yi a0 ar=some r):b6 Try.prog 70 [ai aI a0,j ar] [none,none] (aY r):=by
 unfold yi at h;refine b6.go (N:=⟨18,[]⟩) Try.func70 q q q q (W.fin ?_);refine W.st [(0,ai aI a0),(1,j ar)] ?_;refine W.aT [0,1] ?_;refine W.aX<|W.aT [0,1,5] ?_;refine W.bl ?_;obtain ⟨x2,aq,h⟩:=ay h;refine W.cf (G1:=[(0,_),(1,_),(5,_)]) (dj q q q) ?_;refine W.iM (s:=0) (λ(s1:Int)=>[(0,ai aI a0),(1,j ar),(5,j s1)]) 0 (λ(a6:Unit)=>[]) (λ(bQ:Bool)=>[(4,aY bQ)]) aq (λs1 o h=>?_) (λa6 J=>?_) (λbQ J=>?_)
 ·clear aq;refine W.aX<|W.aT [0,1,5,9] ?_;refine W.bz h q (λdZ h=>?_) (λdZ h=>?_)
  ·refine W.bE<|ah.aW ?_;refine W.aX<|W.bl ?_;obtain ⟨bJ,fL,h⟩:=ay h;refine W.aT [0,1,5,17] ?_;refine W.bz h q (λc7 h=>?_) (λc7 h=>?_)
   ·refine W.aT [4] ?_;refine W.rt ?_;refine ah.dP ?_;refine ah.cP ?_;obtain rfl:=aw h;exact ah.fR (.n q .nil)
   ·refine W.bE<|ah.bl ?_;refine ah.aW<|W.bo [0,1,5] (bq q<|ag (O.add (.lit q) (.k q))<|au.bo [0,1,11] q<|au.aV) ?_;obtain rfl:=aw h;exact ah.go (dj q q q)
  ·refine W.c9 ?_;refine ah.c8 ?_;obtain rfl:=aw h;exact ah.x2 .nil
 ·subst J;refine ah.c_ ?_;refine ah.aW<|W.aT [4] ?_;refine W.rt ?_;obtain rfl:=aw h;exact cu (.f q q .nil)
 ·subst J;refine ah.dP ?_;refine ah.cP ?_;obtain rfl:=aw h;exact cu (.f q q .nil)
theorem P6 (a0:b3) (r:(List Int)) (h:A_ a0=some r):b6 Try.prog 79 [.agg (b8.cells a0)] [none] (ai aI r):=by
 unfold A_ at h;refine b6.go (N:=⟨30,[]⟩) Try.func79 q q q q (W.fin ?_);refine W.st [(0,.agg (b8.cells a0))] ?_;refine W.bI [1] (ag (O.box (.b2 q q) q)<|au.aV) ?_;refine W.aT [1,3] ?_;refine W.aX<|W.aT [1,3,4] ?_;refine W.bl ?_;obtain ⟨x2,aq,h⟩:=ay h;refine W.cf (G1:=[(1,_),(3,ak aI ([]:List Int)),(4,_)]) (.n q (.w q q .n' (.n q .nil))) ?_;refine W.eH (s:=(([]:List Int),0)) (λ(s1:List Int × Int)=>[(1,.obj (b8.cells a0)),(3,ak aI s1.1),(4,j s1.2)]) 0 (λ(x2:List Int)=>[(1,.obj (b8.cells a0)),(3,ak aI x2)]) aq (λs1 o h=>?_) ?_
 ·clear aq;refine W.aX<|W.aT [1,3,4,10] ?_;refine W.bz h q (λdg h=>?_) (λdg h=>?_)
  ·refine W.bE<|ah.aW ?_;refine W.aX<|W.bl ?_;obtain ⟨b',jV,h⟩:=ay h;refine W.bo [1,3,4] (ag (O.az (.own q))<|bq q<|au.fT (x:=ai aI [s1.2]) (O.dF (ys:=[j s1.2]) aI [s1.2] eE q q q q q q nN q q) q q .none<|ag (O.ap (en:=aI) (r:=b') (.bh q) q (.aD q) .i p4 q jV)<|au.gm (G2:=[(1,.obj (b8.cells a0)),(4,j s1.2)]) q (cc.nT q q (.bY q) q q q (.n q q (.n q q .nil)) q q)<|bR q) ?_;refine ah.bl ?_;refine ah.aW<|W.bo [1,3,4] (bq q<|ag (O.add (.lit q) (.k q))<|au.bo [1,3,12] q<|au.aV) ?_;obtain rfl:=aw h;exact ah.go (dj q q q)
  ·refine W.c9 ?_;refine ah.c8 ?_;obtain rfl:=aw h;exact ah.aE (e_ q q)
 refine ah.c_ ?_;refine ah.aW<|W.aX ?_;refine W.aT [1,3,5] ?_;refine W.bl ?_;obtain ⟨a_,aq,h⟩:=ay h;refine W.cf (G1:=[(1,_),(3,_),(5,_)]) (dj q q q) ?_;refine W.eH (s:=(x2,0)) (λ(cQ:List Int × Int)=>[(1,.obj (b8.cells a0)),(3,ak aI cQ.1),(5,j cQ.2)]) 2 (λ(a_:List Int)=>[(3,ak aI a_)]) aq (λcQ o h=>?_) ?_
 ·clear aq;refine W.aX<|W.aT [1,3,5,21] ?_;refine W.bz h q (λdX h=>?_) (λdX h=>?_)
  ·refine W.bE<|ah.aW ?_;refine W.aX<|W.bl ?_;obtain ⟨bS,h8,h⟩:=ay h;refine W.bo [1,3,5] (ag (O.az (.own q))<|bq q<|ag (O.add (.k q) (.lit q))<|au.fT (x:=ai aI [aL (1000+cQ.2)]) (O.dF (ys:=[j (aL (1000+cQ.2))]) aI [aL (1000+cQ.2)] eE q q q q q q nN q q) q q .none<|ag (O.ap (en:=aI) (r:=bS) (.bh q) q (.aD q) .i p4 q h8)<|au.gm (G2:=[(1,.obj (b8.cells a0)),(5,j cQ.2)]) q (cc.nT q q (.bY q) q q q (.n q q (.n q q .nil)) q q)<|bR q) ?_;refine ah.bl ?_;refine ah.aW<|W.bo [1,3,5] (bq q<|ag (O.add (.lit q) (.k q))<|au.bo [1,3,23] q<|au.aV) ?_;obtain rfl:=aw h;exact ah.go (dj q q q)
  ·refine W.c9 ?_;refine ah.c8 ?_;obtain rfl:=aw h;exact ah.aE (.n q .nil)
 refine ah.c_ ?_;refine ah.aW<|W.bI [2] (ag (O.az (.own q))<|au.gm (G2:=[]) q (cc.iy q q (.bh q) q .nil q q)<|bR q) ?_;refine W.e7 (G1:=[(2,ai aI a_)]) [2] (.z q q .hP .nil) ?_;refine W.rt ?_;obtain rfl:=aw h;exact cu (.f q q .nil)
theorem JU (a0:b3) (ar:Item) (r:Bool) (h:x6 a0 ar=some r):b6 Try.prog 102 [.agg (b8.cells a0),.agg [j ar.Prod,j ar.dT]] [none,none] (aY r):=by
 unfold x6 at h;refine b6.go (N:=⟨34,[]⟩) Try.func102 q q q q (W.fin ?_);refine W.st [(0,.agg (b8.cells a0)),(1,.agg [j ar.Prod,j ar.dT])] ?_;refine W.bI [2,3] (ag (O.box (.b2 q q) q)<|ag (O.box (.b2 q q) q)<|au.aV) ?_;refine W.aX ?_;obtain ⟨kF,aa,h⟩:=ay h;refine W.rd [[],[0],[0,1],[0,1,2],[0,1,2,3],aM 0 5 [],[0,1,2,3],[0,1,2,3,6],[0,1,2,3,6,7],aM 0 9 [],aM 0 10 [],aM 0 11 [],aM 0 12 [],aM 0 13 [],aM 0 14 [],aM 0 15 [],aM 0 16 [],aM 0 17 [],aM 0 18 [],aM 0 17 [],aM 0 17 [19],aM 0 17 [],aM 0 17 [21],aM 0 17 [19,20,21,22],aM 0 17 (aM 19 5 []),aM 0 17 (aM 19 6 []),aM 0 17 (aM 19 7 []),aM 0 27 [],aM 0 28 [],aM 0 29 []] [(4,aY kF)] d_ (by kernel_rfl) ?_ ?_
 ·refine ao 0 (O.bd q (.obj q) nx q)<|ao 1 (O.cw q (.ptr q) cx q)<|ao 2 (O.geq (.lit q) (.k q))<|ao 3 (O.az (.lit q)) ?_;rcases cG aa with ⟨c3,aa⟩ | ⟨c3,aa⟩
  ·refine bV 4 c3 (O.bd q (.obj q) nx q)<|bV 5 c3 (O.cw q (.ptr q) cx q)<|bV 6 c3 (O.bd q (.obj q) ln q)<|bV 7 c3 (O.cK (y:=ai bG a0.a8) q (.ptr q) mo q q)<|bV 8 c3 (O.fY (.aD q) mP)<|bV 9 c3 (O.lss (.lit q) (.lit q))<|ao 10 (O.eQ (.lit q) c3 (.lit q))<|ao 11 (O.az (.lit q)) ?_;rcases cG aa with ⟨cZ,aa⟩ | ⟨cZ,aa⟩
   ·refine bV 12 cZ (O.bd q (.obj q) rI q)<|bV 13 cZ (O.cw q (.ptr q) cx q)<|bV 14 cZ (O.geq (.lit q) (.k q))<|ao 15 (O.eQ (.lit q) cZ (.lit q))<|ao 16 (O.az (.lit q)) ?_;rcases cG aa with ⟨eP,aa⟩ | ⟨eP,aa⟩
    ·refine bV 17 eP (O.bd q (.obj q) rI q)<|bV 18 eP (O.cw q (.ptr q) cx q)<|bV 19 eP (O.bd q (.obj q) ln q)<|bV 20 eP (O.cK (y:=ai bG a0.a8) q (.ptr q) mo q q)<|bV 21 eP (O.bd q (.obj q) nx q)<|bV 22 eP (O.cw q (.ptr q) cx q) ?_;obtain ⟨bQ,ng,aa⟩:=ay aa;obtain rfl:=aw aa;exact bV 23 eP (O.cv (.aD q) (.lit q) mP ng)<|bV 24 eP (O.ef (.bn q) mZ)<|bV 25 eP (O.cX (x:=ai aI bQ.fw) (.bn q) gN q)<|bV 26 eP (O.fY (.aD q) eE)<|bV 27 eP (O.leq (.lit q) (.lit q))<|ao 28 (O.eQ (.lit q) eP (.lit q))<|ao 29 (O.dK (.lit q))<|bC.fin q q q (.n q .nil)
    ·obtain rfl:=aw aa;exact aN 17 eP<|aN 18 eP<|aN 19 eP<|aN 20 eP<|aN 21 eP<|aN 22 eP<|aN 23 eP<|aN 24 eP<|aN 25 eP<|aN 26 eP<|aN 27 eP<|ao 28 (O.cL (.lit q) eP (.k q))<|ao 29 (O.dK (.lit q))<|bC.fin q q q (.n q .nil)
   ·obtain rfl:=aw aa;exact aN 12 cZ<|aN 13 cZ<|aN 14 cZ<|ao 15 (O.cL (.lit q) cZ (.k q))<|ao 16 (O.az (.lit q))<|aN 17 q<|aN 18 q<|aN 19 q<|aN 20 q<|aN 21 q<|aN 22 q<|aN 23 q<|aN 24 q<|aN 25 q<|aN 26 q<|aN 27 q<|ao 28 (O.cL (.lit q) q (.k q))<|ao 29 (O.dK (.lit q))<|bC.fin q q q (.n q .nil)
  ·obtain rfl:=aw aa;exact aN 4 c3<|aN 5 c3<|aN 6 c3<|aN 7 c3<|aN 8 c3<|aN 9 c3<|ao 10 (O.cL (.lit q) c3 (.k q))<|ao 11 (O.az (.lit q))<|aN 12 q<|aN 13 q<|aN 14 q<|ao 15 (O.cL (.lit q) q (.k q))<|ao 16 (O.az (.lit q))<|aN 17 q<|aN 18 q<|aN 19 q<|aN 20 q<|aN 21 q<|aN 22 q<|aN 23 q<|aN 24 q<|aN 25 q<|aN 26 q<|aN 27 q<|ao 28 (O.cL (.lit q) q (.k q))<|ao 29 (O.dK (.lit q))<|bC.fin q q q (.n q .nil)
 refine ah.aW<|W.rt ?_;obtain rfl:=aw h;exact cu (.f q q .nil)
theorem E9 (a0:b3) (ar:Item) (r:Int) (h:wh a0 ar=some r):b6 Try.prog 81 [.agg (b8.cells a0),.agg [j ar.Prod,j ar.dT]] [none,none] (j r):=by
 unfold wh at h;refine b6.go (N:=⟨33,[]⟩) Try.func81 q q q q (W.fin ?_);refine W.st [(0,.agg (b8.cells a0)),(1,.agg [j ar.Prod,j ar.dT])] ?_;refine W.bI [2,3] (ag (O.box (.b2 q q) q)<|ag (O.box (.b2 q q) q)<|au.aV) ?_;refine W.aX<|W.aX ?_;obtain ⟨c4,aa,h⟩:=ay h;refine W.rd [[],[],[0,1],[0,1,2],[0,1,2,3],aM 0 5 [],aM 0 6 [],aM 0 5 [],aM 0 5 [7],aM 0 5 [],aM 0 5 [9],aM 0 5 [7,8,9,10],aM 0 5 (aM 7 5 []),aM 0 5 (aM 7 6 []),aM 0 5 (aM 7 7 []),aM 0 15 [],aM 0 16 []] [(2,.obj (b8.cells a0)),(3,.obj [j ar.Prod,j ar.dT]),(21,aY c4)] d_ (by kernel_rfl) ?_ ?_
 ·refine ao 0 (O.dJ (cs':=[ai br a0.a',ai ba a0.bw,ai bG a0.a8,ab a0.bx,ab a0.bB]) q (.obj q) gh q q)<|ao 1 (O.dJ (cs':=[j ar.Prod,j ar.dT]) q (.obj q) p5 q q) ?_;obtain ⟨aE,ff,aa⟩:=ay aa;refine gL 2 (ct.go (.bF (.b2 q q) (.bF (.b2 q q) .nil)) (JU a0 ar _ ff) call102 q)<|ao 3 (O.not (.lit q))<|ao 4 (O.az (.lit q)) ?_;rcases cG aa with ⟨cZ,aa⟩ | ⟨cZ,aa⟩
  ·obtain rfl:=aw aa;exact aN 5 cZ<|aN 6 cZ<|aN 7 cZ<|aN 8 cZ<|aN 9 cZ<|aN 10 cZ<|aN 11 cZ<|aN 12 cZ<|aN 13 cZ<|aN 14 cZ<|aN 15 cZ<|ao 16 (O.eQ (.lit q) cZ (.k q))<|bC.fin q q q (dj q q q)
  ·refine bV 5 cZ (O.bd q (.obj q) rI q)<|bV 6 cZ (O.cw q (.ptr q) cx q)<|bV 7 cZ (O.bd q (.obj q) ln q)<|bV 8 cZ (O.cK (y:=ai bG a0.a8) q (.ptr q) mo q q)<|bV 9 cZ (O.bd q (.obj q) nx q)<|bV 10 cZ (O.cw q (.ptr q) cx q) ?_;obtain ⟨a6,hK,aa⟩:=ay aa;obtain rfl:=aw aa;exact bV 11 cZ (O.cv (.aD q) (.lit q) mP hK)<|bV 12 cZ (O.ef (.bn q) mZ)<|bV 13 cZ (O.cX (x:=ai aI a6.fw) (.bn q) gN q)<|bV 14 cZ (O.fY (.aD q) eE)<|bV 15 cZ (O.eql (.lit q) (.lit q))<|ao 16 (O.cL (.lit q) cZ (.lit q))<|bC.fin q q q (dj q q q)
 refine ah.aW<|W.bz h q (λdZ h=>?_) (λdZ h=>?_)
 ·refine W.aT [4] ?_;refine W.rt ?_;refine ah.cP ?_;obtain rfl:=aw h;exact cu (.f q q .nil)
 ·refine W.bE<|ah.aW ?_;refine W.aX ?_;obtain ⟨bJ,fL,h⟩:=ay h;obtain ⟨a_,fJ,h⟩:=ay h;refine W.rd [[],[0],[],[2],[0,1,2,3],aM 0 5 [],aM 0 6 [],[],[7],aM 0 9 [],aM 0 10 [],aM 0 11 []] [(4,_)] d_ (by kernel_rfl) (ao 0 (O.bd q (.obj q) ln q)<|ao 1 (O.cK (y:=ai bG a0.a8) q (.ptr q) mo q q)<|ao 2 (O.bd q (.obj q) nx q)<|ao 3 (O.cw q (.ptr q) cx q)<|ao 4 (O.cv (.aD q) (.lit q) mP fL)<|ao 5 (O.ef (.bn q) mZ)<|ao 6 (O.cX (x:=ai aI bJ.fw) (.bn q) gN q)<|ao 7 (O.bd q (.obj q) rI q)<|ao 8 (O.cw q (.ptr q) cx q)<|ao 9 (O.cv (.aD q) (.lit q) eE fJ)<|ao 10 (O.cX (x:=j a_) (.bn q) cx q)<|ao 11 (O.dK (.lit q))<|bC.fin q q q (.n q .nil)) ?_;refine ah.aW<|W.rt ?_;obtain rfl:=aw h;exact cu (.f q q .nil)
theorem E1 (a0:(List Item)) (ar:Item) (r:(List Item)) (h:v7 a0 ar=some r):b6 Try.prog 101 [ai dA a0,.agg [j ar.Prod,j ar.dT]] [none,none] (ai dA r):=by
 unfold v7 at h;refine b6.go (N:=⟨71,[]⟩) Try.func101 q q q q (W.fin ?_);refine W.st [(0,ai dA a0),(1,.agg [j ar.Prod,j ar.dT])] ?_;refine W.bI [0,3] (ag (O.box (.b2 q q) q)<|au.aV) ?_;refine W.aT [0,3,5] ?_;refine W.aX<|W.bl ?_;obtain ⟨x2,aq,h⟩:=ay h;refine W.cf (G1:=[(0,_),(3,_),(5,_)]) (dj q q q) ?_;refine W.eH (s:=(a0.length:Int)) (λ(s1:Int)=>[(0,ai dA a0),(3,.obj [j ar.Prod,j ar.dT]),(5,j s1)]) 0 (λ(x2:Int)=>[(0,ai dA a0),(3,.obj [j ar.Prod,j ar.dT]),(5,j x2)]) aq (λs1 o h=>?_) ?_
 ·clear aq;refine W.aX<|W.aX ?_;obtain ⟨jA,aa,h⟩:=ay h;refine W.rd [[],[0],[0,1],[0,1,2],[0,1,2],[0,1,2,4],aM 0 6 [],aM 0 7 [],aM 0 8 [],[0,1,2],[0,1,2,9],aM 0 11 [],aM 0 12 [],aM 0 13 [],aM 0 13 [],aM 0 13 [14],aM 0 16 [],aM 0 17 [],aM 0 18 [],aM 0 13 [],aM 0 13 [19],aM 0 21 [],aM 0 22 [],aM 0 23 [],aM 0 23 [],aM 0 23 [24],aM 0 26 [],aM 0 27 [],aM 0 28 [],aM 0 23 [],aM 0 23 [29],aM 0 31 [],aM 0 32 [],aM 0 33 [],aM 0 34 []] [(0,ai dA a0),(3,.obj [j ar.Prod,j ar.dT]),(5,j s1),(43,aY jA)] d_ (by kernel_rfl) ?_ ?_
  ·refine ao 0 (O.az (.lit q))<|ao 1 (O.gtr (.lit q) (.k q))<|ao 2 (O.az (.lit q)) ?_;rcases cG aa with ⟨dg,aa⟩ | ⟨dg,aa⟩
   ·refine bV 3 dg (O.az (.aD q))<|bV 4 dg (O.az (.lit q))<|bV 5 dg (O.sub (.lit q) (.k q)) ?_;obtain ⟨b',jV,aa⟩:=ay aa;refine bV 6 dg (O.cv (.aD q) (.lit q) kf jV)<|bV 7 dg (O.ef (.bn q) nx)<|bV 8 dg (O.cX (x:=j b'.Prod) (.bn q) cx q)<|bV 9 dg (O.bd q (.obj q) nx q)<|bV 10 dg (O.cw q (.ptr q) cx q)<|bV 11 dg (O.gtr (.lit q) (.lit q))<|bV 12 dg (O.az (.lit q)) ?_;rcases cG aa with ⟨dO,aa⟩ | ⟨dO,aa⟩
    ·obtain rfl:=aw aa;exact aN 13 dO<|aN 14 dO<|aN 15 dO<|aN 16 dO<|aN 17 dO<|aN 18 dO<|aN 19 dO<|aN 20 dO<|aN 21 dO<|aN 22 dO<|fG 23<|fG 24<|fG 25<|fG 26<|fG 27<|fG 28<|fG 29<|fG 30<|fG 31<|aN 32 dO<|bV 33 dg (O.eQ (.lit q) dO (.k q))<|ao 34 (O.eQ (.lit q) dg (.lit q))<|bC.fin q q q (dQ q q q q)
    ·refine bV 13 dO (O.az (.aD q))<|bV 14 dO (O.az (.lit q))<|bV 15 dO (O.sub (.lit q) (.k q)) ?_;obtain ⟨a_,fJ,aa⟩:=ay aa;refine bV 16 dO (O.cv (.aD q) (.lit q) kf fJ)<|bV 17 dO (O.ef (.bn q) nx)<|bV 18 dO (O.cX (x:=j a_.Prod) (.bn q) cx q)<|bV 19 dO (O.bd q (.obj q) nx q)<|bV 20 dO (O.cw q (.ptr q) cx q)<|bV 21 dO (O.eql (.lit q) (.lit q))<|bV 22 dO (O.az (.lit q)) ?_;rcases cG aa with ⟨cW,aa⟩ | ⟨cW,aa⟩
     ·refine bV 23 cW (O.az (.aD q))<|bV 24 cW (O.az (.lit q))<|bV 25 cW (O.sub (.lit q) (.k q)) ?_;obtain ⟨cn,ir,aa⟩:=ay aa;obtain rfl:=aw aa;exact bV 26 cW (O.cv (.aD q) (.lit q) kf ir)<|bV 27 cW (O.ef (.bn q) rI)<|bV 28 cW (O.cX (x:=j cn.dT) (.bn q) cx q)<|bV 29 cW (O.bd q (.obj q) rI q)<|bV 30 cW (O.cw q (.ptr q) cx q)<|bV 31 cW (O.gtr (.lit q) (.lit q))<|bV 32 dO (O.eQ (.lit q) cW (.lit q))<|bV 33 dg (O.cL (.lit q) dO (.lit q))<|ao 34 (O.eQ (.lit q) dg (.lit q))<|bC.fin q q q (dQ q q q q)
     ·obtain rfl:=aw aa;exact aN 23 cW<|aN 24 cW<|aN 25 cW<|aN 26 cW<|aN 27 cW<|aN 28 cW<|aN 29 cW<|aN 30 cW<|aN 31 cW<|bV 32 dO (O.cL (.lit q) cW (.k q))<|bV 33 dg (O.cL (.lit q) dO (.lit q))<|ao 34 (O.eQ (.lit q) dg (.lit q))<|bC.fin q q q (dQ q q q q)
   ·obtain rfl:=aw aa;exact aN 3 dg<|aN 4 dg<|aN 5 dg<|aN 6 dg<|aN 7 dg<|aN 8 dg<|aN 9 dg<|aN 10 dg<|aN 11 dg<|aN 12 dg<|fG 13<|fG 14<|fG 15<|fG 16<|fG 17<|fG 18<|fG 19<|fG 20<|fG 21<|fG 22<|fG 23<|fG 24<|fG 25<|fG 26<|fG 27<|fG 28<|fG 29<|fG 30<|fG 31<|fG 32<|aN 33 dg<|ao 34 (O.cL (.lit q) dg (.k q))<|bC.fin q q q (dQ q q q q)
  refine ah.aW<|W.bz h q (λfx h=>?_) (λfx h=>?_)
  ·refine W.bE<|ah.aW ?_;refine W.bl<|W.bo [0,3,5] (bq q<|ag (O.sub (.lit q) (.k q))<|au.bo [0,3,45] q<|au.aV) ?_;refine ah.bl ?_;obtain rfl:=aw h;exact ah.go (dj q q q)
  ·refine W.c9 ?_;refine ah.c8 ?_;obtain rfl:=aw h;exact ah.aE (dj q q q)
 refine ah.c_ ?_;refine ah.aW<|W.aX ?_;refine W.aX ?_;obtain ⟨sk,aa,h⟩:=ay h;refine W.rd [[],[0],[0,1],[0,1,2],[0,1,2],[0,1,2,4],aM 0 6 [],aM 0 7 [],[0,1,2],aM 0 9 [],aM 0 10 []] [(0,ai dA a0),(3,.obj [j ar.Prod,j ar.dT]),(5,j x2),(56,aY sk)] d_ (by kernel_rfl) ?_ ?_
 ·refine ao 0 (O.az (.lit q))<|ao 1 (O.gtr (.lit q) (.k q))<|ao 2 (O.az (.lit q)) ?_;rcases cG aa with ⟨ek,aa⟩ | ⟨ek,aa⟩
  ·refine bV 3 ek (O.az (.aD q))<|bV 4 ek (O.az (.lit q))<|bV 5 ek (O.sub (.lit q) (.k q)) ?_;obtain ⟨dL,jl,aa⟩:=ay aa;obtain rfl:=aw aa;exact bV 6 ek (O.cv (.aD q) (.lit q) kf jl)<|bV 7 ek (O.hX (cs':=[j dL.Prod,j dL.dT]) (.bn q) p5 q q)<|bV 8 ek (O.dJ (cs':=[j ar.Prod,j ar.dT]) q (.obj q) p5 q q)<|bV 9 ek (O.QN (va:=[.int .i64 dL.Prod,.int .i64 dL.dT]) (vb:=[.int .i64 ar.Prod,.int .i64 ar.dT]) (.b2 q q) (.b2 q q) q q Kj)<|ao 10 (O.eQ (.lit q) ek (.lit q))<|bC.fin q q q (dQ q q q q)
  ·obtain rfl:=aw aa;exact aN 3 ek<|aN 4 ek<|aN 5 ek<|aN 6 ek<|aN 7 ek<|aN 8 ek<|aN 9 ek<|ao 10 (O.cL (.lit q) ek (.k q))<|bC.fin q q q (dQ q q q q)
 refine ah.aW<|W.bz h q (λqM h=>?_) (λqM h=>?_)
 ·refine W.aT [4] ?_;refine W.rt ?_;refine ah.cP ?_;obtain rfl:=aw h;exact cu (.f q q .nil)
 ·refine W.bE<|ah.aW ?_;obtain ⟨cr,j2,h⟩:=ay h;obtain ⟨b9,hV,h⟩:=ay h;refine W.bI [0,3,5,6] (ag (O.dF (ys:=[]) dA ([]:List Item) kf q q q q q q IS q q)<|ag (O.az (.aD q))<|bq q<|ag (O.Ip (.aD q) (.lit q) kf j2)<|ag (O.ap (en:=dA) (r:=b9) (.own q) q (.aD q) .i EB q hV)<|au.gm (G2:=[(0,ai dA a0),(3,.obj [j ar.Prod,j ar.dT]),(5,j x2)]) q (cc.nT q q (.bY q) q q q (.n q q (.n q q (.n q q .nil))) q q)<|bR q) ?_;refine W.aX ?_;obtain ⟨eV,jU,h⟩:=ay h;obtain ⟨fv,nb,h⟩:=ay h;obtain ⟨ez,pC,h⟩:=ay h;refine W.rd [[],[],[1],[0,1,2],[],[],[4,5],aM 0 7 [],aM 0 8 []] [(4,_)] d_ (by kernel_rfl) (ao 0 (O.az (.own q))<|ao 1 (O.dJ (cs':=[j ar.Prod,j ar.dT]) q (.obj q) p5 q q)<|bC.fT 2 (x:=ai dA [ar]) (O.dF (ys:=[.agg [j ar.Prod,j ar.dT]]) dA [ar] kf q q q q q q IS q q) q q q q .none<|ao 3 (O.ap (en:=dA) (r:=eV) (.bh q) q (.aD q) .i EB q jU)<|ao 4 (O.az (.aD q))<|ao 5 (O.az (.lit q))<|ao 6 (O.Iq (.aD q) (.lit q) kf nb)<|ao 7 (O.Ji (en:=dA) (r:=ez) (.bY q) q q (.aD q) .i EB q pC)<|bC.bv 8 (G2:=[]) (cc.Jb q q (.bY q) q q q q q q .nil q q) q q q q (by kernel_rfl) (by kernel_rfl)<|bC.fin q q q (.n q .nil)) ?_;refine ah.aW<|W.e7 (G1:=[(4,ai dA ((([]:List Item)++cr)++[ar]++fv))]) [4] (.z q q .hP .nil) ?_;refine W.rt ?_;obtain rfl:=aw h;exact cu (.f q q .nil)
theorem Pn (a0:b3) (ar:(List Item)) (r:(List Item)) (h:AB a0 ar=some r):b6 Try.prog 100 [.agg (b8.cells a0),ai dA ar] [none,none] (ai dA r):=by
 unfold AB at h;refine b6.go (N:=⟨26,[]⟩) Try.func100 q q q q (W.fin ?_);refine W.st [(0,.agg (b8.cells a0)),(1,ai dA ar)] ?_;refine W.bI [1,2] (ag (O.box (.b2 q q) q)<|au.aV) ?_;refine W.aT [1,2,5] ?_;refine W.aX<|W.aT [1,2,5,6] ?_;refine W.bl ?_;obtain ⟨x2,aq,h⟩:=ay h;refine W.cf (G1:=[(1,_),(2,_),(5,ai dA ([]:List Item)),(6,_)]) (.n q (.n q (.w q q .xY (.n q .nil)))) ?_;refine W.eH (s:=(([]:List Item),0)) (λ(s1:List Item × Int)=>[(1,ai dA ar),(2,.obj (b8.cells a0)),(5,ai dA s1.1),(6,j s1.2)]) 0 (λ(x2:List Item)=>[(5,ai dA x2)]) aq (λs1 o h=>?_) ?_
 ·clear aq;refine W.aX<|W.aT [1,2,5,6,10] ?_;refine W.bz h q (λdg h=>?_) (λdg h=>?_)
  ·refine W.bE<|ah.aW ?_;refine W.aX ?_;obtain ⟨lM,aa,h⟩:=ay h;refine W.bL [(1,ai dA ar),(2,.obj (b8.cells a0)),(5,ai dA lM),(6,j s1.2)] ?_ ?_
   ·clear h; have h:=aa; clear aa;refine W.bl<|W.aX ?_;obtain ⟨bJ,fL,h⟩:=ay h;obtain ⟨a_,fJ,h⟩:=ay h;refine W.rd [[],[],[],[1,2],[1,2,3],aM 0 5 []] [(1,_),(2,_),(5,_),(6,_),(18,_)] d_ (by kernel_rfl) (ao 0 (O.dJ (cs':=[ai br a0.a',ai ba a0.bw,ai bG a0.a8,ab a0.bx,ab a0.bB]) q (.obj q) gh q q)<|ao 1 (O.az (.aD q))<|ao 2 (O.az (.lit q))<|ao 3 (O.cv (.aD q) (.lit q) kf fL)<|ao 4 (O.hX (cs':=[j bJ.Prod,j bJ.dT]) (.bn q) p5 q q)<|gL 5 (ct.go (.bF (.b2 q q) (.bF (.b2 q q) .nil)) (JU a0 bJ _ fJ) call102 q)<|bC.fin q q q (fb q q q q q)) ?_;refine ah.aW ?_;obtain ⟨fq,aa,h⟩:=ay h;refine W.bL [(1,ai dA ar),(2,.obj (b8.cells a0)),(5,ai dA fq),(6,j s1.2)] ?_ ?_
    ·clear h; have h:=aa; clear aa;refine W.bz h q (λdX h=>?_) (λdX h=>?_)
     ·obtain ⟨bS,h8,h⟩:=ay h;obtain ⟨bO,hn,h⟩:=ay h;refine W.bo [1,2,5,6] (ag (O.az (.aD q))<|ag (O.az (.aD q))<|bq q<|ag (O.cv (.aD q) (.lit q) kf h8)<|ag (O.hX (cs':=[j bS.Prod,j bS.dT]) (.bn q) p5 q q)<|dV (ct.go (.bF (.aD q) (.bF (.b2 q q) .nil)) (E1 s1.1 bS _ hn) call101 q)<|au.bo [1,2,6,24] q<|au.aV) ?_;obtain rfl:=aw h;exact ah.bL (dQ q q q q)
     ·refine W.bE ?_;obtain rfl:=aw h;exact ah.bL (dQ q q q q)
    refine ah.bl ?_;obtain rfl:=aw h;exact ah.bL (dQ q q q q)
   refine ah.aW<|W.bo [1,2,5,6] (bq q<|ag (O.add (.lit q) (.k q))<|au.bo [1,2,5,12] q<|au.aV) ?_;obtain rfl:=aw h;exact ah.go (dQ q q q q)
  ·refine W.c9 ?_;refine ah.c8 ?_;obtain rfl:=aw h;exact ah.aE (.n q .nil)
 refine ah.c_ ?_;refine ah.aW<|W.aT [4] ?_;refine W.rt ?_;obtain rfl:=aw h;exact cu (.f q q .nil)
theorem E8 (a0:b3) (ar:(List Item)) (r:(List Item)) (h:wg a0 ar=some r):b6 Try.prog 80 [.agg (b8.cells a0),ai dA ar] [none,none] (ai dA r):=by
 unfold wg at h;refine b6.go (N:=⟨59,[]⟩) Try.func80 q q q q (W.fin ?_);refine W.st [(0,.agg (b8.cells a0)),(1,ai dA ar)] ?_;refine W.bI [1,2] (ag (O.box (.b2 q q) q)<|au.aV) ?_;obtain ⟨aE,ff,h⟩:=ay h;refine W.bI [2,5] (ag (O.dJ (cs':=[ai br a0.a',ai ba a0.bw,ai bG a0.a8,ab a0.bx,ab a0.bB]) q (.obj q) gh q q)<|ag (O.az (.aD q))<|dV (ct.go (.bF (.b2 q q) (.bF (.aD q) .nil)) (Pn a0 ar _ ff) call100 q)<|au.aV) ?_;refine W.aX<|W.aT [2,5,6] ?_;refine W.bl ?_;obtain ⟨a6,aq,h⟩:=ay h;refine W.cf (G1:=[(2,_),(5,_),(6,_)]) (dj q q q) ?_;refine W.eH (s:=(aE,(-1))) (λ(s2:List Item × Int)=>[(2,.obj (b8.cells a0)),(5,ai dA s2.1),(6,j s2.2)]) 0 (λ(a6:List Item)=>[(5,ai dA a6)]) aq (λs2 o h=>?_) ?_
 ·clear aq;refine W.aX<|W.aT [2,5,16] ?_;refine W.bz h q (λdZ h=>?_) (λdZ h=>?_)
  ·refine W.bE<|ah.aW ?_;obtain ⟨jq,aa,h⟩:=ay h;refine W.bL [(2,.obj (b8.cells a0)),(5,ai dA jq.1),(6,j jq.2)] ?_ ?_
   ·clear h; have h:=aa; clear aa;refine W.bl<|W.aT [2,5,6] ?_;refine W.aT [2,5,6,7] ?_;obtain ⟨kK,aa,h⟩:=ay h;refine W.bL [(2,.obj (b8.cells a0)),(5,ai dA kK),(6,j (s2.1.length:Int))] ?_ ?_
    ·clear h; have h:=aa; clear aa;refine W.bl ?_;obtain ⟨cn,aq,h⟩:=ay h;refine W.cf (G1:=[(2,_),(5,_),(6,_),(7,_)]) (dQ q q q q) ?_;refine W.eH (s:=(s2.1,0)) (λ(cT:List Item × Int)=>[(2,.obj (b8.cells a0)),(5,ai dA cT.1),(6,j (s2.1.length:Int)),(7,j cT.2)]) 2 (λ(cn:List Item)=>[(2,.obj (b8.cells a0)),(5,ai dA cn),(6,j (s2.1.length:Int))]) aq (λcT o h=>?_) ?_
     ·clear aq;refine W.aX<|W.aT [2,5,6,7,21] ?_;refine W.bz h q (λfx h=>?_) (λfx h=>?_)
      ·refine W.bE<|ah.aW ?_;refine W.aX<|W.bl ?_;refine W.aX ?_;obtain ⟨cH,jT,h⟩:=ay h;obtain ⟨dL,jl,h⟩:=ay h;refine W.rd [[],[],[],[1,2],[1,2,3],aM 0 5 [],aM 0 6 []] [(2,_),(5,_),(6,_),(7,_),(8,_)] d_ (by kernel_rfl) (ao 0 (O.dJ (cs':=[ai br a0.a',ai ba a0.bw,ai bG a0.a8,ab a0.bx,ab a0.bB]) q (.obj q) gh q q)<|ao 1 (O.az (.aD q))<|ao 2 (O.az (.lit q))<|ao 3 (O.cv (.aD q) (.lit q) kf jT)<|ao 4 (O.hX (cs':=[j cH.Prod,j cH.dT]) (.bn q) p5 q q)<|gL 5 (ct.go (.bF (.b2 q q) (.bF (.b2 q q) .nil)) (E9 a0 cH _ jl) call81 q)<|ao 6 (O.dK (.lit q))<|bC.fin q q q (fb q q q q q)) ?_;refine ah.aW<|W.aX ?_;refine W.aT [2,5,6,7,8,9] ?_;refine W.bl ?_;obtain ⟨cS,aq,h⟩:=ay h;refine W.cf (G1:=[(2,_),(5,_),(6,_),(7,_),(8,_),(9,_)]) (fB q q q q q q) ?_;refine W.eH (s:=(cT.1,0)) (λ(iv:List Item × Int)=>[(2,.obj (b8.cells a0)),(5,ai dA iv.1),(6,j (s2.1.length:Int)),(7,j cT.2),(8,j dL),(9,j iv.2)]) 4 (λ(cS:List Item)=>[(2,.obj (b8.cells a0)),(5,ai dA cS),(6,j (s2.1.length:Int)),(7,j cT.2)]) aq (λiv o h=>?_) ?_
       ·clear aq;refine W.aX ?_;obtain ⟨nU,aa,h⟩:=ay h;refine W.rs [(2,.obj (b8.cells a0)),(5,ai dA iv.1),(6,j (s2.1.length:Int)),(7,j cT.2),(8,j dL),(9,j iv.2),(38,aY nU)] ?_ ?_
        ·refine bq q<|ag (O.bd q (.obj q) ln q)<|ag (O.cK (y:=ai bG a0.a8) q (.ptr q) mo q q)<|ag (O.fY (.aD q) mP)<|ag (O.lss (.lit q) (.lit q))<|ag (O.az (.lit q)) ?_;rcases cG aa with ⟨sJ,aa⟩ | ⟨sJ,aa⟩
         ·obtain rfl:=aw aa;exact au.aV
         ·obtain rfl:=aw aa;exact au.aV
        refine W.bz h q (λh6 h=>?_) (λh6 h=>?_)
        ·refine W.bE<|ah.aW ?_;refine W.aX ?_;obtain ⟨Ag,aa,h⟩:=ay h;refine W.bL [(2,.obj (b8.cells a0)),(5,ai dA Ag),(6,j (s2.1.length:Int)),(7,j cT.2),(8,j dL),(9,j iv.2)] ?_ ?_
         ·clear h; have h:=aa; clear aa;refine W.bl ?_;obtain ⟨dt,mF,h⟩:=ay h;refine W.aT [2,5,6,7,8,9,49] ?_;obtain ⟨n_,aa,h⟩:=ay h;refine W.bL [(2,.obj (b8.cells a0)),(5,ai dA n_),(6,j (s2.1.length:Int)),(7,j cT.2),(8,j dL),(9,j iv.2)] ?_ ?_
          ·clear h; have h:=aa; clear aa;refine W.bz h q (λh7 h=>?_) (λh7 h=>?_)
           ·obtain ⟨fU,kJ,h⟩:=ay h;refine W.bo [2,5,6,7,8,9] (ag (O.az (.aD q))<|bq q<|ag (O.eh (cs:=[j iv.2,j 0]) Ii Ei q q q)<|dV (ct.go (.bF (.aD q) (.bF (.b2 q q) .nil)) (E1 iv.1 (⟨iv.2,0⟩:Item) _ kJ) call101 q)<|au.bo [2,6,7,8,9,53] q<|au.aV) ?_;obtain rfl:=aw h;exact ah.bL (fB q q q q q q)
           ·refine W.bE ?_;obtain rfl:=aw h;exact ah.bL (fB q q q q q q)
          refine ah.bl ?_;obtain rfl:=aw h;exact ah.bL (fB q q q q q q)
         refine ah.aW<|W.bo [2,5,6,7,8,9] (bq q<|ag (O.add (.lit q) (.k q))<|au.bo [2,5,6,7,8,40] q<|au.aV) ?_;obtain rfl:=aw h;exact ah.go (fB q q q q q q)
        ·refine W.c9 ?_;refine ah.c8 ?_;obtain rfl:=aw h;exact ah.aE (dQ q q q q)
       refine ah.c_ ?_;refine ah.aW<|W.aT [2,5,6,7,57] ?_;refine W.bz h q (λjh h=>?_) (λjh h=>?_)
       ·refine W.c9 ?_;refine ah.OR q ?_;refine ah.c8 ?_;obtain rfl:=aw h;exact ah.aE (dj q q q)
       ·refine W.bE<|ah.bl ?_;refine ah.aW<|W.bo [2,5,6,7] (bq q<|ag (O.add (.lit q) (.k q))<|au.bo [2,5,6,23] q<|au.aV) ?_;obtain rfl:=aw h;exact ah.go (dQ q q q q)
      ·refine W.c9 ?_;refine ah.c8 ?_;obtain rfl:=aw h;exact ah.aE (dj q q q)
     refine ah.c_ ?_;obtain rfl:=aw h;exact ah.bL (dj q q q)
    refine ah.bl ?_;obtain rfl:=aw h;exact ah.bL (dj q q q)
   obtain rfl:=aw h;exact ah.go (dj q q q)
  ·refine W.c9 ?_;refine ah.c8 ?_;obtain rfl:=aw h;exact ah.aE (.n q .nil)
 refine ah.c_ ?_;refine ah.aW<|W.aT [4] ?_;refine W.rt ?_;obtain rfl:=aw h;exact cu (.f q q .nil)
theorem P8 (a0:b3) (ar:(List Item)) (a2:Int) (r:(List Item)) (h:Ba a0 ar a2=some r):b6 Try.prog 82 [.agg (b8.cells a0),ai dA ar,j a2] [none,none,none] (ai dA r):=by
 unfold Ba at h;refine b6.go (N:=⟨48,[]⟩) Try.func82 q q q q (W.fin ?_);refine W.st [(0,.agg (b8.cells a0)),(1,ai dA ar),(2,j a2)] ?_;refine W.bI [1,2,3] (ag (O.box (.b2 q q) q)<|au.aV) ?_;refine W.aT [1,2,3,7] ?_;obtain ⟨aE,ff,h⟩:=ay h;refine W.bI [2,3,7,8] (ag (O.dJ (cs':=[ai br a0.a',ai ba a0.bw,ai bG a0.a8,ab a0.bx,ab a0.bB]) q (.obj q) gh q q)<|ag (O.az (.aD q))<|dV (ct.go (.bF (.b2 q q) (.bF (.aD q) .nil)) (E8 a0 ar _ ff) call80 q)<|au.aV) ?_;refine W.aX<|W.aT [2,3,7,8,9] ?_;refine W.bl ?_;obtain ⟨a6,aq,h⟩:=ay h;refine W.cf (G1:=[(2,_),(3,_),(7,ai dA ([]:List Item)),(8,_),(9,_)]) (.n q (.n q (.w q q .xY (e_ q q)))) ?_;refine W.eH (s:=(([]:List Item),0)) (λ(s2:List Item × Int)=>[(2,j a2),(3,.obj (b8.cells a0)),(7,ai dA s2.1),(8,ai dA aE),(9,j s2.2)]) 0 (λ(a6:List Item)=>[(7,ai dA a6)]) aq (λs2 o h=>?_) ?_
 ·clear aq;refine W.aX<|W.aT [2,3,7,8,9,17] ?_;refine W.bz h q (λdZ h=>?_) (λdZ h=>?_)
  ·refine W.bE<|ah.aW ?_;refine W.aX ?_;obtain ⟨jq,aa,h⟩:=ay h;refine W.bL [(2,j a2),(3,.obj (b8.cells a0)),(7,ai dA jq),(8,ai dA aE),(9,j s2.2)] ?_ ?_
   ·clear h; have h:=aa; clear aa;refine W.bl<|W.aX ?_;obtain ⟨a_,fJ,h⟩:=ay h;obtain ⟨bA,gU,h⟩:=ay h;refine W.rd [[],[],[],[1,2],[1,2,3],aM 0 5 [],aM 0 6 []] [(2,_),(3,_),(7,_),(8,_),(9,_),(10,_)] d_ (by kernel_rfl) (ao 0 (O.dJ (cs':=[ai br a0.a',ai ba a0.bw,ai bG a0.a8,ab a0.bx,ab a0.bB]) q (.obj q) gh q q)<|ao 1 (O.az (.aD q))<|ao 2 (O.az (.lit q))<|ao 3 (O.cv (.aD q) (.lit q) kf fJ)<|ao 4 (O.hX (cs':=[j a_.Prod,j a_.dT]) (.bn q) p5 q q)<|gL 5 (ct.go (.bF (.b2 q q) (.bF (.b2 q q) .nil)) (E9 a0 a_ _ gU) call81 q)<|ao 6 (O.dK (.lit q))<|bC.fin q q q (fB q q q q q q)) ?_;refine ah.aW ?_;obtain ⟨jA,aa,h⟩:=ay h;refine W.rs [(2,j a2),(3,.obj (b8.cells a0)),(7,ai dA s2.1),(8,ai dA aE),(9,j s2.2),(32,aY jA)] ?_ ?_
    ·refine bq q<|ag (O.geq (.lit q) (.k q))<|ag (O.az (.lit q)) ?_;rcases cG aa with ⟨dX,aa⟩ | ⟨dX,aa⟩
     ·obtain rfl:=aw aa;exact au.aV
     ·obtain rfl:=aw aa;exact au.aV
    obtain ⟨hg,aa,h⟩:=ay h;refine W.bL [(2,j a2),(3,.obj (b8.cells a0)),(7,ai dA hg),(8,ai dA aE),(9,j s2.2)] ?_ ?_
    ·clear h; have h:=aa; clear aa;refine W.bz h q (λek h=>?_) (λek h=>?_)
     ·refine W.cf (G1:=[(2,_),(3,_),(7,_),(8,_),(9,_)]) (fb q q q q q) ?_;obtain ⟨dL,jl,h⟩:=ay h;obtain ⟨db,j1,h⟩:=ay h;obtain ⟨cS,hU,h⟩:=ay h;refine W.rd [[],[],[],[1,2],[1,2,3],[1,2,3,4],[],[],[6,7],[6,7,8],[6,7,8,9],aM 6 5 [],aM 1 11 [],aM 0 13 [],aM 0 14 []] [(2,_),(3,_),(7,_),(8,_),(9,_)] d_ (by kernel_rfl) (ao 0 (O.az (.aD q))<|ao 1 (O.az (.aD q))<|ao 2 (O.az (.lit q))<|ao 3 (O.cv (.aD q) (.lit q) kf jl)<|ao 4 (O.ef (.bn q) nx)<|ao 5 (O.cX (x:=j dL.Prod) (.bn q) cx q)<|ao 6 (O.az (.aD q))<|ao 7 (O.az (.lit q))<|ao 8 (O.cv (.aD q) (.lit q) kf j1)<|ao 9 (O.ef (.bn q) rI)<|ao 10 (O.cX (x:=j db.dT) (.bn q) cx q)<|ao 11 (O.add (.lit q) (.k q))<|ao 12 (O.eh (cs:=[j dL.Prod,j (aL (db.dT+1))]) Ii Ei q q q)<|gL 13 (ct.go (.bF (.aD q) (.bF (.b2 q q) .nil)) (E1 s2.1 (⟨dL.Prod,aL (db.dT+1)⟩:Item) _ hU) call101 q)<|bC.bv 14 (G2:=[(2,j a2),(3,.obj (b8.cells a0)),(8,ai dA aE),(9,j s2.2)]) (cc.B3 (y':=ai dA cS) q q (.aD q) (.f .nil) .refl (dQ q q q q) q q) q q q q (by kernel_rfl) (by kernel_rfl)<|bC.fin q q q (fb q q q q q)) ?_;obtain rfl:=aw h;exact ah.bL (fb q q q q q)
     ·refine W.bE ?_;obtain rfl:=aw h;exact ah.bL (fb q q q q q)
    refine ah.bl ?_;obtain rfl:=aw h;exact ah.bL (fb q q q q q)
   refine ah.aW<|W.bo [2,3,7,8,9] (bq q<|ag (O.add (.lit q) (.k q))<|au.bo [2,3,7,8,19] q<|au.aV) ?_;obtain rfl:=aw h;exact ah.go (fb q q q q q)
  ·refine W.c9 ?_;refine ah.c8 ?_;obtain rfl:=aw h;exact ah.aE (.n q .nil)
 refine ah.c_ ?_;refine ah.aW<|W.aT [6] ?_;refine W.rt ?_;obtain rfl:=aw h;exact cu (.f q q .nil)
theorem Po (a0:(List Item)) (ar:(List Item)) (r:Bool) (h:AD a0 ar=some r):b6 Try.prog 103 [ai dA a0,ai dA ar] [none,none] (aY r):=by
 unfold AD at h;refine b6.go (N:=⟨26,[]⟩) Try.func103 q q q q (W.fin ?_);refine W.st [(0,ai dA a0),(1,ai dA ar)] ?_;refine W.aT [0,1] ?_;refine W.aX<|W.aT [0,1,10] ?_;refine W.bz h q (λc3 h=>?_) (λc3 h=>?_)
 ·refine W.aT [4] ?_;refine W.rt ?_;refine ah.cP ?_;obtain rfl:=aw h;exact cu (.f q q .nil)
 ·refine W.bE<|ah.aW ?_;refine W.aX<|W.aT [0,1,5] ?_;refine W.bl ?_;obtain ⟨a6,aq,h⟩:=ay h;refine W.cf (G1:=[(0,_),(1,_),(5,_)]) (dj q q q) ?_;refine W.iM (s:=0) (λ(s2:Int)=>[(0,ai dA a0),(1,ai dA ar),(5,j s2)]) 0 (λ(bQ:Unit)=>[]) (λ(b':Bool)=>[(4,aY b')]) aq (λs2 o h=>?_) (λbQ J=>?_) (λb' J=>?_)
  ·clear aq;refine W.aX<|W.aT [0,1,5,14] ?_;refine W.bz h q (λdO h=>?_) (λdO h=>?_)
   ·refine W.bE<|ah.aW ?_;refine W.aX<|W.bl ?_;refine W.aX ?_;obtain ⟨a_,fJ,h⟩:=ay h;obtain ⟨bA,gU,h⟩:=ay h;refine W.rd [[],[],[0,1],[0,1,2],[],[],[4,5],[4,5,6],aM 0 8 []] [(0,_),(1,_),(5,_),(25,_)] d_ (by kernel_rfl) (ao 0 (O.az (.aD q))<|ao 1 (O.az (.lit q))<|ao 2 (O.cv (.aD q) (.lit q) kf fJ)<|ao 3 (O.hX (cs':=[j a_.Prod,j a_.dT]) (.bn q) p5 q q)<|ao 4 (O.az (.aD q))<|ao 5 (O.az (.lit q))<|ao 6 (O.cv (.aD q) (.lit q) kf gU)<|ao 7 (O.hX (cs':=[j bA.Prod,j bA.dT]) (.bn q) p5 q q)<|ao 8 (O.HF (va:=[.int .i64 a_.Prod,.int .i64 a_.dT]) (vb:=[.int .i64 bA.Prod,.int .i64 bA.dT]) (.b2 q q) (.b2 q q) q q Kj)<|bC.fin q q q (dQ q q q q)) ?_;refine ah.aW<|W.bz h q (λdX h=>?_) (λdX h=>?_)
    ·refine W.aT [4] ?_;refine W.rt ?_;refine ah.dP ?_;refine ah.cP ?_;obtain rfl:=aw h;exact ah.fR (.n q .nil)
    ·refine W.bE<|ah.bl ?_;refine ah.aW<|W.bo [0,1,5] (bq q<|ag (O.add (.lit q) (.k q))<|au.bo [0,1,16] q<|au.aV) ?_;obtain rfl:=aw h;exact ah.go (dj q q q)
   ·refine W.c9 ?_;refine ah.c8 ?_;obtain rfl:=aw h;exact ah.x2 .nil
  ·subst J;refine ah.c_ ?_;refine ah.aW<|W.aT [4] ?_;refine W.rt ?_;obtain rfl:=aw h;exact cu (.f q q .nil)
  ·subst J;refine ah.dP ?_;refine ah.cP ?_;obtain rfl:=aw h;exact cu (.f q q .nil)
theorem P9 (a0:(List State)) (ar:(List Item)) (r:Int) (h:Bb a0 ar=some r):b6 Try.prog 83 [ai cD a0,ai dA ar] [none,none] (j r):=by
 unfold Bb at h;refine b6.go (N:=⟨20,[]⟩) Try.func83 q q q q (W.fin ?_);refine W.st [(0,ai cD a0),(1,ai dA ar)] ?_;refine W.aT [0,1] ?_;refine W.aX<|W.aT [0,1,5] ?_;refine W.bl ?_;obtain ⟨x2,aq,h⟩:=ay h;refine W.cf (G1:=[(0,_),(1,_),(5,_)]) (dj q q q) ?_;refine W.iM (s:=0) (λ(s1:Int)=>[(0,ai cD a0),(1,ai dA ar),(5,j s1)]) 0 (λ(a6:Unit)=>[]) (λ(bQ:Int)=>[(4,j bQ)]) aq (λs1 o h=>?_) (λa6 J=>?_) (λbQ J=>?_)
 ·clear aq;refine W.aX<|W.aT [0,1,5,9] ?_;refine W.bz h q (λdZ h=>?_) (λdZ h=>?_)
  ·refine W.bE<|ah.aW ?_;refine W.aX<|W.bl ?_;obtain ⟨bJ,fL,h⟩:=ay h;obtain ⟨a_,fJ,h⟩:=ay h;refine W.bI [0,1,5,18] (ag (O.az (.aD q))<|bq q<|ag (O.cv (.aD q) (.lit q) lf fL)<|ag (O.ef (.bn q) vl)<|ag (O.cX (x:=ai dA bJ.Kernel) (.bn q) vg q)<|ag (O.az (.aD q))<|dV (ct.go (.bF (.aD q) (.bF (.aD q) .nil)) (Po bJ.Kernel ar _ fJ) call103 q)<|bR q) ?_;refine W.bz h q (λcW h=>?_) (λcW h=>?_)
   ·refine W.aT [4] ?_;refine W.rt ?_;refine ah.dP ?_;refine ah.cP ?_;obtain rfl:=aw h;exact ah.fR (.n q .nil)
   ·refine W.bE<|ah.bl ?_;refine ah.aW<|W.bo [0,1,5] (bq q<|ag (O.add (.lit q) (.k q))<|au.bo [0,1,11] q<|au.aV) ?_;obtain rfl:=aw h;exact ah.go (dj q q q)
  ·refine W.c9 ?_;refine ah.c8 ?_;obtain rfl:=aw h;exact ah.x2 .nil
 ·subst J;refine ah.c_ ?_;refine ah.aW<|W.aT [4] ?_;refine W.rt ?_;obtain rfl:=aw h;exact cu (.f q q .nil)
 ·subst J;refine ah.dP ?_;refine ah.cP ?_;obtain rfl:=aw h;exact cu (.f q q .nil)
end Go.Proofs
