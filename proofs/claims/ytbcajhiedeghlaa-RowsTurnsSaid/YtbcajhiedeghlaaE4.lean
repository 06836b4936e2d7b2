/-
  What is proved here: parts of the proof that the last text states: rules for walks through code, and of this program's functions what they answer. No condition of their own.
-/
import Derived.Test.YtbcajhiedeghlaaRows
import Derived.Test.YtbcajhiedeghlaaE3
namespace Go.Proofs
open Go Go.Own
set_option maxRecDepth 100000
set_option linter.unusedVariables false
theorem fd23_0:fldT Try.prog 23 0 0 3=true:=by kernel_rfl
theorem ct3:cellT Try.prog 3=true:=by kernel_rfl
theorem fd23_1:fldT Try.prog 23 1 1 3=true:=by kernel_rfl
theorem ze23:(Try.prog.info? 23).bind (·.zero)=some (.agg #[.int .i64 0,.int .i64 0]):=by kernel_rfl
theorem sc23:structT Try.prog 23 [(0,1),(1,1)]=true:=by kernel_rfl
theorem sz23:sizeT Try.prog 23 2=true:=by kernel_rfl
theorem at23:aggT Try.prog 23 2=true:=by kernel_rfl
theorem st9:strT Try.prog 9=true:=by kernel_rfl
theorem call121:callT Try.prog 121=true:=by kernel_rfl
theorem call122:callT Try.prog 122=true:=by kernel_rfl
theorem call117:callT Try.prog 117=true:=by kernel_rfl
theorem fd88_1:fldT Try.prog 88 1 1 4=true:=by kernel_rfl
theorem ct4:cellT Try.prog 4=true:=by kernel_rfl
theorem fd88_0:fldT Try.prog 88 0 0 9=true:=by kernel_rfl
theorem ct9:cellT Try.prog 9=true:=by kernel_rfl
theorem fd88_2:fldT Try.prog 88 2 2 3=true:=by kernel_rfl
theorem call120:callT Try.prog 120=true:=by kernel_rfl
theorem call111:callT Try.prog 111=true:=by kernel_rfl
theorem fd100_0:fldT Try.prog 100 0 0 3=true:=by kernel_rfl
theorem fd100_2:fldT Try.prog 100 2 2 98=true:=by kernel_rfl
theorem ct98:cellT Try.prog 98=true:=by kernel_rfl
theorem sl98:slT Try.prog 98 88 4=true:=by kernel_rfl
theorem fd100_1:fldT Try.prog 100 1 1 9=true:=by kernel_rfl
theorem at88:aggT Try.prog 88 4=true:=by kernel_rfl
theorem call116:callT Try.prog 116=true:=by kernel_rfl
theorem mixo:Try.prog.follows .mixedOrders=true:=by kernel_rfl
theorem call124:callT Try.prog 124=true:=by kernel_rfl
theorem call123:callT Try.prog 123=true:=by kernel_rfl
theorem fd93_0:fldT Try.prog 93 0 0 91=true:=by kernel_rfl
theorem ct91:cellT Try.prog 91=true:=by kernel_rfl
theorem sl91:slT Try.prog 91 90 6=true:=by kernel_rfl
theorem at90:aggT Try.prog 90 6=true:=by kernel_rfl
theorem ze90:(Try.prog.info? 90).bind (·.zero)=some (.agg #[.string { data:=#[] },.bool false,.int .i64 0,.int .i64 0,.string { data:=#[] },.int .i64 0]):=by kernel_rfl
theorem sz90:sizeT Try.prog 90 6=true:=by kernel_rfl
theorem fd90_1:fldT Try.prog 90 1 4 9=true:=by kernel_rfl
theorem fd90_0:fldT Try.prog 90 0 0 88=true:=by kernel_rfl
theorem call118:callT Try.prog 118=true:=by kernel_rfl
theorem call119:callT Try.prog 119=true:=by kernel_rfl
theorem fd93_1:fldT Try.prog 93 1 1 88=true:=by kernel_rfl
theorem fd33_0:fldT Try.prog 33 0 0 9=true:=by kernel_rfl
theorem fd33_1:fldT Try.prog 33 1 1 30=true:=by kernel_rfl
theorem ct30:cellT Try.prog 30=true:=by kernel_rfl
theorem sl30:slT Try.prog 30 100 4=true:=by kernel_rfl
theorem at100:aggT Try.prog 100 4=true:=by kernel_rfl
theorem call110:callT Try.prog 110=true:=by kernel_rfl
theorem fd33_2:fldT Try.prog 33 2 2 31=true:=by kernel_rfl
theorem ct31:cellT Try.prog 31=true:=by kernel_rfl
theorem sl31:slT Try.prog 31 96 3=true:=by kernel_rfl
theorem at96:aggT Try.prog 96 3=true:=by kernel_rfl
theorem ze96:(Try.prog.info? 96).bind (·.zero)=some (.agg #[.string { data:=#[] },.slice none 0 0,.int .i64 0]):=by kernel_rfl
theorem sz96:sizeT Try.prog 96 3=true:=by kernel_rfl
theorem fd96_0:fldT Try.prog 96 0 0 9=true:=by kernel_rfl
theorem fd96_1:fldT Try.prog 96 1 1 94=true:=by kernel_rfl
theorem ct94:cellT Try.prog 94=true:=by kernel_rfl
theorem sl94:slT Try.prog 94 93 6=true:=by kernel_rfl
theorem at93:aggT Try.prog 93 6=true:=by kernel_rfl
theorem call112:callT Try.prog 112=true:=by kernel_rfl
theorem fd169_4:fldT Try.prog 169 4 8 3=true:=by kernel_rfl
theorem sz3:sizeT Try.prog 3 1=true:=by kernel_rfl
theorem fd169_5:fldT Try.prog 169 5 9 3=true:=by kernel_rfl
theorem fd169_6:fldT Try.prog 169 6 10 9=true:=by kernel_rfl
theorem sz9:sizeT Try.prog 9 1=true:=by kernel_rfl
theorem fd169_2:fldT Try.prog 169 2 6 41=true:=by kernel_rfl
theorem ct41:cellT Try.prog 41=true:=by kernel_rfl
theorem sl41:slT Try.prog 41 176 2=true:=by kernel_rfl
theorem fd176_0:fldT Try.prog 176 0 0 9=true:=by kernel_rfl
theorem fd169_0:fldT Try.prog 169 0 0 44=true:=by kernel_rfl
theorem fd44_0:fldT Try.prog 44 0 0 40=true:=by kernel_rfl
theorem ct40:cellT Try.prog 40=true:=by kernel_rfl
theorem sl40:slT Try.prog 40 78 6=true:=by kernel_rfl
theorem fd78_0:fldT Try.prog 78 0 0 9=true:=by kernel_rfl
theorem fd78_1:fldT Try.prog 78 1 1 4=true:=by kernel_rfl
theorem bt4:boolT Try.prog 4=true:=by kernel_rfl
theorem fd78_2:fldT Try.prog 78 2 2 3=true:=by kernel_rfl
theorem call95:callT Try.prog 95=true:=by kernel_rfl
theorem ze78:(Try.prog.info? 78).bind (·.zero)=some (.agg #[.string { data:=#[] },.bool false,.int .i64 0,.int .i64 0,.int .i64 0,.string { data:=#[] }]):=by kernel_rfl
theorem sc78:structT Try.prog 78 [(0,1),(1,1),(2,1),(3,1),(4,1),(5,1)]=true:=by kernel_rfl
theorem sz78:sizeT Try.prog 78 6=true:=by kernel_rfl
theorem it5:intT Try.prog 5 .u8=true:=by kernel_rfl
theorem it3:intT Try.prog 3 .i64=true:=by kernel_rfl
theorem call114:callT Try.prog 114=true:=by kernel_rfl
theorem fd88_3:fldT Try.prog 88 3 3 3=true:=by kernel_rfl
theorem call94:callT Try.prog 94=true:=by kernel_rfl
theorem at78:aggT Try.prog 78 6=true:=by kernel_rfl
theorem zt78:zeroT Try.prog 78 6=true:=by kernel_rfl
theorem ap40:appT Try.prog 40 78 6 64=true:=by kernel_rfl
theorem sz40:sizeT Try.prog 40 1=true:=by kernel_rfl
theorem fd169_1:fldT Try.prog 169 1 5 103=true:=by kernel_rfl
theorem ct103:cellT Try.prog 103=true:=by kernel_rfl
theorem zt4:zeroT Try.prog 4 1=true:=by kernel_rfl
theorem sl103:slT Try.prog 103 4 1=true:=by kernel_rfl
theorem ap103:appT Try.prog 103 4 1 1=true:=by kernel_rfl
theorem sz103:sizeT Try.prog 103 1=true:=by kernel_rfl
theorem call98:callT Try.prog 98=true:=by kernel_rfl
theorem ze176:(Try.prog.info? 176).bind (·.zero)=some (.agg #[.string { data:=#[] },.string { data:=#[] }]):=by kernel_rfl
theorem sc176:structT Try.prog 176 [(0,1),(1,1)]=true:=by kernel_rfl
theorem zt176:zeroT Try.prog 176 2=true:=by kernel_rfl
theorem ap41:appT Try.prog 41 176 2 32=true:=by kernel_rfl
theorem sz41:sizeT Try.prog 41 1=true:=by kernel_rfl
theorem fd176_1:fldT Try.prog 176 1 1 9=true:=by kernel_rfl
theorem call113:callT Try.prog 113=true:=by kernel_rfl
theorem fd78_3:fldT Try.prog 78 3 3 3=true:=by kernel_rfl
theorem fd169_7:fldT Try.prog 169 7 11 3=true:=by kernel_rfl
theorem fd78_4:fldT Try.prog 78 4 4 3=true:=by kernel_rfl
theorem sz4:sizeT Try.prog 4 1=true:=by kernel_rfl
theorem fd78_5:fldT Try.prog 78 5 5 9=true:=by kernel_rfl
theorem fd169_3:fldT Try.prog 169 3 7 167=true:=by kernel_rfl
theorem ct167:cellT Try.prog 167=true:=by kernel_rfl
theorem sl167:slT Try.prog 167 9 1=true:=by kernel_rfl
theorem call96:callT Try.prog 96=true:=by kernel_rfl
theorem fd93_2:fldT Try.prog 93 2 5 3=true:=by kernel_rfl
theorem ze148:(Try.prog.info? 148).bind (·.zero)=some (.agg #[.int .i64 0,.slice none 0 0,.int .i64 0,.string { data:=#[] },.slice none 0 0,.int .i64 0]):=by kernel_rfl
theorem sc148:structT Try.prog 148 [(0,1),(1,1),(2,1),(3,1),(4,1),(5,1)]=true:=by kernel_rfl
theorem sz148:sizeT Try.prog 148 6=true:=by kernel_rfl
theorem fd148_1:fldT Try.prog 148 1 1 29=true:=by kernel_rfl
theorem ct29:cellT Try.prog 29=true:=by kernel_rfl
theorem call115:callT Try.prog 115=true:=by kernel_rfl
theorem zt3:zeroT Try.prog 3 1=true:=by kernel_rfl
theorem sl29:slT Try.prog 29 3 1=true:=by kernel_rfl
theorem ap29:appT Try.prog 29 3 1 8=true:=by kernel_rfl
theorem sz29:sizeT Try.prog 29 1=true:=by kernel_rfl
theorem fd90_2:fldT Try.prog 90 2 5 3=true:=by kernel_rfl
theorem fd148_3:fldT Try.prog 148 3 3 9=true:=by kernel_rfl
theorem fd148_5:fldT Try.prog 148 5 5 3=true:=by kernel_rfl
theorem fd169_8:fldT Try.prog 169 8 12 3=true:=by kernel_rfl
theorem fd44_2:fldT Try.prog 44 2 2 42=true:=by kernel_rfl
theorem ct42:cellT Try.prog 42=true:=by kernel_rfl
theorem zt148:zeroT Try.prog 148 6=true:=by kernel_rfl
theorem sl42:slT Try.prog 42 148 6=true:=by kernel_rfl
theorem ap42:appT Try.prog 42 148 6 88=true:=by kernel_rfl
theorem sz42:sizeT Try.prog 42 1=true:=by kernel_rfl
theorem fd148_2:fldT Try.prog 148 2 2 3=true:=by kernel_rfl
theorem fd148_4:fldT Try.prog 148 4 4 29=true:=by kernel_rfl
theorem at148:aggT Try.prog 148 6=true:=by kernel_rfl
theorem it187:intT Try.prog 187 .u64=true:=by kernel_rfl
theorem zt5:zeroT Try.prog 5 1=true:=by kernel_rfl
theorem sl123:slT Try.prog 123 5 1=true:=by kernel_rfl
theorem by123_9:bytT Try.prog 123 9=true:=by kernel_rfl
theorem ze44:(Try.prog.info? 44).bind (·.zero)=some (.agg #[.slice none 0 0,.slice none 0 0,.slice none 0 0,.string { data:=#[] },.string { data:=#[] }]):=by kernel_rfl
theorem at33:aggT Try.prog 33 4=true:=by kernel_rfl
theorem call92:callT Try.prog 92=true:=by kernel_rfl
theorem sc44:structT Try.prog 44 [(0,1),(1,1),(2,1),(3,1),(4,1)]=true:=by kernel_rfl
theorem sz44:sizeT Try.prog 44 5=true:=by kernel_rfl
theorem at44:aggT Try.prog 44 5=true:=by kernel_rfl
theorem ze4:(Try.prog.info? 4).bind (·.zero)=some (.bool false):=by kernel_rfl
theorem bb4:(Try.prog.info? 4).map (·.bytes)=some 1:=by kernel_rfl
theorem ze169:(Try.prog.info? 169).bind (·.zero)=some (.agg #[.slice none 0 0,.slice none 0 0,.slice none 0 0,.string { data:=#[] },.string { data:=#[] },.slice none 0 0,.slice none 0 0,.slice none 0 0,.int .i64 0,.int .i64 0,.string { data:=#[] },.int .i64 0,.int .i64 0]):=by kernel_rfl
theorem sc169:structT Try.prog 169 [(0,5),(5,1),(6,1),(7,1),(8,1),(9,1),(10,1),(11,1),(12,1)]=true:=by kernel_rfl
theorem ze100:(Try.prog.info? 100).bind (·.zero)=some (.agg #[.int .i64 0,.string { data:=#[] },.slice none 0 0,.int .i64 0]):=by kernel_rfl
theorem sz100:sizeT Try.prog 100 4=true:=by kernel_rfl
theorem call93:callT Try.prog 93=true:=by kernel_rfl
theorem ze88:(Try.prog.info? 88).bind (·.zero)=some (.agg #[.string { data:=#[] },.bool false,.int .i64 0,.int .i64 0]):=by kernel_rfl
theorem sc88:structT Try.prog 88 [(0,1),(1,1),(2,1),(3,1)]=true:=by kernel_rfl
theorem fd96_2:fldT Try.prog 96 2 2 3=true:=by kernel_rfl
theorem zt9:zeroT Try.prog 9 1=true:=by kernel_rfl
theorem ap167:appT Try.prog 167 9 1 16=true:=by kernel_rfl
theorem sz167:sizeT Try.prog 167 1=true:=by kernel_rfl
theorem sz88:sizeT Try.prog 88 4=true:=by kernel_rfl
theorem call97:callT Try.prog 97=true:=by kernel_rfl
theorem fd44_1:fldT Try.prog 44 1 1 41=true:=by kernel_rfl
theorem sz176:sizeT Try.prog 176 2=true:=by kernel_rfl
theorem at176:aggT Try.prog 176 2=true:=by kernel_rfl
theorem call99:callT Try.prog 99=true:=by kernel_rfl
theorem fd33_3:fldT Try.prog 33 3 3 9=true:=by kernel_rfl
theorem fd44_3:fldT Try.prog 44 3 3 9=true:=by kernel_rfl
theorem fd44_4:fldT Try.prog 44 4 4 9=true:=by kernel_rfl
theorem call78:callT Try.prog 78=true:=by kernel_rfl
theorem fd137_0:fldT Try.prog 137 0 0 3=true:=by kernel_rfl
theorem fd137_1:fldT Try.prog 137 1 1 3=true:=by kernel_rfl
theorem at137:aggT Try.prog 137 2=true:=by kernel_rfl
theorem call102:callT Try.prog 102=true:=by kernel_rfl
theorem sl132:slT Try.prog 132 137 2=true:=by kernel_rfl
theorem eq137:eqAT Try.prog 137 [.i .i64,.i .i64]=true:=by kernel_rfl
theorem zt137:zeroT Try.prog 137 2=true:=by kernel_rfl
theorem ap132:appT Try.prog 132 137 2 16=true:=by kernel_rfl
theorem call101:callT Try.prog 101=true:=by kernel_rfl
theorem call100:callT Try.prog 100=true:=by kernel_rfl
theorem call81:callT Try.prog 81=true:=by kernel_rfl
theorem fd148_0:fldT Try.prog 148 0 0 3=true:=by kernel_rfl
theorem ze137:(Try.prog.info? 137).bind (·.zero)=some (.agg #[.int .i64 0,.int .i64 0]):=by kernel_rfl
theorem sc137:structT Try.prog 137 [(0,1),(1,1)]=true:=by kernel_rfl
theorem call80:callT Try.prog 80=true:=by kernel_rfl
theorem sl64:slT Try.prog 64 135 2=true:=by kernel_rfl
theorem fd135_0:fldT Try.prog 135 0 0 132=true:=by kernel_rfl
theorem ct132:cellT Try.prog 132=true:=by kernel_rfl
theorem call103:callT Try.prog 103=true:=by kernel_rfl
theorem ze135:(Try.prog.info? 135).bind (·.zero)=some (.agg #[.slice none 0 0,.slice none 0 0]):=by kernel_rfl
theorem sc135:structT Try.prog 135 [(0,1),(1,1)]=true:=by kernel_rfl
theorem zt135:zeroT Try.prog 135 2=true:=by kernel_rfl
theorem call79:callT Try.prog 79=true:=by kernel_rfl
theorem call67:callT Try.prog 67=true:=by kernel_rfl
theorem call70:callT Try.prog 70=true:=by kernel_rfl
theorem call82:callT Try.prog 82=true:=by kernel_rfl
theorem call83:callT Try.prog 83=true:=by kernel_rfl
theorem ap64:appT Try.prog 64 135 2 48=true:=by kernel_rfl
theorem fd135_1:fldT Try.prog 135 1 1 133=true:=by kernel_rfl
theorem ct133:cellT Try.prog 133=true:=by kernel_rfl
theorem ze145:(Try.prog.info? 145).bind (·.zero)=some (.agg #[.int .i64 0,.int .i64 0]):=by kernel_rfl
theorem sc145:structT Try.prog 145 [(0,1),(1,1)]=true:=by kernel_rfl
theorem zt145:zeroT Try.prog 145 2=true:=by kernel_rfl
theorem sl133:slT Try.prog 133 145 2=true:=by kernel_rfl
theorem ap133:appT Try.prog 133 145 2 16=true:=by kernel_rfl
theorem sz133:sizeT Try.prog 133 1=true:=by kernel_rfl
theorem call68:callT Try.prog 68=true:=by kernel_rfl
theorem call69:callT Try.prog 69=true:=by kernel_rfl
theorem fd145_0:fldT Try.prog 145 0 0 3=true:=by kernel_rfl
theorem fd145_1:fldT Try.prog 145 1 1 3=true:=by kernel_rfl
theorem fd76_4:fldT Try.prog 76 4 4 29=true:=by kernel_rfl
theorem fd76_2:fldT Try.prog 76 2 2 3=true:=by kernel_rfl
theorem fd76_3:fldT Try.prog 76 3 3 4=true:=by kernel_rfl
theorem call59:callT Try.prog 59=true:=by kernel_rfl
theorem ze76:(Try.prog.info? 76).bind (·.zero)=some (.agg #[.int .i64 0,.int .i64 0,.int .i64 0,.bool false,.slice none 0 0]):=by kernel_rfl
theorem sc76:structT Try.prog 76 [(0,1),(1,1),(2,1),(3,1),(4,1)]=true:=by kernel_rfl
theorem sz76:sizeT Try.prog 76 5=true:=by kernel_rfl
theorem sz137:sizeT Try.prog 137 2=true:=by kernel_rfl
theorem sl112:slT Try.prog 112 139 3=true:=by kernel_rfl
theorem fd139_0:fldT Try.prog 139 0 0 3=true:=by kernel_rfl
theorem fd139_2:fldT Try.prog 139 2 2 29=true:=by kernel_rfl
theorem fd139_1:fldT Try.prog 139 1 1 3=true:=by kernel_rfl
theorem at76:aggT Try.prog 76 5=true:=by kernel_rfl
theorem call66:callT Try.prog 66=true:=by kernel_rfl
theorem zt76:zeroT Try.prog 76 5=true:=by kernel_rfl
theorem sl65:slT Try.prog 65 76 5=true:=by kernel_rfl
theorem ap65:appT Try.prog 65 76 5 56=true:=by kernel_rfl
theorem sl34:slT Try.prog 34 29 1=true:=by kernel_rfl
theorem ze161:(Try.prog.info? 161).bind (·.zero)=some (.agg #[.int .i64 0,.int .i64 0]):=by kernel_rfl
theorem sc161:structT Try.prog 161 [(0,1),(1,1)]=true:=by kernel_rfl
theorem zt161:zeroT Try.prog 161 2=true:=by kernel_rfl
theorem sl158:slT Try.prog 158 161 2=true:=by kernel_rfl
theorem ap158:appT Try.prog 158 161 2 16=true:=by kernel_rfl
theorem call88:callT Try.prog 88=true:=by kernel_rfl
theorem fd161_0:fldT Try.prog 161 0 0 3=true:=by kernel_rfl
theorem fd161_1:fldT Try.prog 161 1 1 3=true:=by kernel_rfl
theorem call104:callT Try.prog 104=true:=by kernel_rfl
theorem zt29:zeroT Try.prog 29 1=true:=by kernel_rfl
theorem ap34:appT Try.prog 34 29 1 24=true:=by kernel_rfl
theorem call107:callT Try.prog 107=true:=by kernel_rfl
theorem call105:callT Try.prog 105=true:=by kernel_rfl
theorem call106:callT Try.prog 106=true:=by kernel_rfl
theorem ze29:(Try.prog.info? 29).bind (·.zero)=some (.slice none 0 0):=by kernel_rfl
theorem bb29:(Try.prog.info? 29).map (·.bytes)=some 24:=by kernel_rfl
theorem call89:callT Try.prog 89=true:=by kernel_rfl
theorem call85:callT Try.prog 85=true:=by kernel_rfl
theorem call86:callT Try.prog 86=true:=by kernel_rfl
theorem call84:callT Try.prog 84=true:=by kernel_rfl
theorem call87:callT Try.prog 87=true:=by kernel_rfl
theorem call71:callT Try.prog 71=true:=by kernel_rfl
theorem call72:callT Try.prog 72=true:=by kernel_rfl
theorem ze139:(Try.prog.info? 139).bind (·.zero)=some (.agg #[.int .i64 0,.int .i64 0,.slice none 0 0]):=by kernel_rfl
theorem sc139:structT Try.prog 139 [(0,1),(1,1),(2,1)]=true:=by kernel_rfl
theorem sz139:sizeT Try.prog 139 3=true:=by kernel_rfl
theorem call73:callT Try.prog 73=true:=by kernel_rfl
theorem at139:aggT Try.prog 139 3=true:=by kernel_rfl
theorem zt139:zeroT Try.prog 139 3=true:=by kernel_rfl
theorem ap112:appT Try.prog 112 139 3 40=true:=by kernel_rfl
theorem call52:callT Try.prog 52=true:=by kernel_rfl
theorem call54:callT Try.prog 54=true:=by kernel_rfl
theorem call53:callT Try.prog 53=true:=by kernel_rfl
theorem call91:callT Try.prog 91=true:=by kernel_rfl
theorem fd76_0:fldT Try.prog 76 0 0 3=true:=by kernel_rfl
theorem fd76_1:fldT Try.prog 76 1 1 3=true:=by kernel_rfl
theorem ze82:(Try.prog.info? 82).bind (·.zero)=some (.agg #[.int .i64 0,.int .i64 0,.int .i64 0,.int .i64 0]):=by kernel_rfl
theorem sc82:structT Try.prog 82 [(0,1),(1,1),(2,1),(3,1)]=true:=by kernel_rfl
theorem zt82:zeroT Try.prog 82 4=true:=by kernel_rfl
theorem sl68:slT Try.prog 68 82 4=true:=by kernel_rfl
theorem ap68:appT Try.prog 68 82 4 32=true:=by kernel_rfl
theorem call75:callT Try.prog 75=true:=by kernel_rfl
theorem ze47:(Try.prog.info? 47).bind (·.zero)=some (.agg #[.slice none 0 0,.slice none 0 0]):=by kernel_rfl
theorem sl54:slT Try.prog 54 23 2=true:=by kernel_rfl
theorem bb23:(Try.prog.info? 23).map (·.bytes)=some 16:=by kernel_rfl
theorem call58:callT Try.prog 58=true:=by kernel_rfl
theorem ze3:(Try.prog.info? 3).bind (·.zero)=some (.int .i64 0):=by kernel_rfl
theorem bb3:(Try.prog.info? 3).map (·.bytes)=some 8:=by kernel_rfl
theorem fd47_0:fldT Try.prog 47 0 0 45=true:=by kernel_rfl
theorem ct45:cellT Try.prog 45=true:=by kernel_rfl
theorem zt54:zeroT Try.prog 54 1=true:=by kernel_rfl
theorem sl45:slT Try.prog 45 54 1=true:=by kernel_rfl
theorem ap45:appT Try.prog 45 54 1 24=true:=by kernel_rfl
theorem fd47_1:fldT Try.prog 47 1 1 34=true:=by kernel_rfl
theorem ct34:cellT Try.prog 34=true:=by kernel_rfl
theorem sz45:sizeT Try.prog 45 1=true:=by kernel_rfl
theorem sz34:sizeT Try.prog 34 1=true:=by kernel_rfl
theorem at47:aggT Try.prog 47 2=true:=by kernel_rfl
theorem sz47:sizeT Try.prog 47 2=true:=by kernel_rfl
theorem call30:callT Try.prog 30=true:=by kernel_rfl
theorem sc47:structT Try.prog 47 [(0,1),(1,1)]=true:=by kernel_rfl
theorem call32:callT Try.prog 32=true:=by kernel_rfl
theorem call48:callT Try.prog 48=true:=by kernel_rfl
theorem sl57:slT Try.prog 57 62 2=true:=by kernel_rfl
theorem at62:aggT Try.prog 62 2=true:=by kernel_rfl
theorem eq62:eqAT Try.prog 62 [.i .i64,.i .i64]=true:=by kernel_rfl
theorem sl51:slT Try.prog 51 59 2=true:=by kernel_rfl
theorem fd59_0:fldT Try.prog 59 0 0 3=true:=by kernel_rfl
theorem fd59_1:fldT Try.prog 59 1 1 57=true:=by kernel_rfl
theorem ct57:cellT Try.prog 57=true:=by kernel_rfl
theorem call49:callT Try.prog 49=true:=by kernel_rfl
theorem un3:Try.prog.underlying 3=some (.int .i64):=by kernel_rfl
noncomputable abbrev mk3:MK Try.prog 3 Int:=MKI un3
theorem zv3:(Try.prog.info? 3).bind (·.zero)=some (.int .i64 0):=by kernel_rfl
noncomputable abbrev mv3:MV Try.prog 3 Int:=MVI zv3
theorem um126:Try.prog.underlying 126=some (.map 3 3):=by kernel_rfl
theorem ct54:cellT Try.prog 54=true:=by kernel_rfl
theorem call50:callT Try.prog 50=true:=by kernel_rfl
theorem ze59:(Try.prog.info? 59).bind (·.zero)=some (.agg #[.int .i64 0,.slice none 0 0]):=by kernel_rfl
theorem sc59:structT Try.prog 59 [(0,1),(1,1)]=true:=by kernel_rfl
theorem sz59:sizeT Try.prog 59 2=true:=by kernel_rfl
theorem call15:callT Try.prog 15=true:=by kernel_rfl
theorem ze62:(Try.prog.info? 62).bind (·.zero)=some (.agg #[.int .i64 0,.int .i64 0]):=by kernel_rfl
theorem sc62:structT Try.prog 62 [(0,1),(1,1)]=true:=by kernel_rfl
theorem zt62:zeroT Try.prog 62 2=true:=by kernel_rfl
theorem ap57:appT Try.prog 57 62 2 16=true:=by kernel_rfl
theorem sz57:sizeT Try.prog 57 1=true:=by kernel_rfl
theorem at59:aggT Try.prog 59 2=true:=by kernel_rfl
theorem zt59:zeroT Try.prog 59 2=true:=by kernel_rfl
theorem ap51:appT Try.prog 51 59 2 32=true:=by kernel_rfl
theorem sc90:structT Try.prog 90 [(0,4),(4,1),(5,1)]=true:=by kernel_rfl
theorem zt90:zeroT Try.prog 90 6=true:=by kernel_rfl
theorem ze93:(Try.prog.info? 93).bind (·.zero)=some (.agg #[.slice none 0 0,.string { data:=#[] },.bool false,.int .i64 0,.int .i64 0,.int .i64 0]):=by kernel_rfl
theorem sc93:structT Try.prog 93 [(0,1),(1,4),(5,1)]=true:=by kernel_rfl
theorem zt93:zeroT Try.prog 93 6=true:=by kernel_rfl
theorem sc96:structT Try.prog 96 [(0,1),(1,1),(2,1)]=true:=by kernel_rfl
theorem zt96:zeroT Try.prog 96 3=true:=by kernel_rfl
theorem ze33:(Try.prog.info? 33).bind (·.zero)=some (.agg #[.string { data:=#[] },.slice none 0 0,.slice none 0 0,.string { data:=#[] }]):=by kernel_rfl
theorem sc33:structT Try.prog 33 [(0,1),(1,1),(2,1),(3,1)]=true:=by kernel_rfl
theorem call21:callT Try.prog 21=true:=by kernel_rfl
theorem call23:callT Try.prog 23=true:=by kernel_rfl
theorem call22:callT Try.prog 22=true:=by kernel_rfl
theorem call25:callT Try.prog 25=true:=by kernel_rfl
theorem call17:callT Try.prog 17=true:=by kernel_rfl
theorem eq23:eqAT Try.prog 23 [.i .i64,.i .i64]=true:=by kernel_rfl
theorem call13:callT Try.prog 13=true:=by kernel_rfl
theorem call14:callT Try.prog 14=true:=by kernel_rfl
theorem call16:callT Try.prog 16=true:=by kernel_rfl
theorem call18:callT Try.prog 18=true:=by kernel_rfl
theorem con15 (a0:Act) (r:Int) (h:pf15 a0=some r):Con Try.prog 15 [.agg [I64 a0.Kind,I64 a0.N]] [none] (I64 r):=by
 unfold pf15 at h
 refine Con.go (N:=⟨55,[]⟩) Try.func15 q q q q (W.fin ?_)
 refine W.st [(0,.agg [I64 a0.Kind,I64 a0.N])] ?_
 refine W.sq'<|W.rx [(1,_)] (Rv (O.box (.aggF q q) q)<|Vk q<|Fi (.n q .nil)) ?_
 refine Px.sq<|W.sq' ?_
 refine W.bk<|W.sq' ?_
 obtain ⟨c3,hj,h⟩:=bnd h
 refine W.rx [(1,.obj [I64 a0.Kind,I64 a0.N]),(3,BB c3)] ?_ ?_
 ·refine Rv (O.fO q (.obj q) fd23_0 q)<|Rv (O.ldO (y:=I64 a0.Kind) q (.ptr q) ct3 q q)<|Rv (O.eql (.lit q) (.k q))<|Rv (O.mv (.lit q)) ?_
  rcases cnd hj with ⟨hb1,hj⟩ | ⟨hb1,hj⟩
  ·refine RunL.v (O.fO q (.obj q) fd23_1 q) q q (.yb q q hb1)<|RunL.v (O.ldO (y:=I64 a0.N) q (.ptr q) ct3 q q) q q (.yb q q hb1)<|RunL.v (O.geq (.lit q) (.k q)) q q (.yb q q hb1)<|Rv (O.pkT (.lit q) hb1 (.lit q))<|Rv (O.mv (.lit q)) ?_
   rcases cnd hj with ⟨hb2,hj⟩ | ⟨hb2,hj⟩
   ·obtain rfl:=sm hj
    exact RunL.v (O.fO q (.obj q) fd23_1 q) q q (.yb q q hb2)<|RunL.v (O.ldO (y:=I64 a0.N) q (.ptr q) ct3 q q) q q (.yb q q hb2)<|RunL.v (O.lss (.lit q) (.k q)) q q (.yb q q hb2)<|Rv (O.pkT (.lit q) hb2 (.lit q))<|Va q<|Fi (tn2 q q)
   ·obtain rfl:=sm hj
    exact RunL.ps q q hb2 q q<|RunL.ps q q hb2 q q<|RunL.ps q q hb2 q q<|Rv (O.pkF (.lit q) hb2 (.k q))<|Va q<|Fi (tn2 q q)
  ·obtain rfl:=sm hj
   exact RunL.ps q q hb1 q q<|RunL.ps q q hb1 q q<|RunL.ps q q hb1 q q<|Rv (O.pkF (.lit q) hb1 (.k q))<|Vm q<|RunL.ps q q q q q<|RunL.ps q q q q q<|RunL.ps q q q q q<|Rv (O.pkF (.lit q) q (.k q))<|Va q<|Fi (tn2 q q)
 refine Px.sq<|W.cnd q (fun hb4=>?_) (fun hb4=>?_)
 ·replace h:=cndT hb4 h
  refine W.sq'<|W.rx [(2,_)] (Rv (O.fO q (.obj q) fd23_1 q)<|Rv (O.ldO (y:=I64 a0.N) q (.ptr q) ct3 q q)<|Rv (O.add (.lit q) (.k q))<|Va q<|Fi (.n q .nil)) ?_
  refine Px.sq<|W.rt ?_
  refine Px.bkR ?_
  refine Px.sqR ?_
  obtain rfl:=sm h
  exact Px.fin (Fin.ro (.f q q .nil) q (ode (by kernel_rfl)) (.no .nil) q (.inr q))
 ·replace h:=cndF hb4 h
  refine W.sq' ?_
  obtain ⟨c7,hj,h⟩:=bnd h
  refine W.rx [(1,.obj [I64 a0.Kind,I64 a0.N]),(20,BB c7)] ?_ ?_
  ·refine Rv (O.fO q (.obj q) fd23_0 q)<|Rv (O.ldO (y:=I64 a0.Kind) q (.ptr q) ct3 q q)<|Rv (O.eql (.lit q) (.k q))<|Rv (O.mv (.lit q)) ?_
   rcases cnd hj with ⟨hb5,hj⟩ | ⟨hb5,hj⟩
   ·refine RunL.v (O.fO q (.obj q) fd23_1 q) q q (.yb q q hb5)<|RunL.v (O.ldO (y:=I64 a0.N) q (.ptr q) ct3 q q) q q (.yb q q hb5)<|RunL.v (O.gtr (.lit q) (.k q)) q q (.yb q q hb5)<|Rv (O.pkT (.lit q) hb5 (.lit q))<|Rv (O.mv (.lit q)) ?_
    rcases cnd hj with ⟨hb6,hj⟩ | ⟨hb6,hj⟩
    ·obtain rfl:=sm hj
     exact RunL.v (O.fO q (.obj q) fd23_1 q) q q (.yb q q hb6)<|RunL.v (O.ldO (y:=I64 a0.N) q (.ptr q) ct3 q q) q q (.yb q q hb6)<|RunL.v (O.lss (.lit q) (.k q)) q q (.yb q q hb6)<|Rv (O.pkT (.lit q) hb6 (.lit q))<|Va q<|Fi (tn2 q q)
    ·obtain rfl:=sm hj
     exact RunL.ps q q hb6 q q<|RunL.ps q q hb6 q q<|RunL.ps q q hb6 q q<|Rv (O.pkF (.lit q) hb6 (.k q))<|Va q<|Fi (tn2 q q)
   ·obtain rfl:=sm hj
    exact RunL.ps q q hb5 q q<|RunL.ps q q hb5 q q<|RunL.ps q q hb5 q q<|Rv (O.pkF (.lit q) hb5 (.k q))<|Vm q<|RunL.ps q q q q q<|RunL.ps q q q q q<|RunL.ps q q q q q<|Rv (O.pkF (.lit q) q (.k q))<|Va q<|Fi (tn2 q q)
  refine Px.sq<|W.cnd q (fun hb8=>?_) (fun hb8=>?_)
  ·replace h:=cndT hb8 h
   refine W.sq'<|W.rx [(2,_)] (Rv (O.fO q (.obj q) fd23_1 q)<|Rv (O.ldO (y:=I64 a0.N) q (.ptr q) ct3 q q)<|Rv (O.neg (.lit q))<|Va q<|Fi (.n q .nil)) ?_
   refine Px.sq<|W.rt ?_
   refine Px.bkR ?_
   refine Px.sqR ?_
   obtain rfl:=sm h
   exact Px.fin (Fin.ro (.f q q .nil) q (ode (by kernel_rfl)) (.no .nil) q (.inr q))
  ·replace h:=cndF hb8 h
   refine W.sq' ?_
   obtain ⟨c10,hj,h⟩:=bnd h
   refine W.rx [(1,.obj [I64 a0.Kind,I64 a0.N]),(37,BB c10)] ?_ ?_
   ·refine Rv (O.fO q (.obj q) fd23_0 q)<|Rv (O.ldO (y:=I64 a0.Kind) q (.ptr q) ct3 q q)<|Rv (O.eql (.lit q) (.k q))<|Rv (O.mv (.lit q)) ?_
    rcases cnd hj with ⟨hb9,hj⟩ | ⟨hb9,hj⟩
    ·obtain rfl:=sm hj
     exact RunL.v (O.fO q (.obj q) fd23_1 q) q q (.yb q q hb9)<|RunL.v (O.ldO (y:=I64 a0.N) q (.ptr q) ct3 q q) q q (.yb q q hb9)<|RunL.v (O.eql (.lit q) (.k q)) q q (.yb q q hb9)<|Rv (O.pkT (.lit q) hb9 (.lit q))<|Va q<|Fi (tn2 q q)
    ·obtain rfl:=sm hj
     exact RunL.ps q q hb9 q q<|RunL.ps q q hb9 q q<|RunL.ps q q hb9 q q<|Rv (O.pkF (.lit q) hb9 (.k q))<|Va q<|Fi (tn2 q q)
   refine Px.sq<|W.cnd q (fun hb11=>?_) (fun hb11=>?_)
   ·replace h:=cndT hb11 h
    refine W.sq'<|W.rx [(2,_)] (Vk q<|Fi (.n q .nil)) ?_
    refine Px.sq<|W.rt ?_
    refine Px.bkR ?_
    refine Px.sqR ?_
    obtain rfl:=sm h
    exact Px.fin (Fin.ro (.f q q .nil) q (ode (by kernel_rfl)) (.no .nil) q (.inr q))
   ·replace h:=cndF hb11 h
    refine W.sq' ?_
    obtain ⟨c13,hj,h⟩:=bnd h
    refine W.rx [(46,BB c13)] ?_ ?_
    ·refine Rv (O.fO q (.obj q) fd23_0 q)<|Rv (O.ldO (y:=I64 a0.Kind) q (.ptr q) ct3 q q)<|Rv (O.eql (.lit q) (.k q))<|Rv (O.mv (.lit q)) ?_
     rcases cnd hj with ⟨hb12,hj⟩ | ⟨hb12,hj⟩
     ·obtain rfl:=sm hj
      exact RunL.v (O.fO q (.obj q) fd23_1 q) q q (.yb q q hb12)<|RunL.v (O.ldO (y:=I64 a0.N) q (.ptr q) ct3 q q) q q (.yb q q hb12)<|RunL.v (O.eql (.lit q) (.k q)) q q (.yb q q hb12)<|Rv (O.pkT (.lit q) hb12 (.lit q))<|Va q<|Fi (.n q .nil)
     ·obtain rfl:=sm hj
      exact RunL.ps q q hb12 q q<|RunL.ps q q hb12 q q<|RunL.ps q q hb12 q q<|Rv (O.pkF (.lit q) hb12 (.k q))<|Va q<|Fi (.n q .nil)
    refine Px.sq<|W.cnd q (fun hb14=>?_) (fun hb14=>?_)
    ·replace h:=cndT hb14 h
     refine W.sq'<|W.rx [(2,_)] (Vk q<|Fi (.n q .nil)) ?_
     refine Px.sq<|W.rt ?_
     refine Px.bkR ?_
     refine Px.sqR ?_
     obtain rfl:=sm h
     exact Px.fin (Fin.ro (.f q q .nil) q (ode (by kernel_rfl)) (.no .nil) q (.inr q))
    ·replace h:=cndF hb14 h
     refine W.sk<|Px.bk ?_
     refine Px.sq<|W.sq' ?_
     refine W.rx [(2,_)] (Vk q<|Fi (.n q .nil)) ?_
     refine Px.sq<|W.rt ?_
     obtain rfl:=sm h
     exact Px.fin (Fin.ro (.f q q .nil) q (ode (by kernel_rfl)) (.no .nil) q (.inr q))
theorem con17 (a0:Int) (r:Act) (h:pf17 a0=some r):Con Try.prog 17 [I64 a0] [none] (.agg [I64 r.Kind,I64 r.N]):=by
 unfold pf17 at h
 refine Con.go (N:=⟨32,[]⟩) Try.func17 q q q q (W.fin ?_)
 refine W.st [(0,I64 a0)] ?_
 refine W.sq'<|W.rx [(0,_),(2,_)] (Rv (O.al (cs:=[I64 0,I64 0]) ze23 q q)<|Fi (tn2 q q)) ?_
 refine Px.sq<|W.sq' ?_
 refine W.bk<|W.sq' ?_
 obtain ⟨c2,hj,h⟩:=bnd h
 refine W.rx [(0,I64 a0),(2,.obj [I64 0,I64 0]),(3,BB c2)] ?_ ?_
 ·refine Vm q<|Rv (O.gtr (.lit q) (.k q))<|Rv (O.mv (.lit q)) ?_
  rcases cnd hj with ⟨hb1,hj⟩ | ⟨hb1,hj⟩
  ·obtain rfl:=sm hj
   exact RunL.v (O.mv (.lit q)) q q (.yb q q hb1)<|RunL.v (O.leq (.lit q) (.k q)) q q (.yb q q hb1)<|Rv (O.pkT (.lit q) hb1 (.lit q))<|Va q<|Fi (tn3 q q q)
  ·obtain rfl:=sm hj
   exact RunL.ps q q hb1 q q<|RunL.ps q q hb1 q q<|Rv (O.pkF (.lit q) hb1 (.k q))<|Va q<|Fi (tn3 q q q)
 refine Px.sq<|W.cnd q (fun hb3=>?_) (fun hb3=>?_)
 ·replace h:=cndT hb3 h
  refine W.sq'<|W.rx [(2,_)] (Vm q<|Rv (O.sub (.lit q) (.k q))<|Rv (O.bu (cs:=[I64 1,I64 (w64 (a0 - 1))]) sc23 ze23 q q q)<|RunL.sO (G2:=[(2,_)]) (cs2:=[I64 1,I64 (w64 (a0 - 1))]) q (.obj q) (.aggF q q) q sz23 q q q q (.b q .nil)<|Fi (.n q .nil)) ?_
  refine Px.sq<|W.rt ?_
  refine Px.bkR ?_
  refine Px.sqR ?_
  obtain rfl:=sm h
  exact Px.fin (Fin.ro (.c (ys0:=[I64 1,I64 (w64 (a0 - 1))]) q at23 q q q (.f q (.f q .nil)) .nil) q (ode (by kernel_rfl)) (.no .nil) q (.inr q))
 ·replace h:=cndF hb3 h
  refine W.sq' ?_
  obtain ⟨c5,hj,h⟩:=bnd h
  refine W.rx [(0,I64 a0),(2,.obj [I64 0,I64 0]),(13,BB c5)] ?_ ?_
  ·refine Vm q<|Rv (O.lss (.lit q) (.k q))<|Rv (O.mv (.lit q)) ?_
   rcases cnd hj with ⟨hb4,hj⟩ | ⟨hb4,hj⟩
   ·obtain rfl:=sm hj
    exact RunL.v (O.mv (.lit q)) q q (.yb q q hb4)<|RunL.v (O.gtr (.lit q) (.k q)) q q (.yb q q hb4)<|Rv (O.pkT (.lit q) hb4 (.lit q))<|Va q<|Fi (tn3 q q q)
   ·obtain rfl:=sm hj
    exact RunL.ps q q hb4 q q<|RunL.ps q q hb4 q q<|Rv (O.pkF (.lit q) hb4 (.k q))<|Va q<|Fi (tn3 q q q)
  refine Px.sq<|W.cnd q (fun hb6=>?_) (fun hb6=>?_)
  ·replace h:=cndT hb6 h
   refine W.sq'<|W.rx [(2,_)] (Vm q<|Rv (O.neg (.lit q))<|Rv (O.bu (cs:=[I64 2,I64 (w64 (-a0))]) sc23 ze23 q q q)<|RunL.sO (G2:=[(2,_)]) (cs2:=[I64 2,I64 (w64 (-a0))]) q (.obj q) (.aggF q q) q sz23 q q q q (.b q .nil)<|Fi (.n q .nil)) ?_
   refine Px.sq<|W.rt ?_
   refine Px.bkR ?_
   refine Px.sqR ?_
   obtain rfl:=sm h
   exact Px.fin (Fin.ro (.c (ys0:=[I64 2,I64 (w64 (-a0))]) q at23 q q q (.f q (.f q .nil)) .nil) q (ode (by kernel_rfl)) (.no .nil) q (.inr q))
  ·replace h:=cndF hb6 h
   refine W.sq'<|W.rx [(0,_),(2,_),(23,_)] (Vm q<|Rv (O.eql (.lit q) (.k q))<|Va q<|Fi (tn3 q q q)) ?_
   refine Px.sq<|W.cnd q (fun hb7=>?_) (fun hb7=>?_)
   ·replace h:=cndT hb7 h
    refine W.sq'<|W.rx [(2,_)] (Rv (O.bu (cs:=[I64 3,I64 0]) sc23 ze23 q q q)<|RunL.sO (G2:=[(2,_)]) (cs2:=[I64 3,I64 0]) q (.obj q) (.aggF q q) q sz23 q q q q (.b q .nil)<|Fi (.n q .nil)) ?_
    refine Px.sq<|W.rt ?_
    refine Px.bkR ?_
    refine Px.sqR ?_
    obtain rfl:=sm h
    exact Px.fin (Fin.ro (.c (ys0:=[I64 3,I64 0]) q at23 q q q (.f q (.f q .nil)) .nil) q (ode (by kernel_rfl)) (.no .nil) q (.inr q))
   ·replace h:=cndF hb7 h
    refine W.sq'<|W.rx [(2,_),(27,_)] (Vm q<|Rv (O.eql (.lit q) (.k q))<|Va q<|Fi (tn2 q q)) ?_
    refine Px.sq<|W.cnd q (fun hb8=>?_) (fun hb8=>?_)
    ·replace h:=cndT hb8 h
     refine W.sq'<|W.rx [(2,_)] (Rv (O.bu (cs:=[I64 4,I64 0]) sc23 ze23 q q q)<|RunL.sO (G2:=[(2,_)]) (cs2:=[I64 4,I64 0]) q (.obj q) (.aggF q q) q sz23 q q q q (.b q .nil)<|Fi (.n q .nil)) ?_
     refine Px.sq<|W.rt ?_
     refine Px.bkR ?_
     refine Px.sqR ?_
     obtain rfl:=sm h
     exact Px.fin (Fin.ro (.c (ys0:=[I64 4,I64 0]) q at23 q q q (.f q (.f q .nil)) .nil) q (ode (by kernel_rfl)) (.no .nil) q (.inr q))
    ·replace h:=cndF hb8 h
     refine W.sk<|Px.bk ?_
     refine Px.sq<|W.sq' ?_
     refine W.rx [(2,_)] (Rv (O.bu (cs:=[I64 0,I64 0]) sc23 ze23 q q q)<|RunL.sO (G2:=[(2,_)]) (cs2:=[I64 0,I64 0]) q (.obj q) (.aggF q q) q sz23 q q q q (.b q .nil)<|Fi (.n q .nil)) ?_
     refine Px.sq<|W.rt ?_
     obtain rfl:=sm h
     exact Px.fin (Fin.ro (.c (ys0:=[I64 0,I64 0]) q at23 q q q (.f q (.f q .nil)) .nil) q (ode (by kernel_rfl)) (.no .nil) q (.inr q))
theorem con121 (a0:Int) (r:Bool) (h:pf121 a0=some r):Con Try.prog 121 [U8 a0] [none] (BB r):=by
 unfold pf121 at h
 refine Con.go (N:=⟨21,[]⟩) Try.func121 q q q q (W.fin ?_)
 refine W.st [(0,U8 a0)] ?_
 refine W.sq'<|W.rx [(0,_)] (Vk q<|Fi (.n q .nil)) ?_
 refine Px.sq<|W.sq' ?_
 obtain ⟨c7,hj,h⟩:=bnd h
 refine W.rx [(2,BB c7)] ?_ ?_
 ·refine Vm q<|Rv (O.geq (.lit q) (.k q))<|Rv (O.mv (.lit q)) ?_
  rcases cnd hj with ⟨hb1,hj⟩ | ⟨hb1,hj⟩
  ·refine RunL.v (O.mv (.lit q)) q q (.yb q q hb1)<|RunL.v (O.leq (.lit q) (.k q)) q q (.yb q q hb1)<|Rv (O.pkT (.lit q) hb1 (.lit q))<|Rv (O.mv (.lit q)) ?_
   rcases cnd hj with ⟨hb2,hj⟩ | ⟨hb2,hj⟩
   ·obtain rfl:=sm hj
    exact RunL.ps q q hb2 q q<|RunL.ps q q hb2 q q<|RunL.ps q q hb2 q q<|RunL.pu q q q q<|RunL.pu q q q q<|RunL.ps q q hb2 q q<|Rv (O.pkT (.lit q) hb2 (.k q))<|Vm q<|RunL.ps q q q q q<|RunL.ps q q q q q<|Rv (O.pkT (.lit q) q (.k q))<|Va q<|Fi (.n q .nil)
   ·refine RunL.v (O.mv (.lit q)) q q (.yb q q hb2)<|RunL.v (O.geq (.lit q) (.k q)) q q (.yb q q hb2)<|RunL.v (O.mv (.lit q)) q q (.yb q q hb2) ?_
    rcases cnd hj with ⟨hb3,hj⟩ | ⟨hb3,hj⟩
    ·refine RunL.v (O.mv (.lit q)) q q (.yb q q hb3)<|RunL.v (O.leq (.lit q) (.k q)) q q (.yb q q hb3)<|RunL.v (O.pkT (.lit q) hb3 (.lit q)) q q (.yb q q hb2)<|Rv (O.pkF (.lit q) hb2 (.lit q))<|Rv (O.mv (.lit q)) ?_
     rcases cnd hj with ⟨hb4,hj⟩ | ⟨hb4,hj⟩
     ·obtain rfl:=sm hj
      exact RunL.ps q q hb4 q q<|RunL.ps q q hb4 q q<|Rv (O.pkT (.lit q) hb4 (.k q))<|Va q<|Fi (.n q .nil)
     ·obtain rfl:=sm hj
      exact RunL.v (O.mv (.lit q)) q q (.yb q q hb4)<|RunL.v (O.eql (.lit q) (.k q)) q q (.yb q q hb4)<|Rv (O.pkF (.lit q) hb4 (.lit q))<|Va q<|Fi (.n q .nil)
    ·obtain rfl:=sm hj
     exact RunL.ps q q hb3 q q<|RunL.ps q q hb3 q q<|RunL.v (O.pkF (.lit q) hb3 (.k q)) q q (.yb q q hb2)<|Rv (O.pkF (.lit q) hb2 (.lit q))<|Vm q<|RunL.v (O.mv (.lit q)) q q (.yb q q q)<|RunL.v (O.eql (.lit q) (.k q)) q q (.yb q q q)<|Rv (O.pkF (.lit q) q (.lit q))<|Va q<|Fi (.n q .nil)
  ·refine RunL.ps q q hb1 q q<|RunL.ps q q hb1 q q<|Rv (O.pkF (.lit q) hb1 (.k q))<|Vm q<|RunL.v (O.mv (.lit q)) q q (.yb q q q)<|RunL.v (O.geq (.lit q) (.k q)) q q (.yb q q q)<|RunL.v (O.mv (.lit q)) q q (.yb q q q) ?_
   rcases cnd hj with ⟨hb5,hj⟩ | ⟨hb5,hj⟩
   ·refine RunL.v (O.mv (.lit q)) q q (.yb q q hb5)<|RunL.v (O.leq (.lit q) (.k q)) q q (.yb q q hb5)<|RunL.v (O.pkT (.lit q) hb5 (.lit q)) q q (.yb q q q)<|Rv (O.pkF (.lit q) q (.lit q))<|Rv (O.mv (.lit q)) ?_
    rcases cnd hj with ⟨hb6,hj⟩ | ⟨hb6,hj⟩
    ·obtain rfl:=sm hj
     exact RunL.ps q q hb6 q q<|RunL.ps q q hb6 q q<|Rv (O.pkT (.lit q) hb6 (.k q))<|Va q<|Fi (.n q .nil)
    ·obtain rfl:=sm hj
     exact RunL.v (O.mv (.lit q)) q q (.yb q q hb6)<|RunL.v (O.eql (.lit q) (.k q)) q q (.yb q q hb6)<|Rv (O.pkF (.lit q) hb6 (.lit q))<|Va q<|Fi (.n q .nil)
   ·obtain rfl:=sm hj
    exact RunL.ps q q hb5 q q<|RunL.ps q q hb5 q q<|RunL.v (O.pkF (.lit q) hb5 (.k q)) q q (.yb q q q)<|Rv (O.pkF (.lit q) q (.lit q))<|Vm q<|RunL.v (O.mv (.lit q)) q q (.yb q q q)<|RunL.v (O.eql (.lit q) (.k q)) q q (.yb q q q)<|Rv (O.pkF (.lit q) q (.lit q))<|Va q<|Fi (.n q .nil)
 refine Px.sq<|W.rt ?_
 obtain rfl:=sm h
 exact Px.fin (Fin.ro (.f q q .nil) q (ode (by kernel_rfl)) (.no .nil) q (.inr q))
theorem con122 (a0:Int) (r:Bool) (h:pf122 a0=some r):Con Try.prog 122 [U8 a0] [none] (BB r):=by
 unfold pf122 at h
 refine Con.go (N:=⟨9,[]⟩) Try.func122 q q q q (W.fin ?_)
 refine W.st [(0,U8 a0)] ?_
 refine W.sq'<|W.rx [(0,_)] (Vk q<|Fi (.n q .nil)) ?_
 refine Px.sq<|W.sq' ?_
 obtain ⟨c2,hj,h⟩:=bnd h
 refine W.rx [(2,BB c2)] ?_ ?_
 ·refine Vm q<|Rv (O.geq (.lit q) (.k q))<|Rv (O.mv (.lit q)) ?_
  rcases cnd hj with ⟨hb1,hj⟩ | ⟨hb1,hj⟩
  ·obtain rfl:=sm hj
   exact RunL.v (O.mv (.lit q)) q q (.yb q q hb1)<|RunL.v (O.leq (.lit q) (.k q)) q q (.yb q q hb1)<|Rv (O.pkT (.lit q) hb1 (.lit q))<|Va q<|Fi (.n q .nil)
  ·obtain rfl:=sm hj
   exact RunL.ps q q hb1 q q<|RunL.ps q q hb1 q q<|Rv (O.pkF (.lit q) hb1 (.k q))<|Va q<|Fi (.n q .nil)
 refine Px.sq<|W.rt ?_
 obtain rfl:=sm h
 exact Px.fin (Fin.ro (.f q q .nil) q (ode (by kernel_rfl)) (.no .nil) q (.inr q))
theorem con117 (a0:ByteArray) (a1:Int) (r:Int) (h:pf117 a0 a1=some r):Con Try.prog 117 [SS a0,I64 a1] [none,none] (I64 r):=by
 unfold pf117 at h
 refine Con.go (N:=⟨43,[]⟩) Try.func117 q q q q (W.fin ?_)
 refine W.st [(0,SS a0),(1,I64 a1)] ?_
 refine W.sq'<|W.rx [(0,_),(1,_)] (Vk q<|Fi (tn2 q q)) ?_
 refine Px.sq<|W.sq' ?_
 refine W.rx [(0,_),(1,_),(5,_)] (Vk q<|Fi (tn3 q q q)) ?_
 refine Px.sq<|W.sq' ?_
 refine W.bk ?_
 obtain ⟨x2,hl,h⟩:=bnd h
 refine W.tr (G1:=[(0,_),(1,_),(5,_)]) (tn3 q q q) ?_
 refine W.lp1 (s:=0) (fun (s1:Int)=>[(0,SS a0),(1,I64 a1),(5,I64 s1)]) 0 (fun (x2:Int)=>[(5,I64 x2)]) hl (fun s1 o h=>?_) ?_
 ·clear hl
  refine W.sq'<|W.sq' ?_
  obtain ⟨c13,hj,h⟩:=bnd h
  refine W.rx [(0,SS a0),(1,I64 a1),(5,I64 s1),(39,BB c13)] ?_ ?_
  ·refine Vm q<|Vm q<|Rv (O.add (.lit q) (.lit q))<|Vm q<|Rv (O.lenS (.lit q) st9)<|Rv (O.lss (.lit q) (.lit q))<|Rv (O.mv (.lit q)) ?_
   rcases cnd hj with ⟨hb4,hj⟩ | ⟨hb4,hj⟩
   ·refine RunL.v (O.mv (.lit q)) q q (.yb q q hb4)<|RunL.v (O.mv (.lit q)) q q (.yb q q hb4)<|RunL.v (O.mv (.lit q)) q q (.yb q q hb4)<|RunL.v (O.add (.lit q) (.lit q)) q q (.yb q q hb4) ?_
    obtain ⟨x5,hx5,hj⟩:=bnd hj
    refine RunL.v (O.at' (.lit q) (.lit q) st9 hx5) q q (.yb q q hb4) ?_
    obtain ⟨x6,hx6,hj⟩:=bnd hj
    refine RunL.c (PC.go (.cc (.lit q) .nil) (con121 x5 _ hx6) call121 q) q q (.yb q q hb4)<|RunL.v (O.mv (.lit q)) q q (.yb q q hb4) ?_
    rcases cnd hj with ⟨hb7,hj⟩ | ⟨hb7,hj⟩
    ·obtain rfl:=sm hj
     exact RunL.ps q q hb7 q q<|RunL.ps q q hb7 q q<|RunL.ps q q hb7 q q<|RunL.pu q q q q<|RunL.pu q q q q<|RunL.pu q q q q<|RunL.pu q q q q<|RunL.pu q q q q<|RunL.pu q q q q<|RunL.pu q q q q<|RunL.pu q q q q<|RunL.pu q q q q<|RunL.pu q q q q<|RunL.pu q q q q<|RunL.pu q q q q<|RunL.pu q q q q<|RunL.pu q q q q<|RunL.ps q q hb7 q q<|RunL.v (O.pkT (.lit q) hb7 (.k q)) q q (.yb q q hb4)<|Rv (O.pkT (.lit q) hb4 (.lit q))<|Fi (tn4 q q q q)
    ·refine RunL.v (O.mv (.lit q)) q q (.yb q q hb7)<|RunL.v (O.gtr (.lit q) (.k q)) q q (.yb q q hb7)<|RunL.v (O.mv (.lit q)) q q (.yb q q hb7) ?_
     rcases cnd hj with ⟨hb8,hj⟩ | ⟨hb8,hj⟩
     ·refine RunL.v (O.mv (.lit q)) q q (.yb q q hb8)<|RunL.v (O.mv (.lit q)) q q (.yb q q hb8)<|RunL.v (O.mv (.lit q)) q q (.yb q q hb8)<|RunL.v (O.add (.lit q) (.lit q)) q q (.yb q q hb8) ?_
      obtain ⟨x9,hx9,hj⟩:=bnd hj
      refine RunL.v (O.at' (.lit q) (.lit q) st9 hx9) q q (.yb q q hb8) ?_
      obtain ⟨x10,hx10,hj⟩:=bnd hj
      refine RunL.c (PC.go (.cc (.lit q) .nil) (con122 x9 _ hx10) call122 q) q q (.yb q q hb8)<|RunL.v (O.mv (.lit q)) q q (.yb q q hb8) ?_
      rcases cnd hj with ⟨hb11,hj⟩ | ⟨hb11,hj⟩
      ·obtain rfl:=sm hj
       exact RunL.ps q q hb11 q q<|RunL.ps q q hb11 q q<|RunL.ps q q hb11 q q<|RunL.ps q q hb11 q q<|RunL.ps q q hb11 q q<|RunL.ps q q hb11 q q<|RunL.v (O.pkT (.lit q) hb11 (.k q)) q q (.yb q q hb8)<|RunL.v (O.pkT (.lit q) hb8 (.lit q)) q q (.yb q q hb7)<|RunL.v (O.pkF (.lit q) hb7 (.lit q)) q q (.yb q q hb4)<|Rv (O.pkT (.lit q) hb4 (.lit q))<|Fi (tn4 q q q q)
      ·refine RunL.v (O.mv (.lit q)) q q (.yb q q hb11)<|RunL.v (O.mv (.lit q)) q q (.yb q q hb11)<|RunL.v (O.mv (.lit q)) q q (.yb q q hb11)<|RunL.v (O.add (.lit q) (.lit q)) q q (.yb q q hb11) ?_
       obtain ⟨x12,hx12,hj⟩:=bnd hj
       obtain rfl:=sm hj
       exact RunL.v (O.at' (.lit q) (.lit q) st9 hx12) q q (.yb q q hb11)<|RunL.v (O.eql (.lit q) (.k q)) q q (.yb q q hb11)<|RunL.v (O.pkF (.lit q) hb11 (.lit q)) q q (.yb q q hb8)<|RunL.v (O.pkT (.lit q) hb8 (.lit q)) q q (.yb q q hb7)<|RunL.v (O.pkF (.lit q) hb7 (.lit q)) q q (.yb q q hb4)<|Rv (O.pkT (.lit q) hb4 (.lit q))<|Fi (tn4 q q q q)
     ·obtain rfl:=sm hj
      exact RunL.ps q q hb8 q q<|RunL.ps q q hb8 q q<|RunL.ps q q hb8 q q<|RunL.ps q q hb8 q q<|RunL.ps q q hb8 q q<|RunL.ps q q hb8 q q<|RunL.ps q q hb8 q q<|RunL.pu q q q q<|RunL.pu q q q q<|RunL.pu q q q q<|RunL.pu q q q q<|RunL.pu q q q q<|RunL.pu q q q q<|RunL.ps q q hb8 q q<|RunL.v (O.pkF (.lit q) hb8 (.k q)) q q (.yb q q hb7)<|RunL.v (O.pkF (.lit q) hb7 (.lit q)) q q (.yb q q hb4)<|Rv (O.pkT (.lit q) hb4 (.lit q))<|Fi (tn4 q q q q)
   ·obtain rfl:=sm hj
    exact RunL.ps q q hb4 q q<|RunL.ps q q hb4 q q<|RunL.ps q q hb4 q q<|RunL.ps q q hb4 q q<|RunL.ps q q hb4 q q<|RunL.ps q q hb4 q q<|RunL.ps q q hb4 q q<|RunL.pu q q q q<|RunL.pu q q q q<|RunL.pu q q q q<|RunL.pu q q q q<|RunL.pu q q q q<|RunL.pu q q q q<|RunL.pu q q q q<|RunL.pu q q q q<|RunL.pu q q q q<|RunL.pu q q q q<|RunL.pu q q q q<|RunL.pu q q q q<|RunL.pu q q q q<|RunL.pu q q q q<|RunL.pu q q q q<|RunL.pu q q q q<|RunL.pu q q q q<|RunL.pu q q q q<|RunL.ps q q hb4 q q<|Rv (O.pkF (.lit q) hb4 (.k q))<|Fi (tn4 q q q q)
  refine Px.sq<|W.cnd q (fun hb14=>?_) (fun hb14=>?_)
  ·replace h:=cndT hb14 h
   refine W.sk<|Px.sq ?_
   refine W.bk<|W.rx [(0,_),(1,_),(5,_)] (Vm q<|Rv (O.add (.lit q) (.k q))<|RunL.re (G1:=[(0,_),(1,_),(41,_)]) (tn3 q q q)<|Va q<|Fi (tn3 q q q)) ?_
   refine Px.bk ?_
   obtain rfl:=sm h
   exact Px.go (tn3 q q q)
  ·replace h:=cndF hb14 h
   refine W.xi ?_
   refine Px.sqE ?_
   obtain rfl:=sm h
   exact Px.x1 (.n q .nil)
 refine Px.bkH ?_
 refine Px.sq<|W.sq' ?_
 refine W.rx [(4,_)] (Vm q<|Va q<|Fi (.n q .nil)) ?_
 refine Px.sq<|W.rt ?_
 obtain rfl:=sm h
 exact Px.fin (Fin.ro (.f q q .nil) q (ode (by kernel_rfl)) (.no (.no .nil)) q (.inr q))
theorem con111 (a0:ByteArray) (r:Bool) (h:pf111 a0=some r):Con Try.prog 111 [SS a0] [none] (BB r):=by
 unfold pf111 at h
 refine Con.go (N:=⟨18,[]⟩) Try.func111 q q q q (W.fin ?_)
 refine W.st [(0,SS a0)] ?_
 refine W.sq'<|W.rx [(0,_)] (Vk q<|Fi (.n q .nil)) ?_
 refine Px.sq<|W.sq' ?_
 obtain ⟨c4,hj,h⟩:=bnd h
 refine W.rx [(2,BB c4)] ?_ ?_
 ·refine Vm q<|Rv (O.lenS (.lit q) st9)<|Rv (O.geq (.lit q) (.k q))<|Rv (O.mv (.lit q)) ?_
  rcases cnd hj with ⟨hb1,hj⟩ | ⟨hb1,hj⟩
  ·refine RunL.v (O.mv (.lit q)) q q (.yb q q hb1)<|RunL.v (O.lenS (.lit q) st9) q q (.yb q q hb1)<|RunL.v (O.leq (.lit q) (.k q)) q q (.yb q q hb1)<|Rv (O.pkT (.lit q) hb1 (.lit q))<|Rv (O.mv (.lit q)) ?_
   rcases cnd hj with ⟨hb2,hj⟩ | ⟨hb2,hj⟩
   ·refine RunL.v (O.mv (.lit q)) q q (.yb q q hb2) ?_
    obtain ⟨x3,hx3,hj⟩:=bnd hj
    obtain rfl:=sm hj
    exact RunL.c (PC.go (.cc (.lit q) (.cc (.k q) .nil)) (con117 a0 0 _ hx3) call117 q) q q (.yb q q hb2)<|RunL.v (O.mv (.lit q)) q q (.yb q q hb2)<|RunL.v (O.lenS (.lit q) st9) q q (.yb q q hb2)<|RunL.v (O.eql (.lit q) (.lit q)) q q (.yb q q hb2)<|Rv (O.pkT (.lit q) hb2 (.lit q))<|Va q<|Fi (.n q .nil)
   ·obtain rfl:=sm hj
    exact RunL.ps q q hb2 q q<|RunL.ps q q hb2 q q<|RunL.ps q q hb2 q q<|RunL.ps q q hb2 q q<|RunL.ps q q hb2 q q<|Rv (O.pkF (.lit q) hb2 (.k q))<|Va q<|Fi (.n q .nil)
  ·obtain rfl:=sm hj
   exact RunL.ps q q hb1 q q<|RunL.ps q q hb1 q q<|RunL.ps q q hb1 q q<|Rv (O.pkF (.lit q) hb1 (.k q))<|Vm q<|RunL.ps q q q q q<|RunL.ps q q q q q<|RunL.ps q q q q q<|RunL.ps q q q q q<|RunL.ps q q q q q<|Rv (O.pkF (.lit q) q (.k q))<|Va q<|Fi (.n q .nil)
 refine Px.sq<|W.rt ?_
 obtain rfl:=sm h
 exact Px.fin (Fin.ro (.f q q .nil) q (ode (by kernel_rfl)) (.no .nil) q (.inr q))
theorem con120 (a0:Int) (r:Int × Bool) (h:pf120 a0=some r):Con Try.prog 120 [U8 a0] [none] (.tup [U8 r.1,BB r.2]):=by
 unfold pf120 at h
 refine Con.go (N:=⟨21,[]⟩) Try.func120 q q q q (W.fin ?_)
 refine W.st [(0,U8 a0)] ?_
 refine W.sq'<|W.rx [(0,_)] (Vk q<|Vk q<|Fi (.n q .nil)) ?_
 refine Px.sq<|W.sq' ?_
 refine W.sq'<|W.rx [(0,_),(4,_)] (Vm q<|Fi (tn2 q q)) ?_
 refine Px.sq<|W.bk ?_
 refine W.sq'<|W.rx [(0,_),(4,_),(5,_)] (Rv (O.eql (.lit q) (.k q))<|Va q<|Fi (tn3 q q q)) ?_
 refine Px.sq<|W.cnd q (fun hb1=>?_) (fun hb1=>?_)
 ·replace h:=cndT hb1 h
  refine W.sq'<|W.rx [(2,_),(3,_)] (Vk q<|Vk q<|Fi (tn2 q q)) ?_
  refine Px.sq<|W.rt ?_
  refine Px.bkR ?_
  refine Px.sqR ?_
  obtain rfl:=sm h
  exact Px.fin (Fin.ro (.f q q (.f q q .nil)) q (ode (by kernel_rfl)) (.no .nil) q (.inr q))
 ·replace h:=cndF hb1 h
  refine W.sq'<|W.rx [(0,_),(4,_),(7,_)] (Rv (O.eql (.lit q) (.k q))<|Va q<|Fi (tn3 q q q)) ?_
  refine Px.sq<|W.cnd q (fun hb2=>?_) (fun hb2=>?_)
  ·replace h:=cndT hb2 h
   refine W.sq'<|W.rx [(2,_),(3,_)] (Vk q<|Vk q<|Fi (tn2 q q)) ?_
   refine Px.sq<|W.rt ?_
   refine Px.bkR ?_
   refine Px.sqR ?_
   obtain rfl:=sm h
   exact Px.fin (Fin.ro (.f q q (.f q q .nil)) q (ode (by kernel_rfl)) (.no .nil) q (.inr q))
  ·replace h:=cndF hb2 h
   refine W.sq'<|W.rx [(0,_),(4,_),(9,_)] (Rv (O.eql (.lit q) (.k q))<|Va q<|Fi (tn3 q q q)) ?_
   refine Px.sq<|W.cnd q (fun hb3=>?_) (fun hb3=>?_)
   ·replace h:=cndT hb3 h
    refine W.sq'<|W.rx [(2,_),(3,_)] (Vk q<|Vk q<|Fi (tn2 q q)) ?_
    refine Px.sq<|W.rt ?_
    refine Px.bkR ?_
    refine Px.sqR ?_
    obtain rfl:=sm h
    exact Px.fin (Fin.ro (.f q q (.f q q .nil)) q (ode (by kernel_rfl)) (.no .nil) q (.inr q))
   ·replace h:=cndF hb3 h
    refine W.sq'<|W.sq' ?_
    refine W.rx [(0,_),(4,_),(11,_)] (Rv (O.eql (.lit q) (.k q))<|Va q<|Fi (tn3 q q q)) ?_
    refine Px.sq ?_
    obtain ⟨j4,hj,h⟩:=bnd h
    refine W.jn [(0,U8 a0),(11,BB j4)] ?_ ?_
    ·clear h; have h:=hj; clear hj
     refine W.cnd q (fun hb5=>?_) (fun hb5=>?_)
     ·replace h:=cndT hb5 h
      refine W.sk ?_
      obtain rfl:=sm h
      exact Px.jn (tn2 q q)
     ·replace h:=cndF hb5 h
      refine W.rx [(0,_),(11,_)] (Rv (O.eql (.lit q) (.k q))<|RunL.re (G1:=[(0,_),(13,_)]) (tn2 q q)<|Va q<|Fi (tn2 q q)) ?_
      obtain rfl:=sm h
      exact Px.jn (tn2 q q)
    refine Px.sq<|W.cnd q (fun hb6=>?_) (fun hb6=>?_)
    ·replace h:=cndT hb6 h
     refine W.sq'<|W.rx [(2,_),(3,_)] (Vm q<|Va q<|Vk q<|Fi (tn2 q q)) ?_
     refine Px.sq<|W.rt ?_
     refine Px.bkR ?_
     refine Px.sqR ?_
     obtain rfl:=sm h
     exact Px.fin (Fin.ro (.f q q (.f q q .nil)) q (ode (by kernel_rfl)) (.no .nil) q (.inr q))
    ·replace h:=cndF hb6 h
     refine W.sk<|Px.bk ?_
     refine Px.sq<|W.sq' ?_
     obtain ⟨c8,hj,h⟩:=bnd h
     refine W.rx [(2,U8 c8.1),(3,BB c8.2)] ?_ ?_
     ·refine Vm q<|Rv (O.geq (.lit q) (.k q))<|Rv (O.mv (.lit q)) ?_
      rcases cnd hj with ⟨hb7,hj⟩ | ⟨hb7,hj⟩
      ·obtain rfl:=sm hj
       exact RunL.v (O.mv (.lit q)) q q (.yb q q hb7)<|RunL.v (O.leq (.lit q) (.k q)) q q (.yb q q hb7)<|Rv (O.pkT (.lit q) hb7 (.lit q))<|Vk q<|Va q<|Fi (tn2 q q)
      ·obtain rfl:=sm hj
       exact RunL.ps q q hb7 q q<|RunL.ps q q hb7 q q<|Rv (O.pkF (.lit q) hb7 (.k q))<|Vk q<|Va q<|Fi (tn2 q q)
     refine Px.sq<|W.rt ?_
     obtain rfl:=sm h
     exact Px.fin (Fin.ro (.f q q (.f q q .nil)) q (ode (by kernel_rfl)) (.no .nil) q (.inr q))
theorem con116 (a0:Sym) (a1:Bool) (a2:Bool) (r:Bool) (h:pf116 a0 a1 a2=some r):Con Try.prog 116 [.agg (eSym.cells a0),BB a1,BB a2] [none,none,none] (BB r):=by
 unfold pf116 at h
 refine Con.go (N:=⟨53,[]⟩) Try.func116 q q q q (W.fin ?_)
 refine W.st [(0,.agg (eSym.cells a0)),(1,BB a1),(2,BB a2)] ?_
 refine W.sq'<|W.rx [(1,_),(2,_),(3,_)] (Rv (O.box (.aggF q q) q)<|Vk q<|Fi (tn3 q q q)) ?_
 refine Px.sq<|W.sq' ?_
 refine W.sq'<|W.rx [(1,_),(2,_),(3,_),(10,_)] (Rv (O.fO q (.obj q) fd88_1 q)<|Rv (O.ldO (y:=BB a0.Lit) q (.ptr q) ct4 q q)<|Fi (tn4 q q q q)) ?_
 refine Px.sq<|W.cnd q (fun hb1=>?_) (fun hb1=>?_)
 ·replace h:=cndT hb1 h
  refine W.sq'<|W.sq' ?_
  obtain ⟨c4,hj,h⟩:=bnd h
  refine W.rx [(3,.obj (eSym.cells a0)),(23,BB c4)] ?_ ?_
  ·refine Vm q<|Rv (O.not (.lit q))<|Rv (O.mv (.lit q)) ?_
   rcases cnd hj with ⟨hb2,hj⟩ | ⟨hb2,hj⟩
   ·obtain rfl:=sm hj
    exact RunL.ps q q hb2 q q<|RunL.ps q q hb2 q q<|RunL.ps q q hb2 q q<|RunL.ps q q hb2 q q<|Rv (O.pkT (.lit q) hb2 (.k q))<|Vm q<|RunL.ps q q q q q<|RunL.ps q q q q q<|RunL.ps q q q q q<|Rv (O.pkT (.lit q) q (.k q))<|Fi (tn2 q q)
   ·refine RunL.v (O.fO q (.obj q) fd88_0 q) q q (.yb q q hb2)<|RunL.v (O.ldO (y:=SS a0.Name) q (.ptr q) ct9 q q) q q (.yb q q hb2)<|RunL.v (O.lenS (.lit q) st9) q q (.yb q q hb2)<|RunL.v (O.neq (.lit q) (.k q)) q q (.yb q q hb2)<|Rv (O.pkF (.lit q) hb2 (.lit q))<|Rv (O.mv (.lit q)) ?_
    rcases cnd hj with ⟨hb3,hj⟩ | ⟨hb3,hj⟩
    ·obtain rfl:=sm hj
     exact RunL.ps q q hb3 q q<|RunL.ps q q hb3 q q<|RunL.ps q q hb3 q q<|Rv (O.pkT (.lit q) hb3 (.k q))<|Fi (tn2 q q)
    ·obtain rfl:=sm hj
     exact RunL.v (O.fO q (.obj q) fd88_2 q) q q (.yb q q hb3)<|RunL.v (O.ldO (y:=I64 a0.Num) q (.ptr q) ct3 q q) q q (.yb q q hb3)<|RunL.v (O.neq (.lit q) (.k q)) q q (.yb q q hb3)<|Rv (O.pkF (.lit q) hb3 (.lit q))<|Fi (tn2 q q)
  refine Px.sq<|W.cnd q (fun hb5=>?_) (fun hb5=>?_)
  ·replace h:=cndT hb5 h
   refine W.sq'<|W.rx [(6,_)] (Vk q<|Fi (.n q .nil)) ?_
   refine Px.sq<|W.rt ?_
   refine Px.sqR ?_
   refine Px.sqR ?_
   obtain rfl:=sm h
   exact Px.fin (Fin.ro (.f q q .nil) q (ode (by kernel_rfl)) (.no (.no (.no .nil))) q (.inr q))
  ·replace h:=cndF hb5 h
   refine W.sk<|Px.sq ?_
   refine W.sq' ?_
   obtain ⟨x6,hx6,h⟩:=bnd h
   obtain ⟨x7,hx7,h⟩:=bnd h
   refine W.rx [(8,_)] (Rv (O.fO q (.obj q) fd88_0 q)<|Rv (O.ldO (y:=SS a0.Name) q (.ptr q) ct9 q q)<|Rv (O.at' (.lit q) (.k q) st9 hx6)<|Rc (PC.go (.cc (.lit q) .nil) (con120 x6 _ hx7) call120 q)<|Rv (O.mv (.tupF q q))<|Rv (O.ex (y:=U8 x7.1) q q q)<|Rv (O.ex (y:=BB x7.2) q q q)<|Va q<|Va q<|Fi (.n q .nil)) ?_
   refine Px.sq<|W.sq' ?_
   refine W.rx [(6,_)] (Vm q<|Va q<|Fi (.n q .nil)) ?_
   refine Px.sq<|W.rt ?_
   refine Px.sqR ?_
   obtain rfl:=sm h
   exact Px.fin (Fin.ro (.f q q .nil) q (ode (by kernel_rfl)) (.no (.no (.no .nil))) q (.inr q))
 ·replace h:=cndF hb1 h
  refine W.sk<|Px.sq ?_
  refine W.sq' ?_
  obtain ⟨c13,hj,h⟩:=bnd h
  refine W.rx [(6,BB c13)] ?_ ?_
  ·refine Rv (O.fO q (.obj q) fd88_0 q)<|Rv (O.ldO (y:=SS a0.Name) q (.ptr q) ct9 q q) ?_
   obtain ⟨x8,hx8,hj⟩:=bnd hj
   refine Rc (PC.go (.cc (.lit q) .nil) (con111 a0.Name _ hx8) call111 q)<|Rv (O.mv (.lit q)) ?_
   rcases cnd hj with ⟨hb9,hj⟩ | ⟨hb9,hj⟩
   ·refine RunL.v (O.fO q (.obj q) fd88_2 q) q q (.yb q q hb9)<|RunL.v (O.ldO (y:=I64 a0.Num) q (.ptr q) ct3 q q) q q (.yb q q hb9)<|RunL.v (O.eql (.lit q) (.k q)) q q (.yb q q hb9)<|RunL.v (O.mv (.lit q)) q q (.yb q q hb9) ?_
    rcases cnd hj with ⟨hb10,hj⟩ | ⟨hb10,hj⟩
    ·obtain rfl:=sm hj
     exact RunL.ps q q hb10 q q<|RunL.ps q q hb10 q q<|RunL.pu q q q q<|RunL.pu q q q q<|RunL.pu q q q q<|RunL.ps q q hb10 q q<|RunL.ps q q hb10 q q<|RunL.pu q q q q<|RunL.pu q q q q<|RunL.pu q q q q<|RunL.ps q q hb10 q q<|RunL.v (O.pkT (.lit q) hb10 (.k q)) q q (.yb q q hb9)<|Rv (O.pkT (.lit q) hb9 (.lit q))<|Va q<|Fi (.n q .nil)
    ·refine RunL.v (O.mv (.lit q)) q q (.yb q q hb10)<|RunL.v (O.mv (.lit q)) q q (.yb q q hb10) ?_
     rcases cnd hj with ⟨hb11,hj⟩ | ⟨hb11,hj⟩
     ·refine RunL.v (O.fO q (.obj q) fd88_2 q) q q (.yb q q hb11)<|RunL.v (O.ldO (y:=I64 a0.Num) q (.ptr q) ct3 q q) q q (.yb q q hb11)<|RunL.v (O.geq (.lit q) (.k q)) q q (.yb q q hb11)<|RunL.v (O.pkT (.lit q) hb11 (.lit q)) q q (.yb q q hb10)<|RunL.v (O.mv (.lit q)) q q (.yb q q hb10) ?_
      rcases cnd hj with ⟨hb12,hj⟩ | ⟨hb12,hj⟩
      ·obtain rfl:=sm hj
       exact RunL.v (O.fO q (.obj q) fd88_2 q) q q (.yb q q hb12)<|RunL.v (O.ldO (y:=I64 a0.Num) q (.ptr q) ct3 q q) q q (.yb q q hb12)<|RunL.v (O.leq (.lit q) (.k q)) q q (.yb q q hb12)<|RunL.v (O.pkT (.lit q) hb12 (.lit q)) q q (.yb q q hb10)<|RunL.v (O.pkF (.lit q) hb10 (.lit q)) q q (.yb q q hb9)<|Rv (O.pkT (.lit q) hb9 (.lit q))<|Va q<|Fi (.n q .nil)
      ·obtain rfl:=sm hj
       exact RunL.ps q q hb12 q q<|RunL.ps q q hb12 q q<|RunL.ps q q hb12 q q<|RunL.v (O.pkF (.lit q) hb12 (.k q)) q q (.yb q q hb10)<|RunL.v (O.pkF (.lit q) hb10 (.lit q)) q q (.yb q q hb9)<|Rv (O.pkT (.lit q) hb9 (.lit q))<|Va q<|Fi (.n q .nil)
     ·obtain rfl:=sm hj
      exact RunL.ps q q hb11 q q<|RunL.ps q q hb11 q q<|RunL.ps q q hb11 q q<|RunL.v (O.pkF (.lit q) hb11 (.k q)) q q (.yb q q hb10)<|RunL.v (O.mv (.lit q)) q q (.yb q q hb10)<|RunL.ps q q q q q<|RunL.ps q q q q q<|RunL.ps q q q q q<|RunL.v (O.pkF (.lit q) q (.k q)) q q (.yb q q hb10)<|RunL.v (O.pkF (.lit q) hb10 (.lit q)) q q (.yb q q hb9)<|Rv (O.pkT (.lit q) hb9 (.lit q))<|Va q<|Fi (.n q .nil)
   ·obtain rfl:=sm hj
    exact RunL.ps q q hb9 q q<|RunL.ps q q hb9 q q<|RunL.ps q q hb9 q q<|RunL.ps q q hb9 q q<|RunL.pu q q q q<|RunL.pu q q q q<|RunL.pu q q q q<|RunL.pu q q q q<|RunL.pu q q q q<|RunL.pu q q q q<|RunL.pu q q q q<|RunL.pu q q q q<|RunL.pu q q q q<|RunL.pu q q q q<|RunL.pu q q q q<|RunL.ps q q hb9 q q<|Rv (O.pkF (.lit q) hb9 (.k q))<|Va q<|Fi (.n q .nil)
  refine Px.sq<|W.rt ?_
  obtain rfl:=sm h
  exact Px.fin (Fin.ro (.f q q .nil) q (ode (by kernel_rfl)) (.no (.no (.no .nil))) q (.inr q))
theorem con110 (a0:Decl) (r:Bool) (h:pf110 a0=some r):Con Try.prog 110 [.agg (eDecl_0.cells a0)] [none] (BB r):=by
 unfold pf110 at h
 refine Con.go (N:=⟨75,[]⟩) Try.func110 q q q q (W.fin ?_)
 refine W.st [(0,.agg (eDecl_0.cells a0))] ?_
 refine W.sq'<|W.rx [(1,_)] (Rv (O.box (.aggF q q) q)<|Vk q<|Fi (.n q .nil)) ?_
 refine Px.sq<|W.sq' ?_
 refine W.sq' ?_
 obtain ⟨c15,hj,h⟩:=bnd h
 refine W.rx [(1,.obj (eDecl_0.cells a0)),(54,BB c15)] ?_ ?_
 ·refine Rv (O.fO q (.obj q) fd100_0 q)<|Rv (O.ldO (y:=I64 a0.Kind) q (.ptr q) ct3 q q)<|Rv (O.lss (.lit q) (.k q))<|Rv (O.mv (.lit q)) ?_
  rcases cnd hj with ⟨hb1,hj⟩ | ⟨hb1,hj⟩
  ·obtain rfl:=sm hj
   exact RunL.ps q q hb1 q q<|RunL.ps q q hb1 q q<|RunL.ps q q hb1 q q<|Rv (O.pkT (.lit q) hb1 (.k q))<|Vm q<|RunL.ps q q q q q<|RunL.ps q q q q q<|RunL.ps q q q q q<|RunL.ps q q q q q<|Rv (O.pkT (.lit q) q (.k q))<|Vm q<|RunL.ps q q q q q<|RunL.ps q q q q q<|RunL.ps q q q q q<|RunL.ps q q q q q<|RunL.pu q q q q<|RunL.pu q q q q<|RunL.pu q q q q<|RunL.pu q q q q<|RunL.pu q q q q<|RunL.pu q q q q<|RunL.pu q q q q<|RunL.pu q q q q<|RunL.pu q q q q<|RunL.ps q q q q q<|Rv (O.pkT (.lit q) q (.k q))<|Vm q<|RunL.ps q q q q q<|RunL.ps q q q q q<|RunL.ps q q q q q<|RunL.ps q q q q q<|RunL.pu q q q q<|RunL.pu q q q q<|RunL.pu q q q q<|RunL.ps q q q q q<|Rv (O.pkT (.lit q) q (.k q))<|Vm q<|RunL.ps q q q q q<|RunL.ps q q q q q<|RunL.ps q q q q q<|RunL.ps q q q q q<|RunL.pu q q q q<|RunL.pu q q q q<|RunL.pu q q q q<|RunL.pu q q q q<|RunL.ps q q q q q<|Rv (O.pkT (.lit q) q (.k q))<|Fi (tn2 q q)
  ·refine RunL.v (O.fO q (.obj q) fd100_0 q) q q (.yb q q hb1)<|RunL.v (O.ldO (y:=I64 a0.Kind) q (.ptr q) ct3 q q) q q (.yb q q hb1)<|RunL.v (O.gtr (.lit q) (.k q)) q q (.yb q q hb1)<|Rv (O.pkF (.lit q) hb1 (.lit q))<|Rv (O.mv (.lit q)) ?_
   rcases cnd hj with ⟨hb2,hj⟩ | ⟨hb2,hj⟩
   ·obtain rfl:=sm hj
    exact RunL.ps q q hb2 q q<|RunL.ps q q hb2 q q<|RunL.ps q q hb2 q q<|RunL.ps q q hb2 q q<|Rv (O.pkT (.lit q) hb2 (.k q))<|Vm q<|RunL.ps q q q q q<|RunL.ps q q q q q<|RunL.ps q q q q q<|RunL.ps q q q q q<|RunL.pu q q q q<|RunL.pu q q q q<|RunL.pu q q q q<|RunL.pu q q q q<|RunL.pu q q q q<|RunL.pu q q q q<|RunL.pu q q q q<|RunL.pu q q q q<|RunL.pu q q q q<|RunL.ps q q q q q<|Rv (O.pkT (.lit q) q (.k q))<|Vm q<|RunL.ps q q q q q<|RunL.ps q q q q q<|RunL.ps q q q q q<|RunL.ps q q q q q<|RunL.pu q q q q<|RunL.pu q q q q<|RunL.pu q q q q<|RunL.ps q q q q q<|Rv (O.pkT (.lit q) q (.k q))<|Vm q<|RunL.ps q q q q q<|RunL.ps q q q q q<|RunL.ps q q q q q<|RunL.ps q q q q q<|RunL.pu q q q q<|RunL.pu q q q q<|RunL.pu q q q q<|RunL.pu q q q q<|RunL.ps q q q q q<|Rv (O.pkT (.lit q) q (.k q))<|Fi (tn2 q q)
   ·refine RunL.v (O.fO q (.obj q) fd100_2 q) q q (.yb q q hb2)<|RunL.v (O.ldO (y:=iR eSym a0.Syms) q (.ptr q) ct98 q q) q q (.yb q q hb2)<|RunL.v (O.lenI (.imm q) sl98) q q (.yb q q hb2)<|RunL.v (O.eql (.lit q) (.k q)) q q (.yb q q hb2)<|Rv (O.pkF (.lit q) hb2 (.lit q))<|Rv (O.mv (.lit q)) ?_
    rcases cnd hj with ⟨hb3,hj⟩ | ⟨hb3,hj⟩
    ·obtain rfl:=sm hj
     exact RunL.ps q q hb3 q q<|RunL.ps q q hb3 q q<|RunL.ps q q hb3 q q<|RunL.ps q q hb3 q q<|RunL.pu q q q q<|RunL.pu q q q q<|RunL.pu q q q q<|RunL.pu q q q q<|RunL.pu q q q q<|RunL.pu q q q q<|RunL.pu q q q q<|RunL.pu q q q q<|RunL.pu q q q q<|RunL.ps q q hb3 q q<|Rv (O.pkT (.lit q) hb3 (.k q))<|Vm q<|RunL.ps q q q q q<|RunL.ps q q q q q<|RunL.ps q q q q q<|RunL.ps q q q q q<|RunL.pu q q q q<|RunL.pu q q q q<|RunL.pu q q q q<|RunL.ps q q q q q<|Rv (O.pkT (.lit q) q (.k q))<|Vm q<|RunL.ps q q q q q<|RunL.ps q q q q q<|RunL.ps q q q q q<|RunL.ps q q q q q<|RunL.pu q q q q<|RunL.pu q q q q<|RunL.pu q q q q<|RunL.pu q q q q<|RunL.ps q q q q q<|Rv (O.pkT (.lit q) q (.k q))<|Fi (tn2 q q)
    ·refine RunL.v (O.fO q (.obj q) fd100_0 q) q q (.yb q q hb3)<|RunL.v (O.ldO (y:=I64 a0.Kind) q (.ptr q) ct3 q q) q q (.yb q q hb3)<|RunL.v (O.eql (.lit q) (.k q)) q q (.yb q q hb3)<|RunL.v (O.mv (.lit q)) q q (.yb q q hb3) ?_
     rcases cnd hj with ⟨hb4,hj⟩ | ⟨hb4,hj⟩
     ·refine RunL.v (O.fO q (.obj q) fd100_2 q) q q (.yb q q hb4)<|RunL.v (O.ldO (y:=iR eSym a0.Syms) q (.ptr q) ct98 q q) q q (.yb q q hb4)<|RunL.v (O.lenI (.imm q) sl98) q q (.yb q q hb4)<|RunL.v (O.neq (.lit q) (.k q)) q q (.yb q q hb4)<|RunL.v (O.mv (.lit q)) q q (.yb q q hb4) ?_
      rcases cnd hj with ⟨hb5,hj⟩ | ⟨hb5,hj⟩
      ·obtain rfl:=sm hj
       exact RunL.ps q q hb5 q q<|RunL.ps q q hb5 q q<|RunL.ps q q hb5 q q<|RunL.v (O.pkT (.lit q) hb5 (.k q)) q q (.yb q q hb4)<|RunL.v (O.pkT (.lit q) hb4 (.lit q)) q q (.yb q q hb3)<|Rv (O.pkF (.lit q) hb3 (.lit q))<|Vm q<|RunL.ps q q q q q<|RunL.ps q q q q q<|RunL.ps q q q q q<|RunL.ps q q q q q<|RunL.pu q q q q<|RunL.pu q q q q<|RunL.pu q q q q<|RunL.ps q q q q q<|Rv (O.pkT (.lit q) q (.k q))<|Vm q<|RunL.ps q q q q q<|RunL.ps q q q q q<|RunL.ps q q q q q<|RunL.ps q q q q q<|RunL.pu q q q q<|RunL.pu q q q q<|RunL.pu q q q q<|RunL.pu q q q q<|RunL.ps q q q q q<|Rv (O.pkT (.lit q) q (.k q))<|Fi (tn2 q q)
      ·refine RunL.v (O.fO q (.obj q) fd100_1 q) q q (.yb q q hb5)<|RunL.v (O.ldO (y:=SS a0.Tag) q (.ptr q) ct9 q q) q q (.yb q q hb5)<|RunL.v (O.neS (.lit q) (.k q)) q q (.yb q q hb5)<|RunL.v (O.pkF (.lit q) hb5 (.lit q)) q q (.yb q q hb4)<|RunL.v (O.pkT (.lit q) hb4 (.lit q)) q q (.yb q q hb3)<|Rv (O.pkF (.lit q) hb3 (.lit q))<|Rv (O.mv (.lit q)) ?_
       rcases cnd hj with ⟨hb6,hj⟩ | ⟨hb6,hj⟩
       ·obtain rfl:=sm hj
        exact RunL.ps q q hb6 q q<|RunL.ps q q hb6 q q<|RunL.ps q q hb6 q q<|RunL.ps q q hb6 q q<|RunL.pu q q q q<|RunL.pu q q q q<|RunL.pu q q q q<|RunL.ps q q hb6 q q<|Rv (O.pkT (.lit q) hb6 (.k q))<|Vm q<|RunL.ps q q q q q<|RunL.ps q q q q q<|RunL.ps q q q q q<|RunL.ps q q q q q<|RunL.pu q q q q<|RunL.pu q q q q<|RunL.pu q q q q<|RunL.pu q q q q<|RunL.ps q q q q q<|Rv (O.pkT (.lit q) q (.k q))<|Fi (tn2 q q)
       ·refine RunL.v (O.fO q (.obj q) fd100_0 q) q q (.yb q q hb6)<|RunL.v (O.ldO (y:=I64 a0.Kind) q (.ptr q) ct3 q q) q q (.yb q q hb6)<|RunL.v (O.eql (.lit q) (.k q)) q q (.yb q q hb6)<|RunL.v (O.mv (.lit q)) q q (.yb q q hb6) ?_
        rcases cnd hj with ⟨hb7,hj⟩ | ⟨hb7,hj⟩
        ·refine RunL.v (O.fO q (.obj q) fd100_1 q) q q (.yb q q hb7)<|RunL.v (O.ldO (y:=SS a0.Tag) q (.ptr q) ct9 q q) q q (.yb q q hb7)<|RunL.v (O.eqS (.lit q) (.k q)) q q (.yb q q hb7)<|RunL.v (O.pkT (.lit q) hb7 (.lit q)) q q (.yb q q hb6)<|Rv (O.pkF (.lit q) hb6 (.lit q))<|Rv (O.mv (.lit q)) ?_
         rcases cnd hj with ⟨hb8,hj⟩ | ⟨hb8,hj⟩
         ·obtain rfl:=sm hj
          exact RunL.ps q q hb8 q q<|RunL.ps q q hb8 q q<|RunL.ps q q hb8 q q<|RunL.ps q q hb8 q q<|RunL.pu q q q q<|RunL.pu q q q q<|RunL.pu q q q q<|RunL.pu q q q q<|RunL.ps q q hb8 q q<|Rv (O.pkT (.lit q) hb8 (.k q))<|Fi (tn2 q q)
         ·obtain rfl:=sm hj
          exact RunL.v (O.fO q (.obj q) fd100_1 q) q q (.yb q q hb8)<|RunL.v (O.ldO (y:=SS a0.Tag) q (.ptr q) ct9 q q) q q (.yb q q hb8)<|RunL.v (O.neS (.lit q) (.k q)) q q (.yb q q hb8)<|RunL.v (O.mv (.lit q)) q q (.yb q q hb8)<|RunL.ps q q hb6 q q<|RunL.ps q q hb6 q q<|RunL.ps q q hb6 q q<|RunL.ps q q hb6 q q<|RunL.v (O.pkF (.lit q) hb6 (.k q)) q q (.yb q q hb8)<|Rv (O.pkF (.lit q) hb8 (.lit q))<|Fi (tn2 q q)
        ·obtain rfl:=sm hj
         exact RunL.ps q q hb7 q q<|RunL.ps q q hb7 q q<|RunL.ps q q hb7 q q<|RunL.v (O.pkF (.lit q) hb7 (.k q)) q q (.yb q q hb6)<|Rv (O.pkF (.lit q) hb6 (.lit q))<|Vm q<|RunL.v (O.fO q (.obj q) fd100_1 q) q q (.yb q q q)<|RunL.v (O.ldO (y:=SS a0.Tag) q (.ptr q) ct9 q q) q q (.yb q q q)<|RunL.v (O.neS (.lit q) (.k q)) q q (.yb q q q)<|RunL.v (O.mv (.lit q)) q q (.yb q q q)<|RunL.ps q q hb6 q q<|RunL.ps q q hb6 q q<|RunL.ps q q hb6 q q<|RunL.ps q q hb6 q q<|RunL.v (O.pkF (.lit q) hb6 (.k q)) q q (.yb q q q)<|Rv (O.pkF (.lit q) q (.lit q))<|Fi (tn2 q q)
     ·refine RunL.ps q q hb4 q q<|RunL.ps q q hb4 q q<|RunL.ps q q hb4 q q<|RunL.ps q q hb4 q q<|RunL.ps q q hb4 q q<|RunL.pu q q q q<|RunL.pu q q q q<|RunL.pu q q q q<|RunL.ps q q hb4 q q<|RunL.v (O.pkF (.lit q) hb4 (.k q)) q q (.yb q q hb3)<|Rv (O.pkF (.lit q) hb3 (.lit q))<|Vm q<|RunL.v (O.fO q (.obj q) fd100_0 q) q q (.yb q q q)<|RunL.v (O.ldO (y:=I64 a0.Kind) q (.ptr q) ct3 q q) q q (.yb q q q)<|RunL.v (O.eql (.lit q) (.k q)) q q (.yb q q q)<|RunL.v (O.mv (.lit q)) q q (.yb q q q) ?_
      rcases cnd hj with ⟨hb9,hj⟩ | ⟨hb9,hj⟩
      ·refine RunL.v (O.fO q (.obj q) fd100_1 q) q q (.yb q q hb9)<|RunL.v (O.ldO (y:=SS a0.Tag) q (.ptr q) ct9 q q) q q (.yb q q hb9)<|RunL.v (O.eqS (.lit q) (.k q)) q q (.yb q q hb9)<|RunL.v (O.pkT (.lit q) hb9 (.lit q)) q q (.yb q q q)<|Rv (O.pkF (.lit q) q (.lit q))<|Rv (O.mv (.lit q)) ?_
       rcases cnd hj with ⟨hb10,hj⟩ | ⟨hb10,hj⟩
       ·obtain rfl:=sm hj
        exact RunL.ps q q hb10 q q<|RunL.ps q q hb10 q q<|RunL.ps q q hb10 q q<|RunL.ps q q hb10 q q<|RunL.pu q q q q<|RunL.pu q q q q<|RunL.pu q q q q<|RunL.pu q q q q<|RunL.ps q q hb10 q q<|Rv (O.pkT (.lit q) hb10 (.k q))<|Fi (tn2 q q)
       ·refine RunL.v (O.fO q (.obj q) fd100_1 q) q q (.yb q q hb10)<|RunL.v (O.ldO (y:=SS a0.Tag) q (.ptr q) ct9 q q) q q (.yb q q hb10)<|RunL.v (O.neS (.lit q) (.k q)) q q (.yb q q hb10)<|RunL.v (O.mv (.lit q)) q q (.yb q q hb10) ?_
        rcases cnd hj with ⟨hb11,hj⟩ | ⟨hb11,hj⟩
        ·refine RunL.v (O.fO q (.obj q) fd100_1 q) q q (.yb q q hb11)<|RunL.v (O.ldO (y:=SS a0.Tag) q (.ptr q) ct9 q q) q q (.yb q q hb11) ?_
         obtain ⟨x12,hx12,hj⟩:=bnd hj
         obtain rfl:=sm hj
         exact RunL.c (PC.go (.cc (.lit q) .nil) (con111 a0.Tag _ hx12) call111 q) q q (.yb q q hb11)<|RunL.v (O.not (.lit q)) q q (.yb q q hb11)<|RunL.v (O.pkT (.lit q) hb11 (.lit q)) q q (.yb q q hb10)<|Rv (O.pkF (.lit q) hb10 (.lit q))<|Fi (tn2 q q)
        ·obtain rfl:=sm hj
         exact RunL.ps q q hb11 q q<|RunL.ps q q hb11 q q<|RunL.ps q q hb11 q q<|RunL.ps q q hb11 q q<|RunL.v (O.pkF (.lit q) hb11 (.k q)) q q (.yb q q hb10)<|Rv (O.pkF (.lit q) hb10 (.lit q))<|Fi (tn2 q q)
      ·refine RunL.ps q q hb9 q q<|RunL.ps q q hb9 q q<|RunL.ps q q hb9 q q<|RunL.v (O.pkF (.lit q) hb9 (.k q)) q q (.yb q q q)<|Rv (O.pkF (.lit q) q (.lit q))<|Vm q<|RunL.v (O.fO q (.obj q) fd100_1 q) q q (.yb q q q)<|RunL.v (O.ldO (y:=SS a0.Tag) q (.ptr q) ct9 q q) q q (.yb q q q)<|RunL.v (O.neS (.lit q) (.k q)) q q (.yb q q q)<|RunL.v (O.mv (.lit q)) q q (.yb q q q) ?_
       rcases cnd hj with ⟨hb13,hj⟩ | ⟨hb13,hj⟩
       ·refine RunL.v (O.fO q (.obj q) fd100_1 q) q q (.yb q q hb13)<|RunL.v (O.ldO (y:=SS a0.Tag) q (.ptr q) ct9 q q) q q (.yb q q hb13) ?_
        obtain ⟨x14,hx14,hj⟩:=bnd hj
        obtain rfl:=sm hj
        exact RunL.c (PC.go (.cc (.lit q) .nil) (con111 a0.Tag _ hx14) call111 q) q q (.yb q q hb13)<|RunL.v (O.not (.lit q)) q q (.yb q q hb13)<|RunL.v (O.pkT (.lit q) hb13 (.lit q)) q q (.yb q q q)<|Rv (O.pkF (.lit q) q (.lit q))<|Fi (tn2 q q)
       ·obtain rfl:=sm hj
        exact RunL.ps q q hb13 q q<|RunL.ps q q hb13 q q<|RunL.ps q q hb13 q q<|RunL.ps q q hb13 q q<|RunL.v (O.pkF (.lit q) hb13 (.k q)) q q (.yb q q q)<|Rv (O.pkF (.lit q) q (.lit q))<|Fi (tn2 q q)
 refine Px.sq<|W.cnd q (fun hb16=>?_) (fun hb16=>?_)
 ·replace h:=cndT hb16 h
  refine W.sq'<|W.rx [(2,_)] (Vk q<|Fi (.n q .nil)) ?_
  refine Px.sq<|W.rt ?_
  refine Px.sqR ?_
  obtain rfl:=sm h
  exact Px.fin (Fin.ro (.f q q .nil) q (ode (by kernel_rfl)) (.no .nil) q (.inr q))
 ·replace h:=cndF hb16 h
  refine W.sk<|Px.sq ?_
  refine W.sq'<|W.sq' ?_
  refine W.rx [(1,_),(3,_)] (Vk q<|Fi (tn2 q q)) ?_
  refine Px.sq<|W.bk ?_
  obtain ⟨x18,hl,h⟩:=bnd h
  refine W.tr (G1:=[(1,_),(3,_)]) (tn2 q q) ?_
  refine W.lp2 (s:=0) (fun (s17:Int)=>[(1,.obj (eDecl_0.cells a0)),(3,I64 s17)]) 0 (fun (x19:Unit)=>[]) (fun (x20:Bool)=>[(2,BB x20)]) hl (fun s17 o h=>?_) (fun x19 hx=>?_) (fun x20 hx=>?_)
  ·clear hl
   refine W.sq'<|W.sq' ?_
   refine W.rx [(1,_),(3,_),(59,_)] (Vm q<|Rv (O.fO q (.obj q) fd100_2 q)<|Rv (O.ldO (y:=iR eSym a0.Syms) q (.ptr q) ct98 q q)<|Rv (O.lenI (.imm q) sl98)<|Rv (O.lss (.lit q) (.lit q))<|Fi (tn3 q q q)) ?_
   refine Px.sq<|W.cnd q (fun hb21=>?_) (fun hb21=>?_)
   ·replace h:=cndT hb21 h
    refine W.sk<|Px.sq ?_
    refine W.sq'<|W.bk ?_
    refine W.sq' ?_
    obtain ⟨x22,hx22,h⟩:=bnd h
    obtain ⟨x23,hx23,h⟩:=bnd h
    refine W.rd [[],[0],[],[0,1,2],[0,1,2,3],[],[5],[5,6],[],[8],[8,9],rn 0 11 [],rn 0 12 []] [(1,_),(3,_),(74,_)] mixo (by kernel_rfl) (Dv 0 (O.fO q (.obj q) fd100_2 q)<|Dv 1 (O.ldO (y:=iR eSym a0.Syms) q (.ptr q) ct98 q q)<|Dv 2 (O.mv (.lit q))<|Dv 3 (O.ixI (.imm q) (.lit q) sl98 hx22)<|Dv 4 (O.ldIN (cs':=[SS x22.Name,BB x22.Lit,I64 x22.Num,I64 x22.At]) (.iptr q) at88 q q)<|Dv 5 (O.fO q (.obj q) fd100_0 q)<|Dv 6 (O.ldO (y:=I64 a0.Kind) q (.ptr q) ct3 q q)<|Dv 7 (O.eql (.lit q) (.k q))<|Dv 8 (O.fO q (.obj q) fd100_0 q)<|Dv 9 (O.ldO (y:=I64 a0.Kind) q (.ptr q) ct3 q q)<|Dv 10 (O.lss (.lit q) (.k q))<|Dc 11 (PC.go (.cc (.aggF q q) (.cc (.lit q) (.cc (.lit q) .nil))) (con116 x22 (decide (a0.Kind=1)) (decide (a0.Kind<5)) _ hx23) call116 q)<|Dv 12 (O.not (.lit q))<|DL.fin q q q (tn3 q q q)) ?_
    refine Px.sq<|W.cnd q (fun hb24=>?_) (fun hb24=>?_)
    ·replace h:=cndT hb24 h
     refine W.sq'<|W.rx [(2,_)] (Vk q<|Fi (.n q .nil)) ?_
     refine Px.sq<|W.rt ?_
     refine Px.bkR ?_
     refine Px.sqR ?_
     obtain rfl:=sm h
     exact Px.r2 (.n q .nil)
    ·replace h:=cndF hb24 h
     refine W.sk<|Px.bk ?_
     refine Px.sq<|W.rx [(1,_),(3,_)] (Vm q<|Rv (O.add (.lit q) (.k q))<|RunL.re (G1:=[(1,_),(61,_)]) (tn2 q q)<|Va q<|Fi (tn2 q q)) ?_
     obtain rfl:=sm h
     exact Px.go (tn2 q q)
   ·replace h:=cndF hb21 h
    refine W.xi ?_
    refine Px.sqE ?_
    obtain rfl:=sm h
    exact Px.x2 .nil
  ·subst hx
   refine Px.bkH ?_
   refine Px.sq<|W.sq' ?_
   refine W.rx [(2,_)] (Vk q<|Fi (.n q .nil)) ?_
   refine Px.sq<|W.rt ?_
   obtain rfl:=sm h
   exact Px.fin (Fin.ro (.f q q .nil) q (ode (by kernel_rfl)) (.no .nil) q (.inr q))
  ·subst hx
   refine Px.bkR ?_
   refine Px.sqR ?_
   obtain rfl:=sm h
   exact Px.fin (Fin.ro (.f q q .nil) q (ode (by kernel_rfl)) (.no .nil) q (.inr q))
theorem con118 (a0:Sym) (r:Bool) (h:pf118 a0=some r):Con Try.prog 118 [.agg (eSym.cells a0)] [none] (BB r):=by
 unfold pf118 at h
 refine Con.go (N:=⟨16,[]⟩) Try.func118 q q q q (W.fin ?_)
 refine W.st [(0,.agg (eSym.cells a0))] ?_
 refine W.sq'<|W.rx [(1,_)] (Rv (O.box (.aggF q q) q)<|Vk q<|Fi (.n q .nil)) ?_
 refine Px.sq<|W.sq' ?_
 obtain ⟨c3,hj,h⟩:=bnd h
 refine W.rx [(2,BB c3)] ?_ ?_
 ·refine Rv (O.fO q (.obj q) fd88_0 q)<|Rv (O.ldO (y:=SS a0.Name) q (.ptr q) ct9 q q)<|Rv (O.eqS (.lit q) (.k q))<|Rv (O.mv (.lit q)) ?_
  rcases cnd hj with ⟨hb1,hj⟩ | ⟨hb1,hj⟩
  ·refine RunL.v (O.fO q (.obj q) fd88_1 q) q q (.yb q q hb1)<|RunL.v (O.ldO (y:=BB a0.Lit) q (.ptr q) ct4 q q) q q (.yb q q hb1)<|RunL.v (O.not (.lit q)) q q (.yb q q hb1)<|Rv (O.pkT (.lit q) hb1 (.lit q))<|Rv (O.mv (.lit q)) ?_
   rcases cnd hj with ⟨hb2,hj⟩ | ⟨hb2,hj⟩
   ·obtain rfl:=sm hj
    exact RunL.v (O.fO q (.obj q) fd88_2 q) q q (.yb q q hb2)<|RunL.v (O.ldO (y:=I64 a0.Num) q (.ptr q) ct3 q q) q q (.yb q q hb2)<|RunL.v (O.eql (.lit q) (.k q)) q q (.yb q q hb2)<|Rv (O.pkT (.lit q) hb2 (.lit q))<|Va q<|Fi (.n q .nil)
   ·obtain rfl:=sm hj
    exact RunL.ps q q hb2 q q<|RunL.ps q q hb2 q q<|RunL.ps q q hb2 q q<|Rv (O.pkF (.lit q) hb2 (.k q))<|Va q<|Fi (.n q .nil)
  ·obtain rfl:=sm hj
   exact RunL.ps q q hb1 q q<|RunL.ps q q hb1 q q<|RunL.ps q q hb1 q q<|Rv (O.pkF (.lit q) hb1 (.k q))<|Vm q<|RunL.ps q q q q q<|RunL.ps q q q q q<|RunL.ps q q q q q<|Rv (O.pkF (.lit q) q (.k q))<|Va q<|Fi (.n q .nil)
 refine Px.sq<|W.rt ?_
 obtain rfl:=sm h
 exact Px.fin (Fin.ro (.f q q .nil) q (ode (by kernel_rfl)) (.no .nil) q (.inr q))
theorem con124 (a0:ByteArray) (a1:Int) (a2:ByteArray) (r:Bool) (h:pf124 a0 a1 a2=some r):Con Try.prog 124 [SS a0,I64 a1,SS a2] [none,none,none] (BB r):=by
 unfold pf124 at h
 refine Con.go (N:=⟨25,[]⟩) Try.func124 q q q q (W.fin ?_)
 refine W.st [(0,SS a0),(1,I64 a1),(2,SS a2)] ?_
 refine W.sq'<|W.rx [(0,_),(1,_),(2,_)] (Vk q<|Fi (tn3 q q q)) ?_
 refine Px.sq<|W.sq' ?_
 obtain ⟨c3,hj,h⟩:=bnd h
 refine W.rx [(6,BB c3)] ?_ ?_
 ·refine Vm q<|Rv (O.lenS (.lit q) st9)<|Vm q<|Rv (O.sub (.lit q) (.lit q))<|Vm q<|Rv (O.lenS (.lit q) st9)<|Rv (O.geq (.lit q) (.lit q))<|Rv (O.mv (.lit q)) ?_
  rcases cnd hj with ⟨hb1,hj⟩ | ⟨hb1,hj⟩
  ·refine RunL.v (O.mv (.lit q)) q q (.yb q q hb1)<|RunL.v (O.mv (.lit q)) q q (.yb q q hb1)<|RunL.v (O.mv (.lit q)) q q (.yb q q hb1)<|RunL.v (O.mv (.lit q)) q q (.yb q q hb1)<|RunL.v (O.lenS (.lit q) st9) q q (.yb q q hb1)<|RunL.v (O.add (.lit q) (.lit q)) q q (.yb q q hb1) ?_
   obtain ⟨x2,hx2,hj⟩:=bnd hj
   obtain rfl:=sm hj
   exact RunL.v (O.sl (.lit q) (.lit q) (.lit q) st9 hx2) q q (.yb q q hb1)<|RunL.v (O.mv (.lit q)) q q (.yb q q hb1)<|RunL.v (O.eqS (.lit q) (.lit q)) q q (.yb q q hb1)<|Rv (O.pkT (.lit q) hb1 (.lit q))<|Va q<|Fi (.n q .nil)
  ·obtain rfl:=sm hj
   exact RunL.ps q q hb1 q q<|RunL.ps q q hb1 q q<|RunL.ps q q hb1 q q<|RunL.ps q q hb1 q q<|RunL.ps q q hb1 q q<|RunL.ps q q hb1 q q<|RunL.ps q q hb1 q q<|RunL.ps q q hb1 q q<|RunL.ps q q hb1 q q<|Rv (O.pkF (.lit q) hb1 (.k q))<|Va q<|Fi (.n q .nil)
 refine Px.sq<|W.rt ?_
 obtain rfl:=sm h
 exact Px.fin (Fin.ro (.f q q .nil) q (ode (by kernel_rfl)) (.no (.no (.no .nil))) q (.inr q))
theorem con123 (a0:ByteArray) (a1:Int) (r:Int) (h:pf123 a0 a1=some r):Con Try.prog 123 [SS a0,I64 a1] [none,none] (I64 r):=by
 unfold pf123 at h
 refine Con.go (N:=⟨114,[]⟩) Try.func123 q q q q (W.fin ?_)
 refine W.st [(0,SS a0),(1,I64 a1)] ?_
 refine W.sq'<|W.rx [(0,_),(1,_)] (Vk q<|Fi (tn2 q q)) ?_
 refine Px.sq<|W.sq' ?_
 refine W.bk<|W.sq' ?_
 obtain ⟨c4,hj,h⟩:=bnd h
 refine W.rx [(0,SS a0),(1,I64 a1),(9,BB c4)] ?_ ?_
 ·refine Vm q<|Rv (O.mv (.lit q)) ?_
  obtain ⟨x1,hx1,hj⟩:=bnd hj
  refine Rv (O.at' (.lit q) (.lit q) st9 hx1)<|Rv (O.eql (.lit q) (.k q))<|Rv (O.mv (.lit q)) ?_
  rcases cnd hj with ⟨hb2,hj⟩ | ⟨hb2,hj⟩
  ·obtain rfl:=sm hj
   exact RunL.ps q q hb2 q q<|RunL.ps q q hb2 q q<|RunL.ps q q hb2 q q<|RunL.ps q q hb2 q q<|Rv (O.pkT (.lit q) hb2 (.k q))<|Va q<|Fi (tn3 q q q)
  ·refine RunL.v (O.mv (.lit q)) q q (.yb q q hb2)<|RunL.v (O.mv (.lit q)) q q (.yb q q hb2) ?_
   obtain ⟨x3,hx3,hj⟩:=bnd hj
   obtain rfl:=sm hj
   exact RunL.v (O.at' (.lit q) (.lit q) st9 hx3) q q (.yb q q hb2)<|RunL.v (O.eql (.lit q) (.k q)) q q (.yb q q hb2)<|Rv (O.pkF (.lit q) hb2 (.lit q))<|Va q<|Fi (tn3 q q q)
 refine Px.sq<|W.cnd q (fun hb5=>?_) (fun hb5=>?_)
 ·replace h:=cndT hb5 h
  refine W.sq'<|W.sq' ?_
  refine W.rx [(0,_),(1,_),(5,_)] (Vm q<|Rv (O.add (.lit q) (.k q))<|Va q<|Fi (tn3 q q q)) ?_
  refine Px.sq<|W.bk ?_
  obtain ⟨x7,hl,h⟩:=bnd h
  refine W.tr (G1:=[(0,_),(1,_),(5,_)]) (tn3 q q q) ?_
  refine W.lp2 (s:=w64 (a1+1)) (fun (s6:Int)=>[(0,SS a0),(1,I64 a1),(5,I64 s6)]) 1 (fun (x8:Unit)=>[]) (fun (x9:Int)=>[(4,I64 x9)]) hl (fun s6 o h=>?_) (fun x8 hx=>?_) (fun x9 hx=>?_)
  ·clear hl
   refine W.sq'<|W.sq' ?_
   obtain ⟨c12,hj,h⟩:=bnd h
   refine W.rx [(0,SS a0),(1,I64 a1),(5,I64 s6),(31,BB c12)] ?_ ?_
   ·refine Vm q<|Vm q<|Rv (O.lenS (.lit q) st9)<|Rv (O.lss (.lit q) (.lit q))<|Rv (O.mv (.lit q)) ?_
    rcases cnd hj with ⟨hb10,hj⟩ | ⟨hb10,hj⟩
    ·refine RunL.v (O.mv (.lit q)) q q (.yb q q hb10)<|RunL.v (O.mv (.lit q)) q q (.yb q q hb10) ?_
     obtain ⟨x11,hx11,hj⟩:=bnd hj
     obtain rfl:=sm hj
     exact RunL.v (O.at' (.lit q) (.lit q) st9 hx11) q q (.yb q q hb10)<|RunL.v (O.neq (.lit q) (.k q)) q q (.yb q q hb10)<|Rv (O.pkT (.lit q) hb10 (.lit q))<|Fi (tn4 q q q q)
    ·obtain rfl:=sm hj
     exact RunL.ps q q hb10 q q<|RunL.ps q q hb10 q q<|RunL.ps q q hb10 q q<|RunL.ps q q hb10 q q<|Rv (O.pkF (.lit q) hb10 (.k q))<|Fi (tn4 q q q q)
   refine Px.sq<|W.cnd q (fun hb13=>?_) (fun hb13=>?_)
   ·replace h:=cndT hb13 h
    refine W.sk<|Px.sq ?_
    refine W.sq'<|W.bk ?_
    refine W.sq'<|W.sq' ?_
    obtain ⟨x14,hx14,h⟩:=bnd h
    obtain ⟨x15,hx15,h⟩:=bnd h
    refine W.rd [[],[],[0,1],[],[],[3,4],rn 0 6 []] [(0,_),(1,_),(5,_),(40,_)] mixo (by kernel_rfl) (Dv 0 (O.mv (.lit q))<|Dv 1 (O.mv (.lit q))<|Dv 2 (O.at' (.lit q) (.lit q) st9 hx14)<|Dv 3 (O.mv (.lit q))<|Dv 4 (O.mv (.lit q))<|Dv 5 (O.at' (.lit q) (.lit q) st9 hx15)<|Dv 6 (O.eql (.lit q) (.lit q))<|DL.fin q q q (tn4 q q q q)) ?_
    refine Px.sq<|W.cnd q (fun hb16=>?_) (fun hb16=>?_)
    ·replace h:=cndT hb16 h
     refine W.sq'<|W.rx [(4,_)] (Vm q<|Rv (O.add (.lit q) (.k q))<|Va q<|Fi (.n q .nil)) ?_
     refine Px.sq<|W.rt ?_
     refine Px.sqR ?_
     refine Px.bkR ?_
     refine Px.sqR ?_
     obtain rfl:=sm h
     exact Px.r2 (.n q .nil)
    ·replace h:=cndF hb16 h
     refine W.sk<|Px.sq ?_
     refine W.sq' ?_
     obtain ⟨x17,hx17,h⟩:=bnd h
     refine W.rx [(0,_),(1,_),(5,_),(46,_)] (Vm q<|Vm q<|Rv (O.at' (.lit q) (.lit q) st9 hx17)<|Rv (O.eql (.lit q) (.k q))<|Fi (tn4 q q q q)) ?_
     refine Px.sq<|W.cnd q (fun hb18=>?_) (fun hb18=>?_)
     ·replace h:=cndT hb18 h
      refine W.sq'<|W.rx [(0,_),(1,_),(5,_)] (Vm q<|Rv (O.add (.lit q) (.k q))<|RunL.re (G1:=[(0,_),(1,_),(48,_)]) (tn3 q q q)<|Va q<|Fi (tn3 q q q)) ?_
      refine Px.sq<|W.sq' ?_
      obtain ⟨c21,hj,h⟩:=bnd h
      refine W.rx [(0,SS a0),(1,I64 a1),(5,I64 (w64 (s6+1))),(58,BB c21)] ?_ ?_
      ·refine Vm q<|Vm q<|Rv (O.lenS (.lit q) st9)<|Rv (O.lss (.lit q) (.lit q))<|Rv (O.mv (.lit q)) ?_
       rcases cnd hj with ⟨hb19,hj⟩ | ⟨hb19,hj⟩
       ·refine RunL.v (O.mv (.lit q)) q q (.yb q q hb19)<|RunL.v (O.mv (.lit q)) q q (.yb q q hb19) ?_
        obtain ⟨x20,hx20,hj⟩:=bnd hj
        obtain rfl:=sm hj
        exact RunL.v (O.at' (.lit q) (.lit q) st9 hx20) q q (.yb q q hb19)<|RunL.v (O.eql (.lit q) (.k q)) q q (.yb q q hb19)<|Rv (O.pkT (.lit q) hb19 (.lit q))<|Fi (tn4 q q q q)
       ·obtain rfl:=sm hj
        exact RunL.ps q q hb19 q q<|RunL.ps q q hb19 q q<|RunL.ps q q hb19 q q<|RunL.ps q q hb19 q q<|Rv (O.pkF (.lit q) hb19 (.k q))<|Fi (tn4 q q q q)
      refine Px.sq<|W.cnd q (fun hb22=>?_) (fun hb22=>?_)
      ·replace h:=cndT hb22 h
       refine W.sq'<|W.rx [(4,_)] (Vk q<|Fi (.n q .nil)) ?_
       refine Px.sq<|W.rt ?_
       refine Px.bkR ?_
       refine Px.sqR ?_
       obtain rfl:=sm h
       exact Px.r2 (.n q .nil)
      ·replace h:=cndF hb22 h
       refine W.sk<|Px.bk ?_
       refine Px.sq<|W.rx [(0,_),(1,_),(5,_)] (Vm q<|Rv (O.add (.lit q) (.k q))<|RunL.re (G1:=[(0,_),(1,_),(33,_)]) (tn3 q q q)<|Va q<|Fi (tn3 q q q)) ?_
       obtain rfl:=sm h
       exact Px.go (tn3 q q q)
     ·replace h:=cndF hb18 h
      refine W.sk<|Px.bk ?_
      refine Px.sq<|W.rx [(0,_),(1,_),(5,_)] (Vm q<|Rv (O.add (.lit q) (.k q))<|RunL.re (G1:=[(0,_),(1,_),(33,_)]) (tn3 q q q)<|Va q<|Fi (tn3 q q q)) ?_
      obtain rfl:=sm h
      exact Px.go (tn3 q q q)
   ·replace h:=cndF hb13 h
    refine W.xi ?_
    refine Px.sqE ?_
    obtain rfl:=sm h
    exact Px.x2 .nil
  ·subst hx
   refine Px.bkH ?_
   refine Px.sq<|W.sq' ?_
   refine W.rx [(4,_)] (Vk q<|Fi (.n q .nil)) ?_
   refine Px.sq<|W.rt ?_
   refine Px.bkR ?_
   refine Px.sqR ?_
   obtain rfl:=sm h
   exact Px.fin (Fin.ro (.f q q .nil) q (ode (by kernel_rfl)) (.no (.no .nil)) q (.inr q))
  ·subst hx
   refine Px.bkR ?_
   refine Px.sqR ?_
   refine Px.bkR ?_
   refine Px.sqR ?_
   obtain rfl:=sm h
   exact Px.fin (Fin.ro (.f q q .nil) q (ode (by kernel_rfl)) (.no (.no .nil)) q (.inr q))
 ·replace h:=cndF hb5 h
  refine W.sq' ?_
  obtain ⟨x23,hx23,h⟩:=bnd h
  refine W.rx [(0,_),(1,_),(59,_)] (Vm q<|Vm q<|Rv (O.at' (.lit q) (.lit q) st9 hx23)<|Rv (O.eql (.lit q) (.k q))<|Va q<|Fi (tn3 q q q)) ?_
  refine Px.sq<|W.cnd q (fun hb24=>?_) (fun hb24=>?_)
  ·replace h:=cndT hb24 h
   refine W.sq'<|W.sq' ?_
   refine W.rx [(0,_),(6,_)] (Vm q<|Rv (O.add (.lit q) (.k q))<|Va q<|Fi (tn2 q q)) ?_
   refine Px.sq<|W.bk ?_
   obtain ⟨x26,hl,h⟩:=bnd h
   refine W.tr (G1:=[(0,_),(6,_)]) (tn2 q q) ?_
   refine W.lp2 (s:=w64 (a1+1)) (fun (s25:Int)=>[(0,SS a0),(6,I64 s25)]) 3 (fun (x27:Unit)=>[]) (fun (x28:Int)=>[(4,I64 x28)]) hl (fun s25 o h=>?_) (fun x27 hx=>?_) (fun x28 hx=>?_)
   ·clear hl
    refine W.sq'<|W.sq' ?_
    refine W.rx [(0,_),(6,_),(69,_)] (Vm q<|Vm q<|Rv (O.lenS (.lit q) st9)<|Rv (O.lss (.lit q) (.lit q))<|Fi (tn3 q q q)) ?_
    refine Px.sq<|W.cnd q (fun hb29=>?_) (fun hb29=>?_)
    ·replace h:=cndT hb29 h
     refine W.sk<|Px.sq ?_
     refine W.sq'<|W.bk ?_
     refine W.sq' ?_
     obtain ⟨x30,hx30,h⟩:=bnd h
     refine W.rx [(0,_),(6,_),(75,_)] (Vm q<|Vm q<|Rv (O.at' (.lit q) (.lit q) st9 hx30)<|Rv (O.eql (.lit q) (.k q))<|Fi (tn3 q q q)) ?_
     refine Px.sq<|W.cnd q (fun hb31=>?_) (fun hb31=>?_)
     ·replace h:=cndT hb31 h
      refine W.sq'<|W.rx [(4,_)] (Vm q<|Rv (O.add (.lit q) (.k q))<|Va q<|Fi (.n q .nil)) ?_
      refine Px.sq<|W.rt ?_
      refine Px.bkR ?_
      refine Px.sqR ?_
      obtain rfl:=sm h
      exact Px.r2 (.n q .nil)
     ·replace h:=cndF hb31 h
      refine W.sk<|Px.bk ?_
      refine Px.sq<|W.rx [(0,_),(6,_)] (Vm q<|Rv (O.add (.lit q) (.k q))<|RunL.re (G1:=[(0,_),(71,_)]) (tn2 q q)<|Va q<|Fi (tn2 q q)) ?_
      obtain rfl:=sm h
      exact Px.go (tn2 q q)
    ·replace h:=cndF hb29 h
     refine W.xi ?_
     refine Px.sqE ?_
     obtain rfl:=sm h
     exact Px.x2 .nil
   ·subst hx
    refine Px.bkH ?_
    refine Px.sq<|W.sq' ?_
    refine W.rx [(4,_)] (Vk q<|Fi (.n q .nil)) ?_
    refine Px.sq<|W.rt ?_
    refine Px.bkR ?_
    refine Px.sqR ?_
    obtain rfl:=sm h
    exact Px.fin (Fin.ro (.f q q .nil) q (ode (by kernel_rfl)) (.no (.no .nil)) q (.inr q))
   ·subst hx
    refine Px.bkR ?_
    refine Px.sqR ?_
    refine Px.bkR ?_
    refine Px.sqR ?_
    obtain rfl:=sm h
    exact Px.fin (Fin.ro (.f q q .nil) q (ode (by kernel_rfl)) (.no (.no .nil)) q (.inr q))
  ·replace h:=cndF hb24 h
   refine W.sq' ?_
   obtain ⟨x32,hx32,h⟩:=bnd h
   refine W.rx [(0,_),(1,_),(78,_)] (Vm q<|Vm q<|Rc (PC.go (.cc (.lit q) (.cc (.lit q) (.cc (.k q) .nil))) (con124 a0 a1 ({ data:=#[47,47] }) _ hx32) call124 q)<|Va q<|Fi (tn3 q q q)) ?_
   refine Px.sq<|W.cnd q (fun hb33=>?_) (fun hb33=>?_)
   ·replace h:=cndT hb33 h
    refine W.sq'<|W.rx [(0,_),(7,_)] (Vm q<|Va q<|Fi (tn2 q q)) ?_
    refine Px.sq<|W.sq' ?_
    refine W.bk ?_
    obtain ⟨x35,hl,h⟩:=bnd h
    refine W.tr (G1:=[(0,_),(7,_)]) (tn2 q q) ?_
    refine W.lp1 (s:=a1) (fun (s34:Int)=>[(0,SS a0),(7,I64 s34)]) 5 (fun (x35:Int)=>[(7,I64 x35)]) hl (fun s34 o h=>?_) ?_
    ·clear hl
     refine W.sq'<|W.sq' ?_
     obtain ⟨c39,hj,h⟩:=bnd h
     refine W.rx [(0,SS a0),(7,I64 s34),(92,BB c39)] ?_ ?_
     ·refine Vm q<|Vm q<|Rv (O.lenS (.lit q) st9)<|Rv (O.lss (.lit q) (.lit q))<|Rv (O.mv (.lit q)) ?_
      rcases cnd hj with ⟨hb37,hj⟩ | ⟨hb37,hj⟩
      ·refine RunL.v (O.mv (.lit q)) q q (.yb q q hb37)<|RunL.v (O.mv (.lit q)) q q (.yb q q hb37) ?_
       obtain ⟨x38,hx38,hj⟩:=bnd hj
       obtain rfl:=sm hj
       exact RunL.v (O.at' (.lit q) (.lit q) st9 hx38) q q (.yb q q hb37)<|RunL.v (O.neq (.lit q) (.k q)) q q (.yb q q hb37)<|Rv (O.pkT (.lit q) hb37 (.lit q))<|Fi (tn3 q q q)
      ·obtain rfl:=sm hj
       exact RunL.ps q q hb37 q q<|RunL.ps q q hb37 q q<|RunL.ps q q hb37 q q<|RunL.ps q q hb37 q q<|Rv (O.pkF (.lit q) hb37 (.k q))<|Fi (tn3 q q q)
     refine Px.sq<|W.cnd q (fun hb40=>?_) (fun hb40=>?_)
     ·replace h:=cndT hb40 h
      refine W.sk<|Px.sq ?_
      refine W.bk<|W.rx [(0,_),(7,_)] (Vm q<|Rv (O.add (.lit q) (.k q))<|RunL.re (G1:=[(0,_),(94,_)]) (tn2 q q)<|Va q<|Fi (tn2 q q)) ?_
      refine Px.bk ?_
      obtain rfl:=sm h
      exact Px.go (tn2 q q)
     ·replace h:=cndF hb40 h
      refine W.xi ?_
      refine Px.sqE ?_
      obtain rfl:=sm h
      exact Px.x1 (.n q .nil)
    refine Px.bkH ?_
    refine Px.sq<|W.sq' ?_
    refine W.rx [(4,_)] (Vm q<|Va q<|Fi (.n q .nil)) ?_
    refine Px.sq<|W.rt ?_
    refine Px.bkR ?_
    refine Px.sqR ?_
    obtain rfl:=sm h
    exact Px.fin (Fin.ro (.f q q .nil) q (ode (by kernel_rfl)) (.no (.no .nil)) q (.inr q))
   ·replace h:=cndF hb33 h
    refine W.sq' ?_
    obtain ⟨x41,hx41,h⟩:=bnd h
    refine W.rx [(0,_),(1,_),(96,_)] (Vm q<|Vm q<|Rc (PC.go (.cc (.lit q) (.cc (.lit q) (.cc (.k q) .nil))) (con124 a0 a1 ({ data:=#[47,42] }) _ hx41) call124 q)<|Va q<|Fi (tn3 q q q)) ?_
    refine Px.sq<|W.cnd q (fun hb42=>?_) (fun hb42=>?_)
    ·replace h:=cndT hb42 h
     refine W.sq'<|W.sq' ?_
     refine W.rx [(0,_),(8,_)] (Vm q<|Rv (O.add (.lit q) (.k q))<|Va q<|Fi (tn2 q q)) ?_
     refine Px.sq<|W.bk ?_
     obtain ⟨x44,hl,h⟩:=bnd h
     refine W.tr (G1:=[(0,_),(8,_)]) (tn2 q q) ?_
     refine W.lp2 (s:=w64 (a1+2)) (fun (s43:Int)=>[(0,SS a0),(8,I64 s43)]) 7 (fun (x45:Unit)=>[]) (fun (x46:Int)=>[(4,I64 x46)]) hl (fun s43 o h=>?_) (fun x45 hx=>?_) (fun x46 hx=>?_)
     ·clear hl
      refine W.sq'<|W.sq' ?_
      refine W.rx [(0,_),(8,_),(105,_)] (Vm q<|Vm q<|Rv (O.lenS (.lit q) st9)<|Rv (O.lss (.lit q) (.lit q))<|Fi (tn3 q q q)) ?_
      refine Px.sq<|W.cnd q (fun hb47=>?_) (fun hb47=>?_)
      ·replace h:=cndT hb47 h
       refine W.sk<|Px.sq ?_
       refine W.sq'<|W.bk ?_
       refine W.sq' ?_
       obtain ⟨x48,hx48,h⟩:=bnd h
       refine W.rx [(0,_),(8,_),(110,_)] (Vm q<|Vm q<|Rc (PC.go (.cc (.lit q) (.cc (.lit q) (.cc (.k q) .nil))) (con124 a0 s43 ({ data:=#[42,47] }) _ hx48) call124 q)<|Fi (tn3 q q q)) ?_
       refine Px.sq<|W.cnd q (fun hb49=>?_) (fun hb49=>?_)
       ·replace h:=cndT hb49 h
        refine W.sq'<|W.rx [(4,_)] (Vm q<|Rv (O.add (.lit q) (.k q))<|Va q<|Fi (.n q .nil)) ?_
        refine Px.sq<|W.rt ?_
        refine Px.bkR ?_
        refine Px.sqR ?_
        obtain rfl:=sm h
        exact Px.r2 (.n q .nil)
       ·replace h:=cndF hb49 h
        refine W.sk<|Px.bk ?_
        refine Px.sq<|W.rx [(0,_),(8,_)] (Vm q<|Rv (O.add (.lit q) (.k q))<|RunL.re (G1:=[(0,_),(107,_)]) (tn2 q q)<|Va q<|Fi (tn2 q q)) ?_
        obtain rfl:=sm h
        exact Px.go (tn2 q q)
      ·replace h:=cndF hb47 h
       refine W.xi ?_
       refine Px.sqE ?_
       obtain rfl:=sm h
       exact Px.x2 .nil
     ·subst hx
      refine Px.bkH ?_
      refine Px.sq<|W.sq' ?_
      refine W.rx [(4,_)] (Vk q<|Fi (.n q .nil)) ?_
      refine Px.sq<|W.rt ?_
      refine Px.bkR ?_
      refine Px.sqR ?_
      obtain rfl:=sm h
      exact Px.fin (Fin.ro (.f q q .nil) q (ode (by kernel_rfl)) (.no (.no .nil)) q (.inr q))
     ·subst hx
      refine Px.bkR ?_
      refine Px.sqR ?_
      refine Px.bkR ?_
      refine Px.sqR ?_
      obtain rfl:=sm h
      exact Px.fin (Fin.ro (.f q q .nil) q (ode (by kernel_rfl)) (.no (.no .nil)) q (.inr q))
    ·replace h:=cndF hb42 h
     refine W.sk<|Px.bk ?_
     refine Px.sq<|W.sq' ?_
     refine W.rx [(4,_)] (Vm q<|Va q<|Fi (.n q .nil)) ?_
     refine Px.sq<|W.rt ?_
     obtain rfl:=sm h
     exact Px.fin (Fin.ro (.f q q .nil) q (ode (by kernel_rfl)) (.no (.no .nil)) q (.inr q))
theorem con119 (a0:ByteArray) (a1:Int) (r:Int) (h:pf119 a0 a1=some r):Con Try.prog 119 [SS a0,I64 a1] [none,none] (I64 r):=by
 unfold pf119 at h
 refine Con.go (N:=⟨53,[]⟩) Try.func119 q q q q (W.fin ?_)
 refine W.st [(0,SS a0),(1,I64 a1)] ?_
 refine W.sq'<|W.rx [(0,_),(1,_)] (Vk q<|Fi (tn2 q q)) ?_
 refine Px.sq<|W.sq' ?_
 refine W.sq' ?_
 obtain ⟨c4,hj,h⟩:=bnd h
 refine W.rx [(0,SS a0),(1,I64 a1),(21,BB c4)] ?_ ?_
 ·refine Vm q<|Rv (O.lss (.lit q) (.k q))<|Rv (O.mv (.lit q)) ?_
  rcases cnd hj with ⟨hb1,hj⟩ | ⟨hb1,hj⟩
  ·obtain rfl:=sm hj
   exact RunL.ps q q hb1 q q<|RunL.ps q q hb1 q q<|RunL.ps q q hb1 q q<|RunL.ps q q hb1 q q<|Rv (O.pkT (.lit q) hb1 (.k q))<|Vm q<|RunL.ps q q q q q<|RunL.ps q q q q q<|RunL.ps q q q q q<|RunL.ps q q q q q<|Rv (O.pkT (.lit q) q (.k q))<|Fi (tn3 q q q)
  ·refine RunL.v (O.mv (.lit q)) q q (.yb q q hb1)<|RunL.v (O.mv (.lit q)) q q (.yb q q hb1)<|RunL.v (O.lenS (.lit q) st9) q q (.yb q q hb1)<|RunL.v (O.geq (.lit q) (.lit q)) q q (.yb q q hb1)<|Rv (O.pkF (.lit q) hb1 (.lit q))<|Rv (O.mv (.lit q)) ?_
   rcases cnd hj with ⟨hb2,hj⟩ | ⟨hb2,hj⟩
   ·obtain rfl:=sm hj
    exact RunL.ps q q hb2 q q<|RunL.ps q q hb2 q q<|RunL.ps q q hb2 q q<|RunL.ps q q hb2 q q<|Rv (O.pkT (.lit q) hb2 (.k q))<|Fi (tn3 q q q)
   ·refine RunL.v (O.mv (.lit q)) q q (.yb q q hb2)<|RunL.v (O.mv (.lit q)) q q (.yb q q hb2) ?_
    obtain ⟨x3,hx3,hj⟩:=bnd hj
    obtain rfl:=sm hj
    exact RunL.v (O.at' (.lit q) (.lit q) st9 hx3) q q (.yb q q hb2)<|RunL.v (O.neq (.lit q) (.k q)) q q (.yb q q hb2)<|Rv (O.pkF (.lit q) hb2 (.lit q))<|Fi (tn3 q q q)
 refine Px.sq<|W.cnd q (fun hb5=>?_) (fun hb5=>?_)
 ·replace h:=cndT hb5 h
  refine W.sq'<|W.rx [(4,_)] (Vk q<|Fi (.n q .nil)) ?_
  refine Px.sq<|W.rt ?_
  refine Px.sqR ?_
  obtain rfl:=sm h
  exact Px.fin (Fin.ro (.f q q .nil) q (ode (by kernel_rfl)) (.no (.no .nil)) q (.inr q))
 ·replace h:=cndF hb5 h
  refine W.sk<|Px.sq ?_
  refine W.sq'<|W.rx [(0,_),(1,_),(5,_)] (Vk q<|Fi (tn3 q q q)) ?_
  refine Px.sq<|W.sq' ?_
  refine W.sq'<|W.rx [(0,_),(5,_),(6,_)] (Vm q<|Va q<|Fi (tn3 q q q)) ?_
  refine Px.sq<|W.bk ?_
  obtain ⟨x7,hl,h⟩:=bnd h
  refine W.tr (G1:=[(0,_),(5,_),(6,_)]) (tn3 q q q) ?_
  refine W.lp2 (s:=(0,a1)) (fun (s6:Int × Int)=>[(0,SS a0),(5,I64 s6.1),(6,I64 s6.2)]) 0 (fun (x8:Unit)=>[]) (fun (x9:Int)=>[(4,I64 x9)]) hl (fun s6 o h=>?_) (fun x8 hx=>?_) (fun x9 hx=>?_)
  ·clear hl
   refine W.sq'<|W.sq' ?_
   refine W.rx [(0,_),(5,_),(6,_),(26,_)] (Vm q<|Vm q<|Rv (O.lenS (.lit q) st9)<|Rv (O.lss (.lit q) (.lit q))<|Fi (tn4 q q q q)) ?_
   refine Px.sq<|W.cnd q (fun hb10=>?_) (fun hb10=>?_)
   ·replace h:=cndT hb10 h
    refine W.sk<|Px.sq ?_
    refine W.bk<|W.sq' ?_
    obtain ⟨x11,hx11,h⟩:=bnd h
    refine W.rx [(0,_),(5,_),(6,_),(7,_)] (Vm q<|Vm q<|Rc (PC.go (.cc (.lit q) (.cc (.lit q) .nil)) (con123 a0 s6.2 _ hx11) call123 q)<|Va q<|Fi (tn4 q q q q)) ?_
    refine Px.sq<|W.sq' ?_
    refine W.sq'<|W.rx [(0,_),(5,_),(6,_),(7,_),(31,_)] (Vm q<|Rv (O.lss (.lit q) (.k q))<|Fi (tn5 q q q q q)) ?_
    refine Px.sq<|W.cnd q (fun hb12=>?_) (fun hb12=>?_)
    ·replace h:=cndT hb12 h
     refine W.sq'<|W.rx [(4,_)] (Vk q<|Fi (.n q .nil)) ?_
     refine Px.sq<|W.rt ?_
     refine Px.sqR ?_
     refine Px.bkR ?_
     obtain rfl:=sm h
     exact Px.r2 (.n q .nil)
    ·replace h:=cndF hb12 h
     refine W.sk<|Px.sq ?_
     refine W.sq'<|W.sq' ?_
     refine W.rx [(0,_),(5,_),(6,_),(7,_),(34,_)] (Vm q<|Vm q<|Rv (O.gtr (.lit q) (.lit q))<|Fi (tn5 q q q q q)) ?_
     refine Px.sq<|W.cnd q (fun hb13=>?_) (fun hb13=>?_)
     ·replace h:=cndT hb13 h
      refine W.sq'<|W.rx [(0,_),(5,_),(6,_)] (Vm q<|RunL.re (G1:=[(0,_),(5,_),(35,_)]) (tn3 q q q)<|Va q<|Fi (tn3 q q q)) ?_
      refine Px.sq<|W.xi ?_
      refine Px.sqE ?_
      refine Px.bkH ?_
      obtain rfl:=sm h
      exact Px.go (tn3 q q q)
     ·replace h:=cndF hb13 h
      refine W.sk<|Px.sq ?_
      refine W.sq'<|W.sq' ?_
      obtain ⟨x14,hx14,h⟩:=bnd h
      refine W.rx [(0,_),(5,_),(6,_),(39,_)] (Vm q<|Vm q<|Rv (O.at' (.lit q) (.lit q) st9 hx14)<|Rv (O.eql (.lit q) (.k q))<|Fi (tn4 q q q q)) ?_
      refine Px.sq ?_
      obtain ⟨j15,hj,h⟩:=bnd h
      refine W.jn [(0,SS a0),(5,I64 j15),(6,I64 s6.2)] ?_ ?_
      ·clear h; have h:=hj; clear hj
       refine W.cnd q (fun hb16=>?_) (fun hb16=>?_)
       ·replace h:=cndT hb16 h
        refine W.rx [(0,_),(5,_),(6,_)] (Vm q<|Rv (O.add (.lit q) (.k q))<|RunL.re (G1:=[(0,_),(6,_),(41,_)]) (tn3 q q q)<|Va q<|Fi (tn3 q q q)) ?_
        obtain rfl:=sm h
        exact Px.jn (tn3 q q q)
       ·replace h:=cndF hb16 h
        refine W.sk ?_
        obtain rfl:=sm h
        exact Px.jn (tn3 q q q)
      refine Px.sq<|W.sq' ?_
      refine W.sq' ?_
      obtain ⟨x17,hx17,h⟩:=bnd h
      refine W.rx [(0,_),(5,_),(6,_),(45,_)] (Vm q<|Vm q<|Rv (O.at' (.lit q) (.lit q) st9 hx17)<|Rv (O.eql (.lit q) (.k q))<|Fi (tn4 q q q q)) ?_
      refine Px.sq ?_
      obtain ⟨j18,hj,h⟩:=bnd h
      refine W.jn [(0,SS a0),(5,I64 j18),(6,I64 s6.2)] ?_ ?_
      ·clear h; have h:=hj; clear hj
       refine W.cnd q (fun hb19=>?_) (fun hb19=>?_)
       ·replace h:=cndT hb19 h
        refine W.rx [(0,_),(5,_),(6,_)] (Vm q<|Rv (O.sub (.lit q) (.k q))<|RunL.re (G1:=[(0,_),(6,_),(47,_)]) (tn3 q q q)<|Va q<|Fi (tn3 q q q)) ?_
        obtain rfl:=sm h
        exact Px.jn (tn3 q q q)
       ·replace h:=cndF hb19 h
        refine W.sk ?_
        obtain rfl:=sm h
        exact Px.jn (tn3 q q q)
      refine Px.sq<|W.sq' ?_
      refine W.rx [(0,_),(5,_),(6,_)] (Vm q<|Rv (O.add (.lit q) (.k q))<|RunL.re (G1:=[(0,_),(5,_),(49,_)]) (tn3 q q q)<|Va q<|Fi (tn3 q q q)) ?_
      refine Px.sq<|W.sq' ?_
      refine W.rx [(0,_),(5,_),(6,_),(51,_)] (Vm q<|Rv (O.eql (.lit q) (.k q))<|Fi (tn4 q q q q)) ?_
      refine Px.sq<|W.cnd q (fun hb20=>?_) (fun hb20=>?_)
      ·replace h:=cndT hb20 h
       refine W.sq'<|W.rx [(4,_)] (Vm q<|Va q<|Fi (.n q .nil)) ?_
       refine Px.sq<|W.rt ?_
       refine Px.bkR ?_
       obtain rfl:=sm h
       exact Px.r2 (.n q .nil)
      ·replace h:=cndF hb20 h
       refine W.sk<|Px.bk ?_
       obtain rfl:=sm h
       exact Px.go (tn3 q q q)
   ·replace h:=cndF hb10 h
    refine W.xi ?_
    refine Px.sqE ?_
    obtain rfl:=sm h
    exact Px.x2 .nil
  ·subst hx
   refine Px.bkH ?_
   refine Px.sq<|W.sq' ?_
   refine W.rx [(4,_)] (Vk q<|Fi (.n q .nil)) ?_
   refine Px.sq<|W.rt ?_
   obtain rfl:=sm h
   exact Px.fin (Fin.ro (.f q q .nil) q (ode (by kernel_rfl)) (.no (.no .nil)) q (.inr q))
  ·subst hx
   refine Px.bkR ?_
   refine Px.sqR ?_
   obtain rfl:=sm h
   exact Px.fin (Fin.ro (.f q q .nil) q (ode (by kernel_rfl)) (.no (.no .nil)) q (.inr q))
theorem con112 (a0:Alt) (r:Bool) (h:pf112 a0=some r):Con Try.prog 112 [.agg (eAlt_0.cells a0)] [none] (BB r):=by
 unfold pf112 at h
 refine Con.go (N:=⟨54,[]⟩) Try.func112 q q q q (W.fin ?_)
 refine W.st [(0,.agg (eAlt_0.cells a0))] ?_
 refine W.sq'<|W.rx [(1,_)] (Rv (O.box (.aggF q q) q)<|Vk q<|Fi (.n q .nil)) ?_
 refine Px.sq<|W.sq' ?_
 refine W.sq'<|W.rx [(1,_),(3,_)] (Vk q<|Fi (tn2 q q)) ?_
 refine Px.sq<|W.bk ?_
 obtain ⟨x2,hl,h⟩:=bnd h
 refine W.tr (G1:=[(1,_),(3,_)]) (tn2 q q) ?_
 refine W.lp2 (s:=0) (fun (s1:Int)=>[(1,.obj (eAlt_0.cells a0)),(3,I64 s1)]) 0 (fun (x3:Unit)=>[(1,.obj (eAlt_0.cells a0))]) (fun (x4:Bool)=>[(2,BB x4)]) hl (fun s1 o h=>?_) (fun x3 hx=>?_) (fun x4 hx=>?_)
 ·clear hl
  refine W.sq'<|W.sq' ?_
  refine W.rx [(1,_),(3,_),(9,_)] (Vm q<|Rv (O.fO q (.obj q) fd93_0 q)<|Rv (O.ldO (y:=iR ePart a0.Parts) q (.ptr q) ct91 q q)<|Rv (O.lenI (.imm q) sl91)<|Rv (O.lss (.lit q) (.lit q))<|Fi (tn3 q q q)) ?_
  refine Px.sq<|W.cnd q (fun hb5=>?_) (fun hb5=>?_)
  ·replace h:=cndT hb5 h
   refine W.sk<|Px.sq ?_
   refine W.sq'<|W.bk ?_
   refine W.sq' ?_
   obtain ⟨x6,hx6,h⟩:=bnd h
   refine W.rx [(1,_),(3,_),(4,_)] (Rv (O.fO q (.obj q) fd93_0 q)<|Rv (O.ldO (y:=iR ePart a0.Parts) q (.ptr q) ct91 q q)<|Vm q<|Rv (O.ixI (.imm q) (.lit q) sl91 hx6)<|Rv (O.ldIN (cs':=[SS x6.Sym.Name,BB x6.Sym.Lit,I64 x6.Sym.Num,I64 x6.Sym.At,SS x6.Code,I64 x6.At]) (.iptr q) at90 q q)<|Rv (O.al (cs:=[SS S0,BB false,I64 0,I64 0,SS S0,I64 0]) ze90 q q)<|RunL.sO (G2:=[(1,_),(3,_),(4,_)]) (cs2:=[SS x6.Sym.Name,BB x6.Sym.Lit,I64 x6.Sym.Num,I64 x6.Sym.At,SS x6.Code,I64 x6.At]) q (.obj q) (.aggF q q) q sz90 q q q q (.n q q (.n q q (.b q .nil)))<|Fi (tn3 q q q)) ?_
   refine Px.sq<|W.sq' ?_
   obtain ⟨c18,hj,h⟩:=bnd h
   refine W.rd [[],[0],[0,1],[0,1,2],[0,1,2,3],rn 0 5 [],rn 0 6 [],rn 0 7 [],rn 0 8 [],rn 0 9 [],rn 0 10 [],rn 0 11 [],rn 0 12 [],rn 0 13 [],rn 0 14 [],rn 0 15 [],rn 0 16 [],rn 0 17 [],rn 0 18 [],rn 0 19 [],rn 0 20 [],rn 0 21 [],rn 0 19 [],rn 0 19 [22],rn 0 19 [22,23],rn 0 25 [],rn 0 26 [],rn 0 27 [],rn 0 28 []] [(1,.obj (eAlt_0.cells a0)),(3,I64 s1),(45,BB c18)] mixo (by kernel_rfl) ?_ ?_
   ·refine Dv 0 (O.fO q (.obj q) fd90_1 q)<|Dv 1 (O.ldO (y:=SS x6.Code) q (.ptr q) ct9 q q)<|Dv 2 (O.eqS (.lit q) (.k q))<|Dv 3 (O.mv (.lit q)) ?_
    rcases cnd hj with ⟨hb7,hj⟩ | ⟨hb7,hj⟩
    ·refine DL.v 4 (O.fO q (.obj q) fd90_0 q) q q q q (.yb q q hb7)<|DL.v 5 (O.ldON (cs':=[SS x6.Sym.Name,BB x6.Sym.Lit,I64 x6.Sym.Num,I64 x6.Sym.At]) q (.ptr q) at88 q q) q q q q (.yb q q hb7) ?_
     obtain ⟨x8,hx8,hj⟩:=bnd hj
     refine DL.c 6 (PC.go (.cc (.aggF q q) (.cc (.k q) (.cc (.k q) .nil))) (con116 x6.Sym false true _ hx8) call116 q) q q q q (.yb q q hb7)<|DL.v 7 (O.not (.lit q)) q q q q (.yb q q hb7)<|Dv 8 (O.pkT (.lit q) hb7 (.lit q))<|Dv 9 (O.mv (.lit q)) ?_
     rcases cnd hj with ⟨hb9,hj⟩ | ⟨hb9,hj⟩
     ·obtain rfl:=sm hj
      exact DL.ps 10 q q hb9 q q q q<|DL.ps 11 q q hb9 q q q q<|DL.ps 12 q q hb9 q q q q<|DL.ps 13 q q hb9 q q q q<|DL.pu 14 q q q q q q<|DL.pu 15 q q q q q q<|DL.pu 16 q q q q q q<|DL.pu 17 q q q q q q<|DL.pu 18 q q q q q q<|DL.pu 19 q q q q q q<|DL.pu 20 q q q q q q<|DL.pu 21 q q q q q q<|DL.pu 22 q q q q q q<|DL.pu 23 q q q q q q<|DL.pu 24 q q q q q q<|DL.pu 25 q q q q q q<|DL.pu 26 q q q q q q<|DL.ps 27 q q hb9 q q q q<|Dv 28 (O.pkT (.lit q) hb9 (.k q))<|DL.fin q q q (tn3 q q q)
     ·refine DL.v 10 (O.fO q (.obj q) fd90_1 q) q q q q (.yb q q hb9)<|DL.v 11 (O.ldO (y:=SS x6.Code) q (.ptr q) ct9 q q) q q q q (.yb q q hb9)<|DL.v 12 (O.neS (.lit q) (.k q)) q q q q (.yb q q hb9)<|DL.v 13 (O.mv (.lit q)) q q q q (.yb q q hb9) ?_
      rcases cnd hj with ⟨hb10,hj⟩ | ⟨hb10,hj⟩
      ·refine DL.v 14 (O.fO q (.obj q) fd90_0 q) q q q q (.yb q q hb10)<|DL.v 15 (O.ldON (cs':=[SS x6.Sym.Name,BB x6.Sym.Lit,I64 x6.Sym.Num,I64 x6.Sym.At]) q (.ptr q) at88 q q) q q q q (.yb q q hb10) ?_
       obtain ⟨x11,hx11,hj⟩:=bnd hj
       refine DL.c 16 (PC.go (.cc (.aggF q q) .nil) (con118 x6.Sym _ hx11) call118 q) q q q q (.yb q q hb10)<|DL.v 17 (O.not (.lit q)) q q q q (.yb q q hb10)<|DL.v 18 (O.mv (.lit q)) q q q q (.yb q q hb10) ?_
       rcases cnd hj with ⟨hb12,hj⟩ | ⟨hb12,hj⟩
       ·obtain rfl:=sm hj
        exact DL.ps 19 q q hb12 q q q q<|DL.ps 20 q q hb12 q q q q<|DL.ps 21 q q hb12 q q q q<|DL.ps 22 q q hb12 q q q q<|DL.ps 23 q q hb12 q q q q<|DL.ps 24 q q hb12 q q q q<|DL.ps 25 q q hb12 q q q q<|DL.v 26 (O.pkT (.lit q) hb12 (.k q)) q q q q (.yb q q hb10)<|DL.v 27 (O.pkT (.lit q) hb10 (.lit q)) q q q q (.yb q q hb9)<|Dv 28 (O.pkF (.lit q) hb9 (.lit q))<|DL.fin q q q (tn3 q q q)
       ·refine DL.v 19 (O.fO q (.obj q) fd90_1 q) q q q q (.yb q q hb12)<|DL.v 20 (O.ldO (y:=SS x6.Code) q (.ptr q) ct9 q q) q q q q (.yb q q hb12) ?_
        obtain ⟨x13,hx13,hj⟩:=bnd hj
        obtain rfl:=sm hj
        exact DL.c 21 (PC.go (.cc (.lit q) (.cc (.k q) .nil)) (con119 x6.Code 0 _ hx13) call119 q) q q q q (.yb q q hb12)<|DL.v 22 (O.fO q (.obj q) fd90_1 q) q q q q (.yb q q hb12)<|DL.v 23 (O.ldO (y:=SS x6.Code) q (.ptr q) ct9 q q) q q q q (.yb q q hb12)<|DL.v 24 (O.lenS (.lit q) st9) q q q q (.yb q q hb12)<|DL.v 25 (O.neq (.lit q) (.lit q)) q q q q (.yb q q hb12)<|DL.v 26 (O.pkF (.lit q) hb12 (.lit q)) q q q q (.yb q q hb10)<|DL.v 27 (O.pkT (.lit q) hb10 (.lit q)) q q q q (.yb q q hb9)<|Dv 28 (O.pkF (.lit q) hb9 (.lit q))<|DL.fin q q q (tn3 q q q)
      ·obtain rfl:=sm hj
       exact DL.ps 14 q q hb10 q q q q<|DL.ps 15 q q hb10 q q q q<|DL.ps 16 q q hb10 q q q q<|DL.ps 17 q q hb10 q q q q<|DL.ps 18 q q hb10 q q q q<|DL.pu 19 q q q q q q<|DL.pu 20 q q q q q q<|DL.pu 21 q q q q q q<|DL.pu 22 q q q q q q<|DL.pu 23 q q q q q q<|DL.pu 24 q q q q q q<|DL.pu 25 q q q q q q<|DL.ps 26 q q hb10 q q q q<|DL.v 27 (O.pkF (.lit q) hb10 (.k q)) q q q q (.yb q q hb9)<|Dv 28 (O.pkF (.lit q) hb9 (.lit q))<|DL.fin q q q (tn3 q q q)
    ·refine DL.ps 4 q q hb7 q q q q<|DL.ps 5 q q hb7 q q q q<|DL.ps 6 q q hb7 q q q q<|DL.ps 7 q q hb7 q q q q<|Dv 8 (O.pkF (.lit q) hb7 (.k q))<|Dv 9 (O.mv (.lit q))<|DL.v 10 (O.fO q (.obj q) fd90_1 q) q q q q (.yb q q q)<|DL.v 11 (O.ldO (y:=SS x6.Code) q (.ptr q) ct9 q q) q q q q (.yb q q q)<|DL.v 12 (O.neS (.lit q) (.k q)) q q q q (.yb q q q)<|DL.v 13 (O.mv (.lit q)) q q q q (.yb q q q) ?_
     rcases cnd hj with ⟨hb14,hj⟩ | ⟨hb14,hj⟩
     ·refine DL.v 14 (O.fO q (.obj q) fd90_0 q) q q q q (.yb q q hb14)<|DL.v 15 (O.ldON (cs':=[SS x6.Sym.Name,BB x6.Sym.Lit,I64 x6.Sym.Num,I64 x6.Sym.At]) q (.ptr q) at88 q q) q q q q (.yb q q hb14) ?_
      obtain ⟨x15,hx15,hj⟩:=bnd hj
      refine DL.c 16 (PC.go (.cc (.aggF q q) .nil) (con118 x6.Sym _ hx15) call118 q) q q q q (.yb q q hb14)<|DL.v 17 (O.not (.lit q)) q q q q (.yb q q hb14)<|DL.v 18 (O.mv (.lit q)) q q q q (.yb q q hb14) ?_
      rcases cnd hj with ⟨hb16,hj⟩ | ⟨hb16,hj⟩
      ·obtain rfl:=sm hj
       exact DL.ps 19 q q hb16 q q q q<|DL.ps 20 q q hb16 q q q q<|DL.ps 21 q q hb16 q q q q<|DL.ps 22 q q hb16 q q q q<|DL.ps 23 q q hb16 q q q q<|DL.ps 24 q q hb16 q q q q<|DL.ps 25 q q hb16 q q q q<|DL.v 26 (O.pkT (.lit q) hb16 (.k q)) q q q q (.yb q q hb14)<|DL.v 27 (O.pkT (.lit q) hb14 (.lit q)) q q q q (.yb q q q)<|Dv 28 (O.pkF (.lit q) q (.lit q))<|DL.fin q q q (tn3 q q q)
      ·refine DL.v 19 (O.fO q (.obj q) fd90_1 q) q q q q (.yb q q hb16)<|DL.v 20 (O.ldO (y:=SS x6.Code) q (.ptr q) ct9 q q) q q q q (.yb q q hb16) ?_
       obtain ⟨x17,hx17,hj⟩:=bnd hj
       obtain rfl:=sm hj
       exact DL.c 21 (PC.go (.cc (.lit q) (.cc (.k q) .nil)) (con119 x6.Code 0 _ hx17) call119 q) q q q q (.yb q q hb16)<|DL.v 22 (O.fO q (.obj q) fd90_1 q) q q q q (.yb q q hb16)<|DL.v 23 (O.ldO (y:=SS x6.Code) q (.ptr q) ct9 q q) q q q q (.yb q q hb16)<|DL.v 24 (O.lenS (.lit q) st9) q q q q (.yb q q hb16)<|DL.v 25 (O.neq (.lit q) (.lit q)) q q q q (.yb q q hb16)<|DL.v 26 (O.pkF (.lit q) hb16 (.lit q)) q q q q (.yb q q hb14)<|DL.v 27 (O.pkT (.lit q) hb14 (.lit q)) q q q q (.yb q q q)<|Dv 28 (O.pkF (.lit q) q (.lit q))<|DL.fin q q q (tn3 q q q)
     ·obtain rfl:=sm hj
      exact DL.ps 14 q q hb14 q q q q<|DL.ps 15 q q hb14 q q q q<|DL.ps 16 q q hb14 q q q q<|DL.ps 17 q q hb14 q q q q<|DL.ps 18 q q hb14 q q q q<|DL.pu 19 q q q q q q<|DL.pu 20 q q q q q q<|DL.pu 21 q q q q q q<|DL.pu 22 q q q q q q<|DL.pu 23 q q q q q q<|DL.pu 24 q q q q q q<|DL.pu 25 q q q q q q<|DL.ps 26 q q hb14 q q q q<|DL.v 27 (O.pkF (.lit q) hb14 (.k q)) q q q q (.yb q q q)<|Dv 28 (O.pkF (.lit q) q (.lit q))<|DL.fin q q q (tn3 q q q)
   refine Px.sq<|W.cnd q (fun hb19=>?_) (fun hb19=>?_)
   ·replace h:=cndT hb19 h
    refine W.sq'<|W.rx [(2,_)] (Vk q<|Fi (.n q .nil)) ?_
    refine Px.sq<|W.rt ?_
    refine Px.bkR ?_
    refine Px.sqR ?_
    obtain rfl:=sm h
    exact Px.r2 (.n q .nil)
   ·replace h:=cndF hb19 h
    refine W.sk<|Px.bk ?_
    refine Px.sq<|W.rx [(1,_),(3,_)] (Vm q<|Rv (O.add (.lit q) (.k q))<|RunL.re (G1:=[(1,_),(11,_)]) (tn2 q q)<|Va q<|Fi (tn2 q q)) ?_
    obtain rfl:=sm h
    exact Px.go (tn2 q q)
  ·replace h:=cndF hb5 h
   refine W.xi ?_
   refine Px.sqE ?_
   obtain rfl:=sm h
   exact Px.x2 (.n q .nil)
 ·subst hx
  refine Px.bkH ?_
  refine Px.sq<|W.sq' ?_
  obtain ⟨c23,hj,h⟩:=bnd h
  refine W.rx [(2,BB c23)] ?_ ?_
  ·refine Rv (O.fO q (.obj q) fd93_1 q)<|Rv (O.ldON (cs':=[SS a0.Prec.Name,BB a0.Prec.Lit,I64 a0.Prec.Num,I64 a0.Prec.At]) q (.ptr q) at88 q q) ?_
   obtain ⟨x20,hx20,hj⟩:=bnd hj
   refine Rc (PC.go (.cc (.aggF q q) .nil) (con118 a0.Prec _ hx20) call118 q)<|Rv (O.mv (.lit q)) ?_
   rcases cnd hj with ⟨hb21,hj⟩ | ⟨hb21,hj⟩
   ·obtain rfl:=sm hj
    exact RunL.ps q q hb21 q q<|RunL.ps q q hb21 q q<|RunL.ps q q hb21 q q<|Rv (O.pkT (.lit q) hb21 (.k q))<|Va q<|Fi (.n q .nil)
   ·refine RunL.v (O.fO q (.obj q) fd93_1 q) q q (.yb q q hb21)<|RunL.v (O.ldON (cs':=[SS a0.Prec.Name,BB a0.Prec.Lit,I64 a0.Prec.Num,I64 a0.Prec.At]) q (.ptr q) at88 q q) q q (.yb q q hb21) ?_
    obtain ⟨x22,hx22,hj⟩:=bnd hj
    obtain rfl:=sm hj
    exact RunL.c (PC.go (.cc (.aggF q q) (.cc (.k q) (.cc (.k q) .nil))) (con116 a0.Prec false true _ hx22) call116 q) q q (.yb q q hb21)<|Rv (O.pkF (.lit q) hb21 (.lit q))<|Va q<|Fi (.n q .nil)
  refine Px.sq<|W.rt ?_
  obtain rfl:=sm h
  exact Px.fin (Fin.ro (.f q q .nil) q (ode (by kernel_rfl)) (.no .nil) q (.inr q))
 ·subst hx
  refine Px.bkR ?_
  refine Px.sqR ?_
  obtain rfl:=sm h
  exact Px.fin (Fin.ro (.f q q .nil) q (ode (by kernel_rfl)) (.no .nil) q (.inr q))
theorem con92 (a0:Source) (r:Bool) (h:pf92 a0=some r):Con Try.prog 92 [.agg (eSource_0.cells a0)] [none] (BB r):=by
 unfold pf92 at h
 refine Con.go (N:=⟨77,[]⟩) Try.func92 q q q q (W.fin ?_)
 refine W.st [(0,.agg (eSource_0.cells a0))] ?_
 refine W.sq'<|W.rx [(1,_)] (Rv (O.box (.aggF q q) q)<|Vk q<|Fi (.n q .nil)) ?_
 refine Px.sq<|W.sq' ?_
 refine W.sq'<|W.rx [(1,_),(3,_)] (Vk q<|Fi (tn2 q q)) ?_
 refine Px.sq<|W.bk ?_
 obtain ⟨x2,hl,h⟩:=bnd h
 refine W.tr (G1:=[(1,_),(3,_)]) (tn2 q q) ?_
 refine W.lp2 (s:=0) (fun (s1:Int)=>[(1,.obj (eSource_0.cells a0)),(3,I64 s1)]) 0 (fun (x3:Unit)=>[(1,.obj (eSource_0.cells a0))]) (fun (x4:Bool)=>[(2,BB x4)]) hl (fun s1 o h=>?_) (fun x3 hx=>?_) (fun x4 hx=>?_)
 ·clear hl
  refine W.sq'<|W.sq' ?_
  refine W.rx [(1,_),(3,_),(13,_)] (Vm q<|Rv (O.add (.lit q) (.k q))<|Rv (O.fO q (.obj q) fd33_0 q)<|Rv (O.ldO (y:=SS a0.Pro) q (.ptr q) ct9 q q)<|Rv (O.lenS (.lit q) st9)<|Rv (O.lss (.lit q) (.lit q))<|Fi (tn3 q q q)) ?_
  refine Px.sq<|W.cnd q (fun hb5=>?_) (fun hb5=>?_)
  ·replace h:=cndT hb5 h
   refine W.sk<|Px.sq ?_
   refine W.sq'<|W.bk ?_
   refine W.sq' ?_
   obtain ⟨x6,hx6,h⟩:=bnd h
   refine W.rx [(1,_),(3,_),(22,_)] (Rv (O.fO q (.obj q) fd33_0 q)<|Rv (O.ldO (y:=SS a0.Pro) q (.ptr q) ct9 q q)<|Vm q<|Vm q<|Rv (O.add (.lit q) (.k q))<|Rv (O.sl (.lit q) (.lit q) (.lit q) st9 hx6)<|Rv (O.eqS (.lit q) (.k q))<|Fi (tn3 q q q)) ?_
   refine Px.sq<|W.cnd q (fun hb7=>?_) (fun hb7=>?_)
   ·replace h:=cndT hb7 h
    refine W.sq'<|W.rx [(2,_)] (Vk q<|Fi (.n q .nil)) ?_
    refine Px.sq<|W.rt ?_
    refine Px.bkR ?_
    refine Px.sqR ?_
    obtain rfl:=sm h
    exact Px.r2 (.n q .nil)
   ·replace h:=cndF hb7 h
    refine W.sk<|Px.bk ?_
    refine Px.sq<|W.rx [(1,_),(3,_)] (Vm q<|Rv (O.add (.lit q) (.k q))<|RunL.re (G1:=[(1,_),(15,_)]) (tn2 q q)<|Va q<|Fi (tn2 q q)) ?_
    obtain rfl:=sm h
    exact Px.go (tn2 q q)
  ·replace h:=cndF hb5 h
   refine W.xi ?_
   refine Px.sqE ?_
   obtain rfl:=sm h
   exact Px.x2 (.n q .nil)
 ·subst hx
  refine Px.bkH ?_
  refine Px.sq<|W.sq' ?_
  refine W.sq'<|W.rx [(1,_),(4,_)] (Vk q<|Fi (tn2 q q)) ?_
  refine Px.sq<|W.bk ?_
  obtain ⟨x9,hl,h⟩:=bnd h
  refine W.tr (G1:=[(1,_),(4,_)]) (tn2 q q) ?_
  refine W.lp2 (s:=0) (fun (s8:Int)=>[(1,.obj (eSource_0.cells a0)),(4,I64 s8)]) 2 (fun (x10:Unit)=>[(1,.obj (eSource_0.cells a0))]) (fun (x11:Bool)=>[(2,BB x11)]) hl (fun s8 o h=>?_) (fun x10 hx=>?_) (fun x11 hx=>?_)
  ·clear hl
   refine W.sq'<|W.sq' ?_
   refine W.rx [(1,_),(4,_),(27,_)] (Vm q<|Rv (O.fO q (.obj q) fd33_1 q)<|Rv (O.ldO (y:=iR eDecl_0 a0.Decls) q (.ptr q) ct30 q q)<|Rv (O.lenI (.imm q) sl30)<|Rv (O.lss (.lit q) (.lit q))<|Fi (tn3 q q q)) ?_
   refine Px.sq<|W.cnd q (fun hb12=>?_) (fun hb12=>?_)
   ·replace h:=cndT hb12 h
    refine W.sk<|Px.sq ?_
    refine W.sq'<|W.bk ?_
    refine W.sq' ?_
    obtain ⟨x13,hx13,h⟩:=bnd h
    obtain ⟨x14,hx14,h⟩:=bnd h
    refine W.rx [(1,_),(4,_),(36,_)] (Rv (O.fO q (.obj q) fd33_1 q)<|Rv (O.ldO (y:=iR eDecl_0 a0.Decls) q (.ptr q) ct30 q q)<|Vm q<|Rv (O.ixI (.imm q) (.lit q) sl30 hx13)<|Rv (O.ldIN (cs':=[I64 x13.Kind,SS x13.Tag,iR eSym x13.Syms,I64 x13.At]) (.iptr q) at100 q q)<|Rc (PC.go (.cc (.aggF q q) .nil) (con110 x13 _ hx14) call110 q)<|Rv (O.not (.lit q))<|Fi (tn3 q q q)) ?_
    refine Px.sq<|W.cnd q (fun hb15=>?_) (fun hb15=>?_)
    ·replace h:=cndT hb15 h
     refine W.sq'<|W.rx [(2,_)] (Vk q<|Fi (.n q .nil)) ?_
     refine Px.sq<|W.rt ?_
     refine Px.bkR ?_
     refine Px.sqR ?_
     obtain rfl:=sm h
     exact Px.r2 (.n q .nil)
    ·replace h:=cndF hb15 h
     refine W.sk<|Px.bk ?_
     refine Px.sq<|W.rx [(1,_),(4,_)] (Vm q<|Rv (O.add (.lit q) (.k q))<|RunL.re (G1:=[(1,_),(29,_)]) (tn2 q q)<|Va q<|Fi (tn2 q q)) ?_
     obtain rfl:=sm h
     exact Px.go (tn2 q q)
   ·replace h:=cndF hb12 h
    refine W.xi ?_
    refine Px.sqE ?_
    obtain rfl:=sm h
    exact Px.x2 (.n q .nil)
  ·subst hx
   refine Px.bkH ?_
   refine Px.sq<|W.sq' ?_
   refine W.sq'<|W.rx [(1,_),(5,_)] (Vk q<|Fi (tn2 q q)) ?_
   refine Px.sq<|W.bk ?_
   obtain ⟨x17,hl,h⟩:=bnd h
   refine W.tr (G1:=[(1,_),(5,_)]) (tn2 q q) ?_
   refine W.lp2 (s:=0) (fun (s16:Int)=>[(1,.obj (eSource_0.cells a0)),(5,I64 s16)]) 4 (fun (x18:Unit)=>[(1,.obj (eSource_0.cells a0))]) (fun (x19:Bool)=>[(2,BB x19)]) hl (fun s16 o h=>?_) (fun x18 hx=>?_) (fun x19 hx=>?_)
   ·clear hl
    refine W.sq'<|W.sq' ?_
    refine W.rx [(1,_),(5,_),(41,_)] (Vm q<|Rv (O.fO q (.obj q) fd33_2 q)<|Rv (O.ldO (y:=iR eRule_0 a0.Rules) q (.ptr q) ct31 q q)<|Rv (O.lenI (.imm q) sl31)<|Rv (O.lss (.lit q) (.lit q))<|Fi (tn3 q q q)) ?_
    refine Px.sq<|W.cnd q (fun hb20=>?_) (fun hb20=>?_)
    ·replace h:=cndT hb20 h
     refine W.sk<|Px.sq ?_
     refine W.sq'<|W.bk ?_
     refine W.sq' ?_
     obtain ⟨x21,hx21,h⟩:=bnd h
     refine W.rx [(1,_),(5,_),(6,_)] (Rv (O.fO q (.obj q) fd33_2 q)<|Rv (O.ldO (y:=iR eRule_0 a0.Rules) q (.ptr q) ct31 q q)<|Vm q<|Rv (O.ixI (.imm q) (.lit q) sl31 hx21)<|Rv (O.ldIN (cs':=[SS x21.Left,iR eAlt_0 x21.Alts,I64 x21.At]) (.iptr q) at96 q q)<|Rv (O.al (cs:=[SS S0,.nils,I64 0]) ze96 q q)<|RunL.sO (G2:=[(1,_),(5,_),(6,_)]) (cs2:=[SS x21.Left,iR eAlt_0 x21.Alts,I64 x21.At]) q (.obj q) (.aggF q q) q sz96 q q q q (.n q q (.n q q (.b q .nil)))<|Fi (tn3 q q q)) ?_
     refine Px.sq<|W.sq' ?_
     refine W.sq' ?_
     obtain ⟨c24,hj,h⟩:=bnd h
     refine W.rx [(1,.obj (eSource_0.cells a0)),(5,I64 s16),(6,.obj (eRule_0.cells x21)),(58,BB c24)] ?_ ?_
     ·refine Rv (O.fO q (.obj q) fd96_0 q)<|Rv (O.ldO (y:=SS x21.Left) q (.ptr q) ct9 q q) ?_
      obtain ⟨x22,hx22,hj⟩:=bnd hj
      refine Rc (PC.go (.cc (.lit q) .nil) (con111 x21.Left _ hx22) call111 q)<|Rv (O.not (.lit q))<|Rv (O.mv (.lit q)) ?_
      rcases cnd hj with ⟨hb23,hj⟩ | ⟨hb23,hj⟩
      ·obtain rfl:=sm hj
       exact RunL.ps q q hb23 q q<|RunL.ps q q hb23 q q<|RunL.ps q q hb23 q q<|RunL.ps q q hb23 q q<|Rv (O.pkT (.lit q) hb23 (.k q))<|Fi (tn4 q q q q)
      ·obtain rfl:=sm hj
       exact RunL.v (O.fO q (.obj q) fd96_1 q) q q (.yb q q hb23)<|RunL.v (O.ldO (y:=iR eAlt_0 x21.Alts) q (.ptr q) ct94 q q) q q (.yb q q hb23)<|RunL.v (O.lenI (.imm q) sl94) q q (.yb q q hb23)<|RunL.v (O.eql (.lit q) (.k q)) q q (.yb q q hb23)<|Rv (O.pkF (.lit q) hb23 (.lit q))<|Fi (tn4 q q q q)
     refine Px.sq<|W.cnd q (fun hb25=>?_) (fun hb25=>?_)
     ·replace h:=cndT hb25 h
      refine W.sq'<|W.rx [(2,_)] (Vk q<|Fi (.n q .nil)) ?_
      refine Px.sq<|W.rt ?_
      refine Px.sqR ?_
      refine Px.bkR ?_
      refine Px.sqR ?_
      obtain rfl:=sm h
      exact Px.r2 (.n q .nil)
     ·replace h:=cndF hb25 h
      refine W.sk<|Px.sq ?_
      refine W.sq'<|W.rx [(1,_),(5,_),(6,_),(7,_)] (Vk q<|Fi (tn4 q q q q)) ?_
      refine Px.sq<|W.bk ?_
      obtain ⟨x27,hl,h⟩:=bnd h
      refine W.tr (G1:=[(1,_),(5,_),(6,_),(7,_)]) (tn4 q q q q) ?_
      refine W.lp2 (s:=0) (fun (s26:Int)=>[(1,.obj (eSource_0.cells a0)),(5,I64 s16),(6,.obj (eRule_0.cells x21)),(7,I64 s26)]) 6 (fun (x28:Unit)=>[(1,.obj (eSource_0.cells a0)),(5,I64 s16)]) (fun (x29:Bool)=>[(2,BB x29)]) hl (fun s26 o h=>?_) (fun x28 hx=>?_) (fun x29 hx=>?_)
      ·clear hl
       refine W.sq'<|W.sq' ?_
       refine W.rx [(1,_),(5,_),(6,_),(7,_),(63,_)] (Vm q<|Rv (O.fO q (.obj q) fd96_1 q)<|Rv (O.ldO (y:=iR eAlt_0 x21.Alts) q (.ptr q) ct94 q q)<|Rv (O.lenI (.imm q) sl94)<|Rv (O.lss (.lit q) (.lit q))<|Fi (tn5 q q q q q)) ?_
       refine Px.sq<|W.cnd q (fun hb30=>?_) (fun hb30=>?_)
       ·replace h:=cndT hb30 h
        refine W.sk<|Px.sq ?_
        refine W.sq'<|W.bk ?_
        refine W.sq' ?_
        obtain ⟨x31,hx31,h⟩:=bnd h
        obtain ⟨x32,hx32,h⟩:=bnd h
        refine W.rx [(1,_),(5,_),(6,_),(7,_),(72,_)] (Rv (O.fO q (.obj q) fd96_1 q)<|Rv (O.ldO (y:=iR eAlt_0 x21.Alts) q (.ptr q) ct94 q q)<|Vm q<|Rv (O.ixI (.imm q) (.lit q) sl94 hx31)<|Rv (O.ldIN (cs':=[iR ePart x31.Parts,SS x31.Prec.Name,BB x31.Prec.Lit,I64 x31.Prec.Num,I64 x31.Prec.At,I64 x31.At]) (.iptr q) at93 q q)<|Rc (PC.go (.cc (.aggF q q) .nil) (con112 x31 _ hx32) call112 q)<|Rv (O.not (.lit q))<|Fi (tn5 q q q q q)) ?_
        refine Px.sq<|W.cnd q (fun hb33=>?_) (fun hb33=>?_)
        ·replace h:=cndT hb33 h
         refine W.sq'<|W.rx [(2,_)] (Vk q<|Fi (.n q .nil)) ?_
         refine Px.sq<|W.rt ?_
         refine Px.bkR ?_
         refine Px.sqR ?_
         obtain rfl:=sm h
         exact Px.r2 (.n q .nil)
        ·replace h:=cndF hb33 h
         refine W.sk<|Px.bk ?_
         refine Px.sq<|W.rx [(1,_),(5,_),(6,_),(7,_)] (Vm q<|Rv (O.add (.lit q) (.k q))<|RunL.re (G1:=[(1,_),(5,_),(6,_),(65,_)]) (tn4 q q q q)<|Va q<|Fi (tn4 q q q q)) ?_
         obtain rfl:=sm h
         exact Px.go (tn4 q q q q)
       ·replace h:=cndF hb30 h
        refine W.xi ?_
        refine Px.sqE ?_
        obtain rfl:=sm h
        exact Px.x2 (tn2 q q)
      ·subst hx
       refine Px.bkH ?_
       refine Px.bk ?_
       refine Px.sq<|W.rx [(1,_),(5,_)] (Vm q<|Rv (O.add (.lit q) (.k q))<|RunL.re (G1:=[(1,_),(43,_)]) (tn2 q q)<|Va q<|Fi (tn2 q q)) ?_
       obtain rfl:=sm h
       exact Px.go (tn2 q q)
      ·subst hx
       refine Px.bkR ?_
       refine Px.bkR ?_
       refine Px.sqR ?_
       obtain rfl:=sm h
       exact Px.r2 (.n q .nil)
    ·replace h:=cndF hb20 h
     refine W.xi ?_
     refine Px.sqE ?_
     obtain rfl:=sm h
     exact Px.x2 (.n q .nil)
   ·subst hx
    refine Px.bkH ?_
    refine Px.sq<|W.sq' ?_
    refine W.rx [(2,_)] (Rv (O.fO q (.obj q) fd33_2 q)<|Rv (O.ldO (y:=iR eRule_0 a0.Rules) q (.ptr q) ct31 q q)<|Rv (O.lenI (.imm q) sl31)<|Rv (O.gtr (.lit q) (.k q))<|Va q<|Fi (.n q .nil)) ?_
    refine Px.sq<|W.rt ?_
    obtain rfl:=sm h
    exact Px.fin (Fin.ro (.f q q .nil) q (ode (by kernel_rfl)) (.no .nil) q (.inr q))
   ·subst hx
    refine Px.bkR ?_
    refine Px.sqR ?_
    obtain rfl:=sm h
    exact Px.fin (Fin.ro (.f q q .nil) q (ode (by kernel_rfl)) (.no .nil) q (.inr q))
  ·subst hx
   refine Px.bkR ?_
   refine Px.sqR ?_
   obtain rfl:=sm h
   exact Px.fin (Fin.ro (.f q q .nil) q (ode (by kernel_rfl)) (.no .nil) q (.inr q))
 ·subst hx
  refine Px.bkR ?_
  refine Px.sqR ?_
  obtain rfl:=sm h
  exact Px.fin (Fin.ro (.f q q .nil) q (ode (by kernel_rfl)) (.no .nil) q (.inr q))
theorem con94 (a0:yuccaref9_maker) (a1:Int) (a2:ByteArray) (r:yuccaref9_maker) (h:pf94 a0 a1 a2=some r):Con Try.prog 94 [.obj (eyuccaref9_maker_r.cells a0),I64 a1,SS a2] [some (.obj [oR eTok r.f_g.Toks,oR eNon r.f_g.Nons,oR eProd_0 r.f_g.Prods,SS r.f_g.Pro,SS r.f_g.Tail,oR eB r.f_given,oR eNon r.f_types,oR eS r.f_lefts,I64 r.f_e,I64 r.f_at,SS r.f_name,I64 r.f_level,I64 r.f_inner]),none,none] (.tup []):=by
 unfold pf94 at h
 refine Con.go (N:=⟨22,[0]⟩) Try.func94 q q q q (W.fin ?_)
 refine W.st [(0,.obj (eyuccaref9_maker_r.cells a0)),(1,I64 a1),(2,SS a2)] ?_
 refine W.sq'<|W.rx [(0,_),(1,_),(2,_),(10,_)] (Rv (O.mv (.obj q))<|Rv (O.nlP (.ptr q))<|Rv (O.fO q (.ptr q) fd169_4 q)<|Rv (O.ldO (y:=I64 a0.f_e) q (.ptr q) ct3 q q)<|Rv (O.eql (.lit q) (.k q))<|Fi (tn4 q q q q)) ?_
 refine Px.sq ?_
 obtain ⟨j1,hj,h⟩:=bnd h
 refine W.jn [(0,.obj (eyuccaref9_maker_r.cells j1))] ?_ ?_
 ·clear h; have h:=hj; clear hj
  refine W.cnd q (fun hb2=>?_) (fun hb2=>?_)
  ·replace h:=cndT hb2 h
   refine W.rx [(0,_)] (Rv (O.mv (.obj q))<|Rv (O.mv (.obj q))<|Rv (O.mv (.obj q))<|Vm q<|Vm q<|Rv (O.nlP (.ptr q))<|Rv (O.fO q (.ptr q) fd169_4 q)<|RunL.sO (G2:=[(0,_),(12,.ptr ⟨0,[]⟩ 0),(13,.ptr ⟨0,[]⟩ 0),(14,_),(15,_)]) (cs2:=[oR eTok a0.f_g.Toks,oR eNon a0.f_g.Nons,oR eProd_0 a0.f_g.Prods,SS a0.f_g.Pro,SS a0.f_g.Tail,oR eB a0.f_given,oR eNon a0.f_types,oR eS a0.f_lefts,I64 3,I64 a0.f_at,SS a0.f_name,I64 a0.f_level,I64 a0.f_inner]) q (.ptr q) (.k q) q sz3 q q q q (.b q (.p q q q q q q (.p q q q q q q (.n q q (.n q q .nil)))))<|Rv (O.nlP (.ptr q))<|Rv (O.fO q (.ptr q) fd169_5 q)<|RunL.sO (G2:=[(0,_),(13,.ptr ⟨0,[]⟩ 0),(15,_)]) (cs2:=[oR eTok a0.f_g.Toks,oR eNon a0.f_g.Nons,oR eProd_0 a0.f_g.Prods,SS a0.f_g.Pro,SS a0.f_g.Tail,oR eB a0.f_given,oR eNon a0.f_types,oR eS a0.f_lefts,I64 3,I64 a1,SS a0.f_name,I64 a0.f_level,I64 a0.f_inner]) q (.ptr q) (.lit q) q sz3 q q q q (.b q (.p q q q q q q (.n q q .nil)))<|Rv (O.nlP (.ptr q))<|Rv (O.fO q (.ptr q) fd169_6 q)<|RunL.sO (G2:=[(0,_)]) (cs2:=[oR eTok a0.f_g.Toks,oR eNon a0.f_g.Nons,oR eProd_0 a0.f_g.Prods,SS a0.f_g.Pro,SS a0.f_g.Tail,oR eB a0.f_given,oR eNon a0.f_types,oR eS a0.f_lefts,I64 3,I64 a1,SS a2,I64 a0.f_level,I64 a0.f_inner]) q (.ptr q) (.lit q) q sz9 q q q q (.b q .nil)<|Fi (.n q .nil)) ?_
   obtain rfl:=sm h
   exact Px.jn (.n q .nil)
  ·replace h:=cndF hb2 h
   refine W.sk ?_
   obtain rfl:=sm h
   exact Px.jn (.n q .nil)
 obtain rfl:=sm h
 exact Px.fin (Fin.ro .nil q (ode (by kernel_rfl)) (.so q q (.no (.no .nil))) q (.inl q))
theorem con98 (a0:yuccaref9_maker) (a1:ByteArray) (r:Int) (h:pf98 a0 a1=some r):Con Try.prog 98 [.iptr ([iR eTok a0.f_g.Toks,iR eNon a0.f_g.Nons,iR eProd_0 a0.f_g.Prods,SS a0.f_g.Pro,SS a0.f_g.Tail,iR eB a0.f_given,iR eNon a0.f_types,iR eS a0.f_lefts,I64 a0.f_e,I64 a0.f_at,SS a0.f_name,I64 a0.f_level,I64 a0.f_inner]),SS a1] [none,none] (I64 r):=by
 unfold pf98 at h
 refine Con.go (N:=⟨26,[]⟩) Try.func98 q q q q (W.fin ?_)
 refine W.st [(0,.iptr ([iR eTok a0.f_g.Toks,iR eNon a0.f_g.Nons,iR eProd_0 a0.f_g.Prods,SS a0.f_g.Pro,SS a0.f_g.Tail,iR eB a0.f_given,iR eNon a0.f_types,iR eS a0.f_lefts,I64 a0.f_e,I64 a0.f_at,SS a0.f_name,I64 a0.f_level,I64 a0.f_inner])),(1,SS a1)] ?_
 refine W.sq'<|W.rx [(0,_),(1,_)] (Vk q<|Fi (tn2 q q)) ?_
 refine Px.sq<|W.sq' ?_
 refine W.sq'<|W.rx [(0,_),(1,_),(5,_)] (Vk q<|Fi (tn3 q q q)) ?_
 refine Px.sq<|W.bk ?_
 obtain ⟨x2,hl,h⟩:=bnd h
 refine W.tr (G1:=[(0,_),(1,_),(5,_)]) (tn3 q q q) ?_
 refine W.lp2 (s:=0) (fun (s1:Int)=>[(0,.iptr ([iR eTok a0.f_g.Toks,iR eNon a0.f_g.Nons,iR eProd_0 a0.f_g.Prods,SS a0.f_g.Pro,SS a0.f_g.Tail,iR eB a0.f_given,iR eNon a0.f_types,iR eS a0.f_lefts,I64 a0.f_e,I64 a0.f_at,SS a0.f_name,I64 a0.f_level,I64 a0.f_inner])),(1,SS a1),(5,I64 s1)]) 0 (fun (x3:Unit)=>[]) (fun (x4:Int)=>[(4,I64 x4)]) hl (fun s1 o h=>?_) (fun x3 hx=>?_) (fun x4 hx=>?_)
 ·clear hl
  refine W.sq'<|W.sq' ?_
  refine W.rx [(0,_),(1,_),(5,_),(12,_)] (Vm q<|Rv (O.mv (.iptr q))<|Rv (O.nlI (.iptr q))<|Rv (O.fI (.iptr q) fd169_2)<|Rv (O.ldI (x:=iR eNon a0.f_types) (.iptr q) ct41 q)<|Rv (O.lenI (.imm q) sl41)<|Rv (O.lss (.lit q) (.lit q))<|Fi (tn4 q q q q)) ?_
  refine Px.sq<|W.cnd q (fun hb5=>?_) (fun hb5=>?_)
  ·replace h:=cndT hb5 h
   refine W.sk<|Px.sq ?_
   refine W.sq'<|W.bk ?_
   refine W.sq' ?_
   obtain ⟨x6,hx6,h⟩:=bnd h
   refine W.rx [(0,_),(1,_),(5,_),(24,_)] (Rv (O.mv (.iptr q))<|Rv (O.nlI (.iptr q))<|Rv (O.fI (.iptr q) fd169_2)<|Rv (O.ldI (x:=iR eNon a0.f_types) (.iptr q) ct41 q)<|Vm q<|Rv (O.ixI (.imm q) (.lit q) sl41 hx6)<|Rv (O.fI (.iptr q) fd176_0)<|Rv (O.ldI (x:=SS x6.Name) (.iptr q) ct9 q)<|Vm q<|Rv (O.eqS (.lit q) (.lit q))<|Fi (tn4 q q q q)) ?_
   refine Px.sq<|W.cnd q (fun hb7=>?_) (fun hb7=>?_)
   ·replace h:=cndT hb7 h
    refine W.sq'<|W.rx [(4,_)] (Vm q<|Va q<|Fi (.n q .nil)) ?_
    refine Px.sq<|W.rt ?_
    refine Px.bkR ?_
    refine Px.sqR ?_
    obtain rfl:=sm h
    exact Px.r2 (.n q .nil)
   ·replace h:=cndF hb7 h
    refine W.sk<|Px.bk ?_
    refine Px.sq<|W.rx [(0,_),(1,_),(5,_)] (Vm q<|Rv (O.add (.lit q) (.k q))<|RunL.re (G1:=[(0,_),(1,_),(14,_)]) (tn3 q q q)<|Va q<|Fi (tn3 q q q)) ?_
    obtain rfl:=sm h
    exact Px.go (tn3 q q q)
  ·replace h:=cndF hb5 h
   refine W.xi ?_
   refine Px.sqE ?_
   obtain rfl:=sm h
   exact Px.x2 .nil
 ·subst hx
  refine Px.bkH ?_
  refine Px.sq<|W.sq' ?_
  refine W.rx [(4,_)] (Vk q<|Fi (.n q .nil)) ?_
  refine Px.sq<|W.rt ?_
  obtain rfl:=sm h
  exact Px.fin (Fin.ro (.f q q .nil) q (ode (by kernel_rfl)) (.no (.no .nil)) q (.inr q))
 ·subst hx
  refine Px.bkR ?_
  refine Px.sqR ?_
  obtain rfl:=sm h
  exact Px.fin (Fin.ro (.f q q .nil) q (ode (by kernel_rfl)) (.no (.no .nil)) q (.inr q))
theorem con95 (a0:yuccaref9_maker) (a1:Sym) (r:Int) (h:pf95 a0 a1=some r):Con Try.prog 95 [.iptr ([iR eTok a0.f_g.Toks,iR eNon a0.f_g.Nons,iR eProd_0 a0.f_g.Prods,SS a0.f_g.Pro,SS a0.f_g.Tail,iR eB a0.f_given,iR eNon a0.f_types,iR eS a0.f_lefts,I64 a0.f_e,I64 a0.f_at,SS a0.f_name,I64 a0.f_level,I64 a0.f_inner]),.agg (eSym.cells a1)] [none,none] (I64 r):=by
 unfold pf95 at h
 refine Con.go (N:=⟨47,[]⟩) Try.func95 q q q q (W.fin ?_)
 refine W.st [(0,.iptr ([iR eTok a0.f_g.Toks,iR eNon a0.f_g.Nons,iR eProd_0 a0.f_g.Prods,SS a0.f_g.Pro,SS a0.f_g.Tail,iR eB a0.f_given,iR eNon a0.f_types,iR eS a0.f_lefts,I64 a0.f_e,I64 a0.f_at,SS a0.f_name,I64 a0.f_level,I64 a0.f_inner])),(1,.agg (eSym.cells a1))] ?_
 refine W.sq'<|W.rx [(0,_),(3,_)] (Rv (O.box (.aggF q q) q)<|Vk q<|Fi (tn2 q q)) ?_
 refine Px.sq<|W.sq' ?_
 refine W.sq'<|W.rx [(0,_),(3,_),(5,_)] (Vk q<|Fi (tn3 q q q)) ?_
 refine Px.sq<|W.bk ?_
 obtain ⟨x2,hl,h⟩:=bnd h
 refine W.tr (G1:=[(0,_),(3,_),(5,_)]) (tn3 q q q) ?_
 refine W.lp2 (s:=1) (fun (s1:Int)=>[(0,.iptr ([iR eTok a0.f_g.Toks,iR eNon a0.f_g.Nons,iR eProd_0 a0.f_g.Prods,SS a0.f_g.Pro,SS a0.f_g.Tail,iR eB a0.f_given,iR eNon a0.f_types,iR eS a0.f_lefts,I64 a0.f_e,I64 a0.f_at,SS a0.f_name,I64 a0.f_level,I64 a0.f_inner])),(3,.obj (eSym.cells a1)),(5,I64 s1)]) 0 (fun (x3:Unit)=>[]) (fun (x4:Int)=>[(4,I64 x4)]) hl (fun s1 o h=>?_) (fun x3 hx=>?_) (fun x4 hx=>?_)
 ·clear hl
  refine W.sq'<|W.sq' ?_
  refine W.rx [(0,_),(3,_),(5,_),(13,_)] (Vm q<|Rv (O.mv (.iptr q))<|Rv (O.nlI (.iptr q))<|Rv (O.fI (.iptr q) fd169_0)<|Rv (O.fI (.iptr q) fd44_0)<|Rv (O.ldI (x:=iR eTok a0.f_g.Toks) (.iptr q) ct40 q)<|Rv (O.lenI (.imm q) sl40)<|Rv (O.lss (.lit q) (.lit q))<|Fi (tn4 q q q q)) ?_
  refine Px.sq<|W.cnd q (fun hb5=>?_) (fun hb5=>?_)
  ·replace h:=cndT hb5 h
   refine W.sk<|Px.sq ?_
   refine W.sq'<|W.bk ?_
   refine W.sq' ?_
   obtain ⟨c10,hj,h⟩:=bnd h
   refine W.rd [[],[0],[0,1],[0,1,2],[0,1,2,3],[],rn 0 6 [],rn 0 7 [],rn 0 8 [],[],[9],rn 0 11 [],rn 0 12 [],rn 0 13 [],rn 0 14 [],rn 0 15 [],rn 0 16 [],rn 0 17 [],rn 0 13 [],rn 0 19 [],rn 0 20 [],rn 0 21 [],rn 0 13 [],rn 0 13 [22],rn 0 24 [],rn 0 25 [],rn 0 26 [],rn 0 27 [],rn 0 28 [],rn 0 29 []] [(0,.iptr ([iR eTok a0.f_g.Toks,iR eNon a0.f_g.Nons,iR eProd_0 a0.f_g.Prods,SS a0.f_g.Pro,SS a0.f_g.Tail,iR eB a0.f_given,iR eNon a0.f_types,iR eS a0.f_lefts,I64 a0.f_e,I64 a0.f_at,SS a0.f_name,I64 a0.f_level,I64 a0.f_inner])),(3,.obj (eSym.cells a1)),(5,I64 s1),(45,BB c10)] mixo (by kernel_rfl) ?_ ?_
   ·refine Dv 0 (O.mv (.iptr q))<|Dv 1 (O.nlI (.iptr q))<|Dv 2 (O.fI (.iptr q) fd169_0)<|Dv 3 (O.fI (.iptr q) fd44_0)<|Dv 4 (O.ldI (x:=iR eTok a0.f_g.Toks) (.iptr q) ct40 q)<|Dv 5 (O.mv (.lit q)) ?_
    obtain ⟨x6,hx6,hj⟩:=bnd hj
    refine Dv 6 (O.ixI (.imm q) (.lit q) sl40 hx6)<|Dv 7 (O.fI (.iptr q) fd78_0)<|Dv 8 (O.ldI (x:=SS x6.Name) (.iptr q) ct9 q)<|Dv 9 (O.fO q (.obj q) fd88_0 q)<|Dv 10 (O.ldO (y:=SS a1.Name) q (.ptr q) ct9 q q)<|Dv 11 (O.eqS (.lit q) (.lit q))<|Dv 12 (O.mv (.lit q)) ?_
    rcases cnd hj with ⟨hb7,hj⟩ | ⟨hb7,hj⟩
    ·refine DL.v 13 (O.mv (.iptr q)) q q q q (.yb q q hb7)<|DL.v 14 (O.nlI (.iptr q)) q q q q (.yb q q hb7)<|DL.v 15 (O.fI (.iptr q) fd169_0) q q q q (.yb q q hb7)<|DL.v 16 (O.fI (.iptr q) fd44_0) q q q q (.yb q q hb7)<|DL.v 17 (O.ldI (x:=iR eTok a0.f_g.Toks) (.iptr q) ct40 q) q q q q (.yb q q hb7)<|DL.v 18 (O.mv (.lit q)) q q q q (.yb q q hb7) ?_
     obtain ⟨x8,hx8,hj⟩:=bnd hj
     refine DL.v 19 (O.ixI (.imm q) (.lit q) sl40 hx8) q q q q (.yb q q hb7)<|DL.v 20 (O.fI (.iptr q) fd78_1) q q q q (.yb q q hb7)<|DL.v 21 (O.ldI (x:=BB x8.Lit) (.iptr q) ct4 q) q q q q (.yb q q hb7)<|DL.v 22 (O.fO q (.obj q) fd88_1 q) q q q q (.yb q q hb7)<|DL.v 23 (O.ldO (y:=BB a1.Lit) q (.ptr q) ct4 q q) q q q q (.yb q q hb7)<|DL.v 24 (O.eqB (.lit q) (.lit q) bt4) q q q q (.yb q q hb7)<|Dv 25 (O.pkT (.lit q) hb7 (.lit q))<|Dv 26 (O.mv (.lit q)) ?_
     rcases cnd hj with ⟨hb9,hj⟩ | ⟨hb9,hj⟩
     ·obtain rfl:=sm hj
      exact DL.v 27 (O.mv (.lit q)) q q q q (.yb q q hb9)<|DL.v 28 (O.neq (.lit q) (.k q)) q q q q (.yb q q hb9)<|Dv 29 (O.pkT (.lit q) hb9 (.lit q))<|DL.fin q q q (tn4 q q q q)
     ·obtain rfl:=sm hj
      exact DL.ps 27 q q hb9 q q q q<|DL.ps 28 q q hb9 q q q q<|Dv 29 (O.pkF (.lit q) hb9 (.k q))<|DL.fin q q q (tn4 q q q q)
    ·obtain rfl:=sm hj
     exact DL.ps 13 q q hb7 q q q q<|DL.ps 14 q q hb7 q q q q<|DL.ps 15 q q hb7 q q q q<|DL.ps 16 q q hb7 q q q q<|DL.ps 17 q q hb7 q q q q<|DL.ps 18 q q hb7 q q q q<|DL.ps 19 q q hb7 q q q q<|DL.ps 20 q q hb7 q q q q<|DL.ps 21 q q hb7 q q q q<|DL.ps 22 q q hb7 q q q q<|DL.ps 23 q q hb7 q q q q<|DL.ps 24 q q hb7 q q q q<|Dv 25 (O.pkF (.lit q) hb7 (.k q))<|Dv 26 (O.mv (.lit q))<|DL.ps 27 q q q q q q q<|DL.ps 28 q q q q q q q<|Dv 29 (O.pkF (.lit q) q (.k q))<|DL.fin q q q (tn4 q q q q)
   refine Px.sq<|W.cnd q (fun hb11=>?_) (fun hb11=>?_)
   ·replace h:=cndT hb11 h
    refine W.sq'<|W.rx [(4,_)] (Vm q<|Va q<|Fi (.n q .nil)) ?_
    refine Px.sq<|W.rt ?_
    refine Px.bkR ?_
    refine Px.sqR ?_
    obtain rfl:=sm h
    exact Px.r2 (.n q .nil)
   ·replace h:=cndF hb11 h
    refine W.sk<|Px.bk ?_
    refine Px.sq<|W.rx [(0,_),(3,_),(5,_)] (Vm q<|Rv (O.add (.lit q) (.k q))<|RunL.re (G1:=[(0,_),(3,_),(15,_)]) (tn3 q q q)<|Va q<|Fi (tn3 q q q)) ?_
    obtain rfl:=sm h
    exact Px.go (tn3 q q q)
  ·replace h:=cndF hb5 h
   refine W.xi ?_
   refine Px.sqE ?_
   obtain rfl:=sm h
   exact Px.x2 .nil
 ·subst hx
  refine Px.bkH ?_
  refine Px.sq<|W.sq' ?_
  refine W.rx [(4,_)] (Vk q<|Fi (.n q .nil)) ?_
  refine Px.sq<|W.rt ?_
  obtain rfl:=sm h
  exact Px.fin (Fin.ro (.f q q .nil) q (ode (by kernel_rfl)) (.no (.no .nil)) q (.inr q))
 ·subst hx
  refine Px.bkR ?_
  refine Px.sqR ?_
  obtain rfl:=sm h
  exact Px.fin (Fin.ro (.f q q .nil) q (ode (by kernel_rfl)) (.no (.no .nil)) q (.inr q))
theorem con114 (a0:yuccaref9_maker) (a1:Int) (r:Int) (h:pf114 a0 a1=some r):Con Try.prog 114 [.iptr ([iR eTok a0.f_g.Toks,iR eNon a0.f_g.Nons,iR eProd_0 a0.f_g.Prods,SS a0.f_g.Pro,SS a0.f_g.Tail,iR eB a0.f_given,iR eNon a0.f_types,iR eS a0.f_lefts,I64 a0.f_e,I64 a0.f_at,SS a0.f_name,I64 a0.f_level,I64 a0.f_inner]),I64 a1] [none,none] (I64 r):=by
 unfold pf114 at h
 refine Con.go (N:=⟨28,[]⟩) Try.func114 q q q q (W.fin ?_)
 refine W.st [(0,.iptr ([iR eTok a0.f_g.Toks,iR eNon a0.f_g.Nons,iR eProd_0 a0.f_g.Prods,SS a0.f_g.Pro,SS a0.f_g.Tail,iR eB a0.f_given,iR eNon a0.f_types,iR eS a0.f_lefts,I64 a0.f_e,I64 a0.f_at,SS a0.f_name,I64 a0.f_level,I64 a0.f_inner])),(1,I64 a1)] ?_
 refine W.sq'<|W.rx [(0,_),(1,_)] (Vk q<|Fi (tn2 q q)) ?_
 refine Px.sq<|W.sq' ?_
 refine W.sq'<|W.rx [(0,_),(1,_),(5,_)] (Vk q<|Fi (tn3 q q q)) ?_
 refine Px.sq<|W.bk ?_
 obtain ⟨x2,hl,h⟩:=bnd h
 refine W.tr (G1:=[(0,_),(1,_),(5,_)]) (tn3 q q q) ?_
 refine W.lp2 (s:=3) (fun (s1:Int)=>[(0,.iptr ([iR eTok a0.f_g.Toks,iR eNon a0.f_g.Nons,iR eProd_0 a0.f_g.Prods,SS a0.f_g.Pro,SS a0.f_g.Tail,iR eB a0.f_given,iR eNon a0.f_types,iR eS a0.f_lefts,I64 a0.f_e,I64 a0.f_at,SS a0.f_name,I64 a0.f_level,I64 a0.f_inner])),(1,I64 a1),(5,I64 s1)]) 0 (fun (x3:Unit)=>[]) (fun (x4:Int)=>[(4,I64 x4)]) hl (fun s1 o h=>?_) (fun x3 hx=>?_) (fun x4 hx=>?_)
 ·clear hl
  refine W.sq'<|W.sq' ?_
  refine W.rx [(0,_),(1,_),(5,_),(13,_)] (Vm q<|Rv (O.mv (.iptr q))<|Rv (O.nlI (.iptr q))<|Rv (O.fI (.iptr q) fd169_0)<|Rv (O.fI (.iptr q) fd44_0)<|Rv (O.ldI (x:=iR eTok a0.f_g.Toks) (.iptr q) ct40 q)<|Rv (O.lenI (.imm q) sl40)<|Rv (O.lss (.lit q) (.lit q))<|Fi (tn4 q q q q)) ?_
  refine Px.sq<|W.cnd q (fun hb5=>?_) (fun hb5=>?_)
  ·replace h:=cndT hb5 h
   refine W.sk<|Px.sq ?_
   refine W.sq'<|W.bk ?_
   refine W.sq' ?_
   obtain ⟨x6,hx6,h⟩:=bnd h
   refine W.rx [(0,_),(1,_),(5,_),(26,_)] (Rv (O.mv (.iptr q))<|Rv (O.nlI (.iptr q))<|Rv (O.fI (.iptr q) fd169_0)<|Rv (O.fI (.iptr q) fd44_0)<|Rv (O.ldI (x:=iR eTok a0.f_g.Toks) (.iptr q) ct40 q)<|Vm q<|Rv (O.ixI (.imm q) (.lit q) sl40 hx6)<|Rv (O.fI (.iptr q) fd78_2)<|Rv (O.ldI (x:=I64 x6.Num) (.iptr q) ct3 q)<|Vm q<|Rv (O.eql (.lit q) (.lit q))<|Fi (tn4 q q q q)) ?_
   refine Px.sq<|W.cnd q (fun hb7=>?_) (fun hb7=>?_)
   ·replace h:=cndT hb7 h
    refine W.sq'<|W.rx [(4,_)] (Vm q<|Va q<|Fi (.n q .nil)) ?_
    refine Px.sq<|W.rt ?_
    refine Px.bkR ?_
    refine Px.sqR ?_
    obtain rfl:=sm h
    exact Px.r2 (.n q .nil)
   ·replace h:=cndF hb7 h
    refine W.sk<|Px.bk ?_
    refine Px.sq<|W.rx [(0,_),(1,_),(5,_)] (Vm q<|Rv (O.add (.lit q) (.k q))<|RunL.re (G1:=[(0,_),(1,_),(15,_)]) (tn3 q q q)<|Va q<|Fi (tn3 q q q)) ?_
    obtain rfl:=sm h
    exact Px.go (tn3 q q q)
  ·replace h:=cndF hb5 h
   refine W.xi ?_
   refine Px.sqE ?_
   obtain rfl:=sm h
   exact Px.x2 .nil
 ·subst hx
  refine Px.bkH ?_
  refine Px.sq<|W.sq' ?_
  refine W.rx [(4,_)] (Vk q<|Fi (.n q .nil)) ?_
  refine Px.sq<|W.rt ?_
  obtain rfl:=sm h
  exact Px.fin (Fin.ro (.f q q .nil) q (ode (by kernel_rfl)) (.no (.no .nil)) q (.inr q))
 ·subst hx
  refine Px.bkR ?_
  refine Px.sqR ?_
  obtain rfl:=sm h
  exact Px.fin (Fin.ro (.f q q .nil) q (ode (by kernel_rfl)) (.no (.no .nil)) q (.inr q))
theorem con113 (a0:yuccaref9_maker) (a1:Sym) (r:Int × yuccaref9_maker) (h:pf113 a0 a1=some r):Con Try.prog 113 [.obj (eyuccaref9_maker_r.cells a0),.agg (eSym.cells a1)] [some (.obj [oR eTok r.2.f_g.Toks,oR eNon r.2.f_g.Nons,oR eProd_0 r.2.f_g.Prods,SS r.2.f_g.Pro,SS r.2.f_g.Tail,oR eB r.2.f_given,oR eNon r.2.f_types,oR eS r.2.f_lefts,I64 r.2.f_e,I64 r.2.f_at,SS r.2.f_name,I64 r.2.f_level,I64 r.2.f_inner]),none] (I64 r.1):=by
 unfold pf113 at h
 refine Con.go (N:=⟨66,[0]⟩) Try.func113 q q q q (W.fin ?_)
 refine W.st [(0,.obj (eyuccaref9_maker_r.cells a0)),(1,.agg (eSym.cells a1))] ?_
 refine W.sq'<|W.rx [(0,_),(3,_)] (Rv (O.box (.aggF q q) q)<|Vk q<|Fi (tn2 q q)) ?_
 refine Px.sq<|W.sq' ?_
 obtain ⟨x1,hx1,h⟩:=bnd h
 refine W.rx [(0,_),(3,_),(5,_)] (Rv (O.mv (.obj q))<|Rv (O.ldON (cs':=[SS a1.Name,BB a1.Lit,I64 a1.Num,I64 a1.At]) q (.obj q) at88 q q)<|Rc (PC.vw (ys:=[.ptr ⟨0,[]⟩ 0,.agg (eSym.cells a1)]) q (.c (View.p0 q q) (.c (.ag (.s (.s (.s (.s .nil))))) .nil)) (con95 a0 a1 _ hx1) call95 q)<|Va q<|Fi (tn3 q q q)) ?_
 refine Px.sq<|W.sq' ?_
 refine W.sq'<|W.rx [(0,_),(3,_),(5,_),(11,_)] (Vm q<|Rv (O.geq (.lit q) (.k q))<|Fi (tn4 q q q q)) ?_
 refine Px.sq<|W.cnd q (fun hb2=>?_) (fun hb2=>?_)
 ·replace h:=cndT hb2 h
  refine W.sq'<|W.rx [(0,_),(4,_)] (Vm q<|Va q<|Fi (tn2 q q)) ?_
  refine Px.sq<|W.rt ?_
  refine Px.sqR ?_
  obtain rfl:=sm h
  exact Px.fin (Fin.ro (.f q q .nil) q (ode (by kernel_rfl)) (.so q q (.no .nil)) q (.inr q))
 ·replace h:=cndF hb2 h
  refine W.sk<|Px.sq ?_
  refine W.sq'<|W.rx [(0,_),(3,_),(6,_)] (Rv (O.fO q (.obj q) fd88_0 q)<|Rv (O.ldO (y:=SS a1.Name) q (.ptr q) ct9 q q)<|Rv (O.fO q (.obj q) fd88_1 q)<|Rv (O.ldO (y:=BB a1.Lit) q (.ptr q) ct4 q q)<|Rv (O.bu (cs:=[SS a1.Name,BB a1.Lit,I64 0,I64 0,I64 0,SS S0]) sc78 ze78 q q q)<|Rv (O.al (cs:=[SS S0,BB false,I64 0,I64 0,I64 0,SS S0]) ze78 q q)<|RunL.sO (G2:=[(0,_),(3,_),(6,_)]) (cs2:=[SS a1.Name,BB a1.Lit,I64 0,I64 0,I64 0,SS S0]) q (.obj q) (.aggF q q) q sz78 q q q q (.n q q (.n q q (.b q .nil)))<|Fi (tn3 q q q)) ?_
  refine Px.sq<|W.sq' ?_
  refine W.sq'<|W.rx [(0,_),(3,_),(6,_),(19,_)] (Rv (O.fO q (.obj q) fd88_1 q)<|Rv (O.ldO (y:=BB a1.Lit) q (.ptr q) ct4 q q)<|Fi (tn4 q q q q)) ?_
  refine Px.sq ?_
  obtain ⟨j3,hj,h⟩:=bnd h
  refine W.jn [(0,.obj (eyuccaref9_maker_r.cells j3.1)),(3,.obj (eSym.cells a1)),(6,.obj [SS a1.Name,BB a1.Lit,I64 j3.2,I64 0,I64 0,SS S0])] ?_ ?_
  ·clear h; have h:=hj; clear hj
   refine W.cnd q (fun hb4=>?_) (fun hb4=>?_)
   ·replace h:=cndT hb4 h
    refine W.sq' ?_
    obtain ⟨x5,hx5,h⟩:=bnd h
    refine W.rx [(0,_),(3,_),(6,_)] (Rv (O.fO q (.obj q) fd88_0 q)<|Rv (O.ldO (y:=SS a1.Name) q (.ptr q) ct9 q q)<|Rv (O.at' (.lit q) (.k q) st9 hx5)<|Rv (O.cvI (.lit q) it5 it3)<|Rv (O.fO q (.obj q) fd78_2 q)<|RunL.sO (G2:=[(0,_),(3,_),(6,_)]) (cs2:=[SS a1.Name,BB a1.Lit,I64 (w64 x5),I64 0,I64 0,SS S0]) q (.ptr q) (.lit q) q sz3 q q q q (.n q q (.n q q (.b q .nil)))<|Fi (tn3 q q q)) ?_
    refine Px.sq<|W.sq' ?_
    obtain ⟨x6,hx6,h⟩:=bnd h
    refine W.rx [(0,_),(3,_),(6,_),(29,_)] (Rv (O.mv (.obj q))<|Rv (O.fO q (.obj q) fd78_2 q)<|Rv (O.ldO (y:=I64 (w64 x5)) q (.ptr q) ct3 q q)<|Rc (PC.vw (ys:=[.ptr ⟨0,[]⟩ 0,I64 (w64 x5)]) q (.c (View.p0 q q) (.s .nil)) (con114 a0 (w64 x5) _ hx6) call114 q)<|Rv (O.geq (.lit q) (.k q))<|Fi (tn4 q q q q)) ?_
    refine Px.sq ?_
    obtain ⟨j7,hj,h⟩:=bnd h
    refine W.jn [(0,.obj (eyuccaref9_maker_r.cells j7)),(3,.obj (eSym.cells a1)),(6,.obj [SS a1.Name,BB a1.Lit,I64 (w64 x5),I64 0,I64 0,SS S0])] ?_ ?_
    ·clear h; have h:=hj; clear hj
     refine W.cnd q (fun hb8=>?_) (fun hb8=>?_)
     ·replace h:=cndT hb8 h
      obtain ⟨x9,hx9,h⟩:=bnd h
      refine W.rx [(0,_),(3,_),(6,_)] (Rv (O.mv (.obj q))<|Rv (O.fO q (.obj q) fd88_3 q)<|Rv (O.ldO (y:=I64 a1.At) q (.ptr q) ct3 q q)<|Rv (O.fO q (.obj q) fd88_0 q)<|Rv (O.ldO (y:=SS a1.Name) q (.ptr q) ct9 q q)<|RunL.ef q (EO.call q q (CallOk.ln (G2:=[(3,.obj (eSym.cells a1)),(6,.obj [SS a1.Name,BB a1.Lit,I64 (w64 x5),I64 0,I64 0,SS S0])]) (A:=[]) (ys:=[.ptr ⟨0,[]⟩ 0,I64 a1.At,SS a1.Name]) (args:=[.obj (eyuccaref9_maker_r.cells a0),I64 a1.At,SS a1.Name]) (cs':=[oR eTok x9.f_g.Toks,oR eNon x9.f_g.Nons,oR eProd_0 x9.f_g.Prods,SS x9.f_g.Pro,SS x9.f_g.Tail,oR eB x9.f_given,oR eNon x9.f_types,oR eS x9.f_lefts,I64 x9.f_e,I64 x9.f_at,SS x9.f_name,I64 x9.f_level,I64 x9.f_inner]) (k0:=0) q q q q (.b q (.n q (.n q .nil))) q (con94 a0 a1.At a1.Name _ hx9) call94 (tn2 q q) q q (tn2 q q) .nil q))<|Fi (tn3 q q q)) ?_
      obtain rfl:=sm h
      exact Px.jn (tn3 q q q)
     ·replace h:=cndF hb8 h
      refine W.sk ?_
      obtain rfl:=sm h
      exact Px.jn (tn3 q q q)
    obtain rfl:=sm h
    exact Px.jn (tn3 q q q)
   ·replace h:=cndF hb4 h
    refine W.sk ?_
    obtain rfl:=sm h
    exact Px.jn (tn3 q q q)
  refine Px.sq<|W.sq' ?_
  obtain ⟨x10,hx10,h⟩:=bnd h
  refine W.rd [[],[],[1],[1,2],[1,2,3],[1,2,3,4],[],[6],rn 1 7 [],rn 0 9 [],rn 0 10 [],rn 0 11 [],rn 0 12 []] [(0,_),(3,_)] mixo (by kernel_rfl) (Dv 0 (O.mv (.obj q))<|Dv 1 (O.mv (.obj q))<|Dv 2 (O.nlP (.ptr q))<|Dv 3 (O.fO q (.ptr q) fd169_0 q)<|Dv 4 (O.fO q (.ptr q) fd44_0 q)<|Dv 5 (O.ldO (y:=.brw eTok.z ⟨0,[0]⟩ j3.1.f_g.Toks.length) q (.ptr q) ct40 q q)<|Dv 6 (O.ldON (cs':=[SS a1.Name,BB a1.Lit,I64 j3.2,I64 0,I64 0,SS S0]) q (.obj q) at78 q q)<|DL.vi 7 (x:=iR eTok [(⟨a1.Name,a1.Lit,j3.2,0,0,S0⟩:Tok)]) (O.bs (ys:=[.agg [SS a1.Name,BB a1.Lit,I64 j3.2,I64 0,I64 0,SS S0]]) eTok [(⟨a1.Name,a1.Lit,j3.2,0,0,S0⟩:Tok)] sl40 q q q q q q zt78 q q) q q q q .none<|Dv 8 (O.ap (en:=eTok) (r:=x10) (.brw q) q (.imm q) .i ap40 q hx10)<|Dv 9 (O.nlP (.ptr q))<|Dv 10 (O.fO q (.ptr q) fd169_0 q)<|Dv 11 (O.fO q (.ptr q) fd44_0 q)<|DL.bp 12 (G2:=[(0,.obj [oR eTok (j3.1.f_g.Toks++[(⟨a1.Name,a1.Lit,j3.2,0,0,S0⟩:Tok)]),oR eNon j3.1.f_g.Nons,oR eProd_0 j3.1.f_g.Prods,SS j3.1.f_g.Pro,SS j3.1.f_g.Tail,oR eB j3.1.f_given,oR eNon j3.1.f_types,oR eS j3.1.f_lefts,I64 j3.1.f_e,I64 j3.1.f_at,SS j3.1.f_name,I64 j3.1.f_level,I64 j3.1.f_inner]),(3,.obj (eSym.cells a1))]) (EO.stP (g1:=_) (en:=eTok) (M:=[(⟨a1.Name,a1.Lit,j3.2,0,0,S0⟩:Tok)]) (cs2:=[oR eTok (j3.1.f_g.Toks++[(⟨a1.Name,a1.Lit,j3.2,0,0,S0⟩:Tok)]),oR eNon j3.1.f_g.Nons,oR eProd_0 j3.1.f_g.Prods,SS j3.1.f_g.Pro,SS j3.1.f_g.Tail,oR eB j3.1.f_given,oR eNon j3.1.f_types,oR eS j3.1.f_lefts,I64 j3.1.f_e,I64 j3.1.f_at,SS j3.1.f_name,I64 j3.1.f_level,I64 j3.1.f_inner]) q q (.ptr q) (.pend q) q q q .ns .rf q q sz40 q q q q (.b q (.n q q .nil))) q q q q (by kernel_rfl) (by kernel_rfl)<|DL.fin q q q (tn2 q q)) ?_
  refine Px.sq<|W.sq' ?_
  obtain ⟨x11,hx11,h⟩:=bnd h
  refine W.rd [[],[],[1],[1,2],[1,2,3],[],[5],[5,6],rn 1 7 [],rn 0 9 [],rn 0 10 [],rn 0 11 []] [(0,_)] mixo (by kernel_rfl) (Dv 0 (O.mv (.obj q))<|Dv 1 (O.mv (.obj q))<|Dv 2 (O.nlP (.ptr q))<|Dv 3 (O.fO q (.ptr q) fd169_1 q)<|Dv 4 (O.ldO (y:=.brw eB.z ⟨0,[5]⟩ j3.1.f_given.length) q (.ptr q) ct103 q q)<|Dv 5 (O.fO q (.obj q) fd88_1 q)<|Dv 6 (O.ldO (y:=BB a1.Lit) q (.ptr q) ct4 q q)<|DL.vi 7 (x:=iR eB [a1.Lit]) (O.bs (ys:=[BB a1.Lit]) eB [a1.Lit] sl103 q q q q q q zt4 q q) q q q q .none<|Dv 8 (O.ap (en:=eB) (r:=x11) (.brw q) q (.imm q) .i ap103 q hx11)<|Dv 9 (O.nlP (.ptr q))<|Dv 10 (O.fO q (.ptr q) fd169_1 q)<|DL.bp 11 (G2:=[(0,.obj [oR eTok (j3.1.f_g.Toks++[(⟨a1.Name,a1.Lit,j3.2,0,0,S0⟩:Tok)]),oR eNon j3.1.f_g.Nons,oR eProd_0 j3.1.f_g.Prods,SS j3.1.f_g.Pro,SS j3.1.f_g.Tail,oR eB (j3.1.f_given++[a1.Lit]),oR eNon j3.1.f_types,oR eS j3.1.f_lefts,I64 j3.1.f_e,I64 j3.1.f_at,SS j3.1.f_name,I64 j3.1.f_level,I64 j3.1.f_inner])]) (EO.stP (g1:=_) (en:=eB) (M:=[a1.Lit]) (cs2:=[oR eTok (j3.1.f_g.Toks++[(⟨a1.Name,a1.Lit,j3.2,0,0,S0⟩:Tok)]),oR eNon j3.1.f_g.Nons,oR eProd_0 j3.1.f_g.Prods,SS j3.1.f_g.Pro,SS j3.1.f_g.Tail,oR eB (j3.1.f_given++[a1.Lit]),oR eNon j3.1.f_types,oR eS j3.1.f_lefts,I64 j3.1.f_e,I64 j3.1.f_at,SS j3.1.f_name,I64 j3.1.f_level,I64 j3.1.f_inner]) q q (.ptr q) (.pend q) q q q .ns .rf q q sz103 q q q q (.b q .nil)) q q q q (by kernel_rfl) (by kernel_rfl)<|DL.fin q q q (.n q .nil)) ?_
  refine Px.sq<|W.sq' ?_
  refine W.rx [(0,_),(4,_)] (Rv (O.mv (.obj q))<|Rv (O.nlP (.ptr q))<|Rv (O.fO q (.ptr q) fd169_0 q)<|Rv (O.fO q (.ptr q) fd44_0 q)<|Rv (O.ldO (y:=.brw eTok.z ⟨0,[0]⟩ (j3.1.f_g.Toks++[(⟨a1.Name,a1.Lit,j3.2,0,0,S0⟩:Tok)]).length) q (.ptr q) ct40 q q)<|Rv (O.lenO (.brw q) sl40)<|Rv (O.sub (.lit q) (.k q))<|Va q<|Fi (tn2 q q)) ?_
  refine Px.sq<|W.rt ?_
  obtain rfl:=sm h
  exact Px.fin (Fin.ro (.f q q .nil) q (ode (by kernel_rfl)) (.so q q (.no .nil)) q (.inr q))
theorem conq94_0 (v:Value) (a0:yuccaref9_maker) (a1:Int) (a2:ByteArray) (r:yuccaref9_maker) (h:pf94 a0 a1 a2=some r):Con Try.prog 94 [.obj [.lit v,oR eNon a0.f_g.Nons,oR eProd_0 a0.f_g.Prods,SS a0.f_g.Pro,SS a0.f_g.Tail,oR eB a0.f_given,oR eNon a0.f_types,oR eS a0.f_lefts,I64 a0.f_e,I64 a0.f_at,SS a0.f_name,I64 a0.f_level,I64 a0.f_inner],I64 a1,SS a2] [some (.obj [.lit v,oR eNon r.f_g.Nons,oR eProd_0 r.f_g.Prods,SS r.f_g.Pro,SS r.f_g.Tail,oR eB r.f_given,oR eNon r.f_types,oR eS r.f_lefts,I64 r.f_e,I64 r.f_at,SS r.f_name,I64 r.f_level,I64 r.f_inner]),none,none] (.tup []):=by
 unfold pf94 at h
 refine Con.go (N:=⟨22,[0]⟩) Try.func94 q q q q (W.fin ?_)
 refine W.st [(0,.obj [.lit v,oR eNon a0.f_g.Nons,oR eProd_0 a0.f_g.Prods,SS a0.f_g.Pro,SS a0.f_g.Tail,oR eB a0.f_given,oR eNon a0.f_types,oR eS a0.f_lefts,I64 a0.f_e,I64 a0.f_at,SS a0.f_name,I64 a0.f_level,I64 a0.f_inner]),(1,I64 a1),(2,SS a2)] ?_
 refine W.sq'<|W.rx [(0,_),(1,_),(2,_),(10,_)] (Rv (O.mv (.obj q))<|Rv (O.nlP (.ptr q))<|Rv (O.fO q (.ptr q) fd169_4 q)<|Rv (O.ldO (y:=I64 a0.f_e) q (.ptr q) ct3 q q)<|Rv (O.eql (.lit q) (.k q))<|Fi (tn4 q q q q)) ?_
 refine Px.sq ?_
 obtain ⟨j1,hj,h⟩:=bnd h
 refine W.jn [(0,.obj [.lit v,oR eNon j1.f_g.Nons,oR eProd_0 j1.f_g.Prods,SS j1.f_g.Pro,SS j1.f_g.Tail,oR eB j1.f_given,oR eNon j1.f_types,oR eS j1.f_lefts,I64 j1.f_e,I64 j1.f_at,SS j1.f_name,I64 j1.f_level,I64 j1.f_inner])] ?_ ?_
 ·clear h; have h:=hj; clear hj
  refine W.cnd q (fun hb2=>?_) (fun hb2=>?_)
  ·replace h:=cndT hb2 h
   refine W.rx [(0,_)] (Rv (O.mv (.obj q))<|Rv (O.mv (.obj q))<|Rv (O.mv (.obj q))<|Vm q<|Vm q<|Rv (O.nlP (.ptr q))<|Rv (O.fO q (.ptr q) fd169_4 q)<|RunL.sO (G2:=[(0,_),(12,.ptr ⟨0,[]⟩ 0),(13,.ptr ⟨0,[]⟩ 0),(14,_),(15,_)]) (cs2:=[.lit v,oR eNon a0.f_g.Nons,oR eProd_0 a0.f_g.Prods,SS a0.f_g.Pro,SS a0.f_g.Tail,oR eB a0.f_given,oR eNon a0.f_types,oR eS a0.f_lefts,I64 3,I64 a0.f_at,SS a0.f_name,I64 a0.f_level,I64 a0.f_inner]) q (.ptr q) (.k q) q sz3 q q q q (.b q (.p q q q q q q (.p q q q q q q (.n q q (.n q q .nil)))))<|Rv (O.nlP (.ptr q))<|Rv (O.fO q (.ptr q) fd169_5 q)<|RunL.sO (G2:=[(0,_),(13,.ptr ⟨0,[]⟩ 0),(15,_)]) (cs2:=[.lit v,oR eNon a0.f_g.Nons,oR eProd_0 a0.f_g.Prods,SS a0.f_g.Pro,SS a0.f_g.Tail,oR eB a0.f_given,oR eNon a0.f_types,oR eS a0.f_lefts,I64 3,I64 a1,SS a0.f_name,I64 a0.f_level,I64 a0.f_inner]) q (.ptr q) (.lit q) q sz3 q q q q (.b q (.p q q q q q q (.n q q .nil)))<|Rv (O.nlP (.ptr q))<|Rv (O.fO q (.ptr q) fd169_6 q)<|RunL.sO (G2:=[(0,_)]) (cs2:=[.lit v,oR eNon a0.f_g.Nons,oR eProd_0 a0.f_g.Prods,SS a0.f_g.Pro,SS a0.f_g.Tail,oR eB a0.f_given,oR eNon a0.f_types,oR eS a0.f_lefts,I64 3,I64 a1,SS a2,I64 a0.f_level,I64 a0.f_inner]) q (.ptr q) (.lit q) q sz9 q q q q (.b q .nil)<|Fi (.n q .nil)) ?_
   obtain rfl:=sm h
   exact Px.jn (.n q .nil)
  ·replace h:=cndF hb2 h
   refine W.sk ?_
   obtain rfl:=sm h
   exact Px.jn (.n q .nil)
 obtain rfl:=sm h
 exact Px.fin (Fin.ro .nil q (ode (by kernel_rfl)) (.so q q (.no (.no .nil))) q (.inl q))
theorem con93 (a0:yuccaref9_maker) (a1:Decl) (a2:Sym) (r:yuccaref9_maker) (h:pf93 a0 a1 a2=some r):Con Try.prog 93 [.obj (eyuccaref9_maker_r.cells a0),.agg (eDecl_0.cells a1),.agg (eSym.cells a2)] [some (.obj [oR eTok r.f_g.Toks,oR eNon r.f_g.Nons,oR eProd_0 r.f_g.Prods,SS r.f_g.Pro,SS r.f_g.Tail,oR eB r.f_given,oR eNon r.f_types,oR eS r.f_lefts,I64 r.f_e,I64 r.f_at,SS r.f_name,I64 r.f_level,I64 r.f_inner]),none,none] (.tup []):=by
 unfold pf93 at h
 refine Con.go (N:=⟨152,[0]⟩) Try.func93 q q q q (W.fin ?_)
 refine W.st [(0,.obj (eyuccaref9_maker_r.cells a0)),(1,.agg (eDecl_0.cells a1)),(2,.agg (eSym.cells a2))] ?_
 refine W.sq'<|W.rx [(0,_),(4,_),(5,_)] (Rv (O.box (.aggF q q) q)<|Rv (O.box (.aggF q q) q)<|Fi (tn3 q q q)) ?_
 refine Px.sq<|W.sq' ?_
 refine W.sq'<|W.rx [(0,_),(4,_),(5,_),(11,_)] (Rv (O.fO q (.obj q) fd100_0 q)<|Rv (O.ldO (y:=I64 a1.Kind) q (.ptr q) ct3 q q)<|Rv (O.eql (.lit q) (.k q))<|Fi (tn4 q q q q)) ?_
 refine Px.sq<|W.cnd q (fun hb1=>?_) (fun hb1=>?_)
 ·replace h:=cndT hb1 h
  refine W.sq' ?_
  obtain ⟨x2,hx2,h⟩:=bnd h
  refine W.rx [(0,_),(4,_),(5,_),(6,_)] (Rv (O.mv (.obj q))<|Rv (O.fO q (.obj q) fd88_0 q)<|Rv (O.ldO (y:=SS a2.Name) q (.ptr q) ct9 q q)<|Rc (PC.vw (ys:=[.ptr ⟨0,[]⟩ 0,SS a2.Name]) q (.c (View.p0 q q) (.s .nil)) (con98 a0 a2.Name _ hx2) call98 q)<|Va q<|Fi (tn4 q q q q)) ?_
  refine Px.sq<|W.sq' ?_
  refine W.sq'<|W.rx [(0,_),(4,_),(5,_),(6,_),(17,_)] (Vm q<|Rv (O.lss (.lit q) (.k q))<|Fi (tn5 q q q q q)) ?_
  refine Px.sq ?_
  obtain ⟨j3,hj,h⟩:=bnd h
  refine W.jn [(0,.obj (eyuccaref9_maker_r.cells j3))] ?_ ?_
  ·clear h; have h:=hj; clear hj
   refine W.cnd q (fun hb4=>?_) (fun hb4=>?_)
   ·replace h:=cndT hb4 h
    obtain ⟨x5,hx5,h⟩:=bnd h
    refine W.rd [[],[],[1],[1,2],[1,2,3],[],[5],[],[7],[5,6,7,8],rn 5 5 [],rn 1 10 [],rn 0 12 [],rn 0 13 [],rn 0 14 []] [(0,_)] mixo (by kernel_rfl) (Dv 0 (O.mv (.obj q))<|Dv 1 (O.mv (.obj q))<|Dv 2 (O.nlP (.ptr q))<|Dv 3 (O.fO q (.ptr q) fd169_2 q)<|Dv 4 (O.ldO (y:=.brw eNon.z ⟨0,[6]⟩ a0.f_types.length) q (.ptr q) ct41 q q)<|Dv 5 (O.fO q (.obj q) fd88_0 q)<|Dv 6 (O.ldO (y:=SS a2.Name) q (.ptr q) ct9 q q)<|Dv 7 (O.fO q (.obj q) fd100_1 q)<|Dv 8 (O.ldO (y:=SS a1.Tag) q (.ptr q) ct9 q q)<|Dv 9 (O.bu (cs:=[SS a2.Name,SS a1.Tag]) sc176 ze176 q q q)<|DL.vi 10 (x:=iR eNon [(⟨a2.Name,a1.Tag⟩:Non)]) (O.bs (ys:=[.agg [SS a2.Name,SS a1.Tag]]) eNon [(⟨a2.Name,a1.Tag⟩:Non)] sl41 q q q q q q zt176 q q) q q q q .none<|Dv 11 (O.ap (en:=eNon) (r:=x5) (.brw q) q (.imm q) .i ap41 q hx5)<|Dv 12 (O.nlP (.ptr q))<|Dv 13 (O.fO q (.ptr q) fd169_2 q)<|DL.bp 14 (G2:=[(0,.obj [oR eTok a0.f_g.Toks,oR eNon a0.f_g.Nons,oR eProd_0 a0.f_g.Prods,SS a0.f_g.Pro,SS a0.f_g.Tail,oR eB a0.f_given,oR eNon (a0.f_types++[(⟨a2.Name,a1.Tag⟩:Non)]),oR eS a0.f_lefts,I64 a0.f_e,I64 a0.f_at,SS a0.f_name,I64 a0.f_level,I64 a0.f_inner])]) (EO.stP (g1:=_) (en:=eNon) (M:=[(⟨a2.Name,a1.Tag⟩:Non)]) (cs2:=[oR eTok a0.f_g.Toks,oR eNon a0.f_g.Nons,oR eProd_0 a0.f_g.Prods,SS a0.f_g.Pro,SS a0.f_g.Tail,oR eB a0.f_given,oR eNon (a0.f_types++[(⟨a2.Name,a1.Tag⟩:Non)]),oR eS a0.f_lefts,I64 a0.f_e,I64 a0.f_at,SS a0.f_name,I64 a0.f_level,I64 a0.f_inner]) q q (.ptr q) (.pend q) q q q .ns .rf q q sz41 q q q q (.b q .nil)) q q q q (by kernel_rfl) (by kernel_rfl)<|DL.fin q q q (.n q .nil)) ?_
    obtain rfl:=sm h
    exact Px.jn (.n q .nil)
   ·replace h:=cndF hb4 h
    refine W.sq' ?_
    obtain ⟨x6,hx6,h⟩:=bnd h
    refine W.rd [[],[0],[0,1],[0,1,2],[],rn 0 5 [],rn 0 6 [],rn 0 7 [],[],[8],rn 0 10 []] [(0,_),(5,_),(42,_)] mixo (by kernel_rfl) (Dv 0 (O.mv (.obj q))<|Dv 1 (O.nlP (.ptr q))<|Dv 2 (O.fO q (.ptr q) fd169_2 q)<|Dv 3 (O.ldO (y:=.brw eNon.z ⟨0,[6]⟩ a0.f_types.length) q (.ptr q) ct41 q q)<|Dv 4 (O.mv (.lit q))<|Dv 5 (O.ixO (en:=eNon) q (.brw q) (.lit q) sl41 hx6 q)<|Dv 6 (O.fE (en:=eNon) q (.ptr q) fd176_1 hx6 q q)<|Dv 7 (O.ldE (en:=eNon) (x':=SS x6.Tag) q (.ptr q) ct9 hx6 q q)<|Dv 8 (O.fO q (.obj q) fd100_1 q)<|Dv 9 (O.ldO (y:=SS a1.Tag) q (.ptr q) ct9 q q)<|Dv 10 (O.neS (.lit q) (.lit q))<|DL.fin q q q (tn3 q q q)) ?_
    refine Px.sq ?_
    obtain ⟨j7,hj,h⟩:=bnd h
    refine W.jn [(0,.obj (eyuccaref9_maker_r.cells j7))] ?_ ?_
    ·clear h; have h:=hj; clear hj
     refine W.cnd q (fun hb8=>?_) (fun hb8=>?_)
     ·replace h:=cndT hb8 h
      obtain ⟨x9,hx9,h⟩:=bnd h
      refine W.rx [(0,_)] (Rv (O.mv (.obj q))<|Rv (O.fO q (.obj q) fd88_3 q)<|Rv (O.ldO (y:=I64 a2.At) q (.ptr q) ct3 q q)<|Rv (O.fO q (.obj q) fd88_0 q)<|Rv (O.ldO (y:=SS a2.Name) q (.ptr q) ct9 q q)<|RunL.ef q (EO.call q q (CallOk.ln (G2:=[]) (A:=[]) (ys:=[.ptr ⟨0,[]⟩ 0,I64 a2.At,SS a2.Name]) (args:=[.obj (eyuccaref9_maker_r.cells a0),I64 a2.At,SS a2.Name]) (cs':=[oR eTok x9.f_g.Toks,oR eNon x9.f_g.Nons,oR eProd_0 x9.f_g.Prods,SS x9.f_g.Pro,SS x9.f_g.Tail,oR eB x9.f_given,oR eNon x9.f_types,oR eS x9.f_lefts,I64 x9.f_e,I64 x9.f_at,SS x9.f_name,I64 x9.f_level,I64 x9.f_inner]) (k0:=0) q q q q (.b q (.n q (.n q .nil))) q (con94 a0 a2.At a2.Name _ hx9) call94 .nil q q .nil .nil q))<|Fi (.n q .nil)) ?_
      obtain rfl:=sm h
      exact Px.jn (.n q .nil)
     ·replace h:=cndF hb8 h
      refine W.sk ?_
      obtain rfl:=sm h
      exact Px.jn (.n q .nil)
    obtain rfl:=sm h
    exact Px.jn (.n q .nil)
  refine Px.sq<|W.rt ?_
  refine Px.sqR ?_
  obtain rfl:=sm h
  exact Px.fin (Fin.ro .nil q (ode (by kernel_rfl)) (.so q q (.no (.no .nil))) q (.inr q))
 ·replace h:=cndF hb1 h
  refine W.sk<|Px.sq ?_
  refine W.sq' ?_
  obtain ⟨x10,hx10,h⟩:=bnd h
  refine W.rx [(0,_),(4,_),(5,_),(7,_)] (Rv (O.mv (.obj q))<|Rv (O.ldON (cs':=[SS a2.Name,BB a2.Lit,I64 a2.Num,I64 a2.At]) q (.obj q) at88 q q)<|RunL.ef q (EO.call q q (CallOk.ln (G2:=[(4,.obj (eDecl_0.cells a1)),(5,.obj (eSym.cells a2))]) (A:=[]) (ys:=[.ptr ⟨0,[]⟩ 0,.agg (eSym.cells a2)]) (args:=[.obj (eyuccaref9_maker_r.cells a0),.agg (eSym.cells a2)]) (cs':=[oR eTok x10.2.f_g.Toks,oR eNon x10.2.f_g.Nons,oR eProd_0 x10.2.f_g.Prods,SS x10.2.f_g.Pro,SS x10.2.f_g.Tail,oR eB x10.2.f_given,oR eNon x10.2.f_types,oR eS x10.2.f_lefts,I64 x10.2.f_e,I64 x10.2.f_at,SS x10.2.f_name,I64 x10.2.f_level,I64 x10.2.f_inner]) (k0:=0) q q q q (.b q (.n q .nil)) q (con113 a0 a2 _ hx10) call113 (tn2 q q) q q (tn2 q q) .nil q))<|Va q<|Fi (tn4 q q q q)) ?_
  refine Px.sq<|W.sq' ?_
  obtain ⟨x11,hx11,h⟩:=bnd h
  refine W.rx [(0,_),(4,_),(5,_),(7,_),(8,.ptr ⟨0,[0]⟩ (x10.1.toNat * eTok.z+0))] (Rv (O.mv (.obj q))<|Rv (O.nlP (.ptr q))<|Rv (O.fO q (.ptr q) fd169_0 q)<|Rv (O.fO q (.ptr q) fd44_0 q)<|Rv (O.ldO (y:=.brw eTok.z ⟨0,[0]⟩ x10.2.f_g.Toks.length) q (.ptr q) ct40 q q)<|Vm q<|Rv (O.ixO (en:=eTok) q (.brw q) (.lit q) sl40 hx11 q)<|Rv (O.az (.ptr q))<|Fi (.n q (.n q (.n q (.n q (.r q (RK.el (en:=eTok) q hx11 q) npPtr .nil)))))) ?_
  refine Px.sq<|W.sq' ?_
  refine W.sq'<|W.rx [(0,_),(4,_),(5,_),(7,_),(8,.ptr ⟨0,[0]⟩ (x10.1.toNat * eTok.z+0)),(61,_)] (Rv (O.fO q (.obj q) fd100_0 q)<|Rv (O.ldO (y:=I64 a1.Kind) q (.ptr q) ct3 q q)<|Rv (O.neq (.lit q) (.k q))<|Fi (.n q (.n q (.n q (.n q (.r q (RK.el (en:=eTok) q hx11 q) npPtr (.n q .nil))))))) ?_
  refine Px.sq ?_
  obtain ⟨j12,hj,h⟩:=bnd h
  refine W.jn [(0,.obj (eyuccaref9_maker_r.cells j12)),(4,.obj (eDecl_0.cells a1)),(5,.obj (eSym.cells a2)),(7,I64 x10.1),(8,.ptr ⟨0,[0]⟩ (x10.1.toNat * eTok.z+0))] ?_ ?_
  ·clear h; have h:=hj; clear hj
   refine W.cnd q (fun hb13=>?_) (fun hb13=>?_)
   ·replace h:=cndT hb13 h
    refine W.sq'<|W.sq' ?_
    refine W.rx [(0,_),(4,_),(5,_),(7,_),(8,.ptr ⟨0,[0]⟩ (x10.1.toNat * eTok.z+0)),(66,_)] (Rv (O.mv (.ptr q))<|Rv (O.nlP (.ptr q))<|Rv (O.fE (en:=eTok) q (.ptr q) fd78_3 hx11 q q)<|Rv (O.ldE (en:=eTok) (x':=I64 x11.Level) q (.ptr q) ct3 hx11 q q)<|Rv (O.gtr (.lit q) (.k q))<|Fi (.n q (.n q (.n q (.n q (.r q (RK.el (en:=eTok) q hx11 q) npPtr (.n q .nil))))))) ?_
    refine Px.sq ?_
    obtain ⟨j14,hj,h⟩:=bnd h
    refine W.jn [(0,.obj (eyuccaref9_maker_r.cells j14)),(4,.obj (eDecl_0.cells a1)),(5,.obj (eSym.cells a2)),(7,I64 x10.1),(8,.ptr ⟨0,[0]⟩ (x10.1.toNat * eTok.z+0))] ?_ ?_
    ·clear h; have h:=hj; clear hj
     refine W.cnd q (fun hb15=>?_) (fun hb15=>?_)
     ·replace h:=cndT hb15 h
      obtain ⟨x16,hx16,h⟩:=bnd h
      refine W.rx [(0,_),(4,_),(5,_),(7,_),(8,.ptr ⟨0,[0]⟩ (x10.1.toNat * eTok.z+0))] (Rv (O.mv (.obj q))<|Rv (O.fO q (.obj q) fd88_3 q)<|Rv (O.ldO (y:=I64 a2.At) q (.ptr q) ct3 q q)<|Rv (O.fO q (.obj q) fd88_0 q)<|Rv (O.ldO (y:=SS a2.Name) q (.ptr q) ct9 q q)<|RunL.ef (G2:=[(8,.ptr ⟨0,[0]⟩ (x10.1.toNat * eTok.z+0))]++[(72,.tup []),(0,.obj [oR eTok x10.2.f_g.Toks,oR eNon x16.f_g.Nons,oR eProd_0 x16.f_g.Prods,SS x16.f_g.Pro,SS x16.f_g.Tail,oR eB x16.f_given,oR eNon x16.f_types,oR eS x16.f_lefts,I64 x16.f_e,I64 x16.f_at,SS x16.f_name,I64 x16.f_level,I64 x16.f_inner]),(4,.obj (eDecl_0.cells a1)),(5,.obj (eSym.cells a2)),(7,I64 x10.1)]) q (EO.fr (r:=0) (k0:=0) (y:=oR eTok x10.2.f_g.Toks) (cs5:=[oR eTok x10.2.f_g.Toks,oR eNon x16.f_g.Nons,oR eProd_0 x16.f_g.Prods,SS x16.f_g.Pro,SS x16.f_g.Tail,oR eB x16.f_given,oR eNon x16.f_types,oR eS x16.f_lefts,I64 x16.f_e,I64 x16.f_at,SS x16.f_name,I64 x16.f_level,I64 x16.f_inner]) (G1:=fun v=>[(0,.obj [.lit v,oR eNon x10.2.f_g.Nons,oR eProd_0 x10.2.f_g.Prods,SS x10.2.f_g.Pro,SS x10.2.f_g.Tail,oR eB x10.2.f_given,oR eNon x10.2.f_types,oR eS x10.2.f_lefts,I64 x10.2.f_e,I64 x10.2.f_at,SS x10.2.f_name,I64 x10.2.f_level,I64 x10.2.f_inner]),(4,.obj (eDecl_0.cells a1)),(5,.obj (eSym.cells a2)),(7,I64 x10.1),(67,.ptr ⟨0,[]⟩ 0),(69,I64 a2.At),(71,SS a2.Name)]) (G4:=fun v=>[(72,.tup []),(0,.obj [.lit v,oR eNon x16.f_g.Nons,oR eProd_0 x16.f_g.Prods,SS x16.f_g.Pro,SS x16.f_g.Tail,oR eB x16.f_given,oR eNon x16.f_types,oR eS x16.f_lefts,I64 x16.f_e,I64 x16.f_at,SS x16.f_name,I64 x16.f_level,I64 x16.f_inner]),(4,.obj (eDecl_0.cells a1)),(5,.obj (eSym.cells a2)),(7,I64 x10.1)]) (c4:=fun v=>[.lit v,oR eNon x16.f_g.Nons,oR eProd_0 x16.f_g.Prods,SS x16.f_g.Pro,SS x16.f_g.Tail,oR eB x16.f_given,oR eNon x16.f_types,oR eS x16.f_lefts,I64 x16.f_e,I64 x16.f_at,SS x16.f_name,I64 x16.f_level,I64 x16.f_inner]) (G5:=[(72,.tup []),(0,.obj [oR eTok x10.2.f_g.Toks,oR eNon x16.f_g.Nons,oR eProd_0 x16.f_g.Prods,SS x16.f_g.Pro,SS x16.f_g.Tail,oR eB x16.f_given,oR eNon x16.f_types,oR eS x16.f_lefts,I64 x16.f_e,I64 x16.f_at,SS x16.f_name,I64 x16.f_level,I64 x16.f_inner]),(4,.obj (eDecl_0.cells a1)),(5,.obj (eSym.cells a2)),(7,I64 x10.1)]) (A:=[(8,.ptr ⟨0,[0]⟩ (x10.1.toNat * eTok.z+0))]) q q q q (fun v=>(.b q (.n q q (.n q q (.n q q (.p q q q q q q (.n q q (.n q q .nil)))))))) (fun v=>CallOk.ln (G2:=[(4,.obj (eDecl_0.cells a1)),(5,.obj (eSym.cells a2)),(7,I64 x10.1)]) (A:=[]) (ys:=[.ptr ⟨0,[]⟩ 0,I64 a2.At,SS a2.Name]) (args:=[.obj [.lit v,oR eNon x10.2.f_g.Nons,oR eProd_0 x10.2.f_g.Prods,SS x10.2.f_g.Pro,SS x10.2.f_g.Tail,oR eB x10.2.f_given,oR eNon x10.2.f_types,oR eS x10.2.f_lefts,I64 x10.2.f_e,I64 x10.2.f_at,SS x10.2.f_name,I64 x10.2.f_level,I64 x10.2.f_inner],I64 a2.At,SS a2.Name]) (cs':=[.lit v,oR eNon x16.f_g.Nons,oR eProd_0 x16.f_g.Prods,SS x16.f_g.Pro,SS x16.f_g.Tail,oR eB x16.f_given,oR eNon x16.f_types,oR eS x16.f_lefts,I64 x16.f_e,I64 x16.f_at,SS x16.f_name,I64 x16.f_level,I64 x16.f_inner]) (k0:=0) q q q q (.b q (.n q (.n q .nil))) q (conq94_0 v x10.2 a2.At a2.Name _ hx16) call94 (tn3 q q q) q q (tn3 q q q) .nil q) (fun v=>q) (fun v=>q) (fun v=>q) (fun v=>(.n q q (.b q (.n q q (.n q q (.n q q .nil)))))) q (.c (en:=eTok) (L:=x10.2.f_g.Toks) q q hx11 q q q .nil))<|Fi (.n q (.n q (.n q (.n q (.r q (RK.el (en:=eTok) q hx11 q) npPtr .nil)))))) ?_
      obtain rfl:=sm h
      exact Px.jn (.n q (.n q (.n q (.n q (.r q (RK.el (en:=eTok) q hx11 q) npPtr .nil)))))
     ·replace h:=cndF hb15 h
      refine W.sk ?_
      obtain rfl:=sm h
      exact Px.jn (.n q (.n q (.n q (.n q (.r q (RK.el (en:=eTok) q hx11 q) npPtr .nil)))))
    obtain ⟨x17,hx17,h⟩:=bnd h
    refine Px.sq<|W.rd [[],[],[],[2],[2,3],[2,3,4],[],[6],[6,7],[0,2,3,4,5],[0,2,3,4,5,9],[0,2,3,4,5,9,10],rn 0 12 [],rn 0 13 [],rn 0 14 []] [(0,_),(4,_),(5,_),(7,_),(8,.ptr ⟨0,[0]⟩ (x10.1.toNat * eTok.z+0))] mixo (by kernel_rfl) (Dv 0 (O.mv (.ptr q))<|Dv 1 (O.mv (.ptr q))<|Dv 2 (O.mv (.obj q))<|Dv 3 (O.nlP (.ptr q))<|Dv 4 (O.fO q (.ptr q) fd169_7 q)<|Dv 5 (O.ldO (y:=I64 j14.f_level) q (.ptr q) ct3 q q)<|Dv 6 (O.fO q (.obj q) fd100_0 q)<|Dv 7 (O.ldO (y:=I64 a1.Kind) q (.ptr q) ct3 q q)<|Dv 8 (O.sub (.lit q) (.k q))<|Dv 9 (O.nlP (.ptr q))<|Dv 10 (O.fE (en:=eTok) q (.ptr q) fd78_3 hx17 q q)<|DL.bu 11 (G2:=[(0,.obj [oR eTok (j14.f_g.Toks.set x10.1.toNat (⟨x17.Name,x17.Lit,x17.Num,j14.f_level,x17.Assoc,x17.Tag⟩:Tok)),oR eNon j14.f_g.Nons,oR eProd_0 j14.f_g.Prods,SS j14.f_g.Pro,SS j14.f_g.Tail,oR eB j14.f_given,oR eNon j14.f_types,oR eS j14.f_lefts,I64 j14.f_e,I64 j14.f_at,SS j14.f_name,I64 j14.f_level,I64 j14.f_inner]),(4,.obj (eDecl_0.cells a1)),(5,.obj (eSym.cells a2)),(7,I64 x10.1),(8,.ptr ⟨0,[0]⟩ (x10.1.toNat * eTok.z+0))]) (U:=[(8,81,some (I64 (w64 (a1.Kind - 1)))),(7,80,some (I64 a1.Kind)),(6,79,some (.ptr ⟨4,[]⟩ 0)),(1,74,some (.ptr ⟨0,[0]⟩ (x10.1.toNat * eTok.z+0)))]) (EffOk.v (EO.eff (EO.stE (en:=eTok) (y2:=(⟨x17.Name,x17.Lit,x17.Num,j14.f_level,x17.Assoc,x17.Tag⟩:Tok)) (cs':=[I64 j14.f_level]) (x2:=.obj [oR eTok (j14.f_g.Toks.set x10.1.toNat (⟨x17.Name,x17.Lit,x17.Num,j14.f_level,x17.Assoc,x17.Tag⟩:Tok)),oR eNon j14.f_g.Nons,oR eProd_0 j14.f_g.Prods,SS j14.f_g.Pro,SS j14.f_g.Tail,oR eB j14.f_given,oR eNon j14.f_types,oR eS j14.f_lefts,I64 j14.f_e,I64 j14.f_at,SS j14.f_name,I64 j14.f_level,I64 j14.f_inner]) q q (.ptr q) (.lit q) q hx17 sz3 q q q q q q q (.b q (.n q q (.n q q (.n q q (.e q q (.mk (en:=eTok) q hx17 q (idx_set_same hx17) q) q .nil)))))))) q q (by kernel_rfl) q q q (.c (.inr (.inl ⟨_,q⟩)) q q q q q (Gd.wanted .none) (O.sub (.lit q) (.k q)) (.c (.inr (.inl ⟨_,q⟩)) q q q q q (Gd.wanted .none) (O.ldO (y:=I64 a1.Kind) q (.ptr q) ct3 q q) (.c (.inr (.inr (.inr (.inl ⟨4,_,_,q,q,of_blt q,by simp,_,q,of_blt q⟩)))) q q q q q (Gd.wanted .none) (O.fO q (.obj q) fd100_0 q) (.c (.inr (.inr (.inl ⟨8,_,_,q,q,q,by simp⟩))) q q q q q (Gd.wanted .none) (O.mv (.ptr q)) .nil)))) (by kernel_rfl)<|Dv 12 (O.nlP (.ptr q))<|Dv 13 (O.fE (en:=eTok) q (.ptr q) fd78_4 (idx_set_same hx17) q q)<|DL.bp 14 (G2:=[(0,.obj [oR eTok ((j14.f_g.Toks.set x10.1.toNat (⟨x17.Name,x17.Lit,x17.Num,j14.f_level,x17.Assoc,x17.Tag⟩:Tok)).set x10.1.toNat (⟨(⟨x17.Name,x17.Lit,x17.Num,j14.f_level,x17.Assoc,x17.Tag⟩:Tok).Name,(⟨x17.Name,x17.Lit,x17.Num,j14.f_level,x17.Assoc,x17.Tag⟩:Tok).Lit,(⟨x17.Name,x17.Lit,x17.Num,j14.f_level,x17.Assoc,x17.Tag⟩:Tok).Num,(⟨x17.Name,x17.Lit,x17.Num,j14.f_level,x17.Assoc,x17.Tag⟩:Tok).Level,w64 (a1.Kind - 1),(⟨x17.Name,x17.Lit,x17.Num,j14.f_level,x17.Assoc,x17.Tag⟩:Tok).Tag⟩:Tok)),oR eNon j14.f_g.Nons,oR eProd_0 j14.f_g.Prods,SS j14.f_g.Pro,SS j14.f_g.Tail,oR eB j14.f_given,oR eNon j14.f_types,oR eS j14.f_lefts,I64 j14.f_e,I64 j14.f_at,SS j14.f_name,I64 j14.f_level,I64 j14.f_inner]),(4,.obj (eDecl_0.cells a1)),(5,.obj (eSym.cells a2)),(7,I64 x10.1),(8,.ptr ⟨0,[0]⟩ (x10.1.toNat * eTok.z+0))]) (EO.stE (en:=eTok) (y2:=(⟨(⟨x17.Name,x17.Lit,x17.Num,j14.f_level,x17.Assoc,x17.Tag⟩:Tok).Name,(⟨x17.Name,x17.Lit,x17.Num,j14.f_level,x17.Assoc,x17.Tag⟩:Tok).Lit,(⟨x17.Name,x17.Lit,x17.Num,j14.f_level,x17.Assoc,x17.Tag⟩:Tok).Num,(⟨x17.Name,x17.Lit,x17.Num,j14.f_level,x17.Assoc,x17.Tag⟩:Tok).Level,w64 (a1.Kind - 1),(⟨x17.Name,x17.Lit,x17.Num,j14.f_level,x17.Assoc,x17.Tag⟩:Tok).Tag⟩:Tok)) (cs':=[I64 (w64 (a1.Kind - 1))]) (x2:=.obj [oR eTok ((j14.f_g.Toks.set x10.1.toNat (⟨x17.Name,x17.Lit,x17.Num,j14.f_level,x17.Assoc,x17.Tag⟩:Tok)).set x10.1.toNat (⟨(⟨x17.Name,x17.Lit,x17.Num,j14.f_level,x17.Assoc,x17.Tag⟩:Tok).Name,(⟨x17.Name,x17.Lit,x17.Num,j14.f_level,x17.Assoc,x17.Tag⟩:Tok).Lit,(⟨x17.Name,x17.Lit,x17.Num,j14.f_level,x17.Assoc,x17.Tag⟩:Tok).Num,(⟨x17.Name,x17.Lit,x17.Num,j14.f_level,x17.Assoc,x17.Tag⟩:Tok).Level,w64 (a1.Kind - 1),(⟨x17.Name,x17.Lit,x17.Num,j14.f_level,x17.Assoc,x17.Tag⟩:Tok).Tag⟩:Tok)),oR eNon j14.f_g.Nons,oR eProd_0 j14.f_g.Prods,SS j14.f_g.Pro,SS j14.f_g.Tail,oR eB j14.f_given,oR eNon j14.f_types,oR eS j14.f_lefts,I64 j14.f_e,I64 j14.f_at,SS j14.f_name,I64 j14.f_level,I64 j14.f_inner]) q q (.ptr q) (.lit q) q (idx_set_same hx17) sz3 q q q q q q q (.b q (.n q q (.n q q (.n q q (.e q q (.mk (en:=eTok) q (idx_set_same hx17) q (idx_set_same (idx_set_same hx17)) q) q .nil)))))) q q q q (by kernel_rfl) (by kernel_rfl)<|DL.fin q q q (.n q (.n q (.n q (.n q (.r q (RK.el (en:=eTok) q (idx_set_same (idx_set_same hx17)) q) npPtr .nil)))))) ?_
    obtain rfl:=sm h
    exact Px.jn (.n q (.n q (.n q (.n q (.r q (RK.el (en:=eTok) q (idx_set_same (idx_set_same hx17)) q) npPtr .nil)))))
   ·replace h:=cndF hb13 h
    refine W.sk ?_
    obtain rfl:=sm h
    exact Px.jn (.n q (.n q (.n q (.n q (.r q (RK.el (en:=eTok) q hx11 q) npPtr .nil)))))
  obtain ⟨x18,hx18,h⟩:=bnd h
  refine Px.sq<|W.sq' ?_
  refine W.sq'<|W.rx [(0,_),(4,_),(5,_),(7,_),(8,.ptr ⟨0,[0]⟩ (x10.1.toNat * eTok.z+0)),(88,_)] (Rv (O.fO q (.obj q) fd88_2 q)<|Rv (O.ldO (y:=I64 a2.Num) q (.ptr q) ct3 q q)<|Rv (O.gtr (.lit q) (.k q))<|Fi (.n q (.n q (.n q (.n q (.r q (RK.el (en:=eTok) q hx18 q) npPtr (.n q .nil))))))) ?_
  refine Px.sq ?_
  obtain ⟨j19,hj,h⟩:=bnd h
  refine W.jn [(0,.obj (eyuccaref9_maker_r.cells j19)),(4,.obj (eDecl_0.cells a1)),(5,.obj (eSym.cells a2)),(8,.ptr ⟨0,[0]⟩ (x10.1.toNat * eTok.z+0))] ?_ ?_
  ·clear h; have h:=hj; clear hj
   refine W.cnd q (fun hb20=>?_) (fun hb20=>?_)
   ·replace h:=cndT hb20 h
    refine W.sq'<|W.sq' ?_
    obtain ⟨c25,hj,h⟩:=bnd h
    refine W.rx [(0,.obj (eyuccaref9_maker_r.cells j12)),(4,.obj (eDecl_0.cells a1)),(5,.obj (eSym.cells a2)),(7,I64 x10.1),(8,.ptr ⟨0,[0]⟩ (x10.1.toNat * eTok.z+0)),(106,BB c25)] ?_ ?_
    ·refine Vm q<|Rv (O.eql (.lit q) (.k q))<|Rv (O.mv (.lit q)) ?_
     rcases cnd hj with ⟨hb21,hj⟩ | ⟨hb21,hj⟩
     ·obtain rfl:=sm hj
      exact RunL.ps q q hb21 q q<|RunL.ps q q hb21 q q<|RunL.ps q q hb21 q q<|RunL.ps q q hb21 q q<|RunL.ps q q hb21 q q<|RunL.ps q q hb21 q q<|RunL.ps q q hb21 q q<|Rv (O.pkT (.lit q) hb21 (.k q))<|Vm q<|RunL.ps q q q q q<|RunL.ps q q q q q<|RunL.ps q q q q q<|RunL.ps q q q q q<|RunL.ps q q q q q<|Rv (O.pkT (.lit q) q (.k q))<|Fi (.n q (.n q (.n q (.n q (.r q (RK.el (en:=eTok) q hx18 q) npPtr (.n q .nil))))))
     ·refine RunL.v (O.mv (.obj q)) q q (.yb q q hb21)<|RunL.v (O.nlP (.ptr q)) q q (.yb q q hb21)<|RunL.v (O.fO q (.ptr q) fd169_1 q) q q (.yb q q hb21)<|RunL.v (O.ldO (y:=.brw eB.z ⟨0,[5]⟩ j12.f_given.length) q (.ptr q) ct103 q q) q q (.yb q q hb21)<|RunL.v (O.mv (.lit q)) q q (.yb q q hb21) ?_
      obtain ⟨x22,hx22,hj⟩:=bnd hj
      refine RunL.v (O.ixO (en:=eB) q (.brw q) (.lit q) sl103 hx22 q) q q (.yb q q hb21)<|RunL.v (O.ldE (en:=eB) (x':=BB x22) q (.ptr q) ct4 hx22 q q) q q (.yb q q hb21)<|Rv (O.pkF (.lit q) hb21 (.lit q))<|Rv (O.mv (.lit q)) ?_
      rcases cnd hj with ⟨hb23,hj⟩ | ⟨hb23,hj⟩
      ·obtain rfl:=sm hj
       exact RunL.ps q q hb23 q q<|RunL.ps q q hb23 q q<|RunL.ps q q hb23 q q<|RunL.ps q q hb23 q q<|RunL.ps q q hb23 q q<|Rv (O.pkT (.lit q) hb23 (.k q))<|Fi (.n q (.n q (.n q (.n q (.r q (RK.el (en:=eTok) q hx18 q) npPtr (.n q .nil))))))
      ·refine RunL.v (O.mv (.obj q)) q q (.yb q q hb23)<|RunL.v (O.fO q (.obj q) fd88_2 q) q q (.yb q q hb23)<|RunL.v (O.ldO (y:=I64 a2.Num) q (.ptr q) ct3 q q) q q (.yb q q hb23) ?_
       obtain ⟨x24,hx24,hj⟩:=bnd hj
       obtain rfl:=sm hj
       exact RunL.c (PC.vw (ys:=[.ptr ⟨0,[]⟩ 0,I64 a2.Num]) q (.c (View.p0 q q) (.s .nil)) (con114 j12 a2.Num _ hx24) call114 q) q q (.yb q q hb23)<|RunL.v (O.geq (.lit q) (.k q)) q q (.yb q q hb23)<|Rv (O.pkF (.lit q) hb23 (.lit q))<|Fi (.n q (.n q (.n q (.n q (.r q (RK.el (en:=eTok) q hx18 q) npPtr (.n q .nil))))))
    refine Px.sq ?_
    obtain ⟨j26,hj,h⟩:=bnd h
    refine W.jn [(0,.obj (eyuccaref9_maker_r.cells j26)),(4,.obj (eDecl_0.cells a1)),(5,.obj (eSym.cells a2)),(7,I64 x10.1),(8,.ptr ⟨0,[0]⟩ (x10.1.toNat * eTok.z+0))] ?_ ?_
    ·clear h; have h:=hj; clear hj
     refine W.cnd q (fun hb27=>?_) (fun hb27=>?_)
     ·replace h:=cndT hb27 h
      obtain ⟨x28,hx28,h⟩:=bnd h
      refine W.rx [(0,_),(4,_),(5,_),(7,_),(8,.ptr ⟨0,[0]⟩ (x10.1.toNat * eTok.z+0))] (Rv (O.mv (.obj q))<|Rv (O.fO q (.obj q) fd88_3 q)<|Rv (O.ldO (y:=I64 a2.At) q (.ptr q) ct3 q q)<|Rv (O.fO q (.obj q) fd88_0 q)<|Rv (O.ldO (y:=SS a2.Name) q (.ptr q) ct9 q q)<|RunL.ef (G2:=[(8,.ptr ⟨0,[0]⟩ (x10.1.toNat * eTok.z+0))]++[(112,.tup []),(0,.obj [oR eTok j12.f_g.Toks,oR eNon x28.f_g.Nons,oR eProd_0 x28.f_g.Prods,SS x28.f_g.Pro,SS x28.f_g.Tail,oR eB x28.f_given,oR eNon x28.f_types,oR eS x28.f_lefts,I64 x28.f_e,I64 x28.f_at,SS x28.f_name,I64 x28.f_level,I64 x28.f_inner]),(4,.obj (eDecl_0.cells a1)),(5,.obj (eSym.cells a2)),(7,I64 x10.1)]) q (EO.fr (r:=0) (k0:=0) (y:=oR eTok j12.f_g.Toks) (cs5:=[oR eTok j12.f_g.Toks,oR eNon x28.f_g.Nons,oR eProd_0 x28.f_g.Prods,SS x28.f_g.Pro,SS x28.f_g.Tail,oR eB x28.f_given,oR eNon x28.f_types,oR eS x28.f_lefts,I64 x28.f_e,I64 x28.f_at,SS x28.f_name,I64 x28.f_level,I64 x28.f_inner]) (G1:=fun v=>[(0,.obj [.lit v,oR eNon j12.f_g.Nons,oR eProd_0 j12.f_g.Prods,SS j12.f_g.Pro,SS j12.f_g.Tail,oR eB j12.f_given,oR eNon j12.f_types,oR eS j12.f_lefts,I64 j12.f_e,I64 j12.f_at,SS j12.f_name,I64 j12.f_level,I64 j12.f_inner]),(4,.obj (eDecl_0.cells a1)),(5,.obj (eSym.cells a2)),(7,I64 x10.1),(107,.ptr ⟨0,[]⟩ 0),(109,I64 a2.At),(111,SS a2.Name)]) (G4:=fun v=>[(112,.tup []),(0,.obj [.lit v,oR eNon x28.f_g.Nons,oR eProd_0 x28.f_g.Prods,SS x28.f_g.Pro,SS x28.f_g.Tail,oR eB x28.f_given,oR eNon x28.f_types,oR eS x28.f_lefts,I64 x28.f_e,I64 x28.f_at,SS x28.f_name,I64 x28.f_level,I64 x28.f_inner]),(4,.obj (eDecl_0.cells a1)),(5,.obj (eSym.cells a2)),(7,I64 x10.1)]) (c4:=fun v=>[.lit v,oR eNon x28.f_g.Nons,oR eProd_0 x28.f_g.Prods,SS x28.f_g.Pro,SS x28.f_g.Tail,oR eB x28.f_given,oR eNon x28.f_types,oR eS x28.f_lefts,I64 x28.f_e,I64 x28.f_at,SS x28.f_name,I64 x28.f_level,I64 x28.f_inner]) (G5:=[(112,.tup []),(0,.obj [oR eTok j12.f_g.Toks,oR eNon x28.f_g.Nons,oR eProd_0 x28.f_g.Prods,SS x28.f_g.Pro,SS x28.f_g.Tail,oR eB x28.f_given,oR eNon x28.f_types,oR eS x28.f_lefts,I64 x28.f_e,I64 x28.f_at,SS x28.f_name,I64 x28.f_level,I64 x28.f_inner]),(4,.obj (eDecl_0.cells a1)),(5,.obj (eSym.cells a2)),(7,I64 x10.1)]) (A:=[(8,.ptr ⟨0,[0]⟩ (x10.1.toNat * eTok.z+0))]) q q q q (fun v=>(.b q (.n q q (.n q q (.n q q (.p q q q q q q (.n q q (.n q q .nil)))))))) (fun v=>CallOk.ln (G2:=[(4,.obj (eDecl_0.cells a1)),(5,.obj (eSym.cells a2)),(7,I64 x10.1)]) (A:=[]) (ys:=[.ptr ⟨0,[]⟩ 0,I64 a2.At,SS a2.Name]) (args:=[.obj [.lit v,oR eNon j12.f_g.Nons,oR eProd_0 j12.f_g.Prods,SS j12.f_g.Pro,SS j12.f_g.Tail,oR eB j12.f_given,oR eNon j12.f_types,oR eS j12.f_lefts,I64 j12.f_e,I64 j12.f_at,SS j12.f_name,I64 j12.f_level,I64 j12.f_inner],I64 a2.At,SS a2.Name]) (cs':=[.lit v,oR eNon x28.f_g.Nons,oR eProd_0 x28.f_g.Prods,SS x28.f_g.Pro,SS x28.f_g.Tail,oR eB x28.f_given,oR eNon x28.f_types,oR eS x28.f_lefts,I64 x28.f_e,I64 x28.f_at,SS x28.f_name,I64 x28.f_level,I64 x28.f_inner]) (k0:=0) q q q q (.b q (.n q (.n q .nil))) q (conq94_0 v j12 a2.At a2.Name _ hx28) call94 (tn3 q q q) q q (tn3 q q q) .nil q) (fun v=>q) (fun v=>q) (fun v=>q) (fun v=>(.n q q (.b q (.n q q (.n q q (.n q q .nil)))))) q (.c (en:=eTok) (L:=j12.f_g.Toks) q q hx18 q q q .nil))<|Fi (.n q (.n q (.n q (.n q (.r q (RK.el (en:=eTok) q hx18 q) npPtr .nil)))))) ?_
      obtain rfl:=sm h
      exact Px.jn (.n q (.n q (.n q (.n q (.r q (RK.el (en:=eTok) q hx18 q) npPtr .nil)))))
     ·replace h:=cndF hb27 h
      refine W.sk ?_
      obtain rfl:=sm h
      exact Px.jn (.n q (.n q (.n q (.n q (.r q (RK.el (en:=eTok) q hx18 q) npPtr .nil)))))
    obtain ⟨x29,hx29,h⟩:=bnd h
    refine Px.sq<|W.sq' ?_
    refine W.rx [(0,_),(4,_),(5,_),(7,_),(8,.ptr ⟨0,[0]⟩ (x10.1.toNat * eTok.z+0))] (Rv (O.mv (.ptr q))<|Rv (O.fO q (.obj q) fd88_2 q)<|Rv (O.ldO (y:=I64 a2.Num) q (.ptr q) ct3 q q)<|Rv (O.nlP (.ptr q))<|Rv (O.fE (en:=eTok) q (.ptr q) fd78_2 hx29 q q)<|RunL.ef (G2:=[(0,.obj [oR eTok (j26.f_g.Toks.set x10.1.toNat (⟨x29.Name,x29.Lit,a2.Num,x29.Level,x29.Assoc,x29.Tag⟩:Tok)),oR eNon j26.f_g.Nons,oR eProd_0 j26.f_g.Prods,SS j26.f_g.Pro,SS j26.f_g.Tail,oR eB j26.f_given,oR eNon j26.f_types,oR eS j26.f_lefts,I64 j26.f_e,I64 j26.f_at,SS j26.f_name,I64 j26.f_level,I64 j26.f_inner]),(4,.obj (eDecl_0.cells a1)),(5,.obj (eSym.cells a2)),(7,I64 x10.1),(8,.ptr ⟨0,[0]⟩ (x10.1.toNat * eTok.z+0))]) q (EO.stE (en:=eTok) (y2:=(⟨x29.Name,x29.Lit,a2.Num,x29.Level,x29.Assoc,x29.Tag⟩:Tok)) (cs':=[I64 a2.Num]) (x2:=.obj [oR eTok (j26.f_g.Toks.set x10.1.toNat (⟨x29.Name,x29.Lit,a2.Num,x29.Level,x29.Assoc,x29.Tag⟩:Tok)),oR eNon j26.f_g.Nons,oR eProd_0 j26.f_g.Prods,SS j26.f_g.Pro,SS j26.f_g.Tail,oR eB j26.f_given,oR eNon j26.f_types,oR eS j26.f_lefts,I64 j26.f_e,I64 j26.f_at,SS j26.f_name,I64 j26.f_level,I64 j26.f_inner]) q q (.ptr q) (.lit q) q hx29 sz3 q q q q q q q (.b q (.n q q (.n q q (.n q q (.e q q (.mk (en:=eTok) q hx29 q (idx_set_same hx29) q) q .nil))))))<|Fi (.n q (.n q (.n q (.n q (.r q (RK.el (en:=eTok) q (idx_set_same hx29) q) npPtr .nil)))))) ?_
    refine Px.sq ?_
    obtain ⟨x30,hx30,h⟩:=bnd h
    refine W.rx [(0,_),(4,_),(5,_),(8,.ptr ⟨0,[0]⟩ (x10.1.toNat * eTok.z+0))] (Rv (O.mv (.obj q))<|Rv (O.nlP (.ptr q))<|Rv (O.fO q (.ptr q) fd169_1 q)<|Rv (O.ldO (y:=.brw eB.z ⟨0,[5]⟩ j26.f_given.length) q (.ptr q) ct103 q q)<|Vm q<|Rv (O.ixO (en:=eB) q (.brw q) (.lit q) sl103 hx30 q)<|RunL.ef (G2:=[(0,.obj [oR eTok (j26.f_g.Toks.set x10.1.toNat (⟨x29.Name,x29.Lit,a2.Num,x29.Level,x29.Assoc,x29.Tag⟩:Tok)),oR eNon j26.f_g.Nons,oR eProd_0 j26.f_g.Prods,SS j26.f_g.Pro,SS j26.f_g.Tail,oR eB (j26.f_given.set x10.1.toNat true),oR eNon j26.f_types,oR eS j26.f_lefts,I64 j26.f_e,I64 j26.f_at,SS j26.f_name,I64 j26.f_level,I64 j26.f_inner]),(4,.obj (eDecl_0.cells a1)),(5,.obj (eSym.cells a2)),(8,.ptr ⟨0,[0]⟩ (x10.1.toNat * eTok.z+0))]) q (EO.stE (en:=eB) (y2:=true) (cs':=[BB true]) (x2:=.obj [oR eTok (j26.f_g.Toks.set x10.1.toNat (⟨x29.Name,x29.Lit,a2.Num,x29.Level,x29.Assoc,x29.Tag⟩:Tok)),oR eNon j26.f_g.Nons,oR eProd_0 j26.f_g.Prods,SS j26.f_g.Pro,SS j26.f_g.Tail,oR eB (j26.f_given.set x10.1.toNat true),oR eNon j26.f_types,oR eS j26.f_lefts,I64 j26.f_e,I64 j26.f_at,SS j26.f_name,I64 j26.f_level,I64 j26.f_inner]) q q (.ptr q) (.k q) q hx30 sz4 q q q q q q q (.b q (.n q q (.n q q (.e q q (.mk (en:=eTok) q (idx_set_same hx29) q (idx_set_same hx29) q) q .nil)))))<|Fi (.n q (.n q (.n q (.r q (RK.el (en:=eTok) q (idx_set_same hx29) q) npPtr .nil))))) ?_
    obtain rfl:=sm h
    exact Px.jn (.n q (.n q (.n q (.r q (RK.el (en:=eTok) q (idx_set_same hx29) q) npPtr .nil))))
   ·replace h:=cndF hb20 h
    refine W.sk ?_
    obtain rfl:=sm h
    exact Px.jn (.n q (.n q (.n q (.r q (RK.el (en:=eTok) q hx18 q) npPtr .nil))))
  obtain ⟨x31,hx31,h⟩:=bnd h
  refine Px.sq<|W.sq' ?_
  refine W.rx [(0,_),(4,_),(5,_),(8,.ptr ⟨0,[0]⟩ (x10.1.toNat * eTok.z+0)),(126,_)] (Rv (O.fO q (.obj q) fd100_1 q)<|Rv (O.ldO (y:=SS a1.Tag) q (.ptr q) ct9 q q)<|Rv (O.neS (.lit q) (.k q))<|Fi (.n q (.n q (.n q (.r q (RK.el (en:=eTok) q hx31 q) npPtr (.n q .nil)))))) ?_
  refine Px.sq ?_
  obtain ⟨j32,hj,h⟩:=bnd h
  refine W.jn [(0,.obj (eyuccaref9_maker_r.cells j32))] ?_ ?_
  ·clear h; have h:=hj; clear hj
   refine W.cnd q (fun hb33=>?_) (fun hb33=>?_)
   ·replace h:=cndT hb33 h
    refine W.sq'<|W.sq' ?_
    obtain ⟨c35,hj,h⟩:=bnd h
    refine W.rd [[],[0],[0,1],[0,1,2],[0,1,2,3],rn 0 5 [],rn 0 6 [],rn 0 7 [],rn 0 8 [],rn 0 9 [],rn 0 6 [],rn 0 6 [10],rn 0 12 [],rn 0 13 []] [(0,.obj (eyuccaref9_maker_r.cells j19)),(4,.obj (eDecl_0.cells a1)),(5,.obj (eSym.cells a2)),(8,.ptr ⟨0,[0]⟩ (x10.1.toNat * eTok.z+0)),(140,BB c35)] mixo (by kernel_rfl) ?_ ?_
    ·refine Dv 0 (O.mv (.ptr q))<|Dv 1 (O.nlP (.ptr q))<|Dv 2 (O.fE (en:=eTok) q (.ptr q) fd78_5 hx31 q q)<|Dv 3 (O.ldE (en:=eTok) (x':=SS x31.Tag) q (.ptr q) ct9 hx31 q q)<|Dv 4 (O.neS (.lit q) (.k q))<|Dv 5 (O.mv (.lit q)) ?_
     rcases cnd hj with ⟨hb34,hj⟩ | ⟨hb34,hj⟩
     ·obtain rfl:=sm hj
      exact DL.v 6 (O.mv (.ptr q)) q q q q (.yb q q hb34)<|DL.v 7 (O.nlP (.ptr q)) q q q q (.yb q q hb34)<|DL.v 8 (O.fE (en:=eTok) q (.ptr q) fd78_5 hx31 q q) q q q q (.yb q q hb34)<|DL.v 9 (O.ldE (en:=eTok) (x':=SS x31.Tag) q (.ptr q) ct9 hx31 q q) q q q q (.yb q q hb34)<|DL.v 10 (O.fO q (.obj q) fd100_1 q) q q q q (.yb q q hb34)<|DL.v 11 (O.ldO (y:=SS a1.Tag) q (.ptr q) ct9 q q) q q q q (.yb q q hb34)<|DL.v 12 (O.neS (.lit q) (.lit q)) q q q q (.yb q q hb34)<|Dv 13 (O.pkT (.lit q) hb34 (.lit q))<|DL.fin q q q (.n q (.n q (.n q (.r q (RK.el (en:=eTok) q hx31 q) npPtr (.n q .nil)))))
     ·obtain rfl:=sm hj
      exact DL.ps 6 q q hb34 q q q q<|DL.ps 7 q q hb34 q q q q<|DL.ps 8 q q hb34 q q q q<|DL.ps 9 q q hb34 q q q q<|DL.ps 10 q q hb34 q q q q<|DL.ps 11 q q hb34 q q q q<|DL.ps 12 q q hb34 q q q q<|Dv 13 (O.pkF (.lit q) hb34 (.k q))<|DL.fin q q q (.n q (.n q (.n q (.r q (RK.el (en:=eTok) q hx31 q) npPtr (.n q .nil)))))
    refine Px.sq ?_
    obtain ⟨j36,hj,h⟩:=bnd h
    refine W.jn [(0,.obj (eyuccaref9_maker_r.cells j36)),(4,.obj (eDecl_0.cells a1)),(8,.ptr ⟨0,[0]⟩ (x10.1.toNat * eTok.z+0))] ?_ ?_
    ·clear h; have h:=hj; clear hj
     refine W.cnd q (fun hb37=>?_) (fun hb37=>?_)
     ·replace h:=cndT hb37 h
      obtain ⟨x38,hx38,h⟩:=bnd h
      refine W.rx [(0,_),(4,_),(8,.ptr ⟨0,[0]⟩ (x10.1.toNat * eTok.z+0))] (Rv (O.mv (.obj q))<|Rv (O.fO q (.obj q) fd88_3 q)<|Rv (O.ldO (y:=I64 a2.At) q (.ptr q) ct3 q q)<|Rv (O.fO q (.obj q) fd88_0 q)<|Rv (O.ldO (y:=SS a2.Name) q (.ptr q) ct9 q q)<|RunL.ef (G2:=[(8,.ptr ⟨0,[0]⟩ (x10.1.toNat * eTok.z+0))]++[(146,.tup []),(0,.obj [oR eTok j19.f_g.Toks,oR eNon x38.f_g.Nons,oR eProd_0 x38.f_g.Prods,SS x38.f_g.Pro,SS x38.f_g.Tail,oR eB x38.f_given,oR eNon x38.f_types,oR eS x38.f_lefts,I64 x38.f_e,I64 x38.f_at,SS x38.f_name,I64 x38.f_level,I64 x38.f_inner]),(4,.obj (eDecl_0.cells a1))]) q (EO.fr (r:=0) (k0:=0) (y:=oR eTok j19.f_g.Toks) (cs5:=[oR eTok j19.f_g.Toks,oR eNon x38.f_g.Nons,oR eProd_0 x38.f_g.Prods,SS x38.f_g.Pro,SS x38.f_g.Tail,oR eB x38.f_given,oR eNon x38.f_types,oR eS x38.f_lefts,I64 x38.f_e,I64 x38.f_at,SS x38.f_name,I64 x38.f_level,I64 x38.f_inner]) (G1:=fun v=>[(0,.obj [.lit v,oR eNon j19.f_g.Nons,oR eProd_0 j19.f_g.Prods,SS j19.f_g.Pro,SS j19.f_g.Tail,oR eB j19.f_given,oR eNon j19.f_types,oR eS j19.f_lefts,I64 j19.f_e,I64 j19.f_at,SS j19.f_name,I64 j19.f_level,I64 j19.f_inner]),(4,.obj (eDecl_0.cells a1)),(141,.ptr ⟨0,[]⟩ 0),(143,I64 a2.At),(145,SS a2.Name)]) (G4:=fun v=>[(146,.tup []),(0,.obj [.lit v,oR eNon x38.f_g.Nons,oR eProd_0 x38.f_g.Prods,SS x38.f_g.Pro,SS x38.f_g.Tail,oR eB x38.f_given,oR eNon x38.f_types,oR eS x38.f_lefts,I64 x38.f_e,I64 x38.f_at,SS x38.f_name,I64 x38.f_level,I64 x38.f_inner]),(4,.obj (eDecl_0.cells a1))]) (c4:=fun v=>[.lit v,oR eNon x38.f_g.Nons,oR eProd_0 x38.f_g.Prods,SS x38.f_g.Pro,SS x38.f_g.Tail,oR eB x38.f_given,oR eNon x38.f_types,oR eS x38.f_lefts,I64 x38.f_e,I64 x38.f_at,SS x38.f_name,I64 x38.f_level,I64 x38.f_inner]) (G5:=[(146,.tup []),(0,.obj [oR eTok j19.f_g.Toks,oR eNon x38.f_g.Nons,oR eProd_0 x38.f_g.Prods,SS x38.f_g.Pro,SS x38.f_g.Tail,oR eB x38.f_given,oR eNon x38.f_types,oR eS x38.f_lefts,I64 x38.f_e,I64 x38.f_at,SS x38.f_name,I64 x38.f_level,I64 x38.f_inner]),(4,.obj (eDecl_0.cells a1))]) (A:=[(8,.ptr ⟨0,[0]⟩ (x10.1.toNat * eTok.z+0))]) q q q q (fun v=>(.b q (.n q q (.p q q q q q q (.n q q (.n q q .nil)))))) (fun v=>CallOk.ln (G2:=[(4,.obj (eDecl_0.cells a1))]) (A:=[]) (ys:=[.ptr ⟨0,[]⟩ 0,I64 a2.At,SS a2.Name]) (args:=[.obj [.lit v,oR eNon j19.f_g.Nons,oR eProd_0 j19.f_g.Prods,SS j19.f_g.Pro,SS j19.f_g.Tail,oR eB j19.f_given,oR eNon j19.f_types,oR eS j19.f_lefts,I64 j19.f_e,I64 j19.f_at,SS j19.f_name,I64 j19.f_level,I64 j19.f_inner],I64 a2.At,SS a2.Name]) (cs':=[.lit v,oR eNon x38.f_g.Nons,oR eProd_0 x38.f_g.Prods,SS x38.f_g.Pro,SS x38.f_g.Tail,oR eB x38.f_given,oR eNon x38.f_types,oR eS x38.f_lefts,I64 x38.f_e,I64 x38.f_at,SS x38.f_name,I64 x38.f_level,I64 x38.f_inner]) (k0:=0) q q q q (.b q (.n q (.n q .nil))) q (conq94_0 v j19 a2.At a2.Name _ hx38) call94 (.n q .nil) q q (.n q .nil) .nil q) (fun v=>q) (fun v=>q) (fun v=>q) (fun v=>(.n q q (.b q (.n q q .nil)))) q (.c (en:=eTok) (L:=j19.f_g.Toks) q q hx31 q q q .nil))<|Fi (.n q (.n q (.r q (RK.el (en:=eTok) q hx31 q) npPtr .nil)))) ?_
      obtain rfl:=sm h
      exact Px.jn (.n q (.n q (.r q (RK.el (en:=eTok) q hx31 q) npPtr .nil)))
     ·replace h:=cndF hb37 h
      refine W.sk ?_
      obtain rfl:=sm h
      exact Px.jn (.n q (.n q (.r q (RK.el (en:=eTok) q hx31 q) npPtr .nil)))
    obtain ⟨x39,hx39,h⟩:=bnd h
    refine Px.sq<|W.rx [(0,_)] (Rv (O.mv (.ptr q))<|Rv (O.fO q (.obj q) fd100_1 q)<|Rv (O.ldO (y:=SS a1.Tag) q (.ptr q) ct9 q q)<|Rv (O.nlP (.ptr q))<|Rv (O.fE (en:=eTok) q (.ptr q) fd78_5 hx39 q q)<|RunL.ef (G2:=[(0,.obj [oR eTok (j36.f_g.Toks.set x10.1.toNat (⟨x39.Name,x39.Lit,x39.Num,x39.Level,x39.Assoc,a1.Tag⟩:Tok)),oR eNon j36.f_g.Nons,oR eProd_0 j36.f_g.Prods,SS j36.f_g.Pro,SS j36.f_g.Tail,oR eB j36.f_given,oR eNon j36.f_types,oR eS j36.f_lefts,I64 j36.f_e,I64 j36.f_at,SS j36.f_name,I64 j36.f_level,I64 j36.f_inner])]) q (EO.stE (en:=eTok) (y2:=(⟨x39.Name,x39.Lit,x39.Num,x39.Level,x39.Assoc,a1.Tag⟩:Tok)) (cs':=[SS a1.Tag]) (x2:=.obj [oR eTok (j36.f_g.Toks.set x10.1.toNat (⟨x39.Name,x39.Lit,x39.Num,x39.Level,x39.Assoc,a1.Tag⟩:Tok)),oR eNon j36.f_g.Nons,oR eProd_0 j36.f_g.Prods,SS j36.f_g.Pro,SS j36.f_g.Tail,oR eB j36.f_given,oR eNon j36.f_types,oR eS j36.f_lefts,I64 j36.f_e,I64 j36.f_at,SS j36.f_name,I64 j36.f_level,I64 j36.f_inner]) q q (.ptr q) (.lit q) q hx39 sz9 q q q q q q q (.b q .nil))<|Fi (.n q .nil)) ?_
    obtain rfl:=sm h
    exact Px.jn (.n q .nil)
   ·replace h:=cndF hb33 h
    refine W.sk ?_
    obtain rfl:=sm h
    exact Px.jn (.n q .nil)
  obtain rfl:=sm h
  exact Px.fin (Fin.ro .nil q (ode (by kernel_rfl)) (.so q q (.no (.no .nil))) q (.inl q))
theorem con96 (a0:yuccaref9_maker) (a1:ByteArray) (r:Int) (h:pf96 a0 a1=some r):Con Try.prog 96 [.iptr ([iR eTok a0.f_g.Toks,iR eNon a0.f_g.Nons,iR eProd_0 a0.f_g.Prods,SS a0.f_g.Pro,SS a0.f_g.Tail,iR eB a0.f_given,iR eNon a0.f_types,iR eS a0.f_lefts,I64 a0.f_e,I64 a0.f_at,SS a0.f_name,I64 a0.f_level,I64 a0.f_inner]),SS a1] [none,none] (I64 r):=by
 unfold pf96 at h
 refine Con.go (N:=⟨25,[]⟩) Try.func96 q q q q (W.fin ?_)
 refine W.st [(0,.iptr ([iR eTok a0.f_g.Toks,iR eNon a0.f_g.Nons,iR eProd_0 a0.f_g.Prods,SS a0.f_g.Pro,SS a0.f_g.Tail,iR eB a0.f_given,iR eNon a0.f_types,iR eS a0.f_lefts,I64 a0.f_e,I64 a0.f_at,SS a0.f_name,I64 a0.f_level,I64 a0.f_inner])),(1,SS a1)] ?_
 refine W.sq'<|W.rx [(0,_),(1,_)] (Vk q<|Fi (tn2 q q)) ?_
 refine Px.sq<|W.sq' ?_
 refine W.sq'<|W.rx [(0,_),(1,_),(5,_)] (Vk q<|Fi (tn3 q q q)) ?_
 refine Px.sq<|W.bk ?_
 obtain ⟨x2,hl,h⟩:=bnd h
 refine W.tr (G1:=[(0,_),(1,_),(5,_)]) (tn3 q q q) ?_
 refine W.lp2 (s:=0) (fun (s1:Int)=>[(0,.iptr ([iR eTok a0.f_g.Toks,iR eNon a0.f_g.Nons,iR eProd_0 a0.f_g.Prods,SS a0.f_g.Pro,SS a0.f_g.Tail,iR eB a0.f_given,iR eNon a0.f_types,iR eS a0.f_lefts,I64 a0.f_e,I64 a0.f_at,SS a0.f_name,I64 a0.f_level,I64 a0.f_inner])),(1,SS a1),(5,I64 s1)]) 0 (fun (x3:Unit)=>[]) (fun (x4:Int)=>[(4,I64 x4)]) hl (fun s1 o h=>?_) (fun x3 hx=>?_) (fun x4 hx=>?_)
 ·clear hl
  refine W.sq'<|W.sq' ?_
  refine W.rx [(0,_),(1,_),(5,_),(12,_)] (Vm q<|Rv (O.mv (.iptr q))<|Rv (O.nlI (.iptr q))<|Rv (O.fI (.iptr q) fd169_3)<|Rv (O.ldI (x:=iR eS a0.f_lefts) (.iptr q) ct167 q)<|Rv (O.lenI (.imm q) sl167)<|Rv (O.lss (.lit q) (.lit q))<|Fi (tn4 q q q q)) ?_
  refine Px.sq<|W.cnd q (fun hb5=>?_) (fun hb5=>?_)
  ·replace h:=cndT hb5 h
   refine W.sk<|Px.sq ?_
   refine W.sq'<|W.bk ?_
   refine W.sq' ?_
   obtain ⟨x6,hx6,h⟩:=bnd h
   refine W.rx [(0,_),(1,_),(5,_),(23,_)] (Rv (O.mv (.iptr q))<|Rv (O.nlI (.iptr q))<|Rv (O.fI (.iptr q) fd169_3)<|Rv (O.ldI (x:=iR eS a0.f_lefts) (.iptr q) ct167 q)<|Vm q<|Rv (O.ixI (.imm q) (.lit q) sl167 hx6)<|Rv (O.ldI (x:=SS x6) (.iptr q) ct9 q)<|Vm q<|Rv (O.eqS (.lit q) (.lit q))<|Fi (tn4 q q q q)) ?_
   refine Px.sq<|W.cnd q (fun hb7=>?_) (fun hb7=>?_)
   ·replace h:=cndT hb7 h
    refine W.sq'<|W.rx [(4,_)] (Vm q<|Va q<|Fi (.n q .nil)) ?_
    refine Px.sq<|W.rt ?_
    refine Px.bkR ?_
    refine Px.sqR ?_
    obtain rfl:=sm h
    exact Px.r2 (.n q .nil)
   ·replace h:=cndF hb7 h
    refine W.sk<|Px.bk ?_
    refine Px.sq<|W.rx [(0,_),(1,_),(5,_)] (Vm q<|Rv (O.add (.lit q) (.k q))<|RunL.re (G1:=[(0,_),(1,_),(14,_)]) (tn3 q q q)<|Va q<|Fi (tn3 q q q)) ?_
    obtain rfl:=sm h
    exact Px.go (tn3 q q q)
  ·replace h:=cndF hb5 h
   refine W.xi ?_
   refine Px.sqE ?_
   obtain rfl:=sm h
   exact Px.x2 .nil
 ·subst hx
  refine Px.bkH ?_
  refine Px.sq<|W.sq' ?_
  refine W.rx [(4,_)] (Vk q<|Fi (.n q .nil)) ?_
  refine Px.sq<|W.rt ?_
  obtain rfl:=sm h
  exact Px.fin (Fin.ro (.f q q .nil) q (ode (by kernel_rfl)) (.no (.no .nil)) q (.inr q))
 ·subst hx
  refine Px.bkR ?_
  refine Px.sqR ?_
  obtain rfl:=sm h
  exact Px.fin (Fin.ro (.f q q .nil) q (ode (by kernel_rfl)) (.no (.no .nil)) q (.inr q))
theorem con115 (a0:yuccaref9_maker) (a1:Sym) (r:Int × yuccaref9_maker) (h:pf115 a0 a1=some r):Con Try.prog 115 [.obj (eyuccaref9_maker_r.cells a0),.agg (eSym.cells a1)] [some (.obj [oR eTok r.2.f_g.Toks,oR eNon r.2.f_g.Nons,oR eProd_0 r.2.f_g.Prods,SS r.2.f_g.Pro,SS r.2.f_g.Tail,oR eB r.2.f_given,oR eNon r.2.f_types,oR eS r.2.f_lefts,I64 r.2.f_e,I64 r.2.f_at,SS r.2.f_name,I64 r.2.f_level,I64 r.2.f_inner]),none] (I64 r.1):=by
 unfold pf115 at h
 refine Con.go (N:=⟨32,[0]⟩) Try.func115 q q q q (W.fin ?_)
 refine W.st [(0,.obj (eyuccaref9_maker_r.cells a0)),(1,.agg (eSym.cells a1))] ?_
 refine W.sq'<|W.rx [(0,_),(3,_)] (Rv (O.box (.aggF q q) q)<|Vk q<|Fi (tn2 q q)) ?_
 refine Px.sq<|W.sq' ?_
 refine W.sq'<|W.rx [(0,_),(3,_),(8,_)] (Rv (O.fO q (.obj q) fd88_1 q)<|Rv (O.ldO (y:=BB a1.Lit) q (.ptr q) ct4 q q)<|Fi (tn3 q q q)) ?_
 refine Px.sq<|W.cnd q (fun hb1=>?_) (fun hb1=>?_)
 ·replace h:=cndT hb1 h
  refine W.sq' ?_
  obtain ⟨x2,hx2,h⟩:=bnd h
  refine W.rx [(0,_),(4,_)] (Rv (O.mv (.obj q))<|Rv (O.ldON (cs':=[SS a1.Name,BB a1.Lit,I64 a1.Num,I64 a1.At]) q (.obj q) at88 q q)<|RunL.ef q (EO.call q q (CallOk.ln (G2:=[]) (A:=[]) (ys:=[.ptr ⟨0,[]⟩ 0,.agg (eSym.cells a1)]) (args:=[.obj (eyuccaref9_maker_r.cells a0),.agg (eSym.cells a1)]) (cs':=[oR eTok x2.2.f_g.Toks,oR eNon x2.2.f_g.Nons,oR eProd_0 x2.2.f_g.Prods,SS x2.2.f_g.Pro,SS x2.2.f_g.Tail,oR eB x2.2.f_given,oR eNon x2.2.f_types,oR eS x2.2.f_lefts,I64 x2.2.f_e,I64 x2.2.f_at,SS x2.2.f_name,I64 x2.2.f_level,I64 x2.2.f_inner]) (k0:=0) q q q q (.b q (.n q .nil)) q (con113 a0 a1 _ hx2) call113 .nil q q .nil .nil q))<|Va q<|Fi (tn2 q q)) ?_
  refine Px.sq<|W.rt ?_
  refine Px.sqR ?_
  obtain rfl:=sm h
  exact Px.fin (Fin.ro (.f q q .nil) q (ode (by kernel_rfl)) (.so q q (.no .nil)) q (.inr q))
 ·replace h:=cndF hb1 h
  refine W.sk<|Px.sq ?_
  refine W.sq'<|W.sq' ?_
  obtain ⟨x3,hx3,h⟩:=bnd h
  refine W.rx [(0,_),(3,_),(5,_)] (Rv (O.mv (.obj q))<|Rv (O.fO q (.obj q) fd88_0 q)<|Rv (O.ldO (y:=SS a1.Name) q (.ptr q) ct9 q q)<|Rc (PC.vw (ys:=[.ptr ⟨0,[]⟩ 0,SS a1.Name]) q (.c (View.p0 q q) (.s .nil)) (con96 a0 a1.Name _ hx3) call96 q)<|Va q<|Fi (tn3 q q q)) ?_
  refine Px.sq<|W.sq' ?_
  refine W.rx [(0,_),(3,_),(5,_),(17,_)] (Vm q<|Rv (O.geq (.lit q) (.k q))<|Fi (tn4 q q q q)) ?_
  refine Px.sq<|W.cnd q (fun hb4=>?_) (fun hb4=>?_)
  ·replace h:=cndT hb4 h
   refine W.sq'<|W.rx [(0,_),(4,_)] (Vm q<|Rv (O.add (.k q) (.lit q))<|Va q<|Fi (tn2 q q)) ?_
   refine Px.sq<|W.rt ?_
   refine Px.sqR ?_
   obtain rfl:=sm h
   exact Px.fin (Fin.ro (.f q q .nil) q (ode (by kernel_rfl)) (.so q q (.no .nil)) q (.inr q))
  ·replace h:=cndF hb4 h
   refine W.sk<|Px.sq ?_
   refine W.sq' ?_
   obtain ⟨x5,hx5,h⟩:=bnd h
   refine W.rx [(0,_),(3,_),(6,_)] (Rv (O.mv (.obj q))<|Rv (O.ldON (cs':=[SS a1.Name,BB a1.Lit,I64 a1.Num,I64 a1.At]) q (.obj q) at88 q q)<|Rc (PC.vw (ys:=[.ptr ⟨0,[]⟩ 0,.agg (eSym.cells a1)]) q (.c (View.p0 q q) (.c (.ag (.s (.s (.s (.s .nil))))) .nil)) (con95 a0 a1 _ hx5) call95 q)<|Va q<|Fi (tn3 q q q)) ?_
   refine Px.sq<|W.sq' ?_
   refine W.sq'<|W.rx [(0,_),(3,_),(6,_),(24,_)] (Vm q<|Rv (O.lss (.lit q) (.k q))<|Fi (tn4 q q q q)) ?_
   refine Px.sq<|W.cnd q (fun hb6=>?_) (fun hb6=>?_)
   ·replace h:=cndT hb6 h
    refine W.sq' ?_
    obtain ⟨x7,hx7,h⟩:=bnd h
    refine W.rx [(0,_)] (Rv (O.mv (.obj q))<|Rv (O.fO q (.obj q) fd88_3 q)<|Rv (O.ldO (y:=I64 a1.At) q (.ptr q) ct3 q q)<|Rv (O.fO q (.obj q) fd88_0 q)<|Rv (O.ldO (y:=SS a1.Name) q (.ptr q) ct9 q q)<|RunL.ef q (EO.call q q (CallOk.ln (G2:=[]) (A:=[]) (ys:=[.ptr ⟨0,[]⟩ 0,I64 a1.At,SS a1.Name]) (args:=[.obj (eyuccaref9_maker_r.cells a0),I64 a1.At,SS a1.Name]) (cs':=[oR eTok x7.f_g.Toks,oR eNon x7.f_g.Nons,oR eProd_0 x7.f_g.Prods,SS x7.f_g.Pro,SS x7.f_g.Tail,oR eB x7.f_given,oR eNon x7.f_types,oR eS x7.f_lefts,I64 x7.f_e,I64 x7.f_at,SS x7.f_name,I64 x7.f_level,I64 x7.f_inner]) (k0:=0) q q q q (.b q (.n q (.n q .nil))) q (con94 a0 a1.At a1.Name _ hx7) call94 .nil q q .nil .nil q))<|Fi (.n q .nil)) ?_
    refine Px.sq<|W.sq' ?_
    refine W.rx [(0,_),(4,_)] (Vk q<|Fi (tn2 q q)) ?_
    refine Px.sq<|W.rt ?_
    refine Px.sqR ?_
    obtain rfl:=sm h
    exact Px.fin (Fin.ro (.f q q .nil) q (ode (by kernel_rfl)) (.so q q (.no .nil)) q (.inr q))
   ·replace h:=cndF hb6 h
    refine W.sk<|Px.sq ?_
    refine W.sq'<|W.rx [(0,_),(4,_)] (Vm q<|Va q<|Fi (tn2 q q)) ?_
    refine Px.sq<|W.rt ?_
    obtain rfl:=sm h
    exact Px.fin (Fin.ro (.f q q .nil) q (ode (by kernel_rfl)) (.so q q (.no .nil)) q (.inr q))
theorem con97 (a0:yuccaref9_maker) (a1:ByteArray) (a2:Alt) (r:yuccaref9_maker) (h:pf97 a0 a1 a2=some r):Con Try.prog 97 [.obj (eyuccaref9_maker_r.cells a0),SS a1,.agg (eAlt_0.cells a2)] [some (.obj [oR eTok r.f_g.Toks,oR eNon r.f_g.Nons,oR eProd_0 r.f_g.Prods,SS r.f_g.Pro,SS r.f_g.Tail,oR eB r.f_given,oR eNon r.f_types,oR eS r.f_lefts,I64 r.f_e,I64 r.f_at,SS r.f_name,I64 r.f_level,I64 r.f_inner]),none,none] (.tup []):=by
 unfold pf97 at h
 refine Con.go (N:=⟨173,[0]⟩) Try.func97 q q q q (W.fin ?_)
 refine W.st [(0,.obj (eyuccaref9_maker_r.cells a0)),(1,SS a1),(2,.agg (eAlt_0.cells a2))] ?_
 refine W.sq'<|W.rx [(0,_),(1,_),(5,_)] (Rv (O.box (.aggF q q) q)<|Fi (tn3 q q q)) ?_
 refine Px.sq<|W.sq' ?_
 obtain ⟨x1,hx1,h⟩:=bnd h
 refine W.rd [[],[],[0,1],[0,1,2],[],[4],rn 0 6 [],[],rn 0 8 []] [(0,_),(5,_),(6,_)] mixo (by kernel_rfl) (Dv 0 (O.mv (.obj q))<|Dv 1 (O.mv (.lit q))<|Dc 2 (PC.vw (ys:=[.ptr ⟨0,[]⟩ 0,SS a1]) q (.c (View.p0 q q) (.s .nil)) (con96 a0 a1 _ hx1) call96 q)<|Dv 3 (O.add (.k q) (.lit q))<|Dv 4 (O.fO q (.obj q) fd93_2 q)<|Dv 5 (O.ldO (y:=I64 a2.At) q (.ptr q) ct3 q q)<|Dv 6 (O.bu (cs:=[I64 (w64 (1+x1)),.nils,I64 (-1),SS S0,.nils,I64 a2.At]) sc148 ze148 q q q)<|Dv 7 (O.al (cs:=[I64 0,.nils,I64 0,SS S0,.nils,I64 0]) ze148 q q)<|DL.sO 8 (G2:=[(0,.obj (eyuccaref9_maker_r.cells a0)),(5,.obj (eAlt_0.cells a2)),(6,.obj [I64 (w64 (1+x1)),.nils,I64 (-1),SS S0,.nils,I64 a2.At])]) (cs2:=[I64 (w64 (1+x1)),.nils,I64 (-1),SS S0,.nils,I64 a2.At]) q (by kernel_rfl) (by kernel_rfl) q q q (.obj q) (.aggF q q) q sz148 q q q q (.n q q (.n q q (.b q .nil)))<|DL.fin q q q (tn3 q q q)) ?_
 refine Px.sq<|W.sq' ?_
 refine W.sq'<|W.rx [(0,_),(5,_),(6,_),(7,_)] (Vk q<|Fi (tn4 q q q q)) ?_
 refine Px.sq<|W.bk ?_
 obtain ⟨x3,hl,h⟩:=bnd h
 refine W.tr (G1:=[(0,_),(5,_),(6,.obj [I64 (w64 (1+x1)),oR eI ([]:List Int),I64 (-1),SS S0,.nils,I64 a2.At]),(7,_)]) (.n q (.n q (.w q q (WkL.obj (.f (.o (.f (.f (.f (.f .nil))))))) (.n q .nil)))) ?_
 refine W.lp1 (s:=(a0,([]:List Int),S0,a2.At,0)) (fun (s2:yuccaref9_maker × List Int × ByteArray × Int × Int)=>[(0,.obj (eyuccaref9_maker_r.cells s2.1)),(5,.obj (eAlt_0.cells a2)),(6,.obj [I64 (w64 (1+x1)),oR eI s2.2.1,I64 (-1),SS s2.2.2.1,.nils,I64 s2.2.2.2.1]),(7,I64 s2.2.2.2.2)]) 0 (fun (x3:yuccaref9_maker × List Int × ByteArray × Int)=>[(0,.obj (eyuccaref9_maker_r.cells x3.1)),(5,.obj (eAlt_0.cells a2)),(6,.obj [I64 (w64 (1+x1)),oR eI x3.2.1,I64 (-1),SS x3.2.2.1,.nils,I64 x3.2.2.2])]) hl (fun s2 o h=>?_) ?_
 ·clear hl
  refine W.sq'<|W.sq' ?_
  refine W.rx [(0,_),(5,_),(6,_),(7,_),(21,_)] (Vm q<|Rv (O.fO q (.obj q) fd93_0 q)<|Rv (O.ldO (y:=iR ePart a2.Parts) q (.ptr q) ct91 q q)<|Rv (O.lenI (.imm q) sl91)<|Rv (O.lss (.lit q) (.lit q))<|Fi (tn5 q q q q q)) ?_
  refine Px.sq<|W.cnd q (fun hb5=>?_) (fun hb5=>?_)
  ·replace h:=cndT hb5 h
   refine W.sk<|Px.sq ?_
   refine W.sq' ?_
   obtain ⟨j6,hj,h⟩:=bnd h
   refine W.jn [(0,.obj (eyuccaref9_maker_r.cells j6.1)),(5,.obj (eAlt_0.cells a2)),(6,.obj [I64 (w64 (1+x1)),oR eI j6.2.1,I64 (-1),SS j6.2.2.1,.nils,I64 j6.2.2.2]),(7,I64 s2.2.2.2.2)] ?_ ?_
   ·clear h; have h:=hj; clear hj
    refine W.bk<|W.sq' ?_
    obtain ⟨x7,hx7,h⟩:=bnd h
    refine W.rx [(0,_),(5,_),(6,_),(7,_),(8,_)] (Rv (O.fO q (.obj q) fd93_0 q)<|Rv (O.ldO (y:=iR ePart a2.Parts) q (.ptr q) ct91 q q)<|Vm q<|Rv (O.ixI (.imm q) (.lit q) sl91 hx7)<|Rv (O.ldIN (cs':=[SS x7.Sym.Name,BB x7.Sym.Lit,I64 x7.Sym.Num,I64 x7.Sym.At,SS x7.Code,I64 x7.At]) (.iptr q) at90 q q)<|Rv (O.al (cs:=[SS S0,BB false,I64 0,I64 0,SS S0,I64 0]) ze90 q q)<|RunL.sO (G2:=[(0,_),(5,_),(6,_),(7,_),(8,_)]) (cs2:=[SS x7.Sym.Name,BB x7.Sym.Lit,I64 x7.Sym.Num,I64 x7.Sym.At,SS x7.Code,I64 x7.At]) q (.obj q) (.aggF q q) q sz90 q q q q (.n q q (.n q q (.n q q (.n q q (.b q .nil)))))<|Fi (tn5 q q q q q)) ?_
    refine Px.sq ?_
    obtain ⟨j8,hj,h⟩:=bnd h
    refine W.jn [(0,.obj (eyuccaref9_maker_r.cells j8.1)),(5,.obj (eAlt_0.cells a2)),(6,.obj [I64 (w64 (1+x1)),oR eI j8.2.1,I64 (-1),SS j8.2.2.1,.nils,I64 j8.2.2.2]),(7,I64 s2.2.2.2.2)] ?_ ?_
    ·clear h; have h:=hj; clear hj
     refine W.bk<|W.sq' ?_
     refine W.rx [(0,_),(5,_),(6,_),(7,_),(8,_),(82,_)] (Rv (O.fO q (.obj q) fd90_1 q)<|Rv (O.ldO (y:=SS x7.Code) q (.ptr q) ct9 q q)<|Rv (O.eqS (.lit q) (.k q))<|Va q<|Fi (tn6 q q q q q q)) ?_
     refine Px.sq ?_
     obtain ⟨j9,hj,h⟩:=bnd h
     refine W.jn [(0,.obj (eyuccaref9_maker_r.cells j9.1)),(5,.obj (eAlt_0.cells a2)),(6,.obj [I64 (w64 (1+x1)),oR eI j9.2.1,I64 (-1),SS j9.2.2.1,.nils,I64 j9.2.2.2]),(7,I64 s2.2.2.2.2)] ?_ ?_
     ·clear h; have h:=hj; clear hj
      refine W.cnd q (fun hb10=>?_) (fun hb10=>?_)
      ·replace h:=cndT hb10 h
       obtain ⟨x11,hx11,h⟩:=bnd h
       obtain ⟨x12,hx12,h⟩:=bnd h
       refine W.rd [[],[0],[],[],[3],[2,3,4],[2,3,4,5],rn 0 7 [],rn 0 8 [],rn 0 9 []] [(0,_),(5,_),(6,_),(7,_)] mixo (by kernel_rfl) (Dv 0 (O.fO q (.obj q) fd148_1 q)<|Dv 1 (O.ldO (y:=.brw eI.z ⟨6,[1]⟩ s2.2.1.length) q (.ptr q) ct29 q q)<|Dv 2 (O.mv (.obj q))<|Dv 3 (O.fO q (.obj q) fd90_0 q)<|Dv 4 (O.ldON (cs':=[SS x7.Sym.Name,BB x7.Sym.Lit,I64 x7.Sym.Num,I64 x7.Sym.At]) q (.ptr q) at88 q q)<|DL.bu 5 (G2:=(6,.obj [I64 (w64 (1+x1)),oR eI s2.2.1,I64 (-1),SS s2.2.2.1,.nils,I64 s2.2.2.2.1])::[(91,I64 x11.1),(0,.obj [oR eTok x11.2.f_g.Toks,oR eNon x11.2.f_g.Nons,oR eProd_0 x11.2.f_g.Prods,SS x11.2.f_g.Pro,SS x11.2.f_g.Tail,oR eB x11.2.f_given,oR eNon x11.2.f_types,oR eS x11.2.f_lefts,I64 x11.2.f_e,I64 x11.2.f_at,SS x11.2.f_name,I64 x11.2.f_level,I64 x11.2.f_inner]),(5,.obj (eAlt_0.cells a2)),(7,I64 s2.2.2.2.2)]) (U:=[(1,87,some (.brw eI.z ⟨6,[1]⟩ s2.2.1.length)),(0,86,some (.ptr ⟨6,[]⟩ 1))]) (EffV.box (r:=6) (G1:=[(0,.obj (eyuccaref9_maker_r.cells s2.1)),(5,.obj (eAlt_0.cells a2)),(7,I64 s2.2.2.2.2),(88,.ptr ⟨0,[]⟩ 0),(90,.agg (eSym.cells x7.Sym))]) (G2:=[(91,I64 x11.1),(0,.obj [oR eTok x11.2.f_g.Toks,oR eNon x11.2.f_g.Nons,oR eProd_0 x11.2.f_g.Prods,SS x11.2.f_g.Pro,SS x11.2.f_g.Tail,oR eB x11.2.f_given,oR eNon x11.2.f_types,oR eS x11.2.f_lefts,I64 x11.2.f_e,I64 x11.2.f_at,SS x11.2.f_name,I64 x11.2.f_level,I64 x11.2.f_inner]),(5,.obj (eAlt_0.cells a2)),(7,I64 s2.2.2.2.2)]) (EO.call q q (CallOk.ln (G2:=[(5,.obj (eAlt_0.cells a2)),(7,I64 s2.2.2.2.2)]) (A:=[]) (ys:=[.ptr ⟨0,[]⟩ 0,.agg (eSym.cells x7.Sym)]) (args:=[.obj (eyuccaref9_maker_r.cells s2.1),.agg (eSym.cells x7.Sym)]) (cs':=[oR eTok x11.2.f_g.Toks,oR eNon x11.2.f_g.Nons,oR eProd_0 x11.2.f_g.Prods,SS x11.2.f_g.Pro,SS x11.2.f_g.Tail,oR eB x11.2.f_given,oR eNon x11.2.f_types,oR eS x11.2.f_lefts,I64 x11.2.f_e,I64 x11.2.f_at,SS x11.2.f_name,I64 x11.2.f_level,I64 x11.2.f_inner]) (k0:=0) q q q q (.b q (.n q .nil)) q (con115 s2.1 x7.Sym _ hx11) call115 (tn2 q q) q q (tn2 q q) .nil q)) q (.n q (.n q (.n q (.q q q q (.n q .nil))))) q q q) q q (by kernel_rfl) q q q (.c (.inl ⟨6,[1],_,_,_,_,q,by simp [rsV],q,q,Nat.le_refl _⟩) q q q q q (Gd.wanted .none) (O.ldO (y:=.brw eI.z ⟨6,[1]⟩ s2.2.1.length) q (.ptr q) ct29 q q) (.c (.inr (.inr (.inr (.inl ⟨6,_,_,q,q,of_blt q,by simp,_,q,of_blt q⟩)))) q q q q q (Gd.wanted .none) (O.fO q (.obj q) fd148_1 q) .nil)) (by kernel_rfl)<|DL.vi 6 (x:=iR eI [x11.1]) (O.bs (ys:=[I64 x11.1]) eI [x11.1] sl29 q q q q q q zt3 q q) q q q q .none<|Dv 7 (O.ap (en:=eI) (r:=x12) (.brw q) q (.imm q) .i ap29 q hx12)<|Dv 8 (O.fO q (.obj q) fd148_1 q)<|DL.bp 9 (G2:=[(0,.obj (eyuccaref9_maker_r.cells x11.2)),(5,.obj (eAlt_0.cells a2)),(6,.obj [I64 (w64 (1+x1)),oR eI (s2.2.1++[x11.1]),I64 (-1),SS s2.2.2.1,.nils,I64 s2.2.2.2.1]),(7,I64 s2.2.2.2.2)]) (EO.stP (g1:=_) (en:=eI) (M:=[x11.1]) (cs2:=[I64 (w64 (1+x1)),oR eI (s2.2.1++[x11.1]),I64 (-1),SS s2.2.2.1,.nils,I64 s2.2.2.2.1]) q q (.ptr q) (.pend q) q q q .ns .rf q q sz29 q q q q (.n q q (.n q q (.b q (.n q q .nil))))) q q q q (by kernel_rfl) (by kernel_rfl)<|DL.fin q q q (tn4 q q q q)) ?_
       obtain rfl:=sm h
       exact Px.jn (tn4 q q q q)
      ·replace h:=cndF hb10 h
       refine W.sq'<|W.rx [(0,_),(5,_),(6,_),(7,_),(8,_),(95,_)] (Vm q<|Rv (O.add (.lit q) (.k q))<|Rv (O.fO q (.obj q) fd93_0 q)<|Rv (O.ldO (y:=iR ePart a2.Parts) q (.ptr q) ct91 q q)<|Rv (O.lenI (.imm q) sl91)<|Rv (O.eql (.lit q) (.lit q))<|Va q<|Fi (tn6 q q q q q q)) ?_
       refine Px.sq ?_
       obtain ⟨j13,hj,h⟩:=bnd h
       refine W.jn [(0,.obj [oR eTok s2.1.f_g.Toks,oR eNon s2.1.f_g.Nons,oR eProd_0 j13.1,SS s2.1.f_g.Pro,SS s2.1.f_g.Tail,oR eB s2.1.f_given,oR eNon s2.1.f_types,oR eS s2.1.f_lefts,I64 s2.1.f_e,I64 s2.1.f_at,SS s2.1.f_name,I64 s2.1.f_level,I64 j13.2.1]),(5,.obj (eAlt_0.cells a2)),(6,.obj [I64 (w64 (1+x1)),oR eI j13.2.2.1,I64 (-1),SS j13.2.2.2.1,.nils,I64 j13.2.2.2.2]),(7,I64 s2.2.2.2.2)] ?_ ?_
       ·clear h; have h:=hj; clear hj
        refine W.cnd q (fun hb14=>?_) (fun hb14=>?_)
        ·replace h:=cndT hb14 h
         refine W.rd [[],[0],[],[2],[0,1],[0,1,4],rn 0 6 [],rn 0 7 []] [(0,_),(5,_),(6,_),(7,_)] mixo (by kernel_rfl) (Dv 0 (O.fO q (.obj q) fd90_1 q)<|Dv 1 (O.ldO (y:=SS x7.Code) q (.ptr q) ct9 q q)<|Dv 2 (O.fO q (.obj q) fd90_2 q)<|Dv 3 (O.ldO (y:=I64 x7.At) q (.ptr q) ct3 q q)<|Dv 4 (O.fO q (.obj q) fd148_3 q)<|DL.bu 5 (G2:=[(0,.obj (eyuccaref9_maker_r.cells s2.1)),(5,.obj (eAlt_0.cells a2)),(6,.obj [I64 (w64 (1+x1)),oR eI s2.2.1,I64 (-1),SS x7.Code,.nils,I64 s2.2.2.2.1]),(7,I64 s2.2.2.2.2),(8,.obj (ePart.cells x7))]) (U:=[(3,105,some (I64 x7.At)),(2,104,some (.ptr ⟨8,[]⟩ 5))]) (EffOk.v (EO.eff (EO.sO (G2:=[(0,.obj (eyuccaref9_maker_r.cells s2.1)),(5,.obj (eAlt_0.cells a2)),(6,.obj [I64 (w64 (1+x1)),oR eI s2.2.1,I64 (-1),SS x7.Code,.nils,I64 s2.2.2.2.1]),(7,I64 s2.2.2.2.2),(8,.obj (ePart.cells x7))]) (cs2:=[I64 (w64 (1+x1)),oR eI s2.2.1,I64 (-1),SS x7.Code,.nils,I64 s2.2.2.2.1]) q q q (.ptr q) (.lit q) q sz9 q q q q (.n q q (.n q q (.b q (.n q q (.n q q .nil)))))))) q q (by kernel_rfl) q q q (.c (.inr (.inl ⟨_,q⟩)) q q q q q (Gd.wanted .none) (O.ldO (y:=I64 x7.At) q (.ptr q) ct3 q q) (.c (.inr (.inr (.inr (.inl ⟨8,_,_,q,q,of_blt q,by simp,_,q,of_blt q⟩)))) q q q q q (Gd.wanted .none) (O.fO q (.obj q) fd90_2 q) .nil)) (by kernel_rfl)<|Dv 6 (O.fO q (.obj q) fd148_5 q)<|DL.sO 7 (G2:=[(0,.obj (eyuccaref9_maker_r.cells s2.1)),(5,.obj (eAlt_0.cells a2)),(6,.obj [I64 (w64 (1+x1)),oR eI s2.2.1,I64 (-1),SS x7.Code,.nils,I64 x7.At]),(7,I64 s2.2.2.2.2)]) (cs2:=[I64 (w64 (1+x1)),oR eI s2.2.1,I64 (-1),SS x7.Code,.nils,I64 x7.At]) q (by kernel_rfl) (by kernel_rfl) q q q (.ptr q) (.lit q) q sz3 q q q q (.n q q (.n q q (.b q (.n q q .nil))))<|DL.fin q q q (tn4 q q q q)) ?_
         obtain rfl:=sm h
         exact Px.jn (tn4 q q q q)
        ·replace h:=cndF hb14 h
         refine W.sq'<|W.rx [(0,_),(5,_),(6,_),(7,_),(8,_)] (Rv (O.mv (.obj q))<|Rv (O.nlP (.ptr q))<|Rv (O.fO q (.ptr q) fd169_8 q)<|Rv (O.ldO (y:=I64 s2.1.f_inner) q (.ptr q) ct3 q q)<|Rv (O.add (.lit q) (.k q))<|Rv (O.nlP (.ptr q))<|Rv (O.fO q (.ptr q) fd169_8 q)<|RunL.sO (G2:=[(0,_),(5,_),(6,_),(7,_),(8,_)]) (cs2:=[oR eTok s2.1.f_g.Toks,oR eNon s2.1.f_g.Nons,oR eProd_0 s2.1.f_g.Prods,SS s2.1.f_g.Pro,SS s2.1.f_g.Tail,oR eB s2.1.f_given,oR eNon s2.1.f_types,oR eS s2.1.f_lefts,I64 s2.1.f_e,I64 s2.1.f_at,SS s2.1.f_name,I64 s2.1.f_level,I64 (w64 (s2.1.f_inner+1))]) q (.ptr q) (.lit q) q sz3 q q q q (.b q (.n q q (.n q q (.n q q (.n q q .nil)))))<|Fi (tn5 q q q q q)) ?_
         refine Px.sq<|W.sq' ?_
         obtain ⟨x15,hx15,h⟩:=bnd h
         obtain ⟨x16,hx16,h⟩:=bnd h
         refine W.rd [[],[],[1],[1,2],[1,2,3],[1,2,3,4],[],[6],[6,7],[6,7,8],[6,7,8,9],[],[11],[11,12],[11,12,13],rn 6 9 [],[],[16],[],[],[19],[18,19,20],[],[22],rn 6 18 [],rn 6 19 [],rn 1 25 [],rn 0 27 [],rn 0 28 [],rn 0 29 [],rn 0 30 []] [(0,_),(5,_),(6,_),(7,_)] mixo (by kernel_rfl) (Dv 0 (O.mv (.obj q))<|Dv 1 (O.mv (.obj q))<|Dv 2 (O.nlP (.ptr q))<|Dv 3 (O.fO q (.ptr q) fd169_0 q)<|Dv 4 (O.fO q (.ptr q) fd44_2 q)<|Dv 5 (O.ldO (y:=.brw eProd_0.z ⟨0,[2]⟩ s2.1.f_g.Prods.length) q (.ptr q) ct42 q q)<|Dv 6 (O.mv (.obj q))<|Dv 7 (O.nlP (.ptr q))<|Dv 8 (O.fO q (.ptr q) fd169_3 q)<|Dv 9 (O.ldO (y:=.brw eS.z ⟨0,[7]⟩ s2.1.f_lefts.length) q (.ptr q) ct167 q q)<|Dv 10 (O.lenO (.brw q) sl167)<|Dv 11 (O.mv (.obj q))<|Dv 12 (O.nlP (.ptr q))<|Dv 13 (O.fO q (.ptr q) fd169_8 q)<|Dv 14 (O.ldO (y:=I64 (w64 (s2.1.f_inner+1))) q (.ptr q) ct3 q q)<|Dv 15 (O.add (.lit q) (.lit q))<|Dv 16 (O.fO q (.obj q) fd90_1 q)<|Dv 17 (O.ldO (y:=SS x7.Code) q (.ptr q) ct9 q q)<|Dv 18 (O.bs (ys:=[]) eI ([]:List Int) sl29 q q q q q q zt3 q q)<|Dv 19 (O.fO q (.obj q) fd148_1 q)<|Dv 20 (O.ldO (y:=.brw eI.z ⟨6,[1]⟩ s2.2.1.length) q (.ptr q) ct29 q q)<|Dv 21 (O.ap (en:=eI) (r:=x15) (.own q) q (.brw q) (.flat eI q) ap29 q hx15)<|Dv 22 (O.fO q (.obj q) fd90_2 q)<|Dv 23 (O.ldO (y:=I64 x7.At) q (.ptr q) ct3 q q)<|Dv 24 (O.bu (cs:=[I64 (w64 ((s2.1.f_lefts.length:Int)+(w64 (s2.1.f_inner+1)))),.nils,I64 (-1),SS x7.Code,.brw eI.z ⟨57,[]⟩ (([]:List Int).length+s2.2.1.length),I64 x7.At]) sc148 ze148 q q q)<|Dv 25 (O.bsL (ys:=[.agg [I64 (w64 ((s2.1.f_lefts.length:Int)+(w64 (s2.1.f_inner+1)))),.nils,I64 (-1),SS x7.Code,.brw eI.z ⟨57,[]⟩ (([]:List Int).length+s2.2.1.length),I64 x7.At]]) (cs:=[I64 (w64 ((s2.1.f_lefts.length:Int)+(w64 (s2.1.f_inner+1)))),.nils,I64 (-1),SS x7.Code,.brw eI.z ⟨57,[]⟩ (([]:List Int).length+s2.2.1.length),I64 x7.At]) sl42 q q q q q zt148 q q)<|Dv 26 (O.apL' (en:=eProd_0) (M:=[(⟨w64 ((s2.1.f_lefts.length:Int)+(w64 (s2.1.f_inner+1))),([]:List Int),(-1),x7.Code,([]:List Int)++s2.2.1,x7.At⟩:Prod)]) (r:=x16) (.brw q) q (.own q) q q q q ap42 q hx16 (noQ_spec (by kernel_rfl) (by kernel_rfl)))<|Dv 27 (O.nlP (.ptr q))<|Dv 28 (O.fO q (.ptr q) fd169_0 q)<|Dv 29 (O.fO q (.ptr q) fd44_2 q)<|DL.bp 30 (G2:=[(0,.obj [oR eTok s2.1.f_g.Toks,oR eNon s2.1.f_g.Nons,oR eProd_0 (s2.1.f_g.Prods++[(⟨w64 ((s2.1.f_lefts.length:Int)+(w64 (s2.1.f_inner+1))),([]:List Int),(-1),x7.Code,([]:List Int)++s2.2.1,x7.At⟩:Prod)]),SS s2.1.f_g.Pro,SS s2.1.f_g.Tail,oR eB s2.1.f_given,oR eNon s2.1.f_types,oR eS s2.1.f_lefts,I64 s2.1.f_e,I64 s2.1.f_at,SS s2.1.f_name,I64 s2.1.f_level,I64 (w64 (s2.1.f_inner+1))]),(5,.obj (eAlt_0.cells a2)),(6,.obj [I64 (w64 (1+x1)),oR eI s2.2.1,I64 (-1),SS s2.2.2.1,.nils,I64 s2.2.2.2.1]),(7,I64 s2.2.2.2.2)]) (EO.stP (g1:=_) (en:=eProd_0) (M:=[(⟨w64 ((s2.1.f_lefts.length:Int)+(w64 (s2.1.f_inner+1))),([]:List Int),(-1),x7.Code,([]:List Int)++s2.2.1,x7.At⟩:Prod)]) (cs2:=[oR eTok s2.1.f_g.Toks,oR eNon s2.1.f_g.Nons,oR eProd_0 (s2.1.f_g.Prods++[(⟨w64 ((s2.1.f_lefts.length:Int)+(w64 (s2.1.f_inner+1))),([]:List Int),(-1),x7.Code,([]:List Int)++s2.2.1,x7.At⟩:Prod)]),SS s2.1.f_g.Pro,SS s2.1.f_g.Tail,oR eB s2.1.f_given,oR eNon s2.1.f_types,oR eS s2.1.f_lefts,I64 s2.1.f_e,I64 s2.1.f_at,SS s2.1.f_name,I64 s2.1.f_level,I64 (w64 (s2.1.f_inner+1))]) q q (.ptr q) (.pend q) q q q (.f (.f (.f (.f (.pn q q q .ns (.f .nil)))))) (.f (.z (.f (.f (.z (hv:=Vw.pn q q) (.f .nil)))))) q q sz42 q q q q (.b q (.n q q (.n q q (.n q q .nil))))) q q q q (by kernel_rfl) (by kernel_rfl)<|DL.fin q q q (tn4 q q q q)) ?_
         refine Px.sq ?_
         obtain ⟨x17,hx17,h⟩:=bnd h
         refine W.rd [[],[0],[],[2],[2,3],[2,3,4],[2,3,4,5],rn 2 5 [],[],[8],[8,9],[8,9,10],rn 2 10 [],rn 2 11 [],rn 0 14 [],rn 0 15 [],rn 0 16 []] [(0,_),(5,_),(6,_),(7,_)] mixo (by kernel_rfl) (Dv 0 (O.fO q (.obj q) fd148_1 q)<|Dv 1 (O.ldO (y:=.brw eI.z ⟨6,[1]⟩ s2.2.1.length) q (.ptr q) ct29 q q)<|Dv 2 (O.mv (.obj q))<|Dv 3 (O.nlP (.ptr q))<|Dv 4 (O.fO q (.ptr q) fd169_3 q)<|Dv 5 (O.ldO (y:=.brw eS.z ⟨0,[7]⟩ s2.1.f_lefts.length) q (.ptr q) ct167 q q)<|Dv 6 (O.lenO (.brw q) sl167)<|Dv 7 (O.add (.k q) (.lit q))<|Dv 8 (O.mv (.obj q))<|Dv 9 (O.nlP (.ptr q))<|Dv 10 (O.fO q (.ptr q) fd169_8 q)<|Dv 11 (O.ldO (y:=I64 (w64 (s2.1.f_inner+1))) q (.ptr q) ct3 q q)<|Dv 12 (O.add (.lit q) (.lit q))<|DL.vi 13 (x:=iR eI [w64 ((w64 (1000+(s2.1.f_lefts.length:Int)))+(w64 (s2.1.f_inner+1)))]) (O.bs (ys:=[I64 (w64 ((w64 (1000+(s2.1.f_lefts.length:Int)))+(w64 (s2.1.f_inner+1))))]) eI [w64 ((w64 (1000+(s2.1.f_lefts.length:Int)))+(w64 (s2.1.f_inner+1)))] sl29 q q q q q q zt3 q q) q q q q .none<|Dv 14 (O.ap (en:=eI) (r:=x17) (.brw q) q (.imm q) .i ap29 q hx17)<|Dv 15 (O.fO q (.obj q) fd148_1 q)<|DL.bp 16 (G2:=[(0,.obj [oR eTok s2.1.f_g.Toks,oR eNon s2.1.f_g.Nons,oR eProd_0 (s2.1.f_g.Prods++[(⟨w64 ((s2.1.f_lefts.length:Int)+(w64 (s2.1.f_inner+1))),([]:List Int),(-1),x7.Code,([]:List Int)++s2.2.1,x7.At⟩:Prod)]),SS s2.1.f_g.Pro,SS s2.1.f_g.Tail,oR eB s2.1.f_given,oR eNon s2.1.f_types,oR eS s2.1.f_lefts,I64 s2.1.f_e,I64 s2.1.f_at,SS s2.1.f_name,I64 s2.1.f_level,I64 (w64 (s2.1.f_inner+1))]),(5,.obj (eAlt_0.cells a2)),(6,.obj [I64 (w64 (1+x1)),oR eI (s2.2.1++[w64 ((w64 (1000+(s2.1.f_lefts.length:Int)))+(w64 (s2.1.f_inner+1)))]),I64 (-1),SS s2.2.2.1,.nils,I64 s2.2.2.2.1]),(7,I64 s2.2.2.2.2)]) (EO.stP (g1:=_) (en:=eI) (M:=[w64 ((w64 (1000+(s2.1.f_lefts.length:Int)))+(w64 (s2.1.f_inner+1)))]) (cs2:=[I64 (w64 (1+x1)),oR eI (s2.2.1++[w64 ((w64 (1000+(s2.1.f_lefts.length:Int)))+(w64 (s2.1.f_inner+1)))]),I64 (-1),SS s2.2.2.1,.nils,I64 s2.2.2.2.1]) q q (.ptr q) (.pend q) q q q .ns .rf q q sz29 q q q q (.n q q (.n q q (.b q (.n q q .nil))))) q q q q (by kernel_rfl) (by kernel_rfl)<|DL.fin q q q (tn4 q q q q)) ?_
         obtain rfl:=sm h
         exact Px.jn (tn4 q q q q)
       obtain rfl:=sm h
       exact Px.jn (tn4 q q q q)
     refine Px.bk ?_
     obtain rfl:=sm h
     exact Px.jn (tn4 q q q q)
    refine Px.bk ?_
    obtain rfl:=sm h
    exact Px.jn (tn4 q q q q)
   refine Px.sq<|W.rx [(0,_),(5,_),(6,_),(7,_)] (Vm q<|Rv (O.add (.lit q) (.k q))<|RunL.re (G1:=[(0,_),(5,_),(6,_),(23,_)]) (tn4 q q q q)<|Va q<|Fi (tn4 q q q q)) ?_
   obtain rfl:=sm h
   exact Px.go (tn4 q q q q)
  ·replace h:=cndF hb5 h
   refine W.xi ?_
   refine Px.sqE ?_
   obtain rfl:=sm h
   exact Px.x1 (tn3 q q q)
 refine Px.bkH ?_
 refine Px.sq<|W.sq' ?_
 refine W.sq'<|W.rx [(0,_),(5,_),(6,_),(9,_)] (Vk q<|Fi (tn4 q q q q)) ?_
 refine Px.sq<|W.bk ?_
 obtain ⟨x19,hl,h⟩:=bnd h
 refine W.tr (G1:=[(0,_),(5,_),(6,_),(9,_)]) (tn4 q q q q) ?_
 refine W.lp1 (s:=((-1),0)) (fun (s18:Int × Int)=>[(0,.obj (eyuccaref9_maker_r.cells x3.1)),(5,.obj (eAlt_0.cells a2)),(6,.obj [I64 (w64 (1+x1)),oR eI x3.2.1,I64 s18.1,SS x3.2.2.1,.nils,I64 x3.2.2.2]),(9,I64 s18.2)]) 3 (fun (x19:Int)=>[(0,.obj (eyuccaref9_maker_r.cells x3.1)),(5,.obj (eAlt_0.cells a2)),(6,.obj [I64 (w64 (1+x1)),oR eI x3.2.1,I64 x19,SS x3.2.2.1,.nils,I64 x3.2.2.2])]) hl (fun s18 o h=>?_) ?_
 ·clear hl
  refine W.sq'<|W.sq' ?_
  refine W.rx [(0,_),(5,_),(6,_),(9,_),(112,_)] (Vm q<|Rv (O.fO q (.obj q) fd148_1 q)<|Rv (O.ldO (y:=.brw eI.z ⟨6,[1]⟩ x3.2.1.length) q (.ptr q) ct29 q q)<|Rv (O.lenO (.brw q) sl29)<|Rv (O.lss (.lit q) (.lit q))<|Fi (tn5 q q q q q)) ?_
  refine Px.sq<|W.cnd q (fun hb21=>?_) (fun hb21=>?_)
  ·replace h:=cndT hb21 h
   refine W.sk<|Px.sq ?_
   refine W.sq' ?_
   obtain ⟨j22,hj,h⟩:=bnd h
   refine W.jn [(0,.obj (eyuccaref9_maker_r.cells x3.1)),(5,.obj (eAlt_0.cells a2)),(6,.obj [I64 (w64 (1+x1)),oR eI x3.2.1,I64 j22,SS x3.2.2.1,.nils,I64 x3.2.2.2]),(9,I64 s18.2)] ?_ ?_
   ·clear h; have h:=hj; clear hj
    refine W.bk<|W.sq' ?_
    obtain ⟨x23,hx23,h⟩:=bnd h
    refine W.rx [(0,_),(5,_),(6,_),(9,_),(120,_)] (Rv (O.fO q (.obj q) fd148_1 q)<|Rv (O.ldO (y:=.brw eI.z ⟨6,[1]⟩ x3.2.1.length) q (.ptr q) ct29 q q)<|Vm q<|Rv (O.ixO (en:=eI) q (.brw q) (.lit q) sl29 hx23 q)<|Rv (O.ldE (en:=eI) (x':=I64 x23) q (.ptr q) ct3 hx23 q q)<|Rv (O.lss (.lit q) (.k q))<|Fi (tn5 q q q q q)) ?_
    refine Px.sq ?_
    obtain ⟨j24,hj,h⟩:=bnd h
    refine W.jn [(0,.obj (eyuccaref9_maker_r.cells x3.1)),(5,.obj (eAlt_0.cells a2)),(6,.obj [I64 (w64 (1+x1)),oR eI x3.2.1,I64 j24,SS x3.2.2.1,.nils,I64 x3.2.2.2]),(9,I64 s18.2)] ?_ ?_
    ·clear h; have h:=hj; clear hj
     refine W.cnd q (fun hb25=>?_) (fun hb25=>?_)
     ·replace h:=cndT hb25 h
      obtain ⟨x26,hx26,h⟩:=bnd h
      refine W.rx [(0,_),(5,_),(6,_),(9,_)] (Rv (O.fO q (.obj q) fd148_1 q)<|Rv (O.ldO (y:=.brw eI.z ⟨6,[1]⟩ x3.2.1.length) q (.ptr q) ct29 q q)<|Vm q<|Rv (O.ixO (en:=eI) q (.brw q) (.lit q) sl29 hx26 q)<|Rv (O.ldE (en:=eI) (x':=I64 x26) q (.ptr q) ct3 hx26 q q)<|Rv (O.fO q (.obj q) fd148_2 q)<|RunL.sO (G2:=[(0,_),(5,_),(6,_),(9,_)]) (cs2:=[I64 (w64 (1+x1)),oR eI x3.2.1,I64 x26,SS x3.2.2.1,.nils,I64 x3.2.2.2]) q (.ptr q) (.lit q) q sz3 q q q q (.n q q (.n q q (.b q (.n q q .nil))))<|Fi (tn4 q q q q)) ?_
      obtain rfl:=sm h
      exact Px.jn (tn4 q q q q)
     ·replace h:=cndF hb25 h
      refine W.sk ?_
      obtain rfl:=sm h
      exact Px.jn (tn4 q q q q)
    refine Px.bk ?_
    obtain rfl:=sm h
    exact Px.jn (tn4 q q q q)
   refine Px.sq<|W.rx [(0,_),(5,_),(6,_),(9,_)] (Vm q<|Rv (O.add (.lit q) (.k q))<|RunL.re (G1:=[(0,_),(5,_),(6,_),(114,_)]) (tn4 q q q q)<|Va q<|Fi (tn4 q q q q)) ?_
   obtain rfl:=sm h
   exact Px.go (tn4 q q q q)
  ·replace h:=cndF hb21 h
   refine W.xi ?_
   refine Px.sqE ?_
   obtain rfl:=sm h
   exact Px.x1 (tn3 q q q)
 refine Px.bkH ?_
 refine Px.sq<|W.sq' ?_
 refine W.sq'<|W.rx [(0,_),(5,_),(6,_),(130,_)] (Rv (O.fO q (.obj q) fd93_1 q)<|Rv (O.fO q (.ptr q) fd88_0 q)<|Rv (O.ldO (y:=SS a2.Prec.Name) q (.ptr q) ct9 q q)<|Rv (O.neS (.lit q) (.k q))<|Fi (tn4 q q q q)) ?_
 refine Px.sq ?_
 obtain ⟨j27,hj,h⟩:=bnd h
 refine W.jn [(0,.obj (eyuccaref9_maker_r.cells j27.1)),(6,.obj [I64 (w64 (1+x1)),oR eI x3.2.1,I64 j27.2,SS x3.2.2.1,.nils,I64 x3.2.2.2])] ?_ ?_
 ·clear h; have h:=hj; clear hj
  refine W.cnd q (fun hb28=>?_) (fun hb28=>?_)
  ·replace h:=cndT hb28 h
   refine W.sq'<|W.rx [(0,_),(5,_),(6,_)] (Rv (O.fO q (.obj q) fd148_2 q)<|RunL.sO (G2:=[(0,_),(5,_),(6,_)]) (cs2:=[I64 (w64 (1+x1)),oR eI x3.2.1,I64 (-1),SS x3.2.2.1,.nils,I64 x3.2.2.2]) q (.ptr q) (.k q) q sz3 q q q q (.n q q (.n q q (.b q .nil)))<|Fi (tn3 q q q)) ?_
   refine Px.sq<|W.sq' ?_
   obtain ⟨c31,hj,h⟩:=bnd h
   refine W.rx [(0,.obj (eyuccaref9_maker_r.cells x3.1)),(5,.obj (eAlt_0.cells a2)),(6,.obj [I64 (w64 (1+x1)),oR eI x3.2.1,I64 (-1),SS x3.2.2.1,.nils,I64 x3.2.2.2]),(142,BB c31)] ?_ ?_
   ·refine Rv (O.fO q (.obj q) fd93_1 q)<|Rv (O.fO q (.ptr q) fd88_1 q)<|Rv (O.ldO (y:=BB a2.Prec.Lit) q (.ptr q) ct4 q q)<|Rv (O.mv (.lit q)) ?_
    rcases cnd hj with ⟨hb29,hj⟩ | ⟨hb29,hj⟩
    ·obtain rfl:=sm hj
     exact RunL.ps q q hb29 q q<|RunL.ps q q hb29 q q<|RunL.ps q q hb29 q q<|RunL.ps q q hb29 q q<|RunL.ps q q hb29 q q<|RunL.ps q q hb29 q q<|Rv (O.pkT (.lit q) hb29 (.k q))<|Fi (tn4 q q q q)
    ·refine RunL.v (O.mv (.obj q)) q q (.yb q q hb29)<|RunL.v (O.fO q (.obj q) fd93_1 q) q q (.yb q q hb29)<|RunL.v (O.fO q (.ptr q) fd88_0 q) q q (.yb q q hb29)<|RunL.v (O.ldO (y:=SS a2.Prec.Name) q (.ptr q) ct9 q q) q q (.yb q q hb29) ?_
     obtain ⟨x30,hx30,hj⟩:=bnd hj
     obtain rfl:=sm hj
     exact RunL.c (PC.vw (ys:=[.ptr ⟨0,[]⟩ 0,SS a2.Prec.Name]) q (.c (View.p0 q q) (.s .nil)) (con96 x3.1 a2.Prec.Name _ hx30) call96 q) q q (.yb q q hb29)<|RunL.v (O.lss (.lit q) (.k q)) q q (.yb q q hb29)<|Rv (O.pkF (.lit q) hb29 (.lit q))<|Fi (tn4 q q q q)
   refine Px.sq ?_
   obtain ⟨j32,hj,h⟩:=bnd h
   refine W.jn [(0,.obj (eyuccaref9_maker_r.cells j32.1)),(6,.obj [I64 (w64 (1+x1)),oR eI x3.2.1,I64 j32.2,SS x3.2.2.1,.nils,I64 x3.2.2.2])] ?_ ?_
   ·clear h; have h:=hj; clear hj
    refine W.cnd q (fun hb33=>?_) (fun hb33=>?_)
    ·replace h:=cndT hb33 h
     obtain ⟨x34,hx34,h⟩:=bnd h
     refine W.rx [(0,_),(6,_)] (Rv (O.mv (.obj q))<|Rv (O.fO q (.obj q) fd93_1 q)<|Rv (O.ldON (cs':=[SS a2.Prec.Name,BB a2.Prec.Lit,I64 a2.Prec.Num,I64 a2.Prec.At]) q (.ptr q) at88 q q)<|RunL.ef q (EO.call q q (CallOk.ln (G2:=[(6,.obj [I64 (w64 (1+x1)),oR eI x3.2.1,I64 (-1),SS x3.2.2.1,.nils,I64 x3.2.2.2])]) (A:=[]) (ys:=[.ptr ⟨0,[]⟩ 0,.agg (eSym.cells a2.Prec)]) (args:=[.obj (eyuccaref9_maker_r.cells x3.1),.agg (eSym.cells a2.Prec)]) (cs':=[oR eTok x34.2.f_g.Toks,oR eNon x34.2.f_g.Nons,oR eProd_0 x34.2.f_g.Prods,SS x34.2.f_g.Pro,SS x34.2.f_g.Tail,oR eB x34.2.f_given,oR eNon x34.2.f_types,oR eS x34.2.f_lefts,I64 x34.2.f_e,I64 x34.2.f_at,SS x34.2.f_name,I64 x34.2.f_level,I64 x34.2.f_inner]) (k0:=0) q q q q (.b q (.n q .nil)) q (con115 x3.1 a2.Prec _ hx34) call115 (.n q .nil) q q (.n q .nil) .nil q))<|Rv (O.fO q (.obj q) fd148_2 q)<|RunL.sO (G2:=[(0,_),(6,_)]) (cs2:=[I64 (w64 (1+x1)),oR eI x3.2.1,I64 x34.1,SS x3.2.2.1,.nils,I64 x3.2.2.2]) q (.ptr q) (.lit q) q sz3 q q q q (.n q q (.b q .nil))<|Fi (tn2 q q)) ?_
     obtain rfl:=sm h
     exact Px.jn (tn2 q q)
    ·replace h:=cndF hb33 h
     obtain ⟨x35,hx35,h⟩:=bnd h
     refine W.rx [(0,_),(6,_)] (Rv (O.mv (.obj q))<|Rv (O.fO q (.obj q) fd93_1 q)<|Rv (O.fO q (.ptr q) fd88_3 q)<|Rv (O.ldO (y:=I64 a2.Prec.At) q (.ptr q) ct3 q q)<|Rv (O.fO q (.obj q) fd93_1 q)<|Rv (O.fO q (.ptr q) fd88_0 q)<|Rv (O.ldO (y:=SS a2.Prec.Name) q (.ptr q) ct9 q q)<|RunL.ef q (EO.call q q (CallOk.ln (G2:=[(6,.obj [I64 (w64 (1+x1)),oR eI x3.2.1,I64 (-1),SS x3.2.2.1,.nils,I64 x3.2.2.2])]) (A:=[]) (ys:=[.ptr ⟨0,[]⟩ 0,I64 a2.Prec.At,SS a2.Prec.Name]) (args:=[.obj (eyuccaref9_maker_r.cells x3.1),I64 a2.Prec.At,SS a2.Prec.Name]) (cs':=[oR eTok x35.f_g.Toks,oR eNon x35.f_g.Nons,oR eProd_0 x35.f_g.Prods,SS x35.f_g.Pro,SS x35.f_g.Tail,oR eB x35.f_given,oR eNon x35.f_types,oR eS x35.f_lefts,I64 x35.f_e,I64 x35.f_at,SS x35.f_name,I64 x35.f_level,I64 x35.f_inner]) (k0:=0) q q q q (.b q (.n q (.n q .nil))) q (con94 x3.1 a2.Prec.At a2.Prec.Name _ hx35) call94 (.n q .nil) q q (.n q .nil) .nil q))<|Fi (tn2 q q)) ?_
     obtain rfl:=sm h
     exact Px.jn (tn2 q q)
   obtain rfl:=sm h
   exact Px.jn (tn2 q q)
  ·replace h:=cndF hb28 h
   refine W.sk ?_
   obtain rfl:=sm h
   exact Px.jn (tn2 q q)
 refine Px.sq<|W.sq' ?_
 obtain ⟨x36,hx36,h⟩:=bnd h
 refine W.rx [(0,_),(6,_)] (Rv (O.bs (ys:=[]) eI ([]:List Int) sl29 q q q q q q zt3 q q)<|Rv (O.fO q (.obj q) fd148_1 q)<|Rv (O.ldO (y:=.brw eI.z ⟨6,[1]⟩ x3.2.1.length) q (.ptr q) ct29 q q)<|Rv (O.ap (en:=eI) (r:=x36) (.own q) q (.brw q) (.flat eI q) ap29 q hx36)<|Rv (O.fO q (.obj q) fd148_4 q)<|RunL.ef (G2:=[(0,.obj (eyuccaref9_maker_r.cells j27.1)),(6,.obj [I64 (w64 (1+x1)),oR eI x3.2.1,I64 j27.2,SS x3.2.2.1,oR eI (([]:List Int)++x3.2.1),I64 x3.2.2.2])]) q (EO.stP (g1:=_) (en:=eI) (M:=x3.2.1) (cs2:=[I64 (w64 (1+x1)),oR eI x3.2.1,I64 j27.2,SS x3.2.2.1,oR eI (([]:List Int)++x3.2.1),I64 x3.2.2.2]) q q (.ptr q) (.pend q) q q q .ns .rf q q sz29 q q q q (.n q q (.b q .nil)))<|Fi (tn2 q q)) ?_
 refine Px.sq<|W.fz (G1:=[(0,_),(6,.obj [I64 (w64 (1+x1)),iR eI x3.2.1,I64 j27.2,SS x3.2.2.1,oR eI (([]:List Int)++x3.2.1),I64 x3.2.2.2])]) [6] (.n q q (.z q q (FzL.obj (.f (.z (.f (.f (.f (.f .nil))))))) .nil)) ?_
 refine W.fz (G1:=[(0,_),(6,.obj [I64 (w64 (1+x1)),iR eI x3.2.1,I64 j27.2,SS x3.2.2.1,iR eI (([]:List Int)++x3.2.1),I64 x3.2.2.2])]) [6] (.n q q (.z q q (FzL.obj (.f (.f (.f (.f (.z (.f .nil))))))) .nil)) ?_
 obtain ⟨x37,hx37,h⟩:=bnd h
 refine W.rd [[],[],[1],[1,2],[1,2,3],[1,2,3,4],[],[6],rn 1 7 [],rn 0 9 [],rn 0 10 [],rn 0 11 [],rn 0 12 []] [(0,_)] mixo (by kernel_rfl) (Dv 0 (O.mv (.obj q))<|Dv 1 (O.mv (.obj q))<|Dv 2 (O.nlP (.ptr q))<|Dv 3 (O.fO q (.ptr q) fd169_0 q)<|Dv 4 (O.fO q (.ptr q) fd44_2 q)<|Dv 5 (O.ldO (y:=.brw eProd_0.z ⟨0,[2]⟩ j27.1.f_g.Prods.length) q (.ptr q) ct42 q q)<|Dv 6 (O.ldON (cs':=[I64 (w64 (1+x1)),iR eI x3.2.1,I64 j27.2,SS x3.2.2.1,iR eI (([]:List Int)++x3.2.1),I64 x3.2.2.2]) q (.obj q) at148 q q)<|DL.vi 7 (x:=iR eProd_0 [(⟨w64 (1+x1),x3.2.1,j27.2,x3.2.2.1,([]:List Int)++x3.2.1,x3.2.2.2⟩:Prod)]) (O.bs (ys:=[.agg [I64 (w64 (1+x1)),iR eI x3.2.1,I64 j27.2,SS x3.2.2.1,iR eI (([]:List Int)++x3.2.1),I64 x3.2.2.2]]) eProd_0 [(⟨w64 (1+x1),x3.2.1,j27.2,x3.2.2.1,([]:List Int)++x3.2.1,x3.2.2.2⟩:Prod)] sl42 q q q q q q zt148 q q) q q q q .none<|Dv 8 (O.ap (en:=eProd_0) (r:=x37) (.brw q) q (.imm q) .i ap42 q hx37)<|Dv 9 (O.nlP (.ptr q))<|Dv 10 (O.fO q (.ptr q) fd169_0 q)<|Dv 11 (O.fO q (.ptr q) fd44_2 q)<|DL.bp 12 (G2:=[(0,.obj [oR eTok j27.1.f_g.Toks,oR eNon j27.1.f_g.Nons,oR eProd_0 (j27.1.f_g.Prods++[(⟨w64 (1+x1),x3.2.1,j27.2,x3.2.2.1,([]:List Int)++x3.2.1,x3.2.2.2⟩:Prod)]),SS j27.1.f_g.Pro,SS j27.1.f_g.Tail,oR eB j27.1.f_given,oR eNon j27.1.f_types,oR eS j27.1.f_lefts,I64 j27.1.f_e,I64 j27.1.f_at,SS j27.1.f_name,I64 j27.1.f_level,I64 j27.1.f_inner])]) (EO.stP (g1:=_) (en:=eProd_0) (M:=[(⟨w64 (1+x1),x3.2.1,j27.2,x3.2.2.1,([]:List Int)++x3.2.1,x3.2.2.2⟩:Prod)]) (cs2:=[oR eTok j27.1.f_g.Toks,oR eNon j27.1.f_g.Nons,oR eProd_0 (j27.1.f_g.Prods++[(⟨w64 (1+x1),x3.2.1,j27.2,x3.2.2.1,([]:List Int)++x3.2.1,x3.2.2.2⟩:Prod)]),SS j27.1.f_g.Pro,SS j27.1.f_g.Tail,oR eB j27.1.f_given,oR eNon j27.1.f_types,oR eS j27.1.f_lefts,I64 j27.1.f_e,I64 j27.1.f_at,SS j27.1.f_name,I64 j27.1.f_level,I64 j27.1.f_inner]) q q (.ptr q) (.pend q) q q q .ns .rf q q sz42 q q q q (.b q .nil)) q q q q (by kernel_rfl) (by kernel_rfl)<|DL.fin q q q (.n q .nil)) ?_
 obtain rfl:=sm h
 exact Px.fin (Fin.ro .nil q (ode (by kernel_rfl)) (.so q q (.no (.no .nil))) q (.inl q))
theorem con99 (a0:Int) (r:ByteArray) (h:pf99 a0=some r):Con Try.prog 99 [I64 a0] [none] (SS r):=by
 unfold pf99 at h
 refine Con.go (N:=⟨32,[]⟩) Try.func99 q q q q (W.fin ?_)
 refine W.st [(0,I64 a0)] ?_
 refine W.sq'<|W.rx [(0,_)] (Vk q<|Fi (.n q .nil)) ?_
 refine Px.sq<|W.sq' ?_
 refine W.rx [(0,_),(3,_)] (Vm q<|Rv (O.cvI (.lit q) it3 it187)<|Va q<|Fi (tn2 q q)) ?_
 refine Px.sq<|W.sq' ?_
 refine W.sq'<|W.rx [(0,_),(3,_),(8,_)] (Vm q<|Rv (O.lss (.lit q) (.k q))<|Fi (tn3 q q q)) ?_
 refine Px.sq ?_
 obtain ⟨j1,hj,h⟩:=bnd h
 refine W.jn [(0,I64 a0),(3,.lit (.int .u64 j1))] ?_ ?_
 ·clear h; have h:=hj; clear hj
  refine W.cnd q (fun hb2=>?_) (fun hb2=>?_)
  ·replace h:=cndT hb2 h
   refine W.rx [(0,_),(3,_)] (Vm q<|Rv (O.neg (.lit q))<|RunL.re (G1:=[(0,_),(10,_)]) (tn2 q q)<|Va q<|Fi (tn2 q q)) ?_
   obtain rfl:=sm h
   exact Px.jn (tn2 q q)
  ·replace h:=cndF hb2 h
   refine W.sk ?_
   obtain rfl:=sm h
   exact Px.jn (tn2 q q)
 refine Px.sq<|W.sq' ?_
 refine W.rx [(0,_),(3,_),(4,_)] (Vk q<|Fi (tn3 q q q)) ?_
 refine Px.sq<|W.sq' ?_
 refine W.bk ?_
 obtain ⟨x4,hl,h⟩:=bnd h
 refine W.tr (G1:=[(0,_),(3,_),(4,_)]) (tn3 q q q) ?_
 refine W.lp1 (s:=(j1,S0)) (fun (s3:Int × ByteArray)=>[(0,I64 a0),(3,.lit (.int .u64 s3.1)),(4,SS s3.2)]) 0 (fun (x4:ByteArray)=>[(0,I64 a0),(4,SS x4)]) hl (fun s3 o h=>?_) ?_
 ·clear hl
  refine W.sq'<|W.sq' ?_
  obtain ⟨c7,hj,h⟩:=bnd h
  refine W.rx [(0,I64 a0),(3,.lit (.int .u64 s3.1)),(4,SS s3.2),(16,BB c7)] ?_ ?_
  ·refine Vm q<|Rv (O.gtr (.lit q) (.k q))<|Rv (O.mv (.lit q)) ?_
   rcases cnd hj with ⟨hb6,hj⟩ | ⟨hb6,hj⟩
   ·obtain rfl:=sm hj
    exact RunL.ps q q hb6 q q<|RunL.ps q q hb6 q q<|Rv (O.pkT (.lit q) hb6 (.k q))<|Fi (tn4 q q q q)
   ·obtain rfl:=sm hj
    exact RunL.v (O.mv (.lit q)) q q (.yb q q hb6)<|RunL.v (O.eqS (.lit q) (.k q)) q q (.yb q q hb6)<|Rv (O.pkF (.lit q) hb6 (.lit q))<|Fi (tn4 q q q q)
  refine Px.sq<|W.cnd q (fun hb8=>?_) (fun hb8=>?_)
  ·replace h:=cndT hb8 h
   refine W.sk<|Px.sq ?_
   refine W.bk<|W.sq' ?_
   obtain ⟨x9,hx9,h⟩:=bnd h
   obtain ⟨x10,hx10,h⟩:=bnd h
   refine W.rx [(0,_),(3,_),(4,_)] (Vm q<|Rv (O.remU (.lit q) (.k q) hx9)<|Rv (O.add (.k q) (.lit q))<|Rv (O.cvI (.lit q) it187 it5)<|RunL.vi (x:=iR eU [w8 (IntKind.u64.wrap (48+x9))]) (O.bs (ys:=[U8 (w8 (IntKind.u64.wrap (48+x9)))]) eU [w8 (IntKind.u64.wrap (48+x9))] sl123 q q q q q q zt5 q q) q q .none<|Rv (O.cvC (.imm q) by123_9)<|Vm q<|Rv (O.cat (.lit q) (.lit q) hx10)<|RunL.re (G1:=[(0,_),(3,_),(24,_)]) (tn3 q q q)<|Va q<|Fi (tn3 q q q)) ?_
   refine Px.sq ?_
   obtain ⟨x11,hx11,h⟩:=bnd h
   refine W.rx [(0,_),(3,_),(4,_)] (Vm q<|Rv (O.quoU (.lit q) (.k q) hx11)<|RunL.re (G1:=[(0,_),(4,_),(26,_)]) (tn3 q q q)<|Va q<|Fi (tn3 q q q)) ?_
   refine Px.bk ?_
   obtain rfl:=sm h
   exact Px.go (tn3 q q q)
  ·replace h:=cndF hb8 h
   refine W.xi ?_
   refine Px.sqE ?_
   obtain rfl:=sm h
   exact Px.x1 (tn2 q q)
 refine Px.bkH ?_
 refine Px.sq<|W.sq' ?_
 refine W.sq'<|W.rx [(4,_),(28,_)] (Vm q<|Rv (O.lss (.lit q) (.k q))<|Fi (tn2 q q)) ?_
 refine Px.sq<|W.cnd q (fun hb12=>?_) (fun hb12=>?_)
 ·replace h:=cndT hb12 h
  refine W.sq' ?_
  obtain ⟨x13,hx13,h⟩:=bnd h
  refine W.rx [(2,_)] (Vm q<|Rv (O.cat (.k q) (.lit q) hx13)<|Va q<|Fi (.n q .nil)) ?_
  refine Px.sq<|W.rt ?_
  refine Px.sqR ?_
  obtain rfl:=sm h
  exact Px.fin (Fin.ro (.f q q .nil) q (ode (by kernel_rfl)) (.no .nil) q (.inr q))
 ·replace h:=cndF hb12 h
  refine W.sk<|Px.sq ?_
  refine W.sq'<|W.rx [(2,_)] (Vm q<|Va q<|Fi (.n q .nil)) ?_
  refine Px.sq<|W.rt ?_
  obtain rfl:=sm h
  exact Px.fin (Fin.ro (.f q q .nil) q (ode (by kernel_rfl)) (.no .nil) q (.inr q))
end Go.Proofs
