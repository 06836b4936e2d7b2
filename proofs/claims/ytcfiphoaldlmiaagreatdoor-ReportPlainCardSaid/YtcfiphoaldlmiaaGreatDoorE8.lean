/- Parts of the proof that the last text states. -/
import Derived.Test.YtcfiphoaldlmiaaGreatDoorRows
import Derived.Test.YtcfiphoaldlmiaaGreatDoorE7
namespace Go.Proofs
open Go Go.Own
set_option maxRecDepth 100000
set_option maxHeartbeats 4000000
set_option synthInstance.maxHeartbeats 1000000
set_option synthInstance.maxSize 10000
set_option linter.unusedVariables false
instance:Lts eItem:=⟨fun x=>[(.int .i64 x.Prod),(.int .i64 x.Dot)],fun _=>rfl,fun x v hv=>by simp only [List.mem_cons,List.not_mem_nil,or_false] at hv; rcases hv with rfl | rfl <;> rfl⟩
theorem it3:intT Tryz.prog 3 .i64=true:=by kernel_rfl
theorem st9:strT Tryz.prog 9=true:=by kernel_rfl
theorem fd54_1:fldT Tryz.prog 54 1 1 4=true:=by kernel_rfl
theorem ct4:cellT Tryz.prog 4=true:=by kernel_rfl
theorem fd54_0:fldT Tryz.prog 54 0 0 9=true:=by kernel_rfl
theorem ct9:cellT Tryz.prog 9=true:=by kernel_rfl
theorem fd54_2:fldT Tryz.prog 54 2 2 3=true:=by kernel_rfl
theorem ct3:cellT Tryz.prog 3=true:=by kernel_rfl
theorem fd62_0:fldT Tryz.prog 62 0 0 3=true:=by kernel_rfl
theorem fd62_2:fldT Tryz.prog 62 2 2 60=true:=by kernel_rfl
theorem ct60:cellT Tryz.prog 60=true:=by kernel_rfl
theorem sl60:slT Tryz.prog 60 54 4=true:=by kernel_rfl
theorem fd62_1:fldT Tryz.prog 62 1 1 9=true:=by kernel_rfl
theorem at54:aggT Tryz.prog 54 4=true:=by kernel_rfl
theorem mixo:Tryz.prog.follows .mixedOrders=true:=by kernel_rfl
theorem fd56_0:fldT Tryz.prog 56 0 0 52=true:=by kernel_rfl
theorem ct52:cellT Tryz.prog 52=true:=by kernel_rfl
theorem sl52:slT Tryz.prog 52 59 6=true:=by kernel_rfl
theorem at59:aggT Tryz.prog 59 6=true:=by kernel_rfl
theorem ze59:(Tryz.prog.info? 59).bind (·.zero)=some (.agg #[.string { data:=#[] },.bool false,.int .i64 0,.int .i64 0,.string { data:=#[] },.int .i64 0]):=by kernel_rfl
theorem sz59:sizeT Tryz.prog 59 6=true:=by kernel_rfl
theorem fd59_1:fldT Tryz.prog 59 1 4 9=true:=by kernel_rfl
theorem fd59_0:fldT Tryz.prog 59 0 0 54=true:=by kernel_rfl
theorem fd56_1:fldT Tryz.prog 56 1 1 54=true:=by kernel_rfl
theorem fd25_0:fldT Tryz.prog 25 0 0 9=true:=by kernel_rfl
theorem fd25_1:fldT Tryz.prog 25 1 1 22=true:=by kernel_rfl
theorem ct22:cellT Tryz.prog 22=true:=by kernel_rfl
theorem sl22:slT Tryz.prog 22 62 4=true:=by kernel_rfl
theorem at62:aggT Tryz.prog 62 4=true:=by kernel_rfl
theorem fd25_2:fldT Tryz.prog 25 2 2 23=true:=by kernel_rfl
theorem ct23:cellT Tryz.prog 23=true:=by kernel_rfl
theorem sl23:slT Tryz.prog 23 65 3=true:=by kernel_rfl
theorem at65:aggT Tryz.prog 65 3=true:=by kernel_rfl
theorem ze65:(Tryz.prog.info? 65).bind (·.zero)=some (.agg #[.string { data:=#[] },.slice none 0 0,.int .i64 0]):=by kernel_rfl
theorem sz65:sizeT Tryz.prog 65 3=true:=by kernel_rfl
theorem fd65_0:fldT Tryz.prog 65 0 0 9=true:=by kernel_rfl
theorem fd65_1:fldT Tryz.prog 65 1 1 63=true:=by kernel_rfl
theorem ct63:cellT Tryz.prog 63=true:=by kernel_rfl
theorem sl63:slT Tryz.prog 63 56 6=true:=by kernel_rfl
theorem at56:aggT Tryz.prog 56 6=true:=by kernel_rfl
theorem fd175_4:fldT Tryz.prog 175 4 8 3=true:=by kernel_rfl
theorem sz3:sizeT Tryz.prog 3 1=true:=by kernel_rfl
theorem fd175_5:fldT Tryz.prog 175 5 9 3=true:=by kernel_rfl
theorem fd175_6:fldT Tryz.prog 175 6 10 9=true:=by kernel_rfl
theorem sz9:sizeT Tryz.prog 9 1=true:=by kernel_rfl
theorem fd175_2:fldT Tryz.prog 175 2 6 35=true:=by kernel_rfl
theorem ct35:cellT Tryz.prog 35=true:=by kernel_rfl
theorem sl35:slT Tryz.prog 35 116 2=true:=by kernel_rfl
theorem fd116_0:fldT Tryz.prog 116 0 0 9=true:=by kernel_rfl
theorem fd175_0:fldT Tryz.prog 175 0 0 38=true:=by kernel_rfl
theorem fd38_0:fldT Tryz.prog 38 0 0 34=true:=by kernel_rfl
theorem ct34:cellT Tryz.prog 34=true:=by kernel_rfl
theorem sl34:slT Tryz.prog 34 148 6=true:=by kernel_rfl
theorem fd148_2:fldT Tryz.prog 148 2 2 3=true:=by kernel_rfl
theorem call89:callT Tryz.prog 89=true:=by kernel_rfl
theorem ze148:(Tryz.prog.info? 148).bind (·.zero)=some (.agg #[.string { data:=#[] },.bool false,.int .i64 0,.int .i64 0,.int .i64 0,.string { data:=#[] }]):=by kernel_rfl
theorem sc148:structT Tryz.prog 148 [(0,1),(1,1),(2,1),(3,1),(4,1),(5,1)]=true:=by kernel_rfl
theorem call116:callT Tryz.prog 116=true:=by kernel_rfl
theorem fd54_3:fldT Tryz.prog 54 3 3 3=true:=by kernel_rfl
theorem call88:callT Tryz.prog 88=true:=by kernel_rfl
theorem zt148:zeroT Tryz.prog 148 6=true:=by kernel_rfl
theorem sz34:sizeT Tryz.prog 34 1=true:=by kernel_rfl
theorem fd175_1:fldT Tryz.prog 175 1 5 71=true:=by kernel_rfl
theorem ct71:cellT Tryz.prog 71=true:=by kernel_rfl
theorem sl71:slT Tryz.prog 71 4 1=true:=by kernel_rfl
theorem call92:callT Tryz.prog 92=true:=by kernel_rfl
theorem ze116:(Tryz.prog.info? 116).bind (·.zero)=some (.agg #[.string { data:=#[] },.string { data:=#[] }]):=by kernel_rfl
theorem sc116:structT Tryz.prog 116 [(0,1),(1,1)]=true:=by kernel_rfl
theorem zt116:zeroT Tryz.prog 116 2=true:=by kernel_rfl
theorem ap35:appT Tryz.prog 35 116 2 32=true:=by kernel_rfl
theorem sz35:sizeT Tryz.prog 35 1=true:=by kernel_rfl
theorem fd116_1:fldT Tryz.prog 116 1 1 9=true:=by kernel_rfl
theorem call115:callT Tryz.prog 115=true:=by kernel_rfl
theorem fd148_3:fldT Tryz.prog 148 3 3 3=true:=by kernel_rfl
theorem fd175_7:fldT Tryz.prog 175 7 11 3=true:=by kernel_rfl
theorem fd148_4:fldT Tryz.prog 148 4 4 3=true:=by kernel_rfl
theorem sz4:sizeT Tryz.prog 4 1=true:=by kernel_rfl
theorem fd148_5:fldT Tryz.prog 148 5 5 9=true:=by kernel_rfl
theorem fd175_3:fldT Tryz.prog 175 3 7 104=true:=by kernel_rfl
theorem ct104:cellT Tryz.prog 104=true:=by kernel_rfl
theorem sl104:slT Tryz.prog 104 9 1=true:=by kernel_rfl
theorem call90:callT Tryz.prog 90=true:=by kernel_rfl
theorem fd56_2:fldT Tryz.prog 56 2 5 3=true:=by kernel_rfl
theorem ze143:(Tryz.prog.info? 143).bind (·.zero)=some (.agg #[.int .i64 0,.slice none 0 0,.int .i64 0,.string { data:=#[] },.slice none 0 0,.int .i64 0]):=by kernel_rfl
theorem sc143:structT Tryz.prog 143 [(0,1),(1,1),(2,1),(3,1),(4,1),(5,1)]=true:=by kernel_rfl
theorem sz143:sizeT Tryz.prog 143 6=true:=by kernel_rfl
theorem fd143_1:fldT Tryz.prog 143 1 1 27=true:=by kernel_rfl
theorem ct27:cellT Tryz.prog 27=true:=by kernel_rfl
theorem call117:callT Tryz.prog 117=true:=by kernel_rfl
theorem zt3:zeroT Tryz.prog 3 1=true:=by kernel_rfl
theorem sl27:slT Tryz.prog 27 3 1=true:=by kernel_rfl
theorem ap27:appT Tryz.prog 27 3 1 8=true:=by kernel_rfl
theorem sz27:sizeT Tryz.prog 27 1=true:=by kernel_rfl
theorem fd59_2:fldT Tryz.prog 59 2 5 3=true:=by kernel_rfl
theorem fd143_3:fldT Tryz.prog 143 3 3 9=true:=by kernel_rfl
theorem fd143_5:fldT Tryz.prog 143 5 5 3=true:=by kernel_rfl
theorem fd175_8:fldT Tryz.prog 175 8 12 3=true:=by kernel_rfl
theorem fd38_2:fldT Tryz.prog 38 2 2 36=true:=by kernel_rfl
theorem ct36:cellT Tryz.prog 36=true:=by kernel_rfl
theorem zt143:zeroT Tryz.prog 143 6=true:=by kernel_rfl
theorem sl36:slT Tryz.prog 36 143 6=true:=by kernel_rfl
theorem ap36:appT Tryz.prog 36 143 6 88=true:=by kernel_rfl
theorem sz36:sizeT Tryz.prog 36 1=true:=by kernel_rfl
theorem fd143_2:fldT Tryz.prog 143 2 2 3=true:=by kernel_rfl
theorem fd143_4:fldT Tryz.prog 143 4 4 27=true:=by kernel_rfl
theorem at143:aggT Tryz.prog 143 6=true:=by kernel_rfl
theorem ze38:(Tryz.prog.info? 38).bind (·.zero)=some (.agg #[.slice none 0 0,.slice none 0 0,.slice none 0 0,.string { data:=#[] },.string { data:=#[] }]):=by kernel_rfl
theorem at25:aggT Tryz.prog 25 4=true:=by kernel_rfl
theorem call86:callT Tryz.prog 86=true:=by kernel_rfl
theorem sc38:structT Tryz.prog 38 [(0,1),(1,1),(2,1),(3,1),(4,1)]=true:=by kernel_rfl
theorem sz38:sizeT Tryz.prog 38 5=true:=by kernel_rfl
theorem at38:aggT Tryz.prog 38 5=true:=by kernel_rfl
theorem ze4:(Tryz.prog.info? 4).bind (·.zero)=some (.bool false):=by kernel_rfl
theorem bb4:(Tryz.prog.info? 4).map (·.bytes)=some 1:=by kernel_rfl
theorem ze175:(Tryz.prog.info? 175).bind (·.zero)=some (.agg #[.slice none 0 0,.slice none 0 0,.slice none 0 0,.string { data:=#[] },.string { data:=#[] },.slice none 0 0,.slice none 0 0,.slice none 0 0,.int .i64 0,.int .i64 0,.string { data:=#[] },.int .i64 0,.int .i64 0]):=by kernel_rfl
theorem sc175:structT Tryz.prog 175 [(0,5),(5,1),(6,1),(7,1),(8,1),(9,1),(10,1),(11,1),(12,1)]=true:=by kernel_rfl
theorem ze62:(Tryz.prog.info? 62).bind (·.zero)=some (.agg #[.int .i64 0,.string { data:=#[] },.slice none 0 0,.int .i64 0]):=by kernel_rfl
theorem sz62:sizeT Tryz.prog 62 4=true:=by kernel_rfl
theorem call87:callT Tryz.prog 87=true:=by kernel_rfl
theorem ze54:(Tryz.prog.info? 54).bind (·.zero)=some (.agg #[.string { data:=#[] },.bool false,.int .i64 0,.int .i64 0]):=by kernel_rfl
theorem sc54:structT Tryz.prog 54 [(0,1),(1,1),(2,1),(3,1)]=true:=by kernel_rfl
theorem fd65_2:fldT Tryz.prog 65 2 2 3=true:=by kernel_rfl
theorem zt9:zeroT Tryz.prog 9 1=true:=by kernel_rfl
theorem ap104:appT Tryz.prog 104 9 1 16=true:=by kernel_rfl
theorem sz104:sizeT Tryz.prog 104 1=true:=by kernel_rfl
theorem sz54:sizeT Tryz.prog 54 4=true:=by kernel_rfl
theorem call91:callT Tryz.prog 91=true:=by kernel_rfl
theorem fd38_1:fldT Tryz.prog 38 1 1 35=true:=by kernel_rfl
theorem sz116:sizeT Tryz.prog 116 2=true:=by kernel_rfl
theorem at116:aggT Tryz.prog 116 2=true:=by kernel_rfl
theorem call13:callT Tryz.prog 13=true:=by kernel_rfl
theorem fd25_3:fldT Tryz.prog 25 3 3 9=true:=by kernel_rfl
theorem fd38_3:fldT Tryz.prog 38 3 3 9=true:=by kernel_rfl
theorem fd38_4:fldT Tryz.prog 38 4 4 9=true:=by kernel_rfl
theorem sl97:slT Tryz.prog 97 112 2=true:=by kernel_rfl
theorem at112:aggT Tryz.prog 112 2=true:=by kernel_rfl
theorem zt112:zeroT Tryz.prog 112 2=true:=by kernel_rfl
theorem ap97:appT Tryz.prog 97 112 2 16=true:=by kernel_rfl
theorem call58:callT Tryz.prog 58=true:=by kernel_rfl
theorem fd143_0:fldT Tryz.prog 143 0 0 3=true:=by kernel_rfl
theorem ze112:(Tryz.prog.info? 112).bind (·.zero)=some (.agg #[.int .i64 0,.int .i64 0]):=by kernel_rfl
theorem sc112:structT Tryz.prog 112 [(0,1),(1,1)]=true:=by kernel_rfl
theorem call32:callT Tryz.prog 32=true:=by kernel_rfl
theorem sl39:slT Tryz.prog 39 100 2=true:=by kernel_rfl
theorem fd100_0:fldT Tryz.prog 100 0 0 97=true:=by kernel_rfl
theorem ct97:cellT Tryz.prog 97=true:=by kernel_rfl
theorem ze100:(Tryz.prog.info? 100).bind (·.zero)=some (.agg #[.slice none 0 0,.slice none 0 0]):=by kernel_rfl
theorem sc100:structT Tryz.prog 100 [(0,1),(1,1)]=true:=by kernel_rfl
theorem zt100:zeroT Tryz.prog 100 2=true:=by kernel_rfl
theorem call64:callT Tryz.prog 64=true:=by kernel_rfl
theorem call42:callT Tryz.prog 42=true:=by kernel_rfl
theorem call41:callT Tryz.prog 41=true:=by kernel_rfl
theorem call65:callT Tryz.prog 65=true:=by kernel_rfl
theorem call66:callT Tryz.prog 66=true:=by kernel_rfl
theorem ap39:appT Tryz.prog 39 100 2 48=true:=by kernel_rfl
theorem fd100_1:fldT Tryz.prog 100 1 1 98=true:=by kernel_rfl
theorem ct98:cellT Tryz.prog 98=true:=by kernel_rfl
theorem ze132:(Tryz.prog.info? 132).bind (·.zero)=some (.agg #[.int .i64 0,.int .i64 0]):=by kernel_rfl
theorem sc132:structT Tryz.prog 132 [(0,1),(1,1)]=true:=by kernel_rfl
theorem zt132:zeroT Tryz.prog 132 2=true:=by kernel_rfl
theorem sl98:slT Tryz.prog 98 132 2=true:=by kernel_rfl
theorem ap98:appT Tryz.prog 98 132 2 16=true:=by kernel_rfl
theorem sz98:sizeT Tryz.prog 98 1=true:=by kernel_rfl
theorem fd132_0:fldT Tryz.prog 132 0 0 3=true:=by kernel_rfl
theorem fd132_1:fldT Tryz.prog 132 1 1 3=true:=by kernel_rfl
theorem fd81_4:fldT Tryz.prog 81 4 4 27=true:=by kernel_rfl
theorem ze81:(Tryz.prog.info? 81).bind (·.zero)=some (.agg #[.int .i64 0,.int .i64 0,.int .i64 0,.bool false,.slice none 0 0]):=by kernel_rfl
theorem sz81:sizeT Tryz.prog 81 5=true:=by kernel_rfl
theorem sz112:sizeT Tryz.prog 112 2=true:=by kernel_rfl
theorem at81:aggT Tryz.prog 81 5=true:=by kernel_rfl
theorem sl40:slT Tryz.prog 40 81 5=true:=by kernel_rfl
theorem sl26:slT Tryz.prog 26 27 1=true:=by kernel_rfl
theorem zt27:zeroT Tryz.prog 27 1=true:=by kernel_rfl
theorem ap26:appT Tryz.prog 26 27 1 24=true:=by kernel_rfl
theorem call68:callT Tryz.prog 68=true:=by kernel_rfl
theorem call69:callT Tryz.prog 69=true:=by kernel_rfl
theorem call67:callT Tryz.prog 67=true:=by kernel_rfl
theorem call70:callT Tryz.prog 70=true:=by kernel_rfl
theorem call21:callT Tryz.prog 21=true:=by kernel_rfl
theorem call23:callT Tryz.prog 23=true:=by kernel_rfl
theorem call22:callT Tryz.prog 22=true:=by kernel_rfl
theorem call99:callT Tryz.prog 99=true:=by kernel_rfl
theorem it162:intT Tryz.prog 162 .u64=true:=by kernel_rfl
theorem call73:callT Tryz.prog 73=true:=by kernel_rfl
theorem ze3:(Tryz.prog.info? 3).bind (·.zero)=some (.int .i64 0):=by kernel_rfl
theorem bb3:(Tryz.prog.info? 3).map (·.bytes)=some 8:=by kernel_rfl
theorem ze45:(Tryz.prog.info? 45).bind (·.zero)=some (.agg #[.slice none 0 0,.slice none 0 0]):=by kernel_rfl
theorem at100:aggT Tryz.prog 100 2=true:=by kernel_rfl
theorem sz100:sizeT Tryz.prog 100 2=true:=by kernel_rfl
theorem call47:callT Tryz.prog 47=true:=by kernel_rfl
theorem at132:aggT Tryz.prog 132 2=true:=by kernel_rfl
theorem sz132:sizeT Tryz.prog 132 2=true:=by kernel_rfl
theorem fd45_1:fldT Tryz.prog 45 1 1 26=true:=by kernel_rfl
theorem ct26:cellT Tryz.prog 26=true:=by kernel_rfl
theorem sz26:sizeT Tryz.prog 26 1=true:=by kernel_rfl
theorem fd45_0:fldT Tryz.prog 45 0 0 43=true:=by kernel_rfl
theorem ct43:cellT Tryz.prog 43=true:=by kernel_rfl
theorem ze83:(Tryz.prog.info? 83).bind (·.zero)=some (.agg #[.int .i64 0,.int .i64 0]):=by kernel_rfl
theorem sl86:slT Tryz.prog 86 83 2=true:=by kernel_rfl
theorem bb83:(Tryz.prog.info? 83).map (·.bytes)=some 16:=by kernel_rfl
theorem zt86:zeroT Tryz.prog 86 1=true:=by kernel_rfl
theorem sl43:slT Tryz.prog 43 86 1=true:=by kernel_rfl
theorem ap43:appT Tryz.prog 43 86 1 24=true:=by kernel_rfl
theorem sz43:sizeT Tryz.prog 43 1=true:=by kernel_rfl
theorem at45:aggT Tryz.prog 45 2=true:=by kernel_rfl
theorem sz45:sizeT Tryz.prog 45 2=true:=by kernel_rfl
theorem sz83:sizeT Tryz.prog 83 2=true:=by kernel_rfl
theorem at83:aggT Tryz.prog 83 2=true:=by kernel_rfl
theorem call26:callT Tryz.prog 26=true:=by kernel_rfl
theorem fd81_1:fldT Tryz.prog 81 1 1 3=true:=by kernel_rfl
theorem call24:callT Tryz.prog 24=true:=by kernel_rfl
theorem call25:callT Tryz.prog 25=true:=by kernel_rfl
theorem fd81_0:fldT Tryz.prog 81 0 0 3=true:=by kernel_rfl
theorem ct86:cellT Tryz.prog 86=true:=by kernel_rfl
theorem ze89:(Tryz.prog.info? 89).bind (·.zero)=some (.agg #[.int .i64 0,.int .i64 0,.int .i64 0,.int .i64 0]):=by kernel_rfl
theorem sc89:structT Tryz.prog 89 [(0,1),(1,1),(2,1),(3,1)]=true:=by kernel_rfl
theorem zt89:zeroT Tryz.prog 89 4=true:=by kernel_rfl
theorem sl46:slT Tryz.prog 46 89 4=true:=by kernel_rfl
theorem ap46:appT Tryz.prog 46 89 4 32=true:=by kernel_rfl
theorem call77:callT Tryz.prog 77=true:=by kernel_rfl
theorem call78:callT Tryz.prog 78=true:=by kernel_rfl
theorem call79:callT Tryz.prog 79=true:=by kernel_rfl
theorem call80:callT Tryz.prog 80=true:=by kernel_rfl
theorem call81:callT Tryz.prog 81=true:=by kernel_rfl
theorem ext143 (s:ByteArray) (c:Int) (w:World):(callFunc 143 [Value.string s,.int .u8 c].toArray).run Tryz.prog w=.ok (.value (.int .i64 (firstIdx s c.toNat.toUInt8))) w:=by
 have hn:Extern.findNext Tryz.f143=none:=by kernel_rfl
 have he:Extern.find Tryz.f143=some Extern.BytealgIndexByte.indexByte:=by kernel_rfl
 rw [run_callFunc_extern Tryz.func143 rfl rfl hn he]
 have:=run_indexByte_string (P:=Tryz.prog) s c w
 simp [this]
theorem call53:callT Tryz.prog 53=true:=by kernel_rfl
theorem call29:callT Tryz.prog 29=true:=by kernel_rfl
theorem at89:aggT Tryz.prog 89 4=true:=by kernel_rfl
theorem sz89:sizeT Tryz.prog 89 4=true:=by kernel_rfl
theorem ze94:(Tryz.prog.info? 94).bind (·.zero)=some (.agg #[.pointer none,.slice none 0 0]):=by kernel_rfl
theorem call56:callT Tryz.prog 56=true:=by kernel_rfl
theorem call49:callT Tryz.prog 49=true:=by kernel_rfl
theorem call30:callT Tryz.prog 30=true:=by kernel_rfl
theorem fd96_1:fldT Tryz.prog 96 1 5 94=true:=by kernel_rfl
theorem li96_5:liesAt Tryz.prog Tryz.prog.depth 96 (7 / Tryz.prog.cellsOf 96) 5 94 1=true:=by kernel_rfl
theorem fd96_0:fldT Tryz.prog 96 0 0 38=true:=by kernel_rfl
theorem call50:callT Tryz.prog 50=true:=by kernel_rfl
theorem call52:callT Tryz.prog 52=true:=by kernel_rfl
theorem call51:callT Tryz.prog 51=true:=by kernel_rfl
theorem fd89_0:fldT Tryz.prog 89 0 0 3=true:=by kernel_rfl
theorem fd89_1:fldT Tryz.prog 89 1 1 3=true:=by kernel_rfl
theorem fd89_3:fldT Tryz.prog 89 3 3 3=true:=by kernel_rfl
theorem call54:callT Tryz.prog 54=true:=by kernel_rfl
theorem ze96:(Tryz.prog.info? 96).bind (·.zero)=some (.agg #[.slice none 0 0,.slice none 0 0,.slice none 0 0,.string { data:=#[] },.string { data:=#[] },.pointer none,.slice none 0 0]):=by kernel_rfl
theorem sc96:structT Tryz.prog 96 [(0,5),(5,2)]=true:=by kernel_rfl
theorem call27:callT Tryz.prog 27=true:=by kernel_rfl
theorem call28:callT Tryz.prog 28=true:=by kernel_rfl
theorem ze105:(Tryz.prog.info? 105).bind (·.zero)=some (.agg #[.int .i64 0,.string { data:=#[] }]):=by kernel_rfl
theorem sc105:structT Tryz.prog 105 [(0,1),(1,1)]=true:=by kernel_rfl
theorem zt105:zeroT Tryz.prog 105 2=true:=by kernel_rfl
theorem sl106:slT Tryz.prog 106 105 2=true:=by kernel_rfl
theorem at105:aggT Tryz.prog 105 2=true:=by kernel_rfl
theorem sz105:sizeT Tryz.prog 105 2=true:=by kernel_rfl
theorem fd105_0:fldT Tryz.prog 105 0 0 3=true:=by kernel_rfl
theorem fd105_1:fldT Tryz.prog 105 1 1 9=true:=by kernel_rfl
theorem call31:callT Tryz.prog 31=true:=by kernel_rfl
theorem sc59:structT Tryz.prog 59 [(0,4),(4,1),(5,1)]=true:=by kernel_rfl
theorem zt59:zeroT Tryz.prog 59 6=true:=by kernel_rfl
theorem ze56:(Tryz.prog.info? 56).bind (·.zero)=some (.agg #[.slice none 0 0,.string { data:=#[] },.bool false,.int .i64 0,.int .i64 0,.int .i64 0]):=by kernel_rfl
theorem sc56:structT Tryz.prog 56 [(0,1),(1,4),(5,1)]=true:=by kernel_rfl
theorem zt56:zeroT Tryz.prog 56 6=true:=by kernel_rfl
theorem sc65:structT Tryz.prog 65 [(0,1),(1,1),(2,1)]=true:=by kernel_rfl
theorem zt65:zeroT Tryz.prog 65 3=true:=by kernel_rfl
theorem ze25:(Tryz.prog.info? 25).bind (·.zero)=some (.agg #[.string { data:=#[] },.slice none 0 0,.slice none 0 0,.string { data:=#[] }]):=by kernel_rfl
theorem sc25:structT Tryz.prog 25 [(0,1),(1,1),(2,1),(3,1)]=true:=by kernel_rfl
theorem call8:callT Tryz.prog 8=true:=by kernel_rfl
theorem call9:callT Tryz.prog 9=true:=by kernel_rfl
theorem call10:callT Tryz.prog 10=true:=by kernel_rfl
theorem zt54:zeroT Tryz.prog 54 4=true:=by kernel_rfl
theorem ap60:appT Tryz.prog 60 54 4 40=true:=by kernel_rfl
theorem sz60:sizeT Tryz.prog 60 1=true:=by kernel_rfl
theorem zt62:zeroT Tryz.prog 62 4=true:=by kernel_rfl
theorem ap52:appT Tryz.prog 52 59 6 64=true:=by kernel_rfl
theorem sz52:sizeT Tryz.prog 52 1=true:=by kernel_rfl
theorem call12:callT Tryz.prog 12=true:=by kernel_rfl
theorem call5:callT Tryz.prog 5=true:=by kernel_rfl
theorem call14:callT Tryz.prog 14=true:=by kernel_rfl
theorem sort79 {g:FuncId}{caps:List AV} [NRl caps] (hg:callT Tryz.prog g=true) {l r:List Item}{cf:Item->Item->Option Int}(h:sortO cf l=some r) (hc:∀ a b v,cf a b=some v->Con Tryz.prog g (.agg (eItem.cells a)::.agg (eItem.cells b)::caps) (none::none::caps.map fun _=>none) (I64 v)):Con Tryz.prog 79 [oR eItem l,.clo (.func g) [] caps] [some (oR eItem r),none] (.tup []):=Con.sortS (e:=eItem) Tryz.sortS79 Tryz.isAgg112 Tryz.sizeOf112 hg h hc
theorem eqv_Item (x y:Item):eqVs [Value.int .i64 x.Prod,Value.int .i64 x.Dot] [Value.int .i64 y.Prod,Value.int .i64 y.Dot]=decide (x=y):=by
 obtain ⟨x1,x2⟩:=x
 obtain ⟨y1,y2⟩:=y
 simp [eqVs,eqV]
theorem eqt81:eqAT Tryz.prog 112 [.i .i64,.i .i64]=true:=by kernel_rfl
theorem comp81 {l r:List Item}(h:compO l=some r):Con Tryz.prog 81 [oR eItem l] [none] (oR eItem r):=by
 refine Con.compS (e:=eItem) (f:=81) ?_ (fun w p cap=>compN81 w p cap) h
 intro w b cap d hp hH hb hc hbig
 have heq:∀ (x y:Item) (w:World),Sem.run Tryz.prog (binOp .eql 112 (.agg #[Value.int .i64 x.Prod,Value.int .i64 x.Dot]) (.agg #[Value.int .i64 y.Prod,Value.int .i64 y.Dot])) w=.ok (.bool (decide (x=y))) w:=fun x y w=>by
  rw [<- eqv_Item]
  exact Two.eqA (xs:=[Value.int .i64 x.Prod,Value.int .i64 x.Dot]) (bs:=[Value.int .i64 y.Prod,Value.int .i64 y.Dot]) (sh:=[.i .i64,.i .i64]) rfl rfl eqt81 w
 have hne:∀ (x y:Item) (w:World),Sem.run Tryz.prog (binOp .neq 112 (.agg #[Value.int .i64 x.Prod,Value.int .i64 x.Dot]) (.agg #[Value.int .i64 y.Prod,Value.int .i64 y.Dot])) w=.ok (.bool (!decide (x=y))) w:=fun x y w=>by
  rw [<- eqv_Item]
  exact Two.neA (xs:=[Value.int .i64 x.Prod,Value.int .i64 x.Dot]) (bs:=[Value.int .i64 y.Prod,Value.int .i64 y.Dot]) (sh:=[.i .i64,.i .i64]) rfl rfl eqt81 w
 have hgd:∀ (op:BinOp) (p q:Operand) (x y:Item) (w:World),Sem.run Tryz.prog (eqGuard op 112 p q (.agg #[Value.int .i64 x.Prod,Value.int .i64 x.Dot]) (.agg #[Value.int .i64 y.Prod,Value.int .i64 y.Dot])) w=.ok () w:=fun op p q x y w=>Two.gdA (sh:=[.i .i64,.i .i64]) eqt81 op p q _ _ w
 exact compS81 (fun x:Item=>Value.int .i64 x.Prod) (fun x:Item=>Value.int .i64 x.Dot) (Two.one _) (Two.one _) heq hne hgd rfl w b cap d hp hH hb hc hbig
instance:F9 Tryz.prog 3 .i64:={}
instance:F9 Tryz.prog 117 .u64:={}
instance:F9 Tryz.prog 5 .u8:={}
instance:F3 Tryz.prog 92 5 1:={}
instance:F2 Tryz.prog 9:={}
instance:F4 Tryz.prog 54 1 1 4:={}
instance:F1 Tryz.prog 4:={}
instance:F4 Tryz.prog 54 0 0 9:={}
instance:F1 Tryz.prog 9:={}
instance:F4 Tryz.prog 54 2 2 3:={}
instance:F1 Tryz.prog 3:={}
instance:F4 Tryz.prog 62 0 0 3:={}
instance:F4 Tryz.prog 62 2 2 60:={}
instance:F1 Tryz.prog 60:={}
instance:F3 Tryz.prog 60 54 4:={}
instance:F4 Tryz.prog 62 1 1 9:={}
instance:F5 Tryz.prog 54 4:={}
instance:F0 Tryz.prog:={}
instance:F4 Tryz.prog 56 0 0 52:={}
instance:F1 Tryz.prog 52:={}
instance:F3 Tryz.prog 52 59 6:={}
instance:F5 Tryz.prog 59 6:={}
instance:F6 Tryz.prog 59 (.agg #[.string { data:=#[] },.bool false,.int .i64 0,.int .i64 0,.string { data:=#[] },.int .i64 0]):={}
instance:F4 Tryz.prog 59 1 4 9:={}
instance:F4 Tryz.prog 59 0 0 54:={}
instance:F4 Tryz.prog 56 1 1 54:={}
instance:F4 Tryz.prog 25 0 0 9:={}
instance:F4 Tryz.prog 25 1 1 22:={}
instance:F1 Tryz.prog 22:={}
instance:F3 Tryz.prog 22 62 4:={}
instance:F5 Tryz.prog 62 4:={}
instance:F4 Tryz.prog 25 2 2 23:={}
instance:F1 Tryz.prog 23:={}
instance:F3 Tryz.prog 23 65 3:={}
instance:F5 Tryz.prog 65 3:={}
instance:F6 Tryz.prog 65 (.agg #[.string { data:=#[] },.slice none 0 0,.int .i64 0]):={}
instance:F4 Tryz.prog 65 0 0 9:={}
instance:F4 Tryz.prog 65 1 1 63:={}
instance:F1 Tryz.prog 63:={}
instance:F3 Tryz.prog 63 56 6:={}
instance:F5 Tryz.prog 56 6:={}
instance:F4 Tryz.prog 175 4 8 3:={}
instance:F4 Tryz.prog 175 5 9 3:={}
instance:F4 Tryz.prog 175 6 10 9:={}
instance:F4 Tryz.prog 175 2 6 35:={}
instance:F1 Tryz.prog 35:={}
instance:F3 Tryz.prog 35 116 2:={}
instance:F4 Tryz.prog 116 0 0 9:={}
instance:F4 Tryz.prog 175 0 0 38:={}
instance:F4 Tryz.prog 38 0 0 34:={}
instance:F1 Tryz.prog 34:={}
instance:F3 Tryz.prog 34 148 6:={}
instance:F4 Tryz.prog 148 0 0 9:={}
instance:F4 Tryz.prog 148 1 1 4:={}
instance:F4 Tryz.prog 148 2 2 3:={}
instance:F6 Tryz.prog 148 (.agg #[.string { data:=#[] },.bool false,.int .i64 0,.int .i64 0,.int .i64 0,.string { data:=#[] }]):={}
instance:F7 Tryz.prog 148 [(0,1),(1,1),(2,1),(3,1),(4,1),(5,1)]:={}
instance:F4 Tryz.prog 54 3 3 3:={}
instance:F5 Tryz.prog 148 6:={}
instance:F8 Tryz.prog 34 148 6 64:={}
instance:F4 Tryz.prog 175 1 5 71:={}
instance:F1 Tryz.prog 71:={}
instance:F3 Tryz.prog 71 4 1:={}
instance:F8 Tryz.prog 71 4 1 1:={}
instance:F6 Tryz.prog 116 (.agg #[.string { data:=#[] },.string { data:=#[] }]):={}
instance:F7 Tryz.prog 116 [(0,1),(1,1)]:={}
instance:F8 Tryz.prog 35 116 2 32:={}
instance:F4 Tryz.prog 116 1 1 9:={}
instance:F4 Tryz.prog 148 3 3 3:={}
instance:F4 Tryz.prog 175 7 11 3:={}
instance:F4 Tryz.prog 148 4 4 3:={}
instance:F4 Tryz.prog 148 5 5 9:={}
instance:F4 Tryz.prog 175 3 7 104:={}
instance:F1 Tryz.prog 104:={}
instance:F3 Tryz.prog 104 9 1:={}
instance:F4 Tryz.prog 56 2 5 3:={}
instance:F6 Tryz.prog 143 (.agg #[.int .i64 0,.slice none 0 0,.int .i64 0,.string { data:=#[] },.slice none 0 0,.int .i64 0]):={}
instance:F7 Tryz.prog 143 [(0,1),(1,1),(2,1),(3,1),(4,1),(5,1)]:={}
instance:F4 Tryz.prog 143 1 1 27:={}
instance:F1 Tryz.prog 27:={}
instance:F3 Tryz.prog 27 3 1:={}
instance:F8 Tryz.prog 27 3 1 8:={}
instance:F4 Tryz.prog 59 2 5 3:={}
instance:F4 Tryz.prog 143 3 3 9:={}
instance:F4 Tryz.prog 143 5 5 3:={}
instance:F4 Tryz.prog 175 8 12 3:={}
instance:F4 Tryz.prog 38 2 2 36:={}
instance:F1 Tryz.prog 36:={}
instance:F3 Tryz.prog 36 143 6:={}
instance:F8 Tryz.prog 36 143 6 88:={}
instance:F4 Tryz.prog 143 2 2 3:={}
instance:F4 Tryz.prog 143 4 4 27:={}
instance:F5 Tryz.prog 143 6:={}
instance:F6 Tryz.prog 38 (.agg #[.slice none 0 0,.slice none 0 0,.slice none 0 0,.string { data:=#[] },.string { data:=#[] }]):={}
instance:F5 Tryz.prog 25 4:={}
instance:F7 Tryz.prog 38 [(0,1),(1,1),(2,1),(3,1),(4,1)]:={}
instance:F5 Tryz.prog 38 5:={}
instance:F6 Tryz.prog 4 (.bool false):={}
instance:Fb Tryz.prog 4 1:={}
instance:F6 Tryz.prog 175 (.agg #[.slice none 0 0,.slice none 0 0,.slice none 0 0,.string { data:=#[] },.string { data:=#[] },.slice none 0 0,.slice none 0 0,.slice none 0 0,.int .i64 0,.int .i64 0,.string { data:=#[] },.int .i64 0,.int .i64 0]):={}
instance:F7 Tryz.prog 175 [(0,5),(5,1),(6,1),(7,1),(8,1),(9,1),(10,1),(11,1),(12,1)]:={}
instance:F6 Tryz.prog 62 (.agg #[.int .i64 0,.string { data:=#[] },.slice none 0 0,.int .i64 0]):={}
instance:F6 Tryz.prog 54 (.agg #[.string { data:=#[] },.bool false,.int .i64 0,.int .i64 0]):={}
instance:F7 Tryz.prog 54 [(0,1),(1,1),(2,1),(3,1)]:={}
instance:F4 Tryz.prog 65 2 2 3:={}
instance:F8 Tryz.prog 104 9 1 16:={}
instance:F4 Tryz.prog 38 1 1 35:={}
instance:F5 Tryz.prog 116 2:={}
instance:F4 Tryz.prog 25 3 3 9:={}
instance:F4 Tryz.prog 38 3 3 9:={}
instance:F4 Tryz.prog 38 4 4 9:={}
instance:F3 Tryz.prog 97 112 2:={}
instance:F4 Tryz.prog 112 0 0 3:={}
instance:F4 Tryz.prog 112 1 1 3:={}
instance:F5 Tryz.prog 112 2:={}
instance:F8 Tryz.prog 97 112 2 16:={}
instance:F4 Tryz.prog 143 0 0 3:={}
instance:F6 Tryz.prog 112 (.agg #[.int .i64 0,.int .i64 0]):={}
instance:F7 Tryz.prog 112 [(0,1),(1,1)]:={}
instance:F3 Tryz.prog 39 100 2:={}
instance:F4 Tryz.prog 100 0 0 97:={}
instance:F1 Tryz.prog 97:={}
instance:F6 Tryz.prog 100 (.agg #[.slice none 0 0,.slice none 0 0]):={}
instance:F7 Tryz.prog 100 [(0,1),(1,1)]:={}
instance:F8 Tryz.prog 39 100 2 48:={}
instance:F4 Tryz.prog 100 1 1 98:={}
instance:F1 Tryz.prog 98:={}
instance:F6 Tryz.prog 132 (.agg #[.int .i64 0,.int .i64 0]):={}
instance:F7 Tryz.prog 132 [(0,1),(1,1)]:={}
instance:F3 Tryz.prog 98 132 2:={}
instance:F8 Tryz.prog 98 132 2 16:={}
instance:F4 Tryz.prog 132 0 0 3:={}
instance:F4 Tryz.prog 132 1 1 3:={}
instance:F4 Tryz.prog 81 4 4 27:={}
instance:F4 Tryz.prog 81 2 2 3:={}
instance:F4 Tryz.prog 81 3 3 4:={}
instance:F6 Tryz.prog 81 (.agg #[.int .i64 0,.int .i64 0,.int .i64 0,.bool false,.slice none 0 0]):={}
instance:F7 Tryz.prog 81 [(0,1),(1,1),(2,1),(3,1),(4,1)]:={}
instance:F3 Tryz.prog 77 124 3:={}
instance:F4 Tryz.prog 124 0 0 3:={}
instance:F4 Tryz.prog 124 2 2 27:={}
instance:F4 Tryz.prog 124 1 1 3:={}
instance:F5 Tryz.prog 81 5:={}
instance:F3 Tryz.prog 40 81 5:={}
instance:F8 Tryz.prog 40 81 5 56:={}
instance:F3 Tryz.prog 26 27 1:={}
instance:F6 Tryz.prog 160 (.agg #[.int .i64 0,.int .i64 0]):={}
instance:F7 Tryz.prog 160 [(0,1),(1,1)]:={}
instance:F3 Tryz.prog 157 160 2:={}
instance:F8 Tryz.prog 157 160 2 16:={}
instance:F4 Tryz.prog 160 0 0 3:={}
instance:F4 Tryz.prog 160 1 1 3:={}
instance:F8 Tryz.prog 26 27 1 24:={}
instance:F6 Tryz.prog 27 (.slice none 0 0):={}
instance:Fb Tryz.prog 27 24:={}
instance:F6 Tryz.prog 124 (.agg #[.int .i64 0,.int .i64 0,.slice none 0 0]):={}
instance:F7 Tryz.prog 124 [(0,1),(1,1),(2,1)]:={}
instance:F5 Tryz.prog 124 3:={}
instance:F8 Tryz.prog 77 124 3 40:={}
instance:F9 Tryz.prog 186 .u32:={}
instance:F9 Tryz.prog 162 .u64:={}
instance:F6 Tryz.prog 3 (.int .i64 0):={}
instance:Fb Tryz.prog 3 8:={}
instance:F6 Tryz.prog 45 (.agg #[.slice none 0 0,.slice none 0 0]):={}
instance:F5 Tryz.prog 100 2:={}
instance:F5 Tryz.prog 132 2:={}
instance:F4 Tryz.prog 45 1 1 26:={}
instance:F1 Tryz.prog 26:={}
instance:F4 Tryz.prog 45 0 0 43:={}
instance:F1 Tryz.prog 43:={}
instance:F6 Tryz.prog 83 (.agg #[.int .i64 0,.int .i64 0]):={}
instance:F3 Tryz.prog 86 83 2:={}
instance:Fb Tryz.prog 83 16:={}
instance:F3 Tryz.prog 43 86 1:={}
instance:F8 Tryz.prog 43 86 1 24:={}
instance:F5 Tryz.prog 45 2:={}
instance:F7 Tryz.prog 83 [(0,1),(1,1)]:={}
instance:F5 Tryz.prog 83 2:={}
instance:F4 Tryz.prog 81 1 1 3:={}
instance:F4 Tryz.prog 81 0 0 3:={}
instance:F1 Tryz.prog 86:={}
instance:F6 Tryz.prog 89 (.agg #[.int .i64 0,.int .i64 0,.int .i64 0,.int .i64 0]):={}
instance:F7 Tryz.prog 89 [(0,1),(1,1),(2,1),(3,1)]:={}
instance:F3 Tryz.prog 46 89 4:={}
instance:F8 Tryz.prog 46 89 4 32:={}
instance:F4 Tryz.prog 83 0 0 3:={}
instance:F4 Tryz.prog 83 1 1 3:={}
instance:F5 Tryz.prog 89 4:={}
instance:F4 Tryz.prog 89 2 2 3:={}
instance:F6 Tryz.prog 94 (.agg #[.pointer none,.slice none 0 0]):={}
instance:F4 Tryz.prog 96 1 5 94:={}
instance:F4 Tryz.prog 96 0 0 38:={}
instance:F4 Tryz.prog 89 0 0 3:={}
instance:F4 Tryz.prog 89 1 1 3:={}
instance:F4 Tryz.prog 89 3 3 3:={}
instance:F6 Tryz.prog 96 (.agg #[.slice none 0 0,.slice none 0 0,.slice none 0 0,.string { data:=#[] },.string { data:=#[] },.pointer none,.slice none 0 0]):={}
instance:F7 Tryz.prog 96 [(0,5),(5,2)]:={}
instance:F6 Tryz.prog 105 (.agg #[.int .i64 0,.string { data:=#[] }]):={}
instance:F7 Tryz.prog 105 [(0,1),(1,1)]:={}
instance:F3 Tryz.prog 106 105 2:={}
instance:F5 Tryz.prog 105 2:={}
instance:F4 Tryz.prog 105 0 0 3:={}
instance:F4 Tryz.prog 105 1 1 9:={}
instance:F7 Tryz.prog 59 [(0,4),(4,1),(5,1)]:={}
instance:F6 Tryz.prog 56 (.agg #[.slice none 0 0,.string { data:=#[] },.bool false,.int .i64 0,.int .i64 0,.int .i64 0]):={}
instance:F7 Tryz.prog 56 [(0,1),(1,4),(5,1)]:={}
instance:F7 Tryz.prog 65 [(0,1),(1,1),(2,1)]:={}
instance:F6 Tryz.prog 25 (.agg #[.string { data:=#[] },.slice none 0 0,.slice none 0 0,.string { data:=#[] }]):={}
instance:F7 Tryz.prog 25 [(0,1),(1,1),(2,1),(3,1)]:={}
instance:F4 Tryz.prog 62 3 3 3:={}
instance:F7 Tryz.prog 62 [(0,1),(1,1),(2,1),(3,1)]:={}
instance:F8 Tryz.prog 60 54 4 40:={}
instance:F8 Tryz.prog 22 62 4 56:={}
instance:F8 Tryz.prog 52 59 6 64:={}
instance:F8 Tryz.prog 63 56 6 72:={}
instance:F8 Tryz.prog 23 65 3 48:={}
instance:F4 Tryz.prog 29 0 0 3:={}
instance:F4 Tryz.prog 29 2 2 27:={}
instance:F4 Tryz.prog 29 1 1 26:={}
instance:F4 Tryz.prog 29 3 3 27:={}
instance:F4 Tryz.prog 29 4 4 4:={}
instance:F5 Tryz.prog 29 5:={}
instance:F3 Tryz.prog 33 25 4:={}
instance:ET Tryz.prog 22 Decl eDecl_0:={}
instance:ET Tryz.prog 23 Rule eRule_0:={}
instance:ET Tryz.prog 26 (List Int) (eM eI):={}
instance:ET Tryz.prog 27 Int eI:={}
instance:ET Tryz.prog 33 Source eSource_0:={}
instance:ET Tryz.prog 34 Tok eTok:={}
instance:ET Tryz.prog 35 Non eNon:={}
instance:ET Tryz.prog 36 Prod eProd_0:={}
instance:ET Tryz.prog 40 Cell eCell_0:={}
instance:ET Tryz.prog 46 Clash eClash:={}
instance:ET Tryz.prog 52 Part ePart:={}
instance:ET Tryz.prog 60 Sym eSym:={}
instance:ET Tryz.prog 63 Alt eAlt_0:={}
instance:ET Tryz.prog 71 Bool eB:={}
instance:ET Tryz.prog 77 Look eLook_0:={}
instance:ET Tryz.prog 86 Act eAct:={}
instance:ET Tryz.prog 92 Int eU:={}
instance:ET Tryz.prog 97 Item eItem:={}
instance:ET Tryz.prog 98 Move eMove:={}
instance:ET Tryz.prog 104 ByteArray eS:={}
instance:ET Tryz.prog 106 _anon105 e_anon105:={}
instance:ET Tryz.prog 157 Trans eTrans:={}
instance con13 {a0:Int}{r:ByteArray}:CF Tryz.prog 13 (pf13 a0=some r) [I64 a0] [none] (SS r):=⟨fun h=>by unfold pf13 at h; exact Con.au (N:=⟨32,[]⟩) [0,2,3,4,8,16,28] (.jn [0,3] (fun (j1:Int)=>[(3,.lit (.int .u64 j1))]) .e (.lp (fun (s3:Int × ByteArray)=>[(3,.lit (.int .u64 s3.1)),(4,SS s3.2)]) [0,3,4] 0 (fun (x4:ByteArray)=>[(4,SS x4)]) [0,4] (.rj 5 [0,3,4,16] (fun (c7:Bool)=>[(16,BB c7)]) .e) .e)) Tryz.func13 rfl rfl rfl rfl rfl go⟩
instance con146 {a0:Int}{r:Bool}:CF Tryz.prog 146 (pf146 a0=some r) [U8 a0] [none] (BB r):=⟨fun h=>by unfold pf146 at h; exact Con.au (N:=⟨21,[]⟩) [0,2] (.rj 1 [2] (fun (c7:Bool)=>[(2,BB c7)]) .e) Tryz.func146 rfl rfl rfl rfl rfl go⟩
instance con147 {a0:Int}{r:Bool}:CF Tryz.prog 147 (pf147 a0=some r) [U8 a0] [none] (BB r):=⟨fun h=>by unfold pf147 at h; exact Con.au (N:=⟨9,[]⟩) [0,2] (.rj 1 [2] (fun (c2:Bool)=>[(2,BB c2)]) .e) Tryz.func147 rfl rfl rfl rfl rfl go⟩
instance con135 {a0:ByteArray}{a1:Int}{r:Int}:CF Tryz.prog 135 (pf135 a0 a1=some r) [SS a0,I64 a1] [none,none] (I64 r):=⟨fun h=>by unfold pf135 at h; exact Con.au (N:=⟨43,[]⟩) [0,1,4,5,39] (.lp (fun (s1:Int)=>[(5,I64 s1)]) [0,1,5] 0 (fun (x2:Int)=>[(5,I64 x2)]) [5] (.rj 2 [0,1,5,39] (fun (c13:Bool)=>[(39,BB c13)]) .e) .e) Tryz.func135 rfl rfl rfl rfl rfl go⟩
instance con113 {a0:ByteArray}{r:Bool}:CF Tryz.prog 113 (pf113 a0=some r) [SS a0] [none] (BB r):=⟨fun h=>by unfold pf113 at h; exact Con.au (N:=⟨18,[]⟩) [0,2] (.rj 1 [2] (fun (c4:Bool)=>[(2,BB c4)]) .e) Tryz.func113 rfl rfl rfl rfl rfl go⟩
instance con85 {a0:Int}{r:Int × Bool}:CF Tryz.prog 85 (pf85 a0=some r) [U8 a0] [none] (.tup [U8 r.1,BB r.2]):=⟨fun h=>by unfold pf85 at h; exact Con.au (N:=⟨21,[]⟩) [0,2,3,4,5,7,9,11] (.b .e (.b .e (.b .e (.jn [0,11] (fun (j4:Bool)=>[(11,BB j4)]) .e (.b .e (.rj 11 [2,3] (fun (c8:Int × Bool)=>[(2,U8 c8.1),(3,BB c8.2)]) .e)))))) Tryz.func85 rfl rfl rfl rfl rfl go⟩
instance con134 {a0:Sym}{a1:Bool}{a2:Bool}{r:Bool}:CF Tryz.prog 134 (pf134 a0 a1 a2=some r) [.agg (eSym.cells a0),BB a1,BB a2] [none,none,none] (BB r):=⟨fun h=>by unfold pf134 at h; exact Con.au (N:=⟨53,[]⟩) [1,2,3,6,8,10,23] (.b (.rj 2 [3,23] (fun (c4:Bool)=>[(23,BB c4)]) .e) (.rj 6 [6] (fun (c13:Bool)=>[(6,BB c13)]) .e)) Tryz.func134 rfl rfl rfl rfl rfl go⟩
instance con112 {a0:Decl}{r:Bool}:CF Tryz.prog 112 (pf112 a0=some r) [.agg (eDecl_0.cells a0)] [none] (BB r):=⟨fun h=>by unfold pf112 at h; exact Con.au (N:=⟨75,[]⟩) [1,2,3,54,59,74] (.rj 1 [1,54] (fun (c15:Bool)=>[(54,BB c15)]) (.b .e (.l2 (fun (s17:Int)=>[(3,I64 s17)]) [1,3] 0 (fun (x19:Unit)=>[]) [] (fun (x20:Bool)=>[(2,BB x20)]) [2] (.b (.rd 6 [[],[0],[],[0,1,2],[0,1,2,3],[],[5],[5,6],[],[8],[8,9],rn 0 11 [],rn 0 12 []] .e) .e) .e .e))) Tryz.func112 rfl rfl rfl rfl rfl go⟩
instance con136 {a0:Sym}{r:Bool}:CF Tryz.prog 136 (pf136 a0=some r) [.agg (eSym.cells a0)] [none] (BB r):=⟨fun h=>by unfold pf136 at h; exact Con.au (N:=⟨16,[]⟩) [1,2] (.rj 1 [2] (fun (c3:Bool)=>[(2,BB c3)]) .e) Tryz.func136 rfl rfl rfl rfl rfl go⟩
instance con150 {a0:ByteArray}{a1:Int}{a2:ByteArray}{r:Bool}:CF Tryz.prog 150 (pf150 a0 a1 a2=some r) [SS a0,I64 a1,SS a2] [none,none,none] (BB r):=⟨fun h=>by unfold pf150 at h; exact Con.au (N:=⟨25,[]⟩) [0,1,2,6] (.rj 1 [6] (fun (c3:Bool)=>[(6,BB c3)]) .e) Tryz.func150 rfl rfl rfl rfl rfl go⟩
instance con148 {a0:ByteArray}{a1:Int}{r:Int}:CF Tryz.prog 148 (pf148 a0 a1=some r) [SS a0,I64 a1] [none,none] (I64 r):=⟨fun h=>by unfold pf148 at h; exact Con.au (N:=⟨114,[]⟩) [0,1,4,5,6,7,8,9,31,40,46,58,59,69,75,78,92,96,105,110] (.rj 1 [0,1,9] (fun (c4:Bool)=>[(9,BB c4)]) (.b (.l2 (fun (s6:Int)=>[(5,I64 s6)]) [0,1,5] 1 (fun (x8:Unit)=>[]) [] (fun (x9:Int)=>[(4,I64 x9)]) [4] (.rj 3 [0,1,5,31] (fun (c12:Bool)=>[(31,BB c12)]) (.b (.rd 5 [[],[],[0,1],[],[],[3,4],rn 0 6 []] (.b .e (.b (.rj 9 [0,1,5,58] (fun (c21:Bool)=>[(58,BB c21)]) .e) .e))) .e)) .e .e) (.b (.l2 (fun (s25:Int)=>[(6,I64 s25)]) [0,6] 3 (fun (x27:Unit)=>[]) [] (fun (x28:Int)=>[(4,I64 x28)]) [4] .e .e .e) (.b (.lp (fun (s34:Int)=>[(7,I64 s34)]) [0,7] 5 (fun (x35:Int)=>[(7,I64 x35)]) [7] (.rj 21 [0,7,92] (fun (c39:Bool)=>[(92,BB c39)]) .e) .e) (.b (.l2 (fun (s43:Int)=>[(8,I64 s43)]) [0,8] 7 (fun (x45:Unit)=>[]) [] (fun (x46:Int)=>[(4,I64 x46)]) [4] .e .e .e) .e))))) Tryz.func148 rfl rfl rfl rfl rfl go⟩
instance con137 {a0:ByteArray}{a1:Int}{r:Int}:CF Tryz.prog 137 (pf137 a0 a1=some r) [SS a0,I64 a1] [none,none] (I64 r):=⟨fun h=>by unfold pf137 at h; exact Con.au (N:=⟨53,[]⟩) [0,1,4,5,6,7,21,26,31,34,39,45,51] (.rj 1 [0,1,21] (fun (c4:Bool)=>[(21,BB c4)]) (.b .e (.l2 (fun (s6:Int × Int)=>[(5,I64 s6.1),(6,I64 s6.2)]) [0,5,6] 0 (fun (x8:Unit)=>[]) [] (fun (x9:Int)=>[(4,I64 x9)]) [4] (.b (.b .e (.b .e (.jn [0,5,6] (fun (j15:Int)=>[(5,I64 j15)]) .e (.jn [0,5,6] (fun (j18:Int)=>[(5,I64 j18)]) .e .e)))) .e) .e .e))) Tryz.func137 rfl rfl rfl rfl rfl go⟩
instance con114 {a0:Alt}{r:Bool}:CF Tryz.prog 114 (pf114 a0=some r) [.agg (eAlt_0.cells a0)] [none] (BB r):=⟨fun h=>by unfold pf114 at h; exact Con.au (N:=⟨54,[]⟩) [1,2,3,4,9,45] (.l2 (fun (s1:Int)=>[(3,I64 s1)]) [1,3] 0 (fun (x3:Unit)=>[]) [1] (fun (x4:Bool)=>[(2,BB x4)]) [2] (.b (.rk 5 [[],[0],[0,1],[0,1,2],[0,1,2,3],rn 0 5 [],rn 0 6 [],rn 0 7 [],rn 0 8 [],rn 0 9 [],rn 0 10 [],rn 0 11 [],rn 0 12 [],rn 0 13 [],rn 0 14 [],rn 0 15 [],rn 0 16 [],rn 0 17 [],rn 0 18 [],rn 0 19 [],rn 0 20 [],rn 0 21 [],rn 0 19 [],rn 0 19 [22],rn 0 19 [22,23],rn 0 25 [],rn 0 26 [],rn 0 27 [],rn 0 28 []] [1,3,45] (fun (c18:Bool)=>[(45,BB c18)]) .e) .e) (.rj 7 [2] (fun (c23:Bool)=>[(2,BB c23)]) .e) .e) Tryz.func114 rfl rfl rfl rfl rfl go⟩
instance con86 {a0:Source}{r:Bool}:CF Tryz.prog 86 (pf86 a0=some r) [.agg (eSource_0.cells a0)] [none] (BB r):=⟨fun h=>by unfold pf86 at h; exact Con.au (N:=⟨77,[]⟩) [1,2,3,4,5,6,7,13,22,27,36,41,58,63,72] (.l2 (fun (s1:Int)=>[(3,I64 s1)]) [1,3] 0 (fun (x3:Unit)=>[]) [1] (fun (x4:Bool)=>[(2,BB x4)]) [2] .e (.l2 (fun (s8:Int)=>[(4,I64 s8)]) [1,4] 2 (fun (x10:Unit)=>[]) [1] (fun (x11:Bool)=>[(2,BB x11)]) [2] .e (.l2 (fun (s16:Int)=>[(5,I64 s16)]) [1,5] 4 (fun (x18:Unit)=>[]) [1] (fun (x19:Bool)=>[(2,BB x19)]) [2] (.b (.rj 15 [1,5,6,58] (fun (c24:Bool)=>[(58,BB c24)]) (.b .e (.l2 (fun (s26:Int)=>[(7,I64 s26)]) [1,5,6,7] 6 (fun (x28:Unit)=>[]) [1,5] (fun (x29:Bool)=>[(2,BB x29)]) [2] .e .e .e))) .e) .e .e) .e) .e) Tryz.func86 rfl rfl rfl rfl rfl go⟩
instance con88 {a0:yuccaref9_maker}{a1:Int}{a2:ByteArray}{r:yuccaref9_maker}:CF Tryz.prog 88 (pf88 a0 a1 a2=some r) [.obj (eyuccaref9_maker_r.cells a0),I64 a1,SS a2] [some (.obj [oR eTok r.f_g.Toks,oR eNon r.f_g.Nons,oR eProd_0 r.f_g.Prods,SS r.f_g.Pro,SS r.f_g.Tail,oR eB r.f_given,oR eNon r.f_types,oR eS r.f_lefts,I64 r.f_e,I64 r.f_at,SS r.f_name,I64 r.f_level,I64 r.f_inner]),none,none] (.tup []):=⟨fun h=>by unfold pf88 at h; exact Con.au (N:=⟨22,[0]⟩) [0,1,2,10] (.jn [0] (fun (j1:yuccaref9_maker)=>[(0,.obj (eyuccaref9_maker_r.cells j1))]) .e .e) Tryz.func88 rfl rfl rfl rfl rfl go⟩
instance con92 {a0:yuccaref9_maker}{a1:ByteArray}{r:Int}:CF Tryz.prog 92 (pf92 a0 a1=some r) [.iptr ([iR eTok a0.f_g.Toks,iR eNon a0.f_g.Nons,iR eProd_0 a0.f_g.Prods,SS a0.f_g.Pro,SS a0.f_g.Tail,iR eB a0.f_given,iR eNon a0.f_types,iR eS a0.f_lefts,I64 a0.f_e,I64 a0.f_at,SS a0.f_name,I64 a0.f_level,I64 a0.f_inner]),SS a1] [none,none] (I64 r):=⟨fun h=>by unfold pf92 at h; exact Con.au (N:=⟨26,[]⟩) [0,1,4,5,12,24] (.l2 (fun (s1:Int)=>[(5,I64 s1)]) [0,1,5] 0 (fun (x3:Unit)=>[]) [] (fun (x4:Int)=>[(4,I64 x4)]) [4] .e .e .e) Tryz.func92 rfl rfl rfl rfl rfl go⟩
instance con89 {a0:yuccaref9_maker}{a1:Sym}{r:Int}:CF Tryz.prog 89 (pf89 a0 a1=some r) [.iptr ([iR eTok a0.f_g.Toks,iR eNon a0.f_g.Nons,iR eProd_0 a0.f_g.Prods,SS a0.f_g.Pro,SS a0.f_g.Tail,iR eB a0.f_given,iR eNon a0.f_types,iR eS a0.f_lefts,I64 a0.f_e,I64 a0.f_at,SS a0.f_name,I64 a0.f_level,I64 a0.f_inner]),.agg (eSym.cells a1)] [none,none] (I64 r):=⟨fun h=>by unfold pf89 at h; exact Con.au (N:=⟨47,[]⟩) [0,3,4,5,13,45] (.l2 (fun (s1:Int)=>[(5,I64 s1)]) [0,3,5] 0 (fun (x3:Unit)=>[]) [] (fun (x4:Int)=>[(4,I64 x4)]) [4] (.b (.rk 4 [[],[0],[0,1],[0,1,2],[0,1,2,3],[],rn 0 6 [],rn 0 7 [],rn 0 8 [],[],[9],rn 0 11 [],rn 0 12 [],rn 0 13 [],rn 0 14 [],rn 0 15 [],rn 0 16 [],rn 0 17 [],rn 0 13 [],rn 0 19 [],rn 0 20 [],rn 0 21 [],rn 0 13 [],rn 0 13 [22],rn 0 24 [],rn 0 25 [],rn 0 26 [],rn 0 27 [],rn 0 28 [],rn 0 29 []] [0,3,5,45] (fun (c10:Bool)=>[(45,BB c10)]) .e) .e) .e .e) Tryz.func89 rfl rfl rfl rfl rfl go⟩
instance con116 {a0:yuccaref9_maker}{a1:Int}{r:Int}:CF Tryz.prog 116 (pf116 a0 a1=some r) [.iptr ([iR eTok a0.f_g.Toks,iR eNon a0.f_g.Nons,iR eProd_0 a0.f_g.Prods,SS a0.f_g.Pro,SS a0.f_g.Tail,iR eB a0.f_given,iR eNon a0.f_types,iR eS a0.f_lefts,I64 a0.f_e,I64 a0.f_at,SS a0.f_name,I64 a0.f_level,I64 a0.f_inner]),I64 a1] [none,none] (I64 r):=⟨fun h=>by unfold pf116 at h; exact Con.au (N:=⟨28,[]⟩) [0,1,4,5,13,26] (.l2 (fun (s1:Int)=>[(5,I64 s1)]) [0,1,5] 0 (fun (x3:Unit)=>[]) [] (fun (x4:Int)=>[(4,I64 x4)]) [4] .e .e .e) Tryz.func116 rfl rfl rfl rfl rfl go⟩
instance con115 {a0:yuccaref9_maker}{a1:Sym}{r:Int × yuccaref9_maker}:CF Tryz.prog 115 (pf115 a0 a1=some r) [.obj (eyuccaref9_maker_r.cells a0),.agg (eSym.cells a1)] [some (.obj [oR eTok r.2.f_g.Toks,oR eNon r.2.f_g.Nons,oR eProd_0 r.2.f_g.Prods,SS r.2.f_g.Pro,SS r.2.f_g.Tail,oR eB r.2.f_given,oR eNon r.2.f_types,oR eS r.2.f_lefts,I64 r.2.f_e,I64 r.2.f_at,SS r.2.f_name,I64 r.2.f_level,I64 r.2.f_inner]),none] (I64 r.1):=⟨fun h=>by unfold pf115 at h; exact Con.au (N:=⟨66,[0]⟩) [0,3,4,5,6,11,19,29] (.b .e (.jn [0,3,6] (fun (j3:yuccaref9_maker × Int)=>[(0,.obj (eyuccaref9_maker_r.cells j3.1)),(3006,I64 j3.2)]) (.b (.jn [0,3,6] (fun (j7:yuccaref9_maker)=>[(0,.obj (eyuccaref9_maker_r.cells j7))]) .e .e) .e) (.rd 9 [[],[],[1],[1,2],[1,2,3],[1,2,3,4],[],[6],rn 1 7 [],rn 0 9 [],rn 0 10 [],rn 0 11 [],rn 0 12 []] (.rd 10 [[],[],[1],[1,2],[1,2,3],[],[5],[5,6],rn 1 7 [],rn 0 9 [],rn 0 10 [],rn 0 11 []] .e)))) Tryz.func115 rfl rfl rfl rfl rfl go⟩
theorem conq88_0 (v:Value) (a0:yuccaref9_maker) (a1:Int) (a2:ByteArray) (r:yuccaref9_maker) (h:pf88 a0 a1 a2=some r):Con Tryz.prog 88 [.obj [.lit v,oR eNon a0.f_g.Nons,oR eProd_0 a0.f_g.Prods,SS a0.f_g.Pro,SS a0.f_g.Tail,oR eB a0.f_given,oR eNon a0.f_types,oR eS a0.f_lefts,I64 a0.f_e,I64 a0.f_at,SS a0.f_name,I64 a0.f_level,I64 a0.f_inner],I64 a1,SS a2] [some (.obj [.lit v,oR eNon r.f_g.Nons,oR eProd_0 r.f_g.Prods,SS r.f_g.Pro,SS r.f_g.Tail,oR eB r.f_given,oR eNon r.f_types,oR eS r.f_lefts,I64 r.f_e,I64 r.f_at,SS r.f_name,I64 r.f_level,I64 r.f_inner]),none,none] (.tup []):=by
 unfold pf88 at h
 refine Con.go (N:=⟨22,[0]⟩) Tryz.func88 q q q q (W.fin ?_)
 refine W.st [(0,.obj [.lit v,oR eNon a0.f_g.Nons,oR eProd_0 a0.f_g.Prods,SS a0.f_g.Pro,SS a0.f_g.Tail,oR eB a0.f_given,oR eNon a0.f_types,oR eS a0.f_lefts,I64 a0.f_e,I64 a0.f_at,SS a0.f_name,I64 a0.f_level,I64 a0.f_inner]),(1,I64 a1),(2,SS a2)] ?_
 refine W.sq'<|W.rx [(0,_),(1,_),(2,_),(10,_)] (Rv (O.mv (.obj q))<|Rv (O.nlP (.ptr q))<|Rv (O.fO q (.ptr q) fd175_4 q)<|Rv (O.ldO (y:=I64 a0.f_e) q (.ptr q) ct3 q q)<|Rv (O.eql (.lit q) (.k q))<|Fi (tn4 q q q q)) ?_
 refine Px.sq ?_
 obtain ⟨j1,hj,h⟩:=bnd h
 refine W.jn [(0,.obj [.lit v,oR eNon j1.f_g.Nons,oR eProd_0 j1.f_g.Prods,SS j1.f_g.Pro,SS j1.f_g.Tail,oR eB j1.f_given,oR eNon j1.f_types,oR eS j1.f_lefts,I64 j1.f_e,I64 j1.f_at,SS j1.f_name,I64 j1.f_level,I64 j1.f_inner])] ?_ ?_
 ·clear h; have h:=hj; clear hj
  refine W.cnd q (fun hb2=>?_) (fun hb2=>?_)
  ·replace h:=cndT hb2 h
   refine W.rx [(0,_)] (Rv (O.mv (.obj q))<|Rv (O.mv (.obj q))<|Rv (O.mv (.obj q))<|Vm q<|Vm q<|Rv (O.nlP (.ptr q))<|Rv (O.fO q (.ptr q) fd175_4 q)<|RunL.sO (G2:=[(0,_),(12,.ptr ⟨0,[]⟩ 0),(13,.ptr ⟨0,[]⟩ 0),(14,_),(15,_)]) (cs2:=[.lit v,oR eNon a0.f_g.Nons,oR eProd_0 a0.f_g.Prods,SS a0.f_g.Pro,SS a0.f_g.Tail,oR eB a0.f_given,oR eNon a0.f_types,oR eS a0.f_lefts,I64 3,I64 a0.f_at,SS a0.f_name,I64 a0.f_level,I64 a0.f_inner]) q (.ptr q) (.k q) q sz3 q q q q (.b q (.p q q q q q q (.p q q q q q q (.n q q (.n q q .nil)))))<|Rv (O.nlP (.ptr q))<|Rv (O.fO q (.ptr q) fd175_5 q)<|RunL.sO (G2:=[(0,_),(13,.ptr ⟨0,[]⟩ 0),(15,_)]) (cs2:=[.lit v,oR eNon a0.f_g.Nons,oR eProd_0 a0.f_g.Prods,SS a0.f_g.Pro,SS a0.f_g.Tail,oR eB a0.f_given,oR eNon a0.f_types,oR eS a0.f_lefts,I64 3,I64 a1,SS a0.f_name,I64 a0.f_level,I64 a0.f_inner]) q (.ptr q) (.lit q) q sz3 q q q q (.b q (.p q q q q q q (.n q q .nil)))<|Rv (O.nlP (.ptr q))<|Rv (O.fO q (.ptr q) fd175_6 q)<|RunL.sO (G2:=[(0,_)]) (cs2:=[.lit v,oR eNon a0.f_g.Nons,oR eProd_0 a0.f_g.Prods,SS a0.f_g.Pro,SS a0.f_g.Tail,oR eB a0.f_given,oR eNon a0.f_types,oR eS a0.f_lefts,I64 3,I64 a1,SS a2,I64 a0.f_level,I64 a0.f_inner]) q (.ptr q) (.lit q) q sz9 q q q q (.b q .nil)<|Fi (.n q .nil)) ?_
   obtain rfl:=sm h
   exact Px.jn (.n q .nil)
  ·replace h:=cndF hb2 h
   refine W.sk ?_
   obtain rfl:=sm h
   exact Px.jn (.n q .nil)
 obtain rfl:=sm h
 exact Px.fin (Fin.ro .nil q (ode (by kernel_rfl)) (.so q q (.no (.no .nil))) q (.inl q))
theorem con87l (a0:yuccaref9_maker) (a1:Decl) (a2:Sym) (r:yuccaref9_maker) (h:pf87 a0 a1 a2=some r):Con Tryz.prog 87 [.obj (eyuccaref9_maker_r.cells a0),.agg (eDecl_0.cells a1),.agg (eSym.cells a2)] [some (.obj [oR eTok r.f_g.Toks,oR eNon r.f_g.Nons,oR eProd_0 r.f_g.Prods,SS r.f_g.Pro,SS r.f_g.Tail,oR eB r.f_given,oR eNon r.f_types,oR eS r.f_lefts,I64 r.f_e,I64 r.f_at,SS r.f_name,I64 r.f_level,I64 r.f_inner]),none,none] (.tup []):=by
 unfold pf87 at h
 refine Con.go (N:=⟨152,[0]⟩) Tryz.func87 q q q q (W.fin ?_)
 refine W.st [(0,.obj (eyuccaref9_maker_r.cells a0)),(1,.agg (eDecl_0.cells a1)),(2,.agg (eSym.cells a2))] ?_
 refine W.sq'<|W.rx [(0,_),(4,_),(5,_)] (Rv (O.box (.aggF q q) q)<|Rv (O.box (.aggF q q) q)<|Fi (tn3 q q q)) ?_
 refine Px.sq<|W.sq' ?_
 refine W.sq'<|W.rx [(0,_),(4,_),(5,_),(11,_)] (Rv (O.fO q (.obj q) fd62_0 q)<|Rv (O.ldO (y:=I64 a1.Kind) q (.ptr q) ct3 q q)<|Rv (O.eql (.lit q) (.k q))<|Fi (tn4 q q q q)) ?_
 refine Px.sq<|W.cnd q (fun hb1=>?_) (fun hb1=>?_)
 ·replace h:=cndT hb1 h
  refine W.sq' ?_
  obtain ⟨x2,hx2,h⟩:=bnd h
  refine W.rx [(0,_),(4,_),(5,_),(6,_)] (Rv (O.mv (.obj q))<|Rv (O.fO q (.obj q) fd54_0 q)<|Rv (O.ldO (y:=SS a2.Name) q (.ptr q) ct9 q q)<|Rc (PC.vw (ys:=[.ptr ⟨0,[]⟩ 0,SS a2.Name]) q (.c (View.p0 q q) (.s .nil)) (CF.go hx2) call92 q)<|Va q<|Fi (tn4 q q q q)) ?_
  refine Px.sq<|W.sq' ?_
  refine W.sq'<|W.rx [(0,_),(4,_),(5,_),(6,_),(17,_)] (Vm q<|Rv (O.lss (.lit q) (.k q))<|Fi (tn5 q q q q q)) ?_
  refine Px.sq ?_
  obtain ⟨j3,hj,h⟩:=bnd h
  refine W.jn [(0,.obj (eyuccaref9_maker_r.cells j3))] ?_ ?_
  ·clear h; have h:=hj; clear hj
   refine W.cnd q (fun hb4=>?_) (fun hb4=>?_)
   ·replace h:=cndT hb4 h
    obtain ⟨x5,hx5,h⟩:=bnd h
    refine W.rd [[],[],[1],[1,2],[1,2,3],[],[5],[],[7],[5,6,7,8],rn 5 5 [],rn 1 10 [],rn 0 12 [],rn 0 13 [],rn 0 14 []] [(0,_)] mixo (by kernel_rfl) (Dv 0 (O.mv (.obj q))<|Dv 1 (O.mv (.obj q))<|Dv 2 (O.nlP (.ptr q))<|Dv 3 (O.fO q (.ptr q) fd175_2 q)<|Dv 4 (O.ldO (y:=.brw eNon.z ⟨0,[6]⟩ a0.f_types.length) q (.ptr q) ct35 q q)<|Dv 5 (O.fO q (.obj q) fd54_0 q)<|Dv 6 (O.ldO (y:=SS a2.Name) q (.ptr q) ct9 q q)<|Dv 7 (O.fO q (.obj q) fd62_1 q)<|Dv 8 (O.ldO (y:=SS a1.Tag) q (.ptr q) ct9 q q)<|Dv 9 (O.bu (cs:=[SS a2.Name,SS a1.Tag]) sc116 ze116 q q q)<|DL.vi 10 (x:=iR eNon [(⟨a2.Name,a1.Tag⟩:Non)]) (O.bs (ys:=[.agg [SS a2.Name,SS a1.Tag]]) eNon [(⟨a2.Name,a1.Tag⟩:Non)] sl35 q q q q q q zt116 q q) q q q q .none<|Dv 11 (O.ap (en:=eNon) (r:=x5) (.brw q) q (.imm q) .i ap35 q hx5)<|Dv 12 (O.nlP (.ptr q))<|Dv 13 (O.fO q (.ptr q) fd175_2 q)<|DL.bp 14 (G2:=[(0,.obj [oR eTok a0.f_g.Toks,oR eNon a0.f_g.Nons,oR eProd_0 a0.f_g.Prods,SS a0.f_g.Pro,SS a0.f_g.Tail,oR eB a0.f_given,oR eNon (a0.f_types++[(⟨a2.Name,a1.Tag⟩:Non)]),oR eS a0.f_lefts,I64 a0.f_e,I64 a0.f_at,SS a0.f_name,I64 a0.f_level,I64 a0.f_inner])]) (EO.stP (g1:=_) (en:=eNon) (M:=[(⟨a2.Name,a1.Tag⟩:Non)]) (cs2:=[oR eTok a0.f_g.Toks,oR eNon a0.f_g.Nons,oR eProd_0 a0.f_g.Prods,SS a0.f_g.Pro,SS a0.f_g.Tail,oR eB a0.f_given,oR eNon (a0.f_types++[(⟨a2.Name,a1.Tag⟩:Non)]),oR eS a0.f_lefts,I64 a0.f_e,I64 a0.f_at,SS a0.f_name,I64 a0.f_level,I64 a0.f_inner]) q q (.ptr q) (.pend q) q q q .ns .rf q q sz35 q q q q (.b q .nil)) q q q q (by kernel_rfl) (by kernel_rfl)<|DL.fin q q q (.n q .nil)) ?_
    obtain rfl:=sm h
    exact Px.jn (.n q .nil)
   ·replace h:=cndF hb4 h
    refine W.sq' ?_
    obtain ⟨x6,hx6,h⟩:=bnd h
    refine W.rd [[],[0],[0,1],[0,1,2],[],rn 0 5 [],rn 0 6 [],rn 0 7 [],[],[8],rn 0 10 []] [(0,_),(5,_),(42,_)] mixo (by kernel_rfl) (Dv 0 (O.mv (.obj q))<|Dv 1 (O.nlP (.ptr q))<|Dv 2 (O.fO q (.ptr q) fd175_2 q)<|Dv 3 (O.ldO (y:=.brw eNon.z ⟨0,[6]⟩ a0.f_types.length) q (.ptr q) ct35 q q)<|Dv 4 (O.mv (.lit q))<|Dv 5 (O.ixO (en:=eNon) q (.brw q) (.lit q) sl35 hx6 q)<|Dv 6 (O.fE (en:=eNon) q (.ptr q) fd116_1 hx6 q q)<|Dv 7 (O.ldE (en:=eNon) (x':=SS x6.Tag) q (.ptr q) ct9 hx6 q q)<|Dv 8 (O.fO q (.obj q) fd62_1 q)<|Dv 9 (O.ldO (y:=SS a1.Tag) q (.ptr q) ct9 q q)<|Dv 10 (O.neS (.lit q) (.lit q))<|DL.fin q q q (tn3 q q q)) ?_
    refine Px.sq ?_
    obtain ⟨j7,hj,h⟩:=bnd h
    refine W.jn [(0,.obj (eyuccaref9_maker_r.cells j7))] ?_ ?_
    ·clear h; have h:=hj; clear hj
     refine W.cnd q (fun hb8=>?_) (fun hb8=>?_)
     ·replace h:=cndT hb8 h
      obtain ⟨x9,hx9,h⟩:=bnd h
      refine W.rx [(0,_)] (Rv (O.mv (.obj q))<|Rv (O.fO q (.obj q) fd54_3 q)<|Rv (O.ldO (y:=I64 a2.At) q (.ptr q) ct3 q q)<|Rv (O.fO q (.obj q) fd54_0 q)<|Rv (O.ldO (y:=SS a2.Name) q (.ptr q) ct9 q q)<|RunL.ef q (EO.call q q (CallOk.ln (G2:=[]) (A:=[]) (ys:=[.ptr ⟨0,[]⟩ 0,I64 a2.At,SS a2.Name]) (args:=[.obj (eyuccaref9_maker_r.cells a0),I64 a2.At,SS a2.Name]) (cs':=[oR eTok x9.f_g.Toks,oR eNon x9.f_g.Nons,oR eProd_0 x9.f_g.Prods,SS x9.f_g.Pro,SS x9.f_g.Tail,oR eB x9.f_given,oR eNon x9.f_types,oR eS x9.f_lefts,I64 x9.f_e,I64 x9.f_at,SS x9.f_name,I64 x9.f_level,I64 x9.f_inner]) (k0:=0) q q q q (.b q (.n q (.n q .nil))) q (CF.go hx9) call88 .nil q q .nil .nil q))<|Fi (.n q .nil)) ?_
      obtain rfl:=sm h
      exact Px.jn (.n q .nil)
     ·replace h:=cndF hb8 h
      refine W.sk ?_
      obtain rfl:=sm h
      exact Px.jn (.n q .nil)
    obtain rfl:=sm h
    exact Px.jn (.n q .nil)
  refine Px.sq<|W.rt ?_
  refine Px.sqR ?_
  obtain rfl:=sm h
  exact Px.fin (Fin.ro .nil q (ode (by kernel_rfl)) (.so q q (.no (.no .nil))) q (.inr q))
 ·replace h:=cndF hb1 h
  refine W.sk<|Px.sq ?_
  refine W.sq' ?_
  obtain ⟨x10,hx10,h⟩:=bnd h
  refine W.rx [(0,_),(4,_),(5,_),(7,_)] (Rv (O.mv (.obj q))<|Rv (O.ldON (cs':=[SS a2.Name,BB a2.Lit,I64 a2.Num,I64 a2.At]) q (.obj q) at54 q q)<|RunL.ef q (EO.call q q (CallOk.ln (G2:=[(4,.obj (eDecl_0.cells a1)),(5,.obj (eSym.cells a2))]) (A:=[]) (ys:=[.ptr ⟨0,[]⟩ 0,.agg (eSym.cells a2)]) (args:=[.obj (eyuccaref9_maker_r.cells a0),.agg (eSym.cells a2)]) (cs':=[oR eTok x10.2.f_g.Toks,oR eNon x10.2.f_g.Nons,oR eProd_0 x10.2.f_g.Prods,SS x10.2.f_g.Pro,SS x10.2.f_g.Tail,oR eB x10.2.f_given,oR eNon x10.2.f_types,oR eS x10.2.f_lefts,I64 x10.2.f_e,I64 x10.2.f_at,SS x10.2.f_name,I64 x10.2.f_level,I64 x10.2.f_inner]) (k0:=0) q q q q (.b q (.n q .nil)) q (CF.go hx10) call115 (tn2 q q) q q (tn2 q q) .nil q))<|Va q<|Fi (tn4 q q q q)) ?_
  refine Px.sq<|W.sq' ?_
  obtain ⟨x11,hx11,h⟩:=bnd h
  refine W.rx [(0,_),(4,_),(5,_),(7,_),(8,.ptr ⟨0,[0]⟩ (x10.1.toNat * eTok.z+0))] (Rv (O.mv (.obj q))<|Rv (O.nlP (.ptr q))<|Rv (O.fO q (.ptr q) fd175_0 q)<|Rv (O.fO q (.ptr q) fd38_0 q)<|Rv (O.ldO (y:=.brw eTok.z ⟨0,[0]⟩ x10.2.f_g.Toks.length) q (.ptr q) ct34 q q)<|Vm q<|Rv (O.ixO (en:=eTok) q (.brw q) (.lit q) sl34 hx11 q)<|Rv (O.az (.ptr q))<|Fi (.n q (.n q (.n q (.n q (.r q (RK.el (en:=eTok) q hx11 q) npPtr .nil)))))) ?_
  refine Px.sq<|W.sq' ?_
  refine W.sq'<|W.rx [(0,_),(4,_),(5,_),(7,_),(8,.ptr ⟨0,[0]⟩ (x10.1.toNat * eTok.z+0)),(61,_)] (Rv (O.fO q (.obj q) fd62_0 q)<|Rv (O.ldO (y:=I64 a1.Kind) q (.ptr q) ct3 q q)<|Rv (O.neq (.lit q) (.k q))<|Fi (.n q (.n q (.n q (.n q (.r q (RK.el (en:=eTok) q hx11 q) npPtr (.n q .nil))))))) ?_
  refine Px.sq ?_
  obtain ⟨j12,hj,h⟩:=bnd h
  refine W.jn [(0,.obj (eyuccaref9_maker_r.cells j12)),(4,.obj (eDecl_0.cells a1)),(5,.obj (eSym.cells a2)),(7,I64 x10.1),(8,.ptr ⟨0,[0]⟩ (x10.1.toNat * eTok.z+0))] ?_ ?_
  ·clear h; have h:=hj; clear hj
   refine W.cnd q (fun hb13=>?_) (fun hb13=>?_)
   ·replace h:=cndT hb13 h
    refine W.sq'<|W.sq' ?_
    refine W.rx [(0,_),(4,_),(5,_),(7,_),(8,.ptr ⟨0,[0]⟩ (x10.1.toNat * eTok.z+0)),(66,_)] (Rv (O.mv (.ptr q))<|Rv (O.nlP (.ptr q))<|Rv (O.fE (en:=eTok) q (.ptr q) fd148_3 hx11 q q)<|Rv (O.ldE (en:=eTok) (x':=I64 x11.Level) q (.ptr q) ct3 hx11 q q)<|Rv (O.gtr (.lit q) (.k q))<|Fi (.n q (.n q (.n q (.n q (.r q (RK.el (en:=eTok) q hx11 q) npPtr (.n q .nil))))))) ?_
    refine Px.sq ?_
    obtain ⟨j14,hj,h⟩:=bnd h
    refine W.jn [(0,.obj (eyuccaref9_maker_r.cells j14)),(4,.obj (eDecl_0.cells a1)),(5,.obj (eSym.cells a2)),(7,I64 x10.1),(8,.ptr ⟨0,[0]⟩ (x10.1.toNat * eTok.z+0))] ?_ ?_
    ·clear h; have h:=hj; clear hj
     refine W.cnd q (fun hb15=>?_) (fun hb15=>?_)
     ·replace h:=cndT hb15 h
      obtain ⟨x16,hx16,h⟩:=bnd h
      refine W.rx [(0,_),(4,_),(5,_),(7,_),(8,.ptr ⟨0,[0]⟩ (x10.1.toNat * eTok.z+0))] (Rv (O.mv (.obj q))<|Rv (O.fO q (.obj q) fd54_3 q)<|Rv (O.ldO (y:=I64 a2.At) q (.ptr q) ct3 q q)<|Rv (O.fO q (.obj q) fd54_0 q)<|Rv (O.ldO (y:=SS a2.Name) q (.ptr q) ct9 q q)<|RunL.ef (G2:=[(8,.ptr ⟨0,[0]⟩ (x10.1.toNat * eTok.z+0))]++[(72,.tup []),(0,.obj [oR eTok x10.2.f_g.Toks,oR eNon x16.f_g.Nons,oR eProd_0 x16.f_g.Prods,SS x16.f_g.Pro,SS x16.f_g.Tail,oR eB x16.f_given,oR eNon x16.f_types,oR eS x16.f_lefts,I64 x16.f_e,I64 x16.f_at,SS x16.f_name,I64 x16.f_level,I64 x16.f_inner]),(4,.obj (eDecl_0.cells a1)),(5,.obj (eSym.cells a2)),(7,I64 x10.1)]) q (EO.fr (r:=0) (k0:=0) (y:=oR eTok x10.2.f_g.Toks) (cs5:=[oR eTok x10.2.f_g.Toks,oR eNon x16.f_g.Nons,oR eProd_0 x16.f_g.Prods,SS x16.f_g.Pro,SS x16.f_g.Tail,oR eB x16.f_given,oR eNon x16.f_types,oR eS x16.f_lefts,I64 x16.f_e,I64 x16.f_at,SS x16.f_name,I64 x16.f_level,I64 x16.f_inner]) (G1:=fun v=>[(0,.obj [.lit v,oR eNon x10.2.f_g.Nons,oR eProd_0 x10.2.f_g.Prods,SS x10.2.f_g.Pro,SS x10.2.f_g.Tail,oR eB x10.2.f_given,oR eNon x10.2.f_types,oR eS x10.2.f_lefts,I64 x10.2.f_e,I64 x10.2.f_at,SS x10.2.f_name,I64 x10.2.f_level,I64 x10.2.f_inner]),(4,.obj (eDecl_0.cells a1)),(5,.obj (eSym.cells a2)),(7,I64 x10.1),(67,.ptr ⟨0,[]⟩ 0),(69,I64 a2.At),(71,SS a2.Name)]) (G4:=fun v=>[(72,.tup []),(0,.obj [.lit v,oR eNon x16.f_g.Nons,oR eProd_0 x16.f_g.Prods,SS x16.f_g.Pro,SS x16.f_g.Tail,oR eB x16.f_given,oR eNon x16.f_types,oR eS x16.f_lefts,I64 x16.f_e,I64 x16.f_at,SS x16.f_name,I64 x16.f_level,I64 x16.f_inner]),(4,.obj (eDecl_0.cells a1)),(5,.obj (eSym.cells a2)),(7,I64 x10.1)]) (c4:=fun v=>[.lit v,oR eNon x16.f_g.Nons,oR eProd_0 x16.f_g.Prods,SS x16.f_g.Pro,SS x16.f_g.Tail,oR eB x16.f_given,oR eNon x16.f_types,oR eS x16.f_lefts,I64 x16.f_e,I64 x16.f_at,SS x16.f_name,I64 x16.f_level,I64 x16.f_inner]) (G5:=[(72,.tup []),(0,.obj [oR eTok x10.2.f_g.Toks,oR eNon x16.f_g.Nons,oR eProd_0 x16.f_g.Prods,SS x16.f_g.Pro,SS x16.f_g.Tail,oR eB x16.f_given,oR eNon x16.f_types,oR eS x16.f_lefts,I64 x16.f_e,I64 x16.f_at,SS x16.f_name,I64 x16.f_level,I64 x16.f_inner]),(4,.obj (eDecl_0.cells a1)),(5,.obj (eSym.cells a2)),(7,I64 x10.1)]) (A:=[(8,.ptr ⟨0,[0]⟩ (x10.1.toNat * eTok.z+0))]) q q q q (fun v=>(.b q (.n q q (.n q q (.n q q (.p q q q q q q (.n q q (.n q q .nil)))))))) (fun v=>CallOk.ln (G2:=[(4,.obj (eDecl_0.cells a1)),(5,.obj (eSym.cells a2)),(7,I64 x10.1)]) (A:=[]) (ys:=[.ptr ⟨0,[]⟩ 0,I64 a2.At,SS a2.Name]) (args:=[.obj [.lit v,oR eNon x10.2.f_g.Nons,oR eProd_0 x10.2.f_g.Prods,SS x10.2.f_g.Pro,SS x10.2.f_g.Tail,oR eB x10.2.f_given,oR eNon x10.2.f_types,oR eS x10.2.f_lefts,I64 x10.2.f_e,I64 x10.2.f_at,SS x10.2.f_name,I64 x10.2.f_level,I64 x10.2.f_inner],I64 a2.At,SS a2.Name]) (cs':=[.lit v,oR eNon x16.f_g.Nons,oR eProd_0 x16.f_g.Prods,SS x16.f_g.Pro,SS x16.f_g.Tail,oR eB x16.f_given,oR eNon x16.f_types,oR eS x16.f_lefts,I64 x16.f_e,I64 x16.f_at,SS x16.f_name,I64 x16.f_level,I64 x16.f_inner]) (k0:=0) q q q q (.b q (.n q (.n q .nil))) q (conq88_0 v x10.2 a2.At a2.Name _ hx16) call88 (tn3 q q q) q q (tn3 q q q) .nil q) (fun v=>q) (fun v=>q) (fun v=>q) (fun v=>(.n q q (.b q (.n q q (.n q q (.n q q .nil)))))) q (.c (en:=eTok) (L:=x10.2.f_g.Toks) q q hx11 q q q .nil))<|Fi (.n q (.n q (.n q (.n q (.r q (RK.el (en:=eTok) q hx11 q) npPtr .nil)))))) ?_
      obtain rfl:=sm h
      exact Px.jn (.n q (.n q (.n q (.n q (.r q (RK.el (en:=eTok) q hx11 q) npPtr .nil)))))
     ·replace h:=cndF hb15 h
      refine W.sk ?_
      obtain rfl:=sm h
      exact Px.jn (.n q (.n q (.n q (.n q (.r q (RK.el (en:=eTok) q hx11 q) npPtr .nil)))))
    obtain ⟨x17,hx17,h⟩:=bnd h
    refine Px.sq<|W.rd [[],[],[],[2],[2,3],[2,3,4],[],[6],[6,7],[0,2,3,4,5],[0,2,3,4,5,9],[0,2,3,4,5,9,10],rn 0 12 [],rn 0 13 [],rn 0 14 []] [(0,_),(4,_),(5,_),(7,_),(8,.ptr ⟨0,[0]⟩ (x10.1.toNat * eTok.z+0))] mixo (by kernel_rfl) (Dv 0 (O.mv (.ptr q))<|Dv 1 (O.mv (.ptr q))<|Dv 2 (O.mv (.obj q))<|Dv 3 (O.nlP (.ptr q))<|Dv 4 (O.fO q (.ptr q) fd175_7 q)<|Dv 5 (O.ldO (y:=I64 j14.f_level) q (.ptr q) ct3 q q)<|Dv 6 (O.fO q (.obj q) fd62_0 q)<|Dv 7 (O.ldO (y:=I64 a1.Kind) q (.ptr q) ct3 q q)<|Dv 8 (O.sub (.lit q) (.k q))<|Dv 9 (O.nlP (.ptr q))<|Dv 10 (O.fE (en:=eTok) q (.ptr q) fd148_3 hx17 q q)<|DL.bu 11 (G2:=[(0,.obj [oR eTok (j14.f_g.Toks.set x10.1.toNat (⟨x17.Name,x17.Lit,x17.Num,j14.f_level,x17.Assoc,x17.Tag⟩:Tok)),oR eNon j14.f_g.Nons,oR eProd_0 j14.f_g.Prods,SS j14.f_g.Pro,SS j14.f_g.Tail,oR eB j14.f_given,oR eNon j14.f_types,oR eS j14.f_lefts,I64 j14.f_e,I64 j14.f_at,SS j14.f_name,I64 j14.f_level,I64 j14.f_inner]),(4,.obj (eDecl_0.cells a1)),(5,.obj (eSym.cells a2)),(7,I64 x10.1),(8,.ptr ⟨0,[0]⟩ (x10.1.toNat * eTok.z+0))]) (U:=[(8,81,some (I64 (w64 (a1.Kind - 1)))),(7,80,some (I64 a1.Kind)),(6,79,some (.ptr ⟨4,[]⟩ 0)),(1,74,some (.ptr ⟨0,[0]⟩ (x10.1.toNat * eTok.z+0)))]) (EffOk.v (EO.eff (EO.stE (en:=eTok) (y2:=(⟨x17.Name,x17.Lit,x17.Num,j14.f_level,x17.Assoc,x17.Tag⟩:Tok)) (cs':=[I64 j14.f_level]) (x2:=.obj [oR eTok (j14.f_g.Toks.set x10.1.toNat (⟨x17.Name,x17.Lit,x17.Num,j14.f_level,x17.Assoc,x17.Tag⟩:Tok)),oR eNon j14.f_g.Nons,oR eProd_0 j14.f_g.Prods,SS j14.f_g.Pro,SS j14.f_g.Tail,oR eB j14.f_given,oR eNon j14.f_types,oR eS j14.f_lefts,I64 j14.f_e,I64 j14.f_at,SS j14.f_name,I64 j14.f_level,I64 j14.f_inner]) q q (.ptr q) (.lit q) q hx17 sz3 q q q q q q q (.b q (.n q q (.n q q (.n q q (.e q q (.mk (en:=eTok) q hx17 q (idx_set_same hx17) q) q .nil)))))))) q q (by kernel_rfl) q q q (.c (.inr (.inl ⟨_,q⟩)) q q q q q (Gd.wanted .none) (O.sub (.lit q) (.k q)) (.c (.inr (.inl ⟨_,q⟩)) q q q q q (Gd.wanted .none) (O.ldO (y:=I64 a1.Kind) q (.ptr q) ct3 q q) (.c (.inr (.inr (.inr (.inl ⟨4,_,_,q,q,of_blt q,by simp,_,q,of_blt q⟩)))) q q q q q (Gd.wanted .none) (O.fO q (.obj q) fd62_0 q) (.c (.inr (.inr (.inl ⟨8,_,_,q,q,q,by simp⟩))) q q q q q (Gd.wanted .none) (O.mv (.ptr q)) .nil)))) (by kernel_rfl)<|Dv 12 (O.nlP (.ptr q))<|Dv 13 (O.fE (en:=eTok) q (.ptr q) fd148_4 (idx_set_same hx17) q q)<|DL.bp 14 (G2:=[(0,.obj [oR eTok ((j14.f_g.Toks.set x10.1.toNat (⟨x17.Name,x17.Lit,x17.Num,j14.f_level,x17.Assoc,x17.Tag⟩:Tok)).set x10.1.toNat (⟨(⟨x17.Name,x17.Lit,x17.Num,j14.f_level,x17.Assoc,x17.Tag⟩:Tok).Name,(⟨x17.Name,x17.Lit,x17.Num,j14.f_level,x17.Assoc,x17.Tag⟩:Tok).Lit,(⟨x17.Name,x17.Lit,x17.Num,j14.f_level,x17.Assoc,x17.Tag⟩:Tok).Num,(⟨x17.Name,x17.Lit,x17.Num,j14.f_level,x17.Assoc,x17.Tag⟩:Tok).Level,w64 (a1.Kind - 1),(⟨x17.Name,x17.Lit,x17.Num,j14.f_level,x17.Assoc,x17.Tag⟩:Tok).Tag⟩:Tok)),oR eNon j14.f_g.Nons,oR eProd_0 j14.f_g.Prods,SS j14.f_g.Pro,SS j14.f_g.Tail,oR eB j14.f_given,oR eNon j14.f_types,oR eS j14.f_lefts,I64 j14.f_e,I64 j14.f_at,SS j14.f_name,I64 j14.f_level,I64 j14.f_inner]),(4,.obj (eDecl_0.cells a1)),(5,.obj (eSym.cells a2)),(7,I64 x10.1),(8,.ptr ⟨0,[0]⟩ (x10.1.toNat * eTok.z+0))]) (EO.stE (en:=eTok) (y2:=(⟨(⟨x17.Name,x17.Lit,x17.Num,j14.f_level,x17.Assoc,x17.Tag⟩:Tok).Name,(⟨x17.Name,x17.Lit,x17.Num,j14.f_level,x17.Assoc,x17.Tag⟩:Tok).Lit,(⟨x17.Name,x17.Lit,x17.Num,j14.f_level,x17.Assoc,x17.Tag⟩:Tok).Num,(⟨x17.Name,x17.Lit,x17.Num,j14.f_level,x17.Assoc,x17.Tag⟩:Tok).Level,w64 (a1.Kind - 1),(⟨x17.Name,x17.Lit,x17.Num,j14.f_level,x17.Assoc,x17.Tag⟩:Tok).Tag⟩:Tok)) (cs':=[I64 (w64 (a1.Kind - 1))]) (x2:=.obj [oR eTok ((j14.f_g.Toks.set x10.1.toNat (⟨x17.Name,x17.Lit,x17.Num,j14.f_level,x17.Assoc,x17.Tag⟩:Tok)).set x10.1.toNat (⟨(⟨x17.Name,x17.Lit,x17.Num,j14.f_level,x17.Assoc,x17.Tag⟩:Tok).Name,(⟨x17.Name,x17.Lit,x17.Num,j14.f_level,x17.Assoc,x17.Tag⟩:Tok).Lit,(⟨x17.Name,x17.Lit,x17.Num,j14.f_level,x17.Assoc,x17.Tag⟩:Tok).Num,(⟨x17.Name,x17.Lit,x17.Num,j14.f_level,x17.Assoc,x17.Tag⟩:Tok).Level,w64 (a1.Kind - 1),(⟨x17.Name,x17.Lit,x17.Num,j14.f_level,x17.Assoc,x17.Tag⟩:Tok).Tag⟩:Tok)),oR eNon j14.f_g.Nons,oR eProd_0 j14.f_g.Prods,SS j14.f_g.Pro,SS j14.f_g.Tail,oR eB j14.f_given,oR eNon j14.f_types,oR eS j14.f_lefts,I64 j14.f_e,I64 j14.f_at,SS j14.f_name,I64 j14.f_level,I64 j14.f_inner]) q q (.ptr q) (.lit q) q (idx_set_same hx17) sz3 q q q q q q q (.b q (.n q q (.n q q (.n q q (.e q q (.mk (en:=eTok) q (idx_set_same hx17) q (idx_set_same (idx_set_same hx17)) q) q .nil)))))) q q q q (by kernel_rfl) (by kernel_rfl)<|DL.fin q q q (.n q (.n q (.n q (.n q (.r q (RK.el (en:=eTok) q (idx_set_same (idx_set_same hx17)) q) npPtr .nil)))))) ?_
    obtain rfl:=sm h
    exact Px.jn (.n q (.n q (.n q (.n q (.r q (RK.el (en:=eTok) q (idx_set_same (idx_set_same hx17)) q) npPtr .nil)))))
   ·replace h:=cndF hb13 h
    refine W.sk ?_
    obtain rfl:=sm h
    exact Px.jn (.n q (.n q (.n q (.n q (.r q (RK.el (en:=eTok) q hx11 q) npPtr .nil)))))
  obtain ⟨x18,hx18,h⟩:=bnd h
  refine Px.sq<|W.sq' ?_
  refine W.sq'<|W.rx [(0,_),(4,_),(5,_),(7,_),(8,.ptr ⟨0,[0]⟩ (x10.1.toNat * eTok.z+0)),(88,_)] (Rv (O.fO q (.obj q) fd54_2 q)<|Rv (O.ldO (y:=I64 a2.Num) q (.ptr q) ct3 q q)<|Rv (O.gtr (.lit q) (.k q))<|Fi (.n q (.n q (.n q (.n q (.r q (RK.el (en:=eTok) q hx18 q) npPtr (.n q .nil))))))) ?_
  refine Px.sq ?_
  obtain ⟨j19,hj,h⟩:=bnd h
  refine W.jn [(0,.obj (eyuccaref9_maker_r.cells j19)),(4,.obj (eDecl_0.cells a1)),(5,.obj (eSym.cells a2)),(8,.ptr ⟨0,[0]⟩ (x10.1.toNat * eTok.z+0))] ?_ ?_
  ·clear h; have h:=hj; clear hj
   refine W.cnd q (fun hb20=>?_) (fun hb20=>?_)
   ·replace h:=cndT hb20 h
    refine W.sq'<|W.sq' ?_
    obtain ⟨c25,hj,h⟩:=bnd h
    refine W.rx [(0,.obj (eyuccaref9_maker_r.cells j12)),(4,.obj (eDecl_0.cells a1)),(5,.obj (eSym.cells a2)),(7,I64 x10.1),(8,.ptr ⟨0,[0]⟩ (x10.1.toNat * eTok.z+0)),(106,BB c25)] ?_ ?_
    ·refine Vm q<|Rv (O.eql (.lit q) (.k q))<|Rv (O.mv (.lit q)) ?_
     rcases cnd hj with ⟨hb21,hj⟩ | ⟨hb21,hj⟩
     ·obtain rfl:=sm hj
      exact RunL.ps q q hb21 q q<|RunL.ps q q hb21 q q<|RunL.ps q q hb21 q q<|RunL.ps q q hb21 q q<|RunL.ps q q hb21 q q<|RunL.ps q q hb21 q q<|RunL.ps q q hb21 q q<|Rv (O.pkT (.lit q) hb21 (.k q))<|Vm q<|RunL.ps q q q q q<|RunL.ps q q q q q<|RunL.ps q q q q q<|RunL.ps q q q q q<|RunL.ps q q q q q<|Rv (O.pkT (.lit q) q (.k q))<|Fi (.n q (.n q (.n q (.n q (.r q (RK.el (en:=eTok) q hx18 q) npPtr (.n q .nil))))))
     ·refine RunL.v (O.mv (.obj q)) q q (.yb q q hb21)<|RunL.v (O.nlP (.ptr q)) q q (.yb q q hb21)<|RunL.v (O.fO q (.ptr q) fd175_1 q) q q (.yb q q hb21)<|RunL.v (O.ldO (y:=.brw eB.z ⟨0,[5]⟩ j12.f_given.length) q (.ptr q) ct71 q q) q q (.yb q q hb21)<|RunL.v (O.mv (.lit q)) q q (.yb q q hb21) ?_
      obtain ⟨x22,hx22,hj⟩:=bnd hj
      refine RunL.v (O.ixO (en:=eB) q (.brw q) (.lit q) sl71 hx22 q) q q (.yb q q hb21)<|RunL.v (O.ldE (en:=eB) (x':=BB x22) q (.ptr q) ct4 hx22 q q) q q (.yb q q hb21)<|Rv (O.pkF (.lit q) hb21 (.lit q))<|Rv (O.mv (.lit q)) ?_
      rcases cnd hj with ⟨hb23,hj⟩ | ⟨hb23,hj⟩
      ·obtain rfl:=sm hj
       exact RunL.ps q q hb23 q q<|RunL.ps q q hb23 q q<|RunL.ps q q hb23 q q<|RunL.ps q q hb23 q q<|RunL.ps q q hb23 q q<|Rv (O.pkT (.lit q) hb23 (.k q))<|Fi (.n q (.n q (.n q (.n q (.r q (RK.el (en:=eTok) q hx18 q) npPtr (.n q .nil))))))
      ·refine RunL.v (O.mv (.obj q)) q q (.yb q q hb23)<|RunL.v (O.fO q (.obj q) fd54_2 q) q q (.yb q q hb23)<|RunL.v (O.ldO (y:=I64 a2.Num) q (.ptr q) ct3 q q) q q (.yb q q hb23) ?_
       obtain ⟨x24,hx24,hj⟩:=bnd hj
       obtain rfl:=sm hj
       exact RunL.c (PC.vw (ys:=[.ptr ⟨0,[]⟩ 0,I64 a2.Num]) q (.c (View.p0 q q) (.s .nil)) (CF.go hx24) call116 q) q q (.yb q q hb23)<|RunL.v (O.geq (.lit q) (.k q)) q q (.yb q q hb23)<|Rv (O.pkF (.lit q) hb23 (.lit q))<|Fi (.n q (.n q (.n q (.n q (.r q (RK.el (en:=eTok) q hx18 q) npPtr (.n q .nil))))))
    refine Px.sq ?_
    obtain ⟨j26,hj,h⟩:=bnd h
    refine W.jn [(0,.obj (eyuccaref9_maker_r.cells j26)),(4,.obj (eDecl_0.cells a1)),(5,.obj (eSym.cells a2)),(7,I64 x10.1),(8,.ptr ⟨0,[0]⟩ (x10.1.toNat * eTok.z+0))] ?_ ?_
    ·clear h; have h:=hj; clear hj
     refine W.cnd q (fun hb27=>?_) (fun hb27=>?_)
     ·replace h:=cndT hb27 h
      obtain ⟨x28,hx28,h⟩:=bnd h
      refine W.rx [(0,_),(4,_),(5,_),(7,_),(8,.ptr ⟨0,[0]⟩ (x10.1.toNat * eTok.z+0))] (Rv (O.mv (.obj q))<|Rv (O.fO q (.obj q) fd54_3 q)<|Rv (O.ldO (y:=I64 a2.At) q (.ptr q) ct3 q q)<|Rv (O.fO q (.obj q) fd54_0 q)<|Rv (O.ldO (y:=SS a2.Name) q (.ptr q) ct9 q q)<|RunL.ef (G2:=[(8,.ptr ⟨0,[0]⟩ (x10.1.toNat * eTok.z+0))]++[(112,.tup []),(0,.obj [oR eTok j12.f_g.Toks,oR eNon x28.f_g.Nons,oR eProd_0 x28.f_g.Prods,SS x28.f_g.Pro,SS x28.f_g.Tail,oR eB x28.f_given,oR eNon x28.f_types,oR eS x28.f_lefts,I64 x28.f_e,I64 x28.f_at,SS x28.f_name,I64 x28.f_level,I64 x28.f_inner]),(4,.obj (eDecl_0.cells a1)),(5,.obj (eSym.cells a2)),(7,I64 x10.1)]) q (EO.fr (r:=0) (k0:=0) (y:=oR eTok j12.f_g.Toks) (cs5:=[oR eTok j12.f_g.Toks,oR eNon x28.f_g.Nons,oR eProd_0 x28.f_g.Prods,SS x28.f_g.Pro,SS x28.f_g.Tail,oR eB x28.f_given,oR eNon x28.f_types,oR eS x28.f_lefts,I64 x28.f_e,I64 x28.f_at,SS x28.f_name,I64 x28.f_level,I64 x28.f_inner]) (G1:=fun v=>[(0,.obj [.lit v,oR eNon j12.f_g.Nons,oR eProd_0 j12.f_g.Prods,SS j12.f_g.Pro,SS j12.f_g.Tail,oR eB j12.f_given,oR eNon j12.f_types,oR eS j12.f_lefts,I64 j12.f_e,I64 j12.f_at,SS j12.f_name,I64 j12.f_level,I64 j12.f_inner]),(4,.obj (eDecl_0.cells a1)),(5,.obj (eSym.cells a2)),(7,I64 x10.1),(107,.ptr ⟨0,[]⟩ 0),(109,I64 a2.At),(111,SS a2.Name)]) (G4:=fun v=>[(112,.tup []),(0,.obj [.lit v,oR eNon x28.f_g.Nons,oR eProd_0 x28.f_g.Prods,SS x28.f_g.Pro,SS x28.f_g.Tail,oR eB x28.f_given,oR eNon x28.f_types,oR eS x28.f_lefts,I64 x28.f_e,I64 x28.f_at,SS x28.f_name,I64 x28.f_level,I64 x28.f_inner]),(4,.obj (eDecl_0.cells a1)),(5,.obj (eSym.cells a2)),(7,I64 x10.1)]) (c4:=fun v=>[.lit v,oR eNon x28.f_g.Nons,oR eProd_0 x28.f_g.Prods,SS x28.f_g.Pro,SS x28.f_g.Tail,oR eB x28.f_given,oR eNon x28.f_types,oR eS x28.f_lefts,I64 x28.f_e,I64 x28.f_at,SS x28.f_name,I64 x28.f_level,I64 x28.f_inner]) (G5:=[(112,.tup []),(0,.obj [oR eTok j12.f_g.Toks,oR eNon x28.f_g.Nons,oR eProd_0 x28.f_g.Prods,SS x28.f_g.Pro,SS x28.f_g.Tail,oR eB x28.f_given,oR eNon x28.f_types,oR eS x28.f_lefts,I64 x28.f_e,I64 x28.f_at,SS x28.f_name,I64 x28.f_level,I64 x28.f_inner]),(4,.obj (eDecl_0.cells a1)),(5,.obj (eSym.cells a2)),(7,I64 x10.1)]) (A:=[(8,.ptr ⟨0,[0]⟩ (x10.1.toNat * eTok.z+0))]) q q q q (fun v=>(.b q (.n q q (.n q q (.n q q (.p q q q q q q (.n q q (.n q q .nil)))))))) (fun v=>CallOk.ln (G2:=[(4,.obj (eDecl_0.cells a1)),(5,.obj (eSym.cells a2)),(7,I64 x10.1)]) (A:=[]) (ys:=[.ptr ⟨0,[]⟩ 0,I64 a2.At,SS a2.Name]) (args:=[.obj [.lit v,oR eNon j12.f_g.Nons,oR eProd_0 j12.f_g.Prods,SS j12.f_g.Pro,SS j12.f_g.Tail,oR eB j12.f_given,oR eNon j12.f_types,oR eS j12.f_lefts,I64 j12.f_e,I64 j12.f_at,SS j12.f_name,I64 j12.f_level,I64 j12.f_inner],I64 a2.At,SS a2.Name]) (cs':=[.lit v,oR eNon x28.f_g.Nons,oR eProd_0 x28.f_g.Prods,SS x28.f_g.Pro,SS x28.f_g.Tail,oR eB x28.f_given,oR eNon x28.f_types,oR eS x28.f_lefts,I64 x28.f_e,I64 x28.f_at,SS x28.f_name,I64 x28.f_level,I64 x28.f_inner]) (k0:=0) q q q q (.b q (.n q (.n q .nil))) q (conq88_0 v j12 a2.At a2.Name _ hx28) call88 (tn3 q q q) q q (tn3 q q q) .nil q) (fun v=>q) (fun v=>q) (fun v=>q) (fun v=>(.n q q (.b q (.n q q (.n q q (.n q q .nil)))))) q (.c (en:=eTok) (L:=j12.f_g.Toks) q q hx18 q q q .nil))<|Fi (.n q (.n q (.n q (.n q (.r q (RK.el (en:=eTok) q hx18 q) npPtr .nil)))))) ?_
      obtain rfl:=sm h
      exact Px.jn (.n q (.n q (.n q (.n q (.r q (RK.el (en:=eTok) q hx18 q) npPtr .nil)))))
     ·replace h:=cndF hb27 h
      refine W.sk ?_
      obtain rfl:=sm h
      exact Px.jn (.n q (.n q (.n q (.n q (.r q (RK.el (en:=eTok) q hx18 q) npPtr .nil)))))
    obtain ⟨x29,hx29,h⟩:=bnd h
    refine Px.sq<|W.sq' ?_
    refine W.rx [(0,_),(4,_),(5,_),(7,_),(8,.ptr ⟨0,[0]⟩ (x10.1.toNat * eTok.z+0))] (Rv (O.mv (.ptr q))<|Rv (O.fO q (.obj q) fd54_2 q)<|Rv (O.ldO (y:=I64 a2.Num) q (.ptr q) ct3 q q)<|Rv (O.nlP (.ptr q))<|Rv (O.fE (en:=eTok) q (.ptr q) fd148_2 hx29 q q)<|RunL.ef (G2:=[(0,.obj [oR eTok (j26.f_g.Toks.set x10.1.toNat (⟨x29.Name,x29.Lit,a2.Num,x29.Level,x29.Assoc,x29.Tag⟩:Tok)),oR eNon j26.f_g.Nons,oR eProd_0 j26.f_g.Prods,SS j26.f_g.Pro,SS j26.f_g.Tail,oR eB j26.f_given,oR eNon j26.f_types,oR eS j26.f_lefts,I64 j26.f_e,I64 j26.f_at,SS j26.f_name,I64 j26.f_level,I64 j26.f_inner]),(4,.obj (eDecl_0.cells a1)),(5,.obj (eSym.cells a2)),(7,I64 x10.1),(8,.ptr ⟨0,[0]⟩ (x10.1.toNat * eTok.z+0))]) q (EO.stE (en:=eTok) (y2:=(⟨x29.Name,x29.Lit,a2.Num,x29.Level,x29.Assoc,x29.Tag⟩:Tok)) (cs':=[I64 a2.Num]) (x2:=.obj [oR eTok (j26.f_g.Toks.set x10.1.toNat (⟨x29.Name,x29.Lit,a2.Num,x29.Level,x29.Assoc,x29.Tag⟩:Tok)),oR eNon j26.f_g.Nons,oR eProd_0 j26.f_g.Prods,SS j26.f_g.Pro,SS j26.f_g.Tail,oR eB j26.f_given,oR eNon j26.f_types,oR eS j26.f_lefts,I64 j26.f_e,I64 j26.f_at,SS j26.f_name,I64 j26.f_level,I64 j26.f_inner]) q q (.ptr q) (.lit q) q hx29 sz3 q q q q q q q (.b q (.n q q (.n q q (.n q q (.e q q (.mk (en:=eTok) q hx29 q (idx_set_same hx29) q) q .nil))))))<|Fi (.n q (.n q (.n q (.n q (.r q (RK.el (en:=eTok) q (idx_set_same hx29) q) npPtr .nil)))))) ?_
    refine Px.sq ?_
    obtain ⟨x30,hx30,h⟩:=bnd h
    refine W.rx [(0,_),(4,_),(5,_),(8,.ptr ⟨0,[0]⟩ (x10.1.toNat * eTok.z+0))] (Rv (O.mv (.obj q))<|Rv (O.nlP (.ptr q))<|Rv (O.fO q (.ptr q) fd175_1 q)<|Rv (O.ldO (y:=.brw eB.z ⟨0,[5]⟩ j26.f_given.length) q (.ptr q) ct71 q q)<|Vm q<|Rv (O.ixO (en:=eB) q (.brw q) (.lit q) sl71 hx30 q)<|RunL.ef (G2:=[(0,.obj [oR eTok (j26.f_g.Toks.set x10.1.toNat (⟨x29.Name,x29.Lit,a2.Num,x29.Level,x29.Assoc,x29.Tag⟩:Tok)),oR eNon j26.f_g.Nons,oR eProd_0 j26.f_g.Prods,SS j26.f_g.Pro,SS j26.f_g.Tail,oR eB (j26.f_given.set x10.1.toNat true),oR eNon j26.f_types,oR eS j26.f_lefts,I64 j26.f_e,I64 j26.f_at,SS j26.f_name,I64 j26.f_level,I64 j26.f_inner]),(4,.obj (eDecl_0.cells a1)),(5,.obj (eSym.cells a2)),(8,.ptr ⟨0,[0]⟩ (x10.1.toNat * eTok.z+0))]) q (EO.stE (en:=eB) (y2:=true) (cs':=[BB true]) (x2:=.obj [oR eTok (j26.f_g.Toks.set x10.1.toNat (⟨x29.Name,x29.Lit,a2.Num,x29.Level,x29.Assoc,x29.Tag⟩:Tok)),oR eNon j26.f_g.Nons,oR eProd_0 j26.f_g.Prods,SS j26.f_g.Pro,SS j26.f_g.Tail,oR eB (j26.f_given.set x10.1.toNat true),oR eNon j26.f_types,oR eS j26.f_lefts,I64 j26.f_e,I64 j26.f_at,SS j26.f_name,I64 j26.f_level,I64 j26.f_inner]) q q (.ptr q) (.k q) q hx30 sz4 q q q q q q q (.b q (.n q q (.n q q (.e q q (.mk (en:=eTok) q (idx_set_same hx29) q (idx_set_same hx29) q) q .nil)))))<|Fi (.n q (.n q (.n q (.r q (RK.el (en:=eTok) q (idx_set_same hx29) q) npPtr .nil))))) ?_
    obtain rfl:=sm h
    exact Px.jn (.n q (.n q (.n q (.r q (RK.el (en:=eTok) q (idx_set_same hx29) q) npPtr .nil))))
   ·replace h:=cndF hb20 h
    refine W.sk ?_
    obtain rfl:=sm h
    exact Px.jn (.n q (.n q (.n q (.r q (RK.el (en:=eTok) q hx18 q) npPtr .nil))))
  obtain ⟨x31,hx31,h⟩:=bnd h
  refine Px.sq<|W.sq' ?_
  refine W.rx [(0,_),(4,_),(5,_),(8,.ptr ⟨0,[0]⟩ (x10.1.toNat * eTok.z+0)),(126,_)] (Rv (O.fO q (.obj q) fd62_1 q)<|Rv (O.ldO (y:=SS a1.Tag) q (.ptr q) ct9 q q)<|Rv (O.neS (.lit q) (.k q))<|Fi (.n q (.n q (.n q (.r q (RK.el (en:=eTok) q hx31 q) npPtr (.n q .nil)))))) ?_
  refine Px.sq ?_
  obtain ⟨j32,hj,h⟩:=bnd h
  refine W.jn [(0,.obj (eyuccaref9_maker_r.cells j32))] ?_ ?_
  ·clear h; have h:=hj; clear hj
   refine W.cnd q (fun hb33=>?_) (fun hb33=>?_)
   ·replace h:=cndT hb33 h
    refine W.sq'<|W.sq' ?_
    obtain ⟨c35,hj,h⟩:=bnd h
    refine W.rd [[],[0],[0,1],[0,1,2],[0,1,2,3],rn 0 5 [],rn 0 6 [],rn 0 7 [],rn 0 8 [],rn 0 9 [],rn 0 6 [],rn 0 6 [10],rn 0 12 [],rn 0 13 []] [(0,.obj (eyuccaref9_maker_r.cells j19)),(4,.obj (eDecl_0.cells a1)),(5,.obj (eSym.cells a2)),(8,.ptr ⟨0,[0]⟩ (x10.1.toNat * eTok.z+0)),(140,BB c35)] mixo (by kernel_rfl) ?_ ?_
    ·refine Dv 0 (O.mv (.ptr q))<|Dv 1 (O.nlP (.ptr q))<|Dv 2 (O.fE (en:=eTok) q (.ptr q) fd148_5 hx31 q q)<|Dv 3 (O.ldE (en:=eTok) (x':=SS x31.Tag) q (.ptr q) ct9 hx31 q q)<|Dv 4 (O.neS (.lit q) (.k q))<|Dv 5 (O.mv (.lit q)) ?_
     rcases cnd hj with ⟨hb34,hj⟩ | ⟨hb34,hj⟩
     ·obtain rfl:=sm hj
      exact DL.v 6 (O.mv (.ptr q)) q q q q (.yb q q hb34)<|DL.v 7 (O.nlP (.ptr q)) q q q q (.yb q q hb34)<|DL.v 8 (O.fE (en:=eTok) q (.ptr q) fd148_5 hx31 q q) q q q q (.yb q q hb34)<|DL.v 9 (O.ldE (en:=eTok) (x':=SS x31.Tag) q (.ptr q) ct9 hx31 q q) q q q q (.yb q q hb34)<|DL.v 10 (O.fO q (.obj q) fd62_1 q) q q q q (.yb q q hb34)<|DL.v 11 (O.ldO (y:=SS a1.Tag) q (.ptr q) ct9 q q) q q q q (.yb q q hb34)<|DL.v 12 (O.neS (.lit q) (.lit q)) q q q q (.yb q q hb34)<|Dv 13 (O.pkT (.lit q) hb34 (.lit q))<|DL.fin q q q (.n q (.n q (.n q (.r q (RK.el (en:=eTok) q hx31 q) npPtr (.n q .nil)))))
     ·obtain rfl:=sm hj
      exact DL.ps 6 q q hb34 q q q q<|DL.ps 7 q q hb34 q q q q<|DL.ps 8 q q hb34 q q q q<|DL.ps 9 q q hb34 q q q q<|DL.ps 10 q q hb34 q q q q<|DL.ps 11 q q hb34 q q q q<|DL.ps 12 q q hb34 q q q q<|Dv 13 (O.pkF (.lit q) hb34 (.k q))<|DL.fin q q q (.n q (.n q (.n q (.r q (RK.el (en:=eTok) q hx31 q) npPtr (.n q .nil)))))
    refine Px.sq ?_
    obtain ⟨j36,hj,h⟩:=bnd h
    refine W.jn [(0,.obj (eyuccaref9_maker_r.cells j36)),(4,.obj (eDecl_0.cells a1)),(8,.ptr ⟨0,[0]⟩ (x10.1.toNat * eTok.z+0))] ?_ ?_
    ·clear h; have h:=hj; clear hj
     refine W.cnd q (fun hb37=>?_) (fun hb37=>?_)
     ·replace h:=cndT hb37 h
      obtain ⟨x38,hx38,h⟩:=bnd h
      refine W.rx [(0,_),(4,_),(8,.ptr ⟨0,[0]⟩ (x10.1.toNat * eTok.z+0))] (Rv (O.mv (.obj q))<|Rv (O.fO q (.obj q) fd54_3 q)<|Rv (O.ldO (y:=I64 a2.At) q (.ptr q) ct3 q q)<|Rv (O.fO q (.obj q) fd54_0 q)<|Rv (O.ldO (y:=SS a2.Name) q (.ptr q) ct9 q q)<|RunL.ef (G2:=[(8,.ptr ⟨0,[0]⟩ (x10.1.toNat * eTok.z+0))]++[(146,.tup []),(0,.obj [oR eTok j19.f_g.Toks,oR eNon x38.f_g.Nons,oR eProd_0 x38.f_g.Prods,SS x38.f_g.Pro,SS x38.f_g.Tail,oR eB x38.f_given,oR eNon x38.f_types,oR eS x38.f_lefts,I64 x38.f_e,I64 x38.f_at,SS x38.f_name,I64 x38.f_level,I64 x38.f_inner]),(4,.obj (eDecl_0.cells a1))]) q (EO.fr (r:=0) (k0:=0) (y:=oR eTok j19.f_g.Toks) (cs5:=[oR eTok j19.f_g.Toks,oR eNon x38.f_g.Nons,oR eProd_0 x38.f_g.Prods,SS x38.f_g.Pro,SS x38.f_g.Tail,oR eB x38.f_given,oR eNon x38.f_types,oR eS x38.f_lefts,I64 x38.f_e,I64 x38.f_at,SS x38.f_name,I64 x38.f_level,I64 x38.f_inner]) (G1:=fun v=>[(0,.obj [.lit v,oR eNon j19.f_g.Nons,oR eProd_0 j19.f_g.Prods,SS j19.f_g.Pro,SS j19.f_g.Tail,oR eB j19.f_given,oR eNon j19.f_types,oR eS j19.f_lefts,I64 j19.f_e,I64 j19.f_at,SS j19.f_name,I64 j19.f_level,I64 j19.f_inner]),(4,.obj (eDecl_0.cells a1)),(141,.ptr ⟨0,[]⟩ 0),(143,I64 a2.At),(145,SS a2.Name)]) (G4:=fun v=>[(146,.tup []),(0,.obj [.lit v,oR eNon x38.f_g.Nons,oR eProd_0 x38.f_g.Prods,SS x38.f_g.Pro,SS x38.f_g.Tail,oR eB x38.f_given,oR eNon x38.f_types,oR eS x38.f_lefts,I64 x38.f_e,I64 x38.f_at,SS x38.f_name,I64 x38.f_level,I64 x38.f_inner]),(4,.obj (eDecl_0.cells a1))]) (c4:=fun v=>[.lit v,oR eNon x38.f_g.Nons,oR eProd_0 x38.f_g.Prods,SS x38.f_g.Pro,SS x38.f_g.Tail,oR eB x38.f_given,oR eNon x38.f_types,oR eS x38.f_lefts,I64 x38.f_e,I64 x38.f_at,SS x38.f_name,I64 x38.f_level,I64 x38.f_inner]) (G5:=[(146,.tup []),(0,.obj [oR eTok j19.f_g.Toks,oR eNon x38.f_g.Nons,oR eProd_0 x38.f_g.Prods,SS x38.f_g.Pro,SS x38.f_g.Tail,oR eB x38.f_given,oR eNon x38.f_types,oR eS x38.f_lefts,I64 x38.f_e,I64 x38.f_at,SS x38.f_name,I64 x38.f_level,I64 x38.f_inner]),(4,.obj (eDecl_0.cells a1))]) (A:=[(8,.ptr ⟨0,[0]⟩ (x10.1.toNat * eTok.z+0))]) q q q q (fun v=>(.b q (.n q q (.p q q q q q q (.n q q (.n q q .nil)))))) (fun v=>CallOk.ln (G2:=[(4,.obj (eDecl_0.cells a1))]) (A:=[]) (ys:=[.ptr ⟨0,[]⟩ 0,I64 a2.At,SS a2.Name]) (args:=[.obj [.lit v,oR eNon j19.f_g.Nons,oR eProd_0 j19.f_g.Prods,SS j19.f_g.Pro,SS j19.f_g.Tail,oR eB j19.f_given,oR eNon j19.f_types,oR eS j19.f_lefts,I64 j19.f_e,I64 j19.f_at,SS j19.f_name,I64 j19.f_level,I64 j19.f_inner],I64 a2.At,SS a2.Name]) (cs':=[.lit v,oR eNon x38.f_g.Nons,oR eProd_0 x38.f_g.Prods,SS x38.f_g.Pro,SS x38.f_g.Tail,oR eB x38.f_given,oR eNon x38.f_types,oR eS x38.f_lefts,I64 x38.f_e,I64 x38.f_at,SS x38.f_name,I64 x38.f_level,I64 x38.f_inner]) (k0:=0) q q q q (.b q (.n q (.n q .nil))) q (conq88_0 v j19 a2.At a2.Name _ hx38) call88 (.n q .nil) q q (.n q .nil) .nil q) (fun v=>q) (fun v=>q) (fun v=>q) (fun v=>(.n q q (.b q (.n q q .nil)))) q (.c (en:=eTok) (L:=j19.f_g.Toks) q q hx31 q q q .nil))<|Fi (.n q (.n q (.r q (RK.el (en:=eTok) q hx31 q) npPtr .nil)))) ?_
      obtain rfl:=sm h
      exact Px.jn (.n q (.n q (.r q (RK.el (en:=eTok) q hx31 q) npPtr .nil)))
     ·replace h:=cndF hb37 h
      refine W.sk ?_
      obtain rfl:=sm h
      exact Px.jn (.n q (.n q (.r q (RK.el (en:=eTok) q hx31 q) npPtr .nil)))
    obtain ⟨x39,hx39,h⟩:=bnd h
    refine Px.sq<|W.rx [(0,_)] (Rv (O.mv (.ptr q))<|Rv (O.fO q (.obj q) fd62_1 q)<|Rv (O.ldO (y:=SS a1.Tag) q (.ptr q) ct9 q q)<|Rv (O.nlP (.ptr q))<|Rv (O.fE (en:=eTok) q (.ptr q) fd148_5 hx39 q q)<|RunL.ef (G2:=[(0,.obj [oR eTok (j36.f_g.Toks.set x10.1.toNat (⟨x39.Name,x39.Lit,x39.Num,x39.Level,x39.Assoc,a1.Tag⟩:Tok)),oR eNon j36.f_g.Nons,oR eProd_0 j36.f_g.Prods,SS j36.f_g.Pro,SS j36.f_g.Tail,oR eB j36.f_given,oR eNon j36.f_types,oR eS j36.f_lefts,I64 j36.f_e,I64 j36.f_at,SS j36.f_name,I64 j36.f_level,I64 j36.f_inner])]) q (EO.stE (en:=eTok) (y2:=(⟨x39.Name,x39.Lit,x39.Num,x39.Level,x39.Assoc,a1.Tag⟩:Tok)) (cs':=[SS a1.Tag]) (x2:=.obj [oR eTok (j36.f_g.Toks.set x10.1.toNat (⟨x39.Name,x39.Lit,x39.Num,x39.Level,x39.Assoc,a1.Tag⟩:Tok)),oR eNon j36.f_g.Nons,oR eProd_0 j36.f_g.Prods,SS j36.f_g.Pro,SS j36.f_g.Tail,oR eB j36.f_given,oR eNon j36.f_types,oR eS j36.f_lefts,I64 j36.f_e,I64 j36.f_at,SS j36.f_name,I64 j36.f_level,I64 j36.f_inner]) q q (.ptr q) (.lit q) q hx39 sz9 q q q q q q q (.b q .nil))<|Fi (.n q .nil)) ?_
    obtain rfl:=sm h
    exact Px.jn (.n q .nil)
   ·replace h:=cndF hb33 h
    refine W.sk ?_
    obtain rfl:=sm h
    exact Px.jn (.n q .nil)
  obtain rfl:=sm h
  exact Px.fin (Fin.ro .nil q (ode (by kernel_rfl)) (.so q q (.no (.no .nil))) q (.inl q))
instance con87 {a0:yuccaref9_maker}{a1:Decl}{a2:Sym}{r:yuccaref9_maker}:CF Tryz.prog 87 (pf87 a0 a1 a2=some r) [.obj (eyuccaref9_maker_r.cells a0),.agg (eDecl_0.cells a1),.agg (eSym.cells a2)] [some (.obj [oR eTok r.f_g.Toks,oR eNon r.f_g.Nons,oR eProd_0 r.f_g.Prods,SS r.f_g.Pro,SS r.f_g.Tail,oR eB r.f_given,oR eNon r.f_types,oR eS r.f_lefts,I64 r.f_e,I64 r.f_at,SS r.f_name,I64 r.f_level,I64 r.f_inner]),none,none] (.tup []):=⟨con87l a0 a1 a2 _⟩
instance con90 {a0:yuccaref9_maker}{a1:ByteArray}{r:Int}:CF Tryz.prog 90 (pf90 a0 a1=some r) [.iptr ([iR eTok a0.f_g.Toks,iR eNon a0.f_g.Nons,iR eProd_0 a0.f_g.Prods,SS a0.f_g.Pro,SS a0.f_g.Tail,iR eB a0.f_given,iR eNon a0.f_types,iR eS a0.f_lefts,I64 a0.f_e,I64 a0.f_at,SS a0.f_name,I64 a0.f_level,I64 a0.f_inner]),SS a1] [none,none] (I64 r):=⟨fun h=>by unfold pf90 at h; exact Con.au (N:=⟨25,[]⟩) [0,1,4,5,12,23] (.l2 (fun (s1:Int)=>[(5,I64 s1)]) [0,1,5] 0 (fun (x3:Unit)=>[]) [] (fun (x4:Int)=>[(4,I64 x4)]) [4] .e .e .e) Tryz.func90 rfl rfl rfl rfl rfl go⟩
instance con117 {a0:yuccaref9_maker}{a1:Sym}{r:Int × yuccaref9_maker}:CF Tryz.prog 117 (pf117 a0 a1=some r) [.obj (eyuccaref9_maker_r.cells a0),.agg (eSym.cells a1)] [some (.obj [oR eTok r.2.f_g.Toks,oR eNon r.2.f_g.Nons,oR eProd_0 r.2.f_g.Prods,SS r.2.f_g.Pro,SS r.2.f_g.Tail,oR eB r.2.f_given,oR eNon r.2.f_types,oR eS r.2.f_lefts,I64 r.2.f_e,I64 r.2.f_at,SS r.2.f_name,I64 r.2.f_level,I64 r.2.f_inner]),none] (I64 r.1):=⟨fun h=>by unfold pf117 at h; exact Con.au (N:=⟨32,[0]⟩) [0,3,4,5,6,8,17,24] .e Tryz.func117 rfl rfl rfl rfl rfl go⟩
theorem con91l (a0:yuccaref9_maker) (a1:ByteArray) (a2:Alt) (r:yuccaref9_maker) (h:pf91 a0 a1 a2=some r):Con Tryz.prog 91 [.obj (eyuccaref9_maker_r.cells a0),SS a1,.agg (eAlt_0.cells a2)] [some (.obj [oR eTok r.f_g.Toks,oR eNon r.f_g.Nons,oR eProd_0 r.f_g.Prods,SS r.f_g.Pro,SS r.f_g.Tail,oR eB r.f_given,oR eNon r.f_types,oR eS r.f_lefts,I64 r.f_e,I64 r.f_at,SS r.f_name,I64 r.f_level,I64 r.f_inner]),none,none] (.tup []):=by
 unfold pf91 at h
 refine Con.go (N:=⟨173,[0]⟩) Tryz.func91 q q q q (W.fin ?_)
 refine W.st [(0,.obj (eyuccaref9_maker_r.cells a0)),(1,SS a1),(2,.agg (eAlt_0.cells a2))] ?_
 refine W.sq'<|W.rx [(0,_),(1,_),(5,_)] (Rv (O.box (.aggF q q) q)<|Fi (tn3 q q q)) ?_
 refine Px.sq<|W.sq' ?_
 obtain ⟨x1,hx1,h⟩:=bnd h
 refine W.rd [[],[],[0,1],[0,1,2],[],[4],rn 0 6 [],[],rn 0 8 []] [(0,_),(5,_),(6,_)] mixo (by kernel_rfl) (Dv 0 (O.mv (.obj q))<|Dv 1 (O.mv (.lit q))<|Dc 2 (PC.vw (ys:=[.ptr ⟨0,[]⟩ 0,SS a1]) q (.c (View.p0 q q) (.s .nil)) (CF.go hx1) call90 q)<|Dv 3 (O.add (.k q) (.lit q))<|Dv 4 (O.fO q (.obj q) fd56_2 q)<|Dv 5 (O.ldO (y:=I64 a2.At) q (.ptr q) ct3 q q)<|Dv 6 (O.bu (cs:=[I64 (w64 (1+x1)),.nils,I64 (-1),SS S0,.nils,I64 a2.At]) sc143 ze143 q q q)<|Dv 7 (O.al (cs:=[I64 0,.nils,I64 0,SS S0,.nils,I64 0]) ze143 q q)<|DL.sO 8 (G2:=[(0,.obj (eyuccaref9_maker_r.cells a0)),(5,.obj (eAlt_0.cells a2)),(6,.obj [I64 (w64 (1+x1)),.nils,I64 (-1),SS S0,.nils,I64 a2.At])]) (cs2:=[I64 (w64 (1+x1)),.nils,I64 (-1),SS S0,.nils,I64 a2.At]) q (by kernel_rfl) (by kernel_rfl) q q q (.obj q) (.aggF q q) q sz143 q q q q (.n q q (.n q q (.b q .nil)))<|DL.fin q q q (tn3 q q q)) ?_
 refine Px.sq<|W.sq' ?_
 refine W.sq'<|W.rx [(0,_),(5,_),(6,_),(7,_)] (Vk q<|Fi (tn4 q q q q)) ?_
 refine Px.sq<|W.bk ?_
 obtain ⟨x3,hl,h⟩:=bnd h
 refine W.tr (G1:=[(0,_),(5,_),(6,.obj [I64 (w64 (1+x1)),oR eI ([]:List Int),I64 (-1),SS S0,.nils,I64 a2.At]),(7,_)]) (.n q (.n q (.w q q (WkL.obj (.f (.o (.f (.f (.f (.f .nil))))))) (.n q .nil)))) ?_
 refine W.lp1 (s:=(a0,([]:List Int),S0,a2.At,0)) (fun (s2:yuccaref9_maker × List Int × ByteArray × Int × Int)=>[(0,.obj (eyuccaref9_maker_r.cells s2.1)),(5,.obj (eAlt_0.cells a2)),(6,.obj [I64 (w64 (1+x1)),oR eI s2.2.1,I64 (-1),SS s2.2.2.1,.nils,I64 s2.2.2.2.1]),(7,I64 s2.2.2.2.2)]) 0 (fun (x3:yuccaref9_maker × List Int × ByteArray × Int)=>[(0,.obj (eyuccaref9_maker_r.cells x3.1)),(5,.obj (eAlt_0.cells a2)),(6,.obj [I64 (w64 (1+x1)),oR eI x3.2.1,I64 (-1),SS x3.2.2.1,.nils,I64 x3.2.2.2])]) hl (fun s2 o h=>?_) ?_
 ·clear hl
  refine W.sq'<|W.sq' ?_
  refine W.rx [(0,_),(5,_),(6,_),(7,_),(21,_)] (Vm q<|Rv (O.fO q (.obj q) fd56_0 q)<|Rv (O.ldO (y:=iR ePart a2.Parts) q (.ptr q) ct52 q q)<|Rv (O.lenI (.imm q) sl52)<|Rv (O.lss (.lit q) (.lit q))<|Fi (tn5 q q q q q)) ?_
  refine Px.sq<|W.cnd q (fun hb5=>?_) (fun hb5=>?_)
  ·replace h:=cndT hb5 h
   refine W.sk<|Px.sq ?_
   refine W.sq' ?_
   obtain ⟨j6,hj,h⟩:=bnd h
   refine W.jn [(0,.obj (eyuccaref9_maker_r.cells j6.1)),(5,.obj (eAlt_0.cells a2)),(6,.obj [I64 (w64 (1+x1)),oR eI j6.2.1,I64 (-1),SS j6.2.2.1,.nils,I64 j6.2.2.2]),(7,I64 s2.2.2.2.2)] ?_ ?_
   ·clear h; have h:=hj; clear hj
    refine W.bk<|W.sq' ?_
    obtain ⟨x7,hx7,h⟩:=bnd h
    refine W.rx [(0,_),(5,_),(6,_),(7,_),(8,_)] (Rv (O.fO q (.obj q) fd56_0 q)<|Rv (O.ldO (y:=iR ePart a2.Parts) q (.ptr q) ct52 q q)<|Vm q<|Rv (O.ixI (.imm q) (.lit q) sl52 hx7)<|Rv (O.ldIN (cs':=[SS x7.Sym.Name,BB x7.Sym.Lit,I64 x7.Sym.Num,I64 x7.Sym.At,SS x7.Code,I64 x7.At]) (.iptr q) at59 q q)<|Rv (O.al (cs:=[SS S0,BB false,I64 0,I64 0,SS S0,I64 0]) ze59 q q)<|RunL.sO (G2:=[(0,_),(5,_),(6,_),(7,_),(8,_)]) (cs2:=[SS x7.Sym.Name,BB x7.Sym.Lit,I64 x7.Sym.Num,I64 x7.Sym.At,SS x7.Code,I64 x7.At]) q (.obj q) (.aggF q q) q sz59 q q q q (.n q q (.n q q (.n q q (.n q q (.b q .nil)))))<|Fi (tn5 q q q q q)) ?_
    refine Px.sq ?_
    obtain ⟨j8,hj,h⟩:=bnd h
    refine W.jn [(0,.obj (eyuccaref9_maker_r.cells j8.1)),(5,.obj (eAlt_0.cells a2)),(6,.obj [I64 (w64 (1+x1)),oR eI j8.2.1,I64 (-1),SS j8.2.2.1,.nils,I64 j8.2.2.2]),(7,I64 s2.2.2.2.2)] ?_ ?_
    ·clear h; have h:=hj; clear hj
     refine W.bk<|W.sq' ?_
     refine W.rx [(0,_),(5,_),(6,_),(7,_),(8,_),(82,_)] (Rv (O.fO q (.obj q) fd59_1 q)<|Rv (O.ldO (y:=SS x7.Code) q (.ptr q) ct9 q q)<|Rv (O.eqS (.lit q) (.k q))<|Va q<|Fi (tn6 q q q q q q)) ?_
     refine Px.sq ?_
     obtain ⟨j9,hj,h⟩:=bnd h
     refine W.jn [(0,.obj (eyuccaref9_maker_r.cells j9.1)),(5,.obj (eAlt_0.cells a2)),(6,.obj [I64 (w64 (1+x1)),oR eI j9.2.1,I64 (-1),SS j9.2.2.1,.nils,I64 j9.2.2.2]),(7,I64 s2.2.2.2.2)] ?_ ?_
     ·clear h; have h:=hj; clear hj
      refine W.cnd q (fun hb10=>?_) (fun hb10=>?_)
      ·replace h:=cndT hb10 h
       obtain ⟨x11,hx11,h⟩:=bnd h
       obtain ⟨x12,hx12,h⟩:=bnd h
       refine W.rd [[],[0],[],[],[3],[2,3,4],[2,3,4,5],rn 0 7 [],rn 0 8 [],rn 0 9 []] [(0,_),(5,_),(6,_),(7,_)] mixo (by kernel_rfl) (Dv 0 (O.fO q (.obj q) fd143_1 q)<|Dv 1 (O.ldO (y:=.brw eI.z ⟨6,[1]⟩ s2.2.1.length) q (.ptr q) ct27 q q)<|Dv 2 (O.mv (.obj q))<|Dv 3 (O.fO q (.obj q) fd59_0 q)<|Dv 4 (O.ldON (cs':=[SS x7.Sym.Name,BB x7.Sym.Lit,I64 x7.Sym.Num,I64 x7.Sym.At]) q (.ptr q) at54 q q)<|DL.bu 5 (G2:=(6,.obj [I64 (w64 (1+x1)),oR eI s2.2.1,I64 (-1),SS s2.2.2.1,.nils,I64 s2.2.2.2.1])::[(91,I64 x11.1),(0,.obj [oR eTok x11.2.f_g.Toks,oR eNon x11.2.f_g.Nons,oR eProd_0 x11.2.f_g.Prods,SS x11.2.f_g.Pro,SS x11.2.f_g.Tail,oR eB x11.2.f_given,oR eNon x11.2.f_types,oR eS x11.2.f_lefts,I64 x11.2.f_e,I64 x11.2.f_at,SS x11.2.f_name,I64 x11.2.f_level,I64 x11.2.f_inner]),(5,.obj (eAlt_0.cells a2)),(7,I64 s2.2.2.2.2)]) (U:=[(1,87,some (.brw eI.z ⟨6,[1]⟩ s2.2.1.length)),(0,86,some (.ptr ⟨6,[]⟩ 1))]) (EffV.box (r:=6) (G1:=[(0,.obj (eyuccaref9_maker_r.cells s2.1)),(5,.obj (eAlt_0.cells a2)),(7,I64 s2.2.2.2.2),(88,.ptr ⟨0,[]⟩ 0),(90,.agg (eSym.cells x7.Sym))]) (G2:=[(91,I64 x11.1),(0,.obj [oR eTok x11.2.f_g.Toks,oR eNon x11.2.f_g.Nons,oR eProd_0 x11.2.f_g.Prods,SS x11.2.f_g.Pro,SS x11.2.f_g.Tail,oR eB x11.2.f_given,oR eNon x11.2.f_types,oR eS x11.2.f_lefts,I64 x11.2.f_e,I64 x11.2.f_at,SS x11.2.f_name,I64 x11.2.f_level,I64 x11.2.f_inner]),(5,.obj (eAlt_0.cells a2)),(7,I64 s2.2.2.2.2)]) (EO.call q q (CallOk.ln (G2:=[(5,.obj (eAlt_0.cells a2)),(7,I64 s2.2.2.2.2)]) (A:=[]) (ys:=[.ptr ⟨0,[]⟩ 0,.agg (eSym.cells x7.Sym)]) (args:=[.obj (eyuccaref9_maker_r.cells s2.1),.agg (eSym.cells x7.Sym)]) (cs':=[oR eTok x11.2.f_g.Toks,oR eNon x11.2.f_g.Nons,oR eProd_0 x11.2.f_g.Prods,SS x11.2.f_g.Pro,SS x11.2.f_g.Tail,oR eB x11.2.f_given,oR eNon x11.2.f_types,oR eS x11.2.f_lefts,I64 x11.2.f_e,I64 x11.2.f_at,SS x11.2.f_name,I64 x11.2.f_level,I64 x11.2.f_inner]) (k0:=0) q q q q (.b q (.n q .nil)) q (CF.go hx11) call117 (tn2 q q) q q (tn2 q q) .nil q)) q (.n q (.n q (.n q (.q q q q (.n q .nil))))) q q q) q q (by kernel_rfl) q q q (.c (.inl ⟨6,[1],_,_,_,_,q,by simp [rsV],q,q,Nat.le_refl _⟩) q q q q q (Gd.wanted .none) (O.ldO (y:=.brw eI.z ⟨6,[1]⟩ s2.2.1.length) q (.ptr q) ct27 q q) (.c (.inr (.inr (.inr (.inl ⟨6,_,_,q,q,of_blt q,by simp,_,q,of_blt q⟩)))) q q q q q (Gd.wanted .none) (O.fO q (.obj q) fd143_1 q) .nil)) (by kernel_rfl)<|DL.vi 6 (x:=iR eI [x11.1]) (O.bs (ys:=[I64 x11.1]) eI [x11.1] sl27 q q q q q q zt3 q q) q q q q .none<|Dv 7 (O.ap (en:=eI) (r:=x12) (.brw q) q (.imm q) .i ap27 q hx12)<|Dv 8 (O.fO q (.obj q) fd143_1 q)<|DL.bp 9 (G2:=[(0,.obj (eyuccaref9_maker_r.cells x11.2)),(5,.obj (eAlt_0.cells a2)),(6,.obj [I64 (w64 (1+x1)),oR eI (s2.2.1++[x11.1]),I64 (-1),SS s2.2.2.1,.nils,I64 s2.2.2.2.1]),(7,I64 s2.2.2.2.2)]) (EO.stP (g1:=_) (en:=eI) (M:=[x11.1]) (cs2:=[I64 (w64 (1+x1)),oR eI (s2.2.1++[x11.1]),I64 (-1),SS s2.2.2.1,.nils,I64 s2.2.2.2.1]) q q (.ptr q) (.pend q) q q q .ns .rf q q sz27 q q q q (.n q q (.n q q (.b q (.n q q .nil))))) q q q q (by kernel_rfl) (by kernel_rfl)<|DL.fin q q q (tn4 q q q q)) ?_
       obtain rfl:=sm h
       exact Px.jn (tn4 q q q q)
      ·replace h:=cndF hb10 h
       refine W.sq'<|W.rx [(0,_),(5,_),(6,_),(7,_),(8,_),(95,_)] (Vm q<|Rv (O.add (.lit q) (.k q))<|Rv (O.fO q (.obj q) fd56_0 q)<|Rv (O.ldO (y:=iR ePart a2.Parts) q (.ptr q) ct52 q q)<|Rv (O.lenI (.imm q) sl52)<|Rv (O.eql (.lit q) (.lit q))<|Va q<|Fi (tn6 q q q q q q)) ?_
       refine Px.sq ?_
       obtain ⟨j13,hj,h⟩:=bnd h
       refine W.jn [(0,.obj [oR eTok s2.1.f_g.Toks,oR eNon s2.1.f_g.Nons,oR eProd_0 j13.1,SS s2.1.f_g.Pro,SS s2.1.f_g.Tail,oR eB s2.1.f_given,oR eNon s2.1.f_types,oR eS s2.1.f_lefts,I64 s2.1.f_e,I64 s2.1.f_at,SS s2.1.f_name,I64 s2.1.f_level,I64 j13.2.1]),(5,.obj (eAlt_0.cells a2)),(6,.obj [I64 (w64 (1+x1)),oR eI j13.2.2.1,I64 (-1),SS j13.2.2.2.1,.nils,I64 j13.2.2.2.2]),(7,I64 s2.2.2.2.2)] ?_ ?_
       ·clear h; have h:=hj; clear hj
        refine W.cnd q (fun hb14=>?_) (fun hb14=>?_)
        ·replace h:=cndT hb14 h
         refine W.rd [[],[0],[],[2],[0,1],[0,1,4],rn 0 6 [],rn 0 7 []] [(0,_),(5,_),(6,_),(7,_)] mixo (by kernel_rfl) (Dv 0 (O.fO q (.obj q) fd59_1 q)<|Dv 1 (O.ldO (y:=SS x7.Code) q (.ptr q) ct9 q q)<|Dv 2 (O.fO q (.obj q) fd59_2 q)<|Dv 3 (O.ldO (y:=I64 x7.At) q (.ptr q) ct3 q q)<|Dv 4 (O.fO q (.obj q) fd143_3 q)<|DL.bu 5 (G2:=[(0,.obj (eyuccaref9_maker_r.cells s2.1)),(5,.obj (eAlt_0.cells a2)),(6,.obj [I64 (w64 (1+x1)),oR eI s2.2.1,I64 (-1),SS x7.Code,.nils,I64 s2.2.2.2.1]),(7,I64 s2.2.2.2.2),(8,.obj (ePart.cells x7))]) (U:=[(3,105,some (I64 x7.At)),(2,104,some (.ptr ⟨8,[]⟩ 5))]) (EffOk.v (EO.eff (EO.sO (G2:=[(0,.obj (eyuccaref9_maker_r.cells s2.1)),(5,.obj (eAlt_0.cells a2)),(6,.obj [I64 (w64 (1+x1)),oR eI s2.2.1,I64 (-1),SS x7.Code,.nils,I64 s2.2.2.2.1]),(7,I64 s2.2.2.2.2),(8,.obj (ePart.cells x7))]) (cs2:=[I64 (w64 (1+x1)),oR eI s2.2.1,I64 (-1),SS x7.Code,.nils,I64 s2.2.2.2.1]) q q q (.ptr q) (.lit q) q sz9 q q q q (.n q q (.n q q (.b q (.n q q (.n q q .nil)))))))) q q (by kernel_rfl) q q q (.c (.inr (.inl ⟨_,q⟩)) q q q q q (Gd.wanted .none) (O.ldO (y:=I64 x7.At) q (.ptr q) ct3 q q) (.c (.inr (.inr (.inr (.inl ⟨8,_,_,q,q,of_blt q,by simp,_,q,of_blt q⟩)))) q q q q q (Gd.wanted .none) (O.fO q (.obj q) fd59_2 q) .nil)) (by kernel_rfl)<|Dv 6 (O.fO q (.obj q) fd143_5 q)<|DL.sO 7 (G2:=[(0,.obj (eyuccaref9_maker_r.cells s2.1)),(5,.obj (eAlt_0.cells a2)),(6,.obj [I64 (w64 (1+x1)),oR eI s2.2.1,I64 (-1),SS x7.Code,.nils,I64 x7.At]),(7,I64 s2.2.2.2.2)]) (cs2:=[I64 (w64 (1+x1)),oR eI s2.2.1,I64 (-1),SS x7.Code,.nils,I64 x7.At]) q (by kernel_rfl) (by kernel_rfl) q q q (.ptr q) (.lit q) q sz3 q q q q (.n q q (.n q q (.b q (.n q q .nil))))<|DL.fin q q q (tn4 q q q q)) ?_
         obtain rfl:=sm h
         exact Px.jn (tn4 q q q q)
        ·replace h:=cndF hb14 h
         refine W.sq'<|W.rx [(0,_),(5,_),(6,_),(7,_),(8,_)] (Rv (O.mv (.obj q))<|Rv (O.nlP (.ptr q))<|Rv (O.fO q (.ptr q) fd175_8 q)<|Rv (O.ldO (y:=I64 s2.1.f_inner) q (.ptr q) ct3 q q)<|Rv (O.add (.lit q) (.k q))<|Rv (O.nlP (.ptr q))<|Rv (O.fO q (.ptr q) fd175_8 q)<|RunL.sO (G2:=[(0,_),(5,_),(6,_),(7,_),(8,_)]) (cs2:=[oR eTok s2.1.f_g.Toks,oR eNon s2.1.f_g.Nons,oR eProd_0 s2.1.f_g.Prods,SS s2.1.f_g.Pro,SS s2.1.f_g.Tail,oR eB s2.1.f_given,oR eNon s2.1.f_types,oR eS s2.1.f_lefts,I64 s2.1.f_e,I64 s2.1.f_at,SS s2.1.f_name,I64 s2.1.f_level,I64 (w64 (s2.1.f_inner+1))]) q (.ptr q) (.lit q) q sz3 q q q q (.b q (.n q q (.n q q (.n q q (.n q q .nil)))))<|Fi (tn5 q q q q q)) ?_
         refine Px.sq<|W.sq' ?_
         obtain ⟨x15,hx15,h⟩:=bnd h
         obtain ⟨x16,hx16,h⟩:=bnd h
         refine W.rd [[],[],[1],[1,2],[1,2,3],[1,2,3,4],[],[6],[6,7],[6,7,8],[6,7,8,9],[],[11],[11,12],[11,12,13],rn 6 9 [],[],[16],[],[],[19],[18,19,20],[],[22],rn 6 18 [],rn 6 19 [],rn 1 25 [],rn 0 27 [],rn 0 28 [],rn 0 29 [],rn 0 30 []] [(0,_),(5,_),(6,_),(7,_)] mixo (by kernel_rfl) (Dv 0 (O.mv (.obj q))<|Dv 1 (O.mv (.obj q))<|Dv 2 (O.nlP (.ptr q))<|Dv 3 (O.fO q (.ptr q) fd175_0 q)<|Dv 4 (O.fO q (.ptr q) fd38_2 q)<|Dv 5 (O.ldO (y:=.brw eProd_0.z ⟨0,[2]⟩ s2.1.f_g.Prods.length) q (.ptr q) ct36 q q)<|Dv 6 (O.mv (.obj q))<|Dv 7 (O.nlP (.ptr q))<|Dv 8 (O.fO q (.ptr q) fd175_3 q)<|Dv 9 (O.ldO (y:=.brw eS.z ⟨0,[7]⟩ s2.1.f_lefts.length) q (.ptr q) ct104 q q)<|Dv 10 (O.lenO (.brw q) sl104)<|Dv 11 (O.mv (.obj q))<|Dv 12 (O.nlP (.ptr q))<|Dv 13 (O.fO q (.ptr q) fd175_8 q)<|Dv 14 (O.ldO (y:=I64 (w64 (s2.1.f_inner+1))) q (.ptr q) ct3 q q)<|Dv 15 (O.add (.lit q) (.lit q))<|Dv 16 (O.fO q (.obj q) fd59_1 q)<|Dv 17 (O.ldO (y:=SS x7.Code) q (.ptr q) ct9 q q)<|Dv 18 (O.bs (ys:=[]) eI ([]:List Int) sl27 q q q q q q zt3 q q)<|Dv 19 (O.fO q (.obj q) fd143_1 q)<|Dv 20 (O.ldO (y:=.brw eI.z ⟨6,[1]⟩ s2.2.1.length) q (.ptr q) ct27 q q)<|Dv 21 (O.ap (en:=eI) (r:=x15) (.own q) q (.brw q) (.flat eI q) ap27 q hx15)<|Dv 22 (O.fO q (.obj q) fd59_2 q)<|Dv 23 (O.ldO (y:=I64 x7.At) q (.ptr q) ct3 q q)<|Dv 24 (O.bu (cs:=[I64 (w64 ((s2.1.f_lefts.length:Int)+(w64 (s2.1.f_inner+1)))),.nils,I64 (-1),SS x7.Code,.brw eI.z ⟨57,[]⟩ (([]:List Int).length+s2.2.1.length),I64 x7.At]) sc143 ze143 q q q)<|Dv 25 (O.bsL (ys:=[.agg [I64 (w64 ((s2.1.f_lefts.length:Int)+(w64 (s2.1.f_inner+1)))),.nils,I64 (-1),SS x7.Code,.brw eI.z ⟨57,[]⟩ (([]:List Int).length+s2.2.1.length),I64 x7.At]]) (cs:=[I64 (w64 ((s2.1.f_lefts.length:Int)+(w64 (s2.1.f_inner+1)))),.nils,I64 (-1),SS x7.Code,.brw eI.z ⟨57,[]⟩ (([]:List Int).length+s2.2.1.length),I64 x7.At]) sl36 q q q q q zt143 q q)<|Dv 26 (O.apL' (en:=eProd_0) (M:=[(⟨w64 ((s2.1.f_lefts.length:Int)+(w64 (s2.1.f_inner+1))),([]:List Int),(-1),x7.Code,([]:List Int)++s2.2.1,x7.At⟩:Prod)]) (r:=x16) (.brw q) q (.own q) q q q q ap36 q hx16 (noQ_spec (by kernel_rfl) (by kernel_rfl)))<|Dv 27 (O.nlP (.ptr q))<|Dv 28 (O.fO q (.ptr q) fd175_0 q)<|Dv 29 (O.fO q (.ptr q) fd38_2 q)<|DL.bp 30 (G2:=[(0,.obj [oR eTok s2.1.f_g.Toks,oR eNon s2.1.f_g.Nons,oR eProd_0 (s2.1.f_g.Prods++[(⟨w64 ((s2.1.f_lefts.length:Int)+(w64 (s2.1.f_inner+1))),([]:List Int),(-1),x7.Code,([]:List Int)++s2.2.1,x7.At⟩:Prod)]),SS s2.1.f_g.Pro,SS s2.1.f_g.Tail,oR eB s2.1.f_given,oR eNon s2.1.f_types,oR eS s2.1.f_lefts,I64 s2.1.f_e,I64 s2.1.f_at,SS s2.1.f_name,I64 s2.1.f_level,I64 (w64 (s2.1.f_inner+1))]),(5,.obj (eAlt_0.cells a2)),(6,.obj [I64 (w64 (1+x1)),oR eI s2.2.1,I64 (-1),SS s2.2.2.1,.nils,I64 s2.2.2.2.1]),(7,I64 s2.2.2.2.2)]) (EO.stP (g1:=_) (en:=eProd_0) (M:=[(⟨w64 ((s2.1.f_lefts.length:Int)+(w64 (s2.1.f_inner+1))),([]:List Int),(-1),x7.Code,([]:List Int)++s2.2.1,x7.At⟩:Prod)]) (cs2:=[oR eTok s2.1.f_g.Toks,oR eNon s2.1.f_g.Nons,oR eProd_0 (s2.1.f_g.Prods++[(⟨w64 ((s2.1.f_lefts.length:Int)+(w64 (s2.1.f_inner+1))),([]:List Int),(-1),x7.Code,([]:List Int)++s2.2.1,x7.At⟩:Prod)]),SS s2.1.f_g.Pro,SS s2.1.f_g.Tail,oR eB s2.1.f_given,oR eNon s2.1.f_types,oR eS s2.1.f_lefts,I64 s2.1.f_e,I64 s2.1.f_at,SS s2.1.f_name,I64 s2.1.f_level,I64 (w64 (s2.1.f_inner+1))]) q q (.ptr q) (.pend q) q q q (.f (.f (.f (.f (.pn q q q .ns (.f .nil)))))) (.f (.z (.f (.f (.z (hv:=Vw.pn q q) (.f .nil)))))) q q sz36 q q q q (.b q (.n q q (.n q q (.n q q .nil))))) q q q q (by kernel_rfl) (by kernel_rfl)<|DL.fin q q q (tn4 q q q q)) ?_
         refine Px.sq ?_
         obtain ⟨x17,hx17,h⟩:=bnd h
         refine W.rd [[],[0],[],[2],[2,3],[2,3,4],[2,3,4,5],rn 2 5 [],[],[8],[8,9],[8,9,10],rn 2 10 [],rn 2 11 [],rn 0 14 [],rn 0 15 [],rn 0 16 []] [(0,_),(5,_),(6,_),(7,_)] mixo (by kernel_rfl) (Dv 0 (O.fO q (.obj q) fd143_1 q)<|Dv 1 (O.ldO (y:=.brw eI.z ⟨6,[1]⟩ s2.2.1.length) q (.ptr q) ct27 q q)<|Dv 2 (O.mv (.obj q))<|Dv 3 (O.nlP (.ptr q))<|Dv 4 (O.fO q (.ptr q) fd175_3 q)<|Dv 5 (O.ldO (y:=.brw eS.z ⟨0,[7]⟩ s2.1.f_lefts.length) q (.ptr q) ct104 q q)<|Dv 6 (O.lenO (.brw q) sl104)<|Dv 7 (O.add (.k q) (.lit q))<|Dv 8 (O.mv (.obj q))<|Dv 9 (O.nlP (.ptr q))<|Dv 10 (O.fO q (.ptr q) fd175_8 q)<|Dv 11 (O.ldO (y:=I64 (w64 (s2.1.f_inner+1))) q (.ptr q) ct3 q q)<|Dv 12 (O.add (.lit q) (.lit q))<|DL.vi 13 (x:=iR eI [w64 ((w64 (1000+(s2.1.f_lefts.length:Int)))+(w64 (s2.1.f_inner+1)))]) (O.bs (ys:=[I64 (w64 ((w64 (1000+(s2.1.f_lefts.length:Int)))+(w64 (s2.1.f_inner+1))))]) eI [w64 ((w64 (1000+(s2.1.f_lefts.length:Int)))+(w64 (s2.1.f_inner+1)))] sl27 q q q q q q zt3 q q) q q q q .none<|Dv 14 (O.ap (en:=eI) (r:=x17) (.brw q) q (.imm q) .i ap27 q hx17)<|Dv 15 (O.fO q (.obj q) fd143_1 q)<|DL.bp 16 (G2:=[(0,.obj [oR eTok s2.1.f_g.Toks,oR eNon s2.1.f_g.Nons,oR eProd_0 (s2.1.f_g.Prods++[(⟨w64 ((s2.1.f_lefts.length:Int)+(w64 (s2.1.f_inner+1))),([]:List Int),(-1),x7.Code,([]:List Int)++s2.2.1,x7.At⟩:Prod)]),SS s2.1.f_g.Pro,SS s2.1.f_g.Tail,oR eB s2.1.f_given,oR eNon s2.1.f_types,oR eS s2.1.f_lefts,I64 s2.1.f_e,I64 s2.1.f_at,SS s2.1.f_name,I64 s2.1.f_level,I64 (w64 (s2.1.f_inner+1))]),(5,.obj (eAlt_0.cells a2)),(6,.obj [I64 (w64 (1+x1)),oR eI (s2.2.1++[w64 ((w64 (1000+(s2.1.f_lefts.length:Int)))+(w64 (s2.1.f_inner+1)))]),I64 (-1),SS s2.2.2.1,.nils,I64 s2.2.2.2.1]),(7,I64 s2.2.2.2.2)]) (EO.stP (g1:=_) (en:=eI) (M:=[w64 ((w64 (1000+(s2.1.f_lefts.length:Int)))+(w64 (s2.1.f_inner+1)))]) (cs2:=[I64 (w64 (1+x1)),oR eI (s2.2.1++[w64 ((w64 (1000+(s2.1.f_lefts.length:Int)))+(w64 (s2.1.f_inner+1)))]),I64 (-1),SS s2.2.2.1,.nils,I64 s2.2.2.2.1]) q q (.ptr q) (.pend q) q q q .ns .rf q q sz27 q q q q (.n q q (.n q q (.b q (.n q q .nil))))) q q q q (by kernel_rfl) (by kernel_rfl)<|DL.fin q q q (tn4 q q q q)) ?_
         obtain rfl:=sm h
         exact Px.jn (tn4 q q q q)
       obtain rfl:=sm h
       exact Px.jn (tn4 q q q q)
     refine Px.bk ?_
     obtain rfl:=sm h
     exact Px.jn (tn4 q q q q)
    refine Px.bk ?_
    obtain rfl:=sm h
    exact Px.jn (tn4 q q q q)
   refine Px.sq<|W.rx [(0,_),(5,_),(6,_),(7,_)] (Vm q<|Rv (O.add (.lit q) (.k q))<|RunL.re (G1:=[(0,_),(5,_),(6,_),(23,_)]) (tn4 q q q q)<|Va q<|Fi (tn4 q q q q)) ?_
   obtain rfl:=sm h
   exact Px.go (tn4 q q q q)
  ·replace h:=cndF hb5 h
   refine W.xi ?_
   refine Px.sqE ?_
   obtain rfl:=sm h
   exact Px.x1 (tn3 q q q)
 refine Px.bkH ?_
 refine Px.sq<|W.sq' ?_
 refine W.sq'<|W.rx [(0,_),(5,_),(6,_),(9,_)] (Vk q<|Fi (tn4 q q q q)) ?_
 refine Px.sq<|W.bk ?_
 obtain ⟨x19,hl,h⟩:=bnd h
 refine W.tr (G1:=[(0,_),(5,_),(6,_),(9,_)]) (tn4 q q q q) ?_
 refine W.lp1 (s:=((-1),0)) (fun (s18:Int × Int)=>[(0,.obj (eyuccaref9_maker_r.cells x3.1)),(5,.obj (eAlt_0.cells a2)),(6,.obj [I64 (w64 (1+x1)),oR eI x3.2.1,I64 s18.1,SS x3.2.2.1,.nils,I64 x3.2.2.2]),(9,I64 s18.2)]) 3 (fun (x19:Int)=>[(0,.obj (eyuccaref9_maker_r.cells x3.1)),(5,.obj (eAlt_0.cells a2)),(6,.obj [I64 (w64 (1+x1)),oR eI x3.2.1,I64 x19,SS x3.2.2.1,.nils,I64 x3.2.2.2])]) hl (fun s18 o h=>?_) ?_
 ·clear hl
  refine W.sq'<|W.sq' ?_
  refine W.rx [(0,_),(5,_),(6,_),(9,_),(112,_)] (Vm q<|Rv (O.fO q (.obj q) fd143_1 q)<|Rv (O.ldO (y:=.brw eI.z ⟨6,[1]⟩ x3.2.1.length) q (.ptr q) ct27 q q)<|Rv (O.lenO (.brw q) sl27)<|Rv (O.lss (.lit q) (.lit q))<|Fi (tn5 q q q q q)) ?_
  refine Px.sq<|W.cnd q (fun hb21=>?_) (fun hb21=>?_)
  ·replace h:=cndT hb21 h
   refine W.sk<|Px.sq ?_
   refine W.sq' ?_
   obtain ⟨j22,hj,h⟩:=bnd h
   refine W.jn [(0,.obj (eyuccaref9_maker_r.cells x3.1)),(5,.obj (eAlt_0.cells a2)),(6,.obj [I64 (w64 (1+x1)),oR eI x3.2.1,I64 j22,SS x3.2.2.1,.nils,I64 x3.2.2.2]),(9,I64 s18.2)] ?_ ?_
   ·clear h; have h:=hj; clear hj
    refine W.bk<|W.sq' ?_
    obtain ⟨x23,hx23,h⟩:=bnd h
    refine W.rx [(0,_),(5,_),(6,_),(9,_),(120,_)] (Rv (O.fO q (.obj q) fd143_1 q)<|Rv (O.ldO (y:=.brw eI.z ⟨6,[1]⟩ x3.2.1.length) q (.ptr q) ct27 q q)<|Vm q<|Rv (O.ixO (en:=eI) q (.brw q) (.lit q) sl27 hx23 q)<|Rv (O.ldE (en:=eI) (x':=I64 x23) q (.ptr q) ct3 hx23 q q)<|Rv (O.lss (.lit q) (.k q))<|Fi (tn5 q q q q q)) ?_
    refine Px.sq ?_
    obtain ⟨j24,hj,h⟩:=bnd h
    refine W.jn [(0,.obj (eyuccaref9_maker_r.cells x3.1)),(5,.obj (eAlt_0.cells a2)),(6,.obj [I64 (w64 (1+x1)),oR eI x3.2.1,I64 j24,SS x3.2.2.1,.nils,I64 x3.2.2.2]),(9,I64 s18.2)] ?_ ?_
    ·clear h; have h:=hj; clear hj
     refine W.cnd q (fun hb25=>?_) (fun hb25=>?_)
     ·replace h:=cndT hb25 h
      obtain ⟨x26,hx26,h⟩:=bnd h
      refine W.rx [(0,_),(5,_),(6,_),(9,_)] (Rv (O.fO q (.obj q) fd143_1 q)<|Rv (O.ldO (y:=.brw eI.z ⟨6,[1]⟩ x3.2.1.length) q (.ptr q) ct27 q q)<|Vm q<|Rv (O.ixO (en:=eI) q (.brw q) (.lit q) sl27 hx26 q)<|Rv (O.ldE (en:=eI) (x':=I64 x26) q (.ptr q) ct3 hx26 q q)<|Rv (O.fO q (.obj q) fd143_2 q)<|RunL.sO (G2:=[(0,_),(5,_),(6,_),(9,_)]) (cs2:=[I64 (w64 (1+x1)),oR eI x3.2.1,I64 x26,SS x3.2.2.1,.nils,I64 x3.2.2.2]) q (.ptr q) (.lit q) q sz3 q q q q (.n q q (.n q q (.b q (.n q q .nil))))<|Fi (tn4 q q q q)) ?_
      obtain rfl:=sm h
      exact Px.jn (tn4 q q q q)
     ·replace h:=cndF hb25 h
      refine W.sk ?_
      obtain rfl:=sm h
      exact Px.jn (tn4 q q q q)
    refine Px.bk ?_
    obtain rfl:=sm h
    exact Px.jn (tn4 q q q q)
   refine Px.sq<|W.rx [(0,_),(5,_),(6,_),(9,_)] (Vm q<|Rv (O.add (.lit q) (.k q))<|RunL.re (G1:=[(0,_),(5,_),(6,_),(114,_)]) (tn4 q q q q)<|Va q<|Fi (tn4 q q q q)) ?_
   obtain rfl:=sm h
   exact Px.go (tn4 q q q q)
  ·replace h:=cndF hb21 h
   refine W.xi ?_
   refine Px.sqE ?_
   obtain rfl:=sm h
   exact Px.x1 (tn3 q q q)
 refine Px.bkH ?_
 refine Px.sq<|W.sq' ?_
 refine W.sq'<|W.rx [(0,_),(5,_),(6,_),(130,_)] (Rv (O.fO q (.obj q) fd56_1 q)<|Rv (O.fO q (.ptr q) fd54_0 q)<|Rv (O.ldO (y:=SS a2.Prec.Name) q (.ptr q) ct9 q q)<|Rv (O.neS (.lit q) (.k q))<|Fi (tn4 q q q q)) ?_
 refine Px.sq ?_
 obtain ⟨j27,hj,h⟩:=bnd h
 refine W.jn [(0,.obj (eyuccaref9_maker_r.cells j27.1)),(6,.obj [I64 (w64 (1+x1)),oR eI x3.2.1,I64 j27.2,SS x3.2.2.1,.nils,I64 x3.2.2.2])] ?_ ?_
 ·clear h; have h:=hj; clear hj
  refine W.cnd q (fun hb28=>?_) (fun hb28=>?_)
  ·replace h:=cndT hb28 h
   refine W.sq'<|W.rx [(0,_),(5,_),(6,_)] (Rv (O.fO q (.obj q) fd143_2 q)<|RunL.sO (G2:=[(0,_),(5,_),(6,_)]) (cs2:=[I64 (w64 (1+x1)),oR eI x3.2.1,I64 (-1),SS x3.2.2.1,.nils,I64 x3.2.2.2]) q (.ptr q) (.k q) q sz3 q q q q (.n q q (.n q q (.b q .nil)))<|Fi (tn3 q q q)) ?_
   refine Px.sq<|W.sq' ?_
   obtain ⟨c31,hj,h⟩:=bnd h
   refine W.rx [(0,.obj (eyuccaref9_maker_r.cells x3.1)),(5,.obj (eAlt_0.cells a2)),(6,.obj [I64 (w64 (1+x1)),oR eI x3.2.1,I64 (-1),SS x3.2.2.1,.nils,I64 x3.2.2.2]),(142,BB c31)] ?_ ?_
   ·refine Rv (O.fO q (.obj q) fd56_1 q)<|Rv (O.fO q (.ptr q) fd54_1 q)<|Rv (O.ldO (y:=BB a2.Prec.Lit) q (.ptr q) ct4 q q)<|Rv (O.mv (.lit q)) ?_
    rcases cnd hj with ⟨hb29,hj⟩ | ⟨hb29,hj⟩
    ·obtain rfl:=sm hj
     exact RunL.ps q q hb29 q q<|RunL.ps q q hb29 q q<|RunL.ps q q hb29 q q<|RunL.ps q q hb29 q q<|RunL.ps q q hb29 q q<|RunL.ps q q hb29 q q<|Rv (O.pkT (.lit q) hb29 (.k q))<|Fi (tn4 q q q q)
    ·refine RunL.v (O.mv (.obj q)) q q (.yb q q hb29)<|RunL.v (O.fO q (.obj q) fd56_1 q) q q (.yb q q hb29)<|RunL.v (O.fO q (.ptr q) fd54_0 q) q q (.yb q q hb29)<|RunL.v (O.ldO (y:=SS a2.Prec.Name) q (.ptr q) ct9 q q) q q (.yb q q hb29) ?_
     obtain ⟨x30,hx30,hj⟩:=bnd hj
     obtain rfl:=sm hj
     exact RunL.c (PC.vw (ys:=[.ptr ⟨0,[]⟩ 0,SS a2.Prec.Name]) q (.c (View.p0 q q) (.s .nil)) (CF.go hx30) call90 q) q q (.yb q q hb29)<|RunL.v (O.lss (.lit q) (.k q)) q q (.yb q q hb29)<|Rv (O.pkF (.lit q) hb29 (.lit q))<|Fi (tn4 q q q q)
   refine Px.sq ?_
   obtain ⟨j32,hj,h⟩:=bnd h
   refine W.jn [(0,.obj (eyuccaref9_maker_r.cells j32.1)),(6,.obj [I64 (w64 (1+x1)),oR eI x3.2.1,I64 j32.2,SS x3.2.2.1,.nils,I64 x3.2.2.2])] ?_ ?_
   ·clear h; have h:=hj; clear hj
    refine W.cnd q (fun hb33=>?_) (fun hb33=>?_)
    ·replace h:=cndT hb33 h
     obtain ⟨x34,hx34,h⟩:=bnd h
     refine W.rx [(0,_),(6,_)] (Rv (O.mv (.obj q))<|Rv (O.fO q (.obj q) fd56_1 q)<|Rv (O.ldON (cs':=[SS a2.Prec.Name,BB a2.Prec.Lit,I64 a2.Prec.Num,I64 a2.Prec.At]) q (.ptr q) at54 q q)<|RunL.ef q (EO.call q q (CallOk.ln (G2:=[(6,.obj [I64 (w64 (1+x1)),oR eI x3.2.1,I64 (-1),SS x3.2.2.1,.nils,I64 x3.2.2.2])]) (A:=[]) (ys:=[.ptr ⟨0,[]⟩ 0,.agg (eSym.cells a2.Prec)]) (args:=[.obj (eyuccaref9_maker_r.cells x3.1),.agg (eSym.cells a2.Prec)]) (cs':=[oR eTok x34.2.f_g.Toks,oR eNon x34.2.f_g.Nons,oR eProd_0 x34.2.f_g.Prods,SS x34.2.f_g.Pro,SS x34.2.f_g.Tail,oR eB x34.2.f_given,oR eNon x34.2.f_types,oR eS x34.2.f_lefts,I64 x34.2.f_e,I64 x34.2.f_at,SS x34.2.f_name,I64 x34.2.f_level,I64 x34.2.f_inner]) (k0:=0) q q q q (.b q (.n q .nil)) q (CF.go hx34) call117 (.n q .nil) q q (.n q .nil) .nil q))<|Rv (O.fO q (.obj q) fd143_2 q)<|RunL.sO (G2:=[(0,_),(6,_)]) (cs2:=[I64 (w64 (1+x1)),oR eI x3.2.1,I64 x34.1,SS x3.2.2.1,.nils,I64 x3.2.2.2]) q (.ptr q) (.lit q) q sz3 q q q q (.n q q (.b q .nil))<|Fi (tn2 q q)) ?_
     obtain rfl:=sm h
     exact Px.jn (tn2 q q)
    ·replace h:=cndF hb33 h
     obtain ⟨x35,hx35,h⟩:=bnd h
     refine W.rx [(0,_),(6,_)] (Rv (O.mv (.obj q))<|Rv (O.fO q (.obj q) fd56_1 q)<|Rv (O.fO q (.ptr q) fd54_3 q)<|Rv (O.ldO (y:=I64 a2.Prec.At) q (.ptr q) ct3 q q)<|Rv (O.fO q (.obj q) fd56_1 q)<|Rv (O.fO q (.ptr q) fd54_0 q)<|Rv (O.ldO (y:=SS a2.Prec.Name) q (.ptr q) ct9 q q)<|RunL.ef q (EO.call q q (CallOk.ln (G2:=[(6,.obj [I64 (w64 (1+x1)),oR eI x3.2.1,I64 (-1),SS x3.2.2.1,.nils,I64 x3.2.2.2])]) (A:=[]) (ys:=[.ptr ⟨0,[]⟩ 0,I64 a2.Prec.At,SS a2.Prec.Name]) (args:=[.obj (eyuccaref9_maker_r.cells x3.1),I64 a2.Prec.At,SS a2.Prec.Name]) (cs':=[oR eTok x35.f_g.Toks,oR eNon x35.f_g.Nons,oR eProd_0 x35.f_g.Prods,SS x35.f_g.Pro,SS x35.f_g.Tail,oR eB x35.f_given,oR eNon x35.f_types,oR eS x35.f_lefts,I64 x35.f_e,I64 x35.f_at,SS x35.f_name,I64 x35.f_level,I64 x35.f_inner]) (k0:=0) q q q q (.b q (.n q (.n q .nil))) q (CF.go hx35) call88 (.n q .nil) q q (.n q .nil) .nil q))<|Fi (tn2 q q)) ?_
     obtain rfl:=sm h
     exact Px.jn (tn2 q q)
   obtain rfl:=sm h
   exact Px.jn (tn2 q q)
  ·replace h:=cndF hb28 h
   refine W.sk ?_
   obtain rfl:=sm h
   exact Px.jn (tn2 q q)
 refine Px.sq<|W.sq' ?_
 obtain ⟨x36,hx36,h⟩:=bnd h
 refine W.rx [(0,_),(6,_)] (Rv (O.bs (ys:=[]) eI ([]:List Int) sl27 q q q q q q zt3 q q)<|Rv (O.fO q (.obj q) fd143_1 q)<|Rv (O.ldO (y:=.brw eI.z ⟨6,[1]⟩ x3.2.1.length) q (.ptr q) ct27 q q)<|Rv (O.ap (en:=eI) (r:=x36) (.own q) q (.brw q) (.flat eI q) ap27 q hx36)<|Rv (O.fO q (.obj q) fd143_4 q)<|RunL.ef (G2:=[(0,.obj (eyuccaref9_maker_r.cells j27.1)),(6,.obj [I64 (w64 (1+x1)),oR eI x3.2.1,I64 j27.2,SS x3.2.2.1,oR eI (([]:List Int)++x3.2.1),I64 x3.2.2.2])]) q (EO.stP (g1:=_) (en:=eI) (M:=x3.2.1) (cs2:=[I64 (w64 (1+x1)),oR eI x3.2.1,I64 j27.2,SS x3.2.2.1,oR eI (([]:List Int)++x3.2.1),I64 x3.2.2.2]) q q (.ptr q) (.pend q) q q q .ns .rf q q sz27 q q q q (.n q q (.b q .nil)))<|Fi (tn2 q q)) ?_
 refine Px.sq<|W.fz (G1:=[(0,_),(6,.obj [I64 (w64 (1+x1)),iR eI x3.2.1,I64 j27.2,SS x3.2.2.1,oR eI (([]:List Int)++x3.2.1),I64 x3.2.2.2])]) [6] (.n q q (.z q q (FzL.obj (.f (.z (.f (.f (.f (.f .nil))))))) .nil)) ?_
 refine W.fz (G1:=[(0,_),(6,.obj [I64 (w64 (1+x1)),iR eI x3.2.1,I64 j27.2,SS x3.2.2.1,iR eI (([]:List Int)++x3.2.1),I64 x3.2.2.2])]) [6] (.n q q (.z q q (FzL.obj (.f (.f (.f (.f (.z (.f .nil))))))) .nil)) ?_
 obtain ⟨x37,hx37,h⟩:=bnd h
 refine W.rd [[],[],[1],[1,2],[1,2,3],[1,2,3,4],[],[6],rn 1 7 [],rn 0 9 [],rn 0 10 [],rn 0 11 [],rn 0 12 []] [(0,_)] mixo (by kernel_rfl) (Dv 0 (O.mv (.obj q))<|Dv 1 (O.mv (.obj q))<|Dv 2 (O.nlP (.ptr q))<|Dv 3 (O.fO q (.ptr q) fd175_0 q)<|Dv 4 (O.fO q (.ptr q) fd38_2 q)<|Dv 5 (O.ldO (y:=.brw eProd_0.z ⟨0,[2]⟩ j27.1.f_g.Prods.length) q (.ptr q) ct36 q q)<|Dv 6 (O.ldON (cs':=[I64 (w64 (1+x1)),iR eI x3.2.1,I64 j27.2,SS x3.2.2.1,iR eI (([]:List Int)++x3.2.1),I64 x3.2.2.2]) q (.obj q) at143 q q)<|DL.vi 7 (x:=iR eProd_0 [(⟨w64 (1+x1),x3.2.1,j27.2,x3.2.2.1,([]:List Int)++x3.2.1,x3.2.2.2⟩:Prod)]) (O.bs (ys:=[.agg [I64 (w64 (1+x1)),iR eI x3.2.1,I64 j27.2,SS x3.2.2.1,iR eI (([]:List Int)++x3.2.1),I64 x3.2.2.2]]) eProd_0 [(⟨w64 (1+x1),x3.2.1,j27.2,x3.2.2.1,([]:List Int)++x3.2.1,x3.2.2.2⟩:Prod)] sl36 q q q q q q zt143 q q) q q q q .none<|Dv 8 (O.ap (en:=eProd_0) (r:=x37) (.brw q) q (.imm q) .i ap36 q hx37)<|Dv 9 (O.nlP (.ptr q))<|Dv 10 (O.fO q (.ptr q) fd175_0 q)<|Dv 11 (O.fO q (.ptr q) fd38_2 q)<|DL.bp 12 (G2:=[(0,.obj [oR eTok j27.1.f_g.Toks,oR eNon j27.1.f_g.Nons,oR eProd_0 (j27.1.f_g.Prods++[(⟨w64 (1+x1),x3.2.1,j27.2,x3.2.2.1,([]:List Int)++x3.2.1,x3.2.2.2⟩:Prod)]),SS j27.1.f_g.Pro,SS j27.1.f_g.Tail,oR eB j27.1.f_given,oR eNon j27.1.f_types,oR eS j27.1.f_lefts,I64 j27.1.f_e,I64 j27.1.f_at,SS j27.1.f_name,I64 j27.1.f_level,I64 j27.1.f_inner])]) (EO.stP (g1:=_) (en:=eProd_0) (M:=[(⟨w64 (1+x1),x3.2.1,j27.2,x3.2.2.1,([]:List Int)++x3.2.1,x3.2.2.2⟩:Prod)]) (cs2:=[oR eTok j27.1.f_g.Toks,oR eNon j27.1.f_g.Nons,oR eProd_0 (j27.1.f_g.Prods++[(⟨w64 (1+x1),x3.2.1,j27.2,x3.2.2.1,([]:List Int)++x3.2.1,x3.2.2.2⟩:Prod)]),SS j27.1.f_g.Pro,SS j27.1.f_g.Tail,oR eB j27.1.f_given,oR eNon j27.1.f_types,oR eS j27.1.f_lefts,I64 j27.1.f_e,I64 j27.1.f_at,SS j27.1.f_name,I64 j27.1.f_level,I64 j27.1.f_inner]) q q (.ptr q) (.pend q) q q q .ns .rf q q sz36 q q q q (.b q .nil)) q q q q (by kernel_rfl) (by kernel_rfl)<|DL.fin q q q (.n q .nil)) ?_
 obtain rfl:=sm h
 exact Px.fin (Fin.ro .nil q (ode (by kernel_rfl)) (.so q q (.no (.no .nil))) q (.inl q))
instance con91 {a0:yuccaref9_maker}{a1:ByteArray}{a2:Alt}{r:yuccaref9_maker}:CF Tryz.prog 91 (pf91 a0 a1 a2=some r) [.obj (eyuccaref9_maker_r.cells a0),SS a1,.agg (eAlt_0.cells a2)] [some (.obj [oR eTok r.f_g.Toks,oR eNon r.f_g.Nons,oR eProd_0 r.f_g.Prods,SS r.f_g.Pro,SS r.f_g.Tail,oR eB r.f_given,oR eNon r.f_types,oR eS r.f_lefts,I64 r.f_e,I64 r.f_at,SS r.f_name,I64 r.f_level,I64 r.f_inner]),none,none] (.tup []):=⟨con91l a0 a1 a2 _⟩
end Go.Proofs
