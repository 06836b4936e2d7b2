/- Parts of the proof that the last text states. -/
import Derived.KernelRfl
import Derived.Test.YtejfkabkakfblaaGreatDoorRows
import Derived.Test.YtejfkabkakfblaaGreatDoorF5
namespace Go.Proofs
open Tryz
open Go Go.Own
set_option maxRecDepth 100000
set_option maxHeartbeats 4000000
set_option synthInstance.maxHeartbeats 1000000
set_option synthInstance.maxSize 10000
set_option linter.unusedVariables false
theorem j5:fa prog 22 3 1=true:=by kernel_rfl
theorem sE:kt prog 3=true:=by kernel_rfl
theorem NS:uB prog 3 .i64=true:=by kernel_rfl
theorem NT:uB prog 5 .u8=true:=by kernel_rfl
theorem QB:h5 prog 5 1=true:=by kernel_rfl
theorem PJ:fa prog 60 5 1=true:=by kernel_rfl
theorem Lz:u' prog 60 9=true:=by kernel_rfl
theorem v8:oh prog 9=true:=by kernel_rfl
theorem GU:kt prog 4=true:=by kernel_rfl
theorem wE:kt prog 9=true:=by kernel_rfl
theorem TD:jv prog 59 0 0 3=true:=by kernel_rfl
theorem PI:fa prog 57 62 4=true:=by kernel_rfl
theorem Aw:iN prog 62 4=true:=by kernel_rfl
theorem gC:prog.follows .mixedOrders=true:=by kernel_rfl
theorem Kc:fa prog 68 67 6=true:=by kernel_rfl
theorem RM:iN prog 67 6=true:=by kernel_rfl
theorem Db:(prog.info? 67).bind (·.zero)=some (.agg #[.string ⟨#[]⟩,.bool false,.int .i64 0,.int .i64 0,.string ⟨#[]⟩,.int .i64 0]):=by kernel_rfl
theorem Zt:fa prog 29 59 4=true:=by kernel_rfl
theorem Gt:iN prog 59 4=true:=by kernel_rfl
theorem Ka:fa prog 30 65 3=true:=by kernel_rfl
theorem Lm:iN prog 65 3=true:=by kernel_rfl
theorem F6:(prog.info? 65).bind (·.zero)=some (.agg #[.string ⟨#[]⟩,.slice none 0 0,.int .i64 0]):=by kernel_rfl
theorem Kb:fa prog 63 70 6=true:=by kernel_rfl
theorem Ln:iN prog 70 6=true:=by kernel_rfl
theorem Ty:jv prog 210 4 8 3=true:=by kernel_rfl
theorem zU:hL prog 3 1=true:=by kernel_rfl
theorem Tz:jv prog 210 5 9 3=true:=by kernel_rfl
theorem TA:jv prog 210 6 10 9=true:=by kernel_rfl
theorem PX:hL prog 9 1=true:=by kernel_rfl
theorem xS:fa prog 40 143 2=true:=by kernel_rfl
theorem Fy:fa prog 39 94 6=true:=by kernel_rfl
theorem Mg:jv prog 94 2 2 3=true:=by kernel_rfl
theorem KD:(prog.info? 94).bind (·.zero)=some (.agg #[.string ⟨#[]⟩,.bool false,.int .i64 0,.int .i64 0,.int .i64 0,.string ⟨#[]⟩]):=by kernel_rfl
theorem J':kj prog 94 [(0,1),(1,1),(2,1),(3,1),(4,1),(5,1)]=true:=by kernel_rfl
theorem call101:ju prog 101=true:=by kernel_rfl
theorem aaC:h5 prog 94 6=true:=by kernel_rfl
theorem xT:fa prog 56 4 1=true:=by kernel_rfl
theorem Da:(prog.info? 143).bind (·.zero)=some (.agg #[.string ⟨#[]⟩,.string ⟨#[]⟩]):=by kernel_rfl
theorem Fu:kj prog 143 [(0,1),(1,1)]=true:=by kernel_rfl
theorem F8:h5 prog 143 2=true:=by kernel_rfl
theorem Gq:ka prog 40 143 2 32=true:=by kernel_rfl
theorem Me:jv prog 143 1 1 9=true:=by kernel_rfl
theorem call118:ju prog 118=true:=by kernel_rfl
theorem Mh:jv prog 94 3 3 3=true:=by kernel_rfl
theorem TF:jv prog 94 4 4 3=true:=by kernel_rfl
theorem ZK:hL prog 4 1=true:=by kernel_rfl
theorem Hd:jv prog 94 5 5 9=true:=by kernel_rfl
theorem FA:fa prog 49 9 1=true:=by kernel_rfl
theorem F4:(prog.info? 110).bind (·.zero)=some (.agg #[.int .i64 0,.slice none 0 0,.int .i64 0,.string ⟨#[]⟩,.slice none 0 0,.int .i64 0]):=by kernel_rfl
theorem J8:kj prog 110 [(0,1),(1,1),(2,1),(3,1),(4,1),(5,1)]=true:=by kernel_rfl
theorem Md:jv prog 110 1 1 22=true:=by kernel_rfl
theorem GS:kt prog 22=true:=by kernel_rfl
theorem call120:ju prog 120=true:=by kernel_rfl
theorem qG:h5 prog 3 1=true:=by kernel_rfl
theorem rB:ka prog 22 3 1 8=true:=by kernel_rfl
theorem PV:hL prog 22 1=true:=by kernel_rfl
theorem TE:jv prog 67 2 5 3=true:=by kernel_rfl
theorem KG:h5 prog 110 6=true:=by kernel_rfl
theorem Fz:fa prog 41 110 6=true:=by kernel_rfl
theorem Lh:ka prog 41 110 6 88=true:=by kernel_rfl
theorem ZL:hL prog 41 1=true:=by kernel_rfl
theorem RH:iN prog 110 6=true:=by kernel_rfl
theorem rp:(prog.info? 43).bind (·.zero)=some (.agg #[.slice none 0 0,.slice none 0 0,.slice none 0 0,.string ⟨#[]⟩,.string ⟨#[]⟩]):=by kernel_rfl
theorem Av:iN prog 32 4=true:=by kernel_rfl
theorem J9:kj prog 43 [(0,1),(1,1),(2,1),(3,1),(4,1)]=true:=by kernel_rfl
theorem C0:hL prog 43 5=true:=by kernel_rfl
theorem hE:iN prog 43 5=true:=by kernel_rfl
theorem Qv:(prog.info? 4).bind (·.zero)=some (.bool false):=by kernel_rfl
theorem Lu:(prog.info? 4).map (·.bytes)=some 1:=by kernel_rfl
theorem aaw:(prog.info? 210).bind (·.zero)=some (.agg #[.slice none 0 0,.slice none 0 0,.slice none 0 0,.string ⟨#[]⟩,.string ⟨#[]⟩,.slice none 0 0,.slice none 0 0,.slice none 0 0,.int .i64 0,.int .i64 0,.string ⟨#[]⟩,.int .i64 0,.int .i64 0]):=by kernel_rfl
theorem Zh:kj prog 210 [(0,5),(5,1),(6,1),(7,1),(8,1),(9,1),(10,1),(11,1),(12,1)]=true:=by kernel_rfl
theorem KC:(prog.info? 59).bind (·.zero)=some (.agg #[.int .i64 0,.string ⟨#[]⟩,.slice none 0 0,.int .i64 0]):=by kernel_rfl
theorem call100:ju prog 100=true:=by kernel_rfl
theorem z_:(prog.info? 62).bind (·.zero)=some (.agg #[.string ⟨#[]⟩,.bool false,.int .i64 0,.int .i64 0]):=by kernel_rfl
theorem CV:kj prog 62 [(0,1),(1,1),(2,1),(3,1)]=true:=by kernel_rfl
theorem aaB:h5 prog 9 1=true:=by kernel_rfl
theorem Rp:ka prog 49 9 1 16=true:=by kernel_rfl
theorem call104:ju prog 104=true:=by kernel_rfl
theorem RK:iN prog 143 2=true:=by kernel_rfl
theorem TB:jv prog 32 3 3 9=true:=by kernel_rfl
theorem RL:iN prog 165 2=true:=by kernel_rfl
theorem Zs:fa prog 160 165 2=true:=by kernel_rfl
theorem aay:h5 prog 165 2=true:=by kernel_rfl
theorem aav:(prog.info? 165).bind (·.zero)=some (.agg #[.int .i64 0,.int .i64 0]):=by kernel_rfl
theorem Zg:kj prog 165 [(0,1),(1,1)]=true:=by kernel_rfl
theorem uU:fa prog 99 163 2=true:=by kernel_rfl
theorem Mf:jv prog 163 0 0 160=true:=by kernel_rfl
theorem LU:kt prog 160=true:=by kernel_rfl
theorem Qr:(prog.info? 163).bind (·.zero)=some (.agg #[.slice none 0 0,.slice none 0 0]):=by kernel_rfl
theorem Po:kj prog 163 [(0,1),(1,1)]=true:=by kernel_rfl
theorem Qx:h5 prog 163 2=true:=by kernel_rfl
theorem Rt:ka prog 99 163 2 48=true:=by kernel_rfl
theorem DU:jv prog 163 1 1 161=true:=by kernel_rfl
theorem LV:kt prog 161=true:=by kernel_rfl
theorem Qt:(prog.info? 176).bind (·.zero)=some (.agg #[.int .i64 0,.int .i64 0]):=by kernel_rfl
theorem Pq:kj prog 176 [(0,1),(1,1)]=true:=by kernel_rfl
theorem Qz:h5 prog 176 2=true:=by kernel_rfl
theorem PG:fa prog 161 176 2=true:=by kernel_rfl
theorem Lg:ka prog 161 176 2 16=true:=by kernel_rfl
theorem PU:hL prog 161 1=true:=by kernel_rfl
theorem RJ:iN prog 130 5=true:=by kernel_rfl
theorem PH:fa prog 33 22 1=true:=by kernel_rfl
theorem QA:h5 prog 22 1=true:=by kernel_rfl
theorem Ro:ka prog 33 22 1 24=true:=by kernel_rfl
theorem call88:ju prog 88=true:=by kernel_rfl
theorem call89:ju prog 89=true:=by kernel_rfl
theorem call87:ju prog 87=true:=by kernel_rfl
theorem call90:ju prog 90=true:=by kernel_rfl
theorem uZ:(prog.info? 132).bind (·.zero)=some (.agg #[.int .i64 0,.int .i64 0]):=by kernel_rfl
theorem Qs:(prog.info? 173).bind (·.zero)=some (.agg #[.int .i64 0,.int .i64 0,.int .i64 0,.int .i64 0]):=by kernel_rfl
theorem Pp:kj prog 173 [(0,1),(1,1),(2,1),(3,1)]=true:=by kernel_rfl
theorem Qy:h5 prog 173 4=true:=by kernel_rfl
theorem PE:fa prog 103 173 4=true:=by kernel_rfl
theorem Gp:ka prog 103 173 4 32=true:=by kernel_rfl
theorem CU:kj prog 132 [(0,1),(1,1)]=true:=by kernel_rfl
theorem xW:hL prog 132 2=true:=by kernel_rfl
theorem sB:iN prog 132 2=true:=by kernel_rfl
theorem z':(prog.info? 87).bind (·.zero)=some (.agg #[.slice none 0 0,.slice none 0 0]):=by kernel_rfl
theorem PF:fa prog 128 132 2=true:=by kernel_rfl
theorem RU:(prog.info? 132).map (·.bytes)=some 16:=by kernel_rfl
theorem Qu:(prog.info? 3).bind (·.zero)=some (.int .i64 0):=by kernel_rfl
theorem Lt:(prog.info? 3).map (·.bytes)=some 8:=by kernel_rfl
theorem aax:h5 prog 128 1=true:=by kernel_rfl
theorem Zu:fa prog 85 128 1=true:=by kernel_rfl
theorem Rs:ka prog 85 128 1 24=true:=by kernel_rfl
theorem ZO:hL prog 85 1=true:=by kernel_rfl
theorem tL:iN prog 87 2=true:=by kernel_rfl
theorem ZP:hL prog 87 2=true:=by kernel_rfl
theorem Zk:kj prog 87 [(0,1),(1,1)]=true:=by kernel_rfl
theorem aaz:h5 prog 46 1=true:=by kernel_rfl
theorem Zr:fa prog 111 46 1=true:=by kernel_rfl
theorem Rn:ka prog 111 46 1 24=true:=by kernel_rfl
theorem aau:(prog.info? 119).bind (·.zero)=some (.agg #[.int .i64 0,.int .i64 0]):=by kernel_rfl
theorem F5:(prog.info? 45).bind (·.zero)=some (.agg #[.slice none 0 0,.slice none 0 0,.slice none 0 0]):=by kernel_rfl
theorem Ps:kj prog 45 [(0,1),(1,1),(2,1)]=true:=by kernel_rfl
theorem ZM:hL prog 45 3=true:=by kernel_rfl
theorem Gs:iN prog 45 3=true:=by kernel_rfl
theorem TC:jv prog 45 1 1 22=true:=by kernel_rfl
theorem z8:(prog.info? 48).bind (·.zero)=some (.agg #[.slice none 0 0,.slice none 0 0,.slice none 0 0,.slice none 0 0,.slice none 0 0,.slice none 0 0,.slice none 0 0,.slice none 0 0,.slice none 0 0,.slice none 0 0,.slice none 0 0]):=by kernel_rfl
theorem yz:iN prog 48 11=true:=by kernel_rfl
theorem PW:hL prog 48 11=true:=by kernel_rfl
theorem Zi:kj prog 48 [(0,1),(1,3),(4,1),(5,3),(8,1),(9,1),(10,1)]=true:=by kernel_rfl
theorem RI:iN prog 119 2=true:=by kernel_rfl
theorem Fv:kj prog 67 [(0,4),(4,1),(5,1)]=true:=by kernel_rfl
theorem KH:h5 prog 67 6=true:=by kernel_rfl
theorem F7:(prog.info? 70).bind (·.zero)=some (.agg #[.slice none 0 0,.string ⟨#[]⟩,.bool false,.int .i64 0,.int .i64 0,.int .i64 0]):=by kernel_rfl
theorem J_:kj prog 70 [(0,1),(1,4),(5,1)]=true:=by kernel_rfl
theorem KI:h5 prog 70 6=true:=by kernel_rfl
theorem Pt:kj prog 65 [(0,1),(1,1),(2,1)]=true:=by kernel_rfl
theorem QD:h5 prog 65 3=true:=by kernel_rfl
theorem KB:(prog.info? 32).bind (·.zero)=some (.agg #[.string ⟨#[]⟩,.slice none 0 0,.slice none 0 0,.string ⟨#[]⟩]):=by kernel_rfl
theorem Pr:kj prog 32 [(0,1),(1,1),(2,1),(3,1)]=true:=by kernel_rfl
theorem Zj:kj prog 59 [(0,1),(1,1),(2,1),(3,1)]=true:=by kernel_rfl
theorem QC:h5 prog 62 4=true:=by kernel_rfl
theorem Li:ka prog 57 62 4 40=true:=by kernel_rfl
theorem aaA:h5 prog 59 4=true:=by kernel_rfl
theorem ZN:hL prog 70 6=true:=by kernel_rfl
theorem Rr:ka prog 68 67 6 64=true:=by kernel_rfl
theorem Rq:ka prog 63 70 6 72=true:=by kernel_rfl
instance:hP prog 74 (.agg #[.pointer none,.slice none 0 0]):={}
instance:dZ prog 22 3 1:={}
instance:fr prog 3:={}
instance:Af prog 3 .i64:={}
instance:Af prog 97 .u64:={}
instance:Af prog 5 .u8:={}
instance:dZ prog 60 5 1:={}
instance:iG prog 9:={}
instance:cM prog 62 1 1 4:={}
instance:fr prog 4:={}
instance:cM prog 62 0 0 9:={}
instance:fr prog 9:={}
instance:cM prog 62 2 2 3:={}
instance:cM prog 59 0 0 3:={}
instance:cM prog 59 2 2 57:={}
instance:fr prog 57:={}
instance:dZ prog 57 62 4:={}
instance:cM prog 59 1 1 9:={}
instance:jO prog 62 4:={}
instance:Ae prog:={}
instance:cM prog 70 0 0 68:={}
instance:fr prog 68:={}
instance:dZ prog 68 67 6:={}
instance:jO prog 67 6:={}
instance:hP prog 67 (.agg #[.string ⟨#[]⟩,.bool false,.int .i64 0,.int .i64 0,.string ⟨#[]⟩,.int .i64 0]):={}
instance:cM prog 67 1 4 9:={}
instance:cM prog 67 0 0 62:={}
instance:cM prog 70 1 1 62:={}
instance:cM prog 32 0 0 9:={}
instance:cM prog 32 1 1 29:={}
instance:fr prog 29:={}
instance:dZ prog 29 59 4:={}
instance:jO prog 59 4:={}
instance:cM prog 32 2 2 30:={}
instance:fr prog 30:={}
instance:dZ prog 30 65 3:={}
instance:jO prog 65 3:={}
instance:hP prog 65 (.agg #[.string ⟨#[]⟩,.slice none 0 0,.int .i64 0]):={}
instance:cM prog 65 0 0 9:={}
instance:cM prog 65 1 1 63:={}
instance:fr prog 63:={}
instance:dZ prog 63 70 6:={}
instance:jO prog 70 6:={}
instance:cM prog 210 4 8 3:={}
instance:cM prog 210 5 9 3:={}
instance:cM prog 210 6 10 9:={}
instance:cM prog 210 2 6 40:={}
instance:fr prog 40:={}
instance:dZ prog 40 143 2:={}
instance:cM prog 143 0 0 9:={}
instance:cM prog 210 0 0 43:={}
instance:cM prog 43 0 0 39:={}
instance:fr prog 39:={}
instance:dZ prog 39 94 6:={}
instance:cM prog 94 0 0 9:={}
instance:cM prog 94 1 1 4:={}
instance:cM prog 94 2 2 3:={}
instance:hP prog 94 (.agg #[.string ⟨#[]⟩,.bool false,.int .i64 0,.int .i64 0,.int .i64 0,.string ⟨#[]⟩]):={}
instance:jC prog 94 [(0,1),(1,1),(2,1),(3,1),(4,1),(5,1)]:={}
instance:cM prog 62 3 3 3:={}
instance:jO prog 94 6:={}
instance:iH prog 39 94 6 64:={}
instance:cM prog 210 1 5 56:={}
instance:fr prog 56:={}
instance:dZ prog 56 4 1:={}
instance:iH prog 56 4 1 1:={}
instance:hP prog 143 (.agg #[.string ⟨#[]⟩,.string ⟨#[]⟩]):={}
instance:jC prog 143 [(0,1),(1,1)]:={}
instance:iH prog 40 143 2 32:={}
instance:cM prog 143 1 1 9:={}
instance:cM prog 94 3 3 3:={}
instance:cM prog 210 7 11 3:={}
instance:cM prog 94 4 4 3:={}
instance:cM prog 94 5 5 9:={}
instance:cM prog 210 3 7 49:={}
instance:fr prog 49:={}
instance:dZ prog 49 9 1:={}
instance:cM prog 70 2 5 3:={}
instance:hP prog 110 (.agg #[.int .i64 0,.slice none 0 0,.int .i64 0,.string ⟨#[]⟩,.slice none 0 0,.int .i64 0]):={}
instance:jC prog 110 [(0,1),(1,1),(2,1),(3,1),(4,1),(5,1)]:={}
instance:cM prog 110 1 1 22:={}
instance:fr prog 22:={}
instance:iH prog 22 3 1 8:={}
instance:cM prog 67 2 5 3:={}
instance:cM prog 110 3 3 9:={}
instance:cM prog 110 5 5 3:={}
instance:cM prog 210 8 12 3:={}
instance:cM prog 43 2 2 41:={}
instance:fr prog 41:={}
instance:dZ prog 41 110 6:={}
instance:iH prog 41 110 6 88:={}
instance:cM prog 110 2 2 3:={}
instance:cM prog 110 4 4 22:={}
instance:jO prog 110 6:={}
instance:hP prog 43 (.agg #[.slice none 0 0,.slice none 0 0,.slice none 0 0,.string ⟨#[]⟩,.string ⟨#[]⟩]):={}
instance:jO prog 32 4:={}
instance:jC prog 43 [(0,1),(1,1),(2,1),(3,1),(4,1)]:={}
instance:jO prog 43 5:={}
instance:hP prog 4 (.bool false):={}
instance:ya prog 4 1:={}
instance:hP prog 210 (.agg #[.slice none 0 0,.slice none 0 0,.slice none 0 0,.string ⟨#[]⟩,.string ⟨#[]⟩,.slice none 0 0,.slice none 0 0,.slice none 0 0,.int .i64 0,.int .i64 0,.string ⟨#[]⟩,.int .i64 0,.int .i64 0]):={}
instance:jC prog 210 [(0,5),(5,1),(6,1),(7,1),(8,1),(9,1),(10,1),(11,1),(12,1)]:={}
instance:hP prog 59 (.agg #[.int .i64 0,.string ⟨#[]⟩,.slice none 0 0,.int .i64 0]):={}
instance:hP prog 62 (.agg #[.string ⟨#[]⟩,.bool false,.int .i64 0,.int .i64 0]):={}
instance:jC prog 62 [(0,1),(1,1),(2,1),(3,1)]:={}
instance:cM prog 65 2 2 3:={}
instance:iH prog 49 9 1 16:={}
instance:cM prog 43 1 1 40:={}
instance:jO prog 143 2:={}
instance:cM prog 32 3 3 9:={}
instance:cM prog 43 3 3 9:={}
instance:cM prog 43 4 4 9:={}
instance:cM prog 165 0 0 3:={}
instance:cM prog 165 1 1 3:={}
instance:jO prog 165 2:={}
instance:dZ prog 160 165 2:={}
instance:iH prog 160 165 2 16:={}
instance:cM prog 110 0 0 3:={}
instance:hP prog 165 (.agg #[.int .i64 0,.int .i64 0]):={}
instance:jC prog 165 [(0,1),(1,1)]:={}
instance:dZ prog 99 163 2:={}
instance:cM prog 163 0 0 160:={}
instance:fr prog 160:={}
instance:hP prog 163 (.agg #[.slice none 0 0,.slice none 0 0]):={}
instance:jC prog 163 [(0,1),(1,1)]:={}
instance:iH prog 99 163 2 48:={}
instance:cM prog 163 1 1 161:={}
instance:fr prog 161:={}
instance:hP prog 176 (.agg #[.int .i64 0,.int .i64 0]):={}
instance:jC prog 176 [(0,1),(1,1)]:={}
instance:dZ prog 161 176 2:={}
instance:iH prog 161 176 2 16:={}
instance:cM prog 176 0 0 3:={}
instance:cM prog 176 1 1 3:={}
instance:cM prog 130 4 4 22:={}
instance:cM prog 130 2 2 3:={}
instance:cM prog 130 3 3 4:={}
instance:hP prog 130 (.agg #[.int .i64 0,.int .i64 0,.int .i64 0,.bool false,.slice none 0 0]):={}
instance:jC prog 130 [(0,1),(1,1),(2,1),(3,1),(4,1)]:={}
instance:dZ prog 126 167 3:={}
instance:cM prog 167 0 0 3:={}
instance:cM prog 167 2 2 22:={}
instance:cM prog 167 1 1 3:={}
instance:jO prog 130 5:={}
instance:dZ prog 100 130 5:={}
instance:iH prog 100 130 5 56:={}
instance:dZ prog 33 22 1:={}
instance:hP prog 200 (.agg #[.int .i64 0,.int .i64 0]):={}
instance:jC prog 200 [(0,1),(1,1)]:={}
instance:dZ prog 197 200 2:={}
instance:iH prog 197 200 2 16:={}
instance:cM prog 200 0 0 3:={}
instance:cM prog 200 1 1 3:={}
instance:iH prog 33 22 1 24:={}
instance:hP prog 22 (.slice none 0 0):={}
instance:ya prog 22 24:={}
instance:hP prog 167 (.agg #[.int .i64 0,.int .i64 0,.slice none 0 0]):={}
instance:jC prog 167 [(0,1),(1,1),(2,1)]:={}
instance:jO prog 167 3:={}
instance:iH prog 126 167 3 40:={}
instance:hP prog 132 (.agg #[.int .i64 0,.int .i64 0]):={}
instance:cM prog 130 0 0 3:={}
instance:cM prog 130 1 1 3:={}
instance:hP prog 173 (.agg #[.int .i64 0,.int .i64 0,.int .i64 0,.int .i64 0]):={}
instance:jC prog 173 [(0,1),(1,1),(2,1),(3,1)]:={}
instance:dZ prog 103 173 4:={}
instance:iH prog 103 173 4 32:={}
instance:jC prog 132 [(0,1),(1,1)]:={}
instance:jO prog 132 2:={}
instance:hP prog 87 (.agg #[.slice none 0 0,.slice none 0 0]):={}
instance:dZ prog 128 132 2:={}
instance:ya prog 132 16:={}
instance:hP prog 3 (.int .i64 0):={}
instance:ya prog 3 8:={}
instance:cM prog 87 0 0 85:={}
instance:fr prog 85:={}
instance:dZ prog 85 128 1:={}
instance:iH prog 85 128 1 24:={}
instance:cM prog 87 1 1 33:={}
instance:fr prog 33:={}
instance:jO prog 87 2:={}
instance:jC prog 87 [(0,1),(1,1)]:={}
instance:hP prog 141 (.agg #[.int .i64 0,.string ⟨#[]⟩,.int .i64 0,.string ⟨#[]⟩]):={}
instance:jC prog 141 [(0,1),(1,1),(2,1),(3,1)]:={}
instance:jO prog 141 4:={}
instance:dZ prog 137 141 4:={}
instance:iH prog 137 141 4 48:={}
instance:cM prog 141 3 3 9:={}
instance:cM prog 141 0 0 3:={}
instance:cM prog 141 1 1 9:={}
instance:cM prog 141 2 2 3:={}
instance:dZ prog 114 146 2:={}
instance:cM prog 146 0 0 3:={}
instance:cM prog 146 1 1 46:={}
instance:fr prog 46:={}
instance:dZ prog 111 46 1:={}
instance:iH prog 111 46 1 24:={}
instance:cM prog 132 0 0 3:={}
instance:cM prog 132 1 1 3:={}
instance:fr prog 128:={}
instance:hP prog 146 (.agg #[.int .i64 0,.slice none 0 0]):={}
instance:jC prog 146 [(0,1),(1,1)]:={}
instance:hP prog 119 (.agg #[.int .i64 0,.int .i64 0]):={}
instance:jC prog 119 [(0,1),(1,1)]:={}
instance:dZ prog 46 119 2:={}
instance:iH prog 46 119 2 16:={}
instance:jO prog 146 2:={}
instance:iH prog 114 146 2 32:={}
instance:cM prog 119 0 0 3:={}
instance:hP prog 45 (.agg #[.slice none 0 0,.slice none 0 0,.slice none 0 0]):={}
instance:jC prog 45 [(0,1),(1,1),(2,1)]:={}
instance:jO prog 45 3:={}
instance:cM prog 45 2 2 22:={}
instance:cM prog 45 0 0 22:={}
instance:cM prog 45 1 1 22:={}
instance:cM prog 119 1 1 3:={}
instance:hP prog 48 (.agg #[.slice none 0 0,.slice none 0 0,.slice none 0 0,.slice none 0 0,.slice none 0 0,.slice none 0 0,.slice none 0 0,.slice none 0 0,.slice none 0 0,.slice none 0 0,.slice none 0 0]):={}
instance:cM prog 48 0 0 22:={}
instance:cM prog 48 1 1 45:={}
instance:cM prog 48 2 4 22:={}
instance:cM prog 48 3 5 45:={}
instance:cM prog 48 4 8 22:={}
instance:cM prog 48 5 9 22:={}
instance:cM prog 48 6 10 46:={}
instance:jO prog 48 11:={}
instance:jC prog 48 [(0,1),(1,3),(4,1),(5,3),(8,1),(9,1),(10,1)]:={}
instance:jO prog 119 2:={}
instance:jC prog 67 [(0,4),(4,1),(5,1)]:={}
instance:hP prog 70 (.agg #[.slice none 0 0,.string ⟨#[]⟩,.bool false,.int .i64 0,.int .i64 0,.int .i64 0]):={}
instance:jC prog 70 [(0,1),(1,4),(5,1)]:={}
instance:jC prog 65 [(0,1),(1,1),(2,1)]:={}
instance:hP prog 32 (.agg #[.string ⟨#[]⟩,.slice none 0 0,.slice none 0 0,.string ⟨#[]⟩]):={}
instance:jC prog 32 [(0,1),(1,1),(2,1),(3,1)]:={}
instance:cM prog 59 3 3 3:={}
instance:jC prog 59 [(0,1),(1,1),(2,1),(3,1)]:={}
instance:iH prog 57 62 4 40:={}
instance:iH prog 29 59 4 56:={}
instance:iH prog 68 67 6 64:={}
instance:iH prog 63 70 6 72:={}
instance:iH prog 30 65 3 48:={}
instance:cM prog 35 0 0 3:={}
instance:cM prog 35 2 2 22:={}
instance:cM prog 35 1 1 33:={}
instance:cM prog 35 3 3 22:={}
instance:cM prog 35 4 4 4:={}
instance:jO prog 35 5:={}
instance:dZ prog 38 32 4:={}
instance:gX prog 22 Int az:={}
instance:gX prog 29 Decl ff:={}
instance:gX prog 30 hU je:={}
instance:gX prog 33 (List Int) (bI az):={}
instance:gX prog 38 Source hj:={}
instance:gX prog 39 Tok bP:={}
instance:gX prog 40 e4 bz:={}
instance:gX prog 41 Prod cw:={}
instance:gX prog 46 dr dD:={}
instance:gX prog 49 ByteArray cL:={}
instance:gX prog 56 Bool cn:={}
instance:gX prog 57 Sym dQ:={}
instance:gX prog 60 Int m':={}
instance:gX prog 63 Alt fK:={}
instance:gX prog 68 Part hX:={}
instance:gX prog 85 (List Act) (bI eZ):={}
instance:gX prog 100 Cell ig:={}
instance:gX prog 103 e5 eM:={}
instance:gX prog 111 (List dr) (bI dD):={}
instance:gX prog 114 Row oE:={}
instance:gX prog 126 kN rJ:={}
instance:gX prog 128 Act eZ:={}
instance:gX prog 137 Piece p7:={}
instance:gX prog 160 Item fv:={}
instance:gX prog 161 Move ln:={}
instance:gX prog 197 Trans p8:={}
instance aaX {a0:ByteArray}{aB:(List Int)}{r:ByteArray}:bU prog 11 (xx a0 aB=some r) [ax a0,ao az aB] [none,none] (ax r):=⟨λh=>by unfold xx at h; exact b7.bS (N:=⟨28,[]⟩) [0,1,4,5,6,7,12,13,14,15,20] (.ey (λ(dk:ByteArray × Int)=>[(2005,.eY 5 (Lib.strCells dk.1)),(14,ae dk.2)]) [5,12,13,14] 0 (λ(bM:ByteArray)=>[(2005,.eY 5 (Lib.strCells bM))]) [5] (.b (.p (.cN [5,7,12,13,14] (λ(iX:ByteArray)=>[(2005,.eY 5 (Lib.strCells iX))]) .e .e)) .e) .e) func11 rfl rfl rfl rfl rfl eo⟩
instance abc {a0:Int}{r:ByteArray}:bU prog 18 (k9 a0=some r) [ae a0] [none] (ax r):=⟨λh=>by unfold k9 at h; exact b7.bS (N:=⟨32,[]⟩) [0,2,3,4,8,16,28] (.cN [0,3] (λ(iV:Int)=>[(3,.lit (.int .u64 iV))]) .e (.ey (λ(cb:Int × ByteArray)=>[(3,.lit (.int .u64 cb.1)),(4,ax cb.2)]) [0,3,4] 0 (λ(bR:ByteArray)=>[(4,ax bR)]) [0,4] (.eK 5 [0,3,4,16] (λ(l9:Bool)=>[(16,bf l9)]) .e) .e)) func18 rfl rfl rfl rfl rfl eo⟩
instance ab6 {a0:Int}{r:Bool}:bU prog 96 (vV a0=some r) [pc a0] [none] (bf r):=⟨λh=>by unfold vV at h; exact b7.bS (N:=⟨9,[]⟩) [0,2] (.eK 1 [2] (λ(c2:Bool)=>[(2,bf c2)]) .e) func96 rfl rfl rfl rfl rfl eo⟩
instance aa2 {a0:Int}{r:Bool}:bU prog 114 (Cn a0=some r) [pc a0] [none] (bf r):=⟨λh=>by unfold Cn at h; exact b7.bS (N:=⟨21,[]⟩) [0,2] (.eK 1 [2] (λ(l9:Bool)=>[(2,bf l9)]) .e) func114 rfl rfl rfl rfl rfl eo⟩
instance ab5 {a0:ByteArray}{aB:Int}{r:Int}:bU prog 95 (vU a0 aB=some r) [ax a0,ae aB] [none,none] (ae r):=⟨λh=>by unfold vU at h; exact b7.bS (N:=⟨43,[]⟩) [0,1,4,5,39] (.ey (λ(s1:Int)=>[(5,ae s1)]) [0,1,5] 0 (λ(x2:Int)=>[(5,ae x2)]) [5] (.eK 2 [0,1,5,39] (λ(oB:Bool)=>[(39,bf oB)]) .e) .e) func95 rfl rfl rfl rfl rfl eo⟩
instance aa4 {a0:ByteArray}{r:Bool}:bU prog 116 (uG a0=some r) [ax a0] [none] (bf r):=⟨λh=>by unfold uG at h; exact b7.bS (N:=⟨18,[]⟩) [0,2] (.eK 1 [2] (λ(c4:Bool)=>[(2,bf c4)]) .e) func116 rfl rfl rfl rfl rfl eo⟩
instance aa' {a0:Int}{r:Int × Bool}:bU prog 123 (zw a0=some r) [pc a0] [none] (.bJ [pc r.1,bf r.2]):=⟨λh=>by unfold zw at h; exact b7.bS (N:=⟨21,[]⟩) [0,2,3,4,5,7,9,11] (.b .e (.b .e (.b .e (.cN [0,11] (λ(Jb:Bool)=>[(11,bf Jb)]) .e (.b .e (.eK 11 [2,3] (λ(tR:Int × Bool)=>[(2,pc tR.1),(3,bf tR.2)]) .e)))))) func123 rfl rfl rfl rfl rfl eo⟩
instance aa9 {a0:Sym}{aB:Bool}{a2:Bool}{r:Bool}:bU prog 121 (r' a0 aB a2=some r) [.agg (dQ.cells a0),bf aB,bf a2] [none,none,none] (bf r):=⟨λh=>by unfold r' at h; exact b7.bS (N:=⟨53,[]⟩) [1,2,3,6,8,10,23] (.b (.eK 2 [3,23] (λ(c4:Bool)=>[(23,bf c4)]) .e) (.eK 6 [6] (λ(oB:Bool)=>[(6,bf oB)]) .e)) func121 rfl rfl rfl rfl rfl eo⟩
instance aa3 {a0:Decl}{r:Bool}:bU prog 115 (r_ a0=some r) [.agg (ff.cells a0)] [none] (bf r):=⟨λh=>by unfold r_ at h; exact b7.bS (N:=⟨75,[]⟩) [1,2,3,54,59,74] (.eK 1 [1,54] (λ(ph:Bool)=>[(54,bf ph)]) (.b .e (.gf (λ(gg:Int)=>[(3,ae gg)]) [1,3] 0 (λ(f':Unit)=>[]) [] (λ(fF:Bool)=>[(2,bf fF)]) [2] (.b (.rd 6 [[],[0],[],[0,1,2],[0,1,2,3],[],[5],[5,6],[],[8],[8,9],aN 0 11 [],aN 0 12 []] .e) .e) .e .e))) func115 rfl rfl rfl rfl rfl eo⟩
instance ab4 {a0:ByteArray}{aB:Int}{a2:ByteArray}{r:Bool}:bU prog 94 (xF a0 aB a2=some r) [ax a0,ae aB,ax a2] [none,none,none] (bf r):=⟨λh=>by unfold xF at h; exact b7.bS (N:=⟨25,[]⟩) [0,1,2,6] (.eK 1 [6] (λ(jt:Bool)=>[(6,bf jt)]) .e) func94 rfl rfl rfl rfl rfl eo⟩
instance abO {a0:ByteArray}{aB:Int}{r:Int}:bU prog 74 (zE a0 aB=some r) [ax a0,ae aB] [none,none] (ae r):=⟨λh=>by unfold zE at h; exact b7.bS (N:=⟨114,[]⟩) [0,1,4,5,6,7,8,9,31,40,46,58,59,69,75,78,92,96,105,110] (.eK 1 [0,1,9] (λ(c4:Bool)=>[(9,bf c4)]) (.b (.gf (λ(da:Int)=>[(5,ae da)]) [0,1,5] 1 (λ(cm:Unit)=>[]) [] (λ(ed:Int)=>[(4,ae ed)]) [4] (.eK 3 [0,1,5,31] (λ(wA:Bool)=>[(31,bf wA)]) (.b (.rd 5 [[],[],[0,1],[],[],[3,4],aN 0 6 []] (.b .e (.b (.eK 9 [0,1,5,58] (λ(rE:Bool)=>[(58,bf rE)]) .e) .e))) .e)) .e .e) (.b (.gf (λ(oe:Int)=>[(6,ae oe)]) [0,6] 3 (λ(fT:Unit)=>[]) [] (λ(cD:Int)=>[(4,ae cD)]) [4] .e .e .e) (.b (.ey (λ(gk:Int)=>[(7,ae gk)]) [0,7] 5 (λ(fG:Int)=>[(7,ae fG)]) [7] (.eK 21 [0,7,92] (λ(AG:Bool)=>[(92,bf AG)]) .e) .e) (.b (.gf (λ(zQ:Int)=>[(8,ae zQ)]) [0,8] 7 (λ(nH:Unit)=>[]) [] (λ(nI:Int)=>[(4,ae nI)]) [4] .e .e .e) .e))))) func74 rfl rfl rfl rfl rfl eo⟩
instance abN {a0:ByteArray}{aB:Int}{r:Int}:bU prog 73 (xD a0 aB=some r) [ax a0,ae aB] [none,none] (ae r):=⟨λh=>by unfold xD at h; exact b7.bS (N:=⟨53,[]⟩) [0,1,4,5,6,7,21,26,31,34,39,45,51] (.eK 1 [0,1,21] (λ(c4:Bool)=>[(21,bf c4)]) (.b .e (.gf (λ(da:Int × Int)=>[(5,ae da.1),(6,ae da.2)]) [0,5,6] 0 (λ(cm:Unit)=>[]) [] (λ(ed:Int)=>[(4,ae ed)]) [4] (.b (.b .e (.b .e (.cN [0,5,6] (λ(lA:Int)=>[(5,ae lA)]) .e (.cN [0,5,6] (λ(EJ:Int)=>[(5,ae EJ)]) .e .e)))) .e) .e .e))) func73 rfl rfl rfl rfl rfl eo⟩
instance aa_ {a0:Sym}{r:Bool}:bU prog 122 (uH a0=some r) [.agg (dQ.cells a0)] [none] (bf r):=⟨λh=>by unfold uH at h; exact b7.bS (N:=⟨16,[]⟩) [1,2] (.eK 1 [2] (λ(jt:Bool)=>[(2,bf jt)]) .e) func122 rfl rfl rfl rfl rfl eo⟩
instance aa5 {a0:Alt}{r:Bool}:bU prog 117 (qw a0=some r) [.agg (fK.cells a0)] [none] (bf r):=⟨λh=>by unfold qw at h; exact b7.bS (N:=⟨54,[]⟩) [1,2,3,4,9,45] (.gf (λ(s1:Int)=>[(3,ae s1)]) [1,3] 0 (λ(aZ:Unit)=>[]) [1] (λ(bR:Bool)=>[(2,bf bR)]) [2] (.b (.ca 5 [[],[0],[0,1],[0,1,2],[0,1,2,3],aN 0 5 [],aN 0 6 [],aN 0 7 [],aN 0 8 [],aN 0 9 [],aN 0 10 [],aN 0 11 [],aN 0 12 [],aN 0 13 [],aN 0 14 [],aN 0 15 [],aN 0 16 [],aN 0 17 [],aN 0 18 [],aN 0 19 [],aN 0 20 [],aN 0 21 [],aN 0 19 [],aN 0 19 [22],aN 0 19 [22,23],aN 0 25 [],aN 0 26 [],aN 0 27 [],aN 0 28 []] [1,3,45] (λ(mZ:Bool)=>[(45,bf mZ)]) .e) .e) (.eK 7 [2] (λ(tO:Bool)=>[(2,bf tO)]) .e) .e) func117 rfl rfl rfl rfl rfl eo⟩
instance ab7 {a0:Source}{r:Bool}:bU prog 99 (uM a0=some r) [.agg (hj.cells a0)] [none] (bf r):=⟨λh=>by unfold uM at h; exact b7.bS (N:=⟨77,[]⟩) [1,2,3,4,5,6,7,13,22,27,36,41,58,63,72] (.gf (λ(s1:Int)=>[(3,ae s1)]) [1,3] 0 (λ(aZ:Unit)=>[]) [1] (λ(bR:Bool)=>[(2,bf bR)]) [2] .e (.gf (λ(eV:Int)=>[(4,ae eV)]) [1,4] 2 (λ(bG:Unit)=>[]) [1] (λ(cU:Bool)=>[(2,bf cU)]) [2] .e (.gf (λ(CR:Int)=>[(5,ae CR)]) [1,5] 4 (λ(fY:Unit)=>[]) [1] (λ(f':Bool)=>[(2,bf f')]) [2] (.b (.eK 15 [1,5,6,58] (λ(GF:Bool)=>[(58,bf GF)]) (.b .e (.gf (λ(og:Int)=>[(7,ae og)]) [1,5,6,7] 6 (λ(cD:Unit)=>[]) [1,5] (λ(er:Bool)=>[(2,bf er)]) [2] .e .e .e))) .e) .e .e) .e) .e) func99 rfl rfl rfl rfl rfl eo⟩
instance aaO {a0:dc}{aB:Int}{a2:ByteArray}{r:dc}:bU prog 101 (nD a0 aB a2=some r) [.obj (dH.cells a0),ae aB,ax a2] [some (.obj [aq bP r.aD.aX,aq bz r.aD.bO,aq cw r.aD.a1,ax r.aD.b9,ax r.aD.cg,aq cn r.b_,aq bz r.cp,aq cL r.bX,ae r.cI,ae r.c_,ax r.c8,ae r.b',ae r.bQ]),none,none] (.bJ []):=⟨λh=>by unfold nD at h; exact b7.bS (N:=⟨22,[0]⟩) [0,1,2,10] (.cN [0] (λ(iV:dc)=>[(0,.obj (dH.cells iV))]) .e .e) func101 rfl rfl rfl rfl rfl eo⟩
instance aaS {a0:dc}{aB:ByteArray}{r:Int}:bU prog 105 (vR a0 aB=some r) [.cJ ([ao bP a0.aD.aX,ao bz a0.aD.bO,ao cw a0.aD.a1,ax a0.aD.b9,ax a0.aD.cg,ao cn a0.b_,ao bz a0.cp,ao cL a0.bX,ae a0.cI,ae a0.c_,ax a0.c8,ae a0.b',ae a0.bQ]),ax aB] [none,none] (ae r):=⟨λh=>by unfold vR at h; exact b7.bS (N:=⟨26,[]⟩) [0,1,4,5,12,24] (.gf (λ(s1:Int)=>[(5,ae s1)]) [0,1,5] 0 (λ(aZ:Unit)=>[]) [] (λ(bR:Int)=>[(4,ae bR)]) [4] .e .e .e) func105 rfl rfl rfl rfl rfl eo⟩
instance aaP {a0:dc}{aB:Sym}{r:Int}:bU prog 102 (qv a0 aB=some r) [.cJ ([ao bP a0.aD.aX,ao bz a0.aD.bO,ao cw a0.aD.a1,ax a0.aD.b9,ax a0.aD.cg,ao cn a0.b_,ao bz a0.cp,ao cL a0.bX,ae a0.cI,ae a0.c_,ax a0.c8,ae a0.b',ae a0.bQ]),.agg (dQ.cells aB)] [none,none] (ae r):=⟨λh=>by unfold qv at h; exact b7.bS (N:=⟨47,[]⟩) [0,3,4,5,13,45] (.gf (λ(s1:Int)=>[(5,ae s1)]) [0,3,5] 0 (λ(aZ:Unit)=>[]) [] (λ(bR:Int)=>[(4,ae bR)]) [4] (.b (.ca 4 [[],[0],[0,1],[0,1,2],[0,1,2,3],[],aN 0 6 [],aN 0 7 [],aN 0 8 [],[],[9],aN 0 11 [],aN 0 12 [],aN 0 13 [],aN 0 14 [],aN 0 15 [],aN 0 16 [],aN 0 17 [],aN 0 13 [],aN 0 19 [],aN 0 20 [],aN 0 21 [],aN 0 13 [],aN 0 13 [22],aN 0 24 [],aN 0 25 [],aN 0 26 [],aN 0 27 [],aN 0 28 [],aN 0 29 []] [0,3,5,45] (λ(hW:Bool)=>[(45,bf hW)]) .e) .e) .e .e) func102 rfl rfl rfl rfl rfl eo⟩
instance aa7 {a0:dc}{aB:Int}{r:Int}:bU prog 119 (s' a0 aB=some r) [.cJ ([ao bP a0.aD.aX,ao bz a0.aD.bO,ao cw a0.aD.a1,ax a0.aD.b9,ax a0.aD.cg,ao cn a0.b_,ao bz a0.cp,ao cL a0.bX,ae a0.cI,ae a0.c_,ax a0.c8,ae a0.b',ae a0.bQ]),ae aB] [none,none] (ae r):=⟨λh=>by unfold s' at h; exact b7.bS (N:=⟨28,[]⟩) [0,1,4,5,13,26] (.gf (λ(s1:Int)=>[(5,ae s1)]) [0,1,5] 0 (λ(aZ:Unit)=>[]) [] (λ(bR:Int)=>[(4,ae bR)]) [4] .e .e .e) func119 rfl rfl rfl rfl rfl eo⟩
instance aa6 {a0:dc}{aB:Sym}{r:Int × dc}:bU prog 118 (q8 a0 aB=some r) [.obj (dH.cells a0),.agg (dQ.cells aB)] [some (.obj [aq bP r.2.aD.aX,aq bz r.2.aD.bO,aq cw r.2.aD.a1,ax r.2.aD.b9,ax r.2.aD.cg,aq cn r.2.b_,aq bz r.2.cp,aq cL r.2.bX,ae r.2.cI,ae r.2.c_,ax r.2.c8,ae r.2.b',ae r.2.bQ]),none] (ae r.1):=⟨λh=>by unfold q8 at h; exact b7.bS (N:=⟨66,[0]⟩) [0,3,4,5,6,11,19,29] (.b .e (.cN [0,3,6] (λ(h':dc × Int)=>[(0,.obj (dH.cells h'.1)),(3006,ae h'.2)]) (.b (.cN [0,3,6] (λ(oT:dc)=>[(0,.obj (dH.cells oT))]) .e .e) .e) (.rd 9 [[],[],[1],[1,2],[1,2,3],[1,2,3,4],[],[6],aN 1 7 [],aN 0 9 [],aN 0 10 [],aN 0 11 [],aN 0 12 []] (.rd 10 [[],[],[1],[1,2],[1,2,3],[],[5],[5,6],aN 1 7 [],aN 0 9 [],aN 0 10 [],aN 0 11 []] .e)))) func118 rfl rfl rfl rfl rfl eo⟩
theorem GR (v:Value) (a0:dc) (aB:Int) (a2:ByteArray) (r:dc) (h:nD a0 aB a2=some r):b7 prog 101 [.obj [.lit v,aq bz a0.aD.bO,aq cw a0.aD.a1,ax a0.aD.b9,ax a0.aD.cg,aq cn a0.b_,aq bz a0.cp,aq cL a0.bX,ae a0.cI,ae a0.c_,ax a0.c8,ae a0.b',ae a0.bQ],ae aB,ax a2] [some (.obj [.lit v,aq bz r.aD.bO,aq cw r.aD.a1,ax r.aD.b9,ax r.aD.cg,aq cn r.b_,aq bz r.cp,aq cL r.bX,ae r.cI,ae r.c_,ax r.c8,ae r.b',ae r.bQ]),none,none] (.bJ []):=by
 unfold nD at h;refine b7.go (N:=⟨22,[0]⟩) func101 q q q q (W.fin ?_);refine W.st [(0,.obj [.lit v,aq bz a0.aD.bO,aq cw a0.aD.a1,ax a0.aD.b9,ax a0.aD.cg,aq cn a0.b_,aq bz a0.cp,aq cL a0.bX,ae a0.cI,ae a0.c_,ax a0.c8,ae a0.b',ae a0.bQ]),(1,ae aB),(2,ax a2)] ?_;refine W.c7 [0,1,2,10] ?_;refine aW h λiV aj h=>W.gK [0] [(0,.obj [.lit v,aq bz iV.aD.bO,aq cw iV.aD.a1,ax iV.aD.b9,ax iV.aD.cg,aq cn iV.b_,aq bz iV.cp,aq cL iV.bX,ae iV.cI,ae iV.c_,ax iV.c8,ae iV.b',ae iV.bQ])] ?_ ?_
 ·clear h; have h:=aj; clear aj;refine W.cd h q (λfy h=>?_) (λfy h=>?_)
  ·refine W.ca [0] (ay (O.a8 .z4)<|ay (O.a8 .z4)<|ay (O.a8 .z4)<|dF q<|dF q<|ay (O.eC .z5)<|ay O.y2<|aC.j4 (G2:=[(0,_),(12,.ptr ⟨0,[]⟩ 0),(13,.ptr ⟨0,[]⟩ 0),(14,_),(15,_)]) (cs2:=[.lit v,aq bz a0.aD.bO,aq cw a0.aD.a1,ax a0.aD.b9,ax a0.aD.cg,aq cn a0.b_,aq bz a0.cp,aq cL a0.bX,ae 3,ae a0.c_,ax a0.c8,ae a0.b',ae a0.bQ]) q (.ptr q) (.k q) q zU q q q q (.b q (.p q q q q q q (.p q q q q q q (.n q q (.n q q .nil)))))<|ay (O.eC .z5)<|ay O.y2<|aC.j4 (G2:=[(0,_),(13,.ptr ⟨0,[]⟩ 0),(15,_)]) (cs2:=[.lit v,aq bz a0.aD.bO,aq cw a0.aD.a1,ax a0.aD.b9,ax a0.aD.cg,aq cn a0.b_,aq bz a0.cp,aq cL a0.bX,ae 3,ae aB,ax a0.c8,ae a0.b',ae a0.bQ]) q (.ptr q) (.lit q) q zU q q q q (.b q (.p q q q q q q (.n q q .nil)))<|ay (O.eC .z5)<|ay O.y2<|aC.eE (bt.o0 [0])<|bV q) ?_;exact sm h ▸ aJ.eU
  ·exact W.dO<|sm h ▸ aJ.eU
 exact sm h ▸ aJ.fin (Fin.ro .nil q (Cf (by kernel_rfl)) (.ag q q (.no (.no .nil))) q (.inl q))
theorem SL (a0:dc) (aB:Decl) (a2:Sym) (r:dc) (h:pK a0 aB a2=some r):b7 prog 100 [.obj (dH.cells a0),.agg (ff.cells aB),.agg (dQ.cells a2)] [some (.obj [aq bP r.aD.aX,aq bz r.aD.bO,aq cw r.aD.a1,ax r.aD.b9,ax r.aD.cg,aq cn r.b_,aq bz r.cp,aq cL r.bX,ae r.cI,ae r.c_,ax r.c8,ae r.b',ae r.bQ]),none,none] (.bJ []):=by
 unfold pK at h;refine b7.go (N:=⟨152,[0]⟩) func100 q q q q (W.fin ?_);refine W.st [(0,.obj (dH.cells a0)),(1,.agg (ff.cells aB)),(2,.agg (dQ.cells a2))] ?_;refine W.dt [0,4,5] (ay (O.box (.eA q q) q)<|ay (O.box (.eA q q) q)<|bV q) ?_;refine W.b4<|W.c7 [0,4,5,11] ?_;refine W.cd h q (λnW h=>?_) (λnW h=>?_)
 ·refine aW h λx2 kA h=>W.dt [0,4,5,6] (ay (O.a8 .z4)<|ay O.bT<|ay O.eW<|hD (dd.sn (ys:=[.ptr ⟨0,[]⟩ 0,ax a2.Name]) q (.c (View.pJ q q) (.s .nil)) (bU.go kA))<|aC.bS) ?_;refine W.b4<|W.c7 [0,4,5,6,17] ?_;refine aW h λh' aj h=>W.gK [0] [(0,.obj (dH.cells h'))] ?_ ?_
  ·clear h; have h:=aj; clear aj;refine W.cd h q (λuc h=>?_) (λuc h=>?_)
   ·refine aW h λbM ql h=>W.rd [[],[],[1],[1,2],[1,2,3],[],[5],[],[7],[5,6,7,8],aN 5 5 [],aN 1 10 [],aN 0 12 [],aN 0 13 [],aN 0 14 []] [(0,_)] gC (by kernel_rfl) (aM 0 (O.a8 .z4)<|aM 1 (O.a8 .z4)<|aM 2 (O.eC .z5)<|aM 3 O.y2<|aM 4 (O.ee (y:=.bl bz.z ⟨0,[6]⟩ a0.cp.length))<|aM 5 O.bT<|aM 6 O.eW<|aM 7 O.bT<|aM 8 O.eW<|aM 9 (O.eR (cs:=[ax a2.Name,ax aB.Tag]) Fu Da q q q)<|bH.gy 10 (x:=ao bz [(⟨a2.Name,aB.Tag⟩:e4)]) (O.bn (ys:=[.agg [ax a2.Name,ax aB.Tag]]) bz [(⟨a2.Name,aB.Tag⟩:e4)] xS q q q q q q F8 q q) q q q q .none<|aM 11 (O.ap (en:=bz) (r:=bM) .eh q .z2 .i Gq q ql)<|aM 12 (O.eC .z5)<|aM 13 O.y2<|bH.kb 14 (bt.sp [0])<|bH.fin q q q (.n q .nil)) ?_;exact sm h ▸ aJ.eU
   ·refine W.b4<|aW h λbN rZ h=>W.rd [[],[0],[0,1],[0,1,2],[],aN 0 5 [],aN 0 6 [],aN 0 7 [],[],[8],aN 0 10 []] [(0,_),(5,_),(42,_)] gC (by kernel_rfl) (aM 0 (O.a8 .z4)<|aM 1 (O.eC .z5)<|aM 2 O.y2<|aM 3 (O.ee (y:=.bl bz.z ⟨0,[6]⟩ a0.cp.length))<|aM 4 (O.a8 (.lit q))<|aM 5 (O.iU (en:=bz) q .eh .bs xS rZ q)<|aM 6 (O.mD (en:=bz) q .z5 Me rZ q q)<|aM 7 (O.lT (en:=bz) (x':=ax bN.Tag) q .z5 wE rZ q q)<|aM 8 O.bT<|aM 9 O.eW<|aM 10 (O.n' .bs .bs)<|bH.fin q q q (zW q q q)) ?_;refine aJ.bY<|aW h λoT aj h=>W.gK [0] [(0,.obj (dH.cells oT))] ?_ ?_
    ·clear h; have h:=aj; clear aj;refine W.cd h q (λHV h=>?_) (λHV h=>?_)
     ·refine aW h λed W3 h=>W.ca [0] (ay (O.a8 .z4)<|ay O.bT<|ay O.eW<|ay O.bT<|ay O.eW<|aC.na q (bt.call q q (hN.lC (G2:=[]) (A:=[]) (ys:=[.ptr ⟨0,[]⟩ 0,ae a2.At,ax a2.Name]) (args:=[.obj (dH.cells a0),ae a2.At,ax a2.Name]) (cs':=dH.cells ed) (k0:=0) q q q q (.b q (.n q (.n q .nil))) q (bU.go W3) call101 .nil q q .nil .nil q))<|bV q) ?_;exact sm h ▸ aJ.eU
     ·exact W.dO<|sm h ▸ aJ.eU
    exact sm h ▸ aJ.eU
  exact aJ.bY<|W.rt<|aJ.kH<|sm h ▸ aJ.fin (Fin.ro .nil q (Cf (by kernel_rfl)) (.ag q q (.no (.no .nil))) q (.inr q))
 ·refine W.dO<|aJ.bY<|aW h λbG NG h=>W.dt [0,4,5,7] (ay (O.a8 .z4)<|ay (O.fh (cs':=dQ.cells a2) q .z4 Aw q q)<|aC.na q (bt.call q q (hN.lC (G2:=[(4,.obj (ff.cells aB)),(5,.obj (dQ.cells a2))]) (A:=[]) (ys:=[.ptr ⟨0,[]⟩ 0,.agg (dQ.cells a2)]) (args:=[.obj (dH.cells a0),.agg (dQ.cells a2)]) (cs':=dH.cells bG.2) (k0:=0) q q q q (.b q (.n q .nil)) q (bU.go NG) call118 (sk q q) q q (sk q q) .nil q))<|aC.bS) ?_;refine aW h λcU nu h=>W.rs [(0,_),(4,_),(5,_),(7,_),(8,.ptr ⟨0,[0]⟩ (bG.1.toNat * bP.z+0))] (ay (O.a8 .z4)<|ay (O.eC .z5)<|ay O.y2<|ay O.y2<|ay (O.ee (y:=.bl bP.z ⟨0,[0]⟩ bG.2.aD.aX.length))<|dF q<|ay (O.iU (en:=bP) q .eh .bs Fy nu q)<|ay (O.dG .z5)<|iI (.n q (.n q (.n q (.n q (.r q (et.el (en:=bP) q nu q) jy .nil)))))) ?_;refine W.b4<|W.rs [(0,_),(4,_),(5,_),(7,_),(8,.ptr ⟨0,[0]⟩ (bG.1.toNat * bP.z+0)),(61,_)] (ay O.bT<|ay O.eW<|ay (O.neq .bs .cW)<|iI (.n q (.n q (.n q (.n q (.r q (et.el (en:=bP) q nu q) jy (.n q .nil))))))) ?_;refine aW h λeG aj h=>W.gK [0,4,5,7,8] [(0,.obj (dH.cells eG))] ?_ ?_
  ·clear h; have h:=aj; clear aj;refine W.cd h q (λHM h=>?_) (λHM h=>?_)
   ·refine W.b4<|W.rs [(0,_),(4,_),(5,_),(7,_),(8,.ptr ⟨0,[0]⟩ (bG.1.toNat * bP.z+0)),(66,_)] (ay (O.a8 .z5)<|ay (O.eC .z5)<|ay (O.mD (en:=bP) q .z5 Mh nu q q)<|ay (O.lT (en:=bP) (x':=ae cU.Level) q .z5 sE nu q q)<|ay (O.gtr .bs .cW)<|iI (.n q (.n q (.n q (.n q (.r q (et.el (en:=bP) q nu q) jy (.n q .nil))))))) ?_;refine aW h λcZ aj h=>W.gK [0,4,5,7,8] [(0,.obj (dH.cells cZ))] ?_ ?_
    ·clear h; have h:=aj; clear aj;refine W.cd h q (λnf h=>?_) (λnf h=>?_)
     ·refine aW h λcc uv h=>W.rx [(0,_),(4,_),(5,_),(7,_),(8,.ptr ⟨0,[0]⟩ (bG.1.toNat * bP.z+0))] (ay (O.a8 .z4)<|ay O.bT<|ay O.eW<|ay O.bT<|ay O.eW<|aC.na (G2:=[(8,.ptr ⟨0,[0]⟩ (bG.1.toNat * bP.z+0))]++[(72,.bJ []),(0,.obj [aq bP bG.2.aD.aX,aq bz cc.aD.bO,aq cw cc.aD.a1,ax cc.aD.b9,ax cc.aD.cg,aq cn cc.b_,aq bz cc.cp,aq cL cc.bX,ae cc.cI,ae cc.c_,ax cc.c8,ae cc.b',ae cc.bQ]),(4,.obj (ff.cells aB)),(5,.obj (dQ.cells a2)),(7,ae bG.1)]) q (bt.ek (r:=0) (k0:=0) (y:=aq bP bG.2.aD.aX) (cs5:=[aq bP bG.2.aD.aX,aq bz cc.aD.bO,aq cw cc.aD.a1,ax cc.aD.b9,ax cc.aD.cg,aq cn cc.b_,aq bz cc.cp,aq cL cc.bX,ae cc.cI,ae cc.c_,ax cc.c8,ae cc.b',ae cc.bQ]) (G1:=λv=>[(0,.obj [.lit v,aq bz bG.2.aD.bO,aq cw bG.2.aD.a1,ax bG.2.aD.b9,ax bG.2.aD.cg,aq cn bG.2.b_,aq bz bG.2.cp,aq cL bG.2.bX,ae bG.2.cI,ae bG.2.c_,ax bG.2.c8,ae bG.2.b',ae bG.2.bQ]),(4,.obj (ff.cells aB)),(5,.obj (dQ.cells a2)),(7,ae bG.1),(67,.ptr ⟨0,[]⟩ 0),(69,ae a2.At),(71,ax a2.Name)]) (G4:=λv=>[(72,.bJ []),(0,.obj [.lit v,aq bz cc.aD.bO,aq cw cc.aD.a1,ax cc.aD.b9,ax cc.aD.cg,aq cn cc.b_,aq bz cc.cp,aq cL cc.bX,ae cc.cI,ae cc.c_,ax cc.c8,ae cc.b',ae cc.bQ]),(4,.obj (ff.cells aB)),(5,.obj (dQ.cells a2)),(7,ae bG.1)]) (c4:=λv=>[.lit v,aq bz cc.aD.bO,aq cw cc.aD.a1,ax cc.aD.b9,ax cc.aD.cg,aq cn cc.b_,aq bz cc.cp,aq cL cc.bX,ae cc.cI,ae cc.c_,ax cc.c8,ae cc.b',ae cc.bQ]) (G5:=[(72,.bJ []),(0,.obj [aq bP bG.2.aD.aX,aq bz cc.aD.bO,aq cw cc.aD.a1,ax cc.aD.b9,ax cc.aD.cg,aq cn cc.b_,aq bz cc.cp,aq cL cc.bX,ae cc.cI,ae cc.c_,ax cc.c8,ae cc.b',ae cc.bQ]),(4,.obj (ff.cells aB)),(5,.obj (dQ.cells a2)),(7,ae bG.1)]) (A:=[(8,.ptr ⟨0,[0]⟩ (bG.1.toNat * bP.z+0))]) q q q q (λv=>(.b q (.n q q (.n q q (.n q q (.p q q q q q q (.n q q (.n q q .nil)))))))) (λv=>hN.lC (G2:=[(4,.obj (ff.cells aB)),(5,.obj (dQ.cells a2)),(7,ae bG.1)]) (A:=[]) (ys:=[.ptr ⟨0,[]⟩ 0,ae a2.At,ax a2.Name]) (args:=[.obj [.lit v,aq bz bG.2.aD.bO,aq cw bG.2.aD.a1,ax bG.2.aD.b9,ax bG.2.aD.cg,aq cn bG.2.b_,aq bz bG.2.cp,aq cL bG.2.bX,ae bG.2.cI,ae bG.2.c_,ax bG.2.c8,ae bG.2.b',ae bG.2.bQ],ae a2.At,ax a2.Name]) (cs':=[.lit v,aq bz cc.aD.bO,aq cw cc.aD.a1,ax cc.aD.b9,ax cc.aD.cg,aq cn cc.b_,aq bz cc.cp,aq cL cc.bX,ae cc.cI,ae cc.c_,ax cc.c8,ae cc.b',ae cc.bQ]) (k0:=0) q q q q (.b q (.n q (.n q .nil))) q (GR v bG.2 a2.At a2.Name _ uv) call101 (zW q q q) q q (zW q q q) .nil q) (λv=>q) (λv=>q) (λv=>q) (λv=>(.n q q (.b q (.n q q (.n q q (.n q q .nil)))))) q (.c (en:=bP) (L:=bG.2.aD.aX) q q nu q q q .nil))<|iI (.n q (.n q (.n q (.n q (.r q (et.el (en:=bP) q nu q) jy .nil)))))) ?_;exact sm h ▸ aJ.cN (.n q (.n q (.n q (.n q (.r q (et.el (en:=bP) q nu q) jy .nil)))))
     ·exact W.dO<|sm h ▸ aJ.cN (.n q (.n q (.n q (.n q (.r q (et.el (en:=bP) q nu q) jy .nil)))))
    refine aW h λbK nv h=>aJ.bY<|W.rd [[],[],[],[2],[2,3],[2,3,4],[],[6],[6,7],[0,2,3,4,5],[0,2,3,4,5,9],[0,2,3,4,5,9,10],aN 0 12 [],aN 0 13 [],aN 0 14 []] [(0,_),(4,_),(5,_),(7,_),(8,.ptr ⟨0,[0]⟩ (bG.1.toNat * bP.z+0))] gC (by kernel_rfl) (aM 0 (O.a8 .z5)<|aM 1 (O.a8 .z5)<|aM 2 (O.a8 .z4)<|aM 3 (O.eC .z5)<|aM 4 O.y2<|aM 5 O.eW<|aM 6 O.bT<|aM 7 O.eW<|aM 8 (O.sub .bs .cW)<|aM 9 (O.eC .z5)<|aM 10 (O.mD (en:=bP) q .z5 Mh nv q q)<|bH.eR 11 (G2:=[(0,.obj [aq bP (cZ.aD.aX.set bG.1.toNat (⟨bK.Name,bK.Lit,bK.bF,cZ.b',bK.e9,bK.Tag⟩:Tok)),aq bz cZ.aD.bO,aq cw cZ.aD.a1,ax cZ.aD.b9,ax cZ.aD.cg,aq cn cZ.b_,aq bz cZ.cp,aq cL cZ.bX,ae cZ.cI,ae cZ.c_,ax cZ.c8,ae cZ.b',ae cZ.bQ]),(4,.obj (ff.cells aB)),(5,.obj (dQ.cells a2)),(7,ae bG.1),(8,.ptr ⟨0,[0]⟩ (bG.1.toNat * bP.z+0))]) (U:=[(8,81,some (ae (aE (aB.Kind - 1)))),(7,80,some (ae aB.Kind)),(6,79,some (.ptr ⟨4,[]⟩ 0)),(1,74,some (.ptr ⟨0,[0]⟩ (bG.1.toNat * bP.z+0)))]) (iv.v (bt.kd (bt.xV (en:=bP) (y2:=(⟨bK.Name,bK.Lit,bK.bF,cZ.b',bK.e9,bK.Tag⟩:Tok)) (cs':=[ae cZ.b']) (x2:=.obj [aq bP (cZ.aD.aX.set bG.1.toNat (⟨bK.Name,bK.Lit,bK.bF,cZ.b',bK.e9,bK.Tag⟩:Tok)),aq bz cZ.aD.bO,aq cw cZ.aD.a1,ax cZ.aD.b9,ax cZ.aD.cg,aq cn cZ.b_,aq bz cZ.cp,aq cL cZ.bX,ae cZ.cI,ae cZ.c_,ax cZ.c8,ae cZ.b',ae cZ.bQ]) q q (.ptr q) (.lit q) q nv zU q q q q q q q (.b q (.n q q (.n q q (.n q q (.e q q (.mk (en:=bP) q nv q (n5 nv) q) q .nil)))))))) q q (by kernel_rfl) q q q (.c (.inr (.inl ⟨_,q⟩)) q q q q q (Gd.wanted .none) (O.sub .bs .cW) (.c (.inr (.inl ⟨_,q⟩)) q q q q q (Gd.wanted .none) (O.pC q .z5 sE q) (.c (.inr (.inr (.inr (.inl ⟨4,_,_,q,q,iC q,by simp,_,q,iC q⟩)))) q q q q q (Gd.wanted .none) (O.nb q .z4 TD q) (.c (.inr (.inr (.inl ⟨8,_,_,q,q,q,by simp⟩))) q q q q q (Gd.wanted .none) (O.a8 .z5) .nil)))) (by kernel_rfl)<|aM 12 (O.eC .z5)<|aM 13 (O.mD (en:=bP) q .z5 TF (n5 nv) q q)<|bH.kb 14 (G2:=[(0,.obj [aq bP ((cZ.aD.aX.set bG.1.toNat (⟨bK.Name,bK.Lit,bK.bF,cZ.b',bK.e9,bK.Tag⟩:Tok)).set bG.1.toNat (⟨(⟨bK.Name,bK.Lit,bK.bF,cZ.b',bK.e9,bK.Tag⟩:Tok).Name,(⟨bK.Name,bK.Lit,bK.bF,cZ.b',bK.e9,bK.Tag⟩:Tok).Lit,(⟨bK.Name,bK.Lit,bK.bF,cZ.b',bK.e9,bK.Tag⟩:Tok).bF,(⟨bK.Name,bK.Lit,bK.bF,cZ.b',bK.e9,bK.Tag⟩:Tok).Level,aE (aB.Kind - 1),(⟨bK.Name,bK.Lit,bK.bF,cZ.b',bK.e9,bK.Tag⟩:Tok).Tag⟩:Tok)),aq bz cZ.aD.bO,aq cw cZ.aD.a1,ax cZ.aD.b9,ax cZ.aD.cg,aq cn cZ.b_,aq bz cZ.cp,aq cL cZ.bX,ae cZ.cI,ae cZ.c_,ax cZ.c8,ae cZ.b',ae cZ.bQ]),(4,.obj (ff.cells aB)),(5,.obj (dQ.cells a2)),(7,ae bG.1),(8,.ptr ⟨0,[0]⟩ (bG.1.toNat * bP.z+0))]) (bt.xV (en:=bP) (y2:=(⟨(⟨bK.Name,bK.Lit,bK.bF,cZ.b',bK.e9,bK.Tag⟩:Tok).Name,(⟨bK.Name,bK.Lit,bK.bF,cZ.b',bK.e9,bK.Tag⟩:Tok).Lit,(⟨bK.Name,bK.Lit,bK.bF,cZ.b',bK.e9,bK.Tag⟩:Tok).bF,(⟨bK.Name,bK.Lit,bK.bF,cZ.b',bK.e9,bK.Tag⟩:Tok).Level,aE (aB.Kind - 1),(⟨bK.Name,bK.Lit,bK.bF,cZ.b',bK.e9,bK.Tag⟩:Tok).Tag⟩:Tok)) (cs':=[ae (aE (aB.Kind - 1))]) (x2:=.obj [aq bP ((cZ.aD.aX.set bG.1.toNat (⟨bK.Name,bK.Lit,bK.bF,cZ.b',bK.e9,bK.Tag⟩:Tok)).set bG.1.toNat (⟨(⟨bK.Name,bK.Lit,bK.bF,cZ.b',bK.e9,bK.Tag⟩:Tok).Name,(⟨bK.Name,bK.Lit,bK.bF,cZ.b',bK.e9,bK.Tag⟩:Tok).Lit,(⟨bK.Name,bK.Lit,bK.bF,cZ.b',bK.e9,bK.Tag⟩:Tok).bF,(⟨bK.Name,bK.Lit,bK.bF,cZ.b',bK.e9,bK.Tag⟩:Tok).Level,aE (aB.Kind - 1),(⟨bK.Name,bK.Lit,bK.bF,cZ.b',bK.e9,bK.Tag⟩:Tok).Tag⟩:Tok)),aq bz cZ.aD.bO,aq cw cZ.aD.a1,ax cZ.aD.b9,ax cZ.aD.cg,aq cn cZ.b_,aq bz cZ.cp,aq cL cZ.bX,ae cZ.cI,ae cZ.c_,ax cZ.c8,ae cZ.b',ae cZ.bQ]) q q (.ptr q) (.lit q) q (n5 nv) zU q q q q q q q (.b q (.n q q (.n q q (.n q q (.e q q (.mk (en:=bP) q (n5 nv) q (n5 (n5 nv)) q) q .nil))))))<|bH.fin q q q (.n q (.n q (.n q (.n q (.r q (et.el (en:=bP) q (n5 (n5 nv)) q) jy .nil)))))) ?_;exact sm h ▸ aJ.cN (.n q (.n q (.n q (.n q (.r q (et.el (en:=bP) q (n5 (n5 nv)) q) jy .nil)))))
   ·exact W.dO<|sm h ▸ aJ.cN (.n q (.n q (.n q (.n q (.r q (et.el (en:=bP) q nu q) jy .nil)))))
  refine aW h λfY oQ h=>aJ.bY<|W.b4<|W.rs [(0,_),(4,_),(5,_),(7,_),(8,.ptr ⟨0,[0]⟩ (bG.1.toNat * bP.z+0)),(88,_)] (ay O.bT<|ay O.eW<|ay (O.gtr .bs .cW)<|iI (.n q (.n q (.n q (.n q (.r q (et.el (en:=bP) q oQ q) jy (.n q .nil))))))) ?_;refine aW h λeT aj h=>W.gK [0,4,5,8] [(0,.obj (dH.cells eT))] ?_ ?_
  ·clear h; have h:=aj; clear aj;refine W.cd h q (λHP h=>?_) (λHP h=>?_)
   ·refine W.b4<|aW h λGG aj h=>W.td [0,4,5,7,8,106] [(106,bf GG)] ?_ ?_
    ·refine dF q<|ay (O.eql .bs .cW)<|ay (O.a8 (.lit q)) ?_;rcases jE aj with ⟨lv,aj⟩ | ⟨lv,aj⟩
     ·exact sm aj ▸ (iL lv<|iL lv<|iL lv<|iL lv<|iL lv<|iL lv<|iL lv<|ay (O.ki .bs lv .cW)<|dF q<|iL q<|iL q<|iL q<|iL q<|iL q<|ay (O.ki .bs q .cW)<|iI (.n q (.n q (.n q (.n q (.r q (et.el (en:=bP) q oQ q) jy (.n q .nil)))))))
     ·refine cF lv (O.a8 .z4)<|cF lv (O.eC .z5)<|cF lv O.y2<|cF lv (O.ee (y:=.bl cn.z ⟨0,[5]⟩ eG.b_.length))<|cF lv (O.a8 (.lit q)) ?_;refine aW aj λfS Ex aj=>cF lv (O.iU (en:=cn) q .eh .bs xT Ex q)<|cF lv (O.lT (en:=cn) (x':=bf fS) q .z5 GU Ex q q)<|ay (O.jl .bs lv .bs)<|ay (O.a8 (.lit q)) ?_;rcases jE aj with ⟨mb,aj⟩ | ⟨mb,aj⟩
      ·exact sm aj ▸ (iL mb<|iL mb<|iL mb<|iL mb<|iL mb<|ay (O.ki .bs mb .cW)<|iI (.n q (.n q (.n q (.n q (.r q (et.el (en:=bP) q oQ q) jy (.n q .nil)))))))
      ·refine cF mb (O.a8 .z4)<|cF mb O.bT<|cF mb O.eW ?_;exact aW aj λfO w6 aj=>sm aj ▸ (aC.c (dd.sn (ys:=[.ptr ⟨0,[]⟩ 0,ae a2.bF]) q (.c (View.pJ q q) (.s .nil)) (bU.go w6)) q q (.j8 q q mb)<|cF mb (O.geq .bs .cW)<|ay (O.jl .bs mb .bs)<|iI (.n q (.n q (.n q (.n q (.r q (et.el (en:=bP) q oQ q) jy (.n q .nil)))))))
    refine aW h λdL aj h=>W.gK [0,4,5,7,8] [(0,.obj (dH.cells dL))] ?_ ?_
    ·clear h; have h:=aj; clear aj;refine W.cd h q (λUX h=>?_) (λUX h=>?_)
     ·refine aW h λcD IP h=>W.rx [(0,_),(4,_),(5,_),(7,_),(8,.ptr ⟨0,[0]⟩ (bG.1.toNat * bP.z+0))] (ay (O.a8 .z4)<|ay O.bT<|ay O.eW<|ay O.bT<|ay O.eW<|aC.na (G2:=[(8,.ptr ⟨0,[0]⟩ (bG.1.toNat * bP.z+0))]++[(112,.bJ []),(0,.obj [aq bP eG.aD.aX,aq bz cD.aD.bO,aq cw cD.aD.a1,ax cD.aD.b9,ax cD.aD.cg,aq cn cD.b_,aq bz cD.cp,aq cL cD.bX,ae cD.cI,ae cD.c_,ax cD.c8,ae cD.b',ae cD.bQ]),(4,.obj (ff.cells aB)),(5,.obj (dQ.cells a2)),(7,ae bG.1)]) q (bt.ek (r:=0) (k0:=0) (y:=aq bP eG.aD.aX) (cs5:=[aq bP eG.aD.aX,aq bz cD.aD.bO,aq cw cD.aD.a1,ax cD.aD.b9,ax cD.aD.cg,aq cn cD.b_,aq bz cD.cp,aq cL cD.bX,ae cD.cI,ae cD.c_,ax cD.c8,ae cD.b',ae cD.bQ]) (G1:=λv=>[(0,.obj [.lit v,aq bz eG.aD.bO,aq cw eG.aD.a1,ax eG.aD.b9,ax eG.aD.cg,aq cn eG.b_,aq bz eG.cp,aq cL eG.bX,ae eG.cI,ae eG.c_,ax eG.c8,ae eG.b',ae eG.bQ]),(4,.obj (ff.cells aB)),(5,.obj (dQ.cells a2)),(7,ae bG.1),(107,.ptr ⟨0,[]⟩ 0),(109,ae a2.At),(111,ax a2.Name)]) (G4:=λv=>[(112,.bJ []),(0,.obj [.lit v,aq bz cD.aD.bO,aq cw cD.aD.a1,ax cD.aD.b9,ax cD.aD.cg,aq cn cD.b_,aq bz cD.cp,aq cL cD.bX,ae cD.cI,ae cD.c_,ax cD.c8,ae cD.b',ae cD.bQ]),(4,.obj (ff.cells aB)),(5,.obj (dQ.cells a2)),(7,ae bG.1)]) (c4:=λv=>[.lit v,aq bz cD.aD.bO,aq cw cD.aD.a1,ax cD.aD.b9,ax cD.aD.cg,aq cn cD.b_,aq bz cD.cp,aq cL cD.bX,ae cD.cI,ae cD.c_,ax cD.c8,ae cD.b',ae cD.bQ]) (G5:=[(112,.bJ []),(0,.obj [aq bP eG.aD.aX,aq bz cD.aD.bO,aq cw cD.aD.a1,ax cD.aD.b9,ax cD.aD.cg,aq cn cD.b_,aq bz cD.cp,aq cL cD.bX,ae cD.cI,ae cD.c_,ax cD.c8,ae cD.b',ae cD.bQ]),(4,.obj (ff.cells aB)),(5,.obj (dQ.cells a2)),(7,ae bG.1)]) (A:=[(8,.ptr ⟨0,[0]⟩ (bG.1.toNat * bP.z+0))]) q q q q (λv=>(.b q (.n q q (.n q q (.n q q (.p q q q q q q (.n q q (.n q q .nil)))))))) (λv=>hN.lC (G2:=[(4,.obj (ff.cells aB)),(5,.obj (dQ.cells a2)),(7,ae bG.1)]) (A:=[]) (ys:=[.ptr ⟨0,[]⟩ 0,ae a2.At,ax a2.Name]) (args:=[.obj [.lit v,aq bz eG.aD.bO,aq cw eG.aD.a1,ax eG.aD.b9,ax eG.aD.cg,aq cn eG.b_,aq bz eG.cp,aq cL eG.bX,ae eG.cI,ae eG.c_,ax eG.c8,ae eG.b',ae eG.bQ],ae a2.At,ax a2.Name]) (cs':=[.lit v,aq bz cD.aD.bO,aq cw cD.aD.a1,ax cD.aD.b9,ax cD.aD.cg,aq cn cD.b_,aq bz cD.cp,aq cL cD.bX,ae cD.cI,ae cD.c_,ax cD.c8,ae cD.b',ae cD.bQ]) (k0:=0) q q q q (.b q (.n q (.n q .nil))) q (GR v eG a2.At a2.Name _ IP) call101 (zW q q q) q q (zW q q q) .nil q) (λv=>q) (λv=>q) (λv=>q) (λv=>(.n q q (.b q (.n q q (.n q q (.n q q .nil)))))) q (.c (en:=bP) (L:=eG.aD.aX) q q oQ q q q .nil))<|iI (.n q (.n q (.n q (.n q (.r q (et.el (en:=bP) q oQ q) jy .nil)))))) ?_;exact sm h ▸ aJ.cN (.n q (.n q (.n q (.n q (.r q (et.el (en:=bP) q oQ q) jy .nil)))))
     ·exact W.dO<|sm h ▸ aJ.cN (.n q (.n q (.n q (.n q (.r q (et.el (en:=bP) q oQ q) jy .nil)))))
    refine aW h λer py h=>aJ.bY<|W.rs [(0,_),(4,_),(5,_),(7,_),(8,.ptr ⟨0,[0]⟩ (bG.1.toNat * bP.z+0))] (ay (O.a8 .z5)<|ay O.bT<|ay O.eW<|ay (O.eC .z5)<|ay (O.mD (en:=bP) q .z5 Mg py q q)<|aC.na (G2:=[(0,.obj [aq bP (dL.aD.aX.set bG.1.toNat (⟨er.Name,er.Lit,a2.bF,er.Level,er.e9,er.Tag⟩:Tok)),aq bz dL.aD.bO,aq cw dL.aD.a1,ax dL.aD.b9,ax dL.aD.cg,aq cn dL.b_,aq bz dL.cp,aq cL dL.bX,ae dL.cI,ae dL.c_,ax dL.c8,ae dL.b',ae dL.bQ]),(4,.obj (ff.cells aB)),(5,.obj (dQ.cells a2)),(7,ae bG.1),(8,.ptr ⟨0,[0]⟩ (bG.1.toNat * bP.z+0))]) q (bt.xV (en:=bP) (y2:=(⟨er.Name,er.Lit,a2.bF,er.Level,er.e9,er.Tag⟩:Tok)) (cs':=[ae a2.bF]) (x2:=.obj [aq bP (dL.aD.aX.set bG.1.toNat (⟨er.Name,er.Lit,a2.bF,er.Level,er.e9,er.Tag⟩:Tok)),aq bz dL.aD.bO,aq cw dL.aD.a1,ax dL.aD.b9,ax dL.aD.cg,aq cn dL.b_,aq bz dL.cp,aq cL dL.bX,ae dL.cI,ae dL.c_,ax dL.c8,ae dL.b',ae dL.bQ]) q q (.ptr q) (.lit q) q py zU q q q q q q q (.b q (.n q q (.n q q (.n q q (.e q q (.mk (en:=bP) q py q (n5 py) q) q .nil))))))<|iI (.n q (.n q (.n q (.n q (.r q (et.el (en:=bP) q (n5 py) q) jy .nil)))))) ?_;refine aW h λir uy h=>W.rx [(0,_),(4,_),(5,_),(8,.ptr ⟨0,[0]⟩ (bG.1.toNat * bP.z+0))] (ay (O.a8 .z4)<|ay (O.eC .z5)<|ay O.y2<|ay (O.ee (y:=.bl cn.z ⟨0,[5]⟩ dL.b_.length))<|dF q<|ay (O.iU (en:=cn) q .eh .bs xT uy q)<|aC.na (G2:=[(0,.obj [aq bP (dL.aD.aX.set bG.1.toNat (⟨er.Name,er.Lit,a2.bF,er.Level,er.e9,er.Tag⟩:Tok)),aq bz dL.aD.bO,aq cw dL.aD.a1,ax dL.aD.b9,ax dL.aD.cg,aq cn (dL.b_.set bG.1.toNat true),aq bz dL.cp,aq cL dL.bX,ae dL.cI,ae dL.c_,ax dL.c8,ae dL.b',ae dL.bQ]),(4,.obj (ff.cells aB)),(5,.obj (dQ.cells a2)),(8,.ptr ⟨0,[0]⟩ (bG.1.toNat * bP.z+0))]) q (bt.xV (en:=cn) (y2:=true) (cs':=[bf true]) (x2:=.obj [aq bP (dL.aD.aX.set bG.1.toNat (⟨er.Name,er.Lit,a2.bF,er.Level,er.e9,er.Tag⟩:Tok)),aq bz dL.aD.bO,aq cw dL.aD.a1,ax dL.aD.b9,ax dL.aD.cg,aq cn (dL.b_.set bG.1.toNat true),aq bz dL.cp,aq cL dL.bX,ae dL.cI,ae dL.c_,ax dL.c8,ae dL.b',ae dL.bQ]) q q (.ptr q) (.k q) q uy ZK q q q q q q q (.b q (.n q q (.n q q (.e q q (.mk (en:=bP) q (n5 py) q (n5 py) q) q .nil)))))<|iI (.n q (.n q (.n q (.r q (et.el (en:=bP) q (n5 py) q) jy .nil))))) ?_;exact sm h ▸ aJ.cN (.n q (.n q (.n q (.r q (et.el (en:=bP) q (n5 py) q) jy .nil))))
   ·exact W.dO<|sm h ▸ aJ.cN (.n q (.n q (.n q (.r q (et.el (en:=bP) q oQ q) jy .nil))))
  refine aW h λpW qj h=>aJ.bY<|W.rs [(0,_),(4,_),(5,_),(8,.ptr ⟨0,[0]⟩ (bG.1.toNat * bP.z+0)),(126,_)] (ay O.bT<|ay O.eW<|ay (O.n' .bs .cW)<|iI (.n q (.n q (.n q (.r q (et.el (en:=bP) q qj q) jy (.n q .nil)))))) ?_;refine aW h λpB aj h=>W.gK [0] [(0,.obj (dH.cells pB))] ?_ ?_
  ·clear h; have h:=aj; clear aj;refine W.cd h q (λHT h=>?_) (λHT h=>?_)
   ·refine W.b4<|W.b4<|aW h λGI aj h=>W.rd [[],[0],[0,1],[0,1,2],[0,1,2,3],aN 0 5 [],aN 0 6 [],aN 0 7 [],aN 0 8 [],aN 0 9 [],aN 0 6 [],aN 0 6 [10],aN 0 12 [],aN 0 13 []] [(0,.obj (dH.cells eT)),(4,.obj (ff.cells aB)),(5,.obj (dQ.cells a2)),(8,.ptr ⟨0,[0]⟩ (bG.1.toNat * bP.z+0)),(140,bf GI)] gC (by kernel_rfl) ?_ ?_
    ·refine aM 0 (O.a8 .z5)<|aM 1 (O.eC .z5)<|aM 2 (O.mD (en:=bP) q .z5 Hd qj q q)<|aM 3 (O.lT (en:=bP) (x':=ax pW.Tag) q .z5 wE qj q q)<|aM 4 (O.n' .bs .cW)<|aM 5 (O.a8 (.lit q)) ?_;rcases jE aj with ⟨ng,aj⟩ | ⟨ng,aj⟩
     ·exact sm aj ▸ (iF 6 ng (O.a8 .z5)<|iF 7 ng (O.eC .z5)<|iF 8 ng (O.mD (en:=bP) q .z5 Hd qj q q)<|iF 9 ng (O.lT (en:=bP) (x':=ax pW.Tag) q .z5 wE qj q q)<|iF 10 ng O.bT<|iF 11 ng O.eW<|iF 12 ng (O.n' .bs .bs)<|aM 13 (O.ki .bs ng .bs)<|bH.fin q q q (.n q (.n q (.n q (.r q (et.el (en:=bP) q qj q) jy (.n q .nil))))))
     ·exact sm aj ▸ (h7 6 ng<|h7 7 ng<|h7 8 ng<|h7 9 ng<|h7 10 ng<|h7 11 ng<|h7 12 ng<|aM 13 (O.jl .bs ng .cW)<|bH.fin q q q (.n q (.n q (.n q (.r q (et.el (en:=bP) q qj q) jy (.n q .nil))))))
    refine aJ.bY<|aW h λml aj h=>W.gK [0,4,8] [(0,.obj (dH.cells ml))] ?_ ?_
    ·clear h; have h:=aj; clear aj;refine W.cd h q (λU0 h=>?_) (λU0 h=>?_)
     ·refine aW h λcQ IS h=>W.rx [(0,_),(4,_),(8,.ptr ⟨0,[0]⟩ (bG.1.toNat * bP.z+0))] (ay (O.a8 .z4)<|ay O.bT<|ay O.eW<|ay O.bT<|ay O.eW<|aC.na (G2:=[(8,.ptr ⟨0,[0]⟩ (bG.1.toNat * bP.z+0))]++[(146,.bJ []),(0,.obj [aq bP eT.aD.aX,aq bz cQ.aD.bO,aq cw cQ.aD.a1,ax cQ.aD.b9,ax cQ.aD.cg,aq cn cQ.b_,aq bz cQ.cp,aq cL cQ.bX,ae cQ.cI,ae cQ.c_,ax cQ.c8,ae cQ.b',ae cQ.bQ]),(4,.obj (ff.cells aB))]) q (bt.ek (r:=0) (k0:=0) (y:=aq bP eT.aD.aX) (cs5:=[aq bP eT.aD.aX,aq bz cQ.aD.bO,aq cw cQ.aD.a1,ax cQ.aD.b9,ax cQ.aD.cg,aq cn cQ.b_,aq bz cQ.cp,aq cL cQ.bX,ae cQ.cI,ae cQ.c_,ax cQ.c8,ae cQ.b',ae cQ.bQ]) (G1:=λv=>[(0,.obj [.lit v,aq bz eT.aD.bO,aq cw eT.aD.a1,ax eT.aD.b9,ax eT.aD.cg,aq cn eT.b_,aq bz eT.cp,aq cL eT.bX,ae eT.cI,ae eT.c_,ax eT.c8,ae eT.b',ae eT.bQ]),(4,.obj (ff.cells aB)),(141,.ptr ⟨0,[]⟩ 0),(143,ae a2.At),(145,ax a2.Name)]) (G4:=λv=>[(146,.bJ []),(0,.obj [.lit v,aq bz cQ.aD.bO,aq cw cQ.aD.a1,ax cQ.aD.b9,ax cQ.aD.cg,aq cn cQ.b_,aq bz cQ.cp,aq cL cQ.bX,ae cQ.cI,ae cQ.c_,ax cQ.c8,ae cQ.b',ae cQ.bQ]),(4,.obj (ff.cells aB))]) (c4:=λv=>[.lit v,aq bz cQ.aD.bO,aq cw cQ.aD.a1,ax cQ.aD.b9,ax cQ.aD.cg,aq cn cQ.b_,aq bz cQ.cp,aq cL cQ.bX,ae cQ.cI,ae cQ.c_,ax cQ.c8,ae cQ.b',ae cQ.bQ]) (G5:=[(146,.bJ []),(0,.obj [aq bP eT.aD.aX,aq bz cQ.aD.bO,aq cw cQ.aD.a1,ax cQ.aD.b9,ax cQ.aD.cg,aq cn cQ.b_,aq bz cQ.cp,aq cL cQ.bX,ae cQ.cI,ae cQ.c_,ax cQ.c8,ae cQ.b',ae cQ.bQ]),(4,.obj (ff.cells aB))]) (A:=[(8,.ptr ⟨0,[0]⟩ (bG.1.toNat * bP.z+0))]) q q q q (λv=>(.b q (.n q q (.p q q q q q q (.n q q (.n q q .nil)))))) (λv=>hN.lC (G2:=[(4,.obj (ff.cells aB))]) (A:=[]) (ys:=[.ptr ⟨0,[]⟩ 0,ae a2.At,ax a2.Name]) (args:=[.obj [.lit v,aq bz eT.aD.bO,aq cw eT.aD.a1,ax eT.aD.b9,ax eT.aD.cg,aq cn eT.b_,aq bz eT.cp,aq cL eT.bX,ae eT.cI,ae eT.c_,ax eT.c8,ae eT.b',ae eT.bQ],ae a2.At,ax a2.Name]) (cs':=[.lit v,aq bz cQ.aD.bO,aq cw cQ.aD.a1,ax cQ.aD.b9,ax cQ.aD.cg,aq cn cQ.b_,aq bz cQ.cp,aq cL cQ.bX,ae cQ.cI,ae cQ.c_,ax cQ.c8,ae cQ.b',ae cQ.bQ]) (k0:=0) q q q q (.b q (.n q (.n q .nil))) q (GR v eT a2.At a2.Name _ IS) call101 (.n q .nil) q q (.n q .nil) .nil q) (λv=>q) (λv=>q) (λv=>q) (λv=>(.n q q (.b q (.n q q .nil)))) q (.c (en:=bP) (L:=eT.aD.aX) q q qj q q q .nil))<|iI (.n q (.n q (.r q (et.el (en:=bP) q qj q) jy .nil)))) ?_;exact sm h ▸ aJ.cN (.n q (.n q (.r q (et.el (en:=bP) q qj q) jy .nil)))
     ·exact W.dO<|sm h ▸ aJ.cN (.n q (.n q (.r q (et.el (en:=bP) q qj q) jy .nil)))
    refine aW h λgW w8 h=>aJ.bY<|W.ca [0] (ay (O.a8 .z5)<|ay O.bT<|ay O.eW<|ay (O.eC .z5)<|ay (O.mD (en:=bP) q .z5 Hd w8 q q)<|aC.eE (bt.th (en:=bP) (y2:=(⟨gW.Name,gW.Lit,gW.bF,gW.Level,gW.e9,aB.Tag⟩:Tok)) [0] w8)<|bV q) ?_;exact sm h ▸ aJ.eU
   ·exact W.dO<|sm h ▸ aJ.eU
  exact sm h ▸ aJ.fin (Fin.ro .nil q (Cf (by kernel_rfl)) (.ag q q (.no (.no .nil))) q (.inl q))
instance aaN {a0:dc}{aB:Decl}{a2:Sym}{r:dc}:bU prog 100 (pK a0 aB a2=some r) [.obj (dH.cells a0),.agg (ff.cells aB),.agg (dQ.cells a2)] [some (.obj [aq bP r.aD.aX,aq bz r.aD.bO,aq cw r.aD.a1,ax r.aD.b9,ax r.aD.cg,aq cn r.b_,aq bz r.cp,aq cL r.bX,ae r.cI,ae r.c_,ax r.c8,ae r.b',ae r.bQ]),none,none] (.bJ []):=⟨SL a0 aB a2 _⟩
instance aaQ {a0:dc}{aB:ByteArray}{r:Int}:bU prog 103 (pL a0 aB=some r) [.cJ ([ao bP a0.aD.aX,ao bz a0.aD.bO,ao cw a0.aD.a1,ax a0.aD.b9,ax a0.aD.cg,ao cn a0.b_,ao bz a0.cp,ao cL a0.bX,ae a0.cI,ae a0.c_,ax a0.c8,ae a0.b',ae a0.bQ]),ax aB] [none,none] (ae r):=⟨λh=>by unfold pL at h; exact b7.bS (N:=⟨25,[]⟩) [0,1,4,5,12,23] (.gf (λ(s1:Int)=>[(5,ae s1)]) [0,1,5] 0 (λ(aZ:Unit)=>[]) [] (λ(bR:Int)=>[(4,ae bR)]) [4] .e .e .e) func103 rfl rfl rfl rfl rfl eo⟩
instance aa8 {a0:dc}{aB:Sym}{r:Int × dc}:bU prog 120 (pM a0 aB=some r) [.obj (dH.cells a0),.agg (dQ.cells aB)] [some (.obj [aq bP r.2.aD.aX,aq bz r.2.aD.bO,aq cw r.2.aD.a1,ax r.2.aD.b9,ax r.2.aD.cg,aq cn r.2.b_,aq bz r.2.cp,aq cL r.2.bX,ae r.2.cI,ae r.2.c_,ax r.2.c8,ae r.2.b',ae r.2.bQ]),none] (ae r.1):=⟨λh=>by unfold pM at h; exact b7.bS (N:=⟨32,[0]⟩) [0,3,4,5,6,8,17,24] .e func120 rfl rfl rfl rfl rfl eo⟩
theorem SM (a0:dc) (aB:ByteArray) (a2:Alt) (r:dc) (h:ob a0 aB a2=some r):b7 prog 104 [.obj (dH.cells a0),ax aB,.agg (fK.cells a2)] [some (.obj [aq bP r.aD.aX,aq bz r.aD.bO,aq cw r.aD.a1,ax r.aD.b9,ax r.aD.cg,aq cn r.b_,aq bz r.cp,aq cL r.bX,ae r.cI,ae r.c_,ax r.c8,ae r.b',ae r.bQ]),none,none] (.bJ []):=by
 unfold ob at h;refine b7.go (N:=⟨173,[0]⟩) func104 q q q q (W.fin ?_);refine W.st [(0,.obj (dH.cells a0)),(1,ax aB),(2,.agg (fK.cells a2))] ?_;refine W.dt [0,1,5] (ay (O.box (.eA q q) q)<|bV q) ?_;refine W.b4<|aW h λbc kg h=>W.rd [[],[],[0,1],[0,1,2],[],[4],aN 0 6 [],[],aN 0 8 []] [(0,_),(5,_),(6,_)] gC (by kernel_rfl) (aM 0 (O.a8 .z4)<|aM 1 (O.a8 (.lit q))<|ot 2 (dd.sn (ys:=[.ptr ⟨0,[]⟩ 0,ax aB]) q (.c (View.pJ q q) (.s .nil)) (bU.go kg))<|aM 3 (O.add .cW .bs)<|aM 4 O.bT<|aM 5 O.eW<|aM 6 (O.eR (cs:=[ae (aE (1+bc)),.aU,ae (-1),ax bB,.aU,ae a2.At]) J8 F4 q q q)<|aM 7 (O.gY (cs:=[ae 0,.aU,ae 0,ax bB,.aU,ae 0]) F4 q q)<|bH.kb 8 (bt.ho [0,5,6])<|bH.fin q q q (zW q q q)) ?_;refine aJ.bY<|W.b4<|W.c7 [0,5,6,7] ?_;refine W.cT<|aW h λaZ ai h=>W.im (a0,([]:List Int),bB,a2.At,0) (λ(s2:dc × List Int × ByteArray × Int × Int)=>[(0,.obj (dH.cells s2.1)),(6,.obj [ae (aE (1+bc)),aq az s2.2.1,ae (-1),ax s2.2.2.1,.aU,ae s2.2.2.2.1]),(7,ae s2.2.2.2.2)]) [0,5,6,7] 0 (λ(aZ:dc × List Int × ByteArray × Int)=>[(0,.obj (dH.cells aZ.1)),(6,.obj [ae (aE (1+bc)),aq az aZ.2.1,ae (-1),ax aZ.2.2.1,.aU,ae aZ.2.2.2])]) [0,5,6] ai (λs2 o h=>?_) ?_
 ·clear ai;refine W.b4<|W.c7 [0,5,6,7,21] ?_;refine W.cd h q (λud h=>?_) (λud h=>?_)
  ·refine W.dO<|aJ.bY<|W.b4<|aW h λkC aj h=>W.gK [0,5,6,7] [(0,.obj (dH.cells kC.1)),(6,.obj [ae (aE (1+bc)),aq az kC.2.1,ae (-1),ax kC.2.2.1,.aU,ae kC.2.2.2])] ?_ ?_
   ·clear h; have h:=aj; clear aj;refine W.cT<|aW h λbW r0 h=>W.dt [0,5,6,7,8] (ay O.bT<|ay (O.ee (y:=ao hX a2.Parts))<|dF q<|ay (O.h4 r0)<|ay (O.s7 (cs':=hX.cells bW) .oo RM q q)<|ay (O.gY (cs:=[ax bB,bf false,ae 0,ae 0,ax bB,ae 0]) Db q q)<|aC.eE (bt.ho [0,5,6,7,8])<|bV q) ?_;refine aW h λfg aj h=>W.gK [0,5,6,7] [(0,.obj (dH.cells fg.1)),(6,.obj [ae (aE (1+bc)),aq az fg.2.1,ae (-1),ax fg.2.2.1,.aU,ae fg.2.2.2])] ?_ ?_
    ·clear h; have h:=aj; clear aj;refine W.cT<|W.c7 [0,5,6,7,8,82] ?_;refine aW h λiX aj h=>W.gK [0,5,6,7] [(0,.obj (dH.cells iX.1)),(6,.obj [ae (aE (1+bc)),aq az iX.2.1,ae (-1),ax iX.2.2.1,.aU,ae iX.2.2.2])] ?_ ?_
     ·clear h; have h:=aj; clear aj;refine W.cd h q (λBa h=>?_) (λBa h=>?_)
      ·refine aW h λcU nu h=>aW h λdU BJ h=>W.rd [[],[0],[],[],[3],[2,3,4],[2,3,4,5],aN 0 7 [],aN 0 8 [],aN 0 9 []] [(0,_),(5,_),(6,_),(7,_)] gC (by kernel_rfl) (aM 0 O.bT<|aM 1 (O.ee (y:=.bl az.z ⟨6,[1]⟩ s2.2.1.length))<|aM 2 (O.a8 .z4)<|aM 3 O.bT<|aM 4 (O.fh (cs':=dQ.cells bW.Sym) q .z5 Aw q q)<|bH.eR 5 (G2:=(6,.obj [ae (aE (1+bc)),aq az s2.2.1,ae (-1),ax s2.2.2.1,.aU,ae s2.2.2.2.1])::[(91,ae cU.1),(0,.obj (dH.cells cU.2)),(5,.obj (fK.cells a2)),(7,ae s2.2.2.2.2)]) (U:=[(1,87,some (.bl az.z ⟨6,[1]⟩ s2.2.1.length)),(0,86,some (.ptr ⟨6,[]⟩ 1))]) (o6.box (r:=6) (G1:=[(0,.obj (dH.cells s2.1)),(5,.obj (fK.cells a2)),(7,ae s2.2.2.2.2),(88,.ptr ⟨0,[]⟩ 0),(90,.agg (dQ.cells bW.Sym))]) (G2:=[(91,ae cU.1),(0,.obj (dH.cells cU.2)),(5,.obj (fK.cells a2)),(7,ae s2.2.2.2.2)]) (bt.call q q (hN.lC (G2:=[(5,.obj (fK.cells a2)),(7,ae s2.2.2.2.2)]) (A:=[]) (ys:=[.ptr ⟨0,[]⟩ 0,.agg (dQ.cells bW.Sym)]) (args:=[.obj (dH.cells s2.1),.agg (dQ.cells bW.Sym)]) (cs':=dH.cells cU.2) (k0:=0) q q q q (.b q (.n q .nil)) q (bU.go nu) call120 (sk q q) q q (sk q q) .nil q)) q (.n q (.n q (.n q (.q q q q (.n q .nil))))) q q q) q q (by kernel_rfl) q q q (.c (.inl ⟨6,[1],_,_,_,_,q,by simp [se],q,q,Nat.le_refl _⟩) q q q q q (Gd.wanted .none) (O.xj (y:=.bl az.z ⟨6,[1]⟩ s2.2.1.length) q .z5 GS q q) (.c (.inr (.inr (.inr (.inl ⟨6,_,_,q,q,iC q,by simp,_,q,iC q⟩)))) q q q q q (Gd.wanted .none) (O.nb q .z4 Md q) .nil)) (by kernel_rfl)<|bH.gy 6 (x:=ao az [cU.1]) (O.bn (ys:=[ae cU.1]) az [cU.1] j5 q q q q q q qG q q) q q q q .none<|aM 7 (O.ap (en:=az) (r:=dU) .eh q .z2 .i rB q BJ)<|aM 8 O.bT<|bH.kb 9 (bt.sp [0,5,6,7])<|bH.fin q q q (nF q q q q)) ?_;exact sm h ▸ aJ.eU
      ·refine W.c7 [0,5,6,7,8,95] ?_;refine aW h λik aj h=>W.gK [0,5,6,7] [(0,.obj [aq bP s2.1.aD.aX,aq bz s2.1.aD.bO,aq cw ik.1,ax s2.1.aD.b9,ax s2.1.aD.cg,aq cn s2.1.b_,aq bz s2.1.cp,aq cL s2.1.bX,ae s2.1.cI,ae s2.1.c_,ax s2.1.c8,ae s2.1.b',ae ik.2.1]),(6,.obj [ae (aE (1+bc)),aq az ik.2.2.1,ae (-1),ax ik.2.2.2.1,.aU,ae ik.2.2.2.2])] ?_ ?_
       ·clear h; have h:=aj; clear aj;refine W.cd h q (λHN h=>?_) (λHN h=>?_)
        ·refine W.rd [[],[0],[],[2],[0,1],[0,1,4],aN 0 6 [],aN 0 7 []] [(0,_),(5,_),(6,_),(7,_)] gC (by kernel_rfl) (aM 0 O.bT<|aM 1 O.eW<|aM 2 O.bT<|aM 3 O.eW<|aM 4 O.bT<|bH.eR 5 (G2:=[(0,.obj (dH.cells s2.1)),(5,.obj (fK.cells a2)),(6,.obj [ae (aE (1+bc)),aq az s2.2.1,ae (-1),ax bW.Code,.aU,ae s2.2.2.2.1]),(7,ae s2.2.2.2.2),(8,.obj (hX.cells bW))]) (U:=[(3,105,some (ae bW.At)),(2,104,some (.ptr ⟨8,[]⟩ 5))]) (iv.v (bt.kd (bt.j4 (G2:=[(0,.obj (dH.cells s2.1)),(5,.obj (fK.cells a2)),(6,.obj [ae (aE (1+bc)),aq az s2.2.1,ae (-1),ax bW.Code,.aU,ae s2.2.2.2.1]),(7,ae s2.2.2.2.2),(8,.obj (hX.cells bW))]) (cs2:=[ae (aE (1+bc)),aq az s2.2.1,ae (-1),ax bW.Code,.aU,ae s2.2.2.2.1]) q q q (.ptr q) (.lit q) q PX q q q q (.n q q (.n q q (.b q (.n q q (.n q q .nil)))))))) q q (by kernel_rfl) q q q (.c (.inr (.inl ⟨_,q⟩)) q q q q q (Gd.wanted .none) (O.pC q .z5 sE q) (.c (.inr (.inr (.inr (.inl ⟨8,_,_,q,q,iC q,by simp,_,q,iC q⟩)))) q q q q q (Gd.wanted .none) (O.nb q .z4 TE q) .nil)) (by kernel_rfl)<|aM 6 O.bT<|bH.kb 7 (bt.o0 [0,5,6,7])<|bH.fin q q q (nF q q q q)) ?_;exact sm h ▸ aJ.eU
        ·refine W.dt [0,5,6,7,8] (ay (O.a8 .z4)<|ay (O.eC .z5)<|ay O.y2<|ay O.eW<|ay (O.add .bs .cW)<|ay (O.eC .z5)<|ay O.y2<|aC.eE (bt.o0 [0,5,6,7,8])<|bV q) ?_;refine W.b4<|aW h λdC rX h=>aW h λcc uv h=>W.rd [[],[],[1],[1,2],[1,2,3],[1,2,3,4],[],[6],[6,7],[6,7,8],[6,7,8,9],[],[11],[11,12],[11,12,13],aN 6 9 [],[],[16],[],[],[19],[18,19,20],[],[22],aN 6 18 [],aN 6 19 [],aN 1 25 [],aN 0 27 [],aN 0 28 [],aN 0 29 [],aN 0 30 []] [(0,_),(5,_),(6,_),(7,_)] gC (by kernel_rfl) (aM 0 (O.a8 .z4)<|aM 1 (O.a8 .z4)<|aM 2 (O.eC .z5)<|aM 3 O.y2<|aM 4 O.y2<|aM 5 (O.ee (y:=.bl cw.z ⟨0,[2]⟩ s2.1.aD.a1.length))<|aM 6 (O.a8 .z4)<|aM 7 (O.eC .z5)<|aM 8 O.y2<|aM 9 (O.ee (y:=.bl cL.z ⟨0,[7]⟩ s2.1.bX.length))<|aM 10 (O.n_ .eh FA)<|aM 11 (O.a8 .z4)<|aM 12 (O.eC .z5)<|aM 13 O.y2<|aM 14 O.eW<|aM 15 (O.add .bs .bs)<|aM 16 O.bT<|aM 17 O.eW<|aM 18 (O.bn (ys:=[]) az ([]:List Int) j5 q q q q q q qG q q)<|aM 19 O.bT<|aM 20 (O.ee (y:=.bl az.z ⟨6,[1]⟩ s2.2.1.length))<|aM 21 (O.ap (en:=az) (r:=dC) .z3 q .eh (.flat az q) rB q rX)<|aM 22 O.bT<|aM 23 O.eW<|aM 24 (O.eR (cs:=[ae (aE ((s2.1.bX.length:Int)+(aE (s2.1.bQ+1)))),.aU,ae (-1),ax bW.Code,.bl az.z ⟨57,[]⟩ (([]:List Int).length+s2.2.1.length),ae bW.At]) J8 F4 q q q)<|aM 25 (O.yF (ys:=[.agg [ae (aE ((s2.1.bX.length:Int)+(aE (s2.1.bQ+1)))),.aU,ae (-1),ax bW.Code,.bl az.z ⟨57,[]⟩ (([]:List Int).length+s2.2.1.length),ae bW.At]]) (cs:=[ae (aE ((s2.1.bX.length:Int)+(aE (s2.1.bQ+1)))),.aU,ae (-1),ax bW.Code,.bl az.z ⟨57,[]⟩ (([]:List Int).length+s2.2.1.length),ae bW.At]) Fz q q q q q KG q q)<|aM 26 (O.Rw (en:=cw) (M:=[(⟨aE ((s2.1.bX.length:Int)+(aE (s2.1.bQ+1))),([]:List Int),(-1),bW.Code,([]:List Int)++s2.2.1,bW.At⟩:Prod)]) (r:=cc) .eh q .z3 q q q q Lh q uv (zn (by kernel_rfl) (by kernel_rfl)))<|aM 27 (O.eC .z5)<|aM 28 O.y2<|aM 29 O.y2<|bH.kb 30 (G2:=[(0,.obj [aq bP s2.1.aD.aX,aq bz s2.1.aD.bO,aq cw (s2.1.aD.a1++[(⟨aE ((s2.1.bX.length:Int)+(aE (s2.1.bQ+1))),([]:List Int),(-1),bW.Code,([]:List Int)++s2.2.1,bW.At⟩:Prod)]),ax s2.1.aD.b9,ax s2.1.aD.cg,aq cn s2.1.b_,aq bz s2.1.cp,aq cL s2.1.bX,ae s2.1.cI,ae s2.1.c_,ax s2.1.c8,ae s2.1.b',ae (aE (s2.1.bQ+1))]),(5,.obj (fK.cells a2)),(6,.obj [ae (aE (1+bc)),aq az s2.2.1,ae (-1),ax s2.2.2.1,.aU,ae s2.2.2.2.1]),(7,ae s2.2.2.2.2)]) (bt.Kf (g1:=_) (en:=cw) (M:=[(⟨aE ((s2.1.bX.length:Int)+(aE (s2.1.bQ+1))),([]:List Int),(-1),bW.Code,([]:List Int)++s2.2.1,bW.At⟩:Prod)]) (cs2:=[aq bP s2.1.aD.aX,aq bz s2.1.aD.bO,aq cw (s2.1.aD.a1++[(⟨aE ((s2.1.bX.length:Int)+(aE (s2.1.bQ+1))),([]:List Int),(-1),bW.Code,([]:List Int)++s2.2.1,bW.At⟩:Prod)]),ax s2.1.aD.b9,ax s2.1.aD.cg,aq cn s2.1.b_,aq bz s2.1.cp,aq cL s2.1.bX,ae s2.1.cI,ae s2.1.c_,ax s2.1.c8,ae s2.1.b',ae (aE (s2.1.bQ+1))]) q q (.ptr q) (.bC q) q q q (.f (.f (.f (.f (.hb q q q .jz (.f .nil)))))) (.f (.z (.f (.f (.z (hv:=iM.hb q q) (.f .nil)))))) q q ZL q q q q (.b q (.n q q (.n q q (.n q q .nil)))))<|bH.fin q q q (nF q q q q)) ?_;refine aJ.bY<|aW h λbK nv h=>W.rd [[],[0],[],[2],[2,3],[2,3,4],[2,3,4,5],aN 2 5 [],[],[8],[8,9],[8,9,10],aN 2 10 [],aN 2 11 [],aN 0 14 [],aN 0 15 [],aN 0 16 []] [(0,_),(5,_),(6,_),(7,_)] gC (by kernel_rfl) (aM 0 O.bT<|aM 1 (O.ee (y:=.bl az.z ⟨6,[1]⟩ s2.2.1.length))<|aM 2 (O.a8 .z4)<|aM 3 (O.eC .z5)<|aM 4 O.y2<|aM 5 (O.ee (y:=.bl cL.z ⟨0,[7]⟩ s2.1.bX.length))<|aM 6 (O.n_ .eh FA)<|aM 7 (O.add .cW .bs)<|aM 8 (O.a8 .z4)<|aM 9 (O.eC .z5)<|aM 10 O.y2<|aM 11 O.eW<|aM 12 (O.add .bs .bs)<|bH.gy 13 (x:=ao az [aE ((aE (1000+(s2.1.bX.length:Int)))+(aE (s2.1.bQ+1)))]) (O.bn (ys:=[ae (aE ((aE (1000+(s2.1.bX.length:Int)))+(aE (s2.1.bQ+1))))]) az [aE ((aE (1000+(s2.1.bX.length:Int)))+(aE (s2.1.bQ+1)))] j5 q q q q q q qG q q) q q q q .none<|aM 14 (O.ap (en:=az) (r:=bK) .eh q .z2 .i rB q nv)<|aM 15 O.bT<|bH.kb 16 (bt.sp [0,5,6,7])<|bH.fin q q q (nF q q q q)) ?_;exact sm h ▸ aJ.eU
       exact sm h ▸ aJ.eU
     exact aJ.cT<|sm h ▸ aJ.eU
    exact aJ.cT<|sm h ▸ aJ.eU
   refine aJ.bY<|W.ca [0,5,6,7] (dF q<|ay (O.add .bs .cW)<|aC.ca [0,5,6,23] q<|aC.bS) ?_;exact sm h ▸ aJ.gt
  ·exact W.hA<|aJ.hy<|sm h ▸ aJ.t1
 refine aJ.hs<|aJ.bY<|W.b4<|W.c7 [0,5,6,9] ?_;refine W.cT<|aW h λf' ai h=>W.im ((-1),0) (λ(tf:Int × Int)=>[(6,.obj [ae (aE (1+bc)),aq az aZ.2.1,ae tf.1,ax aZ.2.2.1,.aU,ae aZ.2.2.2]),(9,ae tf.2)]) [0,5,6,9] 3 (λ(f':Int)=>[(6,.obj [ae (aE (1+bc)),aq az aZ.2.1,ae f',ax aZ.2.2.1,.aU,ae aZ.2.2.2])]) [0,5,6] ai (λtf o h=>?_) ?_
 ·clear ai;refine W.b4<|W.c7 [0,5,6,9,112] ?_;refine W.cd h q (λlv h=>?_) (λlv h=>?_)
  ·refine W.dO<|aJ.bY<|W.b4<|aW h λmj aj h=>W.gK [0,5,6,9] [(6,.obj [ae (aE (1+bc)),aq az aZ.2.1,ae mj,ax aZ.2.2.1,.aU,ae aZ.2.2.2])] ?_ ?_
   ·clear h; have h:=aj; clear aj;refine W.cT<|aW h λhp Ey h=>W.dt [0,5,6,9,120] (ay O.bT<|ay (O.ee (y:=.bl az.z ⟨6,[1]⟩ aZ.2.1.length))<|dF q<|ay (O.iU (en:=az) q .eh .bs j5 Ey q)<|ay (O.lT (en:=az) (x':=ae hp) q .z5 sE Ey q q)<|aC.bS) ?_;refine aW h λr4 aj h=>W.gK [0,5,6,9] [(6,.obj [ae (aE (1+bc)),aq az aZ.2.1,ae r4,ax aZ.2.2.1,.aU,ae aZ.2.2.2])] ?_ ?_
    ·clear h; have h:=aj; clear aj;refine W.cd h q (λUW h=>?_) (λUW h=>?_)
     ·refine aW h λhM BL h=>W.ca [0,5,6,9] (ay O.bT<|ay (O.ee (y:=.bl az.z ⟨6,[1]⟩ aZ.2.1.length))<|dF q<|ay (O.iU (en:=az) q .eh .bs j5 BL q)<|ay (O.lT (en:=az) (x':=ae hM) q .z5 sE BL q q)<|ay O.bT<|aC.eE (bt.o0 [0,5,6,9])<|bV q) ?_;exact sm h ▸ aJ.eU
     ·exact W.dO<|sm h ▸ aJ.eU
    exact aJ.cT<|sm h ▸ aJ.eU
   refine aJ.bY<|W.ca [0,5,6,9] (dF q<|ay (O.add .bs .cW)<|aC.ca [0,5,6,114] q<|aC.bS) ?_;exact sm h ▸ aJ.gt
  ·exact W.hA<|aJ.hy<|sm h ▸ aJ.t1
 refine aJ.hs<|aJ.bY<|W.b4<|W.c7 [0,5,6,130] ?_;refine aW h λjI aj h=>W.gK [0,6] [(0,.obj (dH.cells jI.1)),(6,.obj [ae (aE (1+bc)),aq az aZ.2.1,ae jI.2,ax aZ.2.2.1,.aU,ae aZ.2.2.2])] ?_ ?_
 ·clear h; have h:=aj; clear aj;refine W.cd h q (λHQ h=>?_) (λHQ h=>?_)
  ·refine W.dt [0,5,6] (ay O.bT<|aC.eE (bt.o0 [0,5,6])<|bV q) ?_;refine aW h λtQ aj h=>W.td [0,5,6,142] [(142,bf tQ)] ?_ ?_
   ·refine ay O.bT<|ay O.y2<|ay O.eW<|ay (O.a8 (.lit q)) ?_;rcases jE aj with ⟨yV,aj⟩ | ⟨yV,aj⟩
    ·exact sm aj ▸ aC.bS
    ·refine cF yV (O.a8 .z4)<|cF yV O.bT<|cF yV O.y2<|cF yV O.eW ?_;exact aW aj λir uy aj=>sm aj ▸ (aC.c (dd.sn (ys:=[.ptr ⟨0,[]⟩ 0,ax a2.Prec.Name]) q (.c (View.pJ q q) (.s .nil)) (bU.go uy)) q q (.j8 q q yV)<|aC.bS)
   refine aW h λpB aj h=>W.gK [0,6] [(0,.obj (dH.cells pB.1)),(6,.obj [ae (aE (1+bc)),aq az aZ.2.1,ae pB.2,ax aZ.2.2.1,.aU,ae aZ.2.2.2])] ?_ ?_
   ·clear h; have h:=aj; clear aj;refine W.cd h q (λHT h=>?_) (λHT h=>?_)
    ·refine aW h λh3 rY h=>W.ca [0,6] (ay (O.a8 .z4)<|ay O.bT<|ay (O.fh (cs':=dQ.cells a2.Prec) q .z5 Aw q q)<|aC.na q (bt.call q q (hN.lC (G2:=[(6,.obj [ae (aE (1+bc)),aq az aZ.2.1,ae (-1),ax aZ.2.2.1,.aU,ae aZ.2.2.2])]) (A:=[]) (ys:=[.ptr ⟨0,[]⟩ 0,.agg (dQ.cells a2.Prec)]) (args:=[.obj (dH.cells aZ.1),.agg (dQ.cells a2.Prec)]) (cs':=dH.cells h3.2) (k0:=0) q q q q (.b q (.n q .nil)) q (bU.go rY) call120 (.n q .nil) q q (.n q .nil) .nil q))<|ay O.bT<|aC.eE (bt.o0 [0,6])<|bV q) ?_;exact sm h ▸ aJ.eU
    ·refine aW h λfG BN h=>W.ca [0,6] (ay (O.a8 .z4)<|ay O.bT<|ay O.y2<|ay O.eW<|ay O.bT<|ay O.y2<|ay O.eW<|aC.na q (bt.call q q (hN.lC (G2:=[(6,.obj [ae (aE (1+bc)),aq az aZ.2.1,ae (-1),ax aZ.2.2.1,.aU,ae aZ.2.2.2])]) (A:=[]) (ys:=[.ptr ⟨0,[]⟩ 0,ae a2.Prec.At,ax a2.Prec.Name]) (args:=[.obj (dH.cells aZ.1),ae a2.Prec.At,ax a2.Prec.Name]) (cs':=dH.cells fG) (k0:=0) q q q q (.b q (.n q (.n q .nil))) q (bU.go BN) call101 (.n q .nil) q q (.n q .nil) .nil q))<|bV q) ?_;exact sm h ▸ aJ.eU
   exact sm h ▸ aJ.eU
  ·exact W.dO<|sm h ▸ aJ.eU
 refine aJ.bY<|aW h λkl w7 h=>W.dt [0,6] (ay (O.bn (ys:=[]) az ([]:List Int) j5 q q q q q q qG q q)<|ay O.bT<|ay (O.ee (y:=.bl az.z ⟨6,[1]⟩ aZ.2.1.length))<|ay (O.ap (en:=az) (r:=kl) .z3 q .eh (.flat az q) rB q w7)<|ay O.bT<|aC.eE (bt.sp [0,6])<|bV q) ?_;refine W.dN (G1:=[(0,_),(6,.obj [ae (aE (1+bc)),ao az aZ.2.1,ae jI.2,ax aZ.2.2.1,aq az (([]:List Int)++aZ.2.1),ae aZ.2.2.2])]) [6] (.n q q (.z q q (fm.obj (.f (.z (.f (.f (.f (.f .nil))))))) .nil)) ?_;refine W.dN (G1:=[(0,_),(6,.obj [ae (aE (1+bc)),ao az aZ.2.1,ae jI.2,ax aZ.2.2.1,ao az (([]:List Int)++aZ.2.1),ae aZ.2.2.2])]) [6] (.n q q (.z q q (fm.obj (.f (.f (.f (.f (.z (.f .nil))))))) .nil)) ?_;refine aW h λiZ pz h=>W.rd [[],[],[1],[1,2],[1,2,3],[1,2,3,4],[],[6],aN 1 7 [],aN 0 9 [],aN 0 10 [],aN 0 11 [],aN 0 12 []] [(0,_)] gC (by kernel_rfl) (aM 0 (O.a8 .z4)<|aM 1 (O.a8 .z4)<|aM 2 (O.eC .z5)<|aM 3 O.y2<|aM 4 O.y2<|aM 5 (O.ee (y:=.bl cw.z ⟨0,[2]⟩ jI.1.aD.a1.length))<|aM 6 (O.fh (cs':=[ae (aE (1+bc)),ao az aZ.2.1,ae jI.2,ax aZ.2.2.1,ao az (([]:List Int)++aZ.2.1),ae aZ.2.2.2]) q .z4 RH q q)<|bH.gy 7 (x:=ao cw [(⟨aE (1+bc),aZ.2.1,jI.2,aZ.2.2.1,([]:List Int)++aZ.2.1,aZ.2.2.2⟩:Prod)]) (O.bn (ys:=[.agg [ae (aE (1+bc)),ao az aZ.2.1,ae jI.2,ax aZ.2.2.1,ao az (([]:List Int)++aZ.2.1),ae aZ.2.2.2]]) cw [(⟨aE (1+bc),aZ.2.1,jI.2,aZ.2.2.1,([]:List Int)++aZ.2.1,aZ.2.2.2⟩:Prod)] Fz q q q q q q KG q q) q q q q .none<|aM 8 (O.ap (en:=cw) (r:=iZ) .eh q .z2 .i Lh q pz)<|aM 9 (O.eC .z5)<|aM 10 O.y2<|aM 11 O.y2<|bH.kb 12 (bt.sp [0])<|bH.fin q q q (.n q .nil)) ?_;exact sm h ▸ aJ.fin (Fin.ro .nil q (Cf (by kernel_rfl)) (.ag q q (.no (.no .nil))) q (.inl q))
instance aaR {a0:dc}{aB:ByteArray}{a2:Alt}{r:dc}:bU prog 104 (ob a0 aB a2=some r) [.obj (dH.cells a0),ax aB,.agg (fK.cells a2)] [some (.obj [aq bP r.aD.aX,aq bz r.aD.bO,aq cw r.aD.a1,ax r.aD.b9,ax r.aD.cg,aq cn r.b_,aq bz r.cp,aq cL r.bX,ae r.cI,ae r.c_,ax r.c8,ae r.b',ae r.bQ]),none,none] (.bJ []):=⟨SM a0 aB a2 _⟩
theorem S1 (a0:Source) (r:bq × Int × Int × ByteArray) (h:oc a0=some r):b7 prog 81 [.agg (hj.cells a0)] [none] (.bJ [.agg (cS.cells r.1),ae r.2.1,ae r.2.2.1,ax r.2.2.2]):=by
 unfold oc at h;refine b7.go (N:=⟨435,[]⟩) func81 q q q q (W.fin ?_);refine W.st [(0,.agg (hj.cells a0))] ?_;refine W.dt [1,2] (ay (O.box (.eA q q) q)<|ay (O.gY (cs:=[.aU,.aU,.aU,ax bB,ax bB]) rp q q)<|aC.bS) ?_;refine W.b4<|aW h λbc kg h=>W.dt [1,2,28] (ay (O.fh (cs':=hj.cells a0) q .z4 Av q q)<|hD (dd.gr (.dx (.eA q q) .nil) (bU.go kg))<|aC.bS) ?_;refine W.cd h q (λfy h=>?_) (λfy h=>?_)
 ·refine W.dt [2,3,4,5] (ay (O.eR (cs:=[.aU,.aU,.aU,ax bB,ax bB]) J9 rp q q q)<|aC.eE (bt.ho [2])<|aC.bS) ?_;refine W.dN (G1:=[(2,.obj [ao bP ([]:List Tok),ao bz ([]:List e4),ao cw ([]:List Prod),ax bB,ax bB]),(3,_),(4,_),(5,_)]) [2] (.z q q (fm.obj (.z (.z (.z (.f (.f .nil)))))) (.n q q (.n q q (.n q q .nil)))) ?_;exact W.rt<|aJ.kH<|sm h ▸ jQ (.c (ys0:=[ao bP ([]:List Tok),ao bz ([]:List e4),ao cw ([]:List Prod),ax bB,ax bB]) q hE q q q (.f q (.f q (.f q (.f q (.f q .nil))))) (.f q q (.f q q (.f q q .nil))))
 ·refine W.dO<|aJ.bY<|aW h λaZ kh h=>W.dt [1,2,6] (ay (O.mk (en:=cn) (z0:=false) xT .cW .cW Qv q q kh Lu q)<|ay (O.eR (cs:=[.aU,.aU,.aU,ax bB,ax bB,.bl cn.z ⟨30,[]⟩ aZ.length,.aU,.aU,ae 0,ae 0,ax bB,ae 0,ae 0]) Zh aaw q q q)<|ay (O.box (.eA q q) q)<|aC.wI (G2:=[(1,.obj (hj.cells a0)),(2,.obj [.aU,.aU,.aU,ax bB,ax bB])]) q (bt.Aq (y':=.obj [.aU,.aU,.aU,ax bB,ax bB,aq cn aZ,.aU,.aU,ae 0,ae 0,ax bB,ae 0,ae 0]) q q (.obj q) (.b q (.f (.f (.f (.f (.f (.r q (.f (.f (.f (.f (.f (.f (.f .nil))))))))))))) .nil) .refl (sk q q) q q)<|bV q) ?_;refine W.dt [1,2,6] (ay (O.a8 .z4)<|ay (O.eR (cs:=[ax (⟨#[36,101,110,100]⟩),bf false,ae 0,ae 0,ae 0,ax bB]) J' KD q q q)<|ay (O.eR (cs:=[ax (⟨#[101,114,114,111,114]⟩),bf false,ae (-1),ae 0,ae 0,ax bB]) J' KD q q q)<|ay (O.eR (cs:=[ax (⟨#[36,117,110,107]⟩),bf false,ae (-1),ae 0,ae 0,ax bB]) J' KD q q q)<|ay (O.bn (ys:=[.agg [ax (⟨#[36,101,110,100]⟩),bf false,ae 0,ae 0,ae 0,ax bB],.agg [ax (⟨#[101,114,114,111,114]⟩),bf false,ae (-1),ae 0,ae 0,ax bB],.agg [ax (⟨#[36,117,110,107]⟩),bf false,ae (-1),ae 0,ae 0,ax bB]]) bP [(⟨⟨#[36,101,110,100]⟩,false,0,0,0,bB⟩:Tok),(⟨⟨#[101,114,114,111,114]⟩,false,(-1),0,0,bB⟩:Tok),(⟨⟨#[36,117,110,107]⟩,false,(-1),0,0,bB⟩:Tok)] Fy q q q q q q aaC q q)<|ay (O.eC .z5)<|ay O.y2<|ay O.y2<|aC.eE (bt.si [1,2,6])<|bV q) ?_;refine W.c7 [1,2,6,7] ?_;refine W.b4<|W.c7 [1,2,6,7,8] ?_;refine W.cT<|aW h λbM ai h=>W.im ((⟨(⟨[(⟨⟨#[36,101,110,100]⟩,false,0,0,0,bB⟩:Tok),(⟨⟨#[101,114,114,111,114]⟩,false,(-1),0,0,bB⟩:Tok),(⟨⟨#[36,117,110,107]⟩,false,(-1),0,0,bB⟩:Tok)],[],[],bB,bB⟩:bq),aZ,[],[],0,0,bB,0,0⟩:dc),bB,0) (λ(dk:dc × ByteArray × Int)=>[(6,.obj (dH.cells dk.1)),(7,ax dk.2.1),(8,ae dk.2.2)]) [1,2,6,7,8] 0 (λ(bM:dc × ByteArray)=>[(6,.obj (dH.cells bM.1)),(7,ax bM.2)]) [1,2,6,7] ai (λdk o h=>?_) ?_
  ·clear ai;refine W.b4<|W.c7 [1,2,6,7,8,45] ?_;refine W.cd h q (λU8 h=>?_) (λU8 h=>?_)
   ·refine W.dO<|aJ.bY<|W.b4<|W.cT<|aW h λcm BP h=>W.dt [1,2,6,7,8,9] (ay O.bT<|ay (O.ee (y:=ao ff a0.Decls))<|dF q<|ay (O.h4 BP)<|ay (O.s7 (cs':=ff.cells cm) .oo Gt q q)<|ay (O.gY (cs:=[ae 0,ax bB,.aU,ae 0]) KC q q)<|aC.eE (bt.ho [1,2,6,7,8,9])<|bV q) ?_;refine W.b4<|aW h λhW aj h=>W.td [1,2,6,7,8,9,60] [(60,bf hW)] ?_ ?_
    ·refine ay O.bT<|ay O.eW<|ay (O.geq .bs .cW)<|ay (O.a8 (.lit q)) ?_;rcases jE aj with ⟨Bc,aj⟩ | ⟨Bc,aj⟩
     ·exact sm aj ▸ aC.bS
     ·exact sm aj ▸ aC.bS
    refine aW h λiW aj h=>W.gK [1,2,6,7,8,9] [(6,.obj [aq bP dk.1.aD.aX,aq bz dk.1.aD.bO,aq cw dk.1.aD.a1,ax dk.1.aD.b9,ax dk.1.aD.cg,aq cn dk.1.b_,aq bz dk.1.cp,aq cL dk.1.bX,ae dk.1.cI,ae dk.1.c_,ax dk.1.c8,ae iW,ae dk.1.bQ])] ?_ ?_
    ·clear h; have h:=aj; clear aj;refine W.cd h q (λwT h=>?_) (λwT h=>?_)
     ·refine W.ca [1,2,6,7,8,9] (ay (O.a8 .z4)<|ay (O.eC .z5)<|ay O.y2<|ay O.eW<|ay (O.add .bs .cW)<|ay (O.eC .z5)<|ay O.y2<|aC.eE (bt.o0 [1,2,6,7,8,9])<|bV q) ?_;exact sm h ▸ aJ.eU
     ·exact W.dO<|sm h ▸ aJ.eU
    refine aJ.bY<|W.c7 [1,2,6,7,8,9,10] ?_;refine W.cT<|aW h λd' ai h=>W.im ((⟨dk.1.aD,dk.1.b_,dk.1.cp,dk.1.bX,dk.1.cI,dk.1.c_,dk.1.c8,iW,dk.1.bQ⟩:dc),dk.2.1,0) (λ(jM:dc × ByteArray × Int)=>[(6,.obj (dH.cells jM.1)),(7,ax jM.2.1),(10,ae jM.2.2)]) [1,2,6,7,8,9,10] 2 (λ(d':dc × ByteArray)=>[(6,.obj (dH.cells d'.1)),(7,ax d'.2)]) [1,2,6,7,8] ai (λjM o h=>?_) ?_
    ·clear ai;refine W.b4<|W.c7 [1,2,6,7,8,9,10,72] ?_;refine W.cd h q (λHO h=>?_) (λHO h=>?_)
     ·refine W.dO<|aJ.bY<|W.b4<|aW h λBU aj h=>W.gK [1,2,6,7,8,9,10] [(6,.obj (dH.cells BU.1)),(7,ax BU.2)] ?_ ?_
      ·clear h; have h:=aj; clear aj;refine W.cT<|W.b4<|W.c7 [1,2,6,7,8,9,10,77] ?_;refine W.cd h q (λiP h=>?_) (λiP h=>?_)
       ·refine W.b4<|aW h λf' uw h=>aW h λfF BK h=>W.rd [[],[],[],[2],[],[2,3,4],[2,3,4,5],aN 0 7 []] [(1,_),(2,_),(6,_),(7,_),(8,_),(9,_),(10,_)] gC (by kernel_rfl) (aM 0 (O.a8 .z4)<|aM 1 (O.fh (cs':=ff.cells cm) q .z4 Gt q q)<|aM 2 O.bT<|aM 3 (O.ee (y:=ao dQ cm.ev))<|aM 4 (O.a8 (.lit q))<|aM 5 (O.h4 uw)<|aM 6 (O.s7 (cs':=dQ.cells f') .oo Aw q q)<|bH.kb 7 (G2:=[(85,.bJ []),(6,.obj (dH.cells fF)),(1,.obj (hj.cells a0)),(2,.obj [.aU,.aU,.aU,ax bB,ax bB]),(7,ax jM.2.1),(8,ae dk.2.2),(9,.obj (ff.cells cm)),(10,ae jM.2.2)]) (bt.call q q (hN.lC (G2:=[(1,.obj (hj.cells a0)),(2,.obj [.aU,.aU,.aU,ax bB,ax bB]),(7,ax jM.2.1),(8,ae dk.2.2),(9,.obj (ff.cells cm)),(10,ae jM.2.2)]) (A:=[]) (ys:=[.ptr ⟨6,[]⟩ 0,.agg (ff.cells cm),.agg (dQ.cells f')]) (args:=[.obj (dH.cells jM.1),.agg (ff.cells cm),.agg (dQ.cells f')]) (cs':=dH.cells fF) (k0:=0) q q q q (.b q (.n q (.n q .nil))) q (bU.go BK) call100 (tl q q q q q q) q q (tl q q q q q q) .nil q))<|bH.fin q q q (pT q q q q q q q)) ?_;exact aJ.bY<|W.hA<|aJ.hy<|aJ.hs<|sm h ▸ aJ.eU
       ·refine W.dO<|aJ.bY<|W.b4<|W.c7 [1,2,6,8,9,10,87] ?_;refine aW h λk2 aj h=>W.gK [1,2,6,8,9,10] [(6,.obj (dH.cells k2))] ?_ ?_
        ·clear h; have h:=aj; clear aj;refine W.cd h q (λUT h=>?_) (λUT h=>?_)
         ·refine aW h λhp Ey h=>aW h λfO w6 h=>aW h λjN ux h=>W.rd [[],[],[1],[],[1,2,3],[1,2,3,4],aN 1 5 [],[],[7],[],[7,8,9],[7,8,9,10],aN 7 5 [],aN 0 13 []] [(1,_),(2,_),(6,_),(8,_),(9,_),(10,_)] gC (by kernel_rfl) (aM 0 (O.a8 .z4)<|aM 1 O.bT<|aM 2 (O.ee (y:=ao dQ cm.ev))<|aM 3 (O.a8 (.lit q))<|aM 4 (O.h4 Ey)<|aM 5 O.pX<|aM 6 (O.jB (x:=ae hp.At))<|aM 7 O.bT<|aM 8 (O.ee (y:=ao dQ cm.ev))<|aM 9 (O.a8 (.lit q))<|aM 10 (O.h4 w6)<|aM 11 O.pX<|aM 12 (O.jB (x:=ax fO.Name))<|bH.kb 13 (G2:=[(101,.bJ []),(6,.obj (dH.cells jN)),(1,.obj (hj.cells a0)),(2,.obj [.aU,.aU,.aU,ax bB,ax bB]),(8,ae dk.2.2),(9,.obj (ff.cells cm)),(10,ae jM.2.2)]) (bt.call q q (hN.lC (G2:=[(1,.obj (hj.cells a0)),(2,.obj [.aU,.aU,.aU,ax bB,ax bB]),(8,ae dk.2.2),(9,.obj (ff.cells cm)),(10,ae jM.2.2)]) (A:=[]) (ys:=[.ptr ⟨6,[]⟩ 0,ae hp.At,ax fO.Name]) (args:=[.obj (dH.cells jM.1),ae hp.At,ax fO.Name]) (cs':=dH.cells jN) (k0:=0) q q q q (.b q (.n q (.n q .nil))) q (bU.go ux) call101 (sl q q q q q) q q (sl q q q q q) .nil q))<|bH.fin q q q (tl q q q q q q)) ?_;exact sm h ▸ aJ.eU
         ·exact W.dO<|sm h ▸ aJ.eU
        refine aJ.bY<|aW h λhM BL h=>W.Rk [1,2,6,7,8,9,10] ?_;exact aJ.cT<|sm h ▸ aJ.eU
      refine aJ.bY<|W.ca [1,2,6,7,8,9,10] (dF q<|ay (O.add .bs .cW)<|aC.ca [1,2,6,7,8,9,74] q<|aC.bS) ?_;exact sm h ▸ aJ.gt
     ·exact W.hA<|aJ.hy<|sm h ▸ aJ.t1
    refine aJ.hs<|aJ.cT<|aJ.bY<|W.ca [1,2,6,7,8] (dF q<|ay (O.add .bs .cW)<|aC.ca [1,2,6,7,47] q<|aC.bS) ?_;exact sm h ▸ aJ.gt
   ·exact W.hA<|aJ.hy<|sm h ▸ aJ.t1
  refine aJ.hs<|aJ.bY<|W.b4<|W.c7 [1,2,6,7,11] ?_;refine W.cT<|aW h λcD ai h=>W.im (bM.1,0) (λ(qA:dc × Int)=>[(6,.obj (dH.cells qA.1)),(11,ae qA.2)]) [1,2,6,7,11] 4 (λ(cD:dc)=>[(6,.obj (dH.cells cD))]) [1,2,6,7] ai (λqA o h=>?_) ?_
  ·clear ai;refine W.b4<|W.c7 [1,2,6,7,11,112] ?_;refine W.cd h q (λUY h=>?_) (λUY h=>?_)
   ·refine W.dO<|aJ.bY<|W.b4<|aW h λxc aj h=>W.gK [1,2,6,7,11] [(6,.obj (dH.cells xc))] ?_ ?_
    ·clear h; have h:=aj; clear aj;refine W.cT<|aW h λhz IQ h=>W.dt [1,2,6,7,11,12] (ay O.bT<|ay (O.ee (y:=ao je a0.fu))<|dF q<|ay (O.h4 IQ)<|ay (O.s7 (cs':=je.cells hz) .oo Lm q q)<|ay (O.gY (cs:=[ax bB,.aU,ae 0]) F6 q q)<|aC.eE (bt.ho [1,2,6,7,11,12])<|bV q) ?_;refine W.b4<|aW h λkJ sZ h=>W.dt [1,2,6,7,11,12,125] (ay (O.a8 .z4)<|ay O.bT<|ay O.eW<|ay (O.eR (cs:=[ax hz.Left,bf false,ae 0,ae 0]) CV z_ q q q)<|hD (dd.sn (ys:=[.ptr ⟨6,[]⟩ 0,.agg [ax hz.Left,bf false,ae 0,ae 0]]) q (.c (View.pJ q q) (.c (.nR (.s (.s (.s (.s .nil))))) .nil)) (bU.go sZ))<|aC.bS) ?_;refine aW h λil aj h=>W.gK [1,2,6,7,11,12] [(6,.obj (dH.cells il))] ?_ ?_
     ·clear h; have h:=aj; clear aj;refine W.cd h q (λUZ h=>?_) (λUZ h=>?_)
      ·refine aW h λkl w7 h=>W.ca [1,2,6,7,11,12] (ay (O.a8 .z4)<|ay O.bT<|ay O.eW<|ay O.bT<|ay O.eW<|aC.na q (bt.call q q (hN.lC (G2:=[(1,.obj (hj.cells a0)),(2,.obj [.aU,.aU,.aU,ax bB,ax bB]),(7,ax bM.2),(11,ae qA.2),(12,.obj (je.cells hz))]) (A:=[]) (ys:=[.ptr ⟨6,[]⟩ 0,ae hz.At,ax hz.Left]) (args:=[.obj (dH.cells qA.1),ae hz.At,ax hz.Left]) (cs':=dH.cells kl) (k0:=0) q q q q (.b q (.n q (.n q .nil))) q (bU.go w7) call101 (sl q q q q q) q q (sl q q q q q) .nil q))<|bV q) ?_;exact sm h ▸ aJ.eU
      ·exact W.dO<|sm h ▸ aJ.eU
     refine aJ.bY<|aW h λiZ pz h=>W.dt [1,2,6,7,11,12,136] (ay (O.a8 .z4)<|ay O.bT<|ay O.eW<|hD (dd.sn (ys:=[.ptr ⟨6,[]⟩ 0,ax hz.Left]) q (.c (View.pJ q q) (.s .nil)) (bU.go pz))<|aC.bS) ?_;refine aW h λlB aj h=>W.gK [1,2,6,7,11] [(6,.obj [aq bP il.aD.aX,aq bz il.aD.bO,aq cw il.aD.a1,ax il.aD.b9,ax il.aD.cg,aq cn il.b_,aq bz il.cp,aq cL lB,ae il.cI,ae il.c_,ax il.c8,ae il.b',ae il.bQ])] ?_ ?_
     ·clear h; have h:=aj; clear aj;refine W.cd h q (λHU h=>?_) (λHU h=>?_)
      ·refine aW h λrm IT h=>W.rd [[],[],[1],[1,2],[1,2,3],[],[5],[5,6],aN 1 7 [],aN 0 9 [],aN 0 10 [],aN 0 11 []] [(1,_),(2,_),(6,_),(7,_),(11,_)] gC (by kernel_rfl) (aM 0 (O.a8 .z4)<|aM 1 (O.a8 .z4)<|aM 2 (O.eC .z5)<|aM 3 O.y2<|aM 4 (O.ee (y:=.bl cL.z ⟨6,[7]⟩ il.bX.length))<|aM 5 O.bT<|aM 6 O.eW<|bH.gy 7 (x:=ao cL [hz.Left]) (O.bn (ys:=[ax hz.Left]) cL [hz.Left] FA q q q q q q aaB q q) q q q q .none<|aM 8 (O.ap (en:=cL) (r:=rm) .eh q .z2 .i Rp q IT)<|aM 9 (O.eC .z5)<|aM 10 O.y2<|bH.kb 11 (bt.sp [1,2,6,7,11])<|bH.fin q q q (sl q q q q q)) ?_;exact sm h ▸ aJ.eU
      ·exact W.dO<|sm h ▸ aJ.eU
     exact aJ.cT<|sm h ▸ aJ.eU
    refine aJ.bY<|W.ca [1,2,6,7,11] (dF q<|ay (O.add .bs .cW)<|aC.ca [1,2,6,7,114] q<|aC.bS) ?_;exact sm h ▸ aJ.gt
   ·exact W.hA<|aJ.hy<|sm h ▸ aJ.t1
  refine aJ.hs<|aJ.bY<|W.b4<|W.c7 [1,2,6,7,13] ?_;refine W.cT<|aW h λfq ai h=>W.im (cD,0) (λ(qB:dc × Int)=>[(6,.obj (dH.cells qB.1)),(13,ae qB.2)]) [1,2,6,7,13] 6 (λ(fq:dc)=>[(6,.obj (dH.cells fq))]) [1,2,6,7] ai (λqB o h=>?_) ?_
  ·clear ai;refine W.b4<|W.c7 [1,2,6,7,13,152] ?_;refine W.cd h q (λU3 h=>?_) (λU3 h=>?_)
   ·refine W.dO<|aJ.bY<|W.b4<|W.cT<|W.c7 [1,2,6,7,13,14] ?_;refine W.cT<|aW h λnI ai h=>W.im (qB.1,0) (λ(pR:dc × Int)=>[(6,.obj (dH.cells pR.1)),(14,ae pR.2)]) [1,2,6,7,13,14] 8 (λ(nI:dc)=>[(6,.obj (dH.cells nI))]) [1,2,6,7,13] ai (λpR o h=>?_) ?_
    ·clear ai;refine W.b4<|aW h λtp NI h=>W.c7 [1,2,6,7,13,14,163] ?_;refine W.cd h q (λnh h=>?_) (λnh h=>?_)
     ·refine W.dO<|aJ.bY<|W.b4<|aW h λJd aj h=>W.gK [1,2,6,7,13,14] [(6,.obj (dH.cells Jd))] ?_ ?_
      ·clear h; have h:=aj; clear aj;refine W.cT<|aW h λx0 Ez h=>aW h λqE IW h=>W.dt [1,2,6,7,13,14,15] (ay O.bT<|ay (O.ee (y:=ao ff a0.Decls))<|dF q<|ay (O.h4 Ez)<|ay O.pX<|ay (O.jB (x:=ao dQ x0.ev))<|dF q<|ay (O.h4 IW)<|ay (O.s7 (cs':=dQ.cells qE) .oo Aw q q)<|ay (O.gY (cs:=[ax bB,bf false,ae 0,ae 0]) z_ q q)<|aC.eE (bt.ho [1,2,6,7,13,14,15])<|bV q) ?_;refine aW h λAI aj h=>W.td [1,2,6,7,13,14,15,188] [(188,bf AI)] ?_ ?_
       ·refine ay O.bT<|ay (O.ee (y:=ao ff a0.Decls))<|ay (O.a8 (.lit q)) ?_;refine aW aj λKv WS aj=>ay (O.h4 WS)<|ay O.pX<|ay (O.jB (x:=ae Kv.Kind))<|ay (O.geq .bs .cW)<|ay (O.a8 (.lit q)) ?_;rcases jE aj with ⟨Bb,aj⟩ | ⟨Bb,aj⟩
        ·refine cF Bb (O.a8 .z4)<|cF Bb O.bT<|cF Bb O.eW ?_;exact aW aj λQk WT aj=>sm aj ▸ (aC.c (dd.sn (ys:=[.ptr ⟨6,[]⟩ 0,ax qE.Name]) q (.c (View.pJ q q) (.s .nil)) (bU.go WT)) q q (.j8 q q Bb)<|aC.bS)
        ·exact sm aj ▸ aC.bS
       refine aW h λJe aj h=>W.gK [1,2,6,7,13,14] [(6,.obj (dH.cells Je))] ?_ ?_
       ·clear h; have h:=aj; clear aj;refine W.cd h q (λU5 h=>?_) (λU5 h=>?_)
        ·refine aW h λKw WU h=>W.ca [1,2,6,7,13,14] (ay (O.a8 .z4)<|ay O.bT<|ay O.eW<|ay O.bT<|ay O.eW<|aC.na q (bt.call q q (hN.lC (G2:=[(1,.obj (hj.cells a0)),(2,.obj [.aU,.aU,.aU,ax bB,ax bB]),(7,ax bM.2),(13,ae qB.2),(14,ae pR.2)]) (A:=[]) (ys:=[.ptr ⟨6,[]⟩ 0,ae qE.At,ax qE.Name]) (args:=[.obj (dH.cells pR.1),ae qE.At,ax qE.Name]) (cs':=dH.cells Kw) (k0:=0) q q q q (.b q (.n q (.n q .nil))) q (bU.go WU) call101 (sl q q q q q) q q (sl q q q q q) .nil q))<|bV q) ?_;exact sm h ▸ aJ.eU
        ·exact W.dO<|sm h ▸ aJ.eU
       exact aJ.cT<|sm h ▸ aJ.eU
      refine aJ.bY<|W.ca [1,2,6,7,13,14] (dF q<|ay (O.add .bs .cW)<|aC.ca [1,2,6,7,13,165] q<|aC.bS) ?_;exact sm h ▸ aJ.gt
     ·exact W.hA<|aJ.hy<|sm h ▸ aJ.t1
    refine aJ.hs<|aJ.cT<|aJ.bY<|W.ca [1,2,6,7,13] (dF q<|ay (O.add .bs .cW)<|aC.ca [1,2,6,7,154] q<|aC.bS) ?_;exact sm h ▸ aJ.gt
   ·exact W.hA<|aJ.hy<|sm h ▸ aJ.t1
  refine aJ.hs<|aJ.bY<|W.b4<|W.c7 [1,2,6,7,196] ?_;refine aW h λvL aj h=>W.gK [1,2,6,7] [(7,ax vL)] ?_ ?_
  ·clear h; have h:=aj; clear aj;refine W.cd h q (λU6 h=>?_) (λU6 h=>?_)
   ·refine aW h λKx WV h=>W.ca [1,2,6,7] (ay O.bT<|ay (O.ee (y:=ao je a0.fu))<|ay (O.r3 .z2 .cW Ka WV)<|ay O.pX<|ay (O.jB (x:=ax Kx.Left))<|aC.ca [1,2,6,201] q<|aC.bS) ?_;exact sm h ▸ aJ.eU
   ·exact W.dO<|sm h ▸ aJ.eU
  refine aJ.bY<|aW h λl2 WW h=>W.dt [1,2,6] (ay (O.a8 .z4)<|ay (O.a8 .z4)<|dF q<|hD (dd.sn (ys:=[.ptr ⟨6,[]⟩ 0,ax vL]) q (.c (View.pJ q q) (.s .nil)) (bU.go WW))<|ay (O.add .cW .bs)<|aC.gy (x:=ao az [aE (1001+l2)]) (O.bn (ys:=[ae (aE (1001+l2))]) az [aE (1001+l2)] j5 q q q q q q qG q q) q q .none<|aC.gy (x:=.agg [ae 0,ao az [aE (1001+l2)],ae (-1),ax bB,ao az ([]:List Int),ae 0]) (O.eR (cs:=[ae 0,ao az [aE (1001+l2)],ae (-1),ax bB,.aU,ae 0]) J8 F4 q q q) q q .none<|ay (O.bn (ys:=[.agg [ae 0,ao az [aE (1001+l2)],ae (-1),ax bB,ao az ([]:List Int),ae 0]]) cw [(⟨0,[aE (1001+l2)],(-1),bB,([]:List Int),0⟩:Prod)] Fz q q q q q q KG q q)<|ay (O.eC .z5)<|ay O.y2<|ay O.y2<|aC.eE (bt.si [1,2,6])<|bV q) ?_;refine W.b4<|W.c7 [1,2,6,16] ?_;refine W.cT<|aW h λbo ai h=>W.im ((⟨(⟨fq.aD.aX,fq.aD.bO,[(⟨0,[aE (1001+l2)],(-1),bB,([]:List Int),0⟩:Prod)],fq.aD.b9,fq.aD.cg⟩:bq),fq.b_,fq.cp,fq.bX,fq.cI,fq.c_,fq.c8,fq.b',fq.bQ⟩:dc),0) (λ(pS:dc × Int)=>[(6,.obj (dH.cells pS.1)),(16,ae pS.2)]) [1,2,6,16] 10 (λ(bo:dc)=>[(6,.obj (dH.cells bo))]) [1,2,6] ai (λpS o h=>?_) ?_
  ·clear ai;refine W.b4<|W.c7 [1,2,6,16,217] ?_;refine W.cd h q (λU7 h=>?_) (λU7 h=>?_)
   ·refine W.dO<|aJ.bY<|W.b4<|W.cT<|W.c7 [1,2,6,16,17] ?_;refine W.cT<|aW h λz6 ai h=>W.im (pS.1,0) (λ(rh:dc × Int)=>[(6,.obj (dH.cells rh.1)),(17,ae rh.2)]) [1,2,6,16,17] 12 (λ(z6:dc)=>[(6,.obj (dH.cells z6))]) [1,2,6,16] ai (λrh o h=>?_) ?_
    ·clear ai;refine W.b4<|aW h λQl adk h=>W.c7 [1,2,6,16,17,228] ?_;refine W.cd h q (λU9 h=>?_) (λU9 h=>?_)
     ·refine W.dO<|aJ.bY<|W.b4<|W.cT<|aW h λC9 WX h=>aW h λKy WY h=>aW h λC_ WZ h=>aW h λF1 W0 h=>W.rd [[],[],[1],[],[1,2,3],[1,2,3,4],aN 1 5 [],[],[7],[],[7,8,9],[7,8,9,10],aN 7 5 [],[],aN 7 7 [],aN 7 8 [],aN 0 16 []] [(1,_),(2,_),(6,_),(16,_),(17,_)] gC (by kernel_rfl) (aM 0 (O.a8 .z4)<|aM 1 O.bT<|aM 2 (O.ee (y:=ao je a0.fu))<|aM 3 (O.a8 (.lit q))<|aM 4 (O.h4 WX)<|aM 5 O.pX<|aM 6 (O.jB (x:=ax C9.Left))<|aM 7 O.bT<|aM 8 (O.ee (y:=ao je a0.fu))<|aM 9 (O.a8 (.lit q))<|aM 10 (O.h4 WY)<|aM 11 O.pX<|aM 12 (O.jB (x:=ao fK Ky.hg))<|aM 13 (O.a8 (.lit q))<|aM 14 (O.h4 WZ)<|aM 15 (O.s7 (cs':=fK.cells C_) .oo Ln q q)<|bH.kb 16 (G2:=[(247,.bJ []),(6,.obj (dH.cells F1)),(1,.obj (hj.cells a0)),(2,.obj [.aU,.aU,.aU,ax bB,ax bB]),(16,ae pS.2),(17,ae rh.2)]) (bt.call q q (hN.lC (G2:=[(1,.obj (hj.cells a0)),(2,.obj [.aU,.aU,.aU,ax bB,ax bB]),(16,ae pS.2),(17,ae rh.2)]) (A:=[]) (ys:=[.ptr ⟨6,[]⟩ 0,ax C9.Left,.agg (fK.cells C_)]) (args:=[.obj (dH.cells rh.1),ax C9.Left,.agg (fK.cells C_)]) (cs':=dH.cells F1) (k0:=0) q q q q (.b q (.n q (.n q .nil))) q (bU.go W0) call104 (nF q q q q) q q (nF q q q q) .nil q))<|bH.fin q q q (sl q q q q q)) ?_;refine aJ.cT<|aJ.bY<|W.ca [1,2,6,16,17] (dF q<|ay (O.add .bs .cW)<|aC.ca [1,2,6,16,230] q<|aC.bS) ?_;exact sm h ▸ aJ.gt
     ·exact W.hA<|aJ.hy<|sm h ▸ aJ.t1
    refine aJ.hs<|aJ.cT<|aJ.bY<|W.ca [1,2,6,16] (dF q<|ay (O.add .bs .cW)<|aC.ca [1,2,6,219] q<|aC.bS) ?_;exact sm h ▸ aJ.gt
   ·exact W.hA<|aJ.hy<|sm h ▸ aJ.t1
  refine aJ.hs<|aJ.bY<|W.b4<|W.c7 [1,2,6,252] ?_;refine W.cd h q (λU_ h=>?_) (λU_ h=>?_)
  ·refine W.b4<|W.rd [[],[],[1],[1,2],[1,2,3],[],[5],[5,6],[5,6,7],[],[9],[9,10],[9,10,11],[0],aN 0 5 [13],aN 0 9 [13,14],aN 0 16 []] [(2,_),(3,_),(4,_),(5,_)] gC (by kernel_rfl) (aM 0 (O.eR (cs:=[.aU,.aU,.aU,ax bB,ax bB]) J9 rp q q q)<|aM 1 (O.a8 .z4)<|aM 2 (O.eC .z5)<|aM 3 O.y2<|aM 4 O.eW<|aM 5 (O.a8 .z4)<|aM 6 (O.eC .z5)<|aM 7 O.y2<|aM 8 O.eW<|aM 9 (O.a8 .z4)<|aM 10 (O.eC .z5)<|aM 11 O.y2<|aM 12 O.eW<|bH.eR 13 (G2:=[(2,.obj [.aU,.aU,.aU,ax bB,ax bB]),(6,.obj (dH.cells bo))]) (U:=[(12,265,some (ax bo.c8)),(11,264,some (.ptr ⟨6,[]⟩ 10)),(10,263,some (.ptr ⟨6,[]⟩ 0)),(9,262,some (.ptr ⟨6,[]⟩ 0)),(8,261,some (ae bo.c_)),(7,260,some (.ptr ⟨6,[]⟩ 9)),(6,259,some (.ptr ⟨6,[]⟩ 0)),(5,258,some (.ptr ⟨6,[]⟩ 0)),(4,257,some (ae bo.cI)),(3,256,some (.ptr ⟨6,[]⟩ 8)),(2,255,some (.ptr ⟨6,[]⟩ 0)),(1,254,some (.ptr ⟨6,[]⟩ 0))]) (iv.v (bt.kd (bt.j4 (G2:=[(2,.obj [.aU,.aU,.aU,ax bB,ax bB]),(6,.obj (dH.cells bo))]) (cs2:=[.aU,.aU,.aU,ax bB,ax bB]) q q q (.obj q) (.eA q q) q C0 q q q q (.b q (.n q q .nil))))) q q (by kernel_rfl) q q q (.c (.inr (.inl ⟨_,q⟩)) q q q q q (Gd.wanted .none) (O.pC q .z5 wE q) (.c (.inr (.inr (.inr (.inl ⟨6,_,_,q,q,iC q,by simp,_,q,iC q⟩)))) q q q q q (Gd.wanted .none) (O.nb q .z5 TA q) (.c (.inr (.inr (.inr (.inl ⟨6,_,_,q,q,iC q,by simp,_,q,iC q⟩)))) q q q q q (Gd.wanted .none) (O.eC .z5) (.c (.inr (.inr (.inr (.inl ⟨6,_,_,q,q,iC q,by simp,_,q,iC q⟩)))) q q q q q (Gd.wanted .none) (O.a8 .z4) (.c (.inr (.inl ⟨_,q⟩)) q q q q q (Gd.wanted .none) (O.pC q .z5 sE q) (.c (.inr (.inr (.inr (.inl ⟨6,_,_,q,q,iC q,by simp,_,q,iC q⟩)))) q q q q q (Gd.wanted .none) (O.nb q .z5 Tz q) (.c (.inr (.inr (.inr (.inl ⟨6,_,_,q,q,iC q,by simp,_,q,iC q⟩)))) q q q q q (Gd.wanted .none) (O.eC .z5) (.c (.inr (.inr (.inr (.inl ⟨6,_,_,q,q,iC q,by simp,_,q,iC q⟩)))) q q q q q (Gd.wanted .none) (O.a8 .z4) (.c (.inr (.inl ⟨_,q⟩)) q q q q q (Gd.wanted .none) (O.pC q .z5 sE q) (.c (.inr (.inr (.inr (.inl ⟨6,_,_,q,q,iC q,by simp,_,q,iC q⟩)))) q q q q q (Gd.wanted .none) (O.nb q .z5 Ty q) (.c (.inr (.inr (.inr (.inl ⟨6,_,_,q,q,iC q,by simp,_,q,iC q⟩)))) q q q q q (Gd.wanted .none) (O.eC .z5) (.c (.inr (.inr (.inr (.inl ⟨6,_,_,q,q,iC q,by simp,_,q,iC q⟩)))) q q q q q (Gd.wanted .none) (O.a8 .z4) .nil)))))))))))) (by kernel_rfl)<|aM 14 (O.dG (.lit q))<|aM 15 (O.dG (.lit q))<|aM 16 (O.dG (.lit q))<|bH.fin q q q (nF q q q q)) ?_;refine aJ.bY<|W.dN (G1:=[(2,.obj [ao bP ([]:List Tok),ao bz ([]:List e4),ao cw ([]:List Prod),ax bB,ax bB]),(3,_),(4,_),(5,_)]) [2] (.z q q (fm.obj (.z (.z (.z (.f (.f .nil)))))) (.n q q (.n q q (.n q q .nil)))) ?_;exact W.rt<|aJ.kH<|sm h ▸ jQ (.c (ys0:=[ao bP ([]:List Tok),ao bz ([]:List e4),ao cw ([]:List Prod),ax bB,ax bB]) q hE q q q (.f q (.f q (.f q (.f q (.f q .nil))))) (.f q q (.f q q (.f q q .nil))))
  ·refine W.dO<|aJ.bY<|W.dt [1,2,6] (ay (O.a8 .z4)<|ay (O.eR (cs:=[ax (⟨#[36,97,99,99,101,112,116]⟩),ax bB]) Fu Da q q q)<|ay (O.bn (ys:=[.agg [ax (⟨#[36,97,99,99,101,112,116]⟩),ax bB]]) bz [(⟨⟨#[36,97,99,99,101,112,116]⟩,bB⟩:e4)] xS q q q q q q F8 q q)<|ay (O.eC .z5)<|ay O.y2<|ay O.y2<|aC.eE (bt.si [1,2,6])<|bV q) ?_;refine W.b4<|W.c7 [1,2,6,18] ?_;refine W.cT<|aW h λsr ai h=>W.im ([(⟨⟨#[36,97,99,99,101,112,116]⟩,bB⟩:e4)],0) (λ(ri:List e4 × Int)=>[(6,.obj [aq bP bo.aD.aX,aq bz ri.1,aq cw bo.aD.a1,ax bo.aD.b9,ax bo.aD.cg,aq cn bo.b_,aq bz bo.cp,aq cL bo.bX,ae bo.cI,ae bo.c_,ax bo.c8,ae bo.b',ae bo.bQ]),(18,ae ri.2)]) [1,2,6,18] 14 (λ(sr:List e4)=>[(6,.obj [aq bP bo.aD.aX,aq bz sr,aq cw bo.aD.a1,ax bo.aD.b9,ax bo.aD.cg,aq cn bo.b_,aq bz bo.cp,aq cL bo.bX,ae bo.cI,ae bo.c_,ax bo.c8,ae bo.b',ae bo.bQ])]) [1,2,6] ai (λri o h=>?_) ?_
   ·clear ai;refine W.b4<|W.c7 [1,2,6,18,278] ?_;refine W.cd h q (λVa h=>?_) (λVa h=>?_)
    ·refine W.dO<|aJ.bY<|W.b4<|W.cT<|aW h λqF NJ h=>W.dt [1,2,6,18,19] (ay (O.a8 .z4)<|ay (O.eC .z5)<|ay O.y2<|ay (O.ee (y:=.bl cL.z ⟨6,[7]⟩ bo.bX.length))<|dF q<|ay (O.iU (en:=cL) q .eh .bs FA NJ q)<|ay (O.lT (en:=cL) (x':=ax qF) q .z5 wE NJ q q)<|ay (O.eR (cs:=[ax qF,ax bB]) Fu Da q q q)<|ay (O.gY (cs:=[ax bB,ax bB]) Da q q)<|aC.eE (bt.ho [1,2,6,18,19])<|bV q) ?_;refine W.b4<|aW h λx1 W1 h=>W.dt [1,2,6,18,19,20] (ay (O.a8 .z4)<|ay O.bT<|ay O.eW<|hD (dd.sn (ys:=[.ptr ⟨6,[]⟩ 0,ax qF]) q (.c (View.pJ q q) (.s .nil)) (bU.go W1))<|aC.bS) ?_;refine W.c7 [1,2,6,18,19,20,294] ?_;refine aW h λuD aj h=>W.gK [1,2,6,18,19] [(19,.obj [ax qF,ax uD])] ?_ ?_
     ·clear h; have h:=aj; clear aj;refine W.cd h q (λVb h=>?_) (λVb h=>?_)
      ·refine aW h λKz IX h=>W.ca [1,2,6,18,19] (ay (O.a8 .z4)<|ay (O.eC .z5)<|ay O.y2<|ay (O.ee (y:=.bl bz.z ⟨6,[6]⟩ bo.cp.length))<|dF q<|ay (O.iU (en:=bz) q .eh .bs xS IX q)<|ay (O.mD (en:=bz) q .z5 Me IX q q)<|ay (O.lT (en:=bz) (x':=ax Kz.Tag) q .z5 wE IX q q)<|ay O.bT<|aC.eE (bt.o0 [1,2,6,18,19])<|bV q) ?_;exact sm h ▸ aJ.eU
      ·exact W.dO<|sm h ▸ aJ.eU
     refine aJ.bY<|aW h λQm W2 h=>W.rd [[],[],[1],[1,2],[1,2,3],[1,2,3,4],[],[6],aN 1 7 [],aN 0 9 [],aN 0 10 [],aN 0 11 [],aN 0 12 []] [(1,_),(2,_),(6,_),(18,_)] gC (by kernel_rfl) (aM 0 (O.a8 .z4)<|aM 1 (O.a8 .z4)<|aM 2 (O.eC .z5)<|aM 3 O.y2<|aM 4 O.y2<|aM 5 (O.ee (y:=.bl bz.z ⟨6,[1]⟩ ri.1.length))<|aM 6 (O.fh (cs':=[ax qF,ax uD]) q .z4 RK q q)<|bH.gy 7 (x:=ao bz [(⟨qF,uD⟩:e4)]) (O.bn (ys:=[.agg [ax qF,ax uD]]) bz [(⟨qF,uD⟩:e4)] xS q q q q q q F8 q q) q q q q .none<|aM 8 (O.ap (en:=bz) (r:=Qm) .eh q .z2 .i Gq q W2)<|aM 9 (O.eC .z5)<|aM 10 O.y2<|aM 11 O.y2<|bH.kb 12 (bt.sp [1,2,6,18])<|bH.fin q q q (nF q q q q)) ?_;refine aJ.cT<|aJ.bY<|W.ca [1,2,6,18] (dF q<|ay (O.add .bs .cW)<|aC.ca [1,2,6,280] q<|aC.bS) ?_;exact sm h ▸ aJ.gt
    ·exact W.hA<|aJ.hy<|sm h ▸ aJ.t1
   refine aJ.hs<|aJ.bY<|W.b4<|W.c7 [1,2,6,21] ?_;refine W.cT<|aW h λj7 ai h=>W.im (sr,1) (λ(sg:List e4 × Int)=>[(6,.obj [aq bP bo.aD.aX,aq bz sg.1,aq cw bo.aD.a1,ax bo.aD.b9,ax bo.aD.cg,aq cn bo.b_,aq bz bo.cp,aq cL bo.bX,ae bo.cI,ae bo.c_,ax bo.c8,ae bo.b',ae bo.bQ]),(21,ae sg.2)]) [1,2,6,21] 16 (λ(j7:List e4)=>[(6,.obj [aq bP bo.aD.aX,aq bz j7,aq cw bo.aD.a1,ax bo.aD.b9,ax bo.aD.cg,aq cn bo.b_,aq bz bo.cp,aq cL bo.bX,ae bo.cI,ae bo.c_,ax bo.c8,ae bo.b',ae bo.bQ])]) [1,2,6] ai (λsg o h=>?_) ?_
   ·clear ai;refine W.b4<|W.c7 [1,2,6,21,321] ?_;refine W.cd h q (λVc h=>?_) (λVc h=>?_)
    ·refine W.dO<|aJ.bY<|W.b4<|W.cT<|aW h λF2 W4 h=>aW h λwc W5 h=>aW h λQn W6 h=>W.rd [[],[],[1],[1,2],[1,2,3],[1,2,3,4],[],[6],[6,7],[6,7,8],[6,7,8,9],aN 1 10 [],aN 0 12 [],aN 0 13 [],aN 0 14 [],aN 0 15 []] [(1,_),(2,_),(6,_),(21,_)] gC (by kernel_rfl) (aM 0 (O.a8 .z4)<|aM 1 (O.a8 .z4)<|aM 2 (O.eC .z5)<|aM 3 O.y2<|aM 4 O.y2<|aM 5 (O.ee (y:=.bl bz.z ⟨6,[1]⟩ sg.1.length))<|aM 6 (O.a8 (.lit q))<|ot 7 (dd.gr (.dx (.lit q) .nil) (bU.go W4))<|aM 8 (O.cat .cW .bs W5)<|aM 9 (O.eR (cs:=[ax wc,ax bB]) Fu Da q q q)<|bH.gy 10 (x:=ao bz [(⟨wc,bB⟩:e4)]) (O.bn (ys:=[.agg [ax wc,ax bB]]) bz [(⟨wc,bB⟩:e4)] xS q q q q q q F8 q q) q q q q .none<|aM 11 (O.ap (en:=bz) (r:=Qn) .eh q .z2 .i Gq q W6)<|aM 12 (O.eC .z5)<|aM 13 O.y2<|aM 14 O.y2<|bH.kb 15 (bt.sp [1,2,6,21])<|bH.fin q q q (nF q q q q)) ?_;refine aJ.cT<|aJ.bY<|W.ca [1,2,6,21] (dF q<|ay (O.add .bs .cW)<|aC.ca [1,2,6,323] q<|aC.bS) ?_;exact sm h ▸ aJ.gt
    ·exact W.hA<|aJ.hy<|sm h ▸ aJ.t1
   refine aJ.hs<|aJ.bY<|W.c7 [1,2,6,22] ?_;refine W.b4<|W.c7 [1,2,6,22,23] ?_;refine W.cT<|aW h λk' ai h=>W.im (bo.aD.aX,57346,3) (λ(lZ:List Tok × Int × Int)=>[(6,.obj [aq bP lZ.1,aq bz j7,aq cw bo.aD.a1,ax bo.aD.b9,ax bo.aD.cg,aq cn bo.b_,aq bz bo.cp,aq cL bo.bX,ae bo.cI,ae bo.c_,ax bo.c8,ae bo.b',ae bo.bQ]),(22,ae lZ.2.1),(23,ae lZ.2.2)]) [1,2,6,22,23] 18 (λ(k':List Tok)=>[(6,.obj [aq bP k',aq bz j7,aq cw bo.aD.a1,ax bo.aD.b9,ax bo.aD.cg,aq cn bo.b_,aq bz bo.cp,aq cL bo.bX,ae bo.cI,ae bo.c_,ax bo.c8,ae bo.b',ae bo.bQ])]) [1,2,6] ai (λlZ o h=>?_) ?_
   ·clear ai;refine W.b4<|W.c7 [1,2,6,22,23,346] ?_;refine W.cd h q (λVd h=>?_) (λVd h=>?_)
    ·refine W.dO<|aJ.bY<|W.b4<|aW h λBW aj h=>W.gK [1,2,6,22,23] [(6,.obj [aq bP BW.1,aq bz j7,aq cw bo.aD.a1,ax bo.aD.b9,ax bo.aD.cg,aq cn bo.b_,aq bz bo.cp,aq cL bo.bX,ae bo.cI,ae bo.c_,ax bo.c8,ae bo.b',ae bo.bQ]),(22,ae BW.2)] ?_ ?_
     ·clear h; have h:=aj; clear aj;refine W.cT<|aW h λKt NH h=>W.dt [1,2,6,22,23,356] (ay (O.a8 .z4)<|ay (O.eC .z5)<|ay O.y2<|ay (O.ee (y:=.bl cn.z ⟨6,[5]⟩ bo.b_.length))<|dF q<|ay (O.iU (en:=cn) q .eh .bs xT NH q)<|ay (O.lT (en:=cn) (x':=bf Kt) q .z5 GU NH q q)<|aC.bS) ?_;refine aW h λBT aj h=>W.gK [1,2,6,22,23] [(6,.obj [aq bP BT.1,aq bz j7,aq cw bo.aD.a1,ax bo.aD.b9,ax bo.aD.cg,aq cn bo.b_,aq bz bo.cp,aq cL bo.bX,ae bo.cI,ae bo.c_,ax bo.c8,ae bo.b',ae bo.bQ]),(22,ae BT.2)] ?_ ?_
      ·clear h; have h:=aj; clear aj;refine W.cd h q (λUP h=>?_) (λUP h=>?_)
       ·refine aW h λsq IL h=>W.dt [1,2,6,22,23] (ay (O.a8 .z4)<|ay (O.eC .z5)<|ay O.y2<|ay O.y2<|ay (O.ee (y:=.bl bP.z ⟨6,[0]⟩ lZ.1.length))<|dF q<|dF q<|ay (O.iU (en:=bP) q .eh .bs Fy IL q)<|ay (O.mD (en:=bP) q .z5 Mg IL q q)<|aC.eE (bt.th (en:=bP) (y2:=(⟨sq.Name,sq.Lit,lZ.2.1,sq.Level,sq.e9,sq.Tag⟩:Tok)) [1,2,6,22,23] IL)<|bV q) ?_;refine W.ca [1,2,6,22,23] (dF q<|ay (O.add .bs .cW)<|aC.ca [1,2,6,23,367] q<|aC.bS) ?_;exact sm h ▸ aJ.eU
       ·exact W.dO<|sm h ▸ aJ.eU
      exact aJ.cT<|sm h ▸ aJ.eU
     refine aJ.bY<|W.ca [1,2,6,22,23] (dF q<|ay (O.add .bs .cW)<|aC.ca [1,2,6,22,348] q<|aC.bS) ?_;exact sm h ▸ aJ.gt
    ·exact W.hA<|aJ.hy<|sm h ▸ aJ.t1
   refine aJ.hs<|aJ.bY<|aW h λsC aj h=>W.td [1,2,6,24] [(24,bf sC)] ?_ ?_
   ·refine ay (O.a8 .z4)<|ay (O.eC .z5)<|ay O.y2<|ay O.y2<|ay (O.ee (y:=.bl bP.z ⟨6,[0]⟩ k'.length))<|ay (O.n_ .eh Fy)<|ay (O.gtr .bs .cW)<|ay (O.a8 (.lit q)) ?_;rcases jE aj with ⟨ua,aj⟩ | ⟨ua,aj⟩
    ·exact sm aj ▸ aC.bS
    ·refine cF ua (O.a8 .z4)<|cF ua (O.eC .z5)<|cF ua O.y2<|cF ua O.y2<|cF ua (O.ee (y:=.bl bz.z ⟨6,[1]⟩ j7.length))<|cF ua (O.n_ .eh xS)<|cF ua (O.gtr .bs .cW)<|ay (O.jl .bs ua .bs)<|ay (O.a8 (.lit q)) ?_;rcases jE aj with ⟨MT,aj⟩ | ⟨MT,aj⟩
     ·exact sm aj ▸ aC.bS
     ·exact sm aj ▸ (cF MT (O.a8 .z4)<|aC.bS)
   refine W.b4<|W.c7 [1,2,6,24,25] ?_;refine W.cT<|aW h λzZ ai h=>W.im (sC,0) (λ(te:Bool × Int)=>[(24,bf te.1),(25,ae te.2)]) [1,2,6,24,25] 20 (λ(zZ:Bool)=>[(24,bf zZ)]) [1,2,6,24] ai (λte o h=>?_) ?_
   ·clear ai;refine W.b4<|W.c7 [1,2,6,24,25,400] ?_;refine W.cd h q (λUR h=>?_) (λUR h=>?_)
    ·refine W.dO<|aJ.bY<|W.b4<|W.cT<|aW h λyH aj h=>W.rx [(1,.obj (hj.cells a0)),(2,.obj [.aU,.aU,.aU,ax bB,ax bB]),(6,.obj [aq bP k',aq bz j7,aq cw bo.aD.a1,ax bo.aD.b9,ax bo.aD.cg,aq cn bo.b_,aq bz bo.cp,aq cL bo.bX,ae bo.cI,ae bo.c_,ax bo.c8,ae bo.b',ae bo.bQ]),(24,bf yH),(25,ae te.2)] ?_ ?_
     ·refine dF q<|ay (O.a8 (.lit q)) ?_;rcases jE aj with ⟨jZ,aj⟩ | ⟨jZ,aj⟩
      ·exact sm aj ▸ (iL jZ<|iL jZ<|iL jZ<|iL jZ<|iL jZ<|iL jZ<|iL jZ<|iL jZ<|iL jZ<|iL jZ<|iL jZ<|ay (O.ki .bs jZ .cW)<|aC.ca [1,2,6,25,416] q<|aC.bS)
      ·refine cF jZ (O.a8 .z4)<|cF jZ (O.eC .z5)<|cF jZ O.y2<|cF jZ O.y2<|cF jZ (O.ee (y:=.bl cw.z ⟨6,[2]⟩ bo.aD.a1.length))<|cF jZ (O.a8 (.lit q)) ?_;exact aW aj λKu IM aj=>sm aj ▸ (cF jZ (O.iU (en:=cw) q .eh .bs Fz IM q)<|cF jZ (O.mD (en:=cw) q .z5 Md IM q q)<|cF jZ (O.lT (en:=cw) (x':=ao az Ku.e1) q .z5 GS IM q q)<|cF jZ O.rn<|cF jZ (O.gtr .bs .cW)<|ay (O.jl .bs jZ .bs)<|aC.ca [1,2,6,25,416] q<|aC.bS)
     refine aJ.cT<|aJ.bY<|W.ca [1,2,6,24,25] (dF q<|ay (O.add .bs .cW)<|aC.ca [1,2,6,24,402] q<|aC.bS) ?_;exact sm h ▸ aJ.gt
    ·exact W.hA<|aJ.hy<|sm h ▸ aJ.t1
   refine aJ.hs<|aJ.bY<|W.b4<|W.c7 [1,2,6,417] ?_;refine W.cd h q (λUS h=>?_) (λUS h=>?_)
   ·refine W.dt [2,3,4,5] (ay (O.eR (cs:=[.aU,.aU,.aU,ax bB,ax bB]) J9 rp q q q)<|aC.eE (bt.ho [2])<|aC.bS) ?_;refine W.dN (G1:=[(2,.obj [ao bP ([]:List Tok),ao bz ([]:List e4),ao cw ([]:List Prod),ax bB,ax bB]),(3,_),(4,_),(5,_)]) [2] (.z q q (fm.obj (.z (.z (.z (.f (.f .nil)))))) (.n q q (.n q q (.n q q .nil)))) ?_;exact W.rt<|aJ.kH<|sm h ▸ jQ (.c (ys0:=[ao bP ([]:List Tok),ao bz ([]:List e4),ao cw ([]:List Prod),ax bB,ax bB]) q hE q q q (.f q (.f q (.f q (.f q (.f q .nil))))) (.f q q (.f q q (.f q q .nil))))
   ·refine W.dO<|aJ.bY<|W.b4<|W.rd [[],[],[],[2],[],[4],[0,2,3],[0,2,3,6],[0,2,3,6,7],[0,2,3,6,7,8],aN 0 10 [],aN 0 11 [],aN 0 12 [],aN 0 13 []] [(2,_),(6,_)] gC (by kernel_rfl) (aM 0 (O.a8 .z4)<|aM 1 (O.a8 .z4)<|aM 2 O.bT<|aM 3 O.eW<|aM 4 O.bT<|aM 5 O.eW<|aM 6 (O.eC .z5)<|aM 7 O.y2<|aM 8 O.y2<|bH.eR 9 (G2:=[(1,.obj (hj.cells a0)),(2,.obj [.aU,.aU,.aU,ax bB,ax bB]),(6,.obj [aq bP k',aq bz j7,aq cw bo.aD.a1,ax a0.b9,ax bo.aD.cg,aq cn bo.b_,aq bz bo.cp,aq cL bo.bX,ae bo.cI,ae bo.c_,ax bo.c8,ae bo.b',ae bo.bQ])]) (U:=[(5,424,some (ax a0.cg)),(4,423,some (.ptr ⟨1,[]⟩ 3)),(1,420,some (.ptr ⟨6,[]⟩ 0))]) (iv.v (bt.kd (bt.j4 (G2:=[(1,.obj (hj.cells a0)),(2,.obj [.aU,.aU,.aU,ax bB,ax bB]),(6,.obj [aq bP k',aq bz j7,aq cw bo.aD.a1,ax a0.b9,ax bo.aD.cg,aq cn bo.b_,aq bz bo.cp,aq cL bo.bX,ae bo.cI,ae bo.c_,ax bo.c8,ae bo.b',ae bo.bQ])]) (cs2:=[aq bP k',aq bz j7,aq cw bo.aD.a1,ax a0.b9,ax bo.aD.cg,aq cn bo.b_,aq bz bo.cp,aq cL bo.bX,ae bo.cI,ae bo.c_,ax bo.c8,ae bo.b',ae bo.bQ]) q q q (.ptr q) (.lit q) q PX q q q q (.n q q (.n q q (.b q .nil)))))) q q (by kernel_rfl) q q q (.c (.inr (.inl ⟨_,q⟩)) q q q q q (Gd.wanted .none) (O.pC q .z5 wE q) (.c (.inr (.inr (.inr (.inl ⟨1,_,_,q,q,iC q,by simp,_,q,iC q⟩)))) q q q q q (Gd.wanted .none) (O.nb q .z4 TB q) (.c (.inr (.inr (.inr (.inl ⟨6,_,_,q,q,iC q,by simp,_,q,iC q⟩)))) q q q q q (Gd.wanted .none) (O.a8 .z4) .nil))) (by kernel_rfl)<|aM 10 (O.eC .z5)<|aM 11 O.y2<|aM 12 O.y2<|bH.kb 13 (bt.o0 [2,6])<|bH.fin q q q (sk q q)) ?_;refine aJ.bY<|W.b4<|W.dN (G1:=[(2,_),(6,.obj [ao bP k',ao bz j7,ao cw bo.aD.a1,ax a0.b9,ax a0.cg,aq cn bo.b_,aq bz bo.cp,aq cL bo.bX,ae bo.cI,ae bo.c_,ax bo.c8,ae bo.b',ae bo.bQ])]) [6] (.n q q (.z q q (fm.obj (.z (.z (.z (.f (.f (.f (.f (.f (.f (.f (.f (.f (.f .nil)))))))))))))) .nil)) ?_;refine W.ca [2,3,4,5] (ay (O.a8 .z4)<|ay (O.eC .z5)<|ay O.y2<|ay (O.fh (cs':=[ao bP k',ao bz j7,ao cw bo.aD.a1,ax a0.b9,ax a0.cg]) q .z5 hE q q)<|aC.eE (bt.ho [2])<|aC.bS) ?_;exact aJ.bY<|W.rt<|sm h ▸ jQ (.c (ys0:=[ao bP k',ao bz j7,ao cw bo.aD.a1,ax a0.b9,ax a0.cg]) q hE q q q (.f q (.f q (.f q (.f q (.f q .nil))))) (.f q q (.f q q (.f q q .nil))))
instance abR {a0:Source}{r:bq × Int × Int × ByteArray}:bU prog 81 (oc a0=some r) [.agg (hj.cells a0)] [none] (.bJ [.agg (cS.cells r.1),ae r.2.1,ae r.2.2.1,ax r.2.2.2]):=⟨S1 a0 _⟩
instance abF {a0:Source}{r:bq × Bool}:bU prog 66 (sc a0=some r) [.agg (hj.cells a0)] [none] (.bJ [.agg (cS.cells r.1),bf r.2]):=⟨λh=>by unfold sc at h; exact b7.bS (N:=⟨18,[]⟩) [1,2,3,4,5] .e func66 rfl rfl rfl rfl rfl eo⟩
instance abE {a0:(List Int)}{aB:Int}{r:(List Int)}:bU prog 61 (pN a0 aB=some r) [ao az a0,ae aB] [none,none] (ao az r):=⟨λh=>by unfold pN at h; exact b7.bS (N:=⟨47,[]⟩) [0,1,4,5,6,19,32] (.ey (λ(s1:Int)=>[(5,ae s1)]) [0,1,5] 0 (λ(x2:Int)=>[(5,ae x2)]) [0,1,5] (.eK 2 [0,1,5,19] (λ(m_:Bool)=>[(19,bf m_)]) .e) (.eK 4 [0,1,5,32] (λ(hW:Bool)=>[(32,bf hW)]) (.b .e (.rd 7 [[],[],[1],[0,1,2],[],[],[4,5],aN 0 7 [],aN 0 8 []] .e)))) func61 rfl rfl rfl rfl rfl eo⟩
instance abH {a0:(List Int)}{aB:Int}{r:Bool}:bU prog 68 (uJ a0 aB=some r) [ao az a0,ae aB] [none,none] (bf r):=⟨λh=>by unfold uJ at h; exact b7.bS (N:=⟨18,[]⟩) [0,1,4,5,9,17] (.gf (λ(s1:Int)=>[(5,ae s1)]) [0,1,5] 0 (λ(aZ:Unit)=>[]) [] (λ(bR:Bool)=>[(4,bf bR)]) [4] .e .e .e) func68 rfl rfl rfl rfl rfl eo⟩
instance abS {a0:bq}{r:(List Int)}:bU prog 82 (vT a0=some r) [.agg (cS.cells a0)] [none] (ao az r):=⟨λh=>by unfold vT at h; exact b7.bS (N:=⟨30,[]⟩) [1,2,3,4,5,10,21] (.ey (λ(s1:List Int × Int)=>[(3,aq az s1.1),(4,ae s1.2)]) [1,3,4] 0 (λ(x2:List Int)=>[(3,aq az x2)]) [1,3] .e (.ey (λ(da:List Int × Int)=>[(3,aq az da.1),(5,ae da.2)]) [1,3,5] 2 (λ(bW:List Int)=>[(3,aq az bW)]) [3] .e .e)) func82 rfl rfl rfl rfl rfl eo⟩
instance aaV {a0:bq}{aB:Item}{r:Bool}:bU prog 108 (zs a0 aB=some r) [.agg (cS.cells a0),.agg [ae aB.Prod,ae aB.e3]] [none,none] (bf r):=⟨λh=>by unfold zs at h; exact b7.bS (N:=⟨34,[]⟩) [2,3,4] (.ca 1 [[],[0],[0,1],[0,1,2],[0,1,2,3],aN 0 5 [],[0,1,2,3],[0,1,2,3,6],[0,1,2,3,6,7],aN 0 9 [],aN 0 10 [],aN 0 11 [],aN 0 12 [],aN 0 13 [],aN 0 14 [],aN 0 15 [],aN 0 16 [],aN 0 17 [],aN 0 18 [],aN 0 17 [],aN 0 17 [19],aN 0 17 [],aN 0 17 [21],aN 0 17 [19,20,21,22],aN 0 17 (aN 19 5 []),aN 0 17 (aN 19 6 []),aN 0 17 (aN 19 7 []),aN 0 27 [],aN 0 28 [],aN 0 29 []] [4] (λ(oC:Bool)=>[(4,bf oC)]) .e) func108 rfl rfl rfl rfl rfl eo⟩
instance abU {a0:bq}{aB:Item}{r:Int}:bU prog 84 (uL a0 aB=some r) [.agg (cS.cells a0),.agg [ae aB.Prod,ae aB.e3]] [none,none] (ae r):=⟨λh=>by unfold uL at h; exact b7.bS (N:=⟨33,[]⟩) [2,3,4,21] (.ca 1 [[],[],[0,1],[0,1,2],[0,1,2,3],aN 0 5 [],aN 0 6 [],aN 0 5 [],aN 0 5 [7],aN 0 5 [],aN 0 5 [9],aN 0 5 [7,8,9,10],aN 0 5 (aN 7 5 []),aN 0 5 (aN 7 6 []),aN 0 5 (aN 7 7 []),aN 0 15 [],aN 0 16 []] [2,3,21] (λ(c4:Bool)=>[(21,bf c4)]) (.b .e (.rd 3 [[],[0],[],[2],[0,1,2,3],aN 0 5 [],aN 0 6 [],[],[7],aN 0 9 [],aN 0 10 [],aN 0 11 []] .e))) func84 rfl rfl rfl rfl rfl eo⟩
instance aaU {a0:(List Item)}{aB:Item}{r:(List Item)}:bU prog 107 (xw a0 aB=some r) [ao fv a0,.agg [ae aB.Prod,ae aB.e3]] [none,none] (ao fv r):=⟨λh=>by unfold xw at h; exact b7.bS (N:=⟨71,[]⟩) [0,3,4,5,6,43,56] (.ey (λ(s1:Int)=>[(5,ae s1)]) [0,3,5] 0 (λ(x2:Int)=>[(5,ae x2)]) [0,3,5] (.ca 2 [[],[0],[0,1],[0,1,2],[0,1,2],[0,1,2,4],aN 0 6 [],aN 0 7 [],aN 0 8 [],[0,1,2],[0,1,2,9],aN 0 11 [],aN 0 12 [],aN 0 13 [],aN 0 13 [],aN 0 13 [14],aN 0 16 [],aN 0 17 [],aN 0 18 [],aN 0 13 [],aN 0 13 [19],aN 0 21 [],aN 0 22 [],aN 0 23 [],aN 0 23 [],aN 0 23 [24],aN 0 26 [],aN 0 27 [],aN 0 28 [],aN 0 23 [],aN 0 23 [29],aN 0 31 [],aN 0 32 [],aN 0 33 [],aN 0 34 []] [0,3,5,43] (λ(hW:Bool)=>[(43,bf hW)]) .e) (.ca 4 [[],[0],[0,1],[0,1,2],[0,1,2],[0,1,2,4],aN 0 6 [],aN 0 7 [],[0,1,2],aN 0 9 [],aN 0 10 []] [0,3,5,56] (λ(wB:Bool)=>[(56,bf wB)]) (.b .e (.rd 7 [[],[],[1],[0,1,2],[],[],[4,5],aN 0 7 [],aN 0 8 []] .e)))) func107 rfl rfl rfl rfl rfl eo⟩
instance aaT {a0:bq}{aB:(List Item)}{r:(List Item)}:bU prog 106 (Ck a0 aB=some r) [.agg (cS.cells a0),ao fv aB] [none,none] (ao fv r):=⟨λh=>by unfold Ck at h; exact b7.bS (N:=⟨26,[]⟩) [1,2,4,5,6,10,18] (.ey (λ(s1:List Item × Int)=>[(5,ao fv s1.1),(6,ae s1.2)]) [1,2,5,6] 0 (λ(x2:List Item)=>[(5,ao fv x2)]) [5] (.b (.cN [1,2,5,6] (λ(qo:List Item)=>[(5,ao fv qo)]) (.rd 5 [[],[],[],[1,2],[1,2,3],aN 0 5 []] (.cN [1,2,5,6] (λ(fg:List Item)=>[(5,ao fv fg)]) .e .e)) .e) .e) .e) func106 rfl rfl rfl rfl rfl eo⟩
instance abT {a0:bq}{aB:(List Item)}{r:(List Item)}:bU prog 83 (uK a0 aB=some r) [.agg (cS.cells a0),ao fv aB] [none,none] (ao fv r):=⟨λh=>by unfold uK at h; exact b7.bS (N:=⟨59,[]⟩) [1,2,4,5,6,7,8,9,16,21,38,49,57] (.ey (λ(s2:List Item × Int)=>[(5,ao fv s2.1),(6,ae s2.2)]) [2,5,6] 0 (λ(aZ:List Item)=>[(5,ao fv aZ)]) [5] (.b (.cN [2,5,6] (λ(kC:List Item × Int)=>[(5,ao fv kC.1),(6,ae kC.2)]) (.p (.cN [2,5,6] (λ(oT:List Item)=>[(5,ao fv oT)]) (.ey (λ(eV:List Item × Int)=>[(5,ao fv eV.1),(7,ae eV.2)]) [2,5,6,7] 2 (λ(ed:List Item)=>[(5,ao fv ed)]) [2,5,6] (.b (.rd 8 [[],[],[],[1,2],[1,2,3],aN 0 5 [],aN 0 6 []] (.ey (λ(lE:List Item × Int)=>[(5,ao fv lE.1),(9,ae lE.2)]) [2,5,6,7,8,9] 4 (λ(dC:List Item)=>[(5,ao fv dC)]) [2,5,6,7] (.eK 10 [2,5,6,7,8,9,38] (λ(mZ:Bool)=>[(38,bf mZ)]) (.b (.cN [2,5,6,7,8,9] (λ(xb:List Item)=>[(5,ao fv xb)]) (.p (.cN [2,5,6,7,8,9] (λ(mj:List Item)=>[(5,ao fv mj)]) .e .e)) .e) .e)) .e)) .e) .e) .e)) .e) .e) .e) func83 rfl rfl rfl rfl rfl eo⟩
instance abV {a0:bq}{aB:(List Item)}{a2:Int}{r:(List Item)}:bU prog 85 (xE a0 aB a2=some r) [.agg (cS.cells a0),ao fv aB,ae a2] [none,none,none] (ao fv r):=⟨λh=>by unfold xE at h; exact b7.bS (N:=⟨48,[]⟩) [1,2,3,6,7,8,9,10,17,32] (.ey (λ(s2:List Item × Int)=>[(7,ao fv s2.1),(9,ae s2.2)]) [2,3,7,8,9] 0 (λ(aZ:List Item)=>[(7,ao fv aZ)]) [7] (.b (.cN [2,3,7,8,9] (λ(kC:List Item)=>[(7,ao fv kC)]) (.rd 6 [[],[],[],[1,2],[1,2,3],aN 0 5 [],aN 0 6 []] (.eK 7 [2,3,7,8,9,32] (λ(hW:Bool)=>[(32,bf hW)]) (.cN [2,3,7,8,9] (λ(iW:List Item)=>[(7,ao fv iW)]) (.b (.rd 8 [[],[],[],[1,2],[1,2,3],[1,2,3,4],[],[],[6,7],[6,7,8],[6,7,8,9],aN 6 5 [],aN 1 11 [],aN 0 13 [],aN 0 14 []] .e) .e) .e))) .e) .e) .e) func85 rfl rfl rfl rfl rfl eo⟩
instance aaW {a0:(List Item)}{aB:(List Item)}{r:Bool}:bU prog 109 (Cl a0 aB=some r) [ao fv a0,ao fv aB] [none,none] (bf r):=⟨λh=>by unfold Cl at h; exact b7.bS (N:=⟨26,[]⟩) [0,1,4,5,10,14,25] (.b .e (.gf (λ(s2:Int)=>[(5,ae s2)]) [0,1,5] 0 (λ(bR:Unit)=>[]) [] (λ(bM:Bool)=>[(4,bf bM)]) [4] (.b (.rd 6 [[],[],[0,1],[0,1,2],[],[],[4,5],[4,5,6],aN 0 8 []] .e) .e) .e .e)) func109 rfl rfl rfl rfl rfl eo⟩
instance abW {a0:(List State)}{aB:(List Item)}{r:Int}:bU prog 86 (CD a0 aB=some r) [ao gq a0,ao fv aB] [none,none] (ae r):=⟨λh=>by unfold CD at h; exact b7.bS (N:=⟨20,[]⟩) [0,1,4,5,9,18] (.gf (λ(s1:Int)=>[(5,ae s1)]) [0,1,5] 0 (λ(aZ:Unit)=>[]) [] (λ(bR:Int)=>[(4,ae bR)]) [4] .e .e .e) func86 rfl rfl rfl rfl rfl eo⟩
theorem SY (a0:bq) (r:(List State) × Int) (h:sd a0=some r):b7 prog 67 [.agg (cS.cells a0)] [none] (.bJ [ao gq r.1,ae r.2]):=by
 unfold sd at h;refine b7.go (N:=⟨106,[]⟩) func67 q q q q (W.fin ?_);refine W.st [(0,.agg (cS.cells a0))] ?_;refine W.dt [1] (ay (O.box (.eA q q) q)<|aC.bS) ?_;refine W.dt [1,4] (ay (O.eR (cs:=[ae 0,ae 0]) Zg aav q q q)<|ay (O.yF (ys:=[.agg [ae 0,ae 0]]) (cs:=[ae 0,ae 0]) Zs q q q q q aay q q)<|ay (O.eR (cs:=[.bl 2 ⟨15,[]⟩ 1,.aU]) Po Qr q q q)<|ay (O.yF (ys:=[.agg [.bl 2 ⟨15,[]⟩ 1,.aU]]) (cs:=[.bl 2 ⟨15,[]⟩ 1,.aU]) uU q q q q q Qx q q)<|aC.wI (G2:=[(1,.obj (cS.cells a0))]) q (bt.Aq (y':=aq gI [(⟨[(⟨0,0⟩:Item)],([]:List Move)⟩:State)]) q q (.own q) (.l q q (.l q q (.f (.f .nil)) (.f .nil)) .nil) (fm.own (.z (hv:=iM.J0 (en:=fv) (L:=[(⟨0,0⟩:Item)]) (cs':=[ae 0,ae 0]) q q) (.o .nil))) (.n q .nil) q q)<|bV q) ?_;refine aW h λbc kg h=>W.dt [1,4,5] (ay (O.fh (cs':=cS.cells a0) q .z4 hE q q)<|hD (dd.gr (.dx (.eA q q) .nil) (bU.go kg))<|aC.bS) ?_;refine W.b4<|W.c7 [1,4,5,6] ?_;refine W.cT<|aW h λaZ ai h=>W.gf ([(⟨[(⟨0,0⟩:Item)],([]:List Move)⟩:State)],0) (λ(s2:List State × Int)=>[(4,aq gI s2.1),(6,ae s2.2)]) [1,4,5,6] 0 (λ(bR:List State)=>[(4,aq gI bR)]) [4] (λ(bM:List State × Int)=>[(2,ao gq bM.1),(3,ae bM.2)]) [2,3] ai (λs2 o h=>?_) (λbR j=>?_) (λbM j=>?_)
 ·clear ai;refine W.b4<|W.c7 [1,4,5,6,23] ?_;refine W.cd h q (λue h=>?_) (λue h=>?_)
  ·refine W.dO<|aJ.bY<|W.b4<|W.cT<|W.b4<|aW h λbW r0 h=>aW h λcm BP h=>W.rd [[],[],[],[1,2],[1,2,3],[1,2,3,4],aN 0 6 [],aN 0 7 []] [(1,_),(4,_),(5,_),(6,_),(7,_)] gC (by kernel_rfl) (aM 0 (O.fh (cs':=cS.cells a0) q .z4 hE q q)<|aM 1 (O.a8 .z3)<|aM 2 (O.a8 (.lit q))<|aM 3 (O.iU (en:=gI) q .eh .bs uU r0 q)<|aM 4 (O.mD (en:=gI) q .z5 Mf r0 q q)<|aM 5 (O.lT (en:=gI) (x':=ao fv bW.Kernel) q .z5 LU r0 q q)<|ot 6 (dd.gr (.dx (.eA q q) (.dx (.bk q) .nil)) (bU.go BP))<|aM 7 (O.dG .z2)<|bH.fin q q q (sl q q q q q)) ?_;refine aJ.bY<|W.c7 [1,4,5,6,7,8] ?_;refine W.b4<|W.c7 [1,4,5,6,7,8,9] ?_;refine W.cT<|aW h λbG ai h=>W.im (([]:List Int),0) (λ(fE:List Int × Int)=>[(8,ao az fE.1),(9,ae fE.2)]) [1,4,5,6,7,8,9] 2 (λ(bG:List Int)=>[(8,ao az bG)]) [1,4,5,6,8] ai (λfE o h=>?_) ?_
   ·clear ai;refine W.b4<|W.c7 [1,4,5,6,7,8,9,36] ?_;refine W.cd h q (λwT h=>?_) (λwT h=>?_)
    ·refine W.dO<|aJ.bY<|W.b4<|aW h λik aj h=>W.gK [1,4,5,6,7,8,9] [(8,ao az ik)] ?_ ?_
     ·clear h; have h:=aj; clear aj;refine W.cT<|W.b4<|aW h λd' sY h=>aW h λdC rX h=>W.rd [[],[],[],[1,2],[1,2,3],aN 0 5 [],aN 0 6 []] [(1,_),(4,_),(5,_),(6,_),(7,_),(8,_),(9,_),(10,_)] gC (by kernel_rfl) (aM 0 (O.fh (cs':=cS.cells a0) q .z4 hE q q)<|aM 1 (O.a8 .z2)<|aM 2 (O.a8 (.lit q))<|aM 3 (O.h4 sY)<|aM 4 (O.s7 (cs':=[ae d'.Prod,ae d'.e3]) .oo RL q q)<|ot 5 (dd.gr (.dx (.eA q q) (.dx (.eA q q) .nil)) (bU.go rX))<|aM 6 (O.dG (.lit q))<|bH.fin q q q (P5 q q q q q q q q)) ?_;refine aJ.bY<|W.c7 [1,4,5,6,7,8,9,10,46] ?_;refine aW h λqn aj h=>W.gK [1,4,5,6,7,8,9] [(8,ao az qn)] ?_ ?_
      ·clear h; have h:=aj; clear aj;refine W.cd h q (λoI h=>?_) (λoI h=>?_)
       ·refine aW h λfY oQ h=>W.ca [1,4,5,6,7,8,9] (ay (O.a8 .z2)<|dF q<|hD (dd.gr (.dx (.bk q) (.dx (.lit q) .nil)) (bU.go oQ))<|aC.ca [1,4,5,6,7,9,49] q<|aC.bS) ?_;exact sm h ▸ aJ.eU
       ·exact W.dO<|sm h ▸ aJ.eU
      exact aJ.cT<|sm h ▸ aJ.eU
     refine aJ.bY<|W.ca [1,4,5,6,7,8,9] (dF q<|ay (O.add .bs .cW)<|aC.ca [1,4,5,6,7,8,38] q<|aC.bS) ?_;exact sm h ▸ aJ.gt
    ·exact W.hA<|aJ.hy<|sm h ▸ aJ.t1
   refine aJ.hs<|aJ.bY<|W.c7 [1,4,5,6,8,11] ?_;refine W.cT<|aW h λfF ai h=>W.gf (s2.1,0) (λ(dM:List State × Int)=>[(4,aq gI dM.1),(11,ae dM.2)]) [1,4,5,6,8,11] 4 (λ(fZ:List State)=>[(4,aq gI fZ)]) [1,4,5,6] (λ(fS:List State × Int)=>[(2,ao gq fS.1),(3,ae fS.2)]) [2,3] ai (λdM o h=>?_) (λfZ j=>?_) (λfS j=>?_)
   ·clear ai;refine W.b4<|W.c7 [1,4,5,6,8,11,53] ?_;refine W.cd h q (λmb h=>?_) (λmb h=>?_)
    ·refine W.dO<|aJ.bY<|W.b4<|W.cT<|W.b4<|aW h λfO w6 h=>aW h λjN ux h=>W.dt [1,4,5,6,8,11,62] (ay (O.a8 .z2)<|ay (O.a8 .z2)<|dF q<|ay (O.h4 w6)<|ay (O.jB (x:=ae fO))<|hD (dd.gr (.dx (.bk q) (.dx (.lit q) .nil)) (bU.go ux))<|aC.bS) ?_;refine W.cd h q (λub h=>?_) (λub h=>?_)
     ·refine W.hA<|aJ.hy<|aJ.hs<|aJ.bY<|W.ca [1,4,5,6,8,11] (dF q<|ay (O.add .bs .cW)<|aC.ca [1,4,5,6,8,55] q<|aC.bS) ?_;exact sm h ▸ aJ.gt
     ·refine W.dO<|aJ.bY<|W.b4<|aW h λfT BM h=>aW h λcD IP h=>aW h λer py h=>W.rd [[],[],[],[1,2],[1,2,3],[1,2,3,4],[],[],[6,7],[6,7,8],aN 0 10 [],aN 0 11 []] [(1,_),(4,_),(5,_),(6,_),(8,_),(11,_),(12,_)] gC (by kernel_rfl) (aM 0 (O.fh (cs':=cS.cells a0) q .z4 hE q q)<|aM 1 (O.a8 .z3)<|aM 2 (O.a8 (.lit q))<|aM 3 (O.iU (en:=gI) q .eh .bs uU BM q)<|aM 4 (O.mD (en:=gI) q .z5 Mf BM q q)<|aM 5 (O.lT (en:=gI) (x':=ao fv fT.Kernel) q .z5 LU BM q q)<|aM 6 (O.a8 .z2)<|aM 7 (O.a8 (.lit q))<|aM 8 (O.h4 IP)<|aM 9 (O.jB (x:=ae cD))<|ot 10 (dd.gr (.dx (.eA q q) (.dx (.bk q) (.dx (.lit q) .nil))) (bU.go py))<|aM 11 (O.dG .z2)<|bH.fin q q q (pT q q q q q q q)) ?_;refine aJ.bY<|aW h λir uy h=>W.dt [1,4,5,6,8,11,12,13] (ay (O.a8 .z3)<|ay (O.a8 .z2)<|hD (dd.sn (ys:=[.bl gI.z ⟨4,[]⟩ dM.1.length,ao fv er]) q (.c (.row q) (.s .nil)) (bU.go uy))<|aC.bS) ?_;refine W.b4<|W.c7 [1,4,5,6,8,11,12,13,78] ?_;refine W.cd h q (λHR h=>?_) (λHR h=>?_)
      ·refine W.dt [1,4,5,6,8,11,12,13] (ay (O.a8 .z3)<|ay (O.n_ .eh uU)<|aC.ca [1,4,5,6,8,11,12,80] q<|aC.bS) ?_;refine W.b4<|W.c7 [1,4,5,6,8,11,12,13,82] ?_;refine W.cd h q (λHS h=>?_) (λHS h=>?_)
       ·refine W.c7 [2,3] ?_;refine W.dN (G1:=[(2,ao gq ([]:List State)),(3,_)]) [2] (.z q q .j9 (.n q q .nil)) ?_;exact W.rt<|aJ.kH<|aJ.kH<|aJ.qS<|aJ.kH<|sm h ▸ aJ.j2 (sk q q)
       ·refine W.dO<|aJ.bY<|aW h λkJ sZ h=>W.ca [1,4,5,6,8,11,13] (ay (O.a8 .z3)<|ay (O.a8 .z2)<|ay (O.eR (cs:=[ao fv er,.aU]) Po Qr q q q)<|ay (O.yF (ys:=[.agg [ao fv er,.aU]]) (cs:=[ao fv er,.aU]) uU q q q q q Qx q q)<|ay (O.Rv (en:=gI) (M:=[(⟨er,([]:List Move)⟩:State)]) (r:=kJ) .eh q .z3 q q q q Rt q sZ)<|aC.wI (G2:=[(1,.obj (cS.cells a0)),(5,ao az bc),(6,ae s2.2),(8,ao az bG),(11,ae dM.2),(13,ae (dM.1.length:Int))]) q (bt.Ru (M:=[(⟨er,([]:List Move)⟩:State)]) q q (.bC q) q q q (.f (.f .nil)) (.f (.o .nil)) q q (tl q q q q q q) q q)<|bV q) ?_;refine aJ.bY<|aW h λh3 rY h=>aW h λfG BN h=>aW h λkl w7 h=>W.rd [[],[],[],[],[2,3],[2,3,4],[2,3,4,5],[],[],[7,8],[7,8,9],[],aN 7 5 [],aN 7 6 [],aN 2 12 [],aN 0 15 [],aN 0 16 [],aN 0 17 []] [(1,_),(4,_),(5,_),(6,_),(8,_),(11,_)] gC (by kernel_rfl) (aM 0 (O.a8 .z3)<|aM 1 (O.a8 (.lit q))<|aM 2 (O.a8 .z3)<|aM 3 (O.a8 (.lit q))<|aM 4 (O.iU (en:=gI) q .eh .bs uU rY q)<|aM 5 (O.mD (en:=gI) q .z5 DU rY q q)<|aM 6 (O.lT (en:=gI) (x':=.bl ln.z ⟨4,[s2.2.toNat * gI.z+1]⟩ h3.eD.length) q .z5 LV rY q q)<|aM 7 (O.a8 .z2)<|aM 8 (O.a8 (.lit q))<|aM 9 (O.h4 BN)<|aM 10 (O.jB (x:=ae fG))<|aM 11 (O.a8 (.lit q))<|aM 12 (O.eR (cs:=[ae fG,ae (dM.1.length:Int)]) Pq Qt q q q)<|bH.gy 13 (x:=ao ln [(⟨fG,(dM.1.length:Int)⟩:Move)]) (O.bn (ys:=[.agg [ae fG,ae (dM.1.length:Int)]]) ln [(⟨fG,(dM.1.length:Int)⟩:Move)] PG q q q q q q Qz q q) q q q q .none<|aM 14 (O.ap (en:=ln) (r:=kl) .eh (Ax (r:=4) (path:=[]) (o:=1) (en:=gI) q rY q) .z2 .i Lg q w7)<|aM 15 (O.iU (en:=gI) q .eh .bs uU rY q)<|aM 16 (O.mD (en:=gI) q .z5 DU rY q q)<|bH.kb 17 (G2:=[(1,.obj (cS.cells a0)),(4,aq gI ((dM.1++[(⟨er,([]:List Move)⟩:State)]).set s2.2.toNat (⟨h3.Kernel,h3.eD++[(⟨fG,(dM.1.length:Int)⟩:Move)]⟩:State))),(5,ao az bc),(6,ae s2.2),(8,ao az bG),(11,ae dM.2)]) (bt.PR (en:=gI) (en2:=ln) (M:=[(⟨fG,(dM.1.length:Int)⟩:Move)]) (y2:=(⟨h3.Kernel,h3.eD++[(⟨fG,(dM.1.length:Int)⟩:Move)]⟩:State)) (x2:=aq gI ((dM.1++[(⟨er,([]:List Move)⟩:State)]).set s2.2.toNat (⟨h3.Kernel,h3.eD++[(⟨fG,(dM.1.length:Int)⟩:Move)]⟩:State))) (y0:=.own gI.z (dM.1++[(⟨er,([]:List Move)⟩:State)]).length ((bp gI (dM.1++[(⟨er,([]:List Move)⟩:State)])).set (s2.2.toNat * gI.z+1) .dead)) q q (.ptr q) (.bC q) q q rY q q .jz .iq q q PU q q q q q q (.n q q (.b q (.n q q (.n q q (.n q q (.n q q .nil)))))))<|bH.fin q q q (tl q q q q q q)) ?_;refine aJ.cT<|aJ.bY<|W.ca [1,4,5,6,8,11] (dF q<|ay (O.add .bs .cW)<|aC.ca [1,4,5,6,8,55] q<|aC.bS) ?_;exact sm h ▸ aJ.gt
      ·refine W.dO<|aJ.bY<|aW h λiZ pz h=>aW h λcQ IS h=>aW h λgW w8 h=>W.rd [[],[],[],[],[2,3],[2,3,4],[2,3,4,5],[],[],[7,8],[7,8,9],[],aN 7 5 [],aN 7 6 [],aN 2 12 [],aN 0 15 [],aN 0 16 [],aN 0 17 []] [(1,_),(4,_),(5,_),(6,_),(8,_),(11,_)] gC (by kernel_rfl) (aM 0 (O.a8 .z3)<|aM 1 (O.a8 (.lit q))<|aM 2 (O.a8 .z3)<|aM 3 (O.a8 (.lit q))<|aM 4 (O.iU (en:=gI) q .eh .bs uU pz q)<|aM 5 (O.mD (en:=gI) q .z5 DU pz q q)<|aM 6 (O.lT (en:=gI) (x':=.bl ln.z ⟨4,[s2.2.toNat * gI.z+1]⟩ iZ.eD.length) q .z5 LV pz q q)<|aM 7 (O.a8 .z2)<|aM 8 (O.a8 (.lit q))<|aM 9 (O.h4 IS)<|aM 10 (O.jB (x:=ae cQ))<|aM 11 (O.a8 (.lit q))<|aM 12 (O.eR (cs:=[ae cQ,ae ir]) Pq Qt q q q)<|bH.gy 13 (x:=ao ln [(⟨cQ,ir⟩:Move)]) (O.bn (ys:=[.agg [ae cQ,ae ir]]) ln [(⟨cQ,ir⟩:Move)] PG q q q q q q Qz q q) q q q q .none<|aM 14 (O.ap (en:=ln) (r:=gW) .eh (Ax (r:=4) (path:=[]) (o:=1) (en:=gI) q pz q) .z2 .i Lg q w8)<|aM 15 (O.iU (en:=gI) q .eh .bs uU pz q)<|aM 16 (O.mD (en:=gI) q .z5 DU pz q q)<|bH.kb 17 (G2:=[(1,.obj (cS.cells a0)),(4,aq gI (dM.1.set s2.2.toNat (⟨iZ.Kernel,iZ.eD++[(⟨cQ,ir⟩:Move)]⟩:State))),(5,ao az bc),(6,ae s2.2),(8,ao az bG),(11,ae dM.2)]) (bt.PR (en:=gI) (en2:=ln) (M:=[(⟨cQ,ir⟩:Move)]) (y2:=(⟨iZ.Kernel,iZ.eD++[(⟨cQ,ir⟩:Move)]⟩:State)) (x2:=aq gI (dM.1.set s2.2.toNat (⟨iZ.Kernel,iZ.eD++[(⟨cQ,ir⟩:Move)]⟩:State))) (y0:=.own gI.z dM.1.length ((bp gI dM.1).set (s2.2.toNat * gI.z+1) .dead)) q q (.ptr q) (.bC q) q q pz q q .jz .iq q q PU q q q q q q (.n q q (.b q (.n q q (.n q q (.n q q (.n q q .nil)))))))<|bH.fin q q q (tl q q q q q q)) ?_;refine aJ.cT<|aJ.bY<|W.ca [1,4,5,6,8,11] (dF q<|ay (O.add .bs .cW)<|aC.ca [1,4,5,6,8,55] q<|aC.bS) ?_;exact sm h ▸ aJ.gt
    ·exact W.hA<|aJ.hy<|sm h ▸ aJ.x2 (nF q q q q)
   ·subst j;refine aJ.hs<|aJ.cT<|aJ.bY<|W.ca [1,4,5,6] (dF q<|ay (O.add .bs .cW)<|aC.ca [1,4,5,25] q<|aC.bS) ?_;exact sm h ▸ aJ.gt
   ·subst j;exact aJ.qS<|aJ.qS<|aJ.kH<|sm h ▸ aJ.j2 (sk q q)
  ·exact W.hA<|aJ.hy<|sm h ▸ aJ.x2 (.n q .nil)
 ·subst j;refine aJ.hs<|aJ.bY<|W.dt [2,3] (ay (O.a8 .z3)<|aC.b0 (bt.lk [])<|aC.bS) ?_;refine W.dN (G1:=[(2,ao gq bR),(3,_)]) [2] (.z q q .j9 (.n q q .nil)) ?_;exact W.rt<|sm h ▸ jQ (.f q q (.f q q .nil))
 ·subst j;exact aJ.qS<|aJ.kH<|sm h ▸ jQ (.f q q (.f q q .nil))
end Go.Proofs
