/- Parts of the proof that the last text states. -/
import Derived.KernelRfl
import Derived.Test.YtejfkabkakfblaaGreatDoorRows
import Derived.Test.YtejfkabkakfblaaGreatDoorE5
namespace Go.Proofs
open Tryz
open Go Go.Own
set_option maxRecDepth 100000
set_option maxHeartbeats 4000000
set_option synthInstance.maxHeartbeats 1000000
set_option synthInstance.maxSize 10000
set_option linter.unusedVariables false
theorem ju:fe prog 22 3 1=true:=by kernel_rfl
theorem sr:j' prog 3=true:=by kernel_rfl
theorem AY:j' prog 4=true:=by kernel_rfl
theorem wJ:j' prog 9=true:=by kernel_rfl
theorem TR:iX prog 59 0 0 3=true:=by kernel_rfl
theorem ME:iX prog 59 2 2 57=true:=by kernel_rfl
theorem Tn:j' prog 57=true:=by kernel_rfl
theorem P6:fe prog 57 62 4=true:=by kernel_rfl
theorem yO:iH prog 62 4=true:=by kernel_rfl
theorem fY:prog.follows .mixedOrders=true:=by kernel_rfl
theorem C':fe prog 68 67 6=true:=by kernel_rfl
theorem R5:iH prog 67 6=true:=by kernel_rfl
theorem yf:(prog.info? 67).bind (·.zero)=some (.agg #[.string ⟨#[]⟩,.bool false,.int .i64 0,.int .i64 0,.string ⟨#[]⟩,.int .i64 0]):=by kernel_rfl
theorem Kz:fe prog 29 59 4=true:=by kernel_rfl
theorem LM:iH prog 59 4=true:=by kernel_rfl
theorem v_:fe prog 30 65 3=true:=by kernel_rfl
theorem R4:iH prog 65 3=true:=by kernel_rfl
theorem KZ:(prog.info? 65).bind (·.zero)=some (.agg #[.string ⟨#[]⟩,.slice none 0 0,.int .i64 0]):=by kernel_rfl
theorem A4:iX prog 65 1 1 63=true:=by kernel_rfl
theorem G_:j' prog 63=true:=by kernel_rfl
theorem FH:fe prog 63 70 6=true:=by kernel_rfl
theorem LN:iH prog 70 6=true:=by kernel_rfl
theorem TM:iX prog 210 4 8 3=true:=by kernel_rfl
theorem Ak:hC prog 3 1=true:=by kernel_rfl
theorem TN:iX prog 210 5 9 3=true:=by kernel_rfl
theorem TO:iX prog 210 6 10 9=true:=by kernel_rfl
theorem Qf:hC prog 9 1=true:=by kernel_rfl
theorem x7:fe prog 40 143 2=true:=by kernel_rfl
theorem FE:fe prog 39 94 6=true:=by kernel_rfl
theorem MF:iX prog 94 2 2 3=true:=by kernel_rfl
theorem K1:(prog.info? 94).bind (·.zero)=some (.agg #[.string ⟨#[]⟩,.bool false,.int .i64 0,.int .i64 0,.int .i64 0,.string ⟨#[]⟩]):=by kernel_rfl
theorem Kx:kr prog 94 [(0,1),(1,1),(2,1),(3,1),(4,1),(5,1)]=true:=by kernel_rfl
theorem call101:iI prog 101=true:=by kernel_rfl
theorem aaj:ia prog 94 6=true:=by kernel_rfl
theorem rh:fe prog 56 4 1=true:=by kernel_rfl
theorem Dq:(prog.info? 143).bind (·.zero)=some (.agg #[.string ⟨#[]⟩,.string ⟨#[]⟩]):=by kernel_rfl
theorem Fz:kr prog 143 [(0,1),(1,1)]=true:=by kernel_rfl
theorem Gf:ia prog 143 2=true:=by kernel_rfl
theorem Gx:jL prog 40 143 2 32=true:=by kernel_rfl
theorem MC:iX prog 143 1 1 9=true:=by kernel_rfl
theorem call118:iI prog 118=true:=by kernel_rfl
theorem MG:iX prog 94 3 3 3=true:=by kernel_rfl
theorem TT:iX prog 94 4 4 3=true:=by kernel_rfl
theorem Zv:hC prog 4 1=true:=by kernel_rfl
theorem Hn:iX prog 94 5 5 9=true:=by kernel_rfl
theorem FG:fe prog 49 9 1=true:=by kernel_rfl
theorem Gb:(prog.info? 110).bind (·.zero)=some (.agg #[.int .i64 0,.slice none 0 0,.int .i64 0,.string ⟨#[]⟩,.slice none 0 0,.int .i64 0]):=by kernel_rfl
theorem Kv:kr prog 110 [(0,1),(1,1),(2,1),(3,1),(4,1),(5,1)]=true:=by kernel_rfl
theorem MB:iX prog 110 1 1 22=true:=by kernel_rfl
theorem G9:j' prog 22=true:=by kernel_rfl
theorem call120:iI prog 120=true:=by kernel_rfl
theorem o6:ia prog 3 1=true:=by kernel_rfl
theorem pX:jL prog 22 3 1 8=true:=by kernel_rfl
theorem Qc:hC prog 22 1=true:=by kernel_rfl
theorem TS:iX prog 67 2 5 3=true:=by kernel_rfl
theorem K3:ia prog 110 6=true:=by kernel_rfl
theorem FF:fe prog 41 110 6=true:=by kernel_rfl
theorem LG:jL prog 41 110 6 88=true:=by kernel_rfl
theorem Zw:hC prog 41 1=true:=by kernel_rfl
theorem RY:iH prog 110 6=true:=by kernel_rfl
theorem ru:(prog.info? 43).bind (·.zero)=some (.agg #[.slice none 0 0,.slice none 0 0,.slice none 0 0,.string ⟨#[]⟩,.string ⟨#[]⟩]):=by kernel_rfl
theorem u6:iH prog 32 4=true:=by kernel_rfl
theorem Kw:kr prog 43 [(0,1),(1,1),(2,1),(3,1),(4,1)]=true:=by kernel_rfl
theorem Dc:hC prog 43 5=true:=by kernel_rfl
theorem hF:iH prog 43 5=true:=by kernel_rfl
theorem KY:(prog.info? 4).bind (·.zero)=some (.bool false):=by kernel_rfl
theorem GG:(prog.info? 4).map (·.bytes)=some 1:=by kernel_rfl
theorem aac:(prog.info? 210).bind (·.zero)=some (.agg #[.slice none 0 0,.slice none 0 0,.slice none 0 0,.string ⟨#[]⟩,.string ⟨#[]⟩,.slice none 0 0,.slice none 0 0,.slice none 0 0,.int .i64 0,.int .i64 0,.string ⟨#[]⟩,.int .i64 0,.int .i64 0]):=by kernel_rfl
theorem Y5:kr prog 210 [(0,5),(5,1),(6,1),(7,1),(8,1),(9,1),(10,1),(11,1),(12,1)]=true:=by kernel_rfl
theorem QG:(prog.info? 59).bind (·.zero)=some (.agg #[.int .i64 0,.string ⟨#[]⟩,.slice none 0 0,.int .i64 0]):=by kernel_rfl
theorem call100:iI prog 100=true:=by kernel_rfl
theorem Ge:(prog.info? 62).bind (·.zero)=some (.agg #[.string ⟨#[]⟩,.bool false,.int .i64 0,.int .i64 0]):=by kernel_rfl
theorem PQ:kr prog 62 [(0,1),(1,1),(2,1),(3,1)]=true:=by kernel_rfl
theorem aai:ia prog 9 1=true:=by kernel_rfl
theorem RJ:jL prog 49 9 1 16=true:=by kernel_rfl
theorem call104:iI prog 104=true:=by kernel_rfl
theorem R1:iH prog 143 2=true:=by kernel_rfl
theorem TP:iX prog 32 3 3 9=true:=by kernel_rfl
theorem R2:iH prog 165 2=true:=by kernel_rfl
theorem Ze:fe prog 160 165 2=true:=by kernel_rfl
theorem aae:ia prog 165 2=true:=by kernel_rfl
theorem aab:(prog.info? 165).bind (·.zero)=some (.agg #[.int .i64 0,.int .i64 0]):=by kernel_rfl
theorem Y4:kr prog 165 [(0,1),(1,1)]=true:=by kernel_rfl
theorem uO:fe prog 99 163 2=true:=by kernel_rfl
theorem MD:iX prog 163 0 0 160=true:=by kernel_rfl
theorem Mi:j' prog 160=true:=by kernel_rfl
theorem QC:(prog.info? 163).bind (·.zero)=some (.agg #[.slice none 0 0,.slice none 0 0]):=by kernel_rfl
theorem PK:kr prog 163 [(0,1),(1,1)]=true:=by kernel_rfl
theorem QI:ia prog 163 2=true:=by kernel_rfl
theorem RM:jL prog 99 163 2 48=true:=by kernel_rfl
theorem D4:iX prog 163 1 1 161=true:=by kernel_rfl
theorem Mj:j' prog 161=true:=by kernel_rfl
theorem QE:(prog.info? 176).bind (·.zero)=some (.agg #[.int .i64 0,.int .i64 0]):=by kernel_rfl
theorem PM:kr prog 176 [(0,1),(1,1)]=true:=by kernel_rfl
theorem QK:ia prog 176 2=true:=by kernel_rfl
theorem P4:fe prog 161 176 2=true:=by kernel_rfl
theorem LF:jL prog 161 176 2 16=true:=by kernel_rfl
theorem Qb:hC prog 161 1=true:=by kernel_rfl
theorem R0:iH prog 130 5=true:=by kernel_rfl
theorem KA:fe prog 33 22 1=true:=by kernel_rfl
theorem K4:ia prog 22 1=true:=by kernel_rfl
theorem RI:jL prog 33 22 1 24=true:=by kernel_rfl
theorem call88:iI prog 88=true:=by kernel_rfl
theorem call89:iI prog 89=true:=by kernel_rfl
theorem call87:iI prog 87=true:=by kernel_rfl
theorem call90:iI prog 90=true:=by kernel_rfl
theorem uV:(prog.info? 132).bind (·.zero)=some (.agg #[.int .i64 0,.int .i64 0]):=by kernel_rfl
theorem QD:(prog.info? 173).bind (·.zero)=some (.agg #[.int .i64 0,.int .i64 0,.int .i64 0,.int .i64 0]):=by kernel_rfl
theorem PL:kr prog 173 [(0,1),(1,1),(2,1),(3,1)]=true:=by kernel_rfl
theorem QJ:ia prog 173 4=true:=by kernel_rfl
theorem P2:fe prog 103 173 4=true:=by kernel_rfl
theorem Gw:jL prog 103 173 4 32=true:=by kernel_rfl
theorem C9:kr prog 132 [(0,1),(1,1)]=true:=by kernel_rfl
theorem x_:hC prog 132 2=true:=by kernel_rfl
theorem sn:iH prog 132 2=true:=by kernel_rfl
theorem Aq:(prog.info? 87).bind (·.zero)=some (.agg #[.slice none 0 0,.slice none 0 0]):=by kernel_rfl
theorem P3:fe prog 128 132 2=true:=by kernel_rfl
theorem Sc:(prog.info? 132).map (·.bytes)=some 16:=by kernel_rfl
theorem QF:(prog.info? 3).bind (·.zero)=some (.int .i64 0):=by kernel_rfl
theorem LU:(prog.info? 3).map (·.bytes)=some 8:=by kernel_rfl
theorem aad:ia prog 128 1=true:=by kernel_rfl
theorem Zf:fe prog 85 128 1=true:=by kernel_rfl
theorem RL:jL prog 85 128 1 24=true:=by kernel_rfl
theorem Zz:hC prog 85 1=true:=by kernel_rfl
theorem tC:iH prog 87 2=true:=by kernel_rfl
theorem ZA:hC prog 87 2=true:=by kernel_rfl
theorem Y8:kr prog 87 [(0,1),(1,1)]=true:=by kernel_rfl
theorem aag:ia prog 46 1=true:=by kernel_rfl
theorem Zd:fe prog 111 46 1=true:=by kernel_rfl
theorem RF:jL prog 111 46 1 24=true:=by kernel_rfl
theorem aaa:(prog.info? 119).bind (·.zero)=some (.agg #[.int .i64 0,.int .i64 0]):=by kernel_rfl
theorem Gd:(prog.info? 45).bind (·.zero)=some (.agg #[.slice none 0 0,.slice none 0 0,.slice none 0 0]):=by kernel_rfl
theorem PO:kr prog 45 [(0,1),(1,1),(2,1)]=true:=by kernel_rfl
theorem Zx:hC prog 45 3=true:=by kernel_rfl
theorem GB:iH prog 45 3=true:=by kernel_rfl
theorem TQ:iX prog 45 1 1 22=true:=by kernel_rfl
theorem Ap:(prog.info? 48).bind (·.zero)=some (.agg #[.slice none 0 0,.slice none 0 0,.slice none 0 0,.slice none 0 0,.slice none 0 0,.slice none 0 0,.slice none 0 0,.slice none 0 0,.slice none 0 0,.slice none 0 0,.slice none 0 0]):=by kernel_rfl
theorem wz:iH prog 48 11=true:=by kernel_rfl
theorem Qd:hC prog 48 11=true:=by kernel_rfl
theorem Y6:kr prog 48 [(0,1),(1,3),(4,1),(5,3),(8,1),(9,1),(10,1)]=true:=by kernel_rfl
theorem RZ:iH prog 119 2=true:=by kernel_rfl
theorem call11:iI prog 11=true:=by kernel_rfl
theorem Af:kr prog 67 [(0,4),(4,1),(5,1)]=true:=by kernel_rfl
theorem Dr:ia prog 67 6=true:=by kernel_rfl
theorem K0:(prog.info? 70).bind (·.zero)=some (.agg #[.slice none 0 0,.string ⟨#[]⟩,.bool false,.int .i64 0,.int .i64 0,.int .i64 0]):=by kernel_rfl
theorem PS:kr prog 70 [(0,1),(1,4),(5,1)]=true:=by kernel_rfl
theorem K5:ia prog 70 6=true:=by kernel_rfl
theorem PR:kr prog 65 [(0,1),(1,1),(2,1)]=true:=by kernel_rfl
theorem QM:ia prog 65 3=true:=by kernel_rfl
theorem Gc:(prog.info? 32).bind (·.zero)=some (.agg #[.string ⟨#[]⟩,.slice none 0 0,.slice none 0 0,.string ⟨#[]⟩]):=by kernel_rfl
theorem PN:kr prog 32 [(0,1),(1,1),(2,1),(3,1)]=true:=by kernel_rfl
theorem call15:iI prog 15=true:=by kernel_rfl
theorem call16:iI prog 16=true:=by kernel_rfl
theorem Y7:kr prog 59 [(0,1),(1,1),(2,1),(3,1)]=true:=by kernel_rfl
theorem QL:ia prog 62 4=true:=by kernel_rfl
theorem RK:jL prog 57 62 4 40=true:=by kernel_rfl
theorem Zy:hC prog 57 1=true:=by kernel_rfl
theorem aah:ia prog 59 4=true:=by kernel_rfl
theorem RG:jL prog 29 59 4 56=true:=by kernel_rfl
theorem Gy:jL prog 68 67 6 64=true:=by kernel_rfl
theorem LH:jL prog 63 70 6 72=true:=by kernel_rfl
theorem Qe:hC prog 63 1=true:=by kernel_rfl
theorem RH:jL prog 30 65 3 48=true:=by kernel_rfl
theorem Zu:hC prog 30 1=true:=by kernel_rfl
theorem R3:iH prog 35 5=true:=by kernel_rfl
theorem aaf:ia prog 32 4=true:=by kernel_rfl
theorem P5:fe prog 38 32 4=true:=by kernel_rfl
instance:h2 prog 74 (.agg #[.pointer none,.slice none 0 0]):={}
instance:d' prog 22 3 1:={}
instance:fz prog 3:={}
instance:Ay prog 3 .i64:={}
instance:Ay prog 97 .u64:={}
instance:Ay prog 5 .u8:={}
instance:d' prog 60 5 1:={}
instance:iR prog 9:={}
instance:cN prog 62 1 1 4:={}
instance:fz prog 4:={}
instance:cN prog 62 0 0 9:={}
instance:fz prog 9:={}
instance:cN prog 62 2 2 3:={}
instance:cN prog 59 0 0 3:={}
instance:cN prog 59 2 2 57:={}
instance:fz prog 57:={}
instance:d' prog 57 62 4:={}
instance:cN prog 59 1 1 9:={}
instance:j1 prog 62 4:={}
instance:Ax prog:={}
instance:cN prog 70 0 0 68:={}
instance:fz prog 68:={}
instance:d' prog 68 67 6:={}
instance:j1 prog 67 6:={}
instance:h2 prog 67 (.agg #[.string ⟨#[]⟩,.bool false,.int .i64 0,.int .i64 0,.string ⟨#[]⟩,.int .i64 0]):={}
instance:cN prog 67 1 4 9:={}
instance:cN prog 67 0 0 62:={}
instance:cN prog 70 1 1 62:={}
instance:cN prog 32 0 0 9:={}
instance:cN prog 32 1 1 29:={}
instance:fz prog 29:={}
instance:d' prog 29 59 4:={}
instance:j1 prog 59 4:={}
instance:cN prog 32 2 2 30:={}
instance:fz prog 30:={}
instance:d' prog 30 65 3:={}
instance:j1 prog 65 3:={}
instance:h2 prog 65 (.agg #[.string ⟨#[]⟩,.slice none 0 0,.int .i64 0]):={}
instance:cN prog 65 0 0 9:={}
instance:cN prog 65 1 1 63:={}
instance:fz prog 63:={}
instance:d' prog 63 70 6:={}
instance:j1 prog 70 6:={}
instance:cN prog 210 4 8 3:={}
instance:cN prog 210 5 9 3:={}
instance:cN prog 210 6 10 9:={}
instance:cN prog 210 2 6 40:={}
instance:fz prog 40:={}
instance:d' prog 40 143 2:={}
instance:cN prog 143 0 0 9:={}
instance:cN prog 210 0 0 43:={}
instance:cN prog 43 0 0 39:={}
instance:fz prog 39:={}
instance:d' prog 39 94 6:={}
instance:cN prog 94 0 0 9:={}
instance:cN prog 94 1 1 4:={}
instance:cN prog 94 2 2 3:={}
instance:h2 prog 94 (.agg #[.string ⟨#[]⟩,.bool false,.int .i64 0,.int .i64 0,.int .i64 0,.string ⟨#[]⟩]):={}
instance:jK prog 94 [(0,1),(1,1),(2,1),(3,1),(4,1),(5,1)]:={}
instance:cN prog 62 3 3 3:={}
instance:j1 prog 94 6:={}
instance:iS prog 39 94 6 64:={}
instance:cN prog 210 1 5 56:={}
instance:fz prog 56:={}
instance:d' prog 56 4 1:={}
instance:iS prog 56 4 1 1:={}
instance:h2 prog 143 (.agg #[.string ⟨#[]⟩,.string ⟨#[]⟩]):={}
instance:jK prog 143 [(0,1),(1,1)]:={}
instance:iS prog 40 143 2 32:={}
instance:cN prog 143 1 1 9:={}
instance:cN prog 94 3 3 3:={}
instance:cN prog 210 7 11 3:={}
instance:cN prog 94 4 4 3:={}
instance:cN prog 94 5 5 9:={}
instance:cN prog 210 3 7 49:={}
instance:fz prog 49:={}
instance:d' prog 49 9 1:={}
instance:cN prog 70 2 5 3:={}
instance:h2 prog 110 (.agg #[.int .i64 0,.slice none 0 0,.int .i64 0,.string ⟨#[]⟩,.slice none 0 0,.int .i64 0]):={}
instance:jK prog 110 [(0,1),(1,1),(2,1),(3,1),(4,1),(5,1)]:={}
instance:cN prog 110 1 1 22:={}
instance:fz prog 22:={}
instance:iS prog 22 3 1 8:={}
instance:cN prog 67 2 5 3:={}
instance:cN prog 110 3 3 9:={}
instance:cN prog 110 5 5 3:={}
instance:cN prog 210 8 12 3:={}
instance:cN prog 43 2 2 41:={}
instance:fz prog 41:={}
instance:d' prog 41 110 6:={}
instance:iS prog 41 110 6 88:={}
instance:cN prog 110 2 2 3:={}
instance:cN prog 110 4 4 22:={}
instance:j1 prog 110 6:={}
instance:h2 prog 43 (.agg #[.slice none 0 0,.slice none 0 0,.slice none 0 0,.string ⟨#[]⟩,.string ⟨#[]⟩]):={}
instance:j1 prog 32 4:={}
instance:jK prog 43 [(0,1),(1,1),(2,1),(3,1),(4,1)]:={}
instance:j1 prog 43 5:={}
instance:h2 prog 4 (.bool false):={}
instance:yp prog 4 1:={}
instance:h2 prog 210 (.agg #[.slice none 0 0,.slice none 0 0,.slice none 0 0,.string ⟨#[]⟩,.string ⟨#[]⟩,.slice none 0 0,.slice none 0 0,.slice none 0 0,.int .i64 0,.int .i64 0,.string ⟨#[]⟩,.int .i64 0,.int .i64 0]):={}
instance:jK prog 210 [(0,5),(5,1),(6,1),(7,1),(8,1),(9,1),(10,1),(11,1),(12,1)]:={}
instance:h2 prog 59 (.agg #[.int .i64 0,.string ⟨#[]⟩,.slice none 0 0,.int .i64 0]):={}
instance:h2 prog 62 (.agg #[.string ⟨#[]⟩,.bool false,.int .i64 0,.int .i64 0]):={}
instance:jK prog 62 [(0,1),(1,1),(2,1),(3,1)]:={}
instance:cN prog 65 2 2 3:={}
instance:iS prog 49 9 1 16:={}
instance:cN prog 43 1 1 40:={}
instance:j1 prog 143 2:={}
instance:cN prog 32 3 3 9:={}
instance:cN prog 43 3 3 9:={}
instance:cN prog 43 4 4 9:={}
instance:cN prog 165 0 0 3:={}
instance:cN prog 165 1 1 3:={}
instance:j1 prog 165 2:={}
instance:d' prog 160 165 2:={}
instance:iS prog 160 165 2 16:={}
instance:cN prog 110 0 0 3:={}
instance:h2 prog 165 (.agg #[.int .i64 0,.int .i64 0]):={}
instance:jK prog 165 [(0,1),(1,1)]:={}
instance:d' prog 99 163 2:={}
instance:cN prog 163 0 0 160:={}
instance:fz prog 160:={}
instance:h2 prog 163 (.agg #[.slice none 0 0,.slice none 0 0]):={}
instance:jK prog 163 [(0,1),(1,1)]:={}
instance:iS prog 99 163 2 48:={}
instance:cN prog 163 1 1 161:={}
instance:fz prog 161:={}
instance:h2 prog 176 (.agg #[.int .i64 0,.int .i64 0]):={}
instance:jK prog 176 [(0,1),(1,1)]:={}
instance:d' prog 161 176 2:={}
instance:iS prog 161 176 2 16:={}
instance:cN prog 176 0 0 3:={}
instance:cN prog 176 1 1 3:={}
instance:cN prog 130 4 4 22:={}
instance:cN prog 130 2 2 3:={}
instance:cN prog 130 3 3 4:={}
instance:h2 prog 130 (.agg #[.int .i64 0,.int .i64 0,.int .i64 0,.bool false,.slice none 0 0]):={}
instance:jK prog 130 [(0,1),(1,1),(2,1),(3,1),(4,1)]:={}
instance:d' prog 126 167 3:={}
instance:cN prog 167 0 0 3:={}
instance:cN prog 167 2 2 22:={}
instance:cN prog 167 1 1 3:={}
instance:j1 prog 130 5:={}
instance:d' prog 100 130 5:={}
instance:iS prog 100 130 5 56:={}
instance:d' prog 33 22 1:={}
instance:h2 prog 200 (.agg #[.int .i64 0,.int .i64 0]):={}
instance:jK prog 200 [(0,1),(1,1)]:={}
instance:d' prog 197 200 2:={}
instance:iS prog 197 200 2 16:={}
instance:cN prog 200 0 0 3:={}
instance:cN prog 200 1 1 3:={}
instance:iS prog 33 22 1 24:={}
instance:h2 prog 22 (.slice none 0 0):={}
instance:yp prog 22 24:={}
instance:h2 prog 167 (.agg #[.int .i64 0,.int .i64 0,.slice none 0 0]):={}
instance:jK prog 167 [(0,1),(1,1),(2,1)]:={}
instance:j1 prog 167 3:={}
instance:iS prog 126 167 3 40:={}
instance:h2 prog 132 (.agg #[.int .i64 0,.int .i64 0]):={}
instance:cN prog 130 0 0 3:={}
instance:cN prog 130 1 1 3:={}
instance:h2 prog 173 (.agg #[.int .i64 0,.int .i64 0,.int .i64 0,.int .i64 0]):={}
instance:jK prog 173 [(0,1),(1,1),(2,1),(3,1)]:={}
instance:d' prog 103 173 4:={}
instance:iS prog 103 173 4 32:={}
instance:jK prog 132 [(0,1),(1,1)]:={}
instance:j1 prog 132 2:={}
instance:h2 prog 87 (.agg #[.slice none 0 0,.slice none 0 0]):={}
instance:d' prog 128 132 2:={}
instance:yp prog 132 16:={}
instance:h2 prog 3 (.int .i64 0):={}
instance:yp prog 3 8:={}
instance:cN prog 87 0 0 85:={}
instance:fz prog 85:={}
instance:d' prog 85 128 1:={}
instance:iS prog 85 128 1 24:={}
instance:cN prog 87 1 1 33:={}
instance:fz prog 33:={}
instance:j1 prog 87 2:={}
instance:jK prog 87 [(0,1),(1,1)]:={}
instance:h2 prog 141 (.agg #[.int .i64 0,.string ⟨#[]⟩,.int .i64 0,.string ⟨#[]⟩]):={}
instance:jK prog 141 [(0,1),(1,1),(2,1),(3,1)]:={}
instance:j1 prog 141 4:={}
instance:d' prog 137 141 4:={}
instance:iS prog 137 141 4 48:={}
instance:cN prog 141 3 3 9:={}
instance:cN prog 141 0 0 3:={}
instance:cN prog 141 1 1 9:={}
instance:cN prog 141 2 2 3:={}
instance:d' prog 114 146 2:={}
instance:cN prog 146 0 0 3:={}
instance:cN prog 146 1 1 46:={}
instance:fz prog 46:={}
instance:d' prog 111 46 1:={}
instance:iS prog 111 46 1 24:={}
instance:cN prog 132 0 0 3:={}
instance:cN prog 132 1 1 3:={}
instance:fz prog 128:={}
instance:h2 prog 146 (.agg #[.int .i64 0,.slice none 0 0]):={}
instance:jK prog 146 [(0,1),(1,1)]:={}
instance:h2 prog 119 (.agg #[.int .i64 0,.int .i64 0]):={}
instance:jK prog 119 [(0,1),(1,1)]:={}
instance:d' prog 46 119 2:={}
instance:iS prog 46 119 2 16:={}
instance:j1 prog 146 2:={}
instance:iS prog 114 146 2 32:={}
instance:cN prog 119 0 0 3:={}
instance:h2 prog 45 (.agg #[.slice none 0 0,.slice none 0 0,.slice none 0 0]):={}
instance:jK prog 45 [(0,1),(1,1),(2,1)]:={}
instance:j1 prog 45 3:={}
instance:cN prog 45 2 2 22:={}
instance:cN prog 45 0 0 22:={}
instance:cN prog 45 1 1 22:={}
instance:cN prog 119 1 1 3:={}
instance:h2 prog 48 (.agg #[.slice none 0 0,.slice none 0 0,.slice none 0 0,.slice none 0 0,.slice none 0 0,.slice none 0 0,.slice none 0 0,.slice none 0 0,.slice none 0 0,.slice none 0 0,.slice none 0 0]):={}
instance:cN prog 48 0 0 22:={}
instance:cN prog 48 1 1 45:={}
instance:cN prog 48 2 4 22:={}
instance:cN prog 48 3 5 45:={}
instance:cN prog 48 4 8 22:={}
instance:cN prog 48 5 9 22:={}
instance:cN prog 48 6 10 46:={}
instance:j1 prog 48 11:={}
instance:jK prog 48 [(0,1),(1,3),(4,1),(5,3),(8,1),(9,1),(10,1)]:={}
instance:j1 prog 119 2:={}
instance:jK prog 67 [(0,4),(4,1),(5,1)]:={}
instance:h2 prog 70 (.agg #[.slice none 0 0,.string ⟨#[]⟩,.bool false,.int .i64 0,.int .i64 0,.int .i64 0]):={}
instance:jK prog 70 [(0,1),(1,4),(5,1)]:={}
instance:jK prog 65 [(0,1),(1,1),(2,1)]:={}
instance:h2 prog 32 (.agg #[.string ⟨#[]⟩,.slice none 0 0,.slice none 0 0,.string ⟨#[]⟩]):={}
instance:jK prog 32 [(0,1),(1,1),(2,1),(3,1)]:={}
instance:cN prog 59 3 3 3:={}
instance:jK prog 59 [(0,1),(1,1),(2,1),(3,1)]:={}
instance:iS prog 57 62 4 40:={}
instance:iS prog 29 59 4 56:={}
instance:iS prog 68 67 6 64:={}
instance:iS prog 63 70 6 72:={}
instance:iS prog 30 65 3 48:={}
instance:cN prog 35 0 0 3:={}
instance:cN prog 35 2 2 22:={}
instance:cN prog 35 1 1 33:={}
instance:cN prog 35 3 3 22:={}
instance:cN prog 35 4 4 4:={}
instance:j1 prog 35 5:={}
instance:d' prog 38 32 4:={}
instance:hd prog 22 Int ax:={}
instance:hd prog 29 Decl dJ:={}
instance:hd prog 30 fc iv:={}
instance:hd prog 33 (List Int) (bG ax):={}
instance:hd prog 38 Source fv:={}
instance:hd prog 39 Tok bT:={}
instance:hd prog 40 fg bx:={}
instance:hd prog 41 Prod cx:={}
instance:hd prog 46 dy dB:={}
instance:hd prog 49 ByteArray cI:={}
instance:hd prog 56 Bool cj:={}
instance:hd prog 57 Sym dN:={}
instance:hd prog 60 Int p4:={}
instance:hd prog 63 Alt fp:={}
instance:hd prog 68 Part fE:={}
instance:hd prog 85 (List Act) (bG eW):={}
instance:hd prog 100 Cell iu:={}
instance:hd prog 103 e6 eN:={}
instance:hd prog 111 (List dy) (bG dB):={}
instance:hd prog 114 Row oA:={}
instance:hd prog 126 kW rJ:={}
instance:hd prog 128 Act eW:={}
instance:hd prog 137 Piece p2:={}
instance:hd prog 160 Item fD:={}
instance:hd prog 161 Move lz:={}
instance:hd prog 197 Trans p3:={}
instance aaE {a0:ByteArray}{aB:(List Int)}{r:ByteArray}:bL prog 11 (vO a0 aB=some r) [aw a0,ak ax aB] [none,none] (aw r):=⟨λh=>by unfold vO at h; exact bY.bB (N:=⟨28,[]⟩) [0,1,4,5,6,7,12,13,14,15,20] (.dY (λ(cX:ByteArray × Int)=>[(2005,.eV 5 (Lib.strCells cX.1)),(14,ae cX.2)]) [5,12,13,14] 0 (λ(bF:ByteArray)=>[(2005,.eV 5 (Lib.strCells bF))]) [5] (.b (.p (.cB [5,7,12,13,14] (λ(nD:ByteArray)=>[(2005,.eV 5 (Lib.strCells nD))]) .e .e)) .e) .e) func11 rfl rfl rfl rfl rfl dL⟩
instance aaZ {a0:Int}{r:ByteArray}:bL prog 18 (pG a0=some r) [ae a0] [none] (aw r):=⟨λh=>by unfold pG at h; exact bY.bB (N:=⟨32,[]⟩) [0,2,3,4,8,16,28] (.cB [0,3] (λ(jr:Int)=>[(3,.lit (.int .u64 jr))]) .e (.dY (λ(cS:Int × ByteArray)=>[(3,.lit (.int .u64 cS.1)),(4,aw cS.2)]) [0,3,4] 0 (λ(bP:ByteArray)=>[(4,aw bP)]) [0,4] (.eu 5 [0,3,4,16] (λ(nk:Bool)=>[(16,bc nk)]) .e) .e)) func18 rfl rfl rfl rfl rfl dL⟩
instance ab1 {a0:Int}{r:Bool}:bL prog 96 (vW a0=some r) [qJ a0] [none] (bc r):=⟨λh=>by unfold vW at h; exact bY.bB (N:=⟨9,[]⟩) [0,2] (.eu 1 [2] (λ(c2:Bool)=>[(2,bc c2)]) .e) func96 rfl rfl rfl rfl rfl dL⟩
instance aaJ {a0:Int}{r:Bool}:bL prog 114 (Cz a0=some r) [qJ a0] [none] (bc r):=⟨λh=>by unfold Cz at h; exact bY.bB (N:=⟨21,[]⟩) [0,2] (.eu 1 [2] (λ(nk:Bool)=>[(2,bc nk)]) .e) func114 rfl rfl rfl rfl rfl dL⟩
instance ab0 {a0:ByteArray}{aB:Int}{r:Int}:bL prog 95 (vV a0 aB=some r) [aw a0,ae aB] [none,none] (ae r):=⟨λh=>by unfold vV at h; exact bY.bB (N:=⟨43,[]⟩) [0,1,4,5,39] (.dY (λ(s1:Int)=>[(5,ae s1)]) [0,1,5] 0 (λ(x2:Int)=>[(5,ae x2)]) [5] (.eu 2 [0,1,5,39] (λ(mh:Bool)=>[(39,bc mh)]) .e) .e) func95 rfl rfl rfl rfl rfl dL⟩
instance aaL {a0:ByteArray}{r:Bool}:bL prog 116 (vP a0=some r) [aw a0] [none] (bc r):=⟨λh=>by unfold vP at h; exact bY.bB (N:=⟨18,[]⟩) [0,2] (.eu 1 [2] (λ(c4:Bool)=>[(2,bc c4)]) .e) func116 rfl rfl rfl rfl rfl dL⟩
instance aaT {a0:Int}{r:Int × Bool}:bL prog 123 (zM a0=some r) [qJ a0] [none] (.bQ [qJ r.1,bc r.2]):=⟨λh=>by unfold zM at h; exact bY.bB (N:=⟨21,[]⟩) [0,2,3,4,5,7,9,11] (.b .e (.b .e (.b .e (.cB [0,11] (λ(Js:Bool)=>[(11,bc Js)]) .e (.b .e (.eu 11 [2,3] (λ(tJ:Int × Bool)=>[(2,qJ tJ.1),(3,bc tJ.2)]) .e)))))) func123 rfl rfl rfl rfl rfl dL⟩
instance aaR {a0:Sym}{aB:Bool}{a2:Bool}{r:Bool}:bL prog 121 (uB a0 aB a2=some r) [.agg (dN.cells a0),bc aB,bc a2] [none,none,none] (bc r):=⟨λh=>by unfold uB at h; exact bY.bB (N:=⟨53,[]⟩) [1,2,3,6,8,10,23] (.b (.eu 2 [3,23] (λ(c4:Bool)=>[(23,bc c4)]) .e) (.eu 6 [6] (λ(mh:Bool)=>[(6,bc mh)]) .e)) func121 rfl rfl rfl rfl rfl dL⟩
instance aaK {a0:Decl}{r:Bool}:bL prog 115 (xE a0=some r) [.agg (dJ.cells a0)] [none] (bc r):=⟨λh=>by unfold xE at h; exact bY.bB (N:=⟨75,[]⟩) [1,2,3,54,59,74] (.eu 1 [1,54] (λ(mL:Bool)=>[(54,bc mL)]) (.b .e (.gb (λ(gk:Int)=>[(3,ae gk)]) [1,3] 0 (λ(fj:Unit)=>[]) [] (λ(e5:Bool)=>[(2,bc e5)]) [2] (.b (.rd 6 [[],[0],[],[0,1,2],[0,1,2,3],[],[5],[5,6],[],[8],[8,9],aE 0 11 [],aE 0 12 []] .e) .e) .e .e))) func115 rfl rfl rfl rfl rfl dL⟩
instance abZ {a0:ByteArray}{aB:Int}{a2:ByteArray}{r:Bool}:bL prog 94 (xS a0 aB a2=some r) [aw a0,ae aB,aw a2] [none,none,none] (bc r):=⟨λh=>by unfold xS at h; exact bY.bB (N:=⟨25,[]⟩) [0,1,2,6] (.eu 1 [6] (λ(j_:Bool)=>[(6,bc j_)]) .e) func94 rfl rfl rfl rfl rfl dL⟩
instance abI {a0:ByteArray}{aB:Int}{r:Int}:bL prog 74 (zX a0 aB=some r) [aw a0,ae aB] [none,none] (ae r):=⟨λh=>by unfold zX at h; exact bY.bB (N:=⟨114,[]⟩) [0,1,4,5,6,7,8,9,31,40,46,58,59,69,75,78,92,96,105,110] (.eu 1 [0,1,9] (λ(c4:Bool)=>[(9,bc c4)]) (.b (.gb (λ(cP:Int)=>[(5,ae cP)]) [0,1,5] 1 (λ(b2:Unit)=>[]) [] (λ(dD:Int)=>[(4,ae dD)]) [4] (.eu 3 [0,1,5,31] (λ(sq:Bool)=>[(31,bc sq)]) (.b (.rd 5 [[],[],[0,1],[],[],[3,4],aE 0 6 []] (.b .e (.b (.eu 9 [0,1,5,58] (λ(rG:Bool)=>[(58,bc rG)]) .e) .e))) .e)) .e .e) (.b (.gb (λ(h':Int)=>[(6,ae h')]) [0,6] 3 (λ(fZ:Unit)=>[]) [] (λ(cE:Int)=>[(4,ae cE)]) [4] .e .e .e) (.b (.dY (λ(eb:Int)=>[(7,ae eb)]) [0,7] 5 (λ(fk:Int)=>[(7,ae fk)]) [7] (.eu 21 [0,7,92] (λ(tI:Bool)=>[(92,bc tI)]) .e) .e) (.b (.gb (λ(Ae:Int)=>[(8,ae Ae)]) [0,8] 7 (λ(te:Unit)=>[]) [] (λ(l7:Int)=>[(4,ae l7)]) [4] .e .e .e) .e))))) func74 rfl rfl rfl rfl rfl dL⟩
instance abH {a0:ByteArray}{aB:Int}{r:Int}:bL prog 73 (xP a0 aB=some r) [aw a0,ae aB] [none,none] (ae r):=⟨λh=>by unfold xP at h; exact bY.bB (N:=⟨53,[]⟩) [0,1,4,5,6,7,21,26,31,34,39,45,51] (.eu 1 [0,1,21] (λ(c4:Bool)=>[(21,bc c4)]) (.b .e (.gb (λ(cP:Int × Int)=>[(5,ae cP.1),(6,ae cP.2)]) [0,5,6] 0 (λ(b2:Unit)=>[]) [] (λ(dD:Int)=>[(4,ae dD)]) [4] (.b (.b .e (.b .e (.cB [0,5,6] (λ(lH:Int)=>[(5,ae lH)]) .e (.cB [0,5,6] (λ(ER:Int)=>[(5,ae ER)]) .e .e)))) .e) .e .e))) func73 rfl rfl rfl rfl rfl dL⟩
instance aaS {a0:Sym}{r:Bool}:bL prog 122 (uC a0=some r) [.agg (dN.cells a0)] [none] (bc r):=⟨λh=>by unfold uC at h; exact bY.bB (N:=⟨16,[]⟩) [1,2] (.eu 1 [2] (λ(j_:Bool)=>[(2,bc j_)]) .e) func122 rfl rfl rfl rfl rfl dL⟩
instance aaM {a0:Alt}{r:Bool}:bL prog 117 (xF a0=some r) [.agg (fp.cells a0)] [none] (bc r):=⟨λh=>by unfold xF at h; exact bY.bB (N:=⟨54,[]⟩) [1,2,3,4,9,45] (.gb (λ(s1:Int)=>[(3,ae s1)]) [1,3] 0 (λ(aY:Unit)=>[]) [1] (λ(bP:Bool)=>[(2,bc bP)]) [2] (.b (.b6 5 [[],[0],[0,1],[0,1,2],[0,1,2,3],aE 0 5 [],aE 0 6 [],aE 0 7 [],aE 0 8 [],aE 0 9 [],aE 0 10 [],aE 0 11 [],aE 0 12 [],aE 0 13 [],aE 0 14 [],aE 0 15 [],aE 0 16 [],aE 0 17 [],aE 0 18 [],aE 0 19 [],aE 0 20 [],aE 0 21 [],aE 0 19 [],aE 0 19 [22],aE 0 19 [22,23],aE 0 25 [],aE 0 26 [],aE 0 27 [],aE 0 28 []] [1,3,45] (λ(k2:Bool)=>[(45,bc k2)]) .e) .e) (.eu 7 [2] (λ(tG:Bool)=>[(2,bc tG)]) .e) .e) func117 rfl rfl rfl rfl rfl dL⟩
instance ab2 {a0:Source}{r:Bool}:bL prog 99 (xT a0=some r) [.agg (fv.cells a0)] [none] (bc r):=⟨λh=>by unfold xT at h; exact bY.bB (N:=⟨77,[]⟩) [1,2,3,4,5,6,7,13,22,27,36,41,58,63,72] (.gb (λ(s1:Int)=>[(3,ae s1)]) [1,3] 0 (λ(aY:Unit)=>[]) [1] (λ(bP:Bool)=>[(2,bc bP)]) [2] .e (.gb (λ(eM:Int)=>[(4,ae eM)]) [1,4] 2 (λ(bE:Unit)=>[]) [1] (λ(cb:Bool)=>[(2,bc cb)]) [2] .e (.gb (λ(C7:Int)=>[(5,ae C7)]) [1,5] 4 (λ(fo:Unit)=>[]) [1] (λ(fj:Bool)=>[(2,bc fj)]) [2] (.b (.eu 15 [1,5,6,58] (λ(GO:Bool)=>[(58,bc GO)]) (.b .e (.gb (λ(nO:Int)=>[(7,ae nO)]) [1,5,6,7] 6 (λ(cE:Unit)=>[]) [1,5] (λ(eA:Bool)=>[(2,bc eA)]) [2] .e .e .e))) .e) .e .e) .e) .e) func99 rfl rfl rfl rfl rfl dL⟩
instance aav {a0:dh}{aB:Int}{a2:ByteArray}{r:dh}:bL prog 101 (nN a0 aB a2=some r) [.obj (dK.cells a0),ae aB,aw a2] [some (.obj [ao bT r.aC.aZ,ao bx r.aC.bX,ao cx r.aC.bd,aw r.aC.b5,aw r.aC.b',ao cj r.cf,ao bx r.cv,ao cI r.bZ,ae r.cL,ae r.dc,aw r.c_,ae r.cc,ae r.bU]),none,none] (.bQ []):=⟨λh=>by unfold nN at h; exact bY.bB (N:=⟨22,[0]⟩) [0,1,2,10] (.cB [0] (λ(jr:dh)=>[(0,.obj (dK.cells jr))]) .e .e) func101 rfl rfl rfl rfl rfl dL⟩
instance aaz {a0:dh}{aB:ByteArray}{r:Int}:bL prog 105 (zH a0 aB=some r) [.cK ([ak bT a0.aC.aZ,ak bx a0.aC.bX,ak cx a0.aC.bd,aw a0.aC.b5,aw a0.aC.b',ak cj a0.cf,ak bx a0.cv,ak cI a0.bZ,ae a0.cL,ae a0.dc,aw a0.c_,ae a0.cc,ae a0.bU]),aw aB] [none,none] (ae r):=⟨λh=>by unfold zH at h; exact bY.bB (N:=⟨26,[]⟩) [0,1,4,5,12,24] (.gb (λ(s1:Int)=>[(5,ae s1)]) [0,1,5] 0 (λ(aY:Unit)=>[]) [] (λ(bP:Int)=>[(4,ae bP)]) [4] .e .e .e) func105 rfl rfl rfl rfl rfl dL⟩
instance aaw {a0:dh}{aB:Sym}{r:Int}:bL prog 102 (uA a0 aB=some r) [.cK ([ak bT a0.aC.aZ,ak bx a0.aC.bX,ak cx a0.aC.bd,aw a0.aC.b5,aw a0.aC.b',ak cj a0.cf,ak bx a0.cv,ak cI a0.bZ,ae a0.cL,ae a0.dc,aw a0.c_,ae a0.cc,ae a0.bU]),.agg (dN.cells aB)] [none,none] (ae r):=⟨λh=>by unfold uA at h; exact bY.bB (N:=⟨47,[]⟩) [0,3,4,5,13,45] (.gb (λ(s1:Int)=>[(5,ae s1)]) [0,3,5] 0 (λ(aY:Unit)=>[]) [] (λ(bP:Int)=>[(4,ae bP)]) [4] (.b (.b6 4 [[],[0],[0,1],[0,1,2],[0,1,2,3],[],aE 0 6 [],aE 0 7 [],aE 0 8 [],[],[9],aE 0 11 [],aE 0 12 [],aE 0 13 [],aE 0 14 [],aE 0 15 [],aE 0 16 [],aE 0 17 [],aE 0 13 [],aE 0 19 [],aE 0 20 [],aE 0 21 [],aE 0 13 [],aE 0 13 [22],aE 0 24 [],aE 0 25 [],aE 0 26 [],aE 0 27 [],aE 0 28 [],aE 0 29 []] [0,3,5,45] (λ(hI:Bool)=>[(45,bc hI)]) .e) .e) .e .e) func102 rfl rfl rfl rfl rfl dL⟩
instance aaO {a0:dh}{aB:Int}{r:Int}:bL prog 119 (vQ a0 aB=some r) [.cK ([ak bT a0.aC.aZ,ak bx a0.aC.bX,ak cx a0.aC.bd,aw a0.aC.b5,aw a0.aC.b',ak cj a0.cf,ak bx a0.cv,ak cI a0.bZ,ae a0.cL,ae a0.dc,aw a0.c_,ae a0.cc,ae a0.bU]),ae aB] [none,none] (ae r):=⟨λh=>by unfold vQ at h; exact bY.bB (N:=⟨28,[]⟩) [0,1,4,5,13,26] (.gb (λ(s1:Int)=>[(5,ae s1)]) [0,1,5] 0 (λ(aY:Unit)=>[]) [] (λ(bP:Int)=>[(4,ae bP)]) [4] .e .e .e) func119 rfl rfl rfl rfl rfl dL⟩
instance aaN {a0:dh}{aB:Sym}{r:Int × dh}:bL prog 118 (sZ a0 aB=some r) [.obj (dK.cells a0),.agg (dN.cells aB)] [some (.obj [ao bT r.2.aC.aZ,ao bx r.2.aC.bX,ao cx r.2.aC.bd,aw r.2.aC.b5,aw r.2.aC.b',ao cj r.2.cf,ao bx r.2.cv,ao cI r.2.bZ,ae r.2.cL,ae r.2.dc,aw r.2.c_,ae r.2.cc,ae r.2.bU]),none] (ae r.1):=⟨λh=>by unfold sZ at h; exact bY.bB (N:=⟨66,[0]⟩) [0,3,4,5,6,11,19,29] (.b .e (.cB [0,3,6] (λ(ih:dh × Int)=>[(0,.obj (dK.cells ih.1)),(3006,ae ih.2)]) (.b (.cB [0,3,6] (λ(kK:dh)=>[(0,.obj (dK.cells kK))]) .e .e) .e) (.rd 9 [[],[],[1],[1,2],[1,2,3],[1,2,3,4],[],[6],aE 1 7 [],aE 0 9 [],aE 0 10 [],aE 0 11 [],aE 0 12 []] (.rd 10 [[],[],[1],[1,2],[1,2,3],[],[5],[5,6],aE 1 7 [],aE 0 9 [],aE 0 10 [],aE 0 11 []] .e)))) func118 rfl rfl rfl rfl rfl dL⟩
theorem G8 (v:Value) (a0:dh) (aB:Int) (a2:ByteArray) (r:dh) (h:nN a0 aB a2=some r):bY prog 101 [.obj [.lit v,ao bx a0.aC.bX,ao cx a0.aC.bd,aw a0.aC.b5,aw a0.aC.b',ao cj a0.cf,ao bx a0.cv,ao cI a0.bZ,ae a0.cL,ae a0.dc,aw a0.c_,ae a0.cc,ae a0.bU],ae aB,aw a2] [some (.obj [.lit v,ao bx r.aC.bX,ao cx r.aC.bd,aw r.aC.b5,aw r.aC.b',ao cj r.cf,ao bx r.cv,ao cI r.bZ,ae r.cL,ae r.dc,aw r.c_,ae r.cc,ae r.bU]),none,none] (.bQ []):=by
 unfold nN at h;refine bY.go (N:=⟨22,[0]⟩) func101 q q q q (W.fin ?_);refine W.st [(0,.obj [.lit v,ao bx a0.aC.bX,ao cx a0.aC.bd,aw a0.aC.b5,aw a0.aC.b',ao cj a0.cf,ao bx a0.cv,ao cI a0.bZ,ae a0.cL,ae a0.dc,aw a0.c_,ae a0.cc,ae a0.bU]),(1,ae aB),(2,aw a2)] ?_;refine W.cR [0,1,2,10] ?_;refine aU h λjr aj h=>W.gp [0] [(0,.obj [.lit v,ao bx jr.aC.bX,ao cx jr.aC.bd,aw jr.aC.b5,aw jr.aC.b',ao cj jr.cf,ao bx jr.cv,ao cI jr.bZ,ae jr.cL,ae jr.dc,aw jr.c_,ae jr.cc,ae jr.bU])] ?_ ?_
 ·clear h; have h:=aj; clear aj;refine W.ca h q (λfH h=>?_) (λfH h=>?_)
  ·refine W.b6 [0] (ay (O.a6 .z4)<|ay (O.a6 .z4)<|ay (O.a6 .z4)<|dv q<|dv q<|ay (O.eD .z5)<|ay O.y2<|aD.kj (G2:=[(0,_),(12,.ptr ⟨0,[]⟩ 0),(13,.ptr ⟨0,[]⟩ 0),(14,_),(15,_)]) (cs2:=[.lit v,ao bx a0.aC.bX,ao cx a0.aC.bd,aw a0.aC.b5,aw a0.aC.b',ao cj a0.cf,ao bx a0.cv,ao cI a0.bZ,ae 3,ae a0.dc,aw a0.c_,ae a0.cc,ae a0.bU]) q (.ptr q) (.k q) q Ak q q q q (.b q (.p q q q q q q (.p q q q q q q (.n q q (.n q q .nil)))))<|ay (O.eD .z5)<|ay O.y2<|aD.kj (G2:=[(0,_),(13,.ptr ⟨0,[]⟩ 0),(15,_)]) (cs2:=[.lit v,ao bx a0.aC.bX,ao cx a0.aC.bd,aw a0.aC.b5,aw a0.aC.b',ao cj a0.cf,ao bx a0.cv,ao cI a0.bZ,ae 3,ae aB,aw a0.c_,ae a0.cc,ae a0.bU]) q (.ptr q) (.lit q) q Ak q q q q (.b q (.p q q q q q q (.n q q .nil)))<|ay (O.eD .z5)<|ay O.y2<|aD.e3 (bq.o0 [0])<|bV q) ?_;exact sm h ▸ aF.ev
  ·exact W.dC<|sm h ▸ aF.ev
 exact sm h ▸ aF.fin (Fin.ro .nil q (Cq (by kernel_rfl)) (.ag q q (.no (.no .nil))) q (.inl q))
theorem S4 (a0:dh) (aB:Decl) (a2:Sym) (r:dh) (h:sW a0 aB a2=some r):bY prog 100 [.obj (dK.cells a0),.agg (dJ.cells aB),.agg (dN.cells a2)] [some (.obj [ao bT r.aC.aZ,ao bx r.aC.bX,ao cx r.aC.bd,aw r.aC.b5,aw r.aC.b',ao cj r.cf,ao bx r.cv,ao cI r.bZ,ae r.cL,ae r.dc,aw r.c_,ae r.cc,ae r.bU]),none,none] (.bQ []):=by
 unfold sW at h;refine bY.go (N:=⟨152,[0]⟩) func100 q q q q (W.fin ?_);refine W.st [(0,.obj (dK.cells a0)),(1,.agg (dJ.cells aB)),(2,.agg (dN.cells a2))] ?_;refine W.dm [0,4,5] (ay (O.box (.ea q q) q)<|ay (O.box (.ea q q) q)<|bV q) ?_;refine W.bW<|W.cR [0,4,5,11] ?_;refine W.ca h q (λoE h=>?_) (λoE h=>?_)
 ·refine aU h λx2 kf h=>W.dm [0,4,5,6] (ay (O.a6 .z4)<|ay O.bI<|ay O.eE<|hz (cZ.se (ys:=[.ptr ⟨0,[]⟩ 0,aw a2.Name]) q (.c (View.pF q q) (.s .nil)) (bL.go kf))<|aD.bB) ?_;refine W.bW<|W.cR [0,4,5,6,17] ?_;refine aU h λih aj h=>W.gp [0] [(0,.obj (dK.cells ih))] ?_ ?_
  ·clear h; have h:=aj; clear aj;refine W.ca h q (λp9 h=>?_) (λp9 h=>?_)
   ·refine aU h λbF oQ h=>W.rd [[],[],[1],[1,2],[1,2,3],[],[5],[],[7],[5,6,7,8],aE 5 5 [],aE 1 10 [],aE 0 12 [],aE 0 13 [],aE 0 14 []] [(0,_)] fY (by kernel_rfl) (aG 0 (O.a6 .z4)<|aG 1 (O.a6 .z4)<|aG 2 (O.eD .z5)<|aG 3 O.y2<|aG 4 (O.dd (y:=.bf bx.z ⟨0,[6]⟩ a0.cv.length))<|aG 5 O.bI<|aG 6 O.eE<|aG 7 O.bI<|aG 8 O.eE<|aG 9 (O.e1 (cs:=[aw a2.Name,aw aB.Tag]) Fz Dq q q q)<|bA.gr 10 (x:=ak bx [(⟨a2.Name,aB.Tag⟩:fg)]) (O.dr (ys:=[.agg [aw a2.Name,aw aB.Tag]]) bx [(⟨a2.Name,aB.Tag⟩:fg)] x7 q q q q q q Gf q q) q q q q .none<|aG 11 (O.ap (en:=bx) (r:=bF) .di q .z2 .i Gx q oQ)<|aG 12 (O.eD .z5)<|aG 13 O.y2<|bA.jB 14 (bq.sp [0])<|bA.fin q q q (.n q .nil)) ?_;exact sm h ▸ aF.ev
   ·refine W.bW<|aU h λbN qf h=>W.rd [[],[0],[0,1],[0,1,2],[],aE 0 5 [],aE 0 6 [],aE 0 7 [],[],[8],aE 0 10 []] [(0,_),(5,_),(42,_)] fY (by kernel_rfl) (aG 0 (O.a6 .z4)<|aG 1 (O.eD .z5)<|aG 2 O.y2<|aG 3 (O.dd (y:=.bf bx.z ⟨0,[6]⟩ a0.cv.length))<|aG 4 (O.a6 (.lit q))<|aG 5 (O.gI (en:=bx) q .di .bD x7 qf q)<|aG 6 (O.kb (en:=bx) q .z5 MC qf q q)<|aG 7 (O.jT (en:=bx) (x':=aw bN.Tag) q .z5 wJ qf q q)<|aG 8 O.bI<|aG 9 O.eE<|aG 10 (O.nJ .bD .bD)<|bA.fin q q q (uQ q q q)) ?_;refine aF.bS<|aU h λkK aj h=>W.gp [0] [(0,.obj (dK.cells kK))] ?_ ?_
    ·clear h; have h:=aj; clear aj;refine W.ca h q (λVl h=>?_) (λVl h=>?_)
     ·refine aU h λdD B0 h=>W.b6 [0] (ay (O.a6 .z4)<|ay O.bI<|ay O.eE<|ay O.bI<|ay O.eE<|aD.nZ q (bq.call q q (h0.lI (G2:=[]) (A:=[]) (ys:=[.ptr ⟨0,[]⟩ 0,ae a2.At,aw a2.Name]) (args:=[.obj (dK.cells a0),ae a2.At,aw a2.Name]) (cs':=dK.cells dD) (k0:=0) q q q q (.b q (.n q (.n q .nil))) q (bL.go B0) call101 .nil q q .nil .nil q))<|bV q) ?_;exact sm h ▸ aF.ev
     ·exact W.dC<|sm h ▸ aF.ev
    exact sm h ▸ aF.ev
  exact aF.bS<|W.rt<|aF.kk<|sm h ▸ aF.fin (Fin.ro .nil q (Cq (by kernel_rfl)) (.ag q q (.no (.no .nil))) q (.inr q))
 ·refine W.dC<|aF.bS<|aU h λbE zu h=>W.dm [0,4,5,7] (ay (O.a6 .z4)<|ay (O.fa (cs':=dN.cells a2) q .z4 yO q q)<|aD.nZ q (bq.call q q (h0.lI (G2:=[(4,.obj (dJ.cells aB)),(5,.obj (dN.cells a2))]) (A:=[]) (ys:=[.ptr ⟨0,[]⟩ 0,.agg (dN.cells a2)]) (args:=[.obj (dK.cells a0),.agg (dN.cells a2)]) (cs':=dK.cells bE.2) (k0:=0) q q q q (.b q (.n q .nil)) q (bL.go zu) call118 (rl q q) q q (rl q q) .nil q))<|aD.bB) ?_;refine aU h λcb mx h=>W.rs [(0,_),(4,_),(5,_),(7,_),(8,.ptr ⟨0,[0]⟩ (bE.1.toNat * bT.z+0))] (ay (O.a6 .z4)<|ay (O.eD .z5)<|ay O.y2<|ay O.y2<|ay (O.dd (y:=.bf bT.z ⟨0,[0]⟩ bE.2.aC.aZ.length))<|dv q<|ay (O.gI (en:=bT) q .di .bD FE mx q)<|ay (O.dI .z5)<|lp (.n q (.n q (.n q (.n q (.r q (eo.el (en:=bT) q mx q) jG .nil)))))) ?_;refine W.bW<|W.rs [(0,_),(4,_),(5,_),(7,_),(8,.ptr ⟨0,[0]⟩ (bE.1.toNat * bT.z+0)),(61,_)] (ay O.bI<|ay O.eE<|ay (O.neq .bD .de)<|lp (.n q (.n q (.n q (.n q (.r q (eo.el (en:=bT) q mx q) jG (.n q .nil))))))) ?_;refine aU h λet aj h=>W.gp [0,4,5,7,8] [(0,.obj (dK.cells et))] ?_ ?_
  ·clear h; have h:=aj; clear aj;refine W.ca h q (λBn h=>?_) (λBn h=>?_)
   ·refine W.bW<|W.rs [(0,_),(4,_),(5,_),(7,_),(8,.ptr ⟨0,[0]⟩ (bE.1.toNat * bT.z+0)),(66,_)] (ay (O.a6 .z5)<|ay (O.eD .z5)<|ay (O.kb (en:=bT) q .z5 MG mx q q)<|ay (O.jT (en:=bT) (x':=ae cb.Level) q .z5 sr mx q q)<|ay (O.gtr .bD .de)<|lp (.n q (.n q (.n q (.n q (.r q (eo.el (en:=bT) q mx q) jG (.n q .nil))))))) ?_;refine aU h λc3 aj h=>W.gp [0,4,5,7,8] [(0,.obj (dK.cells c3))] ?_ ?_
    ·clear h; have h:=aj; clear aj;refine W.ca h q (λmn h=>?_) (λmn h=>?_)
     ·refine aU h λb7 um h=>W.rx [(0,_),(4,_),(5,_),(7,_),(8,.ptr ⟨0,[0]⟩ (bE.1.toNat * bT.z+0))] (ay (O.a6 .z4)<|ay O.bI<|ay O.eE<|ay O.bI<|ay O.eE<|aD.nZ (G2:=[(8,.ptr ⟨0,[0]⟩ (bE.1.toNat * bT.z+0))]++[(72,.bQ []),(0,.obj [ao bT bE.2.aC.aZ,ao bx b7.aC.bX,ao cx b7.aC.bd,aw b7.aC.b5,aw b7.aC.b',ao cj b7.cf,ao bx b7.cv,ao cI b7.bZ,ae b7.cL,ae b7.dc,aw b7.c_,ae b7.cc,ae b7.bU]),(4,.obj (dJ.cells aB)),(5,.obj (dN.cells a2)),(7,ae bE.1)]) q (bq.ep (r:=0) (k0:=0) (y:=ao bT bE.2.aC.aZ) (cs5:=[ao bT bE.2.aC.aZ,ao bx b7.aC.bX,ao cx b7.aC.bd,aw b7.aC.b5,aw b7.aC.b',ao cj b7.cf,ao bx b7.cv,ao cI b7.bZ,ae b7.cL,ae b7.dc,aw b7.c_,ae b7.cc,ae b7.bU]) (G1:=λv=>[(0,.obj [.lit v,ao bx bE.2.aC.bX,ao cx bE.2.aC.bd,aw bE.2.aC.b5,aw bE.2.aC.b',ao cj bE.2.cf,ao bx bE.2.cv,ao cI bE.2.bZ,ae bE.2.cL,ae bE.2.dc,aw bE.2.c_,ae bE.2.cc,ae bE.2.bU]),(4,.obj (dJ.cells aB)),(5,.obj (dN.cells a2)),(7,ae bE.1),(67,.ptr ⟨0,[]⟩ 0),(69,ae a2.At),(71,aw a2.Name)]) (G4:=λv=>[(72,.bQ []),(0,.obj [.lit v,ao bx b7.aC.bX,ao cx b7.aC.bd,aw b7.aC.b5,aw b7.aC.b',ao cj b7.cf,ao bx b7.cv,ao cI b7.bZ,ae b7.cL,ae b7.dc,aw b7.c_,ae b7.cc,ae b7.bU]),(4,.obj (dJ.cells aB)),(5,.obj (dN.cells a2)),(7,ae bE.1)]) (c4:=λv=>[.lit v,ao bx b7.aC.bX,ao cx b7.aC.bd,aw b7.aC.b5,aw b7.aC.b',ao cj b7.cf,ao bx b7.cv,ao cI b7.bZ,ae b7.cL,ae b7.dc,aw b7.c_,ae b7.cc,ae b7.bU]) (G5:=[(72,.bQ []),(0,.obj [ao bT bE.2.aC.aZ,ao bx b7.aC.bX,ao cx b7.aC.bd,aw b7.aC.b5,aw b7.aC.b',ao cj b7.cf,ao bx b7.cv,ao cI b7.bZ,ae b7.cL,ae b7.dc,aw b7.c_,ae b7.cc,ae b7.bU]),(4,.obj (dJ.cells aB)),(5,.obj (dN.cells a2)),(7,ae bE.1)]) (A:=[(8,.ptr ⟨0,[0]⟩ (bE.1.toNat * bT.z+0))]) q q q q (λv=>(.b q (.n q q (.n q q (.n q q (.p q q q q q q (.n q q (.n q q .nil)))))))) (λv=>h0.lI (G2:=[(4,.obj (dJ.cells aB)),(5,.obj (dN.cells a2)),(7,ae bE.1)]) (A:=[]) (ys:=[.ptr ⟨0,[]⟩ 0,ae a2.At,aw a2.Name]) (args:=[.obj [.lit v,ao bx bE.2.aC.bX,ao cx bE.2.aC.bd,aw bE.2.aC.b5,aw bE.2.aC.b',ao cj bE.2.cf,ao bx bE.2.cv,ao cI bE.2.bZ,ae bE.2.cL,ae bE.2.dc,aw bE.2.c_,ae bE.2.cc,ae bE.2.bU],ae a2.At,aw a2.Name]) (cs':=[.lit v,ao bx b7.aC.bX,ao cx b7.aC.bd,aw b7.aC.b5,aw b7.aC.b',ao cj b7.cf,ao bx b7.cv,ao cI b7.bZ,ae b7.cL,ae b7.dc,aw b7.c_,ae b7.cc,ae b7.bU]) (k0:=0) q q q q (.b q (.n q (.n q .nil))) q (G8 v bE.2 a2.At a2.Name _ um) call101 (uQ q q q) q q (uQ q q q) .nil q) (λv=>q) (λv=>q) (λv=>q) (λv=>(.n q q (.b q (.n q q (.n q q (.n q q .nil)))))) q (.c (en:=bT) (L:=bE.2.aC.aZ) q q mx q q q .nil))<|lp (.n q (.n q (.n q (.n q (.r q (eo.el (en:=bT) q mx q) jG .nil)))))) ?_;exact sm h ▸ aF.cB (.n q (.n q (.n q (.n q (.r q (eo.el (en:=bT) q mx q) jG .nil)))))
     ·exact W.dC<|sm h ▸ aF.cB (.n q (.n q (.n q (.n q (.r q (eo.el (en:=bT) q mx q) jG .nil)))))
    refine aU h λbO mW h=>aF.bS<|W.rd [[],[],[],[2],[2,3],[2,3,4],[],[6],[6,7],[0,2,3,4,5],[0,2,3,4,5,9],[0,2,3,4,5,9,10],aE 0 12 [],aE 0 13 [],aE 0 14 []] [(0,_),(4,_),(5,_),(7,_),(8,.ptr ⟨0,[0]⟩ (bE.1.toNat * bT.z+0))] fY (by kernel_rfl) (aG 0 (O.a6 .z5)<|aG 1 (O.a6 .z5)<|aG 2 (O.a6 .z4)<|aG 3 (O.eD .z5)<|aG 4 O.y2<|aG 5 O.eE<|aG 6 O.bI<|aG 7 O.eE<|aG 8 (O.sub .bD .de)<|aG 9 (O.eD .z5)<|aG 10 (O.kb (en:=bT) q .z5 MG mW q q)<|bA.e1 11 (G2:=[(0,.obj [ao bT (c3.aC.aZ.set bE.1.toNat (⟨bO.Name,bO.Lit,bO.bK,c3.cc,bO.ff,bO.Tag⟩:Tok)),ao bx c3.aC.bX,ao cx c3.aC.bd,aw c3.aC.b5,aw c3.aC.b',ao cj c3.cf,ao bx c3.cv,ao cI c3.bZ,ae c3.cL,ae c3.dc,aw c3.c_,ae c3.cc,ae c3.bU]),(4,.obj (dJ.cells aB)),(5,.obj (dN.cells a2)),(7,ae bE.1),(8,.ptr ⟨0,[0]⟩ (bE.1.toNat * bT.z+0))]) (U:=[(8,81,some (ae (aH (aB.Kind - 1)))),(7,80,some (ae aB.Kind)),(6,79,some (.ptr ⟨4,[]⟩ 0)),(1,74,some (.ptr ⟨0,[0]⟩ (bE.1.toNat * bT.z+0)))]) (il.v (bq.ka (bq.x9 (en:=bT) (y2:=(⟨bO.Name,bO.Lit,bO.bK,c3.cc,bO.ff,bO.Tag⟩:Tok)) (cs':=[ae c3.cc]) (x2:=.obj [ao bT (c3.aC.aZ.set bE.1.toNat (⟨bO.Name,bO.Lit,bO.bK,c3.cc,bO.ff,bO.Tag⟩:Tok)),ao bx c3.aC.bX,ao cx c3.aC.bd,aw c3.aC.b5,aw c3.aC.b',ao cj c3.cf,ao bx c3.cv,ao cI c3.bZ,ae c3.cL,ae c3.dc,aw c3.c_,ae c3.cc,ae c3.bU]) q q (.ptr q) (.lit q) q mW Ak q q q q q q q (.b q (.n q q (.n q q (.n q q (.e q q (.mk (en:=bT) q mW q (n' mW) q) q .nil)))))))) q q (by kernel_rfl) q q q (.c (.inr (.inl ⟨_,q⟩)) q q q q q (fb.wanted .none) (O.sub .bD .de) (.c (.inr (.inl ⟨_,q⟩)) q q q q q (fb.wanted .none) (O.pA q .z5 sr q) (.c (.inr (.inr (.inr (.inl ⟨4,_,_,q,q,iN q,by simp,_,q,iN q⟩)))) q q q q q (fb.wanted .none) (O.nm q .z4 TR q) (.c (.inr (.inr (.inl ⟨8,_,_,q,q,q,by simp⟩))) q q q q q (fb.wanted .none) (O.a6 .z5) .nil)))) (by kernel_rfl)<|aG 12 (O.eD .z5)<|aG 13 (O.kb (en:=bT) q .z5 TT (n' mW) q q)<|bA.jB 14 (G2:=[(0,.obj [ao bT ((c3.aC.aZ.set bE.1.toNat (⟨bO.Name,bO.Lit,bO.bK,c3.cc,bO.ff,bO.Tag⟩:Tok)).set bE.1.toNat (⟨(⟨bO.Name,bO.Lit,bO.bK,c3.cc,bO.ff,bO.Tag⟩:Tok).Name,(⟨bO.Name,bO.Lit,bO.bK,c3.cc,bO.ff,bO.Tag⟩:Tok).Lit,(⟨bO.Name,bO.Lit,bO.bK,c3.cc,bO.ff,bO.Tag⟩:Tok).bK,(⟨bO.Name,bO.Lit,bO.bK,c3.cc,bO.ff,bO.Tag⟩:Tok).Level,aH (aB.Kind - 1),(⟨bO.Name,bO.Lit,bO.bK,c3.cc,bO.ff,bO.Tag⟩:Tok).Tag⟩:Tok)),ao bx c3.aC.bX,ao cx c3.aC.bd,aw c3.aC.b5,aw c3.aC.b',ao cj c3.cf,ao bx c3.cv,ao cI c3.bZ,ae c3.cL,ae c3.dc,aw c3.c_,ae c3.cc,ae c3.bU]),(4,.obj (dJ.cells aB)),(5,.obj (dN.cells a2)),(7,ae bE.1),(8,.ptr ⟨0,[0]⟩ (bE.1.toNat * bT.z+0))]) (bq.x9 (en:=bT) (y2:=(⟨(⟨bO.Name,bO.Lit,bO.bK,c3.cc,bO.ff,bO.Tag⟩:Tok).Name,(⟨bO.Name,bO.Lit,bO.bK,c3.cc,bO.ff,bO.Tag⟩:Tok).Lit,(⟨bO.Name,bO.Lit,bO.bK,c3.cc,bO.ff,bO.Tag⟩:Tok).bK,(⟨bO.Name,bO.Lit,bO.bK,c3.cc,bO.ff,bO.Tag⟩:Tok).Level,aH (aB.Kind - 1),(⟨bO.Name,bO.Lit,bO.bK,c3.cc,bO.ff,bO.Tag⟩:Tok).Tag⟩:Tok)) (cs':=[ae (aH (aB.Kind - 1))]) (x2:=.obj [ao bT ((c3.aC.aZ.set bE.1.toNat (⟨bO.Name,bO.Lit,bO.bK,c3.cc,bO.ff,bO.Tag⟩:Tok)).set bE.1.toNat (⟨(⟨bO.Name,bO.Lit,bO.bK,c3.cc,bO.ff,bO.Tag⟩:Tok).Name,(⟨bO.Name,bO.Lit,bO.bK,c3.cc,bO.ff,bO.Tag⟩:Tok).Lit,(⟨bO.Name,bO.Lit,bO.bK,c3.cc,bO.ff,bO.Tag⟩:Tok).bK,(⟨bO.Name,bO.Lit,bO.bK,c3.cc,bO.ff,bO.Tag⟩:Tok).Level,aH (aB.Kind - 1),(⟨bO.Name,bO.Lit,bO.bK,c3.cc,bO.ff,bO.Tag⟩:Tok).Tag⟩:Tok)),ao bx c3.aC.bX,ao cx c3.aC.bd,aw c3.aC.b5,aw c3.aC.b',ao cj c3.cf,ao bx c3.cv,ao cI c3.bZ,ae c3.cL,ae c3.dc,aw c3.c_,ae c3.cc,ae c3.bU]) q q (.ptr q) (.lit q) q (n' mW) Ak q q q q q q q (.b q (.n q q (.n q q (.n q q (.e q q (.mk (en:=bT) q (n' mW) q (n' (n' mW)) q) q .nil))))))<|bA.fin q q q (.n q (.n q (.n q (.n q (.r q (eo.el (en:=bT) q (n' (n' mW)) q) jG .nil)))))) ?_;exact sm h ▸ aF.cB (.n q (.n q (.n q (.n q (.r q (eo.el (en:=bT) q (n' (n' mW)) q) jG .nil)))))
   ·exact W.dC<|sm h ▸ aF.cB (.n q (.n q (.n q (.n q (.r q (eo.el (en:=bT) q mx q) jG .nil)))))
  refine aU h λfo oN h=>aF.bS<|W.bW<|W.rs [(0,_),(4,_),(5,_),(7,_),(8,.ptr ⟨0,[0]⟩ (bE.1.toNat * bT.z+0)),(88,_)] (ay O.bI<|ay O.eE<|ay (O.gtr .bD .de)<|lp (.n q (.n q (.n q (.n q (.r q (eo.el (en:=bT) q oN q) jG (.n q .nil))))))) ?_;refine aU h λeS aj h=>W.gp [0,4,5,8] [(0,.obj (dK.cells eS))] ?_ ?_
  ·clear h; have h:=aj; clear aj;refine W.ca h q (λHY h=>?_) (λHY h=>?_)
   ·refine W.bW<|aU h λGP aj h=>W.od [0,4,5,7,8,106] [(106,bc GP)] ?_ ?_
    ·refine dv q<|ay (O.eql .bD .de)<|ay (O.a6 (.lit q)) ?_;rcases hR aj with ⟨lE,aj⟩ | ⟨lE,aj⟩
     ·exact sm aj ▸ (gO lE<|gO lE<|gO lE<|gO lE<|gO lE<|gO lE<|gO lE<|ay (O.jX .bD lE .de)<|dv q<|gO q<|gO q<|gO q<|gO q<|gO q<|ay (O.jX .bD q .de)<|lp (.n q (.n q (.n q (.n q (.r q (eo.el (en:=bT) q oN q) jG (.n q .nil)))))))
     ·refine cr lE (O.a6 .z4)<|cr lE (O.eD .z5)<|cr lE O.y2<|cr lE (O.dd (y:=.bf cj.z ⟨0,[5]⟩ et.cf.length))<|cr lE (O.a6 (.lit q)) ?_;refine aU aj λfN N1 aj=>cr lE (O.gI (en:=cj) q .di .bD rh N1 q)<|cr lE (O.jT (en:=cj) (x':=bc fN) q .z5 AY N1 q q)<|ay (O.kh .bD lE .bD)<|ay (O.a6 (.lit q)) ?_;rcases hR aj with ⟨mo,aj⟩ | ⟨mo,aj⟩
      ·exact sm aj ▸ (gO mo<|gO mo<|gO mo<|gO mo<|gO mo<|ay (O.jX .bD mo .de)<|lp (.n q (.n q (.n q (.n q (.r q (eo.el (en:=bT) q oN q) jG (.n q .nil)))))))
      ·refine cr mo (O.a6 .z4)<|cr mo O.bI<|cr mo O.eE ?_;exact aU aj λhc xc aj=>sm aj ▸ (aD.c (cZ.se (ys:=[.ptr ⟨0,[]⟩ 0,ae a2.bK]) q (.c (View.pF q q) (.s .nil)) (bL.go xc)) q q (.l9 q q mo)<|cr mo (O.geq .bD .de)<|ay (O.kh .bD mo .bD)<|lp (.n q (.n q (.n q (.n q (.r q (eo.el (en:=bT) q oN q) jG (.n q .nil)))))))
    refine aU h λdQ aj h=>W.gp [0,4,5,7,8] [(0,.obj (dK.cells dQ))] ?_ ?_
    ·clear h; have h:=aj; clear aj;refine W.ca h q (λU6 h=>?_) (λU6 h=>?_)
     ·refine aU h λcE I6 h=>W.rx [(0,_),(4,_),(5,_),(7,_),(8,.ptr ⟨0,[0]⟩ (bE.1.toNat * bT.z+0))] (ay (O.a6 .z4)<|ay O.bI<|ay O.eE<|ay O.bI<|ay O.eE<|aD.nZ (G2:=[(8,.ptr ⟨0,[0]⟩ (bE.1.toNat * bT.z+0))]++[(112,.bQ []),(0,.obj [ao bT et.aC.aZ,ao bx cE.aC.bX,ao cx cE.aC.bd,aw cE.aC.b5,aw cE.aC.b',ao cj cE.cf,ao bx cE.cv,ao cI cE.bZ,ae cE.cL,ae cE.dc,aw cE.c_,ae cE.cc,ae cE.bU]),(4,.obj (dJ.cells aB)),(5,.obj (dN.cells a2)),(7,ae bE.1)]) q (bq.ep (r:=0) (k0:=0) (y:=ao bT et.aC.aZ) (cs5:=[ao bT et.aC.aZ,ao bx cE.aC.bX,ao cx cE.aC.bd,aw cE.aC.b5,aw cE.aC.b',ao cj cE.cf,ao bx cE.cv,ao cI cE.bZ,ae cE.cL,ae cE.dc,aw cE.c_,ae cE.cc,ae cE.bU]) (G1:=λv=>[(0,.obj [.lit v,ao bx et.aC.bX,ao cx et.aC.bd,aw et.aC.b5,aw et.aC.b',ao cj et.cf,ao bx et.cv,ao cI et.bZ,ae et.cL,ae et.dc,aw et.c_,ae et.cc,ae et.bU]),(4,.obj (dJ.cells aB)),(5,.obj (dN.cells a2)),(7,ae bE.1),(107,.ptr ⟨0,[]⟩ 0),(109,ae a2.At),(111,aw a2.Name)]) (G4:=λv=>[(112,.bQ []),(0,.obj [.lit v,ao bx cE.aC.bX,ao cx cE.aC.bd,aw cE.aC.b5,aw cE.aC.b',ao cj cE.cf,ao bx cE.cv,ao cI cE.bZ,ae cE.cL,ae cE.dc,aw cE.c_,ae cE.cc,ae cE.bU]),(4,.obj (dJ.cells aB)),(5,.obj (dN.cells a2)),(7,ae bE.1)]) (c4:=λv=>[.lit v,ao bx cE.aC.bX,ao cx cE.aC.bd,aw cE.aC.b5,aw cE.aC.b',ao cj cE.cf,ao bx cE.cv,ao cI cE.bZ,ae cE.cL,ae cE.dc,aw cE.c_,ae cE.cc,ae cE.bU]) (G5:=[(112,.bQ []),(0,.obj [ao bT et.aC.aZ,ao bx cE.aC.bX,ao cx cE.aC.bd,aw cE.aC.b5,aw cE.aC.b',ao cj cE.cf,ao bx cE.cv,ao cI cE.bZ,ae cE.cL,ae cE.dc,aw cE.c_,ae cE.cc,ae cE.bU]),(4,.obj (dJ.cells aB)),(5,.obj (dN.cells a2)),(7,ae bE.1)]) (A:=[(8,.ptr ⟨0,[0]⟩ (bE.1.toNat * bT.z+0))]) q q q q (λv=>(.b q (.n q q (.n q q (.n q q (.p q q q q q q (.n q q (.n q q .nil)))))))) (λv=>h0.lI (G2:=[(4,.obj (dJ.cells aB)),(5,.obj (dN.cells a2)),(7,ae bE.1)]) (A:=[]) (ys:=[.ptr ⟨0,[]⟩ 0,ae a2.At,aw a2.Name]) (args:=[.obj [.lit v,ao bx et.aC.bX,ao cx et.aC.bd,aw et.aC.b5,aw et.aC.b',ao cj et.cf,ao bx et.cv,ao cI et.bZ,ae et.cL,ae et.dc,aw et.c_,ae et.cc,ae et.bU],ae a2.At,aw a2.Name]) (cs':=[.lit v,ao bx cE.aC.bX,ao cx cE.aC.bd,aw cE.aC.b5,aw cE.aC.b',ao cj cE.cf,ao bx cE.cv,ao cI cE.bZ,ae cE.cL,ae cE.dc,aw cE.c_,ae cE.cc,ae cE.bU]) (k0:=0) q q q q (.b q (.n q (.n q .nil))) q (G8 v et a2.At a2.Name _ I6) call101 (uQ q q q) q q (uQ q q q) .nil q) (λv=>q) (λv=>q) (λv=>q) (λv=>(.n q q (.b q (.n q q (.n q q (.n q q .nil)))))) q (.c (en:=bT) (L:=et.aC.aZ) q q oN q q q .nil))<|lp (.n q (.n q (.n q (.n q (.r q (eo.el (en:=bT) q oN q) jG .nil)))))) ?_;exact sm h ▸ aF.cB (.n q (.n q (.n q (.n q (.r q (eo.el (en:=bT) q oN q) jG .nil)))))
     ·exact W.dC<|sm h ▸ aF.cB (.n q (.n q (.n q (.n q (.r q (eo.el (en:=bT) q oN q) jG .nil)))))
    refine aU h λeA qe h=>aF.bS<|W.rs [(0,_),(4,_),(5,_),(7,_),(8,.ptr ⟨0,[0]⟩ (bE.1.toNat * bT.z+0))] (ay (O.a6 .z5)<|ay O.bI<|ay O.eE<|ay (O.eD .z5)<|ay (O.kb (en:=bT) q .z5 MF qe q q)<|aD.nZ (G2:=[(0,.obj [ao bT (dQ.aC.aZ.set bE.1.toNat (⟨eA.Name,eA.Lit,a2.bK,eA.Level,eA.ff,eA.Tag⟩:Tok)),ao bx dQ.aC.bX,ao cx dQ.aC.bd,aw dQ.aC.b5,aw dQ.aC.b',ao cj dQ.cf,ao bx dQ.cv,ao cI dQ.bZ,ae dQ.cL,ae dQ.dc,aw dQ.c_,ae dQ.cc,ae dQ.bU]),(4,.obj (dJ.cells aB)),(5,.obj (dN.cells a2)),(7,ae bE.1),(8,.ptr ⟨0,[0]⟩ (bE.1.toNat * bT.z+0))]) q (bq.x9 (en:=bT) (y2:=(⟨eA.Name,eA.Lit,a2.bK,eA.Level,eA.ff,eA.Tag⟩:Tok)) (cs':=[ae a2.bK]) (x2:=.obj [ao bT (dQ.aC.aZ.set bE.1.toNat (⟨eA.Name,eA.Lit,a2.bK,eA.Level,eA.ff,eA.Tag⟩:Tok)),ao bx dQ.aC.bX,ao cx dQ.aC.bd,aw dQ.aC.b5,aw dQ.aC.b',ao cj dQ.cf,ao bx dQ.cv,ao cI dQ.bZ,ae dQ.cL,ae dQ.dc,aw dQ.c_,ae dQ.cc,ae dQ.bU]) q q (.ptr q) (.lit q) q qe Ak q q q q q q q (.b q (.n q q (.n q q (.n q q (.e q q (.mk (en:=bT) q qe q (n' qe) q) q .nil))))))<|lp (.n q (.n q (.n q (.n q (.r q (eo.el (en:=bT) q (n' qe) q) jG .nil)))))) ?_;refine aU h λhs r0 h=>W.rx [(0,_),(4,_),(5,_),(8,.ptr ⟨0,[0]⟩ (bE.1.toNat * bT.z+0))] (ay (O.a6 .z4)<|ay (O.eD .z5)<|ay O.y2<|ay (O.dd (y:=.bf cj.z ⟨0,[5]⟩ dQ.cf.length))<|dv q<|ay (O.gI (en:=cj) q .di .bD rh r0 q)<|aD.nZ (G2:=[(0,.obj [ao bT (dQ.aC.aZ.set bE.1.toNat (⟨eA.Name,eA.Lit,a2.bK,eA.Level,eA.ff,eA.Tag⟩:Tok)),ao bx dQ.aC.bX,ao cx dQ.aC.bd,aw dQ.aC.b5,aw dQ.aC.b',ao cj (dQ.cf.set bE.1.toNat true),ao bx dQ.cv,ao cI dQ.bZ,ae dQ.cL,ae dQ.dc,aw dQ.c_,ae dQ.cc,ae dQ.bU]),(4,.obj (dJ.cells aB)),(5,.obj (dN.cells a2)),(8,.ptr ⟨0,[0]⟩ (bE.1.toNat * bT.z+0))]) q (bq.x9 (en:=cj) (y2:=true) (cs':=[bc true]) (x2:=.obj [ao bT (dQ.aC.aZ.set bE.1.toNat (⟨eA.Name,eA.Lit,a2.bK,eA.Level,eA.ff,eA.Tag⟩:Tok)),ao bx dQ.aC.bX,ao cx dQ.aC.bd,aw dQ.aC.b5,aw dQ.aC.b',ao cj (dQ.cf.set bE.1.toNat true),ao bx dQ.cv,ao cI dQ.bZ,ae dQ.cL,ae dQ.dc,aw dQ.c_,ae dQ.cc,ae dQ.bU]) q q (.ptr q) (.k q) q r0 Zv q q q q q q q (.b q (.n q q (.n q q (.e q q (.mk (en:=bT) q (n' qe) q (n' qe) q) q .nil)))))<|lp (.n q (.n q (.n q (.r q (eo.el (en:=bT) q (n' qe) q) jG .nil))))) ?_;exact sm h ▸ aF.cB (.n q (.n q (.n q (.r q (eo.el (en:=bT) q (n' qe) q) jG .nil))))
   ·exact W.dC<|sm h ▸ aF.cB (.n q (.n q (.n q (.r q (eo.el (en:=bT) q oN q) jG .nil))))
  refine aU h λku oO h=>aF.bS<|W.rs [(0,_),(4,_),(5,_),(8,.ptr ⟨0,[0]⟩ (bE.1.toNat * bT.z+0)),(126,_)] (ay O.bI<|ay O.eE<|ay (O.nJ .bD .de)<|lp (.n q (.n q (.n q (.r q (eo.el (en:=bT) q oO q) jG (.n q .nil)))))) ?_;refine aU h λpz aj h=>W.gp [0] [(0,.obj (dK.cells pz))] ?_ ?_
  ·clear h; have h:=aj; clear aj;refine W.ca h q (λnq h=>?_) (λnq h=>?_)
   ·refine W.bW<|W.bW<|aU h λwG aj h=>W.rd [[],[0],[0,1],[0,1,2],[0,1,2,3],aE 0 5 [],aE 0 6 [],aE 0 7 [],aE 0 8 [],aE 0 9 [],aE 0 6 [],aE 0 6 [10],aE 0 12 [],aE 0 13 []] [(0,.obj (dK.cells eS)),(4,.obj (dJ.cells aB)),(5,.obj (dN.cells a2)),(8,.ptr ⟨0,[0]⟩ (bE.1.toNat * bT.z+0)),(140,bc wG)] fY (by kernel_rfl) ?_ ?_
    ·refine aG 0 (O.a6 .z5)<|aG 1 (O.eD .z5)<|aG 2 (O.kb (en:=bT) q .z5 Hn oO q q)<|aG 3 (O.jT (en:=bT) (x':=aw ku.Tag) q .z5 wJ oO q q)<|aG 4 (O.nJ .bD .de)<|aG 5 (O.a6 (.lit q)) ?_;rcases hR aj with ⟨jD,aj⟩ | ⟨jD,aj⟩
     ·exact sm aj ▸ (hx 6 jD (O.a6 .z5)<|hx 7 jD (O.eD .z5)<|hx 8 jD (O.kb (en:=bT) q .z5 Hn oO q q)<|hx 9 jD (O.jT (en:=bT) (x':=aw ku.Tag) q .z5 wJ oO q q)<|hx 10 jD O.bI<|hx 11 jD O.eE<|hx 12 jD (O.nJ .bD .bD)<|aG 13 (O.jX .bD jD .bD)<|bA.fin q q q (.n q (.n q (.n q (.r q (eo.el (en:=bT) q oO q) jG (.n q .nil))))))
     ·exact sm aj ▸ (gF 6 jD<|gF 7 jD<|gF 8 jD<|gF 9 jD<|gF 10 jD<|gF 11 jD<|gF 12 jD<|aG 13 (O.kh .bD jD .de)<|bA.fin q q q (.n q (.n q (.n q (.r q (eo.el (en:=bT) q oO q) jG (.n q .nil))))))
    refine aF.bS<|aU h λmA aj h=>W.gp [0,4,8] [(0,.obj (dK.cells mA))] ?_ ?_
    ·clear h; have h:=aj; clear aj;refine W.ca h q (λzb h=>?_) (λzb h=>?_)
     ·refine aU h λcT I9 h=>W.rx [(0,_),(4,_),(8,.ptr ⟨0,[0]⟩ (bE.1.toNat * bT.z+0))] (ay (O.a6 .z4)<|ay O.bI<|ay O.eE<|ay O.bI<|ay O.eE<|aD.nZ (G2:=[(8,.ptr ⟨0,[0]⟩ (bE.1.toNat * bT.z+0))]++[(146,.bQ []),(0,.obj [ao bT eS.aC.aZ,ao bx cT.aC.bX,ao cx cT.aC.bd,aw cT.aC.b5,aw cT.aC.b',ao cj cT.cf,ao bx cT.cv,ao cI cT.bZ,ae cT.cL,ae cT.dc,aw cT.c_,ae cT.cc,ae cT.bU]),(4,.obj (dJ.cells aB))]) q (bq.ep (r:=0) (k0:=0) (y:=ao bT eS.aC.aZ) (cs5:=[ao bT eS.aC.aZ,ao bx cT.aC.bX,ao cx cT.aC.bd,aw cT.aC.b5,aw cT.aC.b',ao cj cT.cf,ao bx cT.cv,ao cI cT.bZ,ae cT.cL,ae cT.dc,aw cT.c_,ae cT.cc,ae cT.bU]) (G1:=λv=>[(0,.obj [.lit v,ao bx eS.aC.bX,ao cx eS.aC.bd,aw eS.aC.b5,aw eS.aC.b',ao cj eS.cf,ao bx eS.cv,ao cI eS.bZ,ae eS.cL,ae eS.dc,aw eS.c_,ae eS.cc,ae eS.bU]),(4,.obj (dJ.cells aB)),(141,.ptr ⟨0,[]⟩ 0),(143,ae a2.At),(145,aw a2.Name)]) (G4:=λv=>[(146,.bQ []),(0,.obj [.lit v,ao bx cT.aC.bX,ao cx cT.aC.bd,aw cT.aC.b5,aw cT.aC.b',ao cj cT.cf,ao bx cT.cv,ao cI cT.bZ,ae cT.cL,ae cT.dc,aw cT.c_,ae cT.cc,ae cT.bU]),(4,.obj (dJ.cells aB))]) (c4:=λv=>[.lit v,ao bx cT.aC.bX,ao cx cT.aC.bd,aw cT.aC.b5,aw cT.aC.b',ao cj cT.cf,ao bx cT.cv,ao cI cT.bZ,ae cT.cL,ae cT.dc,aw cT.c_,ae cT.cc,ae cT.bU]) (G5:=[(146,.bQ []),(0,.obj [ao bT eS.aC.aZ,ao bx cT.aC.bX,ao cx cT.aC.bd,aw cT.aC.b5,aw cT.aC.b',ao cj cT.cf,ao bx cT.cv,ao cI cT.bZ,ae cT.cL,ae cT.dc,aw cT.c_,ae cT.cc,ae cT.bU]),(4,.obj (dJ.cells aB))]) (A:=[(8,.ptr ⟨0,[0]⟩ (bE.1.toNat * bT.z+0))]) q q q q (λv=>(.b q (.n q q (.p q q q q q q (.n q q (.n q q .nil)))))) (λv=>h0.lI (G2:=[(4,.obj (dJ.cells aB))]) (A:=[]) (ys:=[.ptr ⟨0,[]⟩ 0,ae a2.At,aw a2.Name]) (args:=[.obj [.lit v,ao bx eS.aC.bX,ao cx eS.aC.bd,aw eS.aC.b5,aw eS.aC.b',ao cj eS.cf,ao bx eS.cv,ao cI eS.bZ,ae eS.cL,ae eS.dc,aw eS.c_,ae eS.cc,ae eS.bU],ae a2.At,aw a2.Name]) (cs':=[.lit v,ao bx cT.aC.bX,ao cx cT.aC.bd,aw cT.aC.b5,aw cT.aC.b',ao cj cT.cf,ao bx cT.cv,ao cI cT.bZ,ae cT.cL,ae cT.dc,aw cT.c_,ae cT.cc,ae cT.bU]) (k0:=0) q q q q (.b q (.n q (.n q .nil))) q (G8 v eS a2.At a2.Name _ I9) call101 (.n q .nil) q q (.n q .nil) .nil q) (λv=>q) (λv=>q) (λv=>q) (λv=>(.n q q (.b q (.n q q .nil)))) q (.c (en:=bT) (L:=eS.aC.aZ) q q oO q q q .nil))<|lp (.n q (.n q (.r q (eo.el (en:=bT) q oO q) jG .nil)))) ?_;exact sm h ▸ aF.cB (.n q (.n q (.r q (eo.el (en:=bT) q oO q) jG .nil)))
     ·exact W.dC<|sm h ▸ aF.cB (.n q (.n q (.r q (eo.el (en:=bT) q oO q) jG .nil)))
    refine aU h λgh uq h=>aF.bS<|W.b6 [0] (ay (O.a6 .z5)<|ay O.bI<|ay O.eE<|ay (O.eD .z5)<|ay (O.kb (en:=bT) q .z5 Hn uq q q)<|aD.e3 (bq.rf (en:=bT) (y2:=(⟨gh.Name,gh.Lit,gh.bK,gh.Level,gh.ff,aB.Tag⟩:Tok)) [0] uq)<|bV q) ?_;exact sm h ▸ aF.ev
   ·exact W.dC<|sm h ▸ aF.ev
  exact sm h ▸ aF.fin (Fin.ro .nil q (Cq (by kernel_rfl)) (.ag q q (.no (.no .nil))) q (.inl q))
instance aau {a0:dh}{aB:Decl}{a2:Sym}{r:dh}:bL prog 100 (sW a0 aB a2=some r) [.obj (dK.cells a0),.agg (dJ.cells aB),.agg (dN.cells a2)] [some (.obj [ao bT r.aC.aZ,ao bx r.aC.bX,ao cx r.aC.bd,aw r.aC.b5,aw r.aC.b',ao cj r.cf,ao bx r.cv,ao cI r.bZ,ae r.cL,ae r.dc,aw r.c_,ae r.cc,ae r.bU]),none,none] (.bQ []):=⟨S4 a0 aB a2 _⟩
instance aax {a0:dh}{aB:ByteArray}{r:Int}:bL prog 103 (sX a0 aB=some r) [.cK ([ak bT a0.aC.aZ,ak bx a0.aC.bX,ak cx a0.aC.bd,aw a0.aC.b5,aw a0.aC.b',ak cj a0.cf,ak bx a0.cv,ak cI a0.bZ,ae a0.cL,ae a0.dc,aw a0.c_,ae a0.cc,ae a0.bU]),aw aB] [none,none] (ae r):=⟨λh=>by unfold sX at h; exact bY.bB (N:=⟨25,[]⟩) [0,1,4,5,12,23] (.gb (λ(s1:Int)=>[(5,ae s1)]) [0,1,5] 0 (λ(aY:Unit)=>[]) [] (λ(bP:Int)=>[(4,ae bP)]) [4] .e .e .e) func103 rfl rfl rfl rfl rfl dL⟩
instance aaQ {a0:dh}{aB:Sym}{r:Int × dh}:bL prog 120 (q6 a0 aB=some r) [.obj (dK.cells a0),.agg (dN.cells aB)] [some (.obj [ao bT r.2.aC.aZ,ao bx r.2.aC.bX,ao cx r.2.aC.bd,aw r.2.aC.b5,aw r.2.aC.b',ao cj r.2.cf,ao bx r.2.cv,ao cI r.2.bZ,ae r.2.cL,ae r.2.dc,aw r.2.c_,ae r.2.cc,ae r.2.bU]),none] (ae r.1):=⟨λh=>by unfold q6 at h; exact bY.bB (N:=⟨32,[0]⟩) [0,3,4,5,6,8,17,24] .e func120 rfl rfl rfl rfl rfl dL⟩
theorem S5 (a0:dh) (aB:ByteArray) (a2:Alt) (r:dh) (h:sY a0 aB a2=some r):bY prog 104 [.obj (dK.cells a0),aw aB,.agg (fp.cells a2)] [some (.obj [ao bT r.aC.aZ,ao bx r.aC.bX,ao cx r.aC.bd,aw r.aC.b5,aw r.aC.b',ao cj r.cf,ao bx r.cv,ao cI r.bZ,ae r.cL,ae r.dc,aw r.c_,ae r.cc,ae r.bU]),none,none] (.bQ []):=by
 unfold sY at h;refine bY.go (N:=⟨173,[0]⟩) func104 q q q q (W.fin ?_);refine W.st [(0,.obj (dK.cells a0)),(1,aw aB),(2,.agg (fp.cells a2))] ?_;refine W.dm [0,1,5] (ay (O.box (.ea q q) q)<|bV q) ?_;refine W.bW<|aU h λaX jP h=>W.rd [[],[],[0,1],[0,1,2],[],[4],aE 0 6 [],[],aE 0 8 []] [(0,_),(5,_),(6,_)] fY (by kernel_rfl) (aG 0 (O.a6 .z4)<|aG 1 (O.a6 (.lit q))<|l' 2 (cZ.se (ys:=[.ptr ⟨0,[]⟩ 0,aw aB]) q (.c (View.pF q q) (.s .nil)) (bL.go jP))<|aG 3 (O.add .de .bD)<|aG 4 O.bI<|aG 5 O.eE<|aG 6 (O.e1 (cs:=[ae (aH (1+aX)),.aT,ae (-1),aw bg,.aT,ae a2.At]) Kv Gb q q q)<|aG 7 (O.hf (cs:=[ae 0,.aT,ae 0,aw bg,.aT,ae 0]) Gb q q)<|bA.jB 8 (bq.hD [0,5,6])<|bA.fin q q q (uQ q q q)) ?_;refine aF.bS<|W.bW<|W.cR [0,5,6,7] ?_;refine W.cD<|aU h λaY ai h=>W.hL (a0,([]:List Int),bg,a2.At,0) (λ(s2:dh × List Int × ByteArray × Int × Int)=>[(0,.obj (dK.cells s2.1)),(6,.obj [ae (aH (1+aX)),ao ax s2.2.1,ae (-1),aw s2.2.2.1,.aT,ae s2.2.2.2.1]),(7,ae s2.2.2.2.2)]) [0,5,6,7] 0 (λ(aY:dh × List Int × ByteArray × Int)=>[(0,.obj (dK.cells aY.1)),(6,.obj [ae (aH (1+aX)),ao ax aY.2.1,ae (-1),aw aY.2.2.1,.aT,ae aY.2.2.2])]) [0,5,6] ai (λs2 o h=>?_) ?_
 ·clear ai;refine W.bW<|W.cR [0,5,6,7,21] ?_;refine W.ca h q (λtX h=>?_) (λtX h=>?_)
  ·refine W.dC<|aF.bS<|W.bW<|aU h λkJ aj h=>W.gp [0,5,6,7] [(0,.obj (dK.cells kJ.1)),(6,.obj [ae (aH (1+aX)),ao ax kJ.2.1,ae (-1),aw kJ.2.2.1,.aT,ae kJ.2.2.2])] ?_ ?_
   ·clear h; have h:=aj; clear aj;refine W.cD<|aU h λbM qg h=>W.dm [0,5,6,7,8] (ay O.bI<|ay (O.dd (y:=ak fE a2.Parts))<|dv q<|ay (O.gE qg)<|ay (O.sQ (cs':=fE.cells bM) .uU R5 q q)<|ay (O.hf (cs:=[aw bg,bc false,ae 0,ae 0,aw bg,ae 0]) yf q q)<|aD.e3 (bq.hD [0,5,6,7,8])<|bV q) ?_;refine aU h λfm aj h=>W.gp [0,5,6,7] [(0,.obj (dK.cells fm.1)),(6,.obj [ae (aH (1+aX)),ao ax fm.2.1,ae (-1),aw fm.2.2.1,.aT,ae fm.2.2.2])] ?_ ?_
    ·clear h; have h:=aj; clear aj;refine W.cD<|W.cR [0,5,6,7,8,82] ?_;refine aU h λnD aj h=>W.gp [0,5,6,7] [(0,.obj (dK.cells nD.1)),(6,.obj [ae (aH (1+aX)),ao ax nD.2.1,ae (-1),aw nD.2.2.1,.aT,ae nD.2.2.2])] ?_ ?_
     ·clear h; have h:=aj; clear aj;refine W.ca h q (λBm h=>?_) (λBm h=>?_)
      ·refine aU h λcb mx h=>aU h λdS I4 h=>W.rd [[],[0],[],[],[3],[2,3,4],[2,3,4,5],aE 0 7 [],aE 0 8 [],aE 0 9 []] [(0,_),(5,_),(6,_),(7,_)] fY (by kernel_rfl) (aG 0 O.bI<|aG 1 (O.dd (y:=.bf ax.z ⟨6,[1]⟩ s2.2.1.length))<|aG 2 (O.a6 .z4)<|aG 3 O.bI<|aG 4 (O.fa (cs':=dN.cells bM.Sym) q .z5 yO q q)<|bA.e1 5 (G2:=(6,.obj [ae (aH (1+aX)),ao ax s2.2.1,ae (-1),aw s2.2.2.1,.aT,ae s2.2.2.2.1])::[(91,ae cb.1),(0,.obj (dK.cells cb.2)),(5,.obj (fp.cells a2)),(7,ae s2.2.2.2.2)]) (U:=[(1,87,some (.bf ax.z ⟨6,[1]⟩ s2.2.1.length)),(0,86,some (.ptr ⟨6,[]⟩ 1))]) (o9.box (r:=6) (G1:=[(0,.obj (dK.cells s2.1)),(5,.obj (fp.cells a2)),(7,ae s2.2.2.2.2),(88,.ptr ⟨0,[]⟩ 0),(90,.agg (dN.cells bM.Sym))]) (G2:=[(91,ae cb.1),(0,.obj (dK.cells cb.2)),(5,.obj (fp.cells a2)),(7,ae s2.2.2.2.2)]) (bq.call q q (h0.lI (G2:=[(5,.obj (fp.cells a2)),(7,ae s2.2.2.2.2)]) (A:=[]) (ys:=[.ptr ⟨0,[]⟩ 0,.agg (dN.cells bM.Sym)]) (args:=[.obj (dK.cells s2.1),.agg (dN.cells bM.Sym)]) (cs':=dK.cells cb.2) (k0:=0) q q q q (.b q (.n q .nil)) q (bL.go mx) call120 (rl q q) q q (rl q q) .nil q)) q (.n q (.n q (.n q (.q q q q (.n q .nil))))) q q q) q q (by kernel_rfl) q q q (.c (.inl ⟨6,[1],_,_,_,_,q,by simp [r'],q,q,Nat.le_refl _⟩) q q q q q (fb.wanted .none) (O.xp (y:=.bf ax.z ⟨6,[1]⟩ s2.2.1.length) q .z5 G9 q q) (.c (.inr (.inr (.inr (.inl ⟨6,_,_,q,q,iN q,by simp,_,q,iN q⟩)))) q q q q q (fb.wanted .none) (O.nm q .z4 MB q) .nil)) (by kernel_rfl)<|bA.gr 6 (x:=ak ax [cb.1]) (O.dr (ys:=[ae cb.1]) ax [cb.1] ju q q q q q q o6 q q) q q q q .none<|aG 7 (O.ap (en:=ax) (r:=dS) .di q .z2 .i pX q I4)<|aG 8 O.bI<|bA.jB 9 (bq.sp [0,5,6,7])<|bA.fin q q q (mC q q q q)) ?_;exact sm h ▸ aF.ev
      ·refine W.cR [0,5,6,7,8,95] ?_;refine aU h λiB aj h=>W.gp [0,5,6,7] [(0,.obj [ao bT s2.1.aC.aZ,ao bx s2.1.aC.bX,ao cx iB.1,aw s2.1.aC.b5,aw s2.1.aC.b',ao cj s2.1.cf,ao bx s2.1.cv,ao cI s2.1.bZ,ae s2.1.cL,ae s2.1.dc,aw s2.1.c_,ae s2.1.cc,ae iB.2.1]),(6,.obj [ae (aH (1+aX)),ao ax iB.2.2.1,ae (-1),aw iB.2.2.2.1,.aT,ae iB.2.2.2.2])] ?_ ?_
       ·clear h; have h:=aj; clear aj;refine W.ca h q (λBo h=>?_) (λBo h=>?_)
        ·refine W.rd [[],[0],[],[2],[0,1],[0,1,4],aE 0 6 [],aE 0 7 []] [(0,_),(5,_),(6,_),(7,_)] fY (by kernel_rfl) (aG 0 O.bI<|aG 1 O.eE<|aG 2 O.bI<|aG 3 O.eE<|aG 4 O.bI<|bA.e1 5 (G2:=[(0,.obj (dK.cells s2.1)),(5,.obj (fp.cells a2)),(6,.obj [ae (aH (1+aX)),ao ax s2.2.1,ae (-1),aw bM.Code,.aT,ae s2.2.2.2.1]),(7,ae s2.2.2.2.2),(8,.obj (fE.cells bM))]) (U:=[(3,105,some (ae bM.At)),(2,104,some (.ptr ⟨8,[]⟩ 5))]) (il.v (bq.ka (bq.kj (G2:=[(0,.obj (dK.cells s2.1)),(5,.obj (fp.cells a2)),(6,.obj [ae (aH (1+aX)),ao ax s2.2.1,ae (-1),aw bM.Code,.aT,ae s2.2.2.2.1]),(7,ae s2.2.2.2.2),(8,.obj (fE.cells bM))]) (cs2:=[ae (aH (1+aX)),ao ax s2.2.1,ae (-1),aw bM.Code,.aT,ae s2.2.2.2.1]) q q q (.ptr q) (.lit q) q Qf q q q q (.n q q (.n q q (.b q (.n q q (.n q q .nil)))))))) q q (by kernel_rfl) q q q (.c (.inr (.inl ⟨_,q⟩)) q q q q q (fb.wanted .none) (O.pA q .z5 sr q) (.c (.inr (.inr (.inr (.inl ⟨8,_,_,q,q,iN q,by simp,_,q,iN q⟩)))) q q q q q (fb.wanted .none) (O.nm q .z4 TS q) .nil)) (by kernel_rfl)<|aG 6 O.bI<|bA.jB 7 (bq.o0 [0,5,6,7])<|bA.fin q q q (mC q q q q)) ?_;exact sm h ▸ aF.ev
        ·refine W.dm [0,5,6,7,8] (ay (O.a6 .z4)<|ay (O.eD .z5)<|ay O.y2<|ay O.eE<|ay (O.add .bD .de)<|ay (O.eD .z5)<|ay O.y2<|aD.e3 (bq.o0 [0,5,6,7,8])<|bV q) ?_;refine W.bW<|aU h λc0 ny h=>aU h λb7 um h=>W.rd [[],[],[1],[1,2],[1,2,3],[1,2,3,4],[],[6],[6,7],[6,7,8],[6,7,8,9],[],[11],[11,12],[11,12,13],aE 6 9 [],[],[16],[],[],[19],[18,19,20],[],[22],aE 6 18 [],aE 6 19 [],aE 1 25 [],aE 0 27 [],aE 0 28 [],aE 0 29 [],aE 0 30 []] [(0,_),(5,_),(6,_),(7,_)] fY (by kernel_rfl) (aG 0 (O.a6 .z4)<|aG 1 (O.a6 .z4)<|aG 2 (O.eD .z5)<|aG 3 O.y2<|aG 4 O.y2<|aG 5 (O.dd (y:=.bf cx.z ⟨0,[2]⟩ s2.1.aC.bd.length))<|aG 6 (O.a6 .z4)<|aG 7 (O.eD .z5)<|aG 8 O.y2<|aG 9 (O.dd (y:=.bf cI.z ⟨0,[7]⟩ s2.1.bZ.length))<|aG 10 (O.nF .di FG)<|aG 11 (O.a6 .z4)<|aG 12 (O.eD .z5)<|aG 13 O.y2<|aG 14 O.eE<|aG 15 (O.add .bD .bD)<|aG 16 O.bI<|aG 17 O.eE<|aG 18 (O.dr (ys:=[]) ax ([]:List Int) ju q q q q q q o6 q q)<|aG 19 O.bI<|aG 20 (O.dd (y:=.bf ax.z ⟨6,[1]⟩ s2.2.1.length))<|aG 21 (O.ap (en:=ax) (r:=c0) .z3 q .di (.flat ax q) pX q ny)<|aG 22 O.bI<|aG 23 O.eE<|aG 24 (O.e1 (cs:=[ae (aH ((s2.1.bZ.length:Int)+(aH (s2.1.bU+1)))),.aT,ae (-1),aw bM.Code,.bf ax.z ⟨57,[]⟩ (([]:List Int).length+s2.2.1.length),ae bM.At]) Kv Gb q q q)<|aG 25 (O.tF (ys:=[.agg [ae (aH ((s2.1.bZ.length:Int)+(aH (s2.1.bU+1)))),.aT,ae (-1),aw bM.Code,.bf ax.z ⟨57,[]⟩ (([]:List Int).length+s2.2.1.length),ae bM.At]]) (cs:=[ae (aH ((s2.1.bZ.length:Int)+(aH (s2.1.bU+1)))),.aT,ae (-1),aw bM.Code,.bf ax.z ⟨57,[]⟩ (([]:List Int).length+s2.2.1.length),ae bM.At]) FF q q q q q K3 q q)<|aG 26 (O.RN (en:=cx) (M:=[(⟨aH ((s2.1.bZ.length:Int)+(aH (s2.1.bU+1))),([]:List Int),(-1),bM.Code,([]:List Int)++s2.2.1,bM.At⟩:Prod)]) (r:=b7) .di q .z3 q q q q LG q um (xx (by kernel_rfl) (by kernel_rfl)))<|aG 27 (O.eD .z5)<|aG 28 O.y2<|aG 29 O.y2<|bA.jB 30 (G2:=[(0,.obj [ao bT s2.1.aC.aZ,ao bx s2.1.aC.bX,ao cx (s2.1.aC.bd++[(⟨aH ((s2.1.bZ.length:Int)+(aH (s2.1.bU+1))),([]:List Int),(-1),bM.Code,([]:List Int)++s2.2.1,bM.At⟩:Prod)]),aw s2.1.aC.b5,aw s2.1.aC.b',ao cj s2.1.cf,ao bx s2.1.cv,ao cI s2.1.bZ,ae s2.1.cL,ae s2.1.dc,aw s2.1.c_,ae s2.1.cc,ae (aH (s2.1.bU+1))]),(5,.obj (fp.cells a2)),(6,.obj [ae (aH (1+aX)),ao ax s2.2.1,ae (-1),aw s2.2.2.1,.aT,ae s2.2.2.2.1]),(7,ae s2.2.2.2.2)]) (bq.FJ (g1:=_) (en:=cx) (M:=[(⟨aH ((s2.1.bZ.length:Int)+(aH (s2.1.bU+1))),([]:List Int),(-1),bM.Code,([]:List Int)++s2.2.1,bM.At⟩:Prod)]) (cs2:=[ao bT s2.1.aC.aZ,ao bx s2.1.aC.bX,ao cx (s2.1.aC.bd++[(⟨aH ((s2.1.bZ.length:Int)+(aH (s2.1.bU+1))),([]:List Int),(-1),bM.Code,([]:List Int)++s2.2.1,bM.At⟩:Prod)]),aw s2.1.aC.b5,aw s2.1.aC.b',ao cj s2.1.cf,ao bx s2.1.cv,ao cI s2.1.bZ,ae s2.1.cL,ae s2.1.dc,aw s2.1.c_,ae s2.1.cc,ae (aH (s2.1.bU+1))]) q q (.ptr q) (.bC q) q q q (.f (.f (.f (.f (.hV q q q .ij (.f .nil)))))) (.f (.z (.f (.f (.z (hv:=iV.hV q q) (.f .nil)))))) q q Zw q q q q (.b q (.n q q (.n q q (.n q q .nil)))))<|bA.fin q q q (mC q q q q)) ?_;refine aF.bS<|aU h λbO mW h=>W.rd [[],[0],[],[2],[2,3],[2,3,4],[2,3,4,5],aE 2 5 [],[],[8],[8,9],[8,9,10],aE 2 10 [],aE 2 11 [],aE 0 14 [],aE 0 15 [],aE 0 16 []] [(0,_),(5,_),(6,_),(7,_)] fY (by kernel_rfl) (aG 0 O.bI<|aG 1 (O.dd (y:=.bf ax.z ⟨6,[1]⟩ s2.2.1.length))<|aG 2 (O.a6 .z4)<|aG 3 (O.eD .z5)<|aG 4 O.y2<|aG 5 (O.dd (y:=.bf cI.z ⟨0,[7]⟩ s2.1.bZ.length))<|aG 6 (O.nF .di FG)<|aG 7 (O.add .de .bD)<|aG 8 (O.a6 .z4)<|aG 9 (O.eD .z5)<|aG 10 O.y2<|aG 11 O.eE<|aG 12 (O.add .bD .bD)<|bA.gr 13 (x:=ak ax [aH ((aH (1000+(s2.1.bZ.length:Int)))+(aH (s2.1.bU+1)))]) (O.dr (ys:=[ae (aH ((aH (1000+(s2.1.bZ.length:Int)))+(aH (s2.1.bU+1))))]) ax [aH ((aH (1000+(s2.1.bZ.length:Int)))+(aH (s2.1.bU+1)))] ju q q q q q q o6 q q) q q q q .none<|aG 14 (O.ap (en:=ax) (r:=bO) .di q .z2 .i pX q mW)<|aG 15 O.bI<|bA.jB 16 (bq.sp [0,5,6,7])<|bA.fin q q q (mC q q q q)) ?_;exact sm h ▸ aF.ev
       exact sm h ▸ aF.ev
     exact aF.cD<|sm h ▸ aF.ev
    exact aF.cD<|sm h ▸ aF.ev
   refine aF.bS<|W.b6 [0,5,6,7] (dv q<|ay (O.add .bD .de)<|aD.b6 [0,5,6,23] q<|aD.bB) ?_;exact sm h ▸ aF.gt
  ·exact W.gD<|aF.gC<|sm h ▸ aF.t1
 refine aF.gw<|aF.bS<|W.bW<|W.cR [0,5,6,9] ?_;refine W.cD<|aU h λfj ai h=>W.hL ((-1),0) (λ(s8:Int × Int)=>[(6,.obj [ae (aH (1+aX)),ao ax aY.2.1,ae s8.1,aw aY.2.2.1,.aT,ae aY.2.2.2]),(9,ae s8.2)]) [0,5,6,9] 3 (λ(fj:Int)=>[(6,.obj [ae (aH (1+aX)),ao ax aY.2.1,ae fj,aw aY.2.2.1,.aT,ae aY.2.2.2])]) [0,5,6] ai (λs8 o h=>?_) ?_
 ·clear ai;refine W.bW<|W.cR [0,5,6,9,112] ?_;refine W.ca h q (λlE h=>?_) (λlE h=>?_)
  ·refine W.dC<|aF.bS<|W.bW<|aU h λmz aj h=>W.gp [0,5,6,9] [(6,.obj [ae (aH (1+aX)),ao ax aY.2.1,ae mz,aw aY.2.2.1,.aT,ae aY.2.2.2])] ?_ ?_
   ·clear h; have h:=aj; clear aj;refine W.cD<|aU h λfx EG h=>W.dm [0,5,6,9,120] (ay O.bI<|ay (O.dd (y:=.bf ax.z ⟨6,[1]⟩ aY.2.1.length))<|dv q<|ay (O.gI (en:=ax) q .di .bD ju EG q)<|ay (O.jT (en:=ax) (x':=ae fx) q .z5 sr EG q q)<|aD.bB) ?_;refine aU h λr5 aj h=>W.gp [0,5,6,9] [(6,.obj [ae (aH (1+aX)),ao ax aY.2.1,ae r5,aw aY.2.2.1,.aT,ae aY.2.2.2])] ?_ ?_
    ·clear h; have h:=aj; clear aj;refine W.ca h q (λU5 h=>?_) (λU5 h=>?_)
     ·refine aU h λgW BW h=>W.b6 [0,5,6,9] (ay O.bI<|ay (O.dd (y:=.bf ax.z ⟨6,[1]⟩ aY.2.1.length))<|dv q<|ay (O.gI (en:=ax) q .di .bD ju BW q)<|ay (O.jT (en:=ax) (x':=ae gW) q .z5 sr BW q q)<|ay O.bI<|aD.e3 (bq.o0 [0,5,6,9])<|bV q) ?_;exact sm h ▸ aF.ev
     ·exact W.dC<|sm h ▸ aF.ev
    exact aF.cD<|sm h ▸ aF.ev
   refine aF.bS<|W.b6 [0,5,6,9] (dv q<|ay (O.add .bD .de)<|aD.b6 [0,5,6,114] q<|aD.bB) ?_;exact sm h ▸ aF.gt
  ·exact W.gD<|aF.gC<|sm h ▸ aF.t1
 refine aF.gw<|aF.bS<|W.bW<|W.cR [0,5,6,130] ?_;refine aU h λjS aj h=>W.gp [0,6] [(0,.obj (dK.cells jS.1)),(6,.obj [ae (aH (1+aX)),ao ax aY.2.1,ae jS.2,aw aY.2.2.1,.aT,ae aY.2.2.2])] ?_ ?_
 ·clear h; have h:=aj; clear aj;refine W.ca h q (λH2 h=>?_) (λH2 h=>?_)
  ·refine W.dm [0,5,6] (ay O.bI<|aD.e3 (bq.o0 [0,5,6])<|bV q) ?_;refine aU h λtH aj h=>W.od [0,5,6,142] [(142,bc tH)] ?_ ?_
   ·refine ay O.bI<|ay O.y2<|ay O.eE<|ay (O.a6 (.lit q)) ?_;rcases hR aj with ⟨za,aj⟩ | ⟨za,aj⟩
    ·exact sm aj ▸ aD.bB
    ·refine cr za (O.a6 .z4)<|cr za O.bI<|cr za O.y2<|cr za O.eE ?_;exact aU aj λhs r0 aj=>sm aj ▸ (aD.c (cZ.se (ys:=[.ptr ⟨0,[]⟩ 0,aw a2.Prec.Name]) q (.c (View.pF q q) (.s .nil)) (bL.go r0)) q q (.l9 q q za)<|aD.bB)
   refine aU h λpz aj h=>W.gp [0,6] [(0,.obj (dK.cells pz.1)),(6,.obj [ae (aH (1+aX)),ao ax aY.2.1,ae pz.2,aw aY.2.2.1,.aT,ae aY.2.2.2])] ?_ ?_
   ·clear h; have h:=aj; clear aj;refine W.ca h q (λnq h=>?_) (λnq h=>?_)
    ·refine aU h λjd uo h=>W.b6 [0,6] (ay (O.a6 .z4)<|ay O.bI<|ay (O.fa (cs':=dN.cells a2.Prec) q .z5 yO q q)<|aD.nZ q (bq.call q q (h0.lI (G2:=[(6,.obj [ae (aH (1+aX)),ao ax aY.2.1,ae (-1),aw aY.2.2.1,.aT,ae aY.2.2.2])]) (A:=[]) (ys:=[.ptr ⟨0,[]⟩ 0,.agg (dN.cells a2.Prec)]) (args:=[.obj (dK.cells aY.1),.agg (dN.cells a2.Prec)]) (cs':=dK.cells jd.2) (k0:=0) q q q q (.b q (.n q .nil)) q (bL.go uo) call120 (.n q .nil) q q (.n q .nil) .nil q))<|ay O.bI<|aD.e3 (bq.o0 [0,6])<|bV q) ?_;exact sm h ▸ aF.ev
    ·refine aU h λfk I8 h=>W.b6 [0,6] (ay (O.a6 .z4)<|ay O.bI<|ay O.y2<|ay O.eE<|ay O.bI<|ay O.y2<|ay O.eE<|aD.nZ q (bq.call q q (h0.lI (G2:=[(6,.obj [ae (aH (1+aX)),ao ax aY.2.1,ae (-1),aw aY.2.2.1,.aT,ae aY.2.2.2])]) (A:=[]) (ys:=[.ptr ⟨0,[]⟩ 0,ae a2.Prec.At,aw a2.Prec.Name]) (args:=[.obj (dK.cells aY.1),ae a2.Prec.At,aw a2.Prec.Name]) (cs':=dK.cells fk) (k0:=0) q q q q (.b q (.n q (.n q .nil))) q (bL.go I8) call101 (.n q .nil) q q (.n q .nil) .nil q))<|bV q) ?_;exact sm h ▸ aF.ev
   exact sm h ▸ aF.ev
  ·exact W.dC<|sm h ▸ aF.ev
 refine aF.bS<|aU h λkQ xd h=>W.dm [0,6] (ay (O.dr (ys:=[]) ax ([]:List Int) ju q q q q q q o6 q q)<|ay O.bI<|ay (O.dd (y:=.bf ax.z ⟨6,[1]⟩ aY.2.1.length))<|ay (O.ap (en:=ax) (r:=kQ) .z3 q .di (.flat ax q) pX q xd)<|ay O.bI<|aD.e3 (bq.sp [0,6])<|bV q) ?_;refine W.dG (G1:=[(0,_),(6,.obj [ae (aH (1+aX)),ak ax aY.2.1,ae jS.2,aw aY.2.2.1,ao ax (([]:List Int)++aY.2.1),ae aY.2.2.2])]) [6] (.n q q (.z q q (fA.obj (.f (.z (.f (.f (.f (.f .nil))))))) .nil)) ?_;refine W.dG (G1:=[(0,_),(6,.obj [ae (aH (1+aX)),ak ax aY.2.1,ae jS.2,aw aY.2.2.1,ak ax (([]:List Int)++aY.2.1),ae aY.2.2.2])]) [6] (.n q q (.z q q (fA.obj (.f (.f (.f (.f (.z (.f .nil))))))) .nil)) ?_;refine aU h λjI qT h=>W.rd [[],[],[1],[1,2],[1,2,3],[1,2,3,4],[],[6],aE 1 7 [],aE 0 9 [],aE 0 10 [],aE 0 11 [],aE 0 12 []] [(0,_)] fY (by kernel_rfl) (aG 0 (O.a6 .z4)<|aG 1 (O.a6 .z4)<|aG 2 (O.eD .z5)<|aG 3 O.y2<|aG 4 O.y2<|aG 5 (O.dd (y:=.bf cx.z ⟨0,[2]⟩ jS.1.aC.bd.length))<|aG 6 (O.fa (cs':=[ae (aH (1+aX)),ak ax aY.2.1,ae jS.2,aw aY.2.2.1,ak ax (([]:List Int)++aY.2.1),ae aY.2.2.2]) q .z4 RY q q)<|bA.gr 7 (x:=ak cx [(⟨aH (1+aX),aY.2.1,jS.2,aY.2.2.1,([]:List Int)++aY.2.1,aY.2.2.2⟩:Prod)]) (O.dr (ys:=[.agg [ae (aH (1+aX)),ak ax aY.2.1,ae jS.2,aw aY.2.2.1,ak ax (([]:List Int)++aY.2.1),ae aY.2.2.2]]) cx [(⟨aH (1+aX),aY.2.1,jS.2,aY.2.2.1,([]:List Int)++aY.2.1,aY.2.2.2⟩:Prod)] FF q q q q q q K3 q q) q q q q .none<|aG 8 (O.ap (en:=cx) (r:=jI) .di q .z2 .i LG q qT)<|aG 9 (O.eD .z5)<|aG 10 O.y2<|aG 11 O.y2<|bA.jB 12 (bq.sp [0])<|bA.fin q q q (.n q .nil)) ?_;exact sm h ▸ aF.fin (Fin.ro .nil q (Cq (by kernel_rfl)) (.ag q q (.no (.no .nil))) q (.inl q))
instance aay {a0:dh}{aB:ByteArray}{a2:Alt}{r:dh}:bL prog 104 (sY a0 aB a2=some r) [.obj (dK.cells a0),aw aB,.agg (fp.cells a2)] [some (.obj [ao bT r.aC.aZ,ao bx r.aC.bX,ao cx r.aC.bd,aw r.aC.b5,aw r.aC.b',ao cj r.cf,ao bx r.cv,ao cI r.bZ,ae r.cL,ae r.dc,aw r.c_,ae r.cc,ae r.bU]),none,none] (.bQ []):=⟨S5 a0 aB a2 _⟩
theorem Tj (a0:Source) (r:bs × Int × Int × ByteArray) (h:s5 a0=some r):bY prog 81 [.agg (fv.cells a0)] [none] (.bQ [.agg (cV.cells r.1),ae r.2.1,ae r.2.2.1,aw r.2.2.2]):=by
 unfold s5 at h;refine bY.go (N:=⟨435,[]⟩) func81 q q q q (W.fin ?_);refine W.st [(0,.agg (fv.cells a0))] ?_;refine W.dm [1,2] (ay (O.box (.ea q q) q)<|ay (O.hf (cs:=[.aT,.aT,.aT,aw bg,aw bg]) ru q q)<|aD.bB) ?_;refine W.bW<|aU h λaX jP h=>W.dm [1,2,28] (ay (O.fa (cs':=fv.cells a0) q .z4 u6 q q)<|hz (cZ.fV (.c9 (.ea q q) .nil) (bL.go jP))<|aD.bB) ?_;refine W.ca h q (λfH h=>?_) (λfH h=>?_)
 ·refine W.dm [2,3,4,5] (ay (O.e1 (cs:=[.aT,.aT,.aT,aw bg,aw bg]) Kw ru q q q)<|aD.e3 (bq.hD [2])<|aD.bB) ?_;refine W.dG (G1:=[(2,.obj [ak bT ([]:List Tok),ak bx ([]:List fg),ak cx ([]:List Prod),aw bg,aw bg]),(3,_),(4,_),(5,_)]) [2] (.z q q (fA.obj (.z (.z (.z (.f (.f .nil)))))) (.n q q (.n q q (.n q q .nil)))) ?_;exact W.rt<|aF.kk<|sm h ▸ hn (.c (ys0:=[ak bT ([]:List Tok),ak bx ([]:List fg),ak cx ([]:List Prod),aw bg,aw bg]) q hF q q q (.f q (.f q (.f q (.f q (.f q .nil))))) (.f q q (.f q q (.f q q .nil))))
 ·refine W.dC<|aF.bS<|aU h λaY jQ h=>W.dm [1,2,6] (ay (O.mk (en:=cj) (z0:=false) rh .de .de KY q q jQ GG q)<|ay (O.e1 (cs:=[.aT,.aT,.aT,aw bg,aw bg,.bf cj.z ⟨30,[]⟩ aY.length,.aT,.aT,ae 0,ae 0,aw bg,ae 0,ae 0]) Y5 aac q q q)<|ay (O.box (.ea q q) q)<|aD.tM (G2:=[(1,.obj (fv.cells a0)),(2,.obj [.aT,.aT,.aT,aw bg,aw bg])]) q (bq.yJ (y':=.obj [.aT,.aT,.aT,aw bg,aw bg,ao cj aY,.aT,.aT,ae 0,ae 0,aw bg,ae 0,ae 0]) q q (.obj q) (.b q (.f (.f (.f (.f (.f (.r q (.f (.f (.f (.f (.f (.f (.f .nil))))))))))))) .nil) .refl (rl q q) q q)<|bV q) ?_;refine W.dm [1,2,6] (ay (O.a6 .z4)<|ay (O.e1 (cs:=[aw (⟨#[36,101,110,100]⟩),bc false,ae 0,ae 0,ae 0,aw bg]) Kx K1 q q q)<|ay (O.e1 (cs:=[aw (⟨#[101,114,114,111,114]⟩),bc false,ae (-1),ae 0,ae 0,aw bg]) Kx K1 q q q)<|ay (O.e1 (cs:=[aw (⟨#[36,117,110,107]⟩),bc false,ae (-1),ae 0,ae 0,aw bg]) Kx K1 q q q)<|ay (O.dr (ys:=[.agg [aw (⟨#[36,101,110,100]⟩),bc false,ae 0,ae 0,ae 0,aw bg],.agg [aw (⟨#[101,114,114,111,114]⟩),bc false,ae (-1),ae 0,ae 0,aw bg],.agg [aw (⟨#[36,117,110,107]⟩),bc false,ae (-1),ae 0,ae 0,aw bg]]) bT [(⟨⟨#[36,101,110,100]⟩,false,0,0,0,bg⟩:Tok),(⟨⟨#[101,114,114,111,114]⟩,false,(-1),0,0,bg⟩:Tok),(⟨⟨#[36,117,110,107]⟩,false,(-1),0,0,bg⟩:Tok)] FE q q q q q q aaj q q)<|ay (O.eD .z5)<|ay O.y2<|ay O.y2<|aD.e3 (bq.uP [1,2,6])<|bV q) ?_;refine W.cR [1,2,6,7] ?_;refine W.bW<|W.cR [1,2,6,7,8] ?_;refine W.cD<|aU h λbF ai h=>W.hL ((⟨(⟨[(⟨⟨#[36,101,110,100]⟩,false,0,0,0,bg⟩:Tok),(⟨⟨#[101,114,114,111,114]⟩,false,(-1),0,0,bg⟩:Tok),(⟨⟨#[36,117,110,107]⟩,false,(-1),0,0,bg⟩:Tok)],[],[],bg,bg⟩:bs),aY,[],[],0,0,bg,0,0⟩:dh),bg,0) (λ(cX:dh × ByteArray × Int)=>[(6,.obj (dK.cells cX.1)),(7,aw cX.2.1),(8,ae cX.2.2)]) [1,2,6,7,8] 0 (λ(bF:dh × ByteArray)=>[(6,.obj (dK.cells bF.1)),(7,aw bF.2)]) [1,2,6,7] ai (λcX o h=>?_) ?_
  ·clear ai;refine W.bW<|W.cR [1,2,6,7,8,45] ?_;refine W.ca h q (λH5 h=>?_) (λH5 h=>?_)
   ·refine W.dC<|aF.bS<|W.bW<|W.cD<|aU h λb2 r1 h=>W.dm [1,2,6,7,8,9] (ay O.bI<|ay (O.dd (y:=ak dJ a0.Decls))<|dv q<|ay (O.gE r1)<|ay (O.sQ (cs':=dJ.cells b2) .uU LM q q)<|ay (O.hf (cs:=[ae 0,aw bg,.aT,ae 0]) QG q q)<|aD.e3 (bq.hD [1,2,6,7,8,9])<|bV q) ?_;refine W.bW<|aU h λhI aj h=>W.od [1,2,6,7,8,9,60] [(60,bc hI)] ?_ ?_
    ·refine ay O.bI<|ay O.eE<|ay (O.geq .bD .de)<|ay (O.a6 (.lit q)) ?_;rcases hR aj with ⟨wX,aj⟩ | ⟨wX,aj⟩
     ·exact sm aj ▸ aD.bB
     ·exact sm aj ▸ aD.bB
    refine aU h λja aj h=>W.gp [1,2,6,7,8,9] [(6,.obj [ao bT cX.1.aC.aZ,ao bx cX.1.aC.bX,ao cx cX.1.aC.bd,aw cX.1.aC.b5,aw cX.1.aC.b',ao cj cX.1.cf,ao bx cX.1.cv,ao cI cX.1.bZ,ae cX.1.cL,ae cX.1.dc,aw cX.1.c_,ae ja,ae cX.1.bU])] ?_ ?_
    ·clear h; have h:=aj; clear aj;refine W.ca h q (λiy h=>?_) (λiy h=>?_)
     ·refine W.b6 [1,2,6,7,8,9] (ay (O.a6 .z4)<|ay (O.eD .z5)<|ay O.y2<|ay O.eE<|ay (O.add .bD .de)<|ay (O.eD .z5)<|ay O.y2<|aD.e3 (bq.o0 [1,2,6,7,8,9])<|bV q) ?_;exact sm h ▸ aF.ev
     ·exact W.dC<|sm h ▸ aF.ev
    refine aF.bS<|W.cR [1,2,6,7,8,9,10] ?_;refine W.cD<|aU h λec ai h=>W.hL ((⟨cX.1.aC,cX.1.cf,cX.1.cv,cX.1.bZ,cX.1.cL,cX.1.dc,cX.1.c_,ja,cX.1.bU⟩:dh),cX.2.1,0) (λ(hr:dh × ByteArray × Int)=>[(6,.obj (dK.cells hr.1)),(7,aw hr.2.1),(10,ae hr.2.2)]) [1,2,6,7,8,9,10] 2 (λ(ec:dh × ByteArray)=>[(6,.obj (dK.cells ec.1)),(7,aw ec.2)]) [1,2,6,7,8] ai (λhr o h=>?_) ?_
    ·clear ai;refine W.bW<|W.cR [1,2,6,7,8,9,10,72] ?_;refine W.ca h q (λBp h=>?_) (λBp h=>?_)
     ·refine W.dC<|aF.bS<|W.bW<|aU h λB5 aj h=>W.gp [1,2,6,7,8,9,10] [(6,.obj (dK.cells B5.1)),(7,aw B5.2)] ?_ ?_
      ·clear h; have h:=aj; clear aj;refine W.cD<|W.bW<|W.cR [1,2,6,7,8,9,10,77] ?_;refine W.ca h q (λiz h=>?_) (λiz h=>?_)
       ·refine W.bW<|aU h λfj rY h=>aU h λe5 xb h=>W.rd [[],[],[],[2],[],[2,3,4],[2,3,4,5],aE 0 7 []] [(1,_),(2,_),(6,_),(7,_),(8,_),(9,_),(10,_)] fY (by kernel_rfl) (aG 0 (O.a6 .z4)<|aG 1 (O.fa (cs':=dJ.cells b2) q .z4 LM q q)<|aG 2 O.bI<|aG 3 (O.dd (y:=ak dN b2.ey))<|aG 4 (O.a6 (.lit q))<|aG 5 (O.gE rY)<|aG 6 (O.sQ (cs':=dN.cells fj) .uU yO q q)<|bA.jB 7 (G2:=[(85,.bQ []),(6,.obj (dK.cells e5)),(1,.obj (fv.cells a0)),(2,.obj [.aT,.aT,.aT,aw bg,aw bg]),(7,aw hr.2.1),(8,ae cX.2.2),(9,.obj (dJ.cells b2)),(10,ae hr.2.2)]) (bq.call q q (h0.lI (G2:=[(1,.obj (fv.cells a0)),(2,.obj [.aT,.aT,.aT,aw bg,aw bg]),(7,aw hr.2.1),(8,ae cX.2.2),(9,.obj (dJ.cells b2)),(10,ae hr.2.2)]) (A:=[]) (ys:=[.ptr ⟨6,[]⟩ 0,.agg (dJ.cells b2),.agg (dN.cells fj)]) (args:=[.obj (dK.cells hr.1),.agg (dJ.cells b2),.agg (dN.cells fj)]) (cs':=dK.cells e5) (k0:=0) q q q q (.b q (.n q (.n q .nil))) q (bL.go xb) call100 (rm q q q q q q) q q (rm q q q q q q) .nil q))<|bA.fin q q q (tc q q q q q q q)) ?_;exact aF.bS<|W.gD<|aF.gC<|aF.gw<|sm h ▸ aF.ev
       ·refine W.dC<|aF.bS<|W.bW<|W.cR [1,2,6,8,9,10,87] ?_;refine aU h λk' aj h=>W.gp [1,2,6,8,9,10] [(6,.obj (dK.cells k'))] ?_ ?_
        ·clear h; have h:=aj; clear aj;refine W.ca h q (λU3 h=>?_) (λU3 h=>?_)
         ·refine aU h λfx EG h=>aU h λhc xc h=>aU h λhY rZ h=>W.rd [[],[],[1],[],[1,2,3],[1,2,3,4],aE 1 5 [],[],[7],[],[7,8,9],[7,8,9,10],aE 7 5 [],aE 0 13 []] [(1,_),(2,_),(6,_),(8,_),(9,_),(10,_)] fY (by kernel_rfl) (aG 0 (O.a6 .z4)<|aG 1 O.bI<|aG 2 (O.dd (y:=ak dN b2.ey))<|aG 3 (O.a6 (.lit q))<|aG 4 (O.gE EG)<|aG 5 O.oh<|aG 6 (O.ht (x:=ae fx.At))<|aG 7 O.bI<|aG 8 (O.dd (y:=ak dN b2.ey))<|aG 9 (O.a6 (.lit q))<|aG 10 (O.gE xc)<|aG 11 O.oh<|aG 12 (O.ht (x:=aw hc.Name))<|bA.jB 13 (G2:=[(101,.bQ []),(6,.obj (dK.cells hY)),(1,.obj (fv.cells a0)),(2,.obj [.aT,.aT,.aT,aw bg,aw bg]),(8,ae cX.2.2),(9,.obj (dJ.cells b2)),(10,ae hr.2.2)]) (bq.call q q (h0.lI (G2:=[(1,.obj (fv.cells a0)),(2,.obj [.aT,.aT,.aT,aw bg,aw bg]),(8,ae cX.2.2),(9,.obj (dJ.cells b2)),(10,ae hr.2.2)]) (A:=[]) (ys:=[.ptr ⟨6,[]⟩ 0,ae fx.At,aw hc.Name]) (args:=[.obj (dK.cells hr.1),ae fx.At,aw hc.Name]) (cs':=dK.cells hY) (k0:=0) q q q q (.b q (.n q (.n q .nil))) q (bL.go rZ) call101 (sd q q q q q) q q (sd q q q q q) .nil q))<|bA.fin q q q (rm q q q q q q)) ?_;exact sm h ▸ aF.ev
         ·exact W.dC<|sm h ▸ aF.ev
        refine aF.bS<|aU h λgW BW h=>W.RC [1,2,6,7,8,9,10] ?_;exact aF.cD<|sm h ▸ aF.ev
      refine aF.bS<|W.b6 [1,2,6,7,8,9,10] (dv q<|ay (O.add .bD .de)<|aD.b6 [1,2,6,7,8,9,74] q<|aD.bB) ?_;exact sm h ▸ aF.gt
     ·exact W.gD<|aF.gC<|sm h ▸ aF.t1
    refine aF.gw<|aF.cD<|aF.bS<|W.b6 [1,2,6,7,8] (dv q<|ay (O.add .bD .de)<|aD.b6 [1,2,6,7,47] q<|aD.bB) ?_;exact sm h ▸ aF.gt
   ·exact W.gD<|aF.gC<|sm h ▸ aF.t1
  refine aF.gw<|aF.bS<|W.bW<|W.cR [1,2,6,7,11] ?_;refine W.cD<|aU h λcE ai h=>W.hL (bF.1,0) (λ(qt:dh × Int)=>[(6,.obj (dK.cells qt.1)),(11,ae qt.2)]) [1,2,6,7,11] 4 (λ(cE:dh)=>[(6,.obj (dK.cells cE))]) [1,2,6,7] ai (λqt o h=>?_) ?_
  ·clear ai;refine W.bW<|W.cR [1,2,6,7,11,112] ?_;refine W.ca h q (λU7 h=>?_) (λU7 h=>?_)
   ·refine W.dC<|aF.bS<|W.bW<|aU h λxl aj h=>W.gp [1,2,6,7,11] [(6,.obj (dK.cells xl))] ?_ ?_
    ·clear h; have h:=aj; clear aj;refine W.cD<|aU h λe0 I7 h=>W.dm [1,2,6,7,11,12] (ay O.bI<|ay (O.dd (y:=ak iv a0.dF))<|dv q<|ay (O.gE I7)<|ay (O.sQ (cs':=iv.cells e0) .uU R4 q q)<|ay (O.hf (cs:=[aw bg,.aT,ae 0]) KZ q q)<|aD.e3 (bq.hD [1,2,6,7,11,12])<|bV q) ?_;refine W.bW<|aU h λkP vy h=>W.dm [1,2,6,7,11,12,125] (ay (O.a6 .z4)<|ay O.bI<|ay O.eE<|ay (O.e1 (cs:=[aw e0.Left,bc false,ae 0,ae 0]) PQ Ge q q q)<|hz (cZ.se (ys:=[.ptr ⟨6,[]⟩ 0,.agg [aw e0.Left,bc false,ae 0,ae 0]]) q (.c (View.pF q q) (.c (.ov (.s (.s (.s (.s .nil))))) .nil)) (bL.go vy))<|aD.bB) ?_;refine aU h λiC aj h=>W.gp [1,2,6,7,11,12] [(6,.obj (dK.cells iC))] ?_ ?_
     ·clear h; have h:=aj; clear aj;refine W.ca h q (λU9 h=>?_) (λU9 h=>?_)
      ·refine aU h λkQ xd h=>W.b6 [1,2,6,7,11,12] (ay (O.a6 .z4)<|ay O.bI<|ay O.eE<|ay O.bI<|ay O.eE<|aD.nZ q (bq.call q q (h0.lI (G2:=[(1,.obj (fv.cells a0)),(2,.obj [.aT,.aT,.aT,aw bg,aw bg]),(7,aw bF.2),(11,ae qt.2),(12,.obj (iv.cells e0))]) (A:=[]) (ys:=[.ptr ⟨6,[]⟩ 0,ae e0.At,aw e0.Left]) (args:=[.obj (dK.cells qt.1),ae e0.At,aw e0.Left]) (cs':=dK.cells kQ) (k0:=0) q q q q (.b q (.n q (.n q .nil))) q (bL.go xd) call101 (sd q q q q q) q q (sd q q q q q) .nil q))<|bV q) ?_;exact sm h ▸ aF.ev
      ·exact W.dC<|sm h ▸ aF.ev
     refine aF.bS<|aU h λjI qT h=>W.dm [1,2,6,7,11,12,136] (ay (O.a6 .z4)<|ay O.bI<|ay O.eE<|hz (cZ.se (ys:=[.ptr ⟨6,[]⟩ 0,aw e0.Left]) q (.c (View.pF q q) (.s .nil)) (bL.go qT))<|aD.bB) ?_;refine aU h λqW aj h=>W.gp [1,2,6,7,11] [(6,.obj [ao bT iC.aC.aZ,ao bx iC.aC.bX,ao cx iC.aC.bd,aw iC.aC.b5,aw iC.aC.b',ao cj iC.cf,ao bx iC.cv,ao cI qW,ae iC.cL,ae iC.dc,aw iC.c_,ae iC.cc,ae iC.bU])] ?_ ?_
     ·clear h; have h:=aj; clear aj;refine W.ca h q (λU_ h=>?_) (λU_ h=>?_)
      ·refine aU h λo3 BY h=>W.rd [[],[],[1],[1,2],[1,2,3],[],[5],[5,6],aE 1 7 [],aE 0 9 [],aE 0 10 [],aE 0 11 []] [(1,_),(2,_),(6,_),(7,_),(11,_)] fY (by kernel_rfl) (aG 0 (O.a6 .z4)<|aG 1 (O.a6 .z4)<|aG 2 (O.eD .z5)<|aG 3 O.y2<|aG 4 (O.dd (y:=.bf cI.z ⟨6,[7]⟩ iC.bZ.length))<|aG 5 O.bI<|aG 6 O.eE<|bA.gr 7 (x:=ak cI [e0.Left]) (O.dr (ys:=[aw e0.Left]) cI [e0.Left] FG q q q q q q aai q q) q q q q .none<|aG 8 (O.ap (en:=cI) (r:=o3) .di q .z2 .i RJ q BY)<|aG 9 (O.eD .z5)<|aG 10 O.y2<|bA.jB 11 (bq.sp [1,2,6,7,11])<|bA.fin q q q (sd q q q q q)) ?_;exact sm h ▸ aF.ev
      ·exact W.dC<|sm h ▸ aF.ev
     exact aF.cD<|sm h ▸ aF.ev
    refine aF.bS<|W.b6 [1,2,6,7,11] (dv q<|ay (O.add .bD .de)<|aD.b6 [1,2,6,7,114] q<|aD.bB) ?_;exact sm h ▸ aF.gt
   ·exact W.gD<|aF.gC<|sm h ▸ aF.t1
  refine aF.gw<|aF.bS<|W.bW<|W.cR [1,2,6,7,13] ?_;refine W.cD<|aU h λgM ai h=>W.hL (cE,0) (λ(qu:dh × Int)=>[(6,.obj (dK.cells qu.1)),(13,ae qu.2)]) [1,2,6,7,13] 6 (λ(gM:dh)=>[(6,.obj (dK.cells gM))]) [1,2,6,7] ai (λqu o h=>?_) ?_
  ·clear ai;refine W.bW<|W.cR [1,2,6,7,13,152] ?_;refine W.ca h q (λVb h=>?_) (λVb h=>?_)
   ·refine W.dC<|aF.bS<|W.bW<|W.cD<|W.cR [1,2,6,7,13,14] ?_;refine W.cD<|aU h λl7 ai h=>W.hL (qu.1,0) (λ(qv:dh × Int)=>[(6,.obj (dK.cells qv.1)),(14,ae qv.2)]) [1,2,6,7,13,14] 8 (λ(l7:dh)=>[(6,.obj (dK.cells l7))]) [1,2,6,7,13] ai (λqv o h=>?_) ?_
    ·clear ai;refine W.bW<|aU h λrp N2 h=>W.cR [1,2,6,7,13,14,163] ?_;refine W.ca h q (λVc h=>?_) (λVc h=>?_)
     ·refine W.dC<|aF.bS<|W.bW<|aU h λJv aj h=>W.gp [1,2,6,7,13,14] [(6,.obj (dK.cells Jv))] ?_ ?_
      ·clear h; have h:=aj; clear aj;refine W.cD<|aU h λtf zv h=>aU h λpQ vz h=>W.dm [1,2,6,7,13,14,15] (ay O.bI<|ay (O.dd (y:=ak dJ a0.Decls))<|dv q<|ay (O.gE zv)<|ay O.oh<|ay (O.ht (x:=ak dN tf.ey))<|dv q<|ay (O.gE vz)<|ay (O.sQ (cs':=dN.cells pQ) .uU yO q q)<|ay (O.hf (cs:=[aw bg,bc false,ae 0,ae 0]) Ge q q)<|aD.e3 (bq.hD [1,2,6,7,13,14,15])<|bV q) ?_;refine aU h λAV aj h=>W.od [1,2,6,7,13,14,15,188] [(188,bc AV)] ?_ ?_
       ·refine ay O.bI<|ay (O.dd (y:=ak dJ a0.Decls))<|ay (O.a6 (.lit q)) ?_;refine aU aj λKS WX aj=>ay (O.gE WX)<|ay O.oh<|ay (O.ht (x:=ae KS.Kind))<|ay (O.geq .bD .de)<|ay (O.a6 (.lit q)) ?_;rcases hR aj with ⟨Br,aj⟩ | ⟨Br,aj⟩
        ·refine cr Br (O.a6 .z4)<|cr Br O.bI<|cr Br O.eE ?_;exact aU aj λll qU aj=>sm aj ▸ (aD.c (cZ.se (ys:=[.ptr ⟨6,[]⟩ 0,aw pQ.Name]) q (.c (View.pF q q) (.s .nil)) (bL.go qU)) q q (.l9 q q Br)<|aD.bB)
        ·exact sm aj ▸ aD.bB
       refine aU h λJw aj h=>W.gp [1,2,6,7,13,14] [(6,.obj (dK.cells Jw))] ?_ ?_
       ·clear h; have h:=aj; clear aj;refine W.ca h q (λVe h=>?_) (λVe h=>?_)
        ·refine aU h λF8 WZ h=>W.b6 [1,2,6,7,13,14] (ay (O.a6 .z4)<|ay O.bI<|ay O.eE<|ay O.bI<|ay O.eE<|aD.nZ q (bq.call q q (h0.lI (G2:=[(1,.obj (fv.cells a0)),(2,.obj [.aT,.aT,.aT,aw bg,aw bg]),(7,aw bF.2),(13,ae qu.2),(14,ae qv.2)]) (A:=[]) (ys:=[.ptr ⟨6,[]⟩ 0,ae pQ.At,aw pQ.Name]) (args:=[.obj (dK.cells qv.1),ae pQ.At,aw pQ.Name]) (cs':=dK.cells F8) (k0:=0) q q q q (.b q (.n q (.n q .nil))) q (bL.go WZ) call101 (sd q q q q q) q q (sd q q q q q) .nil q))<|bV q) ?_;exact sm h ▸ aF.ev
        ·exact W.dC<|sm h ▸ aF.ev
       exact aF.cD<|sm h ▸ aF.ev
      refine aF.bS<|W.b6 [1,2,6,7,13,14] (dv q<|ay (O.add .bD .de)<|aD.b6 [1,2,6,7,13,165] q<|aD.bB) ?_;exact sm h ▸ aF.gt
     ·exact W.gD<|aF.gC<|sm h ▸ aF.t1
    refine aF.gw<|aF.cD<|aF.bS<|W.b6 [1,2,6,7,13] (dv q<|ay (O.add .bD .de)<|aD.b6 [1,2,6,7,154] q<|aD.bB) ?_;exact sm h ▸ aF.gt
   ·exact W.gD<|aF.gC<|sm h ▸ aF.t1
  refine aF.gw<|aF.bS<|W.bW<|W.cR [1,2,6,7,196] ?_;refine aU h λvG aj h=>W.gp [1,2,6,7] [(7,aw vG)] ?_ ?_
  ·clear h; have h:=aj; clear aj;refine W.ca h q (λVg h=>?_) (λVg h=>?_)
   ·refine aU h λwg BZ h=>W.b6 [1,2,6,7] (ay O.bI<|ay (O.dd (y:=ak iv a0.dF))<|ay (O.qV .z2 .de v_ BZ)<|ay O.oh<|ay (O.ht (x:=aw wg.Left))<|aD.b6 [1,2,6,201] q<|aD.bB) ?_;exact sm h ▸ aF.ev
   ·exact W.dC<|sm h ▸ aF.ev
  refine aF.bS<|aU h λl8 W0 h=>W.dm [1,2,6] (ay (O.a6 .z4)<|ay (O.a6 .z4)<|dv q<|hz (cZ.se (ys:=[.ptr ⟨6,[]⟩ 0,aw vG]) q (.c (View.pF q q) (.s .nil)) (bL.go W0))<|ay (O.add .de .bD)<|aD.gr (x:=ak ax [aH (1001+l8)]) (O.dr (ys:=[ae (aH (1001+l8))]) ax [aH (1001+l8)] ju q q q q q q o6 q q) q q .none<|aD.gr (x:=.agg [ae 0,ak ax [aH (1001+l8)],ae (-1),aw bg,ak ax ([]:List Int),ae 0]) (O.e1 (cs:=[ae 0,ak ax [aH (1001+l8)],ae (-1),aw bg,.aT,ae 0]) Kv Gb q q q) q q .none<|ay (O.dr (ys:=[.agg [ae 0,ak ax [aH (1001+l8)],ae (-1),aw bg,ak ax ([]:List Int),ae 0]]) cx [(⟨0,[aH (1001+l8)],(-1),bg,([]:List Int),0⟩:Prod)] FF q q q q q q K3 q q)<|ay (O.eD .z5)<|ay O.y2<|ay O.y2<|aD.e3 (bq.uP [1,2,6])<|bV q) ?_;refine W.bW<|W.cR [1,2,6,16] ?_;refine W.cD<|aU h λbo ai h=>W.hL ((⟨(⟨gM.aC.aZ,gM.aC.bX,[(⟨0,[aH (1001+l8)],(-1),bg,([]:List Int),0⟩:Prod)],gM.aC.b5,gM.aC.b'⟩:bs),gM.cf,gM.cv,gM.bZ,gM.cL,gM.dc,gM.c_,gM.cc,gM.bU⟩:dh),0) (λ(pL:dh × Int)=>[(6,.obj (dK.cells pL.1)),(16,ae pL.2)]) [1,2,6,16] 10 (λ(bo:dh)=>[(6,.obj (dK.cells bo))]) [1,2,6] ai (λpL o h=>?_) ?_
  ·clear ai;refine W.bW<|W.cR [1,2,6,16,217] ?_;refine W.ca h q (λVh h=>?_) (λVh h=>?_)
   ·refine W.dC<|aF.bS<|W.bW<|W.cD<|W.cR [1,2,6,16,17] ?_;refine W.cD<|aU h λkv ai h=>W.hL (pL.1,0) (λ(ra:dh × Int)=>[(6,.obj (dK.cells ra.1)),(17,ae ra.2)]) [1,2,6,16,17] 12 (λ(kv:dh)=>[(6,.obj (dK.cells kv))]) [1,2,6,16] ai (λra o h=>?_) ?_
    ·clear ai;refine W.bW<|aU h λDk N4 h=>W.cR [1,2,6,16,17,228] ?_;refine W.ca h q (λVj h=>?_) (λVj h=>?_)
     ·refine W.dC<|aF.bS<|W.bW<|W.cD<|aU h λDl W2 h=>aU h λKV W3 h=>aU h λDm W4 h=>aU h λF9 W5 h=>W.rd [[],[],[1],[],[1,2,3],[1,2,3,4],aE 1 5 [],[],[7],[],[7,8,9],[7,8,9,10],aE 7 5 [],[],aE 7 7 [],aE 7 8 [],aE 0 16 []] [(1,_),(2,_),(6,_),(16,_),(17,_)] fY (by kernel_rfl) (aG 0 (O.a6 .z4)<|aG 1 O.bI<|aG 2 (O.dd (y:=ak iv a0.dF))<|aG 3 (O.a6 (.lit q))<|aG 4 (O.gE W2)<|aG 5 O.oh<|aG 6 (O.ht (x:=aw Dl.Left))<|aG 7 O.bI<|aG 8 (O.dd (y:=ak iv a0.dF))<|aG 9 (O.a6 (.lit q))<|aG 10 (O.gE W3)<|aG 11 O.oh<|aG 12 (O.ht (x:=ak fp KV.eJ))<|aG 13 (O.a6 (.lit q))<|aG 14 (O.gE W4)<|aG 15 (O.sQ (cs':=fp.cells Dm) .uU LN q q)<|bA.jB 16 (G2:=[(247,.bQ []),(6,.obj (dK.cells F9)),(1,.obj (fv.cells a0)),(2,.obj [.aT,.aT,.aT,aw bg,aw bg]),(16,ae pL.2),(17,ae ra.2)]) (bq.call q q (h0.lI (G2:=[(1,.obj (fv.cells a0)),(2,.obj [.aT,.aT,.aT,aw bg,aw bg]),(16,ae pL.2),(17,ae ra.2)]) (A:=[]) (ys:=[.ptr ⟨6,[]⟩ 0,aw Dl.Left,.agg (fp.cells Dm)]) (args:=[.obj (dK.cells ra.1),aw Dl.Left,.agg (fp.cells Dm)]) (cs':=dK.cells F9) (k0:=0) q q q q (.b q (.n q (.n q .nil))) q (bL.go W5) call104 (mC q q q q) q q (mC q q q q) .nil q))<|bA.fin q q q (sd q q q q q)) ?_;refine aF.cD<|aF.bS<|W.b6 [1,2,6,16,17] (dv q<|ay (O.add .bD .de)<|aD.b6 [1,2,6,16,230] q<|aD.bB) ?_;exact sm h ▸ aF.gt
     ·exact W.gD<|aF.gC<|sm h ▸ aF.t1
    refine aF.gw<|aF.cD<|aF.bS<|W.b6 [1,2,6,16] (dv q<|ay (O.add .bD .de)<|aD.b6 [1,2,6,219] q<|aD.bB) ?_;exact sm h ▸ aF.gt
   ·exact W.gD<|aF.gC<|sm h ▸ aF.t1
  refine aF.gw<|aF.bS<|W.bW<|W.cR [1,2,6,252] ?_;refine W.ca h q (λVk h=>?_) (λVk h=>?_)
  ·refine W.bW<|W.rd [[],[],[1],[1,2],[1,2,3],[],[5],[5,6],[5,6,7],[],[9],[9,10],[9,10,11],[0],aE 0 5 [13],aE 0 9 [13,14],aE 0 16 []] [(2,_),(3,_),(4,_),(5,_)] fY (by kernel_rfl) (aG 0 (O.e1 (cs:=[.aT,.aT,.aT,aw bg,aw bg]) Kw ru q q q)<|aG 1 (O.a6 .z4)<|aG 2 (O.eD .z5)<|aG 3 O.y2<|aG 4 O.eE<|aG 5 (O.a6 .z4)<|aG 6 (O.eD .z5)<|aG 7 O.y2<|aG 8 O.eE<|aG 9 (O.a6 .z4)<|aG 10 (O.eD .z5)<|aG 11 O.y2<|aG 12 O.eE<|bA.e1 13 (G2:=[(2,.obj [.aT,.aT,.aT,aw bg,aw bg]),(6,.obj (dK.cells bo))]) (U:=[(12,265,some (aw bo.c_)),(11,264,some (.ptr ⟨6,[]⟩ 10)),(10,263,some (.ptr ⟨6,[]⟩ 0)),(9,262,some (.ptr ⟨6,[]⟩ 0)),(8,261,some (ae bo.dc)),(7,260,some (.ptr ⟨6,[]⟩ 9)),(6,259,some (.ptr ⟨6,[]⟩ 0)),(5,258,some (.ptr ⟨6,[]⟩ 0)),(4,257,some (ae bo.cL)),(3,256,some (.ptr ⟨6,[]⟩ 8)),(2,255,some (.ptr ⟨6,[]⟩ 0)),(1,254,some (.ptr ⟨6,[]⟩ 0))]) (il.v (bq.ka (bq.kj (G2:=[(2,.obj [.aT,.aT,.aT,aw bg,aw bg]),(6,.obj (dK.cells bo))]) (cs2:=[.aT,.aT,.aT,aw bg,aw bg]) q q q (.obj q) (.ea q q) q Dc q q q q (.b q (.n q q .nil))))) q q (by kernel_rfl) q q q (.c (.inr (.inl ⟨_,q⟩)) q q q q q (fb.wanted .none) (O.pA q .z5 wJ q) (.c (.inr (.inr (.inr (.inl ⟨6,_,_,q,q,iN q,by simp,_,q,iN q⟩)))) q q q q q (fb.wanted .none) (O.nm q .z5 TO q) (.c (.inr (.inr (.inr (.inl ⟨6,_,_,q,q,iN q,by simp,_,q,iN q⟩)))) q q q q q (fb.wanted .none) (O.eD .z5) (.c (.inr (.inr (.inr (.inl ⟨6,_,_,q,q,iN q,by simp,_,q,iN q⟩)))) q q q q q (fb.wanted .none) (O.a6 .z4) (.c (.inr (.inl ⟨_,q⟩)) q q q q q (fb.wanted .none) (O.pA q .z5 sr q) (.c (.inr (.inr (.inr (.inl ⟨6,_,_,q,q,iN q,by simp,_,q,iN q⟩)))) q q q q q (fb.wanted .none) (O.nm q .z5 TN q) (.c (.inr (.inr (.inr (.inl ⟨6,_,_,q,q,iN q,by simp,_,q,iN q⟩)))) q q q q q (fb.wanted .none) (O.eD .z5) (.c (.inr (.inr (.inr (.inl ⟨6,_,_,q,q,iN q,by simp,_,q,iN q⟩)))) q q q q q (fb.wanted .none) (O.a6 .z4) (.c (.inr (.inl ⟨_,q⟩)) q q q q q (fb.wanted .none) (O.pA q .z5 sr q) (.c (.inr (.inr (.inr (.inl ⟨6,_,_,q,q,iN q,by simp,_,q,iN q⟩)))) q q q q q (fb.wanted .none) (O.nm q .z5 TM q) (.c (.inr (.inr (.inr (.inl ⟨6,_,_,q,q,iN q,by simp,_,q,iN q⟩)))) q q q q q (fb.wanted .none) (O.eD .z5) (.c (.inr (.inr (.inr (.inl ⟨6,_,_,q,q,iN q,by simp,_,q,iN q⟩)))) q q q q q (fb.wanted .none) (O.a6 .z4) .nil)))))))))))) (by kernel_rfl)<|aG 14 (O.dI (.lit q))<|aG 15 (O.dI (.lit q))<|aG 16 (O.dI (.lit q))<|bA.fin q q q (mC q q q q)) ?_;refine aF.bS<|W.dG (G1:=[(2,.obj [ak bT ([]:List Tok),ak bx ([]:List fg),ak cx ([]:List Prod),aw bg,aw bg]),(3,_),(4,_),(5,_)]) [2] (.z q q (fA.obj (.z (.z (.z (.f (.f .nil)))))) (.n q q (.n q q (.n q q .nil)))) ?_;exact W.rt<|aF.kk<|sm h ▸ hn (.c (ys0:=[ak bT ([]:List Tok),ak bx ([]:List fg),ak cx ([]:List Prod),aw bg,aw bg]) q hF q q q (.f q (.f q (.f q (.f q (.f q .nil))))) (.f q q (.f q q (.f q q .nil))))
  ·refine W.dC<|aF.bS<|W.dm [1,2,6] (ay (O.a6 .z4)<|ay (O.e1 (cs:=[aw (⟨#[36,97,99,99,101,112,116]⟩),aw bg]) Fz Dq q q q)<|ay (O.dr (ys:=[.agg [aw (⟨#[36,97,99,99,101,112,116]⟩),aw bg]]) bx [(⟨⟨#[36,97,99,99,101,112,116]⟩,bg⟩:fg)] x7 q q q q q q Gf q q)<|ay (O.eD .z5)<|ay O.y2<|ay O.y2<|aD.e3 (bq.uP [1,2,6])<|bV q) ?_;refine W.bW<|W.cR [1,2,6,18] ?_;refine W.cD<|aU h λth ai h=>W.hL ([(⟨⟨#[36,97,99,99,101,112,116]⟩,bg⟩:fg)],0) (λ(rb:List fg × Int)=>[(6,.obj [ao bT bo.aC.aZ,ao bx rb.1,ao cx bo.aC.bd,aw bo.aC.b5,aw bo.aC.b',ao cj bo.cf,ao bx bo.cv,ao cI bo.bZ,ae bo.cL,ae bo.dc,aw bo.c_,ae bo.cc,ae bo.bU]),(18,ae rb.2)]) [1,2,6,18] 14 (λ(th:List fg)=>[(6,.obj [ao bT bo.aC.aZ,ao bx th,ao cx bo.aC.bd,aw bo.aC.b5,aw bo.aC.b',ao cj bo.cf,ao bx bo.cv,ao cI bo.bZ,ae bo.cL,ae bo.dc,aw bo.c_,ae bo.cc,ae bo.bU])]) [1,2,6] ai (λrb o h=>?_) ?_
   ·clear ai;refine W.bW<|W.cR [1,2,6,18,278] ?_;refine W.ca h q (λVm h=>?_) (λVm h=>?_)
    ·refine W.dC<|aF.bS<|W.bW<|W.cD<|aU h λqy N5 h=>W.dm [1,2,6,18,19] (ay (O.a6 .z4)<|ay (O.eD .z5)<|ay O.y2<|ay (O.dd (y:=.bf cI.z ⟨6,[7]⟩ bo.bZ.length))<|dv q<|ay (O.gI (en:=cI) q .di .bD FG N5 q)<|ay (O.jT (en:=cI) (x':=aw qy) q .z5 wJ N5 q q)<|ay (O.e1 (cs:=[aw qy,aw bg]) Fz Dq q q q)<|ay (O.hf (cs:=[aw bg,aw bg]) Dq q q)<|aD.e3 (bq.hD [1,2,6,18,19])<|bV q) ?_;refine W.bW<|aU h λye W6 h=>W.dm [1,2,6,18,19,20] (ay (O.a6 .z4)<|ay O.bI<|ay O.eE<|hz (cZ.se (ys:=[.ptr ⟨6,[]⟩ 0,aw qy]) q (.c (View.pF q q) (.s .nil)) (bL.go W6))<|aD.bB) ?_;refine W.cR [1,2,6,18,19,20,294] ?_;refine aU h λuw aj h=>W.gp [1,2,6,18,19] [(19,.obj [aw qy,aw uw])] ?_ ?_
     ·clear h; have h:=aj; clear aj;refine W.ca h q (λVn h=>?_) (λVn h=>?_)
      ·refine aU h λKW Jc h=>W.b6 [1,2,6,18,19] (ay (O.a6 .z4)<|ay (O.eD .z5)<|ay O.y2<|ay (O.dd (y:=.bf bx.z ⟨6,[6]⟩ bo.cv.length))<|dv q<|ay (O.gI (en:=bx) q .di .bD x7 Jc q)<|ay (O.kb (en:=bx) q .z5 MC Jc q q)<|ay (O.jT (en:=bx) (x':=aw KW.Tag) q .z5 wJ Jc q q)<|ay O.bI<|aD.e3 (bq.o0 [1,2,6,18,19])<|bV q) ?_;exact sm h ▸ aF.ev
      ·exact W.dC<|sm h ▸ aF.ev
     refine aF.bS<|aU h λQA W7 h=>W.rd [[],[],[1],[1,2],[1,2,3],[1,2,3,4],[],[6],aE 1 7 [],aE 0 9 [],aE 0 10 [],aE 0 11 [],aE 0 12 []] [(1,_),(2,_),(6,_),(18,_)] fY (by kernel_rfl) (aG 0 (O.a6 .z4)<|aG 1 (O.a6 .z4)<|aG 2 (O.eD .z5)<|aG 3 O.y2<|aG 4 O.y2<|aG 5 (O.dd (y:=.bf bx.z ⟨6,[1]⟩ rb.1.length))<|aG 6 (O.fa (cs':=[aw qy,aw uw]) q .z4 R1 q q)<|bA.gr 7 (x:=ak bx [(⟨qy,uw⟩:fg)]) (O.dr (ys:=[.agg [aw qy,aw uw]]) bx [(⟨qy,uw⟩:fg)] x7 q q q q q q Gf q q) q q q q .none<|aG 8 (O.ap (en:=bx) (r:=QA) .di q .z2 .i Gx q W7)<|aG 9 (O.eD .z5)<|aG 10 O.y2<|aG 11 O.y2<|bA.jB 12 (bq.sp [1,2,6,18])<|bA.fin q q q (mC q q q q)) ?_;refine aF.cD<|aF.bS<|W.b6 [1,2,6,18] (dv q<|ay (O.add .bD .de)<|aD.b6 [1,2,6,280] q<|aD.bB) ?_;exact sm h ▸ aF.gt
    ·exact W.gD<|aF.gC<|sm h ▸ aF.t1
   refine aF.gw<|aF.bS<|W.bW<|W.cR [1,2,6,21] ?_;refine W.cD<|aU h λky ai h=>W.hL (th,1) (λ(sa:List fg × Int)=>[(6,.obj [ao bT bo.aC.aZ,ao bx sa.1,ao cx bo.aC.bd,aw bo.aC.b5,aw bo.aC.b',ao cj bo.cf,ao bx bo.cv,ao cI bo.bZ,ae bo.cL,ae bo.dc,aw bo.c_,ae bo.cc,ae bo.bU]),(21,ae sa.2)]) [1,2,6,21] 16 (λ(ky:List fg)=>[(6,.obj [ao bT bo.aC.aZ,ao bx ky,ao cx bo.aC.bd,aw bo.aC.b5,aw bo.aC.b',ao cj bo.cf,ao bx bo.cv,ao cI bo.bZ,ae bo.cL,ae bo.dc,aw bo.c_,ae bo.cc,ae bo.bU])]) [1,2,6] ai (λsa o h=>?_) ?_
   ·clear ai;refine W.bW<|W.cR [1,2,6,21,321] ?_;refine W.ca h q (λVo h=>?_) (λVo h=>?_)
    ·refine W.dC<|aF.bS<|W.bW<|W.cD<|aU h λF_ W8 h=>aU h λwh W9 h=>aU h λQB W_ h=>W.rd [[],[],[1],[1,2],[1,2,3],[1,2,3,4],[],[6],[6,7],[6,7,8],[6,7,8,9],aE 1 10 [],aE 0 12 [],aE 0 13 [],aE 0 14 [],aE 0 15 []] [(1,_),(2,_),(6,_),(21,_)] fY (by kernel_rfl) (aG 0 (O.a6 .z4)<|aG 1 (O.a6 .z4)<|aG 2 (O.eD .z5)<|aG 3 O.y2<|aG 4 O.y2<|aG 5 (O.dd (y:=.bf bx.z ⟨6,[1]⟩ sa.1.length))<|aG 6 (O.a6 (.lit q))<|l' 7 (cZ.fV (.c9 (.lit q) .nil) (bL.go W8))<|aG 8 (O.cat .de .bD W9)<|aG 9 (O.e1 (cs:=[aw wh,aw bg]) Fz Dq q q q)<|bA.gr 10 (x:=ak bx [(⟨wh,bg⟩:fg)]) (O.dr (ys:=[.agg [aw wh,aw bg]]) bx [(⟨wh,bg⟩:fg)] x7 q q q q q q Gf q q) q q q q .none<|aG 11 (O.ap (en:=bx) (r:=QB) .di q .z2 .i Gx q W_)<|aG 12 (O.eD .z5)<|aG 13 O.y2<|aG 14 O.y2<|bA.jB 15 (bq.sp [1,2,6,21])<|bA.fin q q q (mC q q q q)) ?_;refine aF.cD<|aF.bS<|W.b6 [1,2,6,21] (dv q<|ay (O.add .bD .de)<|aD.b6 [1,2,6,323] q<|aD.bB) ?_;exact sm h ▸ aF.gt
    ·exact W.gD<|aF.gC<|sm h ▸ aF.t1
   refine aF.gw<|aF.bS<|W.cR [1,2,6,22] ?_;refine W.bW<|W.cR [1,2,6,22,23] ?_;refine W.cD<|aU h λlM ai h=>W.hL (bo.aC.aZ,57346,3) (λ(l4:List Tok × Int × Int)=>[(6,.obj [ao bT l4.1,ao bx ky,ao cx bo.aC.bd,aw bo.aC.b5,aw bo.aC.b',ao cj bo.cf,ao bx bo.cv,ao cI bo.bZ,ae bo.cL,ae bo.dc,aw bo.c_,ae bo.cc,ae bo.bU]),(22,ae l4.2.1),(23,ae l4.2.2)]) [1,2,6,22,23] 18 (λ(lM:List Tok)=>[(6,.obj [ao bT lM,ao bx ky,ao cx bo.aC.bd,aw bo.aC.b5,aw bo.aC.b',ao cj bo.cf,ao bx bo.cv,ao cI bo.bZ,ae bo.cL,ae bo.dc,aw bo.c_,ae bo.cc,ae bo.bU])]) [1,2,6] ai (λl4 o h=>?_) ?_
   ·clear ai;refine W.bW<|W.cR [1,2,6,22,23,346] ?_;refine W.ca h q (λVp h=>?_) (λVp h=>?_)
    ·refine W.dC<|aF.bS<|W.bW<|aU h λB7 aj h=>W.gp [1,2,6,22,23] [(6,.obj [ao bT B7.1,ao bx ky,ao cx bo.aC.bd,aw bo.aC.b5,aw bo.aC.b',ao cj bo.cf,ao bx bo.cv,ao cI bo.bZ,ae bo.cL,ae bo.dc,aw bo.c_,ae bo.cc,ae bo.bU]),(22,ae B7.2)] ?_ ?_
     ·clear h; have h:=aj; clear aj;refine W.cD<|aU h λKQ N0 h=>W.dm [1,2,6,22,23,356] (ay (O.a6 .z4)<|ay (O.eD .z5)<|ay O.y2<|ay (O.dd (y:=.bf cj.z ⟨6,[5]⟩ bo.cf.length))<|dv q<|ay (O.gI (en:=cj) q .di .bD rh N0 q)<|ay (O.jT (en:=cj) (x':=bc KQ) q .z5 AY N0 q q)<|aD.bB) ?_;refine aU h λB4 aj h=>W.gp [1,2,6,22,23] [(6,.obj [ao bT B4.1,ao bx ky,ao cx bo.aC.bd,aw bo.aC.b5,aw bo.aC.b',ao cj bo.cf,ao bx bo.cv,ao cI bo.bZ,ae bo.cL,ae bo.dc,aw bo.c_,ae bo.cc,ae bo.bU]),(22,ae B4.2)] ?_ ?_
      ·clear h; have h:=aj; clear aj;refine W.ca h q (λUZ h=>?_) (λUZ h=>?_)
       ·refine aU h λsg I2 h=>W.dm [1,2,6,22,23] (ay (O.a6 .z4)<|ay (O.eD .z5)<|ay O.y2<|ay O.y2<|ay (O.dd (y:=.bf bT.z ⟨6,[0]⟩ l4.1.length))<|dv q<|dv q<|ay (O.gI (en:=bT) q .di .bD FE I2 q)<|ay (O.kb (en:=bT) q .z5 MF I2 q q)<|aD.e3 (bq.rf (en:=bT) (y2:=(⟨sg.Name,sg.Lit,l4.2.1,sg.Level,sg.ff,sg.Tag⟩:Tok)) [1,2,6,22,23] I2)<|bV q) ?_;refine W.b6 [1,2,6,22,23] (dv q<|ay (O.add .bD .de)<|aD.b6 [1,2,6,23,367] q<|aD.bB) ?_;exact sm h ▸ aF.ev
       ·exact W.dC<|sm h ▸ aF.ev
      exact aF.cD<|sm h ▸ aF.ev
     refine aF.bS<|W.b6 [1,2,6,22,23] (dv q<|ay (O.add .bD .de)<|aD.b6 [1,2,6,22,348] q<|aD.bB) ?_;exact sm h ▸ aF.gt
    ·exact W.gD<|aF.gC<|sm h ▸ aF.t1
   refine aF.gw<|aF.bS<|aU h λso aj h=>W.od [1,2,6,24] [(24,bc so)] ?_ ?_
   ·refine ay (O.a6 .z4)<|ay (O.eD .z5)<|ay O.y2<|ay O.y2<|ay (O.dd (y:=.bf bT.z ⟨6,[0]⟩ lM.length))<|ay (O.nF .di FE)<|ay (O.gtr .bD .de)<|ay (O.a6 (.lit q)) ?_;rcases hR aj with ⟨tU,aj⟩ | ⟨tU,aj⟩
    ·exact sm aj ▸ aD.bB
    ·refine cr tU (O.a6 .z4)<|cr tU (O.eD .z5)<|cr tU O.y2<|cr tU O.y2<|cr tU (O.dd (y:=.bf bx.z ⟨6,[1]⟩ ky.length))<|cr tU (O.nF .di x7)<|cr tU (O.gtr .bD .de)<|ay (O.kh .bD tU .bD)<|ay (O.a6 (.lit q)) ?_;rcases hR aj with ⟨Nd,aj⟩ | ⟨Nd,aj⟩
     ·exact sm aj ▸ aD.bB
     ·exact sm aj ▸ (cr Nd (O.a6 .z4)<|aD.bB)
   refine W.bW<|W.cR [1,2,6,24,25] ?_;refine W.cD<|aU h λAo ai h=>W.hL (so,0) (λ(s7:Bool × Int)=>[(24,bc s7.1),(25,ae s7.2)]) [1,2,6,24,25] 20 (λ(Ao:Bool)=>[(24,bc Ao)]) [1,2,6,24] ai (λs7 o h=>?_) ?_
   ·clear ai;refine W.bW<|W.cR [1,2,6,24,25,400] ?_;refine W.ca h q (λU1 h=>?_) (λU1 h=>?_)
    ·refine W.dC<|aF.bS<|W.bW<|W.cD<|aU h λyW aj h=>W.rx [(1,.obj (fv.cells a0)),(2,.obj [.aT,.aT,.aT,aw bg,aw bg]),(6,.obj [ao bT lM,ao bx ky,ao cx bo.aC.bd,aw bo.aC.b5,aw bo.aC.b',ao cj bo.cf,ao bx bo.cv,ao cI bo.bZ,ae bo.cL,ae bo.dc,aw bo.c_,ae bo.cc,ae bo.bU]),(24,bc yW),(25,ae s7.2)] ?_ ?_
     ·refine dv q<|ay (O.a6 (.lit q)) ?_;rcases hR aj with ⟨kd,aj⟩ | ⟨kd,aj⟩
      ·exact sm aj ▸ (gO kd<|gO kd<|gO kd<|gO kd<|gO kd<|gO kd<|gO kd<|gO kd<|gO kd<|gO kd<|gO kd<|ay (O.jX .bD kd .de)<|aD.b6 [1,2,6,25,416] q<|aD.bB)
      ·refine cr kd (O.a6 .z4)<|cr kd (O.eD .z5)<|cr kd O.y2<|cr kd O.y2<|cr kd (O.dd (y:=.bf cx.z ⟨6,[2]⟩ bo.aC.bd.length))<|cr kd (O.a6 (.lit q)) ?_;exact aU aj λKR I3 aj=>sm aj ▸ (cr kd (O.gI (en:=cx) q .di .bD FF I3 q)<|cr kd (O.kb (en:=cx) q .z5 MB I3 q q)<|cr kd (O.jT (en:=cx) (x':=ak ax KR.e7) q .z5 G9 I3 q q)<|cr kd O.o5<|cr kd (O.gtr .bD .de)<|ay (O.kh .bD kd .bD)<|aD.b6 [1,2,6,25,416] q<|aD.bB)
     refine aF.cD<|aF.bS<|W.b6 [1,2,6,24,25] (dv q<|ay (O.add .bD .de)<|aD.b6 [1,2,6,24,402] q<|aD.bB) ?_;exact sm h ▸ aF.gt
    ·exact W.gD<|aF.gC<|sm h ▸ aF.t1
   refine aF.gw<|aF.bS<|W.bW<|W.cR [1,2,6,417] ?_;refine W.ca h q (λU2 h=>?_) (λU2 h=>?_)
   ·refine W.dm [2,3,4,5] (ay (O.e1 (cs:=[.aT,.aT,.aT,aw bg,aw bg]) Kw ru q q q)<|aD.e3 (bq.hD [2])<|aD.bB) ?_;refine W.dG (G1:=[(2,.obj [ak bT ([]:List Tok),ak bx ([]:List fg),ak cx ([]:List Prod),aw bg,aw bg]),(3,_),(4,_),(5,_)]) [2] (.z q q (fA.obj (.z (.z (.z (.f (.f .nil)))))) (.n q q (.n q q (.n q q .nil)))) ?_;exact W.rt<|aF.kk<|sm h ▸ hn (.c (ys0:=[ak bT ([]:List Tok),ak bx ([]:List fg),ak cx ([]:List Prod),aw bg,aw bg]) q hF q q q (.f q (.f q (.f q (.f q (.f q .nil))))) (.f q q (.f q q (.f q q .nil))))
   ·refine W.dC<|aF.bS<|W.bW<|W.rd [[],[],[],[2],[],[4],[0,2,3],[0,2,3,6],[0,2,3,6,7],[0,2,3,6,7,8],aE 0 10 [],aE 0 11 [],aE 0 12 [],aE 0 13 []] [(2,_),(6,_)] fY (by kernel_rfl) (aG 0 (O.a6 .z4)<|aG 1 (O.a6 .z4)<|aG 2 O.bI<|aG 3 O.eE<|aG 4 O.bI<|aG 5 O.eE<|aG 6 (O.eD .z5)<|aG 7 O.y2<|aG 8 O.y2<|bA.e1 9 (G2:=[(1,.obj (fv.cells a0)),(2,.obj [.aT,.aT,.aT,aw bg,aw bg]),(6,.obj [ao bT lM,ao bx ky,ao cx bo.aC.bd,aw a0.b5,aw bo.aC.b',ao cj bo.cf,ao bx bo.cv,ao cI bo.bZ,ae bo.cL,ae bo.dc,aw bo.c_,ae bo.cc,ae bo.bU])]) (U:=[(5,424,some (aw a0.b')),(4,423,some (.ptr ⟨1,[]⟩ 3)),(1,420,some (.ptr ⟨6,[]⟩ 0))]) (il.v (bq.ka (bq.kj (G2:=[(1,.obj (fv.cells a0)),(2,.obj [.aT,.aT,.aT,aw bg,aw bg]),(6,.obj [ao bT lM,ao bx ky,ao cx bo.aC.bd,aw a0.b5,aw bo.aC.b',ao cj bo.cf,ao bx bo.cv,ao cI bo.bZ,ae bo.cL,ae bo.dc,aw bo.c_,ae bo.cc,ae bo.bU])]) (cs2:=[ao bT lM,ao bx ky,ao cx bo.aC.bd,aw a0.b5,aw bo.aC.b',ao cj bo.cf,ao bx bo.cv,ao cI bo.bZ,ae bo.cL,ae bo.dc,aw bo.c_,ae bo.cc,ae bo.bU]) q q q (.ptr q) (.lit q) q Qf q q q q (.n q q (.n q q (.b q .nil)))))) q q (by kernel_rfl) q q q (.c (.inr (.inl ⟨_,q⟩)) q q q q q (fb.wanted .none) (O.pA q .z5 wJ q) (.c (.inr (.inr (.inr (.inl ⟨1,_,_,q,q,iN q,by simp,_,q,iN q⟩)))) q q q q q (fb.wanted .none) (O.nm q .z4 TP q) (.c (.inr (.inr (.inr (.inl ⟨6,_,_,q,q,iN q,by simp,_,q,iN q⟩)))) q q q q q (fb.wanted .none) (O.a6 .z4) .nil))) (by kernel_rfl)<|aG 10 (O.eD .z5)<|aG 11 O.y2<|aG 12 O.y2<|bA.jB 13 (bq.o0 [2,6])<|bA.fin q q q (rl q q)) ?_;refine aF.bS<|W.bW<|W.dG (G1:=[(2,_),(6,.obj [ak bT lM,ak bx ky,ak cx bo.aC.bd,aw a0.b5,aw a0.b',ao cj bo.cf,ao bx bo.cv,ao cI bo.bZ,ae bo.cL,ae bo.dc,aw bo.c_,ae bo.cc,ae bo.bU])]) [6] (.n q q (.z q q (fA.obj (.z (.z (.z (.f (.f (.f (.f (.f (.f (.f (.f (.f (.f .nil)))))))))))))) .nil)) ?_;refine W.b6 [2,3,4,5] (ay (O.a6 .z4)<|ay (O.eD .z5)<|ay O.y2<|ay (O.fa (cs':=[ak bT lM,ak bx ky,ak cx bo.aC.bd,aw a0.b5,aw a0.b']) q .z5 hF q q)<|aD.e3 (bq.hD [2])<|aD.bB) ?_;exact aF.bS<|W.rt<|sm h ▸ hn (.c (ys0:=[ak bT lM,ak bx ky,ak cx bo.aC.bd,aw a0.b5,aw a0.b']) q hF q q q (.f q (.f q (.f q (.f q (.f q .nil))))) (.f q q (.f q q (.f q q .nil))))
instance abL {a0:Source}{r:bs × Int × Int × ByteArray}:bL prog 81 (s5 a0=some r) [.agg (fv.cells a0)] [none] (.bQ [.agg (cV.cells r.1),ae r.2.1,ae r.2.2.1,aw r.2.2.2]):=⟨Tj a0 _⟩
instance abA {a0:Source}{r:bs × Bool}:bL prog 66 (uF a0=some r) [.agg (fv.cells a0)] [none] (.bQ [.agg (cV.cells r.1),bc r.2]):=⟨λh=>by unfold uF at h; exact bY.bB (N:=⟨18,[]⟩) [1,2,3,4,5] .e func66 rfl rfl rfl rfl rfl dL⟩
instance abz {a0:(List Int)}{aB:Int}{r:(List Int)}:bL prog 61 (pH a0 aB=some r) [ak ax a0,ae aB] [none,none] (ak ax r):=⟨λh=>by unfold pH at h; exact bY.bB (N:=⟨47,[]⟩) [0,1,4,5,6,19,32] (.dY (λ(s1:Int)=>[(5,ae s1)]) [0,1,5] 0 (λ(x2:Int)=>[(5,ae x2)]) [0,1,5] (.eu 2 [0,1,5,19] (λ(ow:Bool)=>[(19,bc ow)]) .e) (.eu 4 [0,1,5,32] (λ(hI:Bool)=>[(32,bc hI)]) (.b .e (.rd 7 [[],[],[1],[0,1,2],[],[],[4,5],aE 0 7 [],aE 0 8 []] .e)))) func61 rfl rfl rfl rfl rfl dL⟩
instance abC {a0:(List Int)}{aB:Int}{r:Bool}:bL prog 68 (uG a0 aB=some r) [ak ax a0,ae aB] [none,none] (bc r):=⟨λh=>by unfold uG at h; exact bY.bB (N:=⟨18,[]⟩) [0,1,4,5,9,17] (.gb (λ(s1:Int)=>[(5,ae s1)]) [0,1,5] 0 (λ(aY:Unit)=>[]) [] (λ(bP:Bool)=>[(4,bc bP)]) [4] .e .e .e) func68 rfl rfl rfl rfl rfl dL⟩
instance abM {a0:bs}{r:(List Int)}:bL prog 82 (CR a0=some r) [.agg (cV.cells a0)] [none] (ak ax r):=⟨λh=>by unfold CR at h; exact bY.bB (N:=⟨30,[]⟩) [1,2,3,4,5,10,21] (.dY (λ(s1:List Int × Int)=>[(3,ao ax s1.1),(4,ae s1.2)]) [1,3,4] 0 (λ(x2:List Int)=>[(3,ao ax x2)]) [1,3] .e (.dY (λ(cP:List Int × Int)=>[(3,ao ax cP.1),(5,ae cP.2)]) [1,3,5] 2 (λ(bM:List Int)=>[(3,ao ax bM)]) [3] .e .e)) func82 rfl rfl rfl rfl rfl dL⟩
instance aaC {a0:bs}{aB:Item}{r:Bool}:bL prog 108 (zI a0 aB=some r) [.agg (cV.cells a0),.agg [ae aB.Prod,ae aB.e2]] [none,none] (bc r):=⟨λh=>by unfold zI at h; exact bY.bB (N:=⟨34,[]⟩) [2,3,4] (.b6 1 [[],[0],[0,1],[0,1,2],[0,1,2,3],aE 0 5 [],[0,1,2,3],[0,1,2,3,6],[0,1,2,3,6,7],aE 0 9 [],aE 0 10 [],aE 0 11 [],aE 0 12 [],aE 0 13 [],aE 0 14 [],aE 0 15 [],aE 0 16 [],aE 0 17 [],aE 0 18 [],aE 0 17 [],aE 0 17 [19],aE 0 17 [],aE 0 17 [21],aE 0 17 [19,20,21,22],aE 0 17 (aE 19 5 []),aE 0 17 (aE 19 6 []),aE 0 17 (aE 19 7 []),aE 0 27 [],aE 0 28 [],aE 0 29 []] [4] (λ(nj:Bool)=>[(4,bc nj)]) .e) func108 rfl rfl rfl rfl rfl dL⟩
instance abO {a0:bs}{aB:Item}{r:Int}:bL prog 84 (xR a0 aB=some r) [.agg (cV.cells a0),.agg [ae aB.Prod,ae aB.e2]] [none,none] (ae r):=⟨λh=>by unfold xR at h; exact bY.bB (N:=⟨33,[]⟩) [2,3,4,21] (.b6 1 [[],[],[0,1],[0,1,2],[0,1,2,3],aE 0 5 [],aE 0 6 [],aE 0 5 [],aE 0 5 [7],aE 0 5 [],aE 0 5 [9],aE 0 5 [7,8,9,10],aE 0 5 (aE 7 5 []),aE 0 5 (aE 7 6 []),aE 0 5 (aE 7 7 []),aE 0 15 [],aE 0 16 []] [2,3,21] (λ(c4:Bool)=>[(21,bc c4)]) (.b .e (.rd 3 [[],[0],[],[2],[0,1,2,3],aE 0 5 [],aE 0 6 [],[],[7],aE 0 9 [],aE 0 10 [],aE 0 11 []] .e))) func84 rfl rfl rfl rfl rfl dL⟩
instance aaB {a0:(List Item)}{aB:Item}{r:(List Item)}:bL prog 107 (xD a0 aB=some r) [ak fD a0,.agg [ae aB.Prod,ae aB.e2]] [none,none] (ak fD r):=⟨λh=>by unfold xD at h; exact bY.bB (N:=⟨71,[]⟩) [0,3,4,5,6,43,56] (.dY (λ(s1:Int)=>[(5,ae s1)]) [0,3,5] 0 (λ(x2:Int)=>[(5,ae x2)]) [0,3,5] (.b6 2 [[],[0],[0,1],[0,1,2],[0,1,2],[0,1,2,4],aE 0 6 [],aE 0 7 [],aE 0 8 [],[0,1,2],[0,1,2,9],aE 0 11 [],aE 0 12 [],aE 0 13 [],aE 0 13 [],aE 0 13 [14],aE 0 16 [],aE 0 17 [],aE 0 18 [],aE 0 13 [],aE 0 13 [19],aE 0 21 [],aE 0 22 [],aE 0 23 [],aE 0 23 [],aE 0 23 [24],aE 0 26 [],aE 0 27 [],aE 0 28 [],aE 0 23 [],aE 0 23 [29],aE 0 31 [],aE 0 32 [],aE 0 33 [],aE 0 34 []] [0,3,5,43] (λ(hI:Bool)=>[(43,bc hI)]) .e) (.b6 4 [[],[0],[0,1],[0,1,2],[0,1,2],[0,1,2,4],aE 0 6 [],aE 0 7 [],[0,1,2],aE 0 9 [],aE 0 10 []] [0,3,5,56] (λ(rF:Bool)=>[(56,bc rF)]) (.b .e (.rd 7 [[],[],[1],[0,1,2],[],[],[4,5],aE 0 7 [],aE 0 8 []] .e)))) func107 rfl rfl rfl rfl rfl dL⟩
instance aaA {a0:bs}{aB:(List Item)}{r:(List Item)}:bL prog 106 (Cw a0 aB=some r) [.agg (cV.cells a0),ak fD aB] [none,none] (ak fD r):=⟨λh=>by unfold Cw at h; exact bY.bB (N:=⟨26,[]⟩) [1,2,4,5,6,10,18] (.dY (λ(s1:List Item × Int)=>[(5,ak fD s1.1),(6,ae s1.2)]) [1,2,5,6] 0 (λ(x2:List Item)=>[(5,ak fD x2)]) [5] (.b (.cB [1,2,5,6] (λ(qj:List Item)=>[(5,ak fD qj)]) (.rd 5 [[],[],[],[1,2],[1,2,3],aE 0 5 []] (.cB [1,2,5,6] (λ(fm:List Item)=>[(5,ak fD fm)]) .e .e)) .e) .e) .e) func106 rfl rfl rfl rfl rfl dL⟩
instance abN {a0:bs}{aB:(List Item)}{r:(List Item)}:bL prog 83 (xQ a0 aB=some r) [.agg (cV.cells a0),ak fD aB] [none,none] (ak fD r):=⟨λh=>by unfold xQ at h; exact bY.bB (N:=⟨59,[]⟩) [1,2,4,5,6,7,8,9,16,21,38,49,57] (.dY (λ(s2:List Item × Int)=>[(5,ak fD s2.1),(6,ae s2.2)]) [2,5,6] 0 (λ(aY:List Item)=>[(5,ak fD aY)]) [5] (.b (.cB [2,5,6] (λ(kJ:List Item × Int)=>[(5,ak fD kJ.1),(6,ae kJ.2)]) (.p (.cB [2,5,6] (λ(kK:List Item)=>[(5,ak fD kK)]) (.dY (λ(eM:List Item × Int)=>[(5,ak fD eM.1),(7,ae eM.2)]) [2,5,6,7] 2 (λ(dD:List Item)=>[(5,ak fD dD)]) [2,5,6] (.b (.rd 8 [[],[],[],[1,2],[1,2,3],aE 0 5 [],aE 0 6 []] (.dY (λ(lK:List Item × Int)=>[(5,ak fD lK.1),(9,ae lK.2)]) [2,5,6,7,8,9] 4 (λ(c0:List Item)=>[(5,ak fD c0)]) [2,5,6,7] (.eu 10 [2,5,6,7,8,9,38] (λ(k2:Bool)=>[(38,bc k2)]) (.b (.cB [2,5,6,7,8,9] (λ(xj:List Item)=>[(5,ak fD xj)]) (.p (.cB [2,5,6,7,8,9] (λ(mz:List Item)=>[(5,ak fD mz)]) .e .e)) .e) .e)) .e)) .e) .e) .e)) .e) .e) .e) func83 rfl rfl rfl rfl rfl dL⟩
instance abP {a0:bs}{aB:(List Item)}{a2:Int}{r:(List Item)}:bL prog 85 (CS a0 aB a2=some r) [.agg (cV.cells a0),ak fD aB,ae a2] [none,none,none] (ak fD r):=⟨λh=>by unfold CS at h; exact bY.bB (N:=⟨48,[]⟩) [1,2,3,6,7,8,9,10,17,32] (.dY (λ(s2:List Item × Int)=>[(7,ak fD s2.1),(9,ae s2.2)]) [2,3,7,8,9] 0 (λ(aY:List Item)=>[(7,ak fD aY)]) [7] (.b (.cB [2,3,7,8,9] (λ(kJ:List Item)=>[(7,ak fD kJ)]) (.rd 6 [[],[],[],[1,2],[1,2,3],aE 0 5 [],aE 0 6 []] (.eu 7 [2,3,7,8,9,32] (λ(hI:Bool)=>[(32,bc hI)]) (.cB [2,3,7,8,9] (λ(ja:List Item)=>[(7,ak fD ja)]) (.b (.rd 8 [[],[],[],[1,2],[1,2,3],[1,2,3,4],[],[],[6,7],[6,7,8],[6,7,8,9],aE 6 5 [],aE 1 11 [],aE 0 13 [],aE 0 14 []] .e) .e) .e))) .e) .e) .e) func85 rfl rfl rfl rfl rfl dL⟩
instance aaD {a0:(List Item)}{aB:(List Item)}{r:Bool}:bL prog 109 (Cx a0 aB=some r) [ak fD a0,ak fD aB] [none,none] (bc r):=⟨λh=>by unfold Cx at h; exact bY.bB (N:=⟨26,[]⟩) [0,1,4,5,10,14,25] (.b .e (.gb (λ(s2:Int)=>[(5,ae s2)]) [0,1,5] 0 (λ(bP:Unit)=>[]) [] (λ(bF:Bool)=>[(4,bc bF)]) [4] (.b (.rd 6 [[],[],[0,1],[0,1,2],[],[],[4,5],[4,5,6],aE 0 8 []] .e) .e) .e .e)) func109 rfl rfl rfl rfl rfl dL⟩
instance abQ {a0:(List State)}{aB:(List Item)}{r:Int}:bL prog 86 (CT a0 aB=some r) [ak gx a0,ak fD aB] [none,none] (ae r):=⟨λh=>by unfold CT at h; exact bY.bB (N:=⟨20,[]⟩) [0,1,4,5,9,18] (.gb (λ(s1:Int)=>[(5,ae s1)]) [0,1,5] 0 (λ(aY:Unit)=>[]) [] (λ(bP:Int)=>[(4,ae bP)]) [4] .e .e .e) func86 rfl rfl rfl rfl rfl dL⟩
theorem Th (a0:bs) (r:(List State) × Int) (h:zV a0=some r):bY prog 67 [.agg (cV.cells a0)] [none] (.bQ [ak gx r.1,ae r.2]):=by
 unfold zV at h;refine bY.go (N:=⟨106,[]⟩) func67 q q q q (W.fin ?_);refine W.st [(0,.agg (cV.cells a0))] ?_;refine W.dm [1] (ay (O.box (.ea q q) q)<|aD.bB) ?_;refine W.dm [1,4] (ay (O.e1 (cs:=[ae 0,ae 0]) Y4 aab q q q)<|ay (O.tF (ys:=[.agg [ae 0,ae 0]]) (cs:=[ae 0,ae 0]) Ze q q q q q aae q q)<|ay (O.e1 (cs:=[.bf 2 ⟨15,[]⟩ 1,.aT]) PK QC q q q)<|ay (O.tF (ys:=[.agg [.bf 2 ⟨15,[]⟩ 1,.aT]]) (cs:=[.bf 2 ⟨15,[]⟩ 1,.aT]) uO q q q q q QI q q)<|aD.tM (G2:=[(1,.obj (cV.cells a0))]) q (bq.yJ (y':=ao gR [(⟨[(⟨0,0⟩:Item)],([]:List Move)⟩:State)]) q q (.own q) (.l q q (.l q q (.f (.f .nil)) (.f .nil)) .nil) (fA.own (.z (hv:=iV.Kn (en:=fD) (L:=[(⟨0,0⟩:Item)]) (cs':=[ae 0,ae 0]) q q) (.o .nil))) (.n q .nil) q q)<|bV q) ?_;refine aU h λaX jP h=>W.dm [1,4,5] (ay (O.fa (cs':=cV.cells a0) q .z4 hF q q)<|hz (cZ.fV (.c9 (.ea q q) .nil) (bL.go jP))<|aD.bB) ?_;refine W.bW<|W.cR [1,4,5,6] ?_;refine W.cD<|aU h λaY ai h=>W.gb ([(⟨[(⟨0,0⟩:Item)],([]:List Move)⟩:State)],0) (λ(s2:List State × Int)=>[(4,ao gR s2.1),(6,ae s2.2)]) [1,4,5,6] 0 (λ(bP:List State)=>[(4,ao gR bP)]) [4] (λ(bF:List State × Int)=>[(2,ak gx bF.1),(3,ae bF.2)]) [2,3] ai (λs2 o h=>?_) (λbP j=>?_) (λbF j=>?_)
 ·clear ai;refine W.bW<|W.cR [1,4,5,6,23] ?_;refine W.ca h q (λH4 h=>?_) (λH4 h=>?_)
  ·refine W.dC<|aF.bS<|W.bW<|W.cD<|W.bW<|aU h λbM qg h=>aU h λb2 r1 h=>W.rd [[],[],[],[1,2],[1,2,3],[1,2,3,4],aE 0 6 [],aE 0 7 []] [(1,_),(4,_),(5,_),(6,_),(7,_)] fY (by kernel_rfl) (aG 0 (O.fa (cs':=cV.cells a0) q .z4 hF q q)<|aG 1 (O.a6 .z3)<|aG 2 (O.a6 (.lit q))<|aG 3 (O.gI (en:=gR) q .di .bD uO qg q)<|aG 4 (O.kb (en:=gR) q .z5 MD qg q q)<|aG 5 (O.jT (en:=gR) (x':=ak fD bM.Kernel) q .z5 Mi qg q q)<|l' 6 (cZ.fV (.c9 (.ea q q) (.c9 (.bk q) .nil)) (bL.go r1))<|aG 7 (O.dI .z2)<|bA.fin q q q (sd q q q q q)) ?_;refine aF.bS<|W.cR [1,4,5,6,7,8] ?_;refine W.bW<|W.cR [1,4,5,6,7,8,9] ?_;refine W.cD<|aU h λbE ai h=>W.hL (([]:List Int),0) (λ(fM:List Int × Int)=>[(8,ak ax fM.1),(9,ae fM.2)]) [1,4,5,6,7,8,9] 2 (λ(bE:List Int)=>[(8,ak ax bE)]) [1,4,5,6,8] ai (λfM o h=>?_) ?_
   ·clear ai;refine W.bW<|W.cR [1,4,5,6,7,8,9,36] ?_;refine W.ca h q (λiy h=>?_) (λiy h=>?_)
    ·refine W.dC<|aF.bS<|W.bW<|aU h λiB aj h=>W.gp [1,4,5,6,7,8,9] [(8,ak ax iB)] ?_ ?_
     ·clear h; have h:=aj; clear aj;refine W.cD<|W.bW<|aU h λec sL h=>aU h λc0 ny h=>W.rd [[],[],[],[1,2],[1,2,3],aE 0 5 [],aE 0 6 []] [(1,_),(4,_),(5,_),(6,_),(7,_),(8,_),(9,_),(10,_)] fY (by kernel_rfl) (aG 0 (O.fa (cs':=cV.cells a0) q .z4 hF q q)<|aG 1 (O.a6 .z2)<|aG 2 (O.a6 (.lit q))<|aG 3 (O.gE sL)<|aG 4 (O.sQ (cs':=[ae ec.Prod,ae ec.e2]) .uU R2 q q)<|l' 5 (cZ.fV (.c9 (.ea q q) (.c9 (.ea q q) .nil)) (bL.go ny))<|aG 6 (O.dI (.lit q))<|bA.fin q q q (Qk q q q q q q q q)) ?_;refine aF.bS<|W.cR [1,4,5,6,7,8,9,10,46] ?_;refine aU h λmy aj h=>W.gp [1,4,5,6,7,8,9] [(8,ak ax my)] ?_ ?_
      ·clear h; have h:=aj; clear aj;refine W.ca h q (λoF h=>?_) (λoF h=>?_)
       ·refine aU h λfo oN h=>W.b6 [1,4,5,6,7,8,9] (ay (O.a6 .z2)<|dv q<|hz (cZ.fV (.c9 (.bk q) (.c9 (.lit q) .nil)) (bL.go oN))<|aD.b6 [1,4,5,6,7,9,49] q<|aD.bB) ?_;exact sm h ▸ aF.ev
       ·exact W.dC<|sm h ▸ aF.ev
      exact aF.cD<|sm h ▸ aF.ev
     refine aF.bS<|W.b6 [1,4,5,6,7,8,9] (dv q<|ay (O.add .bD .de)<|aD.b6 [1,4,5,6,7,8,38] q<|aD.bB) ?_;exact sm h ▸ aF.gt
    ·exact W.gD<|aF.gC<|sm h ▸ aF.t1
   refine aF.gw<|aF.bS<|W.cR [1,4,5,6,8,11] ?_;refine W.cD<|aU h λe5 ai h=>W.gb (s2.1,0) (λ(dR:List State × Int)=>[(4,ao gR dR.1),(11,ae dR.2)]) [1,4,5,6,8,11] 4 (λ(eZ:List State)=>[(4,ao gR eZ)]) [1,4,5,6] (λ(fN:List State × Int)=>[(2,ak gx fN.1),(3,ae fN.2)]) [2,3] ai (λdR o h=>?_) (λeZ j=>?_) (λfN j=>?_)
   ·clear ai;refine W.bW<|W.cR [1,4,5,6,8,11,53] ?_;refine W.ca h q (λmo h=>?_) (λmo h=>?_)
    ·refine W.dC<|aF.bS<|W.bW<|W.cD<|W.bW<|aU h λhc xc h=>aU h λhY rZ h=>W.dm [1,4,5,6,8,11,62] (ay (O.a6 .z2)<|ay (O.a6 .z2)<|dv q<|ay (O.gE xc)<|ay (O.ht (x:=ae hc))<|hz (cZ.fV (.c9 (.bk q) (.c9 (.lit q) .nil)) (bL.go rZ))<|aD.bB) ?_;refine W.ca h q (λHZ h=>?_) (λHZ h=>?_)
     ·refine W.gD<|aF.gC<|aF.gw<|aF.bS<|W.b6 [1,4,5,6,8,11] (dv q<|ay (O.add .bD .de)<|aD.b6 [1,4,5,6,8,55] q<|aD.bB) ?_;exact sm h ▸ aF.gt
     ·refine W.dC<|aF.bS<|W.bW<|aU h λfZ BX h=>aU h λcE I6 h=>aU h λeA qe h=>W.rd [[],[],[],[1,2],[1,2,3],[1,2,3,4],[],[],[6,7],[6,7,8],aE 0 10 [],aE 0 11 []] [(1,_),(4,_),(5,_),(6,_),(8,_),(11,_),(12,_)] fY (by kernel_rfl) (aG 0 (O.fa (cs':=cV.cells a0) q .z4 hF q q)<|aG 1 (O.a6 .z3)<|aG 2 (O.a6 (.lit q))<|aG 3 (O.gI (en:=gR) q .di .bD uO BX q)<|aG 4 (O.kb (en:=gR) q .z5 MD BX q q)<|aG 5 (O.jT (en:=gR) (x':=ak fD fZ.Kernel) q .z5 Mi BX q q)<|aG 6 (O.a6 .z2)<|aG 7 (O.a6 (.lit q))<|aG 8 (O.gE I6)<|aG 9 (O.ht (x:=ae cE))<|l' 10 (cZ.fV (.c9 (.ea q q) (.c9 (.bk q) (.c9 (.lit q) .nil))) (bL.go qe))<|aG 11 (O.dI .z2)<|bA.fin q q q (tc q q q q q q q)) ?_;refine aF.bS<|aU h λhs r0 h=>W.dm [1,4,5,6,8,11,12,13] (ay (O.a6 .z3)<|ay (O.a6 .z2)<|hz (cZ.se (ys:=[.bf gR.z ⟨4,[]⟩ dR.1.length,ak fD eA]) q (.c (.row q) (.s .nil)) (bL.go r0))<|aD.bB) ?_;refine W.bW<|W.cR [1,4,5,6,8,11,12,13,78] ?_;refine W.ca h q (λU8 h=>?_) (λU8 h=>?_)
      ·refine W.dm [1,4,5,6,8,11,12,13] (ay (O.a6 .z3)<|ay (O.nF .di uO)<|aD.b6 [1,4,5,6,8,11,12,80] q<|aD.bB) ?_;refine W.bW<|W.cR [1,4,5,6,8,11,12,13,82] ?_;refine W.ca h q (λH3 h=>?_) (λH3 h=>?_)
       ·refine W.cR [2,3] ?_;refine W.dG (G1:=[(2,ak gx ([]:List State)),(3,_)]) [2] (.z q q .jJ (.n q q .nil)) ?_;exact W.rt<|aF.kk<|aF.kk<|aF.ph<|aF.kk<|sm h ▸ aF.jY (rl q q)
       ·refine W.dC<|aF.bS<|aU h λkP vy h=>W.b6 [1,4,5,6,8,11,13] (ay (O.a6 .z3)<|ay (O.a6 .z2)<|ay (O.e1 (cs:=[ak fD eA,.aT]) PK QC q q q)<|ay (O.tF (ys:=[.agg [ak fD eA,.aT]]) (cs:=[ak fD eA,.aT]) uO q q q q q QI q q)<|ay (O.Gz (en:=gR) (M:=[(⟨eA,([]:List Move)⟩:State)]) (r:=kP) .di q .z3 q q q q RM q vy)<|aD.tM (G2:=[(1,.obj (cV.cells a0)),(5,ak ax aX),(6,ae s2.2),(8,ak ax bE),(11,ae dR.2),(13,ae (dR.1.length:Int))]) q (bq.LI (M:=[(⟨eA,([]:List Move)⟩:State)]) q q (.bC q) q q q (.f (.f .nil)) (.f (.o .nil)) q q (rm q q q q q q) q q)<|bV q) ?_;refine aF.bS<|aU h λjd uo h=>aU h λfk I8 h=>aU h λkQ xd h=>W.rd [[],[],[],[],[2,3],[2,3,4],[2,3,4,5],[],[],[7,8],[7,8,9],[],aE 7 5 [],aE 7 6 [],aE 2 12 [],aE 0 15 [],aE 0 16 [],aE 0 17 []] [(1,_),(4,_),(5,_),(6,_),(8,_),(11,_)] fY (by kernel_rfl) (aG 0 (O.a6 .z3)<|aG 1 (O.a6 (.lit q))<|aG 2 (O.a6 .z3)<|aG 3 (O.a6 (.lit q))<|aG 4 (O.gI (en:=gR) q .di .bD uO uo q)<|aG 5 (O.kb (en:=gR) q .z5 D4 uo q q)<|aG 6 (O.jT (en:=gR) (x':=.bf lz.z ⟨4,[s2.2.toNat * gR.z+1]⟩ jd.eF.length) q .z5 Mj uo q q)<|aG 7 (O.a6 .z2)<|aG 8 (O.a6 (.lit q))<|aG 9 (O.gE I8)<|aG 10 (O.ht (x:=ae fk))<|aG 11 (O.a6 (.lit q))<|aG 12 (O.e1 (cs:=[ae fk,ae (dR.1.length:Int)]) PM QE q q q)<|bA.gr 13 (x:=ak lz [(⟨fk,(dR.1.length:Int)⟩:Move)]) (O.dr (ys:=[.agg [ae fk,ae (dR.1.length:Int)]]) lz [(⟨fk,(dR.1.length:Int)⟩:Move)] P4 q q q q q q QK q q) q q q q .none<|aG 14 (O.ap (en:=lz) (r:=kQ) .di (u7 (r:=4) (path:=[]) (o:=1) (en:=gR) q uo q) .z2 .i LF q xd)<|aG 15 (O.gI (en:=gR) q .di .bD uO uo q)<|aG 16 (O.kb (en:=gR) q .z5 D4 uo q q)<|bA.jB 17 (G2:=[(1,.obj (cV.cells a0)),(4,ao gR ((dR.1++[(⟨eA,([]:List Move)⟩:State)]).set s2.2.toNat (⟨jd.Kernel,jd.eF++[(⟨fk,(dR.1.length:Int)⟩:Move)]⟩:State))),(5,ak ax aX),(6,ae s2.2),(8,ak ax bE),(11,ae dR.2)]) (bq.Db (en:=gR) (en2:=lz) (M:=[(⟨fk,(dR.1.length:Int)⟩:Move)]) (y2:=(⟨jd.Kernel,jd.eF++[(⟨fk,(dR.1.length:Int)⟩:Move)]⟩:State)) (x2:=ao gR ((dR.1++[(⟨eA,([]:List Move)⟩:State)]).set s2.2.toNat (⟨jd.Kernel,jd.eF++[(⟨fk,(dR.1.length:Int)⟩:Move)]⟩:State))) (y0:=.own gR.z (dR.1++[(⟨eA,([]:List Move)⟩:State)]).length ((bp gR (dR.1++[(⟨eA,([]:List Move)⟩:State)])).set (s2.2.toNat * gR.z+1) .dead)) q q (.ptr q) (.bC q) q q uo q q .ij .hW q q Qb q q q q q q (.n q q (.b q (.n q q (.n q q (.n q q (.n q q .nil)))))))<|bA.fin q q q (rm q q q q q q)) ?_;refine aF.cD<|aF.bS<|W.b6 [1,4,5,6,8,11] (dv q<|ay (O.add .bD .de)<|aD.b6 [1,4,5,6,8,55] q<|aD.bB) ?_;exact sm h ▸ aF.gt
      ·refine W.dC<|aF.bS<|aU h λjI qT h=>aU h λcT I9 h=>aU h λgh uq h=>W.rd [[],[],[],[],[2,3],[2,3,4],[2,3,4,5],[],[],[7,8],[7,8,9],[],aE 7 5 [],aE 7 6 [],aE 2 12 [],aE 0 15 [],aE 0 16 [],aE 0 17 []] [(1,_),(4,_),(5,_),(6,_),(8,_),(11,_)] fY (by kernel_rfl) (aG 0 (O.a6 .z3)<|aG 1 (O.a6 (.lit q))<|aG 2 (O.a6 .z3)<|aG 3 (O.a6 (.lit q))<|aG 4 (O.gI (en:=gR) q .di .bD uO qT q)<|aG 5 (O.kb (en:=gR) q .z5 D4 qT q q)<|aG 6 (O.jT (en:=gR) (x':=.bf lz.z ⟨4,[s2.2.toNat * gR.z+1]⟩ jI.eF.length) q .z5 Mj qT q q)<|aG 7 (O.a6 .z2)<|aG 8 (O.a6 (.lit q))<|aG 9 (O.gE I9)<|aG 10 (O.ht (x:=ae cT))<|aG 11 (O.a6 (.lit q))<|aG 12 (O.e1 (cs:=[ae cT,ae hs]) PM QE q q q)<|bA.gr 13 (x:=ak lz [(⟨cT,hs⟩:Move)]) (O.dr (ys:=[.agg [ae cT,ae hs]]) lz [(⟨cT,hs⟩:Move)] P4 q q q q q q QK q q) q q q q .none<|aG 14 (O.ap (en:=lz) (r:=gh) .di (u7 (r:=4) (path:=[]) (o:=1) (en:=gR) q qT q) .z2 .i LF q uq)<|aG 15 (O.gI (en:=gR) q .di .bD uO qT q)<|aG 16 (O.kb (en:=gR) q .z5 D4 qT q q)<|bA.jB 17 (G2:=[(1,.obj (cV.cells a0)),(4,ao gR (dR.1.set s2.2.toNat (⟨jI.Kernel,jI.eF++[(⟨cT,hs⟩:Move)]⟩:State))),(5,ak ax aX),(6,ae s2.2),(8,ak ax bE),(11,ae dR.2)]) (bq.Db (en:=gR) (en2:=lz) (M:=[(⟨cT,hs⟩:Move)]) (y2:=(⟨jI.Kernel,jI.eF++[(⟨cT,hs⟩:Move)]⟩:State)) (x2:=ao gR (dR.1.set s2.2.toNat (⟨jI.Kernel,jI.eF++[(⟨cT,hs⟩:Move)]⟩:State))) (y0:=.own gR.z dR.1.length ((bp gR dR.1).set (s2.2.toNat * gR.z+1) .dead)) q q (.ptr q) (.bC q) q q qT q q .ij .hW q q Qb q q q q q q (.n q q (.b q (.n q q (.n q q (.n q q (.n q q .nil)))))))<|bA.fin q q q (rm q q q q q q)) ?_;refine aF.cD<|aF.bS<|W.b6 [1,4,5,6,8,11] (dv q<|ay (O.add .bD .de)<|aD.b6 [1,4,5,6,8,55] q<|aD.bB) ?_;exact sm h ▸ aF.gt
    ·exact W.gD<|aF.gC<|sm h ▸ aF.x2 (mC q q q q)
   ·subst j;refine aF.gw<|aF.cD<|aF.bS<|W.b6 [1,4,5,6] (dv q<|ay (O.add .bD .de)<|aD.b6 [1,4,5,25] q<|aD.bB) ?_;exact sm h ▸ aF.gt
   ·subst j;exact aF.ph<|aF.ph<|aF.kk<|sm h ▸ aF.jY (rl q q)
  ·exact W.gD<|aF.gC<|sm h ▸ aF.x2 (.n q .nil)
 ·subst j;refine aF.gw<|aF.bS<|W.dm [2,3] (ay (O.a6 .z3)<|aD.b1 (bq.j8 [])<|aD.bB) ?_;refine W.dG (G1:=[(2,ak gx bP),(3,_)]) [2] (.z q q .jJ (.n q q .nil)) ?_;exact W.rt<|sm h ▸ hn (.f q q (.f q q .nil))
 ·subst j;exact aF.ph<|aF.kk<|sm h ▸ hn (.f q q (.f q q .nil))
instance abB {a0:bs}{r:(List State) × Int}:bL prog 67 (zV a0=some r) [.agg (cV.cells a0)] [none] (.bQ [ak gx r.1,ae r.2]):=⟨Th a0 _⟩
instance abl {a0:Source}{r:bs × (List State) × Bool}:bL prog 49 (uD a0=some r) [.agg (fv.cells a0)] [none] (.bQ [.agg (cV.cells r.1),ak gx r.2.1,bc r.2.2]):=⟨λh=>by unfold uD at h; exact bY.bB (N:=⟨26,[]⟩) [1,2,3,4,5,6,7,8,15] .e func49 rfl rfl rfl rfl rfl dL⟩
instance abq {a0:(List State)}{aB:Int}{a2:Int}{r:Int}:bL prog 53 (q7 a0 aB a2=some r) [ak gx a0,ae aB,ae a2] [none,none,none] (ae r):=⟨λh=>by unfold q7 at h; exact bY.bB (N:=⟨48,[]⟩) [0,1,2,6,7,25,38] (.gb (λ(s1:Int)=>[(7,ae s1)]) [0,1,2,7] 0 (λ(aY:Unit)=>[]) [] (λ(bP:Int)=>[(6,ae bP)]) [6] (.eu 2 [0,1,2,7,25] (λ(tJ:Bool)=>[(25,bc tJ)]) .e) .e .e) func53 rfl rfl rfl rfl rfl dL⟩
instance abr {a0:Cell}{r:Int}:bL prog 54 (zT a0=some r) [.agg (iu.cells a0)] [none] (ae r):=⟨λh=>by unfold zT at h; exact bY.bB (N:=⟨17,[]⟩) [1,2,3,9,13] (.cB [1,3] (λ(jr:Int)=>[(3,ae jr)]) .e (.cB [3] (λ(ih:Int)=>[(3,ae ih)]) .e .e)) func54 rfl rfl rfl rfl rfl dL⟩
end Go.Proofs
