/- Parts of the proof that the last text states. -/
import Derived.KernelRfl
import Derived.Test.YtejfkabkakfblaaGreatDoorRows
import Derived.Test.YtejfkabkakfblaaGreatDoorE5
namespace Go.Proofs
open Tryz
open Go Go.Own
set_option maxRecDepth 100000
set_option maxHeartbeats 4000000
set_option synthInstance.maxHeartbeats 1000000
set_option synthInstance.maxSize 10000
set_option linter.unusedVariables false
theorem jX:fb prog 22 3 1=true:=by kernel_rfl
theorem sv:j9 prog 3=true:=by kernel_rfl
theorem tb:oc prog 9=true:=by kernel_rfl
theorem AY:j9 prog 4=true:=by kernel_rfl
theorem wP:j9 prog 9=true:=by kernel_rfl
theorem TJ:iV prog 59 0 0 3=true:=by kernel_rfl
theorem MH:iV prog 59 2 2 57=true:=by kernel_rfl
theorem Te:j9 prog 57=true:=by kernel_rfl
theorem P':fb prog 57 62 4=true:=by kernel_rfl
theorem yS:iH prog 62 4=true:=by kernel_rfl
theorem fV:prog.follows .mixedOrders=true:=by kernel_rfl
theorem Dd:fb prog 68 67 6=true:=by kernel_rfl
theorem R1:iH prog 67 6=true:=by kernel_rfl
theorem yn:(prog.info? 67).bind (·.zero)=some (.agg #[.string ⟨#[]⟩,.bool false,.int .i64 0,.int .i64 0,.string ⟨#[]⟩,.int .i64 0]):=by kernel_rfl
theorem Kt:fb prog 29 59 4=true:=by kernel_rfl
theorem LJ:iH prog 59 4=true:=by kernel_rfl
theorem we:fb prog 30 65 3=true:=by kernel_rfl
theorem R0:iH prog 65 3=true:=by kernel_rfl
theorem KW:(prog.info? 65).bind (·.zero)=some (.agg #[.string ⟨#[]⟩,.slice none 0 0,.int .i64 0]):=by kernel_rfl
theorem A7:iV prog 65 1 1 63=true:=by kernel_rfl
theorem Hh:j9 prog 63=true:=by kernel_rfl
theorem FQ:fb prog 63 70 6=true:=by kernel_rfl
theorem LK:iH prog 70 6=true:=by kernel_rfl
theorem TE:iV prog 210 4 8 3=true:=by kernel_rfl
theorem Ah:hs prog 3 1=true:=by kernel_rfl
theorem TF:iV prog 210 5 9 3=true:=by kernel_rfl
theorem TG:iV prog 210 6 10 9=true:=by kernel_rfl
theorem FV:hs prog 9 1=true:=by kernel_rfl
theorem yc:fb prog 40 143 2=true:=by kernel_rfl
theorem FN:fb prog 39 94 6=true:=by kernel_rfl
theorem Si:DV prog 4=true:=by kernel_rfl
theorem MI:iV prog 94 2 2 3=true:=by kernel_rfl
theorem KY:(prog.info? 94).bind (·.zero)=some (.agg #[.string ⟨#[]⟩,.bool false,.int .i64 0,.int .i64 0,.int .i64 0,.string ⟨#[]⟩]):=by kernel_rfl
theorem Kr:kq prog 94 [(0,1),(1,1),(2,1),(3,1),(4,1),(5,1)]=true:=by kernel_rfl
theorem call101:jB prog 101=true:=by kernel_rfl
theorem aam:il prog 94 6=true:=by kernel_rfl
theorem rh:fb prog 56 4 1=true:=by kernel_rfl
theorem Du:(prog.info? 143).bind (·.zero)=some (.agg #[.string ⟨#[]⟩,.string ⟨#[]⟩]):=by kernel_rfl
theorem FK:kq prog 143 [(0,1),(1,1)]=true:=by kernel_rfl
theorem Gq:il prog 143 2=true:=by kernel_rfl
theorem GH:jM prog 40 143 2 32=true:=by kernel_rfl
theorem MF:iV prog 143 1 1 9=true:=by kernel_rfl
theorem call118:jB prog 118=true:=by kernel_rfl
theorem MJ:iV prog 94 3 3 3=true:=by kernel_rfl
theorem TL:iV prog 94 4 4 3=true:=by kernel_rfl
theorem ZE:hs prog 4 1=true:=by kernel_rfl
theorem Hv:iV prog 94 5 5 9=true:=by kernel_rfl
theorem FP:fb prog 49 9 1=true:=by kernel_rfl
theorem Gm:(prog.info? 110).bind (·.zero)=some (.agg #[.int .i64 0,.slice none 0 0,.int .i64 0,.string ⟨#[]⟩,.slice none 0 0,.int .i64 0]):=by kernel_rfl
theorem Kp:kq prog 110 [(0,1),(1,1),(2,1),(3,1),(4,1),(5,1)]=true:=by kernel_rfl
theorem ME:iV prog 110 1 1 22=true:=by kernel_rfl
theorem Hg:j9 prog 22=true:=by kernel_rfl
theorem call120:jB prog 120=true:=by kernel_rfl
theorem qz:il prog 3 1=true:=by kernel_rfl
theorem rz:jM prog 22 3 1 8=true:=by kernel_rfl
theorem Qh:hs prog 22 1=true:=by kernel_rfl
theorem TK:iV prog 67 2 5 3=true:=by kernel_rfl
theorem K0:il prog 110 6=true:=by kernel_rfl
theorem FO:fb prog 41 110 6=true:=by kernel_rfl
theorem LC:jM prog 41 110 6 88=true:=by kernel_rfl
theorem ZF:hs prog 41 1=true:=by kernel_rfl
theorem RU:iH prog 110 6=true:=by kernel_rfl
theorem qy:(prog.info? 43).bind (·.zero)=some (.agg #[.slice none 0 0,.slice none 0 0,.slice none 0 0,.string ⟨#[]⟩,.string ⟨#[]⟩]):=by kernel_rfl
theorem u6:iH prog 32 4=true:=by kernel_rfl
theorem Kq:kq prog 43 [(0,1),(1,1),(2,1),(3,1),(4,1)]=true:=by kernel_rfl
theorem yg:hs prog 43 5=true:=by kernel_rfl
theorem hB:iH prog 43 5=true:=by kernel_rfl
theorem KV:(prog.info? 4).bind (·.zero)=some (.bool false):=by kernel_rfl
theorem GP:(prog.info? 4).map (·.bytes)=some 1:=by kernel_rfl
theorem aaf:(prog.info? 210).bind (·.zero)=some (.agg #[.slice none 0 0,.slice none 0 0,.slice none 0 0,.string ⟨#[]⟩,.string ⟨#[]⟩,.slice none 0 0,.slice none 0 0,.slice none 0 0,.int .i64 0,.int .i64 0,.string ⟨#[]⟩,.int .i64 0,.int .i64 0]):=by kernel_rfl
theorem Zb:kq prog 210 [(0,5),(5,1),(6,1),(7,1),(8,1),(9,1),(10,1),(11,1),(12,1)]=true:=by kernel_rfl
theorem QK:(prog.info? 59).bind (·.zero)=some (.agg #[.int .i64 0,.string ⟨#[]⟩,.slice none 0 0,.int .i64 0]):=by kernel_rfl
theorem call100:jB prog 100=true:=by kernel_rfl
theorem Gp:(prog.info? 62).bind (·.zero)=some (.agg #[.string ⟨#[]⟩,.bool false,.int .i64 0,.int .i64 0]):=by kernel_rfl
theorem PV:kq prog 62 [(0,1),(1,1),(2,1),(3,1)]=true:=by kernel_rfl
theorem aal:il prog 9 1=true:=by kernel_rfl
theorem RF:jM prog 49 9 1 16=true:=by kernel_rfl
theorem call104:jB prog 104=true:=by kernel_rfl
theorem RX:iH prog 143 2=true:=by kernel_rfl
theorem TH:iV prog 32 3 3 9=true:=by kernel_rfl
theorem RY:iH prog 165 2=true:=by kernel_rfl
theorem Zm:fb prog 160 165 2=true:=by kernel_rfl
theorem aai:il prog 165 2=true:=by kernel_rfl
theorem aae:(prog.info? 165).bind (·.zero)=some (.agg #[.int .i64 0,.int .i64 0]):=by kernel_rfl
theorem Za:kq prog 165 [(0,1),(1,1)]=true:=by kernel_rfl
theorem uO:fb prog 99 163 2=true:=by kernel_rfl
theorem MG:iV prog 163 0 0 160=true:=by kernel_rfl
theorem Mg:j9 prog 160=true:=by kernel_rfl
theorem QG:(prog.info? 163).bind (·.zero)=some (.agg #[.slice none 0 0,.slice none 0 0]):=by kernel_rfl
theorem PQ:kq prog 163 [(0,1),(1,1)]=true:=by kernel_rfl
theorem QM:il prog 163 2=true:=by kernel_rfl
theorem RI:jM prog 99 163 2 48=true:=by kernel_rfl
theorem D':iV prog 163 1 1 161=true:=by kernel_rfl
theorem Mh:j9 prog 161=true:=by kernel_rfl
theorem QI:(prog.info? 176).bind (·.zero)=some (.agg #[.int .i64 0,.int .i64 0]):=by kernel_rfl
theorem PS:kq prog 176 [(0,1),(1,1)]=true:=by kernel_rfl
theorem QO:il prog 176 2=true:=by kernel_rfl
theorem P9:fb prog 161 176 2=true:=by kernel_rfl
theorem LB:jM prog 161 176 2 16=true:=by kernel_rfl
theorem Qg:hs prog 161 1=true:=by kernel_rfl
theorem RW:iH prog 130 5=true:=by kernel_rfl
theorem P_:fb prog 33 22 1=true:=by kernel_rfl
theorem QP:il prog 22 1=true:=by kernel_rfl
theorem RE:jM prog 33 22 1 24=true:=by kernel_rfl
theorem call88:jB prog 88=true:=by kernel_rfl
theorem call89:jB prog 89=true:=by kernel_rfl
theorem call87:jB prog 87=true:=by kernel_rfl
theorem call90:jB prog 90=true:=by kernel_rfl
theorem uV:(prog.info? 132).bind (·.zero)=some (.agg #[.int .i64 0,.int .i64 0]):=by kernel_rfl
theorem QH:(prog.info? 173).bind (·.zero)=some (.agg #[.int .i64 0,.int .i64 0,.int .i64 0,.int .i64 0]):=by kernel_rfl
theorem PR:kq prog 173 [(0,1),(1,1),(2,1),(3,1)]=true:=by kernel_rfl
theorem QN:il prog 173 4=true:=by kernel_rfl
theorem P7:fb prog 103 173 4=true:=by kernel_rfl
theorem GG:jM prog 103 173 4 32=true:=by kernel_rfl
theorem C':kq prog 132 [(0,1),(1,1)]=true:=by kernel_rfl
theorem yf:hs prog 132 2=true:=by kernel_rfl
theorem ss:iH prog 132 2=true:=by kernel_rfl
theorem An:(prog.info? 87).bind (·.zero)=some (.agg #[.slice none 0 0,.slice none 0 0]):=by kernel_rfl
theorem P8:fb prog 128 132 2=true:=by kernel_rfl
theorem R9:(prog.info? 132).map (·.bytes)=some 16:=by kernel_rfl
theorem QJ:(prog.info? 3).bind (·.zero)=some (.int .i64 0):=by kernel_rfl
theorem LQ:(prog.info? 3).map (·.bytes)=some 8:=by kernel_rfl
theorem aah:il prog 128 1=true:=by kernel_rfl
theorem Zn:fb prog 85 128 1=true:=by kernel_rfl
theorem RH:jM prog 85 128 1 24=true:=by kernel_rfl
theorem ZI:hs prog 85 1=true:=by kernel_rfl
theorem tC:iH prog 87 2=true:=by kernel_rfl
theorem ZJ:hs prog 87 2=true:=by kernel_rfl
theorem Ze:kq prog 87 [(0,1),(1,1)]=true:=by kernel_rfl
theorem aaj:il prog 46 1=true:=by kernel_rfl
theorem Zl:fb prog 111 46 1=true:=by kernel_rfl
theorem RB:jM prog 111 46 1 24=true:=by kernel_rfl
theorem aad:(prog.info? 119).bind (·.zero)=some (.agg #[.int .i64 0,.int .i64 0]):=by kernel_rfl
theorem Gn:(prog.info? 45).bind (·.zero)=some (.agg #[.slice none 0 0,.slice none 0 0,.slice none 0 0]):=by kernel_rfl
theorem PU:kq prog 45 [(0,1),(1,1),(2,1)]=true:=by kernel_rfl
theorem ZG:hs prog 45 3=true:=by kernel_rfl
theorem GL:iH prog 45 3=true:=by kernel_rfl
theorem TI:iV prog 45 1 1 22=true:=by kernel_rfl
theorem ym:(prog.info? 48).bind (·.zero)=some (.agg #[.slice none 0 0,.slice none 0 0,.slice none 0 0,.slice none 0 0,.slice none 0 0,.slice none 0 0,.slice none 0 0,.slice none 0 0,.slice none 0 0,.slice none 0 0,.slice none 0 0]):=by kernel_rfl
theorem wD:iH prog 48 11=true:=by kernel_rfl
theorem FU:hs prog 48 11=true:=by kernel_rfl
theorem Zc:kq prog 48 [(0,1),(1,3),(4,1),(5,3),(8,1),(9,1),(10,1)]=true:=by kernel_rfl
theorem RV:iH prog 119 2=true:=by kernel_rfl
theorem Ad:kq prog 67 [(0,4),(4,1),(5,1)]=true:=by kernel_rfl
theorem Dw:il prog 67 6=true:=by kernel_rfl
theorem KX:(prog.info? 70).bind (·.zero)=some (.agg #[.slice none 0 0,.string ⟨#[]⟩,.bool false,.int .i64 0,.int .i64 0,.int .i64 0]):=by kernel_rfl
theorem PX:kq prog 70 [(0,1),(1,4),(5,1)]=true:=by kernel_rfl
theorem K1:il prog 70 6=true:=by kernel_rfl
theorem PW:kq prog 65 [(0,1),(1,1),(2,1)]=true:=by kernel_rfl
theorem QR:il prog 65 3=true:=by kernel_rfl
theorem Dv:(prog.info? 32).bind (·.zero)=some (.agg #[.string ⟨#[]⟩,.slice none 0 0,.slice none 0 0,.string ⟨#[]⟩]):=by kernel_rfl
theorem PT:kq prog 32 [(0,1),(1,1),(2,1),(3,1)]=true:=by kernel_rfl
theorem ZD:hs prog 32 4=true:=by kernel_rfl
theorem Zd:kq prog 59 [(0,1),(1,1),(2,1),(3,1)]=true:=by kernel_rfl
theorem QQ:il prog 62 4=true:=by kernel_rfl
theorem RG:jM prog 57 62 4 40=true:=by kernel_rfl
theorem ZH:hs prog 57 1=true:=by kernel_rfl
theorem aak:il prog 59 4=true:=by kernel_rfl
theorem RC:jM prog 29 59 4 56=true:=by kernel_rfl
theorem GI:jM prog 68 67 6 64=true:=by kernel_rfl
theorem LD:jM prog 63 70 6 72=true:=by kernel_rfl
theorem Qi:hs prog 63 1=true:=by kernel_rfl
theorem RD:jM prog 30 65 3 48=true:=by kernel_rfl
theorem ZC:hs prog 30 1=true:=by kernel_rfl
theorem RZ:iH prog 35 5=true:=by kernel_rfl
instance:hZ prog 74 (.agg #[.pointer none,.slice none 0 0]):={}
instance:d_ prog 22 3 1:={}
instance:fw prog 3:={}
instance:Av prog 3 .i64:={}
instance:Av prog 97 .u64:={}
instance:Av prog 5 .u8:={}
instance:d_ prog 60 5 1:={}
instance:iO prog 9:={}
instance:cP prog 62 1 1 4:={}
instance:fw prog 4:={}
instance:cP prog 62 0 0 9:={}
instance:fw prog 9:={}
instance:cP prog 62 2 2 3:={}
instance:cP prog 59 0 0 3:={}
instance:cP prog 59 2 2 57:={}
instance:fw prog 57:={}
instance:d_ prog 57 62 4:={}
instance:cP prog 59 1 1 9:={}
instance:jZ prog 62 4:={}
instance:Au prog:={}
instance:cP prog 70 0 0 68:={}
instance:fw prog 68:={}
instance:d_ prog 68 67 6:={}
instance:jZ prog 67 6:={}
instance:hZ prog 67 (.agg #[.string ⟨#[]⟩,.bool false,.int .i64 0,.int .i64 0,.string ⟨#[]⟩,.int .i64 0]):={}
instance:cP prog 67 1 4 9:={}
instance:cP prog 67 0 0 62:={}
instance:cP prog 70 1 1 62:={}
instance:cP prog 32 0 0 9:={}
instance:cP prog 32 1 1 29:={}
instance:fw prog 29:={}
instance:d_ prog 29 59 4:={}
instance:jZ prog 59 4:={}
instance:cP prog 32 2 2 30:={}
instance:fw prog 30:={}
instance:d_ prog 30 65 3:={}
instance:jZ prog 65 3:={}
instance:hZ prog 65 (.agg #[.string ⟨#[]⟩,.slice none 0 0,.int .i64 0]):={}
instance:cP prog 65 0 0 9:={}
instance:cP prog 65 1 1 63:={}
instance:fw prog 63:={}
instance:d_ prog 63 70 6:={}
instance:jZ prog 70 6:={}
instance:cP prog 210 4 8 3:={}
instance:cP prog 210 5 9 3:={}
instance:cP prog 210 6 10 9:={}
instance:cP prog 210 2 6 40:={}
instance:fw prog 40:={}
instance:d_ prog 40 143 2:={}
instance:cP prog 143 0 0 9:={}
instance:cP prog 210 0 0 43:={}
instance:cP prog 43 0 0 39:={}
instance:fw prog 39:={}
instance:d_ prog 39 94 6:={}
instance:cP prog 94 0 0 9:={}
instance:cP prog 94 1 1 4:={}
instance:cP prog 94 2 2 3:={}
instance:hZ prog 94 (.agg #[.string ⟨#[]⟩,.bool false,.int .i64 0,.int .i64 0,.int .i64 0,.string ⟨#[]⟩]):={}
instance:jK prog 94 [(0,1),(1,1),(2,1),(3,1),(4,1),(5,1)]:={}
instance:cP prog 62 3 3 3:={}
instance:jZ prog 94 6:={}
instance:iP prog 39 94 6 64:={}
instance:cP prog 210 1 5 56:={}
instance:fw prog 56:={}
instance:d_ prog 56 4 1:={}
instance:iP prog 56 4 1 1:={}
instance:hZ prog 143 (.agg #[.string ⟨#[]⟩,.string ⟨#[]⟩]):={}
instance:jK prog 143 [(0,1),(1,1)]:={}
instance:iP prog 40 143 2 32:={}
instance:cP prog 143 1 1 9:={}
instance:cP prog 94 3 3 3:={}
instance:cP prog 210 7 11 3:={}
instance:cP prog 94 4 4 3:={}
instance:cP prog 94 5 5 9:={}
instance:cP prog 210 3 7 49:={}
instance:fw prog 49:={}
instance:d_ prog 49 9 1:={}
instance:cP prog 70 2 5 3:={}
instance:hZ prog 110 (.agg #[.int .i64 0,.slice none 0 0,.int .i64 0,.string ⟨#[]⟩,.slice none 0 0,.int .i64 0]):={}
instance:jK prog 110 [(0,1),(1,1),(2,1),(3,1),(4,1),(5,1)]:={}
instance:cP prog 110 1 1 22:={}
instance:fw prog 22:={}
instance:iP prog 22 3 1 8:={}
instance:cP prog 67 2 5 3:={}
instance:cP prog 110 3 3 9:={}
instance:cP prog 110 5 5 3:={}
instance:cP prog 210 8 12 3:={}
instance:cP prog 43 2 2 41:={}
instance:fw prog 41:={}
instance:d_ prog 41 110 6:={}
instance:iP prog 41 110 6 88:={}
instance:cP prog 110 2 2 3:={}
instance:cP prog 110 4 4 22:={}
instance:jZ prog 110 6:={}
instance:hZ prog 43 (.agg #[.slice none 0 0,.slice none 0 0,.slice none 0 0,.string ⟨#[]⟩,.string ⟨#[]⟩]):={}
instance:jZ prog 32 4:={}
instance:jK prog 43 [(0,1),(1,1),(2,1),(3,1),(4,1)]:={}
instance:jZ prog 43 5:={}
instance:hZ prog 4 (.bool false):={}
instance:yy prog 4 1:={}
instance:hZ prog 210 (.agg #[.slice none 0 0,.slice none 0 0,.slice none 0 0,.string ⟨#[]⟩,.string ⟨#[]⟩,.slice none 0 0,.slice none 0 0,.slice none 0 0,.int .i64 0,.int .i64 0,.string ⟨#[]⟩,.int .i64 0,.int .i64 0]):={}
instance:jK prog 210 [(0,5),(5,1),(6,1),(7,1),(8,1),(9,1),(10,1),(11,1),(12,1)]:={}
instance:hZ prog 59 (.agg #[.int .i64 0,.string ⟨#[]⟩,.slice none 0 0,.int .i64 0]):={}
instance:hZ prog 62 (.agg #[.string ⟨#[]⟩,.bool false,.int .i64 0,.int .i64 0]):={}
instance:jK prog 62 [(0,1),(1,1),(2,1),(3,1)]:={}
instance:cP prog 65 2 2 3:={}
instance:iP prog 49 9 1 16:={}
instance:cP prog 43 1 1 40:={}
instance:jZ prog 143 2:={}
instance:cP prog 32 3 3 9:={}
instance:cP prog 43 3 3 9:={}
instance:cP prog 43 4 4 9:={}
instance:cP prog 165 0 0 3:={}
instance:cP prog 165 1 1 3:={}
instance:jZ prog 165 2:={}
instance:d_ prog 160 165 2:={}
instance:iP prog 160 165 2 16:={}
instance:cP prog 110 0 0 3:={}
instance:hZ prog 165 (.agg #[.int .i64 0,.int .i64 0]):={}
instance:jK prog 165 [(0,1),(1,1)]:={}
instance:d_ prog 99 163 2:={}
instance:cP prog 163 0 0 160:={}
instance:fw prog 160:={}
instance:hZ prog 163 (.agg #[.slice none 0 0,.slice none 0 0]):={}
instance:jK prog 163 [(0,1),(1,1)]:={}
instance:iP prog 99 163 2 48:={}
instance:cP prog 163 1 1 161:={}
instance:fw prog 161:={}
instance:hZ prog 176 (.agg #[.int .i64 0,.int .i64 0]):={}
instance:jK prog 176 [(0,1),(1,1)]:={}
instance:d_ prog 161 176 2:={}
instance:iP prog 161 176 2 16:={}
instance:cP prog 176 0 0 3:={}
instance:cP prog 176 1 1 3:={}
instance:cP prog 130 4 4 22:={}
instance:cP prog 130 2 2 3:={}
instance:cP prog 130 3 3 4:={}
instance:hZ prog 130 (.agg #[.int .i64 0,.int .i64 0,.int .i64 0,.bool false,.slice none 0 0]):={}
instance:jK prog 130 [(0,1),(1,1),(2,1),(3,1),(4,1)]:={}
instance:d_ prog 126 167 3:={}
instance:cP prog 167 0 0 3:={}
instance:cP prog 167 2 2 22:={}
instance:cP prog 167 1 1 3:={}
instance:jZ prog 130 5:={}
instance:d_ prog 100 130 5:={}
instance:iP prog 100 130 5 56:={}
instance:d_ prog 33 22 1:={}
instance:hZ prog 200 (.agg #[.int .i64 0,.int .i64 0]):={}
instance:jK prog 200 [(0,1),(1,1)]:={}
instance:d_ prog 197 200 2:={}
instance:iP prog 197 200 2 16:={}
instance:cP prog 200 0 0 3:={}
instance:cP prog 200 1 1 3:={}
instance:iP prog 33 22 1 24:={}
instance:hZ prog 22 (.slice none 0 0):={}
instance:yy prog 22 24:={}
instance:hZ prog 167 (.agg #[.int .i64 0,.int .i64 0,.slice none 0 0]):={}
instance:jK prog 167 [(0,1),(1,1),(2,1)]:={}
instance:jZ prog 167 3:={}
instance:iP prog 126 167 3 40:={}
instance:hZ prog 132 (.agg #[.int .i64 0,.int .i64 0]):={}
instance:cP prog 130 0 0 3:={}
instance:cP prog 130 1 1 3:={}
instance:hZ prog 173 (.agg #[.int .i64 0,.int .i64 0,.int .i64 0,.int .i64 0]):={}
instance:jK prog 173 [(0,1),(1,1),(2,1),(3,1)]:={}
instance:d_ prog 103 173 4:={}
instance:iP prog 103 173 4 32:={}
instance:jK prog 132 [(0,1),(1,1)]:={}
instance:jZ prog 132 2:={}
instance:hZ prog 87 (.agg #[.slice none 0 0,.slice none 0 0]):={}
instance:d_ prog 128 132 2:={}
instance:yy prog 132 16:={}
instance:hZ prog 3 (.int .i64 0):={}
instance:yy prog 3 8:={}
instance:cP prog 87 0 0 85:={}
instance:fw prog 85:={}
instance:d_ prog 85 128 1:={}
instance:iP prog 85 128 1 24:={}
instance:cP prog 87 1 1 33:={}
instance:fw prog 33:={}
instance:jZ prog 87 2:={}
instance:jK prog 87 [(0,1),(1,1)]:={}
instance:hZ prog 141 (.agg #[.int .i64 0,.string ⟨#[]⟩,.int .i64 0,.string ⟨#[]⟩]):={}
instance:jK prog 141 [(0,1),(1,1),(2,1),(3,1)]:={}
instance:jZ prog 141 4:={}
instance:d_ prog 137 141 4:={}
instance:iP prog 137 141 4 48:={}
instance:cP prog 141 3 3 9:={}
instance:cP prog 141 0 0 3:={}
instance:cP prog 141 1 1 9:={}
instance:cP prog 141 2 2 3:={}
instance:d_ prog 114 146 2:={}
instance:cP prog 146 0 0 3:={}
instance:cP prog 146 1 1 46:={}
instance:fw prog 46:={}
instance:d_ prog 111 46 1:={}
instance:iP prog 111 46 1 24:={}
instance:cP prog 132 0 0 3:={}
instance:cP prog 132 1 1 3:={}
instance:fw prog 128:={}
instance:hZ prog 146 (.agg #[.int .i64 0,.slice none 0 0]):={}
instance:jK prog 146 [(0,1),(1,1)]:={}
instance:hZ prog 119 (.agg #[.int .i64 0,.int .i64 0]):={}
instance:jK prog 119 [(0,1),(1,1)]:={}
instance:d_ prog 46 119 2:={}
instance:iP prog 46 119 2 16:={}
instance:jZ prog 146 2:={}
instance:iP prog 114 146 2 32:={}
instance:cP prog 119 0 0 3:={}
instance:hZ prog 45 (.agg #[.slice none 0 0,.slice none 0 0,.slice none 0 0]):={}
instance:jK prog 45 [(0,1),(1,1),(2,1)]:={}
instance:jZ prog 45 3:={}
instance:cP prog 45 2 2 22:={}
instance:cP prog 45 0 0 22:={}
instance:cP prog 45 1 1 22:={}
instance:cP prog 119 1 1 3:={}
instance:hZ prog 48 (.agg #[.slice none 0 0,.slice none 0 0,.slice none 0 0,.slice none 0 0,.slice none 0 0,.slice none 0 0,.slice none 0 0,.slice none 0 0,.slice none 0 0,.slice none 0 0,.slice none 0 0]):={}
instance:cP prog 48 0 0 22:={}
instance:cP prog 48 1 1 45:={}
instance:cP prog 48 2 4 22:={}
instance:cP prog 48 3 5 45:={}
instance:cP prog 48 4 8 22:={}
instance:cP prog 48 5 9 22:={}
instance:cP prog 48 6 10 46:={}
instance:jZ prog 48 11:={}
instance:jK prog 48 [(0,1),(1,3),(4,1),(5,3),(8,1),(9,1),(10,1)]:={}
instance:jZ prog 119 2:={}
instance:jK prog 67 [(0,4),(4,1),(5,1)]:={}
instance:hZ prog 70 (.agg #[.slice none 0 0,.string ⟨#[]⟩,.bool false,.int .i64 0,.int .i64 0,.int .i64 0]):={}
instance:jK prog 70 [(0,1),(1,4),(5,1)]:={}
instance:jK prog 65 [(0,1),(1,1),(2,1)]:={}
instance:hZ prog 32 (.agg #[.string ⟨#[]⟩,.slice none 0 0,.slice none 0 0,.string ⟨#[]⟩]):={}
instance:jK prog 32 [(0,1),(1,1),(2,1),(3,1)]:={}
instance:cP prog 59 3 3 3:={}
instance:jK prog 59 [(0,1),(1,1),(2,1),(3,1)]:={}
instance:iP prog 57 62 4 40:={}
instance:iP prog 29 59 4 56:={}
instance:iP prog 68 67 6 64:={}
instance:iP prog 63 70 6 72:={}
instance:iP prog 30 65 3 48:={}
instance:cP prog 35 0 0 3:={}
instance:cP prog 35 2 2 22:={}
instance:cP prog 35 1 1 33:={}
instance:cP prog 35 3 3 22:={}
instance:cP prog 35 4 4 4:={}
instance:jZ prog 35 5:={}
instance:d_ prog 38 32 4:={}
instance:hf prog 22 Int az:={}
instance:hf prog 29 Decl dP:={}
instance:hf prog 30 fS ji:={}
instance:hf prog 33 (List Int) (bM az):={}
instance:hf prog 38 Source gP:={}
instance:hf prog 39 Tok bU:={}
instance:hf prog 40 e_ bA:={}
instance:hf prog 41 Prod cy:={}
instance:hf prog 46 dt dE:={}
instance:hf prog 49 ByteArray cJ:={}
instance:hf prog 56 Bool cg:={}
instance:hf prog 57 Sym d':={}
instance:hf prog 60 Int p0:={}
instance:hf prog 63 Alt fO:={}
instance:hf prog 68 Part fY:={}
instance:hf prog 85 (List Act) (bM eS):={}
instance:hf prog 100 Cell iv:={}
instance:hf prog 103 e1 eH:={}
instance:hf prog 111 (List dt) (bM dE):={}
instance:hf prog 114 Row oy:={}
instance:hf prog 126 kT rF:={}
instance:hf prog 128 Act eS:={}
instance:hf prog 137 Piece pY:={}
instance:hf prog 160 Item fx:={}
instance:hf prog 161 Move lr:={}
instance:hf prog 197 Trans pZ:={}
instance aaJ {a0:ByteArray}{aB:(List Int)}{r:ByteArray}:bO prog 11 (sa a0 aB=some r) [aw a0,ak az aB] [none,none] (aw r):=⟨λh=>by unfold sa at h; exact b1.bI (N:=⟨28,[]⟩) [0,1,4,5,6,7,12,13,14,15,20] (.er (λ(cW:ByteArray × Int)=>[(2005,.eR 5 (Lib.strCells cW.1)),(14,ae cW.2)]) [5,12,13,14] 0 (λ(bK:ByteArray)=>[(2005,.eR 5 (Lib.strCells bK))]) [5] (.b (.p (.b6 [5,7,12,13,14] (λ(ny:ByteArray)=>[(2005,.eR 5 (Lib.strCells ny))]) .e .e)) .e) .e) func11 rfl rfl rfl rfl rfl dW⟩
instance aa1 {a0:Int}{r:ByteArray}:bO prog 18 (qk a0=some r) [ae a0] [none] (aw r):=⟨λh=>by unfold qk at h; exact b1.bI (N:=⟨32,[]⟩) [0,2,3,4,8,16,28] (.b6 [0,3] (λ(jq:Int)=>[(3,.lit (.int .u64 jq))]) .e (.er (λ(dn:Int × ByteArray)=>[(3,.lit (.int .u64 dn.1)),(4,aw dn.2)]) [0,3,4] 0 (λ(bR:ByteArray)=>[(4,aw bR)]) [0,4] (.eE 5 [0,3,4,16] (λ(pW:Bool)=>[(16,bc pW)]) .e) .e)) func18 rfl rfl rfl rfl rfl dW⟩
instance ab0 {a0:Int}{r:Bool}:bO prog 96 (v8 a0=some r) [qL a0] [none] (bc r):=⟨λh=>by unfold v8 at h; exact b1.bI (N:=⟨9,[]⟩) [0,2] (.eE 1 [2] (λ(c2:Bool)=>[(2,bc c2)]) .e) func96 rfl rfl rfl rfl rfl dW⟩
instance aaO {a0:Int}{r:Bool}:bO prog 114 (CC a0=some r) [qL a0] [none] (bc r):=⟨λh=>by unfold CC at h; exact b1.bI (N:=⟨21,[]⟩) [0,2] (.eE 1 [2] (λ(pW:Bool)=>[(2,bc pW)]) .e) func114 rfl rfl rfl rfl rfl dW⟩
instance abZ {a0:ByteArray}{aB:Int}{r:Int}:bO prog 95 (v7 a0 aB=some r) [aw a0,ae aB] [none,none] (ae r):=⟨λh=>by unfold v7 at h; exact b1.bI (N:=⟨43,[]⟩) [0,1,4,5,39] (.er (λ(s1:Int)=>[(5,ae s1)]) [0,1,5] 0 (λ(x2:Int)=>[(5,ae x2)]) [5] (.eE 2 [0,1,5,39] (λ(j7:Bool)=>[(39,bc j7)]) .e) .e) func95 rfl rfl rfl rfl rfl dW⟩
instance aaQ {a0:ByteArray}{r:Bool}:bO prog 116 (vQ a0=some r) [aw a0] [none] (bc r):=⟨λh=>by unfold vQ at h; exact b1.bI (N:=⟨18,[]⟩) [0,2] (.eE 1 [2] (λ(c4:Bool)=>[(2,bc c4)]) .e) func116 rfl rfl rfl rfl rfl dW⟩
instance aaX {a0:Int}{r:Int × Bool}:bO prog 123 (zP a0=some r) [qL a0] [none] (.bQ [qL r.1,bc r.2]):=⟨λh=>by unfold zP at h; exact b1.bI (N:=⟨21,[]⟩) [0,2,3,4,5,7,9,11] (.b .e (.b .e (.b .e (.b6 [0,11] (λ(Jl:Bool)=>[(11,bc Jl)]) .e (.b .e (.eE 11 [2,3] (λ(tJ:Int × Bool)=>[(2,qL tJ.1),(3,bc tJ.2)]) .e)))))) func123 rfl rfl rfl rfl rfl dW⟩
instance aaV {a0:Sym}{aB:Bool}{a2:Bool}{r:Bool}:bO prog 121 (uD a0 aB a2=some r) [.agg (d'.cells a0),bc aB,bc a2] [none,none,none] (bc r):=⟨λh=>by unfold uD at h; exact b1.bI (N:=⟨53,[]⟩) [1,2,3,6,8,10,23] (.b (.eE 2 [3,23] (λ(c4:Bool)=>[(23,bc c4)]) .e) (.eE 6 [6] (λ(j7:Bool)=>[(6,bc j7)]) .e)) func121 rfl rfl rfl rfl rfl dW⟩
instance aaP {a0:Decl}{r:Bool}:bO prog 115 (xN a0=some r) [.agg (dP.cells a0)] [none] (bc r):=⟨λh=>by unfold xN at h; exact b1.bI (N:=⟨75,[]⟩) [1,2,3,54,59,74] (.eE 1 [1,54] (λ(ov:Bool)=>[(54,bc ov)]) (.b .e (.f_ (λ(f':Int)=>[(3,ae f')]) [1,3] 0 (λ(fh:Unit)=>[]) [] (λ(fc:Bool)=>[(2,bc fc)]) [2] (.b (.rd 6 [[],[0],[],[0,1,2],[0,1,2,3],[],[5],[5,6],[],[8],[8,9],aL 0 11 [],aL 0 12 []] .e) .e) .e .e))) func115 rfl rfl rfl rfl rfl dW⟩
instance abY {a0:ByteArray}{aB:Int}{a2:ByteArray}{r:Bool}:bO prog 94 (xZ a0 aB a2=some r) [aw a0,ae aB,aw a2] [none,none,none] (bc r):=⟨λh=>by unfold xZ at h; exact b1.bI (N:=⟨25,[]⟩) [0,1,2,6] (.eE 1 [6] (λ(j8:Bool)=>[(6,bc j8)]) .e) func94 rfl rfl rfl rfl rfl dW⟩
instance abH {a0:ByteArray}{aB:Int}{r:Int}:bO prog 74 (zW a0 aB=some r) [aw a0,ae aB] [none,none] (ae r):=⟨λh=>by unfold zW at h; exact b1.bI (N:=⟨114,[]⟩) [0,1,4,5,6,7,8,9,31,40,46,58,59,69,75,78,92,96,105,110] (.eE 1 [0,1,9] (λ(c4:Bool)=>[(9,bc c4)]) (.b (.f_ (λ(db:Int)=>[(5,ae db)]) [0,1,5] 1 (λ(b3:Unit)=>[]) [] (λ(dG:Int)=>[(4,ae dG)]) [4] (.eE 3 [0,1,5,31] (λ(tF:Bool)=>[(31,bc tF)]) (.b (.rd 5 [[],[],[0,1],[],[],[3,4],aL 0 6 []] (.b .e (.b (.eE 9 [0,1,5,58] (λ(rD:Bool)=>[(58,bc rD)]) .e) .e))) .e)) .e .e) (.b (.f_ (λ(oa:Int)=>[(6,ae oa)]) [0,6] 3 (λ(fv:Unit)=>[]) [] (λ(cC:Int)=>[(4,ae cC)]) [4] .e .e .e) (.b (.er (λ(gk:Int)=>[(7,ae gk)]) [0,7] 5 (λ(gb:Int)=>[(7,ae gb)]) [7] (.eE 21 [0,7,92] (λ(AS:Bool)=>[(92,bc AS)]) .e) .e) (.b (.f_ (λ(Ac:Int)=>[(8,ae Ac)]) [0,8] 7 (λ(Dp:Unit)=>[]) [] (λ(mT:Int)=>[(4,ae mT)]) [4] .e .e .e) .e))))) func74 rfl rfl rfl rfl rfl dW⟩
instance abG {a0:ByteArray}{aB:Int}{r:Int}:bO prog 73 (xV a0 aB=some r) [aw a0,ae aB] [none,none] (ae r):=⟨λh=>by unfold xV at h; exact b1.bI (N:=⟨53,[]⟩) [0,1,4,5,6,7,21,26,31,34,39,45,51] (.eE 1 [0,1,21] (λ(c4:Bool)=>[(21,bc c4)]) (.b .e (.f_ (λ(db:Int × Int)=>[(5,ae db.1),(6,ae db.2)]) [0,5,6] 0 (λ(b3:Unit)=>[]) [] (λ(dG:Int)=>[(4,ae dG)]) [4] (.b (.b .e (.b .e (.b6 [0,5,6] (λ(lB:Int)=>[(5,ae lB)]) .e (.b6 [0,5,6] (λ(E2:Int)=>[(5,ae E2)]) .e .e)))) .e) .e .e))) func73 rfl rfl rfl rfl rfl dW⟩
instance aaW {a0:Sym}{r:Bool}:bO prog 122 (uE a0=some r) [.agg (d'.cells a0)] [none] (bc r):=⟨λh=>by unfold uE at h; exact b1.bI (N:=⟨16,[]⟩) [1,2] (.eE 1 [2] (λ(j8:Bool)=>[(2,bc j8)]) .e) func122 rfl rfl rfl rfl rfl dW⟩
instance aaR {a0:Alt}{r:Bool}:bO prog 117 (xO a0=some r) [.agg (fO.cells a0)] [none] (bc r):=⟨λh=>by unfold xO at h; exact b1.bI (N:=⟨54,[]⟩) [1,2,3,4,9,45] (.f_ (λ(s1:Int)=>[(3,ae s1)]) [1,3] 0 (λ(aX:Unit)=>[]) [1] (λ(bR:Bool)=>[(2,bc bR)]) [2] (.b (.b' 5 [[],[0],[0,1],[0,1,2],[0,1,2,3],aL 0 5 [],aL 0 6 [],aL 0 7 [],aL 0 8 [],aL 0 9 [],aL 0 10 [],aL 0 11 [],aL 0 12 [],aL 0 13 [],aL 0 14 [],aL 0 15 [],aL 0 16 [],aL 0 17 [],aL 0 18 [],aL 0 19 [],aL 0 20 [],aL 0 21 [],aL 0 19 [],aL 0 19 [22],aL 0 19 [22,23],aL 0 25 [],aL 0 26 [],aL 0 27 [],aL 0 28 []] [1,3,45] (λ(na:Bool)=>[(45,bc na)]) .e) .e) (.eE 7 [2] (λ(tG:Bool)=>[(2,bc tG)]) .e) .e) func117 rfl rfl rfl rfl rfl dW⟩
instance ab1 {a0:Source}{r:Bool}:bO prog 99 (pG a0=some r) [.agg (gP.cells a0)] [none] (bc r):=⟨λh=>by unfold pG at h; exact b1.bI (N:=⟨77,[]⟩) [1,2,3,4,5,6,7,13,22,27,36,41,58,63,72] (.f_ (λ(s1:Int)=>[(3,ae s1)]) [1,3] 0 (λ(aX:Unit)=>[]) [1] (λ(bR:Bool)=>[(2,bc bR)]) [2] .e (.f_ (λ(eO:Int)=>[(4,ae eO)]) [1,4] 2 (λ(bF:Unit)=>[]) [1] (λ(cB:Bool)=>[(2,bc cB)]) [2] .e (.f_ (λ(C9:Int)=>[(5,ae C9)]) [1,5] 4 (λ(fq:Unit)=>[]) [1] (λ(fh:Bool)=>[(2,bc fh)]) [2] (.b (.eE 15 [1,5,6,58] (λ(G0:Bool)=>[(58,bc G0)]) (.b .e (.f_ (λ(ob:Int)=>[(7,ae ob)]) [1,5,6,7] 6 (λ(cC:Unit)=>[]) [1,5] (λ(eo:Bool)=>[(2,bc eo)]) [2] .e .e .e))) .e) .e .e) .e) .e) func99 rfl rfl rfl rfl rfl dW⟩
instance aaA {a0:dd}{aB:Int}{a2:ByteArray}{r:dd}:bO prog 101 (nG a0 aB a2=some r) [.obj (dI.cells a0),ae aB,aw a2] [some (.obj [ao bU r.aD.a1,ao bA r.aD.bY,ao cy r.aD.bd,aw r.aD.b8,aw r.aD.cf,ao cg r.cd,ao bA r.cv,ao cJ r.b0,ae r.cN,ae r.c',aw r.c9,ae r.ca,ae r.bV]),none,none] (.bQ []):=⟨λh=>by unfold nG at h; exact b1.bI (N:=⟨22,[0]⟩) [0,1,2,10] (.b6 [0] (λ(jq:dd)=>[(0,.obj (dI.cells jq))]) .e .e) func101 rfl rfl rfl rfl rfl dW⟩
instance aaE {a0:dd}{aB:ByteArray}{r:Int}:bO prog 105 (zK a0 aB=some r) [.cO ([ak bU a0.aD.a1,ak bA a0.aD.bY,ak cy a0.aD.bd,aw a0.aD.b8,aw a0.aD.cf,ak cg a0.cd,ak bA a0.cv,ak cJ a0.b0,ae a0.cN,ae a0.c',aw a0.c9,ae a0.ca,ae a0.bV]),aw aB] [none,none] (ae r):=⟨λh=>by unfold zK at h; exact b1.bI (N:=⟨26,[]⟩) [0,1,4,5,12,24] (.f_ (λ(s1:Int)=>[(5,ae s1)]) [0,1,5] 0 (λ(aX:Unit)=>[]) [] (λ(bR:Int)=>[(4,ae bR)]) [4] .e .e .e) func105 rfl rfl rfl rfl rfl dW⟩
instance aaB {a0:dd}{aB:Sym}{r:Int}:bO prog 102 (uC a0 aB=some r) [.cO ([ak bU a0.aD.a1,ak bA a0.aD.bY,ak cy a0.aD.bd,aw a0.aD.b8,aw a0.aD.cf,ak cg a0.cd,ak bA a0.cv,ak cJ a0.b0,ae a0.cN,ae a0.c',aw a0.c9,ae a0.ca,ae a0.bV]),.agg (d'.cells aB)] [none,none] (ae r):=⟨λh=>by unfold uC at h; exact b1.bI (N:=⟨47,[]⟩) [0,3,4,5,13,45] (.f_ (λ(s1:Int)=>[(5,ae s1)]) [0,3,5] 0 (λ(aX:Unit)=>[]) [] (λ(bR:Int)=>[(4,ae bR)]) [4] (.b (.b' 4 [[],[0],[0,1],[0,1,2],[0,1,2,3],[],aL 0 6 [],aL 0 7 [],aL 0 8 [],[],[9],aL 0 11 [],aL 0 12 [],aL 0 13 [],aL 0 14 [],aL 0 15 [],aL 0 16 [],aL 0 17 [],aL 0 13 [],aL 0 19 [],aL 0 20 [],aL 0 21 [],aL 0 13 [],aL 0 13 [22],aL 0 24 [],aL 0 25 [],aL 0 26 [],aL 0 27 [],aL 0 28 [],aL 0 29 []] [0,3,5,45] (λ(hp:Bool)=>[(45,bc hp)]) .e) .e) .e .e) func102 rfl rfl rfl rfl rfl dW⟩
instance aaT {a0:dd}{aB:Int}{r:Int}:bO prog 119 (vR a0 aB=some r) [.cO ([ak bU a0.aD.a1,ak bA a0.aD.bY,ak cy a0.aD.bd,aw a0.aD.b8,aw a0.aD.cf,ak cg a0.cd,ak bA a0.cv,ak cJ a0.b0,ae a0.cN,ae a0.c',aw a0.c9,ae a0.ca,ae a0.bV]),ae aB] [none,none] (ae r):=⟨λh=>by unfold vR at h; exact b1.bI (N:=⟨28,[]⟩) [0,1,4,5,13,26] (.f_ (λ(s1:Int)=>[(5,ae s1)]) [0,1,5] 0 (λ(aX:Unit)=>[]) [] (λ(bR:Int)=>[(4,ae bR)]) [4] .e .e .e) func119 rfl rfl rfl rfl rfl dW⟩
instance aaS {a0:dd}{aB:Sym}{r:Int × dd}:bO prog 118 (s4 a0 aB=some r) [.obj (dI.cells a0),.agg (d'.cells aB)] [some (.obj [ao bU r.2.aD.a1,ao bA r.2.aD.bY,ao cy r.2.aD.bd,aw r.2.aD.b8,aw r.2.aD.cf,ao cg r.2.cd,ao bA r.2.cv,ao cJ r.2.b0,ae r.2.cN,ae r.2.c',aw r.2.c9,ae r.2.ca,ae r.2.bV]),none] (ae r.1):=⟨λh=>by unfold s4 at h; exact b1.bI (N:=⟨66,[0]⟩) [0,3,4,5,6,11,19,29] (.b .e (.b6 [0,3,6] (λ(ig:dd × Int)=>[(0,.obj (dI.cells ig.1)),(3006,ae ig.2)]) (.b (.b6 [0,3,6] (λ(lC:dd)=>[(0,.obj (dI.cells lC))]) .e .e) .e) (.rd 9 [[],[],[1],[1,2],[1,2,3],[1,2,3,4],[],[6],aL 1 7 [],aL 0 9 [],aL 0 10 [],aL 0 11 [],aL 0 12 []] (.rd 10 [[],[],[1],[1,2],[1,2,3],[],[5],[5,6],aL 1 7 [],aL 0 9 [],aL 0 10 [],aL 0 11 []] .e)))) func118 rfl rfl rfl rfl rfl dW⟩
theorem Hf (v:Value) (a0:dd) (aB:Int) (a2:ByteArray) (r:dd) (h:nG a0 aB a2=some r):b1 prog 101 [.obj [.lit v,ao bA a0.aD.bY,ao cy a0.aD.bd,aw a0.aD.b8,aw a0.aD.cf,ao cg a0.cd,ao bA a0.cv,ao cJ a0.b0,ae a0.cN,ae a0.c',aw a0.c9,ae a0.ca,ae a0.bV],ae aB,aw a2] [some (.obj [.lit v,ao bA r.aD.bY,ao cy r.aD.bd,aw r.aD.b8,aw r.aD.cf,ao cg r.cd,ao bA r.cv,ao cJ r.b0,ae r.cN,ae r.c',aw r.c9,ae r.ca,ae r.bV]),none,none] (.bQ []):=by
 unfold nG at h;refine b1.go (N:=⟨22,[0]⟩) func101 q q q q (W.fin ?_);refine W.st [(0,.obj [.lit v,ao bA a0.aD.bY,ao cy a0.aD.bd,aw a0.aD.b8,aw a0.aD.cf,ao cg a0.cd,ao bA a0.cv,ao cJ a0.b0,ae a0.cN,ae a0.c',aw a0.c9,ae a0.ca,ae a0.bV]),(1,ae aB),(2,aw a2)] ?_;refine W.c5 [0,1,2,10] ?_;refine aV h λjq ai h=>W.gi [0] [(0,.obj [.lit v,ao bA jq.aD.bY,ao cy jq.aD.bd,aw jq.aD.b8,aw jq.aD.cf,ao cg jq.cd,ao bA jq.cv,ao cJ jq.b0,ae jq.cN,ae jq.c',aw jq.c9,ae jq.ca,ae jq.bV])] ?_ ?_
 ·clear h; have h:=ai; clear ai;refine W.cc h q (λfo h=>?_) (λfo h=>?_)
  ·refine W.b' [0] (ax (O.aZ .z4)<|ax (O.aZ .z4)<|ax (O.aZ .z4)<|c7 q<|c7 q<|ax (O.ev .z5)<|ax O.y2<|aC.ij (G2:=[(0,_),(12,.ptr ⟨0,[]⟩ 0),(13,.ptr ⟨0,[]⟩ 0),(14,_),(15,_)]) (cs2:=[.lit v,ao bA a0.aD.bY,ao cy a0.aD.bd,aw a0.aD.b8,aw a0.aD.cf,ao cg a0.cd,ao bA a0.cv,ao cJ a0.b0,ae 3,ae a0.c',aw a0.c9,ae a0.ca,ae a0.bV]) q (.ptr q) (.k q) q Ah q q q q (.b q (.p q q q q q q (.p q q q q q q (.n q q (.n q q .nil)))))<|ax (O.ev .z5)<|ax O.y2<|aC.ij (G2:=[(0,_),(13,.ptr ⟨0,[]⟩ 0),(15,_)]) (cs2:=[.lit v,ao bA a0.aD.bY,ao cy a0.aD.bd,aw a0.aD.b8,aw a0.aD.cf,ao cg a0.cd,ao bA a0.cv,ao cJ a0.b0,ae 3,ae aB,aw a0.c9,ae a0.ca,ae a0.bV]) q (.ptr q) (.lit q) q Ah q q q q (.b q (.p q q q q q q (.n q q .nil)))<|ax (O.ev .z5)<|ax O.y2<|aC.eI (br.oY [0])<|bW q) ?_;exact sm h ▸ aE.ek
  ·exact W.dv<|sm h ▸ aE.ek
 exact sm h ▸ aE.fin (Fin.ro .nil q (sX (by kernel_rfl)) (.ag q q (.no (.no .nil))) q (.inl q))
theorem SV (a0:dd) (aB:Decl) (a2:Sym) (r:dd) (h:sZ a0 aB a2=some r):b1 prog 100 [.obj (dI.cells a0),.agg (dP.cells aB),.agg (d'.cells a2)] [some (.obj [ao bU r.aD.a1,ao bA r.aD.bY,ao cy r.aD.bd,aw r.aD.b8,aw r.aD.cf,ao cg r.cd,ao bA r.cv,ao cJ r.b0,ae r.cN,ae r.c',aw r.c9,ae r.ca,ae r.bV]),none,none] (.bQ []):=by
 unfold sZ at h;refine b1.go (N:=⟨152,[0]⟩) func100 q q q q (W.fin ?_);refine W.st [(0,.obj (dI.cells a0)),(1,.agg (dP.cells aB)),(2,.agg (d'.cells a2))] ?_;refine W.dr [0,4,5] (ax (O.box (.dV q q) q)<|ax (O.box (.dV q q) q)<|bW q) ?_;refine W.bP<|W.c5 [0,4,5,11] ?_;refine W.cc h q (λoB h=>?_) (λoB h=>?_)
 ·refine aV h λx2 kc h=>W.dr [0,4,5,6] (ax (O.aZ .z4)<|ax O.bN<|ax O.ew<|gM (cV.sg (ys:=[.ptr ⟨0,[]⟩ 0,aw a2.Name]) q (.c (View.pE q q) (.s .nil)) (bO.go kc))<|aC.bI) ?_;refine W.bP<|W.c5 [0,4,5,6,17] ?_;refine aV h λig ai h=>W.gi [0] [(0,.obj (dI.cells ig))] ?_ ?_
  ·clear h; have h:=ai; clear ai;refine W.cc h q (λrL h=>?_) (λrL h=>?_)
   ·refine aV h λbK qb h=>W.rd [[],[],[1],[1,2],[1,2,3],[],[5],[],[7],[5,6,7,8],aL 5 5 [],aL 1 10 [],aL 0 12 [],aL 0 13 [],aL 0 14 []] [(0,_)] fV (by kernel_rfl) (aF 0 (O.aZ .z4)<|aF 1 (O.aZ .z4)<|aF 2 (O.ev .z5)<|aF 3 O.y2<|aF 4 (O.dz (y:=.bg bA.z ⟨0,[6]⟩ a0.cv.length))<|aF 5 O.bN<|aF 6 O.ew<|aF 7 O.bN<|aF 8 O.ew<|aF 9 (O.eW (cs:=[aw a2.Name,aw aB.Tag]) FK Du q q q)<|bE.gG 10 (x:=ak bA [(⟨a2.Name,aB.Tag⟩:e_)]) (O.dq (ys:=[.agg [aw a2.Name,aw aB.Tag]]) bA [(⟨a2.Name,aB.Tag⟩:e_)] yc q q q q q q Gq q q) q q q q .none<|aF 11 (O.ap (en:=bA) (r:=bK) .dw q .z2 .i GH q qb)<|aF 12 (O.ev .z5)<|aF 13 O.y2<|bE.jA 14 (br.sp [0])<|bE.fin q q q (.n q .nil)) ?_;exact sm h ▸ aE.ek
   ·refine W.bP<|aV h λbC r1 h=>W.rd [[],[0],[0,1],[0,1,2],[],aL 0 5 [],aL 0 6 [],aL 0 7 [],[],[8],aL 0 10 []] [(0,_),(5,_),(42,_)] fV (by kernel_rfl) (aF 0 (O.aZ .z4)<|aF 1 (O.ev .z5)<|aF 2 O.y2<|aF 3 (O.dz (y:=.bg bA.z ⟨0,[6]⟩ a0.cv.length))<|aF 4 (O.aZ (.lit q))<|aF 5 (O.gT (en:=bA) q .dw .bj yc r1 q)<|aF 6 (O.j_ (en:=bA) q .z5 MF r1 q q)<|aF 7 (O.jS (en:=bA) (x':=aw bC.Tag) q .z5 wP r1 q q)<|aF 8 O.bN<|aF 9 O.ew<|aF 10 (O.nE .bj .bj)<|bE.fin q q q (rl q q q)) ?_;refine aE.bJ<|aV h λlC ai h=>W.gi [0] [(0,.obj (dI.cells lC))] ?_ ?_
    ·clear h; have h:=ai; clear ai;refine W.cc h q (λVd h=>?_) (λVd h=>?_)
     ·refine aV h λdG B5 h=>W.b' [0] (ax (O.aZ .z4)<|ax O.bN<|ax O.ew<|ax O.bN<|ax O.ew<|aC.nR q (br.call q q (hY.lD (G2:=[]) (A:=[]) (ys:=[.ptr ⟨0,[]⟩ 0,ae a2.At,aw a2.Name]) (args:=[.obj (dI.cells a0),ae a2.At,aw a2.Name]) (cs':=dI.cells dG) (k0:=0) q q q q (.b q (.n q (.n q .nil))) q (bO.go B5) call101 .nil q q .nil .nil q))<|bW q) ?_;exact sm h ▸ aE.ek
     ·exact W.dv<|sm h ▸ aE.ek
    exact sm h ▸ aE.ek
  exact aE.bJ<|W.rt<|aE.jJ<|sm h ▸ aE.fin (Fin.ro .nil q (sX (by kernel_rfl)) (.ag q q (.no (.no .nil))) q (.inr q))
 ·refine W.dv<|aE.bJ<|aV h λbF BY h=>W.dr [0,4,5,7] (ax (O.aZ .z4)<|ax (O.eZ (cs':=d'.cells a2) q .z4 yS q q)<|aC.nR q (br.call q q (hY.lD (G2:=[(4,.obj (dP.cells aB)),(5,.obj (d'.cells a2))]) (A:=[]) (ys:=[.ptr ⟨0,[]⟩ 0,.agg (d'.cells a2)]) (args:=[.obj (dI.cells a0),.agg (d'.cells a2)]) (cs':=dI.cells bF.2) (k0:=0) q q q q (.b q (.n q .nil)) q (bO.go BY) call118 (rk q q) q q (rk q q) .nil q))<|aC.bI) ?_;refine aV h λcB nt h=>W.rs [(0,_),(4,_),(5,_),(7,_),(8,.ptr ⟨0,[0]⟩ (bF.1.toNat * bU.z+0))] (ax (O.aZ .z4)<|ax (O.ev .z5)<|ax O.y2<|ax O.y2<|ax (O.dz (y:=.bg bU.z ⟨0,[0]⟩ bF.2.aD.a1.length))<|c7 q<|ax (O.gT (en:=bU) q .dw .bj FN nt q)<|ax (O.dy .z5)<|gn (.n q (.n q (.n q (.n q (.r q (ej.el (en:=bU) q nt q) jG .nil)))))) ?_;refine W.bP<|W.rs [(0,_),(4,_),(5,_),(7,_),(8,.ptr ⟨0,[0]⟩ (bF.1.toNat * bU.z+0)),(61,_)] (ax O.bN<|ax O.ew<|ax (O.neq .bj .cR)<|gn (.n q (.n q (.n q (.n q (.r q (ej.el (en:=bU) q nt q) jG (.n q .nil))))))) ?_;refine aV h λez ai h=>W.gi [0,4,5,7,8] [(0,.obj (dI.cells ez))] ?_ ?_
  ·clear h; have h:=ai; clear ai;refine W.cc h q (λBt h=>?_) (λBt h=>?_)
   ·refine W.bP<|W.rs [(0,_),(4,_),(5,_),(7,_),(8,.ptr ⟨0,[0]⟩ (bF.1.toNat * bU.z+0)),(66,_)] (ax (O.aZ .z5)<|ax (O.ev .z5)<|ax (O.j_ (en:=bU) q .z5 MJ nt q q)<|ax (O.jS (en:=bU) (x':=ae cB.Level) q .z5 sv nt q q)<|ax (O.gtr .bj .cR)<|gn (.n q (.n q (.n q (.n q (.r q (ej.el (en:=bU) q nt q) jG (.n q .nil))))))) ?_;refine aV h λc0 ai h=>W.gi [0,4,5,7,8] [(0,.obj (dI.cells c0))] ?_ ?_
    ·clear h; have h:=ai; clear ai;refine W.cc h q (λmg h=>?_) (λmg h=>?_)
     ·refine aV h λbX rX h=>W.rx [(0,_),(4,_),(5,_),(7,_),(8,.ptr ⟨0,[0]⟩ (bF.1.toNat * bU.z+0))] (ax (O.aZ .z4)<|ax O.bN<|ax O.ew<|ax O.bN<|ax O.ew<|aC.nR (G2:=[(8,.ptr ⟨0,[0]⟩ (bF.1.toNat * bU.z+0))]++[(72,.bQ []),(0,.obj [ao bU bF.2.aD.a1,ao bA bX.aD.bY,ao cy bX.aD.bd,aw bX.aD.b8,aw bX.aD.cf,ao cg bX.cd,ao bA bX.cv,ao cJ bX.b0,ae bX.cN,ae bX.c',aw bX.c9,ae bX.ca,ae bX.bV]),(4,.obj (dP.cells aB)),(5,.obj (d'.cells a2)),(7,ae bF.1)]) q (br.dF (r:=0) (k0:=0) (y:=ao bU bF.2.aD.a1) (cs5:=[ao bU bF.2.aD.a1,ao bA bX.aD.bY,ao cy bX.aD.bd,aw bX.aD.b8,aw bX.aD.cf,ao cg bX.cd,ao bA bX.cv,ao cJ bX.b0,ae bX.cN,ae bX.c',aw bX.c9,ae bX.ca,ae bX.bV]) (G1:=λv=>[(0,.obj [.lit v,ao bA bF.2.aD.bY,ao cy bF.2.aD.bd,aw bF.2.aD.b8,aw bF.2.aD.cf,ao cg bF.2.cd,ao bA bF.2.cv,ao cJ bF.2.b0,ae bF.2.cN,ae bF.2.c',aw bF.2.c9,ae bF.2.ca,ae bF.2.bV]),(4,.obj (dP.cells aB)),(5,.obj (d'.cells a2)),(7,ae bF.1),(67,.ptr ⟨0,[]⟩ 0),(69,ae a2.At),(71,aw a2.Name)]) (G4:=λv=>[(72,.bQ []),(0,.obj [.lit v,ao bA bX.aD.bY,ao cy bX.aD.bd,aw bX.aD.b8,aw bX.aD.cf,ao cg bX.cd,ao bA bX.cv,ao cJ bX.b0,ae bX.cN,ae bX.c',aw bX.c9,ae bX.ca,ae bX.bV]),(4,.obj (dP.cells aB)),(5,.obj (d'.cells a2)),(7,ae bF.1)]) (c4:=λv=>[.lit v,ao bA bX.aD.bY,ao cy bX.aD.bd,aw bX.aD.b8,aw bX.aD.cf,ao cg bX.cd,ao bA bX.cv,ao cJ bX.b0,ae bX.cN,ae bX.c',aw bX.c9,ae bX.ca,ae bX.bV]) (G5:=[(72,.bQ []),(0,.obj [ao bU bF.2.aD.a1,ao bA bX.aD.bY,ao cy bX.aD.bd,aw bX.aD.b8,aw bX.aD.cf,ao cg bX.cd,ao bA bX.cv,ao cJ bX.b0,ae bX.cN,ae bX.c',aw bX.c9,ae bX.ca,ae bX.bV]),(4,.obj (dP.cells aB)),(5,.obj (d'.cells a2)),(7,ae bF.1)]) (A:=[(8,.ptr ⟨0,[0]⟩ (bF.1.toNat * bU.z+0))]) q q q q (λv=>(.b q (.n q q (.n q q (.n q q (.p q q q q q q (.n q q (.n q q .nil)))))))) (λv=>hY.lD (G2:=[(4,.obj (dP.cells aB)),(5,.obj (d'.cells a2)),(7,ae bF.1)]) (A:=[]) (ys:=[.ptr ⟨0,[]⟩ 0,ae a2.At,aw a2.Name]) (args:=[.obj [.lit v,ao bA bF.2.aD.bY,ao cy bF.2.aD.bd,aw bF.2.aD.b8,aw bF.2.aD.cf,ao cg bF.2.cd,ao bA bF.2.cv,ao cJ bF.2.b0,ae bF.2.cN,ae bF.2.c',aw bF.2.c9,ae bF.2.ca,ae bF.2.bV],ae a2.At,aw a2.Name]) (cs':=[.lit v,ao bA bX.aD.bY,ao cy bX.aD.bd,aw bX.aD.b8,aw bX.aD.cf,ao cg bX.cd,ao bA bX.cv,ao cJ bX.b0,ae bX.cN,ae bX.c',aw bX.c9,ae bX.ca,ae bX.bV]) (k0:=0) q q q q (.b q (.n q (.n q .nil))) q (Hf v bF.2 a2.At a2.Name _ rX) call101 (rl q q q) q q (rl q q q) .nil q) (λv=>q) (λv=>q) (λv=>q) (λv=>(.n q q (.b q (.n q q (.n q q (.n q q .nil)))))) q (.c (en:=bU) (L:=bF.2.aD.a1) q q nt q q q .nil))<|gn (.n q (.n q (.n q (.n q (.r q (ej.el (en:=bU) q nt q) jG .nil)))))) ?_;exact sm h ▸ aE.b6 (.n q (.n q (.n q (.n q (.r q (ej.el (en:=bU) q nt q) jG .nil)))))
     ·exact W.dv<|sm h ▸ aE.b6 (.n q (.n q (.n q (.n q (.r q (ej.el (en:=bU) q nt q) jG .nil)))))
    refine aV h λbD lV h=>aE.bJ<|W.rd [[],[],[],[2],[2,3],[2,3,4],[],[6],[6,7],[0,2,3,4,5],[0,2,3,4,5,9],[0,2,3,4,5,9,10],aL 0 12 [],aL 0 13 [],aL 0 14 []] [(0,_),(4,_),(5,_),(7,_),(8,.ptr ⟨0,[0]⟩ (bF.1.toNat * bU.z+0))] fV (by kernel_rfl) (aF 0 (O.aZ .z5)<|aF 1 (O.aZ .z5)<|aF 2 (O.aZ .z4)<|aF 3 (O.ev .z5)<|aF 4 O.y2<|aF 5 O.ew<|aF 6 O.bN<|aF 7 O.ew<|aF 8 (O.sub .bj .cR)<|aF 9 (O.ev .z5)<|aF 10 (O.j_ (en:=bU) q .z5 MJ lV q q)<|bE.eW 11 (G2:=[(0,.obj [ao bU (c0.aD.a1.set bF.1.toNat (⟨bD.Name,bD.Lit,bD.bL,c0.ca,bD.e9,bD.Tag⟩:Tok)),ao bA c0.aD.bY,ao cy c0.aD.bd,aw c0.aD.b8,aw c0.aD.cf,ao cg c0.cd,ao bA c0.cv,ao cJ c0.b0,ae c0.cN,ae c0.c',aw c0.c9,ae c0.ca,ae c0.bV]),(4,.obj (dP.cells aB)),(5,.obj (d'.cells a2)),(7,ae bF.1),(8,.ptr ⟨0,[0]⟩ (bF.1.toNat * bU.z+0))]) (U:=[(8,81,some (ae (aG (aB.Kind - 1)))),(7,80,some (ae aB.Kind)),(6,79,some (.ptr ⟨4,[]⟩ 0)),(1,74,some (.ptr ⟨0,[0]⟩ (bF.1.toNat * bU.z+0)))]) (iE.v (br.kn (br.ye (en:=bU) (y2:=(⟨bD.Name,bD.Lit,bD.bL,c0.ca,bD.e9,bD.Tag⟩:Tok)) (cs':=[ae c0.ca]) (x2:=.obj [ao bU (c0.aD.a1.set bF.1.toNat (⟨bD.Name,bD.Lit,bD.bL,c0.ca,bD.e9,bD.Tag⟩:Tok)),ao bA c0.aD.bY,ao cy c0.aD.bd,aw c0.aD.b8,aw c0.aD.cf,ao cg c0.cd,ao bA c0.cv,ao cJ c0.b0,ae c0.cN,ae c0.c',aw c0.c9,ae c0.ca,ae c0.bV]) q q (.ptr q) (.lit q) q lV Ah q q q q q q q (.b q (.n q q (.n q q (.n q q (.e q q (.mk (en:=bU) q lV q (n2 lV) q) q .nil)))))))) q q (by kernel_rfl) q q q (.c (.inr (.inl ⟨_,q⟩)) q q q q q (e7.wanted .none) (O.sub .bj .cR) (.c (.inr (.inl ⟨_,q⟩)) q q q q q (e7.wanted .none) (O.pz q .z5 sv q) (.c (.inr (.inr (.inr (.inl ⟨4,_,_,q,q,iK q,by simp,_,q,iK q⟩)))) q q q q q (e7.wanted .none) (O.ng q .z4 TJ q) (.c (.inr (.inr (.inl ⟨8,_,_,q,q,q,by simp⟩))) q q q q q (e7.wanted .none) (O.aZ .z5) .nil)))) (by kernel_rfl)<|aF 12 (O.ev .z5)<|aF 13 (O.j_ (en:=bU) q .z5 TL (n2 lV) q q)<|bE.jA 14 (G2:=[(0,.obj [ao bU ((c0.aD.a1.set bF.1.toNat (⟨bD.Name,bD.Lit,bD.bL,c0.ca,bD.e9,bD.Tag⟩:Tok)).set bF.1.toNat (⟨(⟨bD.Name,bD.Lit,bD.bL,c0.ca,bD.e9,bD.Tag⟩:Tok).Name,(⟨bD.Name,bD.Lit,bD.bL,c0.ca,bD.e9,bD.Tag⟩:Tok).Lit,(⟨bD.Name,bD.Lit,bD.bL,c0.ca,bD.e9,bD.Tag⟩:Tok).bL,(⟨bD.Name,bD.Lit,bD.bL,c0.ca,bD.e9,bD.Tag⟩:Tok).Level,aG (aB.Kind - 1),(⟨bD.Name,bD.Lit,bD.bL,c0.ca,bD.e9,bD.Tag⟩:Tok).Tag⟩:Tok)),ao bA c0.aD.bY,ao cy c0.aD.bd,aw c0.aD.b8,aw c0.aD.cf,ao cg c0.cd,ao bA c0.cv,ao cJ c0.b0,ae c0.cN,ae c0.c',aw c0.c9,ae c0.ca,ae c0.bV]),(4,.obj (dP.cells aB)),(5,.obj (d'.cells a2)),(7,ae bF.1),(8,.ptr ⟨0,[0]⟩ (bF.1.toNat * bU.z+0))]) (br.ye (en:=bU) (y2:=(⟨(⟨bD.Name,bD.Lit,bD.bL,c0.ca,bD.e9,bD.Tag⟩:Tok).Name,(⟨bD.Name,bD.Lit,bD.bL,c0.ca,bD.e9,bD.Tag⟩:Tok).Lit,(⟨bD.Name,bD.Lit,bD.bL,c0.ca,bD.e9,bD.Tag⟩:Tok).bL,(⟨bD.Name,bD.Lit,bD.bL,c0.ca,bD.e9,bD.Tag⟩:Tok).Level,aG (aB.Kind - 1),(⟨bD.Name,bD.Lit,bD.bL,c0.ca,bD.e9,bD.Tag⟩:Tok).Tag⟩:Tok)) (cs':=[ae (aG (aB.Kind - 1))]) (x2:=.obj [ao bU ((c0.aD.a1.set bF.1.toNat (⟨bD.Name,bD.Lit,bD.bL,c0.ca,bD.e9,bD.Tag⟩:Tok)).set bF.1.toNat (⟨(⟨bD.Name,bD.Lit,bD.bL,c0.ca,bD.e9,bD.Tag⟩:Tok).Name,(⟨bD.Name,bD.Lit,bD.bL,c0.ca,bD.e9,bD.Tag⟩:Tok).Lit,(⟨bD.Name,bD.Lit,bD.bL,c0.ca,bD.e9,bD.Tag⟩:Tok).bL,(⟨bD.Name,bD.Lit,bD.bL,c0.ca,bD.e9,bD.Tag⟩:Tok).Level,aG (aB.Kind - 1),(⟨bD.Name,bD.Lit,bD.bL,c0.ca,bD.e9,bD.Tag⟩:Tok).Tag⟩:Tok)),ao bA c0.aD.bY,ao cy c0.aD.bd,aw c0.aD.b8,aw c0.aD.cf,ao cg c0.cd,ao bA c0.cv,ao cJ c0.b0,ae c0.cN,ae c0.c',aw c0.c9,ae c0.ca,ae c0.bV]) q q (.ptr q) (.lit q) q (n2 lV) Ah q q q q q q q (.b q (.n q q (.n q q (.n q q (.e q q (.mk (en:=bU) q (n2 lV) q (n2 (n2 lV)) q) q .nil))))))<|bE.fin q q q (.n q (.n q (.n q (.n q (.r q (ej.el (en:=bU) q (n2 (n2 lV)) q) jG .nil)))))) ?_;exact sm h ▸ aE.b6 (.n q (.n q (.n q (.n q (.r q (ej.el (en:=bU) q (n2 (n2 lV)) q) jG .nil)))))
   ·exact W.dv<|sm h ▸ aE.b6 (.n q (.n q (.n q (.n q (.r q (ej.el (en:=bU) q nt q) jG .nil)))))
  refine aV h λfq oL h=>aE.bJ<|W.bP<|W.rs [(0,_),(4,_),(5,_),(7,_),(8,.ptr ⟨0,[0]⟩ (bF.1.toNat * bU.z+0)),(88,_)] (ax O.bN<|ax O.ew<|ax (O.gtr .bj .cR)<|gn (.n q (.n q (.n q (.n q (.r q (ej.el (en:=bU) q oL q) jG (.n q .nil))))))) ?_;refine aV h λeN ai h=>W.gi [0,4,5,8] [(0,.obj (dI.cells eN))] ?_ ?_
  ·clear h; have h:=ai; clear ai;refine W.cc h q (λw2 h=>?_) (λw2 h=>?_)
   ·refine W.bP<|aV h λwL ai h=>W.n' [0,4,5,7,8,106] [(106,bc wL)] ?_ ?_
    ·refine c7 q<|ax (O.eql .bj .cR)<|ax (O.aZ (.lit q)) ?_;rcases gB ai with ⟨ly,ai⟩ | ⟨ly,ai⟩
     ·exact sm ai ▸ (gL ly<|gL ly<|gL ly<|gL ly<|gL ly<|gL ly<|gL ly<|ax (O.js .bj ly .cR)<|c7 q<|gL q<|gL q<|gL q<|gL q<|gL q<|ax (O.js .bj q .cR)<|gn (.n q (.n q (.n q (.n q (.r q (ej.el (en:=bU) q oL q) jG (.n q .nil)))))))
     ·refine cq ly (O.aZ .z4)<|cq ly (O.ev .z5)<|cq ly O.y2<|cq ly (O.dz (y:=.bg cg.z ⟨0,[5]⟩ ez.cd.length))<|cq ly (O.aZ (.lit q)) ?_;refine aV ai λfM ER ai=>cq ly (O.gT (en:=cg) q .dw .bj rh ER q)<|cq ly (O.jS (en:=cg) (x':=bc fM) q .z5 AY ER q q)<|ax (O.jI .bj ly .bj)<|ax (O.aZ (.lit q)) ?_;rcases gB ai with ⟨hE,ai⟩ | ⟨hE,ai⟩
      ·exact sm ai ▸ (gL hE<|gL hE<|gL hE<|gL hE<|gL hE<|ax (O.js .bj hE .cR)<|gn (.n q (.n q (.n q (.n q (.r q (ej.el (en:=bU) q oL q) jG (.n q .nil)))))))
      ·refine cq hE (O.aZ .z4)<|cq hE O.bN<|cq hE O.ew ?_;exact aV ai λgl ur ai=>sm ai ▸ (aC.c (cV.sg (ys:=[.ptr ⟨0,[]⟩ 0,ae a2.bL]) q (.c (View.pE q q) (.s .nil)) (bO.go ur)) q q (.iD q q hE)<|cq hE (O.geq .bj .cR)<|ax (O.jI .bj hE .bj)<|gn (.n q (.n q (.n q (.n q (.r q (ej.el (en:=bU) q oL q) jG (.n q .nil)))))))
    refine aV h λdN ai h=>W.gi [0,4,5,7,8] [(0,.obj (dI.cells dN))] ?_ ?_
    ·clear h; have h:=ai; clear ai;refine W.cc h q (λUY h=>?_) (λUY h=>?_)
     ·refine aV h λcC B1 h=>W.rx [(0,_),(4,_),(5,_),(7,_),(8,.ptr ⟨0,[0]⟩ (bF.1.toNat * bU.z+0))] (ax (O.aZ .z4)<|ax O.bN<|ax O.ew<|ax O.bN<|ax O.ew<|aC.nR (G2:=[(8,.ptr ⟨0,[0]⟩ (bF.1.toNat * bU.z+0))]++[(112,.bQ []),(0,.obj [ao bU ez.aD.a1,ao bA cC.aD.bY,ao cy cC.aD.bd,aw cC.aD.b8,aw cC.aD.cf,ao cg cC.cd,ao bA cC.cv,ao cJ cC.b0,ae cC.cN,ae cC.c',aw cC.c9,ae cC.ca,ae cC.bV]),(4,.obj (dP.cells aB)),(5,.obj (d'.cells a2)),(7,ae bF.1)]) q (br.dF (r:=0) (k0:=0) (y:=ao bU ez.aD.a1) (cs5:=[ao bU ez.aD.a1,ao bA cC.aD.bY,ao cy cC.aD.bd,aw cC.aD.b8,aw cC.aD.cf,ao cg cC.cd,ao bA cC.cv,ao cJ cC.b0,ae cC.cN,ae cC.c',aw cC.c9,ae cC.ca,ae cC.bV]) (G1:=λv=>[(0,.obj [.lit v,ao bA ez.aD.bY,ao cy ez.aD.bd,aw ez.aD.b8,aw ez.aD.cf,ao cg ez.cd,ao bA ez.cv,ao cJ ez.b0,ae ez.cN,ae ez.c',aw ez.c9,ae ez.ca,ae ez.bV]),(4,.obj (dP.cells aB)),(5,.obj (d'.cells a2)),(7,ae bF.1),(107,.ptr ⟨0,[]⟩ 0),(109,ae a2.At),(111,aw a2.Name)]) (G4:=λv=>[(112,.bQ []),(0,.obj [.lit v,ao bA cC.aD.bY,ao cy cC.aD.bd,aw cC.aD.b8,aw cC.aD.cf,ao cg cC.cd,ao bA cC.cv,ao cJ cC.b0,ae cC.cN,ae cC.c',aw cC.c9,ae cC.ca,ae cC.bV]),(4,.obj (dP.cells aB)),(5,.obj (d'.cells a2)),(7,ae bF.1)]) (c4:=λv=>[.lit v,ao bA cC.aD.bY,ao cy cC.aD.bd,aw cC.aD.b8,aw cC.aD.cf,ao cg cC.cd,ao bA cC.cv,ao cJ cC.b0,ae cC.cN,ae cC.c',aw cC.c9,ae cC.ca,ae cC.bV]) (G5:=[(112,.bQ []),(0,.obj [ao bU ez.aD.a1,ao bA cC.aD.bY,ao cy cC.aD.bd,aw cC.aD.b8,aw cC.aD.cf,ao cg cC.cd,ao bA cC.cv,ao cJ cC.b0,ae cC.cN,ae cC.c',aw cC.c9,ae cC.ca,ae cC.bV]),(4,.obj (dP.cells aB)),(5,.obj (d'.cells a2)),(7,ae bF.1)]) (A:=[(8,.ptr ⟨0,[0]⟩ (bF.1.toNat * bU.z+0))]) q q q q (λv=>(.b q (.n q q (.n q q (.n q q (.p q q q q q q (.n q q (.n q q .nil)))))))) (λv=>hY.lD (G2:=[(4,.obj (dP.cells aB)),(5,.obj (d'.cells a2)),(7,ae bF.1)]) (A:=[]) (ys:=[.ptr ⟨0,[]⟩ 0,ae a2.At,aw a2.Name]) (args:=[.obj [.lit v,ao bA ez.aD.bY,ao cy ez.aD.bd,aw ez.aD.b8,aw ez.aD.cf,ao cg ez.cd,ao bA ez.cv,ao cJ ez.b0,ae ez.cN,ae ez.c',aw ez.c9,ae ez.ca,ae ez.bV],ae a2.At,aw a2.Name]) (cs':=[.lit v,ao bA cC.aD.bY,ao cy cC.aD.bd,aw cC.aD.b8,aw cC.aD.cf,ao cg cC.cd,ao bA cC.cv,ao cJ cC.b0,ae cC.cN,ae cC.c',aw cC.c9,ae cC.ca,ae cC.bV]) (k0:=0) q q q q (.b q (.n q (.n q .nil))) q (Hf v ez a2.At a2.Name _ B1) call101 (rl q q q) q q (rl q q q) .nil q) (λv=>q) (λv=>q) (λv=>q) (λv=>(.n q q (.b q (.n q q (.n q q (.n q q .nil)))))) q (.c (en:=bU) (L:=ez.aD.a1) q q oL q q q .nil))<|gn (.n q (.n q (.n q (.n q (.r q (ej.el (en:=bU) q oL q) jG .nil)))))) ?_;exact sm h ▸ aE.b6 (.n q (.n q (.n q (.n q (.r q (ej.el (en:=bU) q oL q) jG .nil)))))
     ·exact W.dv<|sm h ▸ aE.b6 (.n q (.n q (.n q (.n q (.r q (ej.el (en:=bU) q oL q) jG .nil)))))
    refine aV h λeo oM h=>aE.bJ<|W.rs [(0,_),(4,_),(5,_),(7,_),(8,.ptr ⟨0,[0]⟩ (bF.1.toNat * bU.z+0))] (ax (O.aZ .z5)<|ax O.bN<|ax O.ew<|ax (O.ev .z5)<|ax (O.j_ (en:=bU) q .z5 MI oM q q)<|aC.nR (G2:=[(0,.obj [ao bU (dN.aD.a1.set bF.1.toNat (⟨eo.Name,eo.Lit,a2.bL,eo.Level,eo.e9,eo.Tag⟩:Tok)),ao bA dN.aD.bY,ao cy dN.aD.bd,aw dN.aD.b8,aw dN.aD.cf,ao cg dN.cd,ao bA dN.cv,ao cJ dN.b0,ae dN.cN,ae dN.c',aw dN.c9,ae dN.ca,ae dN.bV]),(4,.obj (dP.cells aB)),(5,.obj (d'.cells a2)),(7,ae bF.1),(8,.ptr ⟨0,[0]⟩ (bF.1.toNat * bU.z+0))]) q (br.ye (en:=bU) (y2:=(⟨eo.Name,eo.Lit,a2.bL,eo.Level,eo.e9,eo.Tag⟩:Tok)) (cs':=[ae a2.bL]) (x2:=.obj [ao bU (dN.aD.a1.set bF.1.toNat (⟨eo.Name,eo.Lit,a2.bL,eo.Level,eo.e9,eo.Tag⟩:Tok)),ao bA dN.aD.bY,ao cy dN.aD.bd,aw dN.aD.b8,aw dN.aD.cf,ao cg dN.cd,ao bA dN.cv,ao cJ dN.b0,ae dN.cN,ae dN.c',aw dN.c9,ae dN.ca,ae dN.bV]) q q (.ptr q) (.lit q) q oM Ah q q q q q q q (.b q (.n q q (.n q q (.n q q (.e q q (.mk (en:=bU) q oM q (n2 oM) q) q .nil))))))<|gn (.n q (.n q (.n q (.n q (.r q (ej.el (en:=bU) q (n2 oM) q) jG .nil)))))) ?_;refine aV h λho qa h=>W.rx [(0,_),(4,_),(5,_),(8,.ptr ⟨0,[0]⟩ (bF.1.toNat * bU.z+0))] (ax (O.aZ .z4)<|ax (O.ev .z5)<|ax O.y2<|ax (O.dz (y:=.bg cg.z ⟨0,[5]⟩ dN.cd.length))<|c7 q<|ax (O.gT (en:=cg) q .dw .bj rh qa q)<|aC.nR (G2:=[(0,.obj [ao bU (dN.aD.a1.set bF.1.toNat (⟨eo.Name,eo.Lit,a2.bL,eo.Level,eo.e9,eo.Tag⟩:Tok)),ao bA dN.aD.bY,ao cy dN.aD.bd,aw dN.aD.b8,aw dN.aD.cf,ao cg (dN.cd.set bF.1.toNat true),ao bA dN.cv,ao cJ dN.b0,ae dN.cN,ae dN.c',aw dN.c9,ae dN.ca,ae dN.bV]),(4,.obj (dP.cells aB)),(5,.obj (d'.cells a2)),(8,.ptr ⟨0,[0]⟩ (bF.1.toNat * bU.z+0))]) q (br.ye (en:=cg) (y2:=true) (cs':=[bc true]) (x2:=.obj [ao bU (dN.aD.a1.set bF.1.toNat (⟨eo.Name,eo.Lit,a2.bL,eo.Level,eo.e9,eo.Tag⟩:Tok)),ao bA dN.aD.bY,ao cy dN.aD.bd,aw dN.aD.b8,aw dN.aD.cf,ao cg (dN.cd.set bF.1.toNat true),ao bA dN.cv,ao cJ dN.b0,ae dN.cN,ae dN.c',aw dN.c9,ae dN.ca,ae dN.bV]) q q (.ptr q) (.k q) q qa ZE q q q q q q q (.b q (.n q q (.n q q (.e q q (.mk (en:=bU) q (n2 oM) q (n2 oM) q) q .nil)))))<|gn (.n q (.n q (.n q (.r q (ej.el (en:=bU) q (n2 oM) q) jG .nil))))) ?_;exact sm h ▸ aE.b6 (.n q (.n q (.n q (.r q (ej.el (en:=bU) q (n2 oM) q) jG .nil))))
   ·exact W.dv<|sm h ▸ aE.b6 (.n q (.n q (.n q (.r q (ej.el (en:=bU) q oL q) jG .nil))))
  refine aV h λkP nu h=>aE.bJ<|W.rs [(0,_),(4,_),(5,_),(8,.ptr ⟨0,[0]⟩ (bF.1.toNat * bU.z+0)),(126,_)] (ax O.bN<|ax O.ew<|ax (O.nE .bj .cR)<|gn (.n q (.n q (.n q (.r q (ej.el (en:=bU) q nu q) jG (.n q .nil)))))) ?_;refine aV h λpx ai h=>W.gi [0] [(0,.obj (dI.cells px))] ?_ ?_
  ·clear h; have h:=ai; clear ai;refine W.cc h q (λnj h=>?_) (λnj h=>?_)
   ·refine W.bP<|W.bP<|aV h λwM ai h=>W.rd [[],[0],[0,1],[0,1,2],[0,1,2,3],aL 0 5 [],aL 0 6 [],aL 0 7 [],aL 0 8 [],aL 0 9 [],aL 0 6 [],aL 0 6 [10],aL 0 12 [],aL 0 13 []] [(0,.obj (dI.cells eN)),(4,.obj (dP.cells aB)),(5,.obj (d'.cells a2)),(8,.ptr ⟨0,[0]⟩ (bF.1.toNat * bU.z+0)),(140,bc wM)] fV (by kernel_rfl) ?_ ?_
    ·refine aF 0 (O.aZ .z5)<|aF 1 (O.ev .z5)<|aF 2 (O.j_ (en:=bU) q .z5 Hv nu q q)<|aF 3 (O.jS (en:=bU) (x':=aw kP.Tag) q .z5 wP nu q q)<|aF 4 (O.nE .bj .cR)<|aF 5 (O.aZ (.lit q)) ?_;rcases gB ai with ⟨jD,ai⟩ | ⟨jD,ai⟩
     ·exact sm ai ▸ (iN 6 jD (O.aZ .z5)<|iN 7 jD (O.ev .z5)<|iN 8 jD (O.j_ (en:=bU) q .z5 Hv nu q q)<|iN 9 jD (O.jS (en:=bU) (x':=aw kP.Tag) q .z5 wP nu q q)<|iN 10 jD O.bN<|iN 11 jD O.ew<|iN 12 jD (O.nE .bj .bj)<|aF 13 (O.js .bj jD .bj)<|bE.fin q q q (.n q (.n q (.n q (.r q (ej.el (en:=bU) q nu q) jG (.n q .nil))))))
     ·exact sm ai ▸ (ib 6 jD<|ib 7 jD<|ib 8 jD<|ib 9 jD<|ib 10 jD<|ib 11 jD<|ib 12 jD<|aF 13 (O.jI .bj jD .cR)<|bE.fin q q q (.n q (.n q (.n q (.r q (ej.el (en:=bU) q nu q) jG (.n q .nil))))))
    refine aE.bJ<|aV h λmu ai h=>W.gi [0,4,8] [(0,.obj (dI.cells mu))] ?_ ?_
    ·clear h; have h:=ai; clear ai;refine W.cc h q (λze h=>?_) (λze h=>?_)
     ·refine aV h λcT I2 h=>W.rx [(0,_),(4,_),(8,.ptr ⟨0,[0]⟩ (bF.1.toNat * bU.z+0))] (ax (O.aZ .z4)<|ax O.bN<|ax O.ew<|ax O.bN<|ax O.ew<|aC.nR (G2:=[(8,.ptr ⟨0,[0]⟩ (bF.1.toNat * bU.z+0))]++[(146,.bQ []),(0,.obj [ao bU eN.aD.a1,ao bA cT.aD.bY,ao cy cT.aD.bd,aw cT.aD.b8,aw cT.aD.cf,ao cg cT.cd,ao bA cT.cv,ao cJ cT.b0,ae cT.cN,ae cT.c',aw cT.c9,ae cT.ca,ae cT.bV]),(4,.obj (dP.cells aB))]) q (br.dF (r:=0) (k0:=0) (y:=ao bU eN.aD.a1) (cs5:=[ao bU eN.aD.a1,ao bA cT.aD.bY,ao cy cT.aD.bd,aw cT.aD.b8,aw cT.aD.cf,ao cg cT.cd,ao bA cT.cv,ao cJ cT.b0,ae cT.cN,ae cT.c',aw cT.c9,ae cT.ca,ae cT.bV]) (G1:=λv=>[(0,.obj [.lit v,ao bA eN.aD.bY,ao cy eN.aD.bd,aw eN.aD.b8,aw eN.aD.cf,ao cg eN.cd,ao bA eN.cv,ao cJ eN.b0,ae eN.cN,ae eN.c',aw eN.c9,ae eN.ca,ae eN.bV]),(4,.obj (dP.cells aB)),(141,.ptr ⟨0,[]⟩ 0),(143,ae a2.At),(145,aw a2.Name)]) (G4:=λv=>[(146,.bQ []),(0,.obj [.lit v,ao bA cT.aD.bY,ao cy cT.aD.bd,aw cT.aD.b8,aw cT.aD.cf,ao cg cT.cd,ao bA cT.cv,ao cJ cT.b0,ae cT.cN,ae cT.c',aw cT.c9,ae cT.ca,ae cT.bV]),(4,.obj (dP.cells aB))]) (c4:=λv=>[.lit v,ao bA cT.aD.bY,ao cy cT.aD.bd,aw cT.aD.b8,aw cT.aD.cf,ao cg cT.cd,ao bA cT.cv,ao cJ cT.b0,ae cT.cN,ae cT.c',aw cT.c9,ae cT.ca,ae cT.bV]) (G5:=[(146,.bQ []),(0,.obj [ao bU eN.aD.a1,ao bA cT.aD.bY,ao cy cT.aD.bd,aw cT.aD.b8,aw cT.aD.cf,ao cg cT.cd,ao bA cT.cv,ao cJ cT.b0,ae cT.cN,ae cT.c',aw cT.c9,ae cT.ca,ae cT.bV]),(4,.obj (dP.cells aB))]) (A:=[(8,.ptr ⟨0,[0]⟩ (bF.1.toNat * bU.z+0))]) q q q q (λv=>(.b q (.n q q (.p q q q q q q (.n q q (.n q q .nil)))))) (λv=>hY.lD (G2:=[(4,.obj (dP.cells aB))]) (A:=[]) (ys:=[.ptr ⟨0,[]⟩ 0,ae a2.At,aw a2.Name]) (args:=[.obj [.lit v,ao bA eN.aD.bY,ao cy eN.aD.bd,aw eN.aD.b8,aw eN.aD.cf,ao cg eN.cd,ao bA eN.cv,ao cJ eN.b0,ae eN.cN,ae eN.c',aw eN.c9,ae eN.ca,ae eN.bV],ae a2.At,aw a2.Name]) (cs':=[.lit v,ao bA cT.aD.bY,ao cy cT.aD.bd,aw cT.aD.b8,aw cT.aD.cf,ao cg cT.cd,ao bA cT.cv,ao cJ cT.b0,ae cT.cN,ae cT.c',aw cT.c9,ae cT.ca,ae cT.bV]) (k0:=0) q q q q (.b q (.n q (.n q .nil))) q (Hf v eN a2.At a2.Name _ I2) call101 (.n q .nil) q q (.n q .nil) .nil q) (λv=>q) (λv=>q) (λv=>q) (λv=>(.n q q (.b q (.n q q .nil)))) q (.c (en:=bU) (L:=eN.aD.a1) q q nu q q q .nil))<|gn (.n q (.n q (.r q (ej.el (en:=bU) q nu q) jG .nil)))) ?_;exact sm h ▸ aE.b6 (.n q (.n q (.r q (ej.el (en:=bU) q nu q) jG .nil)))
     ·exact W.dv<|sm h ▸ aE.b6 (.n q (.n q (.r q (ej.el (en:=bU) q nu q) jG .nil)))
    refine aV h λgm uu h=>aE.bJ<|W.b' [0] (ax (O.aZ .z5)<|ax O.bN<|ax O.ew<|ax (O.ev .z5)<|ax (O.j_ (en:=bU) q .z5 Hv uu q q)<|aC.eI (br.rf (en:=bU) (y2:=(⟨gm.Name,gm.Lit,gm.bL,gm.Level,gm.e9,aB.Tag⟩:Tok)) [0] uu)<|bW q) ?_;exact sm h ▸ aE.ek
   ·exact W.dv<|sm h ▸ aE.ek
  exact sm h ▸ aE.fin (Fin.ro .nil q (sX (by kernel_rfl)) (.ag q q (.no (.no .nil))) q (.inl q))
instance aaz {a0:dd}{aB:Decl}{a2:Sym}{r:dd}:bO prog 100 (sZ a0 aB a2=some r) [.obj (dI.cells a0),.agg (dP.cells aB),.agg (d'.cells a2)] [some (.obj [ao bU r.aD.a1,ao bA r.aD.bY,ao cy r.aD.bd,aw r.aD.b8,aw r.aD.cf,ao cg r.cd,ao bA r.cv,ao cJ r.b0,ae r.cN,ae r.c',aw r.c9,ae r.ca,ae r.bV]),none,none] (.bQ []):=⟨SV a0 aB a2 _⟩
instance aaC {a0:dd}{aB:ByteArray}{r:Int}:bO prog 103 (s0 a0 aB=some r) [.cO ([ak bU a0.aD.a1,ak bA a0.aD.bY,ak cy a0.aD.bd,aw a0.aD.b8,aw a0.aD.cf,ak cg a0.cd,ak bA a0.cv,ak cJ a0.b0,ae a0.cN,ae a0.c',aw a0.c9,ae a0.ca,ae a0.bV]),aw aB] [none,none] (ae r):=⟨λh=>by unfold s0 at h; exact b1.bI (N:=⟨25,[]⟩) [0,1,4,5,12,23] (.f_ (λ(s1:Int)=>[(5,ae s1)]) [0,1,5] 0 (λ(aX:Unit)=>[]) [] (λ(bR:Int)=>[(4,ae bR)]) [4] .e .e .e) func103 rfl rfl rfl rfl rfl dW⟩
instance aaU {a0:dd}{aB:Sym}{r:Int × dd}:bO prog 120 (q4 a0 aB=some r) [.obj (dI.cells a0),.agg (d'.cells aB)] [some (.obj [ao bU r.2.aD.a1,ao bA r.2.aD.bY,ao cy r.2.aD.bd,aw r.2.aD.b8,aw r.2.aD.cf,ao cg r.2.cd,ao bA r.2.cv,ao cJ r.2.b0,ae r.2.cN,ae r.2.c',aw r.2.c9,ae r.2.ca,ae r.2.bV]),none] (ae r.1):=⟨λh=>by unfold q4 at h; exact b1.bI (N:=⟨32,[0]⟩) [0,3,4,5,6,8,17,24] .e func120 rfl rfl rfl rfl rfl dW⟩
theorem SX (a0:dd) (aB:ByteArray) (a2:Alt) (r:dd) (h:s3 a0 aB a2=some r):b1 prog 104 [.obj (dI.cells a0),aw aB,.agg (fO.cells a2)] [some (.obj [ao bU r.aD.a1,ao bA r.aD.bY,ao cy r.aD.bd,aw r.aD.b8,aw r.aD.cf,ao cg r.cd,ao bA r.cv,ao cJ r.b0,ae r.cN,ae r.c',aw r.c9,ae r.ca,ae r.bV]),none,none] (.bQ []):=by
 unfold s3 at h;refine b1.go (N:=⟨173,[0]⟩) func104 q q q q (W.fin ?_);refine W.st [(0,.obj (dI.cells a0)),(1,aw aB),(2,.agg (fO.cells a2))] ?_;refine W.dr [0,1,5] (ax (O.box (.dV q q) q)<|bW q) ?_;refine W.bP<|aV h λa6 jO h=>W.rd [[],[],[0,1],[0,1,2],[],[4],aL 0 6 [],[],aL 0 8 []] [(0,_),(5,_),(6,_)] fV (by kernel_rfl) (aF 0 (O.aZ .z4)<|aF 1 (O.aZ (.lit q))<|lK 2 (cV.sg (ys:=[.ptr ⟨0,[]⟩ 0,aw aB]) q (.c (View.pE q q) (.s .nil)) (bO.go jO))<|aF 3 (O.add .cR .bj)<|aF 4 O.bN<|aF 5 O.ew<|aF 6 (O.eW (cs:=[ae (aG (1+a6)),.aQ,ae (-1),aw bf,.aQ,ae a2.At]) Kp Gm q q q)<|aF 7 (O.gz (cs:=[ae 0,.aQ,ae 0,aw bf,.aQ,ae 0]) Gm q q)<|bE.jA 8 (br.hU [0,5,6])<|bE.fin q q q (rl q q q)) ?_;refine aE.bJ<|W.bP<|W.c5 [0,5,6,7] ?_;refine W.cH<|aV h λaX aj h=>W.hQ (a0,([]:List Int),bf,a2.At,0) (λ(s2:dd × List Int × ByteArray × Int × Int)=>[(0,.obj (dI.cells s2.1)),(6,.obj [ae (aG (1+a6)),ao az s2.2.1,ae (-1),aw s2.2.2.1,.aQ,ae s2.2.2.2.1]),(7,ae s2.2.2.2.2)]) [0,5,6,7] 0 (λ(aX:dd × List Int × ByteArray × Int)=>[(0,.obj (dI.cells aX.1)),(6,.obj [ae (aG (1+a6)),ao az aX.2.1,ae (-1),aw aX.2.2.1,.aQ,ae aX.2.2.2])]) [0,5,6] aj (λs2 o h=>?_) ?_
 ·clear aj;refine W.bP<|W.c5 [0,5,6,7,21] ?_;refine W.cc h q (λt_ h=>?_) (λt_ h=>?_)
  ·refine W.dv<|aE.bJ<|W.bP<|aV h λkI ai h=>W.gi [0,5,6,7] [(0,.obj (dI.cells kI.1)),(6,.obj [ae (aG (1+a6)),ao az kI.2.1,ae (-1),aw kI.2.2.1,.aQ,ae kI.2.2.2])] ?_ ?_
   ·clear h; have h:=ai; clear ai;refine W.cH<|aV h λbS r2 h=>W.dr [0,5,6,7,8] (ax O.bN<|ax (O.dz (y:=ak fY a2.Parts))<|c7 q<|ax (O.gW r2)<|ax (O.sT (cs':=fY.cells bS) .uU R1 q q)<|ax (O.gz (cs:=[aw bf,bc false,ae 0,ae 0,aw bf,ae 0]) yn q q)<|aC.eI (br.hU [0,5,6,7,8])<|bW q) ?_;refine aV h λfg ai h=>W.gi [0,5,6,7] [(0,.obj (dI.cells fg.1)),(6,.obj [ae (aG (1+a6)),ao az fg.2.1,ae (-1),aw fg.2.2.1,.aQ,ae fg.2.2.2])] ?_ ?_
    ·clear h; have h:=ai; clear ai;refine W.cH<|W.c5 [0,5,6,7,8,82] ?_;refine aV h λny ai h=>W.gi [0,5,6,7] [(0,.obj (dI.cells ny.1)),(6,.obj [ae (aG (1+a6)),ao az ny.2.1,ae (-1),aw ny.2.2.1,.aQ,ae ny.2.2.2])] ?_ ?_
     ·clear h; have h:=ai; clear ai;refine W.cc h q (λBs h=>?_) (λBs h=>?_)
      ·refine aV h λcB nt h=>aV h λdJ BZ h=>W.rd [[],[0],[],[],[3],[2,3,4],[2,3,4,5],aL 0 7 [],aL 0 8 [],aL 0 9 []] [(0,_),(5,_),(6,_),(7,_)] fV (by kernel_rfl) (aF 0 O.bN<|aF 1 (O.dz (y:=.bg az.z ⟨6,[1]⟩ s2.2.1.length))<|aF 2 (O.aZ .z4)<|aF 3 O.bN<|aF 4 (O.eZ (cs':=d'.cells bS.Sym) q .z5 yS q q)<|bE.eW 5 (G2:=(6,.obj [ae (aG (1+a6)),ao az s2.2.1,ae (-1),aw s2.2.2.1,.aQ,ae s2.2.2.2.1])::[(91,ae cB.1),(0,.obj (dI.cells cB.2)),(5,.obj (fO.cells a2)),(7,ae s2.2.2.2.2)]) (U:=[(1,87,some (.bg az.z ⟨6,[1]⟩ s2.2.1.length)),(0,86,some (.ptr ⟨6,[]⟩ 1))]) (o7.box (r:=6) (G1:=[(0,.obj (dI.cells s2.1)),(5,.obj (fO.cells a2)),(7,ae s2.2.2.2.2),(88,.ptr ⟨0,[]⟩ 0),(90,.agg (d'.cells bS.Sym))]) (G2:=[(91,ae cB.1),(0,.obj (dI.cells cB.2)),(5,.obj (fO.cells a2)),(7,ae s2.2.2.2.2)]) (br.call q q (hY.lD (G2:=[(5,.obj (fO.cells a2)),(7,ae s2.2.2.2.2)]) (A:=[]) (ys:=[.ptr ⟨0,[]⟩ 0,.agg (d'.cells bS.Sym)]) (args:=[.obj (dI.cells s2.1),.agg (d'.cells bS.Sym)]) (cs':=dI.cells cB.2) (k0:=0) q q q q (.b q (.n q .nil)) q (bO.go nt) call120 (rk q q) q q (rk q q) .nil q)) q (.n q (.n q (.n q (.q q q q (.n q .nil))))) q q q) q q (by kernel_rfl) q q q (.c (.inl ⟨6,[1],_,_,_,_,q,by simp [sc],q,q,Nat.le_refl _⟩) q q q q q (e7.wanted .none) (O.xz (y:=.bg az.z ⟨6,[1]⟩ s2.2.1.length) q .z5 Hg q q) (.c (.inr (.inr (.inr (.inl ⟨6,_,_,q,q,iK q,by simp,_,q,iK q⟩)))) q q q q q (e7.wanted .none) (O.ng q .z4 ME q) .nil)) (by kernel_rfl)<|bE.gG 6 (x:=ak az [cB.1]) (O.dq (ys:=[ae cB.1]) az [cB.1] jX q q q q q q qz q q) q q q q .none<|aF 7 (O.ap (en:=az) (r:=dJ) .dw q .z2 .i rz q BZ)<|aF 8 O.bN<|bE.jA 9 (br.sp [0,5,6,7])<|bE.fin q q q (kt q q q q)) ?_;exact sm h ▸ aE.ek
      ·refine W.c5 [0,5,6,7,8,95] ?_;refine aV h λiz ai h=>W.gi [0,5,6,7] [(0,.obj [ao bU s2.1.aD.a1,ao bA s2.1.aD.bY,ao cy iz.1,aw s2.1.aD.b8,aw s2.1.aD.cf,ao cg s2.1.cd,ao bA s2.1.cv,ao cJ s2.1.b0,ae s2.1.cN,ae s2.1.c',aw s2.1.c9,ae s2.1.ca,ae iz.2.1]),(6,.obj [ae (aG (1+a6)),ao az iz.2.2.1,ae (-1),aw iz.2.2.2.1,.aQ,ae iz.2.2.2.2])] ?_ ?_
       ·clear h; have h:=ai; clear ai;refine W.cc h q (λtX h=>?_) (λtX h=>?_)
        ·refine W.rd [[],[0],[],[2],[0,1],[0,1,4],aL 0 6 [],aL 0 7 []] [(0,_),(5,_),(6,_),(7,_)] fV (by kernel_rfl) (aF 0 O.bN<|aF 1 O.ew<|aF 2 O.bN<|aF 3 O.ew<|aF 4 O.bN<|bE.eW 5 (G2:=[(0,.obj (dI.cells s2.1)),(5,.obj (fO.cells a2)),(6,.obj [ae (aG (1+a6)),ao az s2.2.1,ae (-1),aw bS.Code,.aQ,ae s2.2.2.2.1]),(7,ae s2.2.2.2.2),(8,.obj (fY.cells bS))]) (U:=[(3,105,some (ae bS.At)),(2,104,some (.ptr ⟨8,[]⟩ 5))]) (iE.v (br.kn (br.ij (G2:=[(0,.obj (dI.cells s2.1)),(5,.obj (fO.cells a2)),(6,.obj [ae (aG (1+a6)),ao az s2.2.1,ae (-1),aw bS.Code,.aQ,ae s2.2.2.2.1]),(7,ae s2.2.2.2.2),(8,.obj (fY.cells bS))]) (cs2:=[ae (aG (1+a6)),ao az s2.2.1,ae (-1),aw bS.Code,.aQ,ae s2.2.2.2.1]) q q q (.ptr q) (.lit q) q FV q q q q (.n q q (.n q q (.b q (.n q q (.n q q .nil)))))))) q q (by kernel_rfl) q q q (.c (.inr (.inl ⟨_,q⟩)) q q q q q (e7.wanted .none) (O.pz q .z5 sv q) (.c (.inr (.inr (.inr (.inl ⟨8,_,_,q,q,iK q,by simp,_,q,iK q⟩)))) q q q q q (e7.wanted .none) (O.ng q .z4 TK q) .nil)) (by kernel_rfl)<|aF 6 O.bN<|bE.jA 7 (br.oY [0,5,6,7])<|bE.fin q q q (kt q q q q)) ?_;exact sm h ▸ aE.ek
        ·refine W.dr [0,5,6,7,8] (ax (O.aZ .z4)<|ax (O.ev .z5)<|ax O.y2<|ax O.ew<|ax (O.add .bj .cR)<|ax (O.ev .z5)<|ax O.y2<|aC.eI (br.oY [0,5,6,7,8])<|bW q) ?_;refine W.bP<|aV h λcL mn h=>aV h λbX rX h=>W.rd [[],[],[1],[1,2],[1,2,3],[1,2,3,4],[],[6],[6,7],[6,7,8],[6,7,8,9],[],[11],[11,12],[11,12,13],aL 6 9 [],[],[16],[],[],[19],[18,19,20],[],[22],aL 6 18 [],aL 6 19 [],aL 1 25 [],aL 0 27 [],aL 0 28 [],aL 0 29 [],aL 0 30 []] [(0,_),(5,_),(6,_),(7,_)] fV (by kernel_rfl) (aF 0 (O.aZ .z4)<|aF 1 (O.aZ .z4)<|aF 2 (O.ev .z5)<|aF 3 O.y2<|aF 4 O.y2<|aF 5 (O.dz (y:=.bg cy.z ⟨0,[2]⟩ s2.1.aD.bd.length))<|aF 6 (O.aZ .z4)<|aF 7 (O.ev .z5)<|aF 8 O.y2<|aF 9 (O.dz (y:=.bg cJ.z ⟨0,[7]⟩ s2.1.b0.length))<|aF 10 (O.nA .dw FP)<|aF 11 (O.aZ .z4)<|aF 12 (O.ev .z5)<|aF 13 O.y2<|aF 14 O.ew<|aF 15 (O.add .bj .bj)<|aF 16 O.bN<|aF 17 O.ew<|aF 18 (O.dq (ys:=[]) az ([]:List Int) jX q q q q q q qz q q)<|aF 19 O.bN<|aF 20 (O.dz (y:=.bg az.z ⟨6,[1]⟩ s2.2.1.length))<|aF 21 (O.ap (en:=az) (r:=cL) .z3 q .dw (.flat az q) rz q mn)<|aF 22 O.bN<|aF 23 O.ew<|aF 24 (O.eW (cs:=[ae (aG ((s2.1.b0.length:Int)+(aG (s2.1.bV+1)))),.aQ,ae (-1),aw bS.Code,.bg az.z ⟨57,[]⟩ (([]:List Int).length+s2.2.1.length),ae bS.At]) Kp Gm q q q)<|aF 25 (O.u_ (ys:=[.agg [ae (aG ((s2.1.b0.length:Int)+(aG (s2.1.bV+1)))),.aQ,ae (-1),aw bS.Code,.bg az.z ⟨57,[]⟩ (([]:List Int).length+s2.2.1.length),ae bS.At]]) (cs:=[ae (aG ((s2.1.b0.length:Int)+(aG (s2.1.bV+1)))),.aQ,ae (-1),aw bS.Code,.bg az.z ⟨57,[]⟩ (([]:List Int).length+s2.2.1.length),ae bS.At]) FO q q q q q K0 q q)<|aF 26 (O.RJ (en:=cy) (M:=[(⟨aG ((s2.1.b0.length:Int)+(aG (s2.1.bV+1))),([]:List Int),(-1),bS.Code,([]:List Int)++s2.2.1,bS.At⟩:Prod)]) (r:=bX) .dw q .z3 q q q q LC q rX (zF (by kernel_rfl) (by kernel_rfl)))<|aF 27 (O.ev .z5)<|aF 28 O.y2<|aF 29 O.y2<|bE.jA 30 (G2:=[(0,.obj [ao bU s2.1.aD.a1,ao bA s2.1.aD.bY,ao cy (s2.1.aD.bd++[(⟨aG ((s2.1.b0.length:Int)+(aG (s2.1.bV+1))),([]:List Int),(-1),bS.Code,([]:List Int)++s2.2.1,bS.At⟩:Prod)]),aw s2.1.aD.b8,aw s2.1.aD.cf,ao cg s2.1.cd,ao bA s2.1.cv,ao cJ s2.1.b0,ae s2.1.cN,ae s2.1.c',aw s2.1.c9,ae s2.1.ca,ae (aG (s2.1.bV+1))]),(5,.obj (fO.cells a2)),(6,.obj [ae (aG (1+a6)),ao az s2.2.1,ae (-1),aw s2.2.2.1,.aQ,ae s2.2.2.2.1]),(7,ae s2.2.2.2.2)]) (br.FT (g1:=_) (en:=cy) (M:=[(⟨aG ((s2.1.b0.length:Int)+(aG (s2.1.bV+1))),([]:List Int),(-1),bS.Code,([]:List Int)++s2.2.1,bS.At⟩:Prod)]) (cs2:=[ao bU s2.1.aD.a1,ao bA s2.1.aD.bY,ao cy (s2.1.aD.bd++[(⟨aG ((s2.1.b0.length:Int)+(aG (s2.1.bV+1))),([]:List Int),(-1),bS.Code,([]:List Int)++s2.2.1,bS.At⟩:Prod)]),aw s2.1.aD.b8,aw s2.1.aD.cf,ao cg s2.1.cd,ao bA s2.1.cv,ao cJ s2.1.b0,ae s2.1.cN,ae s2.1.c',aw s2.1.c9,ae s2.1.ca,ae (aG (s2.1.bV+1))]) q q (.ptr q) (.bB q) q q q (.f (.f (.f (.f (.ih q q q .iJ (.f .nil)))))) (.f (.z (.f (.f (.z (hv:=iS.ih q q) (.f .nil)))))) q q ZF q q q q (.b q (.n q q (.n q q (.n q q .nil)))))<|bE.fin q q q (kt q q q q)) ?_;refine aE.bJ<|aV h λbD lV h=>W.rd [[],[0],[],[2],[2,3],[2,3,4],[2,3,4,5],aL 2 5 [],[],[8],[8,9],[8,9,10],aL 2 10 [],aL 2 11 [],aL 0 14 [],aL 0 15 [],aL 0 16 []] [(0,_),(5,_),(6,_),(7,_)] fV (by kernel_rfl) (aF 0 O.bN<|aF 1 (O.dz (y:=.bg az.z ⟨6,[1]⟩ s2.2.1.length))<|aF 2 (O.aZ .z4)<|aF 3 (O.ev .z5)<|aF 4 O.y2<|aF 5 (O.dz (y:=.bg cJ.z ⟨0,[7]⟩ s2.1.b0.length))<|aF 6 (O.nA .dw FP)<|aF 7 (O.add .cR .bj)<|aF 8 (O.aZ .z4)<|aF 9 (O.ev .z5)<|aF 10 O.y2<|aF 11 O.ew<|aF 12 (O.add .bj .bj)<|bE.gG 13 (x:=ak az [aG ((aG (1000+(s2.1.b0.length:Int)))+(aG (s2.1.bV+1)))]) (O.dq (ys:=[ae (aG ((aG (1000+(s2.1.b0.length:Int)))+(aG (s2.1.bV+1))))]) az [aG ((aG (1000+(s2.1.b0.length:Int)))+(aG (s2.1.bV+1)))] jX q q q q q q qz q q) q q q q .none<|aF 14 (O.ap (en:=az) (r:=bD) .dw q .z2 .i rz q lV)<|aF 15 O.bN<|bE.jA 16 (br.sp [0,5,6,7])<|bE.fin q q q (kt q q q q)) ?_;exact sm h ▸ aE.ek
       exact sm h ▸ aE.ek
     exact aE.cH<|sm h ▸ aE.ek
    exact aE.cH<|sm h ▸ aE.ek
   refine aE.bJ<|W.b' [0,5,6,7] (c7 q<|ax (O.add .bj .cR)<|aC.b' [0,5,6,23] q<|aC.bI) ?_;exact sm h ▸ aE.gt
  ·exact W.gI<|aE.gE<|sm h ▸ aE.t1
 refine aE.gA<|aE.bJ<|W.bP<|W.c5 [0,5,6,9] ?_;refine W.cH<|aV h λfh aj h=>W.hQ ((-1),0) (λ(s9:Int × Int)=>[(6,.obj [ae (aG (1+a6)),ao az aX.2.1,ae s9.1,aw aX.2.2.1,.aQ,ae aX.2.2.2]),(9,ae s9.2)]) [0,5,6,9] 3 (λ(fh:Int)=>[(6,.obj [ae (aG (1+a6)),ao az aX.2.1,ae fh,aw aX.2.2.1,.aQ,ae aX.2.2.2])]) [0,5,6] aj (λs9 o h=>?_) ?_
 ·clear aj;refine W.bP<|W.c5 [0,5,6,9,112] ?_;refine W.cc h q (λly h=>?_) (λly h=>?_)
  ·refine W.dv<|aE.bJ<|W.bP<|aV h λmr ai h=>W.gi [0,5,6,9] [(6,.obj [ae (aG (1+a6)),ao az aX.2.1,ae mr,aw aX.2.2.1,.aQ,ae aX.2.2.2])] ?_ ?_
   ·clear h; have h:=ai; clear ai;refine W.cH<|aV h λfl ES h=>W.dr [0,5,6,9,120] (ax O.bN<|ax (O.dz (y:=.bg az.z ⟨6,[1]⟩ aX.2.1.length))<|c7 q<|ax (O.gT (en:=az) q .dw .bj jX ES q)<|ax (O.jS (en:=az) (x':=ae fl) q .z5 sv ES q q)<|aC.bI) ?_;refine aV h λr6 ai h=>W.gi [0,5,6,9] [(6,.obj [ae (aG (1+a6)),ao az aX.2.1,ae r6,aw aX.2.2.1,.aQ,ae aX.2.2.2])] ?_ ?_
    ·clear h; have h:=ai; clear ai;refine W.cc h q (λUX h=>?_) (λUX h=>?_)
     ·refine aV h λhX B0 h=>W.b' [0,5,6,9] (ax O.bN<|ax (O.dz (y:=.bg az.z ⟨6,[1]⟩ aX.2.1.length))<|c7 q<|ax (O.gT (en:=az) q .dw .bj jX B0 q)<|ax (O.jS (en:=az) (x':=ae hX) q .z5 sv B0 q q)<|ax O.bN<|aC.eI (br.oY [0,5,6,9])<|bW q) ?_;exact sm h ▸ aE.ek
     ·exact W.dv<|sm h ▸ aE.ek
    exact aE.cH<|sm h ▸ aE.ek
   refine aE.bJ<|W.b' [0,5,6,9] (c7 q<|ax (O.add .bj .cR)<|aC.b' [0,5,6,114] q<|aC.bI) ?_;exact sm h ▸ aE.gt
  ·exact W.gI<|aE.gE<|sm h ▸ aE.t1
 refine aE.gA<|aE.bJ<|W.bP<|W.c5 [0,5,6,130] ?_;refine aV h λjR ai h=>W.gi [0,6] [(0,.obj (dI.cells jR.1)),(6,.obj [ae (aG (1+a6)),ao az aX.2.1,ae jR.2,aw aX.2.2.1,.aQ,ae aX.2.2.2])] ?_ ?_
 ·clear h; have h:=ai; clear ai;refine W.cc h q (λH6 h=>?_) (λH6 h=>?_)
  ·refine W.dr [0,5,6] (ax O.bN<|aC.eI (br.oY [0,5,6])<|bW q) ?_;refine aV h λtI ai h=>W.n' [0,5,6,142] [(142,bc tI)] ?_ ?_
   ·refine ax O.bN<|ax O.y2<|ax O.ew<|ax (O.aZ (.lit q)) ?_;rcases gB ai with ⟨zd,ai⟩ | ⟨zd,ai⟩
    ·exact sm ai ▸ aC.bI
    ·refine cq zd (O.aZ .z4)<|cq zd O.bN<|cq zd O.y2<|cq zd O.ew ?_;exact aV ai λho qa ai=>sm ai ▸ (aC.c (cV.sg (ys:=[.ptr ⟨0,[]⟩ 0,aw a2.Prec.Name]) q (.c (View.pE q q) (.s .nil)) (bO.go qa)) q q (.iD q q zd)<|aC.bI)
   refine aV h λpx ai h=>W.gi [0,6] [(0,.obj (dI.cells px.1)),(6,.obj [ae (aG (1+a6)),ao az aX.2.1,ae px.2,aw aX.2.2.1,.aQ,ae aX.2.2.2])] ?_ ?_
   ·clear h; have h:=ai; clear ai;refine W.cc h q (λnj h=>?_) (λnj h=>?_)
    ·refine aV h λiC r0 h=>W.b' [0,6] (ax (O.aZ .z4)<|ax O.bN<|ax (O.eZ (cs':=d'.cells a2.Prec) q .z5 yS q q)<|aC.nR q (br.call q q (hY.lD (G2:=[(6,.obj [ae (aG (1+a6)),ao az aX.2.1,ae (-1),aw aX.2.2.1,.aQ,ae aX.2.2.2])]) (A:=[]) (ys:=[.ptr ⟨0,[]⟩ 0,.agg (d'.cells a2.Prec)]) (args:=[.obj (dI.cells aX.1),.agg (d'.cells a2.Prec)]) (cs':=dI.cells iC.2) (k0:=0) q q q q (.b q (.n q .nil)) q (bO.go r0) call120 (.n q .nil) q q (.n q .nil) .nil q))<|ax O.bN<|aC.eI (br.oY [0,6])<|bW q) ?_;exact sm h ▸ aE.ek
    ·refine aV h λgb I1 h=>W.b' [0,6] (ax (O.aZ .z4)<|ax O.bN<|ax O.y2<|ax O.ew<|ax O.bN<|ax O.y2<|ax O.ew<|aC.nR q (br.call q q (hY.lD (G2:=[(6,.obj [ae (aG (1+a6)),ao az aX.2.1,ae (-1),aw aX.2.2.1,.aQ,ae aX.2.2.2])]) (A:=[]) (ys:=[.ptr ⟨0,[]⟩ 0,ae a2.Prec.At,aw a2.Prec.Name]) (args:=[.obj (dI.cells aX.1),ae a2.Prec.At,aw a2.Prec.Name]) (cs':=dI.cells gb) (k0:=0) q q q q (.b q (.n q (.n q .nil))) q (bO.go I1) call101 (.n q .nil) q q (.n q .nil) .nil q))<|bW q) ?_;exact sm h ▸ aE.ek
   exact sm h ▸ aE.ek
  ·exact W.dv<|sm h ▸ aE.ek
 refine aE.bJ<|aV h λlg xk h=>W.dr [0,6] (ax (O.dq (ys:=[]) az ([]:List Int) jX q q q q q q qz q q)<|ax O.bN<|ax (O.dz (y:=.bg az.z ⟨6,[1]⟩ aX.2.1.length))<|ax (O.ap (en:=az) (r:=lg) .z3 q .dw (.flat az q) rz q xk)<|ax O.bN<|aC.eI (br.sp [0,6])<|bW q) ?_;refine W.dS (G1:=[(0,_),(6,.obj [ae (aG (1+a6)),ak az aX.2.1,ae jR.2,aw aX.2.2.1,ao az (([]:List Int)++aX.2.1),ae aX.2.2.2])]) [6] (.n q q (.z q q (fG.obj (.f (.z (.f (.f (.f (.f .nil))))))) .nil)) ?_;refine W.dS (G1:=[(0,_),(6,.obj [ae (aG (1+a6)),ak az aX.2.1,ae jR.2,aw aX.2.2.1,ak az (([]:List Int)++aX.2.1),ae aX.2.2.2])]) [6] (.n q q (.z q q (fG.obj (.f (.f (.f (.f (.z (.f .nil))))))) .nil)) ?_;refine aV h λkg qV h=>W.rd [[],[],[1],[1,2],[1,2,3],[1,2,3,4],[],[6],aL 1 7 [],aL 0 9 [],aL 0 10 [],aL 0 11 [],aL 0 12 []] [(0,_)] fV (by kernel_rfl) (aF 0 (O.aZ .z4)<|aF 1 (O.aZ .z4)<|aF 2 (O.ev .z5)<|aF 3 O.y2<|aF 4 O.y2<|aF 5 (O.dz (y:=.bg cy.z ⟨0,[2]⟩ jR.1.aD.bd.length))<|aF 6 (O.eZ (cs':=[ae (aG (1+a6)),ak az aX.2.1,ae jR.2,aw aX.2.2.1,ak az (([]:List Int)++aX.2.1),ae aX.2.2.2]) q .z4 RU q q)<|bE.gG 7 (x:=ak cy [(⟨aG (1+a6),aX.2.1,jR.2,aX.2.2.1,([]:List Int)++aX.2.1,aX.2.2.2⟩:Prod)]) (O.dq (ys:=[.agg [ae (aG (1+a6)),ak az aX.2.1,ae jR.2,aw aX.2.2.1,ak az (([]:List Int)++aX.2.1),ae aX.2.2.2]]) cy [(⟨aG (1+a6),aX.2.1,jR.2,aX.2.2.1,([]:List Int)++aX.2.1,aX.2.2.2⟩:Prod)] FO q q q q q q K0 q q) q q q q .none<|aF 8 (O.ap (en:=cy) (r:=kg) .dw q .z2 .i LC q qV)<|aF 9 (O.ev .z5)<|aF 10 O.y2<|aF 11 O.y2<|bE.jA 12 (br.sp [0])<|bE.fin q q q (.n q .nil)) ?_;exact sm h ▸ aE.fin (Fin.ro .nil q (sX (by kernel_rfl)) (.ag q q (.no (.no .nil))) q (.inl q))
instance aaD {a0:dd}{aB:ByteArray}{a2:Alt}{r:dd}:bO prog 104 (s3 a0 aB a2=some r) [.obj (dI.cells a0),aw aB,.agg (fO.cells a2)] [some (.obj [ao bU r.aD.a1,ao bA r.aD.bY,ao cy r.aD.bd,aw r.aD.b8,aw r.aD.cf,ao cg r.cd,ao bA r.cv,ao cJ r.b0,ae r.cN,ae r.c',aw r.c9,ae r.ca,ae r.bV]),none,none] (.bQ []):=⟨SX a0 aB a2 _⟩
theorem Ta (a0:Source) (r:bt × Int × Int × ByteArray) (h:qn a0=some r):b1 prog 81 [.agg (gP.cells a0)] [none] (.bQ [.agg (cM.cells r.1),ae r.2.1,ae r.2.2.1,aw r.2.2.2]):=by
 unfold qn at h;refine b1.go (N:=⟨435,[]⟩) func81 q q q q (W.fin ?_);refine W.st [(0,.agg (gP.cells a0))] ?_;refine W.dr [1,2] (ax (O.box (.dV q q) q)<|ax (O.gz (cs:=[.aQ,.aQ,.aQ,aw bf,aw bf]) qy q q)<|aC.bI) ?_;refine W.bP<|aV h λa6 jO h=>W.dr [1,2,28] (ax (O.eZ (cs':=gP.cells a0) q .z4 u6 q q)<|gM (cV.ff (.cZ (.dV q q) .nil) (bO.go jO))<|aC.bI) ?_;refine W.cc h q (λfo h=>?_) (λfo h=>?_)
 ·refine W.dr [2,3,4,5] (ax (O.eW (cs:=[.aQ,.aQ,.aQ,aw bf,aw bf]) Kq qy q q q)<|aC.eI (br.hU [2])<|aC.bI) ?_;refine W.dS (G1:=[(2,.obj [ak bU ([]:List Tok),ak bA ([]:List e_),ak cy ([]:List Prod),aw bf,aw bf]),(3,_),(4,_),(5,_)]) [2] (.z q q (fG.obj (.z (.z (.z (.f (.f .nil)))))) (.n q q (.n q q (.n q q .nil)))) ?_;exact W.rt<|aE.jJ<|sm h ▸ jL (.c (ys0:=[ak bU ([]:List Tok),ak bA ([]:List e_),ak cy ([]:List Prod),aw bf,aw bf]) q hB q q q (.f q (.f q (.f q (.f q (.f q .nil))))) (.f q q (.f q q (.f q q .nil))))
 ·refine W.dv<|aE.bJ<|aV h λaX jP h=>W.dr [1,2,6] (ax (O.mk (en:=cg) (z0:=false) rh .cR .cR KV q q jP GP q)<|ax (O.eW (cs:=[.aQ,.aQ,.aQ,aw bf,aw bf,.bg cg.z ⟨30,[]⟩ aX.length,.aQ,.aQ,ae 0,ae 0,aw bf,ae 0,ae 0]) Zb aaf q q q)<|ax (O.box (.dV q q) q)<|aC.u' (G2:=[(1,.obj (gP.cells a0)),(2,.obj [.aQ,.aQ,.aQ,aw bf,aw bf])]) q (br.AI (y':=.obj [.aQ,.aQ,.aQ,aw bf,aw bf,ao cg aX,.aQ,.aQ,ae 0,ae 0,aw bf,ae 0,ae 0]) q q (.obj q) (.b q (.f (.f (.f (.f (.f (.r q (.f (.f (.f (.f (.f (.f (.f .nil))))))))))))) .nil) .refl (rk q q) q q)<|bW q) ?_;refine W.dr [1,2,6] (ax (O.aZ .z4)<|ax (O.eW (cs:=[aw (⟨#[36,101,110,100]⟩),bc false,ae 0,ae 0,ae 0,aw bf]) Kr KY q q q)<|ax (O.eW (cs:=[aw (⟨#[101,114,114,111,114]⟩),bc false,ae (-1),ae 0,ae 0,aw bf]) Kr KY q q q)<|ax (O.eW (cs:=[aw (⟨#[36,117,110,107]⟩),bc false,ae (-1),ae 0,ae 0,aw bf]) Kr KY q q q)<|ax (O.dq (ys:=[.agg [aw (⟨#[36,101,110,100]⟩),bc false,ae 0,ae 0,ae 0,aw bf],.agg [aw (⟨#[101,114,114,111,114]⟩),bc false,ae (-1),ae 0,ae 0,aw bf],.agg [aw (⟨#[36,117,110,107]⟩),bc false,ae (-1),ae 0,ae 0,aw bf]]) bU [(⟨⟨#[36,101,110,100]⟩,false,0,0,0,bf⟩:Tok),(⟨⟨#[101,114,114,111,114]⟩,false,(-1),0,0,bf⟩:Tok),(⟨⟨#[36,117,110,107]⟩,false,(-1),0,0,bf⟩:Tok)] FN q q q q q q aam q q)<|ax (O.ev .z5)<|ax O.y2<|ax O.y2<|aC.eI (br.uP [1,2,6])<|bW q) ?_;refine W.c5 [1,2,6,7] ?_;refine W.bP<|W.c5 [1,2,6,7,8] ?_;refine W.cH<|aV h λbK aj h=>W.hQ ((⟨(⟨[(⟨⟨#[36,101,110,100]⟩,false,0,0,0,bf⟩:Tok),(⟨⟨#[101,114,114,111,114]⟩,false,(-1),0,0,bf⟩:Tok),(⟨⟨#[36,117,110,107]⟩,false,(-1),0,0,bf⟩:Tok)],[],[],bf,bf⟩:bt),aX,[],[],0,0,bf,0,0⟩:dd),bf,0) (λ(cW:dd × ByteArray × Int)=>[(6,.obj (dI.cells cW.1)),(7,aw cW.2.1),(8,ae cW.2.2)]) [1,2,6,7,8] 0 (λ(bK:dd × ByteArray)=>[(6,.obj (dI.cells bK.1)),(7,aw bK.2)]) [1,2,6,7] aj (λcW o h=>?_) ?_
  ·clear aj;refine W.bP<|W.c5 [1,2,6,7,8,45] ?_;refine W.cc h q (λH9 h=>?_) (λH9 h=>?_)
   ·refine W.dv<|aE.bJ<|W.bP<|W.cH<|aV h λb3 uv h=>W.dr [1,2,6,7,8,9] (ax O.bN<|ax (O.dz (y:=ak dP a0.Decls))<|c7 q<|ax (O.gW uv)<|ax (O.sT (cs':=dP.cells b3) .uU LJ q q)<|ax (O.gz (cs:=[ae 0,aw bf,.aQ,ae 0]) QK q q)<|aC.eI (br.hU [1,2,6,7,8,9])<|bW q) ?_;refine W.bP<|aV h λhp ai h=>W.n' [1,2,6,7,8,9,60] [(60,bc hp)] ?_ ?_
    ·refine ax O.bN<|ax O.ew<|ax (O.geq .bj .cR)<|ax (O.aZ (.lit q)) ?_;rcases gB ai with ⟨uc,ai⟩ | ⟨uc,ai⟩
     ·exact sm ai ▸ aC.bI
     ·exact sm ai ▸ aC.bI
    refine aV h λi_ ai h=>W.gi [1,2,6,7,8,9] [(6,.obj [ao bU cW.1.aD.a1,ao bA cW.1.aD.bY,ao cy cW.1.aD.bd,aw cW.1.aD.b8,aw cW.1.aD.cf,ao cg cW.1.cd,ao bA cW.1.cv,ao cJ cW.1.b0,ae cW.1.cN,ae cW.1.c',aw cW.1.c9,ae i_,ae cW.1.bV])] ?_ ?_
    ·clear h; have h:=ai; clear ai;refine W.cc h q (λtW h=>?_) (λtW h=>?_)
     ·refine W.b' [1,2,6,7,8,9] (ax (O.aZ .z4)<|ax (O.ev .z5)<|ax O.y2<|ax O.ew<|ax (O.add .bj .cR)<|ax (O.ev .z5)<|ax O.y2<|aC.eI (br.oY [1,2,6,7,8,9])<|bW q) ?_;exact sm h ▸ aE.ek
     ·exact W.dv<|sm h ▸ aE.ek
    refine aE.bJ<|W.c5 [1,2,6,7,8,9,10] ?_;refine W.cH<|aV h λeP aj h=>W.hQ ((⟨cW.1.aD,cW.1.cd,cW.1.cv,cW.1.b0,cW.1.cN,cW.1.c',cW.1.c9,i_,cW.1.bV⟩:dd),cW.2.1,0) (λ(jW:dd × ByteArray × Int)=>[(6,.obj (dI.cells jW.1)),(7,aw jW.2.1),(10,ae jW.2.2)]) [1,2,6,7,8,9,10] 2 (λ(eP:dd × ByteArray)=>[(6,.obj (dI.cells eP.1)),(7,aw eP.2)]) [1,2,6,7,8] aj (λjW o h=>?_) ?_
    ·clear aj;refine W.bP<|W.c5 [1,2,6,7,8,9,10,72] ?_;refine W.cc h q (λH5 h=>?_) (λH5 h=>?_)
     ·refine W.dv<|aE.bJ<|W.bP<|aV h λxq ai h=>W.gi [1,2,6,7,8,9,10] [(6,.obj (dI.cells xq.1)),(7,aw xq.2)] ?_ ?_
      ·clear h; have h:=ai; clear ai;refine W.cH<|W.bP<|W.c5 [1,2,6,7,8,9,10,77] ?_;refine W.cc h q (λha h=>?_) (λha h=>?_)
       ·refine W.bP<|aV h λfh rY h=>aV h λfc xi h=>W.rd [[],[],[],[2],[],[2,3,4],[2,3,4,5],aL 0 7 []] [(1,_),(2,_),(6,_),(7,_),(8,_),(9,_),(10,_)] fV (by kernel_rfl) (aF 0 (O.aZ .z4)<|aF 1 (O.eZ (cs':=dP.cells b3) q .z4 LJ q q)<|aF 2 O.bN<|aF 3 (O.dz (y:=ak d' b3.eL))<|aF 4 (O.aZ (.lit q))<|aF 5 (O.gW rY)<|aF 6 (O.sT (cs':=d'.cells fh) .uU yS q q)<|bE.jA 7 (G2:=[(85,.bQ []),(6,.obj (dI.cells fc)),(1,.obj (gP.cells a0)),(2,.obj [.aQ,.aQ,.aQ,aw bf,aw bf]),(7,aw jW.2.1),(8,ae cW.2.2),(9,.obj (dP.cells b3)),(10,ae jW.2.2)]) (br.call q q (hY.lD (G2:=[(1,.obj (gP.cells a0)),(2,.obj [.aQ,.aQ,.aQ,aw bf,aw bf]),(7,aw jW.2.1),(8,ae cW.2.2),(9,.obj (dP.cells b3)),(10,ae jW.2.2)]) (A:=[]) (ys:=[.ptr ⟨6,[]⟩ 0,.agg (dP.cells b3),.agg (d'.cells fh)]) (args:=[.obj (dI.cells jW.1),.agg (dP.cells b3),.agg (d'.cells fh)]) (cs':=dI.cells fc) (k0:=0) q q q q (.b q (.n q (.n q .nil))) q (bO.go xi) call100 (pL q q q q q q) q q (pL q q q q q q) .nil q))<|bE.fin q q q (rm q q q q q q q)) ?_;exact aE.bJ<|W.gI<|aE.gE<|aE.gA<|sm h ▸ aE.ek
       ·refine W.dv<|aE.bJ<|W.bP<|W.c5 [1,2,6,8,9,10,87] ?_;refine aV h λk8 ai h=>W.gi [1,2,6,8,9,10] [(6,.obj (dI.cells k8))] ?_ ?_
        ·clear h; have h:=ai; clear ai;refine W.cc h q (λUU h=>?_) (λUU h=>?_)
         ·refine aV h λfl ES h=>aV h λgl ur h=>aV h λhW rZ h=>W.rd [[],[],[1],[],[1,2,3],[1,2,3,4],aL 1 5 [],[],[7],[],[7,8,9],[7,8,9,10],aL 7 5 [],aL 0 13 []] [(1,_),(2,_),(6,_),(8,_),(9,_),(10,_)] fV (by kernel_rfl) (aF 0 (O.aZ .z4)<|aF 1 O.bN<|aF 2 (O.dz (y:=ak d' b3.eL))<|aF 3 (O.aZ (.lit q))<|aF 4 (O.gW ES)<|aF 5 O.pP<|aF 6 (O.hJ (x:=ae fl.At))<|aF 7 O.bN<|aF 8 (O.dz (y:=ak d' b3.eL))<|aF 9 (O.aZ (.lit q))<|aF 10 (O.gW ur)<|aF 11 O.pP<|aF 12 (O.hJ (x:=aw gl.Name))<|bE.jA 13 (G2:=[(101,.bQ []),(6,.obj (dI.cells hW)),(1,.obj (gP.cells a0)),(2,.obj [.aQ,.aQ,.aQ,aw bf,aw bf]),(8,ae cW.2.2),(9,.obj (dP.cells b3)),(10,ae jW.2.2)]) (br.call q q (hY.lD (G2:=[(1,.obj (gP.cells a0)),(2,.obj [.aQ,.aQ,.aQ,aw bf,aw bf]),(8,ae cW.2.2),(9,.obj (dP.cells b3)),(10,ae jW.2.2)]) (A:=[]) (ys:=[.ptr ⟨6,[]⟩ 0,ae fl.At,aw gl.Name]) (args:=[.obj (dI.cells jW.1),ae fl.At,aw gl.Name]) (cs':=dI.cells hW) (k0:=0) q q q q (.b q (.n q (.n q .nil))) q (bO.go rZ) call101 (o1 q q q q q) q q (o1 q q q q q) .nil q))<|bE.fin q q q (pL q q q q q q)) ?_;exact sm h ▸ aE.ek
         ·exact W.dv<|sm h ▸ aE.ek
        refine aE.bJ<|aV h λhX B0 h=>W.Ry [1,2,6,7,8,9,10] ?_;exact aE.cH<|sm h ▸ aE.ek
      refine aE.bJ<|W.b' [1,2,6,7,8,9,10] (c7 q<|ax (O.add .bj .cR)<|aC.b' [1,2,6,7,8,9,74] q<|aC.bI) ?_;exact sm h ▸ aE.gt
     ·exact W.gI<|aE.gE<|sm h ▸ aE.t1
    refine aE.gA<|aE.cH<|aE.bJ<|W.b' [1,2,6,7,8] (c7 q<|ax (O.add .bj .cR)<|aC.b' [1,2,6,7,47] q<|aC.bI) ?_;exact sm h ▸ aE.gt
   ·exact W.gI<|aE.gE<|sm h ▸ aE.t1
  refine aE.gA<|aE.bJ<|W.bP<|W.c5 [1,2,6,7,11] ?_;refine W.cH<|aV h λcC aj h=>W.hQ (bK.1,0) (λ(qs:dd × Int)=>[(6,.obj (dI.cells qs.1)),(11,ae qs.2)]) [1,2,6,7,11] 4 (λ(cC:dd)=>[(6,.obj (dI.cells cC))]) [1,2,6,7] aj (λqs o h=>?_) ?_
  ·clear aj;refine W.bP<|W.c5 [1,2,6,7,11,112] ?_;refine W.cc h q (λUZ h=>?_) (λUZ h=>?_)
   ·refine W.dv<|aE.bJ<|W.bP<|aV h λxu ai h=>W.gi [1,2,6,7,11] [(6,.obj (dI.cells xu))] ?_ ?_
    ·clear h; have h:=ai; clear ai;refine W.cH<|aV h λe0 B2 h=>W.dr [1,2,6,7,11,12] (ax O.bN<|ax (O.dz (y:=ak ji a0.dH))<|c7 q<|ax (O.gW B2)<|ax (O.sT (cs':=ji.cells e0) .uU R0 q q)<|ax (O.gz (cs:=[aw bf,.aQ,ae 0]) KW q q)<|aC.eI (br.hU [1,2,6,7,11,12])<|bW q) ?_;refine W.bP<|aV h λlH sO h=>W.dr [1,2,6,7,11,12,125] (ax (O.aZ .z4)<|ax O.bN<|ax O.ew<|ax (O.eW (cs:=[aw e0.Left,bc false,ae 0,ae 0]) PV Gp q q q)<|gM (cV.sg (ys:=[.ptr ⟨6,[]⟩ 0,.agg [aw e0.Left,bc false,ae 0,ae 0]]) q (.c (View.pE q q) (.c (.ou (.s (.s (.s (.s .nil))))) .nil)) (bO.go sO))<|aC.bI) ?_;refine aV h λiA ai h=>W.gi [1,2,6,7,11,12] [(6,.obj (dI.cells iA))] ?_ ?_
     ·clear h; have h:=ai; clear ai;refine W.cc h q (λU1 h=>?_) (λU1 h=>?_)
      ·refine aV h λlg xk h=>W.b' [1,2,6,7,11,12] (ax (O.aZ .z4)<|ax O.bN<|ax O.ew<|ax O.bN<|ax O.ew<|aC.nR q (br.call q q (hY.lD (G2:=[(1,.obj (gP.cells a0)),(2,.obj [.aQ,.aQ,.aQ,aw bf,aw bf]),(7,aw bK.2),(11,ae qs.2),(12,.obj (ji.cells e0))]) (A:=[]) (ys:=[.ptr ⟨6,[]⟩ 0,ae e0.At,aw e0.Left]) (args:=[.obj (dI.cells qs.1),ae e0.At,aw e0.Left]) (cs':=dI.cells lg) (k0:=0) q q q q (.b q (.n q (.n q .nil))) q (bO.go xk) call101 (o1 q q q q q) q q (o1 q q q q q) .nil q))<|bW q) ?_;exact sm h ▸ aE.ek
      ·exact W.dv<|sm h ▸ aE.ek
     refine aE.bJ<|aV h λkg qV h=>W.dr [1,2,6,7,11,12,136] (ax (O.aZ .z4)<|ax O.bN<|ax O.ew<|gM (cV.sg (ys:=[.ptr ⟨6,[]⟩ 0,aw e0.Left]) q (.c (View.pE q q) (.s .nil)) (bO.go qV))<|aC.bI) ?_;refine aV h λvI ai h=>W.gi [1,2,6,7,11] [(6,.obj [ao bU iA.aD.a1,ao bA iA.aD.bY,ao cy iA.aD.bd,aw iA.aD.b8,aw iA.aD.cf,ao cg iA.cd,ao bA iA.cv,ao cJ vI,ae iA.cN,ae iA.c',aw iA.c9,ae iA.ca,ae iA.bV])] ?_ ?_
     ·clear h; have h:=ai; clear ai;refine W.cc h q (λU2 h=>?_) (λU2 h=>?_)
      ·refine aV h λo3 B3 h=>W.rd [[],[],[1],[1,2],[1,2,3],[],[5],[5,6],aL 1 7 [],aL 0 9 [],aL 0 10 [],aL 0 11 []] [(1,_),(2,_),(6,_),(7,_),(11,_)] fV (by kernel_rfl) (aF 0 (O.aZ .z4)<|aF 1 (O.aZ .z4)<|aF 2 (O.ev .z5)<|aF 3 O.y2<|aF 4 (O.dz (y:=.bg cJ.z ⟨6,[7]⟩ iA.b0.length))<|aF 5 O.bN<|aF 6 O.ew<|bE.gG 7 (x:=ak cJ [e0.Left]) (O.dq (ys:=[aw e0.Left]) cJ [e0.Left] FP q q q q q q aal q q) q q q q .none<|aF 8 (O.ap (en:=cJ) (r:=o3) .dw q .z2 .i RF q B3)<|aF 9 (O.ev .z5)<|aF 10 O.y2<|bE.jA 11 (br.sp [1,2,6,7,11])<|bE.fin q q q (o1 q q q q q)) ?_;exact sm h ▸ aE.ek
      ·exact W.dv<|sm h ▸ aE.ek
     exact aE.cH<|sm h ▸ aE.ek
    refine aE.bJ<|W.b' [1,2,6,7,11] (c7 q<|ax (O.add .bj .cR)<|aC.b' [1,2,6,7,114] q<|aC.bI) ?_;exact sm h ▸ aE.gt
   ·exact W.gI<|aE.gE<|sm h ▸ aE.t1
  refine aE.gA<|aE.bJ<|W.bP<|W.c5 [1,2,6,7,13] ?_;refine W.cH<|aV h λht aj h=>W.hQ (cC,0) (λ(qt:dd × Int)=>[(6,.obj (dI.cells qt.1)),(13,ae qt.2)]) [1,2,6,7,13] 6 (λ(ht:dd)=>[(6,.obj (dI.cells ht))]) [1,2,6,7] aj (λqt o h=>?_) ?_
  ·clear aj;refine W.bP<|W.c5 [1,2,6,7,13,152] ?_;refine W.cc h q (λU4 h=>?_) (λU4 h=>?_)
   ·refine W.dv<|aE.bJ<|W.bP<|W.cH<|W.c5 [1,2,6,7,13,14] ?_;refine W.cH<|aV h λmT aj h=>W.hQ (qt.1,0) (λ(qu:dd × Int)=>[(6,.obj (dI.cells qu.1)),(14,ae qu.2)]) [1,2,6,7,13,14] 8 (λ(mT:dd)=>[(6,.obj (dI.cells mT))]) [1,2,6,7,13] aj (λqu o h=>?_) ?_
    ·clear aj;refine W.bP<|aV h λte N' h=>W.c5 [1,2,6,7,13,14,163] ?_;refine W.cc h q (λU5 h=>?_) (λU5 h=>?_)
     ·refine W.dv<|aE.bJ<|W.bP<|aV h λJn ai h=>W.gi [1,2,6,7,13,14] [(6,.obj (dI.cells Jn))] ?_ ?_
      ·clear h; have h:=ai; clear ai;refine W.cH<|aV h λtg zv h=>aV h λpO vC h=>W.dr [1,2,6,7,13,14,15] (ax O.bN<|ax (O.dz (y:=ak dP a0.Decls))<|c7 q<|ax (O.gW zv)<|ax O.pP<|ax (O.hJ (x:=ak d' tg.eL))<|c7 q<|ax (O.gW vC)<|ax (O.sT (cs':=d'.cells pO) .uU yS q q)<|ax (O.gz (cs:=[aw bf,bc false,ae 0,ae 0]) Gp q q)<|aC.eI (br.hU [1,2,6,7,13,14,15])<|bW q) ?_;refine aV h λAV ai h=>W.n' [1,2,6,7,13,14,15,188] [(188,bc AV)] ?_ ?_
       ·refine ax O.bN<|ax (O.dz (y:=ak dP a0.Decls))<|ax (O.aZ (.lit q)) ?_;refine aV ai λKO WS ai=>ax (O.gW WS)<|ax O.pP<|ax (O.hJ (x:=ae KO.Kind))<|ax (O.geq .bj .cR)<|ax (O.aZ (.lit q)) ?_;rcases gB ai with ⟨Bv,ai⟩ | ⟨Bv,ai⟩
        ·refine cq Bv (O.aZ .z4)<|cq Bv O.bN<|cq Bv O.ew ?_;exact aV ai λl4 qW ai=>sm ai ▸ (aC.c (cV.sg (ys:=[.ptr ⟨6,[]⟩ 0,aw pO.Name]) q (.c (View.pE q q) (.s .nil)) (bO.go qW)) q q (.iD q q Bv)<|aC.bI)
        ·exact sm ai ▸ aC.bI
       refine aV h λJo ai h=>W.gi [1,2,6,7,13,14] [(6,.obj (dI.cells Jo))] ?_ ?_
       ·clear h; have h:=ai; clear ai;refine W.cc h q (λU7 h=>?_) (λU7 h=>?_)
        ·refine aV h λKP WU h=>W.b' [1,2,6,7,13,14] (ax (O.aZ .z4)<|ax O.bN<|ax O.ew<|ax O.bN<|ax O.ew<|aC.nR q (br.call q q (hY.lD (G2:=[(1,.obj (gP.cells a0)),(2,.obj [.aQ,.aQ,.aQ,aw bf,aw bf]),(7,aw bK.2),(13,ae qt.2),(14,ae qu.2)]) (A:=[]) (ys:=[.ptr ⟨6,[]⟩ 0,ae pO.At,aw pO.Name]) (args:=[.obj (dI.cells qu.1),ae pO.At,aw pO.Name]) (cs':=dI.cells KP) (k0:=0) q q q q (.b q (.n q (.n q .nil))) q (bO.go WU) call101 (o1 q q q q q) q q (o1 q q q q q) .nil q))<|bW q) ?_;exact sm h ▸ aE.ek
        ·exact W.dv<|sm h ▸ aE.ek
       exact aE.cH<|sm h ▸ aE.ek
      refine aE.bJ<|W.b' [1,2,6,7,13,14] (c7 q<|ax (O.add .bj .cR)<|aC.b' [1,2,6,7,13,165] q<|aC.bI) ?_;exact sm h ▸ aE.gt
     ·exact W.gI<|aE.gE<|sm h ▸ aE.t1
    refine aE.gA<|aE.cH<|aE.bJ<|W.b' [1,2,6,7,13] (c7 q<|ax (O.add .bj .cR)<|aC.b' [1,2,6,7,154] q<|aC.bI) ?_;exact sm h ▸ aE.gt
   ·exact W.gI<|aE.gE<|sm h ▸ aE.t1
  refine aE.gA<|aE.bJ<|W.bP<|W.c5 [1,2,6,7,196] ?_;refine aV h λvJ ai h=>W.gi [1,2,6,7] [(7,aw vJ)] ?_ ?_
  ·clear h; have h:=ai; clear ai;refine W.cc h q (λU9 h=>?_) (λU9 h=>?_)
   ·refine aV h λwo B4 h=>W.b' [1,2,6,7] (ax O.bN<|ax (O.dz (y:=ak ji a0.dH))<|ax (O.qX .z2 .cR we B4)<|ax O.pP<|ax (O.hJ (x:=aw wo.Left))<|aC.b' [1,2,6,201] q<|aC.bI) ?_;exact sm h ▸ aE.ek
   ·exact W.dv<|sm h ▸ aE.ek
  refine aE.bJ<|aV h λl5 WV h=>W.dr [1,2,6] (ax (O.aZ .z4)<|ax (O.aZ .z4)<|c7 q<|gM (cV.sg (ys:=[.ptr ⟨6,[]⟩ 0,aw vJ]) q (.c (View.pE q q) (.s .nil)) (bO.go WV))<|ax (O.add .cR .bj)<|aC.gG (x:=ak az [aG (1001+l5)]) (O.dq (ys:=[ae (aG (1001+l5))]) az [aG (1001+l5)] jX q q q q q q qz q q) q q .none<|aC.gG (x:=.agg [ae 0,ak az [aG (1001+l5)],ae (-1),aw bf,ak az ([]:List Int),ae 0]) (O.eW (cs:=[ae 0,ak az [aG (1001+l5)],ae (-1),aw bf,.aQ,ae 0]) Kp Gm q q q) q q .none<|ax (O.dq (ys:=[.agg [ae 0,ak az [aG (1001+l5)],ae (-1),aw bf,ak az ([]:List Int),ae 0]]) cy [(⟨0,[aG (1001+l5)],(-1),bf,([]:List Int),0⟩:Prod)] FO q q q q q q K0 q q)<|ax (O.ev .z5)<|ax O.y2<|ax O.y2<|aC.eI (br.uP [1,2,6])<|bW q) ?_;refine W.bP<|W.c5 [1,2,6,16] ?_;refine W.cH<|aV h λbp aj h=>W.hQ ((⟨(⟨ht.aD.a1,ht.aD.bY,[(⟨0,[aG (1001+l5)],(-1),bf,([]:List Int),0⟩:Prod)],ht.aD.b8,ht.aD.cf⟩:bt),ht.cd,ht.cv,ht.b0,ht.cN,ht.c',ht.c9,ht.ca,ht.bV⟩:dd),0) (λ(pK:dd × Int)=>[(6,.obj (dI.cells pK.1)),(16,ae pK.2)]) [1,2,6,16] 10 (λ(bp:dd)=>[(6,.obj (dI.cells bp))]) [1,2,6] aj (λpK o h=>?_) ?_
  ·clear aj;refine W.bP<|W.c5 [1,2,6,16,217] ?_;refine W.cc h q (λU_ h=>?_) (λU_ h=>?_)
   ·refine W.dv<|aE.bJ<|W.bP<|W.cH<|W.c5 [1,2,6,16,17] ?_;refine W.cH<|aV h λkv aj h=>W.hQ (pK.1,0) (λ(ra:dd × Int)=>[(6,.obj (dI.cells ra.1)),(17,ae ra.2)]) [1,2,6,16,17] 12 (λ(kv:dd)=>[(6,.obj (dI.cells kv))]) [1,2,6,16] aj (λra o h=>?_) ?_
    ·clear aj;refine W.bP<|aV h λDq Ob h=>W.c5 [1,2,6,16,17,228] ?_;refine W.cc h q (λVb h=>?_) (λVb h=>?_)
     ·refine W.dv<|aE.bJ<|W.bP<|W.cH<|aV h λDr WX h=>aV h λKR WY h=>aV h λDs WZ h=>aV h λGi W0 h=>W.rd [[],[],[1],[],[1,2,3],[1,2,3,4],aL 1 5 [],[],[7],[],[7,8,9],[7,8,9,10],aL 7 5 [],[],aL 7 7 [],aL 7 8 [],aL 0 16 []] [(1,_),(2,_),(6,_),(16,_),(17,_)] fV (by kernel_rfl) (aF 0 (O.aZ .z4)<|aF 1 O.bN<|aF 2 (O.dz (y:=ak ji a0.dH))<|aF 3 (O.aZ (.lit q))<|aF 4 (O.gW WX)<|aF 5 O.pP<|aF 6 (O.hJ (x:=aw Dr.Left))<|aF 7 O.bN<|aF 8 (O.dz (y:=ak ji a0.dH))<|aF 9 (O.aZ (.lit q))<|aF 10 (O.gW WY)<|aF 11 O.pP<|aF 12 (O.hJ (x:=ak fO KR.fr))<|aF 13 (O.aZ (.lit q))<|aF 14 (O.gW WZ)<|aF 15 (O.sT (cs':=fO.cells Ds) .uU LK q q)<|bE.jA 16 (G2:=[(247,.bQ []),(6,.obj (dI.cells Gi)),(1,.obj (gP.cells a0)),(2,.obj [.aQ,.aQ,.aQ,aw bf,aw bf]),(16,ae pK.2),(17,ae ra.2)]) (br.call q q (hY.lD (G2:=[(1,.obj (gP.cells a0)),(2,.obj [.aQ,.aQ,.aQ,aw bf,aw bf]),(16,ae pK.2),(17,ae ra.2)]) (A:=[]) (ys:=[.ptr ⟨6,[]⟩ 0,aw Dr.Left,.agg (fO.cells Ds)]) (args:=[.obj (dI.cells ra.1),aw Dr.Left,.agg (fO.cells Ds)]) (cs':=dI.cells Gi) (k0:=0) q q q q (.b q (.n q (.n q .nil))) q (bO.go W0) call104 (kt q q q q) q q (kt q q q q) .nil q))<|bE.fin q q q (o1 q q q q q)) ?_;refine aE.cH<|aE.bJ<|W.b' [1,2,6,16,17] (c7 q<|ax (O.add .bj .cR)<|aC.b' [1,2,6,16,230] q<|aC.bI) ?_;exact sm h ▸ aE.gt
     ·exact W.gI<|aE.gE<|sm h ▸ aE.t1
    refine aE.gA<|aE.cH<|aE.bJ<|W.b' [1,2,6,16] (c7 q<|ax (O.add .bj .cR)<|aC.b' [1,2,6,219] q<|aC.bI) ?_;exact sm h ▸ aE.gt
   ·exact W.gI<|aE.gE<|sm h ▸ aE.t1
  refine aE.gA<|aE.bJ<|W.bP<|W.c5 [1,2,6,252] ?_;refine W.cc h q (λVc h=>?_) (λVc h=>?_)
  ·refine W.bP<|W.rd [[],[],[1],[1,2],[1,2,3],[],[5],[5,6],[5,6,7],[],[9],[9,10],[9,10,11],[0],aL 0 5 [13],aL 0 9 [13,14],aL 0 16 []] [(2,_),(3,_),(4,_),(5,_)] fV (by kernel_rfl) (aF 0 (O.eW (cs:=[.aQ,.aQ,.aQ,aw bf,aw bf]) Kq qy q q q)<|aF 1 (O.aZ .z4)<|aF 2 (O.ev .z5)<|aF 3 O.y2<|aF 4 O.ew<|aF 5 (O.aZ .z4)<|aF 6 (O.ev .z5)<|aF 7 O.y2<|aF 8 O.ew<|aF 9 (O.aZ .z4)<|aF 10 (O.ev .z5)<|aF 11 O.y2<|aF 12 O.ew<|bE.eW 13 (G2:=[(2,.obj [.aQ,.aQ,.aQ,aw bf,aw bf]),(6,.obj (dI.cells bp))]) (U:=[(12,265,some (aw bp.c9)),(11,264,some (.ptr ⟨6,[]⟩ 10)),(10,263,some (.ptr ⟨6,[]⟩ 0)),(9,262,some (.ptr ⟨6,[]⟩ 0)),(8,261,some (ae bp.c')),(7,260,some (.ptr ⟨6,[]⟩ 9)),(6,259,some (.ptr ⟨6,[]⟩ 0)),(5,258,some (.ptr ⟨6,[]⟩ 0)),(4,257,some (ae bp.cN)),(3,256,some (.ptr ⟨6,[]⟩ 8)),(2,255,some (.ptr ⟨6,[]⟩ 0)),(1,254,some (.ptr ⟨6,[]⟩ 0))]) (iE.v (br.kn (br.ij (G2:=[(2,.obj [.aQ,.aQ,.aQ,aw bf,aw bf]),(6,.obj (dI.cells bp))]) (cs2:=[.aQ,.aQ,.aQ,aw bf,aw bf]) q q q (.obj q) (.dV q q) q yg q q q q (.b q (.n q q .nil))))) q q (by kernel_rfl) q q q (.c (.inr (.inl ⟨_,q⟩)) q q q q q (e7.wanted .none) (O.pz q .z5 wP q) (.c (.inr (.inr (.inr (.inl ⟨6,_,_,q,q,iK q,by simp,_,q,iK q⟩)))) q q q q q (e7.wanted .none) (O.ng q .z5 TG q) (.c (.inr (.inr (.inr (.inl ⟨6,_,_,q,q,iK q,by simp,_,q,iK q⟩)))) q q q q q (e7.wanted .none) (O.ev .z5) (.c (.inr (.inr (.inr (.inl ⟨6,_,_,q,q,iK q,by simp,_,q,iK q⟩)))) q q q q q (e7.wanted .none) (O.aZ .z4) (.c (.inr (.inl ⟨_,q⟩)) q q q q q (e7.wanted .none) (O.pz q .z5 sv q) (.c (.inr (.inr (.inr (.inl ⟨6,_,_,q,q,iK q,by simp,_,q,iK q⟩)))) q q q q q (e7.wanted .none) (O.ng q .z5 TF q) (.c (.inr (.inr (.inr (.inl ⟨6,_,_,q,q,iK q,by simp,_,q,iK q⟩)))) q q q q q (e7.wanted .none) (O.ev .z5) (.c (.inr (.inr (.inr (.inl ⟨6,_,_,q,q,iK q,by simp,_,q,iK q⟩)))) q q q q q (e7.wanted .none) (O.aZ .z4) (.c (.inr (.inl ⟨_,q⟩)) q q q q q (e7.wanted .none) (O.pz q .z5 sv q) (.c (.inr (.inr (.inr (.inl ⟨6,_,_,q,q,iK q,by simp,_,q,iK q⟩)))) q q q q q (e7.wanted .none) (O.ng q .z5 TE q) (.c (.inr (.inr (.inr (.inl ⟨6,_,_,q,q,iK q,by simp,_,q,iK q⟩)))) q q q q q (e7.wanted .none) (O.ev .z5) (.c (.inr (.inr (.inr (.inl ⟨6,_,_,q,q,iK q,by simp,_,q,iK q⟩)))) q q q q q (e7.wanted .none) (O.aZ .z4) .nil)))))))))))) (by kernel_rfl)<|aF 14 (O.dy (.lit q))<|aF 15 (O.dy (.lit q))<|aF 16 (O.dy (.lit q))<|bE.fin q q q (kt q q q q)) ?_;refine aE.bJ<|W.dS (G1:=[(2,.obj [ak bU ([]:List Tok),ak bA ([]:List e_),ak cy ([]:List Prod),aw bf,aw bf]),(3,_),(4,_),(5,_)]) [2] (.z q q (fG.obj (.z (.z (.z (.f (.f .nil)))))) (.n q q (.n q q (.n q q .nil)))) ?_;exact W.rt<|aE.jJ<|sm h ▸ jL (.c (ys0:=[ak bU ([]:List Tok),ak bA ([]:List e_),ak cy ([]:List Prod),aw bf,aw bf]) q hB q q q (.f q (.f q (.f q (.f q (.f q .nil))))) (.f q q (.f q q (.f q q .nil))))
  ·refine W.dv<|aE.bJ<|W.dr [1,2,6] (ax (O.aZ .z4)<|ax (O.eW (cs:=[aw (⟨#[36,97,99,99,101,112,116]⟩),aw bf]) FK Du q q q)<|ax (O.dq (ys:=[.agg [aw (⟨#[36,97,99,99,101,112,116]⟩),aw bf]]) bA [(⟨⟨#[36,97,99,99,101,112,116]⟩,bf⟩:e_)] yc q q q q q q Gq q q)<|ax (O.ev .z5)<|ax O.y2<|ax O.y2<|aC.eI (br.uP [1,2,6])<|bW q) ?_;refine W.bP<|W.c5 [1,2,6,18] ?_;refine W.cH<|aV h λth aj h=>W.hQ ([(⟨⟨#[36,97,99,99,101,112,116]⟩,bf⟩:e_)],0) (λ(rb:List e_ × Int)=>[(6,.obj [ao bU bp.aD.a1,ao bA rb.1,ao cy bp.aD.bd,aw bp.aD.b8,aw bp.aD.cf,ao cg bp.cd,ao bA bp.cv,ao cJ bp.b0,ae bp.cN,ae bp.c',aw bp.c9,ae bp.ca,ae bp.bV]),(18,ae rb.2)]) [1,2,6,18] 14 (λ(th:List e_)=>[(6,.obj [ao bU bp.aD.a1,ao bA th,ao cy bp.aD.bd,aw bp.aD.b8,aw bp.aD.cf,ao cg bp.cd,ao bA bp.cv,ao cJ bp.b0,ae bp.cN,ae bp.c',aw bp.c9,ae bp.ca,ae bp.bV])]) [1,2,6] aj (λrb o h=>?_) ?_
   ·clear aj;refine W.bP<|W.c5 [1,2,6,18,278] ?_;refine W.cc h q (λVe h=>?_) (λVe h=>?_)
    ·refine W.dv<|aE.bJ<|W.bP<|W.cH<|aV h λqx Oc h=>W.dr [1,2,6,18,19] (ax (O.aZ .z4)<|ax (O.ev .z5)<|ax O.y2<|ax (O.dz (y:=.bg cJ.z ⟨6,[7]⟩ bp.b0.length))<|c7 q<|ax (O.gT (en:=cJ) q .dw .bj FP Oc q)<|ax (O.jS (en:=cJ) (x':=aw qx) q .z5 wP Oc q q)<|ax (O.eW (cs:=[aw qx,aw bf]) FK Du q q q)<|ax (O.gz (cs:=[aw bf,aw bf]) Du q q)<|aC.eI (br.hU [1,2,6,18,19])<|bW q) ?_;refine W.bP<|aV h λyl W1 h=>W.dr [1,2,6,18,19,20] (ax (O.aZ .z4)<|ax O.bN<|ax O.ew<|gM (cV.sg (ys:=[.ptr ⟨6,[]⟩ 0,aw qx]) q (.c (View.pE q q) (.s .nil)) (bO.go W1))<|aC.bI) ?_;refine W.c5 [1,2,6,18,19,20,294] ?_;refine aV h λuz ai h=>W.gi [1,2,6,18,19] [(19,.obj [aw qx,aw uz])] ?_ ?_
     ·clear h; have h:=ai; clear ai;refine W.cc h q (λVf h=>?_) (λVf h=>?_)
      ·refine aV h λKS I6 h=>W.b' [1,2,6,18,19] (ax (O.aZ .z4)<|ax (O.ev .z5)<|ax O.y2<|ax (O.dz (y:=.bg bA.z ⟨6,[6]⟩ bp.cv.length))<|c7 q<|ax (O.gT (en:=bA) q .dw .bj yc I6 q)<|ax (O.j_ (en:=bA) q .z5 MF I6 q q)<|ax (O.jS (en:=bA) (x':=aw KS.Tag) q .z5 wP I6 q q)<|ax O.bN<|aC.eI (br.oY [1,2,6,18,19])<|bW q) ?_;exact sm h ▸ aE.ek
      ·exact W.dv<|sm h ▸ aE.ek
     refine aE.bJ<|aV h λQD W2 h=>W.rd [[],[],[1],[1,2],[1,2,3],[1,2,3,4],[],[6],aL 1 7 [],aL 0 9 [],aL 0 10 [],aL 0 11 [],aL 0 12 []] [(1,_),(2,_),(6,_),(18,_)] fV (by kernel_rfl) (aF 0 (O.aZ .z4)<|aF 1 (O.aZ .z4)<|aF 2 (O.ev .z5)<|aF 3 O.y2<|aF 4 O.y2<|aF 5 (O.dz (y:=.bg bA.z ⟨6,[1]⟩ rb.1.length))<|aF 6 (O.eZ (cs':=[aw qx,aw uz]) q .z4 RX q q)<|bE.gG 7 (x:=ak bA [(⟨qx,uz⟩:e_)]) (O.dq (ys:=[.agg [aw qx,aw uz]]) bA [(⟨qx,uz⟩:e_)] yc q q q q q q Gq q q) q q q q .none<|aF 8 (O.ap (en:=bA) (r:=QD) .dw q .z2 .i GH q W2)<|aF 9 (O.ev .z5)<|aF 10 O.y2<|aF 11 O.y2<|bE.jA 12 (br.sp [1,2,6,18])<|bE.fin q q q (kt q q q q)) ?_;refine aE.cH<|aE.bJ<|W.b' [1,2,6,18] (c7 q<|ax (O.add .bj .cR)<|aC.b' [1,2,6,280] q<|aC.bI) ?_;exact sm h ▸ aE.gt
    ·exact W.gI<|aE.gE<|sm h ▸ aE.t1
   refine aE.gA<|aE.bJ<|W.bP<|W.c5 [1,2,6,21] ?_;refine W.cH<|aV h λky aj h=>W.hQ (th,1) (λ(sd:List e_ × Int)=>[(6,.obj [ao bU bp.aD.a1,ao bA sd.1,ao cy bp.aD.bd,aw bp.aD.b8,aw bp.aD.cf,ao cg bp.cd,ao bA bp.cv,ao cJ bp.b0,ae bp.cN,ae bp.c',aw bp.c9,ae bp.ca,ae bp.bV]),(21,ae sd.2)]) [1,2,6,21] 16 (λ(ky:List e_)=>[(6,.obj [ao bU bp.aD.a1,ao bA ky,ao cy bp.aD.bd,aw bp.aD.b8,aw bp.aD.cf,ao cg bp.cd,ao bA bp.cv,ao cJ bp.b0,ae bp.cN,ae bp.c',aw bp.c9,ae bp.ca,ae bp.bV])]) [1,2,6] aj (λsd o h=>?_) ?_
   ·clear aj;refine W.bP<|W.c5 [1,2,6,21,321] ?_;refine W.cc h q (λVg h=>?_) (λVg h=>?_)
    ·refine W.dv<|aE.bJ<|W.bP<|W.cH<|aV h λGj W3 h=>aV h λwq W4 h=>aV h λQE W5 h=>W.rd [[],[],[1],[1,2],[1,2,3],[1,2,3,4],[],[6],[6,7],[6,7,8],[6,7,8,9],aL 1 10 [],aL 0 12 [],aL 0 13 [],aL 0 14 [],aL 0 15 []] [(1,_),(2,_),(6,_),(21,_)] fV (by kernel_rfl) (aF 0 (O.aZ .z4)<|aF 1 (O.aZ .z4)<|aF 2 (O.ev .z5)<|aF 3 O.y2<|aF 4 O.y2<|aF 5 (O.dz (y:=.bg bA.z ⟨6,[1]⟩ sd.1.length))<|aF 6 (O.aZ (.lit q))<|lK 7 (cV.ff (.cZ (.lit q) .nil) (bO.go W3))<|aF 8 (O.cat .cR .bj W4)<|aF 9 (O.eW (cs:=[aw wq,aw bf]) FK Du q q q)<|bE.gG 10 (x:=ak bA [(⟨wq,bf⟩:e_)]) (O.dq (ys:=[.agg [aw wq,aw bf]]) bA [(⟨wq,bf⟩:e_)] yc q q q q q q Gq q q) q q q q .none<|aF 11 (O.ap (en:=bA) (r:=QE) .dw q .z2 .i GH q W5)<|aF 12 (O.ev .z5)<|aF 13 O.y2<|aF 14 O.y2<|bE.jA 15 (br.sp [1,2,6,21])<|bE.fin q q q (kt q q q q)) ?_;refine aE.cH<|aE.bJ<|W.b' [1,2,6,21] (c7 q<|ax (O.add .bj .cR)<|aC.b' [1,2,6,323] q<|aC.bI) ?_;exact sm h ▸ aE.gt
    ·exact W.gI<|aE.gE<|sm h ▸ aE.t1
   refine aE.gA<|aE.bJ<|W.c5 [1,2,6,22] ?_;refine W.bP<|W.c5 [1,2,6,22,23] ?_;refine W.cH<|aV h λlI aj h=>W.hQ (bp.aD.a1,57346,3) (λ(l1:List Tok × Int × Int)=>[(6,.obj [ao bU l1.1,ao bA ky,ao cy bp.aD.bd,aw bp.aD.b8,aw bp.aD.cf,ao cg bp.cd,ao bA bp.cv,ao cJ bp.b0,ae bp.cN,ae bp.c',aw bp.c9,ae bp.ca,ae bp.bV]),(22,ae l1.2.1),(23,ae l1.2.2)]) [1,2,6,22,23] 18 (λ(lI:List Tok)=>[(6,.obj [ao bU lI,ao bA ky,ao cy bp.aD.bd,aw bp.aD.b8,aw bp.aD.cf,ao cg bp.cd,ao bA bp.cv,ao cJ bp.b0,ae bp.cN,ae bp.c',aw bp.c9,ae bp.ca,ae bp.bV])]) [1,2,6] aj (λl1 o h=>?_) ?_
   ·clear aj;refine W.bP<|W.c5 [1,2,6,22,23,346] ?_;refine W.cc h q (λVh h=>?_) (λVh h=>?_)
    ·refine W.dv<|aE.bJ<|W.bP<|aV h λB' ai h=>W.gi [1,2,6,22,23] [(6,.obj [ao bU B'.1,ao bA ky,ao cy bp.aD.bd,aw bp.aD.b8,aw bp.aD.cf,ao cg bp.cd,ao bA bp.cv,ao cJ bp.b0,ae bp.cN,ae bp.c',aw bp.c9,ae bp.ca,ae bp.bV]),(22,ae B'.2)] ?_ ?_
     ·clear h; have h:=ai; clear ai;refine W.cH<|aV h λKL N_ h=>W.dr [1,2,6,22,23,356] (ax (O.aZ .z4)<|ax (O.ev .z5)<|ax O.y2<|ax (O.dz (y:=.bg cg.z ⟨6,[5]⟩ bp.cd.length))<|c7 q<|ax (O.gT (en:=cg) q .dw .bj rh N_ q)<|ax (O.jS (en:=cg) (x':=bc KL) q .z5 AY N_ q q)<|aC.bI) ?_;refine aV h λB9 ai h=>W.gi [1,2,6,22,23] [(6,.obj [ao bU B9.1,ao bA ky,ao cy bp.aD.bd,aw bp.aD.b8,aw bp.aD.cf,ao cg bp.cd,ao bA bp.cv,ao cJ bp.b0,ae bp.cN,ae bp.c',aw bp.c9,ae bp.ca,ae bp.bV]),(22,ae B9.2)] ?_ ?_
      ·clear h; have h:=ai; clear ai;refine W.cc h q (λUR h=>?_) (λUR h=>?_)
       ·refine aV h λsi IY h=>W.dr [1,2,6,22,23] (ax (O.aZ .z4)<|ax (O.ev .z5)<|ax O.y2<|ax O.y2<|ax (O.dz (y:=.bg bU.z ⟨6,[0]⟩ l1.1.length))<|c7 q<|c7 q<|ax (O.gT (en:=bU) q .dw .bj FN IY q)<|ax (O.j_ (en:=bU) q .z5 MI IY q q)<|aC.eI (br.rf (en:=bU) (y2:=(⟨si.Name,si.Lit,l1.2.1,si.Level,si.e9,si.Tag⟩:Tok)) [1,2,6,22,23] IY)<|bW q) ?_;refine W.b' [1,2,6,22,23] (c7 q<|ax (O.add .bj .cR)<|aC.b' [1,2,6,23,367] q<|aC.bI) ?_;exact sm h ▸ aE.ek
       ·exact W.dv<|sm h ▸ aE.ek
      exact aE.cH<|sm h ▸ aE.ek
     refine aE.bJ<|W.b' [1,2,6,22,23] (c7 q<|ax (O.add .bj .cR)<|aC.b' [1,2,6,22,348] q<|aC.bI) ?_;exact sm h ▸ aE.gt
    ·exact W.gI<|aE.gE<|sm h ▸ aE.t1
   refine aE.gA<|aE.bJ<|aV h λsu ai h=>W.n' [1,2,6,24] [(24,bc su)] ?_ ?_
   ·refine ax (O.aZ .z4)<|ax (O.ev .z5)<|ax O.y2<|ax O.y2<|ax (O.dz (y:=.bg bU.z ⟨6,[0]⟩ lI.length))<|ax (O.nA .dw FN)<|ax (O.gtr .bj .cR)<|ax (O.aZ (.lit q)) ?_;rcases gB ai with ⟨tV,ai⟩ | ⟨tV,ai⟩
    ·exact sm ai ▸ aC.bI
    ·refine cq tV (O.aZ .z4)<|cq tV (O.ev .z5)<|cq tV O.y2<|cq tV O.y2<|cq tV (O.dz (y:=.bg bA.z ⟨6,[1]⟩ ky.length))<|cq tV (O.nA .dw yc)<|cq tV (O.gtr .bj .cR)<|ax (O.jI .bj tV .bj)<|ax (O.aZ (.lit q)) ?_;rcases gB ai with ⟨Nk,ai⟩ | ⟨Nk,ai⟩
     ·exact sm ai ▸ aC.bI
     ·exact sm ai ▸ (cq Nk (O.aZ .z4)<|aC.bI)
   refine W.bP<|W.c5 [1,2,6,24,25] ?_;refine W.cH<|aV h λAl aj h=>W.hQ (su,0) (λ(s8:Bool × Int)=>[(24,bc s8.1),(25,ae s8.2)]) [1,2,6,24,25] 20 (λ(Al:Bool)=>[(24,bc Al)]) [1,2,6,24] aj (λs8 o h=>?_) ?_
   ·clear aj;refine W.bP<|W.c5 [1,2,6,24,25,400] ?_;refine W.cc h q (λUS h=>?_) (λUS h=>?_)
    ·refine W.dv<|aE.bJ<|W.bP<|W.cH<|aV h λyZ ai h=>W.rx [(1,.obj (gP.cells a0)),(2,.obj [.aQ,.aQ,.aQ,aw bf,aw bf]),(6,.obj [ao bU lI,ao bA ky,ao cy bp.aD.bd,aw bp.aD.b8,aw bp.aD.cf,ao cg bp.cd,ao bA bp.cv,ao cJ bp.b0,ae bp.cN,ae bp.c',aw bp.c9,ae bp.ca,ae bp.bV]),(24,bc yZ),(25,ae s8.2)] ?_ ?_
     ·refine c7 q<|ax (O.aZ (.lit q)) ?_;rcases gB ai with ⟨ka,ai⟩ | ⟨ka,ai⟩
      ·exact sm ai ▸ (gL ka<|gL ka<|gL ka<|gL ka<|gL ka<|gL ka<|gL ka<|gL ka<|gL ka<|gL ka<|gL ka<|ax (O.js .bj ka .cR)<|aC.b' [1,2,6,25,416] q<|aC.bI)
      ·refine cq ka (O.aZ .z4)<|cq ka (O.ev .z5)<|cq ka O.y2<|cq ka O.y2<|cq ka (O.dz (y:=.bg cy.z ⟨6,[2]⟩ bp.aD.bd.length))<|cq ka (O.aZ (.lit q)) ?_;exact aV ai λKM IZ ai=>sm ai ▸ (cq ka (O.gT (en:=cy) q .dw .bj FO IZ q)<|cq ka (O.j_ (en:=cy) q .z5 ME IZ q q)<|cq ka (O.jS (en:=cy) (x':=ak az KM.e2) q .z5 Hg IZ q q)<|cq ka O.o4<|cq ka (O.gtr .bj .cR)<|ax (O.jI .bj ka .bj)<|aC.b' [1,2,6,25,416] q<|aC.bI)
     refine aE.cH<|aE.bJ<|W.b' [1,2,6,24,25] (c7 q<|ax (O.add .bj .cR)<|aC.b' [1,2,6,24,402] q<|aC.bI) ?_;exact sm h ▸ aE.gt
    ·exact W.gI<|aE.gE<|sm h ▸ aE.t1
   refine aE.gA<|aE.bJ<|W.bP<|W.c5 [1,2,6,417] ?_;refine W.cc h q (λUT h=>?_) (λUT h=>?_)
   ·refine W.dr [2,3,4,5] (ax (O.eW (cs:=[.aQ,.aQ,.aQ,aw bf,aw bf]) Kq qy q q q)<|aC.eI (br.hU [2])<|aC.bI) ?_;refine W.dS (G1:=[(2,.obj [ak bU ([]:List Tok),ak bA ([]:List e_),ak cy ([]:List Prod),aw bf,aw bf]),(3,_),(4,_),(5,_)]) [2] (.z q q (fG.obj (.z (.z (.z (.f (.f .nil)))))) (.n q q (.n q q (.n q q .nil)))) ?_;exact W.rt<|aE.jJ<|sm h ▸ jL (.c (ys0:=[ak bU ([]:List Tok),ak bA ([]:List e_),ak cy ([]:List Prod),aw bf,aw bf]) q hB q q q (.f q (.f q (.f q (.f q (.f q .nil))))) (.f q q (.f q q (.f q q .nil))))
   ·refine W.dv<|aE.bJ<|W.bP<|W.rd [[],[],[],[2],[],[4],[0,2,3],[0,2,3,6],[0,2,3,6,7],[0,2,3,6,7,8],aL 0 10 [],aL 0 11 [],aL 0 12 [],aL 0 13 []] [(2,_),(6,_)] fV (by kernel_rfl) (aF 0 (O.aZ .z4)<|aF 1 (O.aZ .z4)<|aF 2 O.bN<|aF 3 O.ew<|aF 4 O.bN<|aF 5 O.ew<|aF 6 (O.ev .z5)<|aF 7 O.y2<|aF 8 O.y2<|bE.eW 9 (G2:=[(1,.obj (gP.cells a0)),(2,.obj [.aQ,.aQ,.aQ,aw bf,aw bf]),(6,.obj [ao bU lI,ao bA ky,ao cy bp.aD.bd,aw a0.b8,aw bp.aD.cf,ao cg bp.cd,ao bA bp.cv,ao cJ bp.b0,ae bp.cN,ae bp.c',aw bp.c9,ae bp.ca,ae bp.bV])]) (U:=[(5,424,some (aw a0.cf)),(4,423,some (.ptr ⟨1,[]⟩ 3)),(1,420,some (.ptr ⟨6,[]⟩ 0))]) (iE.v (br.kn (br.ij (G2:=[(1,.obj (gP.cells a0)),(2,.obj [.aQ,.aQ,.aQ,aw bf,aw bf]),(6,.obj [ao bU lI,ao bA ky,ao cy bp.aD.bd,aw a0.b8,aw bp.aD.cf,ao cg bp.cd,ao bA bp.cv,ao cJ bp.b0,ae bp.cN,ae bp.c',aw bp.c9,ae bp.ca,ae bp.bV])]) (cs2:=[ao bU lI,ao bA ky,ao cy bp.aD.bd,aw a0.b8,aw bp.aD.cf,ao cg bp.cd,ao bA bp.cv,ao cJ bp.b0,ae bp.cN,ae bp.c',aw bp.c9,ae bp.ca,ae bp.bV]) q q q (.ptr q) (.lit q) q FV q q q q (.n q q (.n q q (.b q .nil)))))) q q (by kernel_rfl) q q q (.c (.inr (.inl ⟨_,q⟩)) q q q q q (e7.wanted .none) (O.pz q .z5 wP q) (.c (.inr (.inr (.inr (.inl ⟨1,_,_,q,q,iK q,by simp,_,q,iK q⟩)))) q q q q q (e7.wanted .none) (O.ng q .z4 TH q) (.c (.inr (.inr (.inr (.inl ⟨6,_,_,q,q,iK q,by simp,_,q,iK q⟩)))) q q q q q (e7.wanted .none) (O.aZ .z4) .nil))) (by kernel_rfl)<|aF 10 (O.ev .z5)<|aF 11 O.y2<|aF 12 O.y2<|bE.jA 13 (br.oY [2,6])<|bE.fin q q q (rk q q)) ?_;refine aE.bJ<|W.bP<|W.dS (G1:=[(2,_),(6,.obj [ak bU lI,ak bA ky,ak cy bp.aD.bd,aw a0.b8,aw a0.cf,ao cg bp.cd,ao bA bp.cv,ao cJ bp.b0,ae bp.cN,ae bp.c',aw bp.c9,ae bp.ca,ae bp.bV])]) [6] (.n q q (.z q q (fG.obj (.z (.z (.z (.f (.f (.f (.f (.f (.f (.f (.f (.f (.f .nil)))))))))))))) .nil)) ?_;refine W.b' [2,3,4,5] (ax (O.aZ .z4)<|ax (O.ev .z5)<|ax O.y2<|ax (O.eZ (cs':=[ak bU lI,ak bA ky,ak cy bp.aD.bd,aw a0.b8,aw a0.cf]) q .z5 hB q q)<|aC.eI (br.hU [2])<|aC.bI) ?_;exact aE.bJ<|W.rt<|sm h ▸ jL (.c (ys0:=[ak bU lI,ak bA ky,ak cy bp.aD.bd,aw a0.b8,aw a0.cf]) q hB q q q (.f q (.f q (.f q (.f q (.f q .nil))))) (.f q q (.f q q (.f q q .nil))))
instance abK {a0:Source}{r:bt × Int × Int × ByteArray}:bO prog 81 (qn a0=some r) [.agg (gP.cells a0)] [none] (.bQ [.agg (cM.cells r.1),ae r.2.1,ae r.2.2.1,aw r.2.2.2]):=⟨Ta a0 _⟩
instance abz {a0:Source}{r:bt × Bool}:bO prog 66 (q7 a0=some r) [.agg (gP.cells a0)] [none] (.bQ [.agg (cM.cells r.1),bc r.2]):=⟨λh=>by unfold q7 at h; exact b1.bI (N:=⟨18,[]⟩) [1,2,3,4,5] .e func66 rfl rfl rfl rfl rfl dW⟩
instance aby {a0:(List Int)}{aB:Int}{r:(List Int)}:bO prog 61 (pF a0 aB=some r) [ak az a0,ae aB] [none,none] (ak az r):=⟨λh=>by unfold pF at h; exact b1.bI (N:=⟨47,[]⟩) [0,1,4,5,6,19,32] (.er (λ(s1:Int)=>[(5,ae s1)]) [0,1,5] 0 (λ(x2:Int)=>[(5,ae x2)]) [0,1,5] (.eE 2 [0,1,5,19] (λ(ow:Bool)=>[(19,bc ow)]) .e) (.eE 4 [0,1,5,32] (λ(hp:Bool)=>[(32,bc hp)]) (.b .e (.rd 7 [[],[],[1],[0,1,2],[],[],[4,5],aL 0 7 [],aL 0 8 []] .e)))) func61 rfl rfl rfl rfl rfl dW⟩
instance abB {a0:(List Int)}{aB:Int}{r:Bool}:bO prog 68 (uG a0 aB=some r) [ak az a0,ae aB] [none,none] (bc r):=⟨λh=>by unfold uG at h; exact b1.bI (N:=⟨18,[]⟩) [0,1,4,5,9,17] (.f_ (λ(s1:Int)=>[(5,ae s1)]) [0,1,5] 0 (λ(aX:Unit)=>[]) [] (λ(bR:Bool)=>[(4,bc bR)]) [4] .e .e .e) func68 rfl rfl rfl rfl rfl dW⟩
instance abL {a0:bt}{r:(List Int)}:bO prog 82 (CR a0=some r) [.agg (cM.cells a0)] [none] (ak az r):=⟨λh=>by unfold CR at h; exact b1.bI (N:=⟨30,[]⟩) [1,2,3,4,5,10,21] (.er (λ(s1:List Int × Int)=>[(3,ao az s1.1),(4,ae s1.2)]) [1,3,4] 0 (λ(x2:List Int)=>[(3,ao az x2)]) [1,3] .e (.er (λ(db:List Int × Int)=>[(3,ao az db.1),(5,ae db.2)]) [1,3,5] 2 (λ(bS:List Int)=>[(3,ao az bS)]) [3] .e .e)) func82 rfl rfl rfl rfl rfl dW⟩
instance aaH {a0:bt}{aB:Item}{r:Bool}:bO prog 108 (zL a0 aB=some r) [.agg (cM.cells a0),.agg [ae aB.Prod,ae aB.eY]] [none,none] (bc r):=⟨λh=>by unfold zL at h; exact b1.bI (N:=⟨34,[]⟩) [2,3,4] (.b' 1 [[],[0],[0,1],[0,1,2],[0,1,2,3],aL 0 5 [],[0,1,2,3],[0,1,2,3,6],[0,1,2,3,6,7],aL 0 9 [],aL 0 10 [],aL 0 11 [],aL 0 12 [],aL 0 13 [],aL 0 14 [],aL 0 15 [],aL 0 16 [],aL 0 17 [],aL 0 18 [],aL 0 17 [],aL 0 17 [19],aL 0 17 [],aL 0 17 [21],aL 0 17 [19,20,21,22],aL 0 17 (aL 19 5 []),aL 0 17 (aL 19 6 []),aL 0 17 (aL 19 7 []),aL 0 27 [],aL 0 28 [],aL 0 29 []] [4] (λ(nb:Bool)=>[(4,bc nb)]) .e) func108 rfl rfl rfl rfl rfl dW⟩
instance abN {a0:bt}{aB:Item}{r:Int}:bO prog 84 (xY a0 aB=some r) [.agg (cM.cells a0),.agg [ae aB.Prod,ae aB.eY]] [none,none] (ae r):=⟨λh=>by unfold xY at h; exact b1.bI (N:=⟨33,[]⟩) [2,3,4,21] (.b' 1 [[],[],[0,1],[0,1,2],[0,1,2,3],aL 0 5 [],aL 0 6 [],aL 0 5 [],aL 0 5 [7],aL 0 5 [],aL 0 5 [9],aL 0 5 [7,8,9,10],aL 0 5 (aL 7 5 []),aL 0 5 (aL 7 6 []),aL 0 5 (aL 7 7 []),aL 0 15 [],aL 0 16 []] [2,3,21] (λ(c4:Bool)=>[(21,bc c4)]) (.b .e (.rd 3 [[],[0],[],[2],[0,1,2,3],aL 0 5 [],aL 0 6 [],[],[7],aL 0 9 [],aL 0 10 [],aL 0 11 []] .e))) func84 rfl rfl rfl rfl rfl dW⟩
instance aaG {a0:(List Item)}{aB:Item}{r:(List Item)}:bO prog 107 (xM a0 aB=some r) [ak fx a0,.agg [ae aB.Prod,ae aB.eY]] [none,none] (ak fx r):=⟨λh=>by unfold xM at h; exact b1.bI (N:=⟨71,[]⟩) [0,3,4,5,6,43,56] (.er (λ(s1:Int)=>[(5,ae s1)]) [0,3,5] 0 (λ(x2:Int)=>[(5,ae x2)]) [0,3,5] (.b' 2 [[],[0],[0,1],[0,1,2],[0,1,2],[0,1,2,4],aL 0 6 [],aL 0 7 [],aL 0 8 [],[0,1,2],[0,1,2,9],aL 0 11 [],aL 0 12 [],aL 0 13 [],aL 0 13 [],aL 0 13 [14],aL 0 16 [],aL 0 17 [],aL 0 18 [],aL 0 13 [],aL 0 13 [19],aL 0 21 [],aL 0 22 [],aL 0 23 [],aL 0 23 [],aL 0 23 [24],aL 0 26 [],aL 0 27 [],aL 0 28 [],aL 0 23 [],aL 0 23 [29],aL 0 31 [],aL 0 32 [],aL 0 33 [],aL 0 34 []] [0,3,5,43] (λ(hp:Bool)=>[(43,bc hp)]) .e) (.b' 4 [[],[0],[0,1],[0,1,2],[0,1,2],[0,1,2,4],aL 0 6 [],aL 0 7 [],[0,1,2],aL 0 9 [],aL 0 10 []] [0,3,5,56] (λ(rC:Bool)=>[(56,bc rC)]) (.b .e (.rd 7 [[],[],[1],[0,1,2],[],[],[4,5],aL 0 7 [],aL 0 8 []] .e)))) func107 rfl rfl rfl rfl rfl dW⟩
instance aaF {a0:bt}{aB:(List Item)}{r:(List Item)}:bO prog 106 (Cz a0 aB=some r) [.agg (cM.cells a0),ak fx aB] [none,none] (ak fx r):=⟨λh=>by unfold Cz at h; exact b1.bI (N:=⟨26,[]⟩) [1,2,4,5,6,10,18] (.er (λ(s1:List Item × Int)=>[(5,ak fx s1.1),(6,ae s1.2)]) [1,2,5,6] 0 (λ(x2:List Item)=>[(5,ak fx x2)]) [5] (.b (.b6 [1,2,5,6] (λ(qe:List Item)=>[(5,ak fx qe)]) (.rd 5 [[],[],[],[1,2],[1,2,3],aL 0 5 []] (.b6 [1,2,5,6] (λ(fg:List Item)=>[(5,ak fx fg)]) .e .e)) .e) .e) .e) func106 rfl rfl rfl rfl rfl dW⟩
instance abM {a0:bt}{aB:(List Item)}{r:(List Item)}:bO prog 83 (xX a0 aB=some r) [.agg (cM.cells a0),ak fx aB] [none,none] (ak fx r):=⟨λh=>by unfold xX at h; exact b1.bI (N:=⟨59,[]⟩) [1,2,4,5,6,7,8,9,16,21,38,49,57] (.er (λ(s2:List Item × Int)=>[(5,ak fx s2.1),(6,ae s2.2)]) [2,5,6] 0 (λ(aX:List Item)=>[(5,ak fx aX)]) [5] (.b (.b6 [2,5,6] (λ(kI:List Item × Int)=>[(5,ak fx kI.1),(6,ae kI.2)]) (.p (.b6 [2,5,6] (λ(lC:List Item)=>[(5,ak fx lC)]) (.er (λ(eO:List Item × Int)=>[(5,ak fx eO.1),(7,ae eO.2)]) [2,5,6,7] 2 (λ(dG:List Item)=>[(5,ak fx dG)]) [2,5,6] (.b (.rd 8 [[],[],[],[1,2],[1,2,3],aL 0 5 [],aL 0 6 []] (.er (λ(lF:List Item × Int)=>[(5,ak fx lF.1),(9,ae lF.2)]) [2,5,6,7,8,9] 4 (λ(cL:List Item)=>[(5,ak fx cL)]) [2,5,6,7] (.eE 10 [2,5,6,7,8,9,38] (λ(na:Bool)=>[(38,bc na)]) (.b (.b6 [2,5,6,7,8,9] (λ(xr:List Item)=>[(5,ak fx xr)]) (.p (.b6 [2,5,6,7,8,9] (λ(mr:List Item)=>[(5,ak fx mr)]) .e .e)) .e) .e)) .e)) .e) .e) .e)) .e) .e) .e) func83 rfl rfl rfl rfl rfl dW⟩
instance abO {a0:bt}{aB:(List Item)}{a2:Int}{r:(List Item)}:bO prog 85 (CS a0 aB a2=some r) [.agg (cM.cells a0),ak fx aB,ae a2] [none,none,none] (ak fx r):=⟨λh=>by unfold CS at h; exact b1.bI (N:=⟨48,[]⟩) [1,2,3,6,7,8,9,10,17,32] (.er (λ(s2:List Item × Int)=>[(7,ak fx s2.1),(9,ae s2.2)]) [2,3,7,8,9] 0 (λ(aX:List Item)=>[(7,ak fx aX)]) [7] (.b (.b6 [2,3,7,8,9] (λ(kI:List Item)=>[(7,ak fx kI)]) (.rd 6 [[],[],[],[1,2],[1,2,3],aL 0 5 [],aL 0 6 []] (.eE 7 [2,3,7,8,9,32] (λ(hp:Bool)=>[(32,bc hp)]) (.b6 [2,3,7,8,9] (λ(i_:List Item)=>[(7,ak fx i_)]) (.b (.rd 8 [[],[],[],[1,2],[1,2,3],[1,2,3,4],[],[],[6,7],[6,7,8],[6,7,8,9],aL 6 5 [],aL 1 11 [],aL 0 13 [],aL 0 14 []] .e) .e) .e))) .e) .e) .e) func85 rfl rfl rfl rfl rfl dW⟩
instance aaI {a0:(List Item)}{aB:(List Item)}{r:Bool}:bO prog 109 (CA a0 aB=some r) [ak fx a0,ak fx aB] [none,none] (bc r):=⟨λh=>by unfold CA at h; exact b1.bI (N:=⟨26,[]⟩) [0,1,4,5,10,14,25] (.b .e (.f_ (λ(s2:Int)=>[(5,ae s2)]) [0,1,5] 0 (λ(bR:Unit)=>[]) [] (λ(bK:Bool)=>[(4,bc bK)]) [4] (.b (.rd 6 [[],[],[0,1],[0,1,2],[],[],[4,5],[4,5,6],aL 0 8 []] .e) .e) .e .e)) func109 rfl rfl rfl rfl rfl dW⟩
instance abP {a0:(List State)}{aB:(List Item)}{r:Int}:bO prog 86 (CT a0 aB=some r) [ak gu a0,ak fx aB] [none,none] (ae r):=⟨λh=>by unfold CT at h; exact b1.bI (N:=⟨20,[]⟩) [0,1,4,5,9,18] (.f_ (λ(s1:Int)=>[(5,ae s1)]) [0,1,5] 0 (λ(aX:Unit)=>[]) [] (λ(bR:Int)=>[(4,ae bR)]) [4] .e .e .e) func86 rfl rfl rfl rfl rfl dW⟩
theorem S9 (a0:bt) (r:(List State) × Int) (h:vZ a0=some r):b1 prog 67 [.agg (cM.cells a0)] [none] (.bQ [ak gu r.1,ae r.2]):=by
 unfold vZ at h;refine b1.go (N:=⟨106,[]⟩) func67 q q q q (W.fin ?_);refine W.st [(0,.agg (cM.cells a0))] ?_;refine W.dr [1] (ax (O.box (.dV q q) q)<|aC.bI) ?_;refine W.dr [1,4] (ax (O.eW (cs:=[ae 0,ae 0]) Za aae q q q)<|ax (O.u_ (ys:=[.agg [ae 0,ae 0]]) (cs:=[ae 0,ae 0]) Zm q q q q q aai q q)<|ax (O.eW (cs:=[.bg 2 ⟨15,[]⟩ 1,.aQ]) PQ QG q q q)<|ax (O.u_ (ys:=[.agg [.bg 2 ⟨15,[]⟩ 1,.aQ]]) (cs:=[.bg 2 ⟨15,[]⟩ 1,.aQ]) uO q q q q q QM q q)<|aC.u' (G2:=[(1,.obj (cM.cells a0))]) q (br.AI (y':=ao gQ [(⟨[(⟨0,0⟩:Item)],([]:List Move)⟩:State)]) q q (.own q) (.l q q (.l q q (.f (.f .nil)) (.f .nil)) .nil) (fG.own (.z (hv:=iS.Kh (en:=fx) (L:=[(⟨0,0⟩:Item)]) (cs':=[ae 0,ae 0]) q q) (.o .nil))) (.n q .nil) q q)<|bW q) ?_;refine aV h λa6 jO h=>W.dr [1,4,5] (ax (O.eZ (cs':=cM.cells a0) q .z4 hB q q)<|gM (cV.ff (.cZ (.dV q q) .nil) (bO.go jO))<|aC.bI) ?_;refine W.bP<|W.c5 [1,4,5,6] ?_;refine W.cH<|aV h λaX aj h=>W.f_ ([(⟨[(⟨0,0⟩:Item)],([]:List Move)⟩:State)],0) (λ(s2:List State × Int)=>[(4,ao gQ s2.1),(6,ae s2.2)]) [1,4,5,6] 0 (λ(bR:List State)=>[(4,ao gQ bR)]) [4] (λ(bK:List State × Int)=>[(2,ak gu bK.1),(3,ae bK.2)]) [2,3] aj (λs2 o h=>?_) (λbR j=>?_) (λbK j=>?_)
 ·clear aj;refine W.bP<|W.c5 [1,4,5,6,23] ?_;refine W.cc h q (λH8 h=>?_) (λH8 h=>?_)
  ·refine W.dv<|aE.bJ<|W.bP<|W.cH<|W.bP<|aV h λbS r2 h=>aV h λb3 uv h=>W.rd [[],[],[],[1,2],[1,2,3],[1,2,3,4],aL 0 6 [],aL 0 7 []] [(1,_),(4,_),(5,_),(6,_),(7,_)] fV (by kernel_rfl) (aF 0 (O.eZ (cs':=cM.cells a0) q .z4 hB q q)<|aF 1 (O.aZ .z3)<|aF 2 (O.aZ (.lit q))<|aF 3 (O.gT (en:=gQ) q .dw .bj uO r2 q)<|aF 4 (O.j_ (en:=gQ) q .z5 MG r2 q q)<|aF 5 (O.jS (en:=gQ) (x':=ak fx bS.Kernel) q .z5 Mg r2 q q)<|lK 6 (cV.ff (.cZ (.dV q q) (.cZ (.bm q) .nil)) (bO.go uv))<|aF 7 (O.dy .z2)<|bE.fin q q q (o1 q q q q q)) ?_;refine aE.bJ<|W.c5 [1,4,5,6,7,8] ?_;refine W.bP<|W.c5 [1,4,5,6,7,8,9] ?_;refine W.cH<|aV h λbF aj h=>W.hQ (([]:List Int),0) (λ(fE:List Int × Int)=>[(8,ak az fE.1),(9,ae fE.2)]) [1,4,5,6,7,8,9] 2 (λ(bF:List Int)=>[(8,ak az bF)]) [1,4,5,6,8] aj (λfE o h=>?_) ?_
   ·clear aj;refine W.bP<|W.c5 [1,4,5,6,7,8,9,36] ?_;refine W.cc h q (λtW h=>?_) (λtW h=>?_)
    ·refine W.dv<|aE.bJ<|W.bP<|aV h λiz ai h=>W.gi [1,4,5,6,7,8,9] [(8,ak az iz)] ?_ ?_
     ·clear h; have h:=ai; clear ai;refine W.cH<|W.bP<|aV h λeP vB h=>aV h λcL mn h=>W.rd [[],[],[],[1,2],[1,2,3],aL 0 5 [],aL 0 6 []] [(1,_),(4,_),(5,_),(6,_),(7,_),(8,_),(9,_),(10,_)] fV (by kernel_rfl) (aF 0 (O.eZ (cs':=cM.cells a0) q .z4 hB q q)<|aF 1 (O.aZ .z2)<|aF 2 (O.aZ (.lit q))<|aF 3 (O.gW vB)<|aF 4 (O.sT (cs':=[ae eP.Prod,ae eP.eY]) .uU RY q q)<|lK 5 (cV.ff (.cZ (.dV q q) (.cZ (.dV q q) .nil)) (bO.go mn))<|aF 6 (O.dy (.lit q))<|bE.fin q q q (Qo q q q q q q q q)) ?_;refine aE.bJ<|W.c5 [1,4,5,6,7,8,9,10,46] ?_;refine aV h λmq ai h=>W.gi [1,4,5,6,7,8,9] [(8,ak az mq)] ?_ ?_
      ·clear h; have h:=ai; clear ai;refine W.cc h q (λoD h=>?_) (λoD h=>?_)
       ·refine aV h λfq oL h=>W.b' [1,4,5,6,7,8,9] (ax (O.aZ .z2)<|c7 q<|gM (cV.ff (.cZ (.bm q) (.cZ (.lit q) .nil)) (bO.go oL))<|aC.b' [1,4,5,6,7,9,49] q<|aC.bI) ?_;exact sm h ▸ aE.ek
       ·exact W.dv<|sm h ▸ aE.ek
      exact aE.cH<|sm h ▸ aE.ek
     refine aE.bJ<|W.b' [1,4,5,6,7,8,9] (c7 q<|ax (O.add .bj .cR)<|aC.b' [1,4,5,6,7,8,38] q<|aC.bI) ?_;exact sm h ▸ aE.gt
    ·exact W.gI<|aE.gE<|sm h ▸ aE.t1
   refine aE.gA<|aE.bJ<|W.c5 [1,4,5,6,8,11] ?_;refine W.cH<|aV h λfc aj h=>W.f_ (s2.1,0) (λ(dO:List State × Int)=>[(4,ao gQ dO.1),(11,ae dO.2)]) [1,4,5,6,8,11] 4 (λ(eG:List State)=>[(4,ao gQ eG)]) [1,4,5,6] (λ(fM:List State × Int)=>[(2,ak gu fM.1),(3,ae fM.2)]) [2,3] aj (λdO o h=>?_) (λeG j=>?_) (λfM j=>?_)
   ·clear aj;refine W.bP<|W.c5 [1,4,5,6,8,11,53] ?_;refine W.cc h q (λhE h=>?_) (λhE h=>?_)
    ·refine W.dv<|aE.bJ<|W.bP<|W.cH<|W.bP<|aV h λgl ur h=>aV h λhW rZ h=>W.dr [1,4,5,6,8,11,62] (ax (O.aZ .z2)<|ax (O.aZ .z2)<|c7 q<|ax (O.gW ur)<|ax (O.hJ (x:=ae gl))<|gM (cV.ff (.cZ (.bm q) (.cZ (.lit q) .nil)) (bO.go rZ))<|aC.bI) ?_;refine W.cc h q (λw3 h=>?_) (λw3 h=>?_)
     ·refine W.gI<|aE.gE<|aE.gA<|aE.bJ<|W.b' [1,4,5,6,8,11] (c7 q<|ax (O.add .bj .cR)<|aC.b' [1,4,5,6,8,55] q<|aC.bI) ?_;exact sm h ▸ aE.gt
     ·refine W.dv<|aE.bJ<|W.bP<|aV h λfv xj h=>aV h λcC B1 h=>aV h λeo oM h=>W.rd [[],[],[],[1,2],[1,2,3],[1,2,3,4],[],[],[6,7],[6,7,8],aL 0 10 [],aL 0 11 []] [(1,_),(4,_),(5,_),(6,_),(8,_),(11,_),(12,_)] fV (by kernel_rfl) (aF 0 (O.eZ (cs':=cM.cells a0) q .z4 hB q q)<|aF 1 (O.aZ .z3)<|aF 2 (O.aZ (.lit q))<|aF 3 (O.gT (en:=gQ) q .dw .bj uO xj q)<|aF 4 (O.j_ (en:=gQ) q .z5 MG xj q q)<|aF 5 (O.jS (en:=gQ) (x':=ak fx fv.Kernel) q .z5 Mg xj q q)<|aF 6 (O.aZ .z2)<|aF 7 (O.aZ (.lit q))<|aF 8 (O.gW B1)<|aF 9 (O.hJ (x:=ae cC))<|lK 10 (cV.ff (.cZ (.dV q q) (.cZ (.bm q) (.cZ (.lit q) .nil))) (bO.go oM))<|aF 11 (O.dy .z2)<|bE.fin q q q (rm q q q q q q q)) ?_;refine aE.bJ<|aV h λho qa h=>W.dr [1,4,5,6,8,11,12,13] (ax (O.aZ .z3)<|ax (O.aZ .z2)<|gM (cV.sg (ys:=[.bg gQ.z ⟨4,[]⟩ dO.1.length,ak fx eo]) q (.c (.row q) (.s .nil)) (bO.go qa))<|aC.bI) ?_;refine W.bP<|W.c5 [1,4,5,6,8,11,12,13,78] ?_;refine W.cc h q (λU0 h=>?_) (λU0 h=>?_)
      ·refine W.dr [1,4,5,6,8,11,12,13] (ax (O.aZ .z3)<|ax (O.nA .dw uO)<|aC.b' [1,4,5,6,8,11,12,80] q<|aC.bI) ?_;refine W.bP<|W.c5 [1,4,5,6,8,11,12,13,82] ?_;refine W.cc h q (λH7 h=>?_) (λH7 h=>?_)
       ·refine W.c5 [2,3] ?_;refine W.dS (G1:=[(2,ak gu ([]:List State)),(3,_)]) [2] (.z q q .jY (.n q q .nil)) ?_;exact W.rt<|aE.jJ<|aE.jJ<|aE.pg<|aE.jJ<|sm h ▸ aE.jt (rk q q)
       ·refine W.dv<|aE.bJ<|aV h λlH sO h=>W.b' [1,4,5,6,8,11,13] (ax (O.aZ .z3)<|ax (O.aZ .z2)<|ax (O.eW (cs:=[ak fx eo,.aQ]) PQ QG q q q)<|ax (O.u_ (ys:=[.agg [ak fx eo,.aQ]]) (cs:=[ak fx eo,.aQ]) uO q q q q q QM q q)<|ax (O.GJ (en:=gQ) (M:=[(⟨eo,([]:List Move)⟩:State)]) (r:=lH) .dw q .z3 q q q q RI q sO)<|aC.u' (G2:=[(1,.obj (cM.cells a0)),(5,ak az a6),(6,ae s2.2),(8,ak az bF),(11,ae dO.2),(13,ae (dO.1.length:Int))]) q (br.LF (M:=[(⟨eo,([]:List Move)⟩:State)]) q q (.bB q) q q q (.f (.f .nil)) (.f (.o .nil)) q q (pL q q q q q q) q q)<|bW q) ?_;refine aE.bJ<|aV h λiC r0 h=>aV h λgb I1 h=>aV h λlg xk h=>W.rd [[],[],[],[],[2,3],[2,3,4],[2,3,4,5],[],[],[7,8],[7,8,9],[],aL 7 5 [],aL 7 6 [],aL 2 12 [],aL 0 15 [],aL 0 16 [],aL 0 17 []] [(1,_),(4,_),(5,_),(6,_),(8,_),(11,_)] fV (by kernel_rfl) (aF 0 (O.aZ .z3)<|aF 1 (O.aZ (.lit q))<|aF 2 (O.aZ .z3)<|aF 3 (O.aZ (.lit q))<|aF 4 (O.gT (en:=gQ) q .dw .bj uO r0 q)<|aF 5 (O.j_ (en:=gQ) q .z5 D' r0 q q)<|aF 6 (O.jS (en:=gQ) (x':=.bg lr.z ⟨4,[s2.2.toNat * gQ.z+1]⟩ iC.ey.length) q .z5 Mh r0 q q)<|aF 7 (O.aZ .z2)<|aF 8 (O.aZ (.lit q))<|aF 9 (O.gW I1)<|aF 10 (O.hJ (x:=ae gb))<|aF 11 (O.aZ (.lit q))<|aF 12 (O.eW (cs:=[ae gb,ae (dO.1.length:Int)]) PS QI q q q)<|bE.gG 13 (x:=ak lr [(⟨gb,(dO.1.length:Int)⟩:Move)]) (O.dq (ys:=[.agg [ae gb,ae (dO.1.length:Int)]]) lr [(⟨gb,(dO.1.length:Int)⟩:Move)] P9 q q q q q q QO q q) q q q q .none<|aF 14 (O.ap (en:=lr) (r:=lg) .dw (u7 (r:=4) (path:=[]) (o:=1) (en:=gQ) q r0 q) .z2 .i LB q xk)<|aF 15 (O.gT (en:=gQ) q .dw .bj uO r0 q)<|aF 16 (O.j_ (en:=gQ) q .z5 D' r0 q q)<|bE.jA 17 (G2:=[(1,.obj (cM.cells a0)),(4,ao gQ ((dO.1++[(⟨eo,([]:List Move)⟩:State)]).set s2.2.toNat (⟨iC.Kernel,iC.ey++[(⟨gb,(dO.1.length:Int)⟩:Move)]⟩:State))),(5,ak az a6),(6,ae s2.2),(8,ak az bF),(11,ae dO.2)]) (br.Df (en:=gQ) (en2:=lr) (M:=[(⟨gb,(dO.1.length:Int)⟩:Move)]) (y2:=(⟨iC.Kernel,iC.ey++[(⟨gb,(dO.1.length:Int)⟩:Move)]⟩:State)) (x2:=ao gQ ((dO.1++[(⟨eo,([]:List Move)⟩:State)]).set s2.2.toNat (⟨iC.Kernel,iC.ey++[(⟨gb,(dO.1.length:Int)⟩:Move)]⟩:State))) (y0:=.own gQ.z (dO.1++[(⟨eo,([]:List Move)⟩:State)]).length ((bq gQ (dO.1++[(⟨eo,([]:List Move)⟩:State)])).set (s2.2.toNat * gQ.z+1) .dead)) q q (.ptr q) (.bB q) q q r0 q q .iJ .hS q q Qg q q q q q q (.n q q (.b q (.n q q (.n q q (.n q q (.n q q .nil)))))))<|bE.fin q q q (pL q q q q q q)) ?_;refine aE.cH<|aE.bJ<|W.b' [1,4,5,6,8,11] (c7 q<|ax (O.add .bj .cR)<|aC.b' [1,4,5,6,8,55] q<|aC.bI) ?_;exact sm h ▸ aE.gt
      ·refine W.dv<|aE.bJ<|aV h λkg qV h=>aV h λcT I2 h=>aV h λgm uu h=>W.rd [[],[],[],[],[2,3],[2,3,4],[2,3,4,5],[],[],[7,8],[7,8,9],[],aL 7 5 [],aL 7 6 [],aL 2 12 [],aL 0 15 [],aL 0 16 [],aL 0 17 []] [(1,_),(4,_),(5,_),(6,_),(8,_),(11,_)] fV (by kernel_rfl) (aF 0 (O.aZ .z3)<|aF 1 (O.aZ (.lit q))<|aF 2 (O.aZ .z3)<|aF 3 (O.aZ (.lit q))<|aF 4 (O.gT (en:=gQ) q .dw .bj uO qV q)<|aF 5 (O.j_ (en:=gQ) q .z5 D' qV q q)<|aF 6 (O.jS (en:=gQ) (x':=.bg lr.z ⟨4,[s2.2.toNat * gQ.z+1]⟩ kg.ey.length) q .z5 Mh qV q q)<|aF 7 (O.aZ .z2)<|aF 8 (O.aZ (.lit q))<|aF 9 (O.gW I2)<|aF 10 (O.hJ (x:=ae cT))<|aF 11 (O.aZ (.lit q))<|aF 12 (O.eW (cs:=[ae cT,ae ho]) PS QI q q q)<|bE.gG 13 (x:=ak lr [(⟨cT,ho⟩:Move)]) (O.dq (ys:=[.agg [ae cT,ae ho]]) lr [(⟨cT,ho⟩:Move)] P9 q q q q q q QO q q) q q q q .none<|aF 14 (O.ap (en:=lr) (r:=gm) .dw (u7 (r:=4) (path:=[]) (o:=1) (en:=gQ) q qV q) .z2 .i LB q uu)<|aF 15 (O.gT (en:=gQ) q .dw .bj uO qV q)<|aF 16 (O.j_ (en:=gQ) q .z5 D' qV q q)<|bE.jA 17 (G2:=[(1,.obj (cM.cells a0)),(4,ao gQ (dO.1.set s2.2.toNat (⟨kg.Kernel,kg.ey++[(⟨cT,ho⟩:Move)]⟩:State))),(5,ak az a6),(6,ae s2.2),(8,ak az bF),(11,ae dO.2)]) (br.Df (en:=gQ) (en2:=lr) (M:=[(⟨cT,ho⟩:Move)]) (y2:=(⟨kg.Kernel,kg.ey++[(⟨cT,ho⟩:Move)]⟩:State)) (x2:=ao gQ (dO.1.set s2.2.toNat (⟨kg.Kernel,kg.ey++[(⟨cT,ho⟩:Move)]⟩:State))) (y0:=.own gQ.z dO.1.length ((bq gQ dO.1).set (s2.2.toNat * gQ.z+1) .dead)) q q (.ptr q) (.bB q) q q qV q q .iJ .hS q q Qg q q q q q q (.n q q (.b q (.n q q (.n q q (.n q q (.n q q .nil)))))))<|bE.fin q q q (pL q q q q q q)) ?_;refine aE.cH<|aE.bJ<|W.b' [1,4,5,6,8,11] (c7 q<|ax (O.add .bj .cR)<|aC.b' [1,4,5,6,8,55] q<|aC.bI) ?_;exact sm h ▸ aE.gt
    ·exact W.gI<|aE.gE<|sm h ▸ aE.x2 (kt q q q q)
   ·subst j;refine aE.gA<|aE.cH<|aE.bJ<|W.b' [1,4,5,6] (c7 q<|ax (O.add .bj .cR)<|aC.b' [1,4,5,25] q<|aC.bI) ?_;exact sm h ▸ aE.gt
   ·subst j;exact aE.pg<|aE.pg<|aE.jJ<|sm h ▸ aE.jt (rk q q)
  ·exact W.gI<|aE.gE<|sm h ▸ aE.x2 (.n q .nil)
 ·subst j;refine aE.gA<|aE.bJ<|W.dr [2,3] (ax (O.aZ .z3)<|aC.bZ (br.kB [])<|aC.bI) ?_;refine W.dS (G1:=[(2,ak gu bR),(3,_)]) [2] (.z q q .jY (.n q q .nil)) ?_;exact W.rt<|sm h ▸ jL (.f q q (.f q q .nil))
 ·subst j;exact aE.pg<|aE.jJ<|sm h ▸ jL (.f q q (.f q q .nil))
instance abA {a0:bt}{r:(List State) × Int}:bO prog 67 (vZ a0=some r) [.agg (cM.cells a0)] [none] (.bQ [ak gu r.1,ae r.2]):=⟨S9 a0 _⟩
instance abk {a0:Source}{r:bt × (List State) × Bool}:bO prog 49 (q5 a0=some r) [.agg (gP.cells a0)] [none] (.bQ [.agg (cM.cells r.1),ak gu r.2.1,bc r.2.2]):=⟨λh=>by unfold q5 at h; exact b1.bI (N:=⟨26,[]⟩) [1,2,3,4,5,6,7,8,15] .e func49 rfl rfl rfl rfl rfl dW⟩
end Go.Proofs
