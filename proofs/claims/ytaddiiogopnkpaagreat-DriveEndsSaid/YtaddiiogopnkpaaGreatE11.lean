/- Parts of the proof that the last text states. -/
import Derived.Test.YtaddiiogopnkpaaGreatRows
import Derived.Test.YtaddiiogopnkpaaGreatE10
set_option linter.unusedVariables false
namespace Go.Proofs
open Tryz
open Go Go.Own
set_option maxRecDepth 100000
set_option maxHeartbeats 4000000
set_option synthInstance.maxHeartbeats 1000000
set_option synthInstance.maxSize 10000
instance:oo cq:=⟨λx=>[(.int .i64 x.At),(.int .i64 x.cb)],λ_=>rfl,λx v hv=>by simp only [List.mem_cons,List.not_mem_nil,or_false] at hv; rcases hv with rfl | rfl <;> rfl⟩
theorem qg:j0 prog 3=true:=by kernel_rfl
theorem aaL:fk prog 46 132 2=true:=by kernel_rfl
theorem Pr:ur prog 3 .i64=true:=by kernel_rfl
theorem Pq:ur prog 178 .u64=true:=by kernel_rfl
theorem Bp:h3 prog 132 2=true:=by kernel_rfl
theorem call58:hx prog 58=true:=by kernel_rfl
theorem Vi:iR prog 132 1 1 3=true:=by kernel_rfl
theorem Ic:j0 prog 27=true:=by kernel_rfl
theorem fX:fk prog 27 3 1=true:=by kernel_rfl
theorem Vn:iR prog 45 1 1 27=true:=by kernel_rfl
theorem sO:(prog.info? 145).bind (·.zero)=some (.agg #[.int .i64 0,.int .i64 0]):=by kernel_rfl
theorem D6:jR prog 145 [(0,1),(1,1)]=true:=by kernel_rfl
theorem yy:hq prog 145 2=true:=by kernel_rfl
theorem sU:h3 prog 145 2=true:=by kernel_rfl
theorem EX:h3 prog 45 3=true:=by kernel_rfl
theorem q8:h3 prog 48 11=true:=by kernel_rfl
theorem eJ:prog.follows .mixedOrders=true:=by kernel_rfl
theorem tt:hq prog 3 1=true:=by kernel_rfl
theorem lb:i_ prog 3 1=true:=by kernel_rfl
theorem ox:h4 prog 27 3 1 8=true:=by kernel_rfl
theorem G0:hq prog 27 1=true:=by kernel_rfl
theorem sH:fk prog 54 56 4=true:=by kernel_rfl
theorem u7:h3 prog 56 4=true:=by kernel_rfl
theorem ab_:i_ prog 56 4=true:=by kernel_rfl
theorem SV:h4 prog 54 56 4 48=true:=by kernel_rfl
theorem aa8:hq prog 54 1=true:=by kernel_rfl
theorem Hf:(prog.info? 56).bind (·.zero)=some (.agg #[.int .i64 0,.int .i64 0,.int .i64 0,.slice none 0 0]):=by kernel_rfl
theorem QZ:jR prog 56 [(0,1),(1,1),(2,1),(3,1)]=true:=by kernel_rfl
theorem aa9:hq prog 56 4=true:=by kernel_rfl
theorem call101:hx prog 101=true:=by kernel_rfl
theorem call76:hx prog 76=true:=by kernel_rfl
theorem ab4:(prog.info? 70).bind (·.zero)=some (.agg #[.int .i64 0,.bool false]):=by kernel_rfl
theorem aay:jR prog 70 [(0,1),(1,1)]=true:=by kernel_rfl
theorem ab':i_ prog 70 2=true:=by kernel_rfl
theorem Ly:fk prog 53 70 2=true:=by kernel_rfl
theorem SU:h4 prog 53 70 2 16=true:=by kernel_rfl
theorem Et:(prog.info? 58).bind (·.zero)=some (.agg #[.int .i64 0,.int .i64 0,.int .i64 0,.int .i64 0,.slice none 0 0,.slice none 0 0,.slice none 0 0,.int .i64 0,.int .i64 0,.int .i64 0,.slice none 0 0]):=by kernel_rfl
theorem abZ:(prog.info? 124).bind (·.zero)=some (.agg #[.slice none 0 0,.slice none 0 0,.slice none 0 0,.slice none 0 0,.slice none 0 0,.slice none 0 0,.slice none 0 0,.slice none 0 0,.slice none 0 0,.slice none 0 0,.slice none 0 0,.slice none 0 0,.int .i64 0,.int .i64 0,.slice none 0 0,.slice none 0 0,.int .i64 0,.int .i64 0,.int .i64 0,.int .i64 0,.int .i64 0,.slice none 0 0,.slice none 0 0,.slice none 0 0,.int .i64 0,.int .i64 0,.int .i64 0,.slice none 0 0]):=by kernel_rfl
theorem aat:jR prog 124 [(0,11),(11,1),(12,1),(13,1),(14,1),(15,1),(16,1),(17,11)]=true:=by kernel_rfl
theorem zd:h3 prog 58 11=true:=by kernel_rfl
theorem GU:fk prog 34 78 6=true:=by kernel_rfl
theorem Tg:h3 prog 78 6=true:=by kernel_rfl
theorem Hg:(prog.info? 78).bind (·.zero)=some (.agg #[.string ⟨#[]⟩,.bool false,.int .i64 0,.int .i64 0,.int .i64 0,.string ⟨#[]⟩]):=by kernel_rfl
theorem Ny:iR prog 78 2 2 3=true:=by kernel_rfl
theorem L2:(prog.info? 132).bind (·.zero)=some (.agg #[.int .i64 0,.int .i64 0]):=by kernel_rfl
theorem aau:jR prog 132 [(0,1),(1,1)]=true:=by kernel_rfl
theorem ab5:i_ prog 132 2=true:=by kernel_rfl
theorem SS:h4 prog 46 132 2 16=true:=by kernel_rfl
theorem call51:hx prog 51=true:=by kernel_rfl
theorem call52:hx prog 52=true:=by kernel_rfl
theorem aaH:fk prog 114 46 1=true:=by kernel_rfl
theorem ab2:(prog.info? 234).bind (·.zero)=some (.agg (List.replicate 1000 (Value.bool false)).toArray):=by kernel_rfl
theorem aa4:hq prog 132 2=true:=by kernel_rfl
theorem MF:zc prog 234 4 1000 1=true:=by kernel_rfl
theorem BF:j0 prog 4=true:=by kernel_rfl
theorem Ri:hq prog 4 1=true:=by kernel_rfl
theorem BE:j0 prog 114=true:=by kernel_rfl
theorem call140:hx prog 140=true:=by kernel_rfl
theorem Es:(prog.info? 45).bind (·.zero)=some (.agg #[.slice none 0 0,.slice none 0 0,.slice none 0 0]):=by kernel_rfl
theorem QY:jR prog 45 [(0,1),(1,1),(2,1)]=true:=by kernel_rfl
theorem LH:hq prog 45 3=true:=by kernel_rfl
theorem RP:(prog.info? 3).bind (·.zero)=some (.int .i64 0):=by kernel_rfl
theorem MP:(prog.info? 3).map (·.bytes)=some 8:=by kernel_rfl
theorem call109:hx prog 109=true:=by kernel_rfl
theorem call110:hx prog 110=true:=by kernel_rfl
theorem Tc:h3 prog 162 2=true:=by kernel_rfl
theorem ab0:(prog.info? 162).bind (·.zero)=some (.agg #[.int .i64 0,.slice none 0 0]):=by kernel_rfl
theorem ab9:i_ prog 46 1=true:=by kernel_rfl
theorem SM:h4 prog 114 46 1 24=true:=by kernel_rfl
theorem abn:prog.underlying 3=some (.int .i64):=by kernel_rfl
noncomputable abbrev te:Bg prog 3 Int:=Sj abn
theorem ace:(prog.info? 3).bind (·.zero)=some (.int .i64 0):=by kernel_rfl
noncomputable abbrev tf:Bh prog 3 Int:=Sk ace
theorem G7:prog.underlying 206=some (.map 3 3):=by kernel_rfl
theorem aaK:fk prog 39 146 1=true:=by kernel_rfl
theorem Q8:fk prog 146 145 2=true:=by kernel_rfl
theorem aaJ:fk prog 26 27 1=true:=by kernel_rfl
theorem He:(prog.info? 48).bind (·.zero)=some (.agg #[.slice none 0 0,.slice none 0 0,.slice none 0 0,.slice none 0 0,.slice none 0 0,.slice none 0 0,.slice none 0 0,.slice none 0 0,.slice none 0 0,.slice none 0 0,.slice none 0 0]):=by kernel_rfl
theorem qe:h3 prog 41 2=true:=by kernel_rfl
theorem GV:fk prog 36 68 6=true:=by kernel_rfl
theorem MJ:h3 prog 68 6=true:=by kernel_rfl
theorem Eu:(prog.info? 68).bind (·.zero)=some (.agg #[.int .i64 0,.slice none 0 0,.int .i64 0,.string ⟨#[]⟩,.slice none 0 0,.int .i64 0]):=by kernel_rfl
theorem Nx:iR prog 68 1 1 27=true:=by kernel_rfl
theorem iq:h3 prog 38 5=true:=by kernel_rfl
theorem wY:j0 prog 9=true:=by kernel_rfl
theorem Vp:iR prog 89 0 0 3=true:=by kernel_rfl
theorem NA:iR prog 89 2 2 87=true:=by kernel_rfl
theorem UL:j0 prog 87=true:=by kernel_rfl
theorem Q_:fk prog 87 91 4=true:=by kernel_rfl
theorem ze:h3 prog 91 4=true:=by kernel_rfl
theorem yw:fk prog 96 100 6=true:=by kernel_rfl
theorem Ta:h3 prog 100 6=true:=by kernel_rfl
theorem Ep:(prog.info? 100).bind (·.zero)=some (.agg #[.string ⟨#[]⟩,.bool false,.int .i64 0,.int .i64 0,.string ⟨#[]⟩,.int .i64 0]):=by kernel_rfl
theorem Lx:fk prog 22 89 4=true:=by kernel_rfl
theorem MK:h3 prog 89 4=true:=by kernel_rfl
theorem wq:fk prog 23 95 3=true:=by kernel_rfl
theorem HK:h3 prog 95 3=true:=by kernel_rfl
theorem A5:(prog.info? 95).bind (·.zero)=some (.agg #[.string ⟨#[]⟩,.slice none 0 0,.int .i64 0]):=by kernel_rfl
theorem BP:iR prog 95 1 1 93=true:=by kernel_rfl
theorem Ie:j0 prog 93=true:=by kernel_rfl
theorem D_:fk prog 93 98 6=true:=by kernel_rfl
theorem ML:h3 prog 98 6=true:=by kernel_rfl
theorem Vj:iR prog 248 4 8 3=true:=by kernel_rfl
theorem Vk:iR prog 248 5 9 3=true:=by kernel_rfl
theorem Vl:iR prog 248 6 10 9=true:=by kernel_rfl
theorem Rk:hq prog 9 1=true:=by kernel_rfl
theorem yv:fk prog 35 255 2=true:=by kernel_rfl
theorem Lt:jR prog 78 [(0,1),(1,1),(2,1),(3,1),(4,1),(5,1)]=true:=by kernel_rfl
theorem call148:hx prog 148=true:=by kernel_rfl
theorem aca:i_ prog 78 6=true:=by kernel_rfl
theorem uP:fk prog 102 4 1=true:=by kernel_rfl
theorem Er:(prog.info? 255).bind (·.zero)=some (.agg #[.string ⟨#[]⟩,.string ⟨#[]⟩]):=by kernel_rfl
theorem GN:jR prog 255 [(0,1),(1,1)]=true:=by kernel_rfl
theorem Hh:i_ prog 255 2=true:=by kernel_rfl
theorem HF:h4 prog 35 255 2 32=true:=by kernel_rfl
theorem Nw:iR prog 255 1 1 9=true:=by kernel_rfl
theorem Nz:iR prog 78 3 3 3=true:=by kernel_rfl
theorem Vo:iR prog 78 4 4 3=true:=by kernel_rfl
theorem IB:iR prog 78 5 5 9=true:=by kernel_rfl
theorem GS:fk prog 246 9 1=true:=by kernel_rfl
theorem Ls:jR prog 68 [(0,1),(1,1),(2,1),(3,1),(4,1),(5,1)]=true:=by kernel_rfl
theorem Vh:iR prog 100 2 5 3=true:=by kernel_rfl
theorem L4:i_ prog 68 6=true:=by kernel_rfl
theorem MA:h4 prog 36 68 6 88=true:=by kernel_rfl
theorem aa6:hq prog 36 1=true:=by kernel_rfl
theorem rS:(prog.info? 38).bind (·.zero)=some (.agg #[.slice none 0 0,.slice none 0 0,.slice none 0 0,.string ⟨#[]⟩,.string ⟨#[]⟩]):=by kernel_rfl
theorem Bq:h3 prog 25 4=true:=by kernel_rfl
theorem Lr:jR prog 38 [(0,1),(1,1),(2,1),(3,1),(4,1)]=true:=by kernel_rfl
theorem G3:hq prog 38 5=true:=by kernel_rfl
theorem RQ:(prog.info? 4).bind (·.zero)=some (.bool false):=by kernel_rfl
theorem MQ:(prog.info? 4).map (·.bytes)=some 1:=by kernel_rfl
theorem ab3:(prog.info? 248).bind (·.zero)=some (.agg #[.slice none 0 0,.slice none 0 0,.slice none 0 0,.string ⟨#[]⟩,.string ⟨#[]⟩,.slice none 0 0,.slice none 0 0,.slice none 0 0,.int .i64 0,.int .i64 0,.string ⟨#[]⟩,.int .i64 0,.int .i64 0]):=by kernel_rfl
theorem aaw:jR prog 248 [(0,5),(5,1),(6,1),(7,1),(8,1),(9,1),(10,1),(11,1),(12,1)]=true:=by kernel_rfl
theorem RR:(prog.info? 89).bind (·.zero)=some (.agg #[.int .i64 0,.string ⟨#[]⟩,.slice none 0 0,.int .i64 0]):=by kernel_rfl
theorem L3:(prog.info? 91).bind (·.zero)=some (.agg #[.string ⟨#[]⟩,.bool false,.int .i64 0,.int .i64 0]):=by kernel_rfl
theorem aaA:jR prog 91 [(0,1),(1,1),(2,1),(3,1)]=true:=by kernel_rfl
theorem acd:i_ prog 9 1=true:=by kernel_rfl
theorem SP:h4 prog 246 9 1 16=true:=by kernel_rfl
theorem Te:h3 prog 255 2=true:=by kernel_rfl
theorem Vm:iR prog 25 3 3 9=true:=by kernel_rfl
theorem Td:h3 prog 188 2=true:=by kernel_rfl
theorem aaI:fk prog 183 188 2=true:=by kernel_rfl
theorem ab7:i_ prog 188 2=true:=by kernel_rfl
theorem ab1:(prog.info? 188).bind (·.zero)=some (.agg #[.int .i64 0,.int .i64 0]):=by kernel_rfl
theorem aav:jR prog 188 [(0,1),(1,1)]=true:=by kernel_rfl
theorem uQ:fk prog 106 186 2=true:=by kernel_rfl
theorem Nv:iR prog 186 0 0 183=true:=by kernel_rfl
theorem Nb:j0 prog 183=true:=by kernel_rfl
theorem RM:(prog.info? 186).bind (·.zero)=some (.agg #[.slice none 0 0,.slice none 0 0]):=by kernel_rfl
theorem QU:jR prog 186 [(0,1),(1,1)]=true:=by kernel_rfl
theorem RU:i_ prog 186 2=true:=by kernel_rfl
theorem SL:h4 prog 106 186 2 48=true:=by kernel_rfl
theorem E9:iR prog 186 1 1 184=true:=by kernel_rfl
theorem Nc:j0 prog 184=true:=by kernel_rfl
theorem RO:(prog.info? 198).bind (·.zero)=some (.agg #[.int .i64 0,.int .i64 0]):=by kernel_rfl
theorem QW:jR prog 198 [(0,1),(1,1)]=true:=by kernel_rfl
theorem RW:i_ prog 198 2=true:=by kernel_rfl
theorem Q9:fk prog 184 198 2=true:=by kernel_rfl
theorem Mz:h4 prog 184 198 2 16=true:=by kernel_rfl
theorem Rh:hq prog 184 1=true:=by kernel_rfl
theorem Tb:h3 prog 156 5=true:=by kernel_rfl
theorem ab8:i_ prog 27 1=true:=by kernel_rfl
theorem SQ:h4 prog 26 27 1 24=true:=by kernel_rfl
theorem call130:hx prog 130=true:=by kernel_rfl
theorem call131:hx prog 131=true:=by kernel_rfl
theorem call129:hx prog 129=true:=by kernel_rfl
theorem call132:hx prog 132=true:=by kernel_rfl
theorem RN:(prog.info? 195).bind (·.zero)=some (.agg #[.int .i64 0,.int .i64 0,.int .i64 0,.int .i64 0]):=by kernel_rfl
theorem QV:jR prog 195 [(0,1),(1,1),(2,1),(3,1)]=true:=by kernel_rfl
theorem RV:i_ prog 195 4=true:=by kernel_rfl
theorem Q7:fk prog 110 195 4=true:=by kernel_rfl
theorem HE:h4 prog 110 195 4 32=true:=by kernel_rfl
theorem uX:(prog.info? 41).bind (·.zero)=some (.agg #[.slice none 0 0,.slice none 0 0]):=by kernel_rfl
theorem Tl:(prog.info? 145).map (·.bytes)=some 16:=by kernel_rfl
theorem ab6:i_ prog 146 1=true:=by kernel_rfl
theorem SR:h4 prog 39 146 1 24=true:=by kernel_rfl
theorem aa7:hq prog 39 1=true:=by kernel_rfl
theorem Rj:hq prog 41 2=true:=by kernel_rfl
theorem aax:jR prog 41 [(0,1),(1,1)]=true:=by kernel_rfl
theorem GM:jR prog 100 [(0,4),(4,1),(5,1)]=true:=by kernel_rfl
theorem A6:(prog.info? 98).bind (·.zero)=some (.agg #[.slice none 0 0,.string ⟨#[]⟩,.bool false,.int .i64 0,.int .i64 0,.int .i64 0]):=by kernel_rfl
theorem D7:jR prog 98 [(0,1),(1,4),(5,1)]=true:=by kernel_rfl
theorem yF:i_ prog 100 6=true:=by kernel_rfl
theorem Hi:i_ prog 98 6=true:=by kernel_rfl
theorem Lu:jR prog 95 [(0,1),(1,1),(2,1)]=true:=by kernel_rfl
theorem RY:i_ prog 95 3=true:=by kernel_rfl
theorem Hd:(prog.info? 25).bind (·.zero)=some (.agg #[.string ⟨#[]⟩,.slice none 0 0,.slice none 0 0,.string ⟨#[]⟩]):=by kernel_rfl
theorem QX:jR prog 25 [(0,1),(1,1),(2,1),(3,1)]=true:=by kernel_rfl
theorem aaz:jR prog 89 [(0,1),(1,1),(2,1),(3,1)]=true:=by kernel_rfl
theorem RX:i_ prog 91 4=true:=by kernel_rfl
theorem SX:h4 prog 87 91 4 40=true:=by kernel_rfl
theorem aa_:hq prog 87 1=true:=by kernel_rfl
theorem acb:i_ prog 89 4=true:=by kernel_rfl
theorem SN:h4 prog 22 89 4 56=true:=by kernel_rfl
theorem HG:h4 prog 96 100 6 64=true:=by kernel_rfl
theorem MB:h4 prog 93 98 6 72=true:=by kernel_rfl
theorem Rl:hq prog 93 1=true:=by kernel_rfl
theorem SO:h4 prog 23 95 3 48=true:=by kernel_rfl
theorem aa5:hq prog 23 1=true:=by kernel_rfl
theorem Tf:h3 prog 29 5=true:=by kernel_rfl
theorem Qa {a0 av r}(h:uG a0 av=some r):p6 (.agg (dn.cells r)):=by
 cases h;exact (inferInstance:p6 (.agg [ae _,ae _,ae _,hW 4 (mV _ [])]))
theorem aaP {g:FuncId}{caps:List ab} [dk caps] (aP:hx prog g=true) {l r:List cG}{fC:cG->cG->Option Int}(h:pZ fC l=some r) (aa:∀ a b v,fC a b=some v->bO prog g (.agg (cq.cells a)::.agg (cq.cells b)::caps) (none::none::caps.map λ_=>none) (ae v)):bO prog 51 [aC cq l,.cD (.func g) [] caps] [some (aC cq r),none] (.bS []):=bO.aaS (e:=cq) Tryz.aaT Tryz.isAgg132 Tryz.sizeOf132 aP h aa
instance:cx prog 132 0 0 3:={}
instance:fg prog 3:={}
instance:eE prog 46 132 2:={}
instance:Bc prog 3 .i64:={}
instance:cx prog 132 1 1 3:={}
instance:cx prog 45 0 0 27:={}
instance:fg prog 27:={}
instance:eE prog 27 3 1:={}
instance:cx prog 45 2 2 27:={}
instance:cx prog 45 1 1 27:={}
instance:mz prog 145 (.agg #[.int .i64 0,.int .i64 0]):={}
instance:rT prog 145 [(0,1),(1,1)]:={}
instance:l8 prog 145 2:={}
instance:cx prog 48 1 1 45:={}
instance:l8 prog 45 3:={}
instance:cx prog 48 0 0 27:={}
instance:cx prog 124 0 0 48:={}
instance:l8 prog 48 11:={}
instance:cx prog 124 4 14 27:={}
instance:EB prog:={}
instance:cx prog 124 7 17 58:={}
instance:cx prog 58 1 1 3:={}
instance:cx prog 124 1 11 27:={}
instance:cx prog 58 2 2 3:={}
instance:cx prog 124 3 13 3:={}
instance:cx prog 124 2 12 3:={}
instance:cx prog 58 0 0 3:={}
instance:p3 prog 27 3 1 8:={}
instance:cx prog 124 5 15 54:={}
instance:fg prog 54:={}
instance:eE prog 54 56 4:={}
instance:cx prog 58 3 3 3:={}
instance:cx prog 48 3 5 45:={}
instance:cx prog 48 2 4 27:={}
instance:cx prog 48 5 9 27:={}
instance:cx prog 48 4 8 27:={}
instance:cx prog 58 4 4 27:={}
instance:cx prog 58 6 6 27:={}
instance:cx prog 124 6 16 3:={}
instance:cx prog 58 5 5 53:={}
instance:fg prog 53:={}
instance:eE prog 53 70 2:={}
instance:cx prog 145 0 0 3:={}
instance:cx prog 145 1 1 3:={}
instance:cx prog 58 7 7 56:={}
instance:cx prog 48 6 10 46:={}
instance:fg prog 46:={}
instance:cx prog 38 0 0 34:={}
instance:fg prog 34:={}
instance:eE prog 34 78 6:={}
instance:l8 prog 78 6:={}
instance:mz prog 78 (.agg #[.string ⟨#[]⟩,.bool false,.int .i64 0,.int .i64 0,.int .i64 0,.string ⟨#[]⟩]):={}
instance:cx prog 78 2 2 3:={}
instance:mz prog 132 (.agg #[.int .i64 0,.int .i64 0]):={}
instance:rT prog 132 [(0,1),(1,1)]:={}
instance:p3 prog 46 132 2 16:={}
instance:eE prog 114 46 1:={}
instance:fg prog 4:={}
instance:fg prog 114:={}
instance:eE prog 117 162 2:={}
instance:l8 prog 162 2:={}
instance:mz prog 162 (.agg #[.int .i64 0,.slice none 0 0]):={}
instance:cx prog 162 0 0 3:={}
instance:cx prog 162 1 1 46:={}
instance:cx prog 41 0 0 39:={}
instance:fg prog 39:={}
instance:eE prog 39 146 1:={}
instance:fg prog 146:={}
instance:eE prog 146 145 2:={}
instance:rT prog 162 [(0,1),(1,1)]:={}
instance:p3 prog 117 162 2 32:={}
instance:cx prog 41 1 1 26:={}
instance:fg prog 26:={}
instance:eE prog 26 27 1:={}
instance:cx prog 38 2 2 36:={}
instance:fg prog 36:={}
instance:eE prog 36 68 6:={}
instance:l8 prog 68 6:={}
instance:mz prog 68 (.agg #[.int .i64 0,.slice none 0 0,.int .i64 0,.string ⟨#[]⟩,.slice none 0 0,.int .i64 0]):={}
instance:cx prog 68 0 0 3:={}
instance:cx prog 68 1 1 27:={}
instance:l8 prog 38 5:={}
instance:pw prog 9:={}
instance:cx prog 91 1 1 4:={}
instance:cx prog 91 0 0 9:={}
instance:fg prog 9:={}
instance:cx prog 91 2 2 3:={}
instance:cx prog 89 0 0 3:={}
instance:cx prog 89 2 2 87:={}
instance:fg prog 87:={}
instance:eE prog 87 91 4:={}
instance:cx prog 89 1 1 9:={}
instance:l8 prog 91 4:={}
instance:cx prog 98 0 0 96:={}
instance:fg prog 96:={}
instance:eE prog 96 100 6:={}
instance:l8 prog 100 6:={}
instance:mz prog 100 (.agg #[.string ⟨#[]⟩,.bool false,.int .i64 0,.int .i64 0,.string ⟨#[]⟩,.int .i64 0]):={}
instance:cx prog 100 1 4 9:={}
instance:cx prog 100 0 0 91:={}
instance:cx prog 98 1 1 91:={}
instance:cx prog 25 0 0 9:={}
instance:cx prog 25 1 1 22:={}
instance:fg prog 22:={}
instance:eE prog 22 89 4:={}
instance:l8 prog 89 4:={}
instance:cx prog 25 2 2 23:={}
instance:fg prog 23:={}
instance:eE prog 23 95 3:={}
instance:l8 prog 95 3:={}
instance:mz prog 95 (.agg #[.string ⟨#[]⟩,.slice none 0 0,.int .i64 0]):={}
instance:cx prog 95 0 0 9:={}
instance:cx prog 95 1 1 93:={}
instance:fg prog 93:={}
instance:eE prog 93 98 6:={}
instance:l8 prog 98 6:={}
instance:cx prog 248 4 8 3:={}
instance:cx prog 248 5 9 3:={}
instance:cx prog 248 6 10 9:={}
instance:cx prog 248 2 6 35:={}
instance:fg prog 35:={}
instance:eE prog 35 255 2:={}
instance:cx prog 255 0 0 9:={}
instance:cx prog 248 0 0 38:={}
instance:cx prog 78 0 0 9:={}
instance:cx prog 78 1 1 4:={}
instance:rT prog 78 [(0,1),(1,1),(2,1),(3,1),(4,1),(5,1)]:={}
instance:Bc prog 5 .u8:={}
instance:cx prog 91 3 3 3:={}
instance:p3 prog 34 78 6 64:={}
instance:cx prog 248 1 5 102:={}
instance:fg prog 102:={}
instance:eE prog 102 4 1:={}
instance:p3 prog 102 4 1 1:={}
instance:cx prog 255 1 1 9:={}
instance:cx prog 78 3 3 3:={}
instance:cx prog 248 7 11 3:={}
instance:cx prog 78 4 4 3:={}
instance:cx prog 248 3 7 246:={}
instance:fg prog 246:={}
instance:eE prog 246 9 1:={}
instance:cx prog 98 2 5 3:={}
instance:cx prog 100 2 5 3:={}
instance:cx prog 68 3 3 9:={}
instance:cx prog 68 5 5 3:={}
instance:cx prog 248 8 12 3:={}
instance:cx prog 68 2 2 3:={}
instance:cx prog 68 4 4 27:={}
instance:Bc prog 217 .u64:={}
instance:eE prog 148 5 1:={}
instance:mz prog 38 (.agg #[.slice none 0 0,.slice none 0 0,.slice none 0 0,.string ⟨#[]⟩,.string ⟨#[]⟩]):={}
instance:l8 prog 25 4:={}
instance:mz prog 4 (.bool false):={}
instance:EC prog 4 1:={}
instance:mz prog 91 (.agg #[.string ⟨#[]⟩,.bool false,.int .i64 0,.int .i64 0]):={}
instance:rT prog 91 [(0,1),(1,1),(2,1),(3,1)]:={}
instance:cx prog 95 2 2 3:={}
instance:cx prog 38 1 1 35:={}
instance:cx prog 25 3 3 9:={}
instance:cx prog 38 3 3 9:={}
instance:cx prog 38 4 4 9:={}
instance:cx prog 188 0 0 3:={}
instance:cx prog 188 1 1 3:={}
instance:l8 prog 188 2:={}
instance:eE prog 183 188 2:={}
instance:p3 prog 183 188 2 16:={}
instance:mz prog 188 (.agg #[.int .i64 0,.int .i64 0]):={}
instance:rT prog 188 [(0,1),(1,1)]:={}
instance:eE prog 106 186 2:={}
instance:cx prog 186 0 0 183:={}
instance:fg prog 183:={}
instance:cx prog 186 1 1 184:={}
instance:fg prog 184:={}
instance:eE prog 184 198 2:={}
instance:cx prog 198 0 0 3:={}
instance:cx prog 198 1 1 3:={}
instance:cx prog 156 4 4 27:={}
instance:cx prog 156 2 2 3:={}
instance:cx prog 156 3 3 4:={}
instance:mz prog 156 (.agg #[.int .i64 0,.int .i64 0,.int .i64 0,.bool false,.slice none 0 0]):={}
instance:rT prog 156 [(0,1),(1,1),(2,1),(3,1),(4,1)]:={}
instance:eE prog 153 190 3:={}
instance:cx prog 190 0 0 3:={}
instance:cx prog 190 2 2 27:={}
instance:cx prog 190 1 1 3:={}
instance:l8 prog 156 5:={}
instance:eE prog 107 156 5:={}
instance:p3 prog 107 156 5 56:={}
instance:mz prog 229 (.agg #[.int .i64 0,.int .i64 0]):={}
instance:rT prog 229 [(0,1),(1,1)]:={}
instance:eE prog 226 229 2:={}
instance:p3 prog 226 229 2 16:={}
instance:cx prog 229 0 0 3:={}
instance:cx prog 229 1 1 3:={}
instance:p3 prog 26 27 1 24:={}
instance:mz prog 27 (.slice none 0 0):={}
instance:EC prog 27 24:={}
instance:mz prog 190 (.agg #[.int .i64 0,.int .i64 0,.slice none 0 0]):={}
instance:rT prog 190 [(0,1),(1,1),(2,1)]:={}
instance:l8 prog 190 3:={}
instance:p3 prog 153 190 3 40:={}
instance:cx prog 156 0 0 3:={}
instance:cx prog 156 1 1 3:={}
instance:rT prog 100 [(0,4),(4,1),(5,1)]:={}
instance:cx prog 70 0 0 3:={}
instance:cx prog 70 1 1 4:={}
instance:cx prog 56 0 0 3:={}
instance:cx prog 29 0 0 3:={}
instance:cx prog 29 2 2 27:={}
instance:cx prog 29 1 1 26:={}
instance:cx prog 29 3 3 27:={}
instance:cx prog 29 4 4 4:={}
instance:l8 prog 70 2:={}
instance:cx prog 56 1 1 3:={}
instance:cx prog 56 2 2 3:={}
instance:cx prog 56 3 3 54:={}
instance:nc prog 26 (List Int) (bF ai):={}
instance:nc prog 27 Int ai:={}
instance:nc prog 34 b4 cv:={}
instance:nc prog 46 cG cq:={}
instance:nc prog 102 Bool e1:={}
instance:nc prog 107 Cell iP:={}
instance:nc prog 117 Row pB:={}
instance:nc prog 148 Int r5:={}
instance:nc prog 153 lD tT:={}
instance:nc prog 183 Item ga:={}
instance:nc prog 226 Trans r4:={}
instance aea {a0:Int}{r:Bool}:bw prog 92 (wa a0=some r) [ae a0] [none] (bg r):=⟨λh=>by unfold wa at h; exact bO.bo (N:=⟨6,[]⟩) [0,2] .e func92 rfl rfl rfl rfl rfl du⟩
instance adQ {a0:Int}{av:Int}{r:Int}:bw prog 53 (tm a0 av=some r) [ae a0,ae av] [none,none] (ae r):=⟨λh=>by unfold tm at h; exact bO.bo (N:=⟨20,[]⟩) [0,1,4,5,6,11,12,13,16,19] .e func53 rfl rfl rfl rfl rfl du⟩
instance adR {a0:cG}{av:Int}{r:Int}:bw prog 58 (AL a0 av=some r) [.agg [ae a0.At,ae a0.cb],ae av] [none,none] (ae r):=⟨λh=>by unfold AL at h; exact bO.bo (N:=⟨9,[]⟩) [1,2,4] .e func58 rfl rfl rfl rfl rfl du⟩
theorem Uu (a0:(List cG)) (av:Int) (r:Int × Bool) (h:DM a0 av=some r):bO prog 57 [aj cq a0,ae av,.cD (.func 58) [] []] [none,none,none] (.bS [ae r.1,bg r.2]):=by
 unfold DM at h;refine bO.go (N:=⟨49,[]⟩) func57 q q q q (W.fin ?_);refine W.st [(0,aj cq a0),(1,ae av),(2,.cD (.func 58) [] [])] ?_;refine W.bK [0,1,2] ?_;refine W.bK [0,1,2,8] ?_;refine W.bK [0,1,2,8,9,10] ?_;refine W.bJ<|W.ca<|aU h λx2 ah h=>W.gi (0,(a0.length:Int)) (λ(s1:Int × Int)=>[(9,ae s1.1),(10,ae s1.2)]) [0,1,2,8,9,10] 0 (λ(x2:Int)=>[(9,ae x2)]) [0,1,2,8,9] ah (λs1 o h=>?_) ?_
 ·clear ah;refine W.bJ<|W.bK [0,1,2,8,9,10,17] ?_;refine W.bZ h q (λk2 h=>?_) (λk2 h=>?_)
  ·refine W.cM<|ax.bI<|aU h λiy ag h=>W.eI [0,1,2,8,9,10] [(9,ae iy.1),(10,ae iy.2)] ?_ ?_
   ·clear h; have h:=ag; clear ag;refine W.ca<|W.ck [0,1,2,8,9,10,11] (cK q<|cK q<|ak (O.add .a_ .a_)<|ak (O.Ig .a_ Pr Pq)<|ak (O.shr .a_ .ch q)<|ak (O.Ig .a_ Pq Pr)<|aE.bo) ?_;refine aU h λbz kp h=>aU h λbq jK h=>W.ck [0,1,2,8,9,10,11,31] (ak (O.aS (.cD q))<|ak (O.aS .z2)<|cK q<|ak (O.gY kp)<|ak (O.mS (cs':=[ae bz.At,ae bz.cb]) .my Bp q q)<|cK q<|e0 (cd.gc (.cD q) (.b8 (.dm q q) (.b8 (.lit q) .nil)) (bw.go jK) call58 q)<|aE.bo) ?_;refine aU h λdZ ag h=>W.eI [0,1,2,8,9,10] [(9,ae dZ.1),(10,ae dZ.2)] ?_ ?_
    ·clear h; have h:=ag; clear ag;refine W.bZ h q (λnX h=>?_) (λnX h=>?_)
     ·refine W.bY [0,1,2,8,9,10] (cK q<|ak (O.add .a_ .ch)<|aE.bY [0,1,2,8,10,33] q<|aE.bo) ?_;exact aV h ▸ ax.dg
     ·refine W.bY [0,1,2,8,9,10] (cK q<|aE.bY [0,1,2,8,9,34] q<|aE.bo) ?_;exact aV h ▸ ax.dg
    exact ax.ca<|aV h ▸ ax.dg
   exact aV h ▸ ax.gt
  ·exact W.fm<|ax.fe<|aV h ▸ ax.t1
 refine ax.fr<|ax.bI<|aU h λiN ag h=>W.k8 [6,7] [(6,ae iN.1),(7,bg iN.2)] ?_ ?_
 ·refine cK q<|cK q<|cK q<|ak (O.lss .a_ .a_)<|ak (O.aS (.lit q)) ?_;rcases eU ag with ⟨ie,ag⟩ | ⟨ie,ag⟩
  ·refine bu ie (O.aS (.cD q))<|bu ie (O.aS .z2)<|bu ie (O.aS (.lit q)) ?_;refine aU ag λa1 jJ ag=>bu ie (O.gY jJ)<|bu ie (O.mS (cs':=[ae a1.At,ae a1.cb]) .my Bp q q)<|bu ie (O.aS (.lit q)) ?_;exact aU ag λea qx ag=>aV ag ▸ (aE.c (cd.gc (.cD q) (.b8 (.dm q q) (.b8 (.lit q) .nil)) (bw.go qx) call58 q) q q (.na q q ie)<|aE.bo)
  ·exact aV ag ▸ aE.bo
 exact W.rt<|aV h ▸ jz (.f q q (.f q q .nil))
theorem Ul (a0:(List cG)) (av:Int) (r:Int) (h:v8 a0 av=some r):bO prog 25 [aj cq a0,ae av] [none,none] (ae r):=by
 unfold v8 at h;refine bO.go (N:=⟨22,[]⟩) func25 q q q q (W.fin ?_);refine W.st [(0,aj cq a0),(1,ae av)] ?_;refine W.bK [0,1] ?_;refine W.bJ<|W.bK [0,1,8] ?_;refine W.bZ h q (λgM h=>?_) (λgM h=>?_)
 ·refine W.bK [4] ?_;exact W.rt<|ax.gy<|aV h ▸ lE
 ·refine W.cM<|ax.bI<|aU h λx2 gF h=>W.ck [0,5,6] (ak (O.aS .z2)<|cK q<|e0 (cd.dY (.b8 (.bd q) (.b8 (.lit q) (.b8 .func .nil))) (Uu a0 av _ gF))<|ak (O.aS (.abl q q))<|ak (O.ex (y:=ae x2.1) q q q)<|ak (O.ex (y:=bg x2.2) q q q)<|aE.bo) ?_;refine W.bJ<|W.bK [0,5,16] ?_;refine W.bZ h q (λlN h=>?_) (λlN h=>?_)
  ·refine W.bK [4] ?_;exact W.rt<|ax.gy<|aV h ▸ lE
  ·refine W.cM<|ax.bI<|aU h λbl nB h=>W.bK [4] ?_;exact W.rt<|aV h ▸ lE
instance adz {a0:(List cG)}{av:Int}{r:Int}:bw prog 25 (v8 a0 av=some r) [aj cq a0,ae av] [none,none] (ae r):=⟨Ul a0 av _⟩
instance acT {a0:hZ}{av:Int}{a2:Int}{r:Int × Bool}:bw prog 136 (rD a0 av a2=some r) [.agg (tS.cells a0),ae av,ae a2] [none,none,none] (.bS [ae r.1,bg r.2]):=⟨λh=>by unfold rD at h; exact bO.bo (N:=⟨56,[]⟩) [1,2,3,6,7,8,28,50] (.eK 1 [1,2,3,28] (λ(c4:Bool)=>[(28,bg c4)]) (.b .e (.eK 4 [3,8,50] (λ(r2:Bool)=>[(50,bg r2)]) .e))) func136 rfl rfl rfl rfl rfl du⟩
instance acU {a0:Int}{r:Act}:bw prog 137 (x8 a0=some r) [ae a0] [none] (.agg [ae r.Kind,ae r.N]):=⟨λh=>by unfold x8 at h; exact bO.bo (N:=⟨32,[]⟩) [0,2,3,13,23,27] (.eK 1 [0,2,3] (λ(c2:Bool)=>[(3,bg c2)]) (.b .e (.eK 3 [0,2,13] (λ(jD:Bool)=>[(13,bg jD)]) .e))) func137 rfl rfl rfl rfl rfl du⟩
instance aeh {a0:Tables}{av:Int}{a2:Int}{r:Act}:bw prog 99 (wb a0 av a2=some r) [.agg (iG.cells a0),ae av,ae a2] [none,none,none] (.agg [ae r.Kind,ae r.N]):=⟨λh=>by unfold wb at h; exact bO.bo (N:=⟨44,[]⟩) [1,2,3,6,7,8,17,36] (.b .e (.eK 4 [1,3,6,36] (λ(nT:Bool)=>[(36,bg nT)]) .e)) func99 rfl rfl rfl rfl rfl du⟩
instance ad2 {a0:dz}{av:Int}{r:Act}:bw prog 74 (yi a0 av=some r) [.cw ((wV a0)),ae av] [none,none] (.agg [ae r.Kind,ae r.N]):=⟨λh=>by unfold yi at h; exact bO.bo (N:=⟨23,[]⟩) [0,1,4] (.rd 1 [[],[0],[0,1],[0,1,2],[],[4],[4,5],[4,5,6],[],[8],[8,9],[8,9,10],[8,9,10,11],aF 8 5 [],aF 4 10 [],aF 4 11 [],[],aF 0 17 [],aF 0 18 []] .e) func74 rfl rfl rfl rfl rfl du⟩
instance ad3 {a0:dz}{r:Int}:bw prog 75 (yj a0=some r) [.cw ((wV a0))] [none] (ae r):=⟨λh=>by unfold yj at h; exact bO.bo (N:=⟨25,[]⟩) [0,2,13] (.rd 1 [[],[0],[0,1],[0,1,2],[0,1,2,3],[],[5],[5,6],[5,6,7],[5,6,7,8],aF 0 10 []] (.b .e (.rd 3 [[],[0],[0,1],[0,1,2],[],[4],[4,5],[4,5,6],[4,5,6,7],aF 0 9 [],aF 0 10 [],aF 0 11 []] .e))) func75 rfl rfl rfl rfl rfl du⟩
instance acx {a0:dz}{av:Int}{r:Bool × dz}:bw prog 100 (x3 a0 av=some r) [.obj (ic.cells a0),ae av] [some (.obj (kW r.2)),none] (bg r.1):=⟨λh=>by unfold x3 at h; exact bO.bo (N:=⟨36,[0]⟩) [0,1,4,22] (.bY 1 [[],[0],[0,1],[0,1,2],[0,1,2,3],[],[5],[5,6],[5,6,7],aF 0 9 [],aF 0 10 [],aF 0 11 [],aF 0 11 [],aF 0 11 [12],aF 0 11 [12,13],aF 0 11 [12,13,14],aF 0 16 [],aF 0 17 []] [0,22] (λ(c2:Bool)=>[(22,bg c2)]) .e) func100 rfl rfl rfl rfl rfl du⟩
theorem Ux (a0:dz) (av:Int) (a2:Int) (a3:Node) (r:Bool × dz) (h:uF a0 av a2 a3=some r):bO prog 76 [.obj (ic.cells a0),ae av,ae a2,.agg (dn.cells a3)] [some (.obj (kW r.2)),none,none,none] (bg r.1):=by
 unfold uF at h;refine bO.go (N:=⟨71,[0]⟩) func76 q q q q (W.fin ?_);refine W.st [(0,.obj (ic.cells a0)),(1,ae av),(2,ae a2),(3,.agg (dn.cells a3))] ?_;refine W.ck [0,1,2,7] (ak (O.box (.dm q q) q)<|aE.bo) ?_;refine W.bJ<|aU h λaR gE h=>W.ck [0,1,2,7,18] (ak (O.aS .z4)<|ak (O.aS .z4)<|ak (O.cP .z5)<|ak O.y2<|ak (O.cJ (y:=.a6 ai.z ⟨0,[14]⟩ a0.dt.length))<|ak (O.lu .c6 fX)<|cK q<|ak (O.sub .a_ .a_)<|aE.ji q (fO.jN (ks:=[1,2,7]) (bw.go gE) q q q q (.b q (.n q .nil)))<|aE.bo) ?_;refine W.bZ h q (λfj h=>?_) (λfj h=>?_)
 ·refine W.bK [0,8] ?_;exact W.rt<|ax.gy<|aV h ▸ ax.fin (Fin.ro (.f q q .nil) q (pW (by kernel_rfl)) (.al q q (.no (.no (.no .nil)))) q (.inr q))
 ·refine W.cM<|ax.bI<|W.bJ<|aU h λa7 hb h=>aU h λbl nB h=>W.rd [[],[],[1],[1,2],[1,2,3],[],[5],[5,6],[5,6,7],[5,6,7,8],[],aF 5 6 [],aF 1 11 [],[],[13],aF 1 14 [],aF 0 16 [],aF 0 17 [],aF 0 18 []] [(0,_),(2,_),(7,_)] eJ (by kernel_rfl) (ay 0 (O.aS .z4)<|ay 1 (O.aS .z4)<|ay 2 (O.cP .z5)<|ay 3 O.y2<|ay 4 (O.cJ (y:=.a6 ai.z ⟨0,[14]⟩ aR.2.dt.length))<|ay 5 (O.aS .z4)<|ay 6 (O.cP .z5)<|ay 7 O.y2<|ay 8 (O.cJ (y:=.a6 ai.z ⟨0,[14]⟩ aR.2.dt.length))<|ay 9 (O.lu .c6 fX)<|ay 10 (O.aS (.lit q))<|ay 11 (O.sub .a_ .a_)<|ay 12 (O.D' (en:=ai) (L:=aR.2.dt) .c6 .a_ q fX hb)<|ay 13 (O.aS (.lit q))<|bC.e4 14 (x:=aj ai [av]) (O.c8 (ys:=[ae av]) ai [av] fX q q q q q q lb q q) q q q q .none<|bC.dS 15 (G2:=(34,aC ai bl)::[(0,.obj ((kW aR.2).set 14 .dead)),(2,ae a2),(7,.obj (dn.cells a3))]) (U:=[(0,19,some (.ptr ⟨0,[]⟩ 0))]) (ht.v (bc.iv (bc.MC (en:=ai) (L:=aR.2.dt) (M:=[av]) (f:=14) (k:=((aG ((aR.2.dt.length:Int) - a2)).toNat)) (r:=0) (cs2:=((kW aR.2).set 14 .dead)) (G2:=[(0,.obj ((kW aR.2).set 14 .dead)),(2,ae a2),(7,.obj (dn.cells a3))]) q q (.a6 q) q q (xH hb) (.bd q) .i ox q nB q (.b q (.n q q (.n q q .nil))) q q))) q q (by kernel_rfl) q q q (.c (.inr (.inr (.inr (.inl ⟨0,_,_,q,q,gO q,by simp,_,q,gO q⟩)))) q q q q q (dV.wanted .none) (O.aS .z4) .nil) (by kernel_rfl)<|ay 16 (O.cP .z5)<|ay 17 O.y2<|bC.gS 18 (bc.uT [0,2,7])<|bC.fin q q q (og q q q)) ?_;refine ax.bI<|W.bJ<|aU h λbW mO h=>aU h λbz kp h=>W.rd [[],[],[1],[1,2],[1,2,3],[],[5],[5,6],[5,6,7],[5,6,7,8],[],aF 5 6 [],aF 1 11 [],[],[13],aF 1 14 [],aF 0 16 [],aF 0 17 [],aF 0 18 []] [(0,_)] eJ (by kernel_rfl) (ay 0 (O.aS .z4)<|ay 1 (O.aS .z4)<|ay 2 (O.cP .z5)<|ay 3 O.y2<|ay 4 (O.cJ (y:=.a6 dn.z ⟨0,[15]⟩ aR.2.fc.length))<|ay 5 (O.aS .z4)<|ay 6 (O.cP .z5)<|ay 7 O.y2<|ay 8 (O.cJ (y:=.a6 dn.z ⟨0,[15]⟩ aR.2.fc.length))<|ay 9 (O.lu .c6 sH)<|ay 10 (O.aS (.lit q))<|ay 11 (O.sub .a_ .a_)<|ay 12 (O.D' (en:=dn) (L:=aR.2.fc) .c6 .a_ q sH mO)<|ay 13 (O.dJ (cs':=dn.cells a3) q .z4 u7 q q)<|bC.e4 14 (x:=aj dn [a3]) (O.c8 (ys:=[.agg (dn.cells a3)]) dn [a3] sH q q q q q q ab_ q q) q q q q .none<|bC.dS 15 (G2:=(52,aC dn bz)::[(0,.obj [aj ai aR.2.b0.Def,aj ai aR.2.b0.cz.cX,aj ai aR.2.b0.cz.cb,aj ai aR.2.b0.cz.b_,aj ai aR.2.b0.jw,aj ai aR.2.b0.ej.cX,aj ai aR.2.b0.ej.cb,aj ai aR.2.b0.ej.b_,aj ai aR.2.b0.Left,aj ai aR.2.b0.kv,aj cq aR.2.b0.je,aC ai aR.2.iQ,ae aR.2.jj,ae aR.2.jk,aC ai bl,.dead,ae aR.2.h5,ae aR.2.bb.Kind,ae aR.2.bb.At,ae aR.2.bb.Steps,ae aR.2.bb.Deep,aC ai aR.2.bb.bx,aC jF aR.2.bb.eC,aC ai aR.2.bb.fp,ae aR.2.bb.Tree.Sym,ae aR.2.bb.Tree.Prod,ae aR.2.bb.Tree.At,hW 4 aR.2.bb.Tree.Kids])]) (U:=[(0,37,some (.ptr ⟨0,[]⟩ 0))]) (ht.v (bc.iv (bc.MC (en:=dn) (L:=aR.2.fc) (M:=[a3]) (f:=15) (k:=((aG ((aR.2.fc.length:Int) - a2)).toNat)) (r:=0) (cs2:=[aj ai aR.2.b0.Def,aj ai aR.2.b0.cz.cX,aj ai aR.2.b0.cz.cb,aj ai aR.2.b0.cz.b_,aj ai aR.2.b0.jw,aj ai aR.2.b0.ej.cX,aj ai aR.2.b0.ej.cb,aj ai aR.2.b0.ej.b_,aj ai aR.2.b0.Left,aj ai aR.2.b0.kv,aj cq aR.2.b0.je,aC ai aR.2.iQ,ae aR.2.jj,ae aR.2.jk,aC ai bl,.dead,ae aR.2.h5,ae aR.2.bb.Kind,ae aR.2.bb.At,ae aR.2.bb.Steps,ae aR.2.bb.Deep,aC ai aR.2.bb.bx,aC jF aR.2.bb.eC,aC ai aR.2.bb.fp,ae aR.2.bb.Tree.Sym,ae aR.2.bb.Tree.Prod,ae aR.2.bb.Tree.At,hW 4 aR.2.bb.Tree.Kids]) (G2:=[(0,.obj [aj ai aR.2.b0.Def,aj ai aR.2.b0.cz.cX,aj ai aR.2.b0.cz.cb,aj ai aR.2.b0.cz.b_,aj ai aR.2.b0.jw,aj ai aR.2.b0.ej.cX,aj ai aR.2.b0.ej.cb,aj ai aR.2.b0.ej.b_,aj ai aR.2.b0.Left,aj ai aR.2.b0.kv,aj cq aR.2.b0.je,aC ai aR.2.iQ,ae aR.2.jj,ae aR.2.jk,aC ai bl,.dead,ae aR.2.h5,ae aR.2.bb.Kind,ae aR.2.bb.At,ae aR.2.bb.Steps,ae aR.2.bb.Deep,aC ai aR.2.bb.bx,aC jF aR.2.bb.eC,aC ai aR.2.bb.fp,ae aR.2.bb.Tree.Sym,ae aR.2.bb.Tree.Prod,ae aR.2.bb.Tree.At,hW 4 aR.2.bb.Tree.Kids])]) q q (.a6 q) q q (xH mO) (.bd q) .i SV q kp q (.b q .nil) q q))) q q (by kernel_rfl) q q q (.c (.inr (.inr (.inr (.inl ⟨0,_,_,q,q,gO q,by simp,_,q,gO q⟩)))) q q q q q (dV.wanted .none) (O.aS .z4) .nil) (by kernel_rfl)<|ay 16 (O.cP .z5)<|ay 17 O.y2<|bC.gS 18 (bc.uT [0])<|bC.fin q q q (.n q .nil)) ?_;refine ax.bI<|W.bJ<|W.rd [[],[],[1],[1,2],[1,2,3],[1,2,3,4],[],[6],[6,7],[6,7,8],[6,7,8,9],aF 6 5 [],aF 1 11 [],aF 0 13 [],aF 0 14 [],aF 0 15 [],aF 0 16 []] [(0,_)] eJ (by kernel_rfl) (ay 0 (O.aS .z4)<|ay 1 (O.aS .z4)<|ay 2 (O.cP .z5)<|ay 3 O.y2<|ay 4 O.y2<|ay 5 O.cV<|ay 6 (O.aS .z4)<|ay 7 (O.cP .z5)<|ay 8 O.y2<|ay 9 (O.cJ (y:=.a6 ai.z ⟨0,[14]⟩ bl.length))<|ay 10 (O.lu .c6 fX)<|ay 11 (O.sub .a_ .ch)<|ay 12 (O.F4 .a_ .a_)<|ay 13 (O.cP .z5)<|ay 14 O.y2<|ay 15 O.y2<|bC.gS 16 (bc.l1 [0])<|bC.fin q q q (.n q .nil)) ?_;refine ax.bI<|W.bK [0,8] ?_;exact W.rt<|aV h ▸ ax.fin (Fin.ro (.f q q .nil) q (pW (by kernel_rfl)) (.al q q (.no (.no (.no .nil)))) q (.inr q))
instance ad4 {a0:dz}{av:Int}{a2:Int}{a3:Node}{r:Bool × dz}:bw prog 76 (uF a0 av a2 a3=some r) [.obj (ic.cells a0),ae av,ae a2,.agg (dn.cells a3)] [some (.obj (kW r.2)),none,none,none] (bg r.1):=⟨Ux a0 av a2 a3 _⟩
theorem Uy (a0:dz) (av:Int) (r:Node) (h:uG a0 av=some r):bO prog 77 [.cw ((wV a0)),ae av] [none,none] (.agg (dn.cells r)):=by
 unfold uG at h;refine bO.go (N:=⟨12,[]⟩) func77 q q q q (W.fin ?_);refine W.st [(0,.cw ((Vb.cells a0))),(1,ae av)] ?_;refine W.ck [0,1,4] (ak (O.dv (cs:=[ae 0,ae 0,ae 0,.aQ]) Hf q q)<|bH q) ?_;refine W.ck [4] (cK q<|ak (O.aS .my)<|ak (O.Dd .my)<|ak O.rR<|ak O.rR<|ak (O.iZ (x:=ae a0.bb.At))<|ak (O.dS (cs:=[ae av,ae (-1),ae a0.bb.At,.aQ]) QZ Hf q q q)<|aE.dE (bc.ff [4])<|bH q) ?_;refine W.dL (G1:=[(4,.obj [ae av,ae (-1),ae a0.bb.At,aj dn ([]:List Node)])]) [4] (.z q q (fG.obj (.f (.f (.f (.z .nil))))) .nil) ?_;exact W.rt<|aV h ▸ jz (.c (ys0:=[ae av,ae (-1),ae a0.bb.At,aj dn ([]:List Node)]) q u7 q q q (.f q (.f q (.f q (.f q .nil)))) .nil)
instance ad5 {a0:dz}{av:Int}{r:Node}:bw prog 77 (uG a0 av=some r) [.cw ((wV a0)),ae av] [none,none] (.agg (dn.cells r)):=⟨Uy a0 av _⟩
instance acy {a0:Tables}{av:Int}{a2:Int}{r:Int}:bw prog 102 (Ao a0 av a2=some r) [.agg (iG.cells a0),ae av,ae a2] [none,none,none] (ae r):=⟨λh=>by unfold Ao at h; exact bO.bo (N:=⟨33,[]⟩) [1,2,3,6,7,8,17,27] (.b .e (.eK 4 [2,3,27] (λ(c4:Bool)=>[(27,bg c4)]) .e)) func102 rfl rfl rfl rfl rfl du⟩
theorem Uz (a0:dz) (av:Int) (r:dz) (h:AN a0 av=some r):bO prog 78 [.obj (ic.cells a0),ae av] [some (.obj (kW r)),none] (.bS []):=by
 unfold AN at h;refine bO.go (N:=⟨76,[0]⟩) func78 q q q q (W.fin ?_);refine W.st [(0,.obj (ic.cells a0)),(1,ae av)] ?_;refine W.bJ<|aU h λaR gE h=>aU h λx2 gF h=>W.rd [[],[0],[0,1],[0,1,2],[0,1,2,3],[],aF 0 6 [],aF 0 7 [],[],[8],[8,9],[8,9,10],[8,9,10,11],[],aF 8 6 [],aF 8 7 [],aF 0 8 [],aF 0 17 []] [(0,_),(1,_),(4,_),(5,_)] eJ (by kernel_rfl) (ay 0 (O.aS .z4)<|ay 1 (O.cP .z5)<|ay 2 O.y2<|ay 3 O.y2<|ay 4 (O.cJ (y:=aj ai a0.b0.kv))<|ay 5 (O.aS (.lit q))<|ay 6 (O.gY gE)<|ay 7 (O.iZ (x:=ae aR))<|ay 8 (O.aS .z4)<|ay 9 (O.cP .z5)<|ay 10 O.y2<|ay 11 O.y2<|ay 12 (O.cJ (y:=aj ai a0.b0.Left))<|ay 13 (O.aS (.lit q))<|ay 14 (O.gY gF)<|ay 15 (O.iZ (x:=ae x2))<|ay 16 (O.az (.lit q))<|ay 17 (O.az (.lit q))<|bC.fin q q q (p0 q q q q)) ?_;refine ax.bI<|W.bJ<|aU h λa7 hb h=>aU h λbl nB h=>W.rd [[],[0],[],[],[3],[3,4],[3,4,5],[],[7],[7,8],[7,8,9],[7,8,9,10],[],aF 7 6 [],aF 3 11 [],aF 3 12 [],aF 0 16 [],[],aF 0 18 []] [(0,_),(1,_),(4,_),(5,_),(6,_)] eJ (by kernel_rfl) (ay 0 (O.aS (.lit q))<|ay 1 (O.add .ch .a_)<|ay 2 (O.aS (.lit q))<|ay 3 (O.aS .z4)<|ay 4 (O.cP .z5)<|ay 5 O.y2<|ay 6 (O.cJ (y:=.a6 dn.z ⟨0,[15]⟩ a0.fc.length))<|ay 7 (O.aS .z4)<|ay 8 (O.cP .z5)<|ay 9 O.y2<|ay 10 (O.cJ (y:=.a6 dn.z ⟨0,[15]⟩ a0.fc.length))<|ay 11 (O.lu .c6 sH)<|ay 12 (O.aS (.lit q))<|ay 13 (O.sub .a_ .a_)<|ay 14 (O.Lz (en:=dn) (L:=a0.fc) .c6 .a_ q sH hb)<|jb 15 (cd.TZ (e:=dn) (L:=a0.fc) (m:=((aG ((a0.fc.length:Int) - aR)).toNat)) (p:=⟨0,[15]⟩) (λw ad n c news h1 af aD bm=>T1 w ad n c news h1 af aD bm) (λw n c=>T0 w n c) (.sub q) q (xH hb) (SK λ_=>q) nB call101 q)<|ay 16 (O.dS (cs:=[ae (aG (1000+x2)),ae av,ae (-1),.a6 dn.z ⟨38,[]⟩ bl.length]) QZ Hf q q q)<|ay 17 (O.dv (cs:=[ae 0,ae 0,ae 0,.aQ]) Hf q q)<|bC.gS 18 (G2:=[(0,.obj (ic.cells a0)),(1,ae av),(4,ae aR),(5,ae x2),(6,.obj [ae (aG (1000+x2)),ae av,ae (-1),aj dn bl])]) (bc.tr (y':=.agg [ae (aG (1000+x2)),ae av,ae (-1),aj dn bl]) (cs2:=[ae (aG (1000+x2)),ae av,ae (-1),aj dn bl]) q q (.obj q) (.dm q q) (.nP (.f (.f (.f (.r q .nil)))) .nil) (fG.agg (.f (.f (.f (.z .nil))))) q aa9 q q q q q (.n q q (.n q q (.n q q (.n q q (.b q .nil))))))<|bC.fin q q q (l4 q q q q q)) ?_;refine ax.bI<|W.bJ<|aU h λbW mO h=>aU h λbz kp h=>aU h λbq jK h=>W.rd [[],[],[1],[1,2],[1,2,3],[],[5],[5,6],[5,6,7],[],[9],[9,10],[9,10,11],[9,10,11,12],aF 9 5 [],[],aF 9 7 [],aF 5 12 [],aF 5 13 [],[],aF 1 19 [],[],[],aF 0 23 []] [(0,_),(1,_),(63,_)] eJ (by kernel_rfl) (ay 0 (O.aS .z4)<|ay 1 (O.aS .z4)<|ay 2 (O.cP .z5)<|ay 3 O.y2<|ay 4 (O.dJ (cs':=iG.cells a0.b0) q .z5 q8 q q)<|ay 5 (O.aS .z4)<|ay 6 (O.cP .z5)<|ay 7 O.y2<|ay 8 (O.cJ (y:=.a6 ai.z ⟨0,[14]⟩ a0.dt.length))<|ay 9 (O.aS .z4)<|ay 10 (O.cP .z5)<|ay 11 O.y2<|ay 12 (O.cJ (y:=.a6 ai.z ⟨0,[14]⟩ a0.dt.length))<|ay 13 (O.lu .c6 fX)<|ay 14 (O.sub .a_ .ch)<|ay 15 (O.aS (.lit q))<|ay 16 (O.sub .a_ .a_)<|ay 17 (O.gH (en:=ai) q .c6 .a_ fX mO q)<|ay 18 (O.jM (en:=ai) (x':=ae bW) q .z5 qg mO q q)<|ay 19 (O.aS (.lit q))<|jb 20 (cd.dY (.b8 (.dm q q) (.b8 (.lit q) (.b8 (.lit q) .nil))) (bw.go kp))<|ay 21 (O.aS (.lit q))<|ay 22 (O.dJ (cs':=[ae (aG (1000+x2)),ae av,ae (-1),aj dn bl]) q .z4 u7 q q)<|bC.gS 23 (fO.jN (ks:=[1]) (bw.go jK) q q q q (.b q (.n q (.n q (.n q .nil)))))<|bC.fin q q q (og q q q)) ?_;refine ax.bI<|aU h λdZ ag h=>W.eI [0] [(0,.obj ((kW bq.2).set 21 (aC ai dZ)))] ?_ ?_
 ·clear h; have h:=ag; clear ag;refine W.bZ h q (λnX h=>?_) (λnX h=>?_)
  ·refine aU h λb5 qw h=>W.bY [0] (ak (O.aS .z4)<|ak (O.aS .z4)<|ak (O.cP .z5)<|ak O.y2<|ak O.y2<|ak (O.cJ (y:=.a6 ai.z ⟨0,[21]⟩ bq.2.bb.bx.length))<|cK q<|aE.e4 (x:=aj ai [av]) (O.c8 (ys:=[ae av]) ai [av] fX q q q q q q lb q q) q q .none<|ak (O.ap (en:=ai) (r:=b5) .c6 q .z2 .i ox q qw)<|ak (O.cP .z5)<|ak O.y2<|ak O.y2<|aE.dE (bc.sp [0])<|bH q) ?_;exact aV h ▸ ax.dg
  ·exact W.cM<|aV h ▸ ax.dg
 exact aV h ▸ ax.fin (Fin.ro .nil q (pW (by kernel_rfl)) (.al q q (.no .nil)) q (.inl q))
instance ad6 {a0:dz}{av:Int}{r:dz}:bw prog 78 (AN a0 av=some r) [.obj (ic.cells a0),ae av] [some (.obj (kW r)),none] (.bS []):=⟨Uz a0 av _⟩
instance acz {a0:dz}{r:dz}:bw prog 103 (Dl a0=some r) [.obj (ic.cells a0)] [some (.obj (kW r))] (.bS []):=⟨λh=>by unfold Dl at h; exact bO.bo (N:=⟨42,[0]⟩) [0,4,16] (.dB [0] (λ(xJ:dz)=>[(0,.obj (ic.cells xJ))]) (.b .e (.dB [0] (λ(iy:Int × List Int)=>[(19000,ae iy.1),(24000,aC ai iy.2)]) (.b (.rd 3 [[],[],[1],[1,2],[1,2,3],[1,2,3,4],[],[6],[6,7],[6,7,8],[6,7,8,9],aF 6 5 [],aF 1 11 [],aF 0 13 [],aF 0 14 [],aF 0 15 [],aF 0 16 []] .e) .e) .e)) .e) func103 rfl rfl rfl rfl rfl du⟩
theorem UA (a0:dz) (r:dz) (h:AO a0=some r):bO prog 79 [.obj (ic.cells a0)] [some (.obj (kW r))] (.bS []):=by
 unfold AO at h;refine bO.go (N:=⟨85,[0]⟩) func79 q q q q (W.fin ?_);refine W.st [(0,.obj (ic.cells a0))] ?_;refine W.bJ<|W.bK [0,8] ?_;refine W.bZ h q (λgM h=>?_) (λgM h=>?_)
 ·refine aU h λx2 gF h=>W.ck [0] (ak (O.aS .z4)<|aE.ji q (fO.jN (ks:=[]) (bw.go gF) q q q q (.b q .nil))<|bH q) ?_;exact W.rt<|ax.gy<|aV h ▸ ax.fin (Fin.ro .nil q (pW (by kernel_rfl)) (.al q q .nil) q (.inr q))
 ·refine W.cM<|ax.bI<|W.bJ<|aU h λa7 hb h=>W.rd [[],[],[1],[1,2],[1,2,3],[1,2,3,4],[],[6],[6,7],[6,7,8],[6,7,8,9],[],[11],[11,12],[11,12,13],[11,12,13,14],aF 6 10 [],aF 6 11 [],aF 1 17 [],aF 0 19 [],aF 0 20 [],aF 0 21 [],aF 0 22 []] [(0,_)] eJ (by kernel_rfl) (ay 0 (O.aS .z4)<|ay 1 (O.aS .z4)<|ay 2 (O.cP .z5)<|ay 3 O.y2<|ay 4 O.y2<|ay 5 (O.cJ (y:=.a6 jF.z ⟨0,[22]⟩ a0.bb.eC.length))<|ay 6 (O.aS .z4)<|ay 7 (O.cP .z5)<|ay 8 O.y2<|ay 9 O.y2<|ay 10 O.cV<|ay 11 (O.aS .z4)<|ay 12 (O.cP .z5)<|ay 13 O.y2<|ay 14 O.cV<|ay 15 (O.eql .a_ .ch)<|ay 16 (O.dS (cs:=[ae a0.bb.At,bg (decide (a0.h5=0))]) aay ab4 q q q)<|bC.e4 17 (x:=aj jF [(⟨a0.bb.At,decide (a0.h5=0)⟩:qb)]) (O.c8 (ys:=[.agg [ae a0.bb.At,bg (decide (a0.h5=0))]]) jF [(⟨a0.bb.At,decide (a0.h5=0)⟩:qb)] Ly q q q q q q ab' q q) q q q q .none<|ay 18 (O.ap (en:=jF) (r:=a7) .c6 q .z2 .i SU q hb)<|ay 19 (O.cP .z5)<|ay 20 O.y2<|ay 21 O.y2<|bC.gS 22 (bc.sp [0])<|bC.fin q q q (.n q .nil)) ?_;refine ax.bI<|W.ck [0] (ak (O.aS .z4)<|ak (O.cP .z5)<|ak O.y2<|aE.dE (bc.l1 [0])<|bH q) ?_;refine aU h λbl nB h=>W.ck [0,2] (ak (O.aS .z4)<|e0 (cd.mu (ys:=[.ptr ⟨0,[]⟩ 0,ae 1]) q (.c (View.kI q q) (.s .nil)) (bw.go nB))<|ak (O.dv (cs:=[ae 0,ae 0]) sO q q)<|aE.dE (bc.ff [0,2])<|bH q) ?_;refine W.bJ<|W.ca<|aU h λbz ah h=>W.fV ((⟨a0.b0,a0.iQ,a0.jj,a0.jk,a0.dt,a0.fc,3,(⟨a0.bb.Kind,a0.bb.At,a0.bb.Steps,a0.bb.Deep,a0.bb.bx,a0.bb.eC++[(⟨a0.bb.At,decide (a0.h5=0)⟩:qb)],a0.bb.fp,a0.bb.Tree⟩:eZ)⟩:dz),bl.Kind,bl.N) (λ(b2:dz × Int × Int)=>[(0,.obj (ic.cells b2.1)),(2,.obj [ae b2.2.1,ae b2.2.2])]) [0,2] 0 (λ(bq:dz × Int × Int)=>[(0,.obj (ic.cells bq.1)),(2,.obj [ae bq.2.1,ae bq.2.2])]) [0,2] (λ(bE:dz)=>[(0,.obj (ic.cells bE))]) [0] ah (λb2 o h=>?_) (λbq J=>?_) (λbE J=>?_)
  ·clear ah;refine W.bJ<|W.bK [0,2,40] ?_;refine W.bZ h q (λnX h=>?_) (λnX h=>?_)
   ·refine W.cM<|ax.bI<|W.bJ<|W.ca<|W.bK [0,2,3] ?_;refine W.bJ<|W.bK [0,2,3,50] ?_;refine W.bZ h q (λie h=>?_) (λie h=>?_)
    ·refine W.ck [0] (ak (O.aS .z4)<|ak (O.cP .z5)<|ak O.y2<|ak O.y2<|aE.dE (bc.l1 [0])<|bH q) ?_;exact W.rt<|ax.gy<|ax.lH<|ax.gy<|aV h ▸ ax.hE (.n q .nil)
    ·refine W.cM<|ax.bI<|W.bJ<|aU h λa1 jJ h=>W.ck [0,2,3,59] (ak (O.aS .z4)<|cK q<|ak (O.sub .a_ .ch)<|aE.ji q (fO.jN (ks:=[2,3]) (bw.go jJ) q q q q (.b q (.n q .nil)))<|aE.bo) ?_;refine W.bZ h q (λmb h=>?_) (λmb h=>?_)
     ·exact W.rt<|ax.gy<|ax.lH<|ax.gy<|aV h ▸ ax.hE (.n q .nil)
     ·refine W.cM<|ax.bI<|aU h λct qy h=>aU h λed oL h=>W.rd [[],[],[],[2],[2,3],[2,3,4],[],aF 2 5 [],[],[8],[8,9],[8,9,10],[],[12],aF 8 6 [],(0::aF 2 10 []),(0::aF 2 10 [15]),(0::aF 2 10 [15,16]),aF 0 18 [],aF 0 19 [],aF 0 20 []] [(0,_),(2,_)] eJ (by kernel_rfl) (ay 0 (O.aS .z4)<|ay 1 (O.aS .z4)<|ay 2 (O.aS .z4)<|ay 3 (O.cP .z5)<|ay 4 O.y2<|ay 5 (O.cJ (y:=.a6 ai.z ⟨0,[14]⟩ a1.2.dt.length))<|ay 6 (O.aS (.lit q))<|ay 7 (O.D' (en:=ai) (L:=a1.2.dt) .c6 .a_ q fX qy)<|ay 8 (O.aS .z4)<|ay 9 (O.cP .z5)<|ay 10 O.y2<|ay 11 (O.cJ (y:=.a6 dn.z ⟨0,[15]⟩ a1.2.fc.length))<|ay 12 (O.aS (.lit q))<|ay 13 (O.sub .a_ .ch)<|ay 14 (O.D' (en:=dn) (L:=a1.2.fc) .c6 .a_ q sH oL)<|ay 15 (O.cP .z5)<|ay 16 O.y2<|bC.MW 17 (G2:=(71,.a6 dn.z ⟨0,[15]⟩ a1.2.fc.length)::[(0,.obj ((kW a1.2).set 14 (aC ai (a1.2.dt.take ((aG ((b2.1.dt.length:Int) - 1)).toNat))))),(2,.obj [ae b2.2.1,ae b2.2.2]),(3,ae (aG ((b2.1.dt.length:Int) - 1)))]) (U:=[(14,74,some (.a6 dn.z ⟨0,[15]⟩ ((aG ((aG ((b2.1.dt.length:Int) - 1)) - 1)).toNat))),(13,73,some (ae (aG ((aG ((b2.1.dt.length:Int) - 1)) - 1)))),(12,72,some (ae (aG ((b2.1.dt.length:Int) - 1)))),(1,61,some (.ptr ⟨0,[]⟩ 0))]) (ps:=[⟨0,[15]⟩]) (nf.back (t:=71) (x:=.a6 dn.z ⟨0,[15]⟩ a1.2.fc.length) (G5:=[(0,.obj ((kW a1.2).set 14 (aC ai (a1.2.dt.take ((aG ((b2.1.dt.length:Int) - 1)).toNat))))),(2,.obj [ae b2.2.1,ae b2.2.2]),(3,ae (aG ((b2.1.dt.length:Int) - 1)))]) (ht.cell (r:=0) (k0:=15) (y:=aC dn a1.2.fc) (g5:=get [(0,.obj ((kW a1.2).set 14 (aC ai (a1.2.dt.take ((aG ((b2.1.dt.length:Int) - 1)).toNat))))),(2,.obj [ae b2.2.1,ae b2.2.2]),(3,ae (aG ((b2.1.dt.length:Int) - 1)))]) q q b6.bk (λv _=>⟨get [(0,.obj ((kW a1.2).set 15 (.lit v))),(2,.obj [ae b2.2.1,ae b2.2.2]),(3,ae (aG ((b2.1.dt.length:Int) - 1))),(67,.a6 ai.z ⟨0,[14]⟩ ((aG ((b2.1.dt.length:Int) - 1)).toNat)),(76,.ptr ⟨0,[]⟩ 14)],get [(0,.obj [aj ai a1.2.b0.Def,aj ai a1.2.b0.cz.cX,aj ai a1.2.b0.cz.cb,aj ai a1.2.b0.cz.b_,aj ai a1.2.b0.jw,aj ai a1.2.b0.ej.cX,aj ai a1.2.b0.ej.cb,aj ai a1.2.b0.ej.b_,aj ai a1.2.b0.Left,aj ai a1.2.b0.kv,aj cq a1.2.b0.je,aC ai a1.2.iQ,ae a1.2.jj,ae a1.2.jk,aC ai (a1.2.dt.take ((aG ((b2.1.dt.length:Int) - 1)).toNat)),.lit v,ae a1.2.h5,ae a1.2.bb.Kind,ae a1.2.bb.At,ae a1.2.bb.Steps,ae a1.2.bb.Deep,aC ai a1.2.bb.bx,aC jF a1.2.bb.eC,aC ai a1.2.bb.fp,ae a1.2.bb.Tree.Sym,ae a1.2.bb.Tree.Prod,ae a1.2.bb.Tree.At,hW 4 a1.2.bb.Tree.Kids]),(2,.obj [ae b2.2.1,ae b2.2.2]),(3,ae (aG ((b2.1.dt.length:Int) - 1)))],Trim.keep (.n q (.n q (.n q (.r q (cS.Tq (en:=ai) (L:=a1.2.dt) q (xH qy)) iz (.q q q q .nil))))),bc.iv (bc.Ru (en:=ai) (L:=a1.2.dt) (f:=14) (k:=((aG ((b2.1.dt.length:Int) - 1)).toNat)) (r:=0) (cs1:=[aj ai a1.2.b0.Def,aj ai a1.2.b0.cz.cX,aj ai a1.2.b0.cz.cb,aj ai a1.2.b0.cz.b_,aj ai a1.2.b0.jw,aj ai a1.2.b0.ej.cX,aj ai a1.2.b0.ej.cb,aj ai a1.2.b0.ej.b_,aj ai a1.2.b0.Left,aj ai a1.2.b0.kv,aj cq a1.2.b0.je,aC ai a1.2.iQ,ae a1.2.jj,ae a1.2.jk,.dead,.lit v,ae a1.2.h5,ae a1.2.bb.Kind,ae a1.2.bb.At,ae a1.2.bb.Steps,ae a1.2.bb.Deep,aC ai a1.2.bb.bx,aC jF a1.2.bb.eC,aC ai a1.2.bb.fp,ae a1.2.bb.Tree.Sym,ae a1.2.bb.Tree.Prod,ae a1.2.bb.Tree.At,hW 4 a1.2.bb.Tree.Kids]) (cs2:=[aj ai a1.2.b0.Def,aj ai a1.2.b0.cz.cX,aj ai a1.2.b0.cz.cb,aj ai a1.2.b0.cz.b_,aj ai a1.2.b0.jw,aj ai a1.2.b0.ej.cX,aj ai a1.2.b0.ej.cb,aj ai a1.2.b0.ej.b_,aj ai a1.2.b0.Left,aj ai a1.2.b0.kv,aj cq a1.2.b0.je,aC ai a1.2.iQ,ae a1.2.jj,ae a1.2.jk,aC ai (a1.2.dt.take ((aG ((b2.1.dt.length:Int) - 1)).toNat)),.lit v,ae a1.2.h5,ae a1.2.bb.Kind,ae a1.2.bb.At,ae a1.2.bb.Steps,ae a1.2.bb.Deep,aC ai a1.2.bb.bx,aC jF a1.2.bb.eC,aC ai a1.2.bb.fp,ae a1.2.bb.Tree.Sym,ae a1.2.bb.Tree.Prod,ae a1.2.bb.Tree.At,hW 4 a1.2.bb.Tree.Kids]) q q (.ptr q) (.a6 q) q q (xH qy) G0 q q q (.b q (.n q q (.n q q .nil)))),q,Trim.keep (og q q q)⟩)) (by intro p e; cases e with | head=>exact λh=>nomatch (show some _=none from h) | tail _ e=>cases e) q q (by simp) (.inl ⟨0,[15],_,_,_,_,q,by simp,q,q,Nat.le_refl _⟩)) q q (by kernel_rfl) q q q (.c (.inl ⟨0,[15],_,_,_,_,q,by simp,q,q,xH oL⟩) q q q q q (dV.wanted .none) (O.D' (en:=dn) (L:=a1.2.fc) .c6 .a_ q sH oL) (.c (.inr (.inl ⟨_,q⟩)) q q q q q (dV.wanted .none) (O.sub .a_ .ch) (.c (.inr (.inl ⟨_,q⟩)) q q q q q (dV.wanted .none) (O.aS (.lit q)) (.c (.inr (.inr (.inr (.inl ⟨0,_,_,q,q,gO q,by simp,_,q,gO q⟩)))) q q q q q (dV.wanted .none) (O.aS .z4) .nil)))) (by kernel_rfl)<|ay 18 (O.cP .z5)<|ay 19 O.y2<|bC.gS 20 (G2:=[(0,.obj [aj ai a1.2.b0.Def,aj ai a1.2.b0.cz.cX,aj ai a1.2.b0.cz.cb,aj ai a1.2.b0.cz.b_,aj ai a1.2.b0.jw,aj ai a1.2.b0.ej.cX,aj ai a1.2.b0.ej.cb,aj ai a1.2.b0.ej.b_,aj ai a1.2.b0.Left,aj ai a1.2.b0.kv,aj cq a1.2.b0.je,aC ai a1.2.iQ,ae a1.2.jj,ae a1.2.jk,aC ai (a1.2.dt.take ((aG ((b2.1.dt.length:Int) - 1)).toNat)),aC dn (a1.2.fc.take ((aG ((aG ((b2.1.dt.length:Int) - 1)) - 1)).toNat)),ae a1.2.h5,ae a1.2.bb.Kind,ae a1.2.bb.At,ae a1.2.bb.Steps,ae a1.2.bb.Deep,aC ai a1.2.bb.bx,aC jF a1.2.bb.eC,aC ai a1.2.bb.fp,ae a1.2.bb.Tree.Sym,ae a1.2.bb.Tree.Prod,ae a1.2.bb.Tree.At,hW 4 a1.2.bb.Tree.Kids]),(2,.obj [ae b2.2.1,ae b2.2.2])]) (bc.Ru (en:=dn) (L:=a1.2.fc) (f:=15) (k:=((aG ((aG ((b2.1.dt.length:Int) - 1)) - 1)).toNat)) (r:=0) (cs1:=[aj ai a1.2.b0.Def,aj ai a1.2.b0.cz.cX,aj ai a1.2.b0.cz.cb,aj ai a1.2.b0.cz.b_,aj ai a1.2.b0.jw,aj ai a1.2.b0.ej.cX,aj ai a1.2.b0.ej.cb,aj ai a1.2.b0.ej.b_,aj ai a1.2.b0.Left,aj ai a1.2.b0.kv,aj cq a1.2.b0.je,aC ai a1.2.iQ,ae a1.2.jj,ae a1.2.jk,aC ai (a1.2.dt.take ((aG ((b2.1.dt.length:Int) - 1)).toNat)),.dead,ae a1.2.h5,ae a1.2.bb.Kind,ae a1.2.bb.At,ae a1.2.bb.Steps,ae a1.2.bb.Deep,aC ai a1.2.bb.bx,aC jF a1.2.bb.eC,aC ai a1.2.bb.fp,ae a1.2.bb.Tree.Sym,ae a1.2.bb.Tree.Prod,ae a1.2.bb.Tree.At,hW 4 a1.2.bb.Tree.Kids]) (cs2:=[aj ai a1.2.b0.Def,aj ai a1.2.b0.cz.cX,aj ai a1.2.b0.cz.cb,aj ai a1.2.b0.cz.b_,aj ai a1.2.b0.jw,aj ai a1.2.b0.ej.cX,aj ai a1.2.b0.ej.cb,aj ai a1.2.b0.ej.b_,aj ai a1.2.b0.Left,aj ai a1.2.b0.kv,aj cq a1.2.b0.je,aC ai a1.2.iQ,ae a1.2.jj,ae a1.2.jk,aC ai (a1.2.dt.take ((aG ((b2.1.dt.length:Int) - 1)).toNat)),aC dn (a1.2.fc.take ((aG ((aG ((b2.1.dt.length:Int) - 1)) - 1)).toNat)),ae a1.2.h5,ae a1.2.bb.Kind,ae a1.2.bb.At,ae a1.2.bb.Steps,ae a1.2.bb.Deep,aC ai a1.2.bb.bx,aC jF a1.2.bb.eC,aC ai a1.2.bb.fp,ae a1.2.bb.Tree.Sym,ae a1.2.bb.Tree.Prod,ae a1.2.bb.Tree.At,hW 4 a1.2.bb.Tree.Kids]) q q (.ptr q) (.a6 q) q q (xH oL) aa8 q q q (.b q (.n q q .nil)))<|bC.fin q q q (l3 q q)) ?_;refine ax.ca<|ax.bI<|aU h λcF lS h=>W.bY [0,2] (ak (O.aS .z4)<|e0 (cd.mu (ys:=[.ptr ⟨0,[]⟩ 0,ae 1]) q (.c (View.kI q q) (.s .nil)) (bw.go lS))<|aE.dE (bc.ff [0,2])<|bH q) ?_;exact aV h ▸ ax.gt
   ·exact W.fm<|ax.fe<|aV h ▸ ax.x2 (l3 q q)
  ·subst J;refine ax.fr<|ax.bI<|aU h λdj mh h=>aU h λc3 lq h=>W.rd [[],[],[1],[],[3],aF 0 5 []] [(0,_)] eJ (by kernel_rfl) (ay 0 (O.aS .z4)<|ay 1 O.bB<|ay 2 O.cV<|ay 3 (O.aS .z4)<|jb 4 (cd.mu (ys:=[.ptr ⟨0,[]⟩ 0,ae 1]) (hr:=Qa mh) q (.c (View.kI q q) (.s .nil)) (bw.go mh))<|bC.gS 5 (G2:=[(84,bg c3.1),(0,.obj (ic.cells c3.2))]) (bc.call q q (kQ.jN (G2:=[]) (A:=[]) (ys:=[.ptr ⟨0,[]⟩ 0,ae bq.2.2,ae 0,.agg (dn.cells dj)]) (args:=[.obj (ic.cells bq.1),ae bq.2.2,ae 0,.agg (dn.cells dj)]) (cs':=ic.cells c3.2) (k0:=0) q q q q (.b q (.n q (.n q (.n q .nil)))) q (bw.go lq) call76 .nil q q .nil .nil q))<|bC.fin q q q (.n q .nil)) ?_;exact aV h ▸ ax.fin (Fin.ro .nil q (pW (by kernel_rfl)) (.al q q .nil) q (.inl q))
  ·subst J;exact ax.lH<|ax.gy<|aV h ▸ ax.fin (Fin.ro .nil q (pW (by kernel_rfl)) (.al q q .nil) q (.inr q))
instance ad7 {a0:dz}{r:dz}:bw prog 79 (AO a0=some r) [.obj (ic.cells a0)] [some (.obj (kW r))] (.bS []):=⟨UA a0 _⟩
theorem Us (a0:dz) (r:dz) (h:yf a0=some r):bO prog 44 [.obj (ic.cells a0)] [some (.obj (kW r))] (.bS []):=by
 unfold yf at h;refine bO.go (N:=⟨67,[0]⟩) func44 q q q q (W.fin ?_);refine W.st [(0,.obj (ic.cells a0))] ?_;refine aU h λaR gE h=>aU h λx2 gF h=>W.ck [0,2] (ak (O.aS .z4)<|ak (O.aS .z4)<|e0 (cd.mu (ys:=[.ptr ⟨0,[]⟩ 0]) q (.c (View.kI q q) .nil) (bw.go gE))<|e0 (cd.mu (ys:=[.ptr ⟨0,[]⟩ 0,ae aR]) q (.c (View.kI q q) (.s .nil)) (bw.go gF))<|ak (O.dv (cs:=[ae 0,ae 0]) sO q q)<|aE.dE (bc.ff [0,2])<|bH q) ?_;refine W.bK [0,2,8] ?_;refine aU h λhC ag h=>W.eI [0] [(0,.obj (ic.cells hC))] ?_ ?_
 ·clear h; have h:=ag; clear ag;refine W.ca<|W.bK [0,2,8,11] ?_;refine aU h λxM ag h=>W.eI [0] [(0,.obj (ic.cells xM))] ?_ ?_
  ·clear h; have h:=ag; clear ag;refine W.bZ h q (λqn h=>?_) (λqn h=>?_)
   ·refine W.bJ<|aU h λbz kp h=>aU h λbq jK h=>aU h λbE mP h=>W.rd [[],[],[1],[],[],[4],[3,4,5],aF 0 7 []] [(0,_),(20,_)] eJ (by kernel_rfl) (ay 0 (O.aS .z4)<|ay 1 O.bB<|ay 2 O.cV<|ay 3 (O.aS .z4)<|ay 4 (O.aS .z4)<|jb 5 (cd.mu (ys:=[.ptr ⟨0,[]⟩ 0]) q (.c (View.kI q q) .nil) (bw.go kp))<|jb 6 (cd.mu (ys:=[.ptr ⟨0,[]⟩ 0,ae bz]) (hr:=Qa jK) q (.c (View.kI q q) (.s .nil)) (bw.go jK))<|bC.gS 7 (G2:=[(20,bg bE.1),(0,.obj (ic.cells bE.2))]) (bc.call q q (kQ.jN (G2:=[]) (A:=[]) (ys:=[.ptr ⟨0,[]⟩ 0,ae x2.N,ae 0,.agg (dn.cells bq)]) (args:=[.obj (ic.cells a0),ae x2.N,ae 0,.agg (dn.cells bq)]) (cs':=ic.cells bE.2) (k0:=0) q q q q (.b q (.n q (.n q (.n q .nil)))) q (bw.go mP) call76 .nil q q .nil .nil q))<|bC.fin q q q (l3 q q)) ?_;refine ax.bI<|aU h λmR ag h=>W.eI [0] [(0,.obj [aj ai bE.2.b0.Def,aj ai bE.2.b0.cz.cX,aj ai bE.2.b0.cz.cb,aj ai bE.2.b0.cz.b_,aj ai bE.2.b0.jw,aj ai bE.2.b0.ej.cX,aj ai bE.2.b0.ej.cb,aj ai bE.2.b0.ej.b_,aj ai bE.2.b0.Left,aj ai bE.2.b0.kv,aj cq bE.2.b0.je,aC ai bE.2.iQ,ae bE.2.jj,ae bE.2.jk,aC ai bE.2.dt,aC dn bE.2.fc,ae mR.1,ae bE.2.bb.Kind,ae mR.2,ae bE.2.bb.Steps,ae bE.2.bb.Deep,aC ai bE.2.bb.bx,aC jF bE.2.bb.eC,aC ai bE.2.bb.fp,ae bE.2.bb.Tree.Sym,ae bE.2.bb.Tree.Prod,ae bE.2.bb.Tree.At,hW 4 bE.2.bb.Tree.Kids])] ?_ ?_
    ·clear h; have h:=ag; clear ag;refine W.bZ h q (λie h=>?_) (λie h=>?_)
     ·refine W.ck [0] (ak (O.aS .z4)<|ak (O.cP .z5)<|ak O.y2<|ak O.y2<|ak O.cV<|ak (O.add .a_ .ch)<|ak (O.cP .z5)<|ak O.y2<|ak O.y2<|aE.dE (bc.l1 [0])<|bH q) ?_;refine W.bY [0] (ak (O.aS .z4)<|ak (O.aS .z4)<|ak (O.cP .z5)<|ak O.y2<|ak O.cV<|ak (O.sub .a_ .ch)<|ak (O.F4 .a_ .ch)<|ak (O.cP .z5)<|ak O.y2<|aE.dE (bc.l1 [0])<|bH q) ?_;exact aV h ▸ ax.dg
     ·exact W.cM<|aV h ▸ ax.dg
    exact aV h ▸ ax.dg
   ·refine W.bK [0,2,8,39] ?_;refine aU h λiW ag h=>W.eI [0] [(0,.obj (ic.cells iW))] ?_ ?_
    ·clear h; have h:=ag; clear ag;refine W.bZ h q (λmb h=>?_) (λmb h=>?_)
     ·refine aU h λct qy h=>W.bY [0] (ak (O.aS .z4)<|ak O.bB<|ak O.cV<|aE.ji q (fO.jN (ks:=[]) (bw.go qy) q q q q (.b q (.n q .nil)))<|bH q) ?_;exact aV h ▸ ax.dg
     ·refine W.bK [0,45] ?_;refine aU h λfU ag h=>W.eI [0] [(0,.obj (ic.cells fU))] ?_ ?_
      ·clear h; have h:=ag; clear ag;refine W.bZ h q (λnv h=>?_) (λnv h=>?_)
       ·refine aU h λdj mh h=>W.rd [[],[],[],[2],[2,3],[2,3,4],[],[6],[6,7],[6,7,8],[6,7,8,9],aF 6 5 [],aF 2 10 [],aF 2 11 [],(0::aF 2 12 []),(0::aF 2 13 []),(0::aF 2 14 []),(0::aF 2 15 []),aF 0 18 [],aF 0 19 [],aF 0 20 [],aF 0 21 []] [(0,_)] eJ (by kernel_rfl) (ay 0 (O.aS .z4)<|ay 1 (O.aS .z4)<|ay 2 (O.aS .z4)<|ay 3 (O.cP .z5)<|ay 4 O.y2<|ay 5 (O.cJ (y:=.a6 dn.z ⟨0,[15]⟩ a0.fc.length))<|ay 6 (O.aS .z4)<|ay 7 (O.cP .z5)<|ay 8 O.y2<|ay 9 (O.cJ (y:=.a6 dn.z ⟨0,[15]⟩ a0.fc.length))<|ay 10 (O.lu .c6 sH)<|ay 11 (O.sub .a_ .ch)<|ay 12 (O.gH (en:=dn) q .c6 .a_ sH mh q)<|ay 13 (O.YW (en:=dn) (cs':=dn.cells dj) q .z5 u7 mh q q)<|ay 14 (O.cP .z5)<|ay 15 O.y2<|ay 16 O.y2<|bC.dS 17 (G2:=[(0,.obj ((kW a0).set 17 (ae 1))),(60,.agg (dn.cells dj))]) (U:=[(1,48,some (.ptr ⟨0,[]⟩ 0))]) (ht.v (bc.iv (bc.j_ (G2:=[(0,.obj ((kW a0).set 17 (ae 1))),(60,.agg (dn.cells dj))]) (cs2:=((kW a0).set 17 (ae 1))) q q q (.ptr q) (.k q) q tt q q q q (.b q (.n q q .nil))))) q q (by kernel_rfl) q q q (.c (.inr (.inr (.inr (.inl ⟨0,_,_,q,q,gO q,by simp,_,q,gO q⟩)))) q q q q q (dV.wanted .none) (O.aS .z4) .nil) (by kernel_rfl)<|ay 18 (O.cP .z5)<|ay 19 O.y2<|ay 20 O.y2<|bC.gS 21 (bc.ff [0])<|bC.fin q q q (.n q .nil)) ?_;exact aV h ▸ ax.dg
       ·refine aU h λc3 lq h=>W.bY [0] (ak (O.aS .z4)<|aE.ji q (fO.jN (ks:=[]) (bw.go lq) q q q q (.b q .nil))<|bH q) ?_;exact aV h ▸ ax.dg
      exact aV h ▸ ax.dg
    exact aV h ▸ ax.dg
  exact ax.ca<|aV h ▸ ax.dg
 exact aV h ▸ ax.fin (Fin.ro .nil q (pW (by kernel_rfl)) (.al q q .nil) q (.inl q))
instance adK {a0:dz}{r:dz}:bw prog 44 (yf a0=some r) [.obj (ic.cells a0)] [some (.obj (kW r))] (.bS []):=⟨Us a0 _⟩
theorem Uh (a0:Tables) (av:(List Int)) (a2:Int) (a3:Int) (r:eZ) (h:ti a0 av a2 a3=some r):bO prog 16 [.agg (iG.cells a0),aj ai av,ae a2,ae a3] [none,none,none,none] (.agg (j1.cells r)):=by
 unfold ti at h;refine bO.go (N:=⟨62,[]⟩) func16 q q q q (W.fin ?_);refine W.st [(0,.agg (iG.cells a0)),(1,aj ai av),(2,ae a2),(3,ae a3)] ?_;refine W.ck [1,2,3,4,8] (ak (O.box (.dm q q) q)<|ak (O.dv (cs:=[ae 0,ae 0,ae 0,ae 0,.aQ,.aQ,.aQ,ae 0,ae 0,ae 0,.aQ]) Et q q)<|bH q) ?_;refine W.ck [1,2,3,4,8,9] (ak (O.dJ (cs':=iG.cells a0) q .z4 q8 q q)<|ak (O.va (ys:=[ae 0]) (cs:=[ae 0]) fX q q q q q lb q q)<|ak (O.dS (cs:=[aj ai a0.Def,aj ai a0.cz.cX,aj ai a0.cz.cb,aj ai a0.cz.b_,aj ai a0.jw,aj ai a0.ej.cX,aj ai a0.ej.cb,aj ai a0.ej.b_,aj ai a0.Left,aj ai a0.kv,aj cq a0.je,.aQ,ae 0,ae 0,.a6 1 ⟨13,[]⟩ 1,.aQ,ae 0,ae 0,ae 0,ae 0,ae 0,.aQ,.aQ,.aQ,ae 0,ae 0,ae 0,.aQ]) aat abZ q q q)<|ak (O.box (.dm q q) q)<|aE.q_ (G2:=[(1,aj ai av),(2,ae a2),(3,ae a3),(4,.obj (iG.cells a0)),(8,.obj [ae 0,ae 0,ae 0,ae 0,.aQ,.aQ,.aQ,ae 0,ae 0,ae 0,.aQ])]) q (bc.Bm (y':=.obj [aj ai a0.Def,aj ai a0.cz.cX,aj ai a0.cz.cb,aj ai a0.cz.b_,aj ai a0.jw,aj ai a0.ej.cX,aj ai a0.ej.cb,aj ai a0.ej.b_,aj ai a0.Left,aj ai a0.kv,aj cq a0.je,.aQ,ae 0,ae 0,aC ai [0],.aQ,ae 0,ae 0,ae 0,ae 0,ae 0,.aQ,.aQ,.aQ,ae 0,ae 0,ae 0,.aQ]) q q (.obj q) (.b q (.f (.f (.f (.f (.f (.f (.f (.f (.f (.f (.f (.f (.f (.f (.l q q (.f .nil) (.f (.f (.f (.f (.f (.f (.f (.f (.f (.f (.f (.f (.f .nil)))))))))))))))))))))))))))) .nil) .refl (l4 q q q q q) q q)<|bH q) ?_;refine W.ck [1,4,8,9] (ak (O.aS .z4)<|ak (O.aS .z4)<|cK q<|ak (O.F4 .a_ .ch)<|ak (O.PM .a_ .ch)<|cK q<|ak (O.F4 .a_ .ch)<|ak (O.PM .a_ .ch)<|ak (O.cP .z5)<|ak O.y2<|aE.j_ (G2:=[(1,_),(4,_),(8,_),(9,_),(17,.ptr ⟨9,[]⟩ 0),(23,_)]) (cs2:=[aj ai a0.Def,aj ai a0.cz.cX,aj ai a0.cz.cb,aj ai a0.cz.b_,aj ai a0.jw,aj ai a0.ej.cX,aj ai a0.ej.cb,aj ai a0.ej.b_,aj ai a0.Left,aj ai a0.kv,aj cq a0.je,.aQ,ae (min (max a2 0) 100000),ae 0,aC ai [0],.aQ,ae 0,ae 0,ae 0,ae 0,ae 0,.aQ,.aQ,.aQ,ae 0,ae 0,ae 0,.aQ]) q (.ptr q) (.lit q) q tt q q q q (.n q q (.n q q (.n q q (.b q (.p q q q q q q (.n q q .nil))))))<|ak (O.cP .z5)<|ak O.y2<|aE.dE (bc.l1 [1,4,8,9])<|bH q) ?_;refine W.bJ<|W.ck [4,8,9,28,29,30] (ak (O.aS .z2)<|ak O.la<|ak (O.aS .ch)<|bH q) ?_;refine aU h λlr ag h=>W.eI [8,9] [(9,.obj [aj ai a0.Def,aj ai a0.cz.cX,aj ai a0.cz.cb,aj ai a0.cz.b_,aj ai a0.jw,aj ai a0.ej.cX,aj ai a0.ej.cb,aj ai a0.ej.b_,aj ai a0.Left,aj ai a0.kv,aj cq a0.je,aC ai lr,ae (min (max a2 0) 100000),ae (min (max a3 0) 1000000),aC ai [0],.aQ,ae 0,ae 0,ae 0,ae 0,ae 0,.aQ,.aQ,.aQ,ae 0,ae 0,ae 0,.aQ])] ?_ ?_
 ·clear h; have h:=ag; clear ag;refine W.ca<|aU h λa7 ah h=>W.gi (([]:List Int),0) (λ(s2:List Int × Int)=>[(9,.obj [aj ai a0.Def,aj ai a0.cz.cX,aj ai a0.cz.cb,aj ai a0.cz.b_,aj ai a0.jw,aj ai a0.ej.cX,aj ai a0.ej.cb,aj ai a0.ej.b_,aj ai a0.Left,aj ai a0.kv,aj cq a0.je,aC ai s2.1,ae (min (max a2 0) 100000),ae (min (max a3 0) 1000000),aC ai [0],.aQ,ae 0,ae 0,ae 0,ae 0,ae 0,.aQ,.aQ,.aQ,ae 0,ae 0,ae 0,.aQ]),(30,ae s2.2)]) [4,8,9,28,29,30] 0 (λ(a7:List Int)=>[(9,.obj [aj ai a0.Def,aj ai a0.cz.cX,aj ai a0.cz.cb,aj ai a0.cz.b_,aj ai a0.jw,aj ai a0.ej.cX,aj ai a0.ej.cb,aj ai a0.ej.b_,aj ai a0.Left,aj ai a0.kv,aj cq a0.je,aC ai a7,ae (min (max a2 0) 100000),ae (min (max a3 0) 1000000),aC ai [0],.aQ,ae 0,ae 0,ae 0,ae 0,ae 0,.aQ,.aQ,.aQ,ae 0,ae 0,ae 0,.aQ])]) [8,9] ah (λs2 o h=>?_) ?_
  ·clear ah;refine W.bK [4,8,9,28,29,30,31] ?_;refine W.bJ<|W.bZ h q (λqn h=>?_) (λqn h=>?_)
   ·refine W.cM<|ax.bI<|W.bJ<|W.ca<|aU h λbz kp h=>W.bK [4,8,9,11,28,29,30] ?_;refine W.bJ<|W.bK [4,8,9,11,28,29,30,35] ?_;refine W.bZ h q (λub h=>?_) (λub h=>?_)
    ·refine W.fm<|ax.fe<|ax.E0 q ?_;exact ax.fe<|aV h ▸ ax.t1
    ·refine W.cM<|ax.bI<|aU h λbE mP h=>aU h λcm nC h=>W.rd [[],[],[1],[1,2],[1,2,3],[],[5],[],[5,6,7],[5,6,7,8],aF 1 9 [],aF 0 11 [],aF 0 12 [],aF 0 13 []] [(4,_),(8,_),(9,_),(28,_),(29,_),(30,_)] eJ (by kernel_rfl) (ay 0 (O.aS .z4)<|ay 1 (O.aS .z4)<|ay 2 (O.cP .z5)<|ay 3 O.y2<|ay 4 (O.cJ (y:=.a6 ai.z ⟨9,[11]⟩ s2.1.length))<|ay 5 O.bB<|ay 6 (O.cJ (y:=aj cq a0.je))<|ay 7 (O.aS (.lit q))<|jb 8 (cd.dY (.b8 (.bd q) (.b8 (.lit q) .nil)) (bw.go mP))<|bC.e4 9 (x:=aj ai [bE]) (O.c8 (ys:=[ae bE]) ai [bE] fX q q q q q q lb q q) q q q q .none<|ay 10 (O.ap (en:=ai) (r:=cm) .c6 q .z2 .i ox q nC)<|ay 11 (O.cP .z5)<|ay 12 O.y2<|bC.gS 13 (bc.sp [4,8,9,28,29,30])<|bC.fin q q q (rP q q q q q q)) ?_;refine ax.ca<|ax.bI<|W.bY [4,8,9,28,29,30] (ak (O.add .a_ .ch)<|aE.bY [4,8,9,28,29,49] q<|aE.bo) ?_;exact aV h ▸ ax.gt
   ·exact W.fm<|ax.fe<|aV h ▸ ax.t1
  exact ax.fr<|aV h ▸ ax.dg
 refine ax.bI<|W.bJ<|W.ca<|aU h λa1 ah h=>W.gi (⟨a0,lr,min (max a2 0) 100000,min (max a3 0) 1000000,[0],[],0,(⟨0,0,0,0,[],[],[],(⟨0,0,0,GI⟩:Node)⟩:eZ)⟩:dz) (λ(eT:dz)=>[(9,.obj (ic.cells eT))]) [8,9] 2 (λ(a1:dz)=>[(9,.obj (ic.cells a1))]) [8,9] ah (λeT o h=>?_) ?_
 ·clear ah;refine W.bJ<|W.bK [8,9,55] ?_;refine W.bZ h q (λkk h=>?_) (λkk h=>?_)
  ·refine W.cM<|ax.bI<|W.ca<|aU h λed oL h=>W.bY [8,9] (ak (O.aS .z4)<|aE.ji q (fO.jN (ks:=[8]) (bw.go oL) q q q q (.b q .nil))<|bH q) ?_;exact ax.ca<|aV h ▸ ax.gt
  ·exact W.fm<|ax.fe<|aV h ▸ ax.t1
 refine ax.fr<|ax.bI<|W.bJ<|W.dL (G1:=[(8,_),(9,.obj [aj ai a1.b0.Def,aj ai a1.b0.cz.cX,aj ai a1.b0.cz.cb,aj ai a1.b0.cz.b_,aj ai a1.b0.jw,aj ai a1.b0.ej.cX,aj ai a1.b0.ej.cb,aj ai a1.b0.ej.b_,aj ai a1.b0.Left,aj ai a1.b0.kv,aj cq a1.b0.je,aC ai a1.iQ,ae a1.jj,ae a1.jk,aC ai a1.dt,aC dn a1.fc,ae a1.h5,ae a1.bb.Kind,ae a1.bb.At,ae a1.bb.Steps,ae a1.bb.Deep,aj ai a1.bb.bx,aj jF a1.bb.eC,aj ai a1.bb.fp,ae a1.bb.Tree.Sym,ae a1.bb.Tree.Prod,ae a1.bb.Tree.At,hW 4 a1.bb.Tree.Kids])]) [9] (.n q q (.z q q (fG.obj (.f (.f (.f (.f (.f (.f (.f (.f (.f (.f (.f (.f (.f (.f (.f (.f (.f (.f (.f (.f (.f (.z (.z (.z (.f (.f (.f (.f .nil))))))))))))))))))))))))))))) .nil)) ?_;refine W.bY [8] (ak (O.aS .z4)<|ak (O.cP .z5)<|ak O.y2<|ak (O.dJ (cs':=j1.cells a1.bb) q .z5 zd q q)<|aE.dE (bc.ff [8])<|bH q) ?_;exact ax.bI<|W.rt<|aV h ▸ jz (.c (ys0:=j1.cells a1.bb) q zd q q q (.f q (.f q (.f q (.f q (.f q (.f q (.f q (.f q (.f q (.f q (.f q .nil))))))))))) .nil)
instance ada {a0:Tables}{av:(List Int)}{a2:Int}{a3:Int}{r:eZ}:bw prog 16 (ti a0 av a2 a3=some r) [.agg (iG.cells a0),aj ai av,ae a2,ae a3] [none,none,none,none] (.agg (j1.cells r)):=⟨Uh a0 av a2 a3 _⟩
instance adP {a0:cG}{av:cG}{r:Int}:bw prog 52 (DL a0 av=some r) [.agg [ae a0.At,ae a0.cb],.agg [ae av.At,ae av.cb]] [none,none] (ae r):=⟨λh=>by unfold DL at h; exact bO.bo (N:=⟨10,[]⟩) [2,3,4] .e func52 rfl rfl rfl rfl rfl du⟩
theorem Uk (a0:bD) (r:(List cG)) (h:AE a0=some r):bO prog 22 [.agg (c9.cells a0)] [none] (aj cq r):=by
 unfold AE at h;refine bO.go (N:=⟨28,[]⟩) func22 q q q q (W.fin ?_);refine W.st [(0,.agg (c9.cells a0))] ?_;refine W.ck [1] (ak (O.box (.dm q q) q)<|aE.bo) ?_;refine W.bK [1,3] ?_;refine W.bJ<|W.ck [3,7,8,9] (ak O.bB<|ak (O.cJ (y:=aj cv a0.br))<|ak O.la<|ak (O.aS .ch)<|bH q) ?_;refine W.ca<|aU h λx2 ah h=>W.gi (([]:List cG),0) (λ(s1:List cG × Int)=>[(3,aC cq s1.1),(9,ae s1.2)]) [3,7,8,9] 0 (λ(x2:List cG)=>[(3,aC cq x2)]) [3] ah (λs1 o h=>?_) ?_
 ·clear ah;refine W.bK [3,7,8,9,10] ?_;refine W.bJ<|W.bZ h q (λk2 h=>?_) (λk2 h=>?_)
  ·refine W.cM<|ax.bI<|W.bJ<|aU h λiy ag h=>W.eI [3,7,8,9] [(3,aC cq iy)] ?_ ?_
   ·clear h; have h:=ag; clear ag;refine W.ca<|aU h λbz kp h=>W.ck [3,4,5,7,8,9] (cK q<|ak (O.gY kp)<|ak (O.mS (cs':=cv.cells bz) .my Tg q q)<|ak (O.dv (cs:=[aZ bn,bg false,ae 0,ae 0,ae 0,aZ bn]) Hg q q)<|Hy q<|aE.dE (bc.ff [3,4,5,7,8,9])<|bH q) ?_;refine W.bK [3,4,5,7,8,9,16] ?_;refine aU h λk5 ag h=>W.eI [3,7,8,9] [(3,aC cq k5)] ?_ ?_
    ·clear h; have h:=ag; clear ag;refine W.bZ h q (λo4 h=>?_) (λo4 h=>?_)
     ·refine aU h λcm nC h=>W.bY [3,7,8,9] (ak (O.aS .z3)<|ak O.bB<|ak O.cV<|cK q<|ak (O.dS (cs:=[ae bz.cc,ae s1.2]) aau L2 q q q)<|aE.e4 (x:=aj cq [(⟨bz.cc,s1.2⟩:cG)]) (O.c8 (ys:=[.agg [ae bz.cc,ae s1.2]]) cq [(⟨bz.cc,s1.2⟩:cG)] aaL q q q q q q ab5 q q) q q .none<|ak (O.ap (en:=cq) (r:=cm) .c6 q .z2 .i SS q nC)<|aE.b' (bc.wL [7,8,9])<|bH q) ?_;exact aV h ▸ ax.dg
     ·exact W.cM<|aV h ▸ ax.dg
    exact ax.ca<|aV h ▸ ax.dg
   refine ax.bI<|W.bY [3,7,8,9] (ak (O.add .a_ .ch)<|aE.bY [3,7,8,24] q<|aE.bo) ?_;exact aV h ▸ ax.gt
  ·exact W.fm<|ax.fe<|aV h ▸ ax.t1
 refine ax.fr<|ax.bI<|aU h λb5 qw h=>W.ck [3] (ak (O.aS .z3)<|aE.ji q (bc.call q q (kQ.jr (en:=cq) (L:=x2) (L':=b5) (G2:=[]) (ys:=[.cD (.func 52) [] []]) (args:=[.cD (.func 52) [] []]) q q q q (.c (View.cl .nil) .nil) (aaP call52 qw (λa b v h=>bw.go h)) call51 .nil q q .nil q))<|bH q) ?_;refine W.ck [2] (ak (O.aS .z3)<|aE.b' (bc.kU [])<|bH q) ?_;refine W.dL (G1:=[(2,aj cq b5)]) [2] (.z q q .kt .nil) ?_;exact W.rt<|aV h ▸ lE
instance ady {a0:bD}{r:(List cG)}:bw prog 22 (AE a0=some r) [.agg (c9.cells a0)] [none] (aj cq r):=⟨Uk a0 _⟩
theorem T9 (a0:(List (List cG))) (r:Bool) (h:Aq a0=some r):bO prog 108 [aj (bF cq) a0] [none] (bg r):=by
 unfold Aq at h;refine bO.go (N:=⟨42,[]⟩) func108 q q q q (W.fin ?_);refine W.st [(0,aj (bF cq) a0)] ?_;refine W.bK [0] ?_;refine W.bJ<|W.bK [0,10] ?_;refine W.bZ h q (λgM h=>?_) (λgM h=>?_)
 ·refine W.bK [2] ?_;exact W.rt<|ax.gy<|aV h ▸ lE
 ·refine W.cM<|ax.bI<|W.bJ<|W.ck [11,12,13] (ak (O.aS .z2)<|ak O.la<|ak (O.aS .ch)<|bH q) ?_;refine W.ca<|aU h λa7 ah h=>W.fV 0 (λ(s2:Int)=>[(13,ae s2)]) [11,12,13] 0 (λ(bl:Unit)=>[]) [] (λ(bW:Bool)=>[(2,bg bW)]) [2] ah (λs2 o h=>?_) (λbl J=>?_) (λbW J=>?_)
  ·clear ah;refine W.bK [11,12,13,14] ?_;refine W.bJ<|W.bZ h q (λqo h=>?_) (λqo h=>?_)
   ·refine W.cM<|ax.bI<|W.bJ<|W.ca<|aU h λbq jK h=>W.bK [4,11,12,13] ?_;refine W.ck [4,5,11,12,13] (ak (O.dv (cs:=bA e1 (List.replicate 1000 false)) ab2 (by kernel_rfl) (by kernel_rfl))<|bH q) ?_;refine W.ck [5,11,12,13,17,18,19] (ak (O.aS .z2)<|ak O.la<|ak (O.aS .ch)<|bH q) ?_;refine W.ca<|aU h λcm ah h=>W.fV ((List.replicate 1000 false),0) (λ(ei:List Bool × Int)=>[(5,.obj (bA e1 ei.1)),(19,ae ei.2)]) [5,11,12,13,17,18,19] 2 (λ(b5:Unit)=>[]) [11,12,13] (λ(a1:Bool)=>[(2,bg a1)]) [2] ah (λei o h=>?_) (λb5 J=>?_) (λa1 J=>?_)
    ·clear ah;refine W.bK [5,11,12,13,17,18,19,20] ?_;refine W.bJ<|W.bZ h q (λmb h=>?_) (λmb h=>?_)
     ·refine W.cM<|ax.bI<|W.bJ<|W.ca<|aU h λct qy h=>W.ck [5,7,11,12,13,17,18,19] (ak (O.gY qy)<|ak (O.mS (cs':=[ae ct.At,ae ct.cb]) .my Bp q q)<|ak (O.dv (cs:=[ae 0,ae 0]) L2 q q)<|aE.dE (bc.ff [5,7,11,12,13,17,18,19])<|bH q) ?_;refine W.bJ<|aU h λwP ag h=>W.k8 [5,7,11,12,13,17,18,19,36] [(36,bg wP)] ?_ ?_
      ·refine ak O.bB<|ak O.cV<|ak (O.lss .a_ .ch)<|ak (O.aS (.lit q)) ?_;rcases eU ag with ⟨r',ag⟩ | ⟨r',ag⟩
       ·exact aV ag ▸ aE.bo
       ·refine bu r' O.bB<|bu r' O.cV<|bu r' (O.geq .a_ .ch)<|ak (O.ml .a_ r' .a_)<|ak (O.aS (.lit q)) ?_;rcases eU ag with ⟨nv,ag⟩ | ⟨nv,ag⟩
        ·exact aV ag ▸ aE.bo
        ·refine bu nv O.bB<|bu nv O.cV ?_;exact aU ag λdj mh ag=>aV ag ▸ (bu nv (O.Ps (en:=e1) (L:=ei.1) q q .a_ MF mh)<|bu nv (O.YV (en:=e1) (L:=ei.1) q .z5 (Km mh).2 q BF (λ_=>q))<|aE.bo)
      refine W.bZ h q (λpH h=>?_) (λpH h=>?_)
      ·refine W.bK [2] ?_;exact W.rt<|ax.gy<|ax.lH<|ax.gy<|aV h ▸ ax.hE (.n q .nil)
      ·refine W.cM<|ax.bI<|aU h λgf pQ h=>W.bY [5,11,12,13,17,18,19] (ak O.bB<|ak O.cV<|ak (O.Ps (en:=e1) (L:=ei.1) q q .a_ MF pQ)<|aE.aas (G2:=[(5,.obj (bA e1 (ei.1.set ct.At.toNat true))),(11,aj (bF cq) a0),(12,ae (a0.length:Int)),(13,ae s2),(17,aj cq bq),(18,ae (bq.length:Int)),(19,ae ei.2)]) (en:=e1) (L:=ei.1) (y2:=true) q q (.ptr q) (.k q) (Km pQ).2 q q Ri q (.b q (.n q q (.n q q (.n q q (.n q q (.n q q (.n q q .nil)))))))<|bH q) ?_;refine ax.ca<|ax.bI<|W.bY [5,11,12,13,17,18,19] (ak (O.add .a_ .ch)<|aE.bY [5,11,12,13,17,18,40] q<|aE.bo) ?_;exact aV h ▸ ax.gt
     ·exact W.fm<|ax.fe<|aV h ▸ ax.x2 (og q q q)
    ·subst J;refine ax.fr<|ax.ca<|ax.bI<|W.bY [11,12,13] (ak (O.add .a_ .ch)<|aE.bY [11,12,41] q<|aE.bo) ?_;exact aV h ▸ ax.gt
    ·subst J;exact ax.lH<|ax.lH<|ax.gy<|aV h ▸ ax.hE (.n q .nil)
   ·exact W.fm<|ax.fe<|aV h ▸ ax.x2 .nil
  ·subst J;refine ax.fr<|ax.bI<|W.bK [2] ?_;exact W.rt<|aV h ▸ lE
  ·subst J;exact ax.lH<|ax.gy<|aV h ▸ lE
instance acA {a0:(List (List cG))}{r:Bool}:bw prog 108 (Aq a0=some r) [aj (bF cq) a0] [none] (bg r):=⟨T9 a0 _⟩
instance acD {a0:(List Int)}{r:Int}:bw prog 111 (Dn a0=some r) [aj ai a0] [none] (ae r):=⟨λh=>by unfold Dn at h; exact bO.bo (N:=⟨18,[]⟩) [0,2,3,5,6,7,8,9,14] (.fV (λ(s1:Int)=>[(8,ae s1)]) [3,6,7,8] 0 (λ(a7:Unit)=>[]) [3] (λ(bl:Int)=>[(2,ae bl)]) [2] .e .e .e) func111 rfl rfl rfl rfl rfl du⟩
instance acC {a0:Int}{av:Int}{c0:(List (List cG))}{r:Int}:bw prog 110 (vU a0 av c0=some r) [ae a0,ae av,.cw ([aj (bF cq) c0])] [none,none,none] (ae r):=⟨λh=>by unfold vU at h; exact bO.bo (N:=⟨22,[]⟩) [0,1,2,5] (.rd 1 [[],[],[0,1],[0,1,2],[0,1,2,3],[],[],[5,6],[5,6,7],[5,6,7,8],aF 0 10 [],[],[],aF 0 13 [],aF 0 14 [],aF 0 15 [],aF 0 16 []] .e) func110 rfl rfl rfl rfl rfl du⟩
instance acW {a0:cG}{c0:Int}{c1:(List Int)}{r:Bool}:bw prog 140 (Dy a0 c0 c1=some r) [.agg [ae a0.At,ae a0.cb],.cw ([ae c0]),.cw ([aj ai c1])] [none,none,none] (bg r):=⟨λh=>by unfold Dy at h; exact bO.bo (N:=⟨22,[]⟩) [1,2,3,4] (.eK 1 [4] (λ(kz:Bool)=>[(4,bg kz)]) .e) func140 rfl rfl rfl rfl rfl du⟩
theorem Ui (a0:(List cG)) (q5:Int) (q6:(List Int)) (r:Int) (h:Gl a0 q5 q6=some r):bO prog 170 [aj cq a0,.cD (.func 140) [] [.cw ([ae q5]),.cw ([aj ai q6])]] [none,none] (ae r):=by
 unfold Gl at h;refine bO.go (N:=⟨19,[]⟩) func170 q q q q (W.fin ?_);refine W.st [(0,aj cq a0),(1,.cD (.func 140) [] [.cw ([ae q5]),.cw ([aj ai q6])])] ?_;refine W.bK [0,1] ?_;refine W.bJ<|W.ck [0,1,7,8] (ak (O.aS .z2)<|ak O.la<|ak (O.aS .ch)<|bH q) ?_;refine W.ca<|aU h λx2 ah h=>W.fV 0 (λ(s1:Int)=>[(8,ae s1)]) [0,1,7,8] 0 (λ(a7:Unit)=>[]) [] (λ(bl:Int)=>[(4,ae bl)]) [4] ah (λs1 o h=>?_) (λa7 J=>?_) (λbl J=>?_)
 ·clear ah;refine W.bK [0,1,7,8,9] ?_;refine W.bJ<|W.bZ h q (λqn h=>?_) (λqn h=>?_)
  ·refine W.cM<|ax.bI<|W.bJ<|W.ca<|W.bK [0,1,5,7,8] ?_;refine aU h λbz kp h=>aU h λbq jK h=>W.ck [0,1,5,7,8,16] (ak (O.aS (.cD q))<|ak (O.aS .z2)<|cK q<|ak (O.gY kp)<|ak (O.mS (cs':=[ae bz.At,ae bz.cb]) .my Bp q q)<|e0 (cd.gc (.cD q) (.b8 (.dm q q) .nil) (bw.go jK) call140 q)<|bH q) ?_;refine W.bZ h q (λo4 h=>?_) (λo4 h=>?_)
   ·refine W.bK [4] ?_;exact W.rt<|ax.lH<|ax.gy<|aV h ▸ ax.hE (.n q .nil)
   ·refine W.cM<|ax.ca<|ax.bI<|W.bY [0,1,7,8] (ak (O.add .a_ .ch)<|aE.bY [0,1,7,18] q<|aE.bo) ?_;exact aV h ▸ ax.gt
  ·exact W.fm<|ax.fe<|aV h ▸ ax.x2 .nil
 ·subst J;refine ax.fr<|ax.bI<|W.bK [4] ?_;exact W.rt<|aV h ▸ lE
 ·subst J;exact ax.lH<|ax.gy<|aV h ▸ lE
theorem Ud (a0:(List cG)) (q5:Int) (q6:(List Int)) (r:Bool) (h:Gk a0 q5 q6=some r):bO prog 139 [aj cq a0,.cD (.func 140) [] [.cw ([ae q5]),.cw ([aj ai q6])]] [none,none] (bg r):=by
 unfold Gk at h;refine bO.go (N:=⟨9,[]⟩) func139 q q q q (W.fin ?_);refine W.st [(0,aj cq a0),(1,.cD (.func 140) [] [.cw ([ae q5]),.cw ([aj ai q6])])] ?_;refine W.bK [0,1] ?_;refine aU h λaR gE h=>W.ck [4] (ak (O.aS .z2)<|ak (O.aS (.cD q))<|e0 (cd.dY (.b8 (.bd q) (.b8 (.cD q) .nil)) (Ui a0 q5 q6 _ gE))<|aE.bo) ?_;exact W.rt<|aV h ▸ lE
theorem Ua (a0:(List Int)) (av:(List cG)) (a2:Int) (r:Bool) (h:x5 a0 av a2=some r):bO prog 112 [aj ai a0,aj cq av,ae a2] [none,none,none] (bg r):=by
 unfold x5 at h;refine bO.go (N:=⟨11,[]⟩) func112 q q q q (W.fin ?_);refine W.st [(0,aj ai a0),(1,aj cq av),(2,ae a2)] ?_;refine W.ck [1,3,5] (ak (O.box .z2 q)<|ak (O.box .a_ q)<|aE.bo) ?_;refine aU h λaR gE h=>W.ck [6] (ak (O.aS .z2)<|ak (O.KT q)<|e0 (cd.mu (ys:=[aj cq av,.cD (.func 140) [] [.ptr ⟨5,[]⟩ 0,.ptr ⟨3,[]⟩ 0]]) q (.s (.c (View.cl (.c (View.kI q q) (.c (View.kI q q) .nil))) .nil)) (Ud av a2 a0 _ gE))<|aE.bo) ?_;exact W.rt<|aV h ▸ lE
instance acE {a0:(List Int)}{av:(List cG)}{a2:Int}{r:Bool}:bw prog 112 (x5 a0 av a2=some r) [aj ai a0,aj cq av,ae a2] [none,none,none] (bg r):=⟨Ua a0 av a2 _⟩
theorem UB (a0:(List (List cG))) (r:hZ) (h:AP a0=some r):bO prog 87 [aj (bF cq) a0] [none] (.agg (vd.cells r)):=by
 unfold AP at h;refine bO.go (N:=⟨111,[]⟩) func87 q q q q (W.fin ?_);refine W.st [(0,aj (bF cq) a0)] ?_;refine W.ck [1,2] (ak (O.box .z2 q)<|ak (O.dv (cs:=[.aQ,.aQ,.aQ]) Es q q)<|bH q) ?_;refine W.bJ<|aU h λaR gE h=>W.ck [1,2,13] (ak (O.qC (y:=aj (bF cq) a0) q .z4 BE q q)<|e0 (cd.dY (.b8 (.bd q) .nil) (bw.go gE))<|aE.bo) ?_;refine W.bZ h q (λfj h=>?_) (λfj h=>?_)
 ·refine W.ck [2] (ak (O.dS (cs:=[.aQ,.aQ,.aQ]) QY Es q q q)<|aE.dE (bc.ff [2])<|bH q) ?_;refine W.dL (G1:=[(2,.obj [aC ai ([]:List Int),aC ai ([]:List Int),aC ai ([]:List Int)])]) [2] (.z q q (fG.obj (.o (.o (.o .nil)))) .nil) ?_;exact W.rt<|ax.gy<|aV h ▸ jz (.c (ys0:=[.a6 ai.z ⟨2,[0]⟩ ([]:List Int).length,.a6 ai.z ⟨2,[1]⟩ ([]:List Int).length,.a6 ai.z ⟨2,[2]⟩ ([]:List Int).length]) q EX q q q (.o q (.o q (.o q .nil))) .nil)
 ·refine W.cM<|ax.bI<|aU h λa7 hb h=>W.ck [1,2,3] (ak (O.qC (y:=aj (bF cq) a0) q .z4 BE q q)<|ak O.la<|ak (O.mk (en:=ai) (z0:=0) fX .a_ .a_ RP q q hb MP q)<|ak (O.dS (cs:=[.a6 ai.z ⟨17,[]⟩ a7.length,.aQ,.aQ]) QY Es q q q)<|ak (O.dv (cs:=[.aQ,.aQ,.aQ]) Es q q)<|aE.ji (G2:=[(1,.obj [aj (bF cq) a0]),(2,.obj [.aQ,.aQ,.aQ]),(3,.obj [aC ai a7,aC ai ([]:List Int),aC ai ([]:List Int)])]) q (bc.tr (y':=.agg [aC ai a7,aC ai ([]:List Int),aC ai ([]:List Int)]) (cs2:=[aC ai a7,aC ai ([]:List Int),aC ai ([]:List Int)]) q q (.obj q) (.dm q q) (.nP (.r q (.f (.f .nil))) .nil) (fG.agg (.f (.o (.o .nil)))) q LH q q q q q (.n q q (.n q q (.b q .nil))))<|bH q) ?_;refine W.bK [1,2,3,4] ?_;refine W.bJ<|W.ck [1,2,3,4,20,21] (ak (O.qC (y:=aj (bF cq) a0) q .z4 BE q q)<|ak O.la<|ak (O.aS .ch)<|bH q) ?_;refine W.ca<|aU h λbW ah h=>W.gi (([]:List Int),0) (λ(da:List Int × Int)=>[(4,aC ai da.1),(21,ae da.2)]) [1,2,3,4,20,21] 0 (λ(bW:List Int)=>[(4,aC ai bW)]) [1,2,3,4] ah (λda o h=>?_) ?_
  ·clear ah;refine W.bK [1,2,3,4,20,21,22] ?_;refine W.bJ<|W.bZ h q (λub h=>?_) (λub h=>?_)
   ·refine W.cM<|ax.bI<|W.bJ<|aU h λdZ ag h=>W.eI [1,2,3,4,20,21] [(4,aC ai dZ)] ?_ ?_
    ·clear h; have h:=ag; clear ag;refine W.ca<|W.bK [1,2,3,4,5,20,21] ?_;refine aU h λcm nC h=>W.bK [1,2,3,4,5,20,21,29] ?_;refine aU h λjL ag h=>W.eI [1,2,3,4,20,21] [(4,aC ai jL)] ?_ ?_
     ·clear h; have h:=ag; clear ag;refine W.bZ h q (λnV h=>?_) (λnV h=>?_)
      ·refine aU h λea qx h=>W.bY [1,2,3,4,20,21] (ak (O.aS .z3)<|cK q<|aE.e4 (x:=aj ai [da.2]) (O.c8 (ys:=[ae da.2]) ai [da.2] fX q q q q q q lb q q) q q .none<|ak (O.ap (en:=ai) (r:=ea) .c6 q .z2 .i ox q qx)<|aE.b' (bc.wL [1,2,3,20,21])<|bH q) ?_;exact aV h ▸ ax.dg
      ·exact W.cM<|aV h ▸ ax.dg
     exact ax.ca<|aV h ▸ ax.dg
    refine ax.bI<|W.bY [1,2,3,4,20,21] (ak (O.add .a_ .ch)<|aE.bY [1,2,3,4,20,34] q<|aE.bo) ?_;exact aV h ▸ ax.gt
   ·exact W.fm<|ax.fe<|aV h ▸ ax.t1
  refine ax.fr<|ax.bI<|aU h λct qy h=>W.ck [1,2,3,4] (ak (O.aS .z3)<|ak (O.KT q)<|aE.ji q (bc.call q q (kQ.jr (en:=ai) (L:=bW) (L':=ct) (G2:=[(1,.obj [aj (bF cq) a0]),(2,.obj [.aQ,.aQ,.aQ]),(3,.obj [aC ai a7,aC ai ([]:List Int),aC ai ([]:List Int)])]) (ys:=[.cD (.func 110) [] [.ptr ⟨1,[]⟩ 0]]) (args:=[.cD (.func 110) [] [.cw ([aj (bF cq) a0])]]) q q q q (.c (View.cl (.c (View.kI q q) .nil)) .nil) (aaO call110 qy (λa b v h=>bw.go h)) call109 (og q q q) q q (og q q q) q))<|bH q) ?_;refine W.bJ<|W.rs [(1,_),(2,_),(3,_),(4,_),(38,.a6 ai.z ⟨4,[]⟩ ct.length),(39,_),(40,_)] (ak (O.aS .z3)<|ak (O.lu .c6 fX)<|ak (O.aS .ch)<|j' (.n q (.n q (.n q (.n q (.r q (cS.a6 (en:=ai) q) iz (l3 q q))))))) ?_;refine W.ca<|aU h λcF ah h=>W.c5 (G1:=[(1,_),(2,_),(3,_),(4,_),(38,.a6 ai.z ⟨4,[]⟩ ct.length),(39,_),(40,_)]) (.n q (.n q (.n q (.n q (.r q (cS.a6 (en:=ai) q) iz (l3 q q)))))) ?_;refine W.z7 (s:=((⟨a7,([]:List Int),([]:List Int)⟩:hZ),0)) (λ(er:hZ × Int)=>[(1,.obj [aj (bF cq) a0]),(2,.obj [.aQ,.aQ,.aQ]),(3,.obj (vd.cells er.1)),(4,aC ai ct),(38,.a6 ai.z ⟨4,[]⟩ ct.length),(39,ae (ct.length:Int)),(40,ae er.2)]) 2 (λ(cF:hZ)=>[(2,.obj [.aQ,.aQ,.aQ]),(3,.obj (vd.cells cF))]) ah (λer o h=>?_) ?_
  ·clear ah;refine W.rs [(1,_),(2,_),(3,_),(4,_),(38,.a6 ai.z ⟨4,[]⟩ ct.length),(39,_),(40,_),(41,_)] (ak (O.lss .a_ .a_)<|j' (.n q (.n q (.n q (.n q (.r q (cS.a6 (en:=ai) q) iz (og q q q))))))) ?_;refine W.bJ<|W.bZ h q (λkD h=>?_) (λkD h=>?_)
   ·refine W.cM<|ax.bI<|W.bJ<|W.ca<|aU h λdP nA h=>W.rs [(1,_),(2,_),(3,_),(4,_),(7,_),(38,.a6 ai.z ⟨4,[]⟩ ct.length),(39,_),(40,_)] (ak (O.gH (en:=ai) q .c6 .a_ fX nA q)<|ak (O.jM (en:=ai) (x':=ae dP) q .z5 qg nA q q)<|Hy q<|j' (.n q (.n q (.n q (.n q (.n q (.r q (cS.a6 (en:=ai) q) iz (l3 q q)))))))) ?_;refine W.bJ<|W.ca<|aU h λeL ah h=>W.c5 (G1:=[(1,_),(2,_),(3,_),(4,_),(7,_),(38,.a6 ai.z ⟨4,[]⟩ ct.length),(39,_),(40,_)]) (.n q (.n q (.n q (.n q (.n q (.r q (cS.a6 (en:=ai) q) iz (l3 q q))))))) ?_;refine W.z7 (s:=er.1.cX) (λ(dh:List Int)=>[(1,.obj [aj (bF cq) a0]),(2,.obj [.aQ,.aQ,.aQ]),(3,.obj [aC ai dh,aC ai er.1.cb,aC ai er.1.b_]),(4,aC ai ct),(7,ae dP),(38,.a6 ai.z ⟨4,[]⟩ ct.length),(39,ae (ct.length:Int)),(40,ae er.2)]) 4 (λ(eL:List Int)=>[(1,.obj [aj (bF cq) a0]),(2,.obj [.aQ,.aQ,.aQ]),(3,.obj [aC ai eL,aC ai er.1.cb,aC ai er.1.b_]),(4,aC ai ct),(7,ae dP),(38,.a6 ai.z ⟨4,[]⟩ ct.length),(39,ae (ct.length:Int)),(40,ae er.2)]) ah (λdh o h=>?_) ?_
    ·clear ah;refine W.bJ<|W.bJ<|aU h λiB FG h=>aU h λfY xA h=>aU h λhQ um h=>W.rd [[],[0],[],[],[2,3],[2,3,4],[],[6],[],[6,7,8],[6,7,8,9],aF 0 11 [],aF 0 12 []] [(1,_),(2,_),(3,_),(4,_),(7,_),(38,.a6 ai.z ⟨4,[]⟩ ct.length),(39,_),(40,_),(56,_)] eJ (by kernel_rfl) (ay 0 O.bB<|ay 1 (O.cJ (y:=.a6 ai.z ⟨3,[2]⟩ er.1.b_.length))<|ay 2 (O.qC (y:=aj (bF cq) a0) q .z4 BE q q)<|ay 3 (O.aS (.lit q))<|ay 4 (O.gY FG)<|ay 5 (O.iZ (x:=aj cq iB))<|ay 6 O.bB<|ay 7 (O.cJ (y:=.a6 ai.z ⟨3,[0]⟩ dh.length))<|ay 8 (O.aS (.lit q))<|ay 9 (O.gH (en:=ai) q .c6 .a_ fX xA q)<|ay 10 (O.jM (en:=ai) (x':=ae fY) q .z5 qg xA q q)<|jb 11 (cd.mu (ys:=[.a6 ai.z ⟨3,[2]⟩ er.1.b_.length,aj cq iB,ae fY]) q (.c (.row q) (.s (.s .nil))) (bw.go um))<|ay 12 (O.not .a_)<|bC.fin q q q (.n q (.n q (.n q (.n q (.n q (.r q (cS.a6 (en:=ai) q) iz (og q q q)))))))) ?_;refine ax.bI<|W.bZ h q (λJd h=>?_) (λJd h=>?_)
     ·refine W.cM<|ax.bI<|W.ca<|aU h λjS s' h=>W.rx [(1,_),(2,_),(3,_),(4,_),(7,_),(38,.a6 ai.z ⟨4,[]⟩ ct.length),(39,_),(40,_)] (ak O.bB<|ak (O.cJ (y:=.a6 ai.z ⟨3,[0]⟩ dh.length))<|cK q<|ak (O.gH (en:=ai) q .c6 .a_ fX s' q)<|ak (O.jM (en:=ai) (x':=ae jS) q .z5 qg s' q q)<|ak (O.add .a_ .ch)<|ak (O.gH (en:=ai) q .c6 .a_ fX s' q)<|aE.ji (G2:=[(1,.obj [aj (bF cq) a0]),(2,.obj [.aQ,.aQ,.aQ]),(3,.obj [aC ai (dh.set dP.toNat (aG (jS+1))),aC ai er.1.cb,aC ai er.1.b_]),(4,aC ai ct),(7,ae dP),(38,.a6 ai.z ⟨4,[]⟩ ct.length),(39,ae (ct.length:Int)),(40,ae er.2)]) q (bc.uS (en:=ai) (y2:=aG (jS+1)) (cs':=[ae (aG (jS+1))]) (x2:=.obj [aC ai (dh.set dP.toNat (aG (jS+1))),aC ai er.1.cb,aC ai er.1.b_]) q q (.ptr q) (.lit q) q s' tt q q q q q q q (.n q q (.n q q (.b q (.n q q (.n q q (.w (en:=ai) q q q q (.n q q (.n q q .nil)))))))))<|j' (.n q (.n q (.n q (.n q (.n q (.r q (cS.a6 (en:=ai) q) iz (l3 q q)))))))) ?_;exact ax.ca<|aV h ▸ ax.go (.n q (.n q (.n q (.n q (.n q (.r q (cS.a6 (en:=ai) q) iz (l3 q q)))))))
     ·exact W.fm<|ax.fe<|aV h ▸ ax.aR (.n q (.n q (.n q (.n q (.n q (.r q (cS.a6 (en:=ai) q) iz (l3 q q)))))))
    refine ax.fr<|ax.bI<|aU h λfF xB h=>W.rs [(1,_),(2,_),(3,_),(4,_),(7,_),(38,.a6 ai.z ⟨4,[]⟩ ct.length),(39,_),(40,_),(67,_),(68,_),(69,_)] (ak (O.qC (y:=aj (bF cq) a0) q .z4 BE q q)<|cK q<|ak (O.gY xB)<|ak (O.iZ (x:=aj cq fF))<|ak O.la<|ak (O.aS .ch)<|j' (.n q (.n q (.n q (.n q (.n q (.r q (cS.a6 (en:=ai) q) iz (l4 q q q q q)))))))) ?_;refine W.ca<|aU h λee ah h=>W.c5 (G1:=[(1,_),(2,_),(3,_),(4,_),(7,_),(38,.a6 ai.z ⟨4,[]⟩ ct.length),(39,_),(40,_),(67,_),(68,_),(69,_)]) (.n q (.n q (.n q (.n q (.n q (.r q (cS.a6 (en:=ai) q) iz (l4 q q q q q))))))) ?_;refine W.z7 (s:=(er.1.cb,er.1.b_,0)) (λ(kJ:List Int × List Int × Int)=>[(1,.obj [aj (bF cq) a0]),(2,.obj [.aQ,.aQ,.aQ]),(3,.obj [aC ai eL,aC ai kJ.1,aC ai kJ.2.1]),(4,aC ai ct),(7,ae dP),(38,.a6 ai.z ⟨4,[]⟩ ct.length),(39,ae (ct.length:Int)),(40,ae er.2),(67,aj cq fF),(68,ae (fF.length:Int)),(69,ae kJ.2.2)]) 6 (λ(ee:List Int × List Int)=>[(1,.obj [aj (bF cq) a0]),(2,.obj [.aQ,.aQ,.aQ]),(3,.obj [aC ai eL,aC ai ee.1,aC ai ee.2]),(4,aC ai ct),(38,.a6 ai.z ⟨4,[]⟩ ct.length),(39,ae (ct.length:Int)),(40,ae er.2)]) ah (λkJ o h=>?_) ?_
    ·clear ah;refine W.rs [(1,_),(2,_),(3,_),(4,_),(7,_),(38,.a6 ai.z ⟨4,[]⟩ ct.length),(39,_),(40,_),(67,_),(68,_),(69,_),(70,_)] (ak (O.lss .a_ .a_)<|j' (.n q (.n q (.n q (.n q (.n q (.r q (cS.a6 (en:=ai) q) iz (rP q q q q q q)))))))) ?_;refine W.bJ<|W.bZ h q (λJg h=>?_) (λJg h=>?_)
     ·refine W.cM<|ax.bI<|W.bJ<|W.ca<|aU h λdb CP h=>W.rs [(1,_),(2,_),(3,_),(4,_),(7,_),(9,_),(38,.a6 ai.z ⟨4,[]⟩ ct.length),(39,_),(40,_),(67,_),(68,_),(69,_)] (ak (O.gY CP)<|ak (O.mS (cs':=[ae db.At,ae db.cb]) .my Bp q q)<|ak (O.dv (cs:=[ae 0,ae 0]) L2 q q)<|aE.j_ (G2:=[(1,_),(2,_),(3,_),(4,_),(7,_),(9,_),(38,.a6 ai.z ⟨4,[]⟩ ct.length),(39,_),(40,_),(67,_),(68,_),(69,_)]) (cs2:=[ae db.At,ae db.cb]) q (.obj q) (.dm q q) q aa4 q q q q (.n q q (.n q q (.n q q (.n q q (.n q q (.b q (.w (en:=ai) q q q q (.n q q (.n q q (.n q q (.n q q (.n q q .nil))))))))))))<|j' (.n q (.n q (.n q (.n q (.n q (.n q (.r q (cS.a6 (en:=ai) q) iz (l4 q q q q q))))))))) ?_;refine W.bJ<|aU h λhR zU h=>W.rd [[],[0],[],[0,1,2],[0,1,2,3],[],[5],aF 0 7 [],aF 0 8 []] [(1,_),(2,_),(3,_),(4,_),(7,_),(9,_),(10,_),(38,.a6 ai.z ⟨4,[]⟩ ct.length),(39,_),(40,_),(67,_),(68,_),(69,_)] eJ (by kernel_rfl) (ay 0 O.bB<|ay 1 (O.cJ (y:=.a6 ai.z ⟨3,[0]⟩ eL.length))<|ay 2 (O.aS (.lit q))<|ay 3 (O.gH (en:=ai) q .c6 .a_ fX zU q)<|ay 4 (O.jM (en:=ai) (x':=ae hR) q .z5 qg zU q q)<|ay 5 O.bB<|ay 6 O.cV<|ay 7 (O.add .a_ .a_)<|ay 8 (O.az (.lit q))<|bC.fin q q q (.n q (.n q (.n q (.n q (.n q (.n q (.n q (.r q (cS.a6 (en:=ai) q) iz (l4 q q q q q)))))))))) ?_;refine ax.bI<|W.bJ<|W.ca<|aU h λfl ah h=>W.c5 (G1:=[(1,_),(2,_),(3,_),(4,_),(7,_),(9,_),(10,_),(38,.a6 ai.z ⟨4,[]⟩ ct.length),(39,_),(40,_),(67,_),(68,_),(69,_)]) (.n q (.n q (.n q (.n q (.n q (.n q (.n q (.r q (cS.a6 (en:=ai) q) iz (l4 q q q q q))))))))) ?_;refine W.z7 (s:=(kJ.1,kJ.2.1)) (λ(hd:List Int × List Int)=>[(1,.obj [aj (bF cq) a0]),(2,.obj [.aQ,.aQ,.aQ]),(3,.obj [aC ai eL,aC ai hd.1,aC ai hd.2]),(4,aC ai ct),(7,ae dP),(9,.obj [ae db.At,ae db.cb]),(10,ae (aG (hR+db.At))),(38,.a6 ai.z ⟨4,[]⟩ ct.length),(39,ae (ct.length:Int)),(40,ae er.2),(67,aj cq fF),(68,ae (fF.length:Int)),(69,ae kJ.2.2)]) 8 (λ(fl:List Int × List Int)=>[(1,.obj [aj (bF cq) a0]),(2,.obj [.aQ,.aQ,.aQ]),(3,.obj [aC ai eL,aC ai fl.1,aC ai fl.2]),(4,aC ai ct),(7,ae dP),(9,.obj [ae db.At,ae db.cb]),(10,ae (aG (hR+db.At))),(38,.a6 ai.z ⟨4,[]⟩ ct.length),(39,ae (ct.length:Int)),(40,ae er.2),(67,aj cq fF),(68,ae (fF.length:Int)),(69,ae kJ.2.2)]) ah (λhd o h=>?_) ?_
      ·clear ah;refine W.bJ<|W.rs [(1,_),(2,_),(3,_),(4,_),(7,_),(9,_),(10,_),(38,.a6 ai.z ⟨4,[]⟩ ct.length),(39,_),(40,_),(67,_),(68,_),(69,_),(85,_)] (ak O.bB<|ak (O.cJ (y:=.a6 ai.z ⟨3,[2]⟩ hd.2.length))<|ak (O.lu .c6 fX)<|cK q<|ak (O.leq .a_ .a_)<|j' (.n q (.n q (.n q (.n q (.n q (.n q (.n q (.r q (cS.a6 (en:=ai) q) iz (rP q q q q q q)))))))))) ?_;refine W.bZ h q (λvp h=>?_) (λvp h=>?_)
       ·refine W.cM<|ax.bI<|W.ca<|aU h λgK CQ h=>aU h λkL vL h=>W.rd [[],[0],[],[0,1,2],[],[4],[],aF 0 7 [],aF 0 6 [],aF 0 9 [],aF 0 10 [],aF 0 11 []] [(1,_),(2,_),(3,_),(4,_),(7,_),(9,_),(10,_),(38,.a6 ai.z ⟨4,[]⟩ ct.length),(39,_),(40,_),(67,_),(68,_),(69,_)] eJ (by kernel_rfl) (ay 0 O.bB<|ay 1 (O.cJ (y:=.a6 ai.z ⟨3,[2]⟩ hd.2.length))<|bC.e4 2 (x:=aj ai [0]) (O.c8 (ys:=[ae 0]) ai [0] fX q q q q q q lb q q) q q q q .none<|ay 3 (O.ap (en:=ai) (r:=gK) .c6 q .z2 .i ox q CQ)<|ay 4 O.bB<|ay 5 (O.cJ (y:=.a6 ai.z ⟨3,[1]⟩ hd.1.length))<|bC.e4 6 (x:=aj ai [0]) (O.c8 (ys:=[ae 0]) ai [0] fX q q q q q q lb q q) q q q q .none<|ay 7 (O.ET (en:=ai) (r:=kL) .c6 q .z2 .i ox q vL (Df (by kernel_rfl) (by kernel_rfl)))<|ay 8 O.bB<|bC.Bw 9 (G2:=[(1,.obj [aj (bF cq) a0]),(2,.obj [.aQ,.aQ,.aQ]),(3,.obj [aC ai eL,.dead,aC ai (hd.2++[0])]),(4,aC ai ct),(7,ae dP),(9,.obj [ae db.At,ae db.cb]),(10,ae (aG (hR+db.At))),(38,.a6 ai.z ⟨4,[]⟩ ct.length),(39,ae (ct.length:Int)),(40,ae er.2),(67,aj cq fF),(68,ae (fF.length:Int)),(69,ae kJ.2.2),(93,aC ai (hd.1++[0]))]) (ht.settle (ts:=[89,93]) (xs:=[.a6 ai.z ⟨89,[]⟩ (hd.2.length+[0].length),.a6 ai.z ⟨93,[]⟩ (hd.1.length+[0].length)]) (ys:=[.own ai.z (hd.2.length+[0].length) (bA ai hd.2++bA ai [0]),.own ai.z (hd.1.length+[0].length) (bA ai hd.1++bA ai [0])]) (g2:=get [(1,.obj [aj (bF cq) a0]),(2,.obj [.aQ,.aQ,.aQ]),(3,.obj [aC ai eL,.dead,.dead]),(4,aC ai ct),(7,ae dP),(9,.obj [ae db.At,ae db.cb]),(10,ae (aG (hR+db.At))),(38,.a6 ai.z ⟨4,[]⟩ ct.length),(39,ae (ct.length:Int)),(40,ae er.2),(67,aj cq fF),(68,ae (fF.length:Int)),(69,ae kJ.2.2),(89,aC ai (hd.2++[0])),(93,aC ai (hd.1++[0])),(94,.ptr ⟨3,[]⟩ 2)]) q (eN.take (.jt q q q .js (.jt q q q .js .nil))) (by decide) q (ES q q) (Trim.keep (.n q (.n q (.n q (.n q (.n q (.n q (.n q (.r q (cS.a6 (en:=ai) q) iz (.n q (.n q (.n q (.n q (.n q (.e q (pe _ _ _) (.e q (pe _ _ _) (.q q q q .nil))))))))))))))))) (bc.iv (bc.tr (y':=aC ai (hd.2++[0])) (cs2:=[aC ai eL,.dead,aC ai (hd.2++[0])]) q q (.ptr q) (.own q) (.r q .nil) .refl q G0 q q q q q (.n q q (.n q q (.b q (.n q q (.n q q (.n q q (.n q q (.w (en:=ai) q q q q (.n q q (.n q q (.n q q (.n q q (.n q q (.n q q .nil))))))))))))))))) q q (by kernel_rfl) q q (by kernel_rfl)<|ay 10 O.bB<|bC.gS 11 (G2:=[(1,.obj [aj (bF cq) a0]),(2,.obj [.aQ,.aQ,.aQ]),(3,.obj [aC ai eL,aC ai (hd.1++[0]),aC ai (hd.2++[0])]),(4,aC ai ct),(7,ae dP),(9,.obj [ae db.At,ae db.cb]),(10,ae (aG (hR+db.At))),(38,.a6 ai.z ⟨4,[]⟩ ct.length),(39,ae (ct.length:Int)),(40,ae er.2),(67,aj cq fF),(68,ae (fF.length:Int)),(69,ae kJ.2.2)]) (bc.tr (y':=aC ai (hd.1++[0])) (cs2:=[aC ai eL,aC ai (hd.1++[0]),aC ai (hd.2++[0])]) q q (.ptr q) (.own q) (.r q .nil) .refl q G0 q q q q q (.n q q (.n q q (.b q (.n q q (.n q q (.n q q (.n q q (.w (en:=ai) q q q q (.n q q (.n q q (.n q q (.n q q (.n q q .nil))))))))))))))<|bC.fin q q q (.n q (.n q (.n q (.n q (.n q (.n q (.n q (.r q (cS.a6 (en:=ai) q) iz (l4 q q q q q)))))))))) ?_;exact ax.ca<|aV h ▸ ax.go (.n q (.n q (.n q (.n q (.n q (.n q (.n q (.r q (cS.a6 (en:=ai) q) iz (l4 q q q q q)))))))))
       ·exact W.fm<|ax.fe<|aV h ▸ ax.aR (.n q (.n q (.n q (.n q (.n q (.n q (.n q (.r q (cS.a6 (en:=ai) q) iz (l4 q q q q q)))))))))
      refine ax.fr<|ax.bI<|aU h λwx xD h=>aU h λG_ O7 h=>W.rd [[],[0],[],[],[3],[],[],[6],[],[8],[0,1,2,6,7],[0,1,2,6,7,10],aF 0 12 [],aF 0 13 []] [(1,_),(2,_),(3,_),(4,_),(7,_),(38,.a6 ai.z ⟨4,[]⟩ ct.length),(39,_),(40,_),(67,_),(68,_),(69,_)] eJ (by kernel_rfl) (ay 0 O.bB<|ay 1 (O.cJ (y:=.a6 ai.z ⟨3,[2]⟩ fl.2.length))<|ay 2 (O.aS (.lit q))<|ay 3 O.bB<|ay 4 (O.cJ (y:=.a6 ai.z ⟨3,[1]⟩ fl.1.length))<|ay 5 (O.aS (.lit q))<|ay 6 (O.aS (.lit q))<|ay 7 (O.add .a_ .ch)<|ay 8 O.bB<|ay 9 O.cV<|ay 10 (O.gH (en:=ai) q .c6 .a_ fX xD q)<|bC.MW 11 (G2:=[(1,.obj [aj (bF cq) a0]),(2,.obj [.aQ,.aQ,.aQ]),(3,.obj [aC ai eL,aC ai fl.1,aC ai (fl.2.set (aG (hR+db.At)).toNat (aG (dP+1)))]),(4,aC ai ct),(7,ae dP),(9,.obj [ae db.At,ae db.cb]),(10,ae (aG (hR+db.At))),(38,.a6 ai.z ⟨4,[]⟩ ct.length),(39,ae (ct.length:Int)),(40,ae er.2),(67,aj cq fF),(68,ae (fF.length:Int)),(69,ae kJ.2.2)]) (U:=[(9,105,some (ae db.cb)),(8,104,some (.ptr ⟨9,[]⟩ 1)),(5,101,some (ae (aG (hR+db.At)))),(4,100,some (.a6 ai.z ⟨3,[1]⟩ fl.1.length)),(3,99,some (.ptr ⟨3,[]⟩ 1))]) (ps:=[⟨3,[1]⟩]) (ht.cell (r:=3) (k0:=1) (y:=aC ai fl.1) (g5:=get [(1,.obj [aj (bF cq) a0]),(2,.obj [.aQ,.aQ,.aQ]),(3,.obj [aC ai eL,aC ai fl.1,aC ai (fl.2.set (aG (hR+db.At)).toNat (aG (dP+1)))]),(4,aC ai ct),(7,ae dP),(9,.obj [ae db.At,ae db.cb]),(10,ae (aG (hR+db.At))),(38,.a6 ai.z ⟨4,[]⟩ ct.length),(39,ae (ct.length:Int)),(40,ae er.2),(67,aj cq fF),(68,ae (fF.length:Int)),(69,ae kJ.2.2)]) q q b6.bk (λv _=>⟨get [(1,.obj [aj (bF cq) a0]),(2,.obj [.aQ,.aQ,.aQ]),(3,.obj [aC ai eL,.lit v,aC ai fl.2]),(4,aC ai ct),(7,ae dP),(9,.obj [ae db.At,ae db.cb]),(10,ae (aG (hR+db.At))),(38,.a6 ai.z ⟨4,[]⟩ ct.length),(39,ae (ct.length:Int)),(40,ae er.2),(67,aj cq fF),(68,ae (fF.length:Int)),(69,ae kJ.2.2),(103,ae (aG (dP+1))),(106,.ptr ⟨3,[2]⟩ ((aG (hR+db.At)).toNat * ai.z+0))],get [(1,.obj [aj (bF cq) a0]),(2,.obj [.aQ,.aQ,.aQ]),(3,.obj [aC ai eL,.lit v,aC ai (fl.2.set (aG (hR+db.At)).toNat (aG (dP+1)))]),(4,aC ai ct),(7,ae dP),(9,.obj [ae db.At,ae db.cb]),(10,ae (aG (hR+db.At))),(38,.a6 ai.z ⟨4,[]⟩ ct.length),(39,ae (ct.length:Int)),(40,ae er.2),(67,aj cq fF),(68,ae (fF.length:Int)),(69,ae kJ.2.2)],Trim.keep (.n q (.n q (.n q (.n q (.n q (.n q (.n q (.r q (cS.a6 (en:=ai) q) iz (.n q (.n q (.n q (.n q (.n q (.n q (.r q (cS.el (en:=ai) q xD q) jP .nil))))))))))))))),bc.iv (bc.uS (en:=ai) (y2:=aG (dP+1)) (cs':=[ae (aG (dP+1))]) (x2:=.obj [aC ai eL,.lit v,aC ai (fl.2.set (aG (hR+db.At)).toNat (aG (dP+1)))]) q q (.ptr q) (.lit q) q xD tt q q q q q q q (.n q q (.n q q (.b q (.n q q (.n q q (.n q q (.n q q (.w (en:=ai) q q q q (.n q q (.n q q (.n q q (.n q q (.n q q .nil)))))))))))))),q,Trim.keep (.n q (.n q (.n q (.n q (.n q (.n q (.n q (.r q (cS.a6 (en:=ai) q) iz (l4 q q q q q)))))))))⟩)) q q (by kernel_rfl) q q q (.c (.inr (.inl ⟨_,q⟩)) q q q q q (dV.wanted .none) (O.pc q .z5 qg q) (.c (.inr (.inr (.inr (.inl ⟨9,_,_,q,q,gO q,by simp,_,q,gO q⟩)))) q q q q q (dV.wanted .none) (O.ns q .z4 Vi q) (.c (.inr (.inl ⟨_,q⟩)) q q q q q (dV.wanted .none) (O.aS (.lit q)) (.c (.inl ⟨3,[1],_,_,_,_,q,by simp,q,q,Nat.le_refl _⟩) q q q q q (dV.wanted .none) (O.qC (y:=.a6 ai.z ⟨3,[1]⟩ fl.1.length) q .z5 Ic q q) (.c (.inr (.inr (.inr (.inl ⟨3,_,_,q,q,gO q,by simp,_,q,gO q⟩)))) q q q q q (dV.wanted .none) (O.ns q .z4 Vn q) .nil))))) (by kernel_rfl)<|ay 12 (O.gH (en:=ai) q .c6 .a_ fX O7 q)<|bC.gS 13 (G2:=[(1,.obj [aj (bF cq) a0]),(2,.obj [.aQ,.aQ,.aQ]),(3,.obj [aC ai eL,aC ai (fl.1.set (aG (hR+db.At)).toNat db.cb),aC ai (fl.2.set (aG (hR+db.At)).toNat (aG (dP+1)))]),(4,aC ai ct),(7,ae dP),(38,.a6 ai.z ⟨4,[]⟩ ct.length),(39,ae (ct.length:Int)),(40,ae er.2),(67,aj cq fF),(68,ae (fF.length:Int)),(69,ae kJ.2.2)]) (bc.uS (en:=ai) (y2:=db.cb) (cs':=[ae db.cb]) (x2:=.obj [aC ai eL,aC ai (fl.1.set (aG (hR+db.At)).toNat db.cb),aC ai (fl.2.set (aG (hR+db.At)).toNat (aG (dP+1)))]) q q (.ptr q) (.lit q) q O7 tt q q q q q q q (.n q q (.n q q (.b q (.n q q (.n q q (.w (en:=ai) q q q q (.n q q (.n q q (.n q q (.n q q (.n q q .nil))))))))))))<|bC.fin q q q (.n q (.n q (.n q (.n q (.n q (.r q (cS.a6 (en:=ai) q) iz (l4 q q q q q)))))))) ?_;refine ax.ca<|ax.bI<|W.rx [(1,_),(2,_),(3,_),(4,_),(7,_),(38,.a6 ai.z ⟨4,[]⟩ ct.length),(39,_),(40,_),(67,_),(68,_),(69,_)] (ak (O.add .a_ .ch)<|aE.GC (G1:=[(1,_),(2,_),(3,_),(4,_),(7,_),(38,.a6 ai.z ⟨4,[]⟩ ct.length),(39,_),(40,_),(67,_),(68,_),(108,_)]) (.n q (.n q (.n q (.n q (.n q (.r q (cS.a6 (en:=ai) q) iz (l4 q q q q q)))))))<|cK q<|j' (.n q (.n q (.n q (.n q (.n q (.r q (cS.a6 (en:=ai) q) iz (l4 q q q q q)))))))) ?_;exact aV h ▸ ax.go (.n q (.n q (.n q (.n q (.n q (.r q (cS.a6 (en:=ai) q) iz (l4 q q q q q)))))))
     ·exact W.fm<|ax.fe<|aV h ▸ ax.aR (.n q (.n q (.n q (.n q (.r q (cS.a6 (en:=ai) q) iz (l3 q q))))))
    refine ax.fr<|ax.ca<|ax.bI<|W.rx [(1,_),(2,_),(3,_),(4,_),(38,.a6 ai.z ⟨4,[]⟩ ct.length),(39,_),(40,_)] (ak (O.add .a_ .ch)<|aE.GC (G1:=[(1,_),(2,_),(3,_),(4,_),(38,.a6 ai.z ⟨4,[]⟩ ct.length),(39,_),(109,_)]) (.n q (.n q (.n q (.n q (.r q (cS.a6 (en:=ai) q) iz (l3 q q))))))<|cK q<|j' (.n q (.n q (.n q (.n q (.r q (cS.a6 (en:=ai) q) iz (l3 q q))))))) ?_;exact aV h ▸ ax.go (.n q (.n q (.n q (.n q (.r q (cS.a6 (en:=ai) q) iz (l3 q q))))))
   ·exact W.fm<|ax.fe<|aV h ▸ ax.t1
  refine ax.fr<|ax.bI<|W.ck [2] (ak (O.dJ (cs':=[.a6 ai.z ⟨3,[0]⟩ cF.cX.length,.a6 ai.z ⟨3,[1]⟩ cF.cb.length,.a6 ai.z ⟨3,[2]⟩ cF.b_.length]) q .z4 EX q q)<|aE.ji (G2:=[(2,.obj (vd.cells cF))]) q (bc.tr (y':=.agg (vd.cells cF)) (cs2:=vd.cells cF) q q (.obj q) (.dm q q) (.nP (.r q (.r q (.r q .nil))) .nil) (fG.agg (.f (.f (.f .nil)))) q LH q q q q q (.b q .nil))<|bH q) ?_;exact W.rt<|aV h ▸ jz (.c (ys0:=[.a6 ai.z ⟨2,[0]⟩ cF.cX.length,.a6 ai.z ⟨2,[1]⟩ cF.cb.length,.a6 ai.z ⟨2,[2]⟩ cF.b_.length]) q EX q q q (.o q (.o q (.o q .nil))) .nil)
instance ad9 {a0:(List (List cG))}{r:hZ}:bw prog 87 (AP a0=some r) [aj (bF cq) a0] [none] (.agg (vd.cells r)):=⟨UB a0 _⟩
theorem Ut (a0:(List Row)) (r:(List Int) × hZ) (h:yg a0=some r):bO prog 48 [aj pB a0] [none] (.bS [aj ai r.1,.agg (tS.cells r.2)]):=by
 unfold yg at h;refine bO.go (N:=⟨27,[]⟩) func48 q q q q (W.fin ?_);refine W.st [(0,aj pB a0)] ?_;refine W.ck [0,2,3] (ak (O.az .xP)<|ak (O.dv (cs:=[.aQ,.aQ,.aQ]) Es q q)<|bH q) ?_;refine W.bK [0,2,3,4] ?_;refine W.bJ<|W.ck [2,3,4,7,8,9] (ak (O.aS .z2)<|ak O.la<|ak (O.aS .ch)<|bH q) ?_;refine W.ca<|aU h λx2 ah h=>W.gi (([]:List Int),([]:List (List cG)),0) (λ(s1:List Int × List (List cG) × Int)=>[(2,aC ai s1.1),(4,aC (bF cq) s1.2.1),(9,ae s1.2.2)]) [2,3,4,7,8,9] 0 (λ(x2:List Int × List (List cG))=>[(2,aC ai x2.1),(4,aC (bF cq) x2.2)]) [2,3,4] ah (λs1 o h=>?_) ?_
 ·clear ah;refine W.bK [2,3,4,7,8,9,10] ?_;refine W.bJ<|W.bZ h q (λk2 h=>?_) (λk2 h=>?_)
  ·refine W.cM<|ax.bI<|W.bJ<|W.ca<|aU h λbW mO h=>W.ck [2,3,4,6,7,8,9] (ak (O.gY mO)<|ak (O.mS (cs':=[ae bW.Def,aj cq bW.g_]) .my Tc q q)<|ak (O.dv (cs:=[ae 0,.aQ]) ab0 q q)<|aE.dE (bc.ff [2,3,4,6,7,8,9])<|bH q) ?_;refine W.c5 (G1:=[(2,_),(3,_),(4,_),(6,_),(7,_),(8,_),(9,_)]) (G6 q q q q q q q) ?_;refine aU h λbz kp h=>aU h λbq jK h=>W.rd [[],[],[1],[1,2],[0,1,2,3],[],[],[6],[6,7],aF 0 9 [],aF 0 10 [],aF 0 11 []] [(2,_),(3,_),(4,_),(7,_),(8,_),(9,_)] eJ (by kernel_rfl) (ay 0 (O.aS .z3)<|ay 1 O.bB<|ay 2 O.cV<|bC.e4 3 (x:=aj ai [bW.Def]) (O.c8 (ys:=[ae bW.Def]) ai [bW.Def] fX q q q q q q lb q q) q q q q .none<|ay 4 (O.ap (en:=ai) (r:=bz) .c6 q .z2 .i ox q kp)<|ay 5 (O.aS .z3)<|ay 6 O.bB<|ay 7 (O.cJ (y:=aj cq bW.g_))<|bC.e4 8 (x:=aj (bF cq) [bW.g_]) (O.c8 (ys:=[aj cq bW.g_]) (bF cq) [bW.g_] aaH q q q q q q ab9 q q) q q q q .none<|ay 9 (O.ET (en:=(bF cq)) (r:=bq) .c6 q .z2 .i SM q jK (Df (by kernel_rfl) (by kernel_rfl)))<|bC.Tt 10 (G2:=[(3,.obj [.aQ,.aQ,.aQ]),(7,aj pB a0),(8,ae (a0.length:Int)),(9,ae s1.2.2),(22,aC (bF cq) (s1.2.1++[bW.g_]))]) (ht.settle (ts:=[17,22]) (xs:=[.a6 ai.z ⟨17,[]⟩ (s1.1.length+[bW.Def].length),.a6 (bF cq).z ⟨22,[]⟩ (s1.2.1.length+[bW.g_].length)]) (ys:=[.own ai.z (s1.1.length+[bW.Def].length) (bA ai s1.1++bA ai [bW.Def]),.own (bF cq).z (s1.2.1.length+[bW.g_].length) (bA (bF cq) s1.2.1++bA (bF cq) [bW.g_])]) (g2:=get [(2,.dead),(3,.obj [.aQ,.aQ,.aQ]),(4,.dead),(7,aj pB a0),(8,ae (a0.length:Int)),(9,ae s1.2.2),(17,aC ai (s1.1++[bW.Def])),(22,aC (bF cq) (s1.2.1++[bW.g_]))]) q (eN.take (.jt q q q .js (.jt q q q .js .nil))) (by decide) q (ES q q) (Trim.keep (.n q (.n q (.n q (.n q (.n q (.n q (.e q (pe _ _ _) (.e q (pe _ _ _) .nil))))))))) (bc.iv (bc.EO q q (.own q) q (.n q q (.n q q (.n q q (.n q q (.n q q .nil))))) q q))) q q (by kernel_rfl) q q (by kernel_rfl)<|bC.HP 11 (bc.kU [2,3,7,8,9])<|bC.fin q q q (rP q q q q q q)) ?_;refine ax.ca<|ax.bI<|W.bY [2,3,4,7,8,9] (ak (O.add .a_ .ch)<|aE.bY [2,3,4,7,8,23] q<|aE.bo) ?_;exact aV h ▸ ax.gt
  ·exact W.fm<|ax.fe<|aV h ▸ ax.t1
 refine ax.fr<|ax.bI<|aU h λbE mP h=>W.ck [2,3] (ak (O.aS .z3)<|ak (O.aS .z3)<|e0 (cd.mu (ys:=[.a6 (bF cq).z ⟨4,[]⟩ x2.2.length]) q (.c (.row q) .nil) (bw.go mP))<|aE.b' (bc.kU [3,26])<|aE.ji (G2:=[(2,aC ai x2.1),(3,.obj (tS.cells bE))]) q (bc.tr (y':=.agg (tS.cells bE)) (cs2:=tS.cells bE) q q (.obj q) (.agg q q) (.nP (.r q (.r q (.r q .nil))) .nil) (fG.agg (.z (.z (.z .nil)))) q LH q q q q q (.n q q (.b q .nil)))<|bH q) ?_;refine W.dL (G1:=[(2,aj ai x2.1),(3,_)]) [2] (.z q q .kt (.n q q .nil)) ?_;exact W.rt<|aV h ▸ jz (.f q q (.c (ys0:=tS.cells bE) q EX q q q (.f q (.f q (.f q .nil))) .nil))
instance adL {a0:(List Row)}{r:(List Int) × hZ}:bw prog 48 (yg a0=some r) [aj pB a0] [none] (.bS [aj ai r.1,.agg (tS.cells r.2)]):=⟨Ut a0 _⟩
theorem UC (a0:(List Int)) (r:Int) (h:v' a0=some r):bO prog 88 [aj ai a0] [none] (ae r):=by
 unfold v' at h;refine bO.go (N:=⟨44,[]⟩) func88 q q q q (W.fin ?_);refine W.st [(0,aj ai a0)] ?_;refine W.bK [0] ?_;refine W.ck [0,3] (ak (O.Y7 te tf)<|aE.q_ (G2:=[(0,aj ai a0)]) q (bc.Bm (y':=.mp (mB te tf ([]:List (Int × Int)))) q q (.mp q) (.m q .nil) .refl (.n q .nil) q q)<|bH q) ?_;refine W.bK [0,3,4] ?_;refine W.bJ<|W.ck [3,4,9,10,11] (ak (O.aS .z2)<|ak O.la<|ak (O.aS .ch)<|bH q) ?_;refine W.ca<|aU h λx2 ah h=>W.gi (([]:List (Int × Int)),(-1),0) (λ(s1:(List (Int × Int)) × Int × Int)=>[(3,.mp (mB te tf s1.1)),(4,ae s1.2.1),(11,ae s1.2.2)]) [3,4,9,10,11] 0 (λ(x2:Int)=>[(4,ae x2)]) [4] ah (λs1 o h=>?_) ?_
 ·clear ah;refine W.bK [3,4,9,10,11,12] ?_;refine W.bJ<|W.bZ h q (λk2 h=>?_) (λk2 h=>?_)
  ·refine W.cM<|ax.bI<|W.bJ<|aU h λiy ag h=>W.eI [3,4,9,10,11] [(3,.mp (mB te tf iy.1)),(4,ae iy.2)] ?_ ?_
   ·clear h; have h:=ag; clear ag;refine W.ca<|aU h λbz kp h=>W.bK [3,4,6,9,10,11] ?_;refine aU h λbq jK h=>aU h λbE mP h=>W.ck [3,4,6,9,10,11] (ak (O.aS (.mp q))<|cK q<|ak (O.ry (K:=te) (V:=tf) (m:=s1.1) (x:=bz) (Y:=ae bz) (X:=ae bq) (.gj q) q .a_ q G7 jK q)<|ak (O.add .a_ .ch)<|aE.ji (G2:=[(3,.mp (mB te tf bE)),(4,ae s1.2.1),(6,ae bz),(9,aj ai a0),(10,ae (a0.length:Int)),(11,ae s1.2.2)]) q (bc.mt (K:=te) (V:=tf) (m:=s1.1) (m':=bE) (x:=bz) (y:=aG (bq+1)) (Y:=ae bz) (Z:=ae (aG (bq+1))) (p:=⟨3,[]⟩) (x2:=.mp (mB te tf bE)) q q (.gj q) q (.lit q) q (.lit q) q G7 mP q q q (.b q (.n q q (.n q q (.n q q (.n q q (.n q q .nil)))))))<|bH q) ?_;refine aU h λcm nC h=>aU h λb5 qw h=>W.ck [3,4,6,7,9,10,11] (ak (O.aS (.mp q))<|cK q<|ak (O.ry (K:=te) (V:=tf) (m:=bE) (x:=bz) (Y:=ae bz) (X:=ae cm) (.gj q) q .a_ q G7 nC q)<|ak (O.aS (.mp q))<|cK q<|ak (O.ry (K:=te) (V:=tf) (m:=bE) (x:=s1.2.1) (Y:=ae s1.2.1) (X:=ae b5) (.gj q) q .a_ q G7 qw q)<|aE.bo) ?_;refine aU h λqf ag h=>W.k8 [3,4,6,9,10,11,40] [(40,bg qf)] ?_ ?_
    ·refine cK q<|ak (O.lss .a_ .ch)<|ak (O.aS (.lit q)) ?_;rcases eU ag with ⟨nV,ag⟩ | ⟨nV,ag⟩
     ·exact aV ag ▸ aE.bo
     ·refine bu nV (O.aS (.lit q))<|bu nV (O.gtr .a_ .ch)<|ak (O.ml .a_ nV .a_)<|ak (O.aS (.lit q)) ?_;rcases eU ag with ⟨mb,ag⟩ | ⟨mb,ag⟩
      ·exact aV ag ▸ aE.bo
      ·refine bu mb (O.aS (.lit q))<|bu mb (O.eql .a_ .ch)<|bu mb (O.aS (.lit q)) ?_;rcases eU ag with ⟨kk,ag⟩ | ⟨kk,ag⟩
       ·exact aV ag ▸ (bu kk (O.aS (.lit q))<|bu kk (O.aS (.lit q))<|bu kk (O.lss .a_ .a_)<|bu mb (O.hN .a_ kk .a_)<|aE.bo)
       ·exact aV ag ▸ (gl kk<|gl kk<|gl kk<|bu mb (O.ml .a_ kk .ch)<|aE.bo)
    refine aU h λrv ag h=>W.eI [3,4,9,10,11] [(4,ae rv)] ?_ ?_
    ·clear h; have h:=ag; clear ag;refine W.bZ h q (λw_ h=>?_) (λw_ h=>?_)
     ·refine W.bY [3,4,9,10,11] (cK q<|aE.bY [3,9,10,11,41] q<|aE.bo) ?_;exact aV h ▸ ax.dg
     ·exact W.cM<|aV h ▸ ax.dg
    exact ax.ca<|aV h ▸ ax.dg
   refine ax.bI<|W.bY [3,4,9,10,11] (ak (O.add .a_ .ch)<|aE.bY [3,4,9,10,42] q<|aE.bo) ?_;exact aV h ▸ ax.gt
  ·exact W.fm<|ax.fe<|aV h ▸ ax.t1
 refine ax.fr<|ax.bI<|W.bK [2] ?_;exact W.rt<|aV h ▸ lE
instance ad_ {a0:(List Int)}{r:Int}:bw prog 88 (v' a0=some r) [aj ai a0] [none] (ae r):=⟨UC a0 _⟩
instance ad' {a0:Act}{r:Int}:bw prog 89 (AQ a0=some r) [.agg [ae a0.Kind,ae a0.N]] [none] (ae r):=⟨λh=>by unfold AQ at h; exact bO.bo (N:=⟨55,[]⟩) [1,2,3,20,37,46] (.eK 1 [1,3] (λ(kz:Bool)=>[(3,bg kz)]) (.b .e (.eK 3 [1,20] (λ(nT:Bool)=>[(20,bg nT)]) (.b .e (.eK 5 [1,37] (λ(iF:Bool)=>[(37,bg iF)]) (.b .e (.eK 7 [46] (λ(iN:Bool)=>[(46,bg iN)]) .e))))))) func89 rfl rfl rfl rfl rfl du⟩
instance adM {a0:gP}{r:(List Row)}:bw prog 49 (DJ a0=some r) [.agg [aj (bF dT) a0.cz,aj (bF ai) a0.eB]] [none] (aj pB r):=⟨λh=>by unfold DJ at h; exact bO.bo (N:=⟨75,[]⟩) [1,2,3,5,6,8,9,10,11,13,14,15,16,19,20,21,22,27,37,38,39,40,58] (.e3 (λ(s1:List Row × Int)=>[(3,aC pB s1.1),(15,ae s1.2)]) [3,13,14,15] 0 (λ(x2:List Row)=>[(3,aC pB x2)]) [3] (.b (.e3 (λ(cI:List Int × Int)=>[(6,aC ai cI.1),(21,ae cI.2)]) [3,5,6,13,14,15,19,20,21] 2 (λ(bq:List Int)=>[(6,aC ai bq)]) [3,5,6,13,14,15] (.b (.dB [3,5,6,13,14,15,19,20,21] (λ(jL:List Int)=>[(6,aC ai jL)]) (.p (.dB [3,5,6,13,14,15,19,20,21] (λ(gX:List Int)=>[(6,aC ai gX)]) .e .e)) .e) .e) (.e3 (λ(nI:List cG × Int)=>[(2009,aC cq nI.1),(39,ae nI.2)]) [3,9,13,14,15,37,38,39] 4 (λ(c3:List cG)=>[(2009,aC cq c3)]) [3,9,13,14,15] (.b (.dB [3,9,13,14,15,37,38,39] (λ(xK:List cG)=>[(2009,aC cq xK)]) (.eK 16 [3,9,10,11,13,14,15,37,38,39,58] (λ(wQ:Bool)=>[(58,bg wQ)]) (.dB [3,9,13,14,15,37,38,39] (λ(Ku:List cG)=>[(2009,aC cq Ku)]) (.b (.rd 17 [[],[0],[],[],[3],[2,3,4],[2,3,4,5],aF 0 7 [],aF 0 8 [],aF 0 9 []] .e) .e) .e)) .e) .e) (.dL 19 9 (some 1) cq .e))) .e) .e) func49 rfl rfl rfl rfl rfl du⟩
end Go.Proofs
