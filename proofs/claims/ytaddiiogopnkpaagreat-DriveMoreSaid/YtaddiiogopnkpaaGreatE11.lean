/- Parts of the proof that the last text states. -/
import Derived.Test.YtaddiiogopnkpaaGreatRows
import Derived.Test.YtaddiiogopnkpaaGreatE9
set_option linter.unusedVariables false
namespace Go.Proofs
open Tryz
open Go Go.Own
set_option maxRecDepth 100000
set_option maxHeartbeats 4000000
set_option synthInstance.maxHeartbeats 1000000
set_option synthInstance.maxSize 10000
instance:oq cp:=⟨λx=>[(.int .i64 x.At),(.int .i64 x.cc)],λ_=>rfl,λx v hv=>by simp only [List.mem_cons,List.not_mem_nil,or_false] at hv; rcases hv with rfl | rfl <;> rfl⟩
theorem o4:jK prog 3=true:=by kernel_rfl
theorem aaP:fo prog 46 132 2=true:=by kernel_rfl
theorem Pz:uG prog 3 .i64=true:=by kernel_rfl
theorem Py:uG prog 178 .u64=true:=by kernel_rfl
theorem Bv:h5 prog 132 2=true:=by kernel_rfl
theorem call58:hA prog 58=true:=by kernel_rfl
theorem Vp:iu prog 132 1 1 3=true:=by kernel_rfl
theorem Iu:jK prog 27=true:=by kernel_rfl
theorem gm:fo prog 27 3 1=true:=by kernel_rfl
theorem Vu:iu prog 45 1 1 27=true:=by kernel_rfl
theorem sY:(prog.info? 145).bind (·.zero)=some (.agg #[.int .i64 0,.int .i64 0]):=by kernel_rfl
theorem Ec:j0 prog 145 [(0,1),(1,1)]=true:=by kernel_rfl
theorem yJ:hy prog 145 2=true:=by kernel_rfl
theorem s7:h5 prog 145 2=true:=by kernel_rfl
theorem E6:h5 prog 45 3=true:=by kernel_rfl
theorem re:h5 prog 48 11=true:=by kernel_rfl
theorem eB:prog.follows .mixedOrders=true:=by kernel_rfl
theorem NG:iu prog 58 0 0 3=true:=by kernel_rfl
theorem tH:hy prog 3 1=true:=by kernel_rfl
theorem mE:jh prog 3 1=true:=by kernel_rfl
theorem ql:il prog 27 3 1 8=true:=by kernel_rfl
theorem Hd:hy prog 27 1=true:=by kernel_rfl
theorem sR:fo prog 54 56 4=true:=by kernel_rfl
theorem vg:h5 prog 56 4=true:=by kernel_rfl
theorem ab':jh prog 56 4=true:=by kernel_rfl
theorem S2:il prog 54 56 4 48=true:=by kernel_rfl
theorem aa_:hy prog 54 1=true:=by kernel_rfl
theorem Hs:(prog.info? 56).bind (·.zero)=some (.agg #[.int .i64 0,.int .i64 0,.int .i64 0,.slice none 0 0]):=by kernel_rfl
theorem Q4:j0 prog 56 [(0,1),(1,1),(2,1),(3,1)]=true:=by kernel_rfl
theorem aa':hy prog 56 4=true:=by kernel_rfl
theorem call101:hA prog 101=true:=by kernel_rfl
theorem call76:hA prog 76=true:=by kernel_rfl
theorem ab5:(prog.info? 70).bind (·.zero)=some (.agg #[.int .i64 0,.bool false]):=by kernel_rfl
theorem aaC:j0 prog 70 [(0,1),(1,1)]=true:=by kernel_rfl
theorem aca:jh prog 70 2=true:=by kernel_rfl
theorem LM:fo prog 53 70 2=true:=by kernel_rfl
theorem S1:il prog 53 70 2 16=true:=by kernel_rfl
theorem A_:(prog.info? 58).bind (·.zero)=some (.agg #[.int .i64 0,.int .i64 0,.int .i64 0,.int .i64 0,.slice none 0 0,.slice none 0 0,.slice none 0 0,.int .i64 0,.int .i64 0,.int .i64 0,.slice none 0 0]):=by kernel_rfl
theorem ab0:(prog.info? 124).bind (·.zero)=some (.agg #[.slice none 0 0,.slice none 0 0,.slice none 0 0,.slice none 0 0,.slice none 0 0,.slice none 0 0,.slice none 0 0,.slice none 0 0,.slice none 0 0,.slice none 0 0,.slice none 0 0,.slice none 0 0,.int .i64 0,.int .i64 0,.slice none 0 0,.slice none 0 0,.int .i64 0,.int .i64 0,.int .i64 0,.int .i64 0,.int .i64 0,.slice none 0 0,.slice none 0 0,.slice none 0 0,.int .i64 0,.int .i64 0,.int .i64 0,.slice none 0 0]):=by kernel_rfl
theorem aax:j0 prog 124 [(0,11),(11,1),(12,1),(13,1),(14,1),(15,1),(16,1),(17,11)]=true:=by kernel_rfl
theorem Bx:h5 prog 58 11=true:=by kernel_rfl
theorem G7:fo prog 34 78 6=true:=by kernel_rfl
theorem Tm:h5 prog 78 6=true:=by kernel_rfl
theorem Ht:(prog.info? 78).bind (·.zero)=some (.agg #[.string ⟨#[]⟩,.bool false,.int .i64 0,.int .i64 0,.int .i64 0,.string ⟨#[]⟩]):=by kernel_rfl
theorem NI:iu prog 78 2 2 3=true:=by kernel_rfl
theorem Mb:(prog.info? 132).bind (·.zero)=some (.agg #[.int .i64 0,.int .i64 0]):=by kernel_rfl
theorem aay:j0 prog 132 [(0,1),(1,1)]=true:=by kernel_rfl
theorem ab6:jh prog 132 2=true:=by kernel_rfl
theorem S0:il prog 46 132 2 16=true:=by kernel_rfl
theorem call51:hA prog 51=true:=by kernel_rfl
theorem call52:hA prog 52=true:=by kernel_rfl
theorem aaL:fo prog 114 46 1=true:=by kernel_rfl
theorem ab3:(prog.info? 234).bind (·.zero)=some (.agg (List.replicate 1000 (Value.bool false)).toArray):=by kernel_rfl
theorem aa6:hy prog 132 2=true:=by kernel_rfl
theorem MP:zl prog 234 4 1000 1=true:=by kernel_rfl
theorem BN:jK prog 4=true:=by kernel_rfl
theorem Ro:hy prog 4 1=true:=by kernel_rfl
theorem BM:jK prog 114=true:=by kernel_rfl
theorem call140:hA prog 140=true:=by kernel_rfl
theorem EA:(prog.info? 45).bind (·.zero)=some (.agg #[.slice none 0 0,.slice none 0 0,.slice none 0 0]):=by kernel_rfl
theorem Q3:j0 prog 45 [(0,1),(1,1),(2,1)]=true:=by kernel_rfl
theorem LU:hy prog 45 3=true:=by kernel_rfl
theorem RU:(prog.info? 3).bind (·.zero)=some (.int .i64 0):=by kernel_rfl
theorem MZ:(prog.info? 3).map (·.bytes)=some 8:=by kernel_rfl
theorem call109:hA prog 109=true:=by kernel_rfl
theorem call110:hA prog 110=true:=by kernel_rfl
theorem Ti:h5 prog 162 2=true:=by kernel_rfl
theorem ab1:(prog.info? 162).bind (·.zero)=some (.agg #[.int .i64 0,.slice none 0 0]):=by kernel_rfl
theorem ab_:jh prog 46 1=true:=by kernel_rfl
theorem SS:il prog 114 46 1 24=true:=by kernel_rfl
theorem abo:prog.underlying 3=some (.int .i64):=by kernel_rfl
noncomputable abbrev tw:Bm prog 3 Int:=Sp abo
theorem acf:(prog.info? 3).bind (·.zero)=some (.int .i64 0):=by kernel_rfl
noncomputable abbrev tx:Bn prog 3 Int:=Sq acf
theorem Hi:prog.underlying 206=some (.map 3 3):=by kernel_rfl
theorem aaO:fo prog 39 146 1=true:=by kernel_rfl
theorem Rb:fo prog 146 145 2=true:=by kernel_rfl
theorem aaN:fo prog 26 27 1=true:=by kernel_rfl
theorem Hr:(prog.info? 48).bind (·.zero)=some (.agg #[.slice none 0 0,.slice none 0 0,.slice none 0 0,.slice none 0 0,.slice none 0 0,.slice none 0 0,.slice none 0 0,.slice none 0 0,.slice none 0 0,.slice none 0 0,.slice none 0 0]):=by kernel_rfl
theorem qm:h5 prog 41 2=true:=by kernel_rfl
theorem G8:fo prog 36 68 6=true:=by kernel_rfl
theorem MT:h5 prog 68 6=true:=by kernel_rfl
theorem EB:(prog.info? 68).bind (·.zero)=some (.agg #[.int .i64 0,.slice none 0 0,.int .i64 0,.string ⟨#[]⟩,.slice none 0 0,.int .i64 0]):=by kernel_rfl
theorem NH:iu prog 68 1 1 27=true:=by kernel_rfl
theorem im:h5 prog 38 5=true:=by kernel_rfl
theorem w7:jK prog 9=true:=by kernel_rfl
theorem Vw:iu prog 89 0 0 3=true:=by kernel_rfl
theorem NK:iu prog 89 2 2 87=true:=by kernel_rfl
theorem UT:jK prog 87=true:=by kernel_rfl
theorem Re:fo prog 87 91 4=true:=by kernel_rfl
theorem zm:h5 prog 91 4=true:=by kernel_rfl
theorem yG:fo prog 96 100 6=true:=by kernel_rfl
theorem Tg:h5 prog 100 6=true:=by kernel_rfl
theorem Ey:(prog.info? 100).bind (·.zero)=some (.agg #[.string ⟨#[]⟩,.bool false,.int .i64 0,.int .i64 0,.string ⟨#[]⟩,.int .i64 0]):=by kernel_rfl
theorem LL:fo prog 22 89 4=true:=by kernel_rfl
theorem MU:h5 prog 89 4=true:=by kernel_rfl
theorem wA:fo prog 23 95 3=true:=by kernel_rfl
theorem HY:h5 prog 95 3=true:=by kernel_rfl
theorem A':(prog.info? 95).bind (·.zero)=some (.agg #[.string ⟨#[]⟩,.slice none 0 0,.int .i64 0]):=by kernel_rfl
theorem BX:iu prog 95 1 1 93=true:=by kernel_rfl
theorem Iv:jK prog 93=true:=by kernel_rfl
theorem Eg:fo prog 93 98 6=true:=by kernel_rfl
theorem MV:h5 prog 98 6=true:=by kernel_rfl
theorem Vq:iu prog 248 4 8 3=true:=by kernel_rfl
theorem Vr:iu prog 248 5 9 3=true:=by kernel_rfl
theorem Vs:iu prog 248 6 10 9=true:=by kernel_rfl
theorem Rq:hy prog 9 1=true:=by kernel_rfl
theorem yF:fo prog 35 255 2=true:=by kernel_rfl
theorem LG:j0 prog 78 [(0,1),(1,1),(2,1),(3,1),(4,1),(5,1)]=true:=by kernel_rfl
theorem call148:hA prog 148=true:=by kernel_rfl
theorem acb:jh prog 78 6=true:=by kernel_rfl
theorem u2:fo prog 102 4 1=true:=by kernel_rfl
theorem Ez:(prog.info? 255).bind (·.zero)=some (.agg #[.string ⟨#[]⟩,.string ⟨#[]⟩]):=by kernel_rfl
theorem GY:j0 prog 255 [(0,1),(1,1)]=true:=by kernel_rfl
theorem Hu:jh prog 255 2=true:=by kernel_rfl
theorem HU:il prog 35 255 2 32=true:=by kernel_rfl
theorem NF:iu prog 255 1 1 9=true:=by kernel_rfl
theorem NJ:iu prog 78 3 3 3=true:=by kernel_rfl
theorem Vv:iu prog 78 4 4 3=true:=by kernel_rfl
theorem IS:iu prog 78 5 5 9=true:=by kernel_rfl
theorem G6:fo prog 246 9 1=true:=by kernel_rfl
theorem LF:j0 prog 68 [(0,1),(1,1),(2,1),(3,1),(4,1),(5,1)]=true:=by kernel_rfl
theorem Vo:iu prog 100 2 5 3=true:=by kernel_rfl
theorem Md:jh prog 68 6=true:=by kernel_rfl
theorem ML:il prog 36 68 6 88=true:=by kernel_rfl
theorem aa8:hy prog 36 1=true:=by kernel_rfl
theorem r3:(prog.info? 38).bind (·.zero)=some (.agg #[.slice none 0 0,.slice none 0 0,.slice none 0 0,.string ⟨#[]⟩,.string ⟨#[]⟩]):=by kernel_rfl
theorem Bw:h5 prog 25 4=true:=by kernel_rfl
theorem LD:j0 prog 38 [(0,1),(1,1),(2,1),(3,1),(4,1)]=true:=by kernel_rfl
theorem He:hy prog 38 5=true:=by kernel_rfl
theorem RV:(prog.info? 4).bind (·.zero)=some (.bool false):=by kernel_rfl
theorem M0:(prog.info? 4).map (·.bytes)=some 1:=by kernel_rfl
theorem ab4:(prog.info? 248).bind (·.zero)=some (.agg #[.slice none 0 0,.slice none 0 0,.slice none 0 0,.string ⟨#[]⟩,.string ⟨#[]⟩,.slice none 0 0,.slice none 0 0,.slice none 0 0,.int .i64 0,.int .i64 0,.string ⟨#[]⟩,.int .i64 0,.int .i64 0]):=by kernel_rfl
theorem aaA:j0 prog 248 [(0,5),(5,1),(6,1),(7,1),(8,1),(9,1),(10,1),(11,1),(12,1)]=true:=by kernel_rfl
theorem RW:(prog.info? 89).bind (·.zero)=some (.agg #[.int .i64 0,.string ⟨#[]⟩,.slice none 0 0,.int .i64 0]):=by kernel_rfl
theorem Mc:(prog.info? 91).bind (·.zero)=some (.agg #[.string ⟨#[]⟩,.bool false,.int .i64 0,.int .i64 0]):=by kernel_rfl
theorem aaE:j0 prog 91 [(0,1),(1,1),(2,1),(3,1)]=true:=by kernel_rfl
theorem ace:jh prog 9 1=true:=by kernel_rfl
theorem SX:il prog 246 9 1 16=true:=by kernel_rfl
theorem Tk:h5 prog 255 2=true:=by kernel_rfl
theorem Vt:iu prog 25 3 3 9=true:=by kernel_rfl
theorem Tj:h5 prog 188 2=true:=by kernel_rfl
theorem aaM:fo prog 183 188 2=true:=by kernel_rfl
theorem ab8:jh prog 188 2=true:=by kernel_rfl
theorem ab2:(prog.info? 188).bind (·.zero)=some (.agg #[.int .i64 0,.int .i64 0]):=by kernel_rfl
theorem aaz:j0 prog 188 [(0,1),(1,1)]=true:=by kernel_rfl
theorem u3:fo prog 106 186 2=true:=by kernel_rfl
theorem ND:iu prog 186 0 0 183=true:=by kernel_rfl
theorem Nj:jK prog 183=true:=by kernel_rfl
theorem RR:(prog.info? 186).bind (·.zero)=some (.agg #[.slice none 0 0,.slice none 0 0]):=by kernel_rfl
theorem QZ:j0 prog 186 [(0,1),(1,1)]=true:=by kernel_rfl
theorem RZ:jh prog 186 2=true:=by kernel_rfl
theorem SR:il prog 106 186 2 48=true:=by kernel_rfl
theorem Fi:iu prog 186 1 1 184=true:=by kernel_rfl
theorem Nk:jK prog 184=true:=by kernel_rfl
theorem RT:(prog.info? 198).bind (·.zero)=some (.agg #[.int .i64 0,.int .i64 0]):=by kernel_rfl
theorem Q1:j0 prog 198 [(0,1),(1,1)]=true:=by kernel_rfl
theorem R1:jh prog 198 2=true:=by kernel_rfl
theorem Rc:fo prog 184 198 2=true:=by kernel_rfl
theorem MK:il prog 184 198 2 16=true:=by kernel_rfl
theorem Rn:hy prog 184 1=true:=by kernel_rfl
theorem Th:h5 prog 156 5=true:=by kernel_rfl
theorem ab9:jh prog 27 1=true:=by kernel_rfl
theorem SY:il prog 26 27 1 24=true:=by kernel_rfl
theorem call130:hA prog 130=true:=by kernel_rfl
theorem call131:hA prog 131=true:=by kernel_rfl
theorem call129:hA prog 129=true:=by kernel_rfl
theorem call132:hA prog 132=true:=by kernel_rfl
theorem RS:(prog.info? 195).bind (·.zero)=some (.agg #[.int .i64 0,.int .i64 0,.int .i64 0,.int .i64 0]):=by kernel_rfl
theorem Q0:j0 prog 195 [(0,1),(1,1),(2,1),(3,1)]=true:=by kernel_rfl
theorem R0:jh prog 195 4=true:=by kernel_rfl
theorem Ra:fo prog 110 195 4=true:=by kernel_rfl
theorem HT:il prog 110 195 4 32=true:=by kernel_rfl
theorem u_:(prog.info? 41).bind (·.zero)=some (.agg #[.slice none 0 0,.slice none 0 0]):=by kernel_rfl
theorem Tr:(prog.info? 145).map (·.bytes)=some 16:=by kernel_rfl
theorem ab7:jh prog 146 1=true:=by kernel_rfl
theorem SZ:il prog 39 146 1 24=true:=by kernel_rfl
theorem aa9:hy prog 39 1=true:=by kernel_rfl
theorem Rp:hy prog 41 2=true:=by kernel_rfl
theorem aaB:j0 prog 41 [(0,1),(1,1)]=true:=by kernel_rfl
theorem GX:j0 prog 100 [(0,4),(4,1),(5,1)]=true:=by kernel_rfl
theorem Ba:(prog.info? 98).bind (·.zero)=some (.agg #[.slice none 0 0,.string ⟨#[]⟩,.bool false,.int .i64 0,.int .i64 0,.int .i64 0]):=by kernel_rfl
theorem Ed:j0 prog 98 [(0,1),(1,4),(5,1)]=true:=by kernel_rfl
theorem yQ:jh prog 100 6=true:=by kernel_rfl
theorem Hv:jh prog 98 6=true:=by kernel_rfl
theorem LH:j0 prog 95 [(0,1),(1,1),(2,1)]=true:=by kernel_rfl
theorem R3:jh prog 95 3=true:=by kernel_rfl
theorem Hq:(prog.info? 25).bind (·.zero)=some (.agg #[.string ⟨#[]⟩,.slice none 0 0,.slice none 0 0,.string ⟨#[]⟩]):=by kernel_rfl
theorem Q2:j0 prog 25 [(0,1),(1,1),(2,1),(3,1)]=true:=by kernel_rfl
theorem aaD:j0 prog 89 [(0,1),(1,1),(2,1),(3,1)]=true:=by kernel_rfl
theorem R2:jh prog 91 4=true:=by kernel_rfl
theorem S3:il prog 87 91 4 40=true:=by kernel_rfl
theorem aba:hy prog 87 1=true:=by kernel_rfl
theorem acd:jh prog 89 4=true:=by kernel_rfl
theorem SU:il prog 22 89 4 56=true:=by kernel_rfl
theorem HV:il prog 96 100 6 64=true:=by kernel_rfl
theorem MM:il prog 93 98 6 72=true:=by kernel_rfl
theorem Rr:hy prog 93 1=true:=by kernel_rfl
theorem SV:il prog 23 95 3 48=true:=by kernel_rfl
theorem aa7:hy prog 23 1=true:=by kernel_rfl
theorem Tl:h5 prog 29 5=true:=by kernel_rfl
theorem Qh {a0 aw r}(h:uS a0 aw=some r):qc (.agg (dn.cells r)):=by
 cases h;exact (inferInstance:qc (.agg [ae _,ae _,ae _,h' 4 (nf _ [])]))
theorem aaS {g:FuncId}{caps:List ab} [dm caps] (aQ:hA prog g=true) {l r:List cH}{fC:cH->cH->Option Int}(h:p7 fC l=some r) (aa:∀ a b v,fC a b=some v->bP prog g (.agg (cp.cells a)::.agg (cp.cells b)::caps) (none::none::caps.map λ_=>none) (ae v)):bP prog 51 [aC cp l,.cF (.func g) [] caps] [some (aC cp r),none] (.bS []):=bP.aaV (e:=cp) Tryz.aaW Tryz.isAgg132 Tryz.sizeOf132 aQ h aa
instance:cy prog 132 0 0 3:={}
instance:fj prog 3:={}
instance:eG prog 46 132 2:={}
instance:Bi prog 3 .i64:={}
instance:cy prog 132 1 1 3:={}
instance:cy prog 45 0 0 27:={}
instance:fj prog 27:={}
instance:eG prog 27 3 1:={}
instance:cy prog 45 2 2 27:={}
instance:cy prog 45 1 1 27:={}
instance:mF prog 145 (.agg #[.int .i64 0,.int .i64 0]):={}
instance:r4 prog 145 [(0,1),(1,1)]:={}
instance:mc prog 145 2:={}
instance:cy prog 48 1 1 45:={}
instance:mc prog 45 3:={}
instance:cy prog 48 0 0 27:={}
instance:cy prog 124 0 0 48:={}
instance:mc prog 48 11:={}
instance:cy prog 124 4 14 27:={}
instance:EI prog:={}
instance:cy prog 124 7 17 58:={}
instance:cy prog 58 1 1 3:={}
instance:cy prog 124 1 11 27:={}
instance:cy prog 58 2 2 3:={}
instance:cy prog 124 3 13 3:={}
instance:cy prog 124 2 12 3:={}
instance:cy prog 58 0 0 3:={}
instance:p' prog 27 3 1 8:={}
instance:cy prog 124 5 15 54:={}
instance:fj prog 54:={}
instance:eG prog 54 56 4:={}
instance:cy prog 58 3 3 3:={}
instance:cy prog 48 3 5 45:={}
instance:cy prog 48 2 4 27:={}
instance:cy prog 48 5 9 27:={}
instance:cy prog 48 4 8 27:={}
instance:cy prog 58 4 4 27:={}
instance:cy prog 58 6 6 27:={}
instance:cy prog 124 6 16 3:={}
instance:cy prog 58 5 5 53:={}
instance:fj prog 53:={}
instance:eG prog 53 70 2:={}
instance:cy prog 145 0 0 3:={}
instance:cy prog 145 1 1 3:={}
instance:cy prog 58 7 7 56:={}
instance:cy prog 48 6 10 46:={}
instance:fj prog 46:={}
instance:cy prog 38 0 0 34:={}
instance:fj prog 34:={}
instance:eG prog 34 78 6:={}
instance:mc prog 78 6:={}
instance:mF prog 78 (.agg #[.string ⟨#[]⟩,.bool false,.int .i64 0,.int .i64 0,.int .i64 0,.string ⟨#[]⟩]):={}
instance:cy prog 78 2 2 3:={}
instance:mF prog 132 (.agg #[.int .i64 0,.int .i64 0]):={}
instance:r4 prog 132 [(0,1),(1,1)]:={}
instance:p' prog 46 132 2 16:={}
instance:eG prog 114 46 1:={}
instance:fj prog 4:={}
instance:fj prog 114:={}
instance:eG prog 117 162 2:={}
instance:mc prog 162 2:={}
instance:mF prog 162 (.agg #[.int .i64 0,.slice none 0 0]):={}
instance:cy prog 162 0 0 3:={}
instance:cy prog 162 1 1 46:={}
instance:cy prog 41 0 0 39:={}
instance:fj prog 39:={}
instance:eG prog 39 146 1:={}
instance:fj prog 146:={}
instance:eG prog 146 145 2:={}
instance:r4 prog 162 [(0,1),(1,1)]:={}
instance:p' prog 117 162 2 32:={}
instance:cy prog 41 1 1 26:={}
instance:fj prog 26:={}
instance:eG prog 26 27 1:={}
instance:cy prog 38 2 2 36:={}
instance:fj prog 36:={}
instance:eG prog 36 68 6:={}
instance:mc prog 68 6:={}
instance:mF prog 68 (.agg #[.int .i64 0,.slice none 0 0,.int .i64 0,.string ⟨#[]⟩,.slice none 0 0,.int .i64 0]):={}
instance:cy prog 68 0 0 3:={}
instance:cy prog 68 1 1 27:={}
instance:mc prog 38 5:={}
instance:pA prog 9:={}
instance:cy prog 91 1 1 4:={}
instance:cy prog 91 0 0 9:={}
instance:fj prog 9:={}
instance:cy prog 91 2 2 3:={}
instance:cy prog 89 0 0 3:={}
instance:cy prog 89 2 2 87:={}
instance:fj prog 87:={}
instance:eG prog 87 91 4:={}
instance:cy prog 89 1 1 9:={}
instance:mc prog 91 4:={}
instance:cy prog 98 0 0 96:={}
instance:fj prog 96:={}
instance:eG prog 96 100 6:={}
instance:mc prog 100 6:={}
instance:mF prog 100 (.agg #[.string ⟨#[]⟩,.bool false,.int .i64 0,.int .i64 0,.string ⟨#[]⟩,.int .i64 0]):={}
instance:cy prog 100 1 4 9:={}
instance:cy prog 100 0 0 91:={}
instance:cy prog 98 1 1 91:={}
instance:cy prog 25 0 0 9:={}
instance:cy prog 25 1 1 22:={}
instance:fj prog 22:={}
instance:eG prog 22 89 4:={}
instance:mc prog 89 4:={}
instance:cy prog 25 2 2 23:={}
instance:fj prog 23:={}
instance:eG prog 23 95 3:={}
instance:mc prog 95 3:={}
instance:mF prog 95 (.agg #[.string ⟨#[]⟩,.slice none 0 0,.int .i64 0]):={}
instance:cy prog 95 0 0 9:={}
instance:cy prog 95 1 1 93:={}
instance:fj prog 93:={}
instance:eG prog 93 98 6:={}
instance:mc prog 98 6:={}
instance:cy prog 248 4 8 3:={}
instance:cy prog 248 5 9 3:={}
instance:cy prog 248 6 10 9:={}
instance:cy prog 248 2 6 35:={}
instance:fj prog 35:={}
instance:eG prog 35 255 2:={}
instance:cy prog 255 0 0 9:={}
instance:cy prog 248 0 0 38:={}
instance:cy prog 78 0 0 9:={}
instance:cy prog 78 1 1 4:={}
instance:r4 prog 78 [(0,1),(1,1),(2,1),(3,1),(4,1),(5,1)]:={}
instance:Bi prog 5 .u8:={}
instance:cy prog 91 3 3 3:={}
instance:p' prog 34 78 6 64:={}
instance:cy prog 248 1 5 102:={}
instance:fj prog 102:={}
instance:eG prog 102 4 1:={}
instance:p' prog 102 4 1 1:={}
instance:cy prog 255 1 1 9:={}
instance:cy prog 78 3 3 3:={}
instance:cy prog 248 7 11 3:={}
instance:cy prog 78 4 4 3:={}
instance:cy prog 248 3 7 246:={}
instance:fj prog 246:={}
instance:eG prog 246 9 1:={}
instance:cy prog 98 2 5 3:={}
instance:cy prog 100 2 5 3:={}
instance:cy prog 68 3 3 9:={}
instance:cy prog 68 5 5 3:={}
instance:cy prog 248 8 12 3:={}
instance:cy prog 68 2 2 3:={}
instance:cy prog 68 4 4 27:={}
instance:Bi prog 217 .u64:={}
instance:eG prog 148 5 1:={}
instance:mF prog 38 (.agg #[.slice none 0 0,.slice none 0 0,.slice none 0 0,.string ⟨#[]⟩,.string ⟨#[]⟩]):={}
instance:mc prog 25 4:={}
instance:mF prog 4 (.bool false):={}
instance:EJ prog 4 1:={}
instance:mF prog 91 (.agg #[.string ⟨#[]⟩,.bool false,.int .i64 0,.int .i64 0]):={}
instance:r4 prog 91 [(0,1),(1,1),(2,1),(3,1)]:={}
instance:cy prog 95 2 2 3:={}
instance:cy prog 38 1 1 35:={}
instance:cy prog 25 3 3 9:={}
instance:cy prog 38 3 3 9:={}
instance:cy prog 38 4 4 9:={}
instance:cy prog 188 0 0 3:={}
instance:cy prog 188 1 1 3:={}
instance:mc prog 188 2:={}
instance:eG prog 183 188 2:={}
instance:p' prog 183 188 2 16:={}
instance:mF prog 188 (.agg #[.int .i64 0,.int .i64 0]):={}
instance:r4 prog 188 [(0,1),(1,1)]:={}
instance:eG prog 106 186 2:={}
instance:cy prog 186 0 0 183:={}
instance:fj prog 183:={}
instance:cy prog 186 1 1 184:={}
instance:fj prog 184:={}
instance:eG prog 184 198 2:={}
instance:cy prog 198 0 0 3:={}
instance:cy prog 198 1 1 3:={}
instance:cy prog 156 4 4 27:={}
instance:cy prog 156 2 2 3:={}
instance:cy prog 156 3 3 4:={}
instance:mF prog 156 (.agg #[.int .i64 0,.int .i64 0,.int .i64 0,.bool false,.slice none 0 0]):={}
instance:r4 prog 156 [(0,1),(1,1),(2,1),(3,1),(4,1)]:={}
instance:eG prog 153 190 3:={}
instance:cy prog 190 0 0 3:={}
instance:cy prog 190 2 2 27:={}
instance:cy prog 190 1 1 3:={}
instance:mc prog 156 5:={}
instance:eG prog 107 156 5:={}
instance:p' prog 107 156 5 56:={}
instance:mF prog 229 (.agg #[.int .i64 0,.int .i64 0]):={}
instance:r4 prog 229 [(0,1),(1,1)]:={}
instance:eG prog 226 229 2:={}
instance:p' prog 226 229 2 16:={}
instance:cy prog 229 0 0 3:={}
instance:cy prog 229 1 1 3:={}
instance:p' prog 26 27 1 24:={}
instance:mF prog 27 (.slice none 0 0):={}
instance:EJ prog 27 24:={}
instance:mF prog 190 (.agg #[.int .i64 0,.int .i64 0,.slice none 0 0]):={}
instance:r4 prog 190 [(0,1),(1,1),(2,1)]:={}
instance:mc prog 190 3:={}
instance:p' prog 153 190 3 40:={}
instance:cy prog 156 0 0 3:={}
instance:cy prog 156 1 1 3:={}
instance:r4 prog 100 [(0,4),(4,1),(5,1)]:={}
instance:cy prog 70 0 0 3:={}
instance:cy prog 70 1 1 4:={}
instance:cy prog 56 0 0 3:={}
instance:cy prog 29 0 0 3:={}
instance:cy prog 29 2 2 27:={}
instance:cy prog 29 1 1 26:={}
instance:cy prog 29 3 3 27:={}
instance:cy prog 29 4 4 4:={}
instance:mc prog 70 2:={}
instance:cy prog 56 1 1 3:={}
instance:cy prog 56 2 2 3:={}
instance:cy prog 56 3 3 54:={}
instance:nn prog 26 (List Int) (bE ai):={}
instance:nn prog 27 Int ai:={}
instance:nn prog 34 b5 cv:={}
instance:nn prog 46 cH cp:={}
instance:nn prog 102 Bool e3:={}
instance:nn prog 107 Cell iW:={}
instance:nn prog 117 Row pH:={}
instance:nn prog 148 Int se:={}
instance:nn prog 153 lM uf:={}
instance:nn prog 183 Item gb:={}
instance:nn prog 226 Trans sd:={}
instance aea {a0:Int}{r:Bool}:bx prog 92 (wk a0=some r) [ae a0] [none] (bd r):=⟨λh=>by unfold wk at h; exact bP.bm (N:=⟨6,[]⟩) [0,2] .e func92 rfl rfl rfl rfl rfl dv⟩
instance adQ {a0:Int}{aw:Int}{r:Int}:bx prog 53 (tC a0 aw=some r) [ae a0,ae aw] [none,none] (ae r):=⟨λh=>by unfold tC at h; exact bP.bm (N:=⟨20,[]⟩) [0,1,4,5,6,11,12,13,16,19] .e func53 rfl rfl rfl rfl rfl dv⟩
instance adR {a0:cH}{aw:Int}{r:Int}:bx prog 58 (AR a0 aw=some r) [.agg [ae a0.At,ae a0.cc],ae aw] [none,none] (ae r):=⟨λh=>by unfold AR at h; exact bP.bm (N:=⟨9,[]⟩) [1,2,4] .e func58 rfl rfl rfl rfl rfl dv⟩
theorem UD (a0:(List cH)) (aw:Int) (r:Int × Bool) (h:DU a0 aw=some r):bP prog 57 [ak cp a0,ae aw,.cF (.func 58) [] []] [none,none,none] (.bS [ae r.1,bd r.2]):=by
 unfold DU at h;refine bP.go (N:=⟨49,[]⟩) func57 q q q q (W.fin ?_);refine W.st [(0,ak cp a0),(1,ae aw),(2,.cF (.func 58) [] [])] ?_;refine W.bK [0,1,2] ?_;refine W.bK [0,1,2,8] ?_;refine W.bK [0,1,2,8,9,10] ?_;refine W.bJ<|W.cb<|aU h λx2 ah h=>W.ht (0,(a0.length:Int)) (λ(s1:Int × Int)=>[(9,ae s1.1),(10,ae s1.2)]) [0,1,2,8,9,10] 0 (λ(x2:Int)=>[(9,ae x2)]) [0,1,2,8,9] ah (λs1 o h=>?_) ?_
 ·clear ah;refine W.bJ<|W.bK [0,1,2,8,9,10,17] ?_;refine W.bZ h q (λlg h=>?_) (λlg h=>?_)
  ·refine W.cO<|ay.bF<|aU h λiy ag h=>W.eW [0,1,2,8,9,10] [(9,ae iy.1),(10,ae iy.2)] ?_ ?_
   ·clear h; have h:=ag; clear ag;refine W.cb<|W.cm [0,1,2,8,9,10,11] (cI q<|cI q<|aj (O.add .aZ .aZ)<|aj (O.Iw .aZ Pz Py)<|aj (O.shr .aZ .b2 q)<|aj (O.Iw .aZ Py Pz)<|aE.bm) ?_;refine aU h λbA jT h=>aU h λbn jb h=>W.cm [0,1,2,8,9,10,11,31] (aj (O.aO (.cF q))<|aj (O.aO .z2)<|cI q<|aj (O.hb jT)<|aj (O.na (cs':=[ae bA.At,ae bA.cc]) .mD Bv q q)<|cI q<|eO (b_.gc (.cF q) (.bY (.dd q q) (.bY (.lit q) .nil)) (bx.go jb) call58 q)<|aE.bm) ?_;refine aU h λd_ ag h=>W.eW [0,1,2,8,9,10] [(9,ae d_.1),(10,ae d_.2)] ?_ ?_
    ·clear h; have h:=ag; clear ag;refine W.bZ h q (λn0 h=>?_) (λn0 h=>?_)
     ·refine W.b0 [0,1,2,8,9,10] (cI q<|aj (O.add .aZ .b2)<|aE.b0 [0,1,2,8,10,33] q<|aE.bm) ?_;exact aT h ▸ ay.dk
     ·refine W.b0 [0,1,2,8,9,10] (cI q<|aE.b0 [0,1,2,8,9,34] q<|aE.bm) ?_;exact aT h ▸ ay.dk
    exact ay.cb<|aT h ▸ ay.dk
   exact aT h ▸ ay.gt
  ·exact W.fq<|ay.fi<|aT h ▸ ay.t1
 refine ay.fu<|ay.bF<|aU h λiU ag h=>W.kQ [6,7] [(6,ae iU.1),(7,bd iU.2)] ?_ ?_
 ·refine cI q<|cI q<|cI q<|aj (O.lss .aZ .aZ)<|aj (O.aO (.lit q)) ?_;rcases eg ag with ⟨ie,ag⟩ | ⟨ie,ag⟩
  ·refine bp ie (O.aO (.cF q))<|bp ie (O.aO .z2)<|bp ie (O.aO (.lit q)) ?_;refine aU ag λaY jS ag=>bp ie (O.hb jS)<|bp ie (O.na (cs':=[ae aY.At,ae aY.cc]) .mD Bv q q)<|bp ie (O.aO (.lit q)) ?_;exact aU ag λdL qE ag=>aT ag ▸ (aE.c (b_.gc (.cF q) (.bY (.dd q q) (.bY (.lit q) .nil)) (bx.go qE) call58 q) q q (.kX q q ie)<|aE.bm)
  ·exact aT ag ▸ aE.bm
 exact W.rt<|aT h ▸ jF (.f q q (.f q q .nil))
theorem Ut (a0:(List cH)) (aw:Int) (r:Int) (h:wh a0 aw=some r):bP prog 25 [ak cp a0,ae aw] [none,none] (ae r):=by
 unfold wh at h;refine bP.go (N:=⟨22,[]⟩) func25 q q q q (W.fin ?_);refine W.st [(0,ak cp a0),(1,ae aw)] ?_;refine W.bK [0,1] ?_;refine W.bJ<|W.bK [0,1,8] ?_;refine W.bZ h q (λgS h=>?_) (λgS h=>?_)
 ·refine W.bK [4] ?_;exact W.rt<|ay.gn<|aT h ▸ k2
 ·refine W.cO<|ay.bF<|aU h λx2 gL h=>W.cm [0,5,6] (aj (O.aO .z2)<|cI q<|eO (b_.dG (.bY (.bc q) (.bY (.lit q) (.bY .func .nil))) (UD a0 aw _ gL))<|aj (O.aO (.abm q q))<|aj (O.ex (y:=ae x2.1) q q q)<|aj (O.ex (y:=bd x2.2) q q q)<|aE.bm) ?_;refine W.bJ<|W.bK [0,5,16] ?_;refine W.bZ h q (λlX h=>?_) (λlX h=>?_)
  ·refine W.bK [4] ?_;exact W.rt<|ay.gn<|aT h ▸ k2
  ·refine W.cO<|ay.bF<|aU h λbk nE h=>W.bK [4] ?_;exact W.rt<|aT h ▸ k2
instance adz {a0:(List cH)}{aw:Int}{r:Int}:bx prog 25 (wh a0 aw=some r) [ak cp a0,ae aw] [none,none] (ae r):=⟨Ut a0 aw _⟩
instance acU {a0:h2}{aw:Int}{a2:Int}{r:Int × Bool}:bx prog 136 (rN a0 aw a2=some r) [.agg (ue.cells a0),ae aw,ae a2] [none,none,none] (.bS [ae r.1,bd r.2]):=⟨λh=>by unfold rN at h; exact bP.bm (N:=⟨56,[]⟩) [1,2,3,6,7,8,28,50] (.eM 1 [1,2,3,28] (λ(c4:Bool)=>[(28,bd c4)]) (.b .e (.eM 4 [3,8,50] (λ(sb:Bool)=>[(50,bd sb)]) .e))) func136 rfl rfl rfl rfl rfl dv⟩
instance acV {a0:Int}{r:Act}:bx prog 137 (yg a0=some r) [ae a0] [none] (.agg [ae r.Kind,ae r.N]):=⟨λh=>by unfold yg at h; exact bP.bm (N:=⟨32,[]⟩) [0,2,3,13,23,27] (.eM 1 [0,2,3] (λ(c2:Bool)=>[(3,bd c2)]) (.b .e (.eM 3 [0,2,13] (λ(jJ:Bool)=>[(13,bd jJ)]) .e))) func137 rfl rfl rfl rfl rfl dv⟩
instance aeh {a0:Tables}{aw:Int}{a2:Int}{r:Act}:bx prog 99 (wm a0 aw a2=some r) [.agg (mM.cells a0),ae aw,ae a2] [none,none,none] (.agg [ae r.Kind,ae r.N]):=⟨λh=>by unfold wm at h; exact bP.bm (N:=⟨44,[]⟩) [1,2,3,6,7,8,17,36] (.b .e (.eM 4 [1,3,6,36] (λ(nW:Bool)=>[(36,bd nW)]) .e)) func99 rfl rfl rfl rfl rfl dv⟩
instance ad2 {a0:dA}{aw:Int}{r:Act}:bx prog 74 (yt a0 aw=some r) [.cx ((w4 a0)),ae aw] [none,none] (.agg [ae r.Kind,ae r.N]):=⟨λh=>by unfold yt at h; exact bP.bm (N:=⟨23,[]⟩) [0,1,4] (.rd 1 [[],[0],[0,1],[0,1,2],[],[4],[4,5],[4,5,6],[],[8],[8,9],[8,9,10],[8,9,10,11],aD 8 5 [],aD 4 10 [],aD 4 11 [],[],aD 0 17 [],aD 0 18 []] .e) func74 rfl rfl rfl rfl rfl dv⟩
instance ad3 {a0:dA}{r:Int}:bx prog 75 (yu a0=some r) [.cx ((w4 a0))] [none] (ae r):=⟨λh=>by unfold yu at h; exact bP.bm (N:=⟨25,[]⟩) [0,2,13] (.rd 1 [[],[0],[0,1],[0,1,2],[0,1,2,3],[],[5],[5,6],[5,6,7],[5,6,7,8],aD 0 10 []] (.b .e (.rd 3 [[],[0],[0,1],[0,1,2],[],[4],[4,5],[4,5,6],[4,5,6,7],aD 0 9 [],aD 0 10 [],aD 0 11 []] .e))) func75 rfl rfl rfl rfl rfl dv⟩
instance acy {a0:dA}{aw:Int}{r:Bool × dA}:bx prog 100 (yb a0 aw=some r) [.obj (ic.cells a0),ae aw] [some (.obj (k8 r.2)),none] (bd r.1):=⟨λh=>by unfold yb at h; exact bP.bm (N:=⟨36,[0]⟩) [0,1,4,22] (.b0 1 [[],[0],[0,1],[0,1,2],[0,1,2,3],[],[5],[5,6],[5,6,7],aD 0 9 [],aD 0 10 [],aD 0 11 [],aD 0 11 [],aD 0 11 [12],aD 0 11 [12,13],aD 0 11 [12,13,14],aD 0 16 [],aD 0 17 []] [0,22] (λ(c2:Bool)=>[(22,bd c2)]) .e) func100 rfl rfl rfl rfl rfl dv⟩
theorem UF (a0:dA) (aw:Int) (a2:Int) (a3:Node) (r:Bool × dA) (h:uR a0 aw a2 a3=some r):bP prog 76 [.obj (ic.cells a0),ae aw,ae a2,.agg (dn.cells a3)] [some (.obj (k8 r.2)),none,none,none] (bd r.1):=by
 unfold uR at h;refine bP.go (N:=⟨71,[0]⟩) func76 q q q q (W.fin ?_);refine W.st [(0,.obj (ic.cells a0)),(1,ae aw),(2,ae a2),(3,.agg (dn.cells a3))] ?_;refine W.cm [0,1,2,7] (aj (O.box (.dd q q) q)<|aE.bm) ?_;refine W.bJ<|aU h λaS gK h=>W.cm [0,1,2,7,18] (aj (O.aO .z4)<|aj (O.aO .z4)<|aj (O.cR .z5)<|aj O.y2<|aj (O.cD (y:=.a7 ai.z ⟨0,[14]⟩ a0.dt.length))<|aj (O.lF .c5 gm)<|cI q<|aj (O.sub .aZ .aZ)<|aE.jq q (fS.jW (ks:=[1,2,7]) (bx.go gK) q q q q (.b q (.n q .nil)))<|aE.bm) ?_;refine W.bZ h q (λfm h=>?_) (λfm h=>?_)
 ·refine W.bK [0,8] ?_;exact W.rt<|ay.gn<|aT h ▸ ay.fin (Fin.ro (.f q q .nil) q (p3 (by kernel_rfl)) (.al q q (.no (.no (.no .nil)))) q (.inr q))
 ·refine W.cO<|ay.bF<|W.bJ<|aU h λa8 hg h=>aU h λbk nE h=>W.rd [[],[],[1],[1,2],[1,2,3],[],[5],[5,6],[5,6,7],[5,6,7,8],[],aD 5 6 [],aD 1 11 [],[],[13],aD 1 14 [],aD 0 16 [],aD 0 17 [],aD 0 18 []] [(0,_),(2,_),(7,_)] eB (by kernel_rfl) (av 0 (O.aO .z4)<|av 1 (O.aO .z4)<|av 2 (O.cR .z5)<|av 3 O.y2<|av 4 (O.cD (y:=.a7 ai.z ⟨0,[14]⟩ aS.2.dt.length))<|av 5 (O.aO .z4)<|av 6 (O.cR .z5)<|av 7 O.y2<|av 8 (O.cD (y:=.a7 ai.z ⟨0,[14]⟩ aS.2.dt.length))<|av 9 (O.lF .c5 gm)<|av 10 (O.aO (.lit q))<|av 11 (O.sub .aZ .aZ)<|av 12 (O.Eh (en:=ai) (L:=aS.2.dt) .c5 .aZ q gm hg)<|av 13 (O.aO (.lit q))<|bB.fb 14 (x:=ak ai [aw]) (O.de (ys:=[ae aw]) ai [aw] gm q q q q q q mE q q) q q q q .none<|bB.d' 15 (G2:=(34,aC ai bk)::[(0,.obj ((k8 aS.2).set 14 .dead)),(2,ae a2),(7,.obj (dn.cells a3))]) (U:=[(0,19,some (.ptr ⟨0,[]⟩ 0))]) (h3.v (bl.jM (bl.MN (en:=ai) (L:=aS.2.dt) (M:=[aw]) (f:=14) (k:=((aG ((aS.2.dt.length:Int) - a2)).toNat)) (r:=0) (cs2:=((k8 aS.2).set 14 .dead)) (G2:=[(0,.obj ((k8 aS.2).set 14 .dead)),(2,ae a2),(7,.obj (dn.cells a3))]) q q (.a7 q) q q (xQ hg) (.bc q) .i ql q nE q (.b q (.n q q (.n q q .nil))) q q))) q q (by kernel_rfl) q q q (.c (.inr (.inr (.inr (.inl ⟨0,_,_,q,q,gU q,by simp,_,q,gU q⟩)))) q q q q q (eC.wanted .none) (O.aO .z4) .nil) (by kernel_rfl)<|av 16 (O.cR .z5)<|av 17 O.y2<|bB.gG 18 (bl.u5 [0,2,7])<|bB.fin q q q (oS q q q)) ?_;refine ay.bF<|W.bJ<|aU h λbV mX h=>aU h λbA jT h=>W.rd [[],[],[1],[1,2],[1,2,3],[],[5],[5,6],[5,6,7],[5,6,7,8],[],aD 5 6 [],aD 1 11 [],[],[13],aD 1 14 [],aD 0 16 [],aD 0 17 [],aD 0 18 []] [(0,_)] eB (by kernel_rfl) (av 0 (O.aO .z4)<|av 1 (O.aO .z4)<|av 2 (O.cR .z5)<|av 3 O.y2<|av 4 (O.cD (y:=.a7 dn.z ⟨0,[15]⟩ aS.2.fh.length))<|av 5 (O.aO .z4)<|av 6 (O.cR .z5)<|av 7 O.y2<|av 8 (O.cD (y:=.a7 dn.z ⟨0,[15]⟩ aS.2.fh.length))<|av 9 (O.lF .c5 sR)<|av 10 (O.aO (.lit q))<|av 11 (O.sub .aZ .aZ)<|av 12 (O.Eh (en:=dn) (L:=aS.2.fh) .c5 .aZ q sR mX)<|av 13 (O.dO (cs':=dn.cells a3) q .z4 vg q q)<|bB.fb 14 (x:=ak dn [a3]) (O.de (ys:=[.agg (dn.cells a3)]) dn [a3] sR q q q q q q ab' q q) q q q q .none<|bB.d' 15 (G2:=(52,aC dn bA)::[(0,.obj [ak ai aS.2.b1.Def,ak ai aS.2.b1.cA.cX,ak ai aS.2.b1.cA.cc,ak ai aS.2.b1.cA.b',ak ai aS.2.b1.jC,ak ai aS.2.b1.ej.cX,ak ai aS.2.b1.ej.cc,ak ai aS.2.b1.ej.b',ak ai aS.2.b1.Left,ak ai aS.2.b1.kD,ak cp aS.2.b1.jl,aC ai aS.2.iY,ae aS.2.jr,ae aS.2.js,aC ai bk,.dead,ae aS.2.h6,ae aS.2.bb.Kind,ae aS.2.bb.At,ae aS.2.bb.Steps,ae aS.2.bb.Deep,aC ai aS.2.bb.bu,aC iX aS.2.bb.eo,aC ai aS.2.bb.e2,ae aS.2.bb.Tree.Sym,ae aS.2.bb.Tree.Prod,ae aS.2.bb.Tree.At,h' 4 aS.2.bb.Tree.Kids])]) (U:=[(0,37,some (.ptr ⟨0,[]⟩ 0))]) (h3.v (bl.jM (bl.MN (en:=dn) (L:=aS.2.fh) (M:=[a3]) (f:=15) (k:=((aG ((aS.2.fh.length:Int) - a2)).toNat)) (r:=0) (cs2:=[ak ai aS.2.b1.Def,ak ai aS.2.b1.cA.cX,ak ai aS.2.b1.cA.cc,ak ai aS.2.b1.cA.b',ak ai aS.2.b1.jC,ak ai aS.2.b1.ej.cX,ak ai aS.2.b1.ej.cc,ak ai aS.2.b1.ej.b',ak ai aS.2.b1.Left,ak ai aS.2.b1.kD,ak cp aS.2.b1.jl,aC ai aS.2.iY,ae aS.2.jr,ae aS.2.js,aC ai bk,.dead,ae aS.2.h6,ae aS.2.bb.Kind,ae aS.2.bb.At,ae aS.2.bb.Steps,ae aS.2.bb.Deep,aC ai aS.2.bb.bu,aC iX aS.2.bb.eo,aC ai aS.2.bb.e2,ae aS.2.bb.Tree.Sym,ae aS.2.bb.Tree.Prod,ae aS.2.bb.Tree.At,h' 4 aS.2.bb.Tree.Kids]) (G2:=[(0,.obj [ak ai aS.2.b1.Def,ak ai aS.2.b1.cA.cX,ak ai aS.2.b1.cA.cc,ak ai aS.2.b1.cA.b',ak ai aS.2.b1.jC,ak ai aS.2.b1.ej.cX,ak ai aS.2.b1.ej.cc,ak ai aS.2.b1.ej.b',ak ai aS.2.b1.Left,ak ai aS.2.b1.kD,ak cp aS.2.b1.jl,aC ai aS.2.iY,ae aS.2.jr,ae aS.2.js,aC ai bk,.dead,ae aS.2.h6,ae aS.2.bb.Kind,ae aS.2.bb.At,ae aS.2.bb.Steps,ae aS.2.bb.Deep,aC ai aS.2.bb.bu,aC iX aS.2.bb.eo,aC ai aS.2.bb.e2,ae aS.2.bb.Tree.Sym,ae aS.2.bb.Tree.Prod,ae aS.2.bb.Tree.At,h' 4 aS.2.bb.Tree.Kids])]) q q (.a7 q) q q (xQ mX) (.bc q) .i S2 q jT q (.b q .nil) q q))) q q (by kernel_rfl) q q q (.c (.inr (.inr (.inr (.inl ⟨0,_,_,q,q,gU q,by simp,_,q,gU q⟩)))) q q q q q (eC.wanted .none) (O.aO .z4) .nil) (by kernel_rfl)<|av 16 (O.cR .z5)<|av 17 O.y2<|bB.gG 18 (bl.u5 [0])<|bB.fin q q q (.n q .nil)) ?_;refine ay.bF<|W.bJ<|W.rd [[],[],[1],[1,2],[1,2,3],[1,2,3,4],[],[6],[6,7],[6,7,8],[6,7,8,9],aD 6 5 [],aD 1 11 [],aD 0 13 [],aD 0 14 [],aD 0 15 [],aD 0 16 []] [(0,_)] eB (by kernel_rfl) (av 0 (O.aO .z4)<|av 1 (O.aO .z4)<|av 2 (O.cR .z5)<|av 3 O.y2<|av 4 O.y2<|av 5 O.cM<|av 6 (O.aO .z4)<|av 7 (O.cR .z5)<|av 8 O.y2<|av 9 (O.cD (y:=.a7 ai.z ⟨0,[14]⟩ bk.length))<|av 10 (O.lF .c5 gm)<|av 11 (O.sub .aZ .b2)<|av 12 (O.Gd .aZ .aZ)<|av 13 (O.cR .z5)<|av 14 O.y2<|av 15 O.y2<|bB.gG 16 (bl.l8 [0])<|bB.fin q q q (.n q .nil)) ?_;refine ay.bF<|W.bK [0,8] ?_;exact W.rt<|aT h ▸ ay.fin (Fin.ro (.f q q .nil) q (p3 (by kernel_rfl)) (.al q q (.no (.no (.no .nil)))) q (.inr q))
instance ad4 {a0:dA}{aw:Int}{a2:Int}{a3:Node}{r:Bool × dA}:bx prog 76 (uR a0 aw a2 a3=some r) [.obj (ic.cells a0),ae aw,ae a2,.agg (dn.cells a3)] [some (.obj (k8 r.2)),none,none,none] (bd r.1):=⟨UF a0 aw a2 a3 _⟩
theorem UG (a0:dA) (aw:Int) (r:Node) (h:uS a0 aw=some r):bP prog 77 [.cx ((w4 a0)),ae aw] [none,none] (.agg (dn.cells r)):=by
 unfold uS at h;refine bP.go (N:=⟨12,[]⟩) func77 q q q q (W.fin ?_);refine W.st [(0,.cx ((Vi.cells a0))),(1,ae aw)] ?_;refine W.cm [0,1,4] (aj (O.dz (cs:=[ae 0,ae 0,ae 0,.aP]) Hs q q)<|bG q) ?_;refine W.cm [4] (cI q<|aj (O.aO .mD)<|aj (O.Dm .mD)<|aj O.r2<|aj O.r2<|aj (O.jg (x:=ae a0.bb.At))<|aj (O.d' (cs:=[ae aw,ae (-1),ae a0.bb.At,.aP]) Q4 Hs q q q)<|aE.dJ (bl.fa [4])<|bG q) ?_;refine W.dP (G1:=[(4,.obj [ae aw,ae (-1),ae a0.bb.At,ak dn ([]:List Node)])]) [4] (.z q q (fI.obj (.f (.f (.f (.z .nil))))) .nil) ?_;exact W.rt<|aT h ▸ jF (.c (ys0:=[ae aw,ae (-1),ae a0.bb.At,ak dn ([]:List Node)]) q vg q q q (.f q (.f q (.f q (.f q .nil)))) .nil)
instance ad5 {a0:dA}{aw:Int}{r:Node}:bx prog 77 (uS a0 aw=some r) [.cx ((w4 a0)),ae aw] [none,none] (.agg (dn.cells r)):=⟨UG a0 aw _⟩
instance acz {a0:Tables}{aw:Int}{a2:Int}{r:Int}:bx prog 102 (Aw a0 aw a2=some r) [.agg (mM.cells a0),ae aw,ae a2] [none,none,none] (ae r):=⟨λh=>by unfold Aw at h; exact bP.bm (N:=⟨33,[]⟩) [1,2,3,6,7,8,17,27] (.b .e (.eM 4 [2,3,27] (λ(c4:Bool)=>[(27,bd c4)]) .e)) func102 rfl rfl rfl rfl rfl dv⟩
theorem UH (a0:dA) (aw:Int) (r:dA) (h:AT a0 aw=some r):bP prog 78 [.obj (ic.cells a0),ae aw] [some (.obj (k8 r)),none] (.bS []):=by
 unfold AT at h;refine bP.go (N:=⟨76,[0]⟩) func78 q q q q (W.fin ?_);refine W.st [(0,.obj (ic.cells a0)),(1,ae aw)] ?_;refine W.bJ<|aU h λaS gK h=>aU h λx2 gL h=>W.rd [[],[0],[0,1],[0,1,2],[0,1,2,3],[],aD 0 6 [],aD 0 7 [],[],[8],[8,9],[8,9,10],[8,9,10,11],[],aD 8 6 [],aD 8 7 [],aD 0 8 [],aD 0 17 []] [(0,_),(1,_),(4,_),(5,_)] eB (by kernel_rfl) (av 0 (O.aO .z4)<|av 1 (O.cR .z5)<|av 2 O.y2<|av 3 O.y2<|av 4 (O.cD (y:=ak ai a0.b1.kD))<|av 5 (O.aO (.lit q))<|av 6 (O.hb gK)<|av 7 (O.jg (x:=ae aS))<|av 8 (O.aO .z4)<|av 9 (O.cR .z5)<|av 10 O.y2<|av 11 O.y2<|av 12 (O.cD (y:=ak ai a0.b1.Left))<|av 13 (O.aO (.lit q))<|av 14 (O.hb gL)<|av 15 (O.jg (x:=ae x2))<|av 16 (O.az (.lit q))<|av 17 (O.az (.lit q))<|bB.fin q q q (p8 q q q q)) ?_;refine ay.bF<|W.bJ<|aU h λa8 hg h=>aU h λbk nE h=>W.rd [[],[0],[],[],[3],[3,4],[3,4,5],[],[7],[7,8],[7,8,9],[7,8,9,10],[],aD 7 6 [],aD 3 11 [],aD 3 12 [],aD 0 16 [],[],aD 0 18 []] [(0,_),(1,_),(4,_),(5,_),(6,_)] eB (by kernel_rfl) (av 0 (O.aO (.lit q))<|av 1 (O.add .b2 .aZ)<|av 2 (O.aO (.lit q))<|av 3 (O.aO .z4)<|av 4 (O.cR .z5)<|av 5 O.y2<|av 6 (O.cD (y:=.a7 dn.z ⟨0,[15]⟩ a0.fh.length))<|av 7 (O.aO .z4)<|av 8 (O.cR .z5)<|av 9 O.y2<|av 10 (O.cD (y:=.a7 dn.z ⟨0,[15]⟩ a0.fh.length))<|av 11 (O.lF .c5 sR)<|av 12 (O.aO (.lit q))<|av 13 (O.sub .aZ .aZ)<|av 14 (O.LN (en:=dn) (L:=a0.fh) .c5 .aZ q sR hg)<|jj 15 (b_.T7 (e:=dn) (L:=a0.fh) (m:=((aG ((a0.fh.length:Int) - aS)).toNat)) (p:=⟨0,[15]⟩) (λw ad n c news h1 af aF bh=>T9 w ad n c news h1 af aF bh) (λw n c=>T8 w n c) (.sub q) q (xQ hg) (SQ λ_=>q) nE call101 q)<|av 16 (O.d' (cs:=[ae (aG (1000+x2)),ae aw,ae (-1),.a7 dn.z ⟨38,[]⟩ bk.length]) Q4 Hs q q q)<|av 17 (O.dz (cs:=[ae 0,ae 0,ae 0,.aP]) Hs q q)<|bB.gG 18 (G2:=[(0,.obj (ic.cells a0)),(1,ae aw),(4,ae aS),(5,ae x2),(6,.obj [ae (aG (1000+x2)),ae aw,ae (-1),ak dn bk])]) (bl.tG (y':=.agg [ae (aG (1000+x2)),ae aw,ae (-1),ak dn bk]) (cs2:=[ae (aG (1000+x2)),ae aw,ae (-1),ak dn bk]) q q (.obj q) (.dd q q) (.nT (.f (.f (.f (.r q .nil)))) .nil) (fI.agg (.f (.f (.f (.z .nil))))) q aa' q q q q q (.n q q (.n q q (.n q q (.n q q (.b q .nil))))))<|bB.fin q q q (l' q q q q q)) ?_;refine ay.bF<|W.bJ<|aU h λbV mX h=>aU h λbA jT h=>aU h λbn jb h=>W.rd [[],[],[1],[1,2],[1,2,3],[],[5],[5,6],[5,6,7],[],[9],[9,10],[9,10,11],[9,10,11,12],aD 9 5 [],[],aD 9 7 [],aD 5 12 [],aD 5 13 [],[],aD 1 19 [],[],[],aD 0 23 []] [(0,_),(1,_),(63,_)] eB (by kernel_rfl) (av 0 (O.aO .z4)<|av 1 (O.aO .z4)<|av 2 (O.cR .z5)<|av 3 O.y2<|av 4 (O.dO (cs':=mM.cells a0.b1) q .z5 re q q)<|av 5 (O.aO .z4)<|av 6 (O.cR .z5)<|av 7 O.y2<|av 8 (O.cD (y:=.a7 ai.z ⟨0,[14]⟩ a0.dt.length))<|av 9 (O.aO .z4)<|av 10 (O.cR .z5)<|av 11 O.y2<|av 12 (O.cD (y:=.a7 ai.z ⟨0,[14]⟩ a0.dt.length))<|av 13 (O.lF .c5 gm)<|av 14 (O.sub .aZ .b2)<|av 15 (O.aO (.lit q))<|av 16 (O.sub .aZ .aZ)<|av 17 (O.gN (en:=ai) q .c5 .aZ gm mX q)<|av 18 (O.jV (en:=ai) (x':=ae bV) q .z5 o4 mX q q)<|av 19 (O.aO (.lit q))<|jj 20 (b_.dG (.bY (.dd q q) (.bY (.lit q) (.bY (.lit q) .nil))) (bx.go jT))<|av 21 (O.aO (.lit q))<|av 22 (O.dO (cs':=[ae (aG (1000+x2)),ae aw,ae (-1),ak dn bk]) q .z4 vg q q)<|bB.gG 23 (fS.jW (ks:=[1]) (bx.go jb) q q q q (.b q (.n q (.n q (.n q .nil)))))<|bB.fin q q q (oS q q q)) ?_;refine ay.bF<|aU h λd_ ag h=>W.eW [0] [(0,.obj ((k8 bn.2).set 21 (aC ai d_)))] ?_ ?_
 ·clear h; have h:=ag; clear ag;refine W.bZ h q (λn0 h=>?_) (λn0 h=>?_)
  ·refine aU h λch qD h=>W.b0 [0] (aj (O.aO .z4)<|aj (O.aO .z4)<|aj (O.cR .z5)<|aj O.y2<|aj O.y2<|aj (O.cD (y:=.a7 ai.z ⟨0,[21]⟩ bn.2.bb.bu.length))<|cI q<|aE.fb (x:=ak ai [aw]) (O.de (ys:=[ae aw]) ai [aw] gm q q q q q q mE q q) q q .none<|aj (O.ap (en:=ai) (r:=ch) .c5 q .z2 .i ql q qD)<|aj (O.cR .z5)<|aj O.y2<|aj O.y2<|aE.dJ (bl.sp [0])<|bG q) ?_;exact aT h ▸ ay.dk
  ·exact W.cO<|aT h ▸ ay.dk
 exact aT h ▸ ay.fin (Fin.ro .nil q (p3 (by kernel_rfl)) (.al q q (.no .nil)) q (.inl q))
instance ad6 {a0:dA}{aw:Int}{r:dA}:bx prog 78 (AT a0 aw=some r) [.obj (ic.cells a0),ae aw] [some (.obj (k8 r)),none] (.bS []):=⟨UH a0 aw _⟩
instance acA {a0:dA}{r:dA}:bx prog 103 (Dv a0=some r) [.obj (ic.cells a0)] [some (.obj (k8 r))] (.bS []):=⟨λh=>by unfold Dv at h; exact bP.bm (N:=⟨42,[0]⟩) [0,4,16] (.dD [0] (λ(xS:dA)=>[(0,.obj (ic.cells xS))]) (.b .e (.dD [0] (λ(iy:Int × List Int)=>[(19000,ae iy.1),(24000,aC ai iy.2)]) (.b (.rd 3 [[],[],[1],[1,2],[1,2,3],[1,2,3,4],[],[6],[6,7],[6,7,8],[6,7,8,9],aD 6 5 [],aD 1 11 [],aD 0 13 [],aD 0 14 [],aD 0 15 [],aD 0 16 []] .e) .e) .e)) .e) func103 rfl rfl rfl rfl rfl dv⟩
theorem UI (a0:dA) (r:dA) (h:AU a0=some r):bP prog 79 [.obj (ic.cells a0)] [some (.obj (k8 r))] (.bS []):=by
 unfold AU at h;refine bP.go (N:=⟨85,[0]⟩) func79 q q q q (W.fin ?_);refine W.st [(0,.obj (ic.cells a0))] ?_;refine W.bJ<|W.bK [0,8] ?_;refine W.bZ h q (λgS h=>?_) (λgS h=>?_)
 ·refine aU h λx2 gL h=>W.cm [0] (aj (O.aO .z4)<|aE.jq q (fS.jW (ks:=[]) (bx.go gL) q q q q (.b q .nil))<|bG q) ?_;exact W.rt<|ay.gn<|aT h ▸ ay.fin (Fin.ro .nil q (p3 (by kernel_rfl)) (.al q q .nil) q (.inr q))
 ·refine W.cO<|ay.bF<|W.bJ<|aU h λa8 hg h=>W.rd [[],[],[1],[1,2],[1,2,3],[1,2,3,4],[],[6],[6,7],[6,7,8],[6,7,8,9],[],[11],[11,12],[11,12,13],[11,12,13,14],aD 6 10 [],aD 6 11 [],aD 1 17 [],aD 0 19 [],aD 0 20 [],aD 0 21 [],aD 0 22 []] [(0,_)] eB (by kernel_rfl) (av 0 (O.aO .z4)<|av 1 (O.aO .z4)<|av 2 (O.cR .z5)<|av 3 O.y2<|av 4 O.y2<|av 5 (O.cD (y:=.a7 iX.z ⟨0,[22]⟩ a0.bb.eo.length))<|av 6 (O.aO .z4)<|av 7 (O.cR .z5)<|av 8 O.y2<|av 9 O.y2<|av 10 O.cM<|av 11 (O.aO .z4)<|av 12 (O.cR .z5)<|av 13 O.y2<|av 14 O.cM<|av 15 (O.eql .aZ .b2)<|av 16 (O.d' (cs:=[ae a0.bb.At,bd (decide (a0.h6=0))]) aaC ab5 q q q)<|bB.fb 17 (x:=ak iX [(⟨a0.bb.At,decide (a0.h6=0)⟩:qi)]) (O.de (ys:=[.agg [ae a0.bb.At,bd (decide (a0.h6=0))]]) iX [(⟨a0.bb.At,decide (a0.h6=0)⟩:qi)] LM q q q q q q aca q q) q q q q .none<|av 18 (O.ap (en:=iX) (r:=a8) .c5 q .z2 .i S1 q hg)<|av 19 (O.cR .z5)<|av 20 O.y2<|av 21 O.y2<|bB.gG 22 (bl.sp [0])<|bB.fin q q q (.n q .nil)) ?_;refine ay.bF<|W.cm [0] (aj (O.aO .z4)<|aj (O.cR .z5)<|aj O.y2<|aE.dJ (bl.l8 [0])<|bG q) ?_;refine aU h λbk nE h=>W.cm [0,2] (aj (O.aO .z4)<|eO (b_.mz (ys:=[.ptr ⟨0,[]⟩ 0,ae 1]) q (.c (View.kP q q) (.s .nil)) (bx.go nE))<|aj (O.dz (cs:=[ae 0,ae 0]) sY q q)<|aE.dJ (bl.fa [0,2])<|bG q) ?_;refine W.bJ<|W.cb<|aU h λbA ah h=>W.gg ((⟨a0.b1,a0.iY,a0.jr,a0.js,a0.dt,a0.fh,3,(⟨a0.bb.Kind,a0.bb.At,a0.bb.Steps,a0.bb.Deep,a0.bb.bu,a0.bb.eo++[(⟨a0.bb.At,decide (a0.h6=0)⟩:qi)],a0.bb.e2,a0.bb.Tree⟩:eH)⟩:dA),bk.Kind,bk.N) (λ(b3:dA × Int × Int)=>[(0,.obj (ic.cells b3.1)),(2,.obj [ae b3.2.1,ae b3.2.2])]) [0,2] 0 (λ(bn:dA × Int × Int)=>[(0,.obj (ic.cells bn.1)),(2,.obj [ae bn.2.1,ae bn.2.2])]) [0,2] (λ(bL:dA)=>[(0,.obj (ic.cells bL))]) [0] ah (λb3 o h=>?_) (λbn J=>?_) (λbL J=>?_)
  ·clear ah;refine W.bJ<|W.bK [0,2,40] ?_;refine W.bZ h q (λn0 h=>?_) (λn0 h=>?_)
   ·refine W.cO<|ay.bF<|W.bJ<|W.cb<|W.bK [0,2,3] ?_;refine W.bJ<|W.bK [0,2,3,50] ?_;refine W.bZ h q (λie h=>?_) (λie h=>?_)
    ·refine W.cm [0] (aj (O.aO .z4)<|aj (O.cR .z5)<|aj O.y2<|aj O.y2<|aE.dJ (bl.l8 [0])<|bG q) ?_;exact W.rt<|ay.gn<|ay.lP<|ay.gn<|aT h ▸ ay.iQ (.n q .nil)
    ·refine W.cO<|ay.bF<|W.bJ<|aU h λaY jS h=>W.cm [0,2,3,59] (aj (O.aO .z4)<|cI q<|aj (O.sub .aZ .b2)<|aE.jq q (fS.jW (ks:=[2,3]) (bx.go jS) q q q q (.b q (.n q .nil)))<|aE.bm) ?_;refine W.bZ h q (λmi h=>?_) (λmi h=>?_)
     ·exact W.rt<|ay.gn<|ay.lP<|ay.gn<|aT h ▸ ay.iQ (.n q .nil)
     ·refine W.cO<|ay.bF<|aU h λcu sy h=>aU h λeF pW h=>W.rd [[],[],[],[2],[2,3],[2,3,4],[],aD 2 5 [],[],[8],[8,9],[8,9,10],[],[12],aD 8 6 [],(0::aD 2 10 []),(0::aD 2 10 [15]),(0::aD 2 10 [15,16]),aD 0 18 [],aD 0 19 [],aD 0 20 []] [(0,_),(2,_)] eB (by kernel_rfl) (av 0 (O.aO .z4)<|av 1 (O.aO .z4)<|av 2 (O.aO .z4)<|av 3 (O.cR .z5)<|av 4 O.y2<|av 5 (O.cD (y:=.a7 ai.z ⟨0,[14]⟩ aY.2.dt.length))<|av 6 (O.aO (.lit q))<|av 7 (O.Eh (en:=ai) (L:=aY.2.dt) .c5 .aZ q gm sy)<|av 8 (O.aO .z4)<|av 9 (O.cR .z5)<|av 10 O.y2<|av 11 (O.cD (y:=.a7 dn.z ⟨0,[15]⟩ aY.2.fh.length))<|av 12 (O.aO (.lit q))<|av 13 (O.sub .aZ .b2)<|av 14 (O.Eh (en:=dn) (L:=aY.2.fh) .c5 .aZ q sR pW)<|av 15 (O.cR .z5)<|av 16 O.y2<|bB.M7 17 (G2:=(71,.a7 dn.z ⟨0,[15]⟩ aY.2.fh.length)::[(0,.obj ((k8 aY.2).set 14 (aC ai (aY.2.dt.take ((aG ((b3.1.dt.length:Int) - 1)).toNat))))),(2,.obj [ae b3.2.1,ae b3.2.2]),(3,ae (aG ((b3.1.dt.length:Int) - 1)))]) (U:=[(14,74,some (.a7 dn.z ⟨0,[15]⟩ ((aG ((aG ((b3.1.dt.length:Int) - 1)) - 1)).toNat))),(13,73,some (ae (aG ((aG ((b3.1.dt.length:Int) - 1)) - 1)))),(12,72,some (ae (aG ((b3.1.dt.length:Int) - 1)))),(1,61,some (.ptr ⟨0,[]⟩ 0))]) (ps:=[⟨0,[15]⟩]) (np.back (t:=71) (x:=.a7 dn.z ⟨0,[15]⟩ aY.2.fh.length) (G5:=[(0,.obj ((k8 aY.2).set 14 (aC ai (aY.2.dt.take ((aG ((b3.1.dt.length:Int) - 1)).toNat))))),(2,.obj [ae b3.2.1,ae b3.2.2]),(3,ae (aG ((b3.1.dt.length:Int) - 1)))]) (h3.cell (r:=0) (k0:=15) (y:=aC dn aY.2.fh) (g5:=get [(0,.obj ((k8 aY.2).set 14 (aC ai (aY.2.dt.take ((aG ((b3.1.dt.length:Int) - 1)).toNat))))),(2,.obj [ae b3.2.1,ae b3.2.2]),(3,ae (aG ((b3.1.dt.length:Int) - 1)))]) q q b9.bq (λv _=>⟨get [(0,.obj ((k8 aY.2).set 15 (.lit v))),(2,.obj [ae b3.2.1,ae b3.2.2]),(3,ae (aG ((b3.1.dt.length:Int) - 1))),(67,.a7 ai.z ⟨0,[14]⟩ ((aG ((b3.1.dt.length:Int) - 1)).toNat)),(76,.ptr ⟨0,[]⟩ 14)],get [(0,.obj [ak ai aY.2.b1.Def,ak ai aY.2.b1.cA.cX,ak ai aY.2.b1.cA.cc,ak ai aY.2.b1.cA.b',ak ai aY.2.b1.jC,ak ai aY.2.b1.ej.cX,ak ai aY.2.b1.ej.cc,ak ai aY.2.b1.ej.b',ak ai aY.2.b1.Left,ak ai aY.2.b1.kD,ak cp aY.2.b1.jl,aC ai aY.2.iY,ae aY.2.jr,ae aY.2.js,aC ai (aY.2.dt.take ((aG ((b3.1.dt.length:Int) - 1)).toNat)),.lit v,ae aY.2.h6,ae aY.2.bb.Kind,ae aY.2.bb.At,ae aY.2.bb.Steps,ae aY.2.bb.Deep,aC ai aY.2.bb.bu,aC iX aY.2.bb.eo,aC ai aY.2.bb.e2,ae aY.2.bb.Tree.Sym,ae aY.2.bb.Tree.Prod,ae aY.2.bb.Tree.At,h' 4 aY.2.bb.Tree.Kids]),(2,.obj [ae b3.2.1,ae b3.2.2]),(3,ae (aG ((b3.1.dt.length:Int) - 1)))],Trim.keep (.n q (.n q (.n q (.r q (cU.Tw (en:=ai) (L:=aY.2.dt) q (xQ sy)) iz (.q q q q .nil))))),bl.jM (bl.Rz (en:=ai) (L:=aY.2.dt) (f:=14) (k:=((aG ((b3.1.dt.length:Int) - 1)).toNat)) (r:=0) (cs1:=[ak ai aY.2.b1.Def,ak ai aY.2.b1.cA.cX,ak ai aY.2.b1.cA.cc,ak ai aY.2.b1.cA.b',ak ai aY.2.b1.jC,ak ai aY.2.b1.ej.cX,ak ai aY.2.b1.ej.cc,ak ai aY.2.b1.ej.b',ak ai aY.2.b1.Left,ak ai aY.2.b1.kD,ak cp aY.2.b1.jl,aC ai aY.2.iY,ae aY.2.jr,ae aY.2.js,.dead,.lit v,ae aY.2.h6,ae aY.2.bb.Kind,ae aY.2.bb.At,ae aY.2.bb.Steps,ae aY.2.bb.Deep,aC ai aY.2.bb.bu,aC iX aY.2.bb.eo,aC ai aY.2.bb.e2,ae aY.2.bb.Tree.Sym,ae aY.2.bb.Tree.Prod,ae aY.2.bb.Tree.At,h' 4 aY.2.bb.Tree.Kids]) (cs2:=[ak ai aY.2.b1.Def,ak ai aY.2.b1.cA.cX,ak ai aY.2.b1.cA.cc,ak ai aY.2.b1.cA.b',ak ai aY.2.b1.jC,ak ai aY.2.b1.ej.cX,ak ai aY.2.b1.ej.cc,ak ai aY.2.b1.ej.b',ak ai aY.2.b1.Left,ak ai aY.2.b1.kD,ak cp aY.2.b1.jl,aC ai aY.2.iY,ae aY.2.jr,ae aY.2.js,aC ai (aY.2.dt.take ((aG ((b3.1.dt.length:Int) - 1)).toNat)),.lit v,ae aY.2.h6,ae aY.2.bb.Kind,ae aY.2.bb.At,ae aY.2.bb.Steps,ae aY.2.bb.Deep,aC ai aY.2.bb.bu,aC iX aY.2.bb.eo,aC ai aY.2.bb.e2,ae aY.2.bb.Tree.Sym,ae aY.2.bb.Tree.Prod,ae aY.2.bb.Tree.At,h' 4 aY.2.bb.Tree.Kids]) q q (.ptr q) (.a7 q) q q (xQ sy) Hd q q q (.b q (.n q q (.n q q .nil)))),q,Trim.keep (oS q q q)⟩)) (by intro p e; cases e with | head=>exact λh=>nomatch (show some _=none from h) | tail _ e=>cases e) q q (by simp) (.inl ⟨0,[15],_,_,_,_,q,by simp,q,q,Nat.le_refl _⟩)) q q (by kernel_rfl) q q q (.c (.inl ⟨0,[15],_,_,_,_,q,by simp,q,q,xQ pW⟩) q q q q q (eC.wanted .none) (O.Eh (en:=dn) (L:=aY.2.fh) .c5 .aZ q sR pW) (.c (.inr (.inl ⟨_,q⟩)) q q q q q (eC.wanted .none) (O.sub .aZ .b2) (.c (.inr (.inl ⟨_,q⟩)) q q q q q (eC.wanted .none) (O.aO (.lit q)) (.c (.inr (.inr (.inr (.inl ⟨0,_,_,q,q,gU q,by simp,_,q,gU q⟩)))) q q q q q (eC.wanted .none) (O.aO .z4) .nil)))) (by kernel_rfl)<|av 18 (O.cR .z5)<|av 19 O.y2<|bB.gG 20 (G2:=[(0,.obj [ak ai aY.2.b1.Def,ak ai aY.2.b1.cA.cX,ak ai aY.2.b1.cA.cc,ak ai aY.2.b1.cA.b',ak ai aY.2.b1.jC,ak ai aY.2.b1.ej.cX,ak ai aY.2.b1.ej.cc,ak ai aY.2.b1.ej.b',ak ai aY.2.b1.Left,ak ai aY.2.b1.kD,ak cp aY.2.b1.jl,aC ai aY.2.iY,ae aY.2.jr,ae aY.2.js,aC ai (aY.2.dt.take ((aG ((b3.1.dt.length:Int) - 1)).toNat)),aC dn (aY.2.fh.take ((aG ((aG ((b3.1.dt.length:Int) - 1)) - 1)).toNat)),ae aY.2.h6,ae aY.2.bb.Kind,ae aY.2.bb.At,ae aY.2.bb.Steps,ae aY.2.bb.Deep,aC ai aY.2.bb.bu,aC iX aY.2.bb.eo,aC ai aY.2.bb.e2,ae aY.2.bb.Tree.Sym,ae aY.2.bb.Tree.Prod,ae aY.2.bb.Tree.At,h' 4 aY.2.bb.Tree.Kids]),(2,.obj [ae b3.2.1,ae b3.2.2])]) (bl.Rz (en:=dn) (L:=aY.2.fh) (f:=15) (k:=((aG ((aG ((b3.1.dt.length:Int) - 1)) - 1)).toNat)) (r:=0) (cs1:=[ak ai aY.2.b1.Def,ak ai aY.2.b1.cA.cX,ak ai aY.2.b1.cA.cc,ak ai aY.2.b1.cA.b',ak ai aY.2.b1.jC,ak ai aY.2.b1.ej.cX,ak ai aY.2.b1.ej.cc,ak ai aY.2.b1.ej.b',ak ai aY.2.b1.Left,ak ai aY.2.b1.kD,ak cp aY.2.b1.jl,aC ai aY.2.iY,ae aY.2.jr,ae aY.2.js,aC ai (aY.2.dt.take ((aG ((b3.1.dt.length:Int) - 1)).toNat)),.dead,ae aY.2.h6,ae aY.2.bb.Kind,ae aY.2.bb.At,ae aY.2.bb.Steps,ae aY.2.bb.Deep,aC ai aY.2.bb.bu,aC iX aY.2.bb.eo,aC ai aY.2.bb.e2,ae aY.2.bb.Tree.Sym,ae aY.2.bb.Tree.Prod,ae aY.2.bb.Tree.At,h' 4 aY.2.bb.Tree.Kids]) (cs2:=[ak ai aY.2.b1.Def,ak ai aY.2.b1.cA.cX,ak ai aY.2.b1.cA.cc,ak ai aY.2.b1.cA.b',ak ai aY.2.b1.jC,ak ai aY.2.b1.ej.cX,ak ai aY.2.b1.ej.cc,ak ai aY.2.b1.ej.b',ak ai aY.2.b1.Left,ak ai aY.2.b1.kD,ak cp aY.2.b1.jl,aC ai aY.2.iY,ae aY.2.jr,ae aY.2.js,aC ai (aY.2.dt.take ((aG ((b3.1.dt.length:Int) - 1)).toNat)),aC dn (aY.2.fh.take ((aG ((aG ((b3.1.dt.length:Int) - 1)) - 1)).toNat)),ae aY.2.h6,ae aY.2.bb.Kind,ae aY.2.bb.At,ae aY.2.bb.Steps,ae aY.2.bb.Deep,aC ai aY.2.bb.bu,aC iX aY.2.bb.eo,aC ai aY.2.bb.e2,ae aY.2.bb.Tree.Sym,ae aY.2.bb.Tree.Prod,ae aY.2.bb.Tree.At,h' 4 aY.2.bb.Tree.Kids]) q q (.ptr q) (.a7 q) q q (xQ pW) aa_ q q q (.b q (.n q q .nil)))<|bB.fin q q q (l_ q q)) ?_;refine ay.cb<|ay.bF<|aU h λcL mW h=>W.b0 [0,2] (aj (O.aO .z4)<|eO (b_.mz (ys:=[.ptr ⟨0,[]⟩ 0,ae 1]) q (.c (View.kP q q) (.s .nil)) (bx.go mW))<|aE.dJ (bl.fa [0,2])<|bG q) ?_;exact aT h ▸ ay.gt
   ·exact W.fq<|ay.fi<|aT h ▸ ay.x2 (l_ q q)
  ·subst J;refine ay.fu<|ay.bF<|aU h λdr nD h=>aU h λcY lD h=>W.rd [[],[],[1],[],[3],aD 0 5 []] [(0,_)] eB (by kernel_rfl) (av 0 (O.aO .z4)<|av 1 O.bz<|av 2 O.cM<|av 3 (O.aO .z4)<|jj 4 (b_.mz (ys:=[.ptr ⟨0,[]⟩ 0,ae 1]) (hr:=Qh nD) q (.c (View.kP q q) (.s .nil)) (bx.go nD))<|bB.gG 5 (G2:=[(84,bd cY.1),(0,.obj (ic.cells cY.2))]) (bl.call q q (k1.jW (G2:=[]) (A:=[]) (ys:=[.ptr ⟨0,[]⟩ 0,ae bn.2.2,ae 0,.agg (dn.cells dr)]) (args:=[.obj (ic.cells bn.1),ae bn.2.2,ae 0,.agg (dn.cells dr)]) (cs':=ic.cells cY.2) (k0:=0) q q q q (.b q (.n q (.n q (.n q .nil)))) q (bx.go lD) call76 .nil q q .nil .nil q))<|bB.fin q q q (.n q .nil)) ?_;exact aT h ▸ ay.fin (Fin.ro .nil q (p3 (by kernel_rfl)) (.al q q .nil) q (.inl q))
  ·subst J;exact ay.lP<|ay.gn<|aT h ▸ ay.fin (Fin.ro .nil q (p3 (by kernel_rfl)) (.al q q .nil) q (.inr q))
instance ad7 {a0:dA}{r:dA}:bx prog 79 (AU a0=some r) [.obj (ic.cells a0)] [some (.obj (k8 r))] (.bS []):=⟨UI a0 _⟩
theorem UA (a0:dA) (r:dA) (h:yp a0=some r):bP prog 44 [.obj (ic.cells a0)] [some (.obj (k8 r))] (.bS []):=by
 unfold yp at h;refine bP.go (N:=⟨67,[0]⟩) func44 q q q q (W.fin ?_);refine W.st [(0,.obj (ic.cells a0))] ?_;refine aU h λaS gK h=>aU h λx2 gL h=>W.cm [0,2] (aj (O.aO .z4)<|aj (O.aO .z4)<|eO (b_.mz (ys:=[.ptr ⟨0,[]⟩ 0]) q (.c (View.kP q q) .nil) (bx.go gK))<|eO (b_.mz (ys:=[.ptr ⟨0,[]⟩ 0,ae aS]) q (.c (View.kP q q) (.s .nil)) (bx.go gL))<|aj (O.dz (cs:=[ae 0,ae 0]) sY q q)<|aE.dJ (bl.fa [0,2])<|bG q) ?_;refine W.bK [0,2,8] ?_;refine aU h λhF ag h=>W.eW [0] [(0,.obj (ic.cells hF))] ?_ ?_
 ·clear h; have h:=ag; clear ag;refine W.cb<|W.bK [0,2,8,11] ?_;refine aU h λxV ag h=>W.eW [0] [(0,.obj (ic.cells xV))] ?_ ?_
  ·clear h; have h:=ag; clear ag;refine W.bZ h q (λqv h=>?_) (λqv h=>?_)
   ·refine W.bJ<|aU h λbA jT h=>aU h λbn jb h=>aU h λbL mY h=>W.rd [[],[],[1],[],[],[4],[3,4,5],aD 0 7 []] [(0,_),(20,_)] eB (by kernel_rfl) (av 0 (O.aO .z4)<|av 1 O.bz<|av 2 O.cM<|av 3 (O.aO .z4)<|av 4 (O.aO .z4)<|jj 5 (b_.mz (ys:=[.ptr ⟨0,[]⟩ 0]) q (.c (View.kP q q) .nil) (bx.go jT))<|jj 6 (b_.mz (ys:=[.ptr ⟨0,[]⟩ 0,ae bA]) (hr:=Qh jb) q (.c (View.kP q q) (.s .nil)) (bx.go jb))<|bB.gG 7 (G2:=[(20,bd bL.1),(0,.obj (ic.cells bL.2))]) (bl.call q q (k1.jW (G2:=[]) (A:=[]) (ys:=[.ptr ⟨0,[]⟩ 0,ae x2.N,ae 0,.agg (dn.cells bn)]) (args:=[.obj (ic.cells a0),ae x2.N,ae 0,.agg (dn.cells bn)]) (cs':=ic.cells bL.2) (k0:=0) q q q q (.b q (.n q (.n q (.n q .nil)))) q (bx.go mY) call76 .nil q q .nil .nil q))<|bB.fin q q q (l_ q q)) ?_;refine ay.bF<|aU h λm_ ag h=>W.eW [0] [(0,.obj [ak ai bL.2.b1.Def,ak ai bL.2.b1.cA.cX,ak ai bL.2.b1.cA.cc,ak ai bL.2.b1.cA.b',ak ai bL.2.b1.jC,ak ai bL.2.b1.ej.cX,ak ai bL.2.b1.ej.cc,ak ai bL.2.b1.ej.b',ak ai bL.2.b1.Left,ak ai bL.2.b1.kD,ak cp bL.2.b1.jl,aC ai bL.2.iY,ae bL.2.jr,ae bL.2.js,aC ai bL.2.dt,aC dn bL.2.fh,ae m_.1,ae bL.2.bb.Kind,ae m_.2,ae bL.2.bb.Steps,ae bL.2.bb.Deep,aC ai bL.2.bb.bu,aC iX bL.2.bb.eo,aC ai bL.2.bb.e2,ae bL.2.bb.Tree.Sym,ae bL.2.bb.Tree.Prod,ae bL.2.bb.Tree.At,h' 4 bL.2.bb.Tree.Kids])] ?_ ?_
    ·clear h; have h:=ag; clear ag;refine W.bZ h q (λie h=>?_) (λie h=>?_)
     ·refine W.cm [0] (aj (O.aO .z4)<|aj (O.cR .z5)<|aj O.y2<|aj O.y2<|aj O.cM<|aj (O.add .aZ .b2)<|aj (O.cR .z5)<|aj O.y2<|aj O.y2<|aE.dJ (bl.l8 [0])<|bG q) ?_;refine W.b0 [0] (aj (O.aO .z4)<|aj (O.aO .z4)<|aj (O.cR .z5)<|aj O.y2<|aj O.cM<|aj (O.sub .aZ .b2)<|aj (O.Gd .aZ .b2)<|aj (O.cR .z5)<|aj O.y2<|aE.dJ (bl.l8 [0])<|bG q) ?_;exact aT h ▸ ay.dk
     ·exact W.cO<|aT h ▸ ay.dk
    exact aT h ▸ ay.dk
   ·refine W.bK [0,2,8,39] ?_;refine aU h λjc ag h=>W.eW [0] [(0,.obj (ic.cells jc))] ?_ ?_
    ·clear h; have h:=ag; clear ag;refine W.bZ h q (λmi h=>?_) (λmi h=>?_)
     ·refine aU h λcu sy h=>W.b0 [0] (aj (O.aO .z4)<|aj O.bz<|aj O.cM<|aE.jq q (fS.jW (ks:=[]) (bx.go sy) q q q q (.b q (.n q .nil)))<|bG q) ?_;exact aT h ▸ ay.dk
     ·refine W.bK [0,45] ?_;refine aU h λfX ag h=>W.eW [0] [(0,.obj (ic.cells fX))] ?_ ?_
      ·clear h; have h:=ag; clear ag;refine W.bZ h q (λiK h=>?_) (λiK h=>?_)
       ·refine aU h λdr nD h=>W.rd [[],[],[],[2],[2,3],[2,3,4],[],[6],[6,7],[6,7,8],[6,7,8,9],aD 6 5 [],aD 2 10 [],aD 2 11 [],(0::aD 2 12 []),(0::aD 2 13 []),(0::aD 2 14 []),(0::aD 2 15 []),aD 0 18 [],aD 0 19 [],aD 0 20 [],aD 0 21 []] [(0,_)] eB (by kernel_rfl) (av 0 (O.aO .z4)<|av 1 (O.aO .z4)<|av 2 (O.aO .z4)<|av 3 (O.cR .z5)<|av 4 O.y2<|av 5 (O.cD (y:=.a7 dn.z ⟨0,[15]⟩ a0.fh.length))<|av 6 (O.aO .z4)<|av 7 (O.cR .z5)<|av 8 O.y2<|av 9 (O.cD (y:=.a7 dn.z ⟨0,[15]⟩ a0.fh.length))<|av 10 (O.lF .c5 sR)<|av 11 (O.sub .aZ .b2)<|av 12 (O.gN (en:=dn) q .c5 .aZ sR nD q)<|av 13 (O.Y2 (en:=dn) (cs':=dn.cells dr) q .z5 vg nD q q)<|av 14 (O.cR .z5)<|av 15 O.y2<|av 16 O.y2<|bB.d' 17 (G2:=[(0,.obj ((k8 a0).set 17 (ae 1))),(60,.agg (dn.cells dr))]) (U:=[(1,48,some (.ptr ⟨0,[]⟩ 0))]) (h3.v (bl.jM (bl.kf (G2:=[(0,.obj ((k8 a0).set 17 (ae 1))),(60,.agg (dn.cells dr))]) (cs2:=((k8 a0).set 17 (ae 1))) q q q (.ptr q) (.k q) q tH q q q q (.b q (.n q q .nil))))) q q (by kernel_rfl) q q q (.c (.inr (.inr (.inr (.inl ⟨0,_,_,q,q,gU q,by simp,_,q,gU q⟩)))) q q q q q (eC.wanted .none) (O.aO .z4) .nil) (by kernel_rfl)<|av 18 (O.cR .z5)<|av 19 O.y2<|av 20 O.y2<|bB.gG 21 (bl.fa [0])<|bB.fin q q q (.n q .nil)) ?_;exact aT h ▸ ay.dk
       ·refine aU h λcY lD h=>W.b0 [0] (aj (O.aO .z4)<|aE.jq q (fS.jW (ks:=[]) (bx.go lD) q q q q (.b q .nil))<|bG q) ?_;exact aT h ▸ ay.dk
      exact aT h ▸ ay.dk
    exact aT h ▸ ay.dk
  exact ay.cb<|aT h ▸ ay.dk
 exact aT h ▸ ay.fin (Fin.ro .nil q (p3 (by kernel_rfl)) (.al q q .nil) q (.inl q))
instance adL {a0:dA}{r:dA}:bx prog 44 (yp a0=some r) [.obj (ic.cells a0)] [some (.obj (k8 r))] (.bS []):=⟨UA a0 _⟩
theorem Up (a0:Tables) (aw:(List Int)) (a2:Int) (a3:Int) (r:eH) (h:pj a0 aw a2 a3=some r):bP prog 16 [.agg (mM.cells a0),ak ai aw,ae a2,ae a3] [none,none,none,none] (.agg (pG.cells r)):=by
 unfold pj at h;refine bP.go (N:=⟨62,[]⟩) func16 q q q q (W.fin ?_);refine W.st [(0,.agg (mM.cells a0)),(1,ak ai aw),(2,ae a2),(3,ae a3)] ?_;refine W.cm [1,2,3,4,8] (aj (O.box (.dd q q) q)<|aj (O.dz (cs:=[ae 0,ae 0,ae 0,ae 0,.aP,.aP,.aP,ae 0,ae 0,ae 0,.aP]) A_ q q)<|bG q) ?_;refine W.cm [1,2,3,4,8,9] (aj (O.dO (cs':=mM.cells a0) q .z4 re q q)<|aj (O.vk (ys:=[ae 0]) (cs:=[ae 0]) gm q q q q q mE q q)<|aj (O.d' (cs:=[ak ai a0.Def,ak ai a0.cA.cX,ak ai a0.cA.cc,ak ai a0.cA.b',ak ai a0.jC,ak ai a0.ej.cX,ak ai a0.ej.cc,ak ai a0.ej.b',ak ai a0.Left,ak ai a0.kD,ak cp a0.jl,.aP,ae 0,ae 0,.a7 1 ⟨13,[]⟩ 1,.aP,ae 0,ae 0,ae 0,ae 0,ae 0,.aP,.aP,.aP,ae 0,ae 0,ae 0,.aP]) aax ab0 q q q)<|aj (O.box (.dd q q) q)<|aE.rh (G2:=[(1,ak ai aw),(2,ae a2),(3,ae a3),(4,.obj (mM.cells a0)),(8,.obj [ae 0,ae 0,ae 0,ae 0,.aP,.aP,.aP,ae 0,ae 0,ae 0,.aP])]) q (bl.Bs (y':=.obj [ak ai a0.Def,ak ai a0.cA.cX,ak ai a0.cA.cc,ak ai a0.cA.b',ak ai a0.jC,ak ai a0.ej.cX,ak ai a0.ej.cc,ak ai a0.ej.b',ak ai a0.Left,ak ai a0.kD,ak cp a0.jl,.aP,ae 0,ae 0,aC ai [0],.aP,ae 0,ae 0,ae 0,ae 0,ae 0,.aP,.aP,.aP,ae 0,ae 0,ae 0,.aP]) q q (.obj q) (.b q (.f (.f (.f (.f (.f (.f (.f (.f (.f (.f (.f (.f (.f (.f (.l q q (.f .nil) (.f (.f (.f (.f (.f (.f (.f (.f (.f (.f (.f (.f (.f .nil)))))))))))))))))))))))))))) .nil) .refl (l' q q q q q) q q)<|bG q) ?_;refine W.cm [1,4,8,9] (aj (O.aO .z4)<|aj (O.aO .z4)<|cI q<|aj (O.Gd .aZ .b2)<|aj (O.PV .aZ .b2)<|cI q<|aj (O.Gd .aZ .b2)<|aj (O.PV .aZ .b2)<|aj (O.cR .z5)<|aj O.y2<|aE.kf (G2:=[(1,_),(4,_),(8,_),(9,_),(17,.ptr ⟨9,[]⟩ 0),(23,_)]) (cs2:=[ak ai a0.Def,ak ai a0.cA.cX,ak ai a0.cA.cc,ak ai a0.cA.b',ak ai a0.jC,ak ai a0.ej.cX,ak ai a0.ej.cc,ak ai a0.ej.b',ak ai a0.Left,ak ai a0.kD,ak cp a0.jl,.aP,ae (min (max a2 0) 100000),ae 0,aC ai [0],.aP,ae 0,ae 0,ae 0,ae 0,ae 0,.aP,.aP,.aP,ae 0,ae 0,ae 0,.aP]) q (.ptr q) (.lit q) q tH q q q q (.n q q (.n q q (.n q q (.b q (.p q q q q q q (.n q q .nil))))))<|aj (O.cR .z5)<|aj O.y2<|aE.dJ (bl.l8 [1,4,8,9])<|bG q) ?_;refine W.bJ<|W.cm [4,8,9,28,29,30] (aj (O.aO .z2)<|aj O.j1<|aj (O.aO .b2)<|bG q) ?_;refine aU h λlE ag h=>W.eW [8,9] [(9,.obj [ak ai a0.Def,ak ai a0.cA.cX,ak ai a0.cA.cc,ak ai a0.cA.b',ak ai a0.jC,ak ai a0.ej.cX,ak ai a0.ej.cc,ak ai a0.ej.b',ak ai a0.Left,ak ai a0.kD,ak cp a0.jl,aC ai lE,ae (min (max a2 0) 100000),ae (min (max a3 0) 1000000),aC ai [0],.aP,ae 0,ae 0,ae 0,ae 0,ae 0,.aP,.aP,.aP,ae 0,ae 0,ae 0,.aP])] ?_ ?_
 ·clear h; have h:=ag; clear ag;refine W.cb<|aU h λa8 ah h=>W.ht (([]:List Int),0) (λ(s2:List Int × Int)=>[(9,.obj [ak ai a0.Def,ak ai a0.cA.cX,ak ai a0.cA.cc,ak ai a0.cA.b',ak ai a0.jC,ak ai a0.ej.cX,ak ai a0.ej.cc,ak ai a0.ej.b',ak ai a0.Left,ak ai a0.kD,ak cp a0.jl,aC ai s2.1,ae (min (max a2 0) 100000),ae (min (max a3 0) 1000000),aC ai [0],.aP,ae 0,ae 0,ae 0,ae 0,ae 0,.aP,.aP,.aP,ae 0,ae 0,ae 0,.aP]),(30,ae s2.2)]) [4,8,9,28,29,30] 0 (λ(a8:List Int)=>[(9,.obj [ak ai a0.Def,ak ai a0.cA.cX,ak ai a0.cA.cc,ak ai a0.cA.b',ak ai a0.jC,ak ai a0.ej.cX,ak ai a0.ej.cc,ak ai a0.ej.b',ak ai a0.Left,ak ai a0.kD,ak cp a0.jl,aC ai a8,ae (min (max a2 0) 100000),ae (min (max a3 0) 1000000),aC ai [0],.aP,ae 0,ae 0,ae 0,ae 0,ae 0,.aP,.aP,.aP,ae 0,ae 0,ae 0,.aP])]) [8,9] ah (λs2 o h=>?_) ?_
  ·clear ah;refine W.bK [4,8,9,28,29,30,31] ?_;refine W.bJ<|W.bZ h q (λqv h=>?_) (λqv h=>?_)
   ·refine W.cO<|ay.bF<|W.bJ<|W.cb<|aU h λbA jT h=>W.bK [4,8,9,11,28,29,30] ?_;refine W.bJ<|W.bK [4,8,9,11,28,29,30,35] ?_;refine W.bZ h q (λxl h=>?_) (λxl h=>?_)
    ·refine W.fq<|ay.fi<|ay.E9 q ?_;exact ay.fi<|aT h ▸ ay.t1
    ·refine W.cO<|ay.bF<|aU h λbL mY h=>aU h λcw nF h=>W.rd [[],[],[1],[1,2],[1,2,3],[],[5],[],[5,6,7],[5,6,7,8],aD 1 9 [],aD 0 11 [],aD 0 12 [],aD 0 13 []] [(4,_),(8,_),(9,_),(28,_),(29,_),(30,_)] eB (by kernel_rfl) (av 0 (O.aO .z4)<|av 1 (O.aO .z4)<|av 2 (O.cR .z5)<|av 3 O.y2<|av 4 (O.cD (y:=.a7 ai.z ⟨9,[11]⟩ s2.1.length))<|av 5 O.bz<|av 6 (O.cD (y:=ak cp a0.jl))<|av 7 (O.aO (.lit q))<|jj 8 (b_.dG (.bY (.bc q) (.bY (.lit q) .nil)) (bx.go mY))<|bB.fb 9 (x:=ak ai [bL]) (O.de (ys:=[ae bL]) ai [bL] gm q q q q q q mE q q) q q q q .none<|av 10 (O.ap (en:=ai) (r:=cw) .c5 q .z2 .i ql q nF)<|av 11 (O.cR .z5)<|av 12 O.y2<|bB.gG 13 (bl.sp [4,8,9,28,29,30])<|bB.fin q q q (qT q q q q q q)) ?_;refine ay.cb<|ay.bF<|W.b0 [4,8,9,28,29,30] (aj (O.add .aZ .b2)<|aE.b0 [4,8,9,28,29,49] q<|aE.bm) ?_;exact aT h ▸ ay.gt
   ·exact W.fq<|ay.fi<|aT h ▸ ay.t1
  exact ay.fu<|aT h ▸ ay.dk
 refine ay.bF<|W.bJ<|W.cb<|aU h λaY ah h=>W.ht (⟨a0,lE,min (max a2 0) 100000,min (max a3 0) 1000000,[0],[],0,(⟨0,0,0,0,[],[],[],(⟨0,0,0,GR⟩:Node)⟩:eH)⟩:dA) (λ(eX:dA)=>[(9,.obj (ic.cells eX))]) [8,9] 2 (λ(aY:dA)=>[(9,.obj (ic.cells aY))]) [8,9] ah (λeX o h=>?_) ?_
 ·clear ah;refine W.bJ<|W.bK [8,9,55] ?_;refine W.bZ h q (λjO h=>?_) (λjO h=>?_)
  ·refine W.cO<|ay.bF<|W.cb<|aU h λeF pW h=>W.b0 [8,9] (aj (O.aO .z4)<|aE.jq q (fS.jW (ks:=[8]) (bx.go pW) q q q q (.b q .nil))<|bG q) ?_;exact ay.cb<|aT h ▸ ay.gt
  ·exact W.fq<|ay.fi<|aT h ▸ ay.t1
 refine ay.fu<|ay.bF<|W.bJ<|W.dP (G1:=[(8,_),(9,.obj [ak ai aY.b1.Def,ak ai aY.b1.cA.cX,ak ai aY.b1.cA.cc,ak ai aY.b1.cA.b',ak ai aY.b1.jC,ak ai aY.b1.ej.cX,ak ai aY.b1.ej.cc,ak ai aY.b1.ej.b',ak ai aY.b1.Left,ak ai aY.b1.kD,ak cp aY.b1.jl,aC ai aY.iY,ae aY.jr,ae aY.js,aC ai aY.dt,aC dn aY.fh,ae aY.h6,ae aY.bb.Kind,ae aY.bb.At,ae aY.bb.Steps,ae aY.bb.Deep,ak ai aY.bb.bu,ak iX aY.bb.eo,ak ai aY.bb.e2,ae aY.bb.Tree.Sym,ae aY.bb.Tree.Prod,ae aY.bb.Tree.At,h' 4 aY.bb.Tree.Kids])]) [9] (.n q q (.z q q (fI.obj (.f (.f (.f (.f (.f (.f (.f (.f (.f (.f (.f (.f (.f (.f (.f (.f (.f (.f (.f (.f (.f (.z (.z (.z (.f (.f (.f (.f .nil))))))))))))))))))))))))))))) .nil)) ?_;refine W.b0 [8] (aj (O.aO .z4)<|aj (O.cR .z5)<|aj O.y2<|aj (O.dO (cs':=pG.cells aY.bb) q .z5 Bx q q)<|aE.dJ (bl.fa [8])<|bG q) ?_;exact ay.bF<|W.rt<|aT h ▸ jF (.c (ys0:=pG.cells aY.bb) q Bx q q q (.f q (.f q (.f q (.f q (.f q (.f q (.f q (.f q (.f q (.f q (.f q .nil))))))))))) .nil)
instance ada {a0:Tables}{aw:(List Int)}{a2:Int}{a3:Int}{r:eH}:bx prog 16 (pj a0 aw a2 a3=some r) [.agg (mM.cells a0),ak ai aw,ae a2,ae a3] [none,none,none,none] (.agg (pG.cells r)):=⟨Up a0 aw a2 a3 _⟩
instance adP {a0:cH}{aw:cH}{r:Int}:bx prog 52 (DT a0 aw=some r) [.agg [ae a0.At,ae a0.cc],.agg [ae aw.At,ae aw.cc]] [none,none] (ae r):=⟨λh=>by unfold DT at h; exact bP.bm (N:=⟨10,[]⟩) [2,3,4] .e func52 rfl rfl rfl rfl rfl dv⟩
theorem Us (a0:bD) (r:(List cH)) (h:AK a0=some r):bP prog 22 [.agg (c9.cells a0)] [none] (ak cp r):=by
 unfold AK at h;refine bP.go (N:=⟨28,[]⟩) func22 q q q q (W.fin ?_);refine W.st [(0,.agg (c9.cells a0))] ?_;refine W.cm [1] (aj (O.box (.dd q q) q)<|aE.bm) ?_;refine W.bK [1,3] ?_;refine W.bJ<|W.cm [3,7,8,9] (aj O.bz<|aj (O.cD (y:=ak cv a0.br))<|aj O.j1<|aj (O.aO .b2)<|bG q) ?_;refine W.cb<|aU h λx2 ah h=>W.ht (([]:List cH),0) (λ(s1:List cH × Int)=>[(3,aC cp s1.1),(9,ae s1.2)]) [3,7,8,9] 0 (λ(x2:List cH)=>[(3,aC cp x2)]) [3] ah (λs1 o h=>?_) ?_
 ·clear ah;refine W.bK [3,7,8,9,10] ?_;refine W.bJ<|W.bZ h q (λlg h=>?_) (λlg h=>?_)
  ·refine W.cO<|ay.bF<|W.bJ<|aU h λiy ag h=>W.eW [3,7,8,9] [(3,aC cp iy)] ?_ ?_
   ·clear h; have h:=ag; clear ag;refine W.cb<|aU h λbA jT h=>W.cm [3,4,5,7,8,9] (cI q<|aj (O.hb jT)<|aj (O.na (cs':=cv.cells bA) .mD Tm q q)<|aj (O.dz (cs:=[a6 bo,bd false,ae 0,ae 0,ae 0,a6 bo]) Ht q q)<|HO q<|aE.dJ (bl.fa [3,4,5,7,8,9])<|bG q) ?_;refine W.bK [3,4,5,7,8,9,16] ?_;refine aU h λll ag h=>W.eW [3,7,8,9] [(3,aC cp ll)] ?_ ?_
    ·clear h; have h:=ag; clear ag;refine W.bZ h q (λo6 h=>?_) (λo6 h=>?_)
     ·refine aU h λcw nF h=>W.b0 [3,7,8,9] (aj (O.aO .z3)<|aj O.bz<|aj O.cM<|cI q<|aj (O.d' (cs:=[ae bA.cf,ae s1.2]) aay Mb q q q)<|aE.fb (x:=ak cp [(⟨bA.cf,s1.2⟩:cH)]) (O.de (ys:=[.agg [ae bA.cf,ae s1.2]]) cp [(⟨bA.cf,s1.2⟩:cH)] aaP q q q q q q ab6 q q) q q .none<|aj (O.ap (en:=cp) (r:=cw) .c5 q .z2 .i S0 q nF)<|aE.cd (bl.wS [7,8,9])<|bG q) ?_;exact aT h ▸ ay.dk
     ·exact W.cO<|aT h ▸ ay.dk
    exact ay.cb<|aT h ▸ ay.dk
   refine ay.bF<|W.b0 [3,7,8,9] (aj (O.add .aZ .b2)<|aE.b0 [3,7,8,24] q<|aE.bm) ?_;exact aT h ▸ ay.gt
  ·exact W.fq<|ay.fi<|aT h ▸ ay.t1
 refine ay.fu<|ay.bF<|aU h λch qD h=>W.cm [3] (aj (O.aO .z3)<|aE.jq q (bl.call q q (k1.jy (en:=cp) (L:=x2) (L':=ch) (G2:=[]) (ys:=[.cF (.func 52) [] []]) (args:=[.cF (.func 52) [] []]) q q q q (.c (View.cl .nil) .nil) (aaS call52 qD (λa b v h=>bx.go h)) call51 .nil q q .nil q))<|bG q) ?_;refine W.cm [2] (aj (O.aO .z3)<|aE.cd (bl.k6 [])<|bG q) ?_;refine W.dP (G1:=[(2,ak cp ch)]) [2] (.z q q .kY .nil) ?_;exact W.rt<|aT h ▸ k2
instance ady {a0:bD}{r:(List cH)}:bx prog 22 (AK a0=some r) [.agg (c9.cells a0)] [none] (ak cp r):=⟨Us a0 _⟩
theorem Ug (a0:(List (List cH))) (r:Bool) (h:Ay a0=some r):bP prog 108 [ak (bE cp) a0] [none] (bd r):=by
 unfold Ay at h;refine bP.go (N:=⟨42,[]⟩) func108 q q q q (W.fin ?_);refine W.st [(0,ak (bE cp) a0)] ?_;refine W.bK [0] ?_;refine W.bJ<|W.bK [0,10] ?_;refine W.bZ h q (λgS h=>?_) (λgS h=>?_)
 ·refine W.bK [2] ?_;exact W.rt<|ay.gn<|aT h ▸ k2
 ·refine W.cO<|ay.bF<|W.bJ<|W.cm [11,12,13] (aj (O.aO .z2)<|aj O.j1<|aj (O.aO .b2)<|bG q) ?_;refine W.cb<|aU h λa8 ah h=>W.gg 0 (λ(s2:Int)=>[(13,ae s2)]) [11,12,13] 0 (λ(bk:Unit)=>[]) [] (λ(bV:Bool)=>[(2,bd bV)]) [2] ah (λs2 o h=>?_) (λbk J=>?_) (λbV J=>?_)
  ·clear ah;refine W.bK [11,12,13,14] ?_;refine W.bJ<|W.bZ h q (λqw h=>?_) (λqw h=>?_)
   ·refine W.cO<|ay.bF<|W.bJ<|W.cb<|aU h λbn jb h=>W.bK [4,11,12,13] ?_;refine W.cm [4,5,11,12,13] (aj (O.dz (cs:=bC e3 (List.replicate 1000 false)) ab3 (by kernel_rfl) (by kernel_rfl))<|bG q) ?_;refine W.cm [5,11,12,13,17,18,19] (aj (O.aO .z2)<|aj O.j1<|aj (O.aO .b2)<|bG q) ?_;refine W.cb<|aU h λcw ah h=>W.gg ((List.replicate 1000 false),0) (λ(ei:List Bool × Int)=>[(5,.obj (bC e3 ei.1)),(19,ae ei.2)]) [5,11,12,13,17,18,19] 2 (λ(ch:Unit)=>[]) [11,12,13] (λ(aY:Bool)=>[(2,bd aY)]) [2] ah (λei o h=>?_) (λch J=>?_) (λaY J=>?_)
    ·clear ah;refine W.bK [5,11,12,13,17,18,19,20] ?_;refine W.bJ<|W.bZ h q (λmi h=>?_) (λmi h=>?_)
     ·refine W.cO<|ay.bF<|W.bJ<|W.cb<|aU h λcu sy h=>W.cm [5,7,11,12,13,17,18,19] (aj (O.hb sy)<|aj (O.na (cs':=[ae cu.At,ae cu.cc]) .mD Bv q q)<|aj (O.dz (cs:=[ae 0,ae 0]) Mb q q)<|aE.dJ (bl.fa [5,7,11,12,13,17,18,19])<|bG q) ?_;refine W.bJ<|aU h λwW ag h=>W.kQ [5,7,11,12,13,17,18,19,36] [(36,bd wW)] ?_ ?_
      ·refine aj O.bz<|aj O.cM<|aj (O.lss .aZ .b2)<|aj (O.aO (.lit q)) ?_;rcases eg ag with ⟨lb,ag⟩ | ⟨lb,ag⟩
       ·exact aT ag ▸ aE.bm
       ·refine bp lb O.bz<|bp lb O.cM<|bp lb (O.geq .aZ .b2)<|aj (O.gA .aZ lb .aZ)<|aj (O.aO (.lit q)) ?_;rcases eg ag with ⟨iK,ag⟩ | ⟨iK,ag⟩
        ·exact aT ag ▸ aE.bm
        ·refine bp iK O.bz<|bp iK O.cM ?_;exact aU ag λdr nD ag=>aT ag ▸ (bp iK (O.PA (en:=e3) (L:=ei.1) q q .aZ MP nD)<|bp iK (O.Y1 (en:=e3) (L:=ei.1) q .z5 (Kv nD).2 q BN (λ_=>q))<|aE.bm)
      refine W.bZ h q (λpO h=>?_) (λpO h=>?_)
      ·refine W.bK [2] ?_;exact W.rt<|ay.gn<|ay.lP<|ay.gn<|aT h ▸ ay.iQ (.n q .nil)
      ·refine W.cO<|ay.bF<|aU h λfQ oK h=>W.b0 [5,11,12,13,17,18,19] (aj O.bz<|aj O.cM<|aj (O.PA (en:=e3) (L:=ei.1) q q .aZ MP oK)<|aE.aaw (G2:=[(5,.obj (bC e3 (ei.1.set cu.At.toNat true))),(11,ak (bE cp) a0),(12,ae (a0.length:Int)),(13,ae s2),(17,ak cp bn),(18,ae (bn.length:Int)),(19,ae ei.2)]) (en:=e3) (L:=ei.1) (y2:=true) q q (.ptr q) (.k q) (Kv oK).2 q q Ro q (.b q (.n q q (.n q q (.n q q (.n q q (.n q q (.n q q .nil)))))))<|bG q) ?_;refine ay.cb<|ay.bF<|W.b0 [5,11,12,13,17,18,19] (aj (O.add .aZ .b2)<|aE.b0 [5,11,12,13,17,18,40] q<|aE.bm) ?_;exact aT h ▸ ay.gt
     ·exact W.fq<|ay.fi<|aT h ▸ ay.x2 (oS q q q)
    ·subst J;refine ay.fu<|ay.cb<|ay.bF<|W.b0 [11,12,13] (aj (O.add .aZ .b2)<|aE.b0 [11,12,41] q<|aE.bm) ?_;exact aT h ▸ ay.gt
    ·subst J;exact ay.lP<|ay.lP<|ay.gn<|aT h ▸ ay.iQ (.n q .nil)
   ·exact W.fq<|ay.fi<|aT h ▸ ay.x2 .nil
  ·subst J;refine ay.fu<|ay.bF<|W.bK [2] ?_;exact W.rt<|aT h ▸ k2
  ·subst J;exact ay.lP<|ay.gn<|aT h ▸ k2
instance acB {a0:(List (List cH))}{r:Bool}:bx prog 108 (Ay a0=some r) [ak (bE cp) a0] [none] (bd r):=⟨Ug a0 _⟩
instance acE {a0:(List Int)}{r:Int}:bx prog 111 (Dx a0=some r) [ak ai a0] [none] (ae r):=⟨λh=>by unfold Dx at h; exact bP.bm (N:=⟨18,[]⟩) [0,2,3,5,6,7,8,9,14] (.gg (λ(s1:Int)=>[(8,ae s1)]) [3,6,7,8] 0 (λ(a8:Unit)=>[]) [3] (λ(bk:Int)=>[(2,ae bk)]) [2] .e .e .e) func111 rfl rfl rfl rfl rfl dv⟩
instance acD {a0:Int}{aw:Int}{c0:(List (List cH))}{r:Int}:bx prog 110 (v_ a0 aw c0=some r) [ae a0,ae aw,.cx ([ak (bE cp) c0])] [none,none,none] (ae r):=⟨λh=>by unfold v_ at h; exact bP.bm (N:=⟨22,[]⟩) [0,1,2,5] (.rd 1 [[],[],[0,1],[0,1,2],[0,1,2,3],[],[],[5,6],[5,6,7],[5,6,7,8],aD 0 10 [],[],[],aD 0 13 [],aD 0 14 [],aD 0 15 [],aD 0 16 []] .e) func110 rfl rfl rfl rfl rfl dv⟩
instance acW {a0:cH}{c0:Int}{c1:(List Int)}{r:Bool}:bx prog 140 (DG a0 c0 c1=some r) [.agg [ae a0.At,ae a0.cc],.cx ([ae c0]),.cx ([ak ai c1])] [none,none,none] (bd r):=⟨λh=>by unfold DG at h; exact bP.bm (N:=⟨22,[]⟩) [1,2,3,4] (.eM 1 [4] (λ(kG:Bool)=>[(4,bd kG)]) .e) func140 rfl rfl rfl rfl rfl dv⟩
theorem Uq (a0:(List cH)) (q':Int) (ra:(List Int)) (r:Int) (h:Gv a0 q' ra=some r):bP prog 170 [ak cp a0,.cF (.func 140) [] [.cx ([ae q']),.cx ([ak ai ra])]] [none,none] (ae r):=by
 unfold Gv at h;refine bP.go (N:=⟨19,[]⟩) func170 q q q q (W.fin ?_);refine W.st [(0,ak cp a0),(1,.cF (.func 140) [] [.cx ([ae q']),.cx ([ak ai ra])])] ?_;refine W.bK [0,1] ?_;refine W.bJ<|W.cm [0,1,7,8] (aj (O.aO .z2)<|aj O.j1<|aj (O.aO .b2)<|bG q) ?_;refine W.cb<|aU h λx2 ah h=>W.gg 0 (λ(s1:Int)=>[(8,ae s1)]) [0,1,7,8] 0 (λ(a8:Unit)=>[]) [] (λ(bk:Int)=>[(4,ae bk)]) [4] ah (λs1 o h=>?_) (λa8 J=>?_) (λbk J=>?_)
 ·clear ah;refine W.bK [0,1,7,8,9] ?_;refine W.bJ<|W.bZ h q (λqv h=>?_) (λqv h=>?_)
  ·refine W.cO<|ay.bF<|W.bJ<|W.cb<|W.bK [0,1,5,7,8] ?_;refine aU h λbA jT h=>aU h λbn jb h=>W.cm [0,1,5,7,8,16] (aj (O.aO (.cF q))<|aj (O.aO .z2)<|cI q<|aj (O.hb jT)<|aj (O.na (cs':=[ae bA.At,ae bA.cc]) .mD Bv q q)<|eO (b_.gc (.cF q) (.bY (.dd q q) .nil) (bx.go jb) call140 q)<|bG q) ?_;refine W.bZ h q (λo6 h=>?_) (λo6 h=>?_)
   ·refine W.bK [4] ?_;exact W.rt<|ay.lP<|ay.gn<|aT h ▸ ay.iQ (.n q .nil)
   ·refine W.cO<|ay.cb<|ay.bF<|W.b0 [0,1,7,8] (aj (O.add .aZ .b2)<|aE.b0 [0,1,7,18] q<|aE.bm) ?_;exact aT h ▸ ay.gt
  ·exact W.fq<|ay.fi<|aT h ▸ ay.x2 .nil
 ·subst J;refine ay.fu<|ay.bF<|W.bK [4] ?_;exact W.rt<|aT h ▸ k2
 ·subst J;exact ay.lP<|ay.gn<|aT h ▸ k2
theorem Ul (a0:(List cH)) (q':Int) (ra:(List Int)) (r:Bool) (h:Gu a0 q' ra=some r):bP prog 139 [ak cp a0,.cF (.func 140) [] [.cx ([ae q']),.cx ([ak ai ra])]] [none,none] (bd r):=by
 unfold Gu at h;refine bP.go (N:=⟨9,[]⟩) func139 q q q q (W.fin ?_);refine W.st [(0,ak cp a0),(1,.cF (.func 140) [] [.cx ([ae q']),.cx ([ak ai ra])])] ?_;refine W.bK [0,1] ?_;refine aU h λaS gK h=>W.cm [4] (aj (O.aO .z2)<|aj (O.aO (.cF q))<|eO (b_.dG (.bY (.bc q) (.bY (.cF q) .nil)) (Uq a0 q' ra _ gK))<|aE.bm) ?_;exact W.rt<|aT h ▸ k2
theorem Ui (a0:(List Int)) (aw:(List cH)) (a2:Int) (r:Bool) (h:yd a0 aw a2=some r):bP prog 112 [ak ai a0,ak cp aw,ae a2] [none,none,none] (bd r):=by
 unfold yd at h;refine bP.go (N:=⟨11,[]⟩) func112 q q q q (W.fin ?_);refine W.st [(0,ak ai a0),(1,ak cp aw),(2,ae a2)] ?_;refine W.cm [1,3,5] (aj (O.box .z2 q)<|aj (O.box .aZ q)<|aE.bm) ?_;refine aU h λaS gK h=>W.cm [6] (aj (O.aO .z2)<|aj (O.K2 q)<|eO (b_.mz (ys:=[ak cp aw,.cF (.func 140) [] [.ptr ⟨5,[]⟩ 0,.ptr ⟨3,[]⟩ 0]]) q (.s (.c (View.cl (.c (View.kP q q) (.c (View.kP q q) .nil))) .nil)) (Ul aw a2 a0 _ gK))<|aE.bm) ?_;exact W.rt<|aT h ▸ k2
instance acF {a0:(List Int)}{aw:(List cH)}{a2:Int}{r:Bool}:bx prog 112 (yd a0 aw a2=some r) [ak ai a0,ak cp aw,ae a2] [none,none,none] (bd r):=⟨Ui a0 aw a2 _⟩
theorem UJ (a0:(List (List cH))) (r:h2) (h:AV a0=some r):bP prog 87 [ak (bE cp) a0] [none] (.agg (vn.cells r)):=by
 unfold AV at h;refine bP.go (N:=⟨111,[]⟩) func87 q q q q (W.fin ?_);refine W.st [(0,ak (bE cp) a0)] ?_;refine W.cm [1,2] (aj (O.box .z2 q)<|aj (O.dz (cs:=[.aP,.aP,.aP]) EA q q)<|bG q) ?_;refine W.bJ<|aU h λaS gK h=>W.cm [1,2,13] (aj (O.qI (y:=ak (bE cp) a0) q .z4 BM q q)<|eO (b_.dG (.bY (.bc q) .nil) (bx.go gK))<|aE.bm) ?_;refine W.bZ h q (λfm h=>?_) (λfm h=>?_)
 ·refine W.cm [2] (aj (O.d' (cs:=[.aP,.aP,.aP]) Q3 EA q q q)<|aE.dJ (bl.fa [2])<|bG q) ?_;refine W.dP (G1:=[(2,.obj [aC ai ([]:List Int),aC ai ([]:List Int),aC ai ([]:List Int)])]) [2] (.z q q (fI.obj (.o (.o (.o .nil)))) .nil) ?_;exact W.rt<|ay.gn<|aT h ▸ jF (.c (ys0:=[.a7 ai.z ⟨2,[0]⟩ ([]:List Int).length,.a7 ai.z ⟨2,[1]⟩ ([]:List Int).length,.a7 ai.z ⟨2,[2]⟩ ([]:List Int).length]) q E6 q q q (.o q (.o q (.o q .nil))) .nil)
 ·refine W.cO<|ay.bF<|aU h λa8 hg h=>W.cm [1,2,3] (aj (O.qI (y:=ak (bE cp) a0) q .z4 BM q q)<|aj O.j1<|aj (O.mk (en:=ai) (z0:=0) gm .aZ .aZ RU q q hg MZ q)<|aj (O.d' (cs:=[.a7 ai.z ⟨17,[]⟩ a8.length,.aP,.aP]) Q3 EA q q q)<|aj (O.dz (cs:=[.aP,.aP,.aP]) EA q q)<|aE.jq (G2:=[(1,.obj [ak (bE cp) a0]),(2,.obj [.aP,.aP,.aP]),(3,.obj [aC ai a8,aC ai ([]:List Int),aC ai ([]:List Int)])]) q (bl.tG (y':=.agg [aC ai a8,aC ai ([]:List Int),aC ai ([]:List Int)]) (cs2:=[aC ai a8,aC ai ([]:List Int),aC ai ([]:List Int)]) q q (.obj q) (.dd q q) (.nT (.r q (.f (.f .nil))) .nil) (fI.agg (.f (.o (.o .nil)))) q LU q q q q q (.n q q (.n q q (.b q .nil))))<|bG q) ?_;refine W.bK [1,2,3,4] ?_;refine W.bJ<|W.cm [1,2,3,4,20,21] (aj (O.qI (y:=ak (bE cp) a0) q .z4 BM q q)<|aj O.j1<|aj (O.aO .b2)<|bG q) ?_;refine W.cb<|aU h λbV ah h=>W.ht (([]:List Int),0) (λ(da:List Int × Int)=>[(4,aC ai da.1),(21,ae da.2)]) [1,2,3,4,20,21] 0 (λ(bV:List Int)=>[(4,aC ai bV)]) [1,2,3,4] ah (λda o h=>?_) ?_
  ·clear ah;refine W.bK [1,2,3,4,20,21,22] ?_;refine W.bJ<|W.bZ h q (λxl h=>?_) (λxl h=>?_)
   ·refine W.cO<|ay.bF<|W.bJ<|aU h λd_ ag h=>W.eW [1,2,3,4,20,21] [(4,aC ai d_)] ?_ ?_
    ·clear h; have h:=ag; clear ag;refine W.cb<|W.bK [1,2,3,4,5,20,21] ?_;refine aU h λcw nF h=>W.bK [1,2,3,4,5,20,21,29] ?_;refine aU h λjU ag h=>W.eW [1,2,3,4,20,21] [(4,aC ai jU)] ?_ ?_
     ·clear h; have h:=ag; clear ag;refine W.bZ h q (λnY h=>?_) (λnY h=>?_)
      ·refine aU h λdL qE h=>W.b0 [1,2,3,4,20,21] (aj (O.aO .z3)<|cI q<|aE.fb (x:=ak ai [da.2]) (O.de (ys:=[ae da.2]) ai [da.2] gm q q q q q q mE q q) q q .none<|aj (O.ap (en:=ai) (r:=dL) .c5 q .z2 .i ql q qE)<|aE.cd (bl.wS [1,2,3,20,21])<|bG q) ?_;exact aT h ▸ ay.dk
      ·exact W.cO<|aT h ▸ ay.dk
     exact ay.cb<|aT h ▸ ay.dk
    refine ay.bF<|W.b0 [1,2,3,4,20,21] (aj (O.add .aZ .b2)<|aE.b0 [1,2,3,4,20,34] q<|aE.bm) ?_;exact aT h ▸ ay.gt
   ·exact W.fq<|ay.fi<|aT h ▸ ay.t1
  refine ay.fu<|ay.bF<|aU h λcu sy h=>W.cm [1,2,3,4] (aj (O.aO .z3)<|aj (O.K2 q)<|aE.jq q (bl.call q q (k1.jy (en:=ai) (L:=bV) (L':=cu) (G2:=[(1,.obj [ak (bE cp) a0]),(2,.obj [.aP,.aP,.aP]),(3,.obj [aC ai a8,aC ai ([]:List Int),aC ai ([]:List Int)])]) (ys:=[.cF (.func 110) [] [.ptr ⟨1,[]⟩ 0]]) (args:=[.cF (.func 110) [] [.cx ([ak (bE cp) a0])]]) q q q q (.c (View.cl (.c (View.kP q q) .nil)) .nil) (aaR call110 sy (λa b v h=>bx.go h)) call109 (oS q q q) q q (oS q q q) q))<|bG q) ?_;refine W.bJ<|W.rs [(1,_),(2,_),(3,_),(4,_),(38,.a7 ai.z ⟨4,[]⟩ cu.length),(39,_),(40,_)] (aj (O.aO .z3)<|aj (O.lF .c5 gm)<|aj (O.aO .b2)<|kg (.n q (.n q (.n q (.n q (.r q (cU.a7 (en:=ai) q) iz (l_ q q))))))) ?_;refine W.cb<|aU h λcL ah h=>W.c3 (G1:=[(1,_),(2,_),(3,_),(4,_),(38,.a7 ai.z ⟨4,[]⟩ cu.length),(39,_),(40,_)]) (.n q (.n q (.n q (.n q (.r q (cU.a7 (en:=ai) q) iz (l_ q q)))))) ?_;refine W.Af (s:=((⟨a8,([]:List Int),([]:List Int)⟩:h2),0)) (λ(er:h2 × Int)=>[(1,.obj [ak (bE cp) a0]),(2,.obj [.aP,.aP,.aP]),(3,.obj (vn.cells er.1)),(4,aC ai cu),(38,.a7 ai.z ⟨4,[]⟩ cu.length),(39,ae (cu.length:Int)),(40,ae er.2)]) 2 (λ(cL:h2)=>[(2,.obj [.aP,.aP,.aP]),(3,.obj (vn.cells cL))]) ah (λer o h=>?_) ?_
  ·clear ah;refine W.rs [(1,_),(2,_),(3,_),(4,_),(38,.a7 ai.z ⟨4,[]⟩ cu.length),(39,_),(40,_),(41,_)] (aj (O.lss .aZ .aZ)<|kg (.n q (.n q (.n q (.n q (.r q (cU.a7 (en:=ai) q) iz (oS q q q))))))) ?_;refine W.bJ<|W.bZ h q (λjv h=>?_) (λjv h=>?_)
   ·refine W.cO<|ay.bF<|W.bJ<|W.cb<|aU h λdM mo h=>W.rs [(1,_),(2,_),(3,_),(4,_),(7,_),(38,.a7 ai.z ⟨4,[]⟩ cu.length),(39,_),(40,_)] (aj (O.gN (en:=ai) q .c5 .aZ gm mo q)<|aj (O.jV (en:=ai) (x':=ae dM) q .z5 o4 mo q q)<|HO q<|kg (.n q (.n q (.n q (.n q (.n q (.r q (cU.a7 (en:=ai) q) iz (l_ q q)))))))) ?_;refine W.bJ<|W.cb<|aU h λeN ah h=>W.c3 (G1:=[(1,_),(2,_),(3,_),(4,_),(7,_),(38,.a7 ai.z ⟨4,[]⟩ cu.length),(39,_),(40,_)]) (.n q (.n q (.n q (.n q (.n q (.r q (cU.a7 (en:=ai) q) iz (l_ q q))))))) ?_;refine W.Af (s:=er.1.cX) (λ(di:List Int)=>[(1,.obj [ak (bE cp) a0]),(2,.obj [.aP,.aP,.aP]),(3,.obj [aC ai di,aC ai er.1.cc,aC ai er.1.b']),(4,aC ai cu),(7,ae dM),(38,.a7 ai.z ⟨4,[]⟩ cu.length),(39,ae (cu.length:Int)),(40,ae er.2)]) 4 (λ(eN:List Int)=>[(1,.obj [ak (bE cp) a0]),(2,.obj [.aP,.aP,.aP]),(3,.obj [aC ai eN,aC ai er.1.cc,aC ai er.1.b']),(4,aC ai cu),(7,ae dM),(38,.a7 ai.z ⟨4,[]⟩ cu.length),(39,ae (cu.length:Int)),(40,ae er.2)]) ah (λdi o h=>?_) ?_
    ·clear ah;refine W.bJ<|W.bJ<|aU h λiC FR h=>aU h λfF uC h=>aU h λhS uD h=>W.rd [[],[0],[],[],[2,3],[2,3,4],[],[6],[],[6,7,8],[6,7,8,9],aD 0 11 [],aD 0 12 []] [(1,_),(2,_),(3,_),(4,_),(7,_),(38,.a7 ai.z ⟨4,[]⟩ cu.length),(39,_),(40,_),(56,_)] eB (by kernel_rfl) (av 0 O.bz<|av 1 (O.cD (y:=.a7 ai.z ⟨3,[2]⟩ er.1.b'.length))<|av 2 (O.qI (y:=ak (bE cp) a0) q .z4 BM q q)<|av 3 (O.aO (.lit q))<|av 4 (O.hb FR)<|av 5 (O.jg (x:=ak cp iC))<|av 6 O.bz<|av 7 (O.cD (y:=.a7 ai.z ⟨3,[0]⟩ di.length))<|av 8 (O.aO (.lit q))<|av 9 (O.gN (en:=ai) q .c5 .aZ gm uC q)<|av 10 (O.jV (en:=ai) (x':=ae fF) q .z5 o4 uC q q)<|jj 11 (b_.mz (ys:=[.a7 ai.z ⟨3,[2]⟩ er.1.b'.length,ak cp iC,ae fF]) q (.c (.row q) (.s (.s .nil))) (bx.go uD))<|av 12 (O.not .aZ)<|bB.fin q q q (.n q (.n q (.n q (.n q (.n q (.r q (cU.a7 (en:=ai) q) iz (oS q q q)))))))) ?_;refine ay.bF<|W.bZ h q (λJr h=>?_) (λJr h=>?_)
     ·refine W.cO<|ay.bF<|W.cb<|aU h λiS rA h=>W.rx [(1,_),(2,_),(3,_),(4,_),(7,_),(38,.a7 ai.z ⟨4,[]⟩ cu.length),(39,_),(40,_)] (aj O.bz<|aj (O.cD (y:=.a7 ai.z ⟨3,[0]⟩ di.length))<|cI q<|aj (O.gN (en:=ai) q .c5 .aZ gm rA q)<|aj (O.jV (en:=ai) (x':=ae iS) q .z5 o4 rA q q)<|aj (O.add .aZ .b2)<|aj (O.gN (en:=ai) q .c5 .aZ gm rA q)<|aE.jq (G2:=[(1,.obj [ak (bE cp) a0]),(2,.obj [.aP,.aP,.aP]),(3,.obj [aC ai (di.set dM.toNat (aG (iS+1))),aC ai er.1.cc,aC ai er.1.b']),(4,aC ai cu),(7,ae dM),(38,.a7 ai.z ⟨4,[]⟩ cu.length),(39,ae (cu.length:Int)),(40,ae er.2)]) q (bl.u4 (en:=ai) (y2:=aG (iS+1)) (cs':=[ae (aG (iS+1))]) (x2:=.obj [aC ai (di.set dM.toNat (aG (iS+1))),aC ai er.1.cc,aC ai er.1.b']) q q (.ptr q) (.lit q) q rA tH q q q q q q q (.n q q (.n q q (.b q (.n q q (.n q q (.w (en:=ai) q q q q (.n q q (.n q q .nil)))))))))<|kg (.n q (.n q (.n q (.n q (.n q (.r q (cU.a7 (en:=ai) q) iz (l_ q q)))))))) ?_;exact ay.cb<|aT h ▸ ay.go (.n q (.n q (.n q (.n q (.n q (.r q (cU.a7 (en:=ai) q) iz (l_ q q)))))))
     ·exact W.fq<|ay.fi<|aT h ▸ ay.aS (.n q (.n q (.n q (.n q (.n q (.r q (cU.a7 (en:=ai) q) iz (l_ q q)))))))
    refine ay.fu<|ay.bF<|aU h λfG xJ h=>W.rs [(1,_),(2,_),(3,_),(4,_),(7,_),(38,.a7 ai.z ⟨4,[]⟩ cu.length),(39,_),(40,_),(67,_),(68,_),(69,_)] (aj (O.qI (y:=ak (bE cp) a0) q .z4 BM q q)<|cI q<|aj (O.hb xJ)<|aj (O.jg (x:=ak cp fG))<|aj O.j1<|aj (O.aO .b2)<|kg (.n q (.n q (.n q (.n q (.n q (.r q (cU.a7 (en:=ai) q) iz (l' q q q q q)))))))) ?_;refine W.cb<|aU h λee ah h=>W.c3 (G1:=[(1,_),(2,_),(3,_),(4,_),(7,_),(38,.a7 ai.z ⟨4,[]⟩ cu.length),(39,_),(40,_),(67,_),(68,_),(69,_)]) (.n q (.n q (.n q (.n q (.n q (.r q (cU.a7 (en:=ai) q) iz (l' q q q q q))))))) ?_;refine W.Af (s:=(er.1.cc,er.1.b',0)) (λ(kR:List Int × List Int × Int)=>[(1,.obj [ak (bE cp) a0]),(2,.obj [.aP,.aP,.aP]),(3,.obj [aC ai eN,aC ai kR.1,aC ai kR.2.1]),(4,aC ai cu),(7,ae dM),(38,.a7 ai.z ⟨4,[]⟩ cu.length),(39,ae (cu.length:Int)),(40,ae er.2),(67,ak cp fG),(68,ae (fG.length:Int)),(69,ae kR.2.2)]) 6 (λ(ee:List Int × List Int)=>[(1,.obj [ak (bE cp) a0]),(2,.obj [.aP,.aP,.aP]),(3,.obj [aC ai eN,aC ai ee.1,aC ai ee.2]),(4,aC ai cu),(38,.a7 ai.z ⟨4,[]⟩ cu.length),(39,ae (cu.length:Int)),(40,ae er.2)]) ah (λkR o h=>?_) ?_
    ·clear ah;refine W.rs [(1,_),(2,_),(3,_),(4,_),(7,_),(38,.a7 ai.z ⟨4,[]⟩ cu.length),(39,_),(40,_),(67,_),(68,_),(69,_),(70,_)] (aj (O.lss .aZ .aZ)<|kg (.n q (.n q (.n q (.n q (.n q (.r q (cU.a7 (en:=ai) q) iz (qT q q q q q q)))))))) ?_;refine W.bJ<|W.bZ h q (λjQ h=>?_) (λjQ h=>?_)
     ·refine W.cO<|ay.bF<|W.bJ<|W.cb<|aU h λcZ xK h=>W.rs [(1,_),(2,_),(3,_),(4,_),(7,_),(9,_),(38,.a7 ai.z ⟨4,[]⟩ cu.length),(39,_),(40,_),(67,_),(68,_),(69,_)] (aj (O.hb xK)<|aj (O.na (cs':=[ae cZ.At,ae cZ.cc]) .mD Bv q q)<|aj (O.dz (cs:=[ae 0,ae 0]) Mb q q)<|aE.kf (G2:=[(1,_),(2,_),(3,_),(4,_),(7,_),(9,_),(38,.a7 ai.z ⟨4,[]⟩ cu.length),(39,_),(40,_),(67,_),(68,_),(69,_)]) (cs2:=[ae cZ.At,ae cZ.cc]) q (.obj q) (.dd q q) q aa6 q q q q (.n q q (.n q q (.n q q (.n q q (.n q q (.b q (.w (en:=ai) q q q q (.n q q (.n q q (.n q q (.n q q (.n q q .nil))))))))))))<|kg (.n q (.n q (.n q (.n q (.n q (.n q (.r q (cU.a7 (en:=ai) q) iz (l' q q q q q))))))))) ?_;refine W.bJ<|aU h λhT z8 h=>W.rd [[],[0],[],[0,1,2],[0,1,2,3],[],[5],aD 0 7 [],aD 0 8 []] [(1,_),(2,_),(3,_),(4,_),(7,_),(9,_),(10,_),(38,.a7 ai.z ⟨4,[]⟩ cu.length),(39,_),(40,_),(67,_),(68,_),(69,_)] eB (by kernel_rfl) (av 0 O.bz<|av 1 (O.cD (y:=.a7 ai.z ⟨3,[0]⟩ eN.length))<|av 2 (O.aO (.lit q))<|av 3 (O.gN (en:=ai) q .c5 .aZ gm z8 q)<|av 4 (O.jV (en:=ai) (x':=ae hT) q .z5 o4 z8 q q)<|av 5 O.bz<|av 6 O.cM<|av 7 (O.add .aZ .aZ)<|av 8 (O.az (.lit q))<|bB.fin q q q (.n q (.n q (.n q (.n q (.n q (.n q (.n q (.r q (cU.a7 (en:=ai) q) iz (l' q q q q q)))))))))) ?_;refine ay.bF<|W.bJ<|W.cb<|aU h λfp ah h=>W.c3 (G1:=[(1,_),(2,_),(3,_),(4,_),(7,_),(9,_),(10,_),(38,.a7 ai.z ⟨4,[]⟩ cu.length),(39,_),(40,_),(67,_),(68,_),(69,_)]) (.n q (.n q (.n q (.n q (.n q (.n q (.n q (.r q (cU.a7 (en:=ai) q) iz (l' q q q q q))))))))) ?_;refine W.Af (s:=(kR.1,kR.2.1)) (λ(hj:List Int × List Int)=>[(1,.obj [ak (bE cp) a0]),(2,.obj [.aP,.aP,.aP]),(3,.obj [aC ai eN,aC ai hj.1,aC ai hj.2]),(4,aC ai cu),(7,ae dM),(9,.obj [ae cZ.At,ae cZ.cc]),(10,ae (aG (hT+cZ.At))),(38,.a7 ai.z ⟨4,[]⟩ cu.length),(39,ae (cu.length:Int)),(40,ae er.2),(67,ak cp fG),(68,ae (fG.length:Int)),(69,ae kR.2.2)]) 8 (λ(fp:List Int × List Int)=>[(1,.obj [ak (bE cp) a0]),(2,.obj [.aP,.aP,.aP]),(3,.obj [aC ai eN,aC ai fp.1,aC ai fp.2]),(4,aC ai cu),(7,ae dM),(9,.obj [ae cZ.At,ae cZ.cc]),(10,ae (aG (hT+cZ.At))),(38,.a7 ai.z ⟨4,[]⟩ cu.length),(39,ae (cu.length:Int)),(40,ae er.2),(67,ak cp fG),(68,ae (fG.length:Int)),(69,ae kR.2.2)]) ah (λhj o h=>?_) ?_
      ·clear ah;refine W.bJ<|W.rs [(1,_),(2,_),(3,_),(4,_),(7,_),(9,_),(10,_),(38,.a7 ai.z ⟨4,[]⟩ cu.length),(39,_),(40,_),(67,_),(68,_),(69,_),(85,_)] (aj O.bz<|aj (O.cD (y:=.a7 ai.z ⟨3,[2]⟩ hj.2.length))<|aj (O.lF .c5 gm)<|cI q<|aj (O.leq .aZ .aZ)<|kg (.n q (.n q (.n q (.n q (.n q (.n q (.n q (.r q (cU.a7 (en:=ai) q) iz (qT q q q q q q)))))))))) ?_;refine W.bZ h q (λvA h=>?_) (λvA h=>?_)
       ·refine W.cO<|ay.bF<|W.cb<|aU h λgQ CZ h=>aU h λkT vS h=>W.rd [[],[0],[],[0,1,2],[],[4],[],aD 0 7 [],aD 0 6 [],aD 0 9 [],aD 0 10 [],aD 0 11 []] [(1,_),(2,_),(3,_),(4,_),(7,_),(9,_),(10,_),(38,.a7 ai.z ⟨4,[]⟩ cu.length),(39,_),(40,_),(67,_),(68,_),(69,_)] eB (by kernel_rfl) (av 0 O.bz<|av 1 (O.cD (y:=.a7 ai.z ⟨3,[2]⟩ hj.2.length))<|bB.fb 2 (x:=ak ai [0]) (O.de (ys:=[ae 0]) ai [0] gm q q q q q q mE q q) q q q q .none<|av 3 (O.ap (en:=ai) (r:=gQ) .c5 q .z2 .i ql q CZ)<|av 4 O.bz<|av 5 (O.cD (y:=.a7 ai.z ⟨3,[1]⟩ hj.1.length))<|bB.fb 6 (x:=ak ai [0]) (O.de (ys:=[ae 0]) ai [0] gm q q q q q q mE q q) q q q q .none<|av 7 (O.E2 (en:=ai) (r:=kT) .c5 q .z2 .i ql q vS (Dp (by kernel_rfl) (by kernel_rfl)))<|av 8 O.bz<|bB.BD 9 (G2:=[(1,.obj [ak (bE cp) a0]),(2,.obj [.aP,.aP,.aP]),(3,.obj [aC ai eN,.dead,aC ai (hj.2++[0])]),(4,aC ai cu),(7,ae dM),(9,.obj [ae cZ.At,ae cZ.cc]),(10,ae (aG (hT+cZ.At))),(38,.a7 ai.z ⟨4,[]⟩ cu.length),(39,ae (cu.length:Int)),(40,ae er.2),(67,ak cp fG),(68,ae (fG.length:Int)),(69,ae kR.2.2),(93,aC ai (hj.1++[0]))]) (h3.settle (ts:=[89,93]) (xs:=[.a7 ai.z ⟨89,[]⟩ (hj.2.length+[0].length),.a7 ai.z ⟨93,[]⟩ (hj.1.length+[0].length)]) (ys:=[.own ai.z (hj.2.length+[0].length) (bC ai hj.2++bC ai [0]),.own ai.z (hj.1.length+[0].length) (bC ai hj.1++bC ai [0])]) (g2:=get [(1,.obj [ak (bE cp) a0]),(2,.obj [.aP,.aP,.aP]),(3,.obj [aC ai eN,.dead,.dead]),(4,aC ai cu),(7,ae dM),(9,.obj [ae cZ.At,ae cZ.cc]),(10,ae (aG (hT+cZ.At))),(38,.a7 ai.z ⟨4,[]⟩ cu.length),(39,ae (cu.length:Int)),(40,ae er.2),(67,ak cp fG),(68,ae (fG.length:Int)),(69,ae kR.2.2),(89,aC ai (hj.2++[0])),(93,aC ai (hj.1++[0])),(94,.ptr ⟨3,[]⟩ 2)]) q (eQ.take (.jA q q q .jz (.jA q q q .jz .nil))) (by decide) q (E1 q q) (Trim.keep (.n q (.n q (.n q (.n q (.n q (.n q (.n q (.r q (cU.a7 (en:=ai) q) iz (.n q (.n q (.n q (.n q (.n q (.e q (p2 _ _ _) (.e q (p2 _ _ _) (.q q q q .nil))))))))))))))))) (bl.jM (bl.tG (y':=aC ai (hj.2++[0])) (cs2:=[aC ai eN,.dead,aC ai (hj.2++[0])]) q q (.ptr q) (.own q) (.r q .nil) .refl q Hd q q q q q (.n q q (.n q q (.b q (.n q q (.n q q (.n q q (.n q q (.w (en:=ai) q q q q (.n q q (.n q q (.n q q (.n q q (.n q q (.n q q .nil))))))))))))))))) q q (by kernel_rfl) q q (by kernel_rfl)<|av 10 O.bz<|bB.gG 11 (G2:=[(1,.obj [ak (bE cp) a0]),(2,.obj [.aP,.aP,.aP]),(3,.obj [aC ai eN,aC ai (hj.1++[0]),aC ai (hj.2++[0])]),(4,aC ai cu),(7,ae dM),(9,.obj [ae cZ.At,ae cZ.cc]),(10,ae (aG (hT+cZ.At))),(38,.a7 ai.z ⟨4,[]⟩ cu.length),(39,ae (cu.length:Int)),(40,ae er.2),(67,ak cp fG),(68,ae (fG.length:Int)),(69,ae kR.2.2)]) (bl.tG (y':=aC ai (hj.1++[0])) (cs2:=[aC ai eN,aC ai (hj.1++[0]),aC ai (hj.2++[0])]) q q (.ptr q) (.own q) (.r q .nil) .refl q Hd q q q q q (.n q q (.n q q (.b q (.n q q (.n q q (.n q q (.n q q (.w (en:=ai) q q q q (.n q q (.n q q (.n q q (.n q q (.n q q .nil))))))))))))))<|bB.fin q q q (.n q (.n q (.n q (.n q (.n q (.n q (.n q (.r q (cU.a7 (en:=ai) q) iz (l' q q q q q)))))))))) ?_;exact ay.cb<|aT h ▸ ay.go (.n q (.n q (.n q (.n q (.n q (.n q (.n q (.r q (cU.a7 (en:=ai) q) iz (l' q q q q q)))))))))
       ·exact W.fq<|ay.fi<|aT h ▸ ay.aS (.n q (.n q (.n q (.n q (.n q (.n q (.n q (.r q (cU.a7 (en:=ai) q) iz (l' q q q q q)))))))))
      refine ay.fu<|ay.bF<|aU h λwC xM h=>aU h λHl Pd h=>W.rd [[],[0],[],[],[3],[],[],[6],[],[8],[0,1,2,6,7],[0,1,2,6,7,10],aD 0 12 [],aD 0 13 []] [(1,_),(2,_),(3,_),(4,_),(7,_),(38,.a7 ai.z ⟨4,[]⟩ cu.length),(39,_),(40,_),(67,_),(68,_),(69,_)] eB (by kernel_rfl) (av 0 O.bz<|av 1 (O.cD (y:=.a7 ai.z ⟨3,[2]⟩ fp.2.length))<|av 2 (O.aO (.lit q))<|av 3 O.bz<|av 4 (O.cD (y:=.a7 ai.z ⟨3,[1]⟩ fp.1.length))<|av 5 (O.aO (.lit q))<|av 6 (O.aO (.lit q))<|av 7 (O.add .aZ .b2)<|av 8 O.bz<|av 9 O.cM<|av 10 (O.gN (en:=ai) q .c5 .aZ gm xM q)<|bB.M7 11 (G2:=[(1,.obj [ak (bE cp) a0]),(2,.obj [.aP,.aP,.aP]),(3,.obj [aC ai eN,aC ai fp.1,aC ai (fp.2.set (aG (hT+cZ.At)).toNat (aG (dM+1)))]),(4,aC ai cu),(7,ae dM),(9,.obj [ae cZ.At,ae cZ.cc]),(10,ae (aG (hT+cZ.At))),(38,.a7 ai.z ⟨4,[]⟩ cu.length),(39,ae (cu.length:Int)),(40,ae er.2),(67,ak cp fG),(68,ae (fG.length:Int)),(69,ae kR.2.2)]) (U:=[(9,105,some (ae cZ.cc)),(8,104,some (.ptr ⟨9,[]⟩ 1)),(5,101,some (ae (aG (hT+cZ.At)))),(4,100,some (.a7 ai.z ⟨3,[1]⟩ fp.1.length)),(3,99,some (.ptr ⟨3,[]⟩ 1))]) (ps:=[⟨3,[1]⟩]) (h3.cell (r:=3) (k0:=1) (y:=aC ai fp.1) (g5:=get [(1,.obj [ak (bE cp) a0]),(2,.obj [.aP,.aP,.aP]),(3,.obj [aC ai eN,aC ai fp.1,aC ai (fp.2.set (aG (hT+cZ.At)).toNat (aG (dM+1)))]),(4,aC ai cu),(7,ae dM),(9,.obj [ae cZ.At,ae cZ.cc]),(10,ae (aG (hT+cZ.At))),(38,.a7 ai.z ⟨4,[]⟩ cu.length),(39,ae (cu.length:Int)),(40,ae er.2),(67,ak cp fG),(68,ae (fG.length:Int)),(69,ae kR.2.2)]) q q b9.bq (λv _=>⟨get [(1,.obj [ak (bE cp) a0]),(2,.obj [.aP,.aP,.aP]),(3,.obj [aC ai eN,.lit v,aC ai fp.2]),(4,aC ai cu),(7,ae dM),(9,.obj [ae cZ.At,ae cZ.cc]),(10,ae (aG (hT+cZ.At))),(38,.a7 ai.z ⟨4,[]⟩ cu.length),(39,ae (cu.length:Int)),(40,ae er.2),(67,ak cp fG),(68,ae (fG.length:Int)),(69,ae kR.2.2),(103,ae (aG (dM+1))),(106,.ptr ⟨3,[2]⟩ ((aG (hT+cZ.At)).toNat * ai.z+0))],get [(1,.obj [ak (bE cp) a0]),(2,.obj [.aP,.aP,.aP]),(3,.obj [aC ai eN,.lit v,aC ai (fp.2.set (aG (hT+cZ.At)).toNat (aG (dM+1)))]),(4,aC ai cu),(7,ae dM),(9,.obj [ae cZ.At,ae cZ.cc]),(10,ae (aG (hT+cZ.At))),(38,.a7 ai.z ⟨4,[]⟩ cu.length),(39,ae (cu.length:Int)),(40,ae er.2),(67,ak cp fG),(68,ae (fG.length:Int)),(69,ae kR.2.2)],Trim.keep (.n q (.n q (.n q (.n q (.n q (.n q (.n q (.r q (cU.a7 (en:=ai) q) iz (.n q (.n q (.n q (.n q (.n q (.n q (.r q (cU.el (en:=ai) q xM q) jY .nil))))))))))))))),bl.jM (bl.u4 (en:=ai) (y2:=aG (dM+1)) (cs':=[ae (aG (dM+1))]) (x2:=.obj [aC ai eN,.lit v,aC ai (fp.2.set (aG (hT+cZ.At)).toNat (aG (dM+1)))]) q q (.ptr q) (.lit q) q xM tH q q q q q q q (.n q q (.n q q (.b q (.n q q (.n q q (.n q q (.n q q (.w (en:=ai) q q q q (.n q q (.n q q (.n q q (.n q q (.n q q .nil)))))))))))))),q,Trim.keep (.n q (.n q (.n q (.n q (.n q (.n q (.n q (.r q (cU.a7 (en:=ai) q) iz (l' q q q q q)))))))))⟩)) q q (by kernel_rfl) q q q (.c (.inr (.inl ⟨_,q⟩)) q q q q q (eC.wanted .none) (O.pf q .z5 o4 q) (.c (.inr (.inr (.inr (.inl ⟨9,_,_,q,q,gU q,by simp,_,q,gU q⟩)))) q q q q q (eC.wanted .none) (O.nx q .z4 Vp q) (.c (.inr (.inl ⟨_,q⟩)) q q q q q (eC.wanted .none) (O.aO (.lit q)) (.c (.inl ⟨3,[1],_,_,_,_,q,by simp,q,q,Nat.le_refl _⟩) q q q q q (eC.wanted .none) (O.qI (y:=.a7 ai.z ⟨3,[1]⟩ fp.1.length) q .z5 Iu q q) (.c (.inr (.inr (.inr (.inl ⟨3,_,_,q,q,gU q,by simp,_,q,gU q⟩)))) q q q q q (eC.wanted .none) (O.nx q .z4 Vu q) .nil))))) (by kernel_rfl)<|av 12 (O.gN (en:=ai) q .c5 .aZ gm Pd q)<|bB.gG 13 (G2:=[(1,.obj [ak (bE cp) a0]),(2,.obj [.aP,.aP,.aP]),(3,.obj [aC ai eN,aC ai (fp.1.set (aG (hT+cZ.At)).toNat cZ.cc),aC ai (fp.2.set (aG (hT+cZ.At)).toNat (aG (dM+1)))]),(4,aC ai cu),(7,ae dM),(38,.a7 ai.z ⟨4,[]⟩ cu.length),(39,ae (cu.length:Int)),(40,ae er.2),(67,ak cp fG),(68,ae (fG.length:Int)),(69,ae kR.2.2)]) (bl.u4 (en:=ai) (y2:=cZ.cc) (cs':=[ae cZ.cc]) (x2:=.obj [aC ai eN,aC ai (fp.1.set (aG (hT+cZ.At)).toNat cZ.cc),aC ai (fp.2.set (aG (hT+cZ.At)).toNat (aG (dM+1)))]) q q (.ptr q) (.lit q) q Pd tH q q q q q q q (.n q q (.n q q (.b q (.n q q (.n q q (.w (en:=ai) q q q q (.n q q (.n q q (.n q q (.n q q (.n q q .nil))))))))))))<|bB.fin q q q (.n q (.n q (.n q (.n q (.n q (.r q (cU.a7 (en:=ai) q) iz (l' q q q q q)))))))) ?_;refine ay.cb<|ay.bF<|W.rx [(1,_),(2,_),(3,_),(4,_),(7,_),(38,.a7 ai.z ⟨4,[]⟩ cu.length),(39,_),(40,_),(67,_),(68,_),(69,_)] (aj (O.add .aZ .b2)<|aE.GM (G1:=[(1,_),(2,_),(3,_),(4,_),(7,_),(38,.a7 ai.z ⟨4,[]⟩ cu.length),(39,_),(40,_),(67,_),(68,_),(108,_)]) (.n q (.n q (.n q (.n q (.n q (.r q (cU.a7 (en:=ai) q) iz (l' q q q q q)))))))<|cI q<|kg (.n q (.n q (.n q (.n q (.n q (.r q (cU.a7 (en:=ai) q) iz (l' q q q q q)))))))) ?_;exact aT h ▸ ay.go (.n q (.n q (.n q (.n q (.n q (.r q (cU.a7 (en:=ai) q) iz (l' q q q q q)))))))
     ·exact W.fq<|ay.fi<|aT h ▸ ay.aS (.n q (.n q (.n q (.n q (.r q (cU.a7 (en:=ai) q) iz (l_ q q))))))
    refine ay.fu<|ay.cb<|ay.bF<|W.rx [(1,_),(2,_),(3,_),(4,_),(38,.a7 ai.z ⟨4,[]⟩ cu.length),(39,_),(40,_)] (aj (O.add .aZ .b2)<|aE.GM (G1:=[(1,_),(2,_),(3,_),(4,_),(38,.a7 ai.z ⟨4,[]⟩ cu.length),(39,_),(109,_)]) (.n q (.n q (.n q (.n q (.r q (cU.a7 (en:=ai) q) iz (l_ q q))))))<|cI q<|kg (.n q (.n q (.n q (.n q (.r q (cU.a7 (en:=ai) q) iz (l_ q q))))))) ?_;exact aT h ▸ ay.go (.n q (.n q (.n q (.n q (.r q (cU.a7 (en:=ai) q) iz (l_ q q))))))
   ·exact W.fq<|ay.fi<|aT h ▸ ay.t1
  refine ay.fu<|ay.bF<|W.cm [2] (aj (O.dO (cs':=[.a7 ai.z ⟨3,[0]⟩ cL.cX.length,.a7 ai.z ⟨3,[1]⟩ cL.cc.length,.a7 ai.z ⟨3,[2]⟩ cL.b'.length]) q .z4 E6 q q)<|aE.jq (G2:=[(2,.obj (vn.cells cL))]) q (bl.tG (y':=.agg (vn.cells cL)) (cs2:=vn.cells cL) q q (.obj q) (.dd q q) (.nT (.r q (.r q (.r q .nil))) .nil) (fI.agg (.f (.f (.f .nil)))) q LU q q q q q (.b q .nil))<|bG q) ?_;exact W.rt<|aT h ▸ jF (.c (ys0:=[.a7 ai.z ⟨2,[0]⟩ cL.cX.length,.a7 ai.z ⟨2,[1]⟩ cL.cc.length,.a7 ai.z ⟨2,[2]⟩ cL.b'.length]) q E6 q q q (.o q (.o q (.o q .nil))) .nil)
instance ad9 {a0:(List (List cH))}{r:h2}:bx prog 87 (AV a0=some r) [ak (bE cp) a0] [none] (.agg (vn.cells r)):=⟨UJ a0 _⟩
theorem UB (a0:(List Row)) (r:(List Int) × h2) (h:yq a0=some r):bP prog 48 [ak pH a0] [none] (.bS [ak ai r.1,.agg (ue.cells r.2)]):=by
 unfold yq at h;refine bP.go (N:=⟨27,[]⟩) func48 q q q q (W.fin ?_);refine W.st [(0,ak pH a0)] ?_;refine W.cm [0,2,3] (aj (O.az .xY)<|aj (O.dz (cs:=[.aP,.aP,.aP]) EA q q)<|bG q) ?_;refine W.bK [0,2,3,4] ?_;refine W.bJ<|W.cm [2,3,4,7,8,9] (aj (O.aO .z2)<|aj O.j1<|aj (O.aO .b2)<|bG q) ?_;refine W.cb<|aU h λx2 ah h=>W.ht (([]:List Int),([]:List (List cH)),0) (λ(s1:List Int × List (List cH) × Int)=>[(2,aC ai s1.1),(4,aC (bE cp) s1.2.1),(9,ae s1.2.2)]) [2,3,4,7,8,9] 0 (λ(x2:List Int × List (List cH))=>[(2,aC ai x2.1),(4,aC (bE cp) x2.2)]) [2,3,4] ah (λs1 o h=>?_) ?_
 ·clear ah;refine W.bK [2,3,4,7,8,9,10] ?_;refine W.bJ<|W.bZ h q (λlg h=>?_) (λlg h=>?_)
  ·refine W.cO<|ay.bF<|W.bJ<|W.cb<|aU h λbV mX h=>W.cm [2,3,4,6,7,8,9] (aj (O.hb mX)<|aj (O.na (cs':=[ae bV.Def,ak cp bV.hd]) .mD Ti q q)<|aj (O.dz (cs:=[ae 0,.aP]) ab1 q q)<|aE.dJ (bl.fa [2,3,4,6,7,8,9])<|bG q) ?_;refine W.c3 (G1:=[(2,_),(3,_),(4,_),(6,_),(7,_),(8,_),(9,_)]) (Hf q q q q q q q) ?_;refine aU h λbA jT h=>aU h λbn jb h=>W.rd [[],[],[1],[1,2],[0,1,2,3],[],[],[6],[6,7],aD 0 9 [],aD 0 10 [],aD 0 11 []] [(2,_),(3,_),(4,_),(7,_),(8,_),(9,_)] eB (by kernel_rfl) (av 0 (O.aO .z3)<|av 1 O.bz<|av 2 O.cM<|bB.fb 3 (x:=ak ai [bV.Def]) (O.de (ys:=[ae bV.Def]) ai [bV.Def] gm q q q q q q mE q q) q q q q .none<|av 4 (O.ap (en:=ai) (r:=bA) .c5 q .z2 .i ql q jT)<|av 5 (O.aO .z3)<|av 6 O.bz<|av 7 (O.cD (y:=ak cp bV.hd))<|bB.fb 8 (x:=ak (bE cp) [bV.hd]) (O.de (ys:=[ak cp bV.hd]) (bE cp) [bV.hd] aaL q q q q q q ab_ q q) q q q q .none<|av 9 (O.E2 (en:=(bE cp)) (r:=bn) .c5 q .z2 .i SS q jb (Dp (by kernel_rfl) (by kernel_rfl)))<|bB.Tz 10 (G2:=[(3,.obj [.aP,.aP,.aP]),(7,ak pH a0),(8,ae (a0.length:Int)),(9,ae s1.2.2),(22,aC (bE cp) (s1.2.1++[bV.hd]))]) (h3.settle (ts:=[17,22]) (xs:=[.a7 ai.z ⟨17,[]⟩ (s1.1.length+[bV.Def].length),.a7 (bE cp).z ⟨22,[]⟩ (s1.2.1.length+[bV.hd].length)]) (ys:=[.own ai.z (s1.1.length+[bV.Def].length) (bC ai s1.1++bC ai [bV.Def]),.own (bE cp).z (s1.2.1.length+[bV.hd].length) (bC (bE cp) s1.2.1++bC (bE cp) [bV.hd])]) (g2:=get [(2,.dead),(3,.obj [.aP,.aP,.aP]),(4,.dead),(7,ak pH a0),(8,ae (a0.length:Int)),(9,ae s1.2.2),(17,aC ai (s1.1++[bV.Def])),(22,aC (bE cp) (s1.2.1++[bV.hd]))]) q (eQ.take (.jA q q q .jz (.jA q q q .jz .nil))) (by decide) q (E1 q q) (Trim.keep (.n q (.n q (.n q (.n q (.n q (.n q (.e q (p2 _ _ _) (.e q (p2 _ _ _) .nil))))))))) (bl.jM (bl.EY q q (.own q) q (.n q q (.n q q (.n q q (.n q q (.n q q .nil))))) q q))) q q (by kernel_rfl) q q (by kernel_rfl)<|bB.H5 11 (bl.k6 [2,3,7,8,9])<|bB.fin q q q (qT q q q q q q)) ?_;refine ay.cb<|ay.bF<|W.b0 [2,3,4,7,8,9] (aj (O.add .aZ .b2)<|aE.b0 [2,3,4,7,8,23] q<|aE.bm) ?_;exact aT h ▸ ay.gt
  ·exact W.fq<|ay.fi<|aT h ▸ ay.t1
 refine ay.fu<|ay.bF<|aU h λbL mY h=>W.cm [2,3] (aj (O.aO .z3)<|aj (O.aO .z3)<|eO (b_.mz (ys:=[.a7 (bE cp).z ⟨4,[]⟩ x2.2.length]) q (.c (.row q) .nil) (bx.go mY))<|aE.cd (bl.k6 [3,26])<|aE.jq (G2:=[(2,aC ai x2.1),(3,.obj (ue.cells bL))]) q (bl.tG (y':=.agg (ue.cells bL)) (cs2:=ue.cells bL) q q (.obj q) (.agg q q) (.nT (.r q (.r q (.r q .nil))) .nil) (fI.agg (.z (.z (.z .nil)))) q LU q q q q q (.n q q (.b q .nil)))<|bG q) ?_;refine W.dP (G1:=[(2,ak ai x2.1),(3,_)]) [2] (.z q q .kY (.n q q .nil)) ?_;exact W.rt<|aT h ▸ jF (.f q q (.c (ys0:=ue.cells bL) q E6 q q q (.f q (.f q (.f q .nil))) .nil))
instance adM {a0:(List Row)}{r:(List Int) × h2}:bx prog 48 (yq a0=some r) [ak pH a0] [none] (.bS [ak ai r.1,.agg (ue.cells r.2)]):=⟨UB a0 _⟩
theorem UK (a0:(List Int)) (r:Int) (h:wj a0=some r):bP prog 88 [ak ai a0] [none] (ae r):=by
 unfold wj at h;refine bP.go (N:=⟨44,[]⟩) func88 q q q q (W.fin ?_);refine W.st [(0,ak ai a0)] ?_;refine W.bK [0] ?_;refine W.cm [0,3] (aj (O.Y' tw tx)<|aE.rh (G2:=[(0,ak ai a0)]) q (bl.Bs (y':=.mp (mH tw tx ([]:List (Int × Int)))) q q (.mp q) (.m q .nil) .refl (.n q .nil) q q)<|bG q) ?_;refine W.bK [0,3,4] ?_;refine W.bJ<|W.cm [3,4,9,10,11] (aj (O.aO .z2)<|aj O.j1<|aj (O.aO .b2)<|bG q) ?_;refine W.cb<|aU h λx2 ah h=>W.ht (([]:List (Int × Int)),(-1),0) (λ(s1:(List (Int × Int)) × Int × Int)=>[(3,.mp (mH tw tx s1.1)),(4,ae s1.2.1),(11,ae s1.2.2)]) [3,4,9,10,11] 0 (λ(x2:Int)=>[(4,ae x2)]) [4] ah (λs1 o h=>?_) ?_
 ·clear ah;refine W.bK [3,4,9,10,11,12] ?_;refine W.bJ<|W.bZ h q (λlg h=>?_) (λlg h=>?_)
  ·refine W.cO<|ay.bF<|W.bJ<|aU h λiy ag h=>W.eW [3,4,9,10,11] [(3,.mp (mH tw tx iy.1)),(4,ae iy.2)] ?_ ?_
   ·clear h; have h:=ag; clear ag;refine W.cb<|aU h λbA jT h=>W.bK [3,4,6,9,10,11] ?_;refine aU h λbn jb h=>aU h λbL mY h=>W.cm [3,4,6,9,10,11] (aj (O.aO (.mp q))<|cI q<|aj (O.rG (K:=tw) (V:=tx) (m:=s1.1) (x:=bA) (Y:=ae bA) (X:=ae bn) (.gl q) q .aZ q Hi jb q)<|aj (O.add .aZ .b2)<|aE.jq (G2:=[(3,.mp (mH tw tx bL)),(4,ae s1.2.1),(6,ae bA),(9,ak ai a0),(10,ae (a0.length:Int)),(11,ae s1.2.2)]) q (bl.mt (K:=tw) (V:=tx) (m:=s1.1) (m':=bL) (x:=bA) (y:=aG (bn+1)) (Y:=ae bA) (Z:=ae (aG (bn+1))) (p:=⟨3,[]⟩) (x2:=.mp (mH tw tx bL)) q q (.gl q) q (.lit q) q (.lit q) q Hi mY q q q (.b q (.n q q (.n q q (.n q q (.n q q (.n q q .nil)))))))<|bG q) ?_;refine aU h λcw nF h=>aU h λch qD h=>W.cm [3,4,6,7,9,10,11] (aj (O.aO (.mp q))<|cI q<|aj (O.rG (K:=tw) (V:=tx) (m:=bL) (x:=bA) (Y:=ae bA) (X:=ae cw) (.gl q) q .aZ q Hi nF q)<|aj (O.aO (.mp q))<|cI q<|aj (O.rG (K:=tw) (V:=tx) (m:=bL) (x:=s1.2.1) (Y:=ae s1.2.1) (X:=ae ch) (.gl q) q .aZ q Hi qD q)<|aE.bm) ?_;refine aU h λsa ag h=>W.kQ [3,4,6,9,10,11,40] [(40,bd sa)] ?_ ?_
    ·refine cI q<|aj (O.lss .aZ .b2)<|aj (O.aO (.lit q)) ?_;rcases eg ag with ⟨nY,ag⟩ | ⟨nY,ag⟩
     ·exact aT ag ▸ aE.bm
     ·refine bp nY (O.aO (.lit q))<|bp nY (O.gtr .aZ .b2)<|aj (O.gA .aZ nY .aZ)<|aj (O.aO (.lit q)) ?_;rcases eg ag with ⟨mi,ag⟩ | ⟨mi,ag⟩
      ·exact aT ag ▸ aE.bm
      ·refine bp mi (O.aO (.lit q))<|bp mi (O.eql .aZ .b2)<|bp mi (O.aO (.lit q)) ?_;rcases eg ag with ⟨jO,ag⟩ | ⟨jO,ag⟩
       ·exact aT ag ▸ (bp jO (O.aO (.lit q))<|bp jO (O.aO (.lit q))<|bp jO (O.lss .aZ .aZ)<|bp mi (O.gB .aZ jO .aZ)<|aE.bm)
       ·exact aT ag ▸ (e8 jO<|e8 jO<|e8 jO<|bp mi (O.gA .aZ jO .b2)<|aE.bm)
    refine aU h λrE ag h=>W.eW [3,4,9,10,11] [(4,ae rE)] ?_ ?_
    ·clear h; have h:=ag; clear ag;refine W.bZ h q (λlV h=>?_) (λlV h=>?_)
     ·refine W.b0 [3,4,9,10,11] (cI q<|aE.b0 [3,9,10,11,41] q<|aE.bm) ?_;exact aT h ▸ ay.dk
     ·exact W.cO<|aT h ▸ ay.dk
    exact ay.cb<|aT h ▸ ay.dk
   refine ay.bF<|W.b0 [3,4,9,10,11] (aj (O.add .aZ .b2)<|aE.b0 [3,4,9,10,42] q<|aE.bm) ?_;exact aT h ▸ ay.gt
  ·exact W.fq<|ay.fi<|aT h ▸ ay.t1
 refine ay.fu<|ay.bF<|W.bK [2] ?_;exact W.rt<|aT h ▸ k2
instance ad_ {a0:(List Int)}{r:Int}:bx prog 88 (wj a0=some r) [ak ai a0] [none] (ae r):=⟨UK a0 _⟩
instance ad' {a0:Act}{r:Int}:bx prog 89 (AW a0=some r) [.agg [ae a0.Kind,ae a0.N]] [none] (ae r):=⟨λh=>by unfold AW at h; exact bP.bm (N:=⟨55,[]⟩) [1,2,3,20,37,46] (.eM 1 [1,3] (λ(kG:Bool)=>[(3,bd kG)]) (.b .e (.eM 3 [1,20] (λ(nW:Bool)=>[(20,bd nW)]) (.b .e (.eM 5 [1,37] (λ(iI:Bool)=>[(37,bd iI)]) (.b .e (.eM 7 [46] (λ(iU:Bool)=>[(46,bd iU)]) .e))))))) func89 rfl rfl rfl rfl rfl dv⟩
instance adN {a0:hc}{r:(List Row)}:bx prog 49 (DR a0=some r) [.agg [ak (bE dV) a0.cA,ak (bE ai) a0.eD]] [none] (ak pH r):=⟨λh=>by unfold DR at h; exact bP.bm (N:=⟨75,[]⟩) [1,2,3,5,6,8,9,10,11,13,14,15,16,19,20,21,22,27,37,38,39,40,58] (.e5 (λ(s1:List Row × Int)=>[(3,aC pH s1.1),(15,ae s1.2)]) [3,13,14,15] 0 (λ(x2:List Row)=>[(3,aC pH x2)]) [3] (.b (.e5 (λ(cK:List Int × Int)=>[(6,aC ai cK.1),(21,ae cK.2)]) [3,5,6,13,14,15,19,20,21] 2 (λ(bn:List Int)=>[(6,aC ai bn)]) [3,5,6,13,14,15] (.b (.dD [3,5,6,13,14,15,19,20,21] (λ(jU:List Int)=>[(6,aC ai jU)]) (.p (.dD [3,5,6,13,14,15,19,20,21] (λ(ha:List Int)=>[(6,aC ai ha)]) .e .e)) .e) .e) (.e5 (λ(nL:List cH × Int)=>[(2009,aC cp nL.1),(39,ae nL.2)]) [3,9,13,14,15,37,38,39] 4 (λ(cY:List cH)=>[(2009,aC cp cY)]) [3,9,13,14,15] (.b (.dD [3,9,13,14,15,37,38,39] (λ(xT:List cH)=>[(2009,aC cp xT)]) (.eM 16 [3,9,10,11,13,14,15,37,38,39,58] (λ(wY:Bool)=>[(58,bd wY)]) (.dD [3,9,13,14,15,37,38,39] (λ(KE:List cH)=>[(2009,aC cp KE)]) (.b (.rd 17 [[],[0],[],[],[3],[2,3,4],[2,3,4,5],aD 0 7 [],aD 0 8 [],aD 0 9 []] .e) .e) .e)) .e) .e) (.dP 19 9 (some 1) cp .e))) .e) .e) func49 rfl rfl rfl rfl rfl dv⟩
end Go.Proofs
