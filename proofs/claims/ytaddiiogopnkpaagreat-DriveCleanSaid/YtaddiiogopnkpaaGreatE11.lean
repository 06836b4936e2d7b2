/- Parts of the proof that the last text states. -/
import Derived.Test.YtaddiiogopnkpaaGreatRows
import Derived.Test.YtaddiiogopnkpaaGreatE10
set_option linter.unusedVariables false
namespace Go.Proofs
open Tryz
open Go Go.Own
set_option maxRecDepth 100000
set_option maxHeartbeats 4000000
set_option synthInstance.maxHeartbeats 1000000
set_option synthInstance.maxSize 10000
instance:ou ck:=⟨λx=>[(.int .i64 x.At),(.int .i64 x.b')],λ_=>rfl,λx v hv=>by simp only [List.mem_cons,List.not_mem_nil,or_false] at hv; rcases hv with rfl | rfl <;> rfl⟩
theorem qk:j6 prog 3=true:=by kernel_rfl
theorem aaB:ft prog 46 132 2=true:=by kernel_rfl
theorem Px:uw prog 3 .i64=true:=by kernel_rfl
theorem Pw:uw prog 178 .u64=true:=by kernel_rfl
theorem Bt:h8 prog 132 2=true:=by kernel_rfl
theorem call58:hG prog 58=true:=by kernel_rfl
theorem U_:iY prog 132 1 1 3=true:=by kernel_rfl
theorem Iw:j6 prog 27=true:=by kernel_rfl
theorem gx:ft prog 27 3 1=true:=by kernel_rfl
theorem Vd:iY prog 45 1 1 27=true:=by kernel_rfl
theorem sQ:(prog.info? 145).bind (·.zero)=some (.agg #[.int .i64 0,.int .i64 0]):=by kernel_rfl
theorem D8:jV prog 145 [(0,1),(1,1)]=true:=by kernel_rfl
theorem yF:hF prog 145 2=true:=by kernel_rfl
theorem sW:h8 prog 145 2=true:=by kernel_rfl
theorem E3:h8 prog 45 3=true:=by kernel_rfl
theorem wR:h8 prog 48 11=true:=by kernel_rfl
theorem e0:prog.follows .mixedOrders=true:=by kernel_rfl
theorem tw:hF prog 3 1=true:=by kernel_rfl
theorem mC:jf prog 3 1=true:=by kernel_rfl
theorem qh:im prog 27 3 1 8=true:=by kernel_rfl
theorem G_:hF prog 27 1=true:=by kernel_rfl
theorem uV:ft prog 54 56 4=true:=by kernel_rfl
theorem E4:h8 prog 56 4=true:=by kernel_rfl
theorem abH:jf prog 56 4=true:=by kernel_rfl
theorem SS:im prog 54 56 4 48=true:=by kernel_rfl
theorem aaX:hF prog 54 1=true:=by kernel_rfl
theorem HB:(prog.info? 56).bind (·.zero)=some (.agg #[.int .i64 0,.int .i64 0,.int .i64 0,.slice none 0 0]):=by kernel_rfl
theorem Q0:jV prog 56 [(0,1),(1,1),(2,1),(3,1)]=true:=by kernel_rfl
theorem aaY:hF prog 56 4=true:=by kernel_rfl
theorem call101:hG prog 101=true:=by kernel_rfl
theorem call76:hG prog 76=true:=by kernel_rfl
theorem abB:(prog.info? 70).bind (·.zero)=some (.agg #[.int .i64 0,.bool false]):=by kernel_rfl
theorem aao:jV prog 70 [(0,1),(1,1)]=true:=by kernel_rfl
theorem abI:jf prog 70 2=true:=by kernel_rfl
theorem yC:ft prog 53 70 2=true:=by kernel_rfl
theorem SR:im prog 53 70 2 16=true:=by kernel_rfl
theorem Ew:(prog.info? 58).bind (·.zero)=some (.agg #[.int .i64 0,.int .i64 0,.int .i64 0,.int .i64 0,.slice none 0 0,.slice none 0 0,.slice none 0 0,.int .i64 0,.int .i64 0,.int .i64 0,.slice none 0 0]):=by kernel_rfl
theorem abw:(prog.info? 124).bind (·.zero)=some (.agg #[.slice none 0 0,.slice none 0 0,.slice none 0 0,.slice none 0 0,.slice none 0 0,.slice none 0 0,.slice none 0 0,.slice none 0 0,.slice none 0 0,.slice none 0 0,.slice none 0 0,.slice none 0 0,.int .i64 0,.int .i64 0,.slice none 0 0,.slice none 0 0,.int .i64 0,.int .i64 0,.int .i64 0,.int .i64 0,.int .i64 0,.slice none 0 0,.slice none 0 0,.slice none 0 0,.int .i64 0,.int .i64 0,.int .i64 0,.slice none 0 0]):=by kernel_rfl
theorem aaj:jV prog 124 [(0,11),(11,1),(12,1),(13,1),(14,1),(15,1),(16,1),(17,11)]=true:=by kernel_rfl
theorem MQ:h8 prog 58 11=true:=by kernel_rfl
theorem G0:ft prog 34 78 6=true:=by kernel_rfl
theorem Te:h8 prog 78 6=true:=by kernel_rfl
theorem HC:(prog.info? 78).bind (·.zero)=some (.agg #[.string ⟨#[]⟩,.bool false,.int .i64 0,.int .i64 0,.int .i64 0,.string ⟨#[]⟩]):=by kernel_rfl
theorem NC:iY prog 78 2 2 3=true:=by kernel_rfl
theorem L_:(prog.info? 132).bind (·.zero)=some (.agg #[.int .i64 0,.int .i64 0]):=by kernel_rfl
theorem aak:jV prog 132 [(0,1),(1,1)]=true:=by kernel_rfl
theorem abC:jf prog 132 2=true:=by kernel_rfl
theorem SQ:im prog 46 132 2 16=true:=by kernel_rfl
theorem call51:hG prog 51=true:=by kernel_rfl
theorem call52:hG prog 52=true:=by kernel_rfl
theorem aax:ft prog 114 46 1=true:=by kernel_rfl
theorem abz:(prog.info? 234).bind (·.zero)=some (.agg (List.replicate 1000 (Value.bool false)).toArray):=by kernel_rfl
theorem aaT:hF prog 132 2=true:=by kernel_rfl
theorem MM:zh prog 234 4 1000 1=true:=by kernel_rfl
theorem BJ:j6 prog 4=true:=by kernel_rfl
theorem Rj:hF prog 4 1=true:=by kernel_rfl
theorem BI:j6 prog 114=true:=by kernel_rfl
theorem call140:hG prog 140=true:=by kernel_rfl
theorem Ev:(prog.info? 45).bind (·.zero)=some (.agg #[.slice none 0 0,.slice none 0 0,.slice none 0 0]):=by kernel_rfl
theorem QZ:jV prog 45 [(0,1),(1,1),(2,1)]=true:=by kernel_rfl
theorem LQ:hF prog 45 3=true:=by kernel_rfl
theorem RP:(prog.info? 3).bind (·.zero)=some (.int .i64 0):=by kernel_rfl
theorem MX:(prog.info? 3).map (·.bytes)=some 8:=by kernel_rfl
theorem call109:hG prog 109=true:=by kernel_rfl
theorem call110:hG prog 110=true:=by kernel_rfl
theorem Ta:h8 prog 162 2=true:=by kernel_rfl
theorem abx:(prog.info? 162).bind (·.zero)=some (.agg #[.int .i64 0,.slice none 0 0]):=by kernel_rfl
theorem abG:jf prog 46 1=true:=by kernel_rfl
theorem SK:im prog 114 46 1 24=true:=by kernel_rfl
theorem abc:prog.underlying 3=some (.int .i64):=by kernel_rfl
noncomputable abbrev ti:Bl prog 3 Int:=Sj abc
theorem abM:(prog.info? 3).bind (·.zero)=some (.int .i64 0):=by kernel_rfl
noncomputable abbrev tj:Bm prog 3 Int:=Sk abM
theorem Hb:prog.underlying 206=some (.map 3 3):=by kernel_rfl
theorem aaA:ft prog 39 146 1=true:=by kernel_rfl
theorem Q9:ft prog 146 145 2=true:=by kernel_rfl
theorem aaz:ft prog 26 27 1=true:=by kernel_rfl
theorem Ma:(prog.info? 48).bind (·.zero)=some (.agg #[.slice none 0 0,.slice none 0 0,.slice none 0 0,.slice none 0 0,.slice none 0 0,.slice none 0 0,.slice none 0 0,.slice none 0 0,.slice none 0 0,.slice none 0 0,.slice none 0 0]):=by kernel_rfl
theorem qi:h8 prog 41 2=true:=by kernel_rfl
theorem G3:ft prog 36 68 6=true:=by kernel_rfl
theorem MR:h8 prog 68 6=true:=by kernel_rfl
theorem Ex:(prog.info? 68).bind (·.zero)=some (.agg #[.int .i64 0,.slice none 0 0,.int .i64 0,.string ⟨#[]⟩,.slice none 0 0,.int .i64 0]):=by kernel_rfl
theorem NB:iY prog 68 1 1 27=true:=by kernel_rfl
theorem iq:h8 prog 38 5=true:=by kernel_rfl
theorem w4:j6 prog 9=true:=by kernel_rfl
theorem Vf:iY prog 89 0 0 3=true:=by kernel_rfl
theorem NF:iY prog 89 2 2 87=true:=by kernel_rfl
theorem UJ:j6 prog 87=true:=by kernel_rfl
theorem Q':ft prog 87 91 4=true:=by kernel_rfl
theorem zi:h8 prog 91 4=true:=by kernel_rfl
theorem yD:ft prog 96 100 6=true:=by kernel_rfl
theorem S_:h8 prog 100 6=true:=by kernel_rfl
theorem Et:(prog.info? 100).bind (·.zero)=some (.agg #[.string ⟨#[]⟩,.bool false,.int .i64 0,.int .i64 0,.string ⟨#[]⟩,.int .i64 0]):=by kernel_rfl
theorem LI:ft prog 22 89 4=true:=by kernel_rfl
theorem MS:h8 prog 89 4=true:=by kernel_rfl
theorem wv:ft prog 23 95 3=true:=by kernel_rfl
theorem HZ:h8 prog 95 3=true:=by kernel_rfl
theorem A9:(prog.info? 95).bind (·.zero)=some (.agg #[.string ⟨#[]⟩,.slice none 0 0,.int .i64 0]):=by kernel_rfl
theorem BS:iY prog 95 1 1 93=true:=by kernel_rfl
theorem Ix:j6 prog 93=true:=by kernel_rfl
theorem Ea:ft prog 93 98 6=true:=by kernel_rfl
theorem MT:h8 prog 98 6=true:=by kernel_rfl
theorem U':iY prog 248 4 8 3=true:=by kernel_rfl
theorem Va:iY prog 248 5 9 3=true:=by kernel_rfl
theorem Vb:iY prog 248 6 10 9=true:=by kernel_rfl
theorem Rl:hF prog 9 1=true:=by kernel_rfl
theorem yB:ft prog 35 255 2=true:=by kernel_rfl
theorem LA:jV prog 78 [(0,1),(1,1),(2,1),(3,1),(4,1),(5,1)]=true:=by kernel_rfl
theorem call148:hG prog 148=true:=by kernel_rfl
theorem abJ:jf prog 78 6=true:=by kernel_rfl
theorem uT:ft prog 102 4 1=true:=by kernel_rfl
theorem Eu:(prog.info? 255).bind (·.zero)=some (.agg #[.string ⟨#[]⟩,.string ⟨#[]⟩]):=by kernel_rfl
theorem GW:jV prog 255 [(0,1),(1,1)]=true:=by kernel_rfl
theorem HD:jf prog 255 2=true:=by kernel_rfl
theorem HV:im prog 35 255 2 32=true:=by kernel_rfl
theorem NA:iY prog 255 1 1 9=true:=by kernel_rfl
theorem ND:iY prog 78 3 3 3=true:=by kernel_rfl
theorem Ve:iY prog 78 4 4 3=true:=by kernel_rfl
theorem IQ:iY prog 78 5 5 9=true:=by kernel_rfl
theorem GZ:ft prog 246 9 1=true:=by kernel_rfl
theorem Lz:jV prog 68 [(0,1),(1,1),(2,1),(3,1),(4,1),(5,1)]=true:=by kernel_rfl
theorem U9:iY prog 100 2 5 3=true:=by kernel_rfl
theorem Mc:jf prog 68 6=true:=by kernel_rfl
theorem MI:im prog 36 68 6 88=true:=by kernel_rfl
theorem aaV:hF prog 36 1=true:=by kernel_rfl
theorem rR:(prog.info? 38).bind (·.zero)=some (.agg #[.slice none 0 0,.slice none 0 0,.slice none 0 0,.string ⟨#[]⟩,.string ⟨#[]⟩]):=by kernel_rfl
theorem Bu:h8 prog 25 4=true:=by kernel_rfl
theorem Ly:jV prog 38 [(0,1),(1,1),(2,1),(3,1),(4,1)]=true:=by kernel_rfl
theorem G':hF prog 38 5=true:=by kernel_rfl
theorem RQ:(prog.info? 4).bind (·.zero)=some (.bool false):=by kernel_rfl
theorem MY:(prog.info? 4).map (·.bytes)=some 1:=by kernel_rfl
theorem abA:(prog.info? 248).bind (·.zero)=some (.agg #[.slice none 0 0,.slice none 0 0,.slice none 0 0,.string ⟨#[]⟩,.string ⟨#[]⟩,.slice none 0 0,.slice none 0 0,.slice none 0 0,.int .i64 0,.int .i64 0,.string ⟨#[]⟩,.int .i64 0,.int .i64 0]):=by kernel_rfl
theorem aam:jV prog 248 [(0,5),(5,1),(6,1),(7,1),(8,1),(9,1),(10,1),(11,1),(12,1)]=true:=by kernel_rfl
theorem RR:(prog.info? 89).bind (·.zero)=some (.agg #[.int .i64 0,.string ⟨#[]⟩,.slice none 0 0,.int .i64 0]):=by kernel_rfl
theorem Mb:(prog.info? 91).bind (·.zero)=some (.agg #[.string ⟨#[]⟩,.bool false,.int .i64 0,.int .i64 0]):=by kernel_rfl
theorem aaq:jV prog 91 [(0,1),(1,1),(2,1),(3,1)]=true:=by kernel_rfl
theorem abL:jf prog 9 1=true:=by kernel_rfl
theorem SN:im prog 246 9 1 16=true:=by kernel_rfl
theorem Tc:h8 prog 255 2=true:=by kernel_rfl
theorem Vc:iY prog 25 3 3 9=true:=by kernel_rfl
theorem Tb:h8 prog 188 2=true:=by kernel_rfl
theorem aay:ft prog 183 188 2=true:=by kernel_rfl
theorem abE:jf prog 188 2=true:=by kernel_rfl
theorem aby:(prog.info? 188).bind (·.zero)=some (.agg #[.int .i64 0,.int .i64 0]):=by kernel_rfl
theorem aal:jV prog 188 [(0,1),(1,1)]=true:=by kernel_rfl
theorem uU:ft prog 106 186 2=true:=by kernel_rfl
theorem Nz:iY prog 186 0 0 183=true:=by kernel_rfl
theorem Nh:j6 prog 183=true:=by kernel_rfl
theorem RM:(prog.info? 186).bind (·.zero)=some (.agg #[.slice none 0 0,.slice none 0 0]):=by kernel_rfl
theorem QV:jV prog 186 [(0,1),(1,1)]=true:=by kernel_rfl
theorem RU:jf prog 186 2=true:=by kernel_rfl
theorem SJ:im prog 106 186 2 48=true:=by kernel_rfl
theorem Fh:iY prog 186 1 1 184=true:=by kernel_rfl
theorem Ni:j6 prog 184=true:=by kernel_rfl
theorem RO:(prog.info? 198).bind (·.zero)=some (.agg #[.int .i64 0,.int .i64 0]):=by kernel_rfl
theorem QX:jV prog 198 [(0,1),(1,1)]=true:=by kernel_rfl
theorem RW:jf prog 198 2=true:=by kernel_rfl
theorem Q_:ft prog 184 198 2=true:=by kernel_rfl
theorem MH:im prog 184 198 2 16=true:=by kernel_rfl
theorem Ri:hF prog 184 1=true:=by kernel_rfl
theorem S':h8 prog 156 5=true:=by kernel_rfl
theorem abF:jf prog 27 1=true:=by kernel_rfl
theorem SO:im prog 26 27 1 24=true:=by kernel_rfl
theorem call130:hG prog 130=true:=by kernel_rfl
theorem call131:hG prog 131=true:=by kernel_rfl
theorem call129:hG prog 129=true:=by kernel_rfl
theorem call132:hG prog 132=true:=by kernel_rfl
theorem RN:(prog.info? 195).bind (·.zero)=some (.agg #[.int .i64 0,.int .i64 0,.int .i64 0,.int .i64 0]):=by kernel_rfl
theorem QW:jV prog 195 [(0,1),(1,1),(2,1),(3,1)]=true:=by kernel_rfl
theorem RV:jf prog 195 4=true:=by kernel_rfl
theorem Q8:ft prog 110 195 4=true:=by kernel_rfl
theorem HU:im prog 110 195 4 32=true:=by kernel_rfl
theorem u4:(prog.info? 41).bind (·.zero)=some (.agg #[.slice none 0 0,.slice none 0 0]):=by kernel_rfl
theorem Tj:(prog.info? 145).map (·.bytes)=some 16:=by kernel_rfl
theorem abD:jf prog 146 1=true:=by kernel_rfl
theorem SP:im prog 39 146 1 24=true:=by kernel_rfl
theorem aaW:hF prog 39 1=true:=by kernel_rfl
theorem Rk:hF prog 41 2=true:=by kernel_rfl
theorem aan:jV prog 41 [(0,1),(1,1)]=true:=by kernel_rfl
theorem GV:jV prog 100 [(0,4),(4,1),(5,1)]=true:=by kernel_rfl
theorem A_:(prog.info? 98).bind (·.zero)=some (.agg #[.slice none 0 0,.string ⟨#[]⟩,.bool false,.int .i64 0,.int .i64 0,.int .i64 0]):=by kernel_rfl
theorem D9:jV prog 98 [(0,1),(1,4),(5,1)]=true:=by kernel_rfl
theorem yN:jf prog 100 6=true:=by kernel_rfl
theorem HE:jf prog 98 6=true:=by kernel_rfl
theorem LB:jV prog 95 [(0,1),(1,1),(2,1)]=true:=by kernel_rfl
theorem RY:jf prog 95 3=true:=by kernel_rfl
theorem HA:(prog.info? 25).bind (·.zero)=some (.agg #[.string ⟨#[]⟩,.slice none 0 0,.slice none 0 0,.string ⟨#[]⟩]):=by kernel_rfl
theorem QY:jV prog 25 [(0,1),(1,1),(2,1),(3,1)]=true:=by kernel_rfl
theorem aap:jV prog 89 [(0,1),(1,1),(2,1),(3,1)]=true:=by kernel_rfl
theorem RX:jf prog 91 4=true:=by kernel_rfl
theorem SU:im prog 87 91 4 40=true:=by kernel_rfl
theorem aaZ:hF prog 87 1=true:=by kernel_rfl
theorem abK:jf prog 89 4=true:=by kernel_rfl
theorem SL:im prog 22 89 4 56=true:=by kernel_rfl
theorem HW:im prog 96 100 6 64=true:=by kernel_rfl
theorem MJ:im prog 93 98 6 72=true:=by kernel_rfl
theorem Rm:hF prog 93 1=true:=by kernel_rfl
theorem SM:im prog 23 95 3 48=true:=by kernel_rfl
theorem aaU:hF prog 23 1=true:=by kernel_rfl
theorem Td:h8 prog 29 5=true:=by kernel_rfl
theorem Qd {a0 aw r}(h:uM a0 aw=some r):p' (.agg (eh.cells r)):=by
 cases h;exact (inferInstance:p' (.agg [ae _,ae _,ae _,jU 4 (tr _ [])]))
theorem aaF {g:FuncId}{caps:List ab} [dp caps] (aN:hG prog g=true) {l r:List cH}{fH:cH->cH->Option Int}(h:p4 fH l=some r) (aa:∀ a b v,fH a b=some v->bS prog g (.agg (ck.cells a)::.agg (ck.cells b)::caps) (none::none::caps.map λ_=>none) (ae v)):bS prog 51 [aD ck l,.cD (.func g) [] caps] [some (aD ck r),none] (.bR []):=bS.aaI (e:=ck) Tryz.aaJ Tryz.isAgg132 Tryz.sizeOf132 aN h aa
instance:cy prog 132 0 0 3:={}
instance:fo prog 3:={}
instance:ek prog 46 132 2:={}
instance:Bh prog 3 .i64:={}
instance:cy prog 132 1 1 3:={}
instance:cy prog 45 0 0 27:={}
instance:fo prog 27:={}
instance:ek prog 27 3 1:={}
instance:cy prog 45 2 2 27:={}
instance:cy prog 45 1 1 27:={}
instance:mE prog 145 (.agg #[.int .i64 0,.int .i64 0]):={}
instance:rS prog 145 [(0,1),(1,1)]:={}
instance:mD prog 145 2:={}
instance:cy prog 48 1 1 45:={}
instance:mD prog 45 3:={}
instance:cy prog 48 0 0 27:={}
instance:cy prog 124 0 0 48:={}
instance:mD prog 48 11:={}
instance:cy prog 124 4 14 27:={}
instance:EF prog:={}
instance:cy prog 124 7 17 58:={}
instance:cy prog 58 1 1 3:={}
instance:cy prog 124 1 11 27:={}
instance:cy prog 58 2 2 3:={}
instance:cy prog 124 3 13 3:={}
instance:cy prog 124 2 12 3:={}
instance:cy prog 58 0 0 3:={}
instance:p8 prog 27 3 1 8:={}
instance:cy prog 124 5 15 54:={}
instance:fo prog 54:={}
instance:cy prog 58 3 3 3:={}
instance:cy prog 48 3 5 45:={}
instance:cy prog 48 2 4 27:={}
instance:cy prog 48 5 9 27:={}
instance:cy prog 48 4 8 27:={}
instance:cy prog 58 4 4 27:={}
instance:cy prog 58 6 6 27:={}
instance:cy prog 124 6 16 3:={}
instance:cy prog 58 5 5 53:={}
instance:fo prog 53:={}
instance:ek prog 53 70 2:={}
instance:cy prog 145 0 0 3:={}
instance:cy prog 145 1 1 3:={}
instance:cy prog 58 7 7 56:={}
instance:cy prog 48 6 10 46:={}
instance:fo prog 46:={}
instance:cy prog 38 0 0 34:={}
instance:fo prog 34:={}
instance:ek prog 34 78 6:={}
instance:mD prog 78 6:={}
instance:mE prog 78 (.agg #[.string ⟨#[]⟩,.bool false,.int .i64 0,.int .i64 0,.int .i64 0,.string ⟨#[]⟩]):={}
instance:cy prog 78 2 2 3:={}
instance:mE prog 132 (.agg #[.int .i64 0,.int .i64 0]):={}
instance:rS prog 132 [(0,1),(1,1)]:={}
instance:p8 prog 46 132 2 16:={}
instance:ek prog 114 46 1:={}
instance:fo prog 4:={}
instance:fo prog 114:={}
instance:ek prog 117 162 2:={}
instance:mD prog 162 2:={}
instance:mE prog 162 (.agg #[.int .i64 0,.slice none 0 0]):={}
instance:cy prog 162 0 0 3:={}
instance:cy prog 162 1 1 46:={}
instance:cy prog 41 0 0 39:={}
instance:fo prog 39:={}
instance:ek prog 39 146 1:={}
instance:fo prog 146:={}
instance:ek prog 146 145 2:={}
instance:rS prog 162 [(0,1),(1,1)]:={}
instance:p8 prog 117 162 2 32:={}
instance:cy prog 41 1 1 26:={}
instance:fo prog 26:={}
instance:ek prog 26 27 1:={}
instance:cy prog 38 2 2 36:={}
instance:fo prog 36:={}
instance:ek prog 36 68 6:={}
instance:mD prog 68 6:={}
instance:mE prog 68 (.agg #[.int .i64 0,.slice none 0 0,.int .i64 0,.string ⟨#[]⟩,.slice none 0 0,.int .i64 0]):={}
instance:cy prog 68 0 0 3:={}
instance:cy prog 68 1 1 27:={}
instance:mD prog 38 5:={}
instance:iT prog 9:={}
instance:cy prog 91 1 1 4:={}
instance:cy prog 91 0 0 9:={}
instance:fo prog 9:={}
instance:cy prog 91 2 2 3:={}
instance:cy prog 89 0 0 3:={}
instance:cy prog 89 2 2 87:={}
instance:fo prog 87:={}
instance:ek prog 87 91 4:={}
instance:cy prog 89 1 1 9:={}
instance:mD prog 91 4:={}
instance:cy prog 98 0 0 96:={}
instance:fo prog 96:={}
instance:ek prog 96 100 6:={}
instance:mD prog 100 6:={}
instance:mE prog 100 (.agg #[.string ⟨#[]⟩,.bool false,.int .i64 0,.int .i64 0,.string ⟨#[]⟩,.int .i64 0]):={}
instance:cy prog 100 1 4 9:={}
instance:cy prog 100 0 0 91:={}
instance:cy prog 98 1 1 91:={}
instance:cy prog 25 0 0 9:={}
instance:cy prog 25 1 1 22:={}
instance:fo prog 22:={}
instance:ek prog 22 89 4:={}
instance:mD prog 89 4:={}
instance:cy prog 25 2 2 23:={}
instance:fo prog 23:={}
instance:ek prog 23 95 3:={}
instance:mD prog 95 3:={}
instance:mE prog 95 (.agg #[.string ⟨#[]⟩,.slice none 0 0,.int .i64 0]):={}
instance:cy prog 95 0 0 9:={}
instance:cy prog 95 1 1 93:={}
instance:fo prog 93:={}
instance:ek prog 93 98 6:={}
instance:mD prog 98 6:={}
instance:cy prog 248 4 8 3:={}
instance:cy prog 248 5 9 3:={}
instance:cy prog 248 6 10 9:={}
instance:cy prog 248 2 6 35:={}
instance:fo prog 35:={}
instance:ek prog 35 255 2:={}
instance:cy prog 255 0 0 9:={}
instance:cy prog 248 0 0 38:={}
instance:cy prog 78 0 0 9:={}
instance:cy prog 78 1 1 4:={}
instance:rS prog 78 [(0,1),(1,1),(2,1),(3,1),(4,1),(5,1)]:={}
instance:Bh prog 5 .u8:={}
instance:cy prog 91 3 3 3:={}
instance:p8 prog 34 78 6 64:={}
instance:cy prog 248 1 5 102:={}
instance:fo prog 102:={}
instance:ek prog 102 4 1:={}
instance:p8 prog 102 4 1 1:={}
instance:cy prog 255 1 1 9:={}
instance:cy prog 78 3 3 3:={}
instance:cy prog 248 7 11 3:={}
instance:cy prog 78 4 4 3:={}
instance:cy prog 248 3 7 246:={}
instance:fo prog 246:={}
instance:ek prog 246 9 1:={}
instance:cy prog 98 2 5 3:={}
instance:cy prog 100 2 5 3:={}
instance:cy prog 68 3 3 9:={}
instance:cy prog 68 5 5 3:={}
instance:cy prog 248 8 12 3:={}
instance:cy prog 68 2 2 3:={}
instance:cy prog 68 4 4 27:={}
instance:Bh prog 217 .u64:={}
instance:ek prog 148 5 1:={}
instance:mE prog 38 (.agg #[.slice none 0 0,.slice none 0 0,.slice none 0 0,.string ⟨#[]⟩,.string ⟨#[]⟩]):={}
instance:mD prog 25 4:={}
instance:mE prog 4 (.bool false):={}
instance:EG prog 4 1:={}
instance:mE prog 91 (.agg #[.string ⟨#[]⟩,.bool false,.int .i64 0,.int .i64 0]):={}
instance:rS prog 91 [(0,1),(1,1),(2,1),(3,1)]:={}
instance:cy prog 95 2 2 3:={}
instance:cy prog 38 1 1 35:={}
instance:cy prog 25 3 3 9:={}
instance:cy prog 38 3 3 9:={}
instance:cy prog 38 4 4 9:={}
instance:cy prog 188 0 0 3:={}
instance:cy prog 188 1 1 3:={}
instance:mD prog 188 2:={}
instance:ek prog 183 188 2:={}
instance:p8 prog 183 188 2 16:={}
instance:mE prog 188 (.agg #[.int .i64 0,.int .i64 0]):={}
instance:rS prog 188 [(0,1),(1,1)]:={}
instance:ek prog 106 186 2:={}
instance:cy prog 186 0 0 183:={}
instance:fo prog 183:={}
instance:cy prog 186 1 1 184:={}
instance:fo prog 184:={}
instance:ek prog 184 198 2:={}
instance:cy prog 198 0 0 3:={}
instance:cy prog 198 1 1 3:={}
instance:cy prog 156 4 4 27:={}
instance:cy prog 156 2 2 3:={}
instance:cy prog 156 3 3 4:={}
instance:mE prog 156 (.agg #[.int .i64 0,.int .i64 0,.int .i64 0,.bool false,.slice none 0 0]):={}
instance:rS prog 156 [(0,1),(1,1),(2,1),(3,1),(4,1)]:={}
instance:ek prog 153 190 3:={}
instance:cy prog 190 0 0 3:={}
instance:cy prog 190 2 2 27:={}
instance:cy prog 190 1 1 3:={}
instance:mD prog 156 5:={}
instance:ek prog 107 156 5:={}
instance:p8 prog 107 156 5 56:={}
instance:mE prog 229 (.agg #[.int .i64 0,.int .i64 0]):={}
instance:rS prog 229 [(0,1),(1,1)]:={}
instance:ek prog 226 229 2:={}
instance:p8 prog 226 229 2 16:={}
instance:cy prog 229 0 0 3:={}
instance:cy prog 229 1 1 3:={}
instance:p8 prog 26 27 1 24:={}
instance:mE prog 27 (.slice none 0 0):={}
instance:EG prog 27 24:={}
instance:mE prog 190 (.agg #[.int .i64 0,.int .i64 0,.slice none 0 0]):={}
instance:rS prog 190 [(0,1),(1,1),(2,1)]:={}
instance:mD prog 190 3:={}
instance:p8 prog 153 190 3 40:={}
instance:cy prog 156 0 0 3:={}
instance:cy prog 156 1 1 3:={}
instance:rS prog 100 [(0,4),(4,1),(5,1)]:={}
instance:cy prog 70 0 0 3:={}
instance:cy prog 70 1 1 4:={}
instance:cy prog 56 0 0 3:={}
instance:cy prog 29 0 0 3:={}
instance:cy prog 29 2 2 27:={}
instance:cy prog 29 1 1 26:={}
instance:cy prog 29 3 3 27:={}
instance:cy prog 29 4 4 4:={}
instance:nf prog 26 (List Int) (bC ai):={}
instance:nf prog 27 Int ai:={}
instance:nf prog 34 b4 cu:={}
instance:nf prog 46 cH ck:={}
instance:nf prog 102 Bool e8:={}
instance:nf prog 107 Cell iW:={}
instance:nf prog 117 Row pD:={}
instance:nf prog 148 Int r4:={}
instance:nf prog 153 lM tV:={}
instance:nf prog 183 Item gf:={}
instance:nf prog 226 Trans r3:={}
instance adF {a0:Int}{r:Bool}:bw prog 92 (wh a0=some r) [ae a0] [none] (bh r):=⟨λh=>by unfold wh at h; exact bS.br (N:=⟨6,[]⟩) [0,2] .e func92 rfl rfl rfl rfl rfl dx⟩
instance adi {a0:Int}{aw:Int}{r:Int}:bw prog 53 (tp a0 aw=some r) [ae a0,ae aw] [none,none] (ae r):=⟨λh=>by unfold tp at h; exact bS.br (N:=⟨20,[]⟩) [0,1,4,5,6,11,12,13,16,19] .e func53 rfl rfl rfl rfl rfl dx⟩
instance adj {a0:cH}{aw:Int}{r:Int}:bw prog 58 (AJ a0 aw=some r) [.agg [ae a0.At,ae a0.b'],ae aw] [none,none] (ae r):=⟨λh=>by unfold AJ at h; exact bS.br (N:=⟨9,[]⟩) [1,2,4] .e func58 rfl rfl rfl rfl rfl dx⟩
theorem Us (a0:(List cH)) (aw:Int) (r:Int × Bool) (h:DP a0 aw=some r):bS prog 57 [ak ck a0,ae aw,.cD (.func 58) [] []] [none,none,none] (.bR [ae r.1,bh r.2]):=by
 unfold DP at h;refine bS.go (N:=⟨49,[]⟩) func57 q q q q (W.fin ?_);refine W.st [(0,ak ck a0),(1,ae aw),(2,.cD (.func 58) [] [])] ?_;refine W.bJ [0,1,2] ?_;refine W.bJ [0,1,2,8] ?_;refine W.bJ [0,1,2,8,9,10] ?_;refine W.bK<|W.b_<|aL h λx2 ah h=>W.hD (0,(a0.length:Int)) (λ(s1:Int × Int)=>[(9,ae s1.1),(10,ae s1.2)]) [0,1,2,8,9,10] 0 (λ(x2:Int)=>[(9,ae x2)]) [0,1,2,8,9] ah (λs1 o h=>?_) ?_
 ·clear ah;refine W.bK<|W.bJ [0,1,2,8,9,10,17] ?_;refine W.bY h q (λo9 h=>?_) (λo9 h=>?_)
  ·refine W.cR<|ay.bG<|aL h λiy ag h=>W.eZ [0,1,2,8,9,10] [(9,ae iy.1),(10,ae iy.2)] ?_ ?_
   ·clear h; have h:=ag; clear ag;refine W.b_<|W.cn [0,1,2,8,9,10,11] (cN q<|cN q<|al (O.add .aZ .aZ)<|al (O.Iy .aZ Px Pw)<|al (O.shr .aZ .bX q)<|al (O.Iy .aZ Pw Px)<|aA.br) ?_;refine aL h λbz kz h=>aL h λbq kA h=>W.cn [0,1,2,8,9,10,11,31] (al (O.aT (.cD q))<|al (O.aT .z2)<|cN q<|al (O.gV kz)<|al (O.n' (cs':=[ae bz.At,ae bz.b']) .nJ Bt q q)<|cN q<|e6 (cp.gc (.cD q) (.cr (.dI q q) (.cr (.lit q) .nil)) (bw.go kA) call58 q)<|aA.br) ?_;refine aL h λea ag h=>W.eZ [0,1,2,8,9,10] [(9,ae ea.1),(10,ae ea.2)] ?_ ?_
    ·clear h; have h:=ag; clear ag;refine W.bY h q (λnX h=>?_) (λnX h=>?_)
     ·refine W.b0 [0,1,2,8,9,10] (cN q<|al (O.add .aZ .bX)<|aA.b0 [0,1,2,8,10,33] q<|aA.br) ?_;exact aV h ▸ ay.dn
     ·refine W.b0 [0,1,2,8,9,10] (cN q<|aA.b0 [0,1,2,8,9,34] q<|aA.br) ?_;exact aV h ▸ ay.dn
    exact ay.b_<|aV h ▸ ay.dn
   exact aV h ▸ ay.gt
  ·exact W.fw<|ay.fm<|aV h ▸ ay.t1
 refine ay.fA<|ay.bG<|aL h λiU ag h=>W.lF [6,7] [(6,ae iU.1),(7,bh iU.2)] ?_ ?_
 ·refine cN q<|cN q<|cN q<|al (O.lss .aZ .aZ)<|al (O.aT (.lit q)) ?_;rcases eU ag with ⟨kq,ag⟩ | ⟨kq,ag⟩
  ·refine bP kq (O.aT (.cD q))<|bP kq (O.aT .z2)<|bP kq (O.aT (.lit q)) ?_;refine aL ag λa7 la ag=>bP kq (O.gV la)<|bP kq (O.n' (cs':=[ae a7.At,ae a7.b']) .nJ Bt q q)<|bP kq (O.aT (.lit q)) ?_;exact aL ag λeH sm ag=>aV ag ▸ (aA.c (cp.gc (.cD q) (.cr (.dI q q) (.cr (.lit q) .nil)) (bw.go sm) call58 q) q q (.py q q kq)<|aA.br)
  ·exact aV ag ▸ aA.br
 exact W.rt<|aV h ▸ jD (.f q q (.f q q .nil))
theorem Ul (a0:(List cH)) (aw:Int) (r:Int) (h:wc a0 aw=some r):bS prog 25 [ak ck a0,ae aw] [none,none] (ae r):=by
 unfold wc at h;refine bS.go (N:=⟨22,[]⟩) func25 q q q q (W.fin ?_);refine W.st [(0,ak ck a0),(1,ae aw)] ?_;refine W.bJ [0,1] ?_;refine W.bK<|W.bJ [0,1,8] ?_;refine W.bY h q (λkO h=>?_) (λkO h=>?_)
 ·refine W.bJ [4] ?_;exact W.rt<|ay.gC<|aV h ▸ mH
 ·refine W.cR<|ay.bG<|aL h λx2 gv h=>W.cn [0,5,6] (al (O.aT .z2)<|cN q<|e6 (cp.ev (.cr (.bl q) (.cr (.lit q) (.cr .func .nil))) (Us a0 aw _ gv))<|al (O.aT (.aa' q q))<|al (O.ex (y:=ae x2.1) q q q)<|al (O.ex (y:=bh x2.2) q q q)<|aA.br) ?_;refine W.bK<|W.bJ [0,5,16] ?_;refine W.bY h q (λzD h=>?_) (λzD h=>?_)
  ·refine W.bJ [4] ?_;exact W.rt<|ay.gC<|aV h ▸ mH
  ·refine W.cR<|ay.bG<|aL h λbg nB h=>W.bJ [4] ?_;exact W.rt<|aV h ▸ mH
instance ac4 {a0:(List cH)}{aw:Int}{r:Int}:bw prog 25 (wc a0 aw=some r) [ak ck a0,ae aw] [none,none] (ae r):=⟨Ul a0 aw _⟩
instance acp {a0:h6}{aw:Int}{a2:Int}{r:Int × Bool}:bw prog 136 (rD a0 aw a2=some r) [.agg (tU.cells a0),ae aw,ae a2] [none,none,none] (.bR [ae r.1,bh r.2]):=⟨λh=>by unfold rD at h; exact bS.br (N:=⟨56,[]⟩) [1,2,3,6,7,8,28,50] (.eO 1 [1,2,3,28] (λ(c4:Bool)=>[(28,bh c4)]) (.b .e (.eO 4 [3,8,50] (λ(r1:Bool)=>[(50,bh r1)]) .e))) func136 rfl rfl rfl rfl rfl dx⟩
instance acq {a0:Int}{r:Act}:bw prog 137 (yb a0=some r) [ae a0] [none] (.agg [ae r.Kind,ae r.N]):=⟨λh=>by unfold yb at h; exact bS.br (N:=⟨32,[]⟩) [0,2,3,13,23,27] (.eO 1 [0,2,3] (λ(c2:Bool)=>[(3,bh c2)]) (.b .e (.eO 3 [0,2,13] (λ(jH:Bool)=>[(13,bh jH)]) .e))) func137 rfl rfl rfl rfl rfl dx⟩
instance adM {a0:Tables}{aw:Int}{a2:Int}{r:Act}:bw prog 99 (wi a0 aw a2=some r) [.agg (qm.cells a0),ae aw,ae a2] [none,none,none] (.agg [ae r.Kind,ae r.N]):=⟨λh=>by unfold wi at h; exact bS.br (N:=⟨44,[]⟩) [1,2,3,6,7,8,17,36] (.b .e (.eO 4 [1,3,6,36] (λ(nT:Bool)=>[(36,bh nT)]) .e)) func99 rfl rfl rfl rfl rfl dx⟩
instance adv {a0:dC}{aw:Int}{r:Act}:bw prog 74 (ym a0 aw=some r) [.cx ((w1 a0)),ae aw] [none,none] (.agg [ae r.Kind,ae r.N]):=⟨λh=>by unfold ym at h; exact bS.br (N:=⟨23,[]⟩) [0,1,4] (.rd 1 [[],[0],[0,1],[0,1,2],[],[4],[4,5],[4,5,6],[],[8],[8,9],[8,9,10],[8,9,10,11],aF 8 5 [],aF 4 10 [],aF 4 11 [],[],aF 0 17 [],aF 0 18 []] .e) func74 rfl rfl rfl rfl rfl dx⟩
instance adw {a0:dC}{r:Int}:bw prog 75 (yn a0=some r) [.cx ((w1 a0))] [none] (ae r):=⟨λh=>by unfold yn at h; exact bS.br (N:=⟨25,[]⟩) [0,2,13] (.rd 1 [[],[0],[0,1],[0,1,2],[0,1,2,3],[],[5],[5,6],[5,6,7],[5,6,7,8],aF 0 10 []] (.b .e (.rd 3 [[],[0],[0,1],[0,1,2],[],[4],[4,5],[4,5,6],[4,5,6,7],aF 0 9 [],aF 0 10 [],aF 0 11 []] .e))) func75 rfl rfl rfl rfl rfl dx⟩
instance ab3 {a0:dC}{aw:Int}{r:Bool × dC}:bw prog 100 (x7 a0 aw=some r) [.obj (ig.cells a0),ae aw] [some (.obj (k7 r.2)),none] (bh r.1):=⟨λh=>by unfold x7 at h; exact bS.br (N:=⟨36,[0]⟩) [0,1,4,22] (.b0 1 [[],[0],[0,1],[0,1,2],[0,1,2,3],[],[5],[5,6],[5,6,7],aF 0 9 [],aF 0 10 [],aF 0 11 [],aF 0 11 [],aF 0 11 [12],aF 0 11 [12,13],aF 0 11 [12,13,14],aF 0 16 [],aF 0 17 []] [0,22] (λ(c2:Bool)=>[(22,bh c2)]) .e) func100 rfl rfl rfl rfl rfl dx⟩
theorem Uv (a0:dC) (aw:Int) (a2:Int) (a3:Node) (r:Bool × dC) (h:uL a0 aw a2 a3=some r):bS prog 76 [.obj (ig.cells a0),ae aw,ae a2,.agg (eh.cells a3)] [some (.obj (k7 r.2)),none,none,none] (bh r.1):=by
 unfold uL at h;refine bS.go (N:=⟨71,[0]⟩) func76 q q q q (W.fin ?_);refine W.st [(0,.obj (ig.cells a0)),(1,ae aw),(2,ae a2),(3,.agg (eh.cells a3))] ?_;refine W.cn [0,1,2,7] (al (O.box (.dI q q) q)<|aA.br) ?_;refine W.bK<|aL h λaR gJ h=>W.cn [0,1,2,7,18] (al (O.aT .z4)<|al (O.aT .z4)<|al (O.cQ .z5)<|al O.y2<|al (O.cM (y:=.a6 ai.z ⟨0,[14]⟩ a0.du.length))<|al (O.kB .c3 gx)<|cN q<|al (O.sub .aZ .aZ)<|aA.jn q (fT.jQ (ks:=[1,2,7]) (bw.go gJ) q q q q (.b q (.n q .nil)))<|aA.br) ?_;refine W.bY h q (λhS h=>?_) (λhS h=>?_)
 ·refine W.bJ [0,8] ?_;exact W.rt<|ay.gC<|aV h ▸ ay.fin (Fin.ro (.f q q .nil) q (p0 (by kernel_rfl)) (.aj q q (.no (.no (.no .nil)))) q (.inr q))
 ·refine W.cR<|ay.bG<|W.bK<|aL h λa8 hl h=>aL h λbg nB h=>W.rd [[],[],[1],[1,2],[1,2,3],[],[5],[5,6],[5,6,7],[5,6,7,8],[],aF 5 6 [],aF 1 11 [],[],[13],aF 1 14 [],aF 0 16 [],aF 0 17 [],aF 0 18 []] [(0,_),(2,_),(7,_)] e0 (by kernel_rfl) (ax 0 (O.aT .z4)<|ax 1 (O.aT .z4)<|ax 2 (O.cQ .z5)<|ax 3 O.y2<|ax 4 (O.cM (y:=.a6 ai.z ⟨0,[14]⟩ aR.2.du.length))<|ax 5 (O.aT .z4)<|ax 6 (O.cQ .z5)<|ax 7 O.y2<|ax 8 (O.cM (y:=.a6 ai.z ⟨0,[14]⟩ aR.2.du.length))<|ax 9 (O.kB .c3 gx)<|ax 10 (O.aT (.lit q))<|ax 11 (O.sub .aZ .aZ)<|ax 12 (O.Eb (en:=ai) (L:=aR.2.du) .c3 .aZ q gx hl)<|ax 13 (O.aT (.lit q))<|bx.fe 14 (x:=ak ai [aw]) (O.dg (ys:=[ae aw]) ai [aw] gx q q q q q q mC q q) q q q q .none<|bx.eb 15 (G2:=(34,aD ai bg)::[(0,.obj ((k7 aR.2).set 14 .dead)),(2,ae a2),(7,.obj (eh.cells a3))]) (U:=[(0,19,some (.ptr ⟨0,[]⟩ 0))]) (h7.v (bj.jJ (bj.MK (en:=ai) (L:=aR.2.du) (M:=[aw]) (f:=14) (k:=((aG ((aR.2.du.length:Int) - a2)).toNat)) (r:=0) (cs2:=((k7 aR.2).set 14 .dead)) (G2:=[(0,.obj ((k7 aR.2).set 14 .dead)),(2,ae a2),(7,.obj (eh.cells a3))]) q q (.a6 q) q q (xL hl) (.bl q) .i qh q nB q (.b q (.n q q (.n q q .nil))) q q))) q q (by kernel_rfl) q q q (.c (.inr (.inr (.inr (.inl ⟨0,_,_,q,q,gT q,by simp,_,q,gT q⟩)))) q q q q q (eI.wanted .none) (O.aT .z4) .nil) (by kernel_rfl)<|ax 16 (O.cQ .z5)<|ax 17 O.y2<|bx.gZ 18 (bj.uY [0,2,7])<|bx.fin q q q (oi q q q)) ?_;refine ay.bG<|W.bK<|aL h λb1 n1 h=>aL h λbz kz h=>W.rd [[],[],[1],[1,2],[1,2,3],[],[5],[5,6],[5,6,7],[5,6,7,8],[],aF 5 6 [],aF 1 11 [],[],[13],aF 1 14 [],aF 0 16 [],aF 0 17 [],aF 0 18 []] [(0,_)] e0 (by kernel_rfl) (ax 0 (O.aT .z4)<|ax 1 (O.aT .z4)<|ax 2 (O.cQ .z5)<|ax 3 O.y2<|ax 4 (O.cM (y:=.a6 eh.z ⟨0,[15]⟩ aR.2.fk.length))<|ax 5 (O.aT .z4)<|ax 6 (O.cQ .z5)<|ax 7 O.y2<|ax 8 (O.cM (y:=.a6 eh.z ⟨0,[15]⟩ aR.2.fk.length))<|ax 9 (O.kB .c3 uV)<|ax 10 (O.aT (.lit q))<|ax 11 (O.sub .aZ .aZ)<|ax 12 (O.Eb (en:=eh) (L:=aR.2.fk) .c3 .aZ q uV n1)<|ax 13 (O.ez (cs':=eh.cells a3) q .z4 E4 q q)<|bx.fe 14 (x:=ak eh [a3]) (O.dg (ys:=[.agg (eh.cells a3)]) eh [a3] uV q q q q q q abH q q) q q q q .none<|bx.eb 15 (G2:=(52,aD eh bz)::[(0,.obj [ak ai aR.2.bZ.Def,ak ai aR.2.bZ.cA.cZ,ak ai aR.2.bZ.cA.b',ak ai aR.2.bZ.cA.b8,ak ai aR.2.bZ.jA,ak ai aR.2.bZ.eo.cZ,ak ai aR.2.bZ.eo.b',ak ai aR.2.bZ.eo.b8,ak ai aR.2.bZ.Left,ak ai aR.2.bZ.kH,ak ck aR.2.bZ.ji,aD ai aR.2.iX,ae aR.2.jo,ae aR.2.jq,aD ai bg,.dead,ae aR.2.h9,ae aR.2.bb.Kind,ae aR.2.bb.At,ae aR.2.bb.Steps,ae aR.2.bb.Deep,aD ai aR.2.bb.bu,aD iJ aR.2.bb.eB,aD ai aR.2.bb.gP,ae aR.2.bb.Tree.Sym,ae aR.2.bb.Tree.Prod,ae aR.2.bb.Tree.At,jU 4 aR.2.bb.Tree.Kids])]) (U:=[(0,37,some (.ptr ⟨0,[]⟩ 0))]) (h7.v (bj.jJ (bj.MK (en:=eh) (L:=aR.2.fk) (M:=[a3]) (f:=15) (k:=((aG ((aR.2.fk.length:Int) - a2)).toNat)) (r:=0) (cs2:=[ak ai aR.2.bZ.Def,ak ai aR.2.bZ.cA.cZ,ak ai aR.2.bZ.cA.b',ak ai aR.2.bZ.cA.b8,ak ai aR.2.bZ.jA,ak ai aR.2.bZ.eo.cZ,ak ai aR.2.bZ.eo.b',ak ai aR.2.bZ.eo.b8,ak ai aR.2.bZ.Left,ak ai aR.2.bZ.kH,ak ck aR.2.bZ.ji,aD ai aR.2.iX,ae aR.2.jo,ae aR.2.jq,aD ai bg,.dead,ae aR.2.h9,ae aR.2.bb.Kind,ae aR.2.bb.At,ae aR.2.bb.Steps,ae aR.2.bb.Deep,aD ai aR.2.bb.bu,aD iJ aR.2.bb.eB,aD ai aR.2.bb.gP,ae aR.2.bb.Tree.Sym,ae aR.2.bb.Tree.Prod,ae aR.2.bb.Tree.At,jU 4 aR.2.bb.Tree.Kids]) (G2:=[(0,.obj [ak ai aR.2.bZ.Def,ak ai aR.2.bZ.cA.cZ,ak ai aR.2.bZ.cA.b',ak ai aR.2.bZ.cA.b8,ak ai aR.2.bZ.jA,ak ai aR.2.bZ.eo.cZ,ak ai aR.2.bZ.eo.b',ak ai aR.2.bZ.eo.b8,ak ai aR.2.bZ.Left,ak ai aR.2.bZ.kH,ak ck aR.2.bZ.ji,aD ai aR.2.iX,ae aR.2.jo,ae aR.2.jq,aD ai bg,.dead,ae aR.2.h9,ae aR.2.bb.Kind,ae aR.2.bb.At,ae aR.2.bb.Steps,ae aR.2.bb.Deep,aD ai aR.2.bb.bu,aD iJ aR.2.bb.eB,aD ai aR.2.bb.gP,ae aR.2.bb.Tree.Sym,ae aR.2.bb.Tree.Prod,ae aR.2.bb.Tree.At,jU 4 aR.2.bb.Tree.Kids])]) q q (.a6 q) q q (xL n1) (.bl q) .i SS q kz q (.b q .nil) q q))) q q (by kernel_rfl) q q q (.c (.inr (.inr (.inr (.inl ⟨0,_,_,q,q,gT q,by simp,_,q,gT q⟩)))) q q q q q (eI.wanted .none) (O.aT .z4) .nil) (by kernel_rfl)<|ax 16 (O.cQ .z5)<|ax 17 O.y2<|bx.gZ 18 (bj.uY [0])<|bx.fin q q q (.n q .nil)) ?_;refine ay.bG<|W.bK<|W.rd [[],[],[1],[1,2],[1,2,3],[1,2,3,4],[],[6],[6,7],[6,7,8],[6,7,8,9],aF 6 5 [],aF 1 11 [],aF 0 13 [],aF 0 14 [],aF 0 15 [],aF 0 16 []] [(0,_)] e0 (by kernel_rfl) (ax 0 (O.aT .z4)<|ax 1 (O.aT .z4)<|ax 2 (O.cQ .z5)<|ax 3 O.y2<|ax 4 O.y2<|ax 5 O.dc<|ax 6 (O.aT .z4)<|ax 7 (O.cQ .z5)<|ax 8 O.y2<|ax 9 (O.cM (y:=.a6 ai.z ⟨0,[14]⟩ bg.length))<|ax 10 (O.kB .c3 gx)<|ax 11 (O.sub .aZ .bX)<|ax 12 (O.Ga .aZ .aZ)<|ax 13 (O.cQ .z5)<|ax 14 O.y2<|ax 15 O.y2<|bx.gZ 16 (bj.l7 [0])<|bx.fin q q q (.n q .nil)) ?_;refine ay.bG<|W.bJ [0,8] ?_;exact W.rt<|aV h ▸ ay.fin (Fin.ro (.f q q .nil) q (p0 (by kernel_rfl)) (.aj q q (.no (.no (.no .nil)))) q (.inr q))
instance adx {a0:dC}{aw:Int}{a2:Int}{a3:Node}{r:Bool × dC}:bw prog 76 (uL a0 aw a2 a3=some r) [.obj (ig.cells a0),ae aw,ae a2,.agg (eh.cells a3)] [some (.obj (k7 r.2)),none,none,none] (bh r.1):=⟨Uv a0 aw a2 a3 _⟩
theorem Uw (a0:dC) (aw:Int) (r:Node) (h:uM a0 aw=some r):bS prog 77 [.cx ((w1 a0)),ae aw] [none,none] (.agg (eh.cells r)):=by
 unfold uM at h;refine bS.go (N:=⟨12,[]⟩) func77 q q q q (W.fin ?_);refine W.st [(0,.cx ((U4.cells a0))),(1,ae aw)] ?_;refine W.cn [0,1,4] (al (O.dB (cs:=[ae 0,ae 0,ae 0,.aS]) HB q q)<|bD q) ?_;refine W.cn [4] (cN q<|al (O.aT .nJ)<|al (O.vW .nJ)<|al O.oj<|al O.oj<|al (O.h5 (x:=ae a0.bb.At))<|al (O.eb (cs:=[ae aw,ae (-1),ae a0.bb.At,.aS]) Q0 HB q q q)<|aA.dJ (bj.fu [4])<|bD q) ?_;refine W.dN (G1:=[(4,.obj [ae aw,ae (-1),ae a0.bb.At,ak eh ([]:List Node)])]) [4] (.z q q (fK.obj (.f (.f (.f (.z .nil))))) .nil) ?_;exact W.rt<|aV h ▸ jD (.c (ys0:=[ae aw,ae (-1),ae a0.bb.At,ak eh ([]:List Node)]) q E4 q q q (.f q (.f q (.f q (.f q .nil)))) .nil)
instance ady {a0:dC}{aw:Int}{r:Node}:bw prog 77 (uM a0 aw=some r) [.cx ((w1 a0)),ae aw] [none,none] (.agg (eh.cells r)):=⟨Uw a0 aw _⟩
instance ab4 {a0:Tables}{aw:Int}{a2:Int}{r:Int}:bw prog 102 (Aq a0 aw a2=some r) [.agg (qm.cells a0),ae aw,ae a2] [none,none,none] (ae r):=⟨λh=>by unfold Aq at h; exact bS.br (N:=⟨33,[]⟩) [1,2,3,6,7,8,17,27] (.b .e (.eO 4 [2,3,27] (λ(c4:Bool)=>[(27,bh c4)]) .e)) func102 rfl rfl rfl rfl rfl dx⟩
theorem Ux (a0:dC) (aw:Int) (r:dC) (h:AM a0 aw=some r):bS prog 78 [.obj (ig.cells a0),ae aw] [some (.obj (k7 r)),none] (.bR []):=by
 unfold AM at h;refine bS.go (N:=⟨76,[0]⟩) func78 q q q q (W.fin ?_);refine W.st [(0,.obj (ig.cells a0)),(1,ae aw)] ?_;refine W.bK<|aL h λaR gJ h=>aL h λx2 gv h=>W.rd [[],[0],[0,1],[0,1,2],[0,1,2,3],[],aF 0 6 [],aF 0 7 [],[],[8],[8,9],[8,9,10],[8,9,10,11],[],aF 8 6 [],aF 8 7 [],aF 0 8 [],aF 0 17 []] [(0,_),(1,_),(4,_),(5,_)] e0 (by kernel_rfl) (ax 0 (O.aT .z4)<|ax 1 (O.cQ .z5)<|ax 2 O.y2<|ax 3 O.y2<|ax 4 (O.cM (y:=ak ai a0.bZ.kH))<|ax 5 (O.aT (.lit q))<|ax 6 (O.gV gJ)<|ax 7 (O.h5 (x:=ae aR))<|ax 8 (O.aT .z4)<|ax 9 (O.cQ .z5)<|ax 10 O.y2<|ax 11 O.y2<|ax 12 (O.cM (y:=ak ai a0.bZ.Left))<|ax 13 (O.aT (.lit q))<|ax 14 (O.gV gv)<|ax 15 (O.h5 (x:=ae x2))<|ax 16 (O.az (.lit q))<|ax 17 (O.az (.lit q))<|bx.fin q q q (sL q q q q)) ?_;refine ay.bG<|W.bK<|aL h λa8 hl h=>aL h λbg nB h=>W.rd [[],[0],[],[],[3],[3,4],[3,4,5],[],[7],[7,8],[7,8,9],[7,8,9,10],[],aF 7 6 [],aF 3 11 [],aF 3 12 [],aF 0 16 [],[],aF 0 18 []] [(0,_),(1,_),(4,_),(5,_),(6,_)] e0 (by kernel_rfl) (ax 0 (O.aT (.lit q))<|ax 1 (O.add .bX .aZ)<|ax 2 (O.aT (.lit q))<|ax 3 (O.aT .z4)<|ax 4 (O.cQ .z5)<|ax 5 O.y2<|ax 6 (O.cM (y:=.a6 eh.z ⟨0,[15]⟩ a0.fk.length))<|ax 7 (O.aT .z4)<|ax 8 (O.cQ .z5)<|ax 9 O.y2<|ax 10 (O.cM (y:=.a6 eh.z ⟨0,[15]⟩ a0.fk.length))<|ax 11 (O.kB .c3 uV)<|ax 12 (O.aT (.lit q))<|ax 13 (O.sub .aZ .aZ)<|ax 14 (O.LJ (en:=eh) (L:=a0.fk) .c3 .aZ q uV hl)<|kf 15 (cp.T0 (e:=eh) (L:=a0.fk) (m:=((aG ((a0.fk.length:Int) - aR)).toNat)) (p:=⟨0,[15]⟩) (λw ad n c news h1 af aE bm=>T2 w ad n c news h1 af aE bm) (λw n c=>T1 w n c) (.sub q) q (xL hl) (SI λ_=>q) nB call101 q)<|ax 16 (O.eb (cs:=[ae (aG (1000+x2)),ae aw,ae (-1),.a6 eh.z ⟨38,[]⟩ bg.length]) Q0 HB q q q)<|ax 17 (O.dB (cs:=[ae 0,ae 0,ae 0,.aS]) HB q q)<|bx.gZ 18 (G2:=[(0,.obj (ig.cells a0)),(1,ae aw),(4,ae aR),(5,ae x2),(6,.obj [ae (aG (1000+x2)),ae aw,ae (-1),ak eh bg])]) (bj.tv (y':=.agg [ae (aG (1000+x2)),ae aw,ae (-1),ak eh bg]) (cs2:=[ae (aG (1000+x2)),ae aw,ae (-1),ak eh bg]) q q (.obj q) (.dI q q) (.nP (.f (.f (.f (.r q .nil)))) .nil) (fK.agg (.f (.f (.f (.z .nil))))) q aaY q q q q q (.n q q (.n q q (.n q q (.n q q (.b q .nil))))))<|bx.fin q q q (mw q q q q q)) ?_;refine ay.bG<|W.bK<|aL h λb1 n1 h=>aL h λbz kz h=>aL h λbq kA h=>W.rd [[],[],[1],[1,2],[1,2,3],[],[5],[5,6],[5,6,7],[],[9],[9,10],[9,10,11],[9,10,11,12],aF 9 5 [],[],aF 9 7 [],aF 5 12 [],aF 5 13 [],[],aF 1 19 [],[],[],aF 0 23 []] [(0,_),(1,_),(63,_)] e0 (by kernel_rfl) (ax 0 (O.aT .z4)<|ax 1 (O.aT .z4)<|ax 2 (O.cQ .z5)<|ax 3 O.y2<|ax 4 (O.ez (cs':=qm.cells a0.bZ) q .z5 wR q q)<|ax 5 (O.aT .z4)<|ax 6 (O.cQ .z5)<|ax 7 O.y2<|ax 8 (O.cM (y:=.a6 ai.z ⟨0,[14]⟩ a0.du.length))<|ax 9 (O.aT .z4)<|ax 10 (O.cQ .z5)<|ax 11 O.y2<|ax 12 (O.cM (y:=.a6 ai.z ⟨0,[14]⟩ a0.du.length))<|ax 13 (O.kB .c3 gx)<|ax 14 (O.sub .aZ .bX)<|ax 15 (O.aT (.lit q))<|ax 16 (O.sub .aZ .aZ)<|ax 17 (O.gL (en:=ai) q .c3 .aZ gx n1 q)<|ax 18 (O.jP (en:=ai) (x':=ae b1) q .z5 qk n1 q q)<|ax 19 (O.aT (.lit q))<|kf 20 (cp.ev (.cr (.dI q q) (.cr (.lit q) (.cr (.lit q) .nil))) (bw.go kz))<|ax 21 (O.aT (.lit q))<|ax 22 (O.ez (cs':=[ae (aG (1000+x2)),ae aw,ae (-1),ak eh bg]) q .z4 E4 q q)<|bx.gZ 23 (fT.jQ (ks:=[1]) (bw.go kA) q q q q (.b q (.n q (.n q (.n q .nil)))))<|bx.fin q q q (oi q q q)) ?_;refine ay.bG<|aL h λea ag h=>W.eZ [0] [(0,.obj ((k7 bq.2).set 21 (aD ai ea)))] ?_ ?_
 ·clear h; have h:=ag; clear ag;refine W.bY h q (λnX h=>?_) (λnX h=>?_)
  ·refine aL h λch sl h=>W.b0 [0] (al (O.aT .z4)<|al (O.aT .z4)<|al (O.cQ .z5)<|al O.y2<|al O.y2<|al (O.cM (y:=.a6 ai.z ⟨0,[21]⟩ bq.2.bb.bu.length))<|cN q<|aA.fe (x:=ak ai [aw]) (O.dg (ys:=[ae aw]) ai [aw] gx q q q q q q mC q q) q q .none<|al (O.ap (en:=ai) (r:=ch) .c3 q .z2 .i qh q sl)<|al (O.cQ .z5)<|al O.y2<|al O.y2<|aA.dJ (bj.sp [0])<|bD q) ?_;exact aV h ▸ ay.dn
  ·exact W.cR<|aV h ▸ ay.dn
 exact aV h ▸ ay.fin (Fin.ro .nil q (p0 (by kernel_rfl)) (.aj q q (.no .nil)) q (.inl q))
instance adz {a0:dC}{aw:Int}{r:dC}:bw prog 78 (AM a0 aw=some r) [.obj (ig.cells a0),ae aw] [some (.obj (k7 r)),none] (.bR []):=⟨Ux a0 aw _⟩
instance ab5 {a0:dC}{r:dC}:bw prog 103 (Dq a0=some r) [.obj (ig.cells a0)] [some (.obj (k7 r))] (.bR []):=⟨λh=>by unfold Dq at h; exact bS.br (N:=⟨42,[0]⟩) [0,4,16] (.dG [0] (λ(xN:dC)=>[(0,.obj (ig.cells xN))]) (.b .e (.dG [0] (λ(iy:Int × List Int)=>[(19000,ae iy.1),(24000,aD ai iy.2)]) (.b (.rd 3 [[],[],[1],[1,2],[1,2,3],[1,2,3,4],[],[6],[6,7],[6,7,8],[6,7,8,9],aF 6 5 [],aF 1 11 [],aF 0 13 [],aF 0 14 [],aF 0 15 [],aF 0 16 []] .e) .e) .e)) .e) func103 rfl rfl rfl rfl rfl dx⟩
theorem Uy (a0:dC) (r:dC) (h:AN a0=some r):bS prog 79 [.obj (ig.cells a0)] [some (.obj (k7 r))] (.bR []):=by
 unfold AN at h;refine bS.go (N:=⟨85,[0]⟩) func79 q q q q (W.fin ?_);refine W.st [(0,.obj (ig.cells a0))] ?_;refine W.bK<|W.bJ [0,8] ?_;refine W.bY h q (λkO h=>?_) (λkO h=>?_)
 ·refine aL h λx2 gv h=>W.cn [0] (al (O.aT .z4)<|aA.jn q (fT.jQ (ks:=[]) (bw.go gv) q q q q (.b q .nil))<|bD q) ?_;exact W.rt<|ay.gC<|aV h ▸ ay.fin (Fin.ro .nil q (p0 (by kernel_rfl)) (.aj q q .nil) q (.inr q))
 ·refine W.cR<|ay.bG<|W.bK<|aL h λa8 hl h=>W.rd [[],[],[1],[1,2],[1,2,3],[1,2,3,4],[],[6],[6,7],[6,7,8],[6,7,8,9],[],[11],[11,12],[11,12,13],[11,12,13,14],aF 6 10 [],aF 6 11 [],aF 1 17 [],aF 0 19 [],aF 0 20 [],aF 0 21 [],aF 0 22 []] [(0,_)] e0 (by kernel_rfl) (ax 0 (O.aT .z4)<|ax 1 (O.aT .z4)<|ax 2 (O.cQ .z5)<|ax 3 O.y2<|ax 4 O.y2<|ax 5 (O.cM (y:=.a6 iJ.z ⟨0,[22]⟩ a0.bb.eB.length))<|ax 6 (O.aT .z4)<|ax 7 (O.cQ .z5)<|ax 8 O.y2<|ax 9 O.y2<|ax 10 O.dc<|ax 11 (O.aT .z4)<|ax 12 (O.cQ .z5)<|ax 13 O.y2<|ax 14 O.dc<|ax 15 (O.eql .aZ .bX)<|ax 16 (O.eb (cs:=[ae a0.bb.At,bh (decide (a0.h9=0))]) aao abB q q q)<|bx.fe 17 (x:=ak iJ [(⟨a0.bb.At,decide (a0.h9=0)⟩:vb)]) (O.dg (ys:=[.agg [ae a0.bb.At,bh (decide (a0.h9=0))]]) iJ [(⟨a0.bb.At,decide (a0.h9=0)⟩:vb)] yC q q q q q q abI q q) q q q q .none<|ax 18 (O.ap (en:=iJ) (r:=a8) .c3 q .z2 .i SR q hl)<|ax 19 (O.cQ .z5)<|ax 20 O.y2<|ax 21 O.y2<|bx.gZ 22 (bj.sp [0])<|bx.fin q q q (.n q .nil)) ?_;refine ay.bG<|W.cn [0] (al (O.aT .z4)<|al (O.cQ .z5)<|al O.y2<|aA.dJ (bj.l7 [0])<|bD q) ?_;refine aL h λbg nB h=>W.cn [0,2] (al (O.aT .z4)<|e6 (cp.my (ys:=[.ptr ⟨0,[]⟩ 0,ae 1]) q (.c (View.kT q q) (.s .nil)) (bw.go nB))<|al (O.dB (cs:=[ae 0,ae 0]) sQ q q)<|aA.dJ (bj.fu [0,2])<|bD q) ?_;refine W.bK<|W.b_<|aL h λbz ah h=>W.gl ((⟨a0.bZ,a0.iX,a0.jo,a0.jq,a0.du,a0.fk,3,(⟨a0.bb.Kind,a0.bb.At,a0.bb.Steps,a0.bb.Deep,a0.bb.bu,a0.bb.eB++[(⟨a0.bb.At,decide (a0.h9=0)⟩:vb)],a0.bb.gP,a0.bb.Tree⟩:hQ)⟩:dC),bg.Kind,bg.N) (λ(b2:dC × Int × Int)=>[(0,.obj (ig.cells b2.1)),(2,.obj [ae b2.2.1,ae b2.2.2])]) [0,2] 0 (λ(bq:dC × Int × Int)=>[(0,.obj (ig.cells bq.1)),(2,.obj [ae bq.2.1,ae bq.2.2])]) [0,2] (λ(bM:dC)=>[(0,.obj (ig.cells bM))]) [0] ah (λb2 o h=>?_) (λbq J=>?_) (λbM J=>?_)
  ·clear ah;refine W.bK<|W.bJ [0,2,40] ?_;refine W.bY h q (λnX h=>?_) (λnX h=>?_)
   ·refine W.cR<|ay.bG<|W.bK<|W.b_<|W.bJ [0,2,3] ?_;refine W.bK<|W.bJ [0,2,3,50] ?_;refine W.bY h q (λkq h=>?_) (λkq h=>?_)
    ·refine W.cn [0] (al (O.aT .z4)<|al (O.cQ .z5)<|al O.y2<|al O.y2<|aA.dJ (bj.l7 [0])<|bD q) ?_;exact W.rt<|ay.gC<|ay.lP<|ay.gC<|aV h ▸ ay.jy (.n q .nil)
    ·refine W.cR<|ay.bG<|W.bK<|aL h λa7 la h=>W.cn [0,2,3,59] (al (O.aT .z4)<|cN q<|al (O.sub .aZ .bX)<|aA.jn q (fT.jQ (ks:=[2,3]) (bw.go la) q q q q (.b q (.n q .nil)))<|aA.br) ?_;refine W.bY h q (λmf h=>?_) (λmf h=>?_)
     ·exact W.rt<|ay.gC<|ay.lP<|ay.gC<|aV h ▸ ay.jy (.n q .nil)
     ·refine W.cR<|ay.bG<|aL h λcw uq h=>aL h λe3 pR h=>W.rd [[],[],[],[2],[2,3],[2,3,4],[],aF 2 5 [],[],[8],[8,9],[8,9,10],[],[12],aF 8 6 [],(0::aF 2 10 []),(0::aF 2 10 [15]),(0::aF 2 10 [15,16]),aF 0 18 [],aF 0 19 [],aF 0 20 []] [(0,_),(2,_)] e0 (by kernel_rfl) (ax 0 (O.aT .z4)<|ax 1 (O.aT .z4)<|ax 2 (O.aT .z4)<|ax 3 (O.cQ .z5)<|ax 4 O.y2<|ax 5 (O.cM (y:=.a6 ai.z ⟨0,[14]⟩ a7.2.du.length))<|ax 6 (O.aT (.lit q))<|ax 7 (O.Eb (en:=ai) (L:=a7.2.du) .c3 .aZ q gx uq)<|ax 8 (O.aT .z4)<|ax 9 (O.cQ .z5)<|ax 10 O.y2<|ax 11 (O.cM (y:=.a6 eh.z ⟨0,[15]⟩ a7.2.fk.length))<|ax 12 (O.aT (.lit q))<|ax 13 (O.sub .aZ .bX)<|ax 14 (O.Eb (en:=eh) (L:=a7.2.fk) .c3 .aZ q uV pR)<|ax 15 (O.cQ .z5)<|ax 16 O.y2<|bx.M5 17 (G2:=(71,.a6 eh.z ⟨0,[15]⟩ a7.2.fk.length)::[(0,.obj ((k7 a7.2).set 14 (aD ai (a7.2.du.take ((aG ((b2.1.du.length:Int) - 1)).toNat))))),(2,.obj [ae b2.2.1,ae b2.2.2]),(3,ae (aG ((b2.1.du.length:Int) - 1)))]) (U:=[(14,74,some (.a6 eh.z ⟨0,[15]⟩ ((aG ((aG ((b2.1.du.length:Int) - 1)) - 1)).toNat))),(13,73,some (ae (aG ((aG ((b2.1.du.length:Int) - 1)) - 1)))),(12,72,some (ae (aG ((b2.1.du.length:Int) - 1)))),(1,61,some (.ptr ⟨0,[]⟩ 0))]) (ps:=[⟨0,[15]⟩]) (ng.back (t:=71) (x:=.a6 eh.z ⟨0,[15]⟩ a7.2.fk.length) (G5:=[(0,.obj ((k7 a7.2).set 14 (aD ai (a7.2.du.take ((aG ((b2.1.du.length:Int) - 1)).toNat))))),(2,.obj [ae b2.2.1,ae b2.2.2]),(3,ae (aG ((b2.1.du.length:Int) - 1)))]) (h7.cell (r:=0) (k0:=15) (y:=aD eh a7.2.fk) (g5:=get [(0,.obj ((k7 a7.2).set 14 (aD ai (a7.2.du.take ((aG ((b2.1.du.length:Int) - 1)).toNat))))),(2,.obj [ae b2.2.1,ae b2.2.2]),(3,ae (aG ((b2.1.du.length:Int) - 1)))]) q q b6.bn (λv _=>⟨get [(0,.obj ((k7 a7.2).set 15 (.lit v))),(2,.obj [ae b2.2.1,ae b2.2.2]),(3,ae (aG ((b2.1.du.length:Int) - 1))),(67,.a6 ai.z ⟨0,[14]⟩ ((aG ((b2.1.du.length:Int) - 1)).toNat)),(76,.ptr ⟨0,[]⟩ 14)],get [(0,.obj [ak ai a7.2.bZ.Def,ak ai a7.2.bZ.cA.cZ,ak ai a7.2.bZ.cA.b',ak ai a7.2.bZ.cA.b8,ak ai a7.2.bZ.jA,ak ai a7.2.bZ.eo.cZ,ak ai a7.2.bZ.eo.b',ak ai a7.2.bZ.eo.b8,ak ai a7.2.bZ.Left,ak ai a7.2.bZ.kH,ak ck a7.2.bZ.ji,aD ai a7.2.iX,ae a7.2.jo,ae a7.2.jq,aD ai (a7.2.du.take ((aG ((b2.1.du.length:Int) - 1)).toNat)),.lit v,ae a7.2.h9,ae a7.2.bb.Kind,ae a7.2.bb.At,ae a7.2.bb.Steps,ae a7.2.bb.Deep,aD ai a7.2.bb.bu,aD iJ a7.2.bb.eB,aD ai a7.2.bb.gP,ae a7.2.bb.Tree.Sym,ae a7.2.bb.Tree.Prod,ae a7.2.bb.Tree.At,jU 4 a7.2.bb.Tree.Kids]),(2,.obj [ae b2.2.1,ae b2.2.2]),(3,ae (aG ((b2.1.du.length:Int) - 1)))],Trim.keep (.n q (.n q (.n q (.r q (cW.To (en:=ai) (L:=a7.2.du) q (xL uq)) iz (.q q q q .nil))))),bj.jJ (bj.Ru (en:=ai) (L:=a7.2.du) (f:=14) (k:=((aG ((b2.1.du.length:Int) - 1)).toNat)) (r:=0) (cs1:=[ak ai a7.2.bZ.Def,ak ai a7.2.bZ.cA.cZ,ak ai a7.2.bZ.cA.b',ak ai a7.2.bZ.cA.b8,ak ai a7.2.bZ.jA,ak ai a7.2.bZ.eo.cZ,ak ai a7.2.bZ.eo.b',ak ai a7.2.bZ.eo.b8,ak ai a7.2.bZ.Left,ak ai a7.2.bZ.kH,ak ck a7.2.bZ.ji,aD ai a7.2.iX,ae a7.2.jo,ae a7.2.jq,.dead,.lit v,ae a7.2.h9,ae a7.2.bb.Kind,ae a7.2.bb.At,ae a7.2.bb.Steps,ae a7.2.bb.Deep,aD ai a7.2.bb.bu,aD iJ a7.2.bb.eB,aD ai a7.2.bb.gP,ae a7.2.bb.Tree.Sym,ae a7.2.bb.Tree.Prod,ae a7.2.bb.Tree.At,jU 4 a7.2.bb.Tree.Kids]) (cs2:=[ak ai a7.2.bZ.Def,ak ai a7.2.bZ.cA.cZ,ak ai a7.2.bZ.cA.b',ak ai a7.2.bZ.cA.b8,ak ai a7.2.bZ.jA,ak ai a7.2.bZ.eo.cZ,ak ai a7.2.bZ.eo.b',ak ai a7.2.bZ.eo.b8,ak ai a7.2.bZ.Left,ak ai a7.2.bZ.kH,ak ck a7.2.bZ.ji,aD ai a7.2.iX,ae a7.2.jo,ae a7.2.jq,aD ai (a7.2.du.take ((aG ((b2.1.du.length:Int) - 1)).toNat)),.lit v,ae a7.2.h9,ae a7.2.bb.Kind,ae a7.2.bb.At,ae a7.2.bb.Steps,ae a7.2.bb.Deep,aD ai a7.2.bb.bu,aD iJ a7.2.bb.eB,aD ai a7.2.bb.gP,ae a7.2.bb.Tree.Sym,ae a7.2.bb.Tree.Prod,ae a7.2.bb.Tree.At,jU 4 a7.2.bb.Tree.Kids]) q q (.ptr q) (.a6 q) q q (xL uq) G_ q q q (.b q (.n q q (.n q q .nil)))),q,Trim.keep (oi q q q)⟩)) (by intro p e; cases e with | head=>exact λh=>nomatch (show some _=none from h) | tail _ e=>cases e) q q (by simp) (.inl ⟨0,[15],_,_,_,_,q,by simp,q,q,Nat.le_refl _⟩)) q q (by kernel_rfl) q q q (.c (.inl ⟨0,[15],_,_,_,_,q,by simp,q,q,xL pR⟩) q q q q q (eI.wanted .none) (O.Eb (en:=eh) (L:=a7.2.fk) .c3 .aZ q uV pR) (.c (.inr (.inl ⟨_,q⟩)) q q q q q (eI.wanted .none) (O.sub .aZ .bX) (.c (.inr (.inl ⟨_,q⟩)) q q q q q (eI.wanted .none) (O.aT (.lit q)) (.c (.inr (.inr (.inr (.inl ⟨0,_,_,q,q,gT q,by simp,_,q,gT q⟩)))) q q q q q (eI.wanted .none) (O.aT .z4) .nil)))) (by kernel_rfl)<|ax 18 (O.cQ .z5)<|ax 19 O.y2<|bx.gZ 20 (G2:=[(0,.obj [ak ai a7.2.bZ.Def,ak ai a7.2.bZ.cA.cZ,ak ai a7.2.bZ.cA.b',ak ai a7.2.bZ.cA.b8,ak ai a7.2.bZ.jA,ak ai a7.2.bZ.eo.cZ,ak ai a7.2.bZ.eo.b',ak ai a7.2.bZ.eo.b8,ak ai a7.2.bZ.Left,ak ai a7.2.bZ.kH,ak ck a7.2.bZ.ji,aD ai a7.2.iX,ae a7.2.jo,ae a7.2.jq,aD ai (a7.2.du.take ((aG ((b2.1.du.length:Int) - 1)).toNat)),aD eh (a7.2.fk.take ((aG ((aG ((b2.1.du.length:Int) - 1)) - 1)).toNat)),ae a7.2.h9,ae a7.2.bb.Kind,ae a7.2.bb.At,ae a7.2.bb.Steps,ae a7.2.bb.Deep,aD ai a7.2.bb.bu,aD iJ a7.2.bb.eB,aD ai a7.2.bb.gP,ae a7.2.bb.Tree.Sym,ae a7.2.bb.Tree.Prod,ae a7.2.bb.Tree.At,jU 4 a7.2.bb.Tree.Kids]),(2,.obj [ae b2.2.1,ae b2.2.2])]) (bj.Ru (en:=eh) (L:=a7.2.fk) (f:=15) (k:=((aG ((aG ((b2.1.du.length:Int) - 1)) - 1)).toNat)) (r:=0) (cs1:=[ak ai a7.2.bZ.Def,ak ai a7.2.bZ.cA.cZ,ak ai a7.2.bZ.cA.b',ak ai a7.2.bZ.cA.b8,ak ai a7.2.bZ.jA,ak ai a7.2.bZ.eo.cZ,ak ai a7.2.bZ.eo.b',ak ai a7.2.bZ.eo.b8,ak ai a7.2.bZ.Left,ak ai a7.2.bZ.kH,ak ck a7.2.bZ.ji,aD ai a7.2.iX,ae a7.2.jo,ae a7.2.jq,aD ai (a7.2.du.take ((aG ((b2.1.du.length:Int) - 1)).toNat)),.dead,ae a7.2.h9,ae a7.2.bb.Kind,ae a7.2.bb.At,ae a7.2.bb.Steps,ae a7.2.bb.Deep,aD ai a7.2.bb.bu,aD iJ a7.2.bb.eB,aD ai a7.2.bb.gP,ae a7.2.bb.Tree.Sym,ae a7.2.bb.Tree.Prod,ae a7.2.bb.Tree.At,jU 4 a7.2.bb.Tree.Kids]) (cs2:=[ak ai a7.2.bZ.Def,ak ai a7.2.bZ.cA.cZ,ak ai a7.2.bZ.cA.b',ak ai a7.2.bZ.cA.b8,ak ai a7.2.bZ.jA,ak ai a7.2.bZ.eo.cZ,ak ai a7.2.bZ.eo.b',ak ai a7.2.bZ.eo.b8,ak ai a7.2.bZ.Left,ak ai a7.2.bZ.kH,ak ck a7.2.bZ.ji,aD ai a7.2.iX,ae a7.2.jo,ae a7.2.jq,aD ai (a7.2.du.take ((aG ((b2.1.du.length:Int) - 1)).toNat)),aD eh (a7.2.fk.take ((aG ((aG ((b2.1.du.length:Int) - 1)) - 1)).toNat)),ae a7.2.h9,ae a7.2.bb.Kind,ae a7.2.bb.At,ae a7.2.bb.Steps,ae a7.2.bb.Deep,aD ai a7.2.bb.bu,aD iJ a7.2.bb.eB,aD ai a7.2.bb.gP,ae a7.2.bb.Tree.Sym,ae a7.2.bb.Tree.Prod,ae a7.2.bb.Tree.At,jU 4 a7.2.bb.Tree.Kids]) q q (.ptr q) (.a6 q) q q (xL pR) aaX q q q (.b q (.n q q .nil)))<|bx.fin q q q (l8 q q)) ?_;refine ay.b_<|ay.bG<|aL h λcL mU h=>W.b0 [0,2] (al (O.aT .z4)<|e6 (cp.my (ys:=[.ptr ⟨0,[]⟩ 0,ae 1]) q (.c (View.kT q q) (.s .nil)) (bw.go mU))<|aA.dJ (bj.fu [0,2])<|bD q) ?_;exact aV h ▸ ay.gt
   ·exact W.fw<|ay.fm<|aV h ▸ ay.x2 (l8 q q)
  ·subst J;refine ay.fA<|ay.bG<|aL h λcE mm h=>aL h λc0 lA h=>W.rd [[],[],[1],[],[3],aF 0 5 []] [(0,_)] e0 (by kernel_rfl) (ax 0 (O.aT .z4)<|ax 1 O.bF<|ax 2 O.dc<|ax 3 (O.aT .z4)<|kf 4 (cp.my (ys:=[.ptr ⟨0,[]⟩ 0,ae 1]) (hr:=Qd mm) q (.c (View.kT q q) (.s .nil)) (bw.go mm))<|bx.gZ 5 (G2:=[(84,bh c0.1),(0,.obj (ig.cells c0.2))]) (bj.call q q (k1.jQ (G2:=[]) (A:=[]) (ys:=[.ptr ⟨0,[]⟩ 0,ae bq.2.2,ae 0,.agg (eh.cells cE)]) (args:=[.obj (ig.cells bq.1),ae bq.2.2,ae 0,.agg (eh.cells cE)]) (cs':=ig.cells c0.2) (k0:=0) q q q q (.b q (.n q (.n q (.n q .nil)))) q (bw.go lA) call76 .nil q q .nil .nil q))<|bx.fin q q q (.n q .nil)) ?_;exact aV h ▸ ay.fin (Fin.ro .nil q (p0 (by kernel_rfl)) (.aj q q .nil) q (.inl q))
  ·subst J;exact ay.lP<|ay.gC<|aV h ▸ ay.fin (Fin.ro .nil q (p0 (by kernel_rfl)) (.aj q q .nil) q (.inr q))
instance adA {a0:dC}{r:dC}:bw prog 79 (AN a0=some r) [.obj (ig.cells a0)] [some (.obj (k7 r))] (.bR []):=⟨Uy a0 _⟩
theorem Uq (a0:dC) (r:dC) (h:yj a0=some r):bS prog 44 [.obj (ig.cells a0)] [some (.obj (k7 r))] (.bR []):=by
 unfold yj at h;refine bS.go (N:=⟨67,[0]⟩) func44 q q q q (W.fin ?_);refine W.st [(0,.obj (ig.cells a0))] ?_;refine aL h λaR gJ h=>aL h λx2 gv h=>W.cn [0,2] (al (O.aT .z4)<|al (O.aT .z4)<|e6 (cp.my (ys:=[.ptr ⟨0,[]⟩ 0]) q (.c (View.kT q q) .nil) (bw.go gJ))<|e6 (cp.my (ys:=[.ptr ⟨0,[]⟩ 0,ae aR]) q (.c (View.kT q q) (.s .nil)) (bw.go gv))<|al (O.dB (cs:=[ae 0,ae 0]) sQ q q)<|aA.dJ (bj.fu [0,2])<|bD q) ?_;refine W.bJ [0,2,8] ?_;refine aL h λhN ag h=>W.eZ [0] [(0,.obj (ig.cells hN))] ?_ ?_
 ·clear h; have h:=ag; clear ag;refine W.b_<|W.bJ [0,2,8,11] ?_;refine aL h λxQ ag h=>W.eZ [0] [(0,.obj (ig.cells xQ))] ?_ ?_
  ·clear h; have h:=ag; clear ag;refine W.bY h q (λr_ h=>?_) (λr_ h=>?_)
   ·refine W.bK<|aL h λbz kz h=>aL h λbq kA h=>aL h λbM n2 h=>W.rd [[],[],[1],[],[],[4],[3,4,5],aF 0 7 []] [(0,_),(20,_)] e0 (by kernel_rfl) (ax 0 (O.aT .z4)<|ax 1 O.bF<|ax 2 O.dc<|ax 3 (O.aT .z4)<|ax 4 (O.aT .z4)<|kf 5 (cp.my (ys:=[.ptr ⟨0,[]⟩ 0]) q (.c (View.kT q q) .nil) (bw.go kz))<|kf 6 (cp.my (ys:=[.ptr ⟨0,[]⟩ 0,ae bz]) (hr:=Qd kA) q (.c (View.kT q q) (.s .nil)) (bw.go kA))<|bx.gZ 7 (G2:=[(20,bh bM.1),(0,.obj (ig.cells bM.2))]) (bj.call q q (k1.jQ (G2:=[]) (A:=[]) (ys:=[.ptr ⟨0,[]⟩ 0,ae x2.N,ae 0,.agg (eh.cells bq)]) (args:=[.obj (ig.cells a0),ae x2.N,ae 0,.agg (eh.cells bq)]) (cs':=ig.cells bM.2) (k0:=0) q q q q (.b q (.n q (.n q (.n q .nil)))) q (bw.go n2) call76 .nil q q .nil .nil q))<|bx.fin q q q (l8 q q)) ?_;refine ay.bG<|aL h λmW ag h=>W.eZ [0] [(0,.obj [ak ai bM.2.bZ.Def,ak ai bM.2.bZ.cA.cZ,ak ai bM.2.bZ.cA.b',ak ai bM.2.bZ.cA.b8,ak ai bM.2.bZ.jA,ak ai bM.2.bZ.eo.cZ,ak ai bM.2.bZ.eo.b',ak ai bM.2.bZ.eo.b8,ak ai bM.2.bZ.Left,ak ai bM.2.bZ.kH,ak ck bM.2.bZ.ji,aD ai bM.2.iX,ae bM.2.jo,ae bM.2.jq,aD ai bM.2.du,aD eh bM.2.fk,ae mW.1,ae bM.2.bb.Kind,ae mW.2,ae bM.2.bb.Steps,ae bM.2.bb.Deep,aD ai bM.2.bb.bu,aD iJ bM.2.bb.eB,aD ai bM.2.bb.gP,ae bM.2.bb.Tree.Sym,ae bM.2.bb.Tree.Prod,ae bM.2.bb.Tree.At,jU 4 bM.2.bb.Tree.Kids])] ?_ ?_
    ·clear h; have h:=ag; clear ag;refine W.bY h q (λkq h=>?_) (λkq h=>?_)
     ·refine W.cn [0] (al (O.aT .z4)<|al (O.cQ .z5)<|al O.y2<|al O.y2<|al O.dc<|al (O.add .aZ .bX)<|al (O.cQ .z5)<|al O.y2<|al O.y2<|aA.dJ (bj.l7 [0])<|bD q) ?_;refine W.b0 [0] (al (O.aT .z4)<|al (O.aT .z4)<|al (O.cQ .z5)<|al O.y2<|al O.dc<|al (O.sub .aZ .bX)<|al (O.Ga .aZ .bX)<|al (O.cQ .z5)<|al O.y2<|aA.dJ (bj.l7 [0])<|bD q) ?_;exact aV h ▸ ay.dn
     ·exact W.cR<|aV h ▸ ay.dn
    exact aV h ▸ ay.dn
   ·refine W.bJ [0,2,8,39] ?_;refine aL h λjb ag h=>W.eZ [0] [(0,.obj (ig.cells jb))] ?_ ?_
    ·clear h; have h:=ag; clear ag;refine W.bY h q (λmf h=>?_) (λmf h=>?_)
     ·refine aL h λcw uq h=>W.b0 [0] (al (O.aT .z4)<|al O.bF<|al O.dc<|aA.jn q (fT.jQ (ks:=[]) (bw.go uq) q q q q (.b q (.n q .nil)))<|bD q) ?_;exact aV h ▸ ay.dn
     ·refine W.bJ [0,45] ?_;refine aL h λfY ag h=>W.eZ [0] [(0,.obj (ig.cells fY))] ?_ ?_
      ·clear h; have h:=ag; clear ag;refine W.bY h q (λnw h=>?_) (λnw h=>?_)
       ·refine aL h λcE mm h=>W.rd [[],[],[],[2],[2,3],[2,3,4],[],[6],[6,7],[6,7,8],[6,7,8,9],aF 6 5 [],aF 2 10 [],aF 2 11 [],(0::aF 2 12 []),(0::aF 2 13 []),(0::aF 2 14 []),(0::aF 2 15 []),aF 0 18 [],aF 0 19 [],aF 0 20 [],aF 0 21 []] [(0,_)] e0 (by kernel_rfl) (ax 0 (O.aT .z4)<|ax 1 (O.aT .z4)<|ax 2 (O.aT .z4)<|ax 3 (O.cQ .z5)<|ax 4 O.y2<|ax 5 (O.cM (y:=.a6 eh.z ⟨0,[15]⟩ a0.fk.length))<|ax 6 (O.aT .z4)<|ax 7 (O.cQ .z5)<|ax 8 O.y2<|ax 9 (O.cM (y:=.a6 eh.z ⟨0,[15]⟩ a0.fk.length))<|ax 10 (O.kB .c3 uV)<|ax 11 (O.sub .aZ .bX)<|ax 12 (O.gL (en:=eh) q .c3 .aZ uV mm q)<|ax 13 (O.YL (en:=eh) (cs':=eh.cells cE) q .z5 E4 mm q q)<|ax 14 (O.cQ .z5)<|ax 15 O.y2<|ax 16 O.y2<|bx.eb 17 (G2:=[(0,.obj ((k7 a0).set 17 (ae 1))),(60,.agg (eh.cells cE))]) (U:=[(1,48,some (.ptr ⟨0,[]⟩ 0))]) (h7.v (bj.jJ (bj.ke (G2:=[(0,.obj ((k7 a0).set 17 (ae 1))),(60,.agg (eh.cells cE))]) (cs2:=((k7 a0).set 17 (ae 1))) q q q (.ptr q) (.k q) q tw q q q q (.b q (.n q q .nil))))) q q (by kernel_rfl) q q q (.c (.inr (.inr (.inr (.inl ⟨0,_,_,q,q,gT q,by simp,_,q,gT q⟩)))) q q q q q (eI.wanted .none) (O.aT .z4) .nil) (by kernel_rfl)<|ax 18 (O.cQ .z5)<|ax 19 O.y2<|ax 20 O.y2<|bx.gZ 21 (bj.fu [0])<|bx.fin q q q (.n q .nil)) ?_;exact aV h ▸ ay.dn
       ·refine aL h λc0 lA h=>W.b0 [0] (al (O.aT .z4)<|aA.jn q (fT.jQ (ks:=[]) (bw.go lA) q q q q (.b q .nil))<|bD q) ?_;exact aV h ▸ ay.dn
      exact aV h ▸ ay.dn
    exact aV h ▸ ay.dn
  exact ay.b_<|aV h ▸ ay.dn
 exact aV h ▸ ay.fin (Fin.ro .nil q (p0 (by kernel_rfl)) (.aj q q .nil) q (.inl q))
instance adb {a0:dC}{r:dC}:bw prog 44 (yj a0=some r) [.obj (ig.cells a0)] [some (.obj (k7 r))] (.bR []):=⟨Uq a0 _⟩
theorem Uh (a0:Tables) (aw:(List Int)) (a2:Int) (a3:Int) (r:hQ) (h:uH a0 aw a2 a3=some r):bS prog 16 [.agg (qm.cells a0),ak ai aw,ae a2,ae a3] [none,none,none,none] (.agg (Fc.cells r)):=by
 unfold uH at h;refine bS.go (N:=⟨62,[]⟩) func16 q q q q (W.fin ?_);refine W.st [(0,.agg (qm.cells a0)),(1,ak ai aw),(2,ae a2),(3,ae a3)] ?_;refine W.cn [1,2,3,4,8] (al (O.box (.dI q q) q)<|al (O.dB (cs:=[ae 0,ae 0,ae 0,ae 0,.aS,.aS,.aS,ae 0,ae 0,ae 0,.aS]) Ew q q)<|bD q) ?_;refine W.cn [1,2,3,4,8,9] (al (O.ez (cs':=qm.cells a0) q .z4 wR q q)<|al (O.vf (ys:=[ae 0]) (cs:=[ae 0]) gx q q q q q mC q q)<|al (O.eb (cs:=[ak ai a0.Def,ak ai a0.cA.cZ,ak ai a0.cA.b',ak ai a0.cA.b8,ak ai a0.jA,ak ai a0.eo.cZ,ak ai a0.eo.b',ak ai a0.eo.b8,ak ai a0.Left,ak ai a0.kH,ak ck a0.ji,.aS,ae 0,ae 0,.a6 1 ⟨13,[]⟩ 1,.aS,ae 0,ae 0,ae 0,ae 0,ae 0,.aS,.aS,.aS,ae 0,ae 0,ae 0,.aS]) aaj abw q q q)<|al (O.box (.dI q q) q)<|aA.q_ (G2:=[(1,ak ai aw),(2,ae a2),(3,ae a3),(4,.obj (qm.cells a0)),(8,.obj [ae 0,ae 0,ae 0,ae 0,.aS,.aS,.aS,ae 0,ae 0,ae 0,.aS])]) q (bj.Br (y':=.obj [ak ai a0.Def,ak ai a0.cA.cZ,ak ai a0.cA.b',ak ai a0.cA.b8,ak ai a0.jA,ak ai a0.eo.cZ,ak ai a0.eo.b',ak ai a0.eo.b8,ak ai a0.Left,ak ai a0.kH,ak ck a0.ji,.aS,ae 0,ae 0,aD ai [0],.aS,ae 0,ae 0,ae 0,ae 0,ae 0,.aS,.aS,.aS,ae 0,ae 0,ae 0,.aS]) q q (.obj q) (.b q (.f (.f (.f (.f (.f (.f (.f (.f (.f (.f (.f (.f (.f (.f (.l q q (.f .nil) (.f (.f (.f (.f (.f (.f (.f (.f (.f (.f (.f (.f (.f .nil)))))))))))))))))))))))))))) .nil) .refl (mw q q q q q) q q)<|bD q) ?_;refine W.cn [1,4,8,9] (al (O.aT .z4)<|al (O.aT .z4)<|cN q<|al (O.Ga .aZ .bX)<|al (O.PR .aZ .bX)<|cN q<|al (O.Ga .aZ .bX)<|al (O.PR .aZ .bX)<|al (O.cQ .z5)<|al O.y2<|aA.ke (G2:=[(1,_),(4,_),(8,_),(9,_),(17,.ptr ⟨9,[]⟩ 0),(23,_)]) (cs2:=[ak ai a0.Def,ak ai a0.cA.cZ,ak ai a0.cA.b',ak ai a0.cA.b8,ak ai a0.jA,ak ai a0.eo.cZ,ak ai a0.eo.b',ak ai a0.eo.b8,ak ai a0.Left,ak ai a0.kH,ak ck a0.ji,.aS,ae (min (max a2 0) 100000),ae 0,aD ai [0],.aS,ae 0,ae 0,ae 0,ae 0,ae 0,.aS,.aS,.aS,ae 0,ae 0,ae 0,.aS]) q (.ptr q) (.lit q) q tw q q q q (.n q q (.n q q (.n q q (.b q (.p q q q q q q (.n q q .nil))))))<|al (O.cQ .z5)<|al O.y2<|aA.dJ (bj.l7 [1,4,8,9])<|bD q) ?_;refine W.bK<|W.cn [4,8,9,28,29,30] (al (O.aT .z2)<|al O.kF<|al (O.aT .bX)<|bD q) ?_;refine aL h λlB ag h=>W.eZ [8,9] [(9,.obj [ak ai a0.Def,ak ai a0.cA.cZ,ak ai a0.cA.b',ak ai a0.cA.b8,ak ai a0.jA,ak ai a0.eo.cZ,ak ai a0.eo.b',ak ai a0.eo.b8,ak ai a0.Left,ak ai a0.kH,ak ck a0.ji,aD ai lB,ae (min (max a2 0) 100000),ae (min (max a3 0) 1000000),aD ai [0],.aS,ae 0,ae 0,ae 0,ae 0,ae 0,.aS,.aS,.aS,ae 0,ae 0,ae 0,.aS])] ?_ ?_
 ·clear h; have h:=ag; clear ag;refine W.b_<|aL h λa8 ah h=>W.hD (([]:List Int),0) (λ(s2:List Int × Int)=>[(9,.obj [ak ai a0.Def,ak ai a0.cA.cZ,ak ai a0.cA.b',ak ai a0.cA.b8,ak ai a0.jA,ak ai a0.eo.cZ,ak ai a0.eo.b',ak ai a0.eo.b8,ak ai a0.Left,ak ai a0.kH,ak ck a0.ji,aD ai s2.1,ae (min (max a2 0) 100000),ae (min (max a3 0) 1000000),aD ai [0],.aS,ae 0,ae 0,ae 0,ae 0,ae 0,.aS,.aS,.aS,ae 0,ae 0,ae 0,.aS]),(30,ae s2.2)]) [4,8,9,28,29,30] 0 (λ(a8:List Int)=>[(9,.obj [ak ai a0.Def,ak ai a0.cA.cZ,ak ai a0.cA.b',ak ai a0.cA.b8,ak ai a0.jA,ak ai a0.eo.cZ,ak ai a0.eo.b',ak ai a0.eo.b8,ak ai a0.Left,ak ai a0.kH,ak ck a0.ji,aD ai a8,ae (min (max a2 0) 100000),ae (min (max a3 0) 1000000),aD ai [0],.aS,ae 0,ae 0,ae 0,ae 0,ae 0,.aS,.aS,.aS,ae 0,ae 0,ae 0,.aS])]) [8,9] ah (λs2 o h=>?_) ?_
  ·clear ah;refine W.bJ [4,8,9,28,29,30,31] ?_;refine W.bK<|W.bY h q (λr_ h=>?_) (λr_ h=>?_)
   ·refine W.cR<|ay.bG<|W.bK<|W.b_<|aL h λbz kz h=>W.bJ [4,8,9,11,28,29,30] ?_;refine W.bK<|W.bJ [4,8,9,11,28,29,30,35] ?_;refine W.bY h q (λxg h=>?_) (λxg h=>?_)
    ·refine W.fw<|ay.fm<|ay.E7 q ?_;exact ay.fm<|aV h ▸ ay.t1
    ·refine W.cR<|ay.bG<|aL h λbM n2 h=>aL h λcC pT h=>W.rd [[],[],[1],[1,2],[1,2,3],[],[5],[],[5,6,7],[5,6,7,8],aF 1 9 [],aF 0 11 [],aF 0 12 [],aF 0 13 []] [(4,_),(8,_),(9,_),(28,_),(29,_),(30,_)] e0 (by kernel_rfl) (ax 0 (O.aT .z4)<|ax 1 (O.aT .z4)<|ax 2 (O.cQ .z5)<|ax 3 O.y2<|ax 4 (O.cM (y:=.a6 ai.z ⟨9,[11]⟩ s2.1.length))<|ax 5 O.bF<|ax 6 (O.cM (y:=ak ck a0.ji))<|ax 7 (O.aT (.lit q))<|kf 8 (cp.ev (.cr (.bl q) (.cr (.lit q) .nil)) (bw.go n2))<|bx.fe 9 (x:=ak ai [bM]) (O.dg (ys:=[ae bM]) ai [bM] gx q q q q q q mC q q) q q q q .none<|ax 10 (O.ap (en:=ai) (r:=cC) .c3 q .z2 .i qh q pT)<|ax 11 (O.cQ .z5)<|ax 12 O.y2<|bx.gZ 13 (bj.sp [4,8,9,28,29,30])<|bx.fin q q q (rQ q q q q q q)) ?_;refine ay.b_<|ay.bG<|W.b0 [4,8,9,28,29,30] (al (O.add .aZ .bX)<|aA.b0 [4,8,9,28,29,49] q<|aA.br) ?_;exact aV h ▸ ay.gt
   ·exact W.fw<|ay.fm<|aV h ▸ ay.t1
  exact ay.fA<|aV h ▸ ay.dn
 refine ay.bG<|W.bK<|W.b_<|aL h λa7 ah h=>W.hD (⟨a0,lB,min (max a2 0) 100000,min (max a3 0) 1000000,[0],[],0,(⟨0,0,0,0,[],[],[],(⟨0,0,0,GP⟩:Node)⟩:hQ)⟩:dC) (λ(e2:dC)=>[(9,.obj (ig.cells e2))]) [8,9] 2 (λ(a7:dC)=>[(9,.obj (ig.cells a7))]) [8,9] ah (λe2 o h=>?_) ?_
 ·clear ah;refine W.bK<|W.bJ [8,9,55] ?_;refine W.bY h q (λjL h=>?_) (λjL h=>?_)
  ·refine W.cR<|ay.bG<|W.b_<|aL h λe3 pR h=>W.b0 [8,9] (al (O.aT .z4)<|aA.jn q (fT.jQ (ks:=[8]) (bw.go pR) q q q q (.b q .nil))<|bD q) ?_;exact ay.b_<|aV h ▸ ay.gt
  ·exact W.fw<|ay.fm<|aV h ▸ ay.t1
 refine ay.fA<|ay.bG<|W.bK<|W.dN (G1:=[(8,_),(9,.obj [ak ai a7.bZ.Def,ak ai a7.bZ.cA.cZ,ak ai a7.bZ.cA.b',ak ai a7.bZ.cA.b8,ak ai a7.bZ.jA,ak ai a7.bZ.eo.cZ,ak ai a7.bZ.eo.b',ak ai a7.bZ.eo.b8,ak ai a7.bZ.Left,ak ai a7.bZ.kH,ak ck a7.bZ.ji,aD ai a7.iX,ae a7.jo,ae a7.jq,aD ai a7.du,aD eh a7.fk,ae a7.h9,ae a7.bb.Kind,ae a7.bb.At,ae a7.bb.Steps,ae a7.bb.Deep,ak ai a7.bb.bu,ak iJ a7.bb.eB,ak ai a7.bb.gP,ae a7.bb.Tree.Sym,ae a7.bb.Tree.Prod,ae a7.bb.Tree.At,jU 4 a7.bb.Tree.Kids])]) [9] (.n q q (.z q q (fK.obj (.f (.f (.f (.f (.f (.f (.f (.f (.f (.f (.f (.f (.f (.f (.f (.f (.f (.f (.f (.f (.f (.z (.z (.z (.f (.f (.f (.f .nil))))))))))))))))))))))))))))) .nil)) ?_;refine W.b0 [8] (al (O.aT .z4)<|al (O.cQ .z5)<|al O.y2<|al (O.ez (cs':=Fc.cells a7.bb) q .z5 MQ q q)<|aA.dJ (bj.fu [8])<|bD q) ?_;exact ay.bG<|W.rt<|aV h ▸ jD (.c (ys0:=Fc.cells a7.bb) q MQ q q q (.f q (.f q (.f q (.f q (.f q (.f q (.f q (.f q (.f q (.f q (.f q .nil))))))))))) .nil)
instance acH {a0:Tables}{aw:(List Int)}{a2:Int}{a3:Int}{r:hQ}:bw prog 16 (uH a0 aw a2 a3=some r) [.agg (qm.cells a0),ak ai aw,ae a2,ae a3] [none,none,none,none] (.agg (Fc.cells r)):=⟨Uh a0 aw a2 a3 _⟩
instance adh {a0:cH}{aw:cH}{r:Int}:bw prog 52 (DO a0 aw=some r) [.agg [ae a0.At,ae a0.b'],.agg [ae aw.At,ae aw.b']] [none,none] (ae r):=⟨λh=>by unfold DO at h; exact bS.br (N:=⟨10,[]⟩) [2,3,4] .e func52 rfl rfl rfl rfl rfl dx⟩
theorem Uk (a0:bA) (r:(List cH)) (h:AE a0=some r):bS prog 22 [.agg (c9.cells a0)] [none] (ak ck r):=by
 unfold AE at h;refine bS.go (N:=⟨28,[]⟩) func22 q q q q (W.fin ?_);refine W.st [(0,.agg (c9.cells a0))] ?_;refine W.cn [1] (al (O.box (.dI q q) q)<|aA.br) ?_;refine W.bJ [1,3] ?_;refine W.bK<|W.cn [3,7,8,9] (al O.bF<|al (O.cM (y:=ak cu a0.bo))<|al O.kF<|al (O.aT .bX)<|bD q) ?_;refine W.b_<|aL h λx2 ah h=>W.hD (([]:List cH),0) (λ(s1:List cH × Int)=>[(3,aD ck s1.1),(9,ae s1.2)]) [3,7,8,9] 0 (λ(x2:List cH)=>[(3,aD ck x2)]) [3] ah (λs1 o h=>?_) ?_
 ·clear ah;refine W.bJ [3,7,8,9,10] ?_;refine W.bK<|W.bY h q (λo9 h=>?_) (λo9 h=>?_)
  ·refine W.cR<|ay.bG<|W.bK<|aL h λiy ag h=>W.eZ [3,7,8,9] [(3,aD ck iy)] ?_ ?_
   ·clear h; have h:=ag; clear ag;refine W.b_<|aL h λbz kz h=>W.cn [3,4,5,7,8,9] (cN q<|al (O.gV kz)<|al (O.n' (cs':=cu.cells bz) .nJ Te q q)<|al (O.dB (cs:=[a1 bk,bh false,ae 0,ae 0,ae 0,a1 bk]) HC q q)<|HQ q<|aA.dJ (bj.fu [3,4,5,7,8,9])<|bD q) ?_;refine W.bJ [3,4,5,7,8,9,16] ?_;refine aL h λlg ag h=>W.eZ [3,7,8,9] [(3,aD ck lg)] ?_ ?_
    ·clear h; have h:=ag; clear ag;refine W.bY h q (λxh h=>?_) (λxh h=>?_)
     ·refine aL h λcC pT h=>W.b0 [3,7,8,9] (al (O.aT .z3)<|al O.bF<|al O.dc<|cN q<|al (O.eb (cs:=[ae bz.cb,ae s1.2]) aak L_ q q q)<|aA.fe (x:=ak ck [(⟨bz.cb,s1.2⟩:cH)]) (O.dg (ys:=[.agg [ae bz.cb,ae s1.2]]) ck [(⟨bz.cb,s1.2⟩:cH)] aaB q q q q q q abC q q) q q .none<|al (O.ap (en:=ck) (r:=cC) .c3 q .z2 .i SQ q pT)<|aA.ca (bj.wQ [7,8,9])<|bD q) ?_;exact aV h ▸ ay.dn
     ·exact W.cR<|aV h ▸ ay.dn
    exact ay.b_<|aV h ▸ ay.dn
   refine ay.bG<|W.b0 [3,7,8,9] (al (O.add .aZ .bX)<|aA.b0 [3,7,8,24] q<|aA.br) ?_;exact aV h ▸ ay.gt
  ·exact W.fw<|ay.fm<|aV h ▸ ay.t1
 refine ay.fA<|ay.bG<|aL h λch sl h=>W.cn [3] (al (O.aT .z3)<|aA.jn q (bj.call q q (k1.jw (en:=ck) (L:=x2) (L':=ch) (G2:=[]) (ys:=[.cD (.func 52) [] []]) (args:=[.cD (.func 52) [] []]) q q q q (.c (View.cl .nil) .nil) (aaF call52 sl (λa b v h=>bw.go h)) call51 .nil q q .nil q))<|bD q) ?_;refine W.cn [2] (al (O.aT .z3)<|aA.ca (bj.k5 [])<|bD q) ?_;refine W.dN (G1:=[(2,ak ck ch)]) [2] (.z q q .kZ .nil) ?_;exact W.rt<|aV h ▸ mH
instance ac3 {a0:bA}{r:(List cH)}:bw prog 22 (AE a0=some r) [.agg (c9.cells a0)] [none] (ak ck r):=⟨Uk a0 _⟩
theorem T_ (a0:(List (List cH))) (r:Bool) (h:As a0=some r):bS prog 108 [ak (bC ck) a0] [none] (bh r):=by
 unfold As at h;refine bS.go (N:=⟨42,[]⟩) func108 q q q q (W.fin ?_);refine W.st [(0,ak (bC ck) a0)] ?_;refine W.bJ [0] ?_;refine W.bK<|W.bJ [0,10] ?_;refine W.bY h q (λkO h=>?_) (λkO h=>?_)
 ·refine W.bJ [2] ?_;exact W.rt<|ay.gC<|aV h ▸ mH
 ·refine W.cR<|ay.bG<|W.bK<|W.cn [11,12,13] (al (O.aT .z2)<|al O.kF<|al (O.aT .bX)<|bD q) ?_;refine W.b_<|aL h λa8 ah h=>W.gl 0 (λ(s2:Int)=>[(13,ae s2)]) [11,12,13] 0 (λ(bg:Unit)=>[]) [] (λ(b1:Bool)=>[(2,bh b1)]) [2] ah (λs2 o h=>?_) (λbg J=>?_) (λb1 J=>?_)
  ·clear ah;refine W.bJ [11,12,13,14] ?_;refine W.bK<|W.bY h q (λCj h=>?_) (λCj h=>?_)
   ·refine W.cR<|ay.bG<|W.bK<|W.b_<|aL h λbq kA h=>W.bJ [4,11,12,13] ?_;refine W.cn [4,5,11,12,13] (al (O.dB (cs:=bB e8 (List.replicate 1000 false)) abz (by kernel_rfl) (by kernel_rfl))<|bD q) ?_;refine W.cn [5,11,12,13,17,18,19] (al (O.aT .z2)<|al O.kF<|al (O.aT .bX)<|bD q) ?_;refine W.b_<|aL h λcC ah h=>W.gl ((List.replicate 1000 false),0) (λ(ej:List Bool × Int)=>[(5,.obj (bB e8 ej.1)),(19,ae ej.2)]) [5,11,12,13,17,18,19] 2 (λ(ch:Unit)=>[]) [11,12,13] (λ(a7:Bool)=>[(2,bh a7)]) [2] ah (λej o h=>?_) (λch J=>?_) (λa7 J=>?_)
    ·clear ah;refine W.bJ [5,11,12,13,17,18,19,20] ?_;refine W.bK<|W.bY h q (λmf h=>?_) (λmf h=>?_)
     ·refine W.cR<|ay.bG<|W.bK<|W.b_<|aL h λcw uq h=>W.cn [5,7,11,12,13,17,18,19] (al (O.gV uq)<|al (O.n' (cs':=[ae cw.At,ae cw.b']) .nJ Bt q q)<|al (O.dB (cs:=[ae 0,ae 0]) L_ q q)<|aA.dJ (bj.fu [5,7,11,12,13,17,18,19])<|bD q) ?_;refine W.bK<|aL h λwW ag h=>W.lF [5,7,11,12,13,17,18,19,36] [(36,bh wW)] ?_ ?_
      ·refine al O.bF<|al O.dc<|al (O.lss .aZ .bX)<|al (O.aT (.lit q)) ?_;rcases eU ag with ⟨r9,ag⟩ | ⟨r9,ag⟩
       ·exact aV ag ▸ aA.br
       ·refine bP r9 O.bF<|bP r9 O.dc<|bP r9 (O.geq .aZ .bX)<|al (O.gn .aZ r9 .aZ)<|al (O.aT (.lit q)) ?_;rcases eU ag with ⟨nw,ag⟩ | ⟨nw,ag⟩
        ·exact aV ag ▸ aA.br
        ·refine bP nw O.bF<|bP nw O.dc ?_;exact aL ag λcE mm ag=>aV ag ▸ (bP nw (O.Py (en:=e8) (L:=ej.1) q q .aZ MM mm)<|bP nw (O.YK (en:=e8) (L:=ej.1) q .z5 (Kw mm).2 q BJ (λ_=>q))<|aA.br)
      refine W.bY h q (λpJ h=>?_) (λpJ h=>?_)
      ·refine W.bJ [2] ?_;exact W.rt<|ay.gC<|ay.lP<|ay.gC<|aV h ▸ ay.jy (.n q .nil)
      ·refine W.cR<|ay.bG<|aL h λgh pS h=>W.b0 [5,11,12,13,17,18,19] (al O.bF<|al O.dc<|al (O.Py (en:=e8) (L:=ej.1) q q .aZ MM pS)<|aA.aai (G2:=[(5,.obj (bB e8 (ej.1.set cw.At.toNat true))),(11,ak (bC ck) a0),(12,ae (a0.length:Int)),(13,ae s2),(17,ak ck bq),(18,ae (bq.length:Int)),(19,ae ej.2)]) (en:=e8) (L:=ej.1) (y2:=true) q q (.ptr q) (.k q) (Kw pS).2 q q Rj q (.b q (.n q q (.n q q (.n q q (.n q q (.n q q (.n q q .nil)))))))<|bD q) ?_;refine ay.b_<|ay.bG<|W.b0 [5,11,12,13,17,18,19] (al (O.add .aZ .bX)<|aA.b0 [5,11,12,13,17,18,40] q<|aA.br) ?_;exact aV h ▸ ay.gt
     ·exact W.fw<|ay.fm<|aV h ▸ ay.x2 (oi q q q)
    ·subst J;refine ay.fA<|ay.b_<|ay.bG<|W.b0 [11,12,13] (al (O.add .aZ .bX)<|aA.b0 [11,12,41] q<|aA.br) ?_;exact aV h ▸ ay.gt
    ·subst J;exact ay.lP<|ay.lP<|ay.gC<|aV h ▸ ay.jy (.n q .nil)
   ·exact W.fw<|ay.fm<|aV h ▸ ay.x2 .nil
  ·subst J;refine ay.fA<|ay.bG<|W.bJ [2] ?_;exact W.rt<|aV h ▸ mH
  ·subst J;exact ay.lP<|ay.gC<|aV h ▸ mH
instance ab6 {a0:(List (List cH))}{r:Bool}:bw prog 108 (As a0=some r) [ak (bC ck) a0] [none] (bh r):=⟨T_ a0 _⟩
instance ab9 {a0:(List Int)}{r:Int}:bw prog 111 (Ds a0=some r) [ak ai a0] [none] (ae r):=⟨λh=>by unfold Ds at h; exact bS.br (N:=⟨18,[]⟩) [0,2,3,5,6,7,8,9,14] (.gl (λ(s1:Int)=>[(8,ae s1)]) [3,6,7,8] 0 (λ(a8:Unit)=>[]) [3] (λ(bg:Int)=>[(2,ae bg)]) [2] .e .e .e) func111 rfl rfl rfl rfl rfl dx⟩
instance ab8 {a0:Int}{aw:Int}{q7:(List (List cH))}{r:Int}:bw prog 110 (vZ a0 aw q7=some r) [ae a0,ae aw,.cx ([ak (bC ck) q7])] [none,none,none] (ae r):=⟨λh=>by unfold vZ at h; exact bS.br (N:=⟨22,[]⟩) [0,1,2,5] (.rd 1 [[],[],[0,1],[0,1,2],[0,1,2,3],[],[],[5,6],[5,6,7],[5,6,7,8],aF 0 10 [],[],[],aF 0 13 [],aF 0 14 [],aF 0 15 [],aF 0 16 []] .e) func110 rfl rfl rfl rfl rfl dx⟩
instance acr {a0:cH}{q7:Int}{c1:(List Int)}{r:Bool}:bw prog 140 (DB a0 q7 c1=some r) [.agg [ae a0.At,ae a0.b'],.cx ([ae q7]),.cx ([ak ai c1])] [none,none,none] (bh r):=⟨λh=>by unfold DB at h; exact bS.br (N:=⟨22,[]⟩) [1,2,3,4] (.eO 1 [4] (λ(kK:Bool)=>[(4,bh kK)]) .e) func140 rfl rfl rfl rfl rfl dx⟩
theorem Ui (a0:(List cH)) (q4:Int) (q5:(List Int)) (r:Int) (h:Gu a0 q4 q5=some r):bS prog 170 [ak ck a0,.cD (.func 140) [] [.cx ([ae q4]),.cx ([ak ai q5])]] [none,none] (ae r):=by
 unfold Gu at h;refine bS.go (N:=⟨19,[]⟩) func170 q q q q (W.fin ?_);refine W.st [(0,ak ck a0),(1,.cD (.func 140) [] [.cx ([ae q4]),.cx ([ak ai q5])])] ?_;refine W.bJ [0,1] ?_;refine W.bK<|W.cn [0,1,7,8] (al (O.aT .z2)<|al O.kF<|al (O.aT .bX)<|bD q) ?_;refine W.b_<|aL h λx2 ah h=>W.gl 0 (λ(s1:Int)=>[(8,ae s1)]) [0,1,7,8] 0 (λ(a8:Unit)=>[]) [] (λ(bg:Int)=>[(4,ae bg)]) [4] ah (λs1 o h=>?_) (λa8 J=>?_) (λbg J=>?_)
 ·clear ah;refine W.bJ [0,1,7,8,9] ?_;refine W.bK<|W.bY h q (λr_ h=>?_) (λr_ h=>?_)
  ·refine W.cR<|ay.bG<|W.bK<|W.b_<|W.bJ [0,1,5,7,8] ?_;refine aL h λbz kz h=>aL h λbq kA h=>W.cn [0,1,5,7,8,16] (al (O.aT (.cD q))<|al (O.aT .z2)<|cN q<|al (O.gV kz)<|al (O.n' (cs':=[ae bz.At,ae bz.b']) .nJ Bt q q)<|e6 (cp.gc (.cD q) (.cr (.dI q q) .nil) (bw.go kA) call140 q)<|bD q) ?_;refine W.bY h q (λxh h=>?_) (λxh h=>?_)
   ·refine W.bJ [4] ?_;exact W.rt<|ay.lP<|ay.gC<|aV h ▸ ay.jy (.n q .nil)
   ·refine W.cR<|ay.b_<|ay.bG<|W.b0 [0,1,7,8] (al (O.add .aZ .bX)<|aA.b0 [0,1,7,18] q<|aA.br) ?_;exact aV h ▸ ay.gt
  ·exact W.fw<|ay.fm<|aV h ▸ ay.x2 .nil
 ·subst J;refine ay.fA<|ay.bG<|W.bJ [4] ?_;exact W.rt<|aV h ▸ mH
 ·subst J;exact ay.lP<|ay.gC<|aV h ▸ mH
theorem Ue (a0:(List cH)) (q4:Int) (q5:(List Int)) (r:Bool) (h:Gt a0 q4 q5=some r):bS prog 139 [ak ck a0,.cD (.func 140) [] [.cx ([ae q4]),.cx ([ak ai q5])]] [none,none] (bh r):=by
 unfold Gt at h;refine bS.go (N:=⟨9,[]⟩) func139 q q q q (W.fin ?_);refine W.st [(0,ak ck a0),(1,.cD (.func 140) [] [.cx ([ae q4]),.cx ([ak ai q5])])] ?_;refine W.bJ [0,1] ?_;refine aL h λaR gJ h=>W.cn [4] (al (O.aT .z2)<|al (O.aT (.cD q))<|e6 (cp.ev (.cr (.bl q) (.cr (.cD q) .nil)) (Ui a0 q4 q5 _ gJ))<|aA.br) ?_;exact W.rt<|aV h ▸ mH
theorem Ub (a0:(List Int)) (aw:(List cH)) (a2:Int) (r:Bool) (h:x9 a0 aw a2=some r):bS prog 112 [ak ai a0,ak ck aw,ae a2] [none,none,none] (bh r):=by
 unfold x9 at h;refine bS.go (N:=⟨11,[]⟩) func112 q q q q (W.fin ?_);refine W.st [(0,ak ai a0),(1,ak ck aw),(2,ae a2)] ?_;refine W.cn [1,3,5] (al (O.box .z2 q)<|al (O.box .aZ q)<|aA.br) ?_;refine aL h λaR gJ h=>W.cn [6] (al (O.aT .z2)<|al (O.Ac q)<|e6 (cp.my (ys:=[ak ck aw,.cD (.func 140) [] [.ptr ⟨5,[]⟩ 0,.ptr ⟨3,[]⟩ 0]]) q (.s (.c (View.cl (.c (View.kT q q) (.c (View.kT q q) .nil))) .nil)) (Ue aw a2 a0 _ gJ))<|aA.br) ?_;exact W.rt<|aV h ▸ mH
instance ab_ {a0:(List Int)}{aw:(List cH)}{a2:Int}{r:Bool}:bw prog 112 (x9 a0 aw a2=some r) [ak ai a0,ak ck aw,ae a2] [none,none,none] (bh r):=⟨Ub a0 aw a2 _⟩
theorem Uz (a0:(List (List cH))) (r:h6) (h:AO a0=some r):bS prog 87 [ak (bC ck) a0] [none] (.agg (vi.cells r)):=by
 unfold AO at h;refine bS.go (N:=⟨111,[]⟩) func87 q q q q (W.fin ?_);refine W.st [(0,ak (bC ck) a0)] ?_;refine W.cn [1,2] (al (O.box .z2 q)<|al (O.dB (cs:=[.aS,.aS,.aS]) Ev q q)<|bD q) ?_;refine W.bK<|aL h λaR gJ h=>W.cn [1,2,13] (al (O.qE (y:=ak (bC ck) a0) q .z4 BI q q)<|e6 (cp.ev (.cr (.bl q) .nil) (bw.go gJ))<|aA.br) ?_;refine W.bY h q (λhS h=>?_) (λhS h=>?_)
 ·refine W.cn [2] (al (O.eb (cs:=[.aS,.aS,.aS]) QZ Ev q q q)<|aA.dJ (bj.fu [2])<|bD q) ?_;refine W.dN (G1:=[(2,.obj [aD ai ([]:List Int),aD ai ([]:List Int),aD ai ([]:List Int)])]) [2] (.z q q (fK.obj (.o (.o (.o .nil)))) .nil) ?_;exact W.rt<|ay.gC<|aV h ▸ jD (.c (ys0:=[.a6 ai.z ⟨2,[0]⟩ ([]:List Int).length,.a6 ai.z ⟨2,[1]⟩ ([]:List Int).length,.a6 ai.z ⟨2,[2]⟩ ([]:List Int).length]) q E3 q q q (.o q (.o q (.o q .nil))) .nil)
 ·refine W.cR<|ay.bG<|aL h λa8 hl h=>W.cn [1,2,3] (al (O.qE (y:=ak (bC ck) a0) q .z4 BI q q)<|al O.kF<|al (O.mk (en:=ai) (z0:=0) gx .aZ .aZ RP q q hl MX q)<|al (O.eb (cs:=[.a6 ai.z ⟨17,[]⟩ a8.length,.aS,.aS]) QZ Ev q q q)<|al (O.dB (cs:=[.aS,.aS,.aS]) Ev q q)<|aA.jn (G2:=[(1,.obj [ak (bC ck) a0]),(2,.obj [.aS,.aS,.aS]),(3,.obj [aD ai a8,aD ai ([]:List Int),aD ai ([]:List Int)])]) q (bj.tv (y':=.agg [aD ai a8,aD ai ([]:List Int),aD ai ([]:List Int)]) (cs2:=[aD ai a8,aD ai ([]:List Int),aD ai ([]:List Int)]) q q (.obj q) (.dI q q) (.nP (.r q (.f (.f .nil))) .nil) (fK.agg (.f (.o (.o .nil)))) q LQ q q q q q (.n q q (.n q q (.b q .nil))))<|bD q) ?_;refine W.bJ [1,2,3,4] ?_;refine W.bK<|W.cn [1,2,3,4,20,21] (al (O.qE (y:=ak (bC ck) a0) q .z4 BI q q)<|al O.kF<|al (O.aT .bX)<|bD q) ?_;refine W.b_<|aL h λb1 ah h=>W.hD (([]:List Int),0) (λ(da:List Int × Int)=>[(4,aD ai da.1),(21,ae da.2)]) [1,2,3,4,20,21] 0 (λ(b1:List Int)=>[(4,aD ai b1)]) [1,2,3,4] ah (λda o h=>?_) ?_
  ·clear ah;refine W.bJ [1,2,3,4,20,21,22] ?_;refine W.bK<|W.bY h q (λxg h=>?_) (λxg h=>?_)
   ·refine W.cR<|ay.bG<|W.bK<|aL h λea ag h=>W.eZ [1,2,3,4,20,21] [(4,aD ai ea)] ?_ ?_
    ·clear h; have h:=ag; clear ag;refine W.b_<|W.bJ [1,2,3,4,5,20,21] ?_;refine aL h λcC pT h=>W.bJ [1,2,3,4,5,20,21,29] ?_;refine aL h λjO ag h=>W.eZ [1,2,3,4,20,21] [(4,aD ai jO)] ?_ ?_
     ·clear h; have h:=ag; clear ag;refine W.bY h q (λnV h=>?_) (λnV h=>?_)
      ·refine aL h λeH sm h=>W.b0 [1,2,3,4,20,21] (al (O.aT .z3)<|cN q<|aA.fe (x:=ak ai [da.2]) (O.dg (ys:=[ae da.2]) ai [da.2] gx q q q q q q mC q q) q q .none<|al (O.ap (en:=ai) (r:=eH) .c3 q .z2 .i qh q sm)<|aA.ca (bj.wQ [1,2,3,20,21])<|bD q) ?_;exact aV h ▸ ay.dn
      ·exact W.cR<|aV h ▸ ay.dn
     exact ay.b_<|aV h ▸ ay.dn
    refine ay.bG<|W.b0 [1,2,3,4,20,21] (al (O.add .aZ .bX)<|aA.b0 [1,2,3,4,20,34] q<|aA.br) ?_;exact aV h ▸ ay.gt
   ·exact W.fw<|ay.fm<|aV h ▸ ay.t1
  refine ay.fA<|ay.bG<|aL h λcw uq h=>W.cn [1,2,3,4] (al (O.aT .z3)<|al (O.Ac q)<|aA.jn q (bj.call q q (k1.jw (en:=ai) (L:=b1) (L':=cw) (G2:=[(1,.obj [ak (bC ck) a0]),(2,.obj [.aS,.aS,.aS]),(3,.obj [aD ai a8,aD ai ([]:List Int),aD ai ([]:List Int)])]) (ys:=[.cD (.func 110) [] [.ptr ⟨1,[]⟩ 0]]) (args:=[.cD (.func 110) [] [.cx ([ak (bC ck) a0])]]) q q q q (.c (View.cl (.c (View.kT q q) .nil)) .nil) (aaE call110 uq (λa b v h=>bw.go h)) call109 (oi q q q) q q (oi q q q) q))<|bD q) ?_;refine W.bK<|W.rs [(1,_),(2,_),(3,_),(4,_),(38,.a6 ai.z ⟨4,[]⟩ cw.length),(39,_),(40,_)] (al (O.aT .z3)<|al (O.kB .c3 gx)<|al (O.aT .bX)<|kg (.n q (.n q (.n q (.n q (.r q (cW.a6 (en:=ai) q) iz (l8 q q))))))) ?_;refine W.b_<|aL h λcL ah h=>W.c7 (G1:=[(1,_),(2,_),(3,_),(4,_),(38,.a6 ai.z ⟨4,[]⟩ cw.length),(39,_),(40,_)]) (.n q (.n q (.n q (.n q (.r q (cW.a6 (en:=ai) q) iz (l8 q q)))))) ?_;refine W.Aa (s:=((⟨a8,([]:List Int),([]:List Int)⟩:h6),0)) (λ(eu:h6 × Int)=>[(1,.obj [ak (bC ck) a0]),(2,.obj [.aS,.aS,.aS]),(3,.obj (vi.cells eu.1)),(4,aD ai cw),(38,.a6 ai.z ⟨4,[]⟩ cw.length),(39,ae (cw.length:Int)),(40,ae eu.2)]) 2 (λ(cL:h6)=>[(2,.obj [.aS,.aS,.aS]),(3,.obj (vi.cells cL))]) ah (λeu o h=>?_) ?_
  ·clear ah;refine W.rs [(1,_),(2,_),(3,_),(4,_),(38,.a6 ai.z ⟨4,[]⟩ cw.length),(39,_),(40,_),(41,_)] (al (O.lss .aZ .aZ)<|kg (.n q (.n q (.n q (.n q (.r q (cW.a6 (en:=ai) q) iz (oi q q q))))))) ?_;refine W.bK<|W.bY h q (λrf h=>?_) (λrf h=>?_)
   ·refine W.cR<|ay.bG<|W.bK<|W.b_<|aL h λdP nA h=>W.rs [(1,_),(2,_),(3,_),(4,_),(7,_),(38,.a6 ai.z ⟨4,[]⟩ cw.length),(39,_),(40,_)] (al (O.gL (en:=ai) q .c3 .aZ gx nA q)<|al (O.jP (en:=ai) (x':=ae dP) q .z5 qk nA q q)<|HQ q<|kg (.n q (.n q (.n q (.n q (.n q (.r q (cW.a6 (en:=ai) q) iz (l8 q q)))))))) ?_;refine W.bK<|W.b_<|aL h λeQ ah h=>W.c7 (G1:=[(1,_),(2,_),(3,_),(4,_),(7,_),(38,.a6 ai.z ⟨4,[]⟩ cw.length),(39,_),(40,_)]) (.n q (.n q (.n q (.n q (.n q (.r q (cW.a6 (en:=ai) q) iz (l8 q q))))))) ?_;refine W.Aa (s:=eu.1.cZ) (λ(dk:List Int)=>[(1,.obj [ak (bC ck) a0]),(2,.obj [.aS,.aS,.aS]),(3,.obj [aD ai dk,aD ai eu.1.b',aD ai eu.1.b8]),(4,aD ai cw),(7,ae dP),(38,.a6 ai.z ⟨4,[]⟩ cw.length),(39,ae (cw.length:Int)),(40,ae eu.2)]) 4 (λ(eQ:List Int)=>[(1,.obj [ak (bC ck) a0]),(2,.obj [.aS,.aS,.aS]),(3,.obj [aD ai eQ,aD ai eu.1.b',aD ai eu.1.b8]),(4,aD ai cw),(7,ae dP),(38,.a6 ai.z ⟨4,[]⟩ cw.length),(39,ae (cw.length:Int)),(40,ae eu.2)]) ah (λdk o h=>?_) ?_
    ·clear ah;refine W.bK<|W.bK<|aL h λiC FN h=>aL h λf_ xE h=>aL h λhf sn h=>W.rd [[],[0],[],[],[2,3],[2,3,4],[],[6],[],[6,7,8],[6,7,8,9],aF 0 11 [],aF 0 12 []] [(1,_),(2,_),(3,_),(4,_),(7,_),(38,.a6 ai.z ⟨4,[]⟩ cw.length),(39,_),(40,_),(56,_)] e0 (by kernel_rfl) (ax 0 O.bF<|ax 1 (O.cM (y:=.a6 ai.z ⟨3,[2]⟩ eu.1.b8.length))<|ax 2 (O.qE (y:=ak (bC ck) a0) q .z4 BI q q)<|ax 3 (O.aT (.lit q))<|ax 4 (O.gV FN)<|ax 5 (O.h5 (x:=ak ck iC))<|ax 6 O.bF<|ax 7 (O.cM (y:=.a6 ai.z ⟨3,[0]⟩ dk.length))<|ax 8 (O.aT (.lit q))<|ax 9 (O.gL (en:=ai) q .c3 .aZ gx xE q)<|ax 10 (O.jP (en:=ai) (x':=ae f_) q .z5 qk xE q q)<|kf 11 (cp.my (ys:=[.a6 ai.z ⟨3,[2]⟩ eu.1.b8.length,ak ck iC,ae f_]) q (.c (.row q) (.s (.s .nil))) (bw.go sn))<|ax 12 (O.not .aZ)<|bx.fin q q q (.n q (.n q (.n q (.n q (.n q (.r q (cW.a6 (en:=ai) q) iz (oi q q q)))))))) ?_;refine ay.bG<|W.bY h q (λjM h=>?_) (λjM h=>?_)
     ·refine W.cR<|ay.bG<|W.b_<|aL h λjW td h=>W.rx [(1,_),(2,_),(3,_),(4,_),(7,_),(38,.a6 ai.z ⟨4,[]⟩ cw.length),(39,_),(40,_)] (al O.bF<|al (O.cM (y:=.a6 ai.z ⟨3,[0]⟩ dk.length))<|cN q<|al (O.gL (en:=ai) q .c3 .aZ gx td q)<|al (O.jP (en:=ai) (x':=ae jW) q .z5 qk td q q)<|al (O.add .aZ .bX)<|al (O.gL (en:=ai) q .c3 .aZ gx td q)<|aA.jn (G2:=[(1,.obj [ak (bC ck) a0]),(2,.obj [.aS,.aS,.aS]),(3,.obj [aD ai (dk.set dP.toNat (aG (jW+1))),aD ai eu.1.b',aD ai eu.1.b8]),(4,aD ai cw),(7,ae dP),(38,.a6 ai.z ⟨4,[]⟩ cw.length),(39,ae (cw.length:Int)),(40,ae eu.2)]) q (bj.uX (en:=ai) (y2:=aG (jW+1)) (cs':=[ae (aG (jW+1))]) (x2:=.obj [aD ai (dk.set dP.toNat (aG (jW+1))),aD ai eu.1.b',aD ai eu.1.b8]) q q (.ptr q) (.lit q) q td tw q q q q q q q (.n q q (.n q q (.b q (.n q q (.n q q (.w (en:=ai) q q q q (.n q q (.n q q .nil)))))))))<|kg (.n q (.n q (.n q (.n q (.n q (.r q (cW.a6 (en:=ai) q) iz (l8 q q)))))))) ?_;exact ay.b_<|aV h ▸ ay.go (.n q (.n q (.n q (.n q (.n q (.r q (cW.a6 (en:=ai) q) iz (l8 q q)))))))
     ·exact W.fw<|ay.fm<|aV h ▸ ay.aR (.n q (.n q (.n q (.n q (.n q (.r q (cW.a6 (en:=ai) q) iz (l8 q q)))))))
    refine ay.fA<|ay.bG<|aL h λff ur h=>W.rs [(1,_),(2,_),(3,_),(4,_),(7,_),(38,.a6 ai.z ⟨4,[]⟩ cw.length),(39,_),(40,_),(67,_),(68,_),(69,_)] (al (O.qE (y:=ak (bC ck) a0) q .z4 BI q q)<|cN q<|al (O.gV ur)<|al (O.h5 (x:=ak ck ff))<|al O.kF<|al (O.aT .bX)<|kg (.n q (.n q (.n q (.n q (.n q (.r q (cW.a6 (en:=ai) q) iz (mw q q q q q)))))))) ?_;refine W.b_<|aL h λeg ah h=>W.c7 (G1:=[(1,_),(2,_),(3,_),(4,_),(7,_),(38,.a6 ai.z ⟨4,[]⟩ cw.length),(39,_),(40,_),(67,_),(68,_),(69,_)]) (.n q (.n q (.n q (.n q (.n q (.r q (cW.a6 (en:=ai) q) iz (mw q q q q q))))))) ?_;refine W.Aa (s:=(eu.1.b',eu.1.b8,0)) (λ(kU:List Int × List Int × Int)=>[(1,.obj [ak (bC ck) a0]),(2,.obj [.aS,.aS,.aS]),(3,.obj [aD ai eQ,aD ai kU.1,aD ai kU.2.1]),(4,aD ai cw),(7,ae dP),(38,.a6 ai.z ⟨4,[]⟩ cw.length),(39,ae (cw.length:Int)),(40,ae eu.2),(67,ak ck ff),(68,ae (ff.length:Int)),(69,ae kU.2.2)]) 6 (λ(eg:List Int × List Int)=>[(1,.obj [ak (bC ck) a0]),(2,.obj [.aS,.aS,.aS]),(3,.obj [aD ai eQ,aD ai eg.1,aD ai eg.2]),(4,aD ai cw),(38,.a6 ai.z ⟨4,[]⟩ cw.length),(39,ae (cw.length:Int)),(40,ae eu.2)]) ah (λkU o h=>?_) ?_
    ·clear ah;refine W.rs [(1,_),(2,_),(3,_),(4,_),(7,_),(38,.a6 ai.z ⟨4,[]⟩ cw.length),(39,_),(40,_),(67,_),(68,_),(69,_),(70,_)] (al (O.lss .aZ .aZ)<|kg (.n q (.n q (.n q (.n q (.n q (.r q (cW.a6 (en:=ai) q) iz (rQ q q q q q q)))))))) ?_;refine W.bK<|W.bY h q (λjN h=>?_) (λjN h=>?_)
     ·refine W.cR<|ay.bG<|W.bK<|W.b_<|aL h λdb CT h=>W.rs [(1,_),(2,_),(3,_),(4,_),(7,_),(9,_),(38,.a6 ai.z ⟨4,[]⟩ cw.length),(39,_),(40,_),(67,_),(68,_),(69,_)] (al (O.gV CT)<|al (O.n' (cs':=[ae db.At,ae db.b']) .nJ Bt q q)<|al (O.dB (cs:=[ae 0,ae 0]) L_ q q)<|aA.ke (G2:=[(1,_),(2,_),(3,_),(4,_),(7,_),(9,_),(38,.a6 ai.z ⟨4,[]⟩ cw.length),(39,_),(40,_),(67,_),(68,_),(69,_)]) (cs2:=[ae db.At,ae db.b']) q (.obj q) (.dI q q) q aaT q q q q (.n q q (.n q q (.n q q (.n q q (.n q q (.b q (.w (en:=ai) q q q q (.n q q (.n q q (.n q q (.n q q (.n q q .nil))))))))))))<|kg (.n q (.n q (.n q (.n q (.n q (.n q (.r q (cW.a6 (en:=ai) q) iz (mw q q q q q))))))))) ?_;refine W.bK<|aL h λhg vO h=>W.rd [[],[0],[],[0,1,2],[0,1,2,3],[],[5],aF 0 7 [],aF 0 8 []] [(1,_),(2,_),(3,_),(4,_),(7,_),(9,_),(10,_),(38,.a6 ai.z ⟨4,[]⟩ cw.length),(39,_),(40,_),(67,_),(68,_),(69,_)] e0 (by kernel_rfl) (ax 0 O.bF<|ax 1 (O.cM (y:=.a6 ai.z ⟨3,[0]⟩ eQ.length))<|ax 2 (O.aT (.lit q))<|ax 3 (O.gL (en:=ai) q .c3 .aZ gx vO q)<|ax 4 (O.jP (en:=ai) (x':=ae hg) q .z5 qk vO q q)<|ax 5 O.bF<|ax 6 O.dc<|ax 7 (O.add .aZ .aZ)<|ax 8 (O.az (.lit q))<|bx.fin q q q (.n q (.n q (.n q (.n q (.n q (.n q (.n q (.r q (cW.a6 (en:=ai) q) iz (mw q q q q q)))))))))) ?_;refine ay.bG<|W.bK<|W.b_<|aL h λfv ah h=>W.c7 (G1:=[(1,_),(2,_),(3,_),(4,_),(7,_),(9,_),(10,_),(38,.a6 ai.z ⟨4,[]⟩ cw.length),(39,_),(40,_),(67,_),(68,_),(69,_)]) (.n q (.n q (.n q (.n q (.n q (.n q (.n q (.r q (cW.a6 (en:=ai) q) iz (mw q q q q q))))))))) ?_;refine W.Aa (s:=(kU.1,kU.2.1)) (λ(ho:List Int × List Int)=>[(1,.obj [ak (bC ck) a0]),(2,.obj [.aS,.aS,.aS]),(3,.obj [aD ai eQ,aD ai ho.1,aD ai ho.2]),(4,aD ai cw),(7,ae dP),(9,.obj [ae db.At,ae db.b']),(10,ae (aG (hg+db.At))),(38,.a6 ai.z ⟨4,[]⟩ cw.length),(39,ae (cw.length:Int)),(40,ae eu.2),(67,ak ck ff),(68,ae (ff.length:Int)),(69,ae kU.2.2)]) 8 (λ(fv:List Int × List Int)=>[(1,.obj [ak (bC ck) a0]),(2,.obj [.aS,.aS,.aS]),(3,.obj [aD ai eQ,aD ai fv.1,aD ai fv.2]),(4,aD ai cw),(7,ae dP),(9,.obj [ae db.At,ae db.b']),(10,ae (aG (hg+db.At))),(38,.a6 ai.z ⟨4,[]⟩ cw.length),(39,ae (cw.length:Int)),(40,ae eu.2),(67,ak ck ff),(68,ae (ff.length:Int)),(69,ae kU.2.2)]) ah (λho o h=>?_) ?_
      ·clear ah;refine W.bK<|W.rs [(1,_),(2,_),(3,_),(4,_),(7,_),(9,_),(10,_),(38,.a6 ai.z ⟨4,[]⟩ cw.length),(39,_),(40,_),(67,_),(68,_),(69,_),(85,_)] (al O.bF<|al (O.cM (y:=.a6 ai.z ⟨3,[2]⟩ ho.2.length))<|al (O.kB .c3 gx)<|cN q<|al (O.leq .aZ .aZ)<|kg (.n q (.n q (.n q (.n q (.n q (.n q (.n q (.r q (cW.a6 (en:=ai) q) iz (rQ q q q q q q)))))))))) ?_;refine W.bY h q (λvt h=>?_) (λvt h=>?_)
       ·refine W.cR<|ay.bG<|W.b_<|aL h λgO CU h=>aL h λkV vP h=>W.rd [[],[0],[],[0,1,2],[],[4],[],aF 0 7 [],aF 0 6 [],aF 0 9 [],aF 0 10 [],aF 0 11 []] [(1,_),(2,_),(3,_),(4,_),(7,_),(9,_),(10,_),(38,.a6 ai.z ⟨4,[]⟩ cw.length),(39,_),(40,_),(67,_),(68,_),(69,_)] e0 (by kernel_rfl) (ax 0 O.bF<|ax 1 (O.cM (y:=.a6 ai.z ⟨3,[2]⟩ ho.2.length))<|bx.fe 2 (x:=ak ai [0]) (O.dg (ys:=[ae 0]) ai [0] gx q q q q q q mC q q) q q q q .none<|ax 3 (O.ap (en:=ai) (r:=gO) .c3 q .z2 .i qh q CU)<|ax 4 O.bF<|ax 5 (O.cM (y:=.a6 ai.z ⟨3,[1]⟩ ho.1.length))<|bx.fe 6 (x:=ak ai [0]) (O.dg (ys:=[ae 0]) ai [0] gx q q q q q q mC q q) q q q q .none<|ax 7 (O.EZ (en:=ai) (r:=kV) .c3 q .z2 .i qh q vP (Di (by kernel_rfl) (by kernel_rfl)))<|ax 8 O.bF<|bx.BA 9 (G2:=[(1,.obj [ak (bC ck) a0]),(2,.obj [.aS,.aS,.aS]),(3,.obj [aD ai eQ,.dead,aD ai (ho.2++[0])]),(4,aD ai cw),(7,ae dP),(9,.obj [ae db.At,ae db.b']),(10,ae (aG (hg+db.At))),(38,.a6 ai.z ⟨4,[]⟩ cw.length),(39,ae (cw.length:Int)),(40,ae eu.2),(67,ak ck ff),(68,ae (ff.length:Int)),(69,ae kU.2.2),(93,aD ai (ho.1++[0]))]) (h7.settle (ts:=[89,93]) (xs:=[.a6 ai.z ⟨89,[]⟩ (ho.2.length+[0].length),.a6 ai.z ⟨93,[]⟩ (ho.1.length+[0].length)]) (ys:=[.own ai.z (ho.2.length+[0].length) (bB ai ho.2++bB ai [0]),.own ai.z (ho.1.length+[0].length) (bB ai ho.1++bB ai [0])]) (g2:=get [(1,.obj [ak (bC ck) a0]),(2,.obj [.aS,.aS,.aS]),(3,.obj [aD ai eQ,.dead,.dead]),(4,aD ai cw),(7,ae dP),(9,.obj [ae db.At,ae db.b']),(10,ae (aG (hg+db.At))),(38,.a6 ai.z ⟨4,[]⟩ cw.length),(39,ae (cw.length:Int)),(40,ae eu.2),(67,ak ck ff),(68,ae (ff.length:Int)),(69,ae kU.2.2),(89,aD ai (ho.2++[0])),(93,aD ai (ho.1++[0])),(94,.ptr ⟨3,[]⟩ 2)]) q (eS.take (.jd q q q .jx (.jd q q q .jx .nil))) (by decide) q (EY q q) (Trim.keep (.n q (.n q (.n q (.n q (.n q (.n q (.n q (.r q (cW.a6 (en:=ai) q) iz (.n q (.n q (.n q (.n q (.n q (.e q (pZ _ _ _) (.e q (pZ _ _ _) (.q q q q .nil))))))))))))))))) (bj.jJ (bj.tv (y':=aD ai (ho.2++[0])) (cs2:=[aD ai eQ,.dead,aD ai (ho.2++[0])]) q q (.ptr q) (.own q) (.r q .nil) .refl q G_ q q q q q (.n q q (.n q q (.b q (.n q q (.n q q (.n q q (.n q q (.w (en:=ai) q q q q (.n q q (.n q q (.n q q (.n q q (.n q q (.n q q .nil))))))))))))))))) q q (by kernel_rfl) q q (by kernel_rfl)<|ax 10 O.bF<|bx.gZ 11 (G2:=[(1,.obj [ak (bC ck) a0]),(2,.obj [.aS,.aS,.aS]),(3,.obj [aD ai eQ,aD ai (ho.1++[0]),aD ai (ho.2++[0])]),(4,aD ai cw),(7,ae dP),(9,.obj [ae db.At,ae db.b']),(10,ae (aG (hg+db.At))),(38,.a6 ai.z ⟨4,[]⟩ cw.length),(39,ae (cw.length:Int)),(40,ae eu.2),(67,ak ck ff),(68,ae (ff.length:Int)),(69,ae kU.2.2)]) (bj.tv (y':=aD ai (ho.1++[0])) (cs2:=[aD ai eQ,aD ai (ho.1++[0]),aD ai (ho.2++[0])]) q q (.ptr q) (.own q) (.r q .nil) .refl q G_ q q q q q (.n q q (.n q q (.b q (.n q q (.n q q (.n q q (.n q q (.w (en:=ai) q q q q (.n q q (.n q q (.n q q (.n q q (.n q q .nil))))))))))))))<|bx.fin q q q (.n q (.n q (.n q (.n q (.n q (.n q (.n q (.r q (cW.a6 (en:=ai) q) iz (mw q q q q q)))))))))) ?_;exact ay.b_<|aV h ▸ ay.go (.n q (.n q (.n q (.n q (.n q (.n q (.n q (.r q (cW.a6 (en:=ai) q) iz (mw q q q q q)))))))))
       ·exact W.fw<|ay.fm<|aV h ▸ ay.aR (.n q (.n q (.n q (.n q (.n q (.n q (.n q (.r q (cW.a6 (en:=ai) q) iz (mw q q q q q)))))))))
      refine ay.fA<|ay.bG<|aL h λwz xG h=>aL h λHv Pb h=>W.rd [[],[0],[],[],[3],[],[],[6],[],[8],[0,1,2,6,7],[0,1,2,6,7,10],aF 0 12 [],aF 0 13 []] [(1,_),(2,_),(3,_),(4,_),(7,_),(38,.a6 ai.z ⟨4,[]⟩ cw.length),(39,_),(40,_),(67,_),(68,_),(69,_)] e0 (by kernel_rfl) (ax 0 O.bF<|ax 1 (O.cM (y:=.a6 ai.z ⟨3,[2]⟩ fv.2.length))<|ax 2 (O.aT (.lit q))<|ax 3 O.bF<|ax 4 (O.cM (y:=.a6 ai.z ⟨3,[1]⟩ fv.1.length))<|ax 5 (O.aT (.lit q))<|ax 6 (O.aT (.lit q))<|ax 7 (O.add .aZ .bX)<|ax 8 O.bF<|ax 9 O.dc<|ax 10 (O.gL (en:=ai) q .c3 .aZ gx xG q)<|bx.M5 11 (G2:=[(1,.obj [ak (bC ck) a0]),(2,.obj [.aS,.aS,.aS]),(3,.obj [aD ai eQ,aD ai fv.1,aD ai (fv.2.set (aG (hg+db.At)).toNat (aG (dP+1)))]),(4,aD ai cw),(7,ae dP),(9,.obj [ae db.At,ae db.b']),(10,ae (aG (hg+db.At))),(38,.a6 ai.z ⟨4,[]⟩ cw.length),(39,ae (cw.length:Int)),(40,ae eu.2),(67,ak ck ff),(68,ae (ff.length:Int)),(69,ae kU.2.2)]) (U:=[(9,105,some (ae db.b')),(8,104,some (.ptr ⟨9,[]⟩ 1)),(5,101,some (ae (aG (hg+db.At)))),(4,100,some (.a6 ai.z ⟨3,[1]⟩ fv.1.length)),(3,99,some (.ptr ⟨3,[]⟩ 1))]) (ps:=[⟨3,[1]⟩]) (h7.cell (r:=3) (k0:=1) (y:=aD ai fv.1) (g5:=get [(1,.obj [ak (bC ck) a0]),(2,.obj [.aS,.aS,.aS]),(3,.obj [aD ai eQ,aD ai fv.1,aD ai (fv.2.set (aG (hg+db.At)).toNat (aG (dP+1)))]),(4,aD ai cw),(7,ae dP),(9,.obj [ae db.At,ae db.b']),(10,ae (aG (hg+db.At))),(38,.a6 ai.z ⟨4,[]⟩ cw.length),(39,ae (cw.length:Int)),(40,ae eu.2),(67,ak ck ff),(68,ae (ff.length:Int)),(69,ae kU.2.2)]) q q b6.bn (λv _=>⟨get [(1,.obj [ak (bC ck) a0]),(2,.obj [.aS,.aS,.aS]),(3,.obj [aD ai eQ,.lit v,aD ai fv.2]),(4,aD ai cw),(7,ae dP),(9,.obj [ae db.At,ae db.b']),(10,ae (aG (hg+db.At))),(38,.a6 ai.z ⟨4,[]⟩ cw.length),(39,ae (cw.length:Int)),(40,ae eu.2),(67,ak ck ff),(68,ae (ff.length:Int)),(69,ae kU.2.2),(103,ae (aG (dP+1))),(106,.ptr ⟨3,[2]⟩ ((aG (hg+db.At)).toNat * ai.z+0))],get [(1,.obj [ak (bC ck) a0]),(2,.obj [.aS,.aS,.aS]),(3,.obj [aD ai eQ,.lit v,aD ai (fv.2.set (aG (hg+db.At)).toNat (aG (dP+1)))]),(4,aD ai cw),(7,ae dP),(9,.obj [ae db.At,ae db.b']),(10,ae (aG (hg+db.At))),(38,.a6 ai.z ⟨4,[]⟩ cw.length),(39,ae (cw.length:Int)),(40,ae eu.2),(67,ak ck ff),(68,ae (ff.length:Int)),(69,ae kU.2.2)],Trim.keep (.n q (.n q (.n q (.n q (.n q (.n q (.n q (.r q (cW.a6 (en:=ai) q) iz (.n q (.n q (.n q (.n q (.n q (.n q (.r q (cW.el (en:=ai) q xG q) jS .nil))))))))))))))),bj.jJ (bj.uX (en:=ai) (y2:=aG (dP+1)) (cs':=[ae (aG (dP+1))]) (x2:=.obj [aD ai eQ,.lit v,aD ai (fv.2.set (aG (hg+db.At)).toNat (aG (dP+1)))]) q q (.ptr q) (.lit q) q xG tw q q q q q q q (.n q q (.n q q (.b q (.n q q (.n q q (.n q q (.n q q (.w (en:=ai) q q q q (.n q q (.n q q (.n q q (.n q q (.n q q .nil)))))))))))))),q,Trim.keep (.n q (.n q (.n q (.n q (.n q (.n q (.n q (.r q (cW.a6 (en:=ai) q) iz (mw q q q q q)))))))))⟩)) q q (by kernel_rfl) q q q (.c (.inr (.inl ⟨_,q⟩)) q q q q q (eI.wanted .none) (O.ph q .z5 qk q) (.c (.inr (.inr (.inr (.inl ⟨9,_,_,q,q,gT q,by simp,_,q,gT q⟩)))) q q q q q (eI.wanted .none) (O.nt q .z4 U_ q) (.c (.inr (.inl ⟨_,q⟩)) q q q q q (eI.wanted .none) (O.aT (.lit q)) (.c (.inl ⟨3,[1],_,_,_,_,q,by simp,q,q,Nat.le_refl _⟩) q q q q q (eI.wanted .none) (O.qE (y:=.a6 ai.z ⟨3,[1]⟩ fv.1.length) q .z5 Iw q q) (.c (.inr (.inr (.inr (.inl ⟨3,_,_,q,q,gT q,by simp,_,q,gT q⟩)))) q q q q q (eI.wanted .none) (O.nt q .z4 Vd q) .nil))))) (by kernel_rfl)<|ax 12 (O.gL (en:=ai) q .c3 .aZ gx Pb q)<|bx.gZ 13 (G2:=[(1,.obj [ak (bC ck) a0]),(2,.obj [.aS,.aS,.aS]),(3,.obj [aD ai eQ,aD ai (fv.1.set (aG (hg+db.At)).toNat db.b'),aD ai (fv.2.set (aG (hg+db.At)).toNat (aG (dP+1)))]),(4,aD ai cw),(7,ae dP),(38,.a6 ai.z ⟨4,[]⟩ cw.length),(39,ae (cw.length:Int)),(40,ae eu.2),(67,ak ck ff),(68,ae (ff.length:Int)),(69,ae kU.2.2)]) (bj.uX (en:=ai) (y2:=db.b') (cs':=[ae db.b']) (x2:=.obj [aD ai eQ,aD ai (fv.1.set (aG (hg+db.At)).toNat db.b'),aD ai (fv.2.set (aG (hg+db.At)).toNat (aG (dP+1)))]) q q (.ptr q) (.lit q) q Pb tw q q q q q q q (.n q q (.n q q (.b q (.n q q (.n q q (.w (en:=ai) q q q q (.n q q (.n q q (.n q q (.n q q (.n q q .nil))))))))))))<|bx.fin q q q (.n q (.n q (.n q (.n q (.n q (.r q (cW.a6 (en:=ai) q) iz (mw q q q q q)))))))) ?_;refine ay.b_<|ay.bG<|W.rx [(1,_),(2,_),(3,_),(4,_),(7,_),(38,.a6 ai.z ⟨4,[]⟩ cw.length),(39,_),(40,_),(67,_),(68,_),(69,_)] (al (O.add .aZ .bX)<|aA.GK (G1:=[(1,_),(2,_),(3,_),(4,_),(7,_),(38,.a6 ai.z ⟨4,[]⟩ cw.length),(39,_),(40,_),(67,_),(68,_),(108,_)]) (.n q (.n q (.n q (.n q (.n q (.r q (cW.a6 (en:=ai) q) iz (mw q q q q q)))))))<|cN q<|kg (.n q (.n q (.n q (.n q (.n q (.r q (cW.a6 (en:=ai) q) iz (mw q q q q q)))))))) ?_;exact aV h ▸ ay.go (.n q (.n q (.n q (.n q (.n q (.r q (cW.a6 (en:=ai) q) iz (mw q q q q q)))))))
     ·exact W.fw<|ay.fm<|aV h ▸ ay.aR (.n q (.n q (.n q (.n q (.r q (cW.a6 (en:=ai) q) iz (l8 q q))))))
    refine ay.fA<|ay.b_<|ay.bG<|W.rx [(1,_),(2,_),(3,_),(4,_),(38,.a6 ai.z ⟨4,[]⟩ cw.length),(39,_),(40,_)] (al (O.add .aZ .bX)<|aA.GK (G1:=[(1,_),(2,_),(3,_),(4,_),(38,.a6 ai.z ⟨4,[]⟩ cw.length),(39,_),(109,_)]) (.n q (.n q (.n q (.n q (.r q (cW.a6 (en:=ai) q) iz (l8 q q))))))<|cN q<|kg (.n q (.n q (.n q (.n q (.r q (cW.a6 (en:=ai) q) iz (l8 q q))))))) ?_;exact aV h ▸ ay.go (.n q (.n q (.n q (.n q (.r q (cW.a6 (en:=ai) q) iz (l8 q q))))))
   ·exact W.fw<|ay.fm<|aV h ▸ ay.t1
  refine ay.fA<|ay.bG<|W.cn [2] (al (O.ez (cs':=[.a6 ai.z ⟨3,[0]⟩ cL.cZ.length,.a6 ai.z ⟨3,[1]⟩ cL.b'.length,.a6 ai.z ⟨3,[2]⟩ cL.b8.length]) q .z4 E3 q q)<|aA.jn (G2:=[(2,.obj (vi.cells cL))]) q (bj.tv (y':=.agg (vi.cells cL)) (cs2:=vi.cells cL) q q (.obj q) (.dI q q) (.nP (.r q (.r q (.r q .nil))) .nil) (fK.agg (.f (.f (.f .nil)))) q LQ q q q q q (.b q .nil))<|bD q) ?_;exact W.rt<|aV h ▸ jD (.c (ys0:=[.a6 ai.z ⟨2,[0]⟩ cL.cZ.length,.a6 ai.z ⟨2,[1]⟩ cL.b'.length,.a6 ai.z ⟨2,[2]⟩ cL.b8.length]) q E3 q q q (.o q (.o q (.o q .nil))) .nil)
instance adC {a0:(List (List cH))}{r:h6}:bw prog 87 (AO a0=some r) [ak (bC ck) a0] [none] (.agg (vi.cells r)):=⟨Uz a0 _⟩
theorem Ur (a0:(List Row)) (r:(List Int) × h6) (h:yk a0=some r):bS prog 48 [ak pD a0] [none] (.bR [ak ai r.1,.agg (tU.cells r.2)]):=by
 unfold yk at h;refine bS.go (N:=⟨27,[]⟩) func48 q q q q (W.fin ?_);refine W.st [(0,ak pD a0)] ?_;refine W.cn [0,2,3] (al (O.az .xT)<|al (O.dB (cs:=[.aS,.aS,.aS]) Ev q q)<|bD q) ?_;refine W.bJ [0,2,3,4] ?_;refine W.bK<|W.cn [2,3,4,7,8,9] (al (O.aT .z2)<|al O.kF<|al (O.aT .bX)<|bD q) ?_;refine W.b_<|aL h λx2 ah h=>W.hD (([]:List Int),([]:List (List cH)),0) (λ(s1:List Int × List (List cH) × Int)=>[(2,aD ai s1.1),(4,aD (bC ck) s1.2.1),(9,ae s1.2.2)]) [2,3,4,7,8,9] 0 (λ(x2:List Int × List (List cH))=>[(2,aD ai x2.1),(4,aD (bC ck) x2.2)]) [2,3,4] ah (λs1 o h=>?_) ?_
 ·clear ah;refine W.bJ [2,3,4,7,8,9,10] ?_;refine W.bK<|W.bY h q (λo9 h=>?_) (λo9 h=>?_)
  ·refine W.cR<|ay.bG<|W.bK<|W.b_<|aL h λb1 n1 h=>W.cn [2,3,4,6,7,8,9] (al (O.gV n1)<|al (O.n' (cs':=[ae b1.Def,ak ck b1.hh]) .nJ Ta q q)<|al (O.dB (cs:=[ae 0,.aS]) abx q q)<|aA.dJ (bj.fu [2,3,4,6,7,8,9])<|bD q) ?_;refine W.c7 (G1:=[(2,_),(3,_),(4,_),(6,_),(7,_),(8,_),(9,_)]) (Ha q q q q q q q) ?_;refine aL h λbz kz h=>aL h λbq kA h=>W.rd [[],[],[1],[1,2],[0,1,2,3],[],[],[6],[6,7],aF 0 9 [],aF 0 10 [],aF 0 11 []] [(2,_),(3,_),(4,_),(7,_),(8,_),(9,_)] e0 (by kernel_rfl) (ax 0 (O.aT .z3)<|ax 1 O.bF<|ax 2 O.dc<|bx.fe 3 (x:=ak ai [b1.Def]) (O.dg (ys:=[ae b1.Def]) ai [b1.Def] gx q q q q q q mC q q) q q q q .none<|ax 4 (O.ap (en:=ai) (r:=bz) .c3 q .z2 .i qh q kz)<|ax 5 (O.aT .z3)<|ax 6 O.bF<|ax 7 (O.cM (y:=ak ck b1.hh))<|bx.fe 8 (x:=ak (bC ck) [b1.hh]) (O.dg (ys:=[ak ck b1.hh]) (bC ck) [b1.hh] aax q q q q q q abG q q) q q q q .none<|ax 9 (O.EZ (en:=(bC ck)) (r:=bq) .c3 q .z2 .i SK q kA (Di (by kernel_rfl) (by kernel_rfl)))<|bx.Tr 10 (G2:=[(3,.obj [.aS,.aS,.aS]),(7,ak pD a0),(8,ae (a0.length:Int)),(9,ae s1.2.2),(22,aD (bC ck) (s1.2.1++[b1.hh]))]) (h7.settle (ts:=[17,22]) (xs:=[.a6 ai.z ⟨17,[]⟩ (s1.1.length+[b1.Def].length),.a6 (bC ck).z ⟨22,[]⟩ (s1.2.1.length+[b1.hh].length)]) (ys:=[.own ai.z (s1.1.length+[b1.Def].length) (bB ai s1.1++bB ai [b1.Def]),.own (bC ck).z (s1.2.1.length+[b1.hh].length) (bB (bC ck) s1.2.1++bB (bC ck) [b1.hh])]) (g2:=get [(2,.dead),(3,.obj [.aS,.aS,.aS]),(4,.dead),(7,ak pD a0),(8,ae (a0.length:Int)),(9,ae s1.2.2),(17,aD ai (s1.1++[b1.Def])),(22,aD (bC ck) (s1.2.1++[b1.hh]))]) q (eS.take (.jd q q q .jx (.jd q q q .jx .nil))) (by decide) q (EY q q) (Trim.keep (.n q (.n q (.n q (.n q (.n q (.n q (.e q (pZ _ _ _) (.e q (pZ _ _ _) .nil))))))))) (bj.jJ (bj.EV q q (.own q) q (.n q q (.n q q (.n q q (.n q q (.n q q .nil))))) q q))) q q (by kernel_rfl) q q (by kernel_rfl)<|bx.H6 11 (bj.k5 [2,3,7,8,9])<|bx.fin q q q (rQ q q q q q q)) ?_;refine ay.b_<|ay.bG<|W.b0 [2,3,4,7,8,9] (al (O.add .aZ .bX)<|aA.b0 [2,3,4,7,8,23] q<|aA.br) ?_;exact aV h ▸ ay.gt
  ·exact W.fw<|ay.fm<|aV h ▸ ay.t1
 refine ay.fA<|ay.bG<|aL h λbM n2 h=>W.cn [2,3] (al (O.aT .z3)<|al (O.aT .z3)<|e6 (cp.my (ys:=[.a6 (bC ck).z ⟨4,[]⟩ x2.2.length]) q (.c (.row q) .nil) (bw.go n2))<|aA.ca (bj.k5 [3,26])<|aA.jn (G2:=[(2,aD ai x2.1),(3,.obj (tU.cells bM))]) q (bj.tv (y':=.agg (tU.cells bM)) (cs2:=tU.cells bM) q q (.obj q) (.agg q q) (.nP (.r q (.r q (.r q .nil))) .nil) (fK.agg (.z (.z (.z .nil)))) q LQ q q q q q (.n q q (.b q .nil)))<|bD q) ?_;refine W.dN (G1:=[(2,ak ai x2.1),(3,_)]) [2] (.z q q .kZ (.n q q .nil)) ?_;exact W.rt<|aV h ▸ jD (.f q q (.c (ys0:=tU.cells bM) q E3 q q q (.f q (.f q (.f q .nil))) .nil))
instance ade {a0:(List Row)}{r:(List Int) × h6}:bw prog 48 (yk a0=some r) [ak pD a0] [none] (.bR [ak ai r.1,.agg (tU.cells r.2)]):=⟨Ur a0 _⟩
theorem UA (a0:(List Int)) (r:Int) (h:wg a0=some r):bS prog 88 [ak ai a0] [none] (ae r):=by
 unfold wg at h;refine bS.go (N:=⟨44,[]⟩) func88 q q q q (W.fin ?_);refine W.st [(0,ak ai a0)] ?_;refine W.bJ [0] ?_;refine W.cn [0,3] (al (O.YV ti tj)<|aA.q_ (G2:=[(0,ak ai a0)]) q (bj.Br (y':=.mp (mG ti tj ([]:List (Int × Int)))) q q (.mp q) (.m q .nil) .refl (.n q .nil) q q)<|bD q) ?_;refine W.bJ [0,3,4] ?_;refine W.bK<|W.cn [3,4,9,10,11] (al (O.aT .z2)<|al O.kF<|al (O.aT .bX)<|bD q) ?_;refine W.b_<|aL h λx2 ah h=>W.hD (([]:List (Int × Int)),(-1),0) (λ(s1:(List (Int × Int)) × Int × Int)=>[(3,.mp (mG ti tj s1.1)),(4,ae s1.2.1),(11,ae s1.2.2)]) [3,4,9,10,11] 0 (λ(x2:Int)=>[(4,ae x2)]) [4] ah (λs1 o h=>?_) ?_
 ·clear ah;refine W.bJ [3,4,9,10,11,12] ?_;refine W.bK<|W.bY h q (λo9 h=>?_) (λo9 h=>?_)
  ·refine W.cR<|ay.bG<|W.bK<|aL h λiy ag h=>W.eZ [3,4,9,10,11] [(3,.mp (mG ti tj iy.1)),(4,ae iy.2)] ?_ ?_
   ·clear h; have h:=ag; clear ag;refine W.b_<|aL h λbz kz h=>W.bJ [3,4,6,9,10,11] ?_;refine aL h λbq kA h=>aL h λbM n2 h=>W.cn [3,4,6,9,10,11] (al (O.aT (.mp q))<|cN q<|al (O.rz (K:=ti) (V:=tj) (m:=s1.1) (x:=bz) (Y:=ae bz) (X:=ae bq) (.gm q) q .aZ q Hb kA q)<|al (O.add .aZ .bX)<|aA.jn (G2:=[(3,.mp (mG ti tj bM)),(4,ae s1.2.1),(6,ae bz),(9,ak ai a0),(10,ae (a0.length:Int)),(11,ae s1.2.2)]) q (bj.mt (K:=ti) (V:=tj) (m:=s1.1) (m':=bM) (x:=bz) (y:=aG (bq+1)) (Y:=ae bz) (Z:=ae (aG (bq+1))) (p:=⟨3,[]⟩) (x2:=.mp (mG ti tj bM)) q q (.gm q) q (.lit q) q (.lit q) q Hb n2 q q q (.b q (.n q q (.n q q (.n q q (.n q q (.n q q .nil)))))))<|bD q) ?_;refine aL h λcC pT h=>aL h λch sl h=>W.cn [3,4,6,7,9,10,11] (al (O.aT (.mp q))<|cN q<|al (O.rz (K:=ti) (V:=tj) (m:=bM) (x:=bz) (Y:=ae bz) (X:=ae cC) (.gm q) q .aZ q Hb pT q)<|al (O.aT (.mp q))<|cN q<|al (O.rz (K:=ti) (V:=tj) (m:=bM) (x:=s1.2.1) (Y:=ae s1.2.1) (X:=ae ch) (.gm q) q .aZ q Hb sl q)<|aA.br) ?_;refine aL h λrZ ag h=>W.lF [3,4,6,9,10,11,40] [(40,bh rZ)] ?_ ?_
    ·refine cN q<|al (O.lss .aZ .bX)<|al (O.aT (.lit q)) ?_;rcases eU ag with ⟨nV,ag⟩ | ⟨nV,ag⟩
     ·exact aV ag ▸ aA.br
     ·refine bP nV (O.aT (.lit q))<|bP nV (O.gtr .aZ .bX)<|al (O.gn .aZ nV .aZ)<|al (O.aT (.lit q)) ?_;rcases eU ag with ⟨mf,ag⟩ | ⟨mf,ag⟩
      ·exact aV ag ▸ aA.br
      ·refine bP mf (O.aT (.lit q))<|bP mf (O.eql .aZ .bX)<|bP mf (O.aT (.lit q)) ?_;rcases eU ag with ⟨jL,ag⟩ | ⟨jL,ag⟩
       ·exact aV ag ▸ (bP jL (O.aT (.lit q))<|bP jL (O.aT (.lit q))<|bP jL (O.lss .aZ .aZ)<|bP mf (O.fQ .aZ jL .aZ)<|aA.br)
       ·exact aV ag ▸ (gq jL<|gq jL<|gq jL<|bP mf (O.gn .aZ jL .bX)<|aA.br)
    refine aL h λry ag h=>W.eZ [3,4,9,10,11] [(4,ae ry)] ?_ ?_
    ·clear h; have h:=ag; clear ag;refine W.bY h q (λCg h=>?_) (λCg h=>?_)
     ·refine W.b0 [3,4,9,10,11] (cN q<|aA.b0 [3,9,10,11,41] q<|aA.br) ?_;exact aV h ▸ ay.dn
     ·exact W.cR<|aV h ▸ ay.dn
    exact ay.b_<|aV h ▸ ay.dn
   refine ay.bG<|W.b0 [3,4,9,10,11] (al (O.add .aZ .bX)<|aA.b0 [3,4,9,10,42] q<|aA.br) ?_;exact aV h ▸ ay.gt
  ·exact W.fw<|ay.fm<|aV h ▸ ay.t1
 refine ay.fA<|ay.bG<|W.bJ [2] ?_;exact W.rt<|aV h ▸ mH
instance adD {a0:(List Int)}{r:Int}:bw prog 88 (wg a0=some r) [ak ai a0] [none] (ae r):=⟨UA a0 _⟩
instance adE {a0:Act}{r:Int}:bw prog 89 (AP a0=some r) [.agg [ae a0.Kind,ae a0.N]] [none] (ae r):=⟨λh=>by unfold AP at h; exact bS.br (N:=⟨55,[]⟩) [1,2,3,20,37,46] (.eO 1 [1,3] (λ(kK:Bool)=>[(3,bh kK)]) (.b .e (.eO 3 [1,20] (λ(nT:Bool)=>[(20,bh nT)]) (.b .e (.eO 5 [1,37] (λ(iI:Bool)=>[(37,bh iI)]) (.b .e (.eO 7 [46] (λ(iU:Bool)=>[(46,bh iU)]) .e))))))) func89 rfl rfl rfl rfl rfl dx⟩
instance adf {a0:gW}{r:(List Row)}:bw prog 49 (DM a0=some r) [.agg [ak (bC dS) a0.cA,ak (bC ai) a0.eJ]] [none] (ak pD r):=⟨λh=>by unfold DM at h; exact bS.br (N:=⟨75,[]⟩) [1,2,3,5,6,8,9,10,11,13,14,15,16,19,20,21,22,27,37,38,39,40,58] (.e' (λ(s1:List Row × Int)=>[(3,aD pD s1.1),(15,ae s1.2)]) [3,13,14,15] 0 (λ(x2:List Row)=>[(3,aD pD x2)]) [3] (.b (.e' (λ(cK:List Int × Int)=>[(6,aD ai cK.1),(21,ae cK.2)]) [3,5,6,13,14,15,19,20,21] 2 (λ(bq:List Int)=>[(6,aD ai bq)]) [3,5,6,13,14,15] (.b (.dG [3,5,6,13,14,15,19,20,21] (λ(jO:List Int)=>[(6,aD ai jO)]) (.p (.dG [3,5,6,13,14,15,19,20,21] (λ(hd:List Int)=>[(6,aD ai hd)]) .e .e)) .e) .e) (.e' (λ(nH:List cH × Int)=>[(2009,aD ck nH.1),(39,ae nH.2)]) [3,9,13,14,15,37,38,39] 4 (λ(c0:List cH)=>[(2009,aD ck c0)]) [3,9,13,14,15] (.b (.dG [3,9,13,14,15,37,38,39] (λ(xO:List cH)=>[(2009,aD ck xO)]) (.eO 16 [3,9,10,11,13,14,15,37,38,39,58] (λ(wX:Bool)=>[(58,bh wX)]) (.dG [3,9,13,14,15,37,38,39] (λ(KE:List cH)=>[(2009,aD ck KE)]) (.b (.rd 17 [[],[0],[],[],[3],[2,3,4],[2,3,4,5],aF 0 7 [],aF 0 8 [],aF 0 9 []] .e) .e) .e)) .e) .e) (.dN 19 9 (some 1) ck .e))) .e) .e) func49 rfl rfl rfl rfl rfl dx⟩
end Go.Proofs
