/- Parts of the proof that the last text states. -/
import Derived.Deep.Draws
import Derived.Deep.LoopGhost
import Derived.Ground.SlsfProg
import Derived.KernelRfl
import Derived.Laws.Externs
import Derived.Lib.SliceRun
import Derived.Lib.SlicesCompact
import Derived.Lib.Walk
import Derived.Shelf.RegionOpenPlain
import Derived.Shelf.SlGeneric
import Derived.Shelf.SlLaysQ
import Derived.Shelf.SlSortCmp.NoneTotal
import Derived.Shelf.SlicesE.Kit
import Derived.Shelf.SlicesQ.Load
import Derived.Shelf.Strconv.Itoa3
import Derived.Shelf.Strings.Builder2
import Derived.Shelf.Strings.BuilderK
import Derived.Sort.WalkB12
import Derived.Test.YtcfiphoaldlmiaaGreatDoorRows
import Derived.WalkKit
import Derived.Test.YtcfiphoaldlmiaaGreatDoorE6
namespace Go.Own
open Go Go.Proofs Go.Shelf Go.Lib
set_option linter.unusedSectionVars false
variable [TB]
variable {P:Program}{ρ:Ren}
theorem AtC.bw (L:Lays.n166 P ρ) (X:Builder.Extra P ρ) {cs:List AV}{k e0:Nat}{x s y:ByteArray}(hk0:cs[k]?=some (.self (k,e0))) (hk1:cs[k+1]?=some (.brow (ρ.t 5) (strCells x)))
  (hlies:liesAt P P.depth e0 (cs.length / P.cellsOf e0) k (ρ.t 72) 1=true) (h:bwO x s=some y) :
  AtC P (ρ.f 166) k cs [.string s] (cs.set (k+1) (.brow (ρ.t 5) (strCells y))) (.tup [I64 s.size,.lit .nilIface]):=by
 intro w I b F htb hlt hFI hR
 unfold bwO at h
 split at h <;> cases h
 rename_i hsz
 have hltF:=hR.lt
 cases hR with
 | ref hx=>simp [AV.isRef] at hx
 | @obj _ _ e arr Fk _ ho hl h1 hr hd hb hF hs =>
  have hkl:k+1<cs.length:=(List.getElem?_eq_some_iff.1 hk1).1
  have ha0:arr[k]?=some arr[k]:=Array.getElem?_eq_getElem (by omega)
  have ha1:arr[k+1]?=some arr[k+1]:=Array.getElem?_eq_getElem (by omega)
  have hp:=hs k _ _ hk0 ha0
  have hRb:=hr (k+1) _ _ hk1 ha1
  have hRb0:=hRb
  cases hRb with
  | ref hx=>simp [AV.isRef] at hx
  | brow hrow hone hFb =>
   have hne:arr[k+1].ownBlock≠some b:=fun h=>hb (k+1) hkl ((hFb b).2 h)
   rw [strCells_length] at hrow
   refine (bws L X s w ho ha0 ha1 (hp.imp (fun ⟨h1,h2⟩=>⟨h1,by rw [h2,<- hl]; exact hlies⟩) id) hrow hne hsz).mono ?_
   rintro e' w' ⟨rfl,hfr,v',hown,hbk,hne',hblk⟩
   rw [strCells_append] at hown
   have hn:x.size+s.size=(strCells (x++s)).length:=by rw [strCells_length]; simp [ByteArray.size_append]
   rw [hn] at hown
   have hone':v'.oneCell'=true:=by
    rcases hown.2 with ⟨hv,_⟩ | ⟨g,cap,cur,hv,_⟩ <;> rw [hv] <;> rfl
   have hUF:∀ c,(c=b\/arr[k+1].ownBlock=some c)->F c:=fun c hc=>hc.elim (fun h=>(hF c).2 (.inl h)) fun h=>(hF c).2 (.inr ⟨k+1,hkl,(hFb c).2 h⟩)
   have hIs:∀ c,I c->c<w.heap.size->w'.heap[c]?=w.heap[c]?:=fun c hc hlt=>hfr.block c hlt fun h=>hFI c (hUF c h) hc
   have hIsame:∀ c,I c->w'.heap[c]?=w.heap[c]?:=fun c hc=>hIs c hc (hlt c hc)
   have hFk:∀ j c,j<cs.length->j≠k+1->Fk j c->w'.heap[c]?=w.heap[c]?:=fun j c hj hjk hc=>hfr.block c (hltF c ((hF c).2 (.inr ⟨j,hj,hc⟩))) fun h=>h.elim (fun h=>hb j hj (h ▸ hc)) fun h=>hjk (hd j (k+1) c hj hkl hc ((hFb c).2 h))
   have hv'off:∀ j c,j<cs.length->j≠k+1->Fk j c->v'.ownBlock≠some c:=fun j c hj hjk hc h=>by
    rcases hblk c h with h' | h'
    ·exact hjk (hd j (k+1) c hj hkl hc ((hFb c).2 h'))
    ·have:=hltF c ((hF c).2 (.inr ⟨j,hj,hc⟩)); omega
   refine ⟨_,fun c=>c=b\/∃ j,j<cs.length/\(if j=k+1 then v'.ownBlock=some c else Fk j c),rfl,hfr.mono fun c _ hc=>hUF c hc,?_,fun c hc=>?_,?_⟩
   ·refine .obj (Fs:=fun j c=>if j=k+1 then v'.ownBlock=some c else Fk j c) hbk (by simp [hl]) (fun j u hu=>?_) (fun j z u hz hu=>?_) (fun i j c hi hj hc hc'=>?_) (fun j hj hc=>?_) (fun c=>by simp) (fun i j u hi hu=>?_)
    ·rw [Array.getElem?_setIfInBounds,Array.getElem?_setIfInBounds] at hu
     split at hu
     ·split at hu <;> cases hu; exact hone'
     ·split at hu
      ·split at hu <;> cases hu; rfl
      ·exact h1 j u hu
    ·rw [Array.getElem?_setIfInBounds,Array.getElem?_setIfInBounds] at hu
     by_cases hj1:k+1=j
     ·subst hj1
      rw [if_pos rfl] at hu
      rw [List.getElem?_set_self hkl] at hz
      split at hu <;> cases hu
      cases hz
      exact (R.brow hown hone' fun c=>Iff.rfl).congrF fun c=>by simp
     ·rw [if_neg hj1] at hu
      rw [List.getElem?_set_ne hj1] at hz
      by_cases hj0:k=j
      ·subst hj0
       rw [hk0] at hz
       cases hz
       refine .slf fun c hc=>?_
       rw [if_neg (by omega)] at hc
       have:=hr k _ _ hk0 ha0
       cases this with
       | ref hx=>simp [AV.isRef] at hx
       | slf hF=>exact hF c hc
      ·rw [if_neg hj0] at hu
       have hjl:j<cs.length:=(List.getElem?_eq_some_iff.1 hz).1
       exact ((hr j z u hz hu).frame hIsame (fun _ h=>h) (fun _ _ h=>h) fun c hc=>hFk j c hjl (Ne.symm hj1) hc).congrF fun c=>by simp [Ne.symm hj1]
    ·simp only [List.length_set] at hi hj
     by_cases h1:i=k+1 <;> by_cases h2:j=k+1 <;> simp only [h1,h2,if_true,if_false] at hc hc'
     ·omega
     ·exact absurd hc (hv'off j c hj h2 hc')
     ·exact absurd hc' (hv'off i c hi h1 hc)
     ·exact hd i j c hi hj hc hc'
    ·simp only [List.length_set] at hj
     by_cases h1:j=k+1
     ·rw [if_pos h1] at hc; exact hne' hc
     ·rw [if_neg h1] at hc; exact hb j hj hc
    ·by_cases hik:k+1=i
     ·subst hik
      rw [List.getElem?_set_self hkl] at hi; cases hi
     ·rw [List.getElem?_set_ne hik] at hi
      rw [Array.getElem?_setIfInBounds,Array.getElem?_setIfInBounds,if_neg hik] at hu
      split at hu
      ·rename_i hki
       subst hki
       rw [hk0] at hi
       cases hi
       split at hu <;> cases hu
       exact .inr rfl
      ·exact hs i j u hi hu
   ·rcases hc with rfl | ⟨j,hj,hc⟩
    ·exact .inl ((hF _).2 (.inl rfl))
    ·by_cases h1:j=k+1
     ·rw [if_pos h1] at hc
      rcases hblk c hc with h | h
      ·exact .inl (hUF c (.inr h))
      ·exact .inr h
     ·rw [if_neg h1] at hc
      exact .inl ((hF c).2 (.inr ⟨j,hj,hc⟩))
   ·refine .tup (Fs:=fun _=>E0) rfl (fun k y u hy hu=>?_) (fun _ _ _ _ _ h=>h.elim) (fun c=>⟨fun h=>h.elim,fun ⟨_,_,h⟩=>h.elim⟩)
    match k,hy,hu with
    | 0,hy,hu=>cases hy; cases hu; exact .lit rfl fun _ h=>h
    | 1,hy,hu=>cases hy; cases hu; exact .lit rfl fun _ h=>h
    | k+2,hy,hu=>cases hy
theorem AtC.bs (L:Lays.n169 P ρ) (X:Builder.Extra P ρ) {cs:List AV}{k:Nat}{x y:ByteArray}(hk1:cs[k+1]?=some (.brow (ρ.t 5) (strCells x))) (h:bsO x=some y) :
  AtC P (ρ.f 169) k cs [] (cs.set (k+1) .dead) (SS y):=by
 intro w I b F htb hlt hFI hR
 unfold bsO at h
 split at h <;> cases h
 rename_i hsz
 have hltF:=hR.lt
 cases hR with
 | ref hx=>simp [AV.isRef] at hx
 | @obj _ _ e arr Fk _ ho hl h1 hr hd hb hF hs =>
  have hkl:k+1<cs.length:=(List.getElem?_eq_some_iff.1 hk1).1
  have ha1:arr[k+1]?=some arr[k+1]:=Array.getElem?_eq_getElem (by omega)
  have hRb:=hr (k+1) _ _ hk1 ha1
  cases hRb with
  | ref hx=>simp [AV.isRef] at hx
  | brow hrow hone hFb =>
   have hne:arr[k+1].ownBlock≠some b:=fun h=>hb (k+1) hkl ((hFb b).2 h)
   have hby:strCells x=byteCells x.data.toList:=rfl
   have hlen:(strCells x).length=x.data.toList.length:=by unfold strCells; rw [List.length_map]
   rw [hlen,hby] at hrow
   refine (bst L X x.data.toList w ho ha1 hrow (fun e=>hsz (by rw [<- strCells_length]; unfold strCells; rw [e]; rfl))).mono ?_
   rintro e' w' ⟨rfl,hfr⟩
   have hUF:∀ c,arr[k+1].ownBlock=some c->F c:=fun c h=>(hF c).2 (.inr ⟨k+1,hkl,(hFb c).2 h⟩)
   have hbk:w'.heap[b]?=some (.cells arr e (0,0)):=(hfr.block b (Array.getElem?_eq_some_iff.1 ho).1 hne).trans ho
   have hIsame:∀ c,I c->w'.heap[c]?=w.heap[c]?:=fun c hc=>hfr.block c (hlt c hc) fun h=>hFI c (hUF c h) hc
   refine ⟨_,fun c=>c=b\/∃ j,j<cs.length/\(j≠k+1/\Fk j c),rfl,hfr.mono fun c _ hc=>hUF c hc,?_,fun c hc=>?_,.lit rfl fun _ h=>h⟩
   ·refine .obj (Fs:=fun j c=>j≠k+1/\Fk j c) hbk (by simp [hl]) h1 (fun j z u hz hu=>?_) (fun i j c hi hj hc hc'=>?_) (fun j hj hc=>?_) (fun c=>by simp) (fun i j u hi hu=>?_)
    ·by_cases hj1:k+1=j
     ·subst hj1
      rw [List.getElem?_set_self hkl] at hz
      cases hz
      exact .dead fun c hc=>hc.1 rfl
     ·rw [List.getElem?_set_ne hj1] at hz
      have hjl:j<cs.length:=(List.getElem?_eq_some_iff.1 hz).1
      refine ((hr j z u hz hu).frame hIsame (fun _ h=>h) (fun _ _ h=>h) fun c hc=>hfr.block c (hltF c ((hF c).2 (.inr ⟨j,hjl,hc⟩))) fun h=>hj1 (hd j (k+1) c hjl hkl hc ((hFb c).2 h)).symm).congrF fun c=>⟨fun h=>⟨Ne.symm hj1,h⟩,fun h=>h.2⟩
    ·simp only [List.length_set] at hi hj
     exact hd i j c hi hj hc.2 hc'.2
    ·simp only [List.length_set] at hj
     exact hb j hj hc.2
    ·by_cases hik:k+1=i
     ·subst hik
      rw [List.getElem?_set_self hkl] at hi; cases hi
     ·rw [List.getElem?_set_ne hik] at hi
      exact hs i j u hi hu
   ·rcases hc with rfl | ⟨j,hj,_,hc⟩
    ·exact .inl ((hF _).2 (.inl rfl))
    ·exact .inl ((hF c).2 (.inr ⟨j,hj,hc⟩))
end Go.Own
namespace Go.Proofs
open Go.Shelf Go.RowKit Go.Own
set_option linter.unusedSectionVars false
set_option linter.unusedVariables false
variable {P:Program}{ρ:Ren}
structure Grown0 (T e:TypeId) (w w':World) (b:Nat):Prop where
 fr:Fr w w' (fun c=>c=b)
 row:∃ v',w'.heap[b]?=some (.cells #[.pointer (some ⟨b,0,none⟩),v'] T (0,0))/\w'.ownsRow 0 e 1 v' 0 []/\v'.ownBlock≠some b/\(∀ c,v'.ownBlock=some c->w.heap.size<=c)/\v'.oneCell'=true
theorem grown0_of {T e:TypeId}{b:Nat}{w w':World}{cs:Array Value}(hlt:b<w.heap.size) (hm:cs.size<=maxLen) (h1:w'.os=w.os) (h2:w'.tape=w.tape) (h3:w'.output=w.output) (h4:w.drawn<=w'.drawn) (h5:w.heap.size<=w'.heap.size)
  (h6:∀ c,c<w.heap.size->c≠b->w'.heap[c]?=w.heap[c]?) (h7:w'.heap[w.heap.size]?=some (.cells cs e (0,0))) (h8:w'.heap[b]?=some (.cells #[.pointer (some ⟨b,0,none⟩),.slice (some ⟨w.heap.size,0,none⟩) 0 cs.size] T (0,0))):Grown0 T e w w' b:=by
 refine ⟨⟨h1,h2,h3,h5,fun c hc hn=>h6 c hc hn,fun a ha hn=>?_,h4⟩,.slice (some ⟨w.heap.size,0,none⟩) 0 cs.size,h8,⟨rfl,.inr ⟨w.heap.size,cs.size,cs,rfl,Nat.zero_le _,h7,Nat.zero_le _,hm,by simp,by simp⟩⟩,?_,fun c hc=>?_,rfl⟩
 ·unfold World.frozen?
  rw [h6 a.block ha hn]
 ·simp [Value.ownBlock]; omega
 ·simp [Value.ownBlock] at hc; omega
theorem grown0_a {T e:TypeId}{b:Nat}{w:World}{cs:Array Value}(hbk:w.heap[b]?=some (.cells #[.pointer (some ⟨b,0,none⟩),.slice none 0 0] T (0,0))) (hm:cs.size<=maxLen) :
  Grown0 T e w ((w.alloc (.cells cs e)).setCell ⟨b,1,none⟩ (.slice (some ⟨w.heap.size,0,none⟩) 0 cs.size)).drew.drew.drew b:=by
 have hlt:b<w.heap.size:=(Array.getElem?_eq_some_iff.1 hbk).1
 have hb2:(w.alloc (.cells cs e)).heap[b]?=some (.cells #[.pointer (some ⟨b,0,none⟩),.slice none 0 0] T (0,0)):=(Lib.alloc_old w _ b hlt).trans hbk
 have ho:∀ c,c≠b->((w.alloc (.cells cs e)).setCell ⟨b,1,none⟩ (.slice (some ⟨w.heap.size,0,none⟩) 0 cs.size)).heap[c]?=(w.alloc (.cells cs e)).heap[c]?:=fun c hc=>by
  simp only [World.setCell,Array.getElem?_modify,if_neg (Ne.symm hc)]
 refine grown0_of hlt hm rfl rfl rfl (show w.drawn<=w.drawn+1+1+1 by omega) ?_ (fun c hc hn=>(ho c hn).trans (Lib.alloc_old w _ c hc)) ((ho _ (by omega)).trans (Go.heap_alloc_new w _)) ?_
 ·show w.heap.size<=((w.alloc (.cells cs e)).setCell ⟨b,1,none⟩ (.slice (some ⟨w.heap.size,0,none⟩) 0 cs.size)).heap.size
  simp [World.setCell]
 ·show ((w.alloc (.cells cs e)).setCell ⟨b,1,none⟩ (.slice (some ⟨w.heap.size,0,none⟩) 0 cs.size)).heap[b]?=_
  simp [World.setCell,Array.getElem?_modify,hb2]
theorem grown0_b {T e:TypeId}{b:Nat}{w:World}{cs:Array Value}(hbk:w.heap[b]?=some (.cells #[.pointer (some ⟨b,0,none⟩),.slice none 0 0] T (0,0))) (hm:cs.size<=maxLen) :
  Grown0 T e w ((w.setCell ⟨b,1,none⟩ (.slice (some ⟨w.heap.size,0,none⟩) 0 cs.size)).alloc (.cells cs e)).drew.drew.drew b:=by
 have hlt:b<w.heap.size:=(Array.getElem?_eq_some_iff.1 hbk).1
 have hs:(w.setCell ⟨b,1,none⟩ (.slice (some ⟨w.heap.size,0,none⟩) 0 cs.size)).heap.size=w.heap.size:=by simp [World.setCell]
 have ho:∀ c,c≠b->(w.setCell ⟨b,1,none⟩ (.slice (some ⟨w.heap.size,0,none⟩) 0 cs.size)).heap[c]?=w.heap[c]?:=fun c hc=>by
  simp only [World.setCell,Array.getElem?_modify,if_neg (Ne.symm hc)]
 refine grown0_of hlt hm rfl rfl rfl (show w.drawn<=w.drawn+1+1+1 by omega) ?_ (fun c hc hn=>(Lib.alloc_old (w.setCell ⟨b,1,none⟩ (.slice (some ⟨w.heap.size,0,none⟩) 0 cs.size)) _ c (by omega)).trans (ho c hn)) ?_ ?_
 ·show w.heap.size<=((w.setCell ⟨b,1,none⟩ (.slice (some ⟨w.heap.size,0,none⟩) 0 cs.size)).alloc (.cells cs e)).heap.size
  have:((w.setCell ⟨b,1,none⟩ (.slice (some ⟨w.heap.size,0,none⟩) 0 cs.size)).alloc (.cells cs e)).heap.size=w.heap.size+1:=by simp [World.setCell]
  omega
 ·have:=Go.heap_alloc_new (w.setCell ⟨b,1,none⟩ (.slice (some ⟨w.heap.size,0,none⟩) 0 cs.size)) (.cells cs e)
  rw [hs] at this
  exact this
 ·refine (Lib.alloc_old (w.setCell ⟨b,1,none⟩ (.slice (some ⟨w.heap.size,0,none⟩) 0 cs.size)) _ b (by omega)).trans ?_
  simp [World.setCell,Array.getElem?_modify,hbk]
variable {P:Program}{ρ:Ren}
set_option maxHeartbeats 2000000 in
set_option maxRecDepth 1000000 in
theorem bgw (L:Lays.n241 P ρ) (X:Builder.Extra P ρ) {T:TypeId}(b n:Nat) (w:World) (hbk:w.heap[b]?=some (.cells #[.pointer (some ⟨b,0,none⟩),.slice none 0 0] T (0,0))) (hn:n<=281474976710656) :
  Calls P (ρ.f 241) #[.pointer (some ⟨b,0,none⟩),.int .i64 n] w fun e w'=>e=.returned (.tuple #[])/\Grown0 T (ρ.t 5) w w' b:=by
 obtain ⟨cs,hrun,hle,hmax⟩:=Lib.run_makeNoZero (P:=P) w.drew #[(ρ.t 3)] (ρ.t 37) (ρ.t 5) L.t37 n hn
 have hw:IntKind.i64.wrap (IntKind.i64.wrap 0+(n:Int))=n:=by
  rw [IntKind.wrap_i64,IntKind.wrap_i64]
  omega
 have hcall:(callFunc (ρ.f 277) #[.int .i64 (IntKind.i64.wrap (IntKind.i64.wrap 0+(n:Int)))]).run P w.drew=.ok (.value (.slice (some ⟨w.drew.heap.size,0,none⟩) n cs.size)) (w.drew.drew.drew.alloc (.cells cs (ρ.t 5))):=by
  rw [hw,run_callFunc_extern L.f277 (by kernel_rfl) (by kernel_rfl) (by kernel_rfl) (e:=Extern.BytealgMakeNoZero.makeNoZero #[(ρ.t 3)] #[(ρ.t 37)]) (by kernel_rfl),hrun]
  rfl
 have c1:w.drew.cell? ⟨b,1,none⟩=some (.slice none 0 0):=by
  have:w.drew.heap[b]?=_:=hbk
  rw [Lib.cell_of_heap this]; rfl
 have hlt:b<w.heap.size:=(Array.getElem?_eq_some_iff.1 hbk).1
 have c2:(w.alloc (.cells cs (ρ.t 5))).cell? ⟨b,1,none⟩=some (.slice none 0 0):=by
  have:(w.alloc (.cells cs (ρ.t 5))).heap[b]?=_:=(Lib.alloc_old w _ b hlt).trans hbk
  rw [Lib.cell_of_heap this]; rfl
 have f2:(w.alloc (.cells cs (ρ.t 5))).frozen? ⟨b,1,none⟩=false:=Lib.frozen_of_heap ((Lib.alloc_old w _ b hlt).trans hbk) 1
 have hcopy:∀ W:World,(Builtin.copy_ #[(ρ.t 37),(ρ.t 37)] (ρ.t 3) #[.slice (some ⟨w.heap.size,0,none⟩) 0 cs.size,.slice none 0 0]).run P W=.ok (goInt 0) W :=
  fun W=>run_copy_none W (ρ.t 37) (ρ.t 37) (ρ.t 3) (ρ.t 5) _ _ 0 cs.size 0 0 L.t37 X.sizeByte rfl
 clear hw
 have mixed:=L.mixed
 have t72:=L.t72; have a72:=L.a72; have z72:=L.z72; have v72:=L.v72; have u72:=run_underlying L.t72
 have t70:=L.t70; have a70:=L.a70; have z70:=L.z70; have v70:=L.v70; have u70:=run_underlying L.t70
 have t37:=L.t37; have a37:=L.a37; have z37:=L.z37; have v37:=L.v37; have u37:=run_underlying L.t37
 have t3:=L.t3; have a3:=L.a3; have z3:=L.z3; have v3:=L.v3; have u3:=run_underlying L.t3
 have t5:=X.t5; have a5:=X.a5; have z5:=X.z5; have v5:=X.v5; have u5:=run_underlying X.t5
 go_enter L.f241,Body.n241_ntmps ρ
 go_wp2
 have hfin:=grown0_a (T:=T) (e:=(ρ.t 5)) (cs:=cs) hbk (hmax (by unfold maxLen; omega))
 have hfin2:=grown0_b (T:=T) (e:=(ρ.t 5)) (cs:=cs) hbk (hmax (by unfold maxLen; omega))
 clear hbk
 go_region_o
 all_goals (go_wp2; go_end0; first | exact ⟨rfl,hfin⟩ | exact ⟨rfl,hfin2⟩)
variable [TB]
variable {P:Program}{ρ:Ren}
theorem grown0_tr {T e:TypeId}{b:Nat}{w w1 w':World}(h:Fr w w1 (fun c=>c=b)) (hb:w1.heap[b]?=some (.cells #[.pointer (some ⟨b,0,none⟩),.slice none 0 0] T (0,0))) (hg:Grown0 T e w1.drew w' b):Grown0 T e w w' b:=by
 obtain ⟨v',h1,h2,h3,h4,h5⟩:=hg.row
 refine ⟨?_,v',h1,h2,h3,fun c hc=>Nat.le_trans h.size (h4 c hc),h5⟩
 exact h.drew.trans hg.fr fun c _ h=>h
theorem grown0_no {T e:TypeId}{b:Nat}{w w1:World}(h:Fr w w1 (fun c=>c=b)) (hb:w1.heap[b]?=some (.cells #[.pointer (some ⟨b,0,none⟩),.slice none 0 0] T (0,0))):Grown0 T e w w1.drew b :=
 ⟨h.drew,.slice none 0 0,hb,World.ownsRow_nil _ _ _ _,by simp [Value.ownBlock],fun c hc=>by simp [Value.ownBlock] at hc,rfl⟩
set_option maxHeartbeats 2000000 in
set_option maxRecDepth 1000000 in
/-- (*strings.Builder).Grow at a builder that holds nothing and has no room. -/
theorem bgr (L:Lays.n165 P ρ) (X:Builder.Extra P ρ) {b n:Nat}{p:Value}{T:TypeId}(w:World) (hbk:w.heap[b]?=some (.cells #[p,.slice none 0 0] T (0,0)))
  (hp:(p=.pointer none/\T=ρ.t 72)\/p=.pointer (some ⟨b,0,none⟩)) (hn:n<=281474976710656) :
  Calls P (ρ.f 165) #[.pointer (some ⟨b,0,none⟩),.int .i64 n] w fun e w'=>e=.returned (.tuple #[])/\Grown0 T (ρ.t 5) w w' b:=by
 have mixed:=L.mixed
 have t72:=L.t72; have a72:=L.a72; have z72:=L.z72; have v72:=L.v72; have u72:=run_underlying L.t72
 have t70:=L.t70; have a70:=L.a70; have z70:=L.z70; have v70:=L.v70; have u70:=run_underlying L.t70
 have t37:=L.t37; have a37:=L.a37; have z37:=L.z37; have v37:=L.v37; have u37:=run_underlying L.t37
 have t3:=L.t3; have a3:=L.a3; have z3:=L.z3; have v3:=L.v3; have u3:=run_underlying L.t3
 have t9:=L.t9; have a9:=L.a9; have z9:=L.z9; have v9:=L.v9; have u9:=run_underlying L.t9
 have t4:=L.t4; have a4:=L.a4; have z4:=L.z4; have v4:=L.v4; have u4:=run_underlying L.t4
 have t164:=L.t164; have a164:=L.a164; have z164:=L.z164; have v164:=L.v164; have u164:=run_underlying L.t164
 have t5:=X.t5; have a5:=X.a5; have z5:=X.z5; have v5:=X.v5; have u5:=run_underlying X.t5
 have e240:∀ args w,(callFunc (ρ.f 240) args).run P w=.ok (.enter (ρ.f 240) args) w:=enters_of L.f240 (by kernel_rfl) rfl
 have e241:∀ args w,(callFunc (ρ.f 241) args).run P w=.ok (.enter (ρ.f 241) args) w:=enters_of L.f241 (by kernel_rfl) rfl
 have hlies:T=ρ.t 72->liesAt P P.depth T ((#[p,.slice none 0 0]:Array Value).size / P.cellsOf T) 0 (ρ.t 72) 1=true:=fun h=>by rw [h]; exact X.toX72.liesBuilder
 have hcc:=bcc (ρ:=ρ) { L with } X.toX72 w hbk (k:=0) rfl (hp.imp (fun h=>⟨h.1,hlies h.2⟩) id)
 go_enter L.f165,Body.n165_ntmps ρ
 go_wp2_with (go_at_fn (ρ.f 240); refine hcc.mono ?_)
 rintro e' w1 ⟨rfl,hf1,hb1⟩
 have hb1':w1.heap[b]?=some (.cells #[.pointer (some ⟨b,0,none⟩),.slice none 0 0] T (0,0)):=hb1
 have c1':w1.drew.cell? ⟨b,1,none⟩=some (.slice none 0 0):=by
  have:w1.drew.heap[b]?=_:=hb1'
  rw [Lib.cell_of_heap this]; rfl
 go_wp2
 go_region_o
 all_goals go_wp2_with (go_at_fn (ρ.f 241); refine (bgw { L with } X b n w1.drew hb1' hn).mono ?_; rintro e w' ⟨rfl,h1⟩)
 all_goals first
  | (go_end0; exact ⟨rfl,grown0_tr hf1 hb1' h1⟩)
  | (go_end0; exact ⟨rfl,grown0_no hf1 hb1'⟩)
end Go.Proofs
namespace Go.Own
open Go Go.Proofs Go.Shelf Go.Lib
set_option linter.unusedSectionVars false
variable [TB]
def bgO (_:Unit) (n:Int):Option ByteArray:=if 0<=n/\n<=281474976710656 then some ⟨#[]⟩ else none
section
variable {P:Program}{ρ:Ren}
theorem Con.bg (L:Lays.n165 P ρ) (X:Builder.Extra P ρ) {n:Int}{y:ByteArray}(h:bgO () n=some y) :
  Con P (ρ.f 165) [.obj [.self (0,ρ.t 72),.nils],I64 n] [some (.obj [.self (0,ρ.t 72),.brow (ρ.t 5) (strCells y)]),none] (.tup []):=by
 refine ⟨rfl,fun w I vs Fs hlv hS=>?_⟩
 match vs,hlv with
 | [v0,v1],_ =>
 obtain ⟨u0,hu0,hR0⟩:=hS.rel 0 _ rfl
 obtain ⟨u1,hu1,hR1⟩:=hS.rel 1 _ rfl
 cases hu0; cases hu1
 have hv1:=(hR1.isTree (by simp)).inv_lit.1
 subst hv1
 unfold bgO at h
 split at h <;> cases h
 rename_i hn
 obtain ⟨m,rfl⟩:=Int.eq_ofNat_of_zero_le hn.1
 have hR:=hR0.isTree (by simp)
 cases hR with
 | ref hx=>simp [AV.isRef] at hx
 | @obj _ b e arr Fk _ ho hl h1 hr hd hb hF hs =>
  have hl2:arr.size=2:=hl.symm
  have ha0:arr[0]?=some arr[0]:=Array.getElem?_eq_getElem (by omega)
  have ha1:arr[1]?=some arr[1]:=Array.getElem?_eq_getElem (by omega)
  have hp:=hs 0 _ _ rfl ha0
  have hn1:arr[1]=.slice none 0 0:=(hr 1 _ _ rfl ha1).inv_nils
  have harr:arr=#[arr[0],.slice none 0 0]:=by
   apply Array.ext_getElem?
   intro i
   match i with
   | 0=>rw [ha0]; rfl
   | 1=>rw [ha1,hn1]; rfl
   | i+2=>rw [Array.getElem?_eq_none (by omega)]; simp
  rw [harr] at ho
  refine (bgr L X (n:=m) w ho (hp.imp (fun h=>h) fun h=>h) (by omega)).mono ?_
  rintro e' w' ⟨rfl,hfr,v',hbk,hown,hne',hblk,hone'⟩
  have hblt:b<w.heap.size:=(Array.getElem?_eq_some_iff.1 ho).1
  refine ⟨_,I,fun t c=>t=0/\(c=b\/v'.ownBlock=some c),rfl,⟨fun t x hx=>?_,fun t ht c hc=>?_,fun t t' c hc hc'=>hc.1.trans hc'.1.symm,fun t c hc hi=>?_,fun c hc=>Nat.lt_of_lt_of_le (hS.lt c hc) hfr.size,fun t t' z p n m new z' n' m' new' h1 _=>?_,TB.keep hS.tb (fun c hc=>hfr.block c (hS.lt c hc) fun h=>hS.imm 0 c ((hF c).2 (.inl h)) hc) fun _ h=>h⟩,⟨?_,fun _ h=>h,fun _ h=>.inl h,fun c hc=>?_⟩⟩
  ·match t,hx with
   | 0,hx =>
    cases hx
    refine ⟨_,rfl,.tree ?_⟩
    refine .obj (Fs:=fun k c=>k=1/\v'.ownBlock=some c) hbk (by simp) (fun k u hu=>?_) (fun k y u hy hu=>?_) (fun j k c _ _ h1 h2=>h1.1.trans h2.1.symm) (fun k _ h=>hne' h.2) (fun c=>⟨fun h=>h.2.imp id fun h=>⟨1,by simp,rfl,h⟩,fun h=>⟨rfl,h.imp id fun ⟨_,_,_,h⟩=>h⟩⟩) (fun k j u hy hu=>?_)
    ·match k,hu with
     | 0,hu=>simp at hu; subst hu; rfl
     | 1,hu=>simp at hu; subst hu; exact hone'
     | k+2,hu=>simp at hu
    ·match k,hy,hu with
     | 0,hy,hu=>cases hy; exact .slf fun c h=>by cases h.1
     | 1,hy,hu =>
      cases hy
      simp at hu
      subst hu
      exact .brow hown hone' fun c=>⟨fun h=>h.2,fun h=>⟨rfl,h⟩⟩
     | k+2,hy,hu=>cases hy
    ·match k,hy,hu with
     | 0,hy,hu =>
      cases hy
      simp at hu
      exact .inr hu.symm
     | 1,hy,hu=>cases hy
     | k+2,hy,hu=>cases hy
   | 1,hx=>cases hx
   | 2,hx =>
    cases hx
    exact ⟨_,rfl,.tree (.tup (Fs:=fun _=>E0) rfl (fun k y u hy hu=>by cases hy) (fun _ _ _ _ _ h=>h.elim) (fun c=>⟨fun h=>(by cases h.1),fun ⟨_,_,h⟩=>h.elim⟩))⟩
   | t+3,hx=>simp [outG] at hx
  ·rw [hc.1] at ht; cases ht
  ·rcases hc.2 with rfl | h
   ·exact hS.imm 0 _ ((hF _).2 (.inl rfl)) hi
   ·have h1:=hblk c h; have h2:=hS.lt c hi; omega
  ·match t,h1 with
   | 0,h1=>cases h1
   | 1,h1=>cases h1
   | 2,h1=>cases h1
   | t+3,h1=>simp [outG] at h1
  ·exact hfr.mono fun c _ h=>⟨0,(hF c).2 (.inl h)⟩
  ·obtain ⟨t,_,hc⟩:=hc
   rcases hc with rfl | h
   ·exact .inl ⟨0,(hF _).2 (.inl rfl)⟩
   ·exact .inr (hblk c h)
end
end Go.Own
namespace Go.Own
open Go
set_option linter.unusedSectionVars false
variable [TB]
variable {P:Program}{N:Rm}{g:Gst}{ty:TypeId}
theorem O.bxB {e ty t k:Nat}{a:Operand}{y:AV}{cs cs':List AV}(hx:Rd g a y) (hc:boxCells y=some cs) (h0:cs[k]?=some (.lit (.pointer none))) (h1:cs[k+1]?=some .nils) (he:(cs.set k (.self (k,e))).set (k+1) (.brow t [])=cs'):PS P g (.box e a) ty (.obj cs'):=by
 subst he
 exact .p2 (.boxB hx.opd hc h0 h1)
end Go.Own
namespace Go.Proofs
open Go Go.Shelf Go.RowKit Go.Lib Go.Own
def Tryz.lays169_ren:Go.Shelf.Ren:=⟨fun | 169=>30 | n=>n,fun | 70=>91 | 9=>9 | 0=>0 | 72=>94 | 37=>92 | 127=>139 | 3=>3 | 5=>5 | n=>n,fun | n=>n⟩
theorem Tryz.lays169:Go.Proofs.Lays.n169 Tryz.prog Tryz.lays169_ren:={
 mixed:=by kernel_rfl
 f169:=Tryz.func30.trans (congrArg some (by kernel_rfl))
 t0:=Tryz.underlying0
 a0:=Tryz.isAgg0
 z0:=Tryz.sizeOf0
 v0:=Tryz.zeroValue0
 t3:=Tryz.underlying3
 a3:=Tryz.isAgg3
 z3:=Tryz.sizeOf3
 v3:=Tryz.zeroValue3
 t9:=Tryz.underlying9
 a9:=Tryz.isAgg9
 z9:=Tryz.sizeOf9
 v9:=Tryz.zeroValue9
 t37:=Tryz.underlying92
 a37:=Tryz.isAgg92
 z37:=Tryz.sizeOf92
 v37:=Tryz.zeroValue92
 t70:=Tryz.underlying91
 a70:=Tryz.isAgg91
 z70:=Tryz.sizeOf91
 v70:=Tryz.zeroValue91
 t72:=Tryz.underlying94
 a72:=Tryz.isAgg94
 z72:=Tryz.sizeOf94
 v72:=Tryz.zeroValue94
 t127:=Tryz.underlying139
 a127:=Tryz.isAgg139
 z127:=Tryz.sizeOf139
 v127:=Tryz.zeroValue139 }
def Tryz.lays171_ren:Go.Shelf.Ren:=⟨fun | 171=>29 | 243=>55 | 246=>83 | 283=>107 | 284=>108 | 285=>109 | 286=>110 | 129=>127 | 317=>130 | 318=>131 | 319=>132 | 320=>133 | 337=>144 | 338=>145 | n=>n,fun | 3=>3 | 9=>9 | 2=>2 | 4=>4 | 171=>198 | 0=>0 | 53=>117 | 37=>92 | 5=>5 | 173=>201 | 212=>219 | 51=>186 | 20=>20 | 213=>220 | 46=>162 | 232=>232 | 233=>233 | n=>n,fun | 17=>0 | 18=>2 | 19=>3 | n=>n⟩
theorem Tryz.lays171:Go.Proofs.LaysM.n171 Tryz.prog Tryz.lays171_ren:={
 mixed:=by kernel_rfl
 f129:=Tryz.func127.trans (congrArg some (by kernel_rfl))
 f171:=Tryz.func29.trans (congrArg some (by kernel_rfl))
 f243:=Tryz.func55.trans (congrArg some (by kernel_rfl))
 f246:=Tryz.func83.trans (congrArg some (by kernel_rfl))
 f283:=Tryz.func107.trans (congrArg some (by kernel_rfl))
 f284:=Tryz.func108.trans (congrArg some (by kernel_rfl))
 f285:=Tryz.func109.trans (congrArg some (by kernel_rfl))
 f286:=Tryz.func110.trans (congrArg some (by kernel_rfl))
 f317:=Tryz.func130.trans (congrArg some (by kernel_rfl))
 f318:=Tryz.func131.trans (congrArg some (by kernel_rfl))
 f319:=Tryz.func132.trans (congrArg some (by kernel_rfl))
 f320:=Tryz.func133.trans (congrArg some (by kernel_rfl))
 f337:=Tryz.func144.trans (congrArg some (by kernel_rfl))
 f338:=Tryz.func145.trans (congrArg some (by kernel_rfl))
 t0:=Tryz.underlying0
 a0:=Tryz.isAgg0
 z0:=Tryz.sizeOf0
 v0:=Tryz.zeroValue0
 t2:=Tryz.underlying2
 a2:=Tryz.isAgg2
 z2:=Tryz.sizeOf2
 v2:=Tryz.zeroValue2
 t3:=Tryz.underlying3
 a3:=Tryz.isAgg3
 z3:=Tryz.sizeOf3
 v3:=Tryz.zeroValue3
 t4:=Tryz.underlying4
 a4:=Tryz.isAgg4
 z4:=Tryz.sizeOf4
 v4:=Tryz.zeroValue4
 t5:=Tryz.underlying5
 a5:=Tryz.isAgg5
 z5:=Tryz.sizeOf5
 v5:=Tryz.zeroValue5
 t9:=Tryz.underlying9
 a9:=Tryz.isAgg9
 z9:=Tryz.sizeOf9
 v9:=Tryz.zeroValue9
 t20:=Tryz.underlying20
 a20:=Tryz.isAgg20
 z20:=Tryz.sizeOf20
 v20:=Tryz.zeroValue20
 t37:=Tryz.underlying92
 a37:=Tryz.isAgg92
 z37:=Tryz.sizeOf92
 v37:=Tryz.zeroValue92
 t46:=Tryz.underlying162
 a46:=Tryz.isAgg162
 z46:=Tryz.sizeOf162
 v46:=Tryz.zeroValue162
 t51:=Tryz.underlying186
 a51:=Tryz.isAgg186
 z51:=Tryz.sizeOf186
 v51:=Tryz.zeroValue186
 t53:=Tryz.underlying117
 a53:=Tryz.isAgg117
 z53:=Tryz.sizeOf117
 v53:=Tryz.zeroValue117
 t171:=Tryz.underlying198
 a171:=Tryz.isAgg198
 z171:=Tryz.sizeOf198
 v171:=Tryz.zeroValue198
 t173:=Tryz.underlying201
 a173:=Tryz.isAgg201
 z173:=Tryz.sizeOf201
 v173:=Tryz.zeroValue201
 t212:=Tryz.underlying219
 a212:=Tryz.isAgg219
 z212:=Tryz.sizeOf219
 v212:=Tryz.zeroValue219
 t213:=Tryz.underlying220
 a213:=Tryz.isAgg220
 z213:=Tryz.sizeOf220
 t232:=Tryz.underlying232
 a232:=Tryz.isAgg232
 z232:=Tryz.sizeOf232
 v232:=Tryz.zeroValue232
 t233:=Tryz.underlying233
 a233:=Tryz.isAgg233
 z233:=Tryz.sizeOf233
 v233:=Tryz.zeroValue233
 g17:=by kernel_rfl
 g18:=by kernel_rfl
 g19:=by kernel_rfl
 i0:=by kernel_rfl
 i2:=by kernel_rfl
 i3:=by kernel_rfl
 i4:=by kernel_rfl
 i5:=by kernel_rfl
 i9:=by kernel_rfl
 i20:=by kernel_rfl
 i37:=by kernel_rfl
 i46:=by kernel_rfl
 i51:=by kernel_rfl
 i53:=by kernel_rfl
 i171:=by kernel_rfl
 i173:=by kernel_rfl
 i212:=by kernel_rfl
 i232:=by kernel_rfl
 i233:=by kernel_rfl
 m17:=by kernel_rfl
 m18:=by kernel_rfl
 m19:=by kernel_rfl }
def Tryz.lays166_ren:Go.Shelf.Ren:=⟨fun | 240=>76 | 276=>100 | 166=>49 | n=>n,fun | 70=>91 | 9=>9 | 3=>3 | 75=>135 | 0=>0 | 72=>94 | 37=>92 | 4=>4 | 164=>191 | 20=>20 | 80=>107 | n=>n,fun | n=>n⟩
theorem Tryz.lays166:Go.Proofs.Lays.n166 Tryz.prog Tryz.lays166_ren:={
 mixed:=by kernel_rfl
 f166:=Tryz.func49.trans (congrArg some (by kernel_rfl))
 f240:=Tryz.func76.trans (congrArg some (by kernel_rfl))
 f276:=Tryz.func100.trans (congrArg some (by kernel_rfl))
 t0:=Tryz.underlying0
 a0:=Tryz.isAgg0
 z0:=Tryz.sizeOf0
 v0:=Tryz.zeroValue0
 t3:=Tryz.underlying3
 a3:=Tryz.isAgg3
 z3:=Tryz.sizeOf3
 v3:=Tryz.zeroValue3
 t4:=Tryz.underlying4
 a4:=Tryz.isAgg4
 z4:=Tryz.sizeOf4
 v4:=Tryz.zeroValue4
 t9:=Tryz.underlying9
 a9:=Tryz.isAgg9
 z9:=Tryz.sizeOf9
 v9:=Tryz.zeroValue9
 t20:=Tryz.underlying20
 a20:=Tryz.isAgg20
 z20:=Tryz.sizeOf20
 v20:=Tryz.zeroValue20
 t37:=Tryz.underlying92
 a37:=Tryz.isAgg92
 z37:=Tryz.sizeOf92
 v37:=Tryz.zeroValue92
 t70:=Tryz.underlying91
 a70:=Tryz.isAgg91
 z70:=Tryz.sizeOf91
 v70:=Tryz.zeroValue91
 t72:=Tryz.underlying94
 a72:=Tryz.isAgg94
 z72:=Tryz.sizeOf94
 v72:=Tryz.zeroValue94
 t75:=Tryz.underlying135
 a75:=Tryz.isAgg135
 z75:=Tryz.sizeOf135
 v75:=Tryz.zeroValue135
 t164:=Tryz.underlying191
 a164:=Tryz.isAgg191
 z164:=Tryz.sizeOf191
 v164:=Tryz.zeroValue191
}
def Tryz.lays165_ren:Go.Shelf.Ren:=⟨fun | 240=>76 | 241=>84 | 276=>100 | 277=>111 | 165=>56 | n=>n,fun | 70=>91 | 3=>3 | 0=>0 | 4=>4 | 9=>9 | 20=>20 | 72=>94 | 37=>92 | 164=>191 | 80=>107 | n=>n,fun | n=>n⟩
theorem Tryz.lays165:Go.Proofs.Lays.n165 Tryz.prog Tryz.lays165_ren:={
 mixed:=by kernel_rfl
 f165:=Tryz.func56.trans (congrArg some (by kernel_rfl))
 f240:=Tryz.func76.trans (congrArg some (by kernel_rfl))
 f241:=Tryz.func84.trans (congrArg some (by kernel_rfl))
 f276:=Tryz.func100.trans (congrArg some (by kernel_rfl))
 f277:=Tryz.func111.trans (congrArg some (by kernel_rfl))
 t0:=Tryz.underlying0
 a0:=Tryz.isAgg0
 z0:=Tryz.sizeOf0
 v0:=Tryz.zeroValue0
 t3:=Tryz.underlying3
 a3:=Tryz.isAgg3
 z3:=Tryz.sizeOf3
 v3:=Tryz.zeroValue3
 t4:=Tryz.underlying4
 a4:=Tryz.isAgg4
 z4:=Tryz.sizeOf4
 v4:=Tryz.zeroValue4
 t9:=Tryz.underlying9
 a9:=Tryz.isAgg9
 z9:=Tryz.sizeOf9
 v9:=Tryz.zeroValue9
 t20:=Tryz.underlying20
 a20:=Tryz.isAgg20
 z20:=Tryz.sizeOf20
 v20:=Tryz.zeroValue20
 t37:=Tryz.underlying92
 a37:=Tryz.isAgg92
 z37:=Tryz.sizeOf92
 v37:=Tryz.zeroValue92
 t70:=Tryz.underlying91
 a70:=Tryz.isAgg91
 z70:=Tryz.sizeOf91
 v70:=Tryz.zeroValue91
 t72:=Tryz.underlying94
 a72:=Tryz.isAgg94
 z72:=Tryz.sizeOf94
 v72:=Tryz.zeroValue94
 t164:=Tryz.underlying191
 a164:=Tryz.isAgg191
 z164:=Tryz.sizeOf191
 v164:=Tryz.zeroValue191
}
theorem Tryz.bX166:Builder.Extra Tryz.prog Tryz.lays166_ren where
 sizeBuilder:=by kernel_rfl
 liesBuilder:=by kernel_rfl
 t5:=Tryz.underlying5
 a5:=Tryz.isAgg5
 z5:=Tryz.sizeOf5
 v5:=Tryz.zeroValue5
 infoByte:=by kernel_rfl
 cellsByte:=by kernel_rfl
 sizeByte:=by kernel_rfl
 neB5:=by decide
theorem Tryz.bX169:Builder.Extra Tryz.prog Tryz.lays169_ren where
 sizeBuilder:=by kernel_rfl
 liesBuilder:=by kernel_rfl
 t5:=Tryz.underlying5
 a5:=Tryz.isAgg5
 z5:=Tryz.sizeOf5
 v5:=Tryz.zeroValue5
 infoByte:=by kernel_rfl
 cellsByte:=by kernel_rfl
 sizeByte:=by kernel_rfl
 neB5:=by decide
theorem Tryz.tabG : Tryz.prog.globalNamed "internal/strconv.uint64pow10" = some 0 := by kernel_rfl
instance : TB := ⟨fun w I => I 0 /\ Lib.TabIs Tryz.prog w "internal/strconv.uint64pow10" .u64 Lib.pow10Tab, fun {w w' I I'} h hb hI => ⟨hI _ h.1, by
 have h2:=h.2
 unfold Lib.TabIs World.var? at h2 ⊢
 rw [Tryz.tabG] at h2 ⊢
 simp only [Option.bind_some] at h2 ⊢
 rw [hb _ h.1]
 exact h2⟩⟩
theorem Tryz.tabQ (w : World) (I : BSet) (h : TB.q w I) : Lib.TabIs Tryz.prog w "internal/strconv.uint64pow10" .u64 Lib.pow10Tab := h.2
instance:FB Tryz.prog 94 5:={}
instance {x s y:ByteArray}:CF Tryz.prog 49 (bwO x s=some y) [.obj [.self (0,94),.brow 5 (strCells x)],SS s] [some (.obj [.self (0,94),.brow 5 (strCells y)]),none] (.tup [I64 s.size,.lit .nilIface]):=⟨Con.bw Tryz.lays166 Tryz.bX166⟩
instance {x y:ByteArray}:CF Tryz.prog 30 (bsO x=some y) [.obj [.self (0,94),.brow 5 (strCells x)]] [some (.obj [.self (0,94),.dead])] (SS y):=⟨Con.bs Tryz.lays169 Tryz.bX169⟩
instance {n:Int}{r:ByteArray}:CF Tryz.prog 29 (itoO n=some r) [I64 n] [none] (SS r):=⟨Con.itoa (P:=Tryz.prog) Tryz.lays171 Tryz.tabQ⟩
theorem Tryz.bX165:Builder.Extra Tryz.prog Tryz.lays165_ren where
 sizeBuilder:=by kernel_rfl
 liesBuilder:=by kernel_rfl
 t5:=Tryz.underlying5
 a5:=Tryz.isAgg5
 z5:=Tryz.sizeOf5
 v5:=Tryz.zeroValue5
 infoByte:=by kernel_rfl
 cellsByte:=by kernel_rfl
 sizeByte:=by kernel_rfl
 neB5:=by decide
instance {n:Int}{y:ByteArray}:CF Tryz.prog 56 (bgO () n=some y) [.obj [.self (0,94),.nils],I64 n] [some (.obj [.self (0,94),.brow 5 (strCells y)]),none] (.tup []):=⟨Con.bg Tryz.lays165 Tryz.bX165⟩
theorem con49 (x s y:ByteArray) (h:bwO x s=some y):Con Tryz.prog 49 [.obj [.self (0,94),.brow 5 (strCells x)],SS s] [some (.obj [.self (0,94),.brow 5 (strCells y)]),none] (.tup [I64 s.size,.lit .nilIface]):=Con.bw Tryz.lays166 Tryz.bX166 h
theorem con30 (x y:ByteArray) (h:bsO x=some y):Con Tryz.prog 30 [.obj [.self (0,94),.brow 5 (strCells x)]] [some (.obj [.self (0,94),.dead])] (SS y):=Con.bs Tryz.lays169 Tryz.bX169 h
theorem con29 (n:Int) (r:ByteArray) (h:itoO n=some r):Con Tryz.prog 29 [I64 n] [none] (SS r):=Con.itoa (P:=Tryz.prog) Tryz.lays171 Tryz.tabQ h
theorem con56 (_u:Unit) (n:Int) (y:ByteArray) (h:bgO () n=some y):Con Tryz.prog 56 [.obj [.self (0,94),.nils],I64 n] [some (.obj [.self (0,94),.brow 5 (strCells y)]),none] (.tup []):=Con.bg Tryz.lays165 Tryz.bX165 h
theorem con49a {cs:List AV}{k e0:Nat}{x s y:ByteArray}(hk0:cs[k]?=some (.self (k,e0))) (hk1:cs[k+1]?=some (.brow 5 (strCells x))) (hl:liesAt Tryz.prog Tryz.prog.depth e0 (cs.length / Tryz.prog.cellsOf e0) k 94 1=true) (h:bwO x s=some y) :
  AtC Tryz.prog 49 k cs [.string s] (cs.set (k+1) (.brow 5 (strCells y))) (.tup [I64 s.size,.lit .nilIface]):=AtC.bw Tryz.lays166 Tryz.bX166 hk0 hk1 hl h
theorem con30a {cs:List AV}{k:Nat}{x y:ByteArray}(hk1:cs[k+1]?=some (.brow 5 (strCells x))) (h:bsO x=some y):AtC Tryz.prog 30 k cs [] (cs.set (k+1) .dead) (SS y):=AtC.bs Tryz.lays169 Tryz.bX169 hk1 h
open Go Go.Shelf Go.RowKit Go.Lib Go.Sort Go.Own
def Tryz.sortS79_ren:Go.Shelf.Ren:=⟨fun | 6=>79 | 15=>102 | 14=>101 | 28=>126 | 29=>127 | 20=>118 | 21=>119 | 22=>120 | 23=>121 | 24=>122 | 25=>123 | 26=>124 | 27=>125 | 46=>138 | 47=>139 | 48=>140 | 49=>141 | 50=>142 | 57=>149 | n=>n,fun | 22=>97 | 24=>112 | 25=>167 | 3=>3 | 39=>162 | 0=>0 | 53=>186 | 55=>117 | 4=>4 | 46=>211 | 45=>210 | 50=>215 | 5=>5 | 9=>9 | 66=>224 | 70=>228 | 76=>230 | 77=>102 | n=>n,fun | n=>n⟩
theorem Tryz.sortS79:Go.Proofs.SlLaysF0.n6 Tryz.prog Tryz.sortS79_ren:={
 mixed:=by kernel_rfl
 f6:=⟨Tryz.f79.name,by decide,Tryz.func79.trans (congrArg some (by kernel_rfl))⟩
 f14:=⟨Tryz.f101.name,by decide,Tryz.func101.trans (congrArg some (by kernel_rfl))⟩
 f15:=Tryz.func102.trans (congrArg some (by kernel_rfl))
 f20:=⟨Tryz.f118.name,by decide,Tryz.func118.trans (congrArg some (by kernel_rfl))⟩
 f21:=⟨Tryz.f119.name,by decide,Tryz.func119.trans (congrArg some (by kernel_rfl))⟩
 f22:=⟨Tryz.f120.name,by decide,Tryz.func120.trans (congrArg some (by kernel_rfl))⟩
 f23:=⟨Tryz.f121.name,by decide,Tryz.func121.trans (congrArg some (by kernel_rfl))⟩
 f24:=⟨Tryz.f122.name,by decide,Tryz.func122.trans (congrArg some (by kernel_rfl))⟩
 f25:=⟨Tryz.f123.name,by decide,Tryz.func123.trans (congrArg some (by kernel_rfl))⟩
 f26:=⟨Tryz.f124.name,by decide,Tryz.func124.trans (congrArg some (by kernel_rfl))⟩
 f27:=⟨Tryz.f125.name,by decide,Tryz.func125.trans (congrArg some (by kernel_rfl))⟩
 f28:=Tryz.func126.trans (congrArg some (by kernel_rfl))
 f29:=Tryz.func127.trans (congrArg some (by kernel_rfl))
 f46:=⟨Tryz.f138.name,by decide,Tryz.func138.trans (congrArg some (by kernel_rfl))⟩
 f47:=Tryz.func139.trans (congrArg some (by kernel_rfl))
 f48:=Tryz.func140.trans (congrArg some (by kernel_rfl))
 f49:=⟨Tryz.f141.name,by decide,Tryz.func141.trans (congrArg some (by kernel_rfl))⟩
 f50:=⟨Tryz.f142.name,by decide,Tryz.func142.trans (congrArg some (by kernel_rfl))⟩
 f57:=⟨Tryz.f149.name,by decide,Tryz.func149.trans (congrArg some (by kernel_rfl))⟩
 t0:=Tryz.underlying0
 a0:=Tryz.isAgg0
 z0:=Tryz.sizeOf0
 v0:=Tryz.zeroValue0
 t3:=Tryz.underlying3
 a3:=Tryz.isAgg3
 z3:=Tryz.sizeOf3
 v3:=Tryz.zeroValue3
 t4:=Tryz.underlying4
 a4:=Tryz.isAgg4
 z4:=Tryz.sizeOf4
 v4:=Tryz.zeroValue4
 t5:=Tryz.underlying5
 a5:=Tryz.isAgg5
 z5:=Tryz.sizeOf5
 v5:=Tryz.zeroValue5
 t9:=Tryz.underlying9
 a9:=Tryz.isAgg9
 z9:=Tryz.sizeOf9
 v9:=Tryz.zeroValue9
 t22:=Tryz.underlying97
 a22:=Tryz.isAgg97
 z22:=Tryz.sizeOf97
 v22:=Tryz.zeroValue97
 t25:=Tryz.underlying167
 a25:=Tryz.isAgg167
 z25:=Tryz.sizeOf167
 v25:=Tryz.zeroValue167
 t39:=Tryz.underlying162
 a39:=Tryz.isAgg162
 z39:=Tryz.sizeOf162
 v39:=Tryz.zeroValue162
 t45:=Tryz.underlying210
 a45:=Tryz.isAgg210
 z45:=Tryz.sizeOf210
 v45:=Tryz.zeroValue210
 t46:=Tryz.underlying211
 a46:=Tryz.isAgg211
 z46:=Tryz.sizeOf211
 v46:=Tryz.zeroValue211
 t50:=Tryz.underlying215
 a50:=Tryz.isAgg215
 z50:=Tryz.sizeOf215
 v50:=Tryz.zeroValue215
 t53:=Tryz.underlying186
 a53:=Tryz.isAgg186
 z53:=Tryz.sizeOf186
 v53:=Tryz.zeroValue186
 t55:=Tryz.underlying117
 a55:=Tryz.isAgg117
 z55:=Tryz.sizeOf117
 v55:=Tryz.zeroValue117
 t66:=Tryz.underlying224
 a66:=Tryz.isAgg224
 z66:=Tryz.sizeOf224
 v66:=Tryz.zeroValue224
 t70:=Tryz.underlying228
 a70:=Tryz.isAgg228
 z70:=Tryz.sizeOf228
 v70:=Tryz.zeroValue228
 t76:=Tryz.underlying230
 a76:=Tryz.isAgg230
 z76:=Tryz.sizeOf230
 v76:=Tryz.zeroValue230
 t77:=Tryz.underlying102
 a77:=Tryz.isAgg102
 z77:=Tryz.sizeOf102
 v77:=Tryz.zeroValue102 }
end Go.Proofs
section
namespace Go.Proofs
open Go Go.Shelf Go.RowKit Go.Lib Go.Sort
variable {α:Type} [Inhabited α] [DecidableEq α]
set_option maxHeartbeats 4000000
set_option maxRecDepth 1000000
set_option linter.unusedVariables false
theorem compN81 (w:World) (p:Option Addr) (cap:Nat):Calls Tryz.prog 81 #[.slice p 0 cap] w fun e' w'=>e'=.returned (.slice p 0 cap)/\w'=w:=by
 go_enter Tryz.func81,Tryz.ntmps81
 go_wp2
 go_ret
 exact ⟨rfl,rfl⟩
theorem compS81 (e0 e1:α->Value) (hO0:OneCell e0) (hO1:OneCell e1)
  (heq':∀ (x y:α) (w:World),Sem.run Tryz.prog (binOp .eql 112 (.agg #[e0 x,e1 x]) (.agg #[e0 y,e1 y])) w=.ok (.bool (decide (x=y))) w)
  (hne':∀ (x y:α) (w:World),Sem.run Tryz.prog (binOp .neq 112 (.agg #[e0 x,e1 x]) (.agg #[e0 y,e1 y])) w=.ok (.bool (!decide (x=y))) w)
  (hgd':∀ (op:BinOp) (a b:Operand) (x y:α) (w:World),Sem.run Tryz.prog (eqGuard op 112 a b (.agg #[e0 x,e1 x]) (.agg #[e0 y,e1 y])) w=.ok () w)
  (hz:[e0 default,e1 default]=[.int .i64 0,.int .i64 0])
  (w:World) (blk cap:Nat) (d:Array α) (hpos:0<d.size) (hH:HoldsK (fun x=>[e0 x,e1 x]) 2 w blk 0 d) (hblk:blk<w.heap.size) (hcap:d.size<=cap) (hbig:d.size<4611686018427387904) :
  Calls Tryz.prog 81 #[.slice (some ⟨blk,0,none⟩) d.size cap] w fun e' w'=>e'=.returned (.slice (some ⟨blk,0,none⟩) (compactUpTo d d.size).length cap)/\∃ q,w'=putRowK (fun x=>[e0 x,e1 x]) 2 (Sort.ahead w q) blk 0 (compactUpTo d d.size++List.replicate (d.size - (compactUpTo d d.size).length) default).toArray:=by
 have hst0:=hO0.store Tryz.prog
 have hst1:=hO1.store Tryz.prog
 have mixed:Tryz.prog.follows .mixedOrders=true:=by kernel_rfl
 have hcell:∀ (W:World) (dk:Array α),dk.size=d.size->HoldsK (fun x=>[e0 x,e1 x]) 2 W blk 0 dk->∀ j,j<d.size->(W.cell? ⟨blk,j * 2,none⟩=some (e0 dk[j]!)/\W.frozen? ⟨blk,j * 2,none⟩=false)/\(W.cell? ⟨blk,j * 2+1,none⟩=some (e1 dk[j]!)/\W.frozen? ⟨blk,j * 2+1,none⟩=false):=by
  intro W dk hs h j hj
  obtain ⟨a1,a2⟩:=h (j * 2) (by simp; omega)
  obtain ⟨b1,b2⟩:=h (j * 2+1) (by simp; omega)
  rw [get_flatK _ _ _ _ (by omega),Nat.zero_add,show j * 2 / 2=j by omega,show j * 2 % 2=0 by omega] at a1
  rw [get_flatK _ _ _ _ (by omega),Nat.zero_add,show (j * 2+1) / 2=j by omega,show (j * 2+1) % 2=1 by omega] at b1
  rw [Nat.zero_add] at a2 b2
  exact ⟨⟨a1,a2⟩,⟨b1,b2⟩⟩
 have same:∀ q,(∀ j,j<d.size->keeps d j=true)->(compactUpTo d d.size).length=d.size/\w.drewN q=putRowK (fun x=>[e0 x,e1 x]) 2 (Sort.ahead w q) blk 0 (compactUpTo d d.size++List.replicate (d.size - (compactUpTo d d.size).length) default).toArray:=by
  intro q hall
  have e:compactUpTo d d.size=d.toList:=by rw [compactUpTo_all d _ hall,range_map_get]
  rw [e]
  refine ⟨by simp,?_⟩
  simp only [Array.length_toList,Nat.sub_self,List.replicate_zero,List.append_nil,Array.toArray_toList]
  exact (putRowK_self _ 2 (Sort.ahead w q) blk 0 d (holdsK_ahead _ 2 w q blk 0 d hH)).symm
 have HS:Aside (∀ q,(∀ j,j<d.size->keeps d j=true)->(compactUpTo d d.size).length=d.size/\w.drewN q=putRowK (fun x=>[e0 x,e1 x]) 2 (Sort.ahead w q) blk 0 (compactUpTo d d.size++List.replicate (d.size - (compactUpTo d d.size).length) default).toArray):=same
 clear same
 by_cases h2:d.size<2
 ·have HH:Aside (HoldsK (fun x=>[e0 x,e1 x]) 2 w blk 0 d):=hH
  clear hH hcell
  go_enter Tryz.func81,Tryz.ntmps81
  go_wp2
  go_ret
  obtain ⟨e1,e2⟩:=HS.out 0 (fun j hj=>keeps_lt_one d j (by omega))
  exact ⟨by rw [e1]; rfl,0,e2⟩
 ·go_enter Tryz.func81,Tryz.ntmps81
  go_wp2
  go_loopg [3] d.size (fun g s3 wr=>∃ k q:Nat,1<=k/\k<=d.size/\d.size - k<=g/\s3=.int .i64 k/\wr=w.drewN q/\∀ j,j<k->keeps d j=true)
  case atStart=>exact ⟨1,0,Nat.le_refl _,by omega,by omega,rfl,rfl,keeps_lt_one d⟩
  case round =>
   obtain ⟨k,q,hk1,hk,hg,rfl,rfl,hall⟩:=hrel
   by_cases hlt:k<d.size
   ·obtain ⟨⟨c1,f1⟩,⟨c1',f1'⟩⟩:=hcell w d rfl hH k hlt
    obtain ⟨⟨c0,f0⟩,⟨c0',f0'⟩⟩:=hcell w d rfl hH (k - 1) (by omega)
    have A:Aside (∀ j,j<k->keeps d j=true):=hall
    have HH:Aside (HoldsK (fun x=>[e0 x,e1 x]) 2 w blk 0 d):=hH
    have HC:Aside (∀ (W:World) (dk:Array α),dk.size=d.size->HoldsK (fun x=>[e0 x,e1 x]) 2 W blk 0 dk->∀ j,j<d.size->(W.cell? ⟨blk,j * 2,none⟩=some (e0 dk[j]!)/\W.frozen? ⟨blk,j * 2,none⟩=false)/\(W.cell? ⟨blk,j * 2+1,none⟩=some (e1 dk[j]!)/\W.frozen? ⟨blk,j * 2+1,none⟩=false)):=hcell
    clear hall hH hcell
    generalize hx:d[k]! = x at c1 c1'
    generalize hy:d[k - 1]! = y at c0 c0'
    have B:Aside (d[k]! = x/\d[k - 1]! = y):=⟨hx,hy⟩
    clear hx hy
    by_cases hdup:x=y
    ·subst hdup
     go_wp2_with fail
     go_region_o
     go_wp2
     clear c0 c1 f0 f1 c0' c1' f0' f1'
     go_loopg [3,5] d.size (fun g s3 s5 wr=>∃ (kk k2 q2:Nat) (dk:Array α),s3=.int .i64 kk/\s5=.int .i64 k2/\1<=k2/\k+k2<=d.size/\d.size - (k+k2)<=g/\wr=putRowK (fun x=>[e0 x,e1 x]) 2 (Sort.ahead w q2) blk 0 dk/\CompInv d (k+k2) kk dk)
     case atStart=>exact ⟨k,1,q+1,d,rfl,rfl,Nat.le_refl _,by omega,by omega,(putRowK_self _ 2 (Sort.ahead w (q+1)) blk 0 d (holdsK_ahead _ 2 w (q+1) blk 0 d HH.out)).symm,CompInv.start A.out (keeps_neg (by omega) (by rw [B.out.1,B.out.2]))⟩
     case round =>
      obtain ⟨kk,k2,q2,dk,rfl,rfl,h1,hle,hg2,hwr,hI⟩:=hrel
      have hkk:=hI.lt
      have hds:=hI.size
      have hHk:HoldsK (fun x=>[e0 x,e1 x]) 2 wr blk 0 dk:=by rw [hwr]; exact holdsK_putRowK _ 2 _ blk 0 d dk (holdsK_ahead _ 2 w q2 blk 0 d HH.out) hds
      have hck:=HC.out wr dk hds hHk
      have W2:Aside (wr=putRowK (fun x=>[e0 x,e1 x]) 2 (Sort.ahead w q2) blk 0 dk):=hwr
      have I2:Aside (CompInv d (k+k2) kk dk):=hI
      clear hwr
      by_cases hlt2:k+k2<d.size
      ·obtain ⟨⟨cm,_⟩,⟨cm',_⟩⟩:=hck (k+k2) (by omega)
       obtain ⟨⟨cp,_⟩,⟨cp',_⟩⟩:=hck (k+k2 - 1) (by omega)
       obtain ⟨⟨ck,fk⟩,⟨ck',fk'⟩⟩:=hck kk (by omega)
       rw [hI.high (k+k2) (by omega),show (k+k2) * 2=k * 2+k2 * 2 by omega] at cm cm'
       rw [hI.high (k+k2 - 1) (by omega),show (k+k2 - 1) * 2=k * 2+(k2 - 1) * 2 by omega] at cp cp'
       clear hHk hI hck
       generalize hu:d[k+k2]! = u at cm cm'
       generalize hv:d[k+k2 - 1]! = v at cp cp'
       generalize dk[kk]! = old at ck ck'
       have C:Aside (d[k+k2]! = u/\d[k+k2 - 1]! = v):=⟨hu,hv⟩
       clear hu hv
       by_cases huv:u=v
       ·subst huv
        go_wp2_with fail
        go_region_o
        go_wp2
        go_roundg (d.size - (k+(k2+1)))
        case measure=>omega
        case rel=>exact ⟨kk,k2+1,q2+1,dk,rfl,by go_num,by omega,by omega,Nat.le_refl _,by rw [W2.out]; rfl,I2.out.skip (keeps_neg (by omega) (by rw [C.out.1,C.out.2]))⟩
       ·go_wp2_with fail
        go_region_o
        go_wp2
        go_roundg (d.size - (k+(k2+1)))
        case measure=>omega
        case rel =>
         refine ⟨kk+1,k2+1,q2+1,dk.setIfInBounds kk u,by go_num,by go_num,by omega,by omega,Nat.le_refl _,?_,by have:=I2.out.keep hlt2 (keeps_pos (by rw [C.out.1,C.out.2]; exact huv)); rwa [C.out.1] at this⟩
         have:=putRowK_lay (fun x=>[e0 x,e1 x]) (Sort.ahead w (q2+1)) blk dk kk [u] (by simp; omega)
         rw [lay_one,flatK_one] at this
         rw [<- this,W2.out]
         rfl
      ·have hend:k+k2=d.size:=by omega
       have hzc:(Builtin.zeroCells (Value.agg #[.int .i64 0,.int .i64 0]).cells (d.size - kk)).toList=(flatK (fun x=>[e0 x,e1 x]) 2 (List.replicate (d.size - kk) (default:α)).toArray).toList:=by
        rw [show (Value.agg #[.int .i64 0,.int .i64 0]).cells=#[Value.int .i64 0,.int .i64 0] from rfl,zc_two,fk_two _ _ _ hz]
       have hfl:((flatK (fun x=>[e0 x,e1 x]) 2 (List.replicate (d.size - kk) (default:α)).toArray).toList).length=(d.size - kk) * 2:=by simp
       have hone:∀ v∈(flatK (fun x=>[e0 x,e1 x]) 2 (List.replicate (d.size - kk) (default:α)).toArray).toList,v.oneCell'=true:=by
        intro v hv
        rw [fk_two _ _ _ hz] at hv
        rw [List.eq_of_mem_replicate hv]; rfl
       have hcf:∀ j,j<(d.size - kk) * 2->(wr.cell? ⟨blk,kk * 2+j,none⟩).isSome=true/\wr.frozen? ⟨blk,kk * 2+j,none⟩=false:=by
        intro j hj
        obtain ⟨a1,a2⟩:=hHk (kk * 2+j) (by simp; omega)
        rw [Nat.zero_add] at a1 a2
        exact ⟨by rw [a1]; rfl,a2⟩
       have hcl:∀ ty,(Builtin.clear_ #[97] ty #[.slice (some ⟨blk,kk * 2,none⟩) (d.size - kk) (cap - kk)]).run Tryz.prog wr=.ok (.tuple #[]) (wr.setCells blk (kk * 2) (flatK (fun x=>[e0 x,e1 x]) 2 (List.replicate (d.size - kk) (default:α)).toArray).toList) :=
        fun ty=>run_clear_cells Tryz.prog wr 97 112 ty (.agg #[.int .i64 0,.int .i64 0]) Tryz.underlying97 Tryz.zeroValue112 blk (kk * 2) _ _ _ hzc hone (by omega) (fun j hj=>(hcf j (by rw [<- hfl]; exact hj)).1) (fun j hj=>(hcf j (by rw [<- hfl]; exact hj)).2)
       clear hHk hI hck hzc hone hfl hcf
       go_wp2
       go_ret
       have hI:=I2.out
       rw [hend] at hI
       refine ⟨by rw [hI.len]; rfl,q2,?_⟩
       rw [hI.len,<- hI.done default,<- putRowK_lay _ _ blk dk kk _ (by simp; omega),<- W2.out,List.toArray_replicate]
    ·go_wp2_with fail
     go_region_o
     go_wp2
     go_roundg (d.size - (k+1))
     case measure=>omega
     case rel =>
      refine ⟨k+1,q+1,by omega,by omega,Nat.le_refl _,by go_num,rfl,fun j hj=>?_⟩
      by_cases e:j=k
      ·subst e
       exact keeps_pos (by rw [B.out.1,B.out.2]; exact hdup)
      ·exact A.out j (by omega)
   ·have:k=d.size:=by omega
    subst this
    have HH:Aside (HoldsK (fun x=>[e0 x,e1 x]) 2 w blk 0 d):=hH
    clear hH hcell
    go_wp2
    go_ret
    obtain ⟨e1,e2⟩:=HS.out q hall
    exact ⟨by rw [e1]; rfl,q,e2⟩
end Go.Proofs
end
namespace Go.Proofs
open Go Go.Own
set_option maxRecDepth 100000
set_option linter.unusedVariables false
def pf13 (a0:Int):Option (ByteArray) :=
 ((bif decide (a0<0) then
 some (IntKind.u64.wrap (-(IntKind.u64.wrap a0)))
 else
 some (IntKind.u64.wrap a0))).bind fun j1 =>
 (loopM (R:=ByteArray) (fun (s3:Int × ByteArray) =>
 ((bif decide (0<s3.1) then some true else some (decide (s3.2={ data:=#[] })))).bind fun c7 =>
 (bif c7 then
 (remU s3.1 10).bind fun x9 =>
 (catO (strOfNums [w8 (IntKind.u64.wrap (48+x9))]) s3.2).bind fun x10 =>
 (quoU s3.1 10).bind fun x11 =>
 some (.inl (x11,x10))
 else
 some (.inr s3.2))) (j1,{ data:=#[] })).bind fun x4 =>
 (bif decide (a0<0) then
 (catO ({ data:=#[45] }) x4).bind fun x13 =>
 some x13
 else
 some x4)
def pf146 (a0:Int):Option (Bool) :=
 ((bif decide (97<=a0) then (bif decide (a0<=122) then some true else (bif decide (65<=a0) then (bif decide (a0<=90) then some true else some (decide (a0=95))) else some (decide (a0=95)))) else (bif decide (65<=a0) then (bif decide (a0<=90) then some true else some (decide (a0=95))) else some (decide (a0=95))))).bind fun c7 =>
 some c7
def pf147 (a0:Int):Option (Bool) :=
 ((bif decide (48<=a0) then some (decide (a0<=57)) else some false)).bind fun c2 =>
 some c2
def pf135 (a0:ByteArray) (a1:Int):Option (Int) :=
 (loopM (R:=Int) (fun (s1:Int) =>
 ((bif decide (w64 (a1+s1)<(a0.size:Int)) then ((bidx a0 (w64 (a1+s1))).bind fun x5=>((pf146 x5).bind fun x6=>(bif x6 then some true else (bif decide (0<s1) then ((bidx a0 (w64 (a1+s1))).bind fun x9=>((pf147 x9).bind fun x10=>(bif x10 then some true else ((bidx a0 (w64 (a1+s1))).bind fun x12=>some (decide (x12=46)))))) else some false)))) else some false)).bind fun c13 =>
 (bif c13 then
 some (.inl (w64 (s1+1)))
 else
 some (.inr s1))) 0).bind fun x2 =>
 some x2
def pf113 (a0:ByteArray):Option (Bool) :=
 ((bif decide (1<=(a0.size:Int)) then (bif decide ((a0.size:Int)<=20) then ((pf135 a0 0).bind fun x3=>some (decide (x3=(a0.size:Int)))) else some false) else some false)).bind fun c4 =>
 some c4
def pf85 (a0:Int):Option (Int × Bool) :=
 (bif decide (a0=10) then
 some (110,true)
 else
 (bif decide (a0=9) then
 some (116,true)
 else
 (bif decide (a0=13) then
 some (114,true)
 else
 ((bif decide (a0=92) then
 some (decide (a0=92))
 else
 some (decide (a0=39)))).bind fun j4 =>
 (bif j4 then
 some (a0,true)
 else
 ((bif decide (32<=a0) then some (0,decide (a0<=126)) else some (0,false))).bind fun c8 =>
 some (c8.1,c8.2)))))
structure Sym where
 Name:ByteArray
 Lit:Bool
 Num:Int
 At:Int
 deriving DecidableEq,Inhabited
def eSym:En Sym:=⟨4,fun x=>[SS x.Name,BB x.Lit,I64 x.Num,I64 x.At],fun _=>rfl,fun _=>NRl.nr⟩
instance:Flat eSym:=⟨fun _=>rfl⟩
instance:OOe eSym:=⟨fun x=>(inferInstance:OOl [SS x.Name,BB x.Lit,I64 x.Num,I64 x.At])⟩
instance:Tw eSym eSym:=⟨rfl,fun x=>(inferInstance:Vws [SS x.Name,BB x.Lit,I64 x.Num,I64 x.At] [SS x.Name,BB x.Lit,I64 x.Num,I64 x.At])⟩
instance {x:Sym}:Vws (eSym.cells x) [SS x.Name,BB x.Lit,I64 x.Num,I64 x.At]:=(inferInstance:Vws [SS x.Name,BB x.Lit,I64 x.Num,I64 x.At] [SS x.Name,BB x.Lit,I64 x.Num,I64 x.At])
def pf134 (a0:Sym) (a1:Bool) (a2:Bool):Option (Bool) :=
 (bif a0.Lit then
 ((bif !a2 then some true else (bif !decide ((a0.Name.size:Int)=1) then some true else some (!decide (a0.Num=0))))).bind fun c4 =>
 (bif c4 then
 some false
 else
 (bidx a0.Name 0).bind fun x6 =>
 (pf85 x6).bind fun x7 =>
 some x7.2)
 else
 (((pf113 a0.Name).bind fun x8=>(bif x8 then (bif decide (a0.Num=0) then some true else (bif a1 then (bif decide (1<=a0.Num) then some (decide (a0.Num<=50000)) else some false) else some false)) else some false))).bind fun c13 =>
 some c13)
structure Decl where
 Kind:Int
 Tag:ByteArray
 Syms:(List Sym)
 At:Int
 deriving DecidableEq,Inhabited
def eDecl_0:En Decl:=⟨4,fun x=>[I64 x.Kind,SS x.Tag,iR eSym x.Syms,I64 x.At],fun _=>rfl,fun _=>NRl.nr⟩
instance:Flat eDecl_0:=⟨fun _=>rfl⟩
instance:Tw eDecl_0 eDecl_0:=⟨rfl,fun x=>(inferInstance:Vws [I64 x.Kind,SS x.Tag,iR eSym x.Syms,I64 x.At] [I64 x.Kind,SS x.Tag,iR eSym x.Syms,I64 x.At])⟩
instance {x:Decl}:Vws (eDecl_0.cells x) [I64 x.Kind,SS x.Tag,iR eSym x.Syms,I64 x.At]:=(inferInstance:Vws [I64 x.Kind,SS x.Tag,iR eSym x.Syms,I64 x.At] [I64 x.Kind,SS x.Tag,iR eSym x.Syms,I64 x.At])
def pf112 (a0:Decl):Option (Bool) :=
 ((bif decide (a0.Kind<1) then some true else (bif decide (6<a0.Kind) then some true else (bif decide ((a0.Syms.length:Int)=0) then some true else (bif decide (a0.Kind=6) then (bif !decide ((a0.Syms.length:Int)=1) then some true else (bif !decide (a0.Tag={ data:=#[] }) then some true else (bif decide (a0.Kind=5) then (bif decide (a0.Tag={ data:=#[] }) then some true else some false) else some false))) else (bif decide (a0.Kind=5) then (bif decide (a0.Tag={ data:=#[] }) then some true else (bif !decide (a0.Tag={ data:=#[] }) then ((pf113 a0.Tag).bind fun x12=>some (!x12)) else some false)) else (bif !decide (a0.Tag={ data:=#[] }) then ((pf113 a0.Tag).bind fun x14=>some (!x14)) else some false))))))).bind fun c15 =>
 (bif c15 then
 some false
 else
 (loopM (R:=(Unit) ⊕ (Bool)) (fun (s17:Int) =>
 (bif decide (s17<(a0.Syms.length:Int)) then
 (idx a0.Syms s17).bind fun x22 =>
 (pf134 x22 (decide (a0.Kind=1)) (decide (a0.Kind<5))).bind fun x23 =>
 (bif !x23 then
 some (.inr (.inr false))
 else
 some (.inl (w64 (s17+1))))
 else
 some (.inr (.inl ())))) 0).bind fun x18 =>
 (match x18 with
 | .inl x19 =>
 some true
 | .inr x20 =>
 some x20))
def pf136 (a0:Sym):Option (Bool) :=
 ((bif decide (a0.Name={ data:=#[] }) then (bif !a0.Lit then some (decide (a0.Num=0)) else some false) else some false)).bind fun c3 =>
 some c3
def pf150 (a0:ByteArray) (a1:Int) (a2:ByteArray):Option (Bool) :=
 ((bif decide ((a2.size:Int)<=w64 ((a0.size:Int) - a1)) then ((cutO a0 a1 (w64 (a1+(a2.size:Int)))).bind fun x2=>some (decide (x2=a2))) else some false)).bind fun c3 =>
 some c3
def pf148 (a0:ByteArray) (a1:Int):Option (Int) :=
 (((bidx a0 a1).bind fun x1=>(bif decide (x1=34) then some true else ((bidx a0 a1).bind fun x3=>some (decide (x3=39)))))).bind fun c4 =>
 (bif c4 then
 (loopM (R:=(Unit) ⊕ (Int)) (fun (s6:Int) =>
 ((bif decide (s6<(a0.size:Int)) then ((bidx a0 s6).bind fun x11=>some (!decide (x11=10))) else some false)).bind fun c12 =>
 (bif c12 then
 (bidx a0 s6).bind fun x14 =>
 (bidx a0 a1).bind fun x15 =>
 (bif decide (x14=x15) then
 some (.inr (.inr (w64 (s6+1))))
 else
 (bidx a0 s6).bind fun x17 =>
 (bif decide (x17=92) then
 ((bif decide (w64 (s6+1)<(a0.size:Int)) then ((bidx a0 (w64 (s6+1))).bind fun x20=>some (decide (x20=10))) else some false)).bind fun c21 =>
 (bif c21 then
 some (.inr (.inr (-1)))
 else
 some (.inl (w64 ((w64 (s6+1))+1))))
 else
 some (.inl (w64 (s6+1)))))
 else
 some (.inr (.inl ())))) (w64 (a1+1))).bind fun x7 =>
 (match x7 with
 | .inl x8 =>
 some (-1)
 | .inr x9 =>
 some x9)
 else
 (bidx a0 a1).bind fun x23 =>
 (bif decide (x23=96) then
 (loopM (R:=(Unit) ⊕ (Int)) (fun (s25:Int) =>
 (bif decide (s25<(a0.size:Int)) then
 (bidx a0 s25).bind fun x30 =>
 (bif decide (x30=96) then
 some (.inr (.inr (w64 (s25+1))))
 else
 some (.inl (w64 (s25+1))))
 else
 some (.inr (.inl ())))) (w64 (a1+1))).bind fun x26 =>
 (match x26 with
 | .inl x27 =>
 some (-1)
 | .inr x28 =>
 some x28)
 else
 (pf150 a0 a1 ({ data:=#[47,47] })).bind fun x32 =>
 (bif x32 then
 (loopM (R:=Int) (fun (s34:Int) =>
 ((bif decide (s34<(a0.size:Int)) then ((bidx a0 s34).bind fun x38=>some (!decide (x38=10))) else some false)).bind fun c39 =>
 (bif c39 then
 some (.inl (w64 (s34+1)))
 else
 some (.inr s34))) a1).bind fun x35 =>
 some x35
 else
 (pf150 a0 a1 ({ data:=#[47,42] })).bind fun x41 =>
 (bif x41 then
 (loopM (R:=(Unit) ⊕ (Int)) (fun (s43:Int) =>
 (bif decide (s43<(a0.size:Int)) then
 (pf150 a0 s43 ({ data:=#[42,47] })).bind fun x48 =>
 (bif x48 then
 some (.inr (.inr (w64 (s43+2))))
 else
 some (.inl (w64 (s43+1))))
 else
 some (.inr (.inl ())))) (w64 (a1+2))).bind fun x44 =>
 (match x44 with
 | .inl x45 =>
 some (-1)
 | .inr x46 =>
 some x46)
 else
 some a1))))
def pf137 (a0:ByteArray) (a1:Int):Option (Int) :=
 ((bif decide (a1<0) then some true else (bif decide ((a0.size:Int)<=a1) then some true else ((bidx a0 a1).bind fun x3=>some (!decide (x3=123)))))).bind fun c4 =>
 (bif c4 then
 some (-1)
 else
 (loopM (R:=(Unit) ⊕ (Int)) (fun (s6:Int × Int) =>
 (bif decide (s6.2<(a0.size:Int)) then
 (pf148 a0 s6.2).bind fun x11 =>
 (bif decide (x11<0) then
 some (.inr (.inr (-1)))
 else
 (bif decide (s6.2<x11) then
 some (.inl (s6.1,x11))
 else
 (bidx a0 s6.2).bind fun x14 =>
 ((bif decide (x14=123) then
 some (w64 (s6.1+1))
 else
 some s6.1)).bind fun j15 =>
 (bidx a0 s6.2).bind fun x17 =>
 ((bif decide (x17=125) then
 some (w64 (j15 - 1))
 else
 some j15)).bind fun j18 =>
 (bif decide (j18=0) then
 some (.inr (.inr (w64 (s6.2+1))))
 else
 some (.inl (j18,w64 (s6.2+1))))))
 else
 some (.inr (.inl ())))) (0,a1)).bind fun x7 =>
 (match x7 with
 | .inl x8 =>
 some (-1)
 | .inr x9 =>
 some x9))
structure Part where
 Sym:Sym
 Code:ByteArray
 At:Int
 deriving DecidableEq,Inhabited
structure Alt where
 Parts:(List Part)
 Prec:Sym
 At:Int
 deriving DecidableEq,Inhabited
def ePart:En Part:=⟨6,fun x=>[SS x.Sym.Name,BB x.Sym.Lit,I64 x.Sym.Num,I64 x.Sym.At,SS x.Code,I64 x.At],fun _=>rfl,fun _=>NRl.nr⟩
instance:Flat ePart:=⟨fun _=>rfl⟩
instance:OOe ePart:=⟨fun x=>(inferInstance:OOl [SS x.Sym.Name,BB x.Sym.Lit,I64 x.Sym.Num,I64 x.Sym.At,SS x.Code,I64 x.At])⟩
instance:Tw ePart ePart:=⟨rfl,fun x=>(inferInstance:Vws [SS x.Sym.Name,BB x.Sym.Lit,I64 x.Sym.Num,I64 x.Sym.At,SS x.Code,I64 x.At] [SS x.Sym.Name,BB x.Sym.Lit,I64 x.Sym.Num,I64 x.Sym.At,SS x.Code,I64 x.At])⟩
instance {x:Part}:Vws (ePart.cells x) [SS x.Sym.Name,BB x.Sym.Lit,I64 x.Sym.Num,I64 x.Sym.At,SS x.Code,I64 x.At]:=(inferInstance:Vws [SS x.Sym.Name,BB x.Sym.Lit,I64 x.Sym.Num,I64 x.Sym.At,SS x.Code,I64 x.At] [SS x.Sym.Name,BB x.Sym.Lit,I64 x.Sym.Num,I64 x.Sym.At,SS x.Code,I64 x.At])
def eAlt_0:En Alt:=⟨6,fun x=>[iR ePart x.Parts,SS x.Prec.Name,BB x.Prec.Lit,I64 x.Prec.Num,I64 x.Prec.At,I64 x.At],fun _=>rfl,fun _=>NRl.nr⟩
instance:Flat eAlt_0:=⟨fun _=>rfl⟩
instance:Tw eAlt_0 eAlt_0:=⟨rfl,fun x=>(inferInstance:Vws [iR ePart x.Parts,SS x.Prec.Name,BB x.Prec.Lit,I64 x.Prec.Num,I64 x.Prec.At,I64 x.At] [iR ePart x.Parts,SS x.Prec.Name,BB x.Prec.Lit,I64 x.Prec.Num,I64 x.Prec.At,I64 x.At])⟩
instance {x:Alt}:Vws (eAlt_0.cells x) [iR ePart x.Parts,SS x.Prec.Name,BB x.Prec.Lit,I64 x.Prec.Num,I64 x.Prec.At,I64 x.At]:=(inferInstance:Vws [iR ePart x.Parts,SS x.Prec.Name,BB x.Prec.Lit,I64 x.Prec.Num,I64 x.Prec.At,I64 x.At] [iR ePart x.Parts,SS x.Prec.Name,BB x.Prec.Lit,I64 x.Prec.Num,I64 x.Prec.At,I64 x.At])
def pf114 (a0:Alt):Option (Bool) :=
 (loopM (R:=(Unit) ⊕ (Bool)) (fun (s1:Int) =>
 (bif decide (s1<(a0.Parts.length:Int)) then
 (idx a0.Parts s1).bind fun x6 =>
 ((bif decide (x6.Code={ data:=#[] }) then ((pf134 x6.Sym false true).bind fun x8=>(bif !x8 then some true else (bif !decide (x6.Code={ data:=#[] }) then ((pf136 x6.Sym).bind fun x11=>(bif !x11 then some true else ((pf137 x6.Code 0).bind fun x13=>some (!decide (x13=(x6.Code.size:Int)))))) else some false))) else (bif !decide (x6.Code={ data:=#[] }) then ((pf136 x6.Sym).bind fun x15=>(bif !x15 then some true else ((pf137 x6.Code 0).bind fun x17=>some (!decide (x17=(x6.Code.size:Int)))))) else some false))).bind fun c18 =>
 (bif c18 then
 some (.inr (.inr false))
 else
 some (.inl (w64 (s1+1))))
 else
 some (.inr (.inl ())))) 0).bind fun x2 =>
 (match x2 with
 | .inl x3 =>
 (((pf136 a0.Prec).bind fun x20=>(bif x20 then some true else ((pf134 a0.Prec false true).bind fun x22=>some x22)))).bind fun c23 =>
 some c23
 | .inr x4 =>
 some x4)
structure Rule where
 Left:ByteArray
 Alts:(List Alt)
 At:Int
 deriving DecidableEq,Inhabited
structure Source where
 Pro:ByteArray
 Decls:(List Decl)
 Rules:(List Rule)
 Tail:ByteArray
 deriving DecidableEq,Inhabited
def eRule_0:En Rule:=⟨3,fun x=>[SS x.Left,iR eAlt_0 x.Alts,I64 x.At],fun _=>rfl,fun _=>NRl.nr⟩
instance:Flat eRule_0:=⟨fun _=>rfl⟩
instance:Tw eRule_0 eRule_0:=⟨rfl,fun x=>(inferInstance:Vws [SS x.Left,iR eAlt_0 x.Alts,I64 x.At] [SS x.Left,iR eAlt_0 x.Alts,I64 x.At])⟩
instance {x:Rule}:Vws (eRule_0.cells x) [SS x.Left,iR eAlt_0 x.Alts,I64 x.At]:=(inferInstance:Vws [SS x.Left,iR eAlt_0 x.Alts,I64 x.At] [SS x.Left,iR eAlt_0 x.Alts,I64 x.At])
def eSource_0:En Source:=⟨4,fun x=>[SS x.Pro,iR eDecl_0 x.Decls,iR eRule_0 x.Rules,SS x.Tail],fun _=>rfl,fun _=>NRl.nr⟩
instance:Flat eSource_0:=⟨fun _=>rfl⟩
instance:Tw eSource_0 eSource_0:=⟨rfl,fun x=>(inferInstance:Vws [SS x.Pro,iR eDecl_0 x.Decls,iR eRule_0 x.Rules,SS x.Tail] [SS x.Pro,iR eDecl_0 x.Decls,iR eRule_0 x.Rules,SS x.Tail])⟩
instance {x:Source}:Vws (eSource_0.cells x) [SS x.Pro,iR eDecl_0 x.Decls,iR eRule_0 x.Rules,SS x.Tail]:=(inferInstance:Vws [SS x.Pro,iR eDecl_0 x.Decls,iR eRule_0 x.Rules,SS x.Tail] [SS x.Pro,iR eDecl_0 x.Decls,iR eRule_0 x.Rules,SS x.Tail])
def pf86 (a0:Source):Option (Bool) :=
 (loopM (R:=(Unit) ⊕ (Bool)) (fun (s1:Int) =>
 (bif decide (w64 (s1+1)<(a0.Pro.size:Int)) then
 (cutO a0.Pro s1 (w64 (s1+2))).bind fun x6 =>
 (bif decide (x6={ data:=#[37,125] }) then
 some (.inr (.inr false))
 else
 some (.inl (w64 (s1+1))))
 else
 some (.inr (.inl ())))) 0).bind fun x2 =>
 (match x2 with
 | .inl x3 =>
 (loopM (R:=(Unit) ⊕ (Bool)) (fun (s8:Int) =>
 (bif decide (s8<(a0.Decls.length:Int)) then
 (idx a0.Decls s8).bind fun x13 =>
 (pf112 x13).bind fun x14 =>
 (bif !x14 then
 some (.inr (.inr false))
 else
 some (.inl (w64 (s8+1))))
 else
 some (.inr (.inl ())))) 0).bind fun x9 =>
 (match x9 with
 | .inl x10 =>
 (loopM (R:=(Unit) ⊕ (Bool)) (fun (s16:Int) =>
 (bif decide (s16<(a0.Rules.length:Int)) then
 (idx a0.Rules s16).bind fun x21 =>
 (((pf113 x21.Left).bind fun x22=>(bif !x22 then some true else some (decide ((x21.Alts.length:Int)=0))))).bind fun c24 =>
 (bif c24 then
 some (.inr (.inr false))
 else
 (loopM (R:=(Unit) ⊕ (Bool)) (fun (s26:Int) =>
 (bif decide (s26<(x21.Alts.length:Int)) then
 (idx x21.Alts s26).bind fun x31 =>
 (pf114 x31).bind fun x32 =>
 (bif !x32 then
 some (.inr (.inr false))
 else
 some (.inl (w64 (s26+1))))
 else
 some (.inr (.inl ())))) 0).bind fun x27 =>
 (match x27 with
 | .inl x28 =>
 some (.inl (w64 (s16+1)))
 | .inr x29 =>
 some (.inr (.inr x29))))
 else
 some (.inr (.inl ())))) 0).bind fun x17 =>
 (match x17 with
 | .inl x18 =>
 some (decide (0<(a0.Rules.length:Int)))
 | .inr x19 =>
 some x19)
 | .inr x11 =>
 some x11)
 | .inr x4 =>
 some x4)
structure Tok where
 Name:ByteArray
 Lit:Bool
 Num:Int
 Level:Int
 Assoc:Int
 Tag:ByteArray
 deriving DecidableEq,Inhabited
structure Non where
 Name:ByteArray
 Tag:ByteArray
 deriving DecidableEq,Inhabited
structure Prod where
 Left:Int
 Right:(List Int)
 Prec:Int
 Code:ByteArray
 Args:(List Int)
 At:Int
 deriving DecidableEq,Inhabited
structure Grammar where
 Toks:(List Tok)
 Nons:(List Non)
 Prods:(List Prod)
 Pro:ByteArray
 Tail:ByteArray
 deriving DecidableEq,Inhabited
structure yuccaref9_maker where
 f_g:Grammar
 f_given:(List Bool)
 f_types:(List Non)
 f_lefts:(List ByteArray)
 f_e:Int
 f_at:Int
 f_name:ByteArray
 f_level:Int
 f_inner:Int
 deriving DecidableEq,Inhabited
def eTok:En Tok:=⟨6,fun x=>[SS x.Name,BB x.Lit,I64 x.Num,I64 x.Level,I64 x.Assoc,SS x.Tag],fun _=>rfl,fun _=>NRl.nr⟩
instance:Flat eTok:=⟨fun _=>rfl⟩
instance:OOe eTok:=⟨fun x=>(inferInstance:OOl [SS x.Name,BB x.Lit,I64 x.Num,I64 x.Level,I64 x.Assoc,SS x.Tag])⟩
instance:Tw eTok eTok:=⟨rfl,fun x=>(inferInstance:Vws [SS x.Name,BB x.Lit,I64 x.Num,I64 x.Level,I64 x.Assoc,SS x.Tag] [SS x.Name,BB x.Lit,I64 x.Num,I64 x.Level,I64 x.Assoc,SS x.Tag])⟩
instance {x:Tok}:Vws (eTok.cells x) [SS x.Name,BB x.Lit,I64 x.Num,I64 x.Level,I64 x.Assoc,SS x.Tag]:=(inferInstance:Vws [SS x.Name,BB x.Lit,I64 x.Num,I64 x.Level,I64 x.Assoc,SS x.Tag] [SS x.Name,BB x.Lit,I64 x.Num,I64 x.Level,I64 x.Assoc,SS x.Tag])
def eNon:En Non:=⟨2,fun x=>[SS x.Name,SS x.Tag],fun _=>rfl,fun _=>NRl.nr⟩
instance:Flat eNon:=⟨fun _=>rfl⟩
instance:OOe eNon:=⟨fun x=>(inferInstance:OOl [SS x.Name,SS x.Tag])⟩
instance:Tw eNon eNon:=⟨rfl,fun x=>(inferInstance:Vws [SS x.Name,SS x.Tag] [SS x.Name,SS x.Tag])⟩
def eProd_0:En Prod:=⟨6,fun x=>[I64 x.Left,iR eI x.Right,I64 x.Prec,SS x.Code,iR eI x.Args,I64 x.At],fun _=>rfl,fun _=>NRl.nr⟩
instance:Flat eProd_0:=⟨fun _=>rfl⟩
instance:Tw eProd_0 eProd_0:=⟨rfl,fun x=>(inferInstance:Vws [I64 x.Left,iR eI x.Right,I64 x.Prec,SS x.Code,iR eI x.Args,I64 x.At] [I64 x.Left,iR eI x.Right,I64 x.Prec,SS x.Code,iR eI x.Args,I64 x.At])⟩
instance {x:Prod}:Vws (eProd_0.cells x) [I64 x.Left,iR eI x.Right,I64 x.Prec,SS x.Code,iR eI x.Args,I64 x.At]:=(inferInstance:Vws [I64 x.Left,iR eI x.Right,I64 x.Prec,SS x.Code,iR eI x.Args,I64 x.At] [I64 x.Left,iR eI x.Right,I64 x.Prec,SS x.Code,iR eI x.Args,I64 x.At])
def eGrammar_0:En Grammar:=⟨5,fun x=>[iR eTok x.Toks,iR eNon x.Nons,iR eProd_0 x.Prods,SS x.Pro,SS x.Tail],fun _=>rfl,fun _=>NRl.nr⟩
instance:Flat eGrammar_0:=⟨fun _=>rfl⟩
instance:Tw eGrammar_0 eGrammar_0:=⟨rfl,fun x=>(inferInstance:Vws [iR eTok x.Toks,iR eNon x.Nons,iR eProd_0 x.Prods,SS x.Pro,SS x.Tail] [iR eTok x.Toks,iR eNon x.Nons,iR eProd_0 x.Prods,SS x.Pro,SS x.Tail])⟩
instance {x:Grammar}:Vws (eGrammar_0.cells x) [iR eTok x.Toks,iR eNon x.Nons,iR eProd_0 x.Prods,SS x.Pro,SS x.Tail]:=(inferInstance:Vws [iR eTok x.Toks,iR eNon x.Nons,iR eProd_0 x.Prods,SS x.Pro,SS x.Tail] [iR eTok x.Toks,iR eNon x.Nons,iR eProd_0 x.Prods,SS x.Pro,SS x.Tail])
def eyuccaref9_maker_0:En yuccaref9_maker:=⟨13,fun x=>[iR eTok x.f_g.Toks,iR eNon x.f_g.Nons,iR eProd_0 x.f_g.Prods,SS x.f_g.Pro,SS x.f_g.Tail,iR eB x.f_given,iR eNon x.f_types,iR eS x.f_lefts,I64 x.f_e,I64 x.f_at,SS x.f_name,I64 x.f_level,I64 x.f_inner],fun _=>rfl,fun _=>NRl.nr⟩
instance:Flat eyuccaref9_maker_0:=⟨fun _=>rfl⟩
instance:Tw eyuccaref9_maker_0 eyuccaref9_maker_0:=⟨rfl,fun x=>(inferInstance:Vws [iR eTok x.f_g.Toks,iR eNon x.f_g.Nons,iR eProd_0 x.f_g.Prods,SS x.f_g.Pro,SS x.f_g.Tail,iR eB x.f_given,iR eNon x.f_types,iR eS x.f_lefts,I64 x.f_e,I64 x.f_at,SS x.f_name,I64 x.f_level,I64 x.f_inner] [iR eTok x.f_g.Toks,iR eNon x.f_g.Nons,iR eProd_0 x.f_g.Prods,SS x.f_g.Pro,SS x.f_g.Tail,iR eB x.f_given,iR eNon x.f_types,iR eS x.f_lefts,I64 x.f_e,I64 x.f_at,SS x.f_name,I64 x.f_level,I64 x.f_inner])⟩
instance {x:yuccaref9_maker}:Vws (eyuccaref9_maker_0.cells x) [iR eTok x.f_g.Toks,iR eNon x.f_g.Nons,iR eProd_0 x.f_g.Prods,SS x.f_g.Pro,SS x.f_g.Tail,iR eB x.f_given,iR eNon x.f_types,iR eS x.f_lefts,I64 x.f_e,I64 x.f_at,SS x.f_name,I64 x.f_level,I64 x.f_inner]:=(inferInstance:Vws [iR eTok x.f_g.Toks,iR eNon x.f_g.Nons,iR eProd_0 x.f_g.Prods,SS x.f_g.Pro,SS x.f_g.Tail,iR eB x.f_given,iR eNon x.f_types,iR eS x.f_lefts,I64 x.f_e,I64 x.f_at,SS x.f_name,I64 x.f_level,I64 x.f_inner] [iR eTok x.f_g.Toks,iR eNon x.f_g.Nons,iR eProd_0 x.f_g.Prods,SS x.f_g.Pro,SS x.f_g.Tail,iR eB x.f_given,iR eNon x.f_types,iR eS x.f_lefts,I64 x.f_e,I64 x.f_at,SS x.f_name,I64 x.f_level,I64 x.f_inner])
def eGrammar_1:En Grammar:=⟨5,fun x=>[oR eTok x.Toks,oR eNon x.Nons,oR eProd_0 x.Prods,SS x.Pro,SS x.Tail],fun _=>rfl,fun _=>NRl.nr⟩
instance:Tw eGrammar_1 eGrammar_0:=⟨rfl,fun x=>(inferInstance:Vws [oR eTok x.Toks,oR eNon x.Nons,oR eProd_0 x.Prods,SS x.Pro,SS x.Tail] [iR eTok x.Toks,iR eNon x.Nons,iR eProd_0 x.Prods,SS x.Pro,SS x.Tail])⟩
instance {x:Grammar}:Vws (eGrammar_1.cells x) [iR eTok x.Toks,iR eNon x.Nons,iR eProd_0 x.Prods,SS x.Pro,SS x.Tail]:=(inferInstance:Vws [oR eTok x.Toks,oR eNon x.Nons,oR eProd_0 x.Prods,SS x.Pro,SS x.Tail] [iR eTok x.Toks,iR eNon x.Nons,iR eProd_0 x.Prods,SS x.Pro,SS x.Tail])
def eyuccaref9_maker_r:En yuccaref9_maker:=⟨13,fun x=>[oR eTok x.f_g.Toks,oR eNon x.f_g.Nons,oR eProd_0 x.f_g.Prods,SS x.f_g.Pro,SS x.f_g.Tail,oR eB x.f_given,oR eNon x.f_types,oR eS x.f_lefts,I64 x.f_e,I64 x.f_at,SS x.f_name,I64 x.f_level,I64 x.f_inner],fun _=>rfl,fun _=>NRl.nr⟩
instance {x:yuccaref9_maker}:Vws (eyuccaref9_maker_r.cells x) [iR eTok x.f_g.Toks,iR eNon x.f_g.Nons,iR eProd_0 x.f_g.Prods,SS x.f_g.Pro,SS x.f_g.Tail,iR eB x.f_given,iR eNon x.f_types,iR eS x.f_lefts,I64 x.f_e,I64 x.f_at,SS x.f_name,I64 x.f_level,I64 x.f_inner]:=(inferInstance:Vws [oR eTok x.f_g.Toks,oR eNon x.f_g.Nons,oR eProd_0 x.f_g.Prods,SS x.f_g.Pro,SS x.f_g.Tail,oR eB x.f_given,oR eNon x.f_types,oR eS x.f_lefts,I64 x.f_e,I64 x.f_at,SS x.f_name,I64 x.f_level,I64 x.f_inner] [iR eTok x.f_g.Toks,iR eNon x.f_g.Nons,iR eProd_0 x.f_g.Prods,SS x.f_g.Pro,SS x.f_g.Tail,iR eB x.f_given,iR eNon x.f_types,iR eS x.f_lefts,I64 x.f_e,I64 x.f_at,SS x.f_name,I64 x.f_level,I64 x.f_inner])
def pf88 (a0:yuccaref9_maker) (a1:Int) (a2:ByteArray):Option (yuccaref9_maker) :=
 ((bif decide (a0.f_e=0) then
 some (⟨a0.f_g,a0.f_given,a0.f_types,a0.f_lefts,3,a1,a2,a0.f_level,a0.f_inner⟩:yuccaref9_maker)
 else
 some a0)).bind fun j1 =>
 some j1
def pf92 (a0:yuccaref9_maker) (a1:ByteArray):Option (Int) :=
 (loopM (R:=(Unit) ⊕ (Int)) (fun (s1:Int) =>
 (bif decide (s1<(a0.f_types.length:Int)) then
 (idx a0.f_types s1).bind fun x6 =>
 (bif decide (x6.Name=a1) then
 some (.inr (.inr s1))
 else
 some (.inl (w64 (s1+1))))
 else
 some (.inr (.inl ())))) 0).bind fun x2 =>
 (match x2 with
 | .inl x3 =>
 some (-1)
 | .inr x4 =>
 some x4)
def pf89 (a0:yuccaref9_maker) (a1:Sym):Option (Int) :=
 (loopM (R:=(Unit) ⊕ (Int)) (fun (s1:Int) =>
 (bif decide (s1<(a0.f_g.Toks.length:Int)) then
 (((idx a0.f_g.Toks s1).bind fun x6=>(bif decide (x6.Name=a1.Name) then ((idx a0.f_g.Toks s1).bind fun x8=>(bif (x8.Lit == a1.Lit) then some (!decide (s1=2)) else some false)) else some false))).bind fun c10 =>
 (bif c10 then
 some (.inr (.inr s1))
 else
 some (.inl (w64 (s1+1))))
 else
 some (.inr (.inl ())))) 1).bind fun x2 =>
 (match x2 with
 | .inl x3 =>
 some (-1)
 | .inr x4 =>
 some x4)
def pf116 (a0:yuccaref9_maker) (a1:Int):Option (Int) :=
 (loopM (R:=(Unit) ⊕ (Int)) (fun (s1:Int) =>
 (bif decide (s1<(a0.f_g.Toks.length:Int)) then
 (idx a0.f_g.Toks s1).bind fun x6 =>
 (bif decide (x6.Num=a1) then
 some (.inr (.inr s1))
 else
 some (.inl (w64 (s1+1))))
 else
 some (.inr (.inl ())))) 3).bind fun x2 =>
 (match x2 with
 | .inl x3 =>
 some (-1)
 | .inr x4 =>
 some x4)
def pf115 (a0:yuccaref9_maker) (a1:Sym):Option (Int × yuccaref9_maker) :=
 (pf89 a0 a1).bind fun x1 =>
 (bif decide (0<=x1) then
 some (x1,a0)
 else
 ((bif a1.Lit then
 (bidx a1.Name 0).bind fun x5 =>
 (pf116 a0 (w64 x5)).bind fun x6 =>
 ((bif decide (0<=x6) then
 (pf88 a0 a1.At a1.Name).bind fun x9 =>
 some x9
 else
 some a0)).bind fun j7 =>
 some (j7,w64 x5)
 else
 some (a0,0))).bind fun j3 =>
 (appO j3.1.f_g.Toks [(⟨a1.Name,a1.Lit,j3.2,0,0,{ data:=#[] }⟩:Tok)]).bind fun x10 =>
 (appO j3.1.f_given [a1.Lit]).bind fun x11 =>
 some (w64 (((j3.1.f_g.Toks++[(⟨a1.Name,a1.Lit,j3.2,0,0,{ data:=#[] }⟩:Tok)]).length:Int) - 1),(⟨(⟨j3.1.f_g.Toks++[(⟨a1.Name,a1.Lit,j3.2,0,0,{ data:=#[] }⟩:Tok)],j3.1.f_g.Nons,j3.1.f_g.Prods,j3.1.f_g.Pro,j3.1.f_g.Tail⟩:Grammar),j3.1.f_given++[a1.Lit],j3.1.f_types,j3.1.f_lefts,j3.1.f_e,j3.1.f_at,j3.1.f_name,j3.1.f_level,j3.1.f_inner⟩:yuccaref9_maker)))
def pf87 (a0:yuccaref9_maker) (a1:Decl) (a2:Sym):Option (yuccaref9_maker) :=
 (bif decide (a1.Kind=5) then
 (pf92 a0 a2.Name).bind fun x2 =>
 ((bif decide (x2<0) then
 (appO a0.f_types [(⟨a2.Name,a1.Tag⟩:Non)]).bind fun x5 =>
 some (⟨a0.f_g,a0.f_given,a0.f_types++[(⟨a2.Name,a1.Tag⟩:Non)],a0.f_lefts,a0.f_e,a0.f_at,a0.f_name,a0.f_level,a0.f_inner⟩:yuccaref9_maker)
 else
 (idx a0.f_types x2).bind fun x6 =>
 ((bif !decide (x6.Tag=a1.Tag) then
 (pf88 a0 a2.At a2.Name).bind fun x9 =>
 some x9
 else
 some a0)).bind fun j7 =>
 some j7)).bind fun j3 =>
 some j3
 else
 (pf115 a0 a2).bind fun x10 =>
 (idx x10.2.f_g.Toks x10.1).bind fun x11 =>
 ((bif !decide (a1.Kind=1) then
 ((bif decide (0<x11.Level) then
 (pf88 x10.2 a2.At a2.Name).bind fun x16 =>
 some (⟨(⟨x10.2.f_g.Toks,x16.f_g.Nons,x16.f_g.Prods,x16.f_g.Pro,x16.f_g.Tail⟩:Grammar),x16.f_given,x16.f_types,x16.f_lefts,x16.f_e,x16.f_at,x16.f_name,x16.f_level,x16.f_inner⟩:yuccaref9_maker)
 else
 some x10.2)).bind fun j14 =>
 (idx j14.f_g.Toks x10.1).bind fun x17 =>
 some (⟨(⟨(j14.f_g.Toks.set x10.1.toNat (⟨x17.Name,x17.Lit,x17.Num,j14.f_level,x17.Assoc,x17.Tag⟩:Tok)).set x10.1.toNat (⟨(⟨x17.Name,x17.Lit,x17.Num,j14.f_level,x17.Assoc,x17.Tag⟩:Tok).Name,(⟨x17.Name,x17.Lit,x17.Num,j14.f_level,x17.Assoc,x17.Tag⟩:Tok).Lit,(⟨x17.Name,x17.Lit,x17.Num,j14.f_level,x17.Assoc,x17.Tag⟩:Tok).Num,(⟨x17.Name,x17.Lit,x17.Num,j14.f_level,x17.Assoc,x17.Tag⟩:Tok).Level,w64 (a1.Kind - 1),(⟨x17.Name,x17.Lit,x17.Num,j14.f_level,x17.Assoc,x17.Tag⟩:Tok).Tag⟩:Tok),j14.f_g.Nons,j14.f_g.Prods,j14.f_g.Pro,j14.f_g.Tail⟩:Grammar),j14.f_given,j14.f_types,j14.f_lefts,j14.f_e,j14.f_at,j14.f_name,j14.f_level,j14.f_inner⟩:yuccaref9_maker)
 else
 some x10.2)).bind fun j12 =>
 (idx j12.f_g.Toks x10.1).bind fun x18 =>
 ((bif decide (0<a2.Num) then
 ((bif decide (x10.1=1) then some true else ((idx j12.f_given x10.1).bind fun x22=>(bif x22 then some true else ((pf116 j12 a2.Num).bind fun x24=>some (decide (0<=x24))))))).bind fun c25 =>
 ((bif c25 then
 (pf88 j12 a2.At a2.Name).bind fun x28 =>
 some (⟨(⟨j12.f_g.Toks,x28.f_g.Nons,x28.f_g.Prods,x28.f_g.Pro,x28.f_g.Tail⟩:Grammar),x28.f_given,x28.f_types,x28.f_lefts,x28.f_e,x28.f_at,x28.f_name,x28.f_level,x28.f_inner⟩:yuccaref9_maker)
 else
 some j12)).bind fun j26 =>
 (idx j26.f_g.Toks x10.1).bind fun x29 =>
 (idx j26.f_given x10.1).bind fun x30 =>
 some (⟨(⟨j26.f_g.Toks.set x10.1.toNat (⟨x29.Name,x29.Lit,a2.Num,x29.Level,x29.Assoc,x29.Tag⟩:Tok),j26.f_g.Nons,j26.f_g.Prods,j26.f_g.Pro,j26.f_g.Tail⟩:Grammar),j26.f_given.set x10.1.toNat true,j26.f_types,j26.f_lefts,j26.f_e,j26.f_at,j26.f_name,j26.f_level,j26.f_inner⟩:yuccaref9_maker)
 else
 some j12)).bind fun j19 =>
 (idx j19.f_g.Toks x10.1).bind fun x31 =>
 ((bif !decide (a1.Tag={ data:=#[] }) then
 ((bif !decide (x31.Tag={ data:=#[] }) then some (!decide (x31.Tag=a1.Tag)) else some false)).bind fun c35 =>
 ((bif c35 then
 (pf88 j19 a2.At a2.Name).bind fun x38 =>
 some (⟨(⟨j19.f_g.Toks,x38.f_g.Nons,x38.f_g.Prods,x38.f_g.Pro,x38.f_g.Tail⟩:Grammar),x38.f_given,x38.f_types,x38.f_lefts,x38.f_e,x38.f_at,x38.f_name,x38.f_level,x38.f_inner⟩:yuccaref9_maker)
 else
 some j19)).bind fun j36 =>
 (idx j36.f_g.Toks x10.1).bind fun x39 =>
 some (⟨(⟨j36.f_g.Toks.set x10.1.toNat (⟨x39.Name,x39.Lit,x39.Num,x39.Level,x39.Assoc,a1.Tag⟩:Tok),j36.f_g.Nons,j36.f_g.Prods,j36.f_g.Pro,j36.f_g.Tail⟩:Grammar),j36.f_given,j36.f_types,j36.f_lefts,j36.f_e,j36.f_at,j36.f_name,j36.f_level,j36.f_inner⟩:yuccaref9_maker)
 else
 some j19)).bind fun j32 =>
 some j32)
def pf90 (a0:yuccaref9_maker) (a1:ByteArray):Option (Int) :=
 (loopM (R:=(Unit) ⊕ (Int)) (fun (s1:Int) =>
 (bif decide (s1<(a0.f_lefts.length:Int)) then
 (idx a0.f_lefts s1).bind fun x6 =>
 (bif decide (x6=a1) then
 some (.inr (.inr s1))
 else
 some (.inl (w64 (s1+1))))
 else
 some (.inr (.inl ())))) 0).bind fun x2 =>
 (match x2 with
 | .inl x3 =>
 some (-1)
 | .inr x4 =>
 some x4)
def pf117 (a0:yuccaref9_maker) (a1:Sym):Option (Int × yuccaref9_maker) :=
 (bif a1.Lit then
 (pf115 a0 a1).bind fun x2 =>
 some (x2.1,x2.2)
 else
 (pf90 a0 a1.Name).bind fun x3 =>
 (bif decide (0<=x3) then
 some (w64 (1001+x3),a0)
 else
 (pf89 a0 a1).bind fun x5 =>
 (bif decide (x5<0) then
 (pf88 a0 a1.At a1.Name).bind fun x7 =>
 some (0,x7)
 else
 some (x5,a0))))
def pf91 (a0:yuccaref9_maker) (a1:ByteArray) (a2:Alt):Option (yuccaref9_maker) :=
 (pf90 a0 a1).bind fun x1 =>
 (loopM (R:=yuccaref9_maker × List Int × ByteArray × Int) (fun (s2:yuccaref9_maker × List Int × ByteArray × Int × Int) =>
 (bif decide (s2.2.2.2.2<(a2.Parts.length:Int)) then
 ((idx a2.Parts s2.2.2.2.2).bind fun x7 =>
 (((bif decide (x7.Code={ data:=#[] }) then
 (pf117 s2.1 x7.Sym).bind fun x11 =>
 (appO s2.2.1 [x11.1]).bind fun x12 =>
 some (x11.2,s2.2.1++[x11.1],s2.2.2.1,s2.2.2.2.1)
 else
 ((bif decide (w64 (s2.2.2.2.2+1)=(a2.Parts.length:Int)) then
 some (s2.1.f_g.Prods,s2.1.f_inner,s2.2.1,x7.Code,x7.At)
 else
 (appO ([]:List Int) s2.2.1).bind fun x15 =>
 (appO s2.1.f_g.Prods [(⟨w64 ((s2.1.f_lefts.length:Int)+(w64 (s2.1.f_inner+1))),([]:List Int),(-1),x7.Code,([]:List Int)++s2.2.1,x7.At⟩:Prod)]).bind fun x16 =>
 (appO s2.2.1 [w64 ((w64 (1000+(s2.1.f_lefts.length:Int)))+(w64 (s2.1.f_inner+1)))]).bind fun x17 =>
 some (s2.1.f_g.Prods++[(⟨w64 ((s2.1.f_lefts.length:Int)+(w64 (s2.1.f_inner+1))),([]:List Int),(-1),x7.Code,([]:List Int)++s2.2.1,x7.At⟩:Prod)],w64 (s2.1.f_inner+1),s2.2.1++[w64 ((w64 (1000+(s2.1.f_lefts.length:Int)))+(w64 (s2.1.f_inner+1)))],s2.2.2.1,s2.2.2.2.1))).bind fun j13 =>
 some ((⟨(⟨s2.1.f_g.Toks,s2.1.f_g.Nons,j13.1,s2.1.f_g.Pro,s2.1.f_g.Tail⟩:Grammar),s2.1.f_given,s2.1.f_types,s2.1.f_lefts,s2.1.f_e,s2.1.f_at,s2.1.f_name,s2.1.f_level,j13.2.1⟩:yuccaref9_maker),j13.2.2.1,j13.2.2.2.1,j13.2.2.2.2))).bind fun j9 =>
 some (j9.1,j9.2.1,j9.2.2.1,j9.2.2.2)).bind fun j8 =>
 some (j8.1,j8.2.1,j8.2.2.1,j8.2.2.2)).bind fun j6 =>
 some (.inl (j6.1,j6.2.1,j6.2.2.1,j6.2.2.2,w64 (s2.2.2.2.2+1)))
 else
 some (.inr (s2.1,s2.2.1,s2.2.2.1,s2.2.2.2.1)))) (a0,([]:List Int),{ data:=#[] },a2.At,0)).bind fun x3 =>
 (loopM (R:=Int) (fun (s18:Int × Int) =>
 (bif decide (s18.2<(x3.2.1.length:Int)) then
 ((idx x3.2.1 s18.2).bind fun x23 =>
 ((bif decide (x23<1000) then
 (idx x3.2.1 s18.2).bind fun x26 =>
 some x26
 else
 some s18.1)).bind fun j24 =>
 some j24).bind fun j22 =>
 some (.inl (j22,w64 (s18.2+1)))
 else
 some (.inr s18.1))) ((-1),0)).bind fun x19 =>
 ((bif !decide (a2.Prec.Name={ data:=#[] }) then
 ((bif a2.Prec.Lit then some true else ((pf90 x3.1 a2.Prec.Name).bind fun x30=>some (decide (x30<0))))).bind fun c31 =>
 ((bif c31 then
 (pf117 x3.1 a2.Prec).bind fun x34 =>
 some (x34.2,x34.1)
 else
 (pf88 x3.1 a2.Prec.At a2.Prec.Name).bind fun x35 =>
 some (x35,(-1)))).bind fun j32 =>
 some (j32.1,j32.2)
 else
 some (x3.1,x19))).bind fun j27 =>
 (appO ([]:List Int) x3.2.1).bind fun x36 =>
 (appO j27.1.f_g.Prods [(⟨w64 (1+x1),x3.2.1,j27.2,x3.2.2.1,([]:List Int)++x3.2.1,x3.2.2.2⟩:Prod)]).bind fun x37 =>
 some (⟨(⟨j27.1.f_g.Toks,j27.1.f_g.Nons,j27.1.f_g.Prods++[(⟨w64 (1+x1),x3.2.1,j27.2,x3.2.2.1,([]:List Int)++x3.2.1,x3.2.2.2⟩:Prod)],j27.1.f_g.Pro,j27.1.f_g.Tail⟩:Grammar),j27.1.f_given,j27.1.f_types,j27.1.f_lefts,j27.1.f_e,j27.1.f_at,j27.1.f_name,j27.1.f_level,j27.1.f_inner⟩:yuccaref9_maker)
def pf63 (a0:Source):Option (Grammar × Int × Int × ByteArray) :=
 (pf86 a0).bind fun x1 =>
 (bif !x1 then
 some ((⟨([]:List Tok),([]:List Non),([]:List Prod),{ data:=#[] },{ data:=#[] }⟩:Grammar),1,0,{ data:=#[] })
 else
 (mkO 3 false).bind fun x3 =>
 (loopM (R:=yuccaref9_maker × ByteArray) (fun (s4:yuccaref9_maker × ByteArray × Int) =>
 (bif decide (s4.2.2<(a0.Decls.length:Int)) then
 (idx a0.Decls s4.2.2).bind fun x8 =>
 ((bif decide (2<=x8.Kind) then some (decide (x8.Kind<=4)) else some false)).bind fun c10 =>
 ((bif c10 then
 some (w64 (s4.1.f_level+1))
 else
 some s4.1.f_level)).bind fun j11 =>
 (loopM (R:=yuccaref9_maker × ByteArray) (fun (s13:yuccaref9_maker × ByteArray × Int) =>
 (bif decide (s13.2.2<(x8.Syms.length:Int)) then
 ((bif !decide (x8.Kind=6) then
 (idx x8.Syms s13.2.2).bind fun x19 =>
 (pf87 s13.1 x8 x19).bind fun x20 =>
 some (x20,s13.2.1)
 else
 ((bif !decide (s13.2.1={ data:=#[] }) then
 (idx x8.Syms s13.2.2).bind fun x23 =>
 (idx x8.Syms s13.2.2).bind fun x24 =>
 (pf88 s13.1 x23.At x24.Name).bind fun x25 =>
 some x25
 else
 some s13.1)).bind fun j21 =>
 (idx x8.Syms s13.2.2).bind fun x26 =>
 some (j21,x26.Name))).bind fun j17 =>
 some (.inl (j17.1,j17.2,w64 (s13.2.2+1)))
 else
 some (.inr (s13.1,s13.2.1)))) ((⟨s4.1.f_g,s4.1.f_given,s4.1.f_types,s4.1.f_lefts,s4.1.f_e,s4.1.f_at,s4.1.f_name,j11,s4.1.f_inner⟩:yuccaref9_maker),s4.2.1,0)).bind fun x14 =>
 some (.inl (x14.1,x14.2,w64 (s4.2.2+1)))
 else
 some (.inr (s4.1,s4.2.1)))) ((⟨(⟨[(⟨{ data:=#[36,101,110,100] },false,0,0,0,{ data:=#[] }⟩:Tok),(⟨{ data:=#[101,114,114,111,114] },false,(-1),0,0,{ data:=#[] }⟩:Tok),(⟨{ data:=#[36,117,110,107] },false,(-1),0,0,{ data:=#[] }⟩:Tok)],[],[],{ data:=#[] },{ data:=#[] }⟩:Grammar),x3,[],[],0,0,{ data:=#[] },0,0⟩:yuccaref9_maker),{ data:=#[] },0)).bind fun x5 =>
 (loopM (R:=yuccaref9_maker) (fun (s27:yuccaref9_maker × Int) =>
 (bif decide (s27.2<(a0.Rules.length:Int)) then
 ((idx a0.Rules s27.2).bind fun x32 =>
 (pf89 s27.1 (⟨x32.Left,false,0,0⟩:Sym)).bind fun x33 =>
 ((bif decide (0<=x33) then
 (pf88 s27.1 x32.At x32.Left).bind fun x36 =>
 some x36
 else
 some s27.1)).bind fun j34 =>
 (pf90 j34 x32.Left).bind fun x37 =>
 ((bif decide (x37<0) then
 (appO j34.f_lefts [x32.Left]).bind fun x40 =>
 some (j34.f_lefts++[x32.Left])
 else
 some j34.f_lefts)).bind fun j38 =>
 some (⟨j34.f_g,j34.f_given,j34.f_types,j38,j34.f_e,j34.f_at,j34.f_name,j34.f_level,j34.f_inner⟩:yuccaref9_maker)).bind fun j31 =>
 some (.inl (j31,w64 (s27.2+1)))
 else
 some (.inr s27.1))) (x5.1,0)).bind fun x28 =>
 (loopM (R:=yuccaref9_maker) (fun (s41:yuccaref9_maker × Int) =>
 (bif decide (s41.2<(a0.Decls.length:Int)) then
 (loopM (R:=yuccaref9_maker) (fun (s45:yuccaref9_maker × Int) =>
 (idx a0.Decls s41.2).bind fun x48 =>
 (bif decide (s45.2<(x48.Syms.length:Int)) then
 ((idx a0.Decls s41.2).bind fun x51 =>
 (idx x51.Syms s45.2).bind fun x52 =>
 (((idx a0.Decls s41.2).bind fun x53=>(bif decide (5<=x53.Kind) then ((pf90 s45.1 x52.Name).bind fun x55=>some (decide (x55<0))) else some false))).bind fun c56 =>
 ((bif c56 then
 (pf88 s45.1 x52.At x52.Name).bind fun x59 =>
 some x59
 else
 some s45.1)).bind fun j57 =>
 some j57).bind fun j50 =>
 some (.inl (j50,w64 (s45.2+1)))
 else
 some (.inr s45.1))) (s41.1,0)).bind fun x46 =>
 some (.inl (x46,w64 (s41.2+1)))
 else
 some (.inr s41.1))) (x28,0)).bind fun x42 =>
 ((bif decide (x5.2={ data:=#[] }) then
 (idx a0.Rules 0).bind fun x62 =>
 some x62.Left
 else
 some x5.2)).bind fun j60 =>
 (pf90 x42 j60).bind fun x63 =>
 (loopM (R:=yuccaref9_maker) (fun (s64:yuccaref9_maker × Int) =>
 (bif decide (s64.2<(a0.Rules.length:Int)) then
 (loopM (R:=yuccaref9_maker) (fun (s68:yuccaref9_maker × Int) =>
 (idx a0.Rules s64.2).bind fun x71 =>
 (bif decide (s68.2<(x71.Alts.length:Int)) then
 (idx a0.Rules s64.2).bind fun x73 =>
 (idx a0.Rules s64.2).bind fun x74 =>
 (idx x74.Alts s68.2).bind fun x75 =>
 (pf91 s68.1 x73.Left x75).bind fun x76 =>
 some (.inl (x76,w64 (s68.2+1)))
 else
 some (.inr s68.1))) (s64.1,0)).bind fun x69 =>
 some (.inl (x69,w64 (s64.2+1)))
 else
 some (.inr s64.1))) ((⟨(⟨x42.f_g.Toks,x42.f_g.Nons,[(⟨0,[w64 (1001+x63)],(-1),{ data:=#[] },([]:List Int),0⟩:Prod)],x42.f_g.Pro,x42.f_g.Tail⟩:Grammar),x42.f_given,x42.f_types,x42.f_lefts,x42.f_e,x42.f_at,x42.f_name,x42.f_level,x42.f_inner⟩:yuccaref9_maker),0)).bind fun x65 =>
 (bif !decide (x65.f_e=0) then
 some ((⟨([]:List Tok),([]:List Non),([]:List Prod),{ data:=#[] },{ data:=#[] }⟩:Grammar),x65.f_e,x65.f_at,x65.f_name)
 else
 (loopM (R:=List Non) (fun (s78:List Non × Int) =>
 (bif decide (s78.2<(x65.f_lefts.length:Int)) then
 (idx x65.f_lefts s78.2).bind fun x82 =>
 (pf92 (⟨(⟨x65.f_g.Toks,s78.1,x65.f_g.Prods,x65.f_g.Pro,x65.f_g.Tail⟩:Grammar),x65.f_given,x65.f_types,x65.f_lefts,x65.f_e,x65.f_at,x65.f_name,x65.f_level,x65.f_inner⟩:yuccaref9_maker) x82).bind fun x83 =>
 ((bif decide (0<=x83) then
 (idx x65.f_types x83).bind fun x86 =>
 some x86.Tag
 else
 some ({ data:=#[] }))).bind fun j84 =>
 (appO s78.1 [(⟨x82,j84⟩:Non)]).bind fun x87 =>
 some (.inl (s78.1++[(⟨x82,j84⟩:Non)],w64 (s78.2+1)))
 else
 some (.inr s78.1))) ([(⟨{ data:=#[36,97,99,99,101,112,116] },{ data:=#[] }⟩:Non)],0)).bind fun x79 =>
 (loopM (R:=List Non) (fun (s88:List Non × Int) =>
 (bif decide (s88.2<=x65.f_inner) then
 (pf13 s88.2).bind fun x92 =>
 (catO ({ data:=#[64] }) x92).bind fun x93 =>
 (appO s88.1 [(⟨x93,{ data:=#[] }⟩:Non)]).bind fun x94 =>
 some (.inl (s88.1++[(⟨x93,{ data:=#[] }⟩:Non)],w64 (s88.2+1)))
 else
 some (.inr s88.1))) (x79,1)).bind fun x89 =>
 (loopM (R:=List Tok) (fun (s95:List Tok × Int × Int) =>
 (bif decide (s95.2.2<(s95.1.length:Int)) then
 ((idx x65.f_given s95.2.2).bind fun x100 =>
 ((bif !x100 then
 (idx s95.1 s95.2.2).bind fun x103 =>
 some (s95.1.set s95.2.2.toNat (⟨x103.Name,x103.Lit,s95.2.1,x103.Level,x103.Assoc,x103.Tag⟩:Tok),w64 (s95.2.1+1))
 else
 some (s95.1,s95.2.1))).bind fun j101 =>
 some (j101.1,j101.2)).bind fun j99 =>
 some (.inl (j99.1,j99.2,w64 (s95.2.2+1)))
 else
 some (.inr s95.1))) (x65.f_g.Toks,57346,3)).bind fun x96 =>
 ((bif decide (40<(x96.length:Int)) then some true else (bif decide (24<(x89.length:Int)) then some true else some (decide (60<(x65.f_g.Prods.length:Int)))))).bind fun c106 =>
 (loopM (R:=Bool) (fun (s107:Bool × Int) =>
 (bif decide (s107.2<(x65.f_g.Prods.length:Int)) then
 ((bif s107.1 then some true else ((idx x65.f_g.Prods s107.2).bind fun x112=>some (decide (8<(x112.Right.length:Int)))))).bind fun c113 =>
 some (.inl (c113,w64 (s107.2+1)))
 else
 some (.inr s107.1))) (c106,0)).bind fun x108 =>
 (bif x108 then
 some ((⟨([]:List Tok),([]:List Non),([]:List Prod),{ data:=#[] },{ data:=#[] }⟩:Grammar),4,0,{ data:=#[] })
 else
 some ((⟨x96,x89,x65.f_g.Prods,a0.Pro,a0.Tail⟩:Grammar),0,0,{ data:=#[] }))))
def pf38 (a0:Source):Option (Grammar × Bool) :=
 (pf63 a0).bind fun x1 =>
 some (x1.1,decide (x1.2.1=0))
structure Item where
 Prod:Int
 Dot:Int
 deriving DecidableEq,Inhabited
def eItem:En Item:=⟨2,fun x=>[I64 x.Prod,I64 x.Dot],fun _=>rfl,fun _=>NRl.nr⟩
instance:Flat eItem:=⟨fun _=>rfl⟩
instance:OOe eItem:=⟨fun x=>(inferInstance:OOl [I64 x.Prod,I64 x.Dot])⟩
instance:Tw eItem eItem:=⟨rfl,fun x=>(inferInstance:Vws [I64 x.Prod,I64 x.Dot] [I64 x.Prod,I64 x.Dot])⟩
def pf59 (a0:(List Item)) (a1:Item):Option ((List Item)) :=
 (loopM (R:=Int) (fun (s1:Int) =>
 ((bif decide (0<s1) then ((idx a0 (w64 (s1 - 1))).bind fun x5=>(bif decide (a1.Prod<x5.Prod) then some true else ((idx a0 (w64 (s1 - 1))).bind fun x7=>(bif decide (x7.Prod=a1.Prod) then ((idx a0 (w64 (s1 - 1))).bind fun x9=>some (decide (a1.Dot<x9.Dot))) else some false)))) else some false)).bind fun c10 =>
 (bif c10 then
 some (.inl (w64 (s1 - 1)))
 else
 some (.inr s1))) (a0.length:Int)).bind fun x2 =>
 ((bif decide (0<x2) then ((idx a0 (w64 (x2 - 1))).bind fun x13=>some (decide (x13.Prod=a1.Prod)&&(decide (x13.Dot=a1.Dot)&&true))) else some false)).bind fun c14 =>
 (bif c14 then
 some a0
 else
 (subO a0 0 x2).bind fun x16 =>
 (appO ([]:List Item) x16).bind fun x17 =>
 (appO (([]:List Item)++x16) [a1]).bind fun x18 =>
 (subO a0 x2 a0.length).bind fun x19 =>
 (appO ((([]:List Item)++x16)++[a1]) x19).bind fun x20 =>
 some ((([]:List Item)++x16)++[a1]++x19))
def pf60 (a0:Grammar) (a1:Item):Option (Bool) :=
 ((bif decide (0<=a1.Prod) then (bif decide (a1.Prod<(a0.Prods.length:Int)) then (bif decide (0<=a1.Dot) then ((idx a0.Prods a1.Prod).bind fun x4=>some (decide (a1.Dot<=(x4.Right.length:Int)))) else some false) else some false) else some false)).bind fun c5 =>
 some c5
def pf57 (a0:Grammar) (a1:(List Item)):Option ((List Item)) :=
 (loopM (R:=List Item) (fun (s1:List Item × Int) =>
 (bif decide (s1.2<(a1.length:Int)) then
 ((idx a1 s1.2).bind fun x6 =>
 (pf60 a0 x6).bind fun x7 =>
 ((bif x7 then
 (idx a1 s1.2).bind fun x10 =>
 (pf59 s1.1 x10).bind fun x11 =>
 some x11
 else
 some s1.1)).bind fun j8 =>
 some j8).bind fun j5 =>
 some (.inl (j5,w64 (s1.2+1)))
 else
 some (.inr s1.1))) (([]:List Item),0)).bind fun x2 =>
 some x2
def pf58 (a0:Grammar) (a1:Item):Option (Int) :=
 (((pf60 a0 a1).bind fun x1=>(bif !x1 then some true else ((idx a0.Prods a1.Prod).bind fun x3=>some (decide (a1.Dot=(x3.Right.length:Int))))))).bind fun c4 =>
 (bif c4 then
 some (-1)
 else
 (idx a0.Prods a1.Prod).bind fun x6 =>
 (idx x6.Right a1.Dot).bind fun x7 =>
 some x7)
def pf32 (a0:Grammar) (a1:(List Item)):Option ((List Item)) :=
 (pf57 a0 a1).bind fun x1 =>
 (loopM (R:=List Item) (fun (s2:List Item × Int) =>
 (bif !decide (s2.2=(s2.1.length:Int)) then
 (((loopM (R:=List Item) (fun (s8:List Item × Int) =>
 (bif decide (s8.2<(s2.1.length:Int)) then
 (idx s8.1 s8.2).bind fun x12 =>
 (pf58 a0 x12).bind fun x13 =>
 (loopM (R:=List Item) (fun (s14:List Item × Int) =>
 ((bif decide (s14.2<(a0.Prods.length:Int)) then some (decide (1000<=x13)) else some false)).bind fun c18 =>
 (bif c18 then
 ((idx a0.Prods s14.2).bind fun x21 =>
 ((bif decide (x21.Left=w64 (x13 - 1000)) then
 (pf59 s14.1 (⟨s14.2,0⟩:Item)).bind fun x24 =>
 some x24
 else
 some s14.1)).bind fun j22 =>
 some j22).bind fun j20 =>
 some (.inl (j20,w64 (s14.2+1)))
 else
 some (.inr s14.1))) (s8.1,0)).bind fun x15 =>
 (bif !decide ((x15.length:Int)=(s2.1.length:Int)) then
 some (.inr x15)
 else
 some (.inl (x15,w64 (s8.2+1))))
 else
 some (.inr s8.1))) (s2.1,0)).bind fun x9 =>
 some x9).bind fun j7 =>
 some (j7,(s2.1.length:Int))).bind fun j6 =>
 some (.inl (j6.1,j6.2))
 else
 some (.inr s2.1))) (x1,(-1))).bind fun x3 =>
 some x3
def pf41 (a0:(List Int)) (a1:Int):Option (Bool) :=
 (loopM (R:=(Unit) ⊕ (Bool)) (fun (s1:Int) =>
 (bif decide (s1<(a0.length:Int)) then
 (idx a0 s1).bind fun x6 =>
 (bif decide (x6=a1) then
 some (.inr (.inr true))
 else
 some (.inl (w64 (s1+1))))
 else
 some (.inr (.inl ())))) 0).bind fun x2 =>
 (match x2 with
 | .inl x3 =>
 some false
 | .inr x4 =>
 some x4)
def pf42 (a0:(List Int)) (a1:Int):Option ((List Int)) :=
 (loopM (R:=Int) (fun (s1:Int) =>
 ((bif decide (0<s1) then ((idx a0 (w64 (s1 - 1))).bind fun x5=>some (decide (a1<x5))) else some false)).bind fun c6 =>
 (bif c6 then
 some (.inl (w64 (s1 - 1)))
 else
 some (.inr s1))) (a0.length:Int)).bind fun x2 =>
 ((bif decide (0<x2) then ((idx a0 (w64 (x2 - 1))).bind fun x9=>some (decide (x9=a1))) else some false)).bind fun c10 =>
 (bif c10 then
 some a0
 else
 (subO a0 0 x2).bind fun x12 =>
 (appO ([]:List Int) x12).bind fun x13 =>
 (appO (([]:List Int)++x12) [a1]).bind fun x14 =>
 (subO a0 x2 a0.length).bind fun x15 =>
 (appO ((([]:List Int)++x12)++[a1]) x15).bind fun x16 =>
 some ((([]:List Int)++x12)++[a1]++x15))
def pf64 (a0:Grammar):Option ((List Int)) :=
 (loopM (R:=List Int) (fun (s1:List Int × Int) =>
 (bif decide (s1.2<(a0.Toks.length:Int)) then
 (appO s1.1 [s1.2]).bind fun x5 =>
 some (.inl (s1.1++[s1.2],w64 (s1.2+1)))
 else
 some (.inr s1.1))) (([]:List Int),0)).bind fun x2 =>
 (loopM (R:=List Int) (fun (s6:List Int × Int) =>
 (bif decide (s6.2<(a0.Nons.length:Int)) then
 (appO s6.1 [w64 (1000+s6.2)]).bind fun x10 =>
 some (.inl (s6.1++[w64 (1000+s6.2)],w64 (s6.2+1)))
 else
 some (.inr s6.1))) (x2,0)).bind fun x7 =>
 some x7
def pf65 (a0:Grammar) (a1:(List Item)) (a2:Int):Option ((List Item)) :=
 (pf32 a0 a1).bind fun x1 =>
 (loopM (R:=List Item) (fun (s2:List Item × Int) =>
 (bif decide (s2.2<(x1.length:Int)) then
 ((idx x1 s2.2).bind fun x7 =>
 (pf58 a0 x7).bind fun x8 =>
 ((bif decide (0<=x8) then some (decide (x8=a2)) else some false)).bind fun c10 =>
 ((bif c10 then
 (idx x1 s2.2).bind fun x13 =>
 (idx x1 s2.2).bind fun x14 =>
 (pf59 s2.1 (⟨x13.Prod,w64 (x14.Dot+1)⟩:Item)).bind fun x15 =>
 some x15
 else
 some s2.1)).bind fun j11 =>
 some j11).bind fun j6 =>
 some (.inl (j6,w64 (s2.2+1)))
 else
 some (.inr s2.1))) (([]:List Item),0)).bind fun x3 =>
 some x3
def pf93 (a0:(List Item)) (a1:(List Item)):Option (Bool) :=
 (bif !decide ((a0.length:Int)=(a1.length:Int)) then
 some false
 else
 (loopM (R:=(Unit) ⊕ (Bool)) (fun (s2:Int) =>
 (bif decide (s2<(a0.length:Int)) then
 (idx a0 s2).bind fun x7 =>
 (idx a1 s2).bind fun x8 =>
 (bif !(decide (x7.Prod=x8.Prod)&&(decide (x7.Dot=x8.Dot)&&true)) then
 some (.inr (.inr false))
 else
 some (.inl (w64 (s2+1))))
 else
 some (.inr (.inl ())))) 0).bind fun x3 =>
 (match x3 with
 | .inl x4 =>
 some true
 | .inr x5 =>
 some x5))
structure Move where
 Sym:Int
 To:Int
 deriving DecidableEq,Inhabited
structure State where
 Kernel:(List Item)
 Moves:(List Move)
 deriving DecidableEq,Inhabited
def eMove:En Move:=⟨2,fun x=>[I64 x.Sym,I64 x.To],fun _=>rfl,fun _=>NRl.nr⟩
instance:Flat eMove:=⟨fun _=>rfl⟩
instance:OOe eMove:=⟨fun x=>(inferInstance:OOl [I64 x.Sym,I64 x.To])⟩
instance:Tw eMove eMove:=⟨rfl,fun x=>(inferInstance:Vws [I64 x.Sym,I64 x.To] [I64 x.Sym,I64 x.To])⟩
def eState_0:En State:=⟨2,fun x=>[iR eItem x.Kernel,iR eMove x.Moves],fun _=>rfl,fun _=>NRl.nr⟩
instance:Flat eState_0:=⟨fun _=>rfl⟩
instance:Tw eState_0 eState_0:=⟨rfl,fun x=>(inferInstance:Vws [iR eItem x.Kernel,iR eMove x.Moves] [iR eItem x.Kernel,iR eMove x.Moves])⟩
def pf66 (a0:(List State)) (a1:(List Item)):Option (Int) :=
 (loopM (R:=(Unit) ⊕ (Int)) (fun (s1:Int) =>
 (bif decide (s1<(a0.length:Int)) then
 (idx a0 s1).bind fun x6 =>
 (pf93 x6.Kernel a1).bind fun x7 =>
 (bif x7 then
 some (.inr (.inr s1))
 else
 some (.inl (w64 (s1+1))))
 else
 some (.inr (.inl ())))) 0).bind fun x2 =>
 (match x2 with
 | .inl x3 =>
 some (-1)
 | .inr x4 =>
 some x4)
def eState_m:En State:=⟨2,fun x=>[iR eItem x.Kernel,oR eMove x.Moves],fun _=>rfl,fun _=>NRl.nr⟩
instance:Tw eState_m eState_0:=⟨rfl,fun x=>(inferInstance:Vws [iR eItem x.Kernel,oR eMove x.Moves] [iR eItem x.Kernel,iR eMove x.Moves])⟩
def pf39 (a0:Grammar):Option ((List State) × Int) :=
 (pf64 a0).bind fun x1 =>
 (loopM (R:=(List State) ⊕ (List State × Int)) (fun (s2:List State × Int) =>
 (bif decide (s2.2<(s2.1.length:Int)) then
 (idx s2.1 s2.2).bind fun x7 =>
 (pf32 a0 x7.Kernel).bind fun x8 =>
 (loopM (R:=List Int) (fun (s9:List Int × Int) =>
 (bif decide (s9.2<(x8.length:Int)) then
 ((idx x8 s9.2).bind fun x14 =>
 (pf58 a0 x14).bind fun x15 =>
 ((bif decide (0<=x15) then
 (pf42 s9.1 x15).bind fun x18 =>
 some x18
 else
 some s9.1)).bind fun j16 =>
 some j16).bind fun j13 =>
 some (.inl (j13,w64 (s9.2+1)))
 else
 some (.inr s9.1))) (([]:List Int),0)).bind fun x10 =>
 (loopM (R:=(List State) ⊕ (List State × Int)) (fun (s19:List State × Int) =>
 (bif decide (s19.2<(x1.length:Int)) then
 (idx x1 s19.2).bind fun x24 =>
 (pf41 x10 x24).bind fun x25 =>
 (bif !x25 then
 some (.inl (s19.1,w64 (s19.2+1)))
 else
 (idx s19.1 s2.2).bind fun x27 =>
 (idx x1 s19.2).bind fun x28 =>
 (pf65 a0 x27.Kernel x28).bind fun x29 =>
 (pf66 s19.1 x29).bind fun x30 =>
 (bif decide (x30<0) then
 (bif decide ((s19.1.length:Int)=150) then
 some (.inr (.inr (([]:List State),4)))
 else
 (appO s19.1 [(⟨x29,([]:List Move)⟩:State)]).bind fun x33 =>
 (idx (s19.1++[(⟨x29,([]:List Move)⟩:State)]) s2.2).bind fun x34 =>
 (idx x1 s19.2).bind fun x35 =>
 (appO x34.Moves [(⟨x35,(s19.1.length:Int)⟩:Move)]).bind fun x36 =>
 some (.inl ((s19.1++[(⟨x29,([]:List Move)⟩:State)]).set s2.2.toNat (⟨x34.Kernel,x34.Moves++[(⟨x35,(s19.1.length:Int)⟩:Move)]⟩:State),w64 (s19.2+1))))
 else
 (idx s19.1 s2.2).bind fun x37 =>
 (idx x1 s19.2).bind fun x38 =>
 (appO x37.Moves [(⟨x38,x30⟩:Move)]).bind fun x39 =>
 some (.inl (s19.1.set s2.2.toNat (⟨x37.Kernel,x37.Moves++[(⟨x38,x30⟩:Move)]⟩:State),w64 (s19.2+1)))))
 else
 some (.inr (.inl s19.1)))) (s2.1,0)).bind fun x20 =>
 (match x20 with
 | .inl x21 =>
 some (.inl (x21,w64 (s2.2+1)))
 | .inr x22 =>
 some (.inr (.inr (x22.1,x22.2))))
 else
 some (.inr (.inl s2.1)))) ([(⟨[(⟨0,0⟩:Item)],([]:List Move)⟩:State)],0)).bind fun x3 =>
 (match x3 with
 | .inl x4 =>
 some (x4,0)
 | .inr x5 =>
 some (x5.1,x5.2))
def pf21 (a0:Source):Option (Grammar × (List State) × Bool) :=
 (pf38 a0).bind fun x1 =>
 (bif !x1.2 then
 some (x1.1,([]:List State),false)
 else
 (pf39 x1.1).bind fun x3 =>
 some (x1.1,x3.1,decide (x3.2=0)))
def pf40 (a0:(List State)) (a1:Int) (a2:Int):Option (Int) :=
 (loopM (R:=(Unit) ⊕ (Int)) (fun (s1:Int) =>
 ((bif decide (0<=a1) then (bif decide (a1<(a0.length:Int)) then ((idx a0 a1).bind fun x7=>some (decide (s1<(x7.Moves.length:Int)))) else some false) else some false)).bind fun c8 =>
 (bif c8 then
 (idx a0 a1).bind fun x10 =>
 (idx x10.Moves s1).bind fun x11 =>
 (bif decide (x11.Sym=a2) then
 (idx a0 a1).bind fun x13 =>
 (idx x13.Moves s1).bind fun x14 =>
 some (.inr (.inr x14.To))
 else
 some (.inl (w64 (s1+1))))
 else
 some (.inr (.inl ())))) 0).bind fun x2 =>
 (match x2 with
 | .inl x3 =>
 some (-1)
 | .inr x4 =>
 some x4)
structure Cell where
 State:Int
 Tok:Int
 Shift:Int
 Accept:Bool
 Prods:(List Int)
 deriving DecidableEq,Inhabited
def eCell_0:En Cell:=⟨5,fun x=>[I64 x.State,I64 x.Tok,I64 x.Shift,BB x.Accept,iR eI x.Prods],fun _=>rfl,fun _=>NRl.nr⟩
instance:Flat eCell_0:=⟨fun _=>rfl⟩
instance:Tw eCell_0 eCell_0:=⟨rfl,fun x=>(inferInstance:Vws [I64 x.State,I64 x.Tok,I64 x.Shift,BB x.Accept,iR eI x.Prods] [I64 x.State,I64 x.Tok,I64 x.Shift,BB x.Accept,iR eI x.Prods])⟩
instance {x:Cell}:Vws (eCell_0.cells x) [I64 x.State,I64 x.Tok,I64 x.Shift,BB x.Accept,iR eI x.Prods]:=(inferInstance:Vws [I64 x.State,I64 x.Tok,I64 x.Shift,BB x.Accept,iR eI x.Prods] [I64 x.State,I64 x.Tok,I64 x.Shift,BB x.Accept,iR eI x.Prods])
def pf43 (a0:Cell):Option (Int) :=
 ((bif decide (0<=a0.Shift) then
 some (w64 ((a0.Prods.length:Int)+1))
 else
 some (a0.Prods.length:Int))).bind fun j1 =>
 ((bif a0.Accept then
 some (w64 (j1+1))
 else
 some j1)).bind fun j3 =>
 some j3
structure Look where
 State:Int
 Prod:Int
 Toks:(List Int)
 deriving DecidableEq,Inhabited
def eLook_0:En Look:=⟨3,fun x=>[I64 x.State,I64 x.Prod,iR eI x.Toks],fun _=>rfl,fun _=>NRl.nr⟩
instance:Flat eLook_0:=⟨fun _=>rfl⟩
instance:Tw eLook_0 eLook_0:=⟨rfl,fun x=>(inferInstance:Vws [I64 x.State,I64 x.Prod,iR eI x.Toks] [I64 x.State,I64 x.Prod,iR eI x.Toks])⟩
instance {x:Look}:Vws (eLook_0.cells x) [I64 x.State,I64 x.Prod,iR eI x.Toks]:=(inferInstance:Vws [I64 x.State,I64 x.Prod,iR eI x.Toks] [I64 x.State,I64 x.Prod,iR eI x.Toks])
def pf22 (a0:Grammar) (a1:(List State)) (a2:(List Look)):Option ((List Cell)) :=
 (loopM (R:=List Cell) (fun (s1:List Cell × Int) =>
 (bif decide (s1.2<(a1.length:Int)) then
 (loopM (R:=List Cell) (fun (s5:List Cell × Int) =>
 (bif decide (s5.2<(a0.Toks.length:Int)) then
 ((pf40 a1 s1.2 s5.2).bind fun x10 =>
 (loopM (R:=Bool) (fun (s11:Bool × Int) =>
 (idx a1 s1.2).bind fun x14 =>
 (bif decide (s11.2<(x14.Kernel.length:Int)) then
 (idx a1 s1.2).bind fun x16 =>
 (idx x16.Kernel s11.2).bind fun x17 =>
 ((bif s11.1 then some true else (bif decide (s5.2=0) then (bif decide (x17.Prod=0) then some (decide (x17.Dot=1)) else some false) else some false))).bind fun c21 =>
 some (.inl (c21,w64 (s11.2+1)))
 else
 some (.inr s11.1))) (false,0)).bind fun x12 =>
 (loopM (R:=List Int) (fun (s22:List Int × Int) =>
 (bif decide (s22.2<(a2.length:Int)) then
 ((((idx a2 s22.2).bind fun x27=>(bif decide (x27.State=s1.2) then ((idx a2 s22.2).bind fun x29=>((pf41 x29.Toks s5.2).bind fun x30=>some x30)) else some false))).bind fun c31 =>
 ((bif c31 then
 (idx a2 s22.2).bind fun x34 =>
 (pf42 s22.1 x34.Prod).bind fun x35 =>
 some x35
 else
 some s22.1)).bind fun j32 =>
 some j32).bind fun j26 =>
 some (.inl (j26,w64 (s22.2+1)))
 else
 some (.inr s22.1))) (([]:List Int),0)).bind fun x23 =>
 (pf43 (⟨s1.2,s5.2,x10,x12,x23⟩:Cell)).bind fun x36 =>
 ((bif decide (0<x36) then
 (appO s5.1 [(⟨s1.2,s5.2,x10,x12,x23⟩:Cell)]).bind fun x39 =>
 some (s5.1++[(⟨s1.2,s5.2,x10,x12,x23⟩:Cell)])
 else
 some s5.1)).bind fun j37 =>
 some j37).bind fun j9 =>
 some (.inl (j9,w64 (s5.2+1)))
 else
 some (.inr s5.1))) (s1.1,0)).bind fun x6 =>
 some (.inl (x6,w64 (s1.2+1)))
 else
 some (.inr s1.1))) (([]:List Cell),0)).bind fun x2 =>
 some x2
def pf67 (a0:(List (List Int))) (a1:(List (List Int))):Option ((List (List Int))) :=
 (loopM (R:=List (List Int)) (fun (s1:List (List Int) × Bool) =>
 (bif s1.2 then
 (loopM (R:=List (List Int) × Bool) (fun (s5:List (List Int) × Bool × Int) =>
 (bif decide (s5.2.2<(s5.1.length:Int)) then
 (idx a1 s5.2.2).bind fun x9 =>
 (idx s5.1 s5.2.2).bind fun x10 =>
 (loopM (R:=List (List Int)) (fun (s11:List (List Int) × Int) =>
 (bif decide (s11.2<(x9.length:Int)) then
 (loopM (R:=List (List Int)) (fun (s15:List (List Int) × Int) =>
 (idx x9 s11.2).bind fun x18 =>
 (idx s15.1 x18).bind fun x19 =>
 (bif decide (s15.2<(x19.length:Int)) then
 (idx s15.1 s5.2.2).bind fun x21 =>
 (idx x9 s11.2).bind fun x22 =>
 (idx s15.1 x22).bind fun x23 =>
 (idx x23 s15.2).bind fun x24 =>
 (pf42 x21 x24).bind fun x25 =>
 some (.inl (s15.1.set s5.2.2.toNat x25,w64 (s15.2+1)))
 else
 some (.inr s15.1))) (s11.1,0)).bind fun x16 =>
 some (.inl (x16,w64 (s11.2+1)))
 else
 some (.inr s11.1))) (s5.1,0)).bind fun x12 =>
 ((bif s5.2.1 then some true else ((idx x12 s5.2.2).bind fun x27=>some (!decide ((x27.length:Int)=(x10.length:Int)))))).bind fun c28 =>
 some (.inl (x12,c28,w64 (s5.2.2+1)))
 else
 some (.inr (s5.1,s5.2.1)))) (s1.1,false,0)).bind fun x6 =>
 some (.inl (x6.1,x6.2))
 else
 some (.inr s1.1))) (a0,true)).bind fun x2 =>
 some x2
structure Trans where
 State:Int
 Non:Int
 deriving DecidableEq,Inhabited
def eTrans:En Trans:=⟨2,fun x=>[I64 x.State,I64 x.Non],fun _=>rfl,fun _=>NRl.nr⟩
instance:Flat eTrans:=⟨fun _=>rfl⟩
instance:OOe eTrans:=⟨fun x=>(inferInstance:OOl [I64 x.State,I64 x.Non])⟩
instance:Tw eTrans eTrans:=⟨rfl,fun x=>(inferInstance:Vws [I64 x.State,I64 x.Non] [I64 x.State,I64 x.Non])⟩
def pf71 (a0:(List State)):Option ((List Trans)) :=
 (loopM (R:=List Trans) (fun (s1:List Trans × Int) =>
 (bif decide (s1.2<(a0.length:Int)) then
 (loopM (R:=List Trans) (fun (s5:List Trans × Int) =>
 (idx a0 s1.2).bind fun x8 =>
 (bif decide (s5.2<(x8.Moves.length:Int)) then
 ((idx a0 s1.2).bind fun x11 =>
 (idx x11.Moves s5.2).bind fun x12 =>
 ((bif decide (1000<=x12.Sym) then
 (idx a0 s1.2).bind fun x15 =>
 (idx x15.Moves s5.2).bind fun x16 =>
 (appO s5.1 [(⟨s1.2,x16.Sym⟩:Trans)]).bind fun x17 =>
 some (s5.1++[(⟨s1.2,x16.Sym⟩:Trans)])
 else
 some s5.1)).bind fun j13 =>
 some j13).bind fun j10 =>
 some (.inl (j10,w64 (s5.2+1)))
 else
 some (.inr s5.1))) (s1.1,0)).bind fun x6 =>
 some (.inl (x6,w64 (s1.2+1)))
 else
 some (.inr s1.1))) (([]:List Trans),0)).bind fun x2 =>
 some x2
def pf94 (a0:(List Item)):Option (Bool) :=
 (loopM (R:=(Unit) ⊕ (Bool)) (fun (s1:Int) =>
 (bif decide (s1<(a0.length:Int)) then
 (((idx a0 s1).bind fun x6=>(bif decide (x6.Prod=0) then ((idx a0 s1).bind fun x8=>some (decide (x8.Dot=1))) else some false))).bind fun c9 =>
 (bif c9 then
 some (.inr (.inr true))
 else
 some (.inl (w64 (s1+1))))
 else
 some (.inr (.inl ())))) 0).bind fun x2 =>
 (match x2 with
 | .inl x3 =>
 some false
 | .inr x4 =>
 some x4)
def pf68 (a0:(List State)):Option ((List (List Int))) :=
 (pf71 a0).bind fun x1 =>
 (loopM (R:=List (List Int)) (fun (s2:List (List Int) × Int) =>
 (bif decide (s2.2<(x1.length:Int)) then
 (idx x1 s2.2).bind fun x6 =>
 (idx x1 s2.2).bind fun x7 =>
 (pf40 a0 x6.State x7.Non).bind fun x8 =>
 (idx a0 x8).bind fun x9 =>
 (pf94 x9.Kernel).bind fun x10 =>
 ((bif x10 then
 (appO ([]:List Int) [0]).bind fun x13 =>
 some [0]
 else
 some ([]:List Int))).bind fun j11 =>
 (loopM (R:=List Int) (fun (s14:List Int × Int) =>
 (idx a0 x8).bind fun x17 =>
 (bif decide (s14.2<(x17.Moves.length:Int)) then
 ((idx a0 x8).bind fun x20 =>
 (idx x20.Moves s14.2).bind fun x21 =>
 ((bif decide (x21.Sym<1000) then
 (idx a0 x8).bind fun x24 =>
 (idx x24.Moves s14.2).bind fun x25 =>
 (pf42 s14.1 x25.Sym).bind fun x26 =>
 some x26
 else
 some s14.1)).bind fun j22 =>
 some j22).bind fun j19 =>
 some (.inl (j19,w64 (s14.2+1)))
 else
 some (.inr s14.1))) (j11,0)).bind fun x15 =>
 (appO s2.1 [x15]).bind fun x27 =>
 some (.inl (s2.1++[x15],w64 (s2.2+1)))
 else
 some (.inr s2.1))) (([]:List (List Int)),0)).bind fun x3 =>
 some x3
def pf97 (a0:(List Bool)) (a1:(List Int)):Option (Bool) :=
 (loopM (R:=(Unit) ⊕ (Bool)) (fun (s1:Int) =>
 (bif decide (s1<(a1.length:Int)) then
 (((idx a1 s1).bind fun x6=>(bif decide (x6<1000) then some true else ((idx a1 s1).bind fun x8=>((idx a0 (w64 (x8 - 1000))).bind fun x9=>some (!x9)))))).bind fun c10 =>
 (bif c10 then
 some (.inr (.inr false))
 else
 some (.inl (w64 (s1+1))))
 else
 some (.inr (.inl ())))) 0).bind fun x2 =>
 (match x2 with
 | .inl x3 =>
 some true
 | .inr x4 =>
 some x4)
def pf95 (a0:Grammar):Option ((List Bool)) :=
 (mkO (a0.Nons.length:Int) false).bind fun x1 =>
 (loopM (R:=List Bool) (fun (s2:List Bool × Bool) =>
 (bif s2.2 then
 (loopM (R:=List Bool × Bool) (fun (s6:List Bool × Bool × Int) =>
 (bif decide (s6.2.2<(a0.Prods.length:Int)) then
 ((idx a0.Prods s6.2.2).bind fun x11 =>
 (((idx s6.1 x11.Left).bind fun x12=>(bif !x12 then ((pf97 s6.1 x11.Right).bind fun x14=>some x14) else some false))).bind fun c15 =>
 ((bif c15 then
 (idx s6.1 x11.Left).bind fun x18 =>
 some (s6.1.set x11.Left.toNat true,true)
 else
 some (s6.1,s6.2.1))).bind fun j16 =>
 some (j16.1,j16.2)).bind fun j10 =>
 some (.inl (j10.1,j10.2,w64 (s6.2.2+1)))
 else
 some (.inr (s6.1,s6.2.1)))) (s2.1,false,0)).bind fun x7 =>
 some (.inl (x7.1,x7.2))
 else
 some (.inr s2.1))) (x1,true)).bind fun x3 =>
 some x3
def pf96 (a0:(List Trans)) (a1:Int) (a2:Int):Option (Int) :=
 (loopM (R:=(Unit) ⊕ (Int)) (fun (s1:Int) =>
 (bif decide (s1<(a0.length:Int)) then
 (((idx a0 s1).bind fun x6=>(bif decide (x6.State=a1) then ((idx a0 s1).bind fun x8=>some (decide (x8.Non=a2))) else some false))).bind fun c9 =>
 (bif c9 then
 some (.inr (.inr s1))
 else
 some (.inl (w64 (s1+1))))
 else
 some (.inr (.inl ())))) 0).bind fun x2 =>
 (match x2 with
 | .inl x3 =>
 some (-1)
 | .inr x4 =>
 some x4)
def pf69 (a0:Grammar) (a1:(List State)):Option ((List (List Int))) :=
 (pf71 a1).bind fun x1 =>
 (pf95 a0).bind fun x2 =>
 (loopM (R:=List (List Int)) (fun (s3:List (List Int) × Int) =>
 (bif decide (s3.2<(x1.length:Int)) then
 (idx x1 s3.2).bind fun x7 =>
 (idx x1 s3.2).bind fun x8 =>
 (pf40 a1 x7.State x8.Non).bind fun x9 =>
 (loopM (R:=List Int) (fun (s10:List Int × Int) =>
 (idx a1 x9).bind fun x13 =>
 (bif decide (s10.2<(x13.Moves.length:Int)) then
 ((idx a1 x9).bind fun x16 =>
 (idx x16.Moves s10.2).bind fun x17 =>
 ((bif decide (1000<=x17.Sym) then ((idx x2 (w64 (x17.Sym - 1000))).bind fun x19=>some x19) else some false)).bind fun c20 =>
 ((bif c20 then
 (pf96 x1 x9 x17.Sym).bind fun x23 =>
 (pf42 s10.1 x23).bind fun x24 =>
 some x24
 else
 some s10.1)).bind fun j21 =>
 some j21).bind fun j15 =>
 some (.inl (j15,w64 (s10.2+1)))
 else
 some (.inr s10.1))) (([]:List Int),0)).bind fun x11 =>
 (appO s3.1 [x11]).bind fun x25 =>
 some (.inl (s3.1++[x11],w64 (s3.2+1)))
 else
 some (.inr s3.1))) (([]:List (List Int)),0)).bind fun x4 =>
 some x4
def pf72 (a0:(List State)) (a1:Int) (a2:(List Int)):Option (Int) :=
 (loopM (R:=Int) (fun (s1:Int × Int) =>
 ((bif decide (s1.2<(a2.length:Int)) then some (decide (0<=s1.1)) else some false)).bind fun c5 =>
 (bif c5 then
 (idx a2 s1.2).bind fun x7 =>
 (pf40 a0 s1.1 x7).bind fun x8 =>
 some (.inl (x8,w64 (s1.2+1)))
 else
 some (.inr s1.1))) (a1,0)).bind fun x2 =>
 some x2
def pf70 (a0:Grammar) (a1:(List State)):Option ((List (List Int))) :=
 (pf71 a1).bind fun x1 =>
 (pf95 a0).bind fun x2 =>
 (mkO (x1.length:Int) ([]:List Int)).bind fun x3 =>
 (loopM (R:=List (List Int)) (fun (s4:List (List Int) × Int) =>
 (bif decide (s4.2<(x1.length:Int)) then
 (loopM (R:=List (List Int)) (fun (s8:List (List Int) × Int) =>
 (bif decide (s8.2<(a0.Prods.length:Int)) then
 ((idx a0.Prods s8.2).bind fun x13 =>
 (idx a0.Prods s8.2).bind fun x14 =>
 (idx x1 s4.2).bind fun x15 =>
 (bif !decide (w64 (1000+x14.Left)=x15.Non) then
 some s8.1
 else
 (loopM (R:=List (List Int)) (fun (s17:List (List Int) × Int) =>
 (bif decide (s17.2<(x13.Right.length:Int)) then
 ((((idx x13.Right s17.2).bind fun x22=>(bif decide (x22<1000) then some true else ((subO x13.Right (w64 (s17.2+1)) x13.Right.length).bind fun x24=>((pf97 x2 x24).bind fun x25=>some (!x25)))))).bind fun c26 =>
 (bif c26 then
 some s17.1
 else
 (idx x1 s4.2).bind fun x28 =>
 (subO x13.Right 0 s17.2).bind fun x29 =>
 (pf72 a1 x28.State x29).bind fun x30 =>
 ((bif decide (0<=x30) then
 (idx x13.Right s17.2).bind fun x33 =>
 (pf96 x1 x30 x33).bind fun x34 =>
 ((bif decide (0<=x34) then
 (idx s17.1 x34).bind fun x37 =>
 (pf42 x37 s4.2).bind fun x38 =>
 some (s17.1.set x34.toNat x38)
 else
 some s17.1)).bind fun j35 =>
 some j35
 else
 some s17.1)).bind fun j31 =>
 some j31)).bind fun j21 =>
 some (.inl (j21,w64 (s17.2+1)))
 else
 some (.inr s17.1))) (s8.1,0)).bind fun x18 =>
 some x18)).bind fun j12 =>
 some (.inl (j12,w64 (s8.2+1)))
 else
 some (.inr s8.1))) (s4.1,0)).bind fun x9 =>
 some (.inl (x9,w64 (s4.2+1)))
 else
 some (.inr s4.1))) (x3,0)).bind fun x5 =>
 some x5
def pf44 (a0:Grammar) (a1:(List State)):Option ((List (List Int))) :=
 (pf68 a1).bind fun x1 =>
 (pf69 a0 a1).bind fun x2 =>
 (pf67 x1 x2).bind fun x3 =>
 (pf70 a0 a1).bind fun x4 =>
 (pf67 x3 x4).bind fun x5 =>
 some x5
def pf45 (a0:Grammar) (a1:(List Item)):Option ((List Int)) :=
 (pf32 a0 a1).bind fun x1 =>
 (loopM (R:=List Int) (fun (s2:List Int × Int) =>
 (bif decide (s2.2<(x1.length:Int)) then
 ((((idx x1 s2.2).bind fun x7=>(bif decide (0<x7.Prod) then ((idx x1 s2.2).bind fun x9=>((idx x1 s2.2).bind fun x10=>((idx a0.Prods x10.Prod).bind fun x11=>some (decide (x9.Dot=(x11.Right.length:Int)))))) else some false))).bind fun c12 =>
 ((bif c12 then
 (idx x1 s2.2).bind fun x15 =>
 (appO s2.1 [x15.Prod]).bind fun x16 =>
 some (s2.1++[x15.Prod])
 else
 some s2.1)).bind fun j13 =>
 some j13).bind fun j6 =>
 some (.inl (j6,w64 (s2.2+1)))
 else
 some (.inr s2.1))) (([]:List Int),0)).bind fun x3 =>
 some x3
def pf46 (a0:Grammar) (a1:(List State)) (a2:Int) (a3:Int):Option ((List Int)) :=
 ((bif decide (a2<0) then some true else (bif decide ((a1.length:Int)<=a2) then some true else (bif decide (a3<1) then some true else some (decide ((a0.Prods.length:Int)<=a3)))))).bind fun c4 =>
 (bif c4 then
 some ([]:List Int)
 else
 (pf71 a1).bind fun x6 =>
 (loopM (R:=List Int) (fun (s7:List Int × Int) =>
 (bif decide (s7.2<(x6.length:Int)) then
 ((((idx x6 s7.2).bind fun x12=>((idx a0.Prods a3).bind fun x13=>(bif decide (x12.Non=w64 (1000+x13.Left)) then ((idx x6 s7.2).bind fun x15=>((idx a0.Prods a3).bind fun x16=>((pf72 a1 x15.State x16.Right).bind fun x17=>some (decide (x17=a2))))) else some false)))).bind fun c18 =>
 ((bif c18 then
 (appO s7.1 [s7.2]).bind fun x21 =>
 some (s7.1++[s7.2])
 else
 some s7.1)).bind fun j19 =>
 some j19).bind fun j11 =>
 some (.inl (j11,w64 (s7.2+1)))
 else
 some (.inr s7.1))) (([]:List Int),0)).bind fun x8 =>
 some x8)
def pf23 (a0:Grammar) (a1:(List State)):Option ((List Look)) :=
 (pf44 a0 a1).bind fun x1 =>
 (loopM (R:=List Look) (fun (s2:List Look × Int) =>
 (bif decide (s2.2<(a1.length:Int)) then
 (idx a1 s2.2).bind fun x6 =>
 (pf45 a0 x6.Kernel).bind fun x7 =>
 (loopM (R:=List Look) (fun (s8:List Look × Int) =>
 (bif decide (s8.2<(x7.length:Int)) then
 (idx x7 s8.2).bind fun x12 =>
 (idx x7 s8.2).bind fun x13 =>
 (pf46 a0 a1 s2.2 x13).bind fun x14 =>
 (loopM (R:=List Int) (fun (s15:List Int × Int) =>
 (bif decide (s15.2<(x14.length:Int)) then
 (loopM (R:=List Int) (fun (s19:List Int × Int) =>
 (idx x14 s15.2).bind fun x22 =>
 (idx x1 x22).bind fun x23 =>
 (bif decide (s19.2<(x23.length:Int)) then
 (idx x14 s15.2).bind fun x25 =>
 (idx x1 x25).bind fun x26 =>
 (idx x26 s19.2).bind fun x27 =>
 (pf42 s19.1 x27).bind fun x28 =>
 some (.inl (x28,w64 (s19.2+1)))
 else
 some (.inr s19.1))) (s15.1,0)).bind fun x20 =>
 some (.inl (x20,w64 (s15.2+1)))
 else
 some (.inr s15.1))) (([]:List Int),0)).bind fun x16 =>
 (appO s8.1 [(⟨s2.2,x12,x16⟩:Look)]).bind fun x29 =>
 some (.inl (s8.1++[(⟨s2.2,x12,x16⟩:Look)],w64 (s8.2+1)))
 else
 some (.inr s8.1))) (s2.1,0)).bind fun x9 =>
 some (.inl (x9,w64 (s2.2+1)))
 else
 some (.inr s2.1))) (([]:List Look),0)).bind fun x3 =>
 some x3
def pf8 (a0:Source):Option (Grammar × (List State) × (List Cell) × Bool) :=
 (pf21 a0).bind fun x1 =>
 (bif !x1.2.2 then
 some (x1.1,([]:List State),([]:List Cell),false)
 else
 (pf23 x1.1 x1.2.1).bind fun x3 =>
 (pf22 x1.1 x1.2.1 x3).bind fun x4 =>
 some (x1.1,x1.2.1,x4,true))
def pf99 (a0:Int) (a1:Int):Option (Int × Int) :=
 some (IntKind.u64.wrap ((IntKind.u64.wrap ((IntKind.u64.wrap ((shrK .u64 a0 32) * (shrK .u64 a1 32)))+(shrK .u64 (IntKind.u64.wrap ((IntKind.u64.wrap ((shrK .u64 a0 32) * (andK .u64 a1 4294967295)))+(shrK .u64 (IntKind.u64.wrap ((andK .u64 a0 4294967295) * (andK .u64 a1 4294967295))) 32))) 32)))+(shrK .u64 (IntKind.u64.wrap ((andK .u64 (IntKind.u64.wrap ((IntKind.u64.wrap ((shrK .u64 a0 32) * (andK .u64 a1 4294967295)))+(shrK .u64 (IntKind.u64.wrap ((andK .u64 a0 4294967295) * (andK .u64 a1 4294967295))) 32))) 4294967295)+(IntKind.u64.wrap ((andK .u64 a0 4294967295) * (shrK .u64 a1 32))))) 32)),IntKind.u64.wrap (a0 * a1))
def pf73 (a0:Int) (a1:Int):Option (Int × Int) :=
 (pf99 a0 a1).bind fun x1 =>
 some (x1.1,x1.2)
def pf47 (a0:(List Int)) (a1:Int):Option ((List Int)) :=
 (bif decide (a1<0) then
 none
 else
 (pf73 (IntKind.u64.wrap (a0.length:Int)) (IntKind.u64.wrap a1)).bind fun x2 =>
 ((bif decide (0<x2.1) then some true else some (decide (9223372036854775807<x2.2)))).bind fun c4 =>
 (bif c4 then
 none
 else
 (mkO (w64 x2.2) 0).bind fun x6 =>
 (cpO 0 x6.length x6 a0).bind fun x7 =>
 (loopM (R:=List Int) (fun (s8:List Int × Int) =>
 (bif decide (s8.2<(s8.1.length:Int)) then
 (inO s8.1 s8.2).bind fun x12 =>
 (inO s8.1 s8.2).bind fun x13 =>
 (cpO s8.2.toNat (s8.1.length - s8.2.toNat) s8.1 (s8.1.take s8.2.toNat)).bind fun x14 =>
 some (.inl (x14,w64 (s8.2+((min (s8.1.take s8.2.toNat).length (s8.1.length - s8.2.toNat):Nat):Int))))
 else
 some (.inr s8.1))) (x7,((min a0.length x6.length:Nat):Int))).bind fun x9 =>
 some x9))
structure Act where
 Kind:Int
 N:Int
 deriving DecidableEq,Inhabited
structure Dense where
 Acts:(List (List Act))
 Gotos:(List (List Int))
 deriving DecidableEq,Inhabited
def eAct:En Act:=⟨2,fun x=>[I64 x.Kind,I64 x.N],fun _=>rfl,fun _=>NRl.nr⟩
instance:Flat eAct:=⟨fun _=>rfl⟩
instance:OOe eAct:=⟨fun x=>(inferInstance:OOl [I64 x.Kind,I64 x.N])⟩
instance:Tw eAct eAct:=⟨rfl,fun x=>(inferInstance:Vws [I64 x.Kind,I64 x.N] [I64 x.Kind,I64 x.N])⟩
def pf24 (a0:Grammar) (a1:(List State)):Option (Dense) :=
 (loopM (R:=List (List Act) × List (List Int)) (fun (s1:List (List Act) × List (List Int) × Int) =>
 (bif decide (s1.2.2<(a1.length:Int)) then
 (idx a1 s1.2.2).bind fun x5 =>
 (pf47 [(-1)] (a0.Nons.length:Int)).bind fun x6 =>
 (loopM (R:=List Int) (fun (s7:List Int × Int) =>
 (bif decide (s7.2<(x5.Moves.length:Int)) then
 ((idx x5.Moves s7.2).bind fun x12 =>
 ((bif decide (1000<=x12.Sym) then
 (idx s7.1 (w64 (x12.Sym - 1000))).bind fun x15 =>
 some (s7.1.set (w64 (x12.Sym - 1000)).toNat x12.To)
 else
 some s7.1)).bind fun j13 =>
 some j13).bind fun j11 =>
 some (.inl (j11,w64 (s7.2+1)))
 else
 some (.inr s7.1))) (x6,0)).bind fun x8 =>
 (appO s1.2.1 [x8]).bind fun x16 =>
 (mkO (a0.Toks.length:Int) (⟨0,0⟩:Act)).bind fun x17 =>
 (appO s1.1 [x17]).bind fun x18 =>
 some (.inl (s1.1++[x17],s1.2.1++[x8],w64 (s1.2.2+1)))
 else
 some (.inr (s1.1,s1.2.1)))) (([]:List (List Act)),([]:List (List Int)),0)).bind fun x2 =>
 some (⟨x2.1,x2.2⟩:Dense)
def pf26 (a0:(List Int)):Option (Int) :=
 (bif decide ((a0.length:Int)<1) then
 none
 else
 (idx a0 0).bind fun x2 =>
 (loopM (R:=Int) (fun (s3:Int × Int) =>
 (bif decide (s3.2<(a0.length:Int)) then
 (idx a0 s3.2).bind fun x7 =>
 some (.inl (min s3.1 x7,w64 (s3.2+1)))
 else
 some (.inr s3.1))) (x2,1)).bind fun x4 =>
 some x4)
def pf75 (a0:Grammar) (a1:Int):Option (Int × Int) :=
 ((bif decide (a1<0) then some true else some (decide ((a0.Toks.length:Int)<=a1)))).bind fun c2 =>
 (bif c2 then
 some (0,0)
 else
 (idx a0.Toks a1).bind fun x4 =>
 (idx a0.Toks a1).bind fun x5 =>
 some (x4.Level,x5.Assoc))
def pf74 (a0:Grammar) (a1:Int):Option (Int × Int) :=
 ((bif decide (a1<0) then some true else some (decide ((a0.Prods.length:Int)<=a1)))).bind fun c2 =>
 (bif c2 then
 some (0,0)
 else
 (idx a0.Prods a1).bind fun x4 =>
 (pf75 a0 x4.Prec).bind fun x5 =>
 some (x5.1,x5.2))
def pf48 (a0:Grammar) (a1:Int) (a2:Int):Option (Int) :=
 (pf74 a0 a1).bind fun x1 =>
 (pf75 a0 a2).bind fun x2 =>
 ((bif decide (x1.1=0) then some true else some (decide (x2.1=0)))).bind fun c4 =>
 (bif c4 then
 some 0
 else
 ((bif decide (x1.1<x2.1) then some true else (bif decide (x2.1=x1.1) then some (decide (x2.2=2)) else some false))).bind fun c8 =>
 (bif c8 then
 some 1
 else
 ((bif decide (x2.1<x1.1) then some true else some (decide (x2.2=1)))).bind fun c11 =>
 (bif c11 then
 some 2
 else
 some 3)))
def pf25 (a0:Grammar) (a1:Cell):Option (Act × Bool) :=
 (bif decide ((a1.Prods.length:Int)=0) then
 (bif a1.Accept then
 some ((⟨3,0⟩:Act),false)
 else
 some ((⟨1,a1.Shift⟩:Act),false))
 else
 (pf26 a1.Prods).bind fun x3 =>
 (bif a1.Accept then
 some ((⟨3,0⟩:Act),true)
 else
 (bif decide (a1.Shift<0) then
 some ((⟨2,x3⟩:Act),false)
 else
 (pf48 a0 x3 a1.Tok).bind fun x6 =>
 (bif decide (x6=2) then
 some ((⟨2,x3⟩:Act),false)
 else
 (bif decide (x6=3) then
 some ((⟨4,0⟩:Act),false)
 else
 (bif decide (x6=1) then
 some ((⟨1,a1.Shift⟩:Act),false)
 else
 some ((⟨1,a1.Shift⟩:Act),true)))))))
structure Clash where
 State:Int
 Tok:Int
 Keep:Int
 Drop:Int
 deriving DecidableEq,Inhabited
def eClash:En Clash:=⟨4,fun x=>[I64 x.State,I64 x.Tok,I64 x.Keep,I64 x.Drop],fun _=>rfl,fun _=>NRl.nr⟩
instance:Flat eClash:=⟨fun _=>rfl⟩
instance:OOe eClash:=⟨fun x=>(inferInstance:OOl [I64 x.State,I64 x.Tok,I64 x.Keep,I64 x.Drop])⟩
instance:Tw eClash eClash:=⟨rfl,fun x=>(inferInstance:Vws [I64 x.State,I64 x.Tok,I64 x.Keep,I64 x.Drop] [I64 x.State,I64 x.Tok,I64 x.Keep,I64 x.Drop])⟩
instance {x:Clash}:Vws (eClash.cells x) [I64 x.State,I64 x.Tok,I64 x.Keep,I64 x.Drop]:=(inferInstance:Vws [I64 x.State,I64 x.Tok,I64 x.Keep,I64 x.Drop] [I64 x.State,I64 x.Tok,I64 x.Keep,I64 x.Drop])
def pf9 (a0:Grammar) (a1:(List State)) (a2:(List Cell)):Option (Dense × (List Clash)) :=
 (pf24 a0 a1).bind fun x1 =>
 (loopM (R:=List (List Act) × List Clash) (fun (s2:List (List Act) × List Clash × Int) =>
 (bif decide (s2.2.2<(a2.length:Int)) then
 ((idx a2 s2.2.2).bind fun x7 =>
 (pf25 a0 x7).bind fun x8 =>
 (idx s2.1 x7.State).bind fun x9 =>
 (idx x9 x7.Tok).bind fun x10 =>
 (bif decide ((x7.Prods.length:Int)=0) then
 some (s2.1.set x7.State.toNat (x9.set x7.Tok.toNat x8.1),s2.2.1)
 else
 (pf26 x7.Prods).bind fun x12 =>
 (loopM (R:=List Clash) (fun (s13:List Clash × Int) =>
 (bif decide (s13.2<(x7.Prods.length:Int)) then
 ((idx x7.Prods s13.2).bind fun x18 =>
 ((bif !decide (x18=x12) then
 (appO s13.1 [(⟨x7.State,x7.Tok,x12,x18⟩:Clash)]).bind fun x21 =>
 some (s13.1++[(⟨x7.State,x7.Tok,x12,x18⟩:Clash)])
 else
 some s13.1)).bind fun j19 =>
 some j19).bind fun j17 =>
 some (.inl (j17,w64 (s13.2+1)))
 else
 some (.inr s13.1))) (s2.2.1,0)).bind fun x14 =>
 ((bif x8.2 then
 (appO x14 [(⟨x7.State,x7.Tok,(-1),x12⟩:Clash)]).bind fun x24 =>
 some (x14++[(⟨x7.State,x7.Tok,(-1),x12⟩:Clash)])
 else
 some x14)).bind fun j22 =>
 some (s2.1.set x7.State.toNat (x9.set x7.Tok.toNat x8.1),j22))).bind fun j6 =>
 some (.inl (j6.1,j6.2,w64 (s2.2.2+1)))
 else
 some (.inr (s2.1,s2.2.1)))) (x1.Acts,([]:List Clash),0)).bind fun x3 =>
 some ((⟨x3.1,x1.Gotos⟩:Dense),x3.2)
def pf77 (a0:Grammar) (a1:Item):Option (Bool) :=
 ((bif decide (0<=a1.Prod) then (bif decide (a1.Prod<(a0.Prods.length:Int)) then (bif decide (0<=a1.Dot) then ((idx a0.Prods a1.Prod).bind fun x4=>some (decide (a1.Dot<=(x4.Right.length:Int)))) else some false) else some false) else some false)).bind fun c5 =>
 some c5
def pf78 (a0:Grammar) (a1:Item):Option (Int) :=
 (((pf77 a0 a1).bind fun x1=>(bif !x1 then some true else ((idx a0.Prods a1.Prod).bind fun x3=>some (decide (a1.Dot=(x3.Right.length:Int))))))).bind fun c4 =>
 (bif c4 then
 some (-1)
 else
 (idx a0.Prods a1.Prod).bind fun x6 =>
 (idx x6.Right a1.Dot).bind fun x7 =>
 some x7)
def pf103 (a0:(List Int)):Option (Int) :=
 (loopM (R:=(Unit) ⊕ (Int)) (fun (s1:Int) =>
 (bif decide (s1<(a0.length:Int)) then
 (idx a0 s1).bind fun x6 =>
 (bif !decide (x6=0) then
 some (.inr (.inr x6))
 else
 some (.inl (w64 (s1+1))))
 else
 some (.inr (.inl ())))) 0).bind fun x2 =>
 (match x2 with
 | .inl x3 =>
 some 0
 | .inr x4 =>
 some x4)
def pf128 (a0:Int):Option (Bool) :=
 some (!decide (a0=a0))
def pf104 (a0:Int) (a1:Int):Option (Int) :=
 (pf128 a0).bind fun x1 =>
 (pf128 a1).bind fun x2 =>
 (bif x1 then
 (bif x2 then
 some 0
 else
 some (-1))
 else
 (bif x2 then
 some 1
 else
 (bif decide (a0<a1) then
 some (-1)
 else
 (bif decide (a1<a0) then
 some 1
 else
 some 0))))
def pf80 (a0:Item) (a1:Item):Option (Int) :=
 (pf104 a0.Prod a1.Prod).bind fun x1 =>
 (pf104 a0.Dot a1.Dot).bind fun x2 =>
 (pf103 [x1,x2]).bind fun x3 =>
 some x3
def pf50 (a0:Grammar) (a1:(List Item)):Option ((List Item)) :=
 (loopM (R:=List Item) (fun (s1:List Item × Int) =>
 (bif decide (s1.2<(a1.length:Int)) then
 ((idx a1 s1.2).bind fun x6 =>
 (pf77 a0 x6).bind fun x7 =>
 ((bif x7 then
 (appO s1.1 [x6]).bind fun x10 =>
 some (s1.1++[x6])
 else
 some s1.1)).bind fun j8 =>
 some j8).bind fun j5 =>
 some (.inl (j5,w64 (s1.2+1)))
 else
 some (.inr s1.1))) (([]:List Item),0)).bind fun x2 =>
 (mkO (a0.Nons.length:Int) false).bind fun x11 =>
 (loopM (R:=List Item) (fun (s12:List Item × List Bool × Int) =>
 (bif decide (s12.2.2<(s12.1.length:Int)) then
 ((idx s12.1 s12.2.2).bind fun x17 =>
 (pf78 a0 x17).bind fun x18 =>
 ((bif decide (w64 (x18 - 1000)<0) then some true else ((idx s12.2.1 (w64 (x18 - 1000))).bind fun x20=>some x20))).bind fun c21 =>
 (bif c21 then
 some (s12.1,s12.2.1)
 else
 (idx s12.2.1 (w64 (x18 - 1000))).bind fun x23 =>
 (loopM (R:=List Item) (fun (s24:List Item × Int) =>
 (bif decide (s24.2<(a0.Prods.length:Int)) then
 ((idx a0.Prods s24.2).bind fun x29 =>
 ((bif decide (x29.Left=w64 (x18 - 1000)) then
 (appO s24.1 [(⟨s24.2,0⟩:Item)]).bind fun x32 =>
 some (s24.1++[(⟨s24.2,0⟩:Item)])
 else
 some s24.1)).bind fun j30 =>
 some j30).bind fun j28 =>
 some (.inl (j28,w64 (s24.2+1)))
 else
 some (.inr s24.1))) (s12.1,0)).bind fun x25 =>
 some (x25,s12.2.1.set (w64 (x18 - 1000)).toNat true))).bind fun j16 =>
 some (.inl (j16.1,j16.2,w64 (s12.2.2+1)))
 else
 some (.inr s12.1))) (x2,x11,0)).bind fun x13 =>
 (sortO (fun a b=>pf80 a b) x13).bind fun x33 =>
 (compO x33).bind fun x34 =>
 some x34
def pf105 (a0:Int):Option (Bool) :=
 ((bif decide (32<=a0) then (bif decide (a0<=126) then (bif !decide (a0=39) then some (!decide (a0=92)) else some false) else some false) else some false)).bind fun c4 =>
 some c4
def pf129 (a0:ByteArray) (a1:Int):Option (Int) :=
 some (firstIdx a0 a1.toNat.toUInt8)
def pf106 (a0:ByteArray) (a1:Int):Option (Int) :=
 (pf129 a0 a1).bind fun x1 =>
 some x1
def pf82 (a0:Int):Option (ByteArray) :=
 (pf105 a0).bind fun x1 =>
 (bif x1 then
 (catO ({ data:=#[39] }) (strOfNums [a0])).bind fun x3 =>
 (catO x3 ({ data:=#[39] })).bind fun x4 =>
 some x4
 else
 (pf106 ({ data:=#[10,9,13,92,39] }) a0).bind fun x5 =>
 (bif decide (0<=x5) then
 (cutO ({ data:=#[110,116,114,92,39] }) x5 (w64 (x5+1))).bind fun x7 =>
 (catO ({ data:=#[39,92] }) x7).bind fun x8 =>
 (catO x8 ({ data:=#[39] })).bind fun x9 =>
 some x9
 else
 some ({ data:=#[] })))
def pf53 (a0:Grammar) (a1:Int):Option (ByteArray) :=
 ((bif decide (0<=a1) then (bif decide (a1<(a0.Toks.length:Int)) then ((idx a0.Toks a1).bind fun x3=>some x3.Lit) else some false) else some false)).bind fun c4 =>
 (bif c4 then
 (idx a0.Toks a1).bind fun x6 =>
 (bidx x6.Name 0).bind fun x7 =>
 (pf82 x7).bind fun x8 =>
 some x8
 else
 ((bif decide (0<=a1) then some (decide (a1<(a0.Toks.length:Int))) else some false)).bind fun c10 =>
 (bif c10 then
 (idx a0.Toks a1).bind fun x12 =>
 some x12.Name
 else
 ((bif decide (1000<=a1) then some (decide (w64 (a1 - 1000)<(a0.Nons.length:Int))) else some false)).bind fun c14 =>
 (bif c14 then
 (idx a0.Nons (w64 (a1 - 1000))).bind fun x16 =>
 some x16.Name
 else
 some ({ data:=#[] }))))
def pf52 (a0:Grammar) (a1:Item):Option (ByteArray) :=
 (pf77 a0 a1).bind fun x1 =>
 (bif !x1 then
 some ({ data:=#[] })
 else
 (idx a0.Prods a1.Prod).bind fun x3 =>
 (pf53 a0 (w64 (1000+x3.Left))).bind fun x4 =>
 (catO x4 ({ data:=#[32,58] })).bind fun x5 =>
 (loopM (R:=ByteArray) (fun (s6:ByteArray × Int) =>
 (bif decide (s6.2<(x3.Right.length:Int)) then
 (idx x3.Right s6.2).bind fun x10 =>
 ((bif decide (s6.2=a1.Dot) then
 (catO s6.1 ({ data:=#[32,46] })).bind fun x13 =>
 some x13
 else
 some s6.1)).bind fun j11 =>
 (pf53 a0 x10).bind fun x14 =>
 (catO ({ data:=#[32] }) x14).bind fun x15 =>
 (catO j11 x15).bind fun x16 =>
 some (.inl (x16,w64 (s6.2+1)))
 else
 some (.inr s6.1))) (x5,0)).bind fun x7 =>
 ((bif decide (a1.Dot=(x3.Right.length:Int)) then
 (catO x7 ({ data:=#[32,46] })).bind fun x19 =>
 some x19
 else
 some x7)).bind fun j17 =>
 some j17)
def pf54 (a0:Act):Option (ByteArray) :=
 (bif decide (a0.Kind=1) then
 (itoO a0.N).bind fun x2 =>
 (catO ({ data:=#[32,115,104,105,102,116,32] }) x2).bind fun x3 =>
 some x3
 else
 (bif decide (a0.Kind=2) then
 (itoO a0.N).bind fun x5 =>
 (catO ({ data:=#[32,114,101,100,117,99,101,32] }) x5).bind fun x6 =>
 some x6
 else
 (bif decide (a0.Kind=3) then
 some ({ data:=#[32,97,99,99,101,112,116] })
 else
 (bif decide (a0.Kind=4) then
 some ({ data:=#[32,101,114,114,111,114] })
 else
 some ({ data:=#[] })))))
def pf28 (a0:(List Clash)):Option (Int × Int) :=
 (loopM (R:=Int) (fun (s1:Int × Int) =>
 (bif decide (s1.2<(a0.length:Int)) then
 ((idx a0 s1.2).bind fun x6 =>
 ((bif decide (x6.Keep=(-1)) then
 some (w64 (s1.1+1))
 else
 some s1.1)).bind fun j7 =>
 some j7).bind fun j5 =>
 some (.inl (j5,w64 (s1.2+1)))
 else
 some (.inr s1.1))) (0,0)).bind fun x2 =>
 some (x2,w64 ((a0.length:Int) - x2))
def pf31 (a0:(List ByteArray)) (a1:ByteArray):Option (ByteArray) :=
 (bif decide ((a0.length:Int)=0) then
 some ({ data:=#[] })
 else
 (bif decide ((a0.length:Int)=1) then
 (idx a0 0).bind fun x3 =>
 some x3
 else
 ((bif decide (0<(a1.size:Int)) then
 (quoO 9223372036854775807 (w64 ((a0.length:Int) - 1))).bind fun x6 =>
 (bif decide (x6<=(a1.size:Int)) then
 none
 else
 some (w64 (0+(w64 ((a1.size:Int) * (w64 ((a0.length:Int) - 1)))))))
 else
 some 0)).bind fun j4 =>
 (loopM (R:=Int) (fun (s8:Int × Int) =>
 (bif decide (s8.2<(a0.length:Int)) then
 (idx a0 s8.2).bind fun x12 =>
 (bif decide (w64 (9223372036854775807 - s8.1)<(x12.size:Int)) then
 none
 else
 some (.inl (w64 (s8.1+(x12.size:Int)),w64 (s8.2+1))))
 else
 some (.inr s8.1))) (j4,0)).bind fun x9 =>
 (bgO () x9).bind fun x14 =>
 (idx a0 0).bind fun x15 =>
 (bwO x14 x15).bind fun x16 =>
 (subO a0 1 a0.length).bind fun x17 =>
 (loopM (R:=ByteArray) (fun (s18:ByteArray × Int) =>
 (bif decide (s18.2<(x17.length:Int)) then
 (idx x17 s18.2).bind fun x22 =>
 (bwO s18.1 a1).bind fun x23 =>
 (bwO x23 x22).bind fun x24 =>
 some (.inl (x24,w64 (s18.2+1)))
 else
 some (.inr s18.1))) (x16,0)).bind fun x19 =>
 (bsO x19).bind fun x25 =>
 some x25))
structure report_writer where
 f_g:Grammar
 f_b:ByteArray
 deriving DecidableEq,Inhabited
def ereport_writer_r:En report_writer:=⟨7,fun x=>[iR eTok x.f_g.Toks,iR eNon x.f_g.Nons,iR eProd_0 x.f_g.Prods,SS x.f_g.Pro,SS x.f_g.Tail,.self (5,96),.brow 5 (Lib.strCells x.f_b)],fun _=>rfl,fun _=>NRl.nr⟩
def pf51 (a0:report_writer) (a1:ByteArray):Option (report_writer) :=
 (catO ({ data:=#[9] }) a1).bind fun x1 =>
 (catO x1 ({ data:=#[10] })).bind fun x2 =>
 (bwO a0.f_b x2).bind fun x3 =>
 some (⟨a0.f_g,x3⟩:report_writer)
def pf27 (a0:report_writer) (a1:Int) (a2:State) (a3:Dense) (a4:(List Clash)):Option (report_writer) :=
 (itoO a1).bind fun x1 =>
 (catO ({ data:=#[115,116,97,116,101,32] }) x1).bind fun x2 =>
 (catO x2 ({ data:=#[10] })).bind fun x3 =>
 (bwO a0.f_b x3).bind fun x4 =>
 (pf50 a0.f_g a2.Kernel).bind fun x5 =>
 (loopM (R:=report_writer) (fun (s6:report_writer × Int) =>
 (bif decide (s6.2<(x5.length:Int)) then
 (idx x5 s6.2).bind fun x10 =>
 (pf52 s6.1.f_g x10).bind fun x11 =>
 (pf51 s6.1 x11).bind fun x12 =>
 some (.inl (x12,w64 (s6.2+1)))
 else
 some (.inr s6.1))) ((⟨a0.f_g,x4⟩:report_writer),0)).bind fun x7 =>
 (loopM (R:=report_writer) (fun (s13:report_writer × Int) =>
 (bif decide (s13.2<(a4.length:Int)) then
 ((idx a4 s13.2).bind fun x18 =>
 ((bif decide (x18.State=a1) then
 (pf53 s13.1.f_g x18.Tok).bind fun x21 =>
 (catO ({ data:=#[99,111,110,102,108,105,99,116,32] }) x21).bind fun x22 =>
 (catO x22 ({ data:=#[58,32] })).bind fun x23 =>
 (itoO x18.Drop).bind fun x24 =>
 (catO x23 x24).bind fun x25 =>
 (catO x25 ({ data:=#[32,108,101,102,116,32,111,117,116] })).bind fun x26 =>
 (pf51 s13.1 x26).bind fun x27 =>
 some x27
 else
 some s13.1)).bind fun j19 =>
 some j19).bind fun j17 =>
 some (.inl (j17,w64 (s13.2+1)))
 else
 some (.inr s13.1))) (x7,0)).bind fun x14 =>
 (idx a3.Acts a1).bind fun x28 =>
 (loopM (R:=report_writer) (fun (s29:report_writer × Int) =>
 (bif decide (s29.2<(x28.length:Int)) then
 ((idx x28 s29.2).bind fun x34 =>
 (pf54 x34).bind fun x35 =>
 ((bif !decide (x35={ data:=#[] }) then
 (pf53 s29.1.f_g s29.2).bind fun x38 =>
 (catO x38 x35).bind fun x39 =>
 (pf51 s29.1 x39).bind fun x40 =>
 some x40
 else
 some s29.1)).bind fun j36 =>
 some j36).bind fun j33 =>
 some (.inl (j33,w64 (s29.2+1)))
 else
 some (.inr s29.1))) (x14,0)).bind fun x30 =>
 (idx a3.Gotos a1).bind fun x41 =>
 (loopM (R:=report_writer) (fun (s42:report_writer × Int) =>
 (bif decide (s42.2<(x41.length:Int)) then
 ((idx x41 s42.2).bind fun x47 =>
 ((bif decide (0<=x47) then
 (pf53 s42.1.f_g (w64 (1000+s42.2))).bind fun x50 =>
 (catO x50 ({ data:=#[32,103,111,116,111,32] })).bind fun x51 =>
 (itoO x47).bind fun x52 =>
 (catO x51 x52).bind fun x53 =>
 (pf51 s42.1 x53).bind fun x54 =>
 some x54
 else
 some s42.1)).bind fun j48 =>
 some j48).bind fun j46 =>
 some (.inl (j46,w64 (s42.2+1)))
 else
 some (.inr s42.1))) (x30,0)).bind fun x43 =>
 some x43
structure _anon105 where
 f_n:Int
 f_what:ByteArray
 deriving DecidableEq,Inhabited
def e_anon105:En _anon105:=⟨2,fun x=>[I64 x.f_n,SS x.f_what],fun _=>rfl,fun _=>NRl.nr⟩
instance:Flat e_anon105:=⟨fun _=>rfl⟩
instance:OOe e_anon105:=⟨fun x=>(inferInstance:OOl [I64 x.f_n,SS x.f_what])⟩
instance:Tw e_anon105 e_anon105:=⟨rfl,fun x=>(inferInstance:Vws [I64 x.f_n,SS x.f_what] [I64 x.f_n,SS x.f_what])⟩
def pf10 (a0:Grammar) (a1:(List State)) (a2:Dense) (a3:(List Clash)):Option (ByteArray) :=
 (loopM (R:=report_writer) (fun (s1:report_writer × Int) =>
 (bif decide (s1.2<(a1.length:Int)) then
 (idx a1 s1.2).bind fun x5 =>
 (pf27 s1.1 s1.2 x5 a2 a3).bind fun x6 =>
 some (.inl (x6,w64 (s1.2+1)))
 else
 some (.inr s1.1))) ((⟨a0,{ data:=#[] }⟩:report_writer),0)).bind fun x2 =>
 (pf28 a3).bind fun x7 =>
 (loopM (R:=List ByteArray) (fun (s8:List ByteArray × Int) =>
 (bif decide (s8.2<([(⟨(a0.Toks.length:Int),{ data:=#[32,116,111,107,101,110,115] }⟩:_anon105),(⟨(a0.Nons.length:Int),{ data:=#[32,110,111,110,116,101,114,109,105,110,97,108,115] }⟩:_anon105),(⟨(a0.Prods.length:Int),{ data:=#[32,112,114,111,100,117,99,116,105,111,110,115] }⟩:_anon105),(⟨(a1.length:Int),{ data:=#[32,115,116,97,116,101,115] }⟩:_anon105),(⟨x7.1,{ data:=#[32,115,104,105,102,116,47,114,101,100,117,99,101] }⟩:_anon105),(⟨x7.2,{ data:=#[32,114,101,100,117,99,101,47,114,101,100,117,99,101] }⟩:_anon105)].length:Int)) then
 (idx [(⟨(a0.Toks.length:Int),{ data:=#[32,116,111,107,101,110,115] }⟩:_anon105),(⟨(a0.Nons.length:Int),{ data:=#[32,110,111,110,116,101,114,109,105,110,97,108,115] }⟩:_anon105),(⟨(a0.Prods.length:Int),{ data:=#[32,112,114,111,100,117,99,116,105,111,110,115] }⟩:_anon105),(⟨(a1.length:Int),{ data:=#[32,115,116,97,116,101,115] }⟩:_anon105),(⟨x7.1,{ data:=#[32,115,104,105,102,116,47,114,101,100,117,99,101] }⟩:_anon105),(⟨x7.2,{ data:=#[32,114,101,100,117,99,101,47,114,101,100,117,99,101] }⟩:_anon105)] s8.2).bind fun x12 =>
 (itoO x12.f_n).bind fun x13 =>
 (catO x13 x12.f_what).bind fun x14 =>
 (appO s8.1 [x14]).bind fun x15 =>
 some (.inl (s8.1++[x14],w64 (s8.2+1)))
 else
 some (.inr s8.1))) (([]:List ByteArray),0)).bind fun x9 =>
 (bsO x2.f_b).bind fun x16 =>
 (pf31 x9 ({ data:=#[44,32] })).bind fun x17 =>
 (catO x16 x17).bind fun x18 =>
 (catO x18 ({ data:=#[10] })).bind fun x19 =>
 some x19
def pf5 :Option (Bool) :=
 (pf8 (⟨{ data:=#[] },([]:List Decl),[(⟨{ data:=#[115] },[(⟨[(⟨(⟨{ data:=#[120] },true,0,0⟩:Sym),{ data:=#[] },0⟩:Part)],(⟨{ data:=#[] },false,0,0⟩:Sym),0⟩:Alt)],0⟩:Rule)],{ data:=#[] }⟩:Source)).bind fun x1 =>
 (pf9 x1.1 x1.2.1 x1.2.2.1).bind fun x2 =>
 ((bif x1.2.2.2 then (bif decide ((x2.1.Acts.length:Int)=3) then ((pf10 x1.1 x1.2.1 x2.1 x2.2).bind fun x5=>some (decide (x5={ data:=#[115,116,97,116,101,32,48,10,9,36,97,99,99,101,112,116,32,58,32,46,32,115,10,9,115,32,58,32,46,32,39,120,39,10,9,39,120,39,32,115,104,105,102,116,32,49,10,9,115,32,103,111,116,111,32,50,10,115,116,97,116,101,32,49,10,9,115,32,58,32,39,120,39,32,46,10,9,36,101,110,100,32,114,101,100,117,99,101,32,49,10,115,116,97,116,101,32,50,10,9,36,97,99,99,101,112,116,32,58,32,115,32,46,10,9,36,101,110,100,32,97,99,99,101,112,116,10,52,32,116,111,107,101,110,115,44,32,50,32,110,111,110,116,101,114,109,105,110,97,108,115,44,32,50,32,112,114,111,100,117,99,116,105,111,110,115,44,32,51,32,115,116,97,116,101,115,44,32,48,32,115,104,105,102,116,47,114,101,100,117,99,101,44,32,48,32,114,101,100,117,99,101,47,114,101,100,117,99,101,10] }))) else some false) else some false)).bind fun c6 =>
 some c6
def pf12 (a0:Int) (a1:Int):Option (Int) :=
 (remO a0 a1).bind fun x1 =>
 ((bif decide (x1<0) then
 some (w64 (x1+a1))
 else
 some x1)).bind fun j2 =>
 some j2
def eDecl_1:En Decl:=⟨4,fun x=>[I64 x.Kind,SS x.Tag,oR eSym x.Syms,I64 x.At],fun _=>rfl,fun _=>NRl.nr⟩
instance:Tw eDecl_1 eDecl_0:=⟨rfl,fun x=>(inferInstance:Vws [I64 x.Kind,SS x.Tag,oR eSym x.Syms,I64 x.At] [I64 x.Kind,SS x.Tag,iR eSym x.Syms,I64 x.At])⟩
instance {x:Decl}:Vws (eDecl_1.cells x) [I64 x.Kind,SS x.Tag,iR eSym x.Syms,I64 x.At]:=(inferInstance:Vws [I64 x.Kind,SS x.Tag,oR eSym x.Syms,I64 x.At] [I64 x.Kind,SS x.Tag,iR eSym x.Syms,I64 x.At])
structure yuccalaw0_Gr where
 Nons:Int
 Rules:(List (List Int))
 Levels:(List Int)
 Inner:(List Int)
 Bare:Bool
 deriving DecidableEq,Inhabited
def eyuccalaw0_Gr_0:En yuccalaw0_Gr:=⟨5,fun x=>[I64 x.Nons,iR (eM eI) x.Rules,iR eI x.Levels,iR eI x.Inner,BB x.Bare],fun _=>rfl,fun _=>NRl.nr⟩
instance:Flat eyuccalaw0_Gr_0:=⟨fun _=>rfl⟩
instance:Tw eyuccalaw0_Gr_0 eyuccalaw0_Gr_0:=⟨rfl,fun x=>(inferInstance:Vws [I64 x.Nons,iR (eM eI) x.Rules,iR eI x.Levels,iR eI x.Inner,BB x.Bare] [I64 x.Nons,iR (eM eI) x.Rules,iR eI x.Levels,iR eI x.Inner,BB x.Bare])⟩
instance {x:yuccalaw0_Gr}:Vws (eyuccalaw0_Gr_0.cells x) [I64 x.Nons,iR (eM eI) x.Rules,iR eI x.Levels,iR eI x.Inner,BB x.Bare]:=(inferInstance:Vws [I64 x.Nons,iR (eM eI) x.Rules,iR eI x.Levels,iR eI x.Inner,BB x.Bare] [I64 x.Nons,iR (eM eI) x.Rules,iR eI x.Levels,iR eI x.Inner,BB x.Bare])
def eRule_1:En Rule:=⟨3,fun x=>[SS x.Left,oR eAlt_0 x.Alts,I64 x.At],fun _=>rfl,fun _=>NRl.nr⟩
instance:Tw eRule_1 eRule_0:=⟨rfl,fun x=>(inferInstance:Vws [SS x.Left,oR eAlt_0 x.Alts,I64 x.At] [SS x.Left,iR eAlt_0 x.Alts,I64 x.At])⟩
instance {x:Rule}:Vws (eRule_1.cells x) [SS x.Left,iR eAlt_0 x.Alts,I64 x.At]:=(inferInstance:Vws [SS x.Left,oR eAlt_0 x.Alts,I64 x.At] [SS x.Left,iR eAlt_0 x.Alts,I64 x.At])
def pf14 (a0:Int) (a1:Int):Option (ByteArray) :=
 (loopM (R:=ByteArray) (fun (s1:ByteArray × Int) =>
 (bif decide (s1.2<a0) then
 ((bif decide (s1.2=a1) then
 (catO s1.1 ({ data:=#[32,46] })).bind fun x7 =>
 some x7
 else
 some s1.1)).bind fun j5 =>
 (catO j5 ({ data:=#[32,116] })).bind fun x8 =>
 (pf13 s1.2).bind fun x9 =>
 (catO x8 x9).bind fun x10 =>
 some (.inl (x10,w64 (s1.2+1)))
 else
 some (.inr s1.1))) ({ data:=#[9,115,32,58] },0)).bind fun x2 =>
 ((bif decide (a1=a0) then
 (catO x2 ({ data:=#[32,46] })).bind fun x13 =>
 some x13
 else
 some x2)).bind fun j11 =>
 (catO j11 ({ data:=#[10] })).bind fun x14 =>
 some x14
def pf4 (a0:Int):Option (Bool) :=
 (pf5 ).bind fun x1 =>
 (bif !x1 then
 some false
 else
 (pf12 a0 7).bind fun x3 =>
 (loopM (R:=List Part) (fun (s4:List Part × Int) =>
 (bif decide (s4.2<w64 (1+x3)) then
 (pf13 s4.2).bind fun x8 =>
 (catO ({ data:=#[116] }) x8).bind fun x9 =>
 (appO s4.1 [(⟨(⟨x9,false,0,0⟩:Sym),{ data:=#[] },0⟩:Part)]).bind fun x10 =>
 some (.inl (s4.1++[(⟨(⟨x9,false,0,0⟩:Sym),{ data:=#[] },0⟩:Part)],w64 (s4.2+1)))
 else
 some (.inr s4.1))) (([]:List Part),0)).bind fun x5 =>
 (loopM (R:=List Sym) (fun (s11:List Sym × Int) =>
 (bif decide (s11.2<w64 (1+x3)) then
 (pf13 s11.2).bind fun x15 =>
 (catO ({ data:=#[116] }) x15).bind fun x16 =>
 (appO s11.1 [(⟨x16,false,0,0⟩:Sym)]).bind fun x17 =>
 some (.inl (s11.1++[(⟨x16,false,0,0⟩:Sym)],w64 (s11.2+1)))
 else
 some (.inr s11.1))) (([]:List Sym),0)).bind fun x12 =>
 (pf8 (⟨{ data:=#[] },[(⟨1,{ data:=#[] },x12,0⟩:Decl)],[(⟨{ data:=#[115] },[(⟨x5,(⟨{ data:=#[] },false,0,0⟩:Sym),0⟩:Alt)],0⟩:Rule)],{ data:=#[] }⟩:Source)).bind fun x18 =>
 (pf9 x18.1 x18.2.1 x18.2.2.1).bind fun x19 =>
 ((bif !x18.2.2.2 then some true else some (!decide ((x19.1.Acts.length:Int)=(x18.2.1.length:Int))))).bind fun c21 =>
 (bif c21 then
 some false
 else
 (pf14 (w64 (1+x3)) 0).bind fun x23 =>
 (catO ({ data:=#[115,116,97,116,101,32,48,10,9,36,97,99,99,101,112,116,32,58,32,46,32,115,10] }) x23).bind fun x24 =>
 (catO x24 ({ data:=#[9,116,48,32,115,104,105,102,116,32,49,10,9,115,32,103,111,116,111,32,50,10] })).bind fun x25 =>
 (loopM (R:=ByteArray) (fun (s26:ByteArray × Int) =>
 (bif decide (s26.2<=w64 (1+x3)) then
 (((bif decide (1<s26.2) then
 some (w64 (s26.2+1))
 else
 some s26.2)).bind fun j31 =>
 (catO s26.1 ({ data:=#[115,116,97,116,101,32] })).bind fun x33 =>
 (pf13 j31).bind fun x34 =>
 (catO x33 x34).bind fun x35 =>
 (catO x35 ({ data:=#[10] })).bind fun x36 =>
 (pf14 (w64 (1+x3)) s26.2).bind fun x37 =>
 (catO x36 x37).bind fun x38 =>
 ((bif decide (s26.2<w64 (1+x3)) then
 (catO x38 ({ data:=#[9,116] })).bind fun x41 =>
 (pf13 s26.2).bind fun x42 =>
 (catO x41 x42).bind fun x43 =>
 (catO x43 ({ data:=#[32,115,104,105,102,116,32] })).bind fun x44 =>
 (pf13 (w64 (s26.2+2))).bind fun x45 =>
 (catO x44 x45).bind fun x46 =>
 (catO x46 ({ data:=#[10] })).bind fun x47 =>
 some x47
 else
 (catO x38 ({ data:=#[9,36,101,110,100,32,114,101,100,117,99,101,32,49,10] })).bind fun x48 =>
 some x48)).bind fun j39 =>
 ((bif decide (s26.2=1) then
 (catO j39 ({ data:=#[115,116,97,116,101,32,50,10,9,36,97,99,99,101,112,116,32,58,32,115,32,46,10,9,36,101,110,100,32,97,99,99,101,112,116,10] })).bind fun x51 =>
 some x51
 else
 some j39)).bind fun j49 =>
 some j49).bind fun j30 =>
 some (.inl (j30,w64 (s26.2+1)))
 else
 some (.inr s26.1))) (x25,1)).bind fun x27 =>
 (pf13 (w64 ((w64 (1+x3))+3))).bind fun x52 =>
 (catO x27 x52).bind fun x53 =>
 (catO x53 ({ data:=#[32,116,111,107,101,110,115,44,32,50,32,110,111,110,116,101,114,109,105,110,97,108,115,44,32,50,32,112,114,111,100,117,99,116,105,111,110,115,44,32] })).bind fun x54 =>
 (pf13 (w64 ((w64 (1+x3))+2))).bind fun x55 =>
 (catO x54 x55).bind fun x56 =>
 (catO x56 ({ data:=#[32,115,116,97,116,101,115,44,32,48,32,115,104,105,102,116,47,114,101,100,117,99,101,44,32,48,32,114,101,100,117,99,101,47,114,101,100,117,99,101,10] })).bind fun x57 =>
 (pf10 x18.1 x18.2.1 x19.1 x19.2).bind fun x58 =>
 some (decide (x58=x57))))
theorem rp0:pf4 0=some true:=by kernel_rfl
theorem rp1:pf4 1=some true:=by kernel_rfl
theorem rp2:pf4 2=some true:=by kernel_rfl
theorem rp3:pf4 3=some true:=by kernel_rfl
theorem rp4:pf4 4=some true:=by kernel_rfl
theorem rp5:pf4 5=some true:=by kernel_rfl
theorem rp6:pf4 6=some true:=by kernel_rfl
end Go.Proofs
namespace Go.Own
open Go
variable {α β S R:Type}
abbrev LR (p:S->Prop) (q:R->Prop) (x:S ⊕ R):Prop:=Sum.elim p q x
def Tot (x:Option α) (Φ:α->Prop):Prop:=∃ a,x=some a/\Φ a
namespace Tot
variable {Φ Ψ:α->Prop}
theorem so {a:α}(h:Φ a):Tot (some a) Φ:=⟨a,rfl,h⟩
theorem sm {f:β->Option α}{a:β}(h:Tot (f a) Φ):Tot ((some a).bind f) Φ:=h
theorem cd {c:Bool}{a b:Option α}(ht:c=true->Tot a Φ) (hf:c=false->Tot b Φ):Tot (cond c a b) Φ:=by
 cases c
 ·exact hf rfl
 ·exact ht rfl
theorem cp {p:Prop} [Decidable p] {a b:Option α}(ht:p->Tot a Φ) (hf:¬ p->Tot b Φ):Tot (cond (decide p) a b) Φ :=
 cd (fun h=>ht (of_decide_eq_true h)) (fun h=>hf (of_decide_eq_false h))
theorem ap {Φ:List α->Prop}{l m:List α}(h:l.length+m.length<=lim) (hk:Φ (l++m)):Tot (appO l m) Φ:=by
 refine ⟨l++m,?_,hk⟩
 unfold appO
 rw [if_pos h]
theorem loop {f:S->Option (S ⊕ R)}{s0:S}{Ψ:R->Prop}(Inv:S->Prop) (μ:S->Nat) (h0:Inv s0) (hμ:μ s0<fuel)
  (hs:∀ s,Inv s->Tot (f s) (LR (fun s'=>Inv s'/\μ s'<μ s) Ψ)):Tot (loopM f s0) Ψ:=by
 have key:∀ n s,Inv s->μ s<n->Tot (iter f n s) Ψ:=by
  intro n
  induction n with
  | zero=>intro s _ h; omega
  | succ n ih =>
   intro s hI hm
   obtain ⟨x,hx,hP⟩:=hs s hI
   cases x with
   | inl s' =>
    obtain ⟨h1,h2⟩:=hP
    simp only [iter,hx]
    exact ih s' h1 (by omega)
   | inr r =>
    simp only [iter,hx]
    exact ⟨r,rfl,hP⟩
 exact key fuel s0 h0 hμ
end Tot
theorem w64_eq (n:Int):w64 n=(n+9223372036854775808) % 18446744073709551616 - 9223372036854775808:=IntKind.wrap_i64 n
namespace Tot
theorem cat {Φ:ByteArray->Prop}{s u:ByteArray}(h:s.size+u.size<=4611686018427387904) (hk:Φ (s++u)):Tot (catO s u) Φ:=by
 refine ⟨s++u,?_,hk⟩
 unfold catO
 rw [if_pos h]
theorem cut {Φ:ByteArray->Prop}{s:ByteArray}{m n:Int}(h:0<=m/\m<=n/\n<=s.size) (hk:Φ (cutS s m n)):Tot (cutO s m n) Φ:=by
 refine ⟨_,?_,hk⟩
 unfold cutO
 rw [if_pos h]
theorem sub {Φ:List α->Prop}{l:List α}{m n:Int}(h:0<=m/\m<=n/\n<=l.length) (hk:Φ ((l.drop m.toNat).take (n - m).toNat)):Tot (subO l m n) Φ:=by
 refine ⟨_,?_,hk⟩
 unfold subO
 rw [if_pos h]
theorem rem {Φ:Int->Prop}{m n:Int}(h:n≠0) (hk:Φ (m.tmod n)):Tot (remO m n) Φ:=by
 refine ⟨_,?_,hk⟩
 unfold remO
 rw [if_neg h]
theorem quo {Φ:Int->Prop}{m n:Int}(h:n≠0) (hk:Φ (w64 (m.tdiv n))):Tot (quoO m n) Φ:=by
 refine ⟨_,?_,hk⟩
 unfold quoO
 rw [if_neg h]
theorem remU {Φ:Int->Prop}{m n:Int}(h:n≠0) (hk:Φ (m.tmod n)):Tot (Own.remU m n) Φ:=by
 refine ⟨_,?_,hk⟩
 unfold Own.remU
 rw [if_neg h]
theorem quoU {Φ:Int->Prop}{m n:Int}(h:n≠0) (hk:Φ (IntKind.u64.wrap (m.tdiv n))):Tot (Own.quoU m n) Φ:=by
 refine ⟨_,?_,hk⟩
 unfold Own.quoU
 rw [if_neg h]
theorem mk {Φ:List α->Prop}{m:Int}{z:α}(h:0<=m/\m<=lim) (hk:Φ (List.replicate m.toNat z)):Tot (mkO m z) Φ:=by
 refine ⟨_,?_,hk⟩
 unfold mkO
 rw [if_pos h]
theorem ex {x:Option α}{Φ:α->Prop}(h:Tot x Φ):∃ a,x=some a/\Φ a:=h
end Tot
namespace Tot
end Tot
end Go.Own
namespace Go.Proofs
open Go Go.Own
theorem within7 (n:Int):∃ k,0<=k/\k<=6/\pf12 n 7=some k:=by
 have e:remO n 7=some (n.tmod 7):=rfl
 have h1:n.tmod 7<7:=Int.tmod_lt_of_pos n (by decide)
 have h2:-7<n.tmod 7:=Int.lt_tmod_of_pos n (by decide)
 unfold pf12
 rw [e]
 simp only [Option.bind_some]
 generalize n.tmod 7=m at *
 by_cases hm:m<0
 ·refine ⟨m+7,by omega,by omega,?_⟩
  have:w64 (m+7)=m+7:=by rw [w64_eq]; omega
  simp [hm,this]
 ·exact ⟨m,by omega,by omega,by simp [hm]⟩
theorem plain4 (n:Int):pf4 n=some true:=by
 obtain ⟨k,h0,h6,hk⟩:=within7 n
 have hk2:pf12 k 7=some k:=by
  have:k=0\/k=1\/k=2\/k=3\/k=4\/k=5\/k=6:=by omega
  rcases this with rfl | rfl | rfl | rfl | rfl | rfl | rfl <;> rfl
 have e:pf4 n=pf4 k:=by
  unfold pf4
  rw [hk,hk2]
 rw [e]
 have:k=0\/k=1\/k=2\/k=3\/k=4\/k=5\/k=6:=by omega
 rcases this with rfl | rfl | rfl | rfl | rfl | rfl | rfl
 ·exact rp0
 ·exact rp1
 ·exact rp2
 ·exact rp3
 ·exact rp4
 ·exact rp5
 ·exact rp6
end Go.Proofs
