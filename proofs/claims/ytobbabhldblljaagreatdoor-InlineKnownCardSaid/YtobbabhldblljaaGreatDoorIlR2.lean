/- InlineKnown: the row. -/
import Derived.Test.YtobbabhldblljaaGreatDoorIlK
import Derived.Test.YtobbabhldblljaaGreatDoorIlJ
import Derived.Test.YtobbabhldblljaaGreatDoorCards
import Derived.Test.YtobbabhldblljaaGreatDoorTie
import Derived.JoinedCond
import Derived.Deep.DeepHandedRow
import Derived.WalkKit
import Derived.ProofKit
import Derived.OpenShut
import Derived.Carry
import Derived.ChangeSame
import Derived.Lib.LaidU8
import Derived.Shelf.Vars
namespace Go.Ev.W24
open Go.Proofs Go.ChangeShapes Go.WideShapes Go.ChangeAt Go.RowKit
open Go.Proofs.YtobbabhldblljaaGreatDoor
set_option maxRecDepth 100000
theorem own : ownKnob Tryz.prog.godebug = none:=by kernel_rfl
mutual
noncomputable def flatW : DataW Unit→List Value
 | .agg l=>flatWs l
 | .lit (.int k n)=>[.int k n]
 | _=>[]
noncomputable def flatWs : List (DataW Unit)→List Value
 | []=>[]
 | d :: l=>flatW d ++ flatWs l
end
noncomputable def putRow (l : List Value) : Obj→Obj
 | .cells _ t frozen=>.cells l.toArray t frozen
 | o=>o
noncomputable def errRow (s : List UInt8) : Obj:=.cells #[.string ⟨s.toArray⟩] 410
noncomputable def laidHeap (h : Array Obj) : Array Obj:=
 (((((((((h.modify 1 (putRow (flatW Rows.laid_internal_strconv_uint64pow10))).modify 2 (putRow (Go.Pinned.utf8FirstZ.map fun (n : Nat)=>Value.int .u8 n))).modify 3 (putRow (flatW Rows.laid_unicode_utf8_acceptRanges))).modify 4 (putRow (flatW Rows.laid_math_bits_deBruijn32tab))).modify 5 (putRow (flatW Rows.laid_math_bits_deBruijn64tab))).modify 6 (putRow [.iface 408 (.pointer (some ⟨h.size + 0,0,none⟩))])).modify 7 (putRow [.iface 408 (.pointer (some ⟨h.size + 1,0,none⟩))])).push (errRow [105,110,118,97,108,105,100,32,115,121,110,116,97,120])).push (errRow [118,97,108,117,101,32,111,117,116,32,111,102,32,114,97,110,103,101]))
noncomputable def laidWorld (os : Os) : World:={ World.holding Tryz.prog os ⟨#[],#[],[]⟩ with heap:=laidHeap (World.holding Tryz.prog os ⟨#[],#[],[]⟩).heap }
theorem holdsG_table {P : Program} {w : World} {name : String} {g : Nat} {k : IntKind} {zs : List Int} (hg : P.globalNamed name = some g) (h : w.var? P name = some (zs.map fun z=>Value.int k z).toArray) :
 HoldsG w g 0 zs.length (zs.map (V.int k)):=by
 unfold World.var? at h
 rw [hg] at h
 simp only [Option.bind_some] at h
 split at h
 · rename_i cs el fz hh
   cases h
   refine ⟨_,el,fz,hh,by simp,by simp,fun i v hv=>?_⟩
   rw [List.getElem?_map] at hv
   obtain ⟨z,hz,rfl⟩:=Option.map_eq_some_iff.1 hv
   exact ⟨.int k z,by simp [hz],fun _=>.int k z,rfl⟩
 · cases h
def powZ : List Int:=pow10.map fun | .int _ z=>z | _=>0
theorem powTy : (Tryz.prog.globals[1]?).map (·.type) = some 353:=by kernel_rfl
theorem gPow : Tryz.prog.globalNamed "internal/strconv.uint64pow10" = some 1:=by kernel_rfl
theorem pow_holds {W : World} (h : laidMet Tryz.prog Rows.inlineKnownRow.laid W) : HoldsG W 1 0 20 pow10:=by
 obtain ⟨g,t,cs,fuel,p,h1,h2,h3,h4⟩:=Go.Lib.laidMet.reads h (n := "internal/strconv.uint64pow10") (d:=Rows.laid_internal_strconv_uint64pow10) (by simp [Rows.inlineKnownRow])
 obtain rfl:=Option.some.inj (gPow.symm.trans h1)
 have hz : (Rows.laid_internal_strconv_uint64pow10 : DataW Unit) = Go.Lib.tabData .u64 powZ:=by kernel_rfl
 rw [hz] at h4
 have hcs : cs.toList = powZ.map fun z=>Value.int .u64 z:=by
  obtain rfl:=Option.some.inj (powTy.symm.trans h2)
  exact Go.Lib.cells_of_tab (n:=20) (e:=209) (by kernel_rfl) (by kernel_rfl) (by kernel_rfl) (by kernel_rfl) h4
 have:=holdsG_table (k:=.u64) (zs:=powZ) gPow (by rw [h3,← hcs])
 exact this
theorem size3 {W : World} (h : W.ShapedOpen Tryz.prog) : 8 ≤ W.heap.size:=by
 have e : (((begin Tryz.prog (fun _ _=>0) default).world.heap[7]?).bind Obj.row?).isSome = true:=by kernel_rfl
 obtain ⟨⟨z,t⟩,e⟩:=Option.isSome_iff_exists.1 e
 obtain ⟨cs,hh,_⟩:=h.1 7 z t (of_decide_eq_true (by kernel_rfl)) e
 exact (Array.getElem?_eq_some_iff.1 hh).1
theorem mx_holds {W : World} (h : W.ShapedOpen Tryz.prog) : ∃ m el fz,W.heap[0]? = some (.cells #[.int .i64 m] el fz):=by
 have e : ((begin Tryz.prog (fun _ _=>0) default).world.heap[0]?).bind Obj.row? = some (#[.int .i64 0],3):=by kernel_rfl
 obtain ⟨cs,hh,hs,_⟩:=h.1 0 _ _ (of_decide_eq_true (by kernel_rfl)) e
 obtain ⟨m,hm⟩:=cell_of_shapedOpen_int (k:=.i64) h (of_decide_eq_true (by kernel_rfl)) e rfl (by kernel_rfl) (by kernel_rfl) (by kernel_rfl)
 have hm : cs[0]? = some (.int .i64 m):=by simpa [World.cell?,hh] using hm
 have : cs = #[.int .i64 m]:=by
  obtain ⟨l⟩:=cs
  match l,hs,hm with
  | [x],_,hm=>simpa using hm
 exact ⟨m,_,_,by rw [hh,this]⟩
theorem grd3 {W : World} (hsh : W.ShapedOpen Tryz.prog) (hL : laidMet Tryz.prog Rows.inlineKnownRow.laid W) : Grd Tryz.prog G8 nx8 W:=
 Grd.of G8ok nx8g (size3 hsh) fun g l hm=>by
  simp only [G8,List.mem_cons,List.not_mem_nil,or_false,Prod.mk.injEq] at hm
  rcases hm with ⟨rfl,rfl⟩ | ⟨rfl,rfl⟩
  · exact .inl ⟨rfl,mx_holds hsh⟩
  · exact .inr ⟨by simp [pow10],20,pow_holds hL⟩
theorem contract3 (H : Type) (enc : TypeId × Value→H) (W : World) (base : Nat) (args : Array Value) (ds gs : List (DataW H)) (before : List MemPlace)
 (hval : ∀ (j : Nat) t v,Tryz.f3.params[j]? = some t→args[j]? = some v→Value.okWide Tryz.prog W .any base t v)
 (hW : DataW.Whole enc Tryz.prog Tryz.f3.params.toList Rows.inlineKnownSpec.vars false W args.toList ds gs before) (hL : laidMetH Tryz.prog Rows.inlineKnownRow.laid W) (hsh : W.ShapedOpen Tryz.prog) :
 Calls Tryz.prog 3 args W fun e W'=>∃ v,e = .returned v∧Rows.inlineKnownSpec.post enc Tryz.prog Tryz.f3 false true false false W args v W':=by
 have hW':=hW
 obtain ⟨p,q,hA0,hV,rfl,hfz,hnd⟩:=hW
 have hA : DataW.TrodAll enc Tryz.prog W 0 (fun _=>true) true Tryz.f3.params.toList args.toList ds p:=hA0
 rw [Tryz.params3] at hA hval
 obtain ⟨hargs,rfl,rfl⟩:=trodAll_nil hA
 obtain rfl : args = #[]:=by cases args; simp_all
 obtain ⟨rfl,rfl⟩:=trodVars_none hV
 clear hA0
 simp only [List.append_nil] at hW'
 refine (knownY W (grd3 hsh hL)).mono fun e W' ⟨he,bel⟩=>?_
 subst he
 exact ⟨_,rfl,_,_,_,[],[],[],hW',trodAll_mk1 (shut_bool Tryz.underlying4 _),trodAll_mk0,rfl,bel.frame _,fun h=>by cases h⟩
theorem laid_met3 (os : Os) : laidMet Tryz.prog Rows.inlineKnownRow.laid ((laidWorld os).forCall (fun _ _=>0) ⟨#[],#[],[]⟩).memory:=
 laidMet_of_run' 8 (by kernel_rfl) (by kernel_rfl)
theorem reads3 (os : Os) {H : Type} (enc : TypeId × Value→H) : ∃ places,DataW.whole enc Tryz.prog ((laidWorld os).forCall (fun _ _=>0) ⟨#[],#[],[]⟩).memory Tryz.f3.params.toList Rows.inlineKnownSpec.vars false (#[] : Array Value).toList 8 = some ([],[],places):=
 ⟨[],by kernel_rfl⟩
theorem lifted3 (os : Os) (started : os.Started) (H : Type) (enc : TypeId × Value→H) (F : Stop.Interp) :
 ReturnsInHanded {} Tryz.checked os 3 .any ((OpenSpec.ofChange Rows.inlineKnownSpec).preRow enc Tryz.prog Tryz.f3 Rows.inlineKnownRow.domain false Rows.inlineKnownRow.laid) (((OpenSpec.ofChange Rows.inlineKnownSpec).at F).post enc Tryz.prog Tryz.f3 false true false false):=by
 obtain ⟨places,hx⟩:=reads3 os enc
 refine returnsInHanded_of_row (C:=Tryz.checked) (s:=OpenSpec.ofChange Rows.inlineKnownSpec) own started (by kernel_rfl) Tryz.func3
  (witness_row_at (enc:=enc) (C:=Tryz.checked) false (laidWorld os) #[] rfl (by kernel_rfl) (by kernel_rfl) (by kernel_rfl)
    (OpenSpec.preRow_of_cond 8 hx (by kernel_rfl) (fun k hk=>by cases hk) (by kernel_rfl) (laid_met3 os))) ?_
 intro W base args ds gs before hval hW _ _ _ hL hsh _
 exact contract3 H enc W base args ds gs before hval hW hL hsh
theorem said3 : Rows.InlineKnownSaid:=
 OpenClaim.holds_of_cond 3 Tryz.f3 rfl rfl rfl rfl rfl rfl rfl ⟨rfl,rfl,rfl,rfl,rfl⟩ rfl rfl rfl rfl rfl (by kernel_rfl) Tryz.func3 joined3
  (of_decide_eq_true (by kernel_rfl)) (by unfold Func.isWrapper; first | (rw [if_pos (by decide +kernel)]; kernel_rfl) | (rw [if_neg (by decide +kernel)]; exact ⟨rfl,rfl⟩))
  (fun os started H enc _ F=>by rw [OpenClaim.pre_eq_preRow]; exact lifted3 os started H enc F)
end Go.Ev.W24
