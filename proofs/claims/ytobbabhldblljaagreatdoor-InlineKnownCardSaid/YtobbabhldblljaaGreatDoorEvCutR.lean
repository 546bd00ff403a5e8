/- EvCutR: texts joined. -/
import Derived.Test.YtobbabhldblljaaGreatDoorEvForget
import Derived.Test.YtobbabhldblljaaGreatDoorEvIter
import Derived.Lib.Index
import Derived.Test.YtobbabhldblljaaGreatDoorProg
import Derived.Shelf.Strings.Search2
import Derived.KernelRfl
/- EVALUATOR: a call out of a memory of which package-level tables of numbers are known. -/
namespace Go.Ev
open Go.RowKit
variable {P : Program}
structure HoldsG (w : World) (c z S : Nat) (l : List V) : Prop where
 at_ : ∃ cs el fz,w.heap[c]? = some (.cells cs el fz)∧cs.size = S∧z + l.length ≤ S∧∀ i v,l[i]? = some v→∃ x,cs[z + i]? = some x∧(∀ ρ,VR ρ v x)∧x.oneCell' = true
theorem HoldsG.lt {w : World} {c z S : Nat} {l : List V} (h : HoldsG w c z S l) : c < w.heap.size:=by
 obtain ⟨cs,el,fz,h1,_⟩:=h.at_
 exact (Array.getElem?_eq_some_iff.1 h1).1
abbrev Gr:=List (Nat × List V)
def Gr.blk : List V→Blk
 | []=>.ob (.num .i64)
 | v :: l=>.arr (v :: l).length (Nat.succ Nat.zero) (.lf (v :: l)) true
theorem Gr.blk_wr (l : List V) : (Gr.blk l).wr = false:=by cases l <;> rfl
theorem Gr.blk_arr {l : List V} {g n : Nat} {t : T} {ro : Bool} (h : Gr.blk l = .arr g n t ro) : 0 < l.length∧g = l.length∧n = Nat.succ Nat.zero∧t = .lf l∧ro = true:=by
 cases l with
 | nil=>cases h
 | cons v l=>cases h; exact ⟨by simp,rfl,rfl,rfl,rfl⟩
theorem Gr.blk_ob {l : List V} {x : Oth} (h : Gr.blk l = .ob x) : l = []∧x = .num .i64:=by
 cases l with
 | nil=>cases h; exact ⟨rfl,rfl⟩
 | cons v l=>cases h
def Gr.ht : Gr→HT
 | []=>[]
 | (g,l) :: r=>(Gr.ht r).set (gid g) (Gr.blk l)
theorem Gr.ht_get : ∀ (G : Gr) (b : Bid),(Gr.ht G).get b = .none ∨ ∃ g l,(g,l) ∈ G∧b = gid g∧(Gr.ht G).get b = Gr.blk l
 | [],b=>.inl (HT.get_nil b)
 | (g,l) :: r,b=>by
   by_cases e : b = gid g
   · subst e
     exact .inr ⟨g,l,by simp,rfl,by simp only [Gr.ht]; rw [HT.get_set]⟩
   · rcases Gr.ht_get r b with h | ⟨g',l',h1,h2,h3⟩
     · exact .inl (by simp only [Gr.ht]; rw [HT.get_set_ne _ e]; exact h)
     · exact .inr ⟨g',l',List.mem_cons_of_mem _ h1,h2,by simp only [Gr.ht]; rw [HT.get_set_ne _ e]; exact h3⟩
def V.isInt : V→Bool
 | .int _ _=>true
 | _=>false
theorem VR.int_any {ρ ρ' : Rho} {v : V} {x : Value} (hv : v.isInt = true) (h : VR ρ v x) : VR ρ' v x:=by
 cases v with
 | int k n=>cases h; exact .int k n
 | _=>cases hv
def Gr.ok (G : Gr) (nx : Bid) : Bool:=G.all fun x=>decide (x.1 < nx.val) && decide ((gid x.1).val = x.1) && x.2.all V.isInt
theorem Gr.ok_at {G : Gr} {nx : Bid} (h : G.ok nx = true) {g : Nat} {l : List V} (hm : (g,l) ∈ G) : g < nx.val∧(gid g).val = g∧∀ v ∈ l,v.isInt = true:=by
 have:=List.all_eq_true.1 h _ hm
 simp only [Bool.and_eq_true,decide_eq_true_eq,List.all_eq_true] at this
 exact ⟨this.1.1,this.1.2,this.2⟩
def Grd (P : Program) (G : Gr) (nx : Bid) (w : World) : Prop:=∃ ρ,RH P ρ ⟨Gr.ht G,nx⟩ w∧GlobR ρ nx.val
theorem Gr.no_wr {G : Gr} {nx : Bid} {ρ : Rho} (c : Nat) : ¬ Wr ρ ⟨Gr.ht G,nx⟩ c:=by
 rintro ⟨b,z,S,_,h⟩
 rcases Gr.ht_get G b with h1 | ⟨_,_,_,_,h1⟩
 · rw [show (Heap.mk (Gr.ht G) nx).t.get b = .none from h1] at h; cases h
 · rw [show (Heap.mk (Gr.ht G) nx).t.get b = _ from h1,Gr.blk_wr] at h; cases h
def cellsSz : Option Obj→Nat
 | some (.cells cs _ _)=>cs.size
 | _=>0
theorem Gr.get_wr (G : Gr) (nx b : Bid) : ((Heap.mk (Gr.ht G) nx).t.get b).wr = false:=by
 rcases Gr.ht_get G b with h1 | ⟨_,l,_,_,h1⟩
 · rw [show (Heap.mk (Gr.ht G) nx).t.get b = .none from h1]; rfl
 · rw [show (Heap.mk (Gr.ht G) nx).t.get b = _ from h1]; exact Gr.blk_wr l
theorem Gr.fresh {G : Gr} {nx : Bid} (ok : G.ok nx = true) {b : Bid} (hb : nx.val ≤ b.val) : (Heap.mk (Gr.ht G) nx).t.get b = .none:=by
 rcases Gr.ht_get G b with h1 | ⟨g,l,h1,h2,_⟩
 · exact h1
 · obtain ⟨h4,h5,_⟩:=Gr.ok_at ok h1
   subst h2; omega
theorem Grd.of {G : Gr} {nx : Bid} {w : World} (ok : G.ok nx = true) (hg : ∀ g,g < nx.val→(gid g).val = g) (hn : nx.val ≤ w.heap.size)
 (hh : ∀ g l,(g,l) ∈ G→(l = []∧∃ m el fz,w.heap[g]? = some (.cells #[.int .i64 m] el fz)) ∨ (0 < l.length∧∃ S,HoldsG w g 0 S l)) : Grd P G nx w:=by
 refine ⟨fun b=>if b.val < nx.val then some (b.val,0,cellsSz w.heap[b.val]?) else none,⟨?_,?_,?_,?_,?_,?_⟩,?_⟩
 · intro b c z S h
   split at h
   · cases h; omega
   · cases h
 · intro b hb
   have hb' : nx.val ≤ b.val:=hb
   exact ⟨by rw [if_neg (by omega)],Gr.fresh ok hb'⟩
 · intro b b' c z S z' S' hb
   rw [Gr.get_wr] at hb; cases hb
 · intro b c z S g n t ro hb hx
   rcases Gr.ht_get G b with h1 | ⟨g',l,hm,h2,h1⟩
   · exact absurd (h1.symm.trans hx) (by intro e; cases e)
   · obtain ⟨h6,rfl,rfl,rfl,rfl⟩:=Gr.blk_arr (h1.symm.trans hx)
     obtain ⟨h4,h5,_⟩:=Gr.ok_at ok hm
     subst h2
     rcases hh g' l hm with ⟨rfl,_⟩ | ⟨_,S',⟨cs,el,fz,a1,a2,a3,a4⟩⟩
     · simp at h6
     simp only [h5] at hb
     rw [if_pos h4] at hb
     simp only [Option.some.injEq,Prod.mk.injEq] at hb
     obtain ⟨rfl,rfl,hs⟩:=hb
     rw [a1] at hs
     have hs' : cs.size = S:=hs
     have h8 : 0 + Nat.zero.succ * l.length ≤ S:=by rw [show Nat.zero.succ = 1 from rfl]; omega
     refine ⟨cs,h6,⟨el,fz,a1,fun h=>by cases h⟩,hs',h8,fun j ch hj=>?_⟩
     cases j with
     | succ j=>simp [T.get] at hj
     | zero=>
       simp [T.get] at hj
       subst hj
       refine ⟨by omega,rfl,fun i v hi=>?_⟩
       obtain ⟨x,b1,b2,b3⟩:=a4 i v hi
       exact ⟨x,by rw [← b1]; congr 1; omega,b2 _,b3⟩
 · intro b c z S x hb hx
   rcases Gr.ht_get G b with h1 | ⟨g',l,hm,h2,h1⟩
   · exact absurd (h1.symm.trans hx) (by intro e; cases e)
   · obtain ⟨rfl,rfl⟩:=Gr.blk_ob (h1.symm.trans hx)
     obtain ⟨h4,h5,_⟩:=Gr.ok_at ok hm
     subst h2
     simp only [h5] at hb
     rw [if_pos h4] at hb
     simp only [Option.some.injEq,Prod.mk.injEq] at hb
     obtain ⟨rfl,rfl,hs⟩:=hb
     rcases hh g' [] hm with ⟨_,m,el,fz,a1⟩ | ⟨h0,_⟩
     · exact ⟨_,a1,⟨m,rfl⟩,rfl,fun e=>by cases e⟩
     · simp at h0
 · intro p c z S m s q l hb hx
   rcases Gr.ht_get G p with h1 | ⟨_,l',_,_,h1⟩
   · exact absurd (h1.symm.trans hx) (by intro e; cases e)
   · obtain ⟨_,e⟩:=Gr.blk_ob (h1.symm.trans hx); cases e
 · intro g h
   exact ⟨cellsSz w.heap[g]?,by simp only [hg g h]; rw [if_pos h]⟩
noncomputable def gchk (h : Heap) (k : Res) (G : Gr) : Res:=List.rec (motive:=fun _=>Res) k (fun x _ ih=>h.getk (gid x.1) fun y=>blkq y (Gr.blk x.2) ih) G
theorem gchk_ok {h : Heap} {k r : Res} : ∀ {G : Gr},gchk h k G = r→r ≠ .fail→(∀ g l,(g,l) ∈ G→h.t.get (gid g) = Gr.blk l)∧k = r
 | [],hh,_=>⟨fun _ _ h=>(by cases h),hh⟩
 | (g,l) :: G,hh,hr=>by
   have hh' : (h.getk (gid g) fun y=>blkq y (Gr.blk l) (gchk h k G)) = r:=hh
   rw [Heap.getk_eq] at hh'
   obtain ⟨e,h1⟩:=blkq_ok hh' hr
   obtain ⟨h2,h3⟩:=gchk_ok h1 hr
   refine ⟨fun g' l' hm=>?_,h3⟩
   rcases List.mem_cons.1 hm with e' | hm
   · cases e'; exact e
   · exact h2 _ _ hm
theorem Grd.of_rh {G : Gr} {nx : Bid} {ρ : Rho} {h : Heap} {w : World} (ok : G.ok nx = true) (hgid : ∀ g,g < nx.val→(gid g).val = g) (rh : RH P ρ h w) (hg : GlobR ρ nx.val) (hG : ∀ g l,(g,l) ∈ G→h.t.get (gid g) = Gr.blk l) : Grd P G nx w:=by
 have inv : ∀ {b : Bid} {x},ρ.upTo nx.val b = some x→ρ b = some x:=fun {b x} hb=>by
  unfold Rho.upTo at hb
  split at hb
  · exact hb
  · cases hb
 refine ⟨ρ.upTo nx.val,⟨fun b c z S hb=>rh.lt _ _ _ _ (inv hb),fun b hb=>⟨by unfold Rho.upTo; rw [if_neg (by have : nx.val ≤ b.val:=hb; omega)],Gr.fresh ok hb⟩,fun b b' c z S z' S' hb=>(by rw [Gr.get_wr] at hb; cases hb),?_,?_,?_⟩,?_⟩
 · intro b c z S g n t ro hb hx
   rcases Gr.ht_get G b with h1 | ⟨g',l,hm,h2,h1⟩
   · exact absurd (h1.symm.trans hx) (by intro e; cases e)
   · have e:=h1.symm.trans hx
     subst h2
     obtain ⟨cs,ha⟩:=rh.arr _ c z S g n t ro (inv hb) ((hG _ _ hm).trans e)
     obtain ⟨_,_,h7⟩:=Gr.ok_at ok hm
     obtain ⟨_,rfl,rfl,rfl,rfl⟩:=Gr.blk_arr e
     refine ⟨cs,ha.pos,ha.at_,ha.size,ha.fits,fun j ch hj=>?_⟩
     obtain ⟨k1,k2,k3⟩:=ha.cells j ch hj
     refine ⟨k1,k2,fun i v hi=>?_⟩
     obtain ⟨x,m1,m2,m3⟩:=k3 i v hi
     have hv : v ∈ l:=by
      cases j with
      | succ j=>simp [T.get] at hj
      | zero=>simp [T.get] at hj; subst hj; exact List.mem_of_getElem? hi
     exact ⟨x,m1,m2.int_any (h7 v hv),m3⟩
 · intro b c z S x hb hx
   rcases Gr.ht_get G b with h1 | ⟨g',l,hm,h2,h1⟩
   · exact absurd (h1.symm.trans hx) (by intro e; cases e)
   · have e:=h1.symm.trans hx
     subst h2
     obtain ⟨o,q1,q2,q3⟩:=rh.ob _ c z S x (inv hb) ((hG _ _ hm).trans e)
     obtain ⟨_,rfl⟩:=Gr.blk_ob e
     refine ⟨o,q1,?_,q3⟩
     cases o <;> first | exact q2.elim | exact q2
 · intro p c z S m s q l hb hx
   rcases Gr.ht_get G p with h1 | ⟨_,l',_,_,h1⟩
   · exact absurd (h1.symm.trans hx) (by intro e; cases e)
   · obtain ⟨_,e⟩:=Gr.blk_ob (h1.symm.trans hx); cases e
 · intro g h
   obtain ⟨S,h1⟩:=hg g h
   refine ⟨S,?_⟩
   unfold Rho.upTo
   rw [if_pos (by rw [hgid g h]; exact h)]; exact h1
def YesG (P : Program) (G : Gr) (nx : Bid) (f : Nat) (args : List Value) : Prop:=∀ W : World,Grd P G nx W→Calls P f args.toArray W fun e w'=>e = .returned (.bool true)∧Below W.heap.size W w'
theorem yesG {tab : FT} {G : Gr} {nx : Bid} {f : Fid} {n d : Nat} {l : List V} {args : List Value} (ok : TabOk P nx.val tab) (hy : yes (call tab n d f l ⟨Gr.ht G,nx⟩) = true) (hl : ∀ ρ,VRs ρ l args) (h32 : f.val < 32768:=by decide) : YesG P G nx f.val args:=by
 intro W ⟨ρ,rh,hg⟩
 obtain ⟨_,c⟩:=(call_ok ok (n:=n) d f).1 h32 _ _ _ rfl (yes_fine hy)
 refine (c _ W args (hl _) rh hg).mono fun e w' hc=>?_
 obtain ⟨_,ρ',y,rfl,hy,_,hx⟩:=yes_came hy hc
 cases hy
 exact ⟨rfl,hx.os,hx.tape,hx.output,hx.size,fun k hk=>(hx.keep k hk (Gr.no_wr k)).1⟩
noncomputable def patG (G : Gr) (L : List (List Pa)) (l : List V) (h : Heap) (n : Res) : Res:=
 List.rec (motive:=fun _=>Res) n (fun ps _ ih=>pak ps l (gchk h (.ret (.bool .true) h) G) ih) L
theorem patG_ok {G : Gr} {L : List (List Pa)} {l : List V} {h : Heap} {n r : Res} (hh : patG G L l h n = r) (hr : r ≠ .fail) : (∃ ps ∈ L,l = ps.map Pa.v∧gchk h (.ret (.bool .true) h) G = r) ∨ n = r:=by
 induction L with
 | nil=>exact .inr hh
 | cons ps L ih=>
   rcases pak_ok (show pak ps l _ _ = r from hh) hr with ⟨h1,h2⟩ | h1
   · exact .inl ⟨ps,by simp,h1,h2⟩
   · rcases ih h1 with ⟨ps',h2,h3⟩ | h2
     · exact .inl ⟨ps',by simp [h2],h3⟩
     · exact .inr h2
def YesPG (P : Program) (G : Gr) (nx : Bid) (f : Nat) (ps : List Pa) : Prop:=∀ ρ args,VRs ρ (ps.map Pa.v) args→YesG P G nx f args
theorem yesPG {tab : FT} {G : Gr} {nx : Bid} {f : Fid} {n d : Nat} {ps : List Pa} (ok : TabOk P nx.val tab) (hy : yes (call tab n d f (ps.map Pa.v) ⟨Gr.ht G,nx⟩) = true) (h32 : f.val < 32768:=by decide) : YesPG P G nx f.val ps:=
 fun _ _ h=>yesG ok hy (fun _=>Pa.vrs ps h) h32
theorem pook_PG {G : Gr} {nx : Bid} {f : Nat} {g : Nat→CF→List V→Heap→Res} {L : List (List Pa)} (hG : G.ok nx = true) (hgid : ∀ g,g < nx.val→(gid g).val = g) (hg : POok P nx.val f (.sh g)) (hf : Enters P f) (y : ∀ ps ∈ L,YesPG P G nx f ps) (h32 : f < 32768:=by decide) : POok P nx.val f (.sh fun m cf l h=>patG G L l h (g m cf l h)):=by
 intro m cf hc
 refine .fn ?_ h32
 intro l h r hh hr
 refine ⟨hf,fun ρ w args hl rh hglob=>?_⟩
 rcases patG_ok hh hr.ne with ⟨ps,h1,rfl,h2⟩ | h1
 · obtain ⟨h3,rfl⟩:=gchk_ok h2 hr.ne
   exact (y ps h1 _ _ hl w (Grd.of_rh hG hgid rh hglob h3)).mono fun e w' hc=>came_of rh (.bool true) hc
 · exact ((hg m cf hc).1 h32 l h r h1 hr).2 ρ w args hl rh hglob
noncomputable def idxs (l' n' p : Nat) (l : Nat) : Nat→Nat→(Int→Res)→Res:=
 Nat.rec (motive:=fun _=>Nat→Nat→(Int→Res)→Res) (fun _ i k=>ifk (Nat.beq l' 0) (k (.ofNat i)) (k (.negSucc 0)))
  (fun l ih n i k=>ifk (Nat.ble l' (Nat.succ l)) (ifk (Nat.beq (Nat.mod n p) n') (k (.ofNat i)) (ih (Nat.div n 256) (Nat.succ i) k)) (ih (Nat.div n 256) (Nat.succ i) k)) l
theorem prefix_dig {l' n' : Nat} (hn : n' < 256 ^ l') : ∀ {l n : Nat},(dig l' n').isPrefixOf (dig l n) = (decide (l' ≤ l) && decide (n % 256 ^ l' = n')):=by
 induction l' generalizing n' with
 | zero=>
   intro l n
   obtain rfl : n' = 0:=by simpa using hn
   simp [dig,List.isPrefixOf,Nat.mod_one]
 | succ l' ih=>
   intro l n
   cases l with
   | zero=>simp [dig,List.isPrefixOf]
   | succ l=>
     have hd : n' / 256 < 256 ^ l':=by rw [Nat.div_lt_iff_lt_mul (by omega)]; rw [Nat.pow_succ] at hn; exact hn
     simp only [dig,List.isPrefixOf,ih hd (l:=l) (n:=n / 256)]
     have e1 : n % 256 ^ (l' + 1) = n % 256 + 256 * (n / 256 % 256 ^ l'):=by
      rw [Nat.pow_succ,Nat.mul_comm,Nat.mod_mul]
     rw [e1,Bool.eq_iff_iff]
     simp only [Bool.and_eq_true,beq_iff_eq,decide_eq_true_eq,Nat.succ_le_succ_iff]
     have b1:=Nat.mod_lt n (show 0 < 256 by omega)
     have b2:=Nat.mod_lt n' (show 0 < 256 by omega)
     constructor
     · rintro ⟨h1,h2,h3⟩
       have h1 : n' % 256 = n % 256:=by
        have:=congrArg UInt8.toNat h1
        simpa using this
       refine ⟨h2,?_⟩
       rw [h3]; omega
     · rintro ⟨h2,h3⟩
       have h4 : n' % 256 = n % 256:=by omega
       exact ⟨by rw [h4],h2,by omega⟩
theorem idxs_eq {l' n' : Nat} (hn : n' < 256 ^ l') : ∀ (l n i : Nat) (k : Int→Res),idxs l' n' (256 ^ l') l n i k = k (if Lib.index (dig l n) (dig l' n') = -1 then -1 else Lib.index (dig l n) (dig l' n') + i)
 | 0,n,i,k=>by
   show ifk (Nat.beq l' 0) (k (.ofNat i)) (k (.negSucc 0)) = _
   cases l' with
   | zero=>simp [dig,Lib.index,ifk]
   | succ l'=>
     simp [dig,Lib.index,ifk]
     rfl
 | l + 1,n,i,k=>by
   show ifk (Nat.ble l' (Nat.succ l)) (ifk (Nat.beq (Nat.mod n (256 ^ l')) n') (k (.ofNat i)) (idxs l' n' (256 ^ l') l (Nat.div n 256) (Nat.succ i) k)) (idxs l' n' (256 ^ l') l (Nat.div n 256) (Nat.succ i) k) = _
   have hp:=prefix_dig hn (l:=l + 1) (n:=n)
   have hd : dig (l + 1) n = UInt8.ofNat (n % 256) :: dig l (n / 256):=rfl
   have hge:=Lib.index_ge (dig l (n / 256)) (dig l' n')
   rw [hd] at hp ⊢
   rw [Lib.index,hp]
   have step:=idxs_eq hn l (n / 256) (i + 1) k
   have eqv : (if (if Lib.index (dig l (n / 256)) (dig l' n') == -1 then -1 else Lib.index (dig l (n / 256)) (dig l' n') + 1) = -1 then (-1 : Int) else (if Lib.index (dig l (n / 256)) (dig l' n') == -1 then -1 else Lib.index (dig l (n / 256)) (dig l' n') + 1) + i) = (if Lib.index (dig l (n / 256)) (dig l' n') = -1 then -1 else Lib.index (dig l (n / 256)) (dig l' n') + ((i + 1 : Nat) : Int)):=by
    by_cases h : Lib.index (dig l (n / 256)) (dig l' n') = -1
    · simp [h]
    · have : Lib.index (dig l (n / 256)) (dig l' n') + 1 ≠ -1:=by omega
      simp only [h,beq_iff_eq,if_false,this]
      omega
   rw [ifk_eq,ifk_eq]
   by_cases h1 : l' ≤ l + 1
   · rw [if_pos (Nat.ble_eq_true_of_le h1)]
     by_cases h2 : n % 256 ^ l' = n'
     · rw [if_pos (by show Nat.beq (n % 256 ^ l') n' = true; rw [h2]; exact Nat.beq_refl _)]
       simp [h1,h2]
     · rw [if_neg (fun (e : (n.mod (256 ^ l')).beq n' = true)=>h2 (Nat.eq_of_beq_eq_true e))]
       simp only [h1,h2,decide_true,decide_false,Bool.and_false,Bool.false_eq_true,if_false]
       rw [eqv]; exact step
   · rw [if_neg (fun e=>h1 (Nat.le_of_ble_eq_true e))]
     simp only [h1,decide_false,Bool.false_and,Bool.false_eq_true,if_false]
     rw [eqv]; exact step
noncomputable def shIdx (mx : Nat) (l : List V) (h : Heap) : Res:=
 unc l fun a l=>unc l fun b l=>nilk' l (strk a fun l n=>strk b fun l' n'=>ifk (Nat.blt l 4294967281) (h.getk (gid mx) fun y=>blkq y (Gr.blk []) (idxs l' n' (Nat.pow 256 l') l n 0 fun i=>.ret (.int .i64 i) h)) .fail)
theorem pook_idx {ng mx f : Nat} (hmx : mx < ng) (hgid : (gid mx).val = mx) (hf : Enters P f)
 (hc : ∀ (s sub : ByteArray) (m : Int) (w : World),s.size < 4294967281→w.cell? ⟨mx,0,none⟩ = some (.int .i64 m)→Calls P f #[.string s,.string sub] w fun e w'=>e = .returned (.int .i64 (Lib.index s.data.toList sub.data.toList))∧w' = w)
 (h32 : f < 32768:=by decide) : POok P ng f (.sh fun _ _ l h=>shIdx mx l h):=by
 intro m cf _
 refine .fn ?_ h32
 intro l h r hh hr
 refine ⟨hf,fun ρ w args hl rh hglob=>?_⟩
 obtain ⟨a,l1,rfl,h1⟩:=unc_ok (show unc l _ = r from hh) hr.ne
 obtain ⟨b,l2,rfl,h2⟩:=unc_ok h1 hr.ne
 obtain ⟨rfl,h3⟩:=nilk'_ok h2 hr.ne
 obtain ⟨la,na,rfl,h4⟩:=strk_ok h3 hr.ne
 obtain ⟨lb,nb,rfl,h5⟩:=strk_ok h4 hr.ne
 obtain ⟨h6,h7⟩:=ifk_fail h5 hr.ne
 rw [Heap.getk_eq] at h7
 obtain ⟨hz,h8⟩:=blkq_ok h7 hr.ne
 cases hl with
 | cons ha hs=>
   cases hs with
   | cons hb hs=>
     cases hs
     obtain ⟨s,rfl,e1,e2⟩:=ha.str_inv
     obtain ⟨s',rfl,e3,e4⟩:=hb.str_inv
     have h8 : idxs lb nb (256 ^ lb) la na 0 (fun i=>.ret (.int .i64 i) h) = r:=h8
     rw [idxs_eq e4] at h8
     obtain ⟨S,hS⟩:=hglob mx hmx
     obtain ⟨o,q1,q2,_⟩:=rh.ob _ _ _ _ _ hS hz
     obtain ⟨z,hcell⟩ : ∃ z,w.cell? ⟨mx,0,none⟩ = some (.int .i64 z):=by
      cases o <;> first | exact q2.elim | skip
      obtain ⟨z,rfl⟩:=q2
      exact ⟨z,by simp [World.cell?,q1]⟩
     have hsz:=str_size e1
     refine (hc s s' z w (by rw [hsz]; simpa [Nat.blt_eq] using h6) hcell).mono fun e w' he=>?_
     obtain ⟨rfl,rfl⟩:=he
     rw [← h8]
     refine came_of rh ?_ ⟨rfl,.refl _ _⟩
     rw [e1,e3]
     have : (if Lib.index (dig la na) (dig lb nb) = -1 then -1 else Lib.index (dig la na) (dig lb nb) + ((0 : Nat) : Int)) = Lib.index (dig la na) (dig lb nb):=by
      split
      · rename_i h; rw [h]
      · simp
     rw [this]
     exact .int _ _
end Go.Ev

/- INLINE: internal/stringslite.Index, by the library's contract: whatever internal/bytealg.MaxLen holds. -/
namespace Go.Ev.W24
open Go.Proofs Go.Shelf
set_option maxRecDepth 100000
def renI : Ren:=⟨fun x=>match x with | 217=>129 | 219=>90 | 224=>131 | 225=>130 | 266=>177 | 267=>132 | 314=>178 | n=>n,fun x=>match x with | 46=>195 | 51=>244 | 146=>245 | n=>n,fun x=>match x with | 1=>0 | n=>n⟩
theorem laysI : Lays.n219 Tryz.prog renI where
 mixed:=by kernel_rfl
 f217:=by kernel_rfl
 f219:=by kernel_rfl
 f224:=by kernel_rfl
 f225:=by kernel_rfl
 f266:=by kernel_rfl
 f267:=by kernel_rfl
 f314:=by kernel_rfl
 t3:=by kernel_rfl
 a3:=fun w=>by kernel_rfl
 z3:=fun w=>by kernel_rfl
 v3:=fun w=>by kernel_rfl
 t4:=by kernel_rfl
 a4:=fun w=>by kernel_rfl
 z4:=fun w=>by kernel_rfl
 v4:=fun w=>by kernel_rfl
 t5:=by kernel_rfl
 a5:=fun w=>by kernel_rfl
 z5:=fun w=>by kernel_rfl
 v5:=fun w=>by kernel_rfl
 t9:=by kernel_rfl
 a9:=fun w=>by kernel_rfl
 z9:=fun w=>by kernel_rfl
 v9:=fun w=>by kernel_rfl
 t46:=by kernel_rfl
 a46:=fun w=>by kernel_rfl
 z46:=fun w=>by kernel_rfl
 v46:=fun w=>by kernel_rfl
 t51:=by kernel_rfl
 a51:=fun w=>by kernel_rfl
 z51:=fun w=>by kernel_rfl
 v51:=fun w=>by kernel_rfl
 t146:=by kernel_rfl
 a146:=fun w=>by kernel_rfl
 z146:=fun w=>by kernel_rfl
 v146:=fun w=>by kernel_rfl
 g1:=by kernel_rfl
theorem index_calls (s sub : ByteArray) (m : Int) (w : World) (hs : s.size < 4294967281) (hm : w.cell? ⟨0,0,none⟩ = some (.int .i64 m)) :
 Calls Tryz.prog 90 #[.string s,.string sub] w fun e w'=>e = .returned (.int .i64 (Lib.index s.data.toList sub.data.toList))∧w' = w:=Any.stringslite_Index laysI s sub m w hs hm
end Go.Ev.W24

/- InlineKnown: the closed calls of 'is'. -/
namespace Go.Ev.W24
open Go.Proofs
set_option maxRecDepth 1000000
abbrev nx8 : Bid:=⟨0,.d0,.d0,.d0,.d8⟩
theorem nx8g : ∀ g,g < nx8.val→(gid g).val = g:=by decide
def pow10 : List V:=[.int .u64 (.ofNat (nat_lit 1)),.int .u64 (.ofNat (nat_lit 10)),.int .u64 (.ofNat (nat_lit 100)),.int .u64 (.ofNat (nat_lit 1000)),.int .u64 (.ofNat (nat_lit 10000)),.int .u64 (.ofNat (nat_lit 100000)),.int .u64 (.ofNat (nat_lit 1000000)),.int .u64 (.ofNat (nat_lit 10000000)),.int .u64 (.ofNat (nat_lit 100000000)),.int .u64 (.ofNat (nat_lit 1000000000)),.int .u64 (.ofNat (nat_lit 10000000000)),.int .u64 (.ofNat (nat_lit 100000000000)),.int .u64 (.ofNat (nat_lit 1000000000000)),.int .u64 (.ofNat (nat_lit 10000000000000)),.int .u64 (.ofNat (nat_lit 100000000000000)),.int .u64 (.ofNat (nat_lit 1000000000000000)),.int .u64 (.ofNat (nat_lit 10000000000000000)),.int .u64 (.ofNat (nat_lit 100000000000000000)),.int .u64 (.ofNat (nat_lit 1000000000000000000)),.int .u64 (.ofNat (nat_lit 10000000000000000000))]
def G8 : Gr:=[((nat_lit 0),[]),((nat_lit 1),pow10)]
theorem G8ok : G8.ok nx8 = true:=by kernel_rfl
noncomputable def h8 : Heap:=⟨Gr.ht G8,nx8⟩
theorem entersX : Enters Tryz.prog 90:=enters_of Tryz.func90 (by kernel_rfl) (by decide +kernel)
noncomputable def shX (_ : Nat) (_ : CF) (l : List V) (h : Heap) : Res:=shIdx 0 l h
noncomputable def tabB : FT:=tabA.put f90 (.sh shX)
theorem tabBOk : TabOk Tryz.prog 8 tabB:=tabAOk.put (pook_idx (by decide) (by decide) entersX index_calls)
def is0 : List Pa:=[.str 48 7104921698066994369444964538026852977179196981431540330329692883899064193851162392190698310039184145671262980614260,.str 49 1820105129192008555817561590647755827451157103880479218546884998516384524030826984749820664094299941500366116622510191,.int .i64 (.ofNat 2)]
def is1 : List Pa:=[.str 48 7104928743694742690944648206469000007057211175925801217029150228491934918434925658190207641980216204344732000200820,.str 60 563342887889343953708431632329869298261671620731896128220657134207585807415075594682259384416380979721526555588919609275376270301877836781267055,.int .i64 (.ofNat 2)]
def is2 : List Pa:=[.str 49 1818861758385854128883857004678310391892754192784820859522351918683812943129014737742661365126770374260950198759467124,.str 48 7104928743694742690952566424524649968331071065565706482509187182358644620899689520981949899883428221079325983123572,.int .i64 (.ofNat 3)]
def is3 : List Pa:=[.str 39 1504527183450887839623849815487147394590897130125647636298325761849425453701021941733474707572,.str 38 5877059310355030623530663341746669510120691914865112716038890968818709966927482024636196980,.int .i64 (.ofNat 3)]
def is4 : List Pa:=[.str 19 1029439273293296612282629506538824062732413039,.str 0 0,.int .i64 (.ofNat 2)]
def is5 : List Pa:=[.str 8 3326244913551583348,.str 0 0,.int .i64 (.ofNat 2)]
def is6 : List Pa:=[.str 48 7104926395152299901157771705630658578316081235070148790027909484651265528341026638787396377288334907934687152842868,.str 68 10390668394708383313990069218373203494164058353623763884384777177918144986019220532269084709798616717421544853598676615016201279862468414519599418106183906767218799,.int .i64 (.ofNat 2)]
def is7 : List Pa:=[.str 45 423489973555056438296227870651630208419290309818812934757839662265688710549874280638636983809339848425744500,.str 55 512357419220076635058904275509655233027865947388509219080691774323040113008203952510695000349268869562175592115161802349907912697967,.int .i64 (.ofNat 2)]
def is8 : List Pa:=[.str 69 2658266801877189448521310105060134355639432875074567390526941840984601683185154693914014773976755152319692496826929840324955987235896663606764509258066723246426695796,.str 72 44598316320722812850762906576200936920171405736669058089177879112463380155982550050021742064084890371878513332470359362225649113299132791802702651676296070141760826087909487,.int .i64 (.ofNat 2)]
def is9 : List Pa:=[.str 44 1654218338686383221971334268327763883745845742212975584777185020631898722299162046299932009880543294466159,.str 43 6461790385493684460934095205413149541996078038395888725978303954869313678322190541559313576066448173167,.int .i64 (.ofNat 3)]
def is10 : List Pa:=[.str 78 12553318481019461157582491461534839134470162108853762742246322883451137106638454771713068279675368235655118542076127643121298056446953797778944585004125194171458320096685138173809387595108,.str 73 11426917333798864324647011946903435826442300360097308282241853394224131830032669279725147969740174414828042873036947140066924569800634189588884396643218487583627879527984736367,.int .i64 (.ofNat 2)]
def isL : List (List Pa):=[is0,is1,is2,is3,is4,is5,is6,is7,is8,is9,is10]
end Go.Ev.W24

/- EVALUATOR: calls with known data as arguments, reached through slices and pointers. -/
namespace Go.Ev
open Go.RowKit
variable {P : Program}
inductive Lt where
 | int (k : IntKind) (n : Int)
 | str (l n : Nat)
 | bool (b : Bool)
 | nils
 | nilp
 | any
def Lt.v : Lt→V
 | .int k n=>.int k n
 | .str l n=>.str l n
 | .bool b=>.bool b
 | .nils=>.nils
 | .nilp=>.nilp
 | .any=>.und
noncomputable def Lt.mk (a : Lt) (v : V) (y n : Res) : Res:=
 Lt.rec (motive:=fun _=>Res) (fun k z=>intk v fun k' z'=>ifk (Nat.beq (kno k') (kno k)) (ifk (ieq z' z) y n) n) (fun a b=>strk v fun a' b'=>ifk (Nat.beq a' a) (ifk (Nat.beq b' b) y n) n)
  (fun b=>boolk v fun b'=>ifk b' (ifk b y n) (ifk b n y)) (slk v (fun _ _ _ _ _=>n) y n) (pnk v fun b=>ifk b y n) y a
inductive Dt where
 | lit (a : Lt)
 | nil
 | cons (a b : Dt)
 | agg (n : Nat) (d : Dt)
 | sl (g n l : Nat) (c : Option Nat) (s : Nat) (d : Dt)
 | ptr (g n : Nat) (d : Dt)
structure Lies (w : World) (c z S m : Nat) (ys : List Value) : Prop where
 at_ : ∃ cs el fz,w.heap[c]? = some (.cells cs el fz)∧cs.size = S∧∀ i y,ys[i]? = some y→cs[z + i]? = some y∧y.oneCell' = true
 len : ys.length = m
 pos : 0 < m
def Dt.rep (w : World) : Dt→List Value→Prop
 | .lit a,xs=>∃ x,xs = [x]∧∀ ρ,VR ρ a.v x
 | .nil,xs=>xs = []
 | .cons a b,xs=>∃ p q,xs = p ++ q∧a.rep w p∧b.rep w q
 | .agg n d,xs=>∃ cs,xs = [.agg cs]∧d.rep w cs.toList∧(∀ x ∈ cs.toList,x.oneCell' = true)∧cs.toList.length = n
 | .sl g n l c s d,xs=>∃ b z S cap ys,xs = [.slice (some ⟨b,z,none⟩) l cap]∧(∀ m,c = some m→cap = m)∧(c = none→z + cap * s = S)∧l ≤ cap∧Lies w b z S (n * g) ys∧d.rep w ys
 | .ptr g n d,xs=>∃ b z S ys,xs = [.pointer (some ⟨b,z,none⟩)]∧Lies w b z S (n * g) ys∧d.rep w ys
noncomputable def Dt.layk (d : Dt) : Heap→(List V→Heap→Res)→Res:=
 Dt.rec (motive:=fun _=>Heap→(List V→Heap→Res)→Res) (fun a h k=>k [a.v] h) (fun h k=>k [] h)
  (fun _ _ ia ib h k=>ia h fun l h=>ib h fun m h=>k (l ++ m) h) (fun n _ ih h k=>ih h fun l h=>k [.agg n l] h)
  (fun g n l c s _ ih h k=>ih h fun cells h=>chopk g n 0 cells .e fun t=>h.newk (.arr g n t true) fun b h=>k [.slice b 0 l c s] h)
  (fun g n _ ih h k=>ih h fun cells h=>chopk g n 0 cells .e fun t=>h.newk (.arr g n t true) fun b h=>k [.ptr b 0] h) d
theorem VRs.len {ρ : Rho} : ∀ {l : List V} {xs : List Value},VRs ρ l xs→l.length = xs.length
 | [],_,h=>by cases h; rfl
 | _ :: _,_,h=>by cases h with | cons h1 h2=>simp [VRs.len h2]
theorem VRs.app {ρ : Rho} : ∀ {l m : List V} {xs ys : List Value},VRs ρ l xs→VRs ρ m ys→VRs ρ (l ++ m) (xs ++ ys)
 | [],_,_,_,h,h'=>by cases h; exact h'
 | _ :: _,_,_,_,h,h'=>by cases h with | cons h1 h2=>exact .cons h1 (VRs.app h2 h')
theorem VRs.at_ {ρ : Rho} : ∀ {l : List V} {xs : List Value},VRs ρ l xs→∀ (i : Nat) v,l[i]? = some v→∃ x,xs[i]? = some x∧VR ρ v x
 | [],_,_,i,v,h=>by simp at h
 | _ :: _,_,h,0,v,h'=>by cases h with | cons h1 h2=>simp at h'; subst h'; exact ⟨_,by simp,h1⟩
 | _ :: _,_,h,i + 1,v,h'=>by cases h with | cons h1 h2=>simpa using VRs.at_ h2 i v (by simpa using h')
theorem RH.view {ρ : Rho} {h : Heap} {w : World} (r : RH P ρ h w) (nw : ∀ c,¬ Wr ρ h c) {g n : Nat} (hg : 0 < g) {cells : List V} {t : T} (hl : cells.length = n * g)
 (ht : ∀ j,t.get j = if 0 ≤ j∧j < 0 + n then some ((cells.drop ((j - 0) * g)).take g) else T.e.get j) {c z S : Nat} {ys : List Value} (L : Lies w c z S (n * g) ys) (v : VRs ρ cells ys) :
 ρ.le (ρ.put h.nx (c,z,S))∧RH P (ρ.put h.nx (c,z,S)) (h.new (.arr g n t true) h.nx.nxt) w∧∀ c',¬ Wr (ρ.put h.nx (c,z,S)) (h.new (.arr g n t true) h.nx.nxt) c':=by
 have hv:=h.nx.nxt_val
 have hf:=r.fresh h.nx (Nat.le_refl _)
 have hle:=Rho.le_put (ρ:=ρ) hf.1 (c,z,S)
 have get_nx : (h.new (.arr g n t true) h.nx.nxt).t.get h.nx = .arr g n t true:=by simp only [Heap.new]; rw [HT.get_set]
 have get_old : ∀ b,b ≠ h.nx→(h.new (.arr g n t true) h.nx.nxt).t.get b = h.t.get b:=fun b hb=>by simp only [Heap.new]; rw [HT.get_set_ne _ hb]
 obtain ⟨cs,el,fz,h1,h2,h3⟩:=L.at_
 have hnw : ∀ c',¬ Wr (ρ.put h.nx (c,z,S)) (h.new (.arr g n t true) h.nx.nxt) c':=by
  rintro c' ⟨b,z',S',hb,hwr⟩
  by_cases e : b = h.nx
  · subst e; rw [get_nx] at hwr; cases hwr
  · rw [Rho.put_ne e] at hb; rw [get_old b e] at hwr; exact nw c' ⟨b,z',S',hb,hwr⟩
 refine ⟨hle,⟨?_,?_,?_,?_,?_,?_⟩,hnw⟩
 · intro b c' z' S' hb
   by_cases e : b = h.nx
   · subst e; rw [Rho.put_same] at hb; cases hb; exact (Array.getElem?_eq_some_iff.1 h1).1
   · rw [Rho.put_ne e] at hb; exact r.lt _ _ _ _ hb
 · intro b hb
   have hb' : h.nx.nxt.val ≤ b.val:=hb
   have e : b ≠ h.nx:=by rintro rfl; omega
   rw [Rho.put_ne e,get_old b e]
   exact r.fresh b (by omega)
 · intro b b' c' z1 S1 z2 S2 hw _ hb _
   exact absurd ⟨b,z1,S1,hb,hw⟩ (hnw c')
 · intro b c' z' S' g' n' t' ro' hb hx
   by_cases e : b = h.nx
   · subst e
     rw [get_nx] at hx; cases hx
     rw [Rho.put_same] at hb; cases hb
     have hlen:=v.len
     refine ⟨cs,hg,⟨el,fz,h1,fun h=>by cases h⟩,h2,?_,fun j ch hj=>?_⟩
     · have hp:=L.pos
       have : (n * g - 1) < ys.length:=by rw [L.len]; omega
       obtain ⟨h4,_⟩:=h3 (n * g - 1) ys[n * g - 1] (by simp [this])
       have:=(Array.getElem?_eq_some_iff.1 h4).1
       omega
     · rw [ht] at hj
       split at hj
       · rename_i hjn
         cases hj
         have hj' : j < n:=by omega
         have hm : (j + 1) * g ≤ n * g:=Nat.mul_le_mul_right g hj'
         rw [Nat.succ_mul] at hm
         refine ⟨hj',by simp only [Nat.sub_zero,List.length_take,List.length_drop]; omega,fun i u hi=>?_⟩
         rw [List.getElem?_take] at hi
         split at hi
         · rw [List.getElem?_drop] at hi
           obtain ⟨x,h5,h6⟩:=v.at_ _ _ hi
           obtain ⟨h7,h8⟩:=h3 _ _ h5
           refine ⟨x,?_,h6.mono hle,h8⟩
           rw [← h7]; congr 1; simp only [Nat.sub_zero]; omega
         · cases hi
       · simp [T.get] at hj
   · rw [Rho.put_ne e] at hb
     rw [get_old b e] at hx
     obtain ⟨cs',ha⟩:=r.arr _ _ _ _ _ _ _ _ hb hx
     exact ⟨cs',ha.mono hle rfl⟩
 · intro b c' z' S' x hb hx
   by_cases e : b = h.nx
   · subst e; rw [get_nx] at hx; cases hx
   · rw [Rho.put_ne e] at hb
     rw [get_old b e] at hx
     obtain ⟨o,h4,h5,h6⟩:=r.ob _ _ _ _ _ hb hx
     exact ⟨o,h4,h5.mono hle,h6⟩
 · intro p c' z' S' m s q l hb hx
   by_cases e : p = h.nx
   · subst e; rw [get_nx] at hx; cases hx
   · rw [Rho.put_ne e] at hb
     rw [get_old p e] at hx
     exact (r.itr _ _ _ _ _ _ _ _ hb hx).mono hle
theorem Lt.mk_ok {a : Lt} {v : V} {y n r : Res} (h : a.mk v y n = r) (hr : r ≠ .fail) {ρ : Rho} {x : Value} (hx : VR ρ v x) : ((∀ ρ,VR ρ a.v x)∧y = r) ∨ n = r:=by
 cases a with
 | int k z=>
   obtain ⟨k',z',rfl,h1⟩:=intk_ok (show intk v _ = r from h) hr
   rcases ifk_ne h1 with ⟨ha,h1a⟩ | ⟨_,h1a⟩
   · rcases ifk_ne h1a with ⟨hb,h1b⟩ | ⟨_,h1b⟩
     · obtain rfl:=kno_inj ha
       rw [ieq_eq] at hb
       obtain rfl : z' = z:=by simpa using hb
       cases hx
       exact .inl ⟨fun _=>.int _ _,h1b⟩
     · exact .inr h1b
   · exact .inr h1a
 | str a b=>
   obtain ⟨a',b',rfl,h1⟩:=strk_ok (show strk v _ = r from h) hr
   rcases ifk_ne h1 with ⟨ha,h1a⟩ | ⟨_,h1a⟩
   · rcases ifk_ne h1a with ⟨hb,h1b⟩ | ⟨_,h1b⟩
     · obtain rfl:=Nat.eq_of_beq_eq_true ha
       obtain rfl:=Nat.eq_of_beq_eq_true hb
       cases hx with | str h2 h3=>exact .inl ⟨fun _=>.str h2 h3,h1b⟩
     · exact .inr h1b
   · exact .inr h1a
 | bool b=>
   obtain ⟨b',rfl,h1⟩:=boolk_ok (show boolk v _ = r from h) hr
   cases hx
   cases b <;> cases b'
   · exact .inl ⟨fun _=>.bool _,h1⟩
   · exact .inr h1
   · exact .inr h1
   · exact .inl ⟨fun _=>.bool _,h1⟩
 | nils=>
   rcases slk_ok (show slk v _ _ _ = r from h) hr with ⟨_,_,_,_,_,rfl,h1⟩ | ⟨rfl,h1⟩ | ⟨rfl,h1⟩
   · exact .inr h1
   · cases hx; exact .inl ⟨fun _=>.nils,h1⟩
   · exact .inr h1
 | nilp=>
   rcases pnk_ok (show pnk v _ = r from h) hr hx with ⟨rfl,h1⟩ | ⟨_,rfl,h1⟩
   · exact .inl ⟨fun _=>.nilp,h1⟩
   · exact .inr h1
 | any=>exact .inl ⟨fun _=>.und _,h⟩
theorem lies_of {ρ : Rho} {cs : Array Value} : ∀ {l : List V} {z : Nat},(∀ i v,l[i]? = some v→∃ x,cs[z + i]? = some x∧VR ρ v x∧x.oneCell' = true) →
 ∃ ys : List Value,VRs ρ l ys∧ys.length = l.length∧∀ i y,ys[i]? = some y→cs[z + i]? = some y∧y.oneCell' = true
 | [],_,_=>⟨[],.nil,rfl,by simp⟩
 | v :: l,z,h=>by
   obtain ⟨x,h1,h2,h3⟩:=h 0 v (by simp)
   obtain ⟨ys,h4,h5,h6⟩:=lies_of (l:=l) (z:=z + 1) (fun i v hi=>by
    obtain ⟨x,g1,g2⟩:=h (i + 1) v (by simpa using hi)
    exact ⟨x,by rw [← g1]; congr 1; omega,g2⟩)
   refine ⟨x :: ys,.cons h2 h4,by simp [h5],fun i y hi=>?_⟩
   cases i with
   | zero=>simp at hi; subst hi; exact ⟨h1,h3⟩
   | succ i=>
     obtain ⟨g1,g2⟩:=h6 i y (by simpa using hi)
     exact ⟨by rw [← g1]; congr 1; omega,g2⟩
end Go.Ev

/- EVALUATOR: a closed run, cut at a call: arguments and results are known data; the call changes nothing that was there. -/
namespace Go.Ev
open Go.RowKit
variable {P : Program}
def Dt.repF (w : World) (N : Nat) : Dt→List Value→Prop
 | .lit a,xs=>∃ x,xs = [x]∧∀ ρ,VR ρ a.v x
 | .nil,xs=>xs = []
 | .cons a b,xs=>∃ p q,xs = p ++ q∧a.repF w N p∧b.repF w N q
 | .agg n d,xs=>∃ cs,xs = [.agg cs]∧d.repF w N cs.toList∧(∀ x ∈ cs.toList,x.oneCell' = true)∧cs.toList.length = n
 | .sl g n l c s d,xs=>∃ b z S cap ys,N ≤ b∧xs = [.slice (some ⟨b,z,none⟩) l cap]∧(∀ m,c = some m→cap = m)∧(c = none→z + cap * s = S)∧l ≤ cap∧Lies w b z S (n * g) ys∧d.repF w N ys
 | .ptr g n d,xs=>∃ b z S ys,N ≤ b∧xs = [.pointer (some ⟨b,z,none⟩)]∧Lies w b z S (n * g) ys∧d.repF w N ys
noncomputable def Dt.mtf (d : Dt) : List V→Heap→(List V→Res)→Res:=
 Dt.rec (motive:=fun _=>List V→Heap→(List V→Res)→Res) (fun a l _ k=>unc l fun u l=>a.mk u (k l) .fail) (fun l _ k=>k l)
  (fun _ _ ia ib l h k=>ia l h fun l=>ib l h k)
  (fun m _ ih l h k=>unc l fun u l=>aggk u fun m' us=>ifk (Nat.beq m' m) (ih us h fun r=>nilk' r (k l)) .fail)
  (fun g m len c s _ ih l h k=>unc l fun u l=>slk u (fun b o len' c' s'=>h.getk b fun x=>ifk x.wr (ifk (Nat.beq len' len) (ifk (oeq c' c) (ifk (Nat.beq s' s) (ifk (Nat.blt 0 (Nat.mul m g)) (loadk h b o (Nat.mul m g) fun cells=>ih cells h fun r=>nilk' r (k l)) .fail) .fail) .fail) .fail) .fail) .fail .fail)
  (fun g m _ ih l h k=>unc l fun u l=>ptrk u fun b o=>h.getk b fun x=>ifk x.wr (ifk (Nat.blt 0 (Nat.mul m g)) (loadk h b o (Nat.mul m g) fun cells=>ih cells h fun r=>nilk' r (k l)) .fail) .fail) d
theorem Dt.mtf_ok {h : Heap} {ρ : Rho} {w : World} {N : Nat} (rh : RH P ρ h w) (hN : ∀ c,Wr ρ h c→N ≤ c) (d : Dt) : ∀ {l : List V} {xs : List Value} {k : List V→Res} {r : Res},d.mtf l h k = r→r ≠ .fail→VRs ρ l xs →
 ∃ l' p q,xs = p ++ q∧d.repF w N p∧k l' = r∧VRs ρ l' q:=by
 induction d with
 | lit a=>
   intro l xs k r hh hr hv
   obtain ⟨u,l',rfl,h1⟩:=unc_ok (show unc l _ = r from hh) hr
   cases hv with | cons hx hv=>
   rcases Lt.mk_ok h1 hr hx with ⟨h2,h3⟩ | h2
   · exact ⟨l',[_],_,rfl,⟨_,rfl,h2⟩,h3,hv⟩
   · exact absurd h2.symm hr
 | nil=>
   intro l xs k r hh hr hv
   exact ⟨l,[],xs,rfl,rfl,hh,hv⟩
 | cons a b ia ib=>
   intro l xs k r hh hr hv
   obtain ⟨l',p,q,rfl,h1,h2,h3⟩:=ia (show a.mtf l h _ = r from hh) hr hv
   obtain ⟨l'',p',q',rfl,h4,h5,h6⟩:=ib h2 hr h3
   exact ⟨l'',p ++ p',q',by simp,⟨p,p',rfl,h1,h4⟩,h5,h6⟩
 | agg m d ih=>
   intro l xs k r hh hr hv
   obtain ⟨u,l',rfl,h1⟩:=unc_ok (show unc l _ = r from hh) hr
   obtain ⟨m',us,rfl,h2⟩:=aggk_ok h1 hr
   obtain ⟨hm,h3⟩:=ifk_fail h2 hr
   obtain rfl:=Nat.eq_of_beq_eq_true hm
   cases hv with | cons hx hv=>
   cases hx with | agg hc ho hn=>
   obtain ⟨l'',p,q,h4,h5,h6,h7⟩:=ih h3 hr hc
   obtain ⟨rfl,h8⟩:=nilk'_ok h6 hr
   cases h7
   rw [List.append_nil] at h4
   exact ⟨l',[_],_,rfl,⟨_,rfl,h4 ▸ h5,ho,by rw [← hc.len]; exact hn⟩,h8,hv⟩
 | sl g m len c s d ih=>
   intro l xs k r hh hr hv
   obtain ⟨u,l',rfl,h1⟩:=unc_ok (show unc l _ = r from hh) hr
   rcases slk_ok h1 hr with ⟨b,o,len',c',s',rfl,h2⟩ | ⟨_,h2⟩ | ⟨_,h2⟩
   · rw [Heap.getk_eq] at h2
     obtain ⟨e0,h2⟩:=ifk_fail h2 hr
     obtain ⟨e1,h2a⟩:=ifk_fail h2 hr
     obtain ⟨e2,h2b⟩:=ifk_fail h2a hr
     obtain ⟨e3,h2c⟩:=ifk_fail h2b hr
     obtain ⟨e4,h2d⟩:=ifk_fail h2c hr
     obtain rfl:=Nat.eq_of_beq_eq_true e1
     obtain rfl:=oeq_eq e2
     obtain rfl:=Nat.eq_of_beq_eq_true e3
     have e4 : 0 < m * g:=by simpa [Nat.blt_eq] using e4
     cases hv with | cons hx hv=>
     cases hx with | slice hb hc ht hl=>
     obtain ⟨_,cells,cs,el,fz,h5,h6,h7,h8,h9⟩:=loadk_cells h2d hr rh hb
     obtain ⟨ys,g1,g2,g3⟩:=lies_of h9
     obtain ⟨l'',p,q,h10,h11,h12,h13⟩:=ih h5 hr g1
     obtain ⟨rfl,h14⟩:=nilk'_ok h12 hr
     cases h13
     rw [List.append_nil] at h10
     exact ⟨l',[_],_,rfl,⟨_,_,_,_,ys,hN _ ⟨b,_,_,hb,e0⟩,rfl,hc,ht,hl,⟨⟨cs,el,fz,h7,h8,g3⟩,by rw [g2]; exact h6,e4⟩,h10 ▸ h11⟩,h14,hv⟩
   · exact absurd h2.symm hr
   · exact absurd h2.symm hr
 | ptr g m d ih=>
   intro l xs k r hh hr hv
   obtain ⟨u,l',rfl,h1⟩:=unc_ok (show unc l _ = r from hh) hr
   obtain ⟨b,o,rfl,h2⟩:=ptrk_ok h1 hr
   rw [Heap.getk_eq] at h2
   obtain ⟨e0,h2⟩:=ifk_fail h2 hr
   obtain ⟨e4,h2d⟩:=ifk_fail h2 hr
   have e4 : 0 < m * g:=by simpa [Nat.blt_eq] using e4
   cases hv with | cons hx hv=>
   cases hx with | ptr hb=>
   obtain ⟨_,cells,cs,el,fz,h5,h6,h7,h8,h9⟩:=loadk_cells h2d hr rh hb
   obtain ⟨ys,g1,g2,g3⟩:=lies_of h9
   obtain ⟨l'',p,q,h10,h11,h12,h13⟩:=ih h5 hr g1
   obtain ⟨rfl,h14⟩:=nilk'_ok h12 hr
   cases h13
   rw [List.append_nil] at h10
   exact ⟨l',[_],_,rfl,⟨_,_,_,ys,hN _ ⟨b,_,_,hb,e0⟩,rfl,⟨⟨cs,el,fz,h7,h8,g3⟩,by rw [g2]; exact h6,e4⟩,h10 ▸ h11⟩,h14,hv⟩
structure Laid (P : Program) (w : World) (N : Nat) (ρ : Rho) (h : Heap) (ρ' : Rho) (h' : Heap) : Prop where
 le : ρ.le ρ'
 rh : RH P ρ' h' w
 nx : h.nx.val ≤ h'.nx.val
 old : ∀ b : Bid,b.val < h.nx.val→ρ' b = ρ b∧h'.t.get b = h.t.get b
 wr : ∀ c,Wr ρ' h' c→Wr ρ h c
theorem Laid.trans {w : World} {N : Nat} {ρ ρ' ρ'' : Rho} {h h' h'' : Heap} (a : Laid P w N ρ h ρ' h') (b : Laid P w N ρ' h' ρ'' h'') : Laid P w N ρ h ρ'' h'':=
 ⟨a.le.trans b.le,b.rh,Nat.le_trans a.nx b.nx,fun x hx=>⟨(b.old x (Nat.lt_of_lt_of_le hx a.nx)).1.trans (a.old x hx).1,(b.old x (Nat.lt_of_lt_of_le hx a.nx)).2.trans (a.old x hx).2⟩,fun c hc=>a.wr c (b.wr c hc)⟩
theorem RH.viewN {ρ : Rho} {h : Heap} {w : World} {N : Nat} (r : RH P ρ h w) (nw : ∀ c,N ≤ c→¬ Wr ρ h c) {g n : Nat} (hg : 0 < g) {cells : List V} {t : T} (hl : cells.length = n * g)
 (ht : ∀ j,t.get j = if 0 ≤ j∧j < 0 + n then some ((cells.drop ((j - 0) * g)).take g) else T.e.get j) {c z S : Nat} {ys : List Value} (hc : N ≤ c) (L : Lies w c z S (n * g) ys) (v : VRs ρ cells ys) :
 Laid P w N ρ h (ρ.put h.nx (c,z,S)) (h.new (.arr g n t true) h.nx.nxt):=by
 have hv:=h.nx.nxt_val
 have hf:=r.fresh h.nx (Nat.le_refl _)
 have hle:=Rho.le_put (ρ:=ρ) hf.1 (c,z,S)
 have get_nx : (h.new (.arr g n t true) h.nx.nxt).t.get h.nx = .arr g n t true:=by simp only [Heap.new]; rw [HT.get_set]
 have get_old : ∀ b,b ≠ h.nx→(h.new (.arr g n t true) h.nx.nxt).t.get b = h.t.get b:=fun b hb=>by simp only [Heap.new]; rw [HT.get_set_ne _ hb]
 obtain ⟨cs,el,fz,h1,h2,h3⟩:=L.at_
 have hwr : ∀ c',Wr (ρ.put h.nx (c,z,S)) (h.new (.arr g n t true) h.nx.nxt) c'→Wr ρ h c':=by
  rintro c' ⟨b,z',S',hb,hwr⟩
  by_cases e : b = h.nx
  · subst e; rw [get_nx] at hwr; cases hwr
  · rw [Rho.put_ne e] at hb; rw [get_old b e] at hwr; exact ⟨b,z',S',hb,hwr⟩
 refine ⟨hle,⟨?_,?_,?_,?_,?_,?_⟩,by show h.nx.val ≤ h.nx.nxt.val; omega,fun b hb=>?_,hwr⟩
 · intro b c' z' S' hb
   by_cases e : b = h.nx
   · subst e; rw [Rho.put_same] at hb; cases hb; exact (Array.getElem?_eq_some_iff.1 h1).1
   · rw [Rho.put_ne e] at hb; exact r.lt _ _ _ _ hb
 · intro b hb
   have hb' : h.nx.nxt.val ≤ b.val:=hb
   have e : b ≠ h.nx:=by rintro rfl; omega
   rw [Rho.put_ne e,get_old b e]
   exact r.fresh b (by omega)
 · intro b b' c' z1 S1 z2 S2 hw hn hb hb'
   by_cases e : b = h.nx
   · subst e; rw [get_nx] at hw; cases hw
   · rw [Rho.put_ne e] at hb
     rw [get_old b e] at hw
     by_cases e' : b' = h.nx
     · subst e'
       rw [Rho.put_same] at hb'
       cases hb'
       exact absurd ⟨b,z1,S1,hb,hw⟩ (nw _ hc)
     · rw [Rho.put_ne e'] at hb'
       rw [get_old b' e'] at hn
       exact r.inj b b' c' z1 S1 z2 S2 hw hn hb hb'
 · intro b c' z' S' g' n' t' ro' hb hx
   by_cases e : b = h.nx
   · subst e
     rw [get_nx] at hx; cases hx
     rw [Rho.put_same] at hb; cases hb
     have hlen:=v.len
     refine ⟨cs,hg,⟨el,fz,h1,fun h=>by cases h⟩,h2,?_,fun j ch hj=>?_⟩
     · have hp:=L.pos
       have : (n * g - 1) < ys.length:=by rw [L.len]; omega
       obtain ⟨h4,_⟩:=h3 (n * g - 1) ys[n * g - 1] (by simp [this])
       have:=(Array.getElem?_eq_some_iff.1 h4).1
       omega
     · rw [ht] at hj
       split at hj
       · rename_i hjn
         cases hj
         have hj' : j < n:=by omega
         have hm : (j + 1) * g ≤ n * g:=Nat.mul_le_mul_right g hj'
         rw [Nat.succ_mul] at hm
         refine ⟨hj',by simp only [Nat.sub_zero,List.length_take,List.length_drop]; omega,fun i u hi=>?_⟩
         rw [List.getElem?_take] at hi
         split at hi
         · rw [List.getElem?_drop] at hi
           obtain ⟨x,h5,h6⟩:=v.at_ _ _ hi
           obtain ⟨h7,h8⟩:=h3 _ _ h5
           refine ⟨x,?_,h6.mono hle,h8⟩
           rw [← h7]; congr 1; simp only [Nat.sub_zero]; omega
         · cases hi
       · simp [T.get] at hj
   · rw [Rho.put_ne e] at hb
     rw [get_old b e] at hx
     obtain ⟨cs',ha⟩:=r.arr _ _ _ _ _ _ _ _ hb hx
     exact ⟨cs',ha.mono hle rfl⟩
 · intro b c' z' S' x hb hx
   by_cases e : b = h.nx
   · subst e; rw [get_nx] at hx; cases hx
   · rw [Rho.put_ne e] at hb
     rw [get_old b e] at hx
     obtain ⟨o,q1,q2,q3⟩:=r.ob _ _ _ _ _ hb hx
     exact ⟨o,q1,q2.mono hle,q3⟩
 · intro p c' z' S' m s q l hb hx
   by_cases e : p = h.nx
   · subst e; rw [get_nx] at hx; cases hx
   · rw [Rho.put_ne e] at hb
     rw [get_old p e] at hx
     exact (r.itr _ _ _ _ _ _ _ _ hb hx).mono hle
 · have e : b ≠ h.nx:=by rintro rfl; omega
   exact ⟨Rho.put_ne e _,get_old b e⟩
theorem Dt.layF_ok {w : World} {N : Nat} (d : Dt) : ∀ {xs : List Value} {h : Heap} {k : List V→Heap→Res} {r : Res} {ρ : Rho},d.layk h k = r→r ≠ .fail→d.repF w N xs→RH P ρ h w→(∀ c,N ≤ c→¬ Wr ρ h c) →
 ∃ ρ' l h',k l h' = r∧Laid P w N ρ h ρ' h'∧VRs ρ' l xs:=by
 induction d with
 | lit a=>
   intro xs h k r ρ hh hr rp rh nw
   obtain ⟨x,rfl,hx⟩:=rp
   exact ⟨ρ,_,_,hh,⟨.refl _,rh,Nat.le_refl _,fun _ _=>⟨rfl,rfl⟩,fun _ h=>h⟩,.cons (hx _) .nil⟩
 | nil=>
   intro xs h k r ρ hh hr rp rh nw
   obtain rfl : xs = []:=rp
   exact ⟨ρ,_,_,hh,⟨.refl _,rh,Nat.le_refl _,fun _ _=>⟨rfl,rfl⟩,fun _ h=>h⟩,.nil⟩
 | cons a b ia ib=>
   intro xs h k r ρ hh hr rp rh nw
   obtain ⟨p,q,rfl,hp,hq⟩:=rp
   obtain ⟨ρ1,l1,h1,e1,L1,v1⟩:=ia (show a.layk h _ = r from hh) hr hp rh nw
   obtain ⟨ρ2,l2,h2,e2,L2,v2⟩:=ib e1 hr hq L1.rh fun c hc hw=>nw c hc (L1.wr c hw)
   exact ⟨ρ2,_,_,e2,L1.trans L2,(v1.mono L2.le).app v2⟩
 | agg n d ih=>
   intro xs h k r ρ hh hr rp rh nw
   obtain ⟨cs,rfl,hp,hc,hn⟩:=rp
   obtain ⟨ρ1,l1,h1,e1,L1,v1⟩:=ih (show d.layk h _ = r from hh) hr hp rh nw
   exact ⟨ρ1,_,_,e1,L1,.cons (.agg v1 hc (v1.len.trans hn)) .nil⟩
 | sl g n l c s d ih=>
   intro xs h k r ρ hh hr rp rh nw
   obtain ⟨b,z,S,cap,ys,hb,rfl,hc,hs,hlc,L,hp⟩:=rp
   obtain ⟨ρ1,l1,h1,e1,L1,v1⟩:=ih (show d.layk h _ = r from hh) hr hp rh nw
   obtain ⟨t,e2,hl,ht⟩:=chopk_ok e1 hr
   rw [Heap.newk_eq] at e2
   have hg : 0 < g:=by have:=L.pos; exact Nat.pos_of_mul_pos_left this
   have L2:=L1.rh.viewN (fun c hc hw=>nw c hc (L1.wr c hw)) hg hl ht hb L v1
   refine ⟨_,_,_,e2,L1.trans L2,.cons ?_ .nil⟩
   have:=VR.slice (ρ:=ρ1.put h1.nx (b,z,S)) (o:=0) (cp:=c) (s:=s) (cap:=cap) (l:=l) (Rho.put_same _ _ _) hc (by simpa using hs) hlc
   simpa using this
 | ptr g n d ih=>
   intro xs h k r ρ hh hr rp rh nw
   obtain ⟨b,z,S,ys,hb,rfl,L,hp⟩:=rp
   obtain ⟨ρ1,l1,h1,e1,L1,v1⟩:=ih (show d.layk h _ = r from hh) hr hp rh nw
   obtain ⟨t,e2,hl,ht⟩:=chopk_ok e1 hr
   rw [Heap.newk_eq] at e2
   have hg : 0 < g:=by have:=L.pos; exact Nat.pos_of_mul_pos_left this
   have L2:=L1.rh.viewN (fun c hc hw=>nw c hc (L1.wr c hw)) hg hl ht hb L v1
   refine ⟨_,_,_,e2,L1.trans L2,.cons ?_ .nil⟩
   have:=VR.ptr (ρ:=ρ1.put h1.nx (b,z,S)) (o:=0) (Rho.put_same _ _ _)
   simpa using this
def Outs (tp : Bool) (y : Value) (xs : List Value) : Prop:=if tp = true then ∃ cs,y = .tuple cs∧cs.toList = xs else xs = [y]
noncomputable def outk (tp : Bool) (v : V) (k : List V→Res) : Res:=Bool.rec (motive:=fun _=>Res) (k [v]) (tupk v k) tp
noncomputable def finK (tp : Bool) (l : List V) (h : Heap) : Res:=Bool.rec (motive:=fun _=>Res) (unc l fun v m=>nilk' m (.ret v h)) (.ret (.tup l) h) tp
end Go.Ev

/- EVALUATOR: as EvCut, over a ground of known tables. -/
namespace Go.Ev
open Go.RowKit
variable {P : Program}
end Go.Ev

/- EVALUATOR: as EvCutG; what is answered may hold slices of the arguments. -/
namespace Go.Ev
open Go.RowKit
variable {P : Program}
def Dt.repE (w : World) : Dt→List Value→List Value→Prop
 | .lit a,xs,es=>(∃ x,xs = [x]∧∀ ρ,VR ρ a.v x)∧es = []
 | .nil,xs,es=>xs = []∧es = []
 | .cons a b,xs,es=>∃ p q e f,xs = p ++ q∧es = e ++ f∧a.repE w p e∧b.repE w q f
 | .agg n d,xs,es=>∃ cs,xs = [.agg cs]∧d.repE w cs.toList es∧(∀ x ∈ cs.toList,x.oneCell' = true)∧cs.toList.length = n
 | .sl g n l c s d,xs,es=>∃ b z S cap ys e,xs = [.slice (some ⟨b,z,none⟩) l cap]∧es = .slice (some ⟨b,z,none⟩) l cap :: e∧(∀ m,c = some m→cap = m)∧(c = none→z + cap * s = S)∧l ≤ cap∧Lies w b z S (n * g) ys∧d.repE w ys e
 | .ptr g n d,xs,es=>∃ b z S ys,xs = [.pointer (some ⟨b,z,none⟩)]∧Lies w b z S (n * g) ys∧d.repE w ys es
noncomputable def Dt.layE (d : Dt) : Heap→(List V→List V→Heap→Res)→Res:=
 Dt.rec (motive:=fun _=>Heap→(List V→List V→Heap→Res)→Res) (fun a h k=>k [a.v] [] h) (fun h k=>k [] [] h)
  (fun _ _ ia ib h k=>ia h fun l e h=>ib h fun m f h=>k (l ++ m) (e ++ f) h) (fun n _ ih h k=>ih h fun l e h=>k [.agg n l] e h)
  (fun g n l c s _ ih h k=>ih h fun cells e h=>chopk g n 0 cells .e fun t=>h.newk (.arr g n t true) fun b h=>k [.slice b 0 l c s] (.slice b 0 l c s :: e) h)
  (fun g n _ ih h k=>ih h fun cells e h=>chopk g n 0 cells .e fun t=>h.newk (.arr g n t true) fun b h=>k [.ptr b 0] e h) d
theorem Dt.layE_ok (w : World) (d : Dt) : ∀ {xs es : List Value} {h : Heap} {k : List V→List V→Heap→Res} {r : Res} {ρ : Rho},d.layE h k = r→r ≠ .fail→d.repE w xs es→RH P ρ h w→(∀ c,¬ Wr ρ h c) →
 ∃ ρ' l e h',k l e h' = r∧ρ.le ρ'∧RH P ρ' h' w∧(∀ c,¬ Wr ρ' h' c)∧VRs ρ' l xs∧VRs ρ' e es:=by
 induction d with
 | lit a=>
   intro xs es h k r ρ hh hr rp rh nw
   obtain ⟨⟨x,rfl,hx⟩,rfl⟩:=rp
   exact ⟨ρ,_,_,_,hh,.refl _,rh,nw,.cons (hx _) .nil,.nil⟩
 | nil=>
   intro xs es h k r ρ hh hr rp rh nw
   obtain ⟨rfl,rfl⟩ : xs = []∧es = []:=rp
   exact ⟨ρ,_,_,_,hh,.refl _,rh,nw,.nil,.nil⟩
 | cons a b ia ib=>
   intro xs es h k r ρ hh hr rp rh nw
   obtain ⟨p,q,e,f,rfl,rfl,hp,hq⟩:=rp
   obtain ⟨ρ1,l1,f1,h1,e1,le1,rh1,nw1,v1,u1⟩:=ia (show a.layE h _ = r from hh) hr hp rh nw
   obtain ⟨ρ2,l2,f2,h2,e2,le2,rh2,nw2,v2,u2⟩:=ib e1 hr hq rh1 nw1
   exact ⟨ρ2,_,_,_,e2,le1.trans le2,rh2,nw2,(v1.mono le2).app v2,(u1.mono le2).app u2⟩
 | agg n d ih=>
   intro xs es h k r ρ hh hr rp rh nw
   obtain ⟨cs,rfl,hp,hc,hn⟩:=rp
   obtain ⟨ρ1,l1,f1,h1,e1,le1,rh1,nw1,v1,u1⟩:=ih (show d.layE h _ = r from hh) hr hp rh nw
   exact ⟨ρ1,_,_,_,e1,le1,rh1,nw1,.cons (.agg v1 hc (v1.len.trans hn)) .nil,u1⟩
 | sl g n l c s d ih=>
   intro xs es h k r ρ hh hr rp rh nw
   obtain ⟨b,z,S,cap,ys,e,rfl,rfl,hc,hs,hlc,L,hp⟩:=rp
   obtain ⟨ρ1,l1,f1,h1,e1,le1,rh1,nw1,v1,u1⟩:=ih (show d.layE h _ = r from hh) hr hp rh nw
   obtain ⟨t,e2,hl,ht⟩:=chopk_ok e1 hr
   rw [Heap.newk_eq] at e2
   have hg : 0 < g:=by have:=L.pos; exact Nat.pos_of_mul_pos_left this
   obtain ⟨le2,rh2,nw2⟩:=rh1.view nw1 hg hl ht L v1
   have:=VR.slice (ρ:=ρ1.put h1.nx (b,z,S)) (o:=0) (cp:=c) (s:=s) (cap:=cap) (l:=l) (Rho.put_same _ _ _) hc (by simpa using hs) hlc
   have this : VR (ρ1.put h1.nx (b,z,S)) (.slice h1.nx 0 l c s) (.slice (some ⟨b,z,none⟩) l cap):=by simpa using this
   exact ⟨_,_,_,_,e2,le1.trans le2,rh2,nw2,.cons this .nil,.cons this (u1.mono le2)⟩
 | ptr g n d ih=>
   intro xs es h k r ρ hh hr rp rh nw
   obtain ⟨b,z,S,ys,rfl,L,hp⟩:=rp
   obtain ⟨ρ1,l1,f1,h1,e1,le1,rh1,nw1,v1,u1⟩:=ih (show d.layE h _ = r from hh) hr hp rh nw
   obtain ⟨t,e2,hl,ht⟩:=chopk_ok e1 hr
   rw [Heap.newk_eq] at e2
   have hg : 0 < g:=by have:=L.pos; exact Nat.pos_of_mul_pos_left this
   obtain ⟨le2,rh2,nw2⟩:=rh1.view nw1 hg hl ht L v1
   refine ⟨_,_,_,_,e2,le1.trans le2,rh2,nw2,.cons ?_ .nil,u1.mono le2⟩
   have:=VR.ptr (ρ:=ρ1.put h1.nx (b,z,S)) (o:=0) (Rho.put_same _ _ _)
   simpa using this
noncomputable def Dt.mtE (d : Dt) : List V→Heap→(List V→List V→Res)→Res→Res:=
 Dt.rec (motive:=fun _=>List V→Heap→(List V→List V→Res)→Res→Res) (fun a l _ k n=>unc l fun u l=>a.mk u (k l []) n) (fun l _ k _=>k l [])
  (fun _ _ ia ib l h k n=>ia l h (fun l e=>ib l h (fun l f=>k l (e ++ f)) n) n)
  (fun m _ ih l h k n=>unc l fun u l=>aggk u fun m' us=>ifk (Nat.beq m' m) (ih us h (fun r e=>nilk' r (k l e)) n) .fail)
  (fun g m len c s _ ih l h k n=>unc l fun u l=>slk u (fun b o len' c' s'=>ifk (Nat.beq len' len) (ifk (oeq c' c) (ifk (Nat.beq s' s) (ifk (Nat.blt 0 (Nat.mul m g)) (loadk h b o (Nat.mul m g) fun cells=>ih cells h (fun r e=>nilk' r (k l (u :: e))) n) .fail) .fail) n) n) n n)
  (fun g m _ ih l h k n=>unc l fun u l=>ptrk u fun b o=>ifk (Nat.blt 0 (Nat.mul m g)) (loadk h b o (Nat.mul m g) fun cells=>ih cells h (fun r e=>nilk' r (k l e)) n) .fail) d
theorem Dt.mtE_ok {h : Heap} {ρ : Rho} {w : World} (rh : RH P ρ h w) (d : Dt) : ∀ {l : List V} {xs : List Value} {k : List V→List V→Res} {n r : Res},d.mtE l h k n = r→r ≠ .fail→VRs ρ l xs →
 n = r ∨ ∃ l' ev p q es,xs = p ++ q∧d.repE w p es∧k l' ev = r∧VRs ρ l' q∧VRs ρ ev es:=by
 induction d with
 | lit a=>
   intro l xs k n r hh hr hv
   obtain ⟨u,l',rfl,h1⟩:=unc_ok (show unc l _ = r from hh) hr
   cases hv with | cons hx hv=>
   rcases Lt.mk_ok h1 hr hx with ⟨h2,h3⟩ | h2
   · exact .inr ⟨l',[],[_],_,[],rfl,⟨⟨_,rfl,h2⟩,rfl⟩,h3,hv,.nil⟩
   · exact .inl h2
 | nil=>
   intro l xs k n r hh hr hv
   exact .inr ⟨l,[],[],xs,[],rfl,⟨rfl,rfl⟩,hh,hv,.nil⟩
 | cons a b ia ib=>
   intro l xs k n r hh hr hv
   rcases ia (show a.mtE l h _ n = r from hh) hr hv with h1 | ⟨l',ev,p,q,es,rfl,h1,h2,h3,h3e⟩
   · exact .inl h1
   · rcases ib h2 hr h3 with h4 | ⟨l'',ev',p',q',es',rfl,h4,h5,h6,h6e⟩
     · exact .inl h4
     · exact .inr ⟨l'',_,p ++ p',q',es ++ es',by simp,⟨p,p',es,es',rfl,rfl,h1,h4⟩,h5,h6,h3e.app h6e⟩
 | agg m d ih=>
   intro l xs k n r hh hr hv
   obtain ⟨u,l',rfl,h1⟩:=unc_ok (show unc l _ = r from hh) hr
   obtain ⟨m',us,rfl,h2⟩:=aggk_ok h1 hr
   obtain ⟨hm,h3⟩:=ifk_fail h2 hr
   obtain rfl:=Nat.eq_of_beq_eq_true hm
   cases hv with | cons hx hv=>
   cases hx with | agg hc ho hn=>
   rcases ih h3 hr hc with h4 | ⟨l'',ev,p,q,es,h4,h5,h6,h7,h7e⟩
   · exact .inl h4
   · obtain ⟨rfl,h8⟩:=nilk'_ok h6 hr
     cases h7
     rw [List.append_nil] at h4
     exact .inr ⟨l',ev,[_],_,es,rfl,⟨_,rfl,h4 ▸ h5,ho,by rw [← hc.len]; exact hn⟩,h8,hv,h7e⟩
 | sl g m len c s d ih=>
   intro l xs k n r hh hr hv
   obtain ⟨u,l',rfl,h1⟩:=unc_ok (show unc l _ = r from hh) hr
   rcases slk_ok h1 hr with ⟨b,o,len',c',s',rfl,h2⟩ | ⟨_,h2⟩ | ⟨_,h2⟩
   · rcases ifk_ne h2 with ⟨e1,h2a⟩ | ⟨_,h2a⟩
     · rcases ifk_ne h2a with ⟨e2,h2b⟩ | ⟨_,h2b⟩
       · obtain ⟨e3,h2c⟩:=ifk_fail h2b hr
         obtain ⟨e4,h2d⟩:=ifk_fail h2c hr
         obtain rfl:=Nat.eq_of_beq_eq_true e1
         obtain rfl:=oeq_eq e2
         obtain rfl:=Nat.eq_of_beq_eq_true e3
         have e4 : 0 < m * g:=by simpa [Nat.blt_eq] using e4
         cases hv with | cons hx hv=>
         have hx0:=hx
         cases hx with | slice hb hc ht hl=>
         obtain ⟨_,cells,cs,el,fz,h5,h6,h7,h8,h9⟩:=loadk_cells h2d hr rh hb
         obtain ⟨ys,g1,g2,g3⟩:=lies_of h9
         rcases ih h5 hr g1 with h10 | ⟨l'',ev,p,q,es,h10,h11,h12,h13,h13e⟩
         · exact .inl h10
         · obtain ⟨rfl,h14⟩:=nilk'_ok h12 hr
           cases h13
           rw [List.append_nil] at h10
           exact .inr ⟨l',_,[_],_,_,rfl,⟨_,_,_,_,ys,es,rfl,rfl,hc,ht,hl,⟨⟨cs,el,fz,h7,h8,g3⟩,by rw [g2]; exact h6,e4⟩,h10 ▸ h11⟩,h14,hv,.cons hx0 h13e⟩
       · exact .inl h2b
     · exact .inl h2a
   · exact .inl h2
   · exact .inl h2
 | ptr g m d ih=>
   intro l xs k n r hh hr hv
   obtain ⟨u,l',rfl,h1⟩:=unc_ok (show unc l _ = r from hh) hr
   obtain ⟨b,o,rfl,h2⟩:=ptrk_ok h1 hr
   obtain ⟨e4,h2d⟩:=ifk_fail h2 hr
   have e4 : 0 < m * g:=by simpa [Nat.blt_eq] using e4
   cases hv with | cons hx hv=>
   cases hx with | ptr hb=>
   obtain ⟨_,cells,cs,el,fz,h5,h6,h7,h8,h9⟩:=loadk_cells h2d hr rh hb
   obtain ⟨ys,g1,g2,g3⟩:=lies_of h9
   rcases ih h5 hr g1 with h10 | ⟨l'',ev,p,q,es,h10,h11,h12,h13,h13e⟩
   · exact .inl h10
   · obtain ⟨rfl,h14⟩:=nilk'_ok h12 hr
     cases h13
     rw [List.append_nil] at h10
     exact .inr ⟨l',ev,[_],_,es,rfl,⟨_,_,_,ys,rfl,⟨⟨cs,el,fz,h7,h8,g3⟩,by rw [g2]; exact h6,e4⟩,h10 ▸ h11⟩,h14,hv,h13e⟩
end Go.Ev
