/- IbD: texts joined. -/
import Derived.Test.YtcglhljoepefaaaEvRules
/- EVALUATOR: slice expressions, copying, strings of bytes on a memory that is known. -/
namespace Go.Ev
theorem take_drop_length {l : List V} {i j : Nat} (hi : i ≤ j) (hj : j ≤ l.length) : ((l.take j).drop i).length = j - i:=by simp; omega
theorem slice_law {h : Heap} {v : V} {l : List V} (w : IsS h v l) {i j : Nat} (hij : i ≤ j) (hj : j ≤ l.length) {lo hi : Option V} (hlo : ∀ k,bndk lo 0 k = k i) (hhi : ∀ k,bndk hi l.length k = k j) :
 ∃ v',(∀ k,words.slice 1 v lo hi none h k = k v' h)∧IsS h v' ((l.take j).drop i)∧∀ n,Low v n→Low v' n:=by
 have hlen:=take_drop_length hij hj
 cases w with
 | nils=>
   simp at hj; subst hj; obtain rfl : i = 0:=by omega
   refine ⟨.nils,fun k=>?_,.nils,fun n h=>h⟩
   show bndk lo 0 (fun i=>bndk hi 0 fun j=>zk i (zk j (k .nils h) .fail) .fail) = _
   have hhi : ∀ k,bndk hi 0 k = k 0:=hhi
   rw [hlo,hhi]; rfl
 | emp=>
   simp at hj; subst hj; obtain rfl : i = 0:=by omega
   refine ⟨.emp,fun k=>?_,.emp,fun n h=>h⟩
   show bndk lo 0 (fun i=>bndk hi 0 fun j=>zk i (zk j (k .emp h) .fail) .fail) = _
   have hhi : ∀ k,bndk hi 0 k = k 0:=hhi
   rw [hlo,hhi]; rfl
 | sl b o c op cs _ row fit is cap=>
   have key : ∀ c' : Option Nat,(∀ n,c' = some n→j - i ≤ n∧o + i + n ≤ cs.length)→IsS h (.slice b (o + i * 1) (j - i) c' 1) ((l.take j).drop i):=by
    intro c' hc'
    have:=IsS.sl b (o + i * 1) c' op cs ((l.take j).drop i) row (by rw [hlen]; omega) (by
     rw [hlen]
     apply List.ext_getElem?
     intro x
     by_cases hx : x < j - i
     · rw [List.getElem?_take_of_lt hx,List.getElem?_drop,List.getElem?_drop,List.getElem?_take_of_lt (by omega)]
       have : ((cs.drop o).take l.length)[i + x]? = l[i + x]?:=by rw [is]
       rw [List.getElem?_take_of_lt (by omega),List.getElem?_drop] at this
       rw [← this]; congr 1; omega
     · rw [List.getElem?_eq_none (by simp; omega),List.getElem?_eq_none (by rw [hlen]; omega)]) (fun n hn=>by rw [hlen]; have:=hc' n hn; omega)
    rwa [hlen] at this
   have nil : i = j→((l.take j).drop i) = []:=fun e=>List.length_eq_zero_iff.1 (by rw [hlen]; omega)
   have unf : ∀ k,words.slice 1 (.slice b o l.length c 1) lo hi none h k = optk c
    (fun cap=>ifk (Nat.ble j cap) (ifk (Nat.beq cap i) (k .emp h) (k (.slice b (o + i * 1) (j - i) (some (cap - i)) 1) h)) .fail)
    (ifk (Nat.ble j l.length) (ifk (Nat.blt i l.length) (k (.slice b (o + i * 1) (j - i) none 1) h) (k .emp h)) .fail):=by
    intro k
    show ifk (Nat.beq 1 1) (bndk lo 0 fun i=>bndk hi l.length fun j=>ifk (Nat.ble i j)
     (optk c
       (fun cap=>ifk (Nat.ble j cap) (ifk (Nat.beq cap i) (k .emp h) (k (.slice b (o + i * 1) (j - i) (some (cap - i)) 1) h)) .fail)
       (ifk (Nat.ble j l.length) (ifk (Nat.blt i l.length) (k (.slice b (o + i * 1) (j - i) none 1) h) (k .emp h)) .fail)) .fail) .fail = _
    rw [show Nat.beq 1 1 = true from rfl,ifk_true,hlo,hhi,ble_of hij,ifk_true]
   cases c with
   | some n=>
     have hn:=cap n rfl
     by_cases e : n = i
     · refine ⟨.emp,fun k=>?_,by rw [nil (by omega)]; exact .emp,fun n _ b o l c s e=>by cases e⟩
       rw [unf,optk_some,ble_of (by omega),ifk_true,beq_of e,ifk_true]
     · refine ⟨.slice b (o + i * 1) (j - i) (some (n - i)) 1,fun k=>?_,key _ (fun m hm=>by cases hm; omega),fun n hn b' o l c s e=>by cases e; exact hn b _ _ _ _ rfl⟩
       rw [unf,optk_some,ble_of (by omega),ifk_true,beq_not e,ifk_false]
   | none=>
     by_cases e : i < l.length
     · refine ⟨.slice b (o + i * 1) (j - i) none 1,fun k=>?_,key _ (fun m hm=>by cases hm),fun n hn b' o l c s e=>by cases e; exact hn b _ _ _ _ rfl⟩
       rw [unf,optk_none,ble_of hj,ifk_true,blt_of e,ifk_true]
     · refine ⟨.emp,fun k=>?_,by rw [nil (by omega)]; exact .emp,fun n _ b o l c s e=>by cases e⟩
       rw [unf,optk_none,ble_of hj,ifk_true,blt_not e,ifk_false]
def bV (n : Nat) : V:=.int .u8 (.ofNat n)
def packN : List Nat→Nat
 | []=>0
 | b :: l=>b + 256 * packN l
theorem packN_lt {l : List Nat} (h : ∀ x ∈ l,x < 256) : packN l < 256 ^ l.length:=by
 induction l with
 | nil=>simp [packN]
 | cons b l ih=>
   have h1:=ih fun x hx=>h x (List.mem_cons_of_mem _ hx)
   have h2:=h b (by simp)
   simp only [packN,List.length_cons,Nat.pow_succ]; omega
theorem packk_law {l : List Nat} (h : ∀ x ∈ l,x < 256) (k : Nat→Res) : packk (l.map bV) k = k (packN l):=by
 induction l generalizing k with
 | nil=>rfl
 | cons b l ih=>
   show ifk (Nat.blt b 256) (packk (l.map bV) fun n=>k (b + 256 * n)) .fail = _
   rw [blt_of (h b (by simp)),ifk_true,ih fun x hx=>h x (List.mem_cons_of_mem _ hx)]
   rfl
theorem bytesS_law {h : Heap} {v : V} {bs : List Nat} (w : IsS h v (bs.map bV)) (hb : ∀ x ∈ bs,x < 256) (k : V→Heap→Res) : words.bytesS v h k = k (.str bs.length (packN bs)) h:=by
 generalize hl : bs.map bV = l at w
 have hll : l.length = bs.length:=by rw [← hl]; simp
 cases w with
 | nils=>have : bs = []:=by simpa using hl
         subst this; rfl
 | emp=>have : bs = []:=by simpa using hl
        subst this; rfl
 | sl b o c op cs _ row fit is cap=>
   show loadk h b o l.length (fun cs=>packk cs fun n=>forceN n fun n=>k (.str l.length n) h) = _
   rw [loadk_law row fit,is,← hl,packk_law hb,forceN_eq]
   simp
theorem But.up {h h' : Heap} {b : Bid} {n : Nat} (u : But h b h') (hb : n ≤ b.val) : UpTo n h h':=⟨by rw [u.nx]; exact Nat.le_refl _,fun b' h1=>u.get b' (by rintro rfl; omega)⟩
end Go.Ev

/- EVALUATOR: strings as lists of bytes: what the words of strings come to. -/
namespace Go.Ev
def sV (bs : List Nat) : V:=.str bs.length (packN bs)
def Bytes (bs : List Nat) : Prop:=∀ x ∈ bs,x < 256
theorem Bytes.nil : Bytes []:=by intro x hx; cases hx
theorem Bytes.cons {b : Nat} {bs : List Nat} (h : b < 256) (hs : Bytes bs) : Bytes (b :: bs):=by
 intro x hx
 rcases List.mem_cons.1 hx with rfl | hx
 · exact h
 · exact hs x hx
theorem Bytes.append {a b : List Nat} (ha : Bytes a) (hb : Bytes b) : Bytes (a ++ b):=by
 intro x hx
 rcases List.mem_append.1 hx with hx | hx
 · exact ha x hx
 · exact hb x hx
theorem Bytes.take {a : List Nat} (ha : Bytes a) (n : Nat) : Bytes (a.take n):=fun x hx=>ha x (List.mem_of_mem_take hx)
theorem Bytes.drop {a : List Nat} (ha : Bytes a) (n : Nat) : Bytes (a.drop n):=fun x hx=>ha x (List.mem_of_mem_drop hx)
theorem Bytes.tail {b : Nat} {bs : List Nat} (h : Bytes (b :: bs)) : Bytes bs:=fun x hx=>h x (List.mem_cons_of_mem _ hx)
theorem Bytes.head {b : Nat} {bs : List Nat} (h : Bytes (b :: bs)) : b < 256:=h b (by simp)
theorem castS_sV (bs : List Nat) (f : Nat→Nat→Res) : castS (sV bs) f = f bs.length (packN bs):=rfl
theorem bytes_in {ρ : Rho} (s : ByteArray) : ∃ bs,Bytes bs∧bs.length = s.size∧VR ρ (sV bs) (.string s):=by
 refine ⟨s.data.toList.map UInt8.toNat,?_,by rw [List.length_map]; rfl,?_⟩
 · intro x hx
   obtain ⟨b,_,rfl⟩:=List.mem_map.1 hx
   exact b.toNat_lt
 · have e : packN (s.data.toList.map UInt8.toNat) = pack s.data.toList:=by
    induction s.data.toList with
    | nil=>rfl
    | cons b l ih=>simp only [List.map_cons,packN,pack,ih]
   rw [sV,e,List.length_map]
   exact .str (dig_pack s.data.toList).symm (pack_lt s.data.toList)
end Go.Ev

/- EVALUATOR: slices that nobody else holds, as their cells; maps from texts to numbers; what may change. -/
namespace Go.Ev
structure Chg (S : Nat→Prop) (h h' : Heap) : Prop where
 nx : h.nx.val ≤ h'.nx.val
 get : ∀ b : Bid,b.val < h.nx.val→¬ S b.val→h'.t.get b = h.t.get b
theorem Chg.refl (S : Nat→Prop) (h : Heap) : Chg S h h:=⟨Nat.le_refl _,fun _ _ _=>rfl⟩
theorem Chg.trans {S S' : Nat→Prop} {h h' h'' : Heap} (a : Chg S h h') (b : Chg S' h' h'') (s : ∀ x,S' x→S x ∨ h.nx.val ≤ x) : Chg S h h'':=
 ⟨Nat.le_trans a.nx b.nx,fun x hx hs=>(b.get x (Nat.lt_of_lt_of_le hx a.nx) fun h'=>(s _ h').elim hs (fun h2=>by omega)).trans (a.get x hx hs)⟩
theorem Up.chg {S : Nat→Prop} {h h' : Heap} (u : Up h h') : Chg S h h':=⟨u.nx,fun b hb _=>u.get b hb⟩
theorem Chg.mono {S S' : Nat→Prop} {h h' : Heap} (a : Chg S h h') (s : ∀ x,x < h.nx.val→S x→S' x) : Chg S' h h':=⟨a.nx,fun b hb hs=>a.get b hb fun h2=>hs (s _ hb h2)⟩
def Still (h : Heap) (S : Nat→Prop) : Nat→Prop:=fun x=>x < h.nx.val∧¬ S x
theorem CellA.chg {S S' : Nat→Prop} {h h' : Heap} {t : Tr} {v : V} (w : CellA h (Still h S) t v) (c : Chg S h h') (s : ∀ x,S' x→S x ∨ h.nx.val ≤ x) : CellA h' (Still h' S') t v:=
 w.mv (fun x hx=>⟨Nat.lt_of_lt_of_le hx.1 c.nx,fun h2=>(s x h2).elim hx.2 (fun h3=>by have:=hx.1; omega)⟩) fun b hb=>c.get b hb.1 hb.2
theorem RowA.chg {S S' : Nat→Prop} {h h' : Heap} {t : List Tr} {v : List V} (w : RowA h (Still h S) t v) (c : Chg S h h') (s : ∀ x,S' x→S x ∨ h.nx.val ≤ x) : RowA h' (Still h' S') t v:=
 w.mv (fun x hx=>⟨Nat.lt_of_lt_of_le hx.1 c.nx,fun h2=>(s x h2).elim hx.2 (fun h3=>by have:=hx.1; omega)⟩) fun b hb=>c.get b hb.1 hb.2
theorem CellA.stay {S : Nat→Prop} {h h' : Heap} {t : Tr} {v : V} (w : CellA h (Still h S) t v) (u : Up h h') (s : ∀ x,S x→x < h.nx.val) : CellA h' (Still h' S) t v:=w.chg (S:=S) u.chg fun x hx=>.inl hx
theorem CellA.int_inv {h : Heap} {A : Nat→Prop} {k : IntKind} {n : Int} {v : V} (w : CellA h A (.i k n) v) : v = .int k n:=by cases w; rfl
theorem CellA.str_inv {h : Heap} {A : Nat→Prop} {l n : Nat} {v : V} (w : CellA h A (.s l n) v) : v = .str l n∧n < 256 ^ l:=by
 cases w with | s _ _ hn=>exact ⟨rfl,hn⟩
theorem RowA.cons_inv {h : Heap} {A : Nat→Prop} {t : Tr} {r : List Tr} {l : List V} (w : RowA h A (t :: r) l) : ∃ v m,l = v :: m∧CellA h A t v∧RowA h A r m:=by
 cases w with | cons a b=>exact ⟨_,_,rfl,a,b⟩
theorem RowA.nil_inv {h : Heap} {A : Nat→Prop} {l : List V} (w : RowA h A [] l) : l = []:=by cases w; rfl
theorem RowA.inv1 {h : Heap} {A : Nat→Prop} {t0 : Tr} {l : List V} (w : RowA h A [t0] l) : ∃ v0,l = [v0]∧CellA h A t0 v0:=by
 obtain ⟨v0,_,rfl,w0,w⟩:=w.cons_inv
 obtain rfl:=w.nil_inv
 exact ⟨v0,rfl,w0⟩
theorem RowA.inv3 {h : Heap} {A : Nat→Prop} {t0 t1 t2 : Tr} {l : List V} (w : RowA h A [t0,t1,t2] l) : ∃ v0 v1 v2,l = [v0,v1,v2]∧CellA h A t0 v0∧CellA h A t1 v1∧CellA h A t2 v2:=by
 obtain ⟨v0,_,rfl,w0,w⟩:=w.cons_inv
 obtain ⟨v1,_,rfl,w1,w⟩:=w.cons_inv
 obtain ⟨v2,_,rfl,w2,w⟩:=w.cons_inv
 obtain rfl:=w.nil_inv
 exact ⟨v0,v1,v2,rfl,w0,w1,w2⟩
inductive Hld (h : Heap) (g : Nat) : V→List V→Prop where
 | nils : Hld h g .nils []
 | sl (b : Bid) (m : Nat) (cells : List V) (row : Row (h.t.get b) g cells) (hb : b.val < h.nx.val) (fit : m * g ≤ cells.length) : Hld h g (.slice b 0 m none g) (cells.take (m * g))
theorem Hld.len {h : Heap} {g : Nat} {v : V} {cs : List V} (w : Hld h g v cs) (hg : 0 < g) {m : Nat} (hm : cs.length = m * g) (k : Nat→Res) : lenk v k = k m:=by
 cases w with
 | nils=>
   have : m = 0:=by
    cases m with
    | zero=>rfl
    | succ m=>simp only [List.length_nil,Nat.succ_mul] at hm; omega
   subst this; rfl
 | sl b m' cells row hb fit=>
   rw [List.length_take,Nat.min_eq_left fit] at hm
   obtain rfl:=Nat.eq_of_mul_eq_mul_right hg hm
   rfl
theorem Hld.one {h : Heap} {g : Nat} {v : V} {cs : List V} (w : Hld h g v cs) (r : Res) : onek v r = r:=by cases w <;> rfl
theorem Hld.chg {S : Nat→Prop} {h h' : Heap} {g : Nat} {v : V} {cs : List V} (w : Hld h g v cs) (c : Chg S h h') (o : ∀ x,S x→Off v x) : Hld h' g v cs:=by
 cases w with
 | nils=>exact .nils
 | sl b m cells row hb fit=>exact .sl b m cells (by rw [c.get b hb fun s=>off_slice.1 (o _ s) rfl]; exact row) (Nat.lt_of_lt_of_le hb c.nx) fit
theorem Hld.up {h h' : Heap} {g : Nat} {v : V} {cs : List V} (w : Hld h g v cs) (u : Up h h') : Hld h' g v cs:=w.chg (S:=fun _=>False) u.chg fun _ h=>h.elim
theorem Hld.lt {h : Heap} {g : Nat} {v : V} {cs : List V} (w : Hld h g v cs) {x : Nat} (hx : ¬ Off v x) : x < h.nx.val:=by
 cases w with
 | nils=>exact absurd (off_nils x) hx
 | sl b m cells row hb fit=>
   have : b.val = x:=Classical.byContradiction fun e=>hx (off_slice.2 e)
   omega
theorem Hld.at_ {h : Heap} {g : Nat} {v : V} {cs : List V} (w : Hld h g v cs) {m : Nat} (hg : 0 < g) (hm : cs.length = m * g) {i : Nat} (hi : i < m) :
 ∃ b,v = .slice b 0 m none g∧b.val < h.nx.val∧(∀ j n,j + n ≤ g→∀ k,loadk h b (i * g + j) n k = k ((cs.drop (i * g + j)).take n))∧∀ (j : Nat) (x : V),j < g→cs[i * g + j]? = some x→∀ k,load1k h b (i * g + j) k = k x:=by
 have hig : i * g + g ≤ m * g:=by
  have:=Nat.mul_le_mul_right g (show i + 1 ≤ m from hi)
  rw [Nat.succ_mul] at this; exact this
 cases w with
 | nils=>
   simp only [List.length_nil] at hm
   omega
 | sl b m' cells row hb fit=>
   rw [List.length_take,Nat.min_eq_left fit] at hm
   obtain rfl:=Nat.eq_of_mul_eq_mul_right hg hm
   refine ⟨b,rfl,hb,fun j n hj k=>?_,fun j x hj hx k=>?_⟩
   · rw [loadk_law row (by omega),List.drop_take,List.take_take,Nat.min_eq_left (by omega)]
   · refine load1k_law row ?_ k
     rw [List.getElem?_take] at hx
     split at hx
     · exact hx
     · cases hx
theorem row_ext' {x : Blk} {g : Nat} {cs cs' : List V} (r : Row x g cs) (e : cs = cs') : Row x g cs':=e ▸ r
theorem own_app {h : Heap} {g : Nat} {v : V} {cs : List V} {p : Bid} {cells : List V} (w : Hld h g v cs) (hg : 0 < g) (hp : Row (h.t.get p) g cells) (hl : cells.length = g) {m : Nat} (hm : cs.length = m * g) (hs : m < 16777216) :
 ∃ h' v',(∀ k,words.app g v (.slice p 0 1 (.some 1) g) h k = k v' h')∧Hld h' g v' (cs ++ cells)∧Chg (fun x=>¬ Off v x) h h'∧(∀ x,¬ Off v' x→¬ Off v x ∨ h.nx.val ≤ x)∧∃ b l,v' = .slice b 0 l none g:=by
 have src : ∀ k : Nat→List V→Res,srck g (.slice p 0 1 (.some 1) g) h k = k 1 cells:=fun k=>by
  show loadk h p 0 (1 * g) (fun cs=>k 1 cs) = _
  rw [loadk_law hp (by omega),List.drop_zero,List.take_of_length_le (by omega)]
 cases w with
 | nils=>
   obtain ⟨h',h1,h2,h3⟩:=fresh_rows (g:=g) (n:=1) hg (l:=cells) (by omega) h
   refine ⟨h',.slice h.nx 0 1 none g,fun k=>?_,?_,h3.up.chg,fun x hx=>.inr ?_,_,_,rfl⟩
   · have e : sApp g .nils (.slice p 0 1 (.some 1) g) h k = srck g (.slice p 0 1 (.some 1) g) h fun m new=>appendk g .nils m new h k:=by
      show ifk (Nat.blt 1 g) _ _ = _
      rw [ifk_eq]
      split <;> rfl
     show sApp g .nils (.slice p 0 1 (.some 1) g) h k = _
     rw [e,src]
     exact h1 k
   · have:=Hld.sl (h:=h') (g:=g) h.nx 1 cells h2 h3.lt (by omega)
     rw [List.take_of_length_le (by omega)] at this
     exact this
   · have : h.nx.val = x:=Classical.byContradiction fun e=>hx (off_slice.2 e)
     omega
 | sl b m' old row hb fit=>
   rw [List.length_take,Nat.min_eq_left fit] at hm
   obtain rfl:=Nat.eq_of_mul_eq_mul_right hg hm
   obtain ⟨n,t,g1,g2,g3,g4⟩:=row.is
   have e : ∀ k,sApp g (.slice b 0 m' none g) (.slice p 0 1 (.some 1) g) h k = appendk g (.slice b 0 m' none g) 1 cells h k:=by
    intro k
    have e : sApp g (.slice b 0 m' none g) (.slice p 0 1 (.some 1) g) h k = srck g (.slice p 0 1 (.some 1) g) h fun m new=>appendk g (.slice b 0 m' none g) m new h k:=by
     show ifk (Nat.blt 1 g) (ifk (and (Nat.beq 0 0) (and (Nat.beq m' 0) (and (Nat.beq 0 0) (and (Nat.blt 16 1) (and (Nat.beq g g) (Nat.ble 1 16777216)))))) _ _) _ = _
     have : (and (Nat.beq 0 0) (and (Nat.beq m' 0) (and (Nat.beq 0 0) (and (Nat.blt 16 1) (and (Nat.beq g g) (Nat.ble 1 16777216)))))) = false:=by cases Nat.beq m' 0 <;> rfl
     rw [this,ifk_false,ifk_eq]
     split <;> rfl
    rw [e,src]
   have e2 : ∀ k,words.app g (.slice b 0 m' none g) (.slice p 0 1 (.some 1) g) h k = ifk (Nat.beq g g) (ifk (Nat.ble (m' + 1) 16777216) (h.getk b fun blk=>arrk blk fun g' n t ro=>ifk (Nat.ble (0 + (m' + 1) * g) (n * g'))
    (storek h b (0 + m' * g) (1 * g) cells fun h'=>k (.slice b 0 (m' + 1) none g) h')
    (ifk ro .fail (ifk (Nat.beq g' g)
      (ifk (Nat.beq n m') (zk 0 (chopk g 1 m' cells t fun t'=>movek b g (m' + 1) t' h k) .fail)
        (loadk h b 0 (m' * g) fun old=>appk old cells fun all=>rowk g (m' + 1) all fun t'=>movek b g (m' + 1) t' h k))
      (ifk (Nat.beq g' 1) .fail (loadk h b 0 (m' * g) fun old=>appk old cells fun all=>rowk g (m' + 1) all fun t'=>movek b g (m' + 1) t' h k))))) .fail) .fail:=e
   by_cases hn : n = m'
   · subst hn
     have len : old.length = n * g:=g3
     obtain ⟨t',h1,h2,h3⟩:=chopk_law (g:=g) hg g2 (l:=cells) (m:=1) (by omega)
     have hrow : Row (.arr g (n + 1) t' false) g (old ++ cells):=by
      refine ⟨_,_,rfl,h2,by rw [List.length_append,Nat.succ_mul]; omega,fun i=>?_⟩
      rw [h3]
      by_cases hi : n * g ≤ i
      · rw [if_pos hi,List.getElem?_append_right (by omega),len]
      · rw [if_neg hi,g4,List.getElem?_append_left (by omega)]
     obtain ⟨h',h4,h5,h6,h7⟩:=move_rows (b:=b) h hrow
     have hnx : h'.nx.val = h.nx.val + 1:=by rw [h6,Bid.nxt_val]
     refine ⟨h',.slice h.nx 0 (n + 1) none g,fun k=>?_,?_,⟨by omega,fun b' hb1 hb2=>h7 b' ?_ (bid_ne (by omega))⟩,fun x hx=>.inr ?_,_,_,rfl⟩
     · rw [e2,Nat.beq_refl,ifk_true,ble_of (by omega),ifk_true,Heap.getk_eq,g1]
       show (ifk (Nat.ble (0 + (n + 1) * g) (n * g)) _ _) = _
       rw [ble_not (by rw [Nat.succ_mul]; omega),ifk_false,ifk_false,Nat.beq_refl,ifk_true,Nat.beq_refl,ifk_true,zk_zero]
       exact (h1 _).trans (h4 k)
     · have:=Hld.sl (h:=h') (g:=g) h.nx (n + 1) (old ++ cells) h5 (by omega) (by rw [List.length_append,Nat.succ_mul]; omega)
       rw [List.take_of_length_le (by rw [List.length_append,Nat.succ_mul]; omega)] at this
       rw [List.take_of_length_le (by omega)]
       exact this
     · rintro rfl
       exact hb2 fun o=>off_slice.1 o rfl
     · have : h.nx.val = x:=Classical.byContradiction fun e=>hx (off_slice.2 e)
       omega
   · have hlt : m' + 1 ≤ n:=by
      have h1 : m' * g ≤ n * g:=by omega
      have:=Nat.le_of_mul_le_mul_right h1 hg
      omega
     have hfit : m' * g + g ≤ n * g:=by
      have:=Nat.mul_le_mul_right g hlt
      rw [Nat.succ_mul] at this; exact this
     obtain ⟨h',h1,h2,h3⟩:=storek_law (o:=m' * g) (n:=g) (vs:=cells) row hl (by omega)
     refine ⟨h',.slice b 0 (m' + 1) none g,fun k=>?_,?_,⟨by rw [h3.nx]; exact Nat.le_refl _,fun b' hb1 hb2=>h3.get b' ?_⟩,fun x hx=>.inl fun o=>hx (off_slice.2 (off_slice.1 o)),_,_,rfl⟩
     · rw [e2,Nat.beq_refl,ifk_true,ble_of (by omega),ifk_true,Heap.getk_eq,g1]
       show (ifk (Nat.ble (0 + (m' + 1) * g) (n * g)) _ _) = _
       rw [ble_of (by rw [Nat.succ_mul]; omega),ifk_true,Nat.zero_add,Nat.one_mul]
       exact h1 _
     · have hsl:=splice_length (cs:=old) (vs:=cells) (o:=m' * g) (by omega)
       have:=Hld.sl (h:=h') (g:=g) b (m' + 1) (splice old (m' * g) cells) h2 (by rw [h3.nx]; exact hb) (by rw [hsl,Nat.succ_mul]; omega)
       have e3 : (splice old (m' * g) cells).take ((m' + 1) * g) = old.take (m' * g) ++ cells:=by
        rw [splice,List.take_append_of_le_length (by rw [List.length_append,List.length_take,Nat.succ_mul]; omega),List.take_of_length_le (by rw [List.length_append,List.length_take,Nat.succ_mul]; omega)]
       rw [e3] at this
       exact this
     · rintro rfl
       exact hb2 fun o=>off_slice.1 o rfl
theorem sV_inj {a b : List Nat} (ha : Bytes a) (hb : Bytes b) (e : sV a = sV b) : a = b:=by
 have h1 : a.length = b.length:=by injection e
 have h2 : packN a = packN b:=by injection e
 induction a generalizing b with
 | nil=>exact (List.length_eq_zero_iff.1 h1.symm).symm
 | cons x a ih=>
   cases b with
   | nil=>cases h1
   | cons y b=>
     have:=ha.head; have:=hb.head
     simp only [packN] at h2
     have hxy : x = y:=by omega
     subst hxy
     have h3 : packN a = packN b:=by omega
     have h4 : a.length = b.length:=by simpa using h1
     rw [ih ha.tail hb.tail (by rw [sV,sV,h3,h4]) h4 h3]
def ent (x : List Nat × Nat) : ME:=⟨sV x.1,.int .u64 (.ofNat x.2)⟩
structure MapIs (h : Heap) (b : Bid) (M : List (List Nat × Nat)) : Prop where
 is : ∃ E c,h.t.get b = .ob (.mp E c)∧E.Perm (M.map ent)
 bytes : ∀ x ∈ M,Bytes x.1
 nodup : (M.map (·.1)).Nodup
theorem MapIs.perm {h : Heap} {b : Bid} {M M' : List (List Nat × Nat)} (w : MapIs h b M) (p : M.Perm M') : MapIs h b M':=by
 obtain ⟨⟨E,c,h1,h2⟩,h3,h4⟩:=w
 exact ⟨⟨E,c,h1,h2.trans (p.map ent)⟩,fun x hx=>h3 x (p.mem_iff.2 hx),(p.map (·.1)).nodup_iff.1 h4⟩
theorem MapIs.keep {h h' : Heap} {b : Bid} {M : List (List Nat × Nat)} (w : MapIs h b M) (e : h'.t.get b = h.t.get b) : MapIs h' b M:=by
 obtain ⟨⟨E,c,h1,h2⟩,h3,h4⟩:=w
 exact ⟨⟨E,c,by rw [e]; exact h1,h2⟩,h3,h4⟩
theorem eqS_str (l n l' n' : Nat) (k : Bool→Res) : eqS l n (.str l' n') k = k (decide (l = l'∧n = n')):=by
 show k (seq l n l' n') = _
 rw [seq_law]
theorem lookm_no {a : List Nat} {kf : V→Res} {kn : Res} : ∀ {E : List ME},(∀ m ∈ E,∃ x : List Nat × Nat,m = ent x∧sV x.1 ≠ sV a)→lookm (eqS a.length (packN a)) kf kn E = kn
 | [],_=>rfl
 | m :: E,h=>by
   obtain ⟨x,rfl,hx⟩:=h m (by simp)
   show eqS a.length (packN a) (.str x.1.length (packN x.1)) (fun t=>ifk t (kf _) (lookm _ kf kn E)) = _
   rw [eqS_str,decide_eq_false (fun e=>hx (by rw [sV,sV,e.1,e.2])),ifk_false]
   exact lookm_no fun m hm=>h m (by simp [hm])
theorem lookm_yes {a : List Nat} {w : Nat} {kf : V→Res} {kn : Res} : ∀ {E : List ME},(∀ m ∈ E,∃ x : List Nat × Nat,m = ent x∧(sV x.1 = sV a→x.2 = w))→(∃ m ∈ E,∃ x : List Nat × Nat,m = ent x∧sV x.1 = sV a)→lookm (eqS a.length (packN a)) kf kn E = kf (.int .u64 (.ofNat w))
 | [],_,h=>by obtain ⟨m,hm,_⟩:=h; simp at hm
 | m :: E,h,h2=>by
   obtain ⟨x,rfl,hx⟩:=h m (by simp)
   show eqS a.length (packN a) (.str x.1.length (packN x.1)) (fun t=>ifk t (kf _) (lookm _ kf kn E)) = _
   rw [eqS_str]
   by_cases e : sV x.1 = sV a
   · rw [decide_eq_true (by simp only [sV,V.str.injEq] at e; exact ⟨e.1.symm,e.2.symm⟩),ifk_true]
     show kf (.int .u64 (.ofNat x.2)) = _
     rw [hx e]
   · rw [decide_eq_false (fun e'=>e (by rw [sV,sV,e'.1,e'.2])),ifk_false]
     refine lookm_yes (fun m hm=>h m (by simp [hm])) ?_
     obtain ⟨m,hm,y,rfl,hy⟩:=h2
     rcases List.mem_cons.1 hm with hm | hm
     · have : sV y.1 = sV x.1:=by have:=congrArg ME.key hm; exact this
       exact absurd (this.symm.trans hy) e
     · exact ⟨_,hm,y,rfl,hy⟩
theorem repm_no {a : List Nat} {key v : V} {kn : Res} {k : List ME→Res} : ∀ {E : List ME},(∀ m ∈ E,∃ x : List Nat × Nat,m = ent x∧sV x.1 ≠ sV a)→repm (eqS a.length (packN a)) key v E kn k = kn:=by
 intro E
 induction E generalizing k with
 | nil=>intro _; rfl
 | cons m E ih=>
   intro h
   obtain ⟨x,rfl,hx⟩:=h m (by simp)
   show eqS a.length (packN a) (.str x.1.length (packN x.1)) (fun t=>ifk t (k (⟨key,v⟩ :: E)) (repm (eqS a.length (packN a)) key v E kn fun l'=>k (ent x :: l'))) = _
   rw [eqS_str,decide_eq_false (fun e=>hx (by rw [sV,sV,e.1,e.2])),ifk_false]
   exact ih fun m hm=>h m (by simp [hm])
theorem insm_law {a : List Nat} {v : V} : ∀ {E : List ME},(∀ m ∈ E,∃ x : List Nat × Nat,m = ent x)→∃ E',(∀ k : List ME→Res,insm true (sV a) v E k = k E')∧E'.Perm (⟨sV a,v⟩ :: E)
 | [],_=>⟨_,fun k=>rfl,.refl _⟩
 | m :: E,h=>by
   obtain ⟨x,rfl⟩:=h m (by simp)
   obtain ⟨E',h1,h2⟩:=insm_law (a:=a) (v:=v) (E:=E) fun m hm=>h m (by simp [hm])
   have e : ∀ k : List ME→Res,insm true (sV a) v (ent x :: E) k = ifk (Nat.blt a.length x.1.length) (k (⟨sV a,v⟩ :: ent x :: E)) (ifk (Nat.beq a.length x.1.length) (ifk (Nat.blt (packN a) (packN x.1)) (k (⟨sV a,v⟩ :: ent x :: E)) (insm true (sV a) v E fun l'=>k (ent x :: l'))) (insm true (sV a) v E fun l'=>k (ent x :: l'))):=fun k=>rfl
   cases c1 : Nat.blt a.length x.1.length with
   | true=>exact ⟨_,fun k=>by rw [e,c1,ifk_true],.refl _⟩
   | false=>
     cases c2 : Nat.beq a.length x.1.length with
     | false=>exact ⟨_,fun k=>by rw [e,c1,ifk_false,c2,ifk_false,h1],(h2.cons _).trans (.swap _ _ _)⟩
     | true=>
       cases c3 : Nat.blt (packN a) (packN x.1) with
       | true=>exact ⟨_,fun k=>by rw [e,c1,ifk_false,c2,ifk_true,c3,ifk_true],.refl _⟩
       | false=>exact ⟨_,fun k=>by rw [e,c1,ifk_false,c2,ifk_true,c3,ifk_false,h1],(h2.cons _).trans (.swap _ _ _)⟩
theorem MapIs.ents {b : Bid} {M : List (List Nat × Nat)} {E : List ME} (p : E.Perm (M.map ent)) : ∀ m ∈ E,∃ x,x ∈ M∧m = ent x:=fun m hm=>by
 obtain ⟨x,hx,rfl⟩:=List.mem_map.1 (p.mem_iff.1 hm)
 exact ⟨x,hx,rfl⟩
theorem nodup_fst {α β : Type} : ∀ {M : List (α × β)},(M.map (·.1)).Nodup→∀ {x y : α × β},x ∈ M→y ∈ M→x.1 = y.1→x = y
 | [],_,_,_,hx,_,_=>by simp at hx
 | z :: M,h,x,y,hx,hy,e=>by
   rw [List.map_cons,List.nodup_cons] at h
   rcases List.mem_cons.1 hx with e1 | hx'
   · rcases List.mem_cons.1 hy with e2 | hy'
     · rw [e1,e2]
     · exact (h.1 (List.mem_map.2 ⟨y,hy',by rw [← e,e1]⟩)).elim
   · rcases List.mem_cons.1 hy with e2 | hy'
     · exact (h.1 (List.mem_map.2 ⟨x,hx',by rw [e,e2]⟩)).elim
     · exact nodup_fst h.2 hx' hy' e
theorem look_no {h : Heap} {b : Bid} {M : List (List Nat × Nat)} (w : MapIs h b M) {a : List Nat} (ha : Bytes a) (hn : ∀ x ∈ M,x.1 ≠ a) (q : V→Heap→Res) :
 words.ex (.look true true (.int .u64 (.ofNat 0))) [.map b,sV a] h q = q (.tup [.int .u64 (.ofNat 0),.bool false]) h:=by
 obtain ⟨⟨E,c,h1,h2⟩,h3,h4⟩:=w
 show h.getk b (fun y=>obk y fun y=>mpk y fun es _=>lookm (eqS a.length (packN a)) (fun v=>q (okv true v true) h) (q (okv true (.int .u64 (.ofNat 0)) false) h) es) = _
 rw [Heap.getk_eq,h1]
 show lookm (eqS a.length (packN a)) (fun v=>q (okv true v true) h) (q (okv true (.int .u64 (.ofNat 0)) false) h) E = _
 refine lookm_no fun m hm=>?_
 obtain ⟨x,hx,rfl⟩:=MapIs.ents (b:=b) h2 m hm
 exact ⟨x,rfl,fun e=>hn x hx (sV_inj (h3 x hx) ha e)⟩
theorem look_yes {h : Heap} {b : Bid} {M : List (List Nat × Nat)} (w : MapIs h b M) {a : List Nat} {n : Nat} (hn : (a,n) ∈ M) (q : V→Heap→Res) :
 words.ex (.look true true (.int .u64 (.ofNat 0))) [.map b,sV a] h q = q (.tup [.int .u64 (.ofNat n),.bool true]) h:=by
 obtain ⟨⟨E,c,h1,h2⟩,h3,h4⟩:=w
 show h.getk b (fun y=>obk y fun y=>mpk y fun es _=>lookm (eqS a.length (packN a)) (fun v=>q (okv true v true) h) (q (okv true (.int .u64 (.ofNat 0)) false) h) es) = _
 rw [Heap.getk_eq,h1]
 show lookm (eqS a.length (packN a)) (fun v=>q (okv true v true) h) (q (okv true (.int .u64 (.ofNat 0)) false) h) E = _
 refine lookm_yes (a:=a) (w:=n) (fun m hm=>?_) ⟨_,h2.mem_iff.2 (List.mem_map_of_mem hn),_,rfl,rfl⟩
 obtain ⟨x,hx,rfl⟩:=MapIs.ents (b:=b) h2 m hm
 refine ⟨x,rfl,fun e=>?_⟩
 have e1:=sV_inj (h3 x hx) (h3 _ hn) e
 have:=nodup_fst h4 hx hn e1
 rw [this]
theorem upd_new {h : Heap} {b : Bid} {M : List (List Nat × Nat)} (w : MapIs h b M) {a : List Nat} (n : Nat) (ha : Bytes a) (hn : ∀ x ∈ M,x.1 ≠ a) :
 ∃ h',(∀ q : V→Heap→Res,words.ex (.upd true) [.map b,sV a,.int .u64 (.ofNat n)] h q = q .skip h')∧MapIs h' b (M ++ [(a,n)])∧Chg (fun x=>x = b.val) h h':=by
 obtain ⟨⟨E,c,h1,h2⟩,h3,h4⟩:=w
 have hE:=MapIs.ents (b:=b) h2
 obtain ⟨E',e1,e2⟩:=insm_law (a:=a) (v:=.int .u64 (.ofNat n)) (E:=E) fun m hm=>by obtain ⟨x,_,e⟩:=hE m hm; exact ⟨x,e⟩
 refine ⟨h.turn b (.ob (.mp E' (Nat.succ c))),fun q=>?_,⟨⟨E',_,HT.get_set _ _ _,?_⟩,?_,?_⟩,⟨Nat.le_refl _,fun b' _ hb=>HT.get_set_ne _ (fun e=>hb (by rw [e])) _⟩⟩
 · show h.getk b (fun y=>obk y fun y=>mpk y fun es c=>repm (eqS a.length (packN a)) (sV a) (.int .u64 (.ofNat n)) es (insm true (sV a) (.int .u64 (.ofNat n)) es fun es'=>h.turnk b (.ob (.mp es' (Nat.succ c))) fun h'=>q .skip h') fun es'=>h.turnk b (.ob (.mp es' c)) fun h'=>q .skip h') = _
   rw [Heap.getk_eq,h1]
   show repm (eqS a.length (packN a)) _ _ E _ _ = _
   rw [repm_no (fun m hm=>by obtain ⟨x,hx,rfl⟩:=hE m hm; exact ⟨x,rfl,fun e=>hn x hx (sV_inj (h3 x hx) ha e)⟩),e1,Heap.turnk_eq]
 · refine e2.trans (((h2.cons _)).trans ?_)
   rw [List.map_append]
   exact (List.perm_append_singleton _ _).symm
 · intro x hx
   rcases List.mem_append.1 hx with hx | hx
   · exact h3 x hx
   · simp at hx; subst hx; exact ha
 · rw [List.map_append,List.nodup_append]
   refine ⟨h4,by simp,fun x hx y hy=>?_⟩
   obtain ⟨z,hz,rfl⟩:=List.mem_map.1 hx
   simp at hy; subst hy
   exact hn z hz
theorem mkm_law (h : Heap) : ∃ h',(∀ q : V→Heap→Res,words.ex .mkm [] h q = q (.map h.nx) h')∧MapIs h' h.nx []∧Up h h'∧h'.nx.val = h.nx.val + 1:=by
 obtain ⟨h',e,r,u⟩:=newk_law h (.ob (.mp [] 0))
 exact ⟨h',fun q=>e fun b h'=>q (.map b) h',⟨⟨[],0,r,.refl _⟩,by simp,by simp⟩,u.up,by rw [u.nx,Bid.nxt_val]⟩
end Go.Ev

/- InternBack: the table, as it lies in the memory; what only asks it. -/
namespace Go.Ev.WIB
open Go.Proofs
set_option maxRecDepth 100000
structure Sh where
 kind : Nat
 fields : List Nat
 cases : List (List Nat)
structure Th where
 shape : Nat
 branch : Nat
 text : List Nat
 parts : List Nat
 deep : Nat
abbrev iT (n : Nat) : List Tr:=[.i .i64 (.ofNat n)]
abbrev wT (n : Nat) : List Tr:=[.i .u64 (.ofNat n)]
def shT (s : Sh) : List Tr:=[.i .u8 (.ofNat s.kind),.sl 1 (s.fields.map iT),.sl 1 (s.cases.map fun c=>[.sl 1 (c.map iT)])]
def thC (t : Th) (v : V) : List V:=[I (.ofNat t.shape),I (.ofNat t.branch),sV t.text,v,I (.ofNat t.deep)]
def thCs (L : List Th) (pv : List V) : List V:=(List.zipWith thC L pv).flatten
theorem thCs_len : ∀ {L : List Th} {pv : List V},pv.length = L.length→(thCs L pv).length = L.length * 5
 | [],[],_=>rfl
 | t :: L,v :: pv,h=>by
   have:=thCs_len (L:=L) (pv:=pv) (by simpa using h)
   simp only [thCs,List.zipWith_cons_cons,List.flatten_cons,List.length_append,List.length_cons] at this ⊢
   rw [this]
   simp [thC]; omega
 | [],_ :: _,h=>by simp at h
 | _ :: _,[],h=>by simp at h
theorem thCs_app {L : List Th} {pv : List V} (h : pv.length = L.length) (t : Th) (v : V) : thCs (L ++ [t]) (pv ++ [v]) = thCs L pv ++ thC t v:=by
 rw [thCs,thCs,List.zipWith_append (by omega),List.flatten_append]
 simp
theorem thCs_drop : ∀ {L : List Th} {pv : List V},pv.length = L.length→∀ {i : Nat} {t : Th} {v : V},L[i]? = some t→pv[i]? = some v→((thCs L pv).drop (i * 5)).take 5 = thC t v
 | t :: L,v :: pv,h,0,t',v',h1,h2=>by
   simp at h1 h2; subst h1; subst h2
   simp [thCs,thC]
 | t :: L,v :: pv,h,i + 1,t',v',h1,h2=>by
   have:=thCs_drop (L:=L) (pv:=pv) (by simpa using h) (i:=i) (by simpa using h1) (by simpa using h2)
   rw [← this]
   simp only [thCs,List.zipWith_cons_cons,List.flatten_cons]
   rw [show (i + 1) * 5 = (thC t v).length + i * 5 by simp [thC]; omega,List.drop_append,List.drop_eq_nil_of_le (by omega),List.nil_append,Nat.add_sub_cancel_left]
 | [],_,_,_,_,_,h1,_=>by simp at h1
 | _ :: _,[],h,_,_,_,_,_=>by simp at h
def idxsF (s : Nat) : Nat→List Th→List Nat
 | _,[]=>[]
 | k,t :: r=>if t.shape = s then k :: idxsF s (k + 1) r else idxsF s (k + 1) r
def idxs (L : List Th) (s : Nat) : List Nat:=idxsF s 0 L
theorem idxsF_app (s : Nat) : ∀ (k : Nat) (a b : List Th),idxsF s k (a ++ b) = idxsF s k a ++ idxsF s (k + a.length) b
 | k,[],b=>by simp [idxsF]
 | k,t :: a,b=>by
   rw [List.cons_append,idxsF,idxsF,idxsF_app s (k + 1) a b,List.length_cons,show k + 1 + a.length = k + (a.length + 1) by omega]
   split <;> rfl
theorem idxs_app (L : List Th) (t : Th) (s : Nat) : idxs (L ++ [t]) s = idxs L s ++ if t.shape = s then [L.length] else []:=by
 rw [idxs,idxsF_app,Nat.zero_add]
 rfl
theorem idxsF_mem {s : Nat} : ∀ {k : Nat} {L : List Th} {i : Nat},i ∈ idxsF s k L→k ≤ i∧∃ t,L[i - k]? = some t∧t.shape = s
 | k,[],i,h=>by simp [idxsF] at h
 | k,t :: L,i,h=>by
   rw [idxsF] at h
   split at h
   · rcases List.mem_cons.1 h with rfl | h
     · exact ⟨Nat.le_refl _,t,by simp,by assumption⟩
     · obtain ⟨h1,t',h2,h3⟩:=idxsF_mem h
       exact ⟨by omega,t',by rw [show i - k = (i - (k + 1)) + 1 by omega]; simpa using h2,h3⟩
   · obtain ⟨h1,t',h2,h3⟩:=idxsF_mem h
     exact ⟨by omega,t',by rw [show i - k = (i - (k + 1)) + 1 by omega]; simpa using h2,h3⟩
theorem idxs_mem {s i : Nat} {L : List Th} (h : i ∈ idxs L s) : ∃ t,L[i]? = some t∧t.shape = s:=by
 obtain ⟨_,t,h1,h2⟩:=idxsF_mem h
 exact ⟨t,by simpa using h1,h2⟩
theorem idxs_le (L : List Th) (s : Nat) : (idxs L s).length ≤ L.length:=by
 have : ∀ (k : Nat) (L : List Th),(idxsF s k L).length ≤ L.length:=by
  intro k L
  induction L generalizing k with
  | nil=>simp [idxsF]
  | cons t L ih=>
    rw [idxsF]
    have:=ih (k + 1)
    split <;> simp <;> omega
 exact this 0 L
abbrev cnt (L : List Th) (s : Nat) : Nat:=(idxs L s).length
def shortB (n : Nat) : List Nat:=if h : n < 128 then [n] else (n % 128 + 128) :: shortB (n / 128)
termination_by n
decreasing_by omega
theorem shortB_bytes (n : Nat) : Bytes (shortB n):=by
 induction n using Nat.strongRecOn with
 | ind n ih=>
   rw [shortB]
   split
   · exact .cons (by omega) .nil
   · exact .cons (by omega) (ih _ (by omega))
def keyB (t : Th) : List Nat:=shortB t.shape ++ shortB t.branch ++ t.parts.flatMap shortB ++ t.text
def kindOf (sh : List Sh) (s : Nat) : Nat:=match sh[s]? with | some x=>x.kind | none=>0
def fst0 (sh : List Sh) (s : Nat) : Nat:=if kindOf sh s = 3 then 1 else 0
def mapF (sh : List Sh) (pre : List Th) : List Th→List (List Nat × Nat)
 | []=>[]
 | t :: r=>(keyB t,cnt pre t.shape + fst0 sh t.shape) :: mapF sh (pre ++ [t]) r
abbrev mapL (sh : List Sh) (L : List Th) : List (List Nat × Nat):=mapF sh [] L
theorem mapF_app (sh : List Sh) : ∀ (pre a b : List Th),mapF sh pre (a ++ b) = mapF sh pre a ++ mapF sh (pre ++ a) b
 | pre,[],b=>by simp [mapF]
 | pre,t :: a,b=>by
   rw [List.cons_append,mapF,mapF,mapF_app sh (pre ++ [t]) a b,List.cons_append,List.append_assoc]
   rfl
def SX (S X : Nat→Prop) (x : Nat) : Prop:=S x ∨ X x
theorem noX {h : Heap} {S X : Nat→Prop} {t : Tr} {v : V} (w : CellA h (Still h (SX S X)) t v) : CellA h (Still h S) t v:=w.mv (fun _ hx=>⟨hx.1,fun s=>hx.2 (.inl s)⟩) fun _ _=>rfl
structure TabX (h : Heap) (p bo bm : Bid) (c : Option Nat) (va vs : V) (cells pv : List V) (sh : List Sh) (L : List Th) (M : List (List Nat × Nat)) (S X : Nat→Prop) : Prop where
 row : Row (h.t.get p) 4 [va,.slice bo 0 cells.length c 1,vs,.map bm]
 of : Row (h.t.get bo) 1 cells
 len : cells.length = sh.length
 all : Hld h 5 va (thCs L pv)
 pl : pv.length = L.length
 parts : ∀ (i : Nat) (t : Th) (v : V),L[i]? = some t→pv[i]? = some v→CellA h (Still h (SX S X)) (.sl 1 (t.parts.map wT)) v
 idx : ∀ (s : Nat) (v : V),cells[s]? = some v→Hld h 1 v ((idxs L s).map fun i=>I (.ofNat i))
 map : MapIs h bm M
 shp : CellA h (Still h (SX S X)) (.sl 3 (sh.map shT)) vs
 xs : ∀ x,X x→x < h.nx.val∧¬ S x
 lt : p.val < h.nx.val∧bo.val < h.nx.val∧bm.val < h.nx.val
 ne : p.val ≠ bo.val∧p.val ≠ bm.val∧bo.val ≠ bm.val
 oa : Off va p.val∧Off va bo.val∧Off va bm.val
 oc : ∀ v ∈ cells,Off v p.val∧Off v bo.val∧Off v bm.val∧Apart va v
 occ : ∀ (s s' : Nat) (v v' : V),cells[s]? = some v→cells[s']? = some v'→s ≠ s'→Apart v v'
 mem : ∀ x,S x ↔ x = p.val ∨ x = bo.val ∨ x = bm.val ∨ ¬ Off va x ∨ ∃ v ∈ cells,¬ Off v x
def TabR (h : Heap) (p : Bid) (sh : List Sh) (L : List Th) (S X : Nat→Prop) : Prop:=∃ bo bm c va vs cells pv,TabX h p bo bm c va vs cells pv sh L (mapL sh L) S X
section
variable {h : Heap} {p bo bm : Bid} {c : Option Nat} {va vs : V} {cells pv : List V} {sh : List Sh} {L : List Th} {M : List (List Nat × Nat)} {S X : Nat→Prop}
theorem TabX.ld (w : TabX h p bo bm c va vs cells pv sh L M S X) : (∀ q : V→Res,words.load1 h p 0 q = q va)∧(∀ q : V→Res,words.load1 h p 1 q = q (.slice bo 0 cells.length c 1))∧(∀ q : V→Res,words.load1 h p 2 q = q vs)∧∀ q : V→Res,words.load1 h p 3 q = q (.map bm):=
 ⟨fun q=>load1k_law w.row rfl q,fun q=>load1k_law w.row rfl q,fun q=>load1k_law w.row rfl q,fun q=>load1k_law w.row rfl q⟩
theorem TabX.lts (w : TabX h p bo bm c va vs cells pv sh L M S X) {x : Nat} (hx : S x) : x < h.nx.val:=by
 obtain ⟨h1,h2,h3⟩:=w.lt
 rcases (w.mem x).1 hx with rfl | rfl | rfl | h4 | ⟨v,hv,h4⟩
 · exact h1
 · exact h2
 · exact h3
 · exact w.all.lt h4
 · obtain ⟨s,hs,e⟩:=List.getElem_of_mem hv
   exact (w.idx s v (by rw [List.getElem?_eq_getElem hs,e])).lt h4
theorem TabX.up (w : TabX h p bo bm c va vs cells pv sh L M S X) {h' : Heap} (u : Up h h') : TabX h' p bo bm c va vs cells pv sh L M S X where
 row:=by rw [u.get p w.lt.1]; exact w.row
 of:=by rw [u.get bo w.lt.2.1]; exact w.of
 len:=w.len
 all:=w.all.up u
 pl:=w.pl
 parts i t v h1 h2:=(w.parts i t v h1 h2).stay u fun x hx=>hx.elim w.lts fun h=>(w.xs x h).1
 idx s v hv:=(w.idx s v hv).up u
 map:=w.map.keep (u.get bm w.lt.2.2)
 shp:=w.shp.stay u fun x hx=>hx.elim w.lts fun h=>(w.xs x h).1
 xs x hx:=⟨Nat.lt_of_lt_of_le (w.xs x hx).1 u.nx,(w.xs x hx).2⟩
 lt:=by have:=u.nx; obtain ⟨h1,h2,h3⟩:=w.lt; omega
 ne:=w.ne
 oa:=w.oa
 oc:=w.oc
 occ:=w.occ
 mem:=w.mem
theorem TabR.up (w : TabR h p sh L S X) {h' : Heap} (u : Up h h') : TabR h' p sh L S X:=by
 obtain ⟨bo,bm,c,va,vs,cells,pv,w⟩:=w
 exact ⟨bo,bm,c,va,vs,cells,pv,w.up u⟩
theorem TabR.lts (w : TabR h p sh L S X) {x : Nat} (hx : S x) : x < h.nx.val:=by
 obtain ⟨bo,bm,c,va,vs,cells,pv,w⟩:=w
 exact w.lts hx
def kindI (sh : List Sh) (s : Int) : Nat:=match s with | .ofNat s=>kindOf sh s | .negSucc _=>0
theorem TabX.at_ (w : TabX h p bo bm c va vs cells pv sh L M S X) {s : Nat} (hs : s < sh.length) : ∃ b o m vf vc,vs = .slice b o sh.length m 3∧(∀ k,words.load1 h b (o + s * 3 + 0) k = k (.int .u8 (.ofNat sh[s].kind)))∧(∀ k,words.load1 h b (o + s * 3 + 1) k = k vf) ∧
 (∀ k,words.load1 h b (o + s * 3 + 2) k = k vc)∧CellA h (Still h (SX S X)) (.sl 1 (sh[s].fields.map iT)) vf∧CellA h (Still h (SX S X)) (.sl 1 (sh[s].cases.map fun c=>[.sl 1 (c.map iT)])) vc:=by
 obtain ⟨b,o,m,l,e,r,_,_,_,ld⟩:=w.shp.row (i:=s) (by simpa using hs)
 rw [List.getElem_map,shT] at r
 obtain ⟨v0,vf,vc,rfl,r0,r1,r2⟩:=r.inv3
 obtain rfl:=r0.int_inv
 exact ⟨b,o,m,vf,vc,by rw [e,List.length_map],ld 0 _ rfl,ld 1 _ rfl,ld 2 _ rfl,r1,r2⟩
variable {n d : Nat}
theorem TabX.kind (w : TabX h p bo bm c va vs cells pv sh L M S X) (s : Int) : call tabW n (d + 1) f25 [.ptr p 0,.int .i64 s] h = .ret (.int .u8 (.ofNat (kindI sh s))) h:=by
 obtain ⟨_,_,l2,_⟩:=w.ld
 have ln : ∀ k : Nat→Res,lenk vs k = k sh.length:=fun k=>by rw [w.shp.lenk,List.length_map]
 rw [call25]
 cases s with
 | negSucc s=>
   have n1 : ilt (.negSucc s) (.ofNat 0) = true:=rfl
   simp -implicitDefEqProofs only [sh25,↓n1,↓kindI,↓evR]
 | ofNat s=>
   have n1 : ilt (.ofNat s) (.ofNat 0) = false:=ilt_false (by omega)
   by_cases hs : s < sh.length
   · obtain ⟨b,o,m,vf,vc,rfl,k0,_⟩:=w.at_ hs
     have n2:=ilt_true hs
     have n3 : Nat.blt s sh.length = true:=blt_of hs
     have k0' : ∀ k,words.load1 h b (Nat.add o (Nat.mul s 3)) k = k (.int .u8 (.ofNat sh[s].kind)):=k0
     have e : kindI sh (.ofNat s) = sh[s].kind:=by simp [kindI,kindOf,List.getElem?_eq_getElem hs]
     simp -implicitDefEqProofs only [sh25,↓n1,↓n2,↓n3,↓l2,↓ln,↓k0',↓e,↓evR]
   · have n2:=ilt_false hs
     have e : kindI sh (.ofNat s) = 0:=by simp [kindI,kindOf,List.getElem?_eq_none (Nat.not_lt.1 hs)]
     simp -implicitDefEqProofs only [sh25,↓n1,↓n2,↓l2,↓ln,↓e,↓evR]
def wantOf (sh : List Sh) (s : Nat) (b : Int) : Option (List Nat):=
 match sh[s]? with
 | some x=>if x.kind = 3 then (if b = 0 then some x.fields else none) else if x.kind = 4 then (match b with | .ofNat b=>x.cases[b]? | .negSucc _=>none) else none
 | none=>none
theorem TabX.want_up (w : TabX h p bo bm c va vs cells pv sh L M S X) {h' : Heap} (u : Up h h') {s : Nat} {b : Int} {l : List Nat} (hw : wantOf sh s b = some l) :
 ∃ v,call tabW n (d + 1 + 1) f28 [.ptr p 0,I (.ofNat s),.int .i64 b] h' = .ret (.tup [v,.bool true]) h'∧CellA h (Still h (SX S X)) (.sl 1 (l.map iT)) v:=by
 have hs : s < sh.length:=by
  by_cases hs : s < sh.length
  · exact hs
  · simp [wantOf,List.getElem?_eq_none (Nat.not_lt.1 hs)] at hw
 obtain ⟨_,_,l2,_⟩:=(w.up u).ld
 have ek:=(w.up u).kind (n:=n) (d:=d) (.ofNat s)
 have e : kindI sh (.ofNat s) = sh[s].kind:=by simp [kindI,kindOf,List.getElem?_eq_getElem hs]
 rw [e] at ek
 obtain ⟨b',o,m,vf,vc,rfl,k0,k1,k2,r1,r2⟩:=w.at_ hs
 have n3 : Nat.blt s sh.length = true:=blt_of hs
 have hb' : b'.val < h.nx.val:=w.shp.bid.1
 have k1' : ∀ k,words.load1 h' b' (Nat.add (Nat.add o (Nat.mul s 3)) 1) k = k vf:=fun k=>(u.ld hb' k).trans (k1 k)
 have k2' : ∀ k,words.load1 h' b' (Nat.add (Nat.add o (Nat.mul s 3)) 2) k = k vc:=fun k=>(u.ld hb' k).trans (k2 k)
 simp only [wantOf,List.getElem?_eq_getElem hs] at hw
 rw [call28]
 by_cases h3 : sh[s].kind = 3
 · rw [if_pos h3] at hw
   split at hw
   · rename_i hb
     subst hb
     cases hw
     rw [h3] at ek
     refine ⟨vf,?_,r1⟩
     have n4 : ieq (.ofNat 3) (.ofNat 3) = true:=rfl
     have n5 : ieq 0 (.ofNat 0) = true:=rfl
     simp -implicitDefEqProofs only [sh28,↓ek,↓l2,↓n3,↓k1',↓n4,↓n5,↓evR]
   · cases hw
 · rw [if_neg h3] at hw
   split at hw
   · rename_i h4
     rw [h4] at ek
     have n4 : ieq (.ofNat 4) (.ofNat 3) = false:=rfl
     have n5 : ieq (.ofNat 4) (.ofNat 4) = true:=rfl
     cases b with
     | negSucc b=>cases hw
     | ofNat b=>
       obtain ⟨hb,hl⟩:=List.getElem?_eq_some_iff.1 hw
       obtain ⟨b2,o2,m2,l2',e2,r,_,_,_,ld2⟩:=r2.row (i:=b) (by simpa using hb)
       rw [List.getElem_map] at r
       obtain ⟨v,rfl,r0⟩:=r.inv1
       rw [hl] at r0
       refine ⟨v,?_,r0⟩
       have ln : ∀ k : Nat→Res,lenk vc k = k sh[s].cases.length:=fun k=>by rw [r2.lenk,List.length_map]
       rw [List.length_map] at e2
       have n6 : ilt (.ofNat b) (.ofNat 0) = false:=ilt_false (by omega)
       have n7:=ilt_true hb
       have n8 : Nat.blt b sh[s].cases.length = true:=blt_of hb
       subst e2
       have hb2 : b2.val < h.nx.val:=r2.bid.1
       have ld2' : ∀ k,words.load1 h' b2 (Nat.add o2 b) k = k v:=fun k=>by
        have:=ld2 0 v rfl k
        rw [Nat.mul_one,Nat.add_zero] at this
        exact (u.ld hb2 k).trans this
       simp -implicitDefEqProofs only [sh28,↓ek,↓l2,↓n3,↓k2',↓n4,↓n5,↓n6,↓n7,↓n8,↓ln,↓ld2',↓evR]
   · cases hw
theorem TabX.want (w : TabX h p bo bm c va vs cells pv sh L M S X) {s : Nat} {b : Int} {l : List Nat} (hw : wantOf sh s b = some l) :
 ∃ v,call tabW n (d + 1 + 1) f28 [.ptr p 0,I (.ofNat s),.int .i64 b] h = .ret (.tup [v,.bool true]) h∧CellA h (Still h (SX S X)) (.sl 1 (l.map iT)) v:=w.want_up (.refl h) hw
end
end Go.Ev.WIB

/- InternBack: counts, places, what a word is; short numbers and keys. -/
namespace Go.Ev.WIB
open Go.Proofs
set_option maxRecDepth 100000
theorem wrapv_u8 (m : Nat) : wrapv .u8 (.ofNat m) = .ofNat (m % 256):=by
 rw [wrapv_eq]
 show ((m : Int) % (2 ^ 8 : Int)) = ((m % 256 : Nat) : Int)
 omega
theorem u64_small {m : Nat} (h : m < 18446744073709551616) : wrapv .u64 (.ofNat m) = .ofNat m:=wrapv_small .u64 m (by show m ≤ 18446744073709551615; omega)
theorem orb (m : Nat) : bor .u8 (wrapv .u8 (.ofNat m)) (.ofNat 128) = .ofNat (m % 128 + 128):=by
 rw [wrapv_u8,bor_small .u8 _ _ (by show _ ≤ 255; omega) (by show _ ≤ 255; omega)]
 congr 1
 have h : ∀ x : Fin 256,(x.val ||| 128) = x.val % 128 + 128:=by decide +kernel
 have:=h ⟨m % 256,by omega⟩
 simp only at this
 rw [this]; omega
theorem bytesk_law {bs : List Nat} (h : Bytes bs) (k : List V→Res) : bytesk bs.length (packN bs) k = k (bs.map bV):=by
 induction bs generalizing k with
 | nil=>rfl
 | cons b bs ih=>
   have hb:=h.head
   have e1 : packN (b :: bs) % 256 = b:=by simp only [packN]; omega
   have e2 : packN (b :: bs) / 256 = packN bs:=by simp only [packN]; omega
   show bytesk bs.length (Nat.div (packN (b :: bs)) 256) (fun m=>k (.int .u8 (.ofNat (Nat.mod (packN (b :: bs)) 256)) :: m)) = _
   rw [show Nat.mod (packN (b :: bs)) 256 = b from e1,show Nat.div (packN (b :: bs)) 256 = packN bs from e2,ih h.tail]
   rfl
section
variable {h : Heap} {p bo bm : Bid} {c : Option Nat} {va vs : V} {cells pv : List V} {sh : List Sh} {L : List Th} {M : List (List Nat × Nat)} {S X : Nat→Prop} {n d : Nat}
theorem one_isS {h : Heap} {b : Bid} {x : V} (r : Row (h.t.get b) 1 [x]) : IsS h (.slice b 0 1 (.some 1) 1) [x]:=
 .sl b 0 (some 1) false [x] [x] r (by simp) rfl (fun n hn=>by cases hn; simp)
theorem short_loop {lo : Nat} : ∀ (j m : Nat) {q : Nat} {h : Heap} {v : V} {l : List Nat},m < 128 ^ (j + 1)→j < q→Own h lo v (l.map bV)→lo ≤ h.nx.val→l.length + j + 1 ≤ 16777216 →
 ∃ h' v' l' m',lpk (b36_1 words n (call tabW n d)) q [v,.int .u64 (.ofNat m)] h = .done .normal [v',.int .u64 (.ofNat m')] h'∧m' < 128∧Own h' lo v' (l'.map bV)∧l' ++ [m'] = l ++ shortB m∧UpTo lo h h'∧l'.length ≤ l.length + j
 | j,m,0,_,_,_,_,h0,_,_,_=>absurd h0 (Nat.not_lt_zero _)
 | j,m,q + 1,h,v,l,hm,hj,w,hlo,hs=>by
   rw [lpk_succ]
   by_cases h1 : m < 128
   · have n1:=ilt_true h1
     refine ⟨h,v,l,m,?_,h1,w,?_,.refl _ _,by omega⟩
     · simp -implicitDefEqProofs only [b36_1,↓n1,↓evR]
     · rw [shortB,dif_pos h1]
   · have n1:=ilt_false h1
     have n2:=orb m
     obtain ⟨h2,e2,r2,U2,lt2⟩:=new_row h (g:=1) (l:=[.int .u8 (.ofNat (m % 128 + 128))]) rfl (by omega)
     have e2' : ∀ q,words.new h (.arr 1 1 (.lf [.int .u8 (.ofNat (m % 128 + 128))]) .false) q = q h.nx h2:=e2
     have r1 : ∀ q,words.row 1 1 [.int .u8 (.ofNat (m % 128 + 128))] q = q (.lf [.int .u8 (.ofNat (m % 128 + 128))]):=fun q=>row_one (g:=1) rfl q
     obtain ⟨h3,v3,e3,w3,U3⟩:=app_own (w.up U2) (one_isS r2) (Nat.le_trans hlo U2.nx) (by rw [List.length_map,List.length_singleton]; omega)
     obtain ⟨j,rfl⟩ : ∃ j',j = j' + 1:=by
      cases j with
      | zero=>simp at hm; omega
      | succ j=>exact ⟨j,rfl⟩
     have n3 : shrv (.ofNat m) 128 = .ofNat (m / 128):=shrv_nat m 128
     obtain ⟨h4,v4,l4,m4,e4,i4,w4,j4,U4,k4⟩:=short_loop j (m / 128) (q:=q) (h:=h3) (v:=v3) (l:=l ++ [m % 128 + 128]) (by rw [Nat.pow_succ] at hm; omega) (by omega) (by rw [List.map_append]; exact w3) (Nat.le_trans (Nat.le_trans hlo U2.nx) U3.nx) (by rw [List.length_append,List.length_singleton]; omega)
     refine ⟨h4,v4,l4,m4,?_,i4,w4,?_,((U2.to hlo).trans U3).trans U4,by rw [List.length_append,List.length_singleton] at k4; omega⟩
     · simp -implicitDefEqProofs only [b36_1,↓n1,↓n2,↓r1,↓e2',↓e3,↓n3,↓e4,↓evR]
     · rw [j4,shortB.eq_def m,dif_neg h1,List.append_assoc]
       rfl
theorem short_own {lo m : Nat} {v : V} {l : List Nat} (hn : 10 ≤ n) (hm : m < 18446744073709551616) (w : Own h lo v (l.map bV)) (hlo : lo ≤ h.nx.val) (hs : l.length + 20 ≤ 16777216) :
 ∃ h' v',call tabW n (d + 1) f36 [v,.int .u64 (.ofNat m)] h = .ret v' h'∧Own h' lo v' ((l ++ shortB m).map bV)∧UpTo lo h h':=by
 obtain ⟨h1,v1,l1,m1,e1,i1,w1,k1,U1,j1⟩:=short_loop (n:=n) (d:=d) 9 m (q:=n) (by omega) (by omega) w hlo (by omega)
 have n2 : wrapv .u8 (.ofNat m1) = .ofNat m1:=by rw [wrapv_u8,Nat.mod_eq_of_lt (by omega)]
 obtain ⟨h2,e2,r2,U2,lt2⟩:=new_row h1 (g:=1) (l:=[.int .u8 (.ofNat m1)]) rfl (by omega)
 have e2' : ∀ q,words.new h1 (.arr 1 1 (.lf [.int .u8 (.ofNat m1)]) .false) q = q h1.nx h2:=e2
 have r1 : ∀ q,words.row 1 1 [.int .u8 (.ofNat m1)] q = q (.lf [.int .u8 (.ofNat m1)]):=fun q=>row_one (g:=1) rfl q
 have lo1:=Nat.le_trans hlo U1.nx
 obtain ⟨h3,v3,e3,w3,U3⟩:=app_own (w1.up U2) (one_isS r2) (Nat.le_trans lo1 U2.nx) (by rw [List.length_map,List.length_singleton]; omega)
 refine ⟨h3,v3,?_,?_,(U1.trans (U2.to lo1)).trans U3⟩
 · rw [call36]
   simp -implicitDefEqProofs only [sh36,↓e1,↓n2,↓r1,↓e2',↓e3,↓evR]
 · rw [← k1,List.map_append]
   exact w3
theorem shortB_len : ∀ (j m : Nat),m < 128 ^ (j + 1)→(shortB m).length ≤ j + 1
 | j,m,h=>by
   rw [shortB]
   split
   · simp
   · cases j with
     | zero=>simp at h; omega
     | succ j=>
       have:=shortB_len j (m / 128) (by rw [Nat.pow_succ] at h; omega)
       simp; omega
theorem shortB_len10 {m : Nat} (h : m < 18446744073709551616) : (shortB m).length ≤ 10:=shortB_len 9 m (by omega)
theorem flat_len : ∀ (l : List Nat),(∀ w ∈ l,w < 18446744073709551616)→(l.flatMap shortB).length ≤ l.length * 10
 | [],_=>by simp
 | w :: l,h=>by
   have h1:=shortB_len10 (h w (by simp))
   have h2:=flat_len l fun x hx=>h x (by simp [hx])
   rw [List.flatMap_cons,List.length_append,List.length_cons]
   omega
theorem key_loop {lo : Nat} {b0 : Bid} {hs : Heap} {parts : List Nat} {v6 : V} (hp : ∀ w ∈ parts,w < 18446744073709551616) (hpl : parts.length ≤ 4611686018427387904) (hlo : lo ≤ hs.nx.val) (A : Nat→Prop) (hA : ∀ x,A x→x < lo) (w : CellA hs A (.sl 1 (parts.map wT)) v6) (hn : 10 ≤ n) :
 ∀ (j : Nat) {i q : Nat} {h : Heap} {v : V} {l : List Nat},i + j = parts.length→j < q→UpTo lo hs h→Own h lo v (l.map bV)→l.length + j * 10 + 20 ≤ 16777216 →
  ∃ h' v',lpk (b23_1 words n (call tabW n (d + 1))) q [.ptr b0 0,v,v6,I (.ofNat parts.length),I (.ofNat i)] h = .done .normal [.ptr b0 0,v'] h'∧Own h' lo v' ((l ++ (parts.drop i).flatMap shortB).map bV)∧UpTo lo h h'
 | 0,i,0,_,_,_,_,h0,_,_,_=>absurd h0 (Nat.lt_irrefl _)
 | 0,i,q + 1,h,v,l,hi,_,U,W,hs'=>by
   have n1 : ilt (.ofNat i) (.ofNat parts.length) = false:=ilt_false (by omega)
   refine ⟨h,v,?_,?_,.refl _ _⟩
   · rw [lpk_succ]
     simp -implicitDefEqProofs only [b23_1,↓n1,↓evR]
   · rw [List.drop_eq_nil_of_le (by omega)]; simpa using W
 | j + 1,i,0,_,_,_,_,h0,_,_,_=>absurd h0 (Nat.not_lt_zero _)
 | j + 1,i,q + 1,h,v,l,hi,hq,U,W,hs'=>by
   have hil : i < parts.length:=by omega
   have n1:=ilt_true hil
   have wh : CellA h A (.sl 1 (parts.map wT)) v6:=w.mv (fun _ hx=>hx) fun b hb=>U.get b (hA _ hb)
   obtain ⟨b,o,m,l',e,r,_,_,_,ld⟩:=wh.row (i:=i) (by simpa using hil)
   rw [List.getElem_map] at r
   obtain ⟨v0,rfl,r0⟩:=r.inv1
   obtain rfl:=r0.int_inv
   rw [List.length_map] at e
   have l1 : ∀ k : V→Res,words.load1 h b (Nat.add o i) k = k (.int .u64 (.ofNat parts[i])):=fun k=>by
    have:=ld 0 _ rfl k
    rw [Nat.mul_one,Nat.add_zero] at this
    exact this
   have n2 : Nat.blt i parts.length = true:=blt_of hil
   have n3:=ad_nat (a:=i) (b:=1) (by omega)
   have hlo':=Nat.le_trans hlo U.nx
   obtain ⟨h1,v1,e1,W1,U1⟩:=short_own (n:=n) (d:=d) hn (hp _ (List.getElem_mem hil)) W hlo' (by omega)
   have hlen:=shortB_len10 (hp _ (List.getElem_mem hil))
   obtain ⟨h2,v2,e2,W2,U2⟩:=key_loop (b0:=b0) hp hpl hlo A hA w hn j (i:=i + 1) (q:=q) (by omega) (by omega) (U.trans U1) W1 (by rw [List.length_append]; omega)
   refine ⟨h2,v2,?_,?_,U1.trans U2⟩
   · rw [lpk_succ]
     subst e
     simp -implicitDefEqProofs only [b23_1,↓n1,↓n2,↓l1,↓e1,↓n3,↓e2,↓evR]
   · rw [List.drop_eq_getElem_cons hil,List.flatMap_cons,← List.append_assoc]
     exact W2
theorem keyB_bytes {t : Th} (h : Bytes t.text) : Bytes (keyB t):=by
 refine ((((shortB_bytes _).append (shortB_bytes _)).append ?_)).append h
 intro x hx
 obtain ⟨w,_,hw⟩:=List.mem_flatMap.1 hx
 exact shortB_bytes w x hw
structure ThOk (t : Th) : Prop where
 shape : t.shape < 4611686018427387904
 branch : t.branch < 4611686018427387904
 parts : ∀ w ∈ t.parts,w < 18446744073709551616
 text : Bytes t.text
 size : t.text.length + t.parts.length * 10 ≤ 16000000
theorem key_law {A : Nat→Prop} {t : Th} {v : V} (ok : ThOk t) (hA : ∀ x,A x→x < h.nx.val) (w : CellA h A (.sl 1 (t.parts.map wT)) v) (hn : 10 ≤ n) (hn2 : t.parts.length < n) :
 ∃ h',call tabW n (d + 1 + 1) f23 [.agg 5 (thC t v)] h = .ret (sV (keyB t)) h'∧Up h h':=by
 obtain ⟨h0,e0,r0,U0,lt0⟩:=new_row h (g:=5) (l:=thC t v) rfl (by omega)
 have e0' : ∀ q,words.new h (.arr 5 1 (.lf (thC t v)) .false) q = q h.nx h0:=e0
 obtain ⟨h1,v1,e1,w1,U1⟩:=short_own (n:=n) (d:=d) (lo:=h0.nx.val) (h:=h0) (v:=.nils) (l:=[]) hn (show t.shape < 18446744073709551616 by have:=ok.shape; omega) .nils (Nat.le_refl _) (by simp)
 obtain ⟨h2,v2,e2,w2,U2⟩:=short_own (n:=n) (d:=d) (lo:=h0.nx.val) (h:=h1) hn (show t.branch < 18446744073709551616 by have:=ok.branch; omega) w1 U1.nx (by have:=shortB_len10 (show t.shape < 18446744073709551616 by have:=ok.shape; omega); simp; omega)
 have U02:=U1.trans U2
 have r0' : ∀ {h' : Heap},UpTo h0.nx.val h0 h'→Row (h'.t.get h.nx) 5 (thC t v):=fun {h'} U=>by rw [U.get _ lt0]; exact r0
 have wv : CellA h2 A (.sl 1 (t.parts.map wT)) v:=(w.mv (fun _ hx=>hx) fun b hb=>(U0.get b (hA _ hb))).mv (fun _ hx=>hx) fun b hb=>U02.get b (Nat.lt_of_lt_of_le (hA _ hb) U0.nx)
 have hA' : ∀ x,A x→x < h0.nx.val:=fun x hx=>Nat.lt_of_lt_of_le (hA x hx) U0.nx
 have s1:=shortB_len10 (show t.shape < 18446744073709551616 by have:=ok.shape; omega)
 have s2:=shortB_len10 (show t.branch < 18446744073709551616 by have:=ok.branch; omega)
 have hsz:=ok.size
 obtain ⟨h3,v3,e3,w3,U3⟩:=key_loop (d:=d) (n:=n) (b0:=h.nx) (lo:=h0.nx.val) (hs:=h2) ok.parts (by omega) U02.nx A hA' wv hn t.parts.length (i:=0) (q:=n) (by omega) hn2 (.refl _ _) w2 (by simp only [List.length_append,List.nil_append]; omega)
 rw [List.drop_zero] at w3
 have fl:=flat_len t.parts ok.parts
 obtain ⟨h4,v4,e4,w4,U4⟩:=appendk_own w3 (new:=t.text.map bV) (Nat.le_trans U02.nx U3.nx) (by simp only [List.length_map,List.length_append,List.nil_append]; omega)
 have e4' : ∀ q : V→Heap→Res,words.appS v3 (.str t.text.length (packN t.text)) h3 q = q v4 h4:=fun q=>by
  show bytesk t.text.length (packN t.text) (fun cs=>appendk 1 v3 t.text.length cs h3 q) = _
  rw [bytesk_law ok.text]
  have:=e4 q
  rw [List.length_map] at this
  exact this
 have w5 : IsS h4 v4 ((keyB t).map bV):=by
  have:=w4.isS
  rw [← List.map_append] at this
  simpa [keyB] using this
 have e5 : ∀ q : V→Heap→Res,words.bytesS v4 h4 q = q (sV (keyB t)) h4:=fun q=>bytesS_law w5 (keyB_bytes ok.text) q
 have c0 : ∀ q : V→Res,words.load1 h0 h.nx 0 q = q (I (.ofNat t.shape)):=fun q=>load1k_law r0 rfl q
 have c1 : ∀ q : V→Res,words.load1 h1 h.nx 1 q = q (I (.ofNat t.branch)):=fun q=>load1k_law (r0' U1) rfl q
 have c3 : ∀ q : V→Res,words.load1 h2 h.nx 3 q = q v:=fun q=>load1k_law (r0' U02) rfl q
 have c2 : ∀ q : V→Res,words.load1 h3 h.nx 2 q = q (.str t.text.length (packN t.text)):=fun q=>load1k_law (r0' (U02.trans U3)) rfl q
 have n1 : wrapv .u64 (.ofNat t.shape) = .ofNat t.shape:=u64_small (by have:=ok.shape; omega)
 have n2 : wrapv .u64 (.ofNat t.branch) = .ofNat t.branch:=u64_small (by have:=ok.branch; omega)
 have ln : ∀ k : Nat→Res,lenk v k = k t.parts.length:=fun k=>by rw [w.lenk,List.length_map]
 refine ⟨h4,?_,U0.trans ((U02.trans U3).trans U4).up⟩
 rw [call23]
 have ec:=castS_sV (keyB t)
 simp -implicitDefEqProofs only [sh23,↓e0',↓c0,↓n1,↓e1,↓c1,↓n2,↓e2,↓c3,↓ln,↓e3,↓c2,↓e4',↓e5,↓ec,↓evR]
 rfl
theorem TabX.count (w : TabX h p bo bm c va vs cells pv sh L M S X) {s : Nat} (hs : s < sh.length) : call tabW n (d + 1) f45 [.ptr p 0,I (.ofNat s)] h = .ret (I (.ofNat (cnt L s))) h:=by
 obtain ⟨_,l1,_,_⟩:=w.ld
 have hc : s < cells.length:=by rw [w.len]; exact hs
 have n1 : Nat.blt s cells.length = true:=blt_of hc
 have l2 : ∀ q : V→Res,words.load1 h bo (Nat.add 0 s) q = q cells[s]:=fun q=>by
  show load1k h bo (0 + s) q = _
  rw [Nat.zero_add]
  exact load1k_law w.of (List.getElem?_eq_getElem hc) q
 have wi:=w.idx s cells[s] (List.getElem?_eq_getElem hc)
 have ln : ∀ k : Nat→Res,lenk cells[s] k = k (cnt L s):=fun k=>wi.len (by omega) (by rw [List.length_map,Nat.mul_one]) k
 rw [call45]
 simp -implicitDefEqProofs only [sh45,↓l1,↓n1,↓l2,↓ln,↓evR]
theorem kind_ge {s : Nat} (h : 1 ≤ kindOf sh s) : s < sh.length∧kindI sh (.ofNat s) = kindOf sh s:=by
 refine ⟨?_,rfl⟩
 by_cases hs : s < sh.length
 · exact hs
 · simp [kindOf,List.getElem?_eq_none (Nat.not_lt.1 hs)] at h
theorem TabX.place (w : TabX h p bo bm c va vs cells pv sh L M S X) {s k : Nat} (hk : kindOf sh s = 2 ∨ kindOf sh s = 3 ∨ kindOf sh s = 4) (hw : fst0 sh s ≤ k) (hk64 : k < 18446744073709551616) (hL : L.length ≤ 4611686018427387904) :
 call tabW n (d + 1 + 1) f26 [.ptr p 0,I (.ofNat s),.int .u64 (.ofNat k)] h = .ret (.tup [.int .u64 (.ofNat (k - fst0 sh s)),.bool (decide (k - fst0 sh s < cnt L s))]) h:=by
 obtain ⟨hs,ke⟩:=kind_ge (sh:=sh) (s:=s) (by omega)
 have ek:=w.kind (n:=n) (d:=d) (.ofNat s)
 rw [ke] at ek
 have ec:=w.count (n:=n) (d:=d) hs
 have hc : cnt L s ≤ L.length:=idxs_le L s
 have n1 : wrapv .u64 (.ofNat (cnt L s)) = .ofNat (cnt L s):=u64_small (by omega)
 rw [call26]
 rcases hk with hk | hk | hk
 · have f0 : fst0 sh s = 0:=by simp [fst0,hk]
   rw [hk] at ek
   have n2 : ieq (.ofNat 2) (.ofNat 3) = false:=rfl
   have n3 : ieq (.ofNat 2) (.ofNat 2) = true:=rfl
   have n4:=ilt_nat k (cnt L s)
   rw [f0,Nat.sub_zero]
   simp -implicitDefEqProofs only [sh26,↓ek,↓n2,↓n3,↓ec,↓n1,↓n4,↓evR]
 · have f0 : fst0 sh s = 1:=by simp [fst0,hk]
   rw [f0] at hw
   rw [hk] at ek
   have n3 : ieq (.ofNat 3) (.ofNat 3) = true:=rfl
   have n5 : wrapv .u64 (Int.sub (.ofNat k) (.ofNat 1)) = .ofNat (k - 1):=by
    have : Int.sub (.ofNat k) (.ofNat 1) = .ofNat (k - 1):=by
     show (k : Int) - 1 = ((k - 1 : Nat) : Int)
     omega
    rw [this]; exact u64_small (by omega)
   have n4:=ilt_nat (k - 1) (cnt L s)
   rw [f0]
   simp -implicitDefEqProofs only [sh26,↓ek,↓n3,↓n5,↓ec,↓n1,↓n4,↓evR]
 · have f0 : fst0 sh s = 0:=by simp [fst0,hk]
   rw [hk] at ek
   have n2 : ieq (.ofNat 4) (.ofNat 3) = false:=rfl
   have n3 : ieq (.ofNat 4) (.ofNat 2) = false:=rfl
   have n6 : ieq (.ofNat 4) (.ofNat 4) = true:=rfl
   have n4:=ilt_nat k (cnt L s)
   rw [f0,Nat.sub_zero]
   simp -implicitDefEqProofs only [sh26,↓ek,↓n2,↓n3,↓n6,↓ec,↓n1,↓n4,↓evR]
theorem TabX.get (w : TabX h p bo bm c va vs cells pv sh L M S X) {s i j : Nat} (hs : s < sh.length) (hi : (idxs L s)[i]? = some j) : ∃ t v b,L[j]? = some t∧pv[j]? = some v∧t.shape = s∧call tabW n (d + 1) f27 [.ptr p 0,I (.ofNat s),.int .u64 (.ofNat i)] h = .ret (.ptr b (Nat.add 0 (Nat.mul j 5))) h∧b.val < h.nx.val ∧
 ∀ (m : Nat) (x : V),m < 5→(thC t v)[m]? = some x→∀ k,words.load1 h b (Nat.add (Nat.add 0 (Nat.mul j 5)) m) k = k x:=by
 obtain ⟨t,ht,hts⟩:=idxs_mem (List.mem_of_getElem? hi)
 have hj:=(List.getElem?_eq_some_iff.1 ht).1
 have hjp : j < pv.length:=by rw [w.pl]; exact hj
 obtain ⟨l0,l1,_,_⟩:=w.ld
 have hc : s < cells.length:=by rw [w.len]; exact hs
 have n1 : Nat.blt s cells.length = true:=blt_of hc
 have l2 : ∀ q : V→Res,words.load1 h bo (Nat.add 0 s) q = q cells[s]:=fun q=>by
  show load1k h bo (0 + s) q = _
  rw [Nat.zero_add]
  exact load1k_law w.of (List.getElem?_eq_getElem hc) q
 have wi:=w.idx s cells[s] (List.getElem?_eq_getElem hc)
 have hil:=(List.getElem?_eq_some_iff.1 hi).1
 obtain ⟨b1,e1,_,_,ld1⟩:=wi.at_ (g:=1) (m:=cnt L s) (by omega) (by rw [List.length_map,Nat.mul_one]) hil
 have l3 : ∀ q : V→Res,words.load1 h b1 (Nat.add 0 i) q = q (I (.ofNat j)):=fun q=>by
  have:=ld1 0 (I (.ofNat j)) (by omega) (by rw [Nat.mul_one,Nat.add_zero,List.getElem?_map,hi]; rfl) q
  rw [Nat.mul_one,Nat.add_zero] at this
  show load1k h b1 (0 + i) q = _
  rw [Nat.zero_add]; exact this
 obtain ⟨b2,e2,hb2,_,ld2⟩:=w.all.at_ (g:=5) (m:=L.length) (by omega) (thCs_len w.pl) hj
 have n2 : Nat.blt i (cnt L s) = true:=blt_of hil
 have n3 : Nat.blt j L.length = true:=blt_of hj
 refine ⟨t,pv[j],b2,ht,List.getElem?_eq_getElem hjp,hts,?_,hb2,fun m x hm hx k=>?_⟩
 · rw [call27]
   rw [e1] at l2
   rw [e2] at l0
   simp -implicitDefEqProofs only [sh27,↓l0,↓l1,↓n1,↓l2,↓n2,↓l3,↓n3,↓evR]
 · have hd:=thCs_drop w.pl ht (List.getElem?_eq_getElem hjp)
   have:=ld2 m x hm (by
    rw [← hd,List.getElem?_take,if_pos hm,List.getElem?_drop] at hx
    exact hx) k
   show load1k h b2 (0 + j * 5 + m) k = _
   rw [Nat.zero_add]; exact this
end
end Go.Ev.WIB
