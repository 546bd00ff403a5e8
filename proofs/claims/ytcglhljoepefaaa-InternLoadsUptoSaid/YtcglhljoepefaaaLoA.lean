/- LoA: texts joined. -/
import Derived.Test.YtcglhljoepefaaaIbP
/- InternBack: New; the first loop. -/
namespace Go.Ev.WIB
open Go.Proofs
set_option maxRecDepth 100000
theorem raS_get {ras : List Ra} {s : Nat} {x : Sh} (h : (ras.map raS)[s]? = some x) : ∃ r,ras[s]? = some r∧x = raS r:=by
 rw [List.getElem?_map] at h
 obtain ⟨r,h1,h2⟩:=Option.map_eq_some_iff.1 h
 exact ⟨r,h1,h2.symm⟩
theorem shsOk {ras : List Ra} (h1 : 2 ≤ ras.length) (h2 : ras.length ≤ 258) (M : ∀ (k : Nat) (x : Ra),ras[k]? = some x→MayOk x k ras.length) : ShsOk (ras.map raS):=by
 have kd : ∀ {s : Nat} {r : Ra},ras[s]? = some r→kindOf (ras.map raS) s = r.kind:=fun {s r} hr=>by
  unfold kindOf
  rw [List.getElem?_map,hr]
  rfl
 have g : ∀ s,s < ras.length→∃ r,ras[s]? = some r:=fun s hs=>⟨_,List.getElem?_eq_getElem hs⟩
 refine ⟨by rw [List.length_map]; omega,?_,?_,?_,?_⟩
 · obtain ⟨r,hr⟩:=g 0 (by omega)
   rw [kd hr]
   exact ((M 0 r hr).1 (by omega)).1
 · obtain ⟨r,hr⟩:=g 1 (by omega)
   rw [kd hr]
   exact ((M 1 r hr).1 (by omega)).1
 · intro s hs2 hs
   obtain ⟨r,hr⟩:=g s (by rw [List.length_map] at hs; exact hs)
   rw [kd hr]
   exact ((M s r hr).2 hs2).imp (·.1) (·.1)
 · intro s b l hw
   unfold wantOf at hw
   split at hw
   · rename_i x hx
     obtain ⟨r,hr,rfl⟩:=raS_get hx
     have m:=M s r hr
     obtain ⟨nn1,nn2,len1,len2,len3⟩:=m.nn
     have pl : ∀ zs : List Int,Places ras.length zs→∀ a ∈ zs.map Int.toNat,a < (ras.map raS).length:=fun zs hp a ha=>by
      obtain ⟨z,hz,rfl⟩:=List.mem_map.1 ha
      have:=hp.2 z hz
      rw [List.length_map]
      omega
     split at hw
     · rename_i h3
       split at hw
       · rename_i hb
         cases hw
         refine ⟨by show (r.fields.map Int.toNat).length ≤ 12; rw [List.length_map]; exact len1,?_,by omega⟩
         show ∀ a ∈ r.fields.map Int.toNat,_
         by_cases hs : s < 2
         · rw [(m.1 hs).2.1]; simp
         · rcases m.2 (by omega) with ⟨_,_,h5⟩ | ⟨h4,_⟩
           · exact pl _ h5
           · have h3' : r.kind = 3:=h3
             omega
       · cases hw
     · split at hw
       · cases b with
         | negSucc b=>cases hw
         | ofNat b=>
           have hw' : (r.cases.map fun c=>c.map Int.toNat)[b]? = some l:=hw
           rw [List.getElem?_map] at hw'
           obtain ⟨cs,hc,rfl⟩:=Option.map_eq_some_iff.1 hw'
           have hbl:=(List.getElem?_eq_some_iff.1 hc).1
           have hcm:=List.mem_of_getElem? hc
           refine ⟨by rw [List.length_map]; exact len3 _ hcm,?_,by show (b : Int) ≤ 64; omega⟩
           by_cases hs : s < 2
           · rw [(m.1 hs).2.2] at hcm; simp at hcm
           · rcases m.2 (by omega) with ⟨_,h5,_⟩ | ⟨_,_,_,h5⟩
             · rw [h5] at hcm; simp at hcm
             · exact pl _ (h5.1 _ hcm)
       · cases hw
   · cases hw
section
variable {h : Heap} {n d : Nat}
theorem make_nils (h : Heap) {m : Nat} (hm : m ≤ 16777216) : ∃ h',(∀ q : V→Heap→Res,words.make 1 [.nils] (ik m) (ik m) h q = q (.slice h.nx 0 m (some m) 1) h')∧Row (h'.t.get h.nx) 1 (List.replicate m .nils)∧Up h h'∧h'.nx.val = h.nx.val + 1:=by
 obtain ⟨h',e,r,u⟩:=newk_law h (.arr 1 m (repT [.nils] m m) false)
 refine ⟨h',fun q=>?_,?_,u.up,by rw [u.nx,Bid.nxt_val]⟩
 · show ifk (Nat.ble m m) (ifk (Nat.ble m 16777216) (h.newk (.arr 1 m (repT [.nils] m m) false) fun bb h'=>q (.slice bb 0 m (some m) 1) h') .fail) .fail = _
   rw [ble_of (Nat.le_refl _),ifk_true,ble_of hm,ifk_true]
   exact e _
 · have:=Row.rep [V.nils] (by simp) m
   rw [r]
   have e : (List.replicate m [V.nils]).flatten = List.replicate m .nils:=by
    induction m with
    | zero=>rfl
    | succ m ih=>simp [List.replicate_succ]
   rw [e] at this
   exact this
def AllMay (ras : List Ra) : Prop:=2 ≤ ras.length∧ras.length ≤ 258∧∀ (k : Nat) (x : Ra),ras[k]? = some x→MayOk x k ras.length
theorem new_law {ras : List Ra} {v0 : V} (hn : 1000 ≤ n) (hl : ras.length ≤ 140737488351232) (w : CellA h (fun x=>x < h.nx.val) (.sl 3 (ras.map raT)) v0) (hk : ∀ x ∈ ras,x.kind < 256∧x.fields.length ≤ 140737488351232∧x.cases.length ≤ 140737488351232) :
 ∃ h',Up h h'∧(call tabW n (d + 1 + 1 + 1 + 1 + 1 + 1 + 1 + 1 + 1) f5 [v0] h = .ret .nilp h'∧¬ AllMay ras ∨
  ∃ p S,call tabW n (d + 1 + 1 + 1 + 1 + 1 + 1 + 1 + 1 + 1) f5 [v0] h = .ret (.ptr p 0) h'∧TabR h' p (ras.map raS) [] S (fun _=>False)∧ShsOk (ras.map raS)∧(∀ x,S x→h.nx.val ≤ x)∧AllMay ras):=by
 have ln : ∀ q : Nat→Res,lenk v0 q = q ras.length:=fun q=>by rw [w.lenk,List.length_map]
 have k3 : Nat.beq (kno .i64) 3 = true:=rfl
 by_cases h2 : ras.length < 2
 · have n1:=ilt_true h2
   refine ⟨h,.refl _,.inl ⟨?_,fun m=>absurd m.1 (by omega)⟩⟩
   rw [call5]
   simp -implicitDefEqProofs only [sh5,↓ln,↓n1,↓evR]
 · have n1:=ilt_false h2
   by_cases h3 : 258 < ras.length
   · have n2:=ilt_true h3
     refine ⟨h,.refl _,.inl ⟨?_,fun m=>absurd m.2.1 (by omega)⟩⟩
     rw [call5]
     simp -implicitDefEqProofs only [sh5,↓ln,↓n1,↓k3,↓n2,↓evR]
   · have n2:=ilt_false h3
     obtain ⟨h1,e1,r1,U1,nx1⟩:=make_nils h (m:=ras.length) (by omega)
     obtain ⟨h2',e2,m2,U2,nx2⟩:=mkm_law h1
     obtain ⟨h3',e3,r3,U3,lt3⟩:=new_row h2' (g:=4) (l:=[.nils,.slice h.nx 0 ras.length (some ras.length) 1,.nils,.map h1.nx]) rfl (by omega)
     have e3' : ∀ q,words.new h2' (.arr 4 1 (.lf [.nils,.slice h.nx 0 ras.length (some ras.length) 1,.nils,.map h1.nx]) .false) q = q h2'.nx h3':=e3
     have U12:=U1.trans U2
     have U13:=U12.trans U3
     obtain ⟨h4,O4,res⟩:=shapes_loop (n:=n) (d:=d) (vof:=.slice h.nx 0 ras.length (some ras.length) 1) (v8:=v0) (p:=h2'.nx) (bm:=h1.nx) (hs:=h3') (N:=ras.length) (ras:=ras) hn rfl (by omega) lt3 h.nx.val U13.nx U12.nx (w.mv (fun _ hx=>hx) fun b hb=>U13.get b hb) hk ras.length (i:=0) (q:=n) (h:=h3') (v:=.nils) (by omega) (by omega) (.refl _ _ _) r3 .nils (fun k x hk=>by omega)
     have U4 : Up h h4:=⟨Nat.le_trans U13.nx O4.nx,fun b hb=>(O4.get b (Nat.lt_of_lt_of_le hb U13.nx) (bid_ne (by have:=U12.nx; omega))).trans (U13.get b hb)⟩
     have run : ∀ R : Res,lpk (b5_2 words n (call tabW n (d + 1 + 1 + 1 + 1 + 1 + 1 + 1 + 1))) n [ik ras.length,.ptr h2'.nx 0,v0,ik ras.length,ik 0] h3' = R→call tabW n (d + 1 + 1 + 1 + 1 + 1 + 1 + 1 + 1 + 1) f5 [v0] h = R:=fun R hR=>by
      have pm : ∀ q : Nat→List V→Res,partsk (.map h1.nx) q = q 1 [.map h1.nx]:=fun q=>rfl
      rw [call5]
      simp -implicitDefEqProofs only [sh5,↓ln,↓n1,↓k3,↓n2,↓e1,↓e2,↓pm,↓e3',↓hR,↓evR]
     refine ⟨h4,U4,res.imp (fun ⟨x1,x2⟩=>⟨run _ x1,fun m=>x2 m.2.2⟩) fun ⟨x1,M,v',r4,W4⟩=>?_⟩
     have hp1 : h2'.nx.val = h1.nx.val + 1:=nx2
     have lt4 : h3'.nx.val ≤ h4.nx.val:=O4.nx
     have cm : ∀ v ∈ List.replicate ras.length V.nils,v = V.nils:=fun v hv=>(List.mem_replicate.1 hv).2
     refine ⟨h2'.nx,Sof h2'.nx h.nx h1.nx .nils (List.replicate ras.length .nils),run _ x1,⟨h.nx,h1.nx,some ras.length,.nils,v',List.replicate ras.length .nils,[],?_⟩,shsOk (by omega) (by omega) M,?_,by omega,by omega,M⟩
     · refine ⟨by rw [List.length_replicate]; exact r4,?_,by rw [List.length_replicate,List.length_map],.nils,rfl,fun i t v hi=>by simp at hi,?_,?_,?_,fun x hx=>hx.elim,by omega,by omega,⟨off_nils _,off_nils _,off_nils _⟩,fun v hv=>by rw [cm v hv]; exact ⟨off_nils _,off_nils _,off_nils _,fun x=>.inl (off_nils _)⟩,fun s s' v v' h1 h2 _=>by rw [cm v (List.mem_of_getElem? h1)]; exact fun x=>.inl (off_nils _),fun x=>Iff.rfl⟩
       · rw [O4.get h.nx (by omega) (bid_ne (by omega)),U3.get h.nx (by omega),U2.get h.nx (by omega)]
         exact r1
       · intro s v hv
         rw [cm v (List.mem_of_getElem? hv)]
         exact .nils
       · refine m2.keep ?_
         rw [O4.get h1.nx (by omega) (bid_ne (by omega)),U3.get h1.nx (by omega)]
       · have:=W4.cell
         rw [show (ras.map fun x=>shT (raS x)) = (ras.map raS).map shT by rw [List.map_map]; rfl] at this
         exact this.mv (fun x hx=>⟨hx.2,fun e=>e.elim (fun e=>by
          rcases e with e | e | e | e | ⟨u,hu,e⟩
          · omega
          · omega
          · omega
          · exact e (off_nils _)
          · rw [cm u hu] at e; exact e (off_nils _)) id⟩) fun _ _=>rfl
     · intro x hx
       rcases hx with e | e | e | e | ⟨u,hu,e⟩
       · omega
       · omega
       · omega
       · exact absurd (off_nils _) e
       · rw [cm u hu] at e; exact absurd (off_nils _) e
end
end Go.Ev.WIB

/- InternLoads: numbers in their short form, read. -/
namespace Go.Ev.WIB
open Go.Proofs
set_option maxRecDepth 100000
def numF : Nat→Nat→List Nat→Option (Nat × List Nat)
 | _,_,[]=>none
 | i,a,c :: r=>if (i = 9∧1 < c) ∨ (0 < i∧c = 0) then none else if c < 128 then some (a + c % 128 * 128 ^ i,r) else numF (i + 1) (a + c % 128 * 128 ^ i) r
def num (b : List Nat) : Option (Nat × List Nat):=numF 0 0 b
theorem pow128 {i : Nat} (h : i ≤ 8) : 128 ^ i * 128 ≤ 9223372036854775808:=by
 rw [← Nat.pow_succ]
 exact Nat.pow_le_pow_right (n:=128) (by omega) (show i + 1 ≤ 9 by omega)
theorem numF_step {i a c : Nat} (hi : i ≤ 9) (ha : a < 128 ^ i) (h9 : i = 9→c ≤ 1) : c % 128 * 128 ^ i < 18446744073709551616∧a + c % 128 * 128 ^ i < 18446744073709551616∧(i ≠ 9→a + c % 128 * 128 ^ i < 128 ^ (i + 1)):=by
 by_cases e : i = 9
 · subst e
   have:=h9 rfl
   have h1 : c % 128 * 128 ^ 9 ≤ 1 * 128 ^ 9:=Nat.mul_le_mul_right _ (by omega)
   have h2 : 128 ^ 9 = 9223372036854775808:=by decide
   rw [h2] at ha h1 ⊢
   exact ⟨by omega,by omega,fun h=>absurd rfl h⟩
 · have h1 : c % 128 * 128 ^ i ≤ 127 * 128 ^ i:=Nat.mul_le_mul_right _ (by omega)
   have h2:=pow128 (i:=i) (by omega)
   rw [Nat.pow_succ]
   exact ⟨by omega,by omega,fun _=>by omega⟩
theorem numF_inv : ∀ {b : List Nat} {i a n : Nat} {r : List Nat},i ≤ 9→a < 128 ^ i→Bytes b→numF i a b = some (n,r)→n < 18446744073709551616∧∃ m,n = a + m * 128 ^ i∧b = shortB m ++ r∧(0 < i→0 < m)
 | [],i,a,n,r,_,_,_,h=>by simp [numF] at h
 | c :: b,i,a,n,r,hi,ha,hb,h=>by
   rw [numF] at h
   split at h
   · cases h
   · rename_i hc
     have hcb:=hb.head
     have h9 : i = 9→c ≤ 1:=fun e=>by omega
     obtain ⟨s1,s2,s3⟩:=numF_step hi ha h9
     split at h
     · rename_i h128
       cases h
       refine ⟨s2,c,by rw [Nat.mod_eq_of_lt h128],?_,fun h=>by omega⟩
       rw [shortB,dif_pos h128]
       rfl
     · rename_i h128
       have hi9 : i ≠ 9:=fun e=>by omega
       obtain ⟨h1,m,h2,h3,h4⟩:=numF_inv (b:=b) (i:=i + 1) (by omega) (s3 hi9) hb.tail h
       have hm:=h4 (by omega)
       refine ⟨h1,c % 128 + 128 * m,?_,?_,fun _=>by omega⟩
       · rw [h2,Nat.pow_succ,Nat.add_mul,Nat.add_assoc]
         congr 2
         rw [Nat.mul_comm 128 m,Nat.mul_assoc,Nat.mul_comm 128]
       · rw [shortB,dif_neg (by omega),h3,List.cons_append]
         congr 1
         · omega
         · congr 2; omega
theorem num_inv {b : List Nat} {n : Nat} {r : List Nat} (hb : Bytes b) (h : num b = some (n,r)) : n < 18446744073709551616∧b = shortB n ++ r:=by
 obtain ⟨h1,m,h2,h3,_⟩:=numF_inv (by omega) (by decide) hb h
 rw [Nat.zero_add,Nat.pow_zero,Nat.mul_one] at h2
 subst h2
 exact ⟨h1,h3⟩
def numV (b : List Nat) : Nat:=match num b with | some (n,_)=>n | none=>0
def numT (b : List Nat) : List Nat:=match num b with | some (_,r)=>r | none=>[]
theorem numV_lt {b : List Nat} (hb : Bytes b) : numV b < 18446744073709551616:=by
 unfold numV
 cases h : num b with
 | none=>exact Nat.zero_lt_succ _
 | some x=>exact (num_inv hb h).1
theorem num_tail {b : List Nat} {n : Nat} {r : List Nat} (hb : Bytes b) (h : num b = some (n,r)) : Bytes r∧r.length < b.length:=by
 obtain ⟨_,e⟩:=num_inv hb h
 have hne : 0 < (shortB n).length:=by rw [shortB]; split <;> simp
 refine ⟨fun x hx=>hb x (by rw [e]; simp [hx]),?_⟩
 rw [e,List.length_append]
 omega
theorem numT_bytes {b : List Nat} (hb : Bytes b) : Bytes (numT b)∧(numT b).length ≤ b.length:=by
 unfold numT
 cases h : num b with
 | none=>exact ⟨.nil,Nat.zero_le _⟩
 | some x=>exact ⟨(num_tail hb h).1,Nat.le_of_lt (num_tail hb h).2⟩
theorem _root_.Go.Ev.IsS.onek {h : Heap} {v : V} {l : List V} (w : IsS h v l) (r : Res) : Go.Ev.onek v r = r:=by cases w <;> rfl
inductive IsB (h : Heap) : V→List V→Prop where
 | nils : IsB h .nils []
 | emp : IsB h .emp []
 | sl (b : Bid) (o : Nat) (c : Option Nat) (op : Bool) (cs l : List V) (row : RowO op (h.t.get b) 1 cs) (fit : o + l.length ≤ cs.length) (is : (cs.drop o).take l.length = l)
    (cap : ∀ n,c = some n→l.length ≤ n) : IsB h (.slice b o l.length c 1) l
theorem IsB.len {h : Heap} {v : V} {l : List V} (w : IsB h v l) (k : Nat→Res) : lenk v k = k l.length:=by cases w <;> rfl
theorem IsB.parts {h : Heap} {v : V} {l : List V} (w : IsB h v l) (q : Nat→List V→Res) : partsk v q = q 1 [v]:=by cases w <;> rfl
theorem IsB.isS {h : Heap} {v : V} {l : List V} (w : IsB h v l) : ∃ v0,IsS h v0 l∧(∀ k : V→Heap→Res,words.bytesS v h k = words.bytesS v0 h k)∧(∀ k : Nat→List V→Res,srck 1 v h k = srck 1 v0 h k)∧∀ b o n c s,v0 = .slice b o n c s→∃ c',v = .slice b o n c' s:=by
 cases w with
 | nils=>exact ⟨.nils,.nils,fun _=>rfl,fun _=>rfl,fun b o n c s e=>⟨c,e⟩⟩
 | emp=>exact ⟨.emp,.emp,fun _=>rfl,fun _=>rfl,fun b o n c s e=>⟨c,e⟩⟩
 | sl b o c op cs _ row fit is cap=>exact ⟨.slice b o l.length none 1,.sl b o none op cs l row fit is (fun n hn=>by cases hn),fun _=>rfl,fun _=>rfl,fun b' o' n' c' s' e=>⟨c,by cases e; rfl⟩⟩
theorem IsB.at_ {h : Heap} {v : V} {l : List V} (w : IsB h v l) {i : Nat} (hi : i < l.length) : ∃ b o n c s,v = .slice b o n c s∧i < n∧∀ k,load1k h b (Nat.add o i) k = k l[i]:=by
 obtain ⟨v0,w0,_,_,e⟩:=w.isS
 obtain ⟨b,o,n,c,s,e0,h1,h2⟩:=w0.at_ hi
 obtain ⟨c',e'⟩:=e b o n c s e0
 exact ⟨b,o,n,c',s,e',h1,h2⟩
theorem IsB.up {h h' : Heap} {v : V} {l : List V} (w : IsB h v l) (hb : ∀ b o n c s,v = .slice b o n c s→h'.t.get b = h.t.get b) : IsB h' v l:=by
 cases w with
 | nils=>exact .nils
 | emp=>exact .emp
 | sl b o c op cs _ row fit is cap=>exact .sl b o c op cs l (by rw [hb b o _ c 1 rfl]; exact row) fit is cap
theorem IsB.upTo {n : Nat} {h h' : Heap} {v : V} {l : List V} (w : IsB h v l) (lo : Low v n) (u : UpTo n h h') : IsB h' v l:=w.up fun b o m c s e=>u.get b (lo b o m c s e)
theorem IsB.bytesS {h : Heap} {v : V} {bs : List Nat} (w : IsB h v (bs.map bV)) (hb : Bytes bs) (k : V→Heap→Res) : words.bytesS v h k = k (sV bs) h:=by
 obtain ⟨v0,w0,e,_⟩:=w.isS
 rw [e]
 exact bytesS_law w0 hb k
theorem slice_lawB {h : Heap} {v : V} {l : List V} (w : IsB h v l) {i j : Nat} (hij : i ≤ j) (hj : j ≤ l.length) {lo hi : Option V} (hlo : ∀ k,bndk lo 0 k = k i) (hhi : ∀ k,bndk hi l.length k = k j) :
 ∃ v',(∀ k,words.slice 1 v lo hi none h k = k v' h)∧IsB h v' ((l.take j).drop i):=by
 have hlen:=take_drop_length hij hj
 cases w with
 | nils=>
   simp at hj; subst hj; obtain rfl : i = 0:=by omega
   refine ⟨.nils,fun k=>?_,.nils⟩
   show bndk lo 0 (fun i=>bndk hi 0 fun j=>zk i (zk j (k .nils h) .fail) .fail) = _
   have hhi : ∀ k,bndk hi 0 k = k 0:=hhi
   rw [hlo,hhi]; rfl
 | emp=>
   simp at hj; subst hj; obtain rfl : i = 0:=by omega
   refine ⟨.emp,fun k=>?_,.emp⟩
   show bndk lo 0 (fun i=>bndk hi 0 fun j=>zk i (zk j (k .emp h) .fail) .fail) = _
   have hhi : ∀ k,bndk hi 0 k = k 0:=hhi
   rw [hlo,hhi]; rfl
 | sl b o c op cs _ row fit is cap=>
   have key : ∀ c' : Option Nat,(∀ n,c' = some n→j - i ≤ n)→IsB h (.slice b (o + i * 1) (j - i) c' 1) ((l.take j).drop i):=by
    intro c' hc'
    have:=IsB.sl b (o + i * 1) c' op cs ((l.take j).drop i) row (by rw [hlen]; omega) (by
     rw [hlen]
     apply List.ext_getElem?
     intro x
     by_cases hx : x < j - i
     · rw [List.getElem?_take_of_lt hx,List.getElem?_drop,List.getElem?_drop,List.getElem?_take_of_lt (by omega)]
       have : ((cs.drop o).take l.length)[i + x]? = l[i + x]?:=by rw [is]
       rw [List.getElem?_take_of_lt (by omega),List.getElem?_drop] at this
       rw [← this]; congr 1; omega
     · rw [List.getElem?_eq_none (by simp; omega),List.getElem?_eq_none (by rw [hlen]; omega)]) (fun n hn=>by rw [hlen]; exact hc' n hn)
    rwa [hlen] at this
   have nil : i = j→((l.take j).drop i) = []:=fun e=>List.length_eq_zero_iff.1 (by rw [hlen]; omega)
   have unf : ∀ k,words.slice 1 (.slice b o l.length c 1) lo hi none h k = optk c
    (fun cap=>ifk (Nat.ble j cap) (ifk (Nat.beq cap i) (k .emp h) (k (.slice b (o + i * 1) (j - i) (some (cap - i)) 1) h)) .fail)
    (ifk (Nat.ble j l.length) (ifk (Nat.blt i l.length) (k (.slice b (o + i * 1) (j - i) none 1) h) (k .emp h)) .fail):=by
    intro k
    show ifk (Nat.beq 1 1) (bndk lo 0 fun i=>bndk hi l.length fun j=>ifk (Nat.ble i j)
     (optk c
       (fun cap=>ifk (Nat.ble j cap) (ifk (Nat.beq cap i) (k .emp h) (k (.slice b (o + i * 1) (j - i) (some (cap - i)) 1) h)) .fail)
       (ifk (Nat.ble j l.length) (ifk (Nat.blt i l.length) (k (.slice b (o + i * 1) (j - i) none 1) h) (k .emp h)) .fail)) .fail) .fail = _
    rw [show Nat.beq 1 1 = true from rfl,ifk_true,hlo,hhi,ble_of hij,ifk_true]
   cases c with
   | some n=>
     have hn:=cap n rfl
     by_cases e : n = i
     · refine ⟨.emp,fun k=>?_,by rw [nil (by omega)]; exact .emp⟩
       rw [unf,optk_some,ble_of (by omega),ifk_true,beq_of e,ifk_true]
     · refine ⟨.slice b (o + i * 1) (j - i) (some (n - i)) 1,fun k=>?_,key _ (fun m hm=>by cases hm; omega)⟩
       rw [unf,optk_some,ble_of (by omega),ifk_true,beq_not e,ifk_false]
   | none=>
     by_cases e : i < l.length
     · refine ⟨.slice b (o + i * 1) (j - i) none 1,fun k=>?_,key _ (fun m hm=>by cases hm)⟩
       rw [unf,optk_none,ble_of hj,ifk_true,blt_of e,ifk_true]
     · refine ⟨.emp,fun k=>?_,by rw [nil (by omega)]; exact .emp⟩
       rw [unf,optk_none,ble_of hj,ifk_true,blt_not e,ifk_false]
theorem mul7 {i : Nat} (hi : i ≤ 9) : wrapv .i64 (Int.mul (.ofNat 7) (.ofNat i)) = .ofNat (7 * i):=wrapv_small .i64 (7 * i) (small_i64 (by omega))
theorem pow7 {i : Nat} (hi : i ≤ 9) : Nat.pow 2 (Nat.min (7 * i) 64) = 128 ^ i:=by
 show 2 ^ (min (7 * i) 64) = 128 ^ i
 rw [Nat.min_eq_left (by omega),Nat.pow_mul]
theorem shv {x i : Nat} (h : x * 128 ^ i < 18446744073709551616) : wrapv .u64 (Int.mul (.ofNat x) (.ofNat (128 ^ i))) = .ofNat (x * 128 ^ i):=u64_small h
theorem and127 {c : Nat} (h : c < 256) : wrapv .u64 (band .u8 (.ofNat c) (.ofNat 127)) = .ofNat (c % 128):=by
 rw [band_small .u8 _ _ (by show _ ≤ 255; omega) (by show _ ≤ 255; omega),show c &&& 127 = c % 128 from Nat.and_two_pow_sub_one_eq_mod c 7]
 exact u64_small (by omega)
theorem tmod128 (c : Nat) : wrapv .u64 (Int.tmod (.ofNat c) (.ofNat 128)) = .ofNat (c % 128):=by
 rw [show Int.tmod (.ofNat c) (.ofNat 128) = .ofNat (c % 128) from rfl]
 exact u64_small (by omega)
theorem or_add {a x i : Nat} (hi : i ≤ 9) (ha : a < 128 ^ i) (h : x * 128 ^ i < 18446744073709551616) : bor .u64 (.ofNat a) (.ofNat (x * 128 ^ i)) = .ofNat (a + x * 128 ^ i):=by
 have hp : 128 ^ i ≤ 9223372036854775808:=Nat.pow_le_pow_right (n:=128) (by omega) hi
 rw [bor_small .u64 _ _ (by show _ ≤ 18446744073709551615; omega) (by show _ ≤ 18446744073709551615; omega)]
 congr 1
 have e : 128 ^ i = 2 ^ (7 * i):=by rw [Nat.pow_mul]
 rw [e] at ha ⊢
 have:=Nat.two_pow_add_eq_or_of_lt ha x
 rw [Nat.or_comm,Nat.mul_comm x,← this,Nat.add_comm]
theorem add_add {a x i : Nat} (h : a + x * 128 ^ i < 18446744073709551616) : wrapv .u64 (Int.add (.ofNat a) (.ofNat (x * 128 ^ i))) = .ofNat (a + x * 128 ^ i):=u64_small h
section
variable {h : Heap} {n d : Nat}
theorem loop29 {ps : Bid} {v : V} {bs : List Nat} {ok : Bool} (r : Row (h.t.get ps) 2 [v,.bool ok]) (w : IsS h v (bs.map bV)) (hb : Bytes bs) {K : Nat} (hK : K ≤ ps.val) (lo : Low v K) (hl : bs.length ≤ 1000000) :
 ∀ (k : Nat) {i q acc : Nat},i + k = 10→i ≤ 9→k < q→acc < 128 ^ i →
  (numF i acc (bs.drop i) = none→lpk (b29_1 words n (call tabW n d)) q [.ptr ps 0,.int .u64 (.ofNat acc),v,ik bs.length,ik i] h = .done .normal [.ptr ps 0,.und] h) ∧
  ∀ m rest,numF i acc (bs.drop i) = some (m,rest)→∃ h' v',lpk (b29_1 words n (call tabW n d)) q [.ptr ps 0,.int .u64 (.ofNat acc),v,ik bs.length,ik i] h = .done .ret [.ptr ps 0,.int .u64 (.ofNat m)] h' ∧
   But h ps h'∧Row (h'.t.get ps) 2 [v',.bool ok]∧IsS h' v' (rest.map bV)∧Low v' K
 | 0,i,q,acc,hi,hi9,_,_=>by omega
 | k + 1,i,0,acc,_,_,h0,_=>absurd h0 (Nat.not_lt_zero _)
 | k + 1,i,q + 1,acc,hi,hi9,hq,ha=>by
   by_cases hil : i < bs.length
   · have n1:=ilt_true hil
     obtain ⟨b,o,nn,c',s',e,hnn,ld⟩:=w.at_ (i:=i) (by simpa using hil)
     have n2 : Nat.blt i nn = true:=blt_of hnn
     have ld' : ∀ k : V→Res,words.load1 h b (Nat.add o i) k = k (.int .u8 (.ofNat bs[i])):=fun k=>by
      have:=ld k
      rw [List.getElem_map] at this
      exact this
     have hdrop:=List.drop_eq_getElem_cons hil
     rw [hdrop]
     have hc : bs[i] < 256:=hb _ (List.getElem_mem hil)
     generalize bs[i] = c at *
     rw [numF]
     have lt9 : ilt (.ofNat 0) (.ofNat i) = decide (0 < i):=ilt_nat 0 i
     have i9 : ieq (.ofNat i) (.ofNat 9) = decide (i = 9):=ieq_nat i 9
     have c1 : ilt (.ofNat 1) (.ofNat c) = decide (1 < c):=ilt_nat 1 c
     have c0 : ieq (.ofNat c) (.ofNat 0) = decide (c = 0):=ieq_nat c 0
     have k4 : Nat.beq (kno .u8) 4 = true:=rfl
     have k3 : Nat.beq (kno .i64) 3 = true:=rfl
     have s7:=mul7 hi9
     have ad1:=ad_nat (a:=i) (b:=1) (by omega)
     by_cases hf : (i = 9∧1 < c) ∨ (0 < i∧c = 0)
     · rw [if_pos hf]
       refine ⟨fun _=>?_,fun m rest e=>by cases e⟩
       rw [lpk_succ]
       subst e
       by_cases e9 : i = 9
       · subst e9
         have d9 : decide (9 = 9) = true:=rfl
         have d0 : decide (0 < 9) = true:=rfl
         by_cases e1 : 1 < c
         · have d1 : decide (1 < c) = true:=by simpa using e1
           simp -implicitDefEqProofs only [b29_1,↓n1,↓n2,↓ld',↓i9,↓d9,↓k4,↓c1,↓d1,↓evR]
         · have d1 : decide (1 < c) = false:=by simpa using e1
           have d2 : decide (c = 0) = true:=by simp; omega
           simp -implicitDefEqProofs only [b29_1,↓n1,↓n2,↓ld',↓i9,↓d9,↓k4,↓c1,↓d1,↓k3,↓lt9,↓d0,↓c0,↓d2,↓evR]
       · have d9 : decide (i = 9) = false:=by simpa using e9
         have d0 : decide (0 < i) = true:=by simp; omega
         have d2 : decide (c = 0) = true:=by simp; omega
         simp -implicitDefEqProofs only [b29_1,↓n1,↓n2,↓ld',↓i9,↓d9,↓k4,↓k3,↓lt9,↓d0,↓c0,↓d2,↓evR]
     · rw [if_neg hf]
       obtain ⟨s1,s2,s3⟩:=numF_step (c:=c) hi9 ha (fun e=>by omega)
       have x1:=pow7 hi9
       have x2:=and127 hc
       have x3:=shv s1
       have x4:=or_add hi9 ha s1
       have go : ∀ R : Res,(ifk (ilt (.ofNat c) (.ofNat 128)) (pl0 words (.ptr ps 0) h fun v14=>words.slice 1 v14 (.some (I (ad (.ofNat i) 1))) .none .none h fun v15 h9=>ptrk (.ptr ps 0) fun p1 n5=>onek v15 (words.store h9 p1 n5 1 [v15] fun h10=>.done .ret [.ptr ps 0,.int .u64 (.ofNat (acc + c % 128 * 128 ^ i))] h10))
        (lpk (b29_1 words n (call tabW n d)) q [.ptr ps 0,.int .u64 (.ofNat (acc + c % 128 * 128 ^ i)),v,ik bs.length,ik (i + 1)] h)) = R→lpk (b29_1 words n (call tabW n d)) (q + 1) [.ptr ps 0,.int .u64 (.ofNat acc),v,ik bs.length,ik i] h = R:=by
        intro R hR
        rw [lpk_succ,← hR]
        subst e
        by_cases e0 : i = 0
        · subst e0
          have d9 : decide (0 = 9) = false:=rfl
          have d0 : decide (0 < 0) = false:=rfl
          simp -implicitDefEqProofs only [b29_1,↓n1,↓n2,↓ld',↓i9,↓d9,↓k4,↓k3,↓lt9,↓d0,↓s7,↓x1,↓x2,↓x3,↓x4,↓ad1,↓evR]
        · have d0 : decide (0 < i) = true:=by simp; omega
          have d2 : decide (c = 0) = false:=by simp; omega
          by_cases e9 : i = 9
          · have d9 : decide (i = 9) = true:=by simpa using e9
            have d1 : decide (1 < c) = false:=by simp; omega
            simp -implicitDefEqProofs only [b29_1,↓n1,↓n2,↓ld',↓i9,↓d9,↓k4,↓c1,↓d1,↓k3,↓lt9,↓d0,↓c0,↓d2,↓s7,↓x1,↓x2,↓x3,↓x4,↓ad1,↓evR]
          · have d9 : decide (i = 9) = false:=by simpa using e9
            simp -implicitDefEqProofs only [b29_1,↓n1,↓n2,↓ld',↓i9,↓d9,↓k4,↓k3,↓lt9,↓d0,↓c0,↓d2,↓s7,↓x1,↓x2,↓x3,↓x4,↓ad1,↓evR]
       by_cases h128 : c < 128
       · rw [if_pos h128]
         refine ⟨fun e=>(by cases e),fun m rest e=>?_⟩
         cases e
         have n128 : ilt (.ofNat c) (.ofNat 128) = true:=ilt_true h128
         obtain ⟨v',e1,w1,lo1⟩:=slice_law w (i:=i + 1) (j:=(bs.map bV).length) (by simp; omega) (Nat.le_refl _) (lo:=.some (I (.ofNat (i + 1)))) (hi:=.none) (fun k=>rfl) (fun k=>rfl)
         have c0' : ∀ q : V→Res,words.load1 h ps 0 q = q v:=fun q=>load1k_law r rfl q
         obtain ⟨h1,e2,r1,B1⟩:=storek_law (o:=0) (n:=1) (vs:=[v']) r rfl (by simp)
         have e2' : ∀ q,words.store h ps 0 1 [v'] q = q h1:=e2
         have o1 : ∀ rr : Res,onek v' rr = rr:=fun rr=>w1.onek rr
         refine ⟨h1,v',go _ ?_,B1,r1,?_,lo1 _ lo⟩
         · simp -implicitDefEqProofs only [↓n128,↓c0',↓ad1,↓e1,↓o1,↓e2',↓evR]
         · rw [List.take_length,← List.map_drop] at w1
           exact w1.up fun b o n' c s e=>B1.get b fun e'=>by have:=lo1 _ lo b o n' c s e; rw [e'] at this; omega
       · rw [if_neg h128]
         have n128 : ilt (.ofNat c) (.ofNat 128) = false:=ilt_false (by omega)
         have hi9' : i ≠ 9:=fun e=>by omega
         have ih:=loop29 r w hb hK lo hl k (i:=i + 1) (q:=q) (acc:=acc + c % 128 * 128 ^ i) (by omega) (by omega) (by omega) (s3 hi9')
         refine ⟨fun e=>?_,fun m rest e=>?_⟩
         · refine go _ ?_
           rw [n128,ifk_false]
           exact ih.1 e
         · obtain ⟨h',v',e1,r1⟩:=ih.2 m rest e
           refine ⟨h',v',go _ ?_,r1⟩
           rw [n128,ifk_false]
           exact e1
   · have n1 : ilt (.ofNat i) (.ofNat bs.length) = false:=ilt_false hil
     rw [List.drop_eq_nil_of_le (by omega)]
     refine ⟨fun _=>?_,fun m rest e=>by simp [numF] at e⟩
     rw [lpk_succ]
     simp -implicitDefEqProofs only [b29_1,↓n1,↓evR]
theorem num29 {ps : Bid} {v : V} {bs : List Nat} {ok : Bool} (hn : 20 ≤ n) (r : Row (h.t.get ps) 2 [v,.bool ok]) (w : IsS h v (bs.map bV)) (hb : Bytes bs) {K : Nat} (hK : K ≤ ps.val) (lo : Low v K) (hl : bs.length ≤ 1000000) :
 ∃ h' v',call tabW n (d + 1) f29 [.ptr ps 0] h = .ret (.int .u64 (.ofNat (numV bs))) h'∧But h ps h'∧Row (h'.t.get ps) 2 [v',.bool (ok && (num bs).isSome)]∧IsS h' v' ((numT bs).map bV)∧Low v' K:=by
 have c0 : ∀ q : V→Res,words.load1 h ps 0 q = q v:=fun q=>load1k_law r rfl q
 have ln : ∀ q : Nat→Res,lenk v q = q bs.length:=fun q=>by rw [w.len,List.length_map]
 have lp:=loop29 (n:=n) (d:=d) r w hb hK lo hl 10 (i:=0) (q:=n) (acc:=0) (by omega) (by omega) (by omega) (by decide)
 rw [List.drop_zero] at lp
 cases hc : num bs with
 | none=>
   have e1:=lp.1 hc
   obtain ⟨h1,e2,r1,B1⟩:=storek_law (o:=1) (n:=1) (vs:=[.bool false]) r rfl (by simp)
   have e2' : ∀ q,words.store h ps (Nat.add 0 1) 1 [.bool false] q = q h1:=e2
   obtain ⟨h2,e3,r2,B2⟩:=storek_law (o:=0) (n:=1) (vs:=[.nils]) r1 rfl (by simp [splice])
   have e3' : ∀ q,words.store h1 ps 0 1 [.nils] q = q h2:=e3
   refine ⟨h2,.nils,?_,⟨by rw [B2.nx,B1.nx],fun b hb=>by rw [B2.get b hb,B1.get b hb]⟩,?_,?_,fun b o l c s e=>by cases e⟩
   · rw [call29,show numV bs = 0 by simp [numV,hc]]
     simp -implicitDefEqProofs only [sh29,↓c0,↓ln,↓e1,↓e2',↓e3',↓evR]
   · rw [Option.isSome_none,Bool.and_false]
     exact r2
   · rw [show numT bs = [] by simp [numT,hc]]
     exact .nils
 | some x=>
   obtain ⟨m,rest⟩:=x
   obtain ⟨h',v',e1,B1,r1,w1,lo1⟩:=lp.2 m rest hc
   refine ⟨h',v',?_,B1,?_,?_,lo1⟩
   · rw [call29,show numV bs = m by simp [numV,hc]]
     simp -implicitDefEqProofs only [sh29,↓c0,↓ln,↓e1,↓evR]
   · rw [Option.isSome_some,Bool.and_true]
     exact r1
   · rw [show numT bs = rest by simp [numT,hc]]
     exact w1
theorem loop32 {pr : Bid} {v : V} {bs : List Nat} {bad : Bool} (hb : Bytes bs) (lo : Low v pr.val) (hl : bs.length ≤ 1000000) :
 ∀ (k : Nat) {i q acc at_ : Nat} {h : Heap},i + k = 10→i ≤ 9→k < q→acc < 128 ^ i→at_ ≤ bs.length→Row (h.t.get pr) 3 [v,ik at_,.bool bad]→IsB h v (bs.map bV) →
  (numF i acc (bs.drop at_) = none→∃ h' at',lpk (b32_1 words n (call tabW n d)) q [.ptr pr 0,.int .u64 (.ofNat acc),ik i] h = .done .ret [.ptr pr 0,.int .u64 (.ofNat 0)] h' ∧
    But h pr h'∧Row (h'.t.get pr) 3 [v,ik at',.bool true]∧at_ ≤ at'∧at' ≤ bs.length) ∧
  ∀ m rest,numF i acc (bs.drop at_) = some (m,rest)→∃ h' at',lpk (b32_1 words n (call tabW n d)) q [.ptr pr 0,.int .u64 (.ofNat acc),ik i] h = .done .ret [.ptr pr 0,.int .u64 (.ofNat m)] h' ∧
   But h pr h'∧Row (h'.t.get pr) 3 [v,ik at',.bool bad]∧at_ ≤ at'∧at' ≤ bs.length∧bs.drop at' = rest
 | 0,i,q,acc,at_,h,hi,hi9,_,_,_,_,_=>by omega
 | k + 1,i,0,acc,at_,h,_,_,h0,_,_,_,_=>absurd h0 (Nat.not_lt_zero _)
 | k + 1,i,q + 1,acc,at_,h,hi,hi9,hq,ha,hat,r,w=>by
   have i10 : ilt (.ofNat i) (.ofNat 10) = true:=ilt_true (by omega)
   have g0 : ∀ q : V→Res,words.load1 h pr 0 q = q v:=fun q=>load1k_law r rfl q
   have g1 : ∀ q : V→Res,words.load1 h pr 1 q = q (ik at_):=fun q=>load1k_law r rfl q
   have g1' : ∀ q : V→Res,words.load1 h pr (Nat.add 0 1) q = q (ik at_):=g1
   have ln : ∀ q : Nat→Res,lenk v q = q bs.length:=fun q=>by rw [w.len,List.length_map]
   by_cases hil : at_ < bs.length
   · have n1 : ieq (.ofNat at_) (.ofNat bs.length) = false:=by rw [ieq_nat]; simp; omega
     obtain ⟨b,o,nn,c',s',e,hnn,ld⟩:=w.at_ (i:=at_) (by simpa using hil)
     have n2 : Nat.blt at_ nn = true:=blt_of hnn
     have ld' : ∀ k : V→Res,words.load1 h b (Nat.add o at_) k = k (.int .u8 (.ofNat bs[at_])):=fun k=>by
      have:=ld k
      rw [List.getElem_map] at this
      exact this
     have hdrop:=List.drop_eq_getElem_cons hil
     rw [hdrop]
     have hc : bs[at_] < 256:=hb _ (List.getElem_mem hil)
     generalize bs[at_] = c at *
     rw [numF]
     have lt9 : ilt (.ofNat 0) (.ofNat i) = decide (0 < i):=ilt_nat 0 i
     have i9 : ieq (.ofNat i) (.ofNat 9) = decide (i = 9):=ieq_nat i 9
     have c1 : ilt (.ofNat 1) (.ofNat c) = decide (1 < c):=ilt_nat 1 c
     have c0 : ieq (.ofNat c) (.ofNat 0) = decide (c = 0):=ieq_nat c 0
     have k4 : Nat.beq (kno .u8) 4 = true:=rfl
     have k3 : Nat.beq (kno .i64) 3 = true:=rfl
     have s7:=mul7 hi9
     have ad1:=ad_nat (a:=i) (b:=1) (by omega)
     have ad2:=ad_nat (a:=at_) (b:=1) (by omega)
     obtain ⟨h1,e1,r1,B1⟩:=storek_law (o:=1) (n:=1) (vs:=[ik (at_ + 1)]) r rfl (by simp)
     have e1' : ∀ q,words.store h pr (Nat.add 0 1) 1 [ik (at_ + 1)] q = q h1:=e1
     have r1' : Row (h1.t.get pr) 3 [v,ik (at_ + 1),.bool bad]:=r1
     have w1 : IsB h1 v (bs.map bV):=w.up fun b o n' c s e=>B1.get b fun e'=>by have:=lo b o n' c s e; rw [e'] at this; omega
     by_cases hf : (i = 9∧1 < c) ∨ (0 < i∧c = 0)
     · rw [if_pos hf]
       refine ⟨fun _=>?_,fun m rest e=>by cases e⟩
       obtain ⟨h2,e2,r2,B2⟩:=storek_law (o:=2) (n:=1) (vs:=[.bool true]) r1' rfl (by simp)
       have e2' : ∀ q,words.store h1 pr (Nat.add 0 2) 1 [.bool true] q = q h2:=e2
       refine ⟨h2,at_ + 1,?_,⟨by rw [B2.nx,B1.nx],fun b hb=>by rw [B2.get b hb,B1.get b hb]⟩,r2,by omega,by omega⟩
       rw [lpk_succ]
       subst e
       by_cases e9 : i = 9
       · subst e9
         have d9 : decide (9 = 9) = true:=rfl
         have d0 : decide (0 < 9) = true:=rfl
         by_cases e1 : 1 < c
         · have d1 : decide (1 < c) = true:=by simpa using e1
           simp -implicitDefEqProofs only [b32_1,↓i10,↓g0,↓g1,↓g1',↓ln,↓n1,↓n2,↓ld',↓ad2,↓e1',↓i9,↓d9,↓k4,↓c1,↓d1,↓e2',↓evR]
         · have d1 : decide (1 < c) = false:=by simpa using e1
           have d2 : decide (c = 0) = true:=by simp; omega
           simp -implicitDefEqProofs only [b32_1,↓i10,↓g0,↓g1,↓g1',↓ln,↓n1,↓n2,↓ld',↓ad2,↓e1',↓i9,↓d9,↓k4,↓c1,↓d1,↓k3,↓lt9,↓d0,↓c0,↓d2,↓e2',↓evR]
       · have d9 : decide (i = 9) = false:=by simpa using e9
         have d0 : decide (0 < i) = true:=by simp; omega
         have d2 : decide (c = 0) = true:=by simp; omega
         simp -implicitDefEqProofs only [b32_1,↓i10,↓g0,↓g1,↓g1',↓ln,↓n1,↓n2,↓ld',↓ad2,↓e1',↓i9,↓d9,↓k4,↓k3,↓lt9,↓d0,↓c0,↓d2,↓e2',↓evR]
     · rw [if_neg hf]
       obtain ⟨s1,s2,s3⟩:=numF_step (c:=c) hi9 ha (fun e=>by omega)
       have x1:=pow7 hi9
       have x2:=tmod128 c
       have x3:=shv s1
       have x4:=add_add s2
       have go : ∀ R : Res,(ifk (ilt (.ofNat c) (.ofNat 128)) (.done .ret [.ptr pr 0,.int .u64 (.ofNat (acc + c % 128 * 128 ^ i))] h1)
        (lpk (b32_1 words n (call tabW n d)) q [.ptr pr 0,.int .u64 (.ofNat (acc + c % 128 * 128 ^ i)),ik (i + 1)] h1)) = R→lpk (b32_1 words n (call tabW n d)) (q + 1) [.ptr pr 0,.int .u64 (.ofNat acc),ik i] h = R:=by
        intro R hR
        rw [lpk_succ,← hR]
        subst e
        by_cases e0 : i = 0
        · subst e0
          have d9 : decide (0 = 9) = false:=rfl
          have d0 : decide (0 < 0) = false:=rfl
          simp -implicitDefEqProofs only [b32_1,↓i10,↓g0,↓g1,↓g1',↓ln,↓n1,↓n2,↓ld',↓ad2,↓e1',↓i9,↓d9,↓k4,↓k3,↓lt9,↓d0,↓s7,↓x1,↓x2,↓x3,↓x4,↓ad1,↓evR]
        · have d0 : decide (0 < i) = true:=by simp; omega
          have d2 : decide (c = 0) = false:=by simp; omega
          by_cases e9 : i = 9
          · have d9 : decide (i = 9) = true:=by simpa using e9
            have d1 : decide (1 < c) = false:=by simp; omega
            simp -implicitDefEqProofs only [b32_1,↓i10,↓g0,↓g1,↓g1',↓ln,↓n1,↓n2,↓ld',↓ad2,↓e1',↓i9,↓d9,↓k4,↓c1,↓d1,↓k3,↓lt9,↓d0,↓c0,↓d2,↓s7,↓x1,↓x2,↓x3,↓x4,↓ad1,↓evR]
          · have d9 : decide (i = 9) = false:=by simpa using e9
            simp -implicitDefEqProofs only [b32_1,↓i10,↓g0,↓g1,↓g1',↓ln,↓n1,↓n2,↓ld',↓ad2,↓e1',↓i9,↓d9,↓k4,↓k3,↓lt9,↓d0,↓c0,↓d2,↓s7,↓x1,↓x2,↓x3,↓x4,↓ad1,↓evR]
       by_cases h128 : c < 128
       · rw [if_pos h128]
         refine ⟨fun e=>(by cases e),fun m rest e=>?_⟩
         cases e
         have n128 : ilt (.ofNat c) (.ofNat 128) = true:=ilt_true h128
         refine ⟨h1,at_ + 1,go _ ?_,B1,r1,by omega,by omega,rfl⟩
         rw [n128,ifk_true]
       · rw [if_neg h128]
         have n128 : ilt (.ofNat c) (.ofNat 128) = false:=ilt_false (by omega)
         have hi9' : i ≠ 9:=fun e=>by omega
         have ih:=loop32 hb lo hl k (i:=i + 1) (q:=q) (acc:=acc + c % 128 * 128 ^ i) (at_:=at_ + 1) (h:=h1) (by omega) (by omega) (by omega) (s3 hi9') (by omega) r1' w1
         refine ⟨fun e=>?_,fun m rest e=>?_⟩
         · obtain ⟨h',at',e1,B2,r2,a1,a2⟩:=ih.1 e
           refine ⟨h',at',go _ ?_,⟨by rw [B2.nx,B1.nx],fun b hb=>by rw [B2.get b hb,B1.get b hb]⟩,r2,by omega,a2⟩
           rw [n128,ifk_false]
           exact e1
         · obtain ⟨h',at',e1,B2,r2,a1,a2⟩:=ih.2 m rest e
           refine ⟨h',at',go _ ?_,⟨by rw [B2.nx,B1.nx],fun b hb=>by rw [B2.get b hb,B1.get b hb]⟩,r2,by omega,a2⟩
           rw [n128,ifk_false]
           exact e1
   · obtain rfl : at_ = bs.length:=by omega
     have n1 : ieq (.ofNat bs.length) (.ofNat bs.length) = true:=by rw [ieq_nat]; simp
     rw [List.drop_eq_nil_of_le (by omega)]
     refine ⟨fun _=>?_,fun m rest e=>by simp [numF] at e⟩
     obtain ⟨h2,e2,r2,B2⟩:=storek_law (o:=2) (n:=1) (vs:=[.bool true]) r rfl (by simp)
     have e2' : ∀ q,words.store h pr (Nat.add 0 2) 1 [.bool true] q = q h2:=e2
     refine ⟨h2,bs.length,?_,B2,r2,by omega,by omega⟩
     rw [lpk_succ]
     simp -implicitDefEqProofs only [b32_1,↓i10,↓g0,↓g1,↓g1',↓ln,↓n1,↓e2',↓evR]
theorem num32 {pr : Bid} {v : V} {bs : List Nat} {bad : Bool} {at_ : Nat} (hn : 20 ≤ n) (hb : Bytes bs) (lo : Low v pr.val) (hl : bs.length ≤ 1000000) (hat : at_ ≤ bs.length) (r : Row (h.t.get pr) 3 [v,ik at_,.bool bad]) (w : IsB h v (bs.map bV)) :
 ∃ h' at',call tabW n (d + 1) f32 [.ptr pr 0] h = .ret (.int .u64 (.ofNat (numV (bs.drop at_)))) h'∧But h pr h'∧Row (h'.t.get pr) 3 [v,ik at',.bool (bad || (num (bs.drop at_)).isNone)]∧at_ ≤ at'∧at' ≤ bs.length ∧
  ∀ m rest,num (bs.drop at_) = some (m,rest)→bs.drop at' = rest:=by
 have lp:=loop32 (n:=n) (d:=d) (bad:=bad) hb lo hl 10 (i:=0) (q:=n) (acc:=0) (by omega) (by omega) (by omega) (by decide) hat r w
 cases hc : num (bs.drop at_) with
 | none=>
   obtain ⟨h',at',e1,B1,r1,a1,a2⟩:=lp.1 hc
   refine ⟨h',at',?_,B1,by rw [Option.isNone_none,Bool.or_true]; exact r1,a1,a2,fun m rest e=>by cases e⟩
   rw [call32,show numV (bs.drop at_) = 0 by simp [numV,hc]]
   simp -implicitDefEqProofs only [sh32,↓e1,↓evR]
 | some x=>
   obtain ⟨m,rest⟩:=x
   obtain ⟨h',at',e1,B1,r1,a1,a2,a3⟩:=lp.2 m rest hc
   refine ⟨h',at',?_,B1,by rw [Option.isNone_some,Bool.or_false]; exact r1,a1,a2,fun m' rest' e=>by cases e; exact a3⟩
   rw [call32,show numV (bs.drop at_) = m by simp [numV,hc]]
   simp -implicitDefEqProofs only [sh32,↓e1,↓evR]
end
end Go.Ev.WIB
