/- EVALUATOR: short words for pieces that come again and again in printed functions. -/
import Derived.Test.YtacpbnjbbkhngaaGreatDoorEvLoop
namespace Go.Ev
abbrev Shf := Words → Nat → CF → List V → Heap → Res
noncomputable def lb (b : Bool) (k : Bool → Res) : Res := k b
/- lists: one off; the last -/
noncomputable def uI (l : List V) (k : Int → List V → Res) : Res := unc l fun v m => castI .i64 v fun i => k i m
noncomputable def uK (kd : IntKind) (l : List V) (k : Int → List V → Res) : Res := unc l fun v m => castI kd v fun i => k i m
noncomputable def uF (l : List V) (k : Int → List V → Res) : Res := unc l fun v m => castF .i64 v fun i => k i m
noncomputable def uB (l : List V) (k : Bool → List V → Res) : Res := unc l fun v m => castB v fun b => k b m
noncomputable def uS (l : List V) (k : Nat → Nat → List V → Res) : Res := unc l fun v m => castS v fun a b => k a b m
noncomputable def zV (l : List V) (k : V → Res) : Res := unc l fun v m => nilk' m (k v)
noncomputable def zI (l : List V) (k : Int → Res) : Res := unc l fun v m => castI .i64 v fun i => nilk' m (k i)
noncomputable def zK (kd : IntKind) (l : List V) (k : Int → Res) : Res := unc l fun v m => castI kd v fun i => nilk' m (k i)
noncomputable def zF (l : List V) (k : Int → Res) : Res := unc l fun v m => castF .i64 v fun i => nilk' m (k i)
noncomputable def zB (l : List V) (k : Bool → Res) : Res := unc l fun v m => castB v fun b => nilk' m (k b)
noncomputable def zS (l : List V) (k : Nat → Nat → Res) : Res := unc l fun v m => castS v fun a b => nilk' m (k a b)
noncomputable def z2 (l : List V) (k : V → V → Res) : Res := unc l fun a l => unc l fun b l => nilk' l (k a b)
noncomputable def z3 (l : List V) (k : V → V → V → Res) : Res := unc l fun a l => unc l fun b l => unc l fun c l => nilk' l (k a b c)
noncomputable def u2 (l : List V) (k : V → V → List V → Res) : Res := unc l fun a l => unc l fun b l => k a b l
noncomputable def u3 (l : List V) (k : V → V → V → List V → Res) : Res := unc l fun a l => unc l fun b l => unc l fun c l => k a b c l
/- calls -/
noncomputable def cl (cf : CF) (f : Fid) (a : List V) (h : Heap) (k : V → Heap → Res) : Res := backk (cf f a h) k fun _ _ => .fail
noncomputable def clI (cf : CF) (f : Fid) (a : List V) (h : Heap) (k : Int → Heap → Res) : Res := backk (cf f a h) (fun v h => castI .i64 v fun i => k i h) fun _ _ => .fail
noncomputable def clK (cf : CF) (kd : IntKind) (f : Fid) (a : List V) (h : Heap) (k : Int → Heap → Res) : Res := backk (cf f a h) (fun v h => castI kd v fun i => k i h) fun _ _ => .fail
noncomputable def clB (cf : CF) (f : Fid) (a : List V) (h : Heap) (k : Bool → Heap → Res) : Res := backk (cf f a h) (fun v h => castB v fun i => k i h) fun _ _ => .fail
noncomputable def clS (cf : CF) (f : Fid) (a : List V) (h : Heap) (k : Nat → Nat → Heap → Res) : Res := backk (cf f a h) (fun v h => castS v fun i j => k i j h) fun _ _ => .fail
noncomputable def cl2 (cf : CF) (f : Fid) (a : List V) (h : Heap) (k : V → V → Heap → Res) : Res := backk (cf f a h) (fun v h => tupk v fun l => unc l fun x l => unc l fun y l => nilk' l (k x y h)) fun _ _ => .fail
noncomputable def cl3 (cf : CF) (f : Fid) (a : List V) (h : Heap) (k : V → V → V → Heap → Res) : Res := backk (cf f a h) (fun v h => tupk v fun l => unc l fun x l => unc l fun y l => unc l fun z l => nilk' l (k x y z h)) fun _ _ => .fail
noncomputable def cv (cf : CF) (f : V) (a : List V) (h : Heap) (k : V → Heap → Res) : Res := backk (callv cf f a h) k fun _ _ => .fail
noncomputable def cvB (cf : CF) (f : V) (a : List V) (h : Heap) (k : Bool → Heap → Res) : Res := backk (callv cf f a h) (fun v h => castB v fun b => k b h) fun _ _ => .fail
/- what may be left by a panic, or may not -/
noncomputable def bp (x : Res) (k : V → Heap → Res) : Res := backk x k fun v h => .pan v h
noncomputable def bh (x : Res) (k : V → Heap → Res) : Res := backk x k fun _ _ => .fail
noncomputable def bf (x : Res) (k : V → Res) : Res := backk x (fun v _ => k v) fun _ _ => .fail
/- under a guard -/
noncomputable def gd (c : Bool) (h : Heap) (x : Res) (k : V → Heap → Res) : Res := backk (ifk c x (.ret .skip h)) k fun _ _ => .fail
noncomputable def gr (v : V) (h : Heap) (x : Bool → Res) (k : V → Heap → Res) : Res := backk (grdk v x (.ret .skip h)) k fun _ _ => .fail
noncomputable def gw (b : Bool) (h : Heap) (x : Res) : Res := ifk b x (.ret .skip h)
noncomputable def an (b : Bool) (v : V) (k : Bool → Res) : Res := castB (pickv b v (.bool .false)) k
noncomputable def or' (b : Bool) (v : V) (k : Bool → Res) : Res := castB (pickv b (.bool .true) v) k
noncomputable def ak (b : Bool) (x : Res) : Res := ifk b x .fail
/- the memory -/
noncomputable def lI (S : Words) (h : Heap) (p : Bid) (o : Nat) (k : Int → Res) : Res := S.load1 h p o fun v => castI .i64 v k
noncomputable def lK (S : Words) (kd : IntKind) (h : Heap) (p : Bid) (o : Nat) (k : Int → Res) : Res := S.load1 h p o fun v => castI kd v k
noncomputable def lB (S : Words) (h : Heap) (p : Bid) (o : Nat) (k : Bool → Res) : Res := S.load1 h p o fun v => castB v k
noncomputable def lS (S : Words) (h : Heap) (p : Bid) (o : Nat) (k : Nat → Nat → Res) : Res := S.load1 h p o fun v => castS v k
noncomputable def pl (S : Words) (v : V) (d : Nat) (h : Heap) (k : V → Res) : Res := ptrk v fun p n => S.load1 h p (Nat.add n d) k
noncomputable def plI (S : Words) (v : V) (d : Nat) (h : Heap) (k : Int → Res) : Res := ptrk v fun p n => S.load1 h p (Nat.add n d) fun v => castI .i64 v k
noncomputable def plB (S : Words) (v : V) (d : Nat) (h : Heap) (k : Bool → Res) : Res := ptrk v fun p n => S.load1 h p (Nat.add n d) fun v => castB v k
noncomputable def plS (S : Words) (v : V) (d : Nat) (h : Heap) (k : Nat → Nat → Res) : Res := ptrk v fun p n => S.load1 h p (Nat.add n d) fun v => castS v k
noncomputable def pl0 (S : Words) (v : V) (h : Heap) (k : V → Res) : Res := ptrk v fun p n => S.load1 h p n k
noncomputable def plI0 (S : Words) (v : V) (h : Heap) (k : Int → Res) : Res := ptrk v fun p n => S.load1 h p n fun v => castI .i64 v k
noncomputable def plB0 (S : Words) (v : V) (h : Heap) (k : Bool → Res) : Res := ptrk v fun p n => S.load1 h p n fun v => castB v k
noncomputable def plS0 (S : Words) (v : V) (h : Heap) (k : Nat → Nat → Res) : Res := ptrk v fun p n => S.load1 h p n fun v => castS v k
noncomputable def fa (v : V) (d : Nat) (h : Heap) : Res := ptrk v fun p n => .ret (.ptr p (Nat.add n d)) h
/- loops -/
noncomputable def lq (b : (List V → Heap → Res) → List V → Heap → Res) (n : Nat) (vs : List V) (h : Heap) (k : List V → Heap → Res) : Res := contk (lpk b n vs h) fun x l h => nork x (k l h) .fail
noncomputable def cn (x : Res) (k : List V → Heap → Res) : Res := contk x fun x l h => nork x (k l h) .fail
/- an element -/
noncomputable def ix (v : V) (i : Int) (k : Bid → Nat → Nat → Res) : Res := slk v (fun p o n _ _ => natk i fun j => ak (Nat.blt j n) (k p o j)) .fail .fail
/- values -/
abbrev I (i : Int) : V := .int .i64 i
abbrev ik (n : Nat) : V := .int .i64 (.ofNat n)
abbrev uk (n : Nat) : V := .int .u8 (.ofNat n)
noncomputable abbrev iq (i : Int) (n : Nat) : Bool := ieq i (.ofNat n)
noncomputable abbrev ne (i : Int) (n : Nat) : Bool := Bool.not (ieq i (.ofNat n))
noncomputable abbrev ad (i : Int) (n : Nat) : Int := wrapv .i64 (Int.add i (.ofNat n))
noncomputable abbrev sb (i : Int) (n : Nat) : Int := wrapv .i64 (Int.sub i (.ofNat n))
noncomputable abbrev ai (i j : Int) : Int := wrapv .i64 (Int.add i j)
noncomputable abbrev si (i j : Int) : Int := wrapv .i64 (Int.sub i j)
end Go.Ev
