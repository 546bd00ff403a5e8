/- EvForget: texts joined. -/
import Derived.Test.YtobbabhldblljaaGreatDoorEvAnn
import Derived.Test.YtobbabhldblljaaGreatDoorEvW24Sh1
import Derived.Test.YtobbabhldblljaaGreatDoorEvW24Sh2
import Derived.Below
/- EVALUATOR, 29: the table of functions; a call out of a memory that is nearly empty. -/
namespace Go.Ev
variable {P : Program}
def FT.put (t : FT) (f : Fid) (p : PO) : FT:=N.set t f.a (N.set (N.get t f.a) f.b (N.set (N.get (N.get t f.a) f.b) f.c (N.set (N.get (N.get (N.get t f.a) f.b) f.c) f.d p)))
def FT.none : FT:=N.all (N.all (N.all (N.all .no)))
def FT.of : List (Fid × PO)→FT
 | []=>FT.none
 | (f,p) :: l=>(FT.of l).put f p
theorem N.all_get {α : Type} (v : α) (d : D) : (N.all v).get d = v:=by cases d <;> rfl
theorem FT.get_put (t : FT) (f g : Fid) (p : PO) : (g = f∧(t.put f p).get g = p) ∨ (t.put f p).get g = t.get g:=by
 obtain ⟨a,b,c,d⟩:=f
 obtain ⟨a',b',c',d'⟩:=g
 simp only [FT.put,FT.get]
 by_cases h1 : a' = a
 · subst h1
   rw [N.get_set]
   by_cases h2 : b' = b
   · subst h2
     rw [N.get_set]
     by_cases h3 : c' = c
     · subst h3
       rw [N.get_set]
       by_cases h4 : d' = d
       · subst h4; rw [N.get_set]; exact .inl ⟨rfl,rfl⟩
       · rw [N.get_set_ne _ h4]; exact .inr rfl
     · rw [N.get_set_ne _ h3]; exact .inr rfl
   · rw [N.get_set_ne _ h2]; exact .inr rfl
 · rw [N.get_set_ne _ h1]; exact .inr rfl
theorem FT.of_ok {ng : Nat} {f : Fid} : ∀ {l : List (Fid × PO)},(∀ x ∈ l,POok P ng x.1.val x.2)→POok P ng f.val ((FT.of l).get f)
 | [],_=>by
   simp only [FT.of,FT.none,FT.get,N.all_get]
   exact trivial
 | (g,q) :: l,h=>by
   simp only [FT.of]
   rcases FT.get_put (FT.of l) g f q with ⟨rfl,h1⟩ | h1
   · rw [h1]; exact h (f,q) (by simp)
   · rw [h1]; exact FT.of_ok fun x hx=>h x (List.mem_cons_of_mem _ hx)
theorem TabOk.of {ng : Nat} {tab : FT} {l : List (Fid × PO)} (ht : tab = FT.of l) (h : ∀ x ∈ l,POok P ng x.1.val x.2) : TabOk P ng tab:=by
 intro f
 rw [ht]
 exact FT.of_ok h
inductive OkL (P : Program) (ng : Nat) : List (Fid × PO)→Prop where
 | nil : OkL P ng []
 | cons {f : Fid} {p : PO} {l : List (Fid × PO)} (h : POok P ng f.val p) (hs : OkL P ng l) : OkL P ng ((f,p) :: l)
theorem OkL.all {ng : Nat} {l : List (Fid × PO)} (h : OkL P ng l) : ∀ x ∈ l,POok P ng x.1.val x.2:=by
 induction h with
 | nil=>intro x hx; cases hx
 | cons h _ ih=>
   intro x hx
   rcases List.mem_cons.1 hx with rfl | hx
   · exact h
   · exact ih x hx
theorem TabOk.of2 {ng : Nat} {tab : FT} {l : List (Fid × PO)} (ht : tab = FT.of l) (h : OkL P ng l) : TabOk P ng tab:=.of ht h.all
theorem TabOk.put {ng : Nat} {tab : FT} {f : Fid} {p : PO} (ok : TabOk P ng tab) (h : POok P ng f.val p) : TabOk P ng (tab.put f p):=by
 intro g
 rcases FT.get_put tab f g p with ⟨rfl,h1⟩ | h1
 · rw [h1]; exact h
 · rw [h1]; exact ok g
def yesV : V→Bool
 | .bool b=>b
 | _=>false
noncomputable def yes (r : Res) : Bool:=Res.rec (motive:=fun _=>Bool) false (fun _ _ _=>false) (fun v _=>yesV v) (fun _ _=>false) (fun _ _ a b=>Bool.rec (motive:=fun _=>Bool) false b a) r
theorem yes_alt {a b : Res} (h : yes (.alt a b) = true) : yes a = true∧yes b = true:=by
 have h : Bool.rec (motive:=fun _=>Bool) false (yes b) (yes a) = true:=h
 cases ha : yes a with
 | true=>rw [ha] at h; exact ⟨rfl,h⟩
 | false=>rw [ha] at h; cases h
theorem yes_fine : ∀ {r : Res},yes r = true→Fine r
 | .alt a b,h=>fun e=>e.elim (yes_fine (yes_alt h).1) (yes_fine (yes_alt h).2)
 | .fail,h=>by cases h
 | .done _ _ _,h=>by cases h
 | .ret _ _,h=>fun e=>by cases e
 | .pan _ _,h=>by cases h
theorem yes_leaf {x : Res} : ∀ {r : Res},yes r = true→Leaf x r→yes x = true
 | .alt a b,h,e=>e.elim (yes_leaf (yes_alt h).1) (yes_leaf (yes_alt h).2)
 | .fail,h,e=>by cases h
 | .done _ _ _,h,e=>by cases h
 | .ret _ _,h,e=>by cases e; exact h
 | .pan _ _,h,e=>by cases h
theorem yes_came {ρ : Rho} {h : Heap} {w : World} {e : Ending} {w' : World} {r : Res} (hy : yes r = true) (c : Came P ρ h w r e w') : ∃ h',Came P ρ h w (.ret (.bool true) h') e w':=by
 obtain ⟨x,h1,h2,h3⟩:=c.leaf
 have h4:=yes_leaf hy h1
 cases x with
 | ret v h'=>
   have h4 : yesV v = true:=h4
   cases v with
   | bool b=>
     have : b = true:=h4
     subst this
     exact ⟨h',h3⟩
   | _=>cases h4
 | alt a b=>exact h2.elim
 | _=>cases h4
end Go.Ev

/- InlineKnown: the table of functions. -/
namespace Go.Ev.W24
open Go.Proofs
set_option maxRecDepth 100000
noncomputable section
abbrev e3tabA : PO:=.sh (sh3 words)
abbrev e4tabA : PO:=.sh (sh4 words)
abbrev e5tabA : PO:=.sh (sh5 words)
abbrev e6tabA : PO:=.sh (sh6 words)
abbrev e7tabA : PO:=.sh (sh7 words)
abbrev e8tabA : PO:=.sh (sh8 words)
abbrev e9tabA : PO:=.sh (sh9 words)
abbrev e10tabA : PO:=.sh (sh10 words)
abbrev e11tabA : PO:=.sh (sh11 words)
abbrev e12tabA : PO:=.sh (sh12 words)
abbrev e13tabA : PO:=.sh (sh13 words)
abbrev e14tabA : PO:=.sh (sh14 words)
abbrev e15tabA : PO:=.sh (sh15 words)
abbrev e16tabA : PO:=.sh (sh16 words)
abbrev e17tabA : PO:=.sh (sh17 words)
abbrev e18tabA : PO:=.sh (sh18 words)
abbrev e19tabA : PO:=.sh (sh19 words)
abbrev e20tabA : PO:=.sh (sh20 words)
abbrev e21tabA : PO:=.sh (sh21 words)
abbrev e22tabA : PO:=.sh (sh22 words)
abbrev e23tabA : PO:=.sh (sh23 words)
abbrev e24tabA : PO:=.sh (sh24 words)
abbrev e25tabA : PO:=.sh (sh25 words)
abbrev e26tabA : PO:=.sh (sh26 words)
abbrev e27tabA : PO:=.sh (sh27 words)
abbrev e28tabA : PO:=.sh (sh28 words)
abbrev e29tabA : PO:=.sh (sh29 words)
abbrev e30tabA : PO:=.sh (sh30 words)
abbrev e31tabA : PO:=.sh (sh31 words)
abbrev e32tabA : PO:=.sh (sh32 words)
abbrev e33tabA : PO:=.sh (sh33 words)
abbrev e34tabA : PO:=.sh (sh34 words)
abbrev e35tabA : PO:=.sh (sh35 words)
abbrev e36tabA : PO:=.sh (sh36 words)
abbrev e37tabA : PO:=.sh (sh37 words)
abbrev e38tabA : PO:=.sh (sh38 words)
abbrev e39tabA : PO:=.sh (sh39 words)
abbrev e40tabA : PO:=.sh (sh40 words)
abbrev e41tabA : PO:=.sh (sh41 words)
abbrev e42tabA : PO:=.sh (sh42 words)
abbrev e43tabA : PO:=.sh (sh43 words)
abbrev e44tabA : PO:=.sh (sh44 words)
abbrev e45tabA : PO:=.sh (sh45 words)
abbrev e46tabA : PO:=.sh (sh46 words)
abbrev e47tabA : PO:=.sh (sh47 words)
abbrev e48tabA : PO:=.sh (sh48 words)
abbrev e49tabA : PO:=.sh (sh49 words)
abbrev e50tabA : PO:=.sh (sh50 words)
abbrev e51tabA : PO:=.sh (sh51 words)
abbrev e52tabA : PO:=.sh (sh52 words)
abbrev e53tabA : PO:=.sh (sh53 words)
abbrev e54tabA : PO:=.sh (sh54 words)
abbrev e55tabA : PO:=.sh (sh55 words)
abbrev e56tabA : PO:=.sh (sh56 words)
abbrev e57tabA : PO:=.sh (sh57 words)
abbrev e58tabA : PO:=.sh (sh58 words)
abbrev e59tabA : PO:=.sh (sh59 words)
abbrev e60tabA : PO:=.sh (sh60 words)
abbrev e61tabA : PO:=.sh (sh61 words)
abbrev e62tabA : PO:=.sh (sh62 words)
abbrev e63tabA : PO:=.sh (sh63 words)
abbrev e64tabA : PO:=.sh (sh64 words)
abbrev e65tabA : PO:=.sh (sh65 words)
abbrev e66tabA : PO:=.sh (sh66 words)
abbrev e67tabA : PO:=.sh (sh67 words)
abbrev e68tabA : PO:=.sh (sh68 words)
abbrev e69tabA : PO:=.sh (sh69 words)
abbrev e70tabA : PO:=.sh (sh70 words)
abbrev e71tabA : PO:=.sh (sh71 words)
abbrev e72tabA : PO:=.sh (sh72 words)
abbrev e73tabA : PO:=.sh (sh73 words)
abbrev e74tabA : PO:=.sh (sh74 words)
abbrev e75tabA : PO:=.sh (sh75 words)
abbrev e76tabA : PO:=.sh (sh76 words)
abbrev e78tabA : PO:=.sh (sh78 words)
abbrev e79tabA : PO:=.sh (sh79 words)
abbrev e80tabA : PO:=.sh (sh80 words)
abbrev e81tabA : PO:=.sh (sh81 words)
abbrev e82tabA : PO:=.sh (sh82 words)
abbrev e83tabA : PO:=.sh (sh83 words)
abbrev e84tabA : PO:=.sh (sh84 words)
abbrev e85tabA : PO:=.sh (sh85 words)
abbrev e86tabA : PO:=.sh (sh86 words)
abbrev e87tabA : PO:=.sh (sh87 words)
abbrev e88tabA : PO:=.sh (sh88 words)
abbrev e89tabA : PO:=.sh (sh89 words)
abbrev e90tabA : PO:=.sh (sh90 words)
abbrev e91tabA : PO:=.sh (sh91 words)
abbrev e92tabA : PO:=.sh (sh92 words)
abbrev e93tabA : PO:=.sh (sh93 words)
abbrev e94tabA : PO:=.sh (sh94 words)
abbrev e95tabA : PO:=.sh (sh95 words)
abbrev e96tabA : PO:=.sh (sh96 words)
abbrev e97tabA : PO:=.sh (sh97 words)
abbrev e98tabA : PO:=.sh (sh98 words)
abbrev e101tabA : PO:=.sh (sh101 words)
abbrev e102tabA : PO:=.sh (sh102 words)
abbrev e103tabA : PO:=.sh (sh103 words)
abbrev e104tabA : PO:=.sh (sh104 words)
abbrev e105tabA : PO:=.sh (sh105 words)
abbrev e106tabA : PO:=.sh (sh106 words)
abbrev e108tabA : PO:=.sh (sh108 words)
abbrev e109tabA : PO:=.sh (sh109 words)
abbrev e110tabA : PO:=.sh (sh110 words)
abbrev e111tabA : PO:=.sh (sh111 words)
abbrev e112tabA : PO:=.sh (sh112 words)
abbrev e113tabA : PO:=.sh (sh113 words)
abbrev e114tabA : PO:=.sh (sh114 words)
abbrev e115tabA : PO:=.sh (sh115 words)
abbrev e116tabA : PO:=.sh (sh116 words)
abbrev e117tabA : PO:=.sh (sh117 words)
abbrev e118tabA : PO:=.sh (sh118 words)
abbrev e119tabA : PO:=.sh (sh119 words)
abbrev e120tabA : PO:=.sh (sh120 words)
abbrev e121tabA : PO:=.sh (sh121 words)
abbrev e122tabA : PO:=.sh (sh122 words)
abbrev e123tabA : PO:=.sh (sh123 words)
abbrev e124tabA : PO:=.sh (sh124 words)
abbrev e125tabA : PO:=.sh (sh125 words)
abbrev e126tabA : PO:=.sh (sh126 words)
abbrev e127tabA : PO:=.sh (sh127 words)
abbrev e128tabA : PO:=.sh (sh128 words)
abbrev e129tabA : PO:=.sh (sh129 words)
abbrev e131tabA : PO:=.sh (sh131 words)
abbrev e133tabA : PO:=.sh (sh133 words)
abbrev e134tabA : PO:=.sh (sh134 words)
abbrev e135tabA : PO:=.sh (sh135 words)
abbrev e136tabA : PO:=.sh (sh136 words)
abbrev e137tabA : PO:=.sh (sh137 words)
abbrev e138tabA : PO:=.sh (sh138 words)
abbrev e140tabA : PO:=.sh (sh140 words)
abbrev e141tabA : PO:=.sh (sh141 words)
abbrev e142tabA : PO:=.sh (sh142 words)
abbrev e143tabA : PO:=.sh (sh143 words)
abbrev e144tabA : PO:=.sh (sh144 words)
abbrev e145tabA : PO:=.sh (sh145 words)
abbrev e146tabA : PO:=.sh (sh146 words)
abbrev e147tabA : PO:=.sh (sh147 words)
abbrev e148tabA : PO:=.sh (sh148 words)
abbrev e149tabA : PO:=.sh (sh149 words)
abbrev e150tabA : PO:=.sh (sh150 words)
abbrev e151tabA : PO:=.sh (sh151 words)
abbrev e152tabA : PO:=.sh (sh152 words)
abbrev e153tabA : PO:=.sh (sh153 words)
abbrev e154tabA : PO:=.sh (sh154 words)
abbrev e155tabA : PO:=.sh (sh155 words)
abbrev e156tabA : PO:=.sh (sh156 words)
abbrev e157tabA : PO:=.sh (sh157 words)
abbrev e158tabA : PO:=.sh (sh158 words)
abbrev e159tabA : PO:=.sh (sh159 words)
abbrev e160tabA : PO:=.sh (sh160 words)
abbrev e161tabA : PO:=.sh (sh161 words)
abbrev e162tabA : PO:=.sh (sh162 words)
abbrev e163tabA : PO:=.sh (sh163 words)
abbrev e164tabA : PO:=.sh (sh164 words)
abbrev e165tabA : PO:=.sh (sh165 words)
abbrev e166tabA : PO:=.sh (sh166 words)
abbrev e167tabA : PO:=.sh (sh167 words)
abbrev e168tabA : PO:=.sh (sh168 words)
abbrev e169tabA : PO:=.sh (sh169 words)
abbrev e170tabA : PO:=.sh (sh170 words)
abbrev e172tabA : PO:=.sh (sh172 words)
abbrev e173tabA : PO:=.sh (sh173 words)
abbrev e174tabA : PO:=.sh (sh174 words)
abbrev e175tabA : PO:=.sh (sh175 words)
abbrev e176tabA : PO:=.sh (sh176 words)
abbrev e179tabA : PO:=.sh (sh179 words)
abbrev e180tabA : PO:=.sh (sh180 words)
abbrev e181tabA : PO:=.sh (sh181 words)
abbrev e183tabA : PO:=.sh (sh183 words)
abbrev e184tabA : PO:=.sh (sh184 words)
abbrev e185tabA : PO:=.sh (sh185 words)
abbrev e186tabA : PO:=.sh (sh186 words)
abbrev e187tabA : PO:=.sh (sh187 words)
abbrev e188tabA : PO:=.sh (sh188 words)
abbrev e189tabA : PO:=.sh (sh189 words)
abbrev e190tabA : PO:=.sh (sh190 words)
abbrev e191tabA : PO:=.sh (sh191 words)
abbrev e192tabA : PO:=.sh (sh192 words)
abbrev e193tabA : PO:=.sh (sh193 words)
abbrev e194tabA : PO:=.sh (sh194 words)
abbrev e195tabA : PO:=.sh (sh195 words)
abbrev e196tabA : PO:=.sh (sh196 words)
abbrev e197tabA : PO:=.sh (sh197 words)
abbrev e198tabA : PO:=.sh (sh198 words)
abbrev e199tabA : PO:=.sh (sh199 words)
abbrev e201tabA : PO:=.sh (sh201 words)
abbrev e203tabA : PO:=.sh (sh203 words)
abbrev e204tabA : PO:=.sh (sh204 words)
abbrev e207tabA : PO:=.sh (sh207 words)
abbrev e208tabA : PO:=.sh (sh208 words)
abbrev e209tabA : PO:=.sh (sh209 words)
abbrev e210tabA : PO:=.sh (sh210 words)
abbrev e211tabA : PO:=.sh (sh211 words)
abbrev e212tabA : PO:=.sh (sh212 words)
abbrev e213tabA : PO:=.sh (sh213 words)
abbrev e214tabA : PO:=.sh (sh214 words)
abbrev e215tabA : PO:=.sh (sh215 words)
abbrev e216tabA : PO:=.sh (sh216 words)
abbrev e217tabA : PO:=.sh (sh217 words)
abbrev e218tabA : PO:=.sh (sh218 words)
abbrev e219tabA : PO:=.sh (sh219 words)
abbrev e220tabA : PO:=.sh (sh220 words)
abbrev e221tabA : PO:=.sh (sh221 words)
abbrev e222tabA : PO:=.sh (sh222 words)
abbrev e223tabA : PO:=.sh (sh223 words)
abbrev e224tabA : PO:=.sh (sh224 words)
abbrev e225tabA : PO:=.sh (sh225 words)
abbrev e226tabA : PO:=.sh (sh226 words)
abbrev e228tabA : PO:=.sh (sh228 words)
abbrev e229tabA : PO:=.sh (sh229 words)
abbrev e230tabA : PO:=.sh (sh230 words)
abbrev e231tabA : PO:=.sh (sh231 words)
abbrev e232tabA : PO:=.sh (sh232 words)
abbrev e233tabA : PO:=.sh (sh233 words)
abbrev e234tabA : PO:=.sh (sh234 words)
abbrev e235tabA : PO:=.sh (sh235 words)
abbrev e236tabA : PO:=.sh (sh236 words)
abbrev e237tabA : PO:=.sh (sh237 words)
abbrev e238tabA : PO:=.sh (sh238 words)
abbrev e239tabA : PO:=.sh (sh239 words)
abbrev e240tabA : PO:=.sh (sh240 words)
abbrev e241tabA : PO:=.sh (sh241 words)
abbrev e242tabA : PO:=.sh (sh242 words)
abbrev e243tabA : PO:=.sh (sh243 words)
abbrev e244tabA : PO:=.sh (sh244 words)
abbrev e245tabA : PO:=.sh (sh245 words)
abbrev e246tabA : PO:=.sh (sh246 words)
abbrev e247tabA : PO:=.sh (sh247 words)
abbrev e248tabA : PO:=.sh (sh248 words)
abbrev e249tabA : PO:=.sh (sh249 words)
abbrev e250tabA : PO:=.sh (sh250 words)
abbrev e251tabA : PO:=.sh (sh251 words)
abbrev e252tabA : PO:=.sh (sh252 words)
abbrev e253tabA : PO:=.sh (sh253 words)
abbrev e254tabA : PO:=.sh (sh254 words)
abbrev e255tabA : PO:=.sh (sh255 words)
abbrev e256tabA : PO:=.sh (sh256 words)
abbrev e257tabA : PO:=.sh (sh257 words)
abbrev e258tabA : PO:=.sh (sh258 words)
abbrev e259tabA : PO:=.sh (sh259 words)
abbrev e260tabA : PO:=.sh (sh260 words)
abbrev e261tabA : PO:=.sh (sh261 words)
abbrev e262tabA : PO:=.sh (sh262 words)
abbrev e264tabA : PO:=.sh (sh264 words)
abbrev e265tabA : PO:=.sh (sh265 words)
abbrev e266tabA : PO:=.sh (sh266 words)
abbrev e267tabA : PO:=.sh (sh267 words)
abbrev e269tabA : PO:=.sh (sh269 words)
abbrev e270tabA : PO:=.sh (sh270 words)
abbrev e271tabA : PO:=.sh (sh271 words)
abbrev e273tabA : PO:=.sh (sh273 words)
abbrev e274tabA : PO:=.sh (sh274 words)
abbrev e275tabA : PO:=.sh (sh275 words)
abbrev e277tabA : PO:=.sh (sh277 words)
abbrev e278tabA : PO:=.sh (sh278 words)
abbrev e279tabA : PO:=.sh (sh279 words)
abbrev e280tabA : PO:=.sh (sh280 words)
abbrev e281tabA : PO:=.sh (sh281 words)
abbrev e282tabA : PO:=.sh (sh282 words)
abbrev e283tabA : PO:=.sh (sh283 words)
abbrev e284tabA : PO:=.sh (sh284 words)
abbrev e285tabA : PO:=.sh (sh285 words)
abbrev e286tabA : PO:=.sh (sh286 words)
abbrev e287tabA : PO:=.sh (sh287 words)
abbrev e288tabA : PO:=.sh (sh288 words)
abbrev e289tabA : PO:=.sh (sh289 words)
abbrev e290tabA : PO:=.sh (sh290 words)
abbrev e291tabA : PO:=.sh (sh291 words)
abbrev e292tabA : PO:=.sh (sh292 words)
abbrev e294tabA : PO:=.sh (sh294 words)
abbrev e295tabA : PO:=.sh (sh295 words)
abbrev e296tabA : PO:=.sh (sh296 words)
abbrev e297tabA : PO:=.sh (sh297 words)
abbrev e298tabA : PO:=.sh (sh298 words)
abbrev e299tabA : PO:=.sh (sh299 words)
abbrev e300tabA : PO:=.sh (sh300 words)
abbrev e301tabA : PO:=.sh (sh301 words)
abbrev e302tabA : PO:=.sh (sh302 words)
abbrev e303tabA : PO:=.sh (sh303 words)
abbrev e304tabA : PO:=.sh (sh304 words)
abbrev e305tabA : PO:=.sh (sh305 words)
abbrev e306tabA : PO:=.sh (sh306 words)
abbrev e307tabA : PO:=.sh (sh307 words)
abbrev e309tabA : PO:=.sh (sh309 words)
abbrev e312tabA : PO:=.sh (sh312 words)
abbrev e313tabA : PO:=.sh (sh313 words)
abbrev e314tabA : PO:=.sh (sh314 words)
abbrev e315tabA : PO:=.sh (sh315 words)
abbrev e316tabA : PO:=.sh (sh316 words)
abbrev e317tabA : PO:=.sh (sh317 words)
abbrev e320tabA : PO:=.sh (sh320 words)
abbrev e321tabA : PO:=.sh (sh321 words)
abbrev e322tabA : PO:=.sh (sh322 words)
abbrev e325tabA : PO:=.sh (sh325 words)
abbrev e328tabA : PO:=.sh (sh328 words)
abbrev e330tabA : PO:=.sh (sh330 words)
abbrev e331tabA : PO:=.sh (sh331 words)
abbrev e332tabA : PO:=.sh (sh332 words)
abbrev e333tabA : PO:=.sh (sh333 words)
abbrev e334tabA : PO:=.sh (sh334 words)
abbrev e335tabA : PO:=.sh (sh335 words)
abbrev e336tabA : PO:=.sh (sh336 words)
abbrev e337tabA : PO:=.sh (sh337 words)
abbrev e338tabA : PO:=.sh (sh338 words)
abbrev e339tabA : PO:=.sh (sh339 words)
abbrev e340tabA : PO:=.sh (sh340 words)
abbrev e341tabA : PO:=.sh (sh341 words)
abbrev e342tabA : PO:=.sh (sh342 words)
abbrev e345tabA : PO:=.sh (sh345 words)
abbrev e347tabA : PO:=.sh (sh347 words)
abbrev e348tabA : PO:=.sh (sh348 words)
abbrev e352tabA : PO:=.sh (sh352 words)
abbrev e353tabA : PO:=.sh (sh353 words)
abbrev e355tabA : PO:=.sh (sh355 words)
abbrev e356tabA : PO:=.sh (sh356 words)
abbrev e357tabA : PO:=.sh (sh357 words)
abbrev e358tabA : PO:=.sh (sh358 words)
abbrev e359tabA : PO:=.sh (sh359 words)
abbrev e362tabA : PO:=.sh (sh362 words)
abbrev e363tabA : PO:=.sh (sh363 words)
abbrev e364tabA : PO:=.sh (sh364 words)
abbrev e365tabA : PO:=.sh (sh365 words)
abbrev e366tabA : PO:=.sh (sh366 words)
abbrev e367tabA : PO:=.sh (sh367 words)
abbrev e368tabA : PO:=.sh (sh368 words)
abbrev e369tabA : PO:=.sh (sh369 words)
abbrev e370tabA : PO:=.sh (sh370 words)
abbrev e371tabA : PO:=.sh (sh371 words)
abbrev e374tabA : PO:=.sh (sh374 words)
abbrev e376tabA : PO:=.sh (sh376 words)
abbrev e377tabA : PO:=.sh (sh377 words)
abbrev e34128tabA : PO:=.sh (sh34128 words)
abbrev e34768tabA : PO:=.sh (sh34768 words)
abbrev e36944tabA : PO:=.sh (sh36944 words)
def tabAz1 : Go.Ev.N PO:=⟨.no,.no,.no,.no,.no,.no,.no,.no,.no,.no,.no,.no,.no,.no,.no,.no⟩
def tabAz2 : Go.Ev.N (Go.Ev.N PO):=⟨tabAz1,tabAz1,tabAz1,tabAz1,tabAz1,tabAz1,tabAz1,tabAz1,tabAz1,tabAz1,tabAz1,tabAz1,tabAz1,tabAz1,tabAz1,tabAz1⟩
def tabAz3 : Go.Ev.N (Go.Ev.N (Go.Ev.N PO)):=⟨tabAz2,tabAz2,tabAz2,tabAz2,tabAz2,tabAz2,tabAz2,tabAz2,tabAz2,tabAz2,tabAz2,tabAz2,tabAz2,tabAz2,tabAz2,tabAz2⟩
def tabA1_000 : Go.Ev.N PO:=⟨.no,.no,.no,e3tabA,e4tabA,e5tabA,e6tabA,e7tabA,e8tabA,e9tabA,e10tabA,e11tabA,e12tabA,e13tabA,e14tabA,e15tabA⟩
def tabA1_001 : Go.Ev.N PO:=⟨e16tabA,e17tabA,e18tabA,e19tabA,e20tabA,e21tabA,e22tabA,e23tabA,e24tabA,e25tabA,e26tabA,e27tabA,e28tabA,e29tabA,e30tabA,e31tabA⟩
def tabA1_002 : Go.Ev.N PO:=⟨e32tabA,e33tabA,e34tabA,e35tabA,e36tabA,e37tabA,e38tabA,e39tabA,e40tabA,e41tabA,e42tabA,e43tabA,e44tabA,e45tabA,e46tabA,e47tabA⟩
def tabA1_003 : Go.Ev.N PO:=⟨e48tabA,e49tabA,e50tabA,e51tabA,e52tabA,e53tabA,e54tabA,e55tabA,e56tabA,e57tabA,e58tabA,e59tabA,e60tabA,e61tabA,e62tabA,e63tabA⟩
def tabA1_004 : Go.Ev.N PO:=⟨e64tabA,e65tabA,e66tabA,e67tabA,e68tabA,e69tabA,e70tabA,e71tabA,e72tabA,e73tabA,e74tabA,e75tabA,e76tabA,.no,e78tabA,e79tabA⟩
def tabA1_005 : Go.Ev.N PO:=⟨e80tabA,e81tabA,e82tabA,e83tabA,e84tabA,e85tabA,e86tabA,e87tabA,e88tabA,e89tabA,e90tabA,e91tabA,e92tabA,e93tabA,e94tabA,e95tabA⟩
def tabA1_006 : Go.Ev.N PO:=⟨e96tabA,e97tabA,e98tabA,.no,.no,e101tabA,e102tabA,e103tabA,e104tabA,e105tabA,e106tabA,.no,e108tabA,e109tabA,e110tabA,e111tabA⟩
def tabA1_007 : Go.Ev.N PO:=⟨e112tabA,e113tabA,e114tabA,e115tabA,e116tabA,e117tabA,e118tabA,e119tabA,e120tabA,e121tabA,e122tabA,e123tabA,e124tabA,e125tabA,e126tabA,e127tabA⟩
def tabA1_008 : Go.Ev.N PO:=⟨e128tabA,e129tabA,.no,e131tabA,.no,e133tabA,e134tabA,e135tabA,e136tabA,e137tabA,e138tabA,.no,e140tabA,e141tabA,e142tabA,e143tabA⟩
def tabA1_009 : Go.Ev.N PO:=⟨e144tabA,e145tabA,e146tabA,e147tabA,e148tabA,e149tabA,e150tabA,e151tabA,e152tabA,e153tabA,e154tabA,e155tabA,e156tabA,e157tabA,e158tabA,e159tabA⟩
def tabA1_00a : Go.Ev.N PO:=⟨e160tabA,e161tabA,e162tabA,e163tabA,e164tabA,e165tabA,e166tabA,e167tabA,e168tabA,e169tabA,e170tabA,.no,e172tabA,e173tabA,e174tabA,e175tabA⟩
def tabA1_00b : Go.Ev.N PO:=⟨e176tabA,.no,.no,e179tabA,e180tabA,e181tabA,.no,e183tabA,e184tabA,e185tabA,e186tabA,e187tabA,e188tabA,e189tabA,e190tabA,e191tabA⟩
def tabA1_00c : Go.Ev.N PO:=⟨e192tabA,e193tabA,e194tabA,e195tabA,e196tabA,e197tabA,e198tabA,e199tabA,.no,e201tabA,.no,e203tabA,e204tabA,.no,.no,e207tabA⟩
def tabA1_00d : Go.Ev.N PO:=⟨e208tabA,e209tabA,e210tabA,e211tabA,e212tabA,e213tabA,e214tabA,e215tabA,e216tabA,e217tabA,e218tabA,e219tabA,e220tabA,e221tabA,e222tabA,e223tabA⟩
def tabA1_00e : Go.Ev.N PO:=⟨e224tabA,e225tabA,e226tabA,.no,e228tabA,e229tabA,e230tabA,e231tabA,e232tabA,e233tabA,e234tabA,e235tabA,e236tabA,e237tabA,e238tabA,e239tabA⟩
def tabA1_00f : Go.Ev.N PO:=⟨e240tabA,e241tabA,e242tabA,e243tabA,e244tabA,e245tabA,e246tabA,e247tabA,e248tabA,e249tabA,e250tabA,e251tabA,e252tabA,e253tabA,e254tabA,e255tabA⟩
def tabA2_00 : Go.Ev.N (Go.Ev.N PO):=⟨tabA1_000,tabA1_001,tabA1_002,tabA1_003,tabA1_004,tabA1_005,tabA1_006,tabA1_007,tabA1_008,tabA1_009,tabA1_00a,tabA1_00b,tabA1_00c,tabA1_00d,tabA1_00e,tabA1_00f⟩
def tabA1_010 : Go.Ev.N PO:=⟨e256tabA,e257tabA,e258tabA,e259tabA,e260tabA,e261tabA,e262tabA,.no,e264tabA,e265tabA,e266tabA,e267tabA,.no,e269tabA,e270tabA,e271tabA⟩
def tabA1_011 : Go.Ev.N PO:=⟨.no,e273tabA,e274tabA,e275tabA,.no,e277tabA,e278tabA,e279tabA,e280tabA,e281tabA,e282tabA,e283tabA,e284tabA,e285tabA,e286tabA,e287tabA⟩
def tabA1_012 : Go.Ev.N PO:=⟨e288tabA,e289tabA,e290tabA,e291tabA,e292tabA,.no,e294tabA,e295tabA,e296tabA,e297tabA,e298tabA,e299tabA,e300tabA,e301tabA,e302tabA,e303tabA⟩
def tabA1_013 : Go.Ev.N PO:=⟨e304tabA,e305tabA,e306tabA,e307tabA,.no,e309tabA,.no,.no,e312tabA,e313tabA,e314tabA,e315tabA,e316tabA,e317tabA,.no,.no⟩
def tabA1_014 : Go.Ev.N PO:=⟨e320tabA,e321tabA,e322tabA,.no,.no,e325tabA,.no,.no,e328tabA,.no,e330tabA,e331tabA,e332tabA,e333tabA,e334tabA,e335tabA⟩
def tabA1_015 : Go.Ev.N PO:=⟨e336tabA,e337tabA,e338tabA,e339tabA,e340tabA,e341tabA,e342tabA,.no,.no,e345tabA,.no,e347tabA,e348tabA,.no,.no,.no⟩
def tabA1_016 : Go.Ev.N PO:=⟨e352tabA,e353tabA,.no,e355tabA,e356tabA,e357tabA,e358tabA,e359tabA,.no,.no,e362tabA,e363tabA,e364tabA,e365tabA,e366tabA,e367tabA⟩
def tabA1_017 : Go.Ev.N PO:=⟨e368tabA,e369tabA,e370tabA,e371tabA,.no,.no,e374tabA,.no,e376tabA,e377tabA,.no,.no,.no,.no,.no,.no⟩
def tabA2_01 : Go.Ev.N (Go.Ev.N PO):=⟨tabA1_010,tabA1_011,tabA1_012,tabA1_013,tabA1_014,tabA1_015,tabA1_016,tabA1_017,tabAz1,tabAz1,tabAz1,tabAz1,tabAz1,tabAz1,tabAz1,tabAz1⟩
def tabA3_0 : Go.Ev.N (Go.Ev.N (Go.Ev.N PO)):=⟨tabA2_00,tabA2_01,tabAz2,tabAz2,tabAz2,tabAz2,tabAz2,tabAz2,tabAz2,tabAz2,tabAz2,tabAz2,tabAz2,tabAz2,tabAz2,tabAz2⟩
def tabA1_855 : Go.Ev.N PO:=⟨e34128tabA,.no,.no,.no,.no,.no,.no,.no,.no,.no,.no,.no,.no,.no,.no,.no⟩
def tabA2_85 : Go.Ev.N (Go.Ev.N PO):=⟨tabAz1,tabAz1,tabAz1,tabAz1,tabAz1,tabA1_855,tabAz1,tabAz1,tabAz1,tabAz1,tabAz1,tabAz1,tabAz1,tabAz1,tabAz1,tabAz1⟩
def tabA1_87d : Go.Ev.N PO:=⟨e34768tabA,.no,.no,.no,.no,.no,.no,.no,.no,.no,.no,.no,.no,.no,.no,.no⟩
def tabA2_87 : Go.Ev.N (Go.Ev.N PO):=⟨tabAz1,tabAz1,tabAz1,tabAz1,tabAz1,tabAz1,tabAz1,tabAz1,tabAz1,tabAz1,tabAz1,tabAz1,tabAz1,tabA1_87d,tabAz1,tabAz1⟩
def tabA3_8 : Go.Ev.N (Go.Ev.N (Go.Ev.N PO)):=⟨tabAz2,tabAz2,tabAz2,tabAz2,tabAz2,tabA2_85,tabAz2,tabA2_87,tabAz2,tabAz2,tabAz2,tabAz2,tabAz2,tabAz2,tabAz2,tabAz2⟩
def tabA1_905 : Go.Ev.N PO:=⟨e36944tabA,.no,.no,.no,.no,.no,.no,.no,.no,.no,.no,.no,.no,.no,.no,.no⟩
def tabA2_90 : Go.Ev.N (Go.Ev.N PO):=⟨tabAz1,tabAz1,tabAz1,tabAz1,tabAz1,tabA1_905,tabAz1,tabAz1,tabAz1,tabAz1,tabAz1,tabAz1,tabAz1,tabAz1,tabAz1,tabAz1⟩
def tabA3_9 : Go.Ev.N (Go.Ev.N (Go.Ev.N PO)):=⟨tabA2_90,tabAz2,tabAz2,tabAz2,tabAz2,tabAz2,tabAz2,tabAz2,tabAz2,tabAz2,tabAz2,tabAz2,tabAz2,tabAz2,tabAz2,tabAz2⟩
def tabA : FT:=⟨tabA3_0,tabAz3,tabAz3,tabAz3,tabAz3,tabAz3,tabAz3,tabAz3,tabA3_8,tabA3_9,tabAz3,tabAz3,tabAz3,tabAz3,tabAz3,tabAz3⟩
theorem tabAOk : TabOk Tryz.prog 8 tabA:=TabOk.of2 (l:=[(f3,e3tabA),(f4,e4tabA),(f5,e5tabA),(f6,e6tabA),(f7,e7tabA),(f8,e8tabA),(f9,e9tabA),(f10,e10tabA),(f11,e11tabA),(f12,e12tabA),(f13,e13tabA),(f14,e14tabA),(f15,e15tabA),(f16,e16tabA),(f17,e17tabA),(f18,e18tabA),(f19,e19tabA),(f20,e20tabA),(f21,e21tabA),(f22,e22tabA),(f23,e23tabA),(f24,e24tabA),(f25,e25tabA),(f26,e26tabA),(f27,e27tabA),(f28,e28tabA),(f29,e29tabA),(f30,e30tabA),(f31,e31tabA),(f32,e32tabA),(f33,e33tabA),(f34,e34tabA),(f35,e35tabA),(f36,e36tabA),(f37,e37tabA),(f38,e38tabA),(f39,e39tabA),(f40,e40tabA),(f41,e41tabA),(f42,e42tabA),(f43,e43tabA),(f44,e44tabA),(f45,e45tabA),(f46,e46tabA),(f47,e47tabA),(f48,e48tabA),(f49,e49tabA),(f50,e50tabA),(f51,e51tabA),(f52,e52tabA),(f53,e53tabA),(f54,e54tabA),(f55,e55tabA),(f56,e56tabA),(f57,e57tabA),(f58,e58tabA),(f59,e59tabA),(f60,e60tabA),(f61,e61tabA),(f62,e62tabA),(f63,e63tabA),(f64,e64tabA),(f65,e65tabA),(f66,e66tabA),(f67,e67tabA),(f68,e68tabA),(f69,e69tabA),(f70,e70tabA),(f71,e71tabA),(f72,e72tabA),(f73,e73tabA),(f74,e74tabA),(f75,e75tabA),(f76,e76tabA),(f78,e78tabA),(f79,e79tabA),(f80,e80tabA),(f81,e81tabA),(f82,e82tabA),(f83,e83tabA),(f84,e84tabA),(f85,e85tabA),(f86,e86tabA),(f87,e87tabA),(f88,e88tabA),(f89,e89tabA),(f90,e90tabA),(f91,e91tabA),(f92,e92tabA),(f93,e93tabA),(f94,e94tabA),(f95,e95tabA),(f96,e96tabA),(f97,e97tabA),(f98,e98tabA),(f101,e101tabA),(f102,e102tabA),(f103,e103tabA),(f104,e104tabA),(f105,e105tabA),(f106,e106tabA),(f108,e108tabA),(f109,e109tabA),(f110,e110tabA),(f111,e111tabA),(f112,e112tabA),(f113,e113tabA),(f114,e114tabA),(f115,e115tabA),(f116,e116tabA),(f117,e117tabA),(f118,e118tabA),(f119,e119tabA),(f120,e120tabA),(f121,e121tabA),(f122,e122tabA),(f123,e123tabA),(f124,e124tabA),(f125,e125tabA),(f126,e126tabA),(f127,e127tabA),(f128,e128tabA),(f129,e129tabA),(f131,e131tabA),(f133,e133tabA),(f134,e134tabA),(f135,e135tabA),(f136,e136tabA),(f137,e137tabA),(f138,e138tabA),(f140,e140tabA),(f141,e141tabA),(f142,e142tabA),(f143,e143tabA),(f144,e144tabA),(f145,e145tabA),(f146,e146tabA),(f147,e147tabA),(f148,e148tabA),(f149,e149tabA),(f150,e150tabA),(f151,e151tabA),(f152,e152tabA),(f153,e153tabA),(f154,e154tabA),(f155,e155tabA),(f156,e156tabA),(f157,e157tabA),(f158,e158tabA),(f159,e159tabA),(f160,e160tabA),(f161,e161tabA),(f162,e162tabA),(f163,e163tabA),(f164,e164tabA),(f165,e165tabA),(f166,e166tabA),(f167,e167tabA),(f168,e168tabA),(f169,e169tabA),(f170,e170tabA),(f172,e172tabA),(f173,e173tabA),(f174,e174tabA),(f175,e175tabA),(f176,e176tabA),(f179,e179tabA),(f180,e180tabA),(f181,e181tabA),(f183,e183tabA),(f184,e184tabA),(f185,e185tabA),(f186,e186tabA),(f187,e187tabA),(f188,e188tabA),(f189,e189tabA),(f190,e190tabA),(f191,e191tabA),(f192,e192tabA),(f193,e193tabA),(f194,e194tabA),(f195,e195tabA),(f196,e196tabA),(f197,e197tabA),(f198,e198tabA),(f199,e199tabA),(f201,e201tabA),(f203,e203tabA),(f204,e204tabA),(f207,e207tabA),(f208,e208tabA),(f209,e209tabA),(f210,e210tabA),(f211,e211tabA),(f212,e212tabA),(f213,e213tabA),(f214,e214tabA),(f215,e215tabA),(f216,e216tabA),(f217,e217tabA),(f218,e218tabA),(f219,e219tabA),(f220,e220tabA),(f221,e221tabA),(f222,e222tabA),(f223,e223tabA),(f224,e224tabA),(f225,e225tabA),(f226,e226tabA),(f228,e228tabA),(f229,e229tabA),(f230,e230tabA),(f231,e231tabA),(f232,e232tabA),(f233,e233tabA),(f234,e234tabA),(f235,e235tabA),(f236,e236tabA),(f237,e237tabA),(f238,e238tabA),(f239,e239tabA),(f240,e240tabA),(f241,e241tabA),(f242,e242tabA),(f243,e243tabA),(f244,e244tabA),(f245,e245tabA),(f246,e246tabA),(f247,e247tabA),(f248,e248tabA),(f249,e249tabA),(f250,e250tabA),(f251,e251tabA),(f252,e252tabA),(f253,e253tabA),(f254,e254tabA),(f255,e255tabA),(f256,e256tabA),(f257,e257tabA),(f258,e258tabA),(f259,e259tabA),(f260,e260tabA),(f261,e261tabA),(f262,e262tabA),(f264,e264tabA),(f265,e265tabA),(f266,e266tabA),(f267,e267tabA),(f269,e269tabA),(f270,e270tabA),(f271,e271tabA),(f273,e273tabA),(f274,e274tabA),(f275,e275tabA),(f277,e277tabA),(f278,e278tabA),(f279,e279tabA),(f280,e280tabA),(f281,e281tabA),(f282,e282tabA),(f283,e283tabA),(f284,e284tabA),(f285,e285tabA),(f286,e286tabA),(f287,e287tabA),(f288,e288tabA),(f289,e289tabA),(f290,e290tabA),(f291,e291tabA),(f292,e292tabA),(f294,e294tabA),(f295,e295tabA),(f296,e296tabA),(f297,e297tabA),(f298,e298tabA),(f299,e299tabA),(f300,e300tabA),(f301,e301tabA),(f302,e302tabA),(f303,e303tabA),(f304,e304tabA),(f305,e305tabA),(f306,e306tabA),(f307,e307tabA),(f309,e309tabA),(f312,e312tabA),(f313,e313tabA),(f314,e314tabA),(f315,e315tabA),(f316,e316tabA),(f317,e317tabA),(f320,e320tabA),(f321,e321tabA),(f322,e322tabA),(f325,e325tabA),(f328,e328tabA),(f330,e330tabA),(f331,e331tabA),(f332,e332tabA),(f333,e333tabA),(f334,e334tabA),(f335,e335tabA),(f336,e336tabA),(f337,e337tabA),(f338,e338tabA),(f339,e339tabA),(f340,e340tabA),(f341,e341tabA),(f342,e342tabA),(f345,e345tabA),(f347,e347tabA),(f348,e348tabA),(f352,e352tabA),(f353,e353tabA),(f355,e355tabA),(f356,e356tabA),(f357,e357tabA),(f358,e358tabA),(f359,e359tabA),(f362,e362tabA),(f363,e363tabA),(f364,e364tabA),(f365,e365tabA),(f366,e366tabA),(f367,e367tabA),(f368,e368tabA),(f369,e369tabA),(f370,e370tabA),(f371,e371tabA),(f374,e374tabA),(f376,e376tabA),(f377,e377tabA),(f34128,e34128tabA),(f34768,e34768tabA),(f36944,e36944tabA)]) (by kernel_rfl) (OkL.cons (po3) (OkL.cons (po4) (OkL.cons (po5) (OkL.cons (po6) (OkL.cons (po7) (OkL.cons (po8) (OkL.cons (po9) (OkL.cons (po10) (OkL.cons (po11) (OkL.cons (po12) (OkL.cons (po13) (OkL.cons (po14) (OkL.cons (po15) (OkL.cons (po16) (OkL.cons (po17) (OkL.cons (po18) (OkL.cons (po19) (OkL.cons (po20) (OkL.cons (po21) (OkL.cons (po22) (OkL.cons (po23) (OkL.cons (po24) (OkL.cons (po25) (OkL.cons (po26) (OkL.cons (po27) (OkL.cons (po28) (OkL.cons (po29) (OkL.cons (po30) (OkL.cons (po31) (OkL.cons (po32) (OkL.cons (po33) (OkL.cons (po34) (OkL.cons (po35) (OkL.cons (po36) (OkL.cons (po37) (OkL.cons (po38) (OkL.cons (po39) (OkL.cons (po40) (OkL.cons (po41) (OkL.cons (po42) (OkL.cons (po43) (OkL.cons (po44) (OkL.cons (po45) (OkL.cons (po46) (OkL.cons (po47) (OkL.cons (po48) (OkL.cons (po49) (OkL.cons (po50) (OkL.cons (po51) (OkL.cons (po52) (OkL.cons (po53) (OkL.cons (po54) (OkL.cons (po55) (OkL.cons (po56) (OkL.cons (po57) (OkL.cons (po58) (OkL.cons (po59) (OkL.cons (po60) (OkL.cons (po61) (OkL.cons (po62) (OkL.cons (po63) (OkL.cons (po64) (OkL.cons (po65) (OkL.cons (po66) (OkL.cons (po67) (OkL.cons (po68) (OkL.cons (po69) (OkL.cons (po70) (OkL.cons (po71) (OkL.cons (po72) (OkL.cons (po73) (OkL.cons (po74) (OkL.cons (po75) (OkL.cons (po76) (OkL.cons (po78) (OkL.cons (po79) (OkL.cons (po80) (OkL.cons (po81) (OkL.cons (po82) (OkL.cons (po83) (OkL.cons (po84) (OkL.cons (po85) (OkL.cons (po86) (OkL.cons (po87) (OkL.cons (po88) (OkL.cons (po89) (OkL.cons (po90) (OkL.cons (po91) (OkL.cons (po92) (OkL.cons (po93) (OkL.cons (po94) (OkL.cons (po95) (OkL.cons (po96) (OkL.cons (po97) (OkL.cons (po98) (OkL.cons (po101) (OkL.cons (po102) (OkL.cons (po103) (OkL.cons (po104) (OkL.cons (po105) (OkL.cons (po106) (OkL.cons (po108) (OkL.cons (po109) (OkL.cons (po110) (OkL.cons (po111) (OkL.cons (po112) (OkL.cons (po113) (OkL.cons (po114) (OkL.cons (po115) (OkL.cons (po116) (OkL.cons (po117) (OkL.cons (po118) (OkL.cons (po119) (OkL.cons (po120) (OkL.cons (po121) (OkL.cons (po122) (OkL.cons (po123) (OkL.cons (po124) (OkL.cons (po125) (OkL.cons (po126) (OkL.cons (po127) (OkL.cons (po128) (OkL.cons (po129) (OkL.cons (po131) (OkL.cons (po133) (OkL.cons (po134) (OkL.cons (po135) (OkL.cons (po136) (OkL.cons (po137) (OkL.cons (po138) (OkL.cons (po140) (OkL.cons (po141) (OkL.cons (po142) (OkL.cons (po143) (OkL.cons (po144) (OkL.cons (po145) (OkL.cons (po146) (OkL.cons (po147) (OkL.cons (po148) (OkL.cons (po149) (OkL.cons (po150) (OkL.cons (po151) (OkL.cons (po152) (OkL.cons (po153) (OkL.cons (po154) (OkL.cons (po155) (OkL.cons (po156) (OkL.cons (po157) (OkL.cons (po158) (OkL.cons (po159) (OkL.cons (po160) (OkL.cons (po161) (OkL.cons (po162) (OkL.cons (po163) (OkL.cons (po164) (OkL.cons (po165) (OkL.cons (po166) (OkL.cons (po167) (OkL.cons (po168) (OkL.cons (po169) (OkL.cons (po170) (OkL.cons (po172) (OkL.cons (po173) (OkL.cons (po174) (OkL.cons (po175) (OkL.cons (po176) (OkL.cons (po179) (OkL.cons (po180) (OkL.cons (po181) (OkL.cons (po183) (OkL.cons (po184) (OkL.cons (po185) (OkL.cons (po186) (OkL.cons (po187) (OkL.cons (po188) (OkL.cons (po189) (OkL.cons (po190) (OkL.cons (po191) (OkL.cons (po192) (OkL.cons (po193) (OkL.cons (po194) (OkL.cons (po195) (OkL.cons (po196) (OkL.cons (po197) (OkL.cons (po198) (OkL.cons (po199) (OkL.cons (po201) (OkL.cons (po203) (OkL.cons (po204) (OkL.cons (po207) (OkL.cons (po208) (OkL.cons (po209) (OkL.cons (po210) (OkL.cons (po211) (OkL.cons (po212) (OkL.cons (po213) (OkL.cons (po214) (OkL.cons (po215) (OkL.cons (po216) (OkL.cons (po217) (OkL.cons (po218) (OkL.cons (po219) (OkL.cons (po220) (OkL.cons (po221) (OkL.cons (po222) (OkL.cons (po223) (OkL.cons (po224) (OkL.cons (po225) (OkL.cons (po226) (OkL.cons (po228) (OkL.cons (po229) (OkL.cons (po230) (OkL.cons (po231) (OkL.cons (po232) (OkL.cons (po233) (OkL.cons (po234) (OkL.cons (po235) (OkL.cons (po236) (OkL.cons (po237) (OkL.cons (po238) (OkL.cons (po239) (OkL.cons (po240) (OkL.cons (po241) (OkL.cons (po242) (OkL.cons (po243) (OkL.cons (po244) (OkL.cons (po245) (OkL.cons (po246) (OkL.cons (po247) (OkL.cons (po248) (OkL.cons (po249) (OkL.cons (po250) (OkL.cons (po251) (OkL.cons (po252) (OkL.cons (po253) (OkL.cons (po254) (OkL.cons (po255) (OkL.cons (po256) (OkL.cons (po257) (OkL.cons (po258) (OkL.cons (po259) (OkL.cons (po260) (OkL.cons (po261) (OkL.cons (po262) (OkL.cons (po264) (OkL.cons (po265) (OkL.cons (po266) (OkL.cons (po267) (OkL.cons (po269) (OkL.cons (po270) (OkL.cons (po271) (OkL.cons (po273) (OkL.cons (po274) (OkL.cons (po275) (OkL.cons (po277) (OkL.cons (po278) (OkL.cons (po279) (OkL.cons (po280) (OkL.cons (po281) (OkL.cons (po282) (OkL.cons (po283) (OkL.cons (po284) (OkL.cons (po285) (OkL.cons (po286) (OkL.cons (po287) (OkL.cons (po288) (OkL.cons (po289) (OkL.cons (po290) (OkL.cons (po291) (OkL.cons (po292) (OkL.cons (po294) (OkL.cons (po295) (OkL.cons (po296) (OkL.cons (po297) (OkL.cons (po298) (OkL.cons (po299) (OkL.cons (po300) (OkL.cons (po301) (OkL.cons (po302) (OkL.cons (po303) (OkL.cons (po304) (OkL.cons (po305) (OkL.cons (po306) (OkL.cons (po307) (OkL.cons (po309) (OkL.cons (po312) (OkL.cons (po313) (OkL.cons (po314) (OkL.cons (po315) (OkL.cons (po316) (OkL.cons (po317) (OkL.cons (po320) (OkL.cons (po321) (OkL.cons (po322) (OkL.cons (po325) (OkL.cons (po328) (OkL.cons (po330) (OkL.cons (po331) (OkL.cons (po332) (OkL.cons (po333) (OkL.cons (po334) (OkL.cons (po335) (OkL.cons (po336) (OkL.cons (po337) (OkL.cons (po338) (OkL.cons (po339) (OkL.cons (po340) (OkL.cons (po341) (OkL.cons (po342) (OkL.cons (po345) (OkL.cons (po347) (OkL.cons (po348) (OkL.cons (po352) (OkL.cons (po353) (OkL.cons (po355) (OkL.cons (po356) (OkL.cons (po357) (OkL.cons (po358) (OkL.cons (po359) (OkL.cons (po362) (OkL.cons (po363) (OkL.cons (po364) (OkL.cons (po365) (OkL.cons (po366) (OkL.cons (po367) (OkL.cons (po368) (OkL.cons (po369) (OkL.cons (po370) (OkL.cons (po371) (OkL.cons (po374) (OkL.cons (po376) (OkL.cons (po377) (OkL.cons (po34128) (OkL.cons (po34768) (OkL.cons (po36944) (.nil))))))))))))))))))))))))))))))))))))))))))))))))))))))))))))))))))))))))))))))))))))))))))))))))))))))))))))))))))))))))))))))))))))))))))))))))))))))))))))))))))))))))))))))))))))))))))))))))))))))))))))))))))))))))))))))))))))))))))))))))))))))))))))))))))))))))))))))))))))))))))))))))))))))))))))))))))))))))))))))))))))))))))))))))
end
end Go.Ev.W24

/- EVALUATOR: a call out of a memory of which nothing is known. -/
namespace Go.Ev
open Go.RowKit
variable {P : Program}
theorem RH.below {ρ : Rho} {h : Heap} {w w' : World} (r : RH P ρ h w) (b : Below w.heap.size w w') : RH P ρ h w' where
 lt b' c z S hb:=Nat.lt_of_lt_of_le (r.lt b' c z S hb) b.size
 fresh:=r.fresh
 inj:=r.inj
 arr b' c z S g n t ro hb ht:=by
  obtain ⟨cs,ha⟩:=r.arr b' c z S g n t ro hb ht
  obtain ⟨el,fz,h1,h2⟩:=ha.at_
  exact ⟨cs,ha.pos,⟨el,fz,by rw [b.block c (r.lt _ _ _ _ hb)]; exact h1,h2⟩,ha.size,ha.fits,ha.cells⟩
 ob b' c z S x hb ht:=by
  obtain ⟨o,h1,h2,h3⟩:=r.ob b' c z S x hb ht
  exact ⟨o,by rw [b.block c (r.lt _ _ _ _ hb)]; exact h1,h2,h3⟩
 itr p c z S m s q l hb ht:=(r.itr p c z S m s q l hb ht).stay fun k hk=>b.block k hk
theorem came_of {ρ : Rho} {h : Heap} {w w' : World} (r : RH P ρ h w) {v : V} {y : Value} (hv : VR ρ v y) {e : Ending} (he : e = .returned y∧Below w.heap.size w w') : Came P ρ h w (.ret v h) e w':=by
 obtain ⟨rfl,b⟩:=he
 exact ⟨ρ,y,rfl,hv,r.below b,.refl _,Nat.le_refl _,b.os,b.tape,b.output,b.size,fun c hc hn=>⟨b.block c hc,hn⟩,fun _ _ hb=>⟨hb,rfl⟩⟩
theorem loadk_cells {h : Heap} {b : Bid} {o n : Nat} {k : List V→Res} {r : Res} (hh : loadk h b o n k = r) (hr : r ≠ .fail) {ρ : Rho} {w : World} (rh : RH P ρ h w) {c z S : Nat} (hb : ρ b = some (c,z,S)) :
 h.t.get b ≠ .none∧∃ l cs el fz,k l = r∧l.length = n∧w.heap[c]? = some (.cells cs el fz)∧cs.size = S∧∀ i v,l[i]? = some v→∃ x,cs[z + o + i]? = some x∧VR ρ v x∧x.oneCell' = true:=by
 unfold loadk at hh
 rw [Heap.getk_eq] at hh
 obtain ⟨g,m,t,ro,h1,hh⟩:=arlk_ok hh hr
 obtain ⟨m,ro,cs,ha⟩:=rh.cells' hb h1
 obtain ⟨l,hk,hl,hc⟩:=cellsk_ok ha.pos ha.wf hh hr
 obtain ⟨el,fz,h6,_⟩:=ha.at_
 refine ⟨(by rcases h1 with h1 | ⟨_,h1⟩ <;> (rw [h1]; intro e; cases e)),l,cs,el,fz,hk,hl,h6,ha.size,fun i v hi=>?_⟩
 obtain ⟨_,x,h3,h4,h5⟩:=ha.cell (hc i v hi)
 exact ⟨x,by rw [← h3]; congr 1; omega,h4,h5⟩
theorem HT.get_nil (b : Bid) : HT.get [] b = .none:=HT.get_empty b
theorem enters_of {f : Nat} {fn : Func} (hf : P.funcs[f]? = some fn) (hb : fn.body.isSome = true) (hn : (fn.name == "runtime.NumGoroutine") = false) : Enters P f:=by
 obtain ⟨c,hc⟩:=Option.isSome_iff_exists.1 hb
 exact ⟨fn,c,hf,hc,hn⟩
inductive Pa where
 | str (l n : Nat)
 | int (k : IntKind) (n : Int)
def Pa.v : Pa→V
 | .str l n=>.str l n
 | .int k n=>.int k n
noncomputable def Pa.at (p : Pa) (v : V) (y n : Res) : Res:=
 Pa.rec (motive:=fun _=>Res) (fun a b=>strk v fun a' b'=>ifk (Nat.beq a' a) (ifk (Nat.beq b' b) y n) n) (fun k z=>intk v fun k' z'=>ifk (Nat.beq (kno k') (kno k)) (ifk (ieq z' z) y n) n) p
noncomputable def pak (ps : List Pa) : List V→Res→Res→Res:=
 List.rec (motive:=fun _=>List V→Res→Res→Res) (fun l y _=>nilk' l y) (fun p _ ih l y n=>unc l fun v l=>p.at v (ih l y n) n) ps
theorem Pa.at_ok {p : Pa} {v : V} {y n r : Res} (h : p.at v y n = r) (hr : r ≠ .fail) : (v = p.v∧y = r) ∨ n = r:=by
 cases p with
 | str a b=>
   obtain ⟨a',b',rfl,h1⟩:=strk_ok (show strk v _ = r from h) hr
   cases ha : Nat.beq a' a with
   | false=>rw [ha] at h1; exact .inr h1
   | true=>
     rw [ha] at h1
     cases hb : Nat.beq b' b with
     | false=>rw [hb] at h1; exact .inr h1
     | true=>
       rw [hb] at h1
       obtain rfl:=Nat.eq_of_beq_eq_true ha
       obtain rfl:=Nat.eq_of_beq_eq_true hb
       exact .inl ⟨rfl,h1⟩
 | int k z=>
   obtain ⟨k',z',rfl,h1⟩:=intk_ok (show intk v _ = r from h) hr
   cases ha : Nat.beq (kno k') (kno k) with
   | false=>rw [ha] at h1; exact .inr h1
   | true=>
     rw [ha] at h1
     cases hb : ieq z' z with
     | false=>rw [hb] at h1; exact .inr h1
     | true=>
       rw [hb] at h1
       obtain rfl:=kno_inj ha
       rw [ieq_eq] at hb
       obtain rfl : z' = z:=by simpa using hb
       exact .inl ⟨rfl,h1⟩
theorem pak_ok {ps : List Pa} {l : List V} {y n r : Res} (h : pak ps l y n = r) (hr : r ≠ .fail) : (l = ps.map Pa.v∧y = r) ∨ n = r:=by
 induction ps generalizing l with
 | nil=>
   obtain ⟨rfl,h1⟩:=nilk'_ok (show nilk' l y = r from h) hr
   exact .inl ⟨rfl,h1⟩
 | cons p ps ih=>
   obtain ⟨v,l',rfl,h1⟩:=unc_ok (show unc l _ = r from h) hr
   rcases Pa.at_ok h1 hr with ⟨rfl,h2⟩ | h2
   · rcases ih h2 with ⟨rfl,h3⟩ | h3
     · exact .inl ⟨rfl,h3⟩
     · exact .inr h3
   · exact .inr h2
theorem Pa.vr (p : Pa) {ρ ρ' : Rho} {x : Value} (h : VR ρ p.v x) : VR ρ' p.v x:=by
 cases p with
 | str a b=>cases h with | str h1 h2=>exact .str h1 h2
 | int k z=>cases h; exact .int k z
theorem Pa.vrs (ps : List Pa) {ρ ρ' : Rho} {args : List Value} (h : VRs ρ (ps.map Pa.v) args) : VRs ρ' (ps.map Pa.v) args:=by
 induction ps generalizing args with
 | nil=>cases h; exact .nil
 | cons p ps ih=>cases h with | cons h1 h2=>exact .cons (p.vr h1) (ih h2)
end Go.Ev

/- EVALUATOR: a call that leaves alone all that was there may be taken to have made nothing. -/
namespace Go.Ev
variable {P : Program}
mutual
theorem VR.cut {ρ ρ' ρ'' : Rho} (hl : ρ.le ρ') (hl2 : ρ.le ρ'') {v : V} {x : Value} : VR ρ' v x→∀ {x0 : Value},VR ρ v x0→VR ρ'' v x
 | .und x,_,_=>.und x
 | .skip,_,_=>.skip
 | .bool b,_,_=>.bool b
 | .int k n,_,_=>.int k n
 | .str h hn,_,_=>.str h hn
 | .nilp,_,_=>.nilp
 | .ptr hb,_,h0=>by
   cases h0 with
   | ptr h=>
     have:=hl _ _ h
     rw [hb] at this; cases this
     exact .ptr (hl2 _ _ h)
 | .nils,_,_=>.nils
 | .slice hb hc ht hl',_,h0=>by
   cases h0 with
   | slice h _ _ _=>
     have:=hl _ _ h
     rw [hb] at this; cases this
     exact .slice (hl2 _ _ h) hc ht hl'
 | .emp a cap,_,_=>.emp a cap
 | .nilm,_,_=>.nilm
 | .map hb,_,h0=>by
   cases h0 with
   | map h=>
     have:=hl _ _ h
     rw [hb] at this; cases this
     exact .map (hl2 _ _ h)
 | .nilf,_,_=>.nilf
 | .yld hb,_,h0=>by
   cases h0 with
   | yld h=>
     have:=hl _ _ h
     rw [hb] at this; cases this
     exact .yld (hl2 _ _ h)
   | func hf hk hk2 hF h=>exact absurd hF (by omega)
 | .func hf hk hk2 hF hs,_,h0=>by
   cases h0 with
   | yld h=>exact absurd hF (by omega)
   | func _ _ _ _ h=>exact .func hf hk hk2 hF (VRs.cut hl hl2 hs h)
 | .nili,_,_=>.nili
 | .iface hv,_,h0=>by
   cases h0 with
   | iface h=>exact .iface (VR.cut hl hl2 hv h)
 | .agg hs hc hn,_,h0=>by
   cases h0 with
   | agg h _ _=>exact .agg (VRs.cut hl hl2 hs h) hc hn
 | .tup hs,_,h0=>by
   cases h0 with
   | tup h=>exact .tup (VRs.cut hl hl2 hs h)
theorem VRs.cut {ρ ρ' ρ'' : Rho} (hl : ρ.le ρ') (hl2 : ρ.le ρ'') {l : List V} {xs : List Value} : VRs ρ' l xs→∀ {ys : List Value},VRs ρ l ys→VRs ρ'' l xs
 | .nil,_,_=>.nil
 | .cons hv hs,_,h0=>by
   cases h0 with
   | cons h1 h2=>exact .cons (VR.cut hl hl2 hv h1) (VRs.cut hl hl2 hs h2)
end
theorem MapL.cut {ρ ρ' ρ'' : Rho} (hl : ρ.le ρ') (hl2 : ρ.le ρ'') : ∀ {l : List ME} {es fs : List MapEntry},MapL ρ' l es→MapL ρ l fs→MapL ρ'' l es
 | [],[],[],_,_=>trivial
 | m :: l,e :: es,f :: fs,⟨h1,h2,h4⟩,⟨_,g2,g4⟩=>⟨h1,h2.cut hl hl2 g2,MapL.cut hl hl2 h4 g4⟩
 | [],_ :: _,_,h,_=>h.elim
 | _ :: _,[],_,h,_=>h.elim
 | [],[],_ :: _,_,h=>h.elim
 | _ :: _,_ :: _,[],_,h=>h.elim
theorem MapR.cut {ρ ρ' ρ'' : Rho} (hl : ρ.le ρ') (hl2 : ρ.le ρ'') {l : List ME} {es fs : List MapEntry} {c c0 : Nat} (h : MapR ρ' l es c) (g : MapR ρ l fs c0) : MapR ρ'' l es c:=by
 obtain ⟨x,p,hx⟩:=h.perm
 obtain ⟨y,_,hy⟩:=g.perm
 exact ⟨⟨x,p,hx.cut hl hl2 hy⟩,h.keys,h.sort,h.old,h.born⟩
theorem ItR.cut {ρ ρ' ρ'' : Rho} (hl : ρ.le ρ') (hl2 : ρ.le ρ'') : ∀ {m : Option Bid} {c c0 : Option Nat},ItR ρ' m c→ItR ρ m c0→ItR ρ'' m c
 | none,none,_,_,_=>trivial
 | some b,some c,some c0,⟨S,hS⟩,⟨S0,hS0⟩=>by
   have:=hl _ _ hS0
   rw [hS] at this; cases this
   exact ⟨_,hl2 _ _ hS0⟩
 | some _,some _,none,_,g=>g.elim
 | none,some _,_,h,_=>h.elim
 | some _,none,_,h,_=>h.elim
theorem StcR.cut {ρ ρ' ρ'' : Rho} (hl : ρ.le ρ') (hl2 : ρ.le ρ'') {g : Nat} {t : T} {cs cs0 : Array Value} (h : StcR ρ' g t cs) (h0 : StcR ρ g t cs0) : StcR ρ'' g t cs:=fun j ch hj=>by
 obtain ⟨h1,h2,h3⟩:=h j ch hj
 obtain ⟨_,_,g3⟩:=h0 j ch hj
 refine ⟨h1,h2,fun i v hi=>?_⟩
 obtain ⟨x,h4,h5,h6⟩:=h3 i v hi
 obtain ⟨x0,_,g5,_⟩:=g3 i v hi
 exact ⟨x,h4,h5.cut hl hl2 g5,h6⟩
theorem OthR.cut {ρ ρ' ρ'' : Rho} (hl : ρ.le ρ') (hl2 : ρ.le ρ'') {x : Oth} {o o0 : Obj} (h : OthR P ρ' x o) (g : OthR P ρ x o0) : OthR P ρ'' x o:=by
 cases x with
 | mp es c=>
   cases o <;> first | exact h.elim | skip
   cases o0 <;> first | exact g.elim | skip
   exact ⟨h.1.cut hl hl2 g.1,h.2⟩
 | it l n p=>
   cases o <;> first | exact h.elim | exact h
 | lp id mask vs st pd=>
   cases o <;> first | exact h.elim | skip
   cases o0 <;> first | exact g.elim | skip
   obtain ⟨fn,h1,h2,h3,h4,h5,h6⟩:=h
   obtain ⟨_,_,_,_,g4,_,_⟩:=g
   exact ⟨fn,h1,h2,h3,h4.cut hl hl2 g4,h5,h6⟩
 | mi m s sn la=>
   cases o <;> first | exact h.elim | skip
   cases o0 <;> first | exact g.elim | skip
   obtain ⟨h1,h2⟩:=h
   obtain ⟨g1,_⟩:=g
   refine ⟨?_,h2⟩
   exact h1.cut hl hl2 g1
 | st el g t=>
   cases o <;> first | exact h.elim | skip
   cases o0 <;> first | exact g.elim | skip
   exact ⟨h.1,h.2.1,h.2.2.1,h.2.2.2.1,h.2.2.2.2.1,h.2.2.2.2.2.cut hl hl2 g.2.2.2.2.2⟩
 | bs el l n=>
   cases o <;> first | exact h.elim | exact h
 | num k=>
   cases o <;> first | exact h.elim | exact h
def Rho.upTo (ρ : Rho) (n : Nat) : Rho:=fun b=>if b.val < n then ρ b else none
end Go.Ev
