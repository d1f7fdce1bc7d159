/-
  An executor for the model's programs over abstract values, in plain Lean, made for the kernel; it is a function. Conditions: none.
-/
import GoSem.Dispatch
import GoSem.Machine.Exec
set_option linter.unusedVariables false
set_option linter.unusedSimpArgs false
set_option linter.unusedSectionVars false
section
namespace Go.Xe
noncomputable section
def oE {α β : Type} (n : β) (s : α → β) (o : Option α) : β := Option.rec (motive := fun _ => β) n s o
def bE {β : Type} (f t : β) (b : Bool) : β := Bool.rec (motive := fun _ => β) f t b
def lE {α β : Type} (n : β) (c : α → List α → β → β) (l : List α) : β := List.rec (motive := fun _ => β) n c l
def nE {β : Type} (z : β) (s : Nat → β → β) (n : Nat) : β := Nat.rec (motive := fun _ => β) z s n
def nC {β : Type} (z : β) (s : Nat → β) (n : Nat) : β := Nat.rec (motive := fun _ => β) z (fun m _ => s m) n
def lC {α β : Type} (n : β) (c : α → List α → β) (l : List α) : β := List.rec (motive := fun _ => β) n (fun x t _ => c x t) l
def iE {β : Type} (p m : Nat → β) (i : Int) : β := Int.rec (motive := fun _ => β) p m i
def bnd {α β : Type} (o : Option α) (f : α → Option β) : Option β := oE none f o
def grd {α : Type} (b : Bool) (o : Option α) : Option α := bE none o b
def ite' {α : Type} (b : Bool) (x y : α) : α := bE y x b
def frc {α : Type} (n : Nat) (f : Nat → α) : α := nC (f 0) (fun m => f (Nat.succ m)) n
inductive Tr (α : Type) where
 | nil
 | node (v : Option α) (l r : Tr α)
def trE {α β : Type} (n : β) (c : Option α → Tr α → Tr α → β → β → β) (t : Tr α) : β := Tr.rec (motive := fun _ => β) n c t
def Tr.get {α : Type} (t : Tr α) : Nat → Option α :=
 trE (fun _ => none)
  (fun v _ _ gl gr k => nC v
   (fun m => bE (gr (Nat.div m 2)) (gl (Nat.div m 2)) (Nat.beq (Nat.mod m 2) 0)) k) t
def Tr.put {α : Type} (x : Option α) (n : Nat) : Tr α → Nat → Tr α :=
 nE (fun t _ => t)
  (fun _ ih t k => trE
   (nC (.node x .nil .nil)
    (fun m => bE (.node none .nil (ih .nil (Nat.div m 2))) (.node none (ih .nil (Nat.div m 2)) .nil) (Nat.beq (Nat.mod m 2) 0)) k)
   (fun v l r _ _ => nC (.node x l r)
    (fun m => bE (.node v l (ih r (Nat.div m 2))) (.node v (ih l (Nat.div m 2)) r) (Nat.beq (Nat.mod m 2) 0)) k) t) n
inductive AV where
 | bool (b : Bool)
 | int (k : IntKind) (n : Int)
 | num (g j lo hi : Nat)
 | stp (i : Nat)
 | str (n c : Nat)
 | sstr (pn pc i : Nat)
 | sval (i : Nat)
 | ptr (b o : Nat)
 | pnil
 | gptr (g : Nat)
 | sl (b o l z : Nat)
 | sle
 | snil
 | map (b : Nat)
 | mnil
 | func (f : Fn) (first capt : List AV)
 | fnil
 | ifc (t : Nat) (v : AV)
 | inil
 | agg (l : List AV)
 | tup (l : List AV)
 deriving Inhabited
structure ME where
 k : AV
 v : AV
 s : Nat
inductive ADef where
 | fn (f : Fn) (capt args : List AV)
 | coll (b : Nat)
inductive Ent where
 | cells (l : List AV) (ty : Nat) (wr : Bool) (fz : Nat) (olds : List Nat)
 | map (es : List ME) (ck : Nat)
 | siter (n c p : Nat)
 | miter (m j n fam lc : Nat) (ss : List ME)
 | loop (st : LoopState) (pend : Option Code) (tm : Tr AV) (nt : Nat) (ps : List Nat) (asg body : Code) (dblk : Nat)
 | dfr (ds : Option (List ADef))
structure AH where
 next : Nat
 t : Tr Ent
 fb : Nat
 fam : List ME
structure Fr where
 t : Tr AV
 nt : Nat
 ds : List ADef
inductive XE where
 | normal | exit (id : Nat) | goto (l : Nat) | ret
inductive R where
 | ok (x : XE) (fr : Fr) (h : AH)
 | no (why : String)
inductive C where
 | ok (v : AV) (h : AH)
 | no (why : String)
inductive O where
 | val (v : AV) (h : AH)
 | skip (h : AH)
 | enter (f : Nat) (args : List AV) (h : AH)
 | round (l : Nat) (tm : Tr AV) (nt : Nat) (asg body : Code) (h : AH)
 | dfr (d : ADef) (h : AH)
 | no
def rE {β : Type} (k : XE → Fr → AH → β) (n : String → β) (r : R) : β := R.rec (motive := fun _ => β) k n r
def opE {β : Type} (v : AV → AH → β) (s : AH → β) (e : Nat → List AV → AH → β) (r : Nat → Tr AV → Nat → Code → Code → AH → β) (d : ADef → AH → β) (n : β) (o : O) : β :=
 O.rec (motive := fun _ => β) v s e r d n o
def zaP : AV := .tup []
def zlq (n c : Nat) : AV := frc n fun n => frc c fun c => .str n c
def zca (k : IntKind) (n : Int) : AV :=
 iE (fun m => frc m fun m => .int k (.ofNat m)) (fun m => frc m fun m => .int k (.negSucc m)) n
def zbZ (b : Bool) : AV := bE (.bool false) (.bool true) b
def zdI (n : Nat) : AV := frc n fun n => .int .i64 (.ofNat n)
def len {α : Type} (l : List α) : Nat := lE 0 (fun _ _ n => Nat.succ n) l
def app {α : Type} (l r : List α) : List α := lE r (fun x _ t => x :: t) l
def nth {α : Type} (l : List α) : Nat → Option α :=
 lE (fun _ => none) (fun x _ ih k => nC (some x) (fun m => ih m) k) l
def mapO {α β : Type} (f : α → Option β) (l : List α) : Option (List β) :=
 lE (some []) (fun x _ r => bnd (f x) fun y => bnd r fun ys => some (y :: ys)) l
def tak {α : Type} (l : List α) : Nat → Option (List α) :=
 lE (fun n => nE (some []) (fun _ _ => none) n)
  (fun x _ ih n => nC (some []) (fun m => bnd (ih m) fun r => some (x :: r)) n) l
def drp {α : Type} (l : List α) : Nat → Option (List α) :=
 lE (fun n => nE (some []) (fun _ _ => none) n)
  (fun x t ih n => nC (some (x :: t)) (fun m => ih m) n) l
def cut {α : Type} (l : List α) (o n : Nat) : Option (List α) := bnd (drp l o) fun r => tak r n
def over {α : Type} (l : List α) : List α → Option (List α) :=
 lE (fun vs => lC (some []) (fun _ _ => none) vs)
  (fun x t ih vs => lC (some (x :: t)) (fun v vt => bnd (ih vt) fun r => some (v :: r)) vs) l
def zdr {α : Type} (l : List α) (o : Nat) : List α → Option (List α) :=
 lE (fun o vs => nE (over [] vs) (fun _ _ => none) o)
  (fun x t ih o vs => nC (over (x :: t) vs) (fun m => bnd (ih m vs) fun r => some (x :: r)) o) l o
def repl {α : Type} (n : Nat) (l : List α) : List α := nE [] (fun _ r => app l r) n
def zcp (l : List UInt8) : Nat := lE 0 (fun b _ c => Nat.add b.toNat (Nat.mul 256 c)) l
def zqi (l : List UInt8) : AV := zlq (len l) (zcp l)
def za5 {α : Type} (l : List α) : Bool := lC true (fun _ _ => false) l
def zfD : Fn → Bool
 | .yield _ => false
 | _ => true
def zcA : Value → Option AV
 | .bool b => some (.bool b)
 | .int k n => some (.int k n)
 | .string s => some (zqi s.data.toList)
 | .pointer none => some .pnil
 | .slice none l c => grd (Nat.beq l 0) (grd (Nat.beq c 0) (some .snil))
 | .map none => some .mnil
 | .func fn first capt => grd (za5 first.toList) (grd (za5 capt.toList) (grd (zfD fn) (some (.func fn [] []))))
 | .nilFunc => some .fnil
 | .nilIface => some .inil
 | .tuple vs => grd (za5 vs.toList) (some (.tup []))
 | _ => none
def zkh : Value → Option AV
 | .agg cs => bnd (mapO zcA cs.toList) fun l => some (.agg l)
 | v => zcA v
def ofValue : Value → Option AV
 | .agg cs => bnd (mapO zcA cs.toList) fun l => some (.agg l)
 | .tuple cs => bnd (mapO zcA cs.toList) fun l => some (.tup l)
 | .iface t v => bnd (zkh v) fun a => some (.ifc t a)
 | v => zcA v
def AV.cells : AV → List AV
 | .agg l => l
 | v => [v]
def Fr.at_ (fr : Fr) (t : Nat) : AV := oE zaP (fun v => v) (fr.t.get t)
def ev : Operand → Fr → Option AV
 | .tmp t => fun fr => some (fr.at_ t)
 | .const v => fun _ => ofValue v
 | .global g => fun _ => some (.gptr g)
 | .func f => fun _ => some (.func (.func f) [] [])
def Fr.put (fr : Fr) (d : Option Nat) (v : AV) : Option Fr :=
 oE (some fr) (fun d => grd (Nat.blt d fr.nt) (some ⟨Tr.put (some v) (Nat.succ d) fr.t d, fr.nt, fr.ds⟩)) d
section
variable (P : Program)
def zaX (t : TypeId) : Option Nat := bnd (P.info? t) fun i => some i.size
def zfc (t : TypeId) : Option AV := bnd (P.info? t) fun i => bnd i.zero fun z => ofValue z
def aggD : TypeDesc → Bool
 | .struct _ => true
 | .array _ _ => true
 | _ => false
def aggA (t : TypeId) : Option Bool := bnd (P.underlying t) fun d => some (aggD d)
def zjs : TypeDesc → Option Nat
 | .slice e => some e
 | _ => none
def mapD : TypeDesc → Option (Nat × Nat)
 | .map k e => some (k, e)
 | _ => none
def zqj : TypeDesc → Option (List Field)
 | .struct fs => some fs.toList
 | _ => none
def arrayD : TypeDesc → Option (Nat × Nat)
 | .array n e => some (n, e)
 | _ => none
def intD : TypeDesc → Option IntKind
 | .int k => some k
 | _ => none
def isU8 : TypeDesc → Bool
 | .int .u8 => true
 | _ => false
def zqk : TypeDesc → Bool
 | .interface _ => true
 | _ => false
def zbO : TypeDesc → Bool
 | .pointer _ => true
 | _ => false
def zeG : TypeDesc → Bool
 | .interface ms => za5 ms.toList
 | _ => false
def zhi (t : TypeId) : Option (Nat × Nat) :=
 bnd (P.underlying t) fun d => bnd (zjs d) fun e => bnd (zaX P e) fun z => grd (Nat.blt 0 z) (some (e, z))
def zoA (t f : Nat) : Option Field := bnd (P.underlying t) fun d => bnd (zqj d) fun fs => nth fs f
def zed : TypeDesc → Bool
 | .bool => true
 | .int _ => true
 | .string => true
 | _ => false
def mapA (t : TypeId) : Option Nat := bnd (P.underlying t) fun d => bnd (mapD d) fun ke => bnd (P.underlying ke.1) fun kd => grd (zed kd) (some ke.2)
def AH.get (h : AH) (b : Nat) : Option Ent := h.t.get b
def AH.new {α : Type} (h : AH) (e : Ent) (k : Nat → AH → α) : α := frc h.next fun b => k b ⟨Nat.succ b, Tr.put (some e) (Nat.succ b) h.t b, h.fb, h.fam⟩
def AH.set (h : AH) (b : Nat) (e : Ent) : AH := ⟨h.next, Tr.put (some e) (Nat.succ b) h.t b, h.fb, h.fam⟩
def AH.drop (h : AH) (b : Nat) : AH := ⟨h.next, Tr.put none (Nat.succ b) h.t b, h.fb, h.fam⟩
def AH.kill (l : List Nat) (h : AH) : AH := lE h (fun b _ h => h.drop b) l
def AH.skip {α : Type} (h : AH) (k : Nat → AH → α) : α := frc h.next fun b => k b ⟨Nat.succ b, h.t, h.fb, h.fam⟩
def zjt : Ent → Option (List AV)
 | .cells l _ _ _ _ => some l
 | _ => none
def mapE : Ent → Option (List ME × Nat)
 | .map es ck => some (es, ck)
 | _ => none
def AH.cells (h : AH) (b : Nat) : Option (List AV) := bnd (h.get b) zjt
def AH.map (h : AH) (b : Nat) : Option (List ME × Nat) := bnd (h.get b) mapE
def zbo (h : AH) (b o n : Nat) : Option (List AV) := bnd (h.cells b) fun l => cut l o n
def zdb (h : AH) (b o : Nat) : Option AV := bnd (h.cells b) fun l => nth l o
def zql : AV → Bool
 | .agg _ => false
 | .tup _ => false
 | _ => true
def allC (l : List AV) : Bool := lE true (fun v _ r => ite' (zql v) r false) l
def ztR (h : AH) (b o : Nat) (vs : List AV) : Ent → Option AH
 | .cells l ty wr fz olds => grd wr (grd (Nat.ble fz o) (grd (allC vs) (bnd (zdr l o vs) fun l' => some (AH.set (AH.kill olds h) b (.cells l' ty true fz [])))))
 | _ => none
def zbe (h : AH) (b o : Nat) (vs : List AV) : Option AH := bnd (h.get b) fun e => ztR h b o vs e
def ptrV {α : Type} (a : AV) (k : Nat → Nat → Option α) : Option α := match a with
 | .ptr b o => k b o
 | _ => none
def intV {α : Type} (a : AV) (k : Int → Option α) : Option α := match a with
 | .int _ i => k i
 | _ => none
def natI {α : Type} (i : Int) (k : Nat → Option α) : Option α := iE k (fun _ => none) i
def natV {α : Type} (a : AV) (k : Nat → Option α) : Option α := intV a fun i => natI i k
def load (t : TypeId) (a : AV) (h : AH) : Option AV :=
 ptrV a fun b o => bnd (aggA P t) fun g =>
  ite' g (bnd (zaX P t) fun n => bnd (zbo h b o n) fun l => some (.agg l)) (zdb h b o)
def store (t : TypeId) (a v : AV) (h : AH) : Option AH :=
 ptrV a fun b o => bnd (zaX P t) fun n => grd (Nat.beq (len v.cells) n) (zbe h b o v.cells)
def fieldAddr (s : TypeId) (f : Nat) (a : AV) : Option AV :=
 ptrV a fun b o => bnd (zoA P s f) fun fd => bnd (zaX P fd.type) fun n => grd (Nat.blt 0 n) (some (frc (Nat.add o fd.offset) fun o => .ptr b o))
def zjb (t : TypeId) (cs : List AV) (off : Nat) : Option AV :=
 bnd (aggA P t) fun g => ite' g (bnd (zaX P t) fun n => bnd (cut cs off n) fun l => some (.agg l)) (nth cs off)
def aggV {α : Type} (a : AV) (k : List AV → Option α) : Option α := match a with
 | .agg l => k l
 | _ => none
def tupV {α : Type} (a : AV) (k : List AV → Option α) : Option α := match a with
 | .tup l => k l
 | _ => none
def strV {α : Type} (a : AV) (k : Nat → Nat → Option α) : Option α := match a with
 | .str n c => k n c
 | _ => none
def field (x : TypeId) (f : Nat) (v : AV) : Option AV := aggV v fun cs => bnd (zoA P x f) fun fd => zjb P fd.type cs fd.offset
def zgm (x : AV) (i : Nat) : TypeDesc → Option AV
 | .array n e => ptrV x fun b o => grd (Nat.blt i n) (bnd (zaX P e) fun z => some (frc (Nat.add o (Nat.mul i z)) fun o => .ptr b o))
 | .slice e => match x with
   | .sl b o l z => grd (Nat.blt i l) (bnd (zaX P e) fun z' => grd (Nat.beq z z') (some (frc (Nat.add o (Nat.mul i z)) fun o => .ptr b o)))
   | _ => none
 | _ => none
def indexAddr (t : TypeId) (x ix : AV) : Option AV := natV ix fun i => bnd (P.underlying t) fun d => zgm P x i d
def zqm (c i : Nat) : AV := frc (Nat.mod (Nat.div c (Nat.pow 256 i)) 256) fun b => .int .u8 (.ofNat b)
def ztS (x : AV) (i : Nat) : TypeDesc → Option AV
 | .array n e => aggV x fun cs => grd (Nat.blt i n) (bnd (zaX P e) fun z => zjb P e cs (Nat.mul i z))
 | .string => strV x fun n c => grd (Nat.blt i n) (some (zqm c i))
 | _ => none
def index (t : TypeId) (x ix : AV) : Option AV := natV ix fun i => bnd (P.underlying t) fun d => ztS P x i d
def zeY (n c n' c' : Nat) : Bool := ite' (Nat.beq n n') (Nat.beq (Nat.mod c (Nat.pow 256 n)) (Nat.mod c' (Nat.pow 256 n'))) false
def zhj (f : Nat) : Nat → Nat → Nat → Nat → Bool :=
 nE (fun _ _ _ _ => false)
  (fun _ ih n c n' c' => nC false
   (fun m' => nC true
    (fun m => ite' (Nat.blt (Nat.mod c 256) (Nat.mod c' 256)) true
     (ite' (Nat.beq (Nat.mod c 256) (Nat.mod c' 256)) (ih m (Nat.div c 256) m' (Nat.div c' 256)) false)) n) n') f
def zgn (a b : Int) : Bool :=
 iE (fun a b => iE (fun b => Nat.beq a b) (fun _ => false) b)
  (fun a b => iE (fun _ => false) (fun b => Nat.beq a b) b) a b
def zlr (a b : Int) : Bool :=
 iE (fun a b => iE (fun b => Nat.blt a b) (fun _ => false) b)
  (fun a b => iE (fun _ => true) (fun b => Nat.blt b a) b) a b
def zpo (a b : Int) : Bool := ite' (zlr b a) false true
def zhG (i : Int) (lo hi : Nat) : Bool := iE (fun n => ite' (Nat.blt n lo) true (Nat.ble hi n)) (fun _ => true) i
def under (i : Int) (lo : Nat) : Bool := iE (fun n => Nat.blt n lo) (fun _ => true) i
def kindN : IntKind → Nat
 | .i8 => 0 | .i16 => 1 | .i32 => 2 | .i64 => 3 | .u8 => 4 | .u16 => 5 | .u32 => 6 | .u64 => 7
def zcB (a b : IntKind) : Bool := Nat.beq (kindN a) (kindN b)
def preS (pn pc n c : Nat) : Nat × Nat := (Nat.add pn n, Nat.add (Nat.mod pc (Nat.pow 256 pn)) (Nat.mul (Nat.pow 256 pn) c))
def zgo (pn pc n c : Nat) (fam : List ME) : Bool :=
 lE true (fun kv _ r => match kv.k with
  | .str kn kc => ite' (zeY (preS pn pc kn kc).1 (preS pn pc kn kc).2 n c) false r
  | _ => false) fam
def eqB (x : AV) (a : Bool) : Option Bool := match x with
 | .bool b => some (ite' a b (ite' b false true))
 | _ => none
def eqI (x : AV) (k : IntKind) (a : Int) : Option Bool := match x with
 | .int k' b => grd (zcB k k') (some (zgn a b))
 | .num _ _ lo hi => grd (zcB k .i64) (grd (zhG a lo hi) (some false))
 | _ => none
def eqN (x : AV) (g j lo hi : Nat) : Option Bool := match x with
 | .num g' j' lo' hi' => ite' (Nat.beq g g') (some (Nat.beq j j')) (grd (ite' (Nat.ble hi lo') true (Nat.ble hi' lo)) (some false))
 | .int k a => grd (zcB k .i64) (grd (zhG a lo hi) (some false))
 | _ => none
def zc8 (fb : Nat) (fam : List ME) (i : Nat) : Bool := ite' (Nat.ble fb i) (Nat.blt i (Nat.add fb (len fam))) false
def eqS (fb : Nat) (fam : List ME) (x : AV) (n c : Nat) : Option Bool := match x with
 | .str n' c' => some (zeY n c n' c')
 | .sstr pn pc i => grd (zc8 fb fam i) (grd (zgo pn pc n c fam) (some false))
 | _ => none
def eqSS (fb : Nat) (fam : List ME) (x : AV) (pn pc i : Nat) : Option Bool := match x with
 | .str n c => grd (zc8 fb fam i) (grd (zgo pn pc n c fam) (some false))
 | .sstr pn' pc' j => grd (zeY pn pc pn' pc') (ite' (Nat.beq i j) (some true) (grd (zc8 fb fam i) (grd (zc8 fb fam j) (some false))))
 | _ => none
def eqPn (x : AV) : Option Bool := match x with
 | .pnil => some true | .ptr _ _ => some false | .gptr _ => some false | _ => none
def eqNilX (x : AV) : Option Bool := match x with
 | .snil => some true | .sl .. => some false | .sle => some false
 | .mnil => some true | .map _ => some false
 | .fnil => some true | .func .. => some false
 | _ => none
def zki : AV → Nat
 | .snil => 1 | .sl .. => 1 | .sle => 1 | .mnil => 2 | .map _ => 2 | .fnil => 3 | .func .. => 3 | _ => 0
def zoB : AV → Bool
 | .snil => true | .mnil => true | .fnil => true | _ => false
def ztT (x y : AV) : Option Bool :=
 grd (Nat.blt 0 (zki x)) (grd (Nat.beq (zki x) (zki y)) (ite' (zoB x) (some (zoB y)) (grd (zoB y) (some false))))
def zeZ (i : Nat) (l : List Nat) : Bool := lE true (fun j _ r => ite' (Nat.beq i j) false r) l
def ptrE : Ent → Option (List Nat)
 | .cells _ ty _ fz olds => grd (Nat.blt 0 ty) (grd (Nat.beq fz 0) (some olds))
 | _ => none
def zvS (h : AH) (b o b' o' : Nat) : Option Bool :=
 ite' (Nat.beq b b') (some (Nat.beq o o')) (bnd (bnd (h.get b) ptrE) fun l => bnd (bnd (h.get b') ptrE) fun l' => grd (zeZ b l') (grd (zeZ b' l) (some false)))
def eqP (h : AH) (x : AV) (b o : Nat) : Option Bool := match x with
 | .pnil => some false
 | .ptr b' o' => zvS h b o b' o'
 | _ => none
def zar (h : AH) (x y : AV) : Option Bool := match x with
 | .bool a => eqB y a
 | .int k a => eqI y k a
 | .num g j lo hi => eqN y g j lo hi
 | .str n c => eqS h.fb h.fam y n c
 | .sstr pn pc i => eqSS h.fb h.fam y pn pc i
 | .pnil => eqPn y
 | .ptr b o => eqP h y b o
 | .gptr _ => (match y with | .pnil => some false | _ => none)
 | x => ztT x y
def goF (eq : TypeId → AV → AV → Option Bool) (xs ys : List AV) (fs : List Field) : Option Bool :=
 lE (some true) (fun f _ r =>
  ite' (decide (f.name = "_")) none (bnd (zjb P f.type xs f.offset) fun a => bnd (zjb P f.type ys f.offset) fun b => bnd (eq f.type a b) fun q => ite' q r (some false))) fs
def zcb (eq : TypeId → AV → AV → Option Bool) (x y : AV) : Option Bool := match x with
 | .inil => (match y with | .inil => some true | .ifc _ _ => some false | _ => none)
 | .ifc tx vx => (match y with
   | .inil => some false
   | .ifc ty vy => ite' (Nat.beq tx ty) (bnd (P.info? tx) fun i => grd i.comparable (eq tx vx vy)) (some false)
   | _ => none)
 | _ => none
def zaq : TypeDesc → AV → Bool
 | .bool => fun v => match v with | .bool _ => true | _ => false
 | .int _ => fun v => match v with | .int _ _ => true | .num .. => true | _ => false
 | .string => fun v => match v with | .str _ _ => true | .sstr .. => true | _ => false
 | .pointer _ => fun v => match v with | .pnil => true | .ptr _ _ => true | .gptr _ => true | _ => false
 | .slice _ => fun v => match v with | .snil => true | .sl .. => true | .sle => true | _ => false
 | .map _ _ => fun v => match v with | .mnil => true | .map _ => true | _ => false
 | .func _ _ _ => fun v => match v with | .fnil => true | .func .. => true | _ => false
 | _ => fun _ => false
def zhH (h : AH) (eq : TypeId → AV → AV → Option Bool) (t : TypeId) (x y : AV) (td : TypeDesc) : Option Bool := match td with
 | .interface _ => zcb P eq x y
 | .struct fs => aggV x fun xs => aggV y fun ys => ite' (P.stoodInHeld t) none (goF P eq xs ys fs.toList)
 | .pointer el => bnd (zaX P el) fun z => grd (Nat.blt 0 z) (grd (zaq td x) (grd (zaq td y) (zar h x y)))
 | td => grd (zaq td x) (grd (zaq td y) (zar h x y))
def zcC (h : AH) (d : Nat) : TypeId → AV → AV → Option Bool :=
 nE (fun _ _ _ => none)
  (fun _ ih t x y => bnd (P.underlying t) fun td => zhH P h ih t x y td) d
def zm9 (op : BinOp) (k : IntKind) (a b : Int) : Option Int :=
 match op with
 | .and => some (k.wrap (BitVec.ofInt k.bits a &&& BitVec.ofInt k.bits b).toNat)
 | .or => some (k.wrap (BitVec.ofInt k.bits a ||| BitVec.ofInt k.bits b).toNat)
 | .xor => some (k.wrap (BitVec.ofInt k.bits a ^^^ BitVec.ofInt k.bits b).toNat)
 | .andNot => some (k.wrap (BitVec.ofInt k.bits a &&& ~~~(BitVec.ofInt k.bits b)).toNat)
 | _ => none
def zht (k : IntKind) (n : Int) : Bool := match k with
 | .i64 => iE (fun n => Nat.blt n 9223372036854775808) (fun n => Nat.blt n 9223372036854775808) n
 | .u8 => iE (fun n => Nat.blt n 256) (fun _ => false) n
 | _ => false
def zgp (k : IntKind) (n : Int) : Int := ite' (zht k n) n (k.wrap n)
def zqn (op : BinOp) (k : IntKind) (a b : Int) : Option AV :=
 match op with
 | .add => some (zca k (zgp k (a + b)))
 | .sub => some (zca k (zgp k (a - b)))
 | .mul => some (zca k (zgp k (a * b)))
 | .quo => ite' (zgn b 0) none (some (zca k (zgp k (a.tdiv b))))
 | .rem => ite' (zgn b 0) none (some (zca k (a.tmod b)))
 | .eql => some (zbZ (zgn a b))
 | .neq => some (zbZ (ite' (zgn a b) false true))
 | .lss => some (zbZ (zlr a b))
 | .leq => some (zbZ (zpo a b))
 | .gtr => some (zbZ (zlr b a))
 | .geq => some (zbZ (zpo b a))
 | op => bnd (zm9 op k a b) fun n => some (zca k n)
def zkj : BinOp → Bool
 | .shl => true
 | .shr => true
 | _ => false
def zoC (op : BinOp) (k : IntKind) (a : Int) (n : Nat) : Option AV :=
 match op with
 | .shl => some (zca k (k.wrap (a * 2 ^ (min n k.bits))))
 | .shr => some (zca k (a.fdiv (2 ^ (min n k.bits))))
 | _ => none
def zqo (op : BinOp) (n c n' c' : Nat) : Option AV :=
 match op with
 | .add => grd (Nat.ble (Nat.add n n') 1000000000) (some (zlq (Nat.add n n') (Nat.add (Nat.mod c (Nat.pow 256 n)) (Nat.mul (Nat.pow 256 n) c'))))
 | .eql => some (zbZ (zeY n c n' c'))
 | .neq => some (zbZ (ite' (zeY n c n' c') false true))
 | .lss => some (zbZ (zhj (Nat.succ n) n c n' c'))
 | .gtr => some (zbZ (zhj (Nat.succ n') n' c' n c))
 | .leq => some (zbZ (ite' (zhj (Nat.succ n') n' c' n c) false true))
 | .geq => some (zbZ (ite' (zhj (Nat.succ n) n c n' c') false true))
 | _ => none
def zuj : BinOp → Bool
 | .add => true
 | _ => false
def zaQ : Operand → Bool
 | .const _ => true
 | _ => false
def zls : AV → Bool
 | .inil => true
 | _ => false
def zvj : AV → Bool
 | .agg _ => true
 | _ => false
def ztU (t : TypeId) (cst : Bool) (a b : AV) : Bool :=
 ite' (zls a) (ite' (zls b) (ite' cst true (oE false zeG (P.underlying t))) true)
  (ite' (zvj a) (ite' (P.eqGuardType P.depth t) false true) true)
def eqOp (op : BinOp) (q : Bool) : Option AV :=
 match op with
 | .eql => some (zbZ q)
 | .neq => some (zbZ (ite' q false true))
 | _ => none
def zkk (op : BinOp) (t : TypeId) (cst : Bool) (a b : AV) (h : AH) : Option AV :=
 grd (ztU P t cst a b) (bnd (zcC P h 40 t a b) fun q => eqOp op q)
def zuk : BinOp → Bool
 | .gtr => true
 | _ => false
def fits (m : Nat) (fam : List ME) : Bool :=
 lE true (fun kv _ r => match kv.k with | .str n _ => ite' (Nat.ble (Nat.add m n) 1000000000) r false | _ => false) fam
def binA (op : BinOp) (t : TypeId) (cst : Bool) (a b : AV) (h : AH) : Option AV :=
 match a with
 | .int k m => (match b with
   | .int k' n => ite' (zkj op) (natI n fun n => zoC op k m n) (grd (zcB k k') (zqn op k m n))
   | _ => zkk P op t cst a b h)
 | .str n c => (match b with
   | .str n' c' => zqo op n c n' c'
   | .sstr pn pc i => ite' (zuj op) (grd (zc8 h.fb h.fam i) (grd (fits (Nat.add n pn) h.fam) (some (frc (preS n c pn pc).1 fun n' => frc (preS n c pn pc).2 fun c' => .sstr n' c' i)))) (zkk P op t cst a b h)
   | _ => none)
 | .num _ _ lo _ => (match b with
   | .int k n => ite' (zuk op) (grd (zcB k .i64) (grd (under n lo) (some (.bool true)))) (zkk P op t cst a b h)
   | _ => zkk P op t cst a b h)
 | _ => zkk P op t cst a b h
def unA (op : UnOp) (x : AV) : Option AV :=
 match op with
 | .neg => (match x with | .int k n => some (zca k (zgp k (0 - n))) | _ => none)
 | .not => (match x with | .bool b => some (zbZ (ite' b false true)) | _ => none)
 | .xor => (match x with | .int k n => bnd (zm9 .xor k (if k.signed then -1 else k.max) n) fun n => some (zca k n) | _ => none)
 | _ => none
def zb0 (n : Nat) : Nat → List AV :=
 nE (fun _ => []) (fun _ ih c => (frc (Nat.mod c 256) fun b => .int .u8 (.ofNat b)) :: ih (Nat.div c 256)) n
def zna {α : Type} (a : AV) (k : Nat → Option α) : Option α := match a with
 | .int .u8 i => natI i fun b => grd (Nat.blt b 256) (k b)
 | _ => none
def zhI (l : List AV) : Option Nat :=
 lE (some 0) (fun a _ r => zna a fun b => bnd r fun c => some (Nat.add b (Nat.mul 256 c))) l
def zeH (l : List AV) : Option AV := bnd (zhI l) fun c => some (zlq (len l) c)
def zgq (n : Int) : AV := zqi (Utf8.encode n).data.toList
def isStringD : TypeDesc → Bool
 | .string => true
 | _ => false
def zkl : TypeDesc → Bool
 | .unsafePointer => true
 | _ => false
abbrev VH := Option (AV × AH)
def vh (h : AH) (o : Option AV) : VH := bnd o fun v => some (v, h)
def zbW (x : AV) (h : AH) : Option AV := match x with
 | .snil => some (.str 0 0)
 | .sle => some (.str 0 0)
 | .sl b o l z => grd (Nat.beq z 1) (bnd (zbo h b o l) zeH)
 | _ => none
def zdJ (e : Nat) : Bool := oE false isU8 (P.underlying e)
def tyE : Ent → Nat
 | .cells _ ty _ _ _ => ty
 | _ => 0
def zds (h : AH) (t : Nat) (x : AV) : VH := match x with
 | .pnil => some (.pnil, h)
 | .ptr b o => bnd (zaX P t) fun n => grd (Nat.blt 0 n) (bnd (h.cells b) fun l => grd (Nat.blt o (len l)) (some (x, h)))
 | _ => none
def zfE (h : AH) (u : Nat) (x : AV) : VH := match x with
 | .pnil => some (.pnil, h)
 | .ptr b o => grd (Nat.beq o 0) (bnd (zaX P u) fun n => grd (Nat.blt 0 n) (bnd (h.get b) fun e => grd (Nat.beq (tyE e) u) (grd (Nat.blt 0 u) (bnd (h.cells b) fun l => grd (Nat.ble n (len l)) (some (x, h))))))
 | _ => none
def zqp (h : AH) (x : AV) (sd : TypeDesc) : TypeDesc → VH
 | .int k => intV x fun n => some (zca k (zgp k n), h)
 | .string => (match x with
   | .int _ n => some (zgq n, h)
   | .str n c => some (.str n c, h)
   | .sstr pn pc i => some (.sstr pn pc i, h)
   | x => bnd (zjs sd) fun e => grd (zdJ P e) (bnd (zbW x h) fun s => some (s, h)))
 | .slice e => strV x fun n c => grd (zdJ P e) (h.new (.cells (zb0 n c) 0 true 0 []) fun b h => some (.sl b 0 n 1, h))
 | .unsafePointer => (match sd with
   | .pointer t => zds P h t x
   | _ => none)
 | .pointer u => grd (zkl sd) (zfE P h u x)
 | _ => none
def zlt (src dst : TypeId) (x : AV) (h : AH) : VH :=
 bnd (P.underlying src) fun sd => bnd (P.underlying dst) fun dd => zqp P h x sd dd
def zcN (v : Option AV) (dflt n : Nat) : Option Nat :=
 oE (some dflt) (fun a => natV a fun i => grd (Nat.ble i n) (some i)) v
def zkm (n c : Nat) (lo hi : Option AV) : Option AV :=
 bnd (zcN hi n n) fun hh => bnd (zcN lo 0 hh) fun l =>
  some (zlq (Nat.sub hh l) (Nat.mod (Nat.div c (Nat.pow 256 l)) (Nat.pow 256 (Nat.sub hh l))))
def znb (b o len_ z n : Nat) (lo hi : Option AV) : Option AV :=
 bnd (zcN hi len_ (Nat.div (Nat.sub n o) z)) fun hh => bnd (zcN lo 0 hh) fun l =>
  ite' (Nat.beq l 0) (some (.sl b o hh z))
   (ite' (Nat.blt (Nat.add o (Nat.mul l z)) n) (some (frc (Nat.add o (Nat.mul l z)) fun o => frc (Nat.sub hh l) fun m => .sl b o m z))
    (grd (Nat.beq hh l) (some .sle)))
def znc (x : AV) (lo hi : Option AV) (h : AH) : TypeDesc → Option AV
 | .string => strV x fun n c => zkm n c lo hi
 | .slice e => (match x with
   | .sl b o l z => bnd (zaX P e) fun z' => grd (Nat.beq z z') (grd (Nat.blt 0 z) (bnd (h.cells b) fun cs => znb b o l z (len cs) lo hi))
   | .snil => bnd (zaX P e) fun _ => bnd (zcN hi 0 0) fun hh => bnd (zcN lo 0 hh) fun _ => some .snil
   | .sle => bnd (zaX P e) fun _ => bnd (zcN hi 0 0) fun hh => bnd (zcN lo 0 hh) fun _ => some .sle
   | _ => none)
 | _ => none
def ze2 (t : TypeId) (x : AV) (lo hi : Option AV) (h : AH) : Option AV := bnd (P.underlying t) fun d => znc P x lo hi h d
def findKey (h : AH) (k : AV) (l : List ME) : Option (Option ME) :=
 lE (some none) (fun m _ r => bnd (zar h k m.k) fun q => ite' q (some (some m)) r) l
def zhJ (h : AH) (k v : AV) (s : Nat) (l : List ME) : Option (List ME) :=
 lE (some [⟨k, v, s⟩])
  (fun m t r => bnd (zar h k m.k) fun q => ite' q (some (⟨m.k, v, m.s⟩ :: t)) (bnd r fun t => some (m :: t))) l
def zkn (v : AV) (s : Nat) (l : List ME) : Option (List ME) :=
 lE none (fun m t r => ite' (Nat.beq s m.s) (some (⟨m.k, v, m.s⟩ :: t)) (bnd r fun t => some (m :: t))) l
def zlu (h : AH) (k : AV) (l : List ME) : Option (List ME) :=
 lE (some []) (fun m t r => bnd (zar h k m.k) fun q => ite' q (some t) (bnd r fun t => some (m :: t))) l
def mapV {α : Type} (a : AV) (k : Nat → Option α) : Option α := match a with
 | .map b => k b
 | _ => none
def zee (m : AV) (h : AH) : Option (List ME) := match m with
 | .mnil => some []
 | .map b => bnd (h.map b) fun p => some p.1
 | _ => none
def zcO (ok : Bool) (v : AV) (there : Bool) : AV := ite' ok (.tup [v, .bool there]) v
def mapK (t : TypeId) (k : AV) : Option Nat := bnd (P.underlying t) fun d => bnd (mapD d) fun ke => bnd (P.underlying ke.1) fun kd => grd (zed kd) (grd (zaq kd k) (some ke.2))
def ckOf (p : List ME × Nat) (es : List ME) : Nat := frc (Nat.add p.2 (Nat.sub (len es) (len p.1))) fun c => c
def znd (t : TypeId) (ok : Bool) (m k : AV) (h : AH) : Option AV :=
 bnd (mapK P t k) fun e => bnd (zee m h) fun es => bnd (findKey h k es) fun r =>
  oE (bnd (zfc P e) fun z => some (zcO ok z false)) (fun x => some (zcO ok x.v true)) r
def zoD (t : TypeId) (m k v : AV) (h : AH) : Option AH :=
 mapV m fun b => bnd (mapK P t k) fun _ => bnd (h.map b) fun p => h.skip fun s h => bnd (zhJ h k v s p.1) fun es => some (h.set b (.map es (ckOf p es)))
def zoE (t : TypeId) (m k : AV) (h : AH) : Option AH :=
 bnd (mapK P t k) fun _ => match m with
  | .mnil => some h
  | .map b => bnd (h.map b) fun p => bnd (zlu h k p.1) fun es => some (h.set b (.map es p.2))
  | _ => none
def zhK (t : TypeId) (m k : AV) (h : AH) : VH :=
 mapV m fun b => bnd (mapK P t k) fun e => bnd (h.map b) fun p => bnd (findKey h k p.1) fun r =>
  oE
   (bnd (zfc P e) fun z => h.skip fun s h => bnd (zhJ h k z s p.1) fun es => some (.tup [z, .stp s], h.set b (.map es (ckOf p es))))
   (fun x => some (.tup [x.v, .stp x.s], h)) r
def stpV {α : Type} (a : AV) (k : Nat → Option α) : Option α := match a with
 | .stp s => k s
 | _ => none
def zfd (m s v : AV) (h : AH) : Option AH :=
 mapV m fun b => stpV s fun s => bnd (h.map b) fun p => bnd (zkn v s p.1) fun es => some (h.set b (.map es p.2))
def zjc (place : Nat → Option (Nat × Nat)) (ps : List (Nat × AV)) : List AV → Option (List AV) :=
 lE some
  (fun p _ ih cells => bnd (place p.1) fun q => grd (Nat.beq (len p.2.cells) q.2) (bnd (zdr cells q.1 p.2.cells) fun cells => ih cells)) ps
def zju (fs : List Field) (i : Nat) : Option (Nat × Nat) := bnd (nth fs i) fun f => bnd (zaX P f.type) fun n => some (f.offset, n)
def zgr (z : Nat) (i : Nat) : Option (Nat × Nat) := some (Nat.mul i z, z)
def zhu (fs : List Field) : Bool := lE true (fun f _ r => ite' (Option.isSome (zaX P f.type)) r false) fs
def ztV (z : List AV) (ps : List (Nat × AV)) : TypeDesc → Option AV
 | .struct fs => grd (zhu P fs.toList) (bnd (zjc (zju P fs.toList) ps z) fun l => some (.agg l))
 | .array _ e => bnd (zaX P e) fun n => bnd (zjc (zgr n) ps z) fun l => some (.agg l)
 | _ => none
def zqq (t : TypeId) (ps : List (Nat × AV)) : Option AV := bnd (zfc P t) fun z => aggV z fun z => bnd (P.underlying t) fun d => ztV P z ps d
def zcP (e z n : Nat) : Option (List AV) := bnd (zfc P e) fun v => grd (Nat.beq (len v.cells) z) (some (repl n v.cells))
def zfe (t : TypeId) (n : Nat) (ps : List (Nat × AV)) (h : AH) : VH :=
 bnd (zhi P t) fun e => grd (Nat.ble (Nat.mul n e.2) 16777216) (bnd (zcP P e.1 e.2 n) fun z => bnd (zjc (zgr e.2) ps z) fun l =>
  h.new (.cells l e.1 true 0 []) fun b h => some (.sl b 0 n e.2, h))
def zdK (e c : Nat) : Option Unit := bnd (P.info? e) fun i => grd (Nat.ble (Nat.mul i.bytes c) 140737488355328) (some ())
def zgs (t : TypeId) (l c : AV) (h : AH) : VH :=
 natV l fun l => natV c fun c => grd (Nat.ble l c) (grd (Nat.ble c 100000) (bnd (zhi P t) fun e => bnd (zdK P e.1 c) fun _ => bnd (zcP P e.1 e.2 c) fun z =>
  h.new (.cells z e.1 true 0 []) fun b h => some (.sl b 0 l e.2, h)))
def lenD (x : AV) (h : AH) : TypeDesc → Option Nat
 | .string => strV x fun n _ => some n
 | .array n _ => some n
 | .slice _ => (match x with
   | .sl _ _ l _ => some l
   | .sle => some 0
   | .snil => some 0
   | _ => none)
 | .map _ _ => bnd (zee x h) fun es => some (len es)
 | _ => none
def zeI (z : Nat) (x : AV) (h : AH) : Option (Nat × List AV) := match x with
 | .sl b o l z' => grd (Nat.beq z z') (bnd (zbo h b o (Nat.mul l z)) fun cs => some (l, cs))
 | .sle => some (0, [])
 | .snil => some (0, [])
 | .str n c => grd (Nat.beq z 1) (some (n, zb0 n c))
 | _ => none
def zjv (e z : Nat) (x : AV) : Option (Nat × List AV) :=
 natV x fun n => grd (Nat.ble n 100000) (bnd (zdK P e n) fun _ => bnd (zcP P e z n) fun r => some (n, r))
def zff (e z m : Nat) : Option Unit := grd (Nat.ble m 1000000000) (bnd (zcP P e z 0) fun _ => zdK P e (Nat.add (Nat.mul 4 m) 1000))
def ztW (ty e : Nat) : Nat := ite' (Nat.beq ty e) e 0
def zdc (o ty e : Nat) : Nat := ite' (Nat.beq o 0) (ztW ty e) 0
def zko (e z b o l f n : Nat) (cs : List AV) (h : AH) : Ent → VH
 | .cells old ty wr fz olds =>
   ite' (Nat.ble (Nat.add f (Nat.mul n z)) (len old))
    (bnd (zbe h b f cs) fun h => some (frc (Nat.add l n) fun m => .sl b o m z, h))
    (grd wr (grd (Nat.ble fz f) (grd (allC cs) (bnd (zff P e z (Nat.add l n)) fun _ => bnd (cut old o (Nat.mul l z)) fun mine =>
     ite' (Nat.beq f (len old))
      (AH.new (h.set b (.cells old ty false fz olds)) (.cells (app mine cs) (zdc o ty e) true (Nat.sub fz o) (b :: olds)) fun b' h => some (frc (Nat.add l n) fun m => .sl b' 0 m z, h))
      (AH.new (AH.kill (b :: olds) h) (.cells (app mine cs) (zdc o ty e) true (Nat.sub fz o) []) fun b' h => some (frc (Nat.add l n) fun m => .sl b' 0 m z, h))))))
 | _ => none
def zoF (e z n : Nat) (cs : List AV) (s : AV) (h : AH) : VH :=
 ite' (Nat.beq n 0) (match s with
   | .snil => some (.snil, h)
   | .sle => some (.sle, h)
   | .sl b o l z' => some (.sl b o l z', h)
   | _ => none)
  (match s with
   | .snil => bnd (zff P e z n) fun _ => h.new (.cells cs e true 0 []) fun b h => some (.sl b 0 n z, h)
   | .sl b o l z' => grd (Nat.beq z z') (bnd (h.get b) fun en => zko P e z b o l (Nat.add o (Nat.mul l z)) n cs h en)
   | _ => none)
def zoG (o : Option Nat) : Option Bool := oE (some false) (fun t => bnd (P.underlying t) fun d => some (Option.isSome (intD d))) o
def zkp (t : Nat) (zeros : Bool) (s x : AV) (h : AH) : VH :=
 bnd (zhi P t) fun e => bnd (ite' zeros (zjv P e.1 e.2 x) (zeI e.2 x h)) fun ncs => zoF P e.1 e.2 ncs.1 ncs.2 s h
def zsz (t : TypeId) (d s : AV) (h : AH) : VH :=
 bnd (zhi P t) fun e => bnd (zeI e.2 s h) fun ncs => match d with
  | .sl b o l z => grd (Nat.beq z e.2) (bnd (tak ncs.2 (Nat.mul (Nat.min ncs.1 l) z)) fun cs => bnd (zbe h b o cs) fun h => some (zdI (Nat.min ncs.1 l), h))
  | .snil => some (zdI 0, h)
  | .sle => some (zdI 0, h)
  | _ => none
def ze3 (mx : Bool) (l : List AV) : AV → Option AV :=
 lE some
  (fun y _ ih x => match x with
   | .int k a => intV y fun b => ih (zca k (ite' (ite' mx (zlr a b) (zlr b a)) b a))
   | _ => none) l
def zkq : TypeDesc → Option Nat
 | .pointer e => some e
 | _ => none
def zne (h : AH) (t b n : Nat) : Ent → VH
 | .cells l ty wr fz olds => grd wr (grd (Nat.beq ty t) (grd (Nat.blt 0 ty) (bnd (zaX P ty) fun z => grd (Nat.beq z 1) (bnd (cut l 0 n) fun cs => bnd (zeH cs) fun s =>
   some (s, AH.set (AH.kill olds h) b (.cells l ty true (Nat.max fz n) []))))))
 | _ => none
def zcF (pt : Nat) (p l : AV) (h : AH) : VH :=
 natV l fun n => grd (Nat.ble n 1000000000) (match p with
  | .pnil => grd (Nat.beq n 0) (some (.str 0 0, h))
  | .ptr b o => ite' (Nat.beq n 0) (some (.str 0 0, h)) (grd (Nat.beq o 0) (bnd (P.underlying pt) fun d => bnd (zkq d) fun t => bnd (h.get b) fun e => zne P h t b n e))
  | _ => none)
def zeJ (x : AV) (h : AH) : VH := match x with
 | .snil => some (.pnil, h)
 | .sl b o _ _ => bnd (h.cells b) fun l => grd (Nat.blt o (len l)) (some (.ptr b o, h))
 | _ => none
def arg1 {α : Type} (l : List AV) (k : AV → Option α) : Option α := lC none (fun a t => grd (za5 t) (k a)) l
def arg2 {α : Type} (l : List AV) (k : AV → AV → Option α) : Option α :=
 lC none (fun a t => arg1 t fun b => k a b) l
def arg3 {α : Type} (l : List AV) (k : AV → AV → AV → Option α) : Option α :=
 lC none (fun a t => arg2 t fun b c => k a b c) l
def zhv (b : Builtin) (ts : List TypeId) (args : List AV) (h : AH) : VH :=
 match b with
 | .len => arg1 args fun x => bnd (nth ts 0) fun t => bnd (P.underlying t) fun d => bnd (lenD x h d) fun n => some (zdI n, h)
 | .cap => arg1 args fun x => bnd (nth ts 0) fun t => bnd (zhi P t) fun _ => (match x with | .snil => some (zdI 0, h) | _ => none)
 | .append => arg2 args fun s x => bnd (nth ts 0) fun t =>
   bnd (zoG P (nth ts 1)) fun z => zkp P t z s x h
 | .copy => arg2 args fun d s => bnd (nth ts 0) fun t => zsz P t d s h
 | .delete => arg2 args fun m k => bnd (nth ts 0) fun t => bnd (zoE P t m k h) fun h => some (.tup [], h)
 | .max => lC none (fun a l => vh h (ze3 true l a)) args
 | .min => lC none (fun a l => vh h (ze3 false l a)) args
 | .unsafeSliceData => arg1 args fun x => zeJ x h
 | .unsafeString => arg2 args fun p l => bnd (nth ts 0) fun pt => zcF P pt p l h
 | _ => none
def zeK (b n : Nat) : Nat → Nat → Int :=
 nE (fun _ _ => -1)
  (fun _ ih c i => ite' (Nat.beq (Nat.mod c 256) b) (.ofNat i) (ih (Nat.div c 256) (Nat.succ i))) n
def zkr (name origin : String) (args : List AV) (h : AH) : VH :=
 grd (decide (origin = "")) <| ite' (decide (name = "internal/abi.NoEscape")) (arg1 args fun x => some (x, h))
  (ite' (decide (name = "internal/bytealg.IndexByteString")) (arg2 args fun s b => strV s fun n c => zna b fun b => some (zca .i64 (zeK b n c 0), h)) none)
def ofVH (o : VH) : O := oE .no (fun x => .val x.1 x.2) o
def ofH (o : Option AH) : O := oE .no (fun h => .skip h) o
def ofV (h : AH) (o : Option AV) : O := oE .no (fun v => .val v h) o
def ofO (o : Option O) : O := oE .no (fun o => o) o
def znf (f : Nat) (args : List AV) (h : AH) : O :=
 oE .no
  (fun fn => oE (ofVH (zkr fn.name fn.origin args h)) (fun _ => .enter f args h) fn.body) (P.funcs[f]?)
def zjw (t : Nat) (ptr : Bool) : Bool := oE false (fun d => ite' ptr (zbO d) (ite' (zbO d) false true)) (P.underlying t)
def zhL (t : TypeId) (name : String) : Option Nat :=
 bnd (P.info? t) fun i => bnd (i.methods.toList.find? (·.name == name)) fun m => grd (za5 m.path.toList) (bnd m.func fun fp => grd (zjw P t fp.2) (some fp.1))
def zef (n : Nat) (ps : List Nat) : List AV → Tr AV → Option (Tr AV) :=
 lE (fun as t => grd (za5 as) (some t))
  (fun p _ ih as t => lC none (fun a as' => grd (Nat.blt p n) (ih as' (Tr.put (some a) (Nat.succ p) t p))) as) ps
def zqr (l : Nat) (args : List AV) (h : AH) : Ent → O
 | .loop _ _ tm nt ps asg body _ => ofO (bnd (zef nt ps args tm) fun tm => some (.round l tm nt asg body h))
 | _ => .no
def zhM (name : String) (args : List AV) (h : AH) : O :=
 lC .no (fun r as => match r with
  | .ifc t v => ofO (bnd (zhL P t name) fun f => some (znf P f (v :: as) h))
  | _ => .no) args
def zeL (capt args : List AV) (h : AH) : Fn → O
 | .func f => znf P f (app args capt) h
 | .yield l => ofO (bnd (h.get l) fun e => some (zqr l args h e))
 | .method name => zhM P name args h
 | _ => .no
def zpp (f : AV) (args : List AV) (h : AH) : O := match f with
 | .func fn first capt => zeL P capt (app first args) h fn
 | _ => .no
def zbp : Op → List Operand
 | .move x => [x]
 | .assign x => [x]
 | .pick c a b => [c, a, b]
 | .box _ x => [x]
 | .build _ ps => ps.toList.map (·.2)
 | .buildSlice _ _ ps => ps.toList.map (·.2)
 | .load _ a => [a]
 | .store _ a v => [a, v]
 | .nilCheck x => [x]
 | .binOp _ _ x y _ => [x, y]
 | .unOp _ _ x => [x]
 | .convert _ _ x => [x]
 | .makeInterface _ x => [x]
 | .makeFunc _ first capt => app first.toList capt.toList
 | .makeMap _ r => r.toList
 | .makeSlice _ l c => [l, c]
 | .slice _ x lo hi _ => x :: app lo.toList hi.toList
 | .fieldAddr _ x _ => [x]
 | .field _ x _ => [x]
 | .indexAddr _ x i => [x, i]
 | .index _ x i => [x, i]
 | .lookup _ m k _ => [m, k]
 | .mapUpdate _ m k v => [m, k, v]
 | .insert _ m k v => [m, k, v]
 | .mapEntry _ m k => [m, k]
 | .entryStore _ m k v => [m, k, v]
 | .range _ x => [x]
 | .next it _ => [it]
 | .entry it => [it]
 | .typeAssert x _ _ _ => [x]
 | .extract x _ => [x]
 | .call c => (match c.callee with | .value f => f :: c.args.toList | .invoke r _ => r :: c.args.toList | .builtin _ => c.args.toList)
 | .defer c => (match c.callee with | .value f => f :: c.args.toList | .invoke r _ => r :: c.args.toList | .builtin _ => c.args.toList)
 | _ => []
def zul (c a b : AV) : Option AV := match c with
 | .bool q => some (ite' q a b)
 | _ => none
def zfF (x : AV) : Option AV := match x with
 | .pnil => none
 | .sval _ => none
 | .inil => none
 | .fnil => none
 | .func f a b => (match f with | .method _ => none | _ => some (.func f a b))
 | x => some x
def zipI (ps : List (Nat × Operand)) : List AV → List (Nat × AV) :=
 lE (fun _ => []) (fun p _ ih vs => lC [] (fun v vt => (p.1, v) :: ih vt) vs) ps
def zgt (t : Nat) (x : AV) : Option AV := bnd (P.underlying t) fun d => ite' (zqk d) none (some (.ifc t x))
def zks (t : Nat) (vs : List AV) (h : AH) : VH :=
 grd (lC true (fun r _ => Option.isSome (bnd (mapA P t) fun _ => intV r fun _ => some ())) vs) (h.new (.map [] 0) fun b h => some (.map b, h))
def zhN {α : Type} (o : Option α) : Bool := oE false (fun _ => true) o
def zkt (t : Nat) (lo hi : Bool) (vs : List AV) (h : AH) : Option AV :=
 lC none (fun x r =>
  ite' lo (ite' hi (arg2 r fun l u => ze2 P t x (some l) (some u) h) (arg1 r fun l => ze2 P t x (some l) none h))
   (ite' hi (arg1 r fun u => ze2 P t x none (some u) h) (grd (za5 r) (ze2 P t x none none h)))) vs
def isZeroO : Operand → Bool
 | .const (.int _ (.ofNat n)) => Nat.beq n 0
 | _ => false
def famK (a : AV) : Bool := match a with
 | .str _ _ => true
 | _ => false
def intA (a : AV) : Bool := match a with
 | .int _ _ => true
 | .ptr _ _ => true
 | _ => false
def zjd (l : List AV) : Bool := lE true (fun x _ r => ite' (intA x) r false) l
def famV (a : AV) : Bool := match a with
 | .func (.func _) x y => ite' (zjd x) (zjd y) false
 | _ => false
def zvT (es : List ME) : Bool := lE true (fun m _ r => ite' (famK m.k) (ite' (famV m.v) r false) false) es
def zqs (a b : AV) : Bool := match a with
 | .str n c => (match b with | .str n' c' => ite' (Nat.beq n n') (Nat.beq c c') false | _ => false)
 | _ => false
def zku (a b : AV) : Bool := match a with
 | .int k m => (match b with | .int k' n => ite' (zcB k k') (zgn m n) false | _ => false)
 | .ptr i o => (match b with | .ptr i' o' => ite' (Nat.beq i i') (Nat.beq o o') false | _ => false)
 | _ => false
def zgZ (xs : List AV) : List AV → Bool :=
 lE (fun ys => za5 ys)
  (fun x _ ih ys => lC false (fun y yt => ite' (zku x y) (ih yt) false) ys) xs
def zng (a b : AV) : Bool := match a with
 | .func (.func f) x y => (match b with | .func (.func g) x' y' => ite' (Nat.beq f g) (ite' (zgZ x x') (zgZ y y') false) false | _ => false)
 | _ => false
def zjx (xs : List ME) : List ME → Bool :=
 lE (fun ys => za5 ys)
  (fun x _ ih ys => lC false (fun y yt => ite' (Nat.beq x.s y.s) (ih yt) false) ys) xs
def zjy (xs : List ME) : List ME → Bool :=
 lE (fun ys => za5 ys)
  (fun x _ ih ys => lC false (fun y yt => ite' (Nat.beq x.s y.s) (ite' (zqs x.k y.k) (ite' (zng x.v y.v) (ih yt) false) false) false) ys) xs
def two (es : List ME) : Bool := Nat.blt 1 (len es)
def zhO (m : Nat) (h : AH) (p : List ME × Nat) : VH :=
 ite' (two p.1)
  (grd (zvT p.1) (grd (za5 h.fam) (frc h.next fun b => some (.ptr b 0,
   ⟨Nat.add (Nat.succ b) (len p.1), Tr.put (some (.miter m 0 (len p.1) (Nat.succ b) p.2 [])) (Nat.succ b) h.t b, Nat.succ b, p.1⟩))))
  (h.new (.miter m 0 (len p.1) 0 p.2 p.1) fun b h => some (.ptr b 0, h))
def zqt (x : AV) (h : AH) : TypeDesc → VH
 | .string => strV x fun n c => h.new (.siter n c 0) fun b h => some (.ptr b 0, h)
 | .map _ _ => mapV x fun m => bnd (h.map m) fun p => zhO m h p
 | _ => none
def zhP (n c p : Nat) : Option (Nat × Nat) :=
 frc (Nat.mod (Nat.div c (Nat.pow 256 p)) 256) fun b => grd (Nat.blt b 128) (some (b, 1))
def znh : AV := .tup [.bool false]
def zum (b : Nat) (str : Bool) (h : AH) : Ent → VH
 | .siter n c p => grd str (ite' (Nat.blt p n)
   (bnd (zhP n c p) fun r => some (.tup [.bool true, zdI p, .int .i32 (.ofNat r.1)], h.set b (.siter n c (Nat.add p r.2)))) (some (znh, h)))
 | .miter m j n fam lc ss => ite' str none (bnd (h.map m) fun p =>
   ite' (Nat.beq fam 0)
    (grd (zjx p.1 ss) (ite' (Nat.blt j n)
     (bnd (nth p.1 0) fun e => some (.tup [.bool true, e.k, e.v], h.set b (.miter m (Nat.succ j) n fam p.2 ss)))
     (some (znh, h))))
    (grd (Nat.beq fam h.fb) (grd (zjy p.1 h.fam) (ite' (Nat.blt j n)
     (frc (Nat.add h.fb j) fun i => some (.tup [.bool true, .sstr 0 0 i, .sval i], h.set b (.miter m (Nat.succ j) n fam p.2 ss)))
     (some (znh, h))))))
 | _ => none
def zqu (h : AH) : Ent → Option AV
 | .miter m j n fam lc ss => bnd (h.map m) fun p => grd (Nat.beq lc p.2)
   (ite' (Nat.beq fam 0)
    (grd (zjx p.1 ss) (grd (Nat.beq j 1) (bnd (nth p.1 0) fun e => some (.tup [e.k, e.v]))))
    (grd (Nat.beq fam h.fb) (grd (zjy p.1 h.fam) (grd (Nat.blt 0 j) (frc (Nat.add h.fb (Nat.pred j)) fun i => some (.tup [.sstr 0 0 i, .sval i]))))))
 | _ => none
def zpq {α : Type} (a : AV) (k : Nat → Option α) : Option α := ptrV a fun b o => grd (Nat.beq o 0) (k b)
def zfG (t : Nat) (ok : Bool) : Option AV := grd ok (bnd (zfc P t) fun z => some (.tup [z, .bool false]))
def isNone {α : Type} (o : Option α) : Bool := oE true (fun _ => false) o
def zkv (t : Nat) (ok : Bool) (x : AV) : TypeDesc → Option AV
 | .interface ms => (match x with
   | .ifc t' _ => bnd (P.info? t') fun i => ite' (isNone (Instr.missingMethod ms i.methods)) (some (zcO ok x true)) (zfG P t ok)
   | .inil => zfG P t ok
   | _ => none)
 | _ => (match x with
   | .ifc t' v => ite' (Nat.beq t t') (some (zcO ok v true)) (zfG P t ok)
   | .inil => zfG P t ok
   | _ => none)
def opV (op : Op) (vs : List AV) (h : AH) : O :=
 match op with
 | .move _ => ofV h (arg1 vs some)
 | .assign _ => ofV h (arg1 vs some)
 | .pick _ _ _ => ofV h (arg3 vs zul)
 | .alloc t => ofVH (bnd (zfc P t) fun z => h.new (.cells z.cells t true 0 []) fun b h => some (.ptr b 0, h))
 | .box t _ => ofVH (arg1 vs fun v => h.new (.cells v.cells t true 0 []) fun b h => some (.ptr b 0, h))
 | .build t ps => ofV h (zqq P t (zipI ps.toList vs))
 | .buildSlice t n ps => ofVH (zfe P t n (zipI ps.toList vs) h)
 | .load t _ => ofV h (arg1 vs fun a => load P t a h)
 | .store t _ _ => ofH (arg2 vs fun a v => store P t a v h)
 | .nilCheck _ => ofV h (arg1 vs zfF)
 | .binOp op t x y _ => ofV h (arg2 vs fun a b => binA P op t (ite' (zaQ x) true (zaQ y)) a b h)
 | .unOp op _ _ => ofV h (arg1 vs fun a => unA op a)
 | .convert s d _ => ofVH (arg1 vs fun a => zlt P s d a h)
 | .makeInterface t _ => ofV h (arg1 vs fun a => zgt P t a)
 | .makeFunc fn first _ => ofV h (grd (zfD fn) (bnd (tak vs (len first.toList)) fun a => bnd (drp vs (len first.toList)) fun b => some (.func fn a b)))
 | .makeMap t _ => ofVH (zks P t vs h)
 | .makeSlice t _ _ => ofVH (arg2 vs fun l c => zgs P t l c h)
 | .slice t _ lo hi mx => ite' (isNone mx) (ofV h (zkt P t (zhN lo) (zhN hi) vs h)) .no
 | .fieldAddr s _ f => ofV h (arg1 vs fun a => fieldAddr P s f a)
 | .field s _ f => ofV h (arg1 vs fun a => field P s f a)
 | .indexAddr t _ _ => ofV h (arg2 vs fun x i => indexAddr P t x i)
 | .index t _ _ => ofV h (arg2 vs fun x i => index P t x i)
 | .lookup t _ _ ok => ofV h (arg2 vs fun m k => znd P t ok m k h)
 | .mapUpdate t _ _ _ => ofH (arg3 vs fun m k v => zoD P t m k v h)
 | .insert t _ _ _ => ofH (arg3 vs fun m k v => zoD P t m k v h)
 | .mapEntry t _ _ => ofVH (arg2 vs fun m k => zhK P t m k h)
 | .entryStore _ _ _ _ => ofH (arg3 vs fun m k v => zfd m k v h)
 | .range t _ => ofVH (arg1 vs fun x => bnd (P.underlying t) fun d => zqt x h d)
 | .next _ str => ofVH (arg1 vs fun it => zpq it fun b => bnd (h.get b) fun e => zum b str h e)
 | .entry _ => ofV h (arg1 vs fun it => zpq it fun b => bnd (h.get b) fun e => zqu h e)
 | .typeAssert _ _ t ok => ofV h (arg1 vs fun x => bnd (P.underlying t) fun d => zkv P t ok x d)
 | .extract _ i => ofV h (arg1 vs fun x => tupV x fun l => nth l i)
 | .call c => (match c.callee with
   | .builtin b => ofVH (zhv P b c.argTypes.toList vs h)
   | .value _ => lC .no (fun f as => zpp P f as h) vs
   | .invoke _ name => zhM P name vs h)
 | .defer c => (match c.callee with
   | .value _ => lC .no (fun f as => match f with
     | .func fn first capt => .dfr (.fn fn capt (app first as)) h
     | _ => .no) vs
   | _ => .no)
 | _ => .no
def zpr (a b : AV) : Bool := match a with
 | .bool x => (match b with | .bool y => ite' x y (ite' y false true) | _ => false)
 | .int k x => (match b with | .int j y => ite' (zcB k j) (zgn x y) false | _ => false)
 | .num g j lo hi => (match b with | .num g' j' lo' hi' => ite' (Nat.beq g g') (ite' (Nat.beq j j') (ite' (Nat.beq lo lo') (Nat.beq hi hi') false) false) false | _ => false)
 | .stp x => (match b with | .stp y => Nat.beq x y | _ => false)
 | .str n c => (match b with | .str n' c' => ite' (Nat.beq n n') (Nat.beq c c') false | _ => false)
 | .sstr p q i => (match b with | .sstr p' q' j => ite' (Nat.beq p p') (ite' (Nat.beq q q') (Nat.beq i j) false) false | _ => false)
 | .sval x => (match b with | .sval y => Nat.beq x y | _ => false)
 | .ptr x o => (match b with | .ptr y p => ite' (Nat.beq x y) (Nat.beq o p) false | _ => false)
 | .pnil => (match b with | .pnil => true | _ => false)
 | .gptr x => (match b with | .gptr y => Nat.beq x y | _ => false)
 | .sl b' o l z => (match b with | .sl b2 o2 l2 z2 => ite' (Nat.beq b' b2) (ite' (Nat.beq o o2) (ite' (Nat.beq l l2) (Nat.beq z z2) false) false) false | _ => false)
 | .snil => (match b with | .snil => true | _ => false)
 | .map x => (match b with | .map y => Nat.beq x y | _ => false)
 | .mnil => (match b with | .mnil => true | _ => false)
 | .func (.func f) [] [] => (match b with | .func (.func g) [] [] => Nat.beq f g | _ => false)
 | .fnil => (match b with | .fnil => true | _ => false)
 | .inil => (match b with | .inil => true | _ => false)
 | _ => false
def zkw (xs : List AV) : List AV → Bool :=
 lE (fun ys => za5 ys)
  (fun x _ ih ys => lC false (fun y yt => ite' (zpr x y) (ih yt) false) ys) xs
structure Mem where
 nm : ME
 nu : ME
 fu : ME
 da : ME
def zoH (pn pc i : Nat) (a : AV) : Bool := match a with
 | .sstr n c j => ite' (Nat.beq n pn) (ite' (Nat.beq c pc) (Nat.beq j i) false) false
 | _ => false
def zqv (i : Nat) (a : AV) : Bool := match a with
 | .sval j => Nat.beq i j
 | _ => false
def zkx (n : Nat) (a : AV) : Bool := match a with
 | .int .i64 (.ofNat m) => Nat.beq n m
 | _ => false
def zun (b : Nat) (a : AV) : Bool := match a with
 | .ptr c o => ite' (Nat.beq b c) (Nat.beq o 0) false
 | _ => false
def zfH (c i : Nat) (e : Ent) : Option (List AV × Nat) := match e with
 | .cells (n :: s :: r) ty true 0 [] => grd (zkx c n) (grd (zoH 2 14906 i s) (some (r, ty)))
 | _ => none
def zfg (k : AV) : Option AV := strV k fun n c => some (zlq (preS 2 14906 n c).1 (preS 2 14906 n c).2)
structure Acc where
 nm : List ME
 nu : List ME
 fu : List ME
 da : List ME
 h : AH
def chk1 (h : AH) (r0 : List AV) (ty0 i c : Nat) (nm nu fu da : ME) : Option Nat :=
 ptrV nm.v fun b o => grd (Nat.beq o 0) (grd (zoH 2 14906 i nm.k) (grd (zkx c nu.k) (grd (zun b nu.v) (grd (zkx c fu.k) (grd (zqv i fu.v)
  (grd (zkx c da.k) (grd (zls da.v) (bnd (h.get b) fun e => bnd (zfH c i e) fun rt => grd (Nat.beq rt.2 ty0) (grd (zkw rt.1 r0) (some b))))))))))
def hd1 {α β : Type} (l : List α) (k : α → List α → Option β) : Option β := lC none (fun a t => k a t) l
def chkL (h : AH) (r0 : List AV) (ty0 : Nat) (nm : List ME) : Nat → Nat → List ME → List ME → List ME → Option (List Nat) :=
 lE
  (fun _ _ nu fu da => grd (za5 nu) (grd (za5 fu) (grd (za5 da) (some []))))
  (fun a _ ih i c nu fu da => hd1 nu fun b nus => hd1 fu fun c' fus => hd1 da fun d das =>
   bnd (chk1 h r0 ty0 i c a b c' d) fun x => bnd (ih (Nat.succ i) (Nat.succ c) nus fus das) fun xs => some (x :: xs)) nm
def newL (g lo hi ty0 : Nat) (r0 : List AV) (fam : List ME) : Nat → Nat → AH → Option Acc :=
 lE
  (fun _ _ h => some ⟨[], [], [], [], h⟩)
  (fun kv _ ih j b h => bnd (zfg kv.k) fun key => frc (Nat.succ b) fun s1 => frc (Nat.succ s1) fun s2 => frc (Nat.succ s2) fun s3 => frc (Nat.succ s3) fun s4 =>
   bnd (ih (Nat.succ j) (Nat.succ s4) (h.set b (.cells (.num g j lo hi :: key :: r0) ty0 true 0 []))) fun x =>
    some ⟨⟨key, .ptr b 0, s1⟩ :: x.nm, ⟨.num g j lo hi, .ptr b 0, s2⟩ :: x.nu, ⟨.num g j lo hi, kv.v, s3⟩ :: x.fu, ⟨.num g j lo hi, .inil, s4⟩ :: x.da, x.h⟩) fam
def zvU (h : AH) (c i : Nat) (m : ME) : Option (List AV × Nat) := ptrV m.v fun b _ => bnd (h.get b) fun e => zfH c i e
def zvV (a : AV) : Option Nat := match a with
 | .int .i64 (.ofNat m) => some m
 | _ => none
def zjz (n : Nat) (l : List ME) : Option (List ME × List ME) :=
 grd (Nat.ble n (len l)) (bnd (tak l (Nat.sub (len l) n)) fun a => bnd (drp l (Nat.sub (len l) n)) fun b => some (a, b))
def reix (args : List AV) (h : AH) : Option AH :=
 arg1 args fun x => ptrV x fun bx ox => grd (Nat.beq ox 0) (bnd (zdb h bx 3) fun tb => ptrV tb fun bt _ => bnd (zdb h bx 4) fun mf => mapV mf fun mf => bnd (zdb h bx 5) fun md => mapV md fun md =>
  bnd (zdb h bt 0) fun mn => mapV mn fun mn => bnd (zdb h bt 2) fun mu => mapV mu fun mu =>
  bnd (h.map mn) fun pn => bnd (h.map mu) fun pu => bnd (h.map mf) fun pf => bnd (h.map md) fun pd =>
  bnd (zjz (len h.fam) pn.1) fun nm => bnd (zjz (len h.fam) pu.1) fun nu => bnd (zjz (len h.fam) pf.1) fun fu => bnd (zjz (len h.fam) pd.1) fun da =>
  grd (zeZ mn [mu, mf, md]) (grd (zeZ mu [mf, md]) (grd (zeZ mf [md])
  (hd1 nu.2 fun n0 _ => hd1 nm.2 fun m0 _ => bnd (zvV n0.k) fun c0 => bnd (zvU h c0 h.fb m0) fun rt => bnd (chkL h rt.1 rt.2 nm.2 h.fb c0 nu.2 fu.2 da.2) fun bs =>
   frc h.next fun g => frc (Nat.add (Nat.succ g) (Nat.mul 5 (len h.fam))) fun nx =>
   bnd (newL g c0 (Nat.add c0 (len h.fam)) rt.2 rt.1 h.fam 0 (Nat.succ g) (AH.kill bs ⟨nx, h.t, 0, []⟩)) fun x =>
    some ((((x.h.set mn (.map (app nm.1 x.nm) pn.2)).set mu (.map (app nu.1 x.nu) pu.2)).set mf (.map (app fu.1 x.fu) pf.2)).set md (.map (app da.1 x.da) pd.2))))))
def zat (ops : List Oper) (fr : Fr) (g : Option (Nat × Bool)) : Option Bool :=
 oE (some true)
  (fun g => bnd (nth ops g.1) fun oj => bnd oj.dst fun d => match fr.at_ d with
   | .bool b => some (ite' b g.2 (ite' g.2 false true))
   | .sval _ => none
   | _ => some false) g
def zhQ (h : AH) (fr : Fr) : ResultVar → Option AV
 | .tmp t => some (fr.at_ t)
 | .cell t ty => load P ty (fr.at_ t) h
def zgu (h : AH) (fr : Fr) (rs : List ResultVar) : Option AV :=
 bnd (mapO (zhQ P h fr) rs) fun l => some (lC (.tup []) (fun v t => ite' (za5 t) v (.tup (v :: t))) l)
def zjA (l : List AV) : Nat → Tr AV → Tr AV :=
 lE (fun _ t => t) (fun v _ ih i t => ih (Nat.succ i) (Tr.put (some v) (Nat.succ i) t i)) l
def zlv (fn : Func) (args : List AV) : Fr := ⟨zjA args 0 .nil, Nat.max fn.ntmps (len args), []⟩
def allB {α : Type} (p : α → Bool) (l : List α) : Bool := lE true (fun x _ r => ite' (p x) r false) l
def zeg {α : Type} (p : α → α → Bool) (xs : List α) : List α → Bool :=
 lE (fun ys => za5 ys)
  (fun x _ ih ys => lC false (fun y yt => ite' (p x y) (ih yt) false) ys) xs
def ztX (ih : AV → AV → Bool) (a b : AV) : Bool := match a with
 | .func (.func f) x y => (match b with | .func (.func g) x' y' => ite' (Nat.beq f g) (ite' (zeg ih x x') (zeg ih y y') false) false | _ => false)
 | .ifc t v => (match b with | .ifc t' v' => ite' (Nat.beq t t') (ih v v') false | _ => false)
 | .agg x => (match b with | .agg y => zeg ih x y | _ => false)
 | .tup x => (match b with | .tup y => zeg ih x y | _ => false)
 | a => zpr a b
def zky (n : Nat) : AV → AV → Bool := nE (fun a b => zpr a b) (fun _ ih a b => ztX ih a b) n
def zoI (a b : ME) : Bool := ite' (zky 4 a.k b.k) (ite' (zky 4 a.v b.v) (Nat.beq a.s b.s) false) false
def zvk (a b : Ent) : Bool := match a with
 | .cells l ty wr fz olds => (match b with
   | .cells l' ty' wr' fz' olds' => ite' wr (ite' wr' (ite' (Nat.beq ty ty') (ite' (Nat.beq fz fz') (ite' (zeg Nat.beq olds olds') (zeg (zky 4) l l') false) false) false) false) false
   | _ => false)
 | .map es ck => (match b with | .map es' ck' => ite' (Nat.beq ck ck') (zeg zoI es es') false | _ => false)
 | _ => false
structure IE where
 i : Nat
 e : Ent
def zbP (l : List IE) (h : AH) : AH := lE h (fun p _ h => h.set p.i p.e) l
def zbw (n : Nat) (l : List IE) : AH := zbP l ⟨n, .nil, 0, []⟩
def zhR : Ent → List Nat
 | .cells _ _ _ _ olds => olds
 | _ => []
def zcc (l : List IE) (h : AH) : AH := lE h (fun p _ h => AH.kill (zhR p.e) (h.drop p.i)) l
def zlw (l : List IE) (h : AH) : Bool := allB (fun p => oE false (fun e => zvk p.e e) (h.get p.i)) l
def zoJ (n : Nat) (h : AH) : Bool := ite' (Nat.beq n h.next) (ite' (Nat.beq h.fb 0) (za5 h.fam) false) false
structure Card where
 args : List AV
 n : Nat
 l : List IE
 v : AV
 n' : Nat
 l' : List IE
def zps (c : Card) : List AV → AH → VH := fun args h => grd (zeg (zky 4) c.args args) (grd (zoJ c.n h) (grd (zlw c.l h)
 (some (c.v, zbP c.l' (zcc c.l ⟨c.n', h.t, 0, []⟩)))))
def zd8 (c : Card) (o : VH) : Bool := oE false (fun r => ite' (zky 4 c.v r.1) (ite' (zoJ c.n' r.2) (zlw c.l' r.2) false) false) o
inductive Hook where
 | whole (k : List AV → AH → VH)
 | pre (k : List AV → AH → VH)
 | post (k : AH → List AV → AH → Option AH)
abbrev zba := Nat → Option Hook
section
variable (I : zba) (self : Option Nat → Code → Fr → AH → R)
def putR (fr : Fr) (d : Option Nat) (v : AV) (k : Fr → R) : R := oE (.no "put") k (fr.put d v)
def zcQ : Op → Bool
 | .call c => (match c.callee with | .builtin .recover => true | _ => false)
 | _ => false
def zuo (o : Oper) (fr : Fr) (h : AH) (k : Fr → AH → R) : R :=
 ite' (zcQ o.op) (putR fr o.dst .inil fun fr => k fr h)
  (opE
   (fun v h => putR fr o.dst v fun fr => k fr h)
   (fun h => putR fr o.dst zaP fun fr => k fr h)
   (fun _ _ _ => .no "recover: a call beside it") (fun _ _ _ _ _ _ => .no "recover: a call beside it") (fun _ _ => .no "recover: a defer beside it") (.no "recover: beside it")
   (oE .no (fun vs => opV P o.op vs h) (mapO (fun x => ev x fr) (zbp o.op))))
def zgv (all : List Oper) (ops : List Oper) : Fr → AH → R :=
 lE (fun fr h => .ok .normal fr h)
  (fun o _ ih fr h => oE (.no o.pos)
   (fun w => ite' w (zuo P o fr h ih) (putR fr o.dst zaP fun fr => ih fr h)) (zat all fr o.guard)) ops
def zgw (ops : List Oper) : Bool := lE false (fun o _ r => ite' (zcQ o.op) true r) ops
def seqS (k : Fr → AH → R) (r : R) : R :=
 rE (fun x fr h => match x with | .normal => k fr h | x => .ok x fr h) (fun w => .no w) r
def runS (n : Nat) : Code → Fr → AH → R :=
 nE (fun _ _ _ => .no "S") (fun _ ih c => match c with
  | .seq a b => fun fr h => seqS (ih b) (ih a fr h)
  | .region id ops d => fun fr h => ite' (zgw ops.toList) (ite' d (.no "recover in a region that draws") (zgv P ops.toList ops.toList fr h)) (self none (.region id ops d) fr h)
  | c => self none c) n
def zvl {α : Type} (x : XE) (y n : α) : α := match x with
 | .normal => y
 | .ret => y
 | _ => n
def zpt (k : Code → Fr → AH → R) (f : Nat) (args : List AV) (h : AH) : Option (Func × Fr × AH) :=
 bnd (P.funcs[f]?) fun fn => bnd fn.body fun c => rE
  (fun x fr h => zvl x (some (fn, fr, h)) none) (fun _ => none) (k c (zlv fn args) h)
def ztY (o : O) (k : Nat → List AV → AH → Option AH) : Option AH := match o with
 | .enter f args h => k f args h
 | _ => none
def zup (h : AH) (b : Nat) : Ent → Option AH
 | .dfr ds => bnd ds fun ds => grd (za5 ds) (some (h.set b (.dfr none)))
 | _ => none
def ztZ (d : ADef) (h : AH) : Option AH := match d with
 | .coll b => bnd (h.get b) fun e => zup h b e
 | .fn f capt args => ztY (zeL P capt args h f) fun f args h => bnd (zpt P (runS P self 60) f args h) fun r => grd (za5 r.2.1.ds) (bnd (zgu P r.2.2 r.2.1 r.1.results.toList) fun _ => some r.2.2)
def zqw (ds : List ADef) : AH → Option AH := lE some (fun d _ ih h => bnd (ztZ P self d h) ih) ds
def zni (f : Nat) (args : List AV) (h : AH) : VH :=
 bnd (zpt P (self none) f args h) fun r => bnd (zqw P self r.2.1.ds r.2.2) fun h => bnd (zgu P h r.2.1 r.1.results.toList) fun v => some (v, h)
def zdt (f : Nat) (args : List AV) (h : AH) : VH :=
 oE (zni P self f args h) (fun k => match k with
  | .whole k => k args h
  | .pre k => oE (zni P self f args h) (fun r => some r) (k args h)
  | .post k => bnd (zni P self f args h) fun r => bnd (k h args r.2) fun h' => some (r.1, h')) (I f)
def zcD (x : XE) : Option Code := match x with
 | .normal => none
 | .exit id => some (.exit id)
 | .goto l => some (.goto l)
 | .ret => some .ret
def zlx (h : AH) (l : Nat) : Ent → Option AH
 | .loop .ready pend tm nt ps a b d => some (h.set l (.loop .busy pend tm nt ps a b d))
 | _ => none
def endE (h : AH) (l : Nat) (j : Option Code) : Ent → VH
 | .loop .busy _ tm nt ps a b d => some (zbZ (isNone j), h.set l (.loop (ite' (isNone j) .ready .done) j tm nt ps a b d))
 | _ => none
def zkz (x : XE) : Bool := match x with
 | .normal => true
 | _ => false
def roundA (l : Nat) (tm : Tr AV) (nt : Nat) (asg body : Code) (h : AH) : VH :=
 rE (fun x fr h => grd (zkz x) (bnd (h.get l) fun e => bnd (zlx h l e) fun h =>
     rE (fun x fr h => grd (isNilD fr.ds) (bnd (h.get l) fun e => endE h l (zcD x) e)) (fun _ => none) (self (some l) body fr h)))
  (fun _ => none) (self (some l) asg ⟨tm, nt, []⟩ h)
where isNilD (ds : List ADef) : Bool := za5 ds
def zly (why : String) (k : AV → AH → R) (o : VH) : R := oE (.no why) (fun x => k x.1 x.2) o
def zsA (rd : Option Nat) (o : Oper) (fr : Fr) (h : AH) (k : Fr → AH → R) : R :=
 opE
  (fun v h => putR fr o.dst v fun fr => k fr h)
  (fun h => putR fr o.dst zaP fun fr => k fr h)
  (fun f args h => zly o.pos (fun v h => putR fr o.dst v fun fr => k fr h) (zdt P I self f args h))
  (fun l tm nt asg body h => zly o.pos (fun v h => putR fr o.dst v fun fr => k fr h) (roundA self l tm nt asg body h))
  (fun d h => oE (putR ⟨fr.t, fr.nt, d :: fr.ds⟩ o.dst zaP fun fr => k fr h) (fun _ => .no "defer in a round") rd)
  (.no o.pos)
  (oE .no (fun vs => opV P o.op vs h) (mapO (fun x => ev x fr) (zbp o.op)))
def zlz (rd : Option Nat) (all : List Oper) (ops : List Oper) : Fr → AH → R :=
 lE (fun fr h => .ok .normal fr h)
  (fun o _ ih fr h => oE (.no o.pos)
   (fun w => ite' w (zsA P I self rd o fr h ih) (putR fr o.dst zaP fun fr => ih fr h)) (zat all fr o.guard)) ops
def zal : Op → Bool
 | .move _ => true | .assign _ => true | .pick .. => true | .build .. => true | .load .. => true | .nilCheck _ => true
 | .binOp .. => true | .unOp .. => true | .makeInterface .. => true | .makeFunc .. => true | .slice .. => true
 | .fieldAddr .. => true | .field .. => true | .indexAddr .. => true | .index .. => true | .lookup .. => true
 | .typeAssert .. => true | .extract .. => true | .alloc _ => true | .box .. => true | .buildSlice .. => true | .makeMap _ r => isNone r
 | .convert _ d _ => oE false (fun td => Option.isSome (intD td)) (P.underlying d)
 | .call c => (match c.callee with | .builtin .len => true | _ => false)
 | .defer _ => true
 | _ => false
def zay : Op → Bool
 | .defer _ => true
 | _ => false
def zbL (ops : List Oper) : Nat := lE 0 (fun o _ r => ite' (zay o.op) (Nat.succ r) r) ops
def zbT : Op → Bool
 | .load .. => true | .binOp .. => true | .slice .. => true | .lookup .. => true | .call _ => true
 | _ => false
def zoK : Op → Bool
 | .store .. => true | .convert .. => true | .makeSlice .. => true
 | .mapUpdate .. => true | .insert .. => true | .mapEntry .. => true | .entryStore .. => true | .range .. => true | .next .. => true
 | .call c => (match c.callee with | .builtin .recover => false | _ => true)
 | _ => false
def bit (m i : Nat) : Bool := Nat.beq (Nat.mod (Nat.div m (Nat.pow 2 i)) 2) 1
def zg0 (e : Edge) : Bool := match e.ground with
 | .textOnly _ => false
 | .gcOnly _ => false
 | _ => true
def zdL (j : Nat) (ms : List Nat) (es : List Edge) : Option Nat :=
 lE (some 0) (fun e _ r => ite' (zg0 e)
  (grd (Nat.blt e.on j) (bnd (nth ms e.on) fun m => bnd r fun s => some (Nat.lor (Nat.lor m (Nat.pow 2 e.on)) s))) r) es
def zsB (ops : List Oper) : Nat → List Nat → Option (List Nat) :=
 lE (fun _ ms => some ms)
  (fun o _ ih j ms => bnd (zdL j ms o.after.toList) fun m => ih (Nat.succ j) (app ms [m])) ops
def zpu (o : Oper) (t : Nat) : Bool := oE false (fun d => Nat.beq d t) o.dst
def zeh (j m t : Nat) (strict : Bool) (ops : List Oper) : Nat → List Nat → Bool :=
 lE (fun _ _ => true)
  (fun o _ ih i ms => lC false (fun mi mt =>
   ite' (ite' (zpu o t) (ite' (Nat.beq i j) (ite' strict false true) (ite' (bit m i) true (ite' strict false (bit mi j)))) true) (ih (Nat.succ i) mt) false) ms) ops
def zuq (j m : Nat) (strict : Bool) (all : List Oper) (ms : List Nat) (x : Operand) : Bool := match x with
 | .tmp t => zeh j m t strict all 0 ms
 | _ => true
def zqx (j t : Nat) (ops : List Oper) : Nat → Bool :=
 lE (fun _ => true) (fun o _ ih i => ite' (ite' (zpu o t) (Nat.beq i j) true) (ih (Nat.succ i)) false) ops
def zqy (m : Nat) (all : List Oper) (g : Option (Nat × Bool)) : Bool :=
 oE true (fun g => ite' (bit m g.1) (oE false (fun oj => zhN oj.dst) (nth all g.1)) false) g
def zoL (all : List Oper) (ms : List Nat) (j m : Nat) (o : Oper) : Bool :=
 ite' (ite' (zal P o.op) true (zoK o.op)) (ite' (allB (zuq j m (zbT o.op) all ms) (zbp o.op))
  (ite' (oE true (fun d => zqx j d all 0) o.dst) (zqy m all o.guard) false) false) false
def znj (all : List Oper) (ms : List Nat) (ops : List Oper) : Nat → List Nat → Bool :=
 lE (fun _ _ => true)
  (fun o _ ih j mr => lC false (fun m mt => ite' (zoL P all ms j m o) (ih (Nat.succ j) mt) false) mr) ops
def zc9 (ops : List Oper) : Nat → List Nat :=
 lE (fun _ => []) (fun o _ ih j => ite' (zal P o.op) (ih (Nat.succ j)) (j :: ih (Nat.succ j))) ops
def ze4 (ms : List Nat) (l : List Nat) : Bool :=
 lE true (fun i t r => ite' (lE true
  (fun j _ q => ite' (oE false (fun m => bit m i) (nth ms j)) q false) t) r false) l
def zqz (l : List Nat) : Option (List Nat × Nat × Nat) :=
 lE none
  (fun i t r => oE
   (lC none (fun j u => grd (za5 u) (some ([], i, j))) t) (fun x => some (i :: x.1, x.2.1, x.2.2)) r) l
def zhS : Op → Bool
 | .store .. => true
 | _ => false
def opAt (ops : List Oper) (j : Nat) (p : Op → Bool) : Bool := oE false (fun o => p o.op) (nth ops j)
def zei (m : Nat) (ops : List Oper) : Nat → Bool :=
 lE (fun _ => true)
  (fun o _ ih i => ite' (ite' (zal P o.op) (ite' (zbT o.op) (bit m i) true) true) (ih (Nat.succ i)) false) ops
def zkA (ops : List Oper) (j : Nat) : Bool := oE false (fun o => isNone o.guard) (nth ops j)
def zoM (ops : List Oper) (ms : List Nat) (j m : Nat) : Bool := oE false (fun o => allB (zuq j m true ops ms) (zbp o.op)) (nth ops j)
def zkB (ops : List Oper) (ms : List Nat) (l : List Nat) : Option (Nat × Nat) :=
 bnd (zqz l) fun x => grd (ze4 ms (app x.1 [x.2.1])) (grd (ze4 ms (app x.1 [x.2.2])) (grd (opAt ops x.2.1 zhS) (grd (opAt ops x.2.2 zhS)
  (bnd (nth ms x.2.1) fun m1 => bnd (nth ms x.2.2) fun m2 => grd (zei P m1 ops 0) (grd (zei P m2 ops 0)
   (grd (zkA ops x.2.1) (grd (zkA ops x.2.2) (grd (zoM ops ms x.2.1 m1) (some (x.2.1, x.2.2))))))))))
def zlA (m : Nat) (ops : List Oper) : Nat → Nat :=
 lE (fun _ => 0) (fun o _ ih i => Nat.add (ite' (zal P o.op) 0 (ite' (bit m i) 1 0)) (ih (Nat.succ i))) ops
def zfI (j : Nat) (ops : List Oper) : List Nat → Nat :=
 lE (fun _ => 0)
  (fun o _ ih ms => lC 0 (fun m mt => Nat.add (ite' (zal P o.op) 0 (ite' (bit m j) 0 1)) (ih mt)) ms) ops
def zjB (md : Nat) (e : Edge) : Bool := match e.ground with
 | .textOnly _ => Nat.beq md 1
 | .gcOnly _ => Nat.beq md 2
 | _ => true
def zkC (md : Nat) (es : List Edge) : Nat := lE 0 (fun e _ r => ite' (zjB md e) (Nat.lor (Nat.pow 2 e.on) r) r) es
def zg1 (md : Nat) (ops : List Oper) : List Nat := lE [] (fun o _ r => frc (zkC md o.after.toList) fun d => d :: r) ops
def zqA (ds : List Nat) : Nat → Nat → Nat :=
 lE (fun _ acc => acc)
  (fun d _ ih j acc => frc (ite' (Nat.beq (Nat.land d acc) d) (Nat.lor (Nat.pow 2 j) acc) acc) fun acc => ih (Nat.succ j) acc) ds
def zhT (ds : List Nat) (n : Nat) : Nat → Nat := nE (fun acc => acc) (fun _ ih acc => frc (zqA ds 0 acc) fun acc => ih acc) n
def zur (acc : Nat) (n : Nat) : Bool := Nat.beq (Nat.succ (Nat.mod acc (Nat.pow 2 n))) (Nat.pow 2 n)
def topo (md : Nat) (ops : List Oper) : Bool := zur (zhT (zg1 md ops) 4 0) (len ops)
structure Plan where
 ms : List Nat
 tw : Option (Nat × Nat)
def zlB (ops : List Oper) : Option Plan :=
 grd (Nat.ble (zbL ops) 1) <| grd (topo 0 ops) <| grd (topo 1 ops) <| grd (topo 2 ops) <| bnd (zsB ops 0 []) fun ms => grd (znj P ops ms ops 0 ms)
  (ite' (ze4 ms (zc9 P ops 0)) (some ⟨ms, none⟩) (bnd (zkB P ops ms (zc9 P ops 0)) fun t => some ⟨ms, some t⟩))
def zt0 (a b : AV) : Bool := match a with
 | .agg x => (match b with | .agg y => zkw x y | _ => false)
 | .tup x => (match b with | .tup y => zkw x y | _ => false)
 | a => zpr a b
def valO : O → Option AV
 | .val v _ => some v
 | _ => none
def zvm (v : AV) (o : O) : Bool := oE false (fun u => zt0 v u) (valO o)
def opVs (o : Oper) (fr : Fr) (h : AH) : O := oE .no (fun vs => opV P o.op vs h) (mapO (fun x => ev x fr) (zbp o.op))
def zvn (o : Oper) (fr : Fr) (hs : List AH) : Bool :=
 allB (fun h => oE false (fun d => zvm (fr.at_ d) (opVs P o fr h)) o.dst) hs
def zkD {α : Type} (l : List α) (lo hi : Nat) : Option (List α) := bnd (drp l lo) fun r => tak r (Nat.sub (Nat.succ hi) lo)
def zkE (all : List Oper) (ms : List Nat) (fr : Fr) (hs : List AH) (j m : Nat) (o : Oper) : Bool :=
 ite' (ite' (zal P o.op) (zbT o.op) false)
  (oE false (fun w => ite' w (oE false (fun l => zvn P o fr l) (zkD hs (zlA P m all 0) (zfI P j all ms))) true) (zat all fr o.guard))
  true
def zhU (all : List Oper) (ms : List Nat) (fr : Fr) (hs : List AH) (ops : List Oper) : Nat → List Nat → Bool :=
 lE (fun _ _ => true)
  (fun o _ ih j mr => lC false (fun m mt => ite' (zkE P all ms fr hs j m o) (ih (Nat.succ j) mt) false) mr) ops
structure Pend where
 j : Nat
 b : Nat
 e : Ent
def zbM (m : Nat) (ps : List Pend) (h : AH) : AH := lE h (fun p _ h => ite' (bit m p.j) (h.set p.b p.e) h) ps
def restOf (m : Nat) (ps : List Pend) : List Pend := lE [] (fun p _ r => ite' (bit m p.j) r (p :: r)) ps
def zdu (ps : List Pend) (h : AH) : AH := lE h (fun p _ h => h.set p.b p.e) ps
def mkE (op : Op) (vs : List AV) : Option (Ent × (Nat → AV)) := match op with
 | .alloc t => bnd (zfc P t) fun z => some (.cells z.cells t true 0 [], fun b => .ptr b 0)
 | .box t _ => arg1 vs fun v => some (.cells v.cells t true 0 [], fun b => .ptr b 0)
 | .buildSlice t n ps => bnd (zhi P t) fun e => grd (Nat.ble (Nat.mul n e.2) 16777216) (bnd (zcP P e.1 e.2 n) fun z => bnd (zjc (zgr e.2) (zipI ps.toList vs) z) fun l =>
   some (.cells l e.1 true 0 [], fun b => .sl b 0 n e.2))
 | .makeMap _ r => grd (isNone r) (some (.map [] 0, fun b => .map b))
 | _ => none
def zbU : Op → Bool
 | .alloc _ => true
 | .box .. => true
 | .buildSlice .. => true
 | .makeMap _ r => isNone r
 | _ => false
def zpv (ops : List Oper) : Bool := lE false (fun o _ r => ite' (zbU o.op) true r) ops
def zoN : Ent → Option (List Nat)
 | .cells _ _ _ _ olds => some olds
 | _ => none
def zjC (o : Oper) (fr : Fr) : Option Nat := bnd (mapO (fun x => ev x fr) (zbp o.op)) fun vs => arg2 vs fun a _ => ptrV a fun b _ => some b
def zus (ops : List Oper) (fr : Fr) (h : AH) (i j : Nat) : Bool :=
 zhN (bnd (nth ops i) fun o1 => bnd (nth ops j) fun o2 => bnd (zjC o1 fr) fun b1 => bnd (zjC o2 fr) fun b2 => bnd (bnd (h.get b1) zoN) fun l1 => bnd (bnd (h.get b2) zoN) fun l2 =>
  ite' (Nat.beq b1 b2) none (grd (zeZ b1 l2) (grd (zeZ b2 l1) (some ()))))
def zoO (m1 m2 : Nat) (ps : List Pend) : Bool := allB (fun p => ite' (bit m1 p.j) false (ite' (bit m2 p.j) false true)) ps
def zhV (hs : List AH) : Option AH := lE none (fun x t r => lC none (fun _ u => ite' (za5 u) (some x) r) t) hs
structure DS where
 fr : Fr
 h : AH
 hs : List AH
 ps : List Pend
def zqB (pl : Plan) (ops : List Oper) (j : Nat) (s : DS) : Bool :=
 oE true (fun t => ite' (ite' (Nat.beq t.1 j) true (Nat.beq t.2 j))
  (oE false (fun m1 => oE false (fun m2 => ite' (zoO m1 m2 s.ps)
   (ite' (Nat.beq t.1 j) true (oE false (fun h => zus ops s.fr h t.1 t.2) (zhV s.hs))) false) (nth pl.ms t.2)) (nth pl.ms t.1)) true) pl.tw
def opR (o : Oper) (vs : List AV) (h : AH) : VH :=
 opE
  (fun v h => some (v, h))
  (fun h => some (zaP, h))
  (fun f args h => zdt P I self f args h)
  (fun l tm nt asg body h => roundA self l tm nt asg body h)
  (fun _ _ => none) none (opV P o.op vs h)
def dfrO : O → Option ADef
 | .dfr d _ => some d
 | _ => none
def putS (s : DS) (d : Option Nat) (v : AV) : Option DS := bnd (s.fr.put d v) fun fr => some ⟨fr, s.h, s.hs, s.ps⟩
def zvo (base : Nat) (j m : Nat) (o : Oper) (s : DS) (vs : List AV) : Option DS :=
 ite' (zbU o.op)
  (bnd (mkE P o.op vs) fun p => frc (Nat.add base j) fun b => putS ⟨s.fr, s.h, s.hs, ⟨j, b, p.1⟩ :: s.ps⟩ o.dst (p.2 b))
  (ite' (zal P o.op)
   (ite' (zay o.op) (bnd (dfrO (opV P o.op vs s.h)) fun d => putS ⟨⟨s.fr.t, s.fr.nt, d :: s.fr.ds⟩, s.h, s.hs, s.ps⟩ o.dst zaP)
    (bnd (valO (opV P o.op vs s.h)) fun v => putS s o.dst v))
   (bnd (opR P I self o vs (zbM m s.ps s.h)) fun r => putS ⟨s.fr, r.2, app s.hs [r.2], restOf m s.ps⟩ o.dst r.1))
def zdd (pl : Plan) (all : List Oper) (base j m : Nat) (o : Oper) (s : DS) : Option DS :=
 grd (ite' (zal P o.op) true (zqB pl all j s)) (bnd (zat all s.fr o.guard) fun w =>
  ite' w (bnd (mapO (fun x => ev x s.fr) (zbp o.op)) fun vs => zvo P I self base j m o s vs)
   (putS ⟨s.fr, s.h, ite' (zal P o.op) s.hs (app s.hs [s.h]), s.ps⟩ o.dst zaP))
def zkF (pl : Plan) (all : List Oper) (base : Nat) (ops : List Oper) : Nat → List Nat → DS → Option DS :=
 lE (fun _ _ s => some s)
  (fun o _ ih j ms s => lC none (fun m mt => bnd (zdd P I self pl all base j m o s) fun s => ih (Nat.succ j) mt s) ms) ops
def zpw (ops : List Oper) (fr : Fr) (h : AH) : R :=
 oE (.no "draws") (fun s => .ok .normal s.fr (zdu s.ps s.h))
  (bnd (zlB P ops) fun pl => frc h.next fun base => frc (Nat.add base (ite' (zpv ops) (len ops) 0)) fun nx =>
   bnd (zkF P I self pl ops base ops 0 pl.ms ⟨fr, ⟨nx, h.t, h.fb, h.fam⟩, [⟨nx, h.t, h.fb, h.fam⟩], []⟩) fun s =>
    grd (zhU P ops pl.ms s.fr s.hs ops 0 pl.ms) (some s))
def zsC (rnd : Option Nat) (ops : List Oper) (fr : Fr) (h : AH) : R :=
 oE (zpw P I self ops fr h) (fun _ => ite' (Nat.beq (zbL ops) 0) (zpw P I self ops fr h) (.no "defer in a round")) rnd
def rangeFuncA (rnd : Option Nat) (f : Operand) (ps : List Nat) (asg body : Code) (fr : Fr) (h : AH) : R :=
 let go (d : Nat) (mark : List ADef) (h : AH) : R :=
  h.new (.loop .ready none fr.t fr.nt ps asg body d) fun l h =>
   oE (.no "rangeFunc")
    (fun fv => opE (fun _ _ => .no "rangeFunc") (fun _ => .no "rangeFunc")
     (fun f args h => zly "rangeFunc" (fun _ h => oE (.no "rangeFunc: loop")
       (fun e => rangeEnd l ⟨fr.t, fr.nt, app mark fr.ds⟩ h e) (h.get l)) (zdt P I self f args h))
     (fun _ _ _ _ _ _ => .no "rangeFunc") (fun _ _ => .no "rangeFunc") (.no "rangeFunc: what is called")
     (zpp P fv [.func (.yield l) [] []] h)) (ev f fr)
 oE (h.new (.dfr (some [])) fun d h => go d [.coll d] h)
  (fun l0 => oE (.no "rangeFunc: around") (fun e => match e with | .loop _ _ _ _ _ _ _ d => go d [] h | _ => .no "rangeFunc: around") (h.get l0)) rnd
where
 rangeEnd (l : Nat) (fr : Fr) (h : AH) (e : Ent) : R := match e with
  | .loop st pend tm nt ps a b d => match st with
    | .busy => .no "rangeFunc: busy"
    | _ => oE (.ok .normal fr (h.set l (.loop .exhausted pend tm nt ps a b d)))
        (fun c => self rnd c fr (h.set l (.loop .exhausted pend tm nt ps a b d))) pend
  | _ => .no "rangeFunc: loop"
def seqA (rnd : Option Nat) (b : Code) (r : R) : R :=
 rE (fun x fr h => match x with | .normal => self rnd b fr h | x => .ok x fr h) (fun w => .no w) r
def zt1 (id : Nat) (r : R) : R :=
 rE (fun x fr h => match x with | .exit i => ite' (Nat.beq i id) (.ok .normal fr h) (.ok (.exit i) fr h) | x => .ok x fr h) (fun w => .no w) r
def zt2 (r : R) : R := rE (fun x fr h => match x with | .goto _ => .no "goto" | x => .ok x fr h) (fun w => .no w) r
def zvp (rnd : Option Nat) (a b : Code) (fr : Fr) (h : AH) (c : Option AV) : R :=
 oE (.no "cond") (fun v => match v with | .bool q => self rnd (ite' q a b) fr h | _ => .no "cond") c
def zut (rnd : Option Nat) (c : Code) : Fr → AH → R :=
 match c with
 | .skip => fun fr h => .ok .normal fr h
 | .label _ => fun fr h => .ok .normal fr h
 | .region _ ops d => fun fr h => ite' d (zsC P I self rnd ops.toList fr h) (zlz P I self rnd ops.toList ops.toList fr h)
 | .seq a b => fun fr h => seqA self rnd b (self rnd a fr h)
 | .cond c a b => fun fr h => zvp self rnd a b fr h (ev c fr)
 | .block id b => fun fr h => zt1 id (self rnd b fr h)
 | .loop b => fun fr h => seqA self rnd (.loop b) (self rnd b fr h)
 | .rangeFunc f ps asg body => fun fr h => rangeFuncA P I self rnd f ps.toList asg body fr h
 | .exit id => fun fr h => .ok (.exit id) fr h
 | .goto l => fun fr h => .ok (.goto l) fr h
 | .ret => fun fr h => .ok .ret fr h
 | .scope b => fun fr h => zt2 (self rnd b fr h)
 | .refuse w => fun _ _ => .no w
end
def exec (I : zba) (n : Nat) : Option Nat → Code → Fr → AH → R :=
 nE (fun _ _ _ _ => .no "fuel") (fun _ ih => zut P I ih) n
def run (I : zba) (f : Nat) (args : List AV) (h : AH) : VH := zdt P I (exec P I 1000000) f args h
def run' (I : zba) (f : Nat) (args : List AV) (h : AH) : R :=
 oE (.no "no function") (fun fn => oE (.no "no body") (fun c => exec P I 1000000 none c (zlv fn args) h) fn.body) (P.funcs[f]?)
end
end
end Go.Xe
end
