/-
  An executor for the model's programs over abstract values, in plain Lean, made for the kernel; it is a function. Conditions: none.
-/
import GoSem.Dispatch
import GoSem.Machine.Exec
set_option linter.unusedVariables false
set_option linter.unusedSimpArgs false
set_option linter.unusedSectionVars false
section
namespace Go.Xe
noncomputable section
def oE {α β : Type} (n : β) (s : α → β) (o : Option α) : β := Option.rec (motive := fun _ => β) n s o
def bE {β : Type} (f t : β) (b : Bool) : β := Bool.rec (motive := fun _ => β) f t b
def lE {α β : Type} (n : β) (c : α → List α → β → β) (l : List α) : β := List.rec (motive := fun _ => β) n c l
def nE {β : Type} (z : β) (s : Nat → β → β) (n : Nat) : β := Nat.rec (motive := fun _ => β) z s n
def nC {β : Type} (z : β) (s : Nat → β) (n : Nat) : β := Nat.rec (motive := fun _ => β) z (fun m _ => s m) n
def lC {α β : Type} (n : β) (c : α → List α → β) (l : List α) : β := List.rec (motive := fun _ => β) n (fun x t _ => c x t) l
def iE {β : Type} (p m : Nat → β) (i : Int) : β := Int.rec (motive := fun _ => β) p m i
def bnd {α β : Type} (o : Option α) (f : α → Option β) : Option β := oE none f o
def grd {α : Type} (b : Bool) (o : Option α) : Option α := bE none o b
def ite' {α : Type} (b : Bool) (x y : α) : α := bE y x b
def frc {α : Type} (n : Nat) (f : Nat → α) : α := nC (f 0) (fun m => f (Nat.succ m)) n
inductive Tr (α : Type) where
 | nil
 | node (v : Option α) (l r : Tr α)
def trE {α β : Type} (n : β) (c : Option α → Tr α → Tr α → β → β → β) (t : Tr α) : β := Tr.rec (motive := fun _ => β) n c t
def Tr.get {α : Type} (t : Tr α) : Nat → Option α :=
 trE (fun _ => none)
  (fun v _ _ gl gr k => nC v
   (fun m => bE (gr (Nat.div m 2)) (gl (Nat.div m 2)) (Nat.beq (Nat.mod m 2) 0)) k) t
def Tr.put {α : Type} (x : Option α) (n : Nat) : Tr α → Nat → Tr α :=
 nE (fun t _ => t)
  (fun _ ih t k => trE
   (nC (.node x .nil .nil)
    (fun m => bE (.node none .nil (ih .nil (Nat.div m 2))) (.node none (ih .nil (Nat.div m 2)) .nil) (Nat.beq (Nat.mod m 2) 0)) k)
   (fun v l r _ _ => nC (.node x l r)
    (fun m => bE (.node v l (ih r (Nat.div m 2))) (.node v (ih l (Nat.div m 2)) r) (Nat.beq (Nat.mod m 2) 0)) k) t) n
inductive AV where
 | bool (b : Bool)
 | int (k : IntKind) (n : Int)
 | num (g j lo hi : Nat)
 | stp (i : Nat)
 | str (n c : Nat)
 | sstr (pn pc i : Nat)
 | sval (i : Nat)
 | ptr (b o : Nat)
 | pnil
 | gptr (g : Nat)
 | sl (b o l z : Nat)
 | sle
 | snil
 | map (b : Nat)
 | mnil
 | func (f : Fn) (first capt : List AV)
 | fnil
 | ifc (t : Nat) (v : AV)
 | inil
 | agg (l : List AV)
 | tup (l : List AV)
 deriving Inhabited
structure ME where
 k : AV
 v : AV
 s : Nat
inductive ADef where
 | fn (f : Fn) (capt args : List AV)
 | coll (b : Nat)
inductive Ent where
 | cells (l : List AV) (ty : Nat) (wr : Bool) (fz : Nat) (olds : List Nat)
 | map (es : List ME) (ck : Nat)
 | siter (n c p : Nat)
 | miter (m j n fam lc : Nat) (ss : List ME)
 | loop (st : LoopState) (pend : Option Code) (tm : Tr AV) (nt : Nat) (ps : List Nat) (asg body : Code) (dblk : Nat)
 | dfr (ds : Option (List ADef))
structure AH where
 next : Nat
 t : Tr Ent
 fb : Nat
 fam : List ME
structure Fr where
 t : Tr AV
 nt : Nat
 ds : List ADef
inductive XE where
 | normal | exit (id : Nat) | goto (l : Nat) | ret
inductive R where
 | ok (x : XE) (fr : Fr) (h : AH)
 | no (why : String)
inductive C where
 | ok (v : AV) (h : AH)
 | no (why : String)
inductive O where
 | val (v : AV) (h : AH)
 | skip (h : AH)
 | enter (f : Nat) (args : List AV) (h : AH)
 | round (l : Nat) (tm : Tr AV) (nt : Nat) (asg body : Code) (h : AH)
 | dfr (d : ADef) (h : AH)
 | no
def rE {β : Type} (k : XE → Fr → AH → β) (n : String → β) (r : R) : β := R.rec (motive := fun _ => β) k n r
def opE {β : Type} (v : AV → AH → β) (s : AH → β) (e : Nat → List AV → AH → β) (r : Nat → Tr AV → Nat → Code → Code → AH → β) (d : ADef → AH → β) (n : β) (o : O) : β :=
 O.rec (motive := fun _ => β) v s e r d n o
def zaK : AV := .tup []
def mkStr (n c : Nat) : AV := frc n fun n => frc c fun c => .str n c
def zbT (k : IntKind) (n : Int) : AV :=
 iE (fun m => frc m fun m => .int k (.ofNat m)) (fun m => frc m fun m => .int k (.negSucc m)) n
def zbI (b : Bool) : AV := bE (.bool false) (.bool true) b
def zde (n : Nat) : AV := frc n fun n => .int .i64 (.ofNat n)
def len {α : Type} (l : List α) : Nat := lE 0 (fun _ _ n => Nat.succ n) l
def app {α : Type} (l r : List α) : List α := lE r (fun x _ t => x :: t) l
def nth {α : Type} (l : List α) : Nat → Option α :=
 lE (fun _ => none) (fun x _ ih k => nC (some x) (fun m => ih m) k) l
def mapO {α β : Type} (f : α → Option β) (l : List α) : Option (List β) :=
 lE (some []) (fun x _ r => bnd (f x) fun y => bnd r fun ys => some (y :: ys)) l
def tak {α : Type} (l : List α) : Nat → Option (List α) :=
 lE (fun n => nE (some []) (fun _ _ => none) n)
  (fun x _ ih n => nC (some []) (fun m => bnd (ih m) fun r => some (x :: r)) n) l
def drp {α : Type} (l : List α) : Nat → Option (List α) :=
 lE (fun n => nE (some []) (fun _ _ => none) n)
  (fun x t ih n => nC (some (x :: t)) (fun m => ih m) n) l
def cut {α : Type} (l : List α) (o n : Nat) : Option (List α) := bnd (drp l o) fun r => tak r n
def over {α : Type} (l : List α) : List α → Option (List α) :=
 lE (fun vs => lC (some []) (fun _ _ => none) vs)
  (fun x t ih vs => lC (some (x :: t)) (fun v vt => bnd (ih vt) fun r => some (v :: r)) vs) l
def zc4 {α : Type} (l : List α) (o : Nat) : List α → Option (List α) :=
 lE (fun o vs => nE (over [] vs) (fun _ _ => none) o)
  (fun x t ih o vs => nC (over (x :: t) vs) (fun m => bnd (ih m vs) fun r => some (x :: r)) o) l o
def repl {α : Type} (n : Nat) (l : List α) : List α := nE [] (fun _ r => app l r) n
def zbJ (l : List UInt8) : Nat := lE 0 (fun b _ c => Nat.add b.toNat (Nat.mul 256 c)) l
def strOf (l : List UInt8) : AV := mkStr (len l) (zbJ l)
def zaY {α : Type} (l : List α) : Bool := lC true (fun _ _ => false) l
def zeS : Fn → Bool
 | .yield _ => false
 | _ => true
def zcj : Value → Option AV
 | .bool b => some (.bool b)
 | .int k n => some (.int k n)
 | .string s => some (strOf s.data.toList)
 | .pointer none => some .pnil
 | .slice none l c => grd (Nat.beq l 0) (grd (Nat.beq c 0) (some .snil))
 | .map none => some .mnil
 | .func fn first capt => grd (zaY first.toList) (grd (zaY capt.toList) (grd (zeS fn) (some (.func fn [] []))))
 | .nilFunc => some .fnil
 | .nilIface => some .inil
 | .tuple vs => grd (zaY vs.toList) (some (.tup []))
 | _ => none
def ofValue1 : Value → Option AV
 | .agg cs => bnd (mapO zcj cs.toList) fun l => some (.agg l)
 | v => zcj v
def ofValue : Value → Option AV
 | .agg cs => bnd (mapO zcj cs.toList) fun l => some (.agg l)
 | .tuple cs => bnd (mapO zcj cs.toList) fun l => some (.tup l)
 | .iface t v => bnd (ofValue1 v) fun a => some (.ifc t a)
 | v => zcj v
def AV.cells : AV → List AV
 | .agg l => l
 | v => [v]
def Fr.at_ (fr : Fr) (t : Nat) : AV := oE zaK (fun v => v) (fr.t.get t)
def ev : Operand → Fr → Option AV
 | .tmp t => fun fr => some (fr.at_ t)
 | .const v => fun _ => ofValue v
 | .global g => fun _ => some (.gptr g)
 | .func f => fun _ => some (.func (.func f) [] [])
def Fr.put (fr : Fr) (d : Option Nat) (v : AV) : Option Fr :=
 oE (some fr) (fun d => grd (Nat.blt d fr.nt) (some ⟨Tr.put (some v) (Nat.succ d) fr.t d, fr.nt, fr.ds⟩)) d
section
variable (P : Program)
def zaQ (t : TypeId) : Option Nat := bnd (P.info? t) fun i => some i.size
def zdy (t : TypeId) : Option AV := bnd (P.info? t) fun i => bnd i.zero fun z => ofValue z
def aggD : TypeDesc → Bool
 | .struct _ => true
 | .array _ _ => true
 | _ => false
def aggA (t : TypeId) : Option Bool := bnd (P.underlying t) fun d => some (aggD d)
def sliceD : TypeDesc → Option Nat
 | .slice e => some e
 | _ => none
def mapD : TypeDesc → Option (Nat × Nat)
 | .map k e => some (k, e)
 | _ => none
def structD : TypeDesc → Option (List Field)
 | .struct fs => some fs.toList
 | _ => none
def arrayD : TypeDesc → Option (Nat × Nat)
 | .array n e => some (n, e)
 | _ => none
def intD : TypeDesc → Option IntKind
 | .int k => some k
 | _ => none
def isU8 : TypeDesc → Bool
 | .int .u8 => true
 | _ => false
def isIface : TypeDesc → Bool
 | .interface _ => true
 | _ => false
def zby : TypeDesc → Bool
 | .pointer _ => true
 | _ => false
def zd1 : TypeDesc → Bool
 | .interface ms => zaY ms.toList
 | _ => false
def zga (t : TypeId) : Option (Nat × Nat) :=
 bnd (P.underlying t) fun d => bnd (sliceD d) fun e => bnd (zaQ P e) fun z => grd (Nat.blt 0 z) (some (e, z))
def fieldA (t f : Nat) : Option Field := bnd (P.underlying t) fun d => bnd (structD d) fun fs => nth fs f
def zdz : TypeDesc → Bool
 | .bool => true
 | .int _ => true
 | .string => true
 | _ => false
def mapA (t : TypeId) : Option Nat := bnd (P.underlying t) fun d => bnd (mapD d) fun ke => bnd (P.underlying ke.1) fun kd => grd (zdz kd) (some ke.2)
def AH.get (h : AH) (b : Nat) : Option Ent := h.t.get b
def AH.new {α : Type} (h : AH) (e : Ent) (k : Nat → AH → α) : α := frc h.next fun b => k b ⟨Nat.succ b, Tr.put (some e) (Nat.succ b) h.t b, h.fb, h.fam⟩
def AH.set (h : AH) (b : Nat) (e : Ent) : AH := ⟨h.next, Tr.put (some e) (Nat.succ b) h.t b, h.fb, h.fam⟩
def AH.drop (h : AH) (b : Nat) : AH := ⟨h.next, Tr.put none (Nat.succ b) h.t b, h.fb, h.fam⟩
def AH.kill (l : List Nat) (h : AH) : AH := lE h (fun b _ h => h.drop b) l
def AH.skip {α : Type} (h : AH) (k : Nat → AH → α) : α := frc h.next fun b => k b ⟨Nat.succ b, h.t, h.fb, h.fam⟩
def cellsE : Ent → Option (List AV)
 | .cells l _ _ _ _ => some l
 | _ => none
def mapE : Ent → Option (List ME × Nat)
 | .map es ck => some (es, ck)
 | _ => none
def AH.cells (h : AH) (b : Nat) : Option (List AV) := bnd (h.get b) cellsE
def AH.map (h : AH) (b : Nat) : Option (List ME × Nat) := bnd (h.get b) mapE
def zba (h : AH) (b o n : Nat) : Option (List AV) := bnd (h.cells b) fun l => cut l o n
def zcQ (h : AH) (b o : Nat) : Option AV := bnd (h.cells b) fun l => nth l o
def cellV : AV → Bool
 | .agg _ => false
 | .tup _ => false
 | _ => true
def allC (l : List AV) : Bool := lE true (fun v _ r => ite' (cellV v) r false) l
def writeE (h : AH) (b o : Nat) (vs : List AV) : Ent → Option AH
 | .cells l ty wr fz olds => grd wr (grd (Nat.ble fz o) (grd (allC vs) (bnd (zc4 l o vs) fun l' => some (AH.set (AH.kill olds h) b (.cells l' ty true fz [])))))
 | _ => none
def za2 (h : AH) (b o : Nat) (vs : List AV) : Option AH := bnd (h.get b) fun e => writeE h b o vs e
def ptrV {α : Type} (a : AV) (k : Nat → Nat → Option α) : Option α := match a with
 | .ptr b o => k b o
 | _ => none
def intV {α : Type} (a : AV) (k : Int → Option α) : Option α := match a with
 | .int _ i => k i
 | _ => none
def natI {α : Type} (i : Int) (k : Nat → Option α) : Option α := iE k (fun _ => none) i
def natV {α : Type} (a : AV) (k : Nat → Option α) : Option α := intV a fun i => natI i k
def load (t : TypeId) (a : AV) (h : AH) : Option AV :=
 ptrV a fun b o => bnd (aggA P t) fun g =>
  ite' g (bnd (zaQ P t) fun n => bnd (zba h b o n) fun l => some (.agg l)) (zcQ h b o)
def store (t : TypeId) (a v : AV) (h : AH) : Option AH :=
 ptrV a fun b o => bnd (zaQ P t) fun n => grd (Nat.beq (len v.cells) n) (za2 h b o v.cells)
def fieldAddr (s : TypeId) (f : Nat) (a : AV) : Option AV :=
 ptrV a fun b o => bnd (fieldA P s f) fun fd => bnd (zaQ P fd.type) fun n => grd (Nat.blt 0 n) (some (frc (Nat.add o fd.offset) fun o => .ptr b o))
def partA (t : TypeId) (cs : List AV) (off : Nat) : Option AV :=
 bnd (aggA P t) fun g => ite' g (bnd (zaQ P t) fun n => bnd (cut cs off n) fun l => some (.agg l)) (nth cs off)
def aggV {α : Type} (a : AV) (k : List AV → Option α) : Option α := match a with
 | .agg l => k l
 | _ => none
def tupV {α : Type} (a : AV) (k : List AV → Option α) : Option α := match a with
 | .tup l => k l
 | _ => none
def strV {α : Type} (a : AV) (k : Nat → Nat → Option α) : Option α := match a with
 | .str n c => k n c
 | _ => none
def field (x : TypeId) (f : Nat) (v : AV) : Option AV := aggV v fun cs => bnd (fieldA P x f) fun fd => partA P fd.type cs fd.offset
def zfu (x : AV) (i : Nat) : TypeDesc → Option AV
 | .array n e => ptrV x fun b o => grd (Nat.blt i n) (bnd (zaQ P e) fun z => some (frc (Nat.add o (Nat.mul i z)) fun o => .ptr b o))
 | .slice e => match x with
   | .sl b o l z => grd (Nat.blt i l) (bnd (zaQ P e) fun z' => grd (Nat.beq z z') (some (frc (Nat.add o (Nat.mul i z)) fun o => .ptr b o)))
   | _ => none
 | _ => none
def indexAddr (t : TypeId) (x ix : AV) : Option AV := natV ix fun i => bnd (P.underlying t) fun d => zfu P x i d
def byteAt (c i : Nat) : AV := frc (Nat.mod (Nat.div c (Nat.pow 256 i)) 256) fun b => .int .u8 (.ofNat b)
def indexD (x : AV) (i : Nat) : TypeDesc → Option AV
 | .array n e => aggV x fun cs => grd (Nat.blt i n) (bnd (zaQ P e) fun z => partA P e cs (Nat.mul i z))
 | .string => strV x fun n c => grd (Nat.blt i n) (some (byteAt c i))
 | _ => none
def index (t : TypeId) (x ix : AV) : Option AV := natV ix fun i => bnd (P.underlying t) fun d => indexD P x i d
def zeh (n c n' c' : Nat) : Bool := ite' (Nat.beq n n') (Nat.beq (Nat.mod c (Nat.pow 256 n)) (Nat.mod c' (Nat.pow 256 n'))) false
def zgb (f : Nat) : Nat → Nat → Nat → Nat → Bool :=
 nE (fun _ _ _ _ => false)
  (fun _ ih n c n' c' => nC false
   (fun m' => nC true
    (fun m => ite' (Nat.blt (Nat.mod c 256) (Nat.mod c' 256)) true
     (ite' (Nat.beq (Nat.mod c 256) (Nat.mod c' 256)) (ih m (Nat.div c 256) m' (Nat.div c' 256)) false)) n) n') f
def zdA (a b : Int) : Bool :=
 iE (fun a b => iE (fun b => Nat.beq a b) (fun _ => false) b)
  (fun a b => iE (fun _ => false) (fun b => Nat.beq a b) b) a b
def ltInt (a b : Int) : Bool :=
 iE (fun a b => iE (fun b => Nat.blt a b) (fun _ => false) b)
  (fun a b => iE (fun _ => true) (fun b => Nat.blt b a) b) a b
def leInt (a b : Int) : Bool := ite' (ltInt b a) false true
def zgt (i : Int) (lo hi : Nat) : Bool := iE (fun n => ite' (Nat.blt n lo) true (Nat.ble hi n)) (fun _ => true) i
def under (i : Int) (lo : Nat) : Bool := iE (fun n => Nat.blt n lo) (fun _ => true) i
def kindN : IntKind → Nat
 | .i8 => 0 | .i16 => 1 | .i32 => 2 | .i64 => 3 | .u8 => 4 | .u16 => 5 | .u32 => 6 | .u64 => 7
def zck (a b : IntKind) : Bool := Nat.beq (kindN a) (kindN b)
def preS (pn pc n c : Nat) : Nat × Nat := (Nat.add pn n, Nat.add (Nat.mod pc (Nat.pow 256 pn)) (Nat.mul (Nat.pow 256 pn) c))
def zfv (pn pc n c : Nat) (fam : List ME) : Bool :=
 lE true (fun kv _ r => match kv.k with
  | .str kn kc => ite' (zeh (preS pn pc kn kc).1 (preS pn pc kn kc).2 n c) false r
  | _ => false) fam
def eqB (x : AV) (a : Bool) : Option Bool := match x with
 | .bool b => some (ite' a b (ite' b false true))
 | _ => none
def eqI (x : AV) (k : IntKind) (a : Int) : Option Bool := match x with
 | .int k' b => grd (zck k k') (some (zdA a b))
 | .num _ _ lo hi => grd (zck k .i64) (grd (zgt a lo hi) (some false))
 | _ => none
def eqN (x : AV) (g j lo hi : Nat) : Option Bool := match x with
 | .num g' j' lo' hi' => ite' (Nat.beq g g') (some (Nat.beq j j')) (grd (ite' (Nat.ble hi lo') true (Nat.ble hi' lo)) (some false))
 | .int k a => grd (zck k .i64) (grd (zgt a lo hi) (some false))
 | _ => none
def zb9 (fb : Nat) (fam : List ME) (i : Nat) : Bool := ite' (Nat.ble fb i) (Nat.blt i (Nat.add fb (len fam))) false
def eqS (fb : Nat) (fam : List ME) (x : AV) (n c : Nat) : Option Bool := match x with
 | .str n' c' => some (zeh n c n' c')
 | .sstr pn pc i => grd (zb9 fb fam i) (grd (zfv pn pc n c fam) (some false))
 | _ => none
def eqSS (fb : Nat) (fam : List ME) (x : AV) (pn pc i : Nat) : Option Bool := match x with
 | .str n c => grd (zb9 fb fam i) (grd (zfv pn pc n c fam) (some false))
 | .sstr pn' pc' j => grd (zeh pn pc pn' pc') (ite' (Nat.beq i j) (some true) (grd (zb9 fb fam i) (grd (zb9 fb fam j) (some false))))
 | _ => none
def eqPn (x : AV) : Option Bool := match x with
 | .pnil => some true | .ptr _ _ => some false | .gptr _ => some false | _ => none
def eqNilX (x : AV) : Option Bool := match x with
 | .snil => some true | .sl .. => some false | .sle => some false
 | .mnil => some true | .map _ => some false
 | .fnil => some true | .func .. => some false
 | _ => none
def nilKind : AV → Nat
 | .snil => 1 | .sl .. => 1 | .sle => 1 | .mnil => 2 | .map _ => 2 | .fnil => 3 | .func .. => 3 | _ => 0
def isNilV : AV → Bool
 | .snil => true | .mnil => true | .fnil => true | _ => false
def eqNils (x y : AV) : Option Bool :=
 grd (Nat.blt 0 (nilKind x)) (grd (Nat.beq (nilKind x) (nilKind y)) (ite' (isNilV x) (some (isNilV y)) (grd (isNilV y) (some false))))
def zei (i : Nat) (l : List Nat) : Bool := lE true (fun j _ r => ite' (Nat.beq i j) false r) l
def ptrE : Ent → Option (List Nat)
 | .cells _ ty _ fz olds => grd (Nat.blt 0 ty) (grd (Nat.beq fz 0) (some olds))
 | _ => none
def eqPtr (h : AH) (b o b' o' : Nat) : Option Bool :=
 ite' (Nat.beq b b') (some (Nat.beq o o')) (bnd (bnd (h.get b) ptrE) fun l => bnd (bnd (h.get b') ptrE) fun l' => grd (zei b l') (grd (zei b' l) (some false)))
def eqP (h : AH) (x : AV) (b o : Nat) : Option Bool := match x with
 | .pnil => some false
 | .ptr b' o' => eqPtr h b o b' o'
 | _ => none
def zas (h : AH) (x y : AV) : Option Bool := match x with
 | .bool a => eqB y a
 | .int k a => eqI y k a
 | .num g j lo hi => eqN y g j lo hi
 | .str n c => eqS h.fb h.fam y n c
 | .sstr pn pc i => eqSS h.fb h.fam y pn pc i
 | .pnil => eqPn y
 | .ptr b o => eqP h y b o
 | .gptr _ => (match y with | .pnil => some false | _ => none)
 | x => eqNils x y
def goF (eq : TypeId → AV → AV → Option Bool) (xs ys : List AV) (fs : List Field) : Option Bool :=
 lE (some true) (fun f _ r =>
  ite' (decide (f.name = "_")) none (bnd (partA P f.type xs f.offset) fun a => bnd (partA P f.type ys f.offset) fun b => bnd (eq f.type a b) fun q => ite' q r (some false))) fs
def zbV (eq : TypeId → AV → AV → Option Bool) (x y : AV) : Option Bool := match x with
 | .inil => (match y with | .inil => some true | .ifc _ _ => some false | _ => none)
 | .ifc tx vx => (match y with
   | .inil => some false
   | .ifc ty vy => ite' (Nat.beq tx ty) (bnd (P.info? tx) fun i => grd i.comparable (eq tx vx vy)) (some false)
   | _ => none)
 | _ => none
def zar : TypeDesc → AV → Bool
 | .bool => fun v => match v with | .bool _ => true | _ => false
 | .int _ => fun v => match v with | .int _ _ => true | .num .. => true | _ => false
 | .string => fun v => match v with | .str _ _ => true | .sstr .. => true | _ => false
 | .pointer _ => fun v => match v with | .pnil => true | .ptr _ _ => true | .gptr _ => true | _ => false
 | .slice _ => fun v => match v with | .snil => true | .sl .. => true | .sle => true | _ => false
 | .map _ _ => fun v => match v with | .mnil => true | .map _ => true | _ => false
 | .func _ _ _ => fun v => match v with | .fnil => true | .func .. => true | _ => false
 | _ => fun _ => false
def zgu (h : AH) (eq : TypeId → AV → AV → Option Bool) (t : TypeId) (x y : AV) (td : TypeDesc) : Option Bool := match td with
 | .interface _ => zbV P eq x y
 | .struct fs => aggV x fun xs => aggV y fun ys => ite' (P.stoodInHeld t) none (goF P eq xs ys fs.toList)
 | .pointer el => bnd (zaQ P el) fun z => grd (Nat.blt 0 z) (grd (zar td x) (grd (zar td y) (zas h x y)))
 | td => grd (zar td x) (grd (zar td y) (zas h x y))
def zcl (h : AH) (d : Nat) : TypeId → AV → AV → Option Bool :=
 nE (fun _ _ _ => none)
  (fun _ ih t x y => bnd (P.underlying t) fun td => zgu P h ih t x y td) d
def intBits (op : BinOp) (k : IntKind) (a b : Int) : Option Int :=
 match op with
 | .and => some (k.wrap (BitVec.ofInt k.bits a &&& BitVec.ofInt k.bits b).toNat)
 | .or => some (k.wrap (BitVec.ofInt k.bits a ||| BitVec.ofInt k.bits b).toNat)
 | .xor => some (k.wrap (BitVec.ofInt k.bits a ^^^ BitVec.ofInt k.bits b).toNat)
 | .andNot => some (k.wrap (BitVec.ofInt k.bits a &&& ~~~(BitVec.ofInt k.bits b)).toNat)
 | _ => none
def zgk (k : IntKind) (n : Int) : Bool := match k with
 | .i64 => iE (fun n => Nat.blt n 9223372036854775808) (fun n => Nat.blt n 9223372036854775808) n
 | .u8 => iE (fun n => Nat.blt n 256) (fun _ => false) n
 | _ => false
def zfw (k : IntKind) (n : Int) : Int := ite' (zgk k n) n (k.wrap n)
def binInt (op : BinOp) (k : IntKind) (a b : Int) : Option AV :=
 match op with
 | .add => some (zbT k (zfw k (a + b)))
 | .sub => some (zbT k (zfw k (a - b)))
 | .mul => some (zbT k (zfw k (a * b)))
 | .quo => ite' (zdA b 0) none (some (zbT k (zfw k (a.tdiv b))))
 | .rem => ite' (zdA b 0) none (some (zbT k (a.tmod b)))
 | .eql => some (zbI (zdA a b))
 | .neq => some (zbI (ite' (zdA a b) false true))
 | .lss => some (zbI (ltInt a b))
 | .leq => some (zbI (leInt a b))
 | .gtr => some (zbI (ltInt b a))
 | .geq => some (zbI (leInt b a))
 | op => bnd (intBits op k a b) fun n => some (zbT k n)
def isShift : BinOp → Bool
 | .shl => true
 | .shr => true
 | _ => false
def shiftA (op : BinOp) (k : IntKind) (a : Int) (n : Nat) : Option AV :=
 match op with
 | .shl => some (zbT k (k.wrap (a * 2 ^ (min n k.bits))))
 | .shr => some (zbT k (a.fdiv (2 ^ (min n k.bits))))
 | _ => none
def binStr (op : BinOp) (n c n' c' : Nat) : Option AV :=
 match op with
 | .add => grd (Nat.ble (Nat.add n n') 1000000000) (some (mkStr (Nat.add n n') (Nat.add (Nat.mod c (Nat.pow 256 n)) (Nat.mul (Nat.pow 256 n) c'))))
 | .eql => some (zbI (zeh n c n' c'))
 | .neq => some (zbI (ite' (zeh n c n' c') false true))
 | .lss => some (zbI (zgb (Nat.succ n) n c n' c'))
 | .gtr => some (zbI (zgb (Nat.succ n') n' c' n c))
 | .leq => some (zbI (ite' (zgb (Nat.succ n') n' c' n c) false true))
 | .geq => some (zbI (ite' (zgb (Nat.succ n) n c n' c') false true))
 | _ => none
def isAdd : BinOp → Bool
 | .add => true
 | _ => false
def zaL : Operand → Bool
 | .const _ => true
 | _ => false
def isInil : AV → Bool
 | .inil => true
 | _ => false
def isAggV : AV → Bool
 | .agg _ => true
 | _ => false
def guardA (t : TypeId) (cst : Bool) (a b : AV) : Bool :=
 ite' (isInil a) (ite' (isInil b) (ite' cst true (oE false zd1 (P.underlying t))) true)
  (ite' (isAggV a) (ite' (P.eqGuardType P.depth t) false true) true)
def eqOp (op : BinOp) (q : Bool) : Option AV :=
 match op with
 | .eql => some (zbI q)
 | .neq => some (zbI (ite' q false true))
 | _ => none
def binEq (op : BinOp) (t : TypeId) (cst : Bool) (a b : AV) (h : AH) : Option AV :=
 grd (guardA P t cst a b) (bnd (zcl P h 40 t a b) fun q => eqOp op q)
def isGtr : BinOp → Bool
 | .gtr => true
 | _ => false
def fits (m : Nat) (fam : List ME) : Bool :=
 lE true (fun kv _ r => match kv.k with | .str n _ => ite' (Nat.ble (Nat.add m n) 1000000000) r false | _ => false) fam
def binA (op : BinOp) (t : TypeId) (cst : Bool) (a b : AV) (h : AH) : Option AV :=
 match a with
 | .int k m => (match b with
   | .int k' n => ite' (isShift op) (natI n fun n => shiftA op k m n) (grd (zck k k') (binInt op k m n))
   | _ => binEq P op t cst a b h)
 | .str n c => (match b with
   | .str n' c' => binStr op n c n' c'
   | .sstr pn pc i => ite' (isAdd op) (grd (zb9 h.fb h.fam i) (grd (fits (Nat.add n pn) h.fam) (some (frc (preS n c pn pc).1 fun n' => frc (preS n c pn pc).2 fun c' => .sstr n' c' i)))) (binEq P op t cst a b h)
   | _ => none)
 | .num _ _ lo _ => (match b with
   | .int k n => ite' (isGtr op) (grd (zck k .i64) (grd (under n lo) (some (.bool true)))) (binEq P op t cst a b h)
   | _ => binEq P op t cst a b h)
 | _ => binEq P op t cst a b h
def unA (op : UnOp) (x : AV) : Option AV :=
 match op with
 | .neg => (match x with | .int k n => some (zbT k (zfw k (0 - n))) | _ => none)
 | .not => (match x with | .bool b => some (zbI (ite' b false true)) | _ => none)
 | .xor => (match x with | .int k n => bnd (intBits .xor k (if k.signed then -1 else k.max) n) fun n => some (zbT k n) | _ => none)
 | _ => none
def zbK (n : Nat) : Nat → List AV :=
 nE (fun _ => []) (fun _ ih c => (frc (Nat.mod c 256) fun b => .int .u8 (.ofNat b)) :: ih (Nat.div c 256)) n
def byteV {α : Type} (a : AV) (k : Nat → Option α) : Option α := match a with
 | .int .u8 i => natI i fun b => grd (Nat.blt b 256) (k b)
 | _ => none
def zgv (l : List AV) : Option Nat :=
 lE (some 0) (fun a _ r => byteV a fun b => bnd r fun c => some (Nat.add b (Nat.mul 256 c))) l
def zd2 (l : List AV) : Option AV := bnd (zgv l) fun c => some (mkStr (len l) c)
def zfx (n : Int) : AV := strOf (Utf8.encode n).data.toList
def isStringD : TypeDesc → Bool
 | .string => true
 | _ => false
def isUnsafe : TypeDesc → Bool
 | .unsafePointer => true
 | _ => false
abbrev VH := Option (AV × AH)
def vh (h : AH) (o : Option AV) : VH := bnd o fun v => some (v, h)
def zbF (x : AV) (h : AH) : Option AV := match x with
 | .snil => some (.str 0 0)
 | .sle => some (.str 0 0)
 | .sl b o l z => grd (Nat.beq z 1) (bnd (zba h b o l) zd2)
 | _ => none
def zdf (e : Nat) : Bool := oE false isU8 (P.underlying e)
def tyE : Ent → Nat
 | .cells _ ty _ _ _ => ty
 | _ => 0
def zc5 (h : AH) (t : Nat) (x : AV) : VH := match x with
 | .pnil => some (.pnil, h)
 | .ptr b o => bnd (zaQ P t) fun n => grd (Nat.blt 0 n) (bnd (h.cells b) fun l => grd (Nat.blt o (len l)) (some (x, h)))
 | _ => none
def zeT (h : AH) (u : Nat) (x : AV) : VH := match x with
 | .pnil => some (.pnil, h)
 | .ptr b o => grd (Nat.beq o 0) (bnd (zaQ P u) fun n => grd (Nat.blt 0 n) (bnd (h.get b) fun e => grd (Nat.beq (tyE e) u) (grd (Nat.blt 0 u) (bnd (h.cells b) fun l => grd (Nat.ble n (len l)) (some (x, h))))))
 | _ => none
def convTo (h : AH) (x : AV) (sd : TypeDesc) : TypeDesc → VH
 | .int k => intV x fun n => some (zbT k (zfw k n), h)
 | .string => (match x with
   | .int _ n => some (zfx n, h)
   | .str n c => some (.str n c, h)
   | .sstr pn pc i => some (.sstr pn pc i, h)
   | x => bnd (sliceD sd) fun e => grd (zdf P e) (bnd (zbF x h) fun s => some (s, h)))
 | .slice e => strV x fun n c => grd (zdf P e) (h.new (.cells (zbK n c) 0 true 0 []) fun b h => some (.sl b 0 n 1, h))
 | .unsafePointer => (match sd with
   | .pointer t => zc5 P h t x
   | _ => none)
 | .pointer u => grd (isUnsafe sd) (zeT P h u x)
 | _ => none
def convA (src dst : TypeId) (x : AV) (h : AH) : VH :=
 bnd (P.underlying src) fun sd => bnd (P.underlying dst) fun dd => convTo P h x sd dd
def zcB (v : Option AV) (dflt n : Nat) : Option Nat :=
 oE (some dflt) (fun a => natV a fun i => grd (Nat.ble i n) (some i)) v
def sliceStr (n c : Nat) (lo hi : Option AV) : Option AV :=
 bnd (zcB hi n n) fun hh => bnd (zcB lo 0 hh) fun l =>
  some (mkStr (Nat.sub hh l) (Nat.mod (Nat.div c (Nat.pow 256 l)) (Nat.pow 256 (Nat.sub hh l))))
def sliceSl (b o len_ z n : Nat) (lo hi : Option AV) : Option AV :=
 bnd (zcB hi len_ (Nat.div (Nat.sub n o) z)) fun hh => bnd (zcB lo 0 hh) fun l =>
  ite' (Nat.beq l 0) (some (.sl b o hh z))
   (ite' (Nat.blt (Nat.add o (Nat.mul l z)) n) (some (frc (Nat.add o (Nat.mul l z)) fun o => frc (Nat.sub hh l) fun m => .sl b o m z))
    (grd (Nat.beq hh l) (some .sle)))
def sliceD' (x : AV) (lo hi : Option AV) (h : AH) : TypeDesc → Option AV
 | .string => strV x fun n c => sliceStr n c lo hi
 | .slice e => (match x with
   | .sl b o l z => bnd (zaQ P e) fun z' => grd (Nat.beq z z') (grd (Nat.blt 0 z) (bnd (h.cells b) fun cs => sliceSl b o l z (len cs) lo hi))
   | .snil => bnd (zaQ P e) fun _ => bnd (zcB hi 0 0) fun hh => bnd (zcB lo 0 hh) fun _ => some .snil
   | .sle => bnd (zaQ P e) fun _ => bnd (zcB hi 0 0) fun hh => bnd (zcB lo 0 hh) fun _ => some .sle
   | _ => none)
 | _ => none
def zej (t : TypeId) (x : AV) (lo hi : Option AV) (h : AH) : Option AV := bnd (P.underlying t) fun d => sliceD' P x lo hi h d
def findKey (h : AH) (k : AV) (l : List ME) : Option (Option ME) :=
 lE (some none) (fun m _ r => bnd (zas h k m.k) fun q => ite' q (some (some m)) r) l
def zgw (h : AH) (k v : AV) (s : Nat) (l : List ME) : Option (List ME) :=
 lE (some [⟨k, v, s⟩])
  (fun m t r => bnd (zas h k m.k) fun q => ite' q (some (⟨m.k, v, m.s⟩ :: t)) (bnd r fun t => some (m :: t))) l
def putStamp (v : AV) (s : Nat) (l : List ME) : Option (List ME) :=
 lE none (fun m t r => ite' (Nat.beq s m.s) (some (⟨m.k, v, m.s⟩ :: t)) (bnd r fun t => some (m :: t))) l
def delKey (h : AH) (k : AV) (l : List ME) : Option (List ME) :=
 lE (some []) (fun m t r => bnd (zas h k m.k) fun q => ite' q (some t) (bnd r fun t => some (m :: t))) l
def mapV {α : Type} (a : AV) (k : Nat → Option α) : Option α := match a with
 | .map b => k b
 | _ => none
def zdB (m : AV) (h : AH) : Option (List ME) := match m with
 | .mnil => some []
 | .map b => bnd (h.map b) fun p => some p.1
 | _ => none
def zbW (ok : Bool) (v : AV) (there : Bool) : AV := ite' ok (.tup [v, .bool there]) v
def mapK (t : TypeId) (k : AV) : Option Nat := bnd (P.underlying t) fun d => bnd (mapD d) fun ke => bnd (P.underlying ke.1) fun kd => grd (zdz kd) (grd (zar kd k) (some ke.2))
def ckOf (p : List ME × Nat) (es : List ME) : Nat := frc (Nat.add p.2 (Nat.sub (len es) (len p.1))) fun c => c
def zer (t : TypeId) (ok : Bool) (m k : AV) (h : AH) : Option AV :=
 bnd (mapK P t k) fun e => bnd (zdB m h) fun es => bnd (findKey h k es) fun r =>
  oE (bnd (zdy P e) fun z => some (zbW ok z false)) (fun x => some (zbW ok x.v true)) r
def mapUpd (t : TypeId) (m k v : AV) (h : AH) : Option AH :=
 mapV m fun b => bnd (mapK P t k) fun _ => bnd (h.map b) fun p => h.skip fun s h => bnd (zgw h k v s p.1) fun es => some (h.set b (.map es (ckOf p es)))
def mapDel (t : TypeId) (m k : AV) (h : AH) : Option AH :=
 bnd (mapK P t k) fun _ => match m with
  | .mnil => some h
  | .map b => bnd (h.map b) fun p => bnd (delKey h k p.1) fun es => some (h.set b (.map es p.2))
  | _ => none
def zgx (t : TypeId) (m k : AV) (h : AH) : VH :=
 mapV m fun b => bnd (mapK P t k) fun e => bnd (h.map b) fun p => bnd (findKey h k p.1) fun r =>
  oE
   (bnd (zdy P e) fun z => h.skip fun s h => bnd (zgw h k z s p.1) fun es => some (.tup [z, .stp s], h.set b (.map es (ckOf p es))))
   (fun x => some (.tup [x.v, .stp x.s], h)) r
def stpV {α : Type} (a : AV) (k : Nat → Option α) : Option α := match a with
 | .stp s => k s
 | _ => none
def zes (m s v : AV) (h : AH) : Option AH :=
 mapV m fun b => stpV s fun s => bnd (h.map b) fun p => bnd (putStamp v s p.1) fun es => some (h.set b (.map es p.2))
def fillA (place : Nat → Option (Nat × Nat)) (ps : List (Nat × AV)) : List AV → Option (List AV) :=
 lE some
  (fun p _ ih cells => bnd (place p.1) fun q => grd (Nat.beq (len p.2.cells) q.2) (bnd (zc4 cells q.1 p.2.cells) fun cells => ih cells)) ps
def places (fs : List Field) (i : Nat) : Option (Nat × Nat) := bnd (nth fs i) fun f => bnd (zaQ P f.type) fun n => some (f.offset, n)
def zfy (z : Nat) (i : Nat) : Option (Nat × Nat) := some (Nat.mul i z, z)
def zgl (fs : List Field) : Bool := lE true (fun f _ r => ite' (Option.isSome (zaQ P f.type)) r false) fs
def buildD (z : List AV) (ps : List (Nat × AV)) : TypeDesc → Option AV
 | .struct fs => grd (zgl P fs.toList) (bnd (fillA (places P fs.toList) ps z) fun l => some (.agg l))
 | .array _ e => bnd (zaQ P e) fun n => bnd (fillA (zfy n) ps z) fun l => some (.agg l)
 | _ => none
def buildA (t : TypeId) (ps : List (Nat × AV)) : Option AV := bnd (zdy P t) fun z => aggV z fun z => bnd (P.underlying t) fun d => buildD P z ps d
def zcC (e z n : Nat) : Option (List AV) := bnd (zdy P e) fun v => grd (Nat.beq (len v.cells) z) (some (repl n v.cells))
def zet (t : TypeId) (n : Nat) (ps : List (Nat × AV)) (h : AH) : VH :=
 bnd (zga P t) fun e => grd (Nat.ble (Nat.mul n e.2) 16777216) (bnd (zcC P e.1 e.2 n) fun z => bnd (fillA (zfy e.2) ps z) fun l =>
  h.new (.cells l e.1 true 0 []) fun b h => some (.sl b 0 n e.2, h))
def zdg (e c : Nat) : Option Unit := bnd (P.info? e) fun i => grd (Nat.ble (Nat.mul i.bytes c) 140737488355328) (some ())
def zfz (t : TypeId) (l c : AV) (h : AH) : VH :=
 natV l fun l => natV c fun c => grd (Nat.ble l c) (grd (Nat.ble c 100000) (bnd (zga P t) fun e => bnd (zdg P e.1 c) fun _ => bnd (zcC P e.1 e.2 c) fun z =>
  h.new (.cells z e.1 true 0 []) fun b h => some (.sl b 0 l e.2, h)))
def lenD (x : AV) (h : AH) : TypeDesc → Option Nat
 | .string => strV x fun n _ => some n
 | .array n _ => some n
 | .slice _ => (match x with
   | .sl _ _ l _ => some l
   | .sle => some 0
   | .snil => some 0
   | _ => none)
 | .map _ _ => bnd (zdB x h) fun es => some (len es)
 | _ => none
def zd3 (z : Nat) (x : AV) (h : AH) : Option (Nat × List AV) := match x with
 | .sl b o l z' => grd (Nat.beq z z') (bnd (zba h b o (Nat.mul l z)) fun cs => some (l, cs))
 | .sle => some (0, [])
 | .snil => some (0, [])
 | .str n c => grd (Nat.beq z 1) (some (n, zbK n c))
 | _ => none
def zeroCellsA (e z : Nat) (x : AV) : Option (Nat × List AV) :=
 natV x fun n => grd (Nat.ble n 100000) (bnd (zdg P e n) fun _ => bnd (zcC P e z n) fun r => some (n, r))
def zeu (e z m : Nat) : Option Unit := grd (Nat.ble m 1000000000) (bnd (zcC P e z 0) fun _ => zdg P e (Nat.add (Nat.mul 4 m) 1000))
def growTy (ty e : Nat) : Nat := ite' (Nat.beq ty e) e 0
def zcR (o ty e : Nat) : Nat := ite' (Nat.beq o 0) (growTy ty e) 0
def appendE (e z b o l f n : Nat) (cs : List AV) (h : AH) : Ent → VH
 | .cells old ty wr fz olds =>
   ite' (Nat.ble (Nat.add f (Nat.mul n z)) (len old))
    (bnd (za2 h b f cs) fun h => some (frc (Nat.add l n) fun m => .sl b o m z, h))
    (grd wr (grd (Nat.ble fz f) (grd (allC cs) (bnd (zeu P e z (Nat.add l n)) fun _ => bnd (cut old o (Nat.mul l z)) fun mine =>
     ite' (Nat.beq f (len old))
      (AH.new (h.set b (.cells old ty false fz olds)) (.cells (app mine cs) (zcR o ty e) true (Nat.sub fz o) (b :: olds)) fun b' h => some (frc (Nat.add l n) fun m => .sl b' 0 m z, h))
      (AH.new (AH.kill (b :: olds) h) (.cells (app mine cs) (zcR o ty e) true (Nat.sub fz o) []) fun b' h => some (frc (Nat.add l n) fun m => .sl b' 0 m z, h))))))
 | _ => none
def appendTo (e z n : Nat) (cs : List AV) (s : AV) (h : AH) : VH :=
 ite' (Nat.beq n 0) (match s with
   | .snil => some (.snil, h)
   | .sle => some (.sle, h)
   | .sl b o l z' => some (.sl b o l z', h)
   | _ => none)
  (match s with
   | .snil => bnd (zeu P e z n) fun _ => h.new (.cells cs e true 0 []) fun b h => some (.sl b 0 n z, h)
   | .sl b o l z' => grd (Nat.beq z z') (bnd (h.get b) fun en => appendE P e z b o l (Nat.add o (Nat.mul l z)) n cs h en)
   | _ => none)
def zerosA (o : Option Nat) : Option Bool := oE (some false) (fun t => bnd (P.underlying t) fun d => some (Option.isSome (intD d))) o
def appendA (t : Nat) (zeros : Bool) (s x : AV) (h : AH) : VH :=
 bnd (zga P t) fun e => bnd (ite' zeros (zeroCellsA P e.1 e.2 x) (zd3 e.2 x h)) fun ncs => appendTo P e.1 e.2 ncs.1 ncs.2 s h
def copyA (t : TypeId) (d s : AV) (h : AH) : VH :=
 bnd (zga P t) fun e => bnd (zd3 e.2 s h) fun ncs => match d with
  | .sl b o l z => grd (Nat.beq z e.2) (bnd (tak ncs.2 (Nat.mul (Nat.min ncs.1 l) z)) fun cs => bnd (za2 h b o cs) fun h => some (zde (Nat.min ncs.1 l), h))
  | .snil => some (zde 0, h)
  | .sle => some (zde 0, h)
  | _ => none
def zek (mx : Bool) (l : List AV) : AV → Option AV :=
 lE some
  (fun y _ ih x => match x with
   | .int k a => intV y fun b => ih (zbT k (ite' (ite' mx (ltInt a b) (ltInt b a)) b a))
   | _ => none) l
def pointerD : TypeDesc → Option Nat
 | .pointer e => some e
 | _ => none
def stringE (h : AH) (t b n : Nat) : Ent → VH
 | .cells l ty wr fz olds => grd wr (grd (Nat.beq ty t) (grd (Nat.blt 0 ty) (bnd (zaQ P ty) fun z => grd (Nat.beq z 1) (bnd (cut l 0 n) fun cs => bnd (zd2 cs) fun s =>
   some (s, AH.set (AH.kill olds h) b (.cells l ty true (Nat.max fz n) []))))))
 | _ => none
def zcp (pt : Nat) (p l : AV) (h : AH) : VH :=
 natV l fun n => grd (Nat.ble n 1000000000) (match p with
  | .pnil => grd (Nat.beq n 0) (some (.str 0 0, h))
  | .ptr b o => ite' (Nat.beq n 0) (some (.str 0 0, h)) (grd (Nat.beq o 0) (bnd (P.underlying pt) fun d => bnd (pointerD d) fun t => bnd (h.get b) fun e => stringE P h t b n e))
  | _ => none)
def zd4 (x : AV) (h : AH) : VH := match x with
 | .snil => some (.pnil, h)
 | .sl b o _ _ => bnd (h.cells b) fun l => grd (Nat.blt o (len l)) (some (.ptr b o, h))
 | _ => none
def arg1 {α : Type} (l : List AV) (k : AV → Option α) : Option α := lC none (fun a t => grd (zaY t) (k a)) l
def arg2 {α : Type} (l : List AV) (k : AV → AV → Option α) : Option α :=
 lC none (fun a t => arg1 t fun b => k a b) l
def arg3 {α : Type} (l : List AV) (k : AV → AV → AV → Option α) : Option α :=
 lC none (fun a t => arg2 t fun b c => k a b c) l
def zgm (b : Builtin) (ts : List TypeId) (args : List AV) (h : AH) : VH :=
 match b with
 | .len => arg1 args fun x => bnd (nth ts 0) fun t => bnd (P.underlying t) fun d => bnd (lenD x h d) fun n => some (zde n, h)
 | .cap => arg1 args fun x => bnd (nth ts 0) fun t => bnd (zga P t) fun _ => (match x with | .snil => some (zde 0, h) | _ => none)
 | .append => arg2 args fun s x => bnd (nth ts 0) fun t =>
   bnd (zerosA P (nth ts 1)) fun z => appendA P t z s x h
 | .copy => arg2 args fun d s => bnd (nth ts 0) fun t => copyA P t d s h
 | .delete => arg2 args fun m k => bnd (nth ts 0) fun t => bnd (mapDel P t m k h) fun h => some (.tup [], h)
 | .max => lC none (fun a l => vh h (zek true l a)) args
 | .min => lC none (fun a l => vh h (zek false l a)) args
 | .unsafeSliceData => arg1 args fun x => zd4 x h
 | .unsafeString => arg2 args fun p l => bnd (nth ts 0) fun pt => zcp P pt p l h
 | _ => none
def zd5 (b n : Nat) : Nat → Nat → Int :=
 nE (fun _ _ => -1)
  (fun _ ih c i => ite' (Nat.beq (Nat.mod c 256) b) (.ofNat i) (ih (Nat.div c 256) (Nat.succ i))) n
def externA (name origin : String) (args : List AV) (h : AH) : VH :=
 grd (decide (origin = "")) <| ite' (decide (name = "internal/abi.NoEscape")) (arg1 args fun x => some (x, h))
  (ite' (decide (name = "internal/bytealg.IndexByteString")) (arg2 args fun s b => strV s fun n c => byteV b fun b => some (zbT .i64 (zd5 b n c 0), h)) none)
def ofVH (o : VH) : O := oE .no (fun x => .val x.1 x.2) o
def ofH (o : Option AH) : O := oE .no (fun h => .skip h) o
def ofV (h : AH) (o : Option AV) : O := oE .no (fun v => .val v h) o
def ofO (o : Option O) : O := oE .no (fun o => o) o
def callF (f : Nat) (args : List AV) (h : AH) : O :=
 oE .no
  (fun fn => oE (ofVH (externA fn.name fn.origin args h)) (fun _ => .enter f args h) fn.body) (P.funcs[f]?)
def receiverOk (t : Nat) (ptr : Bool) : Bool := oE false (fun d => ite' ptr (zby d) (ite' (zby d) false true)) (P.underlying t)
def zgy (t : TypeId) (name : String) : Option Nat :=
 bnd (P.info? t) fun i => bnd (i.methods.toList.find? (·.name == name)) fun m => grd (zaY m.path.toList) (bnd m.func fun fp => grd (receiverOk P t fp.2) (some fp.1))
def zdC (n : Nat) (ps : List Nat) : List AV → Tr AV → Option (Tr AV) :=
 lE (fun as t => grd (zaY as) (some t))
  (fun p _ ih as t => lC none (fun a as' => grd (Nat.blt p n) (ih as' (Tr.put (some a) (Nat.succ p) t p))) as) ps
def yieldE (l : Nat) (args : List AV) (h : AH) : Ent → O
 | .loop _ _ tm nt ps asg body _ => ofO (bnd (zdC nt ps args tm) fun tm => some (.round l tm nt asg body h))
 | _ => .no
def zgz (name : String) (args : List AV) (h : AH) : O :=
 lC .no (fun r as => match r with
  | .ifc t v => ofO (bnd (zgy P t name) fun f => some (callF P f (v :: as) h))
  | _ => .no) args
def zd6 (capt args : List AV) (h : AH) : Fn → O
 | .func f => callF P f (app args capt) h
 | .yield l => ofO (bnd (h.get l) fun e => some (yieldE l args h e))
 | .method name => zgz P name args h
 | _ => .no
def callV (f : AV) (args : List AV) (h : AH) : O := match f with
 | .func fn first capt => zd6 P capt (app first args) h fn
 | _ => .no
def zbb : Op → List Operand
 | .move x => [x]
 | .assign x => [x]
 | .pick c a b => [c, a, b]
 | .box _ x => [x]
 | .build _ ps => ps.toList.map (·.2)
 | .buildSlice _ _ ps => ps.toList.map (·.2)
 | .load _ a => [a]
 | .store _ a v => [a, v]
 | .nilCheck x => [x]
 | .binOp _ _ x y _ => [x, y]
 | .unOp _ _ x => [x]
 | .convert _ _ x => [x]
 | .makeInterface _ x => [x]
 | .makeFunc _ first capt => app first.toList capt.toList
 | .makeMap _ r => r.toList
 | .makeSlice _ l c => [l, c]
 | .slice _ x lo hi _ => x :: app lo.toList hi.toList
 | .fieldAddr _ x _ => [x]
 | .field _ x _ => [x]
 | .indexAddr _ x i => [x, i]
 | .index _ x i => [x, i]
 | .lookup _ m k _ => [m, k]
 | .mapUpdate _ m k v => [m, k, v]
 | .insert _ m k v => [m, k, v]
 | .mapEntry _ m k => [m, k]
 | .entryStore _ m k v => [m, k, v]
 | .range _ x => [x]
 | .next it _ => [it]
 | .entry it => [it]
 | .typeAssert x _ _ _ => [x]
 | .extract x _ => [x]
 | .call c => (match c.callee with | .value f => f :: c.args.toList | .invoke r _ => r :: c.args.toList | .builtin _ => c.args.toList)
 | .defer c => (match c.callee with | .value f => f :: c.args.toList | .invoke r _ => r :: c.args.toList | .builtin _ => c.args.toList)
 | _ => []
def pickA (c a b : AV) : Option AV := match c with
 | .bool q => some (ite' q a b)
 | _ => none
def zeU (x : AV) : Option AV := match x with
 | .pnil => none
 | .sval _ => none
 | .inil => none
 | .fnil => none
 | .func f a b => (match f with | .method _ => none | _ => some (.func f a b))
 | x => some x
def zipI (ps : List (Nat × Operand)) : List AV → List (Nat × AV) :=
 lE (fun _ => []) (fun p _ ih vs => lC [] (fun v vt => (p.1, v) :: ih vt) vs) ps
def zfA (t : Nat) (x : AV) : Option AV := bnd (P.underlying t) fun d => ite' (isIface d) none (some (.ifc t x))
def makeMapA (t : Nat) (vs : List AV) (h : AH) : VH :=
 grd (lC true (fun r _ => Option.isSome (bnd (mapA P t) fun _ => intV r fun _ => some ())) vs) (h.new (.map [] 0) fun b h => some (.map b, h))
def zgA {α : Type} (o : Option α) : Bool := oE false (fun _ => true) o
def sliceOp (t : Nat) (lo hi : Bool) (vs : List AV) (h : AH) : Option AV :=
 lC none (fun x r =>
  ite' lo (ite' hi (arg2 r fun l u => zej P t x (some l) (some u) h) (arg1 r fun l => zej P t x (some l) none h))
   (ite' hi (arg1 r fun u => zej P t x none (some u) h) (grd (zaY r) (zej P t x none none h)))) vs
def isZeroO : Operand → Bool
 | .const (.int _ (.ofNat n)) => Nat.beq n 0
 | _ => false
def famK (a : AV) : Bool := match a with
 | .str _ _ => true
 | _ => false
def intA (a : AV) : Bool := match a with
 | .int _ _ => true
 | .ptr _ _ => true
 | _ => false
def intsA (l : List AV) : Bool := lE true (fun x _ r => ite' (intA x) r false) l
def famV (a : AV) : Bool := match a with
 | .func (.func _) x y => ite' (intsA x) (intsA y) false
 | _ => false
def famOk (es : List ME) : Bool := lE true (fun m _ r => ite' (famK m.k) (ite' (famV m.v) r false) false) es
def sameK (a b : AV) : Bool := match a with
 | .str n c => (match b with | .str n' c' => ite' (Nat.beq n n') (Nat.beq c c') false | _ => false)
 | _ => false
def sameI (a b : AV) : Bool := match a with
 | .int k m => (match b with | .int k' n => ite' (zck k k') (zdA m n) false | _ => false)
 | .ptr i o => (match b with | .ptr i' o' => ite' (Nat.beq i i') (Nat.beq o o') false | _ => false)
 | _ => false
def zfX (xs : List AV) : List AV → Bool :=
 lE (fun ys => zaY ys)
  (fun x _ ih ys => lC false (fun y yt => ite' (sameI x y) (ih yt) false) ys) xs
def sameF (a b : AV) : Bool := match a with
 | .func (.func f) x y => (match b with | .func (.func g) x' y' => ite' (Nat.beq f g) (ite' (zfX x x') (zfX y y') false) false | _ => false)
 | _ => false
def sameSt (xs : List ME) : List ME → Bool :=
 lE (fun ys => zaY ys)
  (fun x _ ih ys => lC false (fun y yt => ite' (Nat.beq x.s y.s) (ih yt) false) ys) xs
def sameEs (xs : List ME) : List ME → Bool :=
 lE (fun ys => zaY ys)
  (fun x _ ih ys => lC false (fun y yt => ite' (Nat.beq x.s y.s) (ite' (sameK x.k y.k) (ite' (sameF x.v y.v) (ih yt) false) false) false) ys) xs
def two (es : List ME) : Bool := Nat.blt 1 (len es)
def zgB (m : Nat) (h : AH) (p : List ME × Nat) : VH :=
 ite' (two p.1)
  (grd (famOk p.1) (grd (zaY h.fam) (frc h.next fun b => some (.ptr b 0,
   ⟨Nat.add (Nat.succ b) (len p.1), Tr.put (some (.miter m 0 (len p.1) (Nat.succ b) p.2 [])) (Nat.succ b) h.t b, Nat.succ b, p.1⟩))))
  (h.new (.miter m 0 (len p.1) 0 p.2 p.1) fun b h => some (.ptr b 0, h))
def rangeD (x : AV) (h : AH) : TypeDesc → VH
 | .string => strV x fun n c => h.new (.siter n c 0) fun b h => some (.ptr b 0, h)
 | .map _ _ => mapV x fun m => bnd (h.map m) fun p => zgB m h p
 | _ => none
def decodeStr (n c p : Nat) : Option (Nat × Nat) :=
 frc (Nat.mod (Nat.div c (Nat.pow 256 p)) 256) fun b => grd (Nat.blt b 128) (some (b, 1))
def overA : AV := .tup [.bool false]
def nextE (b : Nat) (str : Bool) (h : AH) : Ent → VH
 | .siter n c p => grd str (ite' (Nat.blt p n)
   (bnd (decodeStr n c p) fun r => some (.tup [.bool true, zde p, .int .i32 (.ofNat r.1)], h.set b (.siter n c (Nat.add p r.2)))) (some (overA, h)))
 | .miter m j n fam lc ss => ite' str none (bnd (h.map m) fun p =>
   ite' (Nat.beq fam 0)
    (grd (sameSt p.1 ss) (ite' (Nat.blt j n)
     (bnd (nth p.1 0) fun e => some (.tup [.bool true, e.k, e.v], h.set b (.miter m (Nat.succ j) n fam p.2 ss)))
     (some (overA, h))))
    (grd (Nat.beq fam h.fb) (grd (sameEs p.1 h.fam) (ite' (Nat.blt j n)
     (frc (Nat.add h.fb j) fun i => some (.tup [.bool true, .sstr 0 0 i, .sval i], h.set b (.miter m (Nat.succ j) n fam p.2 ss)))
     (some (overA, h))))))
 | _ => none
def entryE (h : AH) : Ent → Option AV
 | .miter m j n fam lc ss => bnd (h.map m) fun p => grd (Nat.beq lc p.2)
   (ite' (Nat.beq fam 0)
    (grd (sameSt p.1 ss) (grd (Nat.beq j 1) (bnd (nth p.1 0) fun e => some (.tup [e.k, e.v]))))
    (grd (Nat.beq fam h.fb) (grd (sameEs p.1 h.fam) (grd (Nat.blt 0 j) (frc (Nat.add h.fb (Nat.pred j)) fun i => some (.tup [.sstr 0 0 i, .sval i]))))))
 | _ => none
def iterV {α : Type} (a : AV) (k : Nat → Option α) : Option α := ptrV a fun b o => grd (Nat.beq o 0) (k b)
def zeV (t : Nat) (ok : Bool) : Option AV := grd ok (bnd (zdy P t) fun z => some (.tup [z, .bool false]))
def isNone {α : Type} (o : Option α) : Bool := oE true (fun _ => false) o
def assertD (t : Nat) (ok : Bool) (x : AV) : TypeDesc → Option AV
 | .interface ms => (match x with
   | .ifc t' _ => bnd (P.info? t') fun i => ite' (isNone (Instr.missingMethod ms i.methods)) (some (zbW ok x true)) (zeV P t ok)
   | .inil => zeV P t ok
   | _ => none)
 | _ => (match x with
   | .ifc t' v => ite' (Nat.beq t t') (some (zbW ok v true)) (zeV P t ok)
   | .inil => zeV P t ok
   | _ => none)
def opV (op : Op) (vs : List AV) (h : AH) : O :=
 match op with
 | .move _ => ofV h (arg1 vs some)
 | .assign _ => ofV h (arg1 vs some)
 | .pick _ _ _ => ofV h (arg3 vs pickA)
 | .alloc t => ofVH (bnd (zdy P t) fun z => h.new (.cells z.cells t true 0 []) fun b h => some (.ptr b 0, h))
 | .box t _ => ofVH (arg1 vs fun v => h.new (.cells v.cells t true 0 []) fun b h => some (.ptr b 0, h))
 | .build t ps => ofV h (buildA P t (zipI ps.toList vs))
 | .buildSlice t n ps => ofVH (zet P t n (zipI ps.toList vs) h)
 | .load t _ => ofV h (arg1 vs fun a => load P t a h)
 | .store t _ _ => ofH (arg2 vs fun a v => store P t a v h)
 | .nilCheck _ => ofV h (arg1 vs zeU)
 | .binOp op t x y _ => ofV h (arg2 vs fun a b => binA P op t (ite' (zaL x) true (zaL y)) a b h)
 | .unOp op _ _ => ofV h (arg1 vs fun a => unA op a)
 | .convert s d _ => ofVH (arg1 vs fun a => convA P s d a h)
 | .makeInterface t _ => ofV h (arg1 vs fun a => zfA P t a)
 | .makeFunc fn first _ => ofV h (grd (zeS fn) (bnd (tak vs (len first.toList)) fun a => bnd (drp vs (len first.toList)) fun b => some (.func fn a b)))
 | .makeMap t _ => ofVH (makeMapA P t vs h)
 | .makeSlice t _ _ => ofVH (arg2 vs fun l c => zfz P t l c h)
 | .slice t _ lo hi mx => ite' (isNone mx) (ofV h (sliceOp P t (zgA lo) (zgA hi) vs h)) .no
 | .fieldAddr s _ f => ofV h (arg1 vs fun a => fieldAddr P s f a)
 | .field s _ f => ofV h (arg1 vs fun a => field P s f a)
 | .indexAddr t _ _ => ofV h (arg2 vs fun x i => indexAddr P t x i)
 | .index t _ _ => ofV h (arg2 vs fun x i => index P t x i)
 | .lookup t _ _ ok => ofV h (arg2 vs fun m k => zer P t ok m k h)
 | .mapUpdate t _ _ _ => ofH (arg3 vs fun m k v => mapUpd P t m k v h)
 | .insert t _ _ _ => ofH (arg3 vs fun m k v => mapUpd P t m k v h)
 | .mapEntry t _ _ => ofVH (arg2 vs fun m k => zgx P t m k h)
 | .entryStore _ _ _ _ => ofH (arg3 vs fun m k v => zes m k v h)
 | .range t _ => ofVH (arg1 vs fun x => bnd (P.underlying t) fun d => rangeD x h d)
 | .next _ str => ofVH (arg1 vs fun it => iterV it fun b => bnd (h.get b) fun e => nextE b str h e)
 | .entry _ => ofV h (arg1 vs fun it => iterV it fun b => bnd (h.get b) fun e => entryE h e)
 | .typeAssert _ _ t ok => ofV h (arg1 vs fun x => bnd (P.underlying t) fun d => assertD P t ok x d)
 | .extract _ i => ofV h (arg1 vs fun x => tupV x fun l => nth l i)
 | .call c => (match c.callee with
   | .builtin b => ofVH (zgm P b c.argTypes.toList vs h)
   | .value _ => lC .no (fun f as => callV P f as h) vs
   | .invoke _ name => zgz P name vs h)
 | .defer c => (match c.callee with
   | .value _ => lC .no (fun f as => match f with
     | .func fn first capt => .dfr (.fn fn capt (app first as)) h
     | _ => .no) vs
   | _ => .no)
 | _ => .no
def sameS (a b : AV) : Bool := match a with
 | .bool x => (match b with | .bool y => ite' x y (ite' y false true) | _ => false)
 | .int k x => (match b with | .int j y => ite' (zck k j) (zdA x y) false | _ => false)
 | .num g j lo hi => (match b with | .num g' j' lo' hi' => ite' (Nat.beq g g') (ite' (Nat.beq j j') (ite' (Nat.beq lo lo') (Nat.beq hi hi') false) false) false | _ => false)
 | .stp x => (match b with | .stp y => Nat.beq x y | _ => false)
 | .str n c => (match b with | .str n' c' => ite' (Nat.beq n n') (Nat.beq c c') false | _ => false)
 | .sstr p q i => (match b with | .sstr p' q' j => ite' (Nat.beq p p') (ite' (Nat.beq q q') (Nat.beq i j) false) false | _ => false)
 | .sval x => (match b with | .sval y => Nat.beq x y | _ => false)
 | .ptr x o => (match b with | .ptr y p => ite' (Nat.beq x y) (Nat.beq o p) false | _ => false)
 | .pnil => (match b with | .pnil => true | _ => false)
 | .gptr x => (match b with | .gptr y => Nat.beq x y | _ => false)
 | .sl b' o l z => (match b with | .sl b2 o2 l2 z2 => ite' (Nat.beq b' b2) (ite' (Nat.beq o o2) (ite' (Nat.beq l l2) (Nat.beq z z2) false) false) false | _ => false)
 | .snil => (match b with | .snil => true | _ => false)
 | .map x => (match b with | .map y => Nat.beq x y | _ => false)
 | .mnil => (match b with | .mnil => true | _ => false)
 | .func (.func f) [] [] => (match b with | .func (.func g) [] [] => Nat.beq f g | _ => false)
 | .fnil => (match b with | .fnil => true | _ => false)
 | .inil => (match b with | .inil => true | _ => false)
 | _ => false
def sameL (xs : List AV) : List AV → Bool :=
 lE (fun ys => zaY ys)
  (fun x _ ih ys => lC false (fun y yt => ite' (sameS x y) (ih yt) false) ys) xs
structure Mem where
 nm : ME
 nu : ME
 fu : ME
 da : ME
def sstrIs (pn pc i : Nat) (a : AV) : Bool := match a with
 | .sstr n c j => ite' (Nat.beq n pn) (ite' (Nat.beq c pc) (Nat.beq j i) false) false
 | _ => false
def svalIs (i : Nat) (a : AV) : Bool := match a with
 | .sval j => Nat.beq i j
 | _ => false
def intIs (n : Nat) (a : AV) : Bool := match a with
 | .int .i64 (.ofNat m) => Nat.beq n m
 | _ => false
def ptrIs (b : Nat) (a : AV) : Bool := match a with
 | .ptr c o => ite' (Nat.beq b c) (Nat.beq o 0) false
 | _ => false
def zeW (c i : Nat) (e : Ent) : Option (List AV × Nat) := match e with
 | .cells (n :: s :: r) ty true 0 [] => grd (intIs c n) (grd (sstrIs 2 14906 i s) (some (r, ty)))
 | _ => none
def zev (k : AV) : Option AV := strV k fun n c => some (mkStr (preS 2 14906 n c).1 (preS 2 14906 n c).2)
structure Acc where
 nm : List ME
 nu : List ME
 fu : List ME
 da : List ME
 h : AH
def chk1 (h : AH) (r0 : List AV) (ty0 i c : Nat) (nm nu fu da : ME) : Option Nat :=
 ptrV nm.v fun b o => grd (Nat.beq o 0) (grd (sstrIs 2 14906 i nm.k) (grd (intIs c nu.k) (grd (ptrIs b nu.v) (grd (intIs c fu.k) (grd (svalIs i fu.v)
  (grd (intIs c da.k) (grd (isInil da.v) (bnd (h.get b) fun e => bnd (zeW c i e) fun rt => grd (Nat.beq rt.2 ty0) (grd (sameL rt.1 r0) (some b))))))))))
def hd1 {α β : Type} (l : List α) (k : α → List α → Option β) : Option β := lC none (fun a t => k a t) l
def chkL (h : AH) (r0 : List AV) (ty0 : Nat) (nm : List ME) : Nat → Nat → List ME → List ME → List ME → Option (List Nat) :=
 lE
  (fun _ _ nu fu da => grd (zaY nu) (grd (zaY fu) (grd (zaY da) (some []))))
  (fun a _ ih i c nu fu da => hd1 nu fun b nus => hd1 fu fun c' fus => hd1 da fun d das =>
   bnd (chk1 h r0 ty0 i c a b c' d) fun x => bnd (ih (Nat.succ i) (Nat.succ c) nus fus das) fun xs => some (x :: xs)) nm
def newL (g lo hi ty0 : Nat) (r0 : List AV) (fam : List ME) : Nat → Nat → AH → Option Acc :=
 lE
  (fun _ _ h => some ⟨[], [], [], [], h⟩)
  (fun kv _ ih j b h => bnd (zev kv.k) fun key => frc (Nat.succ b) fun s1 => frc (Nat.succ s1) fun s2 => frc (Nat.succ s2) fun s3 => frc (Nat.succ s3) fun s4 =>
   bnd (ih (Nat.succ j) (Nat.succ s4) (h.set b (.cells (.num g j lo hi :: key :: r0) ty0 true 0 []))) fun x =>
    some ⟨⟨key, .ptr b 0, s1⟩ :: x.nm, ⟨.num g j lo hi, .ptr b 0, s2⟩ :: x.nu, ⟨.num g j lo hi, kv.v, s3⟩ :: x.fu, ⟨.num g j lo hi, .inil, s4⟩ :: x.da, x.h⟩) fam
def rest0 (h : AH) (c i : Nat) (m : ME) : Option (List AV × Nat) := ptrV m.v fun b _ => bnd (h.get b) fun e => zeW c i e
def natOf (a : AV) : Option Nat := match a with
 | .int .i64 (.ofNat m) => some m
 | _ => none
def famCut (n : Nat) (l : List ME) : Option (List ME × List ME) :=
 grd (Nat.ble n (len l)) (bnd (tak l (Nat.sub (len l) n)) fun a => bnd (drp l (Nat.sub (len l) n)) fun b => some (a, b))
def reix (args : List AV) (h : AH) : Option AH :=
 arg1 args fun x => ptrV x fun bx ox => grd (Nat.beq ox 0) (bnd (zcQ h bx 3) fun tb => ptrV tb fun bt _ => bnd (zcQ h bx 4) fun mf => mapV mf fun mf => bnd (zcQ h bx 5) fun md => mapV md fun md =>
  bnd (zcQ h bt 0) fun mn => mapV mn fun mn => bnd (zcQ h bt 2) fun mu => mapV mu fun mu =>
  bnd (h.map mn) fun pn => bnd (h.map mu) fun pu => bnd (h.map mf) fun pf => bnd (h.map md) fun pd =>
  bnd (famCut (len h.fam) pn.1) fun nm => bnd (famCut (len h.fam) pu.1) fun nu => bnd (famCut (len h.fam) pf.1) fun fu => bnd (famCut (len h.fam) pd.1) fun da =>
  grd (zei mn [mu, mf, md]) (grd (zei mu [mf, md]) (grd (zei mf [md])
  (hd1 nu.2 fun n0 _ => hd1 nm.2 fun m0 _ => bnd (natOf n0.k) fun c0 => bnd (rest0 h c0 h.fb m0) fun rt => bnd (chkL h rt.1 rt.2 nm.2 h.fb c0 nu.2 fu.2 da.2) fun bs =>
   frc h.next fun g => frc (Nat.add (Nat.succ g) (Nat.mul 5 (len h.fam))) fun nx =>
   bnd (newL g c0 (Nat.add c0 (len h.fam)) rt.2 rt.1 h.fam 0 (Nat.succ g) (AH.kill bs ⟨nx, h.t, 0, []⟩)) fun x =>
    some ((((x.h.set mn (.map (app nm.1 x.nm) pn.2)).set mu (.map (app nu.1 x.nu) pu.2)).set mf (.map (app fu.1 x.fu) pf.2)).set md (.map (app da.1 x.da) pd.2))))))
def zau (ops : List Oper) (fr : Fr) (g : Option (Nat × Bool)) : Option Bool :=
 oE (some true)
  (fun g => bnd (nth ops g.1) fun oj => bnd oj.dst fun d => match fr.at_ d with
   | .bool b => some (ite' b g.2 (ite' g.2 false true))
   | .sval _ => none
   | _ => some false) g
def result1 (h : AH) (fr : Fr) : ResultVar → Option AV
 | .tmp t => some (fr.at_ t)
 | .cell t ty => load P ty (fr.at_ t) h
def zfB (h : AH) (fr : Fr) (rs : List ResultVar) : Option AV :=
 bnd (mapO (result1 P h fr) rs) fun l => some (lC (.tup []) (fun v t => ite' (zaY t) v (.tup (v :: t))) l)
def enterT (l : List AV) : Nat → Tr AV → Tr AV :=
 lE (fun _ t => t) (fun v _ ih i t => ih (Nat.succ i) (Tr.put (some v) (Nat.succ i) t i)) l
def enterF (fn : Func) (args : List AV) : Fr := ⟨enterT args 0 .nil, Nat.max fn.ntmps (len args), []⟩
def allB {α : Type} (p : α → Bool) (l : List α) : Bool := lE true (fun x _ r => ite' (p x) r false) l
def zdD {α : Type} (p : α → α → Bool) (xs : List α) : List α → Bool :=
 lE (fun ys => zaY ys)
  (fun x _ ih ys => lC false (fun y yt => ite' (p x y) (ih yt) false) ys) xs
def sameD1 (ih : AV → AV → Bool) (a b : AV) : Bool := match a with
 | .func (.func f) x y => (match b with | .func (.func g) x' y' => ite' (Nat.beq f g) (ite' (zdD ih x x') (zdD ih y y') false) false | _ => false)
 | .ifc t v => (match b with | .ifc t' v' => ite' (Nat.beq t t') (ih v v') false | _ => false)
 | .agg x => (match b with | .agg y => zdD ih x y | _ => false)
 | .tup x => (match b with | .tup y => zdD ih x y | _ => false)
 | a => sameS a b
def sameD (n : Nat) : AV → AV → Bool := nE (fun a b => sameS a b) (fun _ ih a b => sameD1 ih a b) n
def sameME (a b : ME) : Bool := ite' (sameD 4 a.k b.k) (ite' (sameD 4 a.v b.v) (Nat.beq a.s b.s) false) false
def sameE (a b : Ent) : Bool := match a with
 | .cells l ty wr fz olds => (match b with
   | .cells l' ty' wr' fz' olds' => ite' wr (ite' wr' (ite' (Nat.beq ty ty') (ite' (Nat.beq fz fz') (ite' (zdD Nat.beq olds olds') (zdD (sameD 4) l l') false) false) false) false) false
   | _ => false)
 | .map es ck => (match b with | .map es' ck' => ite' (Nat.beq ck ck') (zdD sameME es es') false | _ => false)
 | _ => false
structure IE where
 i : Nat
 e : Ent
def zbu (l : List IE) (h : AH) : AH := lE h (fun p _ h => h.set p.i p.e) l
def zad (n : Nat) (l : List IE) : AH := zbu l ⟨n, .nil, 0, []⟩
def eldersE : Ent → List Nat
 | .cells _ _ _ _ olds => olds
 | _ => []
def zbX (l : List IE) (h : AH) : AH := lE h (fun p _ h => AH.kill (eldersE p.e) (h.drop p.i)) l
def holds (l : List IE) (h : AH) : Bool := allB (fun p => oE false (fun e => sameE p.e e) (h.get p.i)) l
def plainH (n : Nat) (h : AH) : Bool := ite' (Nat.beq n h.next) (ite' (Nat.beq h.fb 0) (zaY h.fam) false) false
structure Card where
 args : List AV
 n : Nat
 l : List IE
 v : AV
 n' : Nat
 l' : List IE
def cardH (c : Card) : List AV → AH → VH := fun args h => grd (zdD (sameD 4) c.args args) (grd (plainH c.n h) (grd (holds c.l h)
 (some (c.v, zbu c.l' (zbX c.l ⟨c.n', h.t, 0, []⟩)))))
def zc6 (c : Card) (o : VH) : Bool := oE false (fun r => ite' (sameD 4 c.v r.1) (ite' (plainH c.n' r.2) (holds c.l' r.2) false) false) o
inductive Hook where
 | whole (k : List AV → AH → VH)
 | pre (k : List AV → AH → VH)
 | post (k : AH → List AV → AH → Option AH)
abbrev zaR := Nat → Option Hook
section
variable (I : zaR) (self : Option Nat → Code → Fr → AH → R)
def putR (fr : Fr) (d : Option Nat) (v : AV) (k : Fr → R) : R := oE (.no "put") k (fr.put d v)
def zcD : Op → Bool
 | .call c => (match c.callee with | .builtin .recover => true | _ => false)
 | _ => false
def operS (o : Oper) (fr : Fr) (h : AH) (k : Fr → AH → R) : R :=
 ite' (zcD o.op) (putR fr o.dst .inil fun fr => k fr h)
  (opE
   (fun v h => putR fr o.dst v fun fr => k fr h)
   (fun h => putR fr o.dst zaK fun fr => k fr h)
   (fun _ _ _ => .no "recover: a call beside it") (fun _ _ _ _ _ _ => .no "recover: a call beside it") (fun _ _ => .no "recover: a defer beside it") (.no "recover: beside it")
   (oE .no (fun vs => opV P o.op vs h) (mapO (fun x => ev x fr) (zbb o.op))))
def zfC (all : List Oper) (ops : List Oper) : Fr → AH → R :=
 lE (fun fr h => .ok .normal fr h)
  (fun o _ ih fr h => oE (.no o.pos)
   (fun w => ite' w (operS P o fr h ih) (putR fr o.dst zaK fun fr => ih fr h)) (zau all fr o.guard)) ops
def zfD (ops : List Oper) : Bool := lE false (fun o _ r => ite' (zcD o.op) true r) ops
def seqS (k : Fr → AH → R) (r : R) : R :=
 rE (fun x fr h => match x with | .normal => k fr h | x => .ok x fr h) (fun w => .no w) r
def runS (n : Nat) : Code → Fr → AH → R :=
 nE (fun _ _ _ => .no "S") (fun _ ih c => match c with
  | .seq a b => fun fr h => seqS (ih b) (ih a fr h)
  | .region id ops d => fun fr h => ite' (zfD ops.toList) (ite' d (.no "recover in a region that draws") (zfC P ops.toList ops.toList fr h)) (self none (.region id ops d) fr h)
  | c => self none c) n
def isEnd {α : Type} (x : XE) (y n : α) : α := match x with
 | .normal => y
 | .ret => y
 | _ => n
def bodyR (k : Code → Fr → AH → R) (f : Nat) (args : List AV) (h : AH) : Option (Func × Fr × AH) :=
 bnd (P.funcs[f]?) fun fn => bnd fn.body fun c => rE
  (fun x fr h => isEnd x (some (fn, fr, h)) none) (fun _ => none) (k c (enterF fn args) h)
def enterO (o : O) (k : Nat → List AV → AH → Option AH) : Option AH := match o with
 | .enter f args h => k f args h
 | _ => none
def collE (h : AH) (b : Nat) : Ent → Option AH
 | .dfr ds => bnd ds fun ds => grd (zaY ds) (some (h.set b (.dfr none)))
 | _ => none
def leave1 (d : ADef) (h : AH) : Option AH := match d with
 | .coll b => bnd (h.get b) fun e => collE h b e
 | .fn f capt args => enterO (zd6 P capt args h f) fun f args h => bnd (bodyR P (runS P self 60) f args h) fun r => grd (zaY r.2.1.ds) (bnd (zfB P r.2.2 r.2.1 r.1.results.toList) fun _ => some r.2.2)
def leaveA (ds : List ADef) : AH → Option AH := lE some (fun d _ ih h => bnd (leave1 P self d h) ih) ds
def callB (f : Nat) (args : List AV) (h : AH) : VH :=
 bnd (bodyR P (self none) f args h) fun r => bnd (leaveA P self r.2.1.ds r.2.2) fun h => bnd (zfB P h r.2.1 r.1.results.toList) fun v => some (v, h)
def zc7 (f : Nat) (args : List AV) (h : AH) : VH :=
 oE (callB P self f args h) (fun k => match k with
  | .whole k => k args h
  | .pre k => oE (callB P self f args h) (fun r => some r) (k args h)
  | .post k => bnd (callB P self f args h) fun r => bnd (k h args r.2) fun h' => some (r.1, h')) (I f)
def zcm (x : XE) : Option Code := match x with
 | .normal => none
 | .exit id => some (.exit id)
 | .goto l => some (.goto l)
 | .ret => some .ret
def beginE (h : AH) (l : Nat) : Ent → Option AH
 | .loop .ready pend tm nt ps a b d => some (h.set l (.loop .busy pend tm nt ps a b d))
 | _ => none
def endE (h : AH) (l : Nat) (j : Option Code) : Ent → VH
 | .loop .busy _ tm nt ps a b d => some (zbI (isNone j), h.set l (.loop (ite' (isNone j) .ready .done) j tm nt ps a b d))
 | _ => none
def isNormal (x : XE) : Bool := match x with
 | .normal => true
 | _ => false
def roundA (l : Nat) (tm : Tr AV) (nt : Nat) (asg body : Code) (h : AH) : VH :=
 rE (fun x fr h => grd (isNormal x) (bnd (h.get l) fun e => bnd (beginE h l e) fun h =>
     rE (fun x fr h => grd (isNilD fr.ds) (bnd (h.get l) fun e => endE h l (zcm x) e)) (fun _ => none) (self (some l) body fr h)))
  (fun _ => none) (self (some l) asg ⟨tm, nt, []⟩ h)
where isNilD (ds : List ADef) : Bool := zaY ds
def contR (why : String) (k : AV → AH → R) (o : VH) : R := oE (.no why) (fun x => k x.1 x.2) o
def operA (rd : Option Nat) (o : Oper) (fr : Fr) (h : AH) (k : Fr → AH → R) : R :=
 opE
  (fun v h => putR fr o.dst v fun fr => k fr h)
  (fun h => putR fr o.dst zaK fun fr => k fr h)
  (fun f args h => contR o.pos (fun v h => putR fr o.dst v fun fr => k fr h) (zc7 P I self f args h))
  (fun l tm nt asg body h => contR o.pos (fun v h => putR fr o.dst v fun fr => k fr h) (roundA self l tm nt asg body h))
  (fun d h => oE (putR ⟨fr.t, fr.nt, d :: fr.ds⟩ o.dst zaK fun fr => k fr h) (fun _ => .no "defer in a round") rd)
  (.no o.pos)
  (oE .no (fun vs => opV P o.op vs h) (mapO (fun x => ev x fr) (zbb o.op)))
def runOps (rd : Option Nat) (all : List Oper) (ops : List Oper) : Fr → AH → R :=
 lE (fun fr h => .ok .normal fr h)
  (fun o _ ih fr h => oE (.no o.pos)
   (fun w => ite' w (operA P I self rd o fr h ih) (putR fr o.dst zaK fun fr => ih fr h)) (zau all fr o.guard)) ops
def zan : Op → Bool
 | .move _ => true | .assign _ => true | .pick .. => true | .build .. => true | .load .. => true | .nilCheck _ => true
 | .binOp .. => true | .unOp .. => true | .makeInterface .. => true | .makeFunc .. => true | .slice .. => true
 | .fieldAddr .. => true | .field .. => true | .indexAddr .. => true | .index .. => true | .lookup .. => true
 | .typeAssert .. => true | .extract .. => true | .alloc _ => true | .box .. => true | .buildSlice .. => true | .makeMap _ r => isNone r
 | .convert _ d _ => oE false (fun td => Option.isSome (intD td)) (P.underlying d)
 | .call c => (match c.callee with | .builtin .len => true | _ => false)
 | .defer _ => true
 | _ => false
def zaw : Op → Bool
 | .defer _ => true
 | _ => false
def zbv (ops : List Oper) : Nat := lE 0 (fun o _ r => ite' (zaw o.op) (Nat.succ r) r) ops
def zbC : Op → Bool
 | .load .. => true | .binOp .. => true | .slice .. => true | .lookup .. => true | .call _ => true
 | _ => false
def loudOk : Op → Bool
 | .store .. => true | .convert .. => true | .makeSlice .. => true
 | .mapUpdate .. => true | .insert .. => true | .mapEntry .. => true | .entryStore .. => true | .range .. => true | .next .. => true
 | .call c => (match c.callee with | .builtin .recover => false | _ => true)
 | _ => false
def bit (m i : Nat) : Bool := Nat.beq (Nat.mod (Nat.div m (Nat.pow 2 i)) 2) 1
def zfY (e : Edge) : Bool := match e.ground with
 | .textOnly _ => false
 | .gcOnly _ => false
 | _ => true
def zdh (j : Nat) (ms : List Nat) (es : List Edge) : Option Nat :=
 lE (some 0) (fun e _ r => ite' (zfY e)
  (grd (Nat.blt e.on j) (bnd (nth ms e.on) fun m => bnd r fun s => some (Nat.lor (Nat.lor m (Nat.pow 2 e.on)) s))) r) es
def masks (ops : List Oper) : Nat → List Nat → Option (List Nat) :=
 lE (fun _ ms => some ms)
  (fun o _ ih j ms => bnd (zdh j ms o.after.toList) fun m => ih (Nat.succ j) (app ms [m])) ops
def dstIs (o : Oper) (t : Nat) : Bool := oE false (fun d => Nat.beq d t) o.dst
def zdE (j m t : Nat) (strict : Bool) (ops : List Oper) : Nat → List Nat → Bool :=
 lE (fun _ _ => true)
  (fun o _ ih i ms => lC false (fun mi mt =>
   ite' (ite' (dstIs o t) (ite' (Nat.beq i j) (ite' strict false true) (ite' (bit m i) true (ite' strict false (bit mi j)))) true) (ih (Nat.succ i) mt) false) ms) ops
def tmpOk (j m : Nat) (strict : Bool) (all : List Oper) (ms : List Nat) (x : Operand) : Bool := match x with
 | .tmp t => zdE j m t strict all 0 ms
 | _ => true
def aloneD (j t : Nat) (ops : List Oper) : Nat → Bool :=
 lE (fun _ => true) (fun o _ ih i => ite' (ite' (dstIs o t) (Nat.beq i j) true) (ih (Nat.succ i)) false) ops
def guardOk (m : Nat) (all : List Oper) (g : Option (Nat × Bool)) : Bool :=
 oE true (fun g => ite' (bit m g.1) (oE false (fun oj => zgA oj.dst) (nth all g.1)) false) g
def operOk (all : List Oper) (ms : List Nat) (j m : Nat) (o : Oper) : Bool :=
 ite' (ite' (zan P o.op) true (loudOk o.op)) (ite' (allB (tmpOk j m (zbC o.op) all ms) (zbb o.op))
  (ite' (oE true (fun d => aloneD j d all 0) o.dst) (guardOk m all o.guard) false) false) false
def opersOk (all : List Oper) (ms : List Nat) (ops : List Oper) : Nat → List Nat → Bool :=
 lE (fun _ _ => true)
  (fun o _ ih j mr => lC false (fun m mt => ite' (operOk P all ms j m o) (ih (Nat.succ j) mt) false) mr) ops
def zcP (ops : List Oper) : Nat → List Nat :=
 lE (fun _ => []) (fun o _ ih j => ite' (zan P o.op) (ih (Nat.succ j)) (j :: ih (Nat.succ j))) ops
def zel (ms : List Nat) (l : List Nat) : Bool :=
 lE true (fun i t r => ite' (lE true
  (fun j _ q => ite' (oE false (fun m => bit m i) (nth ms j)) q false) t) r false) l
def last2 (l : List Nat) : Option (List Nat × Nat × Nat) :=
 lE none
  (fun i t r => oE
   (lC none (fun j u => grd (zaY u) (some ([], i, j))) t) (fun x => some (i :: x.1, x.2.1, x.2.2)) r) l
def isStore : Op → Bool
 | .store .. => true
 | _ => false
def opAt (ops : List Oper) (j : Nat) (p : Op → Bool) : Bool := oE false (fun o => p o.op) (nth ops j)
def zdF (m : Nat) (ops : List Oper) : Nat → Bool :=
 lE (fun _ => true)
  (fun o _ ih i => ite' (ite' (zan P o.op) (ite' (zbC o.op) (bit m i) true) true) (ih (Nat.succ i)) false) ops
def noGuard (ops : List Oper) (j : Nat) : Bool := oE false (fun o => isNone o.guard) (nth ops j)
def strictAt (ops : List Oper) (ms : List Nat) (j m : Nat) : Bool := oE false (fun o => allB (tmpOk j m true ops ms) (zbb o.op)) (nth ops j)
def twinsOf (ops : List Oper) (ms : List Nat) (l : List Nat) : Option (Nat × Nat) :=
 bnd (last2 l) fun x => grd (zel ms (app x.1 [x.2.1])) (grd (zel ms (app x.1 [x.2.2])) (grd (opAt ops x.2.1 isStore) (grd (opAt ops x.2.2 isStore)
  (bnd (nth ms x.2.1) fun m1 => bnd (nth ms x.2.2) fun m2 => grd (zdF P m1 ops 0) (grd (zdF P m2 ops 0)
   (grd (noGuard ops x.2.1) (grd (noGuard ops x.2.2) (grd (strictAt ops ms x.2.1 m1) (some (x.2.1, x.2.2))))))))))
def loudIn (m : Nat) (ops : List Oper) : Nat → Nat :=
 lE (fun _ => 0) (fun o _ ih i => Nat.add (ite' (zan P o.op) 0 (ite' (bit m i) 1 0)) (ih (Nat.succ i))) ops
def zeX (j : Nat) (ops : List Oper) : List Nat → Nat :=
 lE (fun _ => 0)
  (fun o _ ih ms => lC 0 (fun m mt => Nat.add (ite' (zan P o.op) 0 (ite' (bit m j) 0 1)) (ih mt)) ms) ops
def bindsA (md : Nat) (e : Edge) : Bool := match e.ground with
 | .textOnly _ => Nat.beq md 1
 | .gcOnly _ => Nat.beq md 2
 | _ => true
def depOf (md : Nat) (es : List Edge) : Nat := lE 0 (fun e _ r => ite' (bindsA md e) (Nat.lor (Nat.pow 2 e.on) r) r) es
def zfZ (md : Nat) (ops : List Oper) : List Nat := lE [] (fun o _ r => frc (depOf md o.after.toList) fun d => d :: r) ops
def passT (ds : List Nat) : Nat → Nat → Nat :=
 lE (fun _ acc => acc)
  (fun d _ ih j acc => frc (ite' (Nat.beq (Nat.land d acc) d) (Nat.lor (Nat.pow 2 j) acc) acc) fun acc => ih (Nat.succ j) acc) ds
def passesT (ds : List Nat) (n : Nat) : Nat → Nat := nE (fun acc => acc) (fun _ ih acc => frc (passT ds 0 acc) fun acc => ih acc) n
def fullT (acc : Nat) (n : Nat) : Bool := Nat.beq (Nat.succ (Nat.mod acc (Nat.pow 2 n))) (Nat.pow 2 n)
def topo (md : Nat) (ops : List Oper) : Bool := fullT (passesT (zfZ md ops) 4 0) (len ops)
structure Plan where
 ms : List Nat
 tw : Option (Nat × Nat)
def drawMs (ops : List Oper) : Option Plan :=
 grd (Nat.ble (zbv ops) 1) <| grd (topo 0 ops) <| grd (topo 1 ops) <| grd (topo 2 ops) <| bnd (masks ops 0 []) fun ms => grd (opersOk P ops ms ops 0 ms)
  (ite' (zel ms (zcP P ops 0)) (some ⟨ms, none⟩) (bnd (twinsOf P ops ms (zcP P ops 0)) fun t => some ⟨ms, some t⟩))
def sameAV (a b : AV) : Bool := match a with
 | .agg x => (match b with | .agg y => sameL x y | _ => false)
 | .tup x => (match b with | .tup y => sameL x y | _ => false)
 | a => sameS a b
def valO : O → Option AV
 | .val v _ => some v
 | _ => none
def valIs (v : AV) (o : O) : Bool := oE false (fun u => sameAV v u) (valO o)
def opVs (o : Oper) (fr : Fr) (h : AH) : O := oE .no (fun vs => opV P o.op vs h) (mapO (fun x => ev x fr) (zbb o.op))
def stays (o : Oper) (fr : Fr) (hs : List AH) : Bool :=
 allB (fun h => oE false (fun d => valIs (fr.at_ d) (opVs P o fr h)) o.dst) hs
def between {α : Type} (l : List α) (lo hi : Nat) : Option (List α) := bnd (drp l lo) fun r => tak r (Nat.sub (Nat.succ hi) lo)
def staysAt (all : List Oper) (ms : List Nat) (fr : Fr) (hs : List AH) (j m : Nat) (o : Oper) : Bool :=
 ite' (ite' (zan P o.op) (zbC o.op) false)
  (oE false (fun w => ite' w (oE false (fun l => stays P o fr l) (between hs (loudIn P m all 0) (zeX P j all ms))) true) (zau all fr o.guard))
  true
def allStay (all : List Oper) (ms : List Nat) (fr : Fr) (hs : List AH) (ops : List Oper) : Nat → List Nat → Bool :=
 lE (fun _ _ => true)
  (fun o _ ih j mr => lC false (fun m mt => ite' (staysAt P all ms fr hs j m o) (ih (Nat.succ j) mt) false) mr) ops
structure Pend where
 j : Nat
 b : Nat
 e : Ent
def zbw (m : Nat) (ps : List Pend) (h : AH) : AH := lE h (fun p _ h => ite' (bit m p.j) (h.set p.b p.e) h) ps
def restOf (m : Nat) (ps : List Pend) : List Pend := lE [] (fun p _ r => ite' (bit m p.j) r (p :: r)) ps
def zc8 (ps : List Pend) (h : AH) : AH := lE h (fun p _ h => h.set p.b p.e) ps
def mkE (op : Op) (vs : List AV) : Option (Ent × (Nat → AV)) := match op with
 | .alloc t => bnd (zdy P t) fun z => some (.cells z.cells t true 0 [], fun b => .ptr b 0)
 | .box t _ => arg1 vs fun v => some (.cells v.cells t true 0 [], fun b => .ptr b 0)
 | .buildSlice t n ps => bnd (zga P t) fun e => grd (Nat.ble (Nat.mul n e.2) 16777216) (bnd (zcC P e.1 e.2 n) fun z => bnd (fillA (zfy e.2) (zipI ps.toList vs) z) fun l =>
   some (.cells l e.1 true 0 [], fun b => .sl b 0 n e.2))
 | .makeMap _ r => grd (isNone r) (some (.map [] 0, fun b => .map b))
 | _ => none
def zbD : Op → Bool
 | .alloc _ => true
 | .box .. => true
 | .buildSlice .. => true
 | .makeMap _ r => isNone r
 | _ => false
def anyMk (ops : List Oper) : Bool := lE false (fun o _ r => ite' (zbD o.op) true r) ops
def oldsOf : Ent → Option (List Nat)
 | .cells _ _ _ _ olds => some olds
 | _ => none
def addrOf (o : Oper) (fr : Fr) : Option Nat := bnd (mapO (fun x => ev x fr) (zbb o.op)) fun vs => arg2 vs fun a _ => ptrV a fun b _ => some b
def apart (ops : List Oper) (fr : Fr) (h : AH) (i j : Nat) : Bool :=
 zgA (bnd (nth ops i) fun o1 => bnd (nth ops j) fun o2 => bnd (addrOf o1 fr) fun b1 => bnd (addrOf o2 fr) fun b2 => bnd (bnd (h.get b1) oldsOf) fun l1 => bnd (bnd (h.get b2) oldsOf) fun l2 =>
  ite' (Nat.beq b1 b2) none (grd (zei b1 l2) (grd (zei b2 l1) (some ()))))
def noPend (m1 m2 : Nat) (ps : List Pend) : Bool := allB (fun p => ite' (bit m1 p.j) false (ite' (bit m2 p.j) false true)) ps
def before1 (hs : List AH) : Option AH := lE none (fun x t r => lC none (fun _ u => ite' (zaY u) (some x) r) t) hs
structure DS where
 fr : Fr
 h : AH
 hs : List AH
 ps : List Pend
def twinOk (pl : Plan) (ops : List Oper) (j : Nat) (s : DS) : Bool :=
 oE true (fun t => ite' (ite' (Nat.beq t.1 j) true (Nat.beq t.2 j))
  (oE false (fun m1 => oE false (fun m2 => ite' (noPend m1 m2 s.ps)
   (ite' (Nat.beq t.1 j) true (oE false (fun h => apart ops s.fr h t.1 t.2) (before1 s.hs))) false) (nth pl.ms t.2)) (nth pl.ms t.1)) true) pl.tw
def opR (o : Oper) (vs : List AV) (h : AH) : VH :=
 opE
  (fun v h => some (v, h))
  (fun h => some (zaK, h))
  (fun f args h => zc7 P I self f args h)
  (fun l tm nt asg body h => roundA self l tm nt asg body h)
  (fun _ _ => none) none (opV P o.op vs h)
def dfrO : O → Option ADef
 | .dfr d _ => some d
 | _ => none
def putS (s : DS) (d : Option Nat) (v : AV) : Option DS := bnd (s.fr.put d v) fun fr => some ⟨fr, s.h, s.hs, s.ps⟩
def drawW (base : Nat) (j m : Nat) (o : Oper) (s : DS) (vs : List AV) : Option DS :=
 ite' (zbD o.op)
  (bnd (mkE P o.op vs) fun p => frc (Nat.add base j) fun b => putS ⟨s.fr, s.h, s.hs, ⟨j, b, p.1⟩ :: s.ps⟩ o.dst (p.2 b))
  (ite' (zan P o.op)
   (ite' (zaw o.op) (bnd (dfrO (opV P o.op vs s.h)) fun d => putS ⟨⟨s.fr.t, s.fr.nt, d :: s.fr.ds⟩, s.h, s.hs, s.ps⟩ o.dst zaK)
    (bnd (valO (opV P o.op vs s.h)) fun v => putS s o.dst v))
   (bnd (opR P I self o vs (zbw m s.ps s.h)) fun r => putS ⟨s.fr, r.2, app s.hs [r.2], restOf m s.ps⟩ o.dst r.1))
def zcS (pl : Plan) (all : List Oper) (base j m : Nat) (o : Oper) (s : DS) : Option DS :=
 grd (ite' (zan P o.op) true (twinOk pl all j s)) (bnd (zau all s.fr o.guard) fun w =>
  ite' w (bnd (mapO (fun x => ev x s.fr) (zbb o.op)) fun vs => drawW P I self base j m o s vs)
   (putS ⟨s.fr, s.h, ite' (zan P o.op) s.hs (app s.hs [s.h]), s.ps⟩ o.dst zaK))
def runDraw (pl : Plan) (all : List Oper) (base : Nat) (ops : List Oper) : Nat → List Nat → DS → Option DS :=
 lE (fun _ _ s => some s)
  (fun o _ ih j ms s => lC none (fun m mt => bnd (zcS P I self pl all base j m o s) fun s => ih (Nat.succ j) mt s) ms) ops
def drawA (ops : List Oper) (fr : Fr) (h : AH) : R :=
 oE (.no "draws") (fun s => .ok .normal s.fr (zc8 s.ps s.h))
  (bnd (drawMs P ops) fun pl => frc h.next fun base => frc (Nat.add base (ite' (anyMk ops) (len ops) 0)) fun nx =>
   bnd (runDraw P I self pl ops base ops 0 pl.ms ⟨fr, ⟨nx, h.t, h.fb, h.fam⟩, [⟨nx, h.t, h.fb, h.fam⟩], []⟩) fun s =>
    grd (allStay P ops pl.ms s.fr s.hs ops 0 pl.ms) (some s))
def drawB (rnd : Option Nat) (ops : List Oper) (fr : Fr) (h : AH) : R :=
 oE (drawA P I self ops fr h) (fun _ => ite' (Nat.beq (zbv ops) 0) (drawA P I self ops fr h) (.no "defer in a round")) rnd
def rangeFuncA (rnd : Option Nat) (f : Operand) (ps : List Nat) (asg body : Code) (fr : Fr) (h : AH) : R :=
 let go (d : Nat) (mark : List ADef) (h : AH) : R :=
  h.new (.loop .ready none fr.t fr.nt ps asg body d) fun l h =>
   oE (.no "rangeFunc")
    (fun fv => opE (fun _ _ => .no "rangeFunc") (fun _ => .no "rangeFunc")
     (fun f args h => contR "rangeFunc" (fun _ h => oE (.no "rangeFunc: loop")
       (fun e => rangeEnd l ⟨fr.t, fr.nt, app mark fr.ds⟩ h e) (h.get l)) (zc7 P I self f args h))
     (fun _ _ _ _ _ _ => .no "rangeFunc") (fun _ _ => .no "rangeFunc") (.no "rangeFunc: what is called")
     (callV P fv [.func (.yield l) [] []] h)) (ev f fr)
 oE (h.new (.dfr (some [])) fun d h => go d [.coll d] h)
  (fun l0 => oE (.no "rangeFunc: around") (fun e => match e with | .loop _ _ _ _ _ _ _ d => go d [] h | _ => .no "rangeFunc: around") (h.get l0)) rnd
where
 rangeEnd (l : Nat) (fr : Fr) (h : AH) (e : Ent) : R := match e with
  | .loop st pend tm nt ps a b d => match st with
    | .busy => .no "rangeFunc: busy"
    | _ => oE (.ok .normal fr (h.set l (.loop .exhausted pend tm nt ps a b d)))
        (fun c => self rnd c fr (h.set l (.loop .exhausted pend tm nt ps a b d))) pend
  | _ => .no "rangeFunc: loop"
def seqA (rnd : Option Nat) (b : Code) (r : R) : R :=
 rE (fun x fr h => match x with | .normal => self rnd b fr h | x => .ok x fr h) (fun w => .no w) r
def blockA (id : Nat) (r : R) : R :=
 rE (fun x fr h => match x with | .exit i => ite' (Nat.beq i id) (.ok .normal fr h) (.ok (.exit i) fr h) | x => .ok x fr h) (fun w => .no w) r
def scopeA (r : R) : R := rE (fun x fr h => match x with | .goto _ => .no "goto" | x => .ok x fr h) (fun w => .no w) r
def condA (rnd : Option Nat) (a b : Code) (fr : Fr) (h : AH) (c : Option AV) : R :=
 oE (.no "cond") (fun v => match v with | .bool q => self rnd (ite' q a b) fr h | _ => .no "cond") c
def stepA (rnd : Option Nat) (c : Code) : Fr → AH → R :=
 match c with
 | .skip => fun fr h => .ok .normal fr h
 | .label _ => fun fr h => .ok .normal fr h
 | .region _ ops d => fun fr h => ite' d (drawB P I self rnd ops.toList fr h) (runOps P I self rnd ops.toList ops.toList fr h)
 | .seq a b => fun fr h => seqA self rnd b (self rnd a fr h)
 | .cond c a b => fun fr h => condA self rnd a b fr h (ev c fr)
 | .block id b => fun fr h => blockA id (self rnd b fr h)
 | .loop b => fun fr h => seqA self rnd (.loop b) (self rnd b fr h)
 | .rangeFunc f ps asg body => fun fr h => rangeFuncA P I self rnd f ps.toList asg body fr h
 | .exit id => fun fr h => .ok (.exit id) fr h
 | .goto l => fun fr h => .ok (.goto l) fr h
 | .ret => fun fr h => .ok .ret fr h
 | .scope b => fun fr h => scopeA (self rnd b fr h)
 | .refuse w => fun _ _ => .no w
end
def exec (I : zaR) (n : Nat) : Option Nat → Code → Fr → AH → R :=
 nE (fun _ _ _ _ => .no "fuel") (fun _ ih => stepA P I ih) n
def run (I : zaR) (f : Nat) (args : List AV) (h : AH) : VH := zc7 P I (exec P I 1000000) f args h
def run' (I : zaR) (f : Nat) (args : List AV) (h : AH) : R :=
 oE (.no "no function") (fun fn => oE (.no "no body") (fun c => exec P I 1000000 none c (enterF fn args) h) fn.body) (P.funcs[f]?)
end
end
end Go.Xe
end
