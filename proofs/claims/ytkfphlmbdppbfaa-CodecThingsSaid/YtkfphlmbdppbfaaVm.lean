/- A machine of values: how the code of a function goes on over lists, structs and numbers as such, without memory. Definitions. No condition. -/
import Derived.Test.YtkfphlmbdppbfaaBase
namespace Go.Proofs.Ytkfphlmbdppbfaa.Vm
open Go
set_option linter.unusedVariables false

/-- what elements of slices are -/
inductive Ty where
  | int (k : IntKind) : Ty
  | bool : Ty
  | str : Ty
  | unit : Ty
  | pair (a b : Ty) : Ty
  | list (t : Ty) : Ty
def Ty.den : Ty → Type
  | .int _ => Int
  | .bool => Bool
  | .str => ByteArray
  | .unit => Unit
  | .pair a b => a.den × b.den
  | .list t => List t.den
def Ty.zero : (t : Ty) → t.den
  | .int _ => (0 : Int)
  | .bool => false
  | .str => (⟨#[]⟩ : ByteArray)
  | .unit => ()
  | .pair a b => (a.zero, b.zero)
  | .list t => ([] : List t.den)
def Ty.size : Ty → Nat
  | .unit => 0
  | .pair a b => a.size + b.size
  | _ => 1
def kEq (a b : IntKind) : Option (PLift (a = b)) := if h : a = b then some ⟨h⟩ else none
def Ty.eq? : (a b : Ty) → Option (PLift (a = b))
  | .int k, .int k' => (kEq k k').map fun h => ⟨by rw [h.down]⟩
  | .bool, .bool => some ⟨rfl⟩
  | .str, .str => some ⟨rfl⟩
  | .unit, .unit => some ⟨rfl⟩
  | .pair a b, .pair a' b' => match Ty.eq? a a', Ty.eq? b b' with
    | some h, some h' => some ⟨by rw [h.down, h'.down]⟩
    | _, _ => none
  | .list t, .list t' => (Ty.eq? t t').map fun h => ⟨by rw [h.down]⟩
  | _, _ => none

inductive Key where
  | s (i : Nat) : Key
  | c (b j : Nat) : Key
/-- may one append to it: no; it is nil; yes (and: may no element be stored any more; is it new in this region) -/
inductive Own where
  | no : Own
  | nil : Own
  | own (sealed fresh : Bool) : Own
inductive V where
  | undef : V
  | skip : V
  | dead : V
  | int (k : IntKind) (n : Int) : V
  | bool (b : Bool) : V
  | str (s : ByteArray) : V
  | list (t : Ty) (xs : List t.den) (o : Own) : V
  | nils : V
  | alias (k : Key) : V
  | ref (b off : Nat) : V
  | nilp : V
  | elt (t : Ty) (x : t.den) (off : Nat) : V
  | ep (k : Key) (t : Ty) (i off : Nat) : V
  | fn (f : FuncId) (cap : List V) : V
  | nilf : V
  | agg (cs : List V) : V
  | tup (cs : List V) : V
abbrev Box := List V
abbrev Res := V × List Box

def nth : List V → Nat → V
  | [], _ => .undef
  | v :: _, 0 => v
  | _ :: r, n + 1 => nth r n
def sput : List V → Nat → V → List V
  | [], 0, v => [v]
  | [], n + 1, v => .undef :: sput [] n v
  | _ :: l, 0, v => v :: l
  | a :: l, n + 1, v => a :: sput l n v
def nthB : List Box → Nat → Box
  | [], _ => []
  | v :: _, 0 => v
  | _ :: r, n + 1 => nthB r n
def nthD {α : Type} (d : α) : List α → Nat → α
  | [], _ => d
  | v :: _, 0 => v
  | _ :: r, n + 1 => nthD d r n
/-- places in a tree: as quick to find as to put -/
inductive Tr (α : Type) where
  | e : Tr α
  | n (v : α) (l r : Tr α) : Tr α
namespace Tr
variable {α β γ : Type}
def get (d : α) : Tr α → Nat → α
  | .e, _ => d
  | .n v _ _, 0 => v
  | .n _ l r, j + 1 => match j % 2 with
    | 0 => l.get d (j / 2)
    | _ + 1 => r.get d (j / 2)
def sing (d : α) : Nat → Nat → α → Tr α
  | _, 0, x => .n x .e .e
  | 0, _ + 1, x => .n x .e .e
  | f + 1, j + 1, x => match j % 2 with
    | 0 => .n d (sing d f (j / 2) x) .e
    | _ + 1 => .n d .e (sing d f (j / 2) x)
def put (d : α) : Tr α → Nat → α → Tr α
  | .e, i, x => sing d i i x
  | .n _ l r, 0, x => .n x l r
  | .n v l r, j + 1, x => match j % 2 with
    | 0 => .n v (l.put d (j / 2) x) r
    | _ + 1 => .n v l (r.put d (j / 2) x)
def map : (Nat → α → β) → Tr α → Tr β
  | _, .e => .e
  | f, .n v l r => .n (f 0 v) (map (fun k => f (2 * k + 1)) l) (map (fun k => f (2 * k + 2)) r)
/-- places to a depth -/
def of : (Nat → α) → Nat → Tr α
  | _, 0 => .e
  | g, d + 1 => .n (g 0) (of (fun k => g (2 * k + 1)) d) (of (fun k => g (2 * k + 2)) d)
def val (d : α) : Tr α → α
  | .e => d
  | .n v _ _ => v
def lft : Tr α → Tr α
  | .e => .e
  | .n _ l _ => l
def rgt : Tr α → Tr α
  | .e => .e
  | .n _ _ r => r
end Tr

def Key.eqb : Key → Key → Bool
  | .s i, .s j => Nat.beq i j
  | .c b i, .c b' i' => Nat.beq b b' && Nat.beq i i'
  | _, _ => false
theorem Key.eqb_eq : ∀ {a b : Key}, Key.eqb a b = true → a = b
  | .s i, .s j, h => by rw [Nat.eq_of_beq_eq_true h]
  | .c b i, .c b' i', h => by
    simp only [Key.eqb, Bool.and_eq_true] at h
    rw [Nat.eq_of_beq_eq_true h.1, Nat.eq_of_beq_eq_true h.2]
theorem cong2 {α β γ : Type} (f : α → β → γ) {a a' : α} {b b' : β} (h : a = a') (h' : b = b') : f a b = f a' b' := by rw [h, h']
structure St where
  n : Nat
  slots : Tr V
  boxes : Tr Box
def St.get (σ : St) : Key → V
  | .s i => Tr.get .undef σ.slots i
  | .c b j => nth (Tr.get [] σ.boxes b) j
def St.put (σ : St) : Key → V → St
  | .s i, v => ⟨σ.n, Tr.put .undef σ.slots i v, σ.boxes⟩
  | .c b j, v => ⟨σ.n, σ.slots, Tr.put [] σ.boxes b (sput (Tr.get [] σ.boxes b) j v)⟩
def St.puts (σ : St) : List (Key × V) → St
  | [] => σ
  | (k, v) :: r => (σ.put k v).puts r

/-- the cells of an element -/
def toCells : (t : Ty) → t.den → List V
  | .int k, n => [.int k n]
  | .bool, b => [.bool b]
  | .str, s => [.str s]
  | .unit, _ => []
  | .pair a b, x => toCells a x.1 ++ toCells b x.2
  | .list t, xs => [.list t xs .no]
def castL {t t' : Ty} (h : t = t') (xs : List t.den) : List t'.den := h ▸ xs
def ofCells : (t : Ty) → List V → Option (t.den × List V)
  | .int k, .int k' n :: r => match kEq k' k with
    | some _ => some (n, r)
    | none => none
  | .bool, .bool b :: r => some (b, r)
  | .str, .str s :: r => some (s, r)
  | .unit, r => some ((), r)
  | .pair a b, cs => match ofCells a cs with
    | some (x, r) => match ofCells b r with
      | some (y, r') => some ((x, y), r')
      | none => none
    | none => none
  | .list t, .list t' xs .no :: r => match Ty.eq? t' t with
    | some h => some (castL h.down xs, r)
    | none => none
  | .list t, .list _ _ .nil :: r => some (([] : List t.den), r)
  | .list t, .nils :: r => some (([] : List t.den), r)
  | _, _ => none

/-- what a cell of a variable can hold -/
inductive CK where
  | int (k : IntKind) : CK
  | bool : CK
  | str : CK
  | list (t : Ty) : CK
  | ptr : CK
  | fn : CK
def CK.zero : CK → V
  | .int k => .int k 0
  | .bool => .bool false
  | .str => .str ⟨#[]⟩
  | .list t => .list t [] .nil
  | .ptr => .nilp
  | .fn => .nilf
def CK.zeroVal : CK → Value
  | .int k => .int k 0
  | .bool => .bool false
  | .str => .string ⟨#[]⟩
  | .list _ => .slice none 0 0
  | .ptr => .pointer none
  | .fn => .nilFunc
inductive Sub where
  | flat : Sub
  | slice (e : TypeId) : Sub
  | struct (fs : List (Nat × TypeId)) : Sub
  | arr (n : Nat) (e : TypeId) : Sub
/-- a type, as the machine knows it -/
structure Row where
  id : TypeId
  agg : Bool
  cks : List CK
  ty : Ty
  bytes : Nat
  sub : Sub
def noRow : Row := ⟨0, false, [], .unit, 0, .flat⟩
def rowOf : List Row → TypeId → Row
  | [], _ => noRow
  | r :: l, t => if Nat.beq r.id t then r else rowOf l t
def rowAt : List Row → TypeId → Option Row
  | [], _ => none
  | r :: l, t => if Nat.beq r.id t then some r else rowAt l t
structure Cfg where
  tab : List Row
  /-- may one append to the slice that a function hands back: 0 no; 1 yes, but store no element; 2 as it is -/
  own : FuncId → Nat
  /-- the functions that hand back a slice's elements in a row of their own: of so many cells each -/
  clone : FuncId → Nat
  /-- the temporaries to which what may be appended to is handed on -/
  mv : FuncId → List Nat
  /-- the temporaries that outlive their region -/
  keep : FuncId → List Nat
  /-- what is forgotten at a loop's head -/
  scrub : FuncId → List Bool → List Nat
  /-- into what no element is stored from a loop's head on -/
  shut : FuncId → List Bool → List Nat
  /-- to what nothing is appended from a loop's head on -/
  drop : FuncId → List Bool → List Nat

def fit : CK → V → V
  | .list t, .nils => .list t [] .nil
  | _, v => v
def fits : List CK → List V → List V
  | k :: ks, v :: vs => fit k v :: fits ks vs
  | _, vs => vs
def V.cells : V → List V
  | .agg cs => cs
  | v => [v]
def Row.shape (r : Row) (v : V) : Option (List V) :=
  match r.agg, v with
  | true, .agg cs => if Nat.beq cs.length r.cks.length then some (fits r.cks cs) else none
  | true, _ => none
  | false, .agg _ => none
  | false, .tup _ => none
  | false, v => some (fits r.cks [v])
def Row.join (r : Row) (cs : List V) : Option V :=
  match r.agg, cs with
  | true, cs => if Nat.beq cs.length r.cks.length = true then some (.agg cs) else none
  | false, [v] => some v
  | false, _ => none

inductive RM (α : Type) where
  | ret (a : α) : RM α
  | fail : RM α
  | rd (k : Key) (f : V → RM α) : RM α
  | br (b : Bool) (x y : RM α) : RM α
  | call (f : FuncId) (args : List V) (lent : List Box) (g : Res → RM α) : RM α
namespace RM
def bind {α β : Type} : RM α → (α → RM β) → RM β
  | .ret a, f => f a
  | .fail, _ => .fail
  | .rd k g, f => .rd k fun v => (g v).bind f
  | .br b x y, f => .br b (x.bind f) (y.bind f)
  | .call h a l g, f => .call h a l fun r => (g r).bind f
def guard {α : Type} (b : Bool) (x : RM α) : RM α := .br b x .fail
def opt {α β : Type} (o : Option α) (f : α → RM β) : RM β := match o with
  | some a => f a
  | none => .fail
end RM
open RM (guard opt)

def constLeaf : Value → V
  | .int k n => .int k n
  | .bool b => .bool b
  | .string s => .str s
  | .pointer none => .nilp
  | .slice none 0 0 => .nils
  | .nilFunc => .nilf
  | _ => .undef
def constV : Value → V
  | .agg cs => .agg (cs.toList.map constLeaf)
  | v => constLeaf v
abbrev WS := List (Key × V)
def opnd : Operand → RM V
  | .tmp t => .rd (.s t) .ret
  | .const v => .ret (constV v)
  | .func f => .ret (.fn f [])
  | .global _ => .fail
def isUndef : V → Bool
  | .undef => true
  | _ => false
/-- a value that came out of a place, as one to keep: what it shares is sealed -/
def noL : V → V
  | .list t xs _ => .list t xs .no
  | v => v
def shutL : V → V
  | .list t xs (.own _ f) => .list t xs (.own true f)
  | v => v
def goL : V → V
  | .list t xs (.own s _) => .list t xs (.own s true)
  | v => v
def leaveL : V → V
  | .list _ _ (.own _ _) => .dead
  | v => v
def isOld : V → Bool
  | .list _ _ (.own _ false) => true
  | _ => false
/-- what a function can hold on to -/
def simple : V → Bool
  | .agg _ => false
  | .tup _ => false
  | .fn _ _ => false
  | _ => true
def simples : List V → Bool
  | [] => true
  | v :: l => simple v && simples l
def sure : V → Bool
  | .undef => false
  | .skip => false
  | .dead => false
  | _ => true
def sures : List V → Bool
  | [] => true
  | v :: l => sure v && sures l
def isOpen : V → Bool
  | .list _ _ (.own false _) => true
  | _ => false
def isOwn : V → Bool
  | .list _ _ (.own _ _) => true
  | _ => false
def anyV (f : V → Bool) : List V → Bool
  | [] => false
  | v :: l => f v || anyV f l
def plainAt (k : Option Key) : V → RM (V × WS)
  | .list t xs (.own s f) => match k, s with
    | some k, false => .ret (.list t xs .no, [(k, .list t xs (.own true f))])
    | none, false => .fail
    | _, _ => .ret (.list t xs .no, [])
  | .agg cs => match anyV isOpen cs, k with
    | false, _ => .ret (.agg (cs.map noL), [])
    | true, some k => .ret (.agg (cs.map noL), [(k, .agg (cs.map shutL))])
    | true, none => .fail
  | .tup cs => match anyV isOpen cs, k with
    | false, _ => .ret (.tup (cs.map noL), [])
    | true, some k => .ret (.tup (cs.map noL), [(k, .tup (cs.map shutL))])
    | true, none => .fail
  | .alias k => .rd k fun v => match v with
    | .list t xs (.own false false) => .ret (.list t xs .no, [(k, .list t xs (.own true false))])
    | .list t xs (.own true false) => .ret (.list t xs .no, [])
    | _ => .fail
  | .undef => .fail
  | .skip => .fail
  | .dead => .fail
  | .ep _ _ _ _ => .fail
  | v => .ret (v, [])
def keyOf : Operand → Option Key
  | .tmp t => some (.s t)
  | _ => none
def plain (x : Operand) : RM (V × WS) := (opnd x).bind (plainAt (keyOf x))
/-- a value to be put elsewhere: what may be appended to goes along -/
def moveAt (k : Option Key) : V → RM (V × WS)
  | .agg cs => match anyV isOwn cs, k with
    | false, _ => .ret (.agg cs, [])
    | true, some k => .ret (.agg (cs.map goL), [(k, .agg (cs.map leaveL))])
    | true, none => .fail
  | .tup cs => match anyV isOwn cs, k with
    | false, _ => .ret (.tup cs, [])
    | true, some k => .ret (.tup (cs.map goL), [(k, .tup (cs.map leaveL))])
    | true, none => .fail
  | .list t xs (.own s _) => match k with
    | some k => .ret (.list t xs (.own s true), [(k, .dead)])
    | none => .fail
  | v => plainAt k v
/-- a value only to be looked at -/
def look (x : Operand) : RM V := (opnd x).bind fun v => match v with
  | .alias k => .rd k fun u => match u with
    | .list t xs (.own s false) => .ret (.list t xs .no)
    | _ => .fail
  | .list t xs _ => .ret (.list t xs .no)
  | .undef => .fail
  | .skip => .fail
  | .dead => .fail
  | v => .ret v
def lookup : WS → Key → V → V
  | [], _, v => v
  | (k', u) :: r, k, v => lookup r k (if Key.eqb k' k = true then u else v)
def overW {α : Type} (ws : WS) : RM α → RM α
  | .ret a => .ret a
  | .fail => .fail
  | .rd k f => .rd k fun v => overW ws (f (lookup ws k v))
  | .br b x y => .br b (overW ws x) (overW ws y)
  | .call f a l g => .call f a l fun r => overW ws (g r)
/-- what comes next, with these already written -/
def over {α : Type} (ws : WS) (m : RM α) : RM α := match ws with
  | [] => m
  | _ => overW ws m
def plains : List Operand → (List V → WS → RM WS) → RM WS
  | [], k => k [] []
  | x :: r, k => (plain x).bind fun v => over v.2 (plains r fun vs ws => k (v.1 :: vs) (v.2 ++ ws))
def looks : List Operand → (List V → RM WS) → RM WS
  | [], k => k []
  | x :: r, k => (look x).bind fun v => looks r fun vs => k (v :: vs)
/-- n cells of a box, to keep -/
def rdCells {α : Type} (mv : Bool) (b : Nat) : Nat → Nat → (List V → WS → RM α) → RM α
  | _, 0, k => k [] []
  | j, n + 1, k => .rd (.c b j) fun v => (match mv with
      | true => moveAt (some (.c b j)) v
      | false => plainAt (some (.c b j)) v).bind fun u => over u.2 (rdCells mv b (j + 1) n fun vs ws => k (u.1 :: vs) (u.2 ++ ws))
/-- n cells of a box are there -/
def hasCells (b : Nat) : Nat → Nat → RM WS → RM WS
  | _, 0, k => k
  | j, n + 1, k => .rd (.c b j) fun v => if isUndef v then .fail else hasCells b (j + 1) n k
/-- a whole box -/
def rdBox (b : Nat) : Nat → Nat → (List V → RM WS) → RM WS
  | _, 0, _ => .fail
  | j, n + 1, k => .rd (.c b j) fun v => if isUndef v then k [] else rdBox b (j + 1) n fun vs => k (v :: vs)
def rdBoxes : List Nat → (List Box → RM WS) → RM WS
  | [], k => k []
  | b :: r, k => rdBox b 0 200 fun cs => rdBoxes r fun bs => k (cs :: bs)
def wcells (b : Nat) : Nat → List V → WS
  | _, [] => []
  | j, v :: r => (.c b j, v) :: wcells b (j + 1) r
def dstW : Option Nat → V → WS
  | some d, v => [(.s d, v)]
  | none, _ => []
def mem : List Nat → Nat → Bool
  | [], _ => false
  | a :: l, b => Nat.beq a b || mem l b
def feeds (mv : List Nat) : Option Nat → Bool
  | some d => mem mv d
  | none => false

/-- integers -/
def intBin (op : BinOp) (k : IntKind) (a b : Int) : Option (Bool × V) :=
  match op with
  | .add => some (true, .int k (k.wrap (a + b)))
  | .sub => some (true, .int k (k.wrap (a - b)))
  | .mul => some (true, .int k (k.wrap (a * b)))
  | .quo => some (!decide (b = 0), .int k (k.wrap (a.tdiv b)))
  | .rem => some (!decide (b = 0), .int k (a.tmod b))
  | .and => some (true, .int k (bits .and k a b))
  | .or => some (true, .int k (bits .or k a b))
  | .xor => some (true, .int k (bits .xor k a b))
  | .andNot => some (true, .int k (bits .andNot k a b))
  | .shl => some (decide (0 ≤ b), .int k (k.wrap (a * 2 ^ min b.toNat k.bits)))
  | .shr => some (decide (0 ≤ b), .int k (a.fdiv (2 ^ min b.toNat k.bits)))
  | .eql => some (true, .bool (a == b))
  | .neq => some (true, .bool (a != b))
  | .lss => some (true, .bool (decide (a < b)))
  | .leq => some (true, .bool (decide (a ≤ b)))
  | .gtr => some (true, .bool (decide (a > b)))
  | .geq => some (true, .bool (decide (a ≥ b)))
def strBin (op : BinOp) (x y : ByteArray) : Option (Bool × V) :=
  match op with
  | .add => some (decide (x.size + y.size ≤ 9223372036854775807), .str (x ++ y))
  | .eql => some (true, .bool (x.toList == y.toList))
  | .neq => some (true, .bool (!(x.toList == y.toList)))
  | .lss => some (true, .bool (Op.bytesLess x.toList y.toList))
  | .leq => some (true, .bool (Op.bytesLess x.toList y.toList || x.toList == y.toList))
  | .gtr => some (true, .bool (!(Op.bytesLess x.toList y.toList || x.toList == y.toList)))
  | .geq => some (true, .bool (!Op.bytesLess x.toList y.toList))
  | _ => none
def isBoolT (r : Row) : Bool := match r.agg, r.cks with
  | false, [.bool] => true
  | _, _ => false
def isStrT (r : Row) : Bool := match r.agg, r.cks with
  | false, [.str] => true
  | _, _ => false
def isListT (r : Row) : Bool := match r.agg, r.cks with
  | false, [.list _] => true
  | _, _ => false
def isElt (tab : List Row) (s : Sub) (ty : Ty) : Bool := match s with
  | .slice e => (match rowAt tab e with
    | some er => (Ty.eq? ty er.ty).isSome
    | none => false)
  | _ => false
def isBytes (tab : List Row) (r : Row) : Bool := match r.sub with
  | .slice e => (match rowAt tab e with
    | some er => !er.agg && (match er.cks with
      | [.int .u8] => true
      | _ => false)
    | none => false)
  | _ => false
def isPtrT (r : Row) : Bool := match r.agg, r.cks with
  | false, [.ptr] => true
  | _, _ => false
def flatCk : CK → Bool
  | .int _ => true
  | .bool => true
  | .str => true
  | _ => false
def flatCks : List CK → Bool
  | [] => true
  | c :: l => flatCk c && flatCks l
def fieldEq (r : Row) (x y : V) : Option Bool := match r.agg, r.cks, x, y with
  | false, [.int _], .int k a, .int k' b => if k = k' then some (a == b) else none
  | false, [.str], .str a, .str b => some (a == b)
  | false, [.bool], .bool a, .bool b => some (a == b)
  | _, _, _, _ => none
/-- the fields of a type whose values may be compared, part by part -/
def eqFs (r : Row) : Option (List (Nat × TypeId)) := match r.agg, r.sub with
  | true, .struct fs => if flatCks r.cks then some fs else none
  | _, _ => none
def headEq (r : Row) : List V → List V → Option Bool
  | x :: _, y :: _ => fieldEq r x y
  | _, _ => none
def andEq (a : Bool) : Option Bool → Option Bool
  | some b => some (a && b)
  | none => none
def fieldsEq (tab : List Row) : Nat → Nat → List (Nat × TypeId) → List V → List V → Option Bool
  | n + 1, i, q :: fs, l, m => if Nat.beq q.1 i then
      (match rowAt tab q.2 with
      | some r => match (match eqFs r with
          | some fs' => fieldsEq tab n 0 fs' (l.take r.cks.length) (m.take r.cks.length)
          | none => headEq r l m) with
        | some a => match fs with
          | [] => some a
          | _ :: _ => andEq a (fieldsEq tab n (i + r.cks.length) fs (l.drop r.cks.length) (m.drop r.cks.length))
        | none => none
      | none => none)
    else none
  | _, _, _, _, _ => none
def binV (tab : List Row) (ck : Row) (op : BinOp) (x y : V) : Option (Bool × V) :=
  match x, y with
  | .agg xs, .agg ys => match eqFs ck with
    | some fs => match fieldsEq tab 64 0 fs xs ys with
      | some e => match op with
        | .eql => some (true, .bool e)
        | .neq => some (true, .bool (!e))
        | _ => none
      | none => none
    | none => none
  | .int k a, .int k' b => match op with
    | .shl | .shr => intBin op k a b
    | _ => if k = k' then intBin op k a b else none
  | .str a, .str b => strBin op a b
  | .bool a, .bool b => match op, isBoolT ck with
    | .eql, true => some (true, .bool (a == b))
    | .neq, true => some (true, .bool (!(a == b)))
    | _, _ => none
  | .nilp, .nilp => match op, isPtrT ck with
    | .eql, true => some (true, .bool true)
    | .neq, true => some (true, .bool false)
    | _, _ => none
  | .ref _ _, .nilp => match op, isPtrT ck with
    | .eql, true => some (true, .bool false)
    | .neq, true => some (true, .bool true)
    | _, _ => none
  | .nilp, .ref _ _ => match op, isPtrT ck with
    | .eql, true => some (true, .bool false)
    | .neq, true => some (true, .bool true)
    | _, _ => none
  | _, _ => none
def unV (op : UnOp) (x : V) : Option V :=
  match op, x with
  | .neg, .int k n => some (.int k (k.wrap (0 - n)))
  | .not, .bool b => some (.bool (!b))
  | _, _ => none
def byteAt (s : ByteArray) (i : Int) : Int := ((s.data[i.toNat]?).getD 0).toNat
def bytesOf (s : ByteArray) : List Int := s.data.toList.map fun b => (b.toNat : Int)
def strOf (l : List Int) : ByteArray := ⟨(l.map fun n => UInt8.ofNat n.toNat).toArray⟩
def fieldOf : Sub → Nat → Option (Nat × TypeId)
  | .struct fs, f => fs[f]?
  | _, _ => none
def lowOf : Option Operand → RM (Option Int)
  | none => .ret none
  | some x => (opnd x).bind fun v => match v with
    | .int _ n => .ret (some n)
    | _ => .fail
def fillAt : List V → Nat → List V → List V
  | cs, off, [] => cs
  | cs, off, v :: r => fillAt (sput cs off v) (off + 1) r
def isWhole (tab : List Row) : Sub → Bool
  | .struct _ => true
  | .arr _ e => (rowAt tab e).isSome
  | _ => false
def partOf (tab : List Row) (s : Sub) (i : Nat) : Option (Nat × Row) :=
  match s with
  | .struct fs => match fs[i]? with
    | some (off, t) => match rowAt tab t with
      | some r => some (off, r)
      | none => none
    | none => none
  | .arr _ e => match rowAt tab e with
    | some r => some (i * r.cks.length, r)
    | none => none
  | _ => none
def buildParts (tab : List Row) (s : Sub) : List (Nat × Operand) → List V → WS → (List V → WS → RM WS) → RM WS
  | [], cs, ws, k => k cs ws
  | (i, x) :: l, cs, ws, k => (opnd x).bind fun u => (moveAt (keyOf x) u).bind fun v =>
      opt (partOf tab s i) fun q => opt (q.2.shape v.1) fun ps => guard (sures ps && decide (q.1 + ps.length ≤ cs.length)) (over v.2 (buildParts tab s l (fillAt cs q.1 ps) (ws ++ v.2) k))
def elems (er : Row) : Nat → List (Nat × Operand) → (List er.ty.den → WS → RM WS) → RM WS
  | _, [], k => k [] []
  | n, (i, x) :: l, k => if Nat.beq i n then (plain x).bind fun v =>
      opt (er.shape v.1) fun ps => guard (sures ps) (match ofCells er.ty ps with
        | some (y, []) => over v.2 (elems er (n + 1) l fun ys ws => k (y :: ys) (v.2 ++ ws))
        | _ => .fail)
    else .fail
def foldInt (f : Int → Int → Int) (k : IntKind) : Int → List V → Option V
  | a, [] => some (.int k a)
  | a, .int k' b :: r => if k = k' then foldInt f k (f a b) r else none
  | _, _ => none
/-- an element with some cells new -/
def updElt (t : Ty) (x : t.den) (off : Nat) (cs : List V) : Option t.den := match ofCells t (fillAt (toCells t x) off cs) with
  | some (y, []) => some y
  | _ => none

/-- the boxes that a value leads to, however deep -/
def refs1 : V → List Nat
  | .ref b _ => [b]
  | _ => []
def refs2 : V → List Nat
  | .fn _ cap => cap.flatMap refs1
  | v => refs1 v
def refs3 : V → List Nat
  | .agg cs => cs.flatMap refs2
  | v => refs2 v
def V.refs : V → List Nat
  | .tup cs => cs.flatMap refs3
  | v => refs3 v
def addNew : List Nat → List Nat → List Nat
  | acc, [] => acc
  | acc, b :: r => if mem acc b then addNew acc r else addNew (acc ++ [b]) r
def idx : List Nat → Nat → Nat → Nat
  | [], _, n => n
  | a :: l, b, n => if Nat.beq a b then n else idx l b (n + 1)
/-- other names for boxes -/
def ren1 (f : Nat → Nat) : V → V
  | .ref b off => .ref (f b) off
  | v => v
def ren2 (f : Nat → Nat) : V → V
  | .fn g cap => .fn g (cap.map (ren1 f))
  | v => ren1 f v
def ren3 (f : Nat → Nat) : V → V
  | .agg cs => .agg (cs.map (ren2 f))
  | v => ren2 f v
def V.ren (f : Nat → Nat) : V → V
  | .tup cs => .tup (cs.map (ren3 f))
  | v => ren3 f v
def nthN : List Nat → Nat → Nat
  | [], _ => 0
  | v :: _, 0 => v
  | _ :: r, n + 1 => nthN r n
/-- an argument, as the function takes it: nothing can be appended to it -/
def V.arg : V → V
  | .list t xs _ => .list t xs .no
  | .agg cs => .agg (cs.map noL)
  | v => v
def fitArg (r : Row) (v : V) : V := match r.cks, v with
  | ks, .agg cs => .agg (fits ks cs)
  | [k], v => fit k v
  | _, v => v
def fitArgs (tab : List Row) : List TypeId → List V → List V
  | t :: ts, v :: vs => (fitArg (rowOf tab t) v).arg :: fitArgs tab ts vs
  | _, _ => []
/-- a box's cell, as it is lent -/
def V.weak : V → V
  | .list t xs .nil => .list t xs (.own false false)
  | .list t xs (.own s _) => .list t xs (.own s false)
  | v => v
def wboxes : List Nat → List Box → List (Key × V)
  | b :: bs, cs :: r => wcells b 0 cs ++ wboxes bs r
  | _, _ => []
/-- all boxes that are led to from some: read -/
def rdAll : Nat → List Nat → (List Nat → List Box → RM WS) → RM WS
  | 0, _, _ => .fail
  | n + 1, bs, k => rdBoxes bs fun l =>
      let bs' := addNew bs (l.flatMap fun cs => cs.flatMap V.refs)
      if Nat.beq bs'.length bs.length then k bs l else rdAll n bs' k
def V.go : V → V
  | .agg cs => .agg (cs.map goL)
  | .tup cs => .tup (cs.map goL)
  | v => goL v
def okCells : List V → Bool
  | [] => true
  | v :: l => !isUndef v && okCells l
/-- boxes that come back as long as they went -/
def lensOk : List Box → List Box → Bool
  | _, [] => true
  | [], _ :: _ => false
  | cs :: r, cs' :: l => Nat.beq cs.length cs'.length && (okCells cs && lensOk r l)
/-- a call: the boxes that its arguments lead to are lent -/
def callOp (dst : Option Nat) (f : FuncId) (args : List V) (ws : WS) : RM WS :=
  rdAll 5 (addNew [] (args.flatMap V.refs)) fun bs lent =>
    .call f (args.map (V.ren fun b => idx bs b 0)) (lent.map (·.map fun v => (v.ren fun b => idx bs b 0).weak)) fun r => guard (lensOk r.2 lent) (
      let fwd : Nat → Nat := fun i => if Nat.blt i bs.length then nthN bs i else dst.getD 0
      let out := r.2.map (·.map fun v => goL (v.ren fwd))
      let v := V.go (r.1.ren fwd)
      match dst, r.2.drop bs.length with
      | _, [] => .ret (ws ++ (wboxes bs out ++ dstW dst v))
      | some d, [cs] => .rd (.c d 0) fun u => if isUndef u then .ret (ws ++ (wboxes bs out ++ (wcells d 0 (cs.map fun v => goL (v.ren fwd)) ++ [(.s d, v)]))) else .fail
      | _, _ => .fail)

def evOp (cfg : Cfg) (fu : FuncId) (o : Oper) : RM WS :=
  let tab := cfg.tab
  let mv := feeds (cfg.mv fu) o.dst
  let kp := feeds (cfg.keep fu) o.dst
  match o.op with
  | .move x | .assign x => (opnd x).bind fun v =>
      let v' := match (rowOf tab o.type).cks with
        | [k] => fit k v
        | _ => v
      match mv, kp, v', keyOf x with
      | false, false, .list _ _ (.own _ _), some k => .ret (dstW o.dst (.alias k))
      | false, false, .alias k, _ => .ret (dstW o.dst (.alias k))
      | _, _, .ep k t i off, _ => .ret (dstW o.dst (.ep k t i off))
      | true, _, v', k => (moveAt k v').bind fun u => .ret (u.2 ++ dstW o.dst u.1)
      | false, _, v', k => (plainAt k v').bind fun u => .ret (u.2 ++ dstW o.dst u.1)
  | .pick c a b => (opnd c).bind fun v => match v with
      | .bool t => .br t ((plain a).bind fun u => .ret (u.2 ++ dstW o.dst u.1)) ((plain b).bind fun u => .ret (u.2 ++ dstW o.dst u.1))
      | _ => .fail
  | .alloc t => match o.dst with
      | some d => .rd (.c d 0) fun v => if isUndef v then opt (rowAt tab t) fun r => guard (!r.cks.isEmpty) (.ret (wcells d 0 (r.cks.map CK.zero) ++ [(.s d, .ref d 0)])) else .fail
      | none => .fail
  | .box t x => match o.dst with
      | some d => .rd (.c d 0) fun u => if isUndef u then (opnd x).bind fun v => (moveAt (keyOf x) v).bind fun u => opt (rowAt tab t) fun r => opt (r.shape u.1) fun cs => guard (!cs.isEmpty && sures cs) (.ret (u.2 ++ (wcells d 0 (cs.map goL) ++ [(.s d, .ref d 0)]))) else .fail
      | none => .fail
  | .build t parts => opt (rowAt tab t) fun r => guard (isWhole tab r.sub) (buildParts tab r.sub parts.toList (r.cks.map CK.zero) [] fun cs ws => .ret (ws ++ dstW o.dst (.agg cs)))
  | .buildSlice t n parts => opt (rowAt tab t) fun r => match r.sub with
      | .slice e => if Nat.beq n parts.toList.length then opt (rowAt tab e) fun er => guard (!er.cks.isEmpty && (decide (n * er.cks.length ≤ 16777216) && decide (n ≤ 16777216))) (elems er 0 parts.toList fun xs ws => .ret (ws ++ dstW o.dst (.list er.ty xs (.own false true)))) else .fail
      | _ => .fail
  | .load t x => (opnd x).bind fun p => opt (rowAt tab t) fun r => match p with
      | .ref b off => match r.agg with
          | true => rdCells mv b off r.cks.length fun cs ws => .ret (ws ++ dstW o.dst (.agg cs))
          | false => .rd (.c b off) fun v => match mv, kp, v with
            | false, false, .list _ _ (.own _ _) => .ret (dstW o.dst (.alias (.c b off)))
            | true, _, v => (moveAt (some (.c b off)) v).bind fun u => .ret (u.2 ++ dstW o.dst u.1)
            | false, _, v => (plainAt (some (.c b off)) v).bind fun u => .ret (u.2 ++ dstW o.dst u.1)
      | .elt ty x off => opt (r.join (((toCells ty x).drop off).take r.cks.length)) fun v => .ret (dstW o.dst v)
      | .ep k ty i off => .rd k fun u => match u with
          | .list t' xs (.own false false) => match Ty.eq? t' ty with
            | some h => guard (decide (i < xs.length)) (opt (r.join (((toCells ty ((castL h.down xs).getD i ty.zero)).drop off).take r.cks.length)) fun v => .ret (dstW o.dst v))
            | none => .fail
          | _ => .fail
      | _ => .fail
  | .store t x y => guard o.dst.isNone ((opnd x).bind fun p => opt (rowAt tab t) fun r => match p with
      | .ref b off => (opnd y).bind fun v => (moveAt (keyOf y) v).bind fun u => opt (r.shape u.1) fun cs => guard (sures cs) (over u.2 (hasCells b off r.cks.length (.ret (u.2 ++ wcells b off (cs.map goL)))))
      | .ep k ty i off => (plain y).bind fun v => opt (r.shape v.1) fun cs => guard (sures cs && decide (off + cs.length ≤ ty.size)) (over v.2 (.rd k fun u => match u with
          | .list t' xs (.own false false) => match Ty.eq? t' ty with
            | some h => guard (decide (i < xs.length)) (opt (updElt ty ((castL h.down xs).getD i ty.zero) off cs) fun y => .ret (v.2 ++ [(k, .list ty ((castL h.down xs).set i y) (.own false false))]))
            | none => .fail
          | _ => .fail))
      | _ => .fail)
  | .nilCheck x => (opnd x).bind fun v => match v with
      | .ref b off => .ret (dstW o.dst (.ref b off))
      | .elt t x off => .ret (dstW o.dst (.elt t x off))
      | .ep k t i off => .rd k fun u => match isOld u with
          | true => .ret (dstW o.dst (.ep k t i off))
          | false => .fail
      | .fn f cap => .ret (dstW o.dst (.fn f cap))
      | _ => .fail
  | .binOp op t x y _ => (look x).bind fun a => (look y).bind fun b => opt (binV tab (rowOf tab t) op a b) fun r => guard r.1 (.ret (dstW o.dst r.2))
  | .unOp op _ x => (opnd x).bind fun a => opt (unV op a) fun r => .ret (dstW o.dst r)
  | .convert src dst x => (look x).bind fun v => opt (rowAt tab dst) fun r => opt (rowAt tab src) fun q => match v, r.cks with
      | .int _ n, [.int k] => guard (!r.agg) (.ret (dstW o.dst (.int k (k.wrap n))))
      | .str s, [.str] => guard (isStrT r) (.ret (dstW o.dst (.str s)))
      | .str s, [.list (.int .u8)] => guard (isStrT q && isBytes tab r) (.ret (dstW o.dst (.list (.int .u8) (bytesOf s) .no)))
      | .list (.int .u8) xs _, [.str] => guard (isBytes tab q && isStrT r) (.ret (dstW o.dst (.str (strOf xs))))
      | .nils, [.str] => guard (isBytes tab q && isStrT r) (.ret (dstW o.dst (.str ⟨#[]⟩)))
      | _, _ => .fail
  | .makeFunc fn first captured => match fn, first.toList with
      | .func f, [] => plains captured.toList fun vs ws => guard (simples vs) (.ret (ws ++ dstW o.dst (.fn f vs)))
      | _, _ => .fail
  | .makeSlice t l c => opt (rowAt tab t) fun r => match r.sub with
      | .slice e => opt (rowAt tab e) fun er => guard (Nat.blt 0 er.bytes) ((opnd l).bind fun a => (opnd c).bind fun b => match a, b with
          | .int .i64 n, .int .i64 m => guard (decide (0 ≤ n) && (decide (n ≤ m) && decide (m * (er.bytes : Int) ≤ 140737488355328)))
              (.ret (dstW o.dst (.list er.ty (List.replicate n.toNat er.ty.zero) (.own false true))))
          | _, _ => .fail)
      | _ => .fail
  | .slice t x lo hi mx => opt (rowAt tab t) fun r => (plain x).bind fun v => over v.2 ((lowOf lo).bind fun l => (lowOf hi).bind fun h => (lowOf mx).bind fun m => match v.1, m with
      | .str s, none =>
          guard (isStrT r && decide (0 ≤ l.getD 0) && (decide (l.getD 0 ≤ h.getD s.size) && decide (h.getD s.size ≤ (s.size : Int)))) (.ret (v.2 ++ dstW o.dst (.str (s.extract (l.getD 0).toNat (h.getD s.size).toNat))))
      | .list ty xs _, none =>
          guard (isElt tab r.sub ty && decide (0 ≤ l.getD 0) && (decide (l.getD 0 ≤ h.getD xs.length) && decide (h.getD xs.length ≤ (xs.length : Int)))) (.ret (v.2 ++ dstW o.dst (.list ty ((xs.take (h.getD xs.length).toNat).drop (l.getD 0).toNat) .no)))
      | .list ty xs _, some m => opt h fun h =>
          guard (isElt tab r.sub ty && decide (0 ≤ l.getD 0) && (decide (l.getD 0 ≤ h) && (decide (h ≤ (xs.length : Int)) && decide (m = h)))) (.ret (v.2 ++ dstW o.dst (.list ty ((xs.take h.toNat).drop (l.getD 0).toNat) (.own true true))))
      | _, _ => .fail)
  | .fieldAddr t x f => (opnd x).bind fun p => opt (rowAt tab t) fun r => opt (fieldOf r.sub f) fun q => match p with
      | .ref b off => .ret (dstW o.dst (.ref b (off + q.1)))
      | .elt ty x off => .ret (dstW o.dst (.elt ty x (off + q.1)))
      | .ep k ty i off => .rd k fun u => match isOld u with
          | true => .ret (dstW o.dst (.ep k ty i (off + q.1)))
          | false => .fail
      | _ => .fail
  | .field t x f => (opnd x).bind fun p => opt (rowAt tab t) fun r => opt (fieldOf r.sub f) fun q => opt (rowAt tab q.2) fun qr => match p with
      | .agg cs => opt (qr.join ((cs.drop q.1).take qr.cks.length)) fun v => (plainAt none v).bind fun u => .ret (dstW o.dst u.1)
      | _ => .fail
  | .indexAddr t x i => (opnd x).bind fun p => (opnd i).bind fun n => opt (rowAt tab t) fun r => match p, n, r.sub with
      | .list ty xs _, .int _ n, .slice _ => guard (isElt tab r.sub ty && (decide (0 ≤ n) && decide (n < (xs.length : Int)))) ((plainAt (keyOf x) p).bind fun u => .ret (u.2 ++ dstW o.dst (.elt ty (xs.getD n.toNat ty.zero) 0)))
      | .alias k, .int _ n, .slice _ => .rd k fun u => match u with
          | .list ty xs (.own true false) => guard (isElt tab r.sub ty && (decide (0 ≤ n) && decide (n < (xs.length : Int)))) (.ret (dstW o.dst (.elt ty (xs.getD n.toNat ty.zero) 0)))
          | .list ty xs (.own false false) => guard (isElt tab r.sub ty && (decide (0 ≤ n) && decide (n < (xs.length : Int)))) (.ret (dstW o.dst (.ep k ty n.toNat 0)))
          | _ => .fail
      | .ref b off, .int _ n, .arr m e => opt (rowAt tab e) fun er => guard (decide (0 ≤ n) && decide (n < (m : Int))) (.ret (dstW o.dst (.ref b (off + n.toNat * er.cks.length))))
      | _, _, _ => .fail
  | .index t x i => (opnd x).bind fun p => (opnd i).bind fun n => opt (rowAt tab t) fun r => match p, n, r.sub with
      | .str s, .int _ n, .flat => guard (isStrT r && (decide (0 ≤ n) && decide (n < (s.size : Int)))) (.ret (dstW o.dst (.int .u8 (byteAt s n))))
      | .agg cs, .int _ n, .arr m e => opt (rowAt tab e) fun er => guard (decide (0 ≤ n) && decide (n < (m : Int)))
          (opt (er.join ((cs.drop (n.toNat * er.cks.length)).take er.cks.length)) fun v => (plainAt none v).bind fun u => .ret (dstW o.dst u.1))
      | _, _, _ => .fail
  | .extract x i => (opnd x).bind fun p => match p with
      | .tup cs => match nth cs i, keyOf x with
        | .undef, _ => .fail
        | .skip, _ => .fail
        | .dead, _ => .fail
        | .list t xs (.own s _), some k => .ret ((k, .tup (cs.set i .dead)) :: dstW o.dst (.list t xs (.own s true)))
        | .list _ _ (.own _ _), none => .fail
        | v, _ => .ret (dstW o.dst v)
      | _ => .fail
  | .call c => match c.callee with
      | .builtin .append => match c.args.toList, c.argTypes.toList with
          | [x, y], t :: t2 :: _ => opt (rowAt tab t) fun r => opt (rowAt tab t2) fun r2 => match r.sub with
            | .slice e => opt (rowAt tab e) fun er => guard (Nat.blt 0 er.bytes && (isListT r2 || isStrT r2)) ((opnd x).bind fun a => (look y).bind fun b =>
                let ty := er.ty
                let old : Option (List ty.den × Bool) := match a with
                  | .list t' xs (.own s _) => (Ty.eq? t' ty).map fun h => (castL h.down xs, s)
                  | .list t' xs .nil => (Ty.eq? t' ty).map fun h => (castL h.down xs, false)
                  | .nils => some ([], false)
                  | _ => none
                let new : Option (List ty.den) := match b with
                  | .list t' xs _ => (Ty.eq? t' ty).map fun h => castL h.down xs
                  | .nils => some []
                  | .str s => (Ty.eq? (.int .u8) ty).map fun h => castL (t := .int .u8) h.down (bytesOf s)
                  | _ => none
                opt old fun xs => opt new fun ys => guard (decide ((xs.1.length + ys.length) * er.bytes ≤ 140737488355328))
                  (.ret ((match a, keyOf x with
                    | .list _ _ (.own _ _), some k => [(k, V.dead)]
                    | _, _ => []) ++ dstW o.dst (.list ty (xs.1 ++ ys) (.own xs.2 true)))))
            | _ => .fail
          | _, _ => .fail
      | .builtin .len => match c.args.toList, c.argTypes.toList with
          | [x], t :: _ => opt (rowAt tab t) fun r => match r.sub with
            | .arr n _ => .ret (dstW o.dst (.int .i64 n))
            | _ => (look x).bind fun v => match v with
              | .str s => guard (isStrT r) (.ret (dstW o.dst (.int .i64 s.size)))
              | .list _ xs _ => guard (isListT r) (.ret (dstW o.dst (.int .i64 xs.length)))
              | .nils => guard (isListT r) (.ret (dstW o.dst (.int .i64 0)))
              | _ => .fail
          | _, _ => .fail
      | .builtin .max => looks c.args.toList fun vs => match vs with
          | .int k a :: r => opt (foldInt imax k a r) fun v => .ret (dstW o.dst v)
          | _ => .fail
      | .builtin .min => looks c.args.toList fun vs => match vs with
          | .int k a :: r => opt (foldInt imin k a r) fun v => .ret (dstW o.dst v)
          | _ => .fail
      | .value g => (opnd g).bind fun v => match v with
          | .fn f cap => match cfg.clone f with
              | z + 1 => looks c.args.toList fun vs => match fitArgs tab c.argTypes.toList vs, cap with
                | [.list ty xs _], [] => guard (Nat.beq ty.size (z + 1) && (Nat.beq c.args.toList.length 1 && decide (xs.length ≤ 1000000))) (.ret (dstW o.dst (.list ty xs (.own false true))))
                | _, _ => .fail
              | 0 => guard (Nat.beq c.args.toList.length c.argTypes.toList.length) (plains c.args.toList fun vs ws => callOp o.dst f (fitArgs tab c.argTypes.toList vs ++ cap) ws)
          | _ => .fail
      | _ => .fail
  | _ => .fail

/-- a test that is true whatever comes -/
abbrev chk1 (x : Option Res) : Option Res := if true = true then x else none
abbrev chk2 (x : Option Res) : Option Res := chk1 (chk1 x)
abbrev chk3 (x : Option Res) : Option Res := chk1 (chk2 x)
abbrev chk4 (x : Option Res) : Option Res := chk1 (chk3 x)
abbrev chk5 (x : Option Res) : Option Res := chk1 (chk4 x)
abbrev chk6 (x : Option Res) : Option Res := chk1 (chk5 x)
abbrev chk7 (x : Option Res) : Option Res := chk1 (chk6 x)
abbrev chk8 (x : Option Res) : Option Res := chk1 (chk7 x)
inductive X where
  | normal : X
  | exit (id : Nat) : X
abbrev Cont := X → St → Option Res
abbrev CallF := FuncId → List V → List Box → (Res → Option Res) → Option Res
abbrev LoopF := List Bool → St → Cont → Option Res

/-- a test; what was tested before shows no branch -/
abbrev tst {α : Type} (known b : Bool) (x y : α) : α := match known with
  | true => match b with
    | true => x
    | false => y
  | false => if b = true then x else y
theorem tst_eq {α : Type} (known b : Bool) (x y : α) : tst known b x y = if b = true then x else y := by cases known <;> cases b <;> rfl
/-- an operation's way, with what it reads -/
def runR {α : Type} (kn : Bool) (cf : CallF) (σ : St) : RM α → List Key → (α → List Key → Option Res) → Option Res
  | .ret a, rs, k => k a rs
  | .fail, _, _ => none
  | .rd key f, rs, k => runR kn cf σ (f (σ.get key)) (key :: rs) k
  | .br b x y, rs, k => tst kn b (runR kn cf σ x rs k) (runR kn cf σ y rs k)
  | .call f args lent g, rs, k => cf f args lent fun r => runR kn cf σ (g r) rs k

/-- what an operation read and wrote -/
structure FP where
  r : List Key
  w : List Key
def hasKey : List Key → Key → Bool
  | [], _ => false
  | a :: l, k => Key.eqb a k || hasKey l k
def meet : List Key → List Key → Bool
  | [], _ => false
  | a :: l, m => hasKey m a || meet l m
def FP.clash (a b : FP) : Bool := meet a.w b.w || (meet a.w b.r || meet a.r b.w)
def maskOf (acc : List Nat) : List Edge → Nat → Nat
  | [], m => m
  | e :: l, m => if Region.binds .any e then maskOf acc l (Nat.lor (Nat.lor m (2 ^ e.on)) (nthN acc e.on)) else maskOf acc l m
/-- each against those ahead: where they meet, one waits for the other -/
def against (mask : Nat) (a : FP) : Nat → List FP → Bool
  | _, [] => true
  | j, b :: l => (Nat.testBit mask j || !a.clash b) && against mask a (j + 1) l
/-- what an operation waits for stands ahead of it -/
def backs (n : Nat) : List Edge → Bool
  | [] => true
  | e :: l => (!Region.binds .any e || Nat.blt e.on n) && backs n l
def orderOk : List Oper → List FP → List Nat → List FP → Bool
  | o :: os, a :: l, acc, done => backs acc.length o.after.toList && against (maskOf acc o.after.toList 0) a 0 done && orderOk os l (acc ++ [maskOf acc o.after.toList 0]) (done ++ [a])
  | _, _, _, _ => true

/-- behind a region: what points into what was put there anew leads nowhere; nothing is new any more -/
def calm1 : V → V
  | .list t xs (.own s _) => .list t xs (.own s false)
  | v => v
def St.calmV (σ : St) : V → V
  | .alias k => if isOld (σ.get k) then .alias k else .dead
  | .ep k t i off => if isOld (σ.get k) then .ep k t i off else .dead
  | .tup cs => .tup (cs.map calm1)
  | .agg cs => .agg (cs.map calm1)
  | v => calm1 v
def St.calm (σ : St) : St := ⟨σ.n, σ.slots.map fun _ => σ.calmV, σ.boxes.map fun _ cs => cs.map σ.calmV⟩
def keysOf (ws : List (Key × V)) : List Key := ws.map (·.1)
def dstOf (ops : Array Oper) (j : Nat) : Option Nat := (ops[j]?).bind (·.dst)
def inRange (n : Nat) : Option Nat → Bool
  | some d => Nat.blt d n
  | none => true
def seenG (j : Nat) : List Oper → Bool
  | [] => false
  | o :: l => (match o.guard with
    | some (i, _) => Nat.beq i j
    | none => false) || seenG j l
/-- was the test of a choice made before, within the region? -/
def seenT (ops : Array Oper) (t : Nat) : List Oper → Bool
  | [] => false
  | o :: l => (match o.guard with
    | some (i, _) => (match dstOf ops i with
      | some d => Nat.beq d t
      | none => false)
    | none => false) || seenT ops t l
def knP (ops : Array Oper) (l : List Oper) (o : Oper) : Bool := match o.op with
  | .pick (.tmp t) _ _ => seenT ops t l
  | _ => false
def evOps (cfg : Cfg) (fu : FuncId) (cf : CallF) (ops : Array Oper) (draw : Bool) : List Oper → List FP → St → (St → Option Res) → Option Res
  | [], fps, σ, k => match draw with
    | true => match orderOk ops.toList fps [] [] with
      | true => k σ.calm
      | false => none
    | false => k σ.calm
  | o :: rest, fps, σ, k => match inRange σ.n o.dst with
    | false => none
    | true =>
      match o.guard with
      | none => runR (knP ops (ops.toList.take fps.length) o) cf σ (evOp cfg fu o) [] fun ws rs => evOps cfg fu cf ops draw rest (fps ++ [⟨rs, keysOf ws⟩]) (σ.puts ws) k
      | some (j, want) => match dstOf ops j with
        | none => none
        | some t => match σ.get (.s t) with
          | .bool b => tst (seenG j (ops.toList.take fps.length)) b
              (match want with
                | true => runR (knP ops (ops.toList.take fps.length) o) cf (σ.put (.s t) (.bool true)) (evOp cfg fu o) [.s t] fun ws rs => evOps cfg fu cf ops draw rest (fps ++ [⟨rs, keysOf ws⟩]) ((σ.put (.s t) (.bool true)).puts ws) k
                | false => evOps cfg fu cf ops draw rest (fps ++ [⟨[.s t], keysOf (dstW o.dst .skip)⟩]) ((σ.put (.s t) (.bool true)).puts (dstW o.dst .skip)) k)
              (match want with
                | true => evOps cfg fu cf ops draw rest (fps ++ [⟨[.s t], keysOf (dstW o.dst .skip)⟩]) ((σ.put (.s t) (.bool false)).puts (dstW o.dst .skip)) k
                | false => runR (knP ops (ops.toList.take fps.length) o) cf (σ.put (.s t) (.bool false)) (evOp cfg fu o) [.s t] fun ws rs => evOps cfg fu cf ops draw rest (fps ++ [⟨rs, keysOf ws⟩]) ((σ.put (.s t) (.bool false)).puts ws) k)
          | .skip => evOps cfg fu cf ops draw rest (fps ++ [⟨[.s t], keysOf (dstW o.dst .skip)⟩]) (σ.puts (dstW o.dst .skip)) k
          | _ => none

/-- what is forgotten at a loop's head -/
def scV (bad : List Nat) (v : V) : V := if (v.refs).any (mem bad) then .dead else v
def V.shut : V → V
  | .list t xs (.own _ f) => .list t xs (.own true f)
  | v => v
def V.weak2 : V → V
  | .agg cs => .agg (cs.map V.weak)
  | v => v.weak
def V.shut2 : V → V
  | .agg cs => .agg (cs.map V.shut)
  | v => v.shut
def V.noL2 : V → V
  | .agg cs => .agg (cs.map noL)
  | v => noL v
def headV (sl dr : List Nat) (i : Nat) (v : V) : V := if mem dr i then v.noL2 else if mem sl i then v.weak2.shut2 else v.weak2
def St.scrub (σ : St) (bad : List Nat) : St := ⟨σ.n, σ.slots.map fun i v => if mem bad i = true then .undef else scV bad v, σ.boxes.map fun i cs => if mem bad i = true then [] else cs.map (scV bad)⟩
def St.weaken (σ : St) (sl dr : List Nat) : St := ⟨σ.n, σ.slots.map (headV sl dr), σ.boxes.map fun i cs => cs.map (headV sl dr i)⟩
def St.head (σ : St) (bad sl dr : List Nat) : St := (σ.scrub bad).calm.weaken sl dr

abbrev kSeq (e : St → Cont → Option Res) (K : Cont) : Cont := fun x σ => match x with
  | .normal => e σ K
  | x => K x σ
abbrev kBlock (id : Nat) (K : Cont) : Cont := fun x σ => match x with
  | .normal => K .normal σ
  | .exit i => match Nat.beq i id with
    | true => K .normal σ
    | false => K (.exit i) σ
abbrev kLoop (hd : St → St) (again : St → Cont → Option Res) (K : Cont) : Cont := fun x σ => match x with
  | .normal => again (hd σ) K
  | .exit i => K (.exit i) (hd σ)
def Cfg.head (cfg : Cfg) (fu : FuncId) (p : List Bool) (σ : St) : St := σ.head (cfg.scrub fu p) (cfg.shut fu p) (cfg.drop fu p)
def evC (cfg : Cfg) (fu : FuncId) (cf : CallF) (lf : LoopF) (kret : St → Option Res) : Code → List Bool → St → Cont → Option Res
  | .skip, _, σ, K => K .normal σ
  | .label _, _, σ, K => K .normal σ
  | .region _ ops draw, _, σ, K => evOps cfg fu cf ops draw ops.toList [] σ (K .normal)
  | .seq a b, p, σ, K => evC cfg fu cf lf kret a (p ++ [false]) σ (kSeq (evC cfg fu cf lf kret b (p ++ [true])) K)
  | .cond c a b, p, σ, K => match c with
    | .tmp t => match σ.get (.s t) with
      | .bool v => if v = true then evC cfg fu cf lf kret a (p ++ [false]) (σ.put (.s t) (.bool true)) K else evC cfg fu cf lf kret b (p ++ [true]) (σ.put (.s t) (.bool false)) K
      | _ => none
    | .const (.bool v) => match v with
      | true => evC cfg fu cf lf kret a (p ++ [false]) σ K
      | false => evC cfg fu cf lf kret b (p ++ [true]) σ K
    | _ => none
  | .block id b, p, σ, K => evC cfg fu cf lf kret b (p ++ [false]) σ (kBlock id K)
  | .scope b, p, σ, K => evC cfg fu cf lf kret b (p ++ [false]) σ K
  | .loop _, p, σ, K => lf p (cfg.head fu p σ) K
  | .exit id, _, σ, K => K (.exit id) σ
  | .ret, _, σ, _ => kret σ
  | _, _, _, _ => none

def codeAt : Code → List Bool → Option Code
  | c, [] => some c
  | .seq a _, false :: p => codeAt a p
  | .seq _ b, true :: p => codeAt b p
  | .cond _ a _, false :: p => codeAt a p
  | .cond _ _ b, true :: p => codeAt b p
  | .block _ b, false :: p => codeAt b p
  | .scope b, false :: p => codeAt b p
  | .loop b, false :: p => codeAt b p
  | _, _ => none

/-- the results of a function, out of its state -/
def resM (tab : List Row) : List ResultVar → (List V → WS → RM (List V × WS)) → RM (List V × WS)
  | [], k => k [] []
  | .tmp t :: l, k => .rd (.s t) fun v => guard (sure v) ((moveAt (some (.s t)) v).bind fun u => over u.2 (resM tab l fun vs ws => k (u.1 :: vs) (u.2 ++ ws)))
  | .cell a t :: l, k => .rd (.s a) fun p => match p with
      | .ref b off => opt (rowAt tab t) fun r => match r.agg with
          | true => rdCells true b off r.cks.length fun cs ws1 => resM tab l fun vs ws => k (.agg cs :: vs) (ws1 ++ ws)
          | false => .rd (.c b off) fun v => guard (sure v) ((moveAt (some (.c b off)) v).bind fun u => over u.2 (resM tab l fun vs ws => k (u.1 :: vs) (u.2 ++ ws)))
      | _ => .fail
def resOwn (own : Nat) (t : Ty) (xs : List t.den) : Own → V
  | .no => .list t xs .no
  | .nil => match own with
    | 0 => .list t xs .no
    | 1 => .list t xs (.own true false)
    | _ => .list t xs (.own false false)
  | .own s _ => match own with
    | 0 => .list t xs .no
    | 1 => .list t xs (.own true false)
    | _ => .list t xs (.own s false)
def V.res1 (own : Nat) : V → V
  | .list t xs o => resOwn own t xs o
  | v => v
def V.res (own : Nat) : V → V
  | .list t xs o => resOwn own t xs o
  | .agg cs => .agg (cs.map (V.res1 own))
  | .tup cs => .tup (cs.map fun v => match v with
    | .list t xs o => resOwn own t xs o
    | v => v.arg)
  | v => v
/-- boxes that are handed out -/
def outBoxes (σ : St) (n : Nat) : Nat → List Box
  | 0 => []
  | m + 1 => Tr.get [] σ.boxes n :: outBoxes σ (n + 1) m
/-- no way leads to a box of the call's own -/
def noOwn (n m : Nat) (cs : Box) : Bool := cs.all fun v => (v.refs).all fun b => !Nat.blt b n && Nat.blt b (n + m)
def noTups : List V → Bool
  | [] => true
  | .tup _ :: _ => false
  | _ :: l => noTups l
def one (vs : List V) : V := match vs with
  | [v] => v
  | vs => .tup vs
def finish2 (own m : Nat) (σ : St) (vs : List V) : Option Res :=
    let v := one vs
    let lent := outBoxes σ σ.n m
    if (lent.all (noOwn σ.n m) && (((v.refs).all fun b => Nat.blt b (σ.n + m)) && noTups vs)) = true then
      match addNew [] ((v.refs).filter fun b => Nat.blt b σ.n) with
      | [] => some ((v.ren fun b => b - σ.n).res own, lent.map (·.map fun v => (v.ren fun b => b - σ.n).res1 own))
      | [d] => if noOwn σ.n m (Tr.get [] σ.boxes d) = true then some ((v.ren fun b => if Nat.blt b σ.n then m else b - σ.n).res own, (lent ++ [Tr.get [] σ.boxes d]).map (·.map fun v => (v.ren fun b => b - σ.n).res1 own)) else none
      | _ => none
    else none
def noCall : CallF := fun _ _ _ _ => none
def finish (fn : Func) (own : Nat) (tab : List Row) (m : Nat) (σ : St) : Option Res :=
  runR false noCall σ (resM tab fn.results.toList fun vs ws => .ret (vs, ws)) [] fun r _ => finish2 own m (σ.puts r.2) r.1
def enterSt (fn : Func) (args : List V) (lent : List Box) : St :=
  ⟨fn.ntmps, Tr.of (nth (args.map (V.ren fun b => b + fn.ntmps))) (Nat.log2 fn.ntmps + 1),
    Tr.of (fun b => match Nat.blt b fn.ntmps with
      | true => []
      | false => nthB (lent.map (·.map (V.ren fun b => b + fn.ntmps))) (b - fn.ntmps)) (Nat.log2 (fn.ntmps + lent.length) + 1)⟩
abbrev kEnd (kret : St → Option Res) : Cont := fun x σ => match x with
  | .normal => kret σ
  | _ => none
def kRet (fn : Func) (own : Nat) (tab : List Row) (m : Nat) (κ : Res → Option Res) (σ : St) : Option Res := match finish fn own tab m σ with
  | some r => κ r
  | none => none
def evFn (P : Program) (cfg : Cfg) (cf : CallF) (lf : LoopF) (f : FuncId) (args : List V) (lent : List Box) (κ : Res → Option Res) : Option Res :=
  match P.funcs[f]? with
  | none => none
  | some fn => match fn.body with
    | none => none
    | some c => match Nat.ble args.length fn.ntmps with
      | true => evC cfg f cf lf (kRet fn (cfg.own f) cfg.tab lent.length κ) c [] (enterSt fn args lent) (kEnd (kRet fn (cfg.own f) cfg.tab lent.length κ))
      | false => none
def evLp (P : Program) (cfg : Cfg) (cf : CallF) (lf : LoopF) (f : FuncId) (m : Nat) (κ : Res → Option Res) (p : List Bool) (σ : St) (K : Cont) : Option Res :=
  match P.funcs[f]? with
  | none => none
  | some fn => match fn.body with
    | none => none
    | some c => match codeAt c p with
      | some (.loop b) => evC cfg f cf lf (kRet fn (cfg.own f) cfg.tab m κ) b (p ++ [false]) σ (kLoop (cfg.head f p) (lf p) K)
      | _ => none
structure Ev where
  call : CallF
  loop : FuncId → Nat → (Res → Option Res) → LoopF
/-- a function's way, with so many rounds and calls deep -/
def ev (P : Program) (cfg : Cfg) : Nat → Ev
  | 0 => ⟨fun _ _ _ _ => none, fun _ _ _ _ _ _ => none⟩
  | k + 1 => ⟨fun f args lent κ => evFn P cfg (ev P cfg k).call ((ev P cfg k).loop f lent.length κ) f args lent κ,
      fun f m κ p σ K => evLp P cfg (ev P cfg k).call ((ev P cfg k).loop f m κ) f m κ p σ K⟩
theorem ev_call (P : Program) (cfg : Cfg) (k : Nat) (f : FuncId) (args : List V) (lent : List Box) (κ : Res → Option Res) :
    (ev P cfg (k + 1)).call f args lent κ = evFn P cfg (ev P cfg k).call ((ev P cfg k).loop f lent.length κ) f args lent κ := rfl
theorem ev_call' (P : Program) (cfg : Cfg) (k : Nat) (f : FuncId) (m : Nat) (args : List V) (lent : List Box) (κ : Res → Option Res) (h : lent.length = m) :
    (ev P cfg (k + 1)).call f args lent κ = evFn P cfg (ev P cfg k).call ((ev P cfg k).loop f m κ) f args lent κ := by subst h; rfl
theorem ev_loop (P : Program) (cfg : Cfg) (k : Nat) (f : FuncId) (m : Nat) (κ : Res → Option Res) (p : List Bool) (σ : St) (K : Cont) :
    (ev P cfg (k + 1)).loop f m κ p σ K = evLp P cfg (ev P cfg k).call ((ev P cfg k).loop f m κ) f m κ p σ K := rfl
end Go.Proofs.Ytkfphlmbdppbfaa.Vm
