import Derived.CallsIn
import Derived.WalkKit
import Derived.KernelRfl
import Derived.LoopNIn
set_option linter.unusedVariables false
set_option linter.unusedSimpArgs false
set_option linter.unusedSectionVars false
namespace Go.Proofs.VL
open Go Go.RowKit
def scal : Value → Bool
  | .bool _ | .int _ _ | .float _ _ | .string _ | .pointer none | .map none | .nilFunc | .nilIface => true
  | .func (.func _) f c => f.isEmpty && c.isEmpty
  | .slice (some _) _ _ => true
  | .iface _ v => match v with | .int _ _ | .string _ | .bool _ => true | _ => false
  | _ => false
inductive D where
  | sc (v : Value)
  | nl
  | sl (xs : List (List D))
  deriving Inhabited
inductive Loc where
  | s (t : Nat)
  | c (t i : Nat)
  deriving DecidableEq
abbrev RawP := World → (Nat → Nat → Prop) → (Nat → Nat → Prop) → Value → Prop
abbrev OwnP := World → (Nat → Nat → Prop) → (Nat → Nat → Prop) → (Nat → Prop) → List Value → Value → Prop
inductive V where
  | d (x : D)
  | ag (cs : List V)
  | tu (vs : List V)
  | row (m : Bool) (e : Nat) (xs : List (List D))
  | bx (e : Nat) (cs : List V)
  | mp (t : Nat) (es : List (List D × List D))
  | rp (cs : List D) (off : Nat)
  | ref (l : Loc)
  | fld (l : Loc) (off : Nat)
  | elt (l : Loc) (x : Nat)
  | sub (l : Loc) (i o n : Nat)
  | it (t : Nat) (todo : List (List D × List D)) (cur : Option (List D × List D))
  | fn (f : Nat) (caps : List V)
  | raw (p : RawP)
  | ob (ls : List Loc) (p : OwnP)
  | kt
  | kf
  deriving Inhabited
abbrev Env := List (Loc × V)
def lq : Loc → Loc → Bool
  | .s a, .s b => Nat.beq a b
  | .c a i, .c b j => Nat.beq a b && Nat.beq i j
  | _, _ => false
inductive TKind where
  | sca | int (k : IntKind) | bool | str | slice (e : Nat) | map (k v : Nat) | struct (offs : List Nat) (ts : List Nat) | array (n e : Nat) | ptr (e : Nat) | func | other
structure TI where
  size : Nat
  bytes : Nat
  eq : Bool
  zero : List D
  kind : TKind
def TI.agg (t : TI) : Bool := match t.kind with | .struct _ _ | .array _ _ => true | _ => false
def TI.one (t : TI) : Bool := match t.kind with | .struct _ _ | .array _ _ | .other => false | _ => true
def toD : Value → Option D
  | .slice none 0 0 => some .nl
  | v => if scal v then some (.sc v) else none
def toDs : List Value → Option (List D)
  | [] => some []
  | v :: vs => match toD v, toDs vs with | some d, some ds => some (d :: ds) | _, _ => none
def kindOf : TypeDesc → TKind
  | .int k => .int k | .bool => .bool | .string => .str | .slice e => .slice e | .map k v => .map k v
  | .struct fs => if fs.toList.all (fun f => !(f.name == "_")) then .struct (fs.toList.map (·.offset)) (fs.toList.map (·.type)) else .other | .array n e => .array n e | .pointer e => .ptr e | .func _ _ _ => .func | _ => .sca
def mkTI (P : Program) (t : Nat) : Option TI :=
  match P.info? t, P.underlying t with
  | some i, some d => match i.zero with
    | some z => match toDs z.cells.toList with
      | some zs => if zs.length = i.size then some ⟨i.size, i.bytes, !P.stoodInHeld t && !P.eqGuardType P.depth t, zs, kindOf d⟩ else none
      | none => none
    | none => none
  | _, _ => none
def look (E : Env) (l : Loc) : Option V :=
  match E with
  | [] => none
  | (k, v) :: E => match lq k l with | true => some v | false => look E l
def menL (l : Loc) : List Loc → Bool
  | [] => false
  | k :: ks => lq l k || menL l ks
mutual
def V.men (l : Loc) : V → Bool
  | .d _ | .row .. | .mp .. | .it .. | .rp .. | .raw _ | .kt | .kf => false
  | .ag cs | .tu cs | .bx _ cs | .fn _ cs => mens l cs
  | .ob ls _ => menL l ls
  | .ref k | .fld k _ | .elt k _ | .sub k _ _ _ => lq k l
def mens (l : Loc) : List V → Bool
  | [] => false
  | v :: vs => v.men l || mens l vs
end
def anyOf (l : Loc) : Env → Bool
  | [] => false
  | (k, v) :: E => lq k l || v.men l || anyOf l E
def purge (l : Loc) : Env → Env
  | [] => []
  | (k, v) :: E => match lq k l || v.men l with | true => purge l E | false => (k, v) :: purge l E
def put (l : Loc) (v : V) (E : Env) : Env := match anyOf l E with | true => (l, v) :: purge l E | false => (l, v) :: E
def force {α : Type} : Env → (Env → α) → α
  | [], k => k []
  | p :: E, k => force E fun E' => k (p :: E')
def forceL {α : Type} : List V → (List V → α) → α
  | [], k => k []
  | v :: vs, k => forceL vs fun vs' => k (v :: vs')
def forceV {α : Type} (v : V) (k : V → α) : α := match v with
  | .ag cs => forceL cs fun cs' => k (.ag cs')
  | .bx e cs => forceL cs fun cs' => k (.bx e cs')
  | .tu cs => forceL cs fun cs' => k (.tu cs')
  | .fn f cs => forceL cs fun cs' => k (.fn f cs')
  | v => k v
def upd (l : Loc) (v : V) : Env → Env
  | [] => []
  | (k, u) :: E => match lq k l with | true => (k, v) :: E | false => (k, u) :: upd l v E
def constV : Value → Option V
  | .slice none 0 0 => some (.d .nl)
  | .agg cs => (match toDs cs.toList with | some ds => some (.ag (ds.map .d)) | none => none)
  | v => if scal v then some (.d (.sc v)) else none
def getO (E : Env) : Operand → Option V
  | .tmp t => look E (.s t)
  | .const v => constV v
  | .func f => some (.fn f [])
  | .global _ => none
def owner (E : Env) : Nat → Loc → Option (Loc × V)
  | 0, _ => none
  | k + 1, l => match look E l with
    | some (.ref l') => owner E k l'
    | some v => some (l, v)
    | none => none
def own (E : Env) (l : Loc) : Option (Loc × V) := owner E 8 l
def isOwned : V → Bool | .row .. | .bx .. | .mp .. | .it .. | .ob .. => true | _ => false
mutual
def plain : V → Bool
  | .d _ | .rp .. | .ref _ | .fld .. | .elt .. | .sub .. | .raw _ | .kt | .kf => true
  | .fn _ cs | .ag cs => plains cs
  | .tu _ | .row .. | .bx .. | .mp .. | .it .. | .ob .. => false
def plains : List V → Bool
  | [] => true
  | v :: vs => plain v && plains vs
end
def copyAt (l : Loc) (v : V) : Option V := match isOwned v with
  | true => some (.ref l)
  | false => (match plain v with | true => some v | false => none)
def copyO (E : Env) : Operand → Option V
  | .tmp t => (match look E (.s t) with | some v => copyAt (.s t) v | none => none)
  | x => getO E x
inductive Ptr where
  | box (l : Loc) (e : Nat) (cs : List V) (off : Nat)
  | ro (cs : List D) (off : Nat)
def ptrAt (E : Env) (l : Loc) (o : Nat) : Option Ptr := match own E l with
  | some (l', .bx e cs) => some (.box l' e cs o)
  | some (_, .rp cs o') => some (.ro cs (o' + o))
  | _ => none
def ptrO (E : Env) : Operand → Option Ptr
  | .tmp t => (match look E (.s t) with
    | some (.fld l o) => ptrAt E l o
    | some _ => ptrAt E (.s t) 0
    | none => none)
  | _ => none
def nonNil (E : Env) : Operand → Bool
  | .tmp t => (match look E (.s t) with
    | some (.fld _ _) | some (.elt _ _) => true
    | some _ => (match own E (.s t) with | some (_, .bx _ _) | some (_, .rp _ _) | some (_, .fn _ _) => true | _ => false)
    | none => false)
  | _ => false
def lenV : V → Option (List (List D))
  | .d (.sl xs) => some xs
  | .d .nl => some []
  | .row _ _ xs => some xs
  | _ => none
def lenO (E : Env) : Operand → Option (List (List D))
  | .tmp t => (match own E (.s t) with | some (_, v) => lenV v | none => none)
  | x => (match getO E x with | some v => lenV v | none => none)
def boolV : V → Option Bool | .d (.sc (.bool b)) => some b | .kt => some true | .kf => some false | _ => none
def cellsV : V → List V | .ag cs => cs | v => [v]
def take (l : Loc) (E : Env) : Env := match look E l with
  | some (.ref l1) => (match own E l1 with
    | some (l', .row m e xs) => upd l' (.ref l) (upd l (.row m e xs) E)
    | some (l', .mp k es) => upd l' (.ref l) (upd l (.mp k es) E)
    | _ => E)
  | _ => E
def splice (cs : List V) (o : Nat) (vs : List V) : List V := match o, cs with
  | 0, cs => vs ++ cs.drop vs.length
  | o + 1, c :: cs => c :: splice cs o vs
  | _, [] => []
def cut (cs : List V) (o n : Nat) : List V := (cs.drop o).take n
def cmpI : BinOp → Int → Int → Option Bool
  | .eql, a, b => some (a == b) | .neq, a, b => some (!(a == b)) | .lss, a, b => some (decide (a < b)) | .leq, a, b => some (decide (a ≤ b))
  | .gtr, a, b => some (decide (b < a)) | .geq, a, b => some (decide (b ≤ a)) | _, _, _ => none
def arI (k : IntKind) : BinOp → Int → Int → Option Int
  | .add, a, b => some (k.wrap (a + b)) | .sub, a, b => some (k.wrap (a - b)) | .mul, a, b => some (k.wrap (a * b)) | _, _, _ => none
variable (τ : Nat → Option TI)
def ofCells (ti : TI) (cs : List V) : Option V := match ti.agg with
  | true => some (.ag cs)
  | false => (match ti.one with | true => (match cs with | [c] => some c | _ => none) | false => none)
def eqF (f : Nat → List V → List V → Option Bool) : List Nat → List Nat → List V → List V → Option Bool
  | [], [], _, _ => some true
  | o :: os, t :: ts, xs, ys => (match τ t with
    | some ui => (match f t (cut xs o ui.size) (cut ys o ui.size), eqF f os ts xs ys with | some r, some s => some (r && s) | _, _ => none)
    | none => none)
  | _, _, _, _ => none
def eqT : Nat → Nat → List V → List V → Option Bool
  | 0, _, _, _ => none
  | d + 1, t, xs, ys => match τ t with
    | some ti => (match ti.kind with
      | .struct offs ts => (match ti.eq with | true => eqF τ (eqT d) offs ts xs ys | false => none)
      | .int _ => (match xs, ys with | [.d (.sc (.int k a))], [.d (.sc (.int k' b))] => if k = k' then some (a == b) else none | _, _ => none)
      | .bool => (match xs, ys with | [.d (.sc (.bool a))], [.d (.sc (.bool b))] => some (a == b) | _, _ => none)
      | .str => (match xs, ys with | [.d (.sc (.string a))], [.d (.sc (.string b))] => some (a == b) | _, _ => none)
      | _ => none)
    | none => none
def binV (op : BinOp) (t : Nat) (a b : V) : Option V := match a, b with
  | .d (.sc (.int k x)), .d (.sc (.int k' y)) => if k = k' then (match cmpI op x y with | some r => some (.d (.sc (.bool r))) | none => (match arI k op x y with | some r => some (.d (.sc (.int k r))) | none => none)) else none
  | .d (.sc (.bool x)), .d (.sc (.bool y)) => (match τ t with
    | some ti => (match ti.kind, op with
      | .bool, .eql => some (.d (.sc (.bool (x == y))))
      | .bool, .neq => some (.d (.sc (.bool (!(x == y)))))
      | _, _ => none)
    | none => none)
  | .d (.sc (.string x)), .d (.sc (.string y)) => (match op with
    | .eql => some (.d (.sc (.bool (x == y))))
    | .neq => some (.d (.sc (.bool (!(x == y)))))
    | _ => none)
  | .ag xs, .ag ys => (match τ t with
    | some ti => (match ti.agg, ti.eq, eqT τ 100 t xs ys, op with
      | true, true, some r, .eql => some (.d (.sc (.bool r)))
      | true, true, some r, .neq => some (.d (.sc (.bool (!r))))
      | _, _, _, _ => none)
    | none => none)
  | _, _ => none
def fillParts (E : Env) (place : Nat → Option (Nat × Nat)) : List V → List (Nat × Operand) → Option (List V)
  | cs, [] => some cs
  | cs, (i, x) :: ps => match place i, copyO E x with
    | some (o, n), some v => (match (cellsV v).length == n && Nat.ble (o + n) cs.length with | true => fillParts E place (splice cs o (cellsV v)) ps | false => none)
    | _, _ => none
def capsO (E : Env) : List Operand → Option (List V)
  | [] => some []
  | x :: xs => match copyO E x, capsO E xs with | some v, some vs => some (v :: vs) | _, _ => none
def fieldV (E : Env) : Operand → Nat → Option V
  | .tmp u, off => (match look E (.s u) with
    | some (.fld l o') => some (.fld l (o' + off))
    | some (.elt l o') => some (.elt l (o' + off))
    | some _ => (match own E (.s u) with | some (l, .bx _ _) => some (.fld l off) | some (_, .rp cs o') => some (.rp cs (o' + off)) | _ => none)
    | none => none)
  | _, _ => none
def allT : List Nat → Bool
  | [] => true
  | t :: ts => match τ t with | some _ => allT ts | none => false
def setO (n : Nat) (K : List Nat) (dst : Option Nat) (v : V) (E : Env) : Option Env := match dst with
  | none => some E
  | some d => match Nat.blt d n && !(K.contains d) && !(v.men (.s d)) with
    | true => (match put (.s d) v E with | p :: E' => some (p :: E') | [] => none)
    | false => none
def movable : V → Bool | .row .. | .mp .. => true | _ => false
def bringAt (t i : Nat) (E : Env) : Env := match look E (.s t) with
  | some (.bx b cs) => (match cs[i]? with
    | some (.ref l) => (match own E l with
      | some (l', v) => (match movable v && !(lq l' (.c t i)) with
        | true => (match anyOf (.c t i) E with
          | false => forceL (splice cs i [.ref (.c t i)]) fun cs' => (.c t i, v) :: upd l' (.ref (.c t i)) (upd (.s t) (.bx b cs') E)
          | true => forceL (splice cs i [.ref (.c t i)]) fun cs' => (.c t i, v) :: upd l' (.ref (.c t i)) (upd (.s t) (.bx b cs') (purge (.c t i) E)))
        | false => E)
      | none => E)
    | _ => E)
  | _ => E
def bring (t : Nat) : Nat → Nat → Env → Env
  | _, 0, E => E
  | i, k + 1, E => force (bringAt t i E) fun E' => bring t (i + 1) k E'
def isRef : V → Bool | .ref _ => true | _ => false
def bringIf (b : Bool) (t i k : Nat) (E : Env) : Env := match b with | true => bring t i k E | false => E
def pickO (E : Env) : Operand → Option V
  | .const (.bool true) => some .kt
  | .const (.bool false) => some .kf
  | x => copyO E x
def tupO (E : Env) : Operand → Option V
  | .tmp t => (match look E (.s t) with | some (.tu vs) => (match plains vs with | true => some (.tu vs) | false => none) | _ => none)
  | _ => none
def valO (E : Env) (o : Oper) : Option V :=
  match o.op with
  | .move x => (match copyO E x with | some v => some v | none => tupO E x)
  | .assign x => (match x with
    | .const (.slice none 0 0) => (match τ o.type with
      | some ti => (match ti.kind with | .slice e => some (.row true e []) | _ => none)
      | none => none)
    | x => copyO E x)
  | .pick c a b => (match getO E c with
    | some .kt => pickO E a
    | some .kf => pickO E b
    | _ => none)
  | .alloc e => (match τ e with | some ti => some (.bx e (ti.zero.map .d)) | none => none)
  | .box e x => (match copyO E x, τ e with
    | some v, some ti => (match (cellsV v).length == ti.size with | true => some (.bx e (cellsV v)) | false => none)
    | _, _ => none)
  | .build t ps => (match τ t with
    | some ti => (match ti.kind with
      | .struct offs ts => (match allT τ ts with | false => none | true => match fillParts E (fun i => match offs[i]?, ts[i]? with | some o, some u => (match τ u with | some ui => some (o, ui.size) | none => none) | _, _ => none) (ti.zero.map .d) ps.toList with
        | some cs => some (.ag cs) | none => none)
      | .array _ e => (match τ e with
        | some ui => (match fillParts E (fun i => some (i * ui.size, ui.size)) (ti.zero.map .d) ps.toList with | some cs => some (.ag cs) | none => none)
        | none => none)
      | _ => none)
    | none => none)
  | .load t a => (match ptrO E a, τ t with
    | some (.box _ _ cs off), some ti => (match (cut cs off ti.size).length == ti.size && plains (cut cs off ti.size), ofCells ti (cut cs off ti.size) with
      | true, some v => some v
      | _, _ => none)
    | some (.ro cs off), some ti => (match Nat.ble (off + ti.size) cs.length, ofCells ti (((cs.drop off).take ti.size).map .d) with | true, some v => some v | _, _ => none)
    | _, _ => none)
  | .nilCheck x => (match nonNil E x, copyO E x with | true, some v => some v | _, _ => none)
  | .binOp op t x y _ => (match copyO E x, copyO E y with
    | some a, some b => binV τ op t a b
    | _, _ => none)
  | .unOp .not _ x => (match getO E x with | some v => (match boolV v with | some t => some (.d (.sc (.bool (!t)))) | none => none) | none => none)
  | .convert src dst x => (match copyO E x, τ src, τ dst with
    | some (.d (.sc (.int _ y))), some _, some ti => (match ti.kind with | .int k => some (.d (.sc (.int k (k.wrap y)))) | _ => none)
    | _, _, _ => none)
  | .fieldAddr t x f => (match τ t with
    | some ti => (match ti.kind with
      | .struct offs ts => (match offs[f]?, ts[f]? with
        | some off, some u => (match τ u with
          | some ui => (match Nat.blt 0 ui.size, fieldV E x off with | true, some v => some v | _, _ => none)
          | none => none)
        | _, _ => none)
      | _ => none)
    | none => none)
  | .field t x f => (match τ t, copyO E x with
    | some ti, some (.ag cs) => (match ti.kind with
      | .struct offs ts => (match offs[f]?, ts[f]? with
        | some off, some u => (match τ u with | some ui => (match (cut cs off ui.size).length == ui.size && plains (cut cs off ui.size), ofCells ui (cut cs off ui.size) with | true, some v => some v | _, _ => none) | none => none)
        | _, _ => none)
      | _ => none)
    | _, _ => none)
  | .extract (.tmp u) i => (match look E (.s u) with
    | some (.tu vs) => (match vs[i]? with
      | some v => (match plain v with | true => some v | false => none)
      | none => none)
    | _ => none)
  | .makeFunc (.func f) first caps => (match first.isEmpty, capsO E caps.toList with | true, some vs => some (.fn f vs) | _, _ => none)
  | .call { callee := .builtin .len, args := args, argTypes := ts } => (match args.toList, ts.toList with
    | [x], [t] => (match lenO E x, τ t with
      | some xs, some ti => (match ti.kind with | .slice _ => some (.d (.sc (.int .i64 xs.length))) | _ => none)
      | _, _ => none)
    | _, _ => none)
  | _ => none
def takes : Op → Bool | .assign _ | .extract _ _ => true | _ => false
def step (n : Nat) (K : List Nat) (E : Env) (o : Oper) : Option Env :=
  match valO τ E o with
  | some v => forceV v fun v => (match setO n K o.dst v E with
    | some E' => (match takes o.op, o.dst with
      | true, some d => force (take (.s d) E') some
      | _, _ => some E')
    | none => none)
  | none => (match o.op with
    | .store t a x => (match ptrO E a, τ t, copyO E x, o.dst with
      | some (.box l e cs off), some ti, some v, none => (match (cellsV v).length == ti.size && Nat.ble (off + ti.size) cs.length, l with
          | true, .s b => forceL (splice cs off (cellsV v)) fun cs' => force (bringIf ((cellsV v).any isRef) b off (cellsV v).length (upd (.s b) (.bx e cs') E)) some
          | _, _ => none)
      | _, _, _, _ => none)
    | _ => none)
def steps (n : Nat) (K : List Nat) (ops : Array Oper) : Env → List Oper → Env × List Oper
  | E, [] => (E, [])
  | E, o :: rest => match o.guard with
    | none => (match step τ n K E o with | some E' => steps n K ops E' rest | none => (E, o :: rest))
    | some (j, want) => (match ops[j]? with
      | some oj => (match oj.dst with
        | some d => (match look E (.s d) with
          | some .kt => (match want with
            | true => (match step τ n K E o with | some E' => steps n K ops E' rest | none => (E, o :: rest))
            | false => (match setO n K o.dst (.tu []) E with | some E' => steps n K ops E' rest | none => (E, o :: rest)))
          | some .kf => (match want with
            | false => (match step τ n K E o with | some E' => steps n K ops E' rest | none => (E, o :: rest))
            | true => (match setO n K o.dst (.tu []) E with | some E' => steps n K ops E' rest | none => (E, o :: rest)))
          | some (.tu []) => (match setO n K o.dst (.tu []) E with | some E' => steps n K ops E' rest | none => (E, o :: rest))
          | _ => (E, o :: rest))
        | none => (E, o :: rest))
      | none => (E, o :: rest))
end Go.Proofs.VL
namespace Go.Proofs.VL
open Go Go.RowKit
abbrev Cells := Nat → Nat → Prop
abbrev Blocks := Nat → Prop
def lim : Nat := 140737488355328
inductive RepD (w : World) (N : Cells) : D → Value → Prop
  | sc (v : Value) (h : scal v = true) : RepD w N (.sc v) v
  | nl : RepD w N .nl (.slice none 0 0)
  | nil (p : Option Addr) (cap : Nat) : RepD w N (.sl []) (.slice p 0 cap)
  | sl (xs : List (List D)) (b o k cap : Nat) (cv : Nat → Nat → Value) (hl : xs.length ≤ lim) (hcap : xs.length ≤ cap)
      (hk : ∀ (i : Nat) (cs : List D), xs[i]? = some cs → cs.length = k)
      (hc : ∀ i j : Nat, i < xs.length → j < k → N b (o + i * k + j) ∧ w.cell? ⟨b, o + i * k + j, none⟩ = some (cv i j))
      (hr : ∀ (i j : Nat) (cs : List D) (d : D), xs[i]? = some cs → cs[j]? = some d → RepD w N d (cv i j)) :
      RepD w N (.sl xs) (.slice (some ⟨b, o, none⟩) xs.length cap)
theorem RepD.mono {w w' : World} {N N' : Cells} {x : D} {c : Value} (h : RepD w N x c) (hN : ∀ b o, N b o → N' b o)
    (hw : ∀ b o v, N b o → w.cell? ⟨b, o, none⟩ = some v → w'.cell? ⟨b, o, none⟩ = some v) : RepD w' N' x c := by
  induction h with
  | sc v h => exact .sc v h
  | nl => exact .nl
  | nil p cap => exact .nil p cap
  | sl xs b o k cap cv hl hcap hk hc hr ih =>
    exact .sl xs b o k cap cv hl hcap hk (fun i j hi hj => ⟨hN _ _ (hc i j hi hj).1, hw _ _ _ (hc i j hi hj).1 (hc i j hi hj).2⟩) ih
theorem scal_oneCell {v : Value} (h : scal v = true) : v.oneCell' = true := by cases v <;> simp_all [scal, Value.oneCell']
theorem RepD.oneCell {w : World} {N : Cells} {x : D} {c : Value} (h : RepD w N x c) : c.oneCell' = true := by
  cases h with
  | sc v h => exact scal_oneCell h
  | nl => rfl
  | nil => rfl
  | sl => rfl
def isCell : V → Bool | .ag _ | .tu _ => false | _ => true
def Tof (tmps : Array Value) (γ : Nat → Nat → Option Value) : Loc → Option Value
  | .s t => tmps[t]?
  | .c t i => γ t i
def isAggV : Value → Bool | .agg _ => true | _ => false
def mpK (t : Nat) : Bool := Nat.beq (t % 2) 1
def mpV (t : Nat) : Bool := Nat.ble 2 t
def MapRep (w : World) (N : Cells) (t : Nat) (ents : List MapEntry) (es : List (List D × List D)) : Prop :=
  ents.length = es.length ∧ ∀ (i : Nat) (e : MapEntry) (k v : List D), ents[i]? = some e → es[i]? = some (k, v) →
    (k.length = e.key.cells.size ∧ ∀ (j : Nat) (d : D), k[j]? = some d → RepD w N d (e.key.cells.getD j undef)) ∧
    (v.length = e.val.cells.size ∧ ∀ (j : Nat) (d : D), v[j]? = some d → RepD w N d (e.val.cells.getD j undef)) ∧ isAggV e.key = mpK t ∧ isAggV e.val = mpV t
def Stamps (ents : List MapEntry) (clock : Nat) : Prop := clock = ents.length ∧ ∀ (i : Nat) (e : MapEntry), ents[i]? = some e → e.born = i
def leftI (es : List (List D × List D)) (seen : Array Nat) : List (List D × List D) := (es.zipIdx.filter (fun p => !seen.contains p.2)).map (·.1)
def none_ : Blocks := fun _ => False
inductive RepV (P : Program) (w : World) (N L : Cells) (T : Loc → Option Value) : V → Value → Blocks → Prop
  | d (x : D) (c : Value) (R : Blocks) (h : RepD w N x c) : RepV P w N L T (.d x) c R
  | ag (cs : List V) (vals : Array Value) (R : Blocks) (hl : cs.length = vals.size)
      (hc : ∀ (i : Nat) (v : V), cs[i]? = some v → isCell v = true)
      (h : ∀ (i : Nat) (v : V), cs[i]? = some v → RepV P w N L T v (vals.getD i undef) none_) : RepV P w N L T (.ag cs) (.agg vals) R
  | tu (cs : List V) (vals : Array Value) (R : Blocks) (hl : cs.length = vals.size)
      (h : ∀ (i : Nat) (v : V), cs[i]? = some v → RepV P w N L T v (vals.getD i undef) none_) : RepV P w N L T (.tu cs) (.tuple vals) R
  | row (m : Bool) (e : Nat) (xs : List (List D)) (b cap k : Nat) (bl : Array Value) (cv : Nat → Nat → Value) (R : Blocks)
      (hb : w.heap[b]? = some (.cells bl e (0, 0))) (hs : bl.size = cap * k) (hcap : xs.length ≤ cap) (hcm : cap ≤ maxLen) (hl : xs.length ≤ lim)
      (he : (P.info? e).map (·.size) = some k)
      (hk : ∀ (i : Nat) (cs : List D), xs[i]? = some cs → cs.length = k)
      (hc : ∀ i j : Nat, i < xs.length → j < k → bl[i * k + j]? = some (cv i j))
      (hr : ∀ (i j : Nat) (cs : List D) (d : D), xs[i]? = some cs → cs[j]? = some d → RepD w N d (cv i j))
      (hm : m = true → ∀ x, ¬ L b x) (hm' : m = false → ∀ x, N b x → x < xs.length * k) (hm2 : m = false → ∀ x, x < xs.length * k → N b x) (hm3 : m = false → ∀ x, L b x → N b x) (hR : R b) :
      RepV P w N L T (.row m e xs) (.slice (some ⟨b, 0, none⟩) xs.length cap) R
  | rownil (m : Bool) (e : Nat) (R : Blocks) : RepV P w N L T (.row m e []) (.slice none 0 0) R
  | bx (e : Nat) (cs : List V) (b : Nat) (vals : Array Value) (R : Blocks)
      (hb : w.heap[b]? = some (.cells vals e (0, 0))) (hl : cs.length = vals.size) (hc : ∀ (i : Nat) (v : V), cs[i]? = some v → isCell v = true)
      (h : ∀ (i : Nat) (v : V), cs[i]? = some v → RepV P w N L T v (vals.getD i undef) none_)
      (hL : ∀ x, ¬ L b x) (hRb : R b) :
      RepV P w N L T (.bx e cs) (.pointer (some ⟨b, 0, none⟩)) R
  | mp (t : Nat) (es : List (List D × List D)) (b : Nat) (ents : Array MapEntry) (clock : Nat) (R : Blocks)
      (hb : w.heap[b]? = some (.map ents clock)) (h : MapRep w N t ents.toList es) (hst : Stamps ents.toList clock) (hR : R b) :
      RepV P w N L T (.mp t es) (.map (some b)) R
  | it (t : Nat) (todo : List (List D × List D)) (cur : Option (List D × List D)) (rb mb : Nat) (ents : Array MapEntry) (clock : Nat) (seen : Array Nat) (es : List (List D × List D)) (R : Blocks)
      (hrb : w.heap[rb]? = some (.mapIter (some mb) clock seen clock)) (hmb : w.heap[mb]? = some (.map ents clock)) (hne : rb ≠ mb) (h : MapRep w N t ents.toList es) (hst : Stamps ents.toList clock)
      (htodo : todo.Perm (leftI es seen)) (hcur : ∀ p, cur = some p → ∃ i, seen.back? = some i ∧ es[i]? = some p) (hR1 : R rb) (hR2 : R mb) :
      RepV P w N L T (.it t todo cur) (.pointer (some ⟨rb, 0, none⟩)) R
  | rp (cs : List D) (off b o : Nat) (cv : Nat → Value) (R : Blocks)
      (hc : ∀ j, j < cs.length → N b (o + j) ∧ w.cell? ⟨b, o + j, none⟩ = some (cv j)) (hr : ∀ (j : Nat) (d : D), cs[j]? = some d → RepD w N d (cv j)) :
      RepV P w N L T (.rp cs off) (.pointer (some ⟨b, o + off, none⟩)) R
  | ref (l : Loc) (c : Value) (R : Blocks) (h : T l = some c) (hc : c.oneCell' = true) : RepV P w N L T (.ref l) c R
  | fld (l : Loc) (off b : Nat) (R : Blocks) (h : T l = some (.pointer (some ⟨b, 0, none⟩))) : RepV P w N L T (.fld l off) (.pointer (some ⟨b, off, none⟩)) R
  | elt (l : Loc) (x b n cap : Nat) (R : Blocks) (h : T l = some (.slice (some ⟨b, 0, none⟩) n cap)) : RepV P w N L T (.elt l x) (.pointer (some ⟨b, x, none⟩)) R
  | sub (l : Loc) (i o m b n cap : Nat) (R : Blocks) (h : T l = some (.slice (some ⟨b, 0, none⟩) n cap)) : RepV P w N L T (.sub l i o m) (.slice (some ⟨b, o, none⟩) m (cap - i)) R
  | fn (f : Nat) (cs : List V) (vals : Array Value) (R : Blocks) (hl : cs.length = vals.size)
      (h : ∀ (i : Nat) (v : V), cs[i]? = some v → RepV P w N L T v (vals.getD i undef) none_) : RepV P w N L T (.fn f cs) (.func (.func f) #[] vals) R
  | raw (p : RawP) (c : Value) (R : Blocks) (hc : c.oneCell' = true)
      (h : ∀ (w' : World) (N' L' : Cells), w.heap.size ≤ w'.heap.size → (∀ b o v, L b o → w.cell? ⟨b, o, none⟩ = some v → w'.cell? ⟨b, o, none⟩ = some v) → (∀ b o, N b o → N' b o) → (∀ b o, L b o → L' b o) → p w' N' L' c) :
      RepV P w N L T (.raw p) c R
  | ob (ls : List Loc) (p : OwnP) (c : Value) (R : Blocks) (cs : List Value) (hc : c.oneCell' = true) (hlen : cs.length = ls.length)
      (hl : ∀ (i : Nat) (l : Loc), ls[i]? = some l → T l = some (cs.getD i undef))
      (h : ∀ (w' : World) (N' L' : Cells) (R' : Blocks), w.heap.size ≤ w'.heap.size → (∀ b, R b → w'.heap[b]? = w.heap[b]?) → (∀ b o v, L b o → w.cell? ⟨b, o, none⟩ = some v → w'.cell? ⟨b, o, none⟩ = some v) →
        (∀ b o, N b o → N' b o) → (∀ b o, L b o → L' b o) → (∀ b o, R b → N' b o → N b o) → (∀ b o, R b → L' b o → L b o) → (∀ b, R b → R' b) → p w' N' L' R' cs c) :
      RepV P w N L T (.ob ls p) c R
  | kt (R : Blocks) : RepV P w N L T .kt (.bool true) R
  | kf (R : Blocks) : RepV P w N L T .kf (.bool false) R
variable {P : Program}
theorem RepV.oneCell {w : World} {N L : Cells} {T : Loc → Option Value} {v : V} {c : Value} {R : Blocks} (h : RepV P w N L T v c R) (hv : isCell v = true) : c.oneCell' = true := by
  cases h <;> first | rfl | (simp [isCell] at hv; done) | assumption | (exact RepD.oneCell ‹_›)
theorem mens_get {l : Loc} {cs : List V} (h : mens l cs = false) {i : Nat} {v : V} (hi : cs[i]? = some v) : v.men l = false := by
  induction cs generalizing i with
  | nil => simp at hi
  | cons c cs ih =>
    simp only [mens, Bool.or_eq_false_iff] at h
    cases i with
    | zero => simp at hi; exact hi ▸ h.1
    | succ i => exact ih h.2 (by simpa using hi)
theorem menL_get {l : Loc} : ∀ {ls : List Loc}, menL l ls = false → ∀ {i : Nat} {k : Loc}, ls[i]? = some k → lq l k = false
  | [], _, i, k, hi => by simp at hi
  | m :: ls, h, i, k, hi => by
    simp only [menL, Bool.or_eq_false_iff] at h
    cases i with
    | zero => simp at hi; exact hi ▸ h.1
    | succ i => exact menL_get h.2 (by simpa using hi)
theorem lq_iff {a b : Loc} : lq a b = true ↔ a = b := by
  cases a <;> cases b <;> simp [lq]
theorem lq_ne {a b : Loc} (h : lq a b = false) : a ≠ b := by
  rintro rfl
  have := lq_iff.2 (rfl : a = a)
  rw [h] at this
  cases this
theorem RepV.congrT {w : World} {N L : Cells} {T T' : Loc → Option Value} {v : V} {c : Value} {R : Blocks} (h : RepV P w N L T v c R) {d : Loc}
    (hT : ∀ l c, l ≠ d → T l = some c → T' l = some c) (hv : v.men d = false) : RepV P w N L T' v c R := by
  induction h with
  | d x c R h => exact .d x c R h
  | ag cs vals R hl hc h ih => exact .ag cs vals R hl hc (fun i v hi => ih i v hi (mens_get (by simpa [V.men] using hv) hi))
  | tu cs vals R hl h ih => exact .tu cs vals R hl (fun i v hi => ih i v hi (mens_get (by simpa [V.men] using hv) hi))
  | row m e xs b cap k bl cv R hb hs hcap hcm hl he hk hc hr hm hm' hm2 hm3 hR => exact .row m e xs b cap k bl cv R hb hs hcap hcm hl he hk hc hr hm hm' hm2 hm3 hR
  | rownil m e R => exact .rownil m e R
  | bx e cs b vals R hb hl hc h hL hRb ih => exact .bx e cs b vals R hb hl hc (fun i v hi => ih i v hi (mens_get (by simpa [V.men] using hv) hi)) hL hRb
  | mp t es b ents clock R hb h hst hR => exact .mp t es b ents clock R hb h hst hR
  | it t todo cur rb mb ents clock seen es R hrb hmb hne h hst ht hc h1 h2 => exact .it t todo cur rb mb ents clock seen es R hrb hmb hne h hst ht hc h1 h2
  | rp cs off b o cv R hc hr => exact .rp cs off b o cv R hc hr
  | ref l c R h hc => exact .ref l c R (hT l _ (lq_ne (by simpa [V.men] using hv)) h) hc
  | fld l off b R h => exact .fld l off b R (hT l _ (lq_ne (by simpa [V.men] using hv)) h)
  | elt l x b n cap R h => exact .elt l x b n cap R (hT l _ (lq_ne (by simpa [V.men] using hv)) h)
  | sub l i o m b n cap R h => exact .sub l i o m b n cap R (hT l _ (lq_ne (by simpa [V.men] using hv)) h)
  | fn f cs vals R hl h ih => exact .fn f cs vals R hl (fun i v hi => ih i v hi (mens_get (by simpa [V.men] using hv) hi))
  | raw p c R hc h => exact .raw p c R hc h
  | ob ls p c R cs hc hlen hl h => exact .ob ls p c R cs hc hlen (fun i k hi => hT k _ (fun e => by have := menL_get (by simpa [V.men] using hv) hi; rw [e] at this; have h2 := lq_iff.2 (rfl : d = d); rw [this] at h2; cases h2) (hl i k hi)) h
  | kt R => exact .kt R
  | kf R => exact .kf R
theorem RepV.congrAll {w : World} {N L : Cells} {T T' : Loc → Option Value} {v : V} {c : Value} {R : Blocks} (h : RepV P w N L T v c R) (hT : ∀ l c, T l = some c → T' l = some c) : RepV P w N L T' v c R := by
  induction h with
  | d x c R h => exact .d x c R h
  | ag cs vals R hl hc h ih => exact .ag cs vals R hl hc ih
  | tu cs vals R hl h ih => exact .tu cs vals R hl ih
  | row m e xs b cap k bl cv R hb hs hcap hcm hl he hk hc hr hm hm' hm2 hm3 hR => exact .row m e xs b cap k bl cv R hb hs hcap hcm hl he hk hc hr hm hm' hm2 hm3 hR
  | rownil m e R => exact .rownil m e R
  | bx e cs b vals R hb hl hc h hL hRb ih => exact .bx e cs b vals R hb hl hc ih hL hRb
  | mp t es b ents clock R hb h hst hR => exact .mp t es b ents clock R hb h hst hR
  | it t todo cur rb mb ents clock seen es R hrb hmb hne h hst ht hc h1 h2 => exact .it t todo cur rb mb ents clock seen es R hrb hmb hne h hst ht hc h1 h2
  | rp cs off b o cv R hc hr => exact .rp cs off b o cv R hc hr
  | ref l c R h hc => exact .ref l c R (hT l _ h) hc
  | fld l off b R h => exact .fld l off b R (hT l _ h)
  | elt l x b n cap R h => exact .elt l x b n cap R (hT l _ h)
  | sub l i o m b n cap R h => exact .sub l i o m b n cap R (hT l _ h)
  | fn f cs vals R hl h ih => exact .fn f cs vals R hl ih
  | raw p c R hc h => exact .raw p c R hc h
  | ob ls p c R cs hc hlen hl h => exact .ob ls p c R cs hc hlen (fun i k hi => hT k _ (hl i k hi)) h
  | kt R => exact .kt R
  | kf R => exact .kf R
theorem cell_of_heap {w w' : World} {b : Nat} (h : w'.heap[b]? = w.heap[b]?) (o : Nat) : w'.cell? ⟨b, o, none⟩ = w.cell? ⟨b, o, none⟩ := by
  simp only [World.cell?, h]
def Keeps (L : Cells) (w w' : World) : Prop := ∀ b o v, L b o → w.cell? ⟨b, o, none⟩ = some v → w'.cell? ⟨b, o, none⟩ = some v
theorem MapRep.world {w w' : World} {N N' : Cells} {t : Nat} {ents : List MapEntry} {es : List (List D × List D)} (h : MapRep w N t ents es) (hN : ∀ b o, N b o → N' b o) (hw : Keeps N w w') : MapRep w' N' t ents es :=
  ⟨h.1, fun i e k v hi hj => ⟨⟨(h.2 i e k v hi hj).1.1, fun j d hd => ((h.2 i e k v hi hj).1.2 j d hd).mono hN hw⟩, ⟨(h.2 i e k v hi hj).2.1.1, fun j d hd => ((h.2 i e k v hi hj).2.1.2 j d hd).mono hN hw⟩, (h.2 i e k v hi hj).2.2⟩⟩
theorem RepV.world {w w' : World} {N L N' L' : Cells} {T : Loc → Option Value} {v : V} {c : Value} {R : Blocks} (h : RepV P w N L T v c R)
    (hsz : w.heap.size ≤ w'.heap.size) (hR : ∀ b, R b → w'.heap[b]? = w.heap[b]?) (hNL : ∀ b o, N b o → L b o) (hL : Keeps L w w')
    (hN1 : ∀ b o, N b o → N' b o) (hL1 : ∀ b o, L b o → L' b o)
    (hN2 : ∀ b o, R b → N' b o → N b o) (hL2 : ∀ b o, R b → L' b o → L b o) : RepV P w' N' L' T v c R := by
  have hN : Keeps N w w' := fun b o v h1 h2 => hL b o v (hNL b o h1) h2
  induction h with
  | d x c R h => exact .d x c R (h.mono hN1 hN)
  | ag cs vals R hl hc h ih => exact .ag cs vals R hl hc (fun i v hi => ih i v hi (fun _ h => h.elim) (fun _ _ h => h.elim) (fun _ _ h => h.elim))
  | tu cs vals R hl h ih => exact .tu cs vals R hl (fun i v hi => ih i v hi (fun _ h => h.elim) (fun _ _ h => h.elim) (fun _ _ h => h.elim))
  | row m e xs b cap k bl cv R hb hs hcap hcm hl he hk hc hr hm hm' hm2 hm3 hRb =>
    exact .row m e xs b cap k bl cv R ((hR b hRb).trans hb) hs hcap hcm hl he hk hc (fun i j cs d h1 h2 => (hr i j cs d h1 h2).mono hN1 hN)
      (fun e x hx => hm e x (hL2 b x hRb hx)) (fun e x hx => hm' e x (hN2 _ _ hRb hx)) (fun e x hx => hN1 _ _ (hm2 e x hx)) (fun e x hx => hN1 _ _ (hm3 e x (hL2 b x hRb hx))) hRb
  | rownil m e R => exact .rownil m e R
  | bx e cs b vals R hb hl hc h hLb hRb ih =>
    exact .bx e cs b vals R ((hR b hRb).trans hb) hl hc (fun i v hi => ih i v hi (fun _ h => h.elim) (fun _ _ h => h.elim) (fun _ _ h => h.elim)) (fun x hx => hLb x (hL2 b x hRb hx)) hRb
  | mp t es b ents clock R hb h hst hRb => exact .mp t es b ents clock R ((hR b hRb).trans hb) (h.world hN1 hN) hst hRb
  | it t todo cur rb mb ents clock seen es R hrb hmb hne h hst ht hc h1 h2 => exact .it t todo cur rb mb ents clock seen es R ((hR rb h1).trans hrb) ((hR mb h2).trans hmb) hne (h.world hN1 hN) hst ht hc h1 h2
  | rp cs off b o cv R hc hr => exact .rp cs off b o cv R (fun j hj => ⟨hN1 _ _ (hc j hj).1, hN _ _ _ (hc j hj).1 (hc j hj).2⟩) (fun j d hd => (hr j d hd).mono hN1 hN)
  | ref l c R h hc => exact .ref l c R h hc
  | fld l off b R h => exact .fld l off b R h
  | elt l x b n cap R h => exact .elt l x b n cap R h
  | sub l i o m b n cap R h => exact .sub l i o m b n cap R h
  | fn f cs vals R hl h ih => exact .fn f cs vals R hl (fun i v hi => ih i v hi (fun _ h => h.elim) (fun _ _ h => h.elim) (fun _ _ h => h.elim))
  | raw p c R hc h =>
    refine .raw p c R hc fun w2 N2 L2 h1 h2 h3 h4 => h w2 N2 L2 (Nat.le_trans hsz h1) (fun b o v hl hv => ?_) (fun b o hb => h3 b o (hN1 b o hb)) (fun b o hb => h4 b o (hL1 b o hb))
    exact h2 b o v (hL1 b o hl) (hL b o v hl hv)
  | ob ls p c R cs hc hlen hl h =>
    refine .ob ls p c R cs hc hlen hl fun w2 N2 L2 R2 h1 h2 h3 h4 h5 h6 h7 h8 => h w2 N2 L2 R2 (Nat.le_trans hsz h1) (fun b hb => (h2 b hb).trans (hR b hb)) (fun b o v hv1 hv2 => h3 b o v (hL1 b o hv1) (hL b o v hv1 hv2))
      (fun b o hb => h4 b o (hN1 b o hb)) (fun b o hb => h5 b o (hL1 b o hb)) (fun b o hb hn => hN2 b o hb (h6 b o hb hn)) (fun b o hb hn => hL2 b o hb (h7 b o hb hn)) h8
  | kt R => exact .kt R
  | kf R => exact .kf R
theorem RepV.more {w : World} {N L : Cells} {T : Loc → Option Value} {v : V} {c : Value} {R R' : Blocks} (h : RepV P w N L T v c R) (hR : ∀ x, R x → R' x) : RepV P w N L T v c R' := by
  cases h with
  | d x c R h => exact .d x c R' h
  | ag cs vals R hl hc h => exact .ag cs vals R' hl hc h
  | tu cs vals R hl h => exact .tu cs vals R' hl h
  | row m e xs b cap k bl cv R hb hs hcap hcm hl he hk hc hr hm hm' hm2 hm3 hRb => exact .row m e xs b cap k bl cv R' hb hs hcap hcm hl he hk hc hr hm hm' hm2 hm3 (hR _ hRb)
  | rownil m e R => exact .rownil m e R'
  | bx e cs b vals R hb hl hc h hLb hRb => exact .bx e cs b vals R' hb hl hc h hLb (hR _ hRb)
  | mp t es b ents clock R hb h hst hRb => exact .mp t es b ents clock R' hb h hst (hR _ hRb)
  | it t todo cur rb mb ents clock seen es R hrb hmb hne h hst ht hc h1 h2 => exact .it t todo cur rb mb ents clock seen es R' hrb hmb hne h hst ht hc (hR _ h1) (hR _ h2)
  | rp cs off b o cv R hc hr => exact .rp cs off b o cv R' hc hr
  | ref l c R h hc => exact .ref l c R' h hc
  | fld l off b R h => exact .fld l off b R' h
  | elt l x b n cap R h => exact .elt l x b n cap R' h
  | sub l i o m b n cap R h => exact .sub l i o m b n cap R' h
  | fn f cs vals R hl h => exact .fn f cs vals R' hl h
  | raw p c R hc h => exact .raw p c R' hc h
  | ob ls p c R cs hc hlen hl h =>
    exact .ob ls p c R' cs hc hlen hl fun w2 N2 L2 R2 h1 h2 h3 h4 h5 h6 h7 h8 => h w2 N2 L2 R2 h1 (fun b hb => h2 b (hR b hb)) h3 h4 h5 (fun b o hb => h6 b o (hR b hb)) (fun b o hb => h7 b o (hR b hb)) (fun b hb => h8 b (hR b hb))
  | kt R => exact .kt R'
  | kf R => exact .kf R'
theorem plains_get {cs : List V} (h : plains cs = true) {i : Nat} {v : V} (hi : cs[i]? = some v) : plain v = true := by
  induction cs generalizing i with
  | nil => simp at hi
  | cons c cs ih =>
    simp only [plains, Bool.and_eq_true] at h
    cases i with
    | zero => simp at hi; exact hi ▸ h.1
    | succ i => exact ih h.2 (by simpa using hi)
theorem RepV.plain {w : World} {N L : Cells} {T : Loc → Option Value} {v : V} {c : Value} {R : Blocks} (h : RepV P w N L T v c R) (hv : isOwned v = false) (R' : Blocks) : RepV P w N L T v c R' := by
  cases h with
  | d x c R h => exact .d x c R' h
  | ag cs vals R hl hc h => exact .ag cs vals R' hl hc h
  | tu cs vals R hl h => exact .tu cs vals R' hl h
  | row => simp [isOwned] at hv
  | rownil => simp [isOwned] at hv
  | bx => simp [isOwned] at hv
  | mp => simp [isOwned] at hv
  | it => simp [isOwned] at hv
  | rp cs off b o cv R hc hr => exact .rp cs off b o cv R' hc hr
  | ref l c R h hc => exact .ref l c R' h hc
  | fld l off b R h => exact .fld l off b R' h
  | elt l x b n cap R h => exact .elt l x b n cap R' h
  | sub l i o m b n cap R h => exact .sub l i o m b n cap R' h
  | fn f cs vals R hl h => exact .fn f cs vals R' hl h
  | raw p c R hc h => exact .raw p c R' hc h
  | ob => simp [isOwned] at hv
  | kt R => exact .kt R'
  | kf R => exact .kf R'
end Go.Proofs.VL
namespace Go.Proofs.VL
open Go Go.RowKit
variable {P : Program}
theorem look_mem {E : Env} {l : Loc} {v : V} (h : look E l = some v) : (l, v) ∈ E := by
  induction E with
  | nil => simp [look] at h
  | cons p E ih =>
    obtain ⟨k, u⟩ := p
    simp only [look] at h
    split at h
    · rename_i hb
      have := lq_iff.1 hb
      simp at h
      subst this; subst h
      exact .head _
    · exact .tail _ (ih h)
theorem anyOf_mem {d : Loc} {E : Env} (h : anyOf d E = false) {t : Loc} {v : V} (hm : (t, v) ∈ E) : t ≠ d ∧ v.men d = false := by
  induction E with
  | nil => cases hm
  | cons p E ih =>
    obtain ⟨s, u⟩ := p
    simp only [anyOf, Bool.or_eq_false_iff] at h
    cases hm with
    | head => exact ⟨lq_ne h.1.1, h.1.2⟩
    | tail _ hm => exact ih h.2 hm
theorem purge_mem {d : Loc} {E : Env} {t : Loc} {v : V} (hm : (t, v) ∈ purge d E) : (t, v) ∈ E ∧ t ≠ d ∧ v.men d = false := by
  induction E with
  | nil => cases hm
  | cons p E ih =>
    obtain ⟨s, u⟩ := p
    simp only [purge] at hm
    split at hm
    · exact ⟨.tail _ (ih hm).1, (ih hm).2⟩
    · rename_i hb
      simp only [Bool.or_eq_false_iff] at hb
      cases hm with
      | head => exact ⟨.head _, lq_ne hb.1, hb.2⟩
      | tail _ hm => exact ⟨.tail _ (ih hm).1, (ih hm).2⟩
theorem put_mem {d : Loc} {v : V} {E : Env} {t : Loc} {u : V} (hm : (t, u) ∈ put d v E) : (t = d ∧ u = v) ∨ ((t, u) ∈ E ∧ t ≠ d ∧ u.men d = false) := by
  unfold VL.put at hm
  split at hm
  · cases hm with
    | head => exact .inl ⟨rfl, rfl⟩
    | tail _ hm => exact .inr (purge_mem hm)
  · rename_i h
    cases hm with
    | head => exact .inl ⟨rfl, rfl⟩
    | tail _ hm => exact .inr ⟨hm, anyOf_mem h hm⟩
theorem purge_sub {d : Loc} {E : Env} : (purge d E).Sublist E := by
  induction E with
  | nil => exact .slnil
  | cons p E ih =>
    obtain ⟨s, u⟩ := p
    simp only [purge]
    split
    · exact ih.cons _
    · exact ih.cons_cons _
theorem put_nd {d : Loc} {v : V} {E : Env} (h : (E.map Prod.fst).Nodup) : ((put d v E).map Prod.fst).Nodup := by
  unfold put
  split
  · simp only [List.map_cons, List.nodup_cons]
    refine ⟨?_, h.sublist (purge_sub.map _)⟩
    rintro hm
    obtain ⟨⟨t, u⟩, hm, rfl⟩ := List.mem_map.1 hm
    exact (purge_mem hm).2.1 rfl
  · rename_i hb
    simp only [List.map_cons, List.nodup_cons]
    refine ⟨?_, h⟩
    rintro hm
    obtain ⟨⟨t, u⟩, hm', rfl⟩ := List.mem_map.1 hm
    exact (anyOf_mem hb hm').1 rfl
structure Rel (P : Program) (w : World) (N L : Cells) (tmps : Array Value) (γ : Nat → Nat → Option Value) (R : Loc → Blocks) (E : Env) : Prop where
  rep : ∀ l v, (l, v) ∈ E → ∃ c, Tof tmps γ l = some c ∧ RepV P w N L (Tof tmps γ) v c (R l)
  nd : (E.map Prod.fst).Nodup
  dis : ∀ l l' x, l ≠ l' → R l x → ¬ R l' x
  lt : ∀ l x, R l x → x < w.heap.size
  NL : ∀ b o, N b o → L b o
  Llt : ∀ b o, L b o → b < w.heap.size
theorem Tof_slot {tmps : Array Value} {γ : Nat → Nat → Option Value} {d : Nat} {c : Value} (l : Loc) (h : l ≠ .s d) : Tof (tmps.setIfInBounds d c) γ l = Tof tmps γ l := by
  cases l with
  | s t => simp only [Tof]; rw [Array.getElem?_setIfInBounds_ne (fun e => h (by rw [e]))]
  | c t i => rfl
theorem Rel.put {w : World} {N L : Cells} {tmps : Array Value} {γ : Nat → Nat → Option Value} {R : Loc → Blocks} {E : Env} (h : Rel P w N L tmps γ R E) {d : Nat} {v : V} {c : Value}
    (hd : d < tmps.size) (hv : v.men (.s d) = false) (hc : RepV P w N L (Tof tmps γ) v c (R (.s d))) : Rel P w N L (tmps.setIfInBounds d c) γ R (put (.s d) v E) where
  rep := by
    have hT : ∀ l c', l ≠ .s d → Tof tmps γ l = some c' → Tof (tmps.setIfInBounds d c) γ l = some c' := fun l c' hl h => (Tof_slot l hl).trans h
    intro t u hm
    rcases put_mem hm with ⟨rfl, rfl⟩ | ⟨hm, hne, hu⟩
    · exact ⟨c, by simp [Tof, hd], hc.congrT hT hv⟩
    · obtain ⟨c', h1, h2⟩ := h.rep t u hm
      exact ⟨c', hT _ _ hne h1, h2.congrT hT hu⟩
  nd := put_nd h.nd
  dis := h.dis
  lt := h.lt
  NL := h.NL
  Llt := h.Llt
theorem Rel.sub {w : World} {N L : Cells} {tmps : Array Value} {γ : Nat → Nat → Option Value} {R : Loc → Blocks} {E E' : Env} (h : Rel P w N L tmps γ R E) (hs : ∀ t v, (t, v) ∈ E' → (t, v) ∈ E) (hn : (E'.map Prod.fst).Nodup) : Rel P w N L tmps γ R E' :=
  ⟨fun t v hm => h.rep t v (hs t v hm), hn, h.dis, h.lt, h.NL, h.Llt⟩
structure Later (w : World) (N L : Cells) (S : Blocks) (w' : World) (N' L' : Cells) : Prop where
  os : w'.os = w.os
  tape : w'.tape = w.tape
  output : w'.output = w.output
  size : w.heap.size ≤ w'.heap.size
  frame : ∀ b, b < w.heap.size → ¬ S b → w'.heap[b]? = w.heap[b]?
  keeps : Keeps L w w'
  N1 : ∀ b o, N b o → N' b o
  L1 : ∀ b o, L b o → L' b o
  N2 : ∀ b o, N' b o → N b o ∨ S b ∨ w.heap.size ≤ b
  L2 : ∀ b o, L' b o → L b o ∨ S b ∨ w.heap.size ≤ b
theorem Later.refl (w : World) (N L : Cells) (S : Blocks) : Later w N L S w N L :=
  ⟨rfl, rfl, rfl, Nat.le_refl _, fun _ _ _ => rfl, fun _ _ _ _ h => h, fun _ _ h => h, fun _ _ h => h, fun _ _ h => .inl h, fun _ _ h => .inl h⟩
theorem Later.trans {w w1 w2 : World} {N L N1 L1 N2 L2 : Cells} {S S1 : Blocks} (h : Later w N L S w1 N1 L1) (k : Later w1 N1 L1 S1 w2 N2 L2) (hS : ∀ x, S1 x → S x ∨ w.heap.size ≤ x) : Later w N L S w2 N2 L2 where
  os := k.os.trans h.os
  tape := k.tape.trans h.tape
  output := k.output.trans h.output
  size := Nat.le_trans h.size k.size
  frame := fun b hb hn => (k.frame b (Nat.lt_of_lt_of_le hb h.size) (fun hs => by
      rcases hS b hs with h1 | h1
      · exact hn h1
      · omega)).trans (h.frame b hb hn)
  keeps := fun b o v hl hv => k.keeps b o v (h.L1 b o hl) (h.keeps b o v hl hv)
  N1 := fun b o hn => k.N1 b o (h.N1 b o hn)
  L1 := fun b o hn => k.L1 b o (h.L1 b o hn)
  N2 := fun b o hn => by
    rcases k.N2 b o hn with h1 | h1 | h1
    · exact h.N2 b o h1
    · rcases hS b h1 with h2 | h2
      · exact .inr (.inl h2)
      · exact .inr (.inr h2)
    · exact .inr (.inr (Nat.le_trans h.size h1))
  L2 := fun b o hn => by
    rcases k.L2 b o hn with h1 | h1 | h1
    · exact h.L2 b o h1
    · rcases hS b h1 with h2 | h2
      · exact .inr (.inl h2)
      · exact .inr (.inr h2)
    · exact .inr (.inr (Nat.le_trans h.size h1))
def St (R : Loc → Blocks) : Blocks := fun x => ∃ t, R t x
structure At (P : Program) (n : Nat) (K : List Nat) (w : World) (N L : Cells) (R : Loc → Blocks) (tmps : Array Value) (ds : List Deferred) (E' : Env) (a' : Act) (w' : World) (N' L' : Cells) (γ' : Nat → Nat → Option Value) (R' : Loc → Blocks) : Prop where
  rel : Rel P w' N' L' a'.tmps γ' R' E'
  size : a'.tmps.size = n
  defers : a'.defers = ds
  kept : ∀ k, k ∈ K → a'.tmps[k]? = tmps[k]?
  later : Later w N L (St R) w' N' L'
  own : ∀ x, St R' x → St R x ∨ w.heap.size ≤ x
def Mid (P : Program) (n : Nat) (K : List Nat) (w : World) (N L : Cells) (R : Loc → Blocks) (tmps : Array Value) (ds : List Deferred) (Q : Env → Prop) (a' : Act) (w' : World) : Prop :=
  ∃ E' N' L' γ' R', Q E' ∧ At P n K w N L R tmps ds E' a' w' N' L' γ' R'
def Post (P : Program) (n : Nat) (K : List Nat) (w : World) (N L : Cells) (R : Loc → Blocks) (tmps : Array Value) (ds : List Deferred) (Q : Exit → Env → Prop) : Exit → Act → World → Prop :=
  fun e a' w' => Mid P n K w N L R tmps ds (Q e) a' w'
theorem At.start {n : Nat} {K : List Nat} {w : World} {N L : Cells} {γ : Nat → Nat → Option Value} {R : Loc → Blocks} {tmps : Array Value} {ds : List Deferred} {E : Env} (h : Rel P w N L tmps γ R E) (hn : tmps.size = n) :
    At P n K w N L R tmps ds E ⟨tmps, ds⟩ w N L γ R := ⟨h, hn, rfl, fun _ _ => rfl, Later.refl .., fun _ h => .inl h⟩
theorem At.trans {n : Nat} {K : List Nat} {w w1 w2 : World} {N L N1 L1 N2 L2 : Cells} {γ1 γ2 : Nat → Nat → Option Value} {R R1 R2 : Loc → Blocks} {tmps : Array Value} {ds : List Deferred} {E1 E2 : Env} {a1 a2 : Act}
    (h : At P n K w N L R tmps ds E1 a1 w1 N1 L1 γ1 R1) (k : At P n K w1 N1 L1 R1 a1.tmps ds E2 a2 w2 N2 L2 γ2 R2) : At P n K w N L R tmps ds E2 a2 w2 N2 L2 γ2 R2 :=
  ⟨k.rel, k.size, k.defers, fun j hj => (k.kept j hj).trans (h.kept j hj), h.later.trans k.later h.own, fun x hx => by
    rcases k.own x hx with h1 | h1
    · exact h.own x h1
    · exact .inr (Nat.le_trans h.later.size h1)⟩
def AW (P : Program) (F : Fence) (n : Nat) (K : List Nat) (c : Code) (Q : Exit → Env → Prop) (E : Env) : Prop :=
  ∀ (w : World) (N L : Cells) (γ : Nat → Nat → Option Value) (R : Loc → Blocks) (tmps : Array Value) (ds : List Deferred), Rel P w N L tmps γ R E → tmps.size = n →
    c.wpIn F 0 P (Post P n K w N L R tmps ds Q) ⟨tmps, ds⟩ w
def AL (P : Program) (F : Fence) (n : Nat) (K : List Nat) (ops : Array Oper) (l : List Oper) (Q : Env → Prop) (E : Env) : Prop :=
  ∀ (w : World) (N L : Cells) (γ : Nat → Nat → Option Value) (R : Loc → Blocks) (tmps : Array Value) (ds : List Deferred), Rel P w N L tmps γ R E → tmps.size = n →
    wpListIn F 0 P ops (Post P n K w N L R tmps ds (fun e => match e with | .normal => Q | _ => fun _ => False)) l ⟨tmps, ds⟩ w
theorem wpListIn_mono {F : Fence} {n : Nat} {ops : Array Oper} {Q Q' : Exit → Act → World → Prop} (hq : ∀ e a w, Q e a w → Q' e a w) (l : List Oper) : ∀ a w, wpListIn F n P ops Q l a w → wpListIn F n P ops Q' l a w := by
  induction l with
  | nil => exact fun a w h => hq _ _ _ h
  | cons o l ih =>
    intro a w h
    have mono : ∀ {r : Result Next}, o.uponIn F n P a (wpListIn F n P ops Q l) Q r → o.uponIn F n P a (wpListIn F n P ops Q' l) Q' r := by
      intro r hr
      cases r with
      | ok x w' =>
        cases x <;> simp only [Oper.uponIn] at hr ⊢ <;> first
          | exact ih _ _ hr
          | exact hr.elim
          | exact ⟨hr.1, RowsIn.mono hr.2 fun v w'' he => ih _ _ he⟩
          | exact ⟨hr.1, CallsIn.mono hr.2 fun e w'' he => by
              cases e with
              | returned v => exact ih _ _ he
              | panicked ch => exact hq _ _ _ he
              | outgrown => exact let ⟨a0, w0, h0⟩ := he; ⟨a0, w0, hq _ _ _ h0⟩⟩
          | exact ⟨hr.1, RoundIn.mono hr.2 fun e w'' he => by
              cases e with
              | returned v => exact ih _ _ he
              | panicked ch => exact hq _ _ _ he
              | outgrown => exact let ⟨a0, w0, h0⟩ := he; ⟨a0, w0, hq _ _ _ h0⟩⟩
      | halt hh w' => cases hh <;> simp only [Oper.uponIn] at hr ⊢ <;> first | exact hq _ _ _ hr | exact hr.elim
    simp only [wpListIn] at h ⊢
    split
    · rename_i hw
      rw [if_pos hw] at h
      exact ⟨h.1, mono h.2⟩
    · rename_i hw
      rw [if_neg hw] at h
      exact ⟨h.1, ih _ _ h.2⟩
theorem Mid.mono {n : Nat} {K : List Nat} {w : World} {N L : Cells} {R : Loc → Blocks} {tmps : Array Value} {ds : List Deferred} {Q Q' : Env → Prop} {a' : Act} {w' : World}
    (h : Mid P n K w N L R tmps ds Q a' w') (hq : ∀ E, Q E → Q' E) : Mid P n K w N L R tmps ds Q' a' w' :=
  let ⟨E', N', L', γ', R', h1, h2⟩ := h; ⟨E', N', L', γ', R', hq _ h1, h2⟩
section rules
variable {F : Fence} {n : Nat} {K : List Nat} {Q : Exit → Env → Prop} {E : Env}
theorem AW.mono {c : Code} {Q' : Exit → Env → Prop} (h : AW P F n K c Q E) (hq : ∀ e E, Q e E → Q' e E) : AW P F n K c Q' E :=
  fun w N L γ R tmps ds hr hn => wpIn_mono (h w N L γ R tmps ds hr hn) fun e a w' hp => hp.mono (hq e)
theorem AW.sub {c : Code} {E' : Env} (hs : ∀ t v, (t, v) ∈ E' → (t, v) ∈ E) (hn : (E'.map Prod.fst).Nodup) (h : AW P F n K c Q E') : AW P F n K c Q E :=
  fun w N L γ R tmps ds hr hsz => h w N L γ R tmps ds (hr.sub hs hn) hsz
theorem AW.skip (h : Q .normal E) : AW P F n K .skip Q E := fun w N L γ R tmps ds hr hn => wpIn_skip ⟨E, N, L, γ, R, h, At.start hr hn⟩
theorem AW.label {l : Nat} (h : Q .normal E) : AW P F n K (.label l) Q E := fun w N L γ R tmps ds hr hn => wpIn_label ⟨E, N, L, γ, R, h, At.start hr hn⟩
theorem AW.exit {id : Nat} (h : Q (.exit id) E) : AW P F n K (.exit id) Q E := fun w N L γ R tmps ds hr hn => wpIn_exit ⟨E, N, L, γ, R, h, At.start hr hn⟩
theorem AW.ret (h : Q .ret E) : AW P F n K .ret Q E := fun w N L γ R tmps ds hr hn => wpIn_ret ⟨E, N, L, γ, R, h, At.start hr hn⟩
def thenQ (next : Env → Prop) (Q : Exit → Env → Prop) : Exit → Env → Prop
  | .normal, E => next E
  | e, E => Q e E
theorem At.continue {c : Code} {w w1 : World} {N L N1 L1 : Cells} {γ1 : Nat → Nat → Option Value} {R R1 : Loc → Blocks} {tmps : Array Value} {ds : List Deferred} {E1 : Env} {a1 : Act}
    (h : At P n K w N L R tmps ds E1 a1 w1 N1 L1 γ1 R1) (hc : AW P F n K c Q E1) : c.wpIn F 0 P (Post P n K w N L R tmps ds Q) a1 w1 := by
  have := hc w1 N1 L1 γ1 R1 a1.tmps ds h.rel h.size
  obtain ⟨t1, d1⟩ := a1
  obtain rfl : d1 = ds := h.defers
  exact wpIn_mono this fun e a' w' ⟨E', N', L', γ', R', hq, ha⟩ => ⟨E', N', L', γ', R', hq, h.trans ha⟩
theorem AW.seq {x y : Code} (h : AW P F n K x (thenQ (AW P F n K y Q) Q) E) : AW P F n K (.seq x y) Q E := by
  intro w N L γ R tmps ds hr hn
  refine wpIn_seq (wpIn_mono (h w N L γ R tmps ds hr hn) fun e a' w' hp => ?_)
  obtain ⟨E', N', L', γ', R', hq, ha⟩ := hp
  cases e with
  | normal => exact ha.continue hq
  | exit id => exact ⟨E', N', L', γ', R', hq, ha⟩
  | goto l => exact ⟨E', N', L', γ', R', hq, ha⟩
  | ret => exact ⟨E', N', L', γ', R', hq, ha⟩
  | panic ch => exact ⟨E', N', L', γ', R', hq, ha⟩
  | outgrown => exact ⟨E', N', L', γ', R', hq, ha⟩
theorem eval_tmp {tmps : Array Value} {ds : List Deferred} {t : Nat} {c : Value} (h : tmps[t]? = some c) : Act.eval ⟨tmps, ds⟩ (.tmp t) = c := by
  simp [Act.eval, Array.getD_eq_getD_getElem?, h]
theorem boolV_ok {w : World} {N L : Cells} {T : Loc → Option Value} {v : V} {c : Value} {S : Blocks} (h : RepV P w N L T v c S) {b : Bool} (hv : boolV v = some b) : c = .bool b := by
  cases h with
  | d x c R h => cases h with
    | sc _ hs =>
      cases c <;> simp [boolV] at hv
      exact congrArg _ hv
    | nl => simp [boolV] at hv
    | nil => simp [boolV] at hv
    | sl => simp [boolV] at hv
  | kt => simp [boolV] at hv; exact congrArg _ hv.symm
  | kf => simp [boolV] at hv; exact congrArg _ hv.symm
  | _ => simp [boolV] at hv
theorem AW.cond {t : Nat} {x y : Code} {v : V} {b : Bool} (hc : look E (.s t) = some v) (hv : boolV v = some b) (ht : b = true → AW P F n K x Q E) (hf : b = false → AW P F n K y Q E) : AW P F n K (.cond (.tmp t) x y) Q E := by
  intro w N L γ R tmps ds hr hn
  obtain ⟨c, h1, h2⟩ := hr.rep _ _ (look_mem hc)
  have hcb := boolV_ok h2 hv
  subst hcb
  exact wpIn_cond_split (eval_tmp h1) (fun e => ht e w N L γ R tmps ds hr hn) (fun e => hf e w N L γ R tmps ds hr hn)
def blockQ (id : Nat) (Q : Exit → Env → Prop) : Exit → Env → Prop
  | .exit id', E => if id' = id then Q .normal E else Q (.exit id') E
  | e, E => Q e E
theorem AW.block {id : Nat} {c : Code} (h : AW P F n K c (blockQ id Q) E) : AW P F n K (.block id c) Q E := by
  intro w N L γ R tmps ds hr hn
  refine wpIn_block (wpIn_mono (h w N L γ R tmps ds hr hn) fun e a' w' hp => ?_)
  obtain ⟨E', N', L', γ', R', hq, ha⟩ := hp
  cases e with
  | exit id' =>
    simp only [Exit.inBlock]
    simp only [blockQ] at hq
    split
    · rename_i e; rw [if_pos e] at hq; exact ⟨E', N', L', γ', R', hq, ha⟩
    · rename_i e; rw [if_neg e] at hq; exact ⟨E', N', L', γ', R', hq, ha⟩
  | normal => exact ⟨E', N', L', γ', R', hq, ha⟩
  | goto l => exact ⟨E', N', L', γ', R', hq, ha⟩
  | ret => exact ⟨E', N', L', γ', R', hq, ha⟩
  | panic ch => exact ⟨E', N', L', γ', R', hq, ha⟩
  | outgrown => exact ⟨E', N', L', γ', R', hq, ha⟩
theorem AW.loop {X : Type} {c : Code} (I : X → Env → Prop) (μ : X → Nat) (x₀ : X) (h₀ : I x₀ E)
    (round : ∀ x E, I x E → AW P F n K c (thenQ (fun E' => ∃ x', μ x' < μ x ∧ I x' E') Q) E) : AW P F n K (.loop c) Q E := by
  intro w N L γ R tmps ds hr hn
  have key : ∀ (j : Nat) (x : X) (E1 : Env) (a1 : Act) (w1 : World) (N1 L1 : Cells) (γ1 : Nat → Nat → Option Value) (R1 : Loc → Blocks), μ x < j → I x E1 → At P n K w N L R tmps ds E1 a1 w1 N1 L1 γ1 R1 →
      Code.roundsIn F 0 P c (Post P n K w N L R tmps ds Q) j a1 w1 := by
    intro j
    induction j with
    | zero => intro x _ _ _ _ _ _ _ h; omega
    | succ j ih =>
      intro x E1 a1 w1 N1 L1 γ1 R1 hj hI hA
      rw [roundsIn_succ]
      refine wpIn_mono (hA.continue (round x E1 hI)) fun e a' w' hp => ?_
      obtain ⟨E', N', L', γ', R', hq, ha⟩ := hp
      cases e with
      | normal =>
        obtain ⟨x', hlt, hI'⟩ := hq
        exact ih x' E' a' w' N' L' γ' R' (by omega) hI' ha
      | exit id => exact ⟨E', N', L', γ', R', hq, ha⟩
      | goto l => exact ⟨E', N', L', γ', R', hq, ha⟩
      | ret => exact ⟨E', N', L', γ', R', hq, ha⟩
      | panic ch => exact ⟨E', N', L', γ', R', hq, ha⟩
      | outgrown => exact ⟨E', N', L', γ', R', hq, ha⟩
  exact wpIn_loop_rounds _ (key (μ x₀ + 1) x₀ E ⟨tmps, ds⟩ w N L γ R (by omega) h₀ (At.start hr hn))
end rules
end Go.Proofs.VL
