/- The evaluator: what a list of operations, a body, a function asks for (Prop valued, in continuation passing style, so that weak head reduction runs it). -/
import Derived.Test.YtidjlmjibfbmjaaGreatDoorDl1
namespace Go.DL

inductive TK where
  | int (k : IntKind)
  | bool
  | str
  | slice (e : Nat)
  | struct (fs : List (Nat × Nat))
  | arr (n e : Nat)
  | ptr (e : Nat)
  | map (k e : Nat)
  | fn
  | other
structure TI where
  k : TK
  size : Nat
  bytes : Nat
  zero : List A
def TK.agg : TK → Bool
  | .struct _ => true
  | .arr _ _ => true
  | _ => false

def tiK : List (Nat × TI) → Nat → (TI → Prop) → Prop
  | [], _, _ => False
  | p :: r, t, K => match Nat.beq p.1 t with
    | true => K p.2
    | false => tiK r t K

def nk (n : Nat) (K : Nat → Prop) : Prop :=
  match n with
  | 0 => K 0
  | 1 => K 1
  | 2 => K 2
  | 3 => K 3
  | 4 => K 4
  | 5 => K 5
  | 6 => K 6
  | 7 => K 7
  | 8 => K 8
  | 9 => K 9
  | 10 => K 10
  | 11 => K 11
  | 12 => K 12
  | 13 => K 13
  | 14 => K 14
  | 15 => K 15
  | 16 => K 16
  | 17 => K 17
  | 18 => K 18
  | 19 => K 19
  | 20 => K 20
  | 21 => K 21
  | 22 => K 22
  | 23 => K 23
  | 24 => K 24
  | 25 => K 25
  | 26 => K 26
  | 27 => K 27
  | 28 => K 28
  | 29 => K 29
  | 30 => K 30
  | 31 => K 31
  | 32 => K 32
  | 33 => K 33
  | 34 => K 34
  | 35 => K 35
  | 36 => K 36
  | 37 => K 37
  | 38 => K 38
  | 39 => K 39
  | 40 => K 40
  | 41 => K 41
  | 42 => K 42
  | 43 => K 43
  | 44 => K 44
  | 45 => K 45
  | 46 => K 46
  | 47 => K 47
  | 48 => K 48
  | 49 => K 49
  | 50 => K 50
  | 51 => K 51
  | 52 => K 52
  | 53 => K 53
  | 54 => K 54
  | 55 => K 55
  | 56 => K 56
  | 57 => K 57
  | 58 => K 58
  | 59 => K 59
  | 60 => K 60
  | 61 => K 61
  | 62 => K 62
  | 63 => K 63
  | n => K n

def getK : List A → Nat → (A → Prop) → Prop
  | [], _, K => K .undef
  | x :: _, 0, K => K x
  | _ :: xs, n + 1, K => getK xs n K
def setK {α : Type} : List α → Nat → α → (List α → Prop) → Prop
  | [], _, _, K => K []
  | _ :: xs, 0, v, K => K (v :: xs)
  | x :: xs, n + 1, v, K => setK xs n v fun r => K (x :: r)
def snocK {α : Type} : List α → α → (List α → Prop) → Prop
  | [], o, K => K [o]
  | x :: xs, o, K => snocK xs o fun r => K (x :: r)
def lenK : List Ob → Nat → (Nat → Prop) → Prop
  | [], n, K => nk n K
  | _ :: xs, n, K => lenK xs (n + 1) K
def takeK {α : Type} : List α → Nat → (List α → Prop) → Prop
  | _, 0, K => K []
  | [], _ + 1, _ => False
  | x :: xs, n + 1, K => takeK xs n fun r => K (x :: r)
def dropK {α : Type} : List α → Nat → (List α → Prop) → Prop
  | l, 0, K => K l
  | [], _ + 1, _ => False
  | _ :: xs, n + 1, K => dropK xs n K
def overK {α : Type} : List α → List α → (List α → Prop) → Prop
  | l, [], K => K l
  | [], _ :: _, _ => False
  | _ :: xs, v :: vs, K => overK xs vs fun r => K (v :: r)
def wrK {α : Type} : List α → Nat → List α → (List α → Prop) → Prop
  | l, 0, vs, K => overK l vs K
  | [], _ + 1, _, _ => False
  | x :: xs, n + 1, vs, K => wrK xs n vs fun r => K (x :: r)
def getO : List Ob → Nat → (Ob → Prop) → Prop
  | [], _, _ => False
  | x :: _, 0, K => K x
  | _ :: xs, n + 1, K => getO xs n K
def lenIs {α : Type} : List α → Nat → Prop → Prop
  | [], 0, p => p
  | _ :: xs, n + 1, p => lenIs xs n p
  | _, _, _ => False

def kMax : IntKind → Nat
  | .i8 => 127
  | .i16 => 32767
  | .i32 => 2147483647
  | .i64 => 9223372036854775807
  | .u8 => 255
  | .u16 => 65535
  | .u32 => 4294967295
  | .u64 => 18446744073709551615
def wfB (k : IntKind) (n : Int) : Bool :=
  match n with
  | .ofNat m => Nat.ble m (kMax k)
  | .negSucc m => match k with
    | .i8 => Nat.ble m 127
    | .i16 => Nat.ble m 32767
    | .i32 => Nat.ble m 2147483647
    | .i64 => Nat.ble m 9223372036854775807
    | _ => false
def constK (v : Value) (K : A → Prop) : Prop :=
  match v with
  | .int k n => match wfB k n with
    | true => K (.d (.i k n))
    | false => False
  | .bool b => K (.d (.b b))
  | .string s => match Nat.ble s.size 65536 with
    | true => K (.d (.s s))
    | false => False
  | .slice none 0 0 => K .es
  | .pointer none => K .nilp
  | .nilFunc => K .nilf
  | .map none => K .nilm
  | _ => False
def evK (env : List A) (x : Operand) (K : A → Prop) : Prop :=
  match x with
  | .tmp t => getK env t K
  | .const v => constK v K
  | .func f => K (.fn f [] [])
  | .global _ => False
def evsK (env : List A) : List Operand → (List A → Prop) → Prop
  | [], K => K []
  | x :: xs, K => evK env x fun v => evsK env xs fun r => K (v :: r)

def cellsK (v : A) (K : List A → Prop) : Prop :=
  match v with
  | .undef => False
  | .tup _ => False
  | .agg cs => K cs
  | .d x => K [.d x]
  | .ptr o q => K [.ptr o q]
  | .fp r => K [.fp r]
  | .vp o g i q => K [.vp o g i q]
  | .vs o g q => K [.vs o g q]
  | .es => K [.es]
  | .fn f x y => K [.fn f x y]
  | .nilp => K [.nilp]
  | .nilf => K [.nilf]
  | .mp o => K [.mp o]
  | .nilm => K [.nilm]
def allOne : List A → Prop → Prop
  | [], p => p
  | x :: xs, p => match x.one with
    | true => allOne xs p
    | false => False
def dropN {α : Type} : Nat → List α → List α
  | 0, l => l
  | n + 1, l => l.drop (n + 1)

def mapD : List D → List A
  | [] => []
  | x :: xs => .d x :: mapD xs
def toDK (x : A) (H : List Ob) (K : D → List Ob → Prop) : Prop :=
  match x with
  | .d y => K y H
  | .es => K (.sl []) H
  | .vs o g off => getO H o fun ob => match ob with
    | .vec g' _ els => g = g' ∧ ∃ rows : List (List D), dropN off els = rows.map mapD ∧ setK H o .gone fun H' => K (.sl rows) H'
    | _ => False
  | _ => False
def toDsK : List A → List Ob → (List D → List Ob → Prop) → Prop
  | [], H, K => K [] H
  | x :: xs, H, K => toDK x H fun y H' => toDsK xs H' fun r H'' => K (y :: r) H''

def ldA (ti : TI) (cs : List A) (off : Nat) (K : A → Prop) : Prop :=
  dropK cs off fun l => match ti.k.agg with
    | true => takeK l ti.size fun r => K (.agg r)
    | false => match l with
      | x :: _ => K x
      | [] => False
def ldD (ti : TI) (row : List D) (K : A → Prop) : Prop :=
  match ti.k.agg with
  | true => takeK row ti.size fun r => K (.agg (mapD r))
  | false => match row with
    | x :: _ => K (.d x)
    | [] => False

def intD (op : BinOp) (k : IntKind) (a b : Int) (K : A → Prop) : Prop :=
  match op with
  | .add => ∃ c, k.wrap (a + b) = c ∧ K (.d (.i k c))
  | .sub => ∃ c, k.wrap (a - b) = c ∧ K (.d (.i k c))
  | .mul => ∃ c, k.wrap (a * b) = c ∧ K (.d (.i k c))
  | .lss => K (.d (.b (decide (a < b))))
  | .leq => K (.d (.b (decide (a ≤ b))))
  | .gtr => K (.d (.b (decide (b < a))))
  | .geq => K (.d (.b (decide (b ≤ a))))
  | .eql => K (.d (.b (decide (a = b))))
  | .neq => K (.d (.b (!decide (a = b))))
  | _ => False
def eqK (op : BinOp) (t : Bool) (K : A → Prop) : Prop :=
  match op with
  | .eql => K (.d (.b t))
  | .neq => K (.d (.b (!t)))
  | _ => False
def strD (op : BinOp) (a b : ByteArray) (K : A → Prop) : Prop :=
  match op with
  | .add => a.size + b.size ≤ maxLen ∧ K (.d (.s (a ++ b)))
  | .eql => K (.d (.b (a.toList == b.toList)))
  | .neq => K (.d (.b (!(a.toList == b.toList))))
  | _ => False
def IntKind.same (j k : IntKind) (p : Prop) : Prop := match decide (j = k) with
  | true => p
  | false => False
def binD (Θ : List (Nat × TI)) (t : Nat) (op : BinOp) (x y : A) (H : List Ob) (K : A → Prop) : Prop :=
  match x with
  | .d (.i k a) => match y with
    | .d (.i k' b) => IntKind.same k k' (intD op k a b K)
    | _ => False
  | .d (.b a) => match y with
    | .d (.b b) => tiK Θ t fun ti => match ti.k with
      | .bool => eqK op (a == b) K
      | _ => False
    | _ => False
  | .d (.s a) => match y with
    | .d (.s b) => strD op a b K
    | _ => False
  | .ptr o _ => match y with
    | .nilp => tiK Θ t fun ti => match ti.k with
      | .ptr _ => getO H o fun ob => match ob with
        | .box _ => eqK op false K
        | _ => False
      | _ => False
    | _ => False
  | .nilp => match y with
    | .nilp => tiK Θ t fun ti => match ti.k with
      | .ptr _ => eqK op true K
      | _ => False
    | _ => False
  | _ => False

/-- a slice against the constant nil -/
def nilD (op : BinOp) (x : A) (H : List Ob) (K : A → Prop) : Prop :=
  match x with
  | .d (.sl els) => ∀ t : Bool, (t = true → els = []) → eqK op t K
  | .es => ∀ t : Bool, eqK op t K
  | .vs o g off => getO H o fun ob => match ob with
    | .vec g' _ els => g = g' ∧ ∀ t : Bool, (t = true → els.length = off) → eqK op t K
    | _ => False
  | _ => False

def lenD (k : TK) (x : A) (H : List Ob) (K : A → Prop) : Prop :=
  match k with
  | .slice _ => (match x with
    | .d (.sl els) => K (.d (.i .i64 els.length))
    | .es => K (.d (.i .i64 0))
    | .vs o g off => getO H o fun ob => match ob with
      | .vec g' _ els => g = g' ∧ match off with
        | 0 => K (.d (.i .i64 els.length))
        | n + 1 => K (.d (.i .i64 (els.length - (n + 1) : Nat)))
      | _ => False
    | _ => False)
  | .str => (match x with
    | .d (.s b) => K (.d (.i .i64 b.size))
    | _ => False)
  | .map _ _ => (match x with
    | .mp o => getO H o fun ob => match ob with
      | .map _ es => es.length ≤ maxLen ∧ K (.d (.i .i64 es.length))
      | _ => False
    | .nilm => K (.d (.i .i64 0))
    | _ => False)
  | _ => False

def intK (x : A) (K : Int → Prop) : Prop := match x with
  | .d (.i _ n) => K n
  | _ => False

/-- the rows that a slice holds now -/
def rowsK (y : A) (H : List Ob) (K : List (List A) → Prop) : Prop :=
  match y with
  | .d yd => (match yd with
    | .sl ys => K (ys.map mapD)
    | _ => False)
  | .es => K []
  | .vs o g off => getO H o fun ob => match ob with
    | .vec g' _ els => g = g' ∧ K (dropN off els)
    | _ => False
  | _ => False
def appD (ti : TI) (x y : A) (H : List Ob) (K : A → List Ob → Prop) : Prop :=
  rowsK y H fun ys => match x with
    | .es => (∀ r ∈ ys, r.length = ti.size) ∧ ys.length * ti.bytes ≤ 140737488355328 ∧ lenK H 0 fun n => snocK H (.vec 0 ti.size ys) fun H2 => K (.vs n 0 0) H2
    | .vs o g off => getO H o fun ob => match ob with
      | .vec g' es els => g = g' ∧ es = ti.size ∧ (∀ r ∈ ys, r.length = ti.size) ∧ ((dropN off els).length + ys.length) * ti.bytes ≤ 140737488355328 ∧
          setK H o (.vec (g + 1) es (dropN off els ++ ys)) fun H2 => K (.vs o (g + 1) 0) H2
      | _ => False
    | _ => False

def mapGet (es : List (Int × A)) (k : Int) : Option A := (es.find? fun e => e.1 == k).map (·.2)
def mapPut : List (Int × A) → Int → A → List (Int × A)
  | [], k, v => [(k, v)]
  | e :: es, k, v => if e.1 = k then (k, v) :: es else e :: mapPut es k v
def mapDel : List (Int × A) → Int → List (Int × A)
  | [], _ => []
  | e :: es, k => if e.1 = k then es else e :: mapDel es k

def keyK (kk : IntKind) (x : A) (K : Int → Prop) : Prop := match x with
  | .d (.i k n) => IntKind.same k kk (K n)
  | _ => False
def lkD (te : TI) (ok : Bool) (r : Option A) (K : A → Prop) : Prop :=
  match r with
  | some y => (match ok with
    | true => K (.tup [y, .d (.b true)])
    | false => K y)
  | none => (match te.k.agg with
    | true => (match ok with
      | true => K (.tup [.agg te.zero, .d (.b false)])
      | false => K (.agg te.zero))
    | false => (match te.zero with
      | [z] => (match ok with
        | true => K (.tup [z, .d (.b false)])
        | false => K z)
      | _ => False))
def appK {α : Type} : List α → List α → (List α → Prop) → Prop
  | [], ys, K => K ys
  | x :: xs, ys, K => appK xs ys fun r => K (x :: r)
def repA {α : Type} (xs : List α) : Nat → (List α → Prop) → Prop
  | 0, K => K []
  | n + 1, K => repA xs n fun r => appK xs r K
/-- the cells that a literal's parts give -/
def fillK (env : List A) (place : Nat → (Nat → Nat → Prop) → Prop) : List (Nat × Operand) → List A → (List A → Prop) → Prop
  | [], cs, K => K cs
  | p :: ps, cs, K => evK env p.2 fun v => cellsK v fun vc => place p.1 fun off size => lenIs vc size (wrK cs off vc fun cs' => fillK env place ps cs' K)
/-- cells in rows of n -/
def chunkK (n : Nat) : Nat → List A → (List (List A) → Prop) → Prop
  | 0, l, K => match l with
    | [] => K []
    | _ :: _ => False
  | m + 1, l, K => takeK l n fun r => dropK l n fun rest => chunkK n m rest fun rs => K (r :: rs)
def fieldK (fs : List (Nat × Nat)) (f : Nat) (K : Nat → Nat → Prop) : Prop :=
  match fs, f with
  | [], _ => False
  | x :: _, 0 => K x.1 x.2
  | _ :: xs, n + 1 => fieldK xs n K

def optK (env : List A) (x : Option Operand) (K : Option Int → Prop) : Prop :=
  match x with
  | none => K none
  | some y => evK env y fun v => intK v fun n => K (some n)
def slD (es : Nat) (x : A) (lo hi mx : Option Int) (H : List Ob) (K : A → List Ob → Prop) : Prop :=
  match mx with
  | some m => (match x with
    | .d (.sl _) => (match lo, hi with
      | none, some h => h = 0 ∧ m = 0 ∧ K .es H
      | some l, some h => l = 0 ∧ h = 0 ∧ m = 0 ∧ K .es H
      | _, _ => False)
    | .es => (match lo, hi with
      | none, some h => h = 0 ∧ m = 0 ∧ K .es H
      | some l, some h => l = 0 ∧ h = 0 ∧ m = 0 ∧ K .es H
      | _, _ => False)
    | _ => False)
  | none => (match x with
    | .d (.sl els) => (match lo, hi with
      | none, none => K (.d (.sl els)) H
      | some l, none => 0 ≤ l ∧ l ≤ els.length ∧ (∀ r ∈ els, r.length = es) ∧ K (.d (.sl (els.drop l.toNat))) H
      | none, some h => 0 ≤ h ∧ h ≤ els.length ∧ K (.d (.sl (els.take h.toNat))) H
      | some l, some h => 0 ≤ l ∧ l ≤ h ∧ h ≤ els.length ∧ (∀ r ∈ els, r.length = es) ∧ K (.d (.sl ((els.take h.toNat).drop l.toNat))) H)
    | .es => (match lo, hi with
      | none, none => K .es H
      | some l, none => l = 0 ∧ K .es H
      | none, some h => h = 0 ∧ K .es H
      | some l, some h => l = 0 ∧ h = 0 ∧ K .es H)
    | .vs o g off => getO H o fun ob => match ob with
      | .vec g' es' els => g = g' ∧ es' = es ∧ (match lo, hi with
        | none, none => K (.vs o g off) H
        | some l, none => 0 ≤ l ∧ ∃ m, off + l.toNat = m ∧ m ≤ els.length ∧ K (.vs o g m) H
        | none, some h => 0 ≤ h ∧ ∃ m, off + h.toNat = m ∧ m ≤ els.length ∧ setK H o (.vec (g + 1) es (els.take m)) fun H' => K (.vs o (g + 1) off) H'
        | _, _ => False)
      | _ => False
    | _ => False)
def stD (x : A) (lo hi mx : Option Int) (K : A → Prop) : Prop :=
  match mx with
  | some _ => False
  | none => (match x with
    | .d (.s b) => (match lo, hi with
      | none, none => K (.d (.s (b.extract 0 b.size)))
      | some l, none => 0 ≤ l ∧ l ≤ b.size ∧ K (.d (.s (b.extract l.toNat b.size)))
      | none, some h => 0 ≤ h ∧ h ≤ b.size ∧ K (.d (.s (b.extract 0 h.toNat)))
      | some l, some h => 0 ≤ l ∧ l ≤ h ∧ h ≤ b.size ∧ K (.d (.s (b.extract l.toNat h.toNat))))
    | _ => False)

/-- the rows behind the first n, cleared -/
def clearN (z : List A) : Nat → List (List A) → List (List A)
  | _, [] => []
  | 0, _ :: xs => z :: clearN z 0 xs
  | n + 1, x :: xs => x :: clearN z n xs
def opD (P : Program) (wb : World) (Θ : List (Nat × TI)) (o : Op) (env : List A) (H : List Ob) (K : A → List Ob → Prop) : Prop :=
  match o with
  | .move x => evK env x fun v => K v H
  | .assign x => evK env x fun v => K v H
  | .pick c x y => evK env c fun v => match v with
    | .d (.b t) => match t with
      | true => evK env x fun v => K v H
      | false => evK env y fun v => K v H
    | _ => False
  | .alloc t => tiK Θ t fun ti => lenK H 0 fun n => snocK H (.box ti.zero) fun H' => K (.ptr n 0) H'
  | .box _ x => evK env x fun v => cellsK v fun cs => lenK H 0 fun n => snocK H (.box cs) fun H' => K (.ptr n 0) H'
  | .build t parts => tiK Θ t fun ti => match ti.k with
    | .struct fs => fillK env (fun f K => fieldK fs f fun off ft => tiK Θ ft fun tf => K off tf.size) parts.toList ti.zero fun cs => K (.agg cs) H
    | .arr _ e => tiK Θ e fun te => fillK env (fun i K => nk (i * te.size) fun off => K off te.size) parts.toList ti.zero fun cs => K (.agg cs) H
    | _ => False
  | .buildSlice t n parts => tiK Θ t fun ti => match ti.k with
    | .slice e => tiK Θ e fun te => match Nat.ble 1 te.size && Nat.ble (n * te.size) 16777216 with
      | true => (match n with
        | 0 => (match parts.toList with
          | [] => K .es H
          | _ :: _ => False)
        | n + 1 => repA te.zero (n + 1) fun flat => fillK env (fun i K => nk (i * te.size) fun off => K off te.size) parts.toList flat fun cs =>
            allOne cs (chunkK te.size (n + 1) cs fun rows =>
              lenK H 0 fun k => snocK H (.vec 0 te.size rows) fun H2 => K (.vs k 0 0) H2))
      | false => False
    | _ => False
  | .load t x => tiK Θ t fun ti => evK env x fun v => match v with
    | .ptr o off => getO H o fun ob => match ob with
      | .box cs => ldA ti cs off fun r => K r H
      | _ => False
    | .fp row => ldD ti row fun r => K r H
    | .vp o g idx off => getO H o fun ob => match ob with
      | .vec g' _ els => g = g' ∧ ∃ row, els[idx]? = some row ∧ ldA ti row off fun r => K r H
      | _ => False
    | _ => False
  | .store t x y => tiK Θ t fun ti => evK env x fun p => evK env y fun v => cellsK v fun vc => lenIs vc ti.size (match p with
    | .ptr o off => allOne vc (getO H o fun ob => match ob with
      | .box cs => wrK cs off vc fun cs' => setK H o (.box cs') fun H' => K .undef H'
      | _ => False)
    | .vp o g idx off => allOne vc (getO H o fun ob => match ob with
      | .vec g' es els => g = g' ∧ match Nat.beq off 0 && Nat.beq ti.size es with
        | true => setK H o (.vec g es (els.set idx vc)) fun H' => K .undef H'
        | false => ∃ row, els[idx]? = some row ∧ wrK row off vc fun row' => setK H o (.vec g es (els.set idx row')) fun H' => K .undef H'
      | _ => False)
    | _ => False)
  | .nilCheck x => evK env x fun v => match v with
    | .ptr o off => getO H o fun ob => match ob with
      | .box _ => K (.ptr o off) H
      | _ => False
    | .fp row => K (.fp row) H
    | .vp o g i off => getO H o fun ob => match ob with
      | .vec g' _ _ => g = g' ∧ K (.vp o g i off) H
      | _ => False
    | .fn f fs cs => K (.fn f fs cs) H
    | _ => False
  | .binOp op t x y _ => evK env x fun a => match y with
    | .const (.slice none 0 0) => tiK Θ t fun ti => match ti.k with
      | .slice _ => nilD op a H fun v => K v H
      | _ => False
    | y => evK env y fun b => binD Θ t op a b H fun v => K v H
  | .unOp op _ x => evK env x fun a => match op, a with
    | .not, .d (.b t) => K (.d (.b (!t))) H
    | .neg, .d (.i k n) => ∃ c, k.wrap (0 - n) = c ∧ K (.d (.i k c)) H
    | _, _ => False
  | .convert src dst x => tiK Θ src fun _ => tiK Θ dst fun ti => evK env x fun a => match ti.k, a with
    | .int k', .d (.i _ n) => ∃ c, k'.wrap n = c ∧ K (.d (.i k' c)) H
    | _, _ => False
  | .makeFunc (.func f) fs cs => evsK env fs.toList fun x => evsK env cs.toList fun y => K (.fn f x y) H
  | .makeMap t r => match r with
    | none => tiK Θ t fun ti => match ti.k with
      | .map kt _ => tiK Θ kt fun tk => match tk.k with
        | .int k => lenK H 0 fun n => snocK H (.map k []) fun H' => K (.mp n) H'
        | _ => False
      | _ => False
    | _ => False
  | .makeSlice t l c => tiK Θ t fun ti => match ti.k with
    | .slice e => tiK Θ e fun te => evK env l fun lv => intK lv fun ln => evK env c fun cv => intK cv fun cn =>
        allOne te.zero (∃ m k : Nat, ln = m ∧ cn = k ∧ m ≤ k ∧ k * te.bytes ≤ 140737488355328 ∧ k ≤ maxLen ∧ 0 < te.size ∧
          lenK H 0 fun n => snocK H (.vec 0 te.size (List.replicate m te.zero)) fun H' => K (.vs n 0 0) H')
    | _ => False
  | .slice t x lo hi mx => tiK Θ t fun ti => evK env x fun v => optK env lo fun l => optK env hi fun h => optK env mx fun m => match ti.k with
    | .slice e => tiK Θ e fun te => slD te.size v l h m H K
    | .str => stD v l h m fun r => K r H
    | _ => False
  | .fieldAddr t x f => tiK Θ t fun ti => evK env x fun v => match ti.k with
    | .struct fs => fieldK fs f fun fo ft => tiK Θ ft fun tf => match Nat.ble 1 tf.size with
      | true => (match v with
        | .ptr o off => getO H o fun ob => match ob with
          | .box _ => nk (off + fo) fun q => K (.ptr o q) H
          | _ => False
        | .fp row => dropK row fo fun r => K (.fp r) H
        | .vp o g i off => getO H o fun ob => match ob with
          | .vec g' _ _ => g = g' ∧ nk (off + fo) fun q => K (.vp o g i q) H
          | _ => False
        | _ => False)
      | false => False
    | _ => False
  | .field t x f => tiK Θ t fun ti => evK env x fun v => match ti.k with
    | .struct fs => fieldK fs f fun fo ft => tiK Θ ft fun tf => (match v with
      | .agg cs => ldA tf cs fo fun r => K r H
      | _ => False)
    | _ => False
  | .indexAddr t x ix => tiK Θ t fun ti => match ti.k with
    | .slice e => tiK Θ e fun te => evK env x fun v => evK env ix fun iv => intK iv fun i => (match v with
      | .d (.sl els) => 0 ≤ i ∧ ∃ row, els[i.toNat]? = some row ∧ row.length = te.size ∧ K (.fp row) H
      | .vs o g off => getO H o fun ob => match ob with
        | .vec g' es els => g = g' ∧ es = te.size ∧ 0 ≤ i ∧ ∃ m, off + i.toNat = m ∧ m < els.length ∧ K (.vp o g m 0) H
        | _ => False
      | _ => False)
    | .arr n e => tiK Θ e fun te => evK env x fun v => evK env ix fun iv => intK iv fun i => (match v with
      | .ptr o off => getO H o fun ob => match ob with
        | .box _ => 0 ≤ i ∧ i < n ∧ nk (off + i.toNat * te.size) fun q => K (.ptr o q) H
        | _ => False
      | .fp row => 0 ≤ i ∧ i < n ∧ nk (i.toNat * te.size) fun q => dropK row q fun r => K (.fp r) H
      | _ => False)
    | _ => False
  | .index t x ix => tiK Θ t fun ti => evK env x fun v => evK env ix fun iv => intK iv fun i => match ti.k with
    | .arr n e => tiK Θ e fun te => (match v with
      | .agg cs => 0 ≤ i ∧ i < n ∧ nk (i.toNat * te.size) fun q => ldA te cs q fun r => K r H
      | _ => False)
    | .str => (match v with
      | .d (.s b) => 0 ≤ i ∧ ∃ c, b[i.toNat]? = some c ∧ K (.d (.i .u8 (c.toNat : Int))) H
      | _ => False)
    | _ => False
  | .lookup t x ix ok => tiK Θ t fun ti => match ti.k with
    | .map kt e => tiK Θ kt fun tk => match tk.k with
      | .int _ => tiK Θ e fun te => evK env x fun v => evK env ix fun iv => (match v with
        | .mp o => getO H o fun ob => match ob with
          | .map kk es => keyK kk iv fun k => ∃ r, mapGet es k = r ∧ lkD te ok r fun y => K y H
          | _ => False
        | _ => False)
      | _ => False
    | _ => False
  | .mapUpdate t x k y => tiK Θ t fun ti => match ti.k with
    | .map kt _ => tiK Θ kt fun tk => match tk.k with
      | .int _ => evK env x fun v => evK env k fun kv => evK env y fun yv => (match v with
        | .mp o => getO H o fun ob => match ob with
          | .map kk es => keyK kk kv fun n => setK H o (.map kk (mapPut es n yv)) fun H' => K .undef H'
          | _ => False
        | _ => False)
      | _ => False
    | _ => False
  | .extract x i => evK env x fun v => match v with
    | .tup vs => dropK vs i fun l => match l with
      | r :: _ => K r H
      | [] => False
    | _ => False
  | .call c => match c.callee with
    | .builtin .len => (match c.args.toList, c.argTypes.toList with
      | [x], [t] => tiK Θ t fun ti => evK env x fun v => lenD ti.k v H fun r => K r H
      | _, _ => False)
    | .builtin .append => (match c.args.toList, c.argTypes.toList with
      | [x, y], [t, t'] => (match Nat.beq t t' with
        | true => tiK Θ t fun ti => match ti.k with
          | .slice e => tiK Θ e fun te => (match Nat.ble 1 te.bytes && Nat.ble 1 te.size with
            | true => evK env x fun a => evK env y fun b => appD te a b H K
            | false => False)
          | _ => False
        | false => False)
      | _, _ => False)
    | .builtin .delete => (match c.args.toList, c.argTypes.toList with
      | [x, y], t :: _ => tiK Θ t fun ti => match ti.k with
        | .map kt _ => tiK Θ kt fun tk => match tk.k with
          | .int _ => evK env x fun v => evK env y fun kv => (match v with
            | .mp o => getO H o fun ob => match ob with
              | .map kk es => keyK kk kv fun k => setK H o (.map kk (mapDel es k)) fun H' => K (.tup []) H'
              | _ => False
            | _ => False)
          | _ => False
        | _ => False
      | _, _ => False)
    | .builtin .clear => (match c.args.toList, c.argTypes.toList with
      | [x], [t] => tiK Θ t fun ti => match ti.k with
        | .slice e => tiK Θ e fun te => evK env x fun v => (match v with
          | .es => K (.tup []) H
          | .vs o g off => allOne te.zero (getO H o fun ob => match ob with
            | .vec g' es els => g = g' ∧ es = te.size ∧ setK H o (.vec g es (clearN te.zero off els)) fun H' => K (.tup []) H'
            | _ => False)
          | _ => False)
        | _ => False
      | _, _ => False)
    | .value f => evK env f fun fv => evsK env c.args.toList fun xs => match fv with
      | .fn g fs cs => CallOk P wb g (fs ++ (xs ++ cs)) H K
      | _ => False
    | _ => False
  | _ => False

/-- a value is stored; what is true or false is told apart at once -/
def putK (env : List A) (dst : Option Nat) (v : A) (K : List A → Prop) : Prop :=
  match dst with
  | some d => (match v with
    | .d (.b t) => (match t with
      | true => setK env d (.d (.b true)) K
      | false => setK env d (.d (.b false)) K)
    | v => setK env d v K)
  | none => K env
def dstK (all : List Oper) (j : Nat) (K : Nat → Prop) : Prop :=
  match all, j with
  | [], _ => False
  | o :: _, 0 => match o.dst with
    | some d => K d
    | none => False
  | _ :: r, n + 1 => dstK r n K
/-- (a recursor, no recursion by equations: so that what is left to run looks alike to all who reduce it) -/
noncomputable def runOps (P : Program) (wb : World) (Θ : List (Nat × TI)) (all l : List Oper) : List A → List Ob → (List A → List Ob → Prop) → Prop :=
  @List.rec Oper (fun _ => List A → List Ob → (List A → List Ob → Prop) → Prop) (fun env H K => K env H)
    (fun o _ ih env H K =>
      match o.guard with
      | none => opD P wb Θ o.op env H fun v H' => putK env o.dst v fun env' => ih env' H' K
      | some (j, want) => dstK all j fun d => getK env d fun gv => match gv with
        | .d (.b t) => match t with
          | true => setK env d (.d (.b true)) fun env1 => match want with
            | true => opD P wb Θ o.op env1 H fun v H' => putK env1 o.dst v fun env' => ih env' H' K
            | false => putK env1 o.dst (.tup []) fun env' => ih env' H K
          | false => setK env d (.d (.b false)) fun env1 => match want with
            | false => opD P wb Θ o.op env1 H fun v H' => putK env1 o.dst v fun env' => ih env' H' K
            | true => putK env1 o.dst (.tup []) fun env' => ih env' H K
        | .tup _ => putK env o.dst (.tup []) fun env' => ih env' H K
        | _ => False) l
theorem runOps_cons (P : Program) (wb : World) (Θ : List (Nat × TI)) (all : List Oper) (o : Oper) (r : List Oper) (env : List A) (H : List Ob) (K : List A → List Ob → Prop) :
    runOps P wb Θ all (o :: r) env H K =
      match o.guard with
      | none => opD P wb Θ o.op env H fun v H' => putK env o.dst v fun env' => runOps P wb Θ all r env' H' K
      | some (j, want) => dstK all j fun d => getK env d fun gv => match gv with
        | .d (.b t) => match t with
          | true => setK env d (.d (.b true)) fun env1 => match want with
            | true => opD P wb Θ o.op env1 H fun v H' => putK env1 o.dst v fun env' => runOps P wb Θ all r env' H' K
            | false => putK env1 o.dst (.tup []) fun env' => runOps P wb Θ all r env' H K
          | false => setK env d (.d (.b false)) fun env1 => match want with
            | false => opD P wb Θ o.op env1 H fun v H' => putK env1 o.dst v fun env' => runOps P wb Θ all r env' H' K
            | true => putK env1 o.dst (.tup []) fun env' => runOps P wb Θ all r env' H K
        | .tup _ => putK env o.dst (.tup []) fun env' => runOps P wb Θ all r env' H K
        | _ => False := rfl

noncomputable def wpD (P : Program) (wb : World) (Θ : List (Nat × TI)) (c : Code) : List A → List Ob → (Ex → List A → List Ob → Prop) → Prop :=
  @Code.rec (fun _ => List A → List Ob → (Ex → List A → List Ob → Prop) → Prop)
    (fun env H Q => Q .normal env H)
    (fun n ops dr env H Q => match dr with
      | false => runOps P wb Θ ops.toList ops.toList env H fun e h => Q .normal e h
      | true => TriS P wb (.region n ops true) env H Q)
    (fun _ _ x y env H Q => x env H fun e env' H' => match e with
      | .normal => y env' H' Q
      | .exit i => Q (.exit i) env' H'
      | .ret => Q .ret env' H')
    (fun c _ _ x y env H Q => evK env c fun v => match v with
      | .d (.b t) => match t with
        | true => x env H Q
        | false => y env H Q
      | _ => False)
    (fun id _ b env H Q => b env H fun e env' H' => match e with
      | .exit i => match Nat.beq i id with
        | true => Q .normal env' H'
        | false => Q (.exit i) env' H'
      | .normal => Q .normal env' H'
      | .ret => Q .ret env' H')
    (fun b _ env H Q => TriS P wb (.loop b) env H Q)
    (fun _ _ _ _ _ _ _ _ _ => False)
    (fun id env H Q => Q (.exit id) env H)
    (fun _ ih env H Q => ih env H Q)
    (fun _ env H Q => Q .normal env H)
    (fun _ _ _ _ => False)
    (fun env H Q => Q .ret env H)
    (fun _ _ _ _ => False) c

/-- a function's results -/
def resK (Θ : List (Nat × TI)) (env : List A) (H : List Ob) : List ResultVar → (List A → Prop) → Prop
  | [], K => K []
  | r :: rs, K => (match r with
    | .tmp t => getK env t fun v => resK Θ env H rs fun l => K (v :: l)
    | .cell a t => tiK Θ t fun ti => getK env a fun p => match p with
      | .ptr o off => getO H o fun ob => match ob with
        | .box cs => ldA ti cs off fun v => resK Θ env H rs fun l => K (v :: l)
        | _ => False
      | _ => False)
def oneK (l : List A) (K : A → Prop) : Prop :=
  match l with
  | [v] => K v
  | l => K (.tup l)
noncomputable def wpF (P : Program) (wb : World) (Θ : List (Nat × TI)) (fn : Func) (xs : List A) (H : List Ob) (R : A → List Ob → Prop) : Prop :=
  match fn.body with
  | none => False
  | some c => wpD P wb Θ c (xs ++ List.replicate (fn.ntmps - xs.length) .undef) H fun e env' H' => match e with
    | .normal => resK Θ env' H' fn.results.toList fun l => oneK l fun r => R r H'
    | .ret => resK Θ env' H' fn.results.toList fun l => oneK l fun r => R r H'
    | .exit _ => False
end Go.DL
