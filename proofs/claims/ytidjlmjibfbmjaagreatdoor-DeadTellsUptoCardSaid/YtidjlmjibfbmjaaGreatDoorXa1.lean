/- An evaluator with truth values: closed runs are settled by the kernel. The words. -/
import Derived.Test.YtidjlmjibfbmjaaGreatDoorDl19
namespace Go.DL
namespace X
open Go.RowKit

noncomputable def force (n : Nat) (κ : Nat → Bool) : Bool := @Nat.rec (fun _ => Bool) (κ 0) (fun m _ => κ (Nat.succ m)) n
theorem force_eq (n : Nat) (κ : Nat → Bool) : force n κ = κ n := by cases n <;> rfl
noncomputable def forceI (n : Int) (κ : Int → Bool) : Bool := match n with
  | .ofNat m => force m fun m => κ (.ofNat m)
  | .negSucc m => force m fun m => κ (.negSucc m)
theorem forceI_eq (n : Int) (κ : Int → Bool) : forceI n κ = κ n := by
  cases n with
  | ofNat m => exact force_eq m fun m => κ (.ofNat m)
  | negSucc m => exact force_eq m fun m => κ (.negSucc m)
noncomputable def forceB (b : Bool) (κ : Bool → Bool) : Bool := match b with
  | true => κ true
  | false => κ false
theorem forceB_eq (b : Bool) (κ : Bool → Bool) : forceB b κ = κ b := by cases b <;> rfl

noncomputable def leI : Int → Int → Bool
  | .ofNat m, .ofNat n => Nat.ble m n
  | .negSucc _, .ofNat _ => true
  | .ofNat _, .negSucc _ => false
  | .negSucc m, .negSucc n => Nat.ble n m
theorem leI_eq (a b : Int) : leI a b = decide (a ≤ b) := by
  cases a with
  | ofNat m => cases b with
    | ofNat n => simp only [leI]; rw [Bool.eq_iff_iff, Nat.ble_eq, decide_eq_true_iff]; simp
    | negSucc n => simp only [leI]; symm; rw [decide_eq_false_iff_not]; simp only [Int.ofNat_eq_natCast]; omega
  | negSucc m => cases b with
    | ofNat n => simp only [leI]; symm; rw [decide_eq_true_iff]; simp only [Int.ofNat_eq_natCast]; omega
    | negSucc n => simp only [leI]; rw [Bool.eq_iff_iff, Nat.ble_eq, decide_eq_true_iff]; omega
noncomputable def eqI : Int → Int → Bool
  | .ofNat m, .ofNat n => Nat.beq m n
  | .negSucc m, .negSucc n => Nat.beq m n
  | _, _ => false
theorem eqI_eq (a b : Int) : eqI a b = decide (a = b) := by
  cases a <;> cases b <;> simp only [eqI] <;> first
    | (rw [Bool.eq_iff_iff, Nat.beq_eq, decide_eq_true_iff]; simp only [Int.ofNat.injEq, Int.negSucc.injEq]; done)
    | (rw [Bool.eq_iff_iff, Nat.beq_eq, decide_eq_true_iff]; simp; done)
    | (rw [Bool.eq_iff_iff, Nat.beq_eq, decide_eq_true_iff]; simp; omega)
    | (symm; rw [decide_eq_false_iff_not]; simp)

noncomputable def tiX (l : List (Nat × TI)) (t : Nat) (κ : TI → Bool) : Bool :=
  @List.rec (Nat × TI) (fun _ => Bool) false (fun p _ ih => @Bool.rec (fun _ => Bool) ih (κ p.2) (Nat.beq p.1 t)) l
theorem tiX_out {κ : TI → Bool} {K : TI → Prop} (h : ∀ x, κ x = true → K x) : ∀ {l : List (Nat × TI)} {t : Nat}, tiX l t κ = true → tiK l t K
  | p :: r, t, e => by
    have e : @Bool.rec (fun _ => Bool) (tiX r t κ) (κ p.2) (Nat.beq p.1 t) = true := e
    simp only [tiK]
    cases hb : Nat.beq p.1 t with
    | true => rw [hb] at e; exact h _ e
    | false => rw [hb] at e; exact tiX_out h e

section
variable {α : Type}
noncomputable def getX (l : List A) : Nat → (A → Bool) → Bool :=
  @List.rec A (fun _ => Nat → (A → Bool) → Bool) (fun _ κ => κ .undef) (fun x _ ih n κ => @Nat.rec (fun _ => Bool) (κ x) (fun m _ => ih m κ) n) l
theorem getX_out {κ : A → Bool} {K : A → Prop} (h : ∀ x, κ x = true → K x) : ∀ {l : List A} {n : Nat}, getX l n κ = true → getK l n K
  | [], _, e => h _ e
  | _ :: _, 0, e => h _ e
  | _ :: xs, n + 1, e => getX_out h (l := xs) (n := n) e
noncomputable def setX (l : List α) : Nat → α → (List α → Bool) → Bool :=
  @List.rec α (fun _ => Nat → α → (List α → Bool) → Bool) (fun _ _ κ => κ []) (fun x xs ih n v κ => @Nat.rec (fun _ => Bool) (κ (v :: xs)) (fun m _ => ih m v fun r => κ (x :: r)) n) l
theorem setX_eq : ∀ (l : List α) (n : Nat) (v : α) (κ : List α → Bool), setX l n v κ = κ (l.set n v)
  | [], _, _, _ => rfl
  | _ :: _, 0, _, _ => rfl
  | _ :: xs, n + 1, v, κ => setX_eq xs n v _
noncomputable def snocX (l : List α) : α → (List α → Bool) → Bool :=
  @List.rec α (fun _ => α → (List α → Bool) → Bool) (fun o κ => κ [o]) (fun x _ ih o κ => ih o fun r => κ (x :: r)) l
theorem snocX_eq : ∀ (l : List α) (v : α) (κ : List α → Bool), snocX l v κ = κ (l ++ [v])
  | [], _, _ => rfl
  | _ :: xs, v, κ => snocX_eq xs v _
noncomputable def lenX (l : List α) : Nat → (Nat → Bool) → Bool :=
  @List.rec α (fun _ => Nat → (Nat → Bool) → Bool) (fun n κ => κ n) (fun _ _ ih n κ => ih (Nat.succ n) κ) l
theorem lenX_eq : ∀ (l : List α) (n : Nat) (κ : Nat → Bool), lenX l n κ = κ (n + l.length)
  | [], _, _ => rfl
  | x :: xs, n, κ => by
    have : lenX (x :: xs) n κ = lenX xs (Nat.succ n) κ := rfl
    rw [this, lenX_eq xs]; congr 1; simp only [List.length_cons]; omega
noncomputable def takeX : List α → Nat → (List α → Bool) → Bool
  | _, 0, κ => κ []
  | [], _ + 1, _ => false
  | x :: xs, n + 1, κ => takeX xs n fun r => κ (x :: r)
theorem takeX_eq : ∀ (l : List α) (n : Nat) (κ : List α → Bool), takeX l n κ = true → n ≤ l.length ∧ κ (l.take n) = true
  | [], 0, _, h => ⟨Nat.le_refl _, h⟩
  | _ :: _, 0, _, h => ⟨Nat.zero_le _, h⟩
  | _ :: xs, n + 1, κ, h => by
    obtain ⟨h1, h2⟩ := takeX_eq xs n _ h
    exact ⟨Nat.succ_le_succ h1, h2⟩
noncomputable def dropX : List α → Nat → (List α → Bool) → Bool
  | l, 0, κ => κ l
  | [], _ + 1, _ => false
  | _ :: xs, n + 1, κ => dropX xs n κ
theorem dropX_eq : ∀ (l : List α) (n : Nat) (κ : List α → Bool), dropX l n κ = true → n ≤ l.length ∧ κ (l.drop n) = true
  | [], 0, _, h => ⟨Nat.le_refl _, h⟩
  | _ :: _, 0, _, h => ⟨Nat.zero_le _, h⟩
  | _ :: xs, n + 1, κ, h => by
    obtain ⟨h1, h2⟩ := dropX_eq xs n _ h
    exact ⟨Nat.succ_le_succ h1, h2⟩
noncomputable def appX : List α → List α → (List α → Bool) → Bool
  | [], ys, κ => κ ys
  | x :: xs, ys, κ => appX xs ys fun r => κ (x :: r)
theorem appX_eq : ∀ (l m : List α) (κ : List α → Bool), appX l m κ = κ (l ++ m)
  | [], _, _ => rfl
  | _ :: xs, m, κ => appX_eq xs m _
noncomputable def atX : List α → Nat → (α → Bool) → Bool
  | [], _, _ => false
  | x :: _, 0, κ => κ x
  | _ :: xs, n + 1, κ => atX xs n κ
theorem atX_eq : ∀ (l : List α) (n : Nat) (κ : α → Bool), atX l n κ = true → ∃ x, l[n]? = some x ∧ κ x = true
  | x :: _, 0, _, h => ⟨x, rfl, h⟩
  | _ :: xs, n + 1, κ, h => by
    obtain ⟨x, h1, h2⟩ := atX_eq xs n κ h
    exact ⟨x, by simpa using h1, h2⟩
theorem takeK_in {l : List α} : ∀ {n : Nat} {K : List α → Prop}, n ≤ l.length → K (l.take n) → takeK l n K := by
  induction l with
  | nil => intro n K h k; cases n with
    | zero => exact k
    | succ n => simp at h
  | cons x xs ih => intro n K h k; cases n with
    | zero => exact k
    | succ n => exact ih (Nat.le_of_succ_le_succ h) k
theorem dropK_in {l : List α} : ∀ {n : Nat} {K : List α → Prop}, n ≤ l.length → K (l.drop n) → dropK l n K := by
  induction l with
  | nil => intro n K h k; cases n with
    | zero => exact k
    | succ n => simp at h
  | cons x xs ih => intro n K h k; cases n with
    | zero => exact k
    | succ n => exact ih (Nat.le_of_succ_le_succ h) k
theorem takeX_out {κ : List α → Bool} {K : List α → Prop} (h : ∀ x, κ x = true → K x) {l : List α} {n : Nat} (e : takeX l n κ = true) : takeK l n K :=
  have ⟨h1, h2⟩ := takeX_eq _ _ _ e
  takeK_in h1 (h _ h2)
theorem dropX_out {κ : List α → Bool} {K : List α → Prop} (h : ∀ x, κ x = true → K x) {l : List α} {n : Nat} (e : dropX l n κ = true) : dropK l n K :=
  have ⟨h1, h2⟩ := dropX_eq _ _ _ e
  dropK_in h1 (h _ h2)
noncomputable def overX : List α → List α → (List α → Bool) → Bool
  | l, [], κ => κ l
  | [], _ :: _, _ => false
  | _ :: xs, v :: vs, κ => overX xs vs fun r => κ (v :: r)
theorem overX_out : ∀ {l vs : List α} {κ : List α → Bool} {K : List α → Prop}, (∀ x, κ x = true → K x) → overX l vs κ = true → overK l vs K
  | [], [], _, _, h, e => h _ e
  | _ :: _, [], _, _, h, e => h _ e
  | _ :: xs, _ :: vs, _, _, h, e => overX_out (l := xs) (vs := vs) (fun _ e' => h _ e') e
noncomputable def wrX : List α → Nat → List α → (List α → Bool) → Bool
  | l, 0, vs, κ => overX l vs κ
  | [], _ + 1, _, _ => false
  | x :: xs, n + 1, vs, κ => wrX xs n vs fun r => κ (x :: r)
theorem wrX_out : ∀ {l : List α} {n : Nat} {vs : List α} {κ : List α → Bool} {K : List α → Prop}, (∀ x, κ x = true → K x) → wrX l n vs κ = true → wrK l n vs K
  | [], 0, _, _, _, h, e => overX_out h e
  | _ :: _, 0, _, _, _, h, e => overX_out h e
  | _ :: xs, n + 1, _, _, _, h, e => wrX_out (l := xs) (n := n) (fun _ e' => h _ e') e
noncomputable def lenIsX : List α → Nat → Bool → Bool
  | [], 0, p => p
  | _ :: xs, n + 1, p => lenIsX xs n p
  | _, _, _ => false
theorem lenIsX_out : ∀ {l : List α} {n : Nat} {p : Bool} {q : Prop}, (p = true → q) → lenIsX l n p = true → lenIs l n q
  | [], 0, _, _, h, e => h e
  | _ :: xs, n + 1, _, _, h, e => lenIsX_out (l := xs) (n := n) h e
  | [], _ + 1, _, _, _, e => by simp [lenIsX] at e
  | _ :: _, 0, _, _, _, e => by simp [lenIsX] at e
noncomputable def obX (l : List Ob) : Nat → (Ob → Bool) → Bool :=
  @List.rec Ob (fun _ => Nat → (Ob → Bool) → Bool) (fun _ _ => false) (fun x _ ih n κ => @Nat.rec (fun _ => Bool) (κ x) (fun m _ => ih m κ) n) l
theorem obX_out {κ : Ob → Bool} {K : Ob → Prop} (h : ∀ x, κ x = true → K x) : ∀ {l : List Ob} {n : Nat}, obX l n κ = true → getO l n K
  | _ :: _, 0, e => h _ e
  | _ :: xs, n + 1, e => obX_out h (l := xs) (n := n) e
end

noncomputable def constX (v : Value) (κ : A → Bool) : Bool :=
  match v with
  | .int k n => (wfB k n).and (κ (.d (.i k n)))
  | .bool b => κ (.d (.b b))
  | .string s => (Nat.ble s.size 65536).and (κ (.d (.s s)))
  | .slice none 0 0 => κ .es
  | .pointer none => κ .nilp
  | .nilFunc => κ .nilf
  | .map none => κ .nilm
  | _ => false
theorem constX_out {κ : A → Bool} {K : A → Prop} (h : ∀ x, κ x = true → K x) {v : Value} (e : constX v κ = true) : constK v K := by
  unfold constX at e
  unfold constK
  split at e
  · rw [Bool.and_eq_true] at e
    simp only [e.1]
    exact h _ e.2
  · exact h _ e
  · rw [Bool.and_eq_true] at e
    simp only [e.1]
    exact h _ e.2
  · exact h _ e
  · exact h _ e
  · exact h _ e
  · exact h _ e
  · cases e
noncomputable def evX (env : List A) (x : Operand) (κ : A → Bool) : Bool :=
  match x with
  | .tmp t => getX env t κ
  | .const v => constX v κ
  | .func f => κ (.fn f [] [])
  | .global _ => false
theorem evX_out {κ : A → Bool} {K : A → Prop} (h : ∀ x, κ x = true → K x) {env : List A} {x : Operand} (e : evX env x κ = true) : evK env x K := by
  cases x with
  | tmp t => exact getX_out h e
  | const v => exact constX_out h e
  | func f => exact h _ e
  | global _ => simp [evX] at e
noncomputable def evsX (env : List A) : List Operand → (List A → Bool) → Bool
  | [], κ => κ []
  | x :: xs, κ => evX env x fun v => evsX env xs fun r => κ (v :: r)
theorem evsX_out {env : List A} : ∀ {xs : List Operand} {κ : List A → Bool} {K : List A → Prop}, (∀ x, κ x = true → K x) → evsX env xs κ = true → evsK env xs K
  | [], _, _, h, e => h _ e
  | _ :: xs, _, _, h, e => evX_out (fun _ e' => evsX_out (xs := xs) (fun _ e'' => h _ e'') e') e

noncomputable def cellsX (v : A) (κ : List A → Bool) : Bool :=
  match v with
  | .undef => false
  | .tup _ => false
  | .agg cs => κ cs
  | .d x => κ [.d x]
  | .ptr o q => κ [.ptr o q]
  | .fp r => κ [.fp r]
  | .vp o g i q => κ [.vp o g i q]
  | .vs o g q => κ [.vs o g q]
  | .es => κ [.es]
  | .fn f x y => κ [.fn f x y]
  | .nilp => κ [.nilp]
  | .nilf => κ [.nilf]
  | .mp o => κ [.mp o]
  | .nilm => κ [.nilm]
theorem cellsX_out {κ : List A → Bool} {K : List A → Prop} (h : ∀ x, κ x = true → K x) {v : A} (e : cellsX v κ = true) : cellsK v K := by
  cases v <;> first | exact h _ e | (simp [cellsX] at e)
noncomputable def allOneX : List A → Bool → Bool
  | [], p => p
  | x :: xs, p => match x.one with
    | true => allOneX xs p
    | false => false
theorem allOneX_out : ∀ {l : List A} {p : Bool} {q : Prop}, (p = true → q) → allOneX l p = true → allOne l q
  | [], _, _, h, e => h e
  | x :: xs, p, q, h, e => by
    simp only [allOneX] at e
    simp only [allOne]
    split at e
    · rename_i e1; rw [e1]; exact allOneX_out h e
    · cases e
noncomputable def dropNX {α : Type} (n : Nat) (l : List α) (κ : List α → Bool) : Bool := match n with
  | 0 => κ l
  | n + 1 => dropX l (n + 1) κ
theorem dropNX_out {α : Type} {κ : List α → Bool} {n : Nat} {l : List α} (e : dropNX n l κ = true) : κ (dropN n l) = true := by
  cases n with
  | zero => exact e
  | succ n => exact (dropX_eq _ _ _ e).2
noncomputable def unD : List A → (List D → Bool) → Bool
  | [], κ => κ []
  | .d x :: xs, κ => unD xs fun r => κ (x :: r)
  | _ :: _, _ => false
theorem unD_out : ∀ {l : List A} {κ : List D → Bool}, unD l κ = true → ∃ xs, l = mapD xs ∧ κ xs = true
  | [], _, e => ⟨[], rfl, e⟩
  | .d x :: xs, κ, e => by
    obtain ⟨ys, rfl, h⟩ := unD_out (l := xs) e
    exact ⟨x :: ys, rfl, h⟩
  | .undef :: _, _, e | .agg _ :: _, _, e | .tup _ :: _, _, e | .ptr .. :: _, _, e | .fp _ :: _, _, e | .vp .. :: _, _, e | .vs .. :: _, _, e | .es :: _, _, e | .fn .. :: _, _, e | .nilp :: _, _, e | .nilf :: _, _, e | .mp _ :: _, _, e | .nilm :: _, _, e => by simp [unD] at e
noncomputable def unRows : List (List A) → (List (List D) → Bool) → Bool
  | [], κ => κ []
  | r :: rs, κ => unD r fun x => unRows rs fun xs => κ (x :: xs)
theorem unRows_out : ∀ {l : List (List A)} {κ : List (List D) → Bool}, unRows l κ = true → ∃ rows, l = rows.map mapD ∧ κ rows = true
  | [], _, e => ⟨[], rfl, e⟩
  | r :: rs, κ, e => by
    obtain ⟨x, rfl, e1⟩ := unD_out (l := r) e
    obtain ⟨xs, rfl, e2⟩ := unRows_out (l := rs) e1
    exact ⟨x :: xs, rfl, e2⟩
noncomputable def toDX (x : A) (H : List Ob) (κ : D → List Ob → Bool) : Bool :=
  match x with
  | .d y => κ y H
  | .es => κ (.sl []) H
  | .vs o g off => obX H o fun ob => match ob with
    | .vec g' _ els => (Nat.beq g g').and (dropNX off els fun els => unRows els fun rows => setX H o .gone fun H' => κ (.sl rows) H')
    | _ => false
  | _ => false
theorem toDX_out {κ : D → List Ob → Bool} {K : D → List Ob → Prop} (h : ∀ x H, κ x H = true → K x H) {x : A} {H : List Ob} (e : toDX x H κ = true) : toDK x H K := by
  cases x <;> first | exact h _ _ e | (simp [toDX] at e; done) | skip
  rename_i o g off
  refine obX_out (fun ob e => ?_) e
  cases ob with
  | vec g' es els =>
    simp only [Bool.and_eq_true, Nat.beq_eq] at e
    obtain ⟨rows, h1, h2⟩ := unRows_out (dropNX_out e.2)
    refine ⟨e.1, rows, h1, setK_in (h _ _ ?_)⟩
    rwa [setX_eq] at h2
  | box cs => simp at e
  | map k es => simp at e
  | gone => simp at e

noncomputable def ldAX (ti : TI) (cs : List A) (off : Nat) (κ : A → Bool) : Bool :=
  dropX cs off fun l => match ti.k.agg with
    | true => takeX l ti.size fun r => κ (.agg r)
    | false => match l with
      | x :: _ => κ x
      | [] => false
theorem ldAX_out {κ : A → Bool} {K : A → Prop} (h : ∀ x, κ x = true → K x) {ti : TI} {cs : List A} {off : Nat} (e : ldAX ti cs off κ = true) : ldA ti cs off K := by
  refine dropX_out (fun l e => ?_) e
  cases hk : ti.k.agg with
  | true => rw [hk] at e; exact takeX_out (fun _ e => h _ e) e
  | false =>
    rw [hk] at e
    cases l with
    | nil => simp at e
    | cons x xs => exact h _ e
noncomputable def mapDX : List D → (List A → Bool) → Bool
  | [], κ => κ []
  | x :: xs, κ => mapDX xs fun r => κ (.d x :: r)
theorem mapDX_eq : ∀ (l : List D) (κ : List A → Bool), mapDX l κ = κ (mapD l)
  | [], _ => rfl
  | _ :: xs, κ => mapDX_eq xs _
noncomputable def ldDX (ti : TI) (row : List D) (κ : A → Bool) : Bool :=
  match ti.k.agg with
  | true => takeX row ti.size fun r => mapDX r fun r => κ (.agg r)
  | false => match row with
    | x :: _ => κ (.d x)
    | [] => false
theorem ldDX_out {κ : A → Bool} {K : A → Prop} (h : ∀ x, κ x = true → K x) {ti : TI} {row : List D} (e : ldDX ti row κ = true) : ldD ti row K := by
  unfold ldDX at e
  unfold ldD
  cases hk : ti.k.agg with
  | true => rw [hk] at e; exact takeX_out (fun _ e => h _ (by rwa [mapDX_eq] at e)) e
  | false =>
    rw [hk] at e
    cases row with
    | nil => simp at e
    | cons x xs => exact h _ e
end X
end Go.DL
