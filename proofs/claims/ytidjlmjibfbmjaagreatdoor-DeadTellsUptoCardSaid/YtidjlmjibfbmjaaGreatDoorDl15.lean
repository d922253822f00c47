/- Operations that only look: what they yield does not change when objects are added. -/
import Derived.Test.YtidjlmjibfbmjaaGreatDoorDl14
namespace Go.DL
open Go.RowKit

def isStill : Op → Bool
  | .move _ => true
  | .assign _ => true
  | .pick .. => true
  | .load .. => true
  | .nilCheck _ => true
  | .binOp _ _ _ y _ => match y with
    | .const (.slice ..) => false
    | _ => true
  | .unOp .. => true
  | .convert .. => true
  | .makeFunc (.func _) .. => true
  | .fieldAddr .. => true
  | .field .. => true
  | .indexAddr .. => true
  | .index .. => true
  | .extract .. => true
  | .lookup .. => true
  | .build .. => true
  | .call c => match c.callee with
    | .builtin .len => true
    | _ => false
  | _ => false

theorem nk_in {n : Nat} {K : Nat → Prop} (h : K n) : nk n K := by
  unfold nk
  split <;> exact h
theorem getK_det : ∀ {env : List A} {n : Nat} {K : A → Prop}, getK env n K → ∃ y, K y ∧ ∀ K' : A → Prop, K' y → getK env n K'
  | [], _, _, h => ⟨_, h, fun _ h => h⟩
  | x :: _, 0, _, h => ⟨x, h, fun _ h => h⟩
  | _ :: xs, n + 1, K, h => getK_det (env := xs) (n := n) (K := K) h
theorem constK_det {v : Value} {K : A → Prop} (h : constK v K) : ∃ y, K y ∧ ∀ K' : A → Prop, K' y → constK v K' := by
  unfold constK at h
  split at h
  · rename_i k n
    split at h
    · rename_i e
      exact ⟨_, h, fun K' hk => by simp only [constK, e]; exact hk⟩
    · exact h.elim
  · exact ⟨_, h, fun _ h => h⟩
  · rename_i s
    split at h
    · rename_i e
      exact ⟨_, h, fun K' hk => by simp only [constK, e]; exact hk⟩
    · exact h.elim
  · exact ⟨_, h, fun _ h => h⟩
  · exact ⟨_, h, fun _ h => h⟩
  · exact ⟨_, h, fun _ h => h⟩
  · exact ⟨_, h, fun _ h => h⟩
  · exact h.elim
theorem evK_det {env : List A} {x : Operand} {K : A → Prop} (h : evK env x K) : ∃ y, K y ∧ ∀ K' : A → Prop, K' y → evK env x K' := by
  cases x with
  | tmp t => exact getK_det h
  | const v => exact constK_det h
  | global n => exact h.elim
  | func f => exact ⟨_, h, fun _ h => h⟩
theorem evsK_det {env : List A} : ∀ {xs : List Operand} {K : List A → Prop}, evsK env xs K → ∃ ys, K ys ∧ ∀ K' : List A → Prop, K' ys → evsK env xs K'
  | [], K, h => ⟨[], h, fun _ h => h⟩
  | x :: xs, K, h => by
    simp only [evsK] at h
    obtain ⟨y, h1, h2⟩ := evK_det h
    obtain ⟨ys, h3, h4⟩ := evsK_det h1
    exact ⟨_, h3, fun K' hk => h2 _ (h4 _ hk)⟩
theorem tiK_det {t : Nat} : ∀ {Θ : List (Nat × TI)} {K : TI → Prop}, tiK Θ t K → ∃ ti, K ti ∧ ∀ K' : TI → Prop, K' ti → tiK Θ t K'
  | [], _, h => h.elim
  | p :: r, K, h => by
    simp only [tiK] at h
    split at h
    · rename_i e
      exact ⟨_, h, fun K' hk => by simp only [tiK, e]; exact hk⟩
    · rename_i e
      obtain ⟨ti, h1, h2⟩ := tiK_det h
      exact ⟨ti, h1, fun K' hk => by simp only [tiK, e]; exact h2 _ hk⟩
theorem getO_ext : ∀ {H : List Ob} {o : Nat} {L : Ob → Prop}, getO H o L → ∃ ob, L ob ∧ ∀ (E : List Ob) (L' : Ob → Prop), L' ob → getO (H ++ E) o L'
  | [], _, _, h => h.elim
  | x :: _, 0, _, h => ⟨x, h, fun _ _ h => h⟩
  | _ :: xs, n + 1, L, h => getO_ext (H := xs) (o := n) (L := L) h
theorem dropK_det {α : Type} : ∀ {l : List α} {n : Nat} {K : List α → Prop}, dropK l n K → ∃ r, K r ∧ ∀ K' : List α → Prop, K' r → dropK l n K'
  | l, 0, _, h => by
    have h' : ∀ K' : List α → Prop, dropK l 0 K' = K' l := by intro K'; cases l <;> rfl
    rw [h'] at h
    exact ⟨l, h, fun K' hk => by rw [h']; exact hk⟩
  | [], n + 1, _, h => h.elim
  | _ :: xs, n + 1, K, h => dropK_det (l := xs) (n := n) (K := K) h
theorem takeK_det {α : Type} : ∀ {l : List α} {n : Nat} {K : List α → Prop}, takeK l n K → ∃ r, K r ∧ ∀ K' : List α → Prop, K' r → takeK l n K'
  | l, 0, _, h => by
    have h' : ∀ K' : List α → Prop, takeK l 0 K' = K' [] := by intro K'; cases l <;> rfl
    rw [h'] at h
    exact ⟨[], h, fun K' hk => by rw [h']; exact hk⟩
  | [], n + 1, _, h => h.elim
  | x :: xs, n + 1, K, h => by
    simp only [takeK] at h
    obtain ⟨r, h1, h2⟩ := takeK_det h
    exact ⟨_, h1, fun K' hk => h2 _ hk⟩
theorem ldA_det {ti : TI} {cs : List A} {off : Nat} {K : A → Prop} (h : ldA ti cs off K) : ∃ y, K y ∧ ∀ K' : A → Prop, K' y → ldA ti cs off K' := by
  unfold ldA at h
  obtain ⟨l, h1, h2⟩ := dropK_det h
  cases hk : ti.k.agg with
  | true =>
    rw [hk] at h1
    obtain ⟨r, h3, h4⟩ := takeK_det h1
    exact ⟨_, h3, fun K' hk' => h2 _ (by simp only [hk]; exact h4 _ hk')⟩
  | false =>
    rw [hk] at h1
    cases l with
    | nil => exact h1.elim
    | cons x xs => exact ⟨x, h1, fun K' hk' => h2 _ (by simp only [hk]; exact hk')⟩
theorem ldD_det {ti : TI} {row : List D} {K : A → Prop} (h : ldD ti row K) : ∃ y, K y ∧ ∀ K' : A → Prop, K' y → ldD ti row K' := by
  unfold ldD at h
  cases hk : ti.k.agg with
  | true =>
    rw [hk] at h
    obtain ⟨r, h3, h4⟩ := takeK_det h
    exact ⟨_, h3, fun K' hk' => by unfold ldD; simp only [hk]; exact h4 _ hk'⟩
  | false =>
    rw [hk] at h
    cases row with
    | nil => exact h.elim
    | cons x xs => exact ⟨_, h, fun K' hk' => by unfold ldD; simp only [hk]; exact hk'⟩
theorem intK_det {x : A} {K : Int → Prop} (h : intK x K) : ∃ n, K n ∧ ∀ K' : Int → Prop, K' n → intK x K' := by
  cases x with
  | d y => cases y with
    | i k n => exact ⟨n, h, fun _ h => h⟩
    | _ => exact h.elim
  | _ => exact h.elim
theorem fieldK_det : ∀ {fs : List (Nat × Nat)} {f : Nat} {K : Nat → Nat → Prop}, fieldK fs f K → ∃ a b, K a b ∧ ∀ K' : Nat → Nat → Prop, K' a b → fieldK fs f K'
  | [], _, _, h => h.elim
  | x :: _, 0, _, h => ⟨x.1, x.2, h, fun _ h => h⟩
  | _ :: xs, n + 1, K, h => fieldK_det (fs := xs) (f := n) (K := K) h
theorem same_det {j k : IntKind} {p : Prop} (h : IntKind.same j k p) : p ∧ ∀ p' : Prop, p' → IntKind.same j k p' := by
  unfold IntKind.same at h
  split at h
  · rename_i e
    exact ⟨h, fun p' hp => by unfold IntKind.same; simp only [e]; exact hp⟩
  · exact h.elim
theorem intD_det {op : BinOp} {k : IntKind} {a b : Int} {K : A → Prop} (h : intD op k a b K) : ∃ y, K y ∧ ∀ K' : A → Prop, K' y → intD op k a b K' := by
  cases op <;> first
    | exact h.elim
    | (obtain ⟨c, h1, h2⟩ := h; exact ⟨_, h2, fun K' hk => ⟨c, h1, hk⟩⟩)
    | exact ⟨_, h, fun _ h => h⟩
theorem eqK_det {op : BinOp} {t : Bool} {K : A → Prop} (h : eqK op t K) : ∃ y, K y ∧ ∀ K' : A → Prop, K' y → eqK op t K' := by
  cases op <;> first
    | exact h.elim
    | exact ⟨_, h, fun _ h => h⟩
theorem strD_det {op : BinOp} {a b : ByteArray} {K : A → Prop} (h : strD op a b K) : ∃ y, K y ∧ ∀ K' : A → Prop, K' y → strD op a b K' := by
  cases op <;> first
    | exact h.elim
    | (obtain ⟨h1, h2⟩ := h; exact ⟨_, h2, fun K' hk => ⟨h1, hk⟩⟩)
    | exact ⟨_, h, fun _ h => h⟩
theorem binD_ext {Θ : List (Nat × TI)} {t : Nat} {op : BinOp} {x y : A} {H : List Ob} {K : A → Prop} (h : binD Θ t op x y H K) : ∃ z, K z ∧ ∀ (E : List Ob) (K' : A → Prop), K' z → binD Θ t op x y (H ++ E) K' := by
  cases x with
  | d dx =>
    cases y with
    | d dy =>
      cases dx with
      | i k a =>
        cases dy with
        | i k' b =>
          obtain ⟨h1, h2⟩ := same_det h
          obtain ⟨z, h3, h4⟩ := intD_det h1
          exact ⟨z, h3, fun E K' hk => h2 _ (h4 _ hk)⟩
        | _ => exact h.elim
      | b a =>
        cases dy with
        | b b =>
          obtain ⟨ti, h1, h2⟩ := tiK_det h
          cases hk : ti.k with
          | bool =>
            rw [hk] at h1
            obtain ⟨z, h3, h4⟩ := eqK_det h1
            exact ⟨z, h3, fun E K' hk' => h2 _ (by simp only [hk]; exact h4 _ hk')⟩
          | _ => rw [hk] at h1; exact h1.elim
        | _ => exact h.elim
      | s a =>
        cases dy with
        | s b =>
          obtain ⟨z, h3, h4⟩ := strD_det h
          exact ⟨z, h3, fun E K' hk => h4 _ hk⟩
        | _ => exact h.elim
      | sl _ => exact h.elim
    | _ => cases dx <;> exact h.elim
  | ptr o q =>
    cases y with
    | nilp =>
      obtain ⟨ti, h1, h2⟩ := tiK_det h
      cases hk : ti.k with
      | ptr e =>
        rw [hk] at h1
        obtain ⟨ob, h3, h4⟩ := getO_ext h1
        cases ob with
        | box cs =>
          obtain ⟨z, h5, h6⟩ := eqK_det h3
          exact ⟨z, h5, fun E K' hk' => h2 _ (by simp only [hk]; exact h4 _ _ (h6 _ hk'))⟩
        | _ => exact h3.elim
      | _ => rw [hk] at h1; exact h1.elim
    | _ => exact h.elim
  | nilp =>
    cases y with
    | nilp =>
      obtain ⟨ti, h1, h2⟩ := tiK_det h
      cases hk : ti.k with
      | ptr e =>
        rw [hk] at h1
        obtain ⟨z, h5, h6⟩ := eqK_det h1
        exact ⟨z, h5, fun E K' hk' => h2 _ (by simp only [hk]; exact h6 _ hk')⟩
      | _ => rw [hk] at h1; exact h1.elim
    | _ => exact h.elim
  | _ => exact h.elim
theorem lenD_ext {k : TK} {x : A} {H : List Ob} {K : A → Prop} (h : lenD k x H K) : ∃ z, K z ∧ ∀ (E : List Ob) (K' : A → Prop), K' z → lenD k x (H ++ E) K' := by
  cases k with
  | slice e =>
    cases x with
    | d y => cases y with
      | sl els => exact ⟨_, h, fun _ _ h => h⟩
      | _ => exact h.elim
    | es => exact ⟨_, h, fun _ _ h => h⟩
    | vs o g off =>
      obtain ⟨ob, h1, h2⟩ := getO_ext h
      cases ob with
      | vec g' es els =>
        obtain ⟨e1, h3⟩ := h1
        cases off with
        | zero => exact ⟨_, h3, fun E K' hk => h2 _ _ ⟨e1, hk⟩⟩
        | succ n => exact ⟨_, h3, fun E K' hk => h2 _ _ ⟨e1, hk⟩⟩
      | _ => exact h1.elim
    | _ => exact h.elim
  | str =>
    cases x with
    | d y => cases y with
      | s b => exact ⟨_, h, fun _ _ h => h⟩
      | _ => exact h.elim
    | _ => exact h.elim
  | map a b =>
    cases x with
    | mp o =>
      obtain ⟨ob, h1, h2⟩ := getO_ext h
      cases ob with
      | map kk es => exact ⟨_, h1.2, fun E K' hk => h2 _ _ ⟨h1.1, hk⟩⟩
      | _ => exact h1.elim
    | nilm => exact ⟨_, h, fun _ _ h => h⟩
    | _ => exact h.elim
  | _ => exact h.elim
theorem keyK_det {kk : IntKind} {x : A} {K : Int → Prop} (h : keyK kk x K) : ∃ n, K n ∧ ∀ K' : Int → Prop, K' n → keyK kk x K' := by
  cases x with
  | d y => cases y with
    | i k n =>
      obtain ⟨h1, h2⟩ := same_det h
      exact ⟨n, h1, fun K' hk => h2 _ hk⟩
    | _ => exact h.elim
  | _ => exact h.elim
theorem lkD_det {te : TI} {ok : Bool} {r : Option A} {K : A → Prop} (h : lkD te ok r K) : ∃ z, K z ∧ ∀ K' : A → Prop, K' z → lkD te ok r K' := by
  cases r with
  | some y => cases ok <;> exact ⟨_, h, fun _ h => h⟩
  | none =>
    simp only [lkD] at h
    cases hk : te.k.agg with
    | true =>
      rw [hk] at h
      cases ok <;> exact ⟨_, h, fun K' hk' => by simp only [lkD, hk]; exact hk'⟩
    | false =>
      rw [hk] at h
      cases hz : te.zero with
      | nil => rw [hz] at h; exact h.elim
      | cons z zs =>
        cases zs with
        | nil =>
          rw [hz] at h
          cases ok <;> exact ⟨_, h, fun K' hk' => by simp only [lkD, hk, hz]; exact hk'⟩
        | cons _ _ => rw [hz] at h; exact h.elim

theorem overK_det {α : Type} : ∀ {l vs : List α} {K : List α → Prop}, overK l vs K → ∃ r, K r ∧ ∀ K' : List α → Prop, K' r → overK l vs K'
  | l, [], K, h => by
    cases l <;> exact ⟨_, h, fun _ k => k⟩
  | _ :: xs, v :: vs, K, h => by
    obtain ⟨r, h1, h2⟩ := overK_det (l := xs) (vs := vs) h
    exact ⟨_, h1, fun K' k => h2 (fun r => K' (v :: r)) k⟩
theorem overK_det' {α : Type} {l vs : List α} {K : List α → Prop} (h : overK l vs K) : ∃ r, K r ∧ ∀ K' : List α → Prop, K' r → overK l vs K' := overK_det h
theorem wrK_det {α : Type} : ∀ {l : List α} {n : Nat} {vs : List α} {K : List α → Prop}, wrK l n vs K → ∃ r, K r ∧ ∀ K' : List α → Prop, K' r → wrK l n vs K'
  | l, 0, vs, K, h => by
    cases l <;> exact overK_det' h
  | x :: xs, n + 1, vs, K, h => by
    obtain ⟨r, h1, h2⟩ := wrK_det (l := xs) (n := n) h
    exact ⟨_, h1, fun K' k => h2 (fun r => K' (x :: r)) k⟩
theorem lenIs_det {α : Type} : ∀ {l : List α} {n : Nat} {p : Prop}, lenIs l n p → p ∧ ∀ p' : Prop, p' → lenIs l n p'
  | [], 0, _, h => ⟨h, fun _ k => k⟩
  | _ :: xs, n + 1, _, h => lenIs_det (l := xs) (n := n) h
theorem cellsK_det {v : A} {K : List A → Prop} (h : cellsK v K) : ∃ r, K r ∧ ∀ K' : List A → Prop, K' r → cellsK v K' := by
  cases v <;> first
    | exact ⟨_, h, fun _ k => k⟩
    | exact h.elim
theorem fillK_det {env : List A} {place : Nat → (Nat → Nat → Prop) → Prop} (hp : ∀ (n : Nat) (K : Nat → Nat → Prop), place n K → ∃ a b, K a b ∧ ∀ K' : Nat → Nat → Prop, K' a b → place n K') :
    ∀ {ps : List (Nat × Operand)} {cs : List A} {K : List A → Prop}, fillK env place ps cs K → ∃ r, K r ∧ ∀ K' : List A → Prop, K' r → fillK env place ps cs K'
  | [], cs, K, h => ⟨cs, h, fun _ k => k⟩
  | p :: ps, cs, K, h => by
    obtain ⟨v, h1, k1⟩ := evK_det h
    obtain ⟨vc, h2, k2⟩ := cellsK_det h1
    obtain ⟨a, b, h3, k3⟩ := hp _ _ h2
    obtain ⟨h4, k4⟩ := lenIs_det h3
    obtain ⟨cs', h5, k5⟩ := wrK_det h4
    obtain ⟨r, h6, k6⟩ := fillK_det hp (ps := ps) h5
    exact ⟨r, h6, fun K' k => k1 _ (k2 _ (k3 _ (k4 _ (k5 _ (k6 _ k)))))⟩
theorem still_ext {P : Program} {wb : World} {Θ : List (Nat × TI)} {o : Op} (ho : isStill o = true) {env : List A} {H : List Ob} {K : A → List Ob → Prop} (h : opD P wb Θ o env H K) :
    ∃ x, K x H ∧ ∀ (E : List Ob) (K' : A → List Ob → Prop), K' x (H ++ E) → opD P wb Θ o env (H ++ E) K' := by
  cases o with
  | move x => obtain ⟨y, h1, h2⟩ := evK_det h; exact ⟨y, h1, fun E K' hk => h2 _ hk⟩
  | assign x => obtain ⟨y, h1, h2⟩ := evK_det h; exact ⟨y, h1, fun E K' hk => h2 _ hk⟩
  | pick c x y =>
    obtain ⟨v, h1, h2⟩ := evK_det h
    cases v with
    | d z => cases z with
      | b t =>
        cases t with
        | true => obtain ⟨y, h3, h4⟩ := evK_det h1; exact ⟨y, h3, fun E K' hk => h2 _ (h4 _ hk)⟩
        | false => obtain ⟨y, h3, h4⟩ := evK_det h1; exact ⟨y, h3, fun E K' hk => h2 _ (h4 _ hk)⟩
      | _ => exact h1.elim
    | _ => exact h1.elim
  | build t parts =>
    obtain ⟨ti, h1, h2⟩ := tiK_det h
    cases hk : ti.k <;> simp only [hk] at h1
    case struct fs =>
      obtain ⟨r, h3, h4⟩ := fillK_det (fun n K h => by
        obtain ⟨a, b, h1, k1⟩ := fieldK_det h
        obtain ⟨tf, h2, k2⟩ := tiK_det h1
        exact ⟨_, _, h2, fun K' k => k1 _ (k2 _ k)⟩) h1
      refine ⟨_, h3, fun E K' k => h2 _ ?_⟩
      simp only [hk]
      exact h4 _ k
    case arr n e =>
      obtain ⟨te, h5, h6⟩ := tiK_det h1
      obtain ⟨r, h3, h4⟩ := fillK_det (place := fun i K => nk (i * te.size) fun off => K off te.size) (fun n K h => ⟨n * te.size, te.size, nk_out (K := fun off => K off te.size) h, fun K' k => nk_in (K := fun off => K' off te.size) k⟩) h5
      refine ⟨_, h3, fun E K' k => h2 _ ?_⟩
      simp only [hk]
      exact h6 _ (h4 _ k)
  | load t x =>
    obtain ⟨ti, h1, h2⟩ := tiK_det h
    obtain ⟨v, h3, h4⟩ := evK_det h1
    cases v with
    | ptr ob off =>
      obtain ⟨b, h5, h6⟩ := getO_ext h3
      cases b with
      | box cs =>
        obtain ⟨y, h7, h8⟩ := ldA_det h5
        exact ⟨y, h7, fun E K' hk => h2 _ (h4 _ (h6 _ _ (h8 _ hk)))⟩
      | _ => exact h5.elim
    | fp row =>
      obtain ⟨y, h7, h8⟩ := ldD_det h3
      exact ⟨y, h7, fun E K' hk => h2 _ (h4 _ (h8 _ hk))⟩
    | vp ob g idx off =>
      obtain ⟨b, h5, h6⟩ := getO_ext h3
      cases b with
      | vec g' es els =>
        obtain ⟨e, row, hr, h7⟩ := h5
        obtain ⟨y, h10, h11⟩ := ldA_det h7
        exact ⟨y, h10, fun E K' hk => h2 _ (h4 _ (h6 _ _ ⟨e, row, hr, h11 _ hk⟩))⟩
      | _ => exact h5.elim
    | _ => exact h3.elim
  | nilCheck x =>
    obtain ⟨v, h3, h4⟩ := evK_det h
    cases v with
    | ptr ob off =>
      obtain ⟨b, h5, h6⟩ := getO_ext h3
      cases b with
      | box cs => exact ⟨_, h5, fun E K' hk => h4 _ (h6 _ _ hk)⟩
      | _ => exact h5.elim
    | fp row => exact ⟨_, h3, fun E K' hk => h4 _ hk⟩
    | vp ob g idx off =>
      obtain ⟨b, h5, h6⟩ := getO_ext h3
      cases b with
      | vec g' es els => exact ⟨_, h5.2, fun E K' hk => h4 _ (h6 _ _ ⟨h5.1, hk⟩)⟩
      | _ => exact h5.elim
    | fn f fs cs => exact ⟨_, h3, fun E K' hk => h4 _ hk⟩
    | _ => exact h3.elim
  | binOp op t x y b =>
    have gen : (∀ (env : List A) (H : List Ob) (K : A → List Ob → Prop), opD P wb Θ (.binOp op t x y b) env H K = evK env x fun a => evK env y fun b => binD Θ t op a b H fun v => K v H) →
        ∃ x_1, K x_1 H ∧ ∀ (E : List Ob) (K' : A → List Ob → Prop), K' x_1 (H ++ E) → opD P wb Θ (.binOp op t x y b) env (H ++ E) K' := by
      intro e
      rw [e] at h
      obtain ⟨v, h1, h2⟩ := evK_det h
      obtain ⟨u, h3, h4⟩ := evK_det h1
      obtain ⟨z, h5, h6⟩ := binD_ext h3
      refine ⟨z, h5, fun E K' hk => ?_⟩
      rw [e]
      exact h2 _ (h4 _ (h6 _ _ hk))
    cases y with
    | const c =>
      cases c with
      | slice _ _ _ => cases ho
      | _ => exact gen (fun _ _ _ => rfl)
    | _ => exact gen (fun _ _ _ => rfl)
  | unOp op t x =>
    obtain ⟨v, h1, h2⟩ := evK_det h
    cases op with
    | not =>
      cases v with
      | d z => cases z with
        | b t => exact ⟨_, h1, fun E K' hk => h2 _ hk⟩
        | _ => exact h1.elim
      | _ => exact h1.elim
    | neg =>
      cases v with
      | d z => cases z with
        | i k n =>
          obtain ⟨c, h3, h4⟩ := h1
          exact ⟨_, h4, fun E K' hk => h2 _ ⟨c, h3, hk⟩⟩
        | _ => exact h1.elim
      | _ => exact h1.elim
    | _ => exact h1.elim
  | convert s d x =>
    obtain ⟨ti, h1, h2⟩ := tiK_det h
    obtain ⟨ti', h3, h4⟩ := tiK_det h1
    obtain ⟨v, h5, h6⟩ := evK_det h3
    cases hk : ti'.k with
    | int k' =>
      rw [hk] at h5
      cases v with
      | d z => cases z with
        | i k n =>
          obtain ⟨c, h7, h8⟩ := h5
          exact ⟨_, h8, fun E K' hk' => h2 _ (h4 _ (h6 _ (by simp only [hk]; exact ⟨c, h7, hk'⟩)))⟩
        | _ => exact h5.elim
      | _ => exact h5.elim
    | _ => rw [hk] at h5; exact h5.elim
  | makeFunc f fs cs =>
    cases f with
    | func f =>
      obtain ⟨xs, h1, h2⟩ := evsK_det h
      obtain ⟨ys, h3, h4⟩ := evsK_det h1
      exact ⟨_, h3, fun E K' hk => h2 _ (h4 _ hk)⟩
    | _ => exact h.elim
  | fieldAddr t x f =>
    obtain ⟨ti, h1, h2⟩ := tiK_det h
    obtain ⟨v, h3, h4⟩ := evK_det h1
    cases hk : ti.k with
    | struct fs =>
      rw [hk] at h3
      obtain ⟨fo, ft, h5, h6⟩ := fieldK_det h3
      obtain ⟨tf, h7, h8⟩ := tiK_det h5
      cases hb : Nat.ble 1 tf.size with
      | false => rw [hb] at h7; exact h7.elim
      | true =>
        rw [hb] at h7
        have back : ∀ (E : List Ob) (K' : A → List Ob → Prop), (match (generalizing := false) v with
            | .ptr o off => getO (H ++ E) o fun ob => match ob with
              | .box _ => nk (off + fo) fun q => K' (.ptr o q) (H ++ E)
              | _ => False
            | .fp row => dropK row fo fun r => K' (.fp r) (H ++ E)
            | .vp o g i off => getO (H ++ E) o fun ob => match ob with
              | .vec g' _ _ => g = g' ∧ nk (off + fo) fun q => K' (.vp o g i q) (H ++ E)
              | _ => False
            | _ => False) → opD P wb Θ (.fieldAddr t x f) env (H ++ E) K' := by
          intro E K' hh
          refine h2 _ (h4 _ ?_)
          simp only [hk]
          refine h6 _ (h8 _ ?_)
          simp only [hb]
          exact hh
        cases v with
        | ptr ob off =>
          obtain ⟨b, h9, h10⟩ := getO_ext h7
          cases b with
          | box cs => exact ⟨_, nk_out h9, fun E K' hk' => back E K' (h10 _ _ (nk_in hk'))⟩
          | _ => exact h9.elim
        | fp row =>
          obtain ⟨r, h9, h10⟩ := dropK_det h7
          exact ⟨_, h9, fun E K' hk' => back E K' (h10 _ hk')⟩
        | vp ob g i off =>
          obtain ⟨b, h9, h10⟩ := getO_ext h7
          cases b with
          | vec g' es els => exact ⟨_, nk_out h9.2, fun E K' hk' => back E K' (h10 _ _ ⟨h9.1, nk_in hk'⟩)⟩
          | _ => exact h9.elim
        | _ => exact h7.elim
    | _ => rw [hk] at h3; exact h3.elim
  | field t x f =>
    obtain ⟨ti, h1, h2⟩ := tiK_det h
    obtain ⟨v, h3, h4⟩ := evK_det h1
    cases hk : ti.k with
    | struct fs =>
      rw [hk] at h3
      obtain ⟨fo, ft, h5, h6⟩ := fieldK_det h3
      obtain ⟨tf, h7, h8⟩ := tiK_det h5
      cases v with
      | agg cs =>
        obtain ⟨y, h9, h10⟩ := ldA_det h7
        refine ⟨y, h9, fun E K' hk' => h2 _ (h4 _ ?_)⟩
        simp only [hk]
        exact h6 _ (h8 _ (h10 _ hk'))
      | _ => exact h7.elim
    | _ => rw [hk] at h3; exact h3.elim
  | indexAddr t x ix =>
    obtain ⟨ti, h1, h2⟩ := tiK_det h
    cases hk : ti.k with
    | slice e =>
      rw [hk] at h1
      obtain ⟨te, h3, h4⟩ := tiK_det h1
      obtain ⟨v, h5, h6⟩ := evK_det h3
      obtain ⟨iv, h7, h8⟩ := evK_det h5
      obtain ⟨n, h9, h10⟩ := intK_det h7
      have back : ∀ (E : List Ob) (K' : A → List Ob → Prop), (match (generalizing := false) v with
          | .d (.sl els) => 0 ≤ n ∧ ∃ row, els[n.toNat]? = some row ∧ row.length = te.size ∧ K' (.fp row) (H ++ E)
          | .vs o g off => getO (H ++ E) o fun ob => match ob with
            | .vec g' es els => g = g' ∧ es = te.size ∧ 0 ≤ n ∧ ∃ m, off + n.toNat = m ∧ m < els.length ∧ K' (.vp o g m 0) (H ++ E)
            | _ => False
          | _ => False) → opD P wb Θ (.indexAddr t x ix) env (H ++ E) K' := by
        intro E K' hh
        refine h2 _ ?_
        simp only [hk]
        exact h4 _ (h6 _ (h8 _ (h10 _ hh)))
      cases v with
      | d z => cases z with
        | sl els =>
          obtain ⟨k1, row, k2, k3, k4⟩ := h9
          exact ⟨_, k4, fun E K' hk' => back E K' ⟨k1, row, k2, k3, hk'⟩⟩
        | _ => exact h9.elim
      | vs ob g off =>
        obtain ⟨b, k1, k2⟩ := getO_ext h9
        cases b with
        | vec g' es els =>
          obtain ⟨m1, m2, m3, m, m4, m5, m6⟩ := k1
          exact ⟨_, m6, fun E K' hk' => back E K' (k2 _ _ ⟨m1, m2, m3, m, m4, m5, hk'⟩)⟩
        | _ => exact k1.elim
      | _ => exact h9.elim
    | arr m e =>
      rw [hk] at h1
      obtain ⟨te, h3, h4⟩ := tiK_det h1
      obtain ⟨v, h5, h6⟩ := evK_det h3
      obtain ⟨iv, h7, h8⟩ := evK_det h5
      obtain ⟨n, h9, h10⟩ := intK_det h7
      have back : ∀ (E : List Ob) (K' : A → List Ob → Prop), (match (generalizing := false) v with
          | .ptr o off => getO (H ++ E) o fun ob => match ob with
            | .box _ => 0 ≤ n ∧ n < m ∧ nk (off + n.toNat * te.size) fun q => K' (.ptr o q) (H ++ E)
            | _ => False
          | .fp row => 0 ≤ n ∧ n < m ∧ nk (n.toNat * te.size) fun q => dropK row q fun r => K' (.fp r) (H ++ E)
          | _ => False) → opD P wb Θ (.indexAddr t x ix) env (H ++ E) K' := by
        intro E K' hh
        refine h2 _ ?_
        simp only [hk]
        exact h4 _ (h6 _ (h8 _ (h10 _ hh)))
      cases v with
      | ptr ob off =>
        obtain ⟨b, k1, k2⟩ := getO_ext h9
        cases b with
        | box cs =>
          obtain ⟨m1, m2, m3⟩ := k1
          exact ⟨_, nk_out m3, fun E K' hk' => back E K' (k2 _ _ ⟨m1, m2, nk_in hk'⟩)⟩
        | _ => exact k1.elim
      | fp row =>
        obtain ⟨m1, m2, m3⟩ := h9
        obtain ⟨r, k1, k2⟩ := dropK_det (nk_out m3)
        exact ⟨_, k1, fun E K' hk' => back E K' ⟨m1, m2, nk_in (k2 _ hk')⟩⟩
      | _ => exact h9.elim
    | _ => rw [hk] at h1; exact h1.elim
  | index t x ix =>
    obtain ⟨ti, h1, h2⟩ := tiK_det h
    obtain ⟨v, h5, h6⟩ := evK_det h1
    obtain ⟨iv, h7, h8⟩ := evK_det h5
    obtain ⟨n, h9, h10⟩ := intK_det h7
    cases hk : ti.k with
    | arr m e =>
      rw [hk] at h9
      obtain ⟨te, k1, k2⟩ := tiK_det h9
      cases v with
      | agg cs =>
        obtain ⟨m1, m2, m3⟩ := k1
        obtain ⟨y, m4, m5⟩ := ldA_det (nk_out m3)
        refine ⟨y, m4, fun E K' hk' => h2 _ (h6 _ (h8 _ (h10 _ ?_)))⟩
        simp only [hk]
        exact k2 _ ⟨m1, m2, nk_in (m5 _ hk')⟩
      | _ => exact k1.elim
    | str =>
      rw [hk] at h9
      cases v with
      | d z => cases z with
        | s b =>
          obtain ⟨m1, c, m2, m3⟩ := h9
          refine ⟨_, m3, fun E K' hk' => h2 _ (h6 _ (h8 _ (h10 _ ?_)))⟩
          simp only [hk]
          exact ⟨m1, c, m2, hk'⟩
        | _ => exact h9.elim
      | _ => exact h9.elim
    | _ => rw [hk] at h9; exact h9.elim
  | extract x i =>
    obtain ⟨v, h1, h2⟩ := evK_det h
    cases v with
    | tup vs =>
      obtain ⟨l, h3, h4⟩ := dropK_det h1
      cases l with
      | nil => exact h3.elim
      | cons r rs => exact ⟨r, h3, fun E K' hk => h2 _ (h4 _ hk)⟩
    | _ => exact h1.elim
  | lookup t x ix ok =>
    obtain ⟨ti, h1, h2⟩ := tiK_det h
    cases hk : ti.k with
    | map kt e =>
      rw [hk] at h1
      obtain ⟨tk, h3, h4⟩ := tiK_det h1
      cases hk' : tk.k with
      | int kd =>
        rw [hk'] at h3
        obtain ⟨te, h5, h6⟩ := tiK_det h3
        obtain ⟨v, h7, h8⟩ := evK_det h5
        obtain ⟨iv, h9, h10⟩ := evK_det h7
        cases v with
        | mp ob =>
          obtain ⟨b, k1, k2⟩ := getO_ext h9
          cases b with
          | map kk es =>
            obtain ⟨n, k3, k4⟩ := keyK_det k1
            obtain ⟨r, k5, k6⟩ := k3
            obtain ⟨z, k7, k8⟩ := lkD_det k6
            refine ⟨z, k7, fun E K' hz => h2 _ ?_⟩
            simp only [hk]
            refine h4 _ ?_
            simp only [hk']
            exact h6 _ (h8 _ (h10 _ (k2 _ _ (k4 _ ⟨r, k5, k8 _ hz⟩))))
          | _ => exact k1.elim
        | _ => exact h9.elim
      | _ => rw [hk'] at h3; exact h3.elim
    | _ => rw [hk] at h1; exact h1.elim
  | call c =>
    simp only [isStill] at ho
    cases hc : c.callee with
    | builtin b =>
      rw [hc] at ho
      cases b with
      | len =>
        have e : ∀ (env : List A) (H : List Ob) (K : A → List Ob → Prop), opD P wb Θ (.call c) env H K = (match c.args.toList, c.argTypes.toList with
            | [x], [t] => tiK Θ t fun ti => evK env x fun v => lenD ti.k v H fun r => K r H
            | _, _ => False) := by
          intro env H K
          simp only [opD, hc]
          rfl
        rw [e] at h
        split at h
        · rename_i x t hx ht
          obtain ⟨ti, h1, h2⟩ := tiK_det h
          obtain ⟨v, h3, h4⟩ := evK_det h1
          obtain ⟨z, h5, h6⟩ := lenD_ext h3
          refine ⟨z, h5, fun E K' hk => ?_⟩
          rw [e]
          simp only [hx, ht]
          exact h2 _ (h4 _ (h6 _ _ hk))
        · exact h.elim
      | _ => cases ho
    | _ => rw [hc] at ho; cases ho
  | _ => cases ho
/-- operations that look at no object -/
def isPure : Op → Bool
  | .move _ => true
  | .assign _ => true
  | .pick .. => true
  | .unOp .. => true
  | .convert .. => true
  | .makeFunc (.func _) .. => true
  | .field .. => true
  | .extract .. => true
  | .build .. => true
  | _ => false
theorem pure_eq {P : Program} {wb : World} {Θ : List (Nat × TI)} {o : Op} (hp : isPure o = true) (env : List A) (H : List Ob) (K : A → List Ob → Prop) :
    opD P wb Θ o env H K = opD P wb Θ o env [] fun v _ => K v H := by
  cases o <;> first
    | rfl
    | (cases hp)
    | skip
  rename_i f _ _
  cases f <;> first
    | rfl
    | (cases hp)
theorem still_ext2 {P : Program} {wb : World} {Θ : List (Nat × TI)} {o : Op} (ho : isStill o = true) {env : List A} {H : List Ob} {K : A → List Ob → Prop} (h : opD P wb Θ o env H K) :
    ∃ x, K x H ∧ (∀ (E : List Ob) (K' : A → List Ob → Prop), K' x (H ++ E) → opD P wb Θ o env (H ++ E) K') ∧ (isPure o = true → ∀ (H' : List Ob) (K' : A → List Ob → Prop), K' x H' → opD P wb Θ o env H' K') := by
  by_cases hp : isPure o = true
  · rw [pure_eq hp] at h
    obtain ⟨x, h1, h2⟩ := still_ext ho h
    have h3 : ∀ (H' : List Ob) (K' : A → List Ob → Prop), K' x H' → opD P wb Θ o env H' K' := fun H' K' hk => by
      have := h2 H' K' (by simpa using hk)
      simpa using this
    exact ⟨x, h1, fun E K' hk => h3 _ K' hk, fun _ => h3⟩
  · obtain ⟨x, h1, h2⟩ := still_ext ho h
    exact ⟨x, h1, h2, fun h => absurd h hp⟩
end Go.DL
