/- An evaluator with truth values: the operations. -/
import Derived.Test.YtidjlmjibfbmjaaGreatDoorXa1
namespace Go.DL
namespace X
open Go.RowKit

theorem ba_loop (bs : ByteArray) : ∀ (n i : Nat) (r : List UInt8), bs.size - i = n → ByteArray.toList.loop bs i r = r.reverse ++ bs.data.toList.drop i := by
  intro n
  induction n with
  | zero =>
    intro i r h
    rw [ByteArray.toList.loop]
    have : ¬ i < bs.size := by omega
    rw [if_neg this, List.drop_eq_nil_of_le (by have : bs.data.toList.length = bs.size := rfl
                                                omega)]
    simp
  | succ n ih =>
    intro i r h
    rw [ByteArray.toList.loop]
    have hi : i < bs.size := by omega
    rw [if_pos hi, ih (i + 1) _ (by omega)]
    have hd : i < bs.data.toList.length := hi
    rw [List.drop_eq_getElem_cons hd]
    have : bs.get! i = bs.data.toList[i] := by
      show bs.data[i]! = _
      rw [getElem!_pos bs.data i hi]
      simp
    simp [this]
theorem ba_toList (bs : ByteArray) : bs.toList = bs.data.toList := by
  unfold ByteArray.toList
  rw [ba_loop bs _ 0 [] rfl]
  simp
noncomputable def eqBL : List UInt8 → List UInt8 → Bool
  | [], [] => true
  | x :: xs, y :: ys => match Nat.beq x.toNat y.toNat with
    | true => eqBL xs ys
    | false => false
  | _, _ => false
theorem eqBL_eq : ∀ a b : List UInt8, eqBL a b = (a == b)
  | [], [] => rfl
  | [], _ :: _ => rfl
  | _ :: _, [] => rfl
  | x :: xs, y :: ys => by
    simp only [eqBL]
    rw [eqBL_eq xs ys]
    cases h : Nat.beq x.toNat y.toNat with
    | true =>
      have : x = y := UInt8.toNat_inj.1 (Nat.eq_of_beq_eq_true h)
      subst this
      simp
    | false =>
      have : x ≠ y := by
        rintro rfl
        have := Nat.beq_refl x.toNat
        rw [this] at h
        cases h
      simp [this]

noncomputable def intX (op : BinOp) (k : IntKind) (a b : Int) (κ : A → Bool) : Bool :=
  match op with
  | .add => forceI (k.wrap (a + b)) fun c => κ (.d (.i k c))
  | .sub => forceI (k.wrap (a - b)) fun c => κ (.d (.i k c))
  | .mul => forceI (k.wrap (a * b)) fun c => κ (.d (.i k c))
  | .lss => forceB (leI b a) fun t => κ (.d (.b (!t)))
  | .leq => forceB (leI a b) fun t => κ (.d (.b t))
  | .gtr => forceB (leI a b) fun t => κ (.d (.b (!t)))
  | .geq => forceB (leI b a) fun t => κ (.d (.b t))
  | .eql => forceB (eqI a b) fun t => κ (.d (.b t))
  | .neq => forceB (eqI a b) fun t => κ (.d (.b (!t)))
  | _ => false
theorem not_leI (a b : Int) : (!leI a b) = decide (b < a) := by
  rw [leI_eq, ← decide_not]
  congr 1
  simp
theorem intX_out {κ : A → Bool} {K : A → Prop} (h : ∀ x, κ x = true → K x) {op : BinOp} {k : IntKind} {a b : Int} (e : intX op k a b κ = true) : intD op k a b K := by
  have q1 : (!decide (b ≤ a)) = decide (a < b) := by rw [← leI_eq, not_leI]
  have q2 : (!decide (a ≤ b)) = decide (b < a) := by rw [← leI_eq, not_leI]
  cases op <;> first
    | (simp [intX] at e; done)
    | (simp only [intX, forceI_eq] at e; exact ⟨_, rfl, h _ e⟩)
    | (simp only [intX, forceB_eq, leI_eq, eqI_eq, q1, q2] at e; exact h _ e)
noncomputable def eqX (op : BinOp) (t : Bool) (κ : A → Bool) : Bool :=
  match op with
  | .eql => κ (.d (.b t))
  | .neq => κ (.d (.b (!t)))
  | _ => false
theorem eqX_out {κ : A → Bool} {K : A → Prop} (h : ∀ x, κ x = true → K x) {op : BinOp} {t : Bool} (e : eqX op t κ = true) : eqK op t K := by
  cases op <;> first
    | (simp [eqX] at e; done)
    | exact h _ e
noncomputable def strX (op : BinOp) (a b : ByteArray) (κ : A → Bool) : Bool :=
  match op with
  | .add => (Nat.ble (a.data.toList.length + b.data.toList.length) maxLen).and (appX a.data.toList b.data.toList fun l => κ (.d (.s ⟨⟨l⟩⟩)))
  | .eql => forceB (eqBL a.data.toList b.data.toList) fun t => κ (.d (.b t))
  | .neq => forceB (eqBL a.data.toList b.data.toList) fun t => κ (.d (.b (!t)))
  | _ => false
theorem strX_out {κ : A → Bool} {K : A → Prop} (h : ∀ x, κ x = true → K x) {op : BinOp} {a b : ByteArray} (e : strX op a b κ = true) : strD op a b K := by
  cases op <;> first
    | (simp [strX] at e; done)
    | (simp only [strX, forceB_eq, eqBL_eq, ← ba_toList] at e; exact h _ e)
    | skip
  simp only [strX, Bool.and_eq_true, Nat.ble_eq, appX_eq] at e
  refine ⟨e.1, ?_⟩
  have := h _ e.2
  have h2 : (⟨⟨a.data.toList ++ b.data.toList⟩⟩ : ByteArray) = a ++ b := by
    apply ByteArray.ext
    apply Array.toList_inj.1
    simp
  rwa [h2] at this
noncomputable def sameX (j k : IntKind) (p : Bool) : Bool := match decide (j = k) with
  | true => p
  | false => false
theorem sameX_out {j k : IntKind} {p : Bool} {q : Prop} (h : p = true → q) (e : sameX j k p = true) : IntKind.same j k q := by
  unfold sameX at e
  unfold IntKind.same
  split at e
  · rename_i e1; rw [e1]; exact h e
  · cases e
noncomputable def beqB : Bool → Bool → Bool
  | true, b => b
  | false, true => false
  | false, false => true
theorem beqB_eq (a b : Bool) : beqB a b = (a == b) := by cases a <;> cases b <;> rfl
noncomputable def binX (Θ : List (Nat × TI)) (t : Nat) (op : BinOp) (x y : A) (H : List Ob) (κ : A → Bool) : Bool :=
  match x with
  | .d (.i k a) => match y with
    | .d (.i k' b) => sameX k k' (intX op k a b κ)
    | _ => false
  | .d (.b a) => match y with
    | .d (.b b) => tiX Θ t fun ti => match ti.k with
      | .bool => forceB (beqB a b) fun t => eqX op t κ
      | _ => false
    | _ => false
  | .d (.s a) => match y with
    | .d (.s b) => strX op a b κ
    | _ => false
  | .ptr o _ => match y with
    | .nilp => tiX Θ t fun ti => match ti.k with
      | .ptr _ => obX H o fun ob => match ob with
        | .box _ => eqX op false κ
        | _ => false
      | _ => false
    | _ => false
  | .nilp => match y with
    | .nilp => tiX Θ t fun ti => match ti.k with
      | .ptr _ => eqX op true κ
      | _ => false
    | _ => false
  | _ => false
theorem binX_out {κ : A → Bool} {K : A → Prop} (h : ∀ x, κ x = true → K x) {Θ : List (Nat × TI)} {t : Nat} {op : BinOp} {x y : A} {H : List Ob} (e : binX Θ t op x y H κ = true) : binD Θ t op x y H K := by
  unfold binX at e
  unfold binD
  split at e
  · split at e
    · exact sameX_out (fun e => intX_out h e) e
    · cases e
  · split at e
    · refine tiX_out (fun ti e => ?_) e
      split at e
      · rename_i hk
        simp only [hk]
        rw [forceB_eq, beqB_eq] at e
        exact eqX_out h e
      · cases e
    · cases e
  · split at e
    · exact strX_out h e
    · cases e
  · split at e
    · refine tiX_out (fun ti e => ?_) e
      split at e
      · rename_i hk
        simp only [hk]
        refine obX_out (fun ob e => ?_) e
        split at e
        · exact eqX_out h e
        · cases e
      · cases e
    · cases e
  · split at e
    · refine tiX_out (fun ti e => ?_) e
      split at e
      · rename_i hk
        simp only [hk]
        exact eqX_out h e
      · cases e
    · cases e
  · cases e

noncomputable def nilX (op : BinOp) (x : A) (H : List Ob) (κ : A → Bool) : Bool :=
  match x with
  | .d (.sl (_ :: _)) => eqX op false κ
  | .d (.sl []) => (eqX op false κ).and (eqX op true κ)
  | .es => (eqX op false κ).and (eqX op true κ)
  | .vs o g off => obX H o fun ob => match ob with
    | .vec g' _ els => (Nat.beq g g').and (lenX els 0 fun n => match Nat.beq n off with
      | true => (eqX op false κ).and (eqX op true κ)
      | false => eqX op false κ)
    | _ => false
  | _ => false
theorem nilX_out {κ : A → Bool} {K : A → Prop} (h : ∀ x, κ x = true → K x) {op : BinOp} {x : A} {H : List Ob} (e : nilX op x H κ = true) : nilD op x H K := by
  have two : (eqX op false κ).and (eqX op true κ) = true → ∀ t : Bool, eqK op t K := by
    intro e t
    rw [Bool.and_eq_true] at e
    cases t
    · exact eqX_out h e.1
    · exact eqX_out h e.2
  unfold nilX at e
  unfold nilD
  split at e
  · intro t ht
    cases t with
    | false => exact eqX_out h e
    | true => cases ht rfl
  · exact fun t _ => two e t
  · exact two e
  · refine obX_out (fun ob e => ?_) e
    split at e
    · simp only [Bool.and_eq_true, Nat.beq_eq, lenX_eq] at e
      refine ⟨e.1, fun t ht => ?_⟩
      have e2 := e.2
      split at e2
      · exact two e2 t
      · rename_i hb
        cases t with
        | false => exact eqX_out h e2
        | true =>
          have := ht rfl
          simp only [Nat.zero_add] at hb
          rw [this, Nat.beq_refl] at hb
          cases hb
    · cases e
  · cases e

noncomputable def lnX (k : TK) (x : A) (H : List Ob) (κ : A → Bool) : Bool :=
  match k with
  | .slice _ => (match x with
    | .d (.sl els) => lenX els 0 fun n => κ (.d (.i .i64 (.ofNat n)))
    | .es => κ (.d (.i .i64 (.ofNat 0)))
    | .vs o g off => obX H o fun ob => match ob with
      | .vec g' _ els => (Nat.beq g g').and (match off with
        | 0 => lenX els 0 fun n => κ (.d (.i .i64 (.ofNat n)))
        | m + 1 => lenX els 0 fun n => force (n - (m + 1)) fun n => κ (.d (.i .i64 (.ofNat n))))
      | _ => false
    | _ => false)
  | .str => (match x with
    | .d (.s b) => lenX b.data.toList 0 fun n => κ (.d (.i .i64 (.ofNat n)))
    | _ => false)
  | .map _ _ => (match x with
    | .mp o => obX H o fun ob => match ob with
      | .map _ es => lenX es 0 fun n => (Nat.ble n maxLen).and (κ (.d (.i .i64 (.ofNat n))))
      | _ => false
    | .nilm => κ (.d (.i .i64 (.ofNat 0)))
    | _ => false)
  | _ => false
theorem lnX_out {κ : A → Bool} {K : A → Prop} (h : ∀ x, κ x = true → K x) {k : TK} {x : A} {H : List Ob} (e : lnX k x H κ = true) : lenD k x H K := by
  unfold lnX at e
  unfold lenD
  split at e
  · split at e
    · rw [lenX_eq, Nat.zero_add] at e
      exact h _ e
    · exact h _ e
    · refine obX_out (fun ob e => ?_) e
      split at e
      · simp only [Bool.and_eq_true, Nat.beq_eq] at e
        refine ⟨e.1, ?_⟩
        have e2 := e.2
        split at e2
        · rw [lenX_eq, Nat.zero_add] at e2
          exact h _ e2
        · rw [lenX_eq, Nat.zero_add, force_eq] at e2
          exact h _ e2
      · cases e
    · cases e
  · split at e
    · rw [lenX_eq, Nat.zero_add] at e
      exact h _ e
    · cases e
  · split at e
    · refine obX_out (fun ob e => ?_) e
      split at e
      · rw [lenX_eq, Nat.zero_add, Bool.and_eq_true, Nat.ble_eq] at e
        exact ⟨e.1, h _ e.2⟩
      · cases e
    · exact h _ e
    · cases e
  · cases e

noncomputable def intgX (x : A) (κ : Int → Bool) : Bool := match x with
  | .d (.i _ n) => κ n
  | _ => false
theorem intgX_out {κ : Int → Bool} {K : Int → Prop} (h : ∀ x, κ x = true → K x) {x : A} (e : intgX x κ = true) : intK x K := by
  unfold intgX at e
  unfold intK
  split at e
  · exact h _ e
  · cases e
noncomputable def mapRows : List (List D) → (List (List A) → Bool) → Bool
  | [], κ => κ []
  | r :: rs, κ => mapDX r fun x => mapRows rs fun xs => κ (x :: xs)
theorem mapRows_eq : ∀ (l : List (List D)) (κ : List (List A) → Bool), mapRows l κ = κ (l.map mapD)
  | [], _ => rfl
  | r :: rs, κ => by rw [mapRows, mapDX_eq, mapRows_eq rs]; rfl
noncomputable def rowsX (y : A) (H : List Ob) (κ : List (List A) → Bool) : Bool :=
  match y with
  | .d yd => (match yd with
    | .sl ys => mapRows ys κ
    | _ => false)
  | .es => κ []
  | .vs o g off => obX H o fun ob => match ob with
    | .vec g' _ els => (Nat.beq g g').and (dropNX off els κ)
    | _ => false
  | _ => false
theorem rowsX_out {κ : List (List A) → Bool} {K : List (List A) → Prop} (h : ∀ x, κ x = true → K x) {y : A} {H : List Ob} (e : rowsX y H κ = true) : rowsK y H K := by
  unfold rowsX at e
  unfold rowsK
  split at e
  · split at e
    · rw [mapRows_eq] at e
      exact h _ e
    · cases e
  · exact h _ e
  · refine obX_out (fun ob e => ?_) e
    split at e
    · simp only [Bool.and_eq_true, Nat.beq_eq] at e
      exact ⟨e.1, h _ (dropNX_out e.2)⟩
    · cases e
  · cases e
/-- rows of n cells; their count comes out -/
noncomputable def rowsOf (n : Nat) : List (List A) → Nat → (Nat → Bool) → Bool
  | [], m, κ => κ m
  | r :: rs, m, κ => lenIsX r n (rowsOf n rs (Nat.succ m) κ)
theorem lenIsX_eq {α : Type} : ∀ {l : List α} {n : Nat} {p : Bool}, lenIsX l n p = true → l.length = n ∧ p = true
  | [], 0, _, e => ⟨rfl, e⟩
  | _ :: xs, n + 1, _, e => by
    obtain ⟨h1, h2⟩ := lenIsX_eq (l := xs) (n := n) e
    exact ⟨by simp [h1], h2⟩
  | [], _ + 1, _, e => by simp [lenIsX] at e
  | _ :: _, 0, _, e => by simp [lenIsX] at e
theorem rowsOf_eq (n : Nat) : ∀ (l : List (List A)) (m : Nat) (κ : Nat → Bool), rowsOf n l m κ = true → (∀ r ∈ l, r.length = n) ∧ κ (m + l.length) = true
  | [], _, _, e => ⟨by simp, e⟩
  | r :: rs, m, κ, e => by
    obtain ⟨h1, h2⟩ := lenIsX_eq e
    obtain ⟨h3, h4⟩ := rowsOf_eq n rs _ κ h2
    refine ⟨?_, ?_⟩
    · intro x hx
      rcases List.mem_cons.1 hx with rfl | hx
      · exact h1
      · exact h3 _ hx
    · have : m + (r :: rs).length = Nat.succ m + rs.length := by simp only [List.length_cons]; omega
      rw [this]
      exact h4
noncomputable def apX (ti : TI) (x y : A) (H : List Ob) (κ : A → List Ob → Bool) : Bool :=
  rowsX y H fun ys => rowsOf ti.size ys 0 fun ny => match x with
    | .es => (Nat.ble (ny * ti.bytes) 140737488355328).and (lenX H 0 fun n => snocX H (.vec 0 ti.size ys) fun H2 => κ (.vs n 0 0) H2)
    | .vs o g off => obX H o fun ob => match ob with
      | .vec g' es els => (Nat.beq g g').and ((Nat.beq es ti.size).and (dropNX off els fun els => lenX els ny fun n => (Nat.ble (n * ti.bytes) 140737488355328).and
          (appX els ys fun r => setX H o (.vec (Nat.succ g) es r) fun H2 => κ (.vs o (Nat.succ g) 0) H2)))
      | _ => false
    | _ => false
theorem apX_out {κ : A → List Ob → Bool} {K : A → List Ob → Prop} (h : ∀ x H, κ x H = true → K x H) {ti : TI} {x y : A} {H : List Ob} (e : apX ti x y H κ = true) : appD ti x y H K := by
  refine rowsX_out (fun ys e => ?_) e
  obtain ⟨h1, e⟩ := rowsOf_eq _ _ _ _ e
  rw [Nat.zero_add] at e
  split at e
  · simp only [Bool.and_eq_true, Nat.ble_eq, lenX_eq, snocX_eq] at e
    exact ⟨h1, e.1, lenK_in (snocK_in (h _ _ e.2))⟩
  · refine obX_out (fun ob e => ?_) e
    split at e
    · simp only [Bool.and_eq_true, Nat.beq_eq] at e
      obtain ⟨e1, e2, e3⟩ := e
      have e3 := dropNX_out e3
      simp only [lenX_eq, Bool.and_eq_true, Nat.ble_eq, appX_eq, setX_eq] at e3
      refine ⟨e1, e2, h1, ?_, setK_in (h _ _ e3.2)⟩
      have := e3.1
      rwa [Nat.add_comm] at this
    · cases e
  · cases e

noncomputable def mapGetX : List (Int × A) → Int → (Option A → Bool) → Bool
  | [], _, κ => κ none
  | e :: es, k, κ => match eqI e.1 k with
    | true => κ (some e.2)
    | false => mapGetX es k κ
theorem mapGetX_eq : ∀ (es : List (Int × A)) (k : Int) (κ : Option A → Bool), mapGetX es k κ = κ (mapGet es k)
  | [], _, _ => rfl
  | e :: es, k, κ => by
    simp only [mapGetX, mapGet, List.find?_cons]
    rw [mapGetX_eq es k κ, eqI_eq]
    by_cases h : e.1 = k
    · simp [h]
    · have h2 : (e.1 == k) = false := by simpa using h
      simp [h, h2, mapGet]
noncomputable def mapPutX : List (Int × A) → Int → A → (List (Int × A) → Bool) → Bool
  | [], k, v, κ => κ [(k, v)]
  | e :: es, k, v, κ => match eqI e.1 k with
    | true => κ ((k, v) :: es)
    | false => mapPutX es k v fun r => κ (e :: r)
theorem mapPutX_eq : ∀ (es : List (Int × A)) (k : Int) (v : A) (κ : List (Int × A) → Bool), mapPutX es k v κ = κ (mapPut es k v)
  | [], _, _, _ => rfl
  | e :: es, k, v, κ => by
    simp only [mapPutX, mapPut]
    rw [mapPutX_eq es, eqI_eq]
    by_cases h : e.1 = k <;> simp [h]
noncomputable def mapDelX : List (Int × A) → Int → (List (Int × A) → Bool) → Bool
  | [], _, κ => κ []
  | e :: es, k, κ => match eqI e.1 k with
    | true => κ es
    | false => mapDelX es k fun r => κ (e :: r)
theorem mapDelX_eq : ∀ (es : List (Int × A)) (k : Int) (κ : List (Int × A) → Bool), mapDelX es k κ = κ (mapDel es k)
  | [], _, _ => rfl
  | e :: es, k, κ => by
    simp only [mapDelX, mapDel]
    rw [mapDelX_eq es, eqI_eq]
    by_cases h : e.1 = k <;> simp [h]
noncomputable def keyX (kk : IntKind) (x : A) (κ : Int → Bool) : Bool := match x with
  | .d (.i k n) => sameX k kk (κ n)
  | _ => false
theorem keyX_out {κ : Int → Bool} {K : Int → Prop} (h : ∀ x, κ x = true → K x) {kk : IntKind} {x : A} (e : keyX kk x κ = true) : keyK kk x K := by
  unfold keyX at e
  unfold keyK
  split at e
  · exact sameX_out (h _) e
  · cases e
noncomputable def lkX (te : TI) (ok : Bool) (r : Option A) (κ : A → Bool) : Bool :=
  match r with
  | some y => (match ok with
    | true => κ (.tup [y, .d (.b true)])
    | false => κ y)
  | none => (match te.k.agg with
    | true => (match ok with
      | true => κ (.tup [.agg te.zero, .d (.b false)])
      | false => κ (.agg te.zero))
    | false => (match te.zero with
      | [z] => (match ok with
        | true => κ (.tup [z, .d (.b false)])
        | false => κ z)
      | _ => false))
theorem lkX_out {κ : A → Bool} {K : A → Prop} (h : ∀ x, κ x = true → K x) {te : TI} {ok : Bool} {r : Option A} (e : lkX te ok r κ = true) : lkD te ok r K := by
  unfold lkX at e
  unfold lkD
  cases r with
  | some y => cases ok <;> exact h _ e
  | none =>
    cases hk : te.k.agg with
    | true =>
      rw [hk] at e
      cases ok <;> exact h _ e
    | false =>
      rw [hk] at e
      cases hz : te.zero with
      | nil => rw [hz] at e; cases e
      | cons z r =>
        rw [hz] at e
        cases r with
        | nil => cases ok <;> exact h _ e
        | cons _ _ => cases e
noncomputable def repX {α : Type} (xs : List α) : Nat → (List α → Bool) → Bool
  | 0, κ => κ []
  | n + 1, κ => repX xs n fun r => appX xs r κ
theorem appX_out {α : Type} {κ : List α → Bool} {K : List α → Prop} : ∀ {xs ys : List α}, (∀ x, κ x = true → K x) → appX xs ys κ = true → appK xs ys K
  | [], _, h, e => h _ e
  | x :: xs, ys, h, e => appX_out (xs := xs) (κ := fun r => κ (x :: r)) (fun _ e' => h _ e') e
theorem repX_out {α : Type} {xs : List α} : ∀ {n : Nat} {κ : List α → Bool} {K : List α → Prop}, (∀ x, κ x = true → K x) → repX xs n κ = true → repA xs n K
  | 0, _, _, h, e => h _ e
  | n + 1, _, _, h, e => repX_out (n := n) (fun _ e' => appX_out h e') e
noncomputable def fillX (env : List A) (place : Nat → (Nat → Nat → Bool) → Bool) : List (Nat × Operand) → List A → (List A → Bool) → Bool
  | [], cs, κ => κ cs
  | p :: ps, cs, κ => evX env p.2 fun v => cellsX v fun vc => place p.1 fun off size => lenIsX vc size (wrX cs off vc fun cs' => fillX env place ps cs' κ)
theorem fillX_out {env : List A} {place : Nat → (Nat → Nat → Bool) → Bool} {place' : Nat → (Nat → Nat → Prop) → Prop}
    (hp : ∀ n κ (K : Nat → Nat → Prop), (∀ a b, κ a b = true → K a b) → place n κ = true → place' n K) : ∀ {ps : List (Nat × Operand)} {cs : List A} {κ : List A → Bool} {K : List A → Prop}, (∀ x, κ x = true → K x) →
    fillX env place ps cs κ = true → fillK env place' ps cs K
  | [], _, _, _, h, e => h _ e
  | _ :: ps, _, _, _, h, e => evX_out (fun _ e => cellsX_out (fun _ e => hp _ _ _ (fun _ _ e => lenIsX_out (fun e => wrX_out (fun _ e => fillX_out hp (ps := ps) h e) e) e) e) e) e
noncomputable def chunkX (n : Nat) : Nat → List A → (List (List A) → Bool) → Bool
  | 0, l, κ => match l with
    | [] => κ []
    | _ :: _ => false
  | m + 1, l, κ => takeX l n fun r => dropX l n fun rest => chunkX n m rest fun rs => κ (r :: rs)
theorem chunkX_out {n : Nat} : ∀ {m : Nat} {l : List A} {κ : List (List A) → Bool} {K : List (List A) → Prop}, (∀ x, κ x = true → K x) → chunkX n m l κ = true → chunkK n m l K
  | 0, [], _, _, h, e => h _ e
  | 0, _ :: _, _, _, _, e => by cases e
  | m + 1, _, _, _, h, e => takeX_out (fun _ e => dropX_out (fun _ e => chunkX_out (m := m) (fun _ e => h _ e) e) e) e
noncomputable def fieldX (fs : List (Nat × Nat)) (f : Nat) (κ : Nat → Nat → Bool) : Bool :=
  match fs, f with
  | [], _ => false
  | x :: _, 0 => κ x.1 x.2
  | _ :: xs, n + 1 => fieldX xs n κ
theorem fieldX_out {κ : Nat → Nat → Bool} {K : Nat → Nat → Prop} (h : ∀ x y, κ x y = true → K x y) : ∀ {fs : List (Nat × Nat)} {f : Nat}, fieldX fs f κ = true → fieldK fs f K
  | _ :: _, 0, e => by
    simp only [fieldX] at e
    exact h _ _ e
  | _ :: xs, n + 1, e => by
    simp only [fieldX] at e
    exact fieldX_out h (fs := xs) (f := n) e

noncomputable def optX (env : List A) (x : Option Operand) (κ : Option Int → Bool) : Bool :=
  match x with
  | none => κ none
  | some y => evX env y fun v => intgX v fun n => κ (some n)
theorem optX_out {κ : Option Int → Bool} {K : Option Int → Prop} (h : ∀ x, κ x = true → K x) {env : List A} {x : Option Operand} (e : optX env x κ = true) : optK env x K := by
  cases x with
  | none => exact h _ e
  | some y => exact evX_out (fun _ e => intgX_out (fun _ e => h _ e) e) e
end X
end Go.DL
