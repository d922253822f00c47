/- What is asked of the rest is asked somewhere. -/
import Derived.Test.YtidjlmjibfbmjaaGreatDoorXa3
namespace Go.DL
namespace X
open Go.RowKit
def exCall : Op → Bool
  | .call c => match c.callee with
    | .value _ => true
    | _ => false
  | _ => false
theorem allOne_ex : ∀ {l : List A} {p : Prop}, allOne l p → p
  | [], _, h => h
  | x :: xs, p, h => by
    simp only [allOne] at h
    split at h
    · exact allOne_ex h
    · exact h.elim
theorem appK_ex {α : Type} : ∀ {xs ys : List α} {K : List α → Prop}, appK xs ys K → ∃ r, K r
  | [], _, _, h => ⟨_, h⟩
  | x :: xs, ys, K, h => by
    obtain ⟨r, h⟩ := appK_ex (xs := xs) (K := fun r => K (x :: r)) h
    exact ⟨_, h⟩
theorem repA_ex {α : Type} {xs : List α} : ∀ {n : Nat} {K : List α → Prop}, repA xs n K → ∃ r, K r
  | 0, _, h => ⟨_, h⟩
  | n + 1, K, h => by
    obtain ⟨r, h⟩ := repA_ex (n := n) h
    exact appK_ex h
theorem takeK_ex {α : Type} {l : List α} {n : Nat} {K : List α → Prop} (h : takeK l n K) : ∃ r, K r := ⟨_, (takeK_out _ _ _ h).2⟩
theorem dropK_ex {α : Type} {l : List α} {n : Nat} {K : List α → Prop} (h : dropK l n K) : ∃ r, K r := ⟨_, (dropK_out _ _ _ h).2⟩
theorem chunkK_ex {n : Nat} : ∀ {m : Nat} {l : List A} {K : List (List A) → Prop}, chunkK n m l K → ∃ r, K r
  | 0, [], _, h => ⟨_, h⟩
  | 0, _ :: _, _, h => h.elim
  | m + 1, l, K, h => by
    obtain ⟨r, h⟩ := takeK_ex h
    obtain ⟨r', h⟩ := dropK_ex h
    obtain ⟨r'', h⟩ := chunkK_ex (m := m) h
    exact ⟨_, h⟩
theorem rowsK_ex {y : A} {H : List Ob} {K : List (List A) → Prop} (h : rowsK y H K) : ∃ r, K r := by
  unfold rowsK at h
  split at h
  · split at h
    · exact ⟨_, h⟩
    · exact h.elim
  · exact ⟨_, h⟩
  · obtain ⟨ob, _, h⟩ := getO_out _ _ _ h
    split at h
    · exact ⟨_, h.2⟩
    · exact h.elim
  · exact h.elim
theorem loud_ex {P : Program} {wb : World} {Θ : List (Nat × TI)} {o : Op} (hx : exCall o = false) {env : List A} {H : List Ob} {K : A → List Ob → Prop} (h : opD P wb Θ o env H K) : ∃ x H', K x H' := by
  by_cases hs : isStill o = true
  · obtain ⟨x, h, _⟩ := still_ext hs h
    exact ⟨x, H, h⟩
  cases o <;> first
    | (exact absurd rfl hs)
    | (exact h.elim)
    | skip
  case alloc =>
    obtain ⟨ti, h, _⟩ := tiK_det h
    exact ⟨_, _, snocK_out _ _ _ (lenK_out _ _ _ h)⟩
  case box =>
    obtain ⟨v, h, _⟩ := evK_det h
    obtain ⟨cs, h, _⟩ := cellsK_det h
    exact ⟨_, _, snocK_out _ _ _ (lenK_out _ _ _ h)⟩
  case buildSlice t n parts =>
    obtain ⟨ti, h, _⟩ := tiK_det h
    split at h
    · obtain ⟨te, h, _⟩ := tiK_det h
      split at h
      · split at h
        · split at h
          · exact ⟨_, _, h⟩
          · exact h.elim
        · obtain ⟨r, h⟩ := repA_ex h
          obtain ⟨cs, h, _⟩ := fillK_det (place := fun i K => nk (i * te.size) fun off => K off te.size) (fun n K h => ⟨n * te.size, te.size, nk_out (K := fun off => K off te.size) h, fun K' k => nk_in (K := fun off => K' off te.size) k⟩) h
          obtain ⟨rows, h⟩ := chunkK_ex (allOne_ex h)
          exact ⟨_, _, snocK_out _ _ _ (lenK_out _ _ _ h)⟩
      · exact h.elim
    · exact h.elim
  case store =>
    obtain ⟨ti, h, _⟩ := tiK_det h
    obtain ⟨p, h, _⟩ := evK_det h
    obtain ⟨v, h, _⟩ := evK_det h
    obtain ⟨vc, h, _⟩ := cellsK_det h
    obtain ⟨_, h⟩ := lenIs_out _ _ _ h
    split at h
    · obtain ⟨ob, _, h⟩ := getO_out _ _ _ (allOne_ex h)
      split at h
      · obtain ⟨cs', h, _⟩ := wrK_det h
        exact ⟨_, _, setK_out _ _ _ _ h⟩
      · exact h.elim
    · obtain ⟨ob, _, h⟩ := getO_out _ _ _ (allOne_ex h)
      split at h
      · obtain ⟨_, h⟩ := h
        split at h
        · exact ⟨_, _, setK_out _ _ _ _ h⟩
        · obtain ⟨row, _, h⟩ := h
          obtain ⟨cs', h, _⟩ := wrK_det h
          exact ⟨_, _, setK_out _ _ _ _ h⟩
      · exact h.elim
    · exact h.elim
  case binOp op t x y t' =>
    obtain ⟨a, h, _⟩ := evK_det h
    split at h
    · obtain ⟨ti, h, _⟩ := tiK_det h
      split at h
      · unfold nilD at h
        split at h
        · obtain ⟨z, h, _⟩ := eqK_det (h false (by simp))
          exact ⟨_, _, h⟩
        · obtain ⟨z, h, _⟩ := eqK_det (h false)
          exact ⟨_, _, h⟩
        · obtain ⟨ob, _, h⟩ := getO_out _ _ _ h
          split at h
          · obtain ⟨z, h, _⟩ := eqK_det (h.2 false (by simp))
            exact ⟨_, _, h⟩
          · exact h.elim
        · exact h.elim
      · exact h.elim
    · obtain ⟨b, h, _⟩ := evK_det h
      obtain ⟨z, h, _⟩ := binD_ext h
      exact ⟨_, _, h⟩
  case makeFunc fn fs cs =>
    cases fn with
    | func f => exact absurd rfl hs
    | _ => exact h.elim
  case makeMap t r =>
    cases r with
    | none =>
      obtain ⟨ti, h, _⟩ := tiK_det h
      split at h
      · obtain ⟨tk, h, _⟩ := tiK_det h
        split at h
        · exact ⟨_, _, snocK_out _ _ _ (lenK_out _ _ _ h)⟩
        · exact h.elim
      · exact h.elim
    | some r => exact h.elim
  case makeSlice =>
    obtain ⟨ti, h, _⟩ := tiK_det h
    split at h
    · obtain ⟨te, h, _⟩ := tiK_det h
      obtain ⟨lv, h, _⟩ := evK_det h
      obtain ⟨ln, h, _⟩ := intK_det h
      obtain ⟨cv, h, _⟩ := evK_det h
      obtain ⟨cn, h, _⟩ := intK_det h
      obtain ⟨m, k, _, _, _, _, _, _, h⟩ := allOne_ex h
      exact ⟨_, _, snocK_out _ _ _ (lenK_out _ _ _ h)⟩
    · exact h.elim
  case slice =>
    obtain ⟨ti, h, _⟩ := tiK_det h
    obtain ⟨v, h, _⟩ := evK_det h
    have ox : ∀ {x : Option Operand} {K : Option Int → Prop}, optK env x K → ∃ n, K n := by
      intro x K h
      cases x with
      | none => exact ⟨_, h⟩
      | some y =>
        obtain ⟨v, h, _⟩ := evK_det h
        obtain ⟨n, h, _⟩ := intK_det h
        exact ⟨_, h⟩
    obtain ⟨l, h⟩ := ox h
    obtain ⟨hi, h⟩ := ox h
    obtain ⟨mx, h⟩ := ox h
    split at h
    · obtain ⟨te, h, _⟩ := tiK_det h
      unfold slD at h
      split at h
      · split at h
        · split at h
          · exact ⟨_, _, h.2.2⟩
          · exact ⟨_, _, h.2.2.2⟩
          · exact h.elim
        · split at h
          · exact ⟨_, _, h.2.2⟩
          · exact ⟨_, _, h.2.2.2⟩
          · exact h.elim
        · exact h.elim
      · split at h
        · split at h
          · exact ⟨_, _, h⟩
          · exact ⟨_, _, h.2.2.2⟩
          · exact ⟨_, _, h.2.2⟩
          · exact ⟨_, _, h.2.2.2.2⟩
        · split at h
          · exact ⟨_, _, h⟩
          · exact ⟨_, _, h.2⟩
          · exact ⟨_, _, h.2⟩
          · exact ⟨_, _, h.2.2⟩
        · obtain ⟨ob, _, h⟩ := getO_out _ _ _ h
          split at h
          · obtain ⟨_, _, h⟩ := h
            split at h
            · exact ⟨_, _, h⟩
            · obtain ⟨_, m, _, _, h⟩ := h
              exact ⟨_, _, h⟩
            · obtain ⟨_, m, _, _, h⟩ := h
              exact ⟨_, _, setK_out _ _ _ _ h⟩
            · exact h.elim
          · exact h.elim
        · exact h.elim
    · unfold stD at h
      split at h
      · exact h.elim
      · split at h
        · split at h
          · exact ⟨_, _, h⟩
          · exact ⟨_, _, h.2.2⟩
          · exact ⟨_, _, h.2.2⟩
          · exact ⟨_, _, h.2.2.2⟩
        · exact h.elim
    · exact h.elim
  case mapUpdate =>
    obtain ⟨ti, h, _⟩ := tiK_det h
    split at h
    · obtain ⟨tk, h, _⟩ := tiK_det h
      split at h
      · obtain ⟨v, h, _⟩ := evK_det h
        obtain ⟨kv, h, _⟩ := evK_det h
        obtain ⟨yv, h, _⟩ := evK_det h
        split at h
        · obtain ⟨ob, _, h⟩ := getO_out _ _ _ h
          split at h
          · obtain ⟨k, h, _⟩ := keyK_det h
            exact ⟨_, _, setK_out _ _ _ _ h⟩
          · exact h.elim
        · exact h.elim
      · exact h.elim
    · exact h.elim
  case call c =>
    simp only [opD] at h
    split at h
    · rename_i hc
      exact absurd (by simp [isStill, hc]) hs
    · split at h
      · split at h
        · obtain ⟨ti, h, _⟩ := tiK_det h
          split at h
          · obtain ⟨te, h, _⟩ := tiK_det h
            split at h
            · obtain ⟨a, h, _⟩ := evK_det h
              obtain ⟨b, h, _⟩ := evK_det h
              obtain ⟨ys, h⟩ := rowsK_ex h
              split at h
              · exact ⟨_, _, snocK_out _ _ _ (lenK_out _ _ _ h.2.2)⟩
              · obtain ⟨ob, _, h⟩ := getO_out _ _ _ h
                split at h
                · exact ⟨_, _, setK_out _ _ _ _ h.2.2.2.2⟩
                · exact h.elim
              · exact h.elim
            · exact h.elim
          · exact h.elim
        · exact h.elim
      · exact h.elim
    · split at h
      · obtain ⟨ti, h, _⟩ := tiK_det h
        split at h
        · obtain ⟨tk, h, _⟩ := tiK_det h
          split at h
          · obtain ⟨v, h, _⟩ := evK_det h
            obtain ⟨kv, h, _⟩ := evK_det h
            split at h
            · obtain ⟨ob, _, h⟩ := getO_out _ _ _ h
              split at h
              · obtain ⟨k, h, _⟩ := keyK_det h
                exact ⟨_, _, setK_out _ _ _ _ h⟩
              · exact h.elim
            · exact h.elim
          · exact h.elim
        · exact h.elim
      · exact h.elim
    · split at h
      · obtain ⟨ti, h, _⟩ := tiK_det h
        split at h
        · obtain ⟨te, h, _⟩ := tiK_det h
          obtain ⟨v, h, _⟩ := evK_det h
          split at h
          · exact ⟨_, _, h⟩
          · obtain ⟨ob, _, h⟩ := getO_out _ _ _ (allOne_ex h)
            split at h
            · exact ⟨_, _, setK_out _ _ _ _ h.2.2⟩
            · exact h.elim
          · exact h.elim
        · exact h.elim
      · exact h.elim
    · rename_i f hc
      simp [exCall, hc] at hx
    · exact h.elim
def CallsEx (call : CX) : Prop := ∀ g ys H κ, call g ys H κ = true → ∃ r H', κ r H' = true
theorem evX_ex {env : List A} {x : Operand} {κ : A → Bool} (e : evX env x κ = true) : ∃ v, κ v = true := by
  obtain ⟨y, h, _⟩ := evK_det (evX_out (K := fun v => κ v = true) (fun _ h => h) e)
  exact ⟨y, h⟩
theorem evsX_ex {env : List A} {x : List Operand} {κ : List A → Bool} (e : evsX env x κ = true) : ∃ v, κ v = true := by
  obtain ⟨y, h, _⟩ := evsK_det (evsX_out (K := fun v => κ v = true) (fun _ h => h) e)
  exact ⟨y, h⟩
theorem tiX_ex {Θ : List (Nat × TI)} {t : Nat} {κ : TI → Bool} (e : tiX Θ t κ = true) : ∃ v, κ v = true := by
  obtain ⟨y, h, _⟩ := tiK_det (tiX_out (K := fun v => κ v = true) (fun _ h => h) e)
  exact ⟨y, h⟩
theorem getX_ex {env : List A} {n : Nat} {κ : A → Bool} (e : getX env n κ = true) : ∃ v, κ v = true := by
  obtain ⟨y, h, _⟩ := getK_det (getX_out (K := fun v => κ v = true) (fun _ h => h) e)
  exact ⟨y, h⟩
theorem obX_ex {H : List Ob} {n : Nat} {κ : Ob → Bool} (e : obX H n κ = true) : ∃ v, κ v = true := by
  obtain ⟨y, _, h⟩ := getO_out _ _ _ (obX_out (K := fun v => κ v = true) (fun _ h => h) e)
  exact ⟨y, h⟩
theorem ldAX_ex {ti : TI} {cs : List A} {off : Nat} {κ : A → Bool} (e : ldAX ti cs off κ = true) : ∃ v, κ v = true := by
  obtain ⟨y, h, _⟩ := ldA_det (ldAX_out (K := fun v => κ v = true) (fun _ h => h) e)
  exact ⟨y, h⟩
theorem opX_ex {call : CX} (hx : CallsEx call) {P : Program} {wb : World} (hc : ∀ g ys H κ, call g ys H κ = true → CallOk P wb g ys H fun r H' => κ r H' = true) {Θ : List (Nat × TI)} {o : Op} {env : List A} {H : List Ob} {κ : A → List Ob → Bool}
    (e : opX call Θ o env H κ = true) : ∃ v H', κ v H' = true := by
  by_cases ho : exCall o = true
  · cases o with
    | call c =>
      simp only [exCall] at ho
      split at ho
      · rename_i f hf
        simp only [opX, hf] at e
        obtain ⟨fv, e⟩ := evX_ex e
        obtain ⟨xs, e⟩ := evsX_ex e
        split at e
        · rw [appX_eq, appX_eq] at e
          exact hx _ _ _ _ e
        · cases e
      · cases ho
    | _ => cases ho
  · exact loud_ex (by simpa using ho) (opX_out (K := fun v H => κ v H = true) hc (fun _ _ h => h) e)
end X
end Go.DL
